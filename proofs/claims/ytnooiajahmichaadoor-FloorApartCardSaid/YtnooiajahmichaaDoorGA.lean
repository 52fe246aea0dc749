/- Printed by gen.py: plain functions, and that the Go code computes them. -/
import Derived.Test.YtnooiajahmichaaDoorYI
import Derived.Test.YtnooiajahmichaaDoorXT
import Derived.Test.YtnooiajahmichaaDoorXI
import Derived.Test.YtnooiajahmichaaDoorGAp0
namespace Go.Proofs.YtnooiajahmichaaDoor.X
open Go Go.RowKit
set_option linter.unusedVariables false
set_option linter.unusedSimpArgs false

def P_maskmake_Stream_ports_2_L3 (s0 : T_maskmake_Stream) (l_2 : List T_floor_Port) (r0_3 : (Int × Int)) : (Int × Int × Int × List T_floor_Port) → Option ((Int × Int × Int × List T_floor_Port) ⊕ (Int × List T_floor_Port)) := fun (k8_L3h, y23_L3h, b_s0_1_L3h, b_f1_11_L3h) =>
  if y23_L3h < (l_2.length : Int) then
    ck (inb y23_L3h l_2.length) <|
    lv (gt l_2 y23_L3h) fun y4_1 =>
    ar (r0_3.1 + r0_3.2) fun x29 =>
    ar ((2 : Int) * x29) fun x30 =>
    bd (
      if k8_L3h < r0_3.1 then
        some (k8_L3h, y4_1.Y)
      else
        ar (r0_3.1 + r0_3.2) fun x47 =>
        bd (
          if k8_L3h < x47 then
            ar (r0_3.1 - 1) fun x50 =>
            ar (k8_L3h - r0_3.1) fun x53 =>
            some (x50, x53)
          else
            ar ((2 : Int) * r0_3.1) fun x59 =>
            ar (x59 + r0_3.2) fun x61 =>
            bd (
              if k8_L3h < x61 then
                ar ((2 : Int) * r0_3.1) fun x64 =>
                ar (x64 + r0_3.2) fun x66 =>
                ar (x66 - 1) fun x67 =>
                ar (x67 - k8_L3h) fun x69 =>
                ar (r0_3.2 - 1) fun x71 =>
                some (x69, x71)
              else
                ar (x30 - 1) fun x32 =>
                ar (x32 - k8_L3h) fun x34 =>
                lv (max (0 : Int) x34) fun x35 =>
                some (y4_1.X, x35)) fun (b10_2_c56, b10_3_c56) =>
            some (b10_2_c56, b10_3_c56)) fun (b10_2_c43, b10_3_c43) =>
        some (b10_2_c43, b10_3_c43)) fun (b10_2_c37, b10_3_c37) =>
    lv (b_f1_11_L3h ++ [(T_floor_Port.mk y4_1.Name y4_1.Out b10_2_c37 b10_3_c37)]) fun z13_7 =>
    ck (apOk 40 z13_7.length) <|
    ar ((l_2.length : Int) + 1) fun x89 =>
    ck (x89 ≠ 0) <|
    ar (Int.tdiv x30 x89) fun x90 =>
    ar (x90 - 5) fun x91 =>
    lv (max (1 : Int) x91) fun x92 =>
    bd (P_maskmake_Stream_Next (T_maskmake_Stream.mk s0.L b_s0_1_L3h) x92) fun r14_9 =>
    ar ((4 : Int) + r14_9.1) fun x94 =>
    ar (k8_L3h + x94) fun x95 =>
    ar (y23_L3h + 1) fun x96 =>
    some (Sum.inl (x95, x96, r14_9.2, z13_7))
  else
    some (Sum.inr (b_s0_1_L3h, b_f1_11_L3h))
def P_maskmake_Stream_ports_2 (s0 : T_maskmake_Stream) (f1 : T_legal_Chip) (l_2 : List T_floor_Port) : Option (Int × List T_floor_Port) :=
  bd (P_floor_Size (T_floor_Floor.mk f1.Floor.Rows f1.Floor.Sites f1.Floor.Layers f1.Floor.Blocks f1.Floor.Walls f1.Floor.Ports)) fun r0_3 =>
  bd (P_maskmake_Stream_Next s0 3) fun r1_1 =>
  bd (
    lp (P_maskmake_Stream_ports_2_L3 s0 l_2 r0_3) fuel (r1_1.1, 0, r1_1.2, f1.Floor.Ports)) fun (b_s0_1_L3, b_f1_11_L3) =>
  some (b_s0_1_L3, b_f1_11_L3)
set_option maxHeartbeats 4000000 in
set_option maxRecDepth 100000 in
theorem c_maskmake_Stream_ports_2 {w0 w : World} {l : List Assn} {ρ : Heap} {b_s0 : Nat} {A_s0_0 : Option Addr} {n_s0_0 : Nat} {c_s0_0 : Nat} {b_f1 : Nat} {A_f1_0 : Option Addr} {n_f1_0 : Nat} {c_f1_0 : Nat} {A_f1_1 : Option Addr} {n_f1_1 : Nat} {c_f1_1 : Nat} {A_f1_2 : Option Addr} {n_f1_2 : Nat} {c_f1_2 : Nat} {A_f1_3 : Option Addr} {n_f1_3 : Nat} {c_f1_3 : Nat} {A_f1_4 : Option Addr} {n_f1_4 : Nat} {c_f1_4 : Nat} {A_f1_5 : Option Addr} {n_f1_5 : Nat} {c_f1_5 : Nat} {A_f1_9 : Option Addr} {n_f1_9 : Nat} {c_f1_9 : Nat} {A_f1_10 : Option Addr} {n_f1_10 : Nat} {c_f1_10 : Nat} {A_f1_11 : Option Addr} {n_f1_11 : Nat} {c_f1_11 : Nat} {cs_f1_11 : List Value} {A_f1_13 : Option Addr} {n_f1_13 : Nat} {c_f1_13 : Nat} {cs_f1_13 : List Value} {A_f1_14 : Option Addr} {n_f1_14 : Nat} {c_f1_14 : Nat} {cs_f1_14 : List Value} {A_f1_15 : Option Addr} {n_f1_15 : Nat} {c_f1_15 : Nat} {cs_f1_15 : List Value} {A_l_2 : Option Addr} {n_l_2 : Nat} {c_l_2 : Nat} {s0 : T_maskmake_Stream} {f1 : T_legal_Chip} {l_2 : List T_floor_Port} {r : (Int × List T_floor_Port)} (hF : P_maskmake_Stream_ports_2 s0 f1 l_2 = some r) (h_s0_0 : RdS (RpI .i64) ρ A_s0_0 n_s0_0 c_s0_0 s0.L) (h_f1_0 : RdS RpS ρ A_f1_0 n_f1_0 c_f1_0 f1.Net.In) (h_f1_1 : RdS RpS ρ A_f1_1 n_f1_1 c_f1_1 f1.Net.Out) (h_f1_2 : RdS R_api_Flop ρ A_f1_2 n_f1_2 c_f1_2 f1.Net.Flops) (h_f1_3 : RdS R_api_Gate ρ A_f1_3 n_f1_3 c_f1_3 f1.Net.Gates) (h_f1_4 : RdS (RpI .i64) ρ A_f1_4 n_f1_4 c_f1_4 f1.Net.Outs) (h_f1_5 : RdS R_api_Cell ρ A_f1_5 n_f1_5 c_f1_5 f1.Lib) (h_f1_9 : RdS R_floor_Block ρ A_f1_9 n_f1_9 c_f1_9 f1.Floor.Blocks) (h_f1_10 : RdS R_floor_Wall ρ A_f1_10 n_f1_10 c_f1_10 f1.Floor.Walls) (h_f1_11 : RepL R_floor_Port ρ f1.Floor.Ports cs_f1_11) (h_f1_13 : RepL (RpI .i64) ρ f1.Tree.Up cs_f1_13) (h_f1_14 : RepL (RpI .i64) ρ f1.Tree.Leaf cs_f1_14) (h_f1_15 : RepL R_floor_Site ρ f1.Sites cs_f1_15) (h_l_2 : RdS R_floor_Port ρ A_l_2 n_l_2 c_l_2 l_2) (hS : St w0 w (cells b_s0 25 [.slice A_s0_0 n_s0_0 c_s0_0, .int .i64 s0.fat] :: cells b_f1 43 [.slice A_f1_0 n_f1_0 c_f1_0, .slice A_f1_1 n_f1_1 c_f1_1, .slice A_f1_2 n_f1_2 c_f1_2, .slice A_f1_3 n_f1_3 c_f1_3, .slice A_f1_4 n_f1_4 c_f1_4, .slice A_f1_5 n_f1_5 c_f1_5, .int .i64 f1.Floor.Rows, .int .i64 f1.Floor.Sites, .int .i64 f1.Floor.Layers, .slice A_f1_9 n_f1_9 c_f1_9, .slice A_f1_10 n_f1_10 c_f1_10, .slice A_f1_11 n_f1_11 c_f1_11, .int .i64 f1.Tree.Cell, .slice A_f1_13 n_f1_13 c_f1_13, .slice A_f1_14 n_f1_14 c_f1_14, .slice A_f1_15 n_f1_15 c_f1_15] :: vec 66 R_floor_Port.sz (.slice A_f1_11 n_f1_11 c_f1_11) n_f1_11 cs_f1_11 :: vec 3 (RpI .i64).sz (.slice A_f1_13 n_f1_13 c_f1_13) n_f1_13 cs_f1_13 :: vec 3 (RpI .i64).sz (.slice A_f1_14 n_f1_14 c_f1_14) n_f1_14 cs_f1_14 :: vec 56 R_floor_Site.sz (.slice A_f1_15 n_f1_15 c_f1_15) n_f1_15 cs_f1_15 :: ro ρ :: l)) :
    Calls Tryd.prog 13 #[.pointer (some ⟨b_s0, 0, none⟩), .pointer (some ⟨b_f1, 6, none⟩), .slice A_l_2 n_l_2 c_l_2] w fun e w' => ∃ (A_b_f1_11_ret : Option Addr) (n_b_f1_11_ret : Nat) (c_b_f1_11_ret : Nat) (cs_b_f1_11_ret : List Value), e = .returned (.tuple #[]) ∧ RepL R_floor_Port ρ r.2 cs_b_f1_11_ret ∧ St w0 w' (cells b_s0 25 [.slice A_s0_0 n_s0_0 c_s0_0, .int .i64 r.1] :: cells b_f1 43 [.slice A_f1_0 n_f1_0 c_f1_0, .slice A_f1_1 n_f1_1 c_f1_1, .slice A_f1_2 n_f1_2 c_f1_2, .slice A_f1_3 n_f1_3 c_f1_3, .slice A_f1_4 n_f1_4 c_f1_4, .slice A_f1_5 n_f1_5 c_f1_5, .int .i64 f1.Floor.Rows, .int .i64 f1.Floor.Sites, .int .i64 f1.Floor.Layers, .slice A_f1_9 n_f1_9 c_f1_9, .slice A_f1_10 n_f1_10 c_f1_10, .slice A_b_f1_11_ret n_b_f1_11_ret c_b_f1_11_ret, .int .i64 f1.Tree.Cell, .slice A_f1_13 n_f1_13 c_f1_13, .slice A_f1_14 n_f1_14 c_f1_14, .slice A_f1_15 n_f1_15 c_f1_15] :: vec 3 (RpI .i64).sz (.slice A_f1_13 n_f1_13 c_f1_13) n_f1_13 cs_f1_13 :: vec 3 (RpI .i64).sz (.slice A_f1_14 n_f1_14 c_f1_14) n_f1_14 cs_f1_14 :: vec 56 R_floor_Site.sz (.slice A_f1_15 n_f1_15 c_f1_15) n_f1_15 cs_f1_15 :: vec 66 R_floor_Port.sz (.slice A_b_f1_11_ret n_b_f1_11_ret c_b_f1_11_ret) n_b_f1_11_ret cs_b_f1_11_ret :: ro ρ :: l) := by
  obtain rfl := h_s0_0.n
  obtain rfl := h_f1_0.n
  obtain rfl := h_f1_1.n
  obtain rfl := h_f1_2.n
  obtain rfl := h_f1_3.n
  obtain rfl := h_f1_4.n
  obtain rfl := h_f1_5.n
  obtain rfl := h_f1_9.n
  obtain rfl := h_f1_10.n
  obtain rfl := St.vec_n (hS.pull 2) h_f1_11
  obtain rfl := St.vec_n (hS.pull 3) h_f1_13
  obtain rfl := St.vec_n (hS.pull 4) h_f1_14
  obtain rfl := St.vec_n (hS.pull 5) h_f1_15
  obtain rfl := h_l_2.n
  refine enterC Tryd.func13 rfl 97 rfl (by simp) ?_
  obtain ⟨r0_3, hc0_3, hF⟩ := bd_s hF
  refine x_seq <| x_region <| p (yl_move rfl) <| p (yl_nilCheck rfl) <|
    pa (v := .agg #[.int .i64 f1.Floor.Rows, .int .i64 f1.Floor.Sites, .int .i64 f1.Floor.Layers, .slice A_f1_9 f1.Floor.Blocks.length c_f1_9, .slice A_f1_10 f1.Floor.Walls.length c_f1_10, .slice A_f1_11 f1.Floor.Ports.length c_f1_11]) (ld_sub agg_38 rfl rfl rfl (hS.pull 1)) <|
    ?_
  obtain ⟨ρl0, hll0, hlf0, hS0, back0⟩ := St.lend ((hS.pull 6).pull 3) h_f1_11
  have hcall := c_floor_Size hc0_3 (h_f1_9.le hll0) (h_f1_10.le hll0) hlf0 hS0
  refine o_cc call_14 (args1 rfl) ((Calls.mono hcall (fun e w'' h => And.intro h.1 ((((((((back0 h.2).pull 1).pull 6).pull 6).pull 6).pull 4).pull 6).pull 6)))) ?_
  rintro e w' ⟨rfl, hS⟩
  refine ⟨_, rfl, ?_⟩
  obtain ⟨r1_1, hc1_1, hF⟩ := bd_s hF
  refine p (v := .tuple #[.int .i64 r0_3.1, .int .i64 r0_3.2]) (yl_move rfl) <| p (yl_extract rfl rfl) <| p (yl_extract rfl rfl) <| p (yl_assign rfl) <|
    p (yl_assign rfl) <| x_done <| x_seq <| x_region <|
    p (yl_move rfl) <|
    ?_
  have hcall := c_maskmake_Stream_Next hc1_1 h_s0_0 ((hS.pull 6).pull 1)
  refine o_cc call_11 (args2 rfl rfl) hcall ?_
  rintro e w' ⟨rfl, hS⟩
  refine ⟨_, rfl, ?_⟩
  refine p (yl_assign rfl) <| x_done <| x_seq <| x_region <|
    p (yl_move rfl) <| p (yl_len_slice usl_36 rfl) <| p (yl_move rfl) <| x_done <|
    ?_
  obtain ⟨oL3, hLL3, hF⟩ := bd_s hF
  refine x_join (fun E w => ∃ (A_b_f1_11_L3 : Option Addr) (n_b_f1_11_L3 : Nat) (c_b_f1_11_L3 : Nat) (cs_b_f1_11_L3 : List Value) (b_s0_1_L3 : Int) (b_f1_11_L3 : List T_floor_Port), (b_s0_1_L3, b_f1_11_L3) = oL3 ∧ RepL R_floor_Port ρ b_f1_11_L3 cs_b_f1_11_L3 ∧ St w0 w (cells b_s0 25 [.slice A_s0_0 s0.L.length c_s0_0, .int .i64 b_s0_1_L3] :: cells b_f1 43 [.slice A_f1_0 f1.Net.In.length c_f1_0, .slice A_f1_1 f1.Net.Out.length c_f1_1, .slice A_f1_2 f1.Net.Flops.length c_f1_2, .slice A_f1_3 f1.Net.Gates.length c_f1_3, .slice A_f1_4 f1.Net.Outs.length c_f1_4, .slice A_f1_5 f1.Lib.length c_f1_5, .int .i64 f1.Floor.Rows, .int .i64 f1.Floor.Sites, .int .i64 f1.Floor.Layers, .slice A_f1_9 f1.Floor.Blocks.length c_f1_9, .slice A_f1_10 f1.Floor.Walls.length c_f1_10, .slice A_b_f1_11_L3 n_b_f1_11_L3 c_b_f1_11_L3, .int .i64 f1.Tree.Cell, .slice A_f1_13 f1.Tree.Up.length c_f1_13, .slice A_f1_14 f1.Tree.Leaf.length c_f1_14, .slice A_f1_15 f1.Sites.length c_f1_15] :: vec 3 (RpI .i64).sz (.slice A_f1_13 f1.Tree.Up.length c_f1_13) f1.Tree.Up.length cs_f1_13 :: vec 3 (RpI .i64).sz (.slice A_f1_14 f1.Tree.Leaf.length c_f1_14) f1.Tree.Leaf.length cs_f1_14 :: vec 56 R_floor_Site.sz (.slice A_f1_15 f1.Sites.length c_f1_15) f1.Sites.length cs_f1_15 :: vec 66 R_floor_Port.sz (.slice A_b_f1_11_L3 n_b_f1_11_L3 c_b_f1_11_L3) n_b_f1_11_L3 cs_b_f1_11_L3 :: ro ρ :: l)) ?_ ?_
  · skip -- L3
    refine x_block ?_
    refine x_loop (fun k_ E w => ∃ (A_b_f1_11_L3h : Option Addr) (n_b_f1_11_L3h : Nat) (c_b_f1_11_L3h : Nat) (cs_b_f1_11_L3h : List Value) (k8_L3h : Int) (y23_L3h : Int) (b_s0_1_L3h : Int) (b_f1_11_L3h : List T_floor_Port), lp (P_maskmake_Stream_ports_2_L3 s0 l_2 r0_3) k_ (k8_L3h, y23_L3h, b_s0_1_L3h, b_f1_11_L3h) = some oL3 ∧ E 0 = .pointer (some ⟨b_s0, 0, none⟩) ∧ E 1 = .pointer (some ⟨b_f1, 6, none⟩) ∧ E 2 = .slice A_l_2 l_2.length c_l_2 ∧ E 6 = .int .i64 r0_3.1 ∧ E 7 = .int .i64 r0_3.2 ∧ E 8 = .int .i64 k8_L3h ∧ E 21 = .slice A_l_2 l_2.length c_l_2 ∧ E 22 = .int .i64 (l_2.length : Int) ∧ E 23 = .int .i64 y23_L3h ∧ RepL R_floor_Port ρ b_f1_11_L3h cs_b_f1_11_L3h ∧ St w0 w (cells b_s0 25 [.slice A_s0_0 s0.L.length c_s0_0, .int .i64 b_s0_1_L3h] :: cells b_f1 43 [.slice A_f1_0 f1.Net.In.length c_f1_0, .slice A_f1_1 f1.Net.Out.length c_f1_1, .slice A_f1_2 f1.Net.Flops.length c_f1_2, .slice A_f1_3 f1.Net.Gates.length c_f1_3, .slice A_f1_4 f1.Net.Outs.length c_f1_4, .slice A_f1_5 f1.Lib.length c_f1_5, .int .i64 f1.Floor.Rows, .int .i64 f1.Floor.Sites, .int .i64 f1.Floor.Layers, .slice A_f1_9 f1.Floor.Blocks.length c_f1_9, .slice A_f1_10 f1.Floor.Walls.length c_f1_10, .slice A_b_f1_11_L3h n_b_f1_11_L3h c_b_f1_11_L3h, .int .i64 f1.Tree.Cell, .slice A_f1_13 f1.Tree.Up.length c_f1_13, .slice A_f1_14 f1.Tree.Leaf.length c_f1_14, .slice A_f1_15 f1.Sites.length c_f1_15] :: vec 3 (RpI .i64).sz (.slice A_f1_13 f1.Tree.Up.length c_f1_13) f1.Tree.Up.length cs_f1_13 :: vec 3 (RpI .i64).sz (.slice A_f1_14 f1.Tree.Leaf.length c_f1_14) f1.Tree.Leaf.length cs_f1_14 :: vec 56 R_floor_Site.sz (.slice A_f1_15 f1.Sites.length c_f1_15) f1.Sites.length cs_f1_15 :: vec 66 R_floor_Port.sz (.slice A_b_f1_11_L3h n_b_f1_11_L3h c_b_f1_11_L3h) n_b_f1_11_L3h cs_b_f1_11_L3h :: ro ρ :: l)) fuel ⟨A_f1_11, f1.Floor.Ports.length, c_f1_11, cs_f1_11, r1_1.1, 0, r1_1.2, f1.Floor.Ports, hLL3, rfl, rfl, rfl, rfl, rfl, rfl, rfl, rfl, rfl, h_f1_11, (((((((hS.pull 1).pull 3).pull 6).pull 6).pull 6).pull 6).pull 6)⟩ ?_
    rintro kL3 E w ⟨A_b_f1_11_L3h, n_b_f1_11_L3h, c_b_f1_11_L3h, cs_b_f1_11_L3h, k8_L3h, y23_L3h, b_s0_1_L3h, b_f1_11_L3h, hLL3, eL3h_0, eL3h_1, eL3h_2, eL3h_6, eL3h_7, eL3h_8, eL3h_21, eL3h_22, eL3h_23, h_b_f1_11_L3h, hS⟩
    obtain rfl := St.vec_n (hS.pull 5) h_b_f1_11_L3h
    obtain ⟨kL3, obL3, rfl, hFL3, hLL3⟩ := lp_s hLL3
    refine x_seq <| x_region <| p (yl_lss eL3h_23 eL3h_22) <| x_done <|
      x_seq <|
      x_cond_p (y23_L3h < (l_2.length : Int)) rfl (fun hc24 => ?_) (fun hc24 => ?_)
    · replace hFL3 := it_t hc24 hFL3
      obtain ⟨hk4_0, hFL3⟩ := ck_s hFL3
      obtain ⟨y4_1, hy4_1, hFL3⟩ := lv_s hFL3
      obtain ⟨el4_1, ek4_1, ee4_1⟩ := h_l_2.get hk4_0
      rw [← hy4_1] at ek4_1
      obtain rfl := ek4_1
      refine x_skip <| x_seq <| x_block <| x_seq <|
        x_region <| p (yix_f sl_36 eL3h_21 eL3h_23 h_l_2 hk4_0) <| pa (v := .agg #[.string y4_1.Name, .bool y4_1.Out, .int .i64 y4_1.X, .int .i64 y4_1.Y]) (at_loadAgg agg_66 rfl rfl (Elt.every ee4_1 (hS.pull 6))) <|
        ?_
      refine o_alloc zero_66 hS (fun b10 w' hS => ?_)
      refine o_storeAgg (news := [.string y4_1.Name, .bool y4_1.Out, .int .i64 y4_1.X, .int .i64 y4_1.Y]) agg_66 rfl rfl rfl (by simp [over_length]) hS (fun w' hS => ?_)
      obtain ⟨x29, hx29, hFL3⟩ := ar_s hFL3
      obtain ⟨x30, hx30, hFL3⟩ := ar_s hFL3
      refine x_done <| x_seq <| x_region <| p (yl_move eL3h_6) <|
        p (yl_move eL3h_7) <| p (yadd rfl rfl hx29) <| p (ymul rfl rfl hx30) <| p (yl_assign rfl) <|
        x_done <| x_seq <| x_block <| x_seq <|
        x_region <| p (yl_move eL3h_8) <| p (yl_move eL3h_6) <| p (yl_lss rfl rfl) <|
        p (yl_assign rfl) <| x_done <|
        ?_
      obtain ⟨oc37, hFc37, hFL3⟩ := bd_s hFL3
      refine x_join (fun E w => ∃ (b10_2_c37 : Int) (b10_3_c37 : Int), (b10_2_c37, b10_3_c37) = oc37 ∧ E 0 = .pointer (some ⟨b_s0, 0, none⟩) ∧ E 1 = .pointer (some ⟨b_f1, 6, none⟩) ∧ E 2 = .slice A_l_2 l_2.length c_l_2 ∧ E 6 = .int .i64 r0_3.1 ∧ E 7 = .int .i64 r0_3.2 ∧ E 8 = .int .i64 k8_L3h ∧ E 10 = .pointer (some ⟨b10, 0, none⟩) ∧ E 11 = .int .i64 x30 ∧ E 21 = .slice A_l_2 l_2.length c_l_2 ∧ E 22 = .int .i64 (l_2.length : Int) ∧ E 23 = .int .i64 y23_L3h ∧ St w0 w (cells b_s0 25 [.slice A_s0_0 s0.L.length c_s0_0, .int .i64 b_s0_1_L3h] :: cells b_f1 43 [.slice A_f1_0 f1.Net.In.length c_f1_0, .slice A_f1_1 f1.Net.Out.length c_f1_1, .slice A_f1_2 f1.Net.Flops.length c_f1_2, .slice A_f1_3 f1.Net.Gates.length c_f1_3, .slice A_f1_4 f1.Net.Outs.length c_f1_4, .slice A_f1_5 f1.Lib.length c_f1_5, .int .i64 f1.Floor.Rows, .int .i64 f1.Floor.Sites, .int .i64 f1.Floor.Layers, .slice A_f1_9 f1.Floor.Blocks.length c_f1_9, .slice A_f1_10 f1.Floor.Walls.length c_f1_10, .slice A_b_f1_11_L3h b_f1_11_L3h.length c_b_f1_11_L3h, .int .i64 f1.Tree.Cell, .slice A_f1_13 f1.Tree.Up.length c_f1_13, .slice A_f1_14 f1.Tree.Leaf.length c_f1_14, .slice A_f1_15 f1.Sites.length c_f1_15] :: cells b10 66 [.string y4_1.Name, .bool y4_1.Out, .int .i64 b10_2_c37, .int .i64 b10_3_c37] :: vec 3 (RpI .i64).sz (.slice A_f1_13 f1.Tree.Up.length c_f1_13) f1.Tree.Up.length cs_f1_13 :: vec 3 (RpI .i64).sz (.slice A_f1_14 f1.Tree.Leaf.length c_f1_14) f1.Tree.Leaf.length cs_f1_14 :: vec 56 R_floor_Site.sz (.slice A_f1_15 f1.Sites.length c_f1_15) f1.Sites.length cs_f1_15 :: vec 66 R_floor_Port.sz (.slice A_b_f1_11_L3h b_f1_11_L3h.length c_b_f1_11_L3h) b_f1_11_L3h.length cs_b_f1_11_L3h :: ro ρ :: l)) ?_ ?_
      · skip -- c37
        refine x_cond_p (k8_L3h < r0_3.1) rfl (fun hc37 => ?_) (fun hc37 => ?_)
        · replace hFc37 := it_t hc37 hFc37
          refine x_region <| p (yl_move eL3h_8) <| p (yl_field0 fld_66_2 rfl) <|
            ?_
          refine o_store1 (v := .int .i64 k8_L3h) one_3 rfl rfl rfl rfl hS (fun w' hS => ?_)
          refine x_done <|
            ?_
          exact x_inv ⟨k8_L3h, y4_1.Y, (Option.some.inj (show some _ = some _ from hFc37)), eL3h_0, eL3h_1, eL3h_2, eL3h_6, eL3h_7, eL3h_8, rfl, rfl, eL3h_21, eL3h_22, eL3h_23, ((((((((hS.pull 7).pull 7).pull 7).pull 7).pull 7).pull 5).pull 7).pull 7)⟩
        · replace hFc37 := it_f hc37 hFc37
          obtain ⟨x47, hx47, hFc37⟩ := ar_s hFc37
          refine x_seq <| x_region <| p (yl_move eL3h_8) <| p (yl_move eL3h_6) <|
            p (yl_move eL3h_7) <| p (yadd rfl rfl hx47) <| p (yl_lss rfl rfl) <| p (yl_assign rfl) <|
            x_done <|
            ?_
          obtain ⟨oc43, hFc43, hFc37⟩ := bd_s hFc37
          refine x_join (fun E w => ∃ (b10_2_c43 : Int) (b10_3_c43 : Int), (b10_2_c43, b10_3_c43) = oc43 ∧ E 0 = .pointer (some ⟨b_s0, 0, none⟩) ∧ E 1 = .pointer (some ⟨b_f1, 6, none⟩) ∧ E 2 = .slice A_l_2 l_2.length c_l_2 ∧ E 6 = .int .i64 r0_3.1 ∧ E 7 = .int .i64 r0_3.2 ∧ E 8 = .int .i64 k8_L3h ∧ E 10 = .pointer (some ⟨b10, 0, none⟩) ∧ E 11 = .int .i64 x30 ∧ E 21 = .slice A_l_2 l_2.length c_l_2 ∧ E 22 = .int .i64 (l_2.length : Int) ∧ E 23 = .int .i64 y23_L3h ∧ St w0 w (cells b_s0 25 [.slice A_s0_0 s0.L.length c_s0_0, .int .i64 b_s0_1_L3h] :: cells b_f1 43 [.slice A_f1_0 f1.Net.In.length c_f1_0, .slice A_f1_1 f1.Net.Out.length c_f1_1, .slice A_f1_2 f1.Net.Flops.length c_f1_2, .slice A_f1_3 f1.Net.Gates.length c_f1_3, .slice A_f1_4 f1.Net.Outs.length c_f1_4, .slice A_f1_5 f1.Lib.length c_f1_5, .int .i64 f1.Floor.Rows, .int .i64 f1.Floor.Sites, .int .i64 f1.Floor.Layers, .slice A_f1_9 f1.Floor.Blocks.length c_f1_9, .slice A_f1_10 f1.Floor.Walls.length c_f1_10, .slice A_b_f1_11_L3h b_f1_11_L3h.length c_b_f1_11_L3h, .int .i64 f1.Tree.Cell, .slice A_f1_13 f1.Tree.Up.length c_f1_13, .slice A_f1_14 f1.Tree.Leaf.length c_f1_14, .slice A_f1_15 f1.Sites.length c_f1_15] :: cells b10 66 [.string y4_1.Name, .bool y4_1.Out, .int .i64 b10_2_c43, .int .i64 b10_3_c43] :: vec 3 (RpI .i64).sz (.slice A_f1_13 f1.Tree.Up.length c_f1_13) f1.Tree.Up.length cs_f1_13 :: vec 3 (RpI .i64).sz (.slice A_f1_14 f1.Tree.Leaf.length c_f1_14) f1.Tree.Leaf.length cs_f1_14 :: vec 56 R_floor_Site.sz (.slice A_f1_15 f1.Sites.length c_f1_15) f1.Sites.length cs_f1_15 :: vec 66 R_floor_Port.sz (.slice A_b_f1_11_L3h b_f1_11_L3h.length c_b_f1_11_L3h) b_f1_11_L3h.length cs_b_f1_11_L3h :: ro ρ :: l)) ?_ ?_
          · skip -- c43
            refine x_cond_p (k8_L3h < x47) rfl (fun hc43 => ?_) (fun hc43 => ?_)
            · replace hFc43 := it_t hc43 hFc43
              obtain ⟨x50, hx50, hFc43⟩ := ar_s hFc43
              obtain ⟨x53, hx53, hFc43⟩ := ar_s hFc43
              refine x_region <| p (yl_move eL3h_6) <| p (ysub rfl rfl hx50) <| p (yl_move eL3h_8) <|
                p (yl_move eL3h_6) <| p (ysub rfl rfl hx53) <| p (yl_field0 fld_66_2 rfl) <|
                ?_
              refine o_store1 (v := .int .i64 x50) one_3 rfl rfl rfl rfl hS (fun w' hS => ?_)
              refine p (yl_field0 fld_66_3 rfl) <|
                ?_
              refine o_store1 (v := .int .i64 x53) one_3 rfl rfl rfl rfl hS (fun w' hS => ?_)
              refine x_done <|
                ?_
              exact x_inv ⟨x50, x53, (Option.some.inj (show some _ = some _ from hFc43)), eL3h_0, eL3h_1, eL3h_2, eL3h_6, eL3h_7, eL3h_8, rfl, rfl, eL3h_21, eL3h_22, eL3h_23, ((((((((hS.pull 7).pull 7).pull 7).pull 7).pull 7).pull 5).pull 7).pull 7)⟩
            · replace hFc43 := it_f hc43 hFc43
              obtain ⟨x59, hx59, hFc43⟩ := ar_s hFc43
              obtain ⟨x61, hx61, hFc43⟩ := ar_s hFc43
              refine x_seq <| x_region <| p (yl_move eL3h_8) <| p (yl_move eL3h_6) <|
                p (ymul rfl rfl hx59) <| p (yl_move eL3h_7) <| p (yadd rfl rfl hx61) <| p (yl_lss rfl rfl) <|
                p (yl_assign rfl) <| x_done <|
                ?_
              obtain ⟨oc56, hFc56, hFc43⟩ := bd_s hFc43
              refine x_join (fun E w => ∃ (b10_2_c56 : Int) (b10_3_c56 : Int), (b10_2_c56, b10_3_c56) = oc56 ∧ E 0 = .pointer (some ⟨b_s0, 0, none⟩) ∧ E 1 = .pointer (some ⟨b_f1, 6, none⟩) ∧ E 2 = .slice A_l_2 l_2.length c_l_2 ∧ E 6 = .int .i64 r0_3.1 ∧ E 7 = .int .i64 r0_3.2 ∧ E 8 = .int .i64 k8_L3h ∧ E 10 = .pointer (some ⟨b10, 0, none⟩) ∧ E 11 = .int .i64 x30 ∧ E 21 = .slice A_l_2 l_2.length c_l_2 ∧ E 22 = .int .i64 (l_2.length : Int) ∧ E 23 = .int .i64 y23_L3h ∧ St w0 w (cells b_s0 25 [.slice A_s0_0 s0.L.length c_s0_0, .int .i64 b_s0_1_L3h] :: cells b_f1 43 [.slice A_f1_0 f1.Net.In.length c_f1_0, .slice A_f1_1 f1.Net.Out.length c_f1_1, .slice A_f1_2 f1.Net.Flops.length c_f1_2, .slice A_f1_3 f1.Net.Gates.length c_f1_3, .slice A_f1_4 f1.Net.Outs.length c_f1_4, .slice A_f1_5 f1.Lib.length c_f1_5, .int .i64 f1.Floor.Rows, .int .i64 f1.Floor.Sites, .int .i64 f1.Floor.Layers, .slice A_f1_9 f1.Floor.Blocks.length c_f1_9, .slice A_f1_10 f1.Floor.Walls.length c_f1_10, .slice A_b_f1_11_L3h b_f1_11_L3h.length c_b_f1_11_L3h, .int .i64 f1.Tree.Cell, .slice A_f1_13 f1.Tree.Up.length c_f1_13, .slice A_f1_14 f1.Tree.Leaf.length c_f1_14, .slice A_f1_15 f1.Sites.length c_f1_15] :: cells b10 66 [.string y4_1.Name, .bool y4_1.Out, .int .i64 b10_2_c56, .int .i64 b10_3_c56] :: vec 3 (RpI .i64).sz (.slice A_f1_13 f1.Tree.Up.length c_f1_13) f1.Tree.Up.length cs_f1_13 :: vec 3 (RpI .i64).sz (.slice A_f1_14 f1.Tree.Leaf.length c_f1_14) f1.Tree.Leaf.length cs_f1_14 :: vec 56 R_floor_Site.sz (.slice A_f1_15 f1.Sites.length c_f1_15) f1.Sites.length cs_f1_15 :: vec 66 R_floor_Port.sz (.slice A_b_f1_11_L3h b_f1_11_L3h.length c_b_f1_11_L3h) b_f1_11_L3h.length cs_b_f1_11_L3h :: ro ρ :: l)) ?_ ?_
              · skip -- c56
                refine x_cond_p (k8_L3h < x61) rfl (fun hc56 => ?_) (fun hc56 => ?_)
                · replace hFc56 := it_t hc56 hFc56
                  obtain ⟨x64, hx64, hFc56⟩ := ar_s hFc56
                  obtain ⟨x66, hx66, hFc56⟩ := ar_s hFc56
                  obtain ⟨x67, hx67, hFc56⟩ := ar_s hFc56
                  obtain ⟨x69, hx69, hFc56⟩ := ar_s hFc56
                  obtain ⟨x71, hx71, hFc56⟩ := ar_s hFc56
                  refine x_region <| p (yl_move eL3h_6) <| p (ymul rfl rfl hx64) <| p (yl_move eL3h_7) <|
                    p (yadd rfl rfl hx66) <| p (ysub rfl rfl hx67) <| p (yl_move eL3h_8) <| p (ysub rfl rfl hx69) <|
                    p (yl_move eL3h_7) <| p (ysub rfl rfl hx71) <| p (yl_field0 fld_66_2 rfl) <|
                    ?_
                  refine o_store1 (v := .int .i64 x69) one_3 rfl rfl rfl rfl hS (fun w' hS => ?_)
                  refine p (yl_field0 fld_66_3 rfl) <|
                    ?_
                  refine o_store1 (v := .int .i64 x71) one_3 rfl rfl rfl rfl hS (fun w' hS => ?_)
                  refine x_done <|
                    ?_
                  exact x_inv ⟨x69, x71, (Option.some.inj (show some _ = some _ from hFc56)), eL3h_0, eL3h_1, eL3h_2, eL3h_6, eL3h_7, eL3h_8, rfl, rfl, eL3h_21, eL3h_22, eL3h_23, ((((((((hS.pull 7).pull 7).pull 7).pull 7).pull 7).pull 5).pull 7).pull 7)⟩
                · replace hFc56 := it_f hc56 hFc56
                  obtain ⟨x32, hx32, hFc56⟩ := ar_s hFc56
                  obtain ⟨x34, hx34, hFc56⟩ := ar_s hFc56
                  obtain ⟨x35, hx35, hFc56⟩ := lv_s hFc56
                  refine x_region <| p (yl_move rfl) <| p (ysub rfl rfl hx32) <| p (yl_move eL3h_8) <|
                    p (ysub rfl rfl hx34) <| p (ymax' rfl rfl hx35) <| p (yl_field0 fld_66_3 rfl) <|
                    ?_
                  refine o_store1 (v := .int .i64 x35) one_3 rfl rfl rfl rfl hS (fun w' hS => ?_)
                  refine x_done <|
                    ?_
                  exact x_inv ⟨y4_1.X, x35, (Option.some.inj (show some _ = some _ from hFc56)), eL3h_0, eL3h_1, eL3h_2, eL3h_6, eL3h_7, eL3h_8, rfl, rfl, eL3h_21, eL3h_22, eL3h_23, ((((((((hS.pull 7).pull 7).pull 7).pull 7).pull 7).pull 5).pull 7).pull 7)⟩
              rintro E w ⟨b10_2_c56, b10_3_c56, rfl, ec56_0, ec56_1, ec56_2, ec56_6, ec56_7, ec56_8, ec56_10, ec56_11, ec56_21, ec56_22, ec56_23, hS⟩
              exact x_inv ⟨b10_2_c56, b10_3_c56, (Option.some.inj (show some _ = some _ from hFc43)), ec56_0, ec56_1, ec56_2, ec56_6, ec56_7, ec56_8, ec56_10, ec56_11, ec56_21, ec56_22, ec56_23, ((((((((hS.pull 7).pull 7).pull 7).pull 7).pull 7).pull 7).pull 7).pull 7)⟩
          rintro E w ⟨b10_2_c43, b10_3_c43, rfl, ec43_0, ec43_1, ec43_2, ec43_6, ec43_7, ec43_8, ec43_10, ec43_11, ec43_21, ec43_22, ec43_23, hS⟩
          exact x_inv ⟨b10_2_c43, b10_3_c43, (Option.some.inj (show some _ = some _ from hFc37)), ec43_0, ec43_1, ec43_2, ec43_6, ec43_7, ec43_8, ec43_10, ec43_11, ec43_21, ec43_22, ec43_23, ((((((((hS.pull 7).pull 7).pull 7).pull 7).pull 7).pull 7).pull 7).pull 7)⟩
      rintro E w ⟨b10_2_c37, b10_3_c37, rfl, ec37_0, ec37_1, ec37_2, ec37_6, ec37_7, ec37_8, ec37_10, ec37_11, ec37_21, ec37_22, ec37_23, hS⟩
      refine x_blk <| x_seq <|
        ?_
      obtain ⟨z13_7, hz13_7, hFL3⟩ := lv_s hFL3
      obtain ⟨hk13_7, hFL3⟩ := ck_s hFL3
      refine x_par (w0 := w0) [⟨[], [], [74], [], [], []⟩, ⟨[], [], [75], [], [], []⟩, ⟨[1], [1], [76], [], [], []⟩, ⟨[1, 2], [2], [77], [], [], []⟩, ⟨[1, 2, 3], [3], [78], [0], [], []⟩, ⟨[], [], [79], [1], [], []⟩, ⟨[5], [5], [80], [], [], [2]⟩, ⟨[1, 2, 3, 4, 5, 6], [4, 6], [81], [2, 4], [3], [5]⟩, ⟨[0, 1, 2, 3, 4, 5, 6, 7], [0], [82], [], [], []⟩, ⟨[0, 1, 2, 3, 4, 5, 6, 7, 8], [8], [83], [], [], []⟩, ⟨[0, 1, 2, 3, 4, 5, 6, 7, 8, 9], [7, 9], [], [], [0], [6]⟩] [⟨none, (some 10), []⟩, ⟨none, none, []⟩, ⟨(some 6), none, [80]⟩, ⟨none, (some 7), []⟩, ⟨none, none, []⟩, ⟨(some 7), none, [81]⟩, ⟨(some 10), none, [81]⟩] [74, 75, 76, 77, 78, 79, 80, 81, 82, 83] [0, 1, 3, 4] [1, 2, 4, 5, 6] [0, 1, 2, 3, 4, 5, 6, 7, 8, 9] [fun Ep13 => Ep13 74 = .pointer (some ⟨b_f1, 6, none⟩), fun Ep13 => Ep13 75 = .pointer (some ⟨b_f1, 6, none⟩), fun Ep13 => Ep13 76 = .pointer (some ⟨b_f1, 6, none⟩), fun Ep13 => Ep13 77 = .pointer (some ⟨b_f1, 11, none⟩), fun Ep13 => Ep13 78 = .slice A_b_f1_11_L3h b_f1_11_L3h.length c_b_f1_11_L3h, fun Ep13 => Ep13 79 = .agg #[.string y4_1.Name, .bool y4_1.Out, .int .i64 b10_2_c37, .int .i64 b10_3_c37], fun Ep13 => Ep13 80 = .slice (some ⟨(blkOf (Ep13 80)), 0, none⟩) 1 1, fun Ep13 => Ep13 81 = .slice (adOf (Ep13 81)) z13_7.length (capOf (Ep13 81)), fun Ep13 => Ep13 82 = .pointer (some ⟨b_f1, 6, none⟩), fun Ep13 => Ep13 83 = .pointer (some ⟨b_f1, 11, none⟩), fun Ep13 => True] [fun Ep13 => cells b_f1 43 [.slice A_f1_0 f1.Net.In.length c_f1_0, .slice A_f1_1 f1.Net.Out.length c_f1_1, .slice A_f1_2 f1.Net.Flops.length c_f1_2, .slice A_f1_3 f1.Net.Gates.length c_f1_3, .slice A_f1_4 f1.Net.Outs.length c_f1_4, .slice A_f1_5 f1.Lib.length c_f1_5, .int .i64 f1.Floor.Rows, .int .i64 f1.Floor.Sites, .int .i64 f1.Floor.Layers, .slice A_f1_9 f1.Floor.Blocks.length c_f1_9, .slice A_f1_10 f1.Floor.Walls.length c_f1_10, .slice A_b_f1_11_L3h b_f1_11_L3h.length c_b_f1_11_L3h, .int .i64 f1.Tree.Cell, .slice A_f1_13 f1.Tree.Up.length c_f1_13, .slice A_f1_14 f1.Tree.Leaf.length c_f1_14, .slice A_f1_15 f1.Sites.length c_f1_15], fun Ep13 => cells b10 66 [.string y4_1.Name, .bool y4_1.Out, .int .i64 b10_2_c37, .int .i64 b10_3_c37], fun Ep13 => cells (blkOf (Ep13 80)) 66 [.string y4_1.Name, .bool y4_1.Out, .int .i64 b10_2_c37, .int .i64 b10_3_c37], fun Ep13 => vec 66 R_floor_Port.sz (.slice A_b_f1_11_L3h b_f1_11_L3h.length c_b_f1_11_L3h) b_f1_11_L3h.length cs_b_f1_11_L3h, fun Ep13 => ro ρ, fun Ep13 => bunA (fun (cs81 : List Value) => RepL R_floor_Port ρ z13_7 cs81) (fun (cs81 : List Value) => [vec 66 R_floor_Port.sz (.slice (adOf (Ep13 81)) z13_7.length (capOf (Ep13 81))) z13_7.length cs81]), fun Ep13 => cells b_f1 43 [.slice A_f1_0 f1.Net.In.length c_f1_0, .slice A_f1_1 f1.Net.Out.length c_f1_1, .slice A_f1_2 f1.Net.Flops.length c_f1_2, .slice A_f1_3 f1.Net.Gates.length c_f1_3, .slice A_f1_4 f1.Net.Outs.length c_f1_4, .slice A_f1_5 f1.Lib.length c_f1_5, .int .i64 f1.Floor.Rows, .int .i64 f1.Floor.Sites, .int .i64 f1.Floor.Layers, .slice A_f1_9 f1.Floor.Blocks.length c_f1_9, .slice A_f1_10 f1.Floor.Walls.length c_f1_10, .slice (adOf (Ep13 81)) z13_7.length (capOf (Ep13 81)), .int .i64 f1.Tree.Cell, .slice A_f1_13 f1.Tree.Up.length c_f1_13, .slice A_f1_14 f1.Tree.Leaf.length c_f1_14, .slice A_f1_15 f1.Sites.length c_f1_15]] mixed (by kernel_rfl) ((((hS.pull 7).pull 7).pull 4).pull 4) ?_ ?_
      · refine ⟨?_, ?_, ?_, ?_, ?_, ?_, ?_, ?_, ?_, ?_, ?_, trivial⟩
        · intro Ep13 w l' hE13 hO13 hF_ hS
          refine p (yl_move ((hE13 1 rfl).trans ec37_1)) <| x_done <|
            ?_
          refine x_fin ⟨⟨_, rfl⟩, rfl, ?_⟩
          exact Eq.mp (by kernel_rfl) hS
        · intro Ep13 w l' hE13 hO13 hF_ hS
          refine p (yl_move ((hE13 1 rfl).trans ec37_1)) <| x_done <|
            ?_
          refine x_fin ⟨⟨_, rfl⟩, rfl, ?_⟩
          exact Eq.mp (by kernel_rfl) hS
        · intro Ep13 w l' hE13 hO13 hF_ hS
          obtain ⟨f13_1, -⟩ := hF_
          replace f13_1 : Ep13 75 = .pointer (some ⟨b_f1, 6, none⟩) := Eq.mp (by kernel_rfl) f13_1
          refine p (yl_nilCheck f13_1) <| x_done <|
            ?_
          refine x_fin ⟨⟨_, rfl⟩, rfl, ?_⟩
          exact Eq.mp (by kernel_rfl) hS
        · intro Ep13 w l' hE13 hO13 hF_ hS
          obtain ⟨f13_2, -⟩ := hF_
          replace f13_2 : Ep13 76 = .pointer (some ⟨b_f1, 6, none⟩) := Eq.mp (by kernel_rfl) f13_2
          refine p (yl_fieldN fld_38_5 f13_2) <| x_done <|
            ?_
          refine x_fin ⟨⟨_, rfl⟩, rfl, ?_⟩
          exact Eq.mp (by kernel_rfl) hS
        · intro Ep13 w l' hE13 hO13 hF_ hS
          obtain ⟨f13_3, -⟩ := hF_
          replace f13_3 : Ep13 77 = .pointer (some ⟨b_f1, 11, none⟩) := Eq.mp (by kernel_rfl) f13_3
          replace hS : St w0 w (cells b_f1 43 [.slice A_f1_0 f1.Net.In.length c_f1_0, .slice A_f1_1 f1.Net.Out.length c_f1_1, .slice A_f1_2 f1.Net.Flops.length c_f1_2, .slice A_f1_3 f1.Net.Gates.length c_f1_3, .slice A_f1_4 f1.Net.Outs.length c_f1_4, .slice A_f1_5 f1.Lib.length c_f1_5, .int .i64 f1.Floor.Rows, .int .i64 f1.Floor.Sites, .int .i64 f1.Floor.Layers, .slice A_f1_9 f1.Floor.Blocks.length c_f1_9, .slice A_f1_10 f1.Floor.Walls.length c_f1_10, .slice A_b_f1_11_L3h b_f1_11_L3h.length c_b_f1_11_L3h, .int .i64 f1.Tree.Cell, .slice A_f1_13 f1.Tree.Up.length c_f1_13, .slice A_f1_14 f1.Tree.Leaf.length c_f1_14, .slice A_f1_15 f1.Sites.length c_f1_15] :: l') := Eq.mp (by kernel_rfl) hS
          refine pa (at_load one_36 f13_3 (hS.cell rfl)) <| x_done <|
            ?_
          refine x_fin ⟨⟨_, rfl⟩, rfl, ?_⟩
          exact Eq.mp (by kernel_rfl) hS
        · intro Ep13 w l' hE13 hO13 hF_ hS
          replace hS : St w0 w (cells b10 66 [.string y4_1.Name, .bool y4_1.Out, .int .i64 b10_2_c37, .int .i64 b10_3_c37] :: l') := Eq.mp (by kernel_rfl) hS
          refine pa (v := .agg #[.string y4_1.Name, .bool y4_1.Out, .int .i64 b10_2_c37, .int .i64 b10_3_c37]) (ld_sub agg_66 ((hE13 10 rfl).trans ec37_10) rfl rfl hS) <| x_done <|
            ?_
          refine x_fin ⟨⟨_, rfl⟩, rfl, ?_⟩
          exact Eq.mp (by kernel_rfl) hS
        · intro Ep13 w l' hE13 hO13 hF_ hS
          obtain ⟨f13_5, -⟩ := hF_
          replace f13_5 : Ep13 79 = .agg #[.string y4_1.Name, .bool y4_1.Out, .int .i64 b10_2_c37, .int .i64 b10_3_c37] := Eq.mp (by kernel_rfl) f13_5
          refine o_buildSlice (vs := [.agg #[.string y4_1.Name, .bool y4_1.Out, .int .i64 b10_2_c37, .int .i64 b10_3_c37]]) (cs := [.string y4_1.Name, .bool y4_1.Out, .int .i64 b10_2_c37, .int .i64 b10_3_c37]) sl_36 zero_66 (parts_eq (pt (va := .agg #[.string y4_1.Name, .bool y4_1.Out, .int .i64 b10_2_c37, .int .i64 b10_3_c37]) f13_5 pt0)) rfl (by intro v hv; simp only [List.mem_cons, List.not_mem_nil, or_false] at hv; first | (subst hv; rfl) | (rcases hv with rfl <;> rfl)) (by decide) rfl hS (fun b80 w' hS => ?_)
          refine x_done <|
            ?_
          refine x_fin ⟨⟨_, rfl⟩, rfl, ?_⟩
          exact Eq.mp (by kernel_rfl) hS
        · intro Ep13 w l' hE13 hO13 hF_ hS
          obtain ⟨f13_4, f13_6, -⟩ := hF_
          replace f13_4 : Ep13 78 = .slice A_b_f1_11_L3h b_f1_11_L3h.length c_b_f1_11_L3h := Eq.mp (by kernel_rfl) f13_4
          replace f13_6 : Ep13 80 = .slice (some ⟨(blkOf (Ep13 80)), 0, none⟩) 1 1 := Eq.mp (by kernel_rfl) f13_6
          replace hS : St w0 w (cells (blkOf (Ep13 80)) 66 [.string y4_1.Name, .bool y4_1.Out, .int .i64 b10_2_c37, .int .i64 b10_3_c37] :: ro ρ :: vec 66 R_floor_Port.sz (.slice A_b_f1_11_L3h b_f1_11_L3h.length c_b_f1_11_L3h) b_f1_11_L3h.length cs_b_f1_11_L3h :: l') := Eq.mp (by kernel_rfl) hS
          refine o_ap sl_36 zero_66 rfl (by decide) f13_4 f13_6 (hS.pull 2) h_b_f1_11_L3h (src_blk usl_36 hS rfl rfl) (RepL.cons (R := R_floor_Port) (ρ := ρ) (x := (T_floor_Port.mk y4_1.Name y4_1.Out b10_2_c37 b10_3_c37)) (cs := [.string y4_1.Name, .bool y4_1.Out, .int .i64 b10_2_c37, .int .i64 b10_3_c37]) rfl RepL.nil) hz13_7 hk13_7 (fun A81 c81 cs81 w' hr81 hS => ?_)
          refine x_done <|
            ?_
          refine x_fin ⟨⟨_, rfl⟩, rfl, ?_⟩
          replace hS := St.bun (Φ := (fun (cs81 : List Value) => RepL R_floor_Port ρ z13_7 cs81)) (L := (fun (cs81 : List Value) => [vec 66 R_floor_Port.sz (.slice A81 z13_7.length c81) z13_7.length cs81])) cs81 hr81 hS
          exact Eq.mp (by kernel_rfl) ((hS.pull 2).pull 2)
        · intro Ep13 w l' hE13 hO13 hF_ hS
          obtain ⟨f13_0, -⟩ := hF_
          replace f13_0 : Ep13 74 = .pointer (some ⟨b_f1, 6, none⟩) := Eq.mp (by kernel_rfl) f13_0
          refine p (yl_nilCheck f13_0) <| x_done <|
            ?_
          refine x_fin ⟨⟨_, rfl⟩, rfl, ?_⟩
          exact Eq.mp (by kernel_rfl) hS
        · intro Ep13 w l' hE13 hO13 hF_ hS
          obtain ⟨f13_8, -⟩ := hF_
          replace f13_8 : Ep13 82 = .pointer (some ⟨b_f1, 6, none⟩) := Eq.mp (by kernel_rfl) f13_8
          refine p (yl_fieldN fld_38_5 f13_8) <| x_done <|
            ?_
          refine x_fin ⟨⟨_, rfl⟩, rfl, ?_⟩
          exact Eq.mp (by kernel_rfl) hS
        · intro Ep13 w l' hE13 hO13 hF_ hS
          obtain ⟨f13_7, f13_9, -⟩ := hF_
          replace f13_7 : Ep13 81 = .slice (adOf (Ep13 81)) z13_7.length (capOf (Ep13 81)) := Eq.mp (by kernel_rfl) f13_7
          replace f13_9 : Ep13 83 = .pointer (some ⟨b_f1, 11, none⟩) := Eq.mp (by kernel_rfl) f13_9
          replace hS : St w0 w (cells b_f1 43 [.slice A_f1_0 f1.Net.In.length c_f1_0, .slice A_f1_1 f1.Net.Out.length c_f1_1, .slice A_f1_2 f1.Net.Flops.length c_f1_2, .slice A_f1_3 f1.Net.Gates.length c_f1_3, .slice A_f1_4 f1.Net.Outs.length c_f1_4, .slice A_f1_5 f1.Lib.length c_f1_5, .int .i64 f1.Floor.Rows, .int .i64 f1.Floor.Sites, .int .i64 f1.Floor.Layers, .slice A_f1_9 f1.Floor.Blocks.length c_f1_9, .slice A_f1_10 f1.Floor.Walls.length c_f1_10, .slice A_b_f1_11_L3h b_f1_11_L3h.length c_b_f1_11_L3h, .int .i64 f1.Tree.Cell, .slice A_f1_13 f1.Tree.Up.length c_f1_13, .slice A_f1_14 f1.Tree.Leaf.length c_f1_14, .slice A_f1_15 f1.Sites.length c_f1_15] :: l') := Eq.mp (by kernel_rfl) hS
          refine o_store1 (v := .slice (adOf (Ep13 81)) z13_7.length (capOf (Ep13 81))) one_36 f13_9 f13_7 rfl rfl hS (fun w' hS => ?_)
          refine x_done <|
            ?_
          refine x_fin ⟨⟨undef, rfl⟩, trivial, ?_⟩
          exact Eq.mp (by kernel_rfl) hS
      intro Ep13 w' hE13 hF_ hS
      obtain ⟨f13_0, f13_1, f13_2, f13_3, f13_4, f13_5, f13_6, f13_7, f13_8, f13_9, -⟩ := hF_
      replace f13_0 : Ep13 74 = .pointer (some ⟨b_f1, 6, none⟩) := Eq.mp (by kernel_rfl) f13_0
      replace f13_1 : Ep13 75 = .pointer (some ⟨b_f1, 6, none⟩) := Eq.mp (by kernel_rfl) f13_1
      replace f13_2 : Ep13 76 = .pointer (some ⟨b_f1, 6, none⟩) := Eq.mp (by kernel_rfl) f13_2
      replace f13_3 : Ep13 77 = .pointer (some ⟨b_f1, 11, none⟩) := Eq.mp (by kernel_rfl) f13_3
      replace f13_4 : Ep13 78 = .slice A_b_f1_11_L3h b_f1_11_L3h.length c_b_f1_11_L3h := Eq.mp (by kernel_rfl) f13_4
      replace f13_5 : Ep13 79 = .agg #[.string y4_1.Name, .bool y4_1.Out, .int .i64 b10_2_c37, .int .i64 b10_3_c37] := Eq.mp (by kernel_rfl) f13_5
      replace f13_6 : Ep13 80 = .slice (some ⟨(blkOf (Ep13 80)), 0, none⟩) 1 1 := Eq.mp (by kernel_rfl) f13_6
      replace f13_7 : Ep13 81 = .slice (adOf (Ep13 81)) z13_7.length (capOf (Ep13 81)) := Eq.mp (by kernel_rfl) f13_7
      replace f13_8 : Ep13 82 = .pointer (some ⟨b_f1, 6, none⟩) := Eq.mp (by kernel_rfl) f13_8
      replace f13_9 : Ep13 83 = .pointer (some ⟨b_f1, 11, none⟩) := Eq.mp (by kernel_rfl) f13_9
      replace hS : St w0 w' (cells b10 66 [.string y4_1.Name, .bool y4_1.Out, .int .i64 b10_2_c37, .int .i64 b10_3_c37] :: cells (blkOf (Ep13 80)) 66 [.string y4_1.Name, .bool y4_1.Out, .int .i64 b10_2_c37, .int .i64 b10_3_c37] :: ro ρ :: bunA (fun (cs81 : List Value) => RepL R_floor_Port ρ z13_7 cs81) (fun (cs81 : List Value) => [vec 66 R_floor_Port.sz (.slice (adOf (Ep13 81)) z13_7.length (capOf (Ep13 81))) z13_7.length cs81]) :: cells b_f1 43 [.slice A_f1_0 f1.Net.In.length c_f1_0, .slice A_f1_1 f1.Net.Out.length c_f1_1, .slice A_f1_2 f1.Net.Flops.length c_f1_2, .slice A_f1_3 f1.Net.Gates.length c_f1_3, .slice A_f1_4 f1.Net.Outs.length c_f1_4, .slice A_f1_5 f1.Lib.length c_f1_5, .int .i64 f1.Floor.Rows, .int .i64 f1.Floor.Sites, .int .i64 f1.Floor.Layers, .slice A_f1_9 f1.Floor.Blocks.length c_f1_9, .slice A_f1_10 f1.Floor.Walls.length c_f1_10, .slice (adOf (Ep13 81)) z13_7.length (capOf (Ep13 81)), .int .i64 f1.Tree.Cell, .slice A_f1_13 f1.Tree.Up.length c_f1_13, .slice A_f1_14 f1.Tree.Leaf.length c_f1_14, .slice A_f1_15 f1.Sites.length c_f1_15] :: (cells b_s0 25 [.slice A_s0_0 s0.L.length c_s0_0, .int .i64 b_s0_1_L3h] :: vec 3 (RpI .i64).sz (.slice A_f1_13 f1.Tree.Up.length c_f1_13) f1.Tree.Up.length cs_f1_13 :: vec 3 (RpI .i64).sz (.slice A_f1_14 f1.Tree.Leaf.length c_f1_14) f1.Tree.Leaf.length cs_f1_14 :: vec 56 R_floor_Site.sz (.slice A_f1_15 f1.Sites.length c_f1_15) f1.Sites.length cs_f1_15 :: l)) := Eq.mp (by kernel_rfl) hS
      obtain ⟨cs81, hr81, hS⟩ := St.unbun (hS.pull 3)
      obtain ⟨x89, hx89, hFL3⟩ := ar_s hFL3
      obtain ⟨hk14_6, hFL3⟩ := ck_s hFL3
      obtain ⟨x90, hx90, hFL3⟩ := ar_s hFL3
      obtain ⟨x91, hx91, hFL3⟩ := ar_s hFL3
      obtain ⟨x92, hx92, hFL3⟩ := lv_s hFL3
      obtain ⟨r14_9, hc14_9, hFL3⟩ := bd_s hFL3
      refine x_region <| p (yl_move ((hE13 8 rfl).trans ec37_8)) <| p (yl_move ((hE13 0 rfl).trans ec37_0)) <| p (yl_move ((hE13 11 rfl).trans ec37_11)) <|
        p (yl_move ((hE13 2 rfl).trans ec37_2)) <| p (yl_len_slice usl_36 rfl) <| p (yadd rfl rfl hx89) <| p (yquo rfl rfl hk14_6 hx90) <|
        p (ysub rfl rfl hx91) <| p (ymax' rfl rfl hx92) <|
        ?_
      have hcall := c_maskmake_Stream_Next hc14_9 h_s0_0 ((hS.pull 3).pull 5)
      refine o_cc call_11 (args2 rfl rfl) hcall ?_
      rintro e w' ⟨rfl, hS⟩
      refine ⟨_, rfl, ?_⟩
      obtain ⟨x94, hx94, hFL3⟩ := ar_s hFL3
      obtain ⟨x95, hx95, hFL3⟩ := ar_s hFL3
      obtain ⟨x96, hx96, hFL3⟩ := ar_s hFL3
      refine p (yadd rfl rfl hx94) <| p (yadd rfl rfl hx95) <| p (yl_assign rfl) <| x_done <|
        x_blk <| x_region <| p (yadd ((hE13 23 rfl).trans ec37_23) rfl hx96) <| p (yl_move rfl) <|
        x_done <|
        ?_
      obtain rfl := Option.some.inj (show some _ = some _ from hFL3)
      exact x_inv ⟨kL3, Nat.lt_succ_self _, (adOf (Ep13 81)), z13_7.length, (capOf (Ep13 81)), cs81, x95, x96, r14_9.2, z13_7, hLL3, ((hE13 0 rfl).trans ec37_0), ((hE13 1 rfl).trans ec37_1), ((hE13 2 rfl).trans ec37_2), ((hE13 6 rfl).trans ec37_6), ((hE13 7 rfl).trans ec37_7), rfl, ((hE13 21 rfl).trans ec37_21), ((hE13 22 rfl).trans ec37_22), rfl, hr81, (((((((((hS.pull 3).drop.pull 3).drop.pull 1).pull 2).pull 6).pull 6).pull 6).pull 6).pull 6)⟩
    · replace hFL3 := it_f hc24 hFL3
      refine x_exitTo _ rfl <|
        ?_
      obtain rfl := Option.some.inj (show some _ = some _ from hFL3)
      exact x_inv ⟨A_b_f1_11_L3h, b_f1_11_L3h.length, c_b_f1_11_L3h, cs_b_f1_11_L3h, b_s0_1_L3h, b_f1_11_L3h, hLL3, h_b_f1_11_L3h, (((((((hS.pull 6).pull 6).pull 6).pull 6).pull 6).pull 6).pull 6)⟩
  rintro E w ⟨A_b_f1_11_L3, n_b_f1_11_L3, c_b_f1_11_L3, cs_b_f1_11_L3, b_s0_1_L3, b_f1_11_L3, rfl, h_b_f1_11_L3, hS⟩
  obtain rfl := St.vec_n (hS.pull 5) h_b_f1_11_L3
  obtain rfl := Option.some.inj (show some _ = some _ from hF)
  exact x_fin ⟨_, rfl, A_b_f1_11_L3, b_f1_11_L3.length, c_b_f1_11_L3, cs_b_f1_11_L3, rfl, h_b_f1_11_L3, (((((((hS.pull 6).pull 6).pull 6).pull 6).pull 6).pull 6).pull 6)⟩
attribute [irreducible] P_maskmake_Stream_ports_2

def P_maskmake_Stream_Chip_L5 (n1 : T_api_Netlist) (l_2 : List T_api_Cell) : (List Int × Int) → Option ((List Int × Int) ⊕ List Int) := fun (area8_L5h, y35_L5h) =>
  if y35_L5h < (n1.Gates.length : Int) then
    ck (inb y35_L5h n1.Gates.length) <|
    lv (gt n1.Gates y35_L5h) fun y6_1 =>
    ck (inb y6_1.Cell l_2.length) <|
    lv (gt l_2 y6_1.Cell) fun y7_6 =>
    lv (area8_L5h ++ [y7_6.Area]) fun z7_8 =>
    ck (apOk 8 z7_8.length) <|
    ar (y35_L5h + 1) fun x48 =>
    some (Sum.inl (z7_8, x48))
  else
    some (Sum.inr area8_L5h)
def P_maskmake_Stream_Chip_L10 (n1 : T_api_Netlist) (l_2 : List T_api_Cell) : (List Int × Int) → Option ((List Int × Int) ⊕ List Int) := fun (area8_L10h, y52_L10h) =>
  if y52_L10h < (n1.Flops.length : Int) then
    ck (inb y52_L10h n1.Flops.length) <|
    lv (gt n1.Flops y52_L10h) fun y11_1 =>
    ck (inb y11_1.Cell l_2.length) <|
    lv (gt l_2 y11_1.Cell) fun y12_6 =>
    lv (area8_L10h ++ [y12_6.Area]) fun z12_8 =>
    ck (apOk 8 z12_8.length) <|
    ar (y52_L10h + 1) fun x65 =>
    some (Sum.inl (z12_8, x65))
  else
    some (Sum.inr area8_L10h)
def P_maskmake_Stream_Chip_L15 (l_2 : List T_api_Cell) (r2_4 : (T_tree_Tree × Int)) : (List Int × Int) → Option ((List Int × Int) ⊕ List Int) := fun (area8_L15h, y70_L15h) =>
  if y70_L15h < (r2_4.1.Up.length : Int) then
    ck (inb r2_4.1.Cell l_2.length) <|
    lv (gt l_2 r2_4.1.Cell) fun y16_7 =>
    lv (area8_L15h ++ [y16_7.Area]) fun z16_9 =>
    ck (apOk 8 z16_9.length) <|
    ar (y70_L15h + 1) fun x82 =>
    some (Sum.inl (z16_9, x82))
  else
    some (Sum.inr area8_L15h)
def P_maskmake_Stream_Chip_L21 (s0 : T_maskmake_Stream) (area8_L15 : List Int) (x85 : Int) : (Int × Int × Int × Int × List T_floor_Site) → Option ((Int × Int × Int × Int × List T_floor_Site) ⊕ (Int × Int × List T_floor_Site)) := fun (row14_L21h, at15_L21h, y88_L21h, b_s0_1_L21h, b7_15_L21h) =>
  if y88_L21h < (area8_L15.length : Int) then
    ck (inb y88_L21h area8_L15.length) <|
    lv (gt area8_L15 y88_L21h) fun x91 =>
    bd (P_maskmake_Stream_Next (T_maskmake_Stream.mk s0.L b_s0_1_L21h) 2) fun r23_2 =>
    ar (at15_L21h + r23_2.1) fun x95 =>
    ar (x95 + x91) fun x98 =>
    bd (
      if x85 < x98 then
        ar (row14_L21h + 1) fun x102 =>
        some (x102, (0 : Int))
      else
        some (row14_L21h, x95)) fun (row14_c100, at15_c100) =>
    lv (b7_15_L21h ++ [(T_floor_Site.mk row14_c100 at15_c100)]) fun z26_6 =>
    ck (apOk 16 z26_6.length) <|
    ar (at15_c100 + x91) fun x113 =>
    ar (y88_L21h + 1) fun x114 =>
    some (Sum.inl (row14_c100, x113, x114, r23_2.2, z26_6))
  else
    some (Sum.inr (row14_L21h, b_s0_1_L21h, b7_15_L21h))
def P_maskmake_Stream_Chip_L32 (n1 : T_api_Netlist) : (List T_floor_Port × Int) → Option ((List T_floor_Port × Int) ⊕ List T_floor_Port) := fun (ports18_L32h, y125_L32h) =>
  if y125_L32h < (n1.In.length : Int) then
    ck (inb y125_L32h n1.In.length) <|
    lv (gt n1.In y125_L32h) fun x128 =>
    lv (ports18_L32h ++ [(T_floor_Port.mk x128 false 0 0)]) fun z34_4 =>
    ck (apOk 40 z34_4.length) <|
    ar (y125_L32h + 1) fun x134 =>
    some (Sum.inl (z34_4, x134))
  else
    some (Sum.inr ports18_L32h)
def P_maskmake_Stream_Chip_L37 (n1 : T_api_Netlist) : (List T_floor_Port × Int) → Option ((List T_floor_Port × Int) ⊕ List T_floor_Port) := fun (ports18_L37h, y138_L37h) =>
  if y138_L37h < (n1.Out.length : Int) then
    ck (inb y138_L37h n1.Out.length) <|
    lv (gt n1.Out y138_L37h) fun x141 =>
    lv (ports18_L37h ++ [(T_floor_Port.mk x141 true 0 0)]) fun z39_4 =>
    ck (apOk 40 z39_4.length) <|
    ar (y138_L37h + 1) fun x147 =>
    some (Sum.inl (z39_4, x147))
  else
    some (Sum.inr ports18_L37h)
def P_maskmake_Stream_Chip (s0 : T_maskmake_Stream) (n1 : T_api_Netlist) (l_2 : List T_api_Cell) : Option (T_legal_Chip × Int) :=
  bd (P_maskmake_Stream_Tree s0 (n1.Flops.length : Int)) fun r2_4 =>
  bd (
    lp (P_maskmake_Stream_Chip_L5 n1 l_2) fuel ([], 0)) fun area8_L5 =>
  bd (
    lp (P_maskmake_Stream_Chip_L10 n1 l_2) fuel (area8_L5, 0)) fun area8_L10 =>
  bd (
    lp (P_maskmake_Stream_Chip_L15 l_2 r2_4) fuel (area8_L10, 0)) fun area8_L15 =>
  bd (P_maskmake_Stream_Next (T_maskmake_Stream.mk s0.L r2_4.2) 4) fun r18_1 =>
  ar ((6 : Int) + r18_1.1) fun x85 =>
  bd (
    lp (P_maskmake_Stream_Chip_L21 s0 area8_L15 x85) fuel (0, 0, 0, r18_1.2, [])) fun (row14_L21, b_s0_1_L21, b7_15_L21) =>
  ar (row14_L21 + 1) fun x116 =>
  bd (P_maskmake_Stream_Range (T_maskmake_Stream.mk s0.L b_s0_1_L21) 3 5) fun r29_4 =>
  bd (
    lp (P_maskmake_Stream_Chip_L32 n1) fuel ([], 0)) fun ports18_L32 =>
  bd (
    lp (P_maskmake_Stream_Chip_L37 n1) fuel (ports18_L32, 0)) fun ports18_L37 =>
  bd (
    if 0 < (n1.Flops.length : Int) then
      lv (ports18_L37 ++ [(T_floor_Port.mk (⟨#[]⟩ : ByteArray) false 0 0)]) fun z42_3 =>
      ck (apOk 40 z42_3.length) <|
      some z42_3
    else
      some ports18_L37) fun ports18_c151 =>
  bd (P_maskmake_Stream_ports_2 (T_maskmake_Stream.mk s0.L r29_4.2) (T_legal_Chip.mk (T_api_Netlist.mk n1.In n1.Out n1.Flops n1.Gates n1.Outs) l_2 (T_floor_Floor.mk x116 x85 r29_4.1 [] [] []) (T_tree_Tree.mk r2_4.1.Cell r2_4.1.Up r2_4.1.Leaf) b7_15_L21) ports18_c151) fun r43_3 =>
  some ((T_legal_Chip.mk (T_api_Netlist.mk n1.In n1.Out n1.Flops n1.Gates n1.Outs) l_2 (T_floor_Floor.mk x116 x85 r29_4.1 [] [] r43_3.2) (T_tree_Tree.mk r2_4.1.Cell r2_4.1.Up r2_4.1.Leaf) b7_15_L21), r43_3.1)
set_option maxHeartbeats 4000000 in
set_option maxRecDepth 100000 in
theorem c_maskmake_Stream_Chip {w0 w : World} {l : List Assn} {ρ : Heap} {b_s0 : Nat} {A_s0_0 : Option Addr} {n_s0_0 : Nat} {c_s0_0 : Nat} {A_n1_0 : Option Addr} {n_n1_0 : Nat} {c_n1_0 : Nat} {A_n1_1 : Option Addr} {n_n1_1 : Nat} {c_n1_1 : Nat} {A_n1_2 : Option Addr} {n_n1_2 : Nat} {c_n1_2 : Nat} {A_n1_3 : Option Addr} {n_n1_3 : Nat} {c_n1_3 : Nat} {A_n1_4 : Option Addr} {n_n1_4 : Nat} {c_n1_4 : Nat} {A_l_2 : Option Addr} {n_l_2 : Nat} {c_l_2 : Nat} {s0 : T_maskmake_Stream} {n1 : T_api_Netlist} {l_2 : List T_api_Cell} {r : (T_legal_Chip × Int)} (hF : P_maskmake_Stream_Chip s0 n1 l_2 = some r) (h_s0_0 : RdS (RpI .i64) ρ A_s0_0 n_s0_0 c_s0_0 s0.L) (h_n1_0 : RdS RpS ρ A_n1_0 n_n1_0 c_n1_0 n1.In) (h_n1_1 : RdS RpS ρ A_n1_1 n_n1_1 c_n1_1 n1.Out) (h_n1_2 : RdS R_api_Flop ρ A_n1_2 n_n1_2 c_n1_2 n1.Flops) (h_n1_3 : RdS R_api_Gate ρ A_n1_3 n_n1_3 c_n1_3 n1.Gates) (h_n1_4 : RdS (RpI .i64) ρ A_n1_4 n_n1_4 c_n1_4 n1.Outs) (h_l_2 : RdS R_api_Cell ρ A_l_2 n_l_2 c_l_2 l_2) (hS : St w0 w (cells b_s0 25 [.slice A_s0_0 n_s0_0 c_s0_0, .int .i64 s0.fat] :: ro ρ :: l)) :
    Calls Tryd.prog 5 #[.pointer (some ⟨b_s0, 0, none⟩), .agg #[.slice A_n1_0 n_n1_0 c_n1_0, .slice A_n1_1 n_n1_1 c_n1_1, .slice A_n1_2 n_n1_2 c_n1_2, .slice A_n1_3 n_n1_3 c_n1_3, .slice A_n1_4 n_n1_4 c_n1_4], .slice A_l_2 n_l_2 c_l_2] w fun e w' => ∃ (A_y0_ret_0 : Option Addr) (n_y0_ret_0 : Nat) (c_y0_ret_0 : Nat) (A_y0_ret_1 : Option Addr) (n_y0_ret_1 : Nat) (c_y0_ret_1 : Nat) (A_y0_ret_2 : Option Addr) (n_y0_ret_2 : Nat) (c_y0_ret_2 : Nat) (A_y0_ret_3 : Option Addr) (n_y0_ret_3 : Nat) (c_y0_ret_3 : Nat) (A_y0_ret_4 : Option Addr) (n_y0_ret_4 : Nat) (c_y0_ret_4 : Nat) (A_y0_ret_5 : Option Addr) (n_y0_ret_5 : Nat) (c_y0_ret_5 : Nat) (A_y0_ret_9 : Option Addr) (n_y0_ret_9 : Nat) (c_y0_ret_9 : Nat) (cs_y0_ret_9 : List Value) (A_y0_ret_10 : Option Addr) (n_y0_ret_10 : Nat) (c_y0_ret_10 : Nat) (cs_y0_ret_10 : List Value) (A_y0_ret_11 : Option Addr) (n_y0_ret_11 : Nat) (c_y0_ret_11 : Nat) (cs_y0_ret_11 : List Value) (A_y0_ret_13 : Option Addr) (n_y0_ret_13 : Nat) (c_y0_ret_13 : Nat) (cs_y0_ret_13 : List Value) (A_y0_ret_14 : Option Addr) (n_y0_ret_14 : Nat) (c_y0_ret_14 : Nat) (cs_y0_ret_14 : List Value) (A_y0_ret_15 : Option Addr) (n_y0_ret_15 : Nat) (c_y0_ret_15 : Nat) (cs_y0_ret_15 : List Value), e = .returned (.agg #[.slice A_y0_ret_0 n_y0_ret_0 c_y0_ret_0, .slice A_y0_ret_1 n_y0_ret_1 c_y0_ret_1, .slice A_y0_ret_2 n_y0_ret_2 c_y0_ret_2, .slice A_y0_ret_3 n_y0_ret_3 c_y0_ret_3, .slice A_y0_ret_4 n_y0_ret_4 c_y0_ret_4, .slice A_y0_ret_5 n_y0_ret_5 c_y0_ret_5, .int .i64 r.1.Floor.Rows, .int .i64 r.1.Floor.Sites, .int .i64 r.1.Floor.Layers, .slice A_y0_ret_9 n_y0_ret_9 c_y0_ret_9, .slice A_y0_ret_10 n_y0_ret_10 c_y0_ret_10, .slice A_y0_ret_11 n_y0_ret_11 c_y0_ret_11, .int .i64 r.1.Tree.Cell, .slice A_y0_ret_13 n_y0_ret_13 c_y0_ret_13, .slice A_y0_ret_14 n_y0_ret_14 c_y0_ret_14, .slice A_y0_ret_15 n_y0_ret_15 c_y0_ret_15]) ∧ RdS RpS ρ A_y0_ret_0 n_y0_ret_0 c_y0_ret_0 r.1.Net.In ∧ RdS RpS ρ A_y0_ret_1 n_y0_ret_1 c_y0_ret_1 r.1.Net.Out ∧ RdS R_api_Flop ρ A_y0_ret_2 n_y0_ret_2 c_y0_ret_2 r.1.Net.Flops ∧ RdS R_api_Gate ρ A_y0_ret_3 n_y0_ret_3 c_y0_ret_3 r.1.Net.Gates ∧ RdS (RpI .i64) ρ A_y0_ret_4 n_y0_ret_4 c_y0_ret_4 r.1.Net.Outs ∧ RdS R_api_Cell ρ A_y0_ret_5 n_y0_ret_5 c_y0_ret_5 r.1.Lib ∧ RepL R_floor_Block ρ r.1.Floor.Blocks cs_y0_ret_9 ∧ RepL R_floor_Wall ρ r.1.Floor.Walls cs_y0_ret_10 ∧ RepL R_floor_Port ρ r.1.Floor.Ports cs_y0_ret_11 ∧ RepL (RpI .i64) ρ r.1.Tree.Up cs_y0_ret_13 ∧ RepL (RpI .i64) ρ r.1.Tree.Leaf cs_y0_ret_14 ∧ RepL R_floor_Site ρ r.1.Sites cs_y0_ret_15 ∧ St w0 w' (vec 78 R_floor_Block.sz (.slice A_y0_ret_9 n_y0_ret_9 c_y0_ret_9) n_y0_ret_9 cs_y0_ret_9 :: vec 80 R_floor_Wall.sz (.slice A_y0_ret_10 n_y0_ret_10 c_y0_ret_10) n_y0_ret_10 cs_y0_ret_10 :: vec 66 R_floor_Port.sz (.slice A_y0_ret_11 n_y0_ret_11 c_y0_ret_11) n_y0_ret_11 cs_y0_ret_11 :: vec 3 (RpI .i64).sz (.slice A_y0_ret_13 n_y0_ret_13 c_y0_ret_13) n_y0_ret_13 cs_y0_ret_13 :: vec 3 (RpI .i64).sz (.slice A_y0_ret_14 n_y0_ret_14 c_y0_ret_14) n_y0_ret_14 cs_y0_ret_14 :: vec 56 R_floor_Site.sz (.slice A_y0_ret_15 n_y0_ret_15 c_y0_ret_15) n_y0_ret_15 cs_y0_ret_15 :: cells b_s0 25 [.slice A_s0_0 n_s0_0 c_s0_0, .int .i64 r.2] :: ro ρ :: l) := by
  obtain rfl := h_s0_0.n
  obtain rfl := h_n1_0.n
  obtain rfl := h_n1_1.n
  obtain rfl := h_n1_2.n
  obtain rfl := h_n1_3.n
  obtain rfl := h_n1_4.n
  obtain rfl := h_l_2.n
  refine enterC Tryd.func5 rfl 161 rfl (by simp) ?_
  refine x_seq <| x_region <|
    ?_
  refine o_box (cs := [.slice A_n1_0 n1.In.length c_n1_0, .slice A_n1_1 n1.Out.length c_n1_1, .slice A_n1_2 n1.Flops.length c_n1_2, .slice A_n1_3 n1.Gates.length c_n1_3, .slice A_n1_4 n1.Outs.length c_n1_4]) rfl rfl hS (fun b4 w' hS => ?_)
  refine o_alloc zero_43 hS (fun b6 w' hS => ?_)
  refine x_done <| x_seq <| x_region <| pa (v := .agg #[.slice A_n1_0 n1.In.length c_n1_0, .slice A_n1_1 n1.Out.length c_n1_1, .slice A_n1_2 n1.Flops.length c_n1_2, .slice A_n1_3 n1.Gates.length c_n1_3, .slice A_n1_4 n1.Outs.length c_n1_4]) (ld_sub agg_30 rfl rfl rfl (hS.pull 1)) <|
    p (yl_move rfl) <| p (v := .agg #[.slice A_n1_0 n1.In.length c_n1_0, .slice A_n1_1 n1.Out.length c_n1_1, .slice A_n1_2 n1.Flops.length c_n1_2, .slice A_n1_3 n1.Gates.length c_n1_3, .slice A_n1_4 n1.Outs.length c_n1_4, .slice A_l_2 l_2.length c_l_2, .int .i64 0, .int .i64 0, .int .i64 0, .slice none 0 0, .slice none 0 0, .slice none 0 0, .int .i64 0, .slice none 0 0, .slice none 0 0, .slice none 0 0]) (yl_build bld_43 bldf_43 (parts_eq (pt (va := .agg #[.slice A_n1_0 n1.In.length c_n1_0, .slice A_n1_1 n1.Out.length c_n1_1, .slice A_n1_2 n1.Flops.length c_n1_2, .slice A_n1_3 n1.Gates.length c_n1_3, .slice A_n1_4 n1.Outs.length c_n1_4]) rfl (pt (va := .slice A_l_2 l_2.length c_l_2) rfl pt0))) (by kernel_rfl)) <|
    ?_
  refine o_alloc zero_43 hS (fun b7 w' hS => ?_)
  refine o_storeAgg (news := [.slice A_n1_0 n1.In.length c_n1_0, .slice A_n1_1 n1.Out.length c_n1_1, .slice A_n1_2 n1.Flops.length c_n1_2, .slice A_n1_3 n1.Gates.length c_n1_3, .slice A_n1_4 n1.Outs.length c_n1_4, .slice A_l_2 l_2.length c_l_2, .int .i64 0, .int .i64 0, .int .i64 0, .slice none 0 0, .slice none 0 0, .slice none 0 0, .int .i64 0, .slice none 0 0, .slice none 0 0, .slice none 0 0]) agg_43 rfl rfl rfl (by simp [over_length]) hS (fun w' hS => ?_)
  obtain ⟨r2_4, hc2_4, hF⟩ := bd_s hF
  refine x_done <| x_seq <| x_region <| p (yl_move rfl) <|
    p (yl_field0 fld_30_2 rfl) <| pa (at_load one_27 rfl ((hS.pull 2).cell rfl)) <| p (yl_len_slice usl_27 rfl) <|
    ?_
  have hcall := c_maskmake_Stream_Tree hc2_4 h_s0_0 ((hS.pull 4).pull 4)
  refine o_cc call_12 (args2 rfl rfl) hcall ?_
  rintro e w' ⟨A_y0_ret_1_2_4, n_y0_ret_1_2_4, c_y0_ret_1_2_4, cs_y0_ret_1_2_4, A_y0_ret_2_2_4, n_y0_ret_2_2_4, c_y0_ret_2_2_4, cs_y0_ret_2_2_4, rfl, h_y0_ret_1_2_4, h_y0_ret_2_2_4, hS⟩
  refine ⟨_, rfl, ?_⟩
  obtain rfl := St.vec_n hS h_y0_ret_1_2_4
  obtain rfl := St.vec_n (hS.pull 1) h_y0_ret_2_2_4
  refine p (yl_field0 fld_43_3 rfl) <|
    ?_
  refine o_storeAgg (news := [.int .i64 r2_4.1.Cell, .slice A_y0_ret_1_2_4 r2_4.1.Up.length c_y0_ret_1_2_4, .slice A_y0_ret_2_2_4 r2_4.1.Leaf.length c_y0_ret_2_2_4]) agg_40 rfl rfl rfl (by simp [over_length]) (hS.pull 4) (fun w' hS => ?_)
  refine x_done <| x_seq <| x_region <| p (yl_assign rfl) <|
    x_done <| x_seq <| x_seq <| x_region <|
    p (yl_field0 fld_30_3 rfl) <| pa (at_load one_28 rfl ((hS.pull 6).cell rfl)) <| p (yl_len_slice usl_28 rfl) <| p (yl_move rfl) <|
    x_done <|
    ?_
  obtain ⟨oL5, hLL5, hF⟩ := bd_s hF
  refine x_join (fun E w => ∃ (A_area8_L5 : Option Addr) (n_area8_L5 : Nat) (c_area8_L5 : Nat) (cs_area8_L5 : List Value) (area8_L5 : List Int), area8_L5 = oL5 ∧ E 0 = .pointer (some ⟨b_s0, 0, none⟩) ∧ E 2 = .slice A_l_2 l_2.length c_l_2 ∧ E 4 = .pointer (some ⟨b4, 0, none⟩) ∧ E 6 = .pointer (some ⟨b6, 0, none⟩) ∧ E 7 = .pointer (some ⟨b7, 0, none⟩) ∧ E 8 = .slice A_area8_L5 n_area8_L5 c_area8_L5 ∧ RepL (RpI .i64) ρ area8_L5 cs_area8_L5 ∧ St w0 w (cells b_s0 25 [.slice A_s0_0 s0.L.length c_s0_0, .int .i64 r2_4.2] :: cells b4 30 [.slice A_n1_0 n1.In.length c_n1_0, .slice A_n1_1 n1.Out.length c_n1_1, .slice A_n1_2 n1.Flops.length c_n1_2, .slice A_n1_3 n1.Gates.length c_n1_3, .slice A_n1_4 n1.Outs.length c_n1_4] :: cells b6 43 [.slice none 0 0, .slice none 0 0, .slice none 0 0, .slice none 0 0, .slice none 0 0, .slice none 0 0, .int .i64 0, .int .i64 0, .int .i64 0, .slice none 0 0, .slice none 0 0, .slice none 0 0, .int .i64 0, .slice none 0 0, .slice none 0 0, .slice none 0 0] :: cells b7 43 [.slice A_n1_0 n1.In.length c_n1_0, .slice A_n1_1 n1.Out.length c_n1_1, .slice A_n1_2 n1.Flops.length c_n1_2, .slice A_n1_3 n1.Gates.length c_n1_3, .slice A_n1_4 n1.Outs.length c_n1_4, .slice A_l_2 l_2.length c_l_2, .int .i64 0, .int .i64 0, .int .i64 0, .slice none 0 0, .slice none 0 0, .slice none 0 0, .int .i64 r2_4.1.Cell, .slice A_y0_ret_1_2_4 r2_4.1.Up.length c_y0_ret_1_2_4, .slice A_y0_ret_2_2_4 r2_4.1.Leaf.length c_y0_ret_2_2_4, .slice none 0 0] :: vec 3 (RpI .i64).sz (.slice A_area8_L5 n_area8_L5 c_area8_L5) n_area8_L5 cs_area8_L5 :: vec 3 (RpI .i64).sz (.slice A_y0_ret_1_2_4 r2_4.1.Up.length c_y0_ret_1_2_4) r2_4.1.Up.length cs_y0_ret_1_2_4 :: vec 3 (RpI .i64).sz (.slice A_y0_ret_2_2_4 r2_4.1.Leaf.length c_y0_ret_2_2_4) r2_4.1.Leaf.length cs_y0_ret_2_2_4 :: ro ρ :: l)) ?_ ?_
  · skip -- L5
    refine x_block ?_
    replace hS := St.vec_nil hS 3 (RpI .i64).sz
    have hnil_A_area8_L5h : RepL (RpI .i64) ρ [] [] := rfl
    refine x_loop (fun k_ E w => ∃ (A_area8_L5h : Option Addr) (n_area8_L5h : Nat) (c_area8_L5h : Nat) (cs_area8_L5h : List Value) (area8_L5h : List Int) (y35_L5h : Int), lp (P_maskmake_Stream_Chip_L5 n1 l_2) k_ (area8_L5h, y35_L5h) = some oL5 ∧ E 0 = .pointer (some ⟨b_s0, 0, none⟩) ∧ E 2 = .slice A_l_2 l_2.length c_l_2 ∧ E 4 = .pointer (some ⟨b4, 0, none⟩) ∧ E 6 = .pointer (some ⟨b6, 0, none⟩) ∧ E 7 = .pointer (some ⟨b7, 0, none⟩) ∧ E 8 = .slice A_area8_L5h n_area8_L5h c_area8_L5h ∧ E 33 = .slice A_n1_3 n1.Gates.length c_n1_3 ∧ E 34 = .int .i64 (n1.Gates.length : Int) ∧ E 35 = .int .i64 y35_L5h ∧ RepL (RpI .i64) ρ area8_L5h cs_area8_L5h ∧ St w0 w (cells b_s0 25 [.slice A_s0_0 s0.L.length c_s0_0, .int .i64 r2_4.2] :: cells b4 30 [.slice A_n1_0 n1.In.length c_n1_0, .slice A_n1_1 n1.Out.length c_n1_1, .slice A_n1_2 n1.Flops.length c_n1_2, .slice A_n1_3 n1.Gates.length c_n1_3, .slice A_n1_4 n1.Outs.length c_n1_4] :: cells b6 43 [.slice none 0 0, .slice none 0 0, .slice none 0 0, .slice none 0 0, .slice none 0 0, .slice none 0 0, .int .i64 0, .int .i64 0, .int .i64 0, .slice none 0 0, .slice none 0 0, .slice none 0 0, .int .i64 0, .slice none 0 0, .slice none 0 0, .slice none 0 0] :: cells b7 43 [.slice A_n1_0 n1.In.length c_n1_0, .slice A_n1_1 n1.Out.length c_n1_1, .slice A_n1_2 n1.Flops.length c_n1_2, .slice A_n1_3 n1.Gates.length c_n1_3, .slice A_n1_4 n1.Outs.length c_n1_4, .slice A_l_2 l_2.length c_l_2, .int .i64 0, .int .i64 0, .int .i64 0, .slice none 0 0, .slice none 0 0, .slice none 0 0, .int .i64 r2_4.1.Cell, .slice A_y0_ret_1_2_4 r2_4.1.Up.length c_y0_ret_1_2_4, .slice A_y0_ret_2_2_4 r2_4.1.Leaf.length c_y0_ret_2_2_4, .slice none 0 0] :: vec 3 (RpI .i64).sz (.slice A_area8_L5h n_area8_L5h c_area8_L5h) n_area8_L5h cs_area8_L5h :: vec 3 (RpI .i64).sz (.slice A_y0_ret_1_2_4 r2_4.1.Up.length c_y0_ret_1_2_4) r2_4.1.Up.length cs_y0_ret_1_2_4 :: vec 3 (RpI .i64).sz (.slice A_y0_ret_2_2_4 r2_4.1.Leaf.length c_y0_ret_2_2_4) r2_4.1.Leaf.length cs_y0_ret_2_2_4 :: ro ρ :: l)) fuel ⟨none, 0, 0, [], [], 0, hLL5, rfl, rfl, rfl, rfl, rfl, rfl, rfl, rfl, rfl, hnil_A_area8_L5h, ((((((((hS.pull 5).pull 4).pull 4).pull 3).pull 4).pull 6).pull 7).pull 7)⟩ ?_
    rintro kL5 E w ⟨A_area8_L5h, n_area8_L5h, c_area8_L5h, cs_area8_L5h, area8_L5h, y35_L5h, hLL5, eL5h_0, eL5h_2, eL5h_4, eL5h_6, eL5h_7, eL5h_8, eL5h_33, eL5h_34, eL5h_35, h_area8_L5h, hS⟩
    obtain rfl := St.vec_n (hS.pull 4) h_area8_L5h
    obtain ⟨kL5, obL5, rfl, hFL5, hLL5⟩ := lp_s hLL5
    refine x_seq <| x_region <| p (yl_lss eL5h_35 eL5h_34) <| x_done <|
      x_seq <|
      x_cond_p (y35_L5h < (n1.Gates.length : Int)) rfl (fun hc36 => ?_) (fun hc36 => ?_)
    · replace hFL5 := it_t hc36 hFL5
      obtain ⟨hk6_0, hFL5⟩ := ck_s hFL5
      obtain ⟨y6_1, hy6_1, hFL5⟩ := lv_s hFL5
      obtain ⟨el6_1, ek6_1, ee6_1⟩ := h_n1_3.get hk6_0
      rw [← hy6_1] at ek6_1
      obtain ⟨A6_1_2, n6_1_2, c6_1_2, rfl, f6_1_2⟩ := ek6_1
      obtain rfl := f6_1_2.n
      refine x_skip <| x_seq <| x_block <| x_seq <|
        x_region <| p (yix_f sl_28 eL5h_33 eL5h_35 h_n1_3 hk6_0) <| pa (v := .agg #[.int .i64 y6_1.Cell, .int .u64 y6_1.Table, .slice A6_1_2 y6_1.Ins.length c6_1_2]) (at_loadAgg agg_49 rfl rfl (Elt.every ee6_1 (hS.pull 7))) <|
        ?_
      refine o_alloc zero_49 hS (fun b10 w' hS => ?_)
      refine o_storeAgg (news := [.int .i64 y6_1.Cell, .int .u64 y6_1.Table, .slice A6_1_2 y6_1.Ins.length c6_1_2]) agg_49 rfl rfl rfl (by simp [over_length]) hS (fun w' hS => ?_)
      obtain ⟨hk7_4, hFL5⟩ := ck_s hFL5
      obtain ⟨y7_6, hy7_6, hFL5⟩ := lv_s hFL5
      obtain ⟨el7_6, ek7_6, ee7_6⟩ := h_l_2.get hk7_4
      rw [← hy7_6] at ek7_6
      obtain ⟨A7_6_5, n7_6_5, c7_6_5, A7_6_6, n7_6_6, c7_6_6, A7_6_7, n7_6_7, c7_6_7, rfl, f7_6_5, f7_6_6, f7_6_7⟩ := ek7_6
      obtain rfl := f7_6_5.n
      obtain rfl := f7_6_6.n
      obtain rfl := f7_6_7.n
      refine x_done <| x_region <| p (yl_move eL5h_8) <| p (yl_move eL5h_2) <|
        p (yl_field0 fld_49_0 rfl) <| pa (at_load one_3 rfl (hS.cell rfl)) <| p (yix_f sl_31 rfl rfl h_l_2 hk7_4) <| p (yl_fieldAddr fld_51_4 rfl) <|
        pa (at_load one_3 rfl (Elt.ld (j := 4) ee7_6 (hS.pull 8) rfl)) <|
        ?_
      refine o_buildSlice (vs := [.int .i64 y7_6.Area]) (cs := [.int .i64 y7_6.Area]) sl_22 zero_3 (parts_eq (pt (va := .int .i64 y7_6.Area) rfl pt0)) rfl (by intro v hv; simp only [List.mem_cons, List.not_mem_nil, or_false] at hv; first | (subst hv; rfl) | (rcases hv with rfl <;> rfl)) (by decide) rfl hS (fun b46 w' hS => ?_)
      obtain ⟨z7_8, hz7_8, hFL5⟩ := lv_s hFL5
      obtain ⟨hk7_8, hFL5⟩ := ck_s hFL5
      refine o_ap sl_22 zero_3 rfl (by decide) rfl rfl (hS.pull 6) h_area8_L5h (src_blk usl_22 hS rfl rfl) (RepL.cons (R := (RpI .i64)) (ρ := ρ) (x := y7_6.Area) (cs := [.int .i64 y7_6.Area]) rfl RepL.nil) hz7_8 hk7_8 (fun A47 c47 cs47 w' hr47 hS => ?_)
      obtain ⟨x48, hx48, hFL5⟩ := ar_s hFL5
      refine p (yl_assign rfl) <| x_done <| x_blk <| x_region <|
        p (yadd eL5h_35 rfl hx48) <| p (yl_move rfl) <| x_done <|
        ?_
      obtain rfl := Option.some.inj (show some _ = some _ from hFL5)
      exact x_inv ⟨kL5, Nat.lt_succ_self _, A47, z7_8.length, c47, cs47, z7_8, x48, hLL5, eL5h_0, eL5h_2, eL5h_4, eL5h_6, eL5h_7, rfl, eL5h_33, eL5h_34, rfl, hr47, ((((((((((hS.pull 1).drop.pull 1).drop.pull 7).pull 7).pull 7).pull 3).pull 7).pull 7).pull 7).pull 7)⟩
    · replace hFL5 := it_f hc36 hFL5
      refine x_exitTo _ rfl <|
        ?_
      obtain rfl := Option.some.inj (show some _ = some _ from hFL5)
      exact x_inv ⟨A_area8_L5h, area8_L5h.length, c_area8_L5h, cs_area8_L5h, area8_L5h, hLL5, eL5h_0, eL5h_2, eL5h_4, eL5h_6, eL5h_7, eL5h_8, h_area8_L5h, ((((((((hS.pull 7).pull 7).pull 7).pull 7).pull 7).pull 7).pull 7).pull 7)⟩
  rintro E w ⟨A_area8_L5, n_area8_L5, c_area8_L5, cs_area8_L5, area8_L5, rfl, eL5_0, eL5_2, eL5_4, eL5_6, eL5_7, eL5_8, h_area8_L5, hS⟩
  obtain rfl := St.vec_n (hS.pull 4) h_area8_L5
  refine x_seq <| x_seq <| x_region <| p (yl_field0 fld_30_2 eL5_4) <|
    pa (at_load one_27 rfl ((hS.pull 1).cell rfl)) <| p (yl_len_slice usl_27 rfl) <| p (yl_move rfl) <| x_done <|
    ?_
  obtain ⟨oL10, hLL10, hF⟩ := bd_s hF
  refine x_join (fun E w => ∃ (A_area8_L10 : Option Addr) (n_area8_L10 : Nat) (c_area8_L10 : Nat) (cs_area8_L10 : List Value) (area8_L10 : List Int), area8_L10 = oL10 ∧ E 0 = .pointer (some ⟨b_s0, 0, none⟩) ∧ E 2 = .slice A_l_2 l_2.length c_l_2 ∧ E 4 = .pointer (some ⟨b4, 0, none⟩) ∧ E 6 = .pointer (some ⟨b6, 0, none⟩) ∧ E 7 = .pointer (some ⟨b7, 0, none⟩) ∧ E 8 = .slice A_area8_L10 n_area8_L10 c_area8_L10 ∧ RepL (RpI .i64) ρ area8_L10 cs_area8_L10 ∧ St w0 w (cells b_s0 25 [.slice A_s0_0 s0.L.length c_s0_0, .int .i64 r2_4.2] :: cells b4 30 [.slice A_n1_0 n1.In.length c_n1_0, .slice A_n1_1 n1.Out.length c_n1_1, .slice A_n1_2 n1.Flops.length c_n1_2, .slice A_n1_3 n1.Gates.length c_n1_3, .slice A_n1_4 n1.Outs.length c_n1_4] :: cells b6 43 [.slice none 0 0, .slice none 0 0, .slice none 0 0, .slice none 0 0, .slice none 0 0, .slice none 0 0, .int .i64 0, .int .i64 0, .int .i64 0, .slice none 0 0, .slice none 0 0, .slice none 0 0, .int .i64 0, .slice none 0 0, .slice none 0 0, .slice none 0 0] :: cells b7 43 [.slice A_n1_0 n1.In.length c_n1_0, .slice A_n1_1 n1.Out.length c_n1_1, .slice A_n1_2 n1.Flops.length c_n1_2, .slice A_n1_3 n1.Gates.length c_n1_3, .slice A_n1_4 n1.Outs.length c_n1_4, .slice A_l_2 l_2.length c_l_2, .int .i64 0, .int .i64 0, .int .i64 0, .slice none 0 0, .slice none 0 0, .slice none 0 0, .int .i64 r2_4.1.Cell, .slice A_y0_ret_1_2_4 r2_4.1.Up.length c_y0_ret_1_2_4, .slice A_y0_ret_2_2_4 r2_4.1.Leaf.length c_y0_ret_2_2_4, .slice none 0 0] :: vec 3 (RpI .i64).sz (.slice A_area8_L10 n_area8_L10 c_area8_L10) n_area8_L10 cs_area8_L10 :: vec 3 (RpI .i64).sz (.slice A_y0_ret_1_2_4 r2_4.1.Up.length c_y0_ret_1_2_4) r2_4.1.Up.length cs_y0_ret_1_2_4 :: vec 3 (RpI .i64).sz (.slice A_y0_ret_2_2_4 r2_4.1.Leaf.length c_y0_ret_2_2_4) r2_4.1.Leaf.length cs_y0_ret_2_2_4 :: ro ρ :: l)) ?_ ?_
  · skip -- L10
    refine x_block ?_
    refine x_loop (fun k_ E w => ∃ (A_area8_L10h : Option Addr) (n_area8_L10h : Nat) (c_area8_L10h : Nat) (cs_area8_L10h : List Value) (area8_L10h : List Int) (y52_L10h : Int), lp (P_maskmake_Stream_Chip_L10 n1 l_2) k_ (area8_L10h, y52_L10h) = some oL10 ∧ E 0 = .pointer (some ⟨b_s0, 0, none⟩) ∧ E 2 = .slice A_l_2 l_2.length c_l_2 ∧ E 4 = .pointer (some ⟨b4, 0, none⟩) ∧ E 6 = .pointer (some ⟨b6, 0, none⟩) ∧ E 7 = .pointer (some ⟨b7, 0, none⟩) ∧ E 8 = .slice A_area8_L10h n_area8_L10h c_area8_L10h ∧ E 50 = .slice A_n1_2 n1.Flops.length c_n1_2 ∧ E 51 = .int .i64 (n1.Flops.length : Int) ∧ E 52 = .int .i64 y52_L10h ∧ RepL (RpI .i64) ρ area8_L10h cs_area8_L10h ∧ St w0 w (cells b_s0 25 [.slice A_s0_0 s0.L.length c_s0_0, .int .i64 r2_4.2] :: cells b4 30 [.slice A_n1_0 n1.In.length c_n1_0, .slice A_n1_1 n1.Out.length c_n1_1, .slice A_n1_2 n1.Flops.length c_n1_2, .slice A_n1_3 n1.Gates.length c_n1_3, .slice A_n1_4 n1.Outs.length c_n1_4] :: cells b6 43 [.slice none 0 0, .slice none 0 0, .slice none 0 0, .slice none 0 0, .slice none 0 0, .slice none 0 0, .int .i64 0, .int .i64 0, .int .i64 0, .slice none 0 0, .slice none 0 0, .slice none 0 0, .int .i64 0, .slice none 0 0, .slice none 0 0, .slice none 0 0] :: cells b7 43 [.slice A_n1_0 n1.In.length c_n1_0, .slice A_n1_1 n1.Out.length c_n1_1, .slice A_n1_2 n1.Flops.length c_n1_2, .slice A_n1_3 n1.Gates.length c_n1_3, .slice A_n1_4 n1.Outs.length c_n1_4, .slice A_l_2 l_2.length c_l_2, .int .i64 0, .int .i64 0, .int .i64 0, .slice none 0 0, .slice none 0 0, .slice none 0 0, .int .i64 r2_4.1.Cell, .slice A_y0_ret_1_2_4 r2_4.1.Up.length c_y0_ret_1_2_4, .slice A_y0_ret_2_2_4 r2_4.1.Leaf.length c_y0_ret_2_2_4, .slice none 0 0] :: vec 3 (RpI .i64).sz (.slice A_area8_L10h n_area8_L10h c_area8_L10h) n_area8_L10h cs_area8_L10h :: vec 3 (RpI .i64).sz (.slice A_y0_ret_1_2_4 r2_4.1.Up.length c_y0_ret_1_2_4) r2_4.1.Up.length cs_y0_ret_1_2_4 :: vec 3 (RpI .i64).sz (.slice A_y0_ret_2_2_4 r2_4.1.Leaf.length c_y0_ret_2_2_4) r2_4.1.Leaf.length cs_y0_ret_2_2_4 :: ro ρ :: l)) fuel ⟨A_area8_L5, area8_L5.length, c_area8_L5, cs_area8_L5, area8_L5, 0, hLL10, eL5_0, eL5_2, eL5_4, eL5_6, eL5_7, eL5_8, rfl, rfl, rfl, h_area8_L5, ((((((((hS.pull 7).pull 7).pull 7).pull 7).pull 7).pull 7).pull 7).pull 7)⟩ ?_
    rintro kL10 E w ⟨A_area8_L10h, n_area8_L10h, c_area8_L10h, cs_area8_L10h, area8_L10h, y52_L10h, hLL10, eL10h_0, eL10h_2, eL10h_4, eL10h_6, eL10h_7, eL10h_8, eL10h_50, eL10h_51, eL10h_52, h_area8_L10h, hS⟩
    obtain rfl := St.vec_n (hS.pull 4) h_area8_L10h
    obtain ⟨kL10, obL10, rfl, hFL10, hLL10⟩ := lp_s hLL10
    refine x_seq <| x_region <| p (yl_lss eL10h_52 eL10h_51) <| x_done <|
      x_seq <|
      x_cond_p (y52_L10h < (n1.Flops.length : Int)) rfl (fun hc53 => ?_) (fun hc53 => ?_)
    · replace hFL10 := it_t hc53 hFL10
      obtain ⟨hk11_0, hFL10⟩ := ck_s hFL10
      obtain ⟨y11_1, hy11_1, hFL10⟩ := lv_s hFL10
      obtain ⟨el11_1, ek11_1, ee11_1⟩ := h_n1_2.get hk11_0
      rw [← hy11_1] at ek11_1
      obtain rfl := ek11_1
      refine x_skip <| x_seq <| x_block <| x_seq <|
        x_region <| p (yix_f sl_27 eL10h_50 eL10h_52 h_n1_2 hk11_0) <| pa (v := .agg #[.string y11_1.Name, .int .i64 y11_1.Cell, .int .i64 y11_1.D, .int .i64 y11_1.En, .bool y11_1.Init]) (at_loadAgg agg_64 rfl rfl (Elt.every ee11_1 (hS.pull 7))) <|
        ?_
      refine o_alloc zero_64 hS (fun b12 w' hS => ?_)
      refine o_storeAgg (news := [.string y11_1.Name, .int .i64 y11_1.Cell, .int .i64 y11_1.D, .int .i64 y11_1.En, .bool y11_1.Init]) agg_64 rfl rfl rfl (by simp [over_length]) hS (fun w' hS => ?_)
      obtain ⟨hk12_4, hFL10⟩ := ck_s hFL10
      obtain ⟨y12_6, hy12_6, hFL10⟩ := lv_s hFL10
      obtain ⟨el12_6, ek12_6, ee12_6⟩ := h_l_2.get hk12_4
      rw [← hy12_6] at ek12_6
      obtain ⟨A12_6_5, n12_6_5, c12_6_5, A12_6_6, n12_6_6, c12_6_6, A12_6_7, n12_6_7, c12_6_7, rfl, f12_6_5, f12_6_6, f12_6_7⟩ := ek12_6
      obtain rfl := f12_6_5.n
      obtain rfl := f12_6_6.n
      obtain rfl := f12_6_7.n
      refine x_done <| x_region <| p (yl_move eL10h_8) <| p (yl_move eL10h_2) <|
        p (yl_field0 fld_64_1 rfl) <| pa (at_load one_3 rfl (hS.cell rfl)) <| p (yix_f sl_31 rfl rfl h_l_2 hk12_4) <| p (yl_fieldAddr fld_51_4 rfl) <|
        pa (at_load one_3 rfl (Elt.ld (j := 4) ee12_6 (hS.pull 8) rfl)) <|
        ?_
      refine o_buildSlice (vs := [.int .i64 y12_6.Area]) (cs := [.int .i64 y12_6.Area]) sl_22 zero_3 (parts_eq (pt (va := .int .i64 y12_6.Area) rfl pt0)) rfl (by intro v hv; simp only [List.mem_cons, List.not_mem_nil, or_false] at hv; first | (subst hv; rfl) | (rcases hv with rfl <;> rfl)) (by decide) rfl hS (fun b63 w' hS => ?_)
      obtain ⟨z12_8, hz12_8, hFL10⟩ := lv_s hFL10
      obtain ⟨hk12_8, hFL10⟩ := ck_s hFL10
      refine o_ap sl_22 zero_3 rfl (by decide) rfl rfl (hS.pull 6) h_area8_L10h (src_blk usl_22 hS rfl rfl) (RepL.cons (R := (RpI .i64)) (ρ := ρ) (x := y12_6.Area) (cs := [.int .i64 y12_6.Area]) rfl RepL.nil) hz12_8 hk12_8 (fun A64 c64 cs64 w' hr64 hS => ?_)
      obtain ⟨x65, hx65, hFL10⟩ := ar_s hFL10
      refine p (yl_assign rfl) <| x_done <| x_blk <| x_region <|
        p (yadd eL10h_52 rfl hx65) <| p (yl_move rfl) <| x_done <|
        ?_
      obtain rfl := Option.some.inj (show some _ = some _ from hFL10)
      exact x_inv ⟨kL10, Nat.lt_succ_self _, A64, z12_8.length, c64, cs64, z12_8, x65, hLL10, eL10h_0, eL10h_2, eL10h_4, eL10h_6, eL10h_7, rfl, eL10h_50, eL10h_51, rfl, hr64, ((((((((((hS.pull 1).drop.pull 1).drop.pull 7).pull 7).pull 7).pull 3).pull 7).pull 7).pull 7).pull 7)⟩
    · replace hFL10 := it_f hc53 hFL10
      refine x_exitTo _ rfl <|
        ?_
      obtain rfl := Option.some.inj (show some _ = some _ from hFL10)
      exact x_inv ⟨A_area8_L10h, area8_L10h.length, c_area8_L10h, cs_area8_L10h, area8_L10h, hLL10, eL10h_0, eL10h_2, eL10h_4, eL10h_6, eL10h_7, eL10h_8, h_area8_L10h, ((((((((hS.pull 7).pull 7).pull 7).pull 7).pull 7).pull 7).pull 7).pull 7)⟩
  rintro E w ⟨A_area8_L10, n_area8_L10, c_area8_L10, cs_area8_L10, area8_L10, rfl, eL10_0, eL10_2, eL10_4, eL10_6, eL10_7, eL10_8, h_area8_L10, hS⟩
  obtain rfl := St.vec_n (hS.pull 4) h_area8_L10
  refine x_seq <| x_seq <| x_region <| p (yl_field0 fld_43_3 eL10_7) <|
    p (yl_fieldN fld_40_1 rfl) <| pa (at_load one_22 rfl ((hS.pull 3).cell rfl)) <| p (yl_len_slice usl_22 rfl) <| p (yl_move rfl) <|
    x_done <|
    ?_
  obtain ⟨oL15, hLL15, hF⟩ := bd_s hF
  refine x_join (fun E w => ∃ (A_area8_L15 : Option Addr) (n_area8_L15 : Nat) (c_area8_L15 : Nat) (cs_area8_L15 : List Value) (area8_L15 : List Int), area8_L15 = oL15 ∧ E 0 = .pointer (some ⟨b_s0, 0, none⟩) ∧ E 4 = .pointer (some ⟨b4, 0, none⟩) ∧ E 6 = .pointer (some ⟨b6, 0, none⟩) ∧ E 7 = .pointer (some ⟨b7, 0, none⟩) ∧ E 8 = .slice A_area8_L15 n_area8_L15 c_area8_L15 ∧ RepL (RpI .i64) ρ area8_L15 cs_area8_L15 ∧ St w0 w (cells b_s0 25 [.slice A_s0_0 s0.L.length c_s0_0, .int .i64 r2_4.2] :: cells b4 30 [.slice A_n1_0 n1.In.length c_n1_0, .slice A_n1_1 n1.Out.length c_n1_1, .slice A_n1_2 n1.Flops.length c_n1_2, .slice A_n1_3 n1.Gates.length c_n1_3, .slice A_n1_4 n1.Outs.length c_n1_4] :: cells b6 43 [.slice none 0 0, .slice none 0 0, .slice none 0 0, .slice none 0 0, .slice none 0 0, .slice none 0 0, .int .i64 0, .int .i64 0, .int .i64 0, .slice none 0 0, .slice none 0 0, .slice none 0 0, .int .i64 0, .slice none 0 0, .slice none 0 0, .slice none 0 0] :: cells b7 43 [.slice A_n1_0 n1.In.length c_n1_0, .slice A_n1_1 n1.Out.length c_n1_1, .slice A_n1_2 n1.Flops.length c_n1_2, .slice A_n1_3 n1.Gates.length c_n1_3, .slice A_n1_4 n1.Outs.length c_n1_4, .slice A_l_2 l_2.length c_l_2, .int .i64 0, .int .i64 0, .int .i64 0, .slice none 0 0, .slice none 0 0, .slice none 0 0, .int .i64 r2_4.1.Cell, .slice A_y0_ret_1_2_4 r2_4.1.Up.length c_y0_ret_1_2_4, .slice A_y0_ret_2_2_4 r2_4.1.Leaf.length c_y0_ret_2_2_4, .slice none 0 0] :: vec 3 (RpI .i64).sz (.slice A_area8_L15 n_area8_L15 c_area8_L15) n_area8_L15 cs_area8_L15 :: vec 3 (RpI .i64).sz (.slice A_y0_ret_1_2_4 r2_4.1.Up.length c_y0_ret_1_2_4) r2_4.1.Up.length cs_y0_ret_1_2_4 :: vec 3 (RpI .i64).sz (.slice A_y0_ret_2_2_4 r2_4.1.Leaf.length c_y0_ret_2_2_4) r2_4.1.Leaf.length cs_y0_ret_2_2_4 :: ro ρ :: l)) ?_ ?_
  · skip -- L15
    refine x_block ?_
    refine x_loop (fun k_ E w => ∃ (A_area8_L15h : Option Addr) (n_area8_L15h : Nat) (c_area8_L15h : Nat) (cs_area8_L15h : List Value) (area8_L15h : List Int) (y70_L15h : Int), lp (P_maskmake_Stream_Chip_L15 l_2 r2_4) k_ (area8_L15h, y70_L15h) = some oL15 ∧ E 0 = .pointer (some ⟨b_s0, 0, none⟩) ∧ E 2 = .slice A_l_2 l_2.length c_l_2 ∧ E 4 = .pointer (some ⟨b4, 0, none⟩) ∧ E 6 = .pointer (some ⟨b6, 0, none⟩) ∧ E 7 = .pointer (some ⟨b7, 0, none⟩) ∧ E 8 = .slice A_area8_L15h n_area8_L15h c_area8_L15h ∧ E 69 = .int .i64 (r2_4.1.Up.length : Int) ∧ E 70 = .int .i64 y70_L15h ∧ RepL (RpI .i64) ρ area8_L15h cs_area8_L15h ∧ St w0 w (cells b_s0 25 [.slice A_s0_0 s0.L.length c_s0_0, .int .i64 r2_4.2] :: cells b4 30 [.slice A_n1_0 n1.In.length c_n1_0, .slice A_n1_1 n1.Out.length c_n1_1, .slice A_n1_2 n1.Flops.length c_n1_2, .slice A_n1_3 n1.Gates.length c_n1_3, .slice A_n1_4 n1.Outs.length c_n1_4] :: cells b6 43 [.slice none 0 0, .slice none 0 0, .slice none 0 0, .slice none 0 0, .slice none 0 0, .slice none 0 0, .int .i64 0, .int .i64 0, .int .i64 0, .slice none 0 0, .slice none 0 0, .slice none 0 0, .int .i64 0, .slice none 0 0, .slice none 0 0, .slice none 0 0] :: cells b7 43 [.slice A_n1_0 n1.In.length c_n1_0, .slice A_n1_1 n1.Out.length c_n1_1, .slice A_n1_2 n1.Flops.length c_n1_2, .slice A_n1_3 n1.Gates.length c_n1_3, .slice A_n1_4 n1.Outs.length c_n1_4, .slice A_l_2 l_2.length c_l_2, .int .i64 0, .int .i64 0, .int .i64 0, .slice none 0 0, .slice none 0 0, .slice none 0 0, .int .i64 r2_4.1.Cell, .slice A_y0_ret_1_2_4 r2_4.1.Up.length c_y0_ret_1_2_4, .slice A_y0_ret_2_2_4 r2_4.1.Leaf.length c_y0_ret_2_2_4, .slice none 0 0] :: vec 3 (RpI .i64).sz (.slice A_area8_L15h n_area8_L15h c_area8_L15h) n_area8_L15h cs_area8_L15h :: vec 3 (RpI .i64).sz (.slice A_y0_ret_1_2_4 r2_4.1.Up.length c_y0_ret_1_2_4) r2_4.1.Up.length cs_y0_ret_1_2_4 :: vec 3 (RpI .i64).sz (.slice A_y0_ret_2_2_4 r2_4.1.Leaf.length c_y0_ret_2_2_4) r2_4.1.Leaf.length cs_y0_ret_2_2_4 :: ro ρ :: l)) fuel ⟨A_area8_L10, area8_L10.length, c_area8_L10, cs_area8_L10, area8_L10, 0, hLL15, eL10_0, eL10_2, eL10_4, eL10_6, eL10_7, eL10_8, rfl, rfl, h_area8_L10, ((((((((hS.pull 7).pull 7).pull 7).pull 7).pull 7).pull 7).pull 7).pull 7)⟩ ?_
    rintro kL15 E w ⟨A_area8_L15h, n_area8_L15h, c_area8_L15h, cs_area8_L15h, area8_L15h, y70_L15h, hLL15, eL15h_0, eL15h_2, eL15h_4, eL15h_6, eL15h_7, eL15h_8, eL15h_69, eL15h_70, h_area8_L15h, hS⟩
    obtain rfl := St.vec_n (hS.pull 4) h_area8_L15h
    obtain ⟨kL15, obL15, rfl, hFL15, hLL15⟩ := lp_s hLL15
    refine x_seq <| x_region <| p (yl_lss eL15h_70 eL15h_69) <| x_done <|
      x_seq <|
      x_cond_p (y70_L15h < (r2_4.1.Up.length : Int)) rfl (fun hc71 => ?_) (fun hc71 => ?_)
    · replace hFL15 := it_t hc71 hFL15
      obtain ⟨hk16_5, hFL15⟩ := ck_s hFL15
      obtain ⟨y16_7, hy16_7, hFL15⟩ := lv_s hFL15
      obtain ⟨el16_7, ek16_7, ee16_7⟩ := h_l_2.get hk16_5
      rw [← hy16_7] at ek16_7
      obtain ⟨A16_7_5, n16_7_5, c16_7_5, A16_7_6, n16_7_6, c16_7_6, A16_7_7, n16_7_7, c16_7_7, rfl, f16_7_5, f16_7_6, f16_7_7⟩ := ek16_7
      obtain rfl := f16_7_5.n
      obtain rfl := f16_7_6.n
      obtain rfl := f16_7_7.n
      refine x_skip <| x_seq <| x_block <| x_region <|
        p (yl_move eL15h_8) <| p (yl_move eL15h_2) <| p (yl_field0 fld_43_3 eL15h_7) <| p (yl_fieldN fld_40_0 rfl) <|
        pa (at_load one_3 rfl ((hS.pull 3).cell rfl)) <| p (yix_f sl_31 rfl rfl h_l_2 hk16_5) <| p (yl_fieldAddr fld_51_4 rfl) <| pa (at_load one_3 rfl (Elt.ld (j := 4) ee16_7 (hS.pull 7) rfl)) <|
        ?_
      refine o_buildSlice (vs := [.int .i64 y16_7.Area]) (cs := [.int .i64 y16_7.Area]) sl_22 zero_3 (parts_eq (pt (va := .int .i64 y16_7.Area) rfl pt0)) rfl (by intro v hv; simp only [List.mem_cons, List.not_mem_nil, or_false] at hv; first | (subst hv; rfl) | (rcases hv with rfl <;> rfl)) (by decide) rfl hS (fun b80 w' hS => ?_)
      obtain ⟨z16_9, hz16_9, hFL15⟩ := lv_s hFL15
      obtain ⟨hk16_9, hFL15⟩ := ck_s hFL15
      refine o_ap sl_22 zero_3 rfl (by decide) rfl rfl (hS.pull 5) h_area8_L15h (src_blk usl_22 hS rfl rfl) (RepL.cons (R := (RpI .i64)) (ρ := ρ) (x := y16_7.Area) (cs := [.int .i64 y16_7.Area]) rfl RepL.nil) hz16_9 hk16_9 (fun A81 c81 cs81 w' hr81 hS => ?_)
      obtain ⟨x82, hx82, hFL15⟩ := ar_s hFL15
      refine p (yl_assign rfl) <| x_done <| x_blk <| x_region <|
        p (yadd eL15h_70 rfl hx82) <| p (yl_move rfl) <| x_done <|
        ?_
      obtain rfl := Option.some.inj (show some _ = some _ from hFL15)
      exact x_inv ⟨kL15, Nat.lt_succ_self _, A81, z16_9.length, c81, cs81, z16_9, x82, hLL15, eL15h_0, eL15h_2, eL15h_4, eL15h_6, eL15h_7, rfl, eL15h_69, rfl, hr81, (((((((((hS.pull 1).drop.pull 7).pull 7).pull 7).pull 3).pull 7).pull 7).pull 7).pull 7)⟩
    · replace hFL15 := it_f hc71 hFL15
      refine x_exitTo _ rfl <|
        ?_
      obtain rfl := Option.some.inj (show some _ = some _ from hFL15)
      exact x_inv ⟨A_area8_L15h, area8_L15h.length, c_area8_L15h, cs_area8_L15h, area8_L15h, hLL15, eL15h_0, eL15h_4, eL15h_6, eL15h_7, eL15h_8, h_area8_L15h, ((((((((hS.pull 7).pull 7).pull 7).pull 7).pull 7).pull 7).pull 7).pull 7)⟩
  rintro E w ⟨A_area8_L15, n_area8_L15, c_area8_L15, cs_area8_L15, area8_L15, rfl, eL15_0, eL15_4, eL15_6, eL15_7, eL15_8, h_area8_L15, hS⟩
  obtain rfl := St.vec_n (hS.pull 4) h_area8_L15
  obtain ⟨r18_1, hc18_1, hF⟩ := bd_s hF
  refine x_seq <| x_region <| p (yl_move eL15_0) <|
    ?_
  have hcall := c_maskmake_Stream_Next hc18_1 h_s0_0 ((hS.pull 7).pull 1)
  refine o_cc call_11 (args2 rfl rfl) hcall ?_
  rintro e w' ⟨rfl, hS⟩
  refine ⟨_, rfl, ?_⟩
  obtain ⟨x85, hx85, hF⟩ := ar_s hF
  refine p (yadd rfl rfl hx85) <| p (yl_assign rfl) <| x_done <| x_seq <|
    x_region <| p (yl_assign rfl) <| p (yl_assign rfl) <| x_done <|
    x_seq <| x_seq <| x_region <| p (yl_move eL15_8) <|
    p (yl_len_slice usl_22 rfl) <| p (yl_move rfl) <| x_done <|
    ?_
  obtain ⟨oL21, hLL21, hF⟩ := bd_s hF
  refine x_join (fun E w => ∃ (A_b7_15_L21 : Option Addr) (n_b7_15_L21 : Nat) (c_b7_15_L21 : Nat) (cs_b7_15_L21 : List Value) (row14_L21 : Int) (b_s0_1_L21 : Int) (b7_15_L21 : List T_floor_Site), (row14_L21, b_s0_1_L21, b7_15_L21) = oL21 ∧ E 0 = .pointer (some ⟨b_s0, 0, none⟩) ∧ E 4 = .pointer (some ⟨b4, 0, none⟩) ∧ E 6 = .pointer (some ⟨b6, 0, none⟩) ∧ E 7 = .pointer (some ⟨b7, 0, none⟩) ∧ E 13 = .int .i64 x85 ∧ E 14 = .int .i64 row14_L21 ∧ RepL R_floor_Site ρ b7_15_L21 cs_b7_15_L21 ∧ St w0 w (cells b_s0 25 [.slice A_s0_0 s0.L.length c_s0_0, .int .i64 b_s0_1_L21] :: cells b4 30 [.slice A_n1_0 n1.In.length c_n1_0, .slice A_n1_1 n1.Out.length c_n1_1, .slice A_n1_2 n1.Flops.length c_n1_2, .slice A_n1_3 n1.Gates.length c_n1_3, .slice A_n1_4 n1.Outs.length c_n1_4] :: cells b6 43 [.slice none 0 0, .slice none 0 0, .slice none 0 0, .slice none 0 0, .slice none 0 0, .slice none 0 0, .int .i64 0, .int .i64 0, .int .i64 0, .slice none 0 0, .slice none 0 0, .slice none 0 0, .int .i64 0, .slice none 0 0, .slice none 0 0, .slice none 0 0] :: cells b7 43 [.slice A_n1_0 n1.In.length c_n1_0, .slice A_n1_1 n1.Out.length c_n1_1, .slice A_n1_2 n1.Flops.length c_n1_2, .slice A_n1_3 n1.Gates.length c_n1_3, .slice A_n1_4 n1.Outs.length c_n1_4, .slice A_l_2 l_2.length c_l_2, .int .i64 0, .int .i64 0, .int .i64 0, .slice none 0 0, .slice none 0 0, .slice none 0 0, .int .i64 r2_4.1.Cell, .slice A_y0_ret_1_2_4 r2_4.1.Up.length c_y0_ret_1_2_4, .slice A_y0_ret_2_2_4 r2_4.1.Leaf.length c_y0_ret_2_2_4, .slice A_b7_15_L21 n_b7_15_L21 c_b7_15_L21] :: vec 3 (RpI .i64).sz (.slice A_y0_ret_1_2_4 r2_4.1.Up.length c_y0_ret_1_2_4) r2_4.1.Up.length cs_y0_ret_1_2_4 :: vec 3 (RpI .i64).sz (.slice A_y0_ret_2_2_4 r2_4.1.Leaf.length c_y0_ret_2_2_4) r2_4.1.Leaf.length cs_y0_ret_2_2_4 :: vec 56 R_floor_Site.sz (.slice A_b7_15_L21 n_b7_15_L21 c_b7_15_L21) n_b7_15_L21 cs_b7_15_L21 :: ro ρ :: l)) ?_ ?_
  · skip -- L21
    refine x_block ?_
    replace hS := St.vec_nil hS 56 R_floor_Site.sz
    have hnil_A_b7_15_L21h : RepL R_floor_Site ρ [] [] := rfl
    refine x_loop (fun k_ E w => ∃ (A_b7_15_L21h : Option Addr) (n_b7_15_L21h : Nat) (c_b7_15_L21h : Nat) (cs_b7_15_L21h : List Value) (row14_L21h : Int) (at15_L21h : Int) (y88_L21h : Int) (b_s0_1_L21h : Int) (b7_15_L21h : List T_floor_Site), lp (P_maskmake_Stream_Chip_L21 s0 area8_L15 x85) k_ (row14_L21h, at15_L21h, y88_L21h, b_s0_1_L21h, b7_15_L21h) = some oL21 ∧ E 0 = .pointer (some ⟨b_s0, 0, none⟩) ∧ E 4 = .pointer (some ⟨b4, 0, none⟩) ∧ E 6 = .pointer (some ⟨b6, 0, none⟩) ∧ E 7 = .pointer (some ⟨b7, 0, none⟩) ∧ E 13 = .int .i64 x85 ∧ E 14 = .int .i64 row14_L21h ∧ E 15 = .int .i64 at15_L21h ∧ E 86 = .slice A_area8_L15 area8_L15.length c_area8_L15 ∧ E 87 = .int .i64 (area8_L15.length : Int) ∧ E 88 = .int .i64 y88_L21h ∧ RepL R_floor_Site ρ b7_15_L21h cs_b7_15_L21h ∧ St w0 w (cells b_s0 25 [.slice A_s0_0 s0.L.length c_s0_0, .int .i64 b_s0_1_L21h] :: cells b4 30 [.slice A_n1_0 n1.In.length c_n1_0, .slice A_n1_1 n1.Out.length c_n1_1, .slice A_n1_2 n1.Flops.length c_n1_2, .slice A_n1_3 n1.Gates.length c_n1_3, .slice A_n1_4 n1.Outs.length c_n1_4] :: cells b6 43 [.slice none 0 0, .slice none 0 0, .slice none 0 0, .slice none 0 0, .slice none 0 0, .slice none 0 0, .int .i64 0, .int .i64 0, .int .i64 0, .slice none 0 0, .slice none 0 0, .slice none 0 0, .int .i64 0, .slice none 0 0, .slice none 0 0, .slice none 0 0] :: cells b7 43 [.slice A_n1_0 n1.In.length c_n1_0, .slice A_n1_1 n1.Out.length c_n1_1, .slice A_n1_2 n1.Flops.length c_n1_2, .slice A_n1_3 n1.Gates.length c_n1_3, .slice A_n1_4 n1.Outs.length c_n1_4, .slice A_l_2 l_2.length c_l_2, .int .i64 0, .int .i64 0, .int .i64 0, .slice none 0 0, .slice none 0 0, .slice none 0 0, .int .i64 r2_4.1.Cell, .slice A_y0_ret_1_2_4 r2_4.1.Up.length c_y0_ret_1_2_4, .slice A_y0_ret_2_2_4 r2_4.1.Leaf.length c_y0_ret_2_2_4, .slice A_b7_15_L21h n_b7_15_L21h c_b7_15_L21h] :: vec 3 (RpI .i64).sz (.slice A_area8_L15 area8_L15.length c_area8_L15) area8_L15.length cs_area8_L15 :: vec 3 (RpI .i64).sz (.slice A_y0_ret_1_2_4 r2_4.1.Up.length c_y0_ret_1_2_4) r2_4.1.Up.length cs_y0_ret_1_2_4 :: vec 3 (RpI .i64).sz (.slice A_y0_ret_2_2_4 r2_4.1.Leaf.length c_y0_ret_2_2_4) r2_4.1.Leaf.length cs_y0_ret_2_2_4 :: vec 56 R_floor_Site.sz (.slice A_b7_15_L21h n_b7_15_L21h c_b7_15_L21h) n_b7_15_L21h cs_b7_15_L21h :: ro ρ :: l)) fuel ⟨none, 0, 0, [], 0, 0, 0, r18_1.2, [], hLL21, eL15_0, eL15_4, eL15_6, eL15_7, rfl, rfl, rfl, rfl, rfl, rfl, hnil_A_b7_15_L21h, (((((((((hS.pull 2).pull 1).pull 8).pull 8).pull 8).pull 8).pull 8).pull 8).pull 8)⟩ ?_
    rintro kL21 E w ⟨A_b7_15_L21h, n_b7_15_L21h, c_b7_15_L21h, cs_b7_15_L21h, row14_L21h, at15_L21h, y88_L21h, b_s0_1_L21h, b7_15_L21h, hLL21, eL21h_0, eL21h_4, eL21h_6, eL21h_7, eL21h_13, eL21h_14, eL21h_15, eL21h_86, eL21h_87, eL21h_88, h_b7_15_L21h, hS⟩
    obtain rfl := St.vec_n (hS.pull 7) h_b7_15_L21h
    obtain ⟨kL21, obL21, rfl, hFL21, hLL21⟩ := lp_s hLL21
    refine x_seq <| x_region <| p (yl_lss eL21h_88 eL21h_87) <| x_done <|
      x_seq <|
      x_cond_p (y88_L21h < (area8_L15.length : Int)) rfl (fun hc89 => ?_) (fun hc89 => ?_)
    · replace hFL21 := it_t hc89 hFL21
      obtain ⟨hk22_0, hFL21⟩ := ck_s hFL21
      obtain ⟨x91, hx91, hFL21⟩ := lv_s hFL21
      obtain ⟨r23_2, hc23_2, hFL21⟩ := bd_s hFL21
      refine x_skip <| x_seq <| x_block <| x_seq <|
        x_region <| p (yix_o sl_22 eL21h_86 eL21h_88 (hS.pull 4) h_area8_L15 hk22_0) <| pa (at_load one_3 rfl (RepL.getW h_area8_L15 (hS.pull 4) hk22_0 hx91)) <| p (yl_assign rfl) <|
        x_done <| x_seq <| x_seq <| x_region <|
        p (yl_move eL21h_15) <| p (yl_move eL21h_0) <|
        ?_
      have hcall := c_maskmake_Stream_Next hc23_2 h_s0_0 ((hS.pull 8).pull 1)
      refine o_cc call_11 (args2 rfl rfl) hcall ?_
      rintro e w' ⟨rfl, hS⟩
      refine ⟨_, rfl, ?_⟩
      obtain ⟨x95, hx95, hFL21⟩ := ar_s hFL21
      obtain ⟨x98, hx98, hFL21⟩ := ar_s hFL21
      refine p (yadd rfl rfl hx95) <| p (yl_assign rfl) <| x_done <| x_seq <|
        x_region <| p (yl_move rfl) <| p (yl_move rfl) <| p (yadd rfl rfl hx98) <|
        p (yl_move eL21h_13) <| p (yl_gtr rfl rfl) <| x_done <|
        ?_
      obtain ⟨oc100, hFc100, hFL21⟩ := bd_s hFL21
      refine x_join (fun E w => ∃ (row14_c100 : Int) (at15_c100 : Int), (row14_c100, at15_c100) = oc100 ∧ E 0 = .pointer (some ⟨b_s0, 0, none⟩) ∧ E 4 = .pointer (some ⟨b4, 0, none⟩) ∧ E 6 = .pointer (some ⟨b6, 0, none⟩) ∧ E 7 = .pointer (some ⟨b7, 0, none⟩) ∧ E 13 = .int .i64 x85 ∧ E 14 = .int .i64 row14_c100 ∧ E 15 = .int .i64 at15_c100 ∧ E 17 = .int .i64 x91 ∧ E 86 = .slice A_area8_L15 area8_L15.length c_area8_L15 ∧ E 87 = .int .i64 (area8_L15.length : Int) ∧ E 88 = .int .i64 y88_L21h ∧ St w0 w (cells b_s0 25 [.slice A_s0_0 s0.L.length c_s0_0, .int .i64 r23_2.2] :: cells b4 30 [.slice A_n1_0 n1.In.length c_n1_0, .slice A_n1_1 n1.Out.length c_n1_1, .slice A_n1_2 n1.Flops.length c_n1_2, .slice A_n1_3 n1.Gates.length c_n1_3, .slice A_n1_4 n1.Outs.length c_n1_4] :: cells b6 43 [.slice none 0 0, .slice none 0 0, .slice none 0 0, .slice none 0 0, .slice none 0 0, .slice none 0 0, .int .i64 0, .int .i64 0, .int .i64 0, .slice none 0 0, .slice none 0 0, .slice none 0 0, .int .i64 0, .slice none 0 0, .slice none 0 0, .slice none 0 0] :: cells b7 43 [.slice A_n1_0 n1.In.length c_n1_0, .slice A_n1_1 n1.Out.length c_n1_1, .slice A_n1_2 n1.Flops.length c_n1_2, .slice A_n1_3 n1.Gates.length c_n1_3, .slice A_n1_4 n1.Outs.length c_n1_4, .slice A_l_2 l_2.length c_l_2, .int .i64 0, .int .i64 0, .int .i64 0, .slice none 0 0, .slice none 0 0, .slice none 0 0, .int .i64 r2_4.1.Cell, .slice A_y0_ret_1_2_4 r2_4.1.Up.length c_y0_ret_1_2_4, .slice A_y0_ret_2_2_4 r2_4.1.Leaf.length c_y0_ret_2_2_4, .slice A_b7_15_L21h b7_15_L21h.length c_b7_15_L21h] :: vec 3 (RpI .i64).sz (.slice A_area8_L15 area8_L15.length c_area8_L15) area8_L15.length cs_area8_L15 :: vec 3 (RpI .i64).sz (.slice A_y0_ret_1_2_4 r2_4.1.Up.length c_y0_ret_1_2_4) r2_4.1.Up.length cs_y0_ret_1_2_4 :: vec 3 (RpI .i64).sz (.slice A_y0_ret_2_2_4 r2_4.1.Leaf.length c_y0_ret_2_2_4) r2_4.1.Leaf.length cs_y0_ret_2_2_4 :: vec 56 R_floor_Site.sz (.slice A_b7_15_L21h b7_15_L21h.length c_b7_15_L21h) b7_15_L21h.length cs_b7_15_L21h :: ro ρ :: l)) ?_ ?_
      · skip -- c100
        refine x_cond_p (x85 < x98) rfl (fun hc100 => ?_) (fun hc100 => ?_)
        · replace hFc100 := it_t hc100 hFc100
          obtain ⟨x102, hx102, hFc100⟩ := ar_s hFc100
          refine x_region <| p (yl_move eL21h_14) <| p (yadd rfl rfl hx102) <| p (yl_assign rfl) <|
            p (yl_assign rfl) <| x_done <|
            ?_
          exact x_inv ⟨x102, 0, (Option.some.inj (show some _ = some _ from hFc100)), eL21h_0, eL21h_4, eL21h_6, eL21h_7, eL21h_13, rfl, rfl, rfl, eL21h_86, eL21h_87, eL21h_88, (((((((((hS.pull 1).pull 8).pull 8).pull 8).pull 8).pull 8).pull 8).pull 8).pull 8)⟩
        · replace hFc100 := it_f hc100 hFc100
          refine x_skip <|
            ?_
          exact x_inv ⟨row14_L21h, x95, (Option.some.inj (show some _ = some _ from hFc100)), eL21h_0, eL21h_4, eL21h_6, eL21h_7, eL21h_13, eL21h_14, rfl, rfl, eL21h_86, eL21h_87, eL21h_88, (((((((((hS.pull 1).pull 8).pull 8).pull 8).pull 8).pull 8).pull 8).pull 8).pull 8)⟩
      rintro E w ⟨row14_c100, at15_c100, rfl, ec100_0, ec100_4, ec100_6, ec100_7, ec100_13, ec100_14, ec100_15, ec100_17, ec100_86, ec100_87, ec100_88, hS⟩
      refine x_seq <| x_region <| p (yl_field0 fld_43_4 ec100_7) <| pa (at_load one_41 rfl ((hS.pull 3).cell rfl)) <|
        p (yl_move ec100_14) <| p (yl_move ec100_15) <| p (v := .agg #[.int .i64 row14_c100, .int .i64 at15_c100]) (yl_build bld_56 bldf_56 (parts_eq (pt (va := .int .i64 row14_c100) rfl (pt (va := .int .i64 at15_c100) rfl pt0))) (by kernel_rfl)) <|
        ?_
      refine o_buildSlice (vs := [.agg #[.int .i64 row14_c100, .int .i64 at15_c100]]) (cs := [.int .i64 row14_c100, .int .i64 at15_c100]) sl_41 zero_56 (parts_eq (pt (va := .agg #[.int .i64 row14_c100, .int .i64 at15_c100]) rfl pt0)) rfl (by intro v hv; simp only [List.mem_cons, List.not_mem_nil, or_false] at hv; first | (subst hv; rfl) | (rcases hv with rfl <;> rfl)) (by decide) rfl hS (fun b108 w' hS => ?_)
      obtain ⟨z26_6, hz26_6, hFL21⟩ := lv_s hFL21
      obtain ⟨hk26_6, hFL21⟩ := ck_s hFL21
      refine o_ap sl_41 zero_56 rfl (by decide) rfl rfl (hS.pull 8) h_b7_15_L21h (src_blk usl_41 hS rfl rfl) (RepL.cons (R := R_floor_Site) (ρ := ρ) (x := (T_floor_Site.mk row14_c100 at15_c100)) (cs := [.int .i64 row14_c100, .int .i64 at15_c100]) rfl RepL.nil) hz26_6 hk26_6 (fun A109 c109 cs109 w' hr109 hS => ?_)
      refine p (yl_field0 fld_43_4 ec100_7) <|
        ?_
      refine o_store1 (v := .slice A109 z26_6.length c109) one_41 rfl rfl rfl rfl (hS.pull 5) (fun w' hS => ?_)
      obtain ⟨x113, hx113, hFL21⟩ := ar_s hFL21
      obtain ⟨x114, hx114, hFL21⟩ := ar_s hFL21
      refine x_done <| x_region <| p (yl_move ec100_15) <| p (yl_move ec100_17) <|
        p (yadd rfl rfl hx113) <| p (yl_assign rfl) <| x_done <| x_blk <|
        x_region <| p (yadd ec100_88 rfl hx114) <| p (yl_move rfl) <| x_done <|
        ?_
      obtain rfl := Option.some.inj (show some _ = some _ from hFL21)
      exact x_inv ⟨kL21, Nat.lt_succ_self _, A109, z26_6.length, c109, cs109, row14_c100, x113, x114, r23_2.2, z26_6, hLL21, ec100_0, ec100_4, ec100_6, ec100_7, ec100_13, ec100_14, rfl, ec100_86, ec100_87, rfl, hr109, ((((((((((hS.pull 2).drop.pull 8).pull 2).pull 8).pull 8).pull 8).pull 5).pull 8).pull 8).pull 8)⟩
    · replace hFL21 := it_f hc89 hFL21
      refine x_exitTo _ rfl <|
        ?_
      obtain rfl := Option.some.inj (show some _ = some _ from hFL21)
      exact x_inv ⟨A_b7_15_L21h, b7_15_L21h.length, c_b7_15_L21h, cs_b7_15_L21h, row14_L21h, b_s0_1_L21h, b7_15_L21h, hLL21, eL21h_0, eL21h_4, eL21h_6, eL21h_7, eL21h_13, eL21h_14, h_b7_15_L21h, (((((((((hS.pull 4).drop.pull 7).pull 7).pull 7).pull 7).pull 7).pull 7).pull 7).pull 7)⟩
  rintro E w ⟨A_b7_15_L21, n_b7_15_L21, c_b7_15_L21, cs_b7_15_L21, row14_L21, b_s0_1_L21, b7_15_L21, rfl, eL21_0, eL21_4, eL21_6, eL21_7, eL21_13, eL21_14, h_b7_15_L21, hS⟩
  obtain rfl := St.vec_n (hS.pull 6) h_b7_15_L21
  obtain ⟨x116, hx116, hF⟩ := ar_s hF
  obtain ⟨r29_4, hc29_4, hF⟩ := bd_s hF
  refine x_seq <| x_region <| p (yl_move eL21_14) <| p (yadd rfl rfl hx116) <|
    p (yl_move eL21_13) <| p (yl_move eL21_0) <|
    ?_
  have hcall := c_maskmake_Stream_Range hc29_4 h_s0_0 ((hS.pull 7).pull 1)
  refine o_cc call_10 (args3 rfl rfl rfl) hcall ?_
  rintro e w' ⟨rfl, hS⟩
  refine ⟨_, rfl, ?_⟩
  refine p (v := .agg #[.int .i64 x116, .int .i64 x85, .int .i64 r29_4.1, .slice none 0 0, .slice none 0 0, .slice none 0 0]) (yl_build bld_38 bldf_38 (parts_eq (pt (va := .int .i64 x116) rfl (pt (va := .int .i64 x85) rfl (pt (va := .int .i64 r29_4.1) rfl pt0)))) (by kernel_rfl)) <| p (yl_field0 fld_43_2 eL21_7) <|
    ?_
  refine o_storeAgg (news := [.int .i64 x116, .int .i64 x85, .int .i64 r29_4.1, .slice none 0 0, .slice none 0 0, .slice none 0 0]) agg_38 rfl rfl rfl (by simp [over_length]) (hS.pull 4) (fun w' hS => ?_)
  refine x_done <| x_seq <| x_region <| p (yl_assign rfl) <|
    x_done <| x_seq <| x_seq <| x_region <|
    p (yl_field0 fld_30_0 eL21_4) <| pa (at_load one_26 rfl ((hS.pull 3).cell rfl)) <| p (yl_len_slice usl_26 rfl) <| p (yl_move rfl) <|
    x_done <|
    ?_
  obtain ⟨oL32, hLL32, hF⟩ := bd_s hF
  refine x_join (fun E w => ∃ (A_ports18_L32 : Option Addr) (n_ports18_L32 : Nat) (c_ports18_L32 : Nat) (cs_ports18_L32 : List Value) (ports18_L32 : List T_floor_Port), ports18_L32 = oL32 ∧ E 0 = .pointer (some ⟨b_s0, 0, none⟩) ∧ E 4 = .pointer (some ⟨b4, 0, none⟩) ∧ E 6 = .pointer (some ⟨b6, 0, none⟩) ∧ E 7 = .pointer (some ⟨b7, 0, none⟩) ∧ E 18 = .slice A_ports18_L32 n_ports18_L32 c_ports18_L32 ∧ RepL R_floor_Port ρ ports18_L32 cs_ports18_L32 ∧ St w0 w (cells b_s0 25 [.slice A_s0_0 s0.L.length c_s0_0, .int .i64 r29_4.2] :: cells b4 30 [.slice A_n1_0 n1.In.length c_n1_0, .slice A_n1_1 n1.Out.length c_n1_1, .slice A_n1_2 n1.Flops.length c_n1_2, .slice A_n1_3 n1.Gates.length c_n1_3, .slice A_n1_4 n1.Outs.length c_n1_4] :: cells b6 43 [.slice none 0 0, .slice none 0 0, .slice none 0 0, .slice none 0 0, .slice none 0 0, .slice none 0 0, .int .i64 0, .int .i64 0, .int .i64 0, .slice none 0 0, .slice none 0 0, .slice none 0 0, .int .i64 0, .slice none 0 0, .slice none 0 0, .slice none 0 0] :: cells b7 43 [.slice A_n1_0 n1.In.length c_n1_0, .slice A_n1_1 n1.Out.length c_n1_1, .slice A_n1_2 n1.Flops.length c_n1_2, .slice A_n1_3 n1.Gates.length c_n1_3, .slice A_n1_4 n1.Outs.length c_n1_4, .slice A_l_2 l_2.length c_l_2, .int .i64 x116, .int .i64 x85, .int .i64 r29_4.1, .slice none 0 0, .slice none 0 0, .slice none 0 0, .int .i64 r2_4.1.Cell, .slice A_y0_ret_1_2_4 r2_4.1.Up.length c_y0_ret_1_2_4, .slice A_y0_ret_2_2_4 r2_4.1.Leaf.length c_y0_ret_2_2_4, .slice A_b7_15_L21 b7_15_L21.length c_b7_15_L21] :: vec 66 R_floor_Port.sz (.slice A_ports18_L32 n_ports18_L32 c_ports18_L32) n_ports18_L32 cs_ports18_L32 :: vec 3 (RpI .i64).sz (.slice A_y0_ret_1_2_4 r2_4.1.Up.length c_y0_ret_1_2_4) r2_4.1.Up.length cs_y0_ret_1_2_4 :: vec 3 (RpI .i64).sz (.slice A_y0_ret_2_2_4 r2_4.1.Leaf.length c_y0_ret_2_2_4) r2_4.1.Leaf.length cs_y0_ret_2_2_4 :: vec 56 R_floor_Site.sz (.slice A_b7_15_L21 b7_15_L21.length c_b7_15_L21) b7_15_L21.length cs_b7_15_L21 :: ro ρ :: l)) ?_ ?_
  · skip -- L32
    refine x_block ?_
    replace hS := St.vec_nil hS 66 R_floor_Port.sz
    have hnil_A_ports18_L32h : RepL R_floor_Port ρ [] [] := rfl
    refine x_loop (fun k_ E w => ∃ (A_ports18_L32h : Option Addr) (n_ports18_L32h : Nat) (c_ports18_L32h : Nat) (cs_ports18_L32h : List Value) (ports18_L32h : List T_floor_Port) (y125_L32h : Int), lp (P_maskmake_Stream_Chip_L32 n1) k_ (ports18_L32h, y125_L32h) = some oL32 ∧ E 0 = .pointer (some ⟨b_s0, 0, none⟩) ∧ E 4 = .pointer (some ⟨b4, 0, none⟩) ∧ E 6 = .pointer (some ⟨b6, 0, none⟩) ∧ E 7 = .pointer (some ⟨b7, 0, none⟩) ∧ E 18 = .slice A_ports18_L32h n_ports18_L32h c_ports18_L32h ∧ E 123 = .slice A_n1_0 n1.In.length c_n1_0 ∧ E 124 = .int .i64 (n1.In.length : Int) ∧ E 125 = .int .i64 y125_L32h ∧ RepL R_floor_Port ρ ports18_L32h cs_ports18_L32h ∧ St w0 w (cells b_s0 25 [.slice A_s0_0 s0.L.length c_s0_0, .int .i64 r29_4.2] :: cells b4 30 [.slice A_n1_0 n1.In.length c_n1_0, .slice A_n1_1 n1.Out.length c_n1_1, .slice A_n1_2 n1.Flops.length c_n1_2, .slice A_n1_3 n1.Gates.length c_n1_3, .slice A_n1_4 n1.Outs.length c_n1_4] :: cells b6 43 [.slice none 0 0, .slice none 0 0, .slice none 0 0, .slice none 0 0, .slice none 0 0, .slice none 0 0, .int .i64 0, .int .i64 0, .int .i64 0, .slice none 0 0, .slice none 0 0, .slice none 0 0, .int .i64 0, .slice none 0 0, .slice none 0 0, .slice none 0 0] :: cells b7 43 [.slice A_n1_0 n1.In.length c_n1_0, .slice A_n1_1 n1.Out.length c_n1_1, .slice A_n1_2 n1.Flops.length c_n1_2, .slice A_n1_3 n1.Gates.length c_n1_3, .slice A_n1_4 n1.Outs.length c_n1_4, .slice A_l_2 l_2.length c_l_2, .int .i64 x116, .int .i64 x85, .int .i64 r29_4.1, .slice none 0 0, .slice none 0 0, .slice none 0 0, .int .i64 r2_4.1.Cell, .slice A_y0_ret_1_2_4 r2_4.1.Up.length c_y0_ret_1_2_4, .slice A_y0_ret_2_2_4 r2_4.1.Leaf.length c_y0_ret_2_2_4, .slice A_b7_15_L21 b7_15_L21.length c_b7_15_L21] :: vec 66 R_floor_Port.sz (.slice A_ports18_L32h n_ports18_L32h c_ports18_L32h) n_ports18_L32h cs_ports18_L32h :: vec 3 (RpI .i64).sz (.slice A_y0_ret_1_2_4 r2_4.1.Up.length c_y0_ret_1_2_4) r2_4.1.Up.length cs_y0_ret_1_2_4 :: vec 3 (RpI .i64).sz (.slice A_y0_ret_2_2_4 r2_4.1.Leaf.length c_y0_ret_2_2_4) r2_4.1.Leaf.length cs_y0_ret_2_2_4 :: vec 56 R_floor_Site.sz (.slice A_b7_15_L21 b7_15_L21.length c_b7_15_L21) b7_15_L21.length cs_b7_15_L21 :: ro ρ :: l)) fuel ⟨none, 0, 0, [], [], 0, hLL32, eL21_0, eL21_4, eL21_6, eL21_7, rfl, rfl, rfl, rfl, hnil_A_ports18_L32h, (((((((((hS.pull 3).pull 8).pull 8).pull 8).pull 4).pull 5).pull 8).pull 8).pull 8)⟩ ?_
    rintro kL32 E w ⟨A_ports18_L32h, n_ports18_L32h, c_ports18_L32h, cs_ports18_L32h, ports18_L32h, y125_L32h, hLL32, eL32h_0, eL32h_4, eL32h_6, eL32h_7, eL32h_18, eL32h_123, eL32h_124, eL32h_125, h_ports18_L32h, hS⟩
    obtain rfl := St.vec_n (hS.pull 4) h_ports18_L32h
    obtain ⟨kL32, obL32, rfl, hFL32, hLL32⟩ := lp_s hLL32
    refine x_seq <| x_region <| p (yl_lss eL32h_125 eL32h_124) <| x_done <|
      x_seq <|
      x_cond_p (y125_L32h < (n1.In.length : Int)) rfl (fun hc126 => ?_) (fun hc126 => ?_)
    · replace hFL32 := it_t hc126 hFL32
      obtain ⟨hk33_0, hFL32⟩ := ck_s hFL32
      obtain ⟨x128, hx128, hFL32⟩ := lv_s hFL32
      refine x_skip <| x_seq <| x_block <| x_seq <|
        x_region <| p (yix_f sl_26 eL32h_123 eL32h_125 h_n1_0 hk33_0) <| pa (at_load one_9 rfl (RdS.getW h_n1_0 (hS.pull 8) hk33_0 hx128)) <| p (yl_assign rfl) <|
        x_done <| x_region <| p (yl_move eL32h_18) <| p (yl_move rfl) <|
        p (v := .agg #[.string x128, .bool false, .int .i64 0, .int .i64 0]) (yl_build bld_66 bldf_66 (parts_eq (pt (va := .string x128) rfl pt0)) (by kernel_rfl)) <|
        ?_
      refine o_buildSlice (vs := [.agg #[.string x128, .bool false, .int .i64 0, .int .i64 0]]) (cs := [.string x128, .bool false, .int .i64 0, .int .i64 0]) sl_36 zero_66 (parts_eq (pt (va := .agg #[.string x128, .bool false, .int .i64 0, .int .i64 0]) rfl pt0)) rfl (by intro v hv; simp only [List.mem_cons, List.not_mem_nil, or_false] at hv; first | (subst hv; rfl) | (rcases hv with rfl <;> rfl)) (by decide) rfl hS (fun b132 w' hS => ?_)
      obtain ⟨z34_4, hz34_4, hFL32⟩ := lv_s hFL32
      obtain ⟨hk34_4, hFL32⟩ := ck_s hFL32
      refine o_ap sl_36 zero_66 rfl (by decide) rfl rfl (hS.pull 5) h_ports18_L32h (src_blk usl_36 hS rfl rfl) (RepL.cons (R := R_floor_Port) (ρ := ρ) (x := (T_floor_Port.mk x128 false 0 0)) (cs := [.string x128, .bool false, .int .i64 0, .int .i64 0]) rfl RepL.nil) hz34_4 hk34_4 (fun A133 c133 cs133 w' hr133 hS => ?_)
      obtain ⟨x134, hx134, hFL32⟩ := ar_s hFL32
      refine p (yl_assign rfl) <| x_done <| x_blk <| x_region <|
        p (yadd eL32h_125 rfl hx134) <| p (yl_move rfl) <| x_done <|
        ?_
      obtain rfl := Option.some.inj (show some _ = some _ from hFL32)
      exact x_inv ⟨kL32, Nat.lt_succ_self _, A133, z34_4.length, c133, cs133, z34_4, x134, hLL32, eL32h_0, eL32h_4, eL32h_6, eL32h_7, rfl, eL32h_123, eL32h_124, rfl, hr133, ((((((((((hS.pull 1).drop.pull 8).pull 8).pull 8).pull 8).pull 4).pull 8).pull 8).pull 8).pull 8)⟩
    · replace hFL32 := it_f hc126 hFL32
      refine x_exitTo _ rfl <|
        ?_
      obtain rfl := Option.some.inj (show some _ = some _ from hFL32)
      exact x_inv ⟨A_ports18_L32h, ports18_L32h.length, c_ports18_L32h, cs_ports18_L32h, ports18_L32h, hLL32, eL32h_0, eL32h_4, eL32h_6, eL32h_7, eL32h_18, h_ports18_L32h, (((((((((hS.pull 8).pull 8).pull 8).pull 8).pull 8).pull 8).pull 8).pull 8).pull 8)⟩
  rintro E w ⟨A_ports18_L32, n_ports18_L32, c_ports18_L32, cs_ports18_L32, ports18_L32, rfl, eL32_0, eL32_4, eL32_6, eL32_7, eL32_18, h_ports18_L32, hS⟩
  obtain rfl := St.vec_n (hS.pull 4) h_ports18_L32
  refine x_seq <| x_seq <| x_region <| p (yl_field0 fld_30_1 eL32_4) <|
    pa (at_load one_26 rfl ((hS.pull 1).cell rfl)) <| p (yl_len_slice usl_26 rfl) <| p (yl_move rfl) <| x_done <|
    ?_
  obtain ⟨oL37, hLL37, hF⟩ := bd_s hF
  refine x_join (fun E w => ∃ (A_ports18_L37 : Option Addr) (n_ports18_L37 : Nat) (c_ports18_L37 : Nat) (cs_ports18_L37 : List Value) (ports18_L37 : List T_floor_Port), ports18_L37 = oL37 ∧ E 0 = .pointer (some ⟨b_s0, 0, none⟩) ∧ E 4 = .pointer (some ⟨b4, 0, none⟩) ∧ E 6 = .pointer (some ⟨b6, 0, none⟩) ∧ E 7 = .pointer (some ⟨b7, 0, none⟩) ∧ E 18 = .slice A_ports18_L37 n_ports18_L37 c_ports18_L37 ∧ RepL R_floor_Port ρ ports18_L37 cs_ports18_L37 ∧ St w0 w (cells b_s0 25 [.slice A_s0_0 s0.L.length c_s0_0, .int .i64 r29_4.2] :: cells b4 30 [.slice A_n1_0 n1.In.length c_n1_0, .slice A_n1_1 n1.Out.length c_n1_1, .slice A_n1_2 n1.Flops.length c_n1_2, .slice A_n1_3 n1.Gates.length c_n1_3, .slice A_n1_4 n1.Outs.length c_n1_4] :: cells b6 43 [.slice none 0 0, .slice none 0 0, .slice none 0 0, .slice none 0 0, .slice none 0 0, .slice none 0 0, .int .i64 0, .int .i64 0, .int .i64 0, .slice none 0 0, .slice none 0 0, .slice none 0 0, .int .i64 0, .slice none 0 0, .slice none 0 0, .slice none 0 0] :: cells b7 43 [.slice A_n1_0 n1.In.length c_n1_0, .slice A_n1_1 n1.Out.length c_n1_1, .slice A_n1_2 n1.Flops.length c_n1_2, .slice A_n1_3 n1.Gates.length c_n1_3, .slice A_n1_4 n1.Outs.length c_n1_4, .slice A_l_2 l_2.length c_l_2, .int .i64 x116, .int .i64 x85, .int .i64 r29_4.1, .slice none 0 0, .slice none 0 0, .slice none 0 0, .int .i64 r2_4.1.Cell, .slice A_y0_ret_1_2_4 r2_4.1.Up.length c_y0_ret_1_2_4, .slice A_y0_ret_2_2_4 r2_4.1.Leaf.length c_y0_ret_2_2_4, .slice A_b7_15_L21 b7_15_L21.length c_b7_15_L21] :: vec 66 R_floor_Port.sz (.slice A_ports18_L37 n_ports18_L37 c_ports18_L37) n_ports18_L37 cs_ports18_L37 :: vec 3 (RpI .i64).sz (.slice A_y0_ret_1_2_4 r2_4.1.Up.length c_y0_ret_1_2_4) r2_4.1.Up.length cs_y0_ret_1_2_4 :: vec 3 (RpI .i64).sz (.slice A_y0_ret_2_2_4 r2_4.1.Leaf.length c_y0_ret_2_2_4) r2_4.1.Leaf.length cs_y0_ret_2_2_4 :: vec 56 R_floor_Site.sz (.slice A_b7_15_L21 b7_15_L21.length c_b7_15_L21) b7_15_L21.length cs_b7_15_L21 :: ro ρ :: l)) ?_ ?_
  · skip -- L37
    refine x_block ?_
    refine x_loop (fun k_ E w => ∃ (A_ports18_L37h : Option Addr) (n_ports18_L37h : Nat) (c_ports18_L37h : Nat) (cs_ports18_L37h : List Value) (ports18_L37h : List T_floor_Port) (y138_L37h : Int), lp (P_maskmake_Stream_Chip_L37 n1) k_ (ports18_L37h, y138_L37h) = some oL37 ∧ E 0 = .pointer (some ⟨b_s0, 0, none⟩) ∧ E 4 = .pointer (some ⟨b4, 0, none⟩) ∧ E 6 = .pointer (some ⟨b6, 0, none⟩) ∧ E 7 = .pointer (some ⟨b7, 0, none⟩) ∧ E 18 = .slice A_ports18_L37h n_ports18_L37h c_ports18_L37h ∧ E 136 = .slice A_n1_1 n1.Out.length c_n1_1 ∧ E 137 = .int .i64 (n1.Out.length : Int) ∧ E 138 = .int .i64 y138_L37h ∧ RepL R_floor_Port ρ ports18_L37h cs_ports18_L37h ∧ St w0 w (cells b_s0 25 [.slice A_s0_0 s0.L.length c_s0_0, .int .i64 r29_4.2] :: cells b4 30 [.slice A_n1_0 n1.In.length c_n1_0, .slice A_n1_1 n1.Out.length c_n1_1, .slice A_n1_2 n1.Flops.length c_n1_2, .slice A_n1_3 n1.Gates.length c_n1_3, .slice A_n1_4 n1.Outs.length c_n1_4] :: cells b6 43 [.slice none 0 0, .slice none 0 0, .slice none 0 0, .slice none 0 0, .slice none 0 0, .slice none 0 0, .int .i64 0, .int .i64 0, .int .i64 0, .slice none 0 0, .slice none 0 0, .slice none 0 0, .int .i64 0, .slice none 0 0, .slice none 0 0, .slice none 0 0] :: cells b7 43 [.slice A_n1_0 n1.In.length c_n1_0, .slice A_n1_1 n1.Out.length c_n1_1, .slice A_n1_2 n1.Flops.length c_n1_2, .slice A_n1_3 n1.Gates.length c_n1_3, .slice A_n1_4 n1.Outs.length c_n1_4, .slice A_l_2 l_2.length c_l_2, .int .i64 x116, .int .i64 x85, .int .i64 r29_4.1, .slice none 0 0, .slice none 0 0, .slice none 0 0, .int .i64 r2_4.1.Cell, .slice A_y0_ret_1_2_4 r2_4.1.Up.length c_y0_ret_1_2_4, .slice A_y0_ret_2_2_4 r2_4.1.Leaf.length c_y0_ret_2_2_4, .slice A_b7_15_L21 b7_15_L21.length c_b7_15_L21] :: vec 66 R_floor_Port.sz (.slice A_ports18_L37h n_ports18_L37h c_ports18_L37h) n_ports18_L37h cs_ports18_L37h :: vec 3 (RpI .i64).sz (.slice A_y0_ret_1_2_4 r2_4.1.Up.length c_y0_ret_1_2_4) r2_4.1.Up.length cs_y0_ret_1_2_4 :: vec 3 (RpI .i64).sz (.slice A_y0_ret_2_2_4 r2_4.1.Leaf.length c_y0_ret_2_2_4) r2_4.1.Leaf.length cs_y0_ret_2_2_4 :: vec 56 R_floor_Site.sz (.slice A_b7_15_L21 b7_15_L21.length c_b7_15_L21) b7_15_L21.length cs_b7_15_L21 :: ro ρ :: l)) fuel ⟨A_ports18_L32, ports18_L32.length, c_ports18_L32, cs_ports18_L32, ports18_L32, 0, hLL37, eL32_0, eL32_4, eL32_6, eL32_7, eL32_18, rfl, rfl, rfl, h_ports18_L32, (((((((((hS.pull 8).pull 8).pull 8).pull 8).pull 8).pull 8).pull 8).pull 8).pull 8)⟩ ?_
    rintro kL37 E w ⟨A_ports18_L37h, n_ports18_L37h, c_ports18_L37h, cs_ports18_L37h, ports18_L37h, y138_L37h, hLL37, eL37h_0, eL37h_4, eL37h_6, eL37h_7, eL37h_18, eL37h_136, eL37h_137, eL37h_138, h_ports18_L37h, hS⟩
    obtain rfl := St.vec_n (hS.pull 4) h_ports18_L37h
    obtain ⟨kL37, obL37, rfl, hFL37, hLL37⟩ := lp_s hLL37
    refine x_seq <| x_region <| p (yl_lss eL37h_138 eL37h_137) <| x_done <|
      x_seq <|
      x_cond_p (y138_L37h < (n1.Out.length : Int)) rfl (fun hc139 => ?_) (fun hc139 => ?_)
    · replace hFL37 := it_t hc139 hFL37
      obtain ⟨hk38_0, hFL37⟩ := ck_s hFL37
      obtain ⟨x141, hx141, hFL37⟩ := lv_s hFL37
      refine x_skip <| x_seq <| x_block <| x_seq <|
        x_region <| p (yix_f sl_26 eL37h_136 eL37h_138 h_n1_1 hk38_0) <| pa (at_load one_9 rfl (RdS.getW h_n1_1 (hS.pull 8) hk38_0 hx141)) <| p (yl_assign rfl) <|
        x_done <| x_region <| p (yl_move eL37h_18) <| p (yl_move rfl) <|
        p (v := .agg #[.string x141, .bool true, .int .i64 0, .int .i64 0]) (yl_build bld_66 bldf_66 (parts_eq (pt (va := .string x141) rfl (pt (va := .bool true) rfl pt0))) (by kernel_rfl)) <|
        ?_
      refine o_buildSlice (vs := [.agg #[.string x141, .bool true, .int .i64 0, .int .i64 0]]) (cs := [.string x141, .bool true, .int .i64 0, .int .i64 0]) sl_36 zero_66 (parts_eq (pt (va := .agg #[.string x141, .bool true, .int .i64 0, .int .i64 0]) rfl pt0)) rfl (by intro v hv; simp only [List.mem_cons, List.not_mem_nil, or_false] at hv; first | (subst hv; rfl) | (rcases hv with rfl <;> rfl)) (by decide) rfl hS (fun b145 w' hS => ?_)
      obtain ⟨z39_4, hz39_4, hFL37⟩ := lv_s hFL37
      obtain ⟨hk39_4, hFL37⟩ := ck_s hFL37
      refine o_ap sl_36 zero_66 rfl (by decide) rfl rfl (hS.pull 5) h_ports18_L37h (src_blk usl_36 hS rfl rfl) (RepL.cons (R := R_floor_Port) (ρ := ρ) (x := (T_floor_Port.mk x141 true 0 0)) (cs := [.string x141, .bool true, .int .i64 0, .int .i64 0]) rfl RepL.nil) hz39_4 hk39_4 (fun A146 c146 cs146 w' hr146 hS => ?_)
      obtain ⟨x147, hx147, hFL37⟩ := ar_s hFL37
      refine p (yl_assign rfl) <| x_done <| x_blk <| x_region <|
        p (yadd eL37h_138 rfl hx147) <| p (yl_move rfl) <| x_done <|
        ?_
      obtain rfl := Option.some.inj (show some _ = some _ from hFL37)
      exact x_inv ⟨kL37, Nat.lt_succ_self _, A146, z39_4.length, c146, cs146, z39_4, x147, hLL37, eL37h_0, eL37h_4, eL37h_6, eL37h_7, rfl, eL37h_136, eL37h_137, rfl, hr146, ((((((((((hS.pull 1).drop.pull 8).pull 8).pull 8).pull 8).pull 4).pull 8).pull 8).pull 8).pull 8)⟩
    · replace hFL37 := it_f hc139 hFL37
      refine x_exitTo _ rfl <|
        ?_
      obtain rfl := Option.some.inj (show some _ = some _ from hFL37)
      exact x_inv ⟨A_ports18_L37h, ports18_L37h.length, c_ports18_L37h, cs_ports18_L37h, ports18_L37h, hLL37, eL37h_0, eL37h_4, eL37h_6, eL37h_7, eL37h_18, h_ports18_L37h, (((((((((hS.pull 8).pull 8).pull 8).pull 8).pull 8).pull 8).pull 8).pull 8).pull 8)⟩
  rintro E w ⟨A_ports18_L37, n_ports18_L37, c_ports18_L37, cs_ports18_L37, ports18_L37, rfl, eL37_0, eL37_4, eL37_6, eL37_7, eL37_18, h_ports18_L37, hS⟩
  obtain rfl := St.vec_n (hS.pull 4) h_ports18_L37
  refine x_seq <| x_seq <| x_region <| p (yl_field0 fld_30_2 eL37_4) <|
    pa (at_load one_27 rfl ((hS.pull 1).cell rfl)) <| p (yl_len_slice usl_27 rfl) <| p (yl_gtr rfl rfl) <| x_done <|
    ?_
  obtain ⟨oc151, hFc151, hF⟩ := bd_s hF
  refine x_join (fun E w => ∃ (A_ports18_c151 : Option Addr) (n_ports18_c151 : Nat) (c_ports18_c151 : Nat) (cs_ports18_c151 : List Value) (ports18_c151 : List T_floor_Port), ports18_c151 = oc151 ∧ E 0 = .pointer (some ⟨b_s0, 0, none⟩) ∧ E 6 = .pointer (some ⟨b6, 0, none⟩) ∧ E 7 = .pointer (some ⟨b7, 0, none⟩) ∧ E 18 = .slice A_ports18_c151 n_ports18_c151 c_ports18_c151 ∧ RepL R_floor_Port ρ ports18_c151 cs_ports18_c151 ∧ St w0 w (cells b_s0 25 [.slice A_s0_0 s0.L.length c_s0_0, .int .i64 r29_4.2] :: cells b6 43 [.slice none 0 0, .slice none 0 0, .slice none 0 0, .slice none 0 0, .slice none 0 0, .slice none 0 0, .int .i64 0, .int .i64 0, .int .i64 0, .slice none 0 0, .slice none 0 0, .slice none 0 0, .int .i64 0, .slice none 0 0, .slice none 0 0, .slice none 0 0] :: cells b7 43 [.slice A_n1_0 n1.In.length c_n1_0, .slice A_n1_1 n1.Out.length c_n1_1, .slice A_n1_2 n1.Flops.length c_n1_2, .slice A_n1_3 n1.Gates.length c_n1_3, .slice A_n1_4 n1.Outs.length c_n1_4, .slice A_l_2 l_2.length c_l_2, .int .i64 x116, .int .i64 x85, .int .i64 r29_4.1, .slice none 0 0, .slice none 0 0, .slice none 0 0, .int .i64 r2_4.1.Cell, .slice A_y0_ret_1_2_4 r2_4.1.Up.length c_y0_ret_1_2_4, .slice A_y0_ret_2_2_4 r2_4.1.Leaf.length c_y0_ret_2_2_4, .slice A_b7_15_L21 b7_15_L21.length c_b7_15_L21] :: vec 66 R_floor_Port.sz (.slice A_ports18_c151 n_ports18_c151 c_ports18_c151) n_ports18_c151 cs_ports18_c151 :: vec 3 (RpI .i64).sz (.slice A_y0_ret_1_2_4 r2_4.1.Up.length c_y0_ret_1_2_4) r2_4.1.Up.length cs_y0_ret_1_2_4 :: vec 3 (RpI .i64).sz (.slice A_y0_ret_2_2_4 r2_4.1.Leaf.length c_y0_ret_2_2_4) r2_4.1.Leaf.length cs_y0_ret_2_2_4 :: vec 56 R_floor_Site.sz (.slice A_b7_15_L21 b7_15_L21.length c_b7_15_L21) b7_15_L21.length cs_b7_15_L21 :: ro ρ :: l)) ?_ ?_
  · skip -- c151
    refine x_cond_p (0 < (n1.Flops.length : Int)) rfl (fun hc151 => ?_) (fun hc151 => ?_)
    · replace hFc151 := it_t hc151 hFc151
      refine x_region <| p (yl_move eL37_18) <| p (v := .agg #[.string (⟨#[]⟩ : ByteArray), .bool false, .int .i64 0, .int .i64 0]) (yl_build bld_66 bldf_66 (parts_eq pt0) (by kernel_rfl)) <|
        ?_
      refine o_buildSlice (vs := [.agg #[.string (⟨#[]⟩ : ByteArray), .bool false, .int .i64 0, .int .i64 0]]) (cs := [.string (⟨#[]⟩ : ByteArray), .bool false, .int .i64 0, .int .i64 0]) sl_36 zero_66 (parts_eq (pt (va := .agg #[.string (⟨#[]⟩ : ByteArray), .bool false, .int .i64 0, .int .i64 0]) rfl pt0)) rfl (by intro v hv; simp only [List.mem_cons, List.not_mem_nil, or_false] at hv; first | (subst hv; rfl) | (rcases hv with rfl <;> rfl)) (by decide) rfl hS (fun b154 w' hS => ?_)
      obtain ⟨z42_3, hz42_3, hFc151⟩ := lv_s hFc151
      obtain ⟨hk42_3, hFc151⟩ := ck_s hFc151
      refine o_ap sl_36 zero_66 rfl (by decide) rfl rfl (hS.pull 5) h_ports18_L37 (src_blk usl_36 hS rfl rfl) (RepL.cons (R := R_floor_Port) (ρ := ρ) (x := (T_floor_Port.mk (⟨#[]⟩ : ByteArray) false 0 0)) (cs := [.string (⟨#[]⟩ : ByteArray), .bool false, .int .i64 0, .int .i64 0]) rfl RepL.nil) hz42_3 hk42_3 (fun A155 c155 cs155 w' hr155 hS => ?_)
      refine p (yl_assign rfl) <| x_done <|
        ?_
      exact x_inv ⟨A155, z42_3.length, c155, cs155, z42_3, (Option.some.inj (show some _ = some _ from hFc151)), eL37_0, eL37_6, eL37_7, rfl, hr155, ((((((((((hS.pull 1).drop.pull 2).drop.pull 7).pull 7).pull 7).pull 7).pull 4).pull 7).pull 7).pull 7)⟩
    · replace hFc151 := it_f hc151 hFc151
      refine x_skip <|
        ?_
      exact x_inv ⟨A_ports18_L37, ports18_L37.length, c_ports18_L37, cs_ports18_L37, ports18_L37, (Option.some.inj (show some _ = some _ from hFc151)), eL37_0, eL37_6, eL37_7, eL37_18, h_ports18_L37, (((((((((hS.pull 1).drop.pull 7).pull 7).pull 7).pull 7).pull 7).pull 7).pull 7).pull 7)⟩
  rintro E w ⟨A_ports18_c151, n_ports18_c151, c_ports18_c151, cs_ports18_c151, ports18_c151, rfl, ec151_0, ec151_6, ec151_7, ec151_18, h_ports18_c151, hS⟩
  obtain rfl := St.vec_n (hS.pull 3) h_ports18_c151
  obtain ⟨r43_3, hc43_3, hF⟩ := bd_s hF
  refine x_seq <| x_region <| p (yl_move ec151_0) <| p (yl_field0 fld_43_2 ec151_7) <|
    p (yl_move ec151_18) <|
    ?_
  replace hS := St.vec_nil hS 66 R_floor_Port.sz
  have hnl43_3 : RepL R_floor_Port ρ [] [] := rfl
  obtain ⟨ρl0, hll0, hlf0, hS0, back0⟩ := St.lend ((hS.pull 8).pull 5) h_ports18_c151
  have hcall := c_maskmake_Stream_ports_2 hc43_3 (h_s0_0.le hll0) (h_n1_0.le hll0) (h_n1_1.le hll0) (h_n1_2.le hll0) (h_n1_3.le hll0) (h_n1_4.le hll0) (h_l_2.le hll0) (RdS.nil (A := none) (c := 0)) (RdS.nil (A := none) (c := 0)) (hnl43_3.le hll0) (h_y0_ret_1_2_4.le hll0) (h_y0_ret_2_2_4.le hll0) (h_b7_15_L21.le hll0) hlf0 ((((((hS0.pull 7).pull 7).pull 7).pull 4).pull 7).pull 6)
  refine o_cc call_13 (args3 rfl rfl rfl) hcall ?_
  rintro e w' ⟨A_b_f1_11_ret_43_3, n_b_f1_11_ret_43_3, c_b_f1_11_ret_43_3, cs_b_f1_11_ret_43_3, rfl, h_b_f1_11_ret_43_3, hS⟩
  refine ⟨_, rfl, ?_⟩
  replace hS := back0 (hS.pull 6)
  replace h_b_f1_11_ret_43_3 : RepL R_floor_Port ρ r43_3.2 cs_b_f1_11_ret_43_3 := RepL.flat (fun h => h) h_b_f1_11_ret_43_3
  obtain rfl := St.vec_n (hS.pull 7) h_b_f1_11_ret_43_3
  refine x_done <| x_seq <| x_region <| pa (v := .agg #[.slice A_n1_0 n1.In.length c_n1_0, .slice A_n1_1 n1.Out.length c_n1_1, .slice A_n1_2 n1.Flops.length c_n1_2, .slice A_n1_3 n1.Gates.length c_n1_3, .slice A_n1_4 n1.Outs.length c_n1_4, .slice A_l_2 l_2.length c_l_2, .int .i64 x116, .int .i64 x85, .int .i64 r29_4.1, .slice none 0 0, .slice none 0 0, .slice A_b_f1_11_ret_43_3 r43_3.2.length c_b_f1_11_ret_43_3, .int .i64 r2_4.1.Cell, .slice A_y0_ret_1_2_4 r2_4.1.Up.length c_y0_ret_1_2_4, .slice A_y0_ret_2_2_4 r2_4.1.Leaf.length c_y0_ret_2_2_4, .slice A_b7_15_L21 b7_15_L21.length c_b7_15_L21]) (ld_sub agg_43 ec151_7 rfl rfl (hS.pull 3)) <|
    ?_
  refine o_storeAgg (news := [.slice A_n1_0 n1.In.length c_n1_0, .slice A_n1_1 n1.Out.length c_n1_1, .slice A_n1_2 n1.Flops.length c_n1_2, .slice A_n1_3 n1.Gates.length c_n1_3, .slice A_n1_4 n1.Outs.length c_n1_4, .slice A_l_2 l_2.length c_l_2, .int .i64 x116, .int .i64 x85, .int .i64 r29_4.1, .slice none 0 0, .slice none 0 0, .slice A_b_f1_11_ret_43_3 r43_3.2.length c_b_f1_11_ret_43_3, .int .i64 r2_4.1.Cell, .slice A_y0_ret_1_2_4 r2_4.1.Up.length c_y0_ret_1_2_4, .slice A_y0_ret_2_2_4 r2_4.1.Leaf.length c_y0_ret_2_2_4, .slice A_b7_15_L21 b7_15_L21.length c_b7_15_L21]) agg_43 ec151_6 rfl rfl (by simp [over_length]) (hS.pull 8) (fun w' hS => ?_)
  refine x_done <|
    ?_
  replace hS := St.vec_nil hS 78 R_floor_Block.sz
  have hnil_A_y0_ret_9 : RepL R_floor_Block ρ [] [] := rfl
  replace hS := St.vec_nil hS 80 R_floor_Wall.sz
  have hnil_A_y0_ret_10 : RepL R_floor_Wall ρ [] [] := rfl
  obtain rfl := Option.some.inj (show some _ = some _ from hF)
  exact x_return ⟨_, ⟨_, _, _, rfl, ec151_6, ldvA agg_43 rfl (fun j v hj => by rw [add0]; exact St.cell (hS.pull 2) hj), rfl⟩, A_n1_0, n1.In.length, c_n1_0, A_n1_1, n1.Out.length, c_n1_1, A_n1_2, n1.Flops.length, c_n1_2, A_n1_3, n1.Gates.length, c_n1_3, A_n1_4, n1.Outs.length, c_n1_4, A_l_2, l_2.length, c_l_2, none, 0, 0, [], none, 0, 0, [], A_b_f1_11_ret_43_3, r43_3.2.length, c_b_f1_11_ret_43_3, cs_b_f1_11_ret_43_3, A_y0_ret_1_2_4, r2_4.1.Up.length, c_y0_ret_1_2_4, cs_y0_ret_1_2_4, A_y0_ret_2_2_4, r2_4.1.Leaf.length, c_y0_ret_2_2_4, cs_y0_ret_2_2_4, A_b7_15_L21, b7_15_L21.length, c_b7_15_L21, cs_b7_15_L21, rfl, h_n1_0, h_n1_1, h_n1_2, h_n1_3, h_n1_4, h_l_2, hnil_A_y0_ret_9, hnil_A_y0_ret_10, h_b_f1_11_ret_43_3, h_y0_ret_1_2_4, h_y0_ret_2_2_4, h_b7_15_L21, (((((((((((hS.pull 2).drop.pull 2).drop.pull 4).drop.pull 2).pull 3).pull 6).pull 6).pull 6).pull 7).pull 6).pull 7)⟩
attribute [irreducible] P_maskmake_Stream_Chip

def P_floor_within (n0 : Int) (low1 : Int) (high2 : Int) : Option Bool :=
  lv ((decide (low1 ≤ n0)) && (decide (n0 ≤ high2))) fun x14 =>
  some x14
set_option maxHeartbeats 4000000 in
set_option maxRecDepth 100000 in
theorem c_floor_within {w0 w : World} {l : List Assn} {ρ : Heap} {n0 : Int} {low1 : Int} {high2 : Int} {r : Bool} (hF : P_floor_within n0 low1 high2 = some r) (hS : St w0 w (ro ρ :: l)) :
    Calls Tryd.prog 21 #[.int .i64 n0, .int .i64 low1, .int .i64 high2] w fun e w' => e = .returned (.bool r) ∧ St w0 w' (ro ρ :: l) := by
  refine enterC Tryd.func21 rfl 15 rfl (by simp) ?_
  obtain ⟨x14, hx14, hF⟩ := lv_s hF
  refine x_seq <| x_region <| p (yl_assign rfl) <| x_done <|
    x_seq <| x_region <| p (yl_move rfl) <| p (yl_move rfl) <|
    p (yl_leq rfl rfl) <| p (yl_move rfl) <| pg (v := .int .i64 n0) 10 (c := decide (low1 ≤ n0)) (says_t _) (fun hq => Yl.at (yl_move rfl)) <| pg (v := .int .i64 high2) 10 (c := decide (low1 ≤ n0)) (says_t _) (fun hq => Yl.at (yl_move rfl)) <|
    pg (v := .bool (decide (n0 ≤ high2))) 10 (c := decide (low1 ≤ n0)) (says_t _) (fun hq => Yl.at (yl_leq (cv hq) (cv hq))) <| p (yand' rfl (fun hc => (cv hc)) rfl hx14) <| p (yl_assign rfl) <| x_done <|
    ?_
  obtain rfl := Option.some.inj (show some _ = some _ from hF)
  exact x_return ⟨_, ⟨_, _, rfl, rfl, rfl⟩, rfl, hS⟩
attribute [irreducible] P_floor_within

def P_floor_validName_L2 (s0 : ByteArray) : Int → Option (Int ⊕ (Unit ⊕ Bool)) := fun y6_L2h =>
  if y6_L2h < (s0.size : Int) then
    ck (inb y6_L2h s0.size) <|
    lv (byteAt s0 y6_L2h) fun x11 =>
    ck ((!(decide (x11 < 33))) = true → inb y6_L2h s0.size) <|
    lv (byteAt s0 y6_L2h) fun x16 =>
    lv ((decide (x11 < 33)) || (decide (126 < x16))) fun x18 =>
    if x18 = true then
      some (Sum.inr (Sum.inr false))
    else
      ar (y6_L2h + 1) fun x19 =>
      some (Sum.inl x19)
  else
    some (Sum.inr (Sum.inl ()))
def P_floor_validName (s0 : ByteArray) : Option Bool :=
  bs (
    lp (P_floor_validName_L2 s0) fuel 0) (fun y => some y) fun _ =>
  some (decide ((s0.size : Int) ≤ 128))
set_option maxHeartbeats 4000000 in
set_option maxRecDepth 100000 in
theorem c_floor_validName {w0 w : World} {l : List Assn} {ρ : Heap} {s0 : ByteArray} {r : Bool} (hF : P_floor_validName s0 = some r) (hS : St w0 w (ro ρ :: l)) :
    Calls Tryd.prog 24 #[.string s0] w fun e w' => e = .returned (.bool r) ∧ St w0 w' (ro ρ :: l) := by
  refine enterC Tryd.func24 rfl 23 rfl (by simp) ?_
  refine x_seq <| x_region <| p (yl_assign rfl) <| x_done <|
    x_seq <| x_seq <| x_region <| p (yl_move rfl) <|
    p (yl_len_string us_9 rfl) <| p (yl_move rfl) <| x_done <|
    ?_
  obtain ⟨oL2, hLL2, hF⟩ := bs_s hF
  refine x_join (fun E w => (Sum.inl (())) = oL2 ∧ E 0 = .string s0 ∧ St w0 w (ro ρ :: l)) ?_ ?_
  · skip -- L2
    refine x_block ?_
    refine x_loop (fun k_ E w => ∃ (y6_L2h : Int), lp (P_floor_validName_L2 s0) k_ y6_L2h = some oL2 ∧ E 0 = .string s0 ∧ E 5 = .int .i64 (s0.size : Int) ∧ E 6 = .int .i64 y6_L2h ∧ St w0 w (ro ρ :: l)) fuel ⟨0, hLL2, rfl, rfl, rfl, hS⟩ ?_
    rintro kL2 E w ⟨y6_L2h, hLL2, eL2h_0, eL2h_5, eL2h_6, hS⟩
    obtain ⟨kL2, obL2, rfl, hFL2, hLL2⟩ := lp_s hLL2
    refine x_seq <| x_region <| p (yl_lss eL2h_6 eL2h_5) <| x_done <|
      x_seq <|
      x_cond_p (y6_L2h < (s0.size : Int)) rfl (fun hc7 => ?_) (fun hc7 => ?_)
    · replace hFL2 := it_t hc7 hFL2
      obtain ⟨hk4_2, hFL2⟩ := ck_s hFL2
      obtain ⟨x11, hx11, hFL2⟩ := lv_s hFL2
      obtain ⟨hk4_7, hFL2⟩ := ck_s hFL2
      obtain ⟨x16, hx16, hFL2⟩ := lv_s hFL2
      obtain ⟨x18, hx18, hFL2⟩ := lv_s hFL2
      refine x_skip <| x_seq <| x_block <| x_seq <|
        x_region <| p (yl_move eL2h_6) <| p (yl_assign rfl) <| x_done <|
        x_seq <| x_region <| p (yl_move eL2h_0) <| p (yl_move rfl) <|
        p (ystr us_9 rfl rfl hk4_2 hx11) <| p (yl_lss rfl rfl) <| p (yl_move rfl) <| pg (v := .string s0) 13 (c := !(decide (x11 < 33))) (says_f _) (fun hq => Yl.at (yl_move eL2h_0)) <|
        pg (v := .int .i64 y6_L2h) 13 (c := !(decide (x11 < 33))) (says_f _) (fun hq => Yl.at (yl_move rfl)) <| pg (v := .int .u8 x16) 13 (c := !(decide (x11 < 33))) (says_f _) (fun hq => Yl.at (ystr us_9 (cv hq) (cv hq) (hk4_7 hq) hx16)) <| pg (v := .bool (decide (126 < x16))) 13 (c := !(decide (x11 < 33))) (says_f _) (fun hq => Yl.at (yl_gtr (cv hq) rfl)) <| p (yor' rfl rfl (fun hc => (cv (t_not hc))) hx18) <|
        x_done <|
        x_cond (t := x18) rfl (fun hc18 => ?_) (fun hc18 => ?_)
      · replace hFL2 := it_t hc18 hFL2
        refine x_seq <| x_region <| p (yl_assign rfl) <| x_done <|
          ?_
        obtain rfl := Option.some.inj (show some _ = some _ from hFL2)
        obtain rfl := (show _ = oL2 from hLL2)
        obtain rfl := Option.some.inj (show some _ = some _ from hF)
        exact x_return ⟨_, ⟨_, _, rfl, rfl, rfl⟩, rfl, hS⟩
      · replace hFL2 := it_bf hc18 hFL2
        obtain ⟨x19, hx19, hFL2⟩ := ar_s hFL2
        refine x_skip <| x_blk <| x_region <| p (yadd eL2h_6 rfl hx19) <|
          p (yl_move rfl) <| x_done <|
          ?_
        obtain rfl := Option.some.inj (show some _ = some _ from hFL2)
        exact x_inv ⟨kL2, Nat.lt_succ_self _, x19, hLL2, eL2h_0, eL2h_5, rfl, hS⟩
    · replace hFL2 := it_f hc7 hFL2
      refine x_exitTo _ rfl <|
        ?_
      obtain rfl := Option.some.inj (show some _ = some _ from hFL2)
      exact x_inv ⟨hLL2, eL2h_0, hS⟩
  rintro E w ⟨rfl, eL2_0, hS⟩
  refine x_seq <| x_region <| p (yl_move eL2_0) <| p (yl_len_string us_9 rfl) <|
    p (yl_leq rfl rfl) <| p (yl_assign rfl) <| x_done <|
    ?_
  obtain rfl := Option.some.inj (show some _ = some _ from hF)
  exact x_return ⟨_, ⟨_, _, rfl, rfl, rfl⟩, rfl, hS⟩
attribute [irreducible] P_floor_validName

def P_floor_checkPort_L10 (y1_4 : T_floor_Port) (x77 : List T_floor_Port) : Int → Option (Int ⊕ (Unit ⊕ Int)) := fun y79_L10h =>
  if y79_L10h < (x77.length : Int) then
    ck (inb y79_L10h x77.length) <|
    lv (gt x77 y79_L10h) fun y11_1 =>
    lv ((decide (y11_1.Name = y1_4.Name)) && (y11_1.Out == y1_4.Out)) fun x94 =>
    if x94 = true then
      some (Sum.inr (Sum.inr (6 : Int)))
    else
      ar (y1_4.X - y11_1.X) fun x99 =>
      ar (y11_1.X - y1_4.X) fun x104 =>
      ar (y1_4.Y - y11_1.Y) fun x109 =>
      ar (y11_1.Y - y1_4.Y) fun x114 =>
      lv (max (max (max x99 x104) x109) x114) fun x115 =>
      if x115 < 2 then
        some (Sum.inr (Sum.inr (15 : Int)))
      else
        ar (y79_L10h + 1) fun x117 =>
        some (Sum.inl x117)
  else
    some (Sum.inr (Sum.inl ()))
def P_floor_checkPort_L18 (f0 : T_floor_Floor) (y1_4 : T_floor_Port) : Int → Option (Int ⊕ (Unit ⊕ Int)) := fun y121_L18h =>
  if y121_L18h < (f0.Walls.length : Int) then
    ck (inb y121_L18h f0.Walls.length) <|
    lv (gt f0.Walls y121_L18h) fun y19_1 =>
    bd (gd (decide (y19_1.Layer = 0)) (P_floor_within y1_4.X y19_1.X0 y19_1.X1)) fun r20_10 =>
    lv ((decide (y19_1.Layer = 0)) && r20_10) fun x136 =>
    bd (gd (x136) (P_floor_within y1_4.Y y19_1.Y0 y19_1.Y1)) fun r20_19 =>
    lv (x136 && r20_19) fun x145 =>
    if x145 = true then
      some (Sum.inr (Sum.inr (15 : Int)))
    else
      ar (y121_L18h + 1) fun x146 =>
      some (Sum.inl x146)
  else
    some (Sum.inr (Sum.inl ()))
def P_floor_checkPort (f0 : T_floor_Floor) (i1 : Int) : Option Int :=
  ck (inb i1 f0.Ports.length) <|
  lv (gt f0.Ports i1) fun y1_4 =>
  bd (P_floor_Size f0) fun r2_1 =>
  bd (P_floor_validName y1_4.Name) fun r3_2 =>
  if (!r3_2) = true then
    some (9 : Int)
  else
    lv ((decide (y1_4.Name = (⟨#[]⟩ : ByteArray))) && y1_4.Out) fun x34 =>
    if x34 = true then
      some (4 : Int)
    else
      ar (r2_1.1 - 1) fun x39 =>
      bd (P_floor_within y1_4.X 0 x39) fun r7_4 =>
      ck ((!(!r7_4)) = true → I64 (r2_1.2 - 1)) <|
      lv (r2_1.2 - 1) fun x46 =>
      bd (gd (!(!r7_4)) (P_floor_within y1_4.Y 0 x46)) fun r7_11 =>
      lv ((!r7_4) || (!r7_11)) fun x49 =>
      ck (((!x49) && (decide (0 < y1_4.X))) = true → I64 (r2_1.1 - 1)) <|
      lv (r2_1.1 - 1) fun x58 =>
      lv ((decide (0 < y1_4.X)) && (decide (y1_4.X < x58))) fun x60 =>
      lv (x60 && (decide (0 < y1_4.Y))) fun x65 =>
      ck (((!x49) && x65) = true → I64 (r2_1.2 - 1)) <|
      lv (r2_1.2 - 1) fun x70 =>
      lv (x65 && (decide (y1_4.Y < x70))) fun x72 =>
      lv (x49 || x72) fun x73 =>
      if x73 = true then
        some (2 : Int)
      else
        ck (0 ≤ (0 : Int) ∧ (0 : Int) ≤ i1 ∧ i1 ≤ f0.Ports.length) <|
        lv (sub f0.Ports 0 i1) fun x77 =>
        bs (
          lp (P_floor_checkPort_L10 y1_4 x77) fuel 0) (fun y => some y) fun _ =>
        bs (
          lp (P_floor_checkPort_L18 f0 y1_4) fuel 0) (fun y => some y) fun _ =>
        some (0 : Int)
set_option maxHeartbeats 4000000 in
set_option maxRecDepth 100000 in
theorem c_floor_checkPort {w0 w : World} {l : List Assn} {ρ : Heap} {A_f0_3 : Option Addr} {n_f0_3 : Nat} {c_f0_3 : Nat} {A_f0_4 : Option Addr} {n_f0_4 : Nat} {c_f0_4 : Nat} {A_f0_5 : Option Addr} {n_f0_5 : Nat} {c_f0_5 : Nat} {f0 : T_floor_Floor} {i1 : Int} {r : Int} (hF : P_floor_checkPort f0 i1 = some r) (h_f0_3 : RdS R_floor_Block ρ A_f0_3 n_f0_3 c_f0_3 f0.Blocks) (h_f0_4 : RdS R_floor_Wall ρ A_f0_4 n_f0_4 c_f0_4 f0.Walls) (h_f0_5 : RdS R_floor_Port ρ A_f0_5 n_f0_5 c_f0_5 f0.Ports) (hS : St w0 w (ro ρ :: l)) :
    Calls Tryd.prog 22 #[.agg #[.int .i64 f0.Rows, .int .i64 f0.Sites, .int .i64 f0.Layers, .slice A_f0_3 n_f0_3 c_f0_3, .slice A_f0_4 n_f0_4 c_f0_4, .slice A_f0_5 n_f0_5 c_f0_5], .int .i64 i1] w fun e w' => e = .returned (.int .i64 r) ∧ St w0 w' (ro ρ :: l) := by
  obtain rfl := h_f0_3.n
  obtain rfl := h_f0_4.n
  obtain rfl := h_f0_5.n
  refine enterC Tryd.func22 rfl 147 rfl (by simp) ?_
  refine x_seq <| x_region <|
    ?_
  refine o_box (cs := [.int .i64 f0.Rows, .int .i64 f0.Sites, .int .i64 f0.Layers, .slice A_f0_3 f0.Blocks.length c_f0_3, .slice A_f0_4 f0.Walls.length c_f0_4, .slice A_f0_5 f0.Ports.length c_f0_5]) rfl rfl hS (fun b2 w' hS => ?_)
  obtain ⟨hk1_3, hF⟩ := ck_s hF
  obtain ⟨y1_4, hy1_4, hF⟩ := lv_s hF
  obtain ⟨el1_4, ek1_4, ee1_4⟩ := h_f0_5.get hk1_3
  rw [← hy1_4] at ek1_4
  obtain rfl := ek1_4
  refine p (yl_assign rfl) <| x_done <| x_seq <| x_region <|
    p (yl_field0 fld_38_5 rfl) <| pa (at_load one_36 rfl (hS.cell rfl)) <| p (yl_move rfl) <| p (yix_f sl_36 rfl rfl h_f0_5 hk1_3) <|
    pa (v := .agg #[.string y1_4.Name, .bool y1_4.Out, .int .i64 y1_4.X, .int .i64 y1_4.Y]) (at_loadAgg agg_66 rfl rfl (Elt.every ee1_4 (hS.pull 1))) <|
    ?_
  refine o_alloc zero_66 hS (fun b5 w' hS => ?_)
  refine o_storeAgg (news := [.string y1_4.Name, .bool y1_4.Out, .int .i64 y1_4.X, .int .i64 y1_4.Y]) agg_66 rfl rfl rfl (by simp [over_length]) hS (fun w' hS => ?_)
  obtain ⟨r2_1, hc2_1, hF⟩ := bd_s hF
  refine x_done <| x_seq <| x_region <| pa (v := .agg #[.int .i64 f0.Rows, .int .i64 f0.Sites, .int .i64 f0.Layers, .slice A_f0_3 f0.Blocks.length c_f0_3, .slice A_f0_4 f0.Walls.length c_f0_4, .slice A_f0_5 f0.Ports.length c_f0_5]) (ld_sub agg_38 rfl rfl rfl (hS.pull 1)) <|
    ?_
  have hcall := c_floor_Size hc2_1 h_f0_3 h_f0_4 h_f0_5 (hS.pull 2)
  refine o_cc call_14 (args1 rfl) ((Calls.mono hcall (fun e w'' h => And.intro h.1 ((h.2.pull 2).pull 2)))) ?_
  rintro e w' ⟨rfl, hS⟩
  refine ⟨_, rfl, ?_⟩
  obtain ⟨r3_2, hc3_2, hF⟩ := bd_s hF
  refine p (v := .tuple #[.int .i64 r2_1.1, .int .i64 r2_1.2]) (yl_move rfl) <| p (yl_extract rfl rfl) <| p (yl_extract rfl rfl) <| p (yl_assign rfl) <|
    p (yl_assign rfl) <| x_done <| x_seq <| x_block <|
    x_seq <| x_region <| p (yl_field0 fld_66_0 rfl) <| pa (at_load one_9 rfl (hS.cell rfl)) <|
    ?_
  have hcall := c_floor_validName hc3_2  (hS.pull 2)
  refine o_cc call_24 (args1 rfl) ((Calls.mono hcall (fun e w'' h => And.intro h.1 ((h.2.pull 2).pull 2)))) ?_
  rintro e w' ⟨rfl, hS⟩
  refine ⟨_, rfl, ?_⟩
  refine p (yl_not rfl) <| p (yl_assign rfl) <| x_done <|
    x_cond (t := !r3_2) rfl (fun hc22 => ?_) (fun hc22 => ?_)
  · replace hF := it_t hc22 hF
    refine x_seq <| x_region <| p (yl_assign rfl) <| x_done <|
      ?_
    obtain rfl := Option.some.inj (show some _ = some _ from hF)
    exact x_return ⟨_, ⟨_, _, rfl, rfl, rfl⟩, rfl, hS.drop.drop⟩
  · replace hF := it_bf hc22 hF
    obtain ⟨x34, hx34, hF⟩ := lv_s hF
    refine x_seq <| x_region <| p (yl_field0 fld_66_0 rfl) <| pa (at_load one_9 rfl (hS.cell rfl)) <|
      p (yl_eql_string rfl rfl) <| p (yl_move rfl) <| pg (v := .pointer (some ⟨b5, 1, none⟩)) 31 (c := decide (y1_4.Name = (⟨#[]⟩ : ByteArray))) (says_t _) (fun hq => Yl.at (yl_field0 fld_66_1 rfl)) <| pg (v := .bool y1_4.Out) 31 (c := decide (y1_4.Name = (⟨#[]⟩ : ByteArray))) (says_t _) (fun hq => at_load one_4 (cv hq) (hS.cell rfl)) <|
      p (yand' rfl (fun hc => (cv hc)) rfl hx34) <| p (yl_assign rfl) <| x_done <|
      x_cond (t := x34) rfl (fun hc27 => ?_) (fun hc27 => ?_)
    · replace hF := it_t hc27 hF
      refine x_seq <| x_region <| p (yl_assign rfl) <| x_done <|
        ?_
      obtain rfl := Option.some.inj (show some _ = some _ from hF)
      exact x_return ⟨_, ⟨_, _, rfl, rfl, rfl⟩, rfl, hS.drop.drop⟩
    · replace hF := it_bf hc27 hF
      obtain ⟨x39, hx39, hF⟩ := ar_s hF
      obtain ⟨r7_4, hc7_4, hF⟩ := bd_s hF
      refine x_seq <| x_region <| p (yl_field0 fld_66_2 rfl) <| pa (at_load one_3 rfl (hS.cell rfl)) <|
        p (yl_move rfl) <| p (ysub rfl rfl hx39) <|
        ?_
      have hcall := c_floor_within hc7_4  (hS.pull 2)
      refine o_cc call_21 (args3 rfl rfl rfl) ((Calls.mono hcall (fun e w'' h => And.intro h.1 ((h.2.pull 2).pull 2)))) ?_
      rintro e w' ⟨rfl, hS⟩
      refine ⟨_, rfl, ?_⟩
      obtain ⟨hk7_10, hF⟩ := ck_s hF
      obtain ⟨x46, hx46, hF⟩ := lv_s hF
      obtain ⟨r7_11, hc7_11, hF⟩ := bd_s hF
      refine p (yl_not rfl) <| p (yl_move rfl) <| pg (v := .pointer (some ⟨b5, 3, none⟩)) 42 (c := !(!r7_4)) (says_f _) (fun hq => Yl.at (yl_field0 fld_66_3 rfl)) <| pg (v := .int .i64 y1_4.Y) 42 (c := !(!r7_4)) (says_f _) (fun hq => at_load one_3 (cv hq) (hS.cell rfl)) <|
        pg (v := .int .i64 r2_1.2) 42 (c := !(!r7_4)) (says_f _) (fun hq => Yl.at (yl_move rfl)) <| pg (v := .int .i64 x46) 42 (c := !(!r7_4)) (says_f _) (fun hq => Yl.at (ysub (cv hq) rfl ⟨hx46, (hk7_10 hq)⟩)) <|
        pccg (v := .bool r7_11) 42 (c := !(!r7_4)) (says_f _) call_21 (fun hq => (args3 (cv hq) rfl (cv hq))) hS (fun hq => by
          have hcall := c_floor_within (gd_t hc7_11 hq)  (hS.pull 2)
          exact (Calls.mono hcall (fun e w'' h => And.intro h.1 ((h.2.pull 2).pull 2)))) (fun w' hS => ?_)
      obtain ⟨x49, hx49, hF⟩ := lv_s hF
      obtain ⟨hk7_22, hF⟩ := ck_s hF
      obtain ⟨x58, hx58, hF⟩ := lv_s hF
      obtain ⟨x60, hx60, hF⟩ := lv_s hF
      obtain ⟨x65, hx65, hF⟩ := lv_s hF
      obtain ⟨hk7_34, hF⟩ := ck_s hF
      obtain ⟨x70, hx70, hF⟩ := lv_s hF
      obtain ⟨x72, hx72, hF⟩ := lv_s hF
      obtain ⟨x73, hx73, hF⟩ := lv_s hF
      refine pg (v := .bool (!r7_11)) 42 (c := !(!r7_4)) (says_f _) (fun hq => Yl.at (yl_not (cv hq))) <| p (yor' rfl rfl (fun hc => (cv (t_not hc))) hx49) <| p (yl_move rfl) <| pg (v := .pointer (some ⟨b5, 2, none⟩)) 50 (c := !x49) (says_f _) (fun hq => Yl.at (yl_field0 fld_66_2 rfl)) <|
        pg (v := .int .i64 y1_4.X) 50 (c := !x49) (says_f _) (fun hq => at_load one_3 (cv hq) (hS.cell rfl)) <| pg (v := .bool (decide (0 < y1_4.X))) 50 (c := !x49) (says_f _) (fun hq => Yl.at (yl_gtr (cv hq) rfl)) <| pg (v := .bool (decide (0 < y1_4.X))) 50 (c := !x49) (says_f _) (fun hq => Yl.at (yl_move (cv hq))) <| pg (v := .pointer (some ⟨b5, 2, none⟩)) 54 (c := (!x49) && (decide (0 < y1_4.X))) (says_ift _ _) (fun hq => Yl.at (yl_field0 fld_66_2 rfl)) <|
        pg (v := .int .i64 y1_4.X) 54 (c := (!x49) && (decide (0 < y1_4.X))) (says_ift _ _) (fun hq => at_load one_3 (cv hq) (hS.cell rfl)) <| pg (v := .int .i64 r2_1.1) 54 (c := (!x49) && (decide (0 < y1_4.X))) (says_ift _ _) (fun hq => Yl.at (yl_move rfl)) <| pg (v := .int .i64 x58) 54 (c := (!x49) && (decide (0 < y1_4.X))) (says_ift _ _) (fun hq => Yl.at (ysub (cv hq) rfl ⟨hx58, (hk7_22 hq)⟩)) <| pg (v := .bool (decide (y1_4.X < x58))) 54 (c := (!x49) && (decide (0 < y1_4.X))) (says_ift _ _) (fun hq => Yl.at (yl_lss (cv hq) (cv hq))) <|
        pg (v := .bool x60) 50 (c := !x49) (says_f _) (fun hq => Yl.at (yand' (cv hq) (fun hc => (cv (and_i hq hc))) rfl hx60)) <| pg (v := .bool x60) 50 (c := !x49) (says_f _) (fun hq => Yl.at (yl_move (cv hq))) <| pg (v := .pointer (some ⟨b5, 3, none⟩)) 61 (c := (!x49) && x60) (says_ift _ _) (fun hq => Yl.at (yl_field0 fld_66_3 rfl)) <| pg (v := .int .i64 y1_4.Y) 61 (c := (!x49) && x60) (says_ift _ _) (fun hq => at_load one_3 (cv hq) (hS.cell rfl)) <|
        pg (v := .bool (decide (0 < y1_4.Y))) 61 (c := (!x49) && x60) (says_ift _ _) (fun hq => Yl.at (yl_gtr (cv hq) rfl)) <| pg (v := .bool x65) 50 (c := !x49) (says_f _) (fun hq => Yl.at (yand' (cv hq) (fun hc => (cv (and_i hq hc))) rfl hx65)) <| pg (v := .bool x65) 50 (c := !x49) (says_f _) (fun hq => Yl.at (yl_move (cv hq))) <| pg (v := .pointer (some ⟨b5, 3, none⟩)) 66 (c := (!x49) && x65) (says_ift _ _) (fun hq => Yl.at (yl_field0 fld_66_3 rfl)) <|
        pg (v := .int .i64 y1_4.Y) 66 (c := (!x49) && x65) (says_ift _ _) (fun hq => at_load one_3 (cv hq) (hS.cell rfl)) <| pg (v := .int .i64 r2_1.2) 66 (c := (!x49) && x65) (says_ift _ _) (fun hq => Yl.at (yl_move rfl)) <| pg (v := .int .i64 x70) 66 (c := (!x49) && x65) (says_ift _ _) (fun hq => Yl.at (ysub (cv hq) rfl ⟨hx70, (hk7_34 hq)⟩)) <| pg (v := .bool (decide (y1_4.Y < x70))) 66 (c := (!x49) && x65) (says_ift _ _) (fun hq => Yl.at (yl_lss (cv hq) (cv hq))) <|
        pg (v := .bool x72) 50 (c := !x49) (says_f _) (fun hq => Yl.at (yand' (cv hq) (fun hc => (cv (and_i hq hc))) rfl hx72)) <| p (yor' rfl rfl (fun hc => (cv (t_not hc))) hx73) <| p (yl_assign rfl) <| x_done <|
        x_cond (t := x73) rfl (fun hc35 => ?_) (fun hc35 => ?_)
      · replace hF := it_t hc35 hF
        refine x_seq <| x_region <| p (yl_assign rfl) <| x_done <|
          ?_
        obtain rfl := Option.some.inj (show some _ = some _ from hF)
        exact x_return ⟨_, ⟨_, _, rfl, rfl, rfl⟩, rfl, hS.drop.drop⟩
      · replace hF := it_bf hc35 hF
        obtain ⟨hk9_3, hF⟩ := ck_s hF
        obtain ⟨x77, hx77, hF⟩ := lv_s hF
        refine x_skip <| x_blk <| x_seq <| x_seq <|
          x_region <| p (yl_field0 fld_38_5 rfl) <| pa (at_load one_36 rfl ((hS.pull 1).cell rfl)) <| p (yl_move rfl) <|
          ?_
        obtain ⟨A77, n77, c77, hd77, f77⟩ := RdS.sub h_f0_5 hk9_3 hx77
        refine p (ysub_h sl_36 rfl rfl hk9_3 hd77) <|
          ?_
        obtain rfl := f77.n
        refine p (yl_len_slice usl_36 rfl) <| p (yl_move rfl) <| x_done <|
          ?_
        obtain ⟨oL10, hLL10, hF⟩ := bs_s hF
        refine x_join (fun E w => (Sum.inl (())) = oL10 ∧ E 2 = .pointer (some ⟨b2, 0, none⟩) ∧ E 5 = .pointer (some ⟨b5, 0, none⟩) ∧ St w0 w (cells b2 38 [.int .i64 f0.Rows, .int .i64 f0.Sites, .int .i64 f0.Layers, .slice A_f0_3 f0.Blocks.length c_f0_3, .slice A_f0_4 f0.Walls.length c_f0_4, .slice A_f0_5 f0.Ports.length c_f0_5] :: cells b5 66 [.string y1_4.Name, .bool y1_4.Out, .int .i64 y1_4.X, .int .i64 y1_4.Y] :: ro ρ :: l)) ?_ ?_
        · skip -- L10
          refine x_block ?_
          refine x_loop (fun k_ E w => ∃ (y79_L10h : Int), lp (P_floor_checkPort_L10 y1_4 x77) k_ y79_L10h = some oL10 ∧ E 2 = .pointer (some ⟨b2, 0, none⟩) ∧ E 5 = .pointer (some ⟨b5, 0, none⟩) ∧ E 77 = .slice A77 x77.length c77 ∧ E 78 = .int .i64 (x77.length : Int) ∧ E 79 = .int .i64 y79_L10h ∧ St w0 w (cells b2 38 [.int .i64 f0.Rows, .int .i64 f0.Sites, .int .i64 f0.Layers, .slice A_f0_3 f0.Blocks.length c_f0_3, .slice A_f0_4 f0.Walls.length c_f0_4, .slice A_f0_5 f0.Ports.length c_f0_5] :: cells b5 66 [.string y1_4.Name, .bool y1_4.Out, .int .i64 y1_4.X, .int .i64 y1_4.Y] :: ro ρ :: l)) fuel ⟨0, hLL10, rfl, rfl, rfl, rfl, rfl, (((hS.pull 2).pull 1).pull 2)⟩ ?_
          rintro kL10 E w ⟨y79_L10h, hLL10, eL10h_2, eL10h_5, eL10h_77, eL10h_78, eL10h_79, hS⟩
          obtain ⟨kL10, obL10, rfl, hFL10, hLL10⟩ := lp_s hLL10
          refine x_seq <| x_region <| p (yl_lss eL10h_79 eL10h_78) <| x_done <|
            x_seq <|
            x_cond_p (y79_L10h < (x77.length : Int)) rfl (fun hc80 => ?_) (fun hc80 => ?_)
          · replace hFL10 := it_t hc80 hFL10
            obtain ⟨hk11_0, hFL10⟩ := ck_s hFL10
            obtain ⟨y11_1, hy11_1, hFL10⟩ := lv_s hFL10
            obtain ⟨el11_1, ek11_1, ee11_1⟩ := f77.get hk11_0
            rw [← hy11_1] at ek11_1
            obtain rfl := ek11_1
            refine x_skip <| x_seq <| x_block <| x_seq <|
              x_region <| p (yix_f sl_36 eL10h_77 eL10h_79 f77 hk11_0) <| pa (v := .agg #[.string y11_1.Name, .bool y11_1.Out, .int .i64 y11_1.X, .int .i64 y11_1.Y]) (at_loadAgg agg_66 rfl rfl (Elt.every ee11_1 (hS.pull 2))) <|
              ?_
            refine o_alloc zero_66 hS (fun b9 w' hS => ?_)
            refine o_storeAgg (news := [.string y11_1.Name, .bool y11_1.Out, .int .i64 y11_1.X, .int .i64 y11_1.Y]) agg_66 rfl rfl rfl (by simp [over_length]) hS (fun w' hS => ?_)
            obtain ⟨x94, hx94, hFL10⟩ := lv_s hFL10
            refine x_done <| x_seq <| x_seq <| x_region <|
              p (yl_field0 fld_66_0 rfl) <| pa (at_load one_9 rfl (hS.cell rfl)) <| p (yl_field0 fld_66_0 eL10h_5) <| pa (at_load one_9 rfl ((hS.pull 2).cell rfl)) <|
              p (yl_eql_string rfl rfl) <| p (yl_move rfl) <| pg (v := .pointer (some ⟨b9, 1, none⟩)) 88 (c := decide (y11_1.Name = y1_4.Name)) (says_t _) (fun hq => Yl.at (yl_field0 fld_66_1 rfl)) <| pg (v := .bool y11_1.Out) 88 (c := decide (y11_1.Name = y1_4.Name)) (says_t _) (fun hq => at_load one_4 (cv hq) (hS.cell rfl)) <|
              pg (v := .pointer (some ⟨b5, 1, none⟩)) 88 (c := decide (y11_1.Name = y1_4.Name)) (says_t _) (fun hq => Yl.at (yl_field0 fld_66_1 eL10h_5)) <| pg (v := .bool y1_4.Out) 88 (c := decide (y11_1.Name = y1_4.Name)) (says_t _) (fun hq => at_load one_4 (cv hq) ((hS.pull 2).cell rfl)) <| pg (v := .bool (y11_1.Out == y1_4.Out)) 88 (c := decide (y11_1.Name = y1_4.Name)) (says_t _) (fun hq => Yl.at (yeqb ub_4 (cv hq) (cv hq))) <| p (yand' rfl (fun hc => (cv hc)) rfl hx94) <|
              x_done <|
              x_cond (t := x94) rfl (fun hc94 => ?_) (fun hc94 => ?_)
            · replace hFL10 := it_t hc94 hFL10
              refine x_seq <| x_region <| p (yl_assign rfl) <| x_done <|
                ?_
              obtain rfl := Option.some.inj (show some _ = some _ from hFL10)
              obtain rfl := (show _ = oL10 from hLL10)
              obtain rfl := Option.some.inj (show some _ = some _ from hF)
              exact x_return ⟨_, ⟨_, _, rfl, rfl, rfl⟩, rfl, hS.drop.drop.drop⟩
            · replace hFL10 := it_bf hc94 hFL10
              obtain ⟨x99, hx99, hFL10⟩ := ar_s hFL10
              obtain ⟨x104, hx104, hFL10⟩ := ar_s hFL10
              obtain ⟨x109, hx109, hFL10⟩ := ar_s hFL10
              obtain ⟨x114, hx114, hFL10⟩ := ar_s hFL10
              obtain ⟨x115, hx115, hFL10⟩ := lv_s hFL10
              refine x_skip <| x_seq <| x_region <| p (yl_field0 fld_66_2 eL10h_5) <|
                pa (at_load one_3 rfl ((hS.pull 2).cell rfl)) <| p (yl_field0 fld_66_2 rfl) <| pa (at_load one_3 rfl (hS.cell rfl)) <| p (ysub rfl rfl hx99) <|
                p (yl_field0 fld_66_2 rfl) <| pa (at_load one_3 rfl (hS.cell rfl)) <| p (yl_field0 fld_66_2 eL10h_5) <| pa (at_load one_3 rfl ((hS.pull 2).cell rfl)) <|
                p (ysub rfl rfl hx104) <| p (yl_field0 fld_66_3 eL10h_5) <| pa (at_load one_3 rfl ((hS.pull 2).cell rfl)) <| p (yl_field0 fld_66_3 rfl) <|
                pa (at_load one_3 rfl (hS.cell rfl)) <| p (ysub rfl rfl hx109) <| p (yl_field0 fld_66_3 rfl) <| pa (at_load one_3 rfl (hS.cell rfl)) <|
                p (yl_field0 fld_66_3 eL10h_5) <| pa (at_load one_3 rfl ((hS.pull 2).cell rfl)) <| p (ysub rfl rfl hx114) <| p (ymax4 rfl rfl rfl rfl hx115) <|
                p (yl_lss rfl rfl) <| x_done <|
                x_cond_p (x115 < 2) rfl (fun hc116 => ?_) (fun hc116 => ?_)
              · replace hFL10 := it_t hc116 hFL10
                refine x_seq <| x_region <| p (yl_assign rfl) <| x_done <|
                  ?_
                obtain rfl := Option.some.inj (show some _ = some _ from hFL10)
                obtain rfl := (show _ = oL10 from hLL10)
                obtain rfl := Option.some.inj (show some _ = some _ from hF)
                exact x_return ⟨_, ⟨_, _, rfl, rfl, rfl⟩, rfl, hS.drop.drop.drop⟩
              · replace hFL10 := it_f hc116 hFL10
                obtain ⟨x117, hx117, hFL10⟩ := ar_s hFL10
                refine x_skip <| x_blk <| x_region <| p (yadd eL10h_79 rfl hx117) <|
                  p (yl_move rfl) <| x_done <|
                  ?_
                obtain rfl := Option.some.inj (show some _ = some _ from hFL10)
                exact x_inv ⟨kL10, Nat.lt_succ_self _, x117, hLL10, eL10h_2, eL10h_5, eL10h_77, eL10h_78, rfl, (((hS.drop.pull 2).pull 2).pull 2)⟩
          · replace hFL10 := it_f hc80 hFL10
            refine x_exitTo _ rfl <|
              ?_
            obtain rfl := Option.some.inj (show some _ = some _ from hFL10)
            exact x_inv ⟨hLL10, eL10h_2, eL10h_5, (((hS.pull 2).pull 2).pull 2)⟩
        rintro E w ⟨rfl, eL10_2, eL10_5, hS⟩
        refine x_seq <| x_seq <| x_region <| p (yl_field0 fld_38_4 eL10_2) <|
          pa (at_load one_35 rfl (hS.cell rfl)) <| p (yl_len_slice usl_35 rfl) <| p (yl_move rfl) <| x_done <|
          ?_
        obtain ⟨oL18, hLL18, hF⟩ := bs_s hF
        refine x_join (fun E w => (Sum.inl (())) = oL18 ∧ St w0 w (ro ρ :: l)) ?_ ?_
        · skip -- L18
          refine x_block ?_
          refine x_loop (fun k_ E w => ∃ (y121_L18h : Int), lp (P_floor_checkPort_L18 f0 y1_4) k_ y121_L18h = some oL18 ∧ E 5 = .pointer (some ⟨b5, 0, none⟩) ∧ E 119 = .slice A_f0_4 f0.Walls.length c_f0_4 ∧ E 120 = .int .i64 (f0.Walls.length : Int) ∧ E 121 = .int .i64 y121_L18h ∧ St w0 w (cells b5 66 [.string y1_4.Name, .bool y1_4.Out, .int .i64 y1_4.X, .int .i64 y1_4.Y] :: ro ρ :: l)) fuel ⟨0, hLL18, eL10_5, rfl, rfl, rfl, ((hS.drop.pull 1).pull 1)⟩ ?_
          rintro kL18 E w ⟨y121_L18h, hLL18, eL18h_5, eL18h_119, eL18h_120, eL18h_121, hS⟩
          obtain ⟨kL18, obL18, rfl, hFL18, hLL18⟩ := lp_s hLL18
          refine x_seq <| x_region <| p (yl_lss eL18h_121 eL18h_120) <| x_done <|
            x_seq <|
            x_cond_p (y121_L18h < (f0.Walls.length : Int)) rfl (fun hc122 => ?_) (fun hc122 => ?_)
          · replace hFL18 := it_t hc122 hFL18
            obtain ⟨hk19_0, hFL18⟩ := ck_s hFL18
            obtain ⟨y19_1, hy19_1, hFL18⟩ := lv_s hFL18
            obtain ⟨el19_1, ek19_1, ee19_1⟩ := h_f0_4.get hk19_0
            rw [← hy19_1] at ek19_1
            obtain rfl := ek19_1
            refine x_skip <| x_seq <| x_block <| x_seq <|
              x_region <| p (yix_f sl_35 eL18h_119 eL18h_121 h_f0_4 hk19_0) <| pa (v := .agg #[.int .i64 y19_1.Layer, .int .i64 y19_1.X0, .int .i64 y19_1.Y0, .int .i64 y19_1.X1, .int .i64 y19_1.Y1]) (at_loadAgg agg_80 rfl rfl (Elt.every ee19_1 (hS.pull 1))) <|
              ?_
            refine o_alloc zero_80 hS (fun b11 w' hS => ?_)
            refine o_storeAgg (news := [.int .i64 y19_1.Layer, .int .i64 y19_1.X0, .int .i64 y19_1.Y0, .int .i64 y19_1.X1, .int .i64 y19_1.Y1]) agg_80 rfl rfl rfl (by simp [over_length]) hS (fun w' hS => ?_)
            obtain ⟨r20_10, hc20_10, hFL18⟩ := bd_s hFL18
            refine x_done <| x_seq <| x_region <| p (yl_field0 fld_80_0 rfl) <|
              pa (at_load one_3 rfl (hS.cell rfl)) <| p (yl_eql rfl rfl) <| p (yl_move rfl) <| pg (v := .pointer (some ⟨b5, 2, none⟩)) 128 (c := decide (y19_1.Layer = 0)) (says_t _) (fun hq => Yl.at (yl_field0 fld_66_2 eL18h_5)) <|
              pg (v := .int .i64 y1_4.X) 128 (c := decide (y19_1.Layer = 0)) (says_t _) (fun hq => at_load one_3 (cv hq) ((hS.pull 1).cell rfl)) <| pg (v := .pointer (some ⟨b11, 1, none⟩)) 128 (c := decide (y19_1.Layer = 0)) (says_t _) (fun hq => Yl.at (yl_field0 fld_80_1 rfl)) <| pg (v := .int .i64 y19_1.X0) 128 (c := decide (y19_1.Layer = 0)) (says_t _) (fun hq => at_load one_3 (cv hq) (hS.cell rfl)) <| pg (v := .pointer (some ⟨b11, 3, none⟩)) 128 (c := decide (y19_1.Layer = 0)) (says_t _) (fun hq => Yl.at (yl_field0 fld_80_3 rfl)) <|
              pg (v := .int .i64 y19_1.X1) 128 (c := decide (y19_1.Layer = 0)) (says_t _) (fun hq => at_load one_3 (cv hq) (hS.cell rfl)) <|
              pccg (v := .bool r20_10) 128 (c := decide (y19_1.Layer = 0)) (says_t _) call_21 (fun hq => (args3 (cv hq) (cv hq) (cv hq))) hS (fun hq => by
                have hcall := c_floor_within (gd_t hc20_10 hq)  (hS.pull 2)
                exact (Calls.mono hcall (fun e w'' h => And.intro h.1 ((h.2.pull 2).pull 2)))) (fun w' hS => ?_)
            obtain ⟨x136, hx136, hFL18⟩ := lv_s hFL18
            obtain ⟨r20_19, hc20_19, hFL18⟩ := bd_s hFL18
            refine p (yand' rfl (fun hc => (cv hc)) rfl hx136) <| p (yl_move rfl) <| pg (v := .pointer (some ⟨b5, 3, none⟩)) 137 (c := x136) (says_t _) (fun hq => Yl.at (yl_field0 fld_66_3 eL18h_5)) <| pg (v := .int .i64 y1_4.Y) 137 (c := x136) (says_t _) (fun hq => at_load one_3 (cv hq) ((hS.pull 1).cell rfl)) <|
              pg (v := .pointer (some ⟨b11, 2, none⟩)) 137 (c := x136) (says_t _) (fun hq => Yl.at (yl_field0 fld_80_2 rfl)) <| pg (v := .int .i64 y19_1.Y0) 137 (c := x136) (says_t _) (fun hq => at_load one_3 (cv hq) (hS.cell rfl)) <| pg (v := .pointer (some ⟨b11, 4, none⟩)) 137 (c := x136) (says_t _) (fun hq => Yl.at (yl_field0 fld_80_4 rfl)) <| pg (v := .int .i64 y19_1.Y1) 137 (c := x136) (says_t _) (fun hq => at_load one_3 (cv hq) (hS.cell rfl)) <|
              pccg (v := .bool r20_19) 137 (c := x136) (says_t _) call_21 (fun hq => (args3 (cv hq) (cv hq) (cv hq))) hS (fun hq => by
                have hcall := c_floor_within (gd_t hc20_19 hq)  (hS.pull 2)
                exact (Calls.mono hcall (fun e w'' h => And.intro h.1 ((h.2.pull 2).pull 2)))) (fun w' hS => ?_)
            obtain ⟨x145, hx145, hFL18⟩ := lv_s hFL18
            refine p (yand' rfl (fun hc => (cv hc)) rfl hx145) <| x_done <|
              x_cond (t := x145) rfl (fun hc145 => ?_) (fun hc145 => ?_)
            · replace hFL18 := it_t hc145 hFL18
              refine x_seq <| x_region <| p (yl_assign rfl) <| x_done <|
                ?_
              obtain rfl := Option.some.inj (show some _ = some _ from hFL18)
              obtain rfl := (show _ = oL18 from hLL18)
              obtain rfl := Option.some.inj (show some _ = some _ from hF)
              exact x_return ⟨_, ⟨_, _, rfl, rfl, rfl⟩, rfl, hS.drop.drop⟩
            · replace hFL18 := it_bf hc145 hFL18
              obtain ⟨x146, hx146, hFL18⟩ := ar_s hFL18
              refine x_skip <| x_blk <| x_region <| p (yadd eL18h_121 rfl hx146) <|
                p (yl_move rfl) <| x_done <|
                ?_
              obtain rfl := Option.some.inj (show some _ = some _ from hFL18)
              exact x_inv ⟨kL18, Nat.lt_succ_self _, x146, hLL18, eL18h_5, eL18h_119, eL18h_120, rfl, ((hS.drop.pull 1).pull 1)⟩
          · replace hFL18 := it_f hc122 hFL18
            refine x_exitTo _ rfl <|
              ?_
            obtain rfl := Option.some.inj (show some _ = some _ from hFL18)
            exact x_inv ⟨hLL18, hS.drop⟩
        rintro E w ⟨rfl, hS⟩
        refine x_seq <| x_region <| p (yl_assign rfl) <| x_done <|
          ?_
        obtain rfl := Option.some.inj (show some _ = some _ from hF)
        exact x_return ⟨_, ⟨_, _, rfl, rfl, rfl⟩, rfl, hS⟩
attribute [irreducible] P_floor_checkPort

def P_floor_Check_L6 (f0 : T_floor_Floor) : Int → Option (Int ⊕ (Unit ⊕ Int)) := fun y46_L6h =>
  if y46_L6h < (f0.Blocks.length : Int) then
    ck (inb y46_L6h f0.Blocks.length) <|
    lv (gt f0.Blocks y46_L6h) fun y7_1 =>
    ar (f0.Rows - 1) fun x54 =>
    bd (P_floor_within y7_1.Row 0 x54) fun r8_5 =>
    ck ((!(!r8_5)) = true → I64 (f0.Sites - 1)) <|
    lv (f0.Sites - 1) fun x62 =>
    bd (gd (!(!r8_5)) (P_floor_within y7_1.From 0 x62)) fun r8_13 =>
    lv ((!r8_5) || (!r8_13)) fun x65 =>
    ck ((!x65) = true → I64 (y7_1.From + 1)) <|
    lv (y7_1.From + 1) fun x71 =>
    bd (gd (!x65) (P_floor_within y7_1.To x71 f0.Sites)) fun r8_24 =>
    lv (x65 || (!r8_24)) fun x76 =>
    if x76 = true then
      some (Sum.inr (Sum.inr (2 : Int)))
    else
      ar (y46_L6h + 1) fun x77 =>
      some (Sum.inl x77)
  else
    some (Sum.inr (Sum.inl ()))
def P_floor_Check_L13 (f0 : T_floor_Floor) (r11_1 : (Int × Int)) : Int → Option (Int ⊕ (Unit ⊕ Int)) := fun y86_L13h =>
  if y86_L13h < (f0.Walls.length : Int) then
    ck (inb y86_L13h f0.Walls.length) <|
    lv (gt f0.Walls y86_L13h) fun y14_1 =>
    ar (f0.Layers - 1) fun x94 =>
    bd (P_floor_within y14_1.Layer 0 x94) fun r15_5 =>
    ck ((!(!r15_5)) = true → I64 (r11_1.1 - 1)) <|
    lv (r11_1.1 - 1) fun x101 =>
    bd (gd (!(!r15_5)) (P_floor_within y14_1.X0 0 x101)) fun r15_12 =>
    lv ((!r15_5) || (!r15_12)) fun x104 =>
    ck ((!x104) = true → I64 (r11_1.2 - 1)) <|
    lv (r11_1.2 - 1) fun x109 =>
    bd (gd (!x104) (P_floor_within y14_1.Y0 0 x109)) fun r15_20 =>
    lv (x104 || (!r15_20)) fun x112 =>
    ck ((!x112) = true → I64 (r11_1.1 - 1)) <|
    lv (r11_1.1 - 1) fun x119 =>
    bd (gd (!x112) (P_floor_within y14_1.X1 y14_1.X0 x119)) fun r15_30 =>
    lv (x112 || (!r15_30)) fun x122 =>
    ck ((!x122) = true → I64 (r11_1.2 - 1)) <|
    lv (r11_1.2 - 1) fun x129 =>
    bd (gd (!x122) (P_floor_within y14_1.Y1 y14_1.Y0 x129)) fun r15_40 =>
    lv (x122 || (!r15_40)) fun x132 =>
    if x132 = true then
      some (Sum.inr (Sum.inr (2 : Int)))
    else
      ar (y86_L13h + 1) fun x133 =>
      some (Sum.inl x133)
  else
    some (Sum.inr (Sum.inl ()))
def P_floor_Check_L19 (f0 : T_floor_Floor) : Int → Option (Int ⊕ (Unit ⊕ Int)) := fun y137_L19h =>
  if y137_L19h < (f0.Ports.length : Int) then
    bd (P_floor_checkPort f0 y137_L19h) fun r21_2 =>
    if r21_2 ≠ 0 then
      some (Sum.inr (Sum.inr r21_2))
    else
      ar (y137_L19h + 1) fun x146 =>
      some (Sum.inl x146)
  else
    some (Sum.inr (Sum.inl ()))
def P_floor_Check (f0 : T_floor_Floor) : Option Int :=
  bd (P_floor_within f0.Rows 1 20) fun r1_2 =>
  bd (gd (!(!r1_2)) (P_floor_within f0.Sites 1 40)) fun r1_7 =>
  lv ((!r1_2) || (!r1_7)) fun x20 =>
  bd (gd (!x20) (P_floor_within f0.Layers 2 6)) fun r1_13 =>
  lv (x20 || (!r1_13)) fun x26 =>
  if x26 = true then
    some (2 : Int)
  else
    lv ((decide (32 < (f0.Blocks.length : Int))) || (decide (32 < (f0.Walls.length : Int)))) fun x36 =>
    lv (x36 || (decide (200 < (f0.Ports.length : Int)))) fun x42 =>
    if x42 = true then
      some (3 : Int)
    else
      bs (
        lp (P_floor_Check_L6 f0) fuel 0) (fun y => some y) fun _ =>
      bd (P_floor_Size f0) fun r11_1 =>
      bs (
        lp (P_floor_Check_L13 f0 r11_1) fuel 0) (fun y => some y) fun _ =>
      bs (
        lp (P_floor_Check_L19 f0) fuel 0) (fun y => some y) fun _ =>
      some (0 : Int)
set_option maxHeartbeats 4000000 in
set_option maxRecDepth 100000 in
theorem c_floor_Check {w0 w : World} {l : List Assn} {ρ : Heap} {A_f0_3 : Option Addr} {n_f0_3 : Nat} {c_f0_3 : Nat} {A_f0_4 : Option Addr} {n_f0_4 : Nat} {c_f0_4 : Nat} {A_f0_5 : Option Addr} {n_f0_5 : Nat} {c_f0_5 : Nat} {f0 : T_floor_Floor} {r : Int} (hF : P_floor_Check f0 = some r) (h_f0_3 : RdS R_floor_Block ρ A_f0_3 n_f0_3 c_f0_3 f0.Blocks) (h_f0_4 : RdS R_floor_Wall ρ A_f0_4 n_f0_4 c_f0_4 f0.Walls) (h_f0_5 : RdS R_floor_Port ρ A_f0_5 n_f0_5 c_f0_5 f0.Ports) (hS : St w0 w (ro ρ :: l)) :
    Calls Tryd.prog 15 #[.agg #[.int .i64 f0.Rows, .int .i64 f0.Sites, .int .i64 f0.Layers, .slice A_f0_3 n_f0_3 c_f0_3, .slice A_f0_4 n_f0_4 c_f0_4, .slice A_f0_5 n_f0_5 c_f0_5]] w fun e w' => e = .returned (.int .i64 r) ∧ St w0 w' (ro ρ :: l) := by
  obtain rfl := h_f0_3.n
  obtain rfl := h_f0_4.n
  obtain rfl := h_f0_5.n
  refine enterC Tryd.func15 rfl 147 rfl (by simp) ?_
  refine x_seq <| x_region <|
    ?_
  refine o_box (cs := [.int .i64 f0.Rows, .int .i64 f0.Sites, .int .i64 f0.Layers, .slice A_f0_3 f0.Blocks.length c_f0_3, .slice A_f0_4 f0.Walls.length c_f0_4, .slice A_f0_5 f0.Ports.length c_f0_5]) rfl rfl hS (fun b1 w' hS => ?_)
  obtain ⟨r1_2, hc1_2, hF⟩ := bd_s hF
  refine p (yl_assign rfl) <| x_done <| x_seq <| x_seq <|
    x_region <| p (yl_field0 fld_38_0 rfl) <| pa (at_load one_3 rfl (hS.cell rfl)) <|
    ?_
  have hcall := c_floor_within hc1_2  (hS.pull 1)
  refine o_cc call_21 (args3 rfl rfl rfl) ((Calls.mono hcall (fun e w'' h => And.intro h.1 (h.2.pull 1)))) ?_
  rintro e w' ⟨rfl, hS⟩
  refine ⟨_, rfl, ?_⟩
  obtain ⟨r1_7, hc1_7, hF⟩ := bd_s hF
  refine p (yl_not rfl) <| p (yl_move rfl) <| pg (v := .pointer (some ⟨b1, 1, none⟩)) 15 (c := !(!r1_2)) (says_f _) (fun hq => Yl.at (yl_field0 fld_38_1 rfl)) <| pg (v := .int .i64 f0.Sites) 15 (c := !(!r1_2)) (says_f _) (fun hq => at_load one_3 (cv hq) (hS.cell rfl)) <|
    pccg (v := .bool r1_7) 15 (c := !(!r1_2)) (says_f _) call_21 (fun hq => (args3 (cv hq) rfl rfl)) hS (fun hq => by
      have hcall := c_floor_within (gd_t hc1_7 hq)  (hS.pull 1)
      exact (Calls.mono hcall (fun e w'' h => And.intro h.1 (h.2.pull 1)))) (fun w' hS => ?_)
  obtain ⟨x20, hx20, hF⟩ := lv_s hF
  obtain ⟨r1_13, hc1_13, hF⟩ := bd_s hF
  refine pg (v := .bool (!r1_7)) 15 (c := !(!r1_2)) (says_f _) (fun hq => Yl.at (yl_not (cv hq))) <| p (yor' rfl rfl (fun hc => (cv (t_not hc))) hx20) <| p (yl_move rfl) <| pg (v := .pointer (some ⟨b1, 2, none⟩)) 21 (c := !x20) (says_f _) (fun hq => Yl.at (yl_field0 fld_38_2 rfl)) <|
    pg (v := .int .i64 f0.Layers) 21 (c := !x20) (says_f _) (fun hq => at_load one_3 (cv hq) (hS.cell rfl)) <|
    pccg (v := .bool r1_13) 21 (c := !x20) (says_f _) call_21 (fun hq => (args3 (cv hq) rfl rfl)) hS (fun hq => by
      have hcall := c_floor_within (gd_t hc1_13 hq)  (hS.pull 1)
      exact (Calls.mono hcall (fun e w'' h => And.intro h.1 (h.2.pull 1)))) (fun w' hS => ?_)
  obtain ⟨x26, hx26, hF⟩ := lv_s hF
  refine pg (v := .bool (!r1_13)) 21 (c := !x20) (says_f _) (fun hq => Yl.at (yl_not (cv hq))) <| p (yor' rfl rfl (fun hc => (cv (t_not hc))) hx26) <| x_done <|
    x_cond (t := x26) rfl (fun hc26 => ?_) (fun hc26 => ?_)
  · replace hF := it_t hc26 hF
    refine x_seq <| x_region <| p (yl_assign rfl) <| x_done <|
      ?_
    obtain rfl := Option.some.inj (show some _ = some _ from hF)
    exact x_return ⟨_, ⟨_, _, rfl, rfl, rfl⟩, rfl, hS.drop⟩
  · replace hF := it_bf hc26 hF
    obtain ⟨x36, hx36, hF⟩ := lv_s hF
    obtain ⟨x42, hx42, hF⟩ := lv_s hF
    refine x_skip <| x_seq <| x_seq <| x_region <|
      p (yl_field0 fld_38_3 rfl) <| pa (at_load one_34 rfl (hS.cell rfl)) <| p (yl_len_slice usl_34 rfl) <| p (yl_gtr rfl rfl) <|
      p (yl_move rfl) <| pg (v := .pointer (some ⟨b1, 4, none⟩)) 31 (c := !(decide (32 < (f0.Blocks.length : Int)))) (says_f _) (fun hq => Yl.at (yl_field0 fld_38_4 rfl)) <| pg (v := .slice A_f0_4 f0.Walls.length c_f0_4) 31 (c := !(decide (32 < (f0.Blocks.length : Int)))) (says_f _) (fun hq => at_load one_35 (cv hq) (hS.cell rfl)) <| pg (v := .int .i64 (f0.Walls.length : Int)) 31 (c := !(decide (32 < (f0.Blocks.length : Int)))) (says_f _) (fun hq => Yl.at (yl_len_slice usl_35 (cv hq))) <|
      pg (v := .bool (decide (32 < (f0.Walls.length : Int)))) 31 (c := !(decide (32 < (f0.Blocks.length : Int)))) (says_f _) (fun hq => Yl.at (yl_gtr (cv hq) rfl)) <| p (yor' rfl rfl (fun hc => (cv (t_not hc))) hx36) <| p (yl_move rfl) <| pg (v := .pointer (some ⟨b1, 5, none⟩)) 37 (c := !x36) (says_f _) (fun hq => Yl.at (yl_field0 fld_38_5 rfl)) <|
      pg (v := .slice A_f0_5 f0.Ports.length c_f0_5) 37 (c := !x36) (says_f _) (fun hq => at_load one_36 (cv hq) (hS.cell rfl)) <| pg (v := .int .i64 (f0.Ports.length : Int)) 37 (c := !x36) (says_f _) (fun hq => Yl.at (yl_len_slice usl_36 (cv hq))) <| pg (v := .bool (decide (200 < (f0.Ports.length : Int)))) 37 (c := !x36) (says_f _) (fun hq => Yl.at (yl_gtr (cv hq) rfl)) <| p (yor' rfl rfl (fun hc => (cv (t_not hc))) hx42) <|
      x_done <|
      x_cond (t := x42) rfl (fun hc42 => ?_) (fun hc42 => ?_)
    · replace hF := it_t hc42 hF
      refine x_seq <| x_region <| p (yl_assign rfl) <| x_done <|
        ?_
      obtain rfl := Option.some.inj (show some _ = some _ from hF)
      exact x_return ⟨_, ⟨_, _, rfl, rfl, rfl⟩, rfl, hS.drop⟩
    · replace hF := it_bf hc42 hF
      refine x_skip <| x_seq <| x_seq <| x_region <|
        p (yl_field0 fld_38_3 rfl) <| pa (at_load one_34 rfl (hS.cell rfl)) <| p (yl_len_slice usl_34 rfl) <| p (yl_move rfl) <|
        x_done <|
        ?_
      obtain ⟨oL6, hLL6, hF⟩ := bs_s hF
      refine x_join (fun E w => (Sum.inl (())) = oL6 ∧ E 1 = .pointer (some ⟨b1, 0, none⟩) ∧ St w0 w (cells b1 38 [.int .i64 f0.Rows, .int .i64 f0.Sites, .int .i64 f0.Layers, .slice A_f0_3 f0.Blocks.length c_f0_3, .slice A_f0_4 f0.Walls.length c_f0_4, .slice A_f0_5 f0.Ports.length c_f0_5] :: ro ρ :: l)) ?_ ?_
      · skip -- L6
        refine x_block ?_
        refine x_loop (fun k_ E w => ∃ (y46_L6h : Int), lp (P_floor_Check_L6 f0) k_ y46_L6h = some oL6 ∧ E 1 = .pointer (some ⟨b1, 0, none⟩) ∧ E 44 = .slice A_f0_3 f0.Blocks.length c_f0_3 ∧ E 45 = .int .i64 (f0.Blocks.length : Int) ∧ E 46 = .int .i64 y46_L6h ∧ St w0 w (cells b1 38 [.int .i64 f0.Rows, .int .i64 f0.Sites, .int .i64 f0.Layers, .slice A_f0_3 f0.Blocks.length c_f0_3, .slice A_f0_4 f0.Walls.length c_f0_4, .slice A_f0_5 f0.Ports.length c_f0_5] :: ro ρ :: l)) fuel ⟨0, hLL6, rfl, rfl, rfl, rfl, ((hS.pull 1).pull 1)⟩ ?_
        rintro kL6 E w ⟨y46_L6h, hLL6, eL6h_1, eL6h_44, eL6h_45, eL6h_46, hS⟩
        obtain ⟨kL6, obL6, rfl, hFL6, hLL6⟩ := lp_s hLL6
        refine x_seq <| x_region <| p (yl_lss eL6h_46 eL6h_45) <| x_done <|
          x_seq <|
          x_cond_p (y46_L6h < (f0.Blocks.length : Int)) rfl (fun hc47 => ?_) (fun hc47 => ?_)
        · replace hFL6 := it_t hc47 hFL6
          obtain ⟨hk7_0, hFL6⟩ := ck_s hFL6
          obtain ⟨y7_1, hy7_1, hFL6⟩ := lv_s hFL6
          obtain ⟨el7_1, ek7_1, ee7_1⟩ := h_f0_3.get hk7_0
          rw [← hy7_1] at ek7_1
          obtain rfl := ek7_1
          refine x_skip <| x_seq <| x_block <| x_seq <|
            x_region <| p (yix_f sl_34 eL6h_44 eL6h_46 h_f0_3 hk7_0) <| pa (v := .agg #[.int .i64 y7_1.Row, .int .i64 y7_1.From, .int .i64 y7_1.To]) (at_loadAgg agg_78 rfl rfl (Elt.every ee7_1 (hS.pull 1))) <|
            ?_
          refine o_alloc zero_78 hS (fun b4 w' hS => ?_)
          refine o_storeAgg (news := [.int .i64 y7_1.Row, .int .i64 y7_1.From, .int .i64 y7_1.To]) agg_78 rfl rfl rfl (by simp [over_length]) hS (fun w' hS => ?_)
          obtain ⟨x54, hx54, hFL6⟩ := ar_s hFL6
          obtain ⟨r8_5, hc8_5, hFL6⟩ := bd_s hFL6
          refine x_done <| x_seq <| x_region <| p (yl_field0 fld_78_0 rfl) <|
            pa (at_load one_3 rfl (hS.cell rfl)) <| p (yl_field0 fld_38_0 eL6h_1) <| pa (at_load one_3 rfl ((hS.pull 1).cell rfl)) <| p (ysub rfl rfl hx54) <|
            ?_
          have hcall := c_floor_within hc8_5  (hS.pull 2)
          refine o_cc call_21 (args3 rfl rfl rfl) ((Calls.mono hcall (fun e w'' h => And.intro h.1 ((h.2.pull 2).pull 2)))) ?_
          rintro e w' ⟨rfl, hS⟩
          refine ⟨_, rfl, ?_⟩
          obtain ⟨hk8_12, hFL6⟩ := ck_s hFL6
          obtain ⟨x62, hx62, hFL6⟩ := lv_s hFL6
          obtain ⟨r8_13, hc8_13, hFL6⟩ := bd_s hFL6
          refine p (yl_not rfl) <| p (yl_move rfl) <| pg (v := .pointer (some ⟨b4, 1, none⟩)) 57 (c := !(!r8_5)) (says_f _) (fun hq => Yl.at (yl_field0 fld_78_1 rfl)) <| pg (v := .int .i64 y7_1.From) 57 (c := !(!r8_5)) (says_f _) (fun hq => at_load one_3 (cv hq) (hS.cell rfl)) <|
            pg (v := .pointer (some ⟨b1, 1, none⟩)) 57 (c := !(!r8_5)) (says_f _) (fun hq => Yl.at (yl_field0 fld_38_1 eL6h_1)) <| pg (v := .int .i64 f0.Sites) 57 (c := !(!r8_5)) (says_f _) (fun hq => at_load one_3 (cv hq) ((hS.pull 1).cell rfl)) <| pg (v := .int .i64 x62) 57 (c := !(!r8_5)) (says_f _) (fun hq => Yl.at (ysub (cv hq) rfl ⟨hx62, (hk8_12 hq)⟩)) <|
            pccg (v := .bool r8_13) 57 (c := !(!r8_5)) (says_f _) call_21 (fun hq => (args3 (cv hq) rfl (cv hq))) hS (fun hq => by
              have hcall := c_floor_within (gd_t hc8_13 hq)  (hS.pull 2)
              exact (Calls.mono hcall (fun e w'' h => And.intro h.1 ((h.2.pull 2).pull 2)))) (fun w' hS => ?_)
          obtain ⟨x65, hx65, hFL6⟩ := lv_s hFL6
          obtain ⟨hk8_21, hFL6⟩ := ck_s hFL6
          obtain ⟨x71, hx71, hFL6⟩ := lv_s hFL6
          obtain ⟨r8_24, hc8_24, hFL6⟩ := bd_s hFL6
          refine pg (v := .bool (!r8_13)) 57 (c := !(!r8_5)) (says_f _) (fun hq => Yl.at (yl_not (cv hq))) <| p (yor' rfl rfl (fun hc => (cv (t_not hc))) hx65) <| p (yl_move rfl) <| pg (v := .pointer (some ⟨b4, 2, none⟩)) 66 (c := !x65) (says_f _) (fun hq => Yl.at (yl_field0 fld_78_2 rfl)) <|
            pg (v := .int .i64 y7_1.To) 66 (c := !x65) (says_f _) (fun hq => at_load one_3 (cv hq) (hS.cell rfl)) <| pg (v := .pointer (some ⟨b4, 1, none⟩)) 66 (c := !x65) (says_f _) (fun hq => Yl.at (yl_field0 fld_78_1 rfl)) <| pg (v := .int .i64 y7_1.From) 66 (c := !x65) (says_f _) (fun hq => at_load one_3 (cv hq) (hS.cell rfl)) <| pg (v := .int .i64 x71) 66 (c := !x65) (says_f _) (fun hq => Yl.at (yadd (cv hq) rfl ⟨hx71, (hk8_21 hq)⟩)) <|
            pg (v := .pointer (some ⟨b1, 1, none⟩)) 66 (c := !x65) (says_f _) (fun hq => Yl.at (yl_field0 fld_38_1 eL6h_1)) <| pg (v := .int .i64 f0.Sites) 66 (c := !x65) (says_f _) (fun hq => at_load one_3 (cv hq) ((hS.pull 1).cell rfl)) <|
            pccg (v := .bool r8_24) 66 (c := !x65) (says_f _) call_21 (fun hq => (args3 (cv hq) (cv hq) (cv hq))) hS (fun hq => by
              have hcall := c_floor_within (gd_t hc8_24 hq)  (hS.pull 2)
              exact (Calls.mono hcall (fun e w'' h => And.intro h.1 ((h.2.pull 2).pull 2)))) (fun w' hS => ?_)
          obtain ⟨x76, hx76, hFL6⟩ := lv_s hFL6
          refine pg (v := .bool (!r8_24)) 66 (c := !x65) (says_f _) (fun hq => Yl.at (yl_not (cv hq))) <| p (yor' rfl rfl (fun hc => (cv (t_not hc))) hx76) <| x_done <|
            x_cond (t := x76) rfl (fun hc76 => ?_) (fun hc76 => ?_)
          · replace hFL6 := it_t hc76 hFL6
            refine x_seq <| x_region <| p (yl_assign rfl) <| x_done <|
              ?_
            obtain rfl := Option.some.inj (show some _ = some _ from hFL6)
            obtain rfl := (show _ = oL6 from hLL6)
            obtain rfl := Option.some.inj (show some _ = some _ from hF)
            exact x_return ⟨_, ⟨_, _, rfl, rfl, rfl⟩, rfl, hS.drop.drop⟩
          · replace hFL6 := it_bf hc76 hFL6
            obtain ⟨x77, hx77, hFL6⟩ := ar_s hFL6
            refine x_skip <| x_blk <| x_region <| p (yadd eL6h_46 rfl hx77) <|
              p (yl_move rfl) <| x_done <|
              ?_
            obtain rfl := Option.some.inj (show some _ = some _ from hFL6)
            exact x_inv ⟨kL6, Nat.lt_succ_self _, x77, hLL6, eL6h_1, eL6h_44, eL6h_45, rfl, ((hS.drop.pull 1).pull 1)⟩
        · replace hFL6 := it_f hc47 hFL6
          refine x_exitTo _ rfl <|
            ?_
          obtain rfl := Option.some.inj (show some _ = some _ from hFL6)
          exact x_inv ⟨hLL6, eL6h_1, ((hS.pull 1).pull 1)⟩
      rintro E w ⟨rfl, eL6_1, hS⟩
      obtain ⟨r11_1, hc11_1, hF⟩ := bd_s hF
      refine x_seq <| x_region <| pa (v := .agg #[.int .i64 f0.Rows, .int .i64 f0.Sites, .int .i64 f0.Layers, .slice A_f0_3 f0.Blocks.length c_f0_3, .slice A_f0_4 f0.Walls.length c_f0_4, .slice A_f0_5 f0.Ports.length c_f0_5]) (ld_sub agg_38 eL6_1 rfl rfl hS) <|
        ?_
      have hcall := c_floor_Size hc11_1 h_f0_3 h_f0_4 h_f0_5 (hS.pull 1)
      refine o_cc call_14 (args1 rfl) ((Calls.mono hcall (fun e w'' h => And.intro h.1 (h.2.pull 1)))) ?_
      rintro e w' ⟨rfl, hS⟩
      refine ⟨_, rfl, ?_⟩
      refine p (v := .tuple #[.int .i64 r11_1.1, .int .i64 r11_1.2]) (yl_move rfl) <| p (yl_extract rfl rfl) <| p (yl_extract rfl rfl) <| p (yl_assign rfl) <|
        p (yl_assign rfl) <| x_done <| x_seq <| x_seq <|
        x_region <| p (yl_field0 fld_38_4 eL6_1) <| pa (at_load one_35 rfl (hS.cell rfl)) <| p (yl_len_slice usl_35 rfl) <|
        p (yl_move rfl) <| x_done <|
        ?_
      obtain ⟨oL13, hLL13, hF⟩ := bs_s hF
      refine x_join (fun E w => (Sum.inl (())) = oL13 ∧ E 1 = .pointer (some ⟨b1, 0, none⟩) ∧ St w0 w (cells b1 38 [.int .i64 f0.Rows, .int .i64 f0.Sites, .int .i64 f0.Layers, .slice A_f0_3 f0.Blocks.length c_f0_3, .slice A_f0_4 f0.Walls.length c_f0_4, .slice A_f0_5 f0.Ports.length c_f0_5] :: ro ρ :: l)) ?_ ?_
      · skip -- L13
        refine x_block ?_
        refine x_loop (fun k_ E w => ∃ (y86_L13h : Int), lp (P_floor_Check_L13 f0 r11_1) k_ y86_L13h = some oL13 ∧ E 1 = .pointer (some ⟨b1, 0, none⟩) ∧ E 5 = .int .i64 r11_1.1 ∧ E 6 = .int .i64 r11_1.2 ∧ E 84 = .slice A_f0_4 f0.Walls.length c_f0_4 ∧ E 85 = .int .i64 (f0.Walls.length : Int) ∧ E 86 = .int .i64 y86_L13h ∧ St w0 w (cells b1 38 [.int .i64 f0.Rows, .int .i64 f0.Sites, .int .i64 f0.Layers, .slice A_f0_3 f0.Blocks.length c_f0_3, .slice A_f0_4 f0.Walls.length c_f0_4, .slice A_f0_5 f0.Ports.length c_f0_5] :: ro ρ :: l)) fuel ⟨0, hLL13, eL6_1, rfl, rfl, rfl, rfl, rfl, ((hS.pull 1).pull 1)⟩ ?_
        rintro kL13 E w ⟨y86_L13h, hLL13, eL13h_1, eL13h_5, eL13h_6, eL13h_84, eL13h_85, eL13h_86, hS⟩
        obtain ⟨kL13, obL13, rfl, hFL13, hLL13⟩ := lp_s hLL13
        refine x_seq <| x_region <| p (yl_lss eL13h_86 eL13h_85) <| x_done <|
          x_seq <|
          x_cond_p (y86_L13h < (f0.Walls.length : Int)) rfl (fun hc87 => ?_) (fun hc87 => ?_)
        · replace hFL13 := it_t hc87 hFL13
          obtain ⟨hk14_0, hFL13⟩ := ck_s hFL13
          obtain ⟨y14_1, hy14_1, hFL13⟩ := lv_s hFL13
          obtain ⟨el14_1, ek14_1, ee14_1⟩ := h_f0_4.get hk14_0
          rw [← hy14_1] at ek14_1
          obtain rfl := ek14_1
          refine x_skip <| x_seq <| x_block <| x_seq <|
            x_region <| p (yix_f sl_35 eL13h_84 eL13h_86 h_f0_4 hk14_0) <| pa (v := .agg #[.int .i64 y14_1.Layer, .int .i64 y14_1.X0, .int .i64 y14_1.Y0, .int .i64 y14_1.X1, .int .i64 y14_1.Y1]) (at_loadAgg agg_80 rfl rfl (Elt.every ee14_1 (hS.pull 1))) <|
            ?_
          refine o_alloc zero_80 hS (fun b8 w' hS => ?_)
          refine o_storeAgg (news := [.int .i64 y14_1.Layer, .int .i64 y14_1.X0, .int .i64 y14_1.Y0, .int .i64 y14_1.X1, .int .i64 y14_1.Y1]) agg_80 rfl rfl rfl (by simp [over_length]) hS (fun w' hS => ?_)
          obtain ⟨x94, hx94, hFL13⟩ := ar_s hFL13
          obtain ⟨r15_5, hc15_5, hFL13⟩ := bd_s hFL13
          refine x_done <| x_seq <| x_region <| p (yl_field0 fld_80_0 rfl) <|
            pa (at_load one_3 rfl (hS.cell rfl)) <| p (yl_field0 fld_38_2 eL13h_1) <| pa (at_load one_3 rfl ((hS.pull 1).cell rfl)) <| p (ysub rfl rfl hx94) <|
            ?_
          have hcall := c_floor_within hc15_5  (hS.pull 2)
          refine o_cc call_21 (args3 rfl rfl rfl) ((Calls.mono hcall (fun e w'' h => And.intro h.1 ((h.2.pull 2).pull 2)))) ?_
          rintro e w' ⟨rfl, hS⟩
          refine ⟨_, rfl, ?_⟩
          obtain ⟨hk15_11, hFL13⟩ := ck_s hFL13
          obtain ⟨x101, hx101, hFL13⟩ := lv_s hFL13
          obtain ⟨r15_12, hc15_12, hFL13⟩ := bd_s hFL13
          refine p (yl_not rfl) <| p (yl_move rfl) <| pg (v := .pointer (some ⟨b8, 1, none⟩)) 97 (c := !(!r15_5)) (says_f _) (fun hq => Yl.at (yl_field0 fld_80_1 rfl)) <| pg (v := .int .i64 y14_1.X0) 97 (c := !(!r15_5)) (says_f _) (fun hq => at_load one_3 (cv hq) (hS.cell rfl)) <|
            pg (v := .int .i64 r11_1.1) 97 (c := !(!r15_5)) (says_f _) (fun hq => Yl.at (yl_move eL13h_5)) <| pg (v := .int .i64 x101) 97 (c := !(!r15_5)) (says_f _) (fun hq => Yl.at (ysub (cv hq) rfl ⟨hx101, (hk15_11 hq)⟩)) <|
            pccg (v := .bool r15_12) 97 (c := !(!r15_5)) (says_f _) call_21 (fun hq => (args3 (cv hq) rfl (cv hq))) hS (fun hq => by
              have hcall := c_floor_within (gd_t hc15_12 hq)  (hS.pull 2)
              exact (Calls.mono hcall (fun e w'' h => And.intro h.1 ((h.2.pull 2).pull 2)))) (fun w' hS => ?_)
          obtain ⟨x104, hx104, hFL13⟩ := lv_s hFL13
          obtain ⟨hk15_19, hFL13⟩ := ck_s hFL13
          obtain ⟨x109, hx109, hFL13⟩ := lv_s hFL13
          obtain ⟨r15_20, hc15_20, hFL13⟩ := bd_s hFL13
          refine pg (v := .bool (!r15_12)) 97 (c := !(!r15_5)) (says_f _) (fun hq => Yl.at (yl_not (cv hq))) <| p (yor' rfl rfl (fun hc => (cv (t_not hc))) hx104) <| p (yl_move rfl) <| pg (v := .pointer (some ⟨b8, 2, none⟩)) 105 (c := !x104) (says_f _) (fun hq => Yl.at (yl_field0 fld_80_2 rfl)) <|
            pg (v := .int .i64 y14_1.Y0) 105 (c := !x104) (says_f _) (fun hq => at_load one_3 (cv hq) (hS.cell rfl)) <| pg (v := .int .i64 r11_1.2) 105 (c := !x104) (says_f _) (fun hq => Yl.at (yl_move eL13h_6)) <| pg (v := .int .i64 x109) 105 (c := !x104) (says_f _) (fun hq => Yl.at (ysub (cv hq) rfl ⟨hx109, (hk15_19 hq)⟩)) <|
            pccg (v := .bool r15_20) 105 (c := !x104) (says_f _) call_21 (fun hq => (args3 (cv hq) rfl (cv hq))) hS (fun hq => by
              have hcall := c_floor_within (gd_t hc15_20 hq)  (hS.pull 2)
              exact (Calls.mono hcall (fun e w'' h => And.intro h.1 ((h.2.pull 2).pull 2)))) (fun w' hS => ?_)
          obtain ⟨x112, hx112, hFL13⟩ := lv_s hFL13
          obtain ⟨hk15_29, hFL13⟩ := ck_s hFL13
          obtain ⟨x119, hx119, hFL13⟩ := lv_s hFL13
          obtain ⟨r15_30, hc15_30, hFL13⟩ := bd_s hFL13
          refine pg (v := .bool (!r15_20)) 105 (c := !x104) (says_f _) (fun hq => Yl.at (yl_not (cv hq))) <| p (yor' rfl rfl (fun hc => (cv (t_not hc))) hx112) <| p (yl_move rfl) <| pg (v := .pointer (some ⟨b8, 3, none⟩)) 113 (c := !x112) (says_f _) (fun hq => Yl.at (yl_field0 fld_80_3 rfl)) <|
            pg (v := .int .i64 y14_1.X1) 113 (c := !x112) (says_f _) (fun hq => at_load one_3 (cv hq) (hS.cell rfl)) <| pg (v := .pointer (some ⟨b8, 1, none⟩)) 113 (c := !x112) (says_f _) (fun hq => Yl.at (yl_field0 fld_80_1 rfl)) <| pg (v := .int .i64 y14_1.X0) 113 (c := !x112) (says_f _) (fun hq => at_load one_3 (cv hq) (hS.cell rfl)) <| pg (v := .int .i64 r11_1.1) 113 (c := !x112) (says_f _) (fun hq => Yl.at (yl_move eL13h_5)) <|
            pg (v := .int .i64 x119) 113 (c := !x112) (says_f _) (fun hq => Yl.at (ysub (cv hq) rfl ⟨hx119, (hk15_29 hq)⟩)) <|
            pccg (v := .bool r15_30) 113 (c := !x112) (says_f _) call_21 (fun hq => (args3 (cv hq) (cv hq) (cv hq))) hS (fun hq => by
              have hcall := c_floor_within (gd_t hc15_30 hq)  (hS.pull 2)
              exact (Calls.mono hcall (fun e w'' h => And.intro h.1 ((h.2.pull 2).pull 2)))) (fun w' hS => ?_)
          obtain ⟨x122, hx122, hFL13⟩ := lv_s hFL13
          obtain ⟨hk15_39, hFL13⟩ := ck_s hFL13
          obtain ⟨x129, hx129, hFL13⟩ := lv_s hFL13
          obtain ⟨r15_40, hc15_40, hFL13⟩ := bd_s hFL13
          refine pg (v := .bool (!r15_30)) 113 (c := !x112) (says_f _) (fun hq => Yl.at (yl_not (cv hq))) <| p (yor' rfl rfl (fun hc => (cv (t_not hc))) hx122) <| p (yl_move rfl) <| pg (v := .pointer (some ⟨b8, 4, none⟩)) 123 (c := !x122) (says_f _) (fun hq => Yl.at (yl_field0 fld_80_4 rfl)) <|
            pg (v := .int .i64 y14_1.Y1) 123 (c := !x122) (says_f _) (fun hq => at_load one_3 (cv hq) (hS.cell rfl)) <| pg (v := .pointer (some ⟨b8, 2, none⟩)) 123 (c := !x122) (says_f _) (fun hq => Yl.at (yl_field0 fld_80_2 rfl)) <| pg (v := .int .i64 y14_1.Y0) 123 (c := !x122) (says_f _) (fun hq => at_load one_3 (cv hq) (hS.cell rfl)) <| pg (v := .int .i64 r11_1.2) 123 (c := !x122) (says_f _) (fun hq => Yl.at (yl_move eL13h_6)) <|
            pg (v := .int .i64 x129) 123 (c := !x122) (says_f _) (fun hq => Yl.at (ysub (cv hq) rfl ⟨hx129, (hk15_39 hq)⟩)) <|
            pccg (v := .bool r15_40) 123 (c := !x122) (says_f _) call_21 (fun hq => (args3 (cv hq) (cv hq) (cv hq))) hS (fun hq => by
              have hcall := c_floor_within (gd_t hc15_40 hq)  (hS.pull 2)
              exact (Calls.mono hcall (fun e w'' h => And.intro h.1 ((h.2.pull 2).pull 2)))) (fun w' hS => ?_)
          obtain ⟨x132, hx132, hFL13⟩ := lv_s hFL13
          refine pg (v := .bool (!r15_40)) 123 (c := !x122) (says_f _) (fun hq => Yl.at (yl_not (cv hq))) <| p (yor' rfl rfl (fun hc => (cv (t_not hc))) hx132) <| x_done <|
            x_cond (t := x132) rfl (fun hc132 => ?_) (fun hc132 => ?_)
          · replace hFL13 := it_t hc132 hFL13
            refine x_seq <| x_region <| p (yl_assign rfl) <| x_done <|
              ?_
            obtain rfl := Option.some.inj (show some _ = some _ from hFL13)
            obtain rfl := (show _ = oL13 from hLL13)
            obtain rfl := Option.some.inj (show some _ = some _ from hF)
            exact x_return ⟨_, ⟨_, _, rfl, rfl, rfl⟩, rfl, hS.drop.drop⟩
          · replace hFL13 := it_bf hc132 hFL13
            obtain ⟨x133, hx133, hFL13⟩ := ar_s hFL13
            refine x_skip <| x_blk <| x_region <| p (yadd eL13h_86 rfl hx133) <|
              p (yl_move rfl) <| x_done <|
              ?_
            obtain rfl := Option.some.inj (show some _ = some _ from hFL13)
            exact x_inv ⟨kL13, Nat.lt_succ_self _, x133, hLL13, eL13h_1, eL13h_5, eL13h_6, eL13h_84, eL13h_85, rfl, ((hS.drop.pull 1).pull 1)⟩
        · replace hFL13 := it_f hc87 hFL13
          refine x_exitTo _ rfl <|
            ?_
          obtain rfl := Option.some.inj (show some _ = some _ from hFL13)
          exact x_inv ⟨hLL13, eL13h_1, ((hS.pull 1).pull 1)⟩
      rintro E w ⟨rfl, eL13_1, hS⟩
      refine x_seq <| x_seq <| x_region <| p (yl_field0 fld_38_5 eL13_1) <|
        pa (at_load one_36 rfl (hS.cell rfl)) <| p (yl_len_slice usl_36 rfl) <| p (yl_move rfl) <| x_done <|
        ?_
      obtain ⟨oL19, hLL19, hF⟩ := bs_s hF
      refine x_join (fun E w => (Sum.inl (())) = oL19 ∧ St w0 w (ro ρ :: l)) ?_ ?_
      · skip -- L19
        refine x_block ?_
        refine x_loop (fun k_ E w => ∃ (y137_L19h : Int), lp (P_floor_Check_L19 f0) k_ y137_L19h = some oL19 ∧ E 1 = .pointer (some ⟨b1, 0, none⟩) ∧ E 136 = .int .i64 (f0.Ports.length : Int) ∧ E 137 = .int .i64 y137_L19h ∧ St w0 w (cells b1 38 [.int .i64 f0.Rows, .int .i64 f0.Sites, .int .i64 f0.Layers, .slice A_f0_3 f0.Blocks.length c_f0_3, .slice A_f0_4 f0.Walls.length c_f0_4, .slice A_f0_5 f0.Ports.length c_f0_5] :: ro ρ :: l)) fuel ⟨0, hLL19, eL13_1, rfl, rfl, ((hS.pull 1).pull 1)⟩ ?_
        rintro kL19 E w ⟨y137_L19h, hLL19, eL19h_1, eL19h_136, eL19h_137, hS⟩
        obtain ⟨kL19, obL19, rfl, hFL19, hLL19⟩ := lp_s hLL19
        refine x_seq <| x_region <| p (yl_lss eL19h_137 eL19h_136) <| x_done <|
          x_seq <|
          x_cond_p (y137_L19h < (f0.Ports.length : Int)) rfl (fun hc138 => ?_) (fun hc138 => ?_)
        · replace hFL19 := it_t hc138 hFL19
          obtain ⟨r21_2, hc21_2, hFL19⟩ := bd_s hFL19
          refine x_skip <| x_seq <| x_block <| x_seq <|
            x_region <| p (yl_move eL19h_137) <| p (yl_assign rfl) <| x_done <|
            x_seq <| x_region <| pa (v := .agg #[.int .i64 f0.Rows, .int .i64 f0.Sites, .int .i64 f0.Layers, .slice A_f0_3 f0.Blocks.length c_f0_3, .slice A_f0_4 f0.Walls.length c_f0_4, .slice A_f0_5 f0.Ports.length c_f0_5]) (ld_sub agg_38 eL19h_1 rfl rfl hS) <| p (yl_move rfl) <|
            ?_
          have hcall := c_floor_checkPort hc21_2 h_f0_3 h_f0_4 h_f0_5 (hS.pull 1)
          refine o_cc call_22 (args2 rfl rfl) ((Calls.mono hcall (fun e w'' h => And.intro h.1 (h.2.pull 1)))) ?_
          rintro e w' ⟨rfl, hS⟩
          refine ⟨_, rfl, ?_⟩
          refine p (v := .int .i64 r21_2) (yl_assign rfl) <| x_done <| x_seq <| x_region <|
            p (v := .int .i64 r21_2) (yl_move rfl) <| p (yl_neq rfl rfl) <| x_done <|
            x_cond_p (r21_2 ≠ 0) rfl (fun hc144 => ?_) (fun hc144 => ?_)
          · replace hFL19 := it_t hc144 hFL19
            refine x_seq <| x_region <| p (v := .int .i64 r21_2) (yl_move rfl) <| p (v := .int .i64 r21_2) (yl_assign rfl) <|
              x_done <|
              ?_
            obtain rfl := Option.some.inj (show some _ = some _ from hFL19)
            obtain rfl := (show _ = oL19 from hLL19)
            obtain rfl := Option.some.inj (show some _ = some _ from hF)
            exact x_return ⟨_, ⟨_, _, rfl, rfl, rfl⟩, rfl, hS.drop⟩
          · replace hFL19 := it_f hc144 hFL19
            obtain ⟨x146, hx146, hFL19⟩ := ar_s hFL19
            refine x_skip <| x_blk <| x_region <| p (yadd eL19h_137 rfl hx146) <|
              p (yl_move rfl) <| x_done <|
              ?_
            obtain rfl := Option.some.inj (show some _ = some _ from hFL19)
            exact x_inv ⟨kL19, Nat.lt_succ_self _, x146, hLL19, eL19h_1, eL19h_136, rfl, ((hS.pull 1).pull 1)⟩
        · replace hFL19 := it_f hc138 hFL19
          refine x_exitTo _ rfl <|
            ?_
          obtain rfl := Option.some.inj (show some _ = some _ from hFL19)
          exact x_inv ⟨hLL19, hS.drop⟩
      rintro E w ⟨rfl, hS⟩
      refine x_seq <| x_region <| p (yl_assign rfl) <| x_done <|
        ?_
      obtain rfl := Option.some.inj (show some _ = some _ from hF)
      exact x_return ⟨_, ⟨_, _, rfl, rfl, rfl⟩, rfl, hS⟩
attribute [irreducible] P_floor_Check

def P_maskkeep4_floors : Option Bool :=
  bd (P_floor_Size (T_floor_Floor.mk 1 2 2 [] [] [])) fun r2_1 =>
  lv ((decide (r2_1.1 = 16)) && (decide (r2_1.2 = 12))) fun x15 =>
  bd (gd (x15) (P_floor_Check (T_floor_Floor.mk 1 2 2 [] [] []))) fun r3_8 =>
  lv (x15 && (decide (r3_8 = 0))) fun x20 =>
  bd (gd (x20) (P_floor_Check (T_floor_Floor.mk 0 0 0 [] [] []))) fun r3_13 =>
  lv (x20 && (decide (r3_13 = 2))) fun x25 =>
  some x25
set_option maxHeartbeats 4000000 in
set_option maxRecDepth 100000 in
theorem c_maskkeep4_floors {w0 w : World} {l : List Assn} {ρ : Heap} {r : Bool} (hF : P_maskkeep4_floors = some r) (hS : St w0 w (ro ρ :: l)) :
    Calls Tryd.prog 6 #[] w fun e w' => e = .returned (.bool r) ∧ St w0 w' (ro ρ :: l) := by
  refine enterC Tryd.func6 rfl 26 rfl (by simp) ?_
  refine x_seq <| x_region <| p (yl_assign rfl) <| x_done <|
    x_seq <| x_region <| p (v := .agg #[.int .i64 1, .int .i64 2, .int .i64 2, .slice none 0 0, .slice none 0 0, .slice none 0 0]) (yl_build bld_38 bldf_38 (parts_eq (pt (va := .int .i64 1) rfl (pt (va := .int .i64 2) rfl (pt (va := .int .i64 2) rfl pt0)))) (by kernel_rfl)) <|
    ?_
  refine o_alloc zero_38 hS (fun b1 w' hS => ?_)
  refine o_storeAgg (news := [.int .i64 1, .int .i64 2, .int .i64 2, .slice none 0 0, .slice none 0 0, .slice none 0 0]) agg_38 rfl rfl rfl (by simp [over_length]) hS (fun w' hS => ?_)
  obtain ⟨r2_1, hc2_1, hF⟩ := bd_s hF
  refine x_done <| x_seq <| x_region <| pa (v := .agg #[.int .i64 1, .int .i64 2, .int .i64 2, .slice none 0 0, .slice none 0 0, .slice none 0 0]) (ld_sub agg_38 rfl rfl rfl hS) <|
    ?_
  have hcall := c_floor_Size hc2_1 (RdS.nil (A := none) (c := 0)) (RdS.nil (A := none) (c := 0)) (RdS.nil (A := none) (c := 0)) (hS.pull 1)
  refine o_cc call_14 (args1 rfl) ((Calls.mono hcall (fun e w'' h => And.intro h.1 (h.2.pull 1)))) ?_
  rintro e w' ⟨rfl, hS⟩
  refine ⟨_, rfl, ?_⟩
  obtain ⟨x15, hx15, hF⟩ := lv_s hF
  obtain ⟨r3_8, hc3_8, hF⟩ := bd_s hF
  refine p (v := .tuple #[.int .i64 r2_1.1, .int .i64 r2_1.2]) (yl_move rfl) <| p (yl_extract rfl rfl) <| p (yl_extract rfl rfl) <| p (yl_assign rfl) <|
    p (yl_assign rfl) <| x_done <| x_seq <| x_region <|
    p (yl_move rfl) <| p (yl_eql rfl rfl) <| p (yl_move rfl) <| pg (v := .int .i64 r2_1.2) 12 (c := decide (r2_1.1 = 16)) (says_t _) (fun hq => Yl.at (yl_move rfl)) <|
    pg (v := .bool (decide (r2_1.2 = 12))) 12 (c := decide (r2_1.1 = 16)) (says_t _) (fun hq => Yl.at (yl_eql (cv hq) rfl)) <| p (yand' rfl (fun hc => (cv hc)) rfl hx15) <| p (yl_move rfl) <| pg (v := .agg #[.int .i64 1, .int .i64 2, .int .i64 2, .slice none 0 0, .slice none 0 0, .slice none 0 0]) 16 (c := x15) (says_t _) (fun hq => ld_sub agg_38 rfl rfl rfl hS) <|
    pccg (v := .int .i64 r3_8) 16 (c := x15) (says_t _) call_15 (fun hq => (args1 (cv hq))) hS (fun hq => by
      have hcall := c_floor_Check (gd_t hc3_8 hq) (RdS.nil (A := none) (c := 0)) (RdS.nil (A := none) (c := 0)) (RdS.nil (A := none) (c := 0)) (hS.pull 1)
      exact (Calls.mono hcall (fun e w'' h => And.intro h.1 (h.2.pull 1)))) (fun w' hS => ?_)
  obtain ⟨x20, hx20, hF⟩ := lv_s hF
  obtain ⟨r3_13, hc3_13, hF⟩ := bd_s hF
  refine pg (v := .bool (decide (r3_8 = 0))) 16 (c := x15) (says_t _) (fun hq => Yl.at (yl_eql (cv hq) rfl)) <| p (yand' rfl (fun hc => (cv hc)) rfl hx20) <| p (yl_move rfl) <| pg (v := .agg #[.int .i64 0, .int .i64 0, .int .i64 0, .slice none 0 0, .slice none 0 0, .slice none 0 0]) 21 (c := x20) (says_t _) (fun hq => Yl.at (yl_build bld_38 bldf_38 (parts_eq pt0) (by kernel_rfl))) <|
    pccg (v := .int .i64 r3_13) 21 (c := x20) (says_t _) call_15 (fun hq => (args1 (cv hq))) hS (fun hq => by
      have hcall := c_floor_Check (gd_t hc3_13 hq) (RdS.nil (A := none) (c := 0)) (RdS.nil (A := none) (c := 0)) (RdS.nil (A := none) (c := 0)) (hS.pull 1)
      exact (Calls.mono hcall (fun e w'' h => And.intro h.1 (h.2.pull 1)))) (fun w' hS => ?_)
  obtain ⟨x25, hx25, hF⟩ := lv_s hF
  refine pg (v := .bool (decide (r3_13 = 2))) 21 (c := x20) (says_t _) (fun hq => Yl.at (yl_eql (cv hq) rfl)) <| p (yand' rfl (fun hc => (cv hc)) rfl hx25) <| p (yl_assign rfl) <| x_done <|
    ?_
  obtain rfl := Option.some.inj (show some _ = some _ from hF)
  exact x_return ⟨_, ⟨_, _, rfl, rfl, rfl⟩, rfl, hS.drop⟩
attribute [irreducible] P_maskkeep4_floors

def P_floor_Pin (c0 : T_api_Cell) (s1 : T_floor_Site) (k2 : Int) : Option T_floor_Point :=
  ar ((4 : Int) * s1.At) fun x10 =>
  ar ((4 : Int) + x10) fun x11 =>
  ar ((4 : Int) * s1.Row) fun x14 =>
  ar ((4 : Int) + x14) fun x15 =>
  bd (
    if k2 < c0.Ins then
      ar ((2 : Int) * k2) fun x29 =>
      ar (x11 + x29) fun x30 =>
      some (x30, x15)
    else
      bd (
        if k2 = c0.Ins then
          ar ((4 : Int) * c0.Area) fun x41 =>
          ar (x11 + x41) fun x42 =>
          ar (x42 - 2) fun x43 =>
          ar (x15 + 2) fun x46 =>
          some (x43, x46)
        else
          ar (x15 + 2) fun x19 =>
          some (x11, x19)) fun (b7_0_c32, b7_1_c32) =>
      some (b7_0_c32, b7_1_c32)) fun (b7_0_c21, b7_1_c21) =>
  some (T_floor_Point.mk b7_0_c21 b7_1_c21)
set_option maxHeartbeats 4000000 in
set_option maxRecDepth 100000 in
theorem c_floor_Pin {w0 w : World} {l : List Assn} {ρ : Heap} {A_c0_5 : Option Addr} {n_c0_5 : Nat} {c_c0_5 : Nat} {A_c0_6 : Option Addr} {n_c0_6 : Nat} {c_c0_6 : Nat} {A_c0_7 : Option Addr} {n_c0_7 : Nat} {c_c0_7 : Nat} {c0 : T_api_Cell} {s1 : T_floor_Site} {k2 : Int} {r : T_floor_Point} (hF : P_floor_Pin c0 s1 k2 = some r) (h_c0_5 : RdS (RpI .i64) ρ A_c0_5 n_c0_5 c_c0_5 c0.Cap) (h_c0_6 : RdS (RpI .i64) ρ A_c0_6 n_c0_6 c_c0_6 c0.Min) (h_c0_7 : RdS (RpI .i64) ρ A_c0_7 n_c0_7 c_c0_7 c0.Max) (hS : St w0 w (ro ρ :: l)) :
    Calls Tryd.prog 7 #[.agg #[.string c0.Name, .bool c0.Flop, .int .i64 c0.Ins, .int .u64 c0.Table, .int .i64 c0.Area, .slice A_c0_5 n_c0_5 c_c0_5, .slice A_c0_6 n_c0_6 c_c0_6, .slice A_c0_7 n_c0_7 c_c0_7, .int .i64 c0.Drive, .int .i64 c0.Setup, .int .i64 c0.Hold], .agg #[.int .i64 s1.Row, .int .i64 s1.At], .int .i64 k2] w fun e w' => e = .returned (.agg #[.int .i64 r.X, .int .i64 r.Y]) ∧ St w0 w' (ro ρ :: l) := by
  obtain rfl := h_c0_5.n
  obtain rfl := h_c0_6.n
  obtain rfl := h_c0_7.n
  refine enterC Tryd.func7 rfl 50 rfl (by simp) ?_
  refine x_seq <| x_region <|
    ?_
  refine o_box (cs := [.string c0.Name, .bool c0.Flop, .int .i64 c0.Ins, .int .u64 c0.Table, .int .i64 c0.Area, .slice A_c0_5 c0.Cap.length c_c0_5, .slice A_c0_6 c0.Min.length c_c0_6, .slice A_c0_7 c0.Max.length c_c0_7, .int .i64 c0.Drive, .int .i64 c0.Setup, .int .i64 c0.Hold]) rfl rfl hS (fun b3 w' hS => ?_)
  refine o_box (cs := [.int .i64 s1.Row, .int .i64 s1.At]) rfl rfl hS (fun b4 w' hS => ?_)
  refine o_alloc zero_53 hS (fun b6 w' hS => ?_)
  obtain ⟨x10, hx10, hF⟩ := ar_s hF
  obtain ⟨x11, hx11, hF⟩ := ar_s hF
  obtain ⟨x14, hx14, hF⟩ := ar_s hF
  obtain ⟨x15, hx15, hF⟩ := ar_s hF
  refine x_done <| x_seq <| x_region <| p (yl_field0 fld_56_1 rfl) <|
    pa (at_load one_3 rfl ((hS.pull 1).cell rfl)) <| p (ymul rfl rfl hx10) <| p (yadd rfl rfl hx11) <| p (yl_field0 fld_56_0 rfl) <|
    pa (at_load one_3 rfl ((hS.pull 1).cell rfl)) <| p (ymul rfl rfl hx14) <| p (yadd rfl rfl hx15) <| p (v := .agg #[.int .i64 x11, .int .i64 x15]) (yl_build bld_53 bldf_53 (parts_eq (pt (va := .int .i64 x11) rfl (pt (va := .int .i64 x15) rfl pt0))) (by kernel_rfl)) <|
    ?_
  refine o_alloc zero_53 hS (fun b7 w' hS => ?_)
  refine o_storeAgg (news := [.int .i64 x11, .int .i64 x15]) agg_53 rfl rfl rfl (by simp [over_length]) hS (fun w' hS => ?_)
  refine x_done <| x_seq <| x_block <| x_seq <|
    x_region <| p (yl_move rfl) <| p (yl_field0 fld_51_2 rfl) <| pa (at_load one_3 rfl ((hS.pull 3).cell rfl)) <|
    p (yl_lss rfl rfl) <| p (yl_assign rfl) <| x_done <|
    ?_
  obtain ⟨oc21, hFc21, hF⟩ := bd_s hF
  refine x_join (fun E w => ∃ (b7_0_c21 : Int) (b7_1_c21 : Int), (b7_0_c21, b7_1_c21) = oc21 ∧ E 6 = .pointer (some ⟨b6, 0, none⟩) ∧ E 7 = .pointer (some ⟨b7, 0, none⟩) ∧ St w0 w (cells b6 53 [.int .i64 0, .int .i64 0] :: cells b7 53 [.int .i64 b7_0_c21, .int .i64 b7_1_c21] :: ro ρ :: l)) ?_ ?_
  · skip -- c21
    refine x_cond_p (k2 < c0.Ins) rfl (fun hc21 => ?_) (fun hc21 => ?_)
    · replace hFc21 := it_t hc21 hFc21
      obtain ⟨x29, hx29, hFc21⟩ := ar_s hFc21
      obtain ⟨x30, hx30, hFc21⟩ := ar_s hFc21
      refine x_region <| p (yl_field0 fld_53_0 rfl) <| pa (at_load one_3 rfl (hS.cell rfl)) <| p (yl_move rfl) <|
        p (ymul rfl rfl hx29) <| p (yadd rfl rfl hx30) <| p (yl_field0 fld_53_0 rfl) <|
        ?_
      refine o_store1 (v := .int .i64 x30) one_3 rfl rfl rfl rfl hS (fun w' hS => ?_)
      refine x_done <|
        ?_
      exact x_inv ⟨x30, x15, (Option.some.inj (show some _ = some _ from hFc21)), rfl, rfl, (((((hS.pull 2).drop.pull 2).drop.pull 2).pull 1).pull 2)⟩
    · replace hFc21 := it_f hc21 hFc21
      refine x_seq <| x_region <| p (yl_move rfl) <| p (yl_field0 fld_51_2 rfl) <|
        pa (at_load one_3 rfl ((hS.pull 3).cell rfl)) <| p (yl_eql rfl rfl) <| p (yl_assign rfl) <| x_done <|
        ?_
      obtain ⟨oc32, hFc32, hFc21⟩ := bd_s hFc21
      refine x_join (fun E w => ∃ (b7_0_c32 : Int) (b7_1_c32 : Int), (b7_0_c32, b7_1_c32) = oc32 ∧ E 6 = .pointer (some ⟨b6, 0, none⟩) ∧ E 7 = .pointer (some ⟨b7, 0, none⟩) ∧ St w0 w (cells b6 53 [.int .i64 0, .int .i64 0] :: cells b7 53 [.int .i64 b7_0_c32, .int .i64 b7_1_c32] :: ro ρ :: l)) ?_ ?_
      · skip -- c32
        refine x_cond_p (k2 = c0.Ins) rfl (fun hc32 => ?_) (fun hc32 => ?_)
        · replace hFc32 := it_t hc32 hFc32
          obtain ⟨x41, hx41, hFc32⟩ := ar_s hFc32
          obtain ⟨x42, hx42, hFc32⟩ := ar_s hFc32
          obtain ⟨x43, hx43, hFc32⟩ := ar_s hFc32
          obtain ⟨x46, hx46, hFc32⟩ := ar_s hFc32
          refine x_region <| p (yl_field0 fld_53_0 rfl) <| pa (at_load one_3 rfl (hS.cell rfl)) <| p (yl_field0 fld_51_4 rfl) <|
            pa (at_load one_3 rfl ((hS.pull 3).cell rfl)) <| p (ymul rfl rfl hx41) <| p (yadd rfl rfl hx42) <| p (ysub rfl rfl hx43) <|
            p (yl_field0 fld_53_1 rfl) <| pa (at_load one_3 rfl (hS.cell rfl)) <| p (yadd rfl rfl hx46) <| p (yl_field0 fld_53_0 rfl) <|
            ?_
          refine o_store1 (v := .int .i64 x43) one_3 rfl rfl rfl rfl hS (fun w' hS => ?_)
          refine p (yl_field0 fld_53_1 rfl) <|
            ?_
          refine o_store1 (v := .int .i64 x46) one_3 rfl rfl rfl rfl hS (fun w' hS => ?_)
          refine x_done <|
            ?_
          exact x_inv ⟨x43, x46, (Option.some.inj (show some _ = some _ from hFc32)), rfl, rfl, (((((hS.pull 2).drop.pull 2).drop.pull 2).pull 1).pull 2)⟩
        · replace hFc32 := it_f hc32 hFc32
          obtain ⟨x19, hx19, hFc32⟩ := ar_s hFc32
          refine x_region <| p (yl_field0 fld_53_1 rfl) <| pa (at_load one_3 rfl (hS.cell rfl)) <| p (yadd rfl rfl hx19) <|
            p (yl_field0 fld_53_1 rfl) <|
            ?_
          refine o_store1 (v := .int .i64 x19) one_3 rfl rfl rfl rfl hS (fun w' hS => ?_)
          refine x_done <|
            ?_
          exact x_inv ⟨x11, x19, (Option.some.inj (show some _ = some _ from hFc32)), rfl, rfl, (((((hS.pull 2).drop.pull 2).drop.pull 2).pull 1).pull 2)⟩
      rintro E w ⟨b7_0_c32, b7_1_c32, rfl, ec32_6, ec32_7, hS⟩
      exact x_inv ⟨b7_0_c32, b7_1_c32, (Option.some.inj (show some _ = some _ from hFc21)), ec32_6, ec32_7, (((hS.pull 2).pull 2).pull 2)⟩
  rintro E w ⟨b7_0_c21, b7_1_c21, rfl, ec21_6, ec21_7, hS⟩
  refine x_blk <| x_seq <| x_region <| pa (v := .agg #[.int .i64 b7_0_c21, .int .i64 b7_1_c21]) (ld_sub agg_53 ec21_7 rfl rfl (hS.pull 1)) <|
    ?_
  refine o_storeAgg (news := [.int .i64 b7_0_c21, .int .i64 b7_1_c21]) agg_53 ec21_6 rfl rfl (by simp [over_length]) hS (fun w' hS => ?_)
  refine x_done <|
    ?_
  obtain rfl := Option.some.inj (show some _ = some _ from hF)
  exact x_return ⟨_, ⟨_, _, _, rfl, ec21_6, ldvA agg_53 rfl (fun j v hj => by rw [add0]; exact St.cell hS hj), rfl⟩, rfl, hS.drop.drop⟩
attribute [irreducible] P_floor_Pin

def P_maskkeep4_FloorApart_L15 (r13_11 : T_floor_Point) (all7_L11h : List T_floor_Point) : Int → Option (Int ⊕ (Unit ⊕ Bool)) := fun y69_L15h =>
  if y69_L15h < (all7_L11h.length : Int) then
    ck (inb y69_L15h all7_L11h.length) <|
    lv (gt all7_L11h y69_L15h) fun y16_1 =>
    ar (r13_11.X - y16_1.X) fun x77 =>
    ar (y16_1.X - r13_11.X) fun x82 =>
    ar (r13_11.Y - y16_1.Y) fun x87 =>
    ar (y16_1.Y - r13_11.Y) fun x92 =>
    lv (max (max (max x77 x82) x87) x92) fun x93 =>
    if x93 < 2 then
      some (Sum.inr (Sum.inr false))
    else
      ar (y69_L15h + 1) fun x95 =>
      some (Sum.inl x95)
  else
    some (Sum.inr (Sum.inl ()))
def P_maskkeep4_FloorApart_L11 (r2_1 : (T_api_Netlist × List T_api_Cell × Int)) (r3_3 : (T_legal_Chip × Int)) (y9_2 : T_api_Gate) (x51 : Int) (y40_L8h : Int) : (List T_floor_Point × Int) → Option ((List T_floor_Point × Int) ⊕ (List T_floor_Point ⊕ Bool)) := fun (all7_L11h, y52_L11h) =>
  if y52_L11h < x51 then
    ck (inb y9_2.Cell r2_1.2.1.length) <|
    lv (gt r2_1.2.1 y9_2.Cell) fun y13_4 =>
    ck (inb y40_L8h r3_3.1.Sites.length) <|
    lv (gt r3_3.1.Sites y40_L8h) fun y13_9 =>
    bd (P_floor_Pin y13_4 y13_9 y52_L11h) fun r13_11 =>
    bs (
      lp (P_maskkeep4_FloorApart_L15 r13_11 all7_L11h) fuel 0) (fun y => some (Sum.inr (Sum.inr y))) fun _ =>
    lv (all7_L11h ++ [r13_11]) fun z20_3 =>
    ck (apOk 16 z20_3.length) <|
    ar (y52_L11h + 1) fun x100 =>
    some (Sum.inl (z20_3, x100))
  else
    some (Sum.inr (Sum.inl all7_L11h))
def P_maskkeep4_FloorApart_L8 (r2_1 : (T_api_Netlist × List T_api_Cell × Int)) (r3_3 : (T_legal_Chip × Int)) : (List T_floor_Point × Int) → Option ((List T_floor_Point × Int) ⊕ (Unit ⊕ Bool)) := fun (all7_L8h, y40_L8h) =>
  if y40_L8h < (r2_1.1.Gates.length : Int) then
    ck (inb y40_L8h r2_1.1.Gates.length) <|
    lv (gt r2_1.1.Gates y40_L8h) fun y9_2 =>
    ck (inb y9_2.Cell r2_1.2.1.length) <|
    lv (gt r2_1.2.1 y9_2.Cell) fun y10_5 =>
    ar (y10_5.Ins + 1) fun x51 =>
    bs (
      lp (P_maskkeep4_FloorApart_L11 r2_1 r3_3 y9_2 x51 y40_L8h) fuel (all7_L8h, 0)) (fun y => some (Sum.inr (Sum.inr y))) fun all7_L11 =>
    ar (y40_L8h + 1) fun x101 =>
    some (Sum.inl (all7_L11, x101))
  else
    some (Sum.inr (Sum.inl ()))
def P_maskkeep4_FloorApart (l_0 : List Int) : Option Bool :=
  bd (P_maskkeep4_small (T_maskmake_Stream.mk l_0 0)) fun r2_1 =>
  bd (P_maskmake_Stream_Chip (T_maskmake_Stream.mk l_0 r2_1.2.2) r2_1.1 r2_1.2.1) fun r3_3 =>
  bd (P_maskkeep4_floors) fun r4_0 =>
  lv ((!r4_0) || (decide ((r3_3.1.Sites.length : Int) < (r2_1.1.Gates.length : Int)))) fun x36 =>
  if x36 = true then
    some false
  else
    bs (
      lp (P_maskkeep4_FloorApart_L8 r2_1 r3_3) fuel ([], 0)) (fun y => some y) fun _ =>
    some true
set_option maxHeartbeats 4000000 in
set_option maxRecDepth 100000 in
theorem c_maskkeep4_FloorApart {w0 w : World} {l : List Assn} {ρ : Heap} {A_l_0 : Option Addr} {n_l_0 : Nat} {c_l_0 : Nat} {l_0 : List Int} {r : Bool} (hF : P_maskkeep4_FloorApart l_0 = some r) (h_l_0 : RdS (RpI .i64) ρ A_l_0 n_l_0 c_l_0 l_0) (hS : St w0 w (ro ρ :: l)) :
    Calls Tryd.prog 3 #[.slice A_l_0 n_l_0 c_l_0] w fun e w' => e = .returned (.bool r) ∧ St w0 w' (ro ρ :: l) := by
  obtain rfl := h_l_0.n
  refine enterC Tryd.func3 rfl 102 rfl (by simp) ?_
  refine x_seq <| x_region <| p (yl_assign rfl) <| x_done <|
    x_seq <| x_region <| p (yl_move rfl) <| p (v := .agg #[.slice A_l_0 l_0.length c_l_0, .int .i64 0]) (yl_build bld_25 bldf_25 (parts_eq (pt (va := .slice A_l_0 l_0.length c_l_0) rfl pt0)) (by kernel_rfl)) <|
    ?_
  refine o_box (cs := [.slice A_l_0 l_0.length c_l_0, .int .i64 0]) rfl rfl hS (fun b16 w' hS => ?_)
  obtain ⟨r2_1, hc2_1, hF⟩ := bd_s hF
  refine p (yl_assign rfl) <| x_done <| x_seq <| x_region <|
    p (yl_move rfl) <|
    ?_
  have hcall := c_maskkeep4_small hc2_1 h_l_0 ((hS.pull 1).pull 1)
  refine o_cc call_4 (args1 rfl) hcall ?_
  rintro e w' ⟨ρ'_2_1, A_y0_ret_0_2_1, n_y0_ret_0_2_1, c_y0_ret_0_2_1, cs_y0_ret_0_2_1, A_y0_ret_1_2_1, n_y0_ret_1_2_1, c_y0_ret_1_2_1, cs_y0_ret_1_2_1, A_y0_ret_2_2_1, n_y0_ret_2_2_1, c_y0_ret_2_2_1, cs_y0_ret_2_2_1, A_y0_ret_3_2_1, n_y0_ret_3_2_1, c_y0_ret_3_2_1, cs_y0_ret_3_2_1, A_y0_ret_4_2_1, n_y0_ret_4_2_1, c_y0_ret_4_2_1, cs_y0_ret_4_2_1, A_y1_ret_2_1, n_y1_ret_2_1, c_y1_ret_2_1, rfl, hle2_1, h_y0_ret_0_2_1, h_y0_ret_1_2_1, h_y0_ret_2_2_1, h_y0_ret_3_2_1, h_y0_ret_4_2_1, h_y1_ret_2_1, hS⟩
  refine ⟨_, rfl, ?_⟩
  obtain rfl := St.vec_n hS h_y0_ret_0_2_1
  obtain rfl := St.vec_n (hS.pull 1) h_y0_ret_1_2_1
  obtain rfl := St.vec_n (hS.pull 2) h_y0_ret_2_2_1
  obtain rfl := St.vec_n (hS.pull 3) h_y0_ret_3_2_1
  obtain rfl := St.vec_n (hS.pull 4) h_y0_ret_4_2_1
  obtain rfl := h_y1_ret_2_1.n
  refine p (yl_move rfl) <| p (yl_extract rfl rfl) <| p (yl_extract rfl rfl) <|
    ?_
  refine o_alloc zero_30 hS (fun b4 w' hS => ?_)
  refine o_storeAgg (news := [.slice A_y0_ret_0_2_1 r2_1.1.In.length c_y0_ret_0_2_1, .slice A_y0_ret_1_2_1 r2_1.1.Out.length c_y0_ret_1_2_1, .slice A_y0_ret_2_2_1 r2_1.1.Flops.length c_y0_ret_2_2_1, .slice A_y0_ret_3_2_1 r2_1.1.Gates.length c_y0_ret_3_2_1, .slice A_y0_ret_4_2_1 r2_1.1.Outs.length c_y0_ret_4_2_1]) agg_30 rfl rfl rfl (by simp [over_length]) hS (fun w' hS => ?_)
  refine p (yl_assign rfl) <| x_done <| x_seq <| x_region <|
    p (yl_move rfl) <| pa (v := .agg #[.slice A_y0_ret_0_2_1 r2_1.1.In.length c_y0_ret_0_2_1, .slice A_y0_ret_1_2_1 r2_1.1.Out.length c_y0_ret_1_2_1, .slice A_y0_ret_2_2_1 r2_1.1.Flops.length c_y0_ret_2_2_1, .slice A_y0_ret_3_2_1 r2_1.1.Gates.length c_y0_ret_3_2_1, .slice A_y0_ret_4_2_1 r2_1.1.Outs.length c_y0_ret_4_2_1]) (ld_sub agg_30 rfl rfl rfl hS) <| p (yl_move rfl) <|
    ?_
  obtain ⟨ρz3_3, hlez3_3, fz3_3, hS⟩ := St.vec_fz ((hS.pull 7).pull 2) h_y0_ret_0_2_1
  obtain ⟨ρz3_3a, hlez3_3a, fz3_3a, hS⟩ := St.vec_fz (hS.pull 2) (h_y0_ret_1_2_1.le hlez3_3)
  obtain ⟨ρz3_3b, hlez3_3b, fz3_3b, hS⟩ := St.vec_fz (hS.pull 2) (h_y0_ret_2_2_1.le (hlez3_3.trans hlez3_3a))
  obtain ⟨ρz3_3c, hlez3_3c, fz3_3c, hS⟩ := St.vec_fz (hS.pull 2) (h_y0_ret_3_2_1.le ((hlez3_3.trans hlez3_3a).trans hlez3_3b))
  obtain ⟨ρz3_3d, hlez3_3d, fz3_3d, hS⟩ := St.vec_fz (hS.pull 2) (h_y0_ret_4_2_1.le (((hlez3_3.trans hlez3_3a).trans hlez3_3b).trans hlez3_3c))
  obtain ⟨r3_3, hc3_3, hF⟩ := bd_s hF
  have hcall := c_maskmake_Stream_Chip hc3_3 (h_l_0.le (((((hle2_1.trans hlez3_3).trans hlez3_3a).trans hlez3_3b).trans hlez3_3c).trans hlez3_3d)) (fz3_3.le (((hlez3_3a.trans hlez3_3b).trans hlez3_3c).trans hlez3_3d)) (fz3_3a.le ((hlez3_3b.trans hlez3_3c).trans hlez3_3d)) (fz3_3b.le (hlez3_3c.trans hlez3_3d)) (fz3_3c.le hlez3_3d) fz3_3d (h_y1_ret_2_1.le ((((hlez3_3.trans hlez3_3a).trans hlez3_3b).trans hlez3_3c).trans hlez3_3d)) (hS.pull 2)
  refine o_cc call_5 (args3 rfl rfl rfl) hcall ?_
  rintro e w' ⟨A_y0_ret_0_3_3, n_y0_ret_0_3_3, c_y0_ret_0_3_3, A_y0_ret_1_3_3, n_y0_ret_1_3_3, c_y0_ret_1_3_3, A_y0_ret_2_3_3, n_y0_ret_2_3_3, c_y0_ret_2_3_3, A_y0_ret_3_3_3, n_y0_ret_3_3_3, c_y0_ret_3_3_3, A_y0_ret_4_3_3, n_y0_ret_4_3_3, c_y0_ret_4_3_3, A_y0_ret_5_3_3, n_y0_ret_5_3_3, c_y0_ret_5_3_3, A_y0_ret_9_3_3, n_y0_ret_9_3_3, c_y0_ret_9_3_3, cs_y0_ret_9_3_3, A_y0_ret_10_3_3, n_y0_ret_10_3_3, c_y0_ret_10_3_3, cs_y0_ret_10_3_3, A_y0_ret_11_3_3, n_y0_ret_11_3_3, c_y0_ret_11_3_3, cs_y0_ret_11_3_3, A_y0_ret_13_3_3, n_y0_ret_13_3_3, c_y0_ret_13_3_3, cs_y0_ret_13_3_3, A_y0_ret_14_3_3, n_y0_ret_14_3_3, c_y0_ret_14_3_3, cs_y0_ret_14_3_3, A_y0_ret_15_3_3, n_y0_ret_15_3_3, c_y0_ret_15_3_3, cs_y0_ret_15_3_3, rfl, h_y0_ret_0_3_3, h_y0_ret_1_3_3, h_y0_ret_2_3_3, h_y0_ret_3_3_3, h_y0_ret_4_3_3, h_y0_ret_5_3_3, h_y0_ret_9_3_3, h_y0_ret_10_3_3, h_y0_ret_11_3_3, h_y0_ret_13_3_3, h_y0_ret_14_3_3, h_y0_ret_15_3_3, hS⟩
  refine ⟨_, rfl, ?_⟩
  obtain rfl := h_y0_ret_0_3_3.n
  obtain rfl := h_y0_ret_1_3_3.n
  obtain rfl := h_y0_ret_2_3_3.n
  obtain rfl := h_y0_ret_3_3_3.n
  obtain rfl := h_y0_ret_4_3_3.n
  obtain rfl := h_y0_ret_5_3_3.n
  obtain rfl := St.vec_n hS h_y0_ret_9_3_3
  obtain rfl := St.vec_n (hS.pull 1) h_y0_ret_10_3_3
  obtain rfl := St.vec_n (hS.pull 2) h_y0_ret_11_3_3
  obtain rfl := St.vec_n (hS.pull 3) h_y0_ret_13_3_3
  obtain rfl := St.vec_n (hS.pull 4) h_y0_ret_14_3_3
  obtain rfl := St.vec_n (hS.pull 5) h_y0_ret_15_3_3
  refine o_alloc zero_43 hS (fun b6 w' hS => ?_)
  refine o_storeAgg (news := [.slice A_y0_ret_0_3_3 r3_3.1.Net.In.length c_y0_ret_0_3_3, .slice A_y0_ret_1_3_3 r3_3.1.Net.Out.length c_y0_ret_1_3_3, .slice A_y0_ret_2_3_3 r3_3.1.Net.Flops.length c_y0_ret_2_3_3, .slice A_y0_ret_3_3_3 r3_3.1.Net.Gates.length c_y0_ret_3_3_3, .slice A_y0_ret_4_3_3 r3_3.1.Net.Outs.length c_y0_ret_4_3_3, .slice A_y0_ret_5_3_3 r3_3.1.Lib.length c_y0_ret_5_3_3, .int .i64 r3_3.1.Floor.Rows, .int .i64 r3_3.1.Floor.Sites, .int .i64 r3_3.1.Floor.Layers, .slice A_y0_ret_9_3_3 r3_3.1.Floor.Blocks.length c_y0_ret_9_3_3, .slice A_y0_ret_10_3_3 r3_3.1.Floor.Walls.length c_y0_ret_10_3_3, .slice A_y0_ret_11_3_3 r3_3.1.Floor.Ports.length c_y0_ret_11_3_3, .int .i64 r3_3.1.Tree.Cell, .slice A_y0_ret_13_3_3 r3_3.1.Tree.Up.length c_y0_ret_13_3_3, .slice A_y0_ret_14_3_3 r3_3.1.Tree.Leaf.length c_y0_ret_14_3_3, .slice A_y0_ret_15_3_3 r3_3.1.Sites.length c_y0_ret_15_3_3]) agg_43 rfl rfl rfl (by simp [over_length]) hS (fun w' hS => ?_)
  obtain ⟨r4_0, hc4_0, hF⟩ := bd_s hF
  refine x_done <| x_seq <| x_seq <| x_region <|
    ?_
  have hcall := c_maskkeep4_floors hc4_0  (hS.pull 8)
  refine o_cc call_6 args0 ((Calls.mono hcall (fun e w'' h => And.intro h.1 ((((((((((h.2.pull 9).pull 1).pull 9).pull 9).pull 9).pull 9).pull 9).pull 9).pull 9).pull 9)))) ?_
  rintro e w' ⟨rfl, hS⟩
  refine ⟨_, rfl, ?_⟩
  obtain ⟨x36, hx36, hF⟩ := lv_s hF
  refine p (yl_not rfl) <| p (yl_move rfl) <| pg (v := .pointer (some ⟨b6, 15, none⟩)) 28 (c := !(!r4_0)) (says_f _) (fun hq => Yl.at (yl_field0 fld_43_4 rfl)) <| pg (v := .slice A_y0_ret_15_3_3 r3_3.1.Sites.length c_y0_ret_15_3_3) 28 (c := !(!r4_0)) (says_f _) (fun hq => at_load one_41 (cv hq) (hS.cell rfl)) <|
    pg (v := .int .i64 (r3_3.1.Sites.length : Int)) 28 (c := !(!r4_0)) (says_f _) (fun hq => Yl.at (yl_len_slice usl_41 (cv hq))) <| pg (v := .pointer (some ⟨b4, 3, none⟩)) 28 (c := !(!r4_0)) (says_f _) (fun hq => Yl.at (yl_field0 fld_30_3 rfl)) <| pg (v := .slice A_y0_ret_3_2_1 r2_1.1.Gates.length c_y0_ret_3_2_1) 28 (c := !(!r4_0)) (says_f _) (fun hq => at_load one_28 (cv hq) ((hS.pull 9).cell rfl)) <| pg (v := .int .i64 (r2_1.1.Gates.length : Int)) 28 (c := !(!r4_0)) (says_f _) (fun hq => Yl.at (yl_len_slice usl_28 (cv hq))) <|
    pg (v := .bool (decide ((r3_3.1.Sites.length : Int) < (r2_1.1.Gates.length : Int)))) 28 (c := !(!r4_0)) (says_f _) (fun hq => Yl.at (yl_lss (cv hq) (cv hq))) <| p (yor' rfl rfl (fun hc => (cv (t_not hc))) hx36) <| x_done <|
    x_cond (t := x36) rfl (fun hc36 => ?_) (fun hc36 => ?_)
  · replace hF := it_t hc36 hF
    refine x_seq <| x_region <| p (yl_assign rfl) <| x_done <|
      ?_
    obtain rfl := Option.some.inj (show some _ = some _ from hF)
    exact x_return ⟨_, ⟨_, _, rfl, rfl, rfl⟩, rfl, (ro_back0 (((((hle2_1.trans hlez3_3).trans hlez3_3a).trans hlez3_3b).trans hlez3_3c).trans hlez3_3d) ((hS.drop.drop.drop.drop.drop.drop.drop.drop.pull 1).drop))⟩
  · replace hF := it_bf hc36 hF
    refine x_skip <| x_seq <| x_region <| p (yl_assign rfl) <|
      x_done <| x_seq <| x_seq <| x_region <|
      p (yl_field0 fld_30_3 rfl) <| pa (at_load one_28 rfl ((hS.pull 9).cell rfl)) <| p (yl_len_slice usl_28 rfl) <| p (yl_move rfl) <|
      x_done <|
      ?_
    obtain ⟨oL8, hLL8, hF⟩ := bs_s hF
    refine x_join (fun E w => (Sum.inl (())) = oL8 ∧ St w0 w (ro ρz3_3d :: l)) ?_ ?_
    · skip -- L8
      refine x_block ?_
      replace hS := St.vec_nil hS 53 R_floor_Point.sz
      have hnil_A_all7_L8h : RepL R_floor_Point ρz3_3d [] [] := rfl
      refine x_loop (fun k_ E w => ∃ (A_all7_L8h : Option Addr) (n_all7_L8h : Nat) (c_all7_L8h : Nat) (cs_all7_L8h : List Value) (all7_L8h : List T_floor_Point) (y40_L8h : Int), lp (P_maskkeep4_FloorApart_L8 r2_1 r3_3) k_ (all7_L8h, y40_L8h) = some oL8 ∧ E 5 = .slice A_y1_ret_2_1 r2_1.2.1.length c_y1_ret_2_1 ∧ E 6 = .pointer (some ⟨b6, 0, none⟩) ∧ E 7 = .slice A_all7_L8h n_all7_L8h c_all7_L8h ∧ E 38 = .slice A_y0_ret_3_2_1 r2_1.1.Gates.length c_y0_ret_3_2_1 ∧ E 39 = .int .i64 (r2_1.1.Gates.length : Int) ∧ E 40 = .int .i64 y40_L8h ∧ RepL R_floor_Point ρz3_3d all7_L8h cs_all7_L8h ∧ St w0 w (cells b6 43 [.slice A_y0_ret_0_3_3 r3_3.1.Net.In.length c_y0_ret_0_3_3, .slice A_y0_ret_1_3_3 r3_3.1.Net.Out.length c_y0_ret_1_3_3, .slice A_y0_ret_2_3_3 r3_3.1.Net.Flops.length c_y0_ret_2_3_3, .slice A_y0_ret_3_3_3 r3_3.1.Net.Gates.length c_y0_ret_3_3_3, .slice A_y0_ret_4_3_3 r3_3.1.Net.Outs.length c_y0_ret_4_3_3, .slice A_y0_ret_5_3_3 r3_3.1.Lib.length c_y0_ret_5_3_3, .int .i64 r3_3.1.Floor.Rows, .int .i64 r3_3.1.Floor.Sites, .int .i64 r3_3.1.Floor.Layers, .slice A_y0_ret_9_3_3 r3_3.1.Floor.Blocks.length c_y0_ret_9_3_3, .slice A_y0_ret_10_3_3 r3_3.1.Floor.Walls.length c_y0_ret_10_3_3, .slice A_y0_ret_11_3_3 r3_3.1.Floor.Ports.length c_y0_ret_11_3_3, .int .i64 r3_3.1.Tree.Cell, .slice A_y0_ret_13_3_3 r3_3.1.Tree.Up.length c_y0_ret_13_3_3, .slice A_y0_ret_14_3_3 r3_3.1.Tree.Leaf.length c_y0_ret_14_3_3, .slice A_y0_ret_15_3_3 r3_3.1.Sites.length c_y0_ret_15_3_3] :: vec 53 R_floor_Point.sz (.slice A_all7_L8h n_all7_L8h c_all7_L8h) n_all7_L8h cs_all7_L8h :: vec 78 R_floor_Block.sz (.slice A_y0_ret_9_3_3 r3_3.1.Floor.Blocks.length c_y0_ret_9_3_3) r3_3.1.Floor.Blocks.length cs_y0_ret_9_3_3 :: vec 80 R_floor_Wall.sz (.slice A_y0_ret_10_3_3 r3_3.1.Floor.Walls.length c_y0_ret_10_3_3) r3_3.1.Floor.Walls.length cs_y0_ret_10_3_3 :: vec 66 R_floor_Port.sz (.slice A_y0_ret_11_3_3 r3_3.1.Floor.Ports.length c_y0_ret_11_3_3) r3_3.1.Floor.Ports.length cs_y0_ret_11_3_3 :: vec 3 (RpI .i64).sz (.slice A_y0_ret_13_3_3 r3_3.1.Tree.Up.length c_y0_ret_13_3_3) r3_3.1.Tree.Up.length cs_y0_ret_13_3_3 :: vec 3 (RpI .i64).sz (.slice A_y0_ret_14_3_3 r3_3.1.Tree.Leaf.length c_y0_ret_14_3_3) r3_3.1.Tree.Leaf.length cs_y0_ret_14_3_3 :: vec 56 R_floor_Site.sz (.slice A_y0_ret_15_3_3 r3_3.1.Sites.length c_y0_ret_15_3_3) r3_3.1.Sites.length cs_y0_ret_15_3_3 :: ro ρz3_3d :: l)) fuel ⟨none, 0, 0, [], [], 0, hLL8, rfl, rfl, rfl, rfl, rfl, rfl, hnil_A_all7_L8h, (((((((((((hS.pull 8).drop.pull 9).drop.pull 8).pull 8).pull 8).pull 8).pull 8).pull 8).pull 8).pull 7).pull 8)⟩ ?_
      rintro kL8 E w ⟨A_all7_L8h, n_all7_L8h, c_all7_L8h, cs_all7_L8h, all7_L8h, y40_L8h, hLL8, eL8h_5, eL8h_6, eL8h_7, eL8h_38, eL8h_39, eL8h_40, h_all7_L8h, hS⟩
      obtain rfl := St.vec_n (hS.pull 1) h_all7_L8h
      obtain ⟨kL8, obL8, rfl, hFL8, hLL8⟩ := lp_s hLL8
      refine x_seq <| x_region <| p (yl_lss eL8h_40 eL8h_39) <| x_done <|
        x_seq <|
        x_cond_p (y40_L8h < (r2_1.1.Gates.length : Int)) rfl (fun hc41 => ?_) (fun hc41 => ?_)
      · replace hFL8 := it_t hc41 hFL8
        obtain ⟨hk9_1, hFL8⟩ := ck_s hFL8
        obtain ⟨y9_2, hy9_2, hFL8⟩ := lv_s hFL8
        obtain ⟨el9_2, ek9_2, ee9_2⟩ := fz3_3c.get hk9_1
        rw [← hy9_2] at ek9_2
        obtain ⟨A9_2_2, n9_2_2, c9_2_2, rfl, f9_2_2⟩ := ek9_2
        obtain rfl := f9_2_2.n
        refine x_skip <| x_seq <| x_block <| x_seq <|
          x_region <| p (yl_move eL8h_40) <| p (yix_f sl_28 eL8h_38 eL8h_40 (fz3_3c.le hlez3_3d) hk9_1) <| pa (v := .agg #[.int .i64 y9_2.Cell, .int .u64 y9_2.Table, .slice A9_2_2 y9_2.Ins.length c9_2_2]) (at_loadAgg agg_49 rfl rfl (Elt.every (Elt.le ee9_2 hlez3_3d) (hS.pull 8))) <|
          ?_
        refine o_alloc zero_49 hS (fun b9 w' hS => ?_)
        refine p (yl_assign rfl) <|
          ?_
        refine o_storeAgg (news := [.int .i64 y9_2.Cell, .int .u64 y9_2.Table, .slice A9_2_2 y9_2.Ins.length c9_2_2]) agg_49 rfl rfl rfl (by simp [over_length]) hS (fun w' hS => ?_)
        obtain ⟨hk10_3, hFL8⟩ := ck_s hFL8
        obtain ⟨y10_5, hy10_5, hFL8⟩ := lv_s hFL8
        obtain ⟨el10_5, ek10_5, ee10_5⟩ := h_y1_ret_2_1.get hk10_3
        rw [← hy10_5] at ek10_5
        obtain ⟨A10_5_5, n10_5_5, c10_5_5, A10_5_6, n10_5_6, c10_5_6, A10_5_7, n10_5_7, c10_5_7, rfl, f10_5_5, f10_5_6, f10_5_7⟩ := ek10_5
        obtain rfl := f10_5_5.n
        obtain rfl := f10_5_6.n
        obtain rfl := f10_5_7.n
        obtain ⟨x51, hx51, hFL8⟩ := ar_s hFL8
        refine x_done <| x_seq <| x_region <| p (yl_move eL8h_5) <|
          p (yl_field0 fld_49_0 rfl) <| pa (at_load one_3 rfl (hS.cell rfl)) <| p (yix_f sl_31 rfl rfl (h_y1_ret_2_1.le ((((hlez3_3.trans hlez3_3a).trans hlez3_3b).trans hlez3_3c).trans hlez3_3d)) hk10_3) <| p (yl_fieldAddr fld_51_2 rfl) <|
          pa (at_load one_3 rfl (Elt.ld (j := 2) (Elt.le ee10_5 ((((hlez3_3.trans hlez3_3a).trans hlez3_3b).trans hlez3_3c).trans hlez3_3d)) (hS.pull 9) rfl)) <| p (yadd rfl rfl hx51) <| p (yl_move rfl) <| x_done <|
          ?_
        obtain ⟨oL11, hLL11, hFL8⟩ := bs_s hFL8
        refine x_join (fun E w => ∃ (A_all7_L11 : Option Addr) (n_all7_L11 : Nat) (c_all7_L11 : Nat) (cs_all7_L11 : List Value) (all7_L11 : List T_floor_Point), (Sum.inl all7_L11) = oL11 ∧ E 5 = .slice A_y1_ret_2_1 r2_1.2.1.length c_y1_ret_2_1 ∧ E 6 = .pointer (some ⟨b6, 0, none⟩) ∧ E 7 = .slice A_all7_L11 n_all7_L11 c_all7_L11 ∧ E 38 = .slice A_y0_ret_3_2_1 r2_1.1.Gates.length c_y0_ret_3_2_1 ∧ E 39 = .int .i64 (r2_1.1.Gates.length : Int) ∧ E 40 = .int .i64 y40_L8h ∧ RepL R_floor_Point ρz3_3d all7_L11 cs_all7_L11 ∧ St w0 w (cells b6 43 [.slice A_y0_ret_0_3_3 r3_3.1.Net.In.length c_y0_ret_0_3_3, .slice A_y0_ret_1_3_3 r3_3.1.Net.Out.length c_y0_ret_1_3_3, .slice A_y0_ret_2_3_3 r3_3.1.Net.Flops.length c_y0_ret_2_3_3, .slice A_y0_ret_3_3_3 r3_3.1.Net.Gates.length c_y0_ret_3_3_3, .slice A_y0_ret_4_3_3 r3_3.1.Net.Outs.length c_y0_ret_4_3_3, .slice A_y0_ret_5_3_3 r3_3.1.Lib.length c_y0_ret_5_3_3, .int .i64 r3_3.1.Floor.Rows, .int .i64 r3_3.1.Floor.Sites, .int .i64 r3_3.1.Floor.Layers, .slice A_y0_ret_9_3_3 r3_3.1.Floor.Blocks.length c_y0_ret_9_3_3, .slice A_y0_ret_10_3_3 r3_3.1.Floor.Walls.length c_y0_ret_10_3_3, .slice A_y0_ret_11_3_3 r3_3.1.Floor.Ports.length c_y0_ret_11_3_3, .int .i64 r3_3.1.Tree.Cell, .slice A_y0_ret_13_3_3 r3_3.1.Tree.Up.length c_y0_ret_13_3_3, .slice A_y0_ret_14_3_3 r3_3.1.Tree.Leaf.length c_y0_ret_14_3_3, .slice A_y0_ret_15_3_3 r3_3.1.Sites.length c_y0_ret_15_3_3] :: vec 53 R_floor_Point.sz (.slice A_all7_L11 n_all7_L11 c_all7_L11) n_all7_L11 cs_all7_L11 :: vec 78 R_floor_Block.sz (.slice A_y0_ret_9_3_3 r3_3.1.Floor.Blocks.length c_y0_ret_9_3_3) r3_3.1.Floor.Blocks.length cs_y0_ret_9_3_3 :: vec 80 R_floor_Wall.sz (.slice A_y0_ret_10_3_3 r3_3.1.Floor.Walls.length c_y0_ret_10_3_3) r3_3.1.Floor.Walls.length cs_y0_ret_10_3_3 :: vec 66 R_floor_Port.sz (.slice A_y0_ret_11_3_3 r3_3.1.Floor.Ports.length c_y0_ret_11_3_3) r3_3.1.Floor.Ports.length cs_y0_ret_11_3_3 :: vec 3 (RpI .i64).sz (.slice A_y0_ret_13_3_3 r3_3.1.Tree.Up.length c_y0_ret_13_3_3) r3_3.1.Tree.Up.length cs_y0_ret_13_3_3 :: vec 3 (RpI .i64).sz (.slice A_y0_ret_14_3_3 r3_3.1.Tree.Leaf.length c_y0_ret_14_3_3) r3_3.1.Tree.Leaf.length cs_y0_ret_14_3_3 :: vec 56 R_floor_Site.sz (.slice A_y0_ret_15_3_3 r3_3.1.Sites.length c_y0_ret_15_3_3) r3_3.1.Sites.length cs_y0_ret_15_3_3 :: ro ρz3_3d :: l)) ?_ ?_
        · skip -- L11
          refine x_block ?_
          refine x_loop (fun k_ E w => ∃ (A_all7_L11h : Option Addr) (n_all7_L11h : Nat) (c_all7_L11h : Nat) (cs_all7_L11h : List Value) (all7_L11h : List T_floor_Point) (y52_L11h : Int), lp (P_maskkeep4_FloorApart_L11 r2_1 r3_3 y9_2 x51 y40_L8h) k_ (all7_L11h, y52_L11h) = some oL11 ∧ E 5 = .slice A_y1_ret_2_1 r2_1.2.1.length c_y1_ret_2_1 ∧ E 6 = .pointer (some ⟨b6, 0, none⟩) ∧ E 7 = .slice A_all7_L11h n_all7_L11h c_all7_L11h ∧ E 8 = .int .i64 y40_L8h ∧ E 9 = .pointer (some ⟨b9, 0, none⟩) ∧ E 38 = .slice A_y0_ret_3_2_1 r2_1.1.Gates.length c_y0_ret_3_2_1 ∧ E 39 = .int .i64 (r2_1.1.Gates.length : Int) ∧ E 40 = .int .i64 y40_L8h ∧ E 51 = .int .i64 x51 ∧ E 52 = .int .i64 y52_L11h ∧ RepL R_floor_Point ρz3_3d all7_L11h cs_all7_L11h ∧ St w0 w (cells b6 43 [.slice A_y0_ret_0_3_3 r3_3.1.Net.In.length c_y0_ret_0_3_3, .slice A_y0_ret_1_3_3 r3_3.1.Net.Out.length c_y0_ret_1_3_3, .slice A_y0_ret_2_3_3 r3_3.1.Net.Flops.length c_y0_ret_2_3_3, .slice A_y0_ret_3_3_3 r3_3.1.Net.Gates.length c_y0_ret_3_3_3, .slice A_y0_ret_4_3_3 r3_3.1.Net.Outs.length c_y0_ret_4_3_3, .slice A_y0_ret_5_3_3 r3_3.1.Lib.length c_y0_ret_5_3_3, .int .i64 r3_3.1.Floor.Rows, .int .i64 r3_3.1.Floor.Sites, .int .i64 r3_3.1.Floor.Layers, .slice A_y0_ret_9_3_3 r3_3.1.Floor.Blocks.length c_y0_ret_9_3_3, .slice A_y0_ret_10_3_3 r3_3.1.Floor.Walls.length c_y0_ret_10_3_3, .slice A_y0_ret_11_3_3 r3_3.1.Floor.Ports.length c_y0_ret_11_3_3, .int .i64 r3_3.1.Tree.Cell, .slice A_y0_ret_13_3_3 r3_3.1.Tree.Up.length c_y0_ret_13_3_3, .slice A_y0_ret_14_3_3 r3_3.1.Tree.Leaf.length c_y0_ret_14_3_3, .slice A_y0_ret_15_3_3 r3_3.1.Sites.length c_y0_ret_15_3_3] :: vec 53 R_floor_Point.sz (.slice A_all7_L11h n_all7_L11h c_all7_L11h) n_all7_L11h cs_all7_L11h :: cells b9 49 [.int .i64 y9_2.Cell, .int .u64 y9_2.Table, .slice A9_2_2 y9_2.Ins.length c9_2_2] :: vec 78 R_floor_Block.sz (.slice A_y0_ret_9_3_3 r3_3.1.Floor.Blocks.length c_y0_ret_9_3_3) r3_3.1.Floor.Blocks.length cs_y0_ret_9_3_3 :: vec 80 R_floor_Wall.sz (.slice A_y0_ret_10_3_3 r3_3.1.Floor.Walls.length c_y0_ret_10_3_3) r3_3.1.Floor.Walls.length cs_y0_ret_10_3_3 :: vec 66 R_floor_Port.sz (.slice A_y0_ret_11_3_3 r3_3.1.Floor.Ports.length c_y0_ret_11_3_3) r3_3.1.Floor.Ports.length cs_y0_ret_11_3_3 :: vec 3 (RpI .i64).sz (.slice A_y0_ret_13_3_3 r3_3.1.Tree.Up.length c_y0_ret_13_3_3) r3_3.1.Tree.Up.length cs_y0_ret_13_3_3 :: vec 3 (RpI .i64).sz (.slice A_y0_ret_14_3_3 r3_3.1.Tree.Leaf.length c_y0_ret_14_3_3) r3_3.1.Tree.Leaf.length cs_y0_ret_14_3_3 :: vec 56 R_floor_Site.sz (.slice A_y0_ret_15_3_3 r3_3.1.Sites.length c_y0_ret_15_3_3) r3_3.1.Sites.length cs_y0_ret_15_3_3 :: ro ρz3_3d :: l)) fuel ⟨A_all7_L8h, all7_L8h.length, c_all7_L8h, cs_all7_L8h, all7_L8h, 0, hLL11, eL8h_5, eL8h_6, eL8h_7, rfl, rfl, eL8h_38, eL8h_39, eL8h_40, rfl, rfl, h_all7_L8h, ((((((((((hS.pull 9).pull 9).pull 9).pull 9).pull 9).pull 9).pull 9).pull 7).pull 9).pull 9)⟩ ?_
          rintro kL11 E w ⟨A_all7_L11h, n_all7_L11h, c_all7_L11h, cs_all7_L11h, all7_L11h, y52_L11h, hLL11, eL11h_5, eL11h_6, eL11h_7, eL11h_8, eL11h_9, eL11h_38, eL11h_39, eL11h_40, eL11h_51, eL11h_52, h_all7_L11h, hS⟩
          obtain rfl := St.vec_n (hS.pull 1) h_all7_L11h
          obtain ⟨kL11, obL11, rfl, hFL11, hLL11⟩ := lp_s hLL11
          refine x_seq <| x_region <| p (yl_lss eL11h_52 eL11h_51) <| x_done <|
            x_seq <|
            x_cond_p (y52_L11h < x51) rfl (fun hc53 => ?_) (fun hc53 => ?_)
          · replace hFL11 := it_t hc53 hFL11
            refine x_skip <| x_seq <| x_block <| x_seq <|
              x_region <| p (yl_move eL11h_52) <| p (yl_assign rfl) <| x_done <|
              x_seq <|
              ?_
            obtain ⟨hk13_3, hFL11⟩ := ck_s hFL11
            obtain ⟨y13_4, hy13_4, hFL11⟩ := lv_s hFL11
            obtain ⟨hk13_8, hFL11⟩ := ck_s hFL11
            obtain ⟨y13_9, hy13_9, hFL11⟩ := lv_s hFL11
            obtain ⟨r13_11, hc13_11, hFL11⟩ := bd_s hFL11
            refine x_par (w0 := w0) [⟨[], [], [55], [], [], []⟩, ⟨[], [], [56], [], [], []⟩, ⟨[1], [1], [57], [0], [], []⟩, ⟨[0, 1, 2], [0, 2], [58], [1], [], []⟩, ⟨[0, 1, 2, 3], [3], [59], [1], [], []⟩, ⟨[], [], [60], [], [], []⟩, ⟨[5], [5], [61], [2], [], []⟩, ⟨[], [], [62], [], [], []⟩, ⟨[5, 6, 7], [6, 7], [63], [3], [], []⟩, ⟨[5, 6, 7, 8], [8], [64], [3], [], []⟩, ⟨[], [], [65], [], [], []⟩, ⟨[0, 1, 2, 3, 4, 5, 6, 7, 8, 9, 10], [4, 9, 10], [66], [1], [], []⟩, ⟨[], [], [11], [], [], [4]⟩, ⟨[0, 1, 2, 3, 4, 5, 6, 7, 8, 9, 10, 11, 12], [11, 12], [], [], [4], [5]⟩] [⟨none, none, []⟩, ⟨none, none, []⟩, ⟨none, none, []⟩, ⟨none, none, []⟩, ⟨(some 12), (some 13), [11]⟩, ⟨(some 13), none, [11]⟩] [11, 55, 56, 57, 58, 59, 60, 61, 62, 63, 64, 65, 66] [0, 1, 2, 3] [0, 1, 2, 3, 5] [0, 1, 2, 3, 4, 5, 6, 7, 8, 9, 10, 11, 12] [fun Ep13 => Ep13 55 = .slice A_y1_ret_2_1 r2_1.2.1.length c_y1_ret_2_1, fun Ep13 => Ep13 56 = .pointer (some ⟨b9, 0, none⟩), fun Ep13 => Ep13 57 = .int .i64 y9_2.Cell, fun Ep13 => Ep13 58 = .pointer (some ((adr A_y1_ret_2_1).add (y9_2.Cell.toNat * R_api_Cell.sz))), fun Ep13 => Ep13 59 = .agg #[.string y13_4.Name, .bool y13_4.Flop, .int .i64 y13_4.Ins, .int .u64 y13_4.Table, .int .i64 y13_4.Area, .slice (adOf (partOf 5 (Ep13 59))) y13_4.Cap.length (capOf (partOf 5 (Ep13 59))), .slice (adOf (partOf 6 (Ep13 59))) y13_4.Min.length (capOf (partOf 6 (Ep13 59))), .slice (adOf (partOf 7 (Ep13 59))) y13_4.Max.length (capOf (partOf 7 (Ep13 59))), .int .i64 y13_4.Drive, .int .i64 y13_4.Setup, .int .i64 y13_4.Hold] ∧ RdS (RpI .i64) ρ'_2_1 (adOf (partOf 5 (Ep13 59))) y13_4.Cap.length (capOf (partOf 5 (Ep13 59))) y13_4.Cap ∧ RdS (RpI .i64) ρ'_2_1 (adOf (partOf 6 (Ep13 59))) y13_4.Min.length (capOf (partOf 6 (Ep13 59))) y13_4.Min ∧ RdS (RpI .i64) ρ'_2_1 (adOf (partOf 7 (Ep13 59))) y13_4.Max.length (capOf (partOf 7 (Ep13 59))) y13_4.Max, fun Ep13 => Ep13 60 = .pointer (some ⟨b6, 15, none⟩), fun Ep13 => Ep13 61 = .slice A_y0_ret_15_3_3 r3_3.1.Sites.length c_y0_ret_15_3_3, fun Ep13 => Ep13 62 = .int .i64 y40_L8h, fun Ep13 => Ep13 63 = .pointer (some ((adr A_y0_ret_15_3_3).add (y40_L8h.toNat * R_floor_Site.sz))), fun Ep13 => Ep13 64 = .agg #[.int .i64 y13_9.Row, .int .i64 y13_9.At], fun Ep13 => Ep13 65 = .int .i64 y52_L11h, fun Ep13 => Ep13 66 = .agg #[.int .i64 r13_11.X, .int .i64 r13_11.Y], fun Ep13 => Ep13 11 = .pointer (some ⟨(blkOf (Ep13 11)), 0, none⟩), fun Ep13 => True] [fun Ep13 => cells b9 49 [.int .i64 y9_2.Cell, .int .u64 y9_2.Table, .slice A9_2_2 y9_2.Ins.length c9_2_2], fun Ep13 => ro ρz3_3d, fun Ep13 => cells b6 43 [.slice A_y0_ret_0_3_3 r3_3.1.Net.In.length c_y0_ret_0_3_3, .slice A_y0_ret_1_3_3 r3_3.1.Net.Out.length c_y0_ret_1_3_3, .slice A_y0_ret_2_3_3 r3_3.1.Net.Flops.length c_y0_ret_2_3_3, .slice A_y0_ret_3_3_3 r3_3.1.Net.Gates.length c_y0_ret_3_3_3, .slice A_y0_ret_4_3_3 r3_3.1.Net.Outs.length c_y0_ret_4_3_3, .slice A_y0_ret_5_3_3 r3_3.1.Lib.length c_y0_ret_5_3_3, .int .i64 r3_3.1.Floor.Rows, .int .i64 r3_3.1.Floor.Sites, .int .i64 r3_3.1.Floor.Layers, .slice A_y0_ret_9_3_3 r3_3.1.Floor.Blocks.length c_y0_ret_9_3_3, .slice A_y0_ret_10_3_3 r3_3.1.Floor.Walls.length c_y0_ret_10_3_3, .slice A_y0_ret_11_3_3 r3_3.1.Floor.Ports.length c_y0_ret_11_3_3, .int .i64 r3_3.1.Tree.Cell, .slice A_y0_ret_13_3_3 r3_3.1.Tree.Up.length c_y0_ret_13_3_3, .slice A_y0_ret_14_3_3 r3_3.1.Tree.Leaf.length c_y0_ret_14_3_3, .slice A_y0_ret_15_3_3 r3_3.1.Sites.length c_y0_ret_15_3_3], fun Ep13 => vec 56 R_floor_Site.sz (.slice A_y0_ret_15_3_3 r3_3.1.Sites.length c_y0_ret_15_3_3) r3_3.1.Sites.length cs_y0_ret_15_3_3, fun Ep13 => cells (blkOf (Ep13 11)) 53 [.int .i64 0, .int .i64 0], fun Ep13 => cells (blkOf (Ep13 11)) 53 [.int .i64 r13_11.X, .int .i64 r13_11.Y]] mixed (by kernel_rfl) ((((hS.pull 8).pull 1).pull 9).pull 4) ?_ ?_
            · refine ⟨?_, ?_, ?_, ?_, ?_, ?_, ?_, ?_, ?_, ?_, ?_, ?_, ?_, ?_, trivial⟩
              · intro Ep13 w l' hE13 hO13 hF_ hS
                refine p (yl_move ((hE13 5 rfl).trans eL11h_5)) <| x_done <|
                  ?_
                refine x_fin ⟨⟨_, rfl⟩, rfl, ?_⟩
                exact Eq.mp (by kernel_rfl) hS
              · intro Ep13 w l' hE13 hO13 hF_ hS
                refine p (yl_field0 fld_49_0 ((hE13 9 rfl).trans eL11h_9)) <| x_done <|
                  ?_
                refine x_fin ⟨⟨_, rfl⟩, rfl, ?_⟩
                exact Eq.mp (by kernel_rfl) hS
              · intro Ep13 w l' hE13 hO13 hF_ hS
                obtain ⟨f13_1, -⟩ := hF_
                replace f13_1 : Ep13 56 = .pointer (some ⟨b9, 0, none⟩) := Eq.mp (by kernel_rfl) f13_1
                replace hS : St w0 w (cells b9 49 [.int .i64 y9_2.Cell, .int .u64 y9_2.Table, .slice A9_2_2 y9_2.Ins.length c9_2_2] :: l') := Eq.mp (by kernel_rfl) hS
                refine pa (at_load one_3 f13_1 (hS.cell rfl)) <| x_done <|
                  ?_
                refine x_fin ⟨⟨_, rfl⟩, rfl, ?_⟩
                exact Eq.mp (by kernel_rfl) hS
              · intro Ep13 w l' hE13 hO13 hF_ hS
                obtain ⟨f13_0, f13_2, -⟩ := hF_
                replace f13_0 : Ep13 55 = .slice A_y1_ret_2_1 r2_1.2.1.length c_y1_ret_2_1 := Eq.mp (by kernel_rfl) f13_0
                replace f13_2 : Ep13 57 = .int .i64 y9_2.Cell := Eq.mp (by kernel_rfl) f13_2
                replace hS : St w0 w (ro ρz3_3d :: l') := Eq.mp (by kernel_rfl) hS
                refine p (yix_f sl_31 f13_0 f13_2 (h_y1_ret_2_1.le ((((hlez3_3.trans hlez3_3a).trans hlez3_3b).trans hlez3_3c).trans hlez3_3d)) hk13_3) <| x_done <|
                  ?_
                refine x_fin ⟨⟨_, rfl⟩, rfl, ?_⟩
                exact Eq.mp (by kernel_rfl) hS
              · intro Ep13 w l' hE13 hO13 hF_ hS
                obtain ⟨f13_3, -⟩ := hF_
                replace f13_3 : Ep13 58 = .pointer (some ((adr A_y1_ret_2_1).add (y9_2.Cell.toNat * R_api_Cell.sz))) := Eq.mp (by kernel_rfl) f13_3
                replace hS : St w0 w (ro ρz3_3d :: l') := Eq.mp (by kernel_rfl) hS
                obtain ⟨el13_4, ek13_4, ee13_4⟩ := h_y1_ret_2_1.get hk13_3
                rw [← hy13_4] at ek13_4
                obtain ⟨A13_4_5, n13_4_5, c13_4_5, A13_4_6, n13_4_6, c13_4_6, A13_4_7, n13_4_7, c13_4_7, rfl, f13_4_5, f13_4_6, f13_4_7⟩ := ek13_4
                obtain rfl := f13_4_5.n
                obtain rfl := f13_4_6.n
                obtain rfl := f13_4_7.n
                refine pa (v := .agg #[.string y13_4.Name, .bool y13_4.Flop, .int .i64 y13_4.Ins, .int .u64 y13_4.Table, .int .i64 y13_4.Area, .slice A13_4_5 y13_4.Cap.length c13_4_5, .slice A13_4_6 y13_4.Min.length c13_4_6, .slice A13_4_7 y13_4.Max.length c13_4_7, .int .i64 y13_4.Drive, .int .i64 y13_4.Setup, .int .i64 y13_4.Hold]) (at_loadAgg agg_51 f13_3 rfl (Elt.every (Elt.le ee13_4 ((((hlez3_3.trans hlez3_3a).trans hlez3_3b).trans hlez3_3c).trans hlez3_3d)) hS)) <| x_done <|
                  ?_
                refine x_fin ⟨⟨_, rfl⟩, ⟨rfl, f13_4_5, f13_4_6, f13_4_7⟩, ?_⟩
                exact Eq.mp (by kernel_rfl) hS
              · intro Ep13 w l' hE13 hO13 hF_ hS
                refine p (yl_field0 fld_43_4 ((hE13 6 rfl).trans eL11h_6)) <| x_done <|
                  ?_
                refine x_fin ⟨⟨_, rfl⟩, rfl, ?_⟩
                exact Eq.mp (by kernel_rfl) hS
              · intro Ep13 w l' hE13 hO13 hF_ hS
                obtain ⟨f13_5, -⟩ := hF_
                replace f13_5 : Ep13 60 = .pointer (some ⟨b6, 15, none⟩) := Eq.mp (by kernel_rfl) f13_5
                replace hS : St w0 w (cells b6 43 [.slice A_y0_ret_0_3_3 r3_3.1.Net.In.length c_y0_ret_0_3_3, .slice A_y0_ret_1_3_3 r3_3.1.Net.Out.length c_y0_ret_1_3_3, .slice A_y0_ret_2_3_3 r3_3.1.Net.Flops.length c_y0_ret_2_3_3, .slice A_y0_ret_3_3_3 r3_3.1.Net.Gates.length c_y0_ret_3_3_3, .slice A_y0_ret_4_3_3 r3_3.1.Net.Outs.length c_y0_ret_4_3_3, .slice A_y0_ret_5_3_3 r3_3.1.Lib.length c_y0_ret_5_3_3, .int .i64 r3_3.1.Floor.Rows, .int .i64 r3_3.1.Floor.Sites, .int .i64 r3_3.1.Floor.Layers, .slice A_y0_ret_9_3_3 r3_3.1.Floor.Blocks.length c_y0_ret_9_3_3, .slice A_y0_ret_10_3_3 r3_3.1.Floor.Walls.length c_y0_ret_10_3_3, .slice A_y0_ret_11_3_3 r3_3.1.Floor.Ports.length c_y0_ret_11_3_3, .int .i64 r3_3.1.Tree.Cell, .slice A_y0_ret_13_3_3 r3_3.1.Tree.Up.length c_y0_ret_13_3_3, .slice A_y0_ret_14_3_3 r3_3.1.Tree.Leaf.length c_y0_ret_14_3_3, .slice A_y0_ret_15_3_3 r3_3.1.Sites.length c_y0_ret_15_3_3] :: l') := Eq.mp (by kernel_rfl) hS
                refine pa (at_load one_41 f13_5 (hS.cell rfl)) <| x_done <|
                  ?_
                refine x_fin ⟨⟨_, rfl⟩, rfl, ?_⟩
                exact Eq.mp (by kernel_rfl) hS
              · intro Ep13 w l' hE13 hO13 hF_ hS
                refine p (yl_move ((hE13 8 rfl).trans eL11h_8)) <| x_done <|
                  ?_
                refine x_fin ⟨⟨_, rfl⟩, rfl, ?_⟩
                exact Eq.mp (by kernel_rfl) hS
              · intro Ep13 w l' hE13 hO13 hF_ hS
                obtain ⟨f13_6, f13_7, -⟩ := hF_
                replace f13_6 : Ep13 61 = .slice A_y0_ret_15_3_3 r3_3.1.Sites.length c_y0_ret_15_3_3 := Eq.mp (by kernel_rfl) f13_6
                replace f13_7 : Ep13 62 = .int .i64 y40_L8h := Eq.mp (by kernel_rfl) f13_7
                replace hS : St w0 w (vec 56 R_floor_Site.sz (.slice A_y0_ret_15_3_3 r3_3.1.Sites.length c_y0_ret_15_3_3) r3_3.1.Sites.length cs_y0_ret_15_3_3 :: l') := Eq.mp (by kernel_rfl) hS
                refine p (yix_o sl_41 f13_6 f13_7 hS h_y0_ret_15_3_3 hk13_8) <| x_done <|
                  ?_
                refine x_fin ⟨⟨_, rfl⟩, rfl, ?_⟩
                exact Eq.mp (by kernel_rfl) hS
              · intro Ep13 w l' hE13 hO13 hF_ hS
                obtain ⟨f13_8, -⟩ := hF_
                replace f13_8 : Ep13 63 = .pointer (some ((adr A_y0_ret_15_3_3).add (y40_L8h.toNat * R_floor_Site.sz))) := Eq.mp (by kernel_rfl) f13_8
                replace hS : St w0 w (vec 56 R_floor_Site.sz (.slice A_y0_ret_15_3_3 r3_3.1.Sites.length c_y0_ret_15_3_3) r3_3.1.Sites.length cs_y0_ret_15_3_3 :: l') := Eq.mp (by kernel_rfl) hS
                obtain ⟨el13_9, ek13_9, ee13_9⟩ := h_y0_ret_15_3_3.get hk13_8
                rw [← hy13_9] at ek13_9
                obtain rfl := ek13_9
                refine pa (v := .agg #[.int .i64 y13_9.Row, .int .i64 y13_9.At]) (at_loadAgg agg_56 f13_8 rfl (EltV.every ee13_9 hS)) <| x_done <|
                  ?_
                refine x_fin ⟨⟨_, rfl⟩, rfl, ?_⟩
                exact Eq.mp (by kernel_rfl) hS
              · intro Ep13 w l' hE13 hO13 hF_ hS
                refine p (yl_move (hE13 10 rfl)) <| x_done <|
                  ?_
                refine x_fin ⟨⟨_, rfl⟩, rfl, ?_⟩
                exact Eq.mp (by kernel_rfl) hS
              · intro Ep13 w l' hE13 hO13 hF_ hS
                obtain ⟨f13_4, f13_9, f13_10, -⟩ := hF_
                replace f13_4 : Ep13 59 = .agg #[.string y13_4.Name, .bool y13_4.Flop, .int .i64 y13_4.Ins, .int .u64 y13_4.Table, .int .i64 y13_4.Area, .slice (adOf (partOf 5 (Ep13 59))) y13_4.Cap.length (capOf (partOf 5 (Ep13 59))), .slice (adOf (partOf 6 (Ep13 59))) y13_4.Min.length (capOf (partOf 6 (Ep13 59))), .slice (adOf (partOf 7 (Ep13 59))) y13_4.Max.length (capOf (partOf 7 (Ep13 59))), .int .i64 y13_4.Drive, .int .i64 y13_4.Setup, .int .i64 y13_4.Hold] ∧ RdS (RpI .i64) ρ'_2_1 (adOf (partOf 5 (Ep13 59))) y13_4.Cap.length (capOf (partOf 5 (Ep13 59))) y13_4.Cap ∧ RdS (RpI .i64) ρ'_2_1 (adOf (partOf 6 (Ep13 59))) y13_4.Min.length (capOf (partOf 6 (Ep13 59))) y13_4.Min ∧ RdS (RpI .i64) ρ'_2_1 (adOf (partOf 7 (Ep13 59))) y13_4.Max.length (capOf (partOf 7 (Ep13 59))) y13_4.Max := Eq.mp (by kernel_rfl) f13_4
                obtain ⟨-, f13_4a, f13_4b, f13_4c⟩ := id f13_4
                replace f13_9 : Ep13 64 = .agg #[.int .i64 y13_9.Row, .int .i64 y13_9.At] := Eq.mp (by kernel_rfl) f13_9
                replace f13_10 : Ep13 65 = .int .i64 y52_L11h := Eq.mp (by kernel_rfl) f13_10
                replace hS : St w0 w (ro ρz3_3d :: l') := Eq.mp (by kernel_rfl) hS
                have hcall := c_floor_Pin hc13_11 (f13_4a.le ((((hlez3_3.trans hlez3_3a).trans hlez3_3b).trans hlez3_3c).trans hlez3_3d)) (f13_4b.le ((((hlez3_3.trans hlez3_3a).trans hlez3_3b).trans hlez3_3c).trans hlez3_3d)) (f13_4c.le ((((hlez3_3.trans hlez3_3a).trans hlez3_3b).trans hlez3_3c).trans hlez3_3d)) hS
                refine o_cc call_7 (args3 f13_4.1 f13_9 f13_10) (hcall) ?_
                rintro e w' ⟨rfl, hS⟩
                refine ⟨_, rfl, ?_⟩
                refine x_done <|
                  ?_
                refine x_fin ⟨⟨_, rfl⟩, rfl, ?_⟩
                exact Eq.mp (by kernel_rfl) hS
              · intro Ep13 w l' hE13 hO13 hF_ hS
                refine o_alloc zero_53 hS (fun b11 w' hS => ?_)
                refine x_done <|
                  ?_
                refine x_fin ⟨⟨_, rfl⟩, rfl, ?_⟩
                exact Eq.mp (by kernel_rfl) hS
              · intro Ep13 w l' hE13 hO13 hF_ hS
                obtain ⟨f13_11, f13_12, -⟩ := hF_
                replace f13_11 : Ep13 66 = .agg #[.int .i64 r13_11.X, .int .i64 r13_11.Y] := Eq.mp (by kernel_rfl) f13_11
                replace f13_12 : Ep13 11 = .pointer (some ⟨(blkOf (Ep13 11)), 0, none⟩) := Eq.mp (by kernel_rfl) f13_12
                replace hS : St w0 w (cells (blkOf (Ep13 11)) 53 [.int .i64 0, .int .i64 0] :: l') := Eq.mp (by kernel_rfl) hS
                refine o_storeAgg (news := [.int .i64 r13_11.X, .int .i64 r13_11.Y]) agg_53 f13_12 f13_11 rfl (by simp [over_length]) hS (fun w' hS => ?_)
                refine x_done <|
                  ?_
                refine x_fin ⟨⟨undef, rfl⟩, trivial, ?_⟩
                exact Eq.mp (by kernel_rfl) hS
            intro Ep13 w' hE13 hF_ hS
            obtain ⟨f13_0, f13_1, f13_2, f13_3, f13_4, f13_5, f13_6, f13_7, f13_8, f13_9, f13_10, f13_11, f13_12, -⟩ := hF_
            replace f13_0 : Ep13 55 = .slice A_y1_ret_2_1 r2_1.2.1.length c_y1_ret_2_1 := Eq.mp (by kernel_rfl) f13_0
            replace f13_1 : Ep13 56 = .pointer (some ⟨b9, 0, none⟩) := Eq.mp (by kernel_rfl) f13_1
            replace f13_2 : Ep13 57 = .int .i64 y9_2.Cell := Eq.mp (by kernel_rfl) f13_2
            replace f13_3 : Ep13 58 = .pointer (some ((adr A_y1_ret_2_1).add (y9_2.Cell.toNat * R_api_Cell.sz))) := Eq.mp (by kernel_rfl) f13_3
            replace f13_4 : Ep13 59 = .agg #[.string y13_4.Name, .bool y13_4.Flop, .int .i64 y13_4.Ins, .int .u64 y13_4.Table, .int .i64 y13_4.Area, .slice (adOf (partOf 5 (Ep13 59))) y13_4.Cap.length (capOf (partOf 5 (Ep13 59))), .slice (adOf (partOf 6 (Ep13 59))) y13_4.Min.length (capOf (partOf 6 (Ep13 59))), .slice (adOf (partOf 7 (Ep13 59))) y13_4.Max.length (capOf (partOf 7 (Ep13 59))), .int .i64 y13_4.Drive, .int .i64 y13_4.Setup, .int .i64 y13_4.Hold] ∧ RdS (RpI .i64) ρ'_2_1 (adOf (partOf 5 (Ep13 59))) y13_4.Cap.length (capOf (partOf 5 (Ep13 59))) y13_4.Cap ∧ RdS (RpI .i64) ρ'_2_1 (adOf (partOf 6 (Ep13 59))) y13_4.Min.length (capOf (partOf 6 (Ep13 59))) y13_4.Min ∧ RdS (RpI .i64) ρ'_2_1 (adOf (partOf 7 (Ep13 59))) y13_4.Max.length (capOf (partOf 7 (Ep13 59))) y13_4.Max := Eq.mp (by kernel_rfl) f13_4
            obtain ⟨-, f13_4a, f13_4b, f13_4c⟩ := id f13_4
            replace f13_5 : Ep13 60 = .pointer (some ⟨b6, 15, none⟩) := Eq.mp (by kernel_rfl) f13_5
            replace f13_6 : Ep13 61 = .slice A_y0_ret_15_3_3 r3_3.1.Sites.length c_y0_ret_15_3_3 := Eq.mp (by kernel_rfl) f13_6
            replace f13_7 : Ep13 62 = .int .i64 y40_L8h := Eq.mp (by kernel_rfl) f13_7
            replace f13_8 : Ep13 63 = .pointer (some ((adr A_y0_ret_15_3_3).add (y40_L8h.toNat * R_floor_Site.sz))) := Eq.mp (by kernel_rfl) f13_8
            replace f13_9 : Ep13 64 = .agg #[.int .i64 y13_9.Row, .int .i64 y13_9.At] := Eq.mp (by kernel_rfl) f13_9
            replace f13_10 : Ep13 65 = .int .i64 y52_L11h := Eq.mp (by kernel_rfl) f13_10
            replace f13_11 : Ep13 66 = .agg #[.int .i64 r13_11.X, .int .i64 r13_11.Y] := Eq.mp (by kernel_rfl) f13_11
            replace f13_12 : Ep13 11 = .pointer (some ⟨(blkOf (Ep13 11)), 0, none⟩) := Eq.mp (by kernel_rfl) f13_12
            replace hS : St w0 w' (cells b9 49 [.int .i64 y9_2.Cell, .int .u64 y9_2.Table, .slice A9_2_2 y9_2.Ins.length c9_2_2] :: ro ρz3_3d :: cells b6 43 [.slice A_y0_ret_0_3_3 r3_3.1.Net.In.length c_y0_ret_0_3_3, .slice A_y0_ret_1_3_3 r3_3.1.Net.Out.length c_y0_ret_1_3_3, .slice A_y0_ret_2_3_3 r3_3.1.Net.Flops.length c_y0_ret_2_3_3, .slice A_y0_ret_3_3_3 r3_3.1.Net.Gates.length c_y0_ret_3_3_3, .slice A_y0_ret_4_3_3 r3_3.1.Net.Outs.length c_y0_ret_4_3_3, .slice A_y0_ret_5_3_3 r3_3.1.Lib.length c_y0_ret_5_3_3, .int .i64 r3_3.1.Floor.Rows, .int .i64 r3_3.1.Floor.Sites, .int .i64 r3_3.1.Floor.Layers, .slice A_y0_ret_9_3_3 r3_3.1.Floor.Blocks.length c_y0_ret_9_3_3, .slice A_y0_ret_10_3_3 r3_3.1.Floor.Walls.length c_y0_ret_10_3_3, .slice A_y0_ret_11_3_3 r3_3.1.Floor.Ports.length c_y0_ret_11_3_3, .int .i64 r3_3.1.Tree.Cell, .slice A_y0_ret_13_3_3 r3_3.1.Tree.Up.length c_y0_ret_13_3_3, .slice A_y0_ret_14_3_3 r3_3.1.Tree.Leaf.length c_y0_ret_14_3_3, .slice A_y0_ret_15_3_3 r3_3.1.Sites.length c_y0_ret_15_3_3] :: vec 56 R_floor_Site.sz (.slice A_y0_ret_15_3_3 r3_3.1.Sites.length c_y0_ret_15_3_3) r3_3.1.Sites.length cs_y0_ret_15_3_3 :: cells (blkOf (Ep13 11)) 53 [.int .i64 r13_11.X, .int .i64 r13_11.Y] :: (vec 53 R_floor_Point.sz (.slice A_all7_L11h all7_L11h.length c_all7_L11h) all7_L11h.length cs_all7_L11h :: vec 78 R_floor_Block.sz (.slice A_y0_ret_9_3_3 r3_3.1.Floor.Blocks.length c_y0_ret_9_3_3) r3_3.1.Floor.Blocks.length cs_y0_ret_9_3_3 :: vec 80 R_floor_Wall.sz (.slice A_y0_ret_10_3_3 r3_3.1.Floor.Walls.length c_y0_ret_10_3_3) r3_3.1.Floor.Walls.length cs_y0_ret_10_3_3 :: vec 66 R_floor_Port.sz (.slice A_y0_ret_11_3_3 r3_3.1.Floor.Ports.length c_y0_ret_11_3_3) r3_3.1.Floor.Ports.length cs_y0_ret_11_3_3 :: vec 3 (RpI .i64).sz (.slice A_y0_ret_13_3_3 r3_3.1.Tree.Up.length c_y0_ret_13_3_3) r3_3.1.Tree.Up.length cs_y0_ret_13_3_3 :: vec 3 (RpI .i64).sz (.slice A_y0_ret_14_3_3 r3_3.1.Tree.Leaf.length c_y0_ret_14_3_3) r3_3.1.Tree.Leaf.length cs_y0_ret_14_3_3 :: l)) := Eq.mp (by kernel_rfl) hS
            refine x_seq <| x_seq <| x_region <| p (yl_move ((hE13 7 rfl).trans eL11h_7)) <|
              p (yl_len_slice usl_46 rfl) <| p (yl_move rfl) <| x_done <|
              ?_
            obtain ⟨oL15, hLL15, hFL11⟩ := bs_s hFL11
            refine x_join (fun E w => ∃ (b_p11_L15 : Nat), (Sum.inl (())) = oL15 ∧ E 5 = .slice A_y1_ret_2_1 r2_1.2.1.length c_y1_ret_2_1 ∧ E 6 = .pointer (some ⟨b6, 0, none⟩) ∧ E 7 = .slice A_all7_L11h all7_L11h.length c_all7_L11h ∧ E 8 = .int .i64 y40_L8h ∧ E 9 = .pointer (some ⟨b9, 0, none⟩) ∧ E 11 = .pointer (some ⟨b_p11_L15, 0, none⟩) ∧ E 38 = .slice A_y0_ret_3_2_1 r2_1.1.Gates.length c_y0_ret_3_2_1 ∧ E 39 = .int .i64 (r2_1.1.Gates.length : Int) ∧ E 40 = .int .i64 y40_L8h ∧ E 51 = .int .i64 x51 ∧ E 52 = .int .i64 y52_L11h ∧ St w0 w (cells b6 43 [.slice A_y0_ret_0_3_3 r3_3.1.Net.In.length c_y0_ret_0_3_3, .slice A_y0_ret_1_3_3 r3_3.1.Net.Out.length c_y0_ret_1_3_3, .slice A_y0_ret_2_3_3 r3_3.1.Net.Flops.length c_y0_ret_2_3_3, .slice A_y0_ret_3_3_3 r3_3.1.Net.Gates.length c_y0_ret_3_3_3, .slice A_y0_ret_4_3_3 r3_3.1.Net.Outs.length c_y0_ret_4_3_3, .slice A_y0_ret_5_3_3 r3_3.1.Lib.length c_y0_ret_5_3_3, .int .i64 r3_3.1.Floor.Rows, .int .i64 r3_3.1.Floor.Sites, .int .i64 r3_3.1.Floor.Layers, .slice A_y0_ret_9_3_3 r3_3.1.Floor.Blocks.length c_y0_ret_9_3_3, .slice A_y0_ret_10_3_3 r3_3.1.Floor.Walls.length c_y0_ret_10_3_3, .slice A_y0_ret_11_3_3 r3_3.1.Floor.Ports.length c_y0_ret_11_3_3, .int .i64 r3_3.1.Tree.Cell, .slice A_y0_ret_13_3_3 r3_3.1.Tree.Up.length c_y0_ret_13_3_3, .slice A_y0_ret_14_3_3 r3_3.1.Tree.Leaf.length c_y0_ret_14_3_3, .slice A_y0_ret_15_3_3 r3_3.1.Sites.length c_y0_ret_15_3_3] :: vec 53 R_floor_Point.sz (.slice A_all7_L11h all7_L11h.length c_all7_L11h) all7_L11h.length cs_all7_L11h :: cells b9 49 [.int .i64 y9_2.Cell, .int .u64 y9_2.Table, .slice A9_2_2 y9_2.Ins.length c9_2_2] :: cells b_p11_L15 53 [.int .i64 r13_11.X, .int .i64 r13_11.Y] :: vec 78 R_floor_Block.sz (.slice A_y0_ret_9_3_3 r3_3.1.Floor.Blocks.length c_y0_ret_9_3_3) r3_3.1.Floor.Blocks.length cs_y0_ret_9_3_3 :: vec 80 R_floor_Wall.sz (.slice A_y0_ret_10_3_3 r3_3.1.Floor.Walls.length c_y0_ret_10_3_3) r3_3.1.Floor.Walls.length cs_y0_ret_10_3_3 :: vec 66 R_floor_Port.sz (.slice A_y0_ret_11_3_3 r3_3.1.Floor.Ports.length c_y0_ret_11_3_3) r3_3.1.Floor.Ports.length cs_y0_ret_11_3_3 :: vec 3 (RpI .i64).sz (.slice A_y0_ret_13_3_3 r3_3.1.Tree.Up.length c_y0_ret_13_3_3) r3_3.1.Tree.Up.length cs_y0_ret_13_3_3 :: vec 3 (RpI .i64).sz (.slice A_y0_ret_14_3_3 r3_3.1.Tree.Leaf.length c_y0_ret_14_3_3) r3_3.1.Tree.Leaf.length cs_y0_ret_14_3_3 :: vec 56 R_floor_Site.sz (.slice A_y0_ret_15_3_3 r3_3.1.Sites.length c_y0_ret_15_3_3) r3_3.1.Sites.length cs_y0_ret_15_3_3 :: ro ρz3_3d :: l)) ?_ ?_
            · skip -- L15
              refine x_block ?_
              refine x_loop (fun k_ E w => ∃ (b_p11_L15h : Nat) (y69_L15h : Int), lp (P_maskkeep4_FloorApart_L15 r13_11 all7_L11h) k_ y69_L15h = some oL15 ∧ E 5 = .slice A_y1_ret_2_1 r2_1.2.1.length c_y1_ret_2_1 ∧ E 6 = .pointer (some ⟨b6, 0, none⟩) ∧ E 7 = .slice A_all7_L11h all7_L11h.length c_all7_L11h ∧ E 8 = .int .i64 y40_L8h ∧ E 9 = .pointer (some ⟨b9, 0, none⟩) ∧ E 11 = .pointer (some ⟨b_p11_L15h, 0, none⟩) ∧ E 38 = .slice A_y0_ret_3_2_1 r2_1.1.Gates.length c_y0_ret_3_2_1 ∧ E 39 = .int .i64 (r2_1.1.Gates.length : Int) ∧ E 40 = .int .i64 y40_L8h ∧ E 51 = .int .i64 x51 ∧ E 52 = .int .i64 y52_L11h ∧ E 67 = .slice A_all7_L11h all7_L11h.length c_all7_L11h ∧ E 68 = .int .i64 (all7_L11h.length : Int) ∧ E 69 = .int .i64 y69_L15h ∧ St w0 w (cells b6 43 [.slice A_y0_ret_0_3_3 r3_3.1.Net.In.length c_y0_ret_0_3_3, .slice A_y0_ret_1_3_3 r3_3.1.Net.Out.length c_y0_ret_1_3_3, .slice A_y0_ret_2_3_3 r3_3.1.Net.Flops.length c_y0_ret_2_3_3, .slice A_y0_ret_3_3_3 r3_3.1.Net.Gates.length c_y0_ret_3_3_3, .slice A_y0_ret_4_3_3 r3_3.1.Net.Outs.length c_y0_ret_4_3_3, .slice A_y0_ret_5_3_3 r3_3.1.Lib.length c_y0_ret_5_3_3, .int .i64 r3_3.1.Floor.Rows, .int .i64 r3_3.1.Floor.Sites, .int .i64 r3_3.1.Floor.Layers, .slice A_y0_ret_9_3_3 r3_3.1.Floor.Blocks.length c_y0_ret_9_3_3, .slice A_y0_ret_10_3_3 r3_3.1.Floor.Walls.length c_y0_ret_10_3_3, .slice A_y0_ret_11_3_3 r3_3.1.Floor.Ports.length c_y0_ret_11_3_3, .int .i64 r3_3.1.Tree.Cell, .slice A_y0_ret_13_3_3 r3_3.1.Tree.Up.length c_y0_ret_13_3_3, .slice A_y0_ret_14_3_3 r3_3.1.Tree.Leaf.length c_y0_ret_14_3_3, .slice A_y0_ret_15_3_3 r3_3.1.Sites.length c_y0_ret_15_3_3] :: vec 53 R_floor_Point.sz (.slice A_all7_L11h all7_L11h.length c_all7_L11h) all7_L11h.length cs_all7_L11h :: cells b9 49 [.int .i64 y9_2.Cell, .int .u64 y9_2.Table, .slice A9_2_2 y9_2.Ins.length c9_2_2] :: cells b_p11_L15h 53 [.int .i64 r13_11.X, .int .i64 r13_11.Y] :: vec 78 R_floor_Block.sz (.slice A_y0_ret_9_3_3 r3_3.1.Floor.Blocks.length c_y0_ret_9_3_3) r3_3.1.Floor.Blocks.length cs_y0_ret_9_3_3 :: vec 80 R_floor_Wall.sz (.slice A_y0_ret_10_3_3 r3_3.1.Floor.Walls.length c_y0_ret_10_3_3) r3_3.1.Floor.Walls.length cs_y0_ret_10_3_3 :: vec 66 R_floor_Port.sz (.slice A_y0_ret_11_3_3 r3_3.1.Floor.Ports.length c_y0_ret_11_3_3) r3_3.1.Floor.Ports.length cs_y0_ret_11_3_3 :: vec 3 (RpI .i64).sz (.slice A_y0_ret_13_3_3 r3_3.1.Tree.Up.length c_y0_ret_13_3_3) r3_3.1.Tree.Up.length cs_y0_ret_13_3_3 :: vec 3 (RpI .i64).sz (.slice A_y0_ret_14_3_3 r3_3.1.Tree.Leaf.length c_y0_ret_14_3_3) r3_3.1.Tree.Leaf.length cs_y0_ret_14_3_3 :: vec 56 R_floor_Site.sz (.slice A_y0_ret_15_3_3 r3_3.1.Sites.length c_y0_ret_15_3_3) r3_3.1.Sites.length cs_y0_ret_15_3_3 :: ro ρz3_3d :: l)) fuel ⟨(blkOf (Ep13 11)), 0, hLL15, ((hE13 5 rfl).trans eL11h_5), ((hE13 6 rfl).trans eL11h_6), ((hE13 7 rfl).trans eL11h_7), ((hE13 8 rfl).trans eL11h_8), ((hE13 9 rfl).trans eL11h_9), f13_12, ((hE13 38 rfl).trans eL11h_38), ((hE13 39 rfl).trans eL11h_39), ((hE13 40 rfl).trans eL11h_40), ((hE13 51 rfl).trans eL11h_51), ((hE13 52 rfl).trans eL11h_52), rfl, rfl, rfl, (((((((((((hS.pull 1).pull 3).pull 10).pull 10).pull 10).pull 10).pull 10).pull 9).pull 8).pull 10).pull 10)⟩ ?_
              rintro kL15 E w ⟨b_p11_L15h, y69_L15h, hLL15, eL15h_5, eL15h_6, eL15h_7, eL15h_8, eL15h_9, eL15h_11, eL15h_38, eL15h_39, eL15h_40, eL15h_51, eL15h_52, eL15h_67, eL15h_68, eL15h_69, hS⟩
              obtain ⟨kL15, obL15, rfl, hFL15, hLL15⟩ := lp_s hLL15
              refine x_seq <| x_region <| p (yl_lss eL15h_69 eL15h_68) <| x_done <|
                x_seq <|
                x_cond_p (y69_L15h < (all7_L11h.length : Int)) rfl (fun hc70 => ?_) (fun hc70 => ?_)
              · replace hFL15 := it_t hc70 hFL15
                obtain ⟨hk16_0, hFL15⟩ := ck_s hFL15
                obtain ⟨y16_1, hy16_1, hFL15⟩ := lv_s hFL15
                obtain ⟨el16_1, ek16_1, ee16_1⟩ := h_all7_L11h.get hk16_0
                rw [← hy16_1] at ek16_1
                obtain rfl := ek16_1
                refine x_skip <| x_seq <| x_block <| x_seq <|
                  x_region <| p (yix_o sl_46 eL15h_67 eL15h_69 (hS.pull 1) h_all7_L11h hk16_0) <| pa (v := .agg #[.int .i64 y16_1.X, .int .i64 y16_1.Y]) (at_loadAgg agg_53 rfl rfl (EltV.every ee16_1 (hS.pull 1))) <|
                  ?_
                refine o_alloc zero_53 hS (fun b13 w' hS => ?_)
                refine o_storeAgg (news := [.int .i64 y16_1.X, .int .i64 y16_1.Y]) agg_53 rfl rfl rfl (by simp [over_length]) hS (fun w' hS => ?_)
                obtain ⟨x77, hx77, hFL15⟩ := ar_s hFL15
                obtain ⟨x82, hx82, hFL15⟩ := ar_s hFL15
                obtain ⟨x87, hx87, hFL15⟩ := ar_s hFL15
                obtain ⟨x92, hx92, hFL15⟩ := ar_s hFL15
                obtain ⟨x93, hx93, hFL15⟩ := lv_s hFL15
                refine x_done <| x_seq <| x_region <| p (yl_field0 fld_53_0 eL15h_11) <|
                  pa (at_load one_3 rfl ((hS.pull 4).cell rfl)) <| p (yl_field0 fld_53_0 rfl) <| pa (at_load one_3 rfl (hS.cell rfl)) <| p (ysub rfl rfl hx77) <|
                  p (yl_field0 fld_53_0 rfl) <| pa (at_load one_3 rfl (hS.cell rfl)) <| p (yl_field0 fld_53_0 eL15h_11) <| pa (at_load one_3 rfl ((hS.pull 4).cell rfl)) <|
                  p (ysub rfl rfl hx82) <| p (yl_field0 fld_53_1 eL15h_11) <| pa (at_load one_3 rfl ((hS.pull 4).cell rfl)) <| p (yl_field0 fld_53_1 rfl) <|
                  pa (at_load one_3 rfl (hS.cell rfl)) <| p (ysub rfl rfl hx87) <| p (yl_field0 fld_53_1 rfl) <| pa (at_load one_3 rfl (hS.cell rfl)) <|
                  p (yl_field0 fld_53_1 eL15h_11) <| pa (at_load one_3 rfl ((hS.pull 4).cell rfl)) <| p (ysub rfl rfl hx92) <| p (ymax4 rfl rfl rfl rfl hx93) <|
                  p (yl_lss rfl rfl) <| x_done <|
                  x_cond_p (x93 < 2) rfl (fun hc94 => ?_) (fun hc94 => ?_)
                · replace hFL15 := it_t hc94 hFL15
                  refine x_seq <| x_region <| p (yl_assign rfl) <| x_done <|
                    ?_
                  obtain rfl := Option.some.inj (show some _ = some _ from hFL15)
                  obtain rfl := (show _ = oL15 from hLL15)
                  obtain rfl := Option.some.inj (show some _ = some _ from hFL11)
                  obtain rfl := (show _ = oL11 from hLL11)
                  obtain rfl := Option.some.inj (show some _ = some _ from hFL8)
                  obtain rfl := (show _ = oL8 from hLL8)
                  obtain rfl := Option.some.inj (show some _ = some _ from hF)
                  exact x_return ⟨_, ⟨_, _, rfl, rfl, rfl⟩, rfl, (ro_back0 (((((hle2_1.trans hlez3_3).trans hlez3_3a).trans hlez3_3b).trans hlez3_3c).trans hlez3_3d) hS.drop.drop.drop.drop.drop.drop.drop.drop.drop.drop.drop)⟩
                · replace hFL15 := it_f hc94 hFL15
                  obtain ⟨x95, hx95, hFL15⟩ := ar_s hFL15
                  refine x_skip <| x_blk <| x_region <| p (yadd eL15h_69 rfl hx95) <|
                    p (yl_move rfl) <| x_done <|
                    ?_
                  obtain rfl := Option.some.inj (show some _ = some _ from hFL15)
                  exact x_inv ⟨kL15, Nat.lt_succ_self _, b_p11_L15h, x95, hLL15, eL15h_5, eL15h_6, eL15h_7, eL15h_8, eL15h_9, eL15h_11, eL15h_38, eL15h_39, eL15h_40, eL15h_51, eL15h_52, eL15h_67, eL15h_68, rfl, (((((((((((hS.drop.pull 10).pull 10).pull 10).pull 10).pull 10).pull 10).pull 10).pull 10).pull 10).pull 10).pull 10)⟩
              · replace hFL15 := it_f hc70 hFL15
                refine x_exitTo _ rfl <|
                  ?_
                obtain rfl := Option.some.inj (show some _ = some _ from hFL15)
                exact x_inv ⟨b_p11_L15h, hLL15, eL15h_5, eL15h_6, eL15h_7, eL15h_8, eL15h_9, eL15h_11, eL15h_38, eL15h_39, eL15h_40, eL15h_51, eL15h_52, (((((((((((hS.pull 10).pull 10).pull 10).pull 10).pull 10).pull 10).pull 10).pull 10).pull 10).pull 10).pull 10)⟩
            rintro E w ⟨b_p11_L15, rfl, eL15_5, eL15_6, eL15_7, eL15_8, eL15_9, eL15_11, eL15_38, eL15_39, eL15_40, eL15_51, eL15_52, hS⟩
            refine x_region <| p (yl_move eL15_7) <| pa (v := .agg #[.int .i64 r13_11.X, .int .i64 r13_11.Y]) (ld_sub agg_53 eL15_11 rfl rfl (hS.pull 3)) <|
              ?_
            refine o_buildSlice (vs := [.agg #[.int .i64 r13_11.X, .int .i64 r13_11.Y]]) (cs := [.int .i64 r13_11.X, .int .i64 r13_11.Y]) sl_46 zero_53 (parts_eq (pt (va := .agg #[.int .i64 r13_11.X, .int .i64 r13_11.Y]) rfl pt0)) rfl (by intro v hv; simp only [List.mem_cons, List.not_mem_nil, or_false] at hv; first | (subst hv; rfl) | (rcases hv with rfl <;> rfl)) (by decide) rfl hS (fun b98 w' hS => ?_)
            obtain ⟨z20_3, hz20_3, hFL11⟩ := lv_s hFL11
            obtain ⟨hk20_3, hFL11⟩ := ck_s hFL11
            refine o_ap sl_46 zero_53 rfl (by decide) rfl rfl (hS.pull 2) h_all7_L11h (src_blk usl_46 hS rfl rfl) (RepL.cons (R := R_floor_Point) (ρ := ρz3_3d) (x := r13_11) (cs := [.int .i64 r13_11.X, .int .i64 r13_11.Y]) rfl RepL.nil) hz20_3 hk20_3 (fun A99 c99 cs99 w' hr99 hS => ?_)
            obtain ⟨x100, hx100, hFL11⟩ := ar_s hFL11
            refine p (yl_assign rfl) <| x_done <| x_blk <| x_region <|
              p (yadd eL15_52 rfl hx100) <| p (yl_move rfl) <| x_done <|
              ?_
            obtain rfl := Option.some.inj (show some _ = some _ from hFL11)
            exact x_inv ⟨kL11, Nat.lt_succ_self _, A99, z20_3.length, c99, cs99, z20_3, x100, hLL11, eL15_5, eL15_6, rfl, eL15_8, eL15_9, eL15_38, eL15_39, eL15_40, eL15_51, rfl, hr99, ((((((((((((hS.pull 1).drop.pull 3).drop.pull 9).pull 9).pull 9).pull 9).pull 9).pull 9).pull 9).pull 9).pull 8).pull 9)⟩
          · replace hFL11 := it_f hc53 hFL11
            refine x_exitTo _ rfl <|
              ?_
            obtain rfl := Option.some.inj (show some _ = some _ from hFL11)
            exact x_inv ⟨A_all7_L11h, all7_L11h.length, c_all7_L11h, cs_all7_L11h, all7_L11h, hLL11, eL11h_5, eL11h_6, eL11h_7, eL11h_38, eL11h_39, eL11h_40, h_all7_L11h, ((((((((((hS.pull 2).drop.pull 8).pull 8).pull 8).pull 8).pull 8).pull 8).pull 8).pull 8).pull 8)⟩
        rintro E w ⟨A_all7_L11, n_all7_L11, c_all7_L11, cs_all7_L11, all7_L11, rfl, eL11_5, eL11_6, eL11_7, eL11_38, eL11_39, eL11_40, h_all7_L11, hS⟩
        obtain rfl := St.vec_n (hS.pull 1) h_all7_L11
        obtain ⟨x101, hx101, hFL8⟩ := ar_s hFL8
        refine x_blk <| x_region <| p (yadd eL11_40 rfl hx101) <| p (yl_move rfl) <|
          x_done <|
          ?_
        obtain rfl := Option.some.inj (show some _ = some _ from hFL8)
        exact x_inv ⟨kL8, Nat.lt_succ_self _, A_all7_L11, all7_L11.length, c_all7_L11, cs_all7_L11, all7_L11, x101, hLL8, eL11_5, eL11_6, eL11_7, eL11_38, eL11_39, rfl, h_all7_L11, (((((((((hS.pull 8).pull 8).pull 8).pull 8).pull 8).pull 8).pull 8).pull 8).pull 8)⟩
      · replace hFL8 := it_f hc41 hFL8
        refine x_exitTo _ rfl <|
          ?_
        obtain rfl := Option.some.inj (show some _ = some _ from hFL8)
        exact x_inv ⟨hLL8, hS.drop.drop.drop.drop.drop.drop.drop.drop⟩
    rintro E w ⟨rfl, hS⟩
    refine x_seq <| x_region <| p (yl_assign rfl) <| x_done <|
      ?_
    obtain rfl := Option.some.inj (show some _ = some _ from hF)
    exact x_return ⟨_, ⟨_, _, rfl, rfl, rfl⟩, rfl, (ro_back0 (((((hle2_1.trans hlez3_3).trans hlez3_3a).trans hlez3_3b).trans hlez3_3c).trans hlez3_3d) hS)⟩
attribute [irreducible] P_maskkeep4_FloorApart


end Go.Proofs.YtnooiajahmichaaDoor.X
