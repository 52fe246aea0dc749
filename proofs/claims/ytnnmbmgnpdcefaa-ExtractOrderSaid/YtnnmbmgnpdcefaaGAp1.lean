/- Printed by gen.py: plain functions, and that the Go code computes them. -/
import Derived.Test.YtnnmbmgnpdcefaaYJ
import Derived.Test.YtnnmbmgnpdcefaaXL
import Derived.Test.YtnnmbmgnpdcefaaYU
import Derived.Test.YtnnmbmgnpdcefaaXT
import Derived.Test.YtnnmbmgnpdcefaaGAp0
namespace Go.Proofs.Ytnnmbmgnpdcefaa.X
set_option maxHeartbeats 4000000
set_option maxRecDepth 100000
open Go Go.RowKit
set_option linter.unusedVariables false
set_option linter.unusedSimpArgs false

def P_extract_strangers_L10 (q4 : T_rules_Wire) (q5 : Int) : (List (T_rules_Spot × Bool) × Int) → Option ((List (T_rules_Spot × Bool) × Int) ⊕ List (T_rules_Spot × Bool)) := fun (q3, q2) =>
 if q2 ≤ q4.X1 then
  lv (mput (T_rules_Spot.mk q4.Layer q2 q5) true q3) fun q6 =>
  ar (q2 + 1) fun x37 =>
  some (Sum.inl (q6, x37))
 else
  some (Sum.inr q3)
def P_extract_strangers_L7 (q4 : T_rules_Wire) : (List (T_rules_Spot × Bool) × Int) → Option ((List (T_rules_Spot × Bool) × Int) ⊕ List (T_rules_Spot × Bool)) := fun (q2, q3) =>
 if q3 ≤ q4.Y1 then
  bd (
   lp (P_extract_strangers_L10 q4 q3) fuel (q2, q4.X0)) fun q5 =>
  ar (q3 + 1) fun x29 =>
  some (Sum.inl (q5, x29))
 else
  some (Sum.inr q2)
def P_extract_strangers_L3 (l_0 : T_rules_Layout) (net1 : Int) : (List (T_rules_Spot × Bool) × Int) → Option ((List (T_rules_Spot × Bool) × Int) ⊕ List (T_rules_Spot × Bool)) := fun (q3, q2) =>
 if q2 < (l_0.Wires.length : Int) then
  bd (
   ck (inb q2 l_0.Wires.length) <|
   lv (gt l_0.Wires q2) fun q4 =>
   if q4.Net = net1 then
    some q3
   else
    bd (
     lp (P_extract_strangers_L7 q4) fuel (q3, q4.Y0)) fun q5 =>
    some q5) fun q6 =>
  ar (q2 + 1) fun x44 =>
  some (Sum.inl (q6, x44))
 else
  some (Sum.inr q3)
def P_extract_strangers (l_0 : T_rules_Layout) (net1 : Int) : Option (List (T_rules_Spot × Bool)) :=
 bd (
  lp (P_extract_strangers_L3 l_0 net1) fuel ([], 0)) fun q2 =>
 some q2
theorem c_extract_strangers {w0 w : World} {l : List Assn} {ρ : Heap} {q3 : Option Addr} {q0w : Nat} {c_l_0_4 : Nat} {q0f : Option Addr} {q0x : Nat} {c_l_0_5 : Nat} {q0g : Option Addr} {q0y : Nat} {c_l_0_6 : Nat} {q0h : Option Addr} {q0z : Nat} {c_l_0_7 : Nat} {l_0 : T_rules_Layout} {net1 : Int} {r : List (T_rules_Spot × Bool)} (hF : P_extract_strangers l_0 net1 = some r) (q0i : RdS R_rules_Wire ρ q3 q0w c_l_0_4 l_0.Wires) (q19 : RdS R_rules_Via ρ q0f q0x c_l_0_5 l_0.Vias) (q1a : RdS R_rules_Pin ρ q0g q0y c_l_0_6 l_0.Pins) (q1b : RdS R_floor_Wall ρ q0h q0z c_l_0_7 l_0.Walls) (hS : St w0 w (ro ρ :: l)) :
  Calls Try.prog 38 #[.agg #[.int .i64 l_0.W, .int .i64 l_0.H, .int .i64 l_0.Layers, .int .i64 l_0.Nets, .slice q3 q0w c_l_0_4, .slice q0f q0x c_l_0_5, .slice q0g q0y c_l_0_6, .slice q0h q0z c_l_0_7], .int .i64 net1] w fun e w' => ∃ (q0p : Nat), e = .returned (.map (some q0p)) ∧ St w0 w' (mapA q0p kf_61 Value.bool r :: ro ρ :: l) := by
 have e_ := q0i.n; subst e_
 have e_ := q19.n; subst e_
 have e_ := q1a.n; subst e_
 have e_ := q1b.n; subst e_
 refine enterC Try.func38 rfl 46 rfl (by simp) ?_
 refine x_seq <| x_region <| ?_
 refine o_box (cs := [.int .i64 l_0.W, .int .i64 l_0.H, .int .i64 l_0.Layers, .int .i64 l_0.Nets, .slice q3 l_0.Wires.length c_l_0_4, .slice q0f l_0.Vias.length c_l_0_5, .slice q0g l_0.Pins.length c_l_0_6, .slice q0h l_0.Walls.length c_l_0_7]) rfl rfl hS (fun b2 w' hS => ?_)
 refine p (yl_assign rfl) <| x_done <| x_seq <| x_region <| ?_
 refine o_mkmap (κ := T_rules_Spot) (α := Bool) kf_61 Value.bool hS (fun b10 w' hS => ?_)
 refine p (yl_assign rfl) <| x_done <| x_seq <| x_seq <|
  x_region <| p (yl_field0 fld_31_4 rfl) <| pa (at_load one_26 rfl ((hS.pull 1).cell rfl)) <| p (yl_len_slice usl_26 rfl) <|
  p (yl_move rfl) <| x_done <| ?_
 replace hF := bd_s hF; obtain ⟨oL3, hLL3, hF⟩ := hF
 refine x_join (fun E w => ∃ (q0j : List (T_rules_Spot × Bool)), q0j = oL3 ∧ E 5 = .map (some b10) ∧ St w0 w (mapA b10 kf_61 Value.bool q0j :: ro ρ :: l)) ?_ ?_
 ·refine x_block ?_
  refine x_loop (fun k_ E w => ∃ (q6 : List (T_rules_Spot × Bool)) (q4 : Int), lp (P_extract_strangers_L3 l_0 net1) k_ (q6, q4) = some oL3 ∧ E 1 = .int .i64 net1 ∧ E 5 = .map (some b10) ∧ E 12 = .slice q3 l_0.Wires.length c_l_0_4 ∧ E 13 = .int .i64 (l_0.Wires.length : Int) ∧ E 14 = .int .i64 q4 ∧ St w0 w (mapA b10 kf_61 Value.bool q6 :: ro ρ :: l)) fuel ⟨[], 0, hLL3, rfl, rfl, rfl, rfl, rfl, (((hS.pull 1).drop.pull 1).pull 1)⟩ ?_
  rintro kL3 E w ⟨q6, q4, hLL3, q0q, q0r, q0k, q0l, q0b, hS⟩
  replace hLL3 := lp_s hLL3; obtain ⟨kL3, obL3, rfl, hFL3, hLL3⟩ := hLL3
  refine x_seq <| x_region <| p (yl_lss q0b q0l) <| x_done <|
   x_seq <|
   x_cond_p (q4 < (l_0.Wires.length : Int)) rfl (fun hc15 => ?_) (fun hc15 => ?_)
  ·replace hFL3 := it_t hc15 hFL3
   refine x_skip <| x_seq <| ?_
   replace hFL3 := bd_s hFL3; obtain ⟨ob1, hFb1, hFL3⟩ := hFL3
   refine x_join (fun E w => ∃ (q0c : List (T_rules_Spot × Bool)), q0c = ob1 ∧ E 1 = .int .i64 net1 ∧ E 5 = .map (some b10) ∧ E 12 = .slice q3 l_0.Wires.length c_l_0_4 ∧ E 13 = .int .i64 (l_0.Wires.length : Int) ∧ E 14 = .int .i64 q4 ∧ St w0 w (mapA b10 kf_61 Value.bool q0c :: ro ρ :: l)) ?_ ?_
   ·replace hFb1 := ck_s hFb1; obtain ⟨q17, hFb1⟩ := hFb1
    replace hFb1 := lv_s hFb1; obtain ⟨q2, q1q, hFb1⟩ := hFb1
    have q_ := q0i.get q17; obtain ⟨q1y, q18, q1r⟩ := q_
    rw [← q1q] at q18
    have e_ := q18; subst e_
    refine x_block <| x_seq <| x_region <| p (yix_f sl_26 q0k q0b q0i q17) <|
     pa (v := .agg #[.int .i64 q2.Net, .int .i64 q2.Layer, .int .i64 q2.X0, .int .i64 q2.Y0, .int .i64 q2.X1, .int .i64 q2.Y1]) (at_loadAgg agg_44 rfl rfl (Elt.every q1r (hS.pull 1))) <| ?_
    refine o_alloc zero_44 hS (fun b7 w' hS => ?_)
    refine o_storeAgg (news := [.int .i64 q2.Net, .int .i64 q2.Layer, .int .i64 q2.X0, .int .i64 q2.Y0, .int .i64 q2.X1, .int .i64 q2.Y1]) agg_44 rfl rfl rfl (by simp [over_length]) hS (fun w' hS => ?_)
    refine x_done <| x_seq <| x_seq <| x_region <|
     p (yl_field0 fld_44_0 rfl) <| pa (at_load one_3 rfl (hS.cell rfl)) <| p (yl_move q0q) <| p (yl_eql rfl rfl) <|
     x_done <|
     x_cond_p (q2.Net = net1) rfl (fun hc21 => ?_) (fun hc21 => ?_)
    ·replace hFb1 := it_t hc21 hFb1
     refine x_exitTo _ rfl <| ?_
     exact x_inv ⟨q6, (sinj hFb1), q0q, q0r, q0k, q0l, q0b, ((hS.drop.pull 1).pull 1)⟩
    ·replace hFb1 := it_f hc21 hFb1
     refine x_skip <| x_seq <| x_region <| p (yl_field0 fld_44_3 rfl) <|
      pa (at_load one_3 rfl (hS.cell rfl)) <| p (yl_assign rfl) <| x_done <| ?_
     replace hFb1 := bd_s hFb1; obtain ⟨oL7, hLL7, hFb1⟩ := hFb1
     refine x_join (fun E w => ∃ (q0d : List (T_rules_Spot × Bool)), q0d = oL7 ∧ E 1 = .int .i64 net1 ∧ E 5 = .map (some b10) ∧ E 12 = .slice q3 l_0.Wires.length c_l_0_4 ∧ E 13 = .int .i64 (l_0.Wires.length : Int) ∧ E 14 = .int .i64 q4 ∧ St w0 w (mapA b10 kf_61 Value.bool q0d :: ro ρ :: l)) ?_ ?_
     ·refine x_block ?_
      refine x_loop (fun k_ E w => ∃ (q8 : List (T_rules_Spot × Bool)) (q5 : Int), lp (P_extract_strangers_L7 q2) k_ (q8, q5) = some oL7 ∧ E 1 = .int .i64 net1 ∧ E 5 = .map (some b10) ∧ E 7 = .pointer (some ⟨b7, 0, none⟩) ∧ E 8 = .int .i64 q5 ∧ E 12 = .slice q3 l_0.Wires.length c_l_0_4 ∧ E 13 = .int .i64 (l_0.Wires.length : Int) ∧ E 14 = .int .i64 q4 ∧ St w0 w (mapA b10 kf_61 Value.bool q8 :: cells b7 44 [.int .i64 q2.Net, .int .i64 q2.Layer, .int .i64 q2.X0, .int .i64 q2.Y0, .int .i64 q2.X1, .int .i64 q2.Y1] :: ro ρ :: l)) fuel ⟨q6, q2.Y0, hLL7, q0q, q0r, rfl, rfl, q0k, q0l, q0b, (((hS.pull 2).pull 1).pull 2)⟩ ?_
      rintro kL7 E w ⟨q8, q5, hLL7, q14, q15, q0s, q16, q10, q11, q12, hS⟩
      replace hLL7 := lp_s hLL7; obtain ⟨kL7, obL7, rfl, hFL7, hLL7⟩ := hLL7
      refine x_seq <| x_seq <| x_region <| p (yl_move q16) <|
       p (yl_field0 fld_44_5 q0s) <| pa (at_load one_3 rfl ((hS.pull 1).cell rfl)) <| p (yl_leq rfl rfl) <| x_done <|
       x_cond_p (q5 ≤ q2.Y1) rfl (fun hc27 => ?_) (fun hc27 => ?_)
      ·replace hFL7 := it_t hc27 hFL7
       refine x_skip <| x_seq <| x_block <| x_seq <|
        x_region <| p (yl_field0 fld_44_2 q0s) <| pa (at_load one_3 rfl ((hS.pull 1).cell rfl)) <| p (yl_assign rfl) <|
        x_done <| ?_
       replace hFL7 := bd_s hFL7; obtain ⟨oL10, hLL10, hFL7⟩ := hFL7
       refine x_join (fun E w => ∃ (q0a : List (T_rules_Spot × Bool)), q0a = oL10 ∧ E 1 = .int .i64 net1 ∧ E 5 = .map (some b10) ∧ E 7 = .pointer (some ⟨b7, 0, none⟩) ∧ E 8 = .int .i64 q5 ∧ E 12 = .slice q3 l_0.Wires.length c_l_0_4 ∧ E 13 = .int .i64 (l_0.Wires.length : Int) ∧ E 14 = .int .i64 q4 ∧ St w0 w (mapA b10 kf_61 Value.bool q0a :: cells b7 44 [.int .i64 q2.Net, .int .i64 q2.Layer, .int .i64 q2.X0, .int .i64 q2.Y0, .int .i64 q2.X1, .int .i64 q2.Y1] :: ro ρ :: l)) ?_ ?_
       ·refine x_block ?_
        refine x_loop (fun k_ E w => ∃ (q9 : List (T_rules_Spot × Bool)) (q7 : Int), lp (P_extract_strangers_L10 q2 q5) k_ (q9, q7) = some oL10 ∧ E 1 = .int .i64 net1 ∧ E 5 = .map (some b10) ∧ E 7 = .pointer (some ⟨b7, 0, none⟩) ∧ E 8 = .int .i64 q5 ∧ E 9 = .int .i64 q7 ∧ E 12 = .slice q3 l_0.Wires.length c_l_0_4 ∧ E 13 = .int .i64 (l_0.Wires.length : Int) ∧ E 14 = .int .i64 q4 ∧ St w0 w (mapA b10 kf_61 Value.bool q9 :: cells b7 44 [.int .i64 q2.Net, .int .i64 q2.Layer, .int .i64 q2.X0, .int .i64 q2.Y0, .int .i64 q2.X1, .int .i64 q2.Y1] :: ro ρ :: l)) fuel ⟨q8, q2.X0, hLL10, q14, q15, q0s, q16, rfl, q10, q11, q12, (((hS.pull 2).pull 2).pull 2)⟩ ?_
        rintro kL10 E w ⟨q9, q7, hLL10, q13, q0m, q0e, q0n, q0o, q0t, q0u, q0v, hS⟩
        replace hLL10 := lp_s hLL10; obtain ⟨kL10, obL10, rfl, hFL10, hLL10⟩ := hLL10
        refine x_seq <| x_seq <| x_region <| p (yl_move q0o) <|
         p (yl_field0 fld_44_4 q0e) <| pa (at_load one_3 rfl ((hS.pull 1).cell rfl)) <| p (yl_leq rfl rfl) <| x_done <|
         x_cond_p (q7 ≤ q2.X1) rfl (fun hc35 => ?_) (fun hc35 => ?_)
        ·replace hFL10 := it_t hc35 hFL10
         refine x_skip <| x_seq <| x_block <| x_region <|
          p (yl_move q0m) <| p (yl_field0 fld_44_1 q0e) <| pa (at_load one_3 rfl ((hS.pull 1).cell rfl)) <| p (yl_move q0o) <|
          p (yl_move q0n) <| p (v := .agg #[.int .i64 q2.Layer, .int .i64 q7, .int .i64 q5]) (yl_build bld_61 bldf_61 (parts_eq (pt (va := .int .i64 q2.Layer) rfl (pt (va := .int .i64 q7) rfl (pt (va := .int .i64 q5) rfl pt0)))) (by kernel_rfl)) <| ?_
         replace hFL10 := lv_s hFL10; obtain ⟨q1s, q1f, hFL10⟩ := hFL10
         refine o_mapset (k := (T_rules_Spot.mk q2.Layer q7 q5)) (vf := Value.bool) (v := true) um_84 kp_61 rfl rfl rfl hS q1f (fun w' hS => ?_)
         replace hFL10 := ar_s hFL10; obtain ⟨x37, hx37, hFL10⟩ := hFL10
         refine x_done <| x_blk <| x_region <| p (yl_move q0o) <|
          p (yadd rfl rfl hx37) <| p (yl_assign rfl) <| x_done <| ?_
         have e_ := sinj hFL10; subst e_
         exact x_inv ⟨kL10, Nat.lt_succ_self _, q1s, x37, hLL10, q13, q0m, q0e, q0n, rfl, q0t, q0u, q0v, (((hS.pull 2).pull 2).pull 2)⟩
        ·replace hFL10 := it_f hc35 hFL10
         refine x_exitTo _ rfl <| ?_
         have e_ := sinj hFL10; subst e_
         exact x_inv ⟨q9, hLL10, q13, q0m, q0e, q0n, q0t, q0u, q0v, (((hS.pull 2).pull 2).pull 2)⟩
       rintro E w ⟨q0a, rfl, q1g, q1h, q1i, q1j, q1c, q1d, q1e, hS⟩
       replace hFL7 := ar_s hFL7; obtain ⟨x29, hx29, hFL7⟩ := hFL7
       refine x_blk <| x_region <| p (yl_move q1j) <| p (yadd rfl rfl hx29) <|
        p (yl_assign rfl) <| x_done <| ?_
       have e_ := sinj hFL7; subst e_
       exact x_inv ⟨kL7, Nat.lt_succ_self _, q0a, x29, hLL7, q1g, q1h, q1i, rfl, q1c, q1d, q1e, (((hS.pull 2).pull 2).pull 2)⟩
      ·replace hFL7 := it_f hc27 hFL7
       refine x_exitTo _ rfl <| ?_
       have e_ := sinj hFL7; subst e_
       exact x_inv ⟨q8, hLL7, q14, q15, q10, q11, q12, (((hS.pull 1).drop.pull 1).pull 1)⟩
     rintro E w ⟨q0d, rfl, q1t, q1u, q1k, q1l, q1m, hS⟩
     refine x_blk <| ?_
     exact x_inv ⟨q0d, (sinj hFb1), q1t, q1u, q1k, q1l, q1m, ((hS.pull 1).pull 1)⟩
   rintro E w ⟨q0c, rfl, q1v, q1w, q1n, q1o, q1p, hS⟩
   replace hFL3 := ar_s hFL3; obtain ⟨x44, hx44, hFL3⟩ := hFL3
   refine x_region <| p (yadd q1p rfl hx44) <| p (yl_move rfl) <| x_done <| ?_
   have e_ := sinj hFL3; subst e_
   exact x_inv ⟨kL3, Nat.lt_succ_self _, q0c, x44, hLL3, q1v, q1w, q1n, q1o, rfl, ((hS.pull 1).pull 1)⟩
  ·replace hFL3 := it_f hc15 hFL3
   refine x_exitTo _ rfl <| ?_
   have e_ := sinj hFL3; subst e_
   exact x_inv ⟨q6, hLL3, q0r, ((hS.pull 1).pull 1)⟩
 rintro E w ⟨q0j, rfl, q1x, hS⟩
 refine x_seq <| x_region <| p (yl_move q1x) <| p (yl_assign rfl) <|
  x_done <| ?_
 have e_ := sinj hF; subst e_
 exact x_return ⟨_, ⟨_, _, rfl, rfl, rfl⟩, b10, rfl, ((hS.pull 1).pull 1)⟩
attribute [irreducible] P_extract_strangers

def P_extract_capacitance (layer0 : Int) : Option Int :=
 if layer0 < 2 then
  some (3 : Int)
 else
  some (2 : Int)
theorem c_extract_capacitance {w0 w : World} {l : List Assn} {ρ : Heap} {layer0 : Int} {r : Int} (hF : P_extract_capacitance layer0 = some r) (hS : St w0 w (ro ρ :: l)) :
  Calls Try.prog 40 #[.int .i64 layer0] w fun e w' => e = .returned (.int .i64 r) ∧ St w0 w' (ro ρ :: l) := by
 refine enterC Try.func40 rfl 5 rfl (by simp) ?_
 refine x_seq <| x_region <| p (yl_assign rfl) <| x_done <|
  x_seq <| x_seq <| x_region <| p (yl_move rfl) <|
  p (yl_lss rfl rfl) <| x_done <|
  x_cond_p (layer0 < 2) rfl (fun hc4 => ?_) (fun hc4 => ?_)
 ·replace hF := it_t hc4 hF
  refine x_seq <| x_region <| p (yl_assign rfl) <| x_done <| ?_
  have e_ := sinj hF; subst e_
  exact x_return ⟨_, ⟨_, _, rfl, rfl, rfl⟩, rfl, hS⟩
 ·replace hF := it_f hc4 hF
  refine x_skip <| x_seq <| x_region <| p (yl_assign rfl) <|
   x_done <| ?_
  have e_ := sinj hF; subst e_
  exact x_return ⟨_, ⟨_, _, rfl, rfl, rfl⟩, rfl, hS⟩
attribute [irreducible] P_extract_capacitance

def P_extract_beside (others0 : List (T_rules_Spot × Bool)) (q2 : T_rules_Spot) : Option Int :=
 ck ((2 : Int) ≠ 0) <|
 lv (Int.tmod q2.Layer 2) fun x12 =>
 bd (
  if x12 = 0 then
   ar (q2.Y - 1) fun x16 =>
   ar (q2.Y + 1) fun x19 =>
   some (q2.X, x16, q2.X, x19)
  else
   ar (q2.X - 1) fun x24 =>
   ar (q2.X + 1) fun x27 =>
   some (x24, q2.Y, x27, q2.Y)) fun (q3, q4, q5, q6) =>
 lv (mget (T_rules_Spot.mk q2.Layer q3 q4) others0 false) fun x32 =>
 bd (
  if x32 = true then
   ar ((0 : Int) + 1) fun x34 =>
   some x34
  else
   some (0 : Int)) fun q7 =>
 lv (mget (T_rules_Spot.mk q2.Layer q5 q6) others0 false) fun x37 =>
 bd (
  if x37 = true then
   ar (q7 + 1) fun x39 =>
   some x39
  else
   some q7) fun q8 =>
 some q8
theorem c_extract_beside {w0 w : World} {l : List Assn} {ρ : Heap} {q3 : Nat} {others0 : List (T_rules_Spot × Bool)} {q2 : T_rules_Spot} {r : Int} (hF : P_extract_beside others0 q2 = some r) (hS : St w0 w (mapA q3 kf_61 Value.bool others0 :: ro ρ :: l)) :
  Calls Try.prog 41 #[.map (some q3), .agg #[.int .i64 q2.Layer, .int .i64 q2.X, .int .i64 q2.Y]] w fun e w' => e = .returned (.int .i64 r) ∧ St w0 w' (mapA q3 kf_61 Value.bool others0 :: ro ρ :: l) := by
 refine enterC Try.func41 rfl 41 rfl (by simp) ?_
 refine x_seq <| x_region <| ?_
 refine o_box (cs := [.int .i64 q2.Layer, .int .i64 q2.X, .int .i64 q2.Y]) rfl rfl hS (fun b3 w' hS => ?_)
 refine p (yl_assign rfl) <| x_done <| x_seq <| ?_
 refine x_par (w0 := w0) [⟨[], [], [8], [0], [], [], none⟩, ⟨[], [], [9], [0], [], [], none⟩, ⟨[], [], [5], [], [], [1], none⟩, ⟨[], [], [6], [], [], [2], none⟩, ⟨[0, 2, 3], [0, 2], [], [], [1], [3], none⟩, ⟨[0, 1, 2, 3, 4], [1, 3], [], [], [2], [4], none⟩] [⟨none, none, []⟩, ⟨(some 2), (some 4), [5]⟩, ⟨(some 3), (some 5), [6]⟩, ⟨(some 4), none, [5]⟩, ⟨(some 5), none, [6]⟩] [5, 6, 8, 9] [0] [0, 3, 4] [0, 1, 2, 3] [fun Ep1 => Ep1 8 = .agg #[.int .i64 q2.Layer, .int .i64 q2.X, .int .i64 q2.Y], fun Ep1 => Ep1 9 = .agg #[.int .i64 q2.Layer, .int .i64 q2.X, .int .i64 q2.Y], fun Ep1 => Ep1 5 = .pointer (some ⟨(blkOf (Ep1 5)), 0, none⟩), fun Ep1 => Ep1 6 = .pointer (some ⟨(blkOf (Ep1 6)), 0, none⟩), fun Ep1 => True, fun Ep1 => True] [fun Ep1 => cells b3 61 [.int .i64 q2.Layer, .int .i64 q2.X, .int .i64 q2.Y], fun Ep1 => cells (blkOf (Ep1 5)) 61 [.int .i64 0, .int .i64 0, .int .i64 0], fun Ep1 => cells (blkOf (Ep1 6)) 61 [.int .i64 0, .int .i64 0, .int .i64 0], fun Ep1 => cells (blkOf (Ep1 5)) 61 [.int .i64 q2.Layer, .int .i64 q2.X, .int .i64 q2.Y], fun Ep1 => cells (blkOf (Ep1 6)) 61 [.int .i64 q2.Layer, .int .i64 q2.X, .int .i64 q2.Y]] mixed (by kernel_rfl) hS ?_ ?_
 ·refine ⟨?_, ?_, ?_, ?_, ?_, ?_, trivial⟩
  ·intro Ep1 w l' hE1 hO1 hF_ hS
   replace hS : St w0 w (cells b3 61 [.int .i64 q2.Layer, .int .i64 q2.X, .int .i64 q2.Y] :: l') := emk hS
   refine pa (v := .agg #[.int .i64 q2.Layer, .int .i64 q2.X, .int .i64 q2.Y]) (ld_sub agg_61 (hE1 3 rfl) rfl rfl hS) <| x_done <| ?_
   refine x_fin ⟨⟨_, rfl⟩, rfl, ?_⟩
   exact emk hS
  ·intro Ep1 w l' hE1 hO1 hF_ hS
   replace hS : St w0 w (cells b3 61 [.int .i64 q2.Layer, .int .i64 q2.X, .int .i64 q2.Y] :: l') := emk hS
   refine pa (v := .agg #[.int .i64 q2.Layer, .int .i64 q2.X, .int .i64 q2.Y]) (ld_sub agg_61 (hE1 3 rfl) rfl rfl hS) <| x_done <| ?_
   refine x_fin ⟨⟨_, rfl⟩, rfl, ?_⟩
   exact emk hS
  ·intro Ep1 w l' hE1 hO1 hF_ hS
   refine o_alloc zero_61 hS (fun b5 w' hS => ?_)
   refine x_done <| ?_
   refine x_fin ⟨⟨_, rfl⟩, rfl, ?_⟩
   exact emk hS
  ·intro Ep1 w l' hE1 hO1 hF_ hS
   refine o_alloc zero_61 hS (fun b6 w' hS => ?_)
   refine x_done <| ?_
   refine x_fin ⟨⟨_, rfl⟩, rfl, ?_⟩
   exact emk hS
  ·intro Ep1 w l' hE1 hO1 hF_ hS
   obtain ⟨q0d, q9, -⟩ := hF_
   replace q0d : Ep1 8 = .agg #[.int .i64 q2.Layer, .int .i64 q2.X, .int .i64 q2.Y] := emk q0d
   replace q9 : Ep1 5 = .pointer (some ⟨(blkOf (Ep1 5)), 0, none⟩) := emk q9
   replace hS : St w0 w (cells (blkOf (Ep1 5)) 61 [.int .i64 0, .int .i64 0, .int .i64 0] :: l') := emk hS
   refine o_storeAgg (news := [.int .i64 q2.Layer, .int .i64 q2.X, .int .i64 q2.Y]) agg_61 q9 q0d rfl (by simp [over_length]) hS (fun w' hS => ?_)
   refine x_done <| ?_
   refine x_fin ⟨⟨undef, rfl⟩, trivial, ?_⟩
   exact emk hS
  ·intro Ep1 w l' hE1 hO1 hF_ hS
   obtain ⟨q0e, q0a, -⟩ := hF_
   replace q0e : Ep1 9 = .agg #[.int .i64 q2.Layer, .int .i64 q2.X, .int .i64 q2.Y] := emk q0e
   replace q0a : Ep1 6 = .pointer (some ⟨(blkOf (Ep1 6)), 0, none⟩) := emk q0a
   replace hS : St w0 w (cells (blkOf (Ep1 6)) 61 [.int .i64 0, .int .i64 0, .int .i64 0] :: l') := emk hS
   refine o_storeAgg (news := [.int .i64 q2.Layer, .int .i64 q2.X, .int .i64 q2.Y]) agg_61 q0a q0e rfl (by simp [over_length]) hS (fun w' hS => ?_)
   refine x_done <| ?_
   refine x_fin ⟨⟨undef, rfl⟩, trivial, ?_⟩
   exact emk hS
 intro Ep1 w' hE1 hF_ hS
 obtain ⟨q0d, q0e, q9, q0a, -⟩ := hF_
 replace q0d : Ep1 8 = .agg #[.int .i64 q2.Layer, .int .i64 q2.X, .int .i64 q2.Y] := emk q0d
 replace q0e : Ep1 9 = .agg #[.int .i64 q2.Layer, .int .i64 q2.X, .int .i64 q2.Y] := emk q0e
 replace q9 : Ep1 5 = .pointer (some ⟨(blkOf (Ep1 5)), 0, none⟩) := emk q9
 replace q0a : Ep1 6 = .pointer (some ⟨(blkOf (Ep1 6)), 0, none⟩) := emk q0a
 replace hS : St w0 w' (cells b3 61 [.int .i64 q2.Layer, .int .i64 q2.X, .int .i64 q2.Y] :: cells (blkOf (Ep1 5)) 61 [.int .i64 q2.Layer, .int .i64 q2.X, .int .i64 q2.Y] :: cells (blkOf (Ep1 6)) 61 [.int .i64 q2.Layer, .int .i64 q2.X, .int .i64 q2.Y] :: (mapA q3 kf_61 Value.bool others0 :: ro ρ :: l)) := emk hS
 replace hF := ck_s hF; obtain ⟨q13, hF⟩ := hF
 replace hF := lv_s hF; obtain ⟨x12, hx12, hF⟩ := hF
 refine x_seq <| x_seq <| x_region <| p (yl_field0 fld_61_0 (hE1 3 rfl)) <|
  pa (at_load one_3 rfl (hS.cell rfl)) <| p (yrem rfl rfl q13 hx12) <| p (yl_eql rfl rfl) <| x_done <| ?_
 replace hF := bd_s hF; obtain ⟨oc13, hFc13, hF⟩ := hF
 refine x_join (fun E w => ∃ (q0b : Nat) (q8 : Nat) (q6 : Int) (q7 : Int) (q4 : Int) (q5 : Int), (q6, q7, q4, q5) = oc13 ∧ E 0 = .map (some q3) ∧ E 5 = .pointer (some ⟨q0b, 0, none⟩) ∧ E 6 = .pointer (some ⟨q8, 0, none⟩) ∧ St w0 w (mapA q3 kf_61 Value.bool others0 :: cells q0b 61 [.int .i64 q2.Layer, .int .i64 q6, .int .i64 q7] :: cells q8 61 [.int .i64 q2.Layer, .int .i64 q4, .int .i64 q5] :: ro ρ :: l)) ?_ ?_
 ·refine x_cond_p (x12 = 0) rfl (fun hc13 => ?_) (fun hc13 => ?_)
  ·replace hFc13 := it_t hc13 hFc13
   replace hFc13 := ar_s hFc13; obtain ⟨x16, hx16, hFc13⟩ := hFc13
   replace hFc13 := ar_s hFc13; obtain ⟨x19, hx19, hFc13⟩ := hFc13
   refine x_par (w0 := w0) [⟨[], [], [14], [], [], [], none⟩, ⟨[0], [0], [15], [0], [], [], none⟩, ⟨[0, 1], [1], [16], [], [], [], none⟩, ⟨[], [], [17], [], [], [], none⟩, ⟨[3], [3], [18], [0], [], [], none⟩, ⟨[3, 4], [4], [19], [], [], [], none⟩, ⟨[0, 1, 2], [], [20], [], [], [], none⟩, ⟨[0, 1, 2, 6], [2, 6], [], [], [1], [2], none⟩, ⟨[0, 1, 2, 3, 4, 5, 6, 7], [], [21], [], [], [], none⟩, ⟨[0, 1, 2, 3, 4, 5, 6, 7, 8], [5, 8], [], [], [3], [4], none⟩] [⟨none, none, []⟩, ⟨none, (some 7), []⟩, ⟨(some 7), none, []⟩, ⟨none, (some 9), []⟩, ⟨(some 9), none, []⟩] [14, 15, 16, 17, 18, 19, 20, 21] [0, 1, 3] [0, 2, 4] [0, 1, 2, 3, 4, 5, 6, 8] [fun Ep3 => Ep3 14 = .pointer (some ⟨b3, 2, none⟩), fun Ep3 => Ep3 15 = .int .i64 q2.Y, fun Ep3 => Ep3 16 = .int .i64 x16, fun Ep3 => Ep3 17 = .pointer (some ⟨b3, 2, none⟩), fun Ep3 => Ep3 18 = .int .i64 q2.Y, fun Ep3 => Ep3 19 = .int .i64 x19, fun Ep3 => Ep3 20 = .pointer (some ⟨(blkOf (Ep1 5)), 2, none⟩), fun Ep3 => True, fun Ep3 => Ep3 21 = .pointer (some ⟨(blkOf (Ep1 6)), 2, none⟩), fun Ep3 => True] [fun Ep3 => cells b3 61 [.int .i64 q2.Layer, .int .i64 q2.X, .int .i64 q2.Y], fun Ep3 => cells (blkOf (Ep1 5)) 61 [.int .i64 q2.Layer, .int .i64 q2.X, .int .i64 q2.Y], fun Ep3 => cells (blkOf (Ep1 5)) 61 [.int .i64 q2.Layer, .int .i64 q2.X, .int .i64 x16], fun Ep3 => cells (blkOf (Ep1 6)) 61 [.int .i64 q2.Layer, .int .i64 q2.X, .int .i64 q2.Y], fun Ep3 => cells (blkOf (Ep1 6)) 61 [.int .i64 q2.Layer, .int .i64 q2.X, .int .i64 x19]] mixed (by kernel_rfl) (((hS.pull 2).pull 2).pull 2) ?_ ?_
   ·refine ⟨?_, ?_, ?_, ?_, ?_, ?_, ?_, ?_, ?_, ?_, trivial⟩
    ·intro Ep3 w l' hE3 hO3 hF_ hS
     refine p (yl_field0 fld_61_2 ((hE3 3 rfl).trans (hE1 3 rfl))) <| x_done <| ?_
     refine x_fin ⟨⟨_, rfl⟩, rfl, ?_⟩
     exact emk hS
    ·intro Ep3 w l' hE3 hO3 hF_ hS
     obtain ⟨q0f, -⟩ := hF_
     replace q0f : Ep3 14 = .pointer (some ⟨b3, 2, none⟩) := emk q0f
     replace hS : St w0 w (cells b3 61 [.int .i64 q2.Layer, .int .i64 q2.X, .int .i64 q2.Y] :: l') := emk hS
     refine pa (at_load one_3 q0f (hS.cell rfl)) <| x_done <| ?_
     refine x_fin ⟨⟨_, rfl⟩, rfl, ?_⟩
     exact emk hS
    ·intro Ep3 w l' hE3 hO3 hF_ hS
     obtain ⟨q0g, -⟩ := hF_
     replace q0g : Ep3 15 = .int .i64 q2.Y := emk q0g
     refine p (ysub q0g rfl hx16) <| x_done <| ?_
     refine x_fin ⟨⟨_, rfl⟩, rfl, ?_⟩
     exact emk hS
    ·intro Ep3 w l' hE3 hO3 hF_ hS
     refine p (yl_field0 fld_61_2 ((hE3 3 rfl).trans (hE1 3 rfl))) <| x_done <| ?_
     refine x_fin ⟨⟨_, rfl⟩, rfl, ?_⟩
     exact emk hS
    ·intro Ep3 w l' hE3 hO3 hF_ hS
     obtain ⟨q0h, -⟩ := hF_
     replace q0h : Ep3 17 = .pointer (some ⟨b3, 2, none⟩) := emk q0h
     replace hS : St w0 w (cells b3 61 [.int .i64 q2.Layer, .int .i64 q2.X, .int .i64 q2.Y] :: l') := emk hS
     refine pa (at_load one_3 q0h (hS.cell rfl)) <| x_done <| ?_
     refine x_fin ⟨⟨_, rfl⟩, rfl, ?_⟩
     exact emk hS
    ·intro Ep3 w l' hE3 hO3 hF_ hS
     obtain ⟨q0i, -⟩ := hF_
     replace q0i : Ep3 18 = .int .i64 q2.Y := emk q0i
     refine p (yadd q0i rfl hx19) <| x_done <| ?_
     refine x_fin ⟨⟨_, rfl⟩, rfl, ?_⟩
     exact emk hS
    ·intro Ep3 w l' hE3 hO3 hF_ hS
     refine p (yl_field0 fld_61_2 ((hE3 5 rfl).trans q9)) <| x_done <| ?_
     refine x_fin ⟨⟨_, rfl⟩, rfl, ?_⟩
     exact emk hS
    ·intro Ep3 w l' hE3 hO3 hF_ hS
     obtain ⟨q0j, q0k, -⟩ := hF_
     replace q0j : Ep3 16 = .int .i64 x16 := emk q0j
     replace q0k : Ep3 20 = .pointer (some ⟨(blkOf (Ep1 5)), 2, none⟩) := emk q0k
     replace hS : St w0 w (cells (blkOf (Ep1 5)) 61 [.int .i64 q2.Layer, .int .i64 q2.X, .int .i64 q2.Y] :: l') := emk hS
     refine o_store1 (v := .int .i64 x16) one_3 q0k q0j rfl rfl hS (fun w' hS => ?_)
     refine x_done <| ?_
     refine x_fin ⟨⟨undef, rfl⟩, trivial, ?_⟩
     exact emk hS
    ·intro Ep3 w l' hE3 hO3 hF_ hS
     refine p (yl_field0 fld_61_2 ((hE3 6 rfl).trans q0a)) <| x_done <| ?_
     refine x_fin ⟨⟨_, rfl⟩, rfl, ?_⟩
     exact emk hS
    ·intro Ep3 w l' hE3 hO3 hF_ hS
     obtain ⟨q0l, q0m, -⟩ := hF_
     replace q0l : Ep3 19 = .int .i64 x19 := emk q0l
     replace q0m : Ep3 21 = .pointer (some ⟨(blkOf (Ep1 6)), 2, none⟩) := emk q0m
     replace hS : St w0 w (cells (blkOf (Ep1 6)) 61 [.int .i64 q2.Layer, .int .i64 q2.X, .int .i64 q2.Y] :: l') := emk hS
     refine o_store1 (v := .int .i64 x19) one_3 q0m q0l rfl rfl hS (fun w' hS => ?_)
     refine x_done <| ?_
     refine x_fin ⟨⟨undef, rfl⟩, trivial, ?_⟩
     exact emk hS
   intro Ep3 w' hE3 hF_ hS
   obtain ⟨q0f, q0g, q0j, q0h, q0i, q0l, q0k, q0m, -⟩ := hF_
   replace q0f : Ep3 14 = .pointer (some ⟨b3, 2, none⟩) := emk q0f
   replace q0g : Ep3 15 = .int .i64 q2.Y := emk q0g
   replace q0j : Ep3 16 = .int .i64 x16 := emk q0j
   replace q0h : Ep3 17 = .pointer (some ⟨b3, 2, none⟩) := emk q0h
   replace q0i : Ep3 18 = .int .i64 q2.Y := emk q0i
   replace q0l : Ep3 19 = .int .i64 x19 := emk q0l
   replace q0k : Ep3 20 = .pointer (some ⟨(blkOf (Ep1 5)), 2, none⟩) := emk q0k
   replace q0m : Ep3 21 = .pointer (some ⟨(blkOf (Ep1 6)), 2, none⟩) := emk q0m
   replace hS : St w0 w' (cells b3 61 [.int .i64 q2.Layer, .int .i64 q2.X, .int .i64 q2.Y] :: cells (blkOf (Ep1 5)) 61 [.int .i64 q2.Layer, .int .i64 q2.X, .int .i64 x16] :: cells (blkOf (Ep1 6)) 61 [.int .i64 q2.Layer, .int .i64 q2.X, .int .i64 x19] :: (mapA q3 kf_61 Value.bool others0 :: ro ρ :: l)) := emk hS
   exact x_inv ⟨(blkOf (Ep1 5)), (blkOf (Ep1 6)), q2.X, x16, q2.X, x19, (sinj hFc13), ((hE3 0 rfl).trans (hE1 0 rfl)), ((hE3 5 rfl).trans q9), ((hE3 6 rfl).trans q0a), ((((hS.drop.pull 3).pull 2).pull 2).pull 3)⟩
  ·replace hFc13 := it_f hc13 hFc13
   replace hFc13 := ar_s hFc13; obtain ⟨x24, hx24, hFc13⟩ := hFc13
   replace hFc13 := ar_s hFc13; obtain ⟨x27, hx27, hFc13⟩ := hFc13
   refine x_par (w0 := w0) [⟨[], [], [22], [], [], [], none⟩, ⟨[0], [0], [23], [0], [], [], none⟩, ⟨[0, 1], [1], [24], [], [], [], none⟩, ⟨[], [], [25], [], [], [], none⟩, ⟨[3], [3], [26], [0], [], [], none⟩, ⟨[3, 4], [4], [27], [], [], [], none⟩, ⟨[0, 1, 2], [], [28], [], [], [], none⟩, ⟨[0, 1, 2, 6], [2, 6], [], [], [1], [2], none⟩, ⟨[0, 1, 2, 3, 4, 5, 6, 7], [], [29], [], [], [], none⟩, ⟨[0, 1, 2, 3, 4, 5, 6, 7, 8], [5, 8], [], [], [3], [4], none⟩] [⟨none, none, []⟩, ⟨none, (some 7), []⟩, ⟨(some 7), none, []⟩, ⟨none, (some 9), []⟩, ⟨(some 9), none, []⟩] [22, 23, 24, 25, 26, 27, 28, 29] [0, 1, 3] [0, 2, 4] [0, 1, 2, 3, 4, 5, 6, 8] [fun Ep4 => Ep4 22 = .pointer (some ⟨b3, 1, none⟩), fun Ep4 => Ep4 23 = .int .i64 q2.X, fun Ep4 => Ep4 24 = .int .i64 x24, fun Ep4 => Ep4 25 = .pointer (some ⟨b3, 1, none⟩), fun Ep4 => Ep4 26 = .int .i64 q2.X, fun Ep4 => Ep4 27 = .int .i64 x27, fun Ep4 => Ep4 28 = .pointer (some ⟨(blkOf (Ep1 5)), 1, none⟩), fun Ep4 => True, fun Ep4 => Ep4 29 = .pointer (some ⟨(blkOf (Ep1 6)), 1, none⟩), fun Ep4 => True] [fun Ep4 => cells b3 61 [.int .i64 q2.Layer, .int .i64 q2.X, .int .i64 q2.Y], fun Ep4 => cells (blkOf (Ep1 5)) 61 [.int .i64 q2.Layer, .int .i64 q2.X, .int .i64 q2.Y], fun Ep4 => cells (blkOf (Ep1 5)) 61 [.int .i64 q2.Layer, .int .i64 x24, .int .i64 q2.Y], fun Ep4 => cells (blkOf (Ep1 6)) 61 [.int .i64 q2.Layer, .int .i64 q2.X, .int .i64 q2.Y], fun Ep4 => cells (blkOf (Ep1 6)) 61 [.int .i64 q2.Layer, .int .i64 x27, .int .i64 q2.Y]] mixed (by kernel_rfl) (((hS.pull 2).pull 2).pull 2) ?_ ?_
   ·refine ⟨?_, ?_, ?_, ?_, ?_, ?_, ?_, ?_, ?_, ?_, trivial⟩
    ·intro Ep4 w l' hE4 hO4 hF_ hS
     refine p (yl_field0 fld_61_1 ((hE4 3 rfl).trans (hE1 3 rfl))) <| x_done <| ?_
     refine x_fin ⟨⟨_, rfl⟩, rfl, ?_⟩
     exact emk hS
    ·intro Ep4 w l' hE4 hO4 hF_ hS
     obtain ⟨q0n, -⟩ := hF_
     replace q0n : Ep4 22 = .pointer (some ⟨b3, 1, none⟩) := emk q0n
     replace hS : St w0 w (cells b3 61 [.int .i64 q2.Layer, .int .i64 q2.X, .int .i64 q2.Y] :: l') := emk hS
     refine pa (at_load one_3 q0n (hS.cell rfl)) <| x_done <| ?_
     refine x_fin ⟨⟨_, rfl⟩, rfl, ?_⟩
     exact emk hS
    ·intro Ep4 w l' hE4 hO4 hF_ hS
     obtain ⟨q0o, -⟩ := hF_
     replace q0o : Ep4 23 = .int .i64 q2.X := emk q0o
     refine p (ysub q0o rfl hx24) <| x_done <| ?_
     refine x_fin ⟨⟨_, rfl⟩, rfl, ?_⟩
     exact emk hS
    ·intro Ep4 w l' hE4 hO4 hF_ hS
     refine p (yl_field0 fld_61_1 ((hE4 3 rfl).trans (hE1 3 rfl))) <| x_done <| ?_
     refine x_fin ⟨⟨_, rfl⟩, rfl, ?_⟩
     exact emk hS
    ·intro Ep4 w l' hE4 hO4 hF_ hS
     obtain ⟨q0p, -⟩ := hF_
     replace q0p : Ep4 25 = .pointer (some ⟨b3, 1, none⟩) := emk q0p
     replace hS : St w0 w (cells b3 61 [.int .i64 q2.Layer, .int .i64 q2.X, .int .i64 q2.Y] :: l') := emk hS
     refine pa (at_load one_3 q0p (hS.cell rfl)) <| x_done <| ?_
     refine x_fin ⟨⟨_, rfl⟩, rfl, ?_⟩
     exact emk hS
    ·intro Ep4 w l' hE4 hO4 hF_ hS
     obtain ⟨q0q, -⟩ := hF_
     replace q0q : Ep4 26 = .int .i64 q2.X := emk q0q
     refine p (yadd q0q rfl hx27) <| x_done <| ?_
     refine x_fin ⟨⟨_, rfl⟩, rfl, ?_⟩
     exact emk hS
    ·intro Ep4 w l' hE4 hO4 hF_ hS
     refine p (yl_field0 fld_61_1 ((hE4 5 rfl).trans q9)) <| x_done <| ?_
     refine x_fin ⟨⟨_, rfl⟩, rfl, ?_⟩
     exact emk hS
    ·intro Ep4 w l' hE4 hO4 hF_ hS
     obtain ⟨q0r, q0s, -⟩ := hF_
     replace q0r : Ep4 24 = .int .i64 x24 := emk q0r
     replace q0s : Ep4 28 = .pointer (some ⟨(blkOf (Ep1 5)), 1, none⟩) := emk q0s
     replace hS : St w0 w (cells (blkOf (Ep1 5)) 61 [.int .i64 q2.Layer, .int .i64 q2.X, .int .i64 q2.Y] :: l') := emk hS
     refine o_store1 (v := .int .i64 x24) one_3 q0s q0r rfl rfl hS (fun w' hS => ?_)
     refine x_done <| ?_
     refine x_fin ⟨⟨undef, rfl⟩, trivial, ?_⟩
     exact emk hS
    ·intro Ep4 w l' hE4 hO4 hF_ hS
     refine p (yl_field0 fld_61_1 ((hE4 6 rfl).trans q0a)) <| x_done <| ?_
     refine x_fin ⟨⟨_, rfl⟩, rfl, ?_⟩
     exact emk hS
    ·intro Ep4 w l' hE4 hO4 hF_ hS
     obtain ⟨q0t, q0u, -⟩ := hF_
     replace q0t : Ep4 27 = .int .i64 x27 := emk q0t
     replace q0u : Ep4 29 = .pointer (some ⟨(blkOf (Ep1 6)), 1, none⟩) := emk q0u
     replace hS : St w0 w (cells (blkOf (Ep1 6)) 61 [.int .i64 q2.Layer, .int .i64 q2.X, .int .i64 q2.Y] :: l') := emk hS
     refine o_store1 (v := .int .i64 x27) one_3 q0u q0t rfl rfl hS (fun w' hS => ?_)
     refine x_done <| ?_
     refine x_fin ⟨⟨undef, rfl⟩, trivial, ?_⟩
     exact emk hS
   intro Ep4 w' hE4 hF_ hS
   obtain ⟨q0n, q0o, q0r, q0p, q0q, q0t, q0s, q0u, -⟩ := hF_
   replace q0n : Ep4 22 = .pointer (some ⟨b3, 1, none⟩) := emk q0n
   replace q0o : Ep4 23 = .int .i64 q2.X := emk q0o
   replace q0r : Ep4 24 = .int .i64 x24 := emk q0r
   replace q0p : Ep4 25 = .pointer (some ⟨b3, 1, none⟩) := emk q0p
   replace q0q : Ep4 26 = .int .i64 q2.X := emk q0q
   replace q0t : Ep4 27 = .int .i64 x27 := emk q0t
   replace q0s : Ep4 28 = .pointer (some ⟨(blkOf (Ep1 5)), 1, none⟩) := emk q0s
   replace q0u : Ep4 29 = .pointer (some ⟨(blkOf (Ep1 6)), 1, none⟩) := emk q0u
   replace hS : St w0 w' (cells b3 61 [.int .i64 q2.Layer, .int .i64 q2.X, .int .i64 q2.Y] :: cells (blkOf (Ep1 5)) 61 [.int .i64 q2.Layer, .int .i64 x24, .int .i64 q2.Y] :: cells (blkOf (Ep1 6)) 61 [.int .i64 q2.Layer, .int .i64 x27, .int .i64 q2.Y] :: (mapA q3 kf_61 Value.bool others0 :: ro ρ :: l)) := emk hS
   exact x_inv ⟨(blkOf (Ep1 5)), (blkOf (Ep1 6)), x24, q2.Y, x27, q2.Y, (sinj hFc13), ((hE4 0 rfl).trans (hE1 0 rfl)), ((hE4 5 rfl).trans q9), ((hE4 6 rfl).trans q0a), ((((hS.drop.pull 3).pull 2).pull 2).pull 3)⟩
 rintro E w ⟨q0b, q8, q6, q7, q4, q5, rfl, q0v, q0z, q0x, hS⟩
 replace hF := lv_s hF; obtain ⟨x32, hx32, hF⟩ := hF
 refine x_seq <| x_region <| p (yl_assign rfl) <| x_done <|
  x_seq <| x_seq <| x_region <| p (yl_move q0v) <|
  pa (v := .agg #[.int .i64 q2.Layer, .int .i64 q6, .int .i64 q7]) (ld_sub agg_61 q0z rfl rfl (hS.pull 1)) <| pa (at_look (k := (T_rules_Spot.mk q2.Layer q6 q7)) um_84 kp_61 (zero1 zv_4) rfl rfl hS hx32) <| x_done <| ?_
 replace hF := bd_s hF; obtain ⟨oc32, hFc32, hF⟩ := hF
 refine x_join (fun E w => ∃ (q0c : Int), q0c = oc32 ∧ E 0 = .map (some q3) ∧ E 6 = .pointer (some ⟨q8, 0, none⟩) ∧ E 7 = .int .i64 q0c ∧ St w0 w (mapA q3 kf_61 Value.bool others0 :: cells q8 61 [.int .i64 q2.Layer, .int .i64 q4, .int .i64 q5] :: ro ρ :: l)) ?_ ?_
 ·refine x_cond (t := x32) rfl (fun hc32 => ?_) (fun hc32 => ?_)
  ·replace hFc32 := it_t hc32 hFc32
   replace hFc32 := ar_s hFc32; obtain ⟨x34, hx34, hFc32⟩ := hFc32
   refine x_region <| p (yl_move rfl) <| p (yadd rfl rfl hx34) <| p (yl_assign rfl) <|
    x_done <| ?_
   exact x_inv ⟨x34, (sinj hFc32), q0v, q0x, rfl, ((((hS.pull 1).drop.pull 2).pull 2).pull 2)⟩
  ·replace hFc32 := it_bf hc32 hFc32
   refine x_skip <| ?_
   exact x_inv ⟨0, (sinj hFc32), q0v, q0x, rfl, ((((hS.pull 1).drop.pull 2).pull 2).pull 2)⟩
 rintro E w ⟨q0c, rfl, q10, q11, q0y, hS⟩
 replace hF := lv_s hF; obtain ⟨x37, hx37, hF⟩ := hF
 refine x_seq <| x_seq <| x_region <| p (yl_move q10) <|
  pa (v := .agg #[.int .i64 q2.Layer, .int .i64 q4, .int .i64 q5]) (ld_sub agg_61 q11 rfl rfl (hS.pull 1)) <| pa (at_look (k := (T_rules_Spot.mk q2.Layer q4 q5)) um_84 kp_61 (zero1 zv_4) rfl rfl hS hx37) <| x_done <| ?_
 replace hF := bd_s hF; obtain ⟨oc37, hFc37, hF⟩ := hF
 refine x_join (fun E w => ∃ (q0w : Int), q0w = oc37 ∧ E 7 = .int .i64 q0w ∧ St w0 w (mapA q3 kf_61 Value.bool others0 :: ro ρ :: l)) ?_ ?_
 ·refine x_cond (t := x37) rfl (fun hc37 => ?_) (fun hc37 => ?_)
  ·replace hFc37 := it_t hc37 hFc37
   replace hFc37 := ar_s hFc37; obtain ⟨x39, hx39, hFc37⟩ := hFc37
   refine x_region <| p (yl_move q0y) <| p (yadd rfl rfl hx39) <| p (yl_assign rfl) <|
    x_done <| ?_
   exact x_inv ⟨x39, (sinj hFc37), rfl, (((hS.pull 1).drop.pull 1).pull 1)⟩
  ·replace hFc37 := it_bf hc37 hFc37
   refine x_skip <| ?_
   exact x_inv ⟨q0c, (sinj hFc37), q0y, (((hS.pull 1).drop.pull 1).pull 1)⟩
 rintro E w ⟨q0w, rfl, q12, hS⟩
 refine x_seq <| x_region <| p (yl_move q12) <| p (yl_assign rfl) <|
  x_done <| ?_
 have e_ := sinj hF; subst e_
 exact x_return ⟨_, ⟨_, _, rfl, rfl, rfl⟩, rfl, ((hS.pull 1).pull 1)⟩
attribute [irreducible] P_extract_beside

def P_extract_step_resistance (s0 : T_extract_step) : Option Int :=
 if s0.fa.Layer ≠ s0.fb.Layer then
  some (5 : Int)
 else
  if s0.fa.Layer < 2 then
   some (4 : Int)
  else
   some (2 : Int)
theorem c_extract_step_resistance {w0 w : World} {l : List Assn} {ρ : Heap} {s0 : T_extract_step} {r : Int} (hF : P_extract_step_resistance s0 = some r) (hS : St w0 w (ro ρ :: l)) :
  Calls Try.prog 42 #[.agg #[.int .i64 s0.fa.Layer, .int .i64 s0.fa.X, .int .i64 s0.fa.Y, .int .i64 s0.fb.Layer, .int .i64 s0.fb.X, .int .i64 s0.fb.Y]] w fun e w' => e = .returned (.int .i64 r) ∧ St w0 w' (ro ρ :: l) := by
 refine enterC Try.func42 rfl 16 rfl (by simp) ?_
 refine x_seq <| x_region <| ?_
 refine o_box (cs := [.int .i64 s0.fa.Layer, .int .i64 s0.fa.X, .int .i64 s0.fa.Y, .int .i64 s0.fb.Layer, .int .i64 s0.fb.X, .int .i64 s0.fb.Y]) rfl rfl hS (fun b1 w' hS => ?_)
 refine p (yl_assign rfl) <| x_done <| x_seq <| x_block <|
  x_seq <| x_region <| p (yl_field0 fld_94_0 rfl) <| p (yl_field0 fld_61_0 rfl) <|
  pa (at_load one_3 rfl (hS.cell rfl)) <| p (yl_field0 fld_94_1 rfl) <| p (yl_fieldN fld_61_0 rfl) <| pa (at_load one_3 rfl (hS.cell rfl)) <|
  p (yl_neq rfl rfl) <| p (yl_assign rfl) <| x_done <|
  x_cond_p (s0.fa.Layer ≠ s0.fb.Layer) rfl (fun hc3 => ?_) (fun hc3 => ?_)
 ·replace hF := it_t hc3 hF
  refine x_seq <| x_region <| p (yl_assign rfl) <| x_done <| ?_
  have e_ := sinj hF; subst e_
  exact x_return ⟨_, ⟨_, _, rfl, rfl, rfl⟩, rfl, hS.drop⟩
 ·replace hF := it_f hc3 hF
  refine x_seq <| x_region <| p (yl_field0 fld_94_0 rfl) <| p (yl_field0 fld_61_0 rfl) <|
   pa (at_load one_3 rfl (hS.cell rfl)) <| p (yl_lss rfl rfl) <| p (yl_assign rfl) <| x_done <|
   x_cond_p (s0.fa.Layer < 2) rfl (fun hc11 => ?_) (fun hc11 => ?_)
  ·replace hF := it_t hc11 hF
   refine x_seq <| x_region <| p (yl_assign rfl) <| x_done <| ?_
   have e_ := sinj hF; subst e_
   exact x_return ⟨_, ⟨_, _, rfl, rfl, rfl⟩, rfl, hS.drop⟩
  ·replace hF := it_f hc11 hF
   refine x_skip <| x_blk <| x_seq <| x_region <|
    p (yl_assign rfl) <| x_done <| ?_
   have e_ := sinj hF; subst e_
   exact x_return ⟨_, ⟨_, _, rfl, rfl, rfl⟩, rfl, hS.drop⟩
attribute [irreducible] P_extract_step_resistance

def P_extract_Sum_L7 (q5 : (List (T_rules_Spot × Bool) × List (T_extract_step × Bool))) (q7 : List (T_rules_Spot × Bool)) : (List Nat × Int × Int) → Nd ((List Nat × Int × Int) ⊕ (Int × Int)) := fun (q4, q2, q3) =>
 nnx (q5.1.length) q4 (
  nret (Sum.inr (q2, q3))) fun i28 =>
 nlv (gt q5.1 i28) fun e30 =>
 nbd (nof (P_extract_capacitance e30.1.Layer)) fun q8 =>
 nar (q2 + q8) fun x37 =>
 nbd (nof (P_extract_beside q7 e30.1)) fun q6 =>
 nar (q3 + q6) fun x44 =>
 nret (Sum.inl ((q4 ++ [i28]), x37, x44))
def P_extract_Sum_L12 (q6 : (List (T_rules_Spot × Bool) × List (T_extract_step × Bool))) : (List Nat × Int × Int) → Nd ((List Nat × Int × Int) ⊕ (Int × Int)) := fun (q4, q2, q3) =>
 nnx (q6.2.length) q4 (
  nret (Sum.inr (q2, q3))) fun i49 =>
 nlv (gt q6.2 i49) fun e51 =>
 nbd (nof (P_extract_step_resistance e51.1)) fun q7 =>
 nar (q3 + q7) fun x57 =>
 nbd (
  if e51.1.fa.Layer ≠ e51.1.fb.Layer then
   nar (q2 + 1) fun x68 =>
   nret x68
  else
   nret q2) fun q5 =>
 nret (Sum.inl ((q4 ++ [i49]), q5, x57))
def P_extract_Sum (l_0 : T_rules_Layout) (net1 : Int) : Nd (T_extract_Net × Int) :=
 nbd (nof (P_extract_check l_0 net1)) fun q6 =>
 if q6 ≠ 0 then
  nret ((T_extract_Net.mk 0 0 0), q6)
 else
  nbd (nof (P_extract_of l_0 net1)) fun q7 =>
  nbd (nof (P_extract_strangers l_0 net1)) fun q8 =>
  nbd (
   nlp (P_extract_Sum_L7 q7 q8) fuel ([], 0, 0)) fun (q4, q5) =>
  nbd (
   nlp (P_extract_Sum_L12 q7) fuel ([], q4, 0)) fun (q2, q3) =>
  nret ((T_extract_Net.mk q2 q5 q3), (0 : Int))
theorem c_extract_Sum {w0 w : World} {l : List Assn} {ρ : Heap} {q2 : Option Addr} {q11 : Nat} {c_l_0_4 : Nat} {q3 : Option Addr} {q12 : Nat} {c_l_0_5 : Nat} {q4 : Option Addr} {q13 : Nat} {c_l_0_6 : Nat} {q5 : Option Addr} {q14 : Nat} {c_l_0_7 : Nat} {l_0 : T_rules_Layout} {net1 : Int} {Q : (T_extract_Net × Int) → Prop} (hF : P_extract_Sum l_0 net1 Q) (q0l : RdS R_rules_Wire ρ q2 q11 c_l_0_4 l_0.Wires) (q0m : RdS R_rules_Via ρ q3 q12 c_l_0_5 l_0.Vias) (q0n : RdS R_rules_Pin ρ q4 q13 c_l_0_6 l_0.Pins) (q0o : RdS R_floor_Wall ρ q5 q14 c_l_0_7 l_0.Walls) (hS : St w0 w (ro ρ :: l)) :
  Calls Try.prog 18 #[.agg #[.int .i64 l_0.W, .int .i64 l_0.H, .int .i64 l_0.Layers, .int .i64 l_0.Nets, .slice q2 q11 c_l_0_4, .slice q3 q12 c_l_0_5, .slice q4 q13 c_l_0_6, .slice q5 q14 c_l_0_7], .int .i64 net1] w fun e w' => ∃ r : (T_extract_Net × Int), Q r ∧ e = .returned (.tuple #[.agg #[.int .i64 r.1.Cap, .int .i64 r.1.Near, .int .i64 r.1.Res], .int .i64 r.2]) ∧ St w0 w' (ro ρ :: l) := by
 have e_ := q0l.n; subst e_
 have e_ := q0m.n; subst e_
 have e_ := q0n.n; subst e_
 have e_ := q0o.n; subst e_
 refine enterC Try.func18 rfl 71 rfl (by simp) ?_
 refine x_seq <| x_region <| ?_
 refine o_box (cs := [.int .i64 l_0.W, .int .i64 l_0.H, .int .i64 l_0.Layers, .int .i64 l_0.Nets, .slice q2 l_0.Wires.length c_l_0_4, .slice q3 l_0.Vias.length c_l_0_5, .slice q4 l_0.Pins.length c_l_0_6, .slice q5 l_0.Walls.length c_l_0_7]) rfl rfl hS (fun b2 w' hS => ?_)
 refine o_alloc zero_52 hS (fun b4 w' hS => ?_)
 replace hF := nbd_s hF; obtain ⟨q0r, q1m, hF⟩ := hF
 refine p (yl_assign rfl) <| x_done <| x_seq <| x_seq <|
  x_region <| pa (v := .agg #[.int .i64 l_0.W, .int .i64 l_0.H, .int .i64 l_0.Layers, .int .i64 l_0.Nets, .slice q2 l_0.Wires.length c_l_0_4, .slice q3 l_0.Vias.length c_l_0_5, .slice q4 l_0.Pins.length c_l_0_6, .slice q5 l_0.Walls.length c_l_0_7]) (ld_sub agg_31 rfl rfl rfl (hS.pull 1)) <| p (yl_move rfl) <| ?_
 have hcall := c_extract_check q1m q0l q0m q0n q0o (hS.pull 2)
 refine o_cc call_35 (args2 rfl rfl) ((Calls.mono hcall (fun e w'' h => And.intro h.1 ((h.2.pull 2).pull 2)))) ?_
 rintro e w' ⟨rfl, hS⟩
 refine ⟨_, rfl, ?_⟩
 refine p (v := .int .i64 q0r) (yl_assign rfl) <| x_done <| x_seq <| x_region <|
  p (v := .int .i64 q0r) (yl_move rfl) <| p (yl_neq rfl rfl) <| x_done <|
  x_cond_p (q0r ≠ 0) rfl (fun hc16 => ?_) (fun hc16 => ?_)
 ·replace hF := nit_t hc16 hF
  refine x_seq <| x_region <| p (v := .agg #[.int .i64 0, .int .i64 0, .int .i64 0]) (yl_build bld_52 bldf_52 (parts_eq pt0) (by kernel_rfl)) <| p (v := .int .i64 q0r) (yl_move rfl) <| ?_
  refine o_storeAgg (news := [.int .i64 0, .int .i64 0, .int .i64 0]) agg_52 rfl rfl rfl (by simp [over_length]) hS (fun w' hS => ?_)
  refine p (v := .int .i64 q0r) (yl_assign rfl) <| x_done <| ?_
  exact x_return ⟨_, ⟨_, _, _, rfl, rfl, ldvA agg_52 rfl (fun j v hj => by rw [add0]; exact St.cell hS hj), _, _, rfl, rfl, rfl⟩, ((T_extract_Net.mk 0 0 0), q0r), hF, rfl, hS.drop.drop⟩
 ·replace hF := nit_f hc16 hF
  refine x_skip <| x_seq <| ?_
  replace hF := nbd_s hF; obtain ⟨q7, q1n, hF⟩ := hF
  replace hF := nbd_s hF; obtain ⟨q15, q1o, hF⟩ := hF
  refine x_par (w0 := w0) [⟨[], [], [19], [0], [], [], none⟩, ⟨[], [], [20], [], [], [], none⟩, ⟨[0, 1], [0, 1], [21], [1], [], [2, 3], none⟩, ⟨[], [], [22], [0], [], [], none⟩, ⟨[], [], [23], [], [], [], none⟩, ⟨[0, 1, 2, 3, 4], [3, 4], [24], [1], [], [4], none⟩, ⟨[], [], [7], [], [], [5], none⟩, ⟨[0, 1, 2, 3, 4, 5, 6], [2, 6], [], [], [5], [6], none⟩, ⟨[0, 1, 2, 3, 4, 5, 6, 7], [5], [8, 24], [], [], [], none⟩] [⟨none, none, []⟩, ⟨none, none, []⟩, ⟨(some 2), none, [21]⟩, ⟨(some 2), none, [21]⟩, ⟨(some 5), none, [24]⟩, ⟨(some 6), (some 7), [7]⟩, ⟨(some 7), none, [7, 21]⟩] [7, 8, 19, 20, 21, 22, 23, 24] [0, 1] [0, 1, 2, 3, 4, 6] [0, 1, 2, 3, 4, 5, 6, 8] [fun Ep4 => Ep4 19 = .agg #[.int .i64 l_0.W, .int .i64 l_0.H, .int .i64 l_0.Layers, .int .i64 l_0.Nets, .slice q2 l_0.Wires.length c_l_0_4, .slice q3 l_0.Vias.length c_l_0_5, .slice q4 l_0.Pins.length c_l_0_6, .slice q5 l_0.Walls.length c_l_0_7], fun Ep4 => Ep4 20 = .int .i64 net1, fun Ep4 => Ep4 21 = .agg #[.map (some (mblkOf (partOf 0 (Ep4 21)))), .map (some (mblkOf (partOf 1 (Ep4 21))))], fun Ep4 => Ep4 22 = .agg #[.int .i64 l_0.W, .int .i64 l_0.H, .int .i64 l_0.Layers, .int .i64 l_0.Nets, .slice q2 l_0.Wires.length c_l_0_4, .slice q3 l_0.Vias.length c_l_0_5, .slice q4 l_0.Pins.length c_l_0_6, .slice q5 l_0.Walls.length c_l_0_7], fun Ep4 => Ep4 23 = .int .i64 net1, fun Ep4 => Ep4 24 = .map (some (mblkOf (Ep4 24))), fun Ep4 => Ep4 7 = .pointer (some ⟨(blkOf (Ep4 7)), 0, none⟩), fun Ep4 => True, fun Ep4 => Ep4 8 = .map (some (mblkOf (Ep4 24)))] [fun Ep4 => cells b2 31 [.int .i64 l_0.W, .int .i64 l_0.H, .int .i64 l_0.Layers, .int .i64 l_0.Nets, .slice q2 l_0.Wires.length c_l_0_4, .slice q3 l_0.Vias.length c_l_0_5, .slice q4 l_0.Pins.length c_l_0_6, .slice q5 l_0.Walls.length c_l_0_7], fun Ep4 => ro ρ, fun Ep4 => mapA (mblkOf (partOf 0 (Ep4 21))) kf_61 Value.bool q7.1, fun Ep4 => mapA (mblkOf (partOf 1 (Ep4 21))) kf_94 Value.bool q7.2, fun Ep4 => mapA (mblkOf (Ep4 24)) kf_61 Value.bool q15, fun Ep4 => cells (blkOf (Ep4 7)) 87 [.map none, .map none], fun Ep4 => cells (blkOf (Ep4 7)) 87 [.map (some (mblkOf (partOf 0 (Ep4 21)))), .map (some (mblkOf (partOf 1 (Ep4 21))))]] mixed (by kernel_rfl) ((hS.pull 2).pull 2) ?_ ?_
  ·refine ⟨?_, ?_, ?_, ?_, ?_, ?_, ?_, ?_, ?_, trivial⟩
   ·intro Ep4 w l' hE4 hO4 hF_ hS
    replace hS : St w0 w (cells b2 31 [.int .i64 l_0.W, .int .i64 l_0.H, .int .i64 l_0.Layers, .int .i64 l_0.Nets, .slice q2 l_0.Wires.length c_l_0_4, .slice q3 l_0.Vias.length c_l_0_5, .slice q4 l_0.Pins.length c_l_0_6, .slice q5 l_0.Walls.length c_l_0_7] :: l') := emk hS
    refine pa (v := .agg #[.int .i64 l_0.W, .int .i64 l_0.H, .int .i64 l_0.Layers, .int .i64 l_0.Nets, .slice q2 l_0.Wires.length c_l_0_4, .slice q3 l_0.Vias.length c_l_0_5, .slice q4 l_0.Pins.length c_l_0_6, .slice q5 l_0.Walls.length c_l_0_7]) (ld_sub agg_31 (hE4 2 rfl) rfl rfl hS) <| x_done <| ?_
    refine x_fin ⟨⟨_, rfl⟩, rfl, ?_⟩
    exact emk hS
   ·intro Ep4 w l' hE4 hO4 hF_ hS
    refine p (yl_move (hE4 1 rfl)) <| x_done <| ?_
    refine x_fin ⟨⟨_, rfl⟩, rfl, ?_⟩
    exact emk hS
   ·intro Ep4 w l' hE4 hO4 hF_ hS
    obtain ⟨q0s, q0t, -⟩ := hF_
    replace q0s : Ep4 19 = .agg #[.int .i64 l_0.W, .int .i64 l_0.H, .int .i64 l_0.Layers, .int .i64 l_0.Nets, .slice q2 l_0.Wires.length c_l_0_4, .slice q3 l_0.Vias.length c_l_0_5, .slice q4 l_0.Pins.length c_l_0_6, .slice q5 l_0.Walls.length c_l_0_7] := emk q0s
    replace q0t : Ep4 20 = .int .i64 net1 := emk q0t
    replace hS : St w0 w (ro ρ :: l') := emk hS
    have hcall := c_extract_of q1n q0l q0m q0n q0o hS
    refine o_cc call_37 (args2 q0s q0t) hcall ?_
    rintro e w' ⟨q1d, q1e, rfl, hS⟩
    refine ⟨_, rfl, ?_⟩
    refine x_done <| ?_
    refine x_fin ⟨⟨_, rfl⟩, rfl, ?_⟩
    exact emk (((hS.pull 1).pull 1).pull 2)
   ·intro Ep4 w l' hE4 hO4 hF_ hS
    replace hS : St w0 w (cells b2 31 [.int .i64 l_0.W, .int .i64 l_0.H, .int .i64 l_0.Layers, .int .i64 l_0.Nets, .slice q2 l_0.Wires.length c_l_0_4, .slice q3 l_0.Vias.length c_l_0_5, .slice q4 l_0.Pins.length c_l_0_6, .slice q5 l_0.Walls.length c_l_0_7] :: l') := emk hS
    refine pa (v := .agg #[.int .i64 l_0.W, .int .i64 l_0.H, .int .i64 l_0.Layers, .int .i64 l_0.Nets, .slice q2 l_0.Wires.length c_l_0_4, .slice q3 l_0.Vias.length c_l_0_5, .slice q4 l_0.Pins.length c_l_0_6, .slice q5 l_0.Walls.length c_l_0_7]) (ld_sub agg_31 (hE4 2 rfl) rfl rfl hS) <| x_done <| ?_
    refine x_fin ⟨⟨_, rfl⟩, rfl, ?_⟩
    exact emk hS
   ·intro Ep4 w l' hE4 hO4 hF_ hS
    refine p (yl_move (hE4 1 rfl)) <| x_done <| ?_
    refine x_fin ⟨⟨_, rfl⟩, rfl, ?_⟩
    exact emk hS
   ·intro Ep4 w l' hE4 hO4 hF_ hS
    obtain ⟨q0u, q0v, -⟩ := hF_
    replace q0u : Ep4 22 = .agg #[.int .i64 l_0.W, .int .i64 l_0.H, .int .i64 l_0.Layers, .int .i64 l_0.Nets, .slice q2 l_0.Wires.length c_l_0_4, .slice q3 l_0.Vias.length c_l_0_5, .slice q4 l_0.Pins.length c_l_0_6, .slice q5 l_0.Walls.length c_l_0_7] := emk q0u
    replace q0v : Ep4 23 = .int .i64 net1 := emk q0v
    replace hS : St w0 w (ro ρ :: l') := emk hS
    have hcall := c_extract_strangers q1o q0l q0m q0n q0o hS
    refine o_cc call_38 (args2 q0u q0v) hcall ?_
    rintro e w' ⟨q1g, rfl, hS⟩
    refine ⟨_, rfl, ?_⟩
    refine x_done <| ?_
    refine x_fin ⟨⟨_, rfl⟩, rfl, ?_⟩
    exact emk (hS.pull 1)
   ·intro Ep4 w l' hE4 hO4 hF_ hS
    refine o_alloc zero_87 hS (fun b7 w' hS => ?_)
    refine x_done <| ?_
    refine x_fin ⟨⟨_, rfl⟩, rfl, ?_⟩
    exact emk hS
   ·intro Ep4 w l' hE4 hO4 hF_ hS
    obtain ⟨q0w, q0k, -⟩ := hF_
    replace q0w : Ep4 21 = .agg #[.map (some (mblkOf (partOf 0 (Ep4 21)))), .map (some (mblkOf (partOf 1 (Ep4 21))))] := emk q0w
    replace q0k : Ep4 7 = .pointer (some ⟨(blkOf (Ep4 7)), 0, none⟩) := emk q0k
    replace hS : St w0 w (cells (blkOf (Ep4 7)) 87 [.map none, .map none] :: l') := emk hS
    refine o_storeAgg (news := [.map (some (mblkOf (partOf 0 (Ep4 21)))), .map (some (mblkOf (partOf 1 (Ep4 21))))]) agg_87 q0k q0w rfl (by simp [over_length]) hS (fun w' hS => ?_)
    refine x_done <| ?_
    refine x_fin ⟨⟨undef, rfl⟩, trivial, ?_⟩
    exact emk hS
   ·intro Ep4 w l' hE4 hO4 hF_ hS
    obtain ⟨q0x, -⟩ := hF_
    replace q0x : Ep4 24 = .map (some (mblkOf (Ep4 24))) := emk q0x
    refine p (yl_assign q0x) <| x_done <| ?_
    refine x_fin ⟨⟨_, rfl⟩, rfl, ?_⟩
    exact emk hS
  intro Ep4 w' hE4 hF_ hS
  obtain ⟨q0s, q0t, q0w, q0u, q0v, q0x, q0k, q1a, -⟩ := hF_
  replace q0s : Ep4 19 = .agg #[.int .i64 l_0.W, .int .i64 l_0.H, .int .i64 l_0.Layers, .int .i64 l_0.Nets, .slice q2 l_0.Wires.length c_l_0_4, .slice q3 l_0.Vias.length c_l_0_5, .slice q4 l_0.Pins.length c_l_0_6, .slice q5 l_0.Walls.length c_l_0_7] := emk q0s
  replace q0t : Ep4 20 = .int .i64 net1 := emk q0t
  replace q0w : Ep4 21 = .agg #[.map (some (mblkOf (partOf 0 (Ep4 21)))), .map (some (mblkOf (partOf 1 (Ep4 21))))] := emk q0w
  replace q0u : Ep4 22 = .agg #[.int .i64 l_0.W, .int .i64 l_0.H, .int .i64 l_0.Layers, .int .i64 l_0.Nets, .slice q2 l_0.Wires.length c_l_0_4, .slice q3 l_0.Vias.length c_l_0_5, .slice q4 l_0.Pins.length c_l_0_6, .slice q5 l_0.Walls.length c_l_0_7] := emk q0u
  replace q0v : Ep4 23 = .int .i64 net1 := emk q0v
  replace q0x : Ep4 24 = .map (some (mblkOf (Ep4 24))) := emk q0x
  replace q0k : Ep4 7 = .pointer (some ⟨(blkOf (Ep4 7)), 0, none⟩) := emk q0k
  replace q1a : Ep4 8 = .map (some (mblkOf (Ep4 24))) := emk q1a
  replace hS : St w0 w' (cells b2 31 [.int .i64 l_0.W, .int .i64 l_0.H, .int .i64 l_0.Layers, .int .i64 l_0.Nets, .slice q2 l_0.Wires.length c_l_0_4, .slice q3 l_0.Vias.length c_l_0_5, .slice q4 l_0.Pins.length c_l_0_6, .slice q5 l_0.Walls.length c_l_0_7] :: ro ρ :: mapA (mblkOf (partOf 0 (Ep4 21))) kf_61 Value.bool q7.1 :: mapA (mblkOf (partOf 1 (Ep4 21))) kf_94 Value.bool q7.2 :: mapA (mblkOf (Ep4 24)) kf_61 Value.bool q15 :: cells (blkOf (Ep4 7)) 87 [.map (some (mblkOf (partOf 0 (Ep4 21)))), .map (some (mblkOf (partOf 1 (Ep4 21))))] :: (cells b4 52 [.int .i64 0, .int .i64 0, .int .i64 0] :: l)) := emk hS
  refine x_seq <| x_region <| ?_
  refine o_alloc zero_52 hS (fun b9 w' hS => ?_)
  refine x_done <| x_seq <| x_seq <| x_region <|
   p (yl_field0 fld_87_0 q0k) <| pa (at_load one_84 rfl ((hS.pull 6).cell rfl)) <| ?_
  refine o_range um_84 rfl (hS.pull 3) (fun b27 w' hS => ?_)
  refine x_done <| ?_
  replace hF := nbd_j hF; obtain ⟨oL7, hLL7, hF⟩ := hF
  refine x_join (fun E w => ∃ (q0y : Nat) (q0p : Int) (q6 : Int), oL7 (q0p, q6) ∧ E 4 = .pointer (some ⟨b4, 0, none⟩) ∧ E 7 = .pointer (some ⟨q0y, 0, none⟩) ∧ E 9 = .pointer (some ⟨b9, 0, none⟩) ∧ St w0 w (cells b4 52 [.int .i64 0, .int .i64 0, .int .i64 0] :: cells q0y 87 [.map (some (mblkOf (partOf 0 (Ep4 21)))), .map (some (mblkOf (partOf 1 (Ep4 21))))] :: cells b9 52 [.int .i64 q0p, .int .i64 q6, .int .i64 0] :: mapA (mblkOf (partOf 0 (Ep4 21))) kf_61 Value.bool q7.1 :: mapA (mblkOf (partOf 1 (Ep4 21))) kf_94 Value.bool q7.2 :: ro ρ :: l)) ?_ ?_
  ·refine x_block ?_
   refine x_loop (fun k_ E w => ∃ (q0c : Nat) (q0q : List Nat) (q0g : Int) (q0h : Int), nlp (P_extract_Sum_L7 q7 q15) k_ (q0q, q0g, q0h) oL7 ∧ E 4 = .pointer (some ⟨b4, 0, none⟩) ∧ E 7 = .pointer (some ⟨q0c, 0, none⟩) ∧ E 8 = .map (some (mblkOf (Ep4 24))) ∧ E 9 = .pointer (some ⟨b9, 0, none⟩) ∧ E 27 = .pointer (some ⟨b27, 0, none⟩) ∧ St w0 w (cells b4 52 [.int .i64 0, .int .i64 0, .int .i64 0] :: cells q0c 87 [.map (some (mblkOf (partOf 0 (Ep4 21)))), .map (some (mblkOf (partOf 1 (Ep4 21))))] :: mapA (mblkOf (Ep4 24)) kf_61 Value.bool q15 :: cells b9 52 [.int .i64 q0g, .int .i64 q0h, .int .i64 0] :: mapA (mblkOf (partOf 0 (Ep4 21))) kf_61 Value.bool q7.1 :: itA b27 (mblkOf (partOf 0 (Ep4 21))) q7.1.length q0q :: mapA (mblkOf (partOf 1 (Ep4 21))) kf_94 Value.bool q7.2 :: ro ρ :: l)) fuel ⟨(blkOf (Ep4 7)), [], 0, 0, hLL7, (hE4 4 rfl), q0k, q1a, rfl, rfl, (((((((((hS.pull 3).drop.pull 3).pull 4).pull 2).pull 3).pull 4).pull 5).pull 6).pull 7)⟩ ?_
   rintro kL7 E w ⟨q0c, q0q, q0g, q0h, hLL7, q16, q17, q18, q0f, q0z, hS⟩
   replace hLL7 := nlp_s hLL7; obtain ⟨kL7, obL7, rfl, hFL7, hLL7⟩ := hLL7
   refine x_seq <| x_region <|
    o_next q0z ((hS.pull 4).pull 5) (fun q1p w' hS => ?_) (fun i28 q1b q1q w' hS => ?_)
   ·replace hFL7 := nnx_a hFL7 q1p
    refine p (yl_extract rfl rfl) <| x_done <| x_seq <| x_cond_f (show ev _ _ = .bool false from rfl) <|
     x_exitTo _ rfl <| ?_
    exact x_inv ⟨q0c, q0g, q0h, (hLL7 _ hFL7), q16, q17, q0f, (((((((hS.drop.pull 3).drop.pull 5).pull 5).pull 2).pull 5).pull 5).pull 5)⟩
   ·replace hFL7 := nnx_k hFL7 q1b q1q
    replace hFL7 := nlv_s hFL7; obtain ⟨e30, he30, hFL7⟩ := hFL7
    refine p (yl_extract rfl rfl) <| x_done <| x_seq <| x_cond_t (show ev _ _ = .bool true from rfl) <|
     x_skip <| x_block <| x_seq <| x_region <|
     pa (at_entry (kf := kf_61) (vf := Value.bool) q0z q1b ((hS.pull 1).pull 1) he30) <| p (yl_extract rfl rfl) <| ?_
    refine o_alloc zero_61 hS (fun b10 w' hS => ?_)
    refine o_storeAgg (news := [.int .i64 e30.1.Layer, .int .i64 e30.1.X, .int .i64 e30.1.Y]) agg_61 rfl rfl rfl (by simp [over_length]) hS (fun w' hS => ?_)
    replace hFL7 := nbd_s hFL7; obtain ⟨q1z, q1r, hFL7⟩ := hFL7
    replace hFL7 := nar_s hFL7; obtain ⟨x37, hx37, hFL7⟩ := hFL7
    refine x_done <| x_seq <| x_head 7 mixed (by kernel_rfl) hS _ _ rfl rfl <| q (yl_field0 fld_52_0 q0f) <|
     qa (fun w' hS => at_load one_3 rfl ((hS.pull 6).cell rfl)) <| q (yl_field0 fld_61_0 rfl) <| qa (fun w' hS => at_load one_3 rfl (hS.cell rfl)) <| qcc (v := .int .i64 q1z) call_40 (args1 rfl) (fun w' hS => by
      have hcall := c_extract_capacitance q1r  (hS.pull 8)
      exact (Calls.mono hcall (fun e w'' h => And.intro h.1 ((((((((h.2.pull 8).pull 8).pull 8).pull 8).pull 8).pull 8).pull 8).pull 8)))) <|
     q (yadd rfl rfl hx37) <| q (yl_field0 fld_52_0 q0f) <|
     q_done fun w' hS => ?_
    refine o_store1 (v := .int .i64 x37) one_3 rfl rfl rfl rfl (hS.pull 6) (fun w' hS => ?_)
    replace hFL7 := nbd_s hFL7; obtain ⟨q1s, q1h, hFL7⟩ := hFL7
    replace hFL7 := nar_s hFL7; obtain ⟨x44, hx44, hFL7⟩ := hFL7
    refine x_done <| x_head 7 mixed (by kernel_rfl) hS _ _ rfl rfl <| q (yl_field0 fld_52_1 q0f) <| qa (fun w' hS => at_load one_3 rfl (hS.cell rfl)) <|
     q (yl_move q18) <| qa (v := .agg #[.int .i64 e30.1.Layer, .int .i64 e30.1.X, .int .i64 e30.1.Y]) (fun w' hS => ld_sub agg_61 rfl rfl rfl (hS.pull 1)) <| qcc (v := .int .i64 q1s) call_41 (args2 rfl rfl) (fun w' hS => by
      have hcall := c_extract_beside q1h  ((hS.pull 8).pull 7)
      exact (Calls.mono hcall (fun e w'' h => And.intro h.1 (((((((((h.2.pull 1).pull 8).pull 2).pull 8).pull 8).pull 8).pull 8).pull 8).pull 8)))) <| q (yadd rfl rfl hx44) <|
     q (yl_field0 fld_52_1 q0f) <|
     q_done fun w' hS => ?_
    refine o_store1 (v := .int .i64 x44) one_3 rfl rfl rfl rfl hS (fun w' hS => ?_)
    refine x_done <| x_blk <| ?_
    exact x_inv ⟨kL7, Nat.lt_succ_self _, q0c, (q0q ++ [i28]), x37, x44, (hLL7 _ hFL7), q16, q17, q18, q0f, q0z, (((((((((hS.pull 1).drop.pull 7).pull 7).pull 3).pull 4).pull 4).pull 7).pull 7).pull 7)⟩
  rintro E w ⟨q0y, q0p, q6, hq_, q1t, q1u, q1v, hS⟩
  replace hF := hF _ hq_
  clear hq_
  refine x_seq <| x_seq <| x_region <| p (yl_field0 fld_87_1 q1u) <|
   pa (at_load one_85 rfl ((hS.pull 1).cell rfl)) <| ?_
  refine o_range um_85 rfl (hS.pull 4) (fun b48 w' hS => ?_)
  refine x_done <| ?_
  replace hF := nbd_j hF; obtain ⟨oL12, hLL12, hF⟩ := hF
  refine x_join (fun E w => ∃ (q8 : Int) (q9 : Int), oL12 (q8, q9) ∧ E 4 = .pointer (some ⟨b4, 0, none⟩) ∧ E 9 = .pointer (some ⟨b9, 0, none⟩) ∧ St w0 w (cells b4 52 [.int .i64 0, .int .i64 0, .int .i64 0] :: cells b9 52 [.int .i64 q8, .int .i64 q6, .int .i64 q9] :: ro ρ :: l)) ?_ ?_
  ·refine x_block ?_
   refine x_loop (fun k_ E w => ∃ (q0d : List Nat) (q0b : Int) (q0e : Int), nlp (P_extract_Sum_L12 q7) k_ (q0d, q0b, q0e) oL12 ∧ E 4 = .pointer (some ⟨b4, 0, none⟩) ∧ E 9 = .pointer (some ⟨b9, 0, none⟩) ∧ E 48 = .pointer (some ⟨b48, 0, none⟩) ∧ St w0 w (cells b4 52 [.int .i64 0, .int .i64 0, .int .i64 0] :: cells b9 52 [.int .i64 q0b, .int .i64 q6, .int .i64 q0e] :: mapA (mblkOf (partOf 1 (Ep4 21))) kf_94 Value.bool q7.2 :: itA b48 (mblkOf (partOf 1 (Ep4 21))) q7.2.length q0d :: ro ρ :: l)) fuel ⟨[], q0p, 0, hLL12, q1t, q1v, rfl, (((((((hS.pull 3).drop.pull 4).drop.pull 4).pull 1).pull 2).pull 4).pull 4)⟩ ?_
   rintro kL12 E w ⟨q0d, q0b, q0e, hLL12, q10, q0a, q0i, hS⟩
   replace hLL12 := nlp_s hLL12; obtain ⟨kL12, obL12, rfl, hFL12, hLL12⟩ := hLL12
   refine x_seq <| x_region <|
    o_next q0i ((hS.pull 2).pull 3) (fun q1w w' hS => ?_) (fun i49 q1c q1x w' hS => ?_)
   ·replace hFL12 := nnx_a hFL12 q1w
    refine p (yl_extract rfl rfl) <| x_done <| x_seq <| x_cond_f (show ev _ _ = .bool false from rfl) <|
     x_exitTo _ rfl <| ?_
    exact x_inv ⟨q0b, q0e, (hLL12 _ hFL12), q10, q0a, (((hS.drop.drop.pull 2).pull 2).pull 2)⟩
   ·replace hFL12 := nnx_k hFL12 q1c q1x
    replace hFL12 := nlv_s hFL12; obtain ⟨e51, he51, hFL12⟩ := hFL12
    refine p (yl_extract rfl rfl) <| x_done <| x_seq <| x_cond_t (show ev _ _ = .bool true from rfl) <|
     x_skip <| x_block <| x_seq <| x_region <|
     pa (at_entry (kf := kf_94) (vf := Value.bool) q0i q1c ((hS.pull 1).pull 1) he51) <| p (yl_extract rfl rfl) <| ?_
    refine o_alloc zero_94 hS (fun b11 w' hS => ?_)
    refine o_storeAgg (news := [.int .i64 e51.1.fa.Layer, .int .i64 e51.1.fa.X, .int .i64 e51.1.fa.Y, .int .i64 e51.1.fb.Layer, .int .i64 e51.1.fb.X, .int .i64 e51.1.fb.Y]) agg_94 rfl rfl rfl (by simp [over_length]) hS (fun w' hS => ?_)
    replace hFL12 := nbd_s hFL12; obtain ⟨q1y, q1i, hFL12⟩ := hFL12
    replace hFL12 := nar_s hFL12; obtain ⟨x57, hx57, hFL12⟩ := hFL12
    refine x_done <| x_seq <| x_head 6 mixed (by kernel_rfl) hS _ _ rfl rfl <| q (yl_field0 fld_52_2 q0a) <|
     qa (fun w' hS => at_load one_3 rfl ((hS.pull 4).cell rfl)) <| qa (v := .agg #[.int .i64 e51.1.fa.Layer, .int .i64 e51.1.fa.X, .int .i64 e51.1.fa.Y, .int .i64 e51.1.fb.Layer, .int .i64 e51.1.fb.X, .int .i64 e51.1.fb.Y]) (fun w' hS => ld_sub agg_94 rfl rfl rfl hS) <| qcc (v := .int .i64 q1y) call_42 (args1 rfl) (fun w' hS => by
      have hcall := c_extract_step_resistance q1i  (hS.pull 5)
      exact (Calls.mono hcall (fun e w'' h => And.intro h.1 (((((h.2.pull 5).pull 5).pull 5).pull 5).pull 5)))) <| q (yadd rfl rfl hx57) <|
     q (yl_field0 fld_52_2 q0a) <|
     q_done fun w' hS => ?_
    refine o_store1 (v := .int .i64 x57) one_3 rfl rfl rfl rfl (hS.pull 4) (fun w' hS => ?_)
    refine x_done <| x_seq <| x_region <| p (yl_field0 fld_94_0 rfl) <|
     p (yl_field0 fld_61_0 rfl) <| pa (at_load one_3 rfl ((hS.pull 1).cell rfl)) <| p (yl_field0 fld_94_1 rfl) <| p (yl_fieldN fld_61_0 rfl) <|
     pa (at_load one_3 rfl ((hS.pull 1).cell rfl)) <| p (yl_neq rfl rfl) <| x_done <| ?_
    replace hFL12 := nbd_j hFL12; obtain ⟨oc65, hFc65, hFL12⟩ := hFL12
    refine x_join (fun E w => ∃ (q0j : Int), oc65 q0j ∧ E 4 = .pointer (some ⟨b4, 0, none⟩) ∧ E 9 = .pointer (some ⟨b9, 0, none⟩) ∧ E 48 = .pointer (some ⟨b48, 0, none⟩) ∧ St w0 w (cells b4 52 [.int .i64 0, .int .i64 0, .int .i64 0] :: cells b9 52 [.int .i64 q0j, .int .i64 q6, .int .i64 x57] :: mapA (mblkOf (partOf 1 (Ep4 21))) kf_94 Value.bool q7.2 :: itA b48 (mblkOf (partOf 1 (Ep4 21))) q7.2.length (q0d ++ [i49]) :: ro ρ :: l)) ?_ ?_
    ·refine x_cond_p (e51.1.fa.Layer ≠ e51.1.fb.Layer) rfl (fun hc65 => ?_) (fun hc65 => ?_)
     ·replace hFc65 := nit_t hc65 hFc65
      replace hFc65 := nar_s hFc65; obtain ⟨x68, hx68, hFc65⟩ := hFc65
      refine x_region <| p (yl_field0 fld_52_0 q0a) <| pa (at_load one_3 rfl (hS.cell rfl)) <| p (yadd rfl rfl hx68) <|
       p (yl_field0 fld_52_0 q0a) <| ?_
      refine o_store1 (v := .int .i64 x68) one_3 rfl rfl rfl rfl hS (fun w' hS => ?_)
      refine x_done <| ?_
      exact x_inv ⟨x68, hFc65, q10, q0a, q0i, ((((((hS.pull 1).drop.pull 4).pull 2).pull 3).pull 3).pull 4)⟩
     ·replace hFc65 := nit_f hc65 hFc65
      refine x_skip <| ?_
      exact x_inv ⟨q0b, hFc65, q10, q0a, q0i, ((((((hS.pull 1).drop.pull 4).pull 2).pull 3).pull 3).pull 4)⟩
    rintro E w ⟨q0j, hq_, q1j, q1k, q1f, hS⟩
    replace hFL12 := hFL12 _ hq_
    clear hq_
    refine x_blk <| ?_
    exact x_inv ⟨kL12, Nat.lt_succ_self _, (q0d ++ [i49]), q0j, x57, (hLL12 _ hFL12), q1j, q1k, q1f, (((((hS.pull 4).pull 4).pull 4).pull 4).pull 4)⟩
  rintro E w ⟨q8, q9, hq_, q19, q1l, hS⟩
  replace hF := hF _ hq_
  clear hq_
  refine x_seq <| x_region <| pa (v := .agg #[.int .i64 q8, .int .i64 q6, .int .i64 q9]) (ld_sub agg_52 q1l rfl rfl (hS.pull 1)) <| ?_
  refine o_storeAgg (news := [.int .i64 q8, .int .i64 q6, .int .i64 q9]) agg_52 q19 rfl rfl (by simp [over_length]) hS (fun w' hS => ?_)
  refine p (yl_assign rfl) <| x_done <| ?_
  exact x_return ⟨_, ⟨_, _, _, rfl, q19, ldvA agg_52 rfl (fun j v hj => by rw [add0]; exact St.cell hS hj), _, _, rfl, rfl, rfl⟩, ((T_extract_Net.mk q8 q6 q9), (0 : Int)), hF, rfl, hS.drop.drop⟩
attribute [irreducible] P_extract_Sum

def P_extract_tree_fill_L2 (q4 : List (T_rules_Spot × Bool)) (others2 : List (T_rules_Spot × Bool)) (near3 : Int) : (List Nat × List (T_rules_Spot × Int)) → Nd ((List Nat × List (T_rules_Spot × Int)) ⊕ List (T_rules_Spot × Int)) := fun (q3, q2) =>
 nnx (q4.length) q3 (
  nret (Sum.inr q2)) fun i13 =>
 nlv (gt q4 i13) fun e15 =>
 nlv (mget e15.1 q2 0) fun x22 =>
 nbd (nof (P_extract_capacitance e15.1.Layer)) fun q8 =>
 nbd (nof (P_extract_beside others2 e15.1)) fun q5 =>
 nar (near3 * q5) fun x30 =>
 nar (q8 + x30) fun x31 =>
 nar (x22 + x31) fun x32 =>
 nlv (mget e15.1 q2 0) fun x33 =>
 nlv (mput e15.1 x33 q2) fun q6 =>
 nlv (mput e15.1 x32 q6) fun q7 =>
 nret (Sum.inl ((q3 ++ [i13]), q7))
def P_extract_tree_fill_L6 (q0b : List (T_extract_step × Bool)) : (List Nat × List (T_rules_Spot × List T_extract_step) × List (T_rules_Spot × Int)) → Nd ((List Nat × List (T_rules_Spot × List T_extract_step) × List (T_rules_Spot × Int)) ⊕ (List (T_rules_Spot × List T_extract_step) × List (T_rules_Spot × Int))) := fun (q4, q3, q2) =>
 nnx (q0b.length) q4 (
  nret (Sum.inr (q3, q2))) fun i38 =>
 nlv (gt q0b i38) fun e40 =>
 nlv (mget (T_rules_Spot.mk e40.1.fa.Layer e40.1.fa.X e40.1.fa.Y) q3 []) fun q6 =>
 nlv (mput (T_rules_Spot.mk e40.1.fa.Layer e40.1.fa.X e40.1.fa.Y) q6 q3) fun q0f =>
 nlv (q6 ++ [e40.1]) fun q7 =>
 nck (apOk 48 q7.length) <|
 nlv (mput (T_rules_Spot.mk e40.1.fa.Layer e40.1.fa.X e40.1.fa.Y) q7 q0f) fun q8 =>
 nlv (mget (T_rules_Spot.mk e40.1.fb.Layer e40.1.fb.X e40.1.fb.Y) q8 []) fun q9 =>
 nlv (mput (T_rules_Spot.mk e40.1.fb.Layer e40.1.fb.X e40.1.fb.Y) q9 q8) fun q0g =>
 nlv (q9 ++ [e40.1]) fun q0a =>
 nck (apOk 48 q0a.length) <|
 nlv (mput (T_rules_Spot.mk e40.1.fb.Layer e40.1.fb.X e40.1.fb.Y) q0a q0g) fun q0d =>
 nbd (
  if e40.1.fa.Layer ≠ e40.1.fb.Layer then
   nlv (mget (T_rules_Spot.mk e40.1.fa.Layer e40.1.fa.X e40.1.fa.Y) q2 0) fun x79 =>
   nar (x79 + 1) fun x80 =>
   nlv (mget (T_rules_Spot.mk e40.1.fa.Layer e40.1.fa.X e40.1.fa.Y) q2 0) fun x81 =>
   nlv (mput (T_rules_Spot.mk e40.1.fa.Layer e40.1.fa.X e40.1.fa.Y) x81 q2) fun q0e =>
   nlv (mput (T_rules_Spot.mk e40.1.fa.Layer e40.1.fa.X e40.1.fa.Y) x80 q0e) fun q0c =>
   nret q0c
  else
   nret q2) fun q5 =>
 nret (Sum.inl ((q4 ++ [i38]), q0d, q5))
def P_extract_tree_fill (q0a : Int) (q0b : Int) (q0c : Int) (q0d : Int) (q0e : List T_rules_Wire) (q0f : List T_rules_Via) (q0g : List T_rules_Pin) (q0h : List T_floor_Wall) (q5 : List (T_rules_Spot × List T_extract_step)) (q6 : List (T_rules_Spot × Int)) (q9 : List (T_rules_Spot × Int)) (q7 : List (T_rules_Spot × Bool)) (q8 : List (T_extract_step × Bool)) (others2 : List (T_rules_Spot × Bool)) (near3 : Int) : Nd (List (T_rules_Spot × List T_extract_step) × List (T_rules_Spot × Int)) :=
 nbd (
  nlp (P_extract_tree_fill_L2 q7 others2 near3) fuel ([], q6)) fun q2 =>
 nbd (
  nlp (P_extract_tree_fill_L6 q8) fuel ([], q5, q2)) fun (q3, q4) =>
 nret (q3, q4)
theorem c_extract_tree_fill {w0 w : World} {l : List Assn} {ρ : Heap} {q4 : Nat} {q0b : Option Addr} {q2r : Nat} {c_t0_4 : Nat} {q0c : Option Addr} {q2s : Nat} {c_t0_5 : Nat} {q0d : Option Addr} {q2t : Nat} {c_t0_6 : Nat} {q0e : Option Addr} {q2u : Nat} {c_t0_7 : Nat} {q3 : Nat} {q2 : Nat} {q5 : Nat} {q0f : Nat} {q0a : Nat} {q8 : Nat} {q0l : Int} {q0m : Int} {q0n : Int} {q0o : Int} {q0p : List T_rules_Wire} {q0q : List T_rules_Via} {q0r : List T_rules_Pin} {q0s : List T_floor_Wall} {q21 : List (T_rules_Spot × List T_extract_step)} {q38 : List (T_rules_Spot × Int)} {q0z : List (T_rules_Spot × Int)} {q12 : List (T_rules_Spot × Bool)} {q0u : List (T_extract_step × Bool)} {others2 : List (T_rules_Spot × Bool)} {near3 : Int} {Q : (List (T_rules_Spot × List T_extract_step) × List (T_rules_Spot × Int)) → Prop} (hF : P_extract_tree_fill q0l q0m q0n q0o q0p q0q q0r q0s q21 q38 q0z q12 q0u others2 near3 Q) (q3g : RdS R_rules_Wire ρ q0b q2r c_t0_4 q0p) (q3h : RdS R_rules_Via ρ q0c q2s c_t0_5 q0q) (q3i : RdS R_rules_Pin ρ q0d q2t c_t0_6 q0r) (q3j : RdS R_floor_Wall ρ q0e q2u c_t0_7 q0s) (hS : St w0 w (cells q4 82 [.int .i64 q0l, .int .i64 q0m, .int .i64 q0n, .int .i64 q0o, .slice q0b q2r c_t0_4, .slice q0c q2s c_t0_5, .slice q0d q2t c_t0_6, .slice q0e q2u c_t0_7, .map (some q3), .map (some q2), .map (some q5)] :: mapS 94 R_extract_step q3 kf_61 q21 :: mapA q2 kf_61 (Value.int .i64) q38 :: mapA q5 kf_61 (Value.int .i64) q0z :: mapA q0f kf_61 Value.bool q12 :: mapA q0a kf_94 Value.bool q0u :: mapA q8 kf_61 Value.bool others2 :: ro ρ :: l)) :
  Calls Try.prog 36 #[.pointer (some ⟨q4, 0, none⟩), .agg #[.map (some q0f), .map (some q0a)], .map (some q8), .int .i64 near3] w fun e w' => ∃ r : (List (T_rules_Spot × List T_extract_step) × List (T_rules_Spot × Int)), Q r ∧ e = .returned (.tuple #[]) ∧ St w0 w' (cells q4 82 [.int .i64 q0l, .int .i64 q0m, .int .i64 q0n, .int .i64 q0o, .slice q0b q2r c_t0_4, .slice q0c q2s c_t0_5, .slice q0d q2t c_t0_6, .slice q0e q2u c_t0_7, .map (some q3), .map (some q2), .map (some q5)] :: mapS 94 R_extract_step q3 kf_61 r.1 :: mapA q2 kf_61 (Value.int .i64) r.2 :: mapA q5 kf_61 (Value.int .i64) q0z :: mapA q0f kf_61 Value.bool q12 :: mapA q0a kf_94 Value.bool q0u :: mapA q8 kf_61 Value.bool others2 :: ro ρ :: l) := by
 have e_ := q3g.n; subst e_
 have e_ := q3h.n; subst e_
 have e_ := q3i.n; subst e_
 have e_ := q3j.n; subst e_
 refine enterC Try.func36 rfl 83 rfl (by simp) ?_
 refine x_seq <| x_region <| ?_
 refine o_box (cs := [.map (some q0f), .map (some q0a)]) rfl rfl hS (fun b5 w' hS => ?_)
 refine x_done <| x_seq <| x_seq <| x_region <|
  p (yl_field0 fld_87_0 rfl) <| pa (at_load one_84 rfl (hS.cell rfl)) <| ?_
 refine o_range um_84 rfl (hS.pull 5) (fun b12 w' hS => ?_)
 refine x_done <| ?_
 replace hF := nbd_j hF; obtain ⟨oL2, hLL2, hF⟩ := hF
 refine x_join (fun E w => ∃ (q18 : List (T_rules_Spot × Int)), oL2 q18 ∧ E 0 = .pointer (some ⟨q4, 0, none⟩) ∧ E 5 = .pointer (some ⟨b5, 0, none⟩) ∧ St w0 w (cells q4 82 [.int .i64 q0l, .int .i64 q0m, .int .i64 q0n, .int .i64 q0o, .slice q0b q0p.length c_t0_4, .slice q0c q0q.length c_t0_5, .slice q0d q0r.length c_t0_6, .slice q0e q0s.length c_t0_7, .map (some q3), .map (some q2), .map (some q5)] :: cells b5 87 [.map (some q0f), .map (some q0a)] :: mapS 94 R_extract_step q3 kf_61 q21 :: mapA q2 kf_61 (Value.int .i64) q18 :: mapA q5 kf_61 (Value.int .i64) q0z :: mapA q0f kf_61 Value.bool q12 :: mapA q0a kf_94 Value.bool q0u :: mapA q8 kf_61 Value.bool others2 :: ro ρ :: l)) ?_ ?_
 ·refine x_block ?_
  refine x_loop (fun k_ E w => ∃ (q1d : List Nat) (q9 : List (T_rules_Spot × Int)), nlp (P_extract_tree_fill_L2 q12 others2 near3) k_ (q1d, q9) oL2 ∧ E 0 = .pointer (some ⟨q4, 0, none⟩) ∧ E 2 = .map (some q8) ∧ E 3 = .int .i64 near3 ∧ E 5 = .pointer (some ⟨b5, 0, none⟩) ∧ E 12 = .pointer (some ⟨b12, 0, none⟩) ∧ St w0 w (cells q4 82 [.int .i64 q0l, .int .i64 q0m, .int .i64 q0n, .int .i64 q0o, .slice q0b q0p.length c_t0_4, .slice q0c q0q.length c_t0_5, .slice q0d q0r.length c_t0_6, .slice q0e q0s.length c_t0_7, .map (some q3), .map (some q2), .map (some q5)] :: mapA q8 kf_61 Value.bool others2 :: cells b5 87 [.map (some q0f), .map (some q0a)] :: mapA q0f kf_61 Value.bool q12 :: itA b12 q0f q12.length q1d :: mapS 94 R_extract_step q3 kf_61 q21 :: mapA q2 kf_61 (Value.int .i64) q9 :: mapA q5 kf_61 (Value.int .i64) q0z :: mapA q0a kf_94 Value.bool q0u :: ro ρ :: l)) fuel ⟨[], q38, hLL2, rfl, rfl, rfl, rfl, rfl, ((((((((((hS.pull 9).pull 8).pull 8).pull 8).pull 8).pull 5).pull 6).pull 7).pull 9).pull 9)⟩ ?_
  rintro kL2 E w ⟨q1d, q9, hLL2, q2v, q33, q34, q35, q22, hS⟩
  replace hLL2 := nlp_s hLL2; obtain ⟨kL2, obL2, rfl, hFL2, hLL2⟩ := hLL2
  refine x_seq <| x_region <|
   o_next q22 ((hS.pull 3).pull 4) (fun q3x w' hS => ?_) (fun i13 q3a q3y w' hS => ?_)
  ·replace hFL2 := nnx_a hFL2 q3x
   refine p (yl_extract rfl rfl) <| x_done <| x_seq <| x_cond_f (show ev _ _ = .bool false from rfl) <|
    x_exitTo _ rfl <| ?_
   exact x_inv ⟨q9, (hLL2 _ hFL2), q2v, q35, (((((((((hS.drop.pull 8).pull 3).pull 8).pull 3).pull 8).pull 8).pull 8).pull 8).pull 8)⟩
  ·replace hFL2 := nnx_k hFL2 q3a q3y
   replace hFL2 := nlv_s hFL2; obtain ⟨e15, he15, hFL2⟩ := hFL2
   refine p (yl_extract rfl rfl) <| x_done <| x_seq <| x_cond_t (show ev _ _ = .bool true from rfl) <|
    x_skip <| x_block <| x_seq <| x_region <|
    pa (at_entry (kf := kf_61) (vf := Value.bool) q22 q3a ((hS.pull 1).pull 1) he15) <| p (yl_extract rfl rfl) <| ?_
   refine o_alloc zero_61 hS (fun b8 w' hS => ?_)
   refine o_storeAgg (news := [.int .i64 e15.1.Layer, .int .i64 e15.1.X, .int .i64 e15.1.Y]) agg_61 rfl rfl rfl (by simp [over_length]) hS (fun w' hS => ?_)
   refine x_done <| ?_
   replace hFL2 := nlv_s hFL2; obtain ⟨x22, hx22, hFL2⟩ := hFL2
   replace hFL2 := nbd_s hFL2; obtain ⟨q39, q3z, hFL2⟩ := hFL2
   replace hFL2 := nbd_s hFL2; obtain ⟨q2z, q3k, hFL2⟩ := hFL2
   replace hFL2 := nar_s hFL2; obtain ⟨x30, hx30, hFL2⟩ := hFL2
   replace hFL2 := nar_s hFL2; obtain ⟨x31, hx31, hFL2⟩ := hFL2
   replace hFL2 := nar_s hFL2; obtain ⟨x32, hx32, hFL2⟩ := hFL2
   replace hFL2 := nlv_s hFL2; obtain ⟨x33, hx33, hFL2⟩ := hFL2
   replace hFL2 := nlv_s hFL2; obtain ⟨q30, q2w, hFL2⟩ := hFL2
   replace hFL2 := nlv_s hFL2; obtain ⟨q31, q3l, hFL2⟩ := hFL2
   refine x_par (w0 := w0) [⟨[], [], [17], [], [], [], none⟩, ⟨[0], [0], [18], [], [], [], none⟩, ⟨[0, 1], [1], [19], [], [], [], none⟩, ⟨[0, 1, 2], [2], [20], [0], [], [], none⟩, ⟨[], [], [21], [1], [], [], none⟩, ⟨[0, 1, 2, 3, 4], [3, 4], [22], [], [], [], some (2, 5)⟩, ⟨[], [], [23], [], [], [], none⟩, ⟨[6], [6], [24], [1], [], [], none⟩, ⟨[6, 7], [7], [25], [3], [], [], none⟩, ⟨[], [], [26], [], [], [], none⟩, ⟨[], [], [27], [], [], [], none⟩, ⟨[], [], [28], [1], [], [], none⟩, ⟨[6, 7, 8, 10, 11], [10, 11], [29], [4, 3], [], [], none⟩, ⟨[6, 7, 8, 9, 10, 11, 12], [9, 12], [30], [], [], [], none⟩, ⟨[6, 7, 8, 9, 10, 11, 12, 13], [8, 13], [31], [], [], [], none⟩, ⟨[0, 1, 2, 3, 4, 5, 6, 7, 8, 9, 10, 11, 12, 13, 14], [5, 14], [32], [], [], [], none⟩, ⟨[0, 1, 2, 3, 4, 6, 7, 8, 9, 10, 11, 12, 13, 14], [3, 4], [33], [], [2], [5], none⟩, ⟨[0, 1, 2, 3, 4, 6, 7, 8, 9, 10, 11, 12, 13, 14, 16], [16], [34], [], [], [], none⟩, ⟨[0, 1, 2, 3, 4, 5, 6, 7, 8, 9, 10, 11, 12, 13, 14, 15, 16, 17], [3, 15, 17], [], [], [5], [6], none⟩] [⟨none, none, []⟩, ⟨none, none, []⟩, ⟨none, (some 16), []⟩, ⟨none, none, []⟩, ⟨none, none, []⟩, ⟨(some 16), (some 18), []⟩, ⟨(some 18), none, []⟩] [17, 18, 19, 20, 21, 22, 23, 24, 25, 26, 27, 28, 29, 30, 31, 32, 33, 34] [0, 1, 2, 3, 4] [0, 1, 3, 4, 6] [0, 1, 2, 3, 4, 5, 6, 7, 8, 9, 10, 11, 12, 13, 14, 15, 16, 17] [fun Ep4 => Ep4 17 = .pointer (some ⟨q4, 0, none⟩), fun Ep4 => Ep4 18 = .pointer (some ⟨q4, 0, none⟩), fun Ep4 => Ep4 19 = .pointer (some ⟨q4, 9, none⟩), fun Ep4 => Ep4 20 = .map (some q2), fun Ep4 => Ep4 21 = .agg #[.int .i64 e15.1.Layer, .int .i64 e15.1.X, .int .i64 e15.1.Y], fun Ep4 => Ep4 22 = .int .i64 x22, fun Ep4 => Ep4 23 = .pointer (some ⟨b8, 0, none⟩), fun Ep4 => Ep4 24 = .int .i64 e15.1.Layer, fun Ep4 => Ep4 25 = .int .i64 q39, fun Ep4 => Ep4 26 = .int .i64 near3, fun Ep4 => Ep4 27 = .map (some q8), fun Ep4 => Ep4 28 = .agg #[.int .i64 e15.1.Layer, .int .i64 e15.1.X, .int .i64 e15.1.Y], fun Ep4 => Ep4 29 = .int .i64 q2z, fun Ep4 => Ep4 30 = .int .i64 x30, fun Ep4 => Ep4 31 = .int .i64 x31, fun Ep4 => Ep4 32 = .int .i64 x32, fun Ep4 => Ep4 33 = .tuple #[.int .i64 x33, .int .i64 ((mpos e15.1 q9 : Nat) : Int)], fun Ep4 => Ep4 34 = .int .i64 ((mpos e15.1 q9 : Nat) : Int), fun Ep4 => True] [fun Ep4 => cells q4 82 [.int .i64 q0l, .int .i64 q0m, .int .i64 q0n, .int .i64 q0o, .slice q0b q0p.length c_t0_4, .slice q0c q0q.length c_t0_5, .slice q0d q0r.length c_t0_6, .slice q0e q0s.length c_t0_7, .map (some q3), .map (some q2), .map (some q5)], fun Ep4 => cells b8 61 [.int .i64 e15.1.Layer, .int .i64 e15.1.X, .int .i64 e15.1.Y], fun Ep4 => mapA q2 kf_61 (Value.int .i64) q9, fun Ep4 => ro ρ, fun Ep4 => mapA q8 kf_61 Value.bool others2, fun Ep4 => mapA q2 kf_61 (Value.int .i64) q30, fun Ep4 => mapA q2 kf_61 (Value.int .i64) q31] mixed (by kernel_rfl) (((((hS.pull 4).pull 10).pull 8).pull 3).pull 6) ?_ ?_
   ·refine ⟨?_, ?_, ?_, ?_, ?_, ?_, ?_, ?_, ?_, ?_, ?_, ?_, ?_, ?_, ?_, ?_, ?_, ?_, ?_, trivial⟩
    ·intro Ep4 w l' hE4 hO4 hF_ hS
     refine p (yl_move ((hE4 0 rfl).trans q2v)) <| x_done <| ?_
     refine x_fin ⟨⟨_, rfl⟩, rfl, ?_⟩
     exact emk hS
    ·intro Ep4 w l' hE4 hO4 hF_ hS
     obtain ⟨q23, -⟩ := hF_
     replace q23 : Ep4 17 = .pointer (some ⟨q4, 0, none⟩) := emk q23
     refine p (yl_nilCheck q23) <| x_done <| ?_
     refine x_fin ⟨⟨_, rfl⟩, rfl, ?_⟩
     exact emk hS
    ·intro Ep4 w l' hE4 hO4 hF_ hS
     obtain ⟨q24, -⟩ := hF_
     replace q24 : Ep4 18 = .pointer (some ⟨q4, 0, none⟩) := emk q24
     refine p (yl_field0 fld_82_2 q24) <| x_done <| ?_
     refine x_fin ⟨⟨_, rfl⟩, rfl, ?_⟩
     exact emk hS
    ·intro Ep4 w l' hE4 hO4 hF_ hS
     obtain ⟨q25, -⟩ := hF_
     replace q25 : Ep4 19 = .pointer (some ⟨q4, 9, none⟩) := emk q25
     replace hS : St w0 w (cells q4 82 [.int .i64 q0l, .int .i64 q0m, .int .i64 q0n, .int .i64 q0o, .slice q0b q0p.length c_t0_4, .slice q0c q0q.length c_t0_5, .slice q0d q0r.length c_t0_6, .slice q0e q0s.length c_t0_7, .map (some q3), .map (some q2), .map (some q5)] :: l') := emk hS
     refine pa (at_load one_80 q25 (hS.cell rfl)) <| x_done <| ?_
     refine x_fin ⟨⟨_, rfl⟩, rfl, ?_⟩
     exact emk hS
    ·intro Ep4 w l' hE4 hO4 hF_ hS
     replace hS : St w0 w (cells b8 61 [.int .i64 e15.1.Layer, .int .i64 e15.1.X, .int .i64 e15.1.Y] :: l') := emk hS
     refine pa (v := .agg #[.int .i64 e15.1.Layer, .int .i64 e15.1.X, .int .i64 e15.1.Y]) (ld_sub agg_61 (hE4 8 rfl) rfl rfl hS) <| x_done <| ?_
     refine x_fin ⟨⟨_, rfl⟩, rfl, ?_⟩
     exact emk hS
    ·refine ⟨?_, ?_⟩
     ·intro Ep4 w l' hE4 hO4 hF_ hS
      obtain ⟨q0v, q14, -⟩ := hF_
      replace q0v : Ep4 20 = .map (some q2) := emk q0v
      replace q14 : Ep4 21 = .agg #[.int .i64 e15.1.Layer, .int .i64 e15.1.X, .int .i64 e15.1.Y] := emk q14
      replace hS : St w0 w (mapA q2 kf_61 (Value.int .i64) q9 :: l') := emk hS
      refine pa (at_look (k := e15.1) um_80 kp_61 (zero1 zv_3) q0v q14 hS hx22) <| x_done <| ?_
      refine x_fin ⟨⟨_, rfl⟩, rfl, ?_⟩
      exact emk hS
     ·intro Ep4 w l' hE4 hO4 hF_ hS
      obtain ⟨q0v, q14, -⟩ := hF_
      replace q0v : Ep4 20 = .map (some q2) := emk q0v
      replace q14 : Ep4 21 = .agg #[.int .i64 e15.1.Layer, .int .i64 e15.1.X, .int .i64 e15.1.Y] := emk q14
      replace hS : St w0 w (mapA q2 kf_61 (Value.int .i64) q30 :: l') := emk hS
      refine pa (at_look (k := e15.1) um_80 kp_61 (zero1 zv_3) q0v q14 hS (hx22.trans (mget_ent q2w hx33).symm)) <| x_done <| ?_
      refine x_fin ⟨⟨_, rfl⟩, rfl, ?_⟩
      exact emk hS
    ·intro Ep4 w l' hE4 hO4 hF_ hS
     refine p (yl_field0 fld_61_0 (hE4 8 rfl)) <| x_done <| ?_
     refine x_fin ⟨⟨_, rfl⟩, rfl, ?_⟩
     exact emk hS
    ·intro Ep4 w l' hE4 hO4 hF_ hS
     obtain ⟨q26, -⟩ := hF_
     replace q26 : Ep4 23 = .pointer (some ⟨b8, 0, none⟩) := emk q26
     replace hS : St w0 w (cells b8 61 [.int .i64 e15.1.Layer, .int .i64 e15.1.X, .int .i64 e15.1.Y] :: l') := emk hS
     refine pa (at_load one_3 q26 (hS.cell rfl)) <| x_done <| ?_
     refine x_fin ⟨⟨_, rfl⟩, rfl, ?_⟩
     exact emk hS
    ·intro Ep4 w l' hE4 hO4 hF_ hS
     obtain ⟨q27, -⟩ := hF_
     replace q27 : Ep4 24 = .int .i64 e15.1.Layer := emk q27
     replace hS : St w0 w (ro ρ :: l') := emk hS
     have hcall := c_extract_capacitance q3z  hS
     refine o_cc call_40 (args1 q27) (hcall) ?_
     rintro e w' ⟨rfl, hS⟩
     refine ⟨_, rfl, ?_⟩
     refine x_done <| ?_
     refine x_fin ⟨⟨_, rfl⟩, rfl, ?_⟩
     exact emk hS
    ·intro Ep4 w l' hE4 hO4 hF_ hS
     refine p (yl_move ((hE4 3 rfl).trans q34)) <| x_done <| ?_
     refine x_fin ⟨⟨_, rfl⟩, rfl, ?_⟩
     exact emk hS
    ·intro Ep4 w l' hE4 hO4 hF_ hS
     refine p (yl_move ((hE4 2 rfl).trans q33)) <| x_done <| ?_
     refine x_fin ⟨⟨_, rfl⟩, rfl, ?_⟩
     exact emk hS
    ·intro Ep4 w l' hE4 hO4 hF_ hS
     replace hS : St w0 w (cells b8 61 [.int .i64 e15.1.Layer, .int .i64 e15.1.X, .int .i64 e15.1.Y] :: l') := emk hS
     refine pa (v := .agg #[.int .i64 e15.1.Layer, .int .i64 e15.1.X, .int .i64 e15.1.Y]) (ld_sub agg_61 (hE4 8 rfl) rfl rfl hS) <| x_done <| ?_
     refine x_fin ⟨⟨_, rfl⟩, rfl, ?_⟩
     exact emk hS
    ·intro Ep4 w l' hE4 hO4 hF_ hS
     obtain ⟨q1f, q1g, -⟩ := hF_
     replace q1f : Ep4 27 = .map (some q8) := emk q1f
     replace q1g : Ep4 28 = .agg #[.int .i64 e15.1.Layer, .int .i64 e15.1.X, .int .i64 e15.1.Y] := emk q1g
     replace hS : St w0 w (mapA q8 kf_61 Value.bool others2 :: ro ρ :: l') := emk hS
     have hcall := c_extract_beside q3k  hS
     refine o_cc call_41 (args2 q1f q1g) (hcall) ?_
     rintro e w' ⟨rfl, hS⟩
     refine ⟨_, rfl, ?_⟩
     refine x_done <| ?_
     refine x_fin ⟨⟨_, rfl⟩, rfl, ?_⟩
     exact emk ((hS.pull 1).pull 1)
    ·intro Ep4 w l' hE4 hO4 hF_ hS
     obtain ⟨q28, q1h, -⟩ := hF_
     replace q28 : Ep4 26 = .int .i64 near3 := emk q28
     replace q1h : Ep4 29 = .int .i64 q2z := emk q1h
     refine p (ymul q28 q1h hx30) <| x_done <| ?_
     refine x_fin ⟨⟨_, rfl⟩, rfl, ?_⟩
     exact emk hS
    ·intro Ep4 w l' hE4 hO4 hF_ hS
     obtain ⟨q29, q1i, -⟩ := hF_
     replace q29 : Ep4 25 = .int .i64 q39 := emk q29
     replace q1i : Ep4 30 = .int .i64 x30 := emk q1i
     refine p (yadd q29 q1i hx31) <| x_done <| ?_
     refine x_fin ⟨⟨_, rfl⟩, rfl, ?_⟩
     exact emk hS
    ·intro Ep4 w l' hE4 hO4 hF_ hS
     obtain ⟨q2a, q1j, -⟩ := hF_
     replace q2a : Ep4 22 = .int .i64 x22 := emk q2a
     replace q1j : Ep4 31 = .int .i64 x31 := emk q1j
     refine p (yadd q2a q1j hx32) <| x_done <| ?_
     refine x_fin ⟨⟨_, rfl⟩, rfl, ?_⟩
     exact emk hS
    ·intro Ep4 w l' hE4 hO4 hF_ hS
     obtain ⟨q0v, q14, -⟩ := hF_
     replace q0v : Ep4 20 = .map (some q2) := emk q0v
     replace q14 : Ep4 21 = .agg #[.int .i64 e15.1.Layer, .int .i64 e15.1.X, .int .i64 e15.1.Y] := emk q14
     replace hS : St w0 w (mapA q2 kf_61 (Value.int .i64) q9 :: l') := emk hS
     refine o_mapEntry (k := e15.1) (vf := (Value.int .i64)) um_80 kp_61 (zero1 zv_3) q0v q14 hS hx33 q2w (fun w' hS => ?_)
     refine x_done <| ?_
     refine x_fin ⟨⟨_, rfl⟩, rfl, ?_⟩
     exact emk hS
    ·intro Ep4 w l' hE4 hO4 hF_ hS
     obtain ⟨q1k, -⟩ := hF_
     replace q1k : Ep4 33 = .tuple #[.int .i64 x33, .int .i64 ((mpos e15.1 q9 : Nat) : Int)] := emk q1k
     refine p (yl_extract q1k rfl) <| x_done <| ?_
     refine x_fin ⟨⟨_, rfl⟩, rfl, ?_⟩
     exact emk hS
    ·intro Ep4 w l' hE4 hO4 hF_ hS
     obtain ⟨q0v, q1l, q1m, -⟩ := hF_
     replace q0v : Ep4 20 = .map (some q2) := emk q0v
     replace q1l : Ep4 32 = .int .i64 x32 := emk q1l
     replace q1m : Ep4 34 = .int .i64 ((mpos e15.1 q9 : Nat) : Int) := emk q1m
     replace hS : St w0 w (mapA q2 kf_61 (Value.int .i64) q30 :: l') := emk hS
     refine o_entryStore (k := e15.1) (es := q9) (v0 := x33) (vf := (Value.int .i64)) (v := x32) q0v q1m q1l rfl q2w hS q3l (fun w' hS => ?_)
     refine x_done <| ?_
     refine x_fin ⟨⟨undef, rfl⟩, trivial, ?_⟩
     exact emk hS
   intro Ep4 w' hE4 hF_ hS
   obtain ⟨q23, q24, q25, q0v, q14, q2a, q26, q27, q29, q28, q1f, q1g, q1h, q1i, q1j, q1l, q1k, q1m, -⟩ := hF_
   replace q23 : Ep4 17 = .pointer (some ⟨q4, 0, none⟩) := emk q23
   replace q24 : Ep4 18 = .pointer (some ⟨q4, 0, none⟩) := emk q24
   replace q25 : Ep4 19 = .pointer (some ⟨q4, 9, none⟩) := emk q25
   replace q0v : Ep4 20 = .map (some q2) := emk q0v
   replace q14 : Ep4 21 = .agg #[.int .i64 e15.1.Layer, .int .i64 e15.1.X, .int .i64 e15.1.Y] := emk q14
   replace q2a : Ep4 22 = .int .i64 x22 := emk q2a
   replace q26 : Ep4 23 = .pointer (some ⟨b8, 0, none⟩) := emk q26
   replace q27 : Ep4 24 = .int .i64 e15.1.Layer := emk q27
   replace q29 : Ep4 25 = .int .i64 q39 := emk q29
   replace q28 : Ep4 26 = .int .i64 near3 := emk q28
   replace q1f : Ep4 27 = .map (some q8) := emk q1f
   replace q1g : Ep4 28 = .agg #[.int .i64 e15.1.Layer, .int .i64 e15.1.X, .int .i64 e15.1.Y] := emk q1g
   replace q1h : Ep4 29 = .int .i64 q2z := emk q1h
   replace q1i : Ep4 30 = .int .i64 x30 := emk q1i
   replace q1j : Ep4 31 = .int .i64 x31 := emk q1j
   replace q1l : Ep4 32 = .int .i64 x32 := emk q1l
   replace q1k : Ep4 33 = .tuple #[.int .i64 x33, .int .i64 ((mpos e15.1 q9 : Nat) : Int)] := emk q1k
   replace q1m : Ep4 34 = .int .i64 ((mpos e15.1 q9 : Nat) : Int) := emk q1m
   replace hS : St w0 w' (cells q4 82 [.int .i64 q0l, .int .i64 q0m, .int .i64 q0n, .int .i64 q0o, .slice q0b q0p.length c_t0_4, .slice q0c q0q.length c_t0_5, .slice q0d q0r.length c_t0_6, .slice q0e q0s.length c_t0_7, .map (some q3), .map (some q2), .map (some q5)] :: cells b8 61 [.int .i64 e15.1.Layer, .int .i64 e15.1.X, .int .i64 e15.1.Y] :: ro ρ :: mapA q8 kf_61 Value.bool others2 :: mapA q2 kf_61 (Value.int .i64) q31 :: (itA b12 q0f q12.length (q1d ++ [i13]) :: mapA q0f kf_61 Value.bool q12 :: cells b5 87 [.map (some q0f), .map (some q0a)] :: mapS 94 R_extract_step q3 kf_61 q21 :: mapA q5 kf_61 (Value.int .i64) q0z :: mapA q0a kf_94 Value.bool q0u :: l)) := emk hS
   refine x_blk <| ?_
   exact x_inv ⟨kL2, Nat.lt_succ_self _, (q1d ++ [i13]), q31, (hLL2 _ hFL2), ((hE4 0 rfl).trans q2v), ((hE4 2 rfl).trans q33), ((hE4 3 rfl).trans q34), ((hE4 5 rfl).trans q35), ((hE4 12 rfl).trans q22), (((((((((((hS.pull 1).drop.pull 1).pull 9).pull 9).pull 5).pull 9).pull 7).pull 8).pull 9).pull 9).pull 9)⟩
 rintro E w ⟨q18, hq_, q40, q41, hS⟩
 replace hF := hF _ hq_
 clear hq_
 refine x_seq <| x_region <| p (yl_field0 fld_87_1 q41) <| pa (at_load one_85 rfl ((hS.pull 1).cell rfl)) <| ?_
 refine o_range um_85 rfl (hS.pull 6) (fun b37 w' hS => ?_)
 refine x_done <| ?_
 replace hF := nbd_j hF; obtain ⟨oL6, hLL6, hF⟩ := hF
 refine x_join (fun E w => ∃ (q19 : List (T_rules_Spot × List T_extract_step)) (q1a : List (T_rules_Spot × Int)), oL6 (q19, q1a) ∧ St w0 w (cells q4 82 [.int .i64 q0l, .int .i64 q0m, .int .i64 q0n, .int .i64 q0o, .slice q0b q0p.length c_t0_4, .slice q0c q0q.length c_t0_5, .slice q0d q0r.length c_t0_6, .slice q0e q0s.length c_t0_7, .map (some q3), .map (some q2), .map (some q5)] :: mapS 94 R_extract_step q3 kf_61 q19 :: mapA q2 kf_61 (Value.int .i64) q1a :: mapA q5 kf_61 (Value.int .i64) q0z :: mapA q0f kf_61 Value.bool q12 :: mapA q0a kf_94 Value.bool q0u :: mapA q8 kf_61 Value.bool others2 :: ro ρ :: l)) ?_ ?_
 ·refine x_block ?_
  refine x_loop (fun k_ E w => ∃ (q13 : List Nat) (q6 : List (T_rules_Spot × List T_extract_step)) (q7 : List (T_rules_Spot × Int)), nlp (P_extract_tree_fill_L6 q0u) k_ (q13, q6, q7) oL6 ∧ E 0 = .pointer (some ⟨q4, 0, none⟩) ∧ E 37 = .pointer (some ⟨b37, 0, none⟩) ∧ St w0 w (cells q4 82 [.int .i64 q0l, .int .i64 q0m, .int .i64 q0n, .int .i64 q0o, .slice q0b q0p.length c_t0_4, .slice q0c q0q.length c_t0_5, .slice q0d q0r.length c_t0_6, .slice q0e q0s.length c_t0_7, .map (some q3), .map (some q2), .map (some q5)] :: mapA q0a kf_94 Value.bool q0u :: itA b37 q0a q0u.length q13 :: mapS 94 R_extract_step q3 kf_61 q6 :: mapA q2 kf_61 (Value.int .i64) q7 :: mapA q5 kf_61 (Value.int .i64) q0z :: mapA q0f kf_61 Value.bool q12 :: mapA q8 kf_61 Value.bool others2 :: ro ρ :: l)) fuel ⟨[], q21, q18, hLL6, q40, rfl, ((((((((((hS.pull 3).drop.pull 8).pull 8).pull 8).pull 8).pull 8).pull 8).pull 6).pull 7).pull 8)⟩ ?_
  rintro kL6 E w ⟨q13, q6, q7, hLL6, q1e, q1n, hS⟩
  replace hLL6 := nlp_s hLL6; obtain ⟨kL6, obL6, rfl, hFL6, hLL6⟩ := hLL6
  refine x_seq <| x_region <|
   o_next q1n ((hS.pull 1).pull 2) (fun q42 w' hS => ?_) (fun i38 q3b q43 w' hS => ?_)
  ·replace hFL6 := nnx_a hFL6 q42
   refine p (yl_extract rfl rfl) <| x_done <| x_seq <| x_cond_f (show ev _ _ = .bool false from rfl) <|
    x_exitTo _ rfl <| ?_
   exact x_inv ⟨q6, q7, (hLL6 _ hFL6), ((((((((hS.drop.pull 7).pull 7).pull 2).pull 7).pull 7).pull 7).pull 7).pull 7)⟩
  ·replace hFL6 := nnx_k hFL6 q3b q43
   replace hFL6 := nlv_s hFL6; obtain ⟨e40, he40, hFL6⟩ := hFL6
   refine p (yl_extract rfl rfl) <| x_done <| x_seq <| x_cond_t (show ev _ _ = .bool true from rfl) <|
    x_skip <| x_block <| x_seq <| x_region <|
    pa (at_entry (kf := kf_94) (vf := Value.bool) q1n q3b ((hS.pull 1).pull 1) he40) <| p (yl_extract rfl rfl) <| ?_
   refine o_alloc zero_94 hS (fun b9 w' hS => ?_)
   refine o_storeAgg (news := [.int .i64 e40.1.fa.Layer, .int .i64 e40.1.fa.X, .int .i64 e40.1.fa.Y, .int .i64 e40.1.fb.Layer, .int .i64 e40.1.fb.X, .int .i64 e40.1.fb.Y]) agg_94 rfl rfl rfl (by simp [over_length]) hS (fun w' hS => ?_)
   refine x_done <| x_seq <| ?_
   replace hFL6 := nlv_s hFL6; obtain ⟨q0g, q36, hFL6⟩ := hFL6
   replace hFL6 := nlv_s hFL6; obtain ⟨q3m, q3c, hFL6⟩ := hFL6
   replace hFL6 := nlv_s hFL6; obtain ⟨q10, q3n, hFL6⟩ := hFL6
   replace hFL6 := nck_s hFL6; obtain ⟨q3o, hFL6⟩ := hFL6
   replace hFL6 := nlv_s hFL6; obtain ⟨q0t, q3p, hFL6⟩ := hFL6
   refine x_par (w0 := w0) [⟨[], [], [42], [], [], [], none⟩, ⟨[0], [0], [43], [], [], [], none⟩, ⟨[0, 1], [1], [44], [], [], [], none⟩, ⟨[0, 1, 2], [2], [45], [0], [], [], none⟩, ⟨[], [], [46], [], [], [], none⟩, ⟨[4], [4], [47], [1], [], [], none⟩, ⟨[], [], [49], [1], [], [], none⟩, ⟨[6], [6], [50], [], [], [2], none⟩, ⟨[0, 1, 2, 3, 4, 5, 6, 7], [3, 5], [51], [], [3], [4, 5], none⟩, ⟨[0, 1, 2, 3, 4, 5, 6, 7, 8], [8], [48, 51], [], [], [], none⟩, ⟨[0, 1, 2, 3, 4, 5, 6, 7, 8, 9], [7, 8, 9], [52], [2, 6], [5], [7], none⟩, ⟨[0, 1, 2, 3, 4, 5, 6, 7, 8], [8], [53], [], [], [], none⟩, ⟨[0, 1, 2, 3, 4, 5, 6, 7, 8, 9, 10, 11], [3, 8, 10, 11], [], [6], [4, 7], [8, 9], none⟩] [⟨none, none, []⟩, ⟨none, none, []⟩, ⟨(some 7), none, [50]⟩, ⟨none, (some 8), []⟩, ⟨(some 8), (some 12), [51]⟩, ⟨(some 8), (some 10), [51]⟩, ⟨none, none, []⟩, ⟨(some 10), (some 12), [52]⟩, ⟨(some 12), none, []⟩, ⟨(some 12), none, []⟩] [42, 43, 44, 45, 46, 47, 48, 49, 50, 51, 52, 53] [0, 1, 3, 6] [0, 1, 2, 6, 8, 9] [0, 1, 2, 3, 4, 5, 6, 7, 8, 9, 10, 11] [fun Ep8 => Ep8 42 = .pointer (some ⟨q4, 0, none⟩), fun Ep8 => Ep8 43 = .pointer (some ⟨q4, 0, none⟩), fun Ep8 => Ep8 44 = .pointer (some ⟨q4, 8, none⟩), fun Ep8 => Ep8 45 = .map (some q3), fun Ep8 => Ep8 46 = .pointer (some ⟨b9, 0, none⟩), fun Ep8 => Ep8 47 = .agg #[.int .i64 e40.1.fa.Layer, .int .i64 e40.1.fa.X, .int .i64 e40.1.fa.Y], fun Ep8 => Ep8 49 = .agg #[.int .i64 e40.1.fa.Layer, .int .i64 e40.1.fa.X, .int .i64 e40.1.fa.Y, .int .i64 e40.1.fb.Layer, .int .i64 e40.1.fb.X, .int .i64 e40.1.fb.Y], fun Ep8 => Ep8 50 = .slice (some ⟨(blkOf (Ep8 50)), 0, none⟩) 1 1, fun Ep8 => Ep8 51 = .tuple #[.slice (adOf (partOf 0 (Ep8 51))) q0g.length (capOf (partOf 0 (Ep8 51))), .int .i64 ((mpos (T_rules_Spot.mk e40.1.fa.Layer e40.1.fa.X e40.1.fa.Y) q6 : Nat) : Int)], fun Ep8 => Ep8 48 = .slice (adOf (partOf 0 (Ep8 51))) q0g.length (capOf (partOf 0 (Ep8 51))), fun Ep8 => Ep8 52 = .slice (adOf (Ep8 52)) q10.length (capOf (Ep8 52)), fun Ep8 => Ep8 53 = .int .i64 ((mpos (T_rules_Spot.mk e40.1.fa.Layer e40.1.fa.X e40.1.fa.Y) q6 : Nat) : Int), fun Ep8 => True] [fun Ep8 => cells q4 82 [.int .i64 q0l, .int .i64 q0m, .int .i64 q0n, .int .i64 q0o, .slice q0b q0p.length c_t0_4, .slice q0c q0q.length c_t0_5, .slice q0d q0r.length c_t0_6, .slice q0e q0s.length c_t0_7, .map (some q3), .map (some q2), .map (some q5)], fun Ep8 => cells b9 94 [.int .i64 e40.1.fa.Layer, .int .i64 e40.1.fa.X, .int .i64 e40.1.fa.Y, .int .i64 e40.1.fb.Layer, .int .i64 e40.1.fb.X, .int .i64 e40.1.fb.Y], fun Ep8 => cells (blkOf (Ep8 50)) 94 [.int .i64 e40.1.fa.Layer, .int .i64 e40.1.fa.X, .int .i64 e40.1.fa.Y, .int .i64 e40.1.fb.Layer, .int .i64 e40.1.fb.X, .int .i64 e40.1.fb.Y], fun Ep8 => mapS 94 R_extract_step q3 kf_61 q6, fun Ep8 => holeS 94 R_extract_step q3 kf_61 q3m (T_rules_Spot.mk e40.1.fa.Layer e40.1.fa.X e40.1.fa.Y) ⟨(adOf (partOf 0 (Ep8 51))), q0g.length, (capOf (partOf 0 (Ep8 51)))⟩, fun Ep8 => bunA (fun (q0j : List Value) => RepL R_extract_step ρ q0g q0j) (fun (q0j : List Value) => [vec 94 R_extract_step.sz (.slice (adOf (partOf 0 (Ep8 51))) q0g.length (capOf (partOf 0 (Ep8 51)))) q0g.length q0j]), fun Ep8 => ro ρ, fun Ep8 => bunA (fun (cs52 : List Value) => RepL R_extract_step ρ q10 cs52) (fun (cs52 : List Value) => [vec 94 R_extract_step.sz (.slice (adOf (Ep8 52)) q10.length (capOf (Ep8 52))) q10.length cs52]), fun Ep8 => mapS 94 R_extract_step q3 kf_61 q0t, fun Ep8 => bunA (fun (x : Unit) => True) (fun (x : Unit) => [])] mixed (by kernel_rfl) ((((hS.pull 9).pull 5).pull 2).pull 5) ?_ ?_
   ·refine ⟨?_, ?_, ?_, ?_, ?_, ?_, ?_, ?_, ?_, ?_, ?_, ?_, ?_, trivial⟩
    ·intro Ep8 w l' hE8 hO8 hF_ hS
     refine p (yl_move ((hE8 0 rfl).trans q1e)) <| x_done <| ?_
     refine x_fin ⟨⟨_, rfl⟩, rfl, ?_⟩
     exact emk hS
    ·intro Ep8 w l' hE8 hO8 hF_ hS
     obtain ⟨q2b, -⟩ := hF_
     replace q2b : Ep8 42 = .pointer (some ⟨q4, 0, none⟩) := emk q2b
     refine p (yl_nilCheck q2b) <| x_done <| ?_
     refine x_fin ⟨⟨_, rfl⟩, rfl, ?_⟩
     exact emk hS
    ·intro Ep8 w l' hE8 hO8 hF_ hS
     obtain ⟨q2c, -⟩ := hF_
     replace q2c : Ep8 43 = .pointer (some ⟨q4, 0, none⟩) := emk q2c
     refine p (yl_field0 fld_82_1 q2c) <| x_done <| ?_
     refine x_fin ⟨⟨_, rfl⟩, rfl, ?_⟩
     exact emk hS
    ·intro Ep8 w l' hE8 hO8 hF_ hS
     obtain ⟨q2d, -⟩ := hF_
     replace q2d : Ep8 44 = .pointer (some ⟨q4, 8, none⟩) := emk q2d
     replace hS : St w0 w (cells q4 82 [.int .i64 q0l, .int .i64 q0m, .int .i64 q0n, .int .i64 q0o, .slice q0b q0p.length c_t0_4, .slice q0c q0q.length c_t0_5, .slice q0d q0r.length c_t0_6, .slice q0e q0s.length c_t0_7, .map (some q3), .map (some q2), .map (some q5)] :: l') := emk hS
     refine pa (at_load one_79 q2d (hS.cell rfl)) <| x_done <| ?_
     refine x_fin ⟨⟨_, rfl⟩, rfl, ?_⟩
     exact emk hS
    ·intro Ep8 w l' hE8 hO8 hF_ hS
     refine p (yl_field0 fld_94_0 (hE8 9 rfl)) <| x_done <| ?_
     refine x_fin ⟨⟨_, rfl⟩, rfl, ?_⟩
     exact emk hS
    ·intro Ep8 w l' hE8 hO8 hF_ hS
     obtain ⟨q2e, -⟩ := hF_
     replace q2e : Ep8 46 = .pointer (some ⟨b9, 0, none⟩) := emk q2e
     replace hS : St w0 w (cells b9 94 [.int .i64 e40.1.fa.Layer, .int .i64 e40.1.fa.X, .int .i64 e40.1.fa.Y, .int .i64 e40.1.fb.Layer, .int .i64 e40.1.fb.X, .int .i64 e40.1.fb.Y] :: l') := emk hS
     refine pa (v := .agg #[.int .i64 e40.1.fa.Layer, .int .i64 e40.1.fa.X, .int .i64 e40.1.fa.Y]) (ld_sub agg_61 q2e rfl rfl hS) <| x_done <| ?_
     refine x_fin ⟨⟨_, rfl⟩, rfl, ?_⟩
     exact emk hS
    ·intro Ep8 w l' hE8 hO8 hF_ hS
     replace hS : St w0 w (cells b9 94 [.int .i64 e40.1.fa.Layer, .int .i64 e40.1.fa.X, .int .i64 e40.1.fa.Y, .int .i64 e40.1.fb.Layer, .int .i64 e40.1.fb.X, .int .i64 e40.1.fb.Y] :: l') := emk hS
     refine pa (v := .agg #[.int .i64 e40.1.fa.Layer, .int .i64 e40.1.fa.X, .int .i64 e40.1.fa.Y, .int .i64 e40.1.fb.Layer, .int .i64 e40.1.fb.X, .int .i64 e40.1.fb.Y]) (ld_sub agg_94 (hE8 9 rfl) rfl rfl hS) <| x_done <| ?_
     refine x_fin ⟨⟨_, rfl⟩, rfl, ?_⟩
     exact emk hS
    ·intro Ep8 w l' hE8 hO8 hF_ hS
     obtain ⟨q2f, -⟩ := hF_
     replace q2f : Ep8 49 = .agg #[.int .i64 e40.1.fa.Layer, .int .i64 e40.1.fa.X, .int .i64 e40.1.fa.Y, .int .i64 e40.1.fb.Layer, .int .i64 e40.1.fb.X, .int .i64 e40.1.fb.Y] := emk q2f
     refine o_buildSlice (vs := [.agg #[.int .i64 e40.1.fa.Layer, .int .i64 e40.1.fa.X, .int .i64 e40.1.fa.Y, .int .i64 e40.1.fb.Layer, .int .i64 e40.1.fb.X, .int .i64 e40.1.fb.Y]]) (cs := [.int .i64 e40.1.fa.Layer, .int .i64 e40.1.fa.X, .int .i64 e40.1.fa.Y, .int .i64 e40.1.fb.Layer, .int .i64 e40.1.fb.X, .int .i64 e40.1.fb.Y]) sl_114 zero_94 (parts_eq (pt (va := .agg #[.int .i64 e40.1.fa.Layer, .int .i64 e40.1.fa.X, .int .i64 e40.1.fa.Y, .int .i64 e40.1.fb.Layer, .int .i64 e40.1.fb.X, .int .i64 e40.1.fb.Y]) q2f pt0)) rfl (by intro v hv; simp only [List.mem_cons, List.not_mem_nil, or_false] at hv; first | (subst hv; rfl) | (rcases hv with rfl <;> rfl)) (by decide) rfl hS (fun b50 w' hS => ?_)
     refine x_done <| ?_
     refine x_fin ⟨⟨_, rfl⟩, rfl, ?_⟩
     exact emk hS
    ·intro Ep8 w l' hE8 hO8 hF_ hS
     obtain ⟨q1b, q2g, -⟩ := hF_
     replace q1b : Ep8 45 = .map (some q3) := emk q1b
     replace q2g : Ep8 47 = .agg #[.int .i64 e40.1.fa.Layer, .int .i64 e40.1.fa.X, .int .i64 e40.1.fa.Y] := emk q2g
     replace hS : St w0 w (mapS 94 R_extract_step q3 kf_61 q6 :: l') := emk hS
     have q_ := St.openS (T_rules_Spot.mk e40.1.fa.Layer e40.1.fa.X e40.1.fa.Y) hS; obtain ⟨q44, q46, q3q, q0j, q16, hS⟩ := q_
     rw [← q36] at q16
     replace q16 := q16 ρ
     have e_ := St.vec_n hS q16; subst e_
     refine o_mapEntryS (k := (T_rules_Spot.mk e40.1.fa.Layer e40.1.fa.X e40.1.fa.Y)) um_79 kp_61 (zero1 zv_114) q1b q2g (hS.pull 1) (q3c.trans (congrArg (fun q_ => mput (T_rules_Spot.mk e40.1.fa.Layer e40.1.fa.X e40.1.fa.Y) q_ q6) q36)) (fun w' hS => ?_)
     refine x_done <| ?_
     refine x_fin ⟨⟨_, rfl⟩, rfl, ?_⟩
     replace hS := St.bun (Φ := (fun (q0j : List Value) => RepL R_extract_step ρ q0g q0j)) (L := (fun (q0j : List Value) => [vec 94 R_extract_step.sz (.slice q44 q0g.length q3q) q0g.length q0j])) q0j q16 (hS.pull 1)
     exact emk (hS.pull 1)
    ·intro Ep8 w l' hE8 hO8 hF_ hS
     obtain ⟨q0x, -⟩ := hF_
     replace q0x : Ep8 51 = .tuple #[.slice (adOf (partOf 0 (Ep8 51))) q0g.length (capOf (partOf 0 (Ep8 51))), .int .i64 ((mpos (T_rules_Spot.mk e40.1.fa.Layer e40.1.fa.X e40.1.fa.Y) q6 : Nat) : Int)] := emk q0x
     refine p (yl_extract q0x rfl) <| x_done <| ?_
     refine x_fin ⟨⟨_, rfl⟩, rfl, ?_⟩
     exact emk hS
    ·intro Ep8 w l' hE8 hO8 hF_ hS
     obtain ⟨q2h, q0x, q2i, -⟩ := hF_
     replace q2h : Ep8 50 = .slice (some ⟨(blkOf (Ep8 50)), 0, none⟩) 1 1 := emk q2h
     replace q0x : Ep8 51 = .tuple #[.slice (adOf (partOf 0 (Ep8 51))) q0g.length (capOf (partOf 0 (Ep8 51))), .int .i64 ((mpos (T_rules_Spot.mk e40.1.fa.Layer e40.1.fa.X e40.1.fa.Y) q6 : Nat) : Int)] := emk q0x
     replace q2i : Ep8 48 = .slice (adOf (partOf 0 (Ep8 51))) q0g.length (capOf (partOf 0 (Ep8 51))) := emk q2i
     replace hS : St w0 w (cells (blkOf (Ep8 50)) 94 [.int .i64 e40.1.fa.Layer, .int .i64 e40.1.fa.X, .int .i64 e40.1.fa.Y, .int .i64 e40.1.fb.Layer, .int .i64 e40.1.fb.X, .int .i64 e40.1.fb.Y] :: ro ρ :: bunA (fun (q0j : List Value) => RepL R_extract_step ρ q0g q0j) (fun (q0j : List Value) => [vec 94 R_extract_step.sz (.slice (adOf (partOf 0 (Ep8 51))) q0g.length (capOf (partOf 0 (Ep8 51)))) q0g.length q0j]) :: l') := emk hS
     have q_ := St.unbun (hS.pull 2); obtain ⟨q0j, q16, hS⟩ := q_
     refine o_ap sl_114 zero_94 rfl (by decide) q2i q2h hS q16 (src_blk usl_114 (hS.pull 1) rfl rfl) (RepL.cons (R := R_extract_step) (ρ := ρ) (x := e40.1) (cs := [.int .i64 e40.1.fa.Layer, .int .i64 e40.1.fa.X, .int .i64 e40.1.fa.Y, .int .i64 e40.1.fb.Layer, .int .i64 e40.1.fb.X, .int .i64 e40.1.fb.Y]) rfl RepL.nil) q3n q3o (fun A52 c52 cs52 w' hr52 hS => ?_)
     refine x_done <| ?_
     refine x_fin ⟨⟨_, rfl⟩, rfl, ?_⟩
     replace hS := St.bun (Φ := (fun (cs52 : List Value) => RepL R_extract_step ρ q10 cs52)) (L := (fun (cs52 : List Value) => [vec 94 R_extract_step.sz (.slice A52 q10.length c52) q10.length cs52])) cs52 hr52 hS
     exact emk ((hS.pull 2).pull 2)
    ·intro Ep8 w l' hE8 hO8 hF_ hS
     obtain ⟨q0x, -⟩ := hF_
     replace q0x : Ep8 51 = .tuple #[.slice (adOf (partOf 0 (Ep8 51))) q0g.length (capOf (partOf 0 (Ep8 51))), .int .i64 ((mpos (T_rules_Spot.mk e40.1.fa.Layer e40.1.fa.X e40.1.fa.Y) q6 : Nat) : Int)] := emk q0x
     refine p (yl_extract q0x rfl) <| x_done <| ?_
     refine x_fin ⟨⟨_, rfl⟩, rfl, ?_⟩
     exact emk hS
    ·intro Ep8 w l' hE8 hO8 hF_ hS
     obtain ⟨q1b, q0x, q1o, q1p, -⟩ := hF_
     replace q1b : Ep8 45 = .map (some q3) := emk q1b
     replace q0x : Ep8 51 = .tuple #[.slice (adOf (partOf 0 (Ep8 51))) q0g.length (capOf (partOf 0 (Ep8 51))), .int .i64 ((mpos (T_rules_Spot.mk e40.1.fa.Layer e40.1.fa.X e40.1.fa.Y) q6 : Nat) : Int)] := emk q0x
     replace q1o : Ep8 52 = .slice (adOf (Ep8 52)) q10.length (capOf (Ep8 52)) := emk q1o
     replace q1p : Ep8 53 = .int .i64 ((mpos (T_rules_Spot.mk e40.1.fa.Layer e40.1.fa.X e40.1.fa.Y) q6 : Nat) : Int) := emk q1p
     replace hS : St w0 w (ro ρ :: holeS 94 R_extract_step q3 kf_61 q3m (T_rules_Spot.mk e40.1.fa.Layer e40.1.fa.X e40.1.fa.Y) ⟨(adOf (partOf 0 (Ep8 51))), q0g.length, (capOf (partOf 0 (Ep8 51)))⟩ :: bunA (fun (cs52 : List Value) => RepL R_extract_step ρ q10 cs52) (fun (cs52 : List Value) => [vec 94 R_extract_step.sz (.slice (adOf (Ep8 52)) q10.length (capOf (Ep8 52))) q10.length cs52]) :: l') := emk hS
     have q_ := St.unbun (hS.pull 2); obtain ⟨cs52, hr52, hS⟩ := q_
     refine o_entryStoreS (k := (T_rules_Spot.mk e40.1.fa.Layer e40.1.fa.X e40.1.fa.Y)) (es := q6) (v0 := q0g) q1b q1p q1o rfl q3c (fun _ => RepL.flat (fun h => h) hr52) ((hS.pull 2).pull 1) q3p (fun w' hS => ?_)
     refine x_done <| ?_
     refine x_fin ⟨⟨undef, rfl⟩, trivial, ?_⟩
     replace hS := St.bun (Φ := (fun (x : Unit) => True)) (L := (fun (x : Unit) => [])) () trivial hS
     exact emk ((hS.pull 1).pull 2)
   intro Ep8 w' hE8 hF_ hS
   obtain ⟨q2b, q2c, q2d, q1b, q2e, q2g, q2f, q2h, q0x, q2i, q1o, q1p, -⟩ := hF_
   replace q2b : Ep8 42 = .pointer (some ⟨q4, 0, none⟩) := emk q2b
   replace q2c : Ep8 43 = .pointer (some ⟨q4, 0, none⟩) := emk q2c
   replace q2d : Ep8 44 = .pointer (some ⟨q4, 8, none⟩) := emk q2d
   replace q1b : Ep8 45 = .map (some q3) := emk q1b
   replace q2e : Ep8 46 = .pointer (some ⟨b9, 0, none⟩) := emk q2e
   replace q2g : Ep8 47 = .agg #[.int .i64 e40.1.fa.Layer, .int .i64 e40.1.fa.X, .int .i64 e40.1.fa.Y] := emk q2g
   replace q2f : Ep8 49 = .agg #[.int .i64 e40.1.fa.Layer, .int .i64 e40.1.fa.X, .int .i64 e40.1.fa.Y, .int .i64 e40.1.fb.Layer, .int .i64 e40.1.fb.X, .int .i64 e40.1.fb.Y] := emk q2f
   replace q2h : Ep8 50 = .slice (some ⟨(blkOf (Ep8 50)), 0, none⟩) 1 1 := emk q2h
   replace q0x : Ep8 51 = .tuple #[.slice (adOf (partOf 0 (Ep8 51))) q0g.length (capOf (partOf 0 (Ep8 51))), .int .i64 ((mpos (T_rules_Spot.mk e40.1.fa.Layer e40.1.fa.X e40.1.fa.Y) q6 : Nat) : Int)] := emk q0x
   replace q2i : Ep8 48 = .slice (adOf (partOf 0 (Ep8 51))) q0g.length (capOf (partOf 0 (Ep8 51))) := emk q2i
   replace q1o : Ep8 52 = .slice (adOf (Ep8 52)) q10.length (capOf (Ep8 52)) := emk q1o
   replace q1p : Ep8 53 = .int .i64 ((mpos (T_rules_Spot.mk e40.1.fa.Layer e40.1.fa.X e40.1.fa.Y) q6 : Nat) : Int) := emk q1p
   replace hS : St w0 w' (cells q4 82 [.int .i64 q0l, .int .i64 q0m, .int .i64 q0n, .int .i64 q0o, .slice q0b q0p.length c_t0_4, .slice q0c q0q.length c_t0_5, .slice q0d q0r.length c_t0_6, .slice q0e q0s.length c_t0_7, .map (some q3), .map (some q2), .map (some q5)] :: cells b9 94 [.int .i64 e40.1.fa.Layer, .int .i64 e40.1.fa.X, .int .i64 e40.1.fa.Y, .int .i64 e40.1.fb.Layer, .int .i64 e40.1.fb.X, .int .i64 e40.1.fb.Y] :: cells (blkOf (Ep8 50)) 94 [.int .i64 e40.1.fa.Layer, .int .i64 e40.1.fa.X, .int .i64 e40.1.fa.Y, .int .i64 e40.1.fb.Layer, .int .i64 e40.1.fb.X, .int .i64 e40.1.fb.Y] :: ro ρ :: mapS 94 R_extract_step q3 kf_61 q0t :: bunA (fun (x : Unit) => True) (fun (x : Unit) => []) :: (itA b37 q0a q0u.length (q13 ++ [i38]) :: mapA q0a kf_94 Value.bool q0u :: mapA q2 kf_61 (Value.int .i64) q7 :: mapA q5 kf_61 (Value.int .i64) q0z :: mapA q0f kf_61 Value.bool q12 :: mapA q8 kf_61 Value.bool others2 :: l)) := emk hS
   have q_ := St.unbun (hS.pull 5); obtain ⟨⟨⟩, -, hS⟩ := q_
   refine x_seq <| ?_
   replace hFL6 := nlv_s hFL6; obtain ⟨q0h, q37, hFL6⟩ := hFL6
   replace hFL6 := nlv_s hFL6; obtain ⟨q3r, q3d, hFL6⟩ := hFL6
   replace hFL6 := nlv_s hFL6; obtain ⟨q11, q3s, hFL6⟩ := hFL6
   replace hFL6 := nck_s hFL6; obtain ⟨q3t, hFL6⟩ := hFL6
   replace hFL6 := nlv_s hFL6; obtain ⟨q20, q3u, hFL6⟩ := hFL6
   refine x_par (w0 := w0) [⟨[], [], [54], [], [], [], none⟩, ⟨[0], [0], [55], [], [], [], none⟩, ⟨[0, 1], [1], [56], [], [], [], none⟩, ⟨[0, 1, 2], [2], [57], [0], [], [], none⟩, ⟨[], [], [58], [], [], [], none⟩, ⟨[4], [4], [59], [1], [], [], none⟩, ⟨[], [], [61], [1], [], [], none⟩, ⟨[6], [6], [62], [], [], [2], none⟩, ⟨[0, 1, 2, 3, 4, 5, 6, 7], [3, 5], [63], [], [3], [4, 5], none⟩, ⟨[0, 1, 2, 3, 4, 5, 6, 7, 8], [8], [60, 63], [], [], [], none⟩, ⟨[0, 1, 2, 3, 4, 5, 6, 7, 8, 9], [7, 8, 9], [64], [2, 6], [5], [7], none⟩, ⟨[0, 1, 2, 3, 4, 5, 6, 7, 8], [8], [65], [], [], [], none⟩, ⟨[0, 1, 2, 3, 4, 5, 6, 7, 8, 9, 10, 11], [3, 8, 10, 11], [], [6], [4, 7], [8, 9], none⟩] [⟨none, none, []⟩, ⟨none, none, []⟩, ⟨(some 7), none, [62]⟩, ⟨none, (some 8), []⟩, ⟨(some 8), (some 12), [63]⟩, ⟨(some 8), (some 10), [63]⟩, ⟨none, none, []⟩, ⟨(some 10), (some 12), [64]⟩, ⟨(some 12), none, []⟩, ⟨(some 12), none, []⟩] [54, 55, 56, 57, 58, 59, 60, 61, 62, 63, 64, 65] [0, 1, 3, 6] [0, 1, 2, 6, 8, 9] [0, 1, 2, 3, 4, 5, 6, 7, 8, 9, 10, 11] [fun Ep9 => Ep9 54 = .pointer (some ⟨q4, 0, none⟩), fun Ep9 => Ep9 55 = .pointer (some ⟨q4, 0, none⟩), fun Ep9 => Ep9 56 = .pointer (some ⟨q4, 8, none⟩), fun Ep9 => Ep9 57 = .map (some q3), fun Ep9 => Ep9 58 = .pointer (some ⟨b9, 3, none⟩), fun Ep9 => Ep9 59 = .agg #[.int .i64 e40.1.fb.Layer, .int .i64 e40.1.fb.X, .int .i64 e40.1.fb.Y], fun Ep9 => Ep9 61 = .agg #[.int .i64 e40.1.fa.Layer, .int .i64 e40.1.fa.X, .int .i64 e40.1.fa.Y, .int .i64 e40.1.fb.Layer, .int .i64 e40.1.fb.X, .int .i64 e40.1.fb.Y], fun Ep9 => Ep9 62 = .slice (some ⟨(blkOf (Ep9 62)), 0, none⟩) 1 1, fun Ep9 => Ep9 63 = .tuple #[.slice (adOf (partOf 0 (Ep9 63))) q0h.length (capOf (partOf 0 (Ep9 63))), .int .i64 ((mpos (T_rules_Spot.mk e40.1.fb.Layer e40.1.fb.X e40.1.fb.Y) q0t : Nat) : Int)], fun Ep9 => Ep9 60 = .slice (adOf (partOf 0 (Ep9 63))) q0h.length (capOf (partOf 0 (Ep9 63))), fun Ep9 => Ep9 64 = .slice (adOf (Ep9 64)) q11.length (capOf (Ep9 64)), fun Ep9 => Ep9 65 = .int .i64 ((mpos (T_rules_Spot.mk e40.1.fb.Layer e40.1.fb.X e40.1.fb.Y) q0t : Nat) : Int), fun Ep9 => True] [fun Ep9 => cells q4 82 [.int .i64 q0l, .int .i64 q0m, .int .i64 q0n, .int .i64 q0o, .slice q0b q0p.length c_t0_4, .slice q0c q0q.length c_t0_5, .slice q0d q0r.length c_t0_6, .slice q0e q0s.length c_t0_7, .map (some q3), .map (some q2), .map (some q5)], fun Ep9 => cells b9 94 [.int .i64 e40.1.fa.Layer, .int .i64 e40.1.fa.X, .int .i64 e40.1.fa.Y, .int .i64 e40.1.fb.Layer, .int .i64 e40.1.fb.X, .int .i64 e40.1.fb.Y], fun Ep9 => cells (blkOf (Ep9 62)) 94 [.int .i64 e40.1.fa.Layer, .int .i64 e40.1.fa.X, .int .i64 e40.1.fa.Y, .int .i64 e40.1.fb.Layer, .int .i64 e40.1.fb.X, .int .i64 e40.1.fb.Y], fun Ep9 => mapS 94 R_extract_step q3 kf_61 q0t, fun Ep9 => holeS 94 R_extract_step q3 kf_61 q3r (T_rules_Spot.mk e40.1.fb.Layer e40.1.fb.X e40.1.fb.Y) ⟨(adOf (partOf 0 (Ep9 63))), q0h.length, (capOf (partOf 0 (Ep9 63)))⟩, fun Ep9 => bunA (fun (q0k : List Value) => RepL R_extract_step ρ q0h q0k) (fun (q0k : List Value) => [vec 94 R_extract_step.sz (.slice (adOf (partOf 0 (Ep9 63))) q0h.length (capOf (partOf 0 (Ep9 63)))) q0h.length q0k]), fun Ep9 => ro ρ, fun Ep9 => bunA (fun (cs64 : List Value) => RepL R_extract_step ρ q11 cs64) (fun (cs64 : List Value) => [vec 94 R_extract_step.sz (.slice (adOf (Ep9 64)) q11.length (capOf (Ep9 64))) q11.length cs64]), fun Ep9 => mapS 94 R_extract_step q3 kf_61 q20, fun Ep9 => bunA (fun (x : Unit) => True) (fun (x : Unit) => [])] mixed (by kernel_rfl) ((((hS.pull 3).pull 4).pull 3).pull 3) ?_ ?_
   ·refine ⟨?_, ?_, ?_, ?_, ?_, ?_, ?_, ?_, ?_, ?_, ?_, ?_, ?_, trivial⟩
    ·intro Ep9 w l' hE9 hO9 hF_ hS
     refine p (yl_move ((hE9 0 rfl).trans ((hE8 0 rfl).trans q1e))) <| x_done <| ?_
     refine x_fin ⟨⟨_, rfl⟩, rfl, ?_⟩
     exact emk hS
    ·intro Ep9 w l' hE9 hO9 hF_ hS
     obtain ⟨q2j, -⟩ := hF_
     replace q2j : Ep9 54 = .pointer (some ⟨q4, 0, none⟩) := emk q2j
     refine p (yl_nilCheck q2j) <| x_done <| ?_
     refine x_fin ⟨⟨_, rfl⟩, rfl, ?_⟩
     exact emk hS
    ·intro Ep9 w l' hE9 hO9 hF_ hS
     obtain ⟨q2k, -⟩ := hF_
     replace q2k : Ep9 55 = .pointer (some ⟨q4, 0, none⟩) := emk q2k
     refine p (yl_field0 fld_82_1 q2k) <| x_done <| ?_
     refine x_fin ⟨⟨_, rfl⟩, rfl, ?_⟩
     exact emk hS
    ·intro Ep9 w l' hE9 hO9 hF_ hS
     obtain ⟨q2l, -⟩ := hF_
     replace q2l : Ep9 56 = .pointer (some ⟨q4, 8, none⟩) := emk q2l
     replace hS : St w0 w (cells q4 82 [.int .i64 q0l, .int .i64 q0m, .int .i64 q0n, .int .i64 q0o, .slice q0b q0p.length c_t0_4, .slice q0c q0q.length c_t0_5, .slice q0d q0r.length c_t0_6, .slice q0e q0s.length c_t0_7, .map (some q3), .map (some q2), .map (some q5)] :: l') := emk hS
     refine pa (at_load one_79 q2l (hS.cell rfl)) <| x_done <| ?_
     refine x_fin ⟨⟨_, rfl⟩, rfl, ?_⟩
     exact emk hS
    ·intro Ep9 w l' hE9 hO9 hF_ hS
     refine p (yl_field0 fld_94_1 ((hE9 9 rfl).trans (hE8 9 rfl))) <| x_done <| ?_
     refine x_fin ⟨⟨_, rfl⟩, rfl, ?_⟩
     exact emk hS
    ·intro Ep9 w l' hE9 hO9 hF_ hS
     obtain ⟨q2m, -⟩ := hF_
     replace q2m : Ep9 58 = .pointer (some ⟨b9, 3, none⟩) := emk q2m
     replace hS : St w0 w (cells b9 94 [.int .i64 e40.1.fa.Layer, .int .i64 e40.1.fa.X, .int .i64 e40.1.fa.Y, .int .i64 e40.1.fb.Layer, .int .i64 e40.1.fb.X, .int .i64 e40.1.fb.Y] :: l') := emk hS
     refine pa (v := .agg #[.int .i64 e40.1.fb.Layer, .int .i64 e40.1.fb.X, .int .i64 e40.1.fb.Y]) (ld_sub agg_61 q2m rfl rfl hS) <| x_done <| ?_
     refine x_fin ⟨⟨_, rfl⟩, rfl, ?_⟩
     exact emk hS
    ·intro Ep9 w l' hE9 hO9 hF_ hS
     replace hS : St w0 w (cells b9 94 [.int .i64 e40.1.fa.Layer, .int .i64 e40.1.fa.X, .int .i64 e40.1.fa.Y, .int .i64 e40.1.fb.Layer, .int .i64 e40.1.fb.X, .int .i64 e40.1.fb.Y] :: l') := emk hS
     refine pa (v := .agg #[.int .i64 e40.1.fa.Layer, .int .i64 e40.1.fa.X, .int .i64 e40.1.fa.Y, .int .i64 e40.1.fb.Layer, .int .i64 e40.1.fb.X, .int .i64 e40.1.fb.Y]) (ld_sub agg_94 ((hE9 9 rfl).trans (hE8 9 rfl)) rfl rfl hS) <| x_done <| ?_
     refine x_fin ⟨⟨_, rfl⟩, rfl, ?_⟩
     exact emk hS
    ·intro Ep9 w l' hE9 hO9 hF_ hS
     obtain ⟨q2n, -⟩ := hF_
     replace q2n : Ep9 61 = .agg #[.int .i64 e40.1.fa.Layer, .int .i64 e40.1.fa.X, .int .i64 e40.1.fa.Y, .int .i64 e40.1.fb.Layer, .int .i64 e40.1.fb.X, .int .i64 e40.1.fb.Y] := emk q2n
     refine o_buildSlice (vs := [.agg #[.int .i64 e40.1.fa.Layer, .int .i64 e40.1.fa.X, .int .i64 e40.1.fa.Y, .int .i64 e40.1.fb.Layer, .int .i64 e40.1.fb.X, .int .i64 e40.1.fb.Y]]) (cs := [.int .i64 e40.1.fa.Layer, .int .i64 e40.1.fa.X, .int .i64 e40.1.fa.Y, .int .i64 e40.1.fb.Layer, .int .i64 e40.1.fb.X, .int .i64 e40.1.fb.Y]) sl_114 zero_94 (parts_eq (pt (va := .agg #[.int .i64 e40.1.fa.Layer, .int .i64 e40.1.fa.X, .int .i64 e40.1.fa.Y, .int .i64 e40.1.fb.Layer, .int .i64 e40.1.fb.X, .int .i64 e40.1.fb.Y]) q2n pt0)) rfl (by intro v hv; simp only [List.mem_cons, List.not_mem_nil, or_false] at hv; first | (subst hv; rfl) | (rcases hv with rfl <;> rfl)) (by decide) rfl hS (fun b62 w' hS => ?_)
     refine x_done <| ?_
     refine x_fin ⟨⟨_, rfl⟩, rfl, ?_⟩
     exact emk hS
    ·intro Ep9 w l' hE9 hO9 hF_ hS
     obtain ⟨q1c, q2o, -⟩ := hF_
     replace q1c : Ep9 57 = .map (some q3) := emk q1c
     replace q2o : Ep9 59 = .agg #[.int .i64 e40.1.fb.Layer, .int .i64 e40.1.fb.X, .int .i64 e40.1.fb.Y] := emk q2o
     replace hS : St w0 w (mapS 94 R_extract_step q3 kf_61 q0t :: l') := emk hS
     have q_ := St.openS (T_rules_Spot.mk e40.1.fb.Layer e40.1.fb.X e40.1.fb.Y) hS; obtain ⟨q45, q47, q3v, q0k, q17, hS⟩ := q_
     rw [← q37] at q17
     replace q17 := q17 ρ
     have e_ := St.vec_n hS q17; subst e_
     refine o_mapEntryS (k := (T_rules_Spot.mk e40.1.fb.Layer e40.1.fb.X e40.1.fb.Y)) um_79 kp_61 (zero1 zv_114) q1c q2o (hS.pull 1) (q3d.trans (congrArg (fun q_ => mput (T_rules_Spot.mk e40.1.fb.Layer e40.1.fb.X e40.1.fb.Y) q_ q0t) q37)) (fun w' hS => ?_)
     refine x_done <| ?_
     refine x_fin ⟨⟨_, rfl⟩, rfl, ?_⟩
     replace hS := St.bun (Φ := (fun (q0k : List Value) => RepL R_extract_step ρ q0h q0k)) (L := (fun (q0k : List Value) => [vec 94 R_extract_step.sz (.slice q45 q0h.length q3v) q0h.length q0k])) q0k q17 (hS.pull 1)
     exact emk (hS.pull 1)
    ·intro Ep9 w l' hE9 hO9 hF_ hS
     obtain ⟨q0y, -⟩ := hF_
     replace q0y : Ep9 63 = .tuple #[.slice (adOf (partOf 0 (Ep9 63))) q0h.length (capOf (partOf 0 (Ep9 63))), .int .i64 ((mpos (T_rules_Spot.mk e40.1.fb.Layer e40.1.fb.X e40.1.fb.Y) q0t : Nat) : Int)] := emk q0y
     refine p (yl_extract q0y rfl) <| x_done <| ?_
     refine x_fin ⟨⟨_, rfl⟩, rfl, ?_⟩
     exact emk hS
    ·intro Ep9 w l' hE9 hO9 hF_ hS
     obtain ⟨q2p, q0y, q2q, -⟩ := hF_
     replace q2p : Ep9 62 = .slice (some ⟨(blkOf (Ep9 62)), 0, none⟩) 1 1 := emk q2p
     replace q0y : Ep9 63 = .tuple #[.slice (adOf (partOf 0 (Ep9 63))) q0h.length (capOf (partOf 0 (Ep9 63))), .int .i64 ((mpos (T_rules_Spot.mk e40.1.fb.Layer e40.1.fb.X e40.1.fb.Y) q0t : Nat) : Int)] := emk q0y
     replace q2q : Ep9 60 = .slice (adOf (partOf 0 (Ep9 63))) q0h.length (capOf (partOf 0 (Ep9 63))) := emk q2q
     replace hS : St w0 w (cells (blkOf (Ep9 62)) 94 [.int .i64 e40.1.fa.Layer, .int .i64 e40.1.fa.X, .int .i64 e40.1.fa.Y, .int .i64 e40.1.fb.Layer, .int .i64 e40.1.fb.X, .int .i64 e40.1.fb.Y] :: ro ρ :: bunA (fun (q0k : List Value) => RepL R_extract_step ρ q0h q0k) (fun (q0k : List Value) => [vec 94 R_extract_step.sz (.slice (adOf (partOf 0 (Ep9 63))) q0h.length (capOf (partOf 0 (Ep9 63)))) q0h.length q0k]) :: l') := emk hS
     have q_ := St.unbun (hS.pull 2); obtain ⟨q0k, q17, hS⟩ := q_
     refine o_ap sl_114 zero_94 rfl (by decide) q2q q2p hS q17 (src_blk usl_114 (hS.pull 1) rfl rfl) (RepL.cons (R := R_extract_step) (ρ := ρ) (x := e40.1) (cs := [.int .i64 e40.1.fa.Layer, .int .i64 e40.1.fa.X, .int .i64 e40.1.fa.Y, .int .i64 e40.1.fb.Layer, .int .i64 e40.1.fb.X, .int .i64 e40.1.fb.Y]) rfl RepL.nil) q3s q3t (fun A64 c64 cs64 w' hr64 hS => ?_)
     refine x_done <| ?_
     refine x_fin ⟨⟨_, rfl⟩, rfl, ?_⟩
     replace hS := St.bun (Φ := (fun (cs64 : List Value) => RepL R_extract_step ρ q11 cs64)) (L := (fun (cs64 : List Value) => [vec 94 R_extract_step.sz (.slice A64 q11.length c64) q11.length cs64])) cs64 hr64 hS
     exact emk ((hS.pull 2).pull 2)
    ·intro Ep9 w l' hE9 hO9 hF_ hS
     obtain ⟨q0y, -⟩ := hF_
     replace q0y : Ep9 63 = .tuple #[.slice (adOf (partOf 0 (Ep9 63))) q0h.length (capOf (partOf 0 (Ep9 63))), .int .i64 ((mpos (T_rules_Spot.mk e40.1.fb.Layer e40.1.fb.X e40.1.fb.Y) q0t : Nat) : Int)] := emk q0y
     refine p (yl_extract q0y rfl) <| x_done <| ?_
     refine x_fin ⟨⟨_, rfl⟩, rfl, ?_⟩
     exact emk hS
    ·intro Ep9 w l' hE9 hO9 hF_ hS
     obtain ⟨q1c, q0y, q1q, q1r, -⟩ := hF_
     replace q1c : Ep9 57 = .map (some q3) := emk q1c
     replace q0y : Ep9 63 = .tuple #[.slice (adOf (partOf 0 (Ep9 63))) q0h.length (capOf (partOf 0 (Ep9 63))), .int .i64 ((mpos (T_rules_Spot.mk e40.1.fb.Layer e40.1.fb.X e40.1.fb.Y) q0t : Nat) : Int)] := emk q0y
     replace q1q : Ep9 64 = .slice (adOf (Ep9 64)) q11.length (capOf (Ep9 64)) := emk q1q
     replace q1r : Ep9 65 = .int .i64 ((mpos (T_rules_Spot.mk e40.1.fb.Layer e40.1.fb.X e40.1.fb.Y) q0t : Nat) : Int) := emk q1r
     replace hS : St w0 w (ro ρ :: holeS 94 R_extract_step q3 kf_61 q3r (T_rules_Spot.mk e40.1.fb.Layer e40.1.fb.X e40.1.fb.Y) ⟨(adOf (partOf 0 (Ep9 63))), q0h.length, (capOf (partOf 0 (Ep9 63)))⟩ :: bunA (fun (cs64 : List Value) => RepL R_extract_step ρ q11 cs64) (fun (cs64 : List Value) => [vec 94 R_extract_step.sz (.slice (adOf (Ep9 64)) q11.length (capOf (Ep9 64))) q11.length cs64]) :: l') := emk hS
     have q_ := St.unbun (hS.pull 2); obtain ⟨cs64, hr64, hS⟩ := q_
     refine o_entryStoreS (k := (T_rules_Spot.mk e40.1.fb.Layer e40.1.fb.X e40.1.fb.Y)) (es := q0t) (v0 := q0h) q1c q1r q1q rfl q3d (fun _ => RepL.flat (fun h => h) hr64) ((hS.pull 2).pull 1) q3u (fun w' hS => ?_)
     refine x_done <| ?_
     refine x_fin ⟨⟨undef, rfl⟩, trivial, ?_⟩
     replace hS := St.bun (Φ := (fun (x : Unit) => True)) (L := (fun (x : Unit) => [])) () trivial hS
     exact emk ((hS.pull 1).pull 2)
   intro Ep9 w' hE9 hF_ hS
   obtain ⟨q2j, q2k, q2l, q1c, q2m, q2o, q2n, q2p, q0y, q2q, q1q, q1r, -⟩ := hF_
   replace q2j : Ep9 54 = .pointer (some ⟨q4, 0, none⟩) := emk q2j
   replace q2k : Ep9 55 = .pointer (some ⟨q4, 0, none⟩) := emk q2k
   replace q2l : Ep9 56 = .pointer (some ⟨q4, 8, none⟩) := emk q2l
   replace q1c : Ep9 57 = .map (some q3) := emk q1c
   replace q2m : Ep9 58 = .pointer (some ⟨b9, 3, none⟩) := emk q2m
   replace q2o : Ep9 59 = .agg #[.int .i64 e40.1.fb.Layer, .int .i64 e40.1.fb.X, .int .i64 e40.1.fb.Y] := emk q2o
   replace q2n : Ep9 61 = .agg #[.int .i64 e40.1.fa.Layer, .int .i64 e40.1.fa.X, .int .i64 e40.1.fa.Y, .int .i64 e40.1.fb.Layer, .int .i64 e40.1.fb.X, .int .i64 e40.1.fb.Y] := emk q2n
   replace q2p : Ep9 62 = .slice (some ⟨(blkOf (Ep9 62)), 0, none⟩) 1 1 := emk q2p
   replace q0y : Ep9 63 = .tuple #[.slice (adOf (partOf 0 (Ep9 63))) q0h.length (capOf (partOf 0 (Ep9 63))), .int .i64 ((mpos (T_rules_Spot.mk e40.1.fb.Layer e40.1.fb.X e40.1.fb.Y) q0t : Nat) : Int)] := emk q0y
   replace q2q : Ep9 60 = .slice (adOf (partOf 0 (Ep9 63))) q0h.length (capOf (partOf 0 (Ep9 63))) := emk q2q
   replace q1q : Ep9 64 = .slice (adOf (Ep9 64)) q11.length (capOf (Ep9 64)) := emk q1q
   replace q1r : Ep9 65 = .int .i64 ((mpos (T_rules_Spot.mk e40.1.fb.Layer e40.1.fb.X e40.1.fb.Y) q0t : Nat) : Int) := emk q1r
   replace hS : St w0 w' (cells q4 82 [.int .i64 q0l, .int .i64 q0m, .int .i64 q0n, .int .i64 q0o, .slice q0b q0p.length c_t0_4, .slice q0c q0q.length c_t0_5, .slice q0d q0r.length c_t0_6, .slice q0e q0s.length c_t0_7, .map (some q3), .map (some q2), .map (some q5)] :: cells b9 94 [.int .i64 e40.1.fa.Layer, .int .i64 e40.1.fa.X, .int .i64 e40.1.fa.Y, .int .i64 e40.1.fb.Layer, .int .i64 e40.1.fb.X, .int .i64 e40.1.fb.Y] :: cells (blkOf (Ep9 62)) 94 [.int .i64 e40.1.fa.Layer, .int .i64 e40.1.fa.X, .int .i64 e40.1.fa.Y, .int .i64 e40.1.fb.Layer, .int .i64 e40.1.fb.X, .int .i64 e40.1.fb.Y] :: ro ρ :: mapS 94 R_extract_step q3 kf_61 q20 :: bunA (fun (x : Unit) => True) (fun (x : Unit) => []) :: (cells (blkOf (Ep8 50)) 94 [.int .i64 e40.1.fa.Layer, .int .i64 e40.1.fa.X, .int .i64 e40.1.fa.Y, .int .i64 e40.1.fb.Layer, .int .i64 e40.1.fb.X, .int .i64 e40.1.fb.Y] :: itA b37 q0a q0u.length (q13 ++ [i38]) :: mapA q0a kf_94 Value.bool q0u :: mapA q2 kf_61 (Value.int .i64) q7 :: mapA q5 kf_61 (Value.int .i64) q0z :: mapA q0f kf_61 Value.bool q12 :: mapA q8 kf_61 Value.bool others2 :: l)) := emk hS
   have q_ := St.unbun (hS.pull 5); obtain ⟨⟨⟩, -, hS⟩ := q_
   refine x_seq <| x_region <| p (yl_field0 fld_94_0 ((hE9 9 rfl).trans (hE8 9 rfl))) <| p (yl_field0 fld_61_0 rfl) <|
    pa (at_load one_3 rfl ((hS.pull 1).cell rfl)) <| p (yl_field0 fld_94_1 ((hE9 9 rfl).trans (hE8 9 rfl))) <| p (yl_fieldN fld_61_0 rfl) <| pa (at_load one_3 rfl ((hS.pull 1).cell rfl)) <|
    p (yl_neq rfl rfl) <| x_done <| ?_
   replace hFL6 := nbd_j hFL6; obtain ⟨oc72, hFc72, hFL6⟩ := hFL6
   refine x_join (fun E w => ∃ (q15 : List (T_rules_Spot × Int)), oc72 q15 ∧ E 0 = .pointer (some ⟨q4, 0, none⟩) ∧ E 37 = .pointer (some ⟨b37, 0, none⟩) ∧ St w0 w (cells q4 82 [.int .i64 q0l, .int .i64 q0m, .int .i64 q0n, .int .i64 q0o, .slice q0b q0p.length c_t0_4, .slice q0c q0q.length c_t0_5, .slice q0d q0r.length c_t0_6, .slice q0e q0s.length c_t0_7, .map (some q3), .map (some q2), .map (some q5)] :: mapA q0a kf_94 Value.bool q0u :: itA b37 q0a q0u.length (q13 ++ [i38]) :: mapS 94 R_extract_step q3 kf_61 q20 :: mapA q2 kf_61 (Value.int .i64) q15 :: mapA q5 kf_61 (Value.int .i64) q0z :: mapA q0f kf_61 Value.bool q12 :: mapA q8 kf_61 Value.bool others2 :: ro ρ :: l)) ?_ ?_
   ·refine x_cond_p (e40.1.fa.Layer ≠ e40.1.fb.Layer) rfl (fun hc72 => ?_) (fun hc72 => ?_)
    ·replace hFc72 := nit_t hc72 hFc72
     replace hFc72 := nlv_s hFc72; obtain ⟨x79, hx79, hFc72⟩ := hFc72
     replace hFc72 := nar_s hFc72; obtain ⟨x80, hx80, hFc72⟩ := hFc72
     replace hFc72 := nlv_s hFc72; obtain ⟨x81, hx81, hFc72⟩ := hFc72
     replace hFc72 := nlv_s hFc72; obtain ⟨q32, q2x, hFc72⟩ := hFc72
     replace hFc72 := nlv_s hFc72; obtain ⟨q2y, q3e, hFc72⟩ := hFc72
     refine x_par (w0 := w0) [⟨[], [], [73], [], [], [], none⟩, ⟨[0], [0], [74], [], [], [], none⟩, ⟨[0, 1], [1], [75], [], [], [], none⟩, ⟨[0, 1, 2], [2], [76], [0], [], [], none⟩, ⟨[], [], [77], [], [], [], none⟩, ⟨[4], [4], [78], [1], [], [], none⟩, ⟨[0, 1, 2, 3, 4, 5], [3, 5], [79], [], [], [], some (2, 3)⟩, ⟨[0, 1, 2, 3, 4, 5, 6], [6], [80], [], [], [], none⟩, ⟨[0, 1, 2, 3, 4, 5], [3, 5], [81], [], [2], [3], none⟩, ⟨[0, 1, 2, 3, 4, 5, 8], [8], [82], [], [], [], none⟩, ⟨[0, 1, 2, 3, 4, 5, 6, 7, 8, 9], [3, 7, 9], [], [], [3], [4], none⟩] [⟨none, none, []⟩, ⟨none, none, []⟩, ⟨none, (some 8), []⟩, ⟨(some 8), (some 10), []⟩, ⟨(some 10), none, []⟩] [73, 74, 75, 76, 77, 78, 79, 80, 81, 82] [0, 1, 2] [0, 1, 4] [0, 1, 2, 3, 4, 5, 6, 7, 8, 9] [fun Ep11 => Ep11 73 = .pointer (some ⟨q4, 0, none⟩), fun Ep11 => Ep11 74 = .pointer (some ⟨q4, 0, none⟩), fun Ep11 => Ep11 75 = .pointer (some ⟨q4, 9, none⟩), fun Ep11 => Ep11 76 = .map (some q2), fun Ep11 => Ep11 77 = .pointer (some ⟨b9, 0, none⟩), fun Ep11 => Ep11 78 = .agg #[.int .i64 e40.1.fa.Layer, .int .i64 e40.1.fa.X, .int .i64 e40.1.fa.Y], fun Ep11 => Ep11 79 = .int .i64 x79, fun Ep11 => Ep11 80 = .int .i64 x80, fun Ep11 => Ep11 81 = .tuple #[.int .i64 x81, .int .i64 ((mpos (T_rules_Spot.mk e40.1.fa.Layer e40.1.fa.X e40.1.fa.Y) q7 : Nat) : Int)], fun Ep11 => Ep11 82 = .int .i64 ((mpos (T_rules_Spot.mk e40.1.fa.Layer e40.1.fa.X e40.1.fa.Y) q7 : Nat) : Int), fun Ep11 => True] [fun Ep11 => cells q4 82 [.int .i64 q0l, .int .i64 q0m, .int .i64 q0n, .int .i64 q0o, .slice q0b q0p.length c_t0_4, .slice q0c q0q.length c_t0_5, .slice q0d q0r.length c_t0_6, .slice q0e q0s.length c_t0_7, .map (some q3), .map (some q2), .map (some q5)], fun Ep11 => cells b9 94 [.int .i64 e40.1.fa.Layer, .int .i64 e40.1.fa.X, .int .i64 e40.1.fa.Y, .int .i64 e40.1.fb.Layer, .int .i64 e40.1.fb.X, .int .i64 e40.1.fb.Y], fun Ep11 => mapA q2 kf_61 (Value.int .i64) q7, fun Ep11 => mapA q2 kf_61 (Value.int .i64) q32, fun Ep11 => mapA q2 kf_61 (Value.int .i64) q2y] mixed (by kernel_rfl) (((hS.pull 8).pull 2).pull 2) ?_ ?_
     ·refine ⟨?_, ?_, ?_, ?_, ?_, ?_, ?_, ?_, ?_, ?_, ?_, trivial⟩
      ·intro Ep11 w l' hE11 hO11 hF_ hS
       refine p (yl_move ((hE11 0 rfl).trans ((hE9 0 rfl).trans ((hE8 0 rfl).trans q1e)))) <| x_done <| ?_
       refine x_fin ⟨⟨_, rfl⟩, rfl, ?_⟩
       exact emk hS
      ·intro Ep11 w l' hE11 hO11 hF_ hS
       obtain ⟨q1s, -⟩ := hF_
       replace q1s : Ep11 73 = .pointer (some ⟨q4, 0, none⟩) := emk q1s
       refine p (yl_nilCheck q1s) <| x_done <| ?_
       refine x_fin ⟨⟨_, rfl⟩, rfl, ?_⟩
       exact emk hS
      ·intro Ep11 w l' hE11 hO11 hF_ hS
       obtain ⟨q1t, -⟩ := hF_
       replace q1t : Ep11 74 = .pointer (some ⟨q4, 0, none⟩) := emk q1t
       refine p (yl_field0 fld_82_2 q1t) <| x_done <| ?_
       refine x_fin ⟨⟨_, rfl⟩, rfl, ?_⟩
       exact emk hS
      ·intro Ep11 w l' hE11 hO11 hF_ hS
       obtain ⟨q1u, -⟩ := hF_
       replace q1u : Ep11 75 = .pointer (some ⟨q4, 9, none⟩) := emk q1u
       replace hS : St w0 w (cells q4 82 [.int .i64 q0l, .int .i64 q0m, .int .i64 q0n, .int .i64 q0o, .slice q0b q0p.length c_t0_4, .slice q0c q0q.length c_t0_5, .slice q0d q0r.length c_t0_6, .slice q0e q0s.length c_t0_7, .map (some q3), .map (some q2), .map (some q5)] :: l') := emk hS
       refine pa (at_load one_80 q1u (hS.cell rfl)) <| x_done <| ?_
       refine x_fin ⟨⟨_, rfl⟩, rfl, ?_⟩
       exact emk hS
      ·intro Ep11 w l' hE11 hO11 hF_ hS
       refine p (yl_field0 fld_94_0 ((hE11 9 rfl).trans ((hE9 9 rfl).trans (hE8 9 rfl)))) <| x_done <| ?_
       refine x_fin ⟨⟨_, rfl⟩, rfl, ?_⟩
       exact emk hS
      ·intro Ep11 w l' hE11 hO11 hF_ hS
       obtain ⟨q1v, -⟩ := hF_
       replace q1v : Ep11 77 = .pointer (some ⟨b9, 0, none⟩) := emk q1v
       replace hS : St w0 w (cells b9 94 [.int .i64 e40.1.fa.Layer, .int .i64 e40.1.fa.X, .int .i64 e40.1.fa.Y, .int .i64 e40.1.fb.Layer, .int .i64 e40.1.fb.X, .int .i64 e40.1.fb.Y] :: l') := emk hS
       refine pa (v := .agg #[.int .i64 e40.1.fa.Layer, .int .i64 e40.1.fa.X, .int .i64 e40.1.fa.Y]) (ld_sub agg_61 q1v rfl rfl hS) <| x_done <| ?_
       refine x_fin ⟨⟨_, rfl⟩, rfl, ?_⟩
       exact emk hS
      ·refine ⟨?_, ?_⟩
       ·intro Ep11 w l' hE11 hO11 hF_ hS
        obtain ⟨q0i, q0w, -⟩ := hF_
        replace q0i : Ep11 76 = .map (some q2) := emk q0i
        replace q0w : Ep11 78 = .agg #[.int .i64 e40.1.fa.Layer, .int .i64 e40.1.fa.X, .int .i64 e40.1.fa.Y] := emk q0w
        replace hS : St w0 w (mapA q2 kf_61 (Value.int .i64) q7 :: l') := emk hS
        refine pa (at_look (k := (T_rules_Spot.mk e40.1.fa.Layer e40.1.fa.X e40.1.fa.Y)) um_80 kp_61 (zero1 zv_3) q0i q0w hS hx79) <| x_done <| ?_
        refine x_fin ⟨⟨_, rfl⟩, rfl, ?_⟩
        exact emk hS
       ·intro Ep11 w l' hE11 hO11 hF_ hS
        obtain ⟨q0i, q0w, -⟩ := hF_
        replace q0i : Ep11 76 = .map (some q2) := emk q0i
        replace q0w : Ep11 78 = .agg #[.int .i64 e40.1.fa.Layer, .int .i64 e40.1.fa.X, .int .i64 e40.1.fa.Y] := emk q0w
        replace hS : St w0 w (mapA q2 kf_61 (Value.int .i64) q32 :: l') := emk hS
        refine pa (at_look (k := (T_rules_Spot.mk e40.1.fa.Layer e40.1.fa.X e40.1.fa.Y)) um_80 kp_61 (zero1 zv_3) q0i q0w hS (hx79.trans (mget_ent q2x hx81).symm)) <| x_done <| ?_
        refine x_fin ⟨⟨_, rfl⟩, rfl, ?_⟩
        exact emk hS
      ·intro Ep11 w l' hE11 hO11 hF_ hS
       obtain ⟨q1w, -⟩ := hF_
       replace q1w : Ep11 79 = .int .i64 x79 := emk q1w
       refine p (yadd q1w rfl hx80) <| x_done <| ?_
       refine x_fin ⟨⟨_, rfl⟩, rfl, ?_⟩
       exact emk hS
      ·intro Ep11 w l' hE11 hO11 hF_ hS
       obtain ⟨q0i, q0w, -⟩ := hF_
       replace q0i : Ep11 76 = .map (some q2) := emk q0i
       replace q0w : Ep11 78 = .agg #[.int .i64 e40.1.fa.Layer, .int .i64 e40.1.fa.X, .int .i64 e40.1.fa.Y] := emk q0w
       replace hS : St w0 w (mapA q2 kf_61 (Value.int .i64) q7 :: l') := emk hS
       refine o_mapEntry (k := (T_rules_Spot.mk e40.1.fa.Layer e40.1.fa.X e40.1.fa.Y)) (vf := (Value.int .i64)) um_80 kp_61 (zero1 zv_3) q0i q0w hS hx81 q2x (fun w' hS => ?_)
       refine x_done <| ?_
       refine x_fin ⟨⟨_, rfl⟩, rfl, ?_⟩
       exact emk hS
      ·intro Ep11 w l' hE11 hO11 hF_ hS
       obtain ⟨q1x, -⟩ := hF_
       replace q1x : Ep11 81 = .tuple #[.int .i64 x81, .int .i64 ((mpos (T_rules_Spot.mk e40.1.fa.Layer e40.1.fa.X e40.1.fa.Y) q7 : Nat) : Int)] := emk q1x
       refine p (yl_extract q1x rfl) <| x_done <| ?_
       refine x_fin ⟨⟨_, rfl⟩, rfl, ?_⟩
       exact emk hS
      ·intro Ep11 w l' hE11 hO11 hF_ hS
       obtain ⟨q0i, q1y, q1z, -⟩ := hF_
       replace q0i : Ep11 76 = .map (some q2) := emk q0i
       replace q1y : Ep11 80 = .int .i64 x80 := emk q1y
       replace q1z : Ep11 82 = .int .i64 ((mpos (T_rules_Spot.mk e40.1.fa.Layer e40.1.fa.X e40.1.fa.Y) q7 : Nat) : Int) := emk q1z
       replace hS : St w0 w (mapA q2 kf_61 (Value.int .i64) q32 :: l') := emk hS
       refine o_entryStore (k := (T_rules_Spot.mk e40.1.fa.Layer e40.1.fa.X e40.1.fa.Y)) (es := q7) (v0 := x81) (vf := (Value.int .i64)) (v := x80) q0i q1z q1y rfl q2x hS q3e (fun w' hS => ?_)
       refine x_done <| ?_
       refine x_fin ⟨⟨undef, rfl⟩, trivial, ?_⟩
       exact emk hS
     intro Ep11 w' hE11 hF_ hS
     obtain ⟨q1s, q1t, q1u, q0i, q1v, q0w, q1w, q1y, q1x, q1z, -⟩ := hF_
     replace q1s : Ep11 73 = .pointer (some ⟨q4, 0, none⟩) := emk q1s
     replace q1t : Ep11 74 = .pointer (some ⟨q4, 0, none⟩) := emk q1t
     replace q1u : Ep11 75 = .pointer (some ⟨q4, 9, none⟩) := emk q1u
     replace q0i : Ep11 76 = .map (some q2) := emk q0i
     replace q1v : Ep11 77 = .pointer (some ⟨b9, 0, none⟩) := emk q1v
     replace q0w : Ep11 78 = .agg #[.int .i64 e40.1.fa.Layer, .int .i64 e40.1.fa.X, .int .i64 e40.1.fa.Y] := emk q0w
     replace q1w : Ep11 79 = .int .i64 x79 := emk q1w
     replace q1y : Ep11 80 = .int .i64 x80 := emk q1y
     replace q1x : Ep11 81 = .tuple #[.int .i64 x81, .int .i64 ((mpos (T_rules_Spot.mk e40.1.fa.Layer e40.1.fa.X e40.1.fa.Y) q7 : Nat) : Int)] := emk q1x
     replace q1z : Ep11 82 = .int .i64 ((mpos (T_rules_Spot.mk e40.1.fa.Layer e40.1.fa.X e40.1.fa.Y) q7 : Nat) : Int) := emk q1z
     replace hS : St w0 w' (cells q4 82 [.int .i64 q0l, .int .i64 q0m, .int .i64 q0n, .int .i64 q0o, .slice q0b q0p.length c_t0_4, .slice q0c q0q.length c_t0_5, .slice q0d q0r.length c_t0_6, .slice q0e q0s.length c_t0_7, .map (some q3), .map (some q2), .map (some q5)] :: cells b9 94 [.int .i64 e40.1.fa.Layer, .int .i64 e40.1.fa.X, .int .i64 e40.1.fa.Y, .int .i64 e40.1.fb.Layer, .int .i64 e40.1.fb.X, .int .i64 e40.1.fb.Y] :: mapA q2 kf_61 (Value.int .i64) q2y :: (cells (blkOf (Ep9 62)) 94 [.int .i64 e40.1.fa.Layer, .int .i64 e40.1.fa.X, .int .i64 e40.1.fa.Y, .int .i64 e40.1.fb.Layer, .int .i64 e40.1.fb.X, .int .i64 e40.1.fb.Y] :: ro ρ :: mapS 94 R_extract_step q3 kf_61 q20 :: cells (blkOf (Ep8 50)) 94 [.int .i64 e40.1.fa.Layer, .int .i64 e40.1.fa.X, .int .i64 e40.1.fa.Y, .int .i64 e40.1.fb.Layer, .int .i64 e40.1.fb.X, .int .i64 e40.1.fb.Y] :: itA b37 q0a q0u.length (q13 ++ [i38]) :: mapA q0a kf_94 Value.bool q0u :: mapA q5 kf_61 (Value.int .i64) q0z :: mapA q0f kf_61 Value.bool q12 :: mapA q8 kf_61 Value.bool others2 :: l)) := emk hS
     exact x_inv ⟨q2y, hFc72, ((hE11 0 rfl).trans ((hE9 0 rfl).trans ((hE8 0 rfl).trans q1e))), ((hE11 37 rfl).trans ((hE9 37 rfl).trans ((hE8 37 rfl).trans q1n))), ((((((((((((hS.pull 1).drop.pull 2).drop.pull 4).drop.pull 2).pull 8).pull 8).pull 8).pull 5).pull 6).pull 7).pull 8).pull 8)⟩
    ·replace hFc72 := nit_f hc72 hFc72
     refine x_skip <| ?_
     exact x_inv ⟨q7, hFc72, ((hE9 0 rfl).trans ((hE8 0 rfl).trans q1e)), ((hE9 37 rfl).trans ((hE8 37 rfl).trans q1n)), ((((((((((((hS.pull 1).drop.pull 1).drop.pull 3).drop.pull 1).pull 8).pull 8).pull 8).pull 8).pull 6).pull 7).pull 8).pull 8)⟩
   rintro E w ⟨q15, hq_, q3w, q3f, hS⟩
   replace hFL6 := hFL6 _ hq_
   clear hq_
   refine x_blk <| ?_
   exact x_inv ⟨kL6, Nat.lt_succ_self _, (q13 ++ [i38]), q20, q15, (hLL6 _ hFL6), q3w, q3f, (((((((((hS.pull 8).pull 8).pull 8).pull 8).pull 8).pull 8).pull 8).pull 8).pull 8)⟩
 rintro E w ⟨q19, q1a, hq_, hS⟩
 replace hF := hF _ hq_
 clear hq_
 exact x_fin ⟨_, rfl, (q19, q1a), hF, rfl, ((((((((hS.pull 7).pull 7).pull 7).pull 7).pull 7).pull 7).pull 7).pull 7)⟩
attribute [irreducible] P_extract_tree_fill

def P_extract_tree_grow_L9 (q0a : T_extract_visit) (q0d : List T_extract_step) : (List T_extract_visit × List (T_rules_Spot × Bool) × Int × Int) → Option ((List T_extract_visit × List (T_rules_Spot × Bool) × Int × Int) ⊕ (List T_extract_visit × List (T_rules_Spot × Bool) × Int)) := fun (q4, q3, q9, q8) =>
 if q8 < (q0d.length : Int) then
  bd (
   ck (inb q8 q0d.length) <|
   lv (gt q0d q8) fun q2 =>
   ar (q9 + 1) fun x48 =>
   lv ((q2.fa.Layer == q0a.fat.Layer) && ((q2.fa.X == q0a.fat.X) && ((q2.fa.Y == q0a.fat.Y) && true))) fun x54 =>
   bd (
    if x54 = true then
     some (q2.fb.Layer, q2.fb.X, q2.fb.Y)
    else
     some (q2.fa.Layer, q2.fa.X, q2.fa.Y)) fun (q5, q6, q7) =>
   lv (mget (T_rules_Spot.mk q5 q6 q7) q3 false) fun x59 =>
   if x59 = true then
    some (q4, q3, x48)
   else
    lv (mput (T_rules_Spot.mk q5 q6 q7) true q3) fun q0g =>
    bd (P_extract_step_resistance q2) fun q0h =>
    lv (q4 ++ [(T_extract_visit.mk (T_rules_Spot.mk q5 q6 q7) (T_rules_Spot.mk q0a.fat.Layer q0a.fat.X q0a.fat.Y) q0h)]) fun q0f =>
    ck (apOk 56 q0f.length) <|
    some (q0f, q0g, x48)) fun (q0b, q0e, q0c) =>
  ar (q8 + 1) fun x71 =>
  some (Sum.inl (q0b, q0e, q0c, x71))
 else
  some (Sum.inr (q4, q3, q9))
def P_extract_tree_grow_L5 (q0a : List (T_rules_Spot × List T_extract_step)) : (List T_extract_visit × List (T_rules_Spot × Bool) × Int × Int) → Option ((List T_extract_visit × List (T_rules_Spot × Bool) × Int × Int) ⊕ (List T_extract_visit × Int)) := fun (q2, q6, q3, q4) =>
 if q4 < (q2.length : Int) then
  ck (inb q4 q2.length) <|
  lv (gt q2 q4) fun q5 =>
  lv (mget (T_rules_Spot.mk q5.fat.Layer q5.fat.X q5.fat.Y) q0a []) fun q0b =>
  bd (
   lp (P_extract_tree_grow_L9 q5 q0b) fuel (q2, q6, q3, 0)) fun (q7, q9, q8) =>
  ar (q4 + 1) fun x30 =>
  some (Sum.inl (q7, q9, q8, x30))
 else
  some (Sum.inr (q2, q3))
def P_extract_tree_grow_L23 (q0b : List (T_rules_Spot × Int)) (q6 : List T_extract_visit) : (List (T_rules_Spot × Int) × Int) → Option ((List (T_rules_Spot × Int) × Int) ⊕ List (T_rules_Spot × Int)) := fun (q3, q4) =>
 if 0 ≤ q4 then
  ck (inb q4 q6.length) <|
  lv (gt q6 q4) fun q2 =>
  lv (mget (T_rules_Spot.mk q2.fat.Layer q2.fat.X q2.fat.Y) q3 0) fun x93 =>
  lv (mget (T_rules_Spot.mk q2.fat.Layer q2.fat.X q2.fat.Y) q0b 0) fun x100 =>
  ar (x93 + x100) fun x101 =>
  lv (mget (T_rules_Spot.mk q2.fat.Layer q2.fat.X q2.fat.Y) q3 0) fun x102 =>
  lv (mput (T_rules_Spot.mk q2.fat.Layer q2.fat.X q2.fat.Y) x102 q3) fun q8 =>
  lv (mput (T_rules_Spot.mk q2.fat.Layer q2.fat.X q2.fat.Y) x101 q8) fun q5 =>
  bd (
   if 0 < q4 then
    lv (mget (T_rules_Spot.mk q2.fup.Layer q2.fup.X q2.fup.Y) q5 0) fun x109 =>
    lv (mget (T_rules_Spot.mk q2.fat.Layer q2.fat.X q2.fat.Y) q5 0) fun x113 =>
    ar (x109 + x113) fun x114 =>
    lv (mget (T_rules_Spot.mk q2.fup.Layer q2.fup.X q2.fup.Y) q5 0) fun x115 =>
    lv (mput (T_rules_Spot.mk q2.fup.Layer q2.fup.X q2.fup.Y) x115 q5) fun q0a =>
    lv (mput (T_rules_Spot.mk q2.fup.Layer q2.fup.X q2.fup.Y) x114 q0a) fun q9 =>
    some q9
   else
    some q5) fun q7 =>
  ar (q4 - 1) fun x85 =>
  some (Sum.inl (q7, x85))
 else
  some (Sum.inr q3)
def P_extract_tree_grow_L30 (q5 : List T_extract_visit) (q6 : List (T_rules_Spot × Int)) : (Int × List (T_rules_Spot × Int)) → Option ((Int × List (T_rules_Spot × Int)) ⊕ List (T_rules_Spot × Int)) := fun (q4, q3) =>
 if q4 < (q5.length : Int) then
  ck (inb q4 q5.length) <|
  lv (gt q5 q4) fun q2 =>
  bd (
   if q4 = 0 then
    lv (mput (T_rules_Spot.mk q2.fat.Layer q2.fat.X q2.fat.Y) 0 q3) fun q9 =>
    some q9
   else
    lv (mget (T_rules_Spot.mk q2.fup.Layer q2.fup.X q2.fup.Y) q3 0) fun x144 =>
    lv (mget (T_rules_Spot.mk q2.fat.Layer q2.fat.X q2.fat.Y) q6 0) fun x150 =>
    ar (q2.fres * x150) fun x151 =>
    ar (x144 + x151) fun x152 =>
    lv (mput (T_rules_Spot.mk q2.fat.Layer q2.fat.X q2.fat.Y) x152 q3) fun q8 =>
    some q8) fun q7 =>
  ar (q4 + 1) fun x153 =>
  some (Sum.inl (x153, q7))
 else
  some (Sum.inr q3)
def P_extract_tree_grow (q0a : Int) (q0b : Int) (q0c : Int) (q0d : Int) (q0e : List T_rules_Wire) (q0f : List T_rules_Via) (q0g : List T_rules_Pin) (q0h : List T_floor_Wall) (q7 : List (T_rules_Spot × List T_extract_step)) (q8 : List (T_rules_Spot × Int)) (q6 : List (T_rules_Spot × Int)) (root1 : T_rules_Spot) : Option (Bool × List (T_rules_Spot × Int)) :=
 lv (mput root1 true []) fun q9 =>
 bd (
  lp (P_extract_tree_grow_L5 q7) fuel (([(T_extract_visit.mk root1 root1 0)] : List T_extract_visit), q9, 0, 0)) fun (q2, q5) =>
 ar ((q2.length : Int) - 1) fun x75 =>
 ar ((2 : Int) * x75) fun x76 =>
 if q5 ≠ x76 then
  some (false, q6)
 else
  ar ((q2.length : Int) - 1) fun x81 =>
  bd (
   lp (P_extract_tree_grow_L23 q8 q2) fuel ([], x81)) fun q3 =>
  bd (
   lp (P_extract_tree_grow_L30 q2 q3) fuel (0, q6)) fun q4 =>
  some (true, q4)
theorem c_extract_tree_grow {w0 w : World} {l : List Assn} {ρ : Heap} {q0g : Nat} {q0k : Option Addr} {q3j : Nat} {c_t0_4 : Nat} {q0l : Option Addr} {q3k : Nat} {c_t0_5 : Nat} {q0m : Option Addr} {q3l : Nat} {c_t0_6 : Nat} {q0n : Option Addr} {q3m : Nat} {c_t0_7 : Nat} {q0b : Nat} {q0i : List Hd} {q6 : Nat} {q5 : Nat} {q0w : Int} {q0x : Int} {q0y : Int} {q0z : Int} {q12 : List T_rules_Wire} {q13 : List T_rules_Via} {q14 : List T_rules_Pin} {q15 : List T_floor_Wall} {q10 : List (T_rules_Spot × List T_extract_step)} {q0t : List (T_rules_Spot × Int)} {q16 : List (T_rules_Spot × Int)} {root1 : T_rules_Spot} {r : (Bool × List (T_rules_Spot × Int))} (hF : P_extract_tree_grow q0w q0x q0y q0z q12 q13 q14 q15 q10 q0t q16 root1 = some r) (q52 : RdS R_rules_Wire ρ q0k q3j c_t0_4 q12) (q53 : RdS R_rules_Via ρ q0l q3k c_t0_5 q13) (q54 : RdS R_rules_Pin ρ q0m q3l c_t0_6 q14) (q55 : RdS R_floor_Wall ρ q0n q3m c_t0_7 q15) (q4t : RdM R_extract_step ρ q10 q0i) (hS : St w0 w (cells q0g 82 [.int .i64 q0w, .int .i64 q0x, .int .i64 q0y, .int .i64 q0z, .slice q0k q3j c_t0_4, .slice q0l q3k c_t0_5, .slice q0m q3l c_t0_6, .slice q0n q3m c_t0_7, .map (some q0b), .map (some q6), .map (some q5)] :: mapA q0b kf_61 Hd.v (zipK q10 q0i) :: mapA q6 kf_61 (Value.int .i64) q0t :: mapA q5 kf_61 (Value.int .i64) q16 :: ro ρ :: l)) :
  Calls Try.prog 39 #[.pointer (some ⟨q0g, 0, none⟩), .agg #[.int .i64 root1.Layer, .int .i64 root1.X, .int .i64 root1.Y]] w fun e w' => e = .returned (.bool r.1) ∧ St w0 w' (cells q0g 82 [.int .i64 q0w, .int .i64 q0x, .int .i64 q0y, .int .i64 q0z, .slice q0k q3j c_t0_4, .slice q0l q3k c_t0_5, .slice q0m q3l c_t0_6, .slice q0n q3m c_t0_7, .map (some q0b), .map (some q6), .map (some q5)] :: mapA q0b kf_61 Hd.v (zipK q10 q0i) :: mapA q6 kf_61 (Value.int .i64) q0t :: mapA q5 kf_61 (Value.int .i64) r.2 :: ro ρ :: l) := by
 have e_ := q52.n; subst e_
 have e_ := q53.n; subst e_
 have e_ := q54.n; subst e_
 have e_ := q55.n; subst e_
 refine enterC Try.func39 rfl 154 rfl (by simp) ?_
 refine x_seq <| x_region <| ?_
 refine o_box (cs := [.int .i64 root1.Layer, .int .i64 root1.X, .int .i64 root1.Y]) rfl rfl hS (fun b3 w' hS => ?_)
 refine p (yl_assign rfl) <| x_done <| x_seq <| x_region <|
  pa (v := .agg #[.int .i64 root1.Layer, .int .i64 root1.X, .int .i64 root1.Y]) (ld_sub agg_61 rfl rfl rfl hS) <| pa (v := .agg #[.int .i64 root1.Layer, .int .i64 root1.X, .int .i64 root1.Y]) (ld_sub agg_61 rfl rfl rfl hS) <| p (v := .agg #[.int .i64 root1.Layer, .int .i64 root1.X, .int .i64 root1.Y, .int .i64 root1.Layer, .int .i64 root1.X, .int .i64 root1.Y, .int .i64 0]) (yl_build bld_116 bldf_116 (parts_eq (pt (va := .agg #[.int .i64 root1.Layer, .int .i64 root1.X, .int .i64 root1.Y]) rfl (pt (va := .agg #[.int .i64 root1.Layer, .int .i64 root1.X, .int .i64 root1.Y]) rfl (pt (va := .int .i64 0) rfl pt0)))) (by kernel_rfl)) <| ?_
 refine o_buildSlice (vs := [.agg #[.int .i64 root1.Layer, .int .i64 root1.X, .int .i64 root1.Y, .int .i64 root1.Layer, .int .i64 root1.X, .int .i64 root1.Y, .int .i64 0]]) (cs := [.int .i64 root1.Layer, .int .i64 root1.X, .int .i64 root1.Y, .int .i64 root1.Layer, .int .i64 root1.X, .int .i64 root1.Y, .int .i64 0]) sl_117 zero_116 (parts_eq (pt (va := .agg #[.int .i64 root1.Layer, .int .i64 root1.X, .int .i64 root1.Y, .int .i64 root1.Layer, .int .i64 root1.X, .int .i64 root1.Y, .int .i64 0]) rfl pt0)) rfl (by intro v hv; simp only [List.mem_cons, List.not_mem_nil, or_false] at hv; first | (subst hv; rfl) | (rcases hv with rfl <;> rfl)) (by decide) rfl hS (fun b21 w' hS => ?_)
 refine p (yl_assign rfl) <| x_done <| x_seq <| x_region <| ?_
 refine o_mkmap (κ := T_rules_Spot) (α := Bool) kf_61 Value.bool hS (fun b22 w' hS => ?_)
 refine pa (v := .agg #[.int .i64 root1.Layer, .int .i64 root1.X, .int .i64 root1.Y]) (ld_sub agg_61 rfl rfl rfl (hS.pull 2)) <| ?_
 replace hF := lv_s hF; obtain ⟨q67, q5o, hF⟩ := hF
 refine o_insert (k := root1) (vf := Value.bool) (v := true) um_84 kp_61 rfl rfl rfl hS q5o (fun w' hS => ?_)
 refine p (yl_move rfl) <| p (yl_assign rfl) <| x_done <| x_seq <|
  x_region <| p (yl_assign rfl) <| x_done <| x_seq <|
  x_seq <| x_region <| p (yl_assign rfl) <| x_done <| ?_
 replace hF := bd_s hF; obtain ⟨oL5, hLL5, hF⟩ := hF
 refine x_join (fun E w => ∃ (q0f : Option Addr) (q1q : Nat) (c_order5_L5 : Nat) (q0j : List Value) (q7 : List T_extract_visit) (q22 : Int), (q7, q22) = oL5 ∧ E 0 = .pointer (some ⟨q0g, 0, none⟩) ∧ E 5 = .slice q0f q1q c_order5_L5 ∧ E 7 = .int .i64 q22 ∧ RepL R_extract_visit ρ q7 q0j ∧ St w0 w (cells q0g 82 [.int .i64 q0w, .int .i64 q0x, .int .i64 q0y, .int .i64 q0z, .slice q0k q12.length c_t0_4, .slice q0l q13.length c_t0_5, .slice q0m q14.length c_t0_6, .slice q0n q15.length c_t0_7, .map (some q0b), .map (some q6), .map (some q5)] :: vec 116 R_extract_visit.sz (.slice q0f q1q c_order5_L5) q1q q0j :: mapA q0b kf_61 Hd.v (zipK q10 q0i) :: mapA q6 kf_61 (Value.int .i64) q0t :: mapA q5 kf_61 (Value.int .i64) q16 :: ro ρ :: l)) ?_ ?_
 ·refine x_block ?_
  have q47 : RepL R_extract_visit ρ ([(T_extract_visit.mk root1 root1 0)] : List T_extract_visit) [.int .i64 root1.Layer, .int .i64 root1.X, .int .i64 root1.Y, .int .i64 root1.Layer, .int .i64 root1.X, .int .i64 root1.Y, .int .i64 0] := (RepL.cons (cs := [.int .i64 root1.Layer, .int .i64 root1.X, .int .i64 root1.Y, .int .i64 root1.Layer, .int .i64 root1.X, .int .i64 root1.Y, .int .i64 0]) rfl RepL.nil)
  replace hS := St.vec_of (n := 1) (sz := R_extract_visit.sz) (hS.pull 1) rfl (by decide)
  refine x_loop (fun k_ E w => ∃ (q1a : Option Addr) (q1g : Nat) (c_order5_L5h : Nat) (q17 : List Value) (q0r : List T_extract_visit) (q23 : List (T_rules_Spot × Bool)) (q1h : Int) (q1v : Int), lp (P_extract_tree_grow_L5 q10) k_ (q0r, q23, q1h, q1v) = some oL5 ∧ E 0 = .pointer (some ⟨q0g, 0, none⟩) ∧ E 5 = .slice q1a q1g c_order5_L5h ∧ E 6 = .map (some b22) ∧ E 7 = .int .i64 q1h ∧ E 8 = .int .i64 q1v ∧ RepL R_extract_visit ρ q0r q17 ∧ St w0 w (cells q0g 82 [.int .i64 q0w, .int .i64 q0x, .int .i64 q0y, .int .i64 q0z, .slice q0k q12.length c_t0_4, .slice q0l q13.length c_t0_5, .slice q0m q14.length c_t0_6, .slice q0n q15.length c_t0_7, .map (some q0b), .map (some q6), .map (some q5)] :: vec 116 R_extract_visit.sz (.slice q1a q1g c_order5_L5h) q1g q17 :: mapA b22 kf_61 Value.bool q23 :: mapA q0b kf_61 Hd.v (zipK q10 q0i) :: mapA q6 kf_61 (Value.int .i64) q0t :: mapA q5 kf_61 (Value.int .i64) q16 :: ro ρ :: l)) fuel ⟨(some ⟨b21, 0, none⟩), 1, 1, [.int .i64 root1.Layer, .int .i64 root1.X, .int .i64 root1.Y, .int .i64 root1.Layer, .int .i64 root1.X, .int .i64 root1.Y, .int .i64 0], ([(T_extract_visit.mk root1 root1 0)] : List T_extract_visit), q67, 0, 0, hLL5, rfl, rfl, rfl, rfl, rfl, q47, ((((((((hS.pull 2).drop.pull 6).pull 6).pull 6).pull 6).pull 5).pull 5).pull 6)⟩ ?_
  rintro kL5 E w ⟨q1a, q1g, c_order5_L5h, q17, q0r, q23, q1h, q1v, hLL5, q3n, q3d, q56, q48, q3o, q1b, hS⟩
  have e_ := St.vec_n (hS.pull 1) q1b; subst e_
  replace hLL5 := lp_s hLL5; obtain ⟨kL5, obL5, rfl, hFL5, hLL5⟩ := hLL5
  refine x_seq <| x_seq <| x_region <| p (yl_move q3o) <|
   p (yl_move q3d) <| p (yl_len_slice usl_117 rfl) <| p (yl_lss rfl rfl) <| x_done <|
   x_cond_p (q1v < (q0r.length : Int)) rfl (fun hc28 => ?_) (fun hc28 => ?_)
  ·replace hFL5 := it_t hc28 hFL5
   replace hFL5 := ck_s hFL5; obtain ⟨q4q, hFL5⟩ := hFL5
   replace hFL5 := lv_s hFL5; obtain ⟨q3, q5p, hFL5⟩ := hFL5
   have q_ := q1b.get q4q; obtain ⟨q6b, q4r, q5q⟩ := q_
   rw [← q5p] at q4r
   have e_ := q4r; subst e_
   refine x_skip <| x_seq <| x_block <| x_seq <|
    x_region <| p (yl_move q3d) <| p (yl_move q3o) <| p (yix_o sl_117 rfl rfl (hS.pull 1) q1b q4q) <|
    pa (v := .agg #[.int .i64 q3.fat.Layer, .int .i64 q3.fat.X, .int .i64 q3.fat.Y, .int .i64 q3.fup.Layer, .int .i64 q3.fup.X, .int .i64 q3.fup.Y, .int .i64 q3.fres]) (at_loadAgg agg_116 rfl rfl (EltV.every q5q (hS.pull 1))) <| ?_
   refine o_alloc zero_116 hS (fun b9 w' hS => ?_)
   refine o_storeAgg (news := [.int .i64 q3.fat.Layer, .int .i64 q3.fat.X, .int .i64 q3.fat.Y, .int .i64 q3.fup.Layer, .int .i64 q3.fup.X, .int .i64 q3.fup.Y, .int .i64 q3.fres]) agg_116 rfl rfl rfl (by simp [over_length]) hS (fun w' hS => ?_)
   replace hFL5 := lv_s hFL5; obtain ⟨q2d, q5r, hFL5⟩ := hFL5
   have q_ := RdM.get q4t (T_rules_Spot.mk q3.fat.Layer q3.fat.X q3.fat.Y); obtain ⟨q41, q6c, q42, q5s, q43⟩ := q_
   rw [← q5r] at q43
   have e_ := q43.n; subst e_
   refine x_done <| x_seq <| x_still mixed (by kernel_rfl) hS <| q (yl_move q3n) <|
    q (yl_nilCheck rfl) <| q (yl_field0 fld_82_1 rfl) <| qa (fun w' hS => at_load one_79 rfl ((hS.pull 1).cell rfl)) <| q (yl_field0 fld_116_0 rfl) <|
    qa (v := .agg #[.int .i64 q3.fat.Layer, .int .i64 q3.fat.X, .int .i64 q3.fat.Y]) (fun w' hS => ld_sub agg_61 rfl rfl rfl hS) <| qa (v := .slice q41 q2d.length q42) (fun w' hS => at_look (k := (T_rules_Spot.mk q3.fat.Layer q3.fat.X q3.fat.Y)) (vf := Hd.v) (d := nilH) um_79 kp_61 (zero1 zv_114) rfl rfl (hS.pull 4) q5s.symm) <| q (yl_len_slice usl_114 rfl) <| q (yl_move rfl) <|
    q_done fun w' hS => ?_
   replace hFL5 := bd_s hFL5; obtain ⟨oL9, hLL9, hFL5⟩ := hFL5
   refine x_join (fun E w => ∃ (q1r : Option Addr) (q1s : Nat) (c_order5_L9 : Nat) (q1i : List Value) (q1w : List T_extract_visit) (q2e : List (T_rules_Spot × Bool)) (q24 : Int), (q1w, q2e, q24) = oL9 ∧ E 0 = .pointer (some ⟨q0g, 0, none⟩) ∧ E 5 = .slice q1r q1s c_order5_L9 ∧ E 6 = .map (some b22) ∧ E 7 = .int .i64 q24 ∧ E 8 = .int .i64 q1v ∧ RepL R_extract_visit ρ q1w q1i ∧ St w0 w (cells q0g 82 [.int .i64 q0w, .int .i64 q0x, .int .i64 q0y, .int .i64 q0z, .slice q0k q12.length c_t0_4, .slice q0l q13.length c_t0_5, .slice q0m q14.length c_t0_6, .slice q0n q15.length c_t0_7, .map (some q0b), .map (some q6), .map (some q5)] :: vec 116 R_extract_visit.sz (.slice q1r q1s c_order5_L9) q1s q1i :: mapA b22 kf_61 Value.bool q2e :: mapA q0b kf_61 Hd.v (zipK q10 q0i) :: mapA q6 kf_61 (Value.int .i64) q0t :: mapA q5 kf_61 (Value.int .i64) q16 :: ro ρ :: l)) ?_ ?_
   ·refine x_block ?_
    refine x_loop (fun k_ E w => ∃ (q0h : Option Addr) (q1j : Nat) (c_order5_L9h : Nat) (q0o : List Value) (q0e : List T_extract_visit) (q1e : List (T_rules_Spot × Bool)) (q1z : Int) (q20 : Int), lp (P_extract_tree_grow_L9 q3 q2d) k_ (q0e, q1e, q1z, q20) = some oL9 ∧ E 0 = .pointer (some ⟨q0g, 0, none⟩) ∧ E 5 = .slice q0h q1j c_order5_L9h ∧ E 6 = .map (some b22) ∧ E 7 = .int .i64 q1z ∧ E 8 = .int .i64 q1v ∧ E 9 = .pointer (some ⟨b9, 0, none⟩) ∧ E 41 = .slice q41 q2d.length q42 ∧ E 42 = .int .i64 (q2d.length : Int) ∧ E 43 = .int .i64 q20 ∧ RepL R_extract_visit ρ q0e q0o ∧ St w0 w (cells q0g 82 [.int .i64 q0w, .int .i64 q0x, .int .i64 q0y, .int .i64 q0z, .slice q0k q12.length c_t0_4, .slice q0l q13.length c_t0_5, .slice q0m q14.length c_t0_6, .slice q0n q15.length c_t0_7, .map (some q0b), .map (some q6), .map (some q5)] :: vec 116 R_extract_visit.sz (.slice q0h q1j c_order5_L9h) q1j q0o :: mapA b22 kf_61 Value.bool q1e :: cells b9 116 [.int .i64 q3.fat.Layer, .int .i64 q3.fat.X, .int .i64 q3.fat.Y, .int .i64 q3.fup.Layer, .int .i64 q3.fup.X, .int .i64 q3.fup.Y, .int .i64 q3.fres] :: mapA q0b kf_61 Hd.v (zipK q10 q0i) :: mapA q6 kf_61 (Value.int .i64) q0t :: mapA q5 kf_61 (Value.int .i64) q16 :: ro ρ :: l)) fuel ⟨q1a, q0r.length, c_order5_L5h, q17, q0r, q23, q1h, 0, hLL9, q3n, q3d, q56, q48, q3o, rfl, rfl, rfl, rfl, q1b, ((((((((hS.pull 7).pull 7).pull 7).pull 7).pull 4).pull 7).pull 7).pull 7)⟩ ?_
    rintro kL9 E w ⟨q0h, q1j, c_order5_L9h, q0o, q0e, q1e, q1z, q20, hLL9, q3p, q3q, q3r, q49, q3s, q3t, q3f, q3g, q2i, q1k, hS⟩
    have e_ := St.vec_n (hS.pull 1) q1k; subst e_
    replace hLL9 := lp_s hLL9; obtain ⟨kL9, obL9, rfl, hFL9, hLL9⟩ := hLL9
    refine x_seq <| x_region <| p (yl_lss q2i q3g) <| x_done <|
     x_seq <|
     x_cond_p (q20 < (q2d.length : Int)) rfl (fun hc44 => ?_) (fun hc44 => ?_)
    ·replace hFL9 := it_t hc44 hFL9
     refine x_skip <| x_seq <| ?_
     replace hFL9 := bd_s hFL9; obtain ⟨ob3, hFb3, hFL9⟩ := hFL9
     refine x_join (fun E w => ∃ (q1t : Option Addr) (q1u : Nat) (c_order5_b3 : Nat) (q1l : List Value) (q1x : List T_extract_visit) (q2f : List (T_rules_Spot × Bool)) (q25 : Int), (q1x, q2f, q25) = ob3 ∧ E 0 = .pointer (some ⟨q0g, 0, none⟩) ∧ E 5 = .slice q1t q1u c_order5_b3 ∧ E 6 = .map (some b22) ∧ E 7 = .int .i64 q25 ∧ E 8 = .int .i64 q1v ∧ E 9 = .pointer (some ⟨b9, 0, none⟩) ∧ E 41 = .slice q41 q2d.length q42 ∧ E 42 = .int .i64 (q2d.length : Int) ∧ E 43 = .int .i64 q20 ∧ RepL R_extract_visit ρ q1x q1l ∧ St w0 w (cells q0g 82 [.int .i64 q0w, .int .i64 q0x, .int .i64 q0y, .int .i64 q0z, .slice q0k q12.length c_t0_4, .slice q0l q13.length c_t0_5, .slice q0m q14.length c_t0_6, .slice q0n q15.length c_t0_7, .map (some q0b), .map (some q6), .map (some q5)] :: vec 116 R_extract_visit.sz (.slice q1t q1u c_order5_b3) q1u q1l :: mapA b22 kf_61 Value.bool q2f :: cells b9 116 [.int .i64 q3.fat.Layer, .int .i64 q3.fat.X, .int .i64 q3.fat.Y, .int .i64 q3.fup.Layer, .int .i64 q3.fup.X, .int .i64 q3.fup.Y, .int .i64 q3.fres] :: mapA q0b kf_61 Hd.v (zipK q10 q0i) :: mapA q6 kf_61 (Value.int .i64) q0t :: mapA q5 kf_61 (Value.int .i64) q16 :: ro ρ :: l)) ?_ ?_
     ·replace hFb3 := ck_s hFb3; obtain ⟨q4a, hFb3⟩ := hFb3
      replace hFb3 := lv_s hFb3; obtain ⟨q4, q57, hFb3⟩ := hFb3
      have q_ := q43.get q4a; obtain ⟨q68, q4b, q58⟩ := q_
      rw [← q57] at q4b
      have e_ := q4b; subst e_
      refine x_block <| x_seq <| x_region <| p (yix_f sl_114 q3f q2i q43 q4a) <|
       pa (v := .agg #[.int .i64 q4.fa.Layer, .int .i64 q4.fa.X, .int .i64 q4.fa.Y, .int .i64 q4.fb.Layer, .int .i64 q4.fb.X, .int .i64 q4.fb.Y]) (at_loadAgg agg_94 rfl rfl (Elt.every q58 (hS.pull 7))) <| ?_
      refine o_alloc zero_94 hS (fun b11 w' hS => ?_)
      refine o_storeAgg (news := [.int .i64 q4.fa.Layer, .int .i64 q4.fa.X, .int .i64 q4.fa.Y, .int .i64 q4.fb.Layer, .int .i64 q4.fb.X, .int .i64 q4.fb.Y]) agg_94 rfl rfl rfl (by simp [over_length]) hS (fun w' hS => ?_)
      replace hFb3 := ar_s hFb3; obtain ⟨x48, hx48, hFb3⟩ := hFb3
      refine x_done <| x_seq <| x_region <| p (yl_move q49) <|
       p (yadd rfl rfl hx48) <| p (yl_assign rfl) <| x_done <| x_seq <|
       x_region <| p (yl_field0 fld_94_0 rfl) <| pa (v := .agg #[.int .i64 q4.fa.Layer, .int .i64 q4.fa.X, .int .i64 q4.fa.Y]) (ld_sub agg_61 rfl rfl rfl hS) <| ?_
      refine o_alloc zero_61 hS (fun b12 w' hS => ?_)
      refine o_storeAgg (news := [.int .i64 q4.fa.Layer, .int .i64 q4.fa.X, .int .i64 q4.fa.Y]) agg_61 rfl rfl rfl (by simp [over_length]) hS (fun w' hS => ?_)
      replace hFb3 := lv_s hFb3; obtain ⟨x54, hx54, hFb3⟩ := hFb3
      refine x_done <| x_seq <| x_seq <| x_region <|
       pa (v := .agg #[.int .i64 q4.fa.Layer, .int .i64 q4.fa.X, .int .i64 q4.fa.Y]) (ld_sub agg_61 rfl rfl rfl hS) <| p (yl_field0 fld_116_0 q3t) <| pa (v := .agg #[.int .i64 q3.fat.Layer, .int .i64 q3.fat.X, .int .i64 q3.fat.Y]) (ld_sub agg_61 rfl rfl rfl (hS.pull 5)) <| p (yeqs eqs_61 rfl rfl rfl hx54) <|
       x_done <| ?_
      replace hFb3 := bd_s hFb3; obtain ⟨oc54, hFc54, hFb3⟩ := hFb3
      refine x_join (fun E w => ∃ (q8 : Int) (q9 : Int) (q0a : Int), (q8, q9, q0a) = oc54 ∧ E 0 = .pointer (some ⟨q0g, 0, none⟩) ∧ E 5 = .slice q0h q0e.length c_order5_L9h ∧ E 6 = .map (some b22) ∧ E 7 = .int .i64 x48 ∧ E 8 = .int .i64 q1v ∧ E 9 = .pointer (some ⟨b9, 0, none⟩) ∧ E 11 = .pointer (some ⟨b11, 0, none⟩) ∧ E 12 = .pointer (some ⟨b12, 0, none⟩) ∧ E 41 = .slice q41 q2d.length q42 ∧ E 42 = .int .i64 (q2d.length : Int) ∧ E 43 = .int .i64 q20 ∧ St w0 w (cells q0g 82 [.int .i64 q0w, .int .i64 q0x, .int .i64 q0y, .int .i64 q0z, .slice q0k q12.length c_t0_4, .slice q0l q13.length c_t0_5, .slice q0m q14.length c_t0_6, .slice q0n q15.length c_t0_7, .map (some q0b), .map (some q6), .map (some q5)] :: vec 116 R_extract_visit.sz (.slice q0h q0e.length c_order5_L9h) q0e.length q0o :: mapA b22 kf_61 Value.bool q1e :: cells b9 116 [.int .i64 q3.fat.Layer, .int .i64 q3.fat.X, .int .i64 q3.fat.Y, .int .i64 q3.fup.Layer, .int .i64 q3.fup.X, .int .i64 q3.fup.Y, .int .i64 q3.fres] :: cells b11 94 [.int .i64 q4.fa.Layer, .int .i64 q4.fa.X, .int .i64 q4.fa.Y, .int .i64 q4.fb.Layer, .int .i64 q4.fb.X, .int .i64 q4.fb.Y] :: cells b12 61 [.int .i64 q8, .int .i64 q9, .int .i64 q0a] :: mapA q0b kf_61 Hd.v (zipK q10 q0i) :: mapA q6 kf_61 (Value.int .i64) q0t :: mapA q5 kf_61 (Value.int .i64) q16 :: ro ρ :: l)) ?_ ?_
      ·refine x_cond (t := x54) rfl (fun hc54 => ?_) (fun hc54 => ?_)
       ·replace hFc54 := it_t hc54 hFc54
        refine x_region <| p (yl_field0 fld_94_1 rfl) <| pa (v := .agg #[.int .i64 q4.fb.Layer, .int .i64 q4.fb.X, .int .i64 q4.fb.Y]) (ld_sub agg_61 rfl rfl rfl (hS.pull 1)) <| ?_
        refine o_storeAgg (news := [.int .i64 q4.fb.Layer, .int .i64 q4.fb.X, .int .i64 q4.fb.Y]) agg_61 rfl rfl rfl (by simp [over_length]) hS (fun w' hS => ?_)
        refine x_done <| ?_
        exact x_inv ⟨q4.fb.Layer, q4.fb.X, q4.fb.Y, (sinj hFc54), q3p, q3q, q3r, rfl, q3s, q3t, rfl, rfl, q3f, q3g, q2i, ((((((((((hS.pull 9).pull 9).pull 9).pull 9).pull 4).pull 5).pull 9).pull 9).pull 9).pull 9)⟩
       ·replace hFc54 := it_bf hc54 hFc54
        refine x_skip <| ?_
        exact x_inv ⟨q4.fa.Layer, q4.fa.X, q4.fa.Y, (sinj hFc54), q3p, q3q, q3r, rfl, q3s, q3t, rfl, rfl, q3f, q3g, q2i, ((((((((((hS.pull 9).pull 9).pull 9).pull 9).pull 4).pull 5).pull 9).pull 9).pull 9).pull 9)⟩
      rintro E w ⟨q8, q9, q0a, rfl, q4c, q4d, q3e, q4e, q4f, q3u, q4u, q3h, q3y, q3z, q40, hS⟩
      replace hFb3 := lv_s hFb3; obtain ⟨x59, hx59, hFb3⟩ := hFb3
      refine x_seq <| x_seq <| x_region <| p (yl_move q3e) <|
       pa (v := .agg #[.int .i64 q8, .int .i64 q9, .int .i64 q0a]) (ld_sub agg_61 q3h rfl rfl (hS.pull 5)) <| pa (at_look (k := (T_rules_Spot.mk q8 q9 q0a)) um_84 kp_61 (zero1 zv_4) rfl rfl (hS.pull 2) hx59) <| x_done <|
       x_cond (t := x59) rfl (fun hc59 => ?_) (fun hc59 => ?_)
      ·replace hFb3 := it_t hc59 hFb3
       refine x_exitTo _ rfl <| ?_
       exact x_inv ⟨q0h, q0e.length, c_order5_L9h, q0o, q0e, q1e, x48, (sinj hFb3), q4c, q4d, q3e, q4e, q4f, q3u, q3y, q3z, q40, q1k, ((((((((((hS.pull 4).drop.pull 4).drop.pull 7).pull 7).pull 7).pull 7).pull 7).pull 7).pull 7).pull 7)⟩
      ·replace hFb3 := it_bf hc59 hFb3
       refine x_skip <| x_seq <| x_region <| p (yl_move q3e) <|
        pa (v := .agg #[.int .i64 q8, .int .i64 q9, .int .i64 q0a]) (ld_sub agg_61 q3h rfl rfl (hS.pull 5)) <| ?_
       replace hFb3 := lv_s hFb3; obtain ⟨q4s, q59, hFb3⟩ := hFb3
       refine o_mapset (k := (T_rules_Spot.mk q8 q9 q0a)) (vf := Value.bool) (v := true) um_84 kp_61 rfl rfl rfl (hS.pull 2) q59 (fun w' hS => ?_)
       refine x_done <| ?_
       replace hFb3 := bd_s hFb3; obtain ⟨q0u, q5a, hFb3⟩ := hFb3
       replace hFb3 := lv_s hFb3; obtain ⟨q0v, q5b, hFb3⟩ := hFb3
       replace hFb3 := ck_s hFb3; obtain ⟨q5c, hFb3⟩ := hFb3
       refine x_par (w0 := w0) [⟨[], [], [62], [], [], [], none⟩, ⟨[], [], [63], [0], [], [], none⟩, ⟨[], [], [64], [], [], [], none⟩, ⟨[2], [2], [65], [1], [], [], none⟩, ⟨[], [], [66], [2], [], [], none⟩, ⟨[4], [4], [67], [3], [], [], none⟩, ⟨[1, 2, 3, 4, 5], [1, 3, 5], [68], [], [], [], none⟩, ⟨[1, 2, 3, 4, 5, 6], [6], [69], [], [], [4], none⟩, ⟨[0, 1, 2, 3, 4, 5, 6, 7], [0, 7], [70], [4, 3], [5], [6], none⟩, ⟨[0, 1, 2, 3, 4, 5, 6, 7, 8], [8], [5, 70], [], [], [], none⟩] [⟨none, none, []⟩, ⟨none, none, []⟩, ⟨none, none, []⟩, ⟨none, none, []⟩, ⟨(some 7), none, [69]⟩, ⟨none, (some 8), []⟩, ⟨(some 8), none, [70]⟩] [5, 62, 63, 64, 65, 66, 67, 68, 69, 70] [0, 1, 2, 3, 5] [0, 1, 2, 3, 4, 6] [0, 1, 2, 3, 4, 5, 6, 7, 8, 9] [fun Ep17 => Ep17 62 = .slice q0h q0e.length c_order5_L9h, fun Ep17 => Ep17 63 = .agg #[.int .i64 q8, .int .i64 q9, .int .i64 q0a], fun Ep17 => Ep17 64 = .pointer (some ⟨b9, 0, none⟩), fun Ep17 => Ep17 65 = .agg #[.int .i64 q3.fat.Layer, .int .i64 q3.fat.X, .int .i64 q3.fat.Y], fun Ep17 => Ep17 66 = .agg #[.int .i64 q4.fa.Layer, .int .i64 q4.fa.X, .int .i64 q4.fa.Y, .int .i64 q4.fb.Layer, .int .i64 q4.fb.X, .int .i64 q4.fb.Y], fun Ep17 => Ep17 67 = .int .i64 q0u, fun Ep17 => Ep17 68 = .agg #[.int .i64 q8, .int .i64 q9, .int .i64 q0a, .int .i64 q3.fat.Layer, .int .i64 q3.fat.X, .int .i64 q3.fat.Y, .int .i64 q0u], fun Ep17 => Ep17 69 = .slice (some ⟨(blkOf (Ep17 69)), 0, none⟩) 1 1, fun Ep17 => Ep17 70 = .slice (adOf (Ep17 70)) q0v.length (capOf (Ep17 70)), fun Ep17 => Ep17 5 = .slice (adOf (Ep17 70)) q0v.length (capOf (Ep17 70))] [fun Ep17 => cells b12 61 [.int .i64 q8, .int .i64 q9, .int .i64 q0a], fun Ep17 => cells b9 116 [.int .i64 q3.fat.Layer, .int .i64 q3.fat.X, .int .i64 q3.fat.Y, .int .i64 q3.fup.Layer, .int .i64 q3.fup.X, .int .i64 q3.fup.Y, .int .i64 q3.fres], fun Ep17 => cells b11 94 [.int .i64 q4.fa.Layer, .int .i64 q4.fa.X, .int .i64 q4.fa.Y, .int .i64 q4.fb.Layer, .int .i64 q4.fb.X, .int .i64 q4.fb.Y], fun Ep17 => ro ρ, fun Ep17 => cells (blkOf (Ep17 69)) 116 [.int .i64 q8, .int .i64 q9, .int .i64 q0a, .int .i64 q3.fat.Layer, .int .i64 q3.fat.X, .int .i64 q3.fat.Y, .int .i64 q0u], fun Ep17 => vec 116 R_extract_visit.sz (.slice q0h q0e.length c_order5_L9h) q0e.length q0o, fun Ep17 => bunA (fun (cs70 : List Value) => RepL R_extract_visit ρ q0v cs70) (fun (cs70 : List Value) => [vec 116 R_extract_visit.sz (.slice (adOf (Ep17 70)) q0v.length (capOf (Ep17 70))) q0v.length cs70])] mixed (by kernel_rfl) (((((hS.pull 2).pull 9).pull 5).pull 5).pull 6) ?_ ?_
       ·refine ⟨?_, ?_, ?_, ?_, ?_, ?_, ?_, ?_, ?_, ?_, trivial⟩
        ·intro Ep17 w l' hE17 hO17 hF_ hS
         refine p (yl_move ((hO17 5 rfl).trans q4d)) <| x_done <| ?_
         refine x_fin ⟨⟨_, rfl⟩, rfl, ?_⟩
         exact emk hS
        ·intro Ep17 w l' hE17 hO17 hF_ hS
         replace hS : St w0 w (cells b12 61 [.int .i64 q8, .int .i64 q9, .int .i64 q0a] :: l') := emk hS
         refine pa (v := .agg #[.int .i64 q8, .int .i64 q9, .int .i64 q0a]) (ld_sub agg_61 ((hE17 12 rfl).trans q3h) rfl rfl hS) <| x_done <| ?_
         refine x_fin ⟨⟨_, rfl⟩, rfl, ?_⟩
         exact emk hS
        ·intro Ep17 w l' hE17 hO17 hF_ hS
         refine p (yl_field0 fld_116_0 ((hE17 9 rfl).trans q3u)) <| x_done <| ?_
         refine x_fin ⟨⟨_, rfl⟩, rfl, ?_⟩
         exact emk hS
        ·intro Ep17 w l' hE17 hO17 hF_ hS
         obtain ⟨q2j, -⟩ := hF_
         replace q2j : Ep17 64 = .pointer (some ⟨b9, 0, none⟩) := emk q2j
         replace hS : St w0 w (cells b9 116 [.int .i64 q3.fat.Layer, .int .i64 q3.fat.X, .int .i64 q3.fat.Y, .int .i64 q3.fup.Layer, .int .i64 q3.fup.X, .int .i64 q3.fup.Y, .int .i64 q3.fres] :: l') := emk hS
         refine pa (v := .agg #[.int .i64 q3.fat.Layer, .int .i64 q3.fat.X, .int .i64 q3.fat.Y]) (ld_sub agg_61 q2j rfl rfl hS) <| x_done <| ?_
         refine x_fin ⟨⟨_, rfl⟩, rfl, ?_⟩
         exact emk hS
        ·intro Ep17 w l' hE17 hO17 hF_ hS
         replace hS : St w0 w (cells b11 94 [.int .i64 q4.fa.Layer, .int .i64 q4.fa.X, .int .i64 q4.fa.Y, .int .i64 q4.fb.Layer, .int .i64 q4.fb.X, .int .i64 q4.fb.Y] :: l') := emk hS
         refine pa (v := .agg #[.int .i64 q4.fa.Layer, .int .i64 q4.fa.X, .int .i64 q4.fa.Y, .int .i64 q4.fb.Layer, .int .i64 q4.fb.X, .int .i64 q4.fb.Y]) (ld_sub agg_94 ((hE17 11 rfl).trans q4u) rfl rfl hS) <| x_done <| ?_
         refine x_fin ⟨⟨_, rfl⟩, rfl, ?_⟩
         exact emk hS
        ·intro Ep17 w l' hE17 hO17 hF_ hS
         obtain ⟨q2k, -⟩ := hF_
         replace q2k : Ep17 66 = .agg #[.int .i64 q4.fa.Layer, .int .i64 q4.fa.X, .int .i64 q4.fa.Y, .int .i64 q4.fb.Layer, .int .i64 q4.fb.X, .int .i64 q4.fb.Y] := emk q2k
         replace hS : St w0 w (ro ρ :: l') := emk hS
         have hcall := c_extract_step_resistance q5a  hS
         refine o_cc call_42 (args1 q2k) (hcall) ?_
         rintro e w' ⟨rfl, hS⟩
         refine ⟨_, rfl, ?_⟩
         refine x_done <| ?_
         refine x_fin ⟨⟨_, rfl⟩, rfl, ?_⟩
         exact emk hS
        ·intro Ep17 w l' hE17 hO17 hF_ hS
         obtain ⟨q2l, q2m, q2n, -⟩ := hF_
         replace q2l : Ep17 63 = .agg #[.int .i64 q8, .int .i64 q9, .int .i64 q0a] := emk q2l
         replace q2m : Ep17 65 = .agg #[.int .i64 q3.fat.Layer, .int .i64 q3.fat.X, .int .i64 q3.fat.Y] := emk q2m
         replace q2n : Ep17 67 = .int .i64 q0u := emk q2n
         refine p (v := .agg #[.int .i64 q8, .int .i64 q9, .int .i64 q0a, .int .i64 q3.fat.Layer, .int .i64 q3.fat.X, .int .i64 q3.fat.Y, .int .i64 q0u]) (yl_build bld_116 bldf_116 (parts_eq (pt (va := .agg #[.int .i64 q8, .int .i64 q9, .int .i64 q0a]) q2l (pt (va := .agg #[.int .i64 q3.fat.Layer, .int .i64 q3.fat.X, .int .i64 q3.fat.Y]) q2m (pt (va := .int .i64 q0u) q2n pt0)))) (by kernel_rfl)) <| x_done <| ?_
         refine x_fin ⟨⟨_, rfl⟩, rfl, ?_⟩
         exact emk hS
        ·intro Ep17 w l' hE17 hO17 hF_ hS
         obtain ⟨q2o, -⟩ := hF_
         replace q2o : Ep17 68 = .agg #[.int .i64 q8, .int .i64 q9, .int .i64 q0a, .int .i64 q3.fat.Layer, .int .i64 q3.fat.X, .int .i64 q3.fat.Y, .int .i64 q0u] := emk q2o
         refine o_buildSlice (vs := [.agg #[.int .i64 q8, .int .i64 q9, .int .i64 q0a, .int .i64 q3.fat.Layer, .int .i64 q3.fat.X, .int .i64 q3.fat.Y, .int .i64 q0u]]) (cs := [.int .i64 q8, .int .i64 q9, .int .i64 q0a, .int .i64 q3.fat.Layer, .int .i64 q3.fat.X, .int .i64 q3.fat.Y, .int .i64 q0u]) sl_117 zero_116 (parts_eq (pt (va := .agg #[.int .i64 q8, .int .i64 q9, .int .i64 q0a, .int .i64 q3.fat.Layer, .int .i64 q3.fat.X, .int .i64 q3.fat.Y, .int .i64 q0u]) q2o pt0)) rfl (by intro v hv; simp only [List.mem_cons, List.not_mem_nil, or_false] at hv; first | (subst hv; rfl) | (rcases hv with rfl <;> rfl)) (by decide) rfl hS (fun b69 w' hS => ?_)
         refine x_done <| ?_
         refine x_fin ⟨⟨_, rfl⟩, rfl, ?_⟩
         exact emk hS
        ·intro Ep17 w l' hE17 hO17 hF_ hS
         obtain ⟨q2p, q2q, -⟩ := hF_
         replace q2p : Ep17 62 = .slice q0h q0e.length c_order5_L9h := emk q2p
         replace q2q : Ep17 69 = .slice (some ⟨(blkOf (Ep17 69)), 0, none⟩) 1 1 := emk q2q
         replace hS : St w0 w (cells (blkOf (Ep17 69)) 116 [.int .i64 q8, .int .i64 q9, .int .i64 q0a, .int .i64 q3.fat.Layer, .int .i64 q3.fat.X, .int .i64 q3.fat.Y, .int .i64 q0u] :: ro ρ :: vec 116 R_extract_visit.sz (.slice q0h q0e.length c_order5_L9h) q0e.length q0o :: l') := emk hS
         refine o_ap sl_117 zero_116 rfl (by decide) q2p q2q (hS.pull 2) q1k (src_blk usl_117 hS rfl rfl) (RepL.cons (R := R_extract_visit) (ρ := ρ) (x := (T_extract_visit.mk (T_rules_Spot.mk q8 q9 q0a) (T_rules_Spot.mk q3.fat.Layer q3.fat.X q3.fat.Y) q0u)) (cs := [.int .i64 q8, .int .i64 q9, .int .i64 q0a, .int .i64 q3.fat.Layer, .int .i64 q3.fat.X, .int .i64 q3.fat.Y, .int .i64 q0u]) rfl RepL.nil) q5b q5c (fun A70 c70 cs70 w' hr70 hS => ?_)
         refine x_done <| ?_
         refine x_fin ⟨⟨_, rfl⟩, rfl, ?_⟩
         replace hS := St.bun (Φ := (fun (cs70 : List Value) => RepL R_extract_visit ρ q0v cs70)) (L := (fun (cs70 : List Value) => [vec 116 R_extract_visit.sz (.slice A70 q0v.length c70) q0v.length cs70])) cs70 hr70 hS
         exact emk ((hS.pull 2).pull 2)
        ·intro Ep17 w l' hE17 hO17 hF_ hS
         obtain ⟨q2r, -⟩ := hF_
         replace q2r : Ep17 70 = .slice (adOf (Ep17 70)) q0v.length (capOf (Ep17 70)) := emk q2r
         refine p (yl_assign q2r) <| x_done <| ?_
         refine x_fin ⟨⟨_, rfl⟩, rfl, ?_⟩
         exact emk hS
       intro Ep17 w' hE17 hF_ hS
       obtain ⟨q2p, q2l, q2j, q2m, q2k, q2n, q2o, q2q, q2r, q44, -⟩ := hF_
       replace q2p : Ep17 62 = .slice q0h q0e.length c_order5_L9h := emk q2p
       replace q2l : Ep17 63 = .agg #[.int .i64 q8, .int .i64 q9, .int .i64 q0a] := emk q2l
       replace q2j : Ep17 64 = .pointer (some ⟨b9, 0, none⟩) := emk q2j
       replace q2m : Ep17 65 = .agg #[.int .i64 q3.fat.Layer, .int .i64 q3.fat.X, .int .i64 q3.fat.Y] := emk q2m
       replace q2k : Ep17 66 = .agg #[.int .i64 q4.fa.Layer, .int .i64 q4.fa.X, .int .i64 q4.fa.Y, .int .i64 q4.fb.Layer, .int .i64 q4.fb.X, .int .i64 q4.fb.Y] := emk q2k
       replace q2n : Ep17 67 = .int .i64 q0u := emk q2n
       replace q2o : Ep17 68 = .agg #[.int .i64 q8, .int .i64 q9, .int .i64 q0a, .int .i64 q3.fat.Layer, .int .i64 q3.fat.X, .int .i64 q3.fat.Y, .int .i64 q0u] := emk q2o
       replace q2q : Ep17 69 = .slice (some ⟨(blkOf (Ep17 69)), 0, none⟩) 1 1 := emk q2q
       replace q2r : Ep17 70 = .slice (adOf (Ep17 70)) q0v.length (capOf (Ep17 70)) := emk q2r
       replace q44 : Ep17 5 = .slice (adOf (Ep17 70)) q0v.length (capOf (Ep17 70)) := emk q44
       replace hS : St w0 w' (cells b12 61 [.int .i64 q8, .int .i64 q9, .int .i64 q0a] :: cells b9 116 [.int .i64 q3.fat.Layer, .int .i64 q3.fat.X, .int .i64 q3.fat.Y, .int .i64 q3.fup.Layer, .int .i64 q3.fup.X, .int .i64 q3.fup.Y, .int .i64 q3.fres] :: cells b11 94 [.int .i64 q4.fa.Layer, .int .i64 q4.fa.X, .int .i64 q4.fa.Y, .int .i64 q4.fb.Layer, .int .i64 q4.fb.X, .int .i64 q4.fb.Y] :: ro ρ :: cells (blkOf (Ep17 69)) 116 [.int .i64 q8, .int .i64 q9, .int .i64 q0a, .int .i64 q3.fat.Layer, .int .i64 q3.fat.X, .int .i64 q3.fat.Y, .int .i64 q0u] :: bunA (fun (cs70 : List Value) => RepL R_extract_visit ρ q0v cs70) (fun (cs70 : List Value) => [vec 116 R_extract_visit.sz (.slice (adOf (Ep17 70)) q0v.length (capOf (Ep17 70))) q0v.length cs70]) :: (mapA b22 kf_61 Value.bool q4s :: cells q0g 82 [.int .i64 q0w, .int .i64 q0x, .int .i64 q0y, .int .i64 q0z, .slice q0k q12.length c_t0_4, .slice q0l q13.length c_t0_5, .slice q0m q14.length c_t0_6, .slice q0n q15.length c_t0_7, .map (some q0b), .map (some q6), .map (some q5)] :: mapA q0b kf_61 Hd.v (zipK q10 q0i) :: mapA q6 kf_61 (Value.int .i64) q0t :: mapA q5 kf_61 (Value.int .i64) q16 :: l)) := emk hS
       have q_ := St.unbun (hS.pull 5); obtain ⟨cs70, hr70, hS⟩ := q_
       refine x_blk <| ?_
       exact x_inv ⟨(adOf (Ep17 70)), q0v.length, (capOf (Ep17 70)), cs70, q0v, q4s, x48, (sinj hFb3), ((hE17 0 rfl).trans q4c), q44, ((hE17 6 rfl).trans q3e), ((hE17 7 rfl).trans q4e), ((hE17 8 rfl).trans q4f), ((hE17 9 rfl).trans q3u), ((hE17 41 rfl).trans q3y), ((hE17 42 rfl).trans q3z), ((hE17 43 rfl).trans q40), hr70, (((((((((((hS.pull 1).drop.pull 2).drop.pull 3).drop.pull 2).pull 7).pull 7).pull 7).pull 5).pull 6).pull 6).pull 7)⟩
     rintro E w ⟨q1t, q1u, c_order5_b3, q1l, q1x, q2f, q25, rfl, q5t, q5u, q5v, q5w, q5x, q5y, q5d, q5e, q5f, q3a, hS⟩
     have e_ := St.vec_n (hS.pull 1) q3a; subst e_
     replace hFL9 := ar_s hFL9; obtain ⟨x71, hx71, hFL9⟩ := hFL9
     refine x_region <| p (yadd q5f rfl hx71) <| p (yl_move rfl) <| x_done <| ?_
     have e_ := sinj hFL9; subst e_
     exact x_inv ⟨kL9, Nat.lt_succ_self _, q1t, q1x.length, c_order5_b3, q1l, q1x, q2f, q25, x71, hLL9, q5t, q5u, q5v, q5w, q5x, q5y, q5d, q5e, rfl, q3a, ((((((((hS.pull 7).pull 7).pull 7).pull 7).pull 7).pull 7).pull 7).pull 7)⟩
    ·replace hFL9 := it_f hc44 hFL9
     refine x_exitTo _ rfl <| ?_
     have e_ := sinj hFL9; subst e_
     exact x_inv ⟨q0h, q0e.length, c_order5_L9h, q0o, q0e, q1e, q1z, hLL9, q3p, q3q, q3r, q49, q3s, q1k, ((((((((hS.pull 3).drop.pull 6).pull 6).pull 6).pull 6).pull 6).pull 6).pull 6)⟩
   rintro E w ⟨q1r, q1s, c_order5_L9, q1i, q1w, q2e, q24, rfl, q5z, q60, q61, q62, q63, q3b, hS⟩
   have e_ := St.vec_n (hS.pull 1) q3b; subst e_
   replace hFL5 := ar_s hFL5; obtain ⟨x30, hx30, hFL5⟩ := hFL5
   refine x_blk <| x_region <| p (yl_move q63) <| p (yadd rfl rfl hx30) <|
    p (yl_assign rfl) <| x_done <| ?_
   have e_ := sinj hFL5; subst e_
   exact x_inv ⟨kL5, Nat.lt_succ_self _, q1r, q1w.length, c_order5_L9, q1i, q1w, q2e, q24, x30, hLL5, q5z, q60, q61, q62, rfl, q3b, (((((((hS.pull 6).pull 6).pull 6).pull 6).pull 6).pull 6).pull 6)⟩
  ·replace hFL5 := it_f hc28 hFL5
   refine x_exitTo _ rfl <| ?_
   have e_ := sinj hFL5; subst e_
   exact x_inv ⟨q1a, q0r.length, c_order5_L5h, q17, q0r, q1h, hLL5, q3n, q3d, q48, q1b, (((((((hS.pull 2).drop.pull 5).pull 5).pull 5).pull 5).pull 5).pull 5)⟩
 rintro E w ⟨q0f, q1q, c_order5_L5, q0j, q7, q22, rfl, q64, q45, q65, q1c, hS⟩
 have e_ := St.vec_n (hS.pull 1) q1c; subst e_
 replace hF := ar_s hF; obtain ⟨x75, hx75, hF⟩ := hF
 replace hF := ar_s hF; obtain ⟨x76, hx76, hF⟩ := hF
 refine x_seq <| x_seq <| x_region <| p (yl_move q65) <|
  p (yl_move q45) <| p (yl_len_slice usl_117 rfl) <| p (ysub rfl rfl hx75) <| p (ymul rfl rfl hx76) <|
  p (yl_neq rfl rfl) <| x_done <|
  x_cond_p (q22 ≠ x76) rfl (fun hc77 => ?_) (fun hc77 => ?_)
 ·replace hF := it_t hc77 hF
  refine x_seq <| x_region <| p (yl_assign rfl) <| x_done <| ?_
  have e_ := sinj hF; subst e_
  exact x_return ⟨_, ⟨_, _, rfl, rfl, rfl⟩, rfl, ((((((hS.pull 1).drop.pull 4).pull 4).pull 4).pull 4).pull 4)⟩
 ·replace hF := it_f hc77 hF
  refine x_skip <| x_seq <| x_region <| ?_
  refine o_mkmap (κ := T_rules_Spot) (α := Int) kf_61 (Value.int .i64) hS (fun b78 w' hS => ?_)
  replace hF := ar_s hF; obtain ⟨x81, hx81, hF⟩ := hF
  refine p (yl_assign rfl) <| x_done <| x_seq <| x_seq <|
   x_region <| p (yl_move q45) <| p (yl_len_slice usl_117 rfl) <| p (ysub rfl rfl hx81) <|
   p (yl_assign rfl) <| x_done <| ?_
  replace hF := bd_s hF; obtain ⟨oL23, hLL23, hF⟩ := hF
  refine x_join (fun E w => ∃ (q11 : List (T_rules_Spot × Int)), q11 = oL23 ∧ E 0 = .pointer (some ⟨q0g, 0, none⟩) ∧ E 5 = .slice q0f q7.length c_order5_L5 ∧ E 13 = .map (some b78) ∧ St w0 w (cells q0g 82 [.int .i64 q0w, .int .i64 q0x, .int .i64 q0y, .int .i64 q0z, .slice q0k q12.length c_t0_4, .slice q0l q13.length c_t0_5, .slice q0m q14.length c_t0_6, .slice q0n q15.length c_t0_7, .map (some q0b), .map (some q6), .map (some q5)] :: vec 116 R_extract_visit.sz (.slice q0f q7.length c_order5_L5) q7.length q0j :: mapA b78 kf_61 (Value.int .i64) q11 :: mapA q0b kf_61 Hd.v (zipK q10 q0i) :: mapA q6 kf_61 (Value.int .i64) q0t :: mapA q5 kf_61 (Value.int .i64) q16 :: ro ρ :: l)) ?_ ?_
  ·refine x_block ?_
   refine x_loop (fun k_ E w => ∃ (q0c : List (T_rules_Spot × Int)) (q1o : Int), lp (P_extract_tree_grow_L23 q0t q7) k_ (q0c, q1o) = some oL23 ∧ E 0 = .pointer (some ⟨q0g, 0, none⟩) ∧ E 5 = .slice q0f q7.length c_order5_L5 ∧ E 13 = .map (some b78) ∧ E 14 = .int .i64 q1o ∧ St w0 w (cells q0g 82 [.int .i64 q0w, .int .i64 q0x, .int .i64 q0y, .int .i64 q0z, .slice q0k q12.length c_t0_4, .slice q0l q13.length c_t0_5, .slice q0m q14.length c_t0_6, .slice q0n q15.length c_t0_7, .map (some q0b), .map (some q6), .map (some q5)] :: vec 116 R_extract_visit.sz (.slice q0f q7.length c_order5_L5) q7.length q0j :: mapA b78 kf_61 (Value.int .i64) q0c :: mapA q0b kf_61 Hd.v (zipK q10 q0i) :: mapA q6 kf_61 (Value.int .i64) q0t :: mapA q5 kf_61 (Value.int .i64) q16 :: ro ρ :: l)) fuel ⟨[], x81, hLL23, q64, q45, rfl, rfl, (((((((hS.pull 6).pull 6).pull 6).pull 6).pull 4).pull 6).pull 6)⟩ ?_
   rintro kL23 E w ⟨q0c, q1o, hLL23, q2s, q2t, q1p, q21, hS⟩
   replace hLL23 := lp_s hLL23; obtain ⟨kL23, obL23, rfl, hFL23, hLL23⟩ := hLL23
   refine x_seq <| x_seq <| x_region <| p (yl_move q21) <|
    p (yl_geq rfl rfl) <| x_done <|
    x_cond_p (0 ≤ q1o) rfl (fun hc83 => ?_) (fun hc83 => ?_)
   ·replace hFL23 := it_t hc83 hFL23
    replace hFL23 := ck_s hFL23; obtain ⟨q4g, hFL23⟩ := hFL23
    replace hFL23 := lv_s hFL23; obtain ⟨q2, q5g, hFL23⟩ := hFL23
    have q_ := q1c.get q4g; obtain ⟨q69, q4h, q5h⟩ := q_
    rw [← q5g] at q4h
    have e_ := q4h; subst e_
    refine x_skip <| x_seq <| x_block <| x_seq <|
     x_region <| p (yl_move q2t) <| p (yl_move q21) <| p (yix_o sl_117 rfl rfl (hS.pull 1) q1c q4g) <|
     pa (v := .agg #[.int .i64 q2.fat.Layer, .int .i64 q2.fat.X, .int .i64 q2.fat.Y, .int .i64 q2.fup.Layer, .int .i64 q2.fup.X, .int .i64 q2.fup.Y, .int .i64 q2.fres]) (at_loadAgg agg_116 rfl rfl (EltV.every q5h (hS.pull 1))) <| ?_
    refine o_alloc zero_116 hS (fun b15 w' hS => ?_)
    refine o_storeAgg (news := [.int .i64 q2.fat.Layer, .int .i64 q2.fat.X, .int .i64 q2.fat.Y, .int .i64 q2.fup.Layer, .int .i64 q2.fup.X, .int .i64 q2.fup.Y, .int .i64 q2.fres]) agg_116 rfl rfl rfl (by simp [over_length]) hS (fun w' hS => ?_)
    refine x_done <| x_seq <| ?_
    replace hFL23 := lv_s hFL23; obtain ⟨x93, hx93, hFL23⟩ := hFL23
    replace hFL23 := lv_s hFL23; obtain ⟨x100, hx100, hFL23⟩ := hFL23
    replace hFL23 := ar_s hFL23; obtain ⟨x101, hx101, hFL23⟩ := hFL23
    replace hFL23 := lv_s hFL23; obtain ⟨x102, hx102, hFL23⟩ := hFL23
    replace hFL23 := lv_s hFL23; obtain ⟨q3v, q3i, hFL23⟩ := hFL23
    replace hFL23 := lv_s hFL23; obtain ⟨q0s, q4v, hFL23⟩ := hFL23
    refine x_par (w0 := w0) [⟨[], [], [90], [], [], [], none⟩, ⟨[], [], [91], [], [], [], none⟩, ⟨[1], [1], [92], [0], [], [], none⟩, ⟨[0, 1, 2], [0, 2], [93], [], [], [], some (1, 4)⟩, ⟨[], [], [94], [], [], [], none⟩, ⟨[4], [4], [95], [], [], [], none⟩, ⟨[4, 5], [5], [96], [], [], [], none⟩, ⟨[4, 5, 6], [6], [97], [2], [], [], none⟩, ⟨[], [], [98], [], [], [], none⟩, ⟨[8], [8], [99], [0], [], [], none⟩, ⟨[4, 5, 6, 7, 8, 9], [7, 9], [100], [3], [], [], none⟩, ⟨[0, 1, 2, 3, 4, 5, 6, 7, 8, 9, 10], [3, 10], [101], [], [], [], none⟩, ⟨[0, 1, 2, 4, 5, 6, 7, 8, 9, 10], [0, 2], [102], [], [1], [4], none⟩, ⟨[0, 1, 2, 4, 5, 6, 7, 8, 9, 10, 12], [12], [103], [], [], [], none⟩, ⟨[0, 1, 2, 3, 4, 5, 6, 7, 8, 9, 10, 11, 12, 13], [0, 11, 13], [], [], [4], [5], none⟩] [⟨none, none, []⟩, ⟨none, (some 12), []⟩, ⟨none, none, []⟩, ⟨none, none, []⟩, ⟨(some 12), (some 14), []⟩, ⟨(some 14), none, []⟩] [90, 91, 92, 93, 94, 95, 96, 97, 98, 99, 100, 101, 102, 103] [0, 1, 2, 3] [0, 2, 3, 5] [0, 1, 2, 3, 4, 5, 6, 7, 8, 9, 10, 11, 12, 13] [fun Ep26 => Ep26 90 = .map (some b78), fun Ep26 => Ep26 91 = .pointer (some ⟨b15, 0, none⟩), fun Ep26 => Ep26 92 = .agg #[.int .i64 q2.fat.Layer, .int .i64 q2.fat.X, .int .i64 q2.fat.Y], fun Ep26 => Ep26 93 = .int .i64 x93, fun Ep26 => Ep26 94 = .pointer (some ⟨q0g, 0, none⟩), fun Ep26 => Ep26 95 = .pointer (some ⟨q0g, 0, none⟩), fun Ep26 => Ep26 96 = .pointer (some ⟨q0g, 9, none⟩), fun Ep26 => Ep26 97 = .map (some q6), fun Ep26 => Ep26 98 = .pointer (some ⟨b15, 0, none⟩), fun Ep26 => Ep26 99 = .agg #[.int .i64 q2.fat.Layer, .int .i64 q2.fat.X, .int .i64 q2.fat.Y], fun Ep26 => Ep26 100 = .int .i64 x100, fun Ep26 => Ep26 101 = .int .i64 x101, fun Ep26 => Ep26 102 = .tuple #[.int .i64 x102, .int .i64 ((mpos (T_rules_Spot.mk q2.fat.Layer q2.fat.X q2.fat.Y) q0c : Nat) : Int)], fun Ep26 => Ep26 103 = .int .i64 ((mpos (T_rules_Spot.mk q2.fat.Layer q2.fat.X q2.fat.Y) q0c : Nat) : Int), fun Ep26 => True] [fun Ep26 => cells b15 116 [.int .i64 q2.fat.Layer, .int .i64 q2.fat.X, .int .i64 q2.fat.Y, .int .i64 q2.fup.Layer, .int .i64 q2.fup.X, .int .i64 q2.fup.Y, .int .i64 q2.fres], fun Ep26 => mapA b78 kf_61 (Value.int .i64) q0c, fun Ep26 => cells q0g 82 [.int .i64 q0w, .int .i64 q0x, .int .i64 q0y, .int .i64 q0z, .slice q0k q12.length c_t0_4, .slice q0l q13.length c_t0_5, .slice q0m q14.length c_t0_6, .slice q0n q15.length c_t0_7, .map (some q0b), .map (some q6), .map (some q5)], fun Ep26 => mapA q6 kf_61 (Value.int .i64) q0t, fun Ep26 => mapA b78 kf_61 (Value.int .i64) q3v, fun Ep26 => mapA b78 kf_61 (Value.int .i64) q0s] mixed (by kernel_rfl) ((((hS.pull 5).pull 2).pull 4).pull 3) ?_ ?_
    ·refine ⟨?_, ?_, ?_, ?_, ?_, ?_, ?_, ?_, ?_, ?_, ?_, ?_, ?_, ?_, ?_, trivial⟩
     ·intro Ep26 w l' hE26 hO26 hF_ hS
      refine p (yl_move ((hE26 13 rfl).trans q1p)) <| x_done <| ?_
      refine x_fin ⟨⟨_, rfl⟩, rfl, ?_⟩
      exact emk hS
     ·intro Ep26 w l' hE26 hO26 hF_ hS
      refine p (yl_field0 fld_116_0 (hE26 15 rfl)) <| x_done <| ?_
      refine x_fin ⟨⟨_, rfl⟩, rfl, ?_⟩
      exact emk hS
     ·intro Ep26 w l' hE26 hO26 hF_ hS
      obtain ⟨q2u, -⟩ := hF_
      replace q2u : Ep26 91 = .pointer (some ⟨b15, 0, none⟩) := emk q2u
      replace hS : St w0 w (cells b15 116 [.int .i64 q2.fat.Layer, .int .i64 q2.fat.X, .int .i64 q2.fat.Y, .int .i64 q2.fup.Layer, .int .i64 q2.fup.X, .int .i64 q2.fup.Y, .int .i64 q2.fres] :: l') := emk hS
      refine pa (v := .agg #[.int .i64 q2.fat.Layer, .int .i64 q2.fat.X, .int .i64 q2.fat.Y]) (ld_sub agg_61 q2u rfl rfl hS) <| x_done <| ?_
      refine x_fin ⟨⟨_, rfl⟩, rfl, ?_⟩
      exact emk hS
     ·refine ⟨?_, ?_⟩
      ·intro Ep26 w l' hE26 hO26 hF_ hS
       obtain ⟨q0p, q18, -⟩ := hF_
       replace q0p : Ep26 90 = .map (some b78) := emk q0p
       replace q18 : Ep26 92 = .agg #[.int .i64 q2.fat.Layer, .int .i64 q2.fat.X, .int .i64 q2.fat.Y] := emk q18
       replace hS : St w0 w (mapA b78 kf_61 (Value.int .i64) q0c :: l') := emk hS
       refine pa (at_look (k := (T_rules_Spot.mk q2.fat.Layer q2.fat.X q2.fat.Y)) um_80 kp_61 (zero1 zv_3) q0p q18 hS hx93) <| x_done <| ?_
       refine x_fin ⟨⟨_, rfl⟩, rfl, ?_⟩
       exact emk hS
      ·intro Ep26 w l' hE26 hO26 hF_ hS
       obtain ⟨q0p, q18, -⟩ := hF_
       replace q0p : Ep26 90 = .map (some b78) := emk q0p
       replace q18 : Ep26 92 = .agg #[.int .i64 q2.fat.Layer, .int .i64 q2.fat.X, .int .i64 q2.fat.Y] := emk q18
       replace hS : St w0 w (mapA b78 kf_61 (Value.int .i64) q3v :: l') := emk hS
       refine pa (at_look (k := (T_rules_Spot.mk q2.fat.Layer q2.fat.X q2.fat.Y)) um_80 kp_61 (zero1 zv_3) q0p q18 hS (hx93.trans (mget_ent q3i hx102).symm)) <| x_done <| ?_
       refine x_fin ⟨⟨_, rfl⟩, rfl, ?_⟩
       exact emk hS
     ·intro Ep26 w l' hE26 hO26 hF_ hS
      refine p (yl_move ((hE26 0 rfl).trans q2s)) <| x_done <| ?_
      refine x_fin ⟨⟨_, rfl⟩, rfl, ?_⟩
      exact emk hS
     ·intro Ep26 w l' hE26 hO26 hF_ hS
      obtain ⟨q2v, -⟩ := hF_
      replace q2v : Ep26 94 = .pointer (some ⟨q0g, 0, none⟩) := emk q2v
      refine p (yl_nilCheck q2v) <| x_done <| ?_
      refine x_fin ⟨⟨_, rfl⟩, rfl, ?_⟩
      exact emk hS
     ·intro Ep26 w l' hE26 hO26 hF_ hS
      obtain ⟨q2w, -⟩ := hF_
      replace q2w : Ep26 95 = .pointer (some ⟨q0g, 0, none⟩) := emk q2w
      refine p (yl_field0 fld_82_2 q2w) <| x_done <| ?_
      refine x_fin ⟨⟨_, rfl⟩, rfl, ?_⟩
      exact emk hS
     ·intro Ep26 w l' hE26 hO26 hF_ hS
      obtain ⟨q2x, -⟩ := hF_
      replace q2x : Ep26 96 = .pointer (some ⟨q0g, 9, none⟩) := emk q2x
      replace hS : St w0 w (cells q0g 82 [.int .i64 q0w, .int .i64 q0x, .int .i64 q0y, .int .i64 q0z, .slice q0k q12.length c_t0_4, .slice q0l q13.length c_t0_5, .slice q0m q14.length c_t0_6, .slice q0n q15.length c_t0_7, .map (some q0b), .map (some q6), .map (some q5)] :: l') := emk hS
      refine pa (at_load one_80 q2x (hS.cell rfl)) <| x_done <| ?_
      refine x_fin ⟨⟨_, rfl⟩, rfl, ?_⟩
      exact emk hS
     ·intro Ep26 w l' hE26 hO26 hF_ hS
      refine p (yl_field0 fld_116_0 (hE26 15 rfl)) <| x_done <| ?_
      refine x_fin ⟨⟨_, rfl⟩, rfl, ?_⟩
      exact emk hS
     ·intro Ep26 w l' hE26 hO26 hF_ hS
      obtain ⟨q2y, -⟩ := hF_
      replace q2y : Ep26 98 = .pointer (some ⟨b15, 0, none⟩) := emk q2y
      replace hS : St w0 w (cells b15 116 [.int .i64 q2.fat.Layer, .int .i64 q2.fat.X, .int .i64 q2.fat.Y, .int .i64 q2.fup.Layer, .int .i64 q2.fup.X, .int .i64 q2.fup.Y, .int .i64 q2.fres] :: l') := emk hS
      refine pa (v := .agg #[.int .i64 q2.fat.Layer, .int .i64 q2.fat.X, .int .i64 q2.fat.Y]) (ld_sub agg_61 q2y rfl rfl hS) <| x_done <| ?_
      refine x_fin ⟨⟨_, rfl⟩, rfl, ?_⟩
      exact emk hS
     ·intro Ep26 w l' hE26 hO26 hF_ hS
      obtain ⟨q2z, q30, -⟩ := hF_
      replace q2z : Ep26 97 = .map (some q6) := emk q2z
      replace q30 : Ep26 99 = .agg #[.int .i64 q2.fat.Layer, .int .i64 q2.fat.X, .int .i64 q2.fat.Y] := emk q30
      replace hS : St w0 w (mapA q6 kf_61 (Value.int .i64) q0t :: l') := emk hS
      refine pa (at_look (k := (T_rules_Spot.mk q2.fat.Layer q2.fat.X q2.fat.Y)) um_80 kp_61 (zero1 zv_3) q2z q30 hS hx100) <| x_done <| ?_
      refine x_fin ⟨⟨_, rfl⟩, rfl, ?_⟩
      exact emk hS
     ·intro Ep26 w l' hE26 hO26 hF_ hS
      obtain ⟨q31, q27, -⟩ := hF_
      replace q31 : Ep26 93 = .int .i64 x93 := emk q31
      replace q27 : Ep26 100 = .int .i64 x100 := emk q27
      refine p (yadd q31 q27 hx101) <| x_done <| ?_
      refine x_fin ⟨⟨_, rfl⟩, rfl, ?_⟩
      exact emk hS
     ·intro Ep26 w l' hE26 hO26 hF_ hS
      obtain ⟨q0p, q18, -⟩ := hF_
      replace q0p : Ep26 90 = .map (some b78) := emk q0p
      replace q18 : Ep26 92 = .agg #[.int .i64 q2.fat.Layer, .int .i64 q2.fat.X, .int .i64 q2.fat.Y] := emk q18
      replace hS : St w0 w (mapA b78 kf_61 (Value.int .i64) q0c :: l') := emk hS
      refine o_mapEntry (k := (T_rules_Spot.mk q2.fat.Layer q2.fat.X q2.fat.Y)) (vf := (Value.int .i64)) um_80 kp_61 (zero1 zv_3) q0p q18 hS hx102 q3i (fun w' hS => ?_)
      refine x_done <| ?_
      refine x_fin ⟨⟨_, rfl⟩, rfl, ?_⟩
      exact emk hS
     ·intro Ep26 w l' hE26 hO26 hF_ hS
      obtain ⟨q28, -⟩ := hF_
      replace q28 : Ep26 102 = .tuple #[.int .i64 x102, .int .i64 ((mpos (T_rules_Spot.mk q2.fat.Layer q2.fat.X q2.fat.Y) q0c : Nat) : Int)] := emk q28
      refine p (yl_extract q28 rfl) <| x_done <| ?_
      refine x_fin ⟨⟨_, rfl⟩, rfl, ?_⟩
      exact emk hS
     ·intro Ep26 w l' hE26 hO26 hF_ hS
      obtain ⟨q0p, q29, q2a, -⟩ := hF_
      replace q0p : Ep26 90 = .map (some b78) := emk q0p
      replace q29 : Ep26 101 = .int .i64 x101 := emk q29
      replace q2a : Ep26 103 = .int .i64 ((mpos (T_rules_Spot.mk q2.fat.Layer q2.fat.X q2.fat.Y) q0c : Nat) : Int) := emk q2a
      replace hS : St w0 w (mapA b78 kf_61 (Value.int .i64) q3v :: l') := emk hS
      refine o_entryStore (k := (T_rules_Spot.mk q2.fat.Layer q2.fat.X q2.fat.Y)) (es := q0c) (v0 := x102) (vf := (Value.int .i64)) (v := x101) q0p q2a q29 rfl q3i hS q4v (fun w' hS => ?_)
      refine x_done <| ?_
      refine x_fin ⟨⟨undef, rfl⟩, trivial, ?_⟩
      exact emk hS
    intro Ep26 w' hE26 hF_ hS
    obtain ⟨q0p, q2u, q18, q31, q2v, q2w, q2x, q2z, q2y, q30, q27, q29, q28, q2a, -⟩ := hF_
    replace q0p : Ep26 90 = .map (some b78) := emk q0p
    replace q2u : Ep26 91 = .pointer (some ⟨b15, 0, none⟩) := emk q2u
    replace q18 : Ep26 92 = .agg #[.int .i64 q2.fat.Layer, .int .i64 q2.fat.X, .int .i64 q2.fat.Y] := emk q18
    replace q31 : Ep26 93 = .int .i64 x93 := emk q31
    replace q2v : Ep26 94 = .pointer (some ⟨q0g, 0, none⟩) := emk q2v
    replace q2w : Ep26 95 = .pointer (some ⟨q0g, 0, none⟩) := emk q2w
    replace q2x : Ep26 96 = .pointer (some ⟨q0g, 9, none⟩) := emk q2x
    replace q2z : Ep26 97 = .map (some q6) := emk q2z
    replace q2y : Ep26 98 = .pointer (some ⟨b15, 0, none⟩) := emk q2y
    replace q30 : Ep26 99 = .agg #[.int .i64 q2.fat.Layer, .int .i64 q2.fat.X, .int .i64 q2.fat.Y] := emk q30
    replace q27 : Ep26 100 = .int .i64 x100 := emk q27
    replace q29 : Ep26 101 = .int .i64 x101 := emk q29
    replace q28 : Ep26 102 = .tuple #[.int .i64 x102, .int .i64 ((mpos (T_rules_Spot.mk q2.fat.Layer q2.fat.X q2.fat.Y) q0c : Nat) : Int)] := emk q28
    replace q2a : Ep26 103 = .int .i64 ((mpos (T_rules_Spot.mk q2.fat.Layer q2.fat.X q2.fat.Y) q0c : Nat) : Int) := emk q2a
    replace hS : St w0 w' (cells b15 116 [.int .i64 q2.fat.Layer, .int .i64 q2.fat.X, .int .i64 q2.fat.Y, .int .i64 q2.fup.Layer, .int .i64 q2.fup.X, .int .i64 q2.fup.Y, .int .i64 q2.fres] :: cells q0g 82 [.int .i64 q0w, .int .i64 q0x, .int .i64 q0y, .int .i64 q0z, .slice q0k q12.length c_t0_4, .slice q0l q13.length c_t0_5, .slice q0m q14.length c_t0_6, .slice q0n q15.length c_t0_7, .map (some q0b), .map (some q6), .map (some q5)] :: mapA q6 kf_61 (Value.int .i64) q0t :: mapA b78 kf_61 (Value.int .i64) q0s :: (vec 116 R_extract_visit.sz (.slice q0f q7.length c_order5_L5) q7.length q0j :: mapA q0b kf_61 Hd.v (zipK q10 q0i) :: mapA q5 kf_61 (Value.int .i64) q16 :: ro ρ :: l)) := emk hS
    refine x_seq <| x_region <| p (yl_move ((hE26 14 rfl).trans q21)) <| p (yl_gtr rfl rfl) <|
     x_done <| ?_
    replace hFL23 := bd_s hFL23; obtain ⟨oc105, hFc105, hFL23⟩ := hFL23
    refine x_join (fun E w => ∃ (q1d : List (T_rules_Spot × Int)), q1d = oc105 ∧ E 0 = .pointer (some ⟨q0g, 0, none⟩) ∧ E 5 = .slice q0f q7.length c_order5_L5 ∧ E 13 = .map (some b78) ∧ E 14 = .int .i64 q1o ∧ St w0 w (cells q0g 82 [.int .i64 q0w, .int .i64 q0x, .int .i64 q0y, .int .i64 q0z, .slice q0k q12.length c_t0_4, .slice q0l q13.length c_t0_5, .slice q0m q14.length c_t0_6, .slice q0n q15.length c_t0_7, .map (some q0b), .map (some q6), .map (some q5)] :: vec 116 R_extract_visit.sz (.slice q0f q7.length c_order5_L5) q7.length q0j :: mapA b78 kf_61 (Value.int .i64) q1d :: mapA q0b kf_61 Hd.v (zipK q10 q0i) :: mapA q6 kf_61 (Value.int .i64) q0t :: mapA q5 kf_61 (Value.int .i64) q16 :: ro ρ :: l)) ?_ ?_
    ·refine x_cond_p (0 < q1o) rfl (fun hc105 => ?_) (fun hc105 => ?_)
     ·replace hFc105 := it_t hc105 hFc105
      replace hFc105 := lv_s hFc105; obtain ⟨x109, hx109, hFc105⟩ := hFc105
      replace hFc105 := lv_s hFc105; obtain ⟨x113, hx113, hFc105⟩ := hFc105
      replace hFc105 := ar_s hFc105; obtain ⟨x114, hx114, hFc105⟩ := hFc105
      replace hFc105 := lv_s hFc105; obtain ⟨x115, hx115, hFc105⟩ := hFc105
      replace hFc105 := lv_s hFc105; obtain ⟨q46, q3w, hFc105⟩ := hFc105
      replace hFc105 := lv_s hFc105; obtain ⟨q3x, q4w, hFc105⟩ := hFc105
      refine x_par (w0 := w0) [⟨[], [], [106], [], [], [], none⟩, ⟨[], [], [107], [], [], [], none⟩, ⟨[1], [1], [108], [0], [], [], none⟩, ⟨[0, 1, 2], [0, 2], [109], [], [], [], some (1, 2)⟩, ⟨[], [], [110], [], [], [], none⟩, ⟨[], [], [111], [], [], [], none⟩, ⟨[5], [5], [112], [0], [], [], none⟩, ⟨[4, 5, 6], [4, 6], [113], [1], [], [], none⟩, ⟨[0, 1, 2, 3, 4, 5, 6, 7], [3, 7], [114], [], [], [], none⟩, ⟨[0, 1, 2, 4, 5, 6, 7], [0, 2], [115], [], [1], [2], none⟩, ⟨[0, 1, 2, 4, 5, 6, 7, 9], [9], [116], [], [], [], none⟩, ⟨[0, 1, 2, 3, 4, 5, 6, 7, 8, 9, 10], [0, 8, 10], [], [], [2], [3], none⟩] [⟨none, none, []⟩, ⟨none, (some 9), []⟩, ⟨(some 9), (some 11), []⟩, ⟨(some 11), none, []⟩] [106, 107, 108, 109, 110, 111, 112, 113, 114, 115, 116] [0, 1] [0, 3] [0, 1, 2, 3, 4, 5, 6, 7, 8, 9, 10] [fun Ep28 => Ep28 106 = .map (some b78), fun Ep28 => Ep28 107 = .pointer (some ⟨b15, 3, none⟩), fun Ep28 => Ep28 108 = .agg #[.int .i64 q2.fup.Layer, .int .i64 q2.fup.X, .int .i64 q2.fup.Y], fun Ep28 => Ep28 109 = .int .i64 x109, fun Ep28 => Ep28 110 = .map (some b78), fun Ep28 => Ep28 111 = .pointer (some ⟨b15, 0, none⟩), fun Ep28 => Ep28 112 = .agg #[.int .i64 q2.fat.Layer, .int .i64 q2.fat.X, .int .i64 q2.fat.Y], fun Ep28 => Ep28 113 = .int .i64 x113, fun Ep28 => Ep28 114 = .int .i64 x114, fun Ep28 => Ep28 115 = .tuple #[.int .i64 x115, .int .i64 ((mpos (T_rules_Spot.mk q2.fup.Layer q2.fup.X q2.fup.Y) q0s : Nat) : Int)], fun Ep28 => Ep28 116 = .int .i64 ((mpos (T_rules_Spot.mk q2.fup.Layer q2.fup.X q2.fup.Y) q0s : Nat) : Int), fun Ep28 => True] [fun Ep28 => cells b15 116 [.int .i64 q2.fat.Layer, .int .i64 q2.fat.X, .int .i64 q2.fat.Y, .int .i64 q2.fup.Layer, .int .i64 q2.fup.X, .int .i64 q2.fup.Y, .int .i64 q2.fres], fun Ep28 => mapA b78 kf_61 (Value.int .i64) q0s, fun Ep28 => mapA b78 kf_61 (Value.int .i64) q46, fun Ep28 => mapA b78 kf_61 (Value.int .i64) q3x] mixed (by kernel_rfl) ((hS.pull 3).pull 1) ?_ ?_
      ·refine ⟨?_, ?_, ?_, ?_, ?_, ?_, ?_, ?_, ?_, ?_, ?_, ?_, trivial⟩
       ·intro Ep28 w l' hE28 hO28 hF_ hS
        refine p (yl_move ((hE28 13 rfl).trans ((hE26 13 rfl).trans q1p))) <| x_done <| ?_
        refine x_fin ⟨⟨_, rfl⟩, rfl, ?_⟩
        exact emk hS
       ·intro Ep28 w l' hE28 hO28 hF_ hS
        refine p (yl_field0 fld_116_1 ((hE28 15 rfl).trans (hE26 15 rfl))) <| x_done <| ?_
        refine x_fin ⟨⟨_, rfl⟩, rfl, ?_⟩
        exact emk hS
       ·intro Ep28 w l' hE28 hO28 hF_ hS
        obtain ⟨q32, -⟩ := hF_
        replace q32 : Ep28 107 = .pointer (some ⟨b15, 3, none⟩) := emk q32
        replace hS : St w0 w (cells b15 116 [.int .i64 q2.fat.Layer, .int .i64 q2.fat.X, .int .i64 q2.fat.Y, .int .i64 q2.fup.Layer, .int .i64 q2.fup.X, .int .i64 q2.fup.Y, .int .i64 q2.fres] :: l') := emk hS
        refine pa (v := .agg #[.int .i64 q2.fup.Layer, .int .i64 q2.fup.X, .int .i64 q2.fup.Y]) (ld_sub agg_61 q32 rfl rfl hS) <| x_done <| ?_
        refine x_fin ⟨⟨_, rfl⟩, rfl, ?_⟩
        exact emk hS
       ·refine ⟨?_, ?_⟩
        ·intro Ep28 w l' hE28 hO28 hF_ hS
         obtain ⟨q0q, q19, -⟩ := hF_
         replace q0q : Ep28 106 = .map (some b78) := emk q0q
         replace q19 : Ep28 108 = .agg #[.int .i64 q2.fup.Layer, .int .i64 q2.fup.X, .int .i64 q2.fup.Y] := emk q19
         replace hS : St w0 w (mapA b78 kf_61 (Value.int .i64) q0s :: l') := emk hS
         refine pa (at_look (k := (T_rules_Spot.mk q2.fup.Layer q2.fup.X q2.fup.Y)) um_80 kp_61 (zero1 zv_3) q0q q19 hS hx109) <| x_done <| ?_
         refine x_fin ⟨⟨_, rfl⟩, rfl, ?_⟩
         exact emk hS
        ·intro Ep28 w l' hE28 hO28 hF_ hS
         obtain ⟨q0q, q19, -⟩ := hF_
         replace q0q : Ep28 106 = .map (some b78) := emk q0q
         replace q19 : Ep28 108 = .agg #[.int .i64 q2.fup.Layer, .int .i64 q2.fup.X, .int .i64 q2.fup.Y] := emk q19
         replace hS : St w0 w (mapA b78 kf_61 (Value.int .i64) q46 :: l') := emk hS
         refine pa (at_look (k := (T_rules_Spot.mk q2.fup.Layer q2.fup.X q2.fup.Y)) um_80 kp_61 (zero1 zv_3) q0q q19 hS (hx109.trans (mget_ent q3w hx115).symm)) <| x_done <| ?_
         refine x_fin ⟨⟨_, rfl⟩, rfl, ?_⟩
         exact emk hS
       ·intro Ep28 w l' hE28 hO28 hF_ hS
        refine p (yl_move ((hE28 13 rfl).trans ((hE26 13 rfl).trans q1p))) <| x_done <| ?_
        refine x_fin ⟨⟨_, rfl⟩, rfl, ?_⟩
        exact emk hS
       ·intro Ep28 w l' hE28 hO28 hF_ hS
        refine p (yl_field0 fld_116_0 ((hE28 15 rfl).trans (hE26 15 rfl))) <| x_done <| ?_
        refine x_fin ⟨⟨_, rfl⟩, rfl, ?_⟩
        exact emk hS
       ·intro Ep28 w l' hE28 hO28 hF_ hS
        obtain ⟨q33, -⟩ := hF_
        replace q33 : Ep28 111 = .pointer (some ⟨b15, 0, none⟩) := emk q33
        replace hS : St w0 w (cells b15 116 [.int .i64 q2.fat.Layer, .int .i64 q2.fat.X, .int .i64 q2.fat.Y, .int .i64 q2.fup.Layer, .int .i64 q2.fup.X, .int .i64 q2.fup.Y, .int .i64 q2.fres] :: l') := emk hS
        refine pa (v := .agg #[.int .i64 q2.fat.Layer, .int .i64 q2.fat.X, .int .i64 q2.fat.Y]) (ld_sub agg_61 q33 rfl rfl hS) <| x_done <| ?_
        refine x_fin ⟨⟨_, rfl⟩, rfl, ?_⟩
        exact emk hS
       ·intro Ep28 w l' hE28 hO28 hF_ hS
        obtain ⟨q34, q35, -⟩ := hF_
        replace q34 : Ep28 110 = .map (some b78) := emk q34
        replace q35 : Ep28 112 = .agg #[.int .i64 q2.fat.Layer, .int .i64 q2.fat.X, .int .i64 q2.fat.Y] := emk q35
        replace hS : St w0 w (mapA b78 kf_61 (Value.int .i64) q0s :: l') := emk hS
        refine pa (at_look (k := (T_rules_Spot.mk q2.fat.Layer q2.fat.X q2.fat.Y)) um_80 kp_61 (zero1 zv_3) q34 q35 hS hx113) <| x_done <| ?_
        refine x_fin ⟨⟨_, rfl⟩, rfl, ?_⟩
        exact emk hS
       ·intro Ep28 w l' hE28 hO28 hF_ hS
        obtain ⟨q36, q37, -⟩ := hF_
        replace q36 : Ep28 109 = .int .i64 x109 := emk q36
        replace q37 : Ep28 113 = .int .i64 x113 := emk q37
        refine p (yadd q36 q37 hx114) <| x_done <| ?_
        refine x_fin ⟨⟨_, rfl⟩, rfl, ?_⟩
        exact emk hS
       ·intro Ep28 w l' hE28 hO28 hF_ hS
        obtain ⟨q0q, q19, -⟩ := hF_
        replace q0q : Ep28 106 = .map (some b78) := emk q0q
        replace q19 : Ep28 108 = .agg #[.int .i64 q2.fup.Layer, .int .i64 q2.fup.X, .int .i64 q2.fup.Y] := emk q19
        replace hS : St w0 w (mapA b78 kf_61 (Value.int .i64) q0s :: l') := emk hS
        refine o_mapEntry (k := (T_rules_Spot.mk q2.fup.Layer q2.fup.X q2.fup.Y)) (vf := (Value.int .i64)) um_80 kp_61 (zero1 zv_3) q0q q19 hS hx115 q3w (fun w' hS => ?_)
        refine x_done <| ?_
        refine x_fin ⟨⟨_, rfl⟩, rfl, ?_⟩
        exact emk hS
       ·intro Ep28 w l' hE28 hO28 hF_ hS
        obtain ⟨q38, -⟩ := hF_
        replace q38 : Ep28 115 = .tuple #[.int .i64 x115, .int .i64 ((mpos (T_rules_Spot.mk q2.fup.Layer q2.fup.X q2.fup.Y) q0s : Nat) : Int)] := emk q38
        refine p (yl_extract q38 rfl) <| x_done <| ?_
        refine x_fin ⟨⟨_, rfl⟩, rfl, ?_⟩
        exact emk hS
       ·intro Ep28 w l' hE28 hO28 hF_ hS
        obtain ⟨q0q, q39, q2b, -⟩ := hF_
        replace q0q : Ep28 106 = .map (some b78) := emk q0q
        replace q39 : Ep28 114 = .int .i64 x114 := emk q39
        replace q2b : Ep28 116 = .int .i64 ((mpos (T_rules_Spot.mk q2.fup.Layer q2.fup.X q2.fup.Y) q0s : Nat) : Int) := emk q2b
        replace hS : St w0 w (mapA b78 kf_61 (Value.int .i64) q46 :: l') := emk hS
        refine o_entryStore (k := (T_rules_Spot.mk q2.fup.Layer q2.fup.X q2.fup.Y)) (es := q0s) (v0 := x115) (vf := (Value.int .i64)) (v := x114) q0q q2b q39 rfl q3w hS q4w (fun w' hS => ?_)
        refine x_done <| ?_
        refine x_fin ⟨⟨undef, rfl⟩, trivial, ?_⟩
        exact emk hS
      intro Ep28 w' hE28 hF_ hS
      obtain ⟨q0q, q32, q19, q36, q34, q33, q35, q37, q39, q38, q2b, -⟩ := hF_
      replace q0q : Ep28 106 = .map (some b78) := emk q0q
      replace q32 : Ep28 107 = .pointer (some ⟨b15, 3, none⟩) := emk q32
      replace q19 : Ep28 108 = .agg #[.int .i64 q2.fup.Layer, .int .i64 q2.fup.X, .int .i64 q2.fup.Y] := emk q19
      replace q36 : Ep28 109 = .int .i64 x109 := emk q36
      replace q34 : Ep28 110 = .map (some b78) := emk q34
      replace q33 : Ep28 111 = .pointer (some ⟨b15, 0, none⟩) := emk q33
      replace q35 : Ep28 112 = .agg #[.int .i64 q2.fat.Layer, .int .i64 q2.fat.X, .int .i64 q2.fat.Y] := emk q35
      replace q37 : Ep28 113 = .int .i64 x113 := emk q37
      replace q39 : Ep28 114 = .int .i64 x114 := emk q39
      replace q38 : Ep28 115 = .tuple #[.int .i64 x115, .int .i64 ((mpos (T_rules_Spot.mk q2.fup.Layer q2.fup.X q2.fup.Y) q0s : Nat) : Int)] := emk q38
      replace q2b : Ep28 116 = .int .i64 ((mpos (T_rules_Spot.mk q2.fup.Layer q2.fup.X q2.fup.Y) q0s : Nat) : Int) := emk q2b
      replace hS : St w0 w' (cells b15 116 [.int .i64 q2.fat.Layer, .int .i64 q2.fat.X, .int .i64 q2.fat.Y, .int .i64 q2.fup.Layer, .int .i64 q2.fup.X, .int .i64 q2.fup.Y, .int .i64 q2.fres] :: mapA b78 kf_61 (Value.int .i64) q3x :: (cells q0g 82 [.int .i64 q0w, .int .i64 q0x, .int .i64 q0y, .int .i64 q0z, .slice q0k q12.length c_t0_4, .slice q0l q13.length c_t0_5, .slice q0m q14.length c_t0_6, .slice q0n q15.length c_t0_7, .map (some q0b), .map (some q6), .map (some q5)] :: mapA q6 kf_61 (Value.int .i64) q0t :: vec 116 R_extract_visit.sz (.slice q0f q7.length c_order5_L5) q7.length q0j :: mapA q0b kf_61 Hd.v (zipK q10 q0i) :: mapA q5 kf_61 (Value.int .i64) q16 :: ro ρ :: l)) := emk hS
      exact x_inv ⟨q3x, (sinj hFc105), ((hE28 0 rfl).trans ((hE26 0 rfl).trans q2s)), ((hE28 5 rfl).trans ((hE26 5 rfl).trans q2t)), ((hE28 13 rfl).trans ((hE26 13 rfl).trans q1p)), ((hE28 14 rfl).trans ((hE26 14 rfl).trans q21)), (((((((hS.drop.pull 6).pull 6).pull 4).pull 6).pull 4).pull 6).pull 6)⟩
     ·replace hFc105 := it_f hc105 hFc105
      refine x_skip <| ?_
      exact x_inv ⟨q0s, (sinj hFc105), ((hE26 0 rfl).trans q2s), ((hE26 5 rfl).trans q2t), ((hE26 13 rfl).trans q1p), ((hE26 14 rfl).trans q21), (((((((hS.drop.pull 6).pull 6).pull 3).pull 6).pull 5).pull 6).pull 6)⟩
    rintro E w ⟨q1d, rfl, q4x, q4y, q4n, q4o, hS⟩
    replace hFL23 := ar_s hFL23; obtain ⟨x85, hx85, hFL23⟩ := hFL23
    refine x_blk <| x_region <| p (yl_move q4o) <| p (ysub rfl rfl hx85) <|
     p (yl_assign rfl) <| x_done <| ?_
    have e_ := sinj hFL23; subst e_
    exact x_inv ⟨kL23, Nat.lt_succ_self _, q1d, x85, hLL23, q4x, q4y, q4n, rfl, (((((((hS.pull 6).pull 6).pull 6).pull 6).pull 6).pull 6).pull 6)⟩
   ·replace hFL23 := it_f hc83 hFL23
    refine x_exitTo _ rfl <| ?_
    have e_ := sinj hFL23; subst e_
    exact x_inv ⟨q0c, hLL23, q2s, q2t, q1p, (((((((hS.pull 6).pull 6).pull 6).pull 6).pull 6).pull 6).pull 6)⟩
  rintro E w ⟨q11, rfl, q5i, q5j, q4z, hS⟩
  refine x_seq <| x_seq <| x_region <| p (yl_move q5j) <|
   p (yl_len_slice usl_117 rfl) <| p (yl_move rfl) <| x_done <| ?_
  replace hF := bd_s hF; obtain ⟨oL30, hLL30, hF⟩ := hF
  refine x_join (fun E w => ∃ (q26 : List (T_rules_Spot × Int)), q26 = oL30 ∧ St w0 w (cells q0g 82 [.int .i64 q0w, .int .i64 q0x, .int .i64 q0y, .int .i64 q0z, .slice q0k q12.length c_t0_4, .slice q0l q13.length c_t0_5, .slice q0m q14.length c_t0_6, .slice q0n q15.length c_t0_7, .map (some q0b), .map (some q6), .map (some q5)] :: mapA q0b kf_61 Hd.v (zipK q10 q0i) :: mapA q6 kf_61 (Value.int .i64) q0t :: mapA q5 kf_61 (Value.int .i64) q26 :: ro ρ :: l)) ?_ ?_
  ·refine x_block ?_
   refine x_loop (fun k_ E w => ∃ (q1f : Int) (q1m : List (T_rules_Spot × Int)), lp (P_extract_tree_grow_L30 q7 q11) k_ (q1f, q1m) = some oL30 ∧ E 0 = .pointer (some ⟨q0g, 0, none⟩) ∧ E 13 = .map (some b78) ∧ E 117 = .slice q0f q7.length c_order5_L5 ∧ E 118 = .int .i64 (q7.length : Int) ∧ E 119 = .int .i64 q1f ∧ St w0 w (cells q0g 82 [.int .i64 q0w, .int .i64 q0x, .int .i64 q0y, .int .i64 q0z, .slice q0k q12.length c_t0_4, .slice q0l q13.length c_t0_5, .slice q0m q14.length c_t0_6, .slice q0n q15.length c_t0_7, .map (some q0b), .map (some q6), .map (some q5)] :: mapA b78 kf_61 (Value.int .i64) q11 :: vec 116 R_extract_visit.sz (.slice q0f q7.length c_order5_L5) q7.length q0j :: mapA q0b kf_61 Hd.v (zipK q10 q0i) :: mapA q6 kf_61 (Value.int .i64) q0t :: mapA q5 kf_61 (Value.int .i64) q1m :: ro ρ :: l)) fuel ⟨0, q16, hLL30, q5i, q4z, rfl, rfl, rfl, (((((((hS.pull 6).pull 6).pull 6).pull 6).pull 5).pull 6).pull 6)⟩ ?_
   rintro kL30 E w ⟨q1f, q1m, hLL30, q2c, q3c, q2g, q2h, q1y, hS⟩
   replace hLL30 := lp_s hLL30; obtain ⟨kL30, obL30, rfl, hFL30, hLL30⟩ := hLL30
   refine x_seq <| x_region <| p (yl_lss q1y q2h) <| x_done <|
    x_seq <|
    x_cond_p (q1f < (q7.length : Int)) rfl (fun hc120 => ?_) (fun hc120 => ?_)
   ·replace hFL30 := it_t hc120 hFL30
    replace hFL30 := ck_s hFL30; obtain ⟨q4i, hFL30⟩ := hFL30
    replace hFL30 := lv_s hFL30; obtain ⟨q0d, q5k, hFL30⟩ := hFL30
    have q_ := q1c.get q4i; obtain ⟨q6a, q4j, q5l⟩ := q_
    rw [← q5k] at q4j
    have e_ := q4j; subst e_
    refine x_skip <| x_seq <| x_block <| x_seq <|
     x_region <| p (yl_move q1y) <| p (yix_o sl_117 q2g q1y (hS.pull 2) q1c q4i) <| pa (v := .agg #[.int .i64 q0d.fat.Layer, .int .i64 q0d.fat.X, .int .i64 q0d.fat.Y, .int .i64 q0d.fup.Layer, .int .i64 q0d.fup.X, .int .i64 q0d.fup.Y, .int .i64 q0d.fres]) (at_loadAgg agg_116 rfl rfl (EltV.every q5l (hS.pull 2))) <| ?_
    refine o_alloc zero_116 hS (fun b17 w' hS => ?_)
    refine p (yl_assign rfl) <| ?_
    refine o_storeAgg (news := [.int .i64 q0d.fat.Layer, .int .i64 q0d.fat.X, .int .i64 q0d.fat.Y, .int .i64 q0d.fup.Layer, .int .i64 q0d.fup.X, .int .i64 q0d.fup.Y, .int .i64 q0d.fres]) agg_116 rfl rfl rfl (by simp [over_length]) hS (fun w' hS => ?_)
    refine x_done <| x_seq <| x_region <| p (yl_move rfl) <|
     p (yl_eql rfl rfl) <| x_done <| ?_
    replace hFL30 := bd_s hFL30; obtain ⟨oc125, hFc125, hFL30⟩ := hFL30
    refine x_join (fun E w => ∃ (q1n : List (T_rules_Spot × Int)), q1n = oc125 ∧ E 0 = .pointer (some ⟨q0g, 0, none⟩) ∧ E 13 = .map (some b78) ∧ E 117 = .slice q0f q7.length c_order5_L5 ∧ E 118 = .int .i64 (q7.length : Int) ∧ E 119 = .int .i64 q1f ∧ St w0 w (cells q0g 82 [.int .i64 q0w, .int .i64 q0x, .int .i64 q0y, .int .i64 q0z, .slice q0k q12.length c_t0_4, .slice q0l q13.length c_t0_5, .slice q0m q14.length c_t0_6, .slice q0n q15.length c_t0_7, .map (some q0b), .map (some q6), .map (some q5)] :: mapA b78 kf_61 (Value.int .i64) q11 :: vec 116 R_extract_visit.sz (.slice q0f q7.length c_order5_L5) q7.length q0j :: mapA q0b kf_61 Hd.v (zipK q10 q0i) :: mapA q6 kf_61 (Value.int .i64) q0t :: mapA q5 kf_61 (Value.int .i64) q1n :: ro ρ :: l)) ?_ ?_
    ·refine x_cond_p (q1f = 0) rfl (fun hc125 => ?_) (fun hc125 => ?_)
     ·replace hFc125 := it_t hc125 hFc125
      refine x_head 6 mixed (by kernel_rfl) hS _ _ rfl rfl <| q (yl_move q2c) <| q (yl_nilCheck rfl) <| q (yl_field0 fld_82_3 rfl) <|
       qa (fun w' hS => at_load one_80 rfl ((hS.pull 1).cell rfl)) <| q (yl_field0 fld_116_0 rfl) <| qa (v := .agg #[.int .i64 q0d.fat.Layer, .int .i64 q0d.fat.X, .int .i64 q0d.fat.Y]) (fun w' hS => ld_sub agg_61 rfl rfl rfl hS) <|
       q_done fun w' hS => ?_
      replace hFc125 := lv_s hFc125; obtain ⟨q66, q5m, hFc125⟩ := hFc125
      refine o_mapset (k := (T_rules_Spot.mk q0d.fat.Layer q0d.fat.X q0d.fat.Y)) (vf := (Value.int .i64)) (v := 0) um_80 kp_61 rfl rfl rfl (hS.pull 6) q5m (fun w' hS => ?_)
      refine x_done <| ?_
      exact x_inv ⟨q66, (sinj hFc125), q2c, q3c, q2g, q2h, q1y, ((((((((hS.pull 1).drop.pull 6).pull 1).pull 6).pull 6).pull 6).pull 6).pull 6)⟩
     ·replace hFc125 := it_f hc125 hFc125
      replace hFc125 := lv_s hFc125; obtain ⟨x144, hx144, hFc125⟩ := hFc125
      replace hFc125 := lv_s hFc125; obtain ⟨x150, hx150, hFc125⟩ := hFc125
      replace hFc125 := ar_s hFc125; obtain ⟨x151, hx151, hFc125⟩ := hFc125
      replace hFc125 := ar_s hFc125; obtain ⟨x152, hx152, hFc125⟩ := hFc125
      refine x_head 21 mixed (by kernel_rfl) hS _ _ rfl rfl <| q (yl_move q2c) <| q (yl_nilCheck rfl) <| q (yl_field0 fld_82_3 rfl) <|
       qa (fun w' hS => at_load one_80 rfl ((hS.pull 1).cell rfl)) <| q (yl_field0 fld_116_0 rfl) <| qa (v := .agg #[.int .i64 q0d.fat.Layer, .int .i64 q0d.fat.X, .int .i64 q0d.fat.Y]) (fun w' hS => ld_sub agg_61 rfl rfl rfl hS) <| q (yl_move q2c) <|
       q (yl_nilCheck rfl) <| q (yl_field0 fld_82_3 rfl) <| qa (fun w' hS => at_load one_80 rfl ((hS.pull 1).cell rfl)) <| q (yl_field0 fld_116_1 rfl) <|
       qa (v := .agg #[.int .i64 q0d.fup.Layer, .int .i64 q0d.fup.X, .int .i64 q0d.fup.Y]) (fun w' hS => ld_sub agg_61 rfl rfl rfl hS) <| qa (fun w' hS => at_look (k := (T_rules_Spot.mk q0d.fup.Layer q0d.fup.X q0d.fup.Y)) um_80 kp_61 (zero1 zv_3) rfl rfl (hS.pull 6) hx144) <| q (yl_field0 fld_116_2 rfl) <| qa (fun w' hS => at_load one_3 rfl (hS.cell rfl)) <|
       q (yl_move q3c) <| q (yl_field0 fld_116_0 rfl) <| qa (v := .agg #[.int .i64 q0d.fat.Layer, .int .i64 q0d.fat.X, .int .i64 q0d.fat.Y]) (fun w' hS => ld_sub agg_61 rfl rfl rfl hS) <| qa (fun w' hS => at_look (k := (T_rules_Spot.mk q0d.fat.Layer q0d.fat.X q0d.fat.Y)) um_80 kp_61 (zero1 zv_3) rfl rfl (hS.pull 2) hx150) <|
       q (ymul rfl rfl hx151) <| q (yadd rfl rfl hx152) <|
       q_done fun w' hS => ?_
      replace hFc125 := lv_s hFc125; obtain ⟨q5n, q50, hFc125⟩ := hFc125
      refine o_mapset (k := (T_rules_Spot.mk q0d.fat.Layer q0d.fat.X q0d.fat.Y)) (vf := (Value.int .i64)) (v := x152) um_80 kp_61 rfl rfl rfl (hS.pull 6) q50 (fun w' hS => ?_)
      refine x_done <| ?_
      exact x_inv ⟨q5n, (sinj hFc125), q2c, q3c, q2g, q2h, q1y, ((((((((hS.pull 1).drop.pull 6).pull 1).pull 6).pull 6).pull 6).pull 6).pull 6)⟩
    rintro E w ⟨q1n, rfl, q51, q4p, q4k, q4l, q4m, hS⟩
    replace hFL30 := ar_s hFL30; obtain ⟨x153, hx153, hFL30⟩ := hFL30
    refine x_blk <| x_region <| p (yadd q4m rfl hx153) <| p (yl_move rfl) <|
     x_done <| ?_
    have e_ := sinj hFL30; subst e_
    exact x_inv ⟨kL30, Nat.lt_succ_self _, x153, q1n, hLL30, q51, q4p, q4k, q4l, rfl, (((((((hS.pull 6).pull 6).pull 6).pull 6).pull 6).pull 6).pull 6)⟩
   ·replace hFL30 := it_f hc120 hFL30
    refine x_exitTo _ rfl <| ?_
    have e_ := sinj hFL30; subst e_
    exact x_inv ⟨q1m, hLL30, (((((((hS.pull 1).drop.pull 1).drop.pull 4).pull 4).pull 4).pull 4).pull 4)⟩
  rintro E w ⟨q26, rfl, hS⟩
  refine x_seq <| x_region <| p (yl_assign rfl) <| x_done <| ?_
  have e_ := sinj hF; subst e_
  exact x_return ⟨_, ⟨_, _, rfl, rfl, rfl⟩, rfl, (((((hS.pull 4).pull 4).pull 4).pull 4).pull 4)⟩
attribute [irreducible] P_extract_tree_grow


end Go.Proofs.Ytnnmbmgnpdcefaa.X
