/- Printed by gen.py: plain functions, and that the Go code computes them. -/
import Derived.Test.YtnnmbmgnpdcefaaYJ
import Derived.Test.YtnnmbmgnpdcefaaXL
import Derived.Test.YtnnmbmgnpdcefaaYU
import Derived.Test.YtnnmbmgnpdcefaaXT
import Derived.Test.YtnnmbmgnpdcefaaGAp0
import Derived.Test.YtnnmbmgnpdcefaaGAp1
namespace Go.Proofs.Ytnnmbmgnpdcefaa.X
set_option maxHeartbeats 4000000
set_option maxRecDepth 100000
open Go Go.RowKit
set_option linter.unusedVariables false
set_option linter.unusedSimpArgs false

def P_extract_Elmore_L10 (l_0 : T_rules_Layout) (net1 : Int) : (Int × Int × List (T_rules_Spot × Int) × Int × Int) → Nd ((Int × Int × List (T_rules_Spot × Int) × Int × Int) ⊕ (Int × List (T_rules_Spot × Int) × Int × Int)) := fun (q2, q5, q4, q6, q7) =>
 if q5 < (l_0.Pins.length : Int) then
  nbd (
   nck (inb q5 l_0.Pins.length) <|
   nlv (gt l_0.Pins q5) fun q3 =>
   if q3.Net ≠ net1 then
    nret (q2, q4, q6, q7)
   else
    nlv (mget (T_rules_Spot.mk 0 q3.X q3.Y) q4 0) fun x59 =>
    nar (x59 + q3.Size) fun x62 =>
    nlv (mget (T_rules_Spot.mk 0 q3.X q3.Y) q4 0) fun x63 =>
    nlv (mput (T_rules_Spot.mk 0 q3.X q3.Y) x63 q4) fun q0g =>
    nlv (mput (T_rules_Spot.mk 0 q3.X q3.Y) x62 q0g) fun q0f =>
    nbd (
     if q3.Drive = true then
      nar (q2 + 1) fun x69 =>
      nret (x69, q3.X, q3.Y)
     else
      nret (q2, q6, q7)) fun (q8, q0a, q0b) =>
    nret (q8, q0f, q0a, q0b)) fun (q9, q0c, q0d, q0e) =>
  nar (q5 + 1) fun x70 =>
  nret (Sum.inl (q9, x70, q0c, q0d, q0e))
 else
  nret (Sum.inr (q2, q4, q6, q7))
def P_extract_Elmore_L26 (l_0 : T_rules_Layout) (net1 : Int) (q6 : (Bool × List (T_rules_Spot × Int))) : (List Int × Int) → Nd ((List Int × Int) ⊕ (List Int ⊕ (List Int × Int))) := fun (q2, q3) =>
 if q3 < (l_0.Pins.length : Int) then
  nbs (
   nck (inb q3 l_0.Pins.length) <|
   nlv (gt l_0.Pins q3) fun q4 =>
   if q4.Net ≠ net1 then
    nret (Sum.inl q2)
   else
    nlv (mget (T_rules_Spot.mk 0 q4.X q4.Y) q6.2 0) fun x107 =>
    nlv (mhas (T_rules_Spot.mk 0 q4.X q4.Y) q6.2) fun q107 =>
    if (!q107) = true then
     nret (Sum.inr ([], (18 : Int)))
    else
     nlv (q2 ++ [x107]) fun q7 =>
     nck (apOk 8 q7.length) <|
     nret (Sum.inl q7)) (fun y => nret (Sum.inr (Sum.inr y))) fun q5 =>
  nar (q3 + 1) fun x116 =>
  nret (Sum.inl (q5, x116))
 else
  nret (Sum.inr (Sum.inl q2))
def P_extract_Elmore (l_0 : T_rules_Layout) (net1 : Int) (near2 : Int) : Nd (List Int × Int) :=
 nbd (nof (P_extract_check l_0 net1)) fun q0a =>
 if q0a ≠ 0 then
  nret ([], q0a)
 else
  nlv ((decide (near2 < 0)) || (decide (4 < near2))) fun x31 =>
  if x31 = true then
   nret ([], (1 : Int))
  else
   nbd (
    nlp (P_extract_Elmore_L10 l_0 net1) fuel (0, 0, [], 0, 0)) fun (q2, q3, q4, q5) =>
   if q2 ≠ 1 then
    nret ([], (13 : Int))
   else
    nbd (nof (P_extract_of l_0 net1)) fun q7 =>
    nbd (nof (P_extract_strangers l_0 net1)) fun q0b =>
    nbd (P_extract_tree_fill l_0.W l_0.H l_0.Layers l_0.Nets l_0.Wires l_0.Vias l_0.Pins l_0.Walls [] q3 [] q7.1 q7.2 q0b near2) fun q8 =>
    nbd (nof (P_extract_tree_grow l_0.W l_0.H l_0.Layers l_0.Nets l_0.Wires l_0.Vias l_0.Pins l_0.Walls q8.1 q8.2 [] (T_rules_Spot.mk 0 q4 q5))) fun q9 =>
    if (!q9.1) = true then
     nret ([], (17 : Int))
    else
     nbs (
      nlp (P_extract_Elmore_L26 l_0 net1 q9) fuel ([], 0)) (fun y => nret y) fun q6 =>
     nret (q6, (0 : Int))
theorem c_extract_Elmore {w0 w : World} {l : List Assn} {ρ : Heap} {q4 : Option Addr} {q2i : Nat} {c_l_0_4 : Nat} {q5 : Option Addr} {q2j : Nat} {c_l_0_5 : Nat} {q3 : Option Addr} {q2k : Nat} {c_l_0_6 : Nat} {q6 : Option Addr} {q2l : Nat} {c_l_0_7 : Nat} {l_0 : T_rules_Layout} {net1 : Int} {near2 : Int} {Q : (List Int × Int) → Prop} (hF : P_extract_Elmore l_0 net1 near2 Q) (q10 : RdS R_rules_Wire ρ q4 q2i c_l_0_4 l_0.Wires) (q11 : RdS R_rules_Via ρ q5 q2j c_l_0_5 l_0.Vias) (q0h : RdS R_rules_Pin ρ q3 q2k c_l_0_6 l_0.Pins) (q12 : RdS R_floor_Wall ρ q6 q2l c_l_0_7 l_0.Walls) (hS : St w0 w (ro ρ :: l)) :
  Calls Try.prog 10 #[.agg #[.int .i64 l_0.W, .int .i64 l_0.H, .int .i64 l_0.Layers, .int .i64 l_0.Nets, .slice q4 q2i c_l_0_4, .slice q5 q2j c_l_0_5, .slice q3 q2k c_l_0_6, .slice q6 q2l c_l_0_7], .int .i64 net1, .int .i64 near2] w fun e w' => ∃ r : (List Int × Int), Q r ∧ ∃ (q2d : Option Addr) (q20 : Nat) (c_y0_ret : Nat) (q29 : List Value), e = .returned (.tuple #[.slice q2d q20 c_y0_ret, .int .i64 r.2]) ∧ RepL (RpI .i64) ρ r.1 q29 ∧ St w0 w' (vec 3 (RpI .i64).sz (.slice q2d q20 c_y0_ret) q20 q29 :: ro ρ :: l) := by
 have e_ := q10.n; subst e_
 have e_ := q11.n; subst e_
 have e_ := q0h.n; subst e_
 have e_ := q12.n; subst e_
 refine enterC Try.func10 rfl 118 rfl (by simp) ?_
 refine x_seq <| x_region <| ?_
 refine o_box (cs := [.int .i64 l_0.W, .int .i64 l_0.H, .int .i64 l_0.Layers, .int .i64 l_0.Nets, .slice q4 l_0.Wires.length c_l_0_4, .slice q5 l_0.Vias.length c_l_0_5, .slice q3 l_0.Pins.length c_l_0_6, .slice q6 l_0.Walls.length c_l_0_7]) rfl rfl hS (fun b3 w' hS => ?_)
 replace hF := nbd_s hF; obtain ⟨q26, q3y, hF⟩ := hF
 refine p (yl_assign rfl) <| p (yl_assign rfl) <| x_done <| x_seq <|
  x_seq <| x_region <| pa (v := .agg #[.int .i64 l_0.W, .int .i64 l_0.H, .int .i64 l_0.Layers, .int .i64 l_0.Nets, .slice q4 l_0.Wires.length c_l_0_4, .slice q5 l_0.Vias.length c_l_0_5, .slice q3 l_0.Pins.length c_l_0_6, .slice q6 l_0.Walls.length c_l_0_7]) (ld_sub agg_31 rfl rfl rfl hS) <| p (yl_move rfl) <| ?_
 have hcall := c_extract_check q3y q10 q11 q0h q12 (hS.pull 1)
 refine o_cc call_35 (args2 rfl rfl) ((Calls.mono hcall (fun e w'' h => And.intro h.1 (h.2.pull 1)))) ?_
 rintro e w' ⟨rfl, hS⟩
 refine ⟨_, rfl, ?_⟩
 refine p (v := .int .i64 q26) (yl_assign rfl) <| x_done <| x_seq <| x_region <|
  p (v := .int .i64 q26) (yl_move rfl) <| p (yl_neq rfl rfl) <| x_done <|
  x_cond_p (q26 ≠ 0) rfl (fun hc24 => ?_) (fun hc24 => ?_)
 ·replace hF := nit_t hc24 hF
  refine x_seq <| x_region <| p (v := .int .i64 q26) (yl_move rfl) <| p (yl_assign rfl) <|
   p (v := .int .i64 q26) (yl_assign rfl) <| x_done <| ?_
  replace hS := St.vec_nil hS 3 (RpI .i64).sz
  have q8 : RepL (RpI .i64) ρ [] [] := rfl
  exact x_return ⟨_, ⟨_, _, rfl, rfl, _, _, rfl, rfl, rfl⟩, ([], q26), hF, none, 0, 0, [], rfl, q8, (((hS.pull 1).drop.pull 1).pull 1)⟩
 ·replace hF := nit_f hc24 hF
  replace hF := nlv_s hF; obtain ⟨x31, hx31, hF⟩ := hF
  refine x_skip <| x_seq <| x_seq <| x_region <|
   p (yl_move rfl) <| p (yl_lss rfl rfl) <| p (yl_move rfl) <| pg (v := .int .i64 near2) 28 (c := !(decide (near2 < 0))) (says_f _) (fun hq => Yl.at (yl_move rfl)) <|
   pg (v := .bool (decide (4 < near2))) 28 (c := !(decide (near2 < 0))) (says_f _) (fun hq => Yl.at (yl_gtr (cv hq) rfl)) <| p (yor' rfl rfl (fun hc => (cv (t_not hc))) hx31) <| x_done <|
   x_cond (t := x31) rfl (fun hc31 => ?_) (fun hc31 => ?_)
  ·replace hF := nit_t hc31 hF
   refine x_seq <| x_region <| p (yl_assign rfl) <| p (yl_assign rfl) <|
    x_done <| ?_
   replace hS := St.vec_nil hS 3 (RpI .i64).sz
   have q8 : RepL (RpI .i64) ρ [] [] := rfl
   exact x_return ⟨_, ⟨_, _, rfl, rfl, _, _, rfl, rfl, rfl⟩, ([], (1 : Int)), hF, none, 0, 0, [], rfl, q8, (((hS.pull 1).drop.pull 1).pull 1)⟩
  ·replace hF := nit_bf hc31 hF
   refine x_skip <| x_seq <| x_region <| pa (v := .agg #[.int .i64 l_0.W, .int .i64 l_0.H, .int .i64 l_0.Layers, .int .i64 l_0.Nets, .slice q4 l_0.Wires.length c_l_0_4, .slice q5 l_0.Vias.length c_l_0_5, .slice q3 l_0.Pins.length c_l_0_6, .slice q6 l_0.Walls.length c_l_0_7]) (ld_sub agg_31 rfl rfl rfl hS) <| ?_
   refine o_mkmapS (α := T_extract_step) kf_61 94 R_extract_step hS (fun b33 w' hS => ?_)
   refine o_mkmap (κ := T_rules_Spot) (α := Int) kf_61 (Value.int .i64) hS (fun b34 w' hS => ?_)
   refine o_mkmap (κ := T_rules_Spot) (α := Int) kf_61 (Value.int .i64) hS (fun b35 w' hS => ?_)
   refine p (v := .agg #[.int .i64 l_0.W, .int .i64 l_0.H, .int .i64 l_0.Layers, .int .i64 l_0.Nets, .slice q4 l_0.Wires.length c_l_0_4, .slice q5 l_0.Vias.length c_l_0_5, .slice q3 l_0.Pins.length c_l_0_6, .slice q6 l_0.Walls.length c_l_0_7, .map (some b33), .map (some b34), .map (some b35)]) (yl_build bld_82 bldf_82 (parts_eq (pt (va := .agg #[.int .i64 l_0.W, .int .i64 l_0.H, .int .i64 l_0.Layers, .int .i64 l_0.Nets, .slice q4 l_0.Wires.length c_l_0_4, .slice q5 l_0.Vias.length c_l_0_5, .slice q3 l_0.Pins.length c_l_0_6, .slice q6 l_0.Walls.length c_l_0_7]) rfl (pt (va := .map (some b33)) rfl (pt (va := .map (some b34)) rfl (pt (va := .map (some b35)) rfl pt0))))) (by kernel_rfl)) <| ?_
   refine o_box (cs := [.int .i64 l_0.W, .int .i64 l_0.H, .int .i64 l_0.Layers, .int .i64 l_0.Nets, .slice q4 l_0.Wires.length c_l_0_4, .slice q5 l_0.Vias.length c_l_0_5, .slice q3 l_0.Pins.length c_l_0_6, .slice q6 l_0.Walls.length c_l_0_7, .map (some b33), .map (some b34), .map (some b35)]) rfl rfl hS (fun b37 w' hS => ?_)
   refine p (yl_assign rfl) <| x_done <| x_seq <| x_region <| ?_
   refine o_alloc zero_61 hS (fun b10 w' hS => ?_)
   refine x_done <| x_seq <| x_region <| p (yl_assign rfl) <|
    x_done <| x_seq <| x_seq <| x_region <|
    p (yl_field0 fld_31_6 rfl) <| pa (at_load one_28 rfl ((hS.pull 5).cell rfl)) <| p (yl_len_slice usl_28 rfl) <| p (yl_move rfl) <|
    x_done <| ?_
   replace hF := nbd_j hF; obtain ⟨oL10, hLL10, hF⟩ := hF
   refine x_join (fun E w => ∃ (q0l : Int) (q17 : List (T_rules_Spot × Int)) (q0v : Int) (q0w : Int), oL10 (q0l, q17, q0v, q0w) ∧ E 1 = .int .i64 net1 ∧ E 2 = .int .i64 near2 ∧ E 3 = .pointer (some ⟨b3, 0, none⟩) ∧ E 9 = .pointer (some ⟨b37, 0, none⟩) ∧ E 10 = .pointer (some ⟨b10, 0, none⟩) ∧ E 11 = .int .i64 q0l ∧ St w0 w (cells b3 31 [.int .i64 l_0.W, .int .i64 l_0.H, .int .i64 l_0.Layers, .int .i64 l_0.Nets, .slice q4 l_0.Wires.length c_l_0_4, .slice q5 l_0.Vias.length c_l_0_5, .slice q3 l_0.Pins.length c_l_0_6, .slice q6 l_0.Walls.length c_l_0_7] :: cells b37 82 [.int .i64 l_0.W, .int .i64 l_0.H, .int .i64 l_0.Layers, .int .i64 l_0.Nets, .slice q4 l_0.Wires.length c_l_0_4, .slice q5 l_0.Vias.length c_l_0_5, .slice q3 l_0.Pins.length c_l_0_6, .slice q6 l_0.Walls.length c_l_0_7, .map (some b33), .map (some b34), .map (some b35)] :: cells b10 61 [.int .i64 0, .int .i64 q0v, .int .i64 q0w] :: mapS 94 R_extract_step b33 kf_61 [] :: mapA b34 kf_61 (Value.int .i64) q17 :: mapA b35 kf_61 (Value.int .i64) [] :: ro ρ :: l)) ?_ ?_
   ·refine x_block ?_
    refine x_loop (fun k_ E w => ∃ (q9 : Int) (q0r : Int) (q7 : List (T_rules_Spot × Int)) (q0c : Int) (q0d : Int), nlp (P_extract_Elmore_L10 l_0 net1) k_ (q9, q0r, q7, q0c, q0d) oL10 ∧ E 1 = .int .i64 net1 ∧ E 2 = .int .i64 near2 ∧ E 3 = .pointer (some ⟨b3, 0, none⟩) ∧ E 9 = .pointer (some ⟨b37, 0, none⟩) ∧ E 10 = .pointer (some ⟨b10, 0, none⟩) ∧ E 11 = .int .i64 q9 ∧ E 39 = .slice q3 l_0.Pins.length c_l_0_6 ∧ E 40 = .int .i64 (l_0.Pins.length : Int) ∧ E 41 = .int .i64 q0r ∧ St w0 w (cells b3 31 [.int .i64 l_0.W, .int .i64 l_0.H, .int .i64 l_0.Layers, .int .i64 l_0.Nets, .slice q4 l_0.Wires.length c_l_0_4, .slice q5 l_0.Vias.length c_l_0_5, .slice q3 l_0.Pins.length c_l_0_6, .slice q6 l_0.Walls.length c_l_0_7] :: cells b37 82 [.int .i64 l_0.W, .int .i64 l_0.H, .int .i64 l_0.Layers, .int .i64 l_0.Nets, .slice q4 l_0.Wires.length c_l_0_4, .slice q5 l_0.Vias.length c_l_0_5, .slice q3 l_0.Pins.length c_l_0_6, .slice q6 l_0.Walls.length c_l_0_7, .map (some b33), .map (some b34), .map (some b35)] :: cells b10 61 [.int .i64 0, .int .i64 q0c, .int .i64 q0d] :: mapS 94 R_extract_step b33 kf_61 [] :: mapA b34 kf_61 (Value.int .i64) q7 :: mapA b35 kf_61 (Value.int .i64) [] :: ro ρ :: l)) fuel ⟨0, 0, [], 0, 0, hLL10, rfl, rfl, rfl, rfl, rfl, rfl, rfl, rfl, rfl, (((((((hS.pull 6).pull 3).pull 4).pull 5).pull 4).pull 5).pull 6)⟩ ?_
    rintro kL10 E w ⟨q9, q0r, q7, q0c, q0d, hLL10, q1a, q1k, q1l, q1b, q13, q1d, q1e, q1f, q14, hS⟩
    replace hLL10 := nlp_s hLL10; obtain ⟨kL10, obL10, rfl, hFL10, hLL10⟩ := hLL10
    refine x_seq <| x_region <| p (yl_lss q14 q1f) <| x_done <|
     x_seq <|
     x_cond_p (q0r < (l_0.Pins.length : Int)) rfl (fun hc42 => ?_) (fun hc42 => ?_)
    ·replace hFL10 := nit_t hc42 hFL10
     refine x_skip <| x_seq <| ?_
     replace hFL10 := nbd_j hFL10; obtain ⟨ob1, hFb1, hFL10⟩ := hFL10
     refine x_join (fun E w => ∃ (q0n : Int) (q1g : List (T_rules_Spot × Int)) (q1h : Int) (q1i : Int), ob1 (q0n, q1g, q1h, q1i) ∧ E 1 = .int .i64 net1 ∧ E 2 = .int .i64 near2 ∧ E 3 = .pointer (some ⟨b3, 0, none⟩) ∧ E 9 = .pointer (some ⟨b37, 0, none⟩) ∧ E 10 = .pointer (some ⟨b10, 0, none⟩) ∧ E 11 = .int .i64 q0n ∧ E 39 = .slice q3 l_0.Pins.length c_l_0_6 ∧ E 40 = .int .i64 (l_0.Pins.length : Int) ∧ E 41 = .int .i64 q0r ∧ St w0 w (cells b3 31 [.int .i64 l_0.W, .int .i64 l_0.H, .int .i64 l_0.Layers, .int .i64 l_0.Nets, .slice q4 l_0.Wires.length c_l_0_4, .slice q5 l_0.Vias.length c_l_0_5, .slice q3 l_0.Pins.length c_l_0_6, .slice q6 l_0.Walls.length c_l_0_7] :: cells b37 82 [.int .i64 l_0.W, .int .i64 l_0.H, .int .i64 l_0.Layers, .int .i64 l_0.Nets, .slice q4 l_0.Wires.length c_l_0_4, .slice q5 l_0.Vias.length c_l_0_5, .slice q3 l_0.Pins.length c_l_0_6, .slice q6 l_0.Walls.length c_l_0_7, .map (some b33), .map (some b34), .map (some b35)] :: cells b10 61 [.int .i64 0, .int .i64 q1h, .int .i64 q1i] :: mapS 94 R_extract_step b33 kf_61 [] :: mapA b34 kf_61 (Value.int .i64) q1g :: mapA b35 kf_61 (Value.int .i64) [] :: ro ρ :: l)) ?_ ?_
     ·replace hFb1 := nck_s hFb1; obtain ⟨q2r, hFb1⟩ := hFb1
      replace hFb1 := nlv_s hFb1; obtain ⟨q2, q3a, hFb1⟩ := hFb1
      have q_ := q0h.get q2r; obtain ⟨q45, q2s, q3b⟩ := q_
      rw [← q3a] at q2s
      have e_ := q2s; subst e_
      refine x_block <| x_seq <| x_region <| p (yix_f sl_28 q1e q14 q0h q2r) <|
       pa (v := .agg #[.int .i64 q2.Net, .int .i64 q2.X, .int .i64 q2.Y, .bool q2.Drive, .int .i64 q2.Size]) (at_loadAgg agg_39 rfl rfl (Elt.every q3b (hS.pull 6))) <| ?_
      refine o_alloc zero_39 hS (fun b13 w' hS => ?_)
      refine o_storeAgg (news := [.int .i64 q2.Net, .int .i64 q2.X, .int .i64 q2.Y, .bool q2.Drive, .int .i64 q2.Size]) agg_39 rfl rfl rfl (by simp [over_length]) hS (fun w' hS => ?_)
      refine x_done <| x_seq <| x_seq <| x_region <|
       p (yl_field0 fld_39_0 rfl) <| pa (at_load one_3 rfl (hS.cell rfl)) <| p (yl_move q1a) <| p (yl_neq rfl rfl) <|
       x_done <|
       x_cond_p (q2.Net ≠ net1) rfl (fun hc48 => ?_) (fun hc48 => ?_)
      ·replace hFb1 := nit_t hc48 hFb1
       refine x_exitTo _ rfl <| ?_
       exact x_inv ⟨q9, q7, q0c, q0d, hFb1, q1a, q1k, q1l, q1b, q13, q1d, q1e, q1f, q14, (((((((hS.drop.pull 6).pull 6).pull 6).pull 6).pull 6).pull 6).pull 6)⟩
      ·replace hFb1 := nit_f hc48 hFb1
       refine x_skip <| x_seq <| x_region <| p (yl_field0 fld_39_1 rfl) <|
        pa (at_load one_3 rfl (hS.cell rfl)) <| p (yl_field0 fld_39_2 rfl) <| pa (at_load one_3 rfl (hS.cell rfl)) <| p (v := .agg #[.int .i64 0, .int .i64 q2.X, .int .i64 q2.Y]) (yl_build bld_61 bldf_61 (parts_eq (pt (va := .int .i64 q2.X) rfl (pt (va := .int .i64 q2.Y) rfl pt0))) (by kernel_rfl)) <| ?_
       refine o_alloc zero_61 hS (fun b14 w' hS => ?_)
       refine o_storeAgg (news := [.int .i64 0, .int .i64 q2.X, .int .i64 q2.Y]) agg_61 rfl rfl rfl (by simp [over_length]) hS (fun w' hS => ?_)
       refine x_done <| x_seq <| ?_
       replace hFb1 := nlv_s hFb1; obtain ⟨x59, hx59, hFb1⟩ := hFb1
       replace hFb1 := nar_s hFb1; obtain ⟨x62, hx62, hFb1⟩ := hFb1
       replace hFb1 := nlv_s hFb1; obtain ⟨x63, hx63, hFb1⟩ := hFb1
       replace hFb1 := nlv_s hFb1; obtain ⟨q2m, q2e, hFb1⟩ := hFb1
       replace hFb1 := nlv_s hFb1; obtain ⟨q24, q30, hFb1⟩ := hFb1
       refine x_par (w0 := w0) [⟨[], [], [54], [], [], [], none⟩, ⟨[0], [0], [55], [], [], [], none⟩, ⟨[0, 1], [1], [56], [], [], [], none⟩, ⟨[0, 1, 2], [2], [57], [0], [], [], none⟩, ⟨[], [], [58], [1], [], [], none⟩, ⟨[0, 1, 2, 3, 4], [3, 4], [59], [], [], [], some (2, 4)⟩, ⟨[], [], [60], [], [], [], none⟩, ⟨[6], [6], [61], [3], [], [], none⟩, ⟨[0, 1, 2, 3, 4, 5, 6, 7], [5, 7], [62], [], [], [], none⟩, ⟨[0, 1, 2, 3, 4, 6, 7], [3, 4], [63], [], [2], [4], none⟩, ⟨[0, 1, 2, 3, 4, 6, 7, 9], [9], [64], [], [], [], none⟩, ⟨[0, 1, 2, 3, 4, 5, 6, 7, 8, 9, 10], [3, 8, 10], [], [], [4], [5], none⟩] [⟨none, none, []⟩, ⟨none, none, []⟩, ⟨none, (some 9), []⟩, ⟨none, none, []⟩, ⟨(some 9), (some 11), []⟩, ⟨(some 11), none, []⟩] [54, 55, 56, 57, 58, 59, 60, 61, 62, 63, 64] [0, 1, 2, 3] [0, 1, 3, 5] [0, 1, 2, 3, 4, 5, 6, 7, 8, 9, 10] [fun Ep14 => Ep14 54 = .pointer (some ⟨b37, 0, none⟩), fun Ep14 => Ep14 55 = .pointer (some ⟨b37, 0, none⟩), fun Ep14 => Ep14 56 = .pointer (some ⟨b37, 9, none⟩), fun Ep14 => Ep14 57 = .map (some b34), fun Ep14 => Ep14 58 = .agg #[.int .i64 0, .int .i64 q2.X, .int .i64 q2.Y], fun Ep14 => Ep14 59 = .int .i64 x59, fun Ep14 => Ep14 60 = .pointer (some ⟨b13, 4, none⟩), fun Ep14 => Ep14 61 = .int .i64 q2.Size, fun Ep14 => Ep14 62 = .int .i64 x62, fun Ep14 => Ep14 63 = .tuple #[.int .i64 x63, .int .i64 ((mpos (T_rules_Spot.mk 0 q2.X q2.Y) q7 : Nat) : Int)], fun Ep14 => Ep14 64 = .int .i64 ((mpos (T_rules_Spot.mk 0 q2.X q2.Y) q7 : Nat) : Int), fun Ep14 => True] [fun Ep14 => cells b37 82 [.int .i64 l_0.W, .int .i64 l_0.H, .int .i64 l_0.Layers, .int .i64 l_0.Nets, .slice q4 l_0.Wires.length c_l_0_4, .slice q5 l_0.Vias.length c_l_0_5, .slice q3 l_0.Pins.length c_l_0_6, .slice q6 l_0.Walls.length c_l_0_7, .map (some b33), .map (some b34), .map (some b35)], fun Ep14 => cells b14 61 [.int .i64 0, .int .i64 q2.X, .int .i64 q2.Y], fun Ep14 => mapA b34 kf_61 (Value.int .i64) q7, fun Ep14 => cells b13 39 [.int .i64 q2.Net, .int .i64 q2.X, .int .i64 q2.Y, .bool q2.Drive, .int .i64 q2.Size], fun Ep14 => mapA b34 kf_61 (Value.int .i64) q2m, fun Ep14 => mapA b34 kf_61 (Value.int .i64) q24] mixed (by kernel_rfl) ((((hS.pull 1).pull 6).pull 2).pull 4) ?_ ?_
       ·refine ⟨?_, ?_, ?_, ?_, ?_, ?_, ?_, ?_, ?_, ?_, ?_, ?_, trivial⟩
        ·intro Ep14 w l' hE14 hO14 hF_ hS
         refine p (yl_move ((hE14 9 rfl).trans q1b)) <| x_done <| ?_
         refine x_fin ⟨⟨_, rfl⟩, rfl, ?_⟩
         exact emk hS
        ·intro Ep14 w l' hE14 hO14 hF_ hS
         obtain ⟨q1m, -⟩ := hF_
         replace q1m : Ep14 54 = .pointer (some ⟨b37, 0, none⟩) := emk q1m
         refine p (yl_nilCheck q1m) <| x_done <| ?_
         refine x_fin ⟨⟨_, rfl⟩, rfl, ?_⟩
         exact emk hS
        ·intro Ep14 w l' hE14 hO14 hF_ hS
         obtain ⟨q1n, -⟩ := hF_
         replace q1n : Ep14 55 = .pointer (some ⟨b37, 0, none⟩) := emk q1n
         refine p (yl_field0 fld_82_2 q1n) <| x_done <| ?_
         refine x_fin ⟨⟨_, rfl⟩, rfl, ?_⟩
         exact emk hS
        ·intro Ep14 w l' hE14 hO14 hF_ hS
         obtain ⟨q1o, -⟩ := hF_
         replace q1o : Ep14 56 = .pointer (some ⟨b37, 9, none⟩) := emk q1o
         replace hS : St w0 w (cells b37 82 [.int .i64 l_0.W, .int .i64 l_0.H, .int .i64 l_0.Layers, .int .i64 l_0.Nets, .slice q4 l_0.Wires.length c_l_0_4, .slice q5 l_0.Vias.length c_l_0_5, .slice q3 l_0.Pins.length c_l_0_6, .slice q6 l_0.Walls.length c_l_0_7, .map (some b33), .map (some b34), .map (some b35)] :: l') := emk hS
         refine pa (at_load one_80 q1o (hS.cell rfl)) <| x_done <| ?_
         refine x_fin ⟨⟨_, rfl⟩, rfl, ?_⟩
         exact emk hS
        ·intro Ep14 w l' hE14 hO14 hF_ hS
         replace hS : St w0 w (cells b14 61 [.int .i64 0, .int .i64 q2.X, .int .i64 q2.Y] :: l') := emk hS
         refine pa (v := .agg #[.int .i64 0, .int .i64 q2.X, .int .i64 q2.Y]) (ld_sub agg_61 (hE14 14 rfl) rfl rfl hS) <| x_done <| ?_
         refine x_fin ⟨⟨_, rfl⟩, rfl, ?_⟩
         exact emk hS
        ·refine ⟨?_, ?_⟩
         ·intro Ep14 w l' hE14 hO14 hF_ hS
          obtain ⟨q0a, q0i, -⟩ := hF_
          replace q0a : Ep14 57 = .map (some b34) := emk q0a
          replace q0i : Ep14 58 = .agg #[.int .i64 0, .int .i64 q2.X, .int .i64 q2.Y] := emk q0i
          replace hS : St w0 w (mapA b34 kf_61 (Value.int .i64) q7 :: l') := emk hS
          refine pa (at_look (k := (T_rules_Spot.mk 0 q2.X q2.Y)) um_80 kp_61 (zero1 zv_3) q0a q0i hS hx59) <| x_done <| ?_
          refine x_fin ⟨⟨_, rfl⟩, rfl, ?_⟩
          exact emk hS
         ·intro Ep14 w l' hE14 hO14 hF_ hS
          obtain ⟨q0a, q0i, -⟩ := hF_
          replace q0a : Ep14 57 = .map (some b34) := emk q0a
          replace q0i : Ep14 58 = .agg #[.int .i64 0, .int .i64 q2.X, .int .i64 q2.Y] := emk q0i
          replace hS : St w0 w (mapA b34 kf_61 (Value.int .i64) q2m :: l') := emk hS
          refine pa (at_look (k := (T_rules_Spot.mk 0 q2.X q2.Y)) um_80 kp_61 (zero1 zv_3) q0a q0i hS (hx59.trans (mget_ent q2e hx63).symm)) <| x_done <| ?_
          refine x_fin ⟨⟨_, rfl⟩, rfl, ?_⟩
          exact emk hS
        ·intro Ep14 w l' hE14 hO14 hF_ hS
         refine p (yl_field0 fld_39_4 (hE14 13 rfl)) <| x_done <| ?_
         refine x_fin ⟨⟨_, rfl⟩, rfl, ?_⟩
         exact emk hS
        ·intro Ep14 w l' hE14 hO14 hF_ hS
         obtain ⟨q1p, -⟩ := hF_
         replace q1p : Ep14 60 = .pointer (some ⟨b13, 4, none⟩) := emk q1p
         replace hS : St w0 w (cells b13 39 [.int .i64 q2.Net, .int .i64 q2.X, .int .i64 q2.Y, .bool q2.Drive, .int .i64 q2.Size] :: l') := emk hS
         refine pa (at_load one_3 q1p (hS.cell rfl)) <| x_done <| ?_
         refine x_fin ⟨⟨_, rfl⟩, rfl, ?_⟩
         exact emk hS
        ·intro Ep14 w l' hE14 hO14 hF_ hS
         obtain ⟨q1q, q1r, -⟩ := hF_
         replace q1q : Ep14 59 = .int .i64 x59 := emk q1q
         replace q1r : Ep14 61 = .int .i64 q2.Size := emk q1r
         refine p (yadd q1q q1r hx62) <| x_done <| ?_
         refine x_fin ⟨⟨_, rfl⟩, rfl, ?_⟩
         exact emk hS
        ·intro Ep14 w l' hE14 hO14 hF_ hS
         obtain ⟨q0a, q0i, -⟩ := hF_
         replace q0a : Ep14 57 = .map (some b34) := emk q0a
         replace q0i : Ep14 58 = .agg #[.int .i64 0, .int .i64 q2.X, .int .i64 q2.Y] := emk q0i
         replace hS : St w0 w (mapA b34 kf_61 (Value.int .i64) q7 :: l') := emk hS
         refine o_mapEntry (k := (T_rules_Spot.mk 0 q2.X q2.Y)) (vf := (Value.int .i64)) um_80 kp_61 (zero1 zv_3) q0a q0i hS hx63 q2e (fun w' hS => ?_)
         refine x_done <| ?_
         refine x_fin ⟨⟨_, rfl⟩, rfl, ?_⟩
         exact emk hS
        ·intro Ep14 w l' hE14 hO14 hF_ hS
         obtain ⟨q1s, -⟩ := hF_
         replace q1s : Ep14 63 = .tuple #[.int .i64 x63, .int .i64 ((mpos (T_rules_Spot.mk 0 q2.X q2.Y) q7 : Nat) : Int)] := emk q1s
         refine p (yl_extract q1s rfl) <| x_done <| ?_
         refine x_fin ⟨⟨_, rfl⟩, rfl, ?_⟩
         exact emk hS
        ·intro Ep14 w l' hE14 hO14 hF_ hS
         obtain ⟨q0a, q1t, q1c, -⟩ := hF_
         replace q0a : Ep14 57 = .map (some b34) := emk q0a
         replace q1t : Ep14 62 = .int .i64 x62 := emk q1t
         replace q1c : Ep14 64 = .int .i64 ((mpos (T_rules_Spot.mk 0 q2.X q2.Y) q7 : Nat) : Int) := emk q1c
         replace hS : St w0 w (mapA b34 kf_61 (Value.int .i64) q2m :: l') := emk hS
         refine o_entryStore (k := (T_rules_Spot.mk 0 q2.X q2.Y)) (es := q7) (v0 := x63) (vf := (Value.int .i64)) (v := x62) q0a q1c q1t rfl q2e hS q30 (fun w' hS => ?_)
         refine x_done <| ?_
         refine x_fin ⟨⟨undef, rfl⟩, trivial, ?_⟩
         exact emk hS
       intro Ep14 w' hE14 hF_ hS
       obtain ⟨q1m, q1n, q1o, q0a, q0i, q1q, q1p, q1r, q1t, q1s, q1c, -⟩ := hF_
       replace q1m : Ep14 54 = .pointer (some ⟨b37, 0, none⟩) := emk q1m
       replace q1n : Ep14 55 = .pointer (some ⟨b37, 0, none⟩) := emk q1n
       replace q1o : Ep14 56 = .pointer (some ⟨b37, 9, none⟩) := emk q1o
       replace q0a : Ep14 57 = .map (some b34) := emk q0a
       replace q0i : Ep14 58 = .agg #[.int .i64 0, .int .i64 q2.X, .int .i64 q2.Y] := emk q0i
       replace q1q : Ep14 59 = .int .i64 x59 := emk q1q
       replace q1p : Ep14 60 = .pointer (some ⟨b13, 4, none⟩) := emk q1p
       replace q1r : Ep14 61 = .int .i64 q2.Size := emk q1r
       replace q1t : Ep14 62 = .int .i64 x62 := emk q1t
       replace q1s : Ep14 63 = .tuple #[.int .i64 x63, .int .i64 ((mpos (T_rules_Spot.mk 0 q2.X q2.Y) q7 : Nat) : Int)] := emk q1s
       replace q1c : Ep14 64 = .int .i64 ((mpos (T_rules_Spot.mk 0 q2.X q2.Y) q7 : Nat) : Int) := emk q1c
       replace hS : St w0 w' (cells b37 82 [.int .i64 l_0.W, .int .i64 l_0.H, .int .i64 l_0.Layers, .int .i64 l_0.Nets, .slice q4 l_0.Wires.length c_l_0_4, .slice q5 l_0.Vias.length c_l_0_5, .slice q3 l_0.Pins.length c_l_0_6, .slice q6 l_0.Walls.length c_l_0_7, .map (some b33), .map (some b34), .map (some b35)] :: cells b14 61 [.int .i64 0, .int .i64 q2.X, .int .i64 q2.Y] :: cells b13 39 [.int .i64 q2.Net, .int .i64 q2.X, .int .i64 q2.Y, .bool q2.Drive, .int .i64 q2.Size] :: mapA b34 kf_61 (Value.int .i64) q24 :: (cells b3 31 [.int .i64 l_0.W, .int .i64 l_0.H, .int .i64 l_0.Layers, .int .i64 l_0.Nets, .slice q4 l_0.Wires.length c_l_0_4, .slice q5 l_0.Vias.length c_l_0_5, .slice q3 l_0.Pins.length c_l_0_6, .slice q6 l_0.Walls.length c_l_0_7] :: cells b10 61 [.int .i64 0, .int .i64 q0c, .int .i64 q0d] :: mapS 94 R_extract_step b33 kf_61 [] :: mapA b35 kf_61 (Value.int .i64) [] :: ro ρ :: l)) := emk hS
       refine x_seq <| x_region <| p (yl_field0 fld_39_3 (hE14 13 rfl)) <| pa (at_load one_4 rfl ((hS.pull 2).cell rfl)) <|
        x_done <| ?_
       replace hFb1 := nbd_j hFb1; obtain ⟨oc66, hFc66, hFb1⟩ := hFb1
       refine x_join (fun E w => ∃ (q0m : Int) (q18 : Int) (q19 : Int), oc66 (q0m, q18, q19) ∧ E 1 = .int .i64 net1 ∧ E 2 = .int .i64 near2 ∧ E 3 = .pointer (some ⟨b3, 0, none⟩) ∧ E 9 = .pointer (some ⟨b37, 0, none⟩) ∧ E 10 = .pointer (some ⟨b10, 0, none⟩) ∧ E 11 = .int .i64 q0m ∧ E 39 = .slice q3 l_0.Pins.length c_l_0_6 ∧ E 40 = .int .i64 (l_0.Pins.length : Int) ∧ E 41 = .int .i64 q0r ∧ St w0 w (cells b3 31 [.int .i64 l_0.W, .int .i64 l_0.H, .int .i64 l_0.Layers, .int .i64 l_0.Nets, .slice q4 l_0.Wires.length c_l_0_4, .slice q5 l_0.Vias.length c_l_0_5, .slice q3 l_0.Pins.length c_l_0_6, .slice q6 l_0.Walls.length c_l_0_7] :: cells b37 82 [.int .i64 l_0.W, .int .i64 l_0.H, .int .i64 l_0.Layers, .int .i64 l_0.Nets, .slice q4 l_0.Wires.length c_l_0_4, .slice q5 l_0.Vias.length c_l_0_5, .slice q3 l_0.Pins.length c_l_0_6, .slice q6 l_0.Walls.length c_l_0_7, .map (some b33), .map (some b34), .map (some b35)] :: cells b10 61 [.int .i64 0, .int .i64 q18, .int .i64 q19] :: mapS 94 R_extract_step b33 kf_61 [] :: mapA b34 kf_61 (Value.int .i64) q24 :: mapA b35 kf_61 (Value.int .i64) [] :: ro ρ :: l)) ?_ ?_
       ·refine x_cond (t := q2.Drive) rfl (fun hc66 => ?_) (fun hc66 => ?_)
        ·replace hFc66 := nit_t hc66 hFc66
         refine x_seq <| x_region <| pa (v := .agg #[.int .i64 0, .int .i64 q2.X, .int .i64 q2.Y]) (ld_sub agg_61 (hE14 14 rfl) rfl rfl (hS.pull 1)) <| ?_
         refine o_storeAgg (news := [.int .i64 0, .int .i64 q2.X, .int .i64 q2.Y]) agg_61 ((hE14 10 rfl).trans q13) rfl rfl (by simp [over_length]) (hS.pull 5) (fun w' hS => ?_)
         replace hFc66 := nar_s hFc66; obtain ⟨x69, hx69, hFc66⟩ := hFc66
         refine x_done <| x_region <| p (yl_move ((hE14 11 rfl).trans q1d)) <| p (yadd rfl rfl hx69) <|
          p (yl_assign rfl) <| x_done <| ?_
         exact x_inv ⟨x69, q2.X, q2.Y, hFc66, ((hE14 1 rfl).trans q1a), ((hE14 2 rfl).trans q1k), ((hE14 3 rfl).trans q1l), ((hE14 9 rfl).trans q1b), ((hE14 10 rfl).trans q13), rfl, ((hE14 39 rfl).trans q1e), ((hE14 40 rfl).trans q1f), ((hE14 41 rfl).trans q14), (((((((((hS.pull 2).drop.pull 2).drop.pull 6).pull 6).pull 4).pull 6).pull 4).pull 5).pull 6)⟩
        ·replace hFc66 := nit_bf hc66 hFc66
         refine x_skip <| ?_
         exact x_inv ⟨q9, q0c, q0d, hFc66, ((hE14 1 rfl).trans q1a), ((hE14 2 rfl).trans q1k), ((hE14 3 rfl).trans q1l), ((hE14 9 rfl).trans q1b), ((hE14 10 rfl).trans q13), ((hE14 11 rfl).trans q1d), ((hE14 39 rfl).trans q1e), ((hE14 40 rfl).trans q1f), ((hE14 41 rfl).trans q14), (((((((((hS.pull 1).drop.pull 1).drop.pull 6).pull 6).pull 3).pull 6).pull 6).pull 5).pull 6)⟩
       rintro E w ⟨q0m, q18, q19, hq_, q3c, q3d, q3e, q3f, q31, q32, q33, q34, q35, hS⟩
       replace hFb1 := hFb1 _ hq_
       clear hq_
       refine x_blk <| ?_
       exact x_inv ⟨q0m, q24, q18, q19, hFb1, q3c, q3d, q3e, q3f, q31, q32, q33, q34, q35, (((((((hS.pull 6).pull 6).pull 6).pull 6).pull 6).pull 6).pull 6)⟩
     rintro E w ⟨q0n, q1g, q1h, q1i, hq_, q3z, q40, q41, q42, q3g, q3h, q3i, q3j, q3k, hS⟩
     replace hFL10 := hFL10 _ hq_
     clear hq_
     replace hFL10 := nar_s hFL10; obtain ⟨x70, hx70, hFL10⟩ := hFL10
     refine x_region <| p (yadd q3k rfl hx70) <| p (yl_move rfl) <| x_done <| ?_
     exact x_inv ⟨kL10, Nat.lt_succ_self _, q0n, x70, q1g, q1h, q1i, (hLL10 _ hFL10), q3z, q40, q41, q42, q3g, q3h, q3i, q3j, rfl, (((((((hS.pull 6).pull 6).pull 6).pull 6).pull 6).pull 6).pull 6)⟩
    ·replace hFL10 := nit_f hc42 hFL10
     refine x_exitTo _ rfl <| ?_
     exact x_inv ⟨q9, q7, q0c, q0d, (hLL10 _ hFL10), q1a, q1k, q1l, q1b, q13, q1d, (((((((hS.pull 6).pull 6).pull 6).pull 6).pull 6).pull 6).pull 6)⟩
   rintro E w ⟨q0l, q17, q0v, q0w, hq_, q2f, q3l, q2g, q2h, q36, q37, hS⟩
   replace hF := hF _ hq_
   clear hq_
   refine x_seq <| x_seq <| x_region <| p (yl_move q37) <|
    p (yl_neq rfl rfl) <| x_done <|
    x_cond_p (q0l ≠ 1) rfl (fun hc72 => ?_) (fun hc72 => ?_)
   ·replace hF := nit_t hc72 hF
    refine x_seq <| x_region <| p (yl_assign rfl) <| p (yl_assign rfl) <|
     x_done <| ?_
    replace hS := St.vec_nil hS 3 (RpI .i64).sz
    have q8 : RepL (RpI .i64) ρ [] [] := rfl
    exact x_return ⟨_, ⟨_, _, rfl, rfl, _, _, rfl, rfl, rfl⟩, ([], (13 : Int)), hF, none, 0, 0, [], rfl, q8, ((((((((hS.pull 1).drop.pull 1).drop.pull 1).drop.pull 1).drop.pull 1).drop.pull 1).drop.pull 1).pull 1)⟩
   ·replace hF := nit_f hc72 hF
    refine x_skip <| x_seq <| ?_
    replace hF := nbd_s hF; obtain ⟨q2a, q3m, hF⟩ := hF
    replace hF := nbd_s hF; obtain ⟨q2w, q3n, hF⟩ := hF
    refine x_parL 8 _ (w0 := w0) [⟨[], [], [73], [], [], [], none⟩, ⟨[], [], [74], [0], [], [], none⟩, ⟨[], [], [75], [], [], [], none⟩, ⟨[1, 2], [1, 2], [76], [1], [], [2, 3], none⟩, ⟨[], [], [77], [0], [], [], none⟩, ⟨[], [], [78], [], [], [], none⟩, ⟨[1, 2, 3, 4, 5], [4, 5], [79], [1], [], [4], none⟩, ⟨[], [], [80], [], [], [], none⟩, ⟨[0, 1, 2, 3, 4, 5, 6, 7], [], [], [], [], [], none⟩] [⟨none, none, []⟩, ⟨none, none, []⟩, ⟨(some 3), none, [76]⟩, ⟨(some 3), none, [76]⟩, ⟨(some 6), none, [79]⟩] [73, 74, 75, 76, 77, 78, 79, 80, 81] [0, 1] [0, 1, 2, 3, 4] [0, 1, 2, 3, 4, 5, 6, 7] [fun Ep21 => Ep21 73 = .pointer (some ⟨b37, 0, none⟩), fun Ep21 => Ep21 74 = .agg #[.int .i64 l_0.W, .int .i64 l_0.H, .int .i64 l_0.Layers, .int .i64 l_0.Nets, .slice q4 l_0.Wires.length c_l_0_4, .slice q5 l_0.Vias.length c_l_0_5, .slice q3 l_0.Pins.length c_l_0_6, .slice q6 l_0.Walls.length c_l_0_7], fun Ep21 => Ep21 75 = .int .i64 net1, fun Ep21 => Ep21 76 = .agg #[.map (some (mblkOf (partOf 0 (Ep21 76)))), .map (some (mblkOf (partOf 1 (Ep21 76))))], fun Ep21 => Ep21 77 = .agg #[.int .i64 l_0.W, .int .i64 l_0.H, .int .i64 l_0.Layers, .int .i64 l_0.Nets, .slice q4 l_0.Wires.length c_l_0_4, .slice q5 l_0.Vias.length c_l_0_5, .slice q3 l_0.Pins.length c_l_0_6, .slice q6 l_0.Walls.length c_l_0_7], fun Ep21 => Ep21 78 = .int .i64 net1, fun Ep21 => Ep21 79 = .map (some (mblkOf (Ep21 79))), fun Ep21 => Ep21 80 = .int .i64 near2] [fun Ep21 => cells b3 31 [.int .i64 l_0.W, .int .i64 l_0.H, .int .i64 l_0.Layers, .int .i64 l_0.Nets, .slice q4 l_0.Wires.length c_l_0_4, .slice q5 l_0.Vias.length c_l_0_5, .slice q3 l_0.Pins.length c_l_0_6, .slice q6 l_0.Walls.length c_l_0_7], fun Ep21 => ro ρ, fun Ep21 => mapA (mblkOf (partOf 0 (Ep21 76))) kf_61 Value.bool q2a.1, fun Ep21 => mapA (mblkOf (partOf 1 (Ep21 76))) kf_94 Value.bool q2a.2, fun Ep21 => mapA (mblkOf (Ep21 79)) kf_61 Value.bool q2w] mixed (by kernel_rfl) rfl ((hS.pull 6).pull 1) ?_ ?_
    ·refine ⟨?_, ?_, ?_, ?_, ?_, ?_, ?_, ?_, trivial⟩
     ·intro Ep21 w l' hE21 hO21 hF_ hS
      refine p (yl_move ((hE21 9 rfl).trans q2h)) <| x_done <| ?_
      refine x_fin ⟨⟨_, rfl⟩, rfl, ?_⟩
      exact emk hS
     ·intro Ep21 w l' hE21 hO21 hF_ hS
      replace hS : St w0 w (cells b3 31 [.int .i64 l_0.W, .int .i64 l_0.H, .int .i64 l_0.Layers, .int .i64 l_0.Nets, .slice q4 l_0.Wires.length c_l_0_4, .slice q5 l_0.Vias.length c_l_0_5, .slice q3 l_0.Pins.length c_l_0_6, .slice q6 l_0.Walls.length c_l_0_7] :: l') := emk hS
      refine pa (v := .agg #[.int .i64 l_0.W, .int .i64 l_0.H, .int .i64 l_0.Layers, .int .i64 l_0.Nets, .slice q4 l_0.Wires.length c_l_0_4, .slice q5 l_0.Vias.length c_l_0_5, .slice q3 l_0.Pins.length c_l_0_6, .slice q6 l_0.Walls.length c_l_0_7]) (ld_sub agg_31 ((hE21 3 rfl).trans q2g) rfl rfl hS) <| x_done <| ?_
      refine x_fin ⟨⟨_, rfl⟩, rfl, ?_⟩
      exact emk hS
     ·intro Ep21 w l' hE21 hO21 hF_ hS
      refine p (yl_move ((hE21 1 rfl).trans q2f)) <| x_done <| ?_
      refine x_fin ⟨⟨_, rfl⟩, rfl, ?_⟩
      exact emk hS
     ·intro Ep21 w l' hE21 hO21 hF_ hS
      obtain ⟨q1u, q1v, -⟩ := hF_
      replace q1u : Ep21 74 = .agg #[.int .i64 l_0.W, .int .i64 l_0.H, .int .i64 l_0.Layers, .int .i64 l_0.Nets, .slice q4 l_0.Wires.length c_l_0_4, .slice q5 l_0.Vias.length c_l_0_5, .slice q3 l_0.Pins.length c_l_0_6, .slice q6 l_0.Walls.length c_l_0_7] := emk q1u
      replace q1v : Ep21 75 = .int .i64 net1 := emk q1v
      replace hS : St w0 w (ro ρ :: l') := emk hS
      have hcall := c_extract_of q3m q10 q11 q0h q12 hS
      refine o_cc call_37 (args2 q1u q1v) hcall ?_
      rintro e w' ⟨q2x, q2y, rfl, hS⟩
      refine ⟨_, rfl, ?_⟩
      refine x_done <| ?_
      refine x_fin ⟨⟨_, rfl⟩, rfl, ?_⟩
      exact emk (((hS.pull 1).pull 1).pull 2)
     ·intro Ep21 w l' hE21 hO21 hF_ hS
      replace hS : St w0 w (cells b3 31 [.int .i64 l_0.W, .int .i64 l_0.H, .int .i64 l_0.Layers, .int .i64 l_0.Nets, .slice q4 l_0.Wires.length c_l_0_4, .slice q5 l_0.Vias.length c_l_0_5, .slice q3 l_0.Pins.length c_l_0_6, .slice q6 l_0.Walls.length c_l_0_7] :: l') := emk hS
      refine pa (v := .agg #[.int .i64 l_0.W, .int .i64 l_0.H, .int .i64 l_0.Layers, .int .i64 l_0.Nets, .slice q4 l_0.Wires.length c_l_0_4, .slice q5 l_0.Vias.length c_l_0_5, .slice q3 l_0.Pins.length c_l_0_6, .slice q6 l_0.Walls.length c_l_0_7]) (ld_sub agg_31 ((hE21 3 rfl).trans q2g) rfl rfl hS) <| x_done <| ?_
      refine x_fin ⟨⟨_, rfl⟩, rfl, ?_⟩
      exact emk hS
     ·intro Ep21 w l' hE21 hO21 hF_ hS
      refine p (yl_move ((hE21 1 rfl).trans q2f)) <| x_done <| ?_
      refine x_fin ⟨⟨_, rfl⟩, rfl, ?_⟩
      exact emk hS
     ·intro Ep21 w l' hE21 hO21 hF_ hS
      obtain ⟨q1w, q1x, -⟩ := hF_
      replace q1w : Ep21 77 = .agg #[.int .i64 l_0.W, .int .i64 l_0.H, .int .i64 l_0.Layers, .int .i64 l_0.Nets, .slice q4 l_0.Wires.length c_l_0_4, .slice q5 l_0.Vias.length c_l_0_5, .slice q3 l_0.Pins.length c_l_0_6, .slice q6 l_0.Walls.length c_l_0_7] := emk q1w
      replace q1x : Ep21 78 = .int .i64 net1 := emk q1x
      replace hS : St w0 w (ro ρ :: l') := emk hS
      have hcall := c_extract_strangers q3n q10 q11 q0h q12 hS
      refine o_cc call_38 (args2 q1w q1x) hcall ?_
      rintro e w' ⟨q39, rfl, hS⟩
      refine ⟨_, rfl, ?_⟩
      refine x_done <| ?_
      refine x_fin ⟨⟨_, rfl⟩, rfl, ?_⟩
      exact emk (hS.pull 1)
     ·intro Ep21 w l' hE21 hO21 hF_ hS
      refine p (yl_move ((hE21 2 rfl).trans q3l)) <| x_done <| ?_
      refine x_fin ⟨⟨_, rfl⟩, rfl, ?_⟩
      exact emk hS
    intro Ep21 w' hE21 hF_ hS
    obtain ⟨q2n, q1u, q1v, q2o, q1w, q1x, q2p, q2q, -⟩ := hF_
    replace q2n : Ep21 73 = .pointer (some ⟨b37, 0, none⟩) := emk q2n
    replace q1u : Ep21 74 = .agg #[.int .i64 l_0.W, .int .i64 l_0.H, .int .i64 l_0.Layers, .int .i64 l_0.Nets, .slice q4 l_0.Wires.length c_l_0_4, .slice q5 l_0.Vias.length c_l_0_5, .slice q3 l_0.Pins.length c_l_0_6, .slice q6 l_0.Walls.length c_l_0_7] := emk q1u
    replace q1v : Ep21 75 = .int .i64 net1 := emk q1v
    replace q2o : Ep21 76 = .agg #[.map (some (mblkOf (partOf 0 (Ep21 76)))), .map (some (mblkOf (partOf 1 (Ep21 76))))] := emk q2o
    replace q1w : Ep21 77 = .agg #[.int .i64 l_0.W, .int .i64 l_0.H, .int .i64 l_0.Layers, .int .i64 l_0.Nets, .slice q4 l_0.Wires.length c_l_0_4, .slice q5 l_0.Vias.length c_l_0_5, .slice q3 l_0.Pins.length c_l_0_6, .slice q6 l_0.Walls.length c_l_0_7] := emk q1w
    replace q1x : Ep21 78 = .int .i64 net1 := emk q1x
    replace q2p : Ep21 79 = .map (some (mblkOf (Ep21 79))) := emk q2p
    replace q2q : Ep21 80 = .int .i64 near2 := emk q2q
    replace hS : St w0 w' (cells b3 31 [.int .i64 l_0.W, .int .i64 l_0.H, .int .i64 l_0.Layers, .int .i64 l_0.Nets, .slice q4 l_0.Wires.length c_l_0_4, .slice q5 l_0.Vias.length c_l_0_5, .slice q3 l_0.Pins.length c_l_0_6, .slice q6 l_0.Walls.length c_l_0_7] :: ro ρ :: mapA (mblkOf (partOf 0 (Ep21 76))) kf_61 Value.bool q2a.1 :: mapA (mblkOf (partOf 1 (Ep21 76))) kf_94 Value.bool q2a.2 :: mapA (mblkOf (Ep21 79)) kf_61 Value.bool q2w :: (cells b37 82 [.int .i64 l_0.W, .int .i64 l_0.H, .int .i64 l_0.Layers, .int .i64 l_0.Nets, .slice q4 l_0.Wires.length c_l_0_4, .slice q5 l_0.Vias.length c_l_0_5, .slice q3 l_0.Pins.length c_l_0_6, .slice q6 l_0.Walls.length c_l_0_7, .map (some b33), .map (some b34), .map (some b35)] :: cells b10 61 [.int .i64 0, .int .i64 q0v, .int .i64 q0w] :: mapS 94 R_extract_step b33 kf_61 [] :: mapA b34 kf_61 (Value.int .i64) q17 :: mapA b35 kf_61 (Value.int .i64) [] :: l)) := emk hS
    have hcall := c_extract_tree_fill (nbd_c hF) q10 q11 q0h q12 ((((((((hS.pull 1).pull 4).pull 4).pull 4).pull 9).pull 9).pull 9).pull 8)
    refine o_cc call_36 (args4 q2n q2o q2p q2q) hcall ?_
    rintro e w' ⟨q2b, hF, rfl, hS⟩
    refine ⟨_, rfl, ?_⟩
    refine x_done <| x_seq <| x_seq <| x_region <|
     p (yl_move ((hE21 9 rfl).trans q2h)) <| pa (v := .agg #[.int .i64 0, .int .i64 q0v, .int .i64 q0w]) (ld_sub agg_61 ((hE21 10 rfl).trans q36) rfl rfl (hS.pull 9)) <| ?_
    have q_ := St.mapS_fz ((hS.pull 7).pull 2); obtain ⟨q0k, q2t, q0e, q3o, hS⟩ := q_
    replace hF := nbd_s hF; obtain ⟨q2c, q3p, hF⟩ := hF
    have hcall := c_extract_tree_grow q3p (q10.le q0e) (q11.le q0e) (q0h.le q0e) (q12.le q0e) q3o (((((hS.pull 1).pull 4).pull 4).pull 3).pull 4)
    refine o_cc call_39 (args2 rfl rfl) hcall ?_
    rintro e w' ⟨rfl, hS⟩
    refine ⟨_, rfl, ?_⟩
    refine p (yl_not rfl) <| x_done <|
     x_cond (t := !q2c.1) rfl (fun hc85 => ?_) (fun hc85 => ?_)
    ·replace hF := nit_t hc85 hF
     refine x_seq <| x_region <| p (yl_assign rfl) <| p (yl_assign rfl) <|
      x_done <| ?_
     replace hS := St.vec_nil hS 3 (RpI .i64).sz
     have q8 : RepL (RpI .i64) q0k [] [] := rfl
     exact x_return ⟨_, ⟨_, _, rfl, rfl, _, _, rfl, rfl, rfl⟩, ([], (17 : Int)), hF, none, 0, 0, [], rfl, (RepL.flat (fun h => h) q8), (ro_back1 q0e (((((((((((hS.pull 1).drop.pull 1).drop.pull 1).drop.pull 1).drop.pull 2).drop.pull 2).drop.pull 2).drop.pull 2).drop.pull 2).drop.pull 1).pull 1))⟩
    ·replace hF := nit_bf hc85 hF
     refine x_skip <| x_seq <| x_region <| p (yl_assign rfl) <|
      x_done <| x_seq <| x_seq <| x_region <|
      p (yl_field0 fld_31_6 ((hE21 3 rfl).trans q2g)) <| pa (at_load one_28 rfl ((hS.pull 8).cell rfl)) <| p (yl_len_slice usl_28 rfl) <| p (yl_move rfl) <|
      x_done <| ?_
     replace hF := nbs_j hF; obtain ⟨oL26, hLL26, hF⟩ := hF
     refine x_join (fun E w => ∃ (q0s : Option Addr) (q0t : Nat) (c_out15_L26 : Nat) (q0o : List Value) (q0x : List Int), oL26 (Sum.inl q0x) ∧ E 15 = .slice q0s q0t c_out15_L26 ∧ RepL (RpI .i64) q0k q0x q0o ∧ St w0 w (vec 3 (RpI .i64).sz (.slice q0s q0t c_out15_L26) q0t q0o :: ro q0k :: l)) ?_ ?_
     ·refine x_block ?_
      replace hS := St.vec_nil hS 3 (RpI .i64).sz
      have q1y : RepL (RpI .i64) q0k [] [] := rfl
      refine x_loop (fun k_ E w => ∃ (q0j : Option Addr) (q0p : Nat) (c_out15_L26h : Nat) (q0g : List Value) (q0f : List Int) (q15 : Int), nlp (P_extract_Elmore_L26 l_0 net1 q2c) k_ (q0f, q15) oL26 ∧ E 1 = .int .i64 net1 ∧ E 9 = .pointer (some ⟨b37, 0, none⟩) ∧ E 15 = .slice q0j q0p c_out15_L26h ∧ E 87 = .slice q3 l_0.Pins.length c_l_0_6 ∧ E 88 = .int .i64 (l_0.Pins.length : Int) ∧ E 89 = .int .i64 q15 ∧ RepL (RpI .i64) q0k q0f q0g ∧ St w0 w (cells b37 82 [.int .i64 l_0.W, .int .i64 l_0.H, .int .i64 l_0.Layers, .int .i64 l_0.Nets, .slice q4 l_0.Wires.length c_l_0_4, .slice q5 l_0.Vias.length c_l_0_5, .slice q3 l_0.Pins.length c_l_0_6, .slice q6 l_0.Walls.length c_l_0_7, .map (some b33), .map (some b34), .map (some b35)] :: vec 3 (RpI .i64).sz (.slice q0j q0p c_out15_L26h) q0p q0g :: mapA b33 kf_61 Hd.v (zipK q2b.1 q2t) :: mapA b34 kf_61 (Value.int .i64) q2b.2 :: mapA b35 kf_61 (Value.int .i64) q2c.2 :: ro q0k :: l)) fuel ⟨none, 0, 0, [], [], 0, hLL26, ((hE21 1 rfl).trans q2f), ((hE21 9 rfl).trans q2h), rfl, rfl, rfl, rfl, q1y, (((((((((((hS.pull 6).drop.pull 6).drop.pull 6).drop.pull 6).drop.pull 6).drop.pull 5).pull 5).pull 5).pull 5).pull 4).pull 5)⟩ ?_
      rintro kL26 E w ⟨q0j, q0p, c_out15_L26h, q0g, q0f, q15, hLL26, q27, q28, q21, q22, q23, q1j, q0q, hS⟩
      have e_ := St.vec_n (hS.pull 1) q0q; subst e_
      replace hLL26 := nlp_s hLL26; obtain ⟨kL26, obL26, rfl, hFL26, hLL26⟩ := hLL26
      refine x_seq <| x_region <| p (yl_lss q1j q23) <| x_done <|
       x_seq <|
       x_cond_p (q15 < (l_0.Pins.length : Int)) rfl (fun hc90 => ?_) (fun hc90 => ?_)
      ·replace hFL26 := nit_t hc90 hFL26
       refine x_skip <| x_seq <| ?_
       replace hFL26 := nbs_j hFL26; obtain ⟨ob3, hFb3, hFL26⟩ := hFL26
       refine x_join (fun E w => ∃ (q0y : Option Addr) (q0z : Nat) (c_out15_b3 : Nat) (q0u : List Value) (q16 : List Int), ob3 (Sum.inl q16) ∧ E 1 = .int .i64 net1 ∧ E 9 = .pointer (some ⟨b37, 0, none⟩) ∧ E 15 = .slice q0y q0z c_out15_b3 ∧ E 87 = .slice q3 l_0.Pins.length c_l_0_6 ∧ E 88 = .int .i64 (l_0.Pins.length : Int) ∧ E 89 = .int .i64 q15 ∧ RepL (RpI .i64) q0k q16 q0u ∧ St w0 w (cells b37 82 [.int .i64 l_0.W, .int .i64 l_0.H, .int .i64 l_0.Layers, .int .i64 l_0.Nets, .slice q4 l_0.Wires.length c_l_0_4, .slice q5 l_0.Vias.length c_l_0_5, .slice q3 l_0.Pins.length c_l_0_6, .slice q6 l_0.Walls.length c_l_0_7, .map (some b33), .map (some b34), .map (some b35)] :: vec 3 (RpI .i64).sz (.slice q0y q0z c_out15_b3) q0z q0u :: mapA b33 kf_61 Hd.v (zipK q2b.1 q2t) :: mapA b34 kf_61 (Value.int .i64) q2b.2 :: mapA b35 kf_61 (Value.int .i64) q2c.2 :: ro q0k :: l)) ?_ ?_
       ·replace hFb3 := nck_s hFb3; obtain ⟨q2u, hFb3⟩ := hFb3
        replace hFb3 := nlv_s hFb3; obtain ⟨q0b, q3q, hFb3⟩ := hFb3
        have q_ := q0h.get q2u; obtain ⟨q46, q2v, q3r⟩ := q_
        rw [← q3q] at q2v
        have e_ := q2v; subst e_
        refine x_block <| x_seq <| x_region <| p (yix_f sl_28 q22 q1j (q0h.le q0e) q2u) <|
         pa (v := .agg #[.int .i64 q0b.Net, .int .i64 q0b.X, .int .i64 q0b.Y, .bool q0b.Drive, .int .i64 q0b.Size]) (at_loadAgg agg_39 rfl rfl (Elt.every (Elt.le q3r q0e) (hS.pull 5))) <| ?_
        refine o_alloc zero_39 hS (fun b17 w' hS => ?_)
        refine o_storeAgg (news := [.int .i64 q0b.Net, .int .i64 q0b.X, .int .i64 q0b.Y, .bool q0b.Drive, .int .i64 q0b.Size]) agg_39 rfl rfl rfl (by simp [over_length]) hS (fun w' hS => ?_)
        refine x_done <| x_seq <| x_seq <| x_region <|
         p (yl_field0 fld_39_0 rfl) <| pa (at_load one_3 rfl (hS.cell rfl)) <| p (yl_move q27) <| p (yl_neq rfl rfl) <|
         x_done <|
         x_cond_p (q0b.Net ≠ net1) rfl (fun hc96 => ?_) (fun hc96 => ?_)
        ·replace hFb3 := nit_t hc96 hFb3
         refine x_exitTo _ rfl <| ?_
         exact x_inv ⟨q0j, q0f.length, c_out15_L26h, q0g, q0f, hFb3, q27, q28, q21, q22, q23, q1j, q0q, ((((((hS.drop.pull 5).pull 5).pull 5).pull 5).pull 5).pull 5)⟩
        ·replace hFb3 := nit_f hc96 hFb3
         replace hFb3 := nlv_s hFb3; obtain ⟨x107, hx107, hFb3⟩ := hFb3
         replace hFb3 := nlv_s hFb3; obtain ⟨q107, hq107, hFb3⟩ := hFb3
         refine x_skip <| x_seq <| x_still mixed (by kernel_rfl) hS <| q (yl_move q28) <|
          q (yl_nilCheck rfl) <| q (yl_field0 fld_82_3 rfl) <| qa (fun w' hS => at_load one_80 rfl ((hS.pull 1).cell rfl)) <| q (yl_field0 fld_39_1 rfl) <|
          qa (fun w' hS => at_load one_3 rfl (hS.cell rfl)) <| q (yl_field0 fld_39_2 rfl) <| qa (fun w' hS => at_load one_3 rfl (hS.cell rfl)) <| q (v := .agg #[.int .i64 0, .int .i64 q0b.X, .int .i64 q0b.Y]) (yl_build bld_61 bldf_61 (parts_eq (pt (va := .int .i64 q0b.X) rfl (pt (va := .int .i64 q0b.Y) rfl pt0))) (by kernel_rfl)) <|
          qa (fun w' hS => at_look2 (k := (T_rules_Spot.mk 0 q0b.X q0b.Y)) um_80 kp_61 (zero1 zv_3) rfl rfl (hS.pull 5) hx107 hq107) <| q (yl_move rfl) <| q (yl_extract rfl rfl) <| q (yl_extract rfl rfl) <|
          q (yl_assign rfl) <| q (yl_assign rfl) <|
          q_done fun w' hS => ?_
         refine x_seq <| x_seq <| x_region <| p (yl_move rfl) <|
          p (yl_not rfl) <| x_done <|
          x_cond (t := !q107) rfl (fun hc111 => ?_) (fun hc111 => ?_)
         ·replace hFb3 := nit_t hc111 hFb3
          refine x_seq <| x_region <| p (yl_assign rfl) <| p (yl_assign rfl) <|
           x_done <| ?_
          replace hS := St.vec_nil hS 3 (RpI .i64).sz
          have q8 : RepL (RpI .i64) q0k [] [] := rfl
          exact x_return ⟨_, ⟨_, _, rfl, rfl, _, _, rfl, rfl, rfl⟩, ([], (18 : Int)), (hF _ (hLL26 _ (hFL26 _ hFb3))), none, 0, 0, [], rfl, (RepL.flat (fun h => h) q8), (ro_back1 q0e ((((((((hS.pull 1).drop.pull 1).drop.pull 1).drop.pull 1).drop.pull 1).drop.pull 1).drop.pull 1).pull 1))⟩
         ·replace hFb3 := nit_bf hc111 hFb3
          refine x_skip <| x_region <| p (yl_move q21) <| p (yl_move rfl) <| ?_
          refine o_buildSlice (vs := [.int .i64 x107]) (cs := [.int .i64 x107]) sl_22 zero_3 (parts_eq (pt (va := .int .i64 x107) rfl pt0)) rfl (by intro v hv; simp only [List.mem_cons, List.not_mem_nil, or_false] at hv; first | (subst hv; rfl) | (rcases hv with rfl <;> rfl)) (by decide) rfl hS (fun b114 w' hS => ?_)
          replace hFb3 := nlv_s hFb3; obtain ⟨q2z, q3s, hFb3⟩ := hFb3
          replace hFb3 := nck_s hFb3; obtain ⟨q3t, hFb3⟩ := hFb3
          refine o_ap sl_22 zero_3 rfl (by decide) rfl rfl (hS.pull 3) q0q (src_blk usl_22 hS rfl rfl) (RepL.cons (R := (RpI .i64)) (ρ := q0k) (x := x107) (cs := [.int .i64 x107]) rfl RepL.nil) q3s q3t (fun A115 c115 cs115 w' hr115 hS => ?_)
          refine p (yl_assign rfl) <| x_done <| x_blk <| ?_
          exact x_inv ⟨A115, q2z.length, c115, cs115, q2z, hFb3, q27, q28, rfl, q22, q23, q1j, hr115, ((((((((hS.pull 1).drop.pull 1).drop.pull 5).pull 5).pull 5).pull 5).pull 4).pull 5)⟩
       rintro E w ⟨q0y, q0z, c_out15_b3, q0u, q16, hq_, q43, q44, q3u, q3v, q3w, q3x, q25, hS⟩
       replace hFL26 := hFL26 _ hq_
       clear hq_
       have e_ := St.vec_n (hS.pull 1) q25; subst e_
       replace hFL26 := nar_s hFL26; obtain ⟨x116, hx116, hFL26⟩ := hFL26
       refine x_region <| p (yadd q3x rfl hx116) <| p (yl_move rfl) <| x_done <| ?_
       exact x_inv ⟨kL26, Nat.lt_succ_self _, q0y, q16.length, c_out15_b3, q0u, q16, x116, (hLL26 _ hFL26), q43, q44, q3u, q3v, q3w, rfl, q25, ((((((hS.pull 5).pull 5).pull 5).pull 5).pull 5).pull 5)⟩
      ·replace hFL26 := nit_f hc90 hFL26
       refine x_exitTo _ rfl <| ?_
       exact x_inv ⟨q0j, q0f.length, c_out15_L26h, q0g, q0f, (hLL26 _ hFL26), q21, q0q, (((((hS.drop.pull 1).drop.pull 1).drop.pull 1).drop.pull 1).pull 1)⟩
     rintro E w ⟨q0s, q0t, c_out15_L26, q0o, q0x, hq_, q38, q1z, hS⟩
     replace hF := hF _ hq_
     clear hq_
     have e_ := St.vec_n hS q1z; subst e_
     refine x_seq <| x_region <| p (yl_move q38) <| p (yl_assign rfl) <|
      p (yl_assign rfl) <| x_done <| ?_
     exact x_return ⟨_, ⟨_, _, rfl, rfl, _, _, rfl, rfl, rfl⟩, (q0x, (0 : Int)), hF, q0s, q0x.length, c_out15_L26, q0o, rfl, (RepL.flat (fun h => h) q1z), (ro_back1 q0e ((hS.pull 1).pull 1))⟩
attribute [irreducible] P_extract_Elmore

def P_slices_Equal_int_int_L4 (s10 : List Int) (s21 : List Int) : Int → Option (Int ⊕ (Unit ⊕ Bool)) := fun q2 =>
 if q2 < (s10.length : Int) then
  ck (inb q2 s10.length) <|
  lv (gt s10 q2) fun x19 =>
  ck (inb q2 s21.length) <|
  lv (gt s21 q2) fun x23 =>
  if x19 ≠ x23 then
   some (Sum.inr (Sum.inr false))
  else
   ar (q2 + 1) fun x25 =>
   some (Sum.inl x25)
 else
  some (Sum.inr (Sum.inl ()))
def P_slices_Equal_int_int (s10 : List Int) (s21 : List Int) : Option Bool :=
 if (s10.length : Int) ≠ (s21.length : Int) then
  some false
 else
  bs (
   lp (P_slices_Equal_int_int_L4 s10 s21) fuel 0) (fun y => some y) fun _ =>
  some true
theorem c_slices_Equal_int_int {w0 w : World} {l : List Assn} {ρ : Heap} {q5 : Option Addr} {q0b : Nat} {c_s10 : Nat} {q6 : Option Addr} {q0c : Nat} {c_s21 : Nat} {s10 : List Int} {s21 : List Int} {r : Bool} (hF : P_slices_Equal_int_int s10 s21 = some r) (q7 : RdS (RpI .i64) ρ q5 q0b c_s10 s10) (q8 : RdS (RpI .i64) ρ q6 q0c c_s21 s21) (hS : St w0 w (ro ρ :: l)) :
  Calls Try.prog 19 #[.slice q5 q0b c_s10, .slice q6 q0c c_s21] w fun e w' => e = .returned (.bool r) ∧ St w0 w' (ro ρ :: l) := by
 have e_ := q7.n; subst e_
 have e_ := q8.n; subst e_
 refine enterC Try.func19 rfl 26 rfl (by simp) ?_
 refine x_seq <| x_region <| p (yl_assign rfl) <| x_done <|
  x_seq <| x_seq <| x_region <| p (yl_move rfl) <|
  p (yl_len_slice usl_22 rfl) <| p (yl_move rfl) <| p (yl_len_slice usl_22 rfl) <| p (yl_neq rfl rfl) <|
  x_done <|
  x_cond_p ((s10.length : Int) ≠ (s21.length : Int)) rfl (fun hc10 => ?_) (fun hc10 => ?_)
 ·replace hF := it_t hc10 hF
  refine x_seq <| x_region <| p (yl_assign rfl) <| x_done <| ?_
  have e_ := sinj hF; subst e_
  exact x_return ⟨_, ⟨_, _, rfl, rfl, rfl⟩, rfl, hS⟩
 ·replace hF := it_f hc10 hF
  refine x_skip <| x_seq <| x_seq <| x_region <|
   p (yl_move rfl) <| p (yl_len_slice usl_22 rfl) <| p (yl_move rfl) <| x_done <| ?_
  replace hF := bs_s hF; obtain ⟨oL4, hLL4, hF⟩ := hF
  refine x_join (fun E w => (Sum.inl (())) = oL4 ∧ St w0 w (ro ρ :: l)) ?_ ?_
  ·refine x_block ?_
   refine x_loop (fun k_ E w => ∃ (q2 : Int), lp (P_slices_Equal_int_int_L4 s10 s21) k_ q2 = some oL4 ∧ E 0 = .slice q5 s10.length c_s10 ∧ E 1 = .slice q6 s21.length c_s21 ∧ E 12 = .int .i64 (s10.length : Int) ∧ E 13 = .int .i64 q2 ∧ St w0 w (ro ρ :: l)) fuel ⟨0, hLL4, rfl, rfl, rfl, rfl, hS⟩ ?_
   rintro kL4 E w ⟨q2, hLL4, q9, q0a, q4, q3, hS⟩
   replace hLL4 := lp_s hLL4; obtain ⟨kL4, obL4, rfl, hFL4, hLL4⟩ := hLL4
   refine x_seq <| x_region <| p (yl_lss q3 q4) <| x_done <|
    x_seq <|
    x_cond_p (q2 < (s10.length : Int)) rfl (fun hc14 => ?_) (fun hc14 => ?_)
   ·replace hFL4 := it_t hc14 hFL4
    replace hFL4 := ck_s hFL4; obtain ⟨q0d, hFL4⟩ := hFL4
    replace hFL4 := lv_s hFL4; obtain ⟨x19, hx19, hFL4⟩ := hFL4
    replace hFL4 := ck_s hFL4; obtain ⟨q0e, hFL4⟩ := hFL4
    replace hFL4 := lv_s hFL4; obtain ⟨x23, hx23, hFL4⟩ := hFL4
    refine x_skip <| x_seq <| x_block <| x_seq <|
     x_region <| p (yl_move q3) <| p (yl_assign rfl) <| x_done <|
     x_seq <| x_still mixed (by kernel_rfl) hS <| q (yl_move q9) <| q (yl_move rfl) <|
     q (yix_f sl_22 rfl rfl q7 q0d) <| qa (fun w' hS => at_load one_3 rfl (RdS.getW q7 hS q0d hx19)) <| q (yl_move q0a) <| q (yl_move rfl) <|
     q (yix_f sl_22 rfl rfl q8 q0e) <| qa (fun w' hS => at_load one_3 rfl (RdS.getW q8 hS q0e hx23)) <| q (yl_neq rfl rfl) <|
     q_done fun w' hS => ?_
    refine x_cond_p (x19 ≠ x23) rfl (fun hc24 => ?_) (fun hc24 => ?_)
    ·replace hFL4 := it_t hc24 hFL4
     refine x_seq <| x_region <| p (yl_assign rfl) <| x_done <| ?_
     have e_ := sinj hFL4; subst e_
     have e_ := (show _ = oL4 from hLL4); subst e_
     have e_ := sinj hF; subst e_
     exact x_return ⟨_, ⟨_, _, rfl, rfl, rfl⟩, rfl, hS⟩
    ·replace hFL4 := it_f hc24 hFL4
     replace hFL4 := ar_s hFL4; obtain ⟨x25, hx25, hFL4⟩ := hFL4
     refine x_skip <| x_blk <| x_region <| p (yadd q3 rfl hx25) <|
      p (yl_move rfl) <| x_done <| ?_
     have e_ := sinj hFL4; subst e_
     exact x_inv ⟨kL4, Nat.lt_succ_self _, x25, hLL4, q9, q0a, q4, rfl, hS⟩
   ·replace hFL4 := it_f hc14 hFL4
    refine x_exitTo _ rfl <| ?_
    have e_ := sinj hFL4; subst e_
    exact x_inv ⟨hLL4, hS⟩
  rintro E w ⟨rfl, hS⟩
  refine x_seq <| x_region <| p (yl_assign rfl) <| x_done <| ?_
  have e_ := sinj hF; subst e_
  exact x_return ⟨_, ⟨_, _, rfl, rfl, rfl⟩, rfl, hS⟩
attribute [irreducible] P_slices_Equal_int_int

def P_maskkeep4_extracts : Nd Bool :=
 nbd (P_extract_Elmore (T_rules_Layout.mk 5 3 1 1 ([(T_rules_Wire.mk 0 0 0 0 2 0)] : List T_rules_Wire) [] ([(T_rules_Pin.mk 0 0 0 true 0), (T_rules_Pin.mk 0 2 0 false 2)] : List T_rules_Pin) []) 0 0) fun q3 =>
 nbd (
  if (decide (q3.2 = 0)) = true then
   nbd (nof (P_slices_Equal_int_int q3.1 ([0, 52] : List Int))) fun q4 =>
   nret q4
  else
   nret false) fun q2 =>
 nret q2
theorem c_maskkeep4_extracts {w0 w : World} {l : List Assn} {ρ : Heap} {Q : Bool → Prop} (hF : P_maskkeep4_extracts Q) (hS : St w0 w (ro ρ :: l)) :
  Calls Try.prog 12 #[] w fun e w' => ∃ r : Bool, Q r ∧ e = .returned (.bool r) ∧ St w0 w' (ro ρ :: l) := by
 refine enterC Try.func12 rfl 22 rfl (by simp) ?_
 refine x_seq <| x_region <| p (yl_assign rfl) <| x_done <|
  x_seq <| x_region <| p (v := .agg #[.int .i64 0, .int .i64 0, .int .i64 0, .bool true, .int .i64 0]) (yl_build bld_39 bldf_39 (parts_eq (pt (va := .bool true) rfl pt0)) (by kernel_rfl)) <| p (v := .agg #[.int .i64 0, .int .i64 2, .int .i64 0, .bool false, .int .i64 2]) (yl_build bld_39 bldf_39 (parts_eq (pt (va := .int .i64 2) rfl (pt (va := .int .i64 2) rfl pt0))) (by kernel_rfl)) <| ?_
 refine o_buildSlice (vs := [.agg #[.int .i64 0, .int .i64 0, .int .i64 0, .bool true, .int .i64 0], .agg #[.int .i64 0, .int .i64 2, .int .i64 0, .bool false, .int .i64 2]]) (cs := [.int .i64 0, .int .i64 0, .int .i64 0, .bool true, .int .i64 0, .int .i64 0, .int .i64 2, .int .i64 0, .bool false, .int .i64 2]) sl_28 zero_39 (parts_eq (pt (va := .agg #[.int .i64 0, .int .i64 0, .int .i64 0, .bool true, .int .i64 0]) rfl (pt (va := .agg #[.int .i64 0, .int .i64 2, .int .i64 0, .bool false, .int .i64 2]) rfl pt0))) rfl (by intro v hv; simp only [List.mem_cons, List.not_mem_nil, or_false] at hv; first | (subst hv; rfl) | (rcases hv with rfl | rfl <;> rfl)) (by decide) rfl hS (fun b6 w' hS => ?_)
 refine p (v := .agg #[.int .i64 0, .int .i64 0, .int .i64 0, .int .i64 0, .int .i64 2, .int .i64 0]) (yl_build bld_44 bldf_44 (parts_eq (pt (va := .int .i64 2) rfl pt0)) (by kernel_rfl)) <| ?_
 refine o_buildSlice (vs := [.agg #[.int .i64 0, .int .i64 0, .int .i64 0, .int .i64 0, .int .i64 2, .int .i64 0]]) (cs := [.int .i64 0, .int .i64 0, .int .i64 0, .int .i64 0, .int .i64 2, .int .i64 0]) sl_26 zero_44 (parts_eq (pt (va := .agg #[.int .i64 0, .int .i64 0, .int .i64 0, .int .i64 0, .int .i64 2, .int .i64 0]) rfl pt0)) rfl (by intro v hv; simp only [List.mem_cons, List.not_mem_nil, or_false] at hv; first | (subst hv; rfl) | (rcases hv with rfl <;> rfl)) (by decide) rfl hS (fun b8 w' hS => ?_)
 refine p (v := .agg #[.int .i64 5, .int .i64 3, .int .i64 1, .int .i64 1, .slice (some ⟨b8, 0, none⟩) 1 1, .slice none 0 0, .slice (some ⟨b6, 0, none⟩) 2 2, .slice none 0 0]) (yl_build bld_31 bldf_31 (parts_eq (pt (va := .int .i64 5) rfl (pt (va := .int .i64 3) rfl (pt (va := .int .i64 1) rfl (pt (va := .int .i64 1) rfl (pt (va := .slice (some ⟨b6, 0, none⟩) 2 2) rfl (pt (va := .slice (some ⟨b8, 0, none⟩) 1 1) rfl pt0))))))) (by kernel_rfl)) <| ?_
 refine o_alloc zero_31 hS (fun b1 w' hS => ?_)
 refine o_storeAgg (news := [.int .i64 5, .int .i64 3, .int .i64 1, .int .i64 1, .slice (some ⟨b8, 0, none⟩) 1 1, .slice none 0 0, .slice (some ⟨b6, 0, none⟩) 2 2, .slice none 0 0]) agg_31 rfl rfl rfl (by simp [over_length]) hS (fun w' hS => ?_)
 refine x_done <| x_seq <| x_region <| pa (v := .agg #[.int .i64 5, .int .i64 3, .int .i64 1, .int .i64 1, .slice (some ⟨b8, 0, none⟩) 1 1, .slice none 0 0, .slice (some ⟨b6, 0, none⟩) 2 2, .slice none 0 0]) (ld_sub agg_31 rfl rfl rfl hS) <| ?_
 have q0d : RepL R_rules_Wire ρ ([(T_rules_Wire.mk 0 0 0 0 2 0)] : List T_rules_Wire) [.int .i64 0, .int .i64 0, .int .i64 0, .int .i64 0, .int .i64 2, .int .i64 0] := (RepL.cons (cs := [.int .i64 0, .int .i64 0, .int .i64 0, .int .i64 0, .int .i64 2, .int .i64 0]) rfl RepL.nil)
 replace hS := St.vec_of (n := 1) (sz := R_rules_Wire.sz) (hS.pull 1) rfl (by decide)
 have q0b : RepL R_rules_Pin ρ ([(T_rules_Pin.mk 0 0 0 true 0), (T_rules_Pin.mk 0 2 0 false 2)] : List T_rules_Pin) [.int .i64 0, .int .i64 0, .int .i64 0, .bool true, .int .i64 0, .int .i64 0, .int .i64 2, .int .i64 0, .bool false, .int .i64 2] := (RepL.cons (cs := [.int .i64 0, .int .i64 0, .int .i64 0, .bool true, .int .i64 0]) rfl (RepL.cons (cs := [.int .i64 0, .int .i64 2, .int .i64 0, .bool false, .int .i64 2]) rfl RepL.nil))
 replace hS := St.vec_of (n := 2) (sz := R_rules_Pin.sz) (hS.pull 2) rfl (by decide)
 have q_ := St.lend ((hS.pull 3).pull 2) q0d; obtain ⟨ρl0, hll0, hlf0, hS0, back0⟩ := q_
 have q_ := St.lend (hS0.pull 1) (q0b.le hll0); obtain ⟨ρl1, hll1, hlf1, hS1, back1⟩ := q_
 have hcall := c_extract_Elmore (nbd_c hF) (hlf0.le hll1) (RdS.nil (A := none) (c := 0)) hlf1 (RdS.nil (A := none) (c := 0)) hS1
 refine o_cc call_10 (args3 rfl rfl rfl) hcall ?_
 rintro e w' ⟨q5, hF, q6, q0c, c_y0_ret_2_1, q8, rfl, q3, hS⟩
 refine ⟨_, rfl, ?_⟩
 replace hS := back1 (hS.pull 1)
 replace hS := back0 (hS.pull 1)
 replace q3 : RepL (RpI .i64) ρ q5.1 q8 := RepL.flat (fun h => h) q3
 have e_ := St.vec_n (hS.pull 3) q3; subst e_
 refine p (yl_move rfl) <| p (yl_extract rfl rfl) <| p (yl_extract rfl rfl) <| p (yl_assign rfl) <|
  p (yl_assign rfl) <| x_done <| x_seq <| x_region <|
  p (yl_move rfl) <| p (yl_eql rfl rfl) <| p (yl_move rfl) <| pg (v := .slice q6 q5.1.length c_y0_ret_2_1) 17 (c := decide (q5.2 = 0)) (says_t _) (fun hq => Yl.at (yl_move rfl)) <| ?_
 replace hF := nbd_j hF; obtain ⟨q0e, q2, hF⟩ := hF
 refine x_join_ops (fun E w => ∃ (q7 : Bool), q0e q7 ∧ E 0 = .bool q7 ∧ St w0 w (ro ρ :: l)) ?_ ?_
 ·refine x_split (decide (q5.2 = 0)) (fun q4 => ?_) (fun q4 => ?_)
  ·replace q2 := nit_t q4 q2
   refine o_strip 17 true (says_lit (c := true) (Eq.trans (show _ = Value.bool (decide (q5.2 = 0)) from rfl) (congrArg Value.bool q4)) rfl) <| ?_
   refine o_buildSlice (vs := [.int .i64 0, .int .i64 52]) (cs := [.int .i64 0, .int .i64 52]) sl_22 zero_3 (parts_eq (pt (va := .int .i64 0) rfl (pt (va := .int .i64 52) rfl pt0))) rfl (by intro v hv; simp only [List.mem_cons, List.not_mem_nil, or_false] at hv; first | (subst hv; rfl) | (rcases hv with rfl | rfl <;> rfl)) (by decide) rfl hS (fun b19 w' hS => ?_)
   refine o_strip 17 true (says_lit (c := true) (Eq.trans (show _ = Value.bool (decide (q5.2 = 0)) from rfl) (congrArg Value.bool q4)) rfl) <| ?_
   have q0f : RepL (RpI .i64) ρ ([0, 52] : List Int) [.int .i64 0, .int .i64 52] := (RepL.cons (cs := [.int .i64 0]) rfl (RepL.cons (cs := [.int .i64 52]) rfl RepL.nil))
   replace hS := St.vec_of (n := 2) (sz := (RpI .i64).sz) hS rfl (by decide)
   replace q2 := nbd_s q2; obtain ⟨q9, q0g, q2⟩ := q2
   have q_ := St.lend ((hS.pull 2).pull 4) q3; obtain ⟨ρl0, hll0, hlf0, hS0, back0⟩ := q_
   have q_ := St.lend (hS0.pull 1) (q0f.le hll0); obtain ⟨ρl1, hll1, hlf1, hS1, back1⟩ := q_
   have hcall := c_slices_Equal_int_int q0g (hlf0.le hll1) hlf1 hS1
   refine o_cc call_19 (args2 (Eq.trans (show _ = (bif decide (q5.2 = 0) then .slice q6 q5.1.length c_y0_ret_2_1 else undef) from rfl) (cv q4)) rfl) ((Calls.mono hcall (fun e w'' h => And.intro h.1 (((((((back0 ((back1 h.2).pull 1)).pull 5).pull 1).pull 5).pull 3).pull 5).pull 5)))) ?_
   rintro e w' ⟨rfl, hS⟩
   refine ⟨_, rfl, ?_⟩
   refine p (v := .bool q9) (yl_pick (b := true) (Eq.trans (show _ = Value.bool (decide (q5.2 = 0)) from rfl) (congrArg Value.bool q4)) (fun h => rfl) (fun h => nomatch h)) <| p (v := .bool q9) (yl_assign rfl) <| x_done <| ?_
   exact x_inv ⟨q9, q2, rfl, ((((hS.drop.drop.pull 1).drop.pull 1).drop.pull 1).drop)⟩
  ·replace q2 := nit_bf q4 q2
   refine o_pass 19 17 true (says_lit (c := false) (Eq.trans (show _ = Value.bool (decide (q5.2 = 0)) from rfl) (congrArg Value.bool q4)) rfl) <| o_pass 20 17 true (says_lit (c := false) (Eq.trans (show _ = Value.bool (decide (q5.2 = 0)) from rfl) (congrArg Value.bool q4)) rfl) <| p (yl_pick (b := false) (Eq.trans (show _ = Value.bool (decide (q5.2 = 0)) from rfl) (congrArg Value.bool q4)) (fun h => nomatch h) (fun h => rfl)) <| p (yl_assign rfl) <|
    x_done <| ?_
   exact x_inv ⟨false, q2, rfl, ((((hS.drop.pull 1).drop.pull 1).drop.pull 1).drop)⟩
 rintro E w ⟨q7, hq_, q0a, hS⟩
 replace hF := hF _ hq_
 clear hq_
 exact x_return ⟨_, ⟨_, _, rfl, q0a, rfl⟩, q7, hF, rfl, hS⟩
attribute [irreducible] P_maskkeep4_extracts

def P_maskkeep4_ExtractOrder_L18 (q3 : (T_rules_Layout × Int)) (q8 : List T_rules_Via) (q6 : List T_rules_Wire) : Int → Nd (Int ⊕ (Unit ⊕ Bool)) := fun q2 =>
 if q2 < q3.1.Nets then
  nbd (P_extract_Sum q3.1 q2) fun q4 =>
  nbd (P_extract_Sum (T_rules_Layout.mk q3.1.W q3.1.H q3.1.Layers q3.1.Nets q6 q8 q3.1.Pins q3.1.Walls) q2) fun q5 =>
  nbd (P_maskkeep4_extracts) fun q7 =>
  nlv ((!q7) || (decide (q4.2 ≠ 0))) fun x108 =>
  nlv (x108 || (decide (q5.2 ≠ 0))) fun x112 =>
  nlv (!((q4.1.Cap == q5.1.Cap) && ((q4.1.Near == q5.1.Near) && ((q4.1.Res == q5.1.Res) && true)))) fun x116 =>
  nlv (x112 || x116) fun x117 =>
  if x117 = true then
   nret (Sum.inr (Sum.inr false))
  else
   nar (q2 + 1) fun x118 =>
   nret (Sum.inl x118)
 else
  nret (Sum.inr (Sum.inl ()))
def P_maskkeep4_ExtractOrder (l_0 : List Int) : Nd Bool :=
 nbd (nof (P_maskmake_Stream_Tied (T_maskmake_Stream.mk l_0 0))) fun q3 =>
 nbd (nof (P_slices_Clone_rules_Wire_rules_Wire q3.1.Wires)) fun q0h =>
 nbd (nof (P_slices_Clone_rules_Via_rules_Via q3.1.Vias)) fun q0l =>
 nbd (nof (P_slices_Reverse_rules_Wire_rules_Wire q0h)) fun q5 =>
 nbd (nof (P_slices_Reverse_rules_Via_rules_Via q0l)) fun q0i =>
 nbd (nof (P_maskmake_Stream_Next (T_maskmake_Stream.mk l_0 q3.2) (q0h.length : Int))) fun q4 =>
 nck (inb q4.1 q5.length) <|
 nlv (gt q5 q4.1) fun q2 =>
 nbd (
  if q2.X0 < q2.X1 then
   nbd (nof (P_maskmake_Stream_Range (T_maskmake_Stream.mk l_0 q4.2) q2.X0 q2.X1)) fun q6 =>
   nret (q6.2, q6.1, q2.Y1, q6.1, q2.Y0)
  else
   nbd (nof (P_maskmake_Stream_Range (T_maskmake_Stream.mk l_0 q4.2) q2.Y0 q2.Y1)) fun q7 =>
   nret (q7.2, q2.X1, q7.1, q2.X0, q7.1)) fun (q0b, q0c, q0d, q0e, q0f) =>
 nck (inb q4.1 q5.length) <|
 nlv (stt q5 q4.1 (T_rules_Wire.mk q2.Net q2.Layer q2.X0 q2.Y0 q0c q0d)) fun q0j =>
 nlv (q0j ++ [(T_rules_Wire.mk q2.Net q2.Layer q0e q0f q2.X1 q2.Y1)]) fun q8 =>
 nck (apOk 48 q8.length) <|
 nbs (
  nlp (P_maskkeep4_ExtractOrder_L18 q3 q0i q8) fuel 0) (fun y => nret y) fun _ =>
 nbd (nof (P_maskmake_Stream_Next (T_maskmake_Stream.mk l_0 q0b) 5)) fun q0g =>
 nbd (P_extract_Elmore q3.1 0 q0g.1) fun q9 =>
 nbd (P_extract_Elmore (T_rules_Layout.mk q3.1.W q3.1.H q3.1.Layers q3.1.Nets q8 q0i q3.1.Pins q3.1.Walls) 0 q0g.1) fun q0a =>
 nbd (nof (gd (decide (q9.2 = q0a.2)) (P_slices_Equal_int_int q9.1 q0a.1))) fun q0k =>
 nlv ((decide (q9.2 = q0a.2)) && q0k) fun x140 =>
 nret x140
theorem c_maskkeep4_ExtractOrder {w0 w : World} {l : List Assn} {ρ : Heap} {q0w : Option Addr} {q1t : Nat} {c_l_0 : Nat} {l_0 : List Int} {Q : Bool → Prop} (hF : P_maskkeep4_ExtractOrder l_0 Q) (q12 : RdS (RpI .i64) ρ q0w q1t c_l_0 l_0) (hS : St w0 w (ro ρ :: l)) :
  Calls Try.prog 4 #[.slice q0w q1t c_l_0] w fun e w' => ∃ r : Bool, Q r ∧ e = .returned (.bool r) ∧ St w0 w' (ro ρ :: l) := by
 have e_ := q12.n; subst e_
 refine enterC Try.func4 rfl 141 rfl (by simp) ?_
 refine x_seq <| x_region <| p (yl_assign rfl) <| x_done <|
  x_seq <| x_region <| p (yl_move rfl) <| p (v := .agg #[.slice q0w l_0.length c_l_0, .int .i64 0]) (yl_build bld_25 bldf_25 (parts_eq (pt (va := .slice q0w l_0.length c_l_0) rfl pt0)) (by kernel_rfl)) <| ?_
 refine o_box (cs := [.slice q0w l_0.length c_l_0, .int .i64 0]) rfl rfl hS (fun b21 w' hS => ?_)
 replace hF := nbd_s hF; obtain ⟨q2, q2k, hF⟩ := hF
 refine p (yl_assign rfl) <| x_done <| x_seq <| x_region <|
  p (yl_move rfl) <| ?_
 have hcall := c_maskmake_Stream_Tied q2k q12 ((hS.pull 1).pull 1)
 refine o_cc call_8 (args1 rfl) hcall ?_
 rintro e w' ⟨q6, q1x, c_y0_ret_4_2_1, q0b, q5, q1y, c_y0_ret_5_2_1, q0c, q3, q1z, c_y0_ret_6_2_1, q0k, q4, q20, c_y0_ret_7_2_1, q0l, rfl, q0n, q0o, q0e, q0f, hS⟩
 refine ⟨_, rfl, ?_⟩
 have e_ := St.vec_n hS q0n; subst e_
 have e_ := St.vec_n (hS.pull 1) q0o; subst e_
 have e_ := St.vec_n (hS.pull 2) q0e; subst e_
 have e_ := St.vec_n (hS.pull 3) q0f; subst e_
 refine o_alloc zero_31 hS (fun b4 w' hS => ?_)
 refine o_storeAgg (news := [.int .i64 q2.1.W, .int .i64 q2.1.H, .int .i64 q2.1.Layers, .int .i64 q2.1.Nets, .slice q6 q2.1.Wires.length c_y0_ret_4_2_1, .slice q5 q2.1.Vias.length c_y0_ret_5_2_1, .slice q3 q2.1.Pins.length c_y0_ret_6_2_1, .slice q4 q2.1.Walls.length c_y0_ret_7_2_1]) agg_31 rfl rfl rfl (by simp [over_length]) hS (fun w' hS => ?_)
 refine x_done <| x_seq <| x_region <| pa (v := .agg #[.int .i64 q2.1.W, .int .i64 q2.1.H, .int .i64 q2.1.Layers, .int .i64 q2.1.Nets, .slice q6 q2.1.Wires.length c_y0_ret_4_2_1, .slice q5 q2.1.Vias.length c_y0_ret_5_2_1, .slice q3 q2.1.Pins.length c_y0_ret_6_2_1, .slice q4 q2.1.Walls.length c_y0_ret_7_2_1]) (ld_sub agg_31 rfl rfl rfl hS) <| ?_
 refine o_alloc zero_31 hS (fun b5 w' hS => ?_)
 refine o_storeAgg (news := [.int .i64 q2.1.W, .int .i64 q2.1.H, .int .i64 q2.1.Layers, .int .i64 q2.1.Nets, .slice q6 q2.1.Wires.length c_y0_ret_4_2_1, .slice q5 q2.1.Vias.length c_y0_ret_5_2_1, .slice q3 q2.1.Pins.length c_y0_ret_6_2_1, .slice q4 q2.1.Walls.length c_y0_ret_7_2_1]) agg_31 rfl rfl rfl (by simp [over_length]) hS (fun w' hS => ?_)
 refine x_done <| x_seq <| ?_
 replace hF := nbd_s hF; obtain ⟨q0d, q2l, hF⟩ := hF
 replace hF := nbd_s hF; obtain ⟨q0a, q2m, hF⟩ := hF
 refine x_par (w0 := w0) [⟨[], [], [25], [], [], [], none⟩, ⟨[0], [0], [26], [0], [], [], none⟩, ⟨[0, 1], [1], [27], [1, 2], [], [3], none⟩, ⟨[], [], [28], [], [], [], none⟩, ⟨[3], [3], [29], [0], [], [], none⟩, ⟨[0, 1, 2, 3, 4], [4], [30], [4, 2], [], [5], none⟩, ⟨[0, 1, 2], [], [31], [], [], [], none⟩, ⟨[0, 1, 2, 3, 4, 5, 6], [2, 6], [], [], [6], [7], none⟩, ⟨[0, 1, 2, 3, 4, 5, 6, 7], [], [32], [], [], [], none⟩, ⟨[0, 1, 2, 3, 4, 5, 6, 7, 8], [2, 5, 8], [], [], [7], [8], none⟩] [⟨none, none, []⟩, ⟨none, none, []⟩, ⟨none, none, []⟩, ⟨(some 2), none, [27]⟩, ⟨none, none, []⟩, ⟨(some 5), none, [30]⟩, ⟨none, (some 7), []⟩, ⟨(some 7), (some 9), [27]⟩, ⟨(some 9), none, [27, 30]⟩] [25, 26, 27, 28, 29, 30, 31, 32] [0, 1, 2, 4, 6] [0, 1, 2, 3, 4, 5, 8] [0, 1, 2, 3, 4, 5, 6, 8] [fun Ep4 => Ep4 25 = .pointer (some ⟨b4, 4, none⟩), fun Ep4 => Ep4 26 = .slice q6 q2.1.Wires.length c_y0_ret_4_2_1, fun Ep4 => Ep4 27 = .slice (adOf (Ep4 27)) q0d.length (capOf (Ep4 27)), fun Ep4 => Ep4 28 = .pointer (some ⟨b4, 5, none⟩), fun Ep4 => Ep4 29 = .slice q5 q2.1.Vias.length c_y0_ret_5_2_1, fun Ep4 => Ep4 30 = .slice (adOf (Ep4 30)) q0a.length (capOf (Ep4 30)), fun Ep4 => Ep4 31 = .pointer (some ⟨b5, 4, none⟩), fun Ep4 => True, fun Ep4 => Ep4 32 = .pointer (some ⟨b5, 5, none⟩), fun Ep4 => True] [fun Ep4 => cells b4 31 [.int .i64 q2.1.W, .int .i64 q2.1.H, .int .i64 q2.1.Layers, .int .i64 q2.1.Nets, .slice q6 q2.1.Wires.length c_y0_ret_4_2_1, .slice q5 q2.1.Vias.length c_y0_ret_5_2_1, .slice q3 q2.1.Pins.length c_y0_ret_6_2_1, .slice q4 q2.1.Walls.length c_y0_ret_7_2_1], fun Ep4 => vec 44 R_rules_Wire.sz (.slice q6 q2.1.Wires.length c_y0_ret_4_2_1) q2.1.Wires.length q0b, fun Ep4 => ro ρ, fun Ep4 => bunA (fun (q8 : List Value) => RepL R_rules_Wire ρ q0d q8) (fun (q8 : List Value) => [vec 44 R_rules_Wire.sz (.slice (adOf (Ep4 27)) q0d.length (capOf (Ep4 27))) q0d.length q8]), fun Ep4 => vec 47 R_rules_Via.sz (.slice q5 q2.1.Vias.length c_y0_ret_5_2_1) q2.1.Vias.length q0c, fun Ep4 => bunA (fun (q9 : List Value) => RepL R_rules_Via ρ q0a q9) (fun (q9 : List Value) => [vec 47 R_rules_Via.sz (.slice (adOf (Ep4 30)) q0a.length (capOf (Ep4 30))) q0a.length q9]), fun Ep4 => cells b5 31 [.int .i64 q2.1.W, .int .i64 q2.1.H, .int .i64 q2.1.Layers, .int .i64 q2.1.Nets, .slice q6 q2.1.Wires.length c_y0_ret_4_2_1, .slice q5 q2.1.Vias.length c_y0_ret_5_2_1, .slice q3 q2.1.Pins.length c_y0_ret_6_2_1, .slice q4 q2.1.Walls.length c_y0_ret_7_2_1], fun Ep4 => cells b5 31 [.int .i64 q2.1.W, .int .i64 q2.1.H, .int .i64 q2.1.Layers, .int .i64 q2.1.Nets, .slice (adOf (Ep4 27)) q0d.length (capOf (Ep4 27)), .slice q5 q2.1.Vias.length c_y0_ret_5_2_1, .slice q3 q2.1.Pins.length c_y0_ret_6_2_1, .slice q4 q2.1.Walls.length c_y0_ret_7_2_1], fun Ep4 => cells b5 31 [.int .i64 q2.1.W, .int .i64 q2.1.H, .int .i64 q2.1.Layers, .int .i64 q2.1.Nets, .slice (adOf (Ep4 27)) q0d.length (capOf (Ep4 27)), .slice (adOf (Ep4 30)) q0a.length (capOf (Ep4 30)), .slice q3 q2.1.Pins.length c_y0_ret_6_2_1, .slice q4 q2.1.Walls.length c_y0_ret_7_2_1]] mixed (by kernel_rfl) ((((hS.pull 3).pull 7).pull 4).pull 4) ?_ ?_
 ·refine ⟨?_, ?_, ?_, ?_, ?_, ?_, ?_, ?_, ?_, ?_, trivial⟩
  ·intro Ep4 w l' hE4 hO4 hF_ hS
   refine p (yl_field0 fld_31_4 (hE4 4 rfl)) <| x_done <| ?_
   refine x_fin ⟨⟨_, rfl⟩, rfl, ?_⟩
   exact emk hS
  ·intro Ep4 w l' hE4 hO4 hF_ hS
   obtain ⟨q1a, -⟩ := hF_
   replace q1a : Ep4 25 = .pointer (some ⟨b4, 4, none⟩) := emk q1a
   replace hS : St w0 w (cells b4 31 [.int .i64 q2.1.W, .int .i64 q2.1.H, .int .i64 q2.1.Layers, .int .i64 q2.1.Nets, .slice q6 q2.1.Wires.length c_y0_ret_4_2_1, .slice q5 q2.1.Vias.length c_y0_ret_5_2_1, .slice q3 q2.1.Pins.length c_y0_ret_6_2_1, .slice q4 q2.1.Walls.length c_y0_ret_7_2_1] :: l') := emk hS
   refine pa (at_load one_26 q1a (hS.cell rfl)) <| x_done <| ?_
   refine x_fin ⟨⟨_, rfl⟩, rfl, ?_⟩
   exact emk hS
  ·intro Ep4 w l' hE4 hO4 hF_ hS
   obtain ⟨q1b, -⟩ := hF_
   replace q1b : Ep4 26 = .slice q6 q2.1.Wires.length c_y0_ret_4_2_1 := emk q1b
   replace hS : St w0 w (vec 44 R_rules_Wire.sz (.slice q6 q2.1.Wires.length c_y0_ret_4_2_1) q2.1.Wires.length q0b :: ro ρ :: l') := emk hS
   have q_ := St.lend ((hS.pull 1).pull 1) q0n; obtain ⟨ρl0, hll0, hlf0, hS0, back0⟩ := q_
   have hcall := c_slices_Clone_rules_Wire_rules_Wire q2l hlf0 hS0
   refine o_cc call_13 (args1 q1b) hcall ?_
   rintro e w' ⟨q1n, q23, c_y0_ret_4_2, q8, rfl, q0g, hS⟩
   refine ⟨_, rfl, ?_⟩
   replace hS := back0 (hS.pull 1)
   replace q0g : RepL R_rules_Wire ρ q0d q8 := RepL.flat (fun h => h) q0g
   have e_ := St.vec_n (hS.pull 2) q0g; subst e_
   refine x_done <| ?_
   refine x_fin ⟨⟨_, rfl⟩, rfl, ?_⟩
   replace hS := St.bun (Φ := (fun (q8 : List Value) => RepL R_rules_Wire ρ q0d q8)) (L := (fun (q8 : List Value) => [vec 44 R_rules_Wire.sz (.slice q1n q0d.length c_y0_ret_4_2) q0d.length q8])) q8 q0g (hS.pull 2)
   exact emk ((hS.pull 2).pull 2)
  ·intro Ep4 w l' hE4 hO4 hF_ hS
   refine p (yl_field0 fld_31_5 (hE4 4 rfl)) <| x_done <| ?_
   refine x_fin ⟨⟨_, rfl⟩, rfl, ?_⟩
   exact emk hS
  ·intro Ep4 w l' hE4 hO4 hF_ hS
   obtain ⟨q1c, -⟩ := hF_
   replace q1c : Ep4 28 = .pointer (some ⟨b4, 5, none⟩) := emk q1c
   replace hS : St w0 w (cells b4 31 [.int .i64 q2.1.W, .int .i64 q2.1.H, .int .i64 q2.1.Layers, .int .i64 q2.1.Nets, .slice q6 q2.1.Wires.length c_y0_ret_4_2_1, .slice q5 q2.1.Vias.length c_y0_ret_5_2_1, .slice q3 q2.1.Pins.length c_y0_ret_6_2_1, .slice q4 q2.1.Walls.length c_y0_ret_7_2_1] :: l') := emk hS
   refine pa (at_load one_27 q1c (hS.cell rfl)) <| x_done <| ?_
   refine x_fin ⟨⟨_, rfl⟩, rfl, ?_⟩
   exact emk hS
  ·intro Ep4 w l' hE4 hO4 hF_ hS
   obtain ⟨q1d, -⟩ := hF_
   replace q1d : Ep4 29 = .slice q5 q2.1.Vias.length c_y0_ret_5_2_1 := emk q1d
   replace hS : St w0 w (vec 47 R_rules_Via.sz (.slice q5 q2.1.Vias.length c_y0_ret_5_2_1) q2.1.Vias.length q0c :: ro ρ :: l') := emk hS
   have q_ := St.lend ((hS.pull 1).pull 1) q0o; obtain ⟨ρl0, hll0, hlf0, hS0, back0⟩ := q_
   have hcall := c_slices_Clone_rules_Via_rules_Via q2m hlf0 hS0
   refine o_cc call_14 (args1 q1d) hcall ?_
   rintro e w' ⟨q1o, q24, c_y0_ret_4_5, q9, rfl, q0h, hS⟩
   refine ⟨_, rfl, ?_⟩
   replace hS := back0 (hS.pull 1)
   replace q0h : RepL R_rules_Via ρ q0a q9 := RepL.flat (fun h => h) q0h
   have e_ := St.vec_n (hS.pull 2) q0h; subst e_
   refine x_done <| ?_
   refine x_fin ⟨⟨_, rfl⟩, rfl, ?_⟩
   replace hS := St.bun (Φ := (fun (q9 : List Value) => RepL R_rules_Via ρ q0a q9)) (L := (fun (q9 : List Value) => [vec 47 R_rules_Via.sz (.slice q1o q0a.length c_y0_ret_4_5) q0a.length q9])) q9 q0h (hS.pull 2)
   exact emk ((hS.pull 2).pull 2)
  ·intro Ep4 w l' hE4 hO4 hF_ hS
   refine p (yl_field0 fld_31_4 (hE4 5 rfl)) <| x_done <| ?_
   refine x_fin ⟨⟨_, rfl⟩, rfl, ?_⟩
   exact emk hS
  ·intro Ep4 w l' hE4 hO4 hF_ hS
   obtain ⟨q10, q1e, -⟩ := hF_
   replace q10 : Ep4 27 = .slice (adOf (Ep4 27)) q0d.length (capOf (Ep4 27)) := emk q10
   replace q1e : Ep4 31 = .pointer (some ⟨b5, 4, none⟩) := emk q1e
   replace hS : St w0 w (cells b5 31 [.int .i64 q2.1.W, .int .i64 q2.1.H, .int .i64 q2.1.Layers, .int .i64 q2.1.Nets, .slice q6 q2.1.Wires.length c_y0_ret_4_2_1, .slice q5 q2.1.Vias.length c_y0_ret_5_2_1, .slice q3 q2.1.Pins.length c_y0_ret_6_2_1, .slice q4 q2.1.Walls.length c_y0_ret_7_2_1] :: l') := emk hS
   refine o_store1 (v := .slice (adOf (Ep4 27)) q0d.length (capOf (Ep4 27))) one_26 q1e q10 rfl rfl hS (fun w' hS => ?_)
   refine x_done <| ?_
   refine x_fin ⟨⟨undef, rfl⟩, trivial, ?_⟩
   exact emk hS
  ·intro Ep4 w l' hE4 hO4 hF_ hS
   refine p (yl_field0 fld_31_5 (hE4 5 rfl)) <| x_done <| ?_
   refine x_fin ⟨⟨_, rfl⟩, rfl, ?_⟩
   exact emk hS
  ·intro Ep4 w l' hE4 hO4 hF_ hS
   obtain ⟨q10, q1f, q1g, -⟩ := hF_
   replace q10 : Ep4 27 = .slice (adOf (Ep4 27)) q0d.length (capOf (Ep4 27)) := emk q10
   replace q1f : Ep4 30 = .slice (adOf (Ep4 30)) q0a.length (capOf (Ep4 30)) := emk q1f
   replace q1g : Ep4 32 = .pointer (some ⟨b5, 5, none⟩) := emk q1g
   replace hS : St w0 w (cells b5 31 [.int .i64 q2.1.W, .int .i64 q2.1.H, .int .i64 q2.1.Layers, .int .i64 q2.1.Nets, .slice (adOf (Ep4 27)) q0d.length (capOf (Ep4 27)), .slice q5 q2.1.Vias.length c_y0_ret_5_2_1, .slice q3 q2.1.Pins.length c_y0_ret_6_2_1, .slice q4 q2.1.Walls.length c_y0_ret_7_2_1] :: l') := emk hS
   refine o_store1 (v := .slice (adOf (Ep4 30)) q0a.length (capOf (Ep4 30))) one_27 q1g q1f rfl rfl hS (fun w' hS => ?_)
   refine x_done <| ?_
   refine x_fin ⟨⟨undef, rfl⟩, trivial, ?_⟩
   exact emk hS
 intro Ep4 w' hE4 hF_ hS
 obtain ⟨q1a, q1b, q10, q1c, q1d, q1f, q1e, q1g, -⟩ := hF_
 replace q1a : Ep4 25 = .pointer (some ⟨b4, 4, none⟩) := emk q1a
 replace q1b : Ep4 26 = .slice q6 q2.1.Wires.length c_y0_ret_4_2_1 := emk q1b
 replace q10 : Ep4 27 = .slice (adOf (Ep4 27)) q0d.length (capOf (Ep4 27)) := emk q10
 replace q1c : Ep4 28 = .pointer (some ⟨b4, 5, none⟩) := emk q1c
 replace q1d : Ep4 29 = .slice q5 q2.1.Vias.length c_y0_ret_5_2_1 := emk q1d
 replace q1f : Ep4 30 = .slice (adOf (Ep4 30)) q0a.length (capOf (Ep4 30)) := emk q1f
 replace q1e : Ep4 31 = .pointer (some ⟨b5, 4, none⟩) := emk q1e
 replace q1g : Ep4 32 = .pointer (some ⟨b5, 5, none⟩) := emk q1g
 replace hS : St w0 w' (cells b4 31 [.int .i64 q2.1.W, .int .i64 q2.1.H, .int .i64 q2.1.Layers, .int .i64 q2.1.Nets, .slice q6 q2.1.Wires.length c_y0_ret_4_2_1, .slice q5 q2.1.Vias.length c_y0_ret_5_2_1, .slice q3 q2.1.Pins.length c_y0_ret_6_2_1, .slice q4 q2.1.Walls.length c_y0_ret_7_2_1] :: vec 44 R_rules_Wire.sz (.slice q6 q2.1.Wires.length c_y0_ret_4_2_1) q2.1.Wires.length q0b :: ro ρ :: bunA (fun (q8 : List Value) => RepL R_rules_Wire ρ q0d q8) (fun (q8 : List Value) => [vec 44 R_rules_Wire.sz (.slice (adOf (Ep4 27)) q0d.length (capOf (Ep4 27))) q0d.length q8]) :: vec 47 R_rules_Via.sz (.slice q5 q2.1.Vias.length c_y0_ret_5_2_1) q2.1.Vias.length q0c :: bunA (fun (q9 : List Value) => RepL R_rules_Via ρ q0a q9) (fun (q9 : List Value) => [vec 47 R_rules_Via.sz (.slice (adOf (Ep4 30)) q0a.length (capOf (Ep4 30))) q0a.length q9]) :: cells b5 31 [.int .i64 q2.1.W, .int .i64 q2.1.H, .int .i64 q2.1.Layers, .int .i64 q2.1.Nets, .slice (adOf (Ep4 27)) q0d.length (capOf (Ep4 27)), .slice (adOf (Ep4 30)) q0a.length (capOf (Ep4 30)), .slice q3 q2.1.Pins.length c_y0_ret_6_2_1, .slice q4 q2.1.Walls.length c_y0_ret_7_2_1] :: (vec 39 R_rules_Pin.sz (.slice q3 q2.1.Pins.length c_y0_ret_6_2_1) q2.1.Pins.length q0k :: vec 66 R_floor_Wall.sz (.slice q4 q2.1.Walls.length c_y0_ret_7_2_1) q2.1.Walls.length q0l :: cells b21 25 [.slice q0w l_0.length c_l_0, .int .i64 q2.2] :: l)) := emk hS
 have q_ := St.unbun (hS.pull 3); obtain ⟨q8, q0g, hS⟩ := q_
 have q_ := St.unbun (hS.pull 5); obtain ⟨q9, q0h, hS⟩ := q_
 replace hF := nbd_s hF; obtain ⟨q2z, q2n, hF⟩ := hF
 refine x_seq <| x_region <| p (yl_field0 fld_31_4 (hE4 5 rfl)) <| pa (at_load one_26 rfl ((hS.pull 6).cell rfl)) <| ?_
 have hcall := c_slices_Reverse_rules_Wire_rules_Wire q2n q0g ((hS.pull 4).pull 2)
 refine o_cc call_15 (args1 rfl) hcall ?_
 rintro e w' ⟨q13, rfl, q0m, hS⟩
 refine ⟨_, rfl, ?_⟩
 replace hF := nbd_s hF; obtain ⟨q2t, q2o, hF⟩ := hF
 refine x_done <| x_seq <| x_region <| p (yl_field0 fld_31_5 (hE4 5 rfl)) <|
  pa (at_load one_27 rfl ((hS.pull 6).cell rfl)) <| ?_
 have hcall := c_slices_Reverse_rules_Via_rules_Via q2o q0h ((hS.pull 1).pull 2)
 refine o_cc call_16 (args1 rfl) hcall ?_
 rintro e w' ⟨q0r, rfl, q0x, hS⟩
 refine ⟨_, rfl, ?_⟩
 replace hF := nbd_s hF; obtain ⟨q2u, q2p, hF⟩ := hF
 refine x_done <| x_seq <| x_region <| p (yl_move (hE4 3 rfl)) <|
  p (yl_field0 fld_31_4 (hE4 5 rfl)) <| pa (at_load one_26 rfl ((hS.pull 6).cell rfl)) <| p (yl_len_slice usl_26 rfl) <| ?_
 have hcall := c_maskmake_Stream_Next q2p q12 ((hS.pull 1).pull 9)
 refine o_cc call_9 (args2 rfl rfl) hcall ?_
 rintro e w' ⟨rfl, hS⟩
 refine ⟨_, rfl, ?_⟩
 replace hF := nck_s hF; obtain ⟨q1u, hF⟩ := hF
 replace hF := nlv_s hF; obtain ⟨q7, q2q, hF⟩ := hF
 have q_ := q0m.get q1u; obtain ⟨q2w, q1v, q2r⟩ := q_
 rw [← q2q] at q1v
 have e_ := q1v; subst e_
 refine p (yl_assign rfl) <| x_done <| x_seq <| x_region <|
  p (yl_field0 fld_31_4 (hE4 5 rfl)) <| pa (at_load one_26 rfl ((hS.pull 7).cell rfl)) <| p (yl_move rfl) <| p (yix_o sl_26 rfl rfl (hS.pull 3) q0m q1u) <|
  pa (v := .agg #[.int .i64 q7.Net, .int .i64 q7.Layer, .int .i64 q7.X0, .int .i64 q7.Y0, .int .i64 q7.X1, .int .i64 q7.Y1]) (at_loadAgg agg_44 rfl rfl (EltV.every q2r (hS.pull 3))) <| ?_
 refine o_alloc zero_44 hS (fun b7 w' hS => ?_)
 refine o_storeAgg (news := [.int .i64 q7.Net, .int .i64 q7.Layer, .int .i64 q7.X0, .int .i64 q7.Y0, .int .i64 q7.X1, .int .i64 q7.Y1]) agg_44 rfl rfl rfl (by simp [over_length]) hS (fun w' hS => ?_)
 refine x_done <| x_seq <| x_region <| pa (v := .agg #[.int .i64 q7.Net, .int .i64 q7.Layer, .int .i64 q7.X0, .int .i64 q7.Y0, .int .i64 q7.X1, .int .i64 q7.Y1]) (ld_sub agg_44 rfl rfl rfl hS) <| ?_
 refine o_alloc zero_44 hS (fun b8 w' hS => ?_)
 refine o_storeAgg (news := [.int .i64 q7.Net, .int .i64 q7.Layer, .int .i64 q7.X0, .int .i64 q7.Y0, .int .i64 q7.X1, .int .i64 q7.Y1]) agg_44 rfl rfl rfl (by simp [over_length]) hS (fun w' hS => ?_)
 refine x_done <| x_seq <| x_seq <| x_region <|
  p (yl_field0 fld_44_2 rfl) <| pa (at_load one_3 rfl ((hS.pull 1).cell rfl)) <| p (yl_field0 fld_44_4 rfl) <| pa (at_load one_3 rfl ((hS.pull 1).cell rfl)) <|
  p (yl_lss rfl rfl) <| x_done <| ?_
 replace hF := nbd_j hF; obtain ⟨oc54, hFc54, hF⟩ := hF
 refine x_join (fun E w => ∃ (q0v : Int) (q0s : Int) (q0t : Int) (q0i : Int) (q0j : Int), oc54 (q0v, q0s, q0t, q0i, q0j) ∧ E 3 = .pointer (some ⟨b21, 0, none⟩) ∧ E 4 = .pointer (some ⟨b4, 0, none⟩) ∧ E 5 = .pointer (some ⟨b5, 0, none⟩) ∧ E 6 = .int .i64 q2u.1 ∧ E 7 = .pointer (some ⟨b7, 0, none⟩) ∧ E 8 = .pointer (some ⟨b8, 0, none⟩) ∧ St w0 w (cells b21 25 [.slice q0w l_0.length c_l_0, .int .i64 q0v] :: cells b4 31 [.int .i64 q2.1.W, .int .i64 q2.1.H, .int .i64 q2.1.Layers, .int .i64 q2.1.Nets, .slice q6 q2.1.Wires.length c_y0_ret_4_2_1, .slice q5 q2.1.Vias.length c_y0_ret_5_2_1, .slice q3 q2.1.Pins.length c_y0_ret_6_2_1, .slice q4 q2.1.Walls.length c_y0_ret_7_2_1] :: cells b5 31 [.int .i64 q2.1.W, .int .i64 q2.1.H, .int .i64 q2.1.Layers, .int .i64 q2.1.Nets, .slice (adOf (Ep4 27)) q0d.length (capOf (Ep4 27)), .slice (adOf (Ep4 30)) q0a.length (capOf (Ep4 30)), .slice q3 q2.1.Pins.length c_y0_ret_6_2_1, .slice q4 q2.1.Walls.length c_y0_ret_7_2_1] :: cells b7 44 [.int .i64 q7.Net, .int .i64 q7.Layer, .int .i64 q7.X0, .int .i64 q7.Y0, .int .i64 q0s, .int .i64 q0t] :: cells b8 44 [.int .i64 q7.Net, .int .i64 q7.Layer, .int .i64 q0i, .int .i64 q0j, .int .i64 q7.X1, .int .i64 q7.Y1] :: vec 44 R_rules_Wire.sz (.slice q6 q2.1.Wires.length c_y0_ret_4_2_1) q2.1.Wires.length q0b :: vec 47 R_rules_Via.sz (.slice q5 q2.1.Vias.length c_y0_ret_5_2_1) q2.1.Vias.length q0c :: vec 39 R_rules_Pin.sz (.slice q3 q2.1.Pins.length c_y0_ret_6_2_1) q2.1.Pins.length q0k :: vec 66 R_floor_Wall.sz (.slice q4 q2.1.Walls.length c_y0_ret_7_2_1) q2.1.Walls.length q0l :: vec 44 R_rules_Wire.sz (.slice (adOf (Ep4 27)) q0d.length (capOf (Ep4 27))) q0d.length q13 :: vec 47 R_rules_Via.sz (.slice (adOf (Ep4 30)) q0a.length (capOf (Ep4 30))) q0a.length q0r :: ro ρ :: l)) ?_ ?_
 ·refine x_cond_p (q7.X0 < q7.X1) rfl (fun hc54 => ?_) (fun hc54 => ?_)
  ·replace hFc54 := nit_t hc54 hFc54
   replace hFc54 := nbd_s hFc54; obtain ⟨q15, q25, hFc54⟩ := hFc54
   refine x_seq <| x_region <| p (yl_move (hE4 3 rfl)) <| p (yl_field0 fld_44_2 rfl) <|
    pa (at_load one_3 rfl ((hS.pull 1).cell rfl)) <| p (yl_field0 fld_44_4 rfl) <| pa (at_load one_3 rfl ((hS.pull 1).cell rfl)) <| ?_
   have hcall := c_maskmake_Stream_Range q25 q12 ((hS.pull 3).pull 3)
   refine o_cc call_17 (args3 rfl rfl rfl) hcall ?_
   rintro e w' ⟨rfl, hS⟩
   refine ⟨_, rfl, ?_⟩
   refine p (yl_field0 fld_44_4 rfl) <| ?_
   refine o_store1 (v := .int .i64 q15.1) one_3 rfl rfl rfl rfl (hS.pull 3) (fun w' hS => ?_)
   refine x_done <| x_region <| p (yl_field0 fld_44_4 rfl) <| pa (at_load one_3 rfl (hS.cell rfl)) <|
    p (yl_field0 fld_44_2 rfl) <| ?_
   refine o_store1 (v := .int .i64 q15.1) one_3 rfl rfl rfl rfl (hS.pull 3) (fun w' hS => ?_)
   refine x_done <| ?_
   exact x_inv ⟨q15.2, q15.1, q7.Y1, q15.1, q7.Y0, hFc54, (hE4 3 rfl), (hE4 4 rfl), (hE4 5 rfl), rfl, rfl, rfl, ((((((((((((hS.pull 3).pull 4).pull 5).pull 11).pull 11).pull 10).pull 10).pull 7).pull 8).pull 11).pull 11).pull 11)⟩
  ·replace hFc54 := nit_f hc54 hFc54
   replace hFc54 := nbd_s hFc54; obtain ⟨q16, q26, hFc54⟩ := hFc54
   refine x_seq <| x_region <| p (yl_move (hE4 3 rfl)) <| p (yl_field0 fld_44_3 rfl) <|
    pa (at_load one_3 rfl ((hS.pull 1).cell rfl)) <| p (yl_field0 fld_44_5 rfl) <| pa (at_load one_3 rfl ((hS.pull 1).cell rfl)) <| ?_
   have hcall := c_maskmake_Stream_Range q26 q12 ((hS.pull 3).pull 3)
   refine o_cc call_17 (args3 rfl rfl rfl) hcall ?_
   rintro e w' ⟨rfl, hS⟩
   refine ⟨_, rfl, ?_⟩
   refine p (yl_field0 fld_44_5 rfl) <| ?_
   refine o_store1 (v := .int .i64 q16.1) one_3 rfl rfl rfl rfl (hS.pull 3) (fun w' hS => ?_)
   refine x_done <| x_region <| p (yl_field0 fld_44_5 rfl) <| pa (at_load one_3 rfl (hS.cell rfl)) <|
    p (yl_field0 fld_44_3 rfl) <| ?_
   refine o_store1 (v := .int .i64 q16.1) one_3 rfl rfl rfl rfl (hS.pull 3) (fun w' hS => ?_)
   refine x_done <| ?_
   exact x_inv ⟨q16.2, q7.X1, q16.1, q7.X0, q16.1, hFc54, (hE4 3 rfl), (hE4 4 rfl), (hE4 5 rfl), rfl, rfl, rfl, ((((((((((((hS.pull 3).pull 4).pull 5).pull 11).pull 11).pull 10).pull 10).pull 7).pull 8).pull 11).pull 11).pull 11)⟩
 rintro E w ⟨q0v, q0s, q0t, q0i, q0j, hq_, q27, q1r, q17, q28, q29, q2a, hS⟩
 replace hF := hF _ hq_
 clear hq_
 replace hF := nck_s hF; obtain ⟨q1s, hF⟩ := hF
 refine x_seq <| x_region <| p (yl_field0 fld_31_4 q17) <| pa (at_load one_26 rfl ((hS.pull 2).cell rfl)) <|
  p (yl_move q28) <| pa (v := .agg #[.int .i64 q7.Net, .int .i64 q7.Layer, .int .i64 q7.X0, .int .i64 q7.Y0, .int .i64 q0s, .int .i64 q0t]) (ld_sub agg_44 q29 rfl rfl (hS.pull 3)) <| p (yix_o sl_26 rfl rfl (hS.pull 9) q0m q1s) <| ?_
 replace hF := nlv_s hF; obtain ⟨q2x, q2b, hF⟩ := hF
 refine o_put' (news := [.int .i64 q7.Net, .int .i64 q7.Layer, .int .i64 q7.X0, .int .i64 q7.Y0, .int .i64 q0s, .int .i64 q0t]) sz_44 rfl rfl rfl rfl (o := 0) rfl q1s rfl (hS.pull 9) q0m (Le.refl _) (fun c hc => ok_all hc (show R_rules_Wire.ok ρ [.int .i64 q7.Net, .int .i64 q7.Layer, .int .i64 q7.X0, .int .i64 q7.Y0, .int .i64 q0s, .int .i64 q0t] (T_rules_Wire.mk q7.Net q7.Layer q7.X0 q7.Y0 q0s q0t) from rfl)) q2b (fun q2v w' q2c hS => ?_)
 refine x_done <| x_seq <| x_region <| p (yl_field0 fld_31_4 q17) <|
  pa (at_load one_26 rfl ((hS.pull 3).cell rfl)) <| pa (v := .agg #[.int .i64 q7.Net, .int .i64 q7.Layer, .int .i64 q0i, .int .i64 q0j, .int .i64 q7.X1, .int .i64 q7.Y1]) (ld_sub agg_44 q2a rfl rfl (hS.pull 5)) <| ?_
 refine o_buildSlice (vs := [.agg #[.int .i64 q7.Net, .int .i64 q7.Layer, .int .i64 q0i, .int .i64 q0j, .int .i64 q7.X1, .int .i64 q7.Y1]]) (cs := [.int .i64 q7.Net, .int .i64 q7.Layer, .int .i64 q0i, .int .i64 q0j, .int .i64 q7.X1, .int .i64 q7.Y1]) sl_26 zero_44 (parts_eq (pt (va := .agg #[.int .i64 q7.Net, .int .i64 q7.Layer, .int .i64 q0i, .int .i64 q0j, .int .i64 q7.X1, .int .i64 q7.Y1]) rfl pt0)) rfl (by intro v hv; simp only [List.mem_cons, List.not_mem_nil, or_false] at hv; first | (subst hv; rfl) | (rcases hv with rfl <;> rfl)) (by decide) rfl hS (fun b83 w' hS => ?_)
 replace hF := nlv_s hF; obtain ⟨q0u, q2d, hF⟩ := hF
 replace hF := nck_s hF; obtain ⟨q2e, hF⟩ := hF
 refine o_ap sl_26 zero_44 rfl (by decide) rfl rfl (hS.pull 1) q2c (src_blk usl_26 hS rfl rfl) (RepL.cons (R := R_rules_Wire) (ρ := ρ) (x := (T_rules_Wire.mk q7.Net q7.Layer q0i q0j q7.X1 q7.Y1)) (cs := [.int .i64 q7.Net, .int .i64 q7.Layer, .int .i64 q0i, .int .i64 q0j, .int .i64 q7.X1, .int .i64 q7.Y1]) rfl RepL.nil) q2d q2e (fun A84 c84 cs84 w' hr84 hS => ?_)
 refine p (yl_field0 fld_31_4 q17) <| ?_
 refine o_store1 (v := .slice A84 q0u.length c84) one_26 rfl rfl rfl rfl (hS.pull 4) (fun w' hS => ?_)
 refine x_done <| x_seq <| x_seq <| x_region <|
  p (yl_field0 fld_31_3 q1r) <| pa (at_load one_3 rfl ((hS.pull 4).cell rfl)) <| p (yl_move rfl) <| x_done <| ?_
 replace hF := nbs_j hF; obtain ⟨oL18, hLL18, hF⟩ := hF
 refine x_join (fun E w => oL18 (Sum.inl ()) ∧ E 3 = .pointer (some ⟨b21, 0, none⟩) ∧ E 4 = .pointer (some ⟨b4, 0, none⟩) ∧ E 5 = .pointer (some ⟨b5, 0, none⟩) ∧ St w0 w (cells b21 25 [.slice q0w l_0.length c_l_0, .int .i64 q0v] :: cells b4 31 [.int .i64 q2.1.W, .int .i64 q2.1.H, .int .i64 q2.1.Layers, .int .i64 q2.1.Nets, .slice q6 q2.1.Wires.length c_y0_ret_4_2_1, .slice q5 q2.1.Vias.length c_y0_ret_5_2_1, .slice q3 q2.1.Pins.length c_y0_ret_6_2_1, .slice q4 q2.1.Walls.length c_y0_ret_7_2_1] :: cells b5 31 [.int .i64 q2.1.W, .int .i64 q2.1.H, .int .i64 q2.1.Layers, .int .i64 q2.1.Nets, .slice A84 q0u.length c84, .slice (adOf (Ep4 30)) q0a.length (capOf (Ep4 30)), .slice q3 q2.1.Pins.length c_y0_ret_6_2_1, .slice q4 q2.1.Walls.length c_y0_ret_7_2_1] :: vec 44 R_rules_Wire.sz (.slice q6 q2.1.Wires.length c_y0_ret_4_2_1) q2.1.Wires.length q0b :: vec 47 R_rules_Via.sz (.slice q5 q2.1.Vias.length c_y0_ret_5_2_1) q2.1.Vias.length q0c :: vec 39 R_rules_Pin.sz (.slice q3 q2.1.Pins.length c_y0_ret_6_2_1) q2.1.Pins.length q0k :: vec 66 R_floor_Wall.sz (.slice q4 q2.1.Walls.length c_y0_ret_7_2_1) q2.1.Walls.length q0l :: vec 44 R_rules_Wire.sz (.slice A84 q0u.length c84) q0u.length cs84 :: vec 47 R_rules_Via.sz (.slice (adOf (Ep4 30)) q0a.length (capOf (Ep4 30))) q0a.length q0r :: ro ρ :: l)) ?_ ?_
 ·refine x_block ?_
  refine x_loop (fun k_ E w => ∃ (q11 : Int), nlp (P_maskkeep4_ExtractOrder_L18 q2 q2t q0u) k_ q11 oL18 ∧ E 3 = .pointer (some ⟨b21, 0, none⟩) ∧ E 4 = .pointer (some ⟨b4, 0, none⟩) ∧ E 5 = .pointer (some ⟨b5, 0, none⟩) ∧ E 87 = .int .i64 q2.1.Nets ∧ E 88 = .int .i64 q11 ∧ St w0 w (cells b21 25 [.slice q0w l_0.length c_l_0, .int .i64 q0v] :: cells b4 31 [.int .i64 q2.1.W, .int .i64 q2.1.H, .int .i64 q2.1.Layers, .int .i64 q2.1.Nets, .slice q6 q2.1.Wires.length c_y0_ret_4_2_1, .slice q5 q2.1.Vias.length c_y0_ret_5_2_1, .slice q3 q2.1.Pins.length c_y0_ret_6_2_1, .slice q4 q2.1.Walls.length c_y0_ret_7_2_1] :: cells b5 31 [.int .i64 q2.1.W, .int .i64 q2.1.H, .int .i64 q2.1.Layers, .int .i64 q2.1.Nets, .slice A84 q0u.length c84, .slice (adOf (Ep4 30)) q0a.length (capOf (Ep4 30)), .slice q3 q2.1.Pins.length c_y0_ret_6_2_1, .slice q4 q2.1.Walls.length c_y0_ret_7_2_1] :: vec 44 R_rules_Wire.sz (.slice q6 q2.1.Wires.length c_y0_ret_4_2_1) q2.1.Wires.length q0b :: vec 47 R_rules_Via.sz (.slice q5 q2.1.Vias.length c_y0_ret_5_2_1) q2.1.Vias.length q0c :: vec 39 R_rules_Pin.sz (.slice q3 q2.1.Pins.length c_y0_ret_6_2_1) q2.1.Pins.length q0k :: vec 66 R_floor_Wall.sz (.slice q4 q2.1.Walls.length c_y0_ret_7_2_1) q2.1.Walls.length q0l :: vec 44 R_rules_Wire.sz (.slice A84 q0u.length c84) q0u.length cs84 :: vec 47 R_rules_Via.sz (.slice (adOf (Ep4 30)) q0a.length (capOf (Ep4 30))) q0a.length q0r :: ro ρ :: l)) fuel ⟨0, hLL18, q27, q1r, q17, rfl, rfl, (((((((((((((hS.pull 2).drop.pull 4).drop.pull 4).drop.pull 9).pull 9).pull 3).pull 9).pull 9).pull 9).pull 9).pull 7).pull 9).pull 9)⟩ ?_
  rintro kL18 E w ⟨q11, hLL18, q1q, q1h, q1i, q1p, q14, hS⟩
  replace hLL18 := nlp_s hLL18; obtain ⟨kL18, obL18, rfl, hFL18, hLL18⟩ := hLL18
  refine x_seq <| x_region <| p (yl_lss q14 q1p) <| x_done <|
   x_seq <|
   x_cond_p (q11 < q2.1.Nets) rfl (fun hc89 => ?_) (fun hc89 => ?_)
  ·replace hFL18 := nit_t hc89 hFL18
   refine x_skip <| x_seq <| x_block <| x_seq <|
    x_region <| p (yl_move q14) <| p (yl_assign rfl) <| x_done <|
    x_seq <| x_region <| pa (v := .agg #[.int .i64 q2.1.W, .int .i64 q2.1.H, .int .i64 q2.1.Layers, .int .i64 q2.1.Nets, .slice q6 q2.1.Wires.length c_y0_ret_4_2_1, .slice q5 q2.1.Vias.length c_y0_ret_5_2_1, .slice q3 q2.1.Pins.length c_y0_ret_6_2_1, .slice q4 q2.1.Walls.length c_y0_ret_7_2_1]) (ld_sub agg_31 q1h rfl rfl (hS.pull 1)) <| p (yl_move rfl) <| ?_
   have q_ := St.lend ((hS.pull 9).pull 4) q0n; obtain ⟨ρl0, hll0, hlf0, hS0, back0⟩ := q_
   have q_ := St.lend (hS0.pull 4) (q0o.le hll0); obtain ⟨ρl1, hll1, hlf1, hS1, back1⟩ := q_
   have q_ := St.lend (hS1.pull 4) (q0e.le (hll0.trans hll1)); obtain ⟨ρl2, hll2, hlf2, hS2, back2⟩ := q_
   have q_ := St.lend (hS2.pull 4) (q0f.le ((hll0.trans hll1).trans hll2)); obtain ⟨ρl3, hll3, hlf3, hS3, back3⟩ := q_
   have hcall := c_extract_Sum (nbd_c hFL18) (hlf0.le ((hll1.trans hll2).trans hll3)) (hlf1.le (hll2.trans hll3)) (hlf2.le hll3) hlf3 hS3
   refine o_cc call_18 (args2 rfl rfl) hcall ?_
   rintro e w' ⟨q0y, hFL18, rfl, hS⟩
   refine ⟨_, rfl, ?_⟩
   replace hS := back3 hS
   replace hS := back2 (hS.pull 1)
   replace hS := back1 (hS.pull 1)
   replace hS := back0 (hS.pull 1)
   refine p (yl_move rfl) <| p (yl_extract rfl rfl) <| p (yl_extract rfl rfl) <| ?_
   refine o_alloc zero_52 hS (fun b10 w' hS => ?_)
   refine o_storeAgg (news := [.int .i64 q0y.1.Cap, .int .i64 q0y.1.Near, .int .i64 q0y.1.Res]) agg_52 rfl rfl rfl (by simp [over_length]) hS (fun w' hS => ?_)
   refine p (yl_assign rfl) <| x_done <| x_seq <| x_region <|
    pa (v := .agg #[.int .i64 q2.1.W, .int .i64 q2.1.H, .int .i64 q2.1.Layers, .int .i64 q2.1.Nets, .slice A84 q0u.length c84, .slice (adOf (Ep4 30)) q0a.length (capOf (Ep4 30)), .slice q3 q2.1.Pins.length c_y0_ret_6_2_1, .slice q4 q2.1.Walls.length c_y0_ret_7_2_1]) (ld_sub agg_31 q1i rfl rfl (hS.pull 8)) <| p (yl_move rfl) <| ?_
   have q_ := St.lend ((hS.pull 2).pull 9) hr84; obtain ⟨ρl0, hll0, hlf0, hS0, back0⟩ := q_
   have q_ := St.lend (hS0.pull 9) (q0x.le hll0); obtain ⟨ρl1, hll1, hlf1, hS1, back1⟩ := q_
   have q_ := St.lend (hS1.pull 4) (q0e.le (hll0.trans hll1)); obtain ⟨ρl2, hll2, hlf2, hS2, back2⟩ := q_
   have q_ := St.lend (hS2.pull 4) (q0f.le ((hll0.trans hll1).trans hll2)); obtain ⟨ρl3, hll3, hlf3, hS3, back3⟩ := q_
   have hcall := c_extract_Sum (nbd_c hFL18) (hlf0.le ((hll1.trans hll2).trans hll3)) (hlf1.le (hll2.trans hll3)) (hlf2.le hll3) hlf3 hS3
   refine o_cc call_18 (args2 rfl rfl) hcall ?_
   rintro e w' ⟨q0z, hFL18, rfl, hS⟩
   refine ⟨_, rfl, ?_⟩
   replace hS := back3 hS
   replace hS := back2 (hS.pull 1)
   replace hS := back1 (hS.pull 1)
   replace hS := back0 (hS.pull 1)
   refine p (yl_move rfl) <| p (yl_extract rfl rfl) <| p (yl_extract rfl rfl) <| ?_
   refine o_alloc zero_52 hS (fun b12 w' hS => ?_)
   refine o_storeAgg (news := [.int .i64 q0z.1.Cap, .int .i64 q0z.1.Near, .int .i64 q0z.1.Res]) agg_52 rfl rfl rfl (by simp [over_length]) hS (fun w' hS => ?_)
   refine p (yl_assign rfl) <| x_done <| x_seq <| x_region <| ?_
   have hcall := c_maskkeep4_extracts (nbd_c hFL18)  (hS.pull 2)
   refine o_cc call_12 args0 hcall ?_
   rintro e w' ⟨q1w, hFL18, rfl, hS⟩
   refine ⟨_, rfl, ?_⟩
   replace hFL18 := nlv_s hFL18; obtain ⟨x108, hx108, hFL18⟩ := hFL18
   replace hFL18 := nlv_s hFL18; obtain ⟨x112, hx112, hFL18⟩ := hFL18
   replace hFL18 := nlv_s hFL18; obtain ⟨x116, hx116, hFL18⟩ := hFL18
   replace hFL18 := nlv_s hFL18; obtain ⟨x117, hx117, hFL18⟩ := hFL18
   refine p (yl_not rfl) <| p (yl_move rfl) <| pg (v := .int .i64 q0y.2) 105 (c := !(!q1w)) (says_f _) (fun hq => Yl.at (yl_move rfl)) <| pg (v := .bool (decide (q0y.2 ≠ 0))) 105 (c := !(!q1w)) (says_f _) (fun hq => Yl.at (yl_neq (cv hq) rfl)) <|
    p (yor' rfl rfl (fun hc => (cv (t_not hc))) hx108) <| p (yl_move rfl) <| pg (v := .int .i64 q0z.2) 109 (c := !x108) (says_f _) (fun hq => Yl.at (yl_move rfl)) <| pg (v := .bool (decide (q0z.2 ≠ 0))) 109 (c := !x108) (says_f _) (fun hq => Yl.at (yl_neq (cv hq) rfl)) <|
    p (yor' rfl rfl (fun hc => (cv (t_not hc))) hx112) <| p (yl_move rfl) <| pg (v := .agg #[.int .i64 q0y.1.Cap, .int .i64 q0y.1.Near, .int .i64 q0y.1.Res]) 113 (c := !x112) (says_f _) (fun hq => ld_sub agg_52 rfl rfl rfl (hS.pull 6)) <| pg (v := .agg #[.int .i64 q0z.1.Cap, .int .i64 q0z.1.Near, .int .i64 q0z.1.Res]) 113 (c := !x112) (says_f _) (fun hq => ld_sub agg_52 rfl rfl rfl (hS.pull 1)) <|
    pg (v := .bool x116) 113 (c := !x112) (says_f _) (fun hq => Yl.at (ynes' eqs_52 (cv hq) (cv hq) rfl hx116)) <| p (yor' rfl rfl (fun hc => (cv (t_not hc))) hx117) <| x_done <|
    x_cond (t := x117) rfl (fun hc117 => ?_) (fun hc117 => ?_)
   ·replace hFL18 := nit_t hc117 hFL18
    refine x_seq <| x_region <| p (yl_assign rfl) <| x_done <| ?_
    exact x_return ⟨_, ⟨_, _, rfl, rfl, rfl⟩, false, (hF _ (hLL18 _ hFL18)), rfl, ((((((((((((hS.pull 1).drop.pull 1).drop.pull 1).drop.pull 1).drop.pull 1).drop.pull 1).drop.pull 1).drop.pull 1).drop.pull 1).drop.pull 1).drop.pull 1).drop)⟩
   ·replace hFL18 := nit_bf hc117 hFL18
    replace hFL18 := nar_s hFL18; obtain ⟨x118, hx118, hFL18⟩ := hFL18
    refine x_skip <| x_blk <| x_region <| p (yadd q14 rfl hx118) <|
     p (yl_move rfl) <| x_done <| ?_
    exact x_inv ⟨kL18, Nat.lt_succ_self _, x118, (hLL18 _ hFL18), q1q, q1h, q1i, q1p, rfl, (((((((((((hS.pull 1).drop.pull 5).drop.pull 2).pull 2).pull 4).pull 4).pull 6).pull 6).pull 9).pull 9).pull 9)⟩
  ·replace hFL18 := nit_f hc89 hFL18
   refine x_exitTo _ rfl <| ?_
   exact x_inv ⟨(hLL18 _ hFL18), q1q, q1h, q1i, ((((((((((hS.pull 9).pull 9).pull 9).pull 9).pull 9).pull 9).pull 9).pull 9).pull 9).pull 9)⟩
 rintro E w ⟨hq_, q2f, q2g, q2h, hS⟩
 replace hF := hF _ hq_
 clear hq_
 replace hF := nbd_s hF; obtain ⟨q2y, q2i, hF⟩ := hF
 refine x_seq <| x_region <| p (yl_move q2f) <| ?_
 have hcall := c_maskmake_Stream_Next q2i q12 ((hS.pull 9).pull 1)
 refine o_cc call_9 (args2 rfl rfl) hcall ?_
 rintro e w' ⟨rfl, hS⟩
 refine ⟨_, rfl, ?_⟩
 refine p (yl_assign rfl) <| x_done <| x_seq <| x_region <|
  pa (v := .agg #[.int .i64 q2.1.W, .int .i64 q2.1.H, .int .i64 q2.1.Layers, .int .i64 q2.1.Nets, .slice q6 q2.1.Wires.length c_y0_ret_4_2_1, .slice q5 q2.1.Vias.length c_y0_ret_5_2_1, .slice q3 q2.1.Pins.length c_y0_ret_6_2_1, .slice q4 q2.1.Walls.length c_y0_ret_7_2_1]) (ld_sub agg_31 q2g rfl rfl (hS.pull 2)) <| p (yl_move rfl) <| ?_
 have q_ := St.lend ((hS.pull 1).pull 4) q0n; obtain ⟨ρl0, hll0, hlf0, hS0, back0⟩ := q_
 have q_ := St.lend (hS0.pull 4) (q0o.le hll0); obtain ⟨ρl1, hll1, hlf1, hS1, back1⟩ := q_
 have q_ := St.lend (hS1.pull 4) (q0e.le (hll0.trans hll1)); obtain ⟨ρl2, hll2, hlf2, hS2, back2⟩ := q_
 have q_ := St.lend (hS2.pull 4) (q0f.le ((hll0.trans hll1).trans hll2)); obtain ⟨ρl3, hll3, hlf3, hS3, back3⟩ := q_
 have hcall := c_extract_Elmore (nbd_c hF) (hlf0.le ((hll1.trans hll2).trans hll3)) (hlf1.le (hll2.trans hll3)) (hlf2.le hll3) hlf3 hS3
 refine o_cc call_10 (args3 rfl rfl rfl) hcall ?_
 rintro e w' ⟨q18, hF, q1l, q21, c_y0_ret_26_2, q1j, rfl, q0p, hS⟩
 refine ⟨_, rfl, ?_⟩
 replace hS := back3 (hS.pull 1)
 replace hS := back2 (hS.pull 1)
 replace hS := back1 (hS.pull 1)
 replace hS := back0 (hS.pull 1)
 replace q0p : RepL (RpI .i64) ρ q18.1 q1j := RepL.flat (fun h => h) q0p
 have e_ := St.vec_n (hS.pull 5) q0p; subst e_
 refine p (yl_move rfl) <| p (yl_extract rfl rfl) <| p (yl_extract rfl rfl) <| p (yl_assign rfl) <|
  p (yl_assign rfl) <| x_done <| x_seq <| x_region <|
  pa (v := .agg #[.int .i64 q2.1.W, .int .i64 q2.1.H, .int .i64 q2.1.Layers, .int .i64 q2.1.Nets, .slice A84 q0u.length c84, .slice (adOf (Ep4 30)) q0a.length (capOf (Ep4 30)), .slice q3 q2.1.Pins.length c_y0_ret_6_2_1, .slice q4 q2.1.Walls.length c_y0_ret_7_2_1]) (ld_sub agg_31 q2h rfl rfl (hS.pull 8)) <| p (yl_move rfl) <| ?_
 have q_ := St.lend ((hS.pull 1).pull 9) hr84; obtain ⟨ρl0, hll0, hlf0, hS0, back0⟩ := q_
 have q_ := St.lend (hS0.pull 9) (q0x.le hll0); obtain ⟨ρl1, hll1, hlf1, hS1, back1⟩ := q_
 have q_ := St.lend (hS1.pull 3) (q0e.le (hll0.trans hll1)); obtain ⟨ρl2, hll2, hlf2, hS2, back2⟩ := q_
 have q_ := St.lend (hS2.pull 3) (q0f.le ((hll0.trans hll1).trans hll2)); obtain ⟨ρl3, hll3, hlf3, hS3, back3⟩ := q_
 have hcall := c_extract_Elmore (nbd_c hF) (hlf0.le ((hll1.trans hll2).trans hll3)) (hlf1.le (hll2.trans hll3)) (hlf2.le hll3) hlf3 hS3
 refine o_cc call_10 (args3 rfl rfl rfl) hcall ?_
 rintro e w' ⟨q19, hF, q1m, q22, c_y0_ret_27_2, q1k, rfl, q0q, hS⟩
 refine ⟨_, rfl, ?_⟩
 replace hS := back3 (hS.pull 1)
 replace hS := back2 (hS.pull 1)
 replace hS := back1 (hS.pull 1)
 replace hS := back0 (hS.pull 1)
 replace q0q : RepL (RpI .i64) ρ q19.1 q1k := RepL.flat (fun h => h) q0q
 have e_ := St.vec_n (hS.pull 5) q0q; subst e_
 replace hF := nbd_s hF; obtain ⟨q2s, q2j, hF⟩ := hF
 refine p (yl_move rfl) <| p (yl_extract rfl rfl) <| p (yl_extract rfl rfl) <| p (yl_assign rfl) <|
  p (yl_assign rfl) <| x_done <| x_seq <| x_region <|
  p (yl_move rfl) <| p (yl_move rfl) <| p (yl_eql rfl rfl) <| p (yl_move rfl) <|
  pg (v := .slice q1l q18.1.length c_y0_ret_26_2) 136 (c := decide (q18.2 = q19.2)) (says_t _) (fun hq => Yl.at (yl_move rfl)) <| pg (v := .slice q1m q19.1.length c_y0_ret_27_2) 136 (c := decide (q18.2 = q19.2)) (says_t _) (fun hq => Yl.at (yl_move rfl)) <|
  pccg (v := .bool q2s) 136 (c := decide (q18.2 = q19.2)) (says_t _) call_19 (fun hq => (args2 (cv hq) (cv hq))) hS (fun hq => by
   have q_ := St.lend ((hS.pull 1).pull 8) q0p; obtain ⟨ρl0, hll0, hlf0, hS0, back0⟩ := q_
   have q_ := St.lend (hS0.pull 5) (q0q.le hll0); obtain ⟨ρl1, hll1, hlf1, hS1, back1⟩ := q_
   have hcall := c_slices_Equal_int_int (gd_t q2j hq) (hlf0.le hll1) hlf1 hS1
   exact (Calls.mono hcall (fun e w'' h => And.intro h.1 (((((((((((((back0 ((back1 h.2).pull 1)).pull 11).pull 11).pull 11).pull 3).pull 11).pull 11).pull 7).pull 11).pull 11).pull 11).pull 10).pull 11)))) (fun w' hS => ?_)
 replace hF := nlv_s hF; obtain ⟨x140, hx140, hF⟩ := hF
 refine p (yand' rfl (fun hc => (cv hc)) rfl hx140) <| p (yl_assign rfl) <| x_done <| ?_
 exact x_return ⟨_, ⟨_, _, rfl, rfl, rfl⟩, x140, hF, rfl, (((((((((((hS.drop.pull 1).drop.pull 1).drop.pull 1).drop.pull 1).drop.pull 1).drop.pull 1).drop.pull 1).drop.pull 1).drop.pull 1).drop.pull 1).drop)⟩
attribute [irreducible] P_maskkeep4_ExtractOrder


end Go.Proofs.Ytnnmbmgnpdcefaa.X
