/- Printed by gen.py: plain functions, and that the Go code computes them. -/
import Derived.Test.YtgmjhlpjlggpiaaDoorXI
import Derived.Test.YtgmjhlpjlggpiaaDoorYZ
import Derived.Test.YtgmjhlpjlggpiaaDoorYN
import Derived.Test.YtgmjhlpjlggpiaaDoorXT
import Derived.Test.YtgmjhlpjlggpiaaDoorGAp0
import Derived.Test.YtgmjhlpjlggpiaaDoorGAp1
namespace Go.Proofs.YtgmjhlpjlggpiaaDoor.X
set_option maxHeartbeats 4000000
set_option maxRecDepth 100000
open Go Go.RowKit
set_option linter.unusedVariables false
set_option linter.unusedSimpArgs false

def P_global_Route_L6 (f0 : T_floor_Floor) (q4 : List T_global_Edge) : (Int × List (T_global_Edge × Int)) → Nd ((Int × List (T_global_Edge × Int)) ⊕ List (T_global_Edge × Int)) := fun (q2, q3) =>
 if q2 < (q4.length : Int) then
  nck (inb q2 q4.length) <|
  nlv (gt q4 q2) fun q5 =>
  nbd (nof (P_global_Room f0 q5)) fun q6 =>
  nlv (mput q5 q6 q3) fun q7 =>
  nar (q2 + 1) fun x48 =>
  nret (Sum.inl (x48, q7))
 else
  nret (Sum.inr q3)
def P_global_Route_L19 (q5 : List T_global_Edge) : (Int × List (T_global_Edge × Int)) → Nd ((Int × List (T_global_Edge × Int)) ⊕ List (T_global_Edge × Int)) := fun (q3, q2) =>
 if q3 < (q5.length : Int) then
  nck (inb q3 q5.length) <|
  nlv (gt q5 q3) fun q4 =>
  nlv (mget q4 q2 0) fun x87 =>
  nar (x87 - 1) fun x88 =>
  nlv (mget q4 q2 0) fun x89 =>
  nlv (mput q4 x89 q2) fun q6 =>
  nlv (mput q4 x88 q6) fun q7 =>
  nar (q3 + 1) fun x91 =>
  nret (Sum.inl (x91, q7))
 else
  nret (Sum.inr q2)
def P_global_Route_L25 (q5 : List T_global_Edge) : (Int × List (T_global_Edge × Int)) → Nd ((Int × List (T_global_Edge × Int)) ⊕ List (T_global_Edge × Int)) := fun (q3, q2) =>
 if q3 < (q5.length : Int) then
  nck (inb q3 q5.length) <|
  nlv (gt q5 q3) fun q4 =>
  nlv (mget q4 q2 0) fun x112 =>
  nar (x112 + 1) fun x113 =>
  nlv (mget q4 q2 0) fun x114 =>
  nlv (mput q4 x114 q2) fun q6 =>
  nlv (mput q4 x113 q6) fun q7 =>
  nar (q3 + 1) fun x116 =>
  nret (Sum.inl (x116, q7))
 else
  nret (Sum.inr q2)
def P_global_Route_L15 (f0 : T_floor_Floor) (nets1 : List T_legal_Net) (q8 : List (T_global_Edge × Int)) (q5 : Int) (q6 : List (T_global_Edge × Int)) : (List (List T_global_Edge) × Int × List (T_global_Edge × Int)) → Nd ((List (List T_global_Edge) × Int × List (T_global_Edge × Int)) ⊕ (List (List T_global_Edge) × List (T_global_Edge × Int))) := fun (q3, q2, q4) =>
 if q2 < (nets1.length : Int) then
  nbd (
   nck (inb q2 nets1.length) <|
   nlv (gt nets1 q2) fun q0d =>
   nck ((decide (0 < q5)) = true → inb q2 q3.length) <|
   nlv (gt q3 q2) fun q0e =>
   nbd (nof (gd (decide (0 < q5)) (P_global_plan_crowded f0.Rows f0.Sites f0.Layers f0.Blocks f0.Walls f0.Ports q8 q4 q6 q0e))) fun q0f =>
   nlv ((decide (0 < q5)) && (!q0f)) fun x72 =>
   if x72 = true then
    nret (q3, q4)
   else
    nck (inb q2 q3.length) <|
    nlv (gt q3 q2) fun q0g =>
    nbd (
     nlp (P_global_Route_L19 q0g) fuel (0, q4)) fun q7 =>
    nbd (P_global_plan_way f0.Rows f0.Sites f0.Layers f0.Blocks f0.Walls f0.Ports q8 q7 q6 q0d) fun q0h =>
    nck (inb q2 q3.length) <|
    nlv (stt q3 q2 q0h) fun q9 =>
    nck (inb q2 q9.length) <|
    nlv (gt q9 q2) fun q0i =>
    nbd (
     nlp (P_global_Route_L25 q0i) fuel (0, q7)) fun q0a =>
    nret (q9, q0a)) fun (q0b, q0c) =>
  nar (q2 + 1) fun x117 =>
  nret (Sum.inl (q0b, x117, q0c))
 else
  nret (Sum.inr (q3, q4))
def P_global_Route_L32 (q8 : List (T_global_Edge × Int)) (q4 : List (T_global_Edge × Int)) : (Bool × List Nat × List (T_global_Edge × Int)) → Nd ((Bool × List Nat × List (T_global_Edge × Int)) ⊕ (Bool × List (T_global_Edge × Int))) := fun (q3, q5, q2) =>
 nnx (q4.length) q5 (
  nret (Sum.inr (q3, q2))) fun i123 =>
 nlv (gt q4 i123) fun e125 =>
 nlv (mget e125.1 q8 0) fun x134 =>
 nbd (
  if x134 < e125.2 then
   nlv (mget e125.1 q2 0) fun x141 =>
   nar (x141 + 1) fun x142 =>
   nlv (mget e125.1 q2 0) fun x143 =>
   nlv (mput e125.1 x143 q2) fun q9 =>
   nlv (mput e125.1 x142 q9) fun q0a =>
   nret (false, q0a)
  else
   nret (q3, q2)) fun (q6, q7) =>
 nret (Sum.inl (q6, (q5 ++ [i123]), q7))
def P_global_Route_L12 (f0 : T_floor_Floor) (nets1 : List T_legal_Net) (q6 : List (T_global_Edge × Int)) : (List (List T_global_Edge) × Int × List (T_global_Edge × Int) × List (T_global_Edge × Int)) → Nd ((List (List T_global_Edge) × Int × List (T_global_Edge × Int) × List (T_global_Edge × Int)) ⊕ (Unit ⊕ (List (List T_global_Edge) × Int))) := fun (q7, q2, q8, q3) =>
 if q2 < 12 then
  nbd (
   nlp (P_global_Route_L15 f0 nets1 q6 q2 q3) fuel (q7, 0, q8)) fun (q4, q5) =>
  nbd (
   nlp (P_global_Route_L32 q6 q5) fuel (true, [], q3)) fun (q9, q0a) =>
  if q9 = true then
   nret (Sum.inr (Sum.inr (q4, (0 : Int))))
  else
   nar (q2 + 1) fun x147 =>
   nret (Sum.inl (q4, x147, q5, q0a))
 else
  nret (Sum.inr (Sum.inl ()))
def P_global_Route (f0 : T_floor_Floor) (nets1 : List T_legal_Net) : Nd (List (List T_global_Edge) × Int) :=
 nbd (nof (P_global_checkNets f0 nets1)) fun q3 =>
 if q3 ≠ 0 then
  nret ([], q3)
 else
  nbd (nof (P_global_Edges f0)) fun q5 =>
  nbd (
   nlp (P_global_Route_L6 f0 q5) fuel (0, [])) fun q2 =>
  nck (mkOk 24 (nets1.length : Int)) <|
  nlv ((List.replicate ((nets1.length : Int) : Int).toNat [] : List (List T_global_Edge))) fun q4 =>
  nbs (
   nlp (P_global_Route_L12 f0 nets1 q2) fuel (q4, 0, [], [])) (fun y => nret y) fun _ =>
  nret ([], (14 : Int))
theorem c_global_Route {w0 w : World} {l : List Assn} {ρ : Heap} {q4 : Option Addr} {q4k : Nat} {c_f0_3 : Nat} {q5 : Option Addr} {q4l : Nat} {c_f0_4 : Nat} {q6 : Option Addr} {q4m : Nat} {c_f0_5 : Nat} {q0b : Option Addr} {q42 : Nat} {c_nets1 : Nat} {f0 : T_floor_Floor} {nets1 : List T_legal_Net} {Q : (List (List T_global_Edge) × Int) → Prop} (hF : P_global_Route f0 nets1 Q) (q1l : RdS R_floor_Block ρ q4 q4k c_f0_3 f0.Blocks) (q1m : RdS R_floor_Wall ρ q5 q4l c_f0_4 f0.Walls) (q1n : RdS R_floor_Port ρ q6 q4m c_f0_5 f0.Ports) (q1y : RdS R_legal_Net ρ q0b q42 c_nets1 nets1) (hS : St w0 w (ro ρ :: l)) :
  Calls Tryd.prog 7 #[.agg #[.int .i64 f0.Rows, .int .i64 f0.Sites, .int .i64 f0.Layers, .slice q4 q4k c_f0_3, .slice q5 q4l c_f0_4, .slice q6 q4m c_f0_5], .slice q0b q42 c_nets1] w fun e w' => ∃ r : (List (List T_global_Edge) × Int), Q r ∧ ∃ (ρ' : Heap) (q3b : Option Addr) (q2m : Nat) (c_y0_ret : Nat) (q34 : List Value), e = .returned (.tuple #[.slice q3b q2m c_y0_ret, .int .i64 r.2]) ∧ Le ρ ρ' ∧ RepL (RpSl R_global_Edge) ρ' r.1 q34 ∧ St w0 w' (vec 51 (RpSl R_global_Edge).sz (.slice q3b q2m c_y0_ret) q2m q34 :: ro ρ' :: l) := by
 have e_ := q1l.n; subst e_
 have e_ := q1m.n; subst e_
 have e_ := q1n.n; subst e_
 have e_ := q1y.n; subst e_
 refine enterC Tryd.func7 rfl 148 rfl (by simp) ?_
 refine x_seq <| x_region <| ?_
 refine o_box (cs := [.int .i64 f0.Rows, .int .i64 f0.Sites, .int .i64 f0.Layers, .slice q4 f0.Blocks.length c_f0_3, .slice q5 f0.Walls.length c_f0_4, .slice q6 f0.Ports.length c_f0_5]) rfl rfl hS (fun b2 w' hS => ?_)
 replace hF := nbd_s hF; obtain ⟨q2w, q71, hF⟩ := hF
 refine p (yl_assign rfl) <| p (yl_assign rfl) <| x_done <| x_seq <|
  x_seq <| x_region <| pa (v := .agg #[.int .i64 f0.Rows, .int .i64 f0.Sites, .int .i64 f0.Layers, .slice q4 f0.Blocks.length c_f0_3, .slice q5 f0.Walls.length c_f0_4, .slice q6 f0.Ports.length c_f0_5]) (ld_sub agg_30 rfl rfl rfl hS) <| p (yl_move rfl) <| ?_
 have hcall := c_global_checkNets q71 q1l q1m q1n q1y (hS.pull 1)
 refine o_cc call_20 (args2 rfl rfl) ((Calls.mono hcall (fun e w'' h => And.intro h.1 (h.2.pull 1)))) ?_
 rintro e w' ⟨rfl, hS⟩
 refine ⟨_, rfl, ?_⟩
 refine p (v := .int .i64 q2w) (yl_assign rfl) <| x_done <| x_seq <| x_region <|
  p (v := .int .i64 q2w) (yl_move rfl) <| p (yl_neq rfl rfl) <| x_done <|
  x_cond_p (q2w ≠ 0) rfl (fun hc25 => ?_) (fun hc25 => ?_)
 ·replace hF := nit_t hc25 hF
  refine x_seq <| x_region <| p (v := .int .i64 q2w) (yl_move rfl) <| p (yl_assign rfl) <|
   p (v := .int .i64 q2w) (yl_assign rfl) <| x_done <| ?_
  replace hS := St.vec_nil hS 51 (RpSl R_global_Edge).sz
  have q14 : RepL (RpSl R_global_Edge) ρ [] [] := rfl
  exact x_return ⟨_, ⟨_, _, rfl, rfl, _, _, rfl, rfl, rfl⟩, ([], q2w), hF, ρ, none, 0, 0, [], rfl, (Le.refl _), q14, (((hS.pull 1).drop.pull 1).pull 1)⟩
 ·replace hF := nit_f hc25 hF
  refine x_skip <| x_seq <| x_region <| pa (v := .agg #[.int .i64 f0.Rows, .int .i64 f0.Sites, .int .i64 f0.Layers, .slice q4 f0.Blocks.length c_f0_3, .slice q5 f0.Walls.length c_f0_4, .slice q6 f0.Ports.length c_f0_5]) (ld_sub agg_30 rfl rfl rfl hS) <| ?_
  refine o_mkmap (κ := T_global_Edge) (α := Int) kf_53 (Value.int .i64) hS (fun b28 w' hS => ?_)
  refine o_mkmap (κ := T_global_Edge) (α := Int) kf_53 (Value.int .i64) hS (fun b29 w' hS => ?_)
  refine o_mkmap (κ := T_global_Edge) (α := Int) kf_53 (Value.int .i64) hS (fun b30 w' hS => ?_)
  refine p (v := .agg #[.int .i64 f0.Rows, .int .i64 f0.Sites, .int .i64 f0.Layers, .slice q4 f0.Blocks.length c_f0_3, .slice q5 f0.Walls.length c_f0_4, .slice q6 f0.Ports.length c_f0_5, .map (some b28), .map (some b29), .map (some b30)]) (yl_build bld_73 bldf_73 (parts_eq (pt (va := .agg #[.int .i64 f0.Rows, .int .i64 f0.Sites, .int .i64 f0.Layers, .slice q4 f0.Blocks.length c_f0_3, .slice q5 f0.Walls.length c_f0_4, .slice q6 f0.Ports.length c_f0_5]) rfl (pt (va := .map (some b28)) rfl (pt (va := .map (some b29)) rfl (pt (va := .map (some b30)) rfl pt0))))) (by kernel_rfl)) <| ?_
  refine o_box (cs := [.int .i64 f0.Rows, .int .i64 f0.Sites, .int .i64 f0.Layers, .slice q4 f0.Blocks.length c_f0_3, .slice q5 f0.Walls.length c_f0_4, .slice q6 f0.Ports.length c_f0_5, .map (some b28), .map (some b29), .map (some b30)]) rfl rfl hS (fun b32 w' hS => ?_)
  replace hF := nbd_s hF; obtain ⟨q2x, q72, hF⟩ := hF
  refine p (yl_assign rfl) <| x_done <| x_seq <| x_seq <|
   x_region <| pa (v := .agg #[.int .i64 f0.Rows, .int .i64 f0.Sites, .int .i64 f0.Layers, .slice q4 f0.Blocks.length c_f0_3, .slice q5 f0.Walls.length c_f0_4, .slice q6 f0.Ports.length c_f0_5]) (ld_sub agg_30 rfl rfl rfl (hS.pull 4)) <| ?_
  have hcall := c_global_Edges q72 q1l q1m q1n (hS.pull 5)
  refine o_cc call_12 (args1 rfl) hcall ?_
  rintro e w' ⟨q1u, q61, c_y0_ret_5_1, q37, rfl, q1a, hS⟩
  refine ⟨_, rfl, ?_⟩
  have e_ := St.vec_n hS q1a; subst e_
  refine p (yl_len_slice usl_51 rfl) <| p (yl_move rfl) <| x_done <| ?_
  replace hF := nbd_j hF; obtain ⟨oL6, hLL6, hF⟩ := hF
  refine x_join (fun E w => ∃ (q7 : List (T_global_Edge × Int)), oL6 q7 ∧ E 1 = .slice q0b nets1.length c_nets1 ∧ E 7 = .pointer (some ⟨b32, 0, none⟩) ∧ St w0 w (cells b32 73 [.int .i64 f0.Rows, .int .i64 f0.Sites, .int .i64 f0.Layers, .slice q4 f0.Blocks.length c_f0_3, .slice q5 f0.Walls.length c_f0_4, .slice q6 f0.Ports.length c_f0_5, .map (some b28), .map (some b29), .map (some b30)] :: mapA b28 kf_53 (Value.int .i64) q7 :: mapA b29 kf_53 (Value.int .i64) [] :: mapA b30 kf_53 (Value.int .i64) [] :: ro ρ :: l)) ?_ ?_
  ·refine x_block ?_
   refine x_loop (fun k_ E w => ∃ (q1z : Int) (q1e : List (T_global_Edge × Int)), nlp (P_global_Route_L6 f0 q2x) k_ (q1z, q1e) oL6 ∧ E 1 = .slice q0b nets1.length c_nets1 ∧ E 2 = .pointer (some ⟨b2, 0, none⟩) ∧ E 7 = .pointer (some ⟨b32, 0, none⟩) ∧ E 34 = .slice q1u q2x.length c_y0_ret_5_1 ∧ E 35 = .int .i64 (q2x.length : Int) ∧ E 36 = .int .i64 q1z ∧ St w0 w (cells b2 30 [.int .i64 f0.Rows, .int .i64 f0.Sites, .int .i64 f0.Layers, .slice q4 f0.Blocks.length c_f0_3, .slice q5 f0.Walls.length c_f0_4, .slice q6 f0.Ports.length c_f0_5] :: cells b32 73 [.int .i64 f0.Rows, .int .i64 f0.Sites, .int .i64 f0.Layers, .slice q4 f0.Blocks.length c_f0_3, .slice q5 f0.Walls.length c_f0_4, .slice q6 f0.Ports.length c_f0_5, .map (some b28), .map (some b29), .map (some b30)] :: vec 53 R_global_Edge.sz (.slice q1u q2x.length c_y0_ret_5_1) q2x.length q37 :: mapA b28 kf_53 (Value.int .i64) q1e :: mapA b29 kf_53 (Value.int .i64) [] :: mapA b30 kf_53 (Value.int .i64) [] :: ro ρ :: l)) fuel ⟨0, [], hLL6, rfl, rfl, rfl, rfl, rfl, rfl, (((((((hS.pull 1).pull 3).pull 4).pull 5).pull 4).pull 5).pull 6)⟩ ?_
   rintro kL6 E w ⟨q1z, q1e, hLL6, q4n, q4o, q3c, q43, q44, q2y, hS⟩
   replace hLL6 := nlp_s hLL6; obtain ⟨kL6, obL6, rfl, hFL6, hLL6⟩ := hLL6
   refine x_seq <| x_region <| p (yl_lss q2y q44) <| x_done <|
    x_seq <|
    x_cond_p (q1z < (q2x.length : Int)) rfl (fun hc37 => ?_) (fun hc37 => ?_)
   ·replace hFL6 := nit_t hc37 hFL6
    replace hFL6 := nck_s hFL6; obtain ⟨q5a, hFL6⟩ := hFL6
    replace hFL6 := nlv_s hFL6; obtain ⟨q1p, q73, hFL6⟩ := hFL6
    have q_ := q1a.get q5a; obtain ⟨q7q, q5b, q74⟩ := q_
    rw [← q73] at q5b
    have e_ := q5b; subst e_
    refine x_skip <| x_seq <| x_block <| x_seq <|
     x_region <| p (yix_o sl_51 q43 q2y (hS.pull 2) q1a q5a) <| pa (v := .agg #[.int .i64 q1p.From, .int .i64 q1p.To]) (at_loadAgg agg_53 rfl rfl (EltV.every q74 (hS.pull 2))) <| ?_
    refine o_alloc zero_53 hS (fun b9 w' hS => ?_)
    refine o_storeAgg (news := [.int .i64 q1p.From, .int .i64 q1p.To]) agg_53 rfl rfl rfl (by simp [over_length]) hS (fun w' hS => ?_)
    replace hFL6 := nbd_s hFL6; obtain ⟨q62, q75, hFL6⟩ := hFL6
    refine x_done <| x_head 8 mixed (by kernel_rfl) hS _ _ rfl rfl <| q (yl_move q3c) <| q (yl_nilCheck rfl) <|
     q (yl_field0 fld_73_1 rfl) <| qa (fun w' hS => at_load one_71 rfl ((hS.pull 2).cell rfl)) <| qa (v := .agg #[.int .i64 q1p.From, .int .i64 q1p.To]) (fun w' hS => ld_sub agg_53 rfl rfl rfl hS) <| qa (v := .agg #[.int .i64 f0.Rows, .int .i64 f0.Sites, .int .i64 f0.Layers, .slice q4 f0.Blocks.length c_f0_3, .slice q5 f0.Walls.length c_f0_4, .slice q6 f0.Ports.length c_f0_5]) (fun w' hS => ld_sub agg_30 q4o rfl rfl (hS.pull 1)) <|
     qa (v := .agg #[.int .i64 q1p.From, .int .i64 q1p.To]) (fun w' hS => ld_sub agg_53 rfl rfl rfl hS) <| qcc (v := .int .i64 q62) call_14 (args2 rfl rfl) (fun w' hS => by
      have hcall := c_global_Room q75 q1l q1m q1n (hS.pull 7)
      exact (Calls.mono hcall (fun e w'' h => And.intro h.1 (((((((h.2.pull 7).pull 7).pull 7).pull 7).pull 7).pull 7).pull 7)))) <|
     q_done fun w' hS => ?_
    replace hFL6 := nlv_s hFL6; obtain ⟨q7i, q76, hFL6⟩ := hFL6
    refine o_mapset (k := q1p) (vf := (Value.int .i64)) (v := q62) um_71 kp_53 rfl rfl rfl (hS.pull 4) q76 (fun w' hS => ?_)
    replace hFL6 := nar_s hFL6; obtain ⟨x48, hx48, hFL6⟩ := hFL6
    refine x_done <| x_blk <| x_region <| p (yadd q2y rfl hx48) <|
     p (yl_move rfl) <| x_done <| ?_
    exact x_inv ⟨kL6, Nat.lt_succ_self _, x48, q7i, (hLL6 _ hFL6), q4n, q4o, q3c, q43, q44, rfl, ((((((((hS.pull 1).drop.pull 6).pull 6).pull 6).pull 3).pull 6).pull 6).pull 6)⟩
   ·replace hFL6 := nit_f hc37 hFL6
    refine x_exitTo _ rfl <| ?_
    exact x_inv ⟨q1e, (hLL6 _ hFL6), q4n, q3c, ((((((hS.drop.pull 1).drop.pull 4).pull 4).pull 4).pull 4).pull 4)⟩
  rintro E w ⟨q7, hq_, q5c, q77, hS⟩
  replace hF := hF _ hq_
  clear hq_
  refine x_seq <| x_region <| p (yl_move q5c) <| p (yl_len_slice usl_34 rfl) <| ?_
  replace hF := nck_s hF; obtain ⟨q63, hF⟩ := hF
  replace hF := nlv_s hF; obtain ⟨q2, q64, hF⟩ := hF
  refine o_mk sl_43 zero_51 (show (RpSl R_global_Edge).ok ρ _ [] from ⟨_, _, _, rfl, (RdS.nil (A := none) (c := 0))⟩) rfl rfl q63 (by decide) q64 hS (fun A51 cs51 w' hr51 hS => ?_)
  refine p (yl_assign rfl) <| x_done <| x_seq <| x_seq <|
   x_region <| p (yl_move rfl) <| x_done <| ?_
  replace hF := nbs_j hF; obtain ⟨oL12, hLL12, hF⟩ := hF
  refine x_join (fun E w => oL12 (Sum.inl ()) ∧ St w0 w (ro ρ :: l)) ?_ ?_
  ·refine x_block ?_
   refine x_loop (fun k_ E w => ∃ (q1b : Heap) (q0s : List Value) (q11 : List (List T_global_Edge)) (q3 : Int) (q15 : List (T_global_Edge × Int)) (q0c : List (T_global_Edge × Int)), nlp (P_global_Route_L12 f0 nets1 q7) k_ (q11, q3, q15, q0c) oL12 ∧ Le ρ q1b ∧ E 1 = .slice q0b nets1.length c_nets1 ∧ E 7 = .pointer (some ⟨b32, 0, none⟩) ∧ E 10 = .slice A51 q2.length q2.length ∧ E 52 = .int .i64 q3 ∧ RepL (RpSl R_global_Edge) q1b q11 q0s ∧ St w0 w (cells b32 73 [.int .i64 f0.Rows, .int .i64 f0.Sites, .int .i64 f0.Layers, .slice q4 f0.Blocks.length c_f0_3, .slice q5 f0.Walls.length c_f0_4, .slice q6 f0.Ports.length c_f0_5, .map (some b28), .map (some b29), .map (some b30)] :: vec 51 (RpSl R_global_Edge).sz (.slice A51 q2.length q2.length) q2.length q0s :: mapA b28 kf_53 (Value.int .i64) q7 :: mapA b29 kf_53 (Value.int .i64) q15 :: mapA b30 kf_53 (Value.int .i64) q0c :: ro q1b :: l)) fuel ⟨ρ, cs51, q2, 0, [], [], hLL12, (Le.refl _), q5c, q77, rfl, rfl, hr51, ((((((hS.pull 5).pull 5).pull 5).pull 5).pull 4).pull 5)⟩ ?_
   rintro kL12 E w ⟨q1b, q0s, q11, q3, q15, q0c, hLL12, q0i, q45, q5f, q56, q2n, q38, hS⟩
   replace hLL12 := nlp_s hLL12; obtain ⟨kL12, obL12, rfl, hFL12, hLL12⟩ := hLL12
   refine x_seq <| x_region <| p (yl_lss q2n rfl) <| x_done <|
    x_seq <|
    x_cond_p (q3 < 12) rfl (fun hc53 => ?_) (fun hc53 => ?_)
   ·replace hFL12 := nit_t hc53 hFL12
    refine x_skip <| x_seq <| x_block <| x_seq <|
     x_region <| p (yl_move q2n) <| p (yl_assign rfl) <| x_done <|
     x_seq <| x_seq <| x_region <| p (yl_move q45) <|
     p (yl_len_slice usl_34 rfl) <| p (yl_move rfl) <| x_done <| ?_
    replace hFL12 := nbd_j hFL12; obtain ⟨oL15, hLL15, hFL12⟩ := hFL12
    refine x_join (fun E w => ∃ (q12 : Heap) (q0f : List Value) (q0z : List (List T_global_Edge)) (q0j : List (T_global_Edge × Int)), oL15 (q0z, q0j) ∧ Le q1b q12 ∧ E 1 = .slice q0b nets1.length c_nets1 ∧ E 7 = .pointer (some ⟨b32, 0, none⟩) ∧ E 10 = .slice A51 q2.length q2.length ∧ E 52 = .int .i64 q3 ∧ RepL (RpSl R_global_Edge) q12 q0z q0f ∧ St w0 w (cells b32 73 [.int .i64 f0.Rows, .int .i64 f0.Sites, .int .i64 f0.Layers, .slice q4 f0.Blocks.length c_f0_3, .slice q5 f0.Walls.length c_f0_4, .slice q6 f0.Ports.length c_f0_5, .map (some b28), .map (some b29), .map (some b30)] :: vec 51 (RpSl R_global_Edge).sz (.slice A51 q2.length q2.length) q2.length q0f :: mapA b28 kf_53 (Value.int .i64) q7 :: mapA b29 kf_53 (Value.int .i64) q0j :: mapA b30 kf_53 (Value.int .i64) q0c :: ro q12 :: l)) ?_ ?_
    ·refine x_block ?_
     refine x_loop (fun k_ E w => ∃ (q0u : Heap) (q0g : List Value) (q0v : List (List T_global_Edge)) (q0h : Int) (q0t : List (T_global_Edge × Int)), nlp (P_global_Route_L15 f0 nets1 q7 q3 q0c) k_ (q0v, q0h, q0t) oL15 ∧ Le q1b q0u ∧ E 1 = .slice q0b nets1.length c_nets1 ∧ E 7 = .pointer (some ⟨b32, 0, none⟩) ∧ E 10 = .slice A51 q2.length q2.length ∧ E 11 = .int .i64 q3 ∧ E 52 = .int .i64 q3 ∧ E 55 = .slice q0b nets1.length c_nets1 ∧ E 56 = .int .i64 (nets1.length : Int) ∧ E 57 = .int .i64 q0h ∧ RepL (RpSl R_global_Edge) q0u q0v q0g ∧ St w0 w (cells b32 73 [.int .i64 f0.Rows, .int .i64 f0.Sites, .int .i64 f0.Layers, .slice q4 f0.Blocks.length c_f0_3, .slice q5 f0.Walls.length c_f0_4, .slice q6 f0.Ports.length c_f0_5, .map (some b28), .map (some b29), .map (some b30)] :: vec 51 (RpSl R_global_Edge).sz (.slice A51 q2.length q2.length) q2.length q0g :: mapA b28 kf_53 (Value.int .i64) q7 :: mapA b29 kf_53 (Value.int .i64) q0t :: mapA b30 kf_53 (Value.int .i64) q0c :: ro q0u :: l)) fuel ⟨q1b, q0s, q11, 0, q15, hLL15, (Le.refl _), q45, q5f, q56, rfl, q2n, rfl, rfl, rfl, q38, ((((((hS.pull 5).pull 5).pull 5).pull 5).pull 5).pull 5)⟩ ?_
     rintro kL15 E w ⟨q0u, q0g, q0v, q0h, q0t, hLL15, q0l, q2z, q20, q1c, q2o, q2p, q2q, q2r, q1d, q0k, hS⟩
     replace hLL15 := nlp_s hLL15; obtain ⟨kL15, obL15, rfl, hFL15, hLL15⟩ := hLL15
     refine x_seq <| x_region <| p (yl_lss q1d q2r) <| x_done <|
      x_seq <|
      x_cond_p (q0h < (nets1.length : Int)) rfl (fun hc58 => ?_) (fun hc58 => ?_)
     ·replace hFL15 := nit_t hc58 hFL15
      refine x_skip <| x_seq <| ?_
      replace hFL15 := nbd_j hFL15; obtain ⟨ob5, hFb5, hFL15⟩ := hFL15
      refine x_join (fun E w => ∃ (q3d : Heap) (q10 : List Value) (q1f : List (List T_global_Edge)) (q1q : List (T_global_Edge × Int)), ob5 (q1f, q1q) ∧ Le q0u q3d ∧ E 1 = .slice q0b nets1.length c_nets1 ∧ E 7 = .pointer (some ⟨b32, 0, none⟩) ∧ E 10 = .slice A51 q2.length q2.length ∧ E 11 = .int .i64 q3 ∧ E 52 = .int .i64 q3 ∧ E 55 = .slice q0b nets1.length c_nets1 ∧ E 56 = .int .i64 (nets1.length : Int) ∧ E 57 = .int .i64 q0h ∧ RepL (RpSl R_global_Edge) q3d q1f q10 ∧ St w0 w (cells b32 73 [.int .i64 f0.Rows, .int .i64 f0.Sites, .int .i64 f0.Layers, .slice q4 f0.Blocks.length c_f0_3, .slice q5 f0.Walls.length c_f0_4, .slice q6 f0.Ports.length c_f0_5, .map (some b28), .map (some b29), .map (some b30)] :: vec 51 (RpSl R_global_Edge).sz (.slice A51 q2.length q2.length) q2.length q10 :: mapA b28 kf_53 (Value.int .i64) q7 :: mapA b29 kf_53 (Value.int .i64) q1q :: mapA b30 kf_53 (Value.int .i64) q0c :: ro q3d :: l)) ?_ ?_
      ·replace hFb5 := nck_s hFb5; obtain ⟨q4p, hFb5⟩ := hFb5
       replace hFb5 := nlv_s hFb5; obtain ⟨q0x, q65, hFb5⟩ := hFb5
       have q_ := q1y.get q4p; obtain ⟨q7k, q4q, q66⟩ := q_
       rw [← q65] at q4q
       obtain ⟨q18, q7j, q19, rfl, q46⟩ := q4q
       have e_ := q46.n; subst e_
       refine x_block <| x_seq <| x_region <| p (yl_move q1d) <|
        p (yix_f sl_34 q2q q1d (q1y.le (q0i.trans q0l)) q4p) <| pa (v := .agg #[.string q0x.Name, .slice q18 q0x.Pins.length q19]) (at_loadAgg agg_38 rfl rfl (Elt.every (Elt.le q66 (q0i.trans q0l)) (hS.pull 5))) <| ?_
       refine o_alloc zero_38 hS (fun b13 w' hS => ?_)
       refine p (yl_assign rfl) <| ?_
       refine o_storeAgg (news := [.string q0x.Name, .slice q18 q0x.Pins.length q19]) agg_38 rfl rfl rfl (by simp [over_length]) hS (fun w' hS => ?_)
       replace hFb5 := nck_s hFb5; obtain ⟨q4r, hFb5⟩ := hFb5
       replace hFb5 := nlv_s hFb5; obtain ⟨q78, q67, hFb5⟩ := hFb5
       have q_ := RepL.getD sl_d q0k q0h; obtain ⟨q7l, q4s, q68⟩ := q_
       rw [← q67] at q4s
       obtain ⟨q79, q7r, q7a, rfl, q5d⟩ := q4s
       have e_ := q5d.n; subst e_
       replace hFb5 := nbd_s hFb5; obtain ⟨q5e, q69, hFb5⟩ := hFb5
       refine x_done <| x_seq <| x_seq <| x_region <|
        p (yl_move q2o) <| p (yl_gtr rfl rfl) <| p (yl_move rfl) <| pg (v := .pointer (some ⟨b32, 0, none⟩)) 64 (c := decide (0 < q3)) (says_t _) (fun hq => Yl.at (yl_move q20)) <|
        pg (v := .slice A51 q2.length q2.length) 64 (c := decide (0 < q3)) (says_t _) (fun hq => Yl.at (yl_move q1c)) <| pg (v := .int .i64 q0h) 64 (c := decide (0 < q3)) (says_t _) (fun hq => Yl.at (yl_move rfl)) <| pg (v := .pointer (some ((adr A51).add (q0h.toNat * (RpSl R_global_Edge).sz)))) 64 (c := decide (0 < q3)) (says_t _) (fun hq => Yl.at (yix_o sl_43 (cv hq) (cv hq) (hS.pull 2) q0k (q4r hq))) <| pg (v := .slice q79 q78.length q7a) 64 (c := decide (0 < q3)) (says_t _) (fun hq => at_load one_51 (cv hq) (EltV.ld (m := 0) (q68 (q4r hq)) (hS.pull 2) rfl)) <|
        pccg (v := .bool q5e) 64 (c := decide (0 < q3)) (says_t _) call_21 (fun hq => (args2 (cv hq) (cv hq))) hS (fun hq => by
         have hcall := c_global_plan_crowded (gd_t q69 hq) (q1l.le (q0i.trans q0l)) (q1m.le (q0i.trans q0l)) (q1n.le (q0i.trans q0l)) q5d (((((hS.pull 6).pull 6).pull 6).pull 6).pull 5)
         exact (Calls.mono hcall (fun e w'' h => And.intro h.1 (((((((h.2.pull 4).pull 4).pull 4).pull 4).pull 6).pull 5).pull 6)))) (fun w' hS => ?_)
       replace hFb5 := nlv_s hFb5; obtain ⟨x72, hx72, hFb5⟩ := hFb5
       refine pg (v := .bool (!q5e)) 64 (c := decide (0 < q3)) (says_t _) (fun hq => Yl.at (yl_not (cv hq))) <| p (yand' rfl (fun hc => (cv hc)) rfl hx72) <| x_done <|
        x_cond (t := x72) rfl (fun hc72 => ?_) (fun hc72 => ?_)
       ·replace hFb5 := nit_t hc72 hFb5
        refine x_exitTo _ rfl <| ?_
        exact x_inv ⟨q0u, q0g, q0v, q0t, hFb5, (Le.refl _), q2z, q20, q1c, q2o, q2p, q2q, q2r, q1d, q0k, ((((((hS.drop.pull 5).pull 5).pull 5).pull 5).pull 5).pull 5)⟩
       ·replace hFb5 := nit_bf hc72 hFb5
        replace hFb5 := nck_s hFb5; obtain ⟨q4t, hFb5⟩ := hFb5
        replace hFb5 := nlv_s hFb5; obtain ⟨q39, q6a, hFb5⟩ := hFb5
        have q_ := q0k.get q4t; obtain ⟨q7m, q4u, q6b⟩ := q_
        rw [← q6a] at q4u
        obtain ⟨q7b, q7s, q7c, rfl, q4b⟩ := q4u
        have e_ := q4b.n; subst e_
        refine x_skip <| x_seq <| x_seq <| x_region <|
         p (yl_move q1c) <| p (yl_move rfl) <| p (yix_o sl_43 rfl rfl (hS.pull 2) q0k q4t) <| pa (at_load one_51 rfl (EltV.ld (m := 0) q6b (hS.pull 2) rfl)) <|
         p (yl_len_slice usl_51 rfl) <| p (yl_move rfl) <| x_done <| ?_
        replace hFb5 := nbd_j hFb5; obtain ⟨oL19, hLL19, hFb5⟩ := hFb5
        refine x_join (fun E w => ∃ (q1g : List (T_global_Edge × Int)), oL19 q1g ∧ E 1 = .slice q0b nets1.length c_nets1 ∧ E 7 = .pointer (some ⟨b32, 0, none⟩) ∧ E 10 = .slice A51 q2.length q2.length ∧ E 11 = .int .i64 q3 ∧ E 12 = .int .i64 q0h ∧ E 13 = .pointer (some ⟨b13, 0, none⟩) ∧ E 52 = .int .i64 q3 ∧ E 55 = .slice q0b nets1.length c_nets1 ∧ E 56 = .int .i64 (nets1.length : Int) ∧ E 57 = .int .i64 q0h ∧ St w0 w (cells b32 73 [.int .i64 f0.Rows, .int .i64 f0.Sites, .int .i64 f0.Layers, .slice q4 f0.Blocks.length c_f0_3, .slice q5 f0.Walls.length c_f0_4, .slice q6 f0.Ports.length c_f0_5, .map (some b28), .map (some b29), .map (some b30)] :: vec 51 (RpSl R_global_Edge).sz (.slice A51 q2.length q2.length) q2.length q0g :: cells b13 38 [.string q0x.Name, .slice q18 q0x.Pins.length q19] :: mapA b28 kf_53 (Value.int .i64) q7 :: mapA b29 kf_53 (Value.int .i64) q1g :: mapA b30 kf_53 (Value.int .i64) q0c :: ro q0u :: l)) ?_ ?_
        ·refine x_block ?_
         refine x_loop (fun k_ E w => ∃ (q1r : Int) (q0d : List (T_global_Edge × Int)), nlp (P_global_Route_L19 q39) k_ (q1r, q0d) oL19 ∧ E 1 = .slice q0b nets1.length c_nets1 ∧ E 7 = .pointer (some ⟨b32, 0, none⟩) ∧ E 10 = .slice A51 q2.length q2.length ∧ E 11 = .int .i64 q3 ∧ E 12 = .int .i64 q0h ∧ E 13 = .pointer (some ⟨b13, 0, none⟩) ∧ E 52 = .int .i64 q3 ∧ E 55 = .slice q0b nets1.length c_nets1 ∧ E 56 = .int .i64 (nets1.length : Int) ∧ E 57 = .int .i64 q0h ∧ E 76 = .slice q7b q39.length q7c ∧ E 77 = .int .i64 (q39.length : Int) ∧ E 78 = .int .i64 q1r ∧ St w0 w (cells b32 73 [.int .i64 f0.Rows, .int .i64 f0.Sites, .int .i64 f0.Layers, .slice q4 f0.Blocks.length c_f0_3, .slice q5 f0.Walls.length c_f0_4, .slice q6 f0.Ports.length c_f0_5, .map (some b28), .map (some b29), .map (some b30)] :: vec 51 (RpSl R_global_Edge).sz (.slice A51 q2.length q2.length) q2.length q0g :: cells b13 38 [.string q0x.Name, .slice q18 q0x.Pins.length q19] :: mapA b28 kf_53 (Value.int .i64) q7 :: mapA b29 kf_53 (Value.int .i64) q0d :: mapA b30 kf_53 (Value.int .i64) q0c :: ro q0u :: l)) fuel ⟨0, q0t, hLL19, q2z, q20, q1c, q2o, rfl, rfl, q2p, q2q, q2r, q1d, rfl, rfl, rfl, (((((((hS.pull 6).pull 6).pull 6).pull 6).pull 4).pull 6).pull 6)⟩ ?_
         rintro kL19 E w ⟨q1r, q0d, hLL19, q47, q30, q3e, q3f, q3g, q3h, q3i, q3j, q3k, q3l, q3m, q3n, q2s, hS⟩
         replace hLL19 := nlp_s hLL19; obtain ⟨kL19, obL19, rfl, hFL19, hLL19⟩ := hLL19
         refine x_seq <| x_region <| p (yl_lss q2s q3n) <| x_done <|
          x_seq <|
          x_cond_p (q1r < (q39.length : Int)) rfl (fun hc79 => ?_) (fun hc79 => ?_)
         ·replace hFL19 := nit_t hc79 hFL19
          replace hFL19 := nck_s hFL19; obtain ⟨q4v, hFL19⟩ := hFL19
          replace hFL19 := nlv_s hFL19; obtain ⟨q8, q6c, hFL19⟩ := hFL19
          have q_ := q4b.get q4v; obtain ⟨q7n, q4w, q6d⟩ := q_
          rw [← q6c] at q4w
          have e_ := q4w; subst e_
          refine x_skip <| x_seq <| x_block <| x_seq <|
           x_region <| p (yix_f sl_51 q3m q2s q4b q4v) <| pa (v := .agg #[.int .i64 q8.From, .int .i64 q8.To]) (at_loadAgg agg_53 rfl rfl (Elt.every q6d (hS.pull 6))) <| ?_
          refine o_alloc zero_53 hS (fun b15 w' hS => ?_)
          refine o_storeAgg (news := [.int .i64 q8.From, .int .i64 q8.To]) agg_53 rfl rfl rfl (by simp [over_length]) hS (fun w' hS => ?_)
          refine x_done <| ?_
          replace hFL19 := nlv_s hFL19; obtain ⟨x87, hx87, hFL19⟩ := hFL19
          replace hFL19 := nar_s hFL19; obtain ⟨x88, hx88, hFL19⟩ := hFL19
          replace hFL19 := nlv_s hFL19; obtain ⟨x89, hx89, hFL19⟩ := hFL19
          replace hFL19 := nlv_s hFL19; obtain ⟨q4c, q3o, hFL19⟩ := hFL19
          replace hFL19 := nlv_s hFL19; obtain ⟨q4d, q6e, hFL19⟩ := hFL19
          refine x_par (w0 := w0) [⟨[], [], [82], [], [], [], none⟩, ⟨[0], [0], [83], [], [], [], none⟩, ⟨[0, 1], [1], [84], [], [], [], none⟩, ⟨[0, 1, 2], [2], [85], [0], [], [], none⟩, ⟨[], [], [86], [1], [], [], none⟩, ⟨[0, 1, 2, 3, 4], [3, 4], [87], [], [], [], some (2, 3)⟩, ⟨[0, 1, 2, 3, 4, 5], [5], [88], [], [], [], none⟩, ⟨[0, 1, 2, 3, 4], [3, 4], [89], [], [2], [3], none⟩, ⟨[0, 1, 2, 3, 4, 7], [7], [90], [], [], [], none⟩, ⟨[0, 1, 2, 3, 4, 5, 6, 7, 8], [3, 6, 8], [], [], [3], [4], none⟩] [⟨none, none, []⟩, ⟨none, none, []⟩, ⟨none, (some 7), []⟩, ⟨(some 7), (some 9), []⟩, ⟨(some 9), none, []⟩] [82, 83, 84, 85, 86, 87, 88, 89, 90] [0, 1, 2] [0, 1, 4] [0, 1, 2, 3, 4, 5, 6, 7, 8] [fun Ep21 => Ep21 82 = .pointer (some ⟨b32, 0, none⟩), fun Ep21 => Ep21 83 = .pointer (some ⟨b32, 0, none⟩), fun Ep21 => Ep21 84 = .pointer (some ⟨b32, 7, none⟩), fun Ep21 => Ep21 85 = .map (some b29), fun Ep21 => Ep21 86 = .agg #[.int .i64 q8.From, .int .i64 q8.To], fun Ep21 => Ep21 87 = .int .i64 x87, fun Ep21 => Ep21 88 = .int .i64 x88, fun Ep21 => Ep21 89 = .tuple #[.int .i64 x89, .int .i64 ((mpos q8 q0d : Nat) : Int)], fun Ep21 => Ep21 90 = .int .i64 ((mpos q8 q0d : Nat) : Int), fun Ep21 => True] [fun Ep21 => cells b32 73 [.int .i64 f0.Rows, .int .i64 f0.Sites, .int .i64 f0.Layers, .slice q4 f0.Blocks.length c_f0_3, .slice q5 f0.Walls.length c_f0_4, .slice q6 f0.Ports.length c_f0_5, .map (some b28), .map (some b29), .map (some b30)], fun Ep21 => cells b15 53 [.int .i64 q8.From, .int .i64 q8.To], fun Ep21 => mapA b29 kf_53 (Value.int .i64) q0d, fun Ep21 => mapA b29 kf_53 (Value.int .i64) q4c, fun Ep21 => mapA b29 kf_53 (Value.int .i64) q4d] mixed (by kernel_rfl) (((hS.pull 5).pull 1).pull 2) ?_ ?_
          ·refine ⟨?_, ?_, ?_, ?_, ?_, ?_, ?_, ?_, ?_, ?_, trivial⟩
           ·intro Ep21 w l' hE21 hO21 hF_ hS
            refine p (yl_move ((hE21 7 rfl).trans q30)) <| x_done <| ?_
            refine x_fin ⟨⟨_, rfl⟩, rfl, ?_⟩
            exact emk hS
           ·intro Ep21 w l' hE21 hO21 hF_ hS
            obtain ⟨q21, -⟩ := hF_
            replace q21 : Ep21 82 = .pointer (some ⟨b32, 0, none⟩) := emk q21
            refine p (yl_nilCheck q21) <| x_done <| ?_
            refine x_fin ⟨⟨_, rfl⟩, rfl, ?_⟩
            exact emk hS
           ·intro Ep21 w l' hE21 hO21 hF_ hS
            obtain ⟨q22, -⟩ := hF_
            replace q22 : Ep21 83 = .pointer (some ⟨b32, 0, none⟩) := emk q22
            refine p (yl_field0 fld_73_2 q22) <| x_done <| ?_
            refine x_fin ⟨⟨_, rfl⟩, rfl, ?_⟩
            exact emk hS
           ·intro Ep21 w l' hE21 hO21 hF_ hS
            obtain ⟨q23, -⟩ := hF_
            replace q23 : Ep21 84 = .pointer (some ⟨b32, 7, none⟩) := emk q23
            replace hS : St w0 w (cells b32 73 [.int .i64 f0.Rows, .int .i64 f0.Sites, .int .i64 f0.Layers, .slice q4 f0.Blocks.length c_f0_3, .slice q5 f0.Walls.length c_f0_4, .slice q6 f0.Ports.length c_f0_5, .map (some b28), .map (some b29), .map (some b30)] :: l') := emk hS
            refine pa (at_load one_71 q23 (hS.cell rfl)) <| x_done <| ?_
            refine x_fin ⟨⟨_, rfl⟩, rfl, ?_⟩
            exact emk hS
           ·intro Ep21 w l' hE21 hO21 hF_ hS
            replace hS : St w0 w (cells b15 53 [.int .i64 q8.From, .int .i64 q8.To] :: l') := emk hS
            refine pa (v := .agg #[.int .i64 q8.From, .int .i64 q8.To]) (ld_sub agg_53 (hE21 15 rfl) rfl rfl hS) <| x_done <| ?_
            refine x_fin ⟨⟨_, rfl⟩, rfl, ?_⟩
            exact emk hS
           ·refine ⟨?_, ?_⟩
            ·intro Ep21 w l' hE21 hO21 hF_ hS
             obtain ⟨q0m, q0p, -⟩ := hF_
             replace q0m : Ep21 85 = .map (some b29) := emk q0m
             replace q0p : Ep21 86 = .agg #[.int .i64 q8.From, .int .i64 q8.To] := emk q0p
             replace hS : St w0 w (mapA b29 kf_53 (Value.int .i64) q0d :: l') := emk hS
             refine pa (at_look (k := q8) um_71 kp_53 (zero1 zv_3) q0m q0p hS hx87) <| x_done <| ?_
             refine x_fin ⟨⟨_, rfl⟩, rfl, ?_⟩
             exact emk hS
            ·intro Ep21 w l' hE21 hO21 hF_ hS
             obtain ⟨q0m, q0p, -⟩ := hF_
             replace q0m : Ep21 85 = .map (some b29) := emk q0m
             replace q0p : Ep21 86 = .agg #[.int .i64 q8.From, .int .i64 q8.To] := emk q0p
             replace hS : St w0 w (mapA b29 kf_53 (Value.int .i64) q4c :: l') := emk hS
             refine pa (at_look (k := q8) um_71 kp_53 (zero1 zv_3) q0m q0p hS (hx87.trans (mget_ent q3o hx89).symm)) <| x_done <| ?_
             refine x_fin ⟨⟨_, rfl⟩, rfl, ?_⟩
             exact emk hS
           ·intro Ep21 w l' hE21 hO21 hF_ hS
            obtain ⟨q24, -⟩ := hF_
            replace q24 : Ep21 87 = .int .i64 x87 := emk q24
            refine p (ysub q24 rfl hx88) <| x_done <| ?_
            refine x_fin ⟨⟨_, rfl⟩, rfl, ?_⟩
            exact emk hS
           ·intro Ep21 w l' hE21 hO21 hF_ hS
            obtain ⟨q0m, q0p, -⟩ := hF_
            replace q0m : Ep21 85 = .map (some b29) := emk q0m
            replace q0p : Ep21 86 = .agg #[.int .i64 q8.From, .int .i64 q8.To] := emk q0p
            replace hS : St w0 w (mapA b29 kf_53 (Value.int .i64) q0d :: l') := emk hS
            refine o_mapEntry (k := q8) (vf := (Value.int .i64)) um_71 kp_53 (zero1 zv_3) q0m q0p hS hx89 q3o (fun w' hS => ?_)
            refine x_done <| ?_
            refine x_fin ⟨⟨_, rfl⟩, rfl, ?_⟩
            exact emk hS
           ·intro Ep21 w l' hE21 hO21 hF_ hS
            obtain ⟨q25, -⟩ := hF_
            replace q25 : Ep21 89 = .tuple #[.int .i64 x89, .int .i64 ((mpos q8 q0d : Nat) : Int)] := emk q25
            refine p (yl_extract q25 rfl) <| x_done <| ?_
            refine x_fin ⟨⟨_, rfl⟩, rfl, ?_⟩
            exact emk hS
           ·intro Ep21 w l' hE21 hO21 hF_ hS
            obtain ⟨q0m, q26, q27, -⟩ := hF_
            replace q0m : Ep21 85 = .map (some b29) := emk q0m
            replace q26 : Ep21 88 = .int .i64 x88 := emk q26
            replace q27 : Ep21 90 = .int .i64 ((mpos q8 q0d : Nat) : Int) := emk q27
            replace hS : St w0 w (mapA b29 kf_53 (Value.int .i64) q4c :: l') := emk hS
            refine o_entryStore (k := q8) (es := q0d) (v0 := x89) (vf := (Value.int .i64)) (v := x88) q0m q27 q26 rfl q3o hS q6e (fun w' hS => ?_)
            refine x_done <| ?_
            refine x_fin ⟨⟨undef, rfl⟩, trivial, ?_⟩
            exact emk hS
          intro Ep21 w' hE21 hF_ hS
          obtain ⟨q21, q22, q23, q0m, q0p, q24, q26, q25, q27, -⟩ := hF_
          replace q21 : Ep21 82 = .pointer (some ⟨b32, 0, none⟩) := emk q21
          replace q22 : Ep21 83 = .pointer (some ⟨b32, 0, none⟩) := emk q22
          replace q23 : Ep21 84 = .pointer (some ⟨b32, 7, none⟩) := emk q23
          replace q0m : Ep21 85 = .map (some b29) := emk q0m
          replace q0p : Ep21 86 = .agg #[.int .i64 q8.From, .int .i64 q8.To] := emk q0p
          replace q24 : Ep21 87 = .int .i64 x87 := emk q24
          replace q26 : Ep21 88 = .int .i64 x88 := emk q26
          replace q25 : Ep21 89 = .tuple #[.int .i64 x89, .int .i64 ((mpos q8 q0d : Nat) : Int)] := emk q25
          replace q27 : Ep21 90 = .int .i64 ((mpos q8 q0d : Nat) : Int) := emk q27
          replace hS : St w0 w' (cells b32 73 [.int .i64 f0.Rows, .int .i64 f0.Sites, .int .i64 f0.Layers, .slice q4 f0.Blocks.length c_f0_3, .slice q5 f0.Walls.length c_f0_4, .slice q6 f0.Ports.length c_f0_5, .map (some b28), .map (some b29), .map (some b30)] :: cells b15 53 [.int .i64 q8.From, .int .i64 q8.To] :: mapA b29 kf_53 (Value.int .i64) q4d :: (vec 51 (RpSl R_global_Edge).sz (.slice A51 q2.length q2.length) q2.length q0g :: cells b13 38 [.string q0x.Name, .slice q18 q0x.Pins.length q19] :: mapA b28 kf_53 (Value.int .i64) q7 :: mapA b30 kf_53 (Value.int .i64) q0c :: ro q0u :: l)) := emk hS
          replace hFL19 := nar_s hFL19; obtain ⟨x91, hx91, hFL19⟩ := hFL19
          refine x_blk <| x_region <| p (yadd ((hE21 78 rfl).trans q2s) rfl hx91) <| p (yl_move rfl) <|
           x_done <| ?_
          exact x_inv ⟨kL19, Nat.lt_succ_self _, x91, q4d, (hLL19 _ hFL19), ((hE21 1 rfl).trans q47), ((hE21 7 rfl).trans q30), ((hE21 10 rfl).trans q3e), ((hE21 11 rfl).trans q3f), ((hE21 12 rfl).trans q3g), ((hE21 13 rfl).trans q3h), ((hE21 52 rfl).trans q3i), ((hE21 55 rfl).trans q3j), ((hE21 56 rfl).trans q3k), ((hE21 57 rfl).trans q3l), ((hE21 76 rfl).trans q3m), ((hE21 77 rfl).trans q3n), rfl, ((((((((hS.pull 1).drop.pull 6).pull 6).pull 3).pull 6).pull 6).pull 6).pull 6)⟩
         ·replace hFL19 := nit_f hc79 hFL19
          refine x_exitTo _ rfl <| ?_
          exact x_inv ⟨q0d, (hLL19 _ hFL19), q47, q30, q3e, q3f, q3g, q3h, q3i, q3j, q3k, q3l, (((((((hS.pull 6).pull 6).pull 6).pull 6).pull 6).pull 6).pull 6)⟩
        rintro E w ⟨q1g, hq_, q6f, q4x, q31, q5g, q48, q5h, q5i, q5j, q5k, q5l, hS⟩
        replace hFb5 := hFb5 _ hq_
        clear hq_
        refine x_seq <| x_region <| p (yl_move q31) <| p (yl_move q48) <|
         p (yl_move q4x) <| pa (v := .agg #[.string q0x.Name, .slice q18 q0x.Pins.length q19]) (ld_sub agg_38 q5h rfl rfl (hS.pull 2)) <| ?_
        have hcall := c_global_plan_way (nbd_c hFb5) (q1l.le (q0i.trans q0l)) (q1m.le (q0i.trans q0l)) (q1n.le (q0i.trans q0l)) (q46.le (q0i.trans q0l)) (((((hS.pull 6).pull 6).pull 6).pull 6).pull 4)
        refine o_cc call_22 (args2 rfl rfl) hcall ?_
        rintro e w' ⟨q4e, hFb5, q1s, q60, c_y0_ret_23_4, q5m, rfl, q1t, hS⟩
        refine ⟨_, rfl, ?_⟩
        have e_ := St.vec_n hS q1t; subst e_
        replace hFb5 := nck_s hFb5; obtain ⟨q4y, hFb5⟩ := hFb5
        refine p (yix_o sl_43 rfl rfl (hS.pull 6) q0k q4y) <| ?_
        have q_ := St.vec_fz ((hS.pull 5).pull 1) q1t; obtain ⟨q1v, q3p, q6g, hS⟩ := q_
        replace hFb5 := nlv_s hFb5; obtain ⟨q7d, q6h, hFb5⟩ := hFb5
        refine o_put' (news := [.slice q1s q4e.length c_y0_ret_23_4]) sz_51 rfl rfl rfl rfl (o := 0) rfl q4y rfl (hS.pull 5) q0k q3p (fun c hc => ok_all hc (show (RpSl R_global_Edge).ok q1v [.slice q1s q4e.length c_y0_ret_23_4] q4e from ⟨_, _, _, rfl, q6g⟩)) q6h (fun q2v w' q3q hS => ?_)
        replace hFb5 := nck_s hFb5; obtain ⟨q4z, hFb5⟩ := hFb5
        replace hFb5 := nlv_s hFb5; obtain ⟨q3a, q6i, hFb5⟩ := hFb5
        have q_ := q3q.get q4z; obtain ⟨q7o, q50, q6j⟩ := q_
        rw [← q6i] at q50
        obtain ⟨q7e, q7t, q7f, rfl, q4f⟩ := q50
        have e_ := q4f.n; subst e_
        refine x_done <| x_seq <| x_region <| p (yl_move q31) <|
         p (yl_move q48) <| p (yix_o sl_43 rfl rfl hS q3q q4z) <| pa (at_load one_51 rfl (EltV.ld (m := 0) q6j hS rfl)) <| p (yl_len_slice usl_51 rfl) <|
         p (yl_move rfl) <| x_done <| ?_
        replace hFb5 := nbd_j hFb5; obtain ⟨oL25, hLL25, hFb5⟩ := hFb5
        refine x_join (fun E w => ∃ (q1h : List (T_global_Edge × Int)), oL25 q1h ∧ E 1 = .slice q0b nets1.length c_nets1 ∧ E 7 = .pointer (some ⟨b32, 0, none⟩) ∧ E 10 = .slice A51 q2.length q2.length ∧ E 11 = .int .i64 q3 ∧ E 52 = .int .i64 q3 ∧ E 55 = .slice q0b nets1.length c_nets1 ∧ E 56 = .int .i64 (nets1.length : Int) ∧ E 57 = .int .i64 q0h ∧ St w0 w (cells b32 73 [.int .i64 f0.Rows, .int .i64 f0.Sites, .int .i64 f0.Layers, .slice q4 f0.Blocks.length c_f0_3, .slice q5 f0.Walls.length c_f0_4, .slice q6 f0.Ports.length c_f0_5, .map (some b28), .map (some b29), .map (some b30)] :: vec 51 (RpSl R_global_Edge).sz (.slice A51 q2.length q2.length) q2.length q2v :: mapA b28 kf_53 (Value.int .i64) q7 :: mapA b29 kf_53 (Value.int .i64) q1h :: mapA b30 kf_53 (Value.int .i64) q0c :: ro q1v :: l)) ?_ ?_
        ·refine x_block ?_
         refine x_loop (fun k_ E w => ∃ (q1i : Int) (q0e : List (T_global_Edge × Int)), nlp (P_global_Route_L25 q3a) k_ (q1i, q0e) oL25 ∧ E 1 = .slice q0b nets1.length c_nets1 ∧ E 7 = .pointer (some ⟨b32, 0, none⟩) ∧ E 10 = .slice A51 q2.length q2.length ∧ E 11 = .int .i64 q3 ∧ E 52 = .int .i64 q3 ∧ E 55 = .slice q0b nets1.length c_nets1 ∧ E 56 = .int .i64 (nets1.length : Int) ∧ E 57 = .int .i64 q0h ∧ E 101 = .slice q7e q3a.length q7f ∧ E 102 = .int .i64 (q3a.length : Int) ∧ E 103 = .int .i64 q1i ∧ St w0 w (cells b32 73 [.int .i64 f0.Rows, .int .i64 f0.Sites, .int .i64 f0.Layers, .slice q4 f0.Blocks.length c_f0_3, .slice q5 f0.Walls.length c_f0_4, .slice q6 f0.Ports.length c_f0_5, .map (some b28), .map (some b29), .map (some b30)] :: vec 51 (RpSl R_global_Edge).sz (.slice A51 q2.length q2.length) q2.length q2v :: mapA b28 kf_53 (Value.int .i64) q7 :: mapA b29 kf_53 (Value.int .i64) q0e :: mapA b30 kf_53 (Value.int .i64) q0c :: ro q1v :: l)) fuel ⟨0, q1g, hLL25, q6f, q4x, q31, q5g, q5i, q5j, q5k, q5l, rfl, rfl, rfl, (((((((hS.pull 6).drop.pull 1).pull 5).pull 5).pull 5).pull 4).pull 5)⟩ ?_
         rintro kL25 E w ⟨q1i, q0e, hLL25, q49, q32, q3r, q3s, q3t, q3u, q3v, q3w, q35, q36, q1w, hS⟩
         replace hLL25 := nlp_s hLL25; obtain ⟨kL25, obL25, rfl, hFL25, hLL25⟩ := hLL25
         refine x_seq <| x_region <| p (yl_lss q1w q36) <| x_done <|
          x_seq <|
          x_cond_p (q1i < (q3a.length : Int)) rfl (fun hc104 => ?_) (fun hc104 => ?_)
         ·replace hFL25 := nit_t hc104 hFL25
          replace hFL25 := nck_s hFL25; obtain ⟨q51, hFL25⟩ := hFL25
          replace hFL25 := nlv_s hFL25; obtain ⟨q9, q6k, hFL25⟩ := hFL25
          have q_ := q4f.get q51; obtain ⟨q7p, q52, q6l⟩ := q_
          rw [← q6k] at q52
          have e_ := q52; subst e_
          refine x_skip <| x_seq <| x_block <| x_seq <|
           x_region <| p (yix_f sl_51 q35 q1w q4f q51) <| pa (v := .agg #[.int .i64 q9.From, .int .i64 q9.To]) (at_loadAgg agg_53 rfl rfl (Elt.every q6l (hS.pull 5))) <| ?_
          refine o_alloc zero_53 hS (fun b17 w' hS => ?_)
          refine o_storeAgg (news := [.int .i64 q9.From, .int .i64 q9.To]) agg_53 rfl rfl rfl (by simp [over_length]) hS (fun w' hS => ?_)
          refine x_done <| ?_
          replace hFL25 := nlv_s hFL25; obtain ⟨x112, hx112, hFL25⟩ := hFL25
          replace hFL25 := nar_s hFL25; obtain ⟨x113, hx113, hFL25⟩ := hFL25
          replace hFL25 := nlv_s hFL25; obtain ⟨x114, hx114, hFL25⟩ := hFL25
          replace hFL25 := nlv_s hFL25; obtain ⟨q4g, q3x, hFL25⟩ := hFL25
          replace hFL25 := nlv_s hFL25; obtain ⟨q4h, q6m, hFL25⟩ := hFL25
          refine x_par (w0 := w0) [⟨[], [], [107], [], [], [], none⟩, ⟨[0], [0], [108], [], [], [], none⟩, ⟨[0, 1], [1], [109], [], [], [], none⟩, ⟨[0, 1, 2], [2], [110], [0], [], [], none⟩, ⟨[], [], [111], [1], [], [], none⟩, ⟨[0, 1, 2, 3, 4], [3, 4], [112], [], [], [], some (2, 3)⟩, ⟨[0, 1, 2, 3, 4, 5], [5], [113], [], [], [], none⟩, ⟨[0, 1, 2, 3, 4], [3, 4], [114], [], [2], [3], none⟩, ⟨[0, 1, 2, 3, 4, 7], [7], [115], [], [], [], none⟩, ⟨[0, 1, 2, 3, 4, 5, 6, 7, 8], [3, 6, 8], [], [], [3], [4], none⟩] [⟨none, none, []⟩, ⟨none, none, []⟩, ⟨none, (some 7), []⟩, ⟨(some 7), (some 9), []⟩, ⟨(some 9), none, []⟩] [107, 108, 109, 110, 111, 112, 113, 114, 115] [0, 1, 2] [0, 1, 4] [0, 1, 2, 3, 4, 5, 6, 7, 8] [fun Ep27 => Ep27 107 = .pointer (some ⟨b32, 0, none⟩), fun Ep27 => Ep27 108 = .pointer (some ⟨b32, 0, none⟩), fun Ep27 => Ep27 109 = .pointer (some ⟨b32, 7, none⟩), fun Ep27 => Ep27 110 = .map (some b29), fun Ep27 => Ep27 111 = .agg #[.int .i64 q9.From, .int .i64 q9.To], fun Ep27 => Ep27 112 = .int .i64 x112, fun Ep27 => Ep27 113 = .int .i64 x113, fun Ep27 => Ep27 114 = .tuple #[.int .i64 x114, .int .i64 ((mpos q9 q0e : Nat) : Int)], fun Ep27 => Ep27 115 = .int .i64 ((mpos q9 q0e : Nat) : Int), fun Ep27 => True] [fun Ep27 => cells b32 73 [.int .i64 f0.Rows, .int .i64 f0.Sites, .int .i64 f0.Layers, .slice q4 f0.Blocks.length c_f0_3, .slice q5 f0.Walls.length c_f0_4, .slice q6 f0.Ports.length c_f0_5, .map (some b28), .map (some b29), .map (some b30)], fun Ep27 => cells b17 53 [.int .i64 q9.From, .int .i64 q9.To], fun Ep27 => mapA b29 kf_53 (Value.int .i64) q0e, fun Ep27 => mapA b29 kf_53 (Value.int .i64) q4g, fun Ep27 => mapA b29 kf_53 (Value.int .i64) q4h] mixed (by kernel_rfl) (((hS.pull 4).pull 1).pull 2) ?_ ?_
          ·refine ⟨?_, ?_, ?_, ?_, ?_, ?_, ?_, ?_, ?_, ?_, trivial⟩
           ·intro Ep27 w l' hE27 hO27 hF_ hS
            refine p (yl_move ((hE27 7 rfl).trans q32)) <| x_done <| ?_
            refine x_fin ⟨⟨_, rfl⟩, rfl, ?_⟩
            exact emk hS
           ·intro Ep27 w l' hE27 hO27 hF_ hS
            obtain ⟨q28, -⟩ := hF_
            replace q28 : Ep27 107 = .pointer (some ⟨b32, 0, none⟩) := emk q28
            refine p (yl_nilCheck q28) <| x_done <| ?_
            refine x_fin ⟨⟨_, rfl⟩, rfl, ?_⟩
            exact emk hS
           ·intro Ep27 w l' hE27 hO27 hF_ hS
            obtain ⟨q29, -⟩ := hF_
            replace q29 : Ep27 108 = .pointer (some ⟨b32, 0, none⟩) := emk q29
            refine p (yl_field0 fld_73_2 q29) <| x_done <| ?_
            refine x_fin ⟨⟨_, rfl⟩, rfl, ?_⟩
            exact emk hS
           ·intro Ep27 w l' hE27 hO27 hF_ hS
            obtain ⟨q2a, -⟩ := hF_
            replace q2a : Ep27 109 = .pointer (some ⟨b32, 7, none⟩) := emk q2a
            replace hS : St w0 w (cells b32 73 [.int .i64 f0.Rows, .int .i64 f0.Sites, .int .i64 f0.Layers, .slice q4 f0.Blocks.length c_f0_3, .slice q5 f0.Walls.length c_f0_4, .slice q6 f0.Ports.length c_f0_5, .map (some b28), .map (some b29), .map (some b30)] :: l') := emk hS
            refine pa (at_load one_71 q2a (hS.cell rfl)) <| x_done <| ?_
            refine x_fin ⟨⟨_, rfl⟩, rfl, ?_⟩
            exact emk hS
           ·intro Ep27 w l' hE27 hO27 hF_ hS
            replace hS : St w0 w (cells b17 53 [.int .i64 q9.From, .int .i64 q9.To] :: l') := emk hS
            refine pa (v := .agg #[.int .i64 q9.From, .int .i64 q9.To]) (ld_sub agg_53 (hE27 17 rfl) rfl rfl hS) <| x_done <| ?_
            refine x_fin ⟨⟨_, rfl⟩, rfl, ?_⟩
            exact emk hS
           ·refine ⟨?_, ?_⟩
            ·intro Ep27 w l' hE27 hO27 hF_ hS
             obtain ⟨q0n, q0q, -⟩ := hF_
             replace q0n : Ep27 110 = .map (some b29) := emk q0n
             replace q0q : Ep27 111 = .agg #[.int .i64 q9.From, .int .i64 q9.To] := emk q0q
             replace hS : St w0 w (mapA b29 kf_53 (Value.int .i64) q0e :: l') := emk hS
             refine pa (at_look (k := q9) um_71 kp_53 (zero1 zv_3) q0n q0q hS hx112) <| x_done <| ?_
             refine x_fin ⟨⟨_, rfl⟩, rfl, ?_⟩
             exact emk hS
            ·intro Ep27 w l' hE27 hO27 hF_ hS
             obtain ⟨q0n, q0q, -⟩ := hF_
             replace q0n : Ep27 110 = .map (some b29) := emk q0n
             replace q0q : Ep27 111 = .agg #[.int .i64 q9.From, .int .i64 q9.To] := emk q0q
             replace hS : St w0 w (mapA b29 kf_53 (Value.int .i64) q4g :: l') := emk hS
             refine pa (at_look (k := q9) um_71 kp_53 (zero1 zv_3) q0n q0q hS (hx112.trans (mget_ent q3x hx114).symm)) <| x_done <| ?_
             refine x_fin ⟨⟨_, rfl⟩, rfl, ?_⟩
             exact emk hS
           ·intro Ep27 w l' hE27 hO27 hF_ hS
            obtain ⟨q2b, -⟩ := hF_
            replace q2b : Ep27 112 = .int .i64 x112 := emk q2b
            refine p (yadd q2b rfl hx113) <| x_done <| ?_
            refine x_fin ⟨⟨_, rfl⟩, rfl, ?_⟩
            exact emk hS
           ·intro Ep27 w l' hE27 hO27 hF_ hS
            obtain ⟨q0n, q0q, -⟩ := hF_
            replace q0n : Ep27 110 = .map (some b29) := emk q0n
            replace q0q : Ep27 111 = .agg #[.int .i64 q9.From, .int .i64 q9.To] := emk q0q
            replace hS : St w0 w (mapA b29 kf_53 (Value.int .i64) q0e :: l') := emk hS
            refine o_mapEntry (k := q9) (vf := (Value.int .i64)) um_71 kp_53 (zero1 zv_3) q0n q0q hS hx114 q3x (fun w' hS => ?_)
            refine x_done <| ?_
            refine x_fin ⟨⟨_, rfl⟩, rfl, ?_⟩
            exact emk hS
           ·intro Ep27 w l' hE27 hO27 hF_ hS
            obtain ⟨q2c, -⟩ := hF_
            replace q2c : Ep27 114 = .tuple #[.int .i64 x114, .int .i64 ((mpos q9 q0e : Nat) : Int)] := emk q2c
            refine p (yl_extract q2c rfl) <| x_done <| ?_
            refine x_fin ⟨⟨_, rfl⟩, rfl, ?_⟩
            exact emk hS
           ·intro Ep27 w l' hE27 hO27 hF_ hS
            obtain ⟨q0n, q2d, q2e, -⟩ := hF_
            replace q0n : Ep27 110 = .map (some b29) := emk q0n
            replace q2d : Ep27 113 = .int .i64 x113 := emk q2d
            replace q2e : Ep27 115 = .int .i64 ((mpos q9 q0e : Nat) : Int) := emk q2e
            replace hS : St w0 w (mapA b29 kf_53 (Value.int .i64) q4g :: l') := emk hS
            refine o_entryStore (k := q9) (es := q0e) (v0 := x114) (vf := (Value.int .i64)) (v := x113) q0n q2e q2d rfl q3x hS q6m (fun w' hS => ?_)
            refine x_done <| ?_
            refine x_fin ⟨⟨undef, rfl⟩, trivial, ?_⟩
            exact emk hS
          intro Ep27 w' hE27 hF_ hS
          obtain ⟨q28, q29, q2a, q0n, q0q, q2b, q2d, q2c, q2e, -⟩ := hF_
          replace q28 : Ep27 107 = .pointer (some ⟨b32, 0, none⟩) := emk q28
          replace q29 : Ep27 108 = .pointer (some ⟨b32, 0, none⟩) := emk q29
          replace q2a : Ep27 109 = .pointer (some ⟨b32, 7, none⟩) := emk q2a
          replace q0n : Ep27 110 = .map (some b29) := emk q0n
          replace q0q : Ep27 111 = .agg #[.int .i64 q9.From, .int .i64 q9.To] := emk q0q
          replace q2b : Ep27 112 = .int .i64 x112 := emk q2b
          replace q2d : Ep27 113 = .int .i64 x113 := emk q2d
          replace q2c : Ep27 114 = .tuple #[.int .i64 x114, .int .i64 ((mpos q9 q0e : Nat) : Int)] := emk q2c
          replace q2e : Ep27 115 = .int .i64 ((mpos q9 q0e : Nat) : Int) := emk q2e
          replace hS : St w0 w' (cells b32 73 [.int .i64 f0.Rows, .int .i64 f0.Sites, .int .i64 f0.Layers, .slice q4 f0.Blocks.length c_f0_3, .slice q5 f0.Walls.length c_f0_4, .slice q6 f0.Ports.length c_f0_5, .map (some b28), .map (some b29), .map (some b30)] :: cells b17 53 [.int .i64 q9.From, .int .i64 q9.To] :: mapA b29 kf_53 (Value.int .i64) q4h :: (vec 51 (RpSl R_global_Edge).sz (.slice A51 q2.length q2.length) q2.length q2v :: mapA b28 kf_53 (Value.int .i64) q7 :: mapA b30 kf_53 (Value.int .i64) q0c :: ro q1v :: l)) := emk hS
          replace hFL25 := nar_s hFL25; obtain ⟨x116, hx116, hFL25⟩ := hFL25
          refine x_blk <| x_region <| p (yadd ((hE27 103 rfl).trans q1w) rfl hx116) <| p (yl_move rfl) <|
           x_done <| ?_
          exact x_inv ⟨kL25, Nat.lt_succ_self _, x116, q4h, (hLL25 _ hFL25), ((hE27 1 rfl).trans q49), ((hE27 7 rfl).trans q32), ((hE27 10 rfl).trans q3r), ((hE27 11 rfl).trans q3s), ((hE27 52 rfl).trans q3t), ((hE27 55 rfl).trans q3u), ((hE27 56 rfl).trans q3v), ((hE27 57 rfl).trans q3w), ((hE27 101 rfl).trans q35), ((hE27 102 rfl).trans q36), rfl, (((((((hS.pull 1).drop.pull 5).pull 5).pull 3).pull 5).pull 5).pull 5)⟩
         ·replace hFL25 := nit_f hc104 hFL25
          refine x_exitTo _ rfl <| ?_
          exact x_inv ⟨q0e, (hLL25 _ hFL25), q49, q32, q3r, q3s, q3t, q3u, q3v, q3w, ((((((hS.pull 5).pull 5).pull 5).pull 5).pull 5).pull 5)⟩
        rintro E w ⟨q1h, hq_, q6n, q6o, q5n, q5o, q5p, q5q, q5r, q5s, hS⟩
        replace hFb5 := hFb5 _ hq_
        clear hq_
        refine x_blk <| ?_
        exact x_inv ⟨q1v, q2v, q7d, q1h, hFb5, q3p, q6n, q6o, q5n, q5o, q5p, q5q, q5r, q5s, q3q, ((((((hS.pull 5).pull 5).pull 5).pull 5).pull 5).pull 5)⟩
      rintro E w ⟨q3d, q10, q1f, q1q, hq_, q5t, q7g, q7h, q6p, q6q, q6r, q6s, q6t, q6u, q41, hS⟩
      replace hFL15 := hFL15 _ hq_
      clear hq_
      replace hFL15 := nar_s hFL15; obtain ⟨x117, hx117, hFL15⟩ := hFL15
      refine x_region <| p (yadd q6u rfl hx117) <| p (yl_move rfl) <| x_done <| ?_
      exact x_inv ⟨kL15, Nat.lt_succ_self _, q3d, q10, q1f, x117, q1q, (hLL15 _ hFL15), (q0l.trans q5t), q7g, q7h, q6p, q6q, q6r, q6s, q6t, rfl, q41, ((((((hS.pull 5).pull 5).pull 5).pull 5).pull 5).pull 5)⟩
     ·replace hFL15 := nit_f hc58 hFL15
      refine x_exitTo _ rfl <| ?_
      exact x_inv ⟨q0u, q0g, q0v, q0t, (hLL15 _ hFL15), q0l, q2z, q20, q1c, q2p, q0k, ((((((hS.pull 5).pull 5).pull 5).pull 5).pull 5).pull 5)⟩
    rintro E w ⟨q12, q0f, q0z, q0j, hq_, q3y, q6v, q53, q5u, q5v, q1x, hS⟩
    replace hFL12 := hFL12 _ hq_
    clear hq_
    refine x_seq <| x_region <| p (yl_assign rfl) <| x_done <|
     x_seq <| x_seq <| x_region <| p (yl_move q53) <|
     p (yl_nilCheck rfl) <| p (yl_field0 fld_73_2 rfl) <| pa (at_load one_71 rfl (hS.cell rfl)) <| ?_
    refine o_range um_71 rfl (hS.pull 3) (fun b122 w' hS => ?_)
    refine x_done <| ?_
    replace hFL12 := nbd_j hFL12; obtain ⟨oL32, hLL32, hFL12⟩ := hFL12
    refine x_join (fun E w => ∃ (q16 : Bool) (q1j : List (T_global_Edge × Int)), oL32 (q16, q1j) ∧ E 1 = .slice q0b nets1.length c_nets1 ∧ E 7 = .pointer (some ⟨b32, 0, none⟩) ∧ E 10 = .slice A51 q2.length q2.length ∧ E 18 = .bool q16 ∧ E 52 = .int .i64 q3 ∧ St w0 w (cells b32 73 [.int .i64 f0.Rows, .int .i64 f0.Sites, .int .i64 f0.Layers, .slice q4 f0.Blocks.length c_f0_3, .slice q5 f0.Walls.length c_f0_4, .slice q6 f0.Ports.length c_f0_5, .map (some b28), .map (some b29), .map (some b30)] :: vec 51 (RpSl R_global_Edge).sz (.slice A51 q2.length q2.length) q2.length q0f :: mapA b28 kf_53 (Value.int .i64) q7 :: mapA b29 kf_53 (Value.int .i64) q0j :: mapA b30 kf_53 (Value.int .i64) q1j :: ro q12 :: l)) ?_ ?_
    ·refine x_block ?_
     refine x_loop (fun k_ E w => ∃ (q0w : Bool) (q0y : List Nat) (q0a : List (T_global_Edge × Int)), nlp (P_global_Route_L32 q7 q0j) k_ (q0w, q0y, q0a) oL32 ∧ E 1 = .slice q0b nets1.length c_nets1 ∧ E 7 = .pointer (some ⟨b32, 0, none⟩) ∧ E 10 = .slice A51 q2.length q2.length ∧ E 18 = .bool q0w ∧ E 52 = .int .i64 q3 ∧ E 122 = .pointer (some ⟨b122, 0, none⟩) ∧ St w0 w (cells b32 73 [.int .i64 f0.Rows, .int .i64 f0.Sites, .int .i64 f0.Layers, .slice q4 f0.Blocks.length c_f0_3, .slice q5 f0.Walls.length c_f0_4, .slice q6 f0.Ports.length c_f0_5, .map (some b28), .map (some b29), .map (some b30)] :: vec 51 (RpSl R_global_Edge).sz (.slice A51 q2.length q2.length) q2.length q0f :: mapA b29 kf_53 (Value.int .i64) q0j :: itA b122 b29 q0j.length q0y :: mapA b28 kf_53 (Value.int .i64) q7 :: mapA b30 kf_53 (Value.int .i64) q0a :: ro q12 :: l)) fuel ⟨true, [], q0c, hLL32, q6v, q53, q5u, rfl, q5v, rfl, (((((((hS.pull 6).pull 6).pull 6).pull 3).pull 4).pull 6).pull 6)⟩ ?_
     rintro kL32 E w ⟨q0w, q0y, q0a, hLL32, q33, q1o, q2t, q3z, q2u, q1k, hS⟩
     replace hLL32 := nlp_s hLL32; obtain ⟨kL32, obL32, rfl, hFL32, hLL32⟩ := hLL32
     refine x_seq <| x_region <|
      o_next q1k ((hS.pull 2).pull 3) (fun q6w w' hS => ?_) (fun i123 q54 q6x w' hS => ?_)
     ·replace hFL32 := nnx_a hFL32 q6w
      refine p (yl_extract rfl rfl) <| x_done <| x_seq <| x_cond_f (show ev _ _ = .bool false from rfl) <|
       x_exitTo _ rfl <| ?_
      exact x_inv ⟨q0w, q0a, (hLL32 _ hFL32), q33, q1o, q2t, q3z, q2u, ((((((hS.drop.pull 5).pull 5).pull 2).pull 5).pull 5).pull 5)⟩
     ·replace hFL32 := nnx_k hFL32 q54 q6x
      replace hFL32 := nlv_s hFL32; obtain ⟨e125, he125, hFL32⟩ := hFL32
      refine p (yl_extract rfl rfl) <| x_done <| x_seq <| x_cond_t (show ev _ _ = .bool true from rfl) <|
       x_skip <| x_block <| x_seq <| x_region <|
       pa (at_entry (kf := kf_53) (vf := (Value.int .i64)) q1k q54 ((hS.pull 1).pull 1) he125) <| p (yl_extract rfl rfl) <| p (yl_extract rfl rfl) <| ?_
      refine o_alloc zero_53 hS (fun b19 w' hS => ?_)
      refine o_storeAgg (news := [.int .i64 e125.1.From, .int .i64 e125.1.To]) agg_53 rfl rfl rfl (by simp [over_length]) hS (fun w' hS => ?_)
      replace hFL32 := nlv_s hFL32; obtain ⟨x134, hx134, hFL32⟩ := hFL32
      refine p (yl_assign rfl) <| x_done <| x_seq <| x_still mixed (by kernel_rfl) hS <|
       q (yl_move rfl) <| q (yl_move q1o) <| q (yl_nilCheck rfl) <| q (yl_field0 fld_73_1 rfl) <|
       qa (fun w' hS => at_load one_71 rfl ((hS.pull 3).cell rfl)) <| qa (v := .agg #[.int .i64 e125.1.From, .int .i64 e125.1.To]) (fun w' hS => ld_sub agg_53 rfl rfl rfl hS) <| qa (fun w' hS => at_look (k := e125.1) um_71 kp_53 (zero1 zv_3) rfl rfl (hS.pull 5) hx134) <| q (yl_gtr rfl rfl) <|
       q_done fun w' hS => ?_
      replace hFL32 := nbd_j hFL32; obtain ⟨oc135, hFc135, hFL32⟩ := hFL32
      refine x_join (fun E w => ∃ (q13 : Bool) (q17 : List (T_global_Edge × Int)), oc135 (q13, q17) ∧ E 1 = .slice q0b nets1.length c_nets1 ∧ E 7 = .pointer (some ⟨b32, 0, none⟩) ∧ E 10 = .slice A51 q2.length q2.length ∧ E 18 = .bool q13 ∧ E 52 = .int .i64 q3 ∧ E 122 = .pointer (some ⟨b122, 0, none⟩) ∧ St w0 w (cells b32 73 [.int .i64 f0.Rows, .int .i64 f0.Sites, .int .i64 f0.Layers, .slice q4 f0.Blocks.length c_f0_3, .slice q5 f0.Walls.length c_f0_4, .slice q6 f0.Ports.length c_f0_5, .map (some b28), .map (some b29), .map (some b30)] :: vec 51 (RpSl R_global_Edge).sz (.slice A51 q2.length q2.length) q2.length q0f :: mapA b29 kf_53 (Value.int .i64) q0j :: itA b122 b29 q0j.length (q0y ++ [i123]) :: mapA b28 kf_53 (Value.int .i64) q7 :: mapA b30 kf_53 (Value.int .i64) q17 :: ro q12 :: l)) ?_ ?_
      ·refine x_cond_p (x134 < e125.2) rfl (fun hc135 => ?_) (fun hc135 => ?_)
       ·replace hFc135 := nit_t hc135 hFc135
        refine x_seq <| ?_
        replace hFc135 := nlv_s hFc135; obtain ⟨x141, hx141, hFc135⟩ := hFc135
        replace hFc135 := nar_s hFc135; obtain ⟨x142, hx142, hFc135⟩ := hFc135
        replace hFc135 := nlv_s hFc135; obtain ⟨x143, hx143, hFc135⟩ := hFc135
        replace hFc135 := nlv_s hFc135; obtain ⟨q4i, q40, hFc135⟩ := hFc135
        replace hFc135 := nlv_s hFc135; obtain ⟨q4j, q6y, hFc135⟩ := hFc135
        refine x_par (w0 := w0) [⟨[], [], [136], [], [], [], none⟩, ⟨[0], [0], [137], [], [], [], none⟩, ⟨[0, 1], [1], [138], [], [], [], none⟩, ⟨[0, 1, 2], [2], [139], [0], [], [], none⟩, ⟨[], [], [140], [1], [], [], none⟩, ⟨[0, 1, 2, 3, 4], [3, 4], [141], [], [], [], some (2, 3)⟩, ⟨[0, 1, 2, 3, 4, 5], [5], [142], [], [], [], none⟩, ⟨[0, 1, 2, 3, 4], [3, 4], [143], [], [2], [3], none⟩, ⟨[0, 1, 2, 3, 4, 7], [7], [144], [], [], [], none⟩, ⟨[0, 1, 2, 3, 4, 5, 6, 7, 8], [3, 6, 8], [], [], [3], [4], none⟩] [⟨none, none, []⟩, ⟨none, none, []⟩, ⟨none, (some 7), []⟩, ⟨(some 7), (some 9), []⟩, ⟨(some 9), none, []⟩] [136, 137, 138, 139, 140, 141, 142, 143, 144] [0, 1, 2] [0, 1, 4] [0, 1, 2, 3, 4, 5, 6, 7, 8] [fun Ep35 => Ep35 136 = .pointer (some ⟨b32, 0, none⟩), fun Ep35 => Ep35 137 = .pointer (some ⟨b32, 0, none⟩), fun Ep35 => Ep35 138 = .pointer (some ⟨b32, 8, none⟩), fun Ep35 => Ep35 139 = .map (some b30), fun Ep35 => Ep35 140 = .agg #[.int .i64 e125.1.From, .int .i64 e125.1.To], fun Ep35 => Ep35 141 = .int .i64 x141, fun Ep35 => Ep35 142 = .int .i64 x142, fun Ep35 => Ep35 143 = .tuple #[.int .i64 x143, .int .i64 ((mpos e125.1 q0a : Nat) : Int)], fun Ep35 => Ep35 144 = .int .i64 ((mpos e125.1 q0a : Nat) : Int), fun Ep35 => True] [fun Ep35 => cells b32 73 [.int .i64 f0.Rows, .int .i64 f0.Sites, .int .i64 f0.Layers, .slice q4 f0.Blocks.length c_f0_3, .slice q5 f0.Walls.length c_f0_4, .slice q6 f0.Ports.length c_f0_5, .map (some b28), .map (some b29), .map (some b30)], fun Ep35 => cells b19 53 [.int .i64 e125.1.From, .int .i64 e125.1.To], fun Ep35 => mapA b30 kf_53 (Value.int .i64) q0a, fun Ep35 => mapA b30 kf_53 (Value.int .i64) q4i, fun Ep35 => mapA b30 kf_53 (Value.int .i64) q4j] mixed (by kernel_rfl) (((hS.pull 6).pull 1).pull 4) ?_ ?_
        ·refine ⟨?_, ?_, ?_, ?_, ?_, ?_, ?_, ?_, ?_, ?_, trivial⟩
         ·intro Ep35 w l' hE35 hO35 hF_ hS
          refine p (yl_move ((hE35 7 rfl).trans q1o)) <| x_done <| ?_
          refine x_fin ⟨⟨_, rfl⟩, rfl, ?_⟩
          exact emk hS
         ·intro Ep35 w l' hE35 hO35 hF_ hS
          obtain ⟨q2f, -⟩ := hF_
          replace q2f : Ep35 136 = .pointer (some ⟨b32, 0, none⟩) := emk q2f
          refine p (yl_nilCheck q2f) <| x_done <| ?_
          refine x_fin ⟨⟨_, rfl⟩, rfl, ?_⟩
          exact emk hS
         ·intro Ep35 w l' hE35 hO35 hF_ hS
          obtain ⟨q2g, -⟩ := hF_
          replace q2g : Ep35 137 = .pointer (some ⟨b32, 0, none⟩) := emk q2g
          refine p (yl_field0 fld_73_3 q2g) <| x_done <| ?_
          refine x_fin ⟨⟨_, rfl⟩, rfl, ?_⟩
          exact emk hS
         ·intro Ep35 w l' hE35 hO35 hF_ hS
          obtain ⟨q2h, -⟩ := hF_
          replace q2h : Ep35 138 = .pointer (some ⟨b32, 8, none⟩) := emk q2h
          replace hS : St w0 w (cells b32 73 [.int .i64 f0.Rows, .int .i64 f0.Sites, .int .i64 f0.Layers, .slice q4 f0.Blocks.length c_f0_3, .slice q5 f0.Walls.length c_f0_4, .slice q6 f0.Ports.length c_f0_5, .map (some b28), .map (some b29), .map (some b30)] :: l') := emk hS
          refine pa (at_load one_71 q2h (hS.cell rfl)) <| x_done <| ?_
          refine x_fin ⟨⟨_, rfl⟩, rfl, ?_⟩
          exact emk hS
         ·intro Ep35 w l' hE35 hO35 hF_ hS
          replace hS : St w0 w (cells b19 53 [.int .i64 e125.1.From, .int .i64 e125.1.To] :: l') := emk hS
          refine pa (v := .agg #[.int .i64 e125.1.From, .int .i64 e125.1.To]) (ld_sub agg_53 (hE35 19 rfl) rfl rfl hS) <| x_done <| ?_
          refine x_fin ⟨⟨_, rfl⟩, rfl, ?_⟩
          exact emk hS
         ·refine ⟨?_, ?_⟩
          ·intro Ep35 w l' hE35 hO35 hF_ hS
           obtain ⟨q0o, q0r, -⟩ := hF_
           replace q0o : Ep35 139 = .map (some b30) := emk q0o
           replace q0r : Ep35 140 = .agg #[.int .i64 e125.1.From, .int .i64 e125.1.To] := emk q0r
           replace hS : St w0 w (mapA b30 kf_53 (Value.int .i64) q0a :: l') := emk hS
           refine pa (at_look (k := e125.1) um_71 kp_53 (zero1 zv_3) q0o q0r hS hx141) <| x_done <| ?_
           refine x_fin ⟨⟨_, rfl⟩, rfl, ?_⟩
           exact emk hS
          ·intro Ep35 w l' hE35 hO35 hF_ hS
           obtain ⟨q0o, q0r, -⟩ := hF_
           replace q0o : Ep35 139 = .map (some b30) := emk q0o
           replace q0r : Ep35 140 = .agg #[.int .i64 e125.1.From, .int .i64 e125.1.To] := emk q0r
           replace hS : St w0 w (mapA b30 kf_53 (Value.int .i64) q4i :: l') := emk hS
           refine pa (at_look (k := e125.1) um_71 kp_53 (zero1 zv_3) q0o q0r hS (hx141.trans (mget_ent q40 hx143).symm)) <| x_done <| ?_
           refine x_fin ⟨⟨_, rfl⟩, rfl, ?_⟩
           exact emk hS
         ·intro Ep35 w l' hE35 hO35 hF_ hS
          obtain ⟨q2i, -⟩ := hF_
          replace q2i : Ep35 141 = .int .i64 x141 := emk q2i
          refine p (yadd q2i rfl hx142) <| x_done <| ?_
          refine x_fin ⟨⟨_, rfl⟩, rfl, ?_⟩
          exact emk hS
         ·intro Ep35 w l' hE35 hO35 hF_ hS
          obtain ⟨q0o, q0r, -⟩ := hF_
          replace q0o : Ep35 139 = .map (some b30) := emk q0o
          replace q0r : Ep35 140 = .agg #[.int .i64 e125.1.From, .int .i64 e125.1.To] := emk q0r
          replace hS : St w0 w (mapA b30 kf_53 (Value.int .i64) q0a :: l') := emk hS
          refine o_mapEntry (k := e125.1) (vf := (Value.int .i64)) um_71 kp_53 (zero1 zv_3) q0o q0r hS hx143 q40 (fun w' hS => ?_)
          refine x_done <| ?_
          refine x_fin ⟨⟨_, rfl⟩, rfl, ?_⟩
          exact emk hS
         ·intro Ep35 w l' hE35 hO35 hF_ hS
          obtain ⟨q2j, -⟩ := hF_
          replace q2j : Ep35 143 = .tuple #[.int .i64 x143, .int .i64 ((mpos e125.1 q0a : Nat) : Int)] := emk q2j
          refine p (yl_extract q2j rfl) <| x_done <| ?_
          refine x_fin ⟨⟨_, rfl⟩, rfl, ?_⟩
          exact emk hS
         ·intro Ep35 w l' hE35 hO35 hF_ hS
          obtain ⟨q0o, q2k, q2l, -⟩ := hF_
          replace q0o : Ep35 139 = .map (some b30) := emk q0o
          replace q2k : Ep35 142 = .int .i64 x142 := emk q2k
          replace q2l : Ep35 144 = .int .i64 ((mpos e125.1 q0a : Nat) : Int) := emk q2l
          replace hS : St w0 w (mapA b30 kf_53 (Value.int .i64) q4i :: l') := emk hS
          refine o_entryStore (k := e125.1) (es := q0a) (v0 := x143) (vf := (Value.int .i64)) (v := x142) q0o q2l q2k rfl q40 hS q6y (fun w' hS => ?_)
          refine x_done <| ?_
          refine x_fin ⟨⟨undef, rfl⟩, trivial, ?_⟩
          exact emk hS
        intro Ep35 w' hE35 hF_ hS
        obtain ⟨q2f, q2g, q2h, q0o, q0r, q2i, q2k, q2j, q2l, -⟩ := hF_
        replace q2f : Ep35 136 = .pointer (some ⟨b32, 0, none⟩) := emk q2f
        replace q2g : Ep35 137 = .pointer (some ⟨b32, 0, none⟩) := emk q2g
        replace q2h : Ep35 138 = .pointer (some ⟨b32, 8, none⟩) := emk q2h
        replace q0o : Ep35 139 = .map (some b30) := emk q0o
        replace q0r : Ep35 140 = .agg #[.int .i64 e125.1.From, .int .i64 e125.1.To] := emk q0r
        replace q2i : Ep35 141 = .int .i64 x141 := emk q2i
        replace q2k : Ep35 142 = .int .i64 x142 := emk q2k
        replace q2j : Ep35 143 = .tuple #[.int .i64 x143, .int .i64 ((mpos e125.1 q0a : Nat) : Int)] := emk q2j
        replace q2l : Ep35 144 = .int .i64 ((mpos e125.1 q0a : Nat) : Int) := emk q2l
        replace hS : St w0 w' (cells b32 73 [.int .i64 f0.Rows, .int .i64 f0.Sites, .int .i64 f0.Layers, .slice q4 f0.Blocks.length c_f0_3, .slice q5 f0.Walls.length c_f0_4, .slice q6 f0.Ports.length c_f0_5, .map (some b28), .map (some b29), .map (some b30)] :: cells b19 53 [.int .i64 e125.1.From, .int .i64 e125.1.To] :: mapA b30 kf_53 (Value.int .i64) q4j :: (itA b122 b29 q0j.length (q0y ++ [i123]) :: mapA b29 kf_53 (Value.int .i64) q0j :: vec 51 (RpSl R_global_Edge).sz (.slice A51 q2.length q2.length) q2.length q0f :: mapA b28 kf_53 (Value.int .i64) q7 :: ro q12 :: l)) := emk hS
        refine x_region <| p (yl_assign rfl) <| x_done <| ?_
        exact x_inv ⟨false, q4j, hFc135, ((hE35 1 rfl).trans q33), ((hE35 7 rfl).trans q1o), ((hE35 10 rfl).trans q2t), rfl, ((hE35 52 rfl).trans q2u), ((hE35 122 rfl).trans q1k), ((((((((hS.pull 1).drop.pull 6).pull 2).pull 6).pull 4).pull 5).pull 6).pull 6)⟩
       ·replace hFc135 := nit_f hc135 hFc135
        refine x_skip <| ?_
        exact x_inv ⟨q0w, q0a, hFc135, q33, q1o, q2t, q3z, q2u, q1k, (((((((hS.drop.pull 6).pull 6).pull 6).pull 3).pull 4).pull 6).pull 6)⟩
      rintro E w ⟨q13, q17, hq_, q5w, q5x, q57, q58, q59, q55, hS⟩
      replace hFL32 := hFL32 _ hq_
      clear hq_
      refine x_blk <| ?_
      exact x_inv ⟨kL32, Nat.lt_succ_self _, q13, (q0y ++ [i123]), q17, (hLL32 _ hFL32), q5w, q5x, q57, q58, q59, q55, (((((((hS.pull 6).pull 6).pull 6).pull 6).pull 6).pull 6).pull 6)⟩
    rintro E w ⟨q16, q1j, hq_, q6z, q70, q4a, q5y, q5z, hS⟩
    replace hFL12 := hFL12 _ hq_
    clear hq_
    refine x_seq <| x_region <| p (yl_move q5y) <| x_done <|
     x_cond (t := q16) rfl (fun hc145 => ?_) (fun hc145 => ?_)
    ·replace hFL12 := nit_t hc145 hFL12
     refine x_seq <| x_region <| p (yl_move q4a) <| p (yl_assign rfl) <|
      p (yl_assign rfl) <| x_done <| ?_
     exact x_return ⟨_, ⟨_, _, rfl, rfl, _, _, rfl, rfl, rfl⟩, (q0z, (0 : Int)), (hF _ (hLL12 _ hFL12)), q12, A51, q2.length, q2.length, q0f, rfl, (q0i.trans q3y), q1x, (((((hS.drop.pull 1).drop.pull 1).drop.pull 1).drop.pull 1).pull 1)⟩
    ·replace hFL12 := nit_bf hc145 hFL12
     replace hFL12 := nar_s hFL12; obtain ⟨x147, hx147, hFL12⟩ := hFL12
     refine x_skip <| x_blk <| x_region <| p (yadd q5z rfl hx147) <|
      p (yl_move rfl) <| x_done <| ?_
     exact x_inv ⟨kL12, Nat.lt_succ_self _, q12, q0f, q0z, x147, q0j, q1j, (hLL12 _ hFL12), (q0i.trans q3y), q6z, q70, q4a, rfl, q1x, ((((((hS.pull 5).pull 5).pull 5).pull 5).pull 5).pull 5)⟩
   ·replace hFL12 := nit_f hc53 hFL12
    refine x_exitTo _ rfl <| ?_
    exact x_inv ⟨(hLL12 _ hFL12), (ro_back0 q0i hS.drop.drop.drop.drop.drop)⟩
  rintro E w ⟨hq_, hS⟩
  replace hF := hF _ hq_
  clear hq_
  refine x_seq <| x_region <| p (yl_assign rfl) <| p (yl_assign rfl) <|
   x_done <| ?_
  replace hS := St.vec_nil hS 51 (RpSl R_global_Edge).sz
  have q14 : RepL (RpSl R_global_Edge) ρ [] [] := rfl
  exact x_return ⟨_, ⟨_, _, rfl, rfl, _, _, rfl, rfl, rfl⟩, ([], (14 : Int)), hF, ρ, none, 0, 0, [], rfl, (Le.refl _), q14, ((hS.pull 1).pull 1)⟩
attribute [irreducible] P_global_Route

def P_maskkeep4_regions : Option Bool :=
 bd (P_global_Room (T_floor_Floor.mk 1 2 2 [] [] []) (T_global_Edge.mk 0 1)) fun q3 =>
 bd (
  if (decide (q3 = 8)) = true then
   bd (P_global_Edges (T_floor_Floor.mk 1 2 2 [] [] [])) fun q4 =>
   some (decide ((q4.length : Int) = 4))
  else
   some false) fun q2 =>
 some q2
theorem c_maskkeep4_regions {w0 w : World} {l : List Assn} {ρ : Heap} {r : Bool} (hF : P_maskkeep4_regions = some r) (hS : St w0 w (ro ρ :: l)) :
  Calls Tryd.prog 8 #[] w fun e w' => e = .returned (.bool r) ∧ St w0 w' (ro ρ :: l) := by
 refine enterC Tryd.func8 rfl 13 rfl (by simp) ?_
 refine x_seq <| x_region <| p (yl_assign rfl) <| x_done <|
  x_seq <| x_region <| p (v := .agg #[.int .i64 1, .int .i64 2, .int .i64 2, .slice none 0 0, .slice none 0 0, .slice none 0 0]) (yl_build bld_30 bldf_30 (parts_eq (pt (va := .int .i64 1) rfl (pt (va := .int .i64 2) rfl (pt (va := .int .i64 2) rfl pt0)))) (by kernel_rfl)) <| ?_
 refine o_alloc zero_30 hS (fun b1 w' hS => ?_)
 refine o_storeAgg (news := [.int .i64 1, .int .i64 2, .int .i64 2, .slice none 0 0, .slice none 0 0, .slice none 0 0]) agg_30 rfl rfl rfl (by simp [over_length]) hS (fun w' hS => ?_)
 replace hF := bd_s hF; obtain ⟨q4, q0b, hF⟩ := hF
 refine x_done <| x_seq <| x_region <| pa (v := .agg #[.int .i64 1, .int .i64 2, .int .i64 2, .slice none 0 0, .slice none 0 0, .slice none 0 0]) (ld_sub agg_30 rfl rfl rfl hS) <|
  p (v := .agg #[.int .i64 0, .int .i64 1]) (yl_build bld_53 bldf_53 (parts_eq (pt (va := .int .i64 0) rfl (pt (va := .int .i64 1) rfl pt0))) (by kernel_rfl)) <| ?_
 have hcall := c_global_Room q0b (RdS.nil (A := none) (c := 0)) (RdS.nil (A := none) (c := 0)) (RdS.nil (A := none) (c := 0)) (hS.pull 1)
 refine o_cc call_14 (args2 rfl rfl) ((Calls.mono hcall (fun e w'' h => And.intro h.1 (h.2.pull 1)))) ?_
 rintro e w' ⟨rfl, hS⟩
 refine ⟨_, rfl, ?_⟩
 refine p (yl_eql rfl rfl) <| p (yl_move rfl) <| pg (v := .agg #[.int .i64 1, .int .i64 2, .int .i64 2, .slice none 0 0, .slice none 0 0, .slice none 0 0]) 7 (c := decide (q4 = 8)) (says_t _) (fun hq => ld_sub agg_30 rfl rfl rfl hS) <| ?_
 replace hF := bd_s hF; obtain ⟨q0c, q2, hF⟩ := hF
 refine x_join_ops (fun E w => ∃ (q5 : Bool), q5 = q0c ∧ E 0 = .bool q5 ∧ St w0 w (ro ρ :: l)) ?_ ?_
 ·refine x_split (decide (q4 = 8)) (fun q3 => ?_) (fun q3 => ?_)
  ·replace q2 := it_t q3 q2
   replace q2 := bd_s q2; obtain ⟨q0e, q0d, q2⟩ := q2
   refine o_strip 7 true (says_lit (c := true) (Eq.trans (show _ = Value.bool (decide (q4 = 8)) from rfl) (congrArg Value.bool q3)) rfl) <| ?_
   have hcall := c_global_Edges q0d (RdS.nil (A := none) (c := 0)) (RdS.nil (A := none) (c := 0)) (RdS.nil (A := none) (c := 0)) (hS.pull 1)
   refine o_cc call_12 (args1 (Eq.trans (show _ = (bif decide (q4 = 8) then .agg #[.int .i64 1, .int .i64 2, .int .i64 2, .slice none 0 0, .slice none 0 0, .slice none 0 0] else undef) from rfl) (cv q3))) hcall ?_
   rintro e w' ⟨q9, q0a, c_y0_ret_2_6, q8, rfl, q6, hS⟩
   refine ⟨_, rfl, ?_⟩
   have e_ := St.vec_n hS q6; subst e_
   refine o_strip 7 true (says_lit (c := true) (Eq.trans (show _ = Value.bool (decide (q4 = 8)) from rfl) (congrArg Value.bool q3)) rfl) <| p (yl_len_slice usl_51 rfl) <| o_strip 7 true (says_lit (c := true) (Eq.trans (show _ = Value.bool (decide (q4 = 8)) from rfl) (congrArg Value.bool q3)) rfl) <| p (yl_eql rfl rfl) <|
    p (yl_pick (b := true) (Eq.trans (show _ = Value.bool (decide (q4 = 8)) from rfl) (congrArg Value.bool q3)) (fun h => rfl) (fun h => nomatch h)) <| p (yl_assign rfl) <| x_done <| ?_
   exact x_inv ⟨decide ((q0e.length : Int) = 4), (sinj q2), rfl, ((hS.drop.pull 1).drop)⟩
  ·replace q2 := it_bf q3 q2
   refine o_pass 9 7 true (says_lit (c := false) (Eq.trans (show _ = Value.bool (decide (q4 = 8)) from rfl) (congrArg Value.bool q3)) rfl) <| o_pass 10 7 true (says_lit (c := false) (Eq.trans (show _ = Value.bool (decide (q4 = 8)) from rfl) (congrArg Value.bool q3)) rfl) <| o_pass 11 7 true (says_lit (c := false) (Eq.trans (show _ = Value.bool (decide (q4 = 8)) from rfl) (congrArg Value.bool q3)) rfl) <| p (yl_pick (b := false) (Eq.trans (show _ = Value.bool (decide (q4 = 8)) from rfl) (congrArg Value.bool q3)) (fun h => nomatch h) (fun h => rfl)) <|
    p (yl_assign rfl) <| x_done <| ?_
   exact x_inv ⟨false, (sinj q2), rfl, hS.drop⟩
 rintro E w ⟨q5, rfl, q7, hS⟩
 have e_ := sinj hF; subst e_
 exact x_return ⟨_, ⟨_, _, rfl, q7, rfl⟩, rfl, hS⟩
attribute [irreducible] P_maskkeep4_regions

def P_floor_Check_2_L6 (f0 : T_floor_Floor) : Int → Option (Int ⊕ (Unit ⊕ Int)) := fun q2 =>
 if q2 < (f0.Blocks.length : Int) then
  ck (inb q2 f0.Blocks.length) <|
  lv (gt f0.Blocks q2) fun q3 =>
  ar (f0.Rows - 1) fun x54 =>
  bd (P_floor_within q3.Row 0 x54) fun q4 =>
  ck ((!(!q4)) = true → I64 (f0.Sites - 1)) <|
  lv (f0.Sites - 1) fun x62 =>
  bd (gd (!(!q4)) (P_floor_within q3.From 0 x62)) fun q5 =>
  lv ((!q4) || (!q5)) fun x65 =>
  ck ((!x65) = true → I64 (q3.From + 1)) <|
  lv (q3.From + 1) fun x71 =>
  bd (gd (!x65) (P_floor_within q3.To x71 f0.Sites)) fun q6 =>
  lv (x65 || (!q6)) fun x76 =>
  if x76 = true then
   some (Sum.inr (Sum.inr (2 : Int)))
  else
   ar (q2 + 1) fun x77 =>
   some (Sum.inl x77)
 else
  some (Sum.inr (Sum.inl ()))
def P_floor_Check_2_L13 (f0 : T_floor_Floor) (q2 : (Int × Int)) : Int → Option (Int ⊕ (Unit ⊕ Int)) := fun q3 =>
 if q3 < (f0.Walls.length : Int) then
  ck (inb q3 f0.Walls.length) <|
  lv (gt f0.Walls q3) fun q4 =>
  ar (f0.Layers - 1) fun x94 =>
  bd (P_floor_within q4.Layer 0 x94) fun q5 =>
  ck ((!(!q5)) = true → I64 (q2.1 - 1)) <|
  lv (q2.1 - 1) fun x101 =>
  bd (gd (!(!q5)) (P_floor_within q4.X0 0 x101)) fun q6 =>
  lv ((!q5) || (!q6)) fun x104 =>
  ck ((!x104) = true → I64 (q2.2 - 1)) <|
  lv (q2.2 - 1) fun x109 =>
  bd (gd (!x104) (P_floor_within q4.Y0 0 x109)) fun q7 =>
  lv (x104 || (!q7)) fun x112 =>
  ck ((!x112) = true → I64 (q2.1 - 1)) <|
  lv (q2.1 - 1) fun x119 =>
  bd (gd (!x112) (P_floor_within q4.X1 q4.X0 x119)) fun q8 =>
  lv (x112 || (!q8)) fun x122 =>
  ck ((!x122) = true → I64 (q2.2 - 1)) <|
  lv (q2.2 - 1) fun x129 =>
  bd (gd (!x122) (P_floor_within q4.Y1 q4.Y0 x129)) fun q9 =>
  lv (x122 || (!q9)) fun x132 =>
  if x132 = true then
   some (Sum.inr (Sum.inr (2 : Int)))
  else
   ar (q3 + 1) fun x133 =>
   some (Sum.inl x133)
 else
  some (Sum.inr (Sum.inl ()))
def P_floor_Check_2_L19 (f0 : T_floor_Floor) : Int → Option (Int ⊕ (Unit ⊕ Int)) := fun q2 =>
 if q2 < (f0.Ports.length : Int) then
  bd (P_floor_checkPort f0 q2) fun q3 =>
  if q3 ≠ 0 then
   some (Sum.inr (Sum.inr q3))
  else
   ar (q2 + 1) fun x146 =>
   some (Sum.inl x146)
 else
  some (Sum.inr (Sum.inl ()))
def P_floor_Check_2 (f0 : T_floor_Floor) : Option Int :=
 bd (P_floor_within f0.Rows 1 20) fun q2 =>
 bd (gd (!(!q2)) (P_floor_within f0.Sites 1 40)) fun q5 =>
 lv ((!q2) || (!q5)) fun x20 =>
 bd (gd (!x20) (P_floor_within f0.Layers 2 6)) fun q3 =>
 lv (x20 || (!q3)) fun x26 =>
 if x26 = true then
  some (2 : Int)
 else
  lv ((decide (32 < (f0.Blocks.length : Int))) || (decide (32 < (f0.Walls.length : Int)))) fun x36 =>
  lv (x36 || (decide (200 < (f0.Ports.length : Int)))) fun x42 =>
  if x42 = true then
   some (3 : Int)
  else
   bs (
    lp (P_floor_Check_2_L6 f0) fuel 0) (fun y => some y) fun _ =>
   bd (P_floor_Size f0) fun q4 =>
   bs (
    lp (P_floor_Check_2_L13 f0 q4) fuel 0) (fun y => some y) fun _ =>
   bs (
    lp (P_floor_Check_2_L19 f0) fuel 0) (fun y => some y) fun _ =>
   some (0 : Int)
theorem c_floor_Check_2 {w0 w : World} {l : List Assn} {ρ : Heap} {q4 : Option Addr} {q0w : Nat} {c_f0_3 : Nat} {q3 : Option Addr} {q0x : Nat} {c_f0_4 : Nat} {q5 : Option Addr} {q0y : Nat} {c_f0_5 : Nat} {f0 : T_floor_Floor} {r : Int} (hF : P_floor_Check_2 f0 = some r) (q0a : RdS R_floor_Block ρ q4 q0w c_f0_3 f0.Blocks) (q0b : RdS R_floor_Wall ρ q3 q0x c_f0_4 f0.Walls) (q0o : RdS R_floor_Port ρ q5 q0y c_f0_5 f0.Ports) (hS : St w0 w (ro ρ :: l)) :
  Calls Tryd.prog 9 #[.agg #[.int .i64 f0.Rows, .int .i64 f0.Sites, .int .i64 f0.Layers, .slice q4 q0w c_f0_3, .slice q3 q0x c_f0_4, .slice q5 q0y c_f0_5]] w fun e w' => e = .returned (.int .i64 r) ∧ St w0 w' (ro ρ :: l) := by
 have e_ := q0a.n; subst e_
 have e_ := q0b.n; subst e_
 have e_ := q0o.n; subst e_
 refine enterC Tryd.func9 rfl 147 rfl (by simp) ?_
 refine x_seq <| x_region <| ?_
 refine o_box (cs := [.int .i64 f0.Rows, .int .i64 f0.Sites, .int .i64 f0.Layers, .slice q4 f0.Blocks.length c_f0_3, .slice q3 f0.Walls.length c_f0_4, .slice q5 f0.Ports.length c_f0_5]) rfl rfl hS (fun b1 w' hS => ?_)
 replace hF := bd_s hF; obtain ⟨q0u, q1u, hF⟩ := hF
 refine p (yl_assign rfl) <| x_done <| x_seq <| x_seq <|
  x_region <| p (yl_field0 fld_30_0 rfl) <| pa (at_load one_3 rfl (hS.cell rfl)) <| ?_
 have hcall := c_floor_within q1u  (hS.pull 1)
 refine o_cc call_23 (args3 rfl rfl rfl) ((Calls.mono hcall (fun e w'' h => And.intro h.1 (h.2.pull 1)))) ?_
 rintro e w' ⟨rfl, hS⟩
 refine ⟨_, rfl, ?_⟩
 replace hF := bd_s hF; obtain ⟨q1j, q1v, hF⟩ := hF
 refine p (yl_not rfl) <| p (yl_move rfl) <| pg (v := .pointer (some ⟨b1, 1, none⟩)) 15 (c := !(!q0u)) (says_f _) (fun hq => Yl.at (yl_field0 fld_30_1 rfl)) <| pg (v := .int .i64 f0.Sites) 15 (c := !(!q0u)) (says_f _) (fun hq => at_load one_3 (cv hq) (hS.cell rfl)) <|
  pccg (v := .bool q1j) 15 (c := !(!q0u)) (says_f _) call_23 (fun hq => (args3 (cv hq) rfl rfl)) hS (fun hq => by
   have hcall := c_floor_within (gd_t q1v hq)  (hS.pull 1)
   exact (Calls.mono hcall (fun e w'' h => And.intro h.1 (h.2.pull 1)))) (fun w' hS => ?_)
 replace hF := lv_s hF; obtain ⟨x20, hx20, hF⟩ := hF
 replace hF := bd_s hF; obtain ⟨q16, q1k, hF⟩ := hF
 refine pg (v := .bool (!q1j)) 15 (c := !(!q0u)) (says_f _) (fun hq => Yl.at (yl_not (cv hq))) <| p (yor' rfl rfl (fun hc => (cv (t_not hc))) hx20) <| p (yl_move rfl) <| pg (v := .pointer (some ⟨b1, 2, none⟩)) 21 (c := !x20) (says_f _) (fun hq => Yl.at (yl_field0 fld_30_2 rfl)) <|
  pg (v := .int .i64 f0.Layers) 21 (c := !x20) (says_f _) (fun hq => at_load one_3 (cv hq) (hS.cell rfl)) <|
  pccg (v := .bool q16) 21 (c := !x20) (says_f _) call_23 (fun hq => (args3 (cv hq) rfl rfl)) hS (fun hq => by
   have hcall := c_floor_within (gd_t q1k hq)  (hS.pull 1)
   exact (Calls.mono hcall (fun e w'' h => And.intro h.1 (h.2.pull 1)))) (fun w' hS => ?_)
 replace hF := lv_s hF; obtain ⟨x26, hx26, hF⟩ := hF
 refine pg (v := .bool (!q16)) 21 (c := !x20) (says_f _) (fun hq => Yl.at (yl_not (cv hq))) <| p (yor' rfl rfl (fun hc => (cv (t_not hc))) hx26) <| x_done <|
  x_cond (t := x26) rfl (fun hc26 => ?_) (fun hc26 => ?_)
 ·replace hF := it_t hc26 hF
  refine x_seq <| x_region <| p (yl_assign rfl) <| x_done <| ?_
  have e_ := sinj hF; subst e_
  exact x_return ⟨_, ⟨_, _, rfl, rfl, rfl⟩, rfl, hS.drop⟩
 ·replace hF := it_bf hc26 hF
  replace hF := lv_s hF; obtain ⟨x36, hx36, hF⟩ := hF
  replace hF := lv_s hF; obtain ⟨x42, hx42, hF⟩ := hF
  refine x_skip <| x_seq <| x_seq <| x_region <|
   p (yl_field0 fld_30_3 rfl) <| pa (at_load one_26 rfl (hS.cell rfl)) <| p (yl_len_slice usl_26 rfl) <| p (yl_gtr rfl rfl) <|
   p (yl_move rfl) <| pg (v := .pointer (some ⟨b1, 4, none⟩)) 31 (c := !(decide (32 < (f0.Blocks.length : Int)))) (says_f _) (fun hq => Yl.at (yl_field0 fld_30_4 rfl)) <| pg (v := .slice q3 f0.Walls.length c_f0_4) 31 (c := !(decide (32 < (f0.Blocks.length : Int)))) (says_f _) (fun hq => at_load one_27 (cv hq) (hS.cell rfl)) <| pg (v := .int .i64 (f0.Walls.length : Int)) 31 (c := !(decide (32 < (f0.Blocks.length : Int)))) (says_f _) (fun hq => Yl.at (yl_len_slice usl_27 (cv hq))) <|
   pg (v := .bool (decide (32 < (f0.Walls.length : Int)))) 31 (c := !(decide (32 < (f0.Blocks.length : Int)))) (says_f _) (fun hq => Yl.at (yl_gtr (cv hq) rfl)) <| p (yor' rfl rfl (fun hc => (cv (t_not hc))) hx36) <| p (yl_move rfl) <| pg (v := .pointer (some ⟨b1, 5, none⟩)) 37 (c := !x36) (says_f _) (fun hq => Yl.at (yl_field0 fld_30_5 rfl)) <|
   pg (v := .slice q5 f0.Ports.length c_f0_5) 37 (c := !x36) (says_f _) (fun hq => at_load one_28 (cv hq) (hS.cell rfl)) <| pg (v := .int .i64 (f0.Ports.length : Int)) 37 (c := !x36) (says_f _) (fun hq => Yl.at (yl_len_slice usl_28 (cv hq))) <| pg (v := .bool (decide (200 < (f0.Ports.length : Int)))) 37 (c := !x36) (says_f _) (fun hq => Yl.at (yl_gtr (cv hq) rfl)) <| p (yor' rfl rfl (fun hc => (cv (t_not hc))) hx42) <|
   x_done <|
   x_cond (t := x42) rfl (fun hc42 => ?_) (fun hc42 => ?_)
  ·replace hF := it_t hc42 hF
   refine x_seq <| x_region <| p (yl_assign rfl) <| x_done <| ?_
   have e_ := sinj hF; subst e_
   exact x_return ⟨_, ⟨_, _, rfl, rfl, rfl⟩, rfl, hS.drop⟩
  ·replace hF := it_bf hc42 hF
   refine x_skip <| x_seq <| x_seq <| x_region <|
    p (yl_field0 fld_30_3 rfl) <| pa (at_load one_26 rfl (hS.cell rfl)) <| p (yl_len_slice usl_26 rfl) <| p (yl_move rfl) <|
    x_done <| ?_
   replace hF := bs_s hF; obtain ⟨oL6, hLL6, hF⟩ := hF
   refine x_join (fun E w => (Sum.inl (())) = oL6 ∧ E 1 = .pointer (some ⟨b1, 0, none⟩) ∧ St w0 w (cells b1 30 [.int .i64 f0.Rows, .int .i64 f0.Sites, .int .i64 f0.Layers, .slice q4 f0.Blocks.length c_f0_3, .slice q3 f0.Walls.length c_f0_4, .slice q5 f0.Ports.length c_f0_5] :: ro ρ :: l)) ?_ ?_
   ·refine x_block ?_
    refine x_loop (fun k_ E w => ∃ (q0e : Int), lp (P_floor_Check_2_L6 f0) k_ q0e = some oL6 ∧ E 1 = .pointer (some ⟨b1, 0, none⟩) ∧ E 44 = .slice q4 f0.Blocks.length c_f0_3 ∧ E 45 = .int .i64 (f0.Blocks.length : Int) ∧ E 46 = .int .i64 q0e ∧ St w0 w (cells b1 30 [.int .i64 f0.Rows, .int .i64 f0.Sites, .int .i64 f0.Layers, .slice q4 f0.Blocks.length c_f0_3, .slice q3 f0.Walls.length c_f0_4, .slice q5 f0.Ports.length c_f0_5] :: ro ρ :: l)) fuel ⟨0, hLL6, rfl, rfl, rfl, rfl, ((hS.pull 1).pull 1)⟩ ?_
    rintro kL6 E w ⟨q0e, hLL6, q0c, q0r, q0s, q0j, hS⟩
    replace hLL6 := lp_s hLL6; obtain ⟨kL6, obL6, rfl, hFL6, hLL6⟩ := hLL6
    refine x_seq <| x_region <| p (yl_lss q0j q0s) <| x_done <|
     x_seq <|
     x_cond_p (q0e < (f0.Blocks.length : Int)) rfl (fun hc47 => ?_) (fun hc47 => ?_)
    ·replace hFL6 := it_t hc47 hFL6
     replace hFL6 := ck_s hFL6; obtain ⟨q17, hFL6⟩ := hFL6
     replace hFL6 := lv_s hFL6; obtain ⟨q8, q1w, hFL6⟩ := hFL6
     have q_ := q0a.get q17; obtain ⟨q20, q18, q1x⟩ := q_
     rw [← q1w] at q18
     have e_ := q18; subst e_
     refine x_skip <| x_seq <| x_block <| x_seq <|
      x_region <| p (yix_f sl_26 q0r q0j q0a q17) <| pa (v := .agg #[.int .i64 q8.Row, .int .i64 q8.From, .int .i64 q8.To]) (at_loadAgg agg_60 rfl rfl (Elt.every q1x (hS.pull 1))) <| ?_
     refine o_alloc zero_60 hS (fun b4 w' hS => ?_)
     refine o_storeAgg (news := [.int .i64 q8.Row, .int .i64 q8.From, .int .i64 q8.To]) agg_60 rfl rfl rfl (by simp [over_length]) hS (fun w' hS => ?_)
     replace hFL6 := ar_s hFL6; obtain ⟨x54, hx54, hFL6⟩ := hFL6
     replace hFL6 := bd_s hFL6; obtain ⟨q0g, q1y, hFL6⟩ := hFL6
     refine x_done <| x_seq <| x_region <| p (yl_field0 fld_60_0 rfl) <|
      pa (at_load one_3 rfl (hS.cell rfl)) <| p (yl_field0 fld_30_0 q0c) <| pa (at_load one_3 rfl ((hS.pull 1).cell rfl)) <| p (ysub rfl rfl hx54) <| ?_
     have hcall := c_floor_within q1y  (hS.pull 2)
     refine o_cc call_23 (args3 rfl rfl rfl) ((Calls.mono hcall (fun e w'' h => And.intro h.1 ((h.2.pull 2).pull 2)))) ?_
     rintro e w' ⟨rfl, hS⟩
     refine ⟨_, rfl, ?_⟩
     replace hFL6 := ck_s hFL6; obtain ⟨q1l, hFL6⟩ := hFL6
     replace hFL6 := lv_s hFL6; obtain ⟨x62, hx62, hFL6⟩ := hFL6
     replace hFL6 := bd_s hFL6; obtain ⟨q19, q1m, hFL6⟩ := hFL6
     refine p (yl_not rfl) <| p (yl_move rfl) <| pg (v := .pointer (some ⟨b4, 1, none⟩)) 57 (c := !(!q0g)) (says_f _) (fun hq => Yl.at (yl_field0 fld_60_1 rfl)) <| pg (v := .int .i64 q8.From) 57 (c := !(!q0g)) (says_f _) (fun hq => at_load one_3 (cv hq) (hS.cell rfl)) <|
      pg (v := .pointer (some ⟨b1, 1, none⟩)) 57 (c := !(!q0g)) (says_f _) (fun hq => Yl.at (yl_field0 fld_30_1 q0c)) <| pg (v := .int .i64 f0.Sites) 57 (c := !(!q0g)) (says_f _) (fun hq => at_load one_3 (cv hq) ((hS.pull 1).cell rfl)) <| pg (v := .int .i64 x62) 57 (c := !(!q0g)) (says_f _) (fun hq => Yl.at (ysub (cv hq) rfl ⟨hx62, (q1l hq)⟩)) <|
      pccg (v := .bool q19) 57 (c := !(!q0g)) (says_f _) call_23 (fun hq => (args3 (cv hq) rfl (cv hq))) hS (fun hq => by
       have hcall := c_floor_within (gd_t q1m hq)  (hS.pull 2)
       exact (Calls.mono hcall (fun e w'' h => And.intro h.1 ((h.2.pull 2).pull 2)))) (fun w' hS => ?_)
     replace hFL6 := lv_s hFL6; obtain ⟨x65, hx65, hFL6⟩ := hFL6
     replace hFL6 := ck_s hFL6; obtain ⟨q1n, hFL6⟩ := hFL6
     replace hFL6 := lv_s hFL6; obtain ⟨x71, hx71, hFL6⟩ := hFL6
     replace hFL6 := bd_s hFL6; obtain ⟨q1a, q1o, hFL6⟩ := hFL6
     refine pg (v := .bool (!q19)) 57 (c := !(!q0g)) (says_f _) (fun hq => Yl.at (yl_not (cv hq))) <| p (yor' rfl rfl (fun hc => (cv (t_not hc))) hx65) <| p (yl_move rfl) <| pg (v := .pointer (some ⟨b4, 2, none⟩)) 66 (c := !x65) (says_f _) (fun hq => Yl.at (yl_field0 fld_60_2 rfl)) <|
      pg (v := .int .i64 q8.To) 66 (c := !x65) (says_f _) (fun hq => at_load one_3 (cv hq) (hS.cell rfl)) <| pg (v := .pointer (some ⟨b4, 1, none⟩)) 66 (c := !x65) (says_f _) (fun hq => Yl.at (yl_field0 fld_60_1 rfl)) <| pg (v := .int .i64 q8.From) 66 (c := !x65) (says_f _) (fun hq => at_load one_3 (cv hq) (hS.cell rfl)) <| pg (v := .int .i64 x71) 66 (c := !x65) (says_f _) (fun hq => Yl.at (yadd (cv hq) rfl ⟨hx71, (q1n hq)⟩)) <|
      pg (v := .pointer (some ⟨b1, 1, none⟩)) 66 (c := !x65) (says_f _) (fun hq => Yl.at (yl_field0 fld_30_1 q0c)) <| pg (v := .int .i64 f0.Sites) 66 (c := !x65) (says_f _) (fun hq => at_load one_3 (cv hq) ((hS.pull 1).cell rfl)) <|
      pccg (v := .bool q1a) 66 (c := !x65) (says_f _) call_23 (fun hq => (args3 (cv hq) (cv hq) (cv hq))) hS (fun hq => by
       have hcall := c_floor_within (gd_t q1o hq)  (hS.pull 2)
       exact (Calls.mono hcall (fun e w'' h => And.intro h.1 ((h.2.pull 2).pull 2)))) (fun w' hS => ?_)
     replace hFL6 := lv_s hFL6; obtain ⟨x76, hx76, hFL6⟩ := hFL6
     refine pg (v := .bool (!q1a)) 66 (c := !x65) (says_f _) (fun hq => Yl.at (yl_not (cv hq))) <| p (yor' rfl rfl (fun hc => (cv (t_not hc))) hx76) <| x_done <|
      x_cond (t := x76) rfl (fun hc76 => ?_) (fun hc76 => ?_)
     ·replace hFL6 := it_t hc76 hFL6
      refine x_seq <| x_region <| p (yl_assign rfl) <| x_done <| ?_
      have e_ := sinj hFL6; subst e_
      have e_ := (show _ = oL6 from hLL6); subst e_
      have e_ := sinj hF; subst e_
      exact x_return ⟨_, ⟨_, _, rfl, rfl, rfl⟩, rfl, hS.drop.drop⟩
     ·replace hFL6 := it_bf hc76 hFL6
      replace hFL6 := ar_s hFL6; obtain ⟨x77, hx77, hFL6⟩ := hFL6
      refine x_skip <| x_blk <| x_region <| p (yadd q0j rfl hx77) <|
       p (yl_move rfl) <| x_done <| ?_
      have e_ := sinj hFL6; subst e_
      exact x_inv ⟨kL6, Nat.lt_succ_self _, x77, hLL6, q0c, q0r, q0s, rfl, ((hS.drop.pull 1).pull 1)⟩
    ·replace hFL6 := it_f hc47 hFL6
     refine x_exitTo _ rfl <| ?_
     have e_ := sinj hFL6; subst e_
     exact x_inv ⟨hLL6, q0c, ((hS.pull 1).pull 1)⟩
   rintro E w ⟨rfl, q0v, hS⟩
   replace hF := bd_s hF; obtain ⟨q6, q1p, hF⟩ := hF
   refine x_seq <| x_region <| pa (v := .agg #[.int .i64 f0.Rows, .int .i64 f0.Sites, .int .i64 f0.Layers, .slice q4 f0.Blocks.length c_f0_3, .slice q3 f0.Walls.length c_f0_4, .slice q5 f0.Ports.length c_f0_5]) (ld_sub agg_30 q0v rfl rfl hS) <| ?_
   have hcall := c_floor_Size q1p q0a q0b q0o (hS.pull 1)
   refine o_cc call_5 (args1 rfl) ((Calls.mono hcall (fun e w'' h => And.intro h.1 (h.2.pull 1)))) ?_
   rintro e w' ⟨rfl, hS⟩
   refine ⟨_, rfl, ?_⟩
   refine p (v := .tuple #[.int .i64 q6.1, .int .i64 q6.2]) (yl_move rfl) <| p (yl_extract rfl rfl) <| p (yl_extract rfl rfl) <| p (yl_assign rfl) <|
    p (yl_assign rfl) <| x_done <| x_seq <| x_seq <|
    x_region <| p (yl_field0 fld_30_4 q0v) <| pa (at_load one_27 rfl (hS.cell rfl)) <| p (yl_len_slice usl_27 rfl) <|
    p (yl_move rfl) <| x_done <| ?_
   replace hF := bs_s hF; obtain ⟨oL13, hLL13, hF⟩ := hF
   refine x_join (fun E w => (Sum.inl (())) = oL13 ∧ E 1 = .pointer (some ⟨b1, 0, none⟩) ∧ St w0 w (cells b1 30 [.int .i64 f0.Rows, .int .i64 f0.Sites, .int .i64 f0.Layers, .slice q4 f0.Blocks.length c_f0_3, .slice q3 f0.Walls.length c_f0_4, .slice q5 f0.Ports.length c_f0_5] :: ro ρ :: l)) ?_ ?_
   ·refine x_block ?_
    refine x_loop (fun k_ E w => ∃ (q9 : Int), lp (P_floor_Check_2_L13 f0 q6) k_ q9 = some oL13 ∧ E 1 = .pointer (some ⟨b1, 0, none⟩) ∧ E 5 = .int .i64 q6.1 ∧ E 6 = .int .i64 q6.2 ∧ E 84 = .slice q3 f0.Walls.length c_f0_4 ∧ E 85 = .int .i64 (f0.Walls.length : Int) ∧ E 86 = .int .i64 q9 ∧ St w0 w (cells b1 30 [.int .i64 f0.Rows, .int .i64 f0.Sites, .int .i64 f0.Layers, .slice q4 f0.Blocks.length c_f0_3, .slice q3 f0.Walls.length c_f0_4, .slice q5 f0.Ports.length c_f0_5] :: ro ρ :: l)) fuel ⟨0, hLL13, q0v, rfl, rfl, rfl, rfl, rfl, ((hS.pull 1).pull 1)⟩ ?_
    rintro kL13 E w ⟨q9, hLL13, q0k, q0l, q0m, q0p, q0q, q0h, hS⟩
    replace hLL13 := lp_s hLL13; obtain ⟨kL13, obL13, rfl, hFL13, hLL13⟩ := hLL13
    refine x_seq <| x_region <| p (yl_lss q0h q0q) <| x_done <|
     x_seq <|
     x_cond_p (q9 < (f0.Walls.length : Int)) rfl (fun hc87 => ?_) (fun hc87 => ?_)
    ·replace hFL13 := it_t hc87 hFL13
     replace hFL13 := ck_s hFL13; obtain ⟨q0z, hFL13⟩ := hFL13
     replace hFL13 := lv_s hFL13; obtain ⟨q2, q1q, hFL13⟩ := hFL13
     have q_ := q0b.get q0z; obtain ⟨q1z, q10, q1r⟩ := q_
     rw [← q1q] at q10
     have e_ := q10; subst e_
     refine x_skip <| x_seq <| x_block <| x_seq <|
      x_region <| p (yix_f sl_27 q0p q0h q0b q0z) <| pa (v := .agg #[.int .i64 q2.Layer, .int .i64 q2.X0, .int .i64 q2.Y0, .int .i64 q2.X1, .int .i64 q2.Y1]) (at_loadAgg agg_62 rfl rfl (Elt.every q1r (hS.pull 1))) <| ?_
     refine o_alloc zero_62 hS (fun b8 w' hS => ?_)
     refine o_storeAgg (news := [.int .i64 q2.Layer, .int .i64 q2.X0, .int .i64 q2.Y0, .int .i64 q2.X1, .int .i64 q2.Y1]) agg_62 rfl rfl rfl (by simp [over_length]) hS (fun w' hS => ?_)
     replace hFL13 := ar_s hFL13; obtain ⟨x94, hx94, hFL13⟩ := hFL13
     replace hFL13 := bd_s hFL13; obtain ⟨q0f, q1s, hFL13⟩ := hFL13
     refine x_done <| x_seq <| x_region <| p (yl_field0 fld_62_0 rfl) <|
      pa (at_load one_3 rfl (hS.cell rfl)) <| p (yl_field0 fld_30_2 q0k) <| pa (at_load one_3 rfl ((hS.pull 1).cell rfl)) <| p (ysub rfl rfl hx94) <| ?_
     have hcall := c_floor_within q1s  (hS.pull 2)
     refine o_cc call_23 (args3 rfl rfl rfl) ((Calls.mono hcall (fun e w'' h => And.intro h.1 ((h.2.pull 2).pull 2)))) ?_
     rintro e w' ⟨rfl, hS⟩
     refine ⟨_, rfl, ?_⟩
     replace hFL13 := ck_s hFL13; obtain ⟨q1b, hFL13⟩ := hFL13
     replace hFL13 := lv_s hFL13; obtain ⟨x101, hx101, hFL13⟩ := hFL13
     replace hFL13 := bd_s hFL13; obtain ⟨q11, q1c, hFL13⟩ := hFL13
     refine p (yl_not rfl) <| p (yl_move rfl) <| pg (v := .pointer (some ⟨b8, 1, none⟩)) 97 (c := !(!q0f)) (says_f _) (fun hq => Yl.at (yl_field0 fld_62_1 rfl)) <| pg (v := .int .i64 q2.X0) 97 (c := !(!q0f)) (says_f _) (fun hq => at_load one_3 (cv hq) (hS.cell rfl)) <|
      pg (v := .int .i64 q6.1) 97 (c := !(!q0f)) (says_f _) (fun hq => Yl.at (yl_move q0l)) <| pg (v := .int .i64 x101) 97 (c := !(!q0f)) (says_f _) (fun hq => Yl.at (ysub (cv hq) rfl ⟨hx101, (q1b hq)⟩)) <|
      pccg (v := .bool q11) 97 (c := !(!q0f)) (says_f _) call_23 (fun hq => (args3 (cv hq) rfl (cv hq))) hS (fun hq => by
       have hcall := c_floor_within (gd_t q1c hq)  (hS.pull 2)
       exact (Calls.mono hcall (fun e w'' h => And.intro h.1 ((h.2.pull 2).pull 2)))) (fun w' hS => ?_)
     replace hFL13 := lv_s hFL13; obtain ⟨x104, hx104, hFL13⟩ := hFL13
     replace hFL13 := ck_s hFL13; obtain ⟨q1d, hFL13⟩ := hFL13
     replace hFL13 := lv_s hFL13; obtain ⟨x109, hx109, hFL13⟩ := hFL13
     replace hFL13 := bd_s hFL13; obtain ⟨q12, q1e, hFL13⟩ := hFL13
     refine pg (v := .bool (!q11)) 97 (c := !(!q0f)) (says_f _) (fun hq => Yl.at (yl_not (cv hq))) <| p (yor' rfl rfl (fun hc => (cv (t_not hc))) hx104) <| p (yl_move rfl) <| pg (v := .pointer (some ⟨b8, 2, none⟩)) 105 (c := !x104) (says_f _) (fun hq => Yl.at (yl_field0 fld_62_2 rfl)) <|
      pg (v := .int .i64 q2.Y0) 105 (c := !x104) (says_f _) (fun hq => at_load one_3 (cv hq) (hS.cell rfl)) <| pg (v := .int .i64 q6.2) 105 (c := !x104) (says_f _) (fun hq => Yl.at (yl_move q0m)) <| pg (v := .int .i64 x109) 105 (c := !x104) (says_f _) (fun hq => Yl.at (ysub (cv hq) rfl ⟨hx109, (q1d hq)⟩)) <|
      pccg (v := .bool q12) 105 (c := !x104) (says_f _) call_23 (fun hq => (args3 (cv hq) rfl (cv hq))) hS (fun hq => by
       have hcall := c_floor_within (gd_t q1e hq)  (hS.pull 2)
       exact (Calls.mono hcall (fun e w'' h => And.intro h.1 ((h.2.pull 2).pull 2)))) (fun w' hS => ?_)
     replace hFL13 := lv_s hFL13; obtain ⟨x112, hx112, hFL13⟩ := hFL13
     replace hFL13 := ck_s hFL13; obtain ⟨q1f, hFL13⟩ := hFL13
     replace hFL13 := lv_s hFL13; obtain ⟨x119, hx119, hFL13⟩ := hFL13
     replace hFL13 := bd_s hFL13; obtain ⟨q13, q1g, hFL13⟩ := hFL13
     refine pg (v := .bool (!q12)) 105 (c := !x104) (says_f _) (fun hq => Yl.at (yl_not (cv hq))) <| p (yor' rfl rfl (fun hc => (cv (t_not hc))) hx112) <| p (yl_move rfl) <| pg (v := .pointer (some ⟨b8, 3, none⟩)) 113 (c := !x112) (says_f _) (fun hq => Yl.at (yl_field0 fld_62_3 rfl)) <|
      pg (v := .int .i64 q2.X1) 113 (c := !x112) (says_f _) (fun hq => at_load one_3 (cv hq) (hS.cell rfl)) <| pg (v := .pointer (some ⟨b8, 1, none⟩)) 113 (c := !x112) (says_f _) (fun hq => Yl.at (yl_field0 fld_62_1 rfl)) <| pg (v := .int .i64 q2.X0) 113 (c := !x112) (says_f _) (fun hq => at_load one_3 (cv hq) (hS.cell rfl)) <| pg (v := .int .i64 q6.1) 113 (c := !x112) (says_f _) (fun hq => Yl.at (yl_move q0l)) <|
      pg (v := .int .i64 x119) 113 (c := !x112) (says_f _) (fun hq => Yl.at (ysub (cv hq) rfl ⟨hx119, (q1f hq)⟩)) <|
      pccg (v := .bool q13) 113 (c := !x112) (says_f _) call_23 (fun hq => (args3 (cv hq) (cv hq) (cv hq))) hS (fun hq => by
       have hcall := c_floor_within (gd_t q1g hq)  (hS.pull 2)
       exact (Calls.mono hcall (fun e w'' h => And.intro h.1 ((h.2.pull 2).pull 2)))) (fun w' hS => ?_)
     replace hFL13 := lv_s hFL13; obtain ⟨x122, hx122, hFL13⟩ := hFL13
     replace hFL13 := ck_s hFL13; obtain ⟨q1h, hFL13⟩ := hFL13
     replace hFL13 := lv_s hFL13; obtain ⟨x129, hx129, hFL13⟩ := hFL13
     replace hFL13 := bd_s hFL13; obtain ⟨q14, q1i, hFL13⟩ := hFL13
     refine pg (v := .bool (!q13)) 113 (c := !x112) (says_f _) (fun hq => Yl.at (yl_not (cv hq))) <| p (yor' rfl rfl (fun hc => (cv (t_not hc))) hx122) <| p (yl_move rfl) <| pg (v := .pointer (some ⟨b8, 4, none⟩)) 123 (c := !x122) (says_f _) (fun hq => Yl.at (yl_field0 fld_62_4 rfl)) <|
      pg (v := .int .i64 q2.Y1) 123 (c := !x122) (says_f _) (fun hq => at_load one_3 (cv hq) (hS.cell rfl)) <| pg (v := .pointer (some ⟨b8, 2, none⟩)) 123 (c := !x122) (says_f _) (fun hq => Yl.at (yl_field0 fld_62_2 rfl)) <| pg (v := .int .i64 q2.Y0) 123 (c := !x122) (says_f _) (fun hq => at_load one_3 (cv hq) (hS.cell rfl)) <| pg (v := .int .i64 q6.2) 123 (c := !x122) (says_f _) (fun hq => Yl.at (yl_move q0m)) <|
      pg (v := .int .i64 x129) 123 (c := !x122) (says_f _) (fun hq => Yl.at (ysub (cv hq) rfl ⟨hx129, (q1h hq)⟩)) <|
      pccg (v := .bool q14) 123 (c := !x122) (says_f _) call_23 (fun hq => (args3 (cv hq) (cv hq) (cv hq))) hS (fun hq => by
       have hcall := c_floor_within (gd_t q1i hq)  (hS.pull 2)
       exact (Calls.mono hcall (fun e w'' h => And.intro h.1 ((h.2.pull 2).pull 2)))) (fun w' hS => ?_)
     replace hFL13 := lv_s hFL13; obtain ⟨x132, hx132, hFL13⟩ := hFL13
     refine pg (v := .bool (!q14)) 123 (c := !x122) (says_f _) (fun hq => Yl.at (yl_not (cv hq))) <| p (yor' rfl rfl (fun hc => (cv (t_not hc))) hx132) <| x_done <|
      x_cond (t := x132) rfl (fun hc132 => ?_) (fun hc132 => ?_)
     ·replace hFL13 := it_t hc132 hFL13
      refine x_seq <| x_region <| p (yl_assign rfl) <| x_done <| ?_
      have e_ := sinj hFL13; subst e_
      have e_ := (show _ = oL13 from hLL13); subst e_
      have e_ := sinj hF; subst e_
      exact x_return ⟨_, ⟨_, _, rfl, rfl, rfl⟩, rfl, hS.drop.drop⟩
     ·replace hFL13 := it_bf hc132 hFL13
      replace hFL13 := ar_s hFL13; obtain ⟨x133, hx133, hFL13⟩ := hFL13
      refine x_skip <| x_blk <| x_region <| p (yadd q0h rfl hx133) <|
       p (yl_move rfl) <| x_done <| ?_
      have e_ := sinj hFL13; subst e_
      exact x_inv ⟨kL13, Nat.lt_succ_self _, x133, hLL13, q0k, q0l, q0m, q0p, q0q, rfl, ((hS.drop.pull 1).pull 1)⟩
    ·replace hFL13 := it_f hc87 hFL13
     refine x_exitTo _ rfl <| ?_
     have e_ := sinj hFL13; subst e_
     exact x_inv ⟨hLL13, q0k, ((hS.pull 1).pull 1)⟩
   rintro E w ⟨rfl, q15, hS⟩
   refine x_seq <| x_seq <| x_region <| p (yl_field0 fld_30_5 q15) <|
    pa (at_load one_28 rfl (hS.cell rfl)) <| p (yl_len_slice usl_28 rfl) <| p (yl_move rfl) <| x_done <| ?_
   replace hF := bs_s hF; obtain ⟨oL19, hLL19, hF⟩ := hF
   refine x_join (fun E w => (Sum.inl (())) = oL19 ∧ St w0 w (ro ρ :: l)) ?_ ?_
   ·refine x_block ?_
    refine x_loop (fun k_ E w => ∃ (q7 : Int), lp (P_floor_Check_2_L19 f0) k_ q7 = some oL19 ∧ E 1 = .pointer (some ⟨b1, 0, none⟩) ∧ E 136 = .int .i64 (f0.Ports.length : Int) ∧ E 137 = .int .i64 q7 ∧ St w0 w (cells b1 30 [.int .i64 f0.Rows, .int .i64 f0.Sites, .int .i64 f0.Layers, .slice q4 f0.Blocks.length c_f0_3, .slice q3 f0.Walls.length c_f0_4, .slice q5 f0.Ports.length c_f0_5] :: ro ρ :: l)) fuel ⟨0, hLL19, q15, rfl, rfl, ((hS.pull 1).pull 1)⟩ ?_
    rintro kL19 E w ⟨q7, hLL19, q0t, q0n, q0d, hS⟩
    replace hLL19 := lp_s hLL19; obtain ⟨kL19, obL19, rfl, hFL19, hLL19⟩ := hLL19
    refine x_seq <| x_region <| p (yl_lss q0d q0n) <| x_done <|
     x_seq <|
     x_cond_p (q7 < (f0.Ports.length : Int)) rfl (fun hc138 => ?_) (fun hc138 => ?_)
    ·replace hFL19 := it_t hc138 hFL19
     replace hFL19 := bd_s hFL19; obtain ⟨q0i, q1t, hFL19⟩ := hFL19
     refine x_skip <| x_seq <| x_block <| x_seq <|
      x_region <| p (yl_move q0d) <| p (yl_assign rfl) <| x_done <|
      x_seq <| x_region <| pa (v := .agg #[.int .i64 f0.Rows, .int .i64 f0.Sites, .int .i64 f0.Layers, .slice q4 f0.Blocks.length c_f0_3, .slice q3 f0.Walls.length c_f0_4, .slice q5 f0.Ports.length c_f0_5]) (ld_sub agg_30 q0t rfl rfl hS) <| p (yl_move rfl) <| ?_
     have hcall := c_floor_checkPort q1t q0a q0b q0o (hS.pull 1)
     refine o_cc call_24 (args2 rfl rfl) ((Calls.mono hcall (fun e w'' h => And.intro h.1 (h.2.pull 1)))) ?_
     rintro e w' ⟨rfl, hS⟩
     refine ⟨_, rfl, ?_⟩
     refine p (v := .int .i64 q0i) (yl_assign rfl) <| x_done <| x_seq <| x_region <|
      p (v := .int .i64 q0i) (yl_move rfl) <| p (yl_neq rfl rfl) <| x_done <|
      x_cond_p (q0i ≠ 0) rfl (fun hc144 => ?_) (fun hc144 => ?_)
     ·replace hFL19 := it_t hc144 hFL19
      refine x_seq <| x_region <| p (v := .int .i64 q0i) (yl_move rfl) <| p (v := .int .i64 q0i) (yl_assign rfl) <|
       x_done <| ?_
      have e_ := sinj hFL19; subst e_
      have e_ := (show _ = oL19 from hLL19); subst e_
      have e_ := sinj hF; subst e_
      exact x_return ⟨_, ⟨_, _, rfl, rfl, rfl⟩, rfl, hS.drop⟩
     ·replace hFL19 := it_f hc144 hFL19
      replace hFL19 := ar_s hFL19; obtain ⟨x146, hx146, hFL19⟩ := hFL19
      refine x_skip <| x_blk <| x_region <| p (yadd q0d rfl hx146) <|
       p (yl_move rfl) <| x_done <| ?_
      have e_ := sinj hFL19; subst e_
      exact x_inv ⟨kL19, Nat.lt_succ_self _, x146, hLL19, q0t, q0n, rfl, ((hS.pull 1).pull 1)⟩
    ·replace hFL19 := it_f hc138 hFL19
     refine x_exitTo _ rfl <| ?_
     have e_ := sinj hFL19; subst e_
     exact x_inv ⟨hLL19, hS.drop⟩
   rintro E w ⟨rfl, hS⟩
   refine x_seq <| x_region <| p (yl_assign rfl) <| x_done <| ?_
   have e_ := sinj hF; subst e_
   exact x_return ⟨_, ⟨_, _, rfl, rfl, rfl⟩, rfl, hS⟩
attribute [irreducible] P_floor_Check_2

def P_slices_Index_global_Edge_global_Edge_L2 (s0 : List T_global_Edge) (v1 : T_global_Edge) : Int → Option (Int ⊕ (Unit ⊕ Int)) := fun q2 =>
 if q2 < (s0.length : Int) then
  ck (inb q2 s0.length) <|
  lv (gt s0 q2) fun q3 =>
  lv ((v1.From == q3.From) && ((v1.To == q3.To) && true)) fun x16 =>
  if x16 = true then
   some (Sum.inr (Sum.inr q2))
  else
   ar (q2 + 1) fun x18 =>
   some (Sum.inl x18)
 else
  some (Sum.inr (Sum.inl ()))
def P_slices_Index_global_Edge_global_Edge (s0 : List T_global_Edge) (v1 : T_global_Edge) : Option Int :=
 bs (
  lp (P_slices_Index_global_Edge_global_Edge_L2 s0 v1) fuel 0) (fun y => some y) fun _ =>
 some (-1 : Int)
theorem c_slices_Index_global_Edge_global_Edge {w0 w : World} {l : List Assn} {ρ : Heap} {q7 : Option Addr} {q0b : Nat} {c_s0 : Nat} {s0 : List T_global_Edge} {v1 : T_global_Edge} {r : Int} (hF : P_slices_Index_global_Edge_global_Edge s0 v1 = some r) (q8 : RdS R_global_Edge ρ q7 q0b c_s0 s0) (hS : St w0 w (ro ρ :: l)) :
  Calls Tryd.prog 36 #[.slice q7 q0b c_s0, .agg #[.int .i64 v1.From, .int .i64 v1.To]] w fun e w' => e = .returned (.int .i64 r) ∧ St w0 w' (ro ρ :: l) := by
 have e_ := q8.n; subst e_
 refine enterC Tryd.func36 rfl 19 rfl (by simp) ?_
 refine x_seq <| x_region <| ?_
 refine o_box (cs := [.int .i64 v1.From, .int .i64 v1.To]) rfl rfl hS (fun b3 w' hS => ?_)
 refine p (yl_assign rfl) <| x_done <| x_seq <| x_seq <|
  x_region <| p (yl_move rfl) <| p (yl_len_slice usl_51 rfl) <| p (yl_move rfl) <|
  x_done <| ?_
 replace hF := bs_s hF; obtain ⟨oL2, hLL2, hF⟩ := hF
 refine x_join (fun E w => (Sum.inl (())) = oL2 ∧ St w0 w (ro ρ :: l)) ?_ ?_
 ·refine x_block ?_
  refine x_loop (fun k_ E w => ∃ (q2 : Int), lp (P_slices_Index_global_Edge_global_Edge_L2 s0 v1) k_ q2 = some oL2 ∧ E 0 = .slice q7 s0.length c_s0 ∧ E 3 = .pointer (some ⟨b3, 0, none⟩) ∧ E 7 = .int .i64 (s0.length : Int) ∧ E 8 = .int .i64 q2 ∧ St w0 w (cells b3 53 [.int .i64 v1.From, .int .i64 v1.To] :: ro ρ :: l)) fuel ⟨0, hLL2, rfl, rfl, rfl, rfl, ((hS.pull 1).pull 1)⟩ ?_
  rintro kL2 E w ⟨q2, hLL2, q4, q5, q6, q3, hS⟩
  replace hLL2 := lp_s hLL2; obtain ⟨kL2, obL2, rfl, hFL2, hLL2⟩ := hLL2
  refine x_seq <| x_region <| p (yl_lss q3 q6) <| x_done <|
   x_seq <|
   x_cond_p (q2 < (s0.length : Int)) rfl (fun hc9 => ?_) (fun hc9 => ?_)
  ·replace hFL2 := it_t hc9 hFL2
   replace hFL2 := ck_s hFL2; obtain ⟨q9, hFL2⟩ := hFL2
   replace hFL2 := lv_s hFL2; obtain ⟨q0c, q0d, hFL2⟩ := hFL2
   have q_ := q8.get q9; obtain ⟨q0f, q0a, q0e⟩ := q_
   rw [← q0d] at q0a
   have e_ := q0a; subst e_
   replace hFL2 := lv_s hFL2; obtain ⟨x16, hx16, hFL2⟩ := hFL2
   refine x_skip <| x_seq <| x_block <| x_seq <|
    x_region <| p (yl_move q3) <| p (yl_assign rfl) <| x_done <|
    x_seq <| x_still mixed (by kernel_rfl) hS <| qa (v := .agg #[.int .i64 v1.From, .int .i64 v1.To]) (fun w' hS => ld_sub agg_53 q5 rfl rfl hS) <| q (yl_move q4) <|
    q (yl_move rfl) <| q (yix_f sl_51 rfl rfl q8 q9) <| qa (v := .agg #[.int .i64 q0c.From, .int .i64 q0c.To]) (fun w' hS => at_loadAgg agg_53 rfl rfl (Elt.every q0e (hS.pull 1))) <| q (yeqs eqs_53 rfl rfl rfl hx16) <|
    q_done fun w' hS => ?_
   refine x_cond (t := x16) rfl (fun hc16 => ?_) (fun hc16 => ?_)
   ·replace hFL2 := it_t hc16 hFL2
    refine x_seq <| x_region <| p (yl_move rfl) <| p (yl_assign rfl) <|
     x_done <| ?_
    have e_ := sinj hFL2; subst e_
    have e_ := (show _ = oL2 from hLL2); subst e_
    have e_ := sinj hF; subst e_
    exact x_return ⟨_, ⟨_, _, rfl, rfl, rfl⟩, rfl, hS.drop⟩
   ·replace hFL2 := it_bf hc16 hFL2
    replace hFL2 := ar_s hFL2; obtain ⟨x18, hx18, hFL2⟩ := hFL2
    refine x_skip <| x_blk <| x_region <| p (yadd q3 rfl hx18) <|
     p (yl_move rfl) <| x_done <| ?_
    have e_ := sinj hFL2; subst e_
    exact x_inv ⟨kL2, Nat.lt_succ_self _, x18, hLL2, q4, q5, q6, rfl, ((hS.pull 1).pull 1)⟩
  ·replace hFL2 := it_f hc9 hFL2
   refine x_exitTo _ rfl <| ?_
   have e_ := sinj hFL2; subst e_
   exact x_inv ⟨hLL2, hS.drop⟩
 rintro E w ⟨rfl, hS⟩
 refine x_seq <| x_region <| p (yl_assign rfl) <| x_done <| ?_
 have e_ := sinj hF; subst e_
 exact x_return ⟨_, ⟨_, _, rfl, rfl, rfl⟩, rfl, hS⟩
attribute [irreducible] P_slices_Index_global_Edge_global_Edge

def P_slices_Contains_global_Edge_global_Edge (s0 : List T_global_Edge) (v1 : T_global_Edge) : Option Bool :=
 bd (P_slices_Index_global_Edge_global_Edge s0 v1) fun q2 =>
 some (decide (0 ≤ q2))
theorem c_slices_Contains_global_Edge_global_Edge {w0 w : World} {l : List Assn} {ρ : Heap} {q2 : Option Addr} {q3 : Nat} {c_s0 : Nat} {s0 : List T_global_Edge} {v1 : T_global_Edge} {r : Bool} (hF : P_slices_Contains_global_Edge_global_Edge s0 v1 = some r) (q4 : RdS R_global_Edge ρ q2 q3 c_s0 s0) (hS : St w0 w (ro ρ :: l)) :
  Calls Tryd.prog 26 #[.slice q2 q3 c_s0, .agg #[.int .i64 v1.From, .int .i64 v1.To]] w fun e w' => e = .returned (.bool r) ∧ St w0 w' (ro ρ :: l) := by
 have e_ := q4.n; subst e_
 refine enterC Tryd.func26 rfl 9 rfl (by simp) ?_
 refine x_seq <| x_region <| ?_
 refine o_box (cs := [.int .i64 v1.From, .int .i64 v1.To]) rfl rfl hS (fun b3 w' hS => ?_)
 replace hF := bd_s hF; obtain ⟨q6, q5, hF⟩ := hF
 refine p (yl_assign rfl) <| x_done <| x_seq <| x_region <|
  p (yl_move rfl) <| pa (v := .agg #[.int .i64 v1.From, .int .i64 v1.To]) (ld_sub agg_53 rfl rfl rfl hS) <| ?_
 have hcall := c_slices_Index_global_Edge_global_Edge q5 q4 (hS.pull 1)
 refine o_cc call_36 (args2 rfl rfl) ((Calls.mono hcall (fun e w'' h => And.intro h.1 (h.2.pull 1)))) ?_
 rintro e w' ⟨rfl, hS⟩
 refine ⟨_, rfl, ?_⟩
 refine p (yl_geq rfl rfl) <| p (yl_assign rfl) <| x_done <| ?_
 have e_ := sinj hF; subst e_
 exact x_return ⟨_, ⟨_, _, rfl, rfl, rfl⟩, rfl, hS.drop⟩
attribute [irreducible] P_slices_Contains_global_Edge_global_Edge

def P_global_joins_1_L1 (q3 : List (Int × Int)) : Int → Option (Int ⊕ Int) := fun q2 =>
 lv (mget q2 q3 0) fun x9 =>
 lv (mhas q2 q3) fun q9 =>
 lv ((!q9) || (decide (x9 = q2))) fun x18 =>
 if x18 = true then
  some (Sum.inr q2)
 else
  some (Sum.inl x9)
def P_global_joins_1 (k0 : Int) (q2 : List (Int × Int)) : Option Int :=
 bd (
  lp (P_global_joins_1_L1 q2) fuel k0) fun y => some y
theorem c_global_joins_1 {w0 w : World} {l : List Assn} {ρ : Heap} {q4 : Nat} {q2 : Nat} {k0 : Int} {q5 : List (Int × Int)} {r : Int} (hF : P_global_joins_1 k0 q5 = some r) (hS : St w0 w (cells q4 89 [.map (some q2)] :: mapA q2 (Value.int .i64) (Value.int .i64) q5 :: ro ρ :: l)) :
  Calls Tryd.prog 37 #[.int .i64 k0, .pointer (some ⟨q4, 0, none⟩)] w fun e w' => e = .returned (.int .i64 r) ∧ St w0 w' (cells q4 89 [.map (some q2)] :: mapA q2 (Value.int .i64) (Value.int .i64) q5 :: ro ρ :: l) := by
 refine enterC Tryd.func37 rfl 21 rfl (by simp) ?_
 refine x_seq <| x_region <| p (yl_assign rfl) <| x_done <|
  x_block <| ?_
 replace hF := bd_s hF; obtain ⟨oL1, hLL1, hF⟩ := hF
 refine x_loop (fun k_ E w => ∃ (q3 : Int), lp (P_global_joins_1_L1 q5) k_ q3 = some oL1 ∧ E 0 = .int .i64 q3 ∧ E 1 = .pointer (some ⟨q4, 0, none⟩) ∧ St w0 w (cells q4 89 [.map (some q2)] :: mapA q2 (Value.int .i64) (Value.int .i64) q5 :: ro ρ :: l)) fuel ⟨k0, hLL1, rfl, rfl, (((hS.pull 2).pull 2).pull 2)⟩ ?_
 rintro kL1 E w ⟨q3, hLL1, q6, q7, hS⟩
 replace hLL1 := lp_s hLL1; obtain ⟨kL1, obL1, rfl, hFL1, hLL1⟩ := hLL1
 unfold P_global_joins_1_L1 at hFL1; try dsimp only at hFL1
 replace hFL1 := lv_s hFL1; obtain ⟨x9, hx9, hFL1⟩ := hFL1
 replace hFL1 := lv_s hFL1; obtain ⟨q9, hq9, hFL1⟩ := hFL1
 replace hFL1 := lv_s hFL1; obtain ⟨x18, hx18, hFL1⟩ := hFL1
 refine x_block <| x_seq <| x_region <| pa (at_load one_89 q7 (hS.cell rfl)) <|
  p (yl_move q6) <| pa (at_look2 (k := q3) um_89 (KeyP.int ui_3) (zero1 zv_3) rfl rfl (hS.pull 1) hx9 hq9) <| p (yl_move rfl) <| p (yl_extract rfl rfl) <|
  p (yl_extract rfl rfl) <| p (yl_assign rfl) <| p (yl_assign rfl) <| x_done <|
  x_seq <| x_seq <| x_region <| p (yl_move rfl) <|
  p (yl_not rfl) <| p (yl_move rfl) <| pg (v := .int .i64 x9) 14 (c := !(!q9)) (says_f _) (fun hq => Yl.at (yl_move rfl)) <| pg (v := .int .i64 q3) 14 (c := !(!q9)) (says_f _) (fun hq => Yl.at (yl_move q6)) <|
  pg (v := .bool (decide (x9 = q3))) 14 (c := !(!q9)) (says_f _) (fun hq => Yl.at (yl_eql (cv hq) (cv hq))) <| p (yor' rfl rfl (fun hc => (cv (t_not hc))) hx18) <| x_done <|
  x_cond (t := x18) rfl (fun hc18 => ?_) (fun hc18 => ?_)
 ·replace hFL1 := it_t hc18 hFL1
  refine x_seq <| x_region <| p (yl_move q6) <| p (yl_assign rfl) <|
   x_done <| ?_
  have e_ := sinj hFL1; subst e_
  have e_ := (show _ = oL1 from hLL1); subst e_
  have e_ := sinj hF; subst e_
  exact x_return ⟨_, ⟨_, _, rfl, rfl, rfl⟩, rfl, (((hS.pull 2).pull 2).pull 2)⟩
 ·replace hFL1 := it_bf hc18 hFL1
  refine x_skip <| x_region <| p (yl_move rfl) <| p (yl_assign rfl) <|
   x_done <| x_blk <| ?_
  have e_ := sinj hFL1; subst e_
  exact x_inv ⟨kL1, Nat.lt_succ_self _, x9, hLL1, rfl, q7, (((hS.pull 2).pull 2).pull 2)⟩
attribute [irreducible] P_global_joins_1

def P_global_joins_L4 (way2 : List T_global_Edge) : (Int × List (Int × Int)) → Option ((Int × List (Int × Int)) ⊕ (List (Int × Int) ⊕ Int)) := fun (q3, q2) =>
 if q3 < (way2.length : Int) then
  ck (inb q3 way2.length) <|
  lv (gt way2 q3) fun q4 =>
  bd (P_global_joins_1 q4.From q2) fun q5 =>
  bd (P_global_joins_1 q4.To q2) fun q6 =>
  if q5 = q6 then
   some (Sum.inr (Sum.inr (17 : Int)))
  else
   lv (mput q5 q6 q2) fun q7 =>
   ar (q3 + 1) fun x42 =>
   some (Sum.inl (x42, q7))
 else
  some (Sum.inr (Sum.inl q2))
def P_global_joins_L13 (f0 : T_floor_Floor) (n1 : T_legal_Net) : (List Int × Int) → Option ((List Int × Int) ⊕ List Int) := fun (q3, q2) =>
 if q2 < (n1.Pins.length : Int) then
  ck (inb q2 n1.Pins.length) <|
  lv (gt n1.Pins q2) fun q4 =>
  bd (P_global_Of f0 (T_floor_Point.mk q4.At.X q4.At.Y)) fun q6 =>
  lv (q3 ++ [q6]) fun q5 =>
  ck (apOk 8 q5.length) <|
  ar (q2 + 1) fun x57 =>
  some (Sum.inl (q5, x57))
 else
  some (Sum.inr q3)
def P_global_joins_L18 (way2 : List T_global_Edge) : (List Int × Int) → Option ((List Int × Int) ⊕ List Int) := fun (q3, q2) =>
 if q2 < (way2.length : Int) then
  ck (inb q2 way2.length) <|
  lv (gt way2 q2) fun q5 =>
  lv (q3 ++ [q5.From]) fun q4 =>
  ck (apOk 8 q4.length) <|
  ar (q2 + 1) fun x69 =>
  some (Sum.inl (q4, x69))
 else
  some (Sum.inr q3)
def P_global_joins_L23 (q4 : List (Int × Int)) (q2 : List Int) : Int → Option (Int ⊕ (Unit ⊕ Int)) := fun q3 =>
 if q3 < (q2.length : Int) then
  ck (inb q3 q2.length) <|
  lv (gt q2 q3) fun x75 =>
  bd (P_global_joins_1 x75 q4) fun q5 =>
  ck (inb 0 q2.length) <|
  lv (gt q2 (0 : Int)) fun x82 =>
  bd (P_global_joins_1 x82 q4) fun q6 =>
  if q5 ≠ q6 then
   some (Sum.inr (Sum.inr (18 : Int)))
  else
   ar (q3 + 1) fun x85 =>
   some (Sum.inl x85)
 else
  some (Sum.inr (Sum.inl ()))
def P_global_joins (f0 : T_floor_Floor) (n1 : T_legal_Net) (way2 : List T_global_Edge) : Option Int :=
 bs (
  lp (P_global_joins_L4 way2) fuel (0, [])) (fun y => some y) fun q4 =>
 bd (
  lp (P_global_joins_L13 f0 n1) fuel ([], 0)) fun q2 =>
 bd (
  lp (P_global_joins_L18 way2) fuel (q2, 0)) fun q3 =>
 bs (
  lp (P_global_joins_L23 q4 q3) fuel 0) (fun y => some y) fun _ =>
 some (0 : Int)
theorem c_global_joins {w0 w : World} {l : List Assn} {ρ : Heap} {q0m : Option Addr} {q2d : Nat} {c_f0_3 : Nat} {q0n : Option Addr} {q2e : Nat} {c_f0_4 : Nat} {q0o : Option Addr} {q2f : Nat} {c_f0_5 : Nat} {q0s : Option Addr} {q2g : Nat} {c_n1_1 : Nat} {q0p : Option Addr} {q2h : Nat} {c_way2 : Nat} {f0 : T_floor_Floor} {n1 : T_legal_Net} {way2 : List T_global_Edge} {r : Int} (hF : P_global_joins f0 n1 way2 = some r) (q2i : RdS R_floor_Block ρ q0m q2d c_f0_3 f0.Blocks) (q2j : RdS R_floor_Wall ρ q0n q2e c_f0_4 f0.Walls) (q2k : RdS R_floor_Port ρ q0o q2f c_f0_5 f0.Ports) (q1t : RdS R_legal_Pin ρ q0s q2g c_n1_1 n1.Pins) (q10 : RdS R_global_Edge ρ q0p q2h c_way2 way2) (hS : St w0 w (ro ρ :: l)) :
  Calls Tryd.prog 27 #[.agg #[.int .i64 f0.Rows, .int .i64 f0.Sites, .int .i64 f0.Layers, .slice q0m q2d c_f0_3, .slice q0n q2e c_f0_4, .slice q0o q2f c_f0_5], .agg #[.string n1.Name, .slice q0s q2g c_n1_1], .slice q0p q2h c_way2] w fun e w' => e = .returned (.int .i64 r) ∧ St w0 w' (ro ρ :: l) := by
 have e_ := q2i.n; subst e_
 have e_ := q2j.n; subst e_
 have e_ := q2k.n; subst e_
 have e_ := q1t.n; subst e_
 have e_ := q10.n; subst e_
 refine enterC Tryd.func27 rfl 86 rfl (by simp) ?_
 refine x_seq <| x_region <| ?_
 refine o_box (cs := [.int .i64 f0.Rows, .int .i64 f0.Sites, .int .i64 f0.Layers, .slice q0m f0.Blocks.length c_f0_3, .slice q0n f0.Walls.length c_f0_4, .slice q0o f0.Ports.length c_f0_5]) rfl rfl hS (fun b3 w' hS => ?_)
 refine o_box (cs := [.string n1.Name, .slice q0s n1.Pins.length c_n1_1]) rfl rfl hS (fun b4 w' hS => ?_)
 refine p (yl_assign rfl) <| x_done <| x_seq <| x_region <| ?_
 refine o_mkmap (κ := Int) (α := Int) (Value.int .i64) (Value.int .i64) hS (fun b20 w' hS => ?_)
 refine o_alloc zero_89 hS (fun b7 w' hS => ?_)
 refine o_store1 (v := .map (some b20)) one_89 rfl rfl rfl rfl hS (fun w' hS => ?_)
 refine x_done <| x_seq <| x_region <| p (v := .func (.func 37) #[] #[.pointer (some ⟨b7, 0, none⟩)]) (yl_makeFunc (by simp only [List.map_toArray, List.map_nil]) (by simp only [List.map_toArray, List.map_cons, List.map_nil]; rfl)) <|
  p (v := .func (.func 37) #[] #[.pointer (some ⟨b7, 0, none⟩)]) (yl_assign rfl) <| x_done <| x_seq <| x_seq <|
  x_region <| p (yl_move rfl) <| p (yl_len_slice usl_51 rfl) <| p (yl_move rfl) <|
  x_done <| ?_
 replace hF := bs_s hF; obtain ⟨oL4, hLL4, hF⟩ := hF
 refine x_join (fun E w => ∃ (q5 : List (Int × Int)), (Sum.inl q5) = oL4 ∧ E 2 = .slice q0p way2.length c_way2 ∧ E 3 = .pointer (some ⟨b3, 0, none⟩) ∧ E 4 = .pointer (some ⟨b4, 0, none⟩) ∧ E 8 = .func (.func 37) #[] #[.pointer (some ⟨b7, 0, none⟩)] ∧ St w0 w (cells b3 30 [.int .i64 f0.Rows, .int .i64 f0.Sites, .int .i64 f0.Layers, .slice q0m f0.Blocks.length c_f0_3, .slice q0n f0.Walls.length c_f0_4, .slice q0o f0.Ports.length c_f0_5] :: cells b4 38 [.string n1.Name, .slice q0s n1.Pins.length c_n1_1] :: cells b7 89 [.map (some b20)] :: mapA b20 (Value.int .i64) (Value.int .i64) q5 :: ro ρ :: l)) ?_ ?_
 ·refine x_block ?_
  refine x_loop (fun k_ E w => ∃ (q11 : Int) (q8 : List (Int × Int)), lp (P_global_joins_L4 way2) k_ (q11, q8) = some oL4 ∧ E 2 = .slice q0p way2.length c_way2 ∧ E 3 = .pointer (some ⟨b3, 0, none⟩) ∧ E 4 = .pointer (some ⟨b4, 0, none⟩) ∧ E 7 = .pointer (some ⟨b7, 0, none⟩) ∧ E 8 = .func (.func 37) #[] #[.pointer (some ⟨b7, 0, none⟩)] ∧ E 22 = .slice q0p way2.length c_way2 ∧ E 23 = .int .i64 (way2.length : Int) ∧ E 24 = .int .i64 q11 ∧ St w0 w (cells b3 30 [.int .i64 f0.Rows, .int .i64 f0.Sites, .int .i64 f0.Layers, .slice q0m f0.Blocks.length c_f0_3, .slice q0n f0.Walls.length c_f0_4, .slice q0o f0.Ports.length c_f0_5] :: cells b4 38 [.string n1.Name, .slice q0s n1.Pins.length c_n1_1] :: cells b7 89 [.map (some b20)] :: mapA b20 (Value.int .i64) (Value.int .i64) q8 :: ro ρ :: l)) fuel ⟨0, [], hLL4, rfl, rfl, rfl, rfl, rfl, rfl, rfl, rfl, (((((hS.pull 4).pull 2).pull 2).pull 3).pull 4)⟩ ?_
  rintro kL4 E w ⟨q11, q8, hLL4, q2l, q2m, q2n, q2o, q1h, q23, q24, q1j, hS⟩
  replace hLL4 := lp_s hLL4; obtain ⟨kL4, obL4, rfl, hFL4, hLL4⟩ := hLL4
  refine x_seq <| x_region <| p (yl_lss q1j q24) <| x_done <|
   x_seq <|
   x_cond_p (q11 < (way2.length : Int)) rfl (fun hc25 => ?_) (fun hc25 => ?_)
  ·replace hFL4 := it_t hc25 hFL4
   replace hFL4 := ck_s hFL4; obtain ⟨q2v, hFL4⟩ := hFL4
   replace hFL4 := lv_s hFL4; obtain ⟨q6, q3e, hFL4⟩ := hFL4
   have q_ := q10.get q2v; obtain ⟨q3q, q2w, q3f⟩ := q_
   rw [← q3e] at q2w
   have e_ := q2w; subst e_
   refine x_skip <| x_seq <| x_block <| x_seq <|
    x_region <| p (yix_f sl_51 q23 q1j q10 q2v) <| pa (v := .agg #[.int .i64 q6.From, .int .i64 q6.To]) (at_loadAgg agg_53 rfl rfl (Elt.every q3f (hS.pull 4))) <| ?_
   refine o_alloc zero_53 hS (fun b10 w' hS => ?_)
   refine o_storeAgg (news := [.int .i64 q6.From, .int .i64 q6.To]) agg_53 rfl rfl rfl (by simp [over_length]) hS (fun w' hS => ?_)
   refine x_done <| x_seq <| ?_
   replace hFL4 := bd_s hFL4; obtain ⟨q0v, q3g, hFL4⟩ := hFL4
   replace hFL4 := bd_s hFL4; obtain ⟨q0w, q3h, hFL4⟩ := hFL4
   refine x_par (w0 := w0) [⟨[], [], [28], [], [], [], none⟩, ⟨[], [], [29], [], [], [], none⟩, ⟨[1], [1], [30], [0], [], [], none⟩, ⟨[0, 1, 2], [0, 2], [31], [1, 2, 3], [], [], none⟩, ⟨[], [], [32], [], [], [], none⟩, ⟨[], [], [33], [], [], [], none⟩, ⟨[5], [5], [34], [0], [], [], none⟩, ⟨[0, 1, 2, 3, 4, 5, 6], [4, 6], [35], [1, 2, 3], [], [], none⟩, ⟨[0, 1, 2, 3, 4, 5, 6, 7], [3], [11], [], [], [], none⟩, ⟨[0, 1, 2, 3, 4, 5, 6, 7, 8], [7], [12], [], [], [], none⟩] [⟨none, none, []⟩, ⟨none, none, []⟩, ⟨none, none, []⟩, ⟨none, none, []⟩] [11, 12, 28, 29, 30, 31, 32, 33, 34, 35] [0, 1, 2, 3] [0, 1, 2, 3] [0, 1, 2, 3, 4, 5, 6, 7, 8, 9] [fun Ep6 => Ep6 28 = .func (.func 37) #[] #[.pointer (some ⟨b7, 0, none⟩)], fun Ep6 => Ep6 29 = .pointer (some ⟨b10, 0, none⟩), fun Ep6 => Ep6 30 = .int .i64 q6.From, fun Ep6 => Ep6 31 = .int .i64 q0v, fun Ep6 => Ep6 32 = .func (.func 37) #[] #[.pointer (some ⟨b7, 0, none⟩)], fun Ep6 => Ep6 33 = .pointer (some ⟨b10, 1, none⟩), fun Ep6 => Ep6 34 = .int .i64 q6.To, fun Ep6 => Ep6 35 = .int .i64 q0w, fun Ep6 => Ep6 11 = .int .i64 q0v, fun Ep6 => Ep6 12 = .int .i64 q0w] [fun Ep6 => cells b10 53 [.int .i64 q6.From, .int .i64 q6.To], fun Ep6 => cells b7 89 [.map (some b20)], fun Ep6 => mapA b20 (Value.int .i64) (Value.int .i64) q8, fun Ep6 => ro ρ] mixed (by kernel_rfl) ((((hS.pull 5).pull 5).pull 5).pull 3) ?_ ?_
   ·refine ⟨?_, ?_, ?_, ?_, ?_, ?_, ?_, ?_, ?_, ?_, trivial⟩
    ·intro Ep6 w l' hE6 hO6 hF_ hS
     refine p (yl_move ((hE6 8 rfl).trans q1h)) <| x_done <| ?_
     refine x_fin ⟨⟨_, rfl⟩, rfl, ?_⟩
     exact emk hS
    ·intro Ep6 w l' hE6 hO6 hF_ hS
     refine p (yl_field0 fld_53_0 (hE6 10 rfl)) <| x_done <| ?_
     refine x_fin ⟨⟨_, rfl⟩, rfl, ?_⟩
     exact emk hS
    ·intro Ep6 w l' hE6 hO6 hF_ hS
     obtain ⟨q1k, -⟩ := hF_
     replace q1k : Ep6 29 = .pointer (some ⟨b10, 0, none⟩) := emk q1k
     replace hS : St w0 w (cells b10 53 [.int .i64 q6.From, .int .i64 q6.To] :: l') := emk hS
     refine pa (at_load one_3 q1k (hS.cell rfl)) <| x_done <| ?_
     refine x_fin ⟨⟨_, rfl⟩, rfl, ?_⟩
     exact emk hS
    ·intro Ep6 w l' hE6 hO6 hF_ hS
     obtain ⟨q1l, q1m, -⟩ := hF_
     replace q1l : Ep6 28 = .func (.func 37) #[] #[.pointer (some ⟨b7, 0, none⟩)] := emk q1l
     replace q1m : Ep6 30 = .int .i64 q6.From := emk q1m
     replace hS : St w0 w (cells b7 89 [.map (some b20)] :: mapA b20 (Value.int .i64) (Value.int .i64) q8 :: ro ρ :: l') := emk hS
     have hcall := c_global_joins_1 q3g  hS
     refine o_ccv q1l call_37 (capargs (args1 q1m)) (hcall) ?_
     rintro e w' ⟨rfl, hS⟩
     refine ⟨_, rfl, ?_⟩
     refine x_done <| ?_
     refine x_fin ⟨⟨_, rfl⟩, rfl, ?_⟩
     exact emk (((hS.pull 2).pull 2).pull 2)
    ·intro Ep6 w l' hE6 hO6 hF_ hS
     refine p (yl_move ((hE6 8 rfl).trans q1h)) <| x_done <| ?_
     refine x_fin ⟨⟨_, rfl⟩, rfl, ?_⟩
     exact emk hS
    ·intro Ep6 w l' hE6 hO6 hF_ hS
     refine p (yl_field0 fld_53_1 (hE6 10 rfl)) <| x_done <| ?_
     refine x_fin ⟨⟨_, rfl⟩, rfl, ?_⟩
     exact emk hS
    ·intro Ep6 w l' hE6 hO6 hF_ hS
     obtain ⟨q1n, -⟩ := hF_
     replace q1n : Ep6 33 = .pointer (some ⟨b10, 1, none⟩) := emk q1n
     replace hS : St w0 w (cells b10 53 [.int .i64 q6.From, .int .i64 q6.To] :: l') := emk hS
     refine pa (at_load one_3 q1n (hS.cell rfl)) <| x_done <| ?_
     refine x_fin ⟨⟨_, rfl⟩, rfl, ?_⟩
     exact emk hS
    ·intro Ep6 w l' hE6 hO6 hF_ hS
     obtain ⟨q1o, q1p, -⟩ := hF_
     replace q1o : Ep6 32 = .func (.func 37) #[] #[.pointer (some ⟨b7, 0, none⟩)] := emk q1o
     replace q1p : Ep6 34 = .int .i64 q6.To := emk q1p
     replace hS : St w0 w (cells b7 89 [.map (some b20)] :: mapA b20 (Value.int .i64) (Value.int .i64) q8 :: ro ρ :: l') := emk hS
     have hcall := c_global_joins_1 q3h  hS
     refine o_ccv q1o call_37 (capargs (args1 q1p)) (hcall) ?_
     rintro e w' ⟨rfl, hS⟩
     refine ⟨_, rfl, ?_⟩
     refine x_done <| ?_
     refine x_fin ⟨⟨_, rfl⟩, rfl, ?_⟩
     exact emk (((hS.pull 2).pull 2).pull 2)
    ·intro Ep6 w l' hE6 hO6 hF_ hS
     obtain ⟨q1q, -⟩ := hF_
     replace q1q : Ep6 31 = .int .i64 q0v := emk q1q
     refine p (v := .int .i64 q0v) (yl_assign q1q) <| x_done <| ?_
     refine x_fin ⟨⟨_, rfl⟩, rfl, ?_⟩
     exact emk hS
    ·intro Ep6 w l' hE6 hO6 hF_ hS
     obtain ⟨q1r, -⟩ := hF_
     replace q1r : Ep6 35 = .int .i64 q0w := emk q1r
     refine p (v := .int .i64 q0w) (yl_assign q1r) <| x_done <| ?_
     refine x_fin ⟨⟨_, rfl⟩, rfl, ?_⟩
     exact emk hS
   intro Ep6 w' hE6 hF_ hS
   obtain ⟨q1l, q1k, q1m, q1q, q1o, q1n, q1p, q1r, q2a, q2b, -⟩ := hF_
   replace q1l : Ep6 28 = .func (.func 37) #[] #[.pointer (some ⟨b7, 0, none⟩)] := emk q1l
   replace q1k : Ep6 29 = .pointer (some ⟨b10, 0, none⟩) := emk q1k
   replace q1m : Ep6 30 = .int .i64 q6.From := emk q1m
   replace q1q : Ep6 31 = .int .i64 q0v := emk q1q
   replace q1o : Ep6 32 = .func (.func 37) #[] #[.pointer (some ⟨b7, 0, none⟩)] := emk q1o
   replace q1n : Ep6 33 = .pointer (some ⟨b10, 1, none⟩) := emk q1n
   replace q1p : Ep6 34 = .int .i64 q6.To := emk q1p
   replace q1r : Ep6 35 = .int .i64 q0w := emk q1r
   replace q2a : Ep6 11 = .int .i64 q0v := emk q2a
   replace q2b : Ep6 12 = .int .i64 q0w := emk q2b
   replace hS : St w0 w' (cells b10 53 [.int .i64 q6.From, .int .i64 q6.To] :: cells b7 89 [.map (some b20)] :: mapA b20 (Value.int .i64) (Value.int .i64) q8 :: ro ρ :: (cells b3 30 [.int .i64 f0.Rows, .int .i64 f0.Sites, .int .i64 f0.Layers, .slice q0m f0.Blocks.length c_f0_3, .slice q0n f0.Walls.length c_f0_4, .slice q0o f0.Ports.length c_f0_5] :: cells b4 38 [.string n1.Name, .slice q0s n1.Pins.length c_n1_1] :: l)) := emk hS
   refine x_seq <| x_seq <| x_region <| p (v := .int .i64 q0v) (yl_move q2a) <|
    p (v := .int .i64 q0w) (yl_move q2b) <| p (yl_eql rfl rfl) <| x_done <|
    x_cond_p (q0v = q0w) rfl (fun hc38 => ?_) (fun hc38 => ?_)
   ·replace hFL4 := it_t hc38 hFL4
    refine x_seq <| x_region <| p (yl_assign rfl) <| x_done <| ?_
    have e_ := sinj hFL4; subst e_
    have e_ := (show _ = oL4 from hLL4); subst e_
    have e_ := sinj hF; subst e_
    exact x_return ⟨_, ⟨_, _, rfl, rfl, rfl⟩, rfl, (((hS.drop.drop.drop.pull 1).drop.pull 1).drop)⟩
   ·replace hFL4 := it_f hc38 hFL4
    refine x_skip <| x_region <| pa (at_load one_89 ((hE6 7 rfl).trans q2o) ((hS.pull 1).cell rfl)) <| p (v := .int .i64 q0v) (yl_move q2a) <|
     p (v := .int .i64 q0w) (yl_move q2b) <| ?_
    replace hFL4 := lv_s hFL4; obtain ⟨q3n, q3i, hFL4⟩ := hFL4
    refine o_mapset (k := q0v) (vf := (Value.int .i64)) (v := q0w) um_89 (KeyP.int ui_3) rfl rfl rfl (hS.pull 2) q3i (fun w' hS => ?_)
    replace hFL4 := ar_s hFL4; obtain ⟨x42, hx42, hFL4⟩ := hFL4
    refine x_done <| x_blk <| x_region <| p (yadd ((hE6 24 rfl).trans q1j) rfl hx42) <|
     p (yl_move rfl) <| x_done <| ?_
    have e_ := sinj hFL4; subst e_
    exact x_inv ⟨kL4, Nat.lt_succ_self _, x42, q3n, hLL4, ((hE6 2 rfl).trans q2l), ((hE6 3 rfl).trans q2m), ((hE6 4 rfl).trans q2n), ((hE6 7 rfl).trans q2o), ((hE6 8 rfl).trans q1h), ((hE6 22 rfl).trans q23), ((hE6 23 rfl).trans q24), rfl, ((((((hS.pull 1).drop.pull 2).pull 1).pull 2).pull 4).pull 4)⟩
  ·replace hFL4 := it_f hc25 hFL4
   refine x_exitTo _ rfl <| ?_
   have e_ := sinj hFL4; subst e_
   exact x_inv ⟨q8, hLL4, q2l, q2m, q2n, q1h, (((((hS.pull 4).pull 4).pull 4).pull 4).pull 4)⟩
 rintro E w ⟨q5, rfl, q3j, q3k, q3l, q3m, hS⟩
 refine x_seq <| x_region <| p (yl_assign rfl) <| x_done <|
  x_seq <| x_seq <| x_region <| p (yl_field0 fld_38_1 q3l) <|
  pa (at_load one_36 rfl ((hS.pull 1).cell rfl)) <| p (yl_len_slice usl_36 rfl) <| p (yl_move rfl) <| x_done <| ?_
 replace hF := bd_s hF; obtain ⟨oL13, hLL13, hF⟩ := hF
 refine x_join (fun E w => ∃ (q0j : Option Addr) (q0k : Nat) (c_all13_L13 : Nat) (q0c : List Value) (q0q : List Int), q0q = oL13 ∧ E 2 = .slice q0p way2.length c_way2 ∧ E 8 = .func (.func 37) #[] #[.pointer (some ⟨b7, 0, none⟩)] ∧ E 13 = .slice q0j q0k c_all13_L13 ∧ RepL (RpI .i64) ρ q0q q0c ∧ St w0 w (cells b7 89 [.map (some b20)] :: vec 3 (RpI .i64).sz (.slice q0j q0k c_all13_L13) q0k q0c :: mapA b20 (Value.int .i64) (Value.int .i64) q5 :: ro ρ :: l)) ?_ ?_
 ·refine x_block ?_
  replace hS := St.vec_nil hS 3 (RpI .i64).sz
  have q1c : RepL (RpI .i64) ρ [] [] := rfl
  refine x_loop (fun k_ E w => ∃ (q0d : Option Addr) (q0e : Nat) (c_all13_L13h : Nat) (q0a : List Value) (q0f : List Int) (q0x : Int), lp (P_global_joins_L13 f0 n1) k_ (q0f, q0x) = some oL13 ∧ E 2 = .slice q0p way2.length c_way2 ∧ E 3 = .pointer (some ⟨b3, 0, none⟩) ∧ E 8 = .func (.func 37) #[] #[.pointer (some ⟨b7, 0, none⟩)] ∧ E 13 = .slice q0d q0e c_all13_L13h ∧ E 44 = .slice q0s n1.Pins.length c_n1_1 ∧ E 45 = .int .i64 (n1.Pins.length : Int) ∧ E 46 = .int .i64 q0x ∧ RepL (RpI .i64) ρ q0f q0a ∧ St w0 w (cells b3 30 [.int .i64 f0.Rows, .int .i64 f0.Sites, .int .i64 f0.Layers, .slice q0m f0.Blocks.length c_f0_3, .slice q0n f0.Walls.length c_f0_4, .slice q0o f0.Ports.length c_f0_5] :: cells b7 89 [.map (some b20)] :: vec 3 (RpI .i64).sz (.slice q0d q0e c_all13_L13h) q0e q0a :: mapA b20 (Value.int .i64) (Value.int .i64) q5 :: ro ρ :: l)) fuel ⟨none, 0, 0, [], [], 0, hLL13, q3j, q3k, q3m, rfl, rfl, rfl, rfl, q1c, ((((((hS.pull 2).drop.pull 4).pull 4).pull 2).pull 4).pull 4)⟩ ?_
  rintro kL13 E w ⟨q0d, q0e, c_all13_L13h, q0a, q0f, q0x, hLL13, q25, q26, q27, q1u, q1v, q1w, q1e, q0t, hS⟩
  have e_ := St.vec_n (hS.pull 2) q0t; subst e_
  replace hLL13 := lp_s hLL13; obtain ⟨kL13, obL13, rfl, hFL13, hLL13⟩ := hLL13
  refine x_seq <| x_region <| p (yl_lss q1e q1w) <| x_done <|
   x_seq <|
   x_cond_p (q0x < (n1.Pins.length : Int)) rfl (fun hc47 => ?_) (fun hc47 => ?_)
  ·replace hFL13 := it_t hc47 hFL13
   replace hFL13 := ck_s hFL13; obtain ⟨q2p, hFL13⟩ := hFL13
   replace hFL13 := lv_s hFL13; obtain ⟨q7, q30, hFL13⟩ := hFL13
   have q_ := q1t.get q2p; obtain ⟨q3o, q2q, q31⟩ := q_
   rw [← q30] at q2q
   have e_ := q2q; subst e_
   refine x_skip <| x_seq <| x_block <| x_seq <|
    x_region <| p (yix_f sl_36 q1v q1e q1t q2p) <| pa (v := .agg #[.int .i64 q7.At.X, .int .i64 q7.At.Y, .int .i64 q7.Cell, .int .i64 q7.Input, .bool q7.Drive, .int .i64 q7.Size]) (at_loadAgg agg_42 rfl rfl (Elt.every q31 (hS.pull 4))) <| ?_
   refine o_alloc zero_42 hS (fun b15 w' hS => ?_)
   refine o_storeAgg (news := [.int .i64 q7.At.X, .int .i64 q7.At.Y, .int .i64 q7.Cell, .int .i64 q7.Input, .bool q7.Drive, .int .i64 q7.Size]) agg_42 rfl rfl rfl (by simp [over_length]) hS (fun w' hS => ?_)
   replace hFL13 := bd_s hFL13; obtain ⟨q1i, q32, hFL13⟩ := hFL13
   refine x_done <| x_region <| p (yl_move q1u) <| pa (v := .agg #[.int .i64 f0.Rows, .int .i64 f0.Sites, .int .i64 f0.Layers, .slice q0m f0.Blocks.length c_f0_3, .slice q0n f0.Walls.length c_f0_4, .slice q0o f0.Ports.length c_f0_5]) (ld_sub agg_30 q26 rfl rfl (hS.pull 1)) <|
    p (yl_field0 fld_42_0 rfl) <| pa (v := .agg #[.int .i64 q7.At.X, .int .i64 q7.At.Y]) (ld_sub agg_40 rfl rfl rfl hS) <| ?_
   have hcall := c_global_Of q32 q2i q2j q2k (hS.pull 5)
   refine o_cc call_33 (args2 rfl rfl) ((Calls.mono hcall (fun e w'' h => And.intro h.1 (((((h.2.pull 5).pull 5).pull 5).pull 5).pull 5)))) ?_
   rintro e w' ⟨rfl, hS⟩
   refine ⟨_, rfl, ?_⟩
   refine o_buildSlice (vs := [.int .i64 q1i]) (cs := [.int .i64 q1i]) sl_22 zero_3 (parts_eq (pt (va := .int .i64 q1i) rfl pt0)) rfl (by intro v hv; simp only [List.mem_cons, List.not_mem_nil, or_false] at hv; first | (subst hv; rfl) | (rcases hv with rfl <;> rfl)) (by decide) rfl hS (fun b55 w' hS => ?_)
   replace hFL13 := lv_s hFL13; obtain ⟨q2x, q33, hFL13⟩ := hFL13
   replace hFL13 := ck_s hFL13; obtain ⟨q34, hFL13⟩ := hFL13
   refine o_ap sl_22 zero_3 rfl (by decide) rfl rfl (hS.pull 4) q0t (src_blk usl_22 hS rfl rfl) (RepL.cons (R := (RpI .i64)) (ρ := ρ) (x := q1i) (cs := [.int .i64 q1i]) rfl RepL.nil) q33 q34 (fun A56 c56 cs56 w' hr56 hS => ?_)
   replace hFL13 := ar_s hFL13; obtain ⟨x57, hx57, hFL13⟩ := hFL13
   refine p (yl_assign rfl) <| x_done <| x_blk <| x_region <|
    p (yadd q1e rfl hx57) <| p (yl_move rfl) <| x_done <| ?_
   have e_ := sinj hFL13; subst e_
   exact x_inv ⟨kL13, Nat.lt_succ_self _, A56, q2x.length, c56, cs56, q2x, x57, hLL13, q25, q26, q27, rfl, q1v, q1w, rfl, hr56, (((((((hS.pull 1).drop.pull 1).drop.pull 4).pull 4).pull 2).pull 4).pull 4)⟩
  ·replace hFL13 := it_f hc47 hFL13
   refine x_exitTo _ rfl <| ?_
   have e_ := sinj hFL13; subst e_
   exact x_inv ⟨q0d, q0f.length, c_all13_L13h, q0a, q0f, hLL13, q25, q27, q1u, q0t, ((((hS.drop.pull 3).pull 3).pull 3).pull 3)⟩
 rintro E w ⟨q0j, q0k, c_all13_L13, q0c, q0q, rfl, q35, q36, q2z, q1d, hS⟩
 have e_ := St.vec_n (hS.pull 1) q1d; subst e_
 refine x_seq <| x_seq <| x_region <| p (yl_move q35) <|
  p (yl_len_slice usl_51 rfl) <| p (yl_move rfl) <| x_done <| ?_
 replace hF := bd_s hF; obtain ⟨oL18, hLL18, hF⟩ := hF
 refine x_join (fun E w => ∃ (q3 : Option Addr) (q0l : Nat) (c_all13_L18 : Nat) (q4 : List Value) (q2 : List Int), q2 = oL18 ∧ E 8 = .func (.func 37) #[] #[.pointer (some ⟨b7, 0, none⟩)] ∧ E 13 = .slice q3 q0l c_all13_L18 ∧ RepL (RpI .i64) ρ q2 q4 ∧ St w0 w (cells b7 89 [.map (some b20)] :: vec 3 (RpI .i64).sz (.slice q3 q0l c_all13_L18) q0l q4 :: mapA b20 (Value.int .i64) (Value.int .i64) q5 :: ro ρ :: l)) ?_ ?_
 ·refine x_block ?_
  refine x_loop (fun k_ E w => ∃ (q0g : Option Addr) (q0h : Nat) (c_all13_L18h : Nat) (q0b : List Value) (q0i : List Int) (q0y : Int), lp (P_global_joins_L18 way2) k_ (q0i, q0y) = some oL18 ∧ E 8 = .func (.func 37) #[] #[.pointer (some ⟨b7, 0, none⟩)] ∧ E 13 = .slice q0g q0h c_all13_L18h ∧ E 58 = .slice q0p way2.length c_way2 ∧ E 59 = .int .i64 (way2.length : Int) ∧ E 60 = .int .i64 q0y ∧ RepL (RpI .i64) ρ q0i q0b ∧ St w0 w (cells b7 89 [.map (some b20)] :: vec 3 (RpI .i64).sz (.slice q0g q0h c_all13_L18h) q0h q0b :: mapA b20 (Value.int .i64) (Value.int .i64) q5 :: ro ρ :: l)) fuel ⟨q0j, q0q.length, c_all13_L13, q0c, q0q, 0, hLL18, q36, q2z, rfl, rfl, rfl, q1d, ((((hS.pull 3).pull 3).pull 3).pull 3)⟩ ?_
  rintro kL18 E w ⟨q0g, q0h, c_all13_L18h, q0b, q0i, q0y, hLL18, q28, q1x, q1y, q1z, q1f, q0u, hS⟩
  have e_ := St.vec_n (hS.pull 1) q0u; subst e_
  replace hLL18 := lp_s hLL18; obtain ⟨kL18, obL18, rfl, hFL18, hLL18⟩ := hLL18
  refine x_seq <| x_region <| p (yl_lss q1f q1z) <| x_done <|
   x_seq <|
   x_cond_p (q0y < (way2.length : Int)) rfl (fun hc61 => ?_) (fun hc61 => ?_)
  ·replace hFL18 := it_t hc61 hFL18
   replace hFL18 := ck_s hFL18; obtain ⟨q2r, hFL18⟩ := hFL18
   replace hFL18 := lv_s hFL18; obtain ⟨q0r, q37, hFL18⟩ := hFL18
   have q_ := q10.get q2r; obtain ⟨q3p, q2s, q38⟩ := q_
   rw [← q37] at q2s
   have e_ := q2s; subst e_
   refine x_skip <| x_seq <| x_block <| x_seq <|
    x_region <| p (yix_f sl_51 q1y q1f q10 q2r) <| pa (v := .agg #[.int .i64 q0r.From, .int .i64 q0r.To]) (at_loadAgg agg_53 rfl rfl (Elt.every q38 (hS.pull 3))) <| ?_
   refine o_alloc zero_53 hS (fun b17 w' hS => ?_)
   refine o_storeAgg (news := [.int .i64 q0r.From, .int .i64 q0r.To]) agg_53 rfl rfl rfl (by simp [over_length]) hS (fun w' hS => ?_)
   refine x_done <| x_region <| p (yl_move q1x) <| p (yl_field0 fld_53_0 rfl) <|
    pa (at_load one_3 rfl (hS.cell rfl)) <| ?_
   refine o_buildSlice (vs := [.int .i64 q0r.From]) (cs := [.int .i64 q0r.From]) sl_22 zero_3 (parts_eq (pt (va := .int .i64 q0r.From) rfl pt0)) rfl (by intro v hv; simp only [List.mem_cons, List.not_mem_nil, or_false] at hv; first | (subst hv; rfl) | (rcases hv with rfl <;> rfl)) (by decide) rfl hS (fun b67 w' hS => ?_)
   replace hFL18 := lv_s hFL18; obtain ⟨q2y, q39, hFL18⟩ := hFL18
   replace hFL18 := ck_s hFL18; obtain ⟨q3a, hFL18⟩ := hFL18
   refine o_ap sl_22 zero_3 rfl (by decide) rfl rfl (hS.pull 3) q0u (src_blk usl_22 hS rfl rfl) (RepL.cons (R := (RpI .i64)) (ρ := ρ) (x := q0r.From) (cs := [.int .i64 q0r.From]) rfl RepL.nil) q39 q3a (fun A68 c68 cs68 w' hr68 hS => ?_)
   replace hFL18 := ar_s hFL18; obtain ⟨x69, hx69, hFL18⟩ := hFL18
   refine p (yl_assign rfl) <| x_done <| x_blk <| x_region <|
    p (yadd q1f rfl hx69) <| p (yl_move rfl) <| x_done <| ?_
   have e_ := sinj hFL18; subst e_
   exact x_inv ⟨kL18, Nat.lt_succ_self _, A68, q2y.length, c68, cs68, q2y, x69, hLL18, q28, rfl, q1y, q1z, rfl, hr68, ((((((hS.pull 1).drop.pull 1).drop.pull 3).pull 3).pull 2).pull 3)⟩
  ·replace hFL18 := it_f hc61 hFL18
   refine x_exitTo _ rfl <| ?_
   have e_ := sinj hFL18; subst e_
   exact x_inv ⟨q0g, q0i.length, c_all13_L18h, q0b, q0i, hLL18, q28, q1x, q0u, ((((hS.pull 3).pull 3).pull 3).pull 3)⟩
 rintro E w ⟨q3, q0l, c_all13_L18, q4, q2, rfl, q3b, q29, q9, hS⟩
 have e_ := St.vec_n (hS.pull 1) q9; subst e_
 refine x_seq <| x_seq <| x_region <| p (yl_move q29) <|
  p (yl_len_slice usl_22 rfl) <| p (yl_move rfl) <| x_done <| ?_
 replace hF := bs_s hF; obtain ⟨oL23, hLL23, hF⟩ := hF
 refine x_join (fun E w => (Sum.inl (())) = oL23 ∧ St w0 w (ro ρ :: l)) ?_ ?_
 ·refine x_block ?_
  refine x_loop (fun k_ E w => ∃ (q0z : Int), lp (P_global_joins_L23 q5 q2) k_ q0z = some oL23 ∧ E 8 = .func (.func 37) #[] #[.pointer (some ⟨b7, 0, none⟩)] ∧ E 13 = .slice q3 q2.length c_all13_L18 ∧ E 70 = .slice q3 q2.length c_all13_L18 ∧ E 71 = .int .i64 (q2.length : Int) ∧ E 72 = .int .i64 q0z ∧ St w0 w (cells b7 89 [.map (some b20)] :: vec 3 (RpI .i64).sz (.slice q3 q2.length c_all13_L18) q2.length q4 :: mapA b20 (Value.int .i64) (Value.int .i64) q5 :: ro ρ :: l)) fuel ⟨0, hLL23, q3b, q29, rfl, rfl, rfl, ((((hS.pull 3).pull 3).pull 3).pull 3)⟩ ?_
  rintro kL23 E w ⟨q0z, hLL23, q1s, q20, q21, q22, q1g, hS⟩
  replace hLL23 := lp_s hLL23; obtain ⟨kL23, obL23, rfl, hFL23, hLL23⟩ := hLL23
  refine x_seq <| x_region <| p (yl_lss q1g q22) <| x_done <|
   x_seq <|
   x_cond_p (q0z < (q2.length : Int)) rfl (fun hc73 => ?_) (fun hc73 => ?_)
  ·replace hFL23 := it_t hc73 hFL23
   replace hFL23 := ck_s hFL23; obtain ⟨q2t, hFL23⟩ := hFL23
   replace hFL23 := lv_s hFL23; obtain ⟨x75, hx75, hFL23⟩ := hFL23
   refine x_skip <| x_seq <| x_block <| x_seq <|
    x_region <| p (yix_o sl_22 q21 q1g (hS.pull 1) q9 q2t) <| pa (at_load one_3 rfl (RepL.getW q9 (hS.pull 1) q2t hx75)) <| p (yl_assign rfl) <|
    x_done <| x_seq <| ?_
   replace hFL23 := bd_s hFL23; obtain ⟨q12, q3c, hFL23⟩ := hFL23
   replace hFL23 := ck_s hFL23; obtain ⟨q2u, hFL23⟩ := hFL23
   replace hFL23 := lv_s hFL23; obtain ⟨x82, hx82, hFL23⟩ := hFL23
   replace hFL23 := bd_s hFL23; obtain ⟨q13, q3d, hFL23⟩ := hFL23
   refine x_par (w0 := w0) [⟨[], [], [76], [], [], [], none⟩, ⟨[], [], [77], [], [], [], none⟩, ⟨[0, 1], [0, 1], [78], [0, 1, 2], [], [], none⟩, ⟨[], [], [79], [], [], [], none⟩, ⟨[], [], [80], [], [], [], none⟩, ⟨[4], [4], [81], [3], [], [], none⟩, ⟨[4, 5], [5], [82], [3], [], [], none⟩, ⟨[0, 1, 2, 3, 4, 5, 6], [3, 6], [83], [0, 1, 2], [], [], none⟩, ⟨[0, 1, 2, 3, 4, 5, 6, 7], [2, 7], [84], [], [], [], none⟩] [⟨none, none, []⟩, ⟨none, none, []⟩, ⟨none, none, []⟩, ⟨none, none, []⟩] [76, 77, 78, 79, 80, 81, 82, 83, 84] [0, 1, 2, 3] [0, 1, 2, 3] [0, 1, 2, 3, 4, 5, 6, 7, 8] [fun Ep25 => Ep25 76 = .func (.func 37) #[] #[.pointer (some ⟨b7, 0, none⟩)], fun Ep25 => Ep25 77 = .int .i64 x75, fun Ep25 => Ep25 78 = .int .i64 q12, fun Ep25 => Ep25 79 = .func (.func 37) #[] #[.pointer (some ⟨b7, 0, none⟩)], fun Ep25 => Ep25 80 = .slice q3 q2.length c_all13_L18, fun Ep25 => Ep25 81 = .pointer (some ((adr q3).add ((0 : Int).toNat * (RpI .i64).sz))), fun Ep25 => Ep25 82 = .int .i64 x82, fun Ep25 => Ep25 83 = .int .i64 q13, fun Ep25 => Ep25 84 = .bool (decide (q12 ≠ q13))] [fun Ep25 => cells b7 89 [.map (some b20)], fun Ep25 => mapA b20 (Value.int .i64) (Value.int .i64) q5, fun Ep25 => ro ρ, fun Ep25 => vec 3 (RpI .i64).sz (.slice q3 q2.length c_all13_L18) q2.length q4] mixed (by kernel_rfl) ((((hS.pull 1).pull 3).pull 3).pull 3) ?_ ?_
   ·refine ⟨?_, ?_, ?_, ?_, ?_, ?_, ?_, ?_, ?_, trivial⟩
    ·intro Ep25 w l' hE25 hO25 hF_ hS
     refine p (yl_move ((hE25 8 rfl).trans q1s)) <| x_done <| ?_
     refine x_fin ⟨⟨_, rfl⟩, rfl, ?_⟩
     exact emk hS
    ·intro Ep25 w l' hE25 hO25 hF_ hS
     refine p (yl_move (hE25 19 rfl)) <| x_done <| ?_
     refine x_fin ⟨⟨_, rfl⟩, rfl, ?_⟩
     exact emk hS
    ·intro Ep25 w l' hE25 hO25 hF_ hS
     obtain ⟨q14, q15, -⟩ := hF_
     replace q14 : Ep25 76 = .func (.func 37) #[] #[.pointer (some ⟨b7, 0, none⟩)] := emk q14
     replace q15 : Ep25 77 = .int .i64 x75 := emk q15
     replace hS : St w0 w (cells b7 89 [.map (some b20)] :: mapA b20 (Value.int .i64) (Value.int .i64) q5 :: ro ρ :: l') := emk hS
     have hcall := c_global_joins_1 q3c  hS
     refine o_ccv q14 call_37 (capargs (args1 q15)) (hcall) ?_
     rintro e w' ⟨rfl, hS⟩
     refine ⟨_, rfl, ?_⟩
     refine x_done <| ?_
     refine x_fin ⟨⟨_, rfl⟩, rfl, ?_⟩
     exact emk (((hS.pull 2).pull 2).pull 2)
    ·intro Ep25 w l' hE25 hO25 hF_ hS
     refine p (yl_move ((hE25 8 rfl).trans q1s)) <| x_done <| ?_
     refine x_fin ⟨⟨_, rfl⟩, rfl, ?_⟩
     exact emk hS
    ·intro Ep25 w l' hE25 hO25 hF_ hS
     refine p (yl_move ((hE25 13 rfl).trans q20)) <| x_done <| ?_
     refine x_fin ⟨⟨_, rfl⟩, rfl, ?_⟩
     exact emk hS
    ·intro Ep25 w l' hE25 hO25 hF_ hS
     obtain ⟨q16, -⟩ := hF_
     replace q16 : Ep25 80 = .slice q3 q2.length c_all13_L18 := emk q16
     replace hS : St w0 w (vec 3 (RpI .i64).sz (.slice q3 q2.length c_all13_L18) q2.length q4 :: l') := emk hS
     refine p (yix_o sl_22 q16 rfl hS q9 q2u) <| x_done <| ?_
     refine x_fin ⟨⟨_, rfl⟩, rfl, ?_⟩
     exact emk hS
    ·intro Ep25 w l' hE25 hO25 hF_ hS
     obtain ⟨q17, -⟩ := hF_
     replace q17 : Ep25 81 = .pointer (some ((adr q3).add ((0 : Int).toNat * (RpI .i64).sz))) := emk q17
     replace hS : St w0 w (vec 3 (RpI .i64).sz (.slice q3 q2.length c_all13_L18) q2.length q4 :: l') := emk hS
     refine pa (at_load one_3 q17 (RepL.getW q9 hS q2u hx82)) <| x_done <| ?_
     refine x_fin ⟨⟨_, rfl⟩, rfl, ?_⟩
     exact emk hS
    ·intro Ep25 w l' hE25 hO25 hF_ hS
     obtain ⟨q18, q19, -⟩ := hF_
     replace q18 : Ep25 79 = .func (.func 37) #[] #[.pointer (some ⟨b7, 0, none⟩)] := emk q18
     replace q19 : Ep25 82 = .int .i64 x82 := emk q19
     replace hS : St w0 w (cells b7 89 [.map (some b20)] :: mapA b20 (Value.int .i64) (Value.int .i64) q5 :: ro ρ :: l') := emk hS
     have hcall := c_global_joins_1 q3d  hS
     refine o_ccv q18 call_37 (capargs (args1 q19)) (hcall) ?_
     rintro e w' ⟨rfl, hS⟩
     refine ⟨_, rfl, ?_⟩
     refine x_done <| ?_
     refine x_fin ⟨⟨_, rfl⟩, rfl, ?_⟩
     exact emk (((hS.pull 2).pull 2).pull 2)
    ·intro Ep25 w l' hE25 hO25 hF_ hS
     obtain ⟨q1a, q1b, -⟩ := hF_
     replace q1a : Ep25 78 = .int .i64 q12 := emk q1a
     replace q1b : Ep25 83 = .int .i64 q13 := emk q1b
     refine p (yl_neq q1a q1b) <| x_done <| ?_
     refine x_fin ⟨⟨_, rfl⟩, rfl, ?_⟩
     exact emk hS
   intro Ep25 w' hE25 hF_ hS
   obtain ⟨q14, q15, q1a, q18, q16, q17, q19, q1b, q2c, -⟩ := hF_
   replace q14 : Ep25 76 = .func (.func 37) #[] #[.pointer (some ⟨b7, 0, none⟩)] := emk q14
   replace q15 : Ep25 77 = .int .i64 x75 := emk q15
   replace q1a : Ep25 78 = .int .i64 q12 := emk q1a
   replace q18 : Ep25 79 = .func (.func 37) #[] #[.pointer (some ⟨b7, 0, none⟩)] := emk q18
   replace q16 : Ep25 80 = .slice q3 q2.length c_all13_L18 := emk q16
   replace q17 : Ep25 81 = .pointer (some ((adr q3).add ((0 : Int).toNat * (RpI .i64).sz))) := emk q17
   replace q19 : Ep25 82 = .int .i64 x82 := emk q19
   replace q1b : Ep25 83 = .int .i64 q13 := emk q1b
   replace q2c : Ep25 84 = .bool (decide (q12 ≠ q13)) := emk q2c
   replace hS : St w0 w' (cells b7 89 [.map (some b20)] :: mapA b20 (Value.int .i64) (Value.int .i64) q5 :: ro ρ :: vec 3 (RpI .i64).sz (.slice q3 q2.length c_all13_L18) q2.length q4 :: (l)) := emk hS
   refine x_cond_p (q12 ≠ q13) q2c (fun hc84 => ?_) (fun hc84 => ?_)
   ·replace hFL23 := it_t hc84 hFL23
    refine x_seq <| x_region <| p (yl_assign rfl) <| x_done <| ?_
    have e_ := sinj hFL23; subst e_
    have e_ := (show _ = oL23 from hLL23); subst e_
    have e_ := sinj hF; subst e_
    exact x_return ⟨_, ⟨_, _, rfl, rfl, rfl⟩, rfl, ((hS.drop.drop.pull 1).drop)⟩
   ·replace hFL23 := it_f hc84 hFL23
    replace hFL23 := ar_s hFL23; obtain ⟨x85, hx85, hFL23⟩ := hFL23
    refine x_skip <| x_blk <| x_region <| p (yadd ((hE25 72 rfl).trans q1g) rfl hx85) <|
     p (yl_move rfl) <| x_done <| ?_
    have e_ := sinj hFL23; subst e_
    exact x_inv ⟨kL23, Nat.lt_succ_self _, x85, hLL23, ((hE25 8 rfl).trans q1s), ((hE25 13 rfl).trans q20), ((hE25 70 rfl).trans q21), ((hE25 71 rfl).trans q22), rfl, ((((hS.pull 2).pull 2).pull 3).pull 3)⟩
  ·replace hFL23 := it_f hc73 hFL23
   refine x_exitTo _ rfl <| ?_
   have e_ := sinj hFL23; subst e_
   exact x_inv ⟨hLL23, hS.drop.drop.drop⟩
 rintro E w ⟨rfl, hS⟩
 refine x_seq <| x_region <| p (yl_assign rfl) <| x_done <| ?_
 have e_ := sinj hF; subst e_
 exact x_return ⟨_, ⟨_, _, rfl, rfl, rfl⟩, rfl, hS⟩
attribute [irreducible] P_global_joins

def P_global_Load_L6 (q5 : List T_global_Edge) : (List (T_global_Edge × Int) × Int) → Option ((List (T_global_Edge × Int) × Int) ⊕ List (T_global_Edge × Int)) := fun (q2, q3) =>
 if q3 < (q5.length : Int) then
  ck (inb q3 q5.length) <|
  lv (gt q5 q3) fun q4 =>
  lv (mget q4 q2 0) fun x23 =>
  ar (x23 + 1) fun x24 =>
  lv (mget q4 q2 0) fun x25 =>
  lv (mput q4 x25 q2) fun q6 =>
  lv (mput q4 x24 q6) fun q7 =>
  ar (q3 + 1) fun x27 =>
  some (Sum.inl (q7, x27))
 else
  some (Sum.inr q2)
def P_global_Load_L3 (ways0 : List (List T_global_Edge)) : (List (T_global_Edge × Int) × Int) → Option ((List (T_global_Edge × Int) × Int) ⊕ List (T_global_Edge × Int)) := fun (q3, q2) =>
 if q2 < (ways0.length : Int) then
  ck (inb q2 ways0.length) <|
  lv (gt ways0 q2) fun q5 =>
  bd (
   lp (P_global_Load_L6 q5) fuel (q3, 0)) fun q4 =>
  ar (q2 + 1) fun x28 =>
  some (Sum.inl (q4, x28))
 else
  some (Sum.inr q3)
def P_global_Load (ways0 : List (List T_global_Edge)) : Option (List (T_global_Edge × Int)) :=
 bd (
  lp (P_global_Load_L3 ways0) fuel ([], 0)) fun q2 =>
 some q2
theorem c_global_Load {w0 w : World} {l : List Assn} {ρ : Heap} {q8 : Option Addr} {q0l : Nat} {c_ways0 : Nat} {ways0 : List (List T_global_Edge)} {r : List (T_global_Edge × Int)} (hF : P_global_Load ways0 = some r) (q0b : RdS (RpSl R_global_Edge) ρ q8 q0l c_ways0 ways0) (hS : St w0 w (ro ρ :: l)) :
  Calls Tryd.prog 28 #[.slice q8 q0l c_ways0] w fun e w' => ∃ (q0j : Nat), e = .returned (.map (some q0j)) ∧ St w0 w' (mapA q0j kf_53 (Value.int .i64) r :: ro ρ :: l) := by
 have e_ := q0b.n; subst e_
 refine enterC Tryd.func28 rfl 30 rfl (by simp) ?_
 refine x_seq <| x_region <| p (yl_assign rfl) <| x_done <|
  x_seq <| x_region <| ?_
 refine o_mkmap (κ := T_global_Edge) (α := Int) kf_53 (Value.int .i64) hS (fun b8 w' hS => ?_)
 refine p (yl_assign rfl) <| x_done <| x_seq <| x_seq <|
  x_region <| p (yl_move rfl) <| p (yl_len_slice usl_43 rfl) <| p (yl_move rfl) <|
  x_done <| ?_
 replace hF := bd_s hF; obtain ⟨oL3, hLL3, hF⟩ := hF
 refine x_join (fun E w => ∃ (q0c : List (T_global_Edge × Int)), q0c = oL3 ∧ E 3 = .map (some b8) ∧ St w0 w (mapA b8 kf_53 (Value.int .i64) q0c :: ro ρ :: l)) ?_ ?_
 ·refine x_block ?_
  refine x_loop (fun k_ E w => ∃ (q7 : List (T_global_Edge × Int)) (q6 : Int), lp (P_global_Load_L3 ways0) k_ (q7, q6) = some oL3 ∧ E 3 = .map (some b8) ∧ E 9 = .slice q8 ways0.length c_ways0 ∧ E 10 = .int .i64 (ways0.length : Int) ∧ E 11 = .int .i64 q6 ∧ St w0 w (mapA b8 kf_53 (Value.int .i64) q7 :: ro ρ :: l)) fuel ⟨[], 0, hLL3, rfl, rfl, rfl, rfl, ((hS.pull 1).pull 1)⟩ ?_
  rintro kL3 E w ⟨q7, q6, hLL3, q0t, q0u, q0m, q0d, hS⟩
  replace hLL3 := lp_s hLL3; obtain ⟨kL3, obL3, rfl, hFL3, hLL3⟩ := hLL3
  refine x_seq <| x_region <| p (yl_lss q0d q0m) <| x_done <|
   x_seq <|
   x_cond_p (q6 < (ways0.length : Int)) rfl (fun hc12 => ?_) (fun hc12 => ?_)
  ·replace hFL3 := it_t hc12 hFL3
   replace hFL3 := ck_s hFL3; obtain ⟨q0z, hFL3⟩ := hFL3
   replace hFL3 := lv_s hFL3; obtain ⟨q0r, q15, hFL3⟩ := hFL3
   have q_ := q0b.get q0z; obtain ⟨q1f, q10, q16⟩ := q_
   rw [← q15] at q10
   obtain ⟨q1d, q1h, q1e, rfl, q0w⟩ := q10
   have e_ := q0w.n; subst e_
   refine x_skip <| x_seq <| x_block <| x_seq <|
    x_region <| p (yix_f sl_43 q0u q0d q0b q0z) <| pa (at_load one_51 rfl (Elt.ld (j := 0) q16 (hS.pull 1) rfl)) <| p (yl_assign rfl) <|
    x_done <| x_seq <| x_region <| p (yl_move rfl) <|
    p (yl_len_slice usl_51 rfl) <| p (yl_move rfl) <| x_done <| ?_
   replace hFL3 := bd_s hFL3; obtain ⟨oL6, hLL6, hFL3⟩ := hFL3
   refine x_join (fun E w => ∃ (q9 : List (T_global_Edge × Int)), q9 = oL6 ∧ E 3 = .map (some b8) ∧ E 9 = .slice q8 ways0.length c_ways0 ∧ E 10 = .int .i64 (ways0.length : Int) ∧ E 11 = .int .i64 q6 ∧ St w0 w (mapA b8 kf_53 (Value.int .i64) q9 :: ro ρ :: l)) ?_ ?_
   ·refine x_block ?_
    refine x_loop (fun k_ E w => ∃ (q3 : List (T_global_Edge × Int)) (q0a : Int), lp (P_global_Load_L6 q0r) k_ (q3, q0a) = some oL6 ∧ E 3 = .map (some b8) ∧ E 9 = .slice q8 ways0.length c_ways0 ∧ E 10 = .int .i64 (ways0.length : Int) ∧ E 11 = .int .i64 q6 ∧ E 15 = .slice q1d q0r.length q1e ∧ E 16 = .int .i64 (q0r.length : Int) ∧ E 17 = .int .i64 q0a ∧ St w0 w (mapA b8 kf_53 (Value.int .i64) q3 :: ro ρ :: l)) fuel ⟨q7, 0, hLL6, q0t, q0u, q0m, q0d, rfl, rfl, rfl, ((hS.pull 1).pull 1)⟩ ?_
    rintro kL6 E w ⟨q3, q0a, hLL6, q0k, q0v, q0n, q0o, q0p, q0q, q0e, hS⟩
    replace hLL6 := lp_s hLL6; obtain ⟨kL6, obL6, rfl, hFL6, hLL6⟩ := hLL6
    refine x_seq <| x_region <| p (yl_lss q0e q0q) <| x_done <|
     x_seq <|
     x_cond_p (q0a < (q0r.length : Int)) rfl (fun hc18 => ?_) (fun hc18 => ?_)
    ·replace hFL6 := it_t hc18 hFL6
     replace hFL6 := ck_s hFL6; obtain ⟨q11, hFL6⟩ := hFL6
     replace hFL6 := lv_s hFL6; obtain ⟨q2, q17, hFL6⟩ := hFL6
     have q_ := q0w.get q11; obtain ⟨q1g, q12, q18⟩ := q_
     rw [← q17] at q12
     have e_ := q12; subst e_
     refine x_skip <| x_seq <| x_block <| x_seq <|
      x_region <| p (yix_f sl_51 q0p q0e q0w q11) <| pa (v := .agg #[.int .i64 q2.From, .int .i64 q2.To]) (at_loadAgg agg_53 rfl rfl (Elt.every q18 (hS.pull 1))) <| ?_
     refine o_alloc zero_53 hS (fun b7 w' hS => ?_)
     refine o_storeAgg (news := [.int .i64 q2.From, .int .i64 q2.To]) agg_53 rfl rfl rfl (by simp [over_length]) hS (fun w' hS => ?_)
     refine x_done <| ?_
     replace hFL6 := lv_s hFL6; obtain ⟨x23, hx23, hFL6⟩ := hFL6
     replace hFL6 := ar_s hFL6; obtain ⟨x24, hx24, hFL6⟩ := hFL6
     replace hFL6 := lv_s hFL6; obtain ⟨x25, hx25, hFL6⟩ := hFL6
     replace hFL6 := lv_s hFL6; obtain ⟨q0x, q0s, hFL6⟩ := hFL6
     replace hFL6 := lv_s hFL6; obtain ⟨q0y, q19, hFL6⟩ := hFL6
     refine x_par (w0 := w0) [⟨[], [], [21], [], [], [], none⟩, ⟨[], [], [22], [0], [], [], none⟩, ⟨[0, 1], [0, 1], [23], [], [], [], some (1, 2)⟩, ⟨[0, 1, 2], [2], [24], [], [], [], none⟩, ⟨[0, 1], [0, 1], [25], [], [1], [2], none⟩, ⟨[0, 1, 4], [4], [26], [], [], [], none⟩, ⟨[0, 1, 2, 3, 4, 5], [0, 3, 5], [], [], [2], [3], none⟩] [⟨none, none, []⟩, ⟨none, (some 4), []⟩, ⟨(some 4), (some 6), []⟩, ⟨(some 6), none, []⟩] [21, 22, 23, 24, 25, 26] [0, 1] [0, 3] [0, 1, 2, 3, 4, 5] [fun Ep8 => Ep8 21 = .map (some b8), fun Ep8 => Ep8 22 = .agg #[.int .i64 q2.From, .int .i64 q2.To], fun Ep8 => Ep8 23 = .int .i64 x23, fun Ep8 => Ep8 24 = .int .i64 x24, fun Ep8 => Ep8 25 = .tuple #[.int .i64 x25, .int .i64 ((mpos q2 q3 : Nat) : Int)], fun Ep8 => Ep8 26 = .int .i64 ((mpos q2 q3 : Nat) : Int), fun Ep8 => True] [fun Ep8 => cells b7 53 [.int .i64 q2.From, .int .i64 q2.To], fun Ep8 => mapA b8 kf_53 (Value.int .i64) q3, fun Ep8 => mapA b8 kf_53 (Value.int .i64) q0x, fun Ep8 => mapA b8 kf_53 (Value.int .i64) q0y] mixed (by kernel_rfl) ((hS.pull 1).pull 1) ?_ ?_
     ·refine ⟨?_, ?_, ?_, ?_, ?_, ?_, ?_, trivial⟩
      ·intro Ep8 w l' hE8 hO8 hF_ hS
       refine p (yl_move ((hE8 3 rfl).trans q0k)) <| x_done <| ?_
       refine x_fin ⟨⟨_, rfl⟩, rfl, ?_⟩
       exact emk hS
      ·intro Ep8 w l' hE8 hO8 hF_ hS
       replace hS : St w0 w (cells b7 53 [.int .i64 q2.From, .int .i64 q2.To] :: l') := emk hS
       refine pa (v := .agg #[.int .i64 q2.From, .int .i64 q2.To]) (ld_sub agg_53 (hE8 7 rfl) rfl rfl hS) <| x_done <| ?_
       refine x_fin ⟨⟨_, rfl⟩, rfl, ?_⟩
       exact emk hS
      ·refine ⟨?_, ?_⟩
       ·intro Ep8 w l' hE8 hO8 hF_ hS
        obtain ⟨q4, q5, -⟩ := hF_
        replace q4 : Ep8 21 = .map (some b8) := emk q4
        replace q5 : Ep8 22 = .agg #[.int .i64 q2.From, .int .i64 q2.To] := emk q5
        replace hS : St w0 w (mapA b8 kf_53 (Value.int .i64) q3 :: l') := emk hS
        refine pa (at_look (k := q2) um_71 kp_53 (zero1 zv_3) q4 q5 hS hx23) <| x_done <| ?_
        refine x_fin ⟨⟨_, rfl⟩, rfl, ?_⟩
        exact emk hS
       ·intro Ep8 w l' hE8 hO8 hF_ hS
        obtain ⟨q4, q5, -⟩ := hF_
        replace q4 : Ep8 21 = .map (some b8) := emk q4
        replace q5 : Ep8 22 = .agg #[.int .i64 q2.From, .int .i64 q2.To] := emk q5
        replace hS : St w0 w (mapA b8 kf_53 (Value.int .i64) q0x :: l') := emk hS
        refine pa (at_look (k := q2) um_71 kp_53 (zero1 zv_3) q4 q5 hS (hx23.trans (mget_ent q0s hx25).symm)) <| x_done <| ?_
        refine x_fin ⟨⟨_, rfl⟩, rfl, ?_⟩
        exact emk hS
      ·intro Ep8 w l' hE8 hO8 hF_ hS
       obtain ⟨q0f, -⟩ := hF_
       replace q0f : Ep8 23 = .int .i64 x23 := emk q0f
       refine p (yadd q0f rfl hx24) <| x_done <| ?_
       refine x_fin ⟨⟨_, rfl⟩, rfl, ?_⟩
       exact emk hS
      ·intro Ep8 w l' hE8 hO8 hF_ hS
       obtain ⟨q4, q5, -⟩ := hF_
       replace q4 : Ep8 21 = .map (some b8) := emk q4
       replace q5 : Ep8 22 = .agg #[.int .i64 q2.From, .int .i64 q2.To] := emk q5
       replace hS : St w0 w (mapA b8 kf_53 (Value.int .i64) q3 :: l') := emk hS
       refine o_mapEntry (k := q2) (vf := (Value.int .i64)) um_71 kp_53 (zero1 zv_3) q4 q5 hS hx25 q0s (fun w' hS => ?_)
       refine x_done <| ?_
       refine x_fin ⟨⟨_, rfl⟩, rfl, ?_⟩
       exact emk hS
      ·intro Ep8 w l' hE8 hO8 hF_ hS
       obtain ⟨q0g, -⟩ := hF_
       replace q0g : Ep8 25 = .tuple #[.int .i64 x25, .int .i64 ((mpos q2 q3 : Nat) : Int)] := emk q0g
       refine p (yl_extract q0g rfl) <| x_done <| ?_
       refine x_fin ⟨⟨_, rfl⟩, rfl, ?_⟩
       exact emk hS
      ·intro Ep8 w l' hE8 hO8 hF_ hS
       obtain ⟨q4, q0h, q0i, -⟩ := hF_
       replace q4 : Ep8 21 = .map (some b8) := emk q4
       replace q0h : Ep8 24 = .int .i64 x24 := emk q0h
       replace q0i : Ep8 26 = .int .i64 ((mpos q2 q3 : Nat) : Int) := emk q0i
       replace hS : St w0 w (mapA b8 kf_53 (Value.int .i64) q0x :: l') := emk hS
       refine o_entryStore (k := q2) (es := q3) (v0 := x25) (vf := (Value.int .i64)) (v := x24) q4 q0i q0h rfl q0s hS q19 (fun w' hS => ?_)
       refine x_done <| ?_
       refine x_fin ⟨⟨undef, rfl⟩, trivial, ?_⟩
       exact emk hS
     intro Ep8 w' hE8 hF_ hS
     obtain ⟨q4, q5, q0f, q0h, q0g, q0i, -⟩ := hF_
     replace q4 : Ep8 21 = .map (some b8) := emk q4
     replace q5 : Ep8 22 = .agg #[.int .i64 q2.From, .int .i64 q2.To] := emk q5
     replace q0f : Ep8 23 = .int .i64 x23 := emk q0f
     replace q0h : Ep8 24 = .int .i64 x24 := emk q0h
     replace q0g : Ep8 25 = .tuple #[.int .i64 x25, .int .i64 ((mpos q2 q3 : Nat) : Int)] := emk q0g
     replace q0i : Ep8 26 = .int .i64 ((mpos q2 q3 : Nat) : Int) := emk q0i
     replace hS : St w0 w' (cells b7 53 [.int .i64 q2.From, .int .i64 q2.To] :: mapA b8 kf_53 (Value.int .i64) q0y :: (ro ρ :: l)) := emk hS
     replace hFL6 := ar_s hFL6; obtain ⟨x27, hx27, hFL6⟩ := hFL6
     refine x_blk <| x_region <| p (yadd ((hE8 17 rfl).trans q0e) rfl hx27) <| p (yl_move rfl) <|
      x_done <| ?_
     have e_ := sinj hFL6; subst e_
     exact x_inv ⟨kL6, Nat.lt_succ_self _, q0y, x27, hLL6, ((hE8 3 rfl).trans q0k), ((hE8 9 rfl).trans q0v), ((hE8 10 rfl).trans q0n), ((hE8 11 rfl).trans q0o), ((hE8 15 rfl).trans q0p), ((hE8 16 rfl).trans q0q), rfl, ((hS.drop.pull 1).pull 1)⟩
    ·replace hFL6 := it_f hc18 hFL6
     refine x_exitTo _ rfl <| ?_
     have e_ := sinj hFL6; subst e_
     exact x_inv ⟨q3, hLL6, q0k, q0v, q0n, q0o, ((hS.pull 1).pull 1)⟩
   rintro E w ⟨q9, rfl, q1a, q1b, q13, q14, hS⟩
   replace hFL3 := ar_s hFL3; obtain ⟨x28, hx28, hFL3⟩ := hFL3
   refine x_blk <| x_region <| p (yadd q14 rfl hx28) <| p (yl_move rfl) <|
    x_done <| ?_
   have e_ := sinj hFL3; subst e_
   exact x_inv ⟨kL3, Nat.lt_succ_self _, q9, x28, hLL3, q1a, q1b, q13, rfl, ((hS.pull 1).pull 1)⟩
  ·replace hFL3 := it_f hc12 hFL3
   refine x_exitTo _ rfl <| ?_
   have e_ := sinj hFL3; subst e_
   exact x_inv ⟨q7, hLL3, q0t, ((hS.pull 1).pull 1)⟩
 rintro E w ⟨q0c, rfl, q1c, hS⟩
 refine x_seq <| x_region <| p (yl_move q1c) <| p (yl_assign rfl) <|
  x_done <| ?_
 have e_ := sinj hF; subst e_
 exact x_return ⟨_, ⟨_, _, rfl, rfl, rfl⟩, b8, rfl, ((hS.pull 1).pull 1)⟩
attribute [irreducible] P_global_Load

def P_global_Check_L10 (f0 : T_floor_Floor) (q3 : List T_global_Edge) : Int → Nd (Int ⊕ (Unit ⊕ Int)) := fun q2 =>
 if q2 < (q3.length : Int) then
  nck (inb q2 q3.length) <|
  nlv (gt q3 q2) fun q4 =>
  nbd (nof (P_global_isEdge f0 q4)) fun q5 =>
  if (!q5) = true then
   nret (Sum.inr (Sum.inr (7 : Int)))
  else
   nck (0 ≤ (0 : Int) ∧ (0 : Int) ≤ q2 ∧ q2 ≤ q3.length) <|
   nlv (sub q3 0 q2) fun x46 =>
   nbd (nof (P_slices_Contains_global_Edge_global_Edge x46 q4)) fun q6 =>
   if q6 = true then
    nret (Sum.inr (Sum.inr (6 : Int)))
   else
    nar (q2 + 1) fun x49 =>
    nret (Sum.inl x49)
 else
  nret (Sum.inr (Sum.inl ()))
def P_global_Check_L7 (f0 : T_floor_Floor) (nets1 : List T_legal_Net) (ways2 : List (List T_global_Edge)) : Int → Nd (Int ⊕ (Unit ⊕ Int)) := fun q2 =>
 if q2 < (ways2.length : Int) then
  nck (inb q2 ways2.length) <|
  nlv (gt ways2 q2) fun q4 =>
  nbs (
   nlp (P_global_Check_L10 f0 q4) fuel 0) (fun y => nret (Sum.inr (Sum.inr y))) fun _ =>
  nck (inb q2 nets1.length) <|
  nlv (gt nets1 q2) fun q5 =>
  nbd (nof (P_global_joins f0 q5 q4)) fun q3 =>
  if q3 ≠ 0 then
   nret (Sum.inr (Sum.inr q3))
  else
   nar (q2 + 1) fun x60 =>
   nret (Sum.inl x60)
 else
  nret (Sum.inr (Sum.inl ()))
def P_global_Check_L22 (f0 : T_floor_Floor) (q3 : List (T_global_Edge × Int)) : List Nat → Nd (List Nat ⊕ (Unit ⊕ Int)) := fun q2 =>
 nnx (q3.length) q2 (
  nret (Sum.inr (Sum.inl ()))) fun i64 =>
 nlv (gt q3 i64) fun e66 =>
 nbd (nof (P_global_Room f0 e66.1)) fun q4 =>
 if q4 < e66.2 then
  nret (Sum.inr (Sum.inr (14 : Int)))
 else
  nret (Sum.inl (q2 ++ [i64]))
def P_global_Check (f0 : T_floor_Floor) (nets1 : List T_legal_Net) (ways2 : List (List T_global_Edge)) : Nd Int :=
 nbd (nof (P_global_checkNets f0 nets1)) fun q2 =>
 if q2 ≠ 0 then
  nret q2
 else
  if (ways2.length : Int) ≠ (nets1.length : Int) then
   nret (4 : Int)
  else
   nbs (
    nlp (P_global_Check_L7 f0 nets1 ways2) fuel 0) (fun y => nret y) fun _ =>
   nbd (nof (P_global_Load ways2)) fun q3 =>
   nbs (
    nlp (P_global_Check_L22 f0 q3) fuel []) (fun y => nret y) fun _ =>
   nret (0 : Int)
theorem c_global_Check {w0 w : World} {l : List Assn} {ρ : Heap} {q3 : Option Addr} {q1d : Nat} {c_f0_3 : Nat} {q4 : Option Addr} {q1e : Nat} {c_f0_4 : Nat} {q5 : Option Addr} {q1f : Nat} {c_f0_5 : Nat} {q0a : Option Addr} {q11 : Nat} {c_nets1 : Nat} {q6 : Option Addr} {q12 : Nat} {c_ways2 : Nat} {f0 : T_floor_Floor} {nets1 : List T_legal_Net} {ways2 : List (List T_global_Edge)} {Q : Int → Prop} (hF : P_global_Check f0 nets1 ways2 Q) (q0g : RdS R_floor_Block ρ q3 q1d c_f0_3 f0.Blocks) (q0h : RdS R_floor_Wall ρ q4 q1e c_f0_4 f0.Walls) (q0i : RdS R_floor_Port ρ q5 q1f c_f0_5 f0.Ports) (q0j : RdS R_legal_Net ρ q0a q11 c_nets1 nets1) (q0k : RdS (RpSl R_global_Edge) ρ q6 q12 c_ways2 ways2) (hS : St w0 w (ro ρ :: l)) :
  Calls Tryd.prog 10 #[.agg #[.int .i64 f0.Rows, .int .i64 f0.Sites, .int .i64 f0.Layers, .slice q3 q1d c_f0_3, .slice q4 q1e c_f0_4, .slice q5 q1f c_f0_5], .slice q0a q11 c_nets1, .slice q6 q12 c_ways2] w fun e w' => ∃ r : Int, Q r ∧ e = .returned (.int .i64 r) ∧ St w0 w' (ro ρ :: l) := by
 have e_ := q0g.n; subst e_
 have e_ := q0h.n; subst e_
 have e_ := q0i.n; subst e_
 have e_ := q0j.n; subst e_
 have e_ := q0k.n; subst e_
 refine enterC Tryd.func10 rfl 74 rfl (by simp) ?_
 refine x_seq <| x_region <| ?_
 refine o_box (cs := [.int .i64 f0.Rows, .int .i64 f0.Sites, .int .i64 f0.Layers, .slice q3 f0.Blocks.length c_f0_3, .slice q4 f0.Walls.length c_f0_4, .slice q5 f0.Ports.length c_f0_5]) rfl rfl hS (fun b3 w' hS => ?_)
 replace hF := nbd_s hF; obtain ⟨q0q, q2c, hF⟩ := hF
 refine p (yl_assign rfl) <| x_done <| x_seq <| x_seq <|
  x_region <| pa (v := .agg #[.int .i64 f0.Rows, .int .i64 f0.Sites, .int .i64 f0.Layers, .slice q3 f0.Blocks.length c_f0_3, .slice q4 f0.Walls.length c_f0_4, .slice q5 f0.Ports.length c_f0_5]) (ld_sub agg_30 rfl rfl rfl hS) <| p (yl_move rfl) <| ?_
 have hcall := c_global_checkNets q2c q0g q0h q0i q0j (hS.pull 1)
 refine o_cc call_20 (args2 rfl rfl) ((Calls.mono hcall (fun e w'' h => And.intro h.1 (h.2.pull 1)))) ?_
 rintro e w' ⟨rfl, hS⟩
 refine ⟨_, rfl, ?_⟩
 refine p (v := .int .i64 q0q) (yl_assign rfl) <| x_done <| x_seq <| x_region <|
  p (v := .int .i64 q0q) (yl_move rfl) <| p (yl_neq rfl rfl) <| x_done <|
  x_cond_p (q0q ≠ 0) rfl (fun hc19 => ?_) (fun hc19 => ?_)
 ·replace hF := nit_t hc19 hF
  refine x_seq <| x_region <| p (v := .int .i64 q0q) (yl_move rfl) <| p (v := .int .i64 q0q) (yl_assign rfl) <|
   x_done <| ?_
  exact x_return ⟨_, ⟨_, _, rfl, rfl, rfl⟩, q0q, hF, rfl, hS.drop⟩
 ·replace hF := nit_f hc19 hF
  refine x_skip <| x_seq <| x_seq <| x_region <|
   p (yl_move rfl) <| p (yl_len_slice usl_43 rfl) <| p (yl_move rfl) <| p (yl_len_slice usl_34 rfl) <|
   p (yl_neq rfl rfl) <| x_done <|
   x_cond_p ((ways2.length : Int) ≠ (nets1.length : Int)) rfl (fun hc25 => ?_) (fun hc25 => ?_)
  ·replace hF := nit_t hc25 hF
   refine x_seq <| x_region <| p (yl_assign rfl) <| x_done <| ?_
   exact x_return ⟨_, ⟨_, _, rfl, rfl, rfl⟩, (4 : Int), hF, rfl, hS.drop⟩
  ·replace hF := nit_f hc25 hF
   refine x_skip <| x_seq <| x_seq <| x_region <|
    p (yl_move rfl) <| p (yl_len_slice usl_43 rfl) <| p (yl_move rfl) <| x_done <| ?_
   replace hF := nbs_j hF; obtain ⟨oL7, hLL7, hF⟩ := hF
   refine x_join (fun E w => oL7 (Sum.inl ()) ∧ E 2 = .slice q6 ways2.length c_ways2 ∧ E 3 = .pointer (some ⟨b3, 0, none⟩) ∧ St w0 w (cells b3 30 [.int .i64 f0.Rows, .int .i64 f0.Sites, .int .i64 f0.Layers, .slice q3 f0.Blocks.length c_f0_3, .slice q4 f0.Walls.length c_f0_4, .slice q5 f0.Ports.length c_f0_5] :: ro ρ :: l)) ?_ ?_
   ·refine x_block ?_
    refine x_loop (fun k_ E w => ∃ (q8 : Int), nlp (P_global_Check_L7 f0 nets1 ways2) k_ q8 oL7 ∧ E 1 = .slice q0a nets1.length c_nets1 ∧ E 2 = .slice q6 ways2.length c_ways2 ∧ E 3 = .pointer (some ⟨b3, 0, none⟩) ∧ E 26 = .slice q6 ways2.length c_ways2 ∧ E 27 = .int .i64 (ways2.length : Int) ∧ E 28 = .int .i64 q8 ∧ St w0 w (cells b3 30 [.int .i64 f0.Rows, .int .i64 f0.Sites, .int .i64 f0.Layers, .slice q3 f0.Blocks.length c_f0_3, .slice q4 f0.Walls.length c_f0_4, .slice q5 f0.Ports.length c_f0_5] :: ro ρ :: l)) fuel ⟨0, hLL7, rfl, rfl, rfl, rfl, rfl, rfl, ((hS.pull 1).pull 1)⟩ ?_
    rintro kL7 E w ⟨q8, hLL7, q1z, q1g, q1h, q13, q14, q0l, hS⟩
    replace hLL7 := nlp_s hLL7; obtain ⟨kL7, obL7, rfl, hFL7, hLL7⟩ := hLL7
    refine x_seq <| x_region <| p (yl_lss q0l q14) <| x_done <|
     x_seq <|
     x_cond_p (q8 < (ways2.length : Int)) rfl (fun hc29 => ?_) (fun hc29 => ?_)
    ·replace hFL7 := nit_t hc29 hFL7
     replace hFL7 := nck_s hFL7; obtain ⟨q1q, hFL7⟩ := hFL7
     replace hFL7 := nlv_s hFL7; obtain ⟨q0b, q2d, hFL7⟩ := hFL7
     have q_ := q0k.get q1q; obtain ⟨q2o, q1r, q2e⟩ := q_
     rw [← q2d] at q1r
     obtain ⟨q0r, q2p, q0s, rfl, q0v⟩ := q1r
     have e_ := q0v.n; subst e_
     refine x_skip <| x_seq <| x_block <| x_seq <|
      x_region <| p (yl_move q0l) <| p (yix_f sl_43 q13 q0l q0k q1q) <| pa (at_load one_51 rfl (Elt.ld (j := 0) q2e (hS.pull 1) rfl)) <|
      p (yl_assign rfl) <| p (yl_assign rfl) <| x_done <| x_seq <|
      x_seq <| x_region <| p (yl_move rfl) <| p (yl_len_slice usl_51 rfl) <|
      p (yl_move rfl) <| x_done <| ?_
     replace hFL7 := nbs_j hFL7; obtain ⟨oL10, hLL10, hFL7⟩ := hFL7
     refine x_join (fun E w => oL10 (Sum.inl ()) ∧ E 1 = .slice q0a nets1.length c_nets1 ∧ E 2 = .slice q6 ways2.length c_ways2 ∧ E 3 = .pointer (some ⟨b3, 0, none⟩) ∧ E 8 = .int .i64 q8 ∧ E 9 = .slice q0r q0b.length q0s ∧ E 26 = .slice q6 ways2.length c_ways2 ∧ E 27 = .int .i64 (ways2.length : Int) ∧ E 28 = .int .i64 q8 ∧ St w0 w (cells b3 30 [.int .i64 f0.Rows, .int .i64 f0.Sites, .int .i64 f0.Layers, .slice q3 f0.Blocks.length c_f0_3, .slice q4 f0.Walls.length c_f0_4, .slice q5 f0.Ports.length c_f0_5] :: ro ρ :: l)) ?_ ?_
     ·refine x_block ?_
      refine x_loop (fun k_ E w => ∃ (q7 : Int), nlp (P_global_Check_L10 f0 q0b) k_ q7 oL10 ∧ E 1 = .slice q0a nets1.length c_nets1 ∧ E 2 = .slice q6 ways2.length c_ways2 ∧ E 3 = .pointer (some ⟨b3, 0, none⟩) ∧ E 8 = .int .i64 q8 ∧ E 9 = .slice q0r q0b.length q0s ∧ E 26 = .slice q6 ways2.length c_ways2 ∧ E 27 = .int .i64 (ways2.length : Int) ∧ E 28 = .int .i64 q8 ∧ E 33 = .slice q0r q0b.length q0s ∧ E 34 = .int .i64 (q0b.length : Int) ∧ E 35 = .int .i64 q7 ∧ St w0 w (cells b3 30 [.int .i64 f0.Rows, .int .i64 f0.Sites, .int .i64 f0.Layers, .slice q3 f0.Blocks.length c_f0_3, .slice q4 f0.Walls.length c_f0_4, .slice q5 f0.Ports.length c_f0_5] :: ro ρ :: l)) fuel ⟨0, hLL10, q1z, q1g, q1h, rfl, rfl, q13, q14, q0l, rfl, rfl, rfl, ((hS.pull 1).pull 1)⟩ ?_
      rintro kL10 E w ⟨q7, hLL10, q15, q16, q0t, q17, q0u, q0w, q0x, q0y, q0z, q10, q0c, hS⟩
      replace hLL10 := nlp_s hLL10; obtain ⟨kL10, obL10, rfl, hFL10, hLL10⟩ := hLL10
      refine x_seq <| x_region <| p (yl_lss q0c q10) <| x_done <|
       x_seq <|
       x_cond_p (q7 < (q0b.length : Int)) rfl (fun hc36 => ?_) (fun hc36 => ?_)
      ·replace hFL10 := nit_t hc36 hFL10
       replace hFL10 := nck_s hFL10; obtain ⟨q1i, hFL10⟩ := hFL10
       replace hFL10 := nlv_s hFL10; obtain ⟨q2, q20, hFL10⟩ := hFL10
       have q_ := q0v.get q1i; obtain ⟨q2m, q1j, q21⟩ := q_
       rw [← q20] at q1j
       have e_ := q1j; subst e_
       refine x_skip <| x_seq <| x_block <| x_seq <|
        x_region <| p (yl_move q0c) <| p (yix_f sl_51 q0z q0c q0v q1i) <| pa (v := .agg #[.int .i64 q2.From, .int .i64 q2.To]) (at_loadAgg agg_53 rfl rfl (Elt.every q21 (hS.pull 1))) <| ?_
       refine o_alloc zero_53 hS (fun b11 w' hS => ?_)
       refine p (yl_assign rfl) <| ?_
       refine o_storeAgg (news := [.int .i64 q2.From, .int .i64 q2.To]) agg_53 rfl rfl rfl (by simp [over_length]) hS (fun w' hS => ?_)
       replace hFL10 := nbd_s hFL10; obtain ⟨q2f, q22, hFL10⟩ := hFL10
       refine x_done <| x_seq <| x_seq <| x_region <|
        pa (v := .agg #[.int .i64 f0.Rows, .int .i64 f0.Sites, .int .i64 f0.Layers, .slice q3 f0.Blocks.length c_f0_3, .slice q4 f0.Walls.length c_f0_4, .slice q5 f0.Ports.length c_f0_5]) (ld_sub agg_30 q0t rfl rfl (hS.pull 1)) <| pa (v := .agg #[.int .i64 q2.From, .int .i64 q2.To]) (ld_sub agg_53 rfl rfl rfl hS) <| ?_
       have hcall := c_global_isEdge q22 q0g q0h q0i (hS.pull 2)
       refine o_cc call_25 (args2 rfl rfl) ((Calls.mono hcall (fun e w'' h => And.intro h.1 ((h.2.pull 2).pull 2)))) ?_
       rintro e w' ⟨rfl, hS⟩
       refine ⟨_, rfl, ?_⟩
       refine p (yl_not rfl) <| x_done <|
        x_cond (t := !q2f) rfl (fun hc43 => ?_) (fun hc43 => ?_)
       ·replace hFL10 := nit_t hc43 hFL10
        refine x_seq <| x_region <| p (yl_assign rfl) <| x_done <| ?_
        exact x_return ⟨_, ⟨_, _, rfl, rfl, rfl⟩, (7 : Int), (hF _ (hLL7 _ (hFL7 _ (hLL10 _ hFL10)))), rfl, hS.drop.drop⟩
       ·replace hFL10 := nit_bf hc43 hFL10
        refine x_skip <| x_seq <| ?_
        replace hFL10 := nck_s hFL10; obtain ⟨q1k, hFL10⟩ := hFL10
        replace hFL10 := nlv_s hFL10; obtain ⟨x46, hx46, hFL10⟩ := hFL10
        replace hFL10 := nbd_s hFL10; obtain ⟨q1a, q23, hFL10⟩ := hFL10
        refine x_par (w0 := w0) [⟨[], [], [44], [], [], [], none⟩, ⟨[], [], [45], [], [], [], none⟩, ⟨[0, 1], [0, 1], [46], [0], [], [], none⟩, ⟨[], [], [47], [1], [], [], none⟩, ⟨[0, 1, 2, 3], [2, 3], [48], [0], [], [], none⟩] [⟨none, none, []⟩, ⟨none, none, []⟩] [44, 45, 46, 47, 48] [0, 1] [0, 1] [0, 1, 2, 3, 4] [fun Ep14 => Ep14 44 = .slice q0r q0b.length q0s, fun Ep14 => Ep14 45 = .int .i64 q7, fun Ep14 => Ep14 46 = .slice (adOf (Ep14 46)) x46.length (capOf (Ep14 46)) ∧ RdS R_global_Edge ρ (adOf (Ep14 46)) x46.length (capOf (Ep14 46)) x46, fun Ep14 => Ep14 47 = .agg #[.int .i64 q2.From, .int .i64 q2.To], fun Ep14 => Ep14 48 = .bool q1a] [fun Ep14 => ro ρ, fun Ep14 => cells b11 53 [.int .i64 q2.From, .int .i64 q2.To]] mixed (by kernel_rfl) (hS.pull 2) ?_ ?_
        ·refine ⟨?_, ?_, ?_, ?_, ?_, trivial⟩
         ·intro Ep14 w l' hE14 hO14 hF_ hS
          refine p (yl_move ((hE14 9 rfl).trans q0u)) <| x_done <| ?_
          refine x_fin ⟨⟨_, rfl⟩, rfl, ?_⟩
          exact emk hS
         ·intro Ep14 w l' hE14 hO14 hF_ hS
          refine p (yl_move (hE14 10 rfl)) <| x_done <| ?_
          refine x_fin ⟨⟨_, rfl⟩, rfl, ?_⟩
          exact emk hS
         ·intro Ep14 w l' hE14 hO14 hF_ hS
          obtain ⟨q0m, q0n, -⟩ := hF_
          replace q0m : Ep14 44 = .slice q0r q0b.length q0s := emk q0m
          replace q0n : Ep14 45 = .int .i64 q7 := emk q0n
          replace hS : St w0 w (ro ρ :: l') := emk hS
          have q_ := RdS.sub q0v q1k hx46; obtain ⟨A46, n46, c46, hd46, f46⟩ := q_
          refine p (ysub_h sl_51 q0m q0n q1k hd46) <| ?_
          have e_ := f46.n; subst e_
          refine x_done <| ?_
          refine x_fin ⟨⟨_, rfl⟩, ⟨rfl, f46⟩, ?_⟩
          exact emk hS
         ·intro Ep14 w l' hE14 hO14 hF_ hS
          replace hS : St w0 w (cells b11 53 [.int .i64 q2.From, .int .i64 q2.To] :: l') := emk hS
          refine pa (v := .agg #[.int .i64 q2.From, .int .i64 q2.To]) (ld_sub agg_53 (hE14 11 rfl) rfl rfl hS) <| x_done <| ?_
          refine x_fin ⟨⟨_, rfl⟩, rfl, ?_⟩
          exact emk hS
         ·intro Ep14 w l' hE14 hO14 hF_ hS
          obtain ⟨q9, q0o, -⟩ := hF_
          replace q9 : Ep14 46 = .slice (adOf (Ep14 46)) x46.length (capOf (Ep14 46)) ∧ RdS R_global_Edge ρ (adOf (Ep14 46)) x46.length (capOf (Ep14 46)) x46 := emk q9
          have q_ := id q9; obtain ⟨-, q1l⟩ := q_
          replace q0o : Ep14 47 = .agg #[.int .i64 q2.From, .int .i64 q2.To] := emk q0o
          replace hS : St w0 w (ro ρ :: l') := emk hS
          have hcall := c_slices_Contains_global_Edge_global_Edge q23 q1l hS
          refine o_cc call_26 (args2 q9.1 q0o) (hcall) ?_
          rintro e w' ⟨rfl, hS⟩
          refine ⟨_, rfl, ?_⟩
          refine x_done <| ?_
          refine x_fin ⟨⟨_, rfl⟩, rfl, ?_⟩
          exact emk hS
        intro Ep14 w' hE14 hF_ hS
        obtain ⟨q0m, q0n, q9, q0o, q1b, -⟩ := hF_
        replace q0m : Ep14 44 = .slice q0r q0b.length q0s := emk q0m
        replace q0n : Ep14 45 = .int .i64 q7 := emk q0n
        replace q9 : Ep14 46 = .slice (adOf (Ep14 46)) x46.length (capOf (Ep14 46)) ∧ RdS R_global_Edge ρ (adOf (Ep14 46)) x46.length (capOf (Ep14 46)) x46 := emk q9
        have q_ := id q9; obtain ⟨-, q1l⟩ := q_
        replace q0o : Ep14 47 = .agg #[.int .i64 q2.From, .int .i64 q2.To] := emk q0o
        replace q1b : Ep14 48 = .bool q1a := emk q1b
        replace hS : St w0 w' (ro ρ :: cells b11 53 [.int .i64 q2.From, .int .i64 q2.To] :: (cells b3 30 [.int .i64 f0.Rows, .int .i64 f0.Sites, .int .i64 f0.Layers, .slice q3 f0.Blocks.length c_f0_3, .slice q4 f0.Walls.length c_f0_4, .slice q5 f0.Ports.length c_f0_5] :: l)) := emk hS
        refine x_cond (t := q1a) q1b (fun hc48 => ?_) (fun hc48 => ?_)
        ·replace hFL10 := nit_t hc48 hFL10
         refine x_seq <| x_region <| p (yl_assign rfl) <| x_done <| ?_
         exact x_return ⟨_, ⟨_, _, rfl, rfl, rfl⟩, (6 : Int), (hF _ (hLL7 _ (hFL7 _ (hLL10 _ hFL10)))), rfl, (((hS.pull 1).drop.pull 1).drop)⟩
        ·replace hFL10 := nit_bf hc48 hFL10
         replace hFL10 := nar_s hFL10; obtain ⟨x49, hx49, hFL10⟩ := hFL10
         refine x_skip <| x_blk <| x_region <| p (yadd ((hE14 35 rfl).trans q0c) rfl hx49) <|
          p (yl_move rfl) <| x_done <| ?_
         exact x_inv ⟨kL10, Nat.lt_succ_self _, x49, (hLL10 _ hFL10), ((hE14 1 rfl).trans q15), ((hE14 2 rfl).trans q16), ((hE14 3 rfl).trans q0t), ((hE14 8 rfl).trans q17), ((hE14 9 rfl).trans q0u), ((hE14 26 rfl).trans q0w), ((hE14 27 rfl).trans q0x), ((hE14 28 rfl).trans q0y), ((hE14 33 rfl).trans q0z), ((hE14 34 rfl).trans q10), rfl, ((hS.pull 1).drop.pull 1)⟩
      ·replace hFL10 := nit_f hc36 hFL10
       refine x_exitTo _ rfl <| ?_
       exact x_inv ⟨(hLL10 _ hFL10), q15, q16, q0t, q17, q0u, q0w, q0x, q0y, ((hS.pull 1).pull 1)⟩
     rintro E w ⟨hq_, q1m, q24, q1n, q25, q26, q1u, q1v, q1w, hS⟩
     replace hFL7 := hFL7 _ hq_
     clear hq_
     replace hFL7 := nck_s hFL7; obtain ⟨q1o, hFL7⟩ := hFL7
     replace hFL7 := nlv_s hFL7; obtain ⟨q1s, q27, hFL7⟩ := hFL7
     have q_ := q0j.get q1o; obtain ⟨q2n, q1p, q28⟩ := q_
     rw [← q27] at q1p
     obtain ⟨q1x, q2l, q1y, rfl, q18⟩ := q1p
     have e_ := q18.n; subst e_
     replace hFL7 := nbd_s hFL7; obtain ⟨q0d, q29, hFL7⟩ := hFL7
     refine x_seq <| x_still mixed (by kernel_rfl) hS <| qa (v := .agg #[.int .i64 f0.Rows, .int .i64 f0.Sites, .int .i64 f0.Layers, .slice q3 f0.Blocks.length c_f0_3, .slice q4 f0.Walls.length c_f0_4, .slice q5 f0.Ports.length c_f0_5]) (fun w' hS => ld_sub agg_30 q1n rfl rfl hS) <| q (yl_move q1m) <|
      q (yl_move q25) <| q (yix_f sl_34 rfl rfl q0j q1o) <| qa (v := .agg #[.string q1s.Name, .slice q1x q1s.Pins.length q1y]) (fun w' hS => at_loadAgg agg_38 rfl rfl (Elt.every q28 (hS.pull 1))) <| q (yl_move q26) <|
      qcc (v := .int .i64 q0d) call_27 (args3 rfl rfl rfl) (fun w' hS => by
       have hcall := c_global_joins q29 q0g q0h q0i q18 q0v (hS.pull 1)
       exact (Calls.mono hcall (fun e w'' h => And.intro h.1 (h.2.pull 1)))) <| q (v := .int .i64 q0d) (yl_assign rfl) <|
      q_done fun w' hS => ?_
     refine x_seq <| x_region <| p (v := .int .i64 q0d) (yl_move rfl) <| p (yl_neq rfl rfl) <|
      x_done <|
      x_cond_p (q0d ≠ 0) rfl (fun hc58 => ?_) (fun hc58 => ?_)
     ·replace hFL7 := nit_t hc58 hFL7
      refine x_seq <| x_region <| p (v := .int .i64 q0d) (yl_move rfl) <| p (v := .int .i64 q0d) (yl_assign rfl) <|
       x_done <| ?_
      exact x_return ⟨_, ⟨_, _, rfl, rfl, rfl⟩, q0d, (hF _ (hLL7 _ hFL7)), rfl, hS.drop⟩
     ·replace hFL7 := nit_f hc58 hFL7
      replace hFL7 := nar_s hFL7; obtain ⟨x60, hx60, hFL7⟩ := hFL7
      refine x_skip <| x_blk <| x_region <| p (yadd q1w rfl hx60) <|
       p (yl_move rfl) <| x_done <| ?_
      exact x_inv ⟨kL7, Nat.lt_succ_self _, x60, (hLL7 _ hFL7), q1m, q24, q1n, q1u, q1v, rfl, ((hS.pull 1).pull 1)⟩
    ·replace hFL7 := nit_f hc29 hFL7
     refine x_exitTo _ rfl <| ?_
     exact x_inv ⟨(hLL7 _ hFL7), q1g, q1h, ((hS.pull 1).pull 1)⟩
   rintro E w ⟨hq_, q2g, q2h, hS⟩
   replace hF := hF _ hq_
   clear hq_
   replace hF := nbd_s hF; obtain ⟨q1c, q2a, hF⟩ := hF
   refine x_seq <| x_seq <| x_region <| p (yl_move q2g) <| ?_
   have hcall := c_global_Load q2a q0k (hS.pull 1)
   refine o_cc call_28 (args1 rfl) hcall ?_
   rintro e w' ⟨q0f, rfl, hS⟩
   refine ⟨_, rfl, ?_⟩
   refine o_range um_71 rfl hS (fun b63 w' hS => ?_)
   refine x_done <| ?_
   replace hF := nbs_j hF; obtain ⟨oL22, hLL22, hF⟩ := hF
   refine x_join (fun E w => oL22 (Sum.inl ()) ∧ St w0 w (ro ρ :: l)) ?_ ?_
   ·refine x_block ?_
    refine x_loop (fun k_ E w => ∃ (q0e : List Nat), nlp (P_global_Check_L22 f0 q1c) k_ q0e oL22 ∧ E 3 = .pointer (some ⟨b3, 0, none⟩) ∧ E 63 = .pointer (some ⟨b63, 0, none⟩) ∧ St w0 w (cells b3 30 [.int .i64 f0.Rows, .int .i64 f0.Sites, .int .i64 f0.Layers, .slice q3 f0.Blocks.length c_f0_3, .slice q4 f0.Walls.length c_f0_4, .slice q5 f0.Ports.length c_f0_5] :: mapA q0f kf_53 (Value.int .i64) q1c :: itA b63 q0f q1c.length q0e :: ro ρ :: l)) fuel ⟨[], hLL22, q2h, rfl, ((((hS.pull 2).pull 1).pull 2).pull 3)⟩ ?_
    rintro kL22 E w ⟨q0e, hLL22, q19, q0p, hS⟩
    replace hLL22 := nlp_s hLL22; obtain ⟨kL22, obL22, rfl, hFL22, hLL22⟩ := hLL22
    refine x_seq <| x_region <|
     o_next q0p ((hS.pull 1).pull 2) (fun q2i w' hS => ?_) (fun i64 q1t q2j w' hS => ?_)
    ·replace hFL22 := nnx_a hFL22 q2i
     refine p (yl_extract rfl rfl) <| x_done <| x_seq <| x_cond_f (show ev _ _ = .bool false from rfl) <|
      x_exitTo _ rfl <| ?_
     exact x_inv ⟨(hLL22 _ hFL22), hS.drop.drop.drop⟩
    ·replace hFL22 := nnx_k hFL22 q1t q2j
     replace hFL22 := nlv_s hFL22; obtain ⟨e66, he66, hFL22⟩ := hFL22
     refine p (yl_extract rfl rfl) <| x_done <| x_seq <| x_cond_t (show ev _ _ = .bool true from rfl) <|
      x_skip <| x_block <| x_seq <| x_region <|
      pa (at_entry (kf := kf_53) (vf := (Value.int .i64)) q0p q1t ((hS.pull 1).pull 1) he66) <| p (yl_extract rfl rfl) <| p (yl_extract rfl rfl) <| ?_
     refine o_alloc zero_53 hS (fun b13 w' hS => ?_)
     refine o_storeAgg (news := [.int .i64 e66.1.From, .int .i64 e66.1.To]) agg_53 rfl rfl rfl (by simp [over_length]) hS (fun w' hS => ?_)
     replace hFL22 := nbd_s hFL22; obtain ⟨q2k, q2b, hFL22⟩ := hFL22
     refine p (yl_assign rfl) <| x_done <| x_seq <| x_region <|
      p (yl_move rfl) <| pa (v := .agg #[.int .i64 f0.Rows, .int .i64 f0.Sites, .int .i64 f0.Layers, .slice q3 f0.Blocks.length c_f0_3, .slice q4 f0.Walls.length c_f0_4, .slice q5 f0.Ports.length c_f0_5]) (ld_sub agg_30 q19 rfl rfl (hS.pull 3)) <| pa (v := .agg #[.int .i64 e66.1.From, .int .i64 e66.1.To]) (ld_sub agg_53 rfl rfl rfl hS) <| ?_
     have hcall := c_global_Room q2b q0g q0h q0i (hS.pull 4)
     refine o_cc call_14 (args2 rfl rfl) ((Calls.mono hcall (fun e w'' h => And.intro h.1 ((((h.2.pull 4).pull 4).pull 4).pull 4)))) ?_
     rintro e w' ⟨rfl, hS⟩
     refine ⟨_, rfl, ?_⟩
     refine p (yl_gtr rfl rfl) <| x_done <|
      x_cond_p (q2k < e66.2) rfl (fun hc73 => ?_) (fun hc73 => ?_)
     ·replace hFL22 := nit_t hc73 hFL22
      refine x_seq <| x_region <| p (yl_assign rfl) <| x_done <| ?_
      exact x_return ⟨_, ⟨_, _, rfl, rfl, rfl⟩, (14 : Int), (hF _ (hLL22 _ hFL22)), rfl, hS.drop.drop.drop.drop⟩
     ·replace hFL22 := nit_f hc73 hFL22
      refine x_skip <| x_blk <| ?_
      exact x_inv ⟨kL22, Nat.lt_succ_self _, (q0e ++ [i64]), (hLL22 _ hFL22), q19, q0p, ((((hS.drop.pull 3).pull 1).pull 2).pull 3)⟩
   rintro E w ⟨hq_, hS⟩
   replace hF := hF _ hq_
   clear hq_
   refine x_seq <| x_region <| p (yl_assign rfl) <| x_done <| ?_
   exact x_return ⟨_, ⟨_, _, rfl, rfl, rfl⟩, (0 : Int), hF, rfl, hS⟩
attribute [irreducible] P_global_Check

def P_global_Edges_2_L9 (q4 : (Int × Int)) (q6 : Int) : (List T_global_Edge × Int) → Option ((List T_global_Edge × Int) ⊕ List T_global_Edge) := fun (q3, q2) =>
 if q2 < q4.1 then
  ar (q6 * q4.1) fun x27 =>
  ar (x27 + q2) fun x29 =>
  ar (q2 + 1) fun x31 =>
  bd (
   if x31 < q4.1 then
    ar (x29 + 1) fun x37 =>
    lv (q3 ++ [(T_global_Edge.mk x29 x37)]) fun q8 =>
    ck (apOk 16 q8.length) <|
    some q8
   else
    some q3) fun q5 =>
  ar (q6 + 1) fun x42 =>
  bd (
   if x42 < q4.2 then
    ar (x29 + q4.1) fun x49 =>
    lv (q5 ++ [(T_global_Edge.mk x29 x49)]) fun q9 =>
    ck (apOk 16 q9.length) <|
    some q9
   else
    some q5) fun q7 =>
  ar (q2 + 1) fun x53 =>
  some (Sum.inl (q7, x53))
 else
  some (Sum.inr q3)
def P_global_Edges_2_L6 (q5 : (Int × Int)) : (List T_global_Edge × Int) → Option ((List T_global_Edge × Int) ⊕ List T_global_Edge) := fun (q3, q2) =>
 if q2 < q5.2 then
  bd (
   lp (P_global_Edges_2_L9 q5 q2) fuel (q3, 0)) fun q4 =>
  ar (q2 + 1) fun x54 =>
  some (Sum.inl (q4, x54))
 else
  some (Sum.inr q3)
def P_global_Edges_2 (f0 : T_floor_Floor) : Option (List T_global_Edge) :=
 bd (P_floor_Check f0) fun q3 =>
 if q3 ≠ 0 then
  some []
 else
  bd (P_global_Grid f0) fun q4 =>
  bd (
   lp (P_global_Edges_2_L6 q4) fuel ([], 0)) fun q2 =>
  some q2
theorem c_global_Edges_2 {w0 w : World} {l : List Assn} {ρ : Heap} {q0v : Option Addr} {q1r : Nat} {c_f0_3 : Nat} {q0w : Option Addr} {q1s : Nat} {c_f0_4 : Nat} {q0x : Option Addr} {q1t : Nat} {c_f0_5 : Nat} {f0 : T_floor_Floor} {r : List T_global_Edge} (hF : P_global_Edges_2 f0 = some r) (q1c : RdS R_floor_Block ρ q0v q1r c_f0_3 f0.Blocks) (q1d : RdS R_floor_Wall ρ q0w q1s c_f0_4 f0.Walls) (q1e : RdS R_floor_Port ρ q0x q1t c_f0_5 f0.Ports) (hS : St w0 w (ro ρ :: l)) :
  Calls Tryd.prog 12 #[.agg #[.int .i64 f0.Rows, .int .i64 f0.Sites, .int .i64 f0.Layers, .slice q0v q1r c_f0_3, .slice q0w q1s c_f0_4, .slice q0x q1t c_f0_5]] w fun e w' => ∃ (q1f : Option Addr) (q11 : Nat) (c_y0_ret : Nat) (q18 : List Value), e = .returned (.slice q1f q11 c_y0_ret) ∧ RepL R_global_Edge ρ r q18 ∧ St w0 w' (vec 53 R_global_Edge.sz (.slice q1f q11 c_y0_ret) q11 q18 :: ro ρ :: l) := by
 have e_ := q1c.n; subst e_
 have e_ := q1d.n; subst e_
 have e_ := q1e.n; subst e_
 refine enterC Tryd.func12 rfl 56 rfl (by simp) ?_
 refine x_seq <| x_region <| ?_
 refine o_box (cs := [.int .i64 f0.Rows, .int .i64 f0.Sites, .int .i64 f0.Layers, .slice q0v f0.Blocks.length c_f0_3, .slice q0w f0.Walls.length c_f0_4, .slice q0x f0.Ports.length c_f0_5]) rfl rfl hS (fun b1 w' hS => ?_)
 replace hF := bd_s hF; obtain ⟨q2l, q2f, hF⟩ := hF
 refine p (yl_assign rfl) <| x_done <| x_seq <| x_seq <|
  x_region <| pa (v := .agg #[.int .i64 f0.Rows, .int .i64 f0.Sites, .int .i64 f0.Layers, .slice q0v f0.Blocks.length c_f0_3, .slice q0w f0.Walls.length c_f0_4, .slice q0x f0.Ports.length c_f0_5]) (ld_sub agg_30 rfl rfl rfl hS) <| ?_
 have hcall := c_floor_Check q2f q1c q1d q1e (hS.pull 1)
 refine o_cc call_9 (args1 rfl) ((Calls.mono hcall (fun e w'' h => And.intro h.1 (h.2.pull 1)))) ?_
 rintro e w' ⟨rfl, hS⟩
 refine ⟨_, rfl, ?_⟩
 refine p (yl_neq rfl rfl) <| x_done <|
  x_cond_p (q2l ≠ 0) rfl (fun hc11 => ?_) (fun hc11 => ?_)
 ·replace hF := it_t hc11 hF
  refine x_seq <| x_region <| p (yl_assign rfl) <| x_done <| ?_
  replace hS := St.vec_nil hS 53 R_global_Edge.sz
  have q1b : RepL R_global_Edge ρ [] [] := rfl
  have e_ := sinj hF; subst e_
  exact x_return ⟨_, ⟨_, _, rfl, rfl, rfl⟩, none, 0, 0, [], rfl, q1b, (((hS.pull 1).drop.pull 1).pull 1)⟩
 ·replace hF := it_f hc11 hF
  replace hF := bd_s hF; obtain ⟨q2, q2g, hF⟩ := hF
  refine x_skip <| x_seq <| x_region <| pa (v := .agg #[.int .i64 f0.Rows, .int .i64 f0.Sites, .int .i64 f0.Layers, .slice q0v f0.Blocks.length c_f0_3, .slice q0w f0.Walls.length c_f0_4, .slice q0x f0.Ports.length c_f0_5]) (ld_sub agg_30 rfl rfl rfl hS) <| ?_
  have hcall := c_global_Grid q2g q1c q1d q1e (hS.pull 1)
  refine o_cc call_30 (args1 rfl) ((Calls.mono hcall (fun e w'' h => And.intro h.1 (h.2.pull 1)))) ?_
  rintro e w' ⟨rfl, hS⟩
  refine ⟨_, rfl, ?_⟩
  refine p (v := .tuple #[.int .i64 q2.1, .int .i64 q2.2]) (yl_move rfl) <| p (yl_extract rfl rfl) <| p (yl_extract rfl rfl) <| p (yl_assign rfl) <|
   p (yl_assign rfl) <| x_done <| x_seq <| x_region <|
   p (yl_assign rfl) <| x_done <| x_seq <| x_seq <|
   x_region <| p (yl_move rfl) <| p (yl_move rfl) <| x_done <| ?_
  replace hF := bd_s hF; obtain ⟨oL6, hLL6, hF⟩ := hF
  refine x_join (fun E w => ∃ (q0o : Option Addr) (q0p : Nat) (c_out5_L6 : Nat) (q0c : List Value) (q0z : List T_global_Edge), q0z = oL6 ∧ E 5 = .slice q0o q0p c_out5_L6 ∧ RepL R_global_Edge ρ q0z q0c ∧ St w0 w (vec 53 R_global_Edge.sz (.slice q0o q0p c_out5_L6) q0p q0c :: ro ρ :: l)) ?_ ?_
  ·refine x_block ?_
   replace hS := St.vec_nil hS 53 R_global_Edge.sz
   have q12 : RepL R_global_Edge ρ [] [] := rfl
   refine x_loop (fun k_ E w => ∃ (q8 : Option Addr) (q0d : Nat) (c_out5_L6h : Nat) (q4 : List Value) (q6 : List T_global_Edge) (q3 : Int), lp (P_global_Edges_2_L6 q2) k_ (q6, q3) = some oL6 ∧ E 3 = .int .i64 q2.1 ∧ E 4 = .int .i64 q2.2 ∧ E 5 = .slice q8 q0d c_out5_L6h ∧ E 17 = .int .i64 q2.2 ∧ E 18 = .int .i64 q3 ∧ RepL R_global_Edge ρ q6 q4 ∧ St w0 w (vec 53 R_global_Edge.sz (.slice q8 q0d c_out5_L6h) q0d q4 :: ro ρ :: l)) fuel ⟨none, 0, 0, [], [], 0, hLL6, rfl, rfl, rfl, rfl, rfl, q12, (((hS.pull 1).drop.pull 1).pull 1)⟩ ?_
   rintro kL6 E w ⟨q8, q0d, c_out5_L6h, q4, q6, q3, hLL6, q1u, q24, q1v, q1m, q14, q0t, hS⟩
   have e_ := St.vec_n hS q0t; subst e_
   replace hLL6 := lp_s hLL6; obtain ⟨kL6, obL6, rfl, hFL6, hLL6⟩ := hLL6
   refine x_seq <| x_region <| p (yl_lss q14 q1m) <| x_done <|
    x_seq <|
    x_cond_p (q3 < q2.2) rfl (fun hc19 => ?_) (fun hc19 => ?_)
   ·replace hFL6 := it_t hc19 hFL6
    refine x_skip <| x_seq <| x_block <| x_seq <|
     x_region <| p (yl_move q14) <| p (yl_assign rfl) <| x_done <|
     x_seq <| x_region <| p (yl_move q1u) <| p (yl_move rfl) <|
     x_done <| ?_
    replace hFL6 := bd_s hFL6; obtain ⟨oL9, hLL9, hFL6⟩ := hFL6
    refine x_join (fun E w => ∃ (q0q : Option Addr) (q0r : Nat) (c_out5_L9 : Nat) (q0e : List Value) (q0s : List T_global_Edge), q0s = oL9 ∧ E 3 = .int .i64 q2.1 ∧ E 4 = .int .i64 q2.2 ∧ E 5 = .slice q0q q0r c_out5_L9 ∧ E 17 = .int .i64 q2.2 ∧ E 18 = .int .i64 q3 ∧ RepL R_global_Edge ρ q0s q0e ∧ St w0 w (vec 53 R_global_Edge.sz (.slice q0q q0r c_out5_L9) q0r q0e :: ro ρ :: l)) ?_ ?_
    ·refine x_block ?_
     refine x_loop (fun k_ E w => ∃ (q9 : Option Addr) (q0f : Nat) (c_out5_L9h : Nat) (q5 : List Value) (q7 : List T_global_Edge) (q0l : Int), lp (P_global_Edges_2_L9 q2 q3) k_ (q7, q0l) = some oL9 ∧ E 3 = .int .i64 q2.1 ∧ E 4 = .int .i64 q2.2 ∧ E 5 = .slice q9 q0f c_out5_L9h ∧ E 6 = .int .i64 q3 ∧ E 17 = .int .i64 q2.2 ∧ E 18 = .int .i64 q3 ∧ E 21 = .int .i64 q2.1 ∧ E 22 = .int .i64 q0l ∧ RepL R_global_Edge ρ q7 q5 ∧ St w0 w (vec 53 R_global_Edge.sz (.slice q9 q0f c_out5_L9h) q0f q5 :: ro ρ :: l)) fuel ⟨q8, q6.length, c_out5_L6h, q4, q6, 0, hLL9, q1u, q24, q1v, rfl, q1m, q14, rfl, rfl, q0t, ((hS.pull 1).pull 1)⟩ ?_
     rintro kL9 E w ⟨q9, q0f, c_out5_L9h, q5, q7, q0l, hLL9, q0y, q1g, q1h, q1i, q15, q16, q17, q10, q0g, hS⟩
     have e_ := St.vec_n hS q0g; subst e_
     replace hLL9 := lp_s hLL9; obtain ⟨kL9, obL9, rfl, hFL9, hLL9⟩ := hLL9
     refine x_seq <| x_region <| p (yl_lss q10 q17) <| x_done <|
      x_seq <|
      x_cond_p (q0l < q2.1) rfl (fun hc23 => ?_) (fun hc23 => ?_)
     ·replace hFL9 := it_t hc23 hFL9
      replace hFL9 := ar_s hFL9; obtain ⟨x27, hx27, hFL9⟩ := hFL9
      replace hFL9 := ar_s hFL9; obtain ⟨x29, hx29, hFL9⟩ := hFL9
      replace hFL9 := ar_s hFL9; obtain ⟨x31, hx31, hFL9⟩ := hFL9
      refine x_skip <| x_seq <| x_block <| x_seq <|
       x_region <| p (yl_move q10) <| p (yl_assign rfl) <| x_done <|
       x_seq <| x_region <| p (yl_move q1i) <| p (yl_move q0y) <|
       p (ymul rfl rfl hx27) <| p (yl_move rfl) <| p (yadd rfl rfl hx29) <| p (yl_assign rfl) <|
       x_done <| x_seq <| x_seq <| x_region <|
       p (yl_move rfl) <| p (yadd rfl rfl hx31) <| p (yl_move q0y) <| p (yl_lss rfl rfl) <|
       x_done <| ?_
      replace hFL9 := bd_s hFL9; obtain ⟨oc33, hFc33, hFL9⟩ := hFL9
      refine x_join (fun E w => ∃ (q0h : Option Addr) (q0i : Nat) (c_out5_c33 : Nat) (q0a : List Value) (q0m : List T_global_Edge), q0m = oc33 ∧ E 3 = .int .i64 q2.1 ∧ E 4 = .int .i64 q2.2 ∧ E 5 = .slice q0h q0i c_out5_c33 ∧ E 6 = .int .i64 q3 ∧ E 8 = .int .i64 x29 ∧ E 17 = .int .i64 q2.2 ∧ E 18 = .int .i64 q3 ∧ E 21 = .int .i64 q2.1 ∧ E 22 = .int .i64 q0l ∧ RepL R_global_Edge ρ q0m q0a ∧ St w0 w (vec 53 R_global_Edge.sz (.slice q0h q0i c_out5_c33) q0i q0a :: ro ρ :: l)) ?_ ?_
      ·refine x_cond_p (x31 < q2.1) rfl (fun hc33 => ?_) (fun hc33 => ?_)
       ·replace hFc33 := it_t hc33 hFc33
        replace hFc33 := ar_s hFc33; obtain ⟨x37, hx37, hFc33⟩ := hFc33
        refine x_region <| p (yl_move q1h) <| p (yl_move rfl) <| p (yl_move rfl) <|
         p (yadd rfl rfl hx37) <| p (v := .agg #[.int .i64 x29, .int .i64 x37]) (yl_build bld_53 bldf_53 (parts_eq (pt (va := .int .i64 x29) rfl (pt (va := .int .i64 x37) rfl pt0))) (by kernel_rfl)) <| ?_
        refine o_buildSlice (vs := [.agg #[.int .i64 x29, .int .i64 x37]]) (cs := [.int .i64 x29, .int .i64 x37]) sl_51 zero_53 (parts_eq (pt (va := .agg #[.int .i64 x29, .int .i64 x37]) rfl pt0)) rfl (by intro v hv; simp only [List.mem_cons, List.not_mem_nil, or_false] at hv; first | (subst hv; rfl) | (rcases hv with rfl <;> rfl)) (by decide) rfl hS (fun b39 w' hS => ?_)
        replace hFc33 := lv_s hFc33; obtain ⟨q1y, q25, hFc33⟩ := hFc33
        replace hFc33 := ck_s hFc33; obtain ⟨q26, hFc33⟩ := hFc33
        refine o_ap sl_51 zero_53 rfl (by decide) rfl rfl (hS.pull 1) q0g (src_blk usl_51 hS rfl rfl) (RepL.cons (R := R_global_Edge) (ρ := ρ) (x := (T_global_Edge.mk x29 x37)) (cs := [.int .i64 x29, .int .i64 x37]) rfl RepL.nil) q25 q26 (fun A40 c40 cs40 w' hr40 hS => ?_)
        refine p (yl_assign rfl) <| x_done <| ?_
        exact x_inv ⟨A40, q1y.length, c40, cs40, q1y, (sinj hFc33), q0y, q1g, rfl, q1i, rfl, q15, q16, q17, q10, hr40, (((hS.pull 1).drop.pull 1).pull 1)⟩
       ·replace hFc33 := it_f hc33 hFc33
        refine x_skip <| ?_
        exact x_inv ⟨q9, q7.length, c_out5_L9h, q5, q7, (sinj hFc33), q0y, q1g, q1h, q1i, rfl, q15, q16, q17, q10, q0g, ((hS.pull 1).pull 1)⟩
      rintro E w ⟨q0h, q0i, c_out5_c33, q0a, q0m, rfl, q1j, q1k, q1w, q1l, q1x, q1n, q1o, q1p, q1q, q0u, hS⟩
      have e_ := St.vec_n hS q0u; subst e_
      replace hFL9 := ar_s hFL9; obtain ⟨x42, hx42, hFL9⟩ := hFL9
      refine x_seq <| x_region <| p (yl_move q1l) <| p (yadd rfl rfl hx42) <|
       p (yl_move q1k) <| p (yl_lss rfl rfl) <| x_done <| ?_
      replace hFL9 := bd_s hFL9; obtain ⟨oc44, hFc44, hFL9⟩ := hFL9
      refine x_join (fun E w => ∃ (q0j : Option Addr) (q0k : Nat) (c_out5_c44 : Nat) (q0b : List Value) (q0n : List T_global_Edge), q0n = oc44 ∧ E 3 = .int .i64 q2.1 ∧ E 4 = .int .i64 q2.2 ∧ E 5 = .slice q0j q0k c_out5_c44 ∧ E 6 = .int .i64 q3 ∧ E 17 = .int .i64 q2.2 ∧ E 18 = .int .i64 q3 ∧ E 21 = .int .i64 q2.1 ∧ E 22 = .int .i64 q0l ∧ RepL R_global_Edge ρ q0n q0b ∧ St w0 w (vec 53 R_global_Edge.sz (.slice q0j q0k c_out5_c44) q0k q0b :: ro ρ :: l)) ?_ ?_
      ·refine x_cond_p (x42 < q2.2) rfl (fun hc44 => ?_) (fun hc44 => ?_)
       ·replace hFc44 := it_t hc44 hFc44
        replace hFc44 := ar_s hFc44; obtain ⟨x49, hx49, hFc44⟩ := hFc44
        refine x_region <| p (yl_move q1w) <| p (yl_move q1x) <| p (yl_move q1x) <|
         p (yl_move q1j) <| p (yadd rfl rfl hx49) <| p (v := .agg #[.int .i64 x29, .int .i64 x49]) (yl_build bld_53 bldf_53 (parts_eq (pt (va := .int .i64 x29) rfl (pt (va := .int .i64 x49) rfl pt0))) (by kernel_rfl)) <| ?_
        refine o_buildSlice (vs := [.agg #[.int .i64 x29, .int .i64 x49]]) (cs := [.int .i64 x29, .int .i64 x49]) sl_51 zero_53 (parts_eq (pt (va := .agg #[.int .i64 x29, .int .i64 x49]) rfl pt0)) rfl (by intro v hv; simp only [List.mem_cons, List.not_mem_nil, or_false] at hv; first | (subst hv; rfl) | (rcases hv with rfl <;> rfl)) (by decide) rfl hS (fun b51 w' hS => ?_)
        replace hFc44 := lv_s hFc44; obtain ⟨q1z, q27, hFc44⟩ := hFc44
        replace hFc44 := ck_s hFc44; obtain ⟨q28, hFc44⟩ := hFc44
        refine o_ap sl_51 zero_53 rfl (by decide) rfl rfl (hS.pull 1) q0u (src_blk usl_51 hS rfl rfl) (RepL.cons (R := R_global_Edge) (ρ := ρ) (x := (T_global_Edge.mk x29 x49)) (cs := [.int .i64 x29, .int .i64 x49]) rfl RepL.nil) q27 q28 (fun A52 c52 cs52 w' hr52 hS => ?_)
        refine p (yl_assign rfl) <| x_done <| ?_
        exact x_inv ⟨A52, q1z.length, c52, cs52, q1z, (sinj hFc44), q1j, q1k, rfl, q1l, q1n, q1o, q1p, q1q, hr52, (((hS.pull 1).drop.pull 1).pull 1)⟩
       ·replace hFc44 := it_f hc44 hFc44
        refine x_skip <| ?_
        exact x_inv ⟨q0h, q0m.length, c_out5_c33, q0a, q0m, (sinj hFc44), q1j, q1k, q1w, q1l, q1n, q1o, q1p, q1q, q0u, ((hS.pull 1).pull 1)⟩
      rintro E w ⟨q0j, q0k, c_out5_c44, q0b, q0n, rfl, q29, q2a, q2b, q2c, q20, q21, q22, q23, q13, hS⟩
      have e_ := St.vec_n hS q13; subst e_
      replace hFL9 := ar_s hFL9; obtain ⟨x53, hx53, hFL9⟩ := hFL9
      refine x_blk <| x_region <| p (yadd q23 rfl hx53) <| p (yl_move rfl) <|
       x_done <| ?_
      have e_ := sinj hFL9; subst e_
      exact x_inv ⟨kL9, Nat.lt_succ_self _, q0j, q0n.length, c_out5_c44, q0b, q0n, x53, hLL9, q29, q2a, q2b, q2c, q20, q21, q22, rfl, q13, ((hS.pull 1).pull 1)⟩
     ·replace hFL9 := it_f hc23 hFL9
      refine x_exitTo _ rfl <| ?_
      have e_ := sinj hFL9; subst e_
      exact x_inv ⟨q9, q7.length, c_out5_L9h, q5, q7, hLL9, q0y, q1g, q1h, q15, q16, q0g, ((hS.pull 1).pull 1)⟩
    rintro E w ⟨q0q, q0r, c_out5_L9, q0e, q0s, rfl, q2h, q2i, q2j, q2d, q2e, q19, hS⟩
    have e_ := St.vec_n hS q19; subst e_
    replace hFL6 := ar_s hFL6; obtain ⟨x54, hx54, hFL6⟩ := hFL6
    refine x_blk <| x_region <| p (yadd q2e rfl hx54) <| p (yl_move rfl) <|
     x_done <| ?_
    have e_ := sinj hFL6; subst e_
    exact x_inv ⟨kL6, Nat.lt_succ_self _, q0q, q0s.length, c_out5_L9, q0e, q0s, x54, hLL6, q2h, q2i, q2j, q2d, rfl, q19, ((hS.pull 1).pull 1)⟩
   ·replace hFL6 := it_f hc19 hFL6
    refine x_exitTo _ rfl <| ?_
    have e_ := sinj hFL6; subst e_
    exact x_inv ⟨q8, q6.length, c_out5_L6h, q4, q6, hLL6, q1v, q0t, ((hS.pull 1).pull 1)⟩
  rintro E w ⟨q0o, q0p, c_out5_L6, q0c, q0z, rfl, q2k, q1a, hS⟩
  have e_ := St.vec_n hS q1a; subst e_
  refine x_seq <| x_region <| p (yl_move q2k) <| p (yl_assign rfl) <|
   x_done <| ?_
  have e_ := sinj hF; subst e_
  exact x_return ⟨_, ⟨_, _, rfl, rfl, rfl⟩, q0o, q0z.length, c_out5_L6, q0c, rfl, q1a, ((hS.pull 1).pull 1)⟩
attribute [irreducible] P_global_Edges_2

def P_maskkeep4_GlobalRoutes_1 (x0 : T_global_Edge) (v1 : T_floor_Floor) (q2 : List T_legal_Net) : Option Bool :=
 bd (P_global_Room v1 x0) fun q3 =>
 some (decide (q3 < (q2.length : Int)))
theorem c_maskkeep4_GlobalRoutes_1 {w0 w : World} {l : List Assn} {ρ : Heap} {q0d : Nat} {q2 : Option Addr} {q5 : Nat} {c_v1_3 : Nat} {q3 : Option Addr} {q6 : Nat} {c_v1_4 : Nat} {q4 : Option Addr} {q7 : Nat} {c_v1_5 : Nat} {q0e : Nat} {q8 : Option Addr} {q9 : Nat} {c_v2_0 : Nat} {x0 : T_global_Edge} {v1 : T_floor_Floor} {q0f : List T_legal_Net} {r : Bool} (hF : P_maskkeep4_GlobalRoutes_1 x0 v1 q0f = some r) (q0a : RdS R_floor_Block ρ q2 q5 c_v1_3 v1.Blocks) (q0b : RdS R_floor_Wall ρ q3 q6 c_v1_4 v1.Walls) (q0c : RdS R_floor_Port ρ q4 q7 c_v1_5 v1.Ports) (q0g : RdS R_legal_Net ρ q8 q9 c_v2_0 q0f) (hS : St w0 w (cells q0d 30 [.int .i64 v1.Rows, .int .i64 v1.Sites, .int .i64 v1.Layers, .slice q2 q5 c_v1_3, .slice q3 q6 c_v1_4, .slice q4 q7 c_v1_5] :: cells q0e 34 [.slice q8 q9 c_v2_0] :: ro ρ :: l)) :
  Calls Tryd.prog 13 #[.agg #[.int .i64 x0.From, .int .i64 x0.To], .pointer (some ⟨q0d, 0, none⟩), .pointer (some ⟨q0e, 0, none⟩)] w fun e w' => e = .returned (.bool r) ∧ St w0 w' (cells q0d 30 [.int .i64 v1.Rows, .int .i64 v1.Sites, .int .i64 v1.Layers, .slice q2 q5 c_v1_3, .slice q3 q6 c_v1_4, .slice q4 q7 c_v1_5] :: cells q0e 34 [.slice q8 q9 c_v2_0] :: ro ρ :: l) := by
 have e_ := q0a.n; subst e_
 have e_ := q0b.n; subst e_
 have e_ := q0c.n; subst e_
 have e_ := q0g.n; subst e_
 refine enterC Tryd.func13 rfl 11 rfl (by simp) ?_
 refine x_seq <| x_region <| ?_
 refine o_box (cs := [.int .i64 x0.From, .int .i64 x0.To]) rfl rfl hS (fun b3 w' hS => ?_)
 replace hF := bd_s hF; obtain ⟨q0i, q0h, hF⟩ := hF
 refine p (yl_assign rfl) <| x_done <| x_seq <| x_still mixed (by kernel_rfl) hS <|
  qa (v := .agg #[.int .i64 v1.Rows, .int .i64 v1.Sites, .int .i64 v1.Layers, .slice q2 v1.Blocks.length c_v1_3, .slice q3 v1.Walls.length c_v1_4, .slice q4 v1.Ports.length c_v1_5]) (fun w' hS => ld_sub agg_30 rfl rfl rfl (hS.pull 1)) <| qa (v := .agg #[.int .i64 x0.From, .int .i64 x0.To]) (fun w' hS => ld_sub agg_53 rfl rfl rfl hS) <| qcc (v := .int .i64 q0i) call_14 (args2 rfl rfl) (fun w' hS => by
   have hcall := c_global_Room q0h q0a q0b q0c (hS.pull 3)
   exact (Calls.mono hcall (fun e w'' h => And.intro h.1 (((h.2.pull 3).pull 3).pull 3)))) <| qa (fun w' hS => at_load one_34 rfl ((hS.pull 2).cell rfl)) <|
  q (yl_len_slice usl_34 rfl) <| q (yl_lss rfl rfl) <| q (yl_assign rfl) <|
  q_done fun w' hS => ?_
 have e_ := sinj hF; subst e_
 exact x_return ⟨_, ⟨_, _, rfl, rfl, rfl⟩, rfl, (((hS.drop.pull 2).pull 2).pull 2)⟩
attribute [irreducible] P_maskkeep4_GlobalRoutes_1

def P_slices_IndexFunc_global_Edge_global_Edge_L2 (s0 : List T_global_Edge) (q4 : T_floor_Floor) (q3 : List T_legal_Net) : Int → Option (Int ⊕ (Unit ⊕ Int)) := fun q2 =>
 if q2 < (s0.length : Int) then
  ck (inb q2 s0.length) <|
  lv (gt s0 q2) fun q5 =>
  bd (P_maskkeep4_GlobalRoutes_1 q5 q4 q3) fun q6 =>
  if q6 = true then
   some (Sum.inr (Sum.inr q2))
  else
   ar (q2 + 1) fun x18 =>
   some (Sum.inl x18)
 else
  some (Sum.inr (Sum.inl ()))
def P_slices_IndexFunc_global_Edge_global_Edge (s0 : List T_global_Edge) (q3 : T_floor_Floor) (q2 : List T_legal_Net) : Option Int :=
 bs (
  lp (P_slices_IndexFunc_global_Edge_global_Edge_L2 s0 q3 q2) fuel 0) (fun y => some y) fun _ =>
 some (-1 : Int)
theorem c_slices_IndexFunc_global_Edge_global_Edge {w0 w : World} {l : List Assn} {ρ : Heap} {q0n : Option Addr} {q0r : Nat} {c_s0 : Nat} {q7 : Nat} {q3 : Option Addr} {q0a : Nat} {c_f1_0_3 : Nat} {q4 : Option Addr} {q0b : Nat} {c_f1_0_4 : Nat} {q5 : Option Addr} {q0c : Nat} {c_f1_0_5 : Nat} {q8 : Nat} {q6 : Option Addr} {q0d : Nat} {c_f1_1_0 : Nat} {s0 : List T_global_Edge} {q2 : T_floor_Floor} {q9 : List T_legal_Net} {r : Int} (hF : P_slices_IndexFunc_global_Edge_global_Edge s0 q2 q9 = some r) (q0o : RdS R_global_Edge ρ q0n q0r c_s0 s0) (q0f : RdS R_floor_Block ρ q3 q0a c_f1_0_3 q2.Blocks) (q0g : RdS R_floor_Wall ρ q4 q0b c_f1_0_4 q2.Walls) (q0h : RdS R_floor_Port ρ q5 q0c c_f1_0_5 q2.Ports) (q0i : RdS R_legal_Net ρ q6 q0d c_f1_1_0 q9) (hS : St w0 w (cells q7 30 [.int .i64 q2.Rows, .int .i64 q2.Sites, .int .i64 q2.Layers, .slice q3 q0a c_f1_0_3, .slice q4 q0b c_f1_0_4, .slice q5 q0c c_f1_0_5] :: cells q8 34 [.slice q6 q0d c_f1_1_0] :: ro ρ :: l)) :
  Calls Tryd.prog 29 #[.slice q0n q0r c_s0, .func (.func 13) #[] #[.pointer (some ⟨q7, 0, none⟩), .pointer (some ⟨q8, 0, none⟩)]] w fun e w' => e = .returned (.int .i64 r) ∧ St w0 w' (cells q7 30 [.int .i64 q2.Rows, .int .i64 q2.Sites, .int .i64 q2.Layers, .slice q3 q0a c_f1_0_3, .slice q4 q0b c_f1_0_4, .slice q5 q0c c_f1_0_5] :: cells q8 34 [.slice q6 q0d c_f1_1_0] :: ro ρ :: l) := by
 have e_ := q0o.n; subst e_
 have e_ := q0f.n; subst e_
 have e_ := q0g.n; subst e_
 have e_ := q0h.n; subst e_
 have e_ := q0i.n; subst e_
 refine enterC Tryd.func29 rfl 19 rfl (by simp) ?_
 refine x_seq <| x_region <| p (yl_assign rfl) <| x_done <|
  x_seq <| x_seq <| x_region <| p (yl_move rfl) <|
  p (yl_len_slice usl_51 rfl) <| p (yl_move rfl) <| x_done <| ?_
 replace hF := bs_s hF; obtain ⟨oL2, hLL2, hF⟩ := hF
 refine x_join (fun E w => (Sum.inl (())) = oL2 ∧ St w0 w (cells q7 30 [.int .i64 q2.Rows, .int .i64 q2.Sites, .int .i64 q2.Layers, .slice q3 q2.Blocks.length c_f1_0_3, .slice q4 q2.Walls.length c_f1_0_4, .slice q5 q2.Ports.length c_f1_0_5] :: cells q8 34 [.slice q6 q9.length c_f1_1_0] :: ro ρ :: l)) ?_ ?_
 ·refine x_block ?_
  refine x_loop (fun k_ E w => ∃ (q0e : Int), lp (P_slices_IndexFunc_global_Edge_global_Edge_L2 s0 q2 q9) k_ q0e = some oL2 ∧ E 0 = .slice q0n s0.length c_s0 ∧ E 1 = .func (.func 13) #[] #[.pointer (some ⟨q7, 0, none⟩), .pointer (some ⟨q8, 0, none⟩)] ∧ E 7 = .int .i64 (s0.length : Int) ∧ E 8 = .int .i64 q0e ∧ St w0 w (cells q7 30 [.int .i64 q2.Rows, .int .i64 q2.Sites, .int .i64 q2.Layers, .slice q3 q2.Blocks.length c_f1_0_3, .slice q4 q2.Walls.length c_f1_0_4, .slice q5 q2.Ports.length c_f1_0_5] :: cells q8 34 [.slice q6 q9.length c_f1_1_0] :: ro ρ :: l)) fuel ⟨0, hLL2, rfl, rfl, rfl, rfl, (((hS.pull 2).pull 2).pull 2)⟩ ?_
  rintro kL2 E w ⟨q0e, hLL2, q0k, q0l, q0m, q0j, hS⟩
  replace hLL2 := lp_s hLL2; obtain ⟨kL2, obL2, rfl, hFL2, hLL2⟩ := hLL2
  refine x_seq <| x_region <| p (yl_lss q0j q0m) <| x_done <|
   x_seq <|
   x_cond_p (q0e < (s0.length : Int)) rfl (fun hc9 => ?_) (fun hc9 => ?_)
  ·replace hFL2 := it_t hc9 hFL2
   replace hFL2 := ck_s hFL2; obtain ⟨q0p, hFL2⟩ := hFL2
   replace hFL2 := lv_s hFL2; obtain ⟨q0s, q0t, hFL2⟩ := hFL2
   have q_ := q0o.get q0p; obtain ⟨q0x, q0q, q0u⟩ := q_
   rw [← q0t] at q0q
   have e_ := q0q; subst e_
   replace hFL2 := bd_s hFL2; obtain ⟨q0w, q0v, hFL2⟩ := hFL2
   refine x_skip <| x_seq <| x_block <| x_seq <|
    x_region <| p (yl_move q0j) <| p (yl_assign rfl) <| x_done <|
    x_seq <| x_region <| p (yl_move q0l) <| p (yl_move q0k) <|
    p (yl_move rfl) <| p (yix_f sl_51 rfl rfl q0o q0p) <| pa (v := .agg #[.int .i64 q0s.From, .int .i64 q0s.To]) (at_loadAgg agg_53 rfl rfl (Elt.every q0u (hS.pull 2))) <| ?_
   have hcall := c_maskkeep4_GlobalRoutes_1 q0v q0f q0g q0h q0i hS
   refine o_ccv rfl call_13 (capargs (args1 rfl)) (hcall) ?_
   rintro e w' ⟨rfl, hS⟩
   refine ⟨_, rfl, ?_⟩
   refine x_done <|
    x_cond (t := q0w) rfl (fun hc16 => ?_) (fun hc16 => ?_)
   ·replace hFL2 := it_t hc16 hFL2
    refine x_seq <| x_region <| p (yl_move rfl) <| p (yl_assign rfl) <|
     x_done <| ?_
    have e_ := sinj hFL2; subst e_
    have e_ := (show _ = oL2 from hLL2); subst e_
    have e_ := sinj hF; subst e_
    exact x_return ⟨_, ⟨_, _, rfl, rfl, rfl⟩, rfl, (((hS.pull 2).pull 2).pull 2)⟩
   ·replace hFL2 := it_bf hc16 hFL2
    replace hFL2 := ar_s hFL2; obtain ⟨x18, hx18, hFL2⟩ := hFL2
    refine x_skip <| x_blk <| x_region <| p (yadd q0j rfl hx18) <|
     p (yl_move rfl) <| x_done <| ?_
    have e_ := sinj hFL2; subst e_
    exact x_inv ⟨kL2, Nat.lt_succ_self _, x18, hLL2, q0k, q0l, q0m, rfl, (((hS.pull 2).pull 2).pull 2)⟩
  ·replace hFL2 := it_f hc9 hFL2
   refine x_exitTo _ rfl <| ?_
   have e_ := sinj hFL2; subst e_
   exact x_inv ⟨hLL2, (((hS.pull 2).pull 2).pull 2)⟩
 rintro E w ⟨rfl, hS⟩
 refine x_seq <| x_region <| p (yl_assign rfl) <| x_done <| ?_
 have e_ := sinj hF; subst e_
 exact x_return ⟨_, ⟨_, _, rfl, rfl, rfl⟩, rfl, (((hS.pull 2).pull 2).pull 2)⟩
attribute [irreducible] P_slices_IndexFunc_global_Edge_global_Edge

def P_slices_ContainsFunc_global_Edge_global_Edge (s0 : List T_global_Edge) (q3 : T_floor_Floor) (q2 : List T_legal_Net) : Option Bool :=
 bd (P_slices_IndexFunc_global_Edge_global_Edge s0 q3 q2) fun q4 =>
 some (decide (0 ≤ q4))
theorem c_slices_ContainsFunc_global_Edge_global_Edge {w0 w : World} {l : List Assn} {ρ : Heap} {q0i : Option Addr} {q0j : Nat} {c_s0 : Nat} {q0b : Nat} {q3 : Option Addr} {q4 : Nat} {c_f1_0_3 : Nat} {q5 : Option Addr} {q6 : Nat} {c_f1_0_4 : Nat} {q7 : Option Addr} {q8 : Nat} {c_f1_0_5 : Nat} {q0c : Nat} {q9 : Option Addr} {q0a : Nat} {c_f1_1_0 : Nat} {s0 : List T_global_Edge} {q2 : T_floor_Floor} {q0h : List T_legal_Net} {r : Bool} (hF : P_slices_ContainsFunc_global_Edge_global_Edge s0 q2 q0h = some r) (q0k : RdS R_global_Edge ρ q0i q0j c_s0 s0) (q0d : RdS R_floor_Block ρ q3 q4 c_f1_0_3 q2.Blocks) (q0e : RdS R_floor_Wall ρ q5 q6 c_f1_0_4 q2.Walls) (q0f : RdS R_floor_Port ρ q7 q8 c_f1_0_5 q2.Ports) (q0g : RdS R_legal_Net ρ q9 q0a c_f1_1_0 q0h) (hS : St w0 w (cells q0b 30 [.int .i64 q2.Rows, .int .i64 q2.Sites, .int .i64 q2.Layers, .slice q3 q4 c_f1_0_3, .slice q5 q6 c_f1_0_4, .slice q7 q8 c_f1_0_5] :: cells q0c 34 [.slice q9 q0a c_f1_1_0] :: ro ρ :: l)) :
  Calls Tryd.prog 11 #[.slice q0i q0j c_s0, .func (.func 13) #[] #[.pointer (some ⟨q0b, 0, none⟩), .pointer (some ⟨q0c, 0, none⟩)]] w fun e w' => e = .returned (.bool r) ∧ St w0 w' (cells q0b 30 [.int .i64 q2.Rows, .int .i64 q2.Sites, .int .i64 q2.Layers, .slice q3 q4 c_f1_0_3, .slice q5 q6 c_f1_0_4, .slice q7 q8 c_f1_0_5] :: cells q0c 34 [.slice q9 q0a c_f1_1_0] :: ro ρ :: l) := by
 have e_ := q0k.n; subst e_
 have e_ := q0d.n; subst e_
 have e_ := q0e.n; subst e_
 have e_ := q0f.n; subst e_
 have e_ := q0g.n; subst e_
 refine enterC Tryd.func11 rfl 9 rfl (by simp) ?_
 replace hF := bd_s hF; obtain ⟨q0m, q0l, hF⟩ := hF
 refine x_seq <| x_region <| p (yl_assign rfl) <| x_done <|
  x_seq <| x_region <| p (yl_move rfl) <| p (yl_move rfl) <| ?_
 have hcall := c_slices_IndexFunc_global_Edge_global_Edge q0l q0k q0d q0e q0f q0g hS
 refine o_cc call_29 (args2 rfl rfl) (hcall) ?_
 rintro e w' ⟨rfl, hS⟩
 refine ⟨_, rfl, ?_⟩
 refine p (yl_geq rfl rfl) <| p (yl_assign rfl) <| x_done <| ?_
 have e_ := sinj hF; subst e_
 exact x_return ⟨_, ⟨_, _, rfl, rfl, rfl⟩, rfl, (((hS.pull 2).pull 2).pull 2)⟩
attribute [irreducible] P_slices_ContainsFunc_global_Edge_global_Edge


end Go.Proofs.YtgmjhlpjlggpiaaDoor.X
