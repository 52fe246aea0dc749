/- Printed by gen.py: plain functions, and that the Go code computes them. -/
import Derived.Test.YtnnmbmgnpdcefaaYJ
import Derived.Test.YtnnmbmgnpdcefaaXI
import Derived.Test.YtnnmbmgnpdcefaaXP
import Derived.Test.YtnnmbmgnpdcefaaYX
import Derived.Test.YtnnmbmgnpdcefaaYU
import Derived.Test.YtnnmbmgnpdcefaaXT
import Derived.Test.YtnnmbmgnpdcefaaGAp0
import Derived.Test.YtnnmbmgnpdcefaaGAp1
namespace Go.Proofs.Ytnnmbmgnpdcefaa.X
set_option maxHeartbeats 4000000
set_option maxRecDepth 100000
open Go Go.RowKit
set_option linter.unusedVariables false
set_option linter.unusedSimpArgs false

def P_rules_small_L11 (s2 : List T_rules_shape) (x33 : Int) (q7 : List T_rules_Spot) (q6 : Int) : (List (Int × List (T_rules_Spot × Bool)) × List (Int × Int) × Int) → Nd ((List (Int × List (T_rules_Spot × Bool)) × List (Int × Int) × Int) ⊕ (List (Int × List (T_rules_Spot × Bool)) × List (Int × Int))) := fun (q2, q5, q3) =>
 if q3 < (q7.length : Int) then
  nck (inb q3 q7.length) <|
  nlv (gt q7 q3) fun q0c =>
  nlv (!mhas x33 q2) fun x48 =>
  nbd (
   if x48 = true then
    nck (mhas x33 q2 = false) <|
    nlv (mput x33 [] q2) fun q0d =>
    nret q0d
   else
    nret q2) fun q4 =>
  nck (inb q6 s2.length) <|
  nlv (gt s2 q6) fun q8 =>
  nck (mhas x33 q4 = true) <|
  nlv (mput x33 (mput q0c true (mget x33 q4 [])) q4) fun q9 =>
  nlv (mget x33 q5 0) fun x63 =>
  nlv (mput x33 x63 q5) fun q0a =>
  nlv (mput x33 q8.fnet q0a) fun q0b =>
  nar (q3 + 1) fun x65 =>
  nret (Sum.inl (q9, q0b, x65))
 else
  nret (Sum.inr (q2, q5))
def P_rules_small_L8 (s2 : List T_rules_shape) (q7 : List Int) (q3 : Int) : (List (Int × List (T_rules_Spot × Bool)) × List (Int × Int) × Int) → Nd ((List (Int × List (T_rules_Spot × Bool)) × List (Int × Int) × Int) ⊕ (List (Int × List (T_rules_Spot × Bool)) × List (Int × Int))) := fun (q4, q5, q2) =>
 if q2 < (q7.length : Int) then
  nck (inb q2 q7.length) <|
  nlv (gt q7 q2) fun x33 =>
  nck (inb q2 s2.length) <|
  nlv (gt s2 q2) fun q9 =>
  nbd (nof (P_rules_small_1 q9 q3)) fun q0a =>
  nbd (
   nlp (P_rules_small_L11 s2 x33 q0a q2) fuel (q4, q5, 0)) fun (q6, q8) =>
  nar (q2 + 1) fun x66 =>
  nret (Sum.inl (q6, q8, x66))
 else
  nret (Sum.inr (q4, q5))
def P_rules_small_L19 (q4 : List (Int × List (T_rules_Spot × Bool))) (q9 : List (Int × Int)) : (List Nat × List (T_rules_Fault × Bool) × Bool) → Nd ((List Nat × List (T_rules_Fault × Bool) × Bool) ⊕ (List (T_rules_Fault × Bool) × Bool)) := fun (q5, q2, q3) =>
 nnx (q4.length) q5 (
  nret (Sum.inr (q2, q3))) fun i69 =>
 nlv (gt q4 i69) fun e71 =>
 nbd (
  if (e71.2.length : Int) < 2 then
   nlv (mget e71.1 q9 0) fun x80 =>
   nbd (nof (P_rules_least e71.2)) fun q0a =>
   nbd (nof (P_rules_bag_add q2 q3 (T_rules_Fault.mk 4 x80 0 q0a))) fun q8 =>
   nret (q8.1, q8.2)
  else
   nret (q2, q3)) fun (q6, q7) =>
 nret (Sum.inl ((q5 ++ [i69]), q6, q7))
def P_rules_small_L2 (l_1 : T_rules_Layout) (s2 : List T_rules_shape) : (List (T_rules_Fault × Bool) × Bool × Int) → Nd ((List (T_rules_Fault × Bool) × Bool × Int) ⊕ (List (T_rules_Fault × Bool) × Bool)) := fun (q3, q4, q2) =>
 if q2 < l_1.Layers then
  nbd (nof (P_rules_groups s2 q2)) fun q9 =>
  nbd (
   nlp (P_rules_small_L8 s2 q9 q2) fuel ([], [], 0)) fun (q7, q8) =>
  nbd (
   nlp (P_rules_small_L19 q7 q8) fuel ([], q3, q4)) fun (q5, q6) =>
  nar (q2 + 1) fun x21 =>
  nret (Sum.inl (q5, q6, x21))
 else
  nret (Sum.inr (q3, q4))
def P_rules_small (q4 : List (T_rules_Fault × Bool)) (q5 : Bool) (l_1 : T_rules_Layout) (s2 : List T_rules_shape) : Nd (List (T_rules_Fault × Bool) × Bool) :=
 nbd (
  nlp (P_rules_small_L2 l_1 s2) fuel (q4, q5, 1)) fun (q2, q3) =>
 nret (q2, q3)
theorem c_rules_small {w0 w : World} {l : List Assn} {ρ : Heap} {q0h : Nat} {q5 : Nat} {q0d : Option Addr} {q2l : Nat} {c_l_1_4 : Nat} {q0e : Option Addr} {q2m : Nat} {c_l_1_5 : Nat} {q0f : Option Addr} {q2n : Nat} {c_l_1_6 : Nat} {q0g : Option Addr} {q2o : Nat} {c_l_1_7 : Nat} {q0i : Option Addr} {q45 : Nat} {c_s2 : Nat} {q3c : List (T_rules_Fault × Bool)} {q3d : Bool} {l_1 : T_rules_Layout} {s2 : List T_rules_shape} {Q : (List (T_rules_Fault × Bool) × Bool) → Prop} (hF : P_rules_small q3c q3d l_1 s2 Q) (q3h : RdS R_rules_Wire ρ q0d q2l c_l_1_4 l_1.Wires) (q3i : RdS R_rules_Via ρ q0e q2m c_l_1_5 l_1.Vias) (q3j : RdS R_rules_Pin ρ q0f q2n c_l_1_6 l_1.Pins) (q3k : RdS R_floor_Wall ρ q0g q2o c_l_1_7 l_1.Walls) (q21 : RdS R_rules_shape ρ q0i q45 c_s2 s2) (hS : St w0 w (cells q0h 103 [.map (some q5), .bool q3d] :: mapA q5 kf_63 Value.bool q3c :: ro ρ :: l)) :
  Calls Try.prog 49 #[.pointer (some ⟨q0h, 0, none⟩), .agg #[.int .i64 l_1.W, .int .i64 l_1.H, .int .i64 l_1.Layers, .int .i64 l_1.Nets, .slice q0d q2l c_l_1_4, .slice q0e q2m c_l_1_5, .slice q0f q2n c_l_1_6, .slice q0g q2o c_l_1_7], .slice q0i q45 c_s2] w fun e w' => ∃ r : (List (T_rules_Fault × Bool) × Bool), Q r ∧ e = .returned (.tuple #[]) ∧ St w0 w' (cells q0h 103 [.map (some q5), .bool r.2] :: mapA q5 kf_63 Value.bool r.1 :: ro ρ :: l) := by
 have e_ := q3h.n; subst e_
 have e_ := q3i.n; subst e_
 have e_ := q3j.n; subst e_
 have e_ := q3k.n; subst e_
 have e_ := q21.n; subst e_
 refine enterC Try.func49 rfl 86 rfl (by simp) ?_
 refine x_seq <| x_region <| ?_
 refine o_box (cs := [.int .i64 l_1.W, .int .i64 l_1.H, .int .i64 l_1.Layers, .int .i64 l_1.Nets, .slice q0d l_1.Wires.length c_l_1_4, .slice q0e l_1.Vias.length c_l_1_5, .slice q0f l_1.Pins.length c_l_1_6, .slice q0g l_1.Walls.length c_l_1_7]) rfl rfl hS (fun b4 w' hS => ?_)
 refine x_done <| x_seq <| x_region <| ?_
 refine o_alloc zero_3 hS (fun b6 w' hS => ?_)
 refine o_store1 (v := .int .i64 1) one_3 rfl rfl rfl rfl hS (fun w' hS => ?_)
 refine x_done <| ?_
 replace hF := nbd_j hF; obtain ⟨oL2, hLL2, hF⟩ := hF
 refine x_join (fun E w => ∃ (q18 : List (T_rules_Fault × Bool)) (q19 : Bool), oL2 (q18, q19) ∧ St w0 w (cells q0h 103 [.map (some q5), .bool q19] :: mapA q5 kf_63 Value.bool q18 :: ro ρ :: l)) ?_ ?_
 ·refine x_block ?_
  refine x_loop (fun k_ E w => ∃ (q2 : Nat) (q9 : List (T_rules_Fault × Bool)) (q0a : Bool) (q3 : Int), nlp (P_rules_small_L2 l_1 s2) k_ (q9, q0a, q3) oL2 ∧ E 0 = .pointer (some ⟨q0h, 0, none⟩) ∧ E 2 = .slice q0i s2.length c_s2 ∧ E 4 = .pointer (some ⟨b4, 0, none⟩) ∧ E 6 = .pointer (some ⟨q2, 0, none⟩) ∧ St w0 w (cells q0h 103 [.map (some q5), .bool q0a] :: cells b4 31 [.int .i64 l_1.W, .int .i64 l_1.H, .int .i64 l_1.Layers, .int .i64 l_1.Nets, .slice q0d l_1.Wires.length c_l_1_4, .slice q0e l_1.Vias.length c_l_1_5, .slice q0f l_1.Pins.length c_l_1_6, .slice q0g l_1.Walls.length c_l_1_7] :: cells q2 3 [.int .i64 q3] :: mapA q5 kf_63 Value.bool q9 :: ro ρ :: l)) fuel ⟨b6, q3c, q3d, 1, hLL2, rfl, rfl, rfl, rfl, (((((hS.pull 4).pull 4).pull 2).pull 3).pull 4)⟩ ?_
  rintro kL2 E w ⟨q2, q9, q0a, q3, hLL2, q46, q2v, q2w, q2g, hS⟩
  replace hLL2 := nlp_s hLL2; obtain ⟨kL2, obL2, rfl, hFL2, hLL2⟩ := hLL2
  refine x_seq <| x_seq <| x_region <| pa (at_load one_3 q2g ((hS.pull 2).cell rfl)) <|
   p (yl_field0 fld_31_2 q2w) <| pa (at_load one_3 rfl ((hS.pull 1).cell rfl)) <| p (yl_lss rfl rfl) <| x_done <|
   x_cond_p (q3 < l_1.Layers) rfl (fun hc19 => ?_) (fun hc19 => ?_)
  ·replace hFL2 := nit_t hc19 hFL2
   refine x_skip <| x_seq <| x_block <| x_seq <|
    x_region <| p (v := .func (.func 64) #[] #[.pointer (some ⟨q2, 0, none⟩)]) (yl_makeFunc (by simp only [List.map_toArray, List.map_nil]) (by simp only [List.map_toArray, List.map_cons, List.map_nil]; exact arr1 q2g)) <| p (v := .func (.func 64) #[] #[.pointer (some ⟨q2, 0, none⟩)]) (yl_assign rfl) <| x_done <|
    x_seq <| x_region <| ?_
   refine o_mkmapM (Value.int .i64) kf_61 Value.bool hS (fun b23 w' hS => ?_)
   refine p (yl_assign rfl) <| x_done <| x_seq <| x_region <| ?_
   refine o_mkmap (κ := Int) (α := Int) (Value.int .i64) (Value.int .i64) hS (fun b24 w' hS => ?_)
   replace hFL2 := nbd_s hFL2; obtain ⟨q0j, q52, hFL2⟩ := hFL2
   refine p (yl_assign rfl) <| x_done <| x_seq <| x_seq <|
    x_region <| p (yl_move q2v) <| p (v := .func (.func 64) #[] #[.pointer (some ⟨q2, 0, none⟩)]) (yl_move rfl) <| ?_
   have hcall := c_rules_groups q52 q21 ((hS.pull 6).pull 5)
   refine o_cc call_68 (args2 rfl rfl) hcall ?_
   rintro e w' ⟨q0b, q47, c_y0_ret_7_2, q0m, rfl, q14, hS⟩
   refine ⟨_, rfl, ?_⟩
   have e_ := St.vec_n hS q14; subst e_
   refine p (yl_len_slice usl_22 rfl) <| p (yl_move rfl) <| x_done <| ?_
   replace hFL2 := nbd_j hFL2; obtain ⟨oL8, hLL8, hFL2⟩ := hFL2
   refine x_join (fun E w => ∃ (q0o : List Nat) (q0l : List (Int × List (T_rules_Spot × Bool))) (q13 : List (Int × Int)), oL8 (q0l, q13) ∧ E 0 = .pointer (some ⟨q0h, 0, none⟩) ∧ E 2 = .slice q0i s2.length c_s2 ∧ E 4 = .pointer (some ⟨b4, 0, none⟩) ∧ E 6 = .pointer (some ⟨q2, 0, none⟩) ∧ E 8 = .map (some b23) ∧ E 9 = .map (some b24) ∧ St w0 w (cells q0h 103 [.map (some q5), .bool q0a] :: cells b4 31 [.int .i64 l_1.W, .int .i64 l_1.H, .int .i64 l_1.Layers, .int .i64 l_1.Nets, .slice q0d l_1.Wires.length c_l_1_4, .slice q0e l_1.Vias.length c_l_1_5, .slice q0f l_1.Pins.length c_l_1_6, .slice q0g l_1.Walls.length c_l_1_7] :: cells q2 3 [.int .i64 q3] :: mapM b23 (Value.int .i64) kf_61 Value.bool q0l q0o :: mapA b24 (Value.int .i64) (Value.int .i64) q13 :: mapA q5 kf_63 Value.bool q9 :: ro ρ :: l)) ?_ ?_
   ·refine x_block ?_
    refine x_loop (fun k_ E w => ∃ (q0r : List Nat) (q0s : List (Int × List (T_rules_Spot × Bool))) (q15 : List (Int × Int)) (q7 : Int), nlp (P_rules_small_L8 s2 q0j q3) k_ (q0s, q15, q7) oL8 ∧ E 0 = .pointer (some ⟨q0h, 0, none⟩) ∧ E 2 = .slice q0i s2.length c_s2 ∧ E 4 = .pointer (some ⟨b4, 0, none⟩) ∧ E 6 = .pointer (some ⟨q2, 0, none⟩) ∧ E 7 = .func (.func 64) #[] #[.pointer (some ⟨q2, 0, none⟩)] ∧ E 8 = .map (some b23) ∧ E 9 = .map (some b24) ∧ E 27 = .slice q0b q0j.length c_y0_ret_7_2 ∧ E 28 = .int .i64 (q0j.length : Int) ∧ E 29 = .int .i64 q7 ∧ St w0 w (cells q0h 103 [.map (some q5), .bool q0a] :: cells b4 31 [.int .i64 l_1.W, .int .i64 l_1.H, .int .i64 l_1.Layers, .int .i64 l_1.Nets, .slice q0d l_1.Wires.length c_l_1_4, .slice q0e l_1.Vias.length c_l_1_5, .slice q0f l_1.Pins.length c_l_1_6, .slice q0g l_1.Walls.length c_l_1_7] :: cells q2 3 [.int .i64 q3] :: mapM b23 (Value.int .i64) kf_61 Value.bool q0s q0r :: mapA b24 (Value.int .i64) (Value.int .i64) q15 :: vec 3 (RpI .i64).sz (.slice q0b q0j.length c_y0_ret_7_2) q0j.length q0m :: mapA q5 kf_63 Value.bool q9 :: ro ρ :: l)) fuel ⟨[], [], [], 0, hLL8, q46, q2v, q2w, q2g, rfl, rfl, rfl, rfl, rfl, rfl, ((((((((hS.pull 2).pull 7).pull 2).pull 4).pull 5).pull 5).pull 7).pull 7)⟩ ?_
    rintro kL8 E w ⟨q0r, q0s, q15, q7, hLL8, q2x, q2h, q2y, q2z, q30, q31, q32, q2p, q2q, q1j, hS⟩
    replace hLL8 := nlp_s hLL8; obtain ⟨kL8, obL8, rfl, hFL8, hLL8⟩ := hLL8
    refine x_seq <| x_region <| p (yl_lss q1j q2q) <| x_done <|
     x_seq <|
     x_cond_p (q7 < (q0j.length : Int)) rfl (fun hc30 => ?_) (fun hc30 => ?_)
    ·replace hFL8 := nit_t hc30 hFL8
     replace hFL8 := nck_s hFL8; obtain ⟨q3f, hFL8⟩ := hFL8
     replace hFL8 := nlv_s hFL8; obtain ⟨x33, hx33, hFL8⟩ := hFL8
     replace hFL8 := nck_s hFL8; obtain ⟨q33, hFL8⟩ := hFL8
     replace hFL8 := nlv_s hFL8; obtain ⟨q2e, q48, hFL8⟩ := hFL8
     have q_ := q21.get q33; obtain ⟨q5h, q34, q49⟩ := q_
     rw [← q48] at q34
     obtain ⟨q3l, q5f, q3m, rfl, q2r⟩ := q34
     have e_ := q2r.n; subst e_
     replace hFL8 := nbd_s hFL8; obtain ⟨q1k, q4a, hFL8⟩ := hFL8
     refine x_skip <| x_seq <| x_block <| x_seq <|
      x_region <| p (yl_move q1j) <| p (yix_o sl_22 q2p q1j (hS.pull 5) q14 q3f) <| pa (at_load one_3 rfl (RepL.getW q14 (hS.pull 5) q3f hx33)) <|
      p (yl_assign rfl) <| p (yl_assign rfl) <| x_done <| x_seq <|
      x_region <| p (yl_move q30) <| p (yl_move q2h) <| p (yl_move rfl) <|
      p (yix_f sl_98 rfl rfl q21 q33) <| pa (v := .agg #[.int .i64 q2e.fnet, .slice q3l q2e.fspots.length q3m, .bool q2e.fwire, .int .i64 q2e.fpin]) (at_loadAgg agg_122 rfl rfl (Elt.every q49 (hS.pull 7))) <| ?_
     have hcall := c_rules_small_1 q4a q2r ((hS.pull 7).pull 3)
     refine o_ccv rfl call_64 (capargs (args1 rfl)) hcall ?_
     rintro e w' ⟨q0t, q1i, q44, c_y0_ret_10_5, rfl, q22, q0v, hS⟩
     refine ⟨_, rfl, ?_⟩
     have e_ := q0v.n; subst e_
     refine p (yl_len_slice usl_120 rfl) <| p (yl_move rfl) <| x_done <| ?_
     replace hFL8 := nbd_j hFL8; obtain ⟨oL11, hLL11, hFL8⟩ := hFL8
     refine x_join (fun E w => ∃ (q0w : List Nat) (q0x : List (Int × List (T_rules_Spot × Bool))) (q1e : List (Int × Int)), oL11 (q0x, q1e) ∧ E 0 = .pointer (some ⟨q0h, 0, none⟩) ∧ E 2 = .slice q0i s2.length c_s2 ∧ E 4 = .pointer (some ⟨b4, 0, none⟩) ∧ E 6 = .pointer (some ⟨q2, 0, none⟩) ∧ E 7 = .func (.func 64) #[] #[.pointer (some ⟨q2, 0, none⟩)] ∧ E 8 = .map (some b23) ∧ E 9 = .map (some b24) ∧ E 27 = .slice q0b q0j.length c_y0_ret_7_2 ∧ E 28 = .int .i64 (q0j.length : Int) ∧ E 29 = .int .i64 q7 ∧ St w0 w (cells q0h 103 [.map (some q5), .bool q0a] :: cells b4 31 [.int .i64 l_1.W, .int .i64 l_1.H, .int .i64 l_1.Layers, .int .i64 l_1.Nets, .slice q0d l_1.Wires.length c_l_1_4, .slice q0e l_1.Vias.length c_l_1_5, .slice q0f l_1.Pins.length c_l_1_6, .slice q0g l_1.Walls.length c_l_1_7] :: cells q2 3 [.int .i64 q3] :: mapM b23 (Value.int .i64) kf_61 Value.bool q0x q0w :: mapA b24 (Value.int .i64) (Value.int .i64) q1e :: vec 3 (RpI .i64).sz (.slice q0b q0j.length c_y0_ret_7_2) q0j.length q0m :: mapA q5 kf_63 Value.bool q9 :: ro q0t :: l)) ?_ ?_
     ·refine x_block ?_
      refine x_loop (fun k_ E w => ∃ (q0k : List Nat) (q0n : List (Int × List (T_rules_Spot × Bool))) (q8 : List (Int × Int)) (q16 : Int), nlp (P_rules_small_L11 s2 x33 q1k q7) k_ (q0n, q8, q16) oL11 ∧ E 0 = .pointer (some ⟨q0h, 0, none⟩) ∧ E 2 = .slice q0i s2.length c_s2 ∧ E 4 = .pointer (some ⟨b4, 0, none⟩) ∧ E 6 = .pointer (some ⟨q2, 0, none⟩) ∧ E 7 = .func (.func 64) #[] #[.pointer (some ⟨q2, 0, none⟩)] ∧ E 8 = .map (some b23) ∧ E 9 = .map (some b24) ∧ E 10 = .int .i64 q7 ∧ E 11 = .int .i64 x33 ∧ E 27 = .slice q0b q0j.length c_y0_ret_7_2 ∧ E 28 = .int .i64 (q0j.length : Int) ∧ E 29 = .int .i64 q7 ∧ E 39 = .slice q1i q1k.length c_y0_ret_10_5 ∧ E 40 = .int .i64 (q1k.length : Int) ∧ E 41 = .int .i64 q16 ∧ St w0 w (cells q0h 103 [.map (some q5), .bool q0a] :: cells b4 31 [.int .i64 l_1.W, .int .i64 l_1.H, .int .i64 l_1.Layers, .int .i64 l_1.Nets, .slice q0d l_1.Wires.length c_l_1_4, .slice q0e l_1.Vias.length c_l_1_5, .slice q0f l_1.Pins.length c_l_1_6, .slice q0g l_1.Walls.length c_l_1_7] :: cells q2 3 [.int .i64 q3] :: mapM b23 (Value.int .i64) kf_61 Value.bool q0n q0k :: mapA b24 (Value.int .i64) (Value.int .i64) q8 :: vec 3 (RpI .i64).sz (.slice q0b q0j.length c_y0_ret_7_2) q0j.length q0m :: mapA q5 kf_63 Value.bool q9 :: ro q0t :: l)) fuel ⟨q0r, q0s, q15, 0, hLL11, q2x, q2h, q2y, q2z, q30, q31, q32, rfl, rfl, q2p, q2q, q1j, rfl, rfl, rfl, ((((((((hS.pull 1).pull 7).pull 7).pull 7).pull 7).pull 5).pull 7).pull 7)⟩ ?_
      rintro kL11 E w ⟨q0k, q0n, q8, q16, hLL11, q23, q24, q25, q26, q27, q1a, q28, q2i, q1f, q1v, q1w, q1x, q1y, q1z, q1g, hS⟩
      replace hLL11 := nlp_s hLL11; obtain ⟨kL11, obL11, rfl, hFL11, hLL11⟩ := hLL11
      refine x_seq <| x_region <| p (yl_lss q1g q1z) <| x_done <|
       x_seq <|
       x_cond_p (q16 < (q1k.length : Int)) rfl (fun hc42 => ?_) (fun hc42 => ?_)
      ·replace hFL11 := nit_t hc42 hFL11
       replace hFL11 := nck_s hFL11; obtain ⟨q35, hFL11⟩ := hFL11
       replace hFL11 := nlv_s hFL11; obtain ⟨q6, q4b, hFL11⟩ := hFL11
       have q_ := q0v.get q35; obtain ⟨q5i, q36, q4c⟩ := q_
       rw [← q4b] at q36
       have e_ := q36; subst e_
       refine x_skip <| x_seq <| x_block <| x_seq <|
        x_region <| p (yix_f sl_120 q1y q1g q0v q35) <| pa (v := .agg #[.int .i64 q6.Layer, .int .i64 q6.X, .int .i64 q6.Y]) (at_loadAgg agg_61 rfl rfl (Elt.every q4c (hS.pull 7))) <| ?_
       refine o_alloc zero_61 hS (fun b13 w' hS => ?_)
       refine o_storeAgg (news := [.int .i64 q6.Layer, .int .i64 q6.X, .int .i64 q6.Y]) agg_61 rfl rfl rfl (by simp [over_length]) hS (fun w' hS => ?_)
       replace hFL11 := nlv_s hFL11; obtain ⟨x48, hx48, hFL11⟩ := hFL11
       refine x_done <| x_seq <| x_seq <| x_region <|
        p (yl_move q1a) <| p (yl_move q1f) <| pa (v := .map (mb x33 q0n q0k)) (at_lookM um_130 (KeyP.int ui_3) (zero1 zv_84) rfl rfl (hS.pull 4)) <| pa (at_nilM um_84 rfl rfl (hS.pull 4) hx48) <|
        x_done <| ?_
       replace hFL11 := nbd_j hFL11; obtain ⟨oc48, hFc48, hFL11⟩ := hFL11
       refine x_join (fun E w => ∃ (q4 : List Nat) (q0c : List (Int × List (T_rules_Spot × Bool))), oc48 q0c ∧ E 0 = .pointer (some ⟨q0h, 0, none⟩) ∧ E 2 = .slice q0i s2.length c_s2 ∧ E 4 = .pointer (some ⟨b4, 0, none⟩) ∧ E 6 = .pointer (some ⟨q2, 0, none⟩) ∧ E 7 = .func (.func 64) #[] #[.pointer (some ⟨q2, 0, none⟩)] ∧ E 8 = .map (some b23) ∧ E 9 = .map (some b24) ∧ E 10 = .int .i64 q7 ∧ E 11 = .int .i64 x33 ∧ E 13 = .pointer (some ⟨b13, 0, none⟩) ∧ E 27 = .slice q0b q0j.length c_y0_ret_7_2 ∧ E 28 = .int .i64 (q0j.length : Int) ∧ E 29 = .int .i64 q7 ∧ E 39 = .slice q1i q1k.length c_y0_ret_10_5 ∧ E 40 = .int .i64 (q1k.length : Int) ∧ E 41 = .int .i64 q16 ∧ St w0 w (cells q0h 103 [.map (some q5), .bool q0a] :: cells b4 31 [.int .i64 l_1.W, .int .i64 l_1.H, .int .i64 l_1.Layers, .int .i64 l_1.Nets, .slice q0d l_1.Wires.length c_l_1_4, .slice q0e l_1.Vias.length c_l_1_5, .slice q0f l_1.Pins.length c_l_1_6, .slice q0g l_1.Walls.length c_l_1_7] :: cells q2 3 [.int .i64 q3] :: mapM b23 (Value.int .i64) kf_61 Value.bool q0c q4 :: mapA b24 (Value.int .i64) (Value.int .i64) q8 :: cells b13 61 [.int .i64 q6.Layer, .int .i64 q6.X, .int .i64 q6.Y] :: vec 3 (RpI .i64).sz (.slice q0b q0j.length c_y0_ret_7_2) q0j.length q0m :: mapA q5 kf_63 Value.bool q9 :: ro q0t :: l)) ?_ ?_
       ·refine x_cond (t := x48) rfl (fun hc48 => ?_) (fun hc48 => ?_)
        ·replace hFc48 := nit_t hc48 hFc48
         refine x_region <| p (yl_move q1a) <| p (yl_move q1f) <| ?_
         refine o_mkmap (κ := T_rules_Spot) (α := Bool) kf_61 Value.bool hS (fun b51 w' hS => ?_)
         replace hFc48 := nck_s hFc48; obtain ⟨q4d, hFc48⟩ := hFc48
         replace hFc48 := nlv_s hFc48; obtain ⟨q53, q4e, hFc48⟩ := hFc48
         refine o_mapsetM (k := x33) um_130 (KeyP.int ui_3) rfl rfl rfl q4d ((hS.pull 5).pull 1) q4e (fun q4f w' hS => ?_)
         refine x_done <| ?_
         exact x_inv ⟨q4f, q53, hFc48, q23, q24, q25, q26, q27, q1a, q28, q2i, q1f, rfl, q1v, q1w, q1x, q1y, q1z, q1g, (((((((((hS.pull 8).pull 8).pull 8).pull 4).pull 8).pull 5).pull 8).pull 8).pull 8)⟩
        ·replace hFc48 := nit_bf hc48 hFc48
         refine x_skip <| ?_
         exact x_inv ⟨q0k, q0n, hFc48, q23, q24, q25, q26, q27, q1a, q28, q2i, q1f, rfl, q1v, q1w, q1x, q1y, q1z, q1g, (((((((((hS.pull 8).pull 8).pull 8).pull 3).pull 8).pull 8).pull 8).pull 8).pull 8)⟩
       rintro E w ⟨q4, q0c, hq_, q4g, q37, q4h, q4i, q4j, q38, q39, q2s, q29, q3n, q3o, q3p, q3q, q3r, q3s, q3t, hS⟩
       replace hFL11 := hFL11 _ hq_
       clear hq_
       replace hFL11 := nck_s hFL11; obtain ⟨q3a, hFL11⟩ := hFL11
       replace hFL11 := nlv_s hFL11; obtain ⟨q20, q3u, hFL11⟩ := hFL11
       replace hFL11 := nck_s hFL11; obtain ⟨q3v, hFL11⟩ := hFL11
       replace hFL11 := nlv_s hFL11; obtain ⟨q2j, q3w, hFL11⟩ := hFL11
       replace hFL11 := nlv_s hFL11; obtain ⟨x63, hx63, hFL11⟩ := hFL11
       replace hFL11 := nlv_s hFL11; obtain ⟨q3b, q2t, hFL11⟩ := hFL11
       replace hFL11 := nlv_s hFL11; obtain ⟨q2k, q3x, hFL11⟩ := hFL11
       refine x_par (w0 := w0) [⟨[], [], [52], [], [], [], none⟩, ⟨[], [], [53], [], [], [], none⟩, ⟨[0, 1], [0, 1], [54], [0], [], [], none⟩, ⟨[], [], [55], [1], [], [], none⟩, ⟨[], [], [56], [], [], [], none⟩, ⟨[], [], [57], [], [], [], none⟩, ⟨[], [], [58], [], [], [], none⟩, ⟨[], [], [59], [], [], [], none⟩, ⟨[6, 7], [6, 7], [60], [2], [], [], none⟩, ⟨[6, 7, 8], [8], [61], [], [], [], none⟩, ⟨[6, 7, 8, 9], [9], [62], [2], [], [], none⟩, ⟨[0, 1, 2, 3, 6, 7, 8, 9, 10], [2, 3], [], [], [0], [3], none⟩, ⟨[0, 1, 2, 3, 4, 5, 6, 7, 8, 9, 10, 11], [4, 5], [63], [], [4], [5], none⟩, ⟨[0, 1, 2, 3, 4, 5, 6, 7, 8, 9, 10, 11, 12], [12], [64], [], [], [], none⟩, ⟨[0, 1, 2, 3, 4, 5, 6, 7, 8, 9, 10, 11, 12, 13], [4, 10, 13], [], [], [5], [6], none⟩] [⟨none, (some 11), []⟩, ⟨none, none, []⟩, ⟨none, none, []⟩, ⟨(some 11), none, []⟩, ⟨none, (some 12), []⟩, ⟨(some 12), (some 14), []⟩, ⟨(some 14), none, []⟩] [52, 53, 54, 55, 56, 57, 58, 59, 60, 61, 62, 63, 64] [0, 1, 2, 4] [1, 2, 3, 6] [0, 1, 2, 3, 4, 5, 6, 7, 8, 9, 10, 12, 13] [fun Ep15 => Ep15 52 = .map (some b23), fun Ep15 => Ep15 53 = .int .i64 x33, fun Ep15 => Ep15 54 = .map (mb x33 q0c q4), fun Ep15 => Ep15 55 = .agg #[.int .i64 q6.Layer, .int .i64 q6.X, .int .i64 q6.Y], fun Ep15 => Ep15 56 = .map (some b24), fun Ep15 => Ep15 57 = .int .i64 x33, fun Ep15 => Ep15 58 = .slice q0i s2.length c_s2, fun Ep15 => Ep15 59 = .int .i64 q7, fun Ep15 => Ep15 60 = .pointer (some ((adr q0i).add (q7.toNat * R_rules_shape.sz))), fun Ep15 => Ep15 61 = .pointer (some (((adr q0i).add (q7.toNat * R_rules_shape.sz)).add 0)), fun Ep15 => Ep15 62 = .int .i64 q20.fnet, fun Ep15 => True, fun Ep15 => Ep15 63 = .tuple #[.int .i64 x63, .int .i64 ((mpos x33 q8 : Nat) : Int)], fun Ep15 => Ep15 64 = .int .i64 ((mpos x33 q8 : Nat) : Int), fun Ep15 => True] [fun Ep15 => mapM b23 (Value.int .i64) kf_61 Value.bool q0c q4, fun Ep15 => cells b13 61 [.int .i64 q6.Layer, .int .i64 q6.X, .int .i64 q6.Y], fun Ep15 => ro q0t, fun Ep15 => mapM b23 (Value.int .i64) kf_61 Value.bool q2j q4, fun Ep15 => mapA b24 (Value.int .i64) (Value.int .i64) q8, fun Ep15 => mapA b24 (Value.int .i64) (Value.int .i64) q3b, fun Ep15 => mapA b24 (Value.int .i64) (Value.int .i64) q2k] mixed (by kernel_rfl) ((((hS.pull 4).pull 8).pull 6).pull 6) ?_ ?_
       ·refine ⟨?_, ?_, ?_, ?_, ?_, ?_, ?_, ?_, ?_, ?_, ?_, ?_, ?_, ?_, ?_, trivial⟩
        ·intro Ep15 w l' hE15 hO15 hF_ hS
         refine p (yl_move ((hE15 8 rfl).trans q38)) <| x_done <| ?_
         refine x_fin ⟨⟨_, rfl⟩, rfl, ?_⟩
         exact emk hS
        ·intro Ep15 w l' hE15 hO15 hF_ hS
         refine p (yl_move ((hE15 11 rfl).trans q29)) <| x_done <| ?_
         refine x_fin ⟨⟨_, rfl⟩, rfl, ?_⟩
         exact emk hS
        ·intro Ep15 w l' hE15 hO15 hF_ hS
         obtain ⟨q1l, q1m, -⟩ := hF_
         replace q1l : Ep15 52 = .map (some b23) := emk q1l
         replace q1m : Ep15 53 = .int .i64 x33 := emk q1m
         replace hS : St w0 w (mapM b23 (Value.int .i64) kf_61 Value.bool q0c q4 :: l') := emk hS
         refine pa (v := .map (mb x33 q0c q4)) (at_lookM um_130 (KeyP.int ui_3) (zero1 zv_84) q1l q1m hS) <| x_done <| ?_
         refine x_fin ⟨⟨_, rfl⟩, rfl, ?_⟩
         exact emk hS
        ·intro Ep15 w l' hE15 hO15 hF_ hS
         replace hS : St w0 w (cells b13 61 [.int .i64 q6.Layer, .int .i64 q6.X, .int .i64 q6.Y] :: l') := emk hS
         refine pa (v := .agg #[.int .i64 q6.Layer, .int .i64 q6.X, .int .i64 q6.Y]) (ld_sub agg_61 ((hE15 13 rfl).trans q3n) rfl rfl hS) <| x_done <| ?_
         refine x_fin ⟨⟨_, rfl⟩, rfl, ?_⟩
         exact emk hS
        ·intro Ep15 w l' hE15 hO15 hF_ hS
         refine p (yl_move ((hE15 9 rfl).trans q39)) <| x_done <| ?_
         refine x_fin ⟨⟨_, rfl⟩, rfl, ?_⟩
         exact emk hS
        ·intro Ep15 w l' hE15 hO15 hF_ hS
         refine p (yl_move ((hE15 11 rfl).trans q29)) <| x_done <| ?_
         refine x_fin ⟨⟨_, rfl⟩, rfl, ?_⟩
         exact emk hS
        ·intro Ep15 w l' hE15 hO15 hF_ hS
         refine p (yl_move ((hE15 2 rfl).trans q37)) <| x_done <| ?_
         refine x_fin ⟨⟨_, rfl⟩, rfl, ?_⟩
         exact emk hS
        ·intro Ep15 w l' hE15 hO15 hF_ hS
         refine p (yl_move ((hE15 10 rfl).trans q2s)) <| x_done <| ?_
         refine x_fin ⟨⟨_, rfl⟩, rfl, ?_⟩
         exact emk hS
        ·intro Ep15 w l' hE15 hO15 hF_ hS
         obtain ⟨q1n, q1o, -⟩ := hF_
         replace q1n : Ep15 58 = .slice q0i s2.length c_s2 := emk q1n
         replace q1o : Ep15 59 = .int .i64 q7 := emk q1o
         replace hS : St w0 w (ro q0t :: l') := emk hS
         refine p (yix_f sl_98 q1n q1o (q21.le q22) q3a) <| x_done <| ?_
         refine x_fin ⟨⟨_, rfl⟩, rfl, ?_⟩
         exact emk hS
        ·intro Ep15 w l' hE15 hO15 hF_ hS
         obtain ⟨q1p, -⟩ := hF_
         replace q1p : Ep15 60 = .pointer (some ((adr q0i).add (q7.toNat * R_rules_shape.sz))) := emk q1p
         refine p (yl_fieldAddr fld_122_0 q1p) <| x_done <| ?_
         refine x_fin ⟨⟨_, rfl⟩, rfl, ?_⟩
         exact emk hS
        ·intro Ep15 w l' hE15 hO15 hF_ hS
         obtain ⟨q1q, -⟩ := hF_
         replace q1q : Ep15 61 = .pointer (some (((adr q0i).add (q7.toNat * R_rules_shape.sz)).add 0)) := emk q1q
         replace hS : St w0 w (ro q0t :: l') := emk hS
         have q_ := q21.get q3a; obtain ⟨q5g, q2u, q3y⟩ := q_
         rw [← q3u] at q2u
         obtain ⟨q5c, q5d, q5e, rfl, q3e⟩ := q2u
         have e_ := q3e.n; subst e_
         refine pa (at_load one_3 q1q (Elt.ld (j := 0) (Elt.le q3y q22) hS rfl)) <| x_done <| ?_
         refine x_fin ⟨⟨_, rfl⟩, rfl, ?_⟩
         exact emk hS
        ·intro Ep15 w l' hE15 hO15 hF_ hS
         obtain ⟨q1r, q1s, -⟩ := hF_
         replace q1r : Ep15 54 = .map (mb x33 q0c q4) := emk q1r
         replace q1s : Ep15 55 = .agg #[.int .i64 q6.Layer, .int .i64 q6.X, .int .i64 q6.Y] := emk q1s
         replace hS : St w0 w (mapM b23 (Value.int .i64) kf_61 Value.bool q0c q4 :: l') := emk hS
         refine o_setinM (k := x33) (k2 := q6) (vf2 := Value.bool) (v := true) um_84 kp_61 q1r q1s rfl q3v hS q3w (fun w' hS => ?_)
         refine x_done <| ?_
         refine x_fin ⟨⟨undef, rfl⟩, trivial, ?_⟩
         exact emk hS
        ·intro Ep15 w l' hE15 hO15 hF_ hS
         obtain ⟨q0u, q1t, -⟩ := hF_
         replace q0u : Ep15 56 = .map (some b24) := emk q0u
         replace q1t : Ep15 57 = .int .i64 x33 := emk q1t
         replace hS : St w0 w (mapA b24 (Value.int .i64) (Value.int .i64) q8 :: l') := emk hS
         refine o_mapEntry (k := x33) (vf := (Value.int .i64)) um_131 (KeyP.int ui_3) (zero1 zv_3) q0u q1t hS hx63 q2t (fun w' hS => ?_)
         refine x_done <| ?_
         refine x_fin ⟨⟨_, rfl⟩, rfl, ?_⟩
         exact emk hS
        ·intro Ep15 w l' hE15 hO15 hF_ hS
         obtain ⟨q1b, -⟩ := hF_
         replace q1b : Ep15 63 = .tuple #[.int .i64 x63, .int .i64 ((mpos x33 q8 : Nat) : Int)] := emk q1b
         refine p (yl_extract q1b rfl) <| x_done <| ?_
         refine x_fin ⟨⟨_, rfl⟩, rfl, ?_⟩
         exact emk hS
        ·intro Ep15 w l' hE15 hO15 hF_ hS
         obtain ⟨q0u, q1c, q1d, -⟩ := hF_
         replace q0u : Ep15 56 = .map (some b24) := emk q0u
         replace q1c : Ep15 62 = .int .i64 q20.fnet := emk q1c
         replace q1d : Ep15 64 = .int .i64 ((mpos x33 q8 : Nat) : Int) := emk q1d
         replace hS : St w0 w (mapA b24 (Value.int .i64) (Value.int .i64) q3b :: l') := emk hS
         refine o_entryStore (k := x33) (es := q8) (v0 := x63) (vf := (Value.int .i64)) (v := q20.fnet) q0u q1d q1c rfl q2t hS q3x (fun w' hS => ?_)
         refine x_done <| ?_
         refine x_fin ⟨⟨undef, rfl⟩, trivial, ?_⟩
         exact emk hS
       intro Ep15 w' hE15 hF_ hS
       obtain ⟨q1l, q1m, q1r, q1s, q0u, q1t, q1n, q1o, q1p, q1q, q1c, q1b, q1d, -⟩ := hF_
       replace q1l : Ep15 52 = .map (some b23) := emk q1l
       replace q1m : Ep15 53 = .int .i64 x33 := emk q1m
       replace q1r : Ep15 54 = .map (mb x33 q0c q4) := emk q1r
       replace q1s : Ep15 55 = .agg #[.int .i64 q6.Layer, .int .i64 q6.X, .int .i64 q6.Y] := emk q1s
       replace q0u : Ep15 56 = .map (some b24) := emk q0u
       replace q1t : Ep15 57 = .int .i64 x33 := emk q1t
       replace q1n : Ep15 58 = .slice q0i s2.length c_s2 := emk q1n
       replace q1o : Ep15 59 = .int .i64 q7 := emk q1o
       replace q1p : Ep15 60 = .pointer (some ((adr q0i).add (q7.toNat * R_rules_shape.sz))) := emk q1p
       replace q1q : Ep15 61 = .pointer (some (((adr q0i).add (q7.toNat * R_rules_shape.sz)).add 0)) := emk q1q
       replace q1c : Ep15 62 = .int .i64 q20.fnet := emk q1c
       replace q1b : Ep15 63 = .tuple #[.int .i64 x63, .int .i64 ((mpos x33 q8 : Nat) : Int)] := emk q1b
       replace q1d : Ep15 64 = .int .i64 ((mpos x33 q8 : Nat) : Int) := emk q1d
       replace hS : St w0 w' (cells b13 61 [.int .i64 q6.Layer, .int .i64 q6.X, .int .i64 q6.Y] :: ro q0t :: mapM b23 (Value.int .i64) kf_61 Value.bool q2j q4 :: mapA b24 (Value.int .i64) (Value.int .i64) q2k :: (cells q0h 103 [.map (some q5), .bool q0a] :: cells b4 31 [.int .i64 l_1.W, .int .i64 l_1.H, .int .i64 l_1.Layers, .int .i64 l_1.Nets, .slice q0d l_1.Wires.length c_l_1_4, .slice q0e l_1.Vias.length c_l_1_5, .slice q0f l_1.Pins.length c_l_1_6, .slice q0g l_1.Walls.length c_l_1_7] :: cells q2 3 [.int .i64 q3] :: vec 3 (RpI .i64).sz (.slice q0b q0j.length c_y0_ret_7_2) q0j.length q0m :: mapA q5 kf_63 Value.bool q9 :: l)) := emk hS
       replace hFL11 := nar_s hFL11; obtain ⟨x65, hx65, hFL11⟩ := hFL11
       refine x_blk <| x_region <| p (yadd ((hE15 41 rfl).trans q3t) rfl hx65) <| p (yl_move rfl) <|
        x_done <| ?_
       exact x_inv ⟨kL11, Nat.lt_succ_self _, q4, q2j, q2k, x65, (hLL11 _ hFL11), ((hE15 0 rfl).trans q4g), ((hE15 2 rfl).trans q37), ((hE15 4 rfl).trans q4h), ((hE15 6 rfl).trans q4i), ((hE15 7 rfl).trans q4j), ((hE15 8 rfl).trans q38), ((hE15 9 rfl).trans q39), ((hE15 10 rfl).trans q2s), ((hE15 11 rfl).trans q29), ((hE15 27 rfl).trans q3o), ((hE15 28 rfl).trans q3p), ((hE15 29 rfl).trans q3q), ((hE15 39 rfl).trans q3r), ((hE15 40 rfl).trans q3s), rfl, (((((((hS.drop.pull 7).pull 7).pull 4).pull 4).pull 7).pull 7).pull 7)⟩
      ·replace hFL11 := nit_f hc42 hFL11
       refine x_exitTo _ rfl <| ?_
       exact x_inv ⟨q0k, q0n, q8, (hLL11 _ hFL11), q23, q24, q25, q26, q27, q1a, q28, q1v, q1w, q1x, ((((((((hS.pull 7).pull 7).pull 7).pull 7).pull 7).pull 7).pull 7).pull 7)⟩
     rintro E w ⟨q0w, q0x, q1e, hq_, q4k, q4l, q4m, q4n, q4o, q4p, q4q, q3z, q40, q41, hS⟩
     replace hFL8 := hFL8 _ hq_
     clear hq_
     replace hFL8 := nar_s hFL8; obtain ⟨x66, hx66, hFL8⟩ := hFL8
     refine x_blk <| x_region <| p (yadd q41 rfl hx66) <| p (yl_move rfl) <|
      x_done <| ?_
     exact x_inv ⟨kL8, Nat.lt_succ_self _, q0w, q0x, q1e, x66, (hLL8 _ hFL8), q4k, q4l, q4m, q4n, q4o, q4p, q4q, q3z, q40, rfl, (ro_back7 q22 ((((((((hS.pull 7).pull 7).pull 7).pull 7).pull 7).pull 7).pull 7).pull 7))⟩
    ·replace hFL8 := nit_f hc30 hFL8
     refine x_exitTo _ rfl <| ?_
     exact x_inv ⟨q0r, q0s, q15, (hLL8 _ hFL8), q2x, q2h, q2y, q2z, q31, q32, ((((((((hS.pull 5).drop.pull 6).pull 6).pull 6).pull 6).pull 6).pull 6).pull 6)⟩
   rintro E w ⟨q0o, q0l, q13, hq_, q54, q55, q56, q57, q58, q59, hS⟩
   replace hFL2 := hFL2 _ hq_
   clear hq_
   refine x_seq <| x_region <| p (yl_move q58) <| ?_
   refine o_rangeM um_130 rfl (hS.pull 3) (fun b68 w' hS => ?_)
   refine x_done <| ?_
   replace hFL2 := nbd_j hFL2; obtain ⟨oL19, hLL19, hFL2⟩ := hFL2
   refine x_join (fun E w => ∃ (q0y : List (T_rules_Fault × Bool)) (q0z : Bool), oL19 (q0y, q0z) ∧ E 0 = .pointer (some ⟨q0h, 0, none⟩) ∧ E 2 = .slice q0i s2.length c_s2 ∧ E 4 = .pointer (some ⟨b4, 0, none⟩) ∧ E 6 = .pointer (some ⟨q2, 0, none⟩) ∧ St w0 w (cells q0h 103 [.map (some q5), .bool q0z] :: cells b4 31 [.int .i64 l_1.W, .int .i64 l_1.H, .int .i64 l_1.Layers, .int .i64 l_1.Nets, .slice q0d l_1.Wires.length c_l_1_4, .slice q0e l_1.Vias.length c_l_1_5, .slice q0f l_1.Pins.length c_l_1_6, .slice q0g l_1.Walls.length c_l_1_7] :: cells q2 3 [.int .i64 q3] :: mapA q5 kf_63 Value.bool q0y :: ro ρ :: l)) ?_ ?_
   ·refine x_block ?_
    refine x_loop (fun k_ E w => ∃ (q17 : List Nat) (q0p : List (T_rules_Fault × Bool)) (q0q : Bool), nlp (P_rules_small_L19 q0l q13) k_ (q17, q0p, q0q) oL19 ∧ E 0 = .pointer (some ⟨q0h, 0, none⟩) ∧ E 2 = .slice q0i s2.length c_s2 ∧ E 4 = .pointer (some ⟨b4, 0, none⟩) ∧ E 6 = .pointer (some ⟨q2, 0, none⟩) ∧ E 9 = .map (some b24) ∧ E 68 = .pointer (some ⟨b68, 0, none⟩) ∧ St w0 w (cells q0h 103 [.map (some q5), .bool q0q] :: cells b4 31 [.int .i64 l_1.W, .int .i64 l_1.H, .int .i64 l_1.Layers, .int .i64 l_1.Nets, .slice q0d l_1.Wires.length c_l_1_4, .slice q0e l_1.Vias.length c_l_1_5, .slice q0f l_1.Pins.length c_l_1_6, .slice q0g l_1.Walls.length c_l_1_7] :: cells q2 3 [.int .i64 q3] :: mapA b24 (Value.int .i64) (Value.int .i64) q13 :: mapM b23 (Value.int .i64) kf_61 Value.bool q0l q0o :: itA b68 b23 q0l.length q17 :: mapA q5 kf_63 Value.bool q0p :: ro ρ :: l)) fuel ⟨[], q9, q0a, hLL19, q54, q55, q56, q57, q59, rfl, ((((((((hS.pull 7).pull 7).pull 2).pull 3).pull 7).pull 7).pull 7).pull 7)⟩ ?_
    rintro kL19 E w ⟨q17, q0p, q0q, hLL19, q1u, q2a, q2b, q2c, q2d, q1h, hS⟩
    replace hLL19 := nlp_s hLL19; obtain ⟨kL19, obL19, rfl, hFL19, hLL19⟩ := hLL19
    refine x_seq <| x_region <|
     o_nextM q1h ((hS.pull 4).pull 5) (fun q5a w' hS => ?_) (fun i69 q2f q5b w' hS => ?_)
    ·replace hFL19 := nnx_a hFL19 q5a
     refine p (yl_extract rfl rfl) <| x_done <| x_seq <| x_cond_f (show ev _ _ = .bool false from rfl) <|
      x_exitTo _ rfl <| ?_
     exact x_inv ⟨q0p, q0q, (hLL19 _ hFL19), q1u, q2a, q2b, q2c, ((((((hS.drop.drop.pull 3).drop.pull 4).pull 4).pull 4).pull 4).pull 4)⟩
    ·replace hFL19 := nnx_k hFL19 q2f q5b
     replace hFL19 := nlv_s hFL19; obtain ⟨e71, he71, hFL19⟩ := hFL19
     refine p (yl_extract rfl rfl) <| x_done <| x_seq <| x_cond_t (show ev _ _ = .bool true from rfl) <|
      x_skip <| x_block <| x_seq <| x_region <|
      pa (at_entryM (kf := (Value.int .i64)) q1h q2f ((hS.pull 1).pull 1) he71) <| ?_
     replace hS := St.atM q2f he71 (hS.pull 1)
     refine p (yl_extract rfl rfl) <| p (yl_extract rfl rfl) <| p (yl_assign rfl) <| p (yl_assign rfl) <|
      x_done <| x_seq <| x_region <| p (yl_move rfl) <|
      pa (at_lenm um_84 rfl hS) <| p (yl_lss rfl rfl) <| x_done <| ?_
     replace hFL19 := nbd_j hFL19; obtain ⟨oc76, hFc76, hFL19⟩ := hFL19
     refine x_join (fun E w => ∃ (q10 : List (T_rules_Fault × Bool)) (q11 : Bool), oc76 (q10, q11) ∧ E 0 = .pointer (some ⟨q0h, 0, none⟩) ∧ E 2 = .slice q0i s2.length c_s2 ∧ E 4 = .pointer (some ⟨b4, 0, none⟩) ∧ E 6 = .pointer (some ⟨q2, 0, none⟩) ∧ E 9 = .map (some b24) ∧ E 68 = .pointer (some ⟨b68, 0, none⟩) ∧ St w0 w (cells q0h 103 [.map (some q5), .bool q11] :: cells b4 31 [.int .i64 l_1.W, .int .i64 l_1.H, .int .i64 l_1.Layers, .int .i64 l_1.Nets, .slice q0d l_1.Wires.length c_l_1_4, .slice q0e l_1.Vias.length c_l_1_5, .slice q0f l_1.Pins.length c_l_1_6, .slice q0g l_1.Walls.length c_l_1_7] :: cells q2 3 [.int .i64 q3] :: mapA b24 (Value.int .i64) (Value.int .i64) q13 :: mapA (gt q0o i69) kf_61 Value.bool e71.2 :: holeM b23 (Value.int .i64) kf_61 Value.bool q0l q0o i69 :: itA b68 b23 q0l.length (q17 ++ [i69]) :: mapA q5 kf_63 Value.bool q10 :: ro ρ :: l)) ?_ ?_
     ·refine x_cond_p ((e71.2.length : Int) < 2) rfl (fun hc76 => ?_) (fun hc76 => ?_)
      ·replace hFc76 := nit_t hc76 hFc76
       replace hFc76 := nlv_s hFc76; obtain ⟨x80, hx80, hFc76⟩ := hFc76
       replace hFc76 := nbd_s hFc76; obtain ⟨q12, q4r, hFc76⟩ := hFc76
       refine x_head 7 mixed (by kernel_rfl) hS _ _ rfl rfl <| q (yl_move q1u) <| q (yl_move q2d) <| q (yl_move rfl) <|
        qa (fun w' hS => at_look (k := e71.1) um_131 (KeyP.int ui_3) (zero1 zv_3) rfl rfl (hS.pull 6) hx80) <| q (yl_move rfl) <| qcc (v := .agg #[.int .i64 q12.Layer, .int .i64 q12.X, .int .i64 q12.Y]) call_69 (args1 rfl) (fun w' hS => by
         have hcall := c_rules_least q4r  ((hS.pull 8).pull 1)
         exact (Calls.mono hcall (fun e w'' h => And.intro h.1 (((((((((h.2.pull 1).pull 8).pull 8).pull 8).pull 8).pull 8).pull 8).pull 8).pull 8)))) <| q (v := .agg #[.int .i64 4, .int .i64 x80, .int .i64 0, .int .i64 q12.Layer, .int .i64 q12.X, .int .i64 q12.Y]) (yl_build bld_63 bldf_63 (parts_eq (pt (va := .int .i64 4) rfl (pt (va := .int .i64 x80) rfl (pt (va := .int .i64 0) rfl (pt (va := .agg #[.int .i64 q12.Layer, .int .i64 q12.X, .int .i64 q12.Y]) rfl pt0))))) (by kernel_rfl)) <|
        q_done fun w' hS => ?_
       replace hFc76 := nbd_s hFc76; obtain ⟨q3g, q4s, hFc76⟩ := hFc76
       have hcall := c_rules_bag_add q4s  (((hS.pull 8).pull 8).pull 5)
       refine o_cc call_63 (args2 rfl rfl) hcall ?_
       rintro e w' ⟨rfl, hS⟩
       refine ⟨_, rfl, ?_⟩
       refine x_done <| ?_
       exact x_inv ⟨q3g.1, q3g.2, hFc76, q1u, q2a, q2b, q2c, q2d, q1h, (((((((((hS.pull 2).pull 2).pull 5).pull 5).pull 5).pull 8).pull 8).pull 8).pull 8)⟩
      ·replace hFc76 := nit_f hc76 hFc76
       refine x_skip <| ?_
       exact x_inv ⟨q0p, q0q, hFc76, q1u, q2a, q2b, q2c, q2d, q1h, (((((((((hS.pull 8).pull 8).pull 4).pull 4).pull 4).pull 8).pull 8).pull 8).pull 8)⟩
     rintro E w ⟨q10, q11, hq_, q4t, q4u, q4v, q4w, q4x, q42, hS⟩
     replace hFL19 := hFL19 _ hq_
     clear hq_
     refine x_blk <| ?_
     replace hS := St.putM q2f he71 ((hS.pull 5).pull 5)
     exact x_inv ⟨kL19, Nat.lt_succ_self _, (q17 ++ [i69]), q10, q11, (hLL19 _ hFL19), q4t, q4u, q4v, q4w, q4x, q42, ((((((((hS.pull 7).pull 7).pull 7).pull 3).pull 7).pull 7).pull 7).pull 7)⟩
   rintro E w ⟨q0y, q0z, hq_, q4y, q4z, q50, q51, hS⟩
   replace hFL2 := hFL2 _ hq_
   clear hq_
   refine x_blk <| x_seq <| x_seq <| x_region <|
    pa (at_load one_3 q51 ((hS.pull 2).cell rfl)) <| x_done <| x_region <| ?_
   refine o_alloc zero_3 hS (fun q43 w' hS => ?_)
   refine o_store1 (v := .int .i64 q3) one_3 rfl rfl rfl rfl hS (fun w' hS => ?_)
   replace hFL2 := nar_s hFL2; obtain ⟨x21, hx21, hFL2⟩ := hFL2
   refine x_done <| x_region <| pa (at_load one_3 rfl (hS.cell rfl)) <| p (yadd rfl rfl hx21) <| ?_
   refine o_store1 (v := .int .i64 x21) one_3 rfl rfl rfl rfl hS (fun w' hS => ?_)
   refine x_done <| ?_
   exact x_inv ⟨kL2, Nat.lt_succ_self _, q43, q0y, q0z, x21, (hLL2 _ hFL2), q4y, q4z, q50, rfl, ((((((hS.pull 3).drop.pull 4).pull 4).pull 2).pull 4).pull 4)⟩
  ·replace hFL2 := nit_f hc19 hFL2
   refine x_exitTo _ rfl <| ?_
   exact x_inv ⟨q9, q0a, (hLL2 _ hFL2), (((((hS.pull 1).drop.pull 1).drop.pull 2).pull 2).pull 2)⟩
 rintro E w ⟨q18, q19, hq_, hS⟩
 replace hF := hF _ hq_
 clear hq_
 exact x_fin ⟨_, rfl, (q18, q19), hF, rfl, (((hS.pull 2).pull 2).pull 2)⟩
attribute [irreducible] P_rules_small

def P_rules_open_1 (x0 : T_rules_shape) : Option Unit :=
 some ()
theorem c_rules_open_1 {w0 w : World} {l : List Assn} {ρ : Heap} {q2 : Option Addr} {q3 : Nat} {c_x0_1 : Nat} {x0 : T_rules_shape} {r : Unit} (hF : P_rules_open_1 x0 = some r) (q4 : RdS R_rules_Spot ρ q2 q3 c_x0_1 x0.fspots) (hS : St w0 w (ro ρ :: l)) :
  Calls Try.prog 70 #[.agg #[.int .i64 x0.fnet, .slice q2 q3 c_x0_1, .bool x0.fwire, .int .i64 x0.fpin]] w fun e w' => e = .returned (.slice q2 x0.fspots.length c_x0_1) ∧ St w0 w' (ro ρ :: l) := by
 have e_ := q4.n; subst e_
 refine enterC Try.func70 rfl 5 rfl (by simp) ?_
 refine x_seq <| x_region <| ?_
 refine o_box (cs := [.int .i64 x0.fnet, .slice q2 x0.fspots.length c_x0_1, .bool x0.fwire, .int .i64 x0.fpin]) rfl rfl hS (fun b1 w' hS => ?_)
 refine p (yl_assign rfl) <| x_done <| x_seq <| x_region <|
  p (yl_field0 fld_122_1 rfl) <| pa (at_load one_120 rfl (hS.cell rfl)) <| p (yl_assign rfl) <| x_done <| ?_
 have e_ := sinj hF; subst e_
 exact x_return ⟨_, ⟨_, _, rfl, rfl, rfl⟩, rfl, hS.drop⟩
attribute [irreducible] P_rules_open_1

def P_rules_groups_2_L3 (q4 : List Int) : (Int × List Int) → Option ((Int × List Int) ⊕ List Int) := fun (q2, q3) =>
 if q2 < (q4.length : Int) then
  ck (inb q2 q3.length) <|
  lv (stt q3 q2 q2) fun q5 =>
  ar (q2 + 1) fun x36 =>
  some (Sum.inl (x36, q5))
 else
  some (Sum.inr q3)
def P_rules_groups_2_L13 (q6 : T_rules_shape) (q8 : Int) : (List (T_rules_key × Int) × Int × List Int) → Option ((List (T_rules_key × Int) × Int × List Int) ⊕ (List (T_rules_key × Int) × List Int)) := fun (q2, q4, q5) =>
 if q4 < (q6.fspots.length : Int) then
  bd (
   ck (inb q4 q6.fspots.length) <|
   lv (gt q6.fspots q4) fun q3 =>
   lv (mget (T_rules_key.mk q6.fnet (T_rules_Spot.mk q3.Layer q3.X q3.Y)) q2 0) fun x61 =>
   lv (mhas (T_rules_key.mk q6.fnet (T_rules_Spot.mk q3.Layer q3.X q3.Y)) q2) fun q61 =>
   if (!q61) = true then
    lv (mput (T_rules_key.mk q6.fnet (T_rules_Spot.mk q3.Layer q3.X q3.Y)) q8 q2) fun q0c =>
    some (q0c, q5)
   else
    bd (P_rules_groups_1 q8 q5) fun q9 =>
    bd (P_rules_groups_1 x61 q9.2) fun q7 =>
    lv (max q9.1 q7.1) fun x78 =>
    lv (min q9.1 q7.1) fun x81 =>
    ck (inb x78 q7.2.length) <|
    lv (stt q7.2 x78 x81) fun q0d =>
    some (q2, q0d)) fun (q0a, q0b) =>
  ar (q4 + 1) fun x83 =>
  some (Sum.inl (q0a, x83, q0b))
 else
  some (Sum.inr (q2, q5))
def P_rules_groups_2_L10 (l_0 : List T_rules_shape) : (List (T_rules_key × Int) × Int × List Int) → Option ((List (T_rules_key × Int) × Int × List Int) ⊕ List Int) := fun (q4, q2, q3) =>
 if q2 < (l_0.length : Int) then
  ck (inb q2 l_0.length) <|
  lv (gt l_0 q2) fun q7 =>
  bd (P_rules_open_1 q7) fun q8 =>
  bd (
   lp (P_rules_groups_2_L13 q7 q2) fuel (q4, 0, q3)) fun (q5, q6) =>
  ar (q2 + 1) fun x84 =>
  some (Sum.inl (q5, x84, q6))
 else
  some (Sum.inr q3)
def P_rules_groups_2_L26 (l_0 : List T_rules_shape) : (List (Int × Int) × List Int × Int × List Int) → Option ((List (Int × Int) × List Int × Int × List Int) ⊕ List Int) := fun (q2, q4, q3, q7) =>
 if q3 < (l_0.length : Int) then
  bd (P_rules_groups_1 q3 q7) fun q6 =>
  lv (mget q6.1 q2 0) fun x100 =>
  lv (mhas q6.1 q2) fun q100 =>
  bd (
   if (!q100) = true then
    lv (mput q6.1 (q2.length : Int) q2) fun q8 =>
    some q8
   else
    some q2) fun q5 =>
  lv (mget q6.1 q5 0) fun x113 =>
  ck (inb q3 q4.length) <|
  lv (stt q4 q3 x113) fun q9 =>
  ar (q3 + 1) fun x115 =>
  some (Sum.inl (q5, q9, x115, q6.2))
 else
  some (Sum.inr q4)
def P_rules_groups_2 (l_0 : List T_rules_shape) : Option (List Int) :=
 ck (mkOk 8 (l_0.length : Int)) <|
 lv ((List.replicate ((l_0.length : Int) : Int).toNat 0 : List Int)) fun q5 =>
 bd (
  lp (P_rules_groups_2_L3 q5) fuel (0, q5)) fun q4 =>
 bd (
  lp (P_rules_groups_2_L10 l_0) fuel ([], 0, q4)) fun q3 =>
 ck (mkOk 8 (l_0.length : Int)) <|
 lv ((List.replicate ((l_0.length : Int) : Int).toNat 0 : List Int)) fun q6 =>
 bd (
  lp (P_rules_groups_2_L26 l_0) fuel ([], q6, 0, q3)) fun q2 =>
 some q2
theorem c_rules_groups_2 {w0 w : World} {l : List Assn} {ρ : Heap} {q0b : Option Addr} {q2v : Nat} {c_l_0 : Nat} {l_0 : List T_rules_shape} {r : List Int} (hF : P_rules_groups_2 l_0 = some r) (q2b : RdS R_rules_shape ρ q0b q2v c_l_0 l_0) (hS : St w0 w (ro ρ :: l)) :
  Calls Try.prog 68 #[.slice q0b q2v c_l_0, .func (.func 70) #[] #[]] w fun e w' => ∃ (q1z : Option Addr) (q1k : Nat) (c_y0_ret : Nat) (q1y : List Value), e = .returned (.slice q1z q1k c_y0_ret) ∧ RepL (RpI .i64) ρ r q1y ∧ St w0 w' (vec 3 (RpI .i64).sz (.slice q1z q1k c_y0_ret) q1k q1y :: ro ρ :: l) := by
 have e_ := q2b.n; subst e_
 refine enterC Try.func68 rfl 117 rfl (by simp) ?_
 refine x_seq <| x_region <| p (yl_assign rfl) <| x_done <|
  x_seq <| x_region <| p (yl_move rfl) <| p (yl_len_slice usl_98 rfl) <| ?_
 replace hF := ck_s hF; obtain ⟨q41, hF⟩ := hF
 replace hF := lv_s hF; obtain ⟨q2, q42, hF⟩ := hF
 refine o_mk sl_22 zero_3 (show (RpI .i64).ok ρ _ 0 from rfl) rfl rfl q41 (by decide) q42 hS (fun A26 cs26 w' hr26 hS => ?_)
 refine o_alloc zero_22 hS (fun b5 w' hS => ?_)
 refine o_store1 (v := .slice A26 q2.length q2.length) one_22 rfl rfl rfl rfl hS (fun w' hS => ?_)
 refine x_done <| x_seq <| x_seq <| x_region <|
  pa (at_load one_22 rfl (hS.cell rfl)) <| p (yl_len_slice usl_22 rfl) <| p (yl_move rfl) <| x_done <| ?_
 replace hF := bd_s hF; obtain ⟨oL3, hLL3, hF⟩ := hF
 refine x_join (fun E w => ∃ (q0r : List Value) (q1c : List Int), q1c = oL3 ∧ E 0 = .slice q0b l_0.length c_l_0 ∧ E 1 = .func (.func 70) #[] #[] ∧ E 5 = .pointer (some ⟨b5, 0, none⟩) ∧ RepL (RpI .i64) ρ q1c q0r ∧ St w0 w (cells b5 22 [.slice A26 q2.length q2.length] :: vec 3 (RpI .i64).sz (.slice A26 q2.length q2.length) q2.length q0r :: ro ρ :: l)) ?_ ?_
 ·refine x_block ?_
  refine x_loop (fun k_ E w => ∃ (q0j : List Value) (q0f : Int) (q13 : List Int), lp (P_rules_groups_2_L3 q2) k_ (q0f, q13) = some oL3 ∧ E 0 = .slice q0b l_0.length c_l_0 ∧ E 1 = .func (.func 70) #[] #[] ∧ E 5 = .pointer (some ⟨b5, 0, none⟩) ∧ E 28 = .int .i64 (q2.length : Int) ∧ E 29 = .int .i64 q0f ∧ RepL (RpI .i64) ρ q13 q0j ∧ St w0 w (cells b5 22 [.slice A26 q2.length q2.length] :: vec 3 (RpI .i64).sz (.slice A26 q2.length q2.length) q2.length q0j :: ro ρ :: l)) fuel ⟨cs26, 0, q2, hLL3, rfl, rfl, rfl, rfl, rfl, hr26, (((hS.pull 2).pull 2).pull 2)⟩ ?_
  rintro kL3 E w ⟨q0j, q0f, q13, hLL3, q2e, q2f, q20, q27, q1u, q14, hS⟩
  replace hLL3 := lp_s hLL3; obtain ⟨kL3, obL3, rfl, hFL3, hLL3⟩ := hLL3
  refine x_seq <| x_region <| p (yl_lss q1u q27) <| x_done <|
   x_seq <|
   x_cond_p (q0f < (q2.length : Int)) rfl (fun hc30 => ?_) (fun hc30 => ?_)
  ·replace hFL3 := it_t hc30 hFL3
   replace hFL3 := ck_s hFL3; obtain ⟨q2w, hFL3⟩ := hFL3
   refine x_skip <| x_seq <| x_block <| x_seq <|
    x_region <| p (yl_move q1u) <| p (yl_assign rfl) <| x_done <|
    x_region <| pa (at_load one_22 q20 (hS.cell rfl)) <| p (yl_move rfl) <| p (yl_move rfl) <|
    p (yix_o sl_22 rfl rfl (hS.pull 1) q14 q2w) <| ?_
   replace hFL3 := lv_s hFL3; obtain ⟨q4h, q43, hFL3⟩ := hFL3
   refine o_put' (news := [.int .i64 q0f]) sz_3 rfl rfl rfl rfl (o := 0) rfl q2w rfl (hS.pull 1) q14 (Le.refl _) (fun c hc => ok_all hc (show (RpI .i64).ok ρ [.int .i64 q0f] q0f from rfl)) q43 (fun q44 w' q45 hS => ?_)
   replace hFL3 := ar_s hFL3; obtain ⟨x36, hx36, hFL3⟩ := hFL3
   refine x_done <| x_blk <| x_region <| p (yadd q1u rfl hx36) <|
    p (yl_move rfl) <| x_done <| ?_
   have e_ := sinj hFL3; subst e_
   exact x_inv ⟨kL3, Nat.lt_succ_self _, q44, x36, q4h, hLL3, q2e, q2f, q20, q27, rfl, q45, (((hS.pull 2).pull 1).pull 2)⟩
  ·replace hFL3 := it_f hc30 hFL3
   refine x_exitTo _ rfl <| ?_
   have e_ := sinj hFL3; subst e_
   exact x_inv ⟨q0j, q13, hLL3, q2e, q2f, q20, q14, (((hS.pull 2).pull 2).pull 2)⟩
 rintro E w ⟨q0r, q1c, rfl, q2x, q46, q2y, q2g, hS⟩
 refine x_seq <| x_region <| p (v := .func (.func 81) #[] #[.pointer (some ⟨b5, 0, none⟩)]) (yl_makeFunc (by simp only [List.map_toArray, List.map_nil]) (by simp only [List.map_toArray, List.map_cons, List.map_nil]; exact arr1 q2y)) <| p (v := .func (.func 81) #[] #[.pointer (some ⟨b5, 0, none⟩)]) (yl_assign rfl) <|
  x_done <| x_seq <| x_region <| ?_
 refine o_mkmap (κ := T_rules_key) (α := Int) kf_146 (Value.int .i64) hS (fun b38 w' hS => ?_)
 refine p (yl_assign rfl) <| x_done <| x_seq <| x_seq <|
  x_region <| p (yl_move q2x) <| p (yl_len_slice usl_98 rfl) <| p (yl_move rfl) <|
  x_done <| ?_
 replace hF := bd_s hF; obtain ⟨oL10, hLL10, hF⟩ := hF
 refine x_join (fun E w => ∃ (q0k : List Value) (q15 : List Int), q15 = oL10 ∧ E 0 = .slice q0b l_0.length c_l_0 ∧ E 7 = .func (.func 81) #[] #[.pointer (some ⟨b5, 0, none⟩)] ∧ RepL (RpI .i64) ρ q15 q0k ∧ St w0 w (cells b5 22 [.slice A26 q2.length q2.length] :: vec 3 (RpI .i64).sz (.slice A26 q2.length q2.length) q2.length q0k :: ro ρ :: l)) ?_ ?_
 ·refine x_block ?_
  refine x_loop (fun k_ E w => ∃ (q9 : List Value) (q0l : List (T_rules_key × Int)) (q5 : Int) (q0n : List Int), lp (P_rules_groups_2_L10 l_0) k_ (q0l, q5, q0n) = some oL10 ∧ E 0 = .slice q0b l_0.length c_l_0 ∧ E 1 = .func (.func 70) #[] #[] ∧ E 5 = .pointer (some ⟨b5, 0, none⟩) ∧ E 7 = .func (.func 81) #[] #[.pointer (some ⟨b5, 0, none⟩)] ∧ E 8 = .map (some b38) ∧ E 39 = .slice q0b l_0.length c_l_0 ∧ E 40 = .int .i64 (l_0.length : Int) ∧ E 41 = .int .i64 q5 ∧ RepL (RpI .i64) ρ q0n q9 ∧ St w0 w (cells b5 22 [.slice A26 q2.length q2.length] :: mapA b38 kf_146 (Value.int .i64) q0l :: vec 3 (RpI .i64).sz (.slice A26 q2.length q2.length) q2.length q9 :: ro ρ :: l)) fuel ⟨q0r, [], 0, q1c, hLL10, q2x, q46, q2y, rfl, rfl, rfl, rfl, rfl, q2g, ((((hS.pull 3).pull 3).pull 2).pull 3)⟩ ?_
  rintro kL10 E w ⟨q9, q0l, q5, q0n, hLL10, q28, q29, q2z, q2a, q30, q21, q22, q16, q1j, hS⟩
  replace hLL10 := lp_s hLL10; obtain ⟨kL10, obL10, rfl, hFL10, hLL10⟩ := hLL10
  refine x_seq <| x_region <| p (yl_lss q16 q22) <| x_done <|
   x_seq <|
   x_cond_p (q5 < (l_0.length : Int)) rfl (fun hc42 => ?_) (fun hc42 => ?_)
  ·replace hFL10 := it_t hc42 hFL10
   replace hFL10 := ck_s hFL10; obtain ⟨q2h, hFL10⟩ := hFL10
   replace hFL10 := lv_s hFL10; obtain ⟨q3, q36, hFL10⟩ := hFL10
   have q_ := q2b.get q2h; obtain ⟨q4j, q2i, q37⟩ := q_
   rw [← q36] at q2i
   obtain ⟨q0g, q4i, q0h, rfl, q1d⟩ := q2i
   have e_ := q1d.n; subst e_
   refine x_skip <| x_seq <| x_block <| x_seq <|
    x_region <| p (yl_move q16) <| p (yix_f sl_98 q21 q16 q2b q2h) <| pa (v := .agg #[.int .i64 q3.fnet, .slice q0g q3.fspots.length q0h, .bool q3.fwire, .int .i64 q3.fpin]) (at_loadAgg agg_122 rfl rfl (Elt.every q37 (hS.pull 3))) <| ?_
   refine o_alloc zero_122 hS (fun b10 w' hS => ?_)
   refine p (yl_assign rfl) <| ?_
   refine o_storeAgg (news := [.int .i64 q3.fnet, .slice q0g q3.fspots.length q0h, .bool q3.fwire, .int .i64 q3.fpin]) agg_122 rfl rfl rfl (by simp [over_length]) hS (fun w' hS => ?_)
   replace hFL10 := bd_s hFL10; obtain ⟨q4l, q38, hFL10⟩ := hFL10
   refine x_done <| x_seq <| x_region <| p (yl_move q29) <|
    pa (v := .agg #[.int .i64 q3.fnet, .slice q0g q3.fspots.length q0h, .bool q3.fwire, .int .i64 q3.fpin]) (ld_sub agg_122 rfl rfl rfl hS) <| ?_
   have hcall := c_rules_open_1 q38 q1d (hS.pull 4)
   refine o_ccv rfl call_70 (args1 rfl) ((Calls.mono hcall (fun e w'' h => And.intro h.1 ((((h.2.pull 4).pull 4).pull 4).pull 4)))) ?_
   rintro e w' ⟨rfl, hS⟩
   refine ⟨_, rfl, ?_⟩
   refine p (yl_len_slice usl_120 rfl) <| p (yl_move rfl) <| x_done <| ?_
   replace hFL10 := bd_s hFL10; obtain ⟨oL13, hLL13, hFL10⟩ := hFL10
   refine x_join (fun E w => ∃ (q0m : List Value) (q0s : List (T_rules_key × Int)) (q17 : List Int), (q0s, q17) = oL13 ∧ E 0 = .slice q0b l_0.length c_l_0 ∧ E 1 = .func (.func 70) #[] #[] ∧ E 5 = .pointer (some ⟨b5, 0, none⟩) ∧ E 7 = .func (.func 81) #[] #[.pointer (some ⟨b5, 0, none⟩)] ∧ E 8 = .map (some b38) ∧ E 39 = .slice q0b l_0.length c_l_0 ∧ E 40 = .int .i64 (l_0.length : Int) ∧ E 41 = .int .i64 q5 ∧ RepL (RpI .i64) ρ q17 q0m ∧ St w0 w (cells b5 22 [.slice A26 q2.length q2.length] :: mapA b38 kf_146 (Value.int .i64) q0s :: vec 3 (RpI .i64).sz (.slice A26 q2.length q2.length) q2.length q0m :: ro ρ :: l)) ?_ ?_
   ·refine x_block ?_
    refine x_loop (fun k_ E w => ∃ (q0a : List Value) (q0c : List (T_rules_key × Int)) (q0v : Int) (q0o : List Int), lp (P_rules_groups_2_L13 q3 q5) k_ (q0c, q0v, q0o) = some oL13 ∧ E 0 = .slice q0b l_0.length c_l_0 ∧ E 1 = .func (.func 70) #[] #[] ∧ E 5 = .pointer (some ⟨b5, 0, none⟩) ∧ E 7 = .func (.func 81) #[] #[.pointer (some ⟨b5, 0, none⟩)] ∧ E 8 = .map (some b38) ∧ E 9 = .int .i64 q5 ∧ E 10 = .pointer (some ⟨b10, 0, none⟩) ∧ E 39 = .slice q0b l_0.length c_l_0 ∧ E 40 = .int .i64 (l_0.length : Int) ∧ E 41 = .int .i64 q5 ∧ E 48 = .slice q0g q3.fspots.length q0h ∧ E 49 = .int .i64 (q3.fspots.length : Int) ∧ E 50 = .int .i64 q0v ∧ RepL (RpI .i64) ρ q0o q0a ∧ St w0 w (cells b5 22 [.slice A26 q2.length q2.length] :: mapA b38 kf_146 (Value.int .i64) q0c :: cells b10 122 [.int .i64 q3.fnet, .slice q0g q3.fspots.length q0h, .bool q3.fwire, .int .i64 q3.fpin] :: vec 3 (RpI .i64).sz (.slice A26 q2.length q2.length) q2.length q0a :: ro ρ :: l)) fuel ⟨q9, q0l, 0, q0n, hLL13, q28, q29, q2z, q2a, q30, rfl, rfl, q21, q22, q16, rfl, rfl, rfl, q1j, (((((hS.pull 4).pull 4).pull 2).pull 4).pull 4)⟩ ?_
    rintro kL13 E w ⟨q0a, q0c, q0v, q0o, hLL13, q1v, q1w, q1e, q11, q12, q1f, q1l, q1m, q1n, q1o, q1p, q1q, q18, q10, hS⟩
    replace hLL13 := lp_s hLL13; obtain ⟨kL13, obL13, rfl, hFL13, hLL13⟩ := hLL13
    refine x_seq <| x_region <| p (yl_lss q18 q1q) <| x_done <|
     x_seq <|
     x_cond_p (q0v < (q3.fspots.length : Int)) rfl (fun hc51 => ?_) (fun hc51 => ?_)
    ·replace hFL13 := it_t hc51 hFL13
     refine x_skip <| x_seq <| ?_
     replace hFL13 := bd_s hFL13; obtain ⟨ob5, hFb5, hFL13⟩ := hFL13
     refine x_join (fun E w => ∃ (q0t : List Value) (q0z : List (T_rules_key × Int)) (q1g : List Int), (q0z, q1g) = ob5 ∧ E 0 = .slice q0b l_0.length c_l_0 ∧ E 1 = .func (.func 70) #[] #[] ∧ E 5 = .pointer (some ⟨b5, 0, none⟩) ∧ E 7 = .func (.func 81) #[] #[.pointer (some ⟨b5, 0, none⟩)] ∧ E 8 = .map (some b38) ∧ E 9 = .int .i64 q5 ∧ E 10 = .pointer (some ⟨b10, 0, none⟩) ∧ E 39 = .slice q0b l_0.length c_l_0 ∧ E 40 = .int .i64 (l_0.length : Int) ∧ E 41 = .int .i64 q5 ∧ E 48 = .slice q0g q3.fspots.length q0h ∧ E 49 = .int .i64 (q3.fspots.length : Int) ∧ E 50 = .int .i64 q0v ∧ RepL (RpI .i64) ρ q1g q0t ∧ St w0 w (cells b5 22 [.slice A26 q2.length q2.length] :: mapA b38 kf_146 (Value.int .i64) q0z :: cells b10 122 [.int .i64 q3.fnet, .slice q0g q3.fspots.length q0h, .bool q3.fwire, .int .i64 q3.fpin] :: vec 3 (RpI .i64).sz (.slice A26 q2.length q2.length) q2.length q0t :: ro ρ :: l)) ?_ ?_
     ·replace hFb5 := ck_s hFb5; obtain ⟨q2j, hFb5⟩ := hFb5
      replace hFb5 := lv_s hFb5; obtain ⟨q4, q39, hFb5⟩ := hFb5
      have q_ := q1d.get q2j; obtain ⟨q4k, q2k, q3a⟩ := q_
      rw [← q39] at q2k
      have e_ := q2k; subst e_
      refine x_block <| x_seq <| x_region <| p (yix_f sl_120 q1p q18 q1d q2j) <|
       pa (v := .agg #[.int .i64 q4.Layer, .int .i64 q4.X, .int .i64 q4.Y]) (at_loadAgg agg_61 rfl rfl (Elt.every q3a (hS.pull 4))) <| ?_
      refine o_alloc zero_61 hS (fun b12 w' hS => ?_)
      refine o_storeAgg (news := [.int .i64 q4.Layer, .int .i64 q4.X, .int .i64 q4.Y]) agg_61 rfl rfl rfl (by simp [over_length]) hS (fun w' hS => ?_)
      refine x_done <| x_seq <| x_region <| p (yl_field0 fld_122_0 q1l) <|
       pa (at_load one_3 rfl ((hS.pull 3).cell rfl)) <| pa (v := .agg #[.int .i64 q4.Layer, .int .i64 q4.X, .int .i64 q4.Y]) (ld_sub agg_61 rfl rfl rfl hS) <| p (v := .agg #[.int .i64 q3.fnet, .int .i64 q4.Layer, .int .i64 q4.X, .int .i64 q4.Y]) (yl_build bld_146 bldf_146 (parts_eq (pt (va := .int .i64 q3.fnet) rfl (pt (va := .agg #[.int .i64 q4.Layer, .int .i64 q4.X, .int .i64 q4.Y]) rfl pt0))) (by kernel_rfl)) <| ?_
      refine o_alloc zero_146 hS (fun b13 w' hS => ?_)
      refine o_storeAgg (news := [.int .i64 q3.fnet, .int .i64 q4.Layer, .int .i64 q4.X, .int .i64 q4.Y]) agg_146 rfl rfl rfl (by simp [over_length]) hS (fun w' hS => ?_)
      replace hFb5 := lv_s hFb5; obtain ⟨x61, hx61, hFb5⟩ := hFb5
      replace hFb5 := lv_s hFb5; obtain ⟨q61, hq61, hFb5⟩ := hFb5
      refine x_done <| x_seq <| x_region <| p (yl_move q12) <|
       pa (v := .agg #[.int .i64 q3.fnet, .int .i64 q4.Layer, .int .i64 q4.X, .int .i64 q4.Y]) (ld_sub agg_146 rfl rfl rfl hS) <| pa (at_look2 (k := (T_rules_key.mk q3.fnet (T_rules_Spot.mk q4.Layer q4.X q4.Y))) um_144 kp_146 (zero1 zv_3) rfl rfl (hS.pull 3) hx61 hq61) <| p (yl_move rfl) <| p (yl_extract rfl rfl) <|
       p (yl_extract rfl rfl) <| p (yl_assign rfl) <| p (yl_assign rfl) <| x_done <|
       x_seq <| x_seq <| x_region <| p (yl_move rfl) <|
       p (yl_not rfl) <| x_done <|
       x_cond (t := !q61) rfl (fun hc65 => ?_) (fun hc65 => ?_)
      ·replace hFb5 := it_t hc65 hFb5
       refine x_seq <| x_region <| p (yl_move q12) <| pa (v := .agg #[.int .i64 q3.fnet, .int .i64 q4.Layer, .int .i64 q4.X, .int .i64 q4.Y]) (ld_sub agg_146 rfl rfl rfl hS) <|
        p (yl_move q1f) <| ?_
       replace hFb5 := lv_s hFb5; obtain ⟨q47, q3b, hFb5⟩ := hFb5
       refine o_mapset (k := (T_rules_key.mk q3.fnet (T_rules_Spot.mk q4.Layer q4.X q4.Y))) (vf := (Value.int .i64)) (v := q5) um_144 kp_146 rfl rfl rfl (hS.pull 3) q3b (fun w' hS => ?_)
       refine x_done <| x_exitTo _ rfl <| ?_
       exact x_inv ⟨q0a, q47, q0o, (sinj hFb5), q1v, q1w, q1e, q11, q12, q1f, q1l, q1m, q1n, q1o, q1p, q1q, q18, q10, (((((((hS.pull 1).drop.pull 1).drop.pull 4).pull 4).pull 4).pull 3).pull 4)⟩
      ·replace hFb5 := it_bf hc65 hFb5
       replace hFb5 := bd_s hFb5; obtain ⟨q4m, q3c, hFb5⟩ := hFb5
       refine x_skip <| x_seq <| x_region <| p (yl_move q11) <|
        p (yl_move q1f) <| ?_
       have hcall := c_rules_groups_1 q3c q10 (((hS.pull 6).pull 6).pull 4)
       refine o_ccv rfl call_81 (capargs (args1 rfl)) hcall ?_
       rintro e w' ⟨q2l, rfl, q1h, hS⟩
       refine ⟨_, rfl, ?_⟩
       replace hFb5 := bd_s hFb5; obtain ⟨q4n, q3d, hFb5⟩ := hFb5
       refine p (yl_move q11) <| p (yl_move rfl) <| ?_
       have hcall := c_rules_groups_1 q3d q1h (((hS.pull 2).pull 2).pull 2)
       refine o_ccv rfl call_81 (capargs (args1 rfl)) hcall ?_
       rintro e w' ⟨q2m, rfl, q0q, hS⟩
       refine ⟨_, rfl, ?_⟩
       replace hFb5 := lv_s hFb5; obtain ⟨x78, hx78, hFb5⟩ := hFb5
       replace hFb5 := lv_s hFb5; obtain ⟨x81, hx81, hFb5⟩ := hFb5
       replace hFb5 := ck_s hFb5; obtain ⟨q2n, hFb5⟩ := hFb5
       refine p (yl_assign rfl) <| p (yl_assign rfl) <| x_done <| x_region <|
        pa (at_load one_22 q1e (hS.cell rfl)) <| p (yl_move rfl) <| p (yl_move rfl) <| p (ymax' rfl rfl hx78) <|
        p (yl_move rfl) <| p (yl_move rfl) <| p (ymin' rfl rfl hx81) <| p (yix_o sl_22 rfl rfl (hS.pull 1) q0q q2n) <| ?_
       replace hFb5 := lv_s hFb5; obtain ⟨q48, q3e, hFb5⟩ := hFb5
       refine o_put' (news := [.int .i64 x81]) sz_3 rfl rfl rfl rfl (o := 0) rfl q2n rfl (hS.pull 1) q0q (Le.refl _) (fun c hc => ok_all hc (show (RpI .i64).ok ρ [.int .i64 x81] x81 from rfl)) q3e (fun q3f w' q3g hS => ?_)
       refine x_done <| x_blk <| ?_
       exact x_inv ⟨q3f, q0c, q48, (sinj hFb5), q1v, q1w, q1e, q11, q12, q1f, q1l, q1m, q1n, q1o, q1p, q1q, q18, q3g, (((((((hS.pull 3).drop.pull 3).drop.pull 2).pull 1).pull 4).pull 4).pull 4)⟩
     rintro E w ⟨q0t, q0z, q1g, rfl, q49, q4a, q4b, q4c, q4d, q4e, q3h, q3i, q3j, q3k, q3l, q3m, q3n, q2o, hS⟩
     replace hFL13 := ar_s hFL13; obtain ⟨x83, hx83, hFL13⟩ := hFL13
     refine x_region <| p (yadd q3n rfl hx83) <| p (yl_move rfl) <| x_done <| ?_
     have e_ := sinj hFL13; subst e_
     exact x_inv ⟨kL13, Nat.lt_succ_self _, q0t, q0z, x83, q1g, hLL13, q49, q4a, q4b, q4c, q4d, q4e, q3h, q3i, q3j, q3k, q3l, q3m, rfl, q2o, (((((hS.pull 4).pull 4).pull 4).pull 4).pull 4)⟩
    ·replace hFL13 := it_f hc51 hFL13
     refine x_exitTo _ rfl <| ?_
     have e_ := sinj hFL13; subst e_
     exact x_inv ⟨q0a, q0c, q0o, hLL13, q1v, q1w, q1e, q11, q12, q1m, q1n, q1o, q10, (((((hS.pull 2).drop.pull 3).pull 3).pull 3).pull 3)⟩
   rintro E w ⟨q0m, q0s, q17, rfl, q3o, q3p, q3q, q3r, q3s, q31, q32, q33, q2c, hS⟩
   replace hFL10 := ar_s hFL10; obtain ⟨x84, hx84, hFL10⟩ := hFL10
   refine x_blk <| x_region <| p (yadd q33 rfl hx84) <| p (yl_move rfl) <|
    x_done <| ?_
   have e_ := sinj hFL10; subst e_
   exact x_inv ⟨kL10, Nat.lt_succ_self _, q0m, q0s, x84, q17, hLL10, q3o, q3p, q3q, q3r, q3s, q31, q32, rfl, q2c, ((((hS.pull 3).pull 3).pull 3).pull 3)⟩
  ·replace hFL10 := it_f hc42 hFL10
   refine x_exitTo _ rfl <| ?_
   have e_ := sinj hFL10; subst e_
   exact x_inv ⟨q9, q0n, hLL10, q28, q2a, q1j, ((((hS.pull 1).drop.pull 2).pull 2).pull 2)⟩
 rintro E w ⟨q0k, q15, rfl, q2p, q3t, q2d, hS⟩
 refine x_seq <| x_region <| ?_
 refine o_mkmap (κ := Int) (α := Int) (Value.int .i64) (Value.int .i64) hS (fun b85 w' hS => ?_)
 refine p (yl_assign rfl) <| x_done <| x_seq <| x_region <|
  p (yl_move q2p) <| p (yl_len_slice usl_98 rfl) <| ?_
 replace hF := ck_s hF; obtain ⟨q3u, hF⟩ := hF
 replace hF := lv_s hF; obtain ⟨q6, q3v, hF⟩ := hF
 refine o_mk sl_22 zero_3 (show (RpI .i64).ok ρ _ 0 from rfl) rfl rfl q3u (by decide) q3v hS (fun A88 cs88 w' hr88 hS => ?_)
 refine p (yl_assign rfl) <| x_done <| x_seq <| x_seq <|
  x_region <| p (yl_move q2p) <| p (yl_len_slice usl_98 rfl) <| p (yl_move rfl) <|
  x_done <| ?_
 replace hF := bd_s hF; obtain ⟨oL26, hLL26, hF⟩ := hF
 refine x_join (fun E w => ∃ (q0e : List Value) (q1a : List Int), q1a = oL26 ∧ E 19 = .slice A88 q6.length q6.length ∧ RepL (RpI .i64) ρ q1a q0e ∧ St w0 w (vec 3 (RpI .i64).sz (.slice A88 q6.length q6.length) q6.length q0e :: ro ρ :: l)) ?_ ?_
 ·refine x_block ?_
  refine x_loop (fun k_ E w => ∃ (q7 : List Value) (q0w : List Value) (q8 : List (Int × Int)) (q0u : List Int) (q0i : Int) (q1b : List Int), lp (P_rules_groups_2_L26 l_0) k_ (q8, q0u, q0i, q1b) = some oL26 ∧ E 7 = .func (.func 81) #[] #[.pointer (some ⟨b5, 0, none⟩)] ∧ E 18 = .map (some b85) ∧ E 19 = .slice A88 q6.length q6.length ∧ E 90 = .int .i64 (l_0.length : Int) ∧ E 91 = .int .i64 q0i ∧ RepL (RpI .i64) ρ q0u q7 ∧ RepL (RpI .i64) ρ q1b q0w ∧ St w0 w (cells b5 22 [.slice A26 q2.length q2.length] :: mapA b85 (Value.int .i64) (Value.int .i64) q8 :: vec 3 (RpI .i64).sz (.slice A88 q6.length q6.length) q6.length q7 :: vec 3 (RpI .i64).sz (.slice A26 q2.length q2.length) q2.length q0w :: ro ρ :: l)) fuel ⟨cs88, q0k, [], q6, 0, q15, hLL26, q3t, rfl, rfl, rfl, rfl, hr88, q2d, (((((hS.pull 4).pull 4).pull 2).pull 3).pull 4)⟩ ?_
  rintro kL26 E w ⟨q7, q0w, q8, q0u, q0i, q1b, hLL26, q1x, q0x, q1r, q1s, q19, q0y, q25, hS⟩
  replace hLL26 := lp_s hLL26; obtain ⟨kL26, obL26, rfl, hFL26, hLL26⟩ := hLL26
  refine x_seq <| x_region <| p (yl_lss q19 q1s) <| x_done <|
   x_seq <|
   x_cond_p (q0i < (l_0.length : Int)) rfl (fun hc92 => ?_) (fun hc92 => ?_)
  ·replace hFL26 := it_t hc92 hFL26
   replace hFL26 := bd_s hFL26; obtain ⟨q1t, q3w, hFL26⟩ := hFL26
   refine x_skip <| x_seq <| x_block <| x_seq <|
    x_region <| p (yl_move q19) <| p (yl_assign rfl) <| x_done <|
    x_seq <| x_region <| p (yl_move q1x) <| p (yl_move rfl) <| ?_
   have hcall := c_rules_groups_1 q3w q25 (((hS.pull 4).pull 4).pull 2)
   refine o_ccv rfl call_81 (capargs (args1 rfl)) hcall ?_
   rintro e w' ⟨q0p, rfl, q1i, hS⟩
   refine ⟨_, rfl, ?_⟩
   replace hFL26 := lv_s hFL26; obtain ⟨x100, hx100, hFL26⟩ := hFL26
   replace hFL26 := lv_s hFL26; obtain ⟨q100, hq100, hFL26⟩ := hFL26
   refine p (yl_assign rfl) <| x_done <| x_seq <| x_seq <|
    x_region <| p (yl_move q0x) <| p (yl_move rfl) <| pa (at_look2 (k := q1t.1) um_131 (KeyP.int ui_3) (zero1 zv_3) rfl rfl (hS.pull 3) hx100 hq100) <|
    p (yl_move rfl) <| p (yl_extract rfl rfl) <| p (yl_extract rfl rfl) <| p (yl_assign rfl) <|
    p (yl_assign rfl) <| x_done <| x_seq <| x_region <|
    p (yl_move rfl) <| p (yl_not rfl) <| x_done <| ?_
   replace hFL26 := bd_s hFL26; obtain ⟨oc104, hFc104, hFL26⟩ := hFL26
   refine x_join (fun E w => ∃ (q0d : List (Int × Int)), q0d = oc104 ∧ E 7 = .func (.func 81) #[] #[.pointer (some ⟨b5, 0, none⟩)] ∧ E 18 = .map (some b85) ∧ E 19 = .slice A88 q6.length q6.length ∧ E 20 = .int .i64 q0i ∧ E 21 = .int .i64 q1t.1 ∧ E 90 = .int .i64 (l_0.length : Int) ∧ E 91 = .int .i64 q0i ∧ St w0 w (cells b5 22 [.slice A26 q2.length q2.length] :: mapA b85 (Value.int .i64) (Value.int .i64) q0d :: vec 3 (RpI .i64).sz (.slice A88 q6.length q6.length) q6.length q7 :: vec 3 (RpI .i64).sz (.slice A26 q2.length q2.length) q2.length q0p :: ro ρ :: l)) ?_ ?_
   ·refine x_cond (t := !q100) rfl (fun hc104 => ?_) (fun hc104 => ?_)
    ·replace hFc104 := it_t hc104 hFc104
     refine x_region <| p (yl_move q0x) <| p (yl_move rfl) <| p (yl_move q0x) <|
      pa (at_lenm um_131 rfl (hS.pull 3)) <| ?_
     replace hFc104 := lv_s hFc104; obtain ⟨q4f, q3x, hFc104⟩ := hFc104
     refine o_mapset (k := q1t.1) (vf := (Value.int .i64)) (v := (q8.length : Int)) um_131 (KeyP.int ui_3) rfl rfl rfl (hS.pull 3) q3x (fun w' hS => ?_)
     refine x_done <| ?_
     exact x_inv ⟨q4f, (sinj hFc104), q1x, q0x, q1r, rfl, rfl, q1s, q19, (((((hS.pull 3).pull 3).pull 4).pull 3).pull 4)⟩
    ·replace hFc104 := it_bf hc104 hFc104
     refine x_skip <| ?_
     exact x_inv ⟨q8, (sinj hFc104), q1x, q0x, q1r, rfl, rfl, q1s, q19, (((((hS.pull 2).pull 2).pull 4).pull 4).pull 4)⟩
   rintro E w ⟨q0d, rfl, q34, q23, q24, q2r, q2s, q2t, q2u, hS⟩
   replace hFL26 := lv_s hFL26; obtain ⟨x113, hx113, hFL26⟩ := hFL26
   replace hFL26 := ck_s hFL26; obtain ⟨q2q, hFL26⟩ := hFL26
   refine x_region <| p (yl_move q24) <| p (yl_move q2r) <| p (yl_move q23) <|
    p (yl_move q2s) <| pa (at_look (k := q1t.1) um_131 (KeyP.int ui_3) (zero1 zv_3) rfl rfl (hS.pull 1) hx113) <| p (yix_o sl_22 rfl rfl (hS.pull 2) q0y q2q) <| ?_
   replace hFL26 := lv_s hFL26; obtain ⟨q4g, q3y, hFL26⟩ := hFL26
   refine o_put' (news := [.int .i64 x113]) sz_3 rfl rfl rfl rfl (o := 0) rfl q2q rfl (hS.pull 2) q0y (Le.refl _) (fun c hc => ok_all hc (show (RpI .i64).ok ρ [.int .i64 x113] x113 from rfl)) q3y (fun q3z w' q40 hS => ?_)
   replace hFL26 := ar_s hFL26; obtain ⟨x115, hx115, hFL26⟩ := hFL26
   refine x_done <| x_blk <| x_region <| p (yadd q2u rfl hx115) <|
    p (yl_move rfl) <| x_done <| ?_
   have e_ := sinj hFL26; subst e_
   exact x_inv ⟨kL26, Nat.lt_succ_self _, q3z, q0p, q0d, q4g, x115, q1t.2, hLL26, q34, q23, q24, q2t, rfl, q40, q1i, (((((hS.pull 4).pull 4).pull 2).pull 4).pull 4)⟩
  ·replace hFL26 := it_f hc92 hFL26
   refine x_exitTo _ rfl <| ?_
   have e_ := sinj hFL26; subst e_
   exact x_inv ⟨q7, q0u, hLL26, q1r, q0y, (((hS.drop.drop.pull 1).drop.pull 1).pull 1)⟩
 rintro E w ⟨q0e, q1a, rfl, q35, q26, hS⟩
 refine x_seq <| x_region <| p (yl_move q35) <| p (yl_assign rfl) <|
  x_done <| ?_
 have e_ := sinj hF; subst e_
 exact x_return ⟨_, ⟨_, _, rfl, rfl, rfl⟩, A88, q6.length, q6.length, q0e, rfl, q26, ((hS.pull 1).pull 1)⟩
attribute [irreducible] P_rules_groups_2

def P_rules_open_L17 (q5 : T_rules_shape) (x37 : Int) : (List (Int × T_rules_Spot) × Int) → Option ((List (Int × T_rules_Spot) × Int) ⊕ List (Int × T_rules_Spot)) := fun (q2, q3) =>
 if q3 < (q5.fspots.length : Int) then
  ck (inb q3 q5.fspots.length) <|
  lv (gt q5.fspots q3) fun q6 =>
  lv (mget x37 q2 (T_rules_Spot.mk 0 0 0)) fun x78 =>
  lv (mhas x37 q2) fun q78 =>
  bd (gd (!(!q78)) (P_rules_Spot_before q6 x78)) fun q7 =>
  lv ((!q78) || q7) fun x87 =>
  bd (
   if x87 = true then
    lv (mput x37 q6 q2) fun q8 =>
    some q8
   else
    some q2) fun q4 =>
  ar (q3 + 1) fun x91 =>
  some (Sum.inl (q4, x91))
 else
  some (Sum.inr q2)
def P_rules_open_L6 (s2 : List T_rules_shape) (q0k : List Int) : (List (Int × Int) × List (Int × Bool) × List (Int × T_rules_Spot) × Int × List (T_rules_Fault × Bool) × Bool) → Option ((List (Int × Int) × List (Int × Bool) × List (Int × T_rules_Spot) × Int × List (T_rules_Fault × Bool) × Bool) ⊕ (List (Int × Bool) × List (Int × T_rules_Spot) × List (T_rules_Fault × Bool) × Bool)) := fun (q4, q6, q8, q5, q2, q3) =>
 if q5 < (s2.length : Int) then
  ck (inb q5 s2.length) <|
  lv (gt s2 q5) fun q7 =>
  ck (inb q5 q0k.length) <|
  lv (gt q0k q5) fun x37 =>
  bd (
   if 0 ≤ q7.fpin then
    lv (mput x37 true q6) fun q0l =>
    lv (mget q7.fnet q4 0) fun x47 =>
    lv (mhas q7.fnet q4) fun q47 =>
    bd (
     if (!q47) = true then
      lv (mput q7.fnet x37 q4) fun q0m =>
      some (q0m, q2, q3)
     else
      bd (
       if x47 ≠ x37 then
        ck (inb 0 q7.fspots.length) <|
        lv (gt q7.fspots (0 : Int)) fun q0n =>
        bd (P_rules_bag_add q2 q3 (T_rules_Fault.mk 5 q7.fnet 0 q0n)) fun q0j =>
        some (q0j.1, q0j.2)
       else
        some (q2, q3)) fun (q0a, q0b) =>
      some (q4, q0a, q0b)) fun (q0h, q0c, q0d) =>
    some (q0h, q0l, q0c, q0d)
   else
    some (q4, q6, q2, q3)) fun (q0i, q9, q0e, q0f) =>
  bd (
   lp (P_rules_open_L17 q7 x37) fuel (q8, 0)) fun q0g =>
  ar (q5 + 1) fun x92 =>
  some (Sum.inl (q0i, q9, q0g, x92, q0e, q0f))
 else
  some (Sum.inr (q6, q8, q2, q3))
def P_rules_open_L25 (s2 : List T_rules_shape) (q0a : List Int) (q7 : List (Int × Bool)) (q8 : List (Int × T_rules_Spot)) : (Int × List (T_rules_Fault × Bool) × Bool) → Option ((Int × List (T_rules_Fault × Bool) × Bool) ⊕ (List (T_rules_Fault × Bool) × Bool)) := fun (q2, q3, q4) =>
 if q2 < (s2.length : Int) then
  ck (inb q2 s2.length) <|
  lv (gt s2 q2) fun q0b =>
  ck (inb q2 q0a.length) <|
  lv (gt q0a q2) fun x103 =>
  lv (mget x103 q7 false) fun x106 =>
  bd (
   if (!x106) = true then
    lv (mget x103 q8 (T_rules_Spot.mk 0 0 0)) fun x113 =>
    bd (P_rules_bag_add q3 q4 (T_rules_Fault.mk 6 q0b.fnet 0 x113)) fun q9 =>
    some (q9.1, q9.2)
   else
    some (q3, q4)) fun (q5, q6) =>
  ar (q2 + 1) fun x116 =>
  some (Sum.inl (x116, q5, q6))
 else
  some (Sum.inr (q3, q4))
def P_rules_open (q9 : List (T_rules_Fault × Bool)) (q0a : Bool) (v1 : T_rules_Layout) (s2 : List T_rules_shape) : Option (List (T_rules_Fault × Bool) × Bool) :=
 bd (P_rules_groups_2 s2) fun q8 =>
 bd (
  lp (P_rules_open_L6 s2 q8) fuel ([], [], [], 0, q9, q0a)) fun (q2, q5, q6, q7) =>
 bd (
  lp (P_rules_open_L25 s2 q8 q2 q5) fuel (0, q6, q7)) fun (q3, q4) =>
 some (q3, q4)
theorem c_rules_open {w0 w : World} {l : List Assn} {ρ : Heap} {q7 : Nat} {q3 : Nat} {q24 : Option Addr} {q2b : Nat} {c_v1_4 : Nat} {q25 : Option Addr} {q2c : Nat} {c_v1_5 : Nat} {q26 : Option Addr} {q2d : Nat} {c_v1_6 : Nat} {q27 : Option Addr} {q2e : Nat} {c_v1_7 : Nat} {q0a : Option Addr} {q3q : Nat} {c_s2 : Nat} {q2m : List (T_rules_Fault × Bool)} {q2n : Bool} {v1 : T_rules_Layout} {s2 : List T_rules_shape} {r : (List (T_rules_Fault × Bool) × Bool)} (hF : P_rules_open q2m q2n v1 s2 = some r) (q3r : RdS R_rules_Wire ρ q24 q2b c_v1_4 v1.Wires) (q3s : RdS R_rules_Via ρ q25 q2c c_v1_5 v1.Vias) (q3t : RdS R_rules_Pin ρ q26 q2d c_v1_6 v1.Pins) (q3u : RdS R_floor_Wall ρ q27 q2e c_v1_7 v1.Walls) (q1u : RdS R_rules_shape ρ q0a q3q c_s2 s2) (hS : St w0 w (cells q7 103 [.map (some q3), .bool q2n] :: mapA q3 kf_63 Value.bool q2m :: ro ρ :: l)) :
  Calls Try.prog 50 #[.pointer (some ⟨q7, 0, none⟩), .agg #[.int .i64 v1.W, .int .i64 v1.H, .int .i64 v1.Layers, .int .i64 v1.Nets, .slice q24 q2b c_v1_4, .slice q25 q2c c_v1_5, .slice q26 q2d c_v1_6, .slice q27 q2e c_v1_7], .slice q0a q3q c_s2] w fun e w' => e = .returned (.tuple #[]) ∧ St w0 w' (cells q7 103 [.map (some q3), .bool r.2] :: mapA q3 kf_63 Value.bool r.1 :: ro ρ :: l) := by
 have e_ := q3r.n; subst e_
 have e_ := q3s.n; subst e_
 have e_ := q3t.n; subst e_
 have e_ := q3u.n; subst e_
 have e_ := q1u.n; subst e_
 refine enterC Try.func50 rfl 117 rfl (by simp) ?_
 refine x_seq <| x_region <| ?_
 refine o_box (cs := [.int .i64 v1.W, .int .i64 v1.H, .int .i64 v1.Layers, .int .i64 v1.Nets, .slice q24 v1.Wires.length c_v1_4, .slice q25 v1.Vias.length c_v1_5, .slice q26 v1.Pins.length c_v1_6, .slice q27 v1.Walls.length c_v1_7]) rfl rfl hS (fun b4 w' hS => ?_)
 replace hF := bd_s hF; obtain ⟨q5, q53, hF⟩ := hF
 refine x_done <| x_seq <| x_region <| p (yl_move rfl) <| ?_
 have hcall := c_rules_groups_2 q53 q1u (hS.pull 3)
 refine o_cc call_68 (args2 rfl rfl) hcall ?_
 rintro e w' ⟨q2, q3v, c_y0_ret_1_1, q4, rfl, q0g, hS⟩
 refine ⟨_, rfl, ?_⟩
 have e_ := St.vec_n hS q0g; subst e_
 refine p (yl_assign rfl) <| x_done <| x_seq <| x_region <| ?_
 refine o_mkmap (κ := Int) (α := Int) (Value.int .i64) (Value.int .i64) hS (fun b24 w' hS => ?_)
 refine p (yl_assign rfl) <| x_done <| x_seq <| x_region <| ?_
 refine o_mkmap (κ := Int) (α := Bool) (Value.int .i64) Value.bool hS (fun b25 w' hS => ?_)
 refine p (yl_assign rfl) <| x_done <| x_seq <| x_region <| ?_
 refine o_mkmap (κ := Int) (α := T_rules_Spot) (Value.int .i64) kf_61 hS (fun b26 w' hS => ?_)
 refine p (yl_assign rfl) <| x_done <| x_seq <| x_seq <|
  x_region <| p (yl_move rfl) <| p (yl_len_slice usl_98 rfl) <| p (yl_move rfl) <|
  x_done <| ?_
 replace hF := bd_s hF; obtain ⟨oL6, hLL6, hF⟩ := hF
 refine x_join (fun E w => ∃ (q0i : List (Int × Bool)) (q0o : List (Int × T_rules_Spot)) (q16 : List (T_rules_Fault × Bool)) (q17 : Bool), (q0i, q0o, q16, q17) = oL6 ∧ E 0 = .pointer (some ⟨q7, 0, none⟩) ∧ E 2 = .slice q0a s2.length c_s2 ∧ E 6 = .slice q2 q5.length c_y0_ret_1_1 ∧ E 8 = .map (some b25) ∧ E 9 = .map (some b26) ∧ St w0 w (cells q7 103 [.map (some q3), .bool q17] :: vec 3 (RpI .i64).sz (.slice q2 q5.length c_y0_ret_1_1) q5.length q4 :: mapA b25 (Value.int .i64) Value.bool q0i :: mapA b26 (Value.int .i64) kf_61 q0o :: mapA q3 kf_63 Value.bool q16 :: ro ρ :: l)) ?_ ?_
 ·refine x_block ?_
  refine x_loop (fun k_ E w => ∃ (q0p : List (Int × Int)) (q0k : List (Int × Bool)) (q8 : List (Int × T_rules_Spot)) (q0f : Int) (q0b : List (T_rules_Fault × Bool)) (q0c : Bool), lp (P_rules_open_L6 s2 q5) k_ (q0p, q0k, q8, q0f, q0b, q0c) = some oL6 ∧ E 0 = .pointer (some ⟨q7, 0, none⟩) ∧ E 2 = .slice q0a s2.length c_s2 ∧ E 6 = .slice q2 q5.length c_y0_ret_1_1 ∧ E 7 = .map (some b24) ∧ E 8 = .map (some b25) ∧ E 9 = .map (some b26) ∧ E 27 = .slice q0a s2.length c_s2 ∧ E 28 = .int .i64 (s2.length : Int) ∧ E 29 = .int .i64 q0f ∧ St w0 w (cells q7 103 [.map (some q3), .bool q0c] :: vec 3 (RpI .i64).sz (.slice q2 q5.length c_y0_ret_1_1) q5.length q4 :: mapA b24 (Value.int .i64) (Value.int .i64) q0p :: mapA b25 (Value.int .i64) Value.bool q0k :: mapA b26 (Value.int .i64) kf_61 q8 :: mapA q3 kf_63 Value.bool q0b :: ro ρ :: l)) fuel ⟨[], [], [], 0, q2m, q2n, hLL6, rfl, rfl, rfl, rfl, rfl, rfl, rfl, rfl, rfl, ((((((((hS.pull 5).drop.pull 4).pull 6).pull 2).pull 3).pull 4).pull 5).pull 6)⟩ ?_
  rintro kL6 E w ⟨q0p, q0k, q8, q0f, q0b, q0c, hLL6, q19, q1k, q1a, q1b, q1c, q1l, q1d, q1e, q0q, hS⟩
  replace hLL6 := lp_s hLL6; obtain ⟨kL6, obL6, rfl, hFL6, hLL6⟩ := hLL6
  refine x_seq <| x_region <| p (yl_lss q0q q1e) <| x_done <|
   x_seq <|
   x_cond_p (q0f < (s2.length : Int)) rfl (fun hc30 => ?_) (fun hc30 => ?_)
  ·replace hFL6 := it_t hc30 hFL6
   replace hFL6 := ck_s hFL6; obtain ⟨q2r, hFL6⟩ := hFL6
   replace hFL6 := lv_s hFL6; obtain ⟨q6, q54, hFL6⟩ := hFL6
   have q_ := q1u.get q2r; obtain ⟨q5j, q2s, q55⟩ := q_
   rw [← q54] at q2s
   obtain ⟨q11, q5f, q12, rfl, q1m⟩ := q2s
   have e_ := q1m.n; subst e_
   refine x_skip <| x_seq <| x_block <| x_seq <|
    x_region <| p (yl_move q0q) <| p (yix_f sl_98 q1d q0q q1u q2r) <| pa (v := .agg #[.int .i64 q6.fnet, .slice q11 q6.fspots.length q12, .bool q6.fwire, .int .i64 q6.fpin]) (at_loadAgg agg_122 rfl rfl (Elt.every q55 (hS.pull 6))) <| ?_
   refine o_alloc zero_122 hS (fun b11 w' hS => ?_)
   refine p (yl_assign rfl) <| ?_
   refine o_storeAgg (news := [.int .i64 q6.fnet, .slice q11 q6.fspots.length q12, .bool q6.fwire, .int .i64 q6.fpin]) agg_122 rfl rfl rfl (by simp [over_length]) hS (fun w' hS => ?_)
   replace hFL6 := ck_s hFL6; obtain ⟨q2t, hFL6⟩ := hFL6
   replace hFL6 := lv_s hFL6; obtain ⟨x37, hx37, hFL6⟩ := hFL6
   refine x_done <| x_seq <| x_region <| p (yl_move q1a) <|
    p (yl_move rfl) <| p (yix_o sl_22 rfl rfl (hS.pull 2) q0g q2t) <| pa (at_load one_3 rfl (RepL.getW q0g (hS.pull 2) q2t hx37)) <| p (yl_assign rfl) <|
    x_done <| x_seq <| x_seq <| x_region <|
    p (yl_field0 fld_122_3 rfl) <| pa (at_load one_3 rfl (hS.cell rfl)) <| p (yl_geq rfl rfl) <| x_done <| ?_
   replace hFL6 := bd_s hFL6; obtain ⟨oc40, hFc40, hFL6⟩ := hFL6
   refine x_join (fun E w => ∃ (q0h : List (Int × Int)) (q9 : List (Int × Bool)) (q0d : List (T_rules_Fault × Bool)) (q0e : Bool), (q0h, q9, q0d, q0e) = oc40 ∧ E 0 = .pointer (some ⟨q7, 0, none⟩) ∧ E 2 = .slice q0a s2.length c_s2 ∧ E 6 = .slice q2 q5.length c_y0_ret_1_1 ∧ E 7 = .map (some b24) ∧ E 8 = .map (some b25) ∧ E 9 = .map (some b26) ∧ E 11 = .pointer (some ⟨b11, 0, none⟩) ∧ E 12 = .int .i64 x37 ∧ E 27 = .slice q0a s2.length c_s2 ∧ E 28 = .int .i64 (s2.length : Int) ∧ E 29 = .int .i64 q0f ∧ St w0 w (cells q7 103 [.map (some q3), .bool q0e] :: vec 3 (RpI .i64).sz (.slice q2 q5.length c_y0_ret_1_1) q5.length q4 :: mapA b24 (Value.int .i64) (Value.int .i64) q0h :: mapA b25 (Value.int .i64) Value.bool q9 :: mapA b26 (Value.int .i64) kf_61 q8 :: cells b11 122 [.int .i64 q6.fnet, .slice q11 q6.fspots.length q12, .bool q6.fwire, .int .i64 q6.fpin] :: mapA q3 kf_63 Value.bool q0d :: ro ρ :: l)) ?_ ?_
   ·refine x_cond_p (0 ≤ q6.fpin) rfl (fun hc40 => ?_) (fun hc40 => ?_)
    ·replace hFc40 := it_t hc40 hFc40
     refine x_seq <| x_region <| p (yl_move q1c) <| p (yl_move rfl) <| ?_
     replace hFc40 := lv_s hFc40; obtain ⟨q2a, q3w, hFc40⟩ := hFc40
     refine o_mapset (k := x37) (vf := Value.bool) (v := true) um_134 (KeyP.int ui_3) rfl rfl rfl (hS.pull 4) q3w (fun w' hS => ?_)
     replace hFc40 := lv_s hFc40; obtain ⟨x47, hx47, hFc40⟩ := hFc40
     replace hFc40 := lv_s hFc40; obtain ⟨q47, hq47, hFc40⟩ := hFc40
     refine x_done <| x_seq <| x_region <| p (yl_move q1b) <|
      p (yl_field0 fld_122_0 rfl) <| pa (at_load one_3 rfl ((hS.pull 1).cell rfl)) <| pa (at_look2 (k := q6.fnet) um_131 (KeyP.int ui_3) (zero1 zv_3) rfl rfl (hS.pull 4) hx47 hq47) <| p (yl_move rfl) <|
      p (yl_extract rfl rfl) <| p (yl_extract rfl rfl) <| p (yl_assign rfl) <| p (yl_assign rfl) <|
      x_done <| x_seq <| x_region <| p (yl_move rfl) <|
      p (yl_not rfl) <| x_done <| ?_
     replace hFc40 := bd_s hFc40; obtain ⟨oc51, hFc51, hFc40⟩ := hFc40
     refine x_join (fun E w => ∃ (q18 : List (Int × Int)) (q0u : List (T_rules_Fault × Bool)) (q0v : Bool), (q18, q0u, q0v) = oc51 ∧ E 0 = .pointer (some ⟨q7, 0, none⟩) ∧ E 2 = .slice q0a s2.length c_s2 ∧ E 6 = .slice q2 q5.length c_y0_ret_1_1 ∧ E 7 = .map (some b24) ∧ E 8 = .map (some b25) ∧ E 9 = .map (some b26) ∧ E 11 = .pointer (some ⟨b11, 0, none⟩) ∧ E 12 = .int .i64 x37 ∧ E 27 = .slice q0a s2.length c_s2 ∧ E 28 = .int .i64 (s2.length : Int) ∧ E 29 = .int .i64 q0f ∧ St w0 w (cells q7 103 [.map (some q3), .bool q0v] :: vec 3 (RpI .i64).sz (.slice q2 q5.length c_y0_ret_1_1) q5.length q4 :: mapA b24 (Value.int .i64) (Value.int .i64) q18 :: mapA b25 (Value.int .i64) Value.bool q2a :: mapA b26 (Value.int .i64) kf_61 q8 :: cells b11 122 [.int .i64 q6.fnet, .slice q11 q6.fspots.length q12, .bool q6.fwire, .int .i64 q6.fpin] :: mapA q3 kf_63 Value.bool q0u :: ro ρ :: l)) ?_ ?_
     ·refine x_cond (t := !q47) rfl (fun hc51 => ?_) (fun hc51 => ?_)
      ·replace hFc51 := it_t hc51 hFc51
       refine x_region <| p (yl_move q1b) <| p (yl_field0 fld_122_0 rfl) <| pa (at_load one_3 rfl ((hS.pull 1).cell rfl)) <|
        p (yl_move rfl) <| ?_
       replace hFc51 := lv_s hFc51; obtain ⟨q56, q3x, hFc51⟩ := hFc51
       refine o_mapset (k := q6.fnet) (vf := (Value.int .i64)) (v := x37) um_131 (KeyP.int ui_3) rfl rfl rfl (hS.pull 4) q3x (fun w' hS => ?_)
       refine x_done <| ?_
       exact x_inv ⟨q56, q0b, q0c, (sinj hFc51), q19, q1k, q1a, q1b, q1c, q1l, rfl, rfl, q1d, q1e, q0q, ((((((((hS.pull 7).pull 7).pull 4).pull 7).pull 5).pull 5).pull 7).pull 7)⟩
      ·replace hFc51 := it_bf hc51 hFc51
       refine x_seq <| x_region <| p (yl_move rfl) <| p (yl_move rfl) <|
        p (yl_neq rfl rfl) <| x_done <| ?_
       replace hFc51 := bd_s hFc51; obtain ⟨oc58, hFc58, hFc51⟩ := hFc51
       refine x_join (fun E w => ∃ (q0w : List (T_rules_Fault × Bool)) (q0x : Bool), (q0w, q0x) = oc58 ∧ E 0 = .pointer (some ⟨q7, 0, none⟩) ∧ E 2 = .slice q0a s2.length c_s2 ∧ E 6 = .slice q2 q5.length c_y0_ret_1_1 ∧ E 7 = .map (some b24) ∧ E 8 = .map (some b25) ∧ E 9 = .map (some b26) ∧ E 11 = .pointer (some ⟨b11, 0, none⟩) ∧ E 12 = .int .i64 x37 ∧ E 27 = .slice q0a s2.length c_s2 ∧ E 28 = .int .i64 (s2.length : Int) ∧ E 29 = .int .i64 q0f ∧ St w0 w (cells q7 103 [.map (some q3), .bool q0x] :: vec 3 (RpI .i64).sz (.slice q2 q5.length c_y0_ret_1_1) q5.length q4 :: mapA b24 (Value.int .i64) (Value.int .i64) q0p :: mapA b25 (Value.int .i64) Value.bool q2a :: mapA b26 (Value.int .i64) kf_61 q8 :: cells b11 122 [.int .i64 q6.fnet, .slice q11 q6.fspots.length q12, .bool q6.fwire, .int .i64 q6.fpin] :: mapA q3 kf_63 Value.bool q0w :: ro ρ :: l)) ?_ ?_
       ·refine x_cond_p (x47 ≠ x37) rfl (fun hc58 => ?_) (fun hc58 => ?_)
        ·replace hFc58 := it_t hc58 hFc58
         replace hFc58 := ck_s hFc58; obtain ⟨q2f, hFc58⟩ := hFc58
         replace hFc58 := lv_s hFc58; obtain ⟨q0y, q3y, hFc58⟩ := hFc58
         have q_ := q1m.get q2f; obtain ⟨q5g, q2g, q3z⟩ := q_
         rw [← q3y] at q2g
         have e_ := q2g; subst e_
         refine x_head 8 mixed (by kernel_rfl) hS _ _ rfl rfl <| q (yl_move q19) <| q (yl_field0 fld_122_0 rfl) <| qa (fun w' hS => at_load one_3 rfl ((hS.pull 1).cell rfl)) <|
          q (yl_field0 fld_122_1 rfl) <| qa (fun w' hS => at_load one_120 rfl ((hS.pull 1).cell rfl)) <| q (yix_f sl_120 rfl rfl q1m q2f) <| qa (v := .agg #[.int .i64 q0y.Layer, .int .i64 q0y.X, .int .i64 q0y.Y]) (fun w' hS => at_loadAgg agg_61 rfl rfl (Elt.every q3z (hS.pull 7))) <|
          q (v := .agg #[.int .i64 5, .int .i64 q6.fnet, .int .i64 0, .int .i64 q0y.Layer, .int .i64 q0y.X, .int .i64 q0y.Y]) (yl_build bld_63 bldf_63 (parts_eq (pt (va := .int .i64 5) rfl (pt (va := .int .i64 q6.fnet) rfl (pt (va := .int .i64 0) rfl (pt (va := .agg #[.int .i64 q0y.Layer, .int .i64 q0y.X, .int .i64 q0y.Y]) rfl pt0))))) (by kernel_rfl)) <|
          q_done fun w' hS => ?_
         replace hFc58 := bd_s hFc58; obtain ⟨q2u, q40, hFc58⟩ := hFc58
         have hcall := c_rules_bag_add q40  (((hS.pull 7).pull 7).pull 4)
         refine o_cc call_63 (args2 rfl rfl) hcall ?_
         rintro e w' ⟨rfl, hS⟩
         refine ⟨_, rfl, ?_⟩
         refine x_done <| ?_
         exact x_inv ⟨q2u.1, q2u.2, (sinj hFc58), q19, q1k, q1a, q1b, q1c, q1l, rfl, rfl, q1d, q1e, q0q, ((((((((hS.pull 2).pull 2).pull 4).pull 7).pull 5).pull 7).pull 7).pull 7)⟩
        ·replace hFc58 := it_f hc58 hFc58
         refine x_skip <| ?_
         exact x_inv ⟨q0b, q0c, (sinj hFc58), q19, q1k, q1a, q1b, q1c, q1l, rfl, rfl, q1d, q1e, q0q, ((((((((hS.pull 7).pull 7).pull 3).pull 7).pull 4).pull 7).pull 7).pull 7)⟩
       rintro E w ⟨q0w, q0x, rfl, q41, q42, q43, q44, q45, q46, q2w, q2x, q2y, q2z, q30, hS⟩
       exact x_inv ⟨q0p, q0w, q0x, (sinj hFc51), q41, q42, q43, q44, q45, q46, q2w, q2x, q2y, q2z, q30, ((((((((hS.pull 7).pull 7).pull 7).pull 7).pull 7).pull 7).pull 7).pull 7)⟩
     rintro E w ⟨q18, q0u, q0v, rfl, q48, q49, q4a, q4b, q4c, q4d, q31, q32, q33, q34, q35, hS⟩
     exact x_inv ⟨q18, q2a, q0u, q0v, (sinj hFc40), q48, q49, q4a, q4b, q4c, q4d, q31, q32, q33, q34, q35, ((((((((hS.pull 7).pull 7).pull 7).pull 7).pull 7).pull 7).pull 7).pull 7)⟩
    ·replace hFc40 := it_f hc40 hFc40
     refine x_skip <| ?_
     exact x_inv ⟨q0p, q0k, q0b, q0c, (sinj hFc40), q19, q1k, q1a, q1b, q1c, q1l, rfl, rfl, q1d, q1e, q0q, ((((((((hS.pull 7).pull 7).pull 2).pull 7).pull 7).pull 7).pull 7).pull 7)⟩
   rintro E w ⟨q0h, q9, q0d, q0e, rfl, q4e, q4f, q4g, q4h, q4i, q4j, q36, q37, q38, q39, q3a, hS⟩
   refine x_seq <| x_region <| p (yl_field0 fld_122_1 q36) <| pa (at_load one_120 rfl ((hS.pull 5).cell rfl)) <|
    p (yl_len_slice usl_120 rfl) <| p (yl_move rfl) <| x_done <| ?_
   replace hFL6 := bd_s hFL6; obtain ⟨oL17, hLL17, hFL6⟩ := hFL6
   refine x_join (fun E w => ∃ (q0z : List (Int × T_rules_Spot)), q0z = oL17 ∧ E 0 = .pointer (some ⟨q7, 0, none⟩) ∧ E 2 = .slice q0a s2.length c_s2 ∧ E 6 = .slice q2 q5.length c_y0_ret_1_1 ∧ E 7 = .map (some b24) ∧ E 8 = .map (some b25) ∧ E 9 = .map (some b26) ∧ E 27 = .slice q0a s2.length c_s2 ∧ E 28 = .int .i64 (s2.length : Int) ∧ E 29 = .int .i64 q0f ∧ St w0 w (cells q7 103 [.map (some q3), .bool q0e] :: vec 3 (RpI .i64).sz (.slice q2 q5.length c_y0_ret_1_1) q5.length q4 :: mapA b24 (Value.int .i64) (Value.int .i64) q0h :: mapA b25 (Value.int .i64) Value.bool q9 :: mapA b26 (Value.int .i64) kf_61 q0z :: mapA q3 kf_63 Value.bool q0d :: ro ρ :: l)) ?_ ?_
   ·refine x_block ?_
    refine x_loop (fun k_ E w => ∃ (q0l : List (Int × T_rules_Spot)) (q13 : Int), lp (P_rules_open_L17 q6 x37) k_ (q0l, q13) = some oL17 ∧ E 0 = .pointer (some ⟨q7, 0, none⟩) ∧ E 2 = .slice q0a s2.length c_s2 ∧ E 6 = .slice q2 q5.length c_y0_ret_1_1 ∧ E 7 = .map (some b24) ∧ E 8 = .map (some b25) ∧ E 9 = .map (some b26) ∧ E 12 = .int .i64 x37 ∧ E 27 = .slice q0a s2.length c_s2 ∧ E 28 = .int .i64 (s2.length : Int) ∧ E 29 = .int .i64 q0f ∧ E 69 = .slice q11 q6.fspots.length q12 ∧ E 70 = .int .i64 (q6.fspots.length : Int) ∧ E 71 = .int .i64 q13 ∧ St w0 w (cells q7 103 [.map (some q3), .bool q0e] :: vec 3 (RpI .i64).sz (.slice q2 q5.length c_y0_ret_1_1) q5.length q4 :: mapA b24 (Value.int .i64) (Value.int .i64) q0h :: mapA b25 (Value.int .i64) Value.bool q9 :: mapA b26 (Value.int .i64) kf_61 q0l :: mapA q3 kf_63 Value.bool q0d :: ro ρ :: l)) fuel ⟨q8, 0, hLL17, q4e, q4f, q4g, q4h, q4i, q4j, q37, q38, q39, q3a, rfl, rfl, rfl, ((((((((hS.pull 5).drop.pull 6).pull 6).pull 6).pull 6).pull 6).pull 6).pull 6)⟩ ?_
    rintro kL17 E w ⟨q0l, q13, hLL17, q1v, q1w, q1x, q1y, q1z, q1f, q1g, q1n, q1o, q1p, q1q, q1r, q1h, hS⟩
    replace hLL17 := lp_s hLL17; obtain ⟨kL17, obL17, rfl, hFL17, hLL17⟩ := hLL17
    refine x_seq <| x_region <| p (yl_lss q1h q1r) <| x_done <|
     x_seq <|
     x_cond_p (q13 < (q6.fspots.length : Int)) rfl (fun hc72 => ?_) (fun hc72 => ?_)
    ·replace hFL17 := it_t hc72 hFL17
     replace hFL17 := ck_s hFL17; obtain ⟨q2h, hFL17⟩ := hFL17
     replace hFL17 := lv_s hFL17; obtain ⟨q0j, q4k, hFL17⟩ := hFL17
     have q_ := q1m.get q2h; obtain ⟨q5h, q2i, q4l⟩ := q_
     rw [← q4k] at q2i
     have e_ := q2i; subst e_
     refine x_skip <| x_seq <| x_block <| x_seq <|
      x_region <| p (yix_f sl_120 q1q q1h q1m q2h) <| pa (v := .agg #[.int .i64 q0j.Layer, .int .i64 q0j.X, .int .i64 q0j.Y]) (at_loadAgg agg_61 rfl rfl (Elt.every q4l (hS.pull 6))) <| ?_
     refine o_alloc zero_61 hS (fun b16 w' hS => ?_)
     refine o_storeAgg (news := [.int .i64 q0j.Layer, .int .i64 q0j.X, .int .i64 q0j.Y]) agg_61 rfl rfl rfl (by simp [over_length]) hS (fun w' hS => ?_)
     replace hFL17 := lv_s hFL17; obtain ⟨x78, hx78, hFL17⟩ := hFL17
     replace hFL17 := lv_s hFL17; obtain ⟨q78, hq78, hFL17⟩ := hFL17
     refine x_done <| x_seq <| x_region <| p (yl_move q1f) <|
      p (yl_move q1g) <| pa (v := .tuple #[.agg #[.int .i64 x78.Layer, .int .i64 x78.X, .int .i64 x78.Y], .bool q78]) (at_look2 (k := x37) (vf := kf_61) (r := x78) (d := (T_rules_Spot.mk 0 0 0)) um_135 (KeyP.int ui_3) (zero1 zv_61) rfl rfl (hS.pull 5) hx78 hq78) <| p (v := .tuple #[.agg #[.int .i64 x78.Layer, .int .i64 x78.X, .int .i64 x78.Y], .bool q78]) (yl_move rfl) <| p (yl_extract rfl rfl) <|
      p (yl_extract rfl rfl) <| ?_
     refine o_alloc zero_61 hS (fun b17 w' hS => ?_)
     refine o_storeAgg (news := [.int .i64 x78.Layer, .int .i64 x78.X, .int .i64 x78.Y]) agg_61 rfl rfl rfl (by simp [over_length]) hS (fun w' hS => ?_)
     replace hFL17 := bd_s hFL17; obtain ⟨q57, q4m, hFL17⟩ := hFL17
     refine p (yl_assign rfl) <| x_done <| x_seq <| x_region <|
      p (yl_move rfl) <| p (yl_not rfl) <| p (yl_move rfl) <| pg (v := .agg #[.int .i64 q0j.Layer, .int .i64 q0j.X, .int .i64 q0j.Y]) 83 (c := !(!q78)) (says_f _) (fun hq => ld_sub agg_61 rfl rfl rfl (hS.pull 1)) <|
      pg (v := .agg #[.int .i64 x78.Layer, .int .i64 x78.X, .int .i64 x78.Y]) 83 (c := !(!q78)) (says_f _) (fun hq => ld_sub agg_61 rfl rfl rfl hS) <|
      pccg (v := .bool q57) 83 (c := !(!q78)) (says_f _) call_71 (fun hq => (args2 (cv hq) (cv hq))) hS (fun hq => by
       have hcall := c_rules_Spot_before (gd_t q4m hq)  (hS.pull 8)
       exact (Calls.mono hcall (fun e w'' h => And.intro h.1 ((((((((h.2.pull 8).pull 8).pull 8).pull 8).pull 8).pull 8).pull 8).pull 8)))) (fun w' hS => ?_)
     replace hFL17 := lv_s hFL17; obtain ⟨x87, hx87, hFL17⟩ := hFL17
     refine p (yor' rfl rfl (fun hc => (cv (t_not hc))) hx87) <| x_done <| ?_
     replace hFL17 := bd_s hFL17; obtain ⟨oc87, hFc87, hFL17⟩ := hFL17
     refine x_join (fun E w => ∃ (q10 : List (Int × T_rules_Spot)), q10 = oc87 ∧ E 0 = .pointer (some ⟨q7, 0, none⟩) ∧ E 2 = .slice q0a s2.length c_s2 ∧ E 6 = .slice q2 q5.length c_y0_ret_1_1 ∧ E 7 = .map (some b24) ∧ E 8 = .map (some b25) ∧ E 9 = .map (some b26) ∧ E 12 = .int .i64 x37 ∧ E 27 = .slice q0a s2.length c_s2 ∧ E 28 = .int .i64 (s2.length : Int) ∧ E 29 = .int .i64 q0f ∧ E 69 = .slice q11 q6.fspots.length q12 ∧ E 70 = .int .i64 (q6.fspots.length : Int) ∧ E 71 = .int .i64 q13 ∧ St w0 w (cells q7 103 [.map (some q3), .bool q0e] :: vec 3 (RpI .i64).sz (.slice q2 q5.length c_y0_ret_1_1) q5.length q4 :: mapA b24 (Value.int .i64) (Value.int .i64) q0h :: mapA b25 (Value.int .i64) Value.bool q9 :: mapA b26 (Value.int .i64) kf_61 q10 :: mapA q3 kf_63 Value.bool q0d :: ro ρ :: l)) ?_ ?_
     ·refine x_cond (t := x87) rfl (fun hc87 => ?_) (fun hc87 => ?_)
      ·replace hFc87 := it_t hc87 hFc87
       refine x_region <| p (yl_move q1f) <| p (yl_move q1g) <| pa (v := .agg #[.int .i64 q0j.Layer, .int .i64 q0j.X, .int .i64 q0j.Y]) (ld_sub agg_61 rfl rfl rfl (hS.pull 1)) <| ?_
       replace hFc87 := lv_s hFc87; obtain ⟨q58, q4n, hFc87⟩ := hFc87
       refine o_mapset (k := x37) (vf := kf_61) (v := q0j) um_135 (KeyP.int ui_3) rfl rfl rfl (hS.pull 6) q4n (fun w' hS => ?_)
       refine x_done <| ?_
       exact x_inv ⟨q58, (sinj hFc87), q1v, q1w, q1x, q1y, q1z, q1f, q1g, q1n, q1o, q1p, q1q, q1r, q1h, (((((((((hS.pull 1).drop.pull 1).drop.pull 6).pull 6).pull 2).pull 6).pull 6).pull 6).pull 6)⟩
      ·replace hFc87 := it_bf hc87 hFc87
       refine x_skip <| ?_
       exact x_inv ⟨q0l, (sinj hFc87), q1v, q1w, q1x, q1y, q1z, q1f, q1g, q1n, q1o, q1p, q1q, q1r, q1h, (((((((hS.drop.drop.pull 6).pull 6).pull 6).pull 6).pull 6).pull 6).pull 6)⟩
     rintro E w ⟨q10, rfl, q4o, q4p, q4q, q4r, q4s, q4t, q3b, q3c, q3d, q3e, q3f, q3g, q3h, hS⟩
     replace hFL17 := ar_s hFL17; obtain ⟨x91, hx91, hFL17⟩ := hFL17
     refine x_blk <| x_region <| p (yadd q3h rfl hx91) <| p (yl_move rfl) <|
      x_done <| ?_
     have e_ := sinj hFL17; subst e_
     exact x_inv ⟨kL17, Nat.lt_succ_self _, q10, x91, hLL17, q4o, q4p, q4q, q4r, q4s, q4t, q3b, q3c, q3d, q3e, q3f, q3g, rfl, (((((((hS.pull 6).pull 6).pull 6).pull 6).pull 6).pull 6).pull 6)⟩
    ·replace hFL17 := it_f hc72 hFL17
     refine x_exitTo _ rfl <| ?_
     have e_ := sinj hFL17; subst e_
     exact x_inv ⟨q0l, hLL17, q1v, q1w, q1x, q1y, q1z, q1f, q1n, q1o, q1p, (((((((hS.pull 6).pull 6).pull 6).pull 6).pull 6).pull 6).pull 6)⟩
   rintro E w ⟨q0z, rfl, q4u, q4v, q4w, q4x, q4y, q4z, q3i, q3j, q3k, hS⟩
   replace hFL6 := ar_s hFL6; obtain ⟨x92, hx92, hFL6⟩ := hFL6
   refine x_blk <| x_region <| p (yadd q3k rfl hx92) <| p (yl_move rfl) <|
    x_done <| ?_
   have e_ := sinj hFL6; subst e_
   exact x_inv ⟨kL6, Nat.lt_succ_self _, q0h, q9, q0z, x92, q0d, q0e, hLL6, q4u, q4v, q4w, q4x, q4y, q4z, q3i, q3j, rfl, (((((((hS.pull 6).pull 6).pull 6).pull 6).pull 6).pull 6).pull 6)⟩
  ·replace hFL6 := it_f hc30 hFL6
   refine x_exitTo _ rfl <| ?_
   have e_ := sinj hFL6; subst e_
   exact x_inv ⟨q0k, q8, q0b, q0c, hLL6, q19, q1k, q1a, q1c, q1l, (((((((hS.pull 2).drop.pull 5).pull 5).pull 5).pull 5).pull 5).pull 5)⟩
 rintro E w ⟨q0i, q0o, q16, q17, rfl, q59, q5a, q5b, q5c, q5d, hS⟩
 refine x_seq <| x_region <| p (yl_move q5a) <| p (yl_len_slice usl_98 rfl) <|
  p (yl_move rfl) <| x_done <| ?_
 replace hF := bd_s hF; obtain ⟨oL25, hLL25, hF⟩ := hF
 refine x_join (fun E w => ∃ (q1i : List (T_rules_Fault × Bool)) (q1j : Bool), (q1i, q1j) = oL25 ∧ St w0 w (cells q7 103 [.map (some q3), .bool q1j] :: mapA q3 kf_63 Value.bool q1i :: ro ρ :: l)) ?_ ?_
 ·refine x_block ?_
  refine x_loop (fun k_ E w => ∃ (q14 : Int) (q0m : List (T_rules_Fault × Bool)) (q0n : Bool), lp (P_rules_open_L25 s2 q5 q0i q0o) k_ (q14, q0m, q0n) = some oL25 ∧ E 0 = .pointer (some ⟨q7, 0, none⟩) ∧ E 6 = .slice q2 q5.length c_y0_ret_1_1 ∧ E 8 = .map (some b25) ∧ E 9 = .map (some b26) ∧ E 93 = .slice q0a s2.length c_s2 ∧ E 94 = .int .i64 (s2.length : Int) ∧ E 95 = .int .i64 q14 ∧ St w0 w (cells q7 103 [.map (some q3), .bool q0n] :: vec 3 (RpI .i64).sz (.slice q2 q5.length c_y0_ret_1_1) q5.length q4 :: mapA b25 (Value.int .i64) Value.bool q0i :: mapA b26 (Value.int .i64) kf_61 q0o :: mapA q3 kf_63 Value.bool q0m :: ro ρ :: l)) fuel ⟨0, q16, q17, hLL25, q59, q5b, q5c, q5d, rfl, rfl, rfl, ((((((hS.pull 5).pull 5).pull 5).pull 5).pull 5).pull 5)⟩ ?_
  rintro kL25 E w ⟨q14, q0m, q0n, hLL25, q20, q21, q22, q23, q1s, q1t, q15, hS⟩
  replace hLL25 := lp_s hLL25; obtain ⟨kL25, obL25, rfl, hFL25, hLL25⟩ := hLL25
  refine x_seq <| x_region <| p (yl_lss q15 q1t) <| x_done <|
   x_seq <|
   x_cond_p (q14 < (s2.length : Int)) rfl (fun hc96 => ?_) (fun hc96 => ?_)
  ·replace hFL25 := it_t hc96 hFL25
   replace hFL25 := ck_s hFL25; obtain ⟨q2j, hFL25⟩ := hFL25
   replace hFL25 := lv_s hFL25; obtain ⟨q0r, q50, hFL25⟩ := hFL25
   have q_ := q1u.get q2j; obtain ⟨q5i, q2k, q51⟩ := q_
   rw [← q50] at q2k
   obtain ⟨q28, q5e, q29, rfl, q3l⟩ := q2k
   have e_ := q3l.n; subst e_
   refine x_skip <| x_seq <| x_block <| x_seq <|
    x_region <| p (yl_move q15) <| p (yix_f sl_98 q1s q15 q1u q2j) <| pa (v := .agg #[.int .i64 q0r.fnet, .slice q28 q0r.fspots.length q29, .bool q0r.fwire, .int .i64 q0r.fpin]) (at_loadAgg agg_122 rfl rfl (Elt.every q51 (hS.pull 5))) <| ?_
   refine o_alloc zero_122 hS (fun b20 w' hS => ?_)
   refine p (yl_assign rfl) <| ?_
   refine o_storeAgg (news := [.int .i64 q0r.fnet, .slice q28 q0r.fspots.length q29, .bool q0r.fwire, .int .i64 q0r.fpin]) agg_122 rfl rfl rfl (by simp [over_length]) hS (fun w' hS => ?_)
   replace hFL25 := ck_s hFL25; obtain ⟨q2l, hFL25⟩ := hFL25
   replace hFL25 := lv_s hFL25; obtain ⟨x103, hx103, hFL25⟩ := hFL25
   replace hFL25 := lv_s hFL25; obtain ⟨x106, hx106, hFL25⟩ := hFL25
   refine x_done <| x_seq <| x_region <| p (yl_move q21) <|
    p (yl_move rfl) <| p (yix_o sl_22 rfl rfl (hS.pull 2) q0g q2l) <| pa (at_load one_3 rfl (RepL.getW q0g (hS.pull 2) q2l hx103)) <| p (yl_assign rfl) <|
    x_done <| x_seq <| x_region <| p (yl_move q22) <|
    p (yl_move rfl) <| pa (at_look (k := x103) um_134 (KeyP.int ui_3) (zero1 zv_4) rfl rfl (hS.pull 3) hx106) <| p (yl_not rfl) <| x_done <| ?_
   replace hFL25 := bd_s hFL25; obtain ⟨oc107, hFc107, hFL25⟩ := hFL25
   refine x_join (fun E w => ∃ (q0s : List (T_rules_Fault × Bool)) (q0t : Bool), (q0s, q0t) = oc107 ∧ E 0 = .pointer (some ⟨q7, 0, none⟩) ∧ E 6 = .slice q2 q5.length c_y0_ret_1_1 ∧ E 8 = .map (some b25) ∧ E 9 = .map (some b26) ∧ E 93 = .slice q0a s2.length c_s2 ∧ E 94 = .int .i64 (s2.length : Int) ∧ E 95 = .int .i64 q14 ∧ St w0 w (cells q7 103 [.map (some q3), .bool q0t] :: vec 3 (RpI .i64).sz (.slice q2 q5.length c_y0_ret_1_1) q5.length q4 :: mapA b25 (Value.int .i64) Value.bool q0i :: mapA b26 (Value.int .i64) kf_61 q0o :: mapA q3 kf_63 Value.bool q0s :: ro ρ :: l)) ?_ ?_
   ·refine x_cond (t := !x106) rfl (fun hc107 => ?_) (fun hc107 => ?_)
    ·replace hFc107 := it_t hc107 hFc107
     replace hFc107 := lv_s hFc107; obtain ⟨x113, hx113, hFc107⟩ := hFc107
     replace hFc107 := bd_s hFc107; obtain ⟨q2v, q52, hFc107⟩ := hFc107
     refine x_region <| p (yl_move q20) <| p (yl_field0 fld_122_0 rfl) <| pa (at_load one_3 rfl (hS.cell rfl)) <|
      p (yl_move q23) <| p (yl_move rfl) <| pa (v := .agg #[.int .i64 x113.Layer, .int .i64 x113.X, .int .i64 x113.Y]) (at_look (k := x103) (vf := kf_61) (r := x113) (d := (T_rules_Spot.mk 0 0 0)) um_135 (KeyP.int ui_3) (zero1 zv_61) rfl rfl (hS.pull 4) hx113) <| p (v := .agg #[.int .i64 6, .int .i64 q0r.fnet, .int .i64 0, .int .i64 x113.Layer, .int .i64 x113.X, .int .i64 x113.Y]) (yl_build bld_63 bldf_63 (parts_eq (pt (va := .int .i64 6) rfl (pt (va := .int .i64 q0r.fnet) rfl (pt (va := .int .i64 0) rfl (pt (va := .agg #[.int .i64 x113.Layer, .int .i64 x113.X, .int .i64 x113.Y]) rfl pt0))))) (by kernel_rfl)) <| ?_
     have hcall := c_rules_bag_add q52  (((hS.pull 6).pull 6).pull 3)
     refine o_cc call_63 (args2 rfl rfl) hcall ?_
     rintro e w' ⟨rfl, hS⟩
     refine ⟨_, rfl, ?_⟩
     refine x_done <| ?_
     exact x_inv ⟨q2v.1, q2v.2, (sinj hFc107), q20, q21, q22, q23, q1s, q1t, q15, (((((((hS.pull 3).drop.pull 2).pull 2).pull 5).pull 5).pull 5).pull 5)⟩
    ·replace hFc107 := it_bf hc107 hFc107
     refine x_skip <| ?_
     exact x_inv ⟨q0m, q0n, (sinj hFc107), q20, q21, q22, q23, q1s, q1t, q15, ((((((hS.drop.pull 5).pull 5).pull 5).pull 5).pull 5).pull 5)⟩
   rintro E w ⟨q0s, q0t, rfl, q3m, q3n, q3o, q3p, q2o, q2p, q2q, hS⟩
   replace hFL25 := ar_s hFL25; obtain ⟨x116, hx116, hFL25⟩ := hFL25
   refine x_blk <| x_region <| p (yadd q2q rfl hx116) <| p (yl_move rfl) <|
    x_done <| ?_
   have e_ := sinj hFL25; subst e_
   exact x_inv ⟨kL25, Nat.lt_succ_self _, x116, q0s, q0t, hLL25, q3m, q3n, q3o, q3p, q2o, q2p, rfl, ((((((hS.pull 5).pull 5).pull 5).pull 5).pull 5).pull 5)⟩
  ·replace hFL25 := it_f hc96 hFL25
   refine x_exitTo _ rfl <| ?_
   have e_ := sinj hFL25; subst e_
   exact x_inv ⟨q0m, q0n, hLL25, ((((((hS.pull 1).drop.pull 1).drop.pull 1).drop.pull 2).pull 2).pull 2)⟩
 rintro E w ⟨q1i, q1j, rfl, hS⟩
 have e_ := sinj hF; subst e_
 exact x_fin ⟨_, rfl, rfl, (((hS.pull 2).pull 2).pull 2)⟩
attribute [irreducible] P_rules_open

def P_rules_antenna_1_L2 (x0 : T_rules_shape) (q3 : Int) : Int → Option (Int ⊕ (Unit ⊕ List T_rules_Spot)) := fun q2 =>
 if q2 < (x0.fspots.length : Int) then
  ck (inb q2 x0.fspots.length) <|
  lv (gt x0.fspots q2) fun q4 =>
  if q3 < q4.Layer then
   some (Sum.inr (Sum.inr []))
  else
   ar (q2 + 1) fun x17 =>
   some (Sum.inl x17)
 else
  some (Sum.inr (Sum.inl ()))
def P_rules_antenna_1 (x0 : T_rules_shape) (q2 : Int) : Option (List T_rules_Spot) :=
 bs (
  lp (P_rules_antenna_1_L2 x0 q2) fuel 0) (fun y => some y) fun _ =>
 some x0.fspots
theorem c_rules_antenna_1 {w0 w : World} {l : List Assn} {ρ : Heap} {q2 : Option Addr} {q0b : Nat} {c_x0_1 : Nat} {q7 : Nat} {x0 : T_rules_shape} {q3 : Int} {r : List T_rules_Spot} (hF : P_rules_antenna_1 x0 q3 = some r) (q5 : RdS R_rules_Spot ρ q2 q0b c_x0_1 x0.fspots) (hS : St w0 w (cells q7 3 [.int .i64 q3] :: ro ρ :: l)) :
  Calls Try.prog 72 #[.agg #[.int .i64 x0.fnet, .slice q2 q0b c_x0_1, .bool x0.fwire, .int .i64 x0.fpin], .pointer (some ⟨q7, 0, none⟩)] w fun e w' => ∃ (q8 : Option Addr) (q9 : Nat) (c_y0_ret : Nat), e = .returned (.slice q8 q9 c_y0_ret) ∧ RdS R_rules_Spot ρ q8 q9 c_y0_ret r ∧ St w0 w' (cells q7 3 [.int .i64 q3] :: ro ρ :: l) := by
 have e_ := q5.n; subst e_
 refine enterC Try.func72 rfl 20 rfl (by simp) ?_
 refine x_seq <| x_region <| ?_
 refine o_box (cs := [.int .i64 x0.fnet, .slice q2 x0.fspots.length c_x0_1, .bool x0.fwire, .int .i64 x0.fpin]) rfl rfl hS (fun b2 w' hS => ?_)
 refine p (yl_assign rfl) <| x_done <| x_seq <| x_seq <|
  x_region <| p (yl_field0 fld_122_1 rfl) <| pa (at_load one_120 rfl (hS.cell rfl)) <| p (yl_len_slice usl_120 rfl) <|
  p (yl_move rfl) <| x_done <| ?_
 replace hF := bs_s hF; obtain ⟨oL2, hLL2, hF⟩ := hF
 refine x_join (fun E w => (Sum.inl (())) = oL2 ∧ E 2 = .pointer (some ⟨b2, 0, none⟩) ∧ St w0 w (cells b2 122 [.int .i64 x0.fnet, .slice q2 x0.fspots.length c_x0_1, .bool x0.fwire, .int .i64 x0.fpin] :: cells q7 3 [.int .i64 q3] :: ro ρ :: l)) ?_ ?_
 ·refine x_block ?_
  refine x_loop (fun k_ E w => ∃ (q6 : Int), lp (P_rules_antenna_1_L2 x0 q3) k_ q6 = some oL2 ∧ E 1 = .pointer (some ⟨q7, 0, none⟩) ∧ E 2 = .pointer (some ⟨b2, 0, none⟩) ∧ E 7 = .slice q2 x0.fspots.length c_x0_1 ∧ E 8 = .int .i64 (x0.fspots.length : Int) ∧ E 9 = .int .i64 q6 ∧ St w0 w (cells q7 3 [.int .i64 q3] :: cells b2 122 [.int .i64 x0.fnet, .slice q2 x0.fspots.length c_x0_1, .bool x0.fwire, .int .i64 x0.fpin] :: ro ρ :: l)) fuel ⟨0, hLL2, rfl, rfl, rfl, rfl, rfl, (((hS.pull 2).pull 1).pull 2)⟩ ?_
  rintro kL2 E w ⟨q6, hLL2, q0c, q0d, q0e, q0f, q0a, hS⟩
  replace hLL2 := lp_s hLL2; obtain ⟨kL2, obL2, rfl, hFL2, hLL2⟩ := hLL2
  refine x_seq <| x_region <| p (yl_lss q0a q0f) <| x_done <|
   x_seq <|
   x_cond_p (q6 < (x0.fspots.length : Int)) rfl (fun hc10 => ?_) (fun hc10 => ?_)
  ·replace hFL2 := it_t hc10 hFL2
   replace hFL2 := ck_s hFL2; obtain ⟨q0g, hFL2⟩ := hFL2
   replace hFL2 := lv_s hFL2; obtain ⟨q4, q0i, hFL2⟩ := hFL2
   have q_ := q5.get q0g; obtain ⟨q0l, q0h, q0j⟩ := q_
   rw [← q0i] at q0h
   have e_ := q0h; subst e_
   refine x_skip <| x_seq <| x_block <| x_seq <|
    x_region <| p (yix_f sl_120 q0e q0a q5 q0g) <| pa (v := .agg #[.int .i64 q4.Layer, .int .i64 q4.X, .int .i64 q4.Y]) (at_loadAgg agg_61 rfl rfl (Elt.every q0j (hS.pull 2))) <| ?_
   refine o_alloc zero_61 hS (fun b5 w' hS => ?_)
   refine o_storeAgg (news := [.int .i64 q4.Layer, .int .i64 q4.X, .int .i64 q4.Y]) agg_61 rfl rfl rfl (by simp [over_length]) hS (fun w' hS => ?_)
   refine x_done <| x_seq <| x_region <| p (yl_field0 fld_61_0 rfl) <|
    pa (at_load one_3 rfl (hS.cell rfl)) <| pa (at_load one_3 q0c ((hS.pull 1).cell rfl)) <| p (yl_gtr rfl rfl) <| x_done <|
    x_cond_p (q3 < q4.Layer) rfl (fun hc16 => ?_) (fun hc16 => ?_)
   ·replace hFL2 := it_t hc16 hFL2
    refine x_seq <| x_region <| p (yl_assign rfl) <| x_done <| ?_
    have e_ := sinj hFL2; subst e_
    have e_ := (show _ = oL2 from hLL2); subst e_
    have e_ := sinj hF; subst e_
    exact x_return ⟨_, ⟨_, _, rfl, rfl, rfl⟩, none, 0, 0, rfl, (RdS.nil (A := none) (c := 0)), (((hS.drop.pull 1).drop.pull 1).pull 1)⟩
   ·replace hFL2 := it_f hc16 hFL2
    replace hFL2 := ar_s hFL2; obtain ⟨x17, hx17, hFL2⟩ := hFL2
    refine x_skip <| x_blk <| x_region <| p (yadd q0a rfl hx17) <|
     p (yl_move rfl) <| x_done <| ?_
    have e_ := sinj hFL2; subst e_
    exact x_inv ⟨kL2, Nat.lt_succ_self _, x17, hLL2, q0c, q0d, q0e, q0f, rfl, (((hS.drop.pull 2).pull 2).pull 2)⟩
  ·replace hFL2 := it_f hc10 hFL2
   refine x_exitTo _ rfl <| ?_
   have e_ := sinj hFL2; subst e_
   exact x_inv ⟨hLL2, q0d, (((hS.pull 2).pull 1).pull 2)⟩
 rintro E w ⟨rfl, q0k, hS⟩
 refine x_seq <| x_region <| p (yl_field0 fld_122_1 q0k) <| pa (at_load one_120 rfl (hS.cell rfl)) <|
  p (yl_assign rfl) <| x_done <| ?_
 have e_ := sinj hF; subst e_
 exact x_return ⟨_, ⟨_, _, rfl, rfl, rfl⟩, q2, x0.fspots.length, c_x0_1, rfl, q5, ((hS.drop.pull 1).pull 1)⟩
attribute [irreducible] P_rules_antenna_1

def P_rules_groups_3_L3 (q4 : List Int) : (Int × List Int) → Option ((Int × List Int) ⊕ List Int) := fun (q2, q3) =>
 if q2 < (q4.length : Int) then
  ck (inb q2 q3.length) <|
  lv (stt q3 q2 q2) fun q5 =>
  ar (q2 + 1) fun x36 =>
  some (Sum.inl (x36, q5))
 else
  some (Sum.inr q3)
def P_rules_groups_3_L13 (q8 : T_rules_shape) (q9 : List T_rules_Spot) (q7 : Int) : (List (T_rules_key × Int) × Int × List Int) → Option ((List (T_rules_key × Int) × Int × List Int) ⊕ (List (T_rules_key × Int) × List Int)) := fun (q2, q4, q5) =>
 if q4 < (q9.length : Int) then
  bd (
   ck (inb q4 q9.length) <|
   lv (gt q9 q4) fun q3 =>
   lv (mget (T_rules_key.mk q8.fnet (T_rules_Spot.mk q3.Layer q3.X q3.Y)) q2 0) fun x61 =>
   lv (mhas (T_rules_key.mk q8.fnet (T_rules_Spot.mk q3.Layer q3.X q3.Y)) q2) fun q61 =>
   if (!q61) = true then
    lv (mput (T_rules_key.mk q8.fnet (T_rules_Spot.mk q3.Layer q3.X q3.Y)) q7 q2) fun q0d =>
    some (q0d, q5)
   else
    bd (P_rules_groups_1 q7 q5) fun q0a =>
    bd (P_rules_groups_1 x61 q0a.2) fun q6 =>
    lv (max q0a.1 q6.1) fun x78 =>
    lv (min q0a.1 q6.1) fun x81 =>
    ck (inb x78 q6.2.length) <|
    lv (stt q6.2 x78 x81) fun q0e =>
    some (q2, q0e)) fun (q0b, q0c) =>
  ar (q4 + 1) fun x83 =>
  some (Sum.inl (q0b, x83, q0c))
 else
  some (Sum.inr (q2, q5))
def P_rules_groups_3_L10 (l_0 : List T_rules_shape) (q5 : Int) : (List (T_rules_key × Int) × Int × List Int) → Option ((List (T_rules_key × Int) × Int × List Int) ⊕ List Int) := fun (q4, q2, q3) =>
 if q2 < (l_0.length : Int) then
  ck (inb q2 l_0.length) <|
  lv (gt l_0 q2) fun q8 =>
  bd (P_rules_antenna_1 q8 q5) fun q9 =>
  bd (
   lp (P_rules_groups_3_L13 q8 q9 q2) fuel (q4, 0, q3)) fun (q6, q7) =>
  ar (q2 + 1) fun x84 =>
  some (Sum.inl (q6, x84, q7))
 else
  some (Sum.inr q3)
def P_rules_groups_3_L26 (l_0 : List T_rules_shape) : (List (Int × Int) × List Int × Int × List Int) → Option ((List (Int × Int) × List Int × Int × List Int) ⊕ List Int) := fun (q2, q4, q3, q7) =>
 if q3 < (l_0.length : Int) then
  bd (P_rules_groups_1 q3 q7) fun q6 =>
  lv (mget q6.1 q2 0) fun x100 =>
  lv (mhas q6.1 q2) fun q100 =>
  bd (
   if (!q100) = true then
    lv (mput q6.1 (q2.length : Int) q2) fun q8 =>
    some q8
   else
    some q2) fun q5 =>
  lv (mget q6.1 q5 0) fun x113 =>
  ck (inb q3 q4.length) <|
  lv (stt q4 q3 x113) fun q9 =>
  ar (q3 + 1) fun x115 =>
  some (Sum.inl (q5, q9, x115, q6.2))
 else
  some (Sum.inr q4)
def P_rules_groups_3 (l_0 : List T_rules_shape) (q2 : Int) : Option (List Int) :=
 ck (mkOk 8 (l_0.length : Int)) <|
 lv ((List.replicate ((l_0.length : Int) : Int).toNat 0 : List Int)) fun q6 =>
 bd (
  lp (P_rules_groups_3_L3 q6) fuel (0, q6)) fun q5 =>
 bd (
  lp (P_rules_groups_3_L10 l_0 q2) fuel ([], 0, q5)) fun q4 =>
 ck (mkOk 8 (l_0.length : Int)) <|
 lv ((List.replicate ((l_0.length : Int) : Int).toNat 0 : List Int)) fun q7 =>
 bd (
  lp (P_rules_groups_3_L26 l_0) fuel ([], q7, 0, q4)) fun q3 =>
 some q3
theorem c_rules_groups_3 {w0 w : World} {l : List Assn} {ρ : Heap} {q0d : Option Addr} {q30 : Nat} {c_l_0 : Nat} {q3 : Nat} {l_0 : List T_rules_shape} {q5 : Int} {r : List Int} (hF : P_rules_groups_3 l_0 q5 = some r) (q2g : RdS R_rules_shape ρ q0d q30 c_l_0 l_0) (hS : St w0 w (cells q3 3 [.int .i64 q5] :: ro ρ :: l)) :
  Calls Try.prog 68 #[.slice q0d q30 c_l_0, .func (.func 72) #[] #[.pointer (some ⟨q3, 0, none⟩)]] w fun e w' => ∃ (q23 : Option Addr) (q1o : Nat) (c_y0_ret : Nat) (q22 : List Value), e = .returned (.slice q23 q1o c_y0_ret) ∧ RepL (RpI .i64) ρ r q22 ∧ St w0 w' (vec 3 (RpI .i64).sz (.slice q23 q1o c_y0_ret) q1o q22 :: cells q3 3 [.int .i64 q5] :: ro ρ :: l) := by
 have e_ := q2g.n; subst e_
 refine enterC Try.func68 rfl 117 rfl (by simp) ?_
 refine x_seq <| x_region <| p (yl_assign rfl) <| x_done <|
  x_seq <| x_region <| p (yl_move rfl) <| p (yl_len_slice usl_98 rfl) <| ?_
 replace hF := ck_s hF; obtain ⟨q47, hF⟩ := hF
 replace hF := lv_s hF; obtain ⟨q2, q48, hF⟩ := hF
 refine o_mk sl_22 zero_3 (show (RpI .i64).ok ρ _ 0 from rfl) rfl rfl q47 (by decide) q48 hS (fun A26 cs26 w' hr26 hS => ?_)
 refine o_alloc zero_22 hS (fun b5 w' hS => ?_)
 refine o_store1 (v := .slice A26 q2.length q2.length) one_22 rfl rfl rfl rfl hS (fun w' hS => ?_)
 refine x_done <| x_seq <| x_seq <| x_region <|
  pa (at_load one_22 rfl (hS.cell rfl)) <| p (yl_len_slice usl_22 rfl) <| p (yl_move rfl) <| x_done <| ?_
 replace hF := bd_s hF; obtain ⟨oL3, hLL3, hF⟩ := hF
 refine x_join (fun E w => ∃ (q0s : List Value) (q1g : List Int), q1g = oL3 ∧ E 0 = .slice q0d l_0.length c_l_0 ∧ E 1 = .func (.func 72) #[] #[.pointer (some ⟨q3, 0, none⟩)] ∧ E 5 = .pointer (some ⟨b5, 0, none⟩) ∧ RepL (RpI .i64) ρ q1g q0s ∧ St w0 w (cells q3 3 [.int .i64 q5] :: cells b5 22 [.slice A26 q2.length q2.length] :: vec 3 (RpI .i64).sz (.slice A26 q2.length q2.length) q2.length q0s :: ro ρ :: l)) ?_ ?_
 ·refine x_block ?_
  refine x_loop (fun k_ E w => ∃ (q0j : List Value) (q0h : Int) (q16 : List Int), lp (P_rules_groups_3_L3 q2) k_ (q0h, q16) = some oL3 ∧ E 0 = .slice q0d l_0.length c_l_0 ∧ E 1 = .func (.func 72) #[] #[.pointer (some ⟨q3, 0, none⟩)] ∧ E 5 = .pointer (some ⟨b5, 0, none⟩) ∧ E 28 = .int .i64 (q2.length : Int) ∧ E 29 = .int .i64 q0h ∧ RepL (RpI .i64) ρ q16 q0j ∧ St w0 w (cells q3 3 [.int .i64 q5] :: cells b5 22 [.slice A26 q2.length q2.length] :: vec 3 (RpI .i64).sz (.slice A26 q2.length q2.length) q2.length q0j :: ro ρ :: l)) fuel ⟨cs26, 0, q2, hLL3, rfl, rfl, rfl, rfl, rfl, hr26, ((((hS.pull 3).pull 2).pull 2).pull 3)⟩ ?_
  rintro kL3 E w ⟨q0j, q0h, q16, hLL3, q2j, q2k, q24, q2b, q1y, q17, hS⟩
  replace hLL3 := lp_s hLL3; obtain ⟨kL3, obL3, rfl, hFL3, hLL3⟩ := hLL3
  refine x_seq <| x_region <| p (yl_lss q1y q2b) <| x_done <|
   x_seq <|
   x_cond_p (q0h < (q2.length : Int)) rfl (fun hc30 => ?_) (fun hc30 => ?_)
  ·replace hFL3 := it_t hc30 hFL3
   replace hFL3 := ck_s hFL3; obtain ⟨q31, hFL3⟩ := hFL3
   refine x_skip <| x_seq <| x_block <| x_seq <|
    x_region <| p (yl_move q1y) <| p (yl_assign rfl) <| x_done <|
    x_region <| pa (at_load one_22 q24 ((hS.pull 1).cell rfl)) <| p (yl_move rfl) <| p (yl_move rfl) <|
    p (yix_o sl_22 rfl rfl (hS.pull 2) q17 q31) <| ?_
   replace hFL3 := lv_s hFL3; obtain ⟨q4n, q49, hFL3⟩ := hFL3
   refine o_put' (news := [.int .i64 q0h]) sz_3 rfl rfl rfl rfl (o := 0) rfl q31 rfl (hS.pull 2) q17 (Le.refl _) (fun c hc => ok_all hc (show (RpI .i64).ok ρ [.int .i64 q0h] q0h from rfl)) q49 (fun q4a w' q4b hS => ?_)
   replace hFL3 := ar_s hFL3; obtain ⟨x36, hx36, hFL3⟩ := hFL3
   refine x_done <| x_blk <| x_region <| p (yadd q1y rfl hx36) <|
    p (yl_move rfl) <| x_done <| ?_
   have e_ := sinj hFL3; subst e_
   exact x_inv ⟨kL3, Nat.lt_succ_self _, q4a, x36, q4n, hLL3, q2j, q2k, q24, q2b, rfl, q4b, ((((hS.pull 3).pull 1).pull 3).pull 3)⟩
  ·replace hFL3 := it_f hc30 hFL3
   refine x_exitTo _ rfl <| ?_
   have e_ := sinj hFL3; subst e_
   exact x_inv ⟨q0j, q16, hLL3, q2j, q2k, q24, q17, ((((hS.pull 3).pull 3).pull 3).pull 3)⟩
 rintro E w ⟨q0s, q1g, rfl, q32, q4c, q33, q2l, hS⟩
 refine x_seq <| x_region <| p (v := .func (.func 81) #[] #[.pointer (some ⟨b5, 0, none⟩)]) (yl_makeFunc (by simp only [List.map_toArray, List.map_nil]) (by simp only [List.map_toArray, List.map_cons, List.map_nil]; exact arr1 q33)) <| p (v := .func (.func 81) #[] #[.pointer (some ⟨b5, 0, none⟩)]) (yl_assign rfl) <|
  x_done <| x_seq <| x_region <| ?_
 refine o_mkmap (κ := T_rules_key) (α := Int) kf_146 (Value.int .i64) hS (fun b38 w' hS => ?_)
 refine p (yl_assign rfl) <| x_done <| x_seq <| x_seq <|
  x_region <| p (yl_move q32) <| p (yl_len_slice usl_98 rfl) <| p (yl_move rfl) <|
  x_done <| ?_
 replace hF := bd_s hF; obtain ⟨oL10, hLL10, hF⟩ := hF
 refine x_join (fun E w => ∃ (q0k : List Value) (q18 : List Int), q18 = oL10 ∧ E 0 = .slice q0d l_0.length c_l_0 ∧ E 7 = .func (.func 81) #[] #[.pointer (some ⟨b5, 0, none⟩)] ∧ RepL (RpI .i64) ρ q18 q0k ∧ St w0 w (cells b5 22 [.slice A26 q2.length q2.length] :: cells q3 3 [.int .i64 q5] :: vec 3 (RpI .i64).sz (.slice A26 q2.length q2.length) q2.length q0k :: ro ρ :: l)) ?_ ?_
 ·refine x_block ?_
  refine x_loop (fun k_ E w => ∃ (q0b : List Value) (q0l : List (T_rules_key × Int)) (q7 : Int) (q0n : List Int), lp (P_rules_groups_3_L10 l_0 q5) k_ (q0l, q7, q0n) = some oL10 ∧ E 0 = .slice q0d l_0.length c_l_0 ∧ E 1 = .func (.func 72) #[] #[.pointer (some ⟨q3, 0, none⟩)] ∧ E 5 = .pointer (some ⟨b5, 0, none⟩) ∧ E 7 = .func (.func 81) #[] #[.pointer (some ⟨b5, 0, none⟩)] ∧ E 8 = .map (some b38) ∧ E 39 = .slice q0d l_0.length c_l_0 ∧ E 40 = .int .i64 (l_0.length : Int) ∧ E 41 = .int .i64 q7 ∧ RepL (RpI .i64) ρ q0n q0b ∧ St w0 w (cells q3 3 [.int .i64 q5] :: cells b5 22 [.slice A26 q2.length q2.length] :: mapA b38 kf_146 (Value.int .i64) q0l :: vec 3 (RpI .i64).sz (.slice A26 q2.length q2.length) q2.length q0b :: ro ρ :: l)) fuel ⟨q0s, [], 0, q1g, hLL10, q32, q4c, q33, rfl, rfl, rfl, rfl, rfl, q2l, (((((hS.pull 4).pull 4).pull 2).pull 4).pull 4)⟩ ?_
  rintro kL10 E w ⟨q0b, q0l, q7, q0n, hLL10, q2c, q2d, q34, q2e, q35, q25, q26, q19, q1n, hS⟩
  replace hLL10 := lp_s hLL10; obtain ⟨kL10, obL10, rfl, hFL10, hLL10⟩ := hLL10
  refine x_seq <| x_region <| p (yl_lss q19 q26) <| x_done <|
   x_seq <|
   x_cond_p (q7 < (l_0.length : Int)) rfl (fun hc42 => ?_) (fun hc42 => ?_)
  ·replace hFL10 := it_t hc42 hFL10
   replace hFL10 := ck_s hFL10; obtain ⟨q2m, hFL10⟩ := hFL10
   replace hFL10 := lv_s hFL10; obtain ⟨q6, q3c, hFL10⟩ := hFL10
   have q_ := q2g.get q2m; obtain ⟨q4p, q2n, q3d⟩ := q_
   rw [← q3c] at q2n
   obtain ⟨q12, q4o, q13, rfl, q2f⟩ := q2n
   have e_ := q2f.n; subst e_
   refine x_skip <| x_seq <| x_block <| x_seq <|
    x_region <| p (yl_move q19) <| p (yix_f sl_98 q25 q19 q2g q2m) <| pa (v := .agg #[.int .i64 q6.fnet, .slice q12 q6.fspots.length q13, .bool q6.fwire, .int .i64 q6.fpin]) (at_loadAgg agg_122 rfl rfl (Elt.every q3d (hS.pull 4))) <| ?_
   refine o_alloc zero_122 hS (fun b10 w' hS => ?_)
   refine p (yl_assign rfl) <| ?_
   refine o_storeAgg (news := [.int .i64 q6.fnet, .slice q12 q6.fspots.length q13, .bool q6.fwire, .int .i64 q6.fpin]) agg_122 rfl rfl rfl (by simp [over_length]) hS (fun w' hS => ?_)
   replace hFL10 := bd_s hFL10; obtain ⟨q1h, q3e, hFL10⟩ := hFL10
   refine x_done <| x_seq <| x_region <| p (yl_move q2d) <|
    pa (v := .agg #[.int .i64 q6.fnet, .slice q12 q6.fspots.length q13, .bool q6.fwire, .int .i64 q6.fpin]) (ld_sub agg_122 rfl rfl rfl hS) <| ?_
   have hcall := c_rules_antenna_1 q3e q2f ((hS.pull 5).pull 2)
   refine o_ccv rfl call_72 (capargs (args1 rfl)) hcall ?_
   rintro e w' ⟨q1d, q3b, c_y0_ret_12_2, rfl, q0q, hS⟩
   refine ⟨_, rfl, ?_⟩
   have e_ := q0q.n; subst e_
   refine p (yl_len_slice usl_120 rfl) <| p (yl_move rfl) <| x_done <| ?_
   replace hFL10 := bd_s hFL10; obtain ⟨oL13, hLL13, hFL10⟩ := hFL10
   refine x_join (fun E w => ∃ (q0m : List Value) (q0t : List (T_rules_key × Int)) (q1a : List Int), (q0t, q1a) = oL13 ∧ E 0 = .slice q0d l_0.length c_l_0 ∧ E 1 = .func (.func 72) #[] #[.pointer (some ⟨q3, 0, none⟩)] ∧ E 5 = .pointer (some ⟨b5, 0, none⟩) ∧ E 7 = .func (.func 81) #[] #[.pointer (some ⟨b5, 0, none⟩)] ∧ E 8 = .map (some b38) ∧ E 39 = .slice q0d l_0.length c_l_0 ∧ E 40 = .int .i64 (l_0.length : Int) ∧ E 41 = .int .i64 q7 ∧ RepL (RpI .i64) ρ q1a q0m ∧ St w0 w (cells q3 3 [.int .i64 q5] :: cells b5 22 [.slice A26 q2.length q2.length] :: mapA b38 kf_146 (Value.int .i64) q0t :: vec 3 (RpI .i64).sz (.slice A26 q2.length q2.length) q2.length q0m :: ro ρ :: l)) ?_ ?_
   ·refine x_block ?_
    refine x_loop (fun k_ E w => ∃ (q0c : List Value) (q0e : List (T_rules_key × Int)) (q0w : Int) (q0o : List Int), lp (P_rules_groups_3_L13 q6 q1h q7) k_ (q0e, q0w, q0o) = some oL13 ∧ E 0 = .slice q0d l_0.length c_l_0 ∧ E 1 = .func (.func 72) #[] #[.pointer (some ⟨q3, 0, none⟩)] ∧ E 5 = .pointer (some ⟨b5, 0, none⟩) ∧ E 7 = .func (.func 81) #[] #[.pointer (some ⟨b5, 0, none⟩)] ∧ E 8 = .map (some b38) ∧ E 9 = .int .i64 q7 ∧ E 10 = .pointer (some ⟨b10, 0, none⟩) ∧ E 39 = .slice q0d l_0.length c_l_0 ∧ E 40 = .int .i64 (l_0.length : Int) ∧ E 41 = .int .i64 q7 ∧ E 48 = .slice q1d q1h.length c_y0_ret_12_2 ∧ E 49 = .int .i64 (q1h.length : Int) ∧ E 50 = .int .i64 q0w ∧ RepL (RpI .i64) ρ q0o q0c ∧ St w0 w (cells q3 3 [.int .i64 q5] :: cells b5 22 [.slice A26 q2.length q2.length] :: mapA b38 kf_146 (Value.int .i64) q0e :: cells b10 122 [.int .i64 q6.fnet, .slice q12 q6.fspots.length q13, .bool q6.fwire, .int .i64 q6.fpin] :: vec 3 (RpI .i64).sz (.slice A26 q2.length q2.length) q2.length q0c :: ro ρ :: l)) fuel ⟨q0b, q0l, 0, q0n, hLL13, q2c, q2d, q34, q2e, q35, rfl, rfl, q25, q26, q19, rfl, rfl, rfl, q1n, ((((((hS.pull 1).pull 5).pull 3).pull 5).pull 5).pull 5)⟩ ?_
    rintro kL13 E w ⟨q0c, q0e, q0w, q0o, hLL13, q1z, q20, q1i, q14, q15, q1j, q1p, q1q, q1r, q1s, q1t, q1u, q1b, q11, hS⟩
    replace hLL13 := lp_s hLL13; obtain ⟨kL13, obL13, rfl, hFL13, hLL13⟩ := hLL13
    refine x_seq <| x_region <| p (yl_lss q1b q1u) <| x_done <|
     x_seq <|
     x_cond_p (q0w < (q1h.length : Int)) rfl (fun hc51 => ?_) (fun hc51 => ?_)
    ·replace hFL13 := it_t hc51 hFL13
     refine x_skip <| x_seq <| ?_
     replace hFL13 := bd_s hFL13; obtain ⟨ob5, hFb5, hFL13⟩ := hFL13
     refine x_join (fun E w => ∃ (q0u : List Value) (q10 : List (T_rules_key × Int)) (q1k : List Int), (q10, q1k) = ob5 ∧ E 0 = .slice q0d l_0.length c_l_0 ∧ E 1 = .func (.func 72) #[] #[.pointer (some ⟨q3, 0, none⟩)] ∧ E 5 = .pointer (some ⟨b5, 0, none⟩) ∧ E 7 = .func (.func 81) #[] #[.pointer (some ⟨b5, 0, none⟩)] ∧ E 8 = .map (some b38) ∧ E 9 = .int .i64 q7 ∧ E 10 = .pointer (some ⟨b10, 0, none⟩) ∧ E 39 = .slice q0d l_0.length c_l_0 ∧ E 40 = .int .i64 (l_0.length : Int) ∧ E 41 = .int .i64 q7 ∧ E 48 = .slice q1d q1h.length c_y0_ret_12_2 ∧ E 49 = .int .i64 (q1h.length : Int) ∧ E 50 = .int .i64 q0w ∧ RepL (RpI .i64) ρ q1k q0u ∧ St w0 w (cells q3 3 [.int .i64 q5] :: cells b5 22 [.slice A26 q2.length q2.length] :: mapA b38 kf_146 (Value.int .i64) q10 :: cells b10 122 [.int .i64 q6.fnet, .slice q12 q6.fspots.length q13, .bool q6.fwire, .int .i64 q6.fpin] :: vec 3 (RpI .i64).sz (.slice A26 q2.length q2.length) q2.length q0u :: ro ρ :: l)) ?_ ?_
     ·replace hFb5 := ck_s hFb5; obtain ⟨q2o, hFb5⟩ := hFb5
      replace hFb5 := lv_s hFb5; obtain ⟨q4, q3f, hFb5⟩ := hFb5
      have q_ := q0q.get q2o; obtain ⟨q4q, q2p, q3g⟩ := q_
      rw [← q3f] at q2p
      have e_ := q2p; subst e_
      refine x_block <| x_seq <| x_region <| p (yix_f sl_120 q1t q1b q0q q2o) <|
       pa (v := .agg #[.int .i64 q4.Layer, .int .i64 q4.X, .int .i64 q4.Y]) (at_loadAgg agg_61 rfl rfl (Elt.every q3g (hS.pull 5))) <| ?_
      refine o_alloc zero_61 hS (fun b12 w' hS => ?_)
      refine o_storeAgg (news := [.int .i64 q4.Layer, .int .i64 q4.X, .int .i64 q4.Y]) agg_61 rfl rfl rfl (by simp [over_length]) hS (fun w' hS => ?_)
      refine x_done <| x_seq <| x_region <| p (yl_field0 fld_122_0 q1p) <|
       pa (at_load one_3 rfl ((hS.pull 4).cell rfl)) <| pa (v := .agg #[.int .i64 q4.Layer, .int .i64 q4.X, .int .i64 q4.Y]) (ld_sub agg_61 rfl rfl rfl hS) <| p (v := .agg #[.int .i64 q6.fnet, .int .i64 q4.Layer, .int .i64 q4.X, .int .i64 q4.Y]) (yl_build bld_146 bldf_146 (parts_eq (pt (va := .int .i64 q6.fnet) rfl (pt (va := .agg #[.int .i64 q4.Layer, .int .i64 q4.X, .int .i64 q4.Y]) rfl pt0))) (by kernel_rfl)) <| ?_
      refine o_alloc zero_146 hS (fun b13 w' hS => ?_)
      refine o_storeAgg (news := [.int .i64 q6.fnet, .int .i64 q4.Layer, .int .i64 q4.X, .int .i64 q4.Y]) agg_146 rfl rfl rfl (by simp [over_length]) hS (fun w' hS => ?_)
      replace hFb5 := lv_s hFb5; obtain ⟨x61, hx61, hFb5⟩ := hFb5
      replace hFb5 := lv_s hFb5; obtain ⟨q61, hq61, hFb5⟩ := hFb5
      refine x_done <| x_seq <| x_region <| p (yl_move q15) <|
       pa (v := .agg #[.int .i64 q6.fnet, .int .i64 q4.Layer, .int .i64 q4.X, .int .i64 q4.Y]) (ld_sub agg_146 rfl rfl rfl hS) <| pa (at_look2 (k := (T_rules_key.mk q6.fnet (T_rules_Spot.mk q4.Layer q4.X q4.Y))) um_144 kp_146 (zero1 zv_3) rfl rfl (hS.pull 4) hx61 hq61) <| p (yl_move rfl) <| p (yl_extract rfl rfl) <|
       p (yl_extract rfl rfl) <| p (yl_assign rfl) <| p (yl_assign rfl) <| x_done <|
       x_seq <| x_seq <| x_region <| p (yl_move rfl) <|
       p (yl_not rfl) <| x_done <|
       x_cond (t := !q61) rfl (fun hc65 => ?_) (fun hc65 => ?_)
      ·replace hFb5 := it_t hc65 hFb5
       refine x_seq <| x_region <| p (yl_move q15) <| pa (v := .agg #[.int .i64 q6.fnet, .int .i64 q4.Layer, .int .i64 q4.X, .int .i64 q4.Y]) (ld_sub agg_146 rfl rfl rfl hS) <|
        p (yl_move q1j) <| ?_
       replace hFb5 := lv_s hFb5; obtain ⟨q4d, q3h, hFb5⟩ := hFb5
       refine o_mapset (k := (T_rules_key.mk q6.fnet (T_rules_Spot.mk q4.Layer q4.X q4.Y))) (vf := (Value.int .i64)) (v := q7) um_144 kp_146 rfl rfl rfl (hS.pull 4) q3h (fun w' hS => ?_)
       refine x_done <| x_exitTo _ rfl <| ?_
       exact x_inv ⟨q0c, q4d, q0o, (sinj hFb5), q1z, q20, q1i, q14, q15, q1j, q1p, q1q, q1r, q1s, q1t, q1u, q1b, q11, ((((((((hS.pull 1).drop.pull 1).drop.pull 5).pull 5).pull 5).pull 3).pull 5).pull 5)⟩
      ·replace hFb5 := it_bf hc65 hFb5
       replace hFb5 := bd_s hFb5; obtain ⟨q4r, q3i, hFb5⟩ := hFb5
       refine x_skip <| x_seq <| x_region <| p (yl_move q14) <|
        p (yl_move q1j) <| ?_
       have hcall := c_rules_groups_1 q3i q11 (((hS.pull 7).pull 7).pull 5)
       refine o_ccv rfl call_81 (capargs (args1 rfl)) hcall ?_
       rintro e w' ⟨q2q, rfl, q1l, hS⟩
       refine ⟨_, rfl, ?_⟩
       replace hFb5 := bd_s hFb5; obtain ⟨q4s, q3j, hFb5⟩ := hFb5
       refine p (yl_move q14) <| p (yl_move rfl) <| ?_
       have hcall := c_rules_groups_1 q3j q1l (((hS.pull 2).pull 2).pull 2)
       refine o_ccv rfl call_81 (capargs (args1 rfl)) hcall ?_
       rintro e w' ⟨q2r, rfl, q0r, hS⟩
       refine ⟨_, rfl, ?_⟩
       replace hFb5 := lv_s hFb5; obtain ⟨x78, hx78, hFb5⟩ := hFb5
       replace hFb5 := lv_s hFb5; obtain ⟨x81, hx81, hFb5⟩ := hFb5
       replace hFb5 := ck_s hFb5; obtain ⟨q2s, hFb5⟩ := hFb5
       refine p (yl_assign rfl) <| p (yl_assign rfl) <| x_done <| x_region <|
        pa (at_load one_22 q1i (hS.cell rfl)) <| p (yl_move rfl) <| p (yl_move rfl) <| p (ymax' rfl rfl hx78) <|
        p (yl_move rfl) <| p (yl_move rfl) <| p (ymin' rfl rfl hx81) <| p (yix_o sl_22 rfl rfl (hS.pull 1) q0r q2s) <| ?_
       replace hFb5 := lv_s hFb5; obtain ⟨q4e, q3k, hFb5⟩ := hFb5
       refine o_put' (news := [.int .i64 x81]) sz_3 rfl rfl rfl rfl (o := 0) rfl q2s rfl (hS.pull 1) q0r (Le.refl _) (fun c hc => ok_all hc (show (RpI .i64).ok ρ [.int .i64 x81] x81 from rfl)) q3k (fun q3l w' q3m hS => ?_)
       refine x_done <| x_blk <| ?_
       exact x_inv ⟨q3l, q0e, q4e, (sinj hFb5), q1z, q20, q1i, q14, q15, q1j, q1p, q1q, q1r, q1s, q1t, q1u, q1b, q3m, ((((((((hS.pull 3).drop.pull 3).drop.pull 2).pull 1).pull 5).pull 5).pull 4).pull 5)⟩
     rintro E w ⟨q0u, q10, q1k, rfl, q4f, q4g, q4h, q4i, q4j, q4k, q3n, q3o, q3p, q3q, q3r, q3s, q3t, q2t, hS⟩
     replace hFL13 := ar_s hFL13; obtain ⟨x83, hx83, hFL13⟩ := hFL13
     refine x_region <| p (yadd q3t rfl hx83) <| p (yl_move rfl) <| x_done <| ?_
     have e_ := sinj hFL13; subst e_
     exact x_inv ⟨kL13, Nat.lt_succ_self _, q0u, q10, x83, q1k, hLL13, q4f, q4g, q4h, q4i, q4j, q4k, q3n, q3o, q3p, q3q, q3r, q3s, rfl, q2t, ((((((hS.pull 5).pull 5).pull 5).pull 5).pull 5).pull 5)⟩
    ·replace hFL13 := it_f hc51 hFL13
     refine x_exitTo _ rfl <| ?_
     have e_ := sinj hFL13; subst e_
     exact x_inv ⟨q0c, q0e, q0o, hLL13, q1z, q20, q1i, q14, q15, q1q, q1r, q1s, q11, ((((((hS.pull 3).drop.pull 4).pull 4).pull 4).pull 4).pull 4)⟩
   rintro E w ⟨q0m, q0t, q1a, rfl, q3u, q3v, q3w, q3x, q3y, q36, q37, q38, q2h, hS⟩
   replace hFL10 := ar_s hFL10; obtain ⟨x84, hx84, hFL10⟩ := hFL10
   refine x_blk <| x_region <| p (yadd q38 rfl hx84) <| p (yl_move rfl) <|
    x_done <| ?_
   have e_ := sinj hFL10; subst e_
   exact x_inv ⟨kL10, Nat.lt_succ_self _, q0m, q0t, x84, q1a, hLL10, q3u, q3v, q3w, q3x, q3y, q36, q37, rfl, q2h, (((((hS.pull 4).pull 4).pull 4).pull 4).pull 4)⟩
  ·replace hFL10 := it_f hc42 hFL10
   refine x_exitTo _ rfl <| ?_
   have e_ := sinj hFL10; subst e_
   exact x_inv ⟨q0b, q0n, hLL10, q2c, q2e, q1n, (((((hS.pull 2).drop.pull 3).pull 3).pull 2).pull 3)⟩
 rintro E w ⟨q0k, q18, rfl, q2u, q3z, q2i, hS⟩
 refine x_seq <| x_region <| ?_
 refine o_mkmap (κ := Int) (α := Int) (Value.int .i64) (Value.int .i64) hS (fun b85 w' hS => ?_)
 refine p (yl_assign rfl) <| x_done <| x_seq <| x_region <|
  p (yl_move q2u) <| p (yl_len_slice usl_98 rfl) <| ?_
 replace hF := ck_s hF; obtain ⟨q40, hF⟩ := hF
 replace hF := lv_s hF; obtain ⟨q8, q41, hF⟩ := hF
 refine o_mk sl_22 zero_3 (show (RpI .i64).ok ρ _ 0 from rfl) rfl rfl q40 (by decide) q41 hS (fun A88 cs88 w' hr88 hS => ?_)
 refine p (yl_assign rfl) <| x_done <| x_seq <| x_seq <|
  x_region <| p (yl_move q2u) <| p (yl_len_slice usl_98 rfl) <| p (yl_move rfl) <|
  x_done <| ?_
 replace hF := bd_s hF; obtain ⟨oL26, hLL26, hF⟩ := hF
 refine x_join (fun E w => ∃ (q0g : List Value) (q1e : List Int), q1e = oL26 ∧ E 19 = .slice A88 q8.length q8.length ∧ RepL (RpI .i64) ρ q1e q0g ∧ St w0 w (vec 3 (RpI .i64).sz (.slice A88 q8.length q8.length) q8.length q0g :: cells q3 3 [.int .i64 q5] :: ro ρ :: l)) ?_ ?_
 ·refine x_block ?_
  refine x_loop (fun k_ E w => ∃ (q9 : List Value) (q0x : List Value) (q0a : List (Int × Int)) (q0v : List Int) (q0i : Int) (q1f : List Int), lp (P_rules_groups_3_L26 l_0) k_ (q0a, q0v, q0i, q1f) = some oL26 ∧ E 7 = .func (.func 81) #[] #[.pointer (some ⟨b5, 0, none⟩)] ∧ E 18 = .map (some b85) ∧ E 19 = .slice A88 q8.length q8.length ∧ E 90 = .int .i64 (l_0.length : Int) ∧ E 91 = .int .i64 q0i ∧ RepL (RpI .i64) ρ q0v q9 ∧ RepL (RpI .i64) ρ q1f q0x ∧ St w0 w (cells b5 22 [.slice A26 q2.length q2.length] :: mapA b85 (Value.int .i64) (Value.int .i64) q0a :: vec 3 (RpI .i64).sz (.slice A88 q8.length q8.length) q8.length q9 :: cells q3 3 [.int .i64 q5] :: vec 3 (RpI .i64).sz (.slice A26 q2.length q2.length) q2.length q0x :: ro ρ :: l)) fuel ⟨cs88, q0k, [], q8, 0, q18, hLL26, q3z, rfl, rfl, rfl, rfl, hr88, q2i, ((((((hS.pull 5).pull 5).pull 5).pull 3).pull 4).pull 5)⟩ ?_
  rintro kL26 E w ⟨q9, q0x, q0a, q0v, q0i, q1f, hLL26, q21, q0y, q1v, q1w, q1c, q0z, q29, hS⟩
  replace hLL26 := lp_s hLL26; obtain ⟨kL26, obL26, rfl, hFL26, hLL26⟩ := hLL26
  refine x_seq <| x_region <| p (yl_lss q1c q1w) <| x_done <|
   x_seq <|
   x_cond_p (q0i < (l_0.length : Int)) rfl (fun hc92 => ?_) (fun hc92 => ?_)
  ·replace hFL26 := it_t hc92 hFL26
   replace hFL26 := bd_s hFL26; obtain ⟨q1x, q42, hFL26⟩ := hFL26
   refine x_skip <| x_seq <| x_block <| x_seq <|
    x_region <| p (yl_move q1c) <| p (yl_assign rfl) <| x_done <|
    x_seq <| x_region <| p (yl_move q21) <| p (yl_move rfl) <| ?_
   have hcall := c_rules_groups_1 q42 q29 (((hS.pull 5).pull 5).pull 2)
   refine o_ccv rfl call_81 (capargs (args1 rfl)) hcall ?_
   rintro e w' ⟨q0p, rfl, q1m, hS⟩
   refine ⟨_, rfl, ?_⟩
   replace hFL26 := lv_s hFL26; obtain ⟨x100, hx100, hFL26⟩ := hFL26
   replace hFL26 := lv_s hFL26; obtain ⟨q100, hq100, hFL26⟩ := hFL26
   refine p (yl_assign rfl) <| x_done <| x_seq <| x_seq <|
    x_region <| p (yl_move q0y) <| p (yl_move rfl) <| pa (at_look2 (k := q1x.1) um_131 (KeyP.int ui_3) (zero1 zv_3) rfl rfl (hS.pull 3) hx100 hq100) <|
    p (yl_move rfl) <| p (yl_extract rfl rfl) <| p (yl_extract rfl rfl) <| p (yl_assign rfl) <|
    p (yl_assign rfl) <| x_done <| x_seq <| x_region <|
    p (yl_move rfl) <| p (yl_not rfl) <| x_done <| ?_
   replace hFL26 := bd_s hFL26; obtain ⟨oc104, hFc104, hFL26⟩ := hFL26
   refine x_join (fun E w => ∃ (q0f : List (Int × Int)), q0f = oc104 ∧ E 7 = .func (.func 81) #[] #[.pointer (some ⟨b5, 0, none⟩)] ∧ E 18 = .map (some b85) ∧ E 19 = .slice A88 q8.length q8.length ∧ E 20 = .int .i64 q0i ∧ E 21 = .int .i64 q1x.1 ∧ E 90 = .int .i64 (l_0.length : Int) ∧ E 91 = .int .i64 q0i ∧ St w0 w (cells b5 22 [.slice A26 q2.length q2.length] :: mapA b85 (Value.int .i64) (Value.int .i64) q0f :: vec 3 (RpI .i64).sz (.slice A88 q8.length q8.length) q8.length q9 :: cells q3 3 [.int .i64 q5] :: vec 3 (RpI .i64).sz (.slice A26 q2.length q2.length) q2.length q0p :: ro ρ :: l)) ?_ ?_
   ·refine x_cond (t := !q100) rfl (fun hc104 => ?_) (fun hc104 => ?_)
    ·replace hFc104 := it_t hc104 hFc104
     refine x_region <| p (yl_move q0y) <| p (yl_move rfl) <| p (yl_move q0y) <|
      pa (at_lenm um_131 rfl (hS.pull 3)) <| ?_
     replace hFc104 := lv_s hFc104; obtain ⟨q4l, q43, hFc104⟩ := hFc104
     refine o_mapset (k := q1x.1) (vf := (Value.int .i64)) (v := (q0a.length : Int)) um_131 (KeyP.int ui_3) rfl rfl rfl (hS.pull 3) q43 (fun w' hS => ?_)
     refine x_done <| ?_
     exact x_inv ⟨q4l, (sinj hFc104), q21, q0y, q1v, rfl, rfl, q1w, q1c, ((((((hS.pull 3).pull 3).pull 5).pull 5).pull 4).pull 5)⟩
    ·replace hFc104 := it_bf hc104 hFc104
     refine x_skip <| ?_
     exact x_inv ⟨q0a, (sinj hFc104), q21, q0y, q1v, rfl, rfl, q1w, q1c, ((((((hS.pull 2).pull 2).pull 5).pull 5).pull 5).pull 5)⟩
   rintro E w ⟨q0f, rfl, q39, q27, q28, q2w, q2x, q2y, q2z, hS⟩
   replace hFL26 := lv_s hFL26; obtain ⟨x113, hx113, hFL26⟩ := hFL26
   replace hFL26 := ck_s hFL26; obtain ⟨q2v, hFL26⟩ := hFL26
   refine x_region <| p (yl_move q28) <| p (yl_move q2w) <| p (yl_move q27) <|
    p (yl_move q2x) <| pa (at_look (k := q1x.1) um_131 (KeyP.int ui_3) (zero1 zv_3) rfl rfl (hS.pull 1) hx113) <| p (yix_o sl_22 rfl rfl (hS.pull 2) q0z q2v) <| ?_
   replace hFL26 := lv_s hFL26; obtain ⟨q4m, q44, hFL26⟩ := hFL26
   refine o_put' (news := [.int .i64 x113]) sz_3 rfl rfl rfl rfl (o := 0) rfl q2v rfl (hS.pull 2) q0z (Le.refl _) (fun c hc => ok_all hc (show (RpI .i64).ok ρ [.int .i64 x113] x113 from rfl)) q44 (fun q45 w' q46 hS => ?_)
   replace hFL26 := ar_s hFL26; obtain ⟨x115, hx115, hFL26⟩ := hFL26
   refine x_done <| x_blk <| x_region <| p (yadd q2z rfl hx115) <|
    p (yl_move rfl) <| x_done <| ?_
   have e_ := sinj hFL26; subst e_
   exact x_inv ⟨kL26, Nat.lt_succ_self _, q45, q0p, q0f, q4m, x115, q1x.2, hLL26, q39, q27, q28, q2y, rfl, q46, q1m, ((((((hS.pull 5).pull 5).pull 5).pull 3).pull 5).pull 5)⟩
  ·replace hFL26 := it_f hc92 hFL26
   refine x_exitTo _ rfl <| ?_
   have e_ := sinj hFL26; subst e_
   exact x_inv ⟨q9, q0v, hLL26, q1v, q0z, ((((hS.drop.drop.pull 2).drop.pull 2).pull 2).pull 2)⟩
 rintro E w ⟨q0g, q1e, rfl, q3a, q2a, hS⟩
 refine x_seq <| x_region <| p (yl_move q3a) <| p (yl_assign rfl) <|
  x_done <| ?_
 have e_ := sinj hF; subst e_
 exact x_return ⟨_, ⟨_, _, rfl, rfl, rfl⟩, A88, q8.length, q8.length, q0g, rfl, q2a, (((hS.pull 2).pull 2).pull 2)⟩
attribute [irreducible] P_rules_groups_3

def P_rules_antenna_L16 (x48 : Int) (q4 : List T_rules_Spot) : (List (Int × List (T_rules_Spot × Bool)) × Int) → Option ((List (Int × List (T_rules_Spot × Bool)) × Int) ⊕ List (Int × List (T_rules_Spot × Bool))) := fun (q2, q3) =>
 if q3 < (q4.length : Int) then
  ck (inb q3 q4.length) <|
  lv (gt q4 q3) fun q5 =>
  ck (mhas x48 q2 = true) <|
  lv (mput x48 (mput q5 true (mget x48 q2 [])) q2) fun q6 =>
  ar (q3 + 1) fun x71 =>
  some (Sum.inl (q6, x71))
 else
  some (Sum.inr q2)
def P_rules_antenna_L9 (l_1 : T_rules_Layout) (s2 : List T_rules_shape) (q0l : List Int) (q0k : Int) : (List (Int × List (T_rules_Spot × Bool)) × List (Int × Int) × List (Int × Bool) × List (Int × T_rules_Spot) × Int) → Option ((List (Int × List (T_rules_Spot × Bool)) × List (Int × Int) × List (Int × Bool) × List (Int × T_rules_Spot) × Int) ⊕ (List (Int × List (T_rules_Spot × Bool)) × List (Int × Int) × List (Int × Bool) × List (Int × T_rules_Spot))) := fun (q4, q5, q6, q2, q7) =>
 if q7 < (s2.length : Int) then
  ck (inb q7 s2.length) <|
  lv (gt s2 q7) fun q3 =>
  ck (inb q7 q0l.length) <|
  lv (gt q0l q7) fun x48 =>
  bd (
   if q3.fwire = true then
    lv (!mhas x48 q4) fun x55 =>
    bd (
     if x55 = true then
      ck (mhas x48 q4 = false) <|
      lv (mput x48 [] q4) fun q0n =>
      some q0n
     else
      some q4) fun q0e =>
    bd (P_rules_antenna_1 q3 q0k) fun q0o =>
    bd (
     lp (P_rules_antenna_L16 x48 q0o) fuel (q0e, 0)) fun q0f =>
    some (q0f, q5, q6, q2)
   else
    ck ((decide (0 ≤ q3.fpin)) = true → inb q3.fpin l_1.Pins.length) <|
    lv ((decide (0 ≤ q3.fpin)) && ((gt l_1.Pins q3.fpin).Drive)) fun x84 =>
    bd (
     if x84 = true then
      lv (mput x48 true q6) fun q0p =>
      some (q5, q0p, q2)
     else
      ck ((decide (0 ≤ q3.fpin)) = true → inb q3.fpin l_1.Pins.length) <|
      lv ((decide (0 ≤ q3.fpin)) && (decide (0 < ((gt l_1.Pins q3.fpin).Size)))) fun x100 =>
      bd (
       if x100 = true then
        lv (mget x48 q2 (T_rules_Spot.mk 0 0 0)) fun x104 =>
        lv (mhas x48 q2) fun q104 =>
        ck ((!(!q104)) = true → inb 0 q3.fspots.length) <|
        lv (gt q3.fspots (0 : Int)) fun q0q =>
        bd (gd (!(!q104)) (P_rules_Spot_before q0q x104)) fun q0r =>
        lv ((!q104) || q0r) fun x116 =>
        bd (
         if x116 = true then
          ck (inb 0 q3.fspots.length) <|
          lv (gt q3.fspots (0 : Int)) fun q0s =>
          lv (mput x48 q0s q2) fun q0t =>
          some q0t
         else
          some q2) fun q0a =>
        lv (mget x48 q5 0) fun x125 =>
        ck (inb q3.fpin l_1.Pins.length) <|
        lv (gt l_1.Pins q3.fpin) fun q0u =>
        ar (x125 + q0u.Size) fun x133 =>
        lv (mput x48 x133 q5) fun q0m =>
        some (q0m, q0a)
       else
        some (q5, q2)) fun (q0g, q0b) =>
      some (q0g, q6, q0b)) fun (q0h, q8, q0c) =>
    some (q4, q0h, q8, q0c)) fun (q0i, q0j, q9, q0d) =>
  ar (q7 + 1) fun x134 =>
  some (Sum.inl (q0i, q0j, q9, q0d, x134))
 else
  some (Sum.inr (q4, q5, q6, q2))
def P_rules_antenna_L29 (s2 : List T_rules_shape) (q0d : List Int) (q0a : List (Int × List (T_rules_Spot × Bool))) (q0b : List (Int × Int)) (q6 : List (Int × Bool)) (q5 : List (Int × T_rules_Spot)) (q0c : Int) : (Int × List (T_rules_Fault × Bool) × Bool) → Option ((Int × List (T_rules_Fault × Bool) × Bool) ⊕ (List (T_rules_Fault × Bool) × Bool)) := fun (q2, q3, q4) =>
 if q2 < (s2.length : Int) then
  ck (inb q2 s2.length) <|
  lv (gt s2 q2) fun q0e =>
  ck (inb q2 q0d.length) <|
  lv (gt q0d q2) fun x145 =>
  lv (mget x145 q5 (T_rules_Spot.mk 0 0 0)) fun x149 =>
  lv (mhas x145 q5) fun q149 =>
  lv (mget x145 q6 false) fun x156 =>
  lv (q149 && (!x156)) fun x158 =>
  lv ((mget x145 q0a []).length) fun x163 =>
  lv (mget x145 q0b 0) fun x166 =>
  ck (x158 = true → I64 ((64 : Int) * x166)) <|
  lv ((64 : Int) * x166) fun x167 =>
  lv (x158 && (decide (x167 < (x163 : Int)))) fun x169 =>
  bd (
   if x169 = true then
    bd (P_rules_bag_add q3 q4 (T_rules_Fault.mk 7 q0e.fnet 0 (T_rules_Spot.mk q0c x149.X x149.Y))) fun q9 =>
    some (q9.1, q9.2)
   else
    some (q3, q4)) fun (q7, q8) =>
  ar (q2 + 1) fun x181 =>
  some (Sum.inl (x181, q7, q8))
 else
  some (Sum.inr (q3, q4))
def P_rules_antenna_L2 (l_1 : T_rules_Layout) (s2 : List T_rules_shape) : (Int × List (T_rules_Fault × Bool) × Bool) → Option ((Int × List (T_rules_Fault × Bool) × Bool) ⊕ (List (T_rules_Fault × Bool) × Bool)) := fun (q2, q3, q4) =>
 if q2 < l_1.Layers then
  bd (P_rules_groups_3 s2 q2) fun q0b =>
  bd (
   lp (P_rules_antenna_L9 l_1 s2 q0b q2) fuel ([], [], [], [], 0)) fun (q9, q0a, q5, q8) =>
  bd (
   lp (P_rules_antenna_L29 s2 q0b q9 q0a q5 q8 q2) fuel (0, q3, q4)) fun (q6, q7) =>
  ar (q2 + 1) fun x182 =>
  some (Sum.inl (x182, q6, q7))
 else
  some (Sum.inr (q3, q4))
def P_rules_antenna (q4 : List (T_rules_Fault × Bool)) (q5 : Bool) (l_1 : T_rules_Layout) (s2 : List T_rules_shape) : Option (List (T_rules_Fault × Bool) × Bool) :=
 bd (
  lp (P_rules_antenna_L2 l_1 s2) fuel (0, q4, q5)) fun (q2, q3) =>
 some (q2, q3)
theorem c_rules_antenna {w0 w : World} {l : List Assn} {ρ : Heap} {q0c : Nat} {q5 : Nat} {q0f : Option Addr} {q32 : Nat} {c_l_1_4 : Nat} {q0g : Option Addr} {q33 : Nat} {c_l_1_5 : Nat} {q6 : Option Addr} {q34 : Nat} {c_l_1_6 : Nat} {q0h : Option Addr} {q35 : Nat} {c_l_1_7 : Nat} {q0j : Option Addr} {q6c : Nat} {c_s2 : Nat} {q43 : List (T_rules_Fault × Bool)} {q44 : Bool} {l_1 : T_rules_Layout} {s2 : List T_rules_shape} {r : (List (T_rules_Fault × Bool) × Bool)} (hF : P_rules_antenna q43 q44 l_1 s2 = some r) (q4l : RdS R_rules_Wire ρ q0f q32 c_l_1_4 l_1.Wires) (q4m : RdS R_rules_Via ρ q0g q33 c_l_1_5 l_1.Vias) (q13 : RdS R_rules_Pin ρ q6 q34 c_l_1_6 l_1.Pins) (q4n : RdS R_floor_Wall ρ q0h q35 c_l_1_7 l_1.Walls) (q2f : RdS R_rules_shape ρ q0j q6c c_s2 s2) (hS : St w0 w (cells q0c 103 [.map (some q5), .bool q44] :: mapA q5 kf_63 Value.bool q43 :: ro ρ :: l)) :
  Calls Try.prog 51 #[.pointer (some ⟨q0c, 0, none⟩), .agg #[.int .i64 l_1.W, .int .i64 l_1.H, .int .i64 l_1.Layers, .int .i64 l_1.Nets, .slice q0f q32 c_l_1_4, .slice q0g q33 c_l_1_5, .slice q6 q34 c_l_1_6, .slice q0h q35 c_l_1_7], .slice q0j q6c c_s2] w fun e w' => e = .returned (.tuple #[]) ∧ St w0 w' (cells q0c 103 [.map (some q5), .bool r.2] :: mapA q5 kf_63 Value.bool r.1 :: ro ρ :: l) := by
 have e_ := q4l.n; subst e_
 have e_ := q4m.n; subst e_
 have e_ := q13.n; subst e_
 have e_ := q4n.n; subst e_
 have e_ := q2f.n; subst e_
 refine enterC Try.func51 rfl 183 rfl (by simp) ?_
 refine x_seq <| x_region <| ?_
 refine o_box (cs := [.int .i64 l_1.W, .int .i64 l_1.H, .int .i64 l_1.Layers, .int .i64 l_1.Nets, .slice q0f l_1.Wires.length c_l_1_4, .slice q0g l_1.Vias.length c_l_1_5, .slice q6 l_1.Pins.length c_l_1_6, .slice q0h l_1.Walls.length c_l_1_7]) rfl rfl hS (fun b4 w' hS => ?_)
 refine x_done <| x_seq <| x_region <| p (yl_field0 fld_31_2 rfl) <|
  pa (at_load one_3 rfl (hS.cell rfl)) <| p (yl_move rfl) <| x_done <| ?_
 replace hF := bd_s hF; obtain ⟨oL2, hLL2, hF⟩ := hF
 refine x_join (fun E w => ∃ (q24 : List (T_rules_Fault × Bool)) (q25 : Bool), (q24, q25) = oL2 ∧ St w0 w (cells q0c 103 [.map (some q5), .bool q25] :: mapA q5 kf_63 Value.bool q24 :: ro ρ :: l)) ?_ ?_
 ·refine x_block ?_
  refine x_loop (fun k_ E w => ∃ (q3 : Int) (q8 : List (T_rules_Fault × Bool)) (q9 : Bool), lp (P_rules_antenna_L2 l_1 s2) k_ (q3, q8, q9) = some oL2 ∧ E 0 = .pointer (some ⟨q0c, 0, none⟩) ∧ E 2 = .slice q0j s2.length c_s2 ∧ E 4 = .pointer (some ⟨b4, 0, none⟩) ∧ E 26 = .int .i64 l_1.Layers ∧ E 27 = .int .i64 q3 ∧ St w0 w (cells q0c 103 [.map (some q5), .bool q9] :: cells b4 31 [.int .i64 l_1.W, .int .i64 l_1.H, .int .i64 l_1.Layers, .int .i64 l_1.Nets, .slice q0f l_1.Wires.length c_l_1_4, .slice q0g l_1.Vias.length c_l_1_5, .slice q6 l_1.Pins.length c_l_1_6, .slice q0h l_1.Walls.length c_l_1_7] :: mapA q5 kf_63 Value.bool q8 :: ro ρ :: l)) fuel ⟨0, q43, q44, hLL2, rfl, rfl, rfl, rfl, rfl, ((((hS.pull 3).pull 3).pull 2).pull 3)⟩ ?_
  rintro kL2 E w ⟨q3, q8, q9, hLL2, q6d, q2q, q6e, q36, q2g, hS⟩
  replace hLL2 := lp_s hLL2; obtain ⟨kL2, obL2, rfl, hFL2, hLL2⟩ := hLL2
  refine x_seq <| x_region <| p (yl_lss q2g q36) <| x_done <|
   x_seq <|
   x_cond_p (q3 < l_1.Layers) rfl (fun hc28 => ?_) (fun hc28 => ?_)
  ·replace hFL2 := it_t hc28 hFL2
   refine x_skip <| x_seq <| x_block <| x_seq <|
    x_region <| p (yl_move q2g) <| ?_
   refine o_alloc zero_3 hS (fun b6 w' hS => ?_)
   refine o_store1 (v := .int .i64 q3) one_3 rfl rfl rfl rfl hS (fun w' hS => ?_)
   refine x_done <| x_seq <| x_region <| p (v := .func (.func 72) #[] #[.pointer (some ⟨b6, 0, none⟩)]) (yl_makeFunc (by simp only [List.map_toArray, List.map_nil]) (by simp only [List.map_toArray, List.map_cons, List.map_nil]; rfl)) <|
    p (v := .func (.func 72) #[] #[.pointer (some ⟨b6, 0, none⟩)]) (yl_assign rfl) <| x_done <| x_seq <| x_region <| ?_
   refine o_mkmapM (Value.int .i64) kf_61 Value.bool hS (fun b31 w' hS => ?_)
   refine p (yl_assign rfl) <| x_done <| x_seq <| x_region <| ?_
   refine o_mkmap (κ := Int) (α := Int) (Value.int .i64) (Value.int .i64) hS (fun b32 w' hS => ?_)
   refine o_mkmap (κ := Int) (α := Bool) (Value.int .i64) Value.bool hS (fun b33 w' hS => ?_)
   refine o_mkmap (κ := Int) (α := T_rules_Spot) (Value.int .i64) kf_61 hS (fun b34 w' hS => ?_)
   replace hFL2 := bd_s hFL2; obtain ⟨q0a, q88, hFL2⟩ := hFL2
   refine p (yl_assign rfl) <| p (yl_assign rfl) <| p (yl_assign rfl) <| x_done <|
    x_seq <| x_region <| p (yl_move q2q) <| p (v := .func (.func 72) #[] #[.pointer (some ⟨b6, 0, none⟩)]) (yl_move rfl) <| ?_
   have hcall := c_rules_groups_3 q88 q2f ((hS.pull 8).pull 5)
   refine o_cc call_68 (args2 rfl rfl) hcall ?_
   rintro e w' ⟨q2, q6f, c_y0_ret_7_2, q7, rfl, q0o, hS⟩
   refine ⟨_, rfl, ?_⟩
   have e_ := St.vec_n hS q0o; subst e_
   refine p (yl_assign rfl) <| x_done <| x_seq <| x_seq <|
    x_region <| p (yl_move q2q) <| p (yl_len_slice usl_98 rfl) <| p (yl_move rfl) <|
    x_done <| ?_
   replace hFL2 := bd_s hFL2; obtain ⟨oL9, hLL9, hFL2⟩ := hFL2
   refine x_join (fun E w => ∃ (q0r : List Nat) (q0u : List (Int × List (T_rules_Spot × Bool))) (q14 : List (Int × Int)) (q0n : List (Int × Bool)) (q0v : List (Int × T_rules_Spot)), (q0u, q14, q0n, q0v) = oL9 ∧ E 0 = .pointer (some ⟨q0c, 0, none⟩) ∧ E 2 = .slice q0j s2.length c_s2 ∧ E 4 = .pointer (some ⟨b4, 0, none⟩) ∧ E 6 = .pointer (some ⟨b6, 0, none⟩) ∧ E 8 = .map (some b31) ∧ E 9 = .map (some b32) ∧ E 10 = .map (some b33) ∧ E 11 = .map (some b34) ∧ E 12 = .slice q2 q0a.length c_y0_ret_7_2 ∧ E 26 = .int .i64 l_1.Layers ∧ E 27 = .int .i64 q3 ∧ St w0 w (cells q0c 103 [.map (some q5), .bool q9] :: cells b4 31 [.int .i64 l_1.W, .int .i64 l_1.H, .int .i64 l_1.Layers, .int .i64 l_1.Nets, .slice q0f l_1.Wires.length c_l_1_4, .slice q0g l_1.Vias.length c_l_1_5, .slice q6 l_1.Pins.length c_l_1_6, .slice q0h l_1.Walls.length c_l_1_7] :: cells b6 3 [.int .i64 q3] :: mapM b31 (Value.int .i64) kf_61 Value.bool q0u q0r :: mapA b32 (Value.int .i64) (Value.int .i64) q14 :: mapA b33 (Value.int .i64) Value.bool q0n :: mapA b34 (Value.int .i64) kf_61 q0v :: vec 3 (RpI .i64).sz (.slice q2 q0a.length c_y0_ret_7_2) q0a.length q7 :: mapA q5 kf_63 Value.bool q8 :: ro ρ :: l)) ?_ ?_
   ·refine x_block ?_
    refine x_loop (fun k_ E w => ∃ (q0d : List Nat) (q0k : List (Int × List (T_rules_Spot × Bool))) (q0i : List (Int × Int)) (q0b : List (Int × Bool)) (q0e : List (Int × T_rules_Spot)) (q0l : Int), lp (P_rules_antenna_L9 l_1 s2 q0a q3) k_ (q0k, q0i, q0b, q0e, q0l) = some oL9 ∧ E 0 = .pointer (some ⟨q0c, 0, none⟩) ∧ E 2 = .slice q0j s2.length c_s2 ∧ E 4 = .pointer (some ⟨b4, 0, none⟩) ∧ E 6 = .pointer (some ⟨b6, 0, none⟩) ∧ E 7 = .func (.func 72) #[] #[.pointer (some ⟨b6, 0, none⟩)] ∧ E 8 = .map (some b31) ∧ E 9 = .map (some b32) ∧ E 10 = .map (some b33) ∧ E 11 = .map (some b34) ∧ E 12 = .slice q2 q0a.length c_y0_ret_7_2 ∧ E 26 = .int .i64 l_1.Layers ∧ E 27 = .int .i64 q3 ∧ E 38 = .slice q0j s2.length c_s2 ∧ E 39 = .int .i64 (s2.length : Int) ∧ E 40 = .int .i64 q0l ∧ St w0 w (cells q0c 103 [.map (some q5), .bool q9] :: cells b4 31 [.int .i64 l_1.W, .int .i64 l_1.H, .int .i64 l_1.Layers, .int .i64 l_1.Nets, .slice q0f l_1.Wires.length c_l_1_4, .slice q0g l_1.Vias.length c_l_1_5, .slice q6 l_1.Pins.length c_l_1_6, .slice q0h l_1.Walls.length c_l_1_7] :: cells b6 3 [.int .i64 q3] :: mapM b31 (Value.int .i64) kf_61 Value.bool q0k q0d :: mapA b32 (Value.int .i64) (Value.int .i64) q0i :: mapA b33 (Value.int .i64) Value.bool q0b :: mapA b34 (Value.int .i64) kf_61 q0e :: vec 3 (RpI .i64).sz (.slice q2 q0a.length c_y0_ret_7_2) q0a.length q7 :: mapA q5 kf_63 Value.bool q8 :: ro ρ :: l)) fuel ⟨[], [], [], [], [], 0, hLL9, q6d, q2q, q6e, rfl, rfl, rfl, rfl, rfl, rfl, rfl, q36, q2g, rfl, rfl, rfl, ((((((((((hS.pull 2).pull 9).pull 2).pull 4).pull 5).pull 6).pull 7).pull 7).pull 9).pull 9)⟩ ?_
    rintro kL9 E w ⟨q0d, q0k, q0i, q0b, q0e, q0l, hLL9, q1p, q1q, q0y, q1r, q22, q0z, q1s, q0w, q0p, q0x, q15, q16, q17, q18, q0q, hS⟩
    replace hLL9 := lp_s hLL9; obtain ⟨kL9, obL9, rfl, hFL9, hLL9⟩ := hLL9
    refine x_seq <| x_region <| p (yl_lss q0q q18) <| x_done <|
     x_seq <|
     x_cond_p (q0l < (s2.length : Int)) rfl (fun hc41 => ?_) (fun hc41 => ?_)
    ·replace hFL9 := it_t hc41 hFL9
     replace hFL9 := ck_s hFL9; obtain ⟨q3i, hFL9⟩ := hFL9
     replace hFL9 := lv_s hFL9; obtain ⟨q4, q6g, hFL9⟩ := hFL9
     have q_ := q2f.get q3i; obtain ⟨q8l, q3j, q6h⟩ := q_
     rw [← q6g] at q3j
     obtain ⟨q19, q8j, q1n, rfl, q1o⟩ := q3j
     have e_ := q1o.n; subst e_
     refine x_skip <| x_seq <| x_block <| x_seq <|
      x_region <| p (yl_move q0q) <| p (yix_f sl_98 q17 q0q q2f q3i) <| pa (v := .agg #[.int .i64 q4.fnet, .slice q19 q4.fspots.length q1n, .bool q4.fwire, .int .i64 q4.fpin]) (at_loadAgg agg_122 rfl rfl (Elt.every q6h (hS.pull 9))) <| ?_
     refine o_alloc zero_122 hS (fun b14 w' hS => ?_)
     refine p (yl_assign rfl) <| ?_
     refine o_storeAgg (news := [.int .i64 q4.fnet, .slice q19 q4.fspots.length q1n, .bool q4.fwire, .int .i64 q4.fpin]) agg_122 rfl rfl rfl (by simp [over_length]) hS (fun w' hS => ?_)
     replace hFL9 := ck_s hFL9; obtain ⟨q3k, hFL9⟩ := hFL9
     replace hFL9 := lv_s hFL9; obtain ⟨x48, hx48, hFL9⟩ := hFL9
     refine x_done <| x_seq <| x_region <| p (yl_move q0x) <|
      p (yl_move rfl) <| p (yix_o sl_22 rfl rfl (hS.pull 8) q0o q3k) <| pa (at_load one_3 rfl (RepL.getW q0o (hS.pull 8) q3k hx48)) <| p (yl_assign rfl) <|
      x_done <| x_block <| x_seq <| x_region <|
      p (yl_field0 fld_122_2 rfl) <| pa (at_load one_4 rfl (hS.cell rfl)) <| p (yl_assign rfl) <| x_done <| ?_
     replace hFL9 := bd_s hFL9; obtain ⟨oc49, hFc49, hFL9⟩ := hFL9
     refine x_join (fun E w => ∃ (q1t : List Nat) (q1w : List (Int × List (T_rules_Spot × Bool))) (q1x : List (Int × Int)) (q10 : List (Int × Bool)) (q1i : List (Int × T_rules_Spot)), (q1w, q1x, q10, q1i) = oc49 ∧ E 0 = .pointer (some ⟨q0c, 0, none⟩) ∧ E 2 = .slice q0j s2.length c_s2 ∧ E 4 = .pointer (some ⟨b4, 0, none⟩) ∧ E 6 = .pointer (some ⟨b6, 0, none⟩) ∧ E 7 = .func (.func 72) #[] #[.pointer (some ⟨b6, 0, none⟩)] ∧ E 8 = .map (some b31) ∧ E 9 = .map (some b32) ∧ E 10 = .map (some b33) ∧ E 11 = .map (some b34) ∧ E 12 = .slice q2 q0a.length c_y0_ret_7_2 ∧ E 26 = .int .i64 l_1.Layers ∧ E 27 = .int .i64 q3 ∧ E 38 = .slice q0j s2.length c_s2 ∧ E 39 = .int .i64 (s2.length : Int) ∧ E 40 = .int .i64 q0l ∧ St w0 w (cells q0c 103 [.map (some q5), .bool q9] :: cells b4 31 [.int .i64 l_1.W, .int .i64 l_1.H, .int .i64 l_1.Layers, .int .i64 l_1.Nets, .slice q0f l_1.Wires.length c_l_1_4, .slice q0g l_1.Vias.length c_l_1_5, .slice q6 l_1.Pins.length c_l_1_6, .slice q0h l_1.Walls.length c_l_1_7] :: cells b6 3 [.int .i64 q3] :: mapM b31 (Value.int .i64) kf_61 Value.bool q1w q1t :: mapA b32 (Value.int .i64) (Value.int .i64) q1x :: mapA b33 (Value.int .i64) Value.bool q10 :: mapA b34 (Value.int .i64) kf_61 q1i :: vec 3 (RpI .i64).sz (.slice q2 q0a.length c_y0_ret_7_2) q0a.length q7 :: mapA q5 kf_63 Value.bool q8 :: ro ρ :: l)) ?_ ?_
     ·refine x_cond (t := q4.fwire) rfl (fun hc49 => ?_) (fun hc49 => ?_)
      ·replace hFc49 := it_t hc49 hFc49
       replace hFc49 := lv_s hFc49; obtain ⟨x55, hx55, hFc49⟩ := hFc49
       refine x_seq <| x_seq <| x_region <| p (yl_move q0z) <|
        p (yl_move rfl) <| pa (v := .map (mb x48 q0k q0d)) (at_lookM um_130 (KeyP.int ui_3) (zero1 zv_84) rfl rfl (hS.pull 4)) <| pa (at_nilM um_84 rfl rfl (hS.pull 4) hx55) <| x_done <| ?_
       replace hFc49 := bd_s hFc49; obtain ⟨oc55, hFc55, hFc49⟩ := hFc49
       refine x_join (fun E w => ∃ (q1u : List Nat) (q1y : List (Int × List (T_rules_Spot × Bool))), q1y = oc55 ∧ E 0 = .pointer (some ⟨q0c, 0, none⟩) ∧ E 2 = .slice q0j s2.length c_s2 ∧ E 4 = .pointer (some ⟨b4, 0, none⟩) ∧ E 6 = .pointer (some ⟨b6, 0, none⟩) ∧ E 7 = .func (.func 72) #[] #[.pointer (some ⟨b6, 0, none⟩)] ∧ E 8 = .map (some b31) ∧ E 9 = .map (some b32) ∧ E 10 = .map (some b33) ∧ E 11 = .map (some b34) ∧ E 12 = .slice q2 q0a.length c_y0_ret_7_2 ∧ E 14 = .pointer (some ⟨b14, 0, none⟩) ∧ E 15 = .int .i64 x48 ∧ E 26 = .int .i64 l_1.Layers ∧ E 27 = .int .i64 q3 ∧ E 38 = .slice q0j s2.length c_s2 ∧ E 39 = .int .i64 (s2.length : Int) ∧ E 40 = .int .i64 q0l ∧ St w0 w (cells q0c 103 [.map (some q5), .bool q9] :: cells b4 31 [.int .i64 l_1.W, .int .i64 l_1.H, .int .i64 l_1.Layers, .int .i64 l_1.Nets, .slice q0f l_1.Wires.length c_l_1_4, .slice q0g l_1.Vias.length c_l_1_5, .slice q6 l_1.Pins.length c_l_1_6, .slice q0h l_1.Walls.length c_l_1_7] :: cells b6 3 [.int .i64 q3] :: mapM b31 (Value.int .i64) kf_61 Value.bool q1y q1u :: mapA b32 (Value.int .i64) (Value.int .i64) q0i :: mapA b33 (Value.int .i64) Value.bool q0b :: mapA b34 (Value.int .i64) kf_61 q0e :: vec 3 (RpI .i64).sz (.slice q2 q0a.length c_y0_ret_7_2) q0a.length q7 :: cells b14 122 [.int .i64 q4.fnet, .slice q19 q4.fspots.length q1n, .bool q4.fwire, .int .i64 q4.fpin] :: mapA q5 kf_63 Value.bool q8 :: ro ρ :: l)) ?_ ?_
       ·refine x_cond (t := x55) rfl (fun hc55 => ?_) (fun hc55 => ?_)
        ·replace hFc55 := it_t hc55 hFc55
         refine x_region <| p (yl_move q0z) <| p (yl_move rfl) <| ?_
         refine o_mkmap (κ := T_rules_Spot) (α := Bool) kf_61 Value.bool hS (fun b58 w' hS => ?_)
         replace hFc55 := ck_s hFc55; obtain ⟨q6i, hFc55⟩ := hFc55
         replace hFc55 := lv_s hFc55; obtain ⟨q89, q6j, hFc55⟩ := hFc55
         refine o_mapsetM (k := x48) um_130 (KeyP.int ui_3) rfl rfl rfl q6i ((hS.pull 5).pull 1) q6j (fun q6k w' hS => ?_)
         refine x_done <| ?_
         exact x_inv ⟨q6k, q89, (sinj hFc55), q1p, q1q, q0y, q1r, q22, q0z, q1s, q0w, q0p, q0x, rfl, rfl, q15, q16, q17, q18, q0q, (((((((((((hS.pull 10).pull 10).pull 3).pull 10).pull 10).pull 10).pull 10).pull 7).pull 10).pull 10).pull 10)⟩
        ·replace hFc55 := it_bf hc55 hFc55
         refine x_skip <| ?_
         exact x_inv ⟨q0d, q0k, (sinj hFc55), q1p, q1q, q0y, q1r, q22, q0z, q1s, q0w, q0p, q0x, rfl, rfl, q15, q16, q17, q18, q0q, (((((((((((hS.pull 10).pull 10).pull 2).pull 10).pull 10).pull 10).pull 10).pull 10).pull 10).pull 10).pull 10)⟩
       rintro E w ⟨q1u, q1y, rfl, q6l, q6m, q6n, q6o, q3l, q6p, q6q, q4o, q4p, q4q, q4r, q4s, q4t, q4u, q4v, q4w, q4x, hS⟩
       replace hFc49 := bd_s hFc49; obtain ⟨q2o, q6r, hFc49⟩ := hFc49
       refine x_seq <| x_region <| p (yl_move q3l) <| pa (v := .agg #[.int .i64 q4.fnet, .slice q19 q4.fspots.length q1n, .bool q4.fwire, .int .i64 q4.fpin]) (ld_sub agg_122 q4r rfl rfl (hS.pull 8)) <| ?_
       have hcall := c_rules_antenna_1 q6r q1o ((hS.pull 10).pull 3)
       refine o_ccv rfl call_72 (capargs (args1 rfl)) hcall ?_
       rintro e w' ⟨q2n, q6b, c_y0_ret_15_2, rfl, q1h, hS⟩
       refine ⟨_, rfl, ?_⟩
       have e_ := q1h.n; subst e_
       refine p (yl_len_slice usl_120 rfl) <| p (yl_move rfl) <| x_done <| ?_
       replace hFc49 := bd_s hFc49; obtain ⟨oL16, hLL16, hFc49⟩ := hFc49
       refine x_join (fun E w => ∃ (q1v : List Nat) (q1z : List (Int × List (T_rules_Spot × Bool))), q1z = oL16 ∧ E 0 = .pointer (some ⟨q0c, 0, none⟩) ∧ E 2 = .slice q0j s2.length c_s2 ∧ E 4 = .pointer (some ⟨b4, 0, none⟩) ∧ E 6 = .pointer (some ⟨b6, 0, none⟩) ∧ E 7 = .func (.func 72) #[] #[.pointer (some ⟨b6, 0, none⟩)] ∧ E 8 = .map (some b31) ∧ E 9 = .map (some b32) ∧ E 10 = .map (some b33) ∧ E 11 = .map (some b34) ∧ E 12 = .slice q2 q0a.length c_y0_ret_7_2 ∧ E 26 = .int .i64 l_1.Layers ∧ E 27 = .int .i64 q3 ∧ E 38 = .slice q0j s2.length c_s2 ∧ E 39 = .int .i64 (s2.length : Int) ∧ E 40 = .int .i64 q0l ∧ St w0 w (cells q0c 103 [.map (some q5), .bool q9] :: cells b4 31 [.int .i64 l_1.W, .int .i64 l_1.H, .int .i64 l_1.Layers, .int .i64 l_1.Nets, .slice q0f l_1.Wires.length c_l_1_4, .slice q0g l_1.Vias.length c_l_1_5, .slice q6 l_1.Pins.length c_l_1_6, .slice q0h l_1.Walls.length c_l_1_7] :: cells b6 3 [.int .i64 q3] :: mapM b31 (Value.int .i64) kf_61 Value.bool q1z q1v :: mapA b32 (Value.int .i64) (Value.int .i64) q0i :: mapA b33 (Value.int .i64) Value.bool q0b :: mapA b34 (Value.int .i64) kf_61 q0e :: vec 3 (RpI .i64).sz (.slice q2 q0a.length c_y0_ret_7_2) q0a.length q7 :: mapA q5 kf_63 Value.bool q8 :: ro ρ :: l)) ?_ ?_
       ·refine x_block ?_
        refine x_loop (fun k_ E w => ∃ (q0m : List Nat) (q11 : List (Int × List (T_rules_Spot × Bool))) (q23 : Int), lp (P_rules_antenna_L16 x48 q2o) k_ (q11, q23) = some oL16 ∧ E 0 = .pointer (some ⟨q0c, 0, none⟩) ∧ E 2 = .slice q0j s2.length c_s2 ∧ E 4 = .pointer (some ⟨b4, 0, none⟩) ∧ E 6 = .pointer (some ⟨b6, 0, none⟩) ∧ E 7 = .func (.func 72) #[] #[.pointer (some ⟨b6, 0, none⟩)] ∧ E 8 = .map (some b31) ∧ E 9 = .map (some b32) ∧ E 10 = .map (some b33) ∧ E 11 = .map (some b34) ∧ E 12 = .slice q2 q0a.length c_y0_ret_7_2 ∧ E 15 = .int .i64 x48 ∧ E 26 = .int .i64 l_1.Layers ∧ E 27 = .int .i64 q3 ∧ E 38 = .slice q0j s2.length c_s2 ∧ E 39 = .int .i64 (s2.length : Int) ∧ E 40 = .int .i64 q0l ∧ E 61 = .slice q2n q2o.length c_y0_ret_15_2 ∧ E 62 = .int .i64 (q2o.length : Int) ∧ E 63 = .int .i64 q23 ∧ St w0 w (cells q0c 103 [.map (some q5), .bool q9] :: cells b4 31 [.int .i64 l_1.W, .int .i64 l_1.H, .int .i64 l_1.Layers, .int .i64 l_1.Nets, .slice q0f l_1.Wires.length c_l_1_4, .slice q0g l_1.Vias.length c_l_1_5, .slice q6 l_1.Pins.length c_l_1_6, .slice q0h l_1.Walls.length c_l_1_7] :: cells b6 3 [.int .i64 q3] :: mapM b31 (Value.int .i64) kf_61 Value.bool q11 q0m :: mapA b32 (Value.int .i64) (Value.int .i64) q0i :: mapA b33 (Value.int .i64) Value.bool q0b :: mapA b34 (Value.int .i64) kf_61 q0e :: vec 3 (RpI .i64).sz (.slice q2 q0a.length c_y0_ret_7_2) q0a.length q7 :: mapA q5 kf_63 Value.bool q8 :: ro ρ :: l)) fuel ⟨q1u, q1y, 0, hLL16, q6l, q6m, q6n, q6o, q3l, q6p, q6q, q4o, q4p, q4q, q4s, q4t, q4u, q4v, q4w, q4x, rfl, rfl, rfl, (((((((((((hS.pull 9).drop.pull 1).pull 9).pull 9).pull 9).pull 9).pull 9).pull 9).pull 7).pull 9).pull 9)⟩ ?_
        rintro kL16 E w ⟨q0m, q11, q23, hLL16, q37, q38, q39, q3a, q3b, q2h, q3c, q2r, q2s, q2t, q2u, q2v, q2w, q2x, q2y, q2z, q30, q31, q29, hS⟩
        replace hLL16 := lp_s hLL16; obtain ⟨kL16, obL16, rfl, hFL16, hLL16⟩ := hLL16
        refine x_seq <| x_region <| p (yl_lss q29 q31) <| x_done <|
         x_seq <|
         x_cond_p (q23 < (q2o.length : Int)) rfl (fun hc64 => ?_) (fun hc64 => ?_)
        ·replace hFL16 := it_t hc64 hFL16
         replace hFL16 := ck_s hFL16; obtain ⟨q3m, hFL16⟩ := hFL16
         replace hFL16 := lv_s hFL16; obtain ⟨q1a, q6s, hFL16⟩ := hFL16
         have q_ := q1h.get q3m; obtain ⟨q8m, q3n, q6t⟩ := q_
         rw [← q6s] at q3n
         have e_ := q3n; subst e_
         refine x_skip <| x_seq <| x_block <| x_seq <|
          x_region <| p (yix_f sl_120 q30 q29 q1h q3m) <| pa (v := .agg #[.int .i64 q1a.Layer, .int .i64 q1a.X, .int .i64 q1a.Y]) (at_loadAgg agg_61 rfl rfl (Elt.every q6t (hS.pull 9))) <| ?_
         refine o_alloc zero_61 hS (fun b17 w' hS => ?_)
         refine o_storeAgg (news := [.int .i64 q1a.Layer, .int .i64 q1a.X, .int .i64 q1a.Y]) agg_61 rfl rfl rfl (by simp [over_length]) hS (fun w' hS => ?_)
         refine x_done <| x_region <| p (yl_move q2h) <| p (yl_move q2u) <|
          pa (v := .map (mb x48 q11 q0m)) (at_lookM um_130 (KeyP.int ui_3) (zero1 zv_84) rfl rfl (hS.pull 4)) <| pa (v := .agg #[.int .i64 q1a.Layer, .int .i64 q1a.X, .int .i64 q1a.Y]) (ld_sub agg_61 rfl rfl rfl hS) <| ?_
         replace hFL16 := ck_s hFL16; obtain ⟨q6u, hFL16⟩ := hFL16
         replace hFL16 := lv_s hFL16; obtain ⟨q8a, q6v, hFL16⟩ := hFL16
         refine o_setinM (k := x48) (k2 := q1a) (vf2 := Value.bool) (v := true) um_84 kp_61 rfl rfl rfl q6u (hS.pull 4) q6v (fun w' hS => ?_)
         replace hFL16 := ar_s hFL16; obtain ⟨x71, hx71, hFL16⟩ := hFL16
         refine x_done <| x_blk <| x_region <| p (yadd q29 rfl hx71) <|
          p (yl_move rfl) <| x_done <| ?_
         have e_ := sinj hFL16; subst e_
         exact x_inv ⟨kL16, Nat.lt_succ_self _, q0m, q8a, x71, hLL16, q37, q38, q39, q3a, q3b, q2h, q3c, q2r, q2s, q2t, q2u, q2v, q2w, q2x, q2y, q2z, q30, q31, rfl, (((((((((((hS.pull 1).drop.pull 9).pull 9).pull 9).pull 9).pull 9).pull 9).pull 6).pull 9).pull 9).pull 9)⟩
        ·replace hFL16 := it_f hc64 hFL16
         refine x_exitTo _ rfl <| ?_
         have e_ := sinj hFL16; subst e_
         exact x_inv ⟨q0m, q11, hLL16, q37, q38, q39, q3a, q3b, q2h, q3c, q2r, q2s, q2t, q2v, q2w, q2x, q2y, q2z, ((((((((((hS.pull 9).pull 9).pull 9).pull 9).pull 9).pull 9).pull 9).pull 9).pull 9).pull 9)⟩
       rintro E w ⟨q1v, q1z, rfl, q6w, q6x, q6y, q6z, q70, q71, q72, q4y, q4z, q50, q51, q52, q53, q54, q55, hS⟩
       exact x_inv ⟨q1v, q1z, q0i, q0b, q0e, (sinj hFc49), q6w, q6x, q6y, q6z, q70, q71, q72, q4y, q4z, q50, q51, q52, q53, q54, q55, ((((((((((hS.pull 9).pull 9).pull 9).pull 9).pull 9).pull 9).pull 9).pull 9).pull 9).pull 9)⟩
      ·replace hFc49 := it_bf hc49 hFc49
       replace hFc49 := ck_s hFc49; obtain ⟨q3o, hFc49⟩ := hFc49
       replace hFc49 := lv_s hFc49; obtain ⟨x84, hx84, hFc49⟩ := hFc49
       refine x_seq <| x_region <| p (yl_field0 fld_122_3 rfl) <| pa (at_load one_3 rfl (hS.cell rfl)) <|
        p (yl_geq rfl rfl) <| p (yl_move rfl) <| pg (v := .pointer (some ⟨b4, 6, none⟩)) 76 (c := decide (0 ≤ q4.fpin)) (says_t _) (fun hq => Yl.at (yl_field0 fld_31_6 q0y)) <| pg (v := .slice q6 l_1.Pins.length c_l_1_6) 76 (c := decide (0 ≤ q4.fpin)) (says_t _) (fun hq => at_load one_28 (cv hq) ((hS.pull 2).cell rfl)) <|
        pg (v := .pointer (some ⟨b14, 3, none⟩)) 76 (c := decide (0 ≤ q4.fpin)) (says_t _) (fun hq => Yl.at (yl_field0 fld_122_3 rfl)) <| pg (v := .int .i64 q4.fpin) 76 (c := decide (0 ≤ q4.fpin)) (says_t _) (fun hq => at_load one_3 (cv hq) (hS.cell rfl)) <| pg (v := .pointer (some ((adr q6).add (q4.fpin.toNat * R_rules_Pin.sz)))) 76 (c := decide (0 ≤ q4.fpin)) (says_t _) (fun hq => Yl.at (yix_f sl_28 (cv hq) (cv hq) q13 (q3o hq))) <| pg (v := .pointer (some (((adr q6).add (q4.fpin.toNat * R_rules_Pin.sz)).add 3))) 76 (c := decide (0 ≤ q4.fpin)) (says_t _) (fun hq => Yl.at (yl_fieldAddr fld_39_3 (cv hq))) <|
        pg (v := .bool ((gt l_1.Pins q4.fpin).Drive)) 76 (c := decide (0 ≤ q4.fpin)) (says_t _) (fun hq => (by obtain ⟨el, ek, ee⟩ := q13.get (q3o hq); obtain rfl := ek; exact at_load one_4 (cv hq) (Elt.ld (j := 3) ee (hS.pull 10) rfl))) <| p (yand' rfl (fun hc => (cv hc)) rfl hx84) <| p (yl_assign rfl) <| x_done <| ?_
       replace hFc49 := bd_s hFc49; obtain ⟨oc72, hFc72, hFc49⟩ := hFc49
       refine x_join (fun E w => ∃ (q20 : List (Int × Int)) (q12 : List (Int × Bool)) (q1j : List (Int × T_rules_Spot)), (q20, q12, q1j) = oc72 ∧ E 0 = .pointer (some ⟨q0c, 0, none⟩) ∧ E 2 = .slice q0j s2.length c_s2 ∧ E 4 = .pointer (some ⟨b4, 0, none⟩) ∧ E 6 = .pointer (some ⟨b6, 0, none⟩) ∧ E 7 = .func (.func 72) #[] #[.pointer (some ⟨b6, 0, none⟩)] ∧ E 8 = .map (some b31) ∧ E 9 = .map (some b32) ∧ E 10 = .map (some b33) ∧ E 11 = .map (some b34) ∧ E 12 = .slice q2 q0a.length c_y0_ret_7_2 ∧ E 26 = .int .i64 l_1.Layers ∧ E 27 = .int .i64 q3 ∧ E 38 = .slice q0j s2.length c_s2 ∧ E 39 = .int .i64 (s2.length : Int) ∧ E 40 = .int .i64 q0l ∧ St w0 w (cells q0c 103 [.map (some q5), .bool q9] :: cells b4 31 [.int .i64 l_1.W, .int .i64 l_1.H, .int .i64 l_1.Layers, .int .i64 l_1.Nets, .slice q0f l_1.Wires.length c_l_1_4, .slice q0g l_1.Vias.length c_l_1_5, .slice q6 l_1.Pins.length c_l_1_6, .slice q0h l_1.Walls.length c_l_1_7] :: cells b6 3 [.int .i64 q3] :: mapM b31 (Value.int .i64) kf_61 Value.bool q0k q0d :: mapA b32 (Value.int .i64) (Value.int .i64) q20 :: mapA b33 (Value.int .i64) Value.bool q12 :: mapA b34 (Value.int .i64) kf_61 q1j :: vec 3 (RpI .i64).sz (.slice q2 q0a.length c_y0_ret_7_2) q0a.length q7 :: mapA q5 kf_63 Value.bool q8 :: ro ρ :: l)) ?_ ?_
       ·refine x_cond (t := x84) rfl (fun hc72 => ?_) (fun hc72 => ?_)
        ·replace hFc72 := it_t hc72 hFc72
         refine x_region <| p (yl_move q0w) <| p (yl_move rfl) <| ?_
         replace hFc72 := lv_s hFc72; obtain ⟨q8b, q73, hFc72⟩ := hFc72
         refine o_mapset (k := x48) (vf := Value.bool) (v := true) um_134 (KeyP.int ui_3) rfl rfl rfl (hS.pull 6) q73 (fun w' hS => ?_)
         refine x_done <| ?_
         exact x_inv ⟨q0i, q8b, q0e, (sinj hFc72), q1p, q1q, q0y, q1r, q22, q0z, q1s, q0w, q0p, q0x, q15, q16, q17, q18, q0q, (((((((((((hS.pull 1).drop.pull 9).pull 9).pull 9).pull 9).pull 4).pull 9).pull 9).pull 9).pull 9).pull 9)⟩
        ·replace hFc72 := it_bf hc72 hFc72
         replace hFc72 := ck_s hFc72; obtain ⟨q3p, hFc72⟩ := hFc72
         replace hFc72 := lv_s hFc72; obtain ⟨x100, hx100, hFc72⟩ := hFc72
         refine x_seq <| x_region <| p (yl_field0 fld_122_3 rfl) <| pa (at_load one_3 rfl (hS.cell rfl)) <|
          p (yl_geq rfl rfl) <| p (yl_move rfl) <| pg (v := .pointer (some ⟨b4, 6, none⟩)) 91 (c := decide (0 ≤ q4.fpin)) (says_t _) (fun hq => Yl.at (yl_field0 fld_31_6 q0y)) <| pg (v := .slice q6 l_1.Pins.length c_l_1_6) 91 (c := decide (0 ≤ q4.fpin)) (says_t _) (fun hq => at_load one_28 (cv hq) ((hS.pull 2).cell rfl)) <|
          pg (v := .pointer (some ⟨b14, 3, none⟩)) 91 (c := decide (0 ≤ q4.fpin)) (says_t _) (fun hq => Yl.at (yl_field0 fld_122_3 rfl)) <| pg (v := .int .i64 q4.fpin) 91 (c := decide (0 ≤ q4.fpin)) (says_t _) (fun hq => at_load one_3 (cv hq) (hS.cell rfl)) <| pg (v := .pointer (some ((adr q6).add (q4.fpin.toNat * R_rules_Pin.sz)))) 91 (c := decide (0 ≤ q4.fpin)) (says_t _) (fun hq => Yl.at (yix_f sl_28 (cv hq) (cv hq) q13 (q3p hq))) <| pg (v := .pointer (some (((adr q6).add (q4.fpin.toNat * R_rules_Pin.sz)).add 4))) 91 (c := decide (0 ≤ q4.fpin)) (says_t _) (fun hq => Yl.at (yl_fieldAddr fld_39_4 (cv hq))) <|
          pg (v := .int .i64 ((gt l_1.Pins q4.fpin).Size)) 91 (c := decide (0 ≤ q4.fpin)) (says_t _) (fun hq => (by obtain ⟨el, ek, ee⟩ := q13.get (q3p hq); obtain rfl := ek; exact at_load one_3 (cv hq) (Elt.ld (j := 4) ee (hS.pull 10) rfl))) <| pg (v := .bool (decide (0 < ((gt l_1.Pins q4.fpin).Size)))) 91 (c := decide (0 ≤ q4.fpin)) (says_t _) (fun hq => Yl.at (yl_gtr (cv hq) rfl)) <| p (yand' rfl (fun hc => (cv hc)) rfl hx100) <| p (yl_assign rfl) <|
          x_done <| ?_
         replace hFc72 := bd_s hFc72; obtain ⟨oc87, hFc87, hFc72⟩ := hFc72
         refine x_join (fun E w => ∃ (q21 : List (Int × Int)) (q1k : List (Int × T_rules_Spot)), (q21, q1k) = oc87 ∧ E 0 = .pointer (some ⟨q0c, 0, none⟩) ∧ E 2 = .slice q0j s2.length c_s2 ∧ E 4 = .pointer (some ⟨b4, 0, none⟩) ∧ E 6 = .pointer (some ⟨b6, 0, none⟩) ∧ E 7 = .func (.func 72) #[] #[.pointer (some ⟨b6, 0, none⟩)] ∧ E 8 = .map (some b31) ∧ E 9 = .map (some b32) ∧ E 10 = .map (some b33) ∧ E 11 = .map (some b34) ∧ E 12 = .slice q2 q0a.length c_y0_ret_7_2 ∧ E 26 = .int .i64 l_1.Layers ∧ E 27 = .int .i64 q3 ∧ E 38 = .slice q0j s2.length c_s2 ∧ E 39 = .int .i64 (s2.length : Int) ∧ E 40 = .int .i64 q0l ∧ St w0 w (cells q0c 103 [.map (some q5), .bool q9] :: cells b4 31 [.int .i64 l_1.W, .int .i64 l_1.H, .int .i64 l_1.Layers, .int .i64 l_1.Nets, .slice q0f l_1.Wires.length c_l_1_4, .slice q0g l_1.Vias.length c_l_1_5, .slice q6 l_1.Pins.length c_l_1_6, .slice q0h l_1.Walls.length c_l_1_7] :: cells b6 3 [.int .i64 q3] :: mapM b31 (Value.int .i64) kf_61 Value.bool q0k q0d :: mapA b32 (Value.int .i64) (Value.int .i64) q21 :: mapA b33 (Value.int .i64) Value.bool q0b :: mapA b34 (Value.int .i64) kf_61 q1k :: vec 3 (RpI .i64).sz (.slice q2 q0a.length c_y0_ret_7_2) q0a.length q7 :: mapA q5 kf_63 Value.bool q8 :: ro ρ :: l)) ?_ ?_
         ·refine x_cond (t := x100) rfl (fun hc87 => ?_) (fun hc87 => ?_)
          ·replace hFc87 := it_t hc87 hFc87
           replace hFc87 := lv_s hFc87; obtain ⟨x104, hx104, hFc87⟩ := hFc87
           replace hFc87 := lv_s hFc87; obtain ⟨q104, hq104, hFc87⟩ := hFc87
           refine x_seq <| x_seq <| x_region <| p (yl_move q0p) <|
            p (yl_move rfl) <| pa (v := .tuple #[.agg #[.int .i64 x104.Layer, .int .i64 x104.X, .int .i64 x104.Y], .bool q104]) (at_look2 (k := x48) (vf := kf_61) (r := x104) (d := (T_rules_Spot.mk 0 0 0)) um_135 (KeyP.int ui_3) (zero1 zv_61) rfl rfl (hS.pull 7) hx104 hq104) <| p (v := .tuple #[.agg #[.int .i64 x104.Layer, .int .i64 x104.X, .int .i64 x104.Y], .bool q104]) (yl_move rfl) <| p (yl_extract rfl rfl) <|
            p (yl_extract rfl rfl) <| ?_
           refine o_alloc zero_61 hS (fun b18 w' hS => ?_)
           refine o_storeAgg (news := [.int .i64 x104.Layer, .int .i64 x104.X, .int .i64 x104.Y]) agg_61 rfl rfl rfl (by simp [over_length]) hS (fun w' hS => ?_)
           replace hFc87 := ck_s hFc87; obtain ⟨q3q, hFc87⟩ := hFc87
           replace hFc87 := lv_s hFc87; obtain ⟨q3h, q74, hFc87⟩ := hFc87
           have q_ := RdS.getD R_rules_Spot_d q1o (0 : Int); obtain ⟨q8n, q3r, q75⟩ := q_
           rw [← q74] at q3r
           have e_ := q3r; subst e_
           replace hFc87 := bd_s hFc87; obtain ⟨q8c, q76, hFc87⟩ := hFc87
           replace hFc87 := lv_s hFc87; obtain ⟨x116, hx116, hFc87⟩ := hFc87
           refine p (yl_assign rfl) <| x_done <| x_seq <| x_still mixed (by kernel_rfl) hS <|
            q (yl_move rfl) <| q (yl_not rfl) <| q (yl_move rfl) <| qg (v := .pointer (some ⟨b14, 1, none⟩)) 109 (c := !(!q104)) (says_f _) (fun hq w' hS => Yl.at (yl_field0 fld_122_1 rfl)) <|
            qg (v := .slice q19 q4.fspots.length q1n) 109 (c := !(!q104)) (says_f _) (fun hq w' hS => at_load one_120 (cv hq) ((hS.pull 1).cell rfl)) <| qg (v := .pointer (some ((adr q19).add ((0 : Int).toNat * R_rules_Spot.sz)))) 109 (c := !(!q104)) (says_f _) (fun hq w' hS => Yl.at (yix_f sl_120 (cv hq) rfl q1o (q3q hq))) <| qg (v := .agg #[.int .i64 q3h.Layer, .int .i64 q3h.X, .int .i64 q3h.Y]) 109 (c := !(!q104)) (says_f _) (fun hq w' hS => at_loadAgg agg_61 (cv hq) rfl (Elt.every (q75 (q3q hq)) (hS.pull 11))) <| qg (v := .agg #[.int .i64 x104.Layer, .int .i64 x104.X, .int .i64 x104.Y]) 109 (c := !(!q104)) (says_f _) (fun hq w' hS => ld_sub agg_61 rfl rfl rfl hS) <|
            qccg (v := .bool q8c) 109 (c := !(!q104)) (says_f _) call_71 (fun hq => (args2 (cv hq) (cv hq))) (fun hq w' hS => by
             have hcall := c_rules_Spot_before (gd_t q76 hq)  (hS.pull 11)
             exact (Calls.mono hcall (fun e w'' h => And.intro h.1 (((((((((((h.2.pull 11).pull 11).pull 11).pull 11).pull 11).pull 11).pull 11).pull 11).pull 11).pull 11).pull 11)))) <| q (yor' rfl rfl (fun hc => (cv (t_not hc))) hx116) <|
            q_done fun w' hS => ?_
           replace hFc87 := bd_s hFc87; obtain ⟨oc116, hFc116, hFc87⟩ := hFc87
           refine x_join (fun E w => ∃ (q1b : List (Int × T_rules_Spot)), q1b = oc116 ∧ E 0 = .pointer (some ⟨q0c, 0, none⟩) ∧ E 2 = .slice q0j s2.length c_s2 ∧ E 4 = .pointer (some ⟨b4, 0, none⟩) ∧ E 6 = .pointer (some ⟨b6, 0, none⟩) ∧ E 7 = .func (.func 72) #[] #[.pointer (some ⟨b6, 0, none⟩)] ∧ E 8 = .map (some b31) ∧ E 9 = .map (some b32) ∧ E 10 = .map (some b33) ∧ E 11 = .map (some b34) ∧ E 12 = .slice q2 q0a.length c_y0_ret_7_2 ∧ E 14 = .pointer (some ⟨b14, 0, none⟩) ∧ E 15 = .int .i64 x48 ∧ E 26 = .int .i64 l_1.Layers ∧ E 27 = .int .i64 q3 ∧ E 38 = .slice q0j s2.length c_s2 ∧ E 39 = .int .i64 (s2.length : Int) ∧ E 40 = .int .i64 q0l ∧ St w0 w (cells q0c 103 [.map (some q5), .bool q9] :: cells b4 31 [.int .i64 l_1.W, .int .i64 l_1.H, .int .i64 l_1.Layers, .int .i64 l_1.Nets, .slice q0f l_1.Wires.length c_l_1_4, .slice q0g l_1.Vias.length c_l_1_5, .slice q6 l_1.Pins.length c_l_1_6, .slice q0h l_1.Walls.length c_l_1_7] :: cells b6 3 [.int .i64 q3] :: mapM b31 (Value.int .i64) kf_61 Value.bool q0k q0d :: mapA b32 (Value.int .i64) (Value.int .i64) q0i :: mapA b33 (Value.int .i64) Value.bool q0b :: mapA b34 (Value.int .i64) kf_61 q1b :: vec 3 (RpI .i64).sz (.slice q2 q0a.length c_y0_ret_7_2) q0a.length q7 :: cells b14 122 [.int .i64 q4.fnet, .slice q19 q4.fspots.length q1n, .bool q4.fwire, .int .i64 q4.fpin] :: mapA q5 kf_63 Value.bool q8 :: ro ρ :: l)) ?_ ?_
           ·refine x_cond (t := x116) rfl (fun hc116 => ?_) (fun hc116 => ?_)
            ·replace hFc116 := it_t hc116 hFc116
             replace hFc116 := ck_s hFc116; obtain ⟨q3s, hFc116⟩ := hFc116
             replace hFc116 := lv_s hFc116; obtain ⟨q2p, q77, hFc116⟩ := hFc116
             have q_ := q1o.get q3s; obtain ⟨q8o, q3t, q78⟩ := q_
             rw [← q77] at q3t
             have e_ := q3t; subst e_
             refine x_region <| p (yl_move q0p) <| p (yl_move rfl) <| p (yl_field0 fld_122_1 rfl) <|
              pa (at_load one_120 rfl ((hS.pull 1).cell rfl)) <| p (yix_f sl_120 rfl rfl q1o q3s) <| pa (v := .agg #[.int .i64 q2p.Layer, .int .i64 q2p.X, .int .i64 q2p.Y]) (at_loadAgg agg_61 rfl rfl (Elt.every q78 (hS.pull 11))) <| ?_
             replace hFc116 := lv_s hFc116; obtain ⟨q8d, q79, hFc116⟩ := hFc116
             refine o_mapset (k := x48) (vf := kf_61) (v := q2p) um_135 (KeyP.int ui_3) rfl rfl rfl (hS.pull 8) q79 (fun w' hS => ?_)
             refine x_done <| ?_
             exact x_inv ⟨q8d, (sinj hFc116), q1p, q1q, q0y, q1r, q22, q0z, q1s, q0w, q0p, q0x, rfl, rfl, q15, q16, q17, q18, q0q, ((((((((((((hS.pull 1).drop.pull 10).pull 10).pull 3).pull 10).pull 4).pull 10).pull 10).pull 10).pull 10).pull 10).pull 10)⟩
            ·replace hFc116 := it_bf hc116 hFc116
             refine x_skip <| ?_
             exact x_inv ⟨q0e, (sinj hFc116), q1p, q1q, q0y, q1r, q22, q0z, q1s, q0w, q0p, q0x, rfl, rfl, q15, q16, q17, q18, q0q, (((((((((((hS.drop.pull 10).pull 10).pull 2).pull 10).pull 10).pull 10).pull 10).pull 10).pull 10).pull 10).pull 10)⟩
           rintro E w ⟨q1b, rfl, q56, q57, q3d, q58, q59, q5a, q3e, q45, q46, q47, q48, q49, q4a, q4b, q4c, q4d, q4e, hS⟩
           replace hFc87 := lv_s hFc87; obtain ⟨x125, hx125, hFc87⟩ := hFc87
           replace hFc87 := ck_s hFc87; obtain ⟨q3u, hFc87⟩ := hFc87
           replace hFc87 := lv_s hFc87; obtain ⟨q8r, q7a, hFc87⟩ := hFc87
           have q_ := q13.get q3u; obtain ⟨q8p, q3v, q7b⟩ := q_
           rw [← q7a] at q3v
           have e_ := q3v; subst e_
           replace hFc87 := ar_s hFc87; obtain ⟨x133, hx133, hFc87⟩ := hFc87
           refine x_head 11 mixed (by kernel_rfl) hS _ _ rfl rfl <| q (yl_move q3e) <| q (yl_move q49) <| qa (fun w' hS => at_look (k := x48) um_131 (KeyP.int ui_3) (zero1 zv_3) rfl rfl (hS.pull 4) hx125) <|
            q (yl_field0 fld_31_6 q3d) <| qa (fun w' hS => at_load one_28 rfl ((hS.pull 1).cell rfl)) <| q (yl_field0 fld_122_3 q48) <| qa (fun w' hS => at_load one_3 rfl ((hS.pull 8).cell rfl)) <|
            q (yix_f sl_28 rfl rfl q13 q3u) <| q (yl_fieldAddr fld_39_4 rfl) <| qa (fun w' hS => at_load one_3 rfl (Elt.ld (j := 4) q7b (hS.pull 10) rfl)) <| q (yadd rfl rfl hx133) <|
            q_done fun w' hS => ?_
           replace hFc87 := lv_s hFc87; obtain ⟨q7c, q5b, hFc87⟩ := hFc87
           refine o_mapset (k := x48) (vf := (Value.int .i64)) (v := x133) um_131 (KeyP.int ui_3) rfl rfl rfl (hS.pull 4) q5b (fun w' hS => ?_)
           refine x_done <| ?_
           exact x_inv ⟨q7c, q1b, (sinj hFc87), q56, q57, q3d, q58, q59, q5a, q3e, q45, q46, q47, q4a, q4b, q4c, q4d, q4e, (((((((((((hS.pull 8).drop.pull 9).pull 9).pull 9).pull 9).pull 9).pull 5).pull 9).pull 9).pull 9).pull 9)⟩
          ·replace hFc87 := it_bf hc87 hFc87
           refine x_skip <| ?_
           exact x_inv ⟨q0i, q0e, (sinj hFc87), q1p, q1q, q0y, q1r, q22, q0z, q1s, q0w, q0p, q0x, q15, q16, q17, q18, q0q, ((((((((((hS.drop.pull 9).pull 9).pull 9).pull 9).pull 9).pull 9).pull 9).pull 9).pull 9).pull 9)⟩
         rintro E w ⟨q21, q1k, rfl, q7d, q7e, q7f, q7g, q7h, q7i, q7j, q5c, q5d, q5e, q5f, q5g, q5h, q5i, q5j, hS⟩
         exact x_inv ⟨q21, q0b, q1k, (sinj hFc72), q7d, q7e, q7f, q7g, q7h, q7i, q7j, q5c, q5d, q5e, q5f, q5g, q5h, q5i, q5j, ((((((((((hS.pull 9).pull 9).pull 9).pull 9).pull 9).pull 9).pull 9).pull 9).pull 9).pull 9)⟩
       rintro E w ⟨q20, q12, q1j, rfl, q7k, q7l, q7m, q7n, q7o, q7p, q7q, q5k, q5l, q5m, q5n, q5o, q5p, q5q, q5r, hS⟩
       exact x_inv ⟨q0d, q0k, q20, q12, q1j, (sinj hFc49), q7k, q7l, q7m, q7n, q7o, q7p, q7q, q5k, q5l, q5m, q5n, q5o, q5p, q5q, q5r, ((((((((((hS.pull 9).pull 9).pull 9).pull 9).pull 9).pull 9).pull 9).pull 9).pull 9).pull 9)⟩
     rintro E w ⟨q1t, q1w, q1x, q10, q1i, rfl, q7r, q7s, q7t, q7u, q7v, q7w, q7x, q5s, q5t, q5u, q5v, q5w, q5x, q5y, q5z, hS⟩
     replace hFL9 := ar_s hFL9; obtain ⟨x134, hx134, hFL9⟩ := hFL9
     refine x_blk <| x_blk <| x_region <| p (yadd q5z rfl hx134) <|
      p (yl_move rfl) <| x_done <| ?_
     have e_ := sinj hFL9; subst e_
     exact x_inv ⟨kL9, Nat.lt_succ_self _, q1t, q1w, q1x, q10, q1i, x134, hLL9, q7r, q7s, q7t, q7u, q7v, q7w, q7x, q5s, q5t, q5u, q5v, q5w, q5x, q5y, rfl, ((((((((((hS.pull 9).pull 9).pull 9).pull 9).pull 9).pull 9).pull 9).pull 9).pull 9).pull 9)⟩
    ·replace hFL9 := it_f hc41 hFL9
     refine x_exitTo _ rfl <| ?_
     have e_ := sinj hFL9; subst e_
     exact x_inv ⟨q0d, q0k, q0i, q0b, q0e, hLL9, q1p, q1q, q0y, q1r, q0z, q1s, q0w, q0p, q0x, q15, q16, ((((((((((hS.pull 9).pull 9).pull 9).pull 9).pull 9).pull 9).pull 9).pull 9).pull 9).pull 9)⟩
   rintro E w ⟨q0r, q0u, q14, q0n, q0v, rfl, q8e, q4k, q8f, q8g, q8h, q8i, q7y, q7z, q80, q81, q82, hS⟩
   refine x_seq <| x_region <| p (yl_move q4k) <| p (yl_len_slice usl_98 rfl) <|
    p (yl_move rfl) <| x_done <| ?_
   replace hFL2 := bd_s hFL2; obtain ⟨oL29, hLL29, hFL2⟩ := hFL2
   refine x_join (fun E w => ∃ (q1l : List (T_rules_Fault × Bool)) (q1m : Bool), (q1l, q1m) = oL29 ∧ E 0 = .pointer (some ⟨q0c, 0, none⟩) ∧ E 2 = .slice q0j s2.length c_s2 ∧ E 4 = .pointer (some ⟨b4, 0, none⟩) ∧ E 26 = .int .i64 l_1.Layers ∧ E 27 = .int .i64 q3 ∧ St w0 w (cells q0c 103 [.map (some q5), .bool q1m] :: cells b4 31 [.int .i64 l_1.W, .int .i64 l_1.H, .int .i64 l_1.Layers, .int .i64 l_1.Nets, .slice q0f l_1.Wires.length c_l_1_4, .slice q0g l_1.Vias.length c_l_1_5, .slice q6 l_1.Pins.length c_l_1_6, .slice q0h l_1.Walls.length c_l_1_7] :: mapA q5 kf_63 Value.bool q1l :: ro ρ :: l)) ?_ ?_
   ·refine x_block ?_
    refine x_loop (fun k_ E w => ∃ (q1f : Int) (q0s : List (T_rules_Fault × Bool)) (q0t : Bool), lp (P_rules_antenna_L29 s2 q0a q0u q14 q0n q0v q3) k_ (q1f, q0s, q0t) = some oL29 ∧ E 0 = .pointer (some ⟨q0c, 0, none⟩) ∧ E 2 = .slice q0j s2.length c_s2 ∧ E 4 = .pointer (some ⟨b4, 0, none⟩) ∧ E 6 = .pointer (some ⟨b6, 0, none⟩) ∧ E 8 = .map (some b31) ∧ E 9 = .map (some b32) ∧ E 10 = .map (some b33) ∧ E 11 = .map (some b34) ∧ E 12 = .slice q2 q0a.length c_y0_ret_7_2 ∧ E 26 = .int .i64 l_1.Layers ∧ E 27 = .int .i64 q3 ∧ E 135 = .slice q0j s2.length c_s2 ∧ E 136 = .int .i64 (s2.length : Int) ∧ E 137 = .int .i64 q1f ∧ St w0 w (cells q0c 103 [.map (some q5), .bool q0t] :: cells b4 31 [.int .i64 l_1.W, .int .i64 l_1.H, .int .i64 l_1.Layers, .int .i64 l_1.Nets, .slice q0f l_1.Wires.length c_l_1_4, .slice q0g l_1.Vias.length c_l_1_5, .slice q6 l_1.Pins.length c_l_1_6, .slice q0h l_1.Walls.length c_l_1_7] :: cells b6 3 [.int .i64 q3] :: mapM b31 (Value.int .i64) kf_61 Value.bool q0u q0r :: mapA b32 (Value.int .i64) (Value.int .i64) q14 :: mapA b33 (Value.int .i64) Value.bool q0n :: mapA b34 (Value.int .i64) kf_61 q0v :: vec 3 (RpI .i64).sz (.slice q2 q0a.length c_y0_ret_7_2) q0a.length q7 :: mapA q5 kf_63 Value.bool q0s :: ro ρ :: l)) fuel ⟨0, q8, q9, hLL29, q8e, q4k, q8f, q8g, q8h, q8i, q7y, q7z, q80, q81, q82, rfl, rfl, rfl, ((((((((((hS.pull 9).pull 9).pull 9).pull 9).pull 9).pull 9).pull 9).pull 9).pull 9).pull 9)⟩ ?_
    rintro kL29 E w ⟨q1f, q0s, q0t, hLL29, q28, q2i, q2j, q2k, q2l, q2m, q2a, q2b, q2c, q2d, q2e, q26, q27, q1g, hS⟩
    replace hLL29 := lp_s hLL29; obtain ⟨kL29, obL29, rfl, hFL29, hLL29⟩ := hLL29
    refine x_seq <| x_region <| p (yl_lss q1g q27) <| x_done <|
     x_seq <|
     x_cond_p (q1f < (s2.length : Int)) rfl (fun hc138 => ?_) (fun hc138 => ?_)
    ·replace hFL29 := it_t hc138 hFL29
     replace hFL29 := ck_s hFL29; obtain ⟨q3w, hFL29⟩ := hFL29
     replace hFL29 := lv_s hFL29; obtain ⟨q1c, q83, hFL29⟩ := hFL29
     have q_ := q2f.get q3w; obtain ⟨q8q, q3x, q84⟩ := q_
     rw [← q83] at q3x
     obtain ⟨q3f, q8k, q3g, rfl, q60⟩ := q3x
     have e_ := q60.n; subst e_
     refine x_skip <| x_seq <| x_block <| x_seq <|
      x_region <| p (yl_move q1g) <| p (yix_f sl_98 q26 q1g q2f q3w) <| pa (v := .agg #[.int .i64 q1c.fnet, .slice q3f q1c.fspots.length q3g, .bool q1c.fwire, .int .i64 q1c.fpin]) (at_loadAgg agg_122 rfl rfl (Elt.every q84 (hS.pull 9))) <| ?_
     refine o_alloc zero_122 hS (fun b21 w' hS => ?_)
     refine p (yl_assign rfl) <| ?_
     refine o_storeAgg (news := [.int .i64 q1c.fnet, .slice q3f q1c.fspots.length q3g, .bool q1c.fwire, .int .i64 q1c.fpin]) agg_122 rfl rfl rfl (by simp [over_length]) hS (fun w' hS => ?_)
     replace hFL29 := ck_s hFL29; obtain ⟨q3y, hFL29⟩ := hFL29
     replace hFL29 := lv_s hFL29; obtain ⟨x145, hx145, hFL29⟩ := hFL29
     replace hFL29 := lv_s hFL29; obtain ⟨x149, hx149, hFL29⟩ := hFL29
     replace hFL29 := lv_s hFL29; obtain ⟨q149, hq149, hFL29⟩ := hFL29
     refine x_done <| x_seq <| x_region <| p (yl_move q2c) <|
      p (yl_move rfl) <| p (yix_o sl_22 rfl rfl (hS.pull 8) q0o q3y) <| pa (at_load one_3 rfl (RepL.getW q0o (hS.pull 8) q3y hx145)) <| p (yl_assign rfl) <|
      x_done <| x_seq <| x_region <| p (yl_move q2b) <|
      p (yl_move rfl) <| pa (v := .tuple #[.agg #[.int .i64 x149.Layer, .int .i64 x149.X, .int .i64 x149.Y], .bool q149]) (at_look2 (k := x145) (vf := kf_61) (r := x149) (d := (T_rules_Spot.mk 0 0 0)) um_135 (KeyP.int ui_3) (zero1 zv_61) rfl rfl (hS.pull 7) hx149 hq149) <| p (v := .tuple #[.agg #[.int .i64 x149.Layer, .int .i64 x149.X, .int .i64 x149.Y], .bool q149]) (yl_move rfl) <| p (yl_extract rfl rfl) <|
      p (yl_extract rfl rfl) <| ?_
     refine o_alloc zero_61 hS (fun b23 w' hS => ?_)
     refine o_storeAgg (news := [.int .i64 x149.Layer, .int .i64 x149.X, .int .i64 x149.Y]) agg_61 rfl rfl rfl (by simp [over_length]) hS (fun w' hS => ?_)
     replace hFL29 := lv_s hFL29; obtain ⟨x156, hx156, hFL29⟩ := hFL29
     replace hFL29 := lv_s hFL29; obtain ⟨x158, hx158, hFL29⟩ := hFL29
     replace hFL29 := lv_s hFL29; obtain ⟨x163, hx163, hFL29⟩ := hFL29
     replace hFL29 := lv_s hFL29; obtain ⟨x166, hx166, hFL29⟩ := hFL29
     replace hFL29 := ck_s hFL29; obtain ⟨q61, hFL29⟩ := hFL29
     replace hFL29 := lv_s hFL29; obtain ⟨x167, hx167, hFL29⟩ := hFL29
     replace hFL29 := lv_s hFL29; obtain ⟨x169, hx169, hFL29⟩ := hFL29
     refine p (yl_assign rfl) <| x_done <| x_seq <| x_region <|
      p (yl_move rfl) <| p (yl_move rfl) <| pg (v := .map (some b33)) 153 (c := q149) (says_t _) (fun hq => Yl.at (yl_move q2a)) <| pg (v := .int .i64 x145) 153 (c := q149) (says_t _) (fun hq => Yl.at (yl_move rfl)) <|
      pg (v := .bool x156) 153 (c := q149) (says_t _) (fun hq => at_look (k := x145) um_134 (KeyP.int ui_3) (zero1 zv_4) (cv hq) (cv hq) (hS.pull 7) hx156) <| pg (v := .bool (!x156)) 153 (c := q149) (says_t _) (fun hq => Yl.at (yl_not (cv hq))) <| p (yand' rfl (fun hc => (cv hc)) rfl hx158) <| p (yl_move rfl) <|
      pg (v := .map (some b31)) 159 (c := x158) (says_t _) (fun hq => Yl.at (yl_move q2l)) <| pg (v := .int .i64 x145) 159 (c := x158) (says_t _) (fun hq => Yl.at (yl_move rfl)) <| pg (v := .map (mb x145 q0u q0r)) 159 (c := x158) (says_t _) (fun hq => at_lookM um_130 (KeyP.int ui_3) (zero1 zv_84) (cv hq) (cv hq) (hS.pull 5)) <| pg (v := .int .i64 (x163 : Int)) 159 (c := x158) (says_t _) (fun hq => at_lenM um_84 (cv hq) (hS.pull 5) hx163) <|
      pg (v := .map (some b32)) 159 (c := x158) (says_t _) (fun hq => Yl.at (yl_move q2m)) <| pg (v := .int .i64 x145) 159 (c := x158) (says_t _) (fun hq => Yl.at (yl_move rfl)) <| pg (v := .int .i64 x166) 159 (c := x158) (says_t _) (fun hq => at_look (k := x145) um_131 (KeyP.int ui_3) (zero1 zv_3) (cv hq) (cv hq) (hS.pull 6) hx166) <| pg (v := .int .i64 x167) 159 (c := x158) (says_t _) (fun hq => Yl.at (ymul rfl (cv hq) ⟨hx167, (q61 hq)⟩)) <|
      pg (v := .bool (decide (x167 < (x163 : Int)))) 159 (c := x158) (says_t _) (fun hq => Yl.at (yl_gtr (cv hq) (cv hq))) <| p (yand' rfl (fun hc => (cv hc)) rfl hx169) <| x_done <| ?_
     replace hFL29 := bd_s hFL29; obtain ⟨oc169, hFc169, hFL29⟩ := hFL29
     refine x_join (fun E w => ∃ (q1d : List (T_rules_Fault × Bool)) (q1e : Bool), (q1d, q1e) = oc169 ∧ E 0 = .pointer (some ⟨q0c, 0, none⟩) ∧ E 2 = .slice q0j s2.length c_s2 ∧ E 4 = .pointer (some ⟨b4, 0, none⟩) ∧ E 6 = .pointer (some ⟨b6, 0, none⟩) ∧ E 8 = .map (some b31) ∧ E 9 = .map (some b32) ∧ E 10 = .map (some b33) ∧ E 11 = .map (some b34) ∧ E 12 = .slice q2 q0a.length c_y0_ret_7_2 ∧ E 26 = .int .i64 l_1.Layers ∧ E 27 = .int .i64 q3 ∧ E 135 = .slice q0j s2.length c_s2 ∧ E 136 = .int .i64 (s2.length : Int) ∧ E 137 = .int .i64 q1f ∧ St w0 w (cells q0c 103 [.map (some q5), .bool q1e] :: cells b4 31 [.int .i64 l_1.W, .int .i64 l_1.H, .int .i64 l_1.Layers, .int .i64 l_1.Nets, .slice q0f l_1.Wires.length c_l_1_4, .slice q0g l_1.Vias.length c_l_1_5, .slice q6 l_1.Pins.length c_l_1_6, .slice q0h l_1.Walls.length c_l_1_7] :: cells b6 3 [.int .i64 q3] :: mapM b31 (Value.int .i64) kf_61 Value.bool q0u q0r :: mapA b32 (Value.int .i64) (Value.int .i64) q14 :: mapA b33 (Value.int .i64) Value.bool q0n :: mapA b34 (Value.int .i64) kf_61 q0v :: vec 3 (RpI .i64).sz (.slice q2 q0a.length c_y0_ret_7_2) q0a.length q7 :: mapA q5 kf_63 Value.bool q1d :: ro ρ :: l)) ?_ ?_
     ·refine x_cond (t := x169) rfl (fun hc169 => ?_) (fun hc169 => ?_)
      ·replace hFc169 := it_t hc169 hFc169
       replace hFc169 := bd_s hFc169; obtain ⟨q3z, q62, hFc169⟩ := hFc169
       refine x_region <| p (yl_move q28) <| p (yl_field0 fld_122_0 rfl) <| pa (at_load one_3 rfl ((hS.pull 1).cell rfl)) <|
        pa (at_load one_3 q2k ((hS.pull 4).cell rfl)) <| p (yl_field0 fld_61_1 rfl) <| pa (at_load one_3 rfl (hS.cell rfl)) <| p (yl_field0 fld_61_2 rfl) <|
        pa (at_load one_3 rfl (hS.cell rfl)) <| p (v := .agg #[.int .i64 q3, .int .i64 x149.X, .int .i64 x149.Y]) (yl_build bld_61 bldf_61 (parts_eq (pt (va := .int .i64 q3) rfl (pt (va := .int .i64 x149.X) rfl (pt (va := .int .i64 x149.Y) rfl pt0)))) (by kernel_rfl)) <| p (v := .agg #[.int .i64 7, .int .i64 q1c.fnet, .int .i64 0, .int .i64 q3, .int .i64 x149.X, .int .i64 x149.Y]) (yl_build bld_63 bldf_63 (parts_eq (pt (va := .int .i64 7) rfl (pt (va := .int .i64 q1c.fnet) rfl (pt (va := .int .i64 0) rfl (pt (va := .agg #[.int .i64 q3, .int .i64 x149.X, .int .i64 x149.Y]) rfl pt0))))) (by kernel_rfl)) <| ?_
       have hcall := c_rules_bag_add q62  (((hS.pull 11).pull 11).pull 4)
       refine o_cc call_63 (args2 rfl rfl) hcall ?_
       rintro e w' ⟨rfl, hS⟩
       refine ⟨_, rfl, ?_⟩
       refine x_done <| ?_
       exact x_inv ⟨q3z.1, q3z.2, (sinj hFc169), q28, q2i, q2j, q2k, q2l, q2m, q2a, q2b, q2c, q2d, q2e, q26, q27, q1g, ((((((((((((hS.pull 3).drop.pull 3).drop.pull 2).pull 2).pull 9).pull 9).pull 9).pull 9).pull 9).pull 9).pull 9).pull 9)⟩
      ·replace hFc169 := it_bf hc169 hFc169
       refine x_skip <| ?_
       exact x_inv ⟨q0s, q0t, (sinj hFc169), q28, q2i, q2j, q2k, q2l, q2m, q2a, q2b, q2c, q2d, q2e, q26, q27, q1g, ((((((((((hS.drop.drop.pull 9).pull 9).pull 9).pull 9).pull 9).pull 9).pull 9).pull 9).pull 9).pull 9)⟩
     rintro E w ⟨q1d, q1e, rfl, q63, q64, q65, q66, q67, q68, q4f, q4g, q4h, q4i, q4j, q40, q41, q42, hS⟩
     replace hFL29 := ar_s hFL29; obtain ⟨x181, hx181, hFL29⟩ := hFL29
     refine x_blk <| x_region <| p (yadd q42 rfl hx181) <| p (yl_move rfl) <|
      x_done <| ?_
     have e_ := sinj hFL29; subst e_
     exact x_inv ⟨kL29, Nat.lt_succ_self _, x181, q1d, q1e, hLL29, q63, q64, q65, q66, q67, q68, q4f, q4g, q4h, q4i, q4j, q40, q41, rfl, ((((((((((hS.pull 9).pull 9).pull 9).pull 9).pull 9).pull 9).pull 9).pull 9).pull 9).pull 9)⟩
    ·replace hFL29 := it_f hc138 hFL29
     refine x_exitTo _ rfl <| ?_
     have e_ := sinj hFL29; subst e_
     exact x_inv ⟨q0s, q0t, hLL29, q28, q2i, q2j, q2d, q2e, ((((((((((hS.pull 2).drop.pull 2).drop.pull 2).drop.pull 2).drop.pull 2).drop.pull 2).drop.pull 3).pull 3).pull 3).pull 3)⟩
   rintro E w ⟨q1l, q1m, rfl, q85, q86, q87, q69, q6a, hS⟩
   replace hFL2 := ar_s hFL2; obtain ⟨x182, hx182, hFL2⟩ := hFL2
   refine x_blk <| x_region <| p (yadd q6a rfl hx182) <| p (yl_move rfl) <|
    x_done <| ?_
   have e_ := sinj hFL2; subst e_
   exact x_inv ⟨kL2, Nat.lt_succ_self _, x182, q1l, q1m, hLL2, q85, q86, q87, q69, rfl, ((((hS.pull 3).pull 3).pull 3).pull 3)⟩
  ·replace hFL2 := it_f hc28 hFL2
   refine x_exitTo _ rfl <| ?_
   have e_ := sinj hFL2; subst e_
   exact x_inv ⟨q8, q9, hLL2, ((((hS.pull 1).drop.pull 2).pull 2).pull 2)⟩
 rintro E w ⟨q24, q25, rfl, hS⟩
 have e_ := sinj hF; subst e_
 exact x_fin ⟨_, rfl, rfl, (((hS.pull 2).pull 2).pull 2)⟩
attribute [irreducible] P_rules_antenna

def P_cmp_isNaN_int (x0 : Int) : Option Unit :=
 some ()
theorem c_cmp_isNaN_int {w0 w : World} {l : List Assn} {ρ : Heap} {x0 : Int} {r : Unit} (hF : P_cmp_isNaN_int x0 = some r) (hS : St w0 w (ro ρ :: l)) :
  Calls Try.prog 92 #[.int .i64 x0] w fun e w' => e = .returned (.bool (decide (x0 ≠ x0))) ∧ St w0 w' (ro ρ :: l) := by
 refine enterC Try.func92 rfl 6 rfl (by simp) ?_
 refine x_seq <| x_region <| p (yl_assign rfl) <| x_done <|
  x_seq <| x_region <| p (yl_move rfl) <| p (yl_move rfl) <|
  p (yl_neq rfl rfl) <| p (yl_assign rfl) <| x_done <| ?_
 have e_ := sinj hF; subst e_
 exact x_return ⟨_, ⟨_, _, rfl, rfl, rfl⟩, rfl, hS⟩
attribute [irreducible] P_cmp_isNaN_int

def P_cmp_Compare_int (x0 : Int) (y1 : Int) : Option Int :=
 bd (P_cmp_isNaN_int x0) fun q2 =>
 bd (P_cmp_isNaN_int y1) fun q3 =>
 if x0 ≠ x0 then
  if y1 ≠ y1 then
   some (0 : Int)
  else
   some (-1 : Int)
 else
  if y1 ≠ y1 then
   some (1 : Int)
  else
   if x0 < y1 then
    some (-1 : Int)
   else
    if y1 < x0 then
     some (1 : Int)
    else
     some (0 : Int)
theorem c_cmp_Compare_int {w0 w : World} {l : List Assn} {ρ : Heap} {x0 : Int} {y1 : Int} {r : Int} (hF : P_cmp_Compare_int x0 y1 = some r) (hS : St w0 w (ro ρ :: l)) :
  Calls Try.prog 76 #[.int .i64 x0, .int .i64 y1] w fun e w' => e = .returned (.int .i64 r) ∧ St w0 w' (ro ρ :: l) := by
 refine enterC Try.func76 rfl 20 rfl (by simp) ?_
 replace hF := bd_s hF; obtain ⟨q4, q2, hF⟩ := hF
 refine x_seq <| x_region <| p (yl_assign rfl) <| x_done <|
  x_seq <| x_region <| p (yl_move rfl) <| ?_
 have hcall := c_cmp_isNaN_int q2  hS
 refine o_cc call_92 (args1 rfl) (hcall) ?_
 rintro e w' ⟨rfl, hS⟩
 refine ⟨_, rfl, ?_⟩
 replace hF := bd_s hF; obtain ⟨q5, q3, hF⟩ := hF
 refine p (v := .bool (decide (x0 ≠ x0))) (yl_assign rfl) <| x_done <| x_seq <| x_region <|
  p (yl_move rfl) <| ?_
 have hcall := c_cmp_isNaN_int q3  hS
 refine o_cc call_92 (args1 rfl) (hcall) ?_
 rintro e w' ⟨rfl, hS⟩
 refine ⟨_, rfl, ?_⟩
 refine p (v := .bool (decide (y1 ≠ y1))) (yl_assign rfl) <| x_done <| x_seq <| x_seq <|
  x_region <| p (v := .bool (decide (x0 ≠ x0))) (yl_move rfl) <| x_done <|
  x_cond_p (x0 ≠ x0) rfl (fun hc11 => ?_) (fun hc11 => ?_)
 ·replace hF := it_t hc11 hF
  refine x_seq <| x_seq <| x_region <| p (v := .bool (decide (y1 ≠ y1))) (yl_move rfl) <|
   x_done <|
   x_cond_p (y1 ≠ y1) rfl (fun hc12 => ?_) (fun hc12 => ?_)
  ·replace hF := it_t hc12 hF
   refine x_seq <| x_region <| p (yl_assign rfl) <| x_done <| ?_
   have e_ := sinj hF; subst e_
   exact x_return ⟨_, ⟨_, _, rfl, rfl, rfl⟩, rfl, hS⟩
  ·replace hF := it_f hc12 hF
   refine x_skip <| x_seq <| x_region <| p (yl_assign rfl) <|
    x_done <| ?_
   have e_ := sinj hF; subst e_
   exact x_return ⟨_, ⟨_, _, rfl, rfl, rfl⟩, rfl, hS⟩
 ·replace hF := it_f hc11 hF
  refine x_skip <| x_seq <| x_seq <| x_region <|
   p (v := .bool (decide (y1 ≠ y1))) (yl_move rfl) <| x_done <|
   x_cond_p (y1 ≠ y1) rfl (fun hc13 => ?_) (fun hc13 => ?_)
  ·replace hF := it_t hc13 hF
   refine x_seq <| x_region <| p (yl_assign rfl) <| x_done <| ?_
   have e_ := sinj hF; subst e_
   exact x_return ⟨_, ⟨_, _, rfl, rfl, rfl⟩, rfl, hS⟩
  ·replace hF := it_f hc13 hF
   refine x_skip <| x_seq <| x_seq <| x_region <|
    p (yl_move rfl) <| p (yl_move rfl) <| p (yl_lss rfl rfl) <| x_done <|
    x_cond_p (x0 < y1) rfl (fun hc16 => ?_) (fun hc16 => ?_)
   ·replace hF := it_t hc16 hF
    refine x_seq <| x_region <| p (yl_assign rfl) <| x_done <| ?_
    have e_ := sinj hF; subst e_
    exact x_return ⟨_, ⟨_, _, rfl, rfl, rfl⟩, rfl, hS⟩
   ·replace hF := it_f hc16 hF
    refine x_skip <| x_seq <| x_seq <| x_region <|
     p (yl_move rfl) <| p (yl_move rfl) <| p (yl_gtr rfl rfl) <| x_done <|
     x_cond_p (y1 < x0) rfl (fun hc19 => ?_) (fun hc19 => ?_)
    ·replace hF := it_t hc19 hF
     refine x_seq <| x_region <| p (yl_assign rfl) <| x_done <| ?_
     have e_ := sinj hF; subst e_
     exact x_return ⟨_, ⟨_, _, rfl, rfl, rfl⟩, rfl, hS⟩
    ·replace hF := it_f hc19 hF
     refine x_skip <| x_seq <| x_region <| p (yl_assign rfl) <|
      x_done <| ?_
     have e_ := sinj hF; subst e_
     exact x_return ⟨_, ⟨_, _, rfl, rfl, rfl⟩, rfl, hS⟩
attribute [irreducible] P_cmp_Compare_int

def P_cmp_Or_int_L3 (vals0 : List Int) : Int → Option (Int ⊕ (Unit ⊕ Int)) := fun q2 =>
 if q2 < (vals0.length : Int) then
  ck (inb q2 vals0.length) <|
  lv (gt vals0 q2) fun x11 =>
  if x11 ≠ 0 then
   some (Sum.inr (Sum.inr x11))
  else
   ar (q2 + 1) fun x16 =>
   some (Sum.inl x16)
 else
  some (Sum.inr (Sum.inl ()))
def P_cmp_Or_int (vals0 : List Int) : Option Int :=
 bs (
  lp (P_cmp_Or_int_L3 vals0) fuel 0) (fun y => some y) fun _ =>
 some (0 : Int)
theorem c_cmp_Or_int {w0 w : World} {l : List Assn} {ρ : Heap} {q3 : Option Addr} {q7 : Nat} {c_vals0 : Nat} {vals0 : List Int} {r : Int} (hF : P_cmp_Or_int vals0 = some r) (q4 : RdS (RpI .i64) ρ q3 q7 c_vals0 vals0) (hS : St w0 w (ro ρ :: l)) :
  Calls Try.prog 75 #[.slice q3 q7 c_vals0] w fun e w' => e = .returned (.int .i64 r) ∧ St w0 w' (ro ρ :: l) := by
 have e_ := q4.n; subst e_
 refine enterC Try.func75 rfl 18 rfl (by simp) ?_
 refine x_seq <| x_region <| p (yl_assign rfl) <| x_done <|
  x_seq <| x_region <| p (yl_assign rfl) <| x_done <|
  x_seq <| x_seq <| x_region <| p (yl_move rfl) <|
  p (yl_len_slice usl_22 rfl) <| p (yl_move rfl) <| x_done <| ?_
 replace hF := bs_s hF; obtain ⟨oL3, hLL3, hF⟩ := hF
 refine x_join (fun E w => (Sum.inl (())) = oL3 ∧ E 3 = .int .i64 0 ∧ St w0 w (ro ρ :: l)) ?_ ?_
 ·refine x_block ?_
  refine x_loop (fun k_ E w => ∃ (q2 : Int), lp (P_cmp_Or_int_L3 vals0) k_ q2 = some oL3 ∧ E 3 = .int .i64 0 ∧ E 6 = .slice q3 vals0.length c_vals0 ∧ E 7 = .int .i64 (vals0.length : Int) ∧ E 8 = .int .i64 q2 ∧ St w0 w (ro ρ :: l)) fuel ⟨0, hLL3, rfl, rfl, rfl, rfl, hS⟩ ?_
  rintro kL3 E w ⟨q2, hLL3, q5, q8, q9, q6, hS⟩
  replace hLL3 := lp_s hLL3; obtain ⟨kL3, obL3, rfl, hFL3, hLL3⟩ := hLL3
  refine x_seq <| x_region <| p (yl_lss q6 q9) <| x_done <|
   x_seq <|
   x_cond_p (q2 < (vals0.length : Int)) rfl (fun hc9 => ?_) (fun hc9 => ?_)
  ·replace hFL3 := it_t hc9 hFL3
   replace hFL3 := ck_s hFL3; obtain ⟨q0a, hFL3⟩ := hFL3
   replace hFL3 := lv_s hFL3; obtain ⟨x11, hx11, hFL3⟩ := hFL3
   refine x_skip <| x_seq <| x_block <| x_seq <|
    x_region <| p (yix_f sl_22 q8 q6 q4 q0a) <| pa (at_load one_3 rfl (RdS.getW q4 hS q0a hx11)) <| p (yl_assign rfl) <|
    x_done <| x_seq <| x_region <| p (yl_move rfl) <|
    p (yl_move q5) <| p (yl_neq rfl rfl) <| x_done <|
    x_cond_p (x11 ≠ 0) rfl (fun hc14 => ?_) (fun hc14 => ?_)
   ·replace hFL3 := it_t hc14 hFL3
    refine x_seq <| x_region <| p (yl_move rfl) <| p (yl_assign rfl) <|
     x_done <| ?_
    have e_ := sinj hFL3; subst e_
    have e_ := (show _ = oL3 from hLL3); subst e_
    have e_ := sinj hF; subst e_
    exact x_return ⟨_, ⟨_, _, rfl, rfl, rfl⟩, rfl, hS⟩
   ·replace hFL3 := it_f hc14 hFL3
    replace hFL3 := ar_s hFL3; obtain ⟨x16, hx16, hFL3⟩ := hFL3
    refine x_skip <| x_blk <| x_region <| p (yadd q6 rfl hx16) <|
     p (yl_move rfl) <| x_done <| ?_
    have e_ := sinj hFL3; subst e_
    exact x_inv ⟨kL3, Nat.lt_succ_self _, x16, hLL3, q5, q8, q9, rfl, hS⟩
  ·replace hFL3 := it_f hc9 hFL3
   refine x_exitTo _ rfl <| ?_
   have e_ := sinj hFL3; subst e_
   exact x_inv ⟨hLL3, q5, hS⟩
 rintro E w ⟨rfl, q0b, hS⟩
 refine x_seq <| x_region <| p (yl_move q0b) <| p (yl_assign rfl) <|
  x_done <| ?_
 have e_ := sinj hF; subst e_
 exact x_return ⟨_, ⟨_, _, rfl, rfl, rfl⟩, rfl, hS⟩
attribute [irreducible] P_cmp_Or_int

def P_rules_compare (a0 : T_rules_Fault) (b1 : T_rules_Fault) : Option Int :=
 bd (P_cmp_Compare_int a0.Kind b1.Kind) fun q7 =>
 bd (P_cmp_Compare_int a0.Net b1.Net) fun q8 =>
 bd (P_cmp_Compare_int a0.Other b1.Other) fun q2 =>
 bd (P_cmp_Compare_int a0.At.Layer b1.At.Layer) fun q3 =>
 bd (P_cmp_Compare_int a0.At.Y b1.At.Y) fun q4 =>
 bd (P_cmp_Compare_int a0.At.X b1.At.X) fun q5 =>
 bd (P_cmp_Or_int ([q7, q8, q2, q3, q4, q5] : List Int)) fun q6 =>
 some q6
theorem c_rules_compare {w0 w : World} {l : List Assn} {ρ : Heap} {a0 : T_rules_Fault} {b1 : T_rules_Fault} {r : Int} (hF : P_rules_compare a0 b1 = some r) (hS : St w0 w (ro ρ :: l)) :
  Calls Try.prog 53 #[.agg #[.int .i64 a0.Kind, .int .i64 a0.Net, .int .i64 a0.Other, .int .i64 a0.At.Layer, .int .i64 a0.At.X, .int .i64 a0.At.Y], .agg #[.int .i64 b1.Kind, .int .i64 b1.Net, .int .i64 b1.Other, .int .i64 b1.At.Layer, .int .i64 b1.At.X, .int .i64 b1.At.Y]] w fun e w' => e = .returned (.int .i64 r) ∧ St w0 w' (ro ρ :: l) := by
 refine enterC Try.func53 rfl 43 rfl (by simp) ?_
 refine x_seq <| x_region <| ?_
 refine o_box (cs := [.int .i64 a0.Kind, .int .i64 a0.Net, .int .i64 a0.Other, .int .i64 a0.At.Layer, .int .i64 a0.At.X, .int .i64 a0.At.Y]) rfl rfl hS (fun b2 w' hS => ?_)
 refine o_box (cs := [.int .i64 b1.Kind, .int .i64 b1.Net, .int .i64 b1.Other, .int .i64 b1.At.Layer, .int .i64 b1.At.X, .int .i64 b1.At.Y]) rfl rfl hS (fun b3 w' hS => ?_)
 replace hF := bd_s hF; obtain ⟨q6, q0e, hF⟩ := hF
 replace hF := bd_s hF; obtain ⟨q7, q0f, hF⟩ := hF
 replace hF := bd_s hF; obtain ⟨q2, q8, hF⟩ := hF
 replace hF := bd_s hF; obtain ⟨q3, q9, hF⟩ := hF
 replace hF := bd_s hF; obtain ⟨q4, q0a, hF⟩ := hF
 replace hF := bd_s hF; obtain ⟨q5, q0b, hF⟩ := hF
 refine p (yl_assign rfl) <| x_done <| x_seq <| x_head 36 mixed (by kernel_rfl) hS _ _ rfl rfl <|
  q (yl_field0 fld_63_0 rfl) <| qa (fun w' hS => at_load one_3 rfl ((hS.pull 1).cell rfl)) <| q (yl_field0 fld_63_0 rfl) <| qa (fun w' hS => at_load one_3 rfl (hS.cell rfl)) <|
  qcc (v := .int .i64 q6) call_76 (args2 rfl rfl) (fun w' hS => by
   have hcall := c_cmp_Compare_int q0e  (hS.pull 2)
   exact (Calls.mono hcall (fun e w'' h => And.intro h.1 ((h.2.pull 2).pull 2)))) <| q (yl_field0 fld_63_1 rfl) <| qa (fun w' hS => at_load one_3 rfl ((hS.pull 1).cell rfl)) <| q (yl_field0 fld_63_1 rfl) <|
  qa (fun w' hS => at_load one_3 rfl (hS.cell rfl)) <| qcc (v := .int .i64 q7) call_76 (args2 rfl rfl) (fun w' hS => by
   have hcall := c_cmp_Compare_int q0f  (hS.pull 2)
   exact (Calls.mono hcall (fun e w'' h => And.intro h.1 ((h.2.pull 2).pull 2)))) <| q (yl_field0 fld_63_2 rfl) <| qa (fun w' hS => at_load one_3 rfl ((hS.pull 1).cell rfl)) <|
  q (yl_field0 fld_63_2 rfl) <| qa (fun w' hS => at_load one_3 rfl (hS.cell rfl)) <| qcc (v := .int .i64 q2) call_76 (args2 rfl rfl) (fun w' hS => by
   have hcall := c_cmp_Compare_int q8  (hS.pull 2)
   exact (Calls.mono hcall (fun e w'' h => And.intro h.1 ((h.2.pull 2).pull 2)))) <| q (yl_field0 fld_63_3 rfl) <|
  q (yl_fieldN fld_61_0 rfl) <| qa (fun w' hS => at_load one_3 rfl ((hS.pull 1).cell rfl)) <| q (yl_field0 fld_63_3 rfl) <| q (yl_fieldN fld_61_0 rfl) <|
  qa (fun w' hS => at_load one_3 rfl (hS.cell rfl)) <| qcc (v := .int .i64 q3) call_76 (args2 rfl rfl) (fun w' hS => by
   have hcall := c_cmp_Compare_int q9  (hS.pull 2)
   exact (Calls.mono hcall (fun e w'' h => And.intro h.1 ((h.2.pull 2).pull 2)))) <| q (yl_field0 fld_63_3 rfl) <| q (yl_fieldN fld_61_2 rfl) <|
  qa (fun w' hS => at_load one_3 rfl ((hS.pull 1).cell rfl)) <| q (yl_field0 fld_63_3 rfl) <| q (yl_fieldN fld_61_2 rfl) <| qa (fun w' hS => at_load one_3 rfl (hS.cell rfl)) <|
  qcc (v := .int .i64 q4) call_76 (args2 rfl rfl) (fun w' hS => by
   have hcall := c_cmp_Compare_int q0a  (hS.pull 2)
   exact (Calls.mono hcall (fun e w'' h => And.intro h.1 ((h.2.pull 2).pull 2)))) <| q (yl_field0 fld_63_3 rfl) <| q (yl_fieldN fld_61_1 rfl) <| qa (fun w' hS => at_load one_3 rfl ((hS.pull 1).cell rfl)) <|
  q (yl_field0 fld_63_3 rfl) <| q (yl_fieldN fld_61_1 rfl) <| qa (fun w' hS => at_load one_3 rfl (hS.cell rfl)) <| qcc (v := .int .i64 q5) call_76 (args2 rfl rfl) (fun w' hS => by
   have hcall := c_cmp_Compare_int q0b  (hS.pull 2)
   exact (Calls.mono hcall (fun e w'' h => And.intro h.1 ((h.2.pull 2).pull 2)))) <|
  q_done fun w' hS => ?_
 refine o_buildSlice (vs := [.int .i64 q6, .int .i64 q7, .int .i64 q2, .int .i64 q3, .int .i64 q4, .int .i64 q5]) (cs := [.int .i64 q6, .int .i64 q7, .int .i64 q2, .int .i64 q3, .int .i64 q4, .int .i64 q5]) sl_22 zero_3 (parts_eq (pt (va := .int .i64 q6) rfl (pt (va := .int .i64 q7) rfl (pt (va := .int .i64 q2) rfl (pt (va := .int .i64 q3) rfl (pt (va := .int .i64 q4) rfl (pt (va := .int .i64 q5) rfl pt0))))))) rfl (by intro v hv; simp only [List.mem_cons, List.not_mem_nil, or_false] at hv; first | (subst hv; rfl) | (rcases hv with rfl | rfl | rfl | rfl | rfl | rfl <;> rfl)) (by decide) rfl hS (fun b41 w' hS => ?_)
 have q0c : RepL (RpI .i64) ρ ([q6, q7, q2, q3, q4, q5] : List Int) [.int .i64 q6, .int .i64 q7, .int .i64 q2, .int .i64 q3, .int .i64 q4, .int .i64 q5] := (RepL.cons (cs := [.int .i64 q6]) rfl (RepL.cons (cs := [.int .i64 q7]) rfl (RepL.cons (cs := [.int .i64 q2]) rfl (RepL.cons (cs := [.int .i64 q3]) rfl (RepL.cons (cs := [.int .i64 q4]) rfl (RepL.cons (cs := [.int .i64 q5]) rfl RepL.nil))))))
 replace hS := St.vec_of (n := 6) (sz := (RpI .i64).sz) hS rfl (by decide)
 replace hF := bd_s hF; obtain ⟨q0g, q0d, hF⟩ := hF
 have q_ := St.lend ((hS.pull 3).pull 1) q0c; obtain ⟨ρl0, hll0, hlf0, hS0, back0⟩ := q_
 have hcall := c_cmp_Or_int q0d hlf0 hS0
 refine o_cc call_75 (args1 rfl) ((Calls.mono hcall (fun e w'' h => And.intro h.1 (((((back0 h.2).pull 1).pull 3).pull 3).pull 3)))) ?_
 rintro e w' ⟨rfl, hS⟩
 refine ⟨_, rfl, ?_⟩
 refine p (v := .int .i64 q0g) (yl_assign rfl) <| x_done <| ?_
 have e_ := sinj hF; subst e_
 exact x_return ⟨_, ⟨_, _, rfl, rfl, rfl⟩, rfl, hS.drop.drop.drop⟩
attribute [irreducible] P_rules_compare
def cmpI (x y : Int) : Int := if x < y then -1 else if y < x then 1 else 0
def orL : List Int → Int
 | [] => 0
 | x :: r => if x ≠ 0 then x else orL r
/-- How faults are compared. -/
def keyF (x : T_rules_Fault) : List Int := [x.Kind, x.Net, x.Other, x.At.Layer, x.At.Y, x.At.X]
def cmpFault (a b : T_rules_Fault) : Int := orL [cmpI a.Kind b.Kind, cmpI a.Net b.Net, cmpI a.Other b.Other, cmpI a.At.Layer b.At.Layer, cmpI a.At.Y b.At.Y, cmpI a.At.X b.At.X]
theorem compare_cmpI (x y : Int) : P_cmp_Compare_int x y = some (cmpI x y) := by
 unfold P_cmp_Compare_int P_cmp_isNaN_int cmpI
 simp only [bd, ne_eq, not_true_eq_false, if_false]
 split
 ·rfl
 ·split <;> rfl
theorem or_orL {vals : List Int} (h : vals.length < 1000) : P_cmp_Or_int vals = some (orL vals) := by
 have key : Ok (P_cmp_Or_int vals) (fun r => r = orL vals) := by
  unfold P_cmp_Or_int
  refine ok_bs (R := fun o => match o with | .inl _ => orL vals = 0 | .inr r => r = orL vals) ?_ (fun _ h => ok_some h.symm) (fun r h => ok_some h)
  refine ok_lp (fun i => 0 ≤ i ∧ i ≤ vals.length ∧ orL (vals.drop i.toNat) = orL vals) (fun i => ((vals.length : Int) - i).toNat) ⟨by omega, by omega, by simp⟩ (by omega) ?_
  rintro i ⟨h0, h1, h2⟩
  unfold P_cmp_Or_int_L3
  refine ok_ite (fun hc => ?_) (fun hc => ok_some ?_)
  ·have hd : vals.drop i.toNat = gt vals i :: vals.drop (i.toNat + 1) := by
    rw [List.drop_eq_getElem_cons (by omega), gt_get ⟨h0, hc⟩]
   rw [hd] at h2
   simp only [orL] at h2
   refine ok_ck ⟨h0, hc⟩ (ok_lv (ok_ite (fun hx => ok_some ?_) (fun hx => ok_ar (by unfold I64; omega) (ok_some ?_))))
   ·rw [if_pos hx] at h2; exact h2
   ·rw [if_neg hx] at h2
    refine ⟨⟨by omega, by omega, ?_⟩, by omega⟩
    rw [show (i + 1).toNat = i.toNat + 1 by omega]; exact h2
  ·rw [List.drop_of_length_le (by omega)] at h2
   exact h2.symm
 obtain ⟨r, h1, h2⟩ := key
 rw [h1, h2]
theorem cmp_cmpFault (a b : T_rules_Fault) : P_rules_compare a b = some (cmpFault a b) := by
 unfold P_rules_compare cmpFault
 simp only [compare_cmpI, bd]
 rw [or_orL (by simp)]
def lexL : List Int → List Int → Prop
 | a :: xs, b :: ys => a < b ∨ a = b ∧ lexL xs ys
 | _, _ => False
theorem lexL_irr : ∀ {x : List Int}, ¬ lexL x x
 | [] => fun h => h
 | a :: xs => fun h => by
  rcases h with h | ⟨_, h⟩
  ·omega
  ·exact lexL_irr h
theorem lexL_tr : ∀ {x y z : List Int}, lexL x y → lexL y z → lexL x z
 | [], _, _, h, _ => absurd h (by simp [lexL])
 | _ :: _, [], _, h, _ => absurd h (by simp [lexL])
 | _ :: _, _ :: _, [], _, h => absurd h (by simp [lexL])
 | a :: xs, b :: ys, c :: cs, h1, h2 => by
  rcases h1 with h1 | ⟨rfl, h1⟩
  ·rcases h2 with h2 | ⟨rfl, h2⟩
   ·exact .inl (by omega)
   ·exact .inl h1
  ·rcases h2 with h2 | ⟨rfl, h2⟩
   ·exact .inl h2
   ·exact .inr ⟨rfl, lexL_tr h1 h2⟩
theorem lexL_tot : ∀ {x y : List Int}, x.length = y.length → ¬ lexL x y → ¬ lexL y x → x = y
 | [], [], _, _, _ => rfl
 | [], _ :: _, h, _, _ => by simp at h
 | _ :: _, [], h, _, _ => by simp at h
 | a :: xs, b :: ys, h, h1, h2 => by
  simp only [lexL, not_or, not_and] at h1 h2
  have e : a = b := by omega
  subst e
  rw [lexL_tot (by simpa using h) (h1.2 rfl) (h2.2 rfl)]
theorem orL_neg (a b : Int) (r : List Int) : orL (cmpI a b :: r) < 0 ↔ a < b ∨ a = b ∧ orL r < 0 := by
 by_cases h1 : a < b
 ·have : cmpI a b = -1 := by unfold cmpI; rw [if_pos h1]
  simp only [orL, this]; simp; omega
 ·by_cases h2 : b < a
  ·have : cmpI a b = 1 := by unfold cmpI; rw [if_neg h1, if_pos h2]
   simp only [orL, this]; simp; omega
  ·have : cmpI a b = 0 := by unfold cmpI; rw [if_neg h1, if_neg h2]
   simp only [orL, this]; simp; omega
theorem cmpFault_lex (a b : T_rules_Fault) : cmpFault a b < 0 ↔ lexL (keyF a) (keyF b) := by
 unfold cmpFault keyF
 rw [orL_neg, orL_neg, orL_neg, orL_neg, orL_neg, orL_neg]
 simp [lexL, orL]
theorem keyF_inj {a b : T_rules_Fault} (h : keyF a = keyF b) : a = b := by
 obtain ⟨a1, a2, a3, a4, a5, a6⟩ := a
 obtain ⟨b1, b2, b3, b4, b5, b6⟩ := b
 simp only [keyF, List.cons.injEq, and_true] at h
 obtain ⟨rfl, rfl, rfl, rfl, rfl, rfl⟩ := h
 rfl
theorem cmpFault_lt (a b : T_rules_Fault) : ltOf cmpFault a b = true ↔ lexL (keyF a) (keyF b) := by
 unfold ltOf; rw [decide_eq_true_eq]; exact cmpFault_lex a b
theorem cmpFault_nlt (a b : T_rules_Fault) : ltOf cmpFault a b = false ↔ ¬ lexL (keyF a) (keyF b) := by
 rw [← cmpFault_lt]; simp
theorem cmpFault_tot (a b : T_rules_Fault) (h1 : ltOf cmpFault a b = false) (h2 : ltOf cmpFault b a = false) : a = b :=
 keyF_inj (lexL_tot rfl ((cmpFault_nlt _ _).1 h1) ((cmpFault_nlt _ _).1 h2))
theorem cmpFault_swo : Go.Sort.SWO (ltOf cmpFault) where
 irrefl x := (cmpFault_nlt _ _).2 lexL_irr
 trans x y z h1 h2 := (cmpFault_lt _ _).2 (lexL_tr ((cmpFault_lt _ _).1 h1) ((cmpFault_lt _ _).1 h2))
 ntrans x y z h1 h2 := by
  rw [cmpFault_nlt] at h1 h2 ⊢
  intro h
  by_cases q : lexL (keyF y) (keyF x)
  ·exact h2 (lexL_tr q h)
  ·rw [lexL_tot (x := keyF x) (y := keyF y) rfl h1 q] at h
   exact h2 h
theorem cmpFault_sort {w0 w : World} {l : List Assn} {ρ : Heap} {A : Option Addr} {n c : Nat} {xs : List T_rules_Fault} {cs : List Value} (hlen : xs.length < 4611686018427387904) (hS : St w0 w (vec 63 R_rules_Fault.sz (.slice A n c) n cs :: ro ρ :: l)) (hR : RepL R_rules_Fault ρ xs cs) :
  Calls Try.prog 52 #[.slice A n c, .func (.func 53) #[] #[]] w fun e' w' => e' = .returned (.tuple #[]) ∧ ∃ cs', RepL R_rules_Fault ρ (sortF cmpFault xs) cs' ∧ St w0 w' (vec 63 R_rules_Fault.sz (.slice A n c) n cs' :: ro ρ :: l) :=
 sort_at (ρr := Try.sortFault_ren) Try.sortFault (k := 6) Try.isAgg63 Try.sizeOf63 (enc := fun x : T_rules_Fault => [.int .i64 x.Kind, .int .i64 x.Net, .int .i64 x.Other, .int .i64 x.At.Layer, .int .i64 x.At.X, .int .i64 x.At.Y]) (fun _ => rfl) (fun x v hv => allOne_spec rfl v hv) cmpFault_swo cmpFault_tot (show callB Try.prog 53 = true by kernel_rfl) (fun _ _ _ => Iff.rfl) rfl (fun x y {w0 w ρ} hS => c_rules_compare (cmp_cmpFault x y) hS) hlen hS hR

def P_rules_Faults_L15 (q4 : (List (T_rules_Fault × Bool) × Bool)) : (List T_rules_Fault × List Nat) → Nd ((List T_rules_Fault × List Nat) ⊕ List T_rules_Fault) := fun (q2, q3) =>
 nnx (q4.1.length) q3 (
  nret (Sum.inr q2)) fun i42 =>
 nlv (gt q4.1 i42) fun e44 =>
 nlv (q2 ++ [e44.1]) fun q5 =>
 nck (apOk 48 q5.length) <|
 nret (Sum.inl (q5, (q3 ++ [i42])))
def P_rules_Faults (l_0 : T_rules_Layout) : Nd (List T_rules_Fault × Int) :=
 nbd (nof (P_rules_Check l_0)) fun q0a =>
 if q0a ≠ 0 then
  nret ([], q0a)
 else
  nbd (nof (P_rules_shapes l_0)) fun q2 =>
  nbd (nof (P_rules_shorts [] false l_0 q2)) fun q3 =>
  if q3.2 = true then
   nret ([], (3 : Int))
  else
   nbd (nof (P_rules_walled q3.1 q3.2 l_0 q2)) fun q4 =>
   if q4.2 = true then
    nret ([], (3 : Int))
   else
    nbd (P_rules_near q4.1 q4.2 l_0 q2) fun q5 =>
    if q5.2 = true then
     nret ([], (3 : Int))
    else
     nbd (P_rules_small q5.1 q5.2 l_0 q2) fun q6 =>
     if q6.2 = true then
      nret ([], (3 : Int))
     else
      nbd (nof (P_rules_open q6.1 q6.2 l_0 q2)) fun q7 =>
      if q7.2 = true then
       nret ([], (3 : Int))
      else
       nbd (nof (P_rules_antenna q7.1 q7.2 l_0 q2)) fun q9 =>
       if q9.2 = true then
        nret ([], (3 : Int))
       else
        nbd (
         nlp (P_rules_Faults_L15 q9) fuel ([], [])) fun q8 =>
        nck (q8.length < 4611686018427387904) <|
        nlv (sortF cmpFault q8) fun q0b =>
        nret (q0b, (0 : Int))
theorem c_rules_Faults {w0 w : World} {l : List Assn} {ρ : Heap} {q5 : Option Addr} {q0w : Nat} {c_l_0_4 : Nat} {q6 : Option Addr} {q0x : Nat} {c_l_0_5 : Nat} {q7 : Option Addr} {q0y : Nat} {c_l_0_6 : Nat} {q8 : Option Addr} {q0z : Nat} {c_l_0_7 : Nat} {l_0 : T_rules_Layout} {Q : (List T_rules_Fault × Int) → Prop} (hF : P_rules_Faults l_0 Q) (q0a : RdS R_rules_Wire ρ q5 q0w c_l_0_4 l_0.Wires) (q0b : RdS R_rules_Via ρ q6 q0x c_l_0_5 l_0.Vias) (q0c : RdS R_rules_Pin ρ q7 q0y c_l_0_6 l_0.Pins) (q0d : RdS R_floor_Wall ρ q8 q0z c_l_0_7 l_0.Walls) (hS : St w0 w (ro ρ :: l)) :
  Calls Try.prog 21 #[.agg #[.int .i64 l_0.W, .int .i64 l_0.H, .int .i64 l_0.Layers, .int .i64 l_0.Nets, .slice q5 q0w c_l_0_4, .slice q6 q0x c_l_0_5, .slice q7 q0y c_l_0_6, .slice q8 q0z c_l_0_7]] w fun e w' => ∃ r : (List T_rules_Fault × Int), Q r ∧ ∃ (q0v : Option Addr) (q0o : Nat) (c_y0_ret : Nat) (q0u : List Value), e = .returned (.tuple #[.slice q0v q0o c_y0_ret, .int .i64 r.2]) ∧ RepL R_rules_Fault ρ r.1 q0u ∧ St w0 w' (vec 63 R_rules_Fault.sz (.slice q0v q0o c_y0_ret) q0o q0u :: ro ρ :: l) := by
 have e_ := q0a.n; subst e_
 have e_ := q0b.n; subst e_
 have e_ := q0c.n; subst e_
 have e_ := q0d.n; subst e_
 refine enterC Try.func21 rfl 53 rfl (by simp) ?_
 refine x_seq <| x_region <| ?_
 refine o_box (cs := [.int .i64 l_0.W, .int .i64 l_0.H, .int .i64 l_0.Layers, .int .i64 l_0.Nets, .slice q5 l_0.Wires.length c_l_0_4, .slice q6 l_0.Vias.length c_l_0_5, .slice q7 l_0.Pins.length c_l_0_6, .slice q8 l_0.Walls.length c_l_0_7]) rfl rfl hS (fun b1 w' hS => ?_)
 replace hF := nbd_s hF; obtain ⟨q0t, q1m, hF⟩ := hF
 refine p (yl_assign rfl) <| p (yl_assign rfl) <| x_done <| x_seq <|
  x_seq <| x_region <| pa (v := .agg #[.int .i64 l_0.W, .int .i64 l_0.H, .int .i64 l_0.Layers, .int .i64 l_0.Nets, .slice q5 l_0.Wires.length c_l_0_4, .slice q6 l_0.Vias.length c_l_0_5, .slice q7 l_0.Pins.length c_l_0_6, .slice q8 l_0.Walls.length c_l_0_7]) (ld_sub agg_31 rfl rfl rfl hS) <| ?_
 have hcall := c_rules_Check q1m q0a q0b q0c q0d (hS.pull 1)
 refine o_cc call_44 (args1 rfl) ((Calls.mono hcall (fun e w'' h => And.intro h.1 (h.2.pull 1)))) ?_
 rintro e w' ⟨rfl, hS⟩
 refine ⟨_, rfl, ?_⟩
 refine p (v := .int .i64 q0t) (yl_assign rfl) <| x_done <| x_seq <| x_region <|
  p (v := .int .i64 q0t) (yl_move rfl) <| p (yl_neq rfl rfl) <| x_done <|
  x_cond_p (q0t ≠ 0) rfl (fun hc14 => ?_) (fun hc14 => ?_)
 ·replace hF := nit_t hc14 hF
  refine x_seq <| x_region <| p (v := .int .i64 q0t) (yl_move rfl) <| p (yl_assign rfl) <|
   p (v := .int .i64 q0t) (yl_assign rfl) <| x_done <| ?_
  replace hS := St.vec_nil hS 63 R_rules_Fault.sz
  have q3 : RepL R_rules_Fault ρ [] [] := rfl
  exact x_return ⟨_, ⟨_, _, rfl, rfl, _, _, rfl, rfl, rfl⟩, ([], q0t), hF, none, 0, 0, [], rfl, q3, (((hS.pull 1).drop.pull 1).pull 1)⟩
 ·replace hF := nit_f hc14 hF
  replace hF := nbd_s hF; obtain ⟨q1r, q1n, hF⟩ := hF
  refine x_skip <| x_seq <| x_region <| pa (v := .agg #[.int .i64 l_0.W, .int .i64 l_0.H, .int .i64 l_0.Layers, .int .i64 l_0.Nets, .slice q5 l_0.Wires.length c_l_0_4, .slice q6 l_0.Vias.length c_l_0_5, .slice q7 l_0.Pins.length c_l_0_6, .slice q8 l_0.Walls.length c_l_0_7]) (ld_sub agg_31 rfl rfl rfl hS) <| ?_
  have hcall := c_rules_shapes q1n q0a q0b q0c q0d (hS.pull 1)
  refine o_cc call_45 (args1 rfl) hcall ?_
  rintro e w' ⟨q9, q1a, q1b, c_y0_ret_4_1, q19, rfl, q2, q4, hS⟩
  refine ⟨_, rfl, ?_⟩
  have e_ := St.vec_n hS q4; subst e_
  refine p (yl_assign rfl) <| x_done <| x_seq <| x_region <| ?_
  refine o_mkmap (κ := T_rules_Fault) (α := Bool) kf_63 Value.bool hS (fun b18 w' hS => ?_)
  refine p (v := .agg #[.map (some b18), .bool false]) (yl_build bld_103 bldf_103 (parts_eq (pt (va := .map (some b18)) rfl pt0)) (by kernel_rfl)) <| ?_
  refine o_box (cs := [.map (some b18), .bool false]) rfl rfl hS (fun b20 w' hS => ?_)
  refine p (yl_assign rfl) <| x_done <| x_seq <| x_seq <|
   x_region <| ?_
  refine o_buildSlice (vs := [.func (.func 46) #[] #[], .func (.func 47) #[] #[], .func (.func 48) #[] #[], .func (.func 49) #[] #[], .func (.func 50) #[] #[], .func (.func 51) #[] #[]]) (cs := [.func (.func 46) #[] #[], .func (.func 47) #[] #[], .func (.func 48) #[] #[], .func (.func 49) #[] #[], .func (.func 50) #[] #[], .func (.func 51) #[] #[]]) sl_105 zero_104 (parts_eq (pt (va := .func (.func 46) #[] #[]) rfl (pt (va := .func (.func 47) #[] #[]) rfl (pt (va := .func (.func 48) #[] #[]) rfl (pt (va := .func (.func 49) #[] #[]) rfl (pt (va := .func (.func 50) #[] #[]) rfl (pt (va := .func (.func 51) #[] #[]) rfl pt0))))))) rfl (by intro v hv; simp only [List.mem_cons, List.not_mem_nil, or_false] at hv; first | (subst hv; rfl) | (rcases hv with rfl | rfl | rfl | rfl | rfl | rfl <;> rfl)) (by decide) rfl hS (fun b21 w' hS => ?_)
  replace hF := nbd_s hF; obtain ⟨q1c, q15, hF⟩ := hF
  refine p (yl_len_slice usl_105 rfl) <| p (yl_move rfl) <| x_done <| x_block <|
   x_unroll 6 <| x_seq <| x_region <| p (ylss_l (t := true) rfl rfl (by decide)) <|
   x_done <| x_seq <| x_cond_t (show ev _ _ = .bool true from rfl) <| x_skip <|
   x_seq <| x_block <| x_seq <| x_region <|
   p (yix_lit (j := 0) sl_105 rfl rfl (by decide)) <| pa (at_load one_104 rfl (hS.cell rfl)) <| p (yl_assign rfl) <| x_done <|
   x_seq <| x_region <| p (yl_move rfl) <| p (yl_move rfl) <|
   pa (v := .agg #[.int .i64 l_0.W, .int .i64 l_0.H, .int .i64 l_0.Layers, .int .i64 l_0.Nets, .slice q5 l_0.Wires.length c_l_0_4, .slice q6 l_0.Vias.length c_l_0_5, .slice q7 l_0.Pins.length c_l_0_6, .slice q8 l_0.Walls.length c_l_0_7]) (ld_sub agg_31 rfl rfl rfl (hS.pull 5)) <| p (yl_move rfl) <| ?_
  have q_ := St.lend ((hS.pull 4).pull 4) q4; obtain ⟨ρl0, hll0, hlf0, hS0, back0⟩ := q_
  have hcall := c_rules_shorts q15 ((q0a.le q2).le hll0) ((q0b.le q2).le hll0) ((q0c.le q2).le hll0) ((q0d.le q2).le hll0) hlf0 ((hS0.pull 3).pull 3)
  refine o_ccv rfl call_46 (args3 rfl rfl rfl) hcall ?_
  rintro e w' ⟨rfl, hS⟩
  refine ⟨_, rfl, ?_⟩
  replace hS := back0 (hS.pull 2)
  refine x_done <| x_seq <| x_region <| p (yl_move rfl) <|
   p (yl_nilCheck rfl) <| p (yl_field0 fld_103_1 rfl) <| pa (at_load one_4 rfl ((hS.pull 2).cell rfl)) <| x_done <|
   x_cond (t := q1c.2) rfl (fun hc35u6 => ?_) (fun hc35u6 => ?_)
  ·replace hF := nit_t hc35u6 hF
   refine x_seq <| x_region <| p (yl_assign rfl) <| p (yl_assign rfl) <|
    x_done <| ?_
   replace hS := St.vec_nil hS 63 R_rules_Fault.sz
   have q3 : RepL R_rules_Fault q9 [] [] := rfl
   exact x_return ⟨_, ⟨_, _, rfl, rfl, _, _, rfl, rfl, rfl⟩, ([], (3 : Int)), hF, none, 0, 0, [], rfl, (RepL.flat (fun h => h) q3), (ro_back1 q2 (((((((hS.pull 1).drop.pull 2).drop.pull 2).drop.pull 2).drop.pull 2).drop.pull 1).pull 1))⟩
  ·replace hF := nit_bf hc35u6 hF
   replace hF := nbd_s hF; obtain ⟨q1d, q16, hF⟩ := hF
   refine x_skip <| x_blk <| x_region <| p (yadd (c := 1) rfl rfl ⟨rfl, by decide⟩) <|
    p (yl_move rfl) <| x_done <| x_un 5 <| x_seq <|
    x_region <| p (ylss_l (t := true) rfl rfl (by decide)) <| x_done <| x_seq <|
    x_cond_t (show ev _ _ = .bool true from rfl) <| x_skip <| x_seq <| x_block <|
    x_seq <| x_region <| p (yix_lit (j := 1) sl_105 rfl rfl (by decide)) <| pa (at_load one_104 rfl ((hS.pull 4).cell rfl)) <|
    p (yl_assign rfl) <| x_done <| x_seq <| x_region <|
    p (yl_move rfl) <| p (yl_move rfl) <| pa (v := .agg #[.int .i64 l_0.W, .int .i64 l_0.H, .int .i64 l_0.Layers, .int .i64 l_0.Nets, .slice q5 l_0.Wires.length c_l_0_4, .slice q6 l_0.Vias.length c_l_0_5, .slice q7 l_0.Pins.length c_l_0_6, .slice q8 l_0.Walls.length c_l_0_7]) (ld_sub agg_31 rfl rfl rfl (hS.pull 5)) <| p (yl_move rfl) <| ?_
   have q_ := St.lend ((hS.pull 1).pull 1) q4; obtain ⟨ρl0, hll0, hlf0, hS0, back0⟩ := q_
   have hcall := c_rules_walled q16 ((q0a.le q2).le hll0) ((q0b.le q2).le hll0) ((q0c.le q2).le hll0) ((q0d.le q2).le hll0) hlf0 ((hS0.pull 2).pull 2)
   refine o_ccv rfl call_47 (args3 rfl rfl rfl) hcall ?_
   rintro e w' ⟨rfl, hS⟩
   refine ⟨_, rfl, ?_⟩
   replace hS := back0 (hS.pull 2)
   refine x_done <| x_seq <| x_region <| p (yl_move rfl) <|
    p (yl_nilCheck rfl) <| p (yl_field0 fld_103_1 rfl) <| pa (at_load one_4 rfl ((hS.pull 2).cell rfl)) <| x_done <|
    x_cond (t := q1d.2) rfl (fun hc35u5 => ?_) (fun hc35u5 => ?_)
   ·replace hF := nit_t hc35u5 hF
    refine x_seq <| x_region <| p (yl_assign rfl) <| p (yl_assign rfl) <|
     x_done <| ?_
    replace hS := St.vec_nil hS 63 R_rules_Fault.sz
    have q3 : RepL R_rules_Fault q9 [] [] := rfl
    exact x_return ⟨_, ⟨_, _, rfl, rfl, _, _, rfl, rfl, rfl⟩, ([], (3 : Int)), hF, none, 0, 0, [], rfl, (RepL.flat (fun h => h) q3), (ro_back1 q2 (((((((hS.pull 1).drop.pull 2).drop.pull 2).drop.pull 2).drop.pull 2).drop.pull 1).pull 1))⟩
   ·replace hF := nit_bf hc35u5 hF
    refine x_skip <| x_blk <| x_region <| p (yadd (c := 2) rfl rfl ⟨rfl, by decide⟩) <|
     p (yl_move rfl) <| x_done <| x_un 4 <| x_seq <|
     x_region <| p (ylss_l (t := true) rfl rfl (by decide)) <| x_done <| x_seq <|
     x_cond_t (show ev _ _ = .bool true from rfl) <| x_skip <| x_seq <| x_block <|
     x_seq <| x_region <| p (yix_lit (j := 2) sl_105 rfl rfl (by decide)) <| pa (at_load one_104 rfl ((hS.pull 4).cell rfl)) <|
     p (yl_assign rfl) <| x_done <| x_seq <| x_region <|
     p (yl_move rfl) <| p (yl_move rfl) <| pa (v := .agg #[.int .i64 l_0.W, .int .i64 l_0.H, .int .i64 l_0.Layers, .int .i64 l_0.Nets, .slice q5 l_0.Wires.length c_l_0_4, .slice q6 l_0.Vias.length c_l_0_5, .slice q7 l_0.Pins.length c_l_0_6, .slice q8 l_0.Walls.length c_l_0_7]) (ld_sub agg_31 rfl rfl rfl (hS.pull 5)) <| p (yl_move rfl) <| ?_
    have q_ := St.lend ((hS.pull 1).pull 1) q4; obtain ⟨ρl0, hll0, hlf0, hS0, back0⟩ := q_
    have hcall := c_rules_near (nbd_c hF) ((q0a.le q2).le hll0) ((q0b.le q2).le hll0) ((q0c.le q2).le hll0) ((q0d.le q2).le hll0) hlf0 ((hS0.pull 2).pull 2)
    refine o_ccv rfl call_48 (args3 rfl rfl rfl) hcall ?_
    rintro e w' ⟨q1e, hF, rfl, hS⟩
    refine ⟨_, rfl, ?_⟩
    replace hS := back0 (hS.pull 2)
    refine x_done <| x_seq <| x_region <| p (yl_move rfl) <|
     p (yl_nilCheck rfl) <| p (yl_field0 fld_103_1 rfl) <| pa (at_load one_4 rfl ((hS.pull 2).cell rfl)) <| x_done <|
     x_cond (t := q1e.2) rfl (fun hc35u4 => ?_) (fun hc35u4 => ?_)
    ·replace hF := nit_t hc35u4 hF
     refine x_seq <| x_region <| p (yl_assign rfl) <| p (yl_assign rfl) <|
      x_done <| ?_
     replace hS := St.vec_nil hS 63 R_rules_Fault.sz
     have q3 : RepL R_rules_Fault q9 [] [] := rfl
     exact x_return ⟨_, ⟨_, _, rfl, rfl, _, _, rfl, rfl, rfl⟩, ([], (3 : Int)), hF, none, 0, 0, [], rfl, (RepL.flat (fun h => h) q3), (ro_back1 q2 (((((((hS.pull 1).drop.pull 2).drop.pull 2).drop.pull 2).drop.pull 2).drop.pull 1).pull 1))⟩
    ·replace hF := nit_bf hc35u4 hF
     refine x_skip <| x_blk <| x_region <| p (yadd (c := 3) rfl rfl ⟨rfl, by decide⟩) <|
      p (yl_move rfl) <| x_done <| x_un 3 <| x_seq <|
      x_region <| p (ylss_l (t := true) rfl rfl (by decide)) <| x_done <| x_seq <|
      x_cond_t (show ev _ _ = .bool true from rfl) <| x_skip <| x_seq <| x_block <|
      x_seq <| x_region <| p (yix_lit (j := 3) sl_105 rfl rfl (by decide)) <| pa (at_load one_104 rfl ((hS.pull 4).cell rfl)) <|
      p (yl_assign rfl) <| x_done <| x_seq <| x_region <|
      p (yl_move rfl) <| p (yl_move rfl) <| pa (v := .agg #[.int .i64 l_0.W, .int .i64 l_0.H, .int .i64 l_0.Layers, .int .i64 l_0.Nets, .slice q5 l_0.Wires.length c_l_0_4, .slice q6 l_0.Vias.length c_l_0_5, .slice q7 l_0.Pins.length c_l_0_6, .slice q8 l_0.Walls.length c_l_0_7]) (ld_sub agg_31 rfl rfl rfl (hS.pull 5)) <| p (yl_move rfl) <| ?_
     have q_ := St.lend ((hS.pull 1).pull 1) q4; obtain ⟨ρl0, hll0, hlf0, hS0, back0⟩ := q_
     have hcall := c_rules_small (nbd_c hF) ((q0a.le q2).le hll0) ((q0b.le q2).le hll0) ((q0c.le q2).le hll0) ((q0d.le q2).le hll0) hlf0 ((hS0.pull 2).pull 2)
     refine o_ccv rfl call_49 (args3 rfl rfl rfl) hcall ?_
     rintro e w' ⟨q1f, hF, rfl, hS⟩
     refine ⟨_, rfl, ?_⟩
     replace hS := back0 (hS.pull 2)
     refine x_done <| x_seq <| x_region <| p (yl_move rfl) <|
      p (yl_nilCheck rfl) <| p (yl_field0 fld_103_1 rfl) <| pa (at_load one_4 rfl ((hS.pull 2).cell rfl)) <| x_done <|
      x_cond (t := q1f.2) rfl (fun hc35u3 => ?_) (fun hc35u3 => ?_)
     ·replace hF := nit_t hc35u3 hF
      refine x_seq <| x_region <| p (yl_assign rfl) <| p (yl_assign rfl) <|
       x_done <| ?_
      replace hS := St.vec_nil hS 63 R_rules_Fault.sz
      have q3 : RepL R_rules_Fault q9 [] [] := rfl
      exact x_return ⟨_, ⟨_, _, rfl, rfl, _, _, rfl, rfl, rfl⟩, ([], (3 : Int)), hF, none, 0, 0, [], rfl, (RepL.flat (fun h => h) q3), (ro_back1 q2 (((((((hS.pull 1).drop.pull 2).drop.pull 2).drop.pull 2).drop.pull 2).drop.pull 1).pull 1))⟩
     ·replace hF := nit_bf hc35u3 hF
      replace hF := nbd_s hF; obtain ⟨q1g, q17, hF⟩ := hF
      refine x_skip <| x_blk <| x_region <| p (yadd (c := 4) rfl rfl ⟨rfl, by decide⟩) <|
       p (yl_move rfl) <| x_done <| x_un 2 <| x_seq <|
       x_region <| p (ylss_l (t := true) rfl rfl (by decide)) <| x_done <| x_seq <|
       x_cond_t (show ev _ _ = .bool true from rfl) <| x_skip <| x_seq <| x_block <|
       x_seq <| x_region <| p (yix_lit (j := 4) sl_105 rfl rfl (by decide)) <| pa (at_load one_104 rfl ((hS.pull 4).cell rfl)) <|
       p (yl_assign rfl) <| x_done <| x_seq <| x_region <|
       p (yl_move rfl) <| p (yl_move rfl) <| pa (v := .agg #[.int .i64 l_0.W, .int .i64 l_0.H, .int .i64 l_0.Layers, .int .i64 l_0.Nets, .slice q5 l_0.Wires.length c_l_0_4, .slice q6 l_0.Vias.length c_l_0_5, .slice q7 l_0.Pins.length c_l_0_6, .slice q8 l_0.Walls.length c_l_0_7]) (ld_sub agg_31 rfl rfl rfl (hS.pull 5)) <| p (yl_move rfl) <| ?_
      have q_ := St.lend ((hS.pull 1).pull 1) q4; obtain ⟨ρl0, hll0, hlf0, hS0, back0⟩ := q_
      have hcall := c_rules_open q17 ((q0a.le q2).le hll0) ((q0b.le q2).le hll0) ((q0c.le q2).le hll0) ((q0d.le q2).le hll0) hlf0 ((hS0.pull 2).pull 2)
      refine o_ccv rfl call_50 (args3 rfl rfl rfl) hcall ?_
      rintro e w' ⟨rfl, hS⟩
      refine ⟨_, rfl, ?_⟩
      replace hS := back0 (hS.pull 2)
      refine x_done <| x_seq <| x_region <| p (yl_move rfl) <|
       p (yl_nilCheck rfl) <| p (yl_field0 fld_103_1 rfl) <| pa (at_load one_4 rfl ((hS.pull 2).cell rfl)) <| x_done <|
       x_cond (t := q1g.2) rfl (fun hc35u2 => ?_) (fun hc35u2 => ?_)
      ·replace hF := nit_t hc35u2 hF
       refine x_seq <| x_region <| p (yl_assign rfl) <| p (yl_assign rfl) <|
        x_done <| ?_
       replace hS := St.vec_nil hS 63 R_rules_Fault.sz
       have q3 : RepL R_rules_Fault q9 [] [] := rfl
       exact x_return ⟨_, ⟨_, _, rfl, rfl, _, _, rfl, rfl, rfl⟩, ([], (3 : Int)), hF, none, 0, 0, [], rfl, (RepL.flat (fun h => h) q3), (ro_back1 q2 (((((((hS.pull 1).drop.pull 2).drop.pull 2).drop.pull 2).drop.pull 2).drop.pull 1).pull 1))⟩
      ·replace hF := nit_bf hc35u2 hF
       replace hF := nbd_s hF; obtain ⟨q0r, q18, hF⟩ := hF
       refine x_skip <| x_blk <| x_region <| p (yadd (c := 5) rfl rfl ⟨rfl, by decide⟩) <|
        p (yl_move rfl) <| x_done <| x_un 1 <| x_seq <|
        x_region <| p (ylss_l (t := true) rfl rfl (by decide)) <| x_done <| x_seq <|
        x_cond_t (show ev _ _ = .bool true from rfl) <| x_skip <| x_seq <| x_block <|
        x_seq <| x_region <| p (yix_lit (j := 5) sl_105 rfl rfl (by decide)) <| pa (at_load one_104 rfl ((hS.pull 4).cell rfl)) <|
        p (yl_assign rfl) <| x_done <| x_seq <| x_region <|
        p (yl_move rfl) <| p (yl_move rfl) <| pa (v := .agg #[.int .i64 l_0.W, .int .i64 l_0.H, .int .i64 l_0.Layers, .int .i64 l_0.Nets, .slice q5 l_0.Wires.length c_l_0_4, .slice q6 l_0.Vias.length c_l_0_5, .slice q7 l_0.Pins.length c_l_0_6, .slice q8 l_0.Walls.length c_l_0_7]) (ld_sub agg_31 rfl rfl rfl (hS.pull 5)) <| p (yl_move rfl) <| ?_
       have q_ := St.lend ((hS.pull 1).pull 1) q4; obtain ⟨ρl0, hll0, hlf0, hS0, back0⟩ := q_
       have hcall := c_rules_antenna q18 ((q0a.le q2).le hll0) ((q0b.le q2).le hll0) ((q0c.le q2).le hll0) ((q0d.le q2).le hll0) hlf0 ((hS0.pull 2).pull 2)
       refine o_ccv rfl call_51 (args3 rfl rfl rfl) hcall ?_
       rintro e w' ⟨rfl, hS⟩
       refine ⟨_, rfl, ?_⟩
       replace hS := back0 (hS.pull 2)
       refine x_done <| x_seq <| x_region <| p (yl_move rfl) <|
        p (yl_nilCheck rfl) <| p (yl_field0 fld_103_1 rfl) <| pa (at_load one_4 rfl ((hS.pull 2).cell rfl)) <| x_done <|
        x_cond (t := q0r.2) rfl (fun hc35u1 => ?_) (fun hc35u1 => ?_)
       ·replace hF := nit_t hc35u1 hF
        refine x_seq <| x_region <| p (yl_assign rfl) <| p (yl_assign rfl) <|
         x_done <| ?_
        replace hS := St.vec_nil hS 63 R_rules_Fault.sz
        have q3 : RepL R_rules_Fault q9 [] [] := rfl
        exact x_return ⟨_, ⟨_, _, rfl, rfl, _, _, rfl, rfl, rfl⟩, ([], (3 : Int)), hF, none, 0, 0, [], rfl, (RepL.flat (fun h => h) q3), (ro_back1 q2 (((((((hS.pull 1).drop.pull 2).drop.pull 2).drop.pull 2).drop.pull 2).drop.pull 1).pull 1))⟩
       ·replace hF := nit_bf hc35u1 hF
        refine x_skip <| x_blk <| x_region <| p (yadd (c := 6) rfl rfl ⟨rfl, by decide⟩) <|
         p (yl_move rfl) <| x_done <| x_un 0 <| x_seq <|
         x_region <| p (ylss_l (t := false) rfl rfl (by decide)) <| x_done <| x_seq <|
         x_cond_f (show ev _ _ = .bool false from rfl) <| x_exitTo _ rfl <| x_seq <| x_region <|
         p (yl_assign rfl) <| x_done <| x_seq <| x_seq <|
         x_region <| p (yl_move rfl) <| p (yl_nilCheck rfl) <| p (yl_field0 fld_103_0 rfl) <|
         pa (at_load one_101 rfl ((hS.pull 2).cell rfl)) <| ?_
        refine o_range um_101 rfl (hS.pull 3) (fun b41 w' hS => ?_)
        refine x_done <| ?_
        replace hF := nbd_j hF; obtain ⟨oL15, hLL15, hF⟩ := hF
        refine x_join (fun E w => ∃ (q0i : Option Addr) (q0j : Nat) (c_out9_L15 : Nat) (q0k : List Value) (q0m : List T_rules_Fault), oL15 q0m ∧ E 9 = .slice q0i q0j c_out9_L15 ∧ RepL R_rules_Fault q9 q0m q0k ∧ St w0 w (vec 63 R_rules_Fault.sz (.slice q0i q0j c_out9_L15) q0j q0k :: ro q9 :: l)) ?_ ?_
        ·refine x_block ?_
         replace hS := St.vec_nil hS 63 R_rules_Fault.sz
         have q0p : RepL R_rules_Fault q9 [] [] := rfl
         refine x_loop (fun k_ E w => ∃ (q0f : Option Addr) (q0g : Nat) (c_out9_L15h : Nat) (q0e : List Value) (q0h : List T_rules_Fault) (q0n : List Nat), nlp (P_rules_Faults_L15 q0r) k_ (q0h, q0n) oL15 ∧ E 9 = .slice q0f q0g c_out9_L15h ∧ E 41 = .pointer (some ⟨b41, 0, none⟩) ∧ RepL R_rules_Fault q9 q0h q0e ∧ St w0 w (vec 63 R_rules_Fault.sz (.slice q0f q0g c_out9_L15h) q0g q0e :: mapA b18 kf_63 Value.bool q0r.1 :: itA b41 b18 q0r.1.length q0n :: ro q9 :: l)) fuel ⟨none, 0, 0, [], [], [], hLL15, rfl, rfl, q0p, ((((((((hS.pull 3).drop.pull 4).drop.pull 4).drop.pull 4).drop.pull 3).pull 2).pull 3).pull 3)⟩ ?_
         rintro kL15 E w ⟨q0f, q0g, c_out9_L15h, q0e, q0h, q0n, hLL15, q10, q0q, q0l, hS⟩
         have e_ := St.vec_n hS q0l; subst e_
         replace hLL15 := nlp_s hLL15; obtain ⟨kL15, obL15, rfl, hFL15, hLL15⟩ := hLL15
         refine x_seq <| x_region <|
          o_next q0q ((hS.pull 1).pull 2) (fun q1o w' hS => ?_) (fun i42 q13 q1p w' hS => ?_)
         ·replace hFL15 := nnx_a hFL15 q1o
          refine p (yl_extract rfl rfl) <| x_done <| x_seq <| x_cond_f (show ev _ _ = .bool false from rfl) <|
           x_exitTo _ rfl <| ?_
          exact x_inv ⟨q0f, q0h.length, c_out9_L15h, q0e, q0h, (hLL15 _ hFL15), q10, q0l, ((hS.drop.drop.pull 1).pull 1)⟩
         ·replace hFL15 := nnx_k hFL15 q13 q1p
          replace hFL15 := nlv_s hFL15; obtain ⟨e44, he44, hFL15⟩ := hFL15
          refine p (yl_extract rfl rfl) <| x_done <| x_seq <| x_cond_t (show ev _ _ = .bool true from rfl) <|
           x_skip <| x_block <| x_seq <| x_region <|
           pa (at_entry (kf := kf_63) (vf := Value.bool) q0q q13 ((hS.pull 1).pull 1) he44) <| p (yl_extract rfl rfl) <| ?_
          refine o_alloc zero_63 hS (fun b10 w' hS => ?_)
          refine o_storeAgg (news := [.int .i64 e44.1.Kind, .int .i64 e44.1.Net, .int .i64 e44.1.Other, .int .i64 e44.1.At.Layer, .int .i64 e44.1.At.X, .int .i64 e44.1.At.Y]) agg_63 rfl rfl rfl (by simp [over_length]) hS (fun w' hS => ?_)
          refine x_done <| x_region <| p (yl_move q10) <| pa (v := .agg #[.int .i64 e44.1.Kind, .int .i64 e44.1.Net, .int .i64 e44.1.Other, .int .i64 e44.1.At.Layer, .int .i64 e44.1.At.X, .int .i64 e44.1.At.Y]) (ld_sub agg_63 rfl rfl rfl hS) <| ?_
          refine o_buildSlice (vs := [.agg #[.int .i64 e44.1.Kind, .int .i64 e44.1.Net, .int .i64 e44.1.Other, .int .i64 e44.1.At.Layer, .int .i64 e44.1.At.X, .int .i64 e44.1.At.Y]]) (cs := [.int .i64 e44.1.Kind, .int .i64 e44.1.Net, .int .i64 e44.1.Other, .int .i64 e44.1.At.Layer, .int .i64 e44.1.At.X, .int .i64 e44.1.At.Y]) sl_56 zero_63 (parts_eq (pt (va := .agg #[.int .i64 e44.1.Kind, .int .i64 e44.1.Net, .int .i64 e44.1.Other, .int .i64 e44.1.At.Layer, .int .i64 e44.1.At.X, .int .i64 e44.1.At.Y]) rfl pt0)) rfl (by intro v hv; simp only [List.mem_cons, List.not_mem_nil, or_false] at hv; first | (subst hv; rfl) | (rcases hv with rfl <;> rfl)) (by decide) rfl hS (fun b48 w' hS => ?_)
          replace hFL15 := nlv_s hFL15; obtain ⟨q14, q1h, hFL15⟩ := hFL15
          replace hFL15 := nck_s hFL15; obtain ⟨q1i, hFL15⟩ := hFL15
          refine o_ap sl_56 zero_63 rfl (by decide) rfl rfl (hS.pull 4) q0l (src_blk usl_56 hS rfl rfl) (RepL.cons (R := R_rules_Fault) (ρ := q9) (x := e44.1) (cs := [.int .i64 e44.1.Kind, .int .i64 e44.1.Net, .int .i64 e44.1.Other, .int .i64 e44.1.At.Layer, .int .i64 e44.1.At.X, .int .i64 e44.1.At.Y]) rfl RepL.nil) q1h q1i (fun A49 c49 cs49 w' hr49 hS => ?_)
          refine p (yl_assign rfl) <| x_done <| x_blk <| ?_
          exact x_inv ⟨kL15, Nat.lt_succ_self _, A49, q14.length, c49, cs49, q14, (q0n ++ [i42]), (hLL15 _ hFL15), rfl, q0q, hr49, ((((((hS.pull 1).drop.pull 1).drop.pull 3).pull 2).pull 3).pull 3)⟩
        rintro E w ⟨q0i, q0j, c_out9_L15, q0k, q0m, hq_, q11, q0s, hS⟩
        replace hF := hF _ hq_
        clear hq_
        have e_ := St.vec_n hS q0s; subst e_
        refine x_seq <| x_region <| p (yl_move q11) <| ?_
        replace hF := nck_s hF; obtain ⟨q1j, hF⟩ := hF
        replace hF := nlv_s hF; obtain ⟨q1q, q1k, hF⟩ := hF
        refine o_cc call_52 (args2 rfl rfl) (cmpFault_sort q1j ((hS.pull 1).pull 1) q0s) ?_
        rintro e w' ⟨rfl, q1l, q12, hS⟩
        refine ⟨_, rfl, ?_⟩
        rw [← q1k] at q12
        refine x_done <| x_seq <| x_region <| p (yl_move q11) <|
         p (yl_assign rfl) <| p (yl_assign rfl) <| x_done <| ?_
        exact x_return ⟨_, ⟨_, _, rfl, rfl, _, _, rfl, rfl, rfl⟩, (q1q, (0 : Int)), hF, q0i, q0m.length, c_out9_L15, q1l, rfl, (RepL.flat (fun h => h) q12), (ro_back1 q2 ((hS.pull 1).pull 1))⟩
attribute [irreducible] P_rules_Faults


end Go.Proofs.Ytnnmbmgnpdcefaa.X
