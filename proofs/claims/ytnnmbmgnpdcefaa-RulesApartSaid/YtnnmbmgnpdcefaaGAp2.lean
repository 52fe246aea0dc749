/- Printed by gen.py: plain functions, and that the Go code computes them. -/
import Derived.Test.YtnnmbmgnpdcefaaYJ
import Derived.Test.YtnnmbmgnpdcefaaXI
import Derived.Test.YtnnmbmgnpdcefaaXP
import Derived.Test.YtnnmbmgnpdcefaaYX
import Derived.Test.YtnnmbmgnpdcefaaYU
import Derived.Test.YtnnmbmgnpdcefaaXT
import Derived.Test.YtnnmbmgnpdcefaaGAp0
import Derived.Test.YtnnmbmgnpdcefaaGAp1
namespace Go.Proofs.Ytnnmbmgnpdcefaa.X
set_option maxHeartbeats 4000000
set_option maxRecDepth 100000
open Go Go.RowKit
set_option linter.unusedVariables false
set_option linter.unusedSimpArgs false

def P_rules_small_1 (x0 : T_rules_shape) (q2 : Int) : Option (List T_rules_Spot) :=
 bd (P_slices_Clone_rules_Spot_rules_Spot x0.fspots) fun q3 =>
 bd (P_slices_DeleteFunc_rules_Spot_rules_Spot q3 q2) fun q4 =>
 some q4
theorem c_rules_small_1 {w0 w : World} {l : List Assn} {ρ : Heap} {q4 : Option Addr} {q9 : Nat} {c_x0_1 : Nat} {q8 : Nat} {x0 : T_rules_shape} {q0b : Int} {r : List T_rules_Spot} (hF : P_rules_small_1 x0 q0b = some r) (q0a : RdS R_rules_Spot ρ q4 q9 c_x0_1 x0.fspots) (hS : St w0 w (cells q8 3 [.int .i64 q0b] :: ro ρ :: l)) :
  Calls Try.prog 64 #[.agg #[.int .i64 x0.fnet, .slice q4 q9 c_x0_1, .bool x0.fwire, .int .i64 x0.fpin], .pointer (some ⟨q8, 0, none⟩)] w fun e w' => ∃ (ρ' : Heap) (q5 : Option Addr) (q6 : Nat) (c_y0_ret : Nat), e = .returned (.slice q5 q6 c_y0_ret) ∧ Le ρ ρ' ∧ RdS R_rules_Spot ρ' q5 q6 c_y0_ret r ∧ St w0 w' (cells q8 3 [.int .i64 q0b] :: ro ρ' :: l) := by
 have e_ := q0a.n; subst e_
 refine enterC Try.func64 rfl 9 rfl (by simp) ?_
 refine x_seq <| x_region <| ?_
 refine o_box (cs := [.int .i64 x0.fnet, .slice q4 x0.fspots.length c_x0_1, .bool x0.fwire, .int .i64 x0.fpin]) rfl rfl hS (fun b2 w' hS => ?_)
 replace hF := bd_s hF; obtain ⟨q0l, q0i, hF⟩ := hF
 refine p (yl_assign rfl) <| x_done <| x_seq <| x_region <|
  p (yl_field0 fld_122_1 rfl) <| pa (at_load one_120 rfl (hS.cell rfl)) <| ?_
 have hcall := c_slices_Clone_rules_Spot_rules_Spot q0i q0a (hS.pull 2)
 refine o_cc call_66 (args1 rfl) hcall ?_
 rintro e w' ⟨q0d, q0e, c_y0_ret_1_2, q0c, rfl, q2, hS⟩
 refine ⟨_, rfl, ?_⟩
 have e_ := St.vec_n hS q2; subst e_
 replace hF := bd_s hF; obtain ⟨q0k, q0j, hF⟩ := hF
 refine p (v := .func (.func 67) #[] #[.pointer (some ⟨q8, 0, none⟩)]) (yl_makeFunc (by simp only [List.map_toArray, List.map_nil]) (by simp only [List.map_toArray, List.map_cons, List.map_nil]; rfl)) <| ?_
 have hcall := c_slices_DeleteFunc_rules_Spot_rules_Spot q0j q2 (((hS.pull 1).pull 3).pull 2)
 refine o_cc call_65 (args2 rfl rfl) hcall ?_
 rintro e w' ⟨q0f, q7, q0g, c_y0_ret_1_4, rfl, q0h, q3, hS⟩
 refine ⟨_, rfl, ?_⟩
 have e_ := q3.n; subst e_
 refine p (yl_assign rfl) <| x_done <| ?_
 have e_ := sinj hF; subst e_
 exact x_return ⟨_, ⟨_, _, rfl, rfl, rfl⟩, q0f, q7, q0k.length, c_y0_ret_1_4, rfl, q0h, q3, (((hS.pull 2).drop.pull 1).pull 1)⟩
attribute [irreducible] P_rules_small_1

def P_rules_groups_1_L1 : (Int × List Int) → Option ((Int × List Int) ⊕ (Int × List Int)) := fun (q3, q2) =>
 ck (inb q3 q2.length) <|
 lv (gt q2 q3) fun x7 =>
 if x7 ≠ q3 then
  ck (inb q3 q2.length) <|
  lv (gt q2 q3) fun x16 =>
  ck (inb x16 q2.length) <|
  lv (gt q2 x16) fun x18 =>
  ck (inb q3 q2.length) <|
  lv (stt q2 q3 x18) fun q4 =>
  ck (inb q3 q4.length) <|
  lv (gt q4 q3) fun x23 =>
  some (Sum.inl (x23, q4))
 else
  some (Sum.inr (q3, q2))
def P_rules_groups_1 (i0 : Int) (q4 : List Int) : Option (Int × List Int) :=
 bd (
  lp P_rules_groups_1_L1 fuel (i0, q4)) fun (q3, q2) =>
 some (q3, q2)
theorem c_rules_groups_1 {w0 w : World} {l : List Assn} {ρ : Heap} {q0e : Nat} {q5 : Option Addr} {q7 : Nat} {c_v1_0 : Nat} {q0f : List Value} {i0 : Int} {q0a : List Int} {r : (Int × List Int)} (hF : P_rules_groups_1 i0 q0a = some r) (q0j : RepL (RpI .i64) ρ q0a q0f) (hS : St w0 w (cells q0e 22 [.slice q5 q7 c_v1_0] :: vec 3 (RpI .i64).sz (.slice q5 q7 c_v1_0) q7 q0f :: ro ρ :: l)) :
  Calls Try.prog 81 #[.int .i64 i0, .pointer (some ⟨q0e, 0, none⟩)] w fun e w' => ∃ (q0b : List Value), e = .returned (.int .i64 r.1) ∧ RepL (RpI .i64) ρ r.2 q0b ∧ St w0 w' (cells q0e 22 [.slice q5 q7 c_v1_0] :: vec 3 (RpI .i64).sz (.slice q5 q7 c_v1_0) q7 q0b :: ro ρ :: l) := by
 have e_ := St.vec_n (hS.pull 1) q0j; subst e_
 refine enterC Try.func81 rfl 25 rfl (by simp) ?_
 refine x_seq <| x_region <| p (yl_assign rfl) <| x_done <|
  x_seq <| ?_
 replace hF := bd_s hF; obtain ⟨oL1, hLL1, hF⟩ := hF
 refine x_join (fun E w => ∃ (q4 : List Value) (q0i : Int) (q0c : List Int), (q0i, q0c) = oL1 ∧ E 0 = .int .i64 q0i ∧ RepL (RpI .i64) ρ q0c q4 ∧ St w0 w (cells q0e 22 [.slice q5 q0a.length c_v1_0] :: vec 3 (RpI .i64).sz (.slice q5 q0a.length c_v1_0) q0a.length q4 :: ro ρ :: l)) ?_ ?_
 ·refine x_block ?_
  refine x_loop (fun k_ E w => ∃ (q3 : List Value) (q0d : Int) (q6 : List Int), lp P_rules_groups_1_L1 k_ (q0d, q6) = some oL1 ∧ E 0 = .int .i64 q0d ∧ E 1 = .pointer (some ⟨q0e, 0, none⟩) ∧ RepL (RpI .i64) ρ q6 q3 ∧ St w0 w (cells q0e 22 [.slice q5 q0a.length c_v1_0] :: vec 3 (RpI .i64).sz (.slice q5 q0a.length c_v1_0) q0a.length q3 :: ro ρ :: l)) fuel ⟨q0f, i0, q0a, hLL1, rfl, rfl, q0j, (((hS.pull 2).pull 2).pull 2)⟩ ?_
  rintro kL1 E w ⟨q3, q0d, q6, hLL1, q8, q9, q2, hS⟩
  replace hLL1 := lp_s hLL1; obtain ⟨kL1, obL1, rfl, hFL1, hLL1⟩ := hLL1
  replace hFL1 := ck_s hFL1; obtain ⟨q0k, hFL1⟩ := hFL1
  replace hFL1 := lv_s hFL1; obtain ⟨x7, hx7, hFL1⟩ := hFL1
  refine x_seq <| x_seq <| x_region <| pa (at_load one_22 q9 (hS.cell rfl)) <|
   p (yl_move q8) <| p (yix_o sl_22 rfl rfl (hS.pull 1) q2 q0k) <| pa (at_load one_3 rfl (RepL.getW q2 (hS.pull 1) q0k hx7)) <| p (yl_move q8) <|
   p (yl_neq rfl rfl) <| x_done <|
   x_cond_p (x7 ≠ q0d) rfl (fun hc9 => ?_) (fun hc9 => ?_)
  ·replace hFL1 := it_t hc9 hFL1
   replace hFL1 := ck_s hFL1; obtain ⟨q0l, hFL1⟩ := hFL1
   replace hFL1 := lv_s hFL1; obtain ⟨x16, hx16, hFL1⟩ := hFL1
   replace hFL1 := ck_s hFL1; obtain ⟨q0m, hFL1⟩ := hFL1
   replace hFL1 := lv_s hFL1; obtain ⟨x18, hx18, hFL1⟩ := hFL1
   replace hFL1 := ck_s hFL1; obtain ⟨q0n, hFL1⟩ := hFL1
   refine x_skip <| x_block <| x_seq <| x_head 10 mixed (by kernel_rfl) hS _ _ rfl rfl <|
    qa (fun w' hS => at_load one_22 q9 (hS.cell rfl)) <| q (yl_move q8) <| qa (fun w' hS => at_load one_22 q9 (hS.cell rfl)) <| qa (fun w' hS => at_load one_22 q9 (hS.cell rfl)) <|
    q (yl_move q8) <| q (yix_o sl_22 rfl rfl (hS.pull 1) q2 q0l) <| qa (fun w' hS => at_load one_3 rfl (RepL.getW q2 (hS.pull 1) q0l hx16)) <| q (yix_o sl_22 rfl rfl (hS.pull 1) q2 q0m) <|
    qa (fun w' hS => at_load one_3 rfl (RepL.getW q2 (hS.pull 1) q0m hx18)) <| q (yix_o sl_22 rfl rfl (hS.pull 1) q2 q0n) <|
    q_done fun w' hS => ?_
   replace hFL1 := lv_s hFL1; obtain ⟨q0r, q0p, hFL1⟩ := hFL1
   refine o_put' (news := [.int .i64 x18]) sz_3 rfl rfl rfl rfl (o := 0) rfl q0n rfl (hS.pull 1) q2 (Le.refl _) (fun c hc => ok_all hc (show (RpI .i64).ok ρ [.int .i64 x18] x18 from rfl)) q0p (fun q0q w' q0g hS => ?_)
   replace hFL1 := ck_s hFL1; obtain ⟨q0o, hFL1⟩ := hFL1
   replace hFL1 := lv_s hFL1; obtain ⟨x23, hx23, hFL1⟩ := hFL1
   refine x_done <| x_region <| pa (at_load one_22 q9 ((hS.pull 1).cell rfl)) <| p (yl_move q8) <|
    p (yix_o sl_22 rfl rfl hS q0g q0o) <| pa (at_load one_3 rfl (RepL.getW q0g hS q0o hx23)) <| p (yl_assign rfl) <| x_done <|
    x_blk <| ?_
   have e_ := sinj hFL1; subst e_
   exact x_inv ⟨kL1, Nat.lt_succ_self _, q0q, x23, q0r, hLL1, rfl, q9, q0g, (((hS.pull 2).pull 1).pull 2)⟩
  ·replace hFL1 := it_f hc9 hFL1
   refine x_exitTo _ rfl <| ?_
   have e_ := sinj hFL1; subst e_
   exact x_inv ⟨q3, q0d, q6, hLL1, q8, q2, (((hS.pull 2).pull 2).pull 2)⟩
 rintro E w ⟨q4, q0i, q0c, rfl, q0s, q0h, hS⟩
 refine x_seq <| x_region <| p (yl_move q0s) <| p (yl_assign rfl) <|
  x_done <| ?_
 have e_ := sinj hF; subst e_
 exact x_return ⟨_, ⟨_, _, rfl, rfl, rfl⟩, q4, rfl, q0h, (((hS.pull 2).pull 2).pull 2)⟩
attribute [irreducible] P_rules_groups_1

def P_rules_groups_L3 (q4 : List Int) : (Int × List Int) → Option ((Int × List Int) ⊕ List Int) := fun (q2, q3) =>
 if q2 < (q4.length : Int) then
  ck (inb q2 q3.length) <|
  lv (stt q3 q2 q2) fun q5 =>
  ar (q2 + 1) fun x36 =>
  some (Sum.inl (x36, q5))
 else
  some (Sum.inr q3)
def P_rules_groups_L13 (q8 : T_rules_shape) (q9 : List T_rules_Spot) (q7 : Int) : (List (T_rules_key × Int) × Int × List Int) → Option ((List (T_rules_key × Int) × Int × List Int) ⊕ (List (T_rules_key × Int) × List Int)) := fun (q2, q4, q5) =>
 if q4 < (q9.length : Int) then
  bd (
   ck (inb q4 q9.length) <|
   lv (gt q9 q4) fun q3 =>
   lv (mget (T_rules_key.mk q8.fnet (T_rules_Spot.mk q3.Layer q3.X q3.Y)) q2 0) fun x61 =>
   lv (mhas (T_rules_key.mk q8.fnet (T_rules_Spot.mk q3.Layer q3.X q3.Y)) q2) fun q61 =>
   if (!q61) = true then
    lv (mput (T_rules_key.mk q8.fnet (T_rules_Spot.mk q3.Layer q3.X q3.Y)) q7 q2) fun q0d =>
    some (q0d, q5)
   else
    bd (P_rules_groups_1 q7 q5) fun q0a =>
    bd (P_rules_groups_1 x61 q0a.2) fun q6 =>
    lv (max q0a.1 q6.1) fun x78 =>
    lv (min q0a.1 q6.1) fun x81 =>
    ck (inb x78 q6.2.length) <|
    lv (stt q6.2 x78 x81) fun q0e =>
    some (q2, q0e)) fun (q0b, q0c) =>
  ar (q4 + 1) fun x83 =>
  some (Sum.inl (q0b, x83, q0c))
 else
  some (Sum.inr (q2, q5))
def P_rules_groups_L10 (l_0 : List T_rules_shape) (q5 : Int) : (List (T_rules_key × Int) × Int × List Int) → Option ((List (T_rules_key × Int) × Int × List Int) ⊕ List Int) := fun (q4, q2, q3) =>
 if q2 < (l_0.length : Int) then
  ck (inb q2 l_0.length) <|
  lv (gt l_0 q2) fun q8 =>
  bd (P_rules_small_1 q8 q5) fun q9 =>
  bd (
   lp (P_rules_groups_L13 q8 q9 q2) fuel (q4, 0, q3)) fun (q6, q7) =>
  ar (q2 + 1) fun x84 =>
  some (Sum.inl (q6, x84, q7))
 else
  some (Sum.inr q3)
def P_rules_groups_L26 (l_0 : List T_rules_shape) : (List (Int × Int) × List Int × Int × List Int) → Option ((List (Int × Int) × List Int × Int × List Int) ⊕ List Int) := fun (q2, q4, q3, q7) =>
 if q3 < (l_0.length : Int) then
  bd (P_rules_groups_1 q3 q7) fun q6 =>
  lv (mget q6.1 q2 0) fun x100 =>
  lv (mhas q6.1 q2) fun q100 =>
  bd (
   if (!q100) = true then
    lv (mput q6.1 (q2.length : Int) q2) fun q8 =>
    some q8
   else
    some q2) fun q5 =>
  lv (mget q6.1 q5 0) fun x113 =>
  ck (inb q3 q4.length) <|
  lv (stt q4 q3 x113) fun q9 =>
  ar (q3 + 1) fun x115 =>
  some (Sum.inl (q5, q9, x115, q6.2))
 else
  some (Sum.inr q4)
def P_rules_groups (l_0 : List T_rules_shape) (q2 : Int) : Option (List Int) :=
 ck (mkOk 8 (l_0.length : Int)) <|
 lv ((List.replicate ((l_0.length : Int) : Int).toNat 0 : List Int)) fun q6 =>
 bd (
  lp (P_rules_groups_L3 q6) fuel (0, q6)) fun q5 =>
 bd (
  lp (P_rules_groups_L10 l_0 q2) fuel ([], 0, q5)) fun q4 =>
 ck (mkOk 8 (l_0.length : Int)) <|
 lv ((List.replicate ((l_0.length : Int) : Int).toNat 0 : List Int)) fun q7 =>
 bd (
  lp (P_rules_groups_L26 l_0) fuel ([], q7, 0, q4)) fun q3 =>
 some q3
theorem c_rules_groups {w0 w : World} {l : List Assn} {ρ : Heap} {q0d : Option Addr} {q32 : Nat} {c_l_0 : Nat} {q3 : Nat} {l_0 : List T_rules_shape} {q5 : Int} {r : List Int} (hF : P_rules_groups l_0 q5 = some r) (q2i : RdS R_rules_shape ρ q0d q32 c_l_0 l_0) (hS : St w0 w (cells q3 3 [.int .i64 q5] :: ro ρ :: l)) :
  Calls Try.prog 68 #[.slice q0d q32 c_l_0, .func (.func 64) #[] #[.pointer (some ⟨q3, 0, none⟩)]] w fun e w' => ∃ (q24 : Option Addr) (q1p : Nat) (c_y0_ret : Nat) (q23 : List Value), e = .returned (.slice q24 q1p c_y0_ret) ∧ RepL (RpI .i64) ρ r q23 ∧ St w0 w' (vec 3 (RpI .i64).sz (.slice q24 q1p c_y0_ret) q1p q23 :: cells q3 3 [.int .i64 q5] :: ro ρ :: l) := by
 have e_ := q2i.n; subst e_
 refine enterC Try.func68 rfl 117 rfl (by simp) ?_
 refine x_seq <| x_region <| p (yl_assign rfl) <| x_done <|
  x_seq <| x_region <| p (yl_move rfl) <| p (yl_len_slice usl_98 rfl) <| ?_
 replace hF := ck_s hF; obtain ⟨q49, hF⟩ := hF
 replace hF := lv_s hF; obtain ⟨q2, q4a, hF⟩ := hF
 refine o_mk sl_22 zero_3 (show (RpI .i64).ok ρ _ 0 from rfl) rfl rfl q49 (by decide) q4a hS (fun A26 cs26 w' hr26 hS => ?_)
 refine o_alloc zero_22 hS (fun b5 w' hS => ?_)
 refine o_store1 (v := .slice A26 q2.length q2.length) one_22 rfl rfl rfl rfl hS (fun w' hS => ?_)
 refine x_done <| x_seq <| x_seq <| x_region <|
  pa (at_load one_22 rfl (hS.cell rfl)) <| p (yl_len_slice usl_22 rfl) <| p (yl_move rfl) <| x_done <| ?_
 replace hF := bd_s hF; obtain ⟨oL3, hLL3, hF⟩ := hF
 refine x_join (fun E w => ∃ (q0t : List Value) (q1h : List Int), q1h = oL3 ∧ E 0 = .slice q0d l_0.length c_l_0 ∧ E 1 = .func (.func 64) #[] #[.pointer (some ⟨q3, 0, none⟩)] ∧ E 5 = .pointer (some ⟨b5, 0, none⟩) ∧ RepL (RpI .i64) ρ q1h q0t ∧ St w0 w (cells q3 3 [.int .i64 q5] :: cells b5 22 [.slice A26 q2.length q2.length] :: vec 3 (RpI .i64).sz (.slice A26 q2.length q2.length) q2.length q0t :: ro ρ :: l)) ?_ ?_
 ·refine x_block ?_
  refine x_loop (fun k_ E w => ∃ (q0k : List Value) (q0h : Int) (q17 : List Int), lp (P_rules_groups_L3 q2) k_ (q0h, q17) = some oL3 ∧ E 0 = .slice q0d l_0.length c_l_0 ∧ E 1 = .func (.func 64) #[] #[.pointer (some ⟨q3, 0, none⟩)] ∧ E 5 = .pointer (some ⟨b5, 0, none⟩) ∧ E 28 = .int .i64 (q2.length : Int) ∧ E 29 = .int .i64 q0h ∧ RepL (RpI .i64) ρ q17 q0k ∧ St w0 w (cells q3 3 [.int .i64 q5] :: cells b5 22 [.slice A26 q2.length q2.length] :: vec 3 (RpI .i64).sz (.slice A26 q2.length q2.length) q2.length q0k :: ro ρ :: l)) fuel ⟨cs26, 0, q2, hLL3, rfl, rfl, rfl, rfl, rfl, hr26, ((((hS.pull 3).pull 2).pull 2).pull 3)⟩ ?_
  rintro kL3 E w ⟨q0k, q0h, q17, hLL3, q2l, q2m, q25, q2c, q1z, q18, hS⟩
  replace hLL3 := lp_s hLL3; obtain ⟨kL3, obL3, rfl, hFL3, hLL3⟩ := hLL3
  refine x_seq <| x_region <| p (yl_lss q1z q2c) <| x_done <|
   x_seq <|
   x_cond_p (q0h < (q2.length : Int)) rfl (fun hc30 => ?_) (fun hc30 => ?_)
  ·replace hFL3 := it_t hc30 hFL3
   replace hFL3 := ck_s hFL3; obtain ⟨q33, hFL3⟩ := hFL3
   refine x_skip <| x_seq <| x_block <| x_seq <|
    x_region <| p (yl_move q1z) <| p (yl_assign rfl) <| x_done <|
    x_region <| pa (at_load one_22 q25 ((hS.pull 1).cell rfl)) <| p (yl_move rfl) <| p (yl_move rfl) <|
    p (yix_o sl_22 rfl rfl (hS.pull 2) q18 q33) <| ?_
   replace hFL3 := lv_s hFL3; obtain ⟨q4p, q4b, hFL3⟩ := hFL3
   refine o_put' (news := [.int .i64 q0h]) sz_3 rfl rfl rfl rfl (o := 0) rfl q33 rfl (hS.pull 2) q18 (Le.refl _) (fun c hc => ok_all hc (show (RpI .i64).ok ρ [.int .i64 q0h] q0h from rfl)) q4b (fun q4c w' q4d hS => ?_)
   replace hFL3 := ar_s hFL3; obtain ⟨x36, hx36, hFL3⟩ := hFL3
   refine x_done <| x_blk <| x_region <| p (yadd q1z rfl hx36) <|
    p (yl_move rfl) <| x_done <| ?_
   have e_ := sinj hFL3; subst e_
   exact x_inv ⟨kL3, Nat.lt_succ_self _, q4c, x36, q4p, hLL3, q2l, q2m, q25, q2c, rfl, q4d, ((((hS.pull 3).pull 1).pull 3).pull 3)⟩
  ·replace hFL3 := it_f hc30 hFL3
   refine x_exitTo _ rfl <| ?_
   have e_ := sinj hFL3; subst e_
   exact x_inv ⟨q0k, q17, hLL3, q2l, q2m, q25, q18, ((((hS.pull 3).pull 3).pull 3).pull 3)⟩
 rintro E w ⟨q0t, q1h, rfl, q34, q4e, q35, q2n, hS⟩
 refine x_seq <| x_region <| p (v := .func (.func 81) #[] #[.pointer (some ⟨b5, 0, none⟩)]) (yl_makeFunc (by simp only [List.map_toArray, List.map_nil]) (by simp only [List.map_toArray, List.map_cons, List.map_nil]; exact arr1 q35)) <| p (v := .func (.func 81) #[] #[.pointer (some ⟨b5, 0, none⟩)]) (yl_assign rfl) <|
  x_done <| x_seq <| x_region <| ?_
 refine o_mkmap (κ := T_rules_key) (α := Int) kf_146 (Value.int .i64) hS (fun b38 w' hS => ?_)
 refine p (yl_assign rfl) <| x_done <| x_seq <| x_seq <|
  x_region <| p (yl_move q34) <| p (yl_len_slice usl_98 rfl) <| p (yl_move rfl) <|
  x_done <| ?_
 replace hF := bd_s hF; obtain ⟨oL10, hLL10, hF⟩ := hF
 refine x_join (fun E w => ∃ (q0l : List Value) (q19 : List Int), q19 = oL10 ∧ E 0 = .slice q0d l_0.length c_l_0 ∧ E 7 = .func (.func 81) #[] #[.pointer (some ⟨b5, 0, none⟩)] ∧ RepL (RpI .i64) ρ q19 q0l ∧ St w0 w (cells b5 22 [.slice A26 q2.length q2.length] :: cells q3 3 [.int .i64 q5] :: vec 3 (RpI .i64).sz (.slice A26 q2.length q2.length) q2.length q0l :: ro ρ :: l)) ?_ ?_
 ·refine x_block ?_
  refine x_loop (fun k_ E w => ∃ (q0b : List Value) (q0m : List (T_rules_key × Int)) (q7 : Int) (q0o : List Int), lp (P_rules_groups_L10 l_0 q5) k_ (q0m, q7, q0o) = some oL10 ∧ E 0 = .slice q0d l_0.length c_l_0 ∧ E 1 = .func (.func 64) #[] #[.pointer (some ⟨q3, 0, none⟩)] ∧ E 5 = .pointer (some ⟨b5, 0, none⟩) ∧ E 7 = .func (.func 81) #[] #[.pointer (some ⟨b5, 0, none⟩)] ∧ E 8 = .map (some b38) ∧ E 39 = .slice q0d l_0.length c_l_0 ∧ E 40 = .int .i64 (l_0.length : Int) ∧ E 41 = .int .i64 q7 ∧ RepL (RpI .i64) ρ q0o q0b ∧ St w0 w (cells q3 3 [.int .i64 q5] :: cells b5 22 [.slice A26 q2.length q2.length] :: mapA b38 kf_146 (Value.int .i64) q0m :: vec 3 (RpI .i64).sz (.slice A26 q2.length q2.length) q2.length q0b :: ro ρ :: l)) fuel ⟨q0t, [], 0, q1h, hLL10, q34, q4e, q35, rfl, rfl, rfl, rfl, rfl, q2n, (((((hS.pull 4).pull 4).pull 2).pull 4).pull 4)⟩ ?_
  rintro kL10 E w ⟨q0b, q0m, q7, q0o, hLL10, q2d, q2e, q36, q2f, q37, q26, q27, q1a, q1o, hS⟩
  replace hLL10 := lp_s hLL10; obtain ⟨kL10, obL10, rfl, hFL10, hLL10⟩ := hLL10
  refine x_seq <| x_region <| p (yl_lss q1a q27) <| x_done <|
   x_seq <|
   x_cond_p (q7 < (l_0.length : Int)) rfl (fun hc42 => ?_) (fun hc42 => ?_)
  ·replace hFL10 := it_t hc42 hFL10
   replace hFL10 := ck_s hFL10; obtain ⟨q2o, hFL10⟩ := hFL10
   replace hFL10 := lv_s hFL10; obtain ⟨q6, q3e, hFL10⟩ := hFL10
   have q_ := q2i.get q2o; obtain ⟨q4r, q2p, q3f⟩ := q_
   rw [← q3e] at q2p
   obtain ⟨q13, q4q, q14, rfl, q2g⟩ := q2p
   have e_ := q2g.n; subst e_
   refine x_skip <| x_seq <| x_block <| x_seq <|
    x_region <| p (yl_move q1a) <| p (yix_f sl_98 q26 q1a q2i q2o) <| pa (v := .agg #[.int .i64 q6.fnet, .slice q13 q6.fspots.length q14, .bool q6.fwire, .int .i64 q6.fpin]) (at_loadAgg agg_122 rfl rfl (Elt.every q3f (hS.pull 4))) <| ?_
   refine o_alloc zero_122 hS (fun b10 w' hS => ?_)
   refine p (yl_assign rfl) <| ?_
   refine o_storeAgg (news := [.int .i64 q6.fnet, .slice q13 q6.fspots.length q14, .bool q6.fwire, .int .i64 q6.fpin]) agg_122 rfl rfl rfl (by simp [over_length]) hS (fun w' hS => ?_)
   replace hFL10 := bd_s hFL10; obtain ⟨q1i, q3g, hFL10⟩ := hFL10
   refine x_done <| x_seq <| x_region <| p (yl_move q2e) <|
    pa (v := .agg #[.int .i64 q6.fnet, .slice q13 q6.fspots.length q14, .bool q6.fwire, .int .i64 q6.fpin]) (ld_sub agg_122 rfl rfl rfl hS) <| ?_
   have hcall := c_rules_small_1 q3g q2g ((hS.pull 5).pull 2)
   refine o_ccv rfl call_64 (capargs (args1 rfl)) hcall ?_
   rintro e w' ⟨q0i, q1e, q3d, c_y0_ret_12_2, rfl, q2h, q0r, hS⟩
   refine ⟨_, rfl, ?_⟩
   have e_ := q0r.n; subst e_
   refine p (yl_len_slice usl_120 rfl) <| p (yl_move rfl) <| x_done <| ?_
   replace hFL10 := bd_s hFL10; obtain ⟨oL13, hLL13, hFL10⟩ := hFL10
   refine x_join (fun E w => ∃ (q0n : List Value) (q0u : List (T_rules_key × Int)) (q1b : List Int), (q0u, q1b) = oL13 ∧ E 0 = .slice q0d l_0.length c_l_0 ∧ E 1 = .func (.func 64) #[] #[.pointer (some ⟨q3, 0, none⟩)] ∧ E 5 = .pointer (some ⟨b5, 0, none⟩) ∧ E 7 = .func (.func 81) #[] #[.pointer (some ⟨b5, 0, none⟩)] ∧ E 8 = .map (some b38) ∧ E 39 = .slice q0d l_0.length c_l_0 ∧ E 40 = .int .i64 (l_0.length : Int) ∧ E 41 = .int .i64 q7 ∧ RepL (RpI .i64) q0i q1b q0n ∧ St w0 w (cells q3 3 [.int .i64 q5] :: cells b5 22 [.slice A26 q2.length q2.length] :: mapA b38 kf_146 (Value.int .i64) q0u :: vec 3 (RpI .i64).sz (.slice A26 q2.length q2.length) q2.length q0n :: ro q0i :: l)) ?_ ?_
   ·refine x_block ?_
    refine x_loop (fun k_ E w => ∃ (q0c : List Value) (q0e : List (T_rules_key × Int)) (q0x : Int) (q0p : List Int), lp (P_rules_groups_L13 q6 q1i q7) k_ (q0e, q0x, q0p) = some oL13 ∧ E 0 = .slice q0d l_0.length c_l_0 ∧ E 1 = .func (.func 64) #[] #[.pointer (some ⟨q3, 0, none⟩)] ∧ E 5 = .pointer (some ⟨b5, 0, none⟩) ∧ E 7 = .func (.func 81) #[] #[.pointer (some ⟨b5, 0, none⟩)] ∧ E 8 = .map (some b38) ∧ E 9 = .int .i64 q7 ∧ E 10 = .pointer (some ⟨b10, 0, none⟩) ∧ E 39 = .slice q0d l_0.length c_l_0 ∧ E 40 = .int .i64 (l_0.length : Int) ∧ E 41 = .int .i64 q7 ∧ E 48 = .slice q1e q1i.length c_y0_ret_12_2 ∧ E 49 = .int .i64 (q1i.length : Int) ∧ E 50 = .int .i64 q0x ∧ RepL (RpI .i64) q0i q0p q0c ∧ St w0 w (cells q3 3 [.int .i64 q5] :: cells b5 22 [.slice A26 q2.length q2.length] :: mapA b38 kf_146 (Value.int .i64) q0e :: cells b10 122 [.int .i64 q6.fnet, .slice q13 q6.fspots.length q14, .bool q6.fwire, .int .i64 q6.fpin] :: vec 3 (RpI .i64).sz (.slice A26 q2.length q2.length) q2.length q0c :: ro q0i :: l)) fuel ⟨q0b, q0m, 0, q0o, hLL13, q2d, q2e, q36, q2f, q37, rfl, rfl, q26, q27, q1a, rfl, rfl, rfl, (q1o.le q2h), ((((((hS.pull 1).pull 5).pull 3).pull 5).pull 5).pull 5)⟩ ?_
    rintro kL13 E w ⟨q0c, q0e, q0x, q0p, hLL13, q20, q21, q1j, q15, q16, q1k, q1q, q1r, q1s, q1t, q1u, q1v, q1c, q12, hS⟩
    replace hLL13 := lp_s hLL13; obtain ⟨kL13, obL13, rfl, hFL13, hLL13⟩ := hLL13
    refine x_seq <| x_region <| p (yl_lss q1c q1v) <| x_done <|
     x_seq <|
     x_cond_p (q0x < (q1i.length : Int)) rfl (fun hc51 => ?_) (fun hc51 => ?_)
    ·replace hFL13 := it_t hc51 hFL13
     refine x_skip <| x_seq <| ?_
     replace hFL13 := bd_s hFL13; obtain ⟨ob5, hFb5, hFL13⟩ := hFL13
     refine x_join (fun E w => ∃ (q0v : List Value) (q11 : List (T_rules_key × Int)) (q1l : List Int), (q11, q1l) = ob5 ∧ E 0 = .slice q0d l_0.length c_l_0 ∧ E 1 = .func (.func 64) #[] #[.pointer (some ⟨q3, 0, none⟩)] ∧ E 5 = .pointer (some ⟨b5, 0, none⟩) ∧ E 7 = .func (.func 81) #[] #[.pointer (some ⟨b5, 0, none⟩)] ∧ E 8 = .map (some b38) ∧ E 9 = .int .i64 q7 ∧ E 10 = .pointer (some ⟨b10, 0, none⟩) ∧ E 39 = .slice q0d l_0.length c_l_0 ∧ E 40 = .int .i64 (l_0.length : Int) ∧ E 41 = .int .i64 q7 ∧ E 48 = .slice q1e q1i.length c_y0_ret_12_2 ∧ E 49 = .int .i64 (q1i.length : Int) ∧ E 50 = .int .i64 q0x ∧ RepL (RpI .i64) q0i q1l q0v ∧ St w0 w (cells q3 3 [.int .i64 q5] :: cells b5 22 [.slice A26 q2.length q2.length] :: mapA b38 kf_146 (Value.int .i64) q11 :: cells b10 122 [.int .i64 q6.fnet, .slice q13 q6.fspots.length q14, .bool q6.fwire, .int .i64 q6.fpin] :: vec 3 (RpI .i64).sz (.slice A26 q2.length q2.length) q2.length q0v :: ro q0i :: l)) ?_ ?_
     ·replace hFb5 := ck_s hFb5; obtain ⟨q2q, hFb5⟩ := hFb5
      replace hFb5 := lv_s hFb5; obtain ⟨q4, q3h, hFb5⟩ := hFb5
      have q_ := q0r.get q2q; obtain ⟨q4s, q2r, q3i⟩ := q_
      rw [← q3h] at q2r
      have e_ := q2r; subst e_
      refine x_block <| x_seq <| x_region <| p (yix_f sl_120 q1u q1c q0r q2q) <|
       pa (v := .agg #[.int .i64 q4.Layer, .int .i64 q4.X, .int .i64 q4.Y]) (at_loadAgg agg_61 rfl rfl (Elt.every q3i (hS.pull 5))) <| ?_
      refine o_alloc zero_61 hS (fun b12 w' hS => ?_)
      refine o_storeAgg (news := [.int .i64 q4.Layer, .int .i64 q4.X, .int .i64 q4.Y]) agg_61 rfl rfl rfl (by simp [over_length]) hS (fun w' hS => ?_)
      refine x_done <| x_seq <| x_region <| p (yl_field0 fld_122_0 q1q) <|
       pa (at_load one_3 rfl ((hS.pull 4).cell rfl)) <| pa (v := .agg #[.int .i64 q4.Layer, .int .i64 q4.X, .int .i64 q4.Y]) (ld_sub agg_61 rfl rfl rfl hS) <| p (v := .agg #[.int .i64 q6.fnet, .int .i64 q4.Layer, .int .i64 q4.X, .int .i64 q4.Y]) (yl_build bld_146 bldf_146 (parts_eq (pt (va := .int .i64 q6.fnet) rfl (pt (va := .agg #[.int .i64 q4.Layer, .int .i64 q4.X, .int .i64 q4.Y]) rfl pt0))) (by kernel_rfl)) <| ?_
      refine o_alloc zero_146 hS (fun b13 w' hS => ?_)
      refine o_storeAgg (news := [.int .i64 q6.fnet, .int .i64 q4.Layer, .int .i64 q4.X, .int .i64 q4.Y]) agg_146 rfl rfl rfl (by simp [over_length]) hS (fun w' hS => ?_)
      replace hFb5 := lv_s hFb5; obtain ⟨x61, hx61, hFb5⟩ := hFb5
      replace hFb5 := lv_s hFb5; obtain ⟨q61, hq61, hFb5⟩ := hFb5
      refine x_done <| x_seq <| x_region <| p (yl_move q16) <|
       pa (v := .agg #[.int .i64 q6.fnet, .int .i64 q4.Layer, .int .i64 q4.X, .int .i64 q4.Y]) (ld_sub agg_146 rfl rfl rfl hS) <| pa (at_look2 (k := (T_rules_key.mk q6.fnet (T_rules_Spot.mk q4.Layer q4.X q4.Y))) um_144 kp_146 (zero1 zv_3) rfl rfl (hS.pull 4) hx61 hq61) <| p (yl_move rfl) <| p (yl_extract rfl rfl) <|
       p (yl_extract rfl rfl) <| p (yl_assign rfl) <| p (yl_assign rfl) <| x_done <|
       x_seq <| x_seq <| x_region <| p (yl_move rfl) <|
       p (yl_not rfl) <| x_done <|
       x_cond (t := !q61) rfl (fun hc65 => ?_) (fun hc65 => ?_)
      ·replace hFb5 := it_t hc65 hFb5
       refine x_seq <| x_region <| p (yl_move q16) <| pa (v := .agg #[.int .i64 q6.fnet, .int .i64 q4.Layer, .int .i64 q4.X, .int .i64 q4.Y]) (ld_sub agg_146 rfl rfl rfl hS) <|
        p (yl_move q1k) <| ?_
       replace hFb5 := lv_s hFb5; obtain ⟨q4f, q3j, hFb5⟩ := hFb5
       refine o_mapset (k := (T_rules_key.mk q6.fnet (T_rules_Spot.mk q4.Layer q4.X q4.Y))) (vf := (Value.int .i64)) (v := q7) um_144 kp_146 rfl rfl rfl (hS.pull 4) q3j (fun w' hS => ?_)
       refine x_done <| x_exitTo _ rfl <| ?_
       exact x_inv ⟨q0c, q4f, q0p, (sinj hFb5), q20, q21, q1j, q15, q16, q1k, q1q, q1r, q1s, q1t, q1u, q1v, q1c, q12, ((((((((hS.pull 1).drop.pull 1).drop.pull 5).pull 5).pull 5).pull 3).pull 5).pull 5)⟩
      ·replace hFb5 := it_bf hc65 hFb5
       replace hFb5 := bd_s hFb5; obtain ⟨q4t, q3k, hFb5⟩ := hFb5
       refine x_skip <| x_seq <| x_region <| p (yl_move q15) <|
        p (yl_move q1k) <| ?_
       have hcall := c_rules_groups_1 q3k q12 (((hS.pull 7).pull 7).pull 5)
       refine o_ccv rfl call_81 (capargs (args1 rfl)) hcall ?_
       rintro e w' ⟨q2s, rfl, q1m, hS⟩
       refine ⟨_, rfl, ?_⟩
       replace hFb5 := bd_s hFb5; obtain ⟨q4u, q3l, hFb5⟩ := hFb5
       refine p (yl_move q15) <| p (yl_move rfl) <| ?_
       have hcall := c_rules_groups_1 q3l q1m (((hS.pull 2).pull 2).pull 2)
       refine o_ccv rfl call_81 (capargs (args1 rfl)) hcall ?_
       rintro e w' ⟨q2t, rfl, q0s, hS⟩
       refine ⟨_, rfl, ?_⟩
       replace hFb5 := lv_s hFb5; obtain ⟨x78, hx78, hFb5⟩ := hFb5
       replace hFb5 := lv_s hFb5; obtain ⟨x81, hx81, hFb5⟩ := hFb5
       replace hFb5 := ck_s hFb5; obtain ⟨q2u, hFb5⟩ := hFb5
       refine p (yl_assign rfl) <| p (yl_assign rfl) <| x_done <| x_region <|
        pa (at_load one_22 q1j (hS.cell rfl)) <| p (yl_move rfl) <| p (yl_move rfl) <| p (ymax' rfl rfl hx78) <|
        p (yl_move rfl) <| p (yl_move rfl) <| p (ymin' rfl rfl hx81) <| p (yix_o sl_22 rfl rfl (hS.pull 1) q0s q2u) <| ?_
       replace hFb5 := lv_s hFb5; obtain ⟨q4g, q3m, hFb5⟩ := hFb5
       refine o_put' (news := [.int .i64 x81]) sz_3 rfl rfl rfl rfl (o := 0) rfl q2u rfl (hS.pull 1) q0s (Le.refl _) (fun c hc => ok_all hc (show (RpI .i64).ok q0i [.int .i64 x81] x81 from rfl)) q3m (fun q3n w' q3o hS => ?_)
       refine x_done <| x_blk <| ?_
       exact x_inv ⟨q3n, q0e, q4g, (sinj hFb5), q20, q21, q1j, q15, q16, q1k, q1q, q1r, q1s, q1t, q1u, q1v, q1c, q3o, ((((((((hS.pull 3).drop.pull 3).drop.pull 2).pull 1).pull 5).pull 5).pull 4).pull 5)⟩
     rintro E w ⟨q0v, q11, q1l, rfl, q4h, q4i, q4j, q4k, q4l, q4m, q3p, q3q, q3r, q3s, q3t, q3u, q3v, q2v, hS⟩
     replace hFL13 := ar_s hFL13; obtain ⟨x83, hx83, hFL13⟩ := hFL13
     refine x_region <| p (yadd q3v rfl hx83) <| p (yl_move rfl) <| x_done <| ?_
     have e_ := sinj hFL13; subst e_
     exact x_inv ⟨kL13, Nat.lt_succ_self _, q0v, q11, x83, q1l, hLL13, q4h, q4i, q4j, q4k, q4l, q4m, q3p, q3q, q3r, q3s, q3t, q3u, rfl, q2v, ((((((hS.pull 5).pull 5).pull 5).pull 5).pull 5).pull 5)⟩
    ·replace hFL13 := it_f hc51 hFL13
     refine x_exitTo _ rfl <| ?_
     have e_ := sinj hFL13; subst e_
     exact x_inv ⟨q0c, q0e, q0p, hLL13, q20, q21, q1j, q15, q16, q1r, q1s, q1t, q12, ((((((hS.pull 3).drop.pull 4).pull 4).pull 4).pull 4).pull 4)⟩
   rintro E w ⟨q0n, q0u, q1b, rfl, q3w, q3x, q3y, q3z, q40, q38, q39, q3a, q2j, hS⟩
   replace hFL10 := ar_s hFL10; obtain ⟨x84, hx84, hFL10⟩ := hFL10
   refine x_blk <| x_region <| p (yadd q3a rfl hx84) <| p (yl_move rfl) <|
    x_done <| ?_
   have e_ := sinj hFL10; subst e_
   exact x_inv ⟨kL10, Nat.lt_succ_self _, q0n, q0u, x84, q1b, hLL10, q3w, q3x, q3y, q3z, q40, q38, q39, rfl, (RepL.flat (fun h => h) q2j), (ro_back4 q2h (((((hS.pull 4).pull 4).pull 4).pull 4).pull 4))⟩
  ·replace hFL10 := it_f hc42 hFL10
   refine x_exitTo _ rfl <| ?_
   have e_ := sinj hFL10; subst e_
   exact x_inv ⟨q0b, q0o, hLL10, q2d, q2f, q1o, (((((hS.pull 2).drop.pull 3).pull 3).pull 2).pull 3)⟩
 rintro E w ⟨q0l, q19, rfl, q2w, q41, q2k, hS⟩
 refine x_seq <| x_region <| ?_
 refine o_mkmap (κ := Int) (α := Int) (Value.int .i64) (Value.int .i64) hS (fun b85 w' hS => ?_)
 refine p (yl_assign rfl) <| x_done <| x_seq <| x_region <|
  p (yl_move q2w) <| p (yl_len_slice usl_98 rfl) <| ?_
 replace hF := ck_s hF; obtain ⟨q42, hF⟩ := hF
 replace hF := lv_s hF; obtain ⟨q8, q43, hF⟩ := hF
 refine o_mk sl_22 zero_3 (show (RpI .i64).ok ρ _ 0 from rfl) rfl rfl q42 (by decide) q43 hS (fun A88 cs88 w' hr88 hS => ?_)
 refine p (yl_assign rfl) <| x_done <| x_seq <| x_seq <|
  x_region <| p (yl_move q2w) <| p (yl_len_slice usl_98 rfl) <| p (yl_move rfl) <|
  x_done <| ?_
 replace hF := bd_s hF; obtain ⟨oL26, hLL26, hF⟩ := hF
 refine x_join (fun E w => ∃ (q0g : List Value) (q1f : List Int), q1f = oL26 ∧ E 19 = .slice A88 q8.length q8.length ∧ RepL (RpI .i64) ρ q1f q0g ∧ St w0 w (vec 3 (RpI .i64).sz (.slice A88 q8.length q8.length) q8.length q0g :: cells q3 3 [.int .i64 q5] :: ro ρ :: l)) ?_ ?_
 ·refine x_block ?_
  refine x_loop (fun k_ E w => ∃ (q9 : List Value) (q0y : List Value) (q0a : List (Int × Int)) (q0w : List Int) (q0j : Int) (q1g : List Int), lp (P_rules_groups_L26 l_0) k_ (q0a, q0w, q0j, q1g) = some oL26 ∧ E 7 = .func (.func 81) #[] #[.pointer (some ⟨b5, 0, none⟩)] ∧ E 18 = .map (some b85) ∧ E 19 = .slice A88 q8.length q8.length ∧ E 90 = .int .i64 (l_0.length : Int) ∧ E 91 = .int .i64 q0j ∧ RepL (RpI .i64) ρ q0w q9 ∧ RepL (RpI .i64) ρ q1g q0y ∧ St w0 w (cells b5 22 [.slice A26 q2.length q2.length] :: mapA b85 (Value.int .i64) (Value.int .i64) q0a :: vec 3 (RpI .i64).sz (.slice A88 q8.length q8.length) q8.length q9 :: cells q3 3 [.int .i64 q5] :: vec 3 (RpI .i64).sz (.slice A26 q2.length q2.length) q2.length q0y :: ro ρ :: l)) fuel ⟨cs88, q0l, [], q8, 0, q19, hLL26, q41, rfl, rfl, rfl, rfl, hr88, q2k, ((((((hS.pull 5).pull 5).pull 5).pull 3).pull 4).pull 5)⟩ ?_
  rintro kL26 E w ⟨q9, q0y, q0a, q0w, q0j, q1g, hLL26, q22, q0z, q1w, q1x, q1d, q10, q2a, hS⟩
  replace hLL26 := lp_s hLL26; obtain ⟨kL26, obL26, rfl, hFL26, hLL26⟩ := hLL26
  refine x_seq <| x_region <| p (yl_lss q1d q1x) <| x_done <|
   x_seq <|
   x_cond_p (q0j < (l_0.length : Int)) rfl (fun hc92 => ?_) (fun hc92 => ?_)
  ·replace hFL26 := it_t hc92 hFL26
   replace hFL26 := bd_s hFL26; obtain ⟨q1y, q44, hFL26⟩ := hFL26
   refine x_skip <| x_seq <| x_block <| x_seq <|
    x_region <| p (yl_move q1d) <| p (yl_assign rfl) <| x_done <|
    x_seq <| x_region <| p (yl_move q22) <| p (yl_move rfl) <| ?_
   have hcall := c_rules_groups_1 q44 q2a (((hS.pull 5).pull 5).pull 2)
   refine o_ccv rfl call_81 (capargs (args1 rfl)) hcall ?_
   rintro e w' ⟨q0q, rfl, q1n, hS⟩
   refine ⟨_, rfl, ?_⟩
   replace hFL26 := lv_s hFL26; obtain ⟨x100, hx100, hFL26⟩ := hFL26
   replace hFL26 := lv_s hFL26; obtain ⟨q100, hq100, hFL26⟩ := hFL26
   refine p (yl_assign rfl) <| x_done <| x_seq <| x_seq <|
    x_region <| p (yl_move q0z) <| p (yl_move rfl) <| pa (at_look2 (k := q1y.1) um_131 (KeyP.int ui_3) (zero1 zv_3) rfl rfl (hS.pull 3) hx100 hq100) <|
    p (yl_move rfl) <| p (yl_extract rfl rfl) <| p (yl_extract rfl rfl) <| p (yl_assign rfl) <|
    p (yl_assign rfl) <| x_done <| x_seq <| x_region <|
    p (yl_move rfl) <| p (yl_not rfl) <| x_done <| ?_
   replace hFL26 := bd_s hFL26; obtain ⟨oc104, hFc104, hFL26⟩ := hFL26
   refine x_join (fun E w => ∃ (q0f : List (Int × Int)), q0f = oc104 ∧ E 7 = .func (.func 81) #[] #[.pointer (some ⟨b5, 0, none⟩)] ∧ E 18 = .map (some b85) ∧ E 19 = .slice A88 q8.length q8.length ∧ E 20 = .int .i64 q0j ∧ E 21 = .int .i64 q1y.1 ∧ E 90 = .int .i64 (l_0.length : Int) ∧ E 91 = .int .i64 q0j ∧ St w0 w (cells b5 22 [.slice A26 q2.length q2.length] :: mapA b85 (Value.int .i64) (Value.int .i64) q0f :: vec 3 (RpI .i64).sz (.slice A88 q8.length q8.length) q8.length q9 :: cells q3 3 [.int .i64 q5] :: vec 3 (RpI .i64).sz (.slice A26 q2.length q2.length) q2.length q0q :: ro ρ :: l)) ?_ ?_
   ·refine x_cond (t := !q100) rfl (fun hc104 => ?_) (fun hc104 => ?_)
    ·replace hFc104 := it_t hc104 hFc104
     refine x_region <| p (yl_move q0z) <| p (yl_move rfl) <| p (yl_move q0z) <|
      pa (at_lenm um_131 rfl (hS.pull 3)) <| ?_
     replace hFc104 := lv_s hFc104; obtain ⟨q4n, q45, hFc104⟩ := hFc104
     refine o_mapset (k := q1y.1) (vf := (Value.int .i64)) (v := (q0a.length : Int)) um_131 (KeyP.int ui_3) rfl rfl rfl (hS.pull 3) q45 (fun w' hS => ?_)
     refine x_done <| ?_
     exact x_inv ⟨q4n, (sinj hFc104), q22, q0z, q1w, rfl, rfl, q1x, q1d, ((((((hS.pull 3).pull 3).pull 5).pull 5).pull 4).pull 5)⟩
    ·replace hFc104 := it_bf hc104 hFc104
     refine x_skip <| ?_
     exact x_inv ⟨q0a, (sinj hFc104), q22, q0z, q1w, rfl, rfl, q1x, q1d, ((((((hS.pull 2).pull 2).pull 5).pull 5).pull 5).pull 5)⟩
   rintro E w ⟨q0f, rfl, q3b, q28, q29, q2y, q2z, q30, q31, hS⟩
   replace hFL26 := lv_s hFL26; obtain ⟨x113, hx113, hFL26⟩ := hFL26
   replace hFL26 := ck_s hFL26; obtain ⟨q2x, hFL26⟩ := hFL26
   refine x_region <| p (yl_move q29) <| p (yl_move q2y) <| p (yl_move q28) <|
    p (yl_move q2z) <| pa (at_look (k := q1y.1) um_131 (KeyP.int ui_3) (zero1 zv_3) rfl rfl (hS.pull 1) hx113) <| p (yix_o sl_22 rfl rfl (hS.pull 2) q10 q2x) <| ?_
   replace hFL26 := lv_s hFL26; obtain ⟨q4o, q46, hFL26⟩ := hFL26
   refine o_put' (news := [.int .i64 x113]) sz_3 rfl rfl rfl rfl (o := 0) rfl q2x rfl (hS.pull 2) q10 (Le.refl _) (fun c hc => ok_all hc (show (RpI .i64).ok ρ [.int .i64 x113] x113 from rfl)) q46 (fun q47 w' q48 hS => ?_)
   replace hFL26 := ar_s hFL26; obtain ⟨x115, hx115, hFL26⟩ := hFL26
   refine x_done <| x_blk <| x_region <| p (yadd q31 rfl hx115) <|
    p (yl_move rfl) <| x_done <| ?_
   have e_ := sinj hFL26; subst e_
   exact x_inv ⟨kL26, Nat.lt_succ_self _, q47, q0q, q0f, q4o, x115, q1y.2, hLL26, q3b, q28, q29, q30, rfl, q48, q1n, ((((((hS.pull 5).pull 5).pull 5).pull 3).pull 5).pull 5)⟩
  ·replace hFL26 := it_f hc92 hFL26
   refine x_exitTo _ rfl <| ?_
   have e_ := sinj hFL26; subst e_
   exact x_inv ⟨q9, q0w, hLL26, q1w, q10, ((((hS.drop.drop.pull 2).drop.pull 2).pull 2).pull 2)⟩
 rintro E w ⟨q0g, q1f, rfl, q3c, q2b, hS⟩
 refine x_seq <| x_region <| p (yl_move q3c) <| p (yl_assign rfl) <|
  x_done <| ?_
 have e_ := sinj hF; subst e_
 exact x_return ⟨_, ⟨_, _, rfl, rfl, rfl⟩, A88, q8.length, q8.length, q0g, rfl, q2b, (((hS.pull 2).pull 2).pull 2)⟩
attribute [irreducible] P_rules_groups

def P_rules_Spot_before (a0 : T_rules_Spot) (b1 : T_rules_Spot) : Option Bool :=
 if a0.Layer ≠ b1.Layer then
  some (decide (a0.Layer < b1.Layer))
 else
  if a0.Y ≠ b1.Y then
   some (decide (a0.Y < b1.Y))
  else
   some (decide (a0.X < b1.X))
theorem c_rules_Spot_before {w0 w : World} {l : List Assn} {ρ : Heap} {a0 : T_rules_Spot} {b1 : T_rules_Spot} {r : Bool} (hF : P_rules_Spot_before a0 b1 = some r) (hS : St w0 w (ro ρ :: l)) :
  Calls Try.prog 71 #[.agg #[.int .i64 a0.Layer, .int .i64 a0.X, .int .i64 a0.Y], .agg #[.int .i64 b1.Layer, .int .i64 b1.X, .int .i64 b1.Y]] w fun e w' => e = .returned (.bool r) ∧ St w0 w' (ro ρ :: l) := by
 refine enterC Try.func71 rfl 32 rfl (by simp) ?_
 refine x_seq <| x_region <| ?_
 refine o_box (cs := [.int .i64 a0.Layer, .int .i64 a0.X, .int .i64 a0.Y]) rfl rfl hS (fun b2 w' hS => ?_)
 refine o_box (cs := [.int .i64 b1.Layer, .int .i64 b1.X, .int .i64 b1.Y]) rfl rfl hS (fun b3 w' hS => ?_)
 refine p (yl_assign rfl) <| x_done <| x_seq <| x_block <|
  x_seq <| x_region <| p (yl_field0 fld_61_0 rfl) <| pa (at_load one_3 rfl ((hS.pull 1).cell rfl)) <|
  p (yl_field0 fld_61_0 rfl) <| pa (at_load one_3 rfl (hS.cell rfl)) <| p (yl_neq rfl rfl) <| p (yl_assign rfl) <|
  x_done <|
  x_cond_p (a0.Layer ≠ b1.Layer) rfl (fun hc5 => ?_) (fun hc5 => ?_)
 ·replace hF := it_t hc5 hF
  refine x_seq <| x_region <| p (yl_field0 fld_61_0 rfl) <| pa (at_load one_3 rfl ((hS.pull 1).cell rfl)) <|
   p (yl_field0 fld_61_0 rfl) <| pa (at_load one_3 rfl (hS.cell rfl)) <| p (yl_lss rfl rfl) <| p (yl_assign rfl) <|
   x_done <| ?_
  have e_ := sinj hF; subst e_
  exact x_return ⟨_, ⟨_, _, rfl, rfl, rfl⟩, rfl, hS.drop.drop⟩
 ·replace hF := it_f hc5 hF
  refine x_seq <| x_region <| p (yl_field0 fld_61_2 rfl) <| pa (at_load one_3 rfl ((hS.pull 1).cell rfl)) <|
   p (yl_field0 fld_61_2 rfl) <| pa (at_load one_3 rfl (hS.cell rfl)) <| p (yl_neq rfl rfl) <| p (yl_assign rfl) <|
   x_done <|
   x_cond_p (a0.Y ≠ b1.Y) rfl (fun hc16 => ?_) (fun hc16 => ?_)
  ·replace hF := it_t hc16 hF
   refine x_seq <| x_region <| p (yl_field0 fld_61_2 rfl) <| pa (at_load one_3 rfl ((hS.pull 1).cell rfl)) <|
    p (yl_field0 fld_61_2 rfl) <| pa (at_load one_3 rfl (hS.cell rfl)) <| p (yl_lss rfl rfl) <| p (yl_assign rfl) <|
    x_done <| ?_
   have e_ := sinj hF; subst e_
   exact x_return ⟨_, ⟨_, _, rfl, rfl, rfl⟩, rfl, hS.drop.drop⟩
  ·replace hF := it_f hc16 hF
   refine x_skip <| x_blk <| x_seq <| x_region <|
    p (yl_field0 fld_61_1 rfl) <| pa (at_load one_3 rfl ((hS.pull 1).cell rfl)) <| p (yl_field0 fld_61_1 rfl) <| pa (at_load one_3 rfl (hS.cell rfl)) <|
    p (yl_lss rfl rfl) <| p (yl_assign rfl) <| x_done <| ?_
   have e_ := sinj hF; subst e_
   exact x_return ⟨_, ⟨_, _, rfl, rfl, rfl⟩, rfl, hS.drop.drop⟩
attribute [irreducible] P_rules_Spot_before

def P_rules_leastN_L4 (set0 : List (T_rules_Spot × Bool)) : (Bool × List Nat × Int × Int × Int) → Nd ((Bool × List Nat × Int × Int × Int) ⊕ (Int × Int × Int)) := fun (q2, q7, q3, q4, q5) =>
 nnx (set0.length) q7 (
  nret (Sum.inr (q3, q4, q5))) fun i8 =>
 nlv (gt set0 i8) fun e10 =>
 nbd (nof (gd (!q2) (P_rules_Spot_before e10.1 (T_rules_Spot.mk q3 q4 q5)))) fun q0b =>
 nlv (q2 || q0b) fun x17 =>
 nbd (
  if x17 = true then
   nret (false, e10.1.Layer, e10.1.X, e10.1.Y)
  else
   nret (q2, q3, q4, q5)) fun (q6, q8, q9, q0a) =>
 nret (Sum.inl (q6, (q7 ++ [i8]), q8, q9, q0a))
def P_rules_leastN (set0 : List (T_rules_Spot × Bool)) : Nd T_rules_Spot :=
 nbd (
  nlp (P_rules_leastN_L4 set0) fuel (true, [], 0, 0, 0)) fun (q2, q3, q4) =>
 nret (T_rules_Spot.mk q2 q3 q4)
theorem c_rules_leastN {w0 w : World} {l : List Assn} {ρ : Heap} {q6 : Nat} {set0 : List (T_rules_Spot × Bool)} {Q : T_rules_Spot → Prop} (hF : P_rules_leastN set0 Q) (hS : St w0 w (mapA q6 kf_61 Value.bool set0 :: ro ρ :: l)) :
  Calls Try.prog 69 #[.map (some q6)] w fun e w' => ∃ r : T_rules_Spot, Q r ∧ e = .returned (.agg #[.int .i64 r.Layer, .int .i64 r.X, .int .i64 r.Y]) ∧ St w0 w' (mapA q6 kf_61 Value.bool set0 :: ro ρ :: l) := by
 refine enterC Try.func69 rfl 20 rfl (by simp) ?_
 refine x_seq <| x_region <| ?_
 refine o_alloc zero_61 hS (fun b2 w' hS => ?_)
 refine x_done <| x_seq <| x_region <| ?_
 refine o_alloc zero_61 hS (fun b3 w' hS => ?_)
 refine x_done <| x_seq <| x_region <| p (yl_assign rfl) <|
  x_done <| x_seq <| x_seq <| x_region <|
  p (yl_move rfl) <| ?_
 refine o_range um_84 rfl (hS.pull 2) (fun b7 w' hS => ?_)
 refine x_done <| ?_
 replace hF := nbd_j hF; obtain ⟨oL4, hLL4, hF⟩ := hF
 refine x_join (fun E w => ∃ (q8 : Int) (q9 : Int) (q0a : Int), oL4 (q8, q9, q0a) ∧ E 2 = .pointer (some ⟨b2, 0, none⟩) ∧ E 3 = .pointer (some ⟨b3, 0, none⟩) ∧ St w0 w (cells b2 61 [.int .i64 0, .int .i64 0, .int .i64 0] :: cells b3 61 [.int .i64 q8, .int .i64 q9, .int .i64 q0a] :: mapA q6 kf_61 Value.bool set0 :: ro ρ :: l)) ?_ ?_
 ·refine x_block ?_
  refine x_loop (fun k_ E w => ∃ (q2 : Bool) (q0e : List Nat) (q3 : Int) (q4 : Int) (q5 : Int), nlp (P_rules_leastN_L4 set0) k_ (q2, q0e, q3, q4, q5) oL4 ∧ E 2 = .pointer (some ⟨b2, 0, none⟩) ∧ E 3 = .pointer (some ⟨b3, 0, none⟩) ∧ E 4 = .bool q2 ∧ E 7 = .pointer (some ⟨b7, 0, none⟩) ∧ St w0 w (cells b2 61 [.int .i64 0, .int .i64 0, .int .i64 0] :: cells b3 61 [.int .i64 q3, .int .i64 q4, .int .i64 q5] :: mapA q6 kf_61 Value.bool set0 :: itA b7 q6 set0.length q0e :: ro ρ :: l)) fuel ⟨true, [], 0, 0, 0, hLL4, rfl, rfl, rfl, rfl, (((((hS.pull 4).pull 1).pull 2).pull 3).pull 4)⟩ ?_
  rintro kL4 E w ⟨q2, q0e, q3, q4, q5, hLL4, q0h, q0f, q0i, q0g, hS⟩
  replace hLL4 := nlp_s hLL4; obtain ⟨kL4, obL4, rfl, hFL4, hLL4⟩ := hLL4
  refine x_seq <| x_region <|
   o_next q0g ((hS.pull 2).pull 3) (fun q0r w' hS => ?_) (fun i8 q0k q0s w' hS => ?_)
  ·replace hFL4 := nnx_a hFL4 q0r
   refine p (yl_extract rfl rfl) <| x_done <| x_seq <| x_cond_f (show ev _ _ = .bool false from rfl) <|
    x_exitTo _ rfl <| ?_
   exact x_inv ⟨q3, q4, q5, (hLL4 _ hFL4), q0h, q0f, ((((hS.drop.pull 3).pull 1).pull 3).pull 3)⟩
  ·replace hFL4 := nnx_k hFL4 q0k q0s
   replace hFL4 := nlv_s hFL4; obtain ⟨e10, he10, hFL4⟩ := hFL4
   refine p (yl_extract rfl rfl) <| x_done <| x_seq <| x_cond_t (show ev _ _ = .bool true from rfl) <|
    x_skip <| x_block <| x_seq <| x_region <|
    pa (at_entry (kf := kf_61) (vf := Value.bool) q0g q0k ((hS.pull 1).pull 1) he10) <| p (yl_extract rfl rfl) <| ?_
   refine o_alloc zero_61 hS (fun b5 w' hS => ?_)
   refine o_storeAgg (news := [.int .i64 e10.1.Layer, .int .i64 e10.1.X, .int .i64 e10.1.Y]) agg_61 rfl rfl rfl (by simp [over_length]) hS (fun w' hS => ?_)
   replace hFL4 := nbd_s hFL4; obtain ⟨q0t, q0p, hFL4⟩ := hFL4
   refine x_done <| x_seq <| x_region <| p (yl_move q0i) <|
    p (yl_move rfl) <| pg (v := .agg #[.int .i64 e10.1.Layer, .int .i64 e10.1.X, .int .i64 e10.1.Y]) 13 (c := !q2) (says_f _) (fun hq => ld_sub agg_61 rfl rfl rfl hS) <| pg (v := .agg #[.int .i64 q3, .int .i64 q4, .int .i64 q5]) 13 (c := !q2) (says_f _) (fun hq => ld_sub agg_61 q0f rfl rfl (hS.pull 4)) <|
    pccg (v := .bool q0t) 13 (c := !q2) (says_f _) call_71 (fun hq => (args2 (cv hq) (cv hq))) hS (fun hq => by
     have hcall := c_rules_Spot_before (gd_t q0p hq)  (hS.pull 5)
     exact (Calls.mono hcall (fun e w'' h => And.intro h.1 (((((h.2.pull 5).pull 5).pull 5).pull 5).pull 5)))) (fun w' hS => ?_)
   replace hFL4 := nlv_s hFL4; obtain ⟨x17, hx17, hFL4⟩ := hFL4
   refine p (yor' rfl rfl (fun hc => (cv (t_not hc))) hx17) <| x_done <| ?_
   replace hFL4 := nbd_j hFL4; obtain ⟨oc17, hFc17, hFL4⟩ := hFL4
   refine x_join (fun E w => ∃ (q7 : Bool) (q0b : Int) (q0c : Int) (q0d : Int), oc17 (q7, q0b, q0c, q0d) ∧ E 2 = .pointer (some ⟨b2, 0, none⟩) ∧ E 3 = .pointer (some ⟨b3, 0, none⟩) ∧ E 4 = .bool q7 ∧ E 7 = .pointer (some ⟨b7, 0, none⟩) ∧ St w0 w (cells b2 61 [.int .i64 0, .int .i64 0, .int .i64 0] :: cells b3 61 [.int .i64 q0b, .int .i64 q0c, .int .i64 q0d] :: mapA q6 kf_61 Value.bool set0 :: itA b7 q6 set0.length (q0e ++ [i8]) :: ro ρ :: l)) ?_ ?_
   ·refine x_cond (t := x17) rfl (fun hc17 => ?_) (fun hc17 => ?_)
    ·replace hFc17 := nit_t hc17 hFc17
     refine x_region <| pa (v := .agg #[.int .i64 e10.1.Layer, .int .i64 e10.1.X, .int .i64 e10.1.Y]) (ld_sub agg_61 rfl rfl rfl hS) <| ?_
     refine o_storeAgg (news := [.int .i64 e10.1.Layer, .int .i64 e10.1.X, .int .i64 e10.1.Y]) agg_61 q0f rfl rfl (by simp [over_length]) (hS.pull 4) (fun w' hS => ?_)
     refine p (yl_assign rfl) <| x_done <| ?_
     exact x_inv ⟨false, e10.1.Layer, e10.1.X, e10.1.Y, hFc17, q0h, q0f, rfl, q0g, ((((((hS.pull 1).drop.pull 4).pull 2).pull 3).pull 3).pull 4)⟩
    ·replace hFc17 := nit_bf hc17 hFc17
     refine x_skip <| ?_
     exact x_inv ⟨q2, q3, q4, q5, hFc17, q0h, q0f, q0i, q0g, (((((hS.drop.pull 4).pull 1).pull 2).pull 4).pull 4)⟩
   rintro E w ⟨q7, q0b, q0c, q0d, hq_, q0l, q0m, q0n, q0o, hS⟩
   replace hFL4 := hFL4 _ hq_
   clear hq_
   refine x_blk <| ?_
   exact x_inv ⟨kL4, Nat.lt_succ_self _, q7, (q0e ++ [i8]), q0b, q0c, q0d, (hLL4 _ hFL4), q0l, q0m, q0n, q0o, (((((hS.pull 4).pull 4).pull 4).pull 4).pull 4)⟩
 rintro E w ⟨q8, q9, q0a, hq_, q0j, q0q, hS⟩
 replace hF := hF _ hq_
 clear hq_
 refine x_seq <| x_region <| pa (v := .agg #[.int .i64 q8, .int .i64 q9, .int .i64 q0a]) (ld_sub agg_61 q0q rfl rfl (hS.pull 1)) <| ?_
 refine o_storeAgg (news := [.int .i64 q8, .int .i64 q9, .int .i64 q0a]) agg_61 q0j rfl rfl (by simp [over_length]) hS (fun w' hS => ?_)
 refine x_done <| ?_
 exact x_return ⟨_, ⟨_, _, _, rfl, q0j, ldvA agg_61 rfl (fun j v hj => by rw [add0]; exact St.cell hS hj), rfl⟩, (T_rules_Spot.mk q8 q9 q0a), hF, rfl, ((hS.drop.drop.pull 1).pull 1)⟩
attribute [irreducible] P_rules_leastN

def befS (a b : T_rules_Spot) : Bool := if a.Layer ≠ b.Layer then decide (a.Layer < b.Layer) else if a.Y ≠ b.Y then decide (a.Y < b.Y) else decide (a.X < b.X)
theorem before_befS (a b : T_rules_Spot) : P_rules_Spot_before a b = some (befS a b) := by
 unfold P_rules_Spot_before befS
 split
 ·rfl
 ·split <;> rfl
theorem befS_iff {a b : T_rules_Spot} : befS a b = true ↔ a.Layer < b.Layer ∨ a.Layer = b.Layer ∧ (a.Y < b.Y ∨ a.Y = b.Y ∧ a.X < b.X) := by
 unfold befS
 split
 ·simp only [decide_eq_true_eq]; omega
 ·split <;> simp only [decide_eq_true_eq] <;> omega
theorem befS_false {a b : T_rules_Spot} : befS a b = false ↔ ¬ (a.Layer < b.Layer ∨ a.Layer = b.Layer ∧ (a.Y < b.Y ∨ a.Y = b.Y ∧ a.X < b.X)) := by
 rw [← befS_iff]; simp
/-- The first spot of a set's keys. -/
def leastS : List (T_rules_Spot × Bool) → T_rules_Spot
 | [] => ⟨0, 0, 0⟩
 | [e] => e.1
 | e :: f :: r => if befS e.1 (leastS (f :: r)) = true then e.1 else leastS (f :: r)
theorem leastS_spec : ∀ {es : List (T_rules_Spot × Bool)}, es ≠ [] → (∃ e ∈ es, e.1 = leastS es) ∧ ∀ e ∈ es, befS e.1 (leastS es) = false
 | [], h => absurd rfl h
 | [e], _ => ⟨⟨e, by simp, rfl⟩, fun x hx => by simp at hx; subst hx; rw [befS_false]; simp only [leastS]; omega⟩
 | e :: f :: r, _ => by
  obtain ⟨⟨m, hm, em⟩, h2⟩ := leastS_spec (es := f :: r) (by simp)
  simp only [leastS]
  split
  ·rename_i h
   refine ⟨⟨e, by simp, rfl⟩, fun x hx => ?_⟩
   rcases List.mem_cons.1 hx with rfl | hx
   ·rw [befS_false]; omega
   ·have := h2 x hx
    rw [befS_false] at this ⊢
    rw [befS_iff] at h
    omega
  ·rename_i h
   refine ⟨⟨m, by simp [List.mem_cons.1 hm], em⟩, fun x hx => ?_⟩
   rcases List.mem_cons.1 hx with rfl | hx
   ·simpa using h
   ·exact h2 x hx
theorem leastS_only {es : List (T_rules_Spot × Bool)} {m : T_rules_Spot} (h0 : es ≠ []) (h1 : ∃ e ∈ es, e.1 = m) (h2 : ∀ e ∈ es, befS e.1 m = false) : m = leastS es := by
 obtain ⟨⟨e, he, e1⟩, h3⟩ := leastS_spec h0
 obtain ⟨f, hf, e2⟩ := h1
 have a := h2 e he
 have b := h3 f hf
 rw [e1] at a
 rw [e2] at b
 rw [befS_false] at a b
 obtain ⟨a1, a2, a3⟩ := m
 generalize leastS es = z at a b ⊢
 obtain ⟨b1, b2, b3⟩ := z
 dsimp only at a b
 have : a1 = b1 ∧ a2 = b2 ∧ a3 = b3 := by omega
 obtain ⟨rfl, rfl, rfl⟩ := this
 rfl
theorem leastS_det (es : List (T_rules_Spot × Bool)) (hlen : es.length < 4611686018427387904) : NOk (P_rules_leastN es) (fun x => x = leastS es) := by
 unfold P_rules_leastN
 refine nok_bd (S := fun q => (⟨q.1, q.2.1, q.2.2⟩ : T_rules_Spot) = leastS es) ?_ (fun q hq => nok_ret hq)
 refine nok_lp (fun s => s.2.1.Nodup ∧ (∀ i ∈ s.2.1, i < es.length) ∧ s.2.1.length ≤ es.length ∧ (s.2.1 = [] ∧ s.1 = true ∧ s.2.2 = (0, 0, 0) ∨ s.1 = false ∧ (∃ i ∈ s.2.1, i < es.length ∧ (gt es (i : Int)).1 = ⟨s.2.2.1, s.2.2.2.1, s.2.2.2.2⟩) ∧ ∀ i ∈ s.2.1, befS (gt es (i : Int)).1 ⟨s.2.2.1, s.2.2.2.1, s.2.2.2.2⟩ = false)) (fun s => es.length - s.2.1.length)
  ⟨List.nodup_nil, by simp, by simp, .inl ⟨rfl, rfl, rfl⟩⟩ (by simpa using hlen) ?_
 rintro ⟨first, seen, l, x, y⟩ ⟨h1, h2, h3, h4⟩
 dsimp only at h1 h2 h3 h4
 unfold P_rules_leastN_L4
 dsimp only
 refine nok_nx (fun hall => nok_ret ?_) fun i hi hni => ?_
 ·show (⟨l, x, y⟩ : T_rules_Spot) = leastS es
  rcases h4 with ⟨h5, h6, h7⟩ | ⟨h5, ⟨j, hj, hjl, ej⟩, h6⟩
  ·have h0 : es = [] := by
    cases es with
    | nil => rfl
    | cons e r => have := hall 0 (by simp); rw [h5] at this; simp at this
   subst h0
   simp only [Prod.mk.injEq] at h7
   obtain ⟨rfl, rfl, rfl⟩ := h7
   rfl
  ·refine leastS_only (fun h0 => by subst h0; simp at hjl) ⟨gt es (j : Int), by rw [gt_nth hjl]; exact List.getElem_mem _, ej⟩ (fun e he => ?_)
   obtain ⟨k, hk, rfl⟩ := List.getElem_of_mem he
   have := h6 k (hall k hk)
   rwa [gt_nth hk] at this
 ·obtain ⟨a1, a2, a3⟩ := rng_add h1 h2 hi hni
  have hlen : (seen ++ [i]).length = seen.length + 1 := by simp
  refine nok_lv (nok_bo (S := fun q => first = true ∨ q = befS (gt es (i : Int)).1 ⟨l, x, y⟩) ?_ fun q hq => nok_lv ?_)
  ·rw [before_befS]
   cases first
   ·exact ⟨_, rfl, .inr rfl⟩
   ·exact ⟨_, rfl, .inl rfl⟩
  refine nok_bd (S := fun z => z.1 = false ∧ (∃ j ∈ seen ++ [i], j < es.length ∧ (gt es (j : Int)).1 = ⟨z.2.1, z.2.2.1, z.2.2.2⟩) ∧ ∀ j ∈ seen ++ [i], befS (gt es (j : Int)).1 ⟨z.2.1, z.2.2.1, z.2.2.2⟩ = false) ?_ (fun z hz => nok_ret ⟨⟨a1, a2, a3, .inr hz⟩, by dsimp only; omega⟩)
  refine nok_ite (fun hc => nok_ret ?_) (fun hc => nok_ret ?_)
  ·refine ⟨rfl, ⟨i, by simp, hi, rfl⟩, fun j hj => ?_⟩
   dsimp only
   rcases List.mem_append.1 hj with hj | hj
   ·rcases h4 with ⟨h5, _, _⟩ | ⟨h5, _, h6⟩
    ·rw [h5] at hj; simp at hj
    ·have c1 := h6 j hj
     have c2 : befS (gt es (i : Int)).1 ⟨l, x, y⟩ = true := by
      rcases hq with hq | hq
      ·rw [hq] at h5; cases h5
      ·rw [h5] at hc; rw [← hq]; simpa using hc
     rw [befS_false] at c1 ⊢
     rw [befS_iff] at c2
     dsimp only at c1 c2 ⊢
     omega
   ·simp at hj; subst hj
    rw [befS_false]; dsimp only; omega
  ·simp only [Bool.or_eq_true, not_or, Bool.not_eq_true] at hc
   rcases h4 with ⟨_, h5, _⟩ | ⟨h5, ⟨j, hj, hjl, ej⟩, h6⟩
   ·rw [h5] at hc; cases hc.1
   ·refine ⟨h5, ⟨j, by simp [hj], hjl, ej⟩, fun k hk => ?_⟩
    rcases List.mem_append.1 hk with hk | hk
    ·exact h6 k hk
    ·simp at hk; subst hk
     rcases hq with hq | hq
     ·rw [hq] at h5; cases h5
     ·rw [← hq]; exact hc.2
def P_rules_least (set0 : List (T_rules_Spot × Bool)) : Option T_rules_Spot := ck (set0.length < 4611686018427387904) <| some (leastS set0)
theorem c_rules_least {w0 w : World} {l : List Assn} {ρ : Heap} {q2 : Nat} {set0 : List (T_rules_Spot × Bool)} {r : T_rules_Spot} (hF : P_rules_least set0 = some r) (hS : St w0 w (mapA q2 kf_61 Value.bool set0 :: ro ρ :: l)) :
  Calls Try.prog 69 #[.map (some q2)] w fun e w' => e = .returned (.agg #[.int .i64 r.Layer, .int .i64 r.X, .int .i64 r.Y]) ∧ St w0 w' (mapA q2 kf_61 Value.bool set0 :: ro ρ :: l) := by
 unfold P_rules_least at hF
 obtain ⟨h0, hF⟩ := ck_s hF
 obtain rfl := Option.some.inj hF
 refine (c_rules_leastN (leastS_det set0 h0 _ (fun x h => h)) hS).mono ?_
 rintro e w' ⟨r, rfl, h⟩
 exact h
attribute [irreducible] P_rules_least

def P_rules_small_L11 (s2 : List T_rules_shape) (x33 : Int) (q7 : List T_rules_Spot) (q6 : Int) : (List (Int × List (T_rules_Spot × Bool)) × List (Int × Int) × Int) → Nd ((List (Int × List (T_rules_Spot × Bool)) × List (Int × Int) × Int) ⊕ (List (Int × List (T_rules_Spot × Bool)) × List (Int × Int))) := fun (q2, q5, q3) =>
 if q3 < (q7.length : Int) then
  nck (inb q3 q7.length) <|
  nlv (gt q7 q3) fun q0c =>
  nlv (!mhas x33 q2) fun x48 =>
  nbd (
   if x48 = true then
    nck (mhas x33 q2 = false) <|
    nlv (mput x33 [] q2) fun q0d =>
    nret q0d
   else
    nret q2) fun q4 =>
  nck (inb q6 s2.length) <|
  nlv (gt s2 q6) fun q8 =>
  nck (mhas x33 q4 = true) <|
  nlv (mput x33 (mput q0c true (mget x33 q4 [])) q4) fun q9 =>
  nlv (mget x33 q5 0) fun x63 =>
  nlv (mput x33 x63 q5) fun q0a =>
  nlv (mput x33 q8.fnet q0a) fun q0b =>
  nar (q3 + 1) fun x65 =>
  nret (Sum.inl (q9, q0b, x65))
 else
  nret (Sum.inr (q2, q5))
def P_rules_small_L8 (s2 : List T_rules_shape) (q7 : List Int) (q3 : Int) : (List (Int × List (T_rules_Spot × Bool)) × List (Int × Int) × Int) → Nd ((List (Int × List (T_rules_Spot × Bool)) × List (Int × Int) × Int) ⊕ (List (Int × List (T_rules_Spot × Bool)) × List (Int × Int))) := fun (q4, q5, q2) =>
 if q2 < (q7.length : Int) then
  nck (inb q2 q7.length) <|
  nlv (gt q7 q2) fun x33 =>
  nck (inb q2 s2.length) <|
  nlv (gt s2 q2) fun q9 =>
  nbd (nof (P_rules_small_1 q9 q3)) fun q0a =>
  nbd (
   nlp (P_rules_small_L11 s2 x33 q0a q2) fuel (q4, q5, 0)) fun (q6, q8) =>
  nar (q2 + 1) fun x66 =>
  nret (Sum.inl (q6, q8, x66))
 else
  nret (Sum.inr (q4, q5))
def P_rules_small_L19 (q4 : List (Int × List (T_rules_Spot × Bool))) (q9 : List (Int × Int)) : (List Nat × List (T_rules_Fault × Bool) × Bool) → Nd ((List Nat × List (T_rules_Fault × Bool) × Bool) ⊕ (List (T_rules_Fault × Bool) × Bool)) := fun (q5, q2, q3) =>
 nnx (q4.length) q5 (
  nret (Sum.inr (q2, q3))) fun i69 =>
 nlv (gt q4 i69) fun e71 =>
 nbd (
  if (e71.2.length : Int) < 2 then
   nlv (mget e71.1 q9 0) fun x80 =>
   nbd (nof (P_rules_least e71.2)) fun q0a =>
   nbd (nof (P_rules_bag_add q2 q3 (T_rules_Fault.mk 4 x80 0 q0a))) fun q8 =>
   nret (q8.1, q8.2)
  else
   nret (q2, q3)) fun (q6, q7) =>
 nret (Sum.inl ((q5 ++ [i69]), q6, q7))
def P_rules_small_L2 (l_1 : T_rules_Layout) (s2 : List T_rules_shape) : (List (T_rules_Fault × Bool) × Bool × Int) → Nd ((List (T_rules_Fault × Bool) × Bool × Int) ⊕ (List (T_rules_Fault × Bool) × Bool)) := fun (q3, q4, q2) =>
 if q2 < l_1.Layers then
  nbd (nof (P_rules_groups s2 q2)) fun q9 =>
  nbd (
   nlp (P_rules_small_L8 s2 q9 q2) fuel ([], [], 0)) fun (q7, q8) =>
  nbd (
   nlp (P_rules_small_L19 q7 q8) fuel ([], q3, q4)) fun (q5, q6) =>
  nar (q2 + 1) fun x21 =>
  nret (Sum.inl (q5, q6, x21))
 else
  nret (Sum.inr (q3, q4))
def P_rules_small (q4 : List (T_rules_Fault × Bool)) (q5 : Bool) (l_1 : T_rules_Layout) (s2 : List T_rules_shape) : Nd (List (T_rules_Fault × Bool) × Bool) :=
 nbd (
  nlp (P_rules_small_L2 l_1 s2) fuel (q4, q5, 1)) fun (q2, q3) =>
 nret (q2, q3)
theorem c_rules_small {w0 w : World} {l : List Assn} {ρ : Heap} {q0h : Nat} {q5 : Nat} {q0d : Option Addr} {q2l : Nat} {c_l_1_4 : Nat} {q0e : Option Addr} {q2m : Nat} {c_l_1_5 : Nat} {q0f : Option Addr} {q2n : Nat} {c_l_1_6 : Nat} {q0g : Option Addr} {q2o : Nat} {c_l_1_7 : Nat} {q0i : Option Addr} {q45 : Nat} {c_s2 : Nat} {q3c : List (T_rules_Fault × Bool)} {q3d : Bool} {l_1 : T_rules_Layout} {s2 : List T_rules_shape} {Q : (List (T_rules_Fault × Bool) × Bool) → Prop} (hF : P_rules_small q3c q3d l_1 s2 Q) (q3h : RdS R_rules_Wire ρ q0d q2l c_l_1_4 l_1.Wires) (q3i : RdS R_rules_Via ρ q0e q2m c_l_1_5 l_1.Vias) (q3j : RdS R_rules_Pin ρ q0f q2n c_l_1_6 l_1.Pins) (q3k : RdS R_floor_Wall ρ q0g q2o c_l_1_7 l_1.Walls) (q21 : RdS R_rules_shape ρ q0i q45 c_s2 s2) (hS : St w0 w (cells q0h 103 [.map (some q5), .bool q3d] :: mapA q5 kf_63 Value.bool q3c :: ro ρ :: l)) :
  Calls Try.prog 49 #[.pointer (some ⟨q0h, 0, none⟩), .agg #[.int .i64 l_1.W, .int .i64 l_1.H, .int .i64 l_1.Layers, .int .i64 l_1.Nets, .slice q0d q2l c_l_1_4, .slice q0e q2m c_l_1_5, .slice q0f q2n c_l_1_6, .slice q0g q2o c_l_1_7], .slice q0i q45 c_s2] w fun e w' => ∃ r : (List (T_rules_Fault × Bool) × Bool), Q r ∧ e = .returned (.tuple #[]) ∧ St w0 w' (cells q0h 103 [.map (some q5), .bool r.2] :: mapA q5 kf_63 Value.bool r.1 :: ro ρ :: l) := by
 have e_ := q3h.n; subst e_
 have e_ := q3i.n; subst e_
 have e_ := q3j.n; subst e_
 have e_ := q3k.n; subst e_
 have e_ := q21.n; subst e_
 refine enterC Try.func49 rfl 86 rfl (by simp) ?_
 refine x_seq <| x_region <| ?_
 refine o_box (cs := [.int .i64 l_1.W, .int .i64 l_1.H, .int .i64 l_1.Layers, .int .i64 l_1.Nets, .slice q0d l_1.Wires.length c_l_1_4, .slice q0e l_1.Vias.length c_l_1_5, .slice q0f l_1.Pins.length c_l_1_6, .slice q0g l_1.Walls.length c_l_1_7]) rfl rfl hS (fun b4 w' hS => ?_)
 refine x_done <| x_seq <| x_region <| ?_
 refine o_alloc zero_3 hS (fun b6 w' hS => ?_)
 refine o_store1 (v := .int .i64 1) one_3 rfl rfl rfl rfl hS (fun w' hS => ?_)
 refine x_done <| ?_
 replace hF := nbd_j hF; obtain ⟨oL2, hLL2, hF⟩ := hF
 refine x_join (fun E w => ∃ (q18 : List (T_rules_Fault × Bool)) (q19 : Bool), oL2 (q18, q19) ∧ St w0 w (cells q0h 103 [.map (some q5), .bool q19] :: mapA q5 kf_63 Value.bool q18 :: ro ρ :: l)) ?_ ?_
 ·refine x_block ?_
  refine x_loop (fun k_ E w => ∃ (q2 : Nat) (q9 : List (T_rules_Fault × Bool)) (q0a : Bool) (q3 : Int), nlp (P_rules_small_L2 l_1 s2) k_ (q9, q0a, q3) oL2 ∧ E 0 = .pointer (some ⟨q0h, 0, none⟩) ∧ E 2 = .slice q0i s2.length c_s2 ∧ E 4 = .pointer (some ⟨b4, 0, none⟩) ∧ E 6 = .pointer (some ⟨q2, 0, none⟩) ∧ St w0 w (cells q0h 103 [.map (some q5), .bool q0a] :: cells b4 31 [.int .i64 l_1.W, .int .i64 l_1.H, .int .i64 l_1.Layers, .int .i64 l_1.Nets, .slice q0d l_1.Wires.length c_l_1_4, .slice q0e l_1.Vias.length c_l_1_5, .slice q0f l_1.Pins.length c_l_1_6, .slice q0g l_1.Walls.length c_l_1_7] :: cells q2 3 [.int .i64 q3] :: mapA q5 kf_63 Value.bool q9 :: ro ρ :: l)) fuel ⟨b6, q3c, q3d, 1, hLL2, rfl, rfl, rfl, rfl, (((((hS.pull 4).pull 4).pull 2).pull 3).pull 4)⟩ ?_
  rintro kL2 E w ⟨q2, q9, q0a, q3, hLL2, q46, q2v, q2w, q2g, hS⟩
  replace hLL2 := nlp_s hLL2; obtain ⟨kL2, obL2, rfl, hFL2, hLL2⟩ := hLL2
  refine x_seq <| x_seq <| x_region <| pa (at_load one_3 q2g ((hS.pull 2).cell rfl)) <|
   p (yl_field0 fld_31_2 q2w) <| pa (at_load one_3 rfl ((hS.pull 1).cell rfl)) <| p (yl_lss rfl rfl) <| x_done <|
   x_cond_p (q3 < l_1.Layers) rfl (fun hc19 => ?_) (fun hc19 => ?_)
  ·replace hFL2 := nit_t hc19 hFL2
   refine x_skip <| x_seq <| x_block <| x_seq <|
    x_region <| p (v := .func (.func 64) #[] #[.pointer (some ⟨q2, 0, none⟩)]) (yl_makeFunc (by simp only [List.map_toArray, List.map_nil]) (by simp only [List.map_toArray, List.map_cons, List.map_nil]; exact arr1 q2g)) <| p (v := .func (.func 64) #[] #[.pointer (some ⟨q2, 0, none⟩)]) (yl_assign rfl) <| x_done <|
    x_seq <| x_region <| ?_
   refine o_mkmapM (Value.int .i64) kf_61 Value.bool hS (fun b23 w' hS => ?_)
   refine p (yl_assign rfl) <| x_done <| x_seq <| x_region <| ?_
   refine o_mkmap (κ := Int) (α := Int) (Value.int .i64) (Value.int .i64) hS (fun b24 w' hS => ?_)
   replace hFL2 := nbd_s hFL2; obtain ⟨q0j, q52, hFL2⟩ := hFL2
   refine p (yl_assign rfl) <| x_done <| x_seq <| x_seq <|
    x_region <| p (yl_move q2v) <| p (v := .func (.func 64) #[] #[.pointer (some ⟨q2, 0, none⟩)]) (yl_move rfl) <| ?_
   have hcall := c_rules_groups q52 q21 ((hS.pull 6).pull 5)
   refine o_cc call_68 (args2 rfl rfl) hcall ?_
   rintro e w' ⟨q0b, q47, c_y0_ret_7_2, q0m, rfl, q14, hS⟩
   refine ⟨_, rfl, ?_⟩
   have e_ := St.vec_n hS q14; subst e_
   refine p (yl_len_slice usl_22 rfl) <| p (yl_move rfl) <| x_done <| ?_
   replace hFL2 := nbd_j hFL2; obtain ⟨oL8, hLL8, hFL2⟩ := hFL2
   refine x_join (fun E w => ∃ (q0o : List Nat) (q0l : List (Int × List (T_rules_Spot × Bool))) (q13 : List (Int × Int)), oL8 (q0l, q13) ∧ E 0 = .pointer (some ⟨q0h, 0, none⟩) ∧ E 2 = .slice q0i s2.length c_s2 ∧ E 4 = .pointer (some ⟨b4, 0, none⟩) ∧ E 6 = .pointer (some ⟨q2, 0, none⟩) ∧ E 8 = .map (some b23) ∧ E 9 = .map (some b24) ∧ St w0 w (cells q0h 103 [.map (some q5), .bool q0a] :: cells b4 31 [.int .i64 l_1.W, .int .i64 l_1.H, .int .i64 l_1.Layers, .int .i64 l_1.Nets, .slice q0d l_1.Wires.length c_l_1_4, .slice q0e l_1.Vias.length c_l_1_5, .slice q0f l_1.Pins.length c_l_1_6, .slice q0g l_1.Walls.length c_l_1_7] :: cells q2 3 [.int .i64 q3] :: mapM b23 (Value.int .i64) kf_61 Value.bool q0l q0o :: mapA b24 (Value.int .i64) (Value.int .i64) q13 :: mapA q5 kf_63 Value.bool q9 :: ro ρ :: l)) ?_ ?_
   ·refine x_block ?_
    refine x_loop (fun k_ E w => ∃ (q0r : List Nat) (q0s : List (Int × List (T_rules_Spot × Bool))) (q15 : List (Int × Int)) (q7 : Int), nlp (P_rules_small_L8 s2 q0j q3) k_ (q0s, q15, q7) oL8 ∧ E 0 = .pointer (some ⟨q0h, 0, none⟩) ∧ E 2 = .slice q0i s2.length c_s2 ∧ E 4 = .pointer (some ⟨b4, 0, none⟩) ∧ E 6 = .pointer (some ⟨q2, 0, none⟩) ∧ E 7 = .func (.func 64) #[] #[.pointer (some ⟨q2, 0, none⟩)] ∧ E 8 = .map (some b23) ∧ E 9 = .map (some b24) ∧ E 27 = .slice q0b q0j.length c_y0_ret_7_2 ∧ E 28 = .int .i64 (q0j.length : Int) ∧ E 29 = .int .i64 q7 ∧ St w0 w (cells q0h 103 [.map (some q5), .bool q0a] :: cells b4 31 [.int .i64 l_1.W, .int .i64 l_1.H, .int .i64 l_1.Layers, .int .i64 l_1.Nets, .slice q0d l_1.Wires.length c_l_1_4, .slice q0e l_1.Vias.length c_l_1_5, .slice q0f l_1.Pins.length c_l_1_6, .slice q0g l_1.Walls.length c_l_1_7] :: cells q2 3 [.int .i64 q3] :: mapM b23 (Value.int .i64) kf_61 Value.bool q0s q0r :: mapA b24 (Value.int .i64) (Value.int .i64) q15 :: vec 3 (RpI .i64).sz (.slice q0b q0j.length c_y0_ret_7_2) q0j.length q0m :: mapA q5 kf_63 Value.bool q9 :: ro ρ :: l)) fuel ⟨[], [], [], 0, hLL8, q46, q2v, q2w, q2g, rfl, rfl, rfl, rfl, rfl, rfl, ((((((((hS.pull 2).pull 7).pull 2).pull 4).pull 5).pull 5).pull 7).pull 7)⟩ ?_
    rintro kL8 E w ⟨q0r, q0s, q15, q7, hLL8, q2x, q2h, q2y, q2z, q30, q31, q32, q2p, q2q, q1j, hS⟩
    replace hLL8 := nlp_s hLL8; obtain ⟨kL8, obL8, rfl, hFL8, hLL8⟩ := hLL8
    refine x_seq <| x_region <| p (yl_lss q1j q2q) <| x_done <|
     x_seq <|
     x_cond_p (q7 < (q0j.length : Int)) rfl (fun hc30 => ?_) (fun hc30 => ?_)
    ·replace hFL8 := nit_t hc30 hFL8
     replace hFL8 := nck_s hFL8; obtain ⟨q3f, hFL8⟩ := hFL8
     replace hFL8 := nlv_s hFL8; obtain ⟨x33, hx33, hFL8⟩ := hFL8
     replace hFL8 := nck_s hFL8; obtain ⟨q33, hFL8⟩ := hFL8
     replace hFL8 := nlv_s hFL8; obtain ⟨q2e, q48, hFL8⟩ := hFL8
     have q_ := q21.get q33; obtain ⟨q5h, q34, q49⟩ := q_
     rw [← q48] at q34
     obtain ⟨q3l, q5f, q3m, rfl, q2r⟩ := q34
     have e_ := q2r.n; subst e_
     replace hFL8 := nbd_s hFL8; obtain ⟨q1k, q4a, hFL8⟩ := hFL8
     refine x_skip <| x_seq <| x_block <| x_seq <|
      x_region <| p (yl_move q1j) <| p (yix_o sl_22 q2p q1j (hS.pull 5) q14 q3f) <| pa (at_load one_3 rfl (RepL.getW q14 (hS.pull 5) q3f hx33)) <|
      p (yl_assign rfl) <| p (yl_assign rfl) <| x_done <| x_seq <|
      x_region <| p (yl_move q30) <| p (yl_move q2h) <| p (yl_move rfl) <|
      p (yix_f sl_98 rfl rfl q21 q33) <| pa (v := .agg #[.int .i64 q2e.fnet, .slice q3l q2e.fspots.length q3m, .bool q2e.fwire, .int .i64 q2e.fpin]) (at_loadAgg agg_122 rfl rfl (Elt.every q49 (hS.pull 7))) <| ?_
     have hcall := c_rules_small_1 q4a q2r ((hS.pull 7).pull 3)
     refine o_ccv rfl call_64 (capargs (args1 rfl)) hcall ?_
     rintro e w' ⟨q0t, q1i, q44, c_y0_ret_10_5, rfl, q22, q0v, hS⟩
     refine ⟨_, rfl, ?_⟩
     have e_ := q0v.n; subst e_
     refine p (yl_len_slice usl_120 rfl) <| p (yl_move rfl) <| x_done <| ?_
     replace hFL8 := nbd_j hFL8; obtain ⟨oL11, hLL11, hFL8⟩ := hFL8
     refine x_join (fun E w => ∃ (q0w : List Nat) (q0x : List (Int × List (T_rules_Spot × Bool))) (q1e : List (Int × Int)), oL11 (q0x, q1e) ∧ E 0 = .pointer (some ⟨q0h, 0, none⟩) ∧ E 2 = .slice q0i s2.length c_s2 ∧ E 4 = .pointer (some ⟨b4, 0, none⟩) ∧ E 6 = .pointer (some ⟨q2, 0, none⟩) ∧ E 7 = .func (.func 64) #[] #[.pointer (some ⟨q2, 0, none⟩)] ∧ E 8 = .map (some b23) ∧ E 9 = .map (some b24) ∧ E 27 = .slice q0b q0j.length c_y0_ret_7_2 ∧ E 28 = .int .i64 (q0j.length : Int) ∧ E 29 = .int .i64 q7 ∧ St w0 w (cells q0h 103 [.map (some q5), .bool q0a] :: cells b4 31 [.int .i64 l_1.W, .int .i64 l_1.H, .int .i64 l_1.Layers, .int .i64 l_1.Nets, .slice q0d l_1.Wires.length c_l_1_4, .slice q0e l_1.Vias.length c_l_1_5, .slice q0f l_1.Pins.length c_l_1_6, .slice q0g l_1.Walls.length c_l_1_7] :: cells q2 3 [.int .i64 q3] :: mapM b23 (Value.int .i64) kf_61 Value.bool q0x q0w :: mapA b24 (Value.int .i64) (Value.int .i64) q1e :: vec 3 (RpI .i64).sz (.slice q0b q0j.length c_y0_ret_7_2) q0j.length q0m :: mapA q5 kf_63 Value.bool q9 :: ro q0t :: l)) ?_ ?_
     ·refine x_block ?_
      refine x_loop (fun k_ E w => ∃ (q0k : List Nat) (q0n : List (Int × List (T_rules_Spot × Bool))) (q8 : List (Int × Int)) (q16 : Int), nlp (P_rules_small_L11 s2 x33 q1k q7) k_ (q0n, q8, q16) oL11 ∧ E 0 = .pointer (some ⟨q0h, 0, none⟩) ∧ E 2 = .slice q0i s2.length c_s2 ∧ E 4 = .pointer (some ⟨b4, 0, none⟩) ∧ E 6 = .pointer (some ⟨q2, 0, none⟩) ∧ E 7 = .func (.func 64) #[] #[.pointer (some ⟨q2, 0, none⟩)] ∧ E 8 = .map (some b23) ∧ E 9 = .map (some b24) ∧ E 10 = .int .i64 q7 ∧ E 11 = .int .i64 x33 ∧ E 27 = .slice q0b q0j.length c_y0_ret_7_2 ∧ E 28 = .int .i64 (q0j.length : Int) ∧ E 29 = .int .i64 q7 ∧ E 39 = .slice q1i q1k.length c_y0_ret_10_5 ∧ E 40 = .int .i64 (q1k.length : Int) ∧ E 41 = .int .i64 q16 ∧ St w0 w (cells q0h 103 [.map (some q5), .bool q0a] :: cells b4 31 [.int .i64 l_1.W, .int .i64 l_1.H, .int .i64 l_1.Layers, .int .i64 l_1.Nets, .slice q0d l_1.Wires.length c_l_1_4, .slice q0e l_1.Vias.length c_l_1_5, .slice q0f l_1.Pins.length c_l_1_6, .slice q0g l_1.Walls.length c_l_1_7] :: cells q2 3 [.int .i64 q3] :: mapM b23 (Value.int .i64) kf_61 Value.bool q0n q0k :: mapA b24 (Value.int .i64) (Value.int .i64) q8 :: vec 3 (RpI .i64).sz (.slice q0b q0j.length c_y0_ret_7_2) q0j.length q0m :: mapA q5 kf_63 Value.bool q9 :: ro q0t :: l)) fuel ⟨q0r, q0s, q15, 0, hLL11, q2x, q2h, q2y, q2z, q30, q31, q32, rfl, rfl, q2p, q2q, q1j, rfl, rfl, rfl, ((((((((hS.pull 1).pull 7).pull 7).pull 7).pull 7).pull 5).pull 7).pull 7)⟩ ?_
      rintro kL11 E w ⟨q0k, q0n, q8, q16, hLL11, q23, q24, q25, q26, q27, q1a, q28, q2i, q1f, q1v, q1w, q1x, q1y, q1z, q1g, hS⟩
      replace hLL11 := nlp_s hLL11; obtain ⟨kL11, obL11, rfl, hFL11, hLL11⟩ := hLL11
      refine x_seq <| x_region <| p (yl_lss q1g q1z) <| x_done <|
       x_seq <|
       x_cond_p (q16 < (q1k.length : Int)) rfl (fun hc42 => ?_) (fun hc42 => ?_)
      ·replace hFL11 := nit_t hc42 hFL11
       replace hFL11 := nck_s hFL11; obtain ⟨q35, hFL11⟩ := hFL11
       replace hFL11 := nlv_s hFL11; obtain ⟨q6, q4b, hFL11⟩ := hFL11
       have q_ := q0v.get q35; obtain ⟨q5i, q36, q4c⟩ := q_
       rw [← q4b] at q36
       have e_ := q36; subst e_
       refine x_skip <| x_seq <| x_block <| x_seq <|
        x_region <| p (yix_f sl_120 q1y q1g q0v q35) <| pa (v := .agg #[.int .i64 q6.Layer, .int .i64 q6.X, .int .i64 q6.Y]) (at_loadAgg agg_61 rfl rfl (Elt.every q4c (hS.pull 7))) <| ?_
       refine o_alloc zero_61 hS (fun b13 w' hS => ?_)
       refine o_storeAgg (news := [.int .i64 q6.Layer, .int .i64 q6.X, .int .i64 q6.Y]) agg_61 rfl rfl rfl (by simp [over_length]) hS (fun w' hS => ?_)
       replace hFL11 := nlv_s hFL11; obtain ⟨x48, hx48, hFL11⟩ := hFL11
       refine x_done <| x_seq <| x_seq <| x_region <|
        p (yl_move q1a) <| p (yl_move q1f) <| pa (v := .map (mb x33 q0n q0k)) (at_lookM um_130 (KeyP.int ui_3) (zero1 zv_84) rfl rfl (hS.pull 4)) <| pa (at_nilM um_84 rfl rfl (hS.pull 4) hx48) <|
        x_done <| ?_
       replace hFL11 := nbd_j hFL11; obtain ⟨oc48, hFc48, hFL11⟩ := hFL11
       refine x_join (fun E w => ∃ (q4 : List Nat) (q0c : List (Int × List (T_rules_Spot × Bool))), oc48 q0c ∧ E 0 = .pointer (some ⟨q0h, 0, none⟩) ∧ E 2 = .slice q0i s2.length c_s2 ∧ E 4 = .pointer (some ⟨b4, 0, none⟩) ∧ E 6 = .pointer (some ⟨q2, 0, none⟩) ∧ E 7 = .func (.func 64) #[] #[.pointer (some ⟨q2, 0, none⟩)] ∧ E 8 = .map (some b23) ∧ E 9 = .map (some b24) ∧ E 10 = .int .i64 q7 ∧ E 11 = .int .i64 x33 ∧ E 13 = .pointer (some ⟨b13, 0, none⟩) ∧ E 27 = .slice q0b q0j.length c_y0_ret_7_2 ∧ E 28 = .int .i64 (q0j.length : Int) ∧ E 29 = .int .i64 q7 ∧ E 39 = .slice q1i q1k.length c_y0_ret_10_5 ∧ E 40 = .int .i64 (q1k.length : Int) ∧ E 41 = .int .i64 q16 ∧ St w0 w (cells q0h 103 [.map (some q5), .bool q0a] :: cells b4 31 [.int .i64 l_1.W, .int .i64 l_1.H, .int .i64 l_1.Layers, .int .i64 l_1.Nets, .slice q0d l_1.Wires.length c_l_1_4, .slice q0e l_1.Vias.length c_l_1_5, .slice q0f l_1.Pins.length c_l_1_6, .slice q0g l_1.Walls.length c_l_1_7] :: cells q2 3 [.int .i64 q3] :: mapM b23 (Value.int .i64) kf_61 Value.bool q0c q4 :: mapA b24 (Value.int .i64) (Value.int .i64) q8 :: cells b13 61 [.int .i64 q6.Layer, .int .i64 q6.X, .int .i64 q6.Y] :: vec 3 (RpI .i64).sz (.slice q0b q0j.length c_y0_ret_7_2) q0j.length q0m :: mapA q5 kf_63 Value.bool q9 :: ro q0t :: l)) ?_ ?_
       ·refine x_cond (t := x48) rfl (fun hc48 => ?_) (fun hc48 => ?_)
        ·replace hFc48 := nit_t hc48 hFc48
         refine x_region <| p (yl_move q1a) <| p (yl_move q1f) <| ?_
         refine o_mkmap (κ := T_rules_Spot) (α := Bool) kf_61 Value.bool hS (fun b51 w' hS => ?_)
         replace hFc48 := nck_s hFc48; obtain ⟨q4d, hFc48⟩ := hFc48
         replace hFc48 := nlv_s hFc48; obtain ⟨q53, q4e, hFc48⟩ := hFc48
         refine o_mapsetM (k := x33) um_130 (KeyP.int ui_3) rfl rfl rfl q4d ((hS.pull 5).pull 1) q4e (fun q4f w' hS => ?_)
         refine x_done <| ?_
         exact x_inv ⟨q4f, q53, hFc48, q23, q24, q25, q26, q27, q1a, q28, q2i, q1f, rfl, q1v, q1w, q1x, q1y, q1z, q1g, (((((((((hS.pull 8).pull 8).pull 8).pull 4).pull 8).pull 5).pull 8).pull 8).pull 8)⟩
        ·replace hFc48 := nit_bf hc48 hFc48
         refine x_skip <| ?_
         exact x_inv ⟨q0k, q0n, hFc48, q23, q24, q25, q26, q27, q1a, q28, q2i, q1f, rfl, q1v, q1w, q1x, q1y, q1z, q1g, (((((((((hS.pull 8).pull 8).pull 8).pull 3).pull 8).pull 8).pull 8).pull 8).pull 8)⟩
       rintro E w ⟨q4, q0c, hq_, q4g, q37, q4h, q4i, q4j, q38, q39, q2s, q29, q3n, q3o, q3p, q3q, q3r, q3s, q3t, hS⟩
       replace hFL11 := hFL11 _ hq_
       clear hq_
       replace hFL11 := nck_s hFL11; obtain ⟨q3a, hFL11⟩ := hFL11
       replace hFL11 := nlv_s hFL11; obtain ⟨q20, q3u, hFL11⟩ := hFL11
       replace hFL11 := nck_s hFL11; obtain ⟨q3v, hFL11⟩ := hFL11
       replace hFL11 := nlv_s hFL11; obtain ⟨q2j, q3w, hFL11⟩ := hFL11
       replace hFL11 := nlv_s hFL11; obtain ⟨x63, hx63, hFL11⟩ := hFL11
       replace hFL11 := nlv_s hFL11; obtain ⟨q3b, q2t, hFL11⟩ := hFL11
       replace hFL11 := nlv_s hFL11; obtain ⟨q2k, q3x, hFL11⟩ := hFL11
       refine x_par (w0 := w0) [⟨[], [], [52], [], [], [], none⟩, ⟨[], [], [53], [], [], [], none⟩, ⟨[0, 1], [0, 1], [54], [0], [], [], none⟩, ⟨[], [], [55], [1], [], [], none⟩, ⟨[], [], [56], [], [], [], none⟩, ⟨[], [], [57], [], [], [], none⟩, ⟨[], [], [58], [], [], [], none⟩, ⟨[], [], [59], [], [], [], none⟩, ⟨[6, 7], [6, 7], [60], [2], [], [], none⟩, ⟨[6, 7, 8], [8], [61], [], [], [], none⟩, ⟨[6, 7, 8, 9], [9], [62], [2], [], [], none⟩, ⟨[0, 1, 2, 3, 6, 7, 8, 9, 10], [2, 3], [], [], [0], [3], none⟩, ⟨[0, 1, 2, 3, 4, 5, 6, 7, 8, 9, 10, 11], [4, 5], [63], [], [4], [5], none⟩, ⟨[0, 1, 2, 3, 4, 5, 6, 7, 8, 9, 10, 11, 12], [12], [64], [], [], [], none⟩, ⟨[0, 1, 2, 3, 4, 5, 6, 7, 8, 9, 10, 11, 12, 13], [4, 10, 13], [], [], [5], [6], none⟩] [⟨none, (some 11), []⟩, ⟨none, none, []⟩, ⟨none, none, []⟩, ⟨(some 11), none, []⟩, ⟨none, (some 12), []⟩, ⟨(some 12), (some 14), []⟩, ⟨(some 14), none, []⟩] [52, 53, 54, 55, 56, 57, 58, 59, 60, 61, 62, 63, 64] [0, 1, 2, 4] [1, 2, 3, 6] [0, 1, 2, 3, 4, 5, 6, 7, 8, 9, 10, 12, 13] [fun Ep15 => Ep15 52 = .map (some b23), fun Ep15 => Ep15 53 = .int .i64 x33, fun Ep15 => Ep15 54 = .map (mb x33 q0c q4), fun Ep15 => Ep15 55 = .agg #[.int .i64 q6.Layer, .int .i64 q6.X, .int .i64 q6.Y], fun Ep15 => Ep15 56 = .map (some b24), fun Ep15 => Ep15 57 = .int .i64 x33, fun Ep15 => Ep15 58 = .slice q0i s2.length c_s2, fun Ep15 => Ep15 59 = .int .i64 q7, fun Ep15 => Ep15 60 = .pointer (some ((adr q0i).add (q7.toNat * R_rules_shape.sz))), fun Ep15 => Ep15 61 = .pointer (some (((adr q0i).add (q7.toNat * R_rules_shape.sz)).add 0)), fun Ep15 => Ep15 62 = .int .i64 q20.fnet, fun Ep15 => True, fun Ep15 => Ep15 63 = .tuple #[.int .i64 x63, .int .i64 ((mpos x33 q8 : Nat) : Int)], fun Ep15 => Ep15 64 = .int .i64 ((mpos x33 q8 : Nat) : Int), fun Ep15 => True] [fun Ep15 => mapM b23 (Value.int .i64) kf_61 Value.bool q0c q4, fun Ep15 => cells b13 61 [.int .i64 q6.Layer, .int .i64 q6.X, .int .i64 q6.Y], fun Ep15 => ro q0t, fun Ep15 => mapM b23 (Value.int .i64) kf_61 Value.bool q2j q4, fun Ep15 => mapA b24 (Value.int .i64) (Value.int .i64) q8, fun Ep15 => mapA b24 (Value.int .i64) (Value.int .i64) q3b, fun Ep15 => mapA b24 (Value.int .i64) (Value.int .i64) q2k] mixed (by kernel_rfl) ((((hS.pull 4).pull 8).pull 6).pull 6) ?_ ?_
       ·refine ⟨?_, ?_, ?_, ?_, ?_, ?_, ?_, ?_, ?_, ?_, ?_, ?_, ?_, ?_, ?_, trivial⟩
        ·intro Ep15 w l' hE15 hO15 hF_ hS
         refine p (yl_move ((hE15 8 rfl).trans q38)) <| x_done <| ?_
         refine x_fin ⟨⟨_, rfl⟩, rfl, ?_⟩
         exact emk hS
        ·intro Ep15 w l' hE15 hO15 hF_ hS
         refine p (yl_move ((hE15 11 rfl).trans q29)) <| x_done <| ?_
         refine x_fin ⟨⟨_, rfl⟩, rfl, ?_⟩
         exact emk hS
        ·intro Ep15 w l' hE15 hO15 hF_ hS
         obtain ⟨q1l, q1m, -⟩ := hF_
         replace q1l : Ep15 52 = .map (some b23) := emk q1l
         replace q1m : Ep15 53 = .int .i64 x33 := emk q1m
         replace hS : St w0 w (mapM b23 (Value.int .i64) kf_61 Value.bool q0c q4 :: l') := emk hS
         refine pa (v := .map (mb x33 q0c q4)) (at_lookM um_130 (KeyP.int ui_3) (zero1 zv_84) q1l q1m hS) <| x_done <| ?_
         refine x_fin ⟨⟨_, rfl⟩, rfl, ?_⟩
         exact emk hS
        ·intro Ep15 w l' hE15 hO15 hF_ hS
         replace hS : St w0 w (cells b13 61 [.int .i64 q6.Layer, .int .i64 q6.X, .int .i64 q6.Y] :: l') := emk hS
         refine pa (v := .agg #[.int .i64 q6.Layer, .int .i64 q6.X, .int .i64 q6.Y]) (ld_sub agg_61 ((hE15 13 rfl).trans q3n) rfl rfl hS) <| x_done <| ?_
         refine x_fin ⟨⟨_, rfl⟩, rfl, ?_⟩
         exact emk hS
        ·intro Ep15 w l' hE15 hO15 hF_ hS
         refine p (yl_move ((hE15 9 rfl).trans q39)) <| x_done <| ?_
         refine x_fin ⟨⟨_, rfl⟩, rfl, ?_⟩
         exact emk hS
        ·intro Ep15 w l' hE15 hO15 hF_ hS
         refine p (yl_move ((hE15 11 rfl).trans q29)) <| x_done <| ?_
         refine x_fin ⟨⟨_, rfl⟩, rfl, ?_⟩
         exact emk hS
        ·intro Ep15 w l' hE15 hO15 hF_ hS
         refine p (yl_move ((hE15 2 rfl).trans q37)) <| x_done <| ?_
         refine x_fin ⟨⟨_, rfl⟩, rfl, ?_⟩
         exact emk hS
        ·intro Ep15 w l' hE15 hO15 hF_ hS
         refine p (yl_move ((hE15 10 rfl).trans q2s)) <| x_done <| ?_
         refine x_fin ⟨⟨_, rfl⟩, rfl, ?_⟩
         exact emk hS
        ·intro Ep15 w l' hE15 hO15 hF_ hS
         obtain ⟨q1n, q1o, -⟩ := hF_
         replace q1n : Ep15 58 = .slice q0i s2.length c_s2 := emk q1n
         replace q1o : Ep15 59 = .int .i64 q7 := emk q1o
         replace hS : St w0 w (ro q0t :: l') := emk hS
         refine p (yix_f sl_98 q1n q1o (q21.le q22) q3a) <| x_done <| ?_
         refine x_fin ⟨⟨_, rfl⟩, rfl, ?_⟩
         exact emk hS
        ·intro Ep15 w l' hE15 hO15 hF_ hS
         obtain ⟨q1p, -⟩ := hF_
         replace q1p : Ep15 60 = .pointer (some ((adr q0i).add (q7.toNat * R_rules_shape.sz))) := emk q1p
         refine p (yl_fieldAddr fld_122_0 q1p) <| x_done <| ?_
         refine x_fin ⟨⟨_, rfl⟩, rfl, ?_⟩
         exact emk hS
        ·intro Ep15 w l' hE15 hO15 hF_ hS
         obtain ⟨q1q, -⟩ := hF_
         replace q1q : Ep15 61 = .pointer (some (((adr q0i).add (q7.toNat * R_rules_shape.sz)).add 0)) := emk q1q
         replace hS : St w0 w (ro q0t :: l') := emk hS
         have q_ := q21.get q3a; obtain ⟨q5g, q2u, q3y⟩ := q_
         rw [← q3u] at q2u
         obtain ⟨q5c, q5d, q5e, rfl, q3e⟩ := q2u
         have e_ := q3e.n; subst e_
         refine pa (at_load one_3 q1q (Elt.ld (j := 0) (Elt.le q3y q22) hS rfl)) <| x_done <| ?_
         refine x_fin ⟨⟨_, rfl⟩, rfl, ?_⟩
         exact emk hS
        ·intro Ep15 w l' hE15 hO15 hF_ hS
         obtain ⟨q1r, q1s, -⟩ := hF_
         replace q1r : Ep15 54 = .map (mb x33 q0c q4) := emk q1r
         replace q1s : Ep15 55 = .agg #[.int .i64 q6.Layer, .int .i64 q6.X, .int .i64 q6.Y] := emk q1s
         replace hS : St w0 w (mapM b23 (Value.int .i64) kf_61 Value.bool q0c q4 :: l') := emk hS
         refine o_setinM (k := x33) (k2 := q6) (vf2 := Value.bool) (v := true) um_84 kp_61 q1r q1s rfl q3v hS q3w (fun w' hS => ?_)
         refine x_done <| ?_
         refine x_fin ⟨⟨undef, rfl⟩, trivial, ?_⟩
         exact emk hS
        ·intro Ep15 w l' hE15 hO15 hF_ hS
         obtain ⟨q0u, q1t, -⟩ := hF_
         replace q0u : Ep15 56 = .map (some b24) := emk q0u
         replace q1t : Ep15 57 = .int .i64 x33 := emk q1t
         replace hS : St w0 w (mapA b24 (Value.int .i64) (Value.int .i64) q8 :: l') := emk hS
         refine o_mapEntry (k := x33) (vf := (Value.int .i64)) um_131 (KeyP.int ui_3) (zero1 zv_3) q0u q1t hS hx63 q2t (fun w' hS => ?_)
         refine x_done <| ?_
         refine x_fin ⟨⟨_, rfl⟩, rfl, ?_⟩
         exact emk hS
        ·intro Ep15 w l' hE15 hO15 hF_ hS
         obtain ⟨q1b, -⟩ := hF_
         replace q1b : Ep15 63 = .tuple #[.int .i64 x63, .int .i64 ((mpos x33 q8 : Nat) : Int)] := emk q1b
         refine p (yl_extract q1b rfl) <| x_done <| ?_
         refine x_fin ⟨⟨_, rfl⟩, rfl, ?_⟩
         exact emk hS
        ·intro Ep15 w l' hE15 hO15 hF_ hS
         obtain ⟨q0u, q1c, q1d, -⟩ := hF_
         replace q0u : Ep15 56 = .map (some b24) := emk q0u
         replace q1c : Ep15 62 = .int .i64 q20.fnet := emk q1c
         replace q1d : Ep15 64 = .int .i64 ((mpos x33 q8 : Nat) : Int) := emk q1d
         replace hS : St w0 w (mapA b24 (Value.int .i64) (Value.int .i64) q3b :: l') := emk hS
         refine o_entryStore (k := x33) (es := q8) (v0 := x63) (vf := (Value.int .i64)) (v := q20.fnet) q0u q1d q1c rfl q2t hS q3x (fun w' hS => ?_)
         refine x_done <| ?_
         refine x_fin ⟨⟨undef, rfl⟩, trivial, ?_⟩
         exact emk hS
       intro Ep15 w' hE15 hF_ hS
       obtain ⟨q1l, q1m, q1r, q1s, q0u, q1t, q1n, q1o, q1p, q1q, q1c, q1b, q1d, -⟩ := hF_
       replace q1l : Ep15 52 = .map (some b23) := emk q1l
       replace q1m : Ep15 53 = .int .i64 x33 := emk q1m
       replace q1r : Ep15 54 = .map (mb x33 q0c q4) := emk q1r
       replace q1s : Ep15 55 = .agg #[.int .i64 q6.Layer, .int .i64 q6.X, .int .i64 q6.Y] := emk q1s
       replace q0u : Ep15 56 = .map (some b24) := emk q0u
       replace q1t : Ep15 57 = .int .i64 x33 := emk q1t
       replace q1n : Ep15 58 = .slice q0i s2.length c_s2 := emk q1n
       replace q1o : Ep15 59 = .int .i64 q7 := emk q1o
       replace q1p : Ep15 60 = .pointer (some ((adr q0i).add (q7.toNat * R_rules_shape.sz))) := emk q1p
       replace q1q : Ep15 61 = .pointer (some (((adr q0i).add (q7.toNat * R_rules_shape.sz)).add 0)) := emk q1q
       replace q1c : Ep15 62 = .int .i64 q20.fnet := emk q1c
       replace q1b : Ep15 63 = .tuple #[.int .i64 x63, .int .i64 ((mpos x33 q8 : Nat) : Int)] := emk q1b
       replace q1d : Ep15 64 = .int .i64 ((mpos x33 q8 : Nat) : Int) := emk q1d
       replace hS : St w0 w' (cells b13 61 [.int .i64 q6.Layer, .int .i64 q6.X, .int .i64 q6.Y] :: ro q0t :: mapM b23 (Value.int .i64) kf_61 Value.bool q2j q4 :: mapA b24 (Value.int .i64) (Value.int .i64) q2k :: (cells q0h 103 [.map (some q5), .bool q0a] :: cells b4 31 [.int .i64 l_1.W, .int .i64 l_1.H, .int .i64 l_1.Layers, .int .i64 l_1.Nets, .slice q0d l_1.Wires.length c_l_1_4, .slice q0e l_1.Vias.length c_l_1_5, .slice q0f l_1.Pins.length c_l_1_6, .slice q0g l_1.Walls.length c_l_1_7] :: cells q2 3 [.int .i64 q3] :: vec 3 (RpI .i64).sz (.slice q0b q0j.length c_y0_ret_7_2) q0j.length q0m :: mapA q5 kf_63 Value.bool q9 :: l)) := emk hS
       replace hFL11 := nar_s hFL11; obtain ⟨x65, hx65, hFL11⟩ := hFL11
       refine x_blk <| x_region <| p (yadd ((hE15 41 rfl).trans q3t) rfl hx65) <| p (yl_move rfl) <|
        x_done <| ?_
       exact x_inv ⟨kL11, Nat.lt_succ_self _, q4, q2j, q2k, x65, (hLL11 _ hFL11), ((hE15 0 rfl).trans q4g), ((hE15 2 rfl).trans q37), ((hE15 4 rfl).trans q4h), ((hE15 6 rfl).trans q4i), ((hE15 7 rfl).trans q4j), ((hE15 8 rfl).trans q38), ((hE15 9 rfl).trans q39), ((hE15 10 rfl).trans q2s), ((hE15 11 rfl).trans q29), ((hE15 27 rfl).trans q3o), ((hE15 28 rfl).trans q3p), ((hE15 29 rfl).trans q3q), ((hE15 39 rfl).trans q3r), ((hE15 40 rfl).trans q3s), rfl, (((((((hS.drop.pull 7).pull 7).pull 4).pull 4).pull 7).pull 7).pull 7)⟩
      ·replace hFL11 := nit_f hc42 hFL11
       refine x_exitTo _ rfl <| ?_
       exact x_inv ⟨q0k, q0n, q8, (hLL11 _ hFL11), q23, q24, q25, q26, q27, q1a, q28, q1v, q1w, q1x, ((((((((hS.pull 7).pull 7).pull 7).pull 7).pull 7).pull 7).pull 7).pull 7)⟩
     rintro E w ⟨q0w, q0x, q1e, hq_, q4k, q4l, q4m, q4n, q4o, q4p, q4q, q3z, q40, q41, hS⟩
     replace hFL8 := hFL8 _ hq_
     clear hq_
     replace hFL8 := nar_s hFL8; obtain ⟨x66, hx66, hFL8⟩ := hFL8
     refine x_blk <| x_region <| p (yadd q41 rfl hx66) <| p (yl_move rfl) <|
      x_done <| ?_
     exact x_inv ⟨kL8, Nat.lt_succ_self _, q0w, q0x, q1e, x66, (hLL8 _ hFL8), q4k, q4l, q4m, q4n, q4o, q4p, q4q, q3z, q40, rfl, (ro_back7 q22 ((((((((hS.pull 7).pull 7).pull 7).pull 7).pull 7).pull 7).pull 7).pull 7))⟩
    ·replace hFL8 := nit_f hc30 hFL8
     refine x_exitTo _ rfl <| ?_
     exact x_inv ⟨q0r, q0s, q15, (hLL8 _ hFL8), q2x, q2h, q2y, q2z, q31, q32, ((((((((hS.pull 5).drop.pull 6).pull 6).pull 6).pull 6).pull 6).pull 6).pull 6)⟩
   rintro E w ⟨q0o, q0l, q13, hq_, q54, q55, q56, q57, q58, q59, hS⟩
   replace hFL2 := hFL2 _ hq_
   clear hq_
   refine x_seq <| x_region <| p (yl_move q58) <| ?_
   refine o_rangeM um_130 rfl (hS.pull 3) (fun b68 w' hS => ?_)
   refine x_done <| ?_
   replace hFL2 := nbd_j hFL2; obtain ⟨oL19, hLL19, hFL2⟩ := hFL2
   refine x_join (fun E w => ∃ (q0y : List (T_rules_Fault × Bool)) (q0z : Bool), oL19 (q0y, q0z) ∧ E 0 = .pointer (some ⟨q0h, 0, none⟩) ∧ E 2 = .slice q0i s2.length c_s2 ∧ E 4 = .pointer (some ⟨b4, 0, none⟩) ∧ E 6 = .pointer (some ⟨q2, 0, none⟩) ∧ St w0 w (cells q0h 103 [.map (some q5), .bool q0z] :: cells b4 31 [.int .i64 l_1.W, .int .i64 l_1.H, .int .i64 l_1.Layers, .int .i64 l_1.Nets, .slice q0d l_1.Wires.length c_l_1_4, .slice q0e l_1.Vias.length c_l_1_5, .slice q0f l_1.Pins.length c_l_1_6, .slice q0g l_1.Walls.length c_l_1_7] :: cells q2 3 [.int .i64 q3] :: mapA q5 kf_63 Value.bool q0y :: ro ρ :: l)) ?_ ?_
   ·refine x_block ?_
    refine x_loop (fun k_ E w => ∃ (q17 : List Nat) (q0p : List (T_rules_Fault × Bool)) (q0q : Bool), nlp (P_rules_small_L19 q0l q13) k_ (q17, q0p, q0q) oL19 ∧ E 0 = .pointer (some ⟨q0h, 0, none⟩) ∧ E 2 = .slice q0i s2.length c_s2 ∧ E 4 = .pointer (some ⟨b4, 0, none⟩) ∧ E 6 = .pointer (some ⟨q2, 0, none⟩) ∧ E 9 = .map (some b24) ∧ E 68 = .pointer (some ⟨b68, 0, none⟩) ∧ St w0 w (cells q0h 103 [.map (some q5), .bool q0q] :: cells b4 31 [.int .i64 l_1.W, .int .i64 l_1.H, .int .i64 l_1.Layers, .int .i64 l_1.Nets, .slice q0d l_1.Wires.length c_l_1_4, .slice q0e l_1.Vias.length c_l_1_5, .slice q0f l_1.Pins.length c_l_1_6, .slice q0g l_1.Walls.length c_l_1_7] :: cells q2 3 [.int .i64 q3] :: mapA b24 (Value.int .i64) (Value.int .i64) q13 :: mapM b23 (Value.int .i64) kf_61 Value.bool q0l q0o :: itA b68 b23 q0l.length q17 :: mapA q5 kf_63 Value.bool q0p :: ro ρ :: l)) fuel ⟨[], q9, q0a, hLL19, q54, q55, q56, q57, q59, rfl, ((((((((hS.pull 7).pull 7).pull 2).pull 3).pull 7).pull 7).pull 7).pull 7)⟩ ?_
    rintro kL19 E w ⟨q17, q0p, q0q, hLL19, q1u, q2a, q2b, q2c, q2d, q1h, hS⟩
    replace hLL19 := nlp_s hLL19; obtain ⟨kL19, obL19, rfl, hFL19, hLL19⟩ := hLL19
    refine x_seq <| x_region <|
     o_nextM q1h ((hS.pull 4).pull 5) (fun q5a w' hS => ?_) (fun i69 q2f q5b w' hS => ?_)
    ·replace hFL19 := nnx_a hFL19 q5a
     refine p (yl_extract rfl rfl) <| x_done <| x_seq <| x_cond_f (show ev _ _ = .bool false from rfl) <|
      x_exitTo _ rfl <| ?_
     exact x_inv ⟨q0p, q0q, (hLL19 _ hFL19), q1u, q2a, q2b, q2c, ((((((hS.drop.drop.pull 3).drop.pull 4).pull 4).pull 4).pull 4).pull 4)⟩
    ·replace hFL19 := nnx_k hFL19 q2f q5b
     replace hFL19 := nlv_s hFL19; obtain ⟨e71, he71, hFL19⟩ := hFL19
     refine p (yl_extract rfl rfl) <| x_done <| x_seq <| x_cond_t (show ev _ _ = .bool true from rfl) <|
      x_skip <| x_block <| x_seq <| x_region <|
      pa (at_entryM (kf := (Value.int .i64)) q1h q2f ((hS.pull 1).pull 1) he71) <| ?_
     replace hS := St.atM q2f he71 (hS.pull 1)
     refine p (yl_extract rfl rfl) <| p (yl_extract rfl rfl) <| p (yl_assign rfl) <| p (yl_assign rfl) <|
      x_done <| x_seq <| x_region <| p (yl_move rfl) <|
      pa (at_lenm um_84 rfl hS) <| p (yl_lss rfl rfl) <| x_done <| ?_
     replace hFL19 := nbd_j hFL19; obtain ⟨oc76, hFc76, hFL19⟩ := hFL19
     refine x_join (fun E w => ∃ (q10 : List (T_rules_Fault × Bool)) (q11 : Bool), oc76 (q10, q11) ∧ E 0 = .pointer (some ⟨q0h, 0, none⟩) ∧ E 2 = .slice q0i s2.length c_s2 ∧ E 4 = .pointer (some ⟨b4, 0, none⟩) ∧ E 6 = .pointer (some ⟨q2, 0, none⟩) ∧ E 9 = .map (some b24) ∧ E 68 = .pointer (some ⟨b68, 0, none⟩) ∧ St w0 w (cells q0h 103 [.map (some q5), .bool q11] :: cells b4 31 [.int .i64 l_1.W, .int .i64 l_1.H, .int .i64 l_1.Layers, .int .i64 l_1.Nets, .slice q0d l_1.Wires.length c_l_1_4, .slice q0e l_1.Vias.length c_l_1_5, .slice q0f l_1.Pins.length c_l_1_6, .slice q0g l_1.Walls.length c_l_1_7] :: cells q2 3 [.int .i64 q3] :: mapA b24 (Value.int .i64) (Value.int .i64) q13 :: mapA (gt q0o i69) kf_61 Value.bool e71.2 :: holeM b23 (Value.int .i64) kf_61 Value.bool q0l q0o i69 :: itA b68 b23 q0l.length (q17 ++ [i69]) :: mapA q5 kf_63 Value.bool q10 :: ro ρ :: l)) ?_ ?_
     ·refine x_cond_p ((e71.2.length : Int) < 2) rfl (fun hc76 => ?_) (fun hc76 => ?_)
      ·replace hFc76 := nit_t hc76 hFc76
       replace hFc76 := nlv_s hFc76; obtain ⟨x80, hx80, hFc76⟩ := hFc76
       replace hFc76 := nbd_s hFc76; obtain ⟨q12, q4r, hFc76⟩ := hFc76
       refine x_head 7 mixed (by kernel_rfl) hS _ _ rfl rfl <| q (yl_move q1u) <| q (yl_move q2d) <| q (yl_move rfl) <|
        qa (fun w' hS => at_look (k := e71.1) um_131 (KeyP.int ui_3) (zero1 zv_3) rfl rfl (hS.pull 6) hx80) <| q (yl_move rfl) <| qcc (v := .agg #[.int .i64 q12.Layer, .int .i64 q12.X, .int .i64 q12.Y]) call_69 (args1 rfl) (fun w' hS => by
         have hcall := c_rules_least q4r  ((hS.pull 8).pull 1)
         exact (Calls.mono hcall (fun e w'' h => And.intro h.1 (((((((((h.2.pull 1).pull 8).pull 8).pull 8).pull 8).pull 8).pull 8).pull 8).pull 8)))) <| q (v := .agg #[.int .i64 4, .int .i64 x80, .int .i64 0, .int .i64 q12.Layer, .int .i64 q12.X, .int .i64 q12.Y]) (yl_build bld_63 bldf_63 (parts_eq (pt (va := .int .i64 4) rfl (pt (va := .int .i64 x80) rfl (pt (va := .int .i64 0) rfl (pt (va := .agg #[.int .i64 q12.Layer, .int .i64 q12.X, .int .i64 q12.Y]) rfl pt0))))) (by kernel_rfl)) <|
        q_done fun w' hS => ?_
       replace hFc76 := nbd_s hFc76; obtain ⟨q3g, q4s, hFc76⟩ := hFc76
       have hcall := c_rules_bag_add q4s  (((hS.pull 8).pull 8).pull 5)
       refine o_cc call_63 (args2 rfl rfl) hcall ?_
       rintro e w' ⟨rfl, hS⟩
       refine ⟨_, rfl, ?_⟩
       refine x_done <| ?_
       exact x_inv ⟨q3g.1, q3g.2, hFc76, q1u, q2a, q2b, q2c, q2d, q1h, (((((((((hS.pull 2).pull 2).pull 5).pull 5).pull 5).pull 8).pull 8).pull 8).pull 8)⟩
      ·replace hFc76 := nit_f hc76 hFc76
       refine x_skip <| ?_
       exact x_inv ⟨q0p, q0q, hFc76, q1u, q2a, q2b, q2c, q2d, q1h, (((((((((hS.pull 8).pull 8).pull 4).pull 4).pull 4).pull 8).pull 8).pull 8).pull 8)⟩
     rintro E w ⟨q10, q11, hq_, q4t, q4u, q4v, q4w, q4x, q42, hS⟩
     replace hFL19 := hFL19 _ hq_
     clear hq_
     refine x_blk <| ?_
     replace hS := St.putM q2f he71 ((hS.pull 5).pull 5)
     exact x_inv ⟨kL19, Nat.lt_succ_self _, (q17 ++ [i69]), q10, q11, (hLL19 _ hFL19), q4t, q4u, q4v, q4w, q4x, q42, ((((((((hS.pull 7).pull 7).pull 7).pull 3).pull 7).pull 7).pull 7).pull 7)⟩
   rintro E w ⟨q0y, q0z, hq_, q4y, q4z, q50, q51, hS⟩
   replace hFL2 := hFL2 _ hq_
   clear hq_
   refine x_blk <| x_seq <| x_seq <| x_region <|
    pa (at_load one_3 q51 ((hS.pull 2).cell rfl)) <| x_done <| x_region <| ?_
   refine o_alloc zero_3 hS (fun q43 w' hS => ?_)
   refine o_store1 (v := .int .i64 q3) one_3 rfl rfl rfl rfl hS (fun w' hS => ?_)
   replace hFL2 := nar_s hFL2; obtain ⟨x21, hx21, hFL2⟩ := hFL2
   refine x_done <| x_region <| pa (at_load one_3 rfl (hS.cell rfl)) <| p (yadd rfl rfl hx21) <| ?_
   refine o_store1 (v := .int .i64 x21) one_3 rfl rfl rfl rfl hS (fun w' hS => ?_)
   refine x_done <| ?_
   exact x_inv ⟨kL2, Nat.lt_succ_self _, q43, q0y, q0z, x21, (hLL2 _ hFL2), q4y, q4z, q50, rfl, ((((((hS.pull 3).drop.pull 4).pull 4).pull 2).pull 4).pull 4)⟩
  ·replace hFL2 := nit_f hc19 hFL2
   refine x_exitTo _ rfl <| ?_
   exact x_inv ⟨q9, q0a, (hLL2 _ hFL2), (((((hS.pull 1).drop.pull 1).drop.pull 2).pull 2).pull 2)⟩
 rintro E w ⟨q18, q19, hq_, hS⟩
 replace hF := hF _ hq_
 clear hq_
 exact x_fin ⟨_, rfl, (q18, q19), hF, rfl, (((hS.pull 2).pull 2).pull 2)⟩
attribute [irreducible] P_rules_small

def P_rules_open_1 (x0 : T_rules_shape) : Option Unit :=
 some ()
theorem c_rules_open_1 {w0 w : World} {l : List Assn} {ρ : Heap} {q2 : Option Addr} {q3 : Nat} {c_x0_1 : Nat} {x0 : T_rules_shape} {r : Unit} (hF : P_rules_open_1 x0 = some r) (q4 : RdS R_rules_Spot ρ q2 q3 c_x0_1 x0.fspots) (hS : St w0 w (ro ρ :: l)) :
  Calls Try.prog 70 #[.agg #[.int .i64 x0.fnet, .slice q2 q3 c_x0_1, .bool x0.fwire, .int .i64 x0.fpin]] w fun e w' => e = .returned (.slice q2 x0.fspots.length c_x0_1) ∧ St w0 w' (ro ρ :: l) := by
 have e_ := q4.n; subst e_
 refine enterC Try.func70 rfl 5 rfl (by simp) ?_
 refine x_seq <| x_region <| ?_
 refine o_box (cs := [.int .i64 x0.fnet, .slice q2 x0.fspots.length c_x0_1, .bool x0.fwire, .int .i64 x0.fpin]) rfl rfl hS (fun b1 w' hS => ?_)
 refine p (yl_assign rfl) <| x_done <| x_seq <| x_region <|
  p (yl_field0 fld_122_1 rfl) <| pa (at_load one_120 rfl (hS.cell rfl)) <| p (yl_assign rfl) <| x_done <| ?_
 have e_ := sinj hF; subst e_
 exact x_return ⟨_, ⟨_, _, rfl, rfl, rfl⟩, rfl, hS.drop⟩
attribute [irreducible] P_rules_open_1

def P_rules_groups_2_L3 (q4 : List Int) : (Int × List Int) → Option ((Int × List Int) ⊕ List Int) := fun (q2, q3) =>
 if q2 < (q4.length : Int) then
  ck (inb q2 q3.length) <|
  lv (stt q3 q2 q2) fun q5 =>
  ar (q2 + 1) fun x36 =>
  some (Sum.inl (x36, q5))
 else
  some (Sum.inr q3)
def P_rules_groups_2_L13 (q6 : T_rules_shape) (q8 : Int) : (List (T_rules_key × Int) × Int × List Int) → Option ((List (T_rules_key × Int) × Int × List Int) ⊕ (List (T_rules_key × Int) × List Int)) := fun (q2, q4, q5) =>
 if q4 < (q6.fspots.length : Int) then
  bd (
   ck (inb q4 q6.fspots.length) <|
   lv (gt q6.fspots q4) fun q3 =>
   lv (mget (T_rules_key.mk q6.fnet (T_rules_Spot.mk q3.Layer q3.X q3.Y)) q2 0) fun x61 =>
   lv (mhas (T_rules_key.mk q6.fnet (T_rules_Spot.mk q3.Layer q3.X q3.Y)) q2) fun q61 =>
   if (!q61) = true then
    lv (mput (T_rules_key.mk q6.fnet (T_rules_Spot.mk q3.Layer q3.X q3.Y)) q8 q2) fun q0c =>
    some (q0c, q5)
   else
    bd (P_rules_groups_1 q8 q5) fun q9 =>
    bd (P_rules_groups_1 x61 q9.2) fun q7 =>
    lv (max q9.1 q7.1) fun x78 =>
    lv (min q9.1 q7.1) fun x81 =>
    ck (inb x78 q7.2.length) <|
    lv (stt q7.2 x78 x81) fun q0d =>
    some (q2, q0d)) fun (q0a, q0b) =>
  ar (q4 + 1) fun x83 =>
  some (Sum.inl (q0a, x83, q0b))
 else
  some (Sum.inr (q2, q5))
def P_rules_groups_2_L10 (l_0 : List T_rules_shape) : (List (T_rules_key × Int) × Int × List Int) → Option ((List (T_rules_key × Int) × Int × List Int) ⊕ List Int) := fun (q4, q2, q3) =>
 if q2 < (l_0.length : Int) then
  ck (inb q2 l_0.length) <|
  lv (gt l_0 q2) fun q7 =>
  bd (P_rules_open_1 q7) fun q8 =>
  bd (
   lp (P_rules_groups_2_L13 q7 q2) fuel (q4, 0, q3)) fun (q5, q6) =>
  ar (q2 + 1) fun x84 =>
  some (Sum.inl (q5, x84, q6))
 else
  some (Sum.inr q3)
def P_rules_groups_2_L26 (l_0 : List T_rules_shape) : (List (Int × Int) × List Int × Int × List Int) → Option ((List (Int × Int) × List Int × Int × List Int) ⊕ List Int) := fun (q2, q4, q3, q7) =>
 if q3 < (l_0.length : Int) then
  bd (P_rules_groups_1 q3 q7) fun q6 =>
  lv (mget q6.1 q2 0) fun x100 =>
  lv (mhas q6.1 q2) fun q100 =>
  bd (
   if (!q100) = true then
    lv (mput q6.1 (q2.length : Int) q2) fun q8 =>
    some q8
   else
    some q2) fun q5 =>
  lv (mget q6.1 q5 0) fun x113 =>
  ck (inb q3 q4.length) <|
  lv (stt q4 q3 x113) fun q9 =>
  ar (q3 + 1) fun x115 =>
  some (Sum.inl (q5, q9, x115, q6.2))
 else
  some (Sum.inr q4)
def P_rules_groups_2 (l_0 : List T_rules_shape) : Option (List Int) :=
 ck (mkOk 8 (l_0.length : Int)) <|
 lv ((List.replicate ((l_0.length : Int) : Int).toNat 0 : List Int)) fun q5 =>
 bd (
  lp (P_rules_groups_2_L3 q5) fuel (0, q5)) fun q4 =>
 bd (
  lp (P_rules_groups_2_L10 l_0) fuel ([], 0, q4)) fun q3 =>
 ck (mkOk 8 (l_0.length : Int)) <|
 lv ((List.replicate ((l_0.length : Int) : Int).toNat 0 : List Int)) fun q6 =>
 bd (
  lp (P_rules_groups_2_L26 l_0) fuel ([], q6, 0, q3)) fun q2 =>
 some q2
theorem c_rules_groups_2 {w0 w : World} {l : List Assn} {ρ : Heap} {q0b : Option Addr} {q2v : Nat} {c_l_0 : Nat} {l_0 : List T_rules_shape} {r : List Int} (hF : P_rules_groups_2 l_0 = some r) (q2b : RdS R_rules_shape ρ q0b q2v c_l_0 l_0) (hS : St w0 w (ro ρ :: l)) :
  Calls Try.prog 68 #[.slice q0b q2v c_l_0, .func (.func 70) #[] #[]] w fun e w' => ∃ (q1z : Option Addr) (q1k : Nat) (c_y0_ret : Nat) (q1y : List Value), e = .returned (.slice q1z q1k c_y0_ret) ∧ RepL (RpI .i64) ρ r q1y ∧ St w0 w' (vec 3 (RpI .i64).sz (.slice q1z q1k c_y0_ret) q1k q1y :: ro ρ :: l) := by
 have e_ := q2b.n; subst e_
 refine enterC Try.func68 rfl 117 rfl (by simp) ?_
 refine x_seq <| x_region <| p (yl_assign rfl) <| x_done <|
  x_seq <| x_region <| p (yl_move rfl) <| p (yl_len_slice usl_98 rfl) <| ?_
 replace hF := ck_s hF; obtain ⟨q41, hF⟩ := hF
 replace hF := lv_s hF; obtain ⟨q2, q42, hF⟩ := hF
 refine o_mk sl_22 zero_3 (show (RpI .i64).ok ρ _ 0 from rfl) rfl rfl q41 (by decide) q42 hS (fun A26 cs26 w' hr26 hS => ?_)
 refine o_alloc zero_22 hS (fun b5 w' hS => ?_)
 refine o_store1 (v := .slice A26 q2.length q2.length) one_22 rfl rfl rfl rfl hS (fun w' hS => ?_)
 refine x_done <| x_seq <| x_seq <| x_region <|
  pa (at_load one_22 rfl (hS.cell rfl)) <| p (yl_len_slice usl_22 rfl) <| p (yl_move rfl) <| x_done <| ?_
 replace hF := bd_s hF; obtain ⟨oL3, hLL3, hF⟩ := hF
 refine x_join (fun E w => ∃ (q0r : List Value) (q1c : List Int), q1c = oL3 ∧ E 0 = .slice q0b l_0.length c_l_0 ∧ E 1 = .func (.func 70) #[] #[] ∧ E 5 = .pointer (some ⟨b5, 0, none⟩) ∧ RepL (RpI .i64) ρ q1c q0r ∧ St w0 w (cells b5 22 [.slice A26 q2.length q2.length] :: vec 3 (RpI .i64).sz (.slice A26 q2.length q2.length) q2.length q0r :: ro ρ :: l)) ?_ ?_
 ·refine x_block ?_
  refine x_loop (fun k_ E w => ∃ (q0j : List Value) (q0f : Int) (q13 : List Int), lp (P_rules_groups_2_L3 q2) k_ (q0f, q13) = some oL3 ∧ E 0 = .slice q0b l_0.length c_l_0 ∧ E 1 = .func (.func 70) #[] #[] ∧ E 5 = .pointer (some ⟨b5, 0, none⟩) ∧ E 28 = .int .i64 (q2.length : Int) ∧ E 29 = .int .i64 q0f ∧ RepL (RpI .i64) ρ q13 q0j ∧ St w0 w (cells b5 22 [.slice A26 q2.length q2.length] :: vec 3 (RpI .i64).sz (.slice A26 q2.length q2.length) q2.length q0j :: ro ρ :: l)) fuel ⟨cs26, 0, q2, hLL3, rfl, rfl, rfl, rfl, rfl, hr26, (((hS.pull 2).pull 2).pull 2)⟩ ?_
  rintro kL3 E w ⟨q0j, q0f, q13, hLL3, q2e, q2f, q20, q27, q1u, q14, hS⟩
  replace hLL3 := lp_s hLL3; obtain ⟨kL3, obL3, rfl, hFL3, hLL3⟩ := hLL3
  refine x_seq <| x_region <| p (yl_lss q1u q27) <| x_done <|
   x_seq <|
   x_cond_p (q0f < (q2.length : Int)) rfl (fun hc30 => ?_) (fun hc30 => ?_)
  ·replace hFL3 := it_t hc30 hFL3
   replace hFL3 := ck_s hFL3; obtain ⟨q2w, hFL3⟩ := hFL3
   refine x_skip <| x_seq <| x_block <| x_seq <|
    x_region <| p (yl_move q1u) <| p (yl_assign rfl) <| x_done <|
    x_region <| pa (at_load one_22 q20 (hS.cell rfl)) <| p (yl_move rfl) <| p (yl_move rfl) <|
    p (yix_o sl_22 rfl rfl (hS.pull 1) q14 q2w) <| ?_
   replace hFL3 := lv_s hFL3; obtain ⟨q4h, q43, hFL3⟩ := hFL3
   refine o_put' (news := [.int .i64 q0f]) sz_3 rfl rfl rfl rfl (o := 0) rfl q2w rfl (hS.pull 1) q14 (Le.refl _) (fun c hc => ok_all hc (show (RpI .i64).ok ρ [.int .i64 q0f] q0f from rfl)) q43 (fun q44 w' q45 hS => ?_)
   replace hFL3 := ar_s hFL3; obtain ⟨x36, hx36, hFL3⟩ := hFL3
   refine x_done <| x_blk <| x_region <| p (yadd q1u rfl hx36) <|
    p (yl_move rfl) <| x_done <| ?_
   have e_ := sinj hFL3; subst e_
   exact x_inv ⟨kL3, Nat.lt_succ_self _, q44, x36, q4h, hLL3, q2e, q2f, q20, q27, rfl, q45, (((hS.pull 2).pull 1).pull 2)⟩
  ·replace hFL3 := it_f hc30 hFL3
   refine x_exitTo _ rfl <| ?_
   have e_ := sinj hFL3; subst e_
   exact x_inv ⟨q0j, q13, hLL3, q2e, q2f, q20, q14, (((hS.pull 2).pull 2).pull 2)⟩
 rintro E w ⟨q0r, q1c, rfl, q2x, q46, q2y, q2g, hS⟩
 refine x_seq <| x_region <| p (v := .func (.func 81) #[] #[.pointer (some ⟨b5, 0, none⟩)]) (yl_makeFunc (by simp only [List.map_toArray, List.map_nil]) (by simp only [List.map_toArray, List.map_cons, List.map_nil]; exact arr1 q2y)) <| p (v := .func (.func 81) #[] #[.pointer (some ⟨b5, 0, none⟩)]) (yl_assign rfl) <|
  x_done <| x_seq <| x_region <| ?_
 refine o_mkmap (κ := T_rules_key) (α := Int) kf_146 (Value.int .i64) hS (fun b38 w' hS => ?_)
 refine p (yl_assign rfl) <| x_done <| x_seq <| x_seq <|
  x_region <| p (yl_move q2x) <| p (yl_len_slice usl_98 rfl) <| p (yl_move rfl) <|
  x_done <| ?_
 replace hF := bd_s hF; obtain ⟨oL10, hLL10, hF⟩ := hF
 refine x_join (fun E w => ∃ (q0k : List Value) (q15 : List Int), q15 = oL10 ∧ E 0 = .slice q0b l_0.length c_l_0 ∧ E 7 = .func (.func 81) #[] #[.pointer (some ⟨b5, 0, none⟩)] ∧ RepL (RpI .i64) ρ q15 q0k ∧ St w0 w (cells b5 22 [.slice A26 q2.length q2.length] :: vec 3 (RpI .i64).sz (.slice A26 q2.length q2.length) q2.length q0k :: ro ρ :: l)) ?_ ?_
 ·refine x_block ?_
  refine x_loop (fun k_ E w => ∃ (q9 : List Value) (q0l : List (T_rules_key × Int)) (q5 : Int) (q0n : List Int), lp (P_rules_groups_2_L10 l_0) k_ (q0l, q5, q0n) = some oL10 ∧ E 0 = .slice q0b l_0.length c_l_0 ∧ E 1 = .func (.func 70) #[] #[] ∧ E 5 = .pointer (some ⟨b5, 0, none⟩) ∧ E 7 = .func (.func 81) #[] #[.pointer (some ⟨b5, 0, none⟩)] ∧ E 8 = .map (some b38) ∧ E 39 = .slice q0b l_0.length c_l_0 ∧ E 40 = .int .i64 (l_0.length : Int) ∧ E 41 = .int .i64 q5 ∧ RepL (RpI .i64) ρ q0n q9 ∧ St w0 w (cells b5 22 [.slice A26 q2.length q2.length] :: mapA b38 kf_146 (Value.int .i64) q0l :: vec 3 (RpI .i64).sz (.slice A26 q2.length q2.length) q2.length q9 :: ro ρ :: l)) fuel ⟨q0r, [], 0, q1c, hLL10, q2x, q46, q2y, rfl, rfl, rfl, rfl, rfl, q2g, ((((hS.pull 3).pull 3).pull 2).pull 3)⟩ ?_
  rintro kL10 E w ⟨q9, q0l, q5, q0n, hLL10, q28, q29, q2z, q2a, q30, q21, q22, q16, q1j, hS⟩
  replace hLL10 := lp_s hLL10; obtain ⟨kL10, obL10, rfl, hFL10, hLL10⟩ := hLL10
  refine x_seq <| x_region <| p (yl_lss q16 q22) <| x_done <|
   x_seq <|
   x_cond_p (q5 < (l_0.length : Int)) rfl (fun hc42 => ?_) (fun hc42 => ?_)
  ·replace hFL10 := it_t hc42 hFL10
   replace hFL10 := ck_s hFL10; obtain ⟨q2h, hFL10⟩ := hFL10
   replace hFL10 := lv_s hFL10; obtain ⟨q3, q36, hFL10⟩ := hFL10
   have q_ := q2b.get q2h; obtain ⟨q4j, q2i, q37⟩ := q_
   rw [← q36] at q2i
   obtain ⟨q0g, q4i, q0h, rfl, q1d⟩ := q2i
   have e_ := q1d.n; subst e_
   refine x_skip <| x_seq <| x_block <| x_seq <|
    x_region <| p (yl_move q16) <| p (yix_f sl_98 q21 q16 q2b q2h) <| pa (v := .agg #[.int .i64 q3.fnet, .slice q0g q3.fspots.length q0h, .bool q3.fwire, .int .i64 q3.fpin]) (at_loadAgg agg_122 rfl rfl (Elt.every q37 (hS.pull 3))) <| ?_
   refine o_alloc zero_122 hS (fun b10 w' hS => ?_)
   refine p (yl_assign rfl) <| ?_
   refine o_storeAgg (news := [.int .i64 q3.fnet, .slice q0g q3.fspots.length q0h, .bool q3.fwire, .int .i64 q3.fpin]) agg_122 rfl rfl rfl (by simp [over_length]) hS (fun w' hS => ?_)
   replace hFL10 := bd_s hFL10; obtain ⟨q4l, q38, hFL10⟩ := hFL10
   refine x_done <| x_seq <| x_region <| p (yl_move q29) <|
    pa (v := .agg #[.int .i64 q3.fnet, .slice q0g q3.fspots.length q0h, .bool q3.fwire, .int .i64 q3.fpin]) (ld_sub agg_122 rfl rfl rfl hS) <| ?_
   have hcall := c_rules_open_1 q38 q1d (hS.pull 4)
   refine o_ccv rfl call_70 (args1 rfl) ((Calls.mono hcall (fun e w'' h => And.intro h.1 ((((h.2.pull 4).pull 4).pull 4).pull 4)))) ?_
   rintro e w' ⟨rfl, hS⟩
   refine ⟨_, rfl, ?_⟩
   refine p (yl_len_slice usl_120 rfl) <| p (yl_move rfl) <| x_done <| ?_
   replace hFL10 := bd_s hFL10; obtain ⟨oL13, hLL13, hFL10⟩ := hFL10
   refine x_join (fun E w => ∃ (q0m : List Value) (q0s : List (T_rules_key × Int)) (q17 : List Int), (q0s, q17) = oL13 ∧ E 0 = .slice q0b l_0.length c_l_0 ∧ E 1 = .func (.func 70) #[] #[] ∧ E 5 = .pointer (some ⟨b5, 0, none⟩) ∧ E 7 = .func (.func 81) #[] #[.pointer (some ⟨b5, 0, none⟩)] ∧ E 8 = .map (some b38) ∧ E 39 = .slice q0b l_0.length c_l_0 ∧ E 40 = .int .i64 (l_0.length : Int) ∧ E 41 = .int .i64 q5 ∧ RepL (RpI .i64) ρ q17 q0m ∧ St w0 w (cells b5 22 [.slice A26 q2.length q2.length] :: mapA b38 kf_146 (Value.int .i64) q0s :: vec 3 (RpI .i64).sz (.slice A26 q2.length q2.length) q2.length q0m :: ro ρ :: l)) ?_ ?_
   ·refine x_block ?_
    refine x_loop (fun k_ E w => ∃ (q0a : List Value) (q0c : List (T_rules_key × Int)) (q0v : Int) (q0o : List Int), lp (P_rules_groups_2_L13 q3 q5) k_ (q0c, q0v, q0o) = some oL13 ∧ E 0 = .slice q0b l_0.length c_l_0 ∧ E 1 = .func (.func 70) #[] #[] ∧ E 5 = .pointer (some ⟨b5, 0, none⟩) ∧ E 7 = .func (.func 81) #[] #[.pointer (some ⟨b5, 0, none⟩)] ∧ E 8 = .map (some b38) ∧ E 9 = .int .i64 q5 ∧ E 10 = .pointer (some ⟨b10, 0, none⟩) ∧ E 39 = .slice q0b l_0.length c_l_0 ∧ E 40 = .int .i64 (l_0.length : Int) ∧ E 41 = .int .i64 q5 ∧ E 48 = .slice q0g q3.fspots.length q0h ∧ E 49 = .int .i64 (q3.fspots.length : Int) ∧ E 50 = .int .i64 q0v ∧ RepL (RpI .i64) ρ q0o q0a ∧ St w0 w (cells b5 22 [.slice A26 q2.length q2.length] :: mapA b38 kf_146 (Value.int .i64) q0c :: cells b10 122 [.int .i64 q3.fnet, .slice q0g q3.fspots.length q0h, .bool q3.fwire, .int .i64 q3.fpin] :: vec 3 (RpI .i64).sz (.slice A26 q2.length q2.length) q2.length q0a :: ro ρ :: l)) fuel ⟨q9, q0l, 0, q0n, hLL13, q28, q29, q2z, q2a, q30, rfl, rfl, q21, q22, q16, rfl, rfl, rfl, q1j, (((((hS.pull 4).pull 4).pull 2).pull 4).pull 4)⟩ ?_
    rintro kL13 E w ⟨q0a, q0c, q0v, q0o, hLL13, q1v, q1w, q1e, q11, q12, q1f, q1l, q1m, q1n, q1o, q1p, q1q, q18, q10, hS⟩
    replace hLL13 := lp_s hLL13; obtain ⟨kL13, obL13, rfl, hFL13, hLL13⟩ := hLL13
    refine x_seq <| x_region <| p (yl_lss q18 q1q) <| x_done <|
     x_seq <|
     x_cond_p (q0v < (q3.fspots.length : Int)) rfl (fun hc51 => ?_) (fun hc51 => ?_)
    ·replace hFL13 := it_t hc51 hFL13
     refine x_skip <| x_seq <| ?_
     replace hFL13 := bd_s hFL13; obtain ⟨ob5, hFb5, hFL13⟩ := hFL13
     refine x_join (fun E w => ∃ (q0t : List Value) (q0z : List (T_rules_key × Int)) (q1g : List Int), (q0z, q1g) = ob5 ∧ E 0 = .slice q0b l_0.length c_l_0 ∧ E 1 = .func (.func 70) #[] #[] ∧ E 5 = .pointer (some ⟨b5, 0, none⟩) ∧ E 7 = .func (.func 81) #[] #[.pointer (some ⟨b5, 0, none⟩)] ∧ E 8 = .map (some b38) ∧ E 9 = .int .i64 q5 ∧ E 10 = .pointer (some ⟨b10, 0, none⟩) ∧ E 39 = .slice q0b l_0.length c_l_0 ∧ E 40 = .int .i64 (l_0.length : Int) ∧ E 41 = .int .i64 q5 ∧ E 48 = .slice q0g q3.fspots.length q0h ∧ E 49 = .int .i64 (q3.fspots.length : Int) ∧ E 50 = .int .i64 q0v ∧ RepL (RpI .i64) ρ q1g q0t ∧ St w0 w (cells b5 22 [.slice A26 q2.length q2.length] :: mapA b38 kf_146 (Value.int .i64) q0z :: cells b10 122 [.int .i64 q3.fnet, .slice q0g q3.fspots.length q0h, .bool q3.fwire, .int .i64 q3.fpin] :: vec 3 (RpI .i64).sz (.slice A26 q2.length q2.length) q2.length q0t :: ro ρ :: l)) ?_ ?_
     ·replace hFb5 := ck_s hFb5; obtain ⟨q2j, hFb5⟩ := hFb5
      replace hFb5 := lv_s hFb5; obtain ⟨q4, q39, hFb5⟩ := hFb5
      have q_ := q1d.get q2j; obtain ⟨q4k, q2k, q3a⟩ := q_
      rw [← q39] at q2k
      have e_ := q2k; subst e_
      refine x_block <| x_seq <| x_region <| p (yix_f sl_120 q1p q18 q1d q2j) <|
       pa (v := .agg #[.int .i64 q4.Layer, .int .i64 q4.X, .int .i64 q4.Y]) (at_loadAgg agg_61 rfl rfl (Elt.every q3a (hS.pull 4))) <| ?_
      refine o_alloc zero_61 hS (fun b12 w' hS => ?_)
      refine o_storeAgg (news := [.int .i64 q4.Layer, .int .i64 q4.X, .int .i64 q4.Y]) agg_61 rfl rfl rfl (by simp [over_length]) hS (fun w' hS => ?_)
      refine x_done <| x_seq <| x_region <| p (yl_field0 fld_122_0 q1l) <|
       pa (at_load one_3 rfl ((hS.pull 3).cell rfl)) <| pa (v := .agg #[.int .i64 q4.Layer, .int .i64 q4.X, .int .i64 q4.Y]) (ld_sub agg_61 rfl rfl rfl hS) <| p (v := .agg #[.int .i64 q3.fnet, .int .i64 q4.Layer, .int .i64 q4.X, .int .i64 q4.Y]) (yl_build bld_146 bldf_146 (parts_eq (pt (va := .int .i64 q3.fnet) rfl (pt (va := .agg #[.int .i64 q4.Layer, .int .i64 q4.X, .int .i64 q4.Y]) rfl pt0))) (by kernel_rfl)) <| ?_
      refine o_alloc zero_146 hS (fun b13 w' hS => ?_)
      refine o_storeAgg (news := [.int .i64 q3.fnet, .int .i64 q4.Layer, .int .i64 q4.X, .int .i64 q4.Y]) agg_146 rfl rfl rfl (by simp [over_length]) hS (fun w' hS => ?_)
      replace hFb5 := lv_s hFb5; obtain ⟨x61, hx61, hFb5⟩ := hFb5
      replace hFb5 := lv_s hFb5; obtain ⟨q61, hq61, hFb5⟩ := hFb5
      refine x_done <| x_seq <| x_region <| p (yl_move q12) <|
       pa (v := .agg #[.int .i64 q3.fnet, .int .i64 q4.Layer, .int .i64 q4.X, .int .i64 q4.Y]) (ld_sub agg_146 rfl rfl rfl hS) <| pa (at_look2 (k := (T_rules_key.mk q3.fnet (T_rules_Spot.mk q4.Layer q4.X q4.Y))) um_144 kp_146 (zero1 zv_3) rfl rfl (hS.pull 3) hx61 hq61) <| p (yl_move rfl) <| p (yl_extract rfl rfl) <|
       p (yl_extract rfl rfl) <| p (yl_assign rfl) <| p (yl_assign rfl) <| x_done <|
       x_seq <| x_seq <| x_region <| p (yl_move rfl) <|
       p (yl_not rfl) <| x_done <|
       x_cond (t := !q61) rfl (fun hc65 => ?_) (fun hc65 => ?_)
      ·replace hFb5 := it_t hc65 hFb5
       refine x_seq <| x_region <| p (yl_move q12) <| pa (v := .agg #[.int .i64 q3.fnet, .int .i64 q4.Layer, .int .i64 q4.X, .int .i64 q4.Y]) (ld_sub agg_146 rfl rfl rfl hS) <|
        p (yl_move q1f) <| ?_
       replace hFb5 := lv_s hFb5; obtain ⟨q47, q3b, hFb5⟩ := hFb5
       refine o_mapset (k := (T_rules_key.mk q3.fnet (T_rules_Spot.mk q4.Layer q4.X q4.Y))) (vf := (Value.int .i64)) (v := q5) um_144 kp_146 rfl rfl rfl (hS.pull 3) q3b (fun w' hS => ?_)
       refine x_done <| x_exitTo _ rfl <| ?_
       exact x_inv ⟨q0a, q47, q0o, (sinj hFb5), q1v, q1w, q1e, q11, q12, q1f, q1l, q1m, q1n, q1o, q1p, q1q, q18, q10, (((((((hS.pull 1).drop.pull 1).drop.pull 4).pull 4).pull 4).pull 3).pull 4)⟩
      ·replace hFb5 := it_bf hc65 hFb5
       replace hFb5 := bd_s hFb5; obtain ⟨q4m, q3c, hFb5⟩ := hFb5
       refine x_skip <| x_seq <| x_region <| p (yl_move q11) <|
        p (yl_move q1f) <| ?_
       have hcall := c_rules_groups_1 q3c q10 (((hS.pull 6).pull 6).pull 4)
       refine o_ccv rfl call_81 (capargs (args1 rfl)) hcall ?_
       rintro e w' ⟨q2l, rfl, q1h, hS⟩
       refine ⟨_, rfl, ?_⟩
       replace hFb5 := bd_s hFb5; obtain ⟨q4n, q3d, hFb5⟩ := hFb5
       refine p (yl_move q11) <| p (yl_move rfl) <| ?_
       have hcall := c_rules_groups_1 q3d q1h (((hS.pull 2).pull 2).pull 2)
       refine o_ccv rfl call_81 (capargs (args1 rfl)) hcall ?_
       rintro e w' ⟨q2m, rfl, q0q, hS⟩
       refine ⟨_, rfl, ?_⟩
       replace hFb5 := lv_s hFb5; obtain ⟨x78, hx78, hFb5⟩ := hFb5
       replace hFb5 := lv_s hFb5; obtain ⟨x81, hx81, hFb5⟩ := hFb5
       replace hFb5 := ck_s hFb5; obtain ⟨q2n, hFb5⟩ := hFb5
       refine p (yl_assign rfl) <| p (yl_assign rfl) <| x_done <| x_region <|
        pa (at_load one_22 q1e (hS.cell rfl)) <| p (yl_move rfl) <| p (yl_move rfl) <| p (ymax' rfl rfl hx78) <|
        p (yl_move rfl) <| p (yl_move rfl) <| p (ymin' rfl rfl hx81) <| p (yix_o sl_22 rfl rfl (hS.pull 1) q0q q2n) <| ?_
       replace hFb5 := lv_s hFb5; obtain ⟨q48, q3e, hFb5⟩ := hFb5
       refine o_put' (news := [.int .i64 x81]) sz_3 rfl rfl rfl rfl (o := 0) rfl q2n rfl (hS.pull 1) q0q (Le.refl _) (fun c hc => ok_all hc (show (RpI .i64).ok ρ [.int .i64 x81] x81 from rfl)) q3e (fun q3f w' q3g hS => ?_)
       refine x_done <| x_blk <| ?_
       exact x_inv ⟨q3f, q0c, q48, (sinj hFb5), q1v, q1w, q1e, q11, q12, q1f, q1l, q1m, q1n, q1o, q1p, q1q, q18, q3g, (((((((hS.pull 3).drop.pull 3).drop.pull 2).pull 1).pull 4).pull 4).pull 4)⟩
     rintro E w ⟨q0t, q0z, q1g, rfl, q49, q4a, q4b, q4c, q4d, q4e, q3h, q3i, q3j, q3k, q3l, q3m, q3n, q2o, hS⟩
     replace hFL13 := ar_s hFL13; obtain ⟨x83, hx83, hFL13⟩ := hFL13
     refine x_region <| p (yadd q3n rfl hx83) <| p (yl_move rfl) <| x_done <| ?_
     have e_ := sinj hFL13; subst e_
     exact x_inv ⟨kL13, Nat.lt_succ_self _, q0t, q0z, x83, q1g, hLL13, q49, q4a, q4b, q4c, q4d, q4e, q3h, q3i, q3j, q3k, q3l, q3m, rfl, q2o, (((((hS.pull 4).pull 4).pull 4).pull 4).pull 4)⟩
    ·replace hFL13 := it_f hc51 hFL13
     refine x_exitTo _ rfl <| ?_
     have e_ := sinj hFL13; subst e_
     exact x_inv ⟨q0a, q0c, q0o, hLL13, q1v, q1w, q1e, q11, q12, q1m, q1n, q1o, q10, (((((hS.pull 2).drop.pull 3).pull 3).pull 3).pull 3)⟩
   rintro E w ⟨q0m, q0s, q17, rfl, q3o, q3p, q3q, q3r, q3s, q31, q32, q33, q2c, hS⟩
   replace hFL10 := ar_s hFL10; obtain ⟨x84, hx84, hFL10⟩ := hFL10
   refine x_blk <| x_region <| p (yadd q33 rfl hx84) <| p (yl_move rfl) <|
    x_done <| ?_
   have e_ := sinj hFL10; subst e_
   exact x_inv ⟨kL10, Nat.lt_succ_self _, q0m, q0s, x84, q17, hLL10, q3o, q3p, q3q, q3r, q3s, q31, q32, rfl, q2c, ((((hS.pull 3).pull 3).pull 3).pull 3)⟩
  ·replace hFL10 := it_f hc42 hFL10
   refine x_exitTo _ rfl <| ?_
   have e_ := sinj hFL10; subst e_
   exact x_inv ⟨q9, q0n, hLL10, q28, q2a, q1j, ((((hS.pull 1).drop.pull 2).pull 2).pull 2)⟩
 rintro E w ⟨q0k, q15, rfl, q2p, q3t, q2d, hS⟩
 refine x_seq <| x_region <| ?_
 refine o_mkmap (κ := Int) (α := Int) (Value.int .i64) (Value.int .i64) hS (fun b85 w' hS => ?_)
 refine p (yl_assign rfl) <| x_done <| x_seq <| x_region <|
  p (yl_move q2p) <| p (yl_len_slice usl_98 rfl) <| ?_
 replace hF := ck_s hF; obtain ⟨q3u, hF⟩ := hF
 replace hF := lv_s hF; obtain ⟨q6, q3v, hF⟩ := hF
 refine o_mk sl_22 zero_3 (show (RpI .i64).ok ρ _ 0 from rfl) rfl rfl q3u (by decide) q3v hS (fun A88 cs88 w' hr88 hS => ?_)
 refine p (yl_assign rfl) <| x_done <| x_seq <| x_seq <|
  x_region <| p (yl_move q2p) <| p (yl_len_slice usl_98 rfl) <| p (yl_move rfl) <|
  x_done <| ?_
 replace hF := bd_s hF; obtain ⟨oL26, hLL26, hF⟩ := hF
 refine x_join (fun E w => ∃ (q0e : List Value) (q1a : List Int), q1a = oL26 ∧ E 19 = .slice A88 q6.length q6.length ∧ RepL (RpI .i64) ρ q1a q0e ∧ St w0 w (vec 3 (RpI .i64).sz (.slice A88 q6.length q6.length) q6.length q0e :: ro ρ :: l)) ?_ ?_
 ·refine x_block ?_
  refine x_loop (fun k_ E w => ∃ (q7 : List Value) (q0w : List Value) (q8 : List (Int × Int)) (q0u : List Int) (q0i : Int) (q1b : List Int), lp (P_rules_groups_2_L26 l_0) k_ (q8, q0u, q0i, q1b) = some oL26 ∧ E 7 = .func (.func 81) #[] #[.pointer (some ⟨b5, 0, none⟩)] ∧ E 18 = .map (some b85) ∧ E 19 = .slice A88 q6.length q6.length ∧ E 90 = .int .i64 (l_0.length : Int) ∧ E 91 = .int .i64 q0i ∧ RepL (RpI .i64) ρ q0u q7 ∧ RepL (RpI .i64) ρ q1b q0w ∧ St w0 w (cells b5 22 [.slice A26 q2.length q2.length] :: mapA b85 (Value.int .i64) (Value.int .i64) q8 :: vec 3 (RpI .i64).sz (.slice A88 q6.length q6.length) q6.length q7 :: vec 3 (RpI .i64).sz (.slice A26 q2.length q2.length) q2.length q0w :: ro ρ :: l)) fuel ⟨cs88, q0k, [], q6, 0, q15, hLL26, q3t, rfl, rfl, rfl, rfl, hr88, q2d, (((((hS.pull 4).pull 4).pull 2).pull 3).pull 4)⟩ ?_
  rintro kL26 E w ⟨q7, q0w, q8, q0u, q0i, q1b, hLL26, q1x, q0x, q1r, q1s, q19, q0y, q25, hS⟩
  replace hLL26 := lp_s hLL26; obtain ⟨kL26, obL26, rfl, hFL26, hLL26⟩ := hLL26
  refine x_seq <| x_region <| p (yl_lss q19 q1s) <| x_done <|
   x_seq <|
   x_cond_p (q0i < (l_0.length : Int)) rfl (fun hc92 => ?_) (fun hc92 => ?_)
  ·replace hFL26 := it_t hc92 hFL26
   replace hFL26 := bd_s hFL26; obtain ⟨q1t, q3w, hFL26⟩ := hFL26
   refine x_skip <| x_seq <| x_block <| x_seq <|
    x_region <| p (yl_move q19) <| p (yl_assign rfl) <| x_done <|
    x_seq <| x_region <| p (yl_move q1x) <| p (yl_move rfl) <| ?_
   have hcall := c_rules_groups_1 q3w q25 (((hS.pull 4).pull 4).pull 2)
   refine o_ccv rfl call_81 (capargs (args1 rfl)) hcall ?_
   rintro e w' ⟨q0p, rfl, q1i, hS⟩
   refine ⟨_, rfl, ?_⟩
   replace hFL26 := lv_s hFL26; obtain ⟨x100, hx100, hFL26⟩ := hFL26
   replace hFL26 := lv_s hFL26; obtain ⟨q100, hq100, hFL26⟩ := hFL26
   refine p (yl_assign rfl) <| x_done <| x_seq <| x_seq <|
    x_region <| p (yl_move q0x) <| p (yl_move rfl) <| pa (at_look2 (k := q1t.1) um_131 (KeyP.int ui_3) (zero1 zv_3) rfl rfl (hS.pull 3) hx100 hq100) <|
    p (yl_move rfl) <| p (yl_extract rfl rfl) <| p (yl_extract rfl rfl) <| p (yl_assign rfl) <|
    p (yl_assign rfl) <| x_done <| x_seq <| x_region <|
    p (yl_move rfl) <| p (yl_not rfl) <| x_done <| ?_
   replace hFL26 := bd_s hFL26; obtain ⟨oc104, hFc104, hFL26⟩ := hFL26
   refine x_join (fun E w => ∃ (q0d : List (Int × Int)), q0d = oc104 ∧ E 7 = .func (.func 81) #[] #[.pointer (some ⟨b5, 0, none⟩)] ∧ E 18 = .map (some b85) ∧ E 19 = .slice A88 q6.length q6.length ∧ E 20 = .int .i64 q0i ∧ E 21 = .int .i64 q1t.1 ∧ E 90 = .int .i64 (l_0.length : Int) ∧ E 91 = .int .i64 q0i ∧ St w0 w (cells b5 22 [.slice A26 q2.length q2.length] :: mapA b85 (Value.int .i64) (Value.int .i64) q0d :: vec 3 (RpI .i64).sz (.slice A88 q6.length q6.length) q6.length q7 :: vec 3 (RpI .i64).sz (.slice A26 q2.length q2.length) q2.length q0p :: ro ρ :: l)) ?_ ?_
   ·refine x_cond (t := !q100) rfl (fun hc104 => ?_) (fun hc104 => ?_)
    ·replace hFc104 := it_t hc104 hFc104
     refine x_region <| p (yl_move q0x) <| p (yl_move rfl) <| p (yl_move q0x) <|
      pa (at_lenm um_131 rfl (hS.pull 3)) <| ?_
     replace hFc104 := lv_s hFc104; obtain ⟨q4f, q3x, hFc104⟩ := hFc104
     refine o_mapset (k := q1t.1) (vf := (Value.int .i64)) (v := (q8.length : Int)) um_131 (KeyP.int ui_3) rfl rfl rfl (hS.pull 3) q3x (fun w' hS => ?_)
     refine x_done <| ?_
     exact x_inv ⟨q4f, (sinj hFc104), q1x, q0x, q1r, rfl, rfl, q1s, q19, (((((hS.pull 3).pull 3).pull 4).pull 3).pull 4)⟩
    ·replace hFc104 := it_bf hc104 hFc104
     refine x_skip <| ?_
     exact x_inv ⟨q8, (sinj hFc104), q1x, q0x, q1r, rfl, rfl, q1s, q19, (((((hS.pull 2).pull 2).pull 4).pull 4).pull 4)⟩
   rintro E w ⟨q0d, rfl, q34, q23, q24, q2r, q2s, q2t, q2u, hS⟩
   replace hFL26 := lv_s hFL26; obtain ⟨x113, hx113, hFL26⟩ := hFL26
   replace hFL26 := ck_s hFL26; obtain ⟨q2q, hFL26⟩ := hFL26
   refine x_region <| p (yl_move q24) <| p (yl_move q2r) <| p (yl_move q23) <|
    p (yl_move q2s) <| pa (at_look (k := q1t.1) um_131 (KeyP.int ui_3) (zero1 zv_3) rfl rfl (hS.pull 1) hx113) <| p (yix_o sl_22 rfl rfl (hS.pull 2) q0y q2q) <| ?_
   replace hFL26 := lv_s hFL26; obtain ⟨q4g, q3y, hFL26⟩ := hFL26
   refine o_put' (news := [.int .i64 x113]) sz_3 rfl rfl rfl rfl (o := 0) rfl q2q rfl (hS.pull 2) q0y (Le.refl _) (fun c hc => ok_all hc (show (RpI .i64).ok ρ [.int .i64 x113] x113 from rfl)) q3y (fun q3z w' q40 hS => ?_)
   replace hFL26 := ar_s hFL26; obtain ⟨x115, hx115, hFL26⟩ := hFL26
   refine x_done <| x_blk <| x_region <| p (yadd q2u rfl hx115) <|
    p (yl_move rfl) <| x_done <| ?_
   have e_ := sinj hFL26; subst e_
   exact x_inv ⟨kL26, Nat.lt_succ_self _, q3z, q0p, q0d, q4g, x115, q1t.2, hLL26, q34, q23, q24, q2t, rfl, q40, q1i, (((((hS.pull 4).pull 4).pull 2).pull 4).pull 4)⟩
  ·replace hFL26 := it_f hc92 hFL26
   refine x_exitTo _ rfl <| ?_
   have e_ := sinj hFL26; subst e_
   exact x_inv ⟨q7, q0u, hLL26, q1r, q0y, (((hS.drop.drop.pull 1).drop.pull 1).pull 1)⟩
 rintro E w ⟨q0e, q1a, rfl, q35, q26, hS⟩
 refine x_seq <| x_region <| p (yl_move q35) <| p (yl_assign rfl) <|
  x_done <| ?_
 have e_ := sinj hF; subst e_
 exact x_return ⟨_, ⟨_, _, rfl, rfl, rfl⟩, A88, q6.length, q6.length, q0e, rfl, q26, ((hS.pull 1).pull 1)⟩
attribute [irreducible] P_rules_groups_2

def P_rules_open_L17 (q5 : T_rules_shape) (x37 : Int) : (List (Int × T_rules_Spot) × Int) → Option ((List (Int × T_rules_Spot) × Int) ⊕ List (Int × T_rules_Spot)) := fun (q2, q3) =>
 if q3 < (q5.fspots.length : Int) then
  ck (inb q3 q5.fspots.length) <|
  lv (gt q5.fspots q3) fun q6 =>
  lv (mget x37 q2 (T_rules_Spot.mk 0 0 0)) fun x78 =>
  lv (mhas x37 q2) fun q78 =>
  bd (gd (!(!q78)) (P_rules_Spot_before q6 x78)) fun q7 =>
  lv ((!q78) || q7) fun x87 =>
  bd (
   if x87 = true then
    lv (mput x37 q6 q2) fun q8 =>
    some q8
   else
    some q2) fun q4 =>
  ar (q3 + 1) fun x91 =>
  some (Sum.inl (q4, x91))
 else
  some (Sum.inr q2)
def P_rules_open_L6 (s2 : List T_rules_shape) (q0k : List Int) : (List (Int × Int) × List (Int × Bool) × List (Int × T_rules_Spot) × Int × List (T_rules_Fault × Bool) × Bool) → Option ((List (Int × Int) × List (Int × Bool) × List (Int × T_rules_Spot) × Int × List (T_rules_Fault × Bool) × Bool) ⊕ (List (Int × Bool) × List (Int × T_rules_Spot) × List (T_rules_Fault × Bool) × Bool)) := fun (q4, q6, q8, q5, q2, q3) =>
 if q5 < (s2.length : Int) then
  ck (inb q5 s2.length) <|
  lv (gt s2 q5) fun q7 =>
  ck (inb q5 q0k.length) <|
  lv (gt q0k q5) fun x37 =>
  bd (
   if 0 ≤ q7.fpin then
    lv (mput x37 true q6) fun q0l =>
    lv (mget q7.fnet q4 0) fun x47 =>
    lv (mhas q7.fnet q4) fun q47 =>
    bd (
     if (!q47) = true then
      lv (mput q7.fnet x37 q4) fun q0m =>
      some (q0m, q2, q3)
     else
      bd (
       if x47 ≠ x37 then
        ck (inb 0 q7.fspots.length) <|
        lv (gt q7.fspots (0 : Int)) fun q0n =>
        bd (P_rules_bag_add q2 q3 (T_rules_Fault.mk 5 q7.fnet 0 q0n)) fun q0j =>
        some (q0j.1, q0j.2)
       else
        some (q2, q3)) fun (q0a, q0b) =>
      some (q4, q0a, q0b)) fun (q0h, q0c, q0d) =>
    some (q0h, q0l, q0c, q0d)
   else
    some (q4, q6, q2, q3)) fun (q0i, q9, q0e, q0f) =>
  bd (
   lp (P_rules_open_L17 q7 x37) fuel (q8, 0)) fun q0g =>
  ar (q5 + 1) fun x92 =>
  some (Sum.inl (q0i, q9, q0g, x92, q0e, q0f))
 else
  some (Sum.inr (q6, q8, q2, q3))
def P_rules_open_L25 (s2 : List T_rules_shape) (q0a : List Int) (q7 : List (Int × Bool)) (q8 : List (Int × T_rules_Spot)) : (Int × List (T_rules_Fault × Bool) × Bool) → Option ((Int × List (T_rules_Fault × Bool) × Bool) ⊕ (List (T_rules_Fault × Bool) × Bool)) := fun (q2, q3, q4) =>
 if q2 < (s2.length : Int) then
  ck (inb q2 s2.length) <|
  lv (gt s2 q2) fun q0b =>
  ck (inb q2 q0a.length) <|
  lv (gt q0a q2) fun x103 =>
  lv (mget x103 q7 false) fun x106 =>
  bd (
   if (!x106) = true then
    lv (mget x103 q8 (T_rules_Spot.mk 0 0 0)) fun x113 =>
    bd (P_rules_bag_add q3 q4 (T_rules_Fault.mk 6 q0b.fnet 0 x113)) fun q9 =>
    some (q9.1, q9.2)
   else
    some (q3, q4)) fun (q5, q6) =>
  ar (q2 + 1) fun x116 =>
  some (Sum.inl (x116, q5, q6))
 else
  some (Sum.inr (q3, q4))
def P_rules_open (q9 : List (T_rules_Fault × Bool)) (q0a : Bool) (v1 : T_rules_Layout) (s2 : List T_rules_shape) : Option (List (T_rules_Fault × Bool) × Bool) :=
 bd (P_rules_groups_2 s2) fun q8 =>
 bd (
  lp (P_rules_open_L6 s2 q8) fuel ([], [], [], 0, q9, q0a)) fun (q2, q5, q6, q7) =>
 bd (
  lp (P_rules_open_L25 s2 q8 q2 q5) fuel (0, q6, q7)) fun (q3, q4) =>
 some (q3, q4)
theorem c_rules_open {w0 w : World} {l : List Assn} {ρ : Heap} {q7 : Nat} {q3 : Nat} {q24 : Option Addr} {q2b : Nat} {c_v1_4 : Nat} {q25 : Option Addr} {q2c : Nat} {c_v1_5 : Nat} {q26 : Option Addr} {q2d : Nat} {c_v1_6 : Nat} {q27 : Option Addr} {q2e : Nat} {c_v1_7 : Nat} {q0a : Option Addr} {q3q : Nat} {c_s2 : Nat} {q2m : List (T_rules_Fault × Bool)} {q2n : Bool} {v1 : T_rules_Layout} {s2 : List T_rules_shape} {r : (List (T_rules_Fault × Bool) × Bool)} (hF : P_rules_open q2m q2n v1 s2 = some r) (q3r : RdS R_rules_Wire ρ q24 q2b c_v1_4 v1.Wires) (q3s : RdS R_rules_Via ρ q25 q2c c_v1_5 v1.Vias) (q3t : RdS R_rules_Pin ρ q26 q2d c_v1_6 v1.Pins) (q3u : RdS R_floor_Wall ρ q27 q2e c_v1_7 v1.Walls) (q1u : RdS R_rules_shape ρ q0a q3q c_s2 s2) (hS : St w0 w (cells q7 103 [.map (some q3), .bool q2n] :: mapA q3 kf_63 Value.bool q2m :: ro ρ :: l)) :
  Calls Try.prog 50 #[.pointer (some ⟨q7, 0, none⟩), .agg #[.int .i64 v1.W, .int .i64 v1.H, .int .i64 v1.Layers, .int .i64 v1.Nets, .slice q24 q2b c_v1_4, .slice q25 q2c c_v1_5, .slice q26 q2d c_v1_6, .slice q27 q2e c_v1_7], .slice q0a q3q c_s2] w fun e w' => e = .returned (.tuple #[]) ∧ St w0 w' (cells q7 103 [.map (some q3), .bool r.2] :: mapA q3 kf_63 Value.bool r.1 :: ro ρ :: l) := by
 have e_ := q3r.n; subst e_
 have e_ := q3s.n; subst e_
 have e_ := q3t.n; subst e_
 have e_ := q3u.n; subst e_
 have e_ := q1u.n; subst e_
 refine enterC Try.func50 rfl 117 rfl (by simp) ?_
 refine x_seq <| x_region <| ?_
 refine o_box (cs := [.int .i64 v1.W, .int .i64 v1.H, .int .i64 v1.Layers, .int .i64 v1.Nets, .slice q24 v1.Wires.length c_v1_4, .slice q25 v1.Vias.length c_v1_5, .slice q26 v1.Pins.length c_v1_6, .slice q27 v1.Walls.length c_v1_7]) rfl rfl hS (fun b4 w' hS => ?_)
 replace hF := bd_s hF; obtain ⟨q5, q53, hF⟩ := hF
 refine x_done <| x_seq <| x_region <| p (yl_move rfl) <| ?_
 have hcall := c_rules_groups_2 q53 q1u (hS.pull 3)
 refine o_cc call_68 (args2 rfl rfl) hcall ?_
 rintro e w' ⟨q2, q3v, c_y0_ret_1_1, q4, rfl, q0g, hS⟩
 refine ⟨_, rfl, ?_⟩
 have e_ := St.vec_n hS q0g; subst e_
 refine p (yl_assign rfl) <| x_done <| x_seq <| x_region <| ?_
 refine o_mkmap (κ := Int) (α := Int) (Value.int .i64) (Value.int .i64) hS (fun b24 w' hS => ?_)
 refine p (yl_assign rfl) <| x_done <| x_seq <| x_region <| ?_
 refine o_mkmap (κ := Int) (α := Bool) (Value.int .i64) Value.bool hS (fun b25 w' hS => ?_)
 refine p (yl_assign rfl) <| x_done <| x_seq <| x_region <| ?_
 refine o_mkmap (κ := Int) (α := T_rules_Spot) (Value.int .i64) kf_61 hS (fun b26 w' hS => ?_)
 refine p (yl_assign rfl) <| x_done <| x_seq <| x_seq <|
  x_region <| p (yl_move rfl) <| p (yl_len_slice usl_98 rfl) <| p (yl_move rfl) <|
  x_done <| ?_
 replace hF := bd_s hF; obtain ⟨oL6, hLL6, hF⟩ := hF
 refine x_join (fun E w => ∃ (q0i : List (Int × Bool)) (q0o : List (Int × T_rules_Spot)) (q16 : List (T_rules_Fault × Bool)) (q17 : Bool), (q0i, q0o, q16, q17) = oL6 ∧ E 0 = .pointer (some ⟨q7, 0, none⟩) ∧ E 2 = .slice q0a s2.length c_s2 ∧ E 6 = .slice q2 q5.length c_y0_ret_1_1 ∧ E 8 = .map (some b25) ∧ E 9 = .map (some b26) ∧ St w0 w (cells q7 103 [.map (some q3), .bool q17] :: vec 3 (RpI .i64).sz (.slice q2 q5.length c_y0_ret_1_1) q5.length q4 :: mapA b25 (Value.int .i64) Value.bool q0i :: mapA b26 (Value.int .i64) kf_61 q0o :: mapA q3 kf_63 Value.bool q16 :: ro ρ :: l)) ?_ ?_
 ·refine x_block ?_
  refine x_loop (fun k_ E w => ∃ (q0p : List (Int × Int)) (q0k : List (Int × Bool)) (q8 : List (Int × T_rules_Spot)) (q0f : Int) (q0b : List (T_rules_Fault × Bool)) (q0c : Bool), lp (P_rules_open_L6 s2 q5) k_ (q0p, q0k, q8, q0f, q0b, q0c) = some oL6 ∧ E 0 = .pointer (some ⟨q7, 0, none⟩) ∧ E 2 = .slice q0a s2.length c_s2 ∧ E 6 = .slice q2 q5.length c_y0_ret_1_1 ∧ E 7 = .map (some b24) ∧ E 8 = .map (some b25) ∧ E 9 = .map (some b26) ∧ E 27 = .slice q0a s2.length c_s2 ∧ E 28 = .int .i64 (s2.length : Int) ∧ E 29 = .int .i64 q0f ∧ St w0 w (cells q7 103 [.map (some q3), .bool q0c] :: vec 3 (RpI .i64).sz (.slice q2 q5.length c_y0_ret_1_1) q5.length q4 :: mapA b24 (Value.int .i64) (Value.int .i64) q0p :: mapA b25 (Value.int .i64) Value.bool q0k :: mapA b26 (Value.int .i64) kf_61 q8 :: mapA q3 kf_63 Value.bool q0b :: ro ρ :: l)) fuel ⟨[], [], [], 0, q2m, q2n, hLL6, rfl, rfl, rfl, rfl, rfl, rfl, rfl, rfl, rfl, ((((((((hS.pull 5).drop.pull 4).pull 6).pull 2).pull 3).pull 4).pull 5).pull 6)⟩ ?_
  rintro kL6 E w ⟨q0p, q0k, q8, q0f, q0b, q0c, hLL6, q19, q1k, q1a, q1b, q1c, q1l, q1d, q1e, q0q, hS⟩
  replace hLL6 := lp_s hLL6; obtain ⟨kL6, obL6, rfl, hFL6, hLL6⟩ := hLL6
  refine x_seq <| x_region <| p (yl_lss q0q q1e) <| x_done <|
   x_seq <|
   x_cond_p (q0f < (s2.length : Int)) rfl (fun hc30 => ?_) (fun hc30 => ?_)
  ·replace hFL6 := it_t hc30 hFL6
   replace hFL6 := ck_s hFL6; obtain ⟨q2r, hFL6⟩ := hFL6
   replace hFL6 := lv_s hFL6; obtain ⟨q6, q54, hFL6⟩ := hFL6
   have q_ := q1u.get q2r; obtain ⟨q5j, q2s, q55⟩ := q_
   rw [← q54] at q2s
   obtain ⟨q11, q5f, q12, rfl, q1m⟩ := q2s
   have e_ := q1m.n; subst e_
   refine x_skip <| x_seq <| x_block <| x_seq <|
    x_region <| p (yl_move q0q) <| p (yix_f sl_98 q1d q0q q1u q2r) <| pa (v := .agg #[.int .i64 q6.fnet, .slice q11 q6.fspots.length q12, .bool q6.fwire, .int .i64 q6.fpin]) (at_loadAgg agg_122 rfl rfl (Elt.every q55 (hS.pull 6))) <| ?_
   refine o_alloc zero_122 hS (fun b11 w' hS => ?_)
   refine p (yl_assign rfl) <| ?_
   refine o_storeAgg (news := [.int .i64 q6.fnet, .slice q11 q6.fspots.length q12, .bool q6.fwire, .int .i64 q6.fpin]) agg_122 rfl rfl rfl (by simp [over_length]) hS (fun w' hS => ?_)
   replace hFL6 := ck_s hFL6; obtain ⟨q2t, hFL6⟩ := hFL6
   replace hFL6 := lv_s hFL6; obtain ⟨x37, hx37, hFL6⟩ := hFL6
   refine x_done <| x_seq <| x_region <| p (yl_move q1a) <|
    p (yl_move rfl) <| p (yix_o sl_22 rfl rfl (hS.pull 2) q0g q2t) <| pa (at_load one_3 rfl (RepL.getW q0g (hS.pull 2) q2t hx37)) <| p (yl_assign rfl) <|
    x_done <| x_seq <| x_seq <| x_region <|
    p (yl_field0 fld_122_3 rfl) <| pa (at_load one_3 rfl (hS.cell rfl)) <| p (yl_geq rfl rfl) <| x_done <| ?_
   replace hFL6 := bd_s hFL6; obtain ⟨oc40, hFc40, hFL6⟩ := hFL6
   refine x_join (fun E w => ∃ (q0h : List (Int × Int)) (q9 : List (Int × Bool)) (q0d : List (T_rules_Fault × Bool)) (q0e : Bool), (q0h, q9, q0d, q0e) = oc40 ∧ E 0 = .pointer (some ⟨q7, 0, none⟩) ∧ E 2 = .slice q0a s2.length c_s2 ∧ E 6 = .slice q2 q5.length c_y0_ret_1_1 ∧ E 7 = .map (some b24) ∧ E 8 = .map (some b25) ∧ E 9 = .map (some b26) ∧ E 11 = .pointer (some ⟨b11, 0, none⟩) ∧ E 12 = .int .i64 x37 ∧ E 27 = .slice q0a s2.length c_s2 ∧ E 28 = .int .i64 (s2.length : Int) ∧ E 29 = .int .i64 q0f ∧ St w0 w (cells q7 103 [.map (some q3), .bool q0e] :: vec 3 (RpI .i64).sz (.slice q2 q5.length c_y0_ret_1_1) q5.length q4 :: mapA b24 (Value.int .i64) (Value.int .i64) q0h :: mapA b25 (Value.int .i64) Value.bool q9 :: mapA b26 (Value.int .i64) kf_61 q8 :: cells b11 122 [.int .i64 q6.fnet, .slice q11 q6.fspots.length q12, .bool q6.fwire, .int .i64 q6.fpin] :: mapA q3 kf_63 Value.bool q0d :: ro ρ :: l)) ?_ ?_
   ·refine x_cond_p (0 ≤ q6.fpin) rfl (fun hc40 => ?_) (fun hc40 => ?_)
    ·replace hFc40 := it_t hc40 hFc40
     refine x_seq <| x_region <| p (yl_move q1c) <| p (yl_move rfl) <| ?_
     replace hFc40 := lv_s hFc40; obtain ⟨q2a, q3w, hFc40⟩ := hFc40
     refine o_mapset (k := x37) (vf := Value.bool) (v := true) um_134 (KeyP.int ui_3) rfl rfl rfl (hS.pull 4) q3w (fun w' hS => ?_)
     replace hFc40 := lv_s hFc40; obtain ⟨x47, hx47, hFc40⟩ := hFc40
     replace hFc40 := lv_s hFc40; obtain ⟨q47, hq47, hFc40⟩ := hFc40
     refine x_done <| x_seq <| x_region <| p (yl_move q1b) <|
      p (yl_field0 fld_122_0 rfl) <| pa (at_load one_3 rfl ((hS.pull 1).cell rfl)) <| pa (at_look2 (k := q6.fnet) um_131 (KeyP.int ui_3) (zero1 zv_3) rfl rfl (hS.pull 4) hx47 hq47) <| p (yl_move rfl) <|
      p (yl_extract rfl rfl) <| p (yl_extract rfl rfl) <| p (yl_assign rfl) <| p (yl_assign rfl) <|
      x_done <| x_seq <| x_region <| p (yl_move rfl) <|
      p (yl_not rfl) <| x_done <| ?_
     replace hFc40 := bd_s hFc40; obtain ⟨oc51, hFc51, hFc40⟩ := hFc40
     refine x_join (fun E w => ∃ (q18 : List (Int × Int)) (q0u : List (T_rules_Fault × Bool)) (q0v : Bool), (q18, q0u, q0v) = oc51 ∧ E 0 = .pointer (some ⟨q7, 0, none⟩) ∧ E 2 = .slice q0a s2.length c_s2 ∧ E 6 = .slice q2 q5.length c_y0_ret_1_1 ∧ E 7 = .map (some b24) ∧ E 8 = .map (some b25) ∧ E 9 = .map (some b26) ∧ E 11 = .pointer (some ⟨b11, 0, none⟩) ∧ E 12 = .int .i64 x37 ∧ E 27 = .slice q0a s2.length c_s2 ∧ E 28 = .int .i64 (s2.length : Int) ∧ E 29 = .int .i64 q0f ∧ St w0 w (cells q7 103 [.map (some q3), .bool q0v] :: vec 3 (RpI .i64).sz (.slice q2 q5.length c_y0_ret_1_1) q5.length q4 :: mapA b24 (Value.int .i64) (Value.int .i64) q18 :: mapA b25 (Value.int .i64) Value.bool q2a :: mapA b26 (Value.int .i64) kf_61 q8 :: cells b11 122 [.int .i64 q6.fnet, .slice q11 q6.fspots.length q12, .bool q6.fwire, .int .i64 q6.fpin] :: mapA q3 kf_63 Value.bool q0u :: ro ρ :: l)) ?_ ?_
     ·refine x_cond (t := !q47) rfl (fun hc51 => ?_) (fun hc51 => ?_)
      ·replace hFc51 := it_t hc51 hFc51
       refine x_region <| p (yl_move q1b) <| p (yl_field0 fld_122_0 rfl) <| pa (at_load one_3 rfl ((hS.pull 1).cell rfl)) <|
        p (yl_move rfl) <| ?_
       replace hFc51 := lv_s hFc51; obtain ⟨q56, q3x, hFc51⟩ := hFc51
       refine o_mapset (k := q6.fnet) (vf := (Value.int .i64)) (v := x37) um_131 (KeyP.int ui_3) rfl rfl rfl (hS.pull 4) q3x (fun w' hS => ?_)
       refine x_done <| ?_
       exact x_inv ⟨q56, q0b, q0c, (sinj hFc51), q19, q1k, q1a, q1b, q1c, q1l, rfl, rfl, q1d, q1e, q0q, ((((((((hS.pull 7).pull 7).pull 4).pull 7).pull 5).pull 5).pull 7).pull 7)⟩
      ·replace hFc51 := it_bf hc51 hFc51
       refine x_seq <| x_region <| p (yl_move rfl) <| p (yl_move rfl) <|
        p (yl_neq rfl rfl) <| x_done <| ?_
       replace hFc51 := bd_s hFc51; obtain ⟨oc58, hFc58, hFc51⟩ := hFc51
       refine x_join (fun E w => ∃ (q0w : List (T_rules_Fault × Bool)) (q0x : Bool), (q0w, q0x) = oc58 ∧ E 0 = .pointer (some ⟨q7, 0, none⟩) ∧ E 2 = .slice q0a s2.length c_s2 ∧ E 6 = .slice q2 q5.length c_y0_ret_1_1 ∧ E 7 = .map (some b24) ∧ E 8 = .map (some b25) ∧ E 9 = .map (some b26) ∧ E 11 = .pointer (some ⟨b11, 0, none⟩) ∧ E 12 = .int .i64 x37 ∧ E 27 = .slice q0a s2.length c_s2 ∧ E 28 = .int .i64 (s2.length : Int) ∧ E 29 = .int .i64 q0f ∧ St w0 w (cells q7 103 [.map (some q3), .bool q0x] :: vec 3 (RpI .i64).sz (.slice q2 q5.length c_y0_ret_1_1) q5.length q4 :: mapA b24 (Value.int .i64) (Value.int .i64) q0p :: mapA b25 (Value.int .i64) Value.bool q2a :: mapA b26 (Value.int .i64) kf_61 q8 :: cells b11 122 [.int .i64 q6.fnet, .slice q11 q6.fspots.length q12, .bool q6.fwire, .int .i64 q6.fpin] :: mapA q3 kf_63 Value.bool q0w :: ro ρ :: l)) ?_ ?_
       ·refine x_cond_p (x47 ≠ x37) rfl (fun hc58 => ?_) (fun hc58 => ?_)
        ·replace hFc58 := it_t hc58 hFc58
         replace hFc58 := ck_s hFc58; obtain ⟨q2f, hFc58⟩ := hFc58
         replace hFc58 := lv_s hFc58; obtain ⟨q0y, q3y, hFc58⟩ := hFc58
         have q_ := q1m.get q2f; obtain ⟨q5g, q2g, q3z⟩ := q_
         rw [← q3y] at q2g
         have e_ := q2g; subst e_
         refine x_head 8 mixed (by kernel_rfl) hS _ _ rfl rfl <| q (yl_move q19) <| q (yl_field0 fld_122_0 rfl) <| qa (fun w' hS => at_load one_3 rfl ((hS.pull 1).cell rfl)) <|
          q (yl_field0 fld_122_1 rfl) <| qa (fun w' hS => at_load one_120 rfl ((hS.pull 1).cell rfl)) <| q (yix_f sl_120 rfl rfl q1m q2f) <| qa (v := .agg #[.int .i64 q0y.Layer, .int .i64 q0y.X, .int .i64 q0y.Y]) (fun w' hS => at_loadAgg agg_61 rfl rfl (Elt.every q3z (hS.pull 7))) <|
          q (v := .agg #[.int .i64 5, .int .i64 q6.fnet, .int .i64 0, .int .i64 q0y.Layer, .int .i64 q0y.X, .int .i64 q0y.Y]) (yl_build bld_63 bldf_63 (parts_eq (pt (va := .int .i64 5) rfl (pt (va := .int .i64 q6.fnet) rfl (pt (va := .int .i64 0) rfl (pt (va := .agg #[.int .i64 q0y.Layer, .int .i64 q0y.X, .int .i64 q0y.Y]) rfl pt0))))) (by kernel_rfl)) <|
          q_done fun w' hS => ?_
         replace hFc58 := bd_s hFc58; obtain ⟨q2u, q40, hFc58⟩ := hFc58
         have hcall := c_rules_bag_add q40  (((hS.pull 7).pull 7).pull 4)
         refine o_cc call_63 (args2 rfl rfl) hcall ?_
         rintro e w' ⟨rfl, hS⟩
         refine ⟨_, rfl, ?_⟩
         refine x_done <| ?_
         exact x_inv ⟨q2u.1, q2u.2, (sinj hFc58), q19, q1k, q1a, q1b, q1c, q1l, rfl, rfl, q1d, q1e, q0q, ((((((((hS.pull 2).pull 2).pull 4).pull 7).pull 5).pull 7).pull 7).pull 7)⟩
        ·replace hFc58 := it_f hc58 hFc58
         refine x_skip <| ?_
         exact x_inv ⟨q0b, q0c, (sinj hFc58), q19, q1k, q1a, q1b, q1c, q1l, rfl, rfl, q1d, q1e, q0q, ((((((((hS.pull 7).pull 7).pull 3).pull 7).pull 4).pull 7).pull 7).pull 7)⟩
       rintro E w ⟨q0w, q0x, rfl, q41, q42, q43, q44, q45, q46, q2w, q2x, q2y, q2z, q30, hS⟩
       exact x_inv ⟨q0p, q0w, q0x, (sinj hFc51), q41, q42, q43, q44, q45, q46, q2w, q2x, q2y, q2z, q30, ((((((((hS.pull 7).pull 7).pull 7).pull 7).pull 7).pull 7).pull 7).pull 7)⟩
     rintro E w ⟨q18, q0u, q0v, rfl, q48, q49, q4a, q4b, q4c, q4d, q31, q32, q33, q34, q35, hS⟩
     exact x_inv ⟨q18, q2a, q0u, q0v, (sinj hFc40), q48, q49, q4a, q4b, q4c, q4d, q31, q32, q33, q34, q35, ((((((((hS.pull 7).pull 7).pull 7).pull 7).pull 7).pull 7).pull 7).pull 7)⟩
    ·replace hFc40 := it_f hc40 hFc40
     refine x_skip <| ?_
     exact x_inv ⟨q0p, q0k, q0b, q0c, (sinj hFc40), q19, q1k, q1a, q1b, q1c, q1l, rfl, rfl, q1d, q1e, q0q, ((((((((hS.pull 7).pull 7).pull 2).pull 7).pull 7).pull 7).pull 7).pull 7)⟩
   rintro E w ⟨q0h, q9, q0d, q0e, rfl, q4e, q4f, q4g, q4h, q4i, q4j, q36, q37, q38, q39, q3a, hS⟩
   refine x_seq <| x_region <| p (yl_field0 fld_122_1 q36) <| pa (at_load one_120 rfl ((hS.pull 5).cell rfl)) <|
    p (yl_len_slice usl_120 rfl) <| p (yl_move rfl) <| x_done <| ?_
   replace hFL6 := bd_s hFL6; obtain ⟨oL17, hLL17, hFL6⟩ := hFL6
   refine x_join (fun E w => ∃ (q0z : List (Int × T_rules_Spot)), q0z = oL17 ∧ E 0 = .pointer (some ⟨q7, 0, none⟩) ∧ E 2 = .slice q0a s2.length c_s2 ∧ E 6 = .slice q2 q5.length c_y0_ret_1_1 ∧ E 7 = .map (some b24) ∧ E 8 = .map (some b25) ∧ E 9 = .map (some b26) ∧ E 27 = .slice q0a s2.length c_s2 ∧ E 28 = .int .i64 (s2.length : Int) ∧ E 29 = .int .i64 q0f ∧ St w0 w (cells q7 103 [.map (some q3), .bool q0e] :: vec 3 (RpI .i64).sz (.slice q2 q5.length c_y0_ret_1_1) q5.length q4 :: mapA b24 (Value.int .i64) (Value.int .i64) q0h :: mapA b25 (Value.int .i64) Value.bool q9 :: mapA b26 (Value.int .i64) kf_61 q0z :: mapA q3 kf_63 Value.bool q0d :: ro ρ :: l)) ?_ ?_
   ·refine x_block ?_
    refine x_loop (fun k_ E w => ∃ (q0l : List (Int × T_rules_Spot)) (q13 : Int), lp (P_rules_open_L17 q6 x37) k_ (q0l, q13) = some oL17 ∧ E 0 = .pointer (some ⟨q7, 0, none⟩) ∧ E 2 = .slice q0a s2.length c_s2 ∧ E 6 = .slice q2 q5.length c_y0_ret_1_1 ∧ E 7 = .map (some b24) ∧ E 8 = .map (some b25) ∧ E 9 = .map (some b26) ∧ E 12 = .int .i64 x37 ∧ E 27 = .slice q0a s2.length c_s2 ∧ E 28 = .int .i64 (s2.length : Int) ∧ E 29 = .int .i64 q0f ∧ E 69 = .slice q11 q6.fspots.length q12 ∧ E 70 = .int .i64 (q6.fspots.length : Int) ∧ E 71 = .int .i64 q13 ∧ St w0 w (cells q7 103 [.map (some q3), .bool q0e] :: vec 3 (RpI .i64).sz (.slice q2 q5.length c_y0_ret_1_1) q5.length q4 :: mapA b24 (Value.int .i64) (Value.int .i64) q0h :: mapA b25 (Value.int .i64) Value.bool q9 :: mapA b26 (Value.int .i64) kf_61 q0l :: mapA q3 kf_63 Value.bool q0d :: ro ρ :: l)) fuel ⟨q8, 0, hLL17, q4e, q4f, q4g, q4h, q4i, q4j, q37, q38, q39, q3a, rfl, rfl, rfl, ((((((((hS.pull 5).drop.pull 6).pull 6).pull 6).pull 6).pull 6).pull 6).pull 6)⟩ ?_
    rintro kL17 E w ⟨q0l, q13, hLL17, q1v, q1w, q1x, q1y, q1z, q1f, q1g, q1n, q1o, q1p, q1q, q1r, q1h, hS⟩
    replace hLL17 := lp_s hLL17; obtain ⟨kL17, obL17, rfl, hFL17, hLL17⟩ := hLL17
    refine x_seq <| x_region <| p (yl_lss q1h q1r) <| x_done <|
     x_seq <|
     x_cond_p (q13 < (q6.fspots.length : Int)) rfl (fun hc72 => ?_) (fun hc72 => ?_)
    ·replace hFL17 := it_t hc72 hFL17
     replace hFL17 := ck_s hFL17; obtain ⟨q2h, hFL17⟩ := hFL17
     replace hFL17 := lv_s hFL17; obtain ⟨q0j, q4k, hFL17⟩ := hFL17
     have q_ := q1m.get q2h; obtain ⟨q5h, q2i, q4l⟩ := q_
     rw [← q4k] at q2i
     have e_ := q2i; subst e_
     refine x_skip <| x_seq <| x_block <| x_seq <|
      x_region <| p (yix_f sl_120 q1q q1h q1m q2h) <| pa (v := .agg #[.int .i64 q0j.Layer, .int .i64 q0j.X, .int .i64 q0j.Y]) (at_loadAgg agg_61 rfl rfl (Elt.every q4l (hS.pull 6))) <| ?_
     refine o_alloc zero_61 hS (fun b16 w' hS => ?_)
     refine o_storeAgg (news := [.int .i64 q0j.Layer, .int .i64 q0j.X, .int .i64 q0j.Y]) agg_61 rfl rfl rfl (by simp [over_length]) hS (fun w' hS => ?_)
     replace hFL17 := lv_s hFL17; obtain ⟨x78, hx78, hFL17⟩ := hFL17
     replace hFL17 := lv_s hFL17; obtain ⟨q78, hq78, hFL17⟩ := hFL17
     refine x_done <| x_seq <| x_region <| p (yl_move q1f) <|
      p (yl_move q1g) <| pa (v := .tuple #[.agg #[.int .i64 x78.Layer, .int .i64 x78.X, .int .i64 x78.Y], .bool q78]) (at_look2 (k := x37) (vf := kf_61) (r := x78) (d := (T_rules_Spot.mk 0 0 0)) um_135 (KeyP.int ui_3) (zero1 zv_61) rfl rfl (hS.pull 5) hx78 hq78) <| p (v := .tuple #[.agg #[.int .i64 x78.Layer, .int .i64 x78.X, .int .i64 x78.Y], .bool q78]) (yl_move rfl) <| p (yl_extract rfl rfl) <|
      p (yl_extract rfl rfl) <| ?_
     refine o_alloc zero_61 hS (fun b17 w' hS => ?_)
     refine o_storeAgg (news := [.int .i64 x78.Layer, .int .i64 x78.X, .int .i64 x78.Y]) agg_61 rfl rfl rfl (by simp [over_length]) hS (fun w' hS => ?_)
     replace hFL17 := bd_s hFL17; obtain ⟨q57, q4m, hFL17⟩ := hFL17
     refine p (yl_assign rfl) <| x_done <| x_seq <| x_region <|
      p (yl_move rfl) <| p (yl_not rfl) <| p (yl_move rfl) <| pg (v := .agg #[.int .i64 q0j.Layer, .int .i64 q0j.X, .int .i64 q0j.Y]) 83 (c := !(!q78)) (says_f _) (fun hq => ld_sub agg_61 rfl rfl rfl (hS.pull 1)) <|
      pg (v := .agg #[.int .i64 x78.Layer, .int .i64 x78.X, .int .i64 x78.Y]) 83 (c := !(!q78)) (says_f _) (fun hq => ld_sub agg_61 rfl rfl rfl hS) <|
      pccg (v := .bool q57) 83 (c := !(!q78)) (says_f _) call_71 (fun hq => (args2 (cv hq) (cv hq))) hS (fun hq => by
       have hcall := c_rules_Spot_before (gd_t q4m hq)  (hS.pull 8)
       exact (Calls.mono hcall (fun e w'' h => And.intro h.1 ((((((((h.2.pull 8).pull 8).pull 8).pull 8).pull 8).pull 8).pull 8).pull 8)))) (fun w' hS => ?_)
     replace hFL17 := lv_s hFL17; obtain ⟨x87, hx87, hFL17⟩ := hFL17
     refine p (yor' rfl rfl (fun hc => (cv (t_not hc))) hx87) <| x_done <| ?_
     replace hFL17 := bd_s hFL17; obtain ⟨oc87, hFc87, hFL17⟩ := hFL17
     refine x_join (fun E w => ∃ (q10 : List (Int × T_rules_Spot)), q10 = oc87 ∧ E 0 = .pointer (some ⟨q7, 0, none⟩) ∧ E 2 = .slice q0a s2.length c_s2 ∧ E 6 = .slice q2 q5.length c_y0_ret_1_1 ∧ E 7 = .map (some b24) ∧ E 8 = .map (some b25) ∧ E 9 = .map (some b26) ∧ E 12 = .int .i64 x37 ∧ E 27 = .slice q0a s2.length c_s2 ∧ E 28 = .int .i64 (s2.length : Int) ∧ E 29 = .int .i64 q0f ∧ E 69 = .slice q11 q6.fspots.length q12 ∧ E 70 = .int .i64 (q6.fspots.length : Int) ∧ E 71 = .int .i64 q13 ∧ St w0 w (cells q7 103 [.map (some q3), .bool q0e] :: vec 3 (RpI .i64).sz (.slice q2 q5.length c_y0_ret_1_1) q5.length q4 :: mapA b24 (Value.int .i64) (Value.int .i64) q0h :: mapA b25 (Value.int .i64) Value.bool q9 :: mapA b26 (Value.int .i64) kf_61 q10 :: mapA q3 kf_63 Value.bool q0d :: ro ρ :: l)) ?_ ?_
     ·refine x_cond (t := x87) rfl (fun hc87 => ?_) (fun hc87 => ?_)
      ·replace hFc87 := it_t hc87 hFc87
       refine x_region <| p (yl_move q1f) <| p (yl_move q1g) <| pa (v := .agg #[.int .i64 q0j.Layer, .int .i64 q0j.X, .int .i64 q0j.Y]) (ld_sub agg_61 rfl rfl rfl (hS.pull 1)) <| ?_
       replace hFc87 := lv_s hFc87; obtain ⟨q58, q4n, hFc87⟩ := hFc87
       refine o_mapset (k := x37) (vf := kf_61) (v := q0j) um_135 (KeyP.int ui_3) rfl rfl rfl (hS.pull 6) q4n (fun w' hS => ?_)
       refine x_done <| ?_
       exact x_inv ⟨q58, (sinj hFc87), q1v, q1w, q1x, q1y, q1z, q1f, q1g, q1n, q1o, q1p, q1q, q1r, q1h, (((((((((hS.pull 1).drop.pull 1).drop.pull 6).pull 6).pull 2).pull 6).pull 6).pull 6).pull 6)⟩
      ·replace hFc87 := it_bf hc87 hFc87
       refine x_skip <| ?_
       exact x_inv ⟨q0l, (sinj hFc87), q1v, q1w, q1x, q1y, q1z, q1f, q1g, q1n, q1o, q1p, q1q, q1r, q1h, (((((((hS.drop.drop.pull 6).pull 6).pull 6).pull 6).pull 6).pull 6).pull 6)⟩
     rintro E w ⟨q10, rfl, q4o, q4p, q4q, q4r, q4s, q4t, q3b, q3c, q3d, q3e, q3f, q3g, q3h, hS⟩
     replace hFL17 := ar_s hFL17; obtain ⟨x91, hx91, hFL17⟩ := hFL17
     refine x_blk <| x_region <| p (yadd q3h rfl hx91) <| p (yl_move rfl) <|
      x_done <| ?_
     have e_ := sinj hFL17; subst e_
     exact x_inv ⟨kL17, Nat.lt_succ_self _, q10, x91, hLL17, q4o, q4p, q4q, q4r, q4s, q4t, q3b, q3c, q3d, q3e, q3f, q3g, rfl, (((((((hS.pull 6).pull 6).pull 6).pull 6).pull 6).pull 6).pull 6)⟩
    ·replace hFL17 := it_f hc72 hFL17
     refine x_exitTo _ rfl <| ?_
     have e_ := sinj hFL17; subst e_
     exact x_inv ⟨q0l, hLL17, q1v, q1w, q1x, q1y, q1z, q1f, q1n, q1o, q1p, (((((((hS.pull 6).pull 6).pull 6).pull 6).pull 6).pull 6).pull 6)⟩
   rintro E w ⟨q0z, rfl, q4u, q4v, q4w, q4x, q4y, q4z, q3i, q3j, q3k, hS⟩
   replace hFL6 := ar_s hFL6; obtain ⟨x92, hx92, hFL6⟩ := hFL6
   refine x_blk <| x_region <| p (yadd q3k rfl hx92) <| p (yl_move rfl) <|
    x_done <| ?_
   have e_ := sinj hFL6; subst e_
   exact x_inv ⟨kL6, Nat.lt_succ_self _, q0h, q9, q0z, x92, q0d, q0e, hLL6, q4u, q4v, q4w, q4x, q4y, q4z, q3i, q3j, rfl, (((((((hS.pull 6).pull 6).pull 6).pull 6).pull 6).pull 6).pull 6)⟩
  ·replace hFL6 := it_f hc30 hFL6
   refine x_exitTo _ rfl <| ?_
   have e_ := sinj hFL6; subst e_
   exact x_inv ⟨q0k, q8, q0b, q0c, hLL6, q19, q1k, q1a, q1c, q1l, (((((((hS.pull 2).drop.pull 5).pull 5).pull 5).pull 5).pull 5).pull 5)⟩
 rintro E w ⟨q0i, q0o, q16, q17, rfl, q59, q5a, q5b, q5c, q5d, hS⟩
 refine x_seq <| x_region <| p (yl_move q5a) <| p (yl_len_slice usl_98 rfl) <|
  p (yl_move rfl) <| x_done <| ?_
 replace hF := bd_s hF; obtain ⟨oL25, hLL25, hF⟩ := hF
 refine x_join (fun E w => ∃ (q1i : List (T_rules_Fault × Bool)) (q1j : Bool), (q1i, q1j) = oL25 ∧ St w0 w (cells q7 103 [.map (some q3), .bool q1j] :: mapA q3 kf_63 Value.bool q1i :: ro ρ :: l)) ?_ ?_
 ·refine x_block ?_
  refine x_loop (fun k_ E w => ∃ (q14 : Int) (q0m : List (T_rules_Fault × Bool)) (q0n : Bool), lp (P_rules_open_L25 s2 q5 q0i q0o) k_ (q14, q0m, q0n) = some oL25 ∧ E 0 = .pointer (some ⟨q7, 0, none⟩) ∧ E 6 = .slice q2 q5.length c_y0_ret_1_1 ∧ E 8 = .map (some b25) ∧ E 9 = .map (some b26) ∧ E 93 = .slice q0a s2.length c_s2 ∧ E 94 = .int .i64 (s2.length : Int) ∧ E 95 = .int .i64 q14 ∧ St w0 w (cells q7 103 [.map (some q3), .bool q0n] :: vec 3 (RpI .i64).sz (.slice q2 q5.length c_y0_ret_1_1) q5.length q4 :: mapA b25 (Value.int .i64) Value.bool q0i :: mapA b26 (Value.int .i64) kf_61 q0o :: mapA q3 kf_63 Value.bool q0m :: ro ρ :: l)) fuel ⟨0, q16, q17, hLL25, q59, q5b, q5c, q5d, rfl, rfl, rfl, ((((((hS.pull 5).pull 5).pull 5).pull 5).pull 5).pull 5)⟩ ?_
  rintro kL25 E w ⟨q14, q0m, q0n, hLL25, q20, q21, q22, q23, q1s, q1t, q15, hS⟩
  replace hLL25 := lp_s hLL25; obtain ⟨kL25, obL25, rfl, hFL25, hLL25⟩ := hLL25
  refine x_seq <| x_region <| p (yl_lss q15 q1t) <| x_done <|
   x_seq <|
   x_cond_p (q14 < (s2.length : Int)) rfl (fun hc96 => ?_) (fun hc96 => ?_)
  ·replace hFL25 := it_t hc96 hFL25
   replace hFL25 := ck_s hFL25; obtain ⟨q2j, hFL25⟩ := hFL25
   replace hFL25 := lv_s hFL25; obtain ⟨q0r, q50, hFL25⟩ := hFL25
   have q_ := q1u.get q2j; obtain ⟨q5i, q2k, q51⟩ := q_
   rw [← q50] at q2k
   obtain ⟨q28, q5e, q29, rfl, q3l⟩ := q2k
   have e_ := q3l.n; subst e_
   refine x_skip <| x_seq <| x_block <| x_seq <|
    x_region <| p (yl_move q15) <| p (yix_f sl_98 q1s q15 q1u q2j) <| pa (v := .agg #[.int .i64 q0r.fnet, .slice q28 q0r.fspots.length q29, .bool q0r.fwire, .int .i64 q0r.fpin]) (at_loadAgg agg_122 rfl rfl (Elt.every q51 (hS.pull 5))) <| ?_
   refine o_alloc zero_122 hS (fun b20 w' hS => ?_)
   refine p (yl_assign rfl) <| ?_
   refine o_storeAgg (news := [.int .i64 q0r.fnet, .slice q28 q0r.fspots.length q29, .bool q0r.fwire, .int .i64 q0r.fpin]) agg_122 rfl rfl rfl (by simp [over_length]) hS (fun w' hS => ?_)
   replace hFL25 := ck_s hFL25; obtain ⟨q2l, hFL25⟩ := hFL25
   replace hFL25 := lv_s hFL25; obtain ⟨x103, hx103, hFL25⟩ := hFL25
   replace hFL25 := lv_s hFL25; obtain ⟨x106, hx106, hFL25⟩ := hFL25
   refine x_done <| x_seq <| x_region <| p (yl_move q21) <|
    p (yl_move rfl) <| p (yix_o sl_22 rfl rfl (hS.pull 2) q0g q2l) <| pa (at_load one_3 rfl (RepL.getW q0g (hS.pull 2) q2l hx103)) <| p (yl_assign rfl) <|
    x_done <| x_seq <| x_region <| p (yl_move q22) <|
    p (yl_move rfl) <| pa (at_look (k := x103) um_134 (KeyP.int ui_3) (zero1 zv_4) rfl rfl (hS.pull 3) hx106) <| p (yl_not rfl) <| x_done <| ?_
   replace hFL25 := bd_s hFL25; obtain ⟨oc107, hFc107, hFL25⟩ := hFL25
   refine x_join (fun E w => ∃ (q0s : List (T_rules_Fault × Bool)) (q0t : Bool), (q0s, q0t) = oc107 ∧ E 0 = .pointer (some ⟨q7, 0, none⟩) ∧ E 6 = .slice q2 q5.length c_y0_ret_1_1 ∧ E 8 = .map (some b25) ∧ E 9 = .map (some b26) ∧ E 93 = .slice q0a s2.length c_s2 ∧ E 94 = .int .i64 (s2.length : Int) ∧ E 95 = .int .i64 q14 ∧ St w0 w (cells q7 103 [.map (some q3), .bool q0t] :: vec 3 (RpI .i64).sz (.slice q2 q5.length c_y0_ret_1_1) q5.length q4 :: mapA b25 (Value.int .i64) Value.bool q0i :: mapA b26 (Value.int .i64) kf_61 q0o :: mapA q3 kf_63 Value.bool q0s :: ro ρ :: l)) ?_ ?_
   ·refine x_cond (t := !x106) rfl (fun hc107 => ?_) (fun hc107 => ?_)
    ·replace hFc107 := it_t hc107 hFc107
     replace hFc107 := lv_s hFc107; obtain ⟨x113, hx113, hFc107⟩ := hFc107
     replace hFc107 := bd_s hFc107; obtain ⟨q2v, q52, hFc107⟩ := hFc107
     refine x_region <| p (yl_move q20) <| p (yl_field0 fld_122_0 rfl) <| pa (at_load one_3 rfl (hS.cell rfl)) <|
      p (yl_move q23) <| p (yl_move rfl) <| pa (v := .agg #[.int .i64 x113.Layer, .int .i64 x113.X, .int .i64 x113.Y]) (at_look (k := x103) (vf := kf_61) (r := x113) (d := (T_rules_Spot.mk 0 0 0)) um_135 (KeyP.int ui_3) (zero1 zv_61) rfl rfl (hS.pull 4) hx113) <| p (v := .agg #[.int .i64 6, .int .i64 q0r.fnet, .int .i64 0, .int .i64 x113.Layer, .int .i64 x113.X, .int .i64 x113.Y]) (yl_build bld_63 bldf_63 (parts_eq (pt (va := .int .i64 6) rfl (pt (va := .int .i64 q0r.fnet) rfl (pt (va := .int .i64 0) rfl (pt (va := .agg #[.int .i64 x113.Layer, .int .i64 x113.X, .int .i64 x113.Y]) rfl pt0))))) (by kernel_rfl)) <| ?_
     have hcall := c_rules_bag_add q52  (((hS.pull 6).pull 6).pull 3)
     refine o_cc call_63 (args2 rfl rfl) hcall ?_
     rintro e w' ⟨rfl, hS⟩
     refine ⟨_, rfl, ?_⟩
     refine x_done <| ?_
     exact x_inv ⟨q2v.1, q2v.2, (sinj hFc107), q20, q21, q22, q23, q1s, q1t, q15, (((((((hS.pull 3).drop.pull 2).pull 2).pull 5).pull 5).pull 5).pull 5)⟩
    ·replace hFc107 := it_bf hc107 hFc107
     refine x_skip <| ?_
     exact x_inv ⟨q0m, q0n, (sinj hFc107), q20, q21, q22, q23, q1s, q1t, q15, ((((((hS.drop.pull 5).pull 5).pull 5).pull 5).pull 5).pull 5)⟩
   rintro E w ⟨q0s, q0t, rfl, q3m, q3n, q3o, q3p, q2o, q2p, q2q, hS⟩
   replace hFL25 := ar_s hFL25; obtain ⟨x116, hx116, hFL25⟩ := hFL25
   refine x_blk <| x_region <| p (yadd q2q rfl hx116) <| p (yl_move rfl) <|
    x_done <| ?_
   have e_ := sinj hFL25; subst e_
   exact x_inv ⟨kL25, Nat.lt_succ_self _, x116, q0s, q0t, hLL25, q3m, q3n, q3o, q3p, q2o, q2p, rfl, ((((((hS.pull 5).pull 5).pull 5).pull 5).pull 5).pull 5)⟩
  ·replace hFL25 := it_f hc96 hFL25
   refine x_exitTo _ rfl <| ?_
   have e_ := sinj hFL25; subst e_
   exact x_inv ⟨q0m, q0n, hLL25, ((((((hS.pull 1).drop.pull 1).drop.pull 1).drop.pull 2).pull 2).pull 2)⟩
 rintro E w ⟨q1i, q1j, rfl, hS⟩
 have e_ := sinj hF; subst e_
 exact x_fin ⟨_, rfl, rfl, (((hS.pull 2).pull 2).pull 2)⟩
attribute [irreducible] P_rules_open

def P_rules_antenna_1_L2 (x0 : T_rules_shape) (q3 : Int) : Int → Option (Int ⊕ (Unit ⊕ List T_rules_Spot)) := fun q2 =>
 if q2 < (x0.fspots.length : Int) then
  ck (inb q2 x0.fspots.length) <|
  lv (gt x0.fspots q2) fun q4 =>
  if q3 < q4.Layer then
   some (Sum.inr (Sum.inr []))
  else
   ar (q2 + 1) fun x17 =>
   some (Sum.inl x17)
 else
  some (Sum.inr (Sum.inl ()))
def P_rules_antenna_1 (x0 : T_rules_shape) (q2 : Int) : Option (List T_rules_Spot) :=
 bs (
  lp (P_rules_antenna_1_L2 x0 q2) fuel 0) (fun y => some y) fun _ =>
 some x0.fspots
theorem c_rules_antenna_1 {w0 w : World} {l : List Assn} {ρ : Heap} {q2 : Option Addr} {q0b : Nat} {c_x0_1 : Nat} {q7 : Nat} {x0 : T_rules_shape} {q3 : Int} {r : List T_rules_Spot} (hF : P_rules_antenna_1 x0 q3 = some r) (q5 : RdS R_rules_Spot ρ q2 q0b c_x0_1 x0.fspots) (hS : St w0 w (cells q7 3 [.int .i64 q3] :: ro ρ :: l)) :
  Calls Try.prog 72 #[.agg #[.int .i64 x0.fnet, .slice q2 q0b c_x0_1, .bool x0.fwire, .int .i64 x0.fpin], .pointer (some ⟨q7, 0, none⟩)] w fun e w' => ∃ (q8 : Option Addr) (q9 : Nat) (c_y0_ret : Nat), e = .returned (.slice q8 q9 c_y0_ret) ∧ RdS R_rules_Spot ρ q8 q9 c_y0_ret r ∧ St w0 w' (cells q7 3 [.int .i64 q3] :: ro ρ :: l) := by
 have e_ := q5.n; subst e_
 refine enterC Try.func72 rfl 20 rfl (by simp) ?_
 refine x_seq <| x_region <| ?_
 refine o_box (cs := [.int .i64 x0.fnet, .slice q2 x0.fspots.length c_x0_1, .bool x0.fwire, .int .i64 x0.fpin]) rfl rfl hS (fun b2 w' hS => ?_)
 refine p (yl_assign rfl) <| x_done <| x_seq <| x_seq <|
  x_region <| p (yl_field0 fld_122_1 rfl) <| pa (at_load one_120 rfl (hS.cell rfl)) <| p (yl_len_slice usl_120 rfl) <|
  p (yl_move rfl) <| x_done <| ?_
 replace hF := bs_s hF; obtain ⟨oL2, hLL2, hF⟩ := hF
 refine x_join (fun E w => (Sum.inl (())) = oL2 ∧ E 2 = .pointer (some ⟨b2, 0, none⟩) ∧ St w0 w (cells b2 122 [.int .i64 x0.fnet, .slice q2 x0.fspots.length c_x0_1, .bool x0.fwire, .int .i64 x0.fpin] :: cells q7 3 [.int .i64 q3] :: ro ρ :: l)) ?_ ?_
 ·refine x_block ?_
  refine x_loop (fun k_ E w => ∃ (q6 : Int), lp (P_rules_antenna_1_L2 x0 q3) k_ q6 = some oL2 ∧ E 1 = .pointer (some ⟨q7, 0, none⟩) ∧ E 2 = .pointer (some ⟨b2, 0, none⟩) ∧ E 7 = .slice q2 x0.fspots.length c_x0_1 ∧ E 8 = .int .i64 (x0.fspots.length : Int) ∧ E 9 = .int .i64 q6 ∧ St w0 w (cells q7 3 [.int .i64 q3] :: cells b2 122 [.int .i64 x0.fnet, .slice q2 x0.fspots.length c_x0_1, .bool x0.fwire, .int .i64 x0.fpin] :: ro ρ :: l)) fuel ⟨0, hLL2, rfl, rfl, rfl, rfl, rfl, (((hS.pull 2).pull 1).pull 2)⟩ ?_
  rintro kL2 E w ⟨q6, hLL2, q0c, q0d, q0e, q0f, q0a, hS⟩
  replace hLL2 := lp_s hLL2; obtain ⟨kL2, obL2, rfl, hFL2, hLL2⟩ := hLL2
  refine x_seq <| x_region <| p (yl_lss q0a q0f) <| x_done <|
   x_seq <|
   x_cond_p (q6 < (x0.fspots.length : Int)) rfl (fun hc10 => ?_) (fun hc10 => ?_)
  ·replace hFL2 := it_t hc10 hFL2
   replace hFL2 := ck_s hFL2; obtain ⟨q0g, hFL2⟩ := hFL2
   replace hFL2 := lv_s hFL2; obtain ⟨q4, q0i, hFL2⟩ := hFL2
   have q_ := q5.get q0g; obtain ⟨q0l, q0h, q0j⟩ := q_
   rw [← q0i] at q0h
   have e_ := q0h; subst e_
   refine x_skip <| x_seq <| x_block <| x_seq <|
    x_region <| p (yix_f sl_120 q0e q0a q5 q0g) <| pa (v := .agg #[.int .i64 q4.Layer, .int .i64 q4.X, .int .i64 q4.Y]) (at_loadAgg agg_61 rfl rfl (Elt.every q0j (hS.pull 2))) <| ?_
   refine o_alloc zero_61 hS (fun b5 w' hS => ?_)
   refine o_storeAgg (news := [.int .i64 q4.Layer, .int .i64 q4.X, .int .i64 q4.Y]) agg_61 rfl rfl rfl (by simp [over_length]) hS (fun w' hS => ?_)
   refine x_done <| x_seq <| x_region <| p (yl_field0 fld_61_0 rfl) <|
    pa (at_load one_3 rfl (hS.cell rfl)) <| pa (at_load one_3 q0c ((hS.pull 1).cell rfl)) <| p (yl_gtr rfl rfl) <| x_done <|
    x_cond_p (q3 < q4.Layer) rfl (fun hc16 => ?_) (fun hc16 => ?_)
   ·replace hFL2 := it_t hc16 hFL2
    refine x_seq <| x_region <| p (yl_assign rfl) <| x_done <| ?_
    have e_ := sinj hFL2; subst e_
    have e_ := (show _ = oL2 from hLL2); subst e_
    have e_ := sinj hF; subst e_
    exact x_return ⟨_, ⟨_, _, rfl, rfl, rfl⟩, none, 0, 0, rfl, (RdS.nil (A := none) (c := 0)), (((hS.drop.pull 1).drop.pull 1).pull 1)⟩
   ·replace hFL2 := it_f hc16 hFL2
    replace hFL2 := ar_s hFL2; obtain ⟨x17, hx17, hFL2⟩ := hFL2
    refine x_skip <| x_blk <| x_region <| p (yadd q0a rfl hx17) <|
     p (yl_move rfl) <| x_done <| ?_
    have e_ := sinj hFL2; subst e_
    exact x_inv ⟨kL2, Nat.lt_succ_self _, x17, hLL2, q0c, q0d, q0e, q0f, rfl, (((hS.drop.pull 2).pull 2).pull 2)⟩
  ·replace hFL2 := it_f hc10 hFL2
   refine x_exitTo _ rfl <| ?_
   have e_ := sinj hFL2; subst e_
   exact x_inv ⟨hLL2, q0d, (((hS.pull 2).pull 1).pull 2)⟩
 rintro E w ⟨rfl, q0k, hS⟩
 refine x_seq <| x_region <| p (yl_field0 fld_122_1 q0k) <| pa (at_load one_120 rfl (hS.cell rfl)) <|
  p (yl_assign rfl) <| x_done <| ?_
 have e_ := sinj hF; subst e_
 exact x_return ⟨_, ⟨_, _, rfl, rfl, rfl⟩, q2, x0.fspots.length, c_x0_1, rfl, q5, ((hS.drop.pull 1).pull 1)⟩
attribute [irreducible] P_rules_antenna_1

def P_rules_groups_3_L3 (q4 : List Int) : (Int × List Int) → Option ((Int × List Int) ⊕ List Int) := fun (q2, q3) =>
 if q2 < (q4.length : Int) then
  ck (inb q2 q3.length) <|
  lv (stt q3 q2 q2) fun q5 =>
  ar (q2 + 1) fun x36 =>
  some (Sum.inl (x36, q5))
 else
  some (Sum.inr q3)
def P_rules_groups_3_L13 (q8 : T_rules_shape) (q9 : List T_rules_Spot) (q7 : Int) : (List (T_rules_key × Int) × Int × List Int) → Option ((List (T_rules_key × Int) × Int × List Int) ⊕ (List (T_rules_key × Int) × List Int)) := fun (q2, q4, q5) =>
 if q4 < (q9.length : Int) then
  bd (
   ck (inb q4 q9.length) <|
   lv (gt q9 q4) fun q3 =>
   lv (mget (T_rules_key.mk q8.fnet (T_rules_Spot.mk q3.Layer q3.X q3.Y)) q2 0) fun x61 =>
   lv (mhas (T_rules_key.mk q8.fnet (T_rules_Spot.mk q3.Layer q3.X q3.Y)) q2) fun q61 =>
   if (!q61) = true then
    lv (mput (T_rules_key.mk q8.fnet (T_rules_Spot.mk q3.Layer q3.X q3.Y)) q7 q2) fun q0d =>
    some (q0d, q5)
   else
    bd (P_rules_groups_1 q7 q5) fun q0a =>
    bd (P_rules_groups_1 x61 q0a.2) fun q6 =>
    lv (max q0a.1 q6.1) fun x78 =>
    lv (min q0a.1 q6.1) fun x81 =>
    ck (inb x78 q6.2.length) <|
    lv (stt q6.2 x78 x81) fun q0e =>
    some (q2, q0e)) fun (q0b, q0c) =>
  ar (q4 + 1) fun x83 =>
  some (Sum.inl (q0b, x83, q0c))
 else
  some (Sum.inr (q2, q5))
def P_rules_groups_3_L10 (l_0 : List T_rules_shape) (q5 : Int) : (List (T_rules_key × Int) × Int × List Int) → Option ((List (T_rules_key × Int) × Int × List Int) ⊕ List Int) := fun (q4, q2, q3) =>
 if q2 < (l_0.length : Int) then
  ck (inb q2 l_0.length) <|
  lv (gt l_0 q2) fun q8 =>
  bd (P_rules_antenna_1 q8 q5) fun q9 =>
  bd (
   lp (P_rules_groups_3_L13 q8 q9 q2) fuel (q4, 0, q3)) fun (q6, q7) =>
  ar (q2 + 1) fun x84 =>
  some (Sum.inl (q6, x84, q7))
 else
  some (Sum.inr q3)
def P_rules_groups_3_L26 (l_0 : List T_rules_shape) : (List (Int × Int) × List Int × Int × List Int) → Option ((List (Int × Int) × List Int × Int × List Int) ⊕ List Int) := fun (q2, q4, q3, q7) =>
 if q3 < (l_0.length : Int) then
  bd (P_rules_groups_1 q3 q7) fun q6 =>
  lv (mget q6.1 q2 0) fun x100 =>
  lv (mhas q6.1 q2) fun q100 =>
  bd (
   if (!q100) = true then
    lv (mput q6.1 (q2.length : Int) q2) fun q8 =>
    some q8
   else
    some q2) fun q5 =>
  lv (mget q6.1 q5 0) fun x113 =>
  ck (inb q3 q4.length) <|
  lv (stt q4 q3 x113) fun q9 =>
  ar (q3 + 1) fun x115 =>
  some (Sum.inl (q5, q9, x115, q6.2))
 else
  some (Sum.inr q4)
def P_rules_groups_3 (l_0 : List T_rules_shape) (q2 : Int) : Option (List Int) :=
 ck (mkOk 8 (l_0.length : Int)) <|
 lv ((List.replicate ((l_0.length : Int) : Int).toNat 0 : List Int)) fun q6 =>
 bd (
  lp (P_rules_groups_3_L3 q6) fuel (0, q6)) fun q5 =>
 bd (
  lp (P_rules_groups_3_L10 l_0 q2) fuel ([], 0, q5)) fun q4 =>
 ck (mkOk 8 (l_0.length : Int)) <|
 lv ((List.replicate ((l_0.length : Int) : Int).toNat 0 : List Int)) fun q7 =>
 bd (
  lp (P_rules_groups_3_L26 l_0) fuel ([], q7, 0, q4)) fun q3 =>
 some q3
theorem c_rules_groups_3 {w0 w : World} {l : List Assn} {ρ : Heap} {q0d : Option Addr} {q30 : Nat} {c_l_0 : Nat} {q3 : Nat} {l_0 : List T_rules_shape} {q5 : Int} {r : List Int} (hF : P_rules_groups_3 l_0 q5 = some r) (q2g : RdS R_rules_shape ρ q0d q30 c_l_0 l_0) (hS : St w0 w (cells q3 3 [.int .i64 q5] :: ro ρ :: l)) :
  Calls Try.prog 68 #[.slice q0d q30 c_l_0, .func (.func 72) #[] #[.pointer (some ⟨q3, 0, none⟩)]] w fun e w' => ∃ (q23 : Option Addr) (q1o : Nat) (c_y0_ret : Nat) (q22 : List Value), e = .returned (.slice q23 q1o c_y0_ret) ∧ RepL (RpI .i64) ρ r q22 ∧ St w0 w' (vec 3 (RpI .i64).sz (.slice q23 q1o c_y0_ret) q1o q22 :: cells q3 3 [.int .i64 q5] :: ro ρ :: l) := by
 have e_ := q2g.n; subst e_
 refine enterC Try.func68 rfl 117 rfl (by simp) ?_
 refine x_seq <| x_region <| p (yl_assign rfl) <| x_done <|
  x_seq <| x_region <| p (yl_move rfl) <| p (yl_len_slice usl_98 rfl) <| ?_
 replace hF := ck_s hF; obtain ⟨q47, hF⟩ := hF
 replace hF := lv_s hF; obtain ⟨q2, q48, hF⟩ := hF
 refine o_mk sl_22 zero_3 (show (RpI .i64).ok ρ _ 0 from rfl) rfl rfl q47 (by decide) q48 hS (fun A26 cs26 w' hr26 hS => ?_)
 refine o_alloc zero_22 hS (fun b5 w' hS => ?_)
 refine o_store1 (v := .slice A26 q2.length q2.length) one_22 rfl rfl rfl rfl hS (fun w' hS => ?_)
 refine x_done <| x_seq <| x_seq <| x_region <|
  pa (at_load one_22 rfl (hS.cell rfl)) <| p (yl_len_slice usl_22 rfl) <| p (yl_move rfl) <| x_done <| ?_
 replace hF := bd_s hF; obtain ⟨oL3, hLL3, hF⟩ := hF
 refine x_join (fun E w => ∃ (q0s : List Value) (q1g : List Int), q1g = oL3 ∧ E 0 = .slice q0d l_0.length c_l_0 ∧ E 1 = .func (.func 72) #[] #[.pointer (some ⟨q3, 0, none⟩)] ∧ E 5 = .pointer (some ⟨b5, 0, none⟩) ∧ RepL (RpI .i64) ρ q1g q0s ∧ St w0 w (cells q3 3 [.int .i64 q5] :: cells b5 22 [.slice A26 q2.length q2.length] :: vec 3 (RpI .i64).sz (.slice A26 q2.length q2.length) q2.length q0s :: ro ρ :: l)) ?_ ?_
 ·refine x_block ?_
  refine x_loop (fun k_ E w => ∃ (q0j : List Value) (q0h : Int) (q16 : List Int), lp (P_rules_groups_3_L3 q2) k_ (q0h, q16) = some oL3 ∧ E 0 = .slice q0d l_0.length c_l_0 ∧ E 1 = .func (.func 72) #[] #[.pointer (some ⟨q3, 0, none⟩)] ∧ E 5 = .pointer (some ⟨b5, 0, none⟩) ∧ E 28 = .int .i64 (q2.length : Int) ∧ E 29 = .int .i64 q0h ∧ RepL (RpI .i64) ρ q16 q0j ∧ St w0 w (cells q3 3 [.int .i64 q5] :: cells b5 22 [.slice A26 q2.length q2.length] :: vec 3 (RpI .i64).sz (.slice A26 q2.length q2.length) q2.length q0j :: ro ρ :: l)) fuel ⟨cs26, 0, q2, hLL3, rfl, rfl, rfl, rfl, rfl, hr26, ((((hS.pull 3).pull 2).pull 2).pull 3)⟩ ?_
  rintro kL3 E w ⟨q0j, q0h, q16, hLL3, q2j, q2k, q24, q2b, q1y, q17, hS⟩
  replace hLL3 := lp_s hLL3; obtain ⟨kL3, obL3, rfl, hFL3, hLL3⟩ := hLL3
  refine x_seq <| x_region <| p (yl_lss q1y q2b) <| x_done <|
   x_seq <|
   x_cond_p (q0h < (q2.length : Int)) rfl (fun hc30 => ?_) (fun hc30 => ?_)
  ·replace hFL3 := it_t hc30 hFL3
   replace hFL3 := ck_s hFL3; obtain ⟨q31, hFL3⟩ := hFL3
   refine x_skip <| x_seq <| x_block <| x_seq <|
    x_region <| p (yl_move q1y) <| p (yl_assign rfl) <| x_done <|
    x_region <| pa (at_load one_22 q24 ((hS.pull 1).cell rfl)) <| p (yl_move rfl) <| p (yl_move rfl) <|
    p (yix_o sl_22 rfl rfl (hS.pull 2) q17 q31) <| ?_
   replace hFL3 := lv_s hFL3; obtain ⟨q4n, q49, hFL3⟩ := hFL3
   refine o_put' (news := [.int .i64 q0h]) sz_3 rfl rfl rfl rfl (o := 0) rfl q31 rfl (hS.pull 2) q17 (Le.refl _) (fun c hc => ok_all hc (show (RpI .i64).ok ρ [.int .i64 q0h] q0h from rfl)) q49 (fun q4a w' q4b hS => ?_)
   replace hFL3 := ar_s hFL3; obtain ⟨x36, hx36, hFL3⟩ := hFL3
   refine x_done <| x_blk <| x_region <| p (yadd q1y rfl hx36) <|
    p (yl_move rfl) <| x_done <| ?_
   have e_ := sinj hFL3; subst e_
   exact x_inv ⟨kL3, Nat.lt_succ_self _, q4a, x36, q4n, hLL3, q2j, q2k, q24, q2b, rfl, q4b, ((((hS.pull 3).pull 1).pull 3).pull 3)⟩
  ·replace hFL3 := it_f hc30 hFL3
   refine x_exitTo _ rfl <| ?_
   have e_ := sinj hFL3; subst e_
   exact x_inv ⟨q0j, q16, hLL3, q2j, q2k, q24, q17, ((((hS.pull 3).pull 3).pull 3).pull 3)⟩
 rintro E w ⟨q0s, q1g, rfl, q32, q4c, q33, q2l, hS⟩
 refine x_seq <| x_region <| p (v := .func (.func 81) #[] #[.pointer (some ⟨b5, 0, none⟩)]) (yl_makeFunc (by simp only [List.map_toArray, List.map_nil]) (by simp only [List.map_toArray, List.map_cons, List.map_nil]; exact arr1 q33)) <| p (v := .func (.func 81) #[] #[.pointer (some ⟨b5, 0, none⟩)]) (yl_assign rfl) <|
  x_done <| x_seq <| x_region <| ?_
 refine o_mkmap (κ := T_rules_key) (α := Int) kf_146 (Value.int .i64) hS (fun b38 w' hS => ?_)
 refine p (yl_assign rfl) <| x_done <| x_seq <| x_seq <|
  x_region <| p (yl_move q32) <| p (yl_len_slice usl_98 rfl) <| p (yl_move rfl) <|
  x_done <| ?_
 replace hF := bd_s hF; obtain ⟨oL10, hLL10, hF⟩ := hF
 refine x_join (fun E w => ∃ (q0k : List Value) (q18 : List Int), q18 = oL10 ∧ E 0 = .slice q0d l_0.length c_l_0 ∧ E 7 = .func (.func 81) #[] #[.pointer (some ⟨b5, 0, none⟩)] ∧ RepL (RpI .i64) ρ q18 q0k ∧ St w0 w (cells b5 22 [.slice A26 q2.length q2.length] :: cells q3 3 [.int .i64 q5] :: vec 3 (RpI .i64).sz (.slice A26 q2.length q2.length) q2.length q0k :: ro ρ :: l)) ?_ ?_
 ·refine x_block ?_
  refine x_loop (fun k_ E w => ∃ (q0b : List Value) (q0l : List (T_rules_key × Int)) (q7 : Int) (q0n : List Int), lp (P_rules_groups_3_L10 l_0 q5) k_ (q0l, q7, q0n) = some oL10 ∧ E 0 = .slice q0d l_0.length c_l_0 ∧ E 1 = .func (.func 72) #[] #[.pointer (some ⟨q3, 0, none⟩)] ∧ E 5 = .pointer (some ⟨b5, 0, none⟩) ∧ E 7 = .func (.func 81) #[] #[.pointer (some ⟨b5, 0, none⟩)] ∧ E 8 = .map (some b38) ∧ E 39 = .slice q0d l_0.length c_l_0 ∧ E 40 = .int .i64 (l_0.length : Int) ∧ E 41 = .int .i64 q7 ∧ RepL (RpI .i64) ρ q0n q0b ∧ St w0 w (cells q3 3 [.int .i64 q5] :: cells b5 22 [.slice A26 q2.length q2.length] :: mapA b38 kf_146 (Value.int .i64) q0l :: vec 3 (RpI .i64).sz (.slice A26 q2.length q2.length) q2.length q0b :: ro ρ :: l)) fuel ⟨q0s, [], 0, q1g, hLL10, q32, q4c, q33, rfl, rfl, rfl, rfl, rfl, q2l, (((((hS.pull 4).pull 4).pull 2).pull 4).pull 4)⟩ ?_
  rintro kL10 E w ⟨q0b, q0l, q7, q0n, hLL10, q2c, q2d, q34, q2e, q35, q25, q26, q19, q1n, hS⟩
  replace hLL10 := lp_s hLL10; obtain ⟨kL10, obL10, rfl, hFL10, hLL10⟩ := hLL10
  refine x_seq <| x_region <| p (yl_lss q19 q26) <| x_done <|
   x_seq <|
   x_cond_p (q7 < (l_0.length : Int)) rfl (fun hc42 => ?_) (fun hc42 => ?_)
  ·replace hFL10 := it_t hc42 hFL10
   replace hFL10 := ck_s hFL10; obtain ⟨q2m, hFL10⟩ := hFL10
   replace hFL10 := lv_s hFL10; obtain ⟨q6, q3c, hFL10⟩ := hFL10
   have q_ := q2g.get q2m; obtain ⟨q4p, q2n, q3d⟩ := q_
   rw [← q3c] at q2n
   obtain ⟨q12, q4o, q13, rfl, q2f⟩ := q2n
   have e_ := q2f.n; subst e_
   refine x_skip <| x_seq <| x_block <| x_seq <|
    x_region <| p (yl_move q19) <| p (yix_f sl_98 q25 q19 q2g q2m) <| pa (v := .agg #[.int .i64 q6.fnet, .slice q12 q6.fspots.length q13, .bool q6.fwire, .int .i64 q6.fpin]) (at_loadAgg agg_122 rfl rfl (Elt.every q3d (hS.pull 4))) <| ?_
   refine o_alloc zero_122 hS (fun b10 w' hS => ?_)
   refine p (yl_assign rfl) <| ?_
   refine o_storeAgg (news := [.int .i64 q6.fnet, .slice q12 q6.fspots.length q13, .bool q6.fwire, .int .i64 q6.fpin]) agg_122 rfl rfl rfl (by simp [over_length]) hS (fun w' hS => ?_)
   replace hFL10 := bd_s hFL10; obtain ⟨q1h, q3e, hFL10⟩ := hFL10
   refine x_done <| x_seq <| x_region <| p (yl_move q2d) <|
    pa (v := .agg #[.int .i64 q6.fnet, .slice q12 q6.fspots.length q13, .bool q6.fwire, .int .i64 q6.fpin]) (ld_sub agg_122 rfl rfl rfl hS) <| ?_
   have hcall := c_rules_antenna_1 q3e q2f ((hS.pull 5).pull 2)
   refine o_ccv rfl call_72 (capargs (args1 rfl)) hcall ?_
   rintro e w' ⟨q1d, q3b, c_y0_ret_12_2, rfl, q0q, hS⟩
   refine ⟨_, rfl, ?_⟩
   have e_ := q0q.n; subst e_
   refine p (yl_len_slice usl_120 rfl) <| p (yl_move rfl) <| x_done <| ?_
   replace hFL10 := bd_s hFL10; obtain ⟨oL13, hLL13, hFL10⟩ := hFL10
   refine x_join (fun E w => ∃ (q0m : List Value) (q0t : List (T_rules_key × Int)) (q1a : List Int), (q0t, q1a) = oL13 ∧ E 0 = .slice q0d l_0.length c_l_0 ∧ E 1 = .func (.func 72) #[] #[.pointer (some ⟨q3, 0, none⟩)] ∧ E 5 = .pointer (some ⟨b5, 0, none⟩) ∧ E 7 = .func (.func 81) #[] #[.pointer (some ⟨b5, 0, none⟩)] ∧ E 8 = .map (some b38) ∧ E 39 = .slice q0d l_0.length c_l_0 ∧ E 40 = .int .i64 (l_0.length : Int) ∧ E 41 = .int .i64 q7 ∧ RepL (RpI .i64) ρ q1a q0m ∧ St w0 w (cells q3 3 [.int .i64 q5] :: cells b5 22 [.slice A26 q2.length q2.length] :: mapA b38 kf_146 (Value.int .i64) q0t :: vec 3 (RpI .i64).sz (.slice A26 q2.length q2.length) q2.length q0m :: ro ρ :: l)) ?_ ?_
   ·refine x_block ?_
    refine x_loop (fun k_ E w => ∃ (q0c : List Value) (q0e : List (T_rules_key × Int)) (q0w : Int) (q0o : List Int), lp (P_rules_groups_3_L13 q6 q1h q7) k_ (q0e, q0w, q0o) = some oL13 ∧ E 0 = .slice q0d l_0.length c_l_0 ∧ E 1 = .func (.func 72) #[] #[.pointer (some ⟨q3, 0, none⟩)] ∧ E 5 = .pointer (some ⟨b5, 0, none⟩) ∧ E 7 = .func (.func 81) #[] #[.pointer (some ⟨b5, 0, none⟩)] ∧ E 8 = .map (some b38) ∧ E 9 = .int .i64 q7 ∧ E 10 = .pointer (some ⟨b10, 0, none⟩) ∧ E 39 = .slice q0d l_0.length c_l_0 ∧ E 40 = .int .i64 (l_0.length : Int) ∧ E 41 = .int .i64 q7 ∧ E 48 = .slice q1d q1h.length c_y0_ret_12_2 ∧ E 49 = .int .i64 (q1h.length : Int) ∧ E 50 = .int .i64 q0w ∧ RepL (RpI .i64) ρ q0o q0c ∧ St w0 w (cells q3 3 [.int .i64 q5] :: cells b5 22 [.slice A26 q2.length q2.length] :: mapA b38 kf_146 (Value.int .i64) q0e :: cells b10 122 [.int .i64 q6.fnet, .slice q12 q6.fspots.length q13, .bool q6.fwire, .int .i64 q6.fpin] :: vec 3 (RpI .i64).sz (.slice A26 q2.length q2.length) q2.length q0c :: ro ρ :: l)) fuel ⟨q0b, q0l, 0, q0n, hLL13, q2c, q2d, q34, q2e, q35, rfl, rfl, q25, q26, q19, rfl, rfl, rfl, q1n, ((((((hS.pull 1).pull 5).pull 3).pull 5).pull 5).pull 5)⟩ ?_
    rintro kL13 E w ⟨q0c, q0e, q0w, q0o, hLL13, q1z, q20, q1i, q14, q15, q1j, q1p, q1q, q1r, q1s, q1t, q1u, q1b, q11, hS⟩
    replace hLL13 := lp_s hLL13; obtain ⟨kL13, obL13, rfl, hFL13, hLL13⟩ := hLL13
    refine x_seq <| x_region <| p (yl_lss q1b q1u) <| x_done <|
     x_seq <|
     x_cond_p (q0w < (q1h.length : Int)) rfl (fun hc51 => ?_) (fun hc51 => ?_)
    ·replace hFL13 := it_t hc51 hFL13
     refine x_skip <| x_seq <| ?_
     replace hFL13 := bd_s hFL13; obtain ⟨ob5, hFb5, hFL13⟩ := hFL13
     refine x_join (fun E w => ∃ (q0u : List Value) (q10 : List (T_rules_key × Int)) (q1k : List Int), (q10, q1k) = ob5 ∧ E 0 = .slice q0d l_0.length c_l_0 ∧ E 1 = .func (.func 72) #[] #[.pointer (some ⟨q3, 0, none⟩)] ∧ E 5 = .pointer (some ⟨b5, 0, none⟩) ∧ E 7 = .func (.func 81) #[] #[.pointer (some ⟨b5, 0, none⟩)] ∧ E 8 = .map (some b38) ∧ E 9 = .int .i64 q7 ∧ E 10 = .pointer (some ⟨b10, 0, none⟩) ∧ E 39 = .slice q0d l_0.length c_l_0 ∧ E 40 = .int .i64 (l_0.length : Int) ∧ E 41 = .int .i64 q7 ∧ E 48 = .slice q1d q1h.length c_y0_ret_12_2 ∧ E 49 = .int .i64 (q1h.length : Int) ∧ E 50 = .int .i64 q0w ∧ RepL (RpI .i64) ρ q1k q0u ∧ St w0 w (cells q3 3 [.int .i64 q5] :: cells b5 22 [.slice A26 q2.length q2.length] :: mapA b38 kf_146 (Value.int .i64) q10 :: cells b10 122 [.int .i64 q6.fnet, .slice q12 q6.fspots.length q13, .bool q6.fwire, .int .i64 q6.fpin] :: vec 3 (RpI .i64).sz (.slice A26 q2.length q2.length) q2.length q0u :: ro ρ :: l)) ?_ ?_
     ·replace hFb5 := ck_s hFb5; obtain ⟨q2o, hFb5⟩ := hFb5
      replace hFb5 := lv_s hFb5; obtain ⟨q4, q3f, hFb5⟩ := hFb5
      have q_ := q0q.get q2o; obtain ⟨q4q, q2p, q3g⟩ := q_
      rw [← q3f] at q2p
      have e_ := q2p; subst e_
      refine x_block <| x_seq <| x_region <| p (yix_f sl_120 q1t q1b q0q q2o) <|
       pa (v := .agg #[.int .i64 q4.Layer, .int .i64 q4.X, .int .i64 q4.Y]) (at_loadAgg agg_61 rfl rfl (Elt.every q3g (hS.pull 5))) <| ?_
      refine o_alloc zero_61 hS (fun b12 w' hS => ?_)
      refine o_storeAgg (news := [.int .i64 q4.Layer, .int .i64 q4.X, .int .i64 q4.Y]) agg_61 rfl rfl rfl (by simp [over_length]) hS (fun w' hS => ?_)
      refine x_done <| x_seq <| x_region <| p (yl_field0 fld_122_0 q1p) <|
       pa (at_load one_3 rfl ((hS.pull 4).cell rfl)) <| pa (v := .agg #[.int .i64 q4.Layer, .int .i64 q4.X, .int .i64 q4.Y]) (ld_sub agg_61 rfl rfl rfl hS) <| p (v := .agg #[.int .i64 q6.fnet, .int .i64 q4.Layer, .int .i64 q4.X, .int .i64 q4.Y]) (yl_build bld_146 bldf_146 (parts_eq (pt (va := .int .i64 q6.fnet) rfl (pt (va := .agg #[.int .i64 q4.Layer, .int .i64 q4.X, .int .i64 q4.Y]) rfl pt0))) (by kernel_rfl)) <| ?_
      refine o_alloc zero_146 hS (fun b13 w' hS => ?_)
      refine o_storeAgg (news := [.int .i64 q6.fnet, .int .i64 q4.Layer, .int .i64 q4.X, .int .i64 q4.Y]) agg_146 rfl rfl rfl (by simp [over_length]) hS (fun w' hS => ?_)
      replace hFb5 := lv_s hFb5; obtain ⟨x61, hx61, hFb5⟩ := hFb5
      replace hFb5 := lv_s hFb5; obtain ⟨q61, hq61, hFb5⟩ := hFb5
      refine x_done <| x_seq <| x_region <| p (yl_move q15) <|
       pa (v := .agg #[.int .i64 q6.fnet, .int .i64 q4.Layer, .int .i64 q4.X, .int .i64 q4.Y]) (ld_sub agg_146 rfl rfl rfl hS) <| pa (at_look2 (k := (T_rules_key.mk q6.fnet (T_rules_Spot.mk q4.Layer q4.X q4.Y))) um_144 kp_146 (zero1 zv_3) rfl rfl (hS.pull 4) hx61 hq61) <| p (yl_move rfl) <| p (yl_extract rfl rfl) <|
       p (yl_extract rfl rfl) <| p (yl_assign rfl) <| p (yl_assign rfl) <| x_done <|
       x_seq <| x_seq <| x_region <| p (yl_move rfl) <|
       p (yl_not rfl) <| x_done <|
       x_cond (t := !q61) rfl (fun hc65 => ?_) (fun hc65 => ?_)
      ·replace hFb5 := it_t hc65 hFb5
       refine x_seq <| x_region <| p (yl_move q15) <| pa (v := .agg #[.int .i64 q6.fnet, .int .i64 q4.Layer, .int .i64 q4.X, .int .i64 q4.Y]) (ld_sub agg_146 rfl rfl rfl hS) <|
        p (yl_move q1j) <| ?_
       replace hFb5 := lv_s hFb5; obtain ⟨q4d, q3h, hFb5⟩ := hFb5
       refine o_mapset (k := (T_rules_key.mk q6.fnet (T_rules_Spot.mk q4.Layer q4.X q4.Y))) (vf := (Value.int .i64)) (v := q7) um_144 kp_146 rfl rfl rfl (hS.pull 4) q3h (fun w' hS => ?_)
       refine x_done <| x_exitTo _ rfl <| ?_
       exact x_inv ⟨q0c, q4d, q0o, (sinj hFb5), q1z, q20, q1i, q14, q15, q1j, q1p, q1q, q1r, q1s, q1t, q1u, q1b, q11, ((((((((hS.pull 1).drop.pull 1).drop.pull 5).pull 5).pull 5).pull 3).pull 5).pull 5)⟩
      ·replace hFb5 := it_bf hc65 hFb5
       replace hFb5 := bd_s hFb5; obtain ⟨q4r, q3i, hFb5⟩ := hFb5
       refine x_skip <| x_seq <| x_region <| p (yl_move q14) <|
        p (yl_move q1j) <| ?_
       have hcall := c_rules_groups_1 q3i q11 (((hS.pull 7).pull 7).pull 5)
       refine o_ccv rfl call_81 (capargs (args1 rfl)) hcall ?_
       rintro e w' ⟨q2q, rfl, q1l, hS⟩
       refine ⟨_, rfl, ?_⟩
       replace hFb5 := bd_s hFb5; obtain ⟨q4s, q3j, hFb5⟩ := hFb5
       refine p (yl_move q14) <| p (yl_move rfl) <| ?_
       have hcall := c_rules_groups_1 q3j q1l (((hS.pull 2).pull 2).pull 2)
       refine o_ccv rfl call_81 (capargs (args1 rfl)) hcall ?_
       rintro e w' ⟨q2r, rfl, q0r, hS⟩
       refine ⟨_, rfl, ?_⟩
       replace hFb5 := lv_s hFb5; obtain ⟨x78, hx78, hFb5⟩ := hFb5
       replace hFb5 := lv_s hFb5; obtain ⟨x81, hx81, hFb5⟩ := hFb5
       replace hFb5 := ck_s hFb5; obtain ⟨q2s, hFb5⟩ := hFb5
       refine p (yl_assign rfl) <| p (yl_assign rfl) <| x_done <| x_region <|
        pa (at_load one_22 q1i (hS.cell rfl)) <| p (yl_move rfl) <| p (yl_move rfl) <| p (ymax' rfl rfl hx78) <|
        p (yl_move rfl) <| p (yl_move rfl) <| p (ymin' rfl rfl hx81) <| p (yix_o sl_22 rfl rfl (hS.pull 1) q0r q2s) <| ?_
       replace hFb5 := lv_s hFb5; obtain ⟨q4e, q3k, hFb5⟩ := hFb5
       refine o_put' (news := [.int .i64 x81]) sz_3 rfl rfl rfl rfl (o := 0) rfl q2s rfl (hS.pull 1) q0r (Le.refl _) (fun c hc => ok_all hc (show (RpI .i64).ok ρ [.int .i64 x81] x81 from rfl)) q3k (fun q3l w' q3m hS => ?_)
       refine x_done <| x_blk <| ?_
       exact x_inv ⟨q3l, q0e, q4e, (sinj hFb5), q1z, q20, q1i, q14, q15, q1j, q1p, q1q, q1r, q1s, q1t, q1u, q1b, q3m, ((((((((hS.pull 3).drop.pull 3).drop.pull 2).pull 1).pull 5).pull 5).pull 4).pull 5)⟩
     rintro E w ⟨q0u, q10, q1k, rfl, q4f, q4g, q4h, q4i, q4j, q4k, q3n, q3o, q3p, q3q, q3r, q3s, q3t, q2t, hS⟩
     replace hFL13 := ar_s hFL13; obtain ⟨x83, hx83, hFL13⟩ := hFL13
     refine x_region <| p (yadd q3t rfl hx83) <| p (yl_move rfl) <| x_done <| ?_
     have e_ := sinj hFL13; subst e_
     exact x_inv ⟨kL13, Nat.lt_succ_self _, q0u, q10, x83, q1k, hLL13, q4f, q4g, q4h, q4i, q4j, q4k, q3n, q3o, q3p, q3q, q3r, q3s, rfl, q2t, ((((((hS.pull 5).pull 5).pull 5).pull 5).pull 5).pull 5)⟩
    ·replace hFL13 := it_f hc51 hFL13
     refine x_exitTo _ rfl <| ?_
     have e_ := sinj hFL13; subst e_
     exact x_inv ⟨q0c, q0e, q0o, hLL13, q1z, q20, q1i, q14, q15, q1q, q1r, q1s, q11, ((((((hS.pull 3).drop.pull 4).pull 4).pull 4).pull 4).pull 4)⟩
   rintro E w ⟨q0m, q0t, q1a, rfl, q3u, q3v, q3w, q3x, q3y, q36, q37, q38, q2h, hS⟩
   replace hFL10 := ar_s hFL10; obtain ⟨x84, hx84, hFL10⟩ := hFL10
   refine x_blk <| x_region <| p (yadd q38 rfl hx84) <| p (yl_move rfl) <|
    x_done <| ?_
   have e_ := sinj hFL10; subst e_
   exact x_inv ⟨kL10, Nat.lt_succ_self _, q0m, q0t, x84, q1a, hLL10, q3u, q3v, q3w, q3x, q3y, q36, q37, rfl, q2h, (((((hS.pull 4).pull 4).pull 4).pull 4).pull 4)⟩
  ·replace hFL10 := it_f hc42 hFL10
   refine x_exitTo _ rfl <| ?_
   have e_ := sinj hFL10; subst e_
   exact x_inv ⟨q0b, q0n, hLL10, q2c, q2e, q1n, (((((hS.pull 2).drop.pull 3).pull 3).pull 2).pull 3)⟩
 rintro E w ⟨q0k, q18, rfl, q2u, q3z, q2i, hS⟩
 refine x_seq <| x_region <| ?_
 refine o_mkmap (κ := Int) (α := Int) (Value.int .i64) (Value.int .i64) hS (fun b85 w' hS => ?_)
 refine p (yl_assign rfl) <| x_done <| x_seq <| x_region <|
  p (yl_move q2u) <| p (yl_len_slice usl_98 rfl) <| ?_
 replace hF := ck_s hF; obtain ⟨q40, hF⟩ := hF
 replace hF := lv_s hF; obtain ⟨q8, q41, hF⟩ := hF
 refine o_mk sl_22 zero_3 (show (RpI .i64).ok ρ _ 0 from rfl) rfl rfl q40 (by decide) q41 hS (fun A88 cs88 w' hr88 hS => ?_)
 refine p (yl_assign rfl) <| x_done <| x_seq <| x_seq <|
  x_region <| p (yl_move q2u) <| p (yl_len_slice usl_98 rfl) <| p (yl_move rfl) <|
  x_done <| ?_
 replace hF := bd_s hF; obtain ⟨oL26, hLL26, hF⟩ := hF
 refine x_join (fun E w => ∃ (q0g : List Value) (q1e : List Int), q1e = oL26 ∧ E 19 = .slice A88 q8.length q8.length ∧ RepL (RpI .i64) ρ q1e q0g ∧ St w0 w (vec 3 (RpI .i64).sz (.slice A88 q8.length q8.length) q8.length q0g :: cells q3 3 [.int .i64 q5] :: ro ρ :: l)) ?_ ?_
 ·refine x_block ?_
  refine x_loop (fun k_ E w => ∃ (q9 : List Value) (q0x : List Value) (q0a : List (Int × Int)) (q0v : List Int) (q0i : Int) (q1f : List Int), lp (P_rules_groups_3_L26 l_0) k_ (q0a, q0v, q0i, q1f) = some oL26 ∧ E 7 = .func (.func 81) #[] #[.pointer (some ⟨b5, 0, none⟩)] ∧ E 18 = .map (some b85) ∧ E 19 = .slice A88 q8.length q8.length ∧ E 90 = .int .i64 (l_0.length : Int) ∧ E 91 = .int .i64 q0i ∧ RepL (RpI .i64) ρ q0v q9 ∧ RepL (RpI .i64) ρ q1f q0x ∧ St w0 w (cells b5 22 [.slice A26 q2.length q2.length] :: mapA b85 (Value.int .i64) (Value.int .i64) q0a :: vec 3 (RpI .i64).sz (.slice A88 q8.length q8.length) q8.length q9 :: cells q3 3 [.int .i64 q5] :: vec 3 (RpI .i64).sz (.slice A26 q2.length q2.length) q2.length q0x :: ro ρ :: l)) fuel ⟨cs88, q0k, [], q8, 0, q18, hLL26, q3z, rfl, rfl, rfl, rfl, hr88, q2i, ((((((hS.pull 5).pull 5).pull 5).pull 3).pull 4).pull 5)⟩ ?_
  rintro kL26 E w ⟨q9, q0x, q0a, q0v, q0i, q1f, hLL26, q21, q0y, q1v, q1w, q1c, q0z, q29, hS⟩
  replace hLL26 := lp_s hLL26; obtain ⟨kL26, obL26, rfl, hFL26, hLL26⟩ := hLL26
  refine x_seq <| x_region <| p (yl_lss q1c q1w) <| x_done <|
   x_seq <|
   x_cond_p (q0i < (l_0.length : Int)) rfl (fun hc92 => ?_) (fun hc92 => ?_)
  ·replace hFL26 := it_t hc92 hFL26
   replace hFL26 := bd_s hFL26; obtain ⟨q1x, q42, hFL26⟩ := hFL26
   refine x_skip <| x_seq <| x_block <| x_seq <|
    x_region <| p (yl_move q1c) <| p (yl_assign rfl) <| x_done <|
    x_seq <| x_region <| p (yl_move q21) <| p (yl_move rfl) <| ?_
   have hcall := c_rules_groups_1 q42 q29 (((hS.pull 5).pull 5).pull 2)
   refine o_ccv rfl call_81 (capargs (args1 rfl)) hcall ?_
   rintro e w' ⟨q0p, rfl, q1m, hS⟩
   refine ⟨_, rfl, ?_⟩
   replace hFL26 := lv_s hFL26; obtain ⟨x100, hx100, hFL26⟩ := hFL26
   replace hFL26 := lv_s hFL26; obtain ⟨q100, hq100, hFL26⟩ := hFL26
   refine p (yl_assign rfl) <| x_done <| x_seq <| x_seq <|
    x_region <| p (yl_move q0y) <| p (yl_move rfl) <| pa (at_look2 (k := q1x.1) um_131 (KeyP.int ui_3) (zero1 zv_3) rfl rfl (hS.pull 3) hx100 hq100) <|
    p (yl_move rfl) <| p (yl_extract rfl rfl) <| p (yl_extract rfl rfl) <| p (yl_assign rfl) <|
    p (yl_assign rfl) <| x_done <| x_seq <| x_region <|
    p (yl_move rfl) <| p (yl_not rfl) <| x_done <| ?_
   replace hFL26 := bd_s hFL26; obtain ⟨oc104, hFc104, hFL26⟩ := hFL26
   refine x_join (fun E w => ∃ (q0f : List (Int × Int)), q0f = oc104 ∧ E 7 = .func (.func 81) #[] #[.pointer (some ⟨b5, 0, none⟩)] ∧ E 18 = .map (some b85) ∧ E 19 = .slice A88 q8.length q8.length ∧ E 20 = .int .i64 q0i ∧ E 21 = .int .i64 q1x.1 ∧ E 90 = .int .i64 (l_0.length : Int) ∧ E 91 = .int .i64 q0i ∧ St w0 w (cells b5 22 [.slice A26 q2.length q2.length] :: mapA b85 (Value.int .i64) (Value.int .i64) q0f :: vec 3 (RpI .i64).sz (.slice A88 q8.length q8.length) q8.length q9 :: cells q3 3 [.int .i64 q5] :: vec 3 (RpI .i64).sz (.slice A26 q2.length q2.length) q2.length q0p :: ro ρ :: l)) ?_ ?_
   ·refine x_cond (t := !q100) rfl (fun hc104 => ?_) (fun hc104 => ?_)
    ·replace hFc104 := it_t hc104 hFc104
     refine x_region <| p (yl_move q0y) <| p (yl_move rfl) <| p (yl_move q0y) <|
      pa (at_lenm um_131 rfl (hS.pull 3)) <| ?_
     replace hFc104 := lv_s hFc104; obtain ⟨q4l, q43, hFc104⟩ := hFc104
     refine o_mapset (k := q1x.1) (vf := (Value.int .i64)) (v := (q0a.length : Int)) um_131 (KeyP.int ui_3) rfl rfl rfl (hS.pull 3) q43 (fun w' hS => ?_)
     refine x_done <| ?_
     exact x_inv ⟨q4l, (sinj hFc104), q21, q0y, q1v, rfl, rfl, q1w, q1c, ((((((hS.pull 3).pull 3).pull 5).pull 5).pull 4).pull 5)⟩
    ·replace hFc104 := it_bf hc104 hFc104
     refine x_skip <| ?_
     exact x_inv ⟨q0a, (sinj hFc104), q21, q0y, q1v, rfl, rfl, q1w, q1c, ((((((hS.pull 2).pull 2).pull 5).pull 5).pull 5).pull 5)⟩
   rintro E w ⟨q0f, rfl, q39, q27, q28, q2w, q2x, q2y, q2z, hS⟩
   replace hFL26 := lv_s hFL26; obtain ⟨x113, hx113, hFL26⟩ := hFL26
   replace hFL26 := ck_s hFL26; obtain ⟨q2v, hFL26⟩ := hFL26
   refine x_region <| p (yl_move q28) <| p (yl_move q2w) <| p (yl_move q27) <|
    p (yl_move q2x) <| pa (at_look (k := q1x.1) um_131 (KeyP.int ui_3) (zero1 zv_3) rfl rfl (hS.pull 1) hx113) <| p (yix_o sl_22 rfl rfl (hS.pull 2) q0z q2v) <| ?_
   replace hFL26 := lv_s hFL26; obtain ⟨q4m, q44, hFL26⟩ := hFL26
   refine o_put' (news := [.int .i64 x113]) sz_3 rfl rfl rfl rfl (o := 0) rfl q2v rfl (hS.pull 2) q0z (Le.refl _) (fun c hc => ok_all hc (show (RpI .i64).ok ρ [.int .i64 x113] x113 from rfl)) q44 (fun q45 w' q46 hS => ?_)
   replace hFL26 := ar_s hFL26; obtain ⟨x115, hx115, hFL26⟩ := hFL26
   refine x_done <| x_blk <| x_region <| p (yadd q2z rfl hx115) <|
    p (yl_move rfl) <| x_done <| ?_
   have e_ := sinj hFL26; subst e_
   exact x_inv ⟨kL26, Nat.lt_succ_self _, q45, q0p, q0f, q4m, x115, q1x.2, hLL26, q39, q27, q28, q2y, rfl, q46, q1m, ((((((hS.pull 5).pull 5).pull 5).pull 3).pull 5).pull 5)⟩
  ·replace hFL26 := it_f hc92 hFL26
   refine x_exitTo _ rfl <| ?_
   have e_ := sinj hFL26; subst e_
   exact x_inv ⟨q9, q0v, hLL26, q1v, q0z, ((((hS.drop.drop.pull 2).drop.pull 2).pull 2).pull 2)⟩
 rintro E w ⟨q0g, q1e, rfl, q3a, q2a, hS⟩
 refine x_seq <| x_region <| p (yl_move q3a) <| p (yl_assign rfl) <|
  x_done <| ?_
 have e_ := sinj hF; subst e_
 exact x_return ⟨_, ⟨_, _, rfl, rfl, rfl⟩, A88, q8.length, q8.length, q0g, rfl, q2a, (((hS.pull 2).pull 2).pull 2)⟩
attribute [irreducible] P_rules_groups_3


end Go.Proofs.Ytnnmbmgnpdcefaa.X
