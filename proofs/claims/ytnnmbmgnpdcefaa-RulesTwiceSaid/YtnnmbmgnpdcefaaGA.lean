/- Printed by gen.py: plain functions, and that the Go code computes them. -/
import Derived.Test.YtnnmbmgnpdcefaaYJ
import Derived.Test.YtnnmbmgnpdcefaaXI
import Derived.Test.YtnnmbmgnpdcefaaXP
import Derived.Test.YtnnmbmgnpdcefaaYX
import Derived.Test.YtnnmbmgnpdcefaaYU
import Derived.Test.YtnnmbmgnpdcefaaXT
import Derived.Test.YtnnmbmgnpdcefaaGAp0
import Derived.Test.YtnnmbmgnpdcefaaGAp1
import Derived.Test.YtnnmbmgnpdcefaaGAp2
namespace Go.Proofs.Ytnnmbmgnpdcefaa.X
set_option maxHeartbeats 4000000
set_option maxRecDepth 100000
open Go Go.RowKit
set_option linter.unusedVariables false
set_option linter.unusedSimpArgs false

def P_maskkeep4_ruled : Nd Bool :=
 nbd (P_rules_Faults (T_rules_Layout.mk 5 3 1 1 [] [] ([(T_rules_Pin.mk 0 1 1 false 0), (T_rules_Pin.mk 0 3 1 false 0)] : List T_rules_Pin) [])) fun q2 =>
 nlv ((decide (q2.2 = 0)) && (decide ((q2.1.length : Int) = 1))) fun x19 =>
 nck (x19 = true → inb 0 q2.1.length) <|
 nlv (x19 && (decide (((gt q2.1 (0 : Int)).Kind) = 5))) fun x26 =>
 nret x26
theorem c_maskkeep4_ruled {w0 w : World} {l : List Assn} {ρ : Heap} {Q : Bool → Prop} (hF : P_maskkeep4_ruled Q) (hS : St w0 w (ro ρ :: l)) :
  Calls Try.prog 22 #[] w fun e w' => ∃ r : Bool, Q r ∧ e = .returned (.bool r) ∧ St w0 w' (ro ρ :: l) := by
 refine enterC Try.func22 rfl 27 rfl (by simp) ?_
 refine x_seq <| x_region <| p (yl_assign rfl) <| x_done <|
  x_seq <| x_region <| p (v := .agg #[.int .i64 0, .int .i64 1, .int .i64 1, .bool false, .int .i64 0]) (yl_build bld_39 bldf_39 (parts_eq (pt (va := .int .i64 1) rfl (pt (va := .int .i64 1) rfl pt0))) (by kernel_rfl)) <| p (v := .agg #[.int .i64 0, .int .i64 3, .int .i64 1, .bool false, .int .i64 0]) (yl_build bld_39 bldf_39 (parts_eq (pt (va := .int .i64 3) rfl (pt (va := .int .i64 1) rfl pt0))) (by kernel_rfl)) <| ?_
 refine o_buildSlice (vs := [.agg #[.int .i64 0, .int .i64 1, .int .i64 1, .bool false, .int .i64 0], .agg #[.int .i64 0, .int .i64 3, .int .i64 1, .bool false, .int .i64 0]]) (cs := [.int .i64 0, .int .i64 1, .int .i64 1, .bool false, .int .i64 0, .int .i64 0, .int .i64 3, .int .i64 1, .bool false, .int .i64 0]) sl_28 zero_39 (parts_eq (pt (va := .agg #[.int .i64 0, .int .i64 1, .int .i64 1, .bool false, .int .i64 0]) rfl (pt (va := .agg #[.int .i64 0, .int .i64 3, .int .i64 1, .bool false, .int .i64 0]) rfl pt0))) rfl (by intro v hv; simp only [List.mem_cons, List.not_mem_nil, or_false] at hv; first | (subst hv; rfl) | (rcases hv with rfl | rfl <;> rfl)) (by decide) rfl hS (fun b6 w' hS => ?_)
 refine p (v := .agg #[.int .i64 5, .int .i64 3, .int .i64 1, .int .i64 1, .slice none 0 0, .slice none 0 0, .slice (some ⟨b6, 0, none⟩) 2 2, .slice none 0 0]) (yl_build bld_31 bldf_31 (parts_eq (pt (va := .int .i64 5) rfl (pt (va := .int .i64 3) rfl (pt (va := .int .i64 1) rfl (pt (va := .int .i64 1) rfl (pt (va := .slice (some ⟨b6, 0, none⟩) 2 2) rfl pt0)))))) (by kernel_rfl)) <| ?_
 refine o_alloc zero_31 hS (fun b1 w' hS => ?_)
 refine o_storeAgg (news := [.int .i64 5, .int .i64 3, .int .i64 1, .int .i64 1, .slice none 0 0, .slice none 0 0, .slice (some ⟨b6, 0, none⟩) 2 2, .slice none 0 0]) agg_31 rfl rfl rfl (by simp [over_length]) hS (fun w' hS => ?_)
 refine x_done <| x_seq <| x_region <| pa (v := .agg #[.int .i64 5, .int .i64 3, .int .i64 1, .int .i64 1, .slice none 0 0, .slice none 0 0, .slice (some ⟨b6, 0, none⟩) 2 2, .slice none 0 0]) (ld_sub agg_31 rfl rfl rfl hS) <| ?_
 have q8 : RepL R_rules_Pin ρ ([(T_rules_Pin.mk 0 1 1 false 0), (T_rules_Pin.mk 0 3 1 false 0)] : List T_rules_Pin) [.int .i64 0, .int .i64 1, .int .i64 1, .bool false, .int .i64 0, .int .i64 0, .int .i64 3, .int .i64 1, .bool false, .int .i64 0] := (RepL.cons (cs := [.int .i64 0, .int .i64 1, .int .i64 1, .bool false, .int .i64 0]) rfl (RepL.cons (cs := [.int .i64 0, .int .i64 3, .int .i64 1, .bool false, .int .i64 0]) rfl RepL.nil))
 replace hS := St.vec_of (n := 2) (sz := R_rules_Pin.sz) (hS.pull 1) rfl (by decide)
 have q_ := St.lend ((hS.pull 2).pull 1) q8; obtain ⟨ρl0, hll0, hlf0, hS0, back0⟩ := q_
 have hcall := c_rules_Faults (nbd_c hF) (RdS.nil (A := none) (c := 0)) (RdS.nil (A := none) (c := 0)) hlf0 (RdS.nil (A := none) (c := 0)) hS0
 refine o_cc call_21 (args1 rfl) hcall ?_
 rintro e w' ⟨q4, hF, q3, q7, c_y0_ret_2_1, q5, rfl, q2, hS⟩
 refine ⟨_, rfl, ?_⟩
 replace hS := back0 (hS.pull 1)
 replace q2 : RepL R_rules_Fault ρ q4.1 q5 := RepL.flat (fun h => h) q2
 have e_ := St.vec_n (hS.pull 2) q2; subst e_
 replace hF := nlv_s hF; obtain ⟨x19, hx19, hF⟩ := hF
 replace hF := nck_s hF; obtain ⟨q6, hF⟩ := hF
 replace hF := nlv_s hF; obtain ⟨x26, hx26, hF⟩ := hF
 refine p (yl_move rfl) <| p (yl_extract rfl rfl) <| p (yl_extract rfl rfl) <| p (yl_assign rfl) <|
  p (yl_assign rfl) <| x_done <| x_seq <| x_region <|
  p (yl_move rfl) <| p (yl_eql rfl rfl) <| p (yl_move rfl) <| pg (v := .slice q3 q4.1.length c_y0_ret_2_1) 15 (c := decide (q4.2 = 0)) (says_t _) (fun hq => Yl.at (yl_move rfl)) <|
  pg (v := .int .i64 (q4.1.length : Int)) 15 (c := decide (q4.2 = 0)) (says_t _) (fun hq => Yl.at (yl_len_slice usl_56 (cv hq))) <| pg (v := .bool (decide ((q4.1.length : Int) = 1))) 15 (c := decide (q4.2 = 0)) (says_t _) (fun hq => Yl.at (yl_eql (cv hq) rfl)) <| p (yand' rfl (fun hc => (cv hc)) rfl hx19) <| p (yl_move rfl) <|
  pg (v := .slice q3 q4.1.length c_y0_ret_2_1) 20 (c := x19) (says_t _) (fun hq => Yl.at (yl_move rfl)) <| pg (v := .pointer (some ((adr q3).add ((0 : Int).toNat * R_rules_Fault.sz)))) 20 (c := x19) (says_t _) (fun hq => Yl.at (yix_o sl_56 (cv hq) rfl (hS.pull 2) q2 (q6 hq))) <| pg (v := .pointer (some (((adr q3).add ((0 : Int).toNat * R_rules_Fault.sz)).add 0))) 20 (c := x19) (says_t _) (fun hq => Yl.at (yl_fieldAddr fld_63_0 (cv hq))) <| pg (v := .int .i64 ((gt q4.1 (0 : Int)).Kind)) 20 (c := x19) (says_t _) (fun hq => (by obtain ⟨el, ek, ee⟩ := q2.get (q6 hq); obtain rfl := ek; exact at_load one_3 (cv hq) (EltV.ld (m := 0) ee (hS.pull 2) rfl))) <|
  pg (v := .bool (decide (((gt q4.1 (0 : Int)).Kind) = 5))) 20 (c := x19) (says_t _) (fun hq => Yl.at (yl_eql (cv hq) rfl)) <| p (yand' rfl (fun hc => (cv hc)) rfl hx26) <| p (yl_assign rfl) <| x_done <| ?_
 exact x_return ⟨_, ⟨_, _, rfl, rfl, rfl⟩, x26, hF, rfl, (((hS.drop.pull 1).drop.pull 1).drop)⟩
attribute [irreducible] P_maskkeep4_ruled

def P_slices_Clone_rules_Wire_rules_Wire (s0 : List T_rules_Wire) : Option (List T_rules_Wire) :=
 lv (([] : List T_rules_Wire) ++ s0) fun q2 =>
 ck (apOk 48 q2.length) <|
 some q2
theorem c_slices_Clone_rules_Wire_rules_Wire {w0 w : World} {l : List Assn} {ρ : Heap} {q6 : Option Addr} {q8 : Nat} {c_s0 : Nat} {s0 : List T_rules_Wire} {r : List T_rules_Wire} (hF : P_slices_Clone_rules_Wire_rules_Wire s0 = some r) (q7 : RdS R_rules_Wire ρ q6 q8 c_s0 s0) (hS : St w0 w (ro ρ :: l)) :
  Calls Try.prog 13 #[.slice q6 q8 c_s0] w fun e w' => ∃ (q5 : Option Addr) (q2 : Nat) (c_y0_ret : Nat) (q3 : List Value), e = .returned (.slice q5 q2 c_y0_ret) ∧ RepL R_rules_Wire ρ r q3 ∧ St w0 w' (vec 44 R_rules_Wire.sz (.slice q5 q2 c_y0_ret) q2 q3 :: ro ρ :: l) := by
 have e_ := q7.n; subst e_
 refine enterC Try.func13 rfl 8 rfl (by simp) ?_
 refine x_seq <| x_region <| p (yl_assign rfl) <| x_done <|
  x_seq <| x_seq <| x_region <| p (yl_move rfl) <|
  p (yeq_nil usl_26 rfl rfl) <| x_done <|
  x_cond (t := Option.isNone q6) rfl (fun hc4 => ?_) (fun hc4 => ?_)
 ·have hx0 : s0 = [] := RdS.nil_of q7 hc4
  have hF : some ([] : List T_rules_Wire) = some r := by rw [hx0] at hF; unfold P_slices_Clone_rules_Wire_rules_Wire at hF; simpa [lv, ck, apOk] using hF
  refine x_seq <| x_region <| p (yl_assign rfl) <| x_done <| ?_
  replace hS := St.vec_nil hS 44 R_rules_Wire.sz
  have q4 : RepL R_rules_Wire ρ [] [] := rfl
  have e_ := sinj hF; subst e_
  exact x_return ⟨_, ⟨_, _, rfl, rfl, rfl⟩, none, 0, 0, [], rfl, q4, ((hS.pull 1).pull 1)⟩
 ·skip
  refine x_skip <| x_seq <| x_region <| ?_
  refine o_buildSlice (vs := []) (cs := []) sl_26 zero_44 (parts_eq pt0) rfl (by intro v hv; cases hv) (by decide) rfl hS (fun b5 w' hS => ?_)
  refine p (yl_move rfl) <| ?_
  have q9 : RepL R_rules_Wire ρ ([] : List T_rules_Wire) [] := RepL.nil
  replace hS := St.vec_of (n := 0) (sz := R_rules_Wire.sz) hS rfl (by decide)
  have q_ := src_f usl_26 (hS.pull 1) q7; obtain ⟨nw7, hnw7, src7⟩ := q_
  replace hF := lv_s hF; obtain ⟨q0c, q0a, hF⟩ := hF
  replace hF := ck_s hF; obtain ⟨q0b, hF⟩ := hF
  refine o_ap sl_26 zero_44 rfl (by decide) rfl rfl hS q9 src7 hnw7 q0a q0b (fun A7 c7 cs7 w' hr7 hS => ?_)
  refine p (yl_assign rfl) <| x_done <| ?_
  have e_ := sinj hF; subst e_
  exact x_return ⟨_, ⟨_, _, rfl, rfl, rfl⟩, A7, q0c.length, c7, cs7, rfl, hr7, ((hS.pull 1).pull 1)⟩
attribute [irreducible] P_slices_Clone_rules_Wire_rules_Wire

def P_slices_Equal_rules_Fault_rules_Fault_L4 (s10 : List T_rules_Fault) (s21 : List T_rules_Fault) : Int → Option (Int ⊕ (Unit ⊕ Bool)) := fun q2 =>
 if q2 < (s10.length : Int) then
  ck (inb q2 s10.length) <|
  lv (gt s10 q2) fun q3 =>
  ck (inb q2 s21.length) <|
  lv (gt s21 q2) fun q4 =>
  lv (!decide (q3 = q4)) fun x24 =>
  if x24 = true then
   some (Sum.inr (Sum.inr false))
  else
   ar (q2 + 1) fun x25 =>
   some (Sum.inl x25)
 else
  some (Sum.inr (Sum.inl ()))
def P_slices_Equal_rules_Fault_rules_Fault (s10 : List T_rules_Fault) (s21 : List T_rules_Fault) : Option Bool :=
 if (s10.length : Int) ≠ (s21.length : Int) then
  some false
 else
  bs (
   lp (P_slices_Equal_rules_Fault_rules_Fault_L4 s10 s21) fuel 0) (fun y => some y) fun _ =>
  some true
theorem c_slices_Equal_rules_Fault_rules_Fault {w0 w : World} {l : List Assn} {ρ : Heap} {q7 : Option Addr} {q0d : Nat} {c_s10 : Nat} {q8 : Option Addr} {q0e : Nat} {c_s21 : Nat} {s10 : List T_rules_Fault} {s21 : List T_rules_Fault} {r : Bool} (hF : P_slices_Equal_rules_Fault_rules_Fault s10 s21 = some r) (q9 : RdS R_rules_Fault ρ q7 q0d c_s10 s10) (q0a : RdS R_rules_Fault ρ q8 q0e c_s21 s21) (hS : St w0 w (ro ρ :: l)) :
  Calls Try.prog 23 #[.slice q7 q0d c_s10, .slice q8 q0e c_s21] w fun e w' => e = .returned (.bool r) ∧ St w0 w' (ro ρ :: l) := by
 have e_ := q9.n; subst e_
 have e_ := q0a.n; subst e_
 refine enterC Try.func23 rfl 26 rfl (by simp) ?_
 refine x_seq <| x_region <| p (yl_assign rfl) <| x_done <|
  x_seq <| x_seq <| x_region <| p (yl_move rfl) <|
  p (yl_len_slice usl_56 rfl) <| p (yl_move rfl) <| p (yl_len_slice usl_56 rfl) <| p (yl_neq rfl rfl) <|
  x_done <|
  x_cond_p ((s10.length : Int) ≠ (s21.length : Int)) rfl (fun hc10 => ?_) (fun hc10 => ?_)
 ·replace hF := it_t hc10 hF
  refine x_seq <| x_region <| p (yl_assign rfl) <| x_done <| ?_
  have e_ := sinj hF; subst e_
  exact x_return ⟨_, ⟨_, _, rfl, rfl, rfl⟩, rfl, hS⟩
 ·replace hF := it_f hc10 hF
  refine x_skip <| x_seq <| x_seq <| x_region <|
   p (yl_move rfl) <| p (yl_len_slice usl_56 rfl) <| p (yl_move rfl) <| x_done <| ?_
  replace hF := bs_s hF; obtain ⟨oL4, hLL4, hF⟩ := hF
  refine x_join (fun E w => (Sum.inl (())) = oL4 ∧ St w0 w (ro ρ :: l)) ?_ ?_
  ·refine x_block ?_
   refine x_loop (fun k_ E w => ∃ (q2 : Int), lp (P_slices_Equal_rules_Fault_rules_Fault_L4 s10 s21) k_ q2 = some oL4 ∧ E 0 = .slice q7 s10.length c_s10 ∧ E 1 = .slice q8 s21.length c_s21 ∧ E 12 = .int .i64 (s10.length : Int) ∧ E 13 = .int .i64 q2 ∧ St w0 w (ro ρ :: l)) fuel ⟨0, hLL4, rfl, rfl, rfl, rfl, hS⟩ ?_
   rintro kL4 E w ⟨q2, hLL4, q0b, q0c, q6, q5, hS⟩
   replace hLL4 := lp_s hLL4; obtain ⟨kL4, obL4, rfl, hFL4, hLL4⟩ := hLL4
   refine x_seq <| x_region <| p (yl_lss q5 q6) <| x_done <|
    x_seq <|
    x_cond_p (q2 < (s10.length : Int)) rfl (fun hc14 => ?_) (fun hc14 => ?_)
   ·replace hFL4 := it_t hc14 hFL4
    replace hFL4 := ck_s hFL4; obtain ⟨q0f, hFL4⟩ := hFL4
    replace hFL4 := lv_s hFL4; obtain ⟨q3, q0j, hFL4⟩ := hFL4
    have q_ := q9.get q0f; obtain ⟨q0n, q0g, q0k⟩ := q_
    rw [← q0j] at q0g
    have e_ := q0g; subst e_
    replace hFL4 := ck_s hFL4; obtain ⟨q0h, hFL4⟩ := hFL4
    replace hFL4 := lv_s hFL4; obtain ⟨q4, q0l, hFL4⟩ := hFL4
    have q_ := q0a.get q0h; obtain ⟨q0o, q0i, q0m⟩ := q_
    rw [← q0l] at q0i
    have e_ := q0i; subst e_
    replace hFL4 := lv_s hFL4; obtain ⟨x24, hx24, hFL4⟩ := hFL4
    refine x_skip <| x_seq <| x_block <| x_seq <|
     x_region <| p (yl_move q5) <| p (yl_assign rfl) <| x_done <|
     x_seq <| x_still mixed (by kernel_rfl) hS <| q (yl_move q0b) <| q (yl_move rfl) <|
     q (yix_f sl_56 rfl rfl q9 q0f) <| qa (v := .agg #[.int .i64 q3.Kind, .int .i64 q3.Net, .int .i64 q3.Other, .int .i64 q3.At.Layer, .int .i64 q3.At.X, .int .i64 q3.At.Y]) (fun w' hS => at_loadAgg agg_63 rfl rfl (Elt.every q0k hS)) <| q (yl_move q0c) <| q (yl_move rfl) <|
     q (yix_f sl_56 rfl rfl q0a q0h) <| qa (v := .agg #[.int .i64 q4.Kind, .int .i64 q4.Net, .int .i64 q4.Other, .int .i64 q4.At.Layer, .int .i64 q4.At.X, .int .i64 q4.At.Y]) (fun w' hS => at_loadAgg agg_63 rfl rfl (Elt.every q0m hS)) <| q (yneI (a := q3) (b := q4) eqi_63 rfl rfl hx24) <|
     q_done fun w' hS => ?_
    refine x_cond (t := x24) rfl (fun hc24 => ?_) (fun hc24 => ?_)
    ·replace hFL4 := it_t hc24 hFL4
     refine x_seq <| x_region <| p (yl_assign rfl) <| x_done <| ?_
     have e_ := sinj hFL4; subst e_
     have e_ := (show _ = oL4 from hLL4); subst e_
     have e_ := sinj hF; subst e_
     exact x_return ⟨_, ⟨_, _, rfl, rfl, rfl⟩, rfl, hS⟩
    ·replace hFL4 := it_bf hc24 hFL4
     replace hFL4 := ar_s hFL4; obtain ⟨x25, hx25, hFL4⟩ := hFL4
     refine x_skip <| x_blk <| x_region <| p (yadd q5 rfl hx25) <|
      p (yl_move rfl) <| x_done <| ?_
     have e_ := sinj hFL4; subst e_
     exact x_inv ⟨kL4, Nat.lt_succ_self _, x25, hLL4, q0b, q0c, q6, rfl, hS⟩
   ·replace hFL4 := it_f hc14 hFL4
    refine x_exitTo _ rfl <| ?_
    have e_ := sinj hFL4; subst e_
    exact x_inv ⟨hLL4, hS⟩
  rintro E w ⟨rfl, hS⟩
  refine x_seq <| x_region <| p (yl_assign rfl) <| x_done <| ?_
  have e_ := sinj hF; subst e_
  exact x_return ⟨_, ⟨_, _, rfl, rfl, rfl⟩, rfl, hS⟩
attribute [irreducible] P_slices_Equal_rules_Fault_rules_Fault

def P_maskkeep4_RulesTwice (l_0 : List Int) : Nd Bool :=
 nbd (nof (P_maskmake_Stream_Layout (T_maskmake_Stream.mk l_0 0))) fun q2 =>
 nbd (P_rules_Faults q2.1) fun q9 =>
 nbd (P_maskkeep4_ruled) fun q0l =>
 nlv ((!q0l) || (decide (q9.2 ≠ 0))) fun x32 =>
 if x32 = true then
  nret false
 else
  if (q2.1.Wires.length : Int) = 0 then
   nret true
  else
   nbd (nof (P_maskmake_Stream_Next (T_maskmake_Stream.mk l_0 q2.2) (q2.1.Wires.length : Int))) fun q8 =>
   nck (inb q8.1 q2.1.Wires.length) <|
   nlv (gt q2.1.Wires q8.1) fun q3 =>
   nbd (nof (P_slices_Clone_rules_Wire_rules_Wire q2.1.Wires)) fun q0i =>
   nlv (q0i ++ [q3]) fun q0a =>
   nck (apOk 48 q0a.length) <|
   nbd (P_rules_Faults (T_rules_Layout.mk q2.1.W q2.1.H q2.1.Layers q2.1.Nets q0a q2.1.Vias q2.1.Pins q2.1.Walls)) fun q0b =>
   nbd (nof (P_slices_Clone_rules_Wire_rules_Wire q2.1.Wires)) fun q0c =>
   nbd (
    if q3.X0 < q3.X1 then
     nbd (nof (P_maskmake_Stream_Range (T_maskmake_Stream.mk l_0 q8.2) q3.X0 q3.X1)) fun q0d =>
     nret (q0d.1, q3.Y1, q0d.1, q3.Y0)
    else
     nbd (nof (P_maskmake_Stream_Range (T_maskmake_Stream.mk l_0 q8.2) q3.Y0 q3.Y1)) fun q0e =>
     nret (q3.X1, q0e.1, q3.X0, q0e.1)) fun (q6, q7, q4, q5) =>
   nck (inb q8.1 q0c.length) <|
   nlv (stt q0c q8.1 (T_rules_Wire.mk q3.Net q3.Layer q3.X0 q3.Y0 q6 q7)) fun q0j =>
   nlv (q0j ++ [(T_rules_Wire.mk q3.Net q3.Layer q4 q5 q3.X1 q3.Y1)]) fun q0f =>
   nck (apOk 48 q0f.length) <|
   nbd (P_rules_Faults (T_rules_Layout.mk q2.1.W q2.1.H q2.1.Layers q2.1.Nets q0f q2.1.Vias q2.1.Pins q2.1.Walls)) fun q0g =>
   nlv ((decide (q0b.2 = 0)) && (decide (q0g.2 = 0))) fun x113 =>
   nbd (nof (gd (x113) (P_slices_Equal_rules_Fault_rules_Fault q9.1 q0b.1))) fun q0k =>
   nlv (x113 && q0k) fun x118 =>
   nbd (nof (gd (x118) (P_slices_Equal_rules_Fault_rules_Fault q9.1 q0g.1))) fun q0h =>
   nlv (x118 && q0h) fun x123 =>
   nret x123
theorem c_maskkeep4_RulesTwice {w0 w : World} {l : List Assn} {ρ : Heap} {q15 : Option Addr} {q1q : Nat} {c_l_0 : Nat} {l_0 : List Int} {Q : Bool → Prop} (hF : P_maskkeep4_RulesTwice l_0 Q) (q1g : RdS (RpI .i64) ρ q15 q1q c_l_0 l_0) (hS : St w0 w (ro ρ :: l)) :
  Calls Try.prog 5 #[.slice q15 q1q c_l_0] w fun e w' => ∃ r : Bool, Q r ∧ e = .returned (.bool r) ∧ St w0 w' (ro ρ :: l) := by
 have e_ := q1g.n; subst e_
 refine enterC Try.func5 rfl 124 rfl (by simp) ?_
 refine x_seq <| x_region <| p (yl_assign rfl) <| x_done <|
  x_seq <| x_region <| p (yl_move rfl) <| p (v := .agg #[.slice q15 l_0.length c_l_0, .int .i64 0]) (yl_build bld_25 bldf_25 (parts_eq (pt (va := .slice q15 l_0.length c_l_0) rfl pt0)) (by kernel_rfl)) <| ?_
 refine o_box (cs := [.slice q15 l_0.length c_l_0, .int .i64 0]) rfl rfl hS (fun b19 w' hS => ?_)
 replace hF := nbd_s hF; obtain ⟨q3, q2m, hF⟩ := hF
 refine p (yl_assign rfl) <| x_done <| x_seq <| x_region <|
  p (yl_move rfl) <| ?_
 have hcall := c_maskmake_Stream_Layout q2m q1g ((hS.pull 1).pull 1)
 refine o_cc call_20 (args1 rfl) hcall ?_
 rintro e w' ⟨q7, q1u, c_y0_ret_4_2_1, q0j, q4, q1v, c_y0_ret_5_2_1, q0u, q5, q1w, c_y0_ret_6_2_1, q0v, q6, q1x, c_y0_ret_7_2_1, q0w, rfl, q0e, q0l, q0m, q0n, hS⟩
 refine ⟨_, rfl, ?_⟩
 have e_ := St.vec_n hS q0e; subst e_
 have e_ := St.vec_n (hS.pull 1) q0l; subst e_
 have e_ := St.vec_n (hS.pull 2) q0m; subst e_
 have e_ := St.vec_n (hS.pull 3) q0n; subst e_
 refine o_alloc zero_31 hS (fun b4 w' hS => ?_)
 refine o_storeAgg (news := [.int .i64 q3.1.W, .int .i64 q3.1.H, .int .i64 q3.1.Layers, .int .i64 q3.1.Nets, .slice q7 q3.1.Wires.length c_y0_ret_4_2_1, .slice q4 q3.1.Vias.length c_y0_ret_5_2_1, .slice q5 q3.1.Pins.length c_y0_ret_6_2_1, .slice q6 q3.1.Walls.length c_y0_ret_7_2_1]) agg_31 rfl rfl rfl (by simp [over_length]) hS (fun w' hS => ?_)
 refine x_done <| x_seq <| x_region <| pa (v := .agg #[.int .i64 q3.1.W, .int .i64 q3.1.H, .int .i64 q3.1.Layers, .int .i64 q3.1.Nets, .slice q7 q3.1.Wires.length c_y0_ret_4_2_1, .slice q4 q3.1.Vias.length c_y0_ret_5_2_1, .slice q5 q3.1.Pins.length c_y0_ret_6_2_1, .slice q6 q3.1.Walls.length c_y0_ret_7_2_1]) (ld_sub agg_31 rfl rfl rfl hS) <| ?_
 have q_ := St.lend ((hS.pull 6).pull 2) q0e; obtain ⟨ρl0, hll0, hlf0, hS0, back0⟩ := q_
 have q_ := St.lend (hS0.pull 2) (q0l.le hll0); obtain ⟨ρl1, hll1, hlf1, hS1, back1⟩ := q_
 have q_ := St.lend (hS1.pull 2) (q0m.le (hll0.trans hll1)); obtain ⟨ρl2, hll2, hlf2, hS2, back2⟩ := q_
 have q_ := St.lend (hS2.pull 2) (q0n.le ((hll0.trans hll1).trans hll2)); obtain ⟨ρl3, hll3, hlf3, hS3, back3⟩ := q_
 have hcall := c_rules_Faults (nbd_c hF) (hlf0.le ((hll1.trans hll2).trans hll3)) (hlf1.le (hll2.trans hll3)) (hlf2.le hll3) hlf3 hS3
 refine o_cc call_21 (args1 rfl) hcall ?_
 rintro e w' ⟨q12, hF, q0g, q27, c_y0_ret_3_1, q0p, rfl, q0k, hS⟩
 refine ⟨_, rfl, ?_⟩
 replace hS := back3 (hS.pull 1)
 replace hS := back2 (hS.pull 1)
 replace hS := back1 (hS.pull 1)
 replace hS := back0 (hS.pull 1)
 replace q0k : RepL R_rules_Fault ρ q12.1 q0p := RepL.flat (fun h => h) q0k
 have e_ := St.vec_n (hS.pull 5) q0k; subst e_
 refine p (yl_move rfl) <| p (yl_extract rfl rfl) <| p (yl_extract rfl rfl) <| p (yl_assign rfl) <|
  p (yl_assign rfl) <| x_done <| x_seq <| x_seq <|
  x_region <| ?_
 have hcall := c_maskkeep4_ruled (nbd_c hF)  (hS.pull 1)
 refine o_cc call_22 args0 hcall ?_
 rintro e w' ⟨q28, hF, rfl, hS⟩
 refine ⟨_, rfl, ?_⟩
 replace hF := nlv_s hF; obtain ⟨x32, hx32, hF⟩ := hF
 refine p (yl_not rfl) <| p (yl_move rfl) <| pg (v := .int .i64 q12.2) 29 (c := !(!q28)) (says_f _) (fun hq => Yl.at (yl_move rfl)) <| pg (v := .bool (decide (q12.2 ≠ 0))) 29 (c := !(!q28)) (says_f _) (fun hq => Yl.at (yl_neq (cv hq) rfl)) <|
  p (yor' rfl rfl (fun hc => (cv (t_not hc))) hx32) <| x_done <|
  x_cond (t := x32) rfl (fun hc32 => ?_) (fun hc32 => ?_)
 ·replace hF := nit_t hc32 hF
  refine x_seq <| x_region <| p (yl_assign rfl) <| x_done <| ?_
  exact x_return ⟨_, ⟨_, _, rfl, rfl, rfl⟩, false, hF, rfl, ((((((((hS.pull 1).drop.pull 1).drop.pull 1).drop.pull 1).drop.pull 1).drop.pull 1).drop.pull 1).drop)⟩
 ·replace hF := nit_bf hc32 hF
  refine x_skip <| x_seq <| x_seq <| x_region <|
   p (yl_field0 fld_31_4 rfl) <| pa (at_load one_26 rfl ((hS.pull 6).cell rfl)) <| p (yl_len_slice usl_26 rfl) <| p (yl_eql rfl rfl) <|
   x_done <|
   x_cond_p ((q3.1.Wires.length : Int) = 0) rfl (fun hc36 => ?_) (fun hc36 => ?_)
  ·replace hF := nit_t hc36 hF
   refine x_seq <| x_region <| p (yl_assign rfl) <| x_done <| ?_
   exact x_return ⟨_, ⟨_, _, rfl, rfl, rfl⟩, true, hF, rfl, ((((((((hS.pull 1).drop.pull 1).drop.pull 1).drop.pull 1).drop.pull 1).drop.pull 1).drop.pull 1).drop)⟩
  ·replace hF := nit_f hc36 hF
   replace hF := nbd_s hF; obtain ⟨q1p, q2n, hF⟩ := hF
   refine x_skip <| x_seq <| x_region <| p (yl_move rfl) <|
    p (yl_field0 fld_31_4 rfl) <| pa (at_load one_26 rfl ((hS.pull 6).cell rfl)) <| p (yl_len_slice usl_26 rfl) <| ?_
   have hcall := c_maskmake_Stream_Next q2n q1g (hS.pull 7)
   refine o_cc call_9 (args2 rfl rfl) hcall ?_
   rintro e w' ⟨rfl, hS⟩
   refine ⟨_, rfl, ?_⟩
   replace hF := nck_s hF; obtain ⟨q1r, hF⟩ := hF
   replace hF := nlv_s hF; obtain ⟨q2, q2o, hF⟩ := hF
   have q_ := q0e.get q1r; obtain ⟨q2u, q1s, q2p⟩ := q_
   rw [← q2o] at q1s
   have e_ := q1s; subst e_
   refine p (yl_assign rfl) <| x_done <| x_seq <| x_region <|
    p (yl_field0 fld_31_4 rfl) <| pa (at_load one_26 rfl ((hS.pull 7).cell rfl)) <| p (yl_move rfl) <| p (yix_o sl_26 rfl rfl (hS.pull 2) q0e q1r) <|
    pa (v := .agg #[.int .i64 q2.Net, .int .i64 q2.Layer, .int .i64 q2.X0, .int .i64 q2.Y0, .int .i64 q2.X1, .int .i64 q2.Y1]) (at_loadAgg agg_44 rfl rfl (EltV.every q2p (hS.pull 2))) <| ?_
   refine o_alloc zero_44 hS (fun b8 w' hS => ?_)
   refine o_storeAgg (news := [.int .i64 q2.Net, .int .i64 q2.Layer, .int .i64 q2.X0, .int .i64 q2.Y0, .int .i64 q2.X1, .int .i64 q2.Y1]) agg_44 rfl rfl rfl (by simp [over_length]) hS (fun w' hS => ?_)
   refine x_done <| x_seq <| x_region <| pa (v := .agg #[.int .i64 q3.1.W, .int .i64 q3.1.H, .int .i64 q3.1.Layers, .int .i64 q3.1.Nets, .slice q7 q3.1.Wires.length c_y0_ret_4_2_1, .slice q4 q3.1.Vias.length c_y0_ret_5_2_1, .slice q5 q3.1.Pins.length c_y0_ret_6_2_1, .slice q6 q3.1.Walls.length c_y0_ret_7_2_1]) (ld_sub agg_31 rfl rfl rfl (hS.pull 8)) <| ?_
   refine o_alloc zero_31 hS (fun b9 w' hS => ?_)
   refine o_storeAgg (news := [.int .i64 q3.1.W, .int .i64 q3.1.H, .int .i64 q3.1.Layers, .int .i64 q3.1.Nets, .slice q7 q3.1.Wires.length c_y0_ret_4_2_1, .slice q4 q3.1.Vias.length c_y0_ret_5_2_1, .slice q5 q3.1.Pins.length c_y0_ret_6_2_1, .slice q6 q3.1.Walls.length c_y0_ret_7_2_1]) agg_31 rfl rfl rfl (by simp [over_length]) hS (fun w' hS => ?_)
   refine x_done <| x_seq <| ?_
   replace hF := nbd_s hF; obtain ⟨q0o, q29, hF⟩ := hF
   replace hF := nlv_s hF; obtain ⟨q0d, q2a, hF⟩ := hF
   replace hF := nck_s hF; obtain ⟨q2b, hF⟩ := hF
   refine x_par (w0 := w0) [⟨[], [], [48], [], [], [], none⟩, ⟨[0], [0], [49], [0], [], [], none⟩, ⟨[0, 1], [1], [50], [1, 2], [], [3], none⟩, ⟨[], [], [51], [4], [], [], none⟩, ⟨[3], [3], [52], [], [], [5], none⟩, ⟨[0, 1, 2, 3, 4], [2, 4], [53], [5, 2], [3], [6], none⟩, ⟨[0, 1, 2, 3, 4, 5], [], [54], [], [], [], none⟩, ⟨[0, 1, 2, 3, 4, 5, 6], [5, 6], [], [], [7], [8], none⟩] [⟨none, none, []⟩, ⟨none, none, []⟩, ⟨none, none, []⟩, ⟨(some 2), (some 5), [50]⟩, ⟨none, none, []⟩, ⟨(some 4), none, [52]⟩, ⟨(some 5), none, [53]⟩, ⟨none, (some 7), []⟩, ⟨(some 7), none, [53]⟩] [48, 49, 50, 51, 52, 53, 54] [0, 1, 2, 4, 7] [0, 1, 2, 4, 5, 6, 8] [0, 1, 2, 3, 4, 5, 6] [fun Ep11 => Ep11 48 = .pointer (some ⟨b4, 4, none⟩), fun Ep11 => Ep11 49 = .slice q7 q3.1.Wires.length c_y0_ret_4_2_1, fun Ep11 => Ep11 50 = .slice (adOf (Ep11 50)) q0o.length (capOf (Ep11 50)), fun Ep11 => Ep11 51 = .agg #[.int .i64 q2.Net, .int .i64 q2.Layer, .int .i64 q2.X0, .int .i64 q2.Y0, .int .i64 q2.X1, .int .i64 q2.Y1], fun Ep11 => Ep11 52 = .slice (some ⟨(blkOf (Ep11 52)), 0, none⟩) 1 1, fun Ep11 => Ep11 53 = .slice (adOf (Ep11 53)) q0d.length (capOf (Ep11 53)), fun Ep11 => Ep11 54 = .pointer (some ⟨b9, 4, none⟩), fun Ep11 => True] [fun Ep11 => cells b4 31 [.int .i64 q3.1.W, .int .i64 q3.1.H, .int .i64 q3.1.Layers, .int .i64 q3.1.Nets, .slice q7 q3.1.Wires.length c_y0_ret_4_2_1, .slice q4 q3.1.Vias.length c_y0_ret_5_2_1, .slice q5 q3.1.Pins.length c_y0_ret_6_2_1, .slice q6 q3.1.Walls.length c_y0_ret_7_2_1], fun Ep11 => vec 44 R_rules_Wire.sz (.slice q7 q3.1.Wires.length c_y0_ret_4_2_1) q3.1.Wires.length q0j, fun Ep11 => ro ρ, fun Ep11 => bunA (fun (q8 : List Value) => RepL R_rules_Wire ρ q0o q8) (fun (q8 : List Value) => [vec 44 R_rules_Wire.sz (.slice (adOf (Ep11 50)) q0o.length (capOf (Ep11 50))) q0o.length q8]), fun Ep11 => cells b8 44 [.int .i64 q2.Net, .int .i64 q2.Layer, .int .i64 q2.X0, .int .i64 q2.Y0, .int .i64 q2.X1, .int .i64 q2.Y1], fun Ep11 => cells (blkOf (Ep11 52)) 44 [.int .i64 q2.Net, .int .i64 q2.Layer, .int .i64 q2.X0, .int .i64 q2.Y0, .int .i64 q2.X1, .int .i64 q2.Y1], fun Ep11 => bunA (fun (cs53 : List Value) => RepL R_rules_Wire ρ q0d cs53) (fun (cs53 : List Value) => [vec 44 R_rules_Wire.sz (.slice (adOf (Ep11 53)) q0d.length (capOf (Ep11 53))) q0d.length cs53]), fun Ep11 => cells b9 31 [.int .i64 q3.1.W, .int .i64 q3.1.H, .int .i64 q3.1.Layers, .int .i64 q3.1.Nets, .slice q7 q3.1.Wires.length c_y0_ret_4_2_1, .slice q4 q3.1.Vias.length c_y0_ret_5_2_1, .slice q5 q3.1.Pins.length c_y0_ret_6_2_1, .slice q6 q3.1.Walls.length c_y0_ret_7_2_1], fun Ep11 => cells b9 31 [.int .i64 q3.1.W, .int .i64 q3.1.H, .int .i64 q3.1.Layers, .int .i64 q3.1.Nets, .slice (adOf (Ep11 53)) q0d.length (capOf (Ep11 53)), .slice q4 q3.1.Vias.length c_y0_ret_5_2_1, .slice q5 q3.1.Pins.length c_y0_ret_6_2_1, .slice q6 q3.1.Walls.length c_y0_ret_7_2_1]] mixed (by kernel_rfl) ((((hS.pull 1).pull 3).pull 4).pull 9) ?_ ?_
   ·refine ⟨?_, ?_, ?_, ?_, ?_, ?_, ?_, ?_, trivial⟩
    ·intro Ep11 w l' hE11 hO11 hF_ hS
     refine p (yl_field0 fld_31_4 (hE11 4 rfl)) <| x_done <| ?_
     refine x_fin ⟨⟨_, rfl⟩, rfl, ?_⟩
     exact emk hS
    ·intro Ep11 w l' hE11 hO11 hF_ hS
     obtain ⟨q16, -⟩ := hF_
     replace q16 : Ep11 48 = .pointer (some ⟨b4, 4, none⟩) := emk q16
     replace hS : St w0 w (cells b4 31 [.int .i64 q3.1.W, .int .i64 q3.1.H, .int .i64 q3.1.Layers, .int .i64 q3.1.Nets, .slice q7 q3.1.Wires.length c_y0_ret_4_2_1, .slice q4 q3.1.Vias.length c_y0_ret_5_2_1, .slice q5 q3.1.Pins.length c_y0_ret_6_2_1, .slice q6 q3.1.Walls.length c_y0_ret_7_2_1] :: l') := emk hS
     refine pa (at_load one_26 q16 (hS.cell rfl)) <| x_done <| ?_
     refine x_fin ⟨⟨_, rfl⟩, rfl, ?_⟩
     exact emk hS
    ·intro Ep11 w l' hE11 hO11 hF_ hS
     obtain ⟨q17, -⟩ := hF_
     replace q17 : Ep11 49 = .slice q7 q3.1.Wires.length c_y0_ret_4_2_1 := emk q17
     replace hS : St w0 w (vec 44 R_rules_Wire.sz (.slice q7 q3.1.Wires.length c_y0_ret_4_2_1) q3.1.Wires.length q0j :: ro ρ :: l') := emk hS
     have q_ := St.lend ((hS.pull 1).pull 1) q0e; obtain ⟨ρl0, hll0, hlf0, hS0, back0⟩ := q_
     have hcall := c_slices_Clone_rules_Wire_rules_Wire q29 hlf0 hS0
     refine o_cc call_13 (args1 q17) hcall ?_
     rintro e w' ⟨q1i, q23, c_y0_ret_11_2, q8, rfl, q0f, hS⟩
     refine ⟨_, rfl, ?_⟩
     replace hS := back0 (hS.pull 1)
     replace q0f : RepL R_rules_Wire ρ q0o q8 := RepL.flat (fun h => h) q0f
     have e_ := St.vec_n (hS.pull 2) q0f; subst e_
     refine x_done <| ?_
     refine x_fin ⟨⟨_, rfl⟩, rfl, ?_⟩
     replace hS := St.bun (Φ := (fun (q8 : List Value) => RepL R_rules_Wire ρ q0o q8)) (L := (fun (q8 : List Value) => [vec 44 R_rules_Wire.sz (.slice q1i q0o.length c_y0_ret_11_2) q0o.length q8])) q8 q0f (hS.pull 2)
     exact emk ((hS.pull 2).pull 2)
    ·intro Ep11 w l' hE11 hO11 hF_ hS
     replace hS : St w0 w (cells b8 44 [.int .i64 q2.Net, .int .i64 q2.Layer, .int .i64 q2.X0, .int .i64 q2.Y0, .int .i64 q2.X1, .int .i64 q2.Y1] :: l') := emk hS
     refine pa (v := .agg #[.int .i64 q2.Net, .int .i64 q2.Layer, .int .i64 q2.X0, .int .i64 q2.Y0, .int .i64 q2.X1, .int .i64 q2.Y1]) (ld_sub agg_44 (hE11 8 rfl) rfl rfl hS) <| x_done <| ?_
     refine x_fin ⟨⟨_, rfl⟩, rfl, ?_⟩
     exact emk hS
    ·intro Ep11 w l' hE11 hO11 hF_ hS
     obtain ⟨q18, -⟩ := hF_
     replace q18 : Ep11 51 = .agg #[.int .i64 q2.Net, .int .i64 q2.Layer, .int .i64 q2.X0, .int .i64 q2.Y0, .int .i64 q2.X1, .int .i64 q2.Y1] := emk q18
     refine o_buildSlice (vs := [.agg #[.int .i64 q2.Net, .int .i64 q2.Layer, .int .i64 q2.X0, .int .i64 q2.Y0, .int .i64 q2.X1, .int .i64 q2.Y1]]) (cs := [.int .i64 q2.Net, .int .i64 q2.Layer, .int .i64 q2.X0, .int .i64 q2.Y0, .int .i64 q2.X1, .int .i64 q2.Y1]) sl_26 zero_44 (parts_eq (pt (va := .agg #[.int .i64 q2.Net, .int .i64 q2.Layer, .int .i64 q2.X0, .int .i64 q2.Y0, .int .i64 q2.X1, .int .i64 q2.Y1]) q18 pt0)) rfl (by intro v hv; simp only [List.mem_cons, List.not_mem_nil, or_false] at hv; first | (subst hv; rfl) | (rcases hv with rfl <;> rfl)) (by decide) rfl hS (fun b52 w' hS => ?_)
     refine x_done <| ?_
     refine x_fin ⟨⟨_, rfl⟩, rfl, ?_⟩
     exact emk hS
    ·intro Ep11 w l' hE11 hO11 hF_ hS
     obtain ⟨q19, q1a, -⟩ := hF_
     replace q19 : Ep11 50 = .slice (adOf (Ep11 50)) q0o.length (capOf (Ep11 50)) := emk q19
     replace q1a : Ep11 52 = .slice (some ⟨(blkOf (Ep11 52)), 0, none⟩) 1 1 := emk q1a
     replace hS : St w0 w (cells (blkOf (Ep11 52)) 44 [.int .i64 q2.Net, .int .i64 q2.Layer, .int .i64 q2.X0, .int .i64 q2.Y0, .int .i64 q2.X1, .int .i64 q2.Y1] :: ro ρ :: bunA (fun (q8 : List Value) => RepL R_rules_Wire ρ q0o q8) (fun (q8 : List Value) => [vec 44 R_rules_Wire.sz (.slice (adOf (Ep11 50)) q0o.length (capOf (Ep11 50))) q0o.length q8]) :: l') := emk hS
     have q_ := St.unbun (hS.pull 2); obtain ⟨q8, q0f, hS⟩ := q_
     refine o_ap sl_26 zero_44 rfl (by decide) q19 q1a hS q0f (src_blk usl_26 (hS.pull 1) rfl rfl) (RepL.cons (R := R_rules_Wire) (ρ := ρ) (x := q2) (cs := [.int .i64 q2.Net, .int .i64 q2.Layer, .int .i64 q2.X0, .int .i64 q2.Y0, .int .i64 q2.X1, .int .i64 q2.Y1]) rfl RepL.nil) q2a q2b (fun A53 c53 cs53 w' hr53 hS => ?_)
     refine x_done <| ?_
     refine x_fin ⟨⟨_, rfl⟩, rfl, ?_⟩
     replace hS := St.bun (Φ := (fun (cs53 : List Value) => RepL R_rules_Wire ρ q0d cs53)) (L := (fun (cs53 : List Value) => [vec 44 R_rules_Wire.sz (.slice A53 q0d.length c53) q0d.length cs53])) cs53 hr53 hS
     exact emk ((hS.pull 2).pull 2)
    ·intro Ep11 w l' hE11 hO11 hF_ hS
     refine p (yl_field0 fld_31_4 (hE11 9 rfl)) <| x_done <| ?_
     refine x_fin ⟨⟨_, rfl⟩, rfl, ?_⟩
     exact emk hS
    ·intro Ep11 w l' hE11 hO11 hF_ hS
     obtain ⟨q1b, q1c, -⟩ := hF_
     replace q1b : Ep11 53 = .slice (adOf (Ep11 53)) q0d.length (capOf (Ep11 53)) := emk q1b
     replace q1c : Ep11 54 = .pointer (some ⟨b9, 4, none⟩) := emk q1c
     replace hS : St w0 w (cells b9 31 [.int .i64 q3.1.W, .int .i64 q3.1.H, .int .i64 q3.1.Layers, .int .i64 q3.1.Nets, .slice q7 q3.1.Wires.length c_y0_ret_4_2_1, .slice q4 q3.1.Vias.length c_y0_ret_5_2_1, .slice q5 q3.1.Pins.length c_y0_ret_6_2_1, .slice q6 q3.1.Walls.length c_y0_ret_7_2_1] :: l') := emk hS
     refine o_store1 (v := .slice (adOf (Ep11 53)) q0d.length (capOf (Ep11 53))) one_26 q1c q1b rfl rfl hS (fun w' hS => ?_)
     refine x_done <| ?_
     refine x_fin ⟨⟨undef, rfl⟩, trivial, ?_⟩
     exact emk hS
   intro Ep11 w' hE11 hF_ hS
   obtain ⟨q16, q17, q19, q18, q1a, q1b, q1c, -⟩ := hF_
   replace q16 : Ep11 48 = .pointer (some ⟨b4, 4, none⟩) := emk q16
   replace q17 : Ep11 49 = .slice q7 q3.1.Wires.length c_y0_ret_4_2_1 := emk q17
   replace q19 : Ep11 50 = .slice (adOf (Ep11 50)) q0o.length (capOf (Ep11 50)) := emk q19
   replace q18 : Ep11 51 = .agg #[.int .i64 q2.Net, .int .i64 q2.Layer, .int .i64 q2.X0, .int .i64 q2.Y0, .int .i64 q2.X1, .int .i64 q2.Y1] := emk q18
   replace q1a : Ep11 52 = .slice (some ⟨(blkOf (Ep11 52)), 0, none⟩) 1 1 := emk q1a
   replace q1b : Ep11 53 = .slice (adOf (Ep11 53)) q0d.length (capOf (Ep11 53)) := emk q1b
   replace q1c : Ep11 54 = .pointer (some ⟨b9, 4, none⟩) := emk q1c
   replace hS : St w0 w' (cells b4 31 [.int .i64 q3.1.W, .int .i64 q3.1.H, .int .i64 q3.1.Layers, .int .i64 q3.1.Nets, .slice q7 q3.1.Wires.length c_y0_ret_4_2_1, .slice q4 q3.1.Vias.length c_y0_ret_5_2_1, .slice q5 q3.1.Pins.length c_y0_ret_6_2_1, .slice q6 q3.1.Walls.length c_y0_ret_7_2_1] :: vec 44 R_rules_Wire.sz (.slice q7 q3.1.Wires.length c_y0_ret_4_2_1) q3.1.Wires.length q0j :: ro ρ :: cells b8 44 [.int .i64 q2.Net, .int .i64 q2.Layer, .int .i64 q2.X0, .int .i64 q2.Y0, .int .i64 q2.X1, .int .i64 q2.Y1] :: cells (blkOf (Ep11 52)) 44 [.int .i64 q2.Net, .int .i64 q2.Layer, .int .i64 q2.X0, .int .i64 q2.Y0, .int .i64 q2.X1, .int .i64 q2.Y1] :: bunA (fun (cs53 : List Value) => RepL R_rules_Wire ρ q0d cs53) (fun (cs53 : List Value) => [vec 44 R_rules_Wire.sz (.slice (adOf (Ep11 53)) q0d.length (capOf (Ep11 53))) q0d.length cs53]) :: cells b9 31 [.int .i64 q3.1.W, .int .i64 q3.1.H, .int .i64 q3.1.Layers, .int .i64 q3.1.Nets, .slice (adOf (Ep11 53)) q0d.length (capOf (Ep11 53)), .slice q4 q3.1.Vias.length c_y0_ret_5_2_1, .slice q5 q3.1.Pins.length c_y0_ret_6_2_1, .slice q6 q3.1.Walls.length c_y0_ret_7_2_1] :: (cells b19 25 [.slice q15 l_0.length c_l_0, .int .i64 q1p.2] :: vec 47 R_rules_Via.sz (.slice q4 q3.1.Vias.length c_y0_ret_5_2_1) q3.1.Vias.length q0u :: vec 39 R_rules_Pin.sz (.slice q5 q3.1.Pins.length c_y0_ret_6_2_1) q3.1.Pins.length q0v :: vec 66 R_floor_Wall.sz (.slice q6 q3.1.Walls.length c_y0_ret_7_2_1) q3.1.Walls.length q0w :: vec 63 R_rules_Fault.sz (.slice q0g q12.1.length c_y0_ret_3_1) q12.1.length q0p :: l)) := emk hS
   have q_ := St.unbun (hS.pull 5); obtain ⟨cs53, hr53, hS⟩ := q_
   refine x_seq <| x_region <| pa (v := .agg #[.int .i64 q3.1.W, .int .i64 q3.1.H, .int .i64 q3.1.Layers, .int .i64 q3.1.Nets, .slice (adOf (Ep11 53)) q0d.length (capOf (Ep11 53)), .slice q4 q3.1.Vias.length c_y0_ret_5_2_1, .slice q5 q3.1.Pins.length c_y0_ret_6_2_1, .slice q6 q3.1.Walls.length c_y0_ret_7_2_1]) (ld_sub agg_31 (hE11 9 rfl) rfl rfl (hS.pull 6)) <| ?_
   have q_ := St.lend ((hS.pull 3).pull 1) hr53; obtain ⟨ρl0, hll0, hlf0, hS0, back0⟩ := q_
   have q_ := St.lend (hS0.pull 7) (q0l.le hll0); obtain ⟨ρl1, hll1, hlf1, hS1, back1⟩ := q_
   have q_ := St.lend (hS1.pull 7) (q0m.le (hll0.trans hll1)); obtain ⟨ρl2, hll2, hlf2, hS2, back2⟩ := q_
   have q_ := St.lend (hS2.pull 7) (q0n.le ((hll0.trans hll1).trans hll2)); obtain ⟨ρl3, hll3, hlf3, hS3, back3⟩ := q_
   have hcall := c_rules_Faults (nbd_c hF) (hlf0.le ((hll1.trans hll2).trans hll3)) (hlf1.le (hll2.trans hll3)) (hlf2.le hll3) hlf3 hS3
   refine o_cc call_21 (args1 rfl) hcall ?_
   rintro e w' ⟨q10, hF, q0q, q24, c_y0_ret_12_1, q0x, rfl, q0r, hS⟩
   refine ⟨_, rfl, ?_⟩
   replace hS := back3 (hS.pull 1)
   replace hS := back2 (hS.pull 1)
   replace hS := back1 (hS.pull 1)
   replace hS := back0 (hS.pull 1)
   replace q0r : RepL R_rules_Fault ρ q10.1 q0x := RepL.flat (fun h => h) q0r
   have e_ := St.vec_n (hS.pull 5) q0r; subst e_
   refine p (yl_move rfl) <| p (yl_extract rfl rfl) <| p (yl_extract rfl rfl) <| p (yl_assign rfl) <|
    p (yl_assign rfl) <| x_done <| x_seq <| x_region <|
    pa (v := .agg #[.int .i64 q3.1.W, .int .i64 q3.1.H, .int .i64 q3.1.Layers, .int .i64 q3.1.Nets, .slice q7 q3.1.Wires.length c_y0_ret_4_2_1, .slice q4 q3.1.Vias.length c_y0_ret_5_2_1, .slice q5 q3.1.Pins.length c_y0_ret_6_2_1, .slice q6 q3.1.Walls.length c_y0_ret_7_2_1]) (ld_sub agg_31 (hE11 4 rfl) rfl rfl (hS.pull 6)) <| ?_
   refine o_alloc zero_31 hS (fun b12 w' hS => ?_)
   refine o_storeAgg (news := [.int .i64 q3.1.W, .int .i64 q3.1.H, .int .i64 q3.1.Layers, .int .i64 q3.1.Nets, .slice q7 q3.1.Wires.length c_y0_ret_4_2_1, .slice q4 q3.1.Vias.length c_y0_ret_5_2_1, .slice q5 q3.1.Pins.length c_y0_ret_6_2_1, .slice q6 q3.1.Walls.length c_y0_ret_7_2_1]) agg_31 rfl rfl rfl (by simp [over_length]) hS (fun w' hS => ?_)
   replace hF := nbd_s hF; obtain ⟨q14, q2c, hF⟩ := hF
   refine x_done <| x_seq <| x_region <| p (yl_field0 fld_31_4 (hE11 4 rfl)) <|
    pa (at_load one_26 rfl ((hS.pull 7).cell rfl)) <| ?_
   have q_ := St.lend ((hS.pull 2).pull 8) q0e; obtain ⟨ρl0, hll0, hlf0, hS0, back0⟩ := q_
   have hcall := c_slices_Clone_rules_Wire_rules_Wire q2c hlf0 hS0
   refine o_cc call_13 (args1 rfl) hcall ?_
   rintro e w' ⟨q0h, q25, c_y0_ret_14_2, q0y, rfl, q0i, hS⟩
   refine ⟨_, rfl, ?_⟩
   replace hS := back0 (hS.pull 1)
   replace q0i : RepL R_rules_Wire ρ q14 q0y := RepL.flat (fun h => h) q0i
   have e_ := St.vec_n (hS.pull 2) q0i; subst e_
   refine p (yl_field0 fld_31_4 rfl) <| ?_
   refine o_store1 (v := .slice q0h q14.length c_y0_ret_14_2) one_26 rfl rfl rfl rfl (hS.pull 3) (fun w' hS => ?_)
   refine x_done <| x_seq <| ?_
   refine x_par (w0 := w0) [⟨[], [], [65], [0], [], [], none⟩, ⟨[], [], [66], [0], [], [], none⟩, ⟨[], [], [13], [], [], [1], none⟩, ⟨[], [], [14], [], [], [2], none⟩, ⟨[0, 2, 3], [0, 2], [], [], [1], [3], none⟩, ⟨[0, 1, 2, 3, 4], [1, 3], [], [], [2], [4], none⟩] [⟨none, none, []⟩, ⟨(some 2), (some 4), [13]⟩, ⟨(some 3), (some 5), [14]⟩, ⟨(some 4), none, [13]⟩, ⟨(some 5), none, [14]⟩] [13, 14, 65, 66] [0] [0, 3, 4] [0, 1, 2, 3] [fun Ep15 => Ep15 65 = .agg #[.int .i64 q2.Net, .int .i64 q2.Layer, .int .i64 q2.X0, .int .i64 q2.Y0, .int .i64 q2.X1, .int .i64 q2.Y1], fun Ep15 => Ep15 66 = .agg #[.int .i64 q2.Net, .int .i64 q2.Layer, .int .i64 q2.X0, .int .i64 q2.Y0, .int .i64 q2.X1, .int .i64 q2.Y1], fun Ep15 => Ep15 13 = .pointer (some ⟨(blkOf (Ep15 13)), 0, none⟩), fun Ep15 => Ep15 14 = .pointer (some ⟨(blkOf (Ep15 14)), 0, none⟩), fun Ep15 => True, fun Ep15 => True] [fun Ep15 => cells b8 44 [.int .i64 q2.Net, .int .i64 q2.Layer, .int .i64 q2.X0, .int .i64 q2.Y0, .int .i64 q2.X1, .int .i64 q2.Y1], fun Ep15 => cells (blkOf (Ep15 13)) 44 [.int .i64 0, .int .i64 0, .int .i64 0, .int .i64 0, .int .i64 0, .int .i64 0], fun Ep15 => cells (blkOf (Ep15 14)) 44 [.int .i64 0, .int .i64 0, .int .i64 0, .int .i64 0, .int .i64 0, .int .i64 0], fun Ep15 => cells (blkOf (Ep15 13)) 44 [.int .i64 q2.Net, .int .i64 q2.Layer, .int .i64 q2.X0, .int .i64 q2.Y0, .int .i64 q2.X1, .int .i64 q2.Y1], fun Ep15 => cells (blkOf (Ep15 14)) 44 [.int .i64 q2.Net, .int .i64 q2.Layer, .int .i64 q2.X0, .int .i64 q2.Y0, .int .i64 q2.X1, .int .i64 q2.Y1]] mixed (by kernel_rfl) (hS.pull 10) ?_ ?_
   ·refine ⟨?_, ?_, ?_, ?_, ?_, ?_, trivial⟩
    ·intro Ep15 w l' hE15 hO15 hF_ hS
     replace hS : St w0 w (cells b8 44 [.int .i64 q2.Net, .int .i64 q2.Layer, .int .i64 q2.X0, .int .i64 q2.Y0, .int .i64 q2.X1, .int .i64 q2.Y1] :: l') := emk hS
     refine pa (v := .agg #[.int .i64 q2.Net, .int .i64 q2.Layer, .int .i64 q2.X0, .int .i64 q2.Y0, .int .i64 q2.X1, .int .i64 q2.Y1]) (ld_sub agg_44 ((hE15 8 rfl).trans (hE11 8 rfl)) rfl rfl hS) <| x_done <| ?_
     refine x_fin ⟨⟨_, rfl⟩, rfl, ?_⟩
     exact emk hS
    ·intro Ep15 w l' hE15 hO15 hF_ hS
     replace hS : St w0 w (cells b8 44 [.int .i64 q2.Net, .int .i64 q2.Layer, .int .i64 q2.X0, .int .i64 q2.Y0, .int .i64 q2.X1, .int .i64 q2.Y1] :: l') := emk hS
     refine pa (v := .agg #[.int .i64 q2.Net, .int .i64 q2.Layer, .int .i64 q2.X0, .int .i64 q2.Y0, .int .i64 q2.X1, .int .i64 q2.Y1]) (ld_sub agg_44 ((hE15 8 rfl).trans (hE11 8 rfl)) rfl rfl hS) <| x_done <| ?_
     refine x_fin ⟨⟨_, rfl⟩, rfl, ?_⟩
     exact emk hS
    ·intro Ep15 w l' hE15 hO15 hF_ hS
     refine o_alloc zero_44 hS (fun q2r w' hS => ?_)
     refine x_done <| ?_
     refine x_fin ⟨⟨_, rfl⟩, rfl, ?_⟩
     exact emk hS
    ·intro Ep15 w l' hE15 hO15 hF_ hS
     refine o_alloc zero_44 hS (fun q2s w' hS => ?_)
     refine x_done <| ?_
     refine x_fin ⟨⟨_, rfl⟩, rfl, ?_⟩
     exact emk hS
    ·intro Ep15 w l' hE15 hO15 hF_ hS
     obtain ⟨q1d, q0s, -⟩ := hF_
     replace q1d : Ep15 65 = .agg #[.int .i64 q2.Net, .int .i64 q2.Layer, .int .i64 q2.X0, .int .i64 q2.Y0, .int .i64 q2.X1, .int .i64 q2.Y1] := emk q1d
     replace q0s : Ep15 13 = .pointer (some ⟨(blkOf (Ep15 13)), 0, none⟩) := emk q0s
     replace hS : St w0 w (cells (blkOf (Ep15 13)) 44 [.int .i64 0, .int .i64 0, .int .i64 0, .int .i64 0, .int .i64 0, .int .i64 0] :: l') := emk hS
     refine o_storeAgg (news := [.int .i64 q2.Net, .int .i64 q2.Layer, .int .i64 q2.X0, .int .i64 q2.Y0, .int .i64 q2.X1, .int .i64 q2.Y1]) agg_44 q0s q1d rfl (by simp [over_length]) hS (fun w' hS => ?_)
     refine x_done <| ?_
     refine x_fin ⟨⟨undef, rfl⟩, trivial, ?_⟩
     exact emk hS
    ·intro Ep15 w l' hE15 hO15 hF_ hS
     obtain ⟨q1e, q11, -⟩ := hF_
     replace q1e : Ep15 66 = .agg #[.int .i64 q2.Net, .int .i64 q2.Layer, .int .i64 q2.X0, .int .i64 q2.Y0, .int .i64 q2.X1, .int .i64 q2.Y1] := emk q1e
     replace q11 : Ep15 14 = .pointer (some ⟨(blkOf (Ep15 14)), 0, none⟩) := emk q11
     replace hS : St w0 w (cells (blkOf (Ep15 14)) 44 [.int .i64 0, .int .i64 0, .int .i64 0, .int .i64 0, .int .i64 0, .int .i64 0] :: l') := emk hS
     refine o_storeAgg (news := [.int .i64 q2.Net, .int .i64 q2.Layer, .int .i64 q2.X0, .int .i64 q2.Y0, .int .i64 q2.X1, .int .i64 q2.Y1]) agg_44 q11 q1e rfl (by simp [over_length]) hS (fun w' hS => ?_)
     refine x_done <| ?_
     refine x_fin ⟨⟨undef, rfl⟩, trivial, ?_⟩
     exact emk hS
   intro Ep15 w' hE15 hF_ hS
   obtain ⟨q1d, q1e, q0s, q11, -⟩ := hF_
   replace q1d : Ep15 65 = .agg #[.int .i64 q2.Net, .int .i64 q2.Layer, .int .i64 q2.X0, .int .i64 q2.Y0, .int .i64 q2.X1, .int .i64 q2.Y1] := emk q1d
   replace q1e : Ep15 66 = .agg #[.int .i64 q2.Net, .int .i64 q2.Layer, .int .i64 q2.X0, .int .i64 q2.Y0, .int .i64 q2.X1, .int .i64 q2.Y1] := emk q1e
   replace q0s : Ep15 13 = .pointer (some ⟨(blkOf (Ep15 13)), 0, none⟩) := emk q0s
   replace q11 : Ep15 14 = .pointer (some ⟨(blkOf (Ep15 14)), 0, none⟩) := emk q11
   replace hS : St w0 w' (cells b8 44 [.int .i64 q2.Net, .int .i64 q2.Layer, .int .i64 q2.X0, .int .i64 q2.Y0, .int .i64 q2.X1, .int .i64 q2.Y1] :: cells (blkOf (Ep15 13)) 44 [.int .i64 q2.Net, .int .i64 q2.Layer, .int .i64 q2.X0, .int .i64 q2.Y0, .int .i64 q2.X1, .int .i64 q2.Y1] :: cells (blkOf (Ep15 14)) 44 [.int .i64 q2.Net, .int .i64 q2.Layer, .int .i64 q2.X0, .int .i64 q2.Y0, .int .i64 q2.X1, .int .i64 q2.Y1] :: (cells b12 31 [.int .i64 q3.1.W, .int .i64 q3.1.H, .int .i64 q3.1.Layers, .int .i64 q3.1.Nets, .slice q0h q14.length c_y0_ret_14_2, .slice q4 q3.1.Vias.length c_y0_ret_5_2_1, .slice q5 q3.1.Pins.length c_y0_ret_6_2_1, .slice q6 q3.1.Walls.length c_y0_ret_7_2_1] :: vec 44 R_rules_Wire.sz (.slice q7 q3.1.Wires.length c_y0_ret_4_2_1) q3.1.Wires.length q0j :: ro ρ :: vec 44 R_rules_Wire.sz (.slice q0h q14.length c_y0_ret_14_2) q14.length q0y :: vec 44 R_rules_Wire.sz (.slice (adOf (Ep11 53)) q0d.length (capOf (Ep11 53))) q0d.length cs53 :: vec 47 R_rules_Via.sz (.slice q4 q3.1.Vias.length c_y0_ret_5_2_1) q3.1.Vias.length q0u :: vec 39 R_rules_Pin.sz (.slice q5 q3.1.Pins.length c_y0_ret_6_2_1) q3.1.Pins.length q0v :: vec 66 R_floor_Wall.sz (.slice q6 q3.1.Walls.length c_y0_ret_7_2_1) q3.1.Walls.length q0w :: vec 63 R_rules_Fault.sz (.slice q0q q10.1.length c_y0_ret_12_1) q10.1.length q0x :: cells b4 31 [.int .i64 q3.1.W, .int .i64 q3.1.H, .int .i64 q3.1.Layers, .int .i64 q3.1.Nets, .slice q7 q3.1.Wires.length c_y0_ret_4_2_1, .slice q4 q3.1.Vias.length c_y0_ret_5_2_1, .slice q5 q3.1.Pins.length c_y0_ret_6_2_1, .slice q6 q3.1.Walls.length c_y0_ret_7_2_1] :: cells (blkOf (Ep11 52)) 44 [.int .i64 q2.Net, .int .i64 q2.Layer, .int .i64 q2.X0, .int .i64 q2.Y0, .int .i64 q2.X1, .int .i64 q2.Y1] :: cells b9 31 [.int .i64 q3.1.W, .int .i64 q3.1.H, .int .i64 q3.1.Layers, .int .i64 q3.1.Nets, .slice (adOf (Ep11 53)) q0d.length (capOf (Ep11 53)), .slice q4 q3.1.Vias.length c_y0_ret_5_2_1, .slice q5 q3.1.Pins.length c_y0_ret_6_2_1, .slice q6 q3.1.Walls.length c_y0_ret_7_2_1] :: cells b19 25 [.slice q15 l_0.length c_l_0, .int .i64 q1p.2] :: vec 63 R_rules_Fault.sz (.slice q0g q12.1.length c_y0_ret_3_1) q12.1.length q0p :: l)) := emk hS
   refine x_seq <| x_seq <| x_region <| p (yl_field0 fld_44_2 ((hE15 8 rfl).trans (hE11 8 rfl))) <|
    pa (at_load one_3 rfl (hS.cell rfl)) <| p (yl_field0 fld_44_4 ((hE15 8 rfl).trans (hE11 8 rfl))) <| pa (at_load one_3 rfl (hS.cell rfl)) <| p (yl_lss rfl rfl) <|
    x_done <| ?_
   replace hF := nbd_j hF; obtain ⟨oc71, hFc71, hF⟩ := hF
   refine x_join (fun E w => ∃ (q13 : Nat) (q0z : Nat) (q0b : Int) (q0c : Int) (q9 : Int) (q0a : Int), oc71 (q0b, q0c, q9, q0a) ∧ E 5 = .slice q0g q12.1.length c_y0_ret_3_1 ∧ E 7 = .int .i64 q1p.1 ∧ E 10 = .slice q0q q10.1.length c_y0_ret_12_1 ∧ E 11 = .int .i64 q10.2 ∧ E 12 = .pointer (some ⟨b12, 0, none⟩) ∧ E 13 = .pointer (some ⟨q13, 0, none⟩) ∧ E 14 = .pointer (some ⟨q0z, 0, none⟩) ∧ St w0 w (vec 63 R_rules_Fault.sz (.slice q0g q12.1.length c_y0_ret_3_1) q12.1.length q0p :: vec 63 R_rules_Fault.sz (.slice q0q q10.1.length c_y0_ret_12_1) q10.1.length q0x :: cells b12 31 [.int .i64 q3.1.W, .int .i64 q3.1.H, .int .i64 q3.1.Layers, .int .i64 q3.1.Nets, .slice q0h q14.length c_y0_ret_14_2, .slice q4 q3.1.Vias.length c_y0_ret_5_2_1, .slice q5 q3.1.Pins.length c_y0_ret_6_2_1, .slice q6 q3.1.Walls.length c_y0_ret_7_2_1] :: cells q13 44 [.int .i64 q2.Net, .int .i64 q2.Layer, .int .i64 q2.X0, .int .i64 q2.Y0, .int .i64 q0b, .int .i64 q0c] :: cells q0z 44 [.int .i64 q2.Net, .int .i64 q2.Layer, .int .i64 q9, .int .i64 q0a, .int .i64 q2.X1, .int .i64 q2.Y1] :: vec 44 R_rules_Wire.sz (.slice q0h q14.length c_y0_ret_14_2) q14.length q0y :: vec 47 R_rules_Via.sz (.slice q4 q3.1.Vias.length c_y0_ret_5_2_1) q3.1.Vias.length q0u :: vec 39 R_rules_Pin.sz (.slice q5 q3.1.Pins.length c_y0_ret_6_2_1) q3.1.Pins.length q0v :: vec 66 R_floor_Wall.sz (.slice q6 q3.1.Walls.length c_y0_ret_7_2_1) q3.1.Walls.length q0w :: ro ρ :: l)) ?_ ?_
   ·refine x_cond_p (q2.X0 < q2.X1) rfl (fun hc71 => ?_) (fun hc71 => ?_)
    ·replace hFc71 := nit_t hc71 hFc71
     replace hFc71 := nbd_s hFc71; obtain ⟨q1k, q2d, hFc71⟩ := hFc71
     refine x_seq <| x_region <| p (yl_move ((hE15 3 rfl).trans (hE11 3 rfl))) <| p (yl_field0 fld_44_2 ((hE15 8 rfl).trans (hE11 8 rfl))) <|
      pa (at_load one_3 rfl (hS.cell rfl)) <| p (yl_field0 fld_44_4 ((hE15 8 rfl).trans (hE11 8 rfl))) <| pa (at_load one_3 rfl (hS.cell rfl)) <| ?_
     have hcall := c_maskmake_Stream_Range q2d q1g ((hS.pull 5).pull 15)
     refine o_cc call_17 (args3 rfl rfl rfl) hcall ?_
     rintro e w' ⟨rfl, hS⟩
     refine ⟨_, rfl, ?_⟩
     refine p (yl_field0 fld_44_4 q0s) <| ?_
     refine o_store1 (v := .int .i64 q1k.1) one_3 rfl rfl rfl rfl (hS.pull 3) (fun w' hS => ?_)
     refine x_done <| x_region <| p (yl_field0 fld_44_4 q0s) <| pa (at_load one_3 rfl (hS.cell rfl)) <|
      p (yl_field0 fld_44_2 q11) <| ?_
     refine o_store1 (v := .int .i64 q1k.1) one_3 rfl rfl rfl rfl (hS.pull 4) (fun w' hS => ?_)
     refine x_done <| ?_
     exact x_inv ⟨(blkOf (Ep15 13)), (blkOf (Ep15 14)), q1k.1, q2.Y1, q1k.1, q2.Y0, hFc71, ((hE15 5 rfl).trans (hE11 5 rfl)), ((hE15 7 rfl).trans (hE11 7 rfl)), (hE15 10 rfl), (hE15 11 rfl), (hE15 12 rfl), q0s, q11, (((((((((((((((((hS.pull 2).drop.pull 3).drop.pull 4).drop.pull 5).drop.pull 9).drop.pull 9).drop.pull 9).drop.pull 2).pull 7).pull 7).pull 7).pull 7).pull 5).pull 6).pull 7).pull 8).pull 9)⟩
    ·replace hFc71 := nit_f hc71 hFc71
     replace hFc71 := nbd_s hFc71; obtain ⟨q1l, q2e, hFc71⟩ := hFc71
     refine x_seq <| x_region <| p (yl_move ((hE15 3 rfl).trans (hE11 3 rfl))) <| p (yl_field0 fld_44_3 ((hE15 8 rfl).trans (hE11 8 rfl))) <|
      pa (at_load one_3 rfl (hS.cell rfl)) <| p (yl_field0 fld_44_5 ((hE15 8 rfl).trans (hE11 8 rfl))) <| pa (at_load one_3 rfl (hS.cell rfl)) <| ?_
     have hcall := c_maskmake_Stream_Range q2e q1g ((hS.pull 5).pull 15)
     refine o_cc call_17 (args3 rfl rfl rfl) hcall ?_
     rintro e w' ⟨rfl, hS⟩
     refine ⟨_, rfl, ?_⟩
     refine p (yl_field0 fld_44_5 q0s) <| ?_
     refine o_store1 (v := .int .i64 q1l.1) one_3 rfl rfl rfl rfl (hS.pull 3) (fun w' hS => ?_)
     refine x_done <| x_region <| p (yl_field0 fld_44_5 q0s) <| pa (at_load one_3 rfl (hS.cell rfl)) <|
      p (yl_field0 fld_44_3 q11) <| ?_
     refine o_store1 (v := .int .i64 q1l.1) one_3 rfl rfl rfl rfl (hS.pull 4) (fun w' hS => ?_)
     refine x_done <| ?_
     exact x_inv ⟨(blkOf (Ep15 13)), (blkOf (Ep15 14)), q2.X1, q1l.1, q2.X0, q1l.1, hFc71, ((hE15 5 rfl).trans (hE11 5 rfl)), ((hE15 7 rfl).trans (hE11 7 rfl)), (hE15 10 rfl), (hE15 11 rfl), (hE15 12 rfl), q0s, q11, (((((((((((((((((hS.pull 2).drop.pull 3).drop.pull 4).drop.pull 5).drop.pull 9).drop.pull 9).drop.pull 9).drop.pull 2).pull 7).pull 7).pull 7).pull 7).pull 5).pull 6).pull 7).pull 8).pull 9)⟩
   rintro E w ⟨q13, q0z, q0b, q0c, q9, q0a, hq_, q1n, q2f, q1y, q1z, q1f, q20, q21, hS⟩
   replace hF := hF _ hq_
   clear hq_
   replace hF := nck_s hF; obtain ⟨q1o, hF⟩ := hF
   refine x_seq <| x_region <| p (yl_field0 fld_31_4 q1f) <| pa (at_load one_26 rfl ((hS.pull 2).cell rfl)) <|
    p (yl_move q2f) <| pa (v := .agg #[.int .i64 q2.Net, .int .i64 q2.Layer, .int .i64 q2.X0, .int .i64 q2.Y0, .int .i64 q0b, .int .i64 q0c]) (ld_sub agg_44 q20 rfl rfl (hS.pull 3)) <| p (yix_o sl_26 rfl rfl (hS.pull 5) q0i q1o) <| ?_
   replace hF := nlv_s hF; obtain ⟨q2v, q2g, hF⟩ := hF
   refine o_put' (news := [.int .i64 q2.Net, .int .i64 q2.Layer, .int .i64 q2.X0, .int .i64 q2.Y0, .int .i64 q0b, .int .i64 q0c]) sz_44 rfl rfl rfl rfl (o := 0) rfl q1o rfl (hS.pull 5) q0i (Le.refl _) (fun c hc => ok_all hc (show R_rules_Wire.ok ρ [.int .i64 q2.Net, .int .i64 q2.Layer, .int .i64 q2.X0, .int .i64 q2.Y0, .int .i64 q0b, .int .i64 q0c] (T_rules_Wire.mk q2.Net q2.Layer q2.X0 q2.Y0 q0b q0c) from rfl)) q2g (fun q2t w' q2h hS => ?_)
   refine x_done <| x_seq <| x_region <| p (yl_field0 fld_31_4 q1f) <|
    pa (at_load one_26 rfl ((hS.pull 3).cell rfl)) <| pa (v := .agg #[.int .i64 q2.Net, .int .i64 q2.Layer, .int .i64 q9, .int .i64 q0a, .int .i64 q2.X1, .int .i64 q2.Y1]) (ld_sub agg_44 q21 rfl rfl (hS.pull 5)) <| ?_
   refine o_buildSlice (vs := [.agg #[.int .i64 q2.Net, .int .i64 q2.Layer, .int .i64 q9, .int .i64 q0a, .int .i64 q2.X1, .int .i64 q2.Y1]]) (cs := [.int .i64 q2.Net, .int .i64 q2.Layer, .int .i64 q9, .int .i64 q0a, .int .i64 q2.X1, .int .i64 q2.Y1]) sl_26 zero_44 (parts_eq (pt (va := .agg #[.int .i64 q2.Net, .int .i64 q2.Layer, .int .i64 q9, .int .i64 q0a, .int .i64 q2.X1, .int .i64 q2.Y1]) rfl pt0)) rfl (by intro v hv; simp only [List.mem_cons, List.not_mem_nil, or_false] at hv; first | (subst hv; rfl) | (rcases hv with rfl <;> rfl)) (by decide) rfl hS (fun b100 w' hS => ?_)
   replace hF := nlv_s hF; obtain ⟨q1t, q2i, hF⟩ := hF
   replace hF := nck_s hF; obtain ⟨q2j, hF⟩ := hF
   refine o_ap sl_26 zero_44 rfl (by decide) rfl rfl (hS.pull 1) q2h (src_blk usl_26 hS rfl rfl) (RepL.cons (R := R_rules_Wire) (ρ := ρ) (x := (T_rules_Wire.mk q2.Net q2.Layer q9 q0a q2.X1 q2.Y1)) (cs := [.int .i64 q2.Net, .int .i64 q2.Layer, .int .i64 q9, .int .i64 q0a, .int .i64 q2.X1, .int .i64 q2.Y1]) rfl RepL.nil) q2i q2j (fun A101 c101 cs101 w' hr101 hS => ?_)
   refine p (yl_field0 fld_31_4 q1f) <| ?_
   refine o_store1 (v := .slice A101 q1t.length c101) one_26 rfl rfl rfl rfl (hS.pull 4) (fun w' hS => ?_)
   refine x_done <| x_seq <| x_region <| pa (v := .agg #[.int .i64 q3.1.W, .int .i64 q3.1.H, .int .i64 q3.1.Layers, .int .i64 q3.1.Nets, .slice A101 q1t.length c101, .slice q4 q3.1.Vias.length c_y0_ret_5_2_1, .slice q5 q3.1.Pins.length c_y0_ret_6_2_1, .slice q6 q3.1.Walls.length c_y0_ret_7_2_1]) (ld_sub agg_31 q1f rfl rfl hS) <| ?_
   have q_ := St.lend ((hS.pull 10).pull 2) hr101; obtain ⟨ρl0, hll0, hlf0, hS0, back0⟩ := q_
   have q_ := St.lend (hS0.pull 7) (q0l.le hll0); obtain ⟨ρl1, hll1, hlf1, hS1, back1⟩ := q_
   have q_ := St.lend (hS1.pull 7) (q0m.le (hll0.trans hll1)); obtain ⟨ρl2, hll2, hlf2, hS2, back2⟩ := q_
   have q_ := St.lend (hS2.pull 7) (q0n.le ((hll0.trans hll1).trans hll2)); obtain ⟨ρl3, hll3, hlf3, hS3, back3⟩ := q_
   have hcall := c_rules_Faults (nbd_c hF) (hlf0.le ((hll1.trans hll2).trans hll3)) (hlf1.le (hll2.trans hll3)) (hlf2.le hll3) hlf3 hS3
   refine o_cc call_21 (args1 rfl) hcall ?_
   rintro e w' ⟨q1m, hF, q1j, q26, c_y0_ret_23_1, q1h, rfl, q0t, hS⟩
   refine ⟨_, rfl, ?_⟩
   replace hS := back3 (hS.pull 1)
   replace hS := back2 (hS.pull 1)
   replace hS := back1 (hS.pull 1)
   replace hS := back0 (hS.pull 1)
   replace q0t : RepL R_rules_Fault ρ q1m.1 q1h := RepL.flat (fun h => h) q0t
   have e_ := St.vec_n (hS.pull 5) q0t; subst e_
   replace hF := nlv_s hF; obtain ⟨x113, hx113, hF⟩ := hF
   replace hF := nbd_s hF; obtain ⟨q2q, q2k, hF⟩ := hF
   refine p (yl_move rfl) <| p (yl_extract rfl rfl) <| p (yl_extract rfl rfl) <| p (yl_assign rfl) <|
    p (yl_assign rfl) <| x_done <| x_seq <| x_region <|
    p (yl_move q1z) <| p (yl_eql rfl rfl) <| p (yl_move rfl) <| pg (v := .int .i64 q1m.2) 110 (c := decide (q10.2 = 0)) (says_t _) (fun hq => Yl.at (yl_move rfl)) <|
    pg (v := .bool (decide (q1m.2 = 0))) 110 (c := decide (q10.2 = 0)) (says_t _) (fun hq => Yl.at (yl_eql (cv hq) rfl)) <| p (yand' rfl (fun hc => (cv hc)) rfl hx113) <| p (yl_move rfl) <| pg (v := .slice q0g q12.1.length c_y0_ret_3_1) 114 (c := x113) (says_t _) (fun hq => Yl.at (yl_move q1n)) <|
    pg (v := .slice q0q q10.1.length c_y0_ret_12_1) 114 (c := x113) (says_t _) (fun hq => Yl.at (yl_move q1y)) <|
    pccg (v := .bool q2q) 114 (c := x113) (says_t _) call_23 (fun hq => (args2 (cv hq) (cv hq))) hS (fun hq => by
     have q_ := St.lend ((hS.pull 1).pull 8) q0k; obtain ⟨ρl0, hll0, hlf0, hS0, back0⟩ := q_
     have q_ := St.lend (hS0.pull 8) (q0r.le hll0); obtain ⟨ρl1, hll1, hlf1, hS1, back1⟩ := q_
     have hcall := c_slices_Equal_rules_Fault_rules_Fault (gd_t q2k hq) (hlf0.le hll1) hlf1 hS1
     exact (Calls.mono hcall (fun e w'' h => And.intro h.1 (((((((((((((back0 ((back1 h.2).pull 1)).pull 11).pull 11).pull 4).pull 3).pull 11).pull 11).pull 11).pull 11).pull 11).pull 11).pull 10).pull 11)))) (fun w' hS => ?_)
   replace hF := nlv_s hF; obtain ⟨x118, hx118, hF⟩ := hF
   replace hF := nbd_s hF; obtain ⟨q2l, q22, hF⟩ := hF
   refine p (yand' rfl (fun hc => (cv hc)) rfl hx118) <| p (yl_move rfl) <| pg (v := .slice q0g q12.1.length c_y0_ret_3_1) 119 (c := x118) (says_t _) (fun hq => Yl.at (yl_move q1n)) <| pg (v := .slice q1j q1m.1.length c_y0_ret_23_1) 119 (c := x118) (says_t _) (fun hq => Yl.at (yl_move rfl)) <|
    pccg (v := .bool q2l) 119 (c := x118) (says_t _) call_23 (fun hq => (args2 (cv hq) (cv hq))) hS (fun hq => by
     have q_ := St.lend ((hS.pull 1).pull 8) q0k; obtain ⟨ρl0, hll0, hlf0, hS0, back0⟩ := q_
     have q_ := St.lend (hS0.pull 5) (q0t.le hll0); obtain ⟨ρl1, hll1, hlf1, hS1, back1⟩ := q_
     have hcall := c_slices_Equal_rules_Fault_rules_Fault (gd_t q22 hq) (hlf0.le hll1) hlf1 hS1
     exact (Calls.mono hcall (fun e w'' h => And.intro h.1 (((((((((((((back0 ((back1 h.2).pull 1)).pull 11).pull 11).pull 11).pull 3).pull 11).pull 11).pull 7).pull 11).pull 11).pull 11).pull 10).pull 11)))) (fun w' hS => ?_)
   replace hF := nlv_s hF; obtain ⟨x123, hx123, hF⟩ := hF
   refine p (yand' rfl (fun hc => (cv hc)) rfl hx123) <| p (yl_assign rfl) <| x_done <| ?_
   exact x_return ⟨_, ⟨_, _, rfl, rfl, rfl⟩, x123, hF, rfl, (((((((((((hS.drop.pull 1).drop.pull 1).drop.pull 1).drop.pull 1).drop.pull 1).drop.pull 1).drop.pull 1).drop.pull 1).drop.pull 1).drop.pull 1).drop)⟩
attribute [irreducible] P_maskkeep4_RulesTwice


end Go.Proofs.Ytnnmbmgnpdcefaa.X
