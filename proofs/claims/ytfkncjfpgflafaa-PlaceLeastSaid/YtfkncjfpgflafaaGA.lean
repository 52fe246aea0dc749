/- Printed by gen.py: plain functions, and that the Go code computes them. -/
import Derived.Test.YtfkncjfpgflafaaXI
import Derived.Test.YtfkncjfpgflafaaYW
import Derived.Test.YtfkncjfpgflafaaXT
import Derived.Test.YtfkncjfpgflafaaGAp0
import Derived.Test.YtfkncjfpgflafaaGAp1
import Derived.Test.YtfkncjfpgflafaaGAp2
import Derived.Test.YtfkncjfpgflafaaGAp3
namespace Go.Proofs.Ytfkncjfpgflafaa.X
set_option maxHeartbeats 4000000
set_option maxRecDepth 100000
open Go Go.RowKit
set_option linter.unusedVariables false
set_option linter.unusedSimpArgs false

def P_place_Length_L5 (q4 : List T_place_Spot) : Int → Option (Int ⊕ (Unit ⊕ (T_exact_Ratio × Int))) := fun q3 =>
 if q3 < (q4.length : Int) then
  ck (inb q3 q4.length) <|
  lv (gt q4 q3) fun q2 =>
  bd (P_exact_Check (T_exact_Ratio.mk (T_exact_Int.mk q2.X.Num.fneg q2.X.Num.fmag) (T_exact_Int.mk q2.X.Den.fneg q2.X.Den.fmag))) fun q6 =>
  if q6 ≠ 0 then
   some (Sum.inr (Sum.inr ((T_exact_Ratio.mk (T_exact_Int.mk false []) (T_exact_Int.mk false [])), q6)))
  else
   bd (P_exact_Check (T_exact_Ratio.mk (T_exact_Int.mk q2.Y.Num.fneg q2.Y.Num.fmag) (T_exact_Int.mk q2.Y.Den.fneg q2.Y.Den.fmag))) fun q5 =>
   if q5 ≠ 0 then
    some (Sum.inr (Sum.inr ((T_exact_Ratio.mk (T_exact_Int.mk false []) (T_exact_Int.mk false [])), q5)))
   else
    ar (q3 + 1) fun x52 =>
    some (Sum.inl x52)
 else
  some (Sum.inr (Sum.inl ()))
def P_place_Length_L20 (q5 : List T_place_Spot) (q6 : T_place_Pull) : (List T_exact_Ratio × List T_exact_Ratio × Int) → Option ((List T_exact_Ratio × List T_exact_Ratio × Int) ⊕ (List T_exact_Ratio × List T_exact_Ratio)) := fun (q3, q4, q2) =>
 if q2 < (q6.Cells.length : Int) then
  ck (inb q2 q6.Cells.length) <|
  lv (gt q6.Cells q2) fun x66 =>
  ck (inb x66 q5.length) <|
  lv (gt q5 x66) fun q0a =>
  lv (q3 ++ [q0a.X]) fun q8 =>
  ck (apOk 64 q8.length) <|
  ck (inb x66 q5.length) <|
  lv (gt q5 x66) fun q9 =>
  lv (q4 ++ [q9.Y]) fun q7 =>
  ck (apOk 64 q7.length) <|
  ar (q2 + 1) fun x83 =>
  some (Sum.inl (q8, q7, x83))
 else
  some (Sum.inr (q3, q4))
def P_place_Length_L25 (q5 : T_place_Pull) : (List T_exact_Ratio × List T_exact_Ratio × Int) → Option ((List T_exact_Ratio × List T_exact_Ratio × Int) ⊕ (List T_exact_Ratio × List T_exact_Ratio)) := fun (q3, q4, q2) =>
 if q2 < (q5.At.length : Int) then
  ck (inb q2 q5.At.length) <|
  lv (gt q5.At q2) fun q7 =>
  bd (P_exact_Whole q7.X) fun q9 =>
  lv (q3 ++ [q9]) fun q8 =>
  ck (apOk 64 q8.length) <|
  bd (P_exact_Whole q7.Y) fun q0a =>
  lv (q4 ++ [q0a]) fun q6 =>
  ck (apOk 64 q6.length) <|
  ar (q2 + 1) fun x103 =>
  some (Sum.inl (q8, q6, x103))
 else
  some (Sum.inr (q3, q4))
def P_place_Length_L30 (q0l : T_place_Pull) : (List (List T_exact_Ratio) × Int × Bool × List Int × Bool × List Int) → Option ((List (List T_exact_Ratio) × Int × Bool × List Int × Bool × List Int) ⊕ ((Bool × List Int × Bool × List Int) ⊕ (T_exact_Ratio × Int))) := fun (q8, q2, q3, q4, q5, q6) =>
 if q2 < 2 then
  ck (inb q2 q8.length) <|
  lv (gt q8 q2) fun q0m =>
  bd (P_place_squares q0m) fun q7 =>
  bd (
   if q7.2 = 0 then
    bd (P_exact_Whole q0l.Weight) fun q0n =>
    bd (P_exact_Prod q7.1 q0n) fun q9 =>
    some (q9.2, q9.1.Num.fneg, q9.1.Num.fmag, q9.1.Den.fneg, q9.1.Den.fmag)
   else
    some (q7.2, q7.1.Num.fneg, q7.1.Num.fmag, q7.1.Den.fneg, q7.1.Den.fmag)) fun (q0b, q0d, q0e, q0f, q0g) =>
  bd (
   if q0b = 0 then
    bd (P_exact_Sum (T_exact_Ratio.mk (T_exact_Int.mk q3 q4) (T_exact_Int.mk q5 q6)) (T_exact_Ratio.mk (T_exact_Int.mk q0d q0e) (T_exact_Int.mk q0f q0g))) fun q0a =>
    some (q0a.2, q0a.1.Num.fneg, q0a.1.Num.fmag, q0a.1.Den.fneg, q0a.1.Den.fmag)
   else
    some (q0b, q3, q4, q5, q6)) fun (q0c, q0h, q0i, q0j, q0k) =>
  if q0c ≠ 0 then
   some (Sum.inr (Sum.inr ((T_exact_Ratio.mk (T_exact_Int.mk false []) (T_exact_Int.mk false [])), q0c)))
  else
   ar (q2 + 1) fun x139 =>
   some (Sum.inl (q8, x139, q0h, q0i, q0j, q0k))
 else
  some (Sum.inr (Sum.inl (q3, q4, q5, q6)))
def P_place_Length_L16 (q0g : List T_place_Spot) (l_1 : List T_place_Pull) : (Int × Bool × List Int × Bool × List Int) → Option ((Int × Bool × List Int × Bool × List Int) ⊕ ((Bool × List Int × Bool × List Int) ⊕ (T_exact_Ratio × Int))) := fun (q2, q3, q4, q5, q6) =>
 if q2 < (l_1.length : Int) then
  ck (inb q2 l_1.length) <|
  lv (gt l_1 q2) fun q7 =>
  bd (
   lp (P_place_Length_L20 q0g q7) fuel ([], [], 0)) fun (q0c, q0d) =>
  bd (
   lp (P_place_Length_L25 q7) fuel (q0c, q0d, 0)) fun (q0e, q0f) =>
  bs (
   lp (P_place_Length_L30 q7) fuel (([q0e, q0f] : List (List T_exact_Ratio)), 0, q3, q4, q5, q6)) (fun y => some (Sum.inr (Sum.inr y))) fun (q8, q9, q0a, q0b) =>
  ar (q2 + 1) fun x140 =>
  some (Sum.inl (x140, q8, q9, q0a, q0b))
 else
  some (Sum.inr (Sum.inl (q3, q4, q5, q6)))
def P_place_Length (q7 : List T_place_Spot) (l_1 : List T_place_Pull) : Option (T_exact_Ratio × Int) :=
 bd (P_place_Check (q7.length : Int) l_1) fun q8 =>
 if q8 ≠ 0 then
  some ((T_exact_Ratio.mk (T_exact_Int.mk false []) (T_exact_Int.mk false [])), q8)
 else
  bs (
   lp (P_place_Length_L5 q7) fuel 0) (fun y => some y) fun _ =>
  bd (P_exact_Whole 0) fun q2 =>
  bs (
   lp (P_place_Length_L16 q7 l_1) fuel (0, q2.Num.fneg, q2.Num.fmag, q2.Den.fneg, q2.Den.fmag)) (fun y => some y) fun (q3, q4, q5, q6) =>
  some ((T_exact_Ratio.mk (T_exact_Int.mk q3 q4) (T_exact_Int.mk q5 q6)), (0 : Int))
theorem c_place_Length {w0 w : World} {l : List Assn} {ρ : Heap} {q0b : Option Addr} {q9f : Nat} {c_at_0 : Nat} {q26 : Option Addr} {qag : Nat} {c_l_1 : Nat} {q1g : List T_place_Spot} {l_1 : List T_place_Pull} {r : (T_exact_Ratio × Int)} (hF : P_place_Length q1g l_1 = some r) (q3j : RdS R_place_Spot ρ q0b q9f c_at_0 q1g) (q7h : RdS R_place_Pull ρ q26 qag c_l_1 l_1) (hS : St w0 w (ro ρ :: l)) :
  Calls Try.prog 13 #[.slice q0b q9f c_at_0, .slice q26 qag c_l_1] w fun e w' => ∃ (ρ' : Heap) (q6m : Option Addr) (q6n : Nat) (c_y0_ret_1 : Nat) (q6o : Option Addr) (q6p : Nat) (c_y0_ret_3 : Nat), e = .returned (.tuple #[.agg #[.bool r.1.Num.fneg, .slice q6m q6n c_y0_ret_1, .bool r.1.Den.fneg, .slice q6o q6p c_y0_ret_3], .int .i64 r.2]) ∧ Le ρ ρ' ∧ RdS (RpI .u32) ρ' q6m q6n c_y0_ret_1 r.1.Num.fmag ∧ RdS (RpI .u32) ρ' q6o q6p c_y0_ret_3 r.1.Den.fmag ∧ St w0 w' (ro ρ' :: l) := by
 have e_ := q3j.n; subst e_
 have e_ := q7h.n; subst e_
 refine enterC Try.func13 rfl 142 rfl (by simp) ?_
 refine x_seq <| x_region <| ?_
 refine o_alloc zero_43 hS (fun b4 w' hS => ?_)
 replace hF := bd_s hF; obtain ⟨q7i, qcs, hF⟩ := hF
 refine p (yl_assign rfl) <| x_done <| x_seq <| x_seq <|
  x_region <| p (yl_move rfl) <| p (yl_len_slice usl_29 rfl) <| p (yl_move rfl) <| ?_
 have hcall := c_place_Check qcs q7h (hS.pull 1)
 refine o_cc call_21 (args2 rfl rfl) ((Calls.mono hcall (fun e w'' h => And.intro h.1 (h.2.pull 1)))) ?_
 rintro e w' ⟨rfl, hS⟩
 refine ⟨_, rfl, ?_⟩
 refine p (v := .int .i64 q7i) (yl_assign rfl) <| x_done <| x_seq <| x_region <|
  p (v := .int .i64 q7i) (yl_move rfl) <| p (yl_neq rfl rfl) <| x_done <|
  x_cond_p (q7i ≠ 0) rfl (fun hc29 => ?_) (fun hc29 => ?_)
 ·replace hF := it_t hc29 hF
  refine x_seq <| x_region <| p (v := .agg #[.bool false, .slice none 0 0, .bool false, .slice none 0 0]) (yl_build bld_43 bldf_43 (parts_eq pt0) (by kernel_rfl)) <| p (v := .int .i64 q7i) (yl_move rfl) <| ?_
  refine o_storeAgg (news := [.bool false, .slice none 0 0, .bool false, .slice none 0 0]) agg_43 rfl rfl rfl (by simp [over_length]) hS (fun w' hS => ?_)
  refine p (v := .int .i64 q7i) (yl_assign rfl) <| x_done <| ?_
  have e_ := sinj hF; subst e_
  exact x_return ⟨_, ⟨_, _, _, rfl, rfl, ldvA agg_43 rfl (fun j v hj => by rw [add0]; exact St.cell hS hj), _, _, rfl, rfl, rfl⟩, ρ, none, 0, 0, none, 0, 0, rfl, (Le.refl _), (RdS.nil (A := none) (c := 0)), (RdS.nil (A := none) (c := 0)), hS.drop⟩
 ·replace hF := it_f hc29 hF
  refine x_skip <| x_seq <| x_seq <| x_region <|
   p (yl_move rfl) <| p (yl_len_slice usl_29 rfl) <| p (yl_move rfl) <| x_done <| ?_
  replace hF := bs_s hF; obtain ⟨oL5, hLL5, hF⟩ := hF
  refine x_join (fun E w => (Sum.inl (())) = oL5 ∧ E 0 = .slice q0b q1g.length c_at_0 ∧ E 1 = .slice q26 l_1.length c_l_1 ∧ E 4 = .pointer (some ⟨b4, 0, none⟩) ∧ St w0 w (cells b4 43 [.bool false, .slice none 0 0, .bool false, .slice none 0 0] :: ro ρ :: l)) ?_ ?_
  ·refine x_block ?_
   refine x_loop (fun k_ E w => ∃ (q5f : Int), lp (P_place_Length_L5 q1g) k_ q5f = some oL5 ∧ E 0 = .slice q0b q1g.length c_at_0 ∧ E 1 = .slice q26 l_1.length c_l_1 ∧ E 4 = .pointer (some ⟨b4, 0, none⟩) ∧ E 32 = .slice q0b q1g.length c_at_0 ∧ E 33 = .int .i64 (q1g.length : Int) ∧ E 34 = .int .i64 q5f ∧ St w0 w (cells b4 43 [.bool false, .slice none 0 0, .bool false, .slice none 0 0] :: ro ρ :: l)) fuel ⟨0, hLL5, rfl, rfl, rfl, rfl, rfl, rfl, ((hS.pull 1).pull 1)⟩ ?_
   rintro kL5 E w ⟨q5f, hLL5, q9g, q9h, q4s, q8x, q8y, q74, hS⟩
   replace hLL5 := lp_s hLL5; obtain ⟨kL5, obL5, rfl, hFL5, hLL5⟩ := hLL5
   refine x_seq <| x_region <| p (yl_lss q74 q8y) <| x_done <|
    x_seq <|
    x_cond_p (q5f < (q1g.length : Int)) rfl (fun hc35 => ?_) (fun hc35 => ?_)
   ·replace hFL5 := it_t hc35 hFL5
    replace hFL5 := ck_s hFL5; obtain ⟨qah, hFL5⟩ := hFL5
    replace hFL5 := lv_s hFL5; obtain ⟨q1k, qct, hFL5⟩ := hFL5
    have q_ := q3j.get qah; obtain ⟨qdy, qai, qcu⟩ := q_
    rw [← qct] at qai
    obtain ⟨q7j, qdp, q7k, q7l, qdq, q7m, q7n, qdr, q7o, q7p, qds, q7q, rfl, q9i, q9j, q9k, q9l⟩ := qai
    have e_ := q9i.n; subst e_
    have e_ := q9j.n; subst e_
    have e_ := q9k.n; subst e_
    have e_ := q9l.n; subst e_
    refine x_skip <| x_seq <| x_block <| x_seq <|
     x_region <| p (yix_f sl_29 q8x q74 q3j qah) <| pa (v := .agg #[.bool q1k.X.Num.fneg, .slice q7j q1k.X.Num.fmag.length q7k, .bool q1k.X.Den.fneg, .slice q7l q1k.X.Den.fmag.length q7m, .bool q1k.Y.Num.fneg, .slice q7n q1k.Y.Num.fmag.length q7o, .bool q1k.Y.Den.fneg, .slice q7p q1k.Y.Den.fmag.length q7q]) (at_loadAgg agg_45 rfl rfl (Elt.every qcu (hS.pull 1))) <| ?_
    refine o_alloc zero_45 hS (fun b8 w' hS => ?_)
    refine o_storeAgg (news := [.bool q1k.X.Num.fneg, .slice q7j q1k.X.Num.fmag.length q7k, .bool q1k.X.Den.fneg, .slice q7l q1k.X.Den.fmag.length q7m, .bool q1k.Y.Num.fneg, .slice q7n q1k.Y.Num.fmag.length q7o, .bool q1k.Y.Den.fneg, .slice q7p q1k.Y.Den.fmag.length q7q]) agg_45 rfl rfl rfl (by simp [over_length]) hS (fun w' hS => ?_)
    replace hFL5 := bd_s hFL5; obtain ⟨q7r, qcv, hFL5⟩ := hFL5
    refine x_done <| x_seq <| x_seq <| x_region <|
     p (yl_field0 fld_45_0 rfl) <| pa (v := .agg #[.bool q1k.X.Num.fneg, .slice q7j q1k.X.Num.fmag.length q7k, .bool q1k.X.Den.fneg, .slice q7l q1k.X.Den.fmag.length q7m]) (ld_sub agg_43 rfl rfl rfl hS) <| ?_
    have hcall := c_exact_Check qcv q9i q9j (hS.pull 2)
    refine o_cc call_31 (args1 rfl) ((Calls.mono hcall (fun e w'' h => And.intro h.1 ((h.2.pull 2).pull 2)))) ?_
    rintro e w' ⟨rfl, hS⟩
    refine ⟨_, rfl, ?_⟩
    refine p (v := .int .i64 q7r) (yl_assign rfl) <| x_done <| x_seq <| x_region <|
     p (v := .int .i64 q7r) (yl_move rfl) <| p (yl_neq rfl rfl) <| x_done <|
     x_cond_p (q7r ≠ 0) rfl (fun hc42 => ?_) (fun hc42 => ?_)
    ·replace hFL5 := it_t hc42 hFL5
     refine x_seq <| x_region <| p (v := .agg #[.bool false, .slice none 0 0, .bool false, .slice none 0 0]) (yl_build bld_43 bldf_43 (parts_eq pt0) (by kernel_rfl)) <| p (v := .int .i64 q7r) (yl_move rfl) <| ?_
     refine o_storeAgg (news := [.bool false, .slice none 0 0, .bool false, .slice none 0 0]) agg_43 q4s rfl rfl (by simp [over_length]) (hS.pull 1) (fun w' hS => ?_)
     refine p (v := .int .i64 q7r) (yl_assign rfl) <| x_done <| ?_
     have e_ := sinj hFL5; subst e_
     have e_ := (show _ = oL5 from hLL5); subst e_
     have e_ := sinj hF; subst e_
     exact x_return ⟨_, ⟨_, _, _, rfl, q4s, ldvA agg_43 rfl (fun j v hj => by rw [add0]; exact St.cell hS hj), _, _, rfl, rfl, rfl⟩, ρ, none, 0, 0, none, 0, 0, rfl, (Le.refl _), (RdS.nil (A := none) (c := 0)), (RdS.nil (A := none) (c := 0)), hS.drop.drop⟩
    ·replace hFL5 := it_f hc42 hFL5
     replace hFL5 := bd_s hFL5; obtain ⟨q6q, qbz, hFL5⟩ := hFL5
     refine x_skip <| x_seq <| x_region <| p (yl_field0 fld_45_1 rfl) <|
      pa (v := .agg #[.bool q1k.Y.Num.fneg, .slice q7n q1k.Y.Num.fmag.length q7o, .bool q1k.Y.Den.fneg, .slice q7p q1k.Y.Den.fmag.length q7q]) (ld_sub agg_43 rfl rfl rfl hS) <| ?_
     have hcall := c_exact_Check qbz q9k q9l (hS.pull 2)
     refine o_cc call_31 (args1 rfl) ((Calls.mono hcall (fun e w'' h => And.intro h.1 ((h.2.pull 2).pull 2)))) ?_
     rintro e w' ⟨rfl, hS⟩
     refine ⟨_, rfl, ?_⟩
     refine p (v := .int .i64 q6q) (yl_assign rfl) <| x_done <| x_seq <| x_region <|
      p (v := .int .i64 q6q) (yl_move rfl) <| p (yl_neq rfl rfl) <| x_done <|
      x_cond_p (q6q ≠ 0) rfl (fun hc49 => ?_) (fun hc49 => ?_)
     ·replace hFL5 := it_t hc49 hFL5
      refine x_seq <| x_region <| p (v := .agg #[.bool false, .slice none 0 0, .bool false, .slice none 0 0]) (yl_build bld_43 bldf_43 (parts_eq pt0) (by kernel_rfl)) <| p (v := .int .i64 q6q) (yl_move rfl) <| ?_
      refine o_storeAgg (news := [.bool false, .slice none 0 0, .bool false, .slice none 0 0]) agg_43 q4s rfl rfl (by simp [over_length]) (hS.pull 1) (fun w' hS => ?_)
      refine p (v := .int .i64 q6q) (yl_assign rfl) <| x_done <| ?_
      have e_ := sinj hFL5; subst e_
      have e_ := (show _ = oL5 from hLL5); subst e_
      have e_ := sinj hF; subst e_
      exact x_return ⟨_, ⟨_, _, _, rfl, q4s, ldvA agg_43 rfl (fun j v hj => by rw [add0]; exact St.cell hS hj), _, _, rfl, rfl, rfl⟩, ρ, none, 0, 0, none, 0, 0, rfl, (Le.refl _), (RdS.nil (A := none) (c := 0)), (RdS.nil (A := none) (c := 0)), hS.drop.drop⟩
     ·replace hFL5 := it_f hc49 hFL5
      replace hFL5 := ar_s hFL5; obtain ⟨x52, hx52, hFL5⟩ := hFL5
      refine x_skip <| x_blk <| x_region <| p (yadd q74 rfl hx52) <|
       p (yl_move rfl) <| x_done <| ?_
      have e_ := sinj hFL5; subst e_
      exact x_inv ⟨kL5, Nat.lt_succ_self _, x52, hLL5, q9g, q9h, q4s, q8x, q8y, rfl, ((hS.drop.pull 1).pull 1)⟩
   ·replace hFL5 := it_f hc35 hFL5
    refine x_exitTo _ rfl <| ?_
    have e_ := sinj hFL5; subst e_
    exact x_inv ⟨hLL5, q9g, q9h, q4s, ((hS.pull 1).pull 1)⟩
  rintro E w ⟨rfl, qcw, qcx, qcy, hS⟩
  replace hF := bd_s hF; obtain ⟨q2n, qc0, hF⟩ := hF
  refine x_seq <| x_region <| ?_
  have hcall := c_exact_Whole qc0  (hS.pull 1)
  refine o_cc call_11 (args1 rfl) hcall ?_
  rintro e w' ⟨q75, q41, qaj, c_y0_ret_1_14_0, q42, qak, c_y0_ret_3_14_0, rfl, q0s, q43, q44, hS⟩
  refine ⟨_, rfl, ?_⟩
  have e_ := q43.n; subst e_
  have e_ := q44.n; subst e_
  refine o_alloc zero_43 hS (fun b11 w' hS => ?_)
  refine o_storeAgg (news := [.bool q2n.Num.fneg, .slice q41 q2n.Num.fmag.length c_y0_ret_1_14_0, .bool q2n.Den.fneg, .slice q42 q2n.Den.fmag.length c_y0_ret_3_14_0]) agg_43 rfl rfl rfl (by simp [over_length]) hS (fun w' hS => ?_)
  refine x_done <| x_seq <| x_seq <| x_region <|
   p (yl_move qcx) <| p (yl_len_slice usl_27 rfl) <| p (yl_move rfl) <| x_done <| ?_
  replace hF := bs_s hF; obtain ⟨oL16, hLL16, hF⟩ := hF
  refine x_join (fun E w => ∃ (q5g : Heap) (q21 : Option Addr) (q4g : Nat) (c_b11_1_L16 : Nat) (q22 : Option Addr) (q4h : Nat) (c_b11_3_L16 : Nat) (q2z : Bool) (q28 : List Int) (q30 : Bool) (q29 : List Int), (Sum.inl (q2z, q28, q30, q29)) = oL16 ∧ Le q75 q5g ∧ E 4 = .pointer (some ⟨b4, 0, none⟩) ∧ E 11 = .pointer (some ⟨b11, 0, none⟩) ∧ RdS (RpI .u32) q5g q21 q4g c_b11_1_L16 q28 ∧ RdS (RpI .u32) q5g q22 q4h c_b11_3_L16 q29 ∧ St w0 w (cells b4 43 [.bool false, .slice none 0 0, .bool false, .slice none 0 0] :: cells b11 43 [.bool q2z, .slice q21 q4g c_b11_1_L16, .bool q30, .slice q22 q4h c_b11_3_L16] :: ro q5g :: l)) ?_ ?_
  ·refine x_block ?_
   refine x_loop (fun k_ E w => ∃ (q0a : Heap) (q0k : Option Addr) (q3k : Nat) (c_b11_1_L16h : Nat) (q0l : Option Addr) (q3l : Nat) (c_b11_3_L16h : Nat) (q1h : Int) (q0q : Bool) (q0m : List Int) (q0r : Bool) (q0n : List Int), lp (P_place_Length_L16 q1g l_1) k_ (q1h, q0q, q0m, q0r, q0n) = some oL16 ∧ Le q75 q0a ∧ E 0 = .slice q0b q1g.length c_at_0 ∧ E 4 = .pointer (some ⟨b4, 0, none⟩) ∧ E 11 = .pointer (some ⟨b11, 0, none⟩) ∧ E 54 = .slice q26 l_1.length c_l_1 ∧ E 55 = .int .i64 (l_1.length : Int) ∧ E 56 = .int .i64 q1h ∧ RdS (RpI .u32) q0a q0k q3k c_b11_1_L16h q0m ∧ RdS (RpI .u32) q0a q0l q3l c_b11_3_L16h q0n ∧ St w0 w (cells b4 43 [.bool false, .slice none 0 0, .bool false, .slice none 0 0] :: cells b11 43 [.bool q0q, .slice q0k q3k c_b11_1_L16h, .bool q0r, .slice q0l q3l c_b11_3_L16h] :: ro q0a :: l)) fuel ⟨q75, q41, q2n.Num.fmag.length, c_y0_ret_1_14_0, q42, q2n.Den.fmag.length, c_y0_ret_3_14_0, 0, q2n.Num.fneg, q2n.Num.fmag, q2n.Den.fneg, q2n.Den.fmag, hLL16, (Le.refl _), qcw, qcy, rfl, rfl, rfl, rfl, q43, q44, (((hS.pull 1).pull 1).pull 2)⟩ ?_
   rintro kL16 E w ⟨q0a, q0k, q3k, c_b11_1_L16h, q0l, q3l, c_b11_3_L16h, q1h, q0q, q0m, q0r, q0n, hLL16, q0e, qay, q8z, q7s, q7t, q7u, q6c, q3m, q3n, hS⟩
   have e_ := q3m.n; subst e_
   have e_ := q3n.n; subst e_
   replace hLL16 := lp_s hLL16; obtain ⟨kL16, obL16, rfl, hFL16, hLL16⟩ := hLL16
   refine x_seq <| x_region <| p (yl_lss q6c q7u) <| x_done <|
    x_seq <|
    x_cond_p (q1h < (l_1.length : Int)) rfl (fun hc57 => ?_) (fun hc57 => ?_)
   ·replace hFL16 := it_t hc57 hFL16
    replace hFL16 := ck_s hFL16; obtain ⟨q9m, hFL16⟩ := hFL16
    replace hFL16 := lv_s hFL16; obtain ⟨q7, qc1, hFL16⟩ := hFL16
    have q_ := q7h.get q9m; obtain ⟨qdt, q9n, qc2⟩ := q_
    rw [← qc1] at q9n
    obtain ⟨q0x, qdd, q0y, q0z, qde, q10, rfl, q76, q77⟩ := q9n
    have e_ := q76.n; subst e_
    have e_ := q77.n; subst e_
    refine x_skip <| x_seq <| x_block <| x_seq <|
     x_region <| p (yix_f sl_27 q7t q6c (q7h.le (q0s.trans q0e)) q9m) <| pa (v := .agg #[.int .i64 q7.Weight, .slice q0x q7.Cells.length q0y, .slice q0z q7.At.length q10]) (at_loadAgg agg_36 rfl rfl (Elt.every (Elt.le qc2 (q0s.trans q0e)) (hS.pull 2))) <| ?_
    refine o_alloc zero_36 hS (fun b13 w' hS => ?_)
    refine o_storeAgg (news := [.int .i64 q7.Weight, .slice q0x q7.Cells.length q0y, .slice q0z q7.At.length q10]) agg_36 rfl rfl rfl (by simp [over_length]) hS (fun w' hS => ?_)
    refine x_done <| x_seq <| x_region <| p (yl_assign rfl) <|
     p (yl_assign rfl) <| x_done <| x_seq <| x_seq <|
     x_region <| p (yl_field0 fld_36_1 rfl) <| pa (at_load one_22 rfl (hS.cell rfl)) <| p (yl_len_slice usl_22 rfl) <|
     p (yl_move rfl) <| x_done <| ?_
    replace hFL16 := bd_s hFL16; obtain ⟨oL20, hLL20, hFL16⟩ := hFL16
    refine x_join (fun E w => ∃ (q34 : Option Addr) (q35 : Nat) (c_xs14_L20 : Nat) (q2o : List Value) (q36 : Option Addr) (q37 : Nat) (c_ys15_L20 : Nat) (q2p : List Value) (q3o : List T_exact_Ratio) (q3p : List T_exact_Ratio), (q3o, q3p) = oL20 ∧ E 0 = .slice q0b q1g.length c_at_0 ∧ E 4 = .pointer (some ⟨b4, 0, none⟩) ∧ E 11 = .pointer (some ⟨b11, 0, none⟩) ∧ E 13 = .pointer (some ⟨b13, 0, none⟩) ∧ E 14 = .slice q34 q35 c_xs14_L20 ∧ E 15 = .slice q36 q37 c_ys15_L20 ∧ E 54 = .slice q26 l_1.length c_l_1 ∧ E 55 = .int .i64 (l_1.length : Int) ∧ E 56 = .int .i64 q1h ∧ RepL R_exact_Ratio q0a q3o q2o ∧ RepL R_exact_Ratio q0a q3p q2p ∧ St w0 w (cells b4 43 [.bool false, .slice none 0 0, .bool false, .slice none 0 0] :: cells b11 43 [.bool q0q, .slice q0k q0m.length c_b11_1_L16h, .bool q0r, .slice q0l q0n.length c_b11_3_L16h] :: cells b13 36 [.int .i64 q7.Weight, .slice q0x q7.Cells.length q0y, .slice q0z q7.At.length q10] :: vec 43 R_exact_Ratio.sz (.slice q34 q35 c_xs14_L20) q35 q2o :: vec 43 R_exact_Ratio.sz (.slice q36 q37 c_ys15_L20) q37 q2p :: ro q0a :: l)) ?_ ?_
    ·refine x_block ?_
     replace hS := St.vec_nil hS 43 R_exact_Ratio.sz
     have q6d : RepL R_exact_Ratio q0a [] [] := rfl
     replace hS := St.vec_nil hS 43 R_exact_Ratio.sz
     have q6e : RepL R_exact_Ratio q0a [] [] := rfl
     refine x_loop (fun k_ E w => ∃ (q11 : Option Addr) (q2q : Nat) (c_xs14_L20h : Nat) (q1v : List Value) (q12 : Option Addr) (q2r : Nat) (c_ys15_L20h : Nat) (q1w : List Value) (q0t : List T_exact_Ratio) (q0u : List T_exact_Ratio) (q50 : Int), lp (P_place_Length_L20 q1g q7) k_ (q0t, q0u, q50) = some oL20 ∧ E 0 = .slice q0b q1g.length c_at_0 ∧ E 4 = .pointer (some ⟨b4, 0, none⟩) ∧ E 11 = .pointer (some ⟨b11, 0, none⟩) ∧ E 13 = .pointer (some ⟨b13, 0, none⟩) ∧ E 14 = .slice q11 q2q c_xs14_L20h ∧ E 15 = .slice q12 q2r c_ys15_L20h ∧ E 54 = .slice q26 l_1.length c_l_1 ∧ E 55 = .int .i64 (l_1.length : Int) ∧ E 56 = .int .i64 q1h ∧ E 61 = .slice q0x q7.Cells.length q0y ∧ E 62 = .int .i64 (q7.Cells.length : Int) ∧ E 63 = .int .i64 q50 ∧ RepL R_exact_Ratio q0a q0t q1v ∧ RepL R_exact_Ratio q0a q0u q1w ∧ St w0 w (cells b4 43 [.bool false, .slice none 0 0, .bool false, .slice none 0 0] :: cells b11 43 [.bool q0q, .slice q0k q0m.length c_b11_1_L16h, .bool q0r, .slice q0l q0n.length c_b11_3_L16h] :: cells b13 36 [.int .i64 q7.Weight, .slice q0x q7.Cells.length q0y, .slice q0z q7.At.length q10] :: vec 43 R_exact_Ratio.sz (.slice q11 q2q c_xs14_L20h) q2q q1v :: vec 43 R_exact_Ratio.sz (.slice q12 q2r c_ys15_L20h) q2r q1w :: ro q0a :: l)) fuel ⟨none, 0, 0, [], none, 0, 0, [], [], [], 0, hLL20, qay, q8z, q7s, rfl, rfl, rfl, q7t, q7u, q6c, rfl, rfl, rfl, q6d, q6e, ((((((hS.pull 5).pull 1).pull 2).pull 3).pull 5).pull 5)⟩ ?_
     rintro kL20 E w ⟨q11, q2q, c_xs14_L20h, q1v, q12, q2r, c_ys15_L20h, q1w, q0t, q0u, q50, hLL20, q5h, q90, q7v, q7w, q7x, q7y, q7z, q80, q81, q82, q83, q6f, q4i, q4j, hS⟩
     have e_ := St.vec_n (hS.pull 3) q4i; subst e_
     have e_ := St.vec_n (hS.pull 4) q4j; subst e_
     replace hLL20 := lp_s hLL20; obtain ⟨kL20, obL20, rfl, hFL20, hLL20⟩ := hLL20
     refine x_seq <| x_region <| p (yl_lss q6f q83) <| x_done <|
      x_seq <|
      x_cond_p (q50 < (q7.Cells.length : Int)) rfl (fun hc64 => ?_) (fun hc64 => ?_)
     ·replace hFL20 := it_t hc64 hFL20
      replace hFL20 := ck_s hFL20; obtain ⟨q9o, hFL20⟩ := hFL20
      replace hFL20 := lv_s hFL20; obtain ⟨x66, hx66, hFL20⟩ := hFL20
      refine x_skip <| x_seq <| x_block <| x_seq <|
       x_region <| p (yix_f sl_22 q82 q6f (q76.le (q0s.trans q0e)) q9o) <| pa (at_load one_3 rfl (RdS.getW (q76.le (q0s.trans q0e)) (hS.pull 5) q9o hx66)) <| p (yl_assign rfl) <|
       x_done <| ?_
      replace hFL20 := ck_s hFL20; obtain ⟨q9p, hFL20⟩ := hFL20
      replace hFL20 := lv_s hFL20; obtain ⟨q6, qc3, hFL20⟩ := hFL20
      replace hFL20 := lv_s hFL20; obtain ⟨q1t, qc4, hFL20⟩ := hFL20
      replace hFL20 := ck_s hFL20; obtain ⟨qc5, hFL20⟩ := hFL20
      replace hFL20 := ck_s hFL20; obtain ⟨q91, hFL20⟩ := hFL20
      replace hFL20 := lv_s hFL20; obtain ⟨q3, qaz, hFL20⟩ := hFL20
      replace hFL20 := lv_s hFL20; obtain ⟨q1i, qb0, hFL20⟩ := hFL20
      replace hFL20 := ck_s hFL20; obtain ⟨qb1, hFL20⟩ := hFL20
      refine x_par (w0 := w0) [⟨[], [], [67], [], [], []⟩, ⟨[], [], [68], [], [], []⟩, ⟨[], [], [69], [], [], []⟩, ⟨[1, 2], [1, 2], [70], [0], [], []⟩, ⟨[1, 2, 3], [3], [71], [], [], []⟩, ⟨[1, 2, 3, 4], [4], [72], [0], [], []⟩, ⟨[1, 2, 3, 4, 5], [5], [73], [], [], [1]⟩, ⟨[0, 1, 2, 3, 4, 5, 6], [0, 5, 6], [74], [1, 0], [2], [3]⟩, ⟨[], [], [75], [], [], []⟩, ⟨[], [], [76], [], [], []⟩, ⟨[], [], [77], [], [], []⟩, ⟨[9, 10], [9, 10], [78], [0], [], []⟩, ⟨[9, 10, 11], [11], [79], [], [], []⟩, ⟨[9, 10, 11, 12], [12], [80], [0], [], []⟩, ⟨[9, 10, 11, 12, 13], [13], [81], [], [], [4]⟩, ⟨[0, 1, 2, 3, 4, 5, 6, 7, 8, 9, 10, 11, 12, 13, 14], [8, 13, 14], [82], [4, 0], [5], [6]⟩, ⟨[0, 1, 2, 3, 4, 5, 6, 7, 8, 9, 10, 11, 12, 13, 14, 15], [7], [14, 74], [], [], []⟩, ⟨[0, 1, 2, 3, 4, 5, 6, 7, 8, 9, 10, 11, 12, 13, 14, 15, 16], [15], [15, 82], [], [], []⟩] [⟨none, none, []⟩, ⟨(some 6), none, [72, 73]⟩, ⟨none, (some 7), []⟩, ⟨(some 7), none, [74]⟩, ⟨(some 14), none, [80, 81]⟩, ⟨none, (some 15), []⟩, ⟨(some 15), none, [82]⟩] [14, 15, 67, 68, 69, 70, 71, 72, 73, 74, 75, 76, 77, 78, 79, 80, 81, 82] [0, 2, 5] [0, 1, 3, 4, 6] [0, 1, 2, 3, 4, 5, 6, 7, 8, 9, 10, 11, 12, 13, 14, 15, 16, 17] [fun Ep22 => Ep22 67 = .slice q11 q0t.length c_xs14_L20h, fun Ep22 => Ep22 68 = .slice q0b q1g.length c_at_0, fun Ep22 => Ep22 69 = .int .i64 x66, fun Ep22 => Ep22 70 = .pointer (some ((adr q0b).add (x66.toNat * R_place_Spot.sz))), fun Ep22 => Ep22 71 = .pointer (some (((adr q0b).add (x66.toNat * R_place_Spot.sz)).add 0)), fun Ep22 => Ep22 72 = .agg #[.bool q6.X.Num.fneg, .slice (adOf (partOf 1 (Ep22 72))) q6.X.Num.fmag.length (capOf (partOf 1 (Ep22 72))), .bool q6.X.Den.fneg, .slice (adOf (partOf 3 (Ep22 72))) q6.X.Den.fmag.length (capOf (partOf 3 (Ep22 72)))] ∧ RdS (RpI .u32) ρ (adOf (partOf 1 (Ep22 72))) q6.X.Num.fmag.length (capOf (partOf 1 (Ep22 72))) q6.X.Num.fmag ∧ RdS (RpI .u32) ρ (adOf (partOf 3 (Ep22 72))) q6.X.Den.fmag.length (capOf (partOf 3 (Ep22 72))) q6.X.Den.fmag, fun Ep22 => Ep22 73 = .slice (some ⟨(blkOf (Ep22 73)), 0, none⟩) 1 1, fun Ep22 => Ep22 74 = .slice (adOf (Ep22 74)) q1t.length (capOf (Ep22 74)), fun Ep22 => Ep22 75 = .slice q12 q0u.length c_ys15_L20h, fun Ep22 => Ep22 76 = .slice q0b q1g.length c_at_0, fun Ep22 => Ep22 77 = .int .i64 x66, fun Ep22 => Ep22 78 = .pointer (some ((adr q0b).add (x66.toNat * R_place_Spot.sz))), fun Ep22 => Ep22 79 = .pointer (some (((adr q0b).add (x66.toNat * R_place_Spot.sz)).add 4)), fun Ep22 => Ep22 80 = .agg #[.bool q3.Y.Num.fneg, .slice (adOf (partOf 1 (Ep22 80))) q3.Y.Num.fmag.length (capOf (partOf 1 (Ep22 80))), .bool q3.Y.Den.fneg, .slice (adOf (partOf 3 (Ep22 80))) q3.Y.Den.fmag.length (capOf (partOf 3 (Ep22 80)))] ∧ RdS (RpI .u32) ρ (adOf (partOf 1 (Ep22 80))) q3.Y.Num.fmag.length (capOf (partOf 1 (Ep22 80))) q3.Y.Num.fmag ∧ RdS (RpI .u32) ρ (adOf (partOf 3 (Ep22 80))) q3.Y.Den.fmag.length (capOf (partOf 3 (Ep22 80))) q3.Y.Den.fmag, fun Ep22 => Ep22 81 = .slice (some ⟨(blkOf (Ep22 81)), 0, none⟩) 1 1, fun Ep22 => Ep22 82 = .slice (adOf (Ep22 82)) q1i.length (capOf (Ep22 82)), fun Ep22 => Ep22 14 = .slice (adOf (Ep22 74)) q1t.length (capOf (Ep22 74)), fun Ep22 => Ep22 15 = .slice (adOf (Ep22 82)) q1i.length (capOf (Ep22 82))] [fun Ep22 => ro q0a, fun Ep22 => cells (blkOf (Ep22 73)) 43 [.bool q6.X.Num.fneg, .slice (adOf (partOf 1 (Ep22 72))) q6.X.Num.fmag.length (capOf (partOf 1 (Ep22 72))), .bool q6.X.Den.fneg, .slice (adOf (partOf 3 (Ep22 72))) q6.X.Den.fmag.length (capOf (partOf 3 (Ep22 72)))], fun Ep22 => vec 43 R_exact_Ratio.sz (.slice q11 q0t.length c_xs14_L20h) q0t.length q1v, fun Ep22 => bunA (fun (cs74 : List Value) => RepL R_exact_Ratio q0a q1t cs74) (fun (cs74 : List Value) => [vec 43 R_exact_Ratio.sz (.slice (adOf (Ep22 74)) q1t.length (capOf (Ep22 74))) q1t.length cs74]), fun Ep22 => cells (blkOf (Ep22 81)) 43 [.bool q3.Y.Num.fneg, .slice (adOf (partOf 1 (Ep22 80))) q3.Y.Num.fmag.length (capOf (partOf 1 (Ep22 80))), .bool q3.Y.Den.fneg, .slice (adOf (partOf 3 (Ep22 80))) q3.Y.Den.fmag.length (capOf (partOf 3 (Ep22 80)))], fun Ep22 => vec 43 R_exact_Ratio.sz (.slice q12 q0u.length c_ys15_L20h) q0u.length q1w, fun Ep22 => bunA (fun (cs82 : List Value) => RepL R_exact_Ratio q0a q1i cs82) (fun (cs82 : List Value) => [vec 43 R_exact_Ratio.sz (.slice (adOf (Ep22 82)) q1i.length (capOf (Ep22 82))) q1i.length cs82])] mixed (by kernel_rfl) (((hS.pull 4).pull 4).pull 5) ?_ ?_
      ·refine ⟨?_, ?_, ?_, ?_, ?_, ?_, ?_, ?_, ?_, ?_, ?_, ?_, ?_, ?_, ?_, ?_, ?_, ?_, trivial⟩
       ·intro Ep22 w l' hE22 hO22 hF_ hS
        refine p (yl_move ((hO22 14 rfl).trans q7x)) <| x_done <| ?_
        refine x_fin ⟨⟨_, rfl⟩, rfl, ?_⟩
        exact emk hS
       ·intro Ep22 w l' hE22 hO22 hF_ hS
        refine p (yl_move ((hE22 0 rfl).trans q5h)) <| x_done <| ?_
        refine x_fin ⟨⟨_, rfl⟩, rfl, ?_⟩
        exact emk hS
       ·intro Ep22 w l' hE22 hO22 hF_ hS
        refine p (yl_move (hE22 17 rfl)) <| x_done <| ?_
        refine x_fin ⟨⟨_, rfl⟩, rfl, ?_⟩
        exact emk hS
       ·intro Ep22 w l' hE22 hO22 hF_ hS
        obtain ⟨q5i, q5j, -⟩ := hF_
        replace q5i : Ep22 68 = .slice q0b q1g.length c_at_0 := emk q5i
        replace q5j : Ep22 69 = .int .i64 x66 := emk q5j
        replace hS : St w0 w (ro q0a :: l') := emk hS
        refine p (yix_f sl_29 q5i q5j (q3j.le (q0s.trans q0e)) q9p) <| x_done <| ?_
        refine x_fin ⟨⟨_, rfl⟩, rfl, ?_⟩
        exact emk hS
       ·intro Ep22 w l' hE22 hO22 hF_ hS
        obtain ⟨q5k, -⟩ := hF_
        replace q5k : Ep22 70 = .pointer (some ((adr q0b).add (x66.toNat * R_place_Spot.sz))) := emk q5k
        refine p (yl_fieldAddr fld_45_0 q5k) <| x_done <| ?_
        refine x_fin ⟨⟨_, rfl⟩, rfl, ?_⟩
        exact emk hS
       ·intro Ep22 w l' hE22 hO22 hF_ hS
        obtain ⟨q5l, -⟩ := hF_
        replace q5l : Ep22 71 = .pointer (some (((adr q0b).add (x66.toNat * R_place_Spot.sz)).add 0)) := emk q5l
        replace hS : St w0 w (ro q0a :: l') := emk hS
        have q_ := q3j.get q9p; obtain ⟨qdu, q9q, qc6⟩ := q_
        rw [← qc3] at q9q
        obtain ⟨qb2, qdf, qb3, qb4, qdg, qb5, qdh, qdi, qdj, qdk, qdl, qdm, rfl, q92, q93, qb6, qb7⟩ := q9q
        have e_ := q92.n; subst e_
        have e_ := q93.n; subst e_
        have e_ := qb6.n; subst e_
        have e_ := qb7.n; subst e_
        refine pa (at_loadAgg (cs := [.bool q6.X.Num.fneg, .slice qb2 q6.X.Num.fmag.length qb3, .bool q6.X.Den.fneg, .slice qb4 q6.X.Den.fmag.length qb5]) agg_43 q5l rfl (sub_every (m := 4) (Elt.every (Elt.le qc6 (q0s.trans q0e)) hS) rfl)) <| x_done <| ?_
        refine x_fin ⟨⟨_, rfl⟩, ⟨rfl, q92, q93⟩, ?_⟩
        exact emk hS
       ·intro Ep22 w l' hE22 hO22 hF_ hS
        obtain ⟨q27, -⟩ := hF_
        replace q27 : Ep22 72 = .agg #[.bool q6.X.Num.fneg, .slice (adOf (partOf 1 (Ep22 72))) q6.X.Num.fmag.length (capOf (partOf 1 (Ep22 72))), .bool q6.X.Den.fneg, .slice (adOf (partOf 3 (Ep22 72))) q6.X.Den.fmag.length (capOf (partOf 3 (Ep22 72)))] ∧ RdS (RpI .u32) ρ (adOf (partOf 1 (Ep22 72))) q6.X.Num.fmag.length (capOf (partOf 1 (Ep22 72))) q6.X.Num.fmag ∧ RdS (RpI .u32) ρ (adOf (partOf 3 (Ep22 72))) q6.X.Den.fmag.length (capOf (partOf 3 (Ep22 72))) q6.X.Den.fmag := emk q27
        have q_ := id q27; obtain ⟨-, q84, q85⟩ := q_
        refine o_buildSlice (vs := [.agg #[.bool q6.X.Num.fneg, .slice (adOf (partOf 1 (Ep22 72))) q6.X.Num.fmag.length (capOf (partOf 1 (Ep22 72))), .bool q6.X.Den.fneg, .slice (adOf (partOf 3 (Ep22 72))) q6.X.Den.fmag.length (capOf (partOf 3 (Ep22 72)))]]) (cs := [.bool q6.X.Num.fneg, .slice (adOf (partOf 1 (Ep22 72))) q6.X.Num.fmag.length (capOf (partOf 1 (Ep22 72))), .bool q6.X.Den.fneg, .slice (adOf (partOf 3 (Ep22 72))) q6.X.Den.fmag.length (capOf (partOf 3 (Ep22 72)))]) sl_64 zero_43 (parts_eq (pt (va := .agg #[.bool q6.X.Num.fneg, .slice (adOf (partOf 1 (Ep22 72))) q6.X.Num.fmag.length (capOf (partOf 1 (Ep22 72))), .bool q6.X.Den.fneg, .slice (adOf (partOf 3 (Ep22 72))) q6.X.Den.fmag.length (capOf (partOf 3 (Ep22 72)))]) q27.1 pt0)) rfl (by intro v hv; simp only [List.mem_cons, List.not_mem_nil, or_false] at hv; first | (subst hv; rfl) | (rcases hv with rfl <;> rfl)) (by decide) rfl hS (fun b73 w' hS => ?_)
        refine x_done <| ?_
        refine x_fin ⟨⟨_, rfl⟩, rfl, ?_⟩
        exact emk hS
       ·intro Ep22 w l' hE22 hO22 hF_ hS
        obtain ⟨q5m, q27, q5n, -⟩ := hF_
        replace q5m : Ep22 67 = .slice q11 q0t.length c_xs14_L20h := emk q5m
        replace q27 : Ep22 72 = .agg #[.bool q6.X.Num.fneg, .slice (adOf (partOf 1 (Ep22 72))) q6.X.Num.fmag.length (capOf (partOf 1 (Ep22 72))), .bool q6.X.Den.fneg, .slice (adOf (partOf 3 (Ep22 72))) q6.X.Den.fmag.length (capOf (partOf 3 (Ep22 72)))] ∧ RdS (RpI .u32) ρ (adOf (partOf 1 (Ep22 72))) q6.X.Num.fmag.length (capOf (partOf 1 (Ep22 72))) q6.X.Num.fmag ∧ RdS (RpI .u32) ρ (adOf (partOf 3 (Ep22 72))) q6.X.Den.fmag.length (capOf (partOf 3 (Ep22 72))) q6.X.Den.fmag := emk q27
        have q_ := id q27; obtain ⟨-, q84, q85⟩ := q_
        replace q5n : Ep22 73 = .slice (some ⟨(blkOf (Ep22 73)), 0, none⟩) 1 1 := emk q5n
        replace hS : St w0 w (cells (blkOf (Ep22 73)) 43 [.bool q6.X.Num.fneg, .slice (adOf (partOf 1 (Ep22 72))) q6.X.Num.fmag.length (capOf (partOf 1 (Ep22 72))), .bool q6.X.Den.fneg, .slice (adOf (partOf 3 (Ep22 72))) q6.X.Den.fmag.length (capOf (partOf 3 (Ep22 72)))] :: ro q0a :: vec 43 R_exact_Ratio.sz (.slice q11 q0t.length c_xs14_L20h) q0t.length q1v :: l') := emk hS
        refine o_ap sl_64 zero_43 rfl (by decide) q5m q5n (hS.pull 2) q4i (src_blk usl_64 hS rfl rfl) (RepL.cons (R := R_exact_Ratio) (ρ := q0a) (x := q6.X) (cs := [.bool q6.X.Num.fneg, .slice (adOf (partOf 1 (Ep22 72))) q6.X.Num.fmag.length (capOf (partOf 1 (Ep22 72))), .bool q6.X.Den.fneg, .slice (adOf (partOf 3 (Ep22 72))) q6.X.Den.fmag.length (capOf (partOf 3 (Ep22 72)))]) ⟨_, _, _, _, _, _, rfl, (q84.le (q0s.trans q0e)), (q85.le (q0s.trans q0e))⟩ RepL.nil) qc4 qc5 (fun A74 c74 cs74 w' hr74 hS => ?_)
        refine x_done <| ?_
        refine x_fin ⟨⟨_, rfl⟩, rfl, ?_⟩
        replace hS := St.bun (Φ := (fun (cs74 : List Value) => RepL R_exact_Ratio q0a q1t cs74)) (L := (fun (cs74 : List Value) => [vec 43 R_exact_Ratio.sz (.slice A74 q1t.length c74) q1t.length cs74])) cs74 hr74 hS
        exact emk ((hS.pull 2).pull 2)
       ·intro Ep22 w l' hE22 hO22 hF_ hS
        refine p (yl_move ((hO22 15 rfl).trans q7y)) <| x_done <| ?_
        refine x_fin ⟨⟨_, rfl⟩, rfl, ?_⟩
        exact emk hS
       ·intro Ep22 w l' hE22 hO22 hF_ hS
        refine p (yl_move ((hE22 0 rfl).trans q5h)) <| x_done <| ?_
        refine x_fin ⟨⟨_, rfl⟩, rfl, ?_⟩
        exact emk hS
       ·intro Ep22 w l' hE22 hO22 hF_ hS
        refine p (yl_move (hE22 17 rfl)) <| x_done <| ?_
        refine x_fin ⟨⟨_, rfl⟩, rfl, ?_⟩
        exact emk hS
       ·intro Ep22 w l' hE22 hO22 hF_ hS
        obtain ⟨q5o, q4t, -⟩ := hF_
        replace q5o : Ep22 76 = .slice q0b q1g.length c_at_0 := emk q5o
        replace q4t : Ep22 77 = .int .i64 x66 := emk q4t
        replace hS : St w0 w (ro q0a :: l') := emk hS
        refine p (yix_f sl_29 q5o q4t (q3j.le (q0s.trans q0e)) q91) <| x_done <| ?_
        refine x_fin ⟨⟨_, rfl⟩, rfl, ?_⟩
        exact emk hS
       ·intro Ep22 w l' hE22 hO22 hF_ hS
        obtain ⟨q4u, -⟩ := hF_
        replace q4u : Ep22 78 = .pointer (some ((adr q0b).add (x66.toNat * R_place_Spot.sz))) := emk q4u
        refine p (yl_fieldAddr fld_45_1 q4u) <| x_done <| ?_
        refine x_fin ⟨⟨_, rfl⟩, rfl, ?_⟩
        exact emk hS
       ·intro Ep22 w l' hE22 hO22 hF_ hS
        obtain ⟨q4v, -⟩ := hF_
        replace q4v : Ep22 79 = .pointer (some (((adr q0b).add (x66.toNat * R_place_Spot.sz)).add 4)) := emk q4v
        replace hS : St w0 w (ro q0a :: l') := emk hS
        have q_ := q3j.get q91; obtain ⟨qdn, q94, qb8⟩ := q_
        rw [← qaz] at q94
        obtain ⟨qd4, qd5, qd6, qd7, qd8, qd9, q9z, qda, qa0, qa1, qdb, qa2, rfl, qa3, qa4, q86, q87⟩ := q94
        have e_ := qa3.n; subst e_
        have e_ := qa4.n; subst e_
        have e_ := q86.n; subst e_
        have e_ := q87.n; subst e_
        refine pa (at_loadAgg (cs := [.bool q3.Y.Num.fneg, .slice q9z q3.Y.Num.fmag.length qa0, .bool q3.Y.Den.fneg, .slice qa1 q3.Y.Den.fmag.length qa2]) agg_43 q4v rfl (sub_every (m := 4) (Elt.every (Elt.le qb8 (q0s.trans q0e)) hS) rfl)) <| x_done <| ?_
        refine x_fin ⟨⟨_, rfl⟩, ⟨rfl, q86, q87⟩, ?_⟩
        exact emk hS
       ·intro Ep22 w l' hE22 hO22 hF_ hS
        obtain ⟨q20, -⟩ := hF_
        replace q20 : Ep22 80 = .agg #[.bool q3.Y.Num.fneg, .slice (adOf (partOf 1 (Ep22 80))) q3.Y.Num.fmag.length (capOf (partOf 1 (Ep22 80))), .bool q3.Y.Den.fneg, .slice (adOf (partOf 3 (Ep22 80))) q3.Y.Den.fmag.length (capOf (partOf 3 (Ep22 80)))] ∧ RdS (RpI .u32) ρ (adOf (partOf 1 (Ep22 80))) q3.Y.Num.fmag.length (capOf (partOf 1 (Ep22 80))) q3.Y.Num.fmag ∧ RdS (RpI .u32) ρ (adOf (partOf 3 (Ep22 80))) q3.Y.Den.fmag.length (capOf (partOf 3 (Ep22 80))) q3.Y.Den.fmag := emk q20
        have q_ := id q20; obtain ⟨-, q78, q79⟩ := q_
        refine o_buildSlice (vs := [.agg #[.bool q3.Y.Num.fneg, .slice (adOf (partOf 1 (Ep22 80))) q3.Y.Num.fmag.length (capOf (partOf 1 (Ep22 80))), .bool q3.Y.Den.fneg, .slice (adOf (partOf 3 (Ep22 80))) q3.Y.Den.fmag.length (capOf (partOf 3 (Ep22 80)))]]) (cs := [.bool q3.Y.Num.fneg, .slice (adOf (partOf 1 (Ep22 80))) q3.Y.Num.fmag.length (capOf (partOf 1 (Ep22 80))), .bool q3.Y.Den.fneg, .slice (adOf (partOf 3 (Ep22 80))) q3.Y.Den.fmag.length (capOf (partOf 3 (Ep22 80)))]) sl_64 zero_43 (parts_eq (pt (va := .agg #[.bool q3.Y.Num.fneg, .slice (adOf (partOf 1 (Ep22 80))) q3.Y.Num.fmag.length (capOf (partOf 1 (Ep22 80))), .bool q3.Y.Den.fneg, .slice (adOf (partOf 3 (Ep22 80))) q3.Y.Den.fmag.length (capOf (partOf 3 (Ep22 80)))]) q20.1 pt0)) rfl (by intro v hv; simp only [List.mem_cons, List.not_mem_nil, or_false] at hv; first | (subst hv; rfl) | (rcases hv with rfl <;> rfl)) (by decide) rfl hS (fun b81 w' hS => ?_)
        refine x_done <| ?_
        refine x_fin ⟨⟨_, rfl⟩, rfl, ?_⟩
        exact emk hS
       ·intro Ep22 w l' hE22 hO22 hF_ hS
        obtain ⟨q5p, q20, q4w, -⟩ := hF_
        replace q5p : Ep22 75 = .slice q12 q0u.length c_ys15_L20h := emk q5p
        replace q20 : Ep22 80 = .agg #[.bool q3.Y.Num.fneg, .slice (adOf (partOf 1 (Ep22 80))) q3.Y.Num.fmag.length (capOf (partOf 1 (Ep22 80))), .bool q3.Y.Den.fneg, .slice (adOf (partOf 3 (Ep22 80))) q3.Y.Den.fmag.length (capOf (partOf 3 (Ep22 80)))] ∧ RdS (RpI .u32) ρ (adOf (partOf 1 (Ep22 80))) q3.Y.Num.fmag.length (capOf (partOf 1 (Ep22 80))) q3.Y.Num.fmag ∧ RdS (RpI .u32) ρ (adOf (partOf 3 (Ep22 80))) q3.Y.Den.fmag.length (capOf (partOf 3 (Ep22 80))) q3.Y.Den.fmag := emk q20
        have q_ := id q20; obtain ⟨-, q78, q79⟩ := q_
        replace q4w : Ep22 81 = .slice (some ⟨(blkOf (Ep22 81)), 0, none⟩) 1 1 := emk q4w
        replace hS : St w0 w (cells (blkOf (Ep22 81)) 43 [.bool q3.Y.Num.fneg, .slice (adOf (partOf 1 (Ep22 80))) q3.Y.Num.fmag.length (capOf (partOf 1 (Ep22 80))), .bool q3.Y.Den.fneg, .slice (adOf (partOf 3 (Ep22 80))) q3.Y.Den.fmag.length (capOf (partOf 3 (Ep22 80)))] :: ro q0a :: vec 43 R_exact_Ratio.sz (.slice q12 q0u.length c_ys15_L20h) q0u.length q1w :: l') := emk hS
        refine o_ap sl_64 zero_43 rfl (by decide) q5p q4w (hS.pull 2) q4j (src_blk usl_64 hS rfl rfl) (RepL.cons (R := R_exact_Ratio) (ρ := q0a) (x := q3.Y) (cs := [.bool q3.Y.Num.fneg, .slice (adOf (partOf 1 (Ep22 80))) q3.Y.Num.fmag.length (capOf (partOf 1 (Ep22 80))), .bool q3.Y.Den.fneg, .slice (adOf (partOf 3 (Ep22 80))) q3.Y.Den.fmag.length (capOf (partOf 3 (Ep22 80)))]) ⟨_, _, _, _, _, _, rfl, (q78.le (q0s.trans q0e)), (q79.le (q0s.trans q0e))⟩ RepL.nil) qb0 qb1 (fun A82 c82 cs82 w' hr82 hS => ?_)
        refine x_done <| ?_
        refine x_fin ⟨⟨_, rfl⟩, rfl, ?_⟩
        replace hS := St.bun (Φ := (fun (cs82 : List Value) => RepL R_exact_Ratio q0a q1i cs82)) (L := (fun (cs82 : List Value) => [vec 43 R_exact_Ratio.sz (.slice A82 q1i.length c82) q1i.length cs82])) cs82 hr82 hS
        exact emk ((hS.pull 2).pull 2)
       ·intro Ep22 w l' hE22 hO22 hF_ hS
        obtain ⟨q5q, -⟩ := hF_
        replace q5q : Ep22 74 = .slice (adOf (Ep22 74)) q1t.length (capOf (Ep22 74)) := emk q5q
        refine p (yl_assign q5q) <| x_done <| ?_
        refine x_fin ⟨⟨_, rfl⟩, rfl, ?_⟩
        exact emk hS
       ·intro Ep22 w l' hE22 hO22 hF_ hS
        obtain ⟨q4x, -⟩ := hF_
        replace q4x : Ep22 82 = .slice (adOf (Ep22 82)) q1i.length (capOf (Ep22 82)) := emk q4x
        refine p (yl_assign q4x) <| x_done <| ?_
        refine x_fin ⟨⟨_, rfl⟩, rfl, ?_⟩
        exact emk hS
      intro Ep22 w' hE22 hF_ hS
      obtain ⟨q5m, q5i, q5j, q5k, q5l, q27, q5n, q5q, q5p, q5o, q4t, q4u, q4v, q20, q4w, q4x, q88, q89, -⟩ := hF_
      replace q5m : Ep22 67 = .slice q11 q0t.length c_xs14_L20h := emk q5m
      replace q5i : Ep22 68 = .slice q0b q1g.length c_at_0 := emk q5i
      replace q5j : Ep22 69 = .int .i64 x66 := emk q5j
      replace q5k : Ep22 70 = .pointer (some ((adr q0b).add (x66.toNat * R_place_Spot.sz))) := emk q5k
      replace q5l : Ep22 71 = .pointer (some (((adr q0b).add (x66.toNat * R_place_Spot.sz)).add 0)) := emk q5l
      replace q27 : Ep22 72 = .agg #[.bool q6.X.Num.fneg, .slice (adOf (partOf 1 (Ep22 72))) q6.X.Num.fmag.length (capOf (partOf 1 (Ep22 72))), .bool q6.X.Den.fneg, .slice (adOf (partOf 3 (Ep22 72))) q6.X.Den.fmag.length (capOf (partOf 3 (Ep22 72)))] ∧ RdS (RpI .u32) ρ (adOf (partOf 1 (Ep22 72))) q6.X.Num.fmag.length (capOf (partOf 1 (Ep22 72))) q6.X.Num.fmag ∧ RdS (RpI .u32) ρ (adOf (partOf 3 (Ep22 72))) q6.X.Den.fmag.length (capOf (partOf 3 (Ep22 72))) q6.X.Den.fmag := emk q27
      have q_ := id q27; obtain ⟨-, q84, q85⟩ := q_
      replace q5n : Ep22 73 = .slice (some ⟨(blkOf (Ep22 73)), 0, none⟩) 1 1 := emk q5n
      replace q5q : Ep22 74 = .slice (adOf (Ep22 74)) q1t.length (capOf (Ep22 74)) := emk q5q
      replace q5p : Ep22 75 = .slice q12 q0u.length c_ys15_L20h := emk q5p
      replace q5o : Ep22 76 = .slice q0b q1g.length c_at_0 := emk q5o
      replace q4t : Ep22 77 = .int .i64 x66 := emk q4t
      replace q4u : Ep22 78 = .pointer (some ((adr q0b).add (x66.toNat * R_place_Spot.sz))) := emk q4u
      replace q4v : Ep22 79 = .pointer (some (((adr q0b).add (x66.toNat * R_place_Spot.sz)).add 4)) := emk q4v
      replace q20 : Ep22 80 = .agg #[.bool q3.Y.Num.fneg, .slice (adOf (partOf 1 (Ep22 80))) q3.Y.Num.fmag.length (capOf (partOf 1 (Ep22 80))), .bool q3.Y.Den.fneg, .slice (adOf (partOf 3 (Ep22 80))) q3.Y.Den.fmag.length (capOf (partOf 3 (Ep22 80)))] ∧ RdS (RpI .u32) ρ (adOf (partOf 1 (Ep22 80))) q3.Y.Num.fmag.length (capOf (partOf 1 (Ep22 80))) q3.Y.Num.fmag ∧ RdS (RpI .u32) ρ (adOf (partOf 3 (Ep22 80))) q3.Y.Den.fmag.length (capOf (partOf 3 (Ep22 80))) q3.Y.Den.fmag := emk q20
      have q_ := id q20; obtain ⟨-, q78, q79⟩ := q_
      replace q4w : Ep22 81 = .slice (some ⟨(blkOf (Ep22 81)), 0, none⟩) 1 1 := emk q4w
      replace q4x : Ep22 82 = .slice (adOf (Ep22 82)) q1i.length (capOf (Ep22 82)) := emk q4x
      replace q88 : Ep22 14 = .slice (adOf (Ep22 74)) q1t.length (capOf (Ep22 74)) := emk q88
      replace q89 : Ep22 15 = .slice (adOf (Ep22 82)) q1i.length (capOf (Ep22 82)) := emk q89
      replace hS : St w0 w' (ro q0a :: cells (blkOf (Ep22 73)) 43 [.bool q6.X.Num.fneg, .slice (adOf (partOf 1 (Ep22 72))) q6.X.Num.fmag.length (capOf (partOf 1 (Ep22 72))), .bool q6.X.Den.fneg, .slice (adOf (partOf 3 (Ep22 72))) q6.X.Den.fmag.length (capOf (partOf 3 (Ep22 72)))] :: bunA (fun (cs74 : List Value) => RepL R_exact_Ratio q0a q1t cs74) (fun (cs74 : List Value) => [vec 43 R_exact_Ratio.sz (.slice (adOf (Ep22 74)) q1t.length (capOf (Ep22 74))) q1t.length cs74]) :: cells (blkOf (Ep22 81)) 43 [.bool q3.Y.Num.fneg, .slice (adOf (partOf 1 (Ep22 80))) q3.Y.Num.fmag.length (capOf (partOf 1 (Ep22 80))), .bool q3.Y.Den.fneg, .slice (adOf (partOf 3 (Ep22 80))) q3.Y.Den.fmag.length (capOf (partOf 3 (Ep22 80)))] :: bunA (fun (cs82 : List Value) => RepL R_exact_Ratio q0a q1i cs82) (fun (cs82 : List Value) => [vec 43 R_exact_Ratio.sz (.slice (adOf (Ep22 82)) q1i.length (capOf (Ep22 82))) q1i.length cs82]) :: (cells b4 43 [.bool false, .slice none 0 0, .bool false, .slice none 0 0] :: cells b11 43 [.bool q0q, .slice q0k q0m.length c_b11_1_L16h, .bool q0r, .slice q0l q0n.length c_b11_3_L16h] :: cells b13 36 [.int .i64 q7.Weight, .slice q0x q7.Cells.length q0y, .slice q0z q7.At.length q10] :: l)) := emk hS
      have q_ := St.unbun (hS.pull 2); obtain ⟨cs74, hr74, hS⟩ := q_
      have q_ := St.unbun (hS.pull 4); obtain ⟨cs82, hr82, hS⟩ := q_
      replace hFL20 := ar_s hFL20; obtain ⟨x83, hx83, hFL20⟩ := hFL20
      refine x_blk <| x_region <| p (yadd ((hE22 63 rfl).trans q6f) rfl hx83) <| p (yl_move rfl) <|
       x_done <| ?_
      have e_ := sinj hFL20; subst e_
      exact x_inv ⟨kL20, Nat.lt_succ_self _, (adOf (Ep22 74)), q1t.length, (capOf (Ep22 74)), cs74, (adOf (Ep22 82)), q1i.length, (capOf (Ep22 82)), cs82, q1t, q1i, x83, hLL20, ((hE22 0 rfl).trans q5h), ((hE22 4 rfl).trans q90), ((hE22 11 rfl).trans q7v), ((hE22 13 rfl).trans q7w), q88, q89, ((hE22 54 rfl).trans q7z), ((hE22 55 rfl).trans q80), ((hE22 56 rfl).trans q81), ((hE22 61 rfl).trans q82), ((hE22 62 rfl).trans q83), rfl, hr74, hr82, ((((((((hS.pull 3).drop.pull 3).drop.pull 2).pull 1).pull 2).pull 5).pull 5).pull 5)⟩
     ·replace hFL20 := it_f hc64 hFL20
      refine x_exitTo _ rfl <| ?_
      have e_ := sinj hFL20; subst e_
      exact x_inv ⟨q11, q0t.length, c_xs14_L20h, q1v, q12, q0u.length, c_ys15_L20h, q1w, q0t, q0u, hLL20, q5h, q90, q7v, q7w, q7x, q7y, q7z, q80, q81, q4i, q4j, ((((((hS.pull 5).pull 5).pull 5).pull 5).pull 5).pull 5)⟩
    rintro E w ⟨q34, q35, c_xs14_L20, q2o, q36, q37, c_ys15_L20, q2p, q3o, q3p, rfl, qc7, qc8, qb9, q95, qba, qbb, qbc, qbd, qbe, q6r, q6s, hS⟩
    have e_ := St.vec_n (hS.pull 3) q6r; subst e_
    have e_ := St.vec_n (hS.pull 4) q6s; subst e_
    refine x_seq <| x_seq <| x_region <| p (yl_field0 fld_36_2 q95) <|
     pa (at_load one_34 rfl ((hS.pull 2).cell rfl)) <| p (yl_len_slice usl_34 rfl) <| p (yl_move rfl) <| x_done <| ?_
    replace hFL16 := bd_s hFL16; obtain ⟨oL25, hLL25, hFL16⟩ := hFL16
    refine x_join (fun E w => ∃ (q6t : Heap) (q1l : Option Addr) (q38 : Nat) (c_xs14_L25 : Nat) (q4k : List Value) (q1m : Option Addr) (q39 : Nat) (c_ys15_L25 : Nat) (q4l : List Value) (q1n : List T_exact_Ratio) (q1o : List T_exact_Ratio), (q1n, q1o) = oL25 ∧ Le q0a q6t ∧ E 0 = .slice q0b q1g.length c_at_0 ∧ E 4 = .pointer (some ⟨b4, 0, none⟩) ∧ E 11 = .pointer (some ⟨b11, 0, none⟩) ∧ E 13 = .pointer (some ⟨b13, 0, none⟩) ∧ E 14 = .slice q1l q38 c_xs14_L25 ∧ E 15 = .slice q1m q39 c_ys15_L25 ∧ E 54 = .slice q26 l_1.length c_l_1 ∧ E 55 = .int .i64 (l_1.length : Int) ∧ E 56 = .int .i64 q1h ∧ RepL R_exact_Ratio q6t q1n q4k ∧ RepL R_exact_Ratio q6t q1o q4l ∧ St w0 w (cells b4 43 [.bool false, .slice none 0 0, .bool false, .slice none 0 0] :: cells b11 43 [.bool q0q, .slice q0k q0m.length c_b11_1_L16h, .bool q0r, .slice q0l q0n.length c_b11_3_L16h] :: cells b13 36 [.int .i64 q7.Weight, .slice q0x q7.Cells.length q0y, .slice q0z q7.At.length q10] :: vec 43 R_exact_Ratio.sz (.slice q1l q38 c_xs14_L25) q38 q4k :: vec 43 R_exact_Ratio.sz (.slice q1m q39 c_ys15_L25) q39 q4l :: ro q6t :: l)) ?_ ?_
    ·refine x_block ?_
     refine x_loop (fun k_ E w => ∃ (q8 : Heap) (q13 : Option Addr) (q2s : Nat) (c_xs14_L25h : Nat) (q1x : List Value) (q14 : Option Addr) (q2t : Nat) (c_ys15_L25h : Nat) (q1y : List Value) (q0v : List T_exact_Ratio) (q0w : List T_exact_Ratio) (q51 : Int), lp (P_place_Length_L25 q7) k_ (q0v, q0w, q51) = some oL25 ∧ Le q0a q8 ∧ E 0 = .slice q0b q1g.length c_at_0 ∧ E 4 = .pointer (some ⟨b4, 0, none⟩) ∧ E 11 = .pointer (some ⟨b11, 0, none⟩) ∧ E 13 = .pointer (some ⟨b13, 0, none⟩) ∧ E 14 = .slice q13 q2s c_xs14_L25h ∧ E 15 = .slice q14 q2t c_ys15_L25h ∧ E 54 = .slice q26 l_1.length c_l_1 ∧ E 55 = .int .i64 (l_1.length : Int) ∧ E 56 = .int .i64 q1h ∧ E 85 = .slice q0z q7.At.length q10 ∧ E 86 = .int .i64 (q7.At.length : Int) ∧ E 87 = .int .i64 q51 ∧ RepL R_exact_Ratio q8 q0v q1x ∧ RepL R_exact_Ratio q8 q0w q1y ∧ St w0 w (cells b4 43 [.bool false, .slice none 0 0, .bool false, .slice none 0 0] :: cells b11 43 [.bool q0q, .slice q0k q0m.length c_b11_1_L16h, .bool q0r, .slice q0l q0n.length c_b11_3_L16h] :: cells b13 36 [.int .i64 q7.Weight, .slice q0x q7.Cells.length q0y, .slice q0z q7.At.length q10] :: vec 43 R_exact_Ratio.sz (.slice q13 q2s c_xs14_L25h) q2s q1x :: vec 43 R_exact_Ratio.sz (.slice q14 q2t c_ys15_L25h) q2t q1y :: ro q8 :: l)) fuel ⟨q0a, q34, q3o.length, c_xs14_L20, q2o, q36, q3p.length, c_ys15_L20, q2p, q3o, q3p, 0, hLL25, (Le.refl _), qc7, qc8, qb9, q95, qba, qbb, qbc, qbd, qbe, rfl, rfl, rfl, q6r, q6s, ((((((hS.pull 5).pull 5).pull 5).pull 5).pull 5).pull 5)⟩ ?_
     rintro kL25 E w ⟨q8, q13, q2s, c_xs14_L25h, q1x, q14, q2t, c_ys15_L25h, q1y, q0v, q0w, q51, hLL25, q45, q96, q97, q8a, q8b, q8c, q8d, q8e, q8f, q8g, q8h, q8i, q6g, q4m, q4n, hS⟩
     have e_ := St.vec_n (hS.pull 3) q4m; subst e_
     have e_ := St.vec_n (hS.pull 4) q4n; subst e_
     replace hLL25 := lp_s hLL25; obtain ⟨kL25, obL25, rfl, hFL25, hLL25⟩ := hLL25
     refine x_seq <| x_region <| p (yl_lss q6g q8i) <| x_done <|
      x_seq <|
      x_cond_p (q51 < (q7.At.length : Int)) rfl (fun hc88 => ?_) (fun hc88 => ?_)
     ·replace hFL25 := it_t hc88 hFL25
      replace hFL25 := ck_s hFL25; obtain ⟨q9r, hFL25⟩ := hFL25
      replace hFL25 := lv_s hFL25; obtain ⟨q1q, qc9, hFL25⟩ := hFL25
      have q_ := q77.get q9r; obtain ⟨qdv, q9s, qca⟩ := q_
      rw [← qc9] at q9s
      have e_ := q9s; subst e_
      refine x_skip <| x_seq <| x_block <| x_seq <|
       x_region <| p (yix_f sl_34 q8h q6g (q77.le ((q0s.trans q0e).trans q45)) q9r) <| pa (v := .agg #[.int .i64 q1q.X, .int .i64 q1q.Y]) (at_loadAgg agg_38 rfl rfl (Elt.every (Elt.le qca ((q0s.trans q0e).trans q45)) (hS.pull 5))) <| ?_
      refine o_alloc zero_38 hS (fun b19 w' hS => ?_)
      refine o_storeAgg (news := [.int .i64 q1q.X, .int .i64 q1q.Y]) agg_38 rfl rfl rfl (by simp [over_length]) hS (fun w' hS => ?_)
      refine x_done <| ?_
      replace hFL25 := bd_s hFL25; obtain ⟨q4, qcb, hFL25⟩ := hFL25
      replace hFL25 := lv_s hFL25; obtain ⟨q1u, qcd, hFL25⟩ := hFL25
      replace hFL25 := ck_s hFL25; obtain ⟨qce, hFL25⟩ := hFL25
      replace hFL25 := bd_s hFL25; obtain ⟨q5, qcf, hFL25⟩ := hFL25
      replace hFL25 := lv_s hFL25; obtain ⟨q1j, qbf, hFL25⟩ := hFL25
      replace hFL25 := ck_s hFL25; obtain ⟨qbg, hFL25⟩ := hFL25
      refine x_par (w0 := w0) [⟨[], [], [91], [], [], []⟩, ⟨[], [], [92], [], [], []⟩, ⟨[1], [1], [93], [0], [], []⟩, ⟨[1, 2], [2], [94], [1], [], [2]⟩, ⟨[1, 2, 3], [3], [95], [], [], [3]⟩, ⟨[0, 1, 2, 3, 4], [0, 3, 4], [96], [3, 1], [4, 2], [5]⟩, ⟨[], [], [97], [], [], []⟩, ⟨[], [], [98], [], [], []⟩, ⟨[7], [7], [99], [0], [], []⟩, ⟨[0, 1, 2, 3, 4, 5, 7, 8], [8], [100], [1], [], [6]⟩, ⟨[0, 1, 2, 3, 4, 5, 7, 8, 9], [9], [101], [], [], [7]⟩, ⟨[0, 1, 2, 3, 4, 5, 6, 7, 8, 9, 10], [6, 9, 10], [102], [7, 1], [8, 6], [9]⟩, ⟨[0, 1, 2, 3, 4, 5, 6, 7, 8, 9, 10, 11], [5], [14, 96], [], [], []⟩, ⟨[0, 1, 2, 3, 4, 5, 6, 7, 8, 9, 10, 11, 12], [11], [15, 102], [], [], []⟩] [⟨none, none, []⟩, ⟨none, none, []⟩, ⟨(some 3), (some 5), [94]⟩, ⟨(some 4), none, [94, 95]⟩, ⟨none, (some 5), []⟩, ⟨(some 5), none, [94, 96]⟩, ⟨(some 9), (some 11), [100]⟩, ⟨(some 10), none, [100, 101]⟩, ⟨none, (some 11), []⟩, ⟨(some 11), none, [100, 102]⟩] [14, 15, 91, 92, 93, 94, 95, 96, 97, 98, 99, 100, 101, 102] [0, 1, 4, 8] [0, 1, 3, 5, 7, 9] [0, 1, 2, 3, 4, 5, 6, 7, 8, 9, 10, 11, 12, 13] [fun Ep27 => Ep27 91 = .slice q13 q0v.length c_xs14_L25h, fun Ep27 => Ep27 92 = .pointer (some ⟨b19, 0, none⟩), fun Ep27 => Ep27 93 = .int .i64 q1q.X, fun Ep27 => Ep27 94 = .agg #[.bool q4.Num.fneg, .slice (adOf (partOf 1 (Ep27 94))) q4.Num.fmag.length (capOf (partOf 1 (Ep27 94))), .bool q4.Den.fneg, .slice (adOf (partOf 3 (Ep27 94))) q4.Den.fmag.length (capOf (partOf 3 (Ep27 94)))], fun Ep27 => Ep27 95 = .slice (some ⟨(blkOf (Ep27 95)), 0, none⟩) 1 1, fun Ep27 => Ep27 96 = .slice (adOf (Ep27 96)) q1u.length (capOf (Ep27 96)), fun Ep27 => Ep27 97 = .slice q14 q0w.length c_ys15_L25h, fun Ep27 => Ep27 98 = .pointer (some ⟨b19, 1, none⟩), fun Ep27 => Ep27 99 = .int .i64 q1q.Y, fun Ep27 => Ep27 100 = .agg #[.bool q5.Num.fneg, .slice (adOf (partOf 1 (Ep27 100))) q5.Num.fmag.length (capOf (partOf 1 (Ep27 100))), .bool q5.Den.fneg, .slice (adOf (partOf 3 (Ep27 100))) q5.Den.fmag.length (capOf (partOf 3 (Ep27 100)))], fun Ep27 => Ep27 101 = .slice (some ⟨(blkOf (Ep27 101)), 0, none⟩) 1 1, fun Ep27 => Ep27 102 = .slice (adOf (Ep27 102)) q1j.length (capOf (Ep27 102)), fun Ep27 => Ep27 14 = .slice (adOf (Ep27 96)) q1u.length (capOf (Ep27 96)), fun Ep27 => Ep27 15 = .slice (adOf (Ep27 102)) q1j.length (capOf (Ep27 102))] [fun Ep27 => cells b19 38 [.int .i64 q1q.X, .int .i64 q1q.Y], fun Ep27 => ro q8, fun Ep27 => bunA (fun (q0f : Heap) => Le q8 q0f ∧ RdS (RpI .u32) q0f (adOf (partOf 1 (Ep27 94))) q4.Num.fmag.length (capOf (partOf 1 (Ep27 94))) q4.Num.fmag ∧ RdS (RpI .u32) q0f (adOf (partOf 3 (Ep27 94))) q4.Den.fmag.length (capOf (partOf 3 (Ep27 94))) q4.Den.fmag) (fun (q0f : Heap) => [roD q8 q0f]), fun Ep27 => cells (blkOf (Ep27 95)) 43 [.bool q4.Num.fneg, .slice (adOf (partOf 1 (Ep27 94))) q4.Num.fmag.length (capOf (partOf 1 (Ep27 94))), .bool q4.Den.fneg, .slice (adOf (partOf 3 (Ep27 94))) q4.Den.fmag.length (capOf (partOf 3 (Ep27 94)))], fun Ep27 => vec 43 R_exact_Ratio.sz (.slice q13 q0v.length c_xs14_L25h) q0v.length q1x, fun Ep27 => bunA (fun (x : (Heap × List Value)) => Le q8 x.1 ∧ RdS (RpI .u32) x.1 (adOf (partOf 1 (Ep27 94))) q4.Num.fmag.length (capOf (partOf 1 (Ep27 94))) q4.Num.fmag ∧ RdS (RpI .u32) x.1 (adOf (partOf 3 (Ep27 94))) q4.Den.fmag.length (capOf (partOf 3 (Ep27 94))) q4.Den.fmag ∧ RepL R_exact_Ratio x.1 q1u x.2) (fun (x : (Heap × List Value)) => [vec 43 R_exact_Ratio.sz (.slice (adOf (Ep27 96)) q1u.length (capOf (Ep27 96))) q1u.length x.2, roD q8 x.1]), fun Ep27 => bunA (fun (q0g : Heap) => Le q8 q0g ∧ RdS (RpI .u32) q0g (adOf (partOf 1 (Ep27 100))) q5.Num.fmag.length (capOf (partOf 1 (Ep27 100))) q5.Num.fmag ∧ RdS (RpI .u32) q0g (adOf (partOf 3 (Ep27 100))) q5.Den.fmag.length (capOf (partOf 3 (Ep27 100))) q5.Den.fmag) (fun (q0g : Heap) => [roD q8 q0g]), fun Ep27 => cells (blkOf (Ep27 101)) 43 [.bool q5.Num.fneg, .slice (adOf (partOf 1 (Ep27 100))) q5.Num.fmag.length (capOf (partOf 1 (Ep27 100))), .bool q5.Den.fneg, .slice (adOf (partOf 3 (Ep27 100))) q5.Den.fmag.length (capOf (partOf 3 (Ep27 100)))], fun Ep27 => vec 43 R_exact_Ratio.sz (.slice q14 q0w.length c_ys15_L25h) q0w.length q1y, fun Ep27 => bunA (fun (x : (Heap × List Value)) => Le q8 x.1 ∧ RdS (RpI .u32) x.1 (adOf (partOf 1 (Ep27 100))) q5.Num.fmag.length (capOf (partOf 1 (Ep27 100))) q5.Num.fmag ∧ RdS (RpI .u32) x.1 (adOf (partOf 3 (Ep27 100))) q5.Den.fmag.length (capOf (partOf 3 (Ep27 100))) q5.Den.fmag ∧ RepL R_exact_Ratio x.1 q1j x.2) (fun (x : (Heap × List Value)) => [vec 43 R_exact_Ratio.sz (.slice (adOf (Ep27 102)) q1j.length (capOf (Ep27 102))) q1j.length x.2, roD q8 x.1])] mixed (by kernel_rfl) ((((hS.pull 5).pull 5).pull 6).pull 3) ?_ ?_
      ·refine ⟨?_, ?_, ?_, ?_, ?_, ?_, ?_, ?_, ?_, ?_, ?_, ?_, ?_, ?_, trivial⟩
       ·intro Ep27 w l' hE27 hO27 hF_ hS
        refine p (yl_move ((hO27 14 rfl).trans q8c)) <| x_done <| ?_
        refine x_fin ⟨⟨_, rfl⟩, rfl, ?_⟩
        exact emk hS
       ·intro Ep27 w l' hE27 hO27 hF_ hS
        refine p (yl_field0 fld_38_0 (hE27 19 rfl)) <| x_done <| ?_
        refine x_fin ⟨⟨_, rfl⟩, rfl, ?_⟩
        exact emk hS
       ·intro Ep27 w l' hE27 hO27 hF_ hS
        obtain ⟨q5r, -⟩ := hF_
        replace q5r : Ep27 92 = .pointer (some ⟨b19, 0, none⟩) := emk q5r
        replace hS : St w0 w (cells b19 38 [.int .i64 q1q.X, .int .i64 q1q.Y] :: l') := emk hS
        refine pa (at_load one_3 q5r (hS.cell rfl)) <| x_done <| ?_
        refine x_fin ⟨⟨_, rfl⟩, rfl, ?_⟩
        exact emk hS
       ·intro Ep27 w l' hE27 hO27 hF_ hS
        obtain ⟨q5s, -⟩ := hF_
        replace q5s : Ep27 93 = .int .i64 q1q.X := emk q5s
        replace hS : St w0 w (ro q8 :: l') := emk hS
        have hcall := c_exact_Whole qcb  hS
        refine o_cc call_11 (args1 q5s) hcall ?_
        rintro e w' ⟨q0f, q6u, qal, c_y0_ret_1_27_3, q6v, qam, c_y0_ret_3_27_3, rfl, q98, q1a, q1b, hS⟩
        refine ⟨_, rfl, ?_⟩
        have e_ := q1a.n; subst e_
        have e_ := q1b.n; subst e_
        refine x_done <| ?_
        refine x_fin ⟨⟨_, rfl⟩, rfl, ?_⟩
        replace hS := St.ro_split q98 hS
        replace hS := St.bun (Φ := (fun (q0f : Heap) => Le q8 q0f ∧ RdS (RpI .u32) q0f q6u q4.Num.fmag.length c_y0_ret_1_27_3 q4.Num.fmag ∧ RdS (RpI .u32) q0f q6v q4.Den.fmag.length c_y0_ret_3_27_3 q4.Den.fmag)) (L := (fun (q0f : Heap) => [roD q8 q0f])) q0f ⟨q98, q1a, q1b⟩ (hS.pull 1)
        exact emk (hS.pull 1)
       ·intro Ep27 w l' hE27 hO27 hF_ hS
        obtain ⟨q3a, -⟩ := hF_
        replace q3a : Ep27 94 = .agg #[.bool q4.Num.fneg, .slice (adOf (partOf 1 (Ep27 94))) q4.Num.fmag.length (capOf (partOf 1 (Ep27 94))), .bool q4.Den.fneg, .slice (adOf (partOf 3 (Ep27 94))) q4.Den.fmag.length (capOf (partOf 3 (Ep27 94)))] := emk q3a
        refine o_buildSlice (vs := [.agg #[.bool q4.Num.fneg, .slice (adOf (partOf 1 (Ep27 94))) q4.Num.fmag.length (capOf (partOf 1 (Ep27 94))), .bool q4.Den.fneg, .slice (adOf (partOf 3 (Ep27 94))) q4.Den.fmag.length (capOf (partOf 3 (Ep27 94)))]]) (cs := [.bool q4.Num.fneg, .slice (adOf (partOf 1 (Ep27 94))) q4.Num.fmag.length (capOf (partOf 1 (Ep27 94))), .bool q4.Den.fneg, .slice (adOf (partOf 3 (Ep27 94))) q4.Den.fmag.length (capOf (partOf 3 (Ep27 94)))]) sl_64 zero_43 (parts_eq (pt (va := .agg #[.bool q4.Num.fneg, .slice (adOf (partOf 1 (Ep27 94))) q4.Num.fmag.length (capOf (partOf 1 (Ep27 94))), .bool q4.Den.fneg, .slice (adOf (partOf 3 (Ep27 94))) q4.Den.fmag.length (capOf (partOf 3 (Ep27 94)))]) q3a pt0)) rfl (by intro v hv; simp only [List.mem_cons, List.not_mem_nil, or_false] at hv; first | (subst hv; rfl) | (rcases hv with rfl <;> rfl)) (by decide) rfl hS (fun b95 w' hS => ?_)
        refine x_done <| ?_
        refine x_fin ⟨⟨_, rfl⟩, rfl, ?_⟩
        exact emk hS
       ·intro Ep27 w l' hE27 hO27 hF_ hS
        obtain ⟨q5t, q3a, q5u, -⟩ := hF_
        replace q5t : Ep27 91 = .slice q13 q0v.length c_xs14_L25h := emk q5t
        replace q3a : Ep27 94 = .agg #[.bool q4.Num.fneg, .slice (adOf (partOf 1 (Ep27 94))) q4.Num.fmag.length (capOf (partOf 1 (Ep27 94))), .bool q4.Den.fneg, .slice (adOf (partOf 3 (Ep27 94))) q4.Den.fmag.length (capOf (partOf 3 (Ep27 94)))] := emk q3a
        replace q5u : Ep27 95 = .slice (some ⟨(blkOf (Ep27 95)), 0, none⟩) 1 1 := emk q5u
        replace hS : St w0 w (cells (blkOf (Ep27 95)) 43 [.bool q4.Num.fneg, .slice (adOf (partOf 1 (Ep27 94))) q4.Num.fmag.length (capOf (partOf 1 (Ep27 94))), .bool q4.Den.fneg, .slice (adOf (partOf 3 (Ep27 94))) q4.Den.fmag.length (capOf (partOf 3 (Ep27 94)))] :: ro q8 :: vec 43 R_exact_Ratio.sz (.slice q13 q0v.length c_xs14_L25h) q0v.length q1x :: bunA (fun (q0f : Heap) => Le q8 q0f ∧ RdS (RpI .u32) q0f (adOf (partOf 1 (Ep27 94))) q4.Num.fmag.length (capOf (partOf 1 (Ep27 94))) q4.Num.fmag ∧ RdS (RpI .u32) q0f (adOf (partOf 3 (Ep27 94))) q4.Den.fmag.length (capOf (partOf 3 (Ep27 94))) q4.Den.fmag) (fun (q0f : Heap) => [roD q8 q0f]) :: l') := emk hS
        have q_ := St.unbun (hS.pull 3); obtain ⟨q0f, ⟨q4o, q1a, q1b⟩, hS⟩ := q_
        have q_ := St.ro_join (hS.pull 2) (Le.refl _) q4o; obtain ⟨q8j, q56, q46, hS, qcz⟩ := q_
        refine o_ap sl_64 zero_43 rfl (by decide) q5t q5u (hS.pull 2) (q4m.le q56) (src_blk usl_64 (hS.pull 1) rfl rfl) (RepL.cons (R := R_exact_Ratio) (ρ := q8j) (x := q4) (cs := [.bool q4.Num.fneg, .slice (adOf (partOf 1 (Ep27 94))) q4.Num.fmag.length (capOf (partOf 1 (Ep27 94))), .bool q4.Den.fneg, .slice (adOf (partOf 3 (Ep27 94))) q4.Den.fmag.length (capOf (partOf 3 (Ep27 94)))]) ⟨_, _, _, _, _, _, rfl, (q1a.le q46), (q1b.le q46)⟩ RepL.nil) qcd qce (fun A96 c96 cs96 w' hr96 hS => ?_)
        refine x_done <| ?_
        refine x_fin ⟨⟨_, rfl⟩, rfl, ?_⟩
        replace hS := St.ro_split q56 (hS.pull 1)
        replace hS := St.bun (Φ := (fun (x : (Heap × List Value)) => Le q8 x.1 ∧ RdS (RpI .u32) x.1 (adOf (partOf 1 (Ep27 94))) q4.Num.fmag.length (capOf (partOf 1 (Ep27 94))) q4.Num.fmag ∧ RdS (RpI .u32) x.1 (adOf (partOf 3 (Ep27 94))) q4.Den.fmag.length (capOf (partOf 3 (Ep27 94))) q4.Den.fmag ∧ RepL R_exact_Ratio x.1 q1u x.2)) (L := (fun (x : (Heap × List Value)) => [vec 43 R_exact_Ratio.sz (.slice A96 q1u.length c96) q1u.length x.2, roD q8 x.1])) (q8j, cs96) ⟨q56, (q1a.le q46), (q1b.le q46), hr96⟩ ((hS.pull 1).pull 2)
        exact emk ((hS.pull 1).pull 2)
       ·intro Ep27 w l' hE27 hO27 hF_ hS
        refine p (yl_move ((hO27 15 rfl).trans q8d)) <| x_done <| ?_
        refine x_fin ⟨⟨_, rfl⟩, rfl, ?_⟩
        exact emk hS
       ·intro Ep27 w l' hE27 hO27 hF_ hS
        refine p (yl_field0 fld_38_1 (hE27 19 rfl)) <| x_done <| ?_
        refine x_fin ⟨⟨_, rfl⟩, rfl, ?_⟩
        exact emk hS
       ·intro Ep27 w l' hE27 hO27 hF_ hS
        obtain ⟨q5v, -⟩ := hF_
        replace q5v : Ep27 98 = .pointer (some ⟨b19, 1, none⟩) := emk q5v
        replace hS : St w0 w (cells b19 38 [.int .i64 q1q.X, .int .i64 q1q.Y] :: l') := emk hS
        refine pa (at_load one_3 q5v (hS.cell rfl)) <| x_done <| ?_
        refine x_fin ⟨⟨_, rfl⟩, rfl, ?_⟩
        exact emk hS
       ·intro Ep27 w l' hE27 hO27 hF_ hS
        obtain ⟨q5w, -⟩ := hF_
        replace q5w : Ep27 99 = .int .i64 q1q.Y := emk q5w
        replace hS : St w0 w (ro q8 :: l') := emk hS
        have hcall := c_exact_Whole qcf  hS
        refine o_cc call_11 (args1 q5w) hcall ?_
        rintro e w' ⟨q0g, q6w, qan, c_y0_ret_1_27_9, q6x, qao, c_y0_ret_3_27_9, rfl, q99, q1c, q1d, hS⟩
        refine ⟨_, rfl, ?_⟩
        have e_ := q1c.n; subst e_
        have e_ := q1d.n; subst e_
        refine x_done <| ?_
        refine x_fin ⟨⟨_, rfl⟩, rfl, ?_⟩
        replace hS := St.ro_split q99 hS
        replace hS := St.bun (Φ := (fun (q0g : Heap) => Le q8 q0g ∧ RdS (RpI .u32) q0g q6w q5.Num.fmag.length c_y0_ret_1_27_9 q5.Num.fmag ∧ RdS (RpI .u32) q0g q6x q5.Den.fmag.length c_y0_ret_3_27_9 q5.Den.fmag)) (L := (fun (q0g : Heap) => [roD q8 q0g])) q0g ⟨q99, q1c, q1d⟩ (hS.pull 1)
        exact emk (hS.pull 1)
       ·intro Ep27 w l' hE27 hO27 hF_ hS
        obtain ⟨q3b, -⟩ := hF_
        replace q3b : Ep27 100 = .agg #[.bool q5.Num.fneg, .slice (adOf (partOf 1 (Ep27 100))) q5.Num.fmag.length (capOf (partOf 1 (Ep27 100))), .bool q5.Den.fneg, .slice (adOf (partOf 3 (Ep27 100))) q5.Den.fmag.length (capOf (partOf 3 (Ep27 100)))] := emk q3b
        refine o_buildSlice (vs := [.agg #[.bool q5.Num.fneg, .slice (adOf (partOf 1 (Ep27 100))) q5.Num.fmag.length (capOf (partOf 1 (Ep27 100))), .bool q5.Den.fneg, .slice (adOf (partOf 3 (Ep27 100))) q5.Den.fmag.length (capOf (partOf 3 (Ep27 100)))]]) (cs := [.bool q5.Num.fneg, .slice (adOf (partOf 1 (Ep27 100))) q5.Num.fmag.length (capOf (partOf 1 (Ep27 100))), .bool q5.Den.fneg, .slice (adOf (partOf 3 (Ep27 100))) q5.Den.fmag.length (capOf (partOf 3 (Ep27 100)))]) sl_64 zero_43 (parts_eq (pt (va := .agg #[.bool q5.Num.fneg, .slice (adOf (partOf 1 (Ep27 100))) q5.Num.fmag.length (capOf (partOf 1 (Ep27 100))), .bool q5.Den.fneg, .slice (adOf (partOf 3 (Ep27 100))) q5.Den.fmag.length (capOf (partOf 3 (Ep27 100)))]) q3b pt0)) rfl (by intro v hv; simp only [List.mem_cons, List.not_mem_nil, or_false] at hv; first | (subst hv; rfl) | (rcases hv with rfl <;> rfl)) (by decide) rfl hS (fun b101 w' hS => ?_)
        refine x_done <| ?_
        refine x_fin ⟨⟨_, rfl⟩, rfl, ?_⟩
        exact emk hS
       ·intro Ep27 w l' hE27 hO27 hF_ hS
        obtain ⟨q5x, q3b, q4y, -⟩ := hF_
        replace q5x : Ep27 97 = .slice q14 q0w.length c_ys15_L25h := emk q5x
        replace q3b : Ep27 100 = .agg #[.bool q5.Num.fneg, .slice (adOf (partOf 1 (Ep27 100))) q5.Num.fmag.length (capOf (partOf 1 (Ep27 100))), .bool q5.Den.fneg, .slice (adOf (partOf 3 (Ep27 100))) q5.Den.fmag.length (capOf (partOf 3 (Ep27 100)))] := emk q3b
        replace q4y : Ep27 101 = .slice (some ⟨(blkOf (Ep27 101)), 0, none⟩) 1 1 := emk q4y
        replace hS : St w0 w (cells (blkOf (Ep27 101)) 43 [.bool q5.Num.fneg, .slice (adOf (partOf 1 (Ep27 100))) q5.Num.fmag.length (capOf (partOf 1 (Ep27 100))), .bool q5.Den.fneg, .slice (adOf (partOf 3 (Ep27 100))) q5.Den.fmag.length (capOf (partOf 3 (Ep27 100)))] :: ro q8 :: vec 43 R_exact_Ratio.sz (.slice q14 q0w.length c_ys15_L25h) q0w.length q1y :: bunA (fun (q0g : Heap) => Le q8 q0g ∧ RdS (RpI .u32) q0g (adOf (partOf 1 (Ep27 100))) q5.Num.fmag.length (capOf (partOf 1 (Ep27 100))) q5.Num.fmag ∧ RdS (RpI .u32) q0g (adOf (partOf 3 (Ep27 100))) q5.Den.fmag.length (capOf (partOf 3 (Ep27 100))) q5.Den.fmag) (fun (q0g : Heap) => [roD q8 q0g]) :: l') := emk hS
        have q_ := St.unbun (hS.pull 3); obtain ⟨q0g, ⟨q4p, q1c, q1d⟩, hS⟩ := q_
        have q_ := St.ro_join (hS.pull 2) (Le.refl _) q4p; obtain ⟨q7d, q52, q3c, hS, qcr⟩ := q_
        refine o_ap sl_64 zero_43 rfl (by decide) q5x q4y (hS.pull 2) (q4n.le q52) (src_blk usl_64 (hS.pull 1) rfl rfl) (RepL.cons (R := R_exact_Ratio) (ρ := q7d) (x := q5) (cs := [.bool q5.Num.fneg, .slice (adOf (partOf 1 (Ep27 100))) q5.Num.fmag.length (capOf (partOf 1 (Ep27 100))), .bool q5.Den.fneg, .slice (adOf (partOf 3 (Ep27 100))) q5.Den.fmag.length (capOf (partOf 3 (Ep27 100)))]) ⟨_, _, _, _, _, _, rfl, (q1c.le q3c), (q1d.le q3c)⟩ RepL.nil) qbf qbg (fun A102 c102 cs102 w' hr102 hS => ?_)
        refine x_done <| ?_
        refine x_fin ⟨⟨_, rfl⟩, rfl, ?_⟩
        replace hS := St.ro_split q52 (hS.pull 1)
        replace hS := St.bun (Φ := (fun (x : (Heap × List Value)) => Le q8 x.1 ∧ RdS (RpI .u32) x.1 (adOf (partOf 1 (Ep27 100))) q5.Num.fmag.length (capOf (partOf 1 (Ep27 100))) q5.Num.fmag ∧ RdS (RpI .u32) x.1 (adOf (partOf 3 (Ep27 100))) q5.Den.fmag.length (capOf (partOf 3 (Ep27 100))) q5.Den.fmag ∧ RepL R_exact_Ratio x.1 q1j x.2)) (L := (fun (x : (Heap × List Value)) => [vec 43 R_exact_Ratio.sz (.slice A102 q1j.length c102) q1j.length x.2, roD q8 x.1])) (q7d, cs102) ⟨q52, (q1c.le q3c), (q1d.le q3c), hr102⟩ ((hS.pull 1).pull 2)
        exact emk ((hS.pull 1).pull 2)
       ·intro Ep27 w l' hE27 hO27 hF_ hS
        obtain ⟨q5y, -⟩ := hF_
        replace q5y : Ep27 96 = .slice (adOf (Ep27 96)) q1u.length (capOf (Ep27 96)) := emk q5y
        refine p (yl_assign q5y) <| x_done <| ?_
        refine x_fin ⟨⟨_, rfl⟩, rfl, ?_⟩
        exact emk hS
       ·intro Ep27 w l' hE27 hO27 hF_ hS
        obtain ⟨q4z, -⟩ := hF_
        replace q4z : Ep27 102 = .slice (adOf (Ep27 102)) q1j.length (capOf (Ep27 102)) := emk q4z
        refine p (yl_assign q4z) <| x_done <| ?_
        refine x_fin ⟨⟨_, rfl⟩, rfl, ?_⟩
        exact emk hS
      intro Ep27 w' hE27 hF_ hS
      obtain ⟨q5t, q5r, q5s, q3a, q5u, q5y, q5x, q5v, q5w, q3b, q4y, q4z, q8k, q8l, -⟩ := hF_
      replace q5t : Ep27 91 = .slice q13 q0v.length c_xs14_L25h := emk q5t
      replace q5r : Ep27 92 = .pointer (some ⟨b19, 0, none⟩) := emk q5r
      replace q5s : Ep27 93 = .int .i64 q1q.X := emk q5s
      replace q3a : Ep27 94 = .agg #[.bool q4.Num.fneg, .slice (adOf (partOf 1 (Ep27 94))) q4.Num.fmag.length (capOf (partOf 1 (Ep27 94))), .bool q4.Den.fneg, .slice (adOf (partOf 3 (Ep27 94))) q4.Den.fmag.length (capOf (partOf 3 (Ep27 94)))] := emk q3a
      replace q5u : Ep27 95 = .slice (some ⟨(blkOf (Ep27 95)), 0, none⟩) 1 1 := emk q5u
      replace q5y : Ep27 96 = .slice (adOf (Ep27 96)) q1u.length (capOf (Ep27 96)) := emk q5y
      replace q5x : Ep27 97 = .slice q14 q0w.length c_ys15_L25h := emk q5x
      replace q5v : Ep27 98 = .pointer (some ⟨b19, 1, none⟩) := emk q5v
      replace q5w : Ep27 99 = .int .i64 q1q.Y := emk q5w
      replace q3b : Ep27 100 = .agg #[.bool q5.Num.fneg, .slice (adOf (partOf 1 (Ep27 100))) q5.Num.fmag.length (capOf (partOf 1 (Ep27 100))), .bool q5.Den.fneg, .slice (adOf (partOf 3 (Ep27 100))) q5.Den.fmag.length (capOf (partOf 3 (Ep27 100)))] := emk q3b
      replace q4y : Ep27 101 = .slice (some ⟨(blkOf (Ep27 101)), 0, none⟩) 1 1 := emk q4y
      replace q4z : Ep27 102 = .slice (adOf (Ep27 102)) q1j.length (capOf (Ep27 102)) := emk q4z
      replace q8k : Ep27 14 = .slice (adOf (Ep27 96)) q1u.length (capOf (Ep27 96)) := emk q8k
      replace q8l : Ep27 15 = .slice (adOf (Ep27 102)) q1j.length (capOf (Ep27 102)) := emk q8l
      replace hS : St w0 w' (cells b19 38 [.int .i64 q1q.X, .int .i64 q1q.Y] :: ro q8 :: cells (blkOf (Ep27 95)) 43 [.bool q4.Num.fneg, .slice (adOf (partOf 1 (Ep27 94))) q4.Num.fmag.length (capOf (partOf 1 (Ep27 94))), .bool q4.Den.fneg, .slice (adOf (partOf 3 (Ep27 94))) q4.Den.fmag.length (capOf (partOf 3 (Ep27 94)))] :: bunA (fun (x : (Heap × List Value)) => Le q8 x.1 ∧ RdS (RpI .u32) x.1 (adOf (partOf 1 (Ep27 94))) q4.Num.fmag.length (capOf (partOf 1 (Ep27 94))) q4.Num.fmag ∧ RdS (RpI .u32) x.1 (adOf (partOf 3 (Ep27 94))) q4.Den.fmag.length (capOf (partOf 3 (Ep27 94))) q4.Den.fmag ∧ RepL R_exact_Ratio x.1 q1u x.2) (fun (x : (Heap × List Value)) => [vec 43 R_exact_Ratio.sz (.slice (adOf (Ep27 96)) q1u.length (capOf (Ep27 96))) q1u.length x.2, roD q8 x.1]) :: cells (blkOf (Ep27 101)) 43 [.bool q5.Num.fneg, .slice (adOf (partOf 1 (Ep27 100))) q5.Num.fmag.length (capOf (partOf 1 (Ep27 100))), .bool q5.Den.fneg, .slice (adOf (partOf 3 (Ep27 100))) q5.Den.fmag.length (capOf (partOf 3 (Ep27 100)))] :: bunA (fun (x : (Heap × List Value)) => Le q8 x.1 ∧ RdS (RpI .u32) x.1 (adOf (partOf 1 (Ep27 100))) q5.Num.fmag.length (capOf (partOf 1 (Ep27 100))) q5.Num.fmag ∧ RdS (RpI .u32) x.1 (adOf (partOf 3 (Ep27 100))) q5.Den.fmag.length (capOf (partOf 3 (Ep27 100))) q5.Den.fmag ∧ RepL R_exact_Ratio x.1 q1j x.2) (fun (x : (Heap × List Value)) => [vec 43 R_exact_Ratio.sz (.slice (adOf (Ep27 102)) q1j.length (capOf (Ep27 102))) q1j.length x.2, roD q8 x.1]) :: (cells b4 43 [.bool false, .slice none 0 0, .bool false, .slice none 0 0] :: cells b11 43 [.bool q0q, .slice q0k q0m.length c_b11_1_L16h, .bool q0r, .slice q0l q0n.length c_b11_3_L16h] :: cells b13 36 [.int .i64 q7.Weight, .slice q0x q7.Cells.length q0y, .slice q0z q7.At.length q10] :: l)) := emk hS
      have q_ := St.unbun (hS.pull 3); obtain ⟨⟨q0f, cs96⟩, ⟨q4o, q1a, q1b, hr96⟩, hS⟩ := q_
      have q_ := St.ro_join ((hS.pull 1).pull 3) (Le.refl _) q4o; obtain ⟨qdo, q8m, qa5, hS, qd1⟩ := q_
      have q_ := St.unbun (hS.pull 5); obtain ⟨⟨q0g, cs102⟩, ⟨q4p, q1c, q1d, hr102⟩, hS⟩ := q_
      have q_ := St.ro_join ((hS.pull 1).pull 2) q8m q4p; obtain ⟨qbh, q8n, qa6, hS, qd2⟩ := q_
      replace hFL25 := ar_s hFL25; obtain ⟨x103, hx103, hFL25⟩ := hFL25
      refine x_blk <| x_region <| p (yadd ((hE27 87 rfl).trans q6g) rfl hx103) <| p (yl_move rfl) <|
       x_done <| ?_
      have e_ := sinj hFL25; subst e_
      exact x_inv ⟨kL25, Nat.lt_succ_self _, qbh, (adOf (Ep27 96)), q1u.length, (capOf (Ep27 96)), cs96, (adOf (Ep27 102)), q1j.length, (capOf (Ep27 102)), cs102, q1u, q1j, x103, hLL25, ((q45.trans q8m).trans q8n), ((hE27 0 rfl).trans q96), ((hE27 4 rfl).trans q97), ((hE27 11 rfl).trans q8a), ((hE27 13 rfl).trans q8b), q8k, q8l, ((hE27 54 rfl).trans q8e), ((hE27 55 rfl).trans q8f), ((hE27 56 rfl).trans q8g), ((hE27 85 rfl).trans q8h), ((hE27 86 rfl).trans q8i), rfl, (hr96.le (qa5.trans q8n)), (hr102.le qa6), ((((((((hS.pull 3).drop.pull 3).drop.pull 3).drop.pull 1).pull 2).pull 5).pull 5).pull 5)⟩
     ·replace hFL25 := it_f hc88 hFL25
      refine x_exitTo _ rfl <| ?_
      have e_ := sinj hFL25; subst e_
      exact x_inv ⟨q8, q13, q0v.length, c_xs14_L25h, q1x, q14, q0w.length, c_ys15_L25h, q1y, q0v, q0w, hLL25, q45, q96, q97, q8a, q8b, q8c, q8d, q8e, q8f, q8g, q4m, q4n, ((((((hS.pull 5).pull 5).pull 5).pull 5).pull 5).pull 5)⟩
    rintro E w ⟨q6t, q1l, q38, c_xs14_L25, q4k, q1m, q39, c_ys15_L25, q4l, q1n, q1o, rfl, q53, qcg, qch, qbi, qbj, qbk, qbl, qbm, qbn, qbo, q6y, q6z, hS⟩
    have e_ := St.vec_n (hS.pull 3) q6y; subst e_
    have e_ := St.vec_n (hS.pull 4) q6z; subst e_
    refine x_seq <| x_region <| p (yl_move qbk) <| p (yl_move qbl) <| ?_
    have q_ := St.vec_fz ((hS.pull 5).pull 4) q6y; obtain ⟨qdw, q3q, qci, hS⟩ := q_
    have q_ := St.vec_fz (hS.pull 4) (q6z.le q3q); obtain ⟨q5z, q31, qbp, hS⟩ := q_
    refine o_buildSlice (vs := [.slice q1l q1n.length c_xs14_L25, .slice q1m q1o.length c_ys15_L25]) (cs := [.slice q1l q1n.length c_xs14_L25, .slice q1m q1o.length c_ys15_L25]) sl_73 zero_64 (parts_eq (pt (va := .slice q1l q1n.length c_xs14_L25) rfl (pt (va := .slice q1m q1o.length c_ys15_L25) rfl pt0))) rfl (by intro v hv; simp only [List.mem_cons, List.not_mem_nil, or_false] at hv; first | (subst hv; rfl) | (rcases hv with rfl | rfl <;> rfl)) (by decide) rfl hS (fun b106 w' hS => ?_)
    refine p (yl_len_slice usl_73 rfl) <| p (yl_move rfl) <| x_done <| ?_
    replace hFL16 := bs_s hFL16; obtain ⟨oL30, hLL30, hFL16⟩ := hFL16
    refine x_join (fun E w => ∃ (q60 : Heap) (q2u : Option Addr) (q4q : Nat) (c_b11_1_L30 : Nat) (q2v : Option Addr) (q4r : Nat) (c_b11_3_L30 : Nat) (q47 : Bool) (q32 : List Int) (q48 : Bool) (q33 : List Int), (Sum.inl (q47, q32, q48, q33)) = oL30 ∧ Le q5z q60 ∧ E 0 = .slice q0b q1g.length c_at_0 ∧ E 4 = .pointer (some ⟨b4, 0, none⟩) ∧ E 11 = .pointer (some ⟨b11, 0, none⟩) ∧ E 54 = .slice q26 l_1.length c_l_1 ∧ E 55 = .int .i64 (l_1.length : Int) ∧ E 56 = .int .i64 q1h ∧ RdS (RpI .u32) q60 q2u q4q c_b11_1_L30 q32 ∧ RdS (RpI .u32) q60 q2v q4r c_b11_3_L30 q33 ∧ St w0 w (cells b4 43 [.bool false, .slice none 0 0, .bool false, .slice none 0 0] :: cells b11 43 [.bool q47, .slice q2u q4q c_b11_1_L30, .bool q48, .slice q2v q4r c_b11_3_L30] :: ro q60 :: l)) ?_ ?_
    ·refine x_block ?_
     have q9d : RepL (RpSl R_exact_Ratio) q5z ([q1n, q1o] : List (List T_exact_Ratio)) [.slice q1l q1n.length c_xs14_L25, .slice q1m q1o.length c_ys15_L25] := (RepL.cons (cs := [.slice q1l q1n.length c_xs14_L25]) ⟨_, _, _, rfl, (qci.le q31)⟩ (RepL.cons (cs := [.slice q1m q1o.length c_ys15_L25]) ⟨_, _, _, rfl, qbp⟩ RepL.nil))
     replace hS := St.vec_of (n := 2) (sz := (RpSl R_exact_Ratio).sz) hS rfl (by decide)
     refine x_loop (fun k_ E w => ∃ (q3r : Heap) (q15 : Option Addr) (q2w : Nat) (c_y106_L30h : Nat) (q1p : List Value) (q18 : Option Addr) (q3s : Nat) (c_b11_1_L30h : Nat) (q19 : Option Addr) (q3t : Nat) (c_b11_3_L30h : Nat) (q0p : List (List T_exact_Ratio)) (q2a : Int) (q1r : Bool) (q16 : List Int) (q1s : Bool) (q17 : List Int), lp (P_place_Length_L30 q7) k_ (q0p, q2a, q1r, q16, q1s, q17) = some oL30 ∧ Le q5z q3r ∧ E 0 = .slice q0b q1g.length c_at_0 ∧ E 4 = .pointer (some ⟨b4, 0, none⟩) ∧ E 11 = .pointer (some ⟨b11, 0, none⟩) ∧ E 13 = .pointer (some ⟨b13, 0, none⟩) ∧ E 54 = .slice q26 l_1.length c_l_1 ∧ E 55 = .int .i64 (l_1.length : Int) ∧ E 56 = .int .i64 q1h ∧ E 106 = .slice q15 q2w c_y106_L30h ∧ E 107 = .int .i64 2 ∧ E 108 = .int .i64 q2a ∧ RepL (RpSl R_exact_Ratio) q3r q0p q1p ∧ RdS (RpI .u32) q3r q18 q3s c_b11_1_L30h q16 ∧ RdS (RpI .u32) q3r q19 q3t c_b11_3_L30h q17 ∧ St w0 w (cells b4 43 [.bool false, .slice none 0 0, .bool false, .slice none 0 0] :: cells b11 43 [.bool q1r, .slice q18 q3s c_b11_1_L30h, .bool q1s, .slice q19 q3t c_b11_3_L30h] :: cells b13 36 [.int .i64 q7.Weight, .slice q0x q7.Cells.length q0y, .slice q0z q7.At.length q10] :: vec 64 (RpSl R_exact_Ratio).sz (.slice q15 q2w c_y106_L30h) q2w q1p :: ro q3r :: l)) fuel ⟨q5z, (some ⟨b106, 0, none⟩), 2, 2, [.slice q1l q1n.length c_xs14_L25, .slice q1m q1o.length c_ys15_L25], q0k, q0m.length, c_b11_1_L16h, q0l, q0n.length, c_b11_3_L16h, ([q1n, q1o] : List (List T_exact_Ratio)), 0, q0q, q0m, q0r, q0n, hLL30, (Le.refl _), qcg, qch, qbi, qbj, qbm, qbn, qbo, rfl, rfl, rfl, q9d, (q3m.le ((q53.trans q3q).trans q31)), (q3n.le ((q53.trans q3q).trans q31)), (((((hS.pull 1).pull 1).pull 4).pull 4).pull 4)⟩ ?_
     rintro kL30 E w ⟨q3r, q15, q2w, c_y106_L30h, q1p, q18, q3s, c_b11_1_L30h, q19, q3t, c_b11_3_L30h, q0p, q2a, q1r, q16, q1s, q17, hLL30, q57, q7a, q7b, q6h, q6i, q6j, q6k, q6l, q58, q59, q49, q2x, q2b, q2c, hS⟩
     have e_ := St.vec_n (hS.pull 3) q2x; subst e_
     have e_ := q2b.n; subst e_
     have e_ := q2c.n; subst e_
     replace hLL30 := lp_s hLL30; obtain ⟨kL30, obL30, rfl, hFL30, hLL30⟩ := hLL30
     refine x_seq <| x_region <| p (yl_lss q49 q59) <| x_done <|
      x_seq <|
      x_cond_p (q2a < 2) rfl (fun hc109 => ?_) (fun hc109 => ?_)
     ·replace hFL30 := it_t hc109 hFL30
      replace hFL30 := ck_s hFL30; obtain ⟨q9t, hFL30⟩ := hFL30
      replace hFL30 := lv_s hFL30; obtain ⟨qdz, qcj, hFL30⟩ := hFL30
      have q_ := q2x.get q9t; obtain ⟨qdx, q9u, qck⟩ := q_
      rw [← qcj] at q9u
      obtain ⟨qe0, qe1, qe2, rfl, qap⟩ := q9u
      have e_ := qap.n; subst e_
      replace hFL30 := bd_s hFL30; obtain ⟨q9, qcl, hFL30⟩ := hFL30
      refine x_skip <| x_seq <| x_block <| x_seq <|
       x_region <| p (yix_o sl_73 q58 q49 (hS.pull 3) q2x q9t) <| pa (at_load one_64 rfl (EltV.ld (m := 0) qck (hS.pull 3) rfl)) <| p (yl_assign rfl) <|
       x_done <| x_seq <| x_region <| p (yl_move rfl) <| ?_
      have hcall := c_place_squares qcl qap (hS.pull 4)
      refine o_cc call_32 (args1 rfl) hcall ?_
      rintro e w' ⟨q0o, q0h, qaq, c_y0_ret_1_32_1, q0i, qar, c_y0_ret_3_32_1, rfl, q2m, q2d, q2e, hS⟩
      refine ⟨_, rfl, ?_⟩
      have e_ := q2d.n; subst e_
      have e_ := q2e.n; subst e_
      refine p (yl_move rfl) <| p (yl_extract rfl rfl) <| p (yl_extract rfl rfl) <| ?_
      refine o_alloc zero_43 hS (fun b22 w' hS => ?_)
      refine o_storeAgg (news := [.bool q9.1.Num.fneg, .slice q0h q9.1.Num.fmag.length c_y0_ret_1_32_1, .bool q9.1.Den.fneg, .slice q0i q9.1.Den.fmag.length c_y0_ret_3_32_1]) agg_43 rfl rfl rfl (by simp [over_length]) hS (fun w' hS => ?_)
      refine p (yl_assign rfl) <| x_done <| x_seq <| x_seq <|
       x_region <| p (yl_move rfl) <| p (yl_eql rfl rfl) <| x_done <| ?_
      replace hFL30 := bd_s hFL30; obtain ⟨oc118, hFc118, hFL30⟩ := hFL30
      refine x_join (fun E w => ∃ (q3u : Heap) (q2f : Option Addr) (q3v : Nat) (c_b22_1_c118 : Nat) (q2g : Option Addr) (q3w : Nat) (c_b22_3_c118 : Nat) (q3x : Int) (q3d : Bool) (q3e : List Int) (q3f : Bool) (q3g : List Int), (q3x, q3d, q3e, q3f, q3g) = oc118 ∧ Le q0o q3u ∧ E 0 = .slice q0b q1g.length c_at_0 ∧ E 4 = .pointer (some ⟨b4, 0, none⟩) ∧ E 11 = .pointer (some ⟨b11, 0, none⟩) ∧ E 13 = .pointer (some ⟨b13, 0, none⟩) ∧ E 22 = .pointer (some ⟨b22, 0, none⟩) ∧ E 23 = .int .i64 q3x ∧ E 54 = .slice q26 l_1.length c_l_1 ∧ E 55 = .int .i64 (l_1.length : Int) ∧ E 56 = .int .i64 q1h ∧ E 106 = .slice q15 q0p.length c_y106_L30h ∧ E 107 = .int .i64 2 ∧ E 108 = .int .i64 q2a ∧ RdS (RpI .u32) q3u q2f q3v c_b22_1_c118 q3e ∧ RdS (RpI .u32) q3u q2g q3w c_b22_3_c118 q3g ∧ St w0 w (cells b4 43 [.bool false, .slice none 0 0, .bool false, .slice none 0 0] :: cells b11 43 [.bool q1r, .slice q18 q16.length c_b11_1_L30h, .bool q1s, .slice q19 q17.length c_b11_3_L30h] :: cells b13 36 [.int .i64 q7.Weight, .slice q0x q7.Cells.length q0y, .slice q0z q7.At.length q10] :: cells b22 43 [.bool q3d, .slice q2f q3v c_b22_1_c118, .bool q3f, .slice q2g q3w c_b22_3_c118] :: vec 64 (RpSl R_exact_Ratio).sz (.slice q15 q0p.length c_y106_L30h) q0p.length q1p :: ro q3u :: l)) ?_ ?_
      ·refine x_cond_p (q9.2 = 0) rfl (fun hc118 => ?_) (fun hc118 => ?_)
       ·replace hFc118 := it_t hc118 hFc118
        replace hFc118 := bd_s hFc118; obtain ⟨q0d, qcm, hFc118⟩ := hFc118
        replace hFc118 := bd_s hFc118; obtain ⟨q2, qcn, hFc118⟩ := hFc118
        refine x_par (w0 := w0) [⟨[], [], [120], [0], [], []⟩, ⟨[], [], [121], [], [], []⟩, ⟨[1], [1], [122], [1], [], []⟩, ⟨[1, 2], [2], [123], [2], [], [3]⟩, ⟨[0, 1, 2, 3], [0, 3], [124], [2], [3], [4]⟩, ⟨[0, 1, 2, 3, 4], [4], [119, 124], [], [], []⟩, ⟨[0, 1, 2, 3, 4, 5], [4, 5], [124, 125], [], [], []⟩, ⟨[0, 1, 2, 3, 4, 5], [4, 5], [126], [], [], []⟩, ⟨[0, 1, 2, 3, 4, 5, 6], [4, 6], [], [], [0], [5]⟩, ⟨[0, 1, 2, 3, 4, 5, 6, 7, 8], [7], [23], [], [], []⟩] [⟨none, (some 8), []⟩, ⟨none, none, []⟩, ⟨none, none, []⟩, ⟨(some 3), (some 4), [123]⟩, ⟨(some 4), none, [123, 124]⟩, ⟨(some 8), none, [124]⟩] [23, 119, 120, 121, 122, 123, 124, 125, 126] [0, 1, 2] [1, 2, 4, 5] [0, 1, 2, 3, 4, 5, 6, 7, 9] [fun Ep34 => Ep34 120 = .agg #[.bool q9.1.Num.fneg, .slice q0h q9.1.Num.fmag.length c_y0_ret_1_32_1, .bool q9.1.Den.fneg, .slice q0i q9.1.Den.fmag.length c_y0_ret_3_32_1], fun Ep34 => Ep34 121 = .pointer (some ⟨b13, 0, none⟩), fun Ep34 => Ep34 122 = .int .i64 q7.Weight, fun Ep34 => Ep34 123 = .agg #[.bool q0d.Num.fneg, .slice (adOf (partOf 1 (Ep34 123))) q0d.Num.fmag.length (capOf (partOf 1 (Ep34 123))), .bool q0d.Den.fneg, .slice (adOf (partOf 3 (Ep34 123))) q0d.Den.fmag.length (capOf (partOf 3 (Ep34 123)))], fun Ep34 => Ep34 124 = .tuple #[.agg #[.bool q2.1.Num.fneg, .slice (adOf (partOf 1 (partOf 0 (Ep34 124)))) q2.1.Num.fmag.length (capOf (partOf 1 (partOf 0 (Ep34 124)))), .bool q2.1.Den.fneg, .slice (adOf (partOf 3 (partOf 0 (Ep34 124)))) q2.1.Den.fmag.length (capOf (partOf 3 (partOf 0 (Ep34 124))))], .int .i64 q2.2], fun Ep34 => Ep34 119 = .tuple #[.agg #[.bool q2.1.Num.fneg, .slice (adOf (partOf 1 (partOf 0 (Ep34 124)))) q2.1.Num.fmag.length (capOf (partOf 1 (partOf 0 (Ep34 124)))), .bool q2.1.Den.fneg, .slice (adOf (partOf 3 (partOf 0 (Ep34 124)))) q2.1.Den.fmag.length (capOf (partOf 3 (partOf 0 (Ep34 124))))], .int .i64 q2.2], fun Ep34 => Ep34 125 = .agg #[.bool q2.1.Num.fneg, .slice (adOf (partOf 1 (partOf 0 (Ep34 124)))) q2.1.Num.fmag.length (capOf (partOf 1 (partOf 0 (Ep34 124)))), .bool q2.1.Den.fneg, .slice (adOf (partOf 3 (partOf 0 (Ep34 124)))) q2.1.Den.fmag.length (capOf (partOf 3 (partOf 0 (Ep34 124))))], fun Ep34 => Ep34 126 = .int .i64 q2.2, fun Ep34 => True, fun Ep34 => Ep34 23 = .int .i64 q2.2] [fun Ep34 => cells b22 43 [.bool q9.1.Num.fneg, .slice q0h q9.1.Num.fmag.length c_y0_ret_1_32_1, .bool q9.1.Den.fneg, .slice q0i q9.1.Den.fmag.length c_y0_ret_3_32_1], fun Ep34 => cells b13 36 [.int .i64 q7.Weight, .slice q0x q7.Cells.length q0y, .slice q0z q7.At.length q10], fun Ep34 => ro q0o, fun Ep34 => bunA (fun (q0j : Heap) => Le q0o q0j ∧ RdS (RpI .u32) q0j (adOf (partOf 1 (Ep34 123))) q0d.Num.fmag.length (capOf (partOf 1 (Ep34 123))) q0d.Num.fmag ∧ RdS (RpI .u32) q0j (adOf (partOf 3 (Ep34 123))) q0d.Den.fmag.length (capOf (partOf 3 (Ep34 123))) q0d.Den.fmag) (fun (q0j : Heap) => [roD q0o q0j]), fun Ep34 => bunA (fun (q0c : Heap) => Le q0o q0c ∧ RdS (RpI .u32) q0c (adOf (partOf 1 (Ep34 123))) q0d.Num.fmag.length (capOf (partOf 1 (Ep34 123))) q0d.Num.fmag ∧ RdS (RpI .u32) q0c (adOf (partOf 3 (Ep34 123))) q0d.Den.fmag.length (capOf (partOf 3 (Ep34 123))) q0d.Den.fmag ∧ RdS (RpI .u32) q0c (adOf (partOf 1 (partOf 0 (Ep34 124)))) q2.1.Num.fmag.length (capOf (partOf 1 (partOf 0 (Ep34 124)))) q2.1.Num.fmag ∧ RdS (RpI .u32) q0c (adOf (partOf 3 (partOf 0 (Ep34 124)))) q2.1.Den.fmag.length (capOf (partOf 3 (partOf 0 (Ep34 124)))) q2.1.Den.fmag) (fun (q0c : Heap) => [roD q0o q0c]), fun Ep34 => cells b22 43 [.bool q2.1.Num.fneg, .slice (adOf (partOf 1 (partOf 0 (Ep34 124)))) q2.1.Num.fmag.length (capOf (partOf 1 (partOf 0 (Ep34 124)))), .bool q2.1.Den.fneg, .slice (adOf (partOf 3 (partOf 0 (Ep34 124)))) q2.1.Den.fmag.length (capOf (partOf 3 (partOf 0 (Ep34 124))))]] mixed (by kernel_rfl) (((hS.pull 1).pull 4).pull 2) ?_ ?_
        ·refine ⟨?_, ?_, ?_, ?_, ?_, ?_, ?_, ?_, ?_, ?_, trivial⟩
         ·intro Ep34 w l' hE34 hO34 hF_ hS
          replace hS : St w0 w (cells b22 43 [.bool q9.1.Num.fneg, .slice q0h q9.1.Num.fmag.length c_y0_ret_1_32_1, .bool q9.1.Den.fneg, .slice q0i q9.1.Den.fmag.length c_y0_ret_3_32_1] :: l') := emk hS
          refine pa (v := .agg #[.bool q9.1.Num.fneg, .slice q0h q9.1.Num.fmag.length c_y0_ret_1_32_1, .bool q9.1.Den.fneg, .slice q0i q9.1.Den.fmag.length c_y0_ret_3_32_1]) (ld_sub agg_43 (hE34 22 rfl) rfl rfl hS) <| x_done <| ?_
          refine x_fin ⟨⟨_, rfl⟩, rfl, ?_⟩
          exact emk hS
         ·intro Ep34 w l' hE34 hO34 hF_ hS
          refine p (yl_field0 fld_36_0 ((hE34 13 rfl).trans q6i)) <| x_done <| ?_
          refine x_fin ⟨⟨_, rfl⟩, rfl, ?_⟩
          exact emk hS
         ·intro Ep34 w l' hE34 hO34 hF_ hS
          obtain ⟨q61, -⟩ := hF_
          replace q61 : Ep34 121 = .pointer (some ⟨b13, 0, none⟩) := emk q61
          replace hS : St w0 w (cells b13 36 [.int .i64 q7.Weight, .slice q0x q7.Cells.length q0y, .slice q0z q7.At.length q10] :: l') := emk hS
          refine pa (at_load one_3 q61 (hS.cell rfl)) <| x_done <| ?_
          refine x_fin ⟨⟨_, rfl⟩, rfl, ?_⟩
          exact emk hS
         ·intro Ep34 w l' hE34 hO34 hF_ hS
          obtain ⟨q62, -⟩ := hF_
          replace q62 : Ep34 122 = .int .i64 q7.Weight := emk q62
          replace hS : St w0 w (ro q0o :: l') := emk hS
          have hcall := c_exact_Whole qcm  hS
          refine o_cc call_11 (args1 q62) hcall ?_
          rintro e w' ⟨q0j, q70, qas, c_y0_ret_1_34_3, q71, qat, c_y0_ret_3_34_3, rfl, q9a, q1e, q1f, hS⟩
          refine ⟨_, rfl, ?_⟩
          have e_ := q1e.n; subst e_
          have e_ := q1f.n; subst e_
          refine x_done <| ?_
          refine x_fin ⟨⟨_, rfl⟩, rfl, ?_⟩
          replace hS := St.ro_split q9a hS
          replace hS := St.bun (Φ := (fun (q0j : Heap) => Le q0o q0j ∧ RdS (RpI .u32) q0j q70 q0d.Num.fmag.length c_y0_ret_1_34_3 q0d.Num.fmag ∧ RdS (RpI .u32) q0j q71 q0d.Den.fmag.length c_y0_ret_3_34_3 q0d.Den.fmag)) (L := (fun (q0j : Heap) => [roD q0o q0j])) q0j ⟨q9a, q1e, q1f⟩ (hS.pull 1)
          exact emk (hS.pull 1)
         ·intro Ep34 w l' hE34 hO34 hF_ hS
          obtain ⟨q63, q64, -⟩ := hF_
          replace q63 : Ep34 120 = .agg #[.bool q9.1.Num.fneg, .slice q0h q9.1.Num.fmag.length c_y0_ret_1_32_1, .bool q9.1.Den.fneg, .slice q0i q9.1.Den.fmag.length c_y0_ret_3_32_1] := emk q63
          replace q64 : Ep34 123 = .agg #[.bool q0d.Num.fneg, .slice (adOf (partOf 1 (Ep34 123))) q0d.Num.fmag.length (capOf (partOf 1 (Ep34 123))), .bool q0d.Den.fneg, .slice (adOf (partOf 3 (Ep34 123))) q0d.Den.fmag.length (capOf (partOf 3 (Ep34 123)))] := emk q64
          replace hS : St w0 w (ro q0o :: bunA (fun (q0j : Heap) => Le q0o q0j ∧ RdS (RpI .u32) q0j (adOf (partOf 1 (Ep34 123))) q0d.Num.fmag.length (capOf (partOf 1 (Ep34 123))) q0d.Num.fmag ∧ RdS (RpI .u32) q0j (adOf (partOf 3 (Ep34 123))) q0d.Den.fmag.length (capOf (partOf 3 (Ep34 123))) q0d.Den.fmag) (fun (q0j : Heap) => [roD q0o q0j]) :: l') := emk hS
          have q_ := St.unbun (hS.pull 1); obtain ⟨q0j, ⟨q8v, q1e, q1f⟩, hS⟩ := q_
          have q_ := St.ro_join (hS.pull 1) (Le.refl _) q8v; obtain ⟨qdc, q4a, q4b, hS, qd0⟩ := q_
          have hcall := c_exact_Prod qcn (q2d.le q4a) (q2e.le q4a) (q1e.le q4b) (q1f.le q4b) hS
          refine o_cc call_33 (args2 q63 q64) hcall ?_
          rintro e w' ⟨q0c, q72, qau, c_y0_ret_1_34_4, q73, qav, c_y0_ret_3_34_4, rfl, q65, q23, q24, hS⟩
          refine ⟨_, rfl, ?_⟩
          have e_ := q23.n; subst e_
          have e_ := q24.n; subst e_
          refine x_done <| ?_
          refine x_fin ⟨⟨_, rfl⟩, rfl, ?_⟩
          replace hS := St.ro_split (q4a.trans q65) hS
          replace hS := St.bun (Φ := (fun (q0c : Heap) => Le q0o q0c ∧ RdS (RpI .u32) q0c (adOf (partOf 1 (Ep34 123))) q0d.Num.fmag.length (capOf (partOf 1 (Ep34 123))) q0d.Num.fmag ∧ RdS (RpI .u32) q0c (adOf (partOf 3 (Ep34 123))) q0d.Den.fmag.length (capOf (partOf 3 (Ep34 123))) q0d.Den.fmag ∧ RdS (RpI .u32) q0c q72 q2.1.Num.fmag.length c_y0_ret_1_34_4 q2.1.Num.fmag ∧ RdS (RpI .u32) q0c q73 q2.1.Den.fmag.length c_y0_ret_3_34_4 q2.1.Den.fmag)) (L := (fun (q0c : Heap) => [roD q0o q0c])) q0c ⟨(q4a.trans q65), (q1e.le (q4b.trans q65)), (q1f.le (q4b.trans q65)), q23, q24⟩ (hS.pull 1)
          exact emk (hS.pull 1)
         ·intro Ep34 w l' hE34 hO34 hF_ hS
          obtain ⟨q1z, -⟩ := hF_
          replace q1z : Ep34 124 = .tuple #[.agg #[.bool q2.1.Num.fneg, .slice (adOf (partOf 1 (partOf 0 (Ep34 124)))) q2.1.Num.fmag.length (capOf (partOf 1 (partOf 0 (Ep34 124)))), .bool q2.1.Den.fneg, .slice (adOf (partOf 3 (partOf 0 (Ep34 124)))) q2.1.Den.fmag.length (capOf (partOf 3 (partOf 0 (Ep34 124))))], .int .i64 q2.2] := emk q1z
          refine p (yl_move q1z) <| x_done <| ?_
          refine x_fin ⟨⟨_, rfl⟩, rfl, ?_⟩
          exact emk hS
         ·intro Ep34 w l' hE34 hO34 hF_ hS
          obtain ⟨q1z, q2y, -⟩ := hF_
          replace q1z : Ep34 124 = .tuple #[.agg #[.bool q2.1.Num.fneg, .slice (adOf (partOf 1 (partOf 0 (Ep34 124)))) q2.1.Num.fmag.length (capOf (partOf 1 (partOf 0 (Ep34 124)))), .bool q2.1.Den.fneg, .slice (adOf (partOf 3 (partOf 0 (Ep34 124)))) q2.1.Den.fmag.length (capOf (partOf 3 (partOf 0 (Ep34 124))))], .int .i64 q2.2] := emk q1z
          replace q2y : Ep34 119 = .tuple #[.agg #[.bool q2.1.Num.fneg, .slice (adOf (partOf 1 (partOf 0 (Ep34 124)))) q2.1.Num.fmag.length (capOf (partOf 1 (partOf 0 (Ep34 124)))), .bool q2.1.Den.fneg, .slice (adOf (partOf 3 (partOf 0 (Ep34 124)))) q2.1.Den.fmag.length (capOf (partOf 3 (partOf 0 (Ep34 124))))], .int .i64 q2.2] := emk q2y
          refine p (yl_extract q2y rfl) <| x_done <| ?_
          refine x_fin ⟨⟨_, rfl⟩, rfl, ?_⟩
          exact emk hS
         ·intro Ep34 w l' hE34 hO34 hF_ hS
          obtain ⟨q1z, q2y, -⟩ := hF_
          replace q1z : Ep34 124 = .tuple #[.agg #[.bool q2.1.Num.fneg, .slice (adOf (partOf 1 (partOf 0 (Ep34 124)))) q2.1.Num.fmag.length (capOf (partOf 1 (partOf 0 (Ep34 124)))), .bool q2.1.Den.fneg, .slice (adOf (partOf 3 (partOf 0 (Ep34 124)))) q2.1.Den.fmag.length (capOf (partOf 3 (partOf 0 (Ep34 124))))], .int .i64 q2.2] := emk q1z
          replace q2y : Ep34 119 = .tuple #[.agg #[.bool q2.1.Num.fneg, .slice (adOf (partOf 1 (partOf 0 (Ep34 124)))) q2.1.Num.fmag.length (capOf (partOf 1 (partOf 0 (Ep34 124)))), .bool q2.1.Den.fneg, .slice (adOf (partOf 3 (partOf 0 (Ep34 124)))) q2.1.Den.fmag.length (capOf (partOf 3 (partOf 0 (Ep34 124))))], .int .i64 q2.2] := emk q2y
          refine p (yl_extract q2y rfl) <| x_done <| ?_
          refine x_fin ⟨⟨_, rfl⟩, rfl, ?_⟩
          exact emk hS
         ·intro Ep34 w l' hE34 hO34 hF_ hS
          obtain ⟨q1z, q66, -⟩ := hF_
          replace q1z : Ep34 124 = .tuple #[.agg #[.bool q2.1.Num.fneg, .slice (adOf (partOf 1 (partOf 0 (Ep34 124)))) q2.1.Num.fmag.length (capOf (partOf 1 (partOf 0 (Ep34 124)))), .bool q2.1.Den.fneg, .slice (adOf (partOf 3 (partOf 0 (Ep34 124)))) q2.1.Den.fmag.length (capOf (partOf 3 (partOf 0 (Ep34 124))))], .int .i64 q2.2] := emk q1z
          replace q66 : Ep34 125 = .agg #[.bool q2.1.Num.fneg, .slice (adOf (partOf 1 (partOf 0 (Ep34 124)))) q2.1.Num.fmag.length (capOf (partOf 1 (partOf 0 (Ep34 124)))), .bool q2.1.Den.fneg, .slice (adOf (partOf 3 (partOf 0 (Ep34 124)))) q2.1.Den.fmag.length (capOf (partOf 3 (partOf 0 (Ep34 124))))] := emk q66
          replace hS : St w0 w (cells b22 43 [.bool q9.1.Num.fneg, .slice q0h q9.1.Num.fmag.length c_y0_ret_1_32_1, .bool q9.1.Den.fneg, .slice q0i q9.1.Den.fmag.length c_y0_ret_3_32_1] :: l') := emk hS
          refine o_storeAgg (news := [.bool q2.1.Num.fneg, .slice (adOf (partOf 1 (partOf 0 (Ep34 124)))) q2.1.Num.fmag.length (capOf (partOf 1 (partOf 0 (Ep34 124)))), .bool q2.1.Den.fneg, .slice (adOf (partOf 3 (partOf 0 (Ep34 124)))) q2.1.Den.fmag.length (capOf (partOf 3 (partOf 0 (Ep34 124))))]) agg_43 (hE34 22 rfl) q66 rfl (by simp [over_length]) hS (fun w' hS => ?_)
          refine x_done <| ?_
          refine x_fin ⟨⟨undef, rfl⟩, trivial, ?_⟩
          exact emk hS
         ·intro Ep34 w l' hE34 hO34 hF_ hS
          obtain ⟨q67, -⟩ := hF_
          replace q67 : Ep34 126 = .int .i64 q2.2 := emk q67
          refine p (yl_assign q67) <| x_done <| ?_
          refine x_fin ⟨⟨_, rfl⟩, rfl, ?_⟩
          exact emk hS
        intro Ep34 w' hE34 hF_ hS
        obtain ⟨q63, q61, q62, q64, q1z, q2y, q66, q67, q9e, -⟩ := hF_
        replace q63 : Ep34 120 = .agg #[.bool q9.1.Num.fneg, .slice q0h q9.1.Num.fmag.length c_y0_ret_1_32_1, .bool q9.1.Den.fneg, .slice q0i q9.1.Den.fmag.length c_y0_ret_3_32_1] := emk q63
        replace q61 : Ep34 121 = .pointer (some ⟨b13, 0, none⟩) := emk q61
        replace q62 : Ep34 122 = .int .i64 q7.Weight := emk q62
        replace q64 : Ep34 123 = .agg #[.bool q0d.Num.fneg, .slice (adOf (partOf 1 (Ep34 123))) q0d.Num.fmag.length (capOf (partOf 1 (Ep34 123))), .bool q0d.Den.fneg, .slice (adOf (partOf 3 (Ep34 123))) q0d.Den.fmag.length (capOf (partOf 3 (Ep34 123)))] := emk q64
        replace q1z : Ep34 124 = .tuple #[.agg #[.bool q2.1.Num.fneg, .slice (adOf (partOf 1 (partOf 0 (Ep34 124)))) q2.1.Num.fmag.length (capOf (partOf 1 (partOf 0 (Ep34 124)))), .bool q2.1.Den.fneg, .slice (adOf (partOf 3 (partOf 0 (Ep34 124)))) q2.1.Den.fmag.length (capOf (partOf 3 (partOf 0 (Ep34 124))))], .int .i64 q2.2] := emk q1z
        replace q2y : Ep34 119 = .tuple #[.agg #[.bool q2.1.Num.fneg, .slice (adOf (partOf 1 (partOf 0 (Ep34 124)))) q2.1.Num.fmag.length (capOf (partOf 1 (partOf 0 (Ep34 124)))), .bool q2.1.Den.fneg, .slice (adOf (partOf 3 (partOf 0 (Ep34 124)))) q2.1.Den.fmag.length (capOf (partOf 3 (partOf 0 (Ep34 124))))], .int .i64 q2.2] := emk q2y
        replace q66 : Ep34 125 = .agg #[.bool q2.1.Num.fneg, .slice (adOf (partOf 1 (partOf 0 (Ep34 124)))) q2.1.Num.fmag.length (capOf (partOf 1 (partOf 0 (Ep34 124)))), .bool q2.1.Den.fneg, .slice (adOf (partOf 3 (partOf 0 (Ep34 124)))) q2.1.Den.fmag.length (capOf (partOf 3 (partOf 0 (Ep34 124))))] := emk q66
        replace q67 : Ep34 126 = .int .i64 q2.2 := emk q67
        replace q9e : Ep34 23 = .int .i64 q2.2 := emk q9e
        replace hS : St w0 w' (cells b13 36 [.int .i64 q7.Weight, .slice q0x q7.Cells.length q0y, .slice q0z q7.At.length q10] :: ro q0o :: bunA (fun (q0c : Heap) => Le q0o q0c ∧ RdS (RpI .u32) q0c (adOf (partOf 1 (Ep34 123))) q0d.Num.fmag.length (capOf (partOf 1 (Ep34 123))) q0d.Num.fmag ∧ RdS (RpI .u32) q0c (adOf (partOf 3 (Ep34 123))) q0d.Den.fmag.length (capOf (partOf 3 (Ep34 123))) q0d.Den.fmag ∧ RdS (RpI .u32) q0c (adOf (partOf 1 (partOf 0 (Ep34 124)))) q2.1.Num.fmag.length (capOf (partOf 1 (partOf 0 (Ep34 124)))) q2.1.Num.fmag ∧ RdS (RpI .u32) q0c (adOf (partOf 3 (partOf 0 (Ep34 124)))) q2.1.Den.fmag.length (capOf (partOf 3 (partOf 0 (Ep34 124)))) q2.1.Den.fmag) (fun (q0c : Heap) => [roD q0o q0c]) :: cells b22 43 [.bool q2.1.Num.fneg, .slice (adOf (partOf 1 (partOf 0 (Ep34 124)))) q2.1.Num.fmag.length (capOf (partOf 1 (partOf 0 (Ep34 124)))), .bool q2.1.Den.fneg, .slice (adOf (partOf 3 (partOf 0 (Ep34 124)))) q2.1.Den.fmag.length (capOf (partOf 3 (partOf 0 (Ep34 124))))] :: (cells b4 43 [.bool false, .slice none 0 0, .bool false, .slice none 0 0] :: cells b11 43 [.bool q1r, .slice q18 q16.length c_b11_1_L30h, .bool q1s, .slice q19 q17.length c_b11_3_L30h] :: vec 64 (RpSl R_exact_Ratio).sz (.slice q15 q0p.length c_y106_L30h) q0p.length q1p :: l)) := emk hS
        have q_ := St.unbun (hS.pull 2); obtain ⟨q0c, ⟨q8w, q1e, q1f, q23, q24⟩, hS⟩ := q_
        have q_ := St.ro_join (hS.pull 2) (Le.refl _) q8w; obtain ⟨qbq, qa7, q8o, hS, qd3⟩ := q_
        exact x_inv ⟨qbq, (adOf (partOf 1 (partOf 0 (Ep34 124)))), q2.1.Num.fmag.length, (capOf (partOf 1 (partOf 0 (Ep34 124)))), (adOf (partOf 3 (partOf 0 (Ep34 124)))), q2.1.Den.fmag.length, (capOf (partOf 3 (partOf 0 (Ep34 124)))), q2.2, q2.1.Num.fneg, q2.1.Num.fmag, q2.1.Den.fneg, q2.1.Den.fmag, (sinj hFc118), qa7, ((hE34 0 rfl).trans q7a), ((hE34 4 rfl).trans q7b), ((hE34 11 rfl).trans q6h), ((hE34 13 rfl).trans q6i), (hE34 22 rfl), q9e, ((hE34 54 rfl).trans q6j), ((hE34 55 rfl).trans q6k), ((hE34 56 rfl).trans q6l), ((hE34 106 rfl).trans q58), ((hE34 107 rfl).trans q59), ((hE34 108 rfl).trans q49), (q23.le q8o), (q24.le q8o), (((((hS.pull 5).pull 3).pull 3).pull 5).pull 5)⟩
       ·replace hFc118 := it_f hc118 hFc118
        refine x_skip <| ?_
        exact x_inv ⟨q0o, q0h, q9.1.Num.fmag.length, c_y0_ret_1_32_1, q0i, q9.1.Den.fmag.length, c_y0_ret_3_32_1, q9.2, q9.1.Num.fneg, q9.1.Num.fmag, q9.1.Den.fneg, q9.1.Den.fmag, (sinj hFc118), (Le.refl _), q7a, q7b, q6h, q6i, rfl, rfl, q6j, q6k, q6l, q58, q59, q49, q2d, q2e, ((((((hS.pull 1).pull 5).pull 2).pull 5).pull 5).pull 5)⟩
      rintro E w ⟨q3u, q2f, q3v, c_b22_1_c118, q2g, q3w, c_b22_3_c118, q3x, q3d, q3e, q3f, q3g, rfl, q25, q9b, q9c, q54, q8p, qa8, q8q, q8r, q8s, q8t, q7e, q7f, q7g, q5a, q5b, hS⟩
      have e_ := q5a.n; subst e_
      have e_ := q5b.n; subst e_
      refine x_seq <| x_seq <| x_region <| p (yl_move q8q) <|
       p (yl_eql rfl rfl) <| x_done <| ?_
      replace hFL30 := bd_s hFL30; obtain ⟨oc128, hFc128, hFL30⟩ := hFL30
      refine x_join (fun E w => ∃ (q3y : Heap) (q2h : Option Addr) (q3z : Nat) (c_b11_1_c128 : Nat) (q2i : Option Addr) (q40 : Nat) (c_b11_3_c128 : Nat) (q55 : Int) (q3h : Bool) (q2j : List Int) (q3i : Bool) (q2k : List Int), (q55, q3h, q2j, q3i, q2k) = oc128 ∧ Le q3u q3y ∧ E 0 = .slice q0b q1g.length c_at_0 ∧ E 4 = .pointer (some ⟨b4, 0, none⟩) ∧ E 11 = .pointer (some ⟨b11, 0, none⟩) ∧ E 13 = .pointer (some ⟨b13, 0, none⟩) ∧ E 23 = .int .i64 q55 ∧ E 54 = .slice q26 l_1.length c_l_1 ∧ E 55 = .int .i64 (l_1.length : Int) ∧ E 56 = .int .i64 q1h ∧ E 106 = .slice q15 q0p.length c_y106_L30h ∧ E 107 = .int .i64 2 ∧ E 108 = .int .i64 q2a ∧ RdS (RpI .u32) q3y q2h q3z c_b11_1_c128 q2j ∧ RdS (RpI .u32) q3y q2i q40 c_b11_3_c128 q2k ∧ St w0 w (cells b4 43 [.bool false, .slice none 0 0, .bool false, .slice none 0 0] :: cells b11 43 [.bool q3h, .slice q2h q3z c_b11_1_c128, .bool q3i, .slice q2i q40 c_b11_3_c128] :: cells b13 36 [.int .i64 q7.Weight, .slice q0x q7.Cells.length q0y, .slice q0z q7.At.length q10] :: vec 64 (RpSl R_exact_Ratio).sz (.slice q15 q0p.length c_y106_L30h) q0p.length q1p :: ro q3y :: l)) ?_ ?_
      ·refine x_cond_p (q3x = 0) rfl (fun hc128 => ?_) (fun hc128 => ?_)
       ·replace hFc128 := it_t hc128 hFc128
        replace hFc128 := bd_s hFc128; obtain ⟨q2l, qco, hFc128⟩ := hFc128
        refine x_region <| pa (v := .agg #[.bool q1r, .slice q18 q16.length c_b11_1_L30h, .bool q1s, .slice q19 q17.length c_b11_3_L30h]) (ld_sub agg_43 q54 rfl rfl (hS.pull 1)) <| pa (v := .agg #[.bool q3d, .slice q2f q3e.length c_b22_1_c118, .bool q3f, .slice q2g q3g.length c_b22_3_c118]) (ld_sub agg_43 qa8 rfl rfl (hS.pull 3)) <| ?_
        have hcall := c_exact_Sum qco (q2b.le (q2m.trans q25)) (q2c.le (q2m.trans q25)) q5a q5b (hS.pull 5)
        refine o_cc call_18 (args2 rfl rfl) hcall ?_
        rintro e w' ⟨qbr, q4c, qaw, c_y0_ret_1_36_2, q4d, qax, c_y0_ret_3_36_2, rfl, qbs, q4e, q4f, hS⟩
        refine ⟨_, rfl, ?_⟩
        have e_ := q4e.n; subst e_
        have e_ := q4f.n; subst e_
        refine p (yl_move rfl) <| p (yl_extract rfl rfl) <| p (yl_extract rfl rfl) <| ?_
        refine o_storeAgg (news := [.bool q2l.1.Num.fneg, .slice q4c q2l.1.Num.fmag.length c_y0_ret_1_36_2, .bool q2l.1.Den.fneg, .slice q4d q2l.1.Den.fmag.length c_y0_ret_3_36_2]) agg_43 q54 rfl rfl (by simp [over_length]) (hS.pull 2) (fun w' hS => ?_)
        refine p (yl_assign rfl) <| x_done <| ?_
        exact x_inv ⟨qbr, q4c, q2l.1.Num.fmag.length, c_y0_ret_1_36_2, q4d, q2l.1.Den.fmag.length, c_y0_ret_3_36_2, q2l.2, q2l.1.Num.fneg, q2l.1.Num.fmag, q2l.1.Den.fneg, q2l.1.Den.fmag, (sinj hFc128), qbs, q9b, q9c, q54, q8p, rfl, q8r, q8s, q8t, q7e, q7f, q7g, q4e, q4f, ((((((hS.pull 4).drop.pull 1).pull 4).pull 4).pull 3).pull 4)⟩
       ·replace hFc128 := it_f hc128 hFc128
        refine x_skip <| ?_
        exact x_inv ⟨q3u, q18, q16.length, c_b11_1_L30h, q19, q17.length, c_b11_3_L30h, q3x, q1r, q16, q1s, q17, (sinj hFc128), (Le.refl _), q9b, q9c, q54, q8p, q8q, q8r, q8s, q8t, q7e, q7f, q7g, (q2b.le (q2m.trans q25)), (q2c.le (q2m.trans q25)), ((((((hS.pull 3).drop.pull 4).pull 4).pull 4).pull 4).pull 4)⟩
      rintro E w ⟨q3y, q2h, q3z, c_b11_1_c128, q2i, q40, c_b11_3_c128, q55, q3h, q2j, q3i, q2k, rfl, q5c, qbt, q7c, qa9, qaa, q8u, qab, qac, qad, q9v, q9w, q9x, q5d, q5e, hS⟩
      have e_ := q5d.n; subst e_
      have e_ := q5e.n; subst e_
      refine x_seq <| x_region <| p (yl_move q8u) <| p (yl_neq rfl rfl) <|
       x_done <|
       x_cond_p (q55 ≠ 0) rfl (fun hc136 => ?_) (fun hc136 => ?_)
      ·replace hFL30 := it_t hc136 hFL30
       refine x_seq <| x_region <| p (v := .agg #[.bool false, .slice none 0 0, .bool false, .slice none 0 0]) (yl_build bld_43 bldf_43 (parts_eq pt0) (by kernel_rfl)) <| p (yl_move q8u) <| ?_
       refine o_storeAgg (news := [.bool false, .slice none 0 0, .bool false, .slice none 0 0]) agg_43 q7c rfl rfl (by simp [over_length]) hS (fun w' hS => ?_)
       refine p (yl_assign rfl) <| x_done <| ?_
       have e_ := sinj hFL30; subst e_
       have e_ := (show _ = oL30 from hLL30); subst e_
       have e_ := sinj hFL16; subst e_
       have e_ := (show _ = oL16 from hLL16); subst e_
       have e_ := sinj hF; subst e_
       exact x_return ⟨_, ⟨_, _, _, rfl, q7c, ldvA agg_43 rfl (fun j v hj => by rw [add0]; exact St.cell hS hj), _, _, rfl, rfl, rfl⟩, q3y, none, 0, 0, none, 0, 0, rfl, ((((((((q0s.trans q0e).trans q53).trans q3q).trans q31).trans q57).trans q2m).trans q25).trans q5c), (RdS.nil (A := none) (c := 0)), (RdS.nil (A := none) (c := 0)), hS.drop.drop.drop.drop⟩
      ·replace hFL30 := it_f hc136 hFL30
       replace hFL30 := ar_s hFL30; obtain ⟨x139, hx139, hFL30⟩ := hFL30
       refine x_skip <| x_blk <| x_region <| p (yadd q9x rfl hx139) <|
        p (yl_move rfl) <| x_done <| ?_
       have e_ := sinj hFL30; subst e_
       exact x_inv ⟨kL30, Nat.lt_succ_self _, q3y, q15, q0p.length, c_y106_L30h, q1p, q2h, q2j.length, c_b11_1_c128, q2i, q2k.length, c_b11_3_c128, q0p, x139, q3h, q2j, q3i, q2k, hLL30, (((q57.trans q2m).trans q25).trans q5c), qbt, q7c, qa9, qaa, qab, qac, qad, q9v, q9w, rfl, (q2x.le ((q2m.trans q25).trans q5c)), q5d, q5e, (((((hS.pull 4).pull 4).pull 4).pull 4).pull 4)⟩
     ·replace hFL30 := it_f hc109 hFL30
      refine x_exitTo _ rfl <| ?_
      have e_ := sinj hFL30; subst e_
      exact x_inv ⟨q3r, q18, q16.length, c_b11_1_L30h, q19, q17.length, c_b11_3_L30h, q1r, q16, q1s, q17, hLL30, q57, q7a, q7b, q6h, q6j, q6k, q6l, q2b, q2c, (((((hS.pull 2).drop.pull 2).drop.pull 2).pull 2).pull 2)⟩
    rintro E w ⟨q60, q2u, q4q, c_b11_1_L30, q2v, q4r, c_b11_3_L30, q47, q32, q48, q33, rfl, qae, qcp, qcq, qbu, qbv, qbw, qbx, q68, q69, hS⟩
    have e_ := q68.n; subst e_
    have e_ := q69.n; subst e_
    replace hFL16 := ar_s hFL16; obtain ⟨x140, hx140, hFL16⟩ := hFL16
    refine x_blk <| x_region <| p (yadd qbx rfl hx140) <| p (yl_move rfl) <|
     x_done <| ?_
    have e_ := sinj hFL16; subst e_
    exact x_inv ⟨kL16, Nat.lt_succ_self _, q60, q2u, q32.length, c_b11_1_L30, q2v, q33.length, c_b11_3_L30, x140, q47, q32, q48, q33, hLL16, ((((q0e.trans q53).trans q3q).trans q31).trans qae), qcp, qcq, qbu, qbv, qbw, rfl, q68, q69, (((hS.pull 2).pull 2).pull 2)⟩
   ·replace hFL16 := it_f hc57 hFL16
    refine x_exitTo _ rfl <| ?_
    have e_ := sinj hFL16; subst e_
    exact x_inv ⟨q0a, q0k, q0m.length, c_b11_1_L16h, q0l, q0n.length, c_b11_3_L16h, q0q, q0m, q0r, q0n, hLL16, q0e, q8z, q7s, q3m, q3n, (((hS.pull 2).pull 2).pull 2)⟩
  rintro E w ⟨q5g, q21, q4g, c_b11_1_L16, q22, q4h, c_b11_3_L16, q2z, q28, q30, q29, rfl, qaf, q9y, qby, q6a, q6b, hS⟩
  have e_ := q6a.n; subst e_
  have e_ := q6b.n; subst e_
  refine x_seq <| x_region <| pa (v := .agg #[.bool q2z, .slice q21 q28.length c_b11_1_L16, .bool q30, .slice q22 q29.length c_b11_3_L16]) (ld_sub agg_43 qby rfl rfl (hS.pull 1)) <| ?_
  refine o_storeAgg (news := [.bool q2z, .slice q21 q28.length c_b11_1_L16, .bool q30, .slice q22 q29.length c_b11_3_L16]) agg_43 q9y rfl rfl (by simp [over_length]) hS (fun w' hS => ?_)
  refine p (yl_assign rfl) <| x_done <| ?_
  have e_ := sinj hF; subst e_
  exact x_return ⟨_, ⟨_, _, _, rfl, q9y, ldvA agg_43 rfl (fun j v hj => by rw [add0]; exact St.cell hS hj), _, _, rfl, rfl, rfl⟩, q5g, q21, q28.length, c_b11_1_L16, q22, q29.length, c_b11_3_L16, rfl, (q0s.trans qaf), q6a, q6b, hS.drop.drop⟩
attribute [irreducible] P_place_Length

def P_slices_Clone_place_Spot_place_Spot (s0 : List T_place_Spot) : Option (List T_place_Spot) :=
 lv (([] : List T_place_Spot) ++ s0) fun q2 =>
 ck (apOk 128 q2.length) <|
 some q2
theorem c_slices_Clone_place_Spot_place_Spot {w0 w : World} {l : List Assn} {ρ : Heap} {q6 : Option Addr} {q8 : Nat} {c_s0 : Nat} {s0 : List T_place_Spot} {r : List T_place_Spot} (hF : P_slices_Clone_place_Spot_place_Spot s0 = some r) (q7 : RdS R_place_Spot ρ q6 q8 c_s0 s0) (hS : St w0 w (ro ρ :: l)) :
  Calls Try.prog 14 #[.slice q6 q8 c_s0] w fun e w' => ∃ (q5 : Option Addr) (q2 : Nat) (c_y0_ret : Nat) (q3 : List Value), e = .returned (.slice q5 q2 c_y0_ret) ∧ RepL R_place_Spot ρ r q3 ∧ St w0 w' (vec 45 R_place_Spot.sz (.slice q5 q2 c_y0_ret) q2 q3 :: ro ρ :: l) := by
 have e_ := q7.n; subst e_
 refine enterC Try.func14 rfl 8 rfl (by simp) ?_
 refine x_seq <| x_region <| p (yl_assign rfl) <| x_done <|
  x_seq <| x_seq <| x_region <| p (yl_move rfl) <|
  p (yeq_nil usl_29 rfl rfl) <| x_done <|
  x_cond (t := Option.isNone q6) rfl (fun hc4 => ?_) (fun hc4 => ?_)
 ·have hx0 : s0 = [] := RdS.nil_of q7 hc4
  have hF : some ([] : List T_place_Spot) = some r := by rw [hx0] at hF; unfold P_slices_Clone_place_Spot_place_Spot at hF; simpa [lv, ck, apOk] using hF
  refine x_seq <| x_region <| p (yl_assign rfl) <| x_done <| ?_
  replace hS := St.vec_nil hS 45 R_place_Spot.sz
  have q4 : RepL R_place_Spot ρ [] [] := rfl
  have e_ := sinj hF; subst e_
  exact x_return ⟨_, ⟨_, _, rfl, rfl, rfl⟩, none, 0, 0, [], rfl, q4, ((hS.pull 1).pull 1)⟩
 ·skip
  refine x_skip <| x_seq <| x_region <| ?_
  refine o_buildSlice (vs := []) (cs := []) sl_29 zero_45 (parts_eq pt0) rfl (by intro v hv; cases hv) (by decide) rfl hS (fun b5 w' hS => ?_)
  refine p (yl_move rfl) <| ?_
  have q9 : RepL R_place_Spot ρ ([] : List T_place_Spot) [] := RepL.nil
  replace hS := St.vec_of (n := 0) (sz := R_place_Spot.sz) hS rfl (by decide)
  have q_ := src_f usl_29 (hS.pull 1) q7; obtain ⟨nw7, hnw7, src7⟩ := q_
  replace hF := lv_s hF; obtain ⟨q0c, q0a, hF⟩ := hF
  replace hF := ck_s hF; obtain ⟨q0b, hF⟩ := hF
  refine o_ap sl_29 zero_45 rfl (by decide) rfl rfl hS q9 src7 hnw7 q0a q0b (fun A7 c7 cs7 w' hr7 hS => ?_)
  refine p (yl_assign rfl) <| x_done <| ?_
  have e_ := sinj hF; subst e_
  exact x_return ⟨_, ⟨_, _, rfl, rfl, rfl⟩, A7, q0c.length, c7, cs7, rfl, hr7, ((hS.pull 1).pull 1)⟩
attribute [irreducible] P_slices_Clone_place_Spot_place_Spot

def P_exact_Make (n0 : T_exact_Int) (d1 : T_exact_Int) : Option (T_exact_Ratio × Int) :=
 bd (P_exact_Sign d1) fun q3 =>
 if q3 = 0 then
  some ((T_exact_Ratio.mk (T_exact_Int.mk false []) (T_exact_Int.mk false [])), (1 : Int))
 else
  bd (P_exact_reduced n0 d1) fun q2 =>
  some (q2.1, q2.2)
theorem c_exact_Make {w0 w : World} {l : List Assn} {ρ : Heap} {q7 : Option Addr} {q0e : Nat} {c_n0_1 : Nat} {q6 : Option Addr} {q0f : Nat} {c_d1_1 : Nat} {n0 : T_exact_Int} {d1 : T_exact_Int} {r : (T_exact_Ratio × Int)} (hF : P_exact_Make n0 d1 = some r) (q0g : RdS (RpI .u32) ρ q7 q0e c_n0_1 n0.fmag) (q0d : RdS (RpI .u32) ρ q6 q0f c_d1_1 d1.fmag) (hS : St w0 w (ro ρ :: l)) :
  Calls Try.prog 16 #[.agg #[.bool n0.fneg, .slice q7 q0e c_n0_1], .agg #[.bool d1.fneg, .slice q6 q0f c_d1_1]] w fun e w' => ∃ (ρ' : Heap) (q8 : Option Addr) (q9 : Nat) (c_y0_ret_1 : Nat) (q0a : Option Addr) (q0b : Nat) (c_y0_ret_3 : Nat), e = .returned (.tuple #[.agg #[.bool r.1.Num.fneg, .slice q8 q9 c_y0_ret_1, .bool r.1.Den.fneg, .slice q0a q0b c_y0_ret_3], .int .i64 r.2]) ∧ Le ρ ρ' ∧ RdS (RpI .u32) ρ' q8 q9 c_y0_ret_1 r.1.Num.fmag ∧ RdS (RpI .u32) ρ' q0a q0b c_y0_ret_3 r.1.Den.fmag ∧ St w0 w' (ro ρ' :: l) := by
 have e_ := q0g.n; subst e_
 have e_ := q0d.n; subst e_
 refine enterC Try.func16 rfl 15 rfl (by simp) ?_
 refine x_seq <| x_region <| ?_
 refine o_box (cs := [.bool n0.fneg, .slice q7 n0.fmag.length c_n0_1]) rfl rfl hS (fun b2 w' hS => ?_)
 refine o_box (cs := [.bool d1.fneg, .slice q6 d1.fmag.length c_d1_1]) rfl rfl hS (fun b3 w' hS => ?_)
 refine o_alloc zero_43 hS (fun b4 w' hS => ?_)
 replace hF := bd_s hF; obtain ⟨q0n, q0l, hF⟩ := hF
 refine p (yl_assign rfl) <| x_done <| x_seq <| x_seq <|
  x_region <| pa (v := .agg #[.bool d1.fneg, .slice q6 d1.fmag.length c_d1_1]) (ld_sub agg_41 rfl rfl rfl (hS.pull 1)) <| ?_
 have hcall := c_exact_Sign q0l q0d (hS.pull 3)
 refine o_cc call_19 (args1 rfl) ((Calls.mono hcall (fun e w'' h => And.intro h.1 (((h.2.pull 3).pull 3).pull 3)))) ?_
 rintro e w' ⟨rfl, hS⟩
 refine ⟨_, rfl, ?_⟩
 refine p (yl_eql rfl rfl) <| x_done <|
  x_cond_p (q0n = 0) rfl (fun hc8 => ?_) (fun hc8 => ?_)
 ·replace hF := it_t hc8 hF
  refine x_seq <| x_region <| p (v := .agg #[.bool false, .slice none 0 0, .bool false, .slice none 0 0]) (yl_build bld_43 bldf_43 (parts_eq pt0) (by kernel_rfl)) <| ?_
  refine o_storeAgg (news := [.bool false, .slice none 0 0, .bool false, .slice none 0 0]) agg_43 rfl rfl rfl (by simp [over_length]) hS (fun w' hS => ?_)
  refine p (yl_assign rfl) <| x_done <| ?_
  have e_ := sinj hF; subst e_
  exact x_return ⟨_, ⟨_, _, _, rfl, rfl, ldvA agg_43 rfl (fun j v hj => by rw [add0]; exact St.cell hS hj), _, _, rfl, rfl, rfl⟩, ρ, none, 0, 0, none, 0, 0, rfl, (Le.refl _), (RdS.nil (A := none) (c := 0)), (RdS.nil (A := none) (c := 0)), hS.drop.drop.drop⟩
 ·replace hF := it_f hc8 hF
  replace hF := bd_s hF; obtain ⟨q0c, q0m, hF⟩ := hF
  refine x_skip <| x_seq <| x_region <| pa (v := .agg #[.bool n0.fneg, .slice q7 n0.fmag.length c_n0_1]) (ld_sub agg_41 rfl rfl rfl (hS.pull 2)) <|
   pa (v := .agg #[.bool d1.fneg, .slice q6 d1.fmag.length c_d1_1]) (ld_sub agg_41 rfl rfl rfl (hS.pull 1)) <| ?_
  have hcall := c_exact_reduced q0m q0g q0d (hS.pull 3)
  refine o_cc call_34 (args2 rfl rfl) hcall ?_
  rintro e w' ⟨q0j, q2, q0h, c_y0_ret_1_3_2, q3, q0i, c_y0_ret_3_3_2, rfl, q0k, q4, q5, hS⟩
  refine ⟨_, rfl, ?_⟩
  have e_ := q4.n; subst e_
  have e_ := q5.n; subst e_
  refine p (yl_extract rfl rfl) <| p (yl_extract rfl rfl) <| ?_
  refine o_storeAgg (news := [.bool q0c.1.Num.fneg, .slice q2 q0c.1.Num.fmag.length c_y0_ret_1_3_2, .bool q0c.1.Den.fneg, .slice q3 q0c.1.Den.fmag.length c_y0_ret_3_3_2]) agg_43 rfl rfl rfl (by simp [over_length]) (hS.pull 1) (fun w' hS => ?_)
  refine p (yl_assign rfl) <| x_done <| ?_
  have e_ := sinj hF; subst e_
  exact x_return ⟨_, ⟨_, _, _, rfl, rfl, ldvA agg_43 rfl (fun j v hj => by rw [add0]; exact St.cell hS hj), _, _, rfl, rfl, rfl⟩, q0j, q2, q0c.1.Num.fmag.length, c_y0_ret_1_3_2, q3, q0c.1.Den.fmag.length, c_y0_ret_3_3_2, rfl, q0k, q4, q5, (((hS.drop.pull 1).drop.pull 1).drop)⟩
attribute [irreducible] P_exact_Make

def P_exact_Compare (a0 : T_exact_Ratio) (b1 : T_exact_Ratio) : Option Int :=
 bd (P_exact_both a0 b1) fun q3 =>
 if q3 ≠ 0 then
  some (0 : Int)
 else
  bd (P_exact_times (T_exact_Int.mk a0.Num.fneg a0.Num.fmag) (T_exact_Int.mk b1.Den.fneg b1.Den.fmag)) fun q4 =>
  bd (P_exact_times (T_exact_Int.mk b1.Num.fneg b1.Num.fmag) (T_exact_Int.mk a0.Den.fneg a0.Den.fmag)) fun q5 =>
  bd (P_exact_Cmp q4 q5) fun q2 =>
  some q2
theorem c_exact_Compare {w0 w : World} {l : List Assn} {ρ : Heap} {q6 : Option Addr} {q10 : Nat} {c_a0_1 : Nat} {q7 : Option Addr} {q11 : Nat} {c_a0_3 : Nat} {q8 : Option Addr} {q12 : Nat} {c_b1_1 : Nat} {q9 : Option Addr} {q13 : Nat} {c_b1_3 : Nat} {a0 : T_exact_Ratio} {b1 : T_exact_Ratio} {r : Int} (hF : P_exact_Compare a0 b1 = some r) (q0s : RdS (RpI .u32) ρ q6 q10 c_a0_1 a0.Num.fmag) (q0t : RdS (RpI .u32) ρ q7 q11 c_a0_3 a0.Den.fmag) (q0u : RdS (RpI .u32) ρ q8 q12 c_b1_1 b1.Num.fmag) (q0v : RdS (RpI .u32) ρ q9 q13 c_b1_3 b1.Den.fmag) (hS : St w0 w (ro ρ :: l)) :
  Calls Try.prog 10 #[.agg #[.bool a0.Num.fneg, .slice q6 q10 c_a0_1, .bool a0.Den.fneg, .slice q7 q11 c_a0_3], .agg #[.bool b1.Num.fneg, .slice q8 q12 c_b1_1, .bool b1.Den.fneg, .slice q9 q13 c_b1_3]] w fun e w' => e = .returned (.int .i64 r) ∧ St w0 w' (ro ρ :: l) := by
 have e_ := q0s.n; subst e_
 have e_ := q0t.n; subst e_
 have e_ := q0u.n; subst e_
 have e_ := q0v.n; subst e_
 refine enterC Try.func10 rfl 20 rfl (by simp) ?_
 refine x_seq <| x_region <| ?_
 refine o_box (cs := [.bool a0.Num.fneg, .slice q6 a0.Num.fmag.length c_a0_1, .bool a0.Den.fneg, .slice q7 a0.Den.fmag.length c_a0_3]) rfl rfl hS (fun b2 w' hS => ?_)
 refine o_box (cs := [.bool b1.Num.fneg, .slice q8 b1.Num.fmag.length c_b1_1, .bool b1.Den.fneg, .slice q9 b1.Den.fmag.length c_b1_3]) rfl rfl hS (fun b3 w' hS => ?_)
 replace hF := bd_s hF; obtain ⟨q1h, q1e, hF⟩ := hF
 refine p (yl_assign rfl) <| x_done <| x_seq <| x_seq <|
  x_region <| pa (v := .agg #[.bool a0.Num.fneg, .slice q6 a0.Num.fmag.length c_a0_1, .bool a0.Den.fneg, .slice q7 a0.Den.fmag.length c_a0_3]) (ld_sub agg_43 rfl rfl rfl (hS.pull 1)) <| pa (v := .agg #[.bool b1.Num.fneg, .slice q8 b1.Num.fmag.length c_b1_1, .bool b1.Den.fneg, .slice q9 b1.Den.fmag.length c_b1_3]) (ld_sub agg_43 rfl rfl rfl hS) <| ?_
 have hcall := c_exact_both q1e q0s q0t q0u q0v (hS.pull 2)
 refine o_cc call_27 (args2 rfl rfl) ((Calls.mono hcall (fun e w'' h => And.intro h.1 ((h.2.pull 2).pull 2)))) ?_
 rintro e w' ⟨rfl, hS⟩
 refine ⟨_, rfl, ?_⟩
 refine p (yl_neq rfl rfl) <| x_done <|
  x_cond_p (q1h ≠ 0) rfl (fun hc8 => ?_) (fun hc8 => ?_)
 ·replace hF := it_t hc8 hF
  refine x_seq <| x_region <| p (yl_assign rfl) <| x_done <| ?_
  have e_ := sinj hF; subst e_
  exact x_return ⟨_, ⟨_, _, rfl, rfl, rfl⟩, rfl, hS.drop.drop⟩
 ·replace hF := it_f hc8 hF
  refine x_skip <| x_seq <| ?_
  replace hF := bd_s hF; obtain ⟨q0a, q1f, hF⟩ := hF
  replace hF := bd_s hF; obtain ⟨q0b, q1g, hF⟩ := hF
  replace hF := bd_s hF; obtain ⟨q0e, q1d, hF⟩ := hF
  refine x_par (w0 := w0) [⟨[], [], [9], [], [], []⟩, ⟨[0], [0], [10], [0], [], []⟩, ⟨[], [], [11], [], [], []⟩, ⟨[2], [2], [12], [1], [], []⟩, ⟨[0, 1, 2, 3], [1, 3], [13], [2], [], [3]⟩, ⟨[], [], [14], [], [], []⟩, ⟨[5], [5], [15], [1], [], []⟩, ⟨[], [], [16], [], [], []⟩, ⟨[7], [7], [17], [0], [], []⟩, ⟨[0, 1, 2, 3, 4, 5, 6, 7, 8], [6, 8], [18], [2], [], [4]⟩, ⟨[0, 1, 2, 3, 4, 5, 6, 7, 8, 9], [4, 9], [19], [2, 3, 4], [], []⟩, ⟨[0, 1, 2, 3, 4, 5, 6, 7, 8, 9, 10], [10], [4], [], [], []⟩] [⟨none, none, []⟩, ⟨none, none, []⟩, ⟨none, none, []⟩, ⟨(some 4), none, [13]⟩, ⟨(some 9), none, [18]⟩] [4, 9, 10, 11, 12, 13, 14, 15, 16, 17, 18, 19] [0, 1, 2] [0, 1, 2, 3, 4] [0, 1, 2, 3, 4, 5, 6, 7, 8, 9, 10, 11] [fun Ep3 => Ep3 9 = .pointer (some ⟨b2, 0, none⟩), fun Ep3 => Ep3 10 = .agg #[.bool a0.Num.fneg, .slice q6 a0.Num.fmag.length c_a0_1], fun Ep3 => Ep3 11 = .pointer (some ⟨b3, 2, none⟩), fun Ep3 => Ep3 12 = .agg #[.bool b1.Den.fneg, .slice q9 b1.Den.fmag.length c_b1_3], fun Ep3 => Ep3 13 = .agg #[.bool q0a.fneg, .slice (adOf (partOf 1 (Ep3 13))) q0a.fmag.length (capOf (partOf 1 (Ep3 13)))], fun Ep3 => Ep3 14 = .pointer (some ⟨b3, 0, none⟩), fun Ep3 => Ep3 15 = .agg #[.bool b1.Num.fneg, .slice q8 b1.Num.fmag.length c_b1_1], fun Ep3 => Ep3 16 = .pointer (some ⟨b2, 2, none⟩), fun Ep3 => Ep3 17 = .agg #[.bool a0.Den.fneg, .slice q7 a0.Den.fmag.length c_a0_3], fun Ep3 => Ep3 18 = .agg #[.bool q0b.fneg, .slice (adOf (partOf 1 (Ep3 18))) q0b.fmag.length (capOf (partOf 1 (Ep3 18)))], fun Ep3 => Ep3 19 = .int .i64 q0e, fun Ep3 => Ep3 4 = .int .i64 q0e] [fun Ep3 => cells b2 43 [.bool a0.Num.fneg, .slice q6 a0.Num.fmag.length c_a0_1, .bool a0.Den.fneg, .slice q7 a0.Den.fmag.length c_a0_3], fun Ep3 => cells b3 43 [.bool b1.Num.fneg, .slice q8 b1.Num.fmag.length c_b1_1, .bool b1.Den.fneg, .slice q9 b1.Den.fmag.length c_b1_3], fun Ep3 => ro ρ, fun Ep3 => bunA (fun (q2 : Heap) => Le ρ q2 ∧ RdS (RpI .u32) q2 (adOf (partOf 1 (Ep3 13))) q0a.fmag.length (capOf (partOf 1 (Ep3 13))) q0a.fmag) (fun (q2 : Heap) => [roD ρ q2]), fun Ep3 => bunA (fun (q3 : Heap) => Le ρ q3 ∧ RdS (RpI .u32) q3 (adOf (partOf 1 (Ep3 18))) q0b.fmag.length (capOf (partOf 1 (Ep3 18))) q0b.fmag) (fun (q3 : Heap) => [roD ρ q3])] mixed (by kernel_rfl) (((hS.pull 2).pull 1).pull 2) ?_ ?_
  ·refine ⟨?_, ?_, ?_, ?_, ?_, ?_, ?_, ?_, ?_, ?_, ?_, ?_, trivial⟩
   ·intro Ep3 w l' hE3 hO3 hF_ hS
    refine p (yl_field0 fld_43_0 (hE3 2 rfl)) <| x_done <| ?_
    refine x_fin ⟨⟨_, rfl⟩, rfl, ?_⟩
    exact emk hS
   ·intro Ep3 w l' hE3 hO3 hF_ hS
    obtain ⟨q0g, -⟩ := hF_
    replace q0g : Ep3 9 = .pointer (some ⟨b2, 0, none⟩) := emk q0g
    replace hS : St w0 w (cells b2 43 [.bool a0.Num.fneg, .slice q6 a0.Num.fmag.length c_a0_1, .bool a0.Den.fneg, .slice q7 a0.Den.fmag.length c_a0_3] :: l') := emk hS
    refine pa (v := .agg #[.bool a0.Num.fneg, .slice q6 a0.Num.fmag.length c_a0_1]) (ld_sub agg_41 q0g rfl rfl hS) <| x_done <| ?_
    refine x_fin ⟨⟨_, rfl⟩, rfl, ?_⟩
    exact emk hS
   ·intro Ep3 w l' hE3 hO3 hF_ hS
    refine p (yl_field0 fld_43_1 (hE3 3 rfl)) <| x_done <| ?_
    refine x_fin ⟨⟨_, rfl⟩, rfl, ?_⟩
    exact emk hS
   ·intro Ep3 w l' hE3 hO3 hF_ hS
    obtain ⟨q0h, -⟩ := hF_
    replace q0h : Ep3 11 = .pointer (some ⟨b3, 2, none⟩) := emk q0h
    replace hS : St w0 w (cells b3 43 [.bool b1.Num.fneg, .slice q8 b1.Num.fmag.length c_b1_1, .bool b1.Den.fneg, .slice q9 b1.Den.fmag.length c_b1_3] :: l') := emk hS
    refine pa (v := .agg #[.bool b1.Den.fneg, .slice q9 b1.Den.fmag.length c_b1_3]) (ld_sub agg_41 q0h rfl rfl hS) <| x_done <| ?_
    refine x_fin ⟨⟨_, rfl⟩, rfl, ?_⟩
    exact emk hS
   ·intro Ep3 w l' hE3 hO3 hF_ hS
    obtain ⟨q0i, q0j, -⟩ := hF_
    replace q0i : Ep3 10 = .agg #[.bool a0.Num.fneg, .slice q6 a0.Num.fmag.length c_a0_1] := emk q0i
    replace q0j : Ep3 12 = .agg #[.bool b1.Den.fneg, .slice q9 b1.Den.fmag.length c_b1_3] := emk q0j
    replace hS : St w0 w (ro ρ :: l') := emk hS
    have hcall := c_exact_times q1f q0s q0v hS
    refine o_cc call_29 (args2 q0i q0j) hcall ?_
    rintro e w' ⟨q2, q0k, q1a, c_y0_ret_1_3_4, rfl, q14, q4, hS⟩
    refine ⟨_, rfl, ?_⟩
    have e_ := q4.n; subst e_
    refine x_done <| ?_
    refine x_fin ⟨⟨_, rfl⟩, rfl, ?_⟩
    replace hS := St.ro_split q14 hS
    replace hS := St.bun (Φ := (fun (q2 : Heap) => Le ρ q2 ∧ RdS (RpI .u32) q2 q0k q0a.fmag.length c_y0_ret_1_3_4 q0a.fmag)) (L := (fun (q2 : Heap) => [roD ρ q2])) q2 ⟨q14, q4⟩ (hS.pull 1)
    exact emk (hS.pull 1)
   ·intro Ep3 w l' hE3 hO3 hF_ hS
    refine p (yl_field0 fld_43_0 (hE3 3 rfl)) <| x_done <| ?_
    refine x_fin ⟨⟨_, rfl⟩, rfl, ?_⟩
    exact emk hS
   ·intro Ep3 w l' hE3 hO3 hF_ hS
    obtain ⟨q0l, -⟩ := hF_
    replace q0l : Ep3 14 = .pointer (some ⟨b3, 0, none⟩) := emk q0l
    replace hS : St w0 w (cells b3 43 [.bool b1.Num.fneg, .slice q8 b1.Num.fmag.length c_b1_1, .bool b1.Den.fneg, .slice q9 b1.Den.fmag.length c_b1_3] :: l') := emk hS
    refine pa (v := .agg #[.bool b1.Num.fneg, .slice q8 b1.Num.fmag.length c_b1_1]) (ld_sub agg_41 q0l rfl rfl hS) <| x_done <| ?_
    refine x_fin ⟨⟨_, rfl⟩, rfl, ?_⟩
    exact emk hS
   ·intro Ep3 w l' hE3 hO3 hF_ hS
    refine p (yl_field0 fld_43_1 (hE3 2 rfl)) <| x_done <| ?_
    refine x_fin ⟨⟨_, rfl⟩, rfl, ?_⟩
    exact emk hS
   ·intro Ep3 w l' hE3 hO3 hF_ hS
    obtain ⟨q0m, -⟩ := hF_
    replace q0m : Ep3 16 = .pointer (some ⟨b2, 2, none⟩) := emk q0m
    replace hS : St w0 w (cells b2 43 [.bool a0.Num.fneg, .slice q6 a0.Num.fmag.length c_a0_1, .bool a0.Den.fneg, .slice q7 a0.Den.fmag.length c_a0_3] :: l') := emk hS
    refine pa (v := .agg #[.bool a0.Den.fneg, .slice q7 a0.Den.fmag.length c_a0_3]) (ld_sub agg_41 q0m rfl rfl hS) <| x_done <| ?_
    refine x_fin ⟨⟨_, rfl⟩, rfl, ?_⟩
    exact emk hS
   ·intro Ep3 w l' hE3 hO3 hF_ hS
    obtain ⟨q0n, q0o, -⟩ := hF_
    replace q0n : Ep3 15 = .agg #[.bool b1.Num.fneg, .slice q8 b1.Num.fmag.length c_b1_1] := emk q0n
    replace q0o : Ep3 17 = .agg #[.bool a0.Den.fneg, .slice q7 a0.Den.fmag.length c_a0_3] := emk q0o
    replace hS : St w0 w (ro ρ :: l') := emk hS
    have hcall := c_exact_times q1g q0u q0t hS
    refine o_cc call_29 (args2 q0n q0o) hcall ?_
    rintro e w' ⟨q3, q0p, q1b, c_y0_ret_1_3_9, rfl, q15, q5, hS⟩
    refine ⟨_, rfl, ?_⟩
    have e_ := q5.n; subst e_
    refine x_done <| ?_
    refine x_fin ⟨⟨_, rfl⟩, rfl, ?_⟩
    replace hS := St.ro_split q15 hS
    replace hS := St.bun (Φ := (fun (q3 : Heap) => Le ρ q3 ∧ RdS (RpI .u32) q3 q0p q0b.fmag.length c_y0_ret_1_3_9 q0b.fmag)) (L := (fun (q3 : Heap) => [roD ρ q3])) q3 ⟨q15, q5⟩ (hS.pull 1)
    exact emk (hS.pull 1)
   ·intro Ep3 w l' hE3 hO3 hF_ hS
    obtain ⟨q0q, q0r, -⟩ := hF_
    replace q0q : Ep3 13 = .agg #[.bool q0a.fneg, .slice (adOf (partOf 1 (Ep3 13))) q0a.fmag.length (capOf (partOf 1 (Ep3 13)))] := emk q0q
    replace q0r : Ep3 18 = .agg #[.bool q0b.fneg, .slice (adOf (partOf 1 (Ep3 18))) q0b.fmag.length (capOf (partOf 1 (Ep3 18)))] := emk q0r
    replace hS : St w0 w (ro ρ :: bunA (fun (q2 : Heap) => Le ρ q2 ∧ RdS (RpI .u32) q2 (adOf (partOf 1 (Ep3 13))) q0a.fmag.length (capOf (partOf 1 (Ep3 13))) q0a.fmag) (fun (q2 : Heap) => [roD ρ q2]) :: bunA (fun (q3 : Heap) => Le ρ q3 ∧ RdS (RpI .u32) q3 (adOf (partOf 1 (Ep3 18))) q0b.fmag.length (capOf (partOf 1 (Ep3 18))) q0b.fmag) (fun (q3 : Heap) => [roD ρ q3]) :: l') := emk hS
    have q_ := St.unbun (hS.pull 1); obtain ⟨q2, ⟨q0c, q4⟩, hS⟩ := q_
    have q_ := St.ro_join (hS.pull 1) (Le.refl _) q0c; obtain ⟨q1i, q16, q17, hS, q0x⟩ := q_
    have q_ := St.unbun (hS.pull 1); obtain ⟨q3, ⟨q0d, q5⟩, hS⟩ := q_
    have q_ := St.ro_join (hS.pull 1) q16 q0d; obtain ⟨q1j, q18, q19, hS, q0y⟩ := q_
    have hcall := c_exact_Cmp q1d (q4.le (q17.trans q18)) (q5.le q19) hS
    refine o_cc call_28 (args2 q0q q0r) (hcall) ?_
    rintro e w' ⟨rfl, hS⟩
    refine ⟨_, rfl, ?_⟩
    refine x_done <| ?_
    refine x_fin ⟨⟨_, rfl⟩, rfl, ?_⟩
    replace hS := q0y hS
    replace hS := St.bun (Φ := (fun (q3 : Heap) => Le ρ q3 ∧ RdS (RpI .u32) q3 (adOf (partOf 1 (Ep3 18))) q0b.fmag.length (capOf (partOf 1 (Ep3 18))) q0b.fmag)) (L := (fun (q3 : Heap) => [roD ρ q3])) q3 ⟨q0d, q5⟩ (hS.pull 1)
    replace hS := q0x (hS.pull 1)
    replace hS := St.bun (Φ := (fun (q2 : Heap) => Le ρ q2 ∧ RdS (RpI .u32) q2 (adOf (partOf 1 (Ep3 13))) q0a.fmag.length (capOf (partOf 1 (Ep3 13))) q0a.fmag)) (L := (fun (q2 : Heap) => [roD ρ q2])) q2 ⟨q0c, q4⟩ (hS.pull 1)
    exact emk (((hS.pull 2).pull 1).pull 2)
   ·intro Ep3 w l' hE3 hO3 hF_ hS
    obtain ⟨q0f, -⟩ := hF_
    replace q0f : Ep3 19 = .int .i64 q0e := emk q0f
    refine p (v := .int .i64 q0e) (yl_assign q0f) <| x_done <| ?_
    refine x_fin ⟨⟨_, rfl⟩, rfl, ?_⟩
    exact emk hS
  intro Ep3 w' hE3 hF_ hS
  obtain ⟨q0g, q0i, q0h, q0j, q0q, q0l, q0n, q0m, q0o, q0r, q0f, q0z, -⟩ := hF_
  replace q0g : Ep3 9 = .pointer (some ⟨b2, 0, none⟩) := emk q0g
  replace q0i : Ep3 10 = .agg #[.bool a0.Num.fneg, .slice q6 a0.Num.fmag.length c_a0_1] := emk q0i
  replace q0h : Ep3 11 = .pointer (some ⟨b3, 2, none⟩) := emk q0h
  replace q0j : Ep3 12 = .agg #[.bool b1.Den.fneg, .slice q9 b1.Den.fmag.length c_b1_3] := emk q0j
  replace q0q : Ep3 13 = .agg #[.bool q0a.fneg, .slice (adOf (partOf 1 (Ep3 13))) q0a.fmag.length (capOf (partOf 1 (Ep3 13)))] := emk q0q
  replace q0l : Ep3 14 = .pointer (some ⟨b3, 0, none⟩) := emk q0l
  replace q0n : Ep3 15 = .agg #[.bool b1.Num.fneg, .slice q8 b1.Num.fmag.length c_b1_1] := emk q0n
  replace q0m : Ep3 16 = .pointer (some ⟨b2, 2, none⟩) := emk q0m
  replace q0o : Ep3 17 = .agg #[.bool a0.Den.fneg, .slice q7 a0.Den.fmag.length c_a0_3] := emk q0o
  replace q0r : Ep3 18 = .agg #[.bool q0b.fneg, .slice (adOf (partOf 1 (Ep3 18))) q0b.fmag.length (capOf (partOf 1 (Ep3 18)))] := emk q0r
  replace q0f : Ep3 19 = .int .i64 q0e := emk q0f
  replace q0z : Ep3 4 = .int .i64 q0e := emk q0z
  replace hS : St w0 w' (cells b2 43 [.bool a0.Num.fneg, .slice q6 a0.Num.fmag.length c_a0_1, .bool a0.Den.fneg, .slice q7 a0.Den.fmag.length c_a0_3] :: cells b3 43 [.bool b1.Num.fneg, .slice q8 b1.Num.fmag.length c_b1_1, .bool b1.Den.fneg, .slice q9 b1.Den.fmag.length c_b1_3] :: ro ρ :: bunA (fun (q2 : Heap) => Le ρ q2 ∧ RdS (RpI .u32) q2 (adOf (partOf 1 (Ep3 13))) q0a.fmag.length (capOf (partOf 1 (Ep3 13))) q0a.fmag) (fun (q2 : Heap) => [roD ρ q2]) :: bunA (fun (q3 : Heap) => Le ρ q3 ∧ RdS (RpI .u32) q3 (adOf (partOf 1 (Ep3 18))) q0b.fmag.length (capOf (partOf 1 (Ep3 18))) q0b.fmag) (fun (q3 : Heap) => [roD ρ q3]) :: (l)) := emk hS
  have q_ := St.unbun (hS.pull 3); obtain ⟨q2, ⟨q0c, q4⟩, hS⟩ := q_
  have q_ := St.ro_join (hS.pull 3) (Le.refl _) q0c; obtain ⟨q1o, q0w, q1m, hS, q1k⟩ := q_
  have q_ := St.unbun (hS.pull 3); obtain ⟨q3, ⟨q0d, q5⟩, hS⟩ := q_
  have q_ := St.ro_join (hS.pull 1) q0w q0d; obtain ⟨q1p, q1c, q1n, hS, q1l⟩ := q_
  have e_ := sinj hF; subst e_
  exact x_return ⟨_, ⟨_, _, rfl, q0z, rfl⟩, rfl, (ro_back0 (q0w.trans q1c) (((hS.pull 1).drop.pull 1).drop))⟩
attribute [irreducible] P_exact_Compare

def P_maskkeep4_PlaceLeast_L11 (l_0 : List Int) (q0j : (List T_place_Spot × Int)) (q0u : List T_place_Spot) : (List T_place_Spot × Bool × Int × Int) → Option ((List T_place_Spot × Bool × Int × Int) ⊕ (List T_place_Spot × Bool)) := fun (q3, q5, q2, q8) =>
 if q2 < (q0u.length : Int) then
  bd (P_maskmake_Stream_Flip (T_maskmake_Stream.mk l_0 q8) 2) fun q9 =>
  bd (
   if q9.1 = true then
    bd (P_maskmake_Stream_Range (T_maskmake_Stream.mk l_0 q9.2) (-9) 9) fun q0g =>
    bd (P_exact_Of q0g.1) fun q0n =>
    bd (P_maskmake_Stream_Range (T_maskmake_Stream.mk l_0 q0g.2) 1 9) fun q0h =>
    bd (P_exact_Of q0h.1) fun q0o =>
    bd (P_exact_Make q0n q0o) fun q0a =>
    ck (inb q2 q3.length) <|
    lv (gt q3 q2) fun q0p =>
    bd (P_exact_Sum q0p.X q0a.1) fun q0q =>
    ck (inb q2 q3.length) <|
    lv (stt q3 q2 { (gt q3 q2) with X := q0q.1 }) fun q0k =>
    bd (gd (!q5) (P_exact_Sign (T_exact_Int.mk q0a.1.Num.fneg q0a.1.Num.fmag))) fun q0r =>
    lv (q5 || (decide (q0r ≠ 0))) fun x88 =>
    some (q0k, x88, q0h.2)
   else
    some (q3, q5, q9.2)) fun (q6, q4, q0e) =>
  bd (P_maskmake_Stream_Flip (T_maskmake_Stream.mk l_0 q0e) 4) fun q0b =>
  bd (
   if q0b.1 = true then
    bd (P_maskmake_Stream_Next (T_maskmake_Stream.mk l_0 q0b.2) 60) fun q0i =>
    bd (P_exact_Whole q0i.1) fun q0s =>
    ck (inb q2 q6.length) <|
    lv (stt q6 q2 { (gt q6 q2) with Y := q0s }) fun q0c =>
    ck ((!q4) = true → inb q2 q0c.length) <|
    lv (gt q0c q2) fun q0t =>
    ck ((!q4) = true → inb q2 q0j.1.length) <|
    lv (gt q0j.1 q2) fun q0l =>
    bd (gd (!q4) (P_exact_Compare q0t.Y q0l.Y)) fun q0m =>
    lv (q4 || (decide (q0m ≠ 0))) fun x112 =>
    some (q0c, x112, q0i.2)
   else
    some (q6, q4, q0b.2)) fun (q0d, q7, q0f) =>
  ar (q2 + 1) fun x113 =>
  some (Sum.inl (q0d, q7, x113, q0f))
 else
  some (Sum.inr (q3, q5))
def P_maskkeep4_PlaceLeast (l_0 : List Int) : Option Bool :=
 bd (P_maskmake_Stream_Range (T_maskmake_Stream.mk l_0 0) 1 8) fun q4 =>
 bd (P_maskkeep4_pulls (T_maskmake_Stream.mk l_0 q4.2) q4.1) fun q5 =>
 bd (P_place_Solve q4.1 q5.1) fun q2 =>
 bd (P_maskkeep4_places) fun q0b =>
 lv ((!q0b) || (decide (q2.2 ≠ 0))) fun x36 =>
 lv (x36 || (decide ((q2.1.length : Int) ≠ q4.1))) fun x42 =>
 if x42 = true then
  some false
 else
  bd (P_place_Length q2.1 q5.1) fun q9 =>
  bd (P_slices_Clone_place_Spot_place_Spot q2.1) fun q0a =>
  bd (
   lp (P_maskkeep4_PlaceLeast_L11 l_0 q2 q0a) fuel (q0a, false, 0, q5.2)) fun (q6, q3) =>
  bd (P_place_Length q6 q5.1) fun q7 =>
  bd (P_exact_Compare q9.1 q7.1) fun q8 =>
  lv ((decide (q9.2 = 0)) && (decide (q7.2 = 0))) fun x128 =>
  lv ((decide (q8 = 0)) && (!q3)) fun x138 =>
  lv ((decide (q8 < 0)) || x138) fun x139 =>
  lv (x128 && x139) fun x140 =>
  some x140
theorem c_maskkeep4_PlaceLeast {w0 w : World} {l : List Assn} {ρ : Heap} {q1c : Option Addr} {q4i : Nat} {c_l_0 : Nat} {l_0 : List Int} {r : Bool} (hF : P_maskkeep4_PlaceLeast l_0 = some r) (q1j : RdS (RpI .i64) ρ q1c q4i c_l_0 l_0) (hS : St w0 w (ro ρ :: l)) :
  Calls Try.prog 5 #[.slice q1c q4i c_l_0] w fun e w' => e = .returned (.bool r) ∧ St w0 w' (ro ρ :: l) := by
 have e_ := q1j.n; subst e_
 refine enterC Try.func5 rfl 141 rfl (by simp) ?_
 refine x_seq <| x_region <| p (yl_assign rfl) <| x_done <|
  x_seq <| x_region <| p (yl_move rfl) <| p (v := .agg #[.slice q1c l_0.length c_l_0, .int .i64 0]) (yl_build bld_25 bldf_25 (parts_eq (pt (va := .slice q1c l_0.length c_l_0) rfl pt0)) (by kernel_rfl)) <| ?_
 refine o_box (cs := [.slice q1c l_0.length c_l_0, .int .i64 0]) rfl rfl hS (fun b19 w' hS => ?_)
 replace hF := bd_s hF; obtain ⟨q5l, q6l, hF⟩ := hF
 refine p (yl_assign rfl) <| x_done <| x_seq <| x_region <|
  p (yl_move rfl) <| ?_
 have hcall := c_maskmake_Stream_Range q6l q1j ((hS.pull 1).pull 1)
 refine o_cc call_6 (args3 rfl rfl rfl) hcall ?_
 rintro e w' ⟨rfl, hS⟩
 refine ⟨_, rfl, ?_⟩
 replace hF := bd_s hF; obtain ⟨q37, q6m, hF⟩ := hF
 refine p (yl_assign rfl) <| x_done <| x_seq <| x_region <|
  p (yl_move rfl) <| p (yl_move rfl) <| ?_
 have hcall := c_maskkeep4_pulls q6m q1j ((hS.pull 1).pull 1)
 refine o_cc call_7 (args2 rfl rfl) hcall ?_
 rintro e w' ⟨q7m, q10, q5m, c_y0_ret_3_2, q5j, rfl, q1h, q2a, hS⟩
 refine ⟨_, rfl, ?_⟩
 have e_ := St.vec_n hS q2a; subst e_
 refine p (yl_assign rfl) <| x_done <| x_seq <| x_region <|
  p (yl_move rfl) <| p (yl_move rfl) <| ?_
 have q_ := St.vec_fz ((hS.pull 2).pull 1) q2a; obtain ⟨q7r, q14, q3z, hS⟩ := q_
 replace hF := bd_s hF; obtain ⟨q1w, q6n, hF⟩ := hF
 have hcall := c_place_Solve q6n q3z hS
 refine o_cc call_8 (args2 rfl rfl) hcall ?_
 rintro e w' ⟨q7n, q0n, q5n, c_y0_ret_4_2, q5k, rfl, q11, q2b, hS⟩
 refine ⟨_, rfl, ?_⟩
 have e_ := St.vec_n hS q2b; subst e_
 replace hF := bd_s hF; obtain ⟨q5o, q6o, hF⟩ := hF
 refine p (yl_move rfl) <| p (yl_extract rfl rfl) <| p (yl_extract rfl rfl) <| p (yl_assign rfl) <|
  p (yl_assign rfl) <| x_done <| x_seq <| x_seq <|
  x_region <| ?_
 have hcall := c_maskkeep4_places q6o  (hS.pull 1)
 refine o_cc call_9 args0 ((Calls.mono hcall (fun e w'' h => And.intro h.1 (((h.2.pull 2).pull 1).pull 2)))) ?_
 rintro e w' ⟨rfl, hS⟩
 refine ⟨_, rfl, ?_⟩
 replace hF := lv_s hF; obtain ⟨x36, hx36, hF⟩ := hF
 replace hF := lv_s hF; obtain ⟨x42, hx42, hF⟩ := hF
 refine p (yl_not rfl) <| p (yl_move rfl) <| pg (v := .int .i64 q1w.2) 33 (c := !(!q5o)) (says_f _) (fun hq => Yl.at (yl_move rfl)) <| pg (v := .bool (decide (q1w.2 ≠ 0))) 33 (c := !(!q5o)) (says_f _) (fun hq => Yl.at (yl_neq (cv hq) rfl)) <|
  p (yor' rfl rfl (fun hc => (cv (t_not hc))) hx36) <| p (yl_move rfl) <| pg (v := .slice q0n q1w.1.length c_y0_ret_4_2) 37 (c := !x36) (says_f _) (fun hq => Yl.at (yl_move rfl)) <| pg (v := .int .i64 (q1w.1.length : Int)) 37 (c := !x36) (says_f _) (fun hq => Yl.at (yl_len_slice usl_29 (cv hq))) <|
  pg (v := .int .i64 q5l.1) 37 (c := !x36) (says_f _) (fun hq => Yl.at (yl_move rfl)) <| pg (v := .bool (decide ((q1w.1.length : Int) ≠ q5l.1))) 37 (c := !x36) (says_f _) (fun hq => Yl.at (yl_neq (cv hq) (cv hq))) <| p (yor' rfl rfl (fun hc => (cv (t_not hc))) hx42) <| x_done <|
  x_cond (t := x42) rfl (fun hc42 => ?_) (fun hc42 => ?_)
 ·replace hF := it_t hc42 hF
  refine x_seq <| x_region <| p (yl_assign rfl) <| x_done <| ?_
  have e_ := sinj hF; subst e_
  exact x_return ⟨_, ⟨_, _, rfl, rfl, rfl⟩, rfl, (ro_back0 ((q1h.trans q14).trans q11) ((hS.drop.pull 1).drop))⟩
 ·replace hF := it_bf hc42 hF
  refine x_skip <| x_seq <| x_region <| p (yl_move rfl) <|
   p (yl_move rfl) <| ?_
  have q_ := St.vec_fz ((hS.pull 1).pull 1) q2b; obtain ⟨q7s, q0y, q34, hS⟩ := q_
  replace hF := bd_s hF; obtain ⟨q0e, q6p, hF⟩ := hF
  have hcall := c_place_Length q6p q34 (q3z.le (q11.trans q0y)) hS
  refine o_cc call_13 (args2 rfl rfl) hcall ?_
  rintro e w' ⟨q38, q0i, q4z, c_y0_ret_1_7_2, q0j, q50, c_y0_ret_3_7_2, rfl, q0s, q1y, q1z, hS⟩
  refine ⟨_, rfl, ?_⟩
  have e_ := q1y.n; subst e_
  have e_ := q1z.n; subst e_
  refine p (yl_move rfl) <| p (yl_extract rfl rfl) <| p (yl_extract rfl rfl) <| ?_
  refine o_alloc zero_43 hS (fun b8 w' hS => ?_)
  refine o_storeAgg (news := [.bool q0e.1.Num.fneg, .slice q0i q0e.1.Num.fmag.length c_y0_ret_1_7_2, .bool q0e.1.Den.fneg, .slice q0j q0e.1.Den.fmag.length c_y0_ret_3_7_2]) agg_43 rfl rfl rfl (by simp [over_length]) hS (fun w' hS => ?_)
  replace hF := bd_s hF; obtain ⟨q9, q6q, hF⟩ := hF
  refine p (yl_assign rfl) <| x_done <| x_seq <| x_region <|
   p (yl_move rfl) <| ?_
  have hcall := c_slices_Clone_place_Spot_place_Spot q6q (q34.le q0s) (hS.pull 1)
  refine o_cc call_14 (args1 rfl) hcall ?_
  rintro e w' ⟨q5, q5p, c_y0_ret_8_1, q33, rfl, q2c, hS⟩
  refine ⟨_, rfl, ?_⟩
  have e_ := St.vec_n hS q2c; subst e_
  refine p (yl_assign rfl) <| x_done <| x_seq <| x_region <|
   p (yl_assign rfl) <| x_done <| x_seq <| x_seq <|
   x_region <| p (yl_move rfl) <| p (yl_len_slice usl_29 rfl) <| p (yl_move rfl) <|
   x_done <| ?_
  replace hF := bd_s hF; obtain ⟨oL11, hLL11, hF⟩ := hF
  refine x_join (fun E w => ∃ (q35 : Heap) (q1b : List Value) (q25 : List T_place_Spot) (q0t : Bool), (q25, q0t) = oL11 ∧ Le q38 q35 ∧ E 5 = .slice q10 q37.1.length c_y0_ret_3_2 ∧ E 7 = .int .i64 q0e.2 ∧ E 8 = .pointer (some ⟨b8, 0, none⟩) ∧ E 9 = .slice q5 q9.length c_y0_ret_8_1 ∧ E 10 = .bool q0t ∧ RepL R_place_Spot q35 q25 q1b ∧ St w0 w (cells b8 43 [.bool q0e.1.Num.fneg, .slice q0i q0e.1.Num.fmag.length c_y0_ret_1_7_2, .bool q0e.1.Den.fneg, .slice q0j q0e.1.Den.fmag.length c_y0_ret_3_7_2] :: vec 45 R_place_Spot.sz (.slice q5 q9.length c_y0_ret_8_1) q9.length q1b :: ro q35 :: l)) ?_ ?_
  ·refine x_block ?_
   refine x_loop (fun k_ E w => ∃ (q0p : Heap) (q0a : List Value) (q0u : List T_place_Spot) (q0g : Bool) (q6 : Int) (q26 : Int), lp (P_maskkeep4_PlaceLeast_L11 l_0 q1w q9) k_ (q0u, q0g, q6, q26) = some oL11 ∧ Le q38 q0p ∧ E 3 = .pointer (some ⟨b19, 0, none⟩) ∧ E 5 = .slice q10 q37.1.length c_y0_ret_3_2 ∧ E 6 = .slice q0n q1w.1.length c_y0_ret_4_2 ∧ E 7 = .int .i64 q0e.2 ∧ E 8 = .pointer (some ⟨b8, 0, none⟩) ∧ E 9 = .slice q5 q9.length c_y0_ret_8_1 ∧ E 10 = .bool q0g ∧ E 52 = .int .i64 (q9.length : Int) ∧ E 53 = .int .i64 q6 ∧ RepL R_place_Spot q0p q0u q0a ∧ St w0 w (cells b19 25 [.slice q1c l_0.length c_l_0, .int .i64 q26] :: cells b8 43 [.bool q0e.1.Num.fneg, .slice q0i q0e.1.Num.fmag.length c_y0_ret_1_7_2, .bool q0e.1.Den.fneg, .slice q0j q0e.1.Den.fmag.length c_y0_ret_3_7_2] :: vec 45 R_place_Spot.sz (.slice q5 q9.length c_y0_ret_8_1) q9.length q0a :: ro q0p :: l)) fuel ⟨q38, q33, q9, false, 0, q37.2, hLL11, (Le.refl _), rfl, rfl, rfl, rfl, rfl, rfl, rfl, rfl, rfl, q2c, ((((hS.pull 1).pull 1).pull 2).pull 3)⟩ ?_
   rintro kL11 E w ⟨q0p, q0a, q0u, q0g, q6, q26, hLL11, q0k, q20, q2w, q3k, q2x, q2y, q21, q2m, q2n, q27, q0o, hS⟩
   replace hLL11 := lp_s hLL11; obtain ⟨kL11, obL11, rfl, hFL11, hLL11⟩ := hLL11
   refine x_seq <| x_region <| p (yl_lss q27 q2n) <| x_done <|
    x_seq <|
    x_cond_p (q6 < (q9.length : Int)) rfl (fun hc54 => ?_) (fun hc54 => ?_)
   ·replace hFL11 := it_t hc54 hFL11
    replace hFL11 := bd_s hFL11; obtain ⟨q4j, q5q, hFL11⟩ := hFL11
    refine x_skip <| x_seq <| x_block <| x_seq <|
     x_region <| p (yl_move q27) <| p (yl_assign rfl) <| x_done <|
     x_seq <| x_seq <| x_region <| p (yl_move q20) <| ?_
    have hcall := c_maskmake_Stream_Flip q5q (q1j.le (((((q1h.trans q14).trans q11).trans q0y).trans q0s).trans q0k)) ((hS.pull 3).pull 1)
    refine o_cc call_15 (args2 rfl rfl) hcall ?_
    rintro e w' ⟨rfl, hS⟩
    refine ⟨_, rfl, ?_⟩
    refine x_done <| ?_
    replace hFL11 := bd_s hFL11; obtain ⟨oc57, hFc57, hFL11⟩ := hFL11
    refine x_join (fun E w => ∃ (q2e : Heap) (q0v : List Value) (q1d : List T_place_Spot) (q7 : Bool) (q2d : Int), (q1d, q7, q2d) = oc57 ∧ Le q0p q2e ∧ E 3 = .pointer (some ⟨b19, 0, none⟩) ∧ E 5 = .slice q10 q37.1.length c_y0_ret_3_2 ∧ E 6 = .slice q0n q1w.1.length c_y0_ret_4_2 ∧ E 7 = .int .i64 q0e.2 ∧ E 8 = .pointer (some ⟨b8, 0, none⟩) ∧ E 9 = .slice q5 q9.length c_y0_ret_8_1 ∧ E 10 = .bool q7 ∧ E 11 = .int .i64 q6 ∧ E 52 = .int .i64 (q9.length : Int) ∧ E 53 = .int .i64 q6 ∧ RepL R_place_Spot q2e q1d q0v ∧ St w0 w (cells b19 25 [.slice q1c l_0.length c_l_0, .int .i64 q2d] :: cells b8 43 [.bool q0e.1.Num.fneg, .slice q0i q0e.1.Num.fmag.length c_y0_ret_1_7_2, .bool q0e.1.Den.fneg, .slice q0j q0e.1.Den.fmag.length c_y0_ret_3_7_2] :: vec 45 R_place_Spot.sz (.slice q5 q9.length c_y0_ret_8_1) q9.length q0v :: ro q2e :: l)) ?_ ?_
    ·refine x_cond (t := q4j.1) rfl (fun hc57 => ?_) (fun hc57 => ?_)
     ·replace hFc57 := it_t hc57 hFc57
      replace hFc57 := bd_s hFc57; obtain ⟨q7t, q5r, hFc57⟩ := hFc57
      refine x_seq <| x_region <| p (yl_move q20) <| ?_
      have hcall := c_maskmake_Stream_Range q5r (q1j.le (((((q1h.trans q14).trans q11).trans q0y).trans q0s).trans q0k)) ((hS.pull 1).pull 1)
      refine o_cc call_6 (args3 rfl rfl rfl) hcall ?_
      rintro e w' ⟨rfl, hS⟩
      refine ⟨_, rfl, ?_⟩
      replace hFc57 := bd_s hFc57; obtain ⟨q7u, q5s, hFc57⟩ := hFc57
      have hcall := c_exact_Of q5s  (hS.pull 1)
      refine o_cc call_17 (args1 rfl) hcall ?_
      rintro e w' ⟨q72, q4k, q4l, c_y0_ret_1_14_2, rfl, q15, q1k, hS⟩
      refine ⟨_, rfl, ?_⟩
      have e_ := q1k.n; subst e_
      replace hFc57 := bd_s hFc57; obtain ⟨q4m, q5t, hFc57⟩ := hFc57
      refine p (yl_move q20) <| ?_
      have hcall := c_maskmake_Stream_Range q5t (q1j.le ((((((q1h.trans q14).trans q11).trans q0y).trans q0s).trans q0k).trans q15)) (hS.pull 1)
      refine o_cc call_6 (args3 rfl rfl rfl) hcall ?_
      rintro e w' ⟨rfl, hS⟩
      refine ⟨_, rfl, ?_⟩
      replace hFc57 := bd_s hFc57; obtain ⟨q7v, q5u, hFc57⟩ := hFc57
      have hcall := c_exact_Of q5u  (hS.pull 1)
      refine o_cc call_17 (args1 rfl) hcall ?_
      rintro e w' ⟨q73, q4n, q4o, c_y0_ret_1_14_5, rfl, q16, q1l, hS⟩
      refine ⟨_, rfl, ?_⟩
      have e_ := q1l.n; subst e_
      replace hFc57 := bd_s hFc57; obtain ⟨q8, q5v, hFc57⟩ := hFc57
      have hcall := c_exact_Make q5v (q1k.le q16) q1l hS
      refine o_cc call_16 (args2 rfl rfl) hcall ?_
      rintro e w' ⟨q0h, q0c, q4p, c_y0_ret_1_14_6, q0f, q4q, c_y0_ret_3_14_6, rfl, q1g, q12, q1m, hS⟩
      refine ⟨_, rfl, ?_⟩
      have e_ := q12.n; subst e_
      have e_ := q1m.n; subst e_
      refine p (yl_move rfl) <| p (yl_extract rfl rfl) <| p (yl_extract rfl rfl) <| ?_
      refine o_alloc zero_43 hS (fun b12 w' hS => ?_)
      refine o_storeAgg (news := [.bool q8.1.Num.fneg, .slice q0c q8.1.Num.fmag.length c_y0_ret_1_14_6, .bool q8.1.Den.fneg, .slice q0f q8.1.Den.fmag.length c_y0_ret_3_14_6]) agg_43 rfl rfl rfl (by simp [over_length]) hS (fun w' hS => ?_)
      refine p (yl_assign rfl) <| x_done <| x_seq <| ?_
      replace hFc57 := ck_s hFc57; obtain ⟨q40, hFc57⟩ := hFc57
      replace hFc57 := lv_s hFc57; obtain ⟨q0d, q5w, hFc57⟩ := hFc57
      replace hFc57 := bd_s hFc57; obtain ⟨q4, q5x, hFc57⟩ := hFc57
      replace hFc57 := ck_s hFc57; obtain ⟨q3l, hFc57⟩ := hFc57
      replace hFc57 := lv_s hFc57; obtain ⟨q2o, q51, hFc57⟩ := hFc57
      refine x_par (w0 := w0) [⟨[], [], [69], [], [], []⟩, ⟨[], [], [70], [], [], []⟩, ⟨[], [], [71], [], [], []⟩, ⟨[], [], [72], [], [], []⟩, ⟨[2, 3], [2, 3], [73], [0], [], []⟩, ⟨[2, 3, 4], [4], [74], [], [], []⟩, ⟨[2, 3, 4, 5], [5], [75], [0], [], []⟩, ⟨[], [], [76], [1], [], []⟩, ⟨[2, 3, 4, 5, 6, 7], [6, 7], [77], [2], [], [3]⟩, ⟨[2, 3, 4, 5, 6, 7, 8], [8], [68, 77], [], [], []⟩, ⟨[2, 3, 4, 5, 6, 7, 8, 9], [8, 9], [77, 78], [], [], []⟩, ⟨[2, 3, 4, 5, 6, 7, 8, 9], [8, 9], [79], [], [], []⟩, ⟨[0, 1, 2, 3, 4, 5, 6, 7, 8, 9, 10], [0, 1], [80], [0], [], []⟩, ⟨[0, 1, 2, 3, 4, 5, 6, 7, 8, 9, 10, 12], [12], [81], [], [], []⟩, ⟨[0, 1, 2, 3, 4, 5, 6, 7, 8, 9, 10, 12, 13], [8, 10, 13], [], [2], [0, 3], [4]⟩] [⟨none, (some 14), []⟩, ⟨none, none, []⟩, ⟨none, none, []⟩, ⟨(some 8), (some 14), [77]⟩, ⟨(some 14), none, [77]⟩] [68, 69, 70, 71, 72, 73, 74, 75, 76, 77, 78, 79, 80, 81] [0, 1, 2] [1, 2, 4] [0, 1, 2, 3, 4, 5, 6, 7, 8, 9, 10, 11, 12, 13] [fun Ep15 => Ep15 69 = .slice q5 q9.length c_y0_ret_8_1, fun Ep15 => Ep15 70 = .int .i64 q6, fun Ep15 => Ep15 71 = .slice q5 q9.length c_y0_ret_8_1, fun Ep15 => Ep15 72 = .int .i64 q6, fun Ep15 => Ep15 73 = .pointer (some ((adr q5).add (q6.toNat * R_place_Spot.sz))), fun Ep15 => Ep15 74 = .pointer (some (((adr q5).add (q6.toNat * R_place_Spot.sz)).add 0)), fun Ep15 => Ep15 75 = .agg #[.bool q0d.X.Num.fneg, .slice (adOf (partOf 1 (Ep15 75))) q0d.X.Num.fmag.length (capOf (partOf 1 (Ep15 75))), .bool q0d.X.Den.fneg, .slice (adOf (partOf 3 (Ep15 75))) q0d.X.Den.fmag.length (capOf (partOf 3 (Ep15 75)))] ∧ RdS (RpI .u32) q0p (adOf (partOf 1 (Ep15 75))) q0d.X.Num.fmag.length (capOf (partOf 1 (Ep15 75))) q0d.X.Num.fmag ∧ RdS (RpI .u32) q0p (adOf (partOf 3 (Ep15 75))) q0d.X.Den.fmag.length (capOf (partOf 3 (Ep15 75))) q0d.X.Den.fmag, fun Ep15 => Ep15 76 = .agg #[.bool q8.1.Num.fneg, .slice q0c q8.1.Num.fmag.length c_y0_ret_1_14_6, .bool q8.1.Den.fneg, .slice q0f q8.1.Den.fmag.length c_y0_ret_3_14_6], fun Ep15 => Ep15 77 = .tuple #[.agg #[.bool q4.1.Num.fneg, .slice (adOf (partOf 1 (partOf 0 (Ep15 77)))) q4.1.Num.fmag.length (capOf (partOf 1 (partOf 0 (Ep15 77)))), .bool q4.1.Den.fneg, .slice (adOf (partOf 3 (partOf 0 (Ep15 77)))) q4.1.Den.fmag.length (capOf (partOf 3 (partOf 0 (Ep15 77))))], .int .i64 q4.2], fun Ep15 => Ep15 68 = .tuple #[.agg #[.bool q4.1.Num.fneg, .slice (adOf (partOf 1 (partOf 0 (Ep15 77)))) q4.1.Num.fmag.length (capOf (partOf 1 (partOf 0 (Ep15 77)))), .bool q4.1.Den.fneg, .slice (adOf (partOf 3 (partOf 0 (Ep15 77)))) q4.1.Den.fmag.length (capOf (partOf 3 (partOf 0 (Ep15 77))))], .int .i64 q4.2], fun Ep15 => Ep15 78 = .agg #[.bool q4.1.Num.fneg, .slice (adOf (partOf 1 (partOf 0 (Ep15 77)))) q4.1.Num.fmag.length (capOf (partOf 1 (partOf 0 (Ep15 77)))), .bool q4.1.Den.fneg, .slice (adOf (partOf 3 (partOf 0 (Ep15 77)))) q4.1.Den.fmag.length (capOf (partOf 3 (partOf 0 (Ep15 77))))], fun Ep15 => Ep15 79 = .int .i64 q4.2, fun Ep15 => Ep15 80 = .pointer (some ((adr q5).add (q6.toNat * R_place_Spot.sz))), fun Ep15 => Ep15 81 = .pointer (some (((adr q5).add (q6.toNat * R_place_Spot.sz)).add 0)), fun Ep15 => True] [fun Ep15 => vec 45 R_place_Spot.sz (.slice q5 q9.length c_y0_ret_8_1) q9.length q0a, fun Ep15 => cells b12 43 [.bool q8.1.Num.fneg, .slice q0c q8.1.Num.fmag.length c_y0_ret_1_14_6, .bool q8.1.Den.fneg, .slice q0f q8.1.Den.fmag.length c_y0_ret_3_14_6], fun Ep15 => ro q0h, fun Ep15 => bunA (fun (q0b : Heap) => Le q0h q0b ∧ RdS (RpI .u32) q0b (adOf (partOf 1 (partOf 0 (Ep15 77)))) q4.1.Num.fmag.length (capOf (partOf 1 (partOf 0 (Ep15 77)))) q4.1.Num.fmag ∧ RdS (RpI .u32) q0b (adOf (partOf 3 (partOf 0 (Ep15 77)))) q4.1.Den.fmag.length (capOf (partOf 3 (partOf 0 (Ep15 77)))) q4.1.Den.fmag) (fun (q0b : Heap) => [roD q0h q0b]), fun Ep15 => bunA (fun (x : (Heap × List Value)) => Le q0h x.1 ∧ RdS (RpI .u32) x.1 (adOf (partOf 1 (partOf 0 (Ep15 77)))) q4.1.Num.fmag.length (capOf (partOf 1 (partOf 0 (Ep15 77)))) q4.1.Num.fmag ∧ RdS (RpI .u32) x.1 (adOf (partOf 3 (partOf 0 (Ep15 77)))) q4.1.Den.fmag.length (capOf (partOf 3 (partOf 0 (Ep15 77)))) q4.1.Den.fmag ∧ RepL R_place_Spot x.1 q2o x.2) (fun (x : (Heap × List Value)) => [vec 45 R_place_Spot.sz (.slice q5 q9.length c_y0_ret_8_1) q9.length x.2, roD q0h x.1])] mixed (by kernel_rfl) (((hS.pull 1).pull 1).pull 4) ?_ ?_
      ·refine ⟨?_, ?_, ?_, ?_, ?_, ?_, ?_, ?_, ?_, ?_, ?_, ?_, ?_, ?_, ?_, trivial⟩
       ·intro Ep15 w l' hE15 hO15 hF_ hS
        refine p (yl_move ((hE15 9 rfl).trans q21)) <| x_done <| ?_
        refine x_fin ⟨⟨_, rfl⟩, rfl, ?_⟩
        exact emk hS
       ·intro Ep15 w l' hE15 hO15 hF_ hS
        refine p (yl_move (hE15 11 rfl)) <| x_done <| ?_
        refine x_fin ⟨⟨_, rfl⟩, rfl, ?_⟩
        exact emk hS
       ·intro Ep15 w l' hE15 hO15 hF_ hS
        refine p (yl_move ((hE15 9 rfl).trans q21)) <| x_done <| ?_
        refine x_fin ⟨⟨_, rfl⟩, rfl, ?_⟩
        exact emk hS
       ·intro Ep15 w l' hE15 hO15 hF_ hS
        refine p (yl_move (hE15 11 rfl)) <| x_done <| ?_
        refine x_fin ⟨⟨_, rfl⟩, rfl, ?_⟩
        exact emk hS
       ·intro Ep15 w l' hE15 hO15 hF_ hS
        obtain ⟨q2f, q2g, -⟩ := hF_
        replace q2f : Ep15 71 = .slice q5 q9.length c_y0_ret_8_1 := emk q2f
        replace q2g : Ep15 72 = .int .i64 q6 := emk q2g
        replace hS : St w0 w (vec 45 R_place_Spot.sz (.slice q5 q9.length c_y0_ret_8_1) q9.length q0a :: l') := emk hS
        refine p (yix_o sl_29 q2f q2g hS q0o q40) <| x_done <| ?_
        refine x_fin ⟨⟨_, rfl⟩, rfl, ?_⟩
        exact emk hS
       ·intro Ep15 w l' hE15 hO15 hF_ hS
        obtain ⟨q2h, -⟩ := hF_
        replace q2h : Ep15 73 = .pointer (some ((adr q5).add (q6.toNat * R_place_Spot.sz))) := emk q2h
        refine p (yl_fieldAddr fld_45_0 q2h) <| x_done <| ?_
        refine x_fin ⟨⟨_, rfl⟩, rfl, ?_⟩
        exact emk hS
       ·intro Ep15 w l' hE15 hO15 hF_ hS
        obtain ⟨q2i, -⟩ := hF_
        replace q2i : Ep15 74 = .pointer (some (((adr q5).add (q6.toNat * R_place_Spot.sz)).add 0)) := emk q2i
        replace hS : St w0 w (vec 45 R_place_Spot.sz (.slice q5 q9.length c_y0_ret_8_1) q9.length q0a :: l') := emk hS
        have q_ := q0o.get q40; obtain ⟨q7o, q41, q5y⟩ := q_
        rw [← q5w] at q41
        obtain ⟨q52, q74, q53, q54, q75, q55, q76, q77, q78, q79, q7a, q7b, rfl, q3m, q3n, q56, q57⟩ := q41
        have e_ := q3m.n; subst e_
        have e_ := q3n.n; subst e_
        have e_ := q56.n; subst e_
        have e_ := q57.n; subst e_
        refine pa (at_loadAgg (cs := [.bool q0d.X.Num.fneg, .slice q52 q0d.X.Num.fmag.length q53, .bool q0d.X.Den.fneg, .slice q54 q0d.X.Den.fmag.length q55]) agg_43 q2i rfl (sub_every (m := 4) (EltV.every q5y hS) rfl)) <| x_done <| ?_
        refine x_fin ⟨⟨_, rfl⟩, ⟨rfl, q3m, q3n⟩, ?_⟩
        exact emk hS
       ·intro Ep15 w l' hE15 hO15 hF_ hS
        replace hS : St w0 w (cells b12 43 [.bool q8.1.Num.fneg, .slice q0c q8.1.Num.fmag.length c_y0_ret_1_14_6, .bool q8.1.Den.fneg, .slice q0f q8.1.Den.fmag.length c_y0_ret_3_14_6] :: l') := emk hS
        refine pa (v := .agg #[.bool q8.1.Num.fneg, .slice q0c q8.1.Num.fmag.length c_y0_ret_1_14_6, .bool q8.1.Den.fneg, .slice q0f q8.1.Den.fmag.length c_y0_ret_3_14_6]) (ld_sub agg_43 (hE15 12 rfl) rfl rfl hS) <| x_done <| ?_
        refine x_fin ⟨⟨_, rfl⟩, rfl, ?_⟩
        exact emk hS
       ·intro Ep15 w l' hE15 hO15 hF_ hS
        obtain ⟨q1n, q2j, -⟩ := hF_
        replace q1n : Ep15 75 = .agg #[.bool q0d.X.Num.fneg, .slice (adOf (partOf 1 (Ep15 75))) q0d.X.Num.fmag.length (capOf (partOf 1 (Ep15 75))), .bool q0d.X.Den.fneg, .slice (adOf (partOf 3 (Ep15 75))) q0d.X.Den.fmag.length (capOf (partOf 3 (Ep15 75)))] ∧ RdS (RpI .u32) q0p (adOf (partOf 1 (Ep15 75))) q0d.X.Num.fmag.length (capOf (partOf 1 (Ep15 75))) q0d.X.Num.fmag ∧ RdS (RpI .u32) q0p (adOf (partOf 3 (Ep15 75))) q0d.X.Den.fmag.length (capOf (partOf 3 (Ep15 75))) q0d.X.Den.fmag := emk q1n
        have q_ := id q1n; obtain ⟨-, q42, q43⟩ := q_
        replace q2j : Ep15 76 = .agg #[.bool q8.1.Num.fneg, .slice q0c q8.1.Num.fmag.length c_y0_ret_1_14_6, .bool q8.1.Den.fneg, .slice q0f q8.1.Den.fmag.length c_y0_ret_3_14_6] := emk q2j
        replace hS : St w0 w (ro q0h :: l') := emk hS
        have hcall := c_exact_Sum q5x (q42.le ((q15.trans q16).trans q1g)) (q43.le ((q15.trans q16).trans q1g)) q12 q1m hS
        refine o_cc call_18 (args2 q1n.1 q2j) hcall ?_
        rintro e w' ⟨q0b, q2p, q4r, c_y0_ret_1_15_8, q2q, q4s, c_y0_ret_3_15_8, rfl, q3o, q0l, q0m, hS⟩
        refine ⟨_, rfl, ?_⟩
        have e_ := q0l.n; subst e_
        have e_ := q0m.n; subst e_
        refine x_done <| ?_
        refine x_fin ⟨⟨_, rfl⟩, rfl, ?_⟩
        replace hS := St.ro_split q3o hS
        replace hS := St.bun (Φ := (fun (q0b : Heap) => Le q0h q0b ∧ RdS (RpI .u32) q0b q2p q4.1.Num.fmag.length c_y0_ret_1_15_8 q4.1.Num.fmag ∧ RdS (RpI .u32) q0b q2q q4.1.Den.fmag.length c_y0_ret_3_15_8 q4.1.Den.fmag)) (L := (fun (q0b : Heap) => [roD q0h q0b])) q0b ⟨q3o, q0l, q0m⟩ (hS.pull 1)
        exact emk (hS.pull 1)
       ·intro Ep15 w l' hE15 hO15 hF_ hS
        obtain ⟨q0q, -⟩ := hF_
        replace q0q : Ep15 77 = .tuple #[.agg #[.bool q4.1.Num.fneg, .slice (adOf (partOf 1 (partOf 0 (Ep15 77)))) q4.1.Num.fmag.length (capOf (partOf 1 (partOf 0 (Ep15 77)))), .bool q4.1.Den.fneg, .slice (adOf (partOf 3 (partOf 0 (Ep15 77)))) q4.1.Den.fmag.length (capOf (partOf 3 (partOf 0 (Ep15 77))))], .int .i64 q4.2] := emk q0q
        refine p (yl_move q0q) <| x_done <| ?_
        refine x_fin ⟨⟨_, rfl⟩, rfl, ?_⟩
        exact emk hS
       ·intro Ep15 w l' hE15 hO15 hF_ hS
        obtain ⟨q0q, q17, -⟩ := hF_
        replace q0q : Ep15 77 = .tuple #[.agg #[.bool q4.1.Num.fneg, .slice (adOf (partOf 1 (partOf 0 (Ep15 77)))) q4.1.Num.fmag.length (capOf (partOf 1 (partOf 0 (Ep15 77)))), .bool q4.1.Den.fneg, .slice (adOf (partOf 3 (partOf 0 (Ep15 77)))) q4.1.Den.fmag.length (capOf (partOf 3 (partOf 0 (Ep15 77))))], .int .i64 q4.2] := emk q0q
        replace q17 : Ep15 68 = .tuple #[.agg #[.bool q4.1.Num.fneg, .slice (adOf (partOf 1 (partOf 0 (Ep15 77)))) q4.1.Num.fmag.length (capOf (partOf 1 (partOf 0 (Ep15 77)))), .bool q4.1.Den.fneg, .slice (adOf (partOf 3 (partOf 0 (Ep15 77)))) q4.1.Den.fmag.length (capOf (partOf 3 (partOf 0 (Ep15 77))))], .int .i64 q4.2] := emk q17
        refine p (yl_extract q17 rfl) <| x_done <| ?_
        refine x_fin ⟨⟨_, rfl⟩, rfl, ?_⟩
        exact emk hS
       ·intro Ep15 w l' hE15 hO15 hF_ hS
        obtain ⟨q0q, q17, -⟩ := hF_
        replace q0q : Ep15 77 = .tuple #[.agg #[.bool q4.1.Num.fneg, .slice (adOf (partOf 1 (partOf 0 (Ep15 77)))) q4.1.Num.fmag.length (capOf (partOf 1 (partOf 0 (Ep15 77)))), .bool q4.1.Den.fneg, .slice (adOf (partOf 3 (partOf 0 (Ep15 77)))) q4.1.Den.fmag.length (capOf (partOf 3 (partOf 0 (Ep15 77))))], .int .i64 q4.2] := emk q0q
        replace q17 : Ep15 68 = .tuple #[.agg #[.bool q4.1.Num.fneg, .slice (adOf (partOf 1 (partOf 0 (Ep15 77)))) q4.1.Num.fmag.length (capOf (partOf 1 (partOf 0 (Ep15 77)))), .bool q4.1.Den.fneg, .slice (adOf (partOf 3 (partOf 0 (Ep15 77)))) q4.1.Den.fmag.length (capOf (partOf 3 (partOf 0 (Ep15 77))))], .int .i64 q4.2] := emk q17
        refine p (yl_extract q17 rfl) <| x_done <| ?_
        refine x_fin ⟨⟨_, rfl⟩, rfl, ?_⟩
        exact emk hS
       ·intro Ep15 w l' hE15 hO15 hF_ hS
        obtain ⟨q2k, q2l, -⟩ := hF_
        replace q2k : Ep15 69 = .slice q5 q9.length c_y0_ret_8_1 := emk q2k
        replace q2l : Ep15 70 = .int .i64 q6 := emk q2l
        replace hS : St w0 w (vec 45 R_place_Spot.sz (.slice q5 q9.length c_y0_ret_8_1) q9.length q0a :: l') := emk hS
        refine p (yix_o sl_29 q2k q2l hS q0o q3l) <| x_done <| ?_
        refine x_fin ⟨⟨_, rfl⟩, rfl, ?_⟩
        exact emk hS
       ·intro Ep15 w l' hE15 hO15 hF_ hS
        obtain ⟨q22, -⟩ := hF_
        replace q22 : Ep15 80 = .pointer (some ((adr q5).add (q6.toNat * R_place_Spot.sz))) := emk q22
        refine p (yl_fieldAddr fld_45_0 q22) <| x_done <| ?_
        refine x_fin ⟨⟨_, rfl⟩, rfl, ?_⟩
        exact emk hS
       ·intro Ep15 w l' hE15 hO15 hF_ hS
        obtain ⟨q0q, q23, q24, -⟩ := hF_
        replace q0q : Ep15 77 = .tuple #[.agg #[.bool q4.1.Num.fneg, .slice (adOf (partOf 1 (partOf 0 (Ep15 77)))) q4.1.Num.fmag.length (capOf (partOf 1 (partOf 0 (Ep15 77)))), .bool q4.1.Den.fneg, .slice (adOf (partOf 3 (partOf 0 (Ep15 77)))) q4.1.Den.fmag.length (capOf (partOf 3 (partOf 0 (Ep15 77))))], .int .i64 q4.2] := emk q0q
        replace q23 : Ep15 78 = .agg #[.bool q4.1.Num.fneg, .slice (adOf (partOf 1 (partOf 0 (Ep15 77)))) q4.1.Num.fmag.length (capOf (partOf 1 (partOf 0 (Ep15 77)))), .bool q4.1.Den.fneg, .slice (adOf (partOf 3 (partOf 0 (Ep15 77)))) q4.1.Den.fmag.length (capOf (partOf 3 (partOf 0 (Ep15 77))))] := emk q23
        replace q24 : Ep15 81 = .pointer (some (((adr q5).add (q6.toNat * R_place_Spot.sz)).add 0)) := emk q24
        replace hS : St w0 w (ro q0h :: vec 45 R_place_Spot.sz (.slice q5 q9.length c_y0_ret_8_1) q9.length q0a :: bunA (fun (q0b : Heap) => Le q0h q0b ∧ RdS (RpI .u32) q0b (adOf (partOf 1 (partOf 0 (Ep15 77)))) q4.1.Num.fmag.length (capOf (partOf 1 (partOf 0 (Ep15 77)))) q4.1.Num.fmag ∧ RdS (RpI .u32) q0b (adOf (partOf 3 (partOf 0 (Ep15 77)))) q4.1.Den.fmag.length (capOf (partOf 3 (partOf 0 (Ep15 77)))) q4.1.Den.fmag) (fun (q0b : Heap) => [roD q0h q0b]) :: l') := emk hS
        have q_ := St.unbun (hS.pull 2); obtain ⟨q0b, ⟨q1x, q0l, q0m⟩, hS⟩ := q_
        have q_ := St.ro_join (hS.pull 1) (Le.refl _) q1x; obtain ⟨q44, q13, q1e, hS, q6k⟩ := q_
        refine o_put' (news := [.bool q4.1.Num.fneg, .slice (adOf (partOf 1 (partOf 0 (Ep15 77)))) q4.1.Num.fmag.length (capOf (partOf 1 (partOf 0 (Ep15 77)))), .bool q4.1.Den.fneg, .slice (adOf (partOf 3 (partOf 0 (Ep15 77)))) q4.1.Den.fmag.length (capOf (partOf 3 (partOf 0 (Ep15 77))))]) sz_43 q24 q23 rfl rfl (o := 0) rfl q3l rfl (hS.pull 1) q0o (((q15.trans q16).trans q1g).trans q13) (fun c hc => by obtain ⟨_, _, _, _, _, _, _, _, _, _, _, _, rfl, q0, q1, q2, q3⟩ := hc; exact ⟨_, _, _, _, _, _, _, _, _, _, _, _, rfl, (q0l.le q1e), (q0m.le q1e), (q2.le (((q15.trans q16).trans q1g).trans q13)), (q3.le (((q15.trans q16).trans q1g).trans q13))⟩) q51 (fun q2z w' q30 hS => ?_)
        refine x_done <| ?_
        refine x_fin ⟨⟨undef, rfl⟩, trivial, ?_⟩
        replace hS := St.ro_split q13 (hS.pull 1)
        replace hS := St.bun (Φ := (fun (x : (Heap × List Value)) => Le q0h x.1 ∧ RdS (RpI .u32) x.1 (adOf (partOf 1 (partOf 0 (Ep15 77)))) q4.1.Num.fmag.length (capOf (partOf 1 (partOf 0 (Ep15 77)))) q4.1.Num.fmag ∧ RdS (RpI .u32) x.1 (adOf (partOf 3 (partOf 0 (Ep15 77)))) q4.1.Den.fmag.length (capOf (partOf 3 (partOf 0 (Ep15 77)))) q4.1.Den.fmag ∧ RepL R_place_Spot x.1 q2o x.2)) (L := (fun (x : (Heap × List Value)) => [vec 45 R_place_Spot.sz (.slice q5 q9.length c_y0_ret_8_1) q9.length x.2, roD q0h x.1])) (q44, q2z) ⟨q13, (q0l.le q1e), (q0m.le q1e), q30⟩ ((hS.pull 1).pull 2)
        exact emk (hS.pull 1)
      intro Ep15 w' hE15 hF_ hS
      obtain ⟨q2k, q2l, q2f, q2g, q2h, q2i, q1n, q2j, q0q, q17, q23, q45, q22, q24, -⟩ := hF_
      replace q2k : Ep15 69 = .slice q5 q9.length c_y0_ret_8_1 := emk q2k
      replace q2l : Ep15 70 = .int .i64 q6 := emk q2l
      replace q2f : Ep15 71 = .slice q5 q9.length c_y0_ret_8_1 := emk q2f
      replace q2g : Ep15 72 = .int .i64 q6 := emk q2g
      replace q2h : Ep15 73 = .pointer (some ((adr q5).add (q6.toNat * R_place_Spot.sz))) := emk q2h
      replace q2i : Ep15 74 = .pointer (some (((adr q5).add (q6.toNat * R_place_Spot.sz)).add 0)) := emk q2i
      replace q1n : Ep15 75 = .agg #[.bool q0d.X.Num.fneg, .slice (adOf (partOf 1 (Ep15 75))) q0d.X.Num.fmag.length (capOf (partOf 1 (Ep15 75))), .bool q0d.X.Den.fneg, .slice (adOf (partOf 3 (Ep15 75))) q0d.X.Den.fmag.length (capOf (partOf 3 (Ep15 75)))] ∧ RdS (RpI .u32) q0p (adOf (partOf 1 (Ep15 75))) q0d.X.Num.fmag.length (capOf (partOf 1 (Ep15 75))) q0d.X.Num.fmag ∧ RdS (RpI .u32) q0p (adOf (partOf 3 (Ep15 75))) q0d.X.Den.fmag.length (capOf (partOf 3 (Ep15 75))) q0d.X.Den.fmag := emk q1n
      have q_ := id q1n; obtain ⟨-, q42, q43⟩ := q_
      replace q2j : Ep15 76 = .agg #[.bool q8.1.Num.fneg, .slice q0c q8.1.Num.fmag.length c_y0_ret_1_14_6, .bool q8.1.Den.fneg, .slice q0f q8.1.Den.fmag.length c_y0_ret_3_14_6] := emk q2j
      replace q0q : Ep15 77 = .tuple #[.agg #[.bool q4.1.Num.fneg, .slice (adOf (partOf 1 (partOf 0 (Ep15 77)))) q4.1.Num.fmag.length (capOf (partOf 1 (partOf 0 (Ep15 77)))), .bool q4.1.Den.fneg, .slice (adOf (partOf 3 (partOf 0 (Ep15 77)))) q4.1.Den.fmag.length (capOf (partOf 3 (partOf 0 (Ep15 77))))], .int .i64 q4.2] := emk q0q
      replace q17 : Ep15 68 = .tuple #[.agg #[.bool q4.1.Num.fneg, .slice (adOf (partOf 1 (partOf 0 (Ep15 77)))) q4.1.Num.fmag.length (capOf (partOf 1 (partOf 0 (Ep15 77)))), .bool q4.1.Den.fneg, .slice (adOf (partOf 3 (partOf 0 (Ep15 77)))) q4.1.Den.fmag.length (capOf (partOf 3 (partOf 0 (Ep15 77))))], .int .i64 q4.2] := emk q17
      replace q23 : Ep15 78 = .agg #[.bool q4.1.Num.fneg, .slice (adOf (partOf 1 (partOf 0 (Ep15 77)))) q4.1.Num.fmag.length (capOf (partOf 1 (partOf 0 (Ep15 77)))), .bool q4.1.Den.fneg, .slice (adOf (partOf 3 (partOf 0 (Ep15 77)))) q4.1.Den.fmag.length (capOf (partOf 3 (partOf 0 (Ep15 77))))] := emk q23
      replace q45 : Ep15 79 = .int .i64 q4.2 := emk q45
      replace q22 : Ep15 80 = .pointer (some ((adr q5).add (q6.toNat * R_place_Spot.sz))) := emk q22
      replace q24 : Ep15 81 = .pointer (some (((adr q5).add (q6.toNat * R_place_Spot.sz)).add 0)) := emk q24
      replace hS : St w0 w' (cells b12 43 [.bool q8.1.Num.fneg, .slice q0c q8.1.Num.fmag.length c_y0_ret_1_14_6, .bool q8.1.Den.fneg, .slice q0f q8.1.Den.fmag.length c_y0_ret_3_14_6] :: ro q0h :: bunA (fun (x : (Heap × List Value)) => Le q0h x.1 ∧ RdS (RpI .u32) x.1 (adOf (partOf 1 (partOf 0 (Ep15 77)))) q4.1.Num.fmag.length (capOf (partOf 1 (partOf 0 (Ep15 77)))) q4.1.Num.fmag ∧ RdS (RpI .u32) x.1 (adOf (partOf 3 (partOf 0 (Ep15 77)))) q4.1.Den.fmag.length (capOf (partOf 3 (partOf 0 (Ep15 77)))) q4.1.Den.fmag ∧ RepL R_place_Spot x.1 q2o x.2) (fun (x : (Heap × List Value)) => [vec 45 R_place_Spot.sz (.slice q5 q9.length c_y0_ret_8_1) q9.length x.2, roD q0h x.1]) :: (cells b19 25 [.slice q1c l_0.length c_l_0, .int .i64 q4m.2] :: cells b8 43 [.bool q0e.1.Num.fneg, .slice q0i q0e.1.Num.fmag.length c_y0_ret_1_7_2, .bool q0e.1.Den.fneg, .slice q0j q0e.1.Den.fmag.length c_y0_ret_3_7_2] :: l)) := emk hS
      have q_ := St.unbun (hS.pull 2); obtain ⟨⟨q0b, q2z⟩, ⟨q1x, q0l, q0m, q30⟩, hS⟩ := q_
      have q_ := St.ro_join ((hS.pull 1).pull 3) (Le.refl _) q1x; obtain ⟨q58, q39, q4e, hS, q6t⟩ := q_
      replace hFc57 := bd_s hFc57; obtain ⟨q4t, q5z, hFc57⟩ := hFc57
      refine x_region <| p (yl_move ((hE15 10 rfl).trans q2m)) <| p (yl_move rfl) <| pg (v := .pointer (some ⟨b12, 0, none⟩)) 83 (c := !q0g) (says_f _) (fun hq => Yl.at (yl_field0 fld_43_0 (hE15 12 rfl))) <|
       pg (v := .agg #[.bool q8.1.Num.fneg, .slice q0c q8.1.Num.fmag.length c_y0_ret_1_14_6]) 83 (c := !q0g) (says_f _) (fun hq => ld_sub agg_41 (cv hq) rfl rfl (hS.pull 2)) <|
       pccg (v := .int .i64 q4t) 83 (c := !q0g) (says_f _) call_19 (fun hq => (args1 (cv hq))) hS (fun hq => by
        have hcall := c_exact_Sign (gd_t q5z hq) (q12.le q39) hS
        exact hcall) (fun w' hS => ?_)
      replace hFc57 := lv_s hFc57; obtain ⟨x88, hx88, hFc57⟩ := hFc57
      refine pg (v := .bool (decide (q4t ≠ 0))) 83 (c := !q0g) (says_f _) (fun hq => Yl.at (yl_neq (cv hq) rfl)) <| p (yor' rfl rfl (fun hc => (cv (t_not hc))) hx88) <| p (yl_assign rfl) <| x_done <| ?_
      exact x_inv ⟨q58, q2z, q2o, x88, q4m.2, (sinj hFc57), (((q15.trans q16).trans q1g).trans q39), ((hE15 3 rfl).trans q20), ((hE15 5 rfl).trans q2w), ((hE15 6 rfl).trans q3k), ((hE15 7 rfl).trans q2x), ((hE15 8 rfl).trans q2y), ((hE15 9 rfl).trans q21), rfl, (hE15 11 rfl), ((hE15 52 rfl).trans q2n), ((hE15 53 rfl).trans q27), (q30.le q4e), ((((hS.pull 2).drop.pull 1).pull 3).pull 3)⟩
     ·replace hFc57 := it_bf hc57 hFc57
      refine x_skip <| ?_
      exact x_inv ⟨q0p, q0a, q0u, q0g, q4j.2, (sinj hFc57), (Le.refl _), q20, q2w, q3k, q2x, q2y, q21, q2m, rfl, q2n, q27, q0o, ((((hS.pull 1).pull 3).pull 3).pull 3)⟩
    rintro E w ⟨q2e, q0v, q1d, q7, q2d, rfl, q0x, q2r, q46, q3a, q47, q48, q2s, q3p, q31, q3q, q3r, q1i, hS⟩
    replace hFL11 := bd_s hFL11; obtain ⟨q4u, q60, hFL11⟩ := hFL11
    refine x_seq <| x_region <| p (yl_move q2r) <| ?_
    have hcall := c_maskmake_Stream_Flip q60 (q1j.le ((((((q1h.trans q14).trans q11).trans q0y).trans q0s).trans q0k).trans q0x)) ((hS.pull 3).pull 1)
    refine o_cc call_15 (args2 rfl rfl) hcall ?_
    rintro e w' ⟨rfl, hS⟩
    refine ⟨_, rfl, ?_⟩
    refine x_done <| ?_
    replace hFL11 := bd_s hFL11; obtain ⟨oc90, hFc90, hFL11⟩ := hFL11
    refine x_join (fun E w => ∃ (q2t : Heap) (q0w : List Value) (q1f : List T_place_Spot) (q18 : Bool) (q1o : Int), (q1f, q18, q1o) = oc90 ∧ Le q2e q2t ∧ E 3 = .pointer (some ⟨b19, 0, none⟩) ∧ E 5 = .slice q10 q37.1.length c_y0_ret_3_2 ∧ E 6 = .slice q0n q1w.1.length c_y0_ret_4_2 ∧ E 7 = .int .i64 q0e.2 ∧ E 8 = .pointer (some ⟨b8, 0, none⟩) ∧ E 9 = .slice q5 q9.length c_y0_ret_8_1 ∧ E 10 = .bool q18 ∧ E 52 = .int .i64 (q9.length : Int) ∧ E 53 = .int .i64 q6 ∧ RepL R_place_Spot q2t q1f q0w ∧ St w0 w (cells b19 25 [.slice q1c l_0.length c_l_0, .int .i64 q1o] :: cells b8 43 [.bool q0e.1.Num.fneg, .slice q0i q0e.1.Num.fmag.length c_y0_ret_1_7_2, .bool q0e.1.Den.fneg, .slice q0j q0e.1.Den.fmag.length c_y0_ret_3_7_2] :: vec 45 R_place_Spot.sz (.slice q5 q9.length c_y0_ret_8_1) q9.length q0w :: ro q2t :: l)) ?_ ?_
    ·refine x_cond (t := q4u.1) rfl (fun hc90 => ?_) (fun hc90 => ?_)
     ·replace hFc90 := it_t hc90 hFc90
      replace hFc90 := bd_s hFc90; obtain ⟨q6r, q61, hFc90⟩ := hFc90
      refine x_seq <| x_region <| p (yl_move q2s) <| p (yl_move q31) <|
       p (yl_move q2r) <| ?_
      have hcall := c_maskmake_Stream_Next q61 (q1j.le ((((((q1h.trans q14).trans q11).trans q0y).trans q0s).trans q0k).trans q0x)) ((hS.pull 1).pull 1)
      refine o_cc call_20 (args2 rfl rfl) hcall ?_
      rintro e w' ⟨rfl, hS⟩
      refine ⟨_, rfl, ?_⟩
      replace hFc90 := bd_s hFc90; obtain ⟨q36, q62, hFc90⟩ := hFc90
      have hcall := c_exact_Whole q62  (hS.pull 1)
      refine o_cc call_11 (args1 rfl) hcall ?_
      rintro e w' ⟨q59, q2u, q4v, c_y0_ret_1_18_4, q2v, q4w, c_y0_ret_3_18_4, rfl, q0z, q1p, q1q, hS⟩
      refine ⟨_, rfl, ?_⟩
      have e_ := q1p.n; subst e_
      have e_ := q1q.n; subst e_
      replace hFc90 := ck_s hFc90; obtain ⟨q49, hFc90⟩ := hFc90
      refine p (yix_o sl_29 rfl rfl (hS.pull 3) q1i q49) <| p (yl_fieldAddr fld_45_1 rfl) <| ?_
      replace hFc90 := lv_s hFc90; obtain ⟨q6s, q63, hFc90⟩ := hFc90
      refine o_put' (news := [.bool q36.Num.fneg, .slice q2u q36.Num.fmag.length c_y0_ret_1_18_4, .bool q36.Den.fneg, .slice q2v q36.Den.fmag.length c_y0_ret_3_18_4]) sz_43 rfl rfl rfl rfl (o := 4) rfl q49 rfl (hS.pull 3) q1i q0z (fun c hc => by obtain ⟨_, _, _, _, _, _, _, _, _, _, _, _, rfl, q0, q1, q2, q3⟩ := hc; exact ⟨_, _, _, _, _, _, _, _, _, _, _, _, rfl, (q0.le q0z), (q1.le q0z), q1p, q1q⟩) q63 (fun q64 w' q3b hS => ?_)
      replace hFc90 := ck_s hFc90; obtain ⟨q4a, hFc90⟩ := hFc90
      replace hFc90 := lv_s hFc90; obtain ⟨q1r, q65, hFc90⟩ := hFc90
      have q_ := RepL.getD R_place_Spot_d q3b q6; obtain ⟨q7p, q4b, q66⟩ := q_
      rw [← q65] at q4b
      obtain ⟨q7c, q7d, q7e, q7f, q7g, q7h, q3s, q7i, q3t, q3u, q7j, q3v, rfl, q5a, q5b, q3w, q3x⟩ := q4b
      have e_ := q5a.n; subst e_
      have e_ := q5b.n; subst e_
      have e_ := q3w.n; subst e_
      have e_ := q3x.n; subst e_
      replace hFc90 := ck_s hFc90; obtain ⟨q4c, hFc90⟩ := hFc90
      replace hFc90 := lv_s hFc90; obtain ⟨q1a, q5c, hFc90⟩ := hFc90
      have q_ := RdS.getD R_place_Spot_d q34 q6; obtain ⟨q7k, q3y, q5d⟩ := q_
      rw [← q5c] at q3y
      obtain ⟨q6u, q6v, q6w, q6x, q6y, q6z, q3c, q70, q3d, q3e, q71, q3f, rfl, q4f, q4g, q3g, q3h⟩ := q3y
      have e_ := q4f.n; subst e_
      have e_ := q4g.n; subst e_
      have e_ := q3g.n; subst e_
      have e_ := q3h.n; subst e_
      replace hFc90 := bd_s hFc90; obtain ⟨q4d, q5e, hFc90⟩ := hFc90
      replace hFc90 := lv_s hFc90; obtain ⟨x112, hx112, hFc90⟩ := hFc90
      refine x_done <| x_still mixed (by kernel_rfl) hS <| q (yl_move q3p) <| q (yl_move rfl) <|
       qg (v := .slice q5 q9.length c_y0_ret_8_1) 99 (c := !q7) (says_f _) (fun hq w' hS => Yl.at (yl_move q2s)) <| qg (v := .int .i64 q6) 99 (c := !q7) (says_f _) (fun hq w' hS => Yl.at (yl_move q31)) <| qg (v := .pointer (some ((adr q5).add (q6.toNat * R_place_Spot.sz)))) 99 (c := !q7) (says_f _) (fun hq w' hS => Yl.at (yix_o sl_29 (cv hq) (cv hq) hS q3b (q4a hq))) <| qg (v := .pointer (some (((adr q5).add (q6.toNat * R_place_Spot.sz)).add 4))) 99 (c := !q7) (says_f _) (fun hq w' hS => Yl.at (yl_fieldAddr fld_45_1 (cv hq))) <|
       qg (v := .agg #[.bool q1r.Y.Num.fneg, .slice q3s q1r.Y.Num.fmag.length q3t, .bool q1r.Y.Den.fneg, .slice q3u q1r.Y.Den.fmag.length q3v]) 99 (c := !q7) (says_f _) (fun hq w' hS => at_loadAgg (cs := [.bool q1r.Y.Num.fneg, .slice q3s q1r.Y.Num.fmag.length q3t, .bool q1r.Y.Den.fneg, .slice q3u q1r.Y.Den.fmag.length q3v]) agg_43 (cv hq) rfl (sub_every (m := 4) (EltV.every (q66 (q4a hq)) hS) rfl)) <| qg (v := .slice q0n q1w.1.length c_y0_ret_4_2) 99 (c := !q7) (says_f _) (fun hq w' hS => Yl.at (yl_move q3a)) <| qg (v := .int .i64 q6) 99 (c := !q7) (says_f _) (fun hq w' hS => Yl.at (yl_move q31)) <| qg (v := .pointer (some ((adr q0n).add (q6.toNat * R_place_Spot.sz)))) 99 (c := !q7) (says_f _) (fun hq w' hS => Yl.at (yix_f sl_29 (cv hq) (cv hq) (q34.le (((q0s.trans q0k).trans q0x).trans q0z)) (q4c hq))) <|
       qg (v := .pointer (some (((adr q0n).add (q6.toNat * R_place_Spot.sz)).add 4))) 99 (c := !q7) (says_f _) (fun hq w' hS => Yl.at (yl_fieldAddr fld_45_1 (cv hq))) <| qg (v := .agg #[.bool q1a.Y.Num.fneg, .slice q3c q1a.Y.Num.fmag.length q3d, .bool q1a.Y.Den.fneg, .slice q3e q1a.Y.Den.fmag.length q3f]) 99 (c := !q7) (says_f _) (fun hq w' hS => at_loadAgg (cs := [.bool q1a.Y.Num.fneg, .slice q3c q1a.Y.Num.fmag.length q3d, .bool q1a.Y.Den.fneg, .slice q3e q1a.Y.Den.fmag.length q3f]) agg_43 (cv hq) rfl (sub_every (m := 4) (Elt.every (Elt.le (q5d (q4c hq)) (((q0s.trans q0k).trans q0x).trans q0z)) (hS.pull 1)) rfl)) <| qccg (v := .int .i64 q4d) 99 (c := !q7) (says_f _) call_10 (fun hq => (args2 (cv hq) (cv hq))) (fun hq w' hS => by
        have hcall := c_exact_Compare (gd_t q5e hq) q3w q3x (q3g.le (((q0s.trans q0k).trans q0x).trans q0z)) (q3h.le (((q0s.trans q0k).trans q0x).trans q0z)) (hS.pull 1)
        exact (Calls.mono hcall (fun e w'' h => And.intro h.1 ((((h.2.pull 3).pull 3).pull 2).pull 3)))) <| qg (v := .bool (decide (q4d ≠ 0))) 99 (c := !q7) (says_f _) (fun hq w' hS => Yl.at (yl_neq (cv hq) rfl)) <|
       q (yor' rfl rfl (fun hc => (cv (t_not hc))) hx112) <| q (yl_assign rfl) <|
       q_done fun w' hS => ?_
      exact x_inv ⟨q59, q64, q6s, x112, q6r.2, (sinj hFc90), q0z, q2r, q46, q3a, q47, q48, q2s, rfl, q3q, q3r, q3b, ((((hS.pull 1).pull 1).pull 3).pull 3)⟩
     ·replace hFc90 := it_bf hc90 hFc90
      refine x_skip <| ?_
      exact x_inv ⟨q2e, q0v, q1d, q7, q4u.2, (sinj hFc90), (Le.refl _), q2r, q46, q3a, q47, q48, q2s, q3p, q3q, q3r, q1i, ((((hS.pull 1).pull 3).pull 3).pull 3)⟩
    rintro E w ⟨q2t, q0w, q1f, q18, q1o, rfl, q4h, q67, q68, q69, q6a, q6b, q6c, q5f, q5g, q5h, q3i, hS⟩
    replace hFL11 := ar_s hFL11; obtain ⟨x113, hx113, hFL11⟩ := hFL11
    refine x_blk <| x_region <| p (yadd q5h rfl hx113) <| p (yl_move rfl) <|
     x_done <| ?_
    have e_ := sinj hFL11; subst e_
    exact x_inv ⟨kL11, Nat.lt_succ_self _, q2t, q0w, q1f, q18, x113, q1o, hLL11, ((q0k.trans q0x).trans q4h), q67, q68, q69, q6a, q6b, q6c, q5f, q5g, rfl, q3i, ((((hS.pull 3).pull 3).pull 3).pull 3)⟩
   ·replace hFL11 := it_f hc54 hFL11
    refine x_exitTo _ rfl <| ?_
    have e_ := sinj hFL11; subst e_
    exact x_inv ⟨q0p, q0a, q0u, q0g, hLL11, q0k, q2w, q2x, q2y, q21, q2m, q0o, (((hS.drop.pull 2).pull 2).pull 2)⟩
  rintro E w ⟨q35, q1b, q25, q0t, rfl, q28, q6d, q6e, q6f, q6g, q5i, q3j, hS⟩
  refine x_seq <| x_region <| p (yl_move q6g) <| p (yl_move q6d) <| ?_
  have q_ := St.vec_fz ((hS.pull 2).pull 2) q3j; obtain ⟨q7q, q29, q6h, hS⟩ := q_
  replace hF := bd_s hF; obtain ⟨q19, q6i, hF⟩ := hF
  have hcall := c_place_Length q6i q6h (q3z.le ((((q11.trans q0y).trans q0s).trans q28).trans q29)) hS
  refine o_cc call_13 (args2 rfl rfl) hcall ?_
  rintro e w' ⟨q7l, q1s, q4x, c_y0_ret_1_21_2, q1t, q4y, c_y0_ret_3_21_2, rfl, q32, q1u, q1v, hS⟩
  refine ⟨_, rfl, ?_⟩
  have e_ := q1u.n; subst e_
  have e_ := q1v.n; subst e_
  refine p (yl_move rfl) <| p (yl_extract rfl rfl) <| p (yl_extract rfl rfl) <| ?_
  refine o_alloc zero_43 hS (fun b14 w' hS => ?_)
  refine o_storeAgg (news := [.bool q19.1.Num.fneg, .slice q1s q19.1.Num.fmag.length c_y0_ret_1_21_2, .bool q19.1.Den.fneg, .slice q1t q19.1.Den.fmag.length c_y0_ret_3_21_2]) agg_43 rfl rfl rfl (by simp [over_length]) hS (fun w' hS => ?_)
  replace hF := bd_s hF; obtain ⟨q0r, q6j, hF⟩ := hF
  refine p (yl_assign rfl) <| x_done <| x_seq <| x_region <|
   pa (v := .agg #[.bool q0e.1.Num.fneg, .slice q0i q0e.1.Num.fmag.length c_y0_ret_1_7_2, .bool q0e.1.Den.fneg, .slice q0j q0e.1.Den.fmag.length c_y0_ret_3_7_2]) (ld_sub agg_43 q6f rfl rfl (hS.pull 2)) <| pa (v := .agg #[.bool q19.1.Num.fneg, .slice q1s q19.1.Num.fmag.length c_y0_ret_1_21_2, .bool q19.1.Den.fneg, .slice q1t q19.1.Den.fmag.length c_y0_ret_3_21_2]) (ld_sub agg_43 rfl rfl rfl hS) <| ?_
  have hcall := c_exact_Compare q6j (q1y.le ((q28.trans q29).trans q32)) (q1z.le ((q28.trans q29).trans q32)) q1u q1v (hS.pull 1)
  refine o_cc call_10 (args2 rfl rfl) ((Calls.mono hcall (fun e w'' h => And.intro h.1 (((h.2.pull 2).pull 1).pull 2)))) ?_
  rintro e w' ⟨rfl, hS⟩
  refine ⟨_, rfl, ?_⟩
  replace hF := lv_s hF; obtain ⟨x128, hx128, hF⟩ := hF
  replace hF := lv_s hF; obtain ⟨x138, hx138, hF⟩ := hF
  replace hF := lv_s hF; obtain ⟨x139, hx139, hF⟩ := hF
  replace hF := lv_s hF; obtain ⟨x140, hx140, hF⟩ := hF
  refine p (v := .int .i64 q0r) (yl_assign rfl) <| x_done <| x_seq <| x_region <|
   p (yl_move q6e) <| p (yl_eql rfl rfl) <| p (yl_move rfl) <| pg (v := .int .i64 q19.2) 125 (c := decide (q0e.2 = 0)) (says_t _) (fun hq => Yl.at (yl_move rfl)) <|
   pg (v := .bool (decide (q19.2 = 0))) 125 (c := decide (q0e.2 = 0)) (says_t _) (fun hq => Yl.at (yl_eql (cv hq) rfl)) <| p (yand' rfl (fun hc => (cv hc)) rfl hx128) <| p (yl_move rfl) <| pg (v := .int .i64 q0r) 129 (c := x128) (says_t _) (fun hq => Yl.at (yl_move rfl)) <|
   pg (v := .bool (decide (q0r < 0))) 129 (c := x128) (says_t _) (fun hq => Yl.at (yl_lss (cv hq) rfl)) <| pg (v := .bool (decide (q0r < 0))) 129 (c := x128) (says_t _) (fun hq => Yl.at (yl_move (cv hq))) <| pg (v := .int .i64 q0r) 132 (c := x128 && !(decide (q0r < 0))) (says_iff _ _) (fun hq => Yl.at (yl_move rfl)) <| pg (v := .bool (decide (q0r = 0))) 132 (c := x128 && !(decide (q0r < 0))) (says_iff _ _) (fun hq => Yl.at (yl_eql (cv hq) rfl)) <|
   pg (v := .bool (decide (q0r = 0))) 132 (c := x128 && !(decide (q0r < 0))) (says_iff _ _) (fun hq => Yl.at (yl_move (cv hq))) <| pg (v := .bool q0t) 135 (c := (x128 && !(decide (q0r < 0))) && (decide (q0r = 0))) (says_ift _ _) (fun hq => Yl.at (yl_move q5i)) <| pg (v := .bool (!q0t)) 135 (c := (x128 && !(decide (q0r < 0))) && (decide (q0r = 0))) (says_ift _ _) (fun hq => Yl.at (yl_not (cv hq))) <| pg (v := .bool x138) 132 (c := x128 && !(decide (q0r < 0))) (says_iff _ _) (fun hq => Yl.at (yand' (cv hq) (fun hc => (cv (and_i hq hc))) rfl hx138)) <|
   pg (v := .bool x139) 129 (c := x128) (says_t _) (fun hq => Yl.at (yor' (cv hq) rfl (fun hc => (cv (and_i hq (t_not hc)))) hx139)) <| p (yand' rfl (fun hc => (cv hc)) rfl hx140) <| p (yl_assign rfl) <| x_done <| ?_
  have e_ := sinj hF; subst e_
  exact x_return ⟨_, ⟨_, _, rfl, rfl, rfl⟩, rfl, (ro_back0 (((((((q1h.trans q14).trans q11).trans q0y).trans q0s).trans q28).trans q29).trans q32) ((hS.drop.pull 1).drop))⟩
attribute [irreducible] P_maskkeep4_PlaceLeast


end Go.Proofs.Ytfkncjfpgflafaa.X
