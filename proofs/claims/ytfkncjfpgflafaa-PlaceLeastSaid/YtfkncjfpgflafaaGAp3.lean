/- Printed by gen.py: plain functions, and that the Go code computes them. -/
import Derived.Test.YtfkncjfpgflafaaXI
import Derived.Test.YtfkncjfpgflafaaYW
import Derived.Test.YtfkncjfpgflafaaXT
import Derived.Test.YtfkncjfpgflafaaGAp0
import Derived.Test.YtfkncjfpgflafaaGAp1
import Derived.Test.YtfkncjfpgflafaaGAp2
namespace Go.Proofs.Ytfkncjfpgflafaa.X
set_option maxHeartbeats 4000000
set_option maxRecDepth 100000
open Go Go.RowKit
set_option linter.unusedVariables false
set_option linter.unusedSimpArgs false

def P_maskkeep4_exacts : Option Bool :=
 bd (P_exact_Solve ([([2] : List Int)] : List (List Int)) ([6] : List Int)) fun q2 =>
 lv ((decide (q2.2 = 0)) && (decide ((q2.1.length : Int) = 1))) fun x16 =>
 ck (x16 = true → inb 0 q2.1.length) <|
 lv (gt q2.1 (0 : Int)) fun q4 =>
 bd (gd (x16) (P_exact_Text q4.Num)) fun q5 =>
 lv (x16 && (decide (q5 = (⟨#[51]⟩ : ByteArray)))) fun x24 =>
 bd (
  if x24 = true then
   bd (P_exact_Of (-12)) fun q6 =>
   bd (P_exact_Text q6) fun q7 =>
   some (decide (q7 = (⟨#[45, 49, 50]⟩ : ByteArray)))
  else
   some false) fun q3 =>
 some q3
theorem c_maskkeep4_exacts {w0 w : World} {l : List Assn} {ρ : Heap} {r : Bool} (hF : P_maskkeep4_exacts = some r) (hS : St w0 w (ro ρ :: l)) :
  Calls Try.prog 25 #[] w fun e w' => e = .returned (.bool r) ∧ St w0 w' (ro ρ :: l) := by
 refine enterC Try.func25 rfl 30 rfl (by simp) ?_
 refine x_seq <| x_region <| p (yl_assign rfl) <| x_done <|
  x_seq <| x_region <| ?_
 refine o_buildSlice (vs := [.int .i64 2]) (cs := [.int .i64 2]) sl_61 zero_2 (parts_eq (pt (va := .int .i64 2) rfl pt0)) rfl (by intro v hv; simp only [List.mem_cons, List.not_mem_nil, or_false] at hv; first | (subst hv; rfl) | (rcases hv with rfl <;> rfl)) (by decide) rfl hS (fun b4 w' hS => ?_)
 have q14 : RepL (RpI .i64) ρ ([2] : List Int) [.int .i64 2] := (RepL.cons (cs := [.int .i64 2]) rfl RepL.nil)
 replace hS := St.vec_of (n := 1) (sz := (RpI .i64).sz) hS rfl (by decide)
 have q_ := St.vec_fz ((hS.pull 1).pull 1) q14; obtain ⟨q0p, q0f, q0q, hS⟩ := q_
 refine o_buildSlice (vs := [.slice (some ⟨b4, 0, none⟩) 1 1]) (cs := [.slice (some ⟨b4, 0, none⟩) 1 1]) sl_60 zero_61 (parts_eq (pt (va := .slice (some ⟨b4, 0, none⟩) 1 1) rfl pt0)) rfl (by intro v hv; simp only [List.mem_cons, List.not_mem_nil, or_false] at hv; first | (subst hv; rfl) | (rcases hv with rfl <;> rfl)) (by decide) rfl hS (fun b5 w' hS => ?_)
 refine o_buildSlice (vs := [.int .i64 6]) (cs := [.int .i64 6]) sl_61 zero_2 (parts_eq (pt (va := .int .i64 6) rfl pt0)) rfl (by intro v hv; simp only [List.mem_cons, List.not_mem_nil, or_false] at hv; first | (subst hv; rfl) | (rcases hv with rfl <;> rfl)) (by decide) rfl hS (fun b6 w' hS => ?_)
 have q15 : RepL (RpSl (RpI .i64)) q0p ([([2] : List Int)] : List (List Int)) [.slice (some ⟨b4, 0, none⟩) 1 1] := (RepL.cons (cs := [.slice (some ⟨b4, 0, none⟩) 1 1]) ⟨_, _, _, rfl, q0q⟩ RepL.nil)
 replace hS := St.vec_of (n := 1) (sz := (RpSl (RpI .i64)).sz) (hS.pull 1) rfl (by decide)
 have q_ := St.vec_fz ((hS.pull 2).pull 1) q15; obtain ⟨q0r, q0g, q0s, hS⟩ := q_
 have q0t : RepL (RpI .i64) q0r ([6] : List Int) [.int .i64 6] := (RepL.cons (cs := [.int .i64 6]) rfl RepL.nil)
 replace hS := St.vec_of (n := 1) (sz := (RpI .i64).sz) (hS.pull 1) rfl (by decide)
 have q_ := St.vec_fz ((hS.pull 1).pull 1) q0t; obtain ⟨q1d, q0a, q0u, hS⟩ := q_
 replace hF := bd_s hF; obtain ⟨q7, q16, hF⟩ := hF
 have hcall := c_exact_Solve q16 (q0s.le q0a) q0u hS
 refine o_cc call_24 (args2 rfl rfl) hcall ?_
 rintro e w' ⟨q0v, q4, q0w, c_y0_ret_1_3, q0o, rfl, q0x, q5, hS⟩
 refine ⟨_, rfl, ?_⟩
 have e_ := St.vec_n hS q5; subst e_
 replace hF := lv_s hF; obtain ⟨x16, hx16, hF⟩ := hF
 replace hF := ck_s hF; obtain ⟨q0i, hF⟩ := hF
 replace hF := lv_s hF; obtain ⟨q9, q0y, hF⟩ := hF
 have q_ := RepL.getD R_exact_Ratio_d q5 (0 : Int); obtain ⟨q1e, q0e, q0z⟩ := q_
 rw [← q0y] at q0e
 obtain ⟨q0b, q18, q0c, q19, q1a, q1b, rfl, q0d, q0m⟩ := q0e
 have e_ := q0d.n; subst e_
 have e_ := q0m.n; subst e_
 replace hF := bd_s hF; obtain ⟨q0j, q10, hF⟩ := hF
 refine p (yl_move rfl) <| p (yl_extract rfl rfl) <| p (yl_extract rfl rfl) <| p (yl_assign rfl) <|
  p (yl_assign rfl) <| x_done <| x_seq <| x_region <|
  p (yl_move rfl) <| p (yl_eql rfl rfl) <| p (yl_move rfl) <| pg (v := .slice q4 q7.1.length c_y0_ret_1_3) 12 (c := decide (q7.2 = 0)) (says_t _) (fun hq => Yl.at (yl_move rfl)) <|
  pg (v := .int .i64 (q7.1.length : Int)) 12 (c := decide (q7.2 = 0)) (says_t _) (fun hq => Yl.at (yl_len_slice usl_64 (cv hq))) <| pg (v := .bool (decide ((q7.1.length : Int) = 1))) 12 (c := decide (q7.2 = 0)) (says_t _) (fun hq => Yl.at (yl_eql (cv hq) rfl)) <| p (yand' rfl (fun hc => (cv hc)) rfl hx16) <| p (yl_move rfl) <|
  pg (v := .slice q4 q7.1.length c_y0_ret_1_3) 17 (c := x16) (says_t _) (fun hq => Yl.at (yl_move rfl)) <| pg (v := .pointer (some ((adr q4).add ((0 : Int).toNat * R_exact_Ratio.sz)))) 17 (c := x16) (says_t _) (fun hq => Yl.at (yix_o sl_64 (cv hq) rfl hS q5 (q0i hq))) <| pg (v := .pointer (some (((adr q4).add ((0 : Int).toNat * R_exact_Ratio.sz)).add 0))) 17 (c := x16) (says_t _) (fun hq => Yl.at (yl_fieldAddr fld_43_0 (cv hq))) <| pg (v := .agg #[.bool q9.Num.fneg, .slice q0b q9.Num.fmag.length q0c]) 17 (c := x16) (says_t _) (fun hq => at_loadAgg (cs := [.bool q9.Num.fneg, .slice q0b q9.Num.fmag.length q0c]) agg_41 (cv hq) rfl (sub_every (m := 2) (EltV.every (q0z (q0i hq)) hS) rfl)) <|
  pccg (v := .string q0j) 17 (c := x16) (says_t _) call_26 (fun hq => (args1 (cv hq))) hS (fun hq => by
   have hcall := c_exact_Text (gd_t q10 hq) q0d (hS.pull 1)
   exact (Calls.mono hcall (fun e w'' h => And.intro h.1 (h.2.pull 1)))) (fun w' hS => ?_)
 replace hF := lv_s hF; obtain ⟨x24, hx24, hF⟩ := hF
 refine pg (v := .bool (decide (q0j = (⟨#[51]⟩ : ByteArray)))) 17 (c := x16) (says_t _) (fun hq => Yl.at (yl_eql_string (cv hq) rfl)) <| p (yand' rfl (fun hc => (cv hc)) rfl hx24) <| p (yl_move rfl) <| ?_
 replace hF := bd_s hF; obtain ⟨q11, q2, hF⟩ := hF
 refine x_join_ops (fun E w => ∃ (q8 : Bool), q8 = q11 ∧ E 0 = .bool q8 ∧ St w0 w (ro q0v :: l)) ?_ ?_
 ·refine x_split x24 (fun q3 => ?_) (fun q3 => ?_)
  ·replace q2 := it_t q3 q2
   replace q2 := bd_s q2; obtain ⟨q1g, q12, q2⟩ := q2
   refine o_strip 25 true (says_lit (c := true) (Eq.trans (show _ = Value.bool x24 from rfl) (congrArg Value.bool q3)) rfl) <| ?_
   have hcall := c_exact_Of q12  (hS.pull 1)
   refine o_cc call_17 (args1 rfl) hcall ?_
   rintro e w' ⟨q1c, q0k, q0l, c_y0_ret_1_2_16, rfl, q0n, q6, hS⟩
   refine ⟨_, rfl, ?_⟩
   have e_ := q6.n; subst e_
   replace q2 := bd_s q2; obtain ⟨q17, q13, q2⟩ := q2
   refine o_strip 25 true (says_lit (c := true) (Eq.trans (show _ = Value.bool x24 from rfl) (congrArg Value.bool q3)) rfl) <| ?_
   have hcall := c_exact_Text q13 q6 hS
   refine o_cc call_26 (args1 rfl) (hcall) ?_
   rintro e w' ⟨rfl, hS⟩
   refine ⟨_, rfl, ?_⟩
   refine o_strip 25 true (says_lit (c := true) (Eq.trans (show _ = Value.bool x24 from rfl) (congrArg Value.bool q3)) rfl) <| p (yl_eql_string rfl rfl) <| p (yl_pick (b := true) (Eq.trans (show _ = Value.bool x24 from rfl) (congrArg Value.bool q3)) (fun h => rfl) (fun h => nomatch h)) <| p (yl_assign rfl) <|
    x_done <| ?_
   exact x_inv ⟨decide (q17 = (⟨#[45, 49, 50]⟩ : ByteArray)), (sinj q2), rfl, (ro_back0 q0n ((hS.pull 1).drop))⟩
  ·replace q2 := it_bf q3 q2
   refine o_pass 26 25 true (says_lit (c := false) (Eq.trans (show _ = Value.bool x24 from rfl) (congrArg Value.bool q3)) rfl) <| o_pass 27 25 true (says_lit (c := false) (Eq.trans (show _ = Value.bool x24 from rfl) (congrArg Value.bool q3)) rfl) <| o_pass 28 25 true (says_lit (c := false) (Eq.trans (show _ = Value.bool x24 from rfl) (congrArg Value.bool q3)) rfl) <| p (yl_pick (b := false) (Eq.trans (show _ = Value.bool x24 from rfl) (congrArg Value.bool q3)) (fun h => nomatch h) (fun h => rfl)) <|
    p (yl_assign rfl) <| x_done <| ?_
   exact x_inv ⟨false, (sinj q2), rfl, hS.drop⟩
 rintro E w ⟨q8, rfl, q0h, hS⟩
 have e_ := sinj hF; subst e_
 exact x_return ⟨_, ⟨_, _, rfl, q0h, rfl⟩, rfl, (ro_back0 (((q0f.trans q0g).trans q0a).trans q0x) hS)⟩
attribute [irreducible] P_maskkeep4_exacts

def P_maskkeep4_places : Option Bool :=
 bd (P_place_Solve 1 ([(T_place_Pull.mk 1 ([0] : List Int) ([(T_floor_Point.mk 6 4)] : List T_floor_Point))] : List T_place_Pull)) fun q2 =>
 bd (P_maskkeep4_exacts) fun q5 =>
 lv (q5 && (decide (q2.2 = 0))) fun x16 =>
 lv (x16 && (decide ((q2.1.length : Int) = 1))) fun x21 =>
 ck (x21 = true → inb 0 q2.1.length) <|
 lv (gt q2.1 (0 : Int)) fun q3 =>
 bd (gd (x21) (P_exact_Text q3.X.Num)) fun q4 =>
 lv (x21 && (decide (q4 = (⟨#[54]⟩ : ByteArray)))) fun x30 =>
 some x30
theorem c_maskkeep4_places {w0 w : World} {l : List Assn} {ρ : Heap} {r : Bool} (hF : P_maskkeep4_places = some r) (hS : St w0 w (ro ρ :: l)) :
  Calls Try.prog 9 #[] w fun e w' => e = .returned (.bool r) ∧ St w0 w' (ro ρ :: l) := by
 refine enterC Try.func9 rfl 31 rfl (by simp) ?_
 refine x_seq <| x_region <| p (yl_assign rfl) <| x_done <|
  x_seq <| x_region <| ?_
 refine o_buildSlice (vs := [.int .i64 0]) (cs := [.int .i64 0]) sl_22 zero_3 (parts_eq (pt (va := .int .i64 0) rfl pt0)) rfl (by intro v hv; simp only [List.mem_cons, List.not_mem_nil, or_false] at hv; first | (subst hv; rfl) | (rcases hv with rfl <;> rfl)) (by decide) rfl hS (fun b4 w' hS => ?_)
 refine p (v := .agg #[.int .i64 6, .int .i64 4]) (yl_build bld_38 bldf_38 (parts_eq (pt (va := .int .i64 6) rfl (pt (va := .int .i64 4) rfl pt0))) (by kernel_rfl)) <| ?_
 refine o_buildSlice (vs := [.agg #[.int .i64 6, .int .i64 4]]) (cs := [.int .i64 6, .int .i64 4]) sl_34 zero_38 (parts_eq (pt (va := .agg #[.int .i64 6, .int .i64 4]) rfl pt0)) rfl (by intro v hv; simp only [List.mem_cons, List.not_mem_nil, or_false] at hv; first | (subst hv; rfl) | (rcases hv with rfl <;> rfl)) (by decide) rfl hS (fun b6 w' hS => ?_)
 refine p (v := .agg #[.int .i64 1, .slice (some ⟨b4, 0, none⟩) 1 1, .slice (some ⟨b6, 0, none⟩) 1 1]) (yl_build bld_36 bldf_36 (parts_eq (pt (va := .int .i64 1) rfl (pt (va := .slice (some ⟨b4, 0, none⟩) 1 1) rfl (pt (va := .slice (some ⟨b6, 0, none⟩) 1 1) rfl pt0)))) (by kernel_rfl)) <| ?_
 have q0v : RepL (RpI .i64) ρ ([0] : List Int) [.int .i64 0] := (RepL.cons (cs := [.int .i64 0]) rfl RepL.nil)
 replace hS := St.vec_of (n := 1) (sz := (RpI .i64).sz) (hS.pull 1) rfl (by decide)
 have q_ := St.vec_fz ((hS.pull 2).pull 1) q0v; obtain ⟨q0k, q0c, q0l, hS⟩ := q_
 have q0m : RepL R_floor_Point q0k ([(T_floor_Point.mk 6 4)] : List T_floor_Point) [.int .i64 6, .int .i64 4] := (RepL.cons (cs := [.int .i64 6, .int .i64 4]) rfl RepL.nil)
 replace hS := St.vec_of (n := 1) (sz := R_floor_Point.sz) (hS.pull 1) rfl (by decide)
 have q_ := St.vec_fz ((hS.pull 1).pull 1) q0m; obtain ⟨q0n, q6, q0o, hS⟩ := q_
 refine o_buildSlice (vs := [.agg #[.int .i64 1, .slice (some ⟨b4, 0, none⟩) 1 1, .slice (some ⟨b6, 0, none⟩) 1 1]]) (cs := [.int .i64 1, .slice (some ⟨b4, 0, none⟩) 1 1, .slice (some ⟨b6, 0, none⟩) 1 1]) sl_27 zero_36 (parts_eq (pt (va := .agg #[.int .i64 1, .slice (some ⟨b4, 0, none⟩) 1 1, .slice (some ⟨b6, 0, none⟩) 1 1]) rfl pt0)) rfl (by intro v hv; simp only [List.mem_cons, List.not_mem_nil, or_false] at hv; first | (subst hv; rfl) | (rcases hv with rfl <;> rfl)) (by decide) rfl hS (fun b8 w' hS => ?_)
 have q0w : RepL R_place_Pull q0n ([(T_place_Pull.mk 1 ([0] : List Int) ([(T_floor_Point.mk 6 4)] : List T_floor_Point))] : List T_place_Pull) [.int .i64 1, .slice (some ⟨b4, 0, none⟩) 1 1, .slice (some ⟨b6, 0, none⟩) 1 1] := (RepL.cons (cs := [.int .i64 1, .slice (some ⟨b4, 0, none⟩) 1 1, .slice (some ⟨b6, 0, none⟩) 1 1]) ⟨_, _, _, _, _, _, rfl, (q0l.le q6), q0o⟩ RepL.nil)
 replace hS := St.vec_of (n := 1) (sz := R_place_Pull.sz) hS rfl (by decide)
 have q_ := St.vec_fz ((hS.pull 1).pull 1) q0w; obtain ⟨q19, q0d, q0p, hS⟩ := q_
 replace hF := bd_s hF; obtain ⟨q4, q0x, hF⟩ := hF
 have hcall := c_place_Solve q0x q0p hS
 refine o_cc call_8 (args2 rfl rfl) hcall ?_
 rintro e w' ⟨q1a, q2, q0q, c_y0_ret_1_5, q0j, rfl, q0r, q3, hS⟩
 refine ⟨_, rfl, ?_⟩
 have e_ := St.vec_n hS q3; subst e_
 replace hF := bd_s hF; obtain ⟨q0e, q0y, hF⟩ := hF
 refine p (yl_move rfl) <| p (yl_extract rfl rfl) <| p (yl_extract rfl rfl) <| p (yl_assign rfl) <|
  p (yl_assign rfl) <| x_done <| x_seq <| x_region <| ?_
 have hcall := c_maskkeep4_exacts q0y  (hS.pull 1)
 refine o_cc call_25 args0 ((Calls.mono hcall (fun e w'' h => And.intro h.1 (h.2.pull 1)))) ?_
 rintro e w' ⟨rfl, hS⟩
 refine ⟨_, rfl, ?_⟩
 replace hF := lv_s hF; obtain ⟨x16, hx16, hF⟩ := hF
 replace hF := lv_s hF; obtain ⟨x21, hx21, hF⟩ := hF
 replace hF := ck_s hF; obtain ⟨q0a, hF⟩ := hF
 replace hF := lv_s hF; obtain ⟨q5, q0s, hF⟩ := hF
 have q_ := RepL.getD R_place_Spot_d q3 (0 : Int); obtain ⟨q1b, q0b, q0t⟩ := q_
 rw [← q0s] at q0b
 obtain ⟨q7, q0z, q8, q10, q11, q12, q13, q14, q15, q16, q17, q18, rfl, q9, q0g, q0h, q0i⟩ := q0b
 have e_ := q9.n; subst e_
 have e_ := q0g.n; subst e_
 have e_ := q0h.n; subst e_
 have e_ := q0i.n; subst e_
 replace hF := bd_s hF; obtain ⟨q0f, q0u, hF⟩ := hF
 refine p (v := .bool q0e) (yl_move rfl) <| pg (v := .int .i64 q4.2) 13 (c := q0e) (says_t _) (fun hq => Yl.at (yl_move rfl)) <| pg (v := .bool (decide (q4.2 = 0))) 13 (c := q0e) (says_t _) (fun hq => Yl.at (yl_eql (cv hq) rfl)) <| p (yand' rfl (fun hc => (cv hc)) rfl hx16) <|
  p (yl_move rfl) <| pg (v := .slice q2 q4.1.length c_y0_ret_1_5) 17 (c := x16) (says_t _) (fun hq => Yl.at (yl_move rfl)) <| pg (v := .int .i64 (q4.1.length : Int)) 17 (c := x16) (says_t _) (fun hq => Yl.at (yl_len_slice usl_29 (cv hq))) <| pg (v := .bool (decide ((q4.1.length : Int) = 1))) 17 (c := x16) (says_t _) (fun hq => Yl.at (yl_eql (cv hq) rfl)) <|
  p (yand' rfl (fun hc => (cv hc)) rfl hx21) <| p (yl_move rfl) <| pg (v := .slice q2 q4.1.length c_y0_ret_1_5) 22 (c := x21) (says_t _) (fun hq => Yl.at (yl_move rfl)) <| pg (v := .pointer (some ((adr q2).add ((0 : Int).toNat * R_place_Spot.sz)))) 22 (c := x21) (says_t _) (fun hq => Yl.at (yix_o sl_29 (cv hq) rfl hS q3 (q0a hq))) <|
  pg (v := .pointer (some (((adr q2).add ((0 : Int).toNat * R_place_Spot.sz)).add 0))) 22 (c := x21) (says_t _) (fun hq => Yl.at (yl_fieldAddr fld_45_0 (cv hq))) <| pg (v := .pointer (some (((adr q2).add ((0 : Int).toNat * R_place_Spot.sz)).add 0))) 22 (c := x21) (says_t _) (fun hq => Yl.at (yl_fieldE fld_43_0 (cv hq))) <| pg (v := .agg #[.bool q5.X.Num.fneg, .slice q7 q5.X.Num.fmag.length q8]) 22 (c := x21) (says_t _) (fun hq => at_loadAgg (cs := [.bool q5.X.Num.fneg, .slice q7 q5.X.Num.fmag.length q8]) agg_41 (cv hq) rfl (sub_every (m := 2) (EltV.every (q0t (q0a hq)) hS) rfl)) <|
  pccg (v := .string q0f) 22 (c := x21) (says_t _) call_26 (fun hq => (args1 (cv hq))) hS (fun hq => by
   have hcall := c_exact_Text (gd_t q0u hq) q9 (hS.pull 1)
   exact (Calls.mono hcall (fun e w'' h => And.intro h.1 (h.2.pull 1)))) (fun w' hS => ?_)
 replace hF := lv_s hF; obtain ⟨x30, hx30, hF⟩ := hF
 refine pg (v := .bool (decide (q0f = (⟨#[54]⟩ : ByteArray)))) 22 (c := x21) (says_t _) (fun hq => Yl.at (yl_eql_string (cv hq) rfl)) <| p (yand' rfl (fun hc => (cv hc)) rfl hx30) <| p (yl_assign rfl) <| x_done <| ?_
 have e_ := sinj hF; subst e_
 exact x_return ⟨_, ⟨_, _, rfl, rfl, rfl⟩, rfl, (ro_back0 (((q0c.trans q6).trans q0d).trans q0r) hS.drop)⟩
attribute [irreducible] P_maskkeep4_places

def P_exact_Cmp (a0 : T_exact_Int) (b1 : T_exact_Int) : Option Int :=
 bd (P_exact_Sign a0) fun q2 =>
 bd (P_exact_Sign b1) fun q3 =>
 if q2 ≠ q3 then
  bd (P_exact_Sign a0) fun q4 =>
  bd (P_exact_Sign b1) fun q5 =>
  ar (q4 - q5) fun x15 =>
  bd (P_exact_sign x15) fun q6 =>
  some q6
 else
  if a0.fneg = true then
   bd (P_exact_cmpMag b1.fmag a0.fmag) fun q7 =>
   some q7
  else
   bd (P_exact_cmpMag a0.fmag b1.fmag) fun q8 =>
   some q8
theorem c_exact_Cmp {w0 w : World} {l : List Assn} {ρ : Heap} {q2 : Option Addr} {q6 : Nat} {c_a0_1 : Nat} {q3 : Option Addr} {q7 : Nat} {c_b1_1 : Nat} {a0 : T_exact_Int} {b1 : T_exact_Int} {r : Int} (hF : P_exact_Cmp a0 b1 = some r) (q4 : RdS (RpI .u32) ρ q2 q6 c_a0_1 a0.fmag) (q5 : RdS (RpI .u32) ρ q3 q7 c_b1_1 b1.fmag) (hS : St w0 w (ro ρ :: l)) :
  Calls Try.prog 28 #[.agg #[.bool a0.fneg, .slice q2 q6 c_a0_1], .agg #[.bool b1.fneg, .slice q3 q7 c_b1_1]] w fun e w' => e = .returned (.int .i64 r) ∧ St w0 w' (ro ρ :: l) := by
 have e_ := q4.n; subst e_
 have e_ := q5.n; subst e_
 refine enterC Try.func28 rfl 30 rfl (by simp) ?_
 refine x_seq <| x_region <| ?_
 refine o_box (cs := [.bool a0.fneg, .slice q2 a0.fmag.length c_a0_1]) rfl rfl hS (fun b2 w' hS => ?_)
 refine o_box (cs := [.bool b1.fneg, .slice q3 b1.fmag.length c_b1_1]) rfl rfl hS (fun b3 w' hS => ?_)
 replace hF := bd_s hF; obtain ⟨q8, q0b, hF⟩ := hF
 replace hF := bd_s hF; obtain ⟨q9, q0c, hF⟩ := hF
 refine p (yl_assign rfl) <| x_done <| x_seq <| x_block <|
  x_seq <| x_still mixed (by kernel_rfl) hS <| qa (v := .agg #[.bool a0.fneg, .slice q2 a0.fmag.length c_a0_1]) (fun w' hS => ld_sub agg_41 rfl rfl rfl (hS.pull 1)) <| qcc (v := .int .i64 q8) call_19 (args1 rfl) (fun w' hS => by
   have hcall := c_exact_Sign q0b q4 (hS.pull 2)
   exact (Calls.mono hcall (fun e w'' h => And.intro h.1 ((h.2.pull 2).pull 2)))) <|
  qa (v := .agg #[.bool b1.fneg, .slice q3 b1.fmag.length c_b1_1]) (fun w' hS => ld_sub agg_41 rfl rfl rfl hS) <| qcc (v := .int .i64 q9) call_19 (args1 rfl) (fun w' hS => by
   have hcall := c_exact_Sign q0c q5 (hS.pull 2)
   exact (Calls.mono hcall (fun e w'' h => And.intro h.1 ((h.2.pull 2).pull 2)))) <| q (yl_neq rfl rfl) <| q (yl_assign rfl) <|
  q_done fun w' hS => ?_
 refine x_cond_p (q8 ≠ q9) rfl (fun hc5 => ?_) (fun hc5 => ?_)
 ·replace hF := it_t hc5 hF
  replace hF := bd_s hF; obtain ⟨q0i, q0d, hF⟩ := hF
  replace hF := bd_s hF; obtain ⟨q0j, q0e, hF⟩ := hF
  replace hF := ar_s hF; obtain ⟨x15, hx15, hF⟩ := hF
  replace hF := bd_s hF; obtain ⟨q0a, q0f, hF⟩ := hF
  refine x_seq <| x_still mixed (by kernel_rfl) hS <| qa (v := .agg #[.bool a0.fneg, .slice q2 a0.fmag.length c_a0_1]) (fun w' hS => ld_sub agg_41 rfl rfl rfl (hS.pull 1)) <| qcc (v := .int .i64 q0i) call_19 (args1 rfl) (fun w' hS => by
    have hcall := c_exact_Sign q0d q4 (hS.pull 2)
    exact (Calls.mono hcall (fun e w'' h => And.intro h.1 ((h.2.pull 2).pull 2)))) <|
   qa (v := .agg #[.bool b1.fneg, .slice q3 b1.fmag.length c_b1_1]) (fun w' hS => ld_sub agg_41 rfl rfl rfl hS) <| qcc (v := .int .i64 q0j) call_19 (args1 rfl) (fun w' hS => by
    have hcall := c_exact_Sign q0e q5 (hS.pull 2)
    exact (Calls.mono hcall (fun e w'' h => And.intro h.1 ((h.2.pull 2).pull 2)))) <| q (ysub rfl rfl hx15) <| qcc (v := .int .i64 q0a) call_47 (args1 rfl) (fun w' hS => by
    have hcall := c_exact_sign q0f  (hS.pull 2)
    exact (Calls.mono hcall (fun e w'' h => And.intro h.1 ((h.2.pull 2).pull 2)))) <|
   q (v := .int .i64 q0a) (yl_assign rfl) <|
   q_done fun w' hS => ?_
  have e_ := sinj hF; subst e_
  exact x_return ⟨_, ⟨_, _, rfl, rfl, rfl⟩, rfl, hS.drop.drop⟩
 ·replace hF := it_f hc5 hF
  refine x_seq <| x_region <| p (yl_field0 fld_41_0 rfl) <| pa (at_load one_4 rfl ((hS.pull 1).cell rfl)) <|
   p (yl_assign rfl) <| x_done <|
   x_cond (t := a0.fneg) rfl (fun hc17 => ?_) (fun hc17 => ?_)
  ·replace hF := it_t hc17 hF
   replace hF := bd_s hF; obtain ⟨q0k, q0g, hF⟩ := hF
   refine x_seq <| x_region <| p (yl_field0 fld_41_1 rfl) <| pa (at_load one_39 rfl (hS.cell rfl)) <|
    p (yl_field0 fld_41_1 rfl) <| pa (at_load one_39 rfl ((hS.pull 1).cell rfl)) <| ?_
   have hcall := c_exact_cmpMag q0g q5 q4 (hS.pull 2)
   refine o_cc call_48 (args2 rfl rfl) ((Calls.mono hcall (fun e w'' h => And.intro h.1 ((h.2.pull 2).pull 2)))) ?_
   rintro e w' ⟨rfl, hS⟩
   refine ⟨_, rfl, ?_⟩
   refine p (v := .int .i64 q0k) (yl_assign rfl) <| x_done <| ?_
   have e_ := sinj hF; subst e_
   exact x_return ⟨_, ⟨_, _, rfl, rfl, rfl⟩, rfl, hS.drop.drop⟩
  ·replace hF := it_bf hc17 hF
   replace hF := bd_s hF; obtain ⟨q0l, q0h, hF⟩ := hF
   refine x_skip <| x_blk <| x_seq <| x_region <|
    p (yl_field0 fld_41_1 rfl) <| pa (at_load one_39 rfl ((hS.pull 1).cell rfl)) <| p (yl_field0 fld_41_1 rfl) <| pa (at_load one_39 rfl (hS.cell rfl)) <| ?_
   have hcall := c_exact_cmpMag q0h q4 q5 (hS.pull 2)
   refine o_cc call_48 (args2 rfl rfl) ((Calls.mono hcall (fun e w'' h => And.intro h.1 ((h.2.pull 2).pull 2)))) ?_
   rintro e w' ⟨rfl, hS⟩
   refine ⟨_, rfl, ?_⟩
   refine p (v := .int .i64 q0l) (yl_assign rfl) <| x_done <| ?_
   have e_ := sinj hF; subst e_
   exact x_return ⟨_, ⟨_, _, rfl, rfl, rfl⟩, rfl, hS.drop.drop⟩
attribute [irreducible] P_exact_Cmp

def P_exact_Check (x0 : T_exact_Ratio) : Option Int :=
 bd (P_exact_Bits (T_exact_Int.mk x0.Num.fneg x0.Num.fmag)) fun q2 =>
 bd (gd (!(decide (65536 < q2))) (P_exact_Bits (T_exact_Int.mk x0.Den.fneg x0.Den.fmag))) fun q3 =>
 lv ((decide (65536 < q2)) || (decide (65536 < q3))) fun x13 =>
 if x13 = true then
  some (3 : Int)
 else
  bd (P_exact_Sign (T_exact_Int.mk x0.Den.fneg x0.Den.fmag)) fun q4 =>
  if q4 < 1 then
   some (2 : Int)
  else
   bd (P_exact_Gcd (T_exact_Int.mk x0.Num.fneg x0.Num.fmag) (T_exact_Int.mk x0.Den.fneg x0.Den.fmag)) fun q5 =>
   bd (P_exact_Of 1) fun q6 =>
   bd (P_exact_Cmp q5 q6) fun q7 =>
   if q7 ≠ 0 then
    some (4 : Int)
   else
    some (0 : Int)
theorem c_exact_Check {w0 w : World} {l : List Assn} {ρ : Heap} {q5 : Option Addr} {q0a : Nat} {c_x0_1 : Nat} {q2 : Option Addr} {q0b : Nat} {c_x0_3 : Nat} {x0 : T_exact_Ratio} {r : Int} (hF : P_exact_Check x0 = some r) (q7 : RdS (RpI .u32) ρ q5 q0a c_x0_1 x0.Num.fmag) (q6 : RdS (RpI .u32) ρ q2 q0b c_x0_3 x0.Den.fmag) (hS : St w0 w (ro ρ :: l)) :
  Calls Try.prog 31 #[.agg #[.bool x0.Num.fneg, .slice q5 q0a c_x0_1, .bool x0.Den.fneg, .slice q2 q0b c_x0_3]] w fun e w' => e = .returned (.int .i64 r) ∧ St w0 w' (ro ρ :: l) := by
 have e_ := q7.n; subst e_
 have e_ := q6.n; subst e_
 refine enterC Try.func31 rfl 28 rfl (by simp) ?_
 refine x_seq <| x_region <| ?_
 refine o_box (cs := [.bool x0.Num.fneg, .slice q5 x0.Num.fmag.length c_x0_1, .bool x0.Den.fneg, .slice q2 x0.Den.fmag.length c_x0_3]) rfl rfl hS (fun b1 w' hS => ?_)
 replace hF := bd_s hF; obtain ⟨q9, q0i, hF⟩ := hF
 refine p (yl_assign rfl) <| x_done <| x_seq <| x_block <|
  x_seq <| x_region <| p (yl_field0 fld_43_0 rfl) <| pa (v := .agg #[.bool x0.Num.fneg, .slice q5 x0.Num.fmag.length c_x0_1]) (ld_sub agg_41 rfl rfl rfl hS) <| ?_
 have hcall := c_exact_Bits q0i q7 (hS.pull 1)
 refine o_cc call_49 (args1 rfl) ((Calls.mono hcall (fun e w'' h => And.intro h.1 (h.2.pull 1)))) ?_
 rintro e w' ⟨rfl, hS⟩
 refine ⟨_, rfl, ?_⟩
 replace hF := bd_s hF; obtain ⟨q0h, q0j, hF⟩ := hF
 refine p (yl_gtr rfl rfl) <| p (yl_move rfl) <| pg (v := .pointer (some ⟨b1, 2, none⟩)) 8 (c := !(decide (65536 < q9))) (says_f _) (fun hq => Yl.at (yl_field0 fld_43_1 rfl)) <| pg (v := .agg #[.bool x0.Den.fneg, .slice q2 x0.Den.fmag.length c_x0_3]) 8 (c := !(decide (65536 < q9))) (says_f _) (fun hq => ld_sub agg_41 (cv hq) rfl rfl hS) <|
  pccg (v := .int .i64 q0h) 8 (c := !(decide (65536 < q9))) (says_f _) call_49 (fun hq => (args1 (cv hq))) hS (fun hq => by
   have hcall := c_exact_Bits (gd_t q0j hq) q6 (hS.pull 1)
   exact (Calls.mono hcall (fun e w'' h => And.intro h.1 (h.2.pull 1)))) (fun w' hS => ?_)
 replace hF := lv_s hF; obtain ⟨x13, hx13, hF⟩ := hF
 refine pg (v := .bool (decide (65536 < q0h))) 8 (c := !(decide (65536 < q9))) (says_f _) (fun hq => Yl.at (yl_gtr (cv hq) rfl)) <| p (yor' rfl rfl (fun hc => (cv (t_not hc))) hx13) <| p (yl_assign rfl) <| x_done <|
  x_cond (t := x13) rfl (fun hc3 => ?_) (fun hc3 => ?_)
 ·replace hF := it_t hc3 hF
  refine x_seq <| x_region <| p (yl_assign rfl) <| x_done <| ?_
  have e_ := sinj hF; subst e_
  exact x_return ⟨_, ⟨_, _, rfl, rfl, rfl⟩, rfl, hS.drop⟩
 ·replace hF := it_bf hc3 hF
  replace hF := bd_s hF; obtain ⟨q0o, q0k, hF⟩ := hF
  refine x_seq <| x_region <| p (yl_field0 fld_43_1 rfl) <| pa (v := .agg #[.bool x0.Den.fneg, .slice q2 x0.Den.fmag.length c_x0_3]) (ld_sub agg_41 rfl rfl rfl hS) <| ?_
  have hcall := c_exact_Sign q0k q6 (hS.pull 1)
  refine o_cc call_19 (args1 rfl) ((Calls.mono hcall (fun e w'' h => And.intro h.1 (h.2.pull 1)))) ?_
  rintro e w' ⟨rfl, hS⟩
  refine ⟨_, rfl, ?_⟩
  refine p (yl_lss rfl rfl) <| p (yl_assign rfl) <| x_done <|
   x_cond_p (q0o < 1) rfl (fun hc14 => ?_) (fun hc14 => ?_)
  ·replace hF := it_t hc14 hF
   refine x_seq <| x_region <| p (yl_assign rfl) <| x_done <| ?_
   have e_ := sinj hF; subst e_
   exact x_return ⟨_, ⟨_, _, rfl, rfl, rfl⟩, rfl, hS.drop⟩
  ·replace hF := it_f hc14 hF
   replace hF := bd_s hF; obtain ⟨q0s, q0l, hF⟩ := hF
   refine x_seq <| x_region <| p (yl_field0 fld_43_0 rfl) <| pa (v := .agg #[.bool x0.Num.fneg, .slice q5 x0.Num.fmag.length c_x0_1]) (ld_sub agg_41 rfl rfl rfl hS) <|
    p (yl_field0 fld_43_1 rfl) <| pa (v := .agg #[.bool x0.Den.fneg, .slice q2 x0.Den.fmag.length c_x0_3]) (ld_sub agg_41 rfl rfl rfl hS) <| ?_
   have hcall := c_exact_Gcd q0l q7 q6 (hS.pull 1)
   refine o_cc call_50 (args2 rfl rfl) hcall ?_
   rintro e w' ⟨q0q, q0d, q0e, c_y0_ret_1_5_4, rfl, q0c, q3, hS⟩
   refine ⟨_, rfl, ?_⟩
   have e_ := q3.n; subst e_
   replace hF := bd_s hF; obtain ⟨q0t, q0m, hF⟩ := hF
   have hcall := c_exact_Of q0m  hS
   refine o_cc call_17 (args1 rfl) hcall ?_
   rintro e w' ⟨q0r, q0f, q0g, c_y0_ret_1_5_5, rfl, q8, q4, hS⟩
   refine ⟨_, rfl, ?_⟩
   have e_ := q4.n; subst e_
   replace hF := bd_s hF; obtain ⟨q0p, q0n, hF⟩ := hF
   have hcall := c_exact_Cmp q0n (q3.le q8) q4 hS
   refine o_cc call_28 (args2 rfl rfl) (hcall) ?_
   rintro e w' ⟨rfl, hS⟩
   refine ⟨_, rfl, ?_⟩
   refine p (yl_neq rfl rfl) <| p (yl_assign rfl) <| x_done <|
    x_cond_p (q0p ≠ 0) rfl (fun hc19 => ?_) (fun hc19 => ?_)
   ·replace hF := it_t hc19 hF
    refine x_seq <| x_region <| p (yl_assign rfl) <| x_done <| ?_
    have e_ := sinj hF; subst e_
    exact x_return ⟨_, ⟨_, _, rfl, rfl, rfl⟩, rfl, (ro_back0 (q0c.trans q8) ((hS.pull 1).drop))⟩
   ·replace hF := it_f hc19 hF
    refine x_skip <| x_blk <| x_seq <| x_region <|
     p (yl_assign rfl) <| x_done <| ?_
    have e_ := sinj hF; subst e_
    exact x_return ⟨_, ⟨_, _, rfl, rfl, rfl⟩, rfl, (ro_back0 (q0c.trans q8) ((hS.pull 1).drop))⟩
attribute [irreducible] P_exact_Check

def P_exact_Whole (n0 : Int) : Option T_exact_Ratio :=
 bd (P_exact_Of n0) fun q2 =>
 bd (P_exact_Of 1) fun q3 =>
 some (T_exact_Ratio.mk (T_exact_Int.mk q2.fneg q2.fmag) (T_exact_Int.mk q3.fneg q3.fmag))
theorem c_exact_Whole {w0 w : World} {l : List Assn} {ρ : Heap} {n0 : Int} {r : T_exact_Ratio} (hF : P_exact_Whole n0 = some r) (hS : St w0 w (ro ρ :: l)) :
  Calls Try.prog 11 #[.int .i64 n0] w fun e w' => ∃ (ρ' : Heap) (q8 : Option Addr) (q9 : Nat) (c_y0_ret_1 : Nat) (q0a : Option Addr) (q0b : Nat) (c_y0_ret_3 : Nat), e = .returned (.agg #[.bool r.Num.fneg, .slice q8 q9 c_y0_ret_1, .bool r.Den.fneg, .slice q0a q0b c_y0_ret_3]) ∧ Le ρ ρ' ∧ RdS (RpI .u32) ρ' q8 q9 c_y0_ret_1 r.Num.fmag ∧ RdS (RpI .u32) ρ' q0a q0b c_y0_ret_3 r.Den.fmag ∧ St w0 w' (ro ρ' :: l) := by
 refine enterC Try.func11 rfl 7 rfl (by simp) ?_
 refine x_seq <| x_region <| ?_
 refine o_alloc zero_43 hS (fun b2 w' hS => ?_)
 replace hF := bd_s hF; obtain ⟨q6, q0h, hF⟩ := hF
 refine x_done <| x_seq <| x_region <| p (yl_move rfl) <| ?_
 have hcall := c_exact_Of q0h  (hS.pull 1)
 refine o_cc call_17 (args1 rfl) hcall ?_
 rintro e w' ⟨q0j, q2, q0d, c_y0_ret_1_1_1, rfl, q0f, q4, hS⟩
 refine ⟨_, rfl, ?_⟩
 have e_ := q4.n; subst e_
 replace hF := bd_s hF; obtain ⟨q7, q0i, hF⟩ := hF
 have hcall := c_exact_Of q0i  hS
 refine o_cc call_17 (args1 rfl) hcall ?_
 rintro e w' ⟨q0g, q3, q0e, c_y0_ret_1_1_2, rfl, q0c, q5, hS⟩
 refine ⟨_, rfl, ?_⟩
 have e_ := q5.n; subst e_
 refine p (v := .agg #[.bool q6.fneg, .slice q2 q6.fmag.length c_y0_ret_1_1_1, .bool q7.fneg, .slice q3 q7.fmag.length c_y0_ret_1_1_2]) (yl_build bld_43 bldf_43 (parts_eq (pt (va := .agg #[.bool q6.fneg, .slice q2 q6.fmag.length c_y0_ret_1_1_1]) rfl (pt (va := .agg #[.bool q7.fneg, .slice q3 q7.fmag.length c_y0_ret_1_1_2]) rfl pt0))) (by kernel_rfl)) <| ?_
 refine o_storeAgg (news := [.bool q6.fneg, .slice q2 q6.fmag.length c_y0_ret_1_1_1, .bool q7.fneg, .slice q3 q7.fmag.length c_y0_ret_1_1_2]) agg_43 rfl rfl rfl (by simp [over_length]) (hS.pull 1) (fun w' hS => ?_)
 refine x_done <| ?_
 have e_ := sinj hF; subst e_
 exact x_return ⟨_, ⟨_, _, _, rfl, rfl, ldvA agg_43 rfl (fun j v hj => by rw [add0]; exact St.cell hS hj), rfl⟩, q0g, q2, q6.fmag.length, c_y0_ret_1_1_1, q3, q7.fmag.length, c_y0_ret_1_1_2, rfl, (q0f.trans q0c), (q4.le q0c), q5, hS.drop⟩
attribute [irreducible] P_exact_Whole

def P_exact_both (a0 : T_exact_Ratio) (b1 : T_exact_Ratio) : Option Int :=
 bd (P_exact_Check a0) fun q2 =>
 if q2 ≠ 0 then
  some q2
 else
  bd (P_exact_Check b1) fun q3 =>
  some q3
theorem c_exact_both {w0 w : World} {l : List Assn} {ρ : Heap} {q2 : Option Addr} {q7 : Nat} {c_a0_1 : Nat} {q3 : Option Addr} {q8 : Nat} {c_a0_3 : Nat} {q4 : Option Addr} {q9 : Nat} {c_b1_1 : Nat} {q5 : Option Addr} {q0a : Nat} {c_b1_3 : Nat} {a0 : T_exact_Ratio} {b1 : T_exact_Ratio} {r : Int} (hF : P_exact_both a0 b1 = some r) (q0b : RdS (RpI .u32) ρ q2 q7 c_a0_1 a0.Num.fmag) (q0c : RdS (RpI .u32) ρ q3 q8 c_a0_3 a0.Den.fmag) (q0d : RdS (RpI .u32) ρ q4 q9 c_b1_1 b1.Num.fmag) (q0e : RdS (RpI .u32) ρ q5 q0a c_b1_3 b1.Den.fmag) (hS : St w0 w (ro ρ :: l)) :
  Calls Try.prog 27 #[.agg #[.bool a0.Num.fneg, .slice q2 q7 c_a0_1, .bool a0.Den.fneg, .slice q3 q8 c_a0_3], .agg #[.bool b1.Num.fneg, .slice q4 q9 c_b1_1, .bool b1.Den.fneg, .slice q5 q0a c_b1_3]] w fun e w' => e = .returned (.int .i64 r) ∧ St w0 w' (ro ρ :: l) := by
 have e_ := q0b.n; subst e_
 have e_ := q0c.n; subst e_
 have e_ := q0d.n; subst e_
 have e_ := q0e.n; subst e_
 refine enterC Try.func27 rfl 13 rfl (by simp) ?_
 refine x_seq <| x_region <| ?_
 refine o_box (cs := [.bool a0.Num.fneg, .slice q2 a0.Num.fmag.length c_a0_1, .bool a0.Den.fneg, .slice q3 a0.Den.fmag.length c_a0_3]) rfl rfl hS (fun b2 w' hS => ?_)
 refine o_box (cs := [.bool b1.Num.fneg, .slice q4 b1.Num.fmag.length c_b1_1, .bool b1.Den.fneg, .slice q5 b1.Den.fmag.length c_b1_3]) rfl rfl hS (fun b3 w' hS => ?_)
 replace hF := bd_s hF; obtain ⟨q6, q0f, hF⟩ := hF
 refine p (yl_assign rfl) <| x_done <| x_seq <| x_seq <|
  x_region <| pa (v := .agg #[.bool a0.Num.fneg, .slice q2 a0.Num.fmag.length c_a0_1, .bool a0.Den.fneg, .slice q3 a0.Den.fmag.length c_a0_3]) (ld_sub agg_43 rfl rfl rfl (hS.pull 1)) <| ?_
 have hcall := c_exact_Check q0f q0b q0c (hS.pull 2)
 refine o_cc call_31 (args1 rfl) ((Calls.mono hcall (fun e w'' h => And.intro h.1 ((h.2.pull 2).pull 2)))) ?_
 rintro e w' ⟨rfl, hS⟩
 refine ⟨_, rfl, ?_⟩
 refine p (v := .int .i64 q6) (yl_assign rfl) <| x_done <| x_seq <| x_region <|
  p (v := .int .i64 q6) (yl_move rfl) <| p (yl_neq rfl rfl) <| x_done <|
  x_cond_p (q6 ≠ 0) rfl (fun hc9 => ?_) (fun hc9 => ?_)
 ·replace hF := it_t hc9 hF
  refine x_seq <| x_region <| p (v := .int .i64 q6) (yl_move rfl) <| p (v := .int .i64 q6) (yl_assign rfl) <|
   x_done <| ?_
  have e_ := sinj hF; subst e_
  exact x_return ⟨_, ⟨_, _, rfl, rfl, rfl⟩, rfl, hS.drop.drop⟩
 ·replace hF := it_f hc9 hF
  replace hF := bd_s hF; obtain ⟨q0h, q0g, hF⟩ := hF
  refine x_skip <| x_seq <| x_region <| pa (v := .agg #[.bool b1.Num.fneg, .slice q4 b1.Num.fmag.length c_b1_1, .bool b1.Den.fneg, .slice q5 b1.Den.fmag.length c_b1_3]) (ld_sub agg_43 rfl rfl rfl hS) <| ?_
  have hcall := c_exact_Check q0g q0d q0e (hS.pull 2)
  refine o_cc call_31 (args1 rfl) ((Calls.mono hcall (fun e w'' h => And.intro h.1 ((h.2.pull 2).pull 2)))) ?_
  rintro e w' ⟨rfl, hS⟩
  refine ⟨_, rfl, ?_⟩
  refine p (v := .int .i64 q0h) (yl_assign rfl) <| x_done <| ?_
  have e_ := sinj hF; subst e_
  exact x_return ⟨_, ⟨_, _, rfl, rfl, rfl⟩, rfl, hS.drop.drop⟩
attribute [irreducible] P_exact_both

def P_exact_Prod (a0 : T_exact_Ratio) (b1 : T_exact_Ratio) : Option (T_exact_Ratio × Int) :=
 bd (P_exact_both a0 b1) fun q3 =>
 if q3 ≠ 0 then
  some ((T_exact_Ratio.mk (T_exact_Int.mk false []) (T_exact_Int.mk false [])), q3)
 else
  bd (P_exact_times (T_exact_Int.mk a0.Num.fneg a0.Num.fmag) (T_exact_Int.mk b1.Num.fneg b1.Num.fmag)) fun q4 =>
  bd (P_exact_times (T_exact_Int.mk a0.Den.fneg a0.Den.fmag) (T_exact_Int.mk b1.Den.fneg b1.Den.fmag)) fun q5 =>
  bd (P_exact_reduced q4 q5) fun q2 =>
  some (q2.1, q2.2)
theorem c_exact_Prod {w0 w : World} {l : List Assn} {ρ : Heap} {q8 : Option Addr} {q1g : Nat} {c_a0_1 : Nat} {q9 : Option Addr} {q1h : Nat} {c_a0_3 : Nat} {q0a : Option Addr} {q1i : Nat} {c_b1_1 : Nat} {q0b : Option Addr} {q1j : Nat} {c_b1_3 : Nat} {a0 : T_exact_Ratio} {b1 : T_exact_Ratio} {r : (T_exact_Ratio × Int)} (hF : P_exact_Prod a0 b1 = some r) (q16 : RdS (RpI .u32) ρ q8 q1g c_a0_1 a0.Num.fmag) (q17 : RdS (RpI .u32) ρ q9 q1h c_a0_3 a0.Den.fmag) (q18 : RdS (RpI .u32) ρ q0a q1i c_b1_1 b1.Num.fmag) (q19 : RdS (RpI .u32) ρ q0b q1j c_b1_3 b1.Den.fmag) (hS : St w0 w (ro ρ :: l)) :
  Calls Try.prog 33 #[.agg #[.bool a0.Num.fneg, .slice q8 q1g c_a0_1, .bool a0.Den.fneg, .slice q9 q1h c_a0_3], .agg #[.bool b1.Num.fneg, .slice q0a q1i c_b1_1, .bool b1.Den.fneg, .slice q0b q1j c_b1_3]] w fun e w' => ∃ (ρ' : Heap) (q0m : Option Addr) (q0n : Nat) (c_y0_ret_1 : Nat) (q0o : Option Addr) (q0p : Nat) (c_y0_ret_3 : Nat), e = .returned (.tuple #[.agg #[.bool r.1.Num.fneg, .slice q0m q0n c_y0_ret_1, .bool r.1.Den.fneg, .slice q0o q0p c_y0_ret_3], .int .i64 r.2]) ∧ Le ρ ρ' ∧ RdS (RpI .u32) ρ' q0m q0n c_y0_ret_1 r.1.Num.fmag ∧ RdS (RpI .u32) ρ' q0o q0p c_y0_ret_3 r.1.Den.fmag ∧ St w0 w' (ro ρ' :: l) := by
 have e_ := q16.n; subst e_
 have e_ := q17.n; subst e_
 have e_ := q18.n; subst e_
 have e_ := q19.n; subst e_
 refine enterC Try.func33 rfl 27 rfl (by simp) ?_
 refine x_seq <| x_region <| ?_
 refine o_box (cs := [.bool a0.Num.fneg, .slice q8 a0.Num.fmag.length c_a0_1, .bool a0.Den.fneg, .slice q9 a0.Den.fmag.length c_a0_3]) rfl rfl hS (fun b2 w' hS => ?_)
 refine o_box (cs := [.bool b1.Num.fneg, .slice q0a b1.Num.fmag.length c_b1_1, .bool b1.Den.fneg, .slice q0b b1.Den.fmag.length c_b1_3]) rfl rfl hS (fun b3 w' hS => ?_)
 refine o_alloc zero_43 hS (fun b4 w' hS => ?_)
 replace hF := bd_s hF; obtain ⟨q1a, q1t, hF⟩ := hF
 refine p (yl_assign rfl) <| x_done <| x_seq <| x_seq <|
  x_region <| pa (v := .agg #[.bool a0.Num.fneg, .slice q8 a0.Num.fmag.length c_a0_1, .bool a0.Den.fneg, .slice q9 a0.Den.fmag.length c_a0_3]) (ld_sub agg_43 rfl rfl rfl (hS.pull 2)) <| pa (v := .agg #[.bool b1.Num.fneg, .slice q0a b1.Num.fmag.length c_b1_1, .bool b1.Den.fneg, .slice q0b b1.Den.fmag.length c_b1_3]) (ld_sub agg_43 rfl rfl rfl (hS.pull 1)) <| ?_
 have hcall := c_exact_both q1t q16 q17 q18 q19 (hS.pull 3)
 refine o_cc call_27 (args2 rfl rfl) ((Calls.mono hcall (fun e w'' h => And.intro h.1 (((h.2.pull 3).pull 3).pull 3)))) ?_
 rintro e w' ⟨rfl, hS⟩
 refine ⟨_, rfl, ?_⟩
 refine p (v := .int .i64 q1a) (yl_assign rfl) <| x_done <| x_seq <| x_region <|
  p (v := .int .i64 q1a) (yl_move rfl) <| p (yl_neq rfl rfl) <| x_done <|
  x_cond_p (q1a ≠ 0) rfl (fun hc11 => ?_) (fun hc11 => ?_)
 ·replace hF := it_t hc11 hF
  refine x_seq <| x_region <| p (v := .agg #[.bool false, .slice none 0 0, .bool false, .slice none 0 0]) (yl_build bld_43 bldf_43 (parts_eq pt0) (by kernel_rfl)) <| p (v := .int .i64 q1a) (yl_move rfl) <| ?_
  refine o_storeAgg (news := [.bool false, .slice none 0 0, .bool false, .slice none 0 0]) agg_43 rfl rfl rfl (by simp [over_length]) hS (fun w' hS => ?_)
  refine p (v := .int .i64 q1a) (yl_assign rfl) <| x_done <| ?_
  have e_ := sinj hF; subst e_
  exact x_return ⟨_, ⟨_, _, _, rfl, rfl, ldvA agg_43 rfl (fun j v hj => by rw [add0]; exact St.cell hS hj), _, _, rfl, rfl, rfl⟩, ρ, none, 0, 0, none, 0, 0, rfl, (Le.refl _), (RdS.nil (A := none) (c := 0)), (RdS.nil (A := none) (c := 0)), hS.drop.drop.drop⟩
 ·replace hF := it_f hc11 hF
  refine x_skip <| x_seq <| ?_
  replace hF := bd_s hF; obtain ⟨q0c, q1u, hF⟩ := hF
  replace hF := bd_s hF; obtain ⟨q0d, q1v, hF⟩ := hF
  replace hF := bd_s hF; obtain ⟨q2, q1r, hF⟩ := hF
  refine x_par (w0 := w0) [⟨[], [], [14], [], [], []⟩, ⟨[0], [0], [15], [0], [], []⟩, ⟨[], [], [16], [], [], []⟩, ⟨[2], [2], [17], [1], [], []⟩, ⟨[0, 1, 2, 3], [1, 3], [18], [2], [], [3]⟩, ⟨[], [], [19], [], [], []⟩, ⟨[5], [5], [20], [0], [], []⟩, ⟨[], [], [21], [], [], []⟩, ⟨[7], [7], [22], [1], [], []⟩, ⟨[0, 1, 2, 3, 4, 5, 6, 7, 8], [6, 8], [23], [2], [], [4]⟩, ⟨[0, 1, 2, 3, 4, 5, 6, 7, 8, 9], [4, 9], [24], [2], [3, 4], [5]⟩, ⟨[0, 1, 2, 3, 4, 5, 6, 7, 8, 9, 10], [10], [24, 25], [], [], []⟩, ⟨[0, 1, 2, 3, 4, 5, 6, 7, 8, 9, 10], [10], [26], [], [], []⟩, ⟨[0, 1, 2, 3, 4, 5, 6, 7, 8, 9, 10, 11, 12], [10, 11], [], [], [6], [7]⟩, ⟨[0, 1, 2, 3, 4, 5, 6, 7, 8, 9, 10, 11, 12, 13], [12], [5], [], [], []⟩] [⟨none, none, []⟩, ⟨none, none, []⟩, ⟨none, none, []⟩, ⟨(some 4), (some 10), [18]⟩, ⟨(some 9), (some 10), [23]⟩, ⟨(some 10), none, [18, 23, 24]⟩, ⟨none, (some 13), []⟩, ⟨(some 13), none, [24]⟩] [5, 14, 15, 16, 17, 18, 19, 20, 21, 22, 23, 24, 25, 26] [0, 1, 2, 6] [0, 1, 2, 5, 7] [0, 1, 2, 3, 4, 5, 6, 7, 8, 9, 10, 11, 12, 14] [fun Ep4 => Ep4 14 = .pointer (some ⟨b2, 0, none⟩), fun Ep4 => Ep4 15 = .agg #[.bool a0.Num.fneg, .slice q8 a0.Num.fmag.length c_a0_1], fun Ep4 => Ep4 16 = .pointer (some ⟨b3, 0, none⟩), fun Ep4 => Ep4 17 = .agg #[.bool b1.Num.fneg, .slice q0a b1.Num.fmag.length c_b1_1], fun Ep4 => Ep4 18 = .agg #[.bool q0c.fneg, .slice (adOf (partOf 1 (Ep4 18))) q0c.fmag.length (capOf (partOf 1 (Ep4 18)))], fun Ep4 => Ep4 19 = .pointer (some ⟨b2, 2, none⟩), fun Ep4 => Ep4 20 = .agg #[.bool a0.Den.fneg, .slice q9 a0.Den.fmag.length c_a0_3], fun Ep4 => Ep4 21 = .pointer (some ⟨b3, 2, none⟩), fun Ep4 => Ep4 22 = .agg #[.bool b1.Den.fneg, .slice q0b b1.Den.fmag.length c_b1_3], fun Ep4 => Ep4 23 = .agg #[.bool q0d.fneg, .slice (adOf (partOf 1 (Ep4 23))) q0d.fmag.length (capOf (partOf 1 (Ep4 23)))], fun Ep4 => Ep4 24 = .tuple #[.agg #[.bool q2.1.Num.fneg, .slice (adOf (partOf 1 (partOf 0 (Ep4 24)))) q2.1.Num.fmag.length (capOf (partOf 1 (partOf 0 (Ep4 24)))), .bool q2.1.Den.fneg, .slice (adOf (partOf 3 (partOf 0 (Ep4 24)))) q2.1.Den.fmag.length (capOf (partOf 3 (partOf 0 (Ep4 24))))], .int .i64 q2.2], fun Ep4 => Ep4 25 = .agg #[.bool q2.1.Num.fneg, .slice (adOf (partOf 1 (partOf 0 (Ep4 24)))) q2.1.Num.fmag.length (capOf (partOf 1 (partOf 0 (Ep4 24)))), .bool q2.1.Den.fneg, .slice (adOf (partOf 3 (partOf 0 (Ep4 24)))) q2.1.Den.fmag.length (capOf (partOf 3 (partOf 0 (Ep4 24))))], fun Ep4 => Ep4 26 = .int .i64 q2.2, fun Ep4 => True, fun Ep4 => Ep4 5 = .int .i64 q2.2] [fun Ep4 => cells b2 43 [.bool a0.Num.fneg, .slice q8 a0.Num.fmag.length c_a0_1, .bool a0.Den.fneg, .slice q9 a0.Den.fmag.length c_a0_3], fun Ep4 => cells b3 43 [.bool b1.Num.fneg, .slice q0a b1.Num.fmag.length c_b1_1, .bool b1.Den.fneg, .slice q0b b1.Den.fmag.length c_b1_3], fun Ep4 => ro ρ, fun Ep4 => bunA (fun (q4 : Heap) => Le ρ q4 ∧ RdS (RpI .u32) q4 (adOf (partOf 1 (Ep4 18))) q0c.fmag.length (capOf (partOf 1 (Ep4 18))) q0c.fmag) (fun (q4 : Heap) => [roD ρ q4]), fun Ep4 => bunA (fun (q5 : Heap) => Le ρ q5 ∧ RdS (RpI .u32) q5 (adOf (partOf 1 (Ep4 23))) q0d.fmag.length (capOf (partOf 1 (Ep4 23))) q0d.fmag) (fun (q5 : Heap) => [roD ρ q5]), fun Ep4 => bunA (fun (q3 : Heap) => Le ρ q3 ∧ RdS (RpI .u32) q3 (adOf (partOf 1 (Ep4 18))) q0c.fmag.length (capOf (partOf 1 (Ep4 18))) q0c.fmag ∧ RdS (RpI .u32) q3 (adOf (partOf 1 (Ep4 23))) q0d.fmag.length (capOf (partOf 1 (Ep4 23))) q0d.fmag ∧ RdS (RpI .u32) q3 (adOf (partOf 1 (partOf 0 (Ep4 24)))) q2.1.Num.fmag.length (capOf (partOf 1 (partOf 0 (Ep4 24)))) q2.1.Num.fmag ∧ RdS (RpI .u32) q3 (adOf (partOf 3 (partOf 0 (Ep4 24)))) q2.1.Den.fmag.length (capOf (partOf 3 (partOf 0 (Ep4 24)))) q2.1.Den.fmag) (fun (q3 : Heap) => [roD ρ q3]), fun Ep4 => cells b4 43 [.bool false, .slice none 0 0, .bool false, .slice none 0 0], fun Ep4 => cells b4 43 [.bool q2.1.Num.fneg, .slice (adOf (partOf 1 (partOf 0 (Ep4 24)))) q2.1.Num.fmag.length (capOf (partOf 1 (partOf 0 (Ep4 24)))), .bool q2.1.Den.fneg, .slice (adOf (partOf 3 (partOf 0 (Ep4 24)))) q2.1.Den.fmag.length (capOf (partOf 3 (partOf 0 (Ep4 24))))]] mixed (by kernel_rfl) (((hS.pull 3).pull 2).pull 3) ?_ ?_
  ·refine ⟨?_, ?_, ?_, ?_, ?_, ?_, ?_, ?_, ?_, ?_, ?_, ?_, ?_, ?_, ?_, trivial⟩
   ·intro Ep4 w l' hE4 hO4 hF_ hS
    refine p (yl_field0 fld_43_0 (hE4 2 rfl)) <| x_done <| ?_
    refine x_fin ⟨⟨_, rfl⟩, rfl, ?_⟩
    exact emk hS
   ·intro Ep4 w l' hE4 hO4 hF_ hS
    obtain ⟨q0s, -⟩ := hF_
    replace q0s : Ep4 14 = .pointer (some ⟨b2, 0, none⟩) := emk q0s
    replace hS : St w0 w (cells b2 43 [.bool a0.Num.fneg, .slice q8 a0.Num.fmag.length c_a0_1, .bool a0.Den.fneg, .slice q9 a0.Den.fmag.length c_a0_3] :: l') := emk hS
    refine pa (v := .agg #[.bool a0.Num.fneg, .slice q8 a0.Num.fmag.length c_a0_1]) (ld_sub agg_41 q0s rfl rfl hS) <| x_done <| ?_
    refine x_fin ⟨⟨_, rfl⟩, rfl, ?_⟩
    exact emk hS
   ·intro Ep4 w l' hE4 hO4 hF_ hS
    refine p (yl_field0 fld_43_0 (hE4 3 rfl)) <| x_done <| ?_
    refine x_fin ⟨⟨_, rfl⟩, rfl, ?_⟩
    exact emk hS
   ·intro Ep4 w l' hE4 hO4 hF_ hS
    obtain ⟨q0t, -⟩ := hF_
    replace q0t : Ep4 16 = .pointer (some ⟨b3, 0, none⟩) := emk q0t
    replace hS : St w0 w (cells b3 43 [.bool b1.Num.fneg, .slice q0a b1.Num.fmag.length c_b1_1, .bool b1.Den.fneg, .slice q0b b1.Den.fmag.length c_b1_3] :: l') := emk hS
    refine pa (v := .agg #[.bool b1.Num.fneg, .slice q0a b1.Num.fmag.length c_b1_1]) (ld_sub agg_41 q0t rfl rfl hS) <| x_done <| ?_
    refine x_fin ⟨⟨_, rfl⟩, rfl, ?_⟩
    exact emk hS
   ·intro Ep4 w l' hE4 hO4 hF_ hS
    obtain ⟨q0u, q0v, -⟩ := hF_
    replace q0u : Ep4 15 = .agg #[.bool a0.Num.fneg, .slice q8 a0.Num.fmag.length c_a0_1] := emk q0u
    replace q0v : Ep4 17 = .agg #[.bool b1.Num.fneg, .slice q0a b1.Num.fmag.length c_b1_1] := emk q0v
    replace hS : St w0 w (ro ρ :: l') := emk hS
    have hcall := c_exact_times q1u q16 q18 hS
    refine o_cc call_29 (args2 q0u q0v) hcall ?_
    rintro e w' ⟨q4, q0w, q1o, c_y0_ret_1_4_4, rfl, q1k, q6, hS⟩
    refine ⟨_, rfl, ?_⟩
    have e_ := q6.n; subst e_
    refine x_done <| ?_
    refine x_fin ⟨⟨_, rfl⟩, rfl, ?_⟩
    replace hS := St.ro_split q1k hS
    replace hS := St.bun (Φ := (fun (q4 : Heap) => Le ρ q4 ∧ RdS (RpI .u32) q4 q0w q0c.fmag.length c_y0_ret_1_4_4 q0c.fmag)) (L := (fun (q4 : Heap) => [roD ρ q4])) q4 ⟨q1k, q6⟩ (hS.pull 1)
    exact emk (hS.pull 1)
   ·intro Ep4 w l' hE4 hO4 hF_ hS
    refine p (yl_field0 fld_43_1 (hE4 2 rfl)) <| x_done <| ?_
    refine x_fin ⟨⟨_, rfl⟩, rfl, ?_⟩
    exact emk hS
   ·intro Ep4 w l' hE4 hO4 hF_ hS
    obtain ⟨q0x, -⟩ := hF_
    replace q0x : Ep4 19 = .pointer (some ⟨b2, 2, none⟩) := emk q0x
    replace hS : St w0 w (cells b2 43 [.bool a0.Num.fneg, .slice q8 a0.Num.fmag.length c_a0_1, .bool a0.Den.fneg, .slice q9 a0.Den.fmag.length c_a0_3] :: l') := emk hS
    refine pa (v := .agg #[.bool a0.Den.fneg, .slice q9 a0.Den.fmag.length c_a0_3]) (ld_sub agg_41 q0x rfl rfl hS) <| x_done <| ?_
    refine x_fin ⟨⟨_, rfl⟩, rfl, ?_⟩
    exact emk hS
   ·intro Ep4 w l' hE4 hO4 hF_ hS
    refine p (yl_field0 fld_43_1 (hE4 3 rfl)) <| x_done <| ?_
    refine x_fin ⟨⟨_, rfl⟩, rfl, ?_⟩
    exact emk hS
   ·intro Ep4 w l' hE4 hO4 hF_ hS
    obtain ⟨q0y, -⟩ := hF_
    replace q0y : Ep4 21 = .pointer (some ⟨b3, 2, none⟩) := emk q0y
    replace hS : St w0 w (cells b3 43 [.bool b1.Num.fneg, .slice q0a b1.Num.fmag.length c_b1_1, .bool b1.Den.fneg, .slice q0b b1.Den.fmag.length c_b1_3] :: l') := emk hS
    refine pa (v := .agg #[.bool b1.Den.fneg, .slice q0b b1.Den.fmag.length c_b1_3]) (ld_sub agg_41 q0y rfl rfl hS) <| x_done <| ?_
    refine x_fin ⟨⟨_, rfl⟩, rfl, ?_⟩
    exact emk hS
   ·intro Ep4 w l' hE4 hO4 hF_ hS
    obtain ⟨q0z, q10, -⟩ := hF_
    replace q0z : Ep4 20 = .agg #[.bool a0.Den.fneg, .slice q9 a0.Den.fmag.length c_a0_3] := emk q0z
    replace q10 : Ep4 22 = .agg #[.bool b1.Den.fneg, .slice q0b b1.Den.fmag.length c_b1_3] := emk q10
    replace hS : St w0 w (ro ρ :: l') := emk hS
    have hcall := c_exact_times q1v q17 q19 hS
    refine o_cc call_29 (args2 q0z q10) hcall ?_
    rintro e w' ⟨q5, q11, q1p, c_y0_ret_1_4_9, rfl, q1l, q7, hS⟩
    refine ⟨_, rfl, ?_⟩
    have e_ := q7.n; subst e_
    refine x_done <| ?_
    refine x_fin ⟨⟨_, rfl⟩, rfl, ?_⟩
    replace hS := St.ro_split q1l hS
    replace hS := St.bun (Φ := (fun (q5 : Heap) => Le ρ q5 ∧ RdS (RpI .u32) q5 q11 q0d.fmag.length c_y0_ret_1_4_9 q0d.fmag)) (L := (fun (q5 : Heap) => [roD ρ q5])) q5 ⟨q1l, q7⟩ (hS.pull 1)
    exact emk (hS.pull 1)
   ·intro Ep4 w l' hE4 hO4 hF_ hS
    obtain ⟨q12, q13, -⟩ := hF_
    replace q12 : Ep4 18 = .agg #[.bool q0c.fneg, .slice (adOf (partOf 1 (Ep4 18))) q0c.fmag.length (capOf (partOf 1 (Ep4 18)))] := emk q12
    replace q13 : Ep4 23 = .agg #[.bool q0d.fneg, .slice (adOf (partOf 1 (Ep4 23))) q0d.fmag.length (capOf (partOf 1 (Ep4 23)))] := emk q13
    replace hS : St w0 w (ro ρ :: bunA (fun (q4 : Heap) => Le ρ q4 ∧ RdS (RpI .u32) q4 (adOf (partOf 1 (Ep4 18))) q0c.fmag.length (capOf (partOf 1 (Ep4 18))) q0c.fmag) (fun (q4 : Heap) => [roD ρ q4]) :: bunA (fun (q5 : Heap) => Le ρ q5 ∧ RdS (RpI .u32) q5 (adOf (partOf 1 (Ep4 23))) q0d.fmag.length (capOf (partOf 1 (Ep4 23))) q0d.fmag) (fun (q5 : Heap) => [roD ρ q5]) :: l') := emk hS
    have q_ := St.unbun (hS.pull 1); obtain ⟨q4, ⟨q1d, q6⟩, hS⟩ := q_
    have q_ := St.ro_join (hS.pull 1) (Le.refl _) q1d; obtain ⟨q1y, q0i, q14, hS, q1w⟩ := q_
    have q_ := St.unbun (hS.pull 1); obtain ⟨q5, ⟨q1e, q7⟩, hS⟩ := q_
    have q_ := St.ro_join (hS.pull 1) q0i q1e; obtain ⟨q1z, q0h, q15, hS, q1x⟩ := q_
    have hcall := c_exact_reduced q1r (q6.le (q14.trans q0h)) (q7.le q15) hS
    refine o_cc call_34 (args2 q12 q13) hcall ?_
    rintro e w' ⟨q3, q0q, q1m, c_y0_ret_1_4_10, q0r, q1n, c_y0_ret_3_4_10, rfl, q0j, q0e, q0f, hS⟩
    refine ⟨_, rfl, ?_⟩
    have e_ := q0e.n; subst e_
    have e_ := q0f.n; subst e_
    refine x_done <| ?_
    refine x_fin ⟨⟨_, rfl⟩, rfl, ?_⟩
    replace hS := St.ro_split ((q0i.trans q0h).trans q0j) hS
    replace hS := St.bun (Φ := (fun (q3 : Heap) => Le ρ q3 ∧ RdS (RpI .u32) q3 (adOf (partOf 1 (Ep4 18))) q0c.fmag.length (capOf (partOf 1 (Ep4 18))) q0c.fmag ∧ RdS (RpI .u32) q3 (adOf (partOf 1 (Ep4 23))) q0d.fmag.length (capOf (partOf 1 (Ep4 23))) q0d.fmag ∧ RdS (RpI .u32) q3 q0q q2.1.Num.fmag.length c_y0_ret_1_4_10 q2.1.Num.fmag ∧ RdS (RpI .u32) q3 q0r q2.1.Den.fmag.length c_y0_ret_3_4_10 q2.1.Den.fmag)) (L := (fun (q3 : Heap) => [roD ρ q3])) q3 ⟨((q0i.trans q0h).trans q0j), (q6.le ((q14.trans q0h).trans q0j)), (q7.le (q15.trans q0j)), q0e, q0f⟩ (hS.pull 1)
    exact emk (hS.pull 1)
   ·intro Ep4 w l' hE4 hO4 hF_ hS
    obtain ⟨q0g, -⟩ := hF_
    replace q0g : Ep4 24 = .tuple #[.agg #[.bool q2.1.Num.fneg, .slice (adOf (partOf 1 (partOf 0 (Ep4 24)))) q2.1.Num.fmag.length (capOf (partOf 1 (partOf 0 (Ep4 24)))), .bool q2.1.Den.fneg, .slice (adOf (partOf 3 (partOf 0 (Ep4 24)))) q2.1.Den.fmag.length (capOf (partOf 3 (partOf 0 (Ep4 24))))], .int .i64 q2.2] := emk q0g
    refine p (yl_extract q0g rfl) <| x_done <| ?_
    refine x_fin ⟨⟨_, rfl⟩, rfl, ?_⟩
    exact emk hS
   ·intro Ep4 w l' hE4 hO4 hF_ hS
    obtain ⟨q0g, -⟩ := hF_
    replace q0g : Ep4 24 = .tuple #[.agg #[.bool q2.1.Num.fneg, .slice (adOf (partOf 1 (partOf 0 (Ep4 24)))) q2.1.Num.fmag.length (capOf (partOf 1 (partOf 0 (Ep4 24)))), .bool q2.1.Den.fneg, .slice (adOf (partOf 3 (partOf 0 (Ep4 24)))) q2.1.Den.fmag.length (capOf (partOf 3 (partOf 0 (Ep4 24))))], .int .i64 q2.2] := emk q0g
    refine p (yl_extract q0g rfl) <| x_done <| ?_
    refine x_fin ⟨⟨_, rfl⟩, rfl, ?_⟩
    exact emk hS
   ·intro Ep4 w l' hE4 hO4 hF_ hS
    obtain ⟨q0g, q0k, -⟩ := hF_
    replace q0g : Ep4 24 = .tuple #[.agg #[.bool q2.1.Num.fneg, .slice (adOf (partOf 1 (partOf 0 (Ep4 24)))) q2.1.Num.fmag.length (capOf (partOf 1 (partOf 0 (Ep4 24)))), .bool q2.1.Den.fneg, .slice (adOf (partOf 3 (partOf 0 (Ep4 24)))) q2.1.Den.fmag.length (capOf (partOf 3 (partOf 0 (Ep4 24))))], .int .i64 q2.2] := emk q0g
    replace q0k : Ep4 25 = .agg #[.bool q2.1.Num.fneg, .slice (adOf (partOf 1 (partOf 0 (Ep4 24)))) q2.1.Num.fmag.length (capOf (partOf 1 (partOf 0 (Ep4 24)))), .bool q2.1.Den.fneg, .slice (adOf (partOf 3 (partOf 0 (Ep4 24)))) q2.1.Den.fmag.length (capOf (partOf 3 (partOf 0 (Ep4 24))))] := emk q0k
    replace hS : St w0 w (cells b4 43 [.bool false, .slice none 0 0, .bool false, .slice none 0 0] :: l') := emk hS
    refine o_storeAgg (news := [.bool q2.1.Num.fneg, .slice (adOf (partOf 1 (partOf 0 (Ep4 24)))) q2.1.Num.fmag.length (capOf (partOf 1 (partOf 0 (Ep4 24)))), .bool q2.1.Den.fneg, .slice (adOf (partOf 3 (partOf 0 (Ep4 24)))) q2.1.Den.fmag.length (capOf (partOf 3 (partOf 0 (Ep4 24))))]) agg_43 (hE4 4 rfl) q0k rfl (by simp [over_length]) hS (fun w' hS => ?_)
    refine x_done <| ?_
    refine x_fin ⟨⟨undef, rfl⟩, trivial, ?_⟩
    exact emk hS
   ·intro Ep4 w l' hE4 hO4 hF_ hS
    obtain ⟨q0l, -⟩ := hF_
    replace q0l : Ep4 26 = .int .i64 q2.2 := emk q0l
    refine p (yl_assign q0l) <| x_done <| ?_
    refine x_fin ⟨⟨_, rfl⟩, rfl, ?_⟩
    exact emk hS
  intro Ep4 w' hE4 hF_ hS
  obtain ⟨q0s, q0u, q0t, q0v, q12, q0x, q0z, q0y, q10, q13, q0g, q0k, q0l, q1f, -⟩ := hF_
  replace q0s : Ep4 14 = .pointer (some ⟨b2, 0, none⟩) := emk q0s
  replace q0u : Ep4 15 = .agg #[.bool a0.Num.fneg, .slice q8 a0.Num.fmag.length c_a0_1] := emk q0u
  replace q0t : Ep4 16 = .pointer (some ⟨b3, 0, none⟩) := emk q0t
  replace q0v : Ep4 17 = .agg #[.bool b1.Num.fneg, .slice q0a b1.Num.fmag.length c_b1_1] := emk q0v
  replace q12 : Ep4 18 = .agg #[.bool q0c.fneg, .slice (adOf (partOf 1 (Ep4 18))) q0c.fmag.length (capOf (partOf 1 (Ep4 18)))] := emk q12
  replace q0x : Ep4 19 = .pointer (some ⟨b2, 2, none⟩) := emk q0x
  replace q0z : Ep4 20 = .agg #[.bool a0.Den.fneg, .slice q9 a0.Den.fmag.length c_a0_3] := emk q0z
  replace q0y : Ep4 21 = .pointer (some ⟨b3, 2, none⟩) := emk q0y
  replace q10 : Ep4 22 = .agg #[.bool b1.Den.fneg, .slice q0b b1.Den.fmag.length c_b1_3] := emk q10
  replace q13 : Ep4 23 = .agg #[.bool q0d.fneg, .slice (adOf (partOf 1 (Ep4 23))) q0d.fmag.length (capOf (partOf 1 (Ep4 23)))] := emk q13
  replace q0g : Ep4 24 = .tuple #[.agg #[.bool q2.1.Num.fneg, .slice (adOf (partOf 1 (partOf 0 (Ep4 24)))) q2.1.Num.fmag.length (capOf (partOf 1 (partOf 0 (Ep4 24)))), .bool q2.1.Den.fneg, .slice (adOf (partOf 3 (partOf 0 (Ep4 24)))) q2.1.Den.fmag.length (capOf (partOf 3 (partOf 0 (Ep4 24))))], .int .i64 q2.2] := emk q0g
  replace q0k : Ep4 25 = .agg #[.bool q2.1.Num.fneg, .slice (adOf (partOf 1 (partOf 0 (Ep4 24)))) q2.1.Num.fmag.length (capOf (partOf 1 (partOf 0 (Ep4 24)))), .bool q2.1.Den.fneg, .slice (adOf (partOf 3 (partOf 0 (Ep4 24)))) q2.1.Den.fmag.length (capOf (partOf 3 (partOf 0 (Ep4 24))))] := emk q0k
  replace q0l : Ep4 26 = .int .i64 q2.2 := emk q0l
  replace q1f : Ep4 5 = .int .i64 q2.2 := emk q1f
  replace hS : St w0 w' (cells b2 43 [.bool a0.Num.fneg, .slice q8 a0.Num.fmag.length c_a0_1, .bool a0.Den.fneg, .slice q9 a0.Den.fmag.length c_a0_3] :: cells b3 43 [.bool b1.Num.fneg, .slice q0a b1.Num.fmag.length c_b1_1, .bool b1.Den.fneg, .slice q0b b1.Den.fmag.length c_b1_3] :: ro ρ :: bunA (fun (q3 : Heap) => Le ρ q3 ∧ RdS (RpI .u32) q3 (adOf (partOf 1 (Ep4 18))) q0c.fmag.length (capOf (partOf 1 (Ep4 18))) q0c.fmag ∧ RdS (RpI .u32) q3 (adOf (partOf 1 (Ep4 23))) q0d.fmag.length (capOf (partOf 1 (Ep4 23))) q0d.fmag ∧ RdS (RpI .u32) q3 (adOf (partOf 1 (partOf 0 (Ep4 24)))) q2.1.Num.fmag.length (capOf (partOf 1 (partOf 0 (Ep4 24)))) q2.1.Num.fmag ∧ RdS (RpI .u32) q3 (adOf (partOf 3 (partOf 0 (Ep4 24)))) q2.1.Den.fmag.length (capOf (partOf 3 (partOf 0 (Ep4 24)))) q2.1.Den.fmag) (fun (q3 : Heap) => [roD ρ q3]) :: cells b4 43 [.bool q2.1.Num.fneg, .slice (adOf (partOf 1 (partOf 0 (Ep4 24)))) q2.1.Num.fmag.length (capOf (partOf 1 (partOf 0 (Ep4 24)))), .bool q2.1.Den.fneg, .slice (adOf (partOf 3 (partOf 0 (Ep4 24)))) q2.1.Den.fmag.length (capOf (partOf 3 (partOf 0 (Ep4 24))))] :: (l)) := emk hS
  have q_ := St.unbun (hS.pull 3); obtain ⟨q3, ⟨q1b, q6, q7, q0e, q0f⟩, hS⟩ := q_
  have q_ := St.ro_join (hS.pull 3) (Le.refl _) q1b; obtain ⟨q1s, q1q, q1c, hS, q20⟩ := q_
  have e_ := sinj hF; subst e_
  exact x_return ⟨_, ⟨_, _, _, rfl, (hE4 4 rfl), ldvA agg_43 rfl (fun j v hj => by rw [add0]; exact St.cell (hS.pull 3) hj), _, _, rfl, q1f, rfl⟩, q1s, (adOf (partOf 1 (partOf 0 (Ep4 24)))), q2.1.Num.fmag.length, (capOf (partOf 1 (partOf 0 (Ep4 24)))), (adOf (partOf 3 (partOf 0 (Ep4 24)))), q2.1.Den.fmag.length, (capOf (partOf 3 (partOf 0 (Ep4 24)))), rfl, q1q, (q0e.le q1c), (q0f.le q1c), ((((hS.pull 1).drop.pull 1).drop.pull 1).drop)⟩
attribute [irreducible] P_exact_Prod

def P_exact_Sum (a0 : T_exact_Ratio) (b1 : T_exact_Ratio) : Option (T_exact_Ratio × Int) :=
 bd (P_exact_both a0 b1) fun q3 =>
 if q3 ≠ 0 then
  some ((T_exact_Ratio.mk (T_exact_Int.mk false []) (T_exact_Int.mk false [])), q3)
 else
  bd (P_exact_times (T_exact_Int.mk a0.Num.fneg a0.Num.fmag) (T_exact_Int.mk b1.Den.fneg b1.Den.fmag)) fun q6 =>
  bd (P_exact_times (T_exact_Int.mk b1.Num.fneg b1.Num.fmag) (T_exact_Int.mk a0.Den.fneg a0.Den.fmag)) fun q7 =>
  bd (P_exact_plus q6 q7) fun q4 =>
  bd (P_exact_times (T_exact_Int.mk a0.Den.fneg a0.Den.fmag) (T_exact_Int.mk b1.Den.fneg b1.Den.fmag)) fun q5 =>
  bd (P_exact_reduced q4 q5) fun q2 =>
  some (q2.1, q2.2)
theorem c_exact_Sum {w0 w : World} {l : List Assn} {ρ : Heap} {q0i : Option Addr} {q22 : Nat} {c_a0_1 : Nat} {q8 : Option Addr} {q23 : Nat} {c_a0_3 : Nat} {q0j : Option Addr} {q24 : Nat} {c_b1_1 : Nat} {q9 : Option Addr} {q25 : Nat} {c_b1_3 : Nat} {a0 : T_exact_Ratio} {b1 : T_exact_Ratio} {r : (T_exact_Ratio × Int)} (hF : P_exact_Sum a0 b1 = some r) (q1r : RdS (RpI .u32) ρ q0i q22 c_a0_1 a0.Num.fmag) (q14 : RdS (RpI .u32) ρ q8 q23 c_a0_3 a0.Den.fmag) (q1s : RdS (RpI .u32) ρ q0j q24 c_b1_1 b1.Num.fmag) (q15 : RdS (RpI .u32) ρ q9 q25 c_b1_3 b1.Den.fmag) (hS : St w0 w (ro ρ :: l)) :
  Calls Try.prog 18 #[.agg #[.bool a0.Num.fneg, .slice q0i q22 c_a0_1, .bool a0.Den.fneg, .slice q8 q23 c_a0_3], .agg #[.bool b1.Num.fneg, .slice q0j q24 c_b1_1, .bool b1.Den.fneg, .slice q9 q25 c_b1_3]] w fun e w' => ∃ (ρ' : Heap) (q16 : Option Addr) (q17 : Nat) (c_y0_ret_1 : Nat) (q18 : Option Addr) (q19 : Nat) (c_y0_ret_3 : Nat), e = .returned (.tuple #[.agg #[.bool r.1.Num.fneg, .slice q16 q17 c_y0_ret_1, .bool r.1.Den.fneg, .slice q18 q19 c_y0_ret_3], .int .i64 r.2]) ∧ Le ρ ρ' ∧ RdS (RpI .u32) ρ' q16 q17 c_y0_ret_1 r.1.Num.fmag ∧ RdS (RpI .u32) ρ' q18 q19 c_y0_ret_3 r.1.Den.fmag ∧ St w0 w' (ro ρ' :: l) := by
 have e_ := q1r.n; subst e_
 have e_ := q14.n; subst e_
 have e_ := q1s.n; subst e_
 have e_ := q15.n; subst e_
 refine enterC Try.func18 rfl 33 rfl (by simp) ?_
 refine x_seq <| x_region <| ?_
 refine o_box (cs := [.bool a0.Num.fneg, .slice q0i a0.Num.fmag.length c_a0_1, .bool a0.Den.fneg, .slice q8 a0.Den.fmag.length c_a0_3]) rfl rfl hS (fun b2 w' hS => ?_)
 refine o_box (cs := [.bool b1.Num.fneg, .slice q0j b1.Num.fmag.length c_b1_1, .bool b1.Den.fneg, .slice q9 b1.Den.fmag.length c_b1_3]) rfl rfl hS (fun b3 w' hS => ?_)
 refine o_alloc zero_43 hS (fun b4 w' hS => ?_)
 replace hF := bd_s hF; obtain ⟨q1t, q2j, hF⟩ := hF
 refine p (yl_assign rfl) <| x_done <| x_seq <| x_seq <|
  x_region <| pa (v := .agg #[.bool a0.Num.fneg, .slice q0i a0.Num.fmag.length c_a0_1, .bool a0.Den.fneg, .slice q8 a0.Den.fmag.length c_a0_3]) (ld_sub agg_43 rfl rfl rfl (hS.pull 2)) <| pa (v := .agg #[.bool b1.Num.fneg, .slice q0j b1.Num.fmag.length c_b1_1, .bool b1.Den.fneg, .slice q9 b1.Den.fmag.length c_b1_3]) (ld_sub agg_43 rfl rfl rfl (hS.pull 1)) <| ?_
 have hcall := c_exact_both q2j q1r q14 q1s q15 (hS.pull 3)
 refine o_cc call_27 (args2 rfl rfl) ((Calls.mono hcall (fun e w'' h => And.intro h.1 (((h.2.pull 3).pull 3).pull 3)))) ?_
 rintro e w' ⟨rfl, hS⟩
 refine ⟨_, rfl, ?_⟩
 refine p (v := .int .i64 q1t) (yl_assign rfl) <| x_done <| x_seq <| x_region <|
  p (v := .int .i64 q1t) (yl_move rfl) <| p (yl_neq rfl rfl) <| x_done <|
  x_cond_p (q1t ≠ 0) rfl (fun hc11 => ?_) (fun hc11 => ?_)
 ·replace hF := it_t hc11 hF
  refine x_seq <| x_region <| p (v := .agg #[.bool false, .slice none 0 0, .bool false, .slice none 0 0]) (yl_build bld_43 bldf_43 (parts_eq pt0) (by kernel_rfl)) <| p (v := .int .i64 q1t) (yl_move rfl) <| ?_
  refine o_storeAgg (news := [.bool false, .slice none 0 0, .bool false, .slice none 0 0]) agg_43 rfl rfl rfl (by simp [over_length]) hS (fun w' hS => ?_)
  refine p (v := .int .i64 q1t) (yl_assign rfl) <| x_done <| ?_
  have e_ := sinj hF; subst e_
  exact x_return ⟨_, ⟨_, _, _, rfl, rfl, ldvA agg_43 rfl (fun j v hj => by rw [add0]; exact St.cell hS hj), _, _, rfl, rfl, rfl⟩, ρ, none, 0, 0, none, 0, 0, rfl, (Le.refl _), (RdS.nil (A := none) (c := 0)), (RdS.nil (A := none) (c := 0)), hS.drop.drop.drop⟩
 ·replace hF := it_f hc11 hF
  refine x_skip <| x_seq <| ?_
  replace hF := bd_s hF; obtain ⟨q0a, q2k, hF⟩ := hF
  replace hF := bd_s hF; obtain ⟨q0b, q2l, hF⟩ := hF
  replace hF := bd_s hF; obtain ⟨q0g, q2f, hF⟩ := hF
  replace hF := bd_s hF; obtain ⟨q0h, q2g, hF⟩ := hF
  replace hF := bd_s hF; obtain ⟨q2, q2h, hF⟩ := hF
  refine x_par (w0 := w0) [⟨[], [], [14], [], [], []⟩, ⟨[0], [0], [15], [0], [], []⟩, ⟨[], [], [16], [], [], []⟩, ⟨[2], [2], [17], [1], [], []⟩, ⟨[0, 1, 2, 3], [1, 3], [18], [2], [], [3]⟩, ⟨[], [], [19], [], [], []⟩, ⟨[5], [5], [20], [1], [], []⟩, ⟨[], [], [21], [], [], []⟩, ⟨[7], [7], [22], [0], [], []⟩, ⟨[0, 1, 2, 3, 4, 5, 6, 7, 8], [6, 8], [23], [2], [], [4]⟩, ⟨[0, 1, 2, 3, 4, 5, 6, 7, 8, 9], [4, 9], [24], [2], [3, 4], [5]⟩, ⟨[], [], [25], [], [], []⟩, ⟨[11], [11], [26], [0], [], []⟩, ⟨[], [], [27], [], [], []⟩, ⟨[13], [13], [28], [1], [], []⟩, ⟨[0, 1, 2, 3, 4, 5, 6, 7, 8, 9, 10, 11, 12, 13, 14], [12, 14], [29], [2], [], [6]⟩, ⟨[0, 1, 2, 3, 4, 5, 6, 7, 8, 9, 10, 11, 12, 13, 14, 15], [4, 9, 10, 15], [30], [2], [5, 6], [7]⟩, ⟨[0, 1, 2, 3, 4, 5, 6, 7, 8, 9, 10, 11, 12, 13, 14, 15, 16], [16], [30, 31], [], [], []⟩, ⟨[0, 1, 2, 3, 4, 5, 6, 7, 8, 9, 10, 11, 12, 13, 14, 15, 16], [16], [32], [], [], []⟩, ⟨[0, 1, 2, 3, 4, 5, 6, 7, 8, 9, 10, 11, 12, 13, 14, 15, 16, 17, 18], [16, 17], [], [], [8], [9]⟩, ⟨[0, 1, 2, 3, 4, 5, 6, 7, 8, 9, 10, 11, 12, 13, 14, 15, 16, 17, 18, 19], [18], [5], [], [], []⟩] [⟨none, none, []⟩, ⟨none, none, []⟩, ⟨none, none, []⟩, ⟨(some 4), (some 10), [18]⟩, ⟨(some 9), (some 10), [23]⟩, ⟨(some 10), (some 16), [18, 23, 24]⟩, ⟨(some 15), (some 16), [29]⟩, ⟨(some 16), none, [18, 23, 24, 29, 30]⟩, ⟨none, (some 19), []⟩, ⟨(some 19), none, [30]⟩] [5, 14, 15, 16, 17, 18, 19, 20, 21, 22, 23, 24, 25, 26, 27, 28, 29, 30, 31, 32] [0, 1, 2, 8] [0, 1, 2, 7, 9] [0, 1, 2, 3, 4, 5, 6, 7, 8, 9, 10, 11, 12, 13, 14, 15, 16, 17, 18, 20] [fun Ep4 => Ep4 14 = .pointer (some ⟨b2, 0, none⟩), fun Ep4 => Ep4 15 = .agg #[.bool a0.Num.fneg, .slice q0i a0.Num.fmag.length c_a0_1], fun Ep4 => Ep4 16 = .pointer (some ⟨b3, 2, none⟩), fun Ep4 => Ep4 17 = .agg #[.bool b1.Den.fneg, .slice q9 b1.Den.fmag.length c_b1_3], fun Ep4 => Ep4 18 = .agg #[.bool q0a.fneg, .slice (adOf (partOf 1 (Ep4 18))) q0a.fmag.length (capOf (partOf 1 (Ep4 18)))], fun Ep4 => Ep4 19 = .pointer (some ⟨b3, 0, none⟩), fun Ep4 => Ep4 20 = .agg #[.bool b1.Num.fneg, .slice q0j b1.Num.fmag.length c_b1_1], fun Ep4 => Ep4 21 = .pointer (some ⟨b2, 2, none⟩), fun Ep4 => Ep4 22 = .agg #[.bool a0.Den.fneg, .slice q8 a0.Den.fmag.length c_a0_3], fun Ep4 => Ep4 23 = .agg #[.bool q0b.fneg, .slice (adOf (partOf 1 (Ep4 23))) q0b.fmag.length (capOf (partOf 1 (Ep4 23)))], fun Ep4 => Ep4 24 = .agg #[.bool q0g.fneg, .slice (adOf (partOf 1 (Ep4 24))) q0g.fmag.length (capOf (partOf 1 (Ep4 24)))], fun Ep4 => Ep4 25 = .pointer (some ⟨b2, 2, none⟩), fun Ep4 => Ep4 26 = .agg #[.bool a0.Den.fneg, .slice q8 a0.Den.fmag.length c_a0_3], fun Ep4 => Ep4 27 = .pointer (some ⟨b3, 2, none⟩), fun Ep4 => Ep4 28 = .agg #[.bool b1.Den.fneg, .slice q9 b1.Den.fmag.length c_b1_3], fun Ep4 => Ep4 29 = .agg #[.bool q0h.fneg, .slice (adOf (partOf 1 (Ep4 29))) q0h.fmag.length (capOf (partOf 1 (Ep4 29)))], fun Ep4 => Ep4 30 = .tuple #[.agg #[.bool q2.1.Num.fneg, .slice (adOf (partOf 1 (partOf 0 (Ep4 30)))) q2.1.Num.fmag.length (capOf (partOf 1 (partOf 0 (Ep4 30)))), .bool q2.1.Den.fneg, .slice (adOf (partOf 3 (partOf 0 (Ep4 30)))) q2.1.Den.fmag.length (capOf (partOf 3 (partOf 0 (Ep4 30))))], .int .i64 q2.2], fun Ep4 => Ep4 31 = .agg #[.bool q2.1.Num.fneg, .slice (adOf (partOf 1 (partOf 0 (Ep4 30)))) q2.1.Num.fmag.length (capOf (partOf 1 (partOf 0 (Ep4 30)))), .bool q2.1.Den.fneg, .slice (adOf (partOf 3 (partOf 0 (Ep4 30)))) q2.1.Den.fmag.length (capOf (partOf 3 (partOf 0 (Ep4 30))))], fun Ep4 => Ep4 32 = .int .i64 q2.2, fun Ep4 => True, fun Ep4 => Ep4 5 = .int .i64 q2.2] [fun Ep4 => cells b2 43 [.bool a0.Num.fneg, .slice q0i a0.Num.fmag.length c_a0_1, .bool a0.Den.fneg, .slice q8 a0.Den.fmag.length c_a0_3], fun Ep4 => cells b3 43 [.bool b1.Num.fneg, .slice q0j b1.Num.fmag.length c_b1_1, .bool b1.Den.fneg, .slice q9 b1.Den.fmag.length c_b1_3], fun Ep4 => ro ρ, fun Ep4 => bunA (fun (q0c : Heap) => Le ρ q0c ∧ RdS (RpI .u32) q0c (adOf (partOf 1 (Ep4 18))) q0a.fmag.length (capOf (partOf 1 (Ep4 18))) q0a.fmag) (fun (q0c : Heap) => [roD ρ q0c]), fun Ep4 => bunA (fun (q0d : Heap) => Le ρ q0d ∧ RdS (RpI .u32) q0d (adOf (partOf 1 (Ep4 23))) q0b.fmag.length (capOf (partOf 1 (Ep4 23))) q0b.fmag) (fun (q0d : Heap) => [roD ρ q0d]), fun Ep4 => bunA (fun (q4 : Heap) => Le ρ q4 ∧ RdS (RpI .u32) q4 (adOf (partOf 1 (Ep4 18))) q0a.fmag.length (capOf (partOf 1 (Ep4 18))) q0a.fmag ∧ RdS (RpI .u32) q4 (adOf (partOf 1 (Ep4 23))) q0b.fmag.length (capOf (partOf 1 (Ep4 23))) q0b.fmag ∧ RdS (RpI .u32) q4 (adOf (partOf 1 (Ep4 24))) q0g.fmag.length (capOf (partOf 1 (Ep4 24))) q0g.fmag) (fun (q4 : Heap) => [roD ρ q4]), fun Ep4 => bunA (fun (q5 : Heap) => Le ρ q5 ∧ RdS (RpI .u32) q5 (adOf (partOf 1 (Ep4 29))) q0h.fmag.length (capOf (partOf 1 (Ep4 29))) q0h.fmag) (fun (q5 : Heap) => [roD ρ q5]), fun Ep4 => bunA (fun (q3 : Heap) => Le ρ q3 ∧ RdS (RpI .u32) q3 (adOf (partOf 1 (Ep4 18))) q0a.fmag.length (capOf (partOf 1 (Ep4 18))) q0a.fmag ∧ RdS (RpI .u32) q3 (adOf (partOf 1 (Ep4 23))) q0b.fmag.length (capOf (partOf 1 (Ep4 23))) q0b.fmag ∧ RdS (RpI .u32) q3 (adOf (partOf 1 (Ep4 24))) q0g.fmag.length (capOf (partOf 1 (Ep4 24))) q0g.fmag ∧ RdS (RpI .u32) q3 (adOf (partOf 1 (Ep4 29))) q0h.fmag.length (capOf (partOf 1 (Ep4 29))) q0h.fmag ∧ RdS (RpI .u32) q3 (adOf (partOf 1 (partOf 0 (Ep4 30)))) q2.1.Num.fmag.length (capOf (partOf 1 (partOf 0 (Ep4 30)))) q2.1.Num.fmag ∧ RdS (RpI .u32) q3 (adOf (partOf 3 (partOf 0 (Ep4 30)))) q2.1.Den.fmag.length (capOf (partOf 3 (partOf 0 (Ep4 30)))) q2.1.Den.fmag) (fun (q3 : Heap) => [roD ρ q3]), fun Ep4 => cells b4 43 [.bool false, .slice none 0 0, .bool false, .slice none 0 0], fun Ep4 => cells b4 43 [.bool q2.1.Num.fneg, .slice (adOf (partOf 1 (partOf 0 (Ep4 30)))) q2.1.Num.fmag.length (capOf (partOf 1 (partOf 0 (Ep4 30)))), .bool q2.1.Den.fneg, .slice (adOf (partOf 3 (partOf 0 (Ep4 30)))) q2.1.Den.fmag.length (capOf (partOf 3 (partOf 0 (Ep4 30))))]] mixed (by kernel_rfl) (((hS.pull 3).pull 2).pull 3) ?_ ?_
  ·refine ⟨?_, ?_, ?_, ?_, ?_, ?_, ?_, ?_, ?_, ?_, ?_, ?_, ?_, ?_, ?_, ?_, ?_, ?_, ?_, ?_, ?_, trivial⟩
   ·intro Ep4 w l' hE4 hO4 hF_ hS
    refine p (yl_field0 fld_43_0 (hE4 2 rfl)) <| x_done <| ?_
    refine x_fin ⟨⟨_, rfl⟩, rfl, ?_⟩
    exact emk hS
   ·intro Ep4 w l' hE4 hO4 hF_ hS
    obtain ⟨q1e, -⟩ := hF_
    replace q1e : Ep4 14 = .pointer (some ⟨b2, 0, none⟩) := emk q1e
    replace hS : St w0 w (cells b2 43 [.bool a0.Num.fneg, .slice q0i a0.Num.fmag.length c_a0_1, .bool a0.Den.fneg, .slice q8 a0.Den.fmag.length c_a0_3] :: l') := emk hS
    refine pa (v := .agg #[.bool a0.Num.fneg, .slice q0i a0.Num.fmag.length c_a0_1]) (ld_sub agg_41 q1e rfl rfl hS) <| x_done <| ?_
    refine x_fin ⟨⟨_, rfl⟩, rfl, ?_⟩
    exact emk hS
   ·intro Ep4 w l' hE4 hO4 hF_ hS
    refine p (yl_field0 fld_43_1 (hE4 3 rfl)) <| x_done <| ?_
    refine x_fin ⟨⟨_, rfl⟩, rfl, ?_⟩
    exact emk hS
   ·intro Ep4 w l' hE4 hO4 hF_ hS
    obtain ⟨q1f, -⟩ := hF_
    replace q1f : Ep4 16 = .pointer (some ⟨b3, 2, none⟩) := emk q1f
    replace hS : St w0 w (cells b3 43 [.bool b1.Num.fneg, .slice q0j b1.Num.fmag.length c_b1_1, .bool b1.Den.fneg, .slice q9 b1.Den.fmag.length c_b1_3] :: l') := emk hS
    refine pa (v := .agg #[.bool b1.Den.fneg, .slice q9 b1.Den.fmag.length c_b1_3]) (ld_sub agg_41 q1f rfl rfl hS) <| x_done <| ?_
    refine x_fin ⟨⟨_, rfl⟩, rfl, ?_⟩
    exact emk hS
   ·intro Ep4 w l' hE4 hO4 hF_ hS
    obtain ⟨q1g, q1h, -⟩ := hF_
    replace q1g : Ep4 15 = .agg #[.bool a0.Num.fneg, .slice q0i a0.Num.fmag.length c_a0_1] := emk q1g
    replace q1h : Ep4 17 = .agg #[.bool b1.Den.fneg, .slice q9 b1.Den.fmag.length c_b1_3] := emk q1h
    replace hS : St w0 w (ro ρ :: l') := emk hS
    have hcall := c_exact_times q2k q1r q15 hS
    refine o_cc call_29 (args2 q1g q1h) hcall ?_
    rintro e w' ⟨q0c, q1i, q2c, c_y0_ret_1_4_4, rfl, q26, q6, hS⟩
    refine ⟨_, rfl, ?_⟩
    have e_ := q6.n; subst e_
    refine x_done <| ?_
    refine x_fin ⟨⟨_, rfl⟩, rfl, ?_⟩
    replace hS := St.ro_split q26 hS
    replace hS := St.bun (Φ := (fun (q0c : Heap) => Le ρ q0c ∧ RdS (RpI .u32) q0c q1i q0a.fmag.length c_y0_ret_1_4_4 q0a.fmag)) (L := (fun (q0c : Heap) => [roD ρ q0c])) q0c ⟨q26, q6⟩ (hS.pull 1)
    exact emk (hS.pull 1)
   ·intro Ep4 w l' hE4 hO4 hF_ hS
    refine p (yl_field0 fld_43_0 (hE4 3 rfl)) <| x_done <| ?_
    refine x_fin ⟨⟨_, rfl⟩, rfl, ?_⟩
    exact emk hS
   ·intro Ep4 w l' hE4 hO4 hF_ hS
    obtain ⟨q1j, -⟩ := hF_
    replace q1j : Ep4 19 = .pointer (some ⟨b3, 0, none⟩) := emk q1j
    replace hS : St w0 w (cells b3 43 [.bool b1.Num.fneg, .slice q0j b1.Num.fmag.length c_b1_1, .bool b1.Den.fneg, .slice q9 b1.Den.fmag.length c_b1_3] :: l') := emk hS
    refine pa (v := .agg #[.bool b1.Num.fneg, .slice q0j b1.Num.fmag.length c_b1_1]) (ld_sub agg_41 q1j rfl rfl hS) <| x_done <| ?_
    refine x_fin ⟨⟨_, rfl⟩, rfl, ?_⟩
    exact emk hS
   ·intro Ep4 w l' hE4 hO4 hF_ hS
    refine p (yl_field0 fld_43_1 (hE4 2 rfl)) <| x_done <| ?_
    refine x_fin ⟨⟨_, rfl⟩, rfl, ?_⟩
    exact emk hS
   ·intro Ep4 w l' hE4 hO4 hF_ hS
    obtain ⟨q1k, -⟩ := hF_
    replace q1k : Ep4 21 = .pointer (some ⟨b2, 2, none⟩) := emk q1k
    replace hS : St w0 w (cells b2 43 [.bool a0.Num.fneg, .slice q0i a0.Num.fmag.length c_a0_1, .bool a0.Den.fneg, .slice q8 a0.Den.fmag.length c_a0_3] :: l') := emk hS
    refine pa (v := .agg #[.bool a0.Den.fneg, .slice q8 a0.Den.fmag.length c_a0_3]) (ld_sub agg_41 q1k rfl rfl hS) <| x_done <| ?_
    refine x_fin ⟨⟨_, rfl⟩, rfl, ?_⟩
    exact emk hS
   ·intro Ep4 w l' hE4 hO4 hF_ hS
    obtain ⟨q1l, q1m, -⟩ := hF_
    replace q1l : Ep4 20 = .agg #[.bool b1.Num.fneg, .slice q0j b1.Num.fmag.length c_b1_1] := emk q1l
    replace q1m : Ep4 22 = .agg #[.bool a0.Den.fneg, .slice q8 a0.Den.fmag.length c_a0_3] := emk q1m
    replace hS : St w0 w (ro ρ :: l') := emk hS
    have hcall := c_exact_times q2l q1s q14 hS
    refine o_cc call_29 (args2 q1l q1m) hcall ?_
    rintro e w' ⟨q0d, q1n, q2d, c_y0_ret_1_4_9, rfl, q27, q7, hS⟩
    refine ⟨_, rfl, ?_⟩
    have e_ := q7.n; subst e_
    refine x_done <| ?_
    refine x_fin ⟨⟨_, rfl⟩, rfl, ?_⟩
    replace hS := St.ro_split q27 hS
    replace hS := St.bun (Φ := (fun (q0d : Heap) => Le ρ q0d ∧ RdS (RpI .u32) q0d q1n q0b.fmag.length c_y0_ret_1_4_9 q0b.fmag)) (L := (fun (q0d : Heap) => [roD ρ q0d])) q0d ⟨q27, q7⟩ (hS.pull 1)
    exact emk (hS.pull 1)
   ·intro Ep4 w l' hE4 hO4 hF_ hS
    obtain ⟨q0r, q0s, -⟩ := hF_
    replace q0r : Ep4 18 = .agg #[.bool q0a.fneg, .slice (adOf (partOf 1 (Ep4 18))) q0a.fmag.length (capOf (partOf 1 (Ep4 18)))] := emk q0r
    replace q0s : Ep4 23 = .agg #[.bool q0b.fneg, .slice (adOf (partOf 1 (Ep4 23))) q0b.fmag.length (capOf (partOf 1 (Ep4 23)))] := emk q0s
    replace hS : St w0 w (ro ρ :: bunA (fun (q0c : Heap) => Le ρ q0c ∧ RdS (RpI .u32) q0c (adOf (partOf 1 (Ep4 18))) q0a.fmag.length (capOf (partOf 1 (Ep4 18))) q0a.fmag) (fun (q0c : Heap) => [roD ρ q0c]) :: bunA (fun (q0d : Heap) => Le ρ q0d ∧ RdS (RpI .u32) q0d (adOf (partOf 1 (Ep4 23))) q0b.fmag.length (capOf (partOf 1 (Ep4 23))) q0b.fmag) (fun (q0d : Heap) => [roD ρ q0d]) :: l') := emk hS
    have q_ := St.unbun (hS.pull 1); obtain ⟨q0c, ⟨q1z, q6⟩, hS⟩ := q_
    have q_ := St.ro_join (hS.pull 1) (Le.refl _) q1z; obtain ⟨q2q, q0t, q1o, hS, q2m⟩ := q_
    have q_ := St.unbun (hS.pull 1); obtain ⟨q0d, ⟨q20, q7⟩, hS⟩ := q_
    have q_ := St.ro_join (hS.pull 1) q0t q20; obtain ⟨q2r, q0p, q1p, hS, q2n⟩ := q_
    have hcall := c_exact_plus q2f (q6.le (q1o.trans q0p)) (q7.le q1p) hS
    refine o_cc call_36 (args2 q0r q0s) hcall ?_
    rintro e w' ⟨q4, q1a, q28, c_y0_ret_1_4_10, rfl, q0v, q0e, hS⟩
    refine ⟨_, rfl, ?_⟩
    have e_ := q0e.n; subst e_
    refine x_done <| ?_
    refine x_fin ⟨⟨_, rfl⟩, rfl, ?_⟩
    replace hS := St.ro_split ((q0t.trans q0p).trans q0v) hS
    replace hS := St.bun (Φ := (fun (q4 : Heap) => Le ρ q4 ∧ RdS (RpI .u32) q4 (adOf (partOf 1 (Ep4 18))) q0a.fmag.length (capOf (partOf 1 (Ep4 18))) q0a.fmag ∧ RdS (RpI .u32) q4 (adOf (partOf 1 (Ep4 23))) q0b.fmag.length (capOf (partOf 1 (Ep4 23))) q0b.fmag ∧ RdS (RpI .u32) q4 q1a q0g.fmag.length c_y0_ret_1_4_10 q0g.fmag)) (L := (fun (q4 : Heap) => [roD ρ q4])) q4 ⟨((q0t.trans q0p).trans q0v), (q6.le ((q1o.trans q0p).trans q0v)), (q7.le (q1p.trans q0v)), q0e⟩ (hS.pull 1)
    exact emk (hS.pull 1)
   ·intro Ep4 w l' hE4 hO4 hF_ hS
    refine p (yl_field0 fld_43_1 (hE4 2 rfl)) <| x_done <| ?_
    refine x_fin ⟨⟨_, rfl⟩, rfl, ?_⟩
    exact emk hS
   ·intro Ep4 w l' hE4 hO4 hF_ hS
    obtain ⟨q0w, -⟩ := hF_
    replace q0w : Ep4 25 = .pointer (some ⟨b2, 2, none⟩) := emk q0w
    replace hS : St w0 w (cells b2 43 [.bool a0.Num.fneg, .slice q0i a0.Num.fmag.length c_a0_1, .bool a0.Den.fneg, .slice q8 a0.Den.fmag.length c_a0_3] :: l') := emk hS
    refine pa (v := .agg #[.bool a0.Den.fneg, .slice q8 a0.Den.fmag.length c_a0_3]) (ld_sub agg_41 q0w rfl rfl hS) <| x_done <| ?_
    refine x_fin ⟨⟨_, rfl⟩, rfl, ?_⟩
    exact emk hS
   ·intro Ep4 w l' hE4 hO4 hF_ hS
    refine p (yl_field0 fld_43_1 (hE4 3 rfl)) <| x_done <| ?_
    refine x_fin ⟨⟨_, rfl⟩, rfl, ?_⟩
    exact emk hS
   ·intro Ep4 w l' hE4 hO4 hF_ hS
    obtain ⟨q0x, -⟩ := hF_
    replace q0x : Ep4 27 = .pointer (some ⟨b3, 2, none⟩) := emk q0x
    replace hS : St w0 w (cells b3 43 [.bool b1.Num.fneg, .slice q0j b1.Num.fmag.length c_b1_1, .bool b1.Den.fneg, .slice q9 b1.Den.fmag.length c_b1_3] :: l') := emk hS
    refine pa (v := .agg #[.bool b1.Den.fneg, .slice q9 b1.Den.fmag.length c_b1_3]) (ld_sub agg_41 q0x rfl rfl hS) <| x_done <| ?_
    refine x_fin ⟨⟨_, rfl⟩, rfl, ?_⟩
    exact emk hS
   ·intro Ep4 w l' hE4 hO4 hF_ hS
    obtain ⟨q0y, q0z, -⟩ := hF_
    replace q0y : Ep4 26 = .agg #[.bool a0.Den.fneg, .slice q8 a0.Den.fmag.length c_a0_3] := emk q0y
    replace q0z : Ep4 28 = .agg #[.bool b1.Den.fneg, .slice q9 b1.Den.fmag.length c_b1_3] := emk q0z
    replace hS : St w0 w (ro ρ :: l') := emk hS
    have hcall := c_exact_times q2g q14 q15 hS
    refine o_cc call_29 (args2 q0y q0z) hcall ?_
    rintro e w' ⟨q5, q1b, q29, c_y0_ret_1_4_15, rfl, q1x, q0f, hS⟩
    refine ⟨_, rfl, ?_⟩
    have e_ := q0f.n; subst e_
    refine x_done <| ?_
    refine x_fin ⟨⟨_, rfl⟩, rfl, ?_⟩
    replace hS := St.ro_split q1x hS
    replace hS := St.bun (Φ := (fun (q5 : Heap) => Le ρ q5 ∧ RdS (RpI .u32) q5 q1b q0h.fmag.length c_y0_ret_1_4_15 q0h.fmag)) (L := (fun (q5 : Heap) => [roD ρ q5])) q5 ⟨q1x, q0f⟩ (hS.pull 1)
    exact emk (hS.pull 1)
   ·intro Ep4 w l' hE4 hO4 hF_ hS
    obtain ⟨q0r, q0s, q10, q11, -⟩ := hF_
    replace q0r : Ep4 18 = .agg #[.bool q0a.fneg, .slice (adOf (partOf 1 (Ep4 18))) q0a.fmag.length (capOf (partOf 1 (Ep4 18)))] := emk q0r
    replace q0s : Ep4 23 = .agg #[.bool q0b.fneg, .slice (adOf (partOf 1 (Ep4 23))) q0b.fmag.length (capOf (partOf 1 (Ep4 23)))] := emk q0s
    replace q10 : Ep4 24 = .agg #[.bool q0g.fneg, .slice (adOf (partOf 1 (Ep4 24))) q0g.fmag.length (capOf (partOf 1 (Ep4 24)))] := emk q10
    replace q11 : Ep4 29 = .agg #[.bool q0h.fneg, .slice (adOf (partOf 1 (Ep4 29))) q0h.fmag.length (capOf (partOf 1 (Ep4 29)))] := emk q11
    replace hS : St w0 w (ro ρ :: bunA (fun (q4 : Heap) => Le ρ q4 ∧ RdS (RpI .u32) q4 (adOf (partOf 1 (Ep4 18))) q0a.fmag.length (capOf (partOf 1 (Ep4 18))) q0a.fmag ∧ RdS (RpI .u32) q4 (adOf (partOf 1 (Ep4 23))) q0b.fmag.length (capOf (partOf 1 (Ep4 23))) q0b.fmag ∧ RdS (RpI .u32) q4 (adOf (partOf 1 (Ep4 24))) q0g.fmag.length (capOf (partOf 1 (Ep4 24))) q0g.fmag) (fun (q4 : Heap) => [roD ρ q4]) :: bunA (fun (q5 : Heap) => Le ρ q5 ∧ RdS (RpI .u32) q5 (adOf (partOf 1 (Ep4 29))) q0h.fmag.length (capOf (partOf 1 (Ep4 29))) q0h.fmag) (fun (q5 : Heap) => [roD ρ q5]) :: l') := emk hS
    have q_ := St.unbun (hS.pull 1); obtain ⟨q4, ⟨q1u, q6, q7, q0e⟩, hS⟩ := q_
    have q_ := St.ro_join (hS.pull 1) (Le.refl _) q1u; obtain ⟨q2s, q0u, q0q, hS, q2o⟩ := q_
    have q_ := St.unbun (hS.pull 1); obtain ⟨q5, ⟨q1v, q0f⟩, hS⟩ := q_
    have q_ := St.ro_join (hS.pull 1) q0u q1v; obtain ⟨q2t, q0n, q1q, hS, q2p⟩ := q_
    have hcall := c_exact_reduced q2h (q0e.le (q0q.trans q0n)) (q0f.le q1q) hS
    refine o_cc call_34 (args2 q10 q11) hcall ?_
    rintro e w' ⟨q3, q1c, q2a, c_y0_ret_1_4_16, q1d, q2b, c_y0_ret_3_4_16, rfl, q0o, q0k, q0l, hS⟩
    refine ⟨_, rfl, ?_⟩
    have e_ := q0k.n; subst e_
    have e_ := q0l.n; subst e_
    refine x_done <| ?_
    refine x_fin ⟨⟨_, rfl⟩, rfl, ?_⟩
    replace hS := St.ro_split ((q0u.trans q0n).trans q0o) hS
    replace hS := St.bun (Φ := (fun (q3 : Heap) => Le ρ q3 ∧ RdS (RpI .u32) q3 (adOf (partOf 1 (Ep4 18))) q0a.fmag.length (capOf (partOf 1 (Ep4 18))) q0a.fmag ∧ RdS (RpI .u32) q3 (adOf (partOf 1 (Ep4 23))) q0b.fmag.length (capOf (partOf 1 (Ep4 23))) q0b.fmag ∧ RdS (RpI .u32) q3 (adOf (partOf 1 (Ep4 24))) q0g.fmag.length (capOf (partOf 1 (Ep4 24))) q0g.fmag ∧ RdS (RpI .u32) q3 (adOf (partOf 1 (Ep4 29))) q0h.fmag.length (capOf (partOf 1 (Ep4 29))) q0h.fmag ∧ RdS (RpI .u32) q3 q1c q2.1.Num.fmag.length c_y0_ret_1_4_16 q2.1.Num.fmag ∧ RdS (RpI .u32) q3 q1d q2.1.Den.fmag.length c_y0_ret_3_4_16 q2.1.Den.fmag)) (L := (fun (q3 : Heap) => [roD ρ q3])) q3 ⟨((q0u.trans q0n).trans q0o), (q6.le ((q0q.trans q0n).trans q0o)), (q7.le ((q0q.trans q0n).trans q0o)), (q0e.le ((q0q.trans q0n).trans q0o)), (q0f.le (q1q.trans q0o)), q0k, q0l⟩ (hS.pull 1)
    exact emk (hS.pull 1)
   ·intro Ep4 w l' hE4 hO4 hF_ hS
    obtain ⟨q0m, -⟩ := hF_
    replace q0m : Ep4 30 = .tuple #[.agg #[.bool q2.1.Num.fneg, .slice (adOf (partOf 1 (partOf 0 (Ep4 30)))) q2.1.Num.fmag.length (capOf (partOf 1 (partOf 0 (Ep4 30)))), .bool q2.1.Den.fneg, .slice (adOf (partOf 3 (partOf 0 (Ep4 30)))) q2.1.Den.fmag.length (capOf (partOf 3 (partOf 0 (Ep4 30))))], .int .i64 q2.2] := emk q0m
    refine p (yl_extract q0m rfl) <| x_done <| ?_
    refine x_fin ⟨⟨_, rfl⟩, rfl, ?_⟩
    exact emk hS
   ·intro Ep4 w l' hE4 hO4 hF_ hS
    obtain ⟨q0m, -⟩ := hF_
    replace q0m : Ep4 30 = .tuple #[.agg #[.bool q2.1.Num.fneg, .slice (adOf (partOf 1 (partOf 0 (Ep4 30)))) q2.1.Num.fmag.length (capOf (partOf 1 (partOf 0 (Ep4 30)))), .bool q2.1.Den.fneg, .slice (adOf (partOf 3 (partOf 0 (Ep4 30)))) q2.1.Den.fmag.length (capOf (partOf 3 (partOf 0 (Ep4 30))))], .int .i64 q2.2] := emk q0m
    refine p (yl_extract q0m rfl) <| x_done <| ?_
    refine x_fin ⟨⟨_, rfl⟩, rfl, ?_⟩
    exact emk hS
   ·intro Ep4 w l' hE4 hO4 hF_ hS
    obtain ⟨q0m, q12, -⟩ := hF_
    replace q0m : Ep4 30 = .tuple #[.agg #[.bool q2.1.Num.fneg, .slice (adOf (partOf 1 (partOf 0 (Ep4 30)))) q2.1.Num.fmag.length (capOf (partOf 1 (partOf 0 (Ep4 30)))), .bool q2.1.Den.fneg, .slice (adOf (partOf 3 (partOf 0 (Ep4 30)))) q2.1.Den.fmag.length (capOf (partOf 3 (partOf 0 (Ep4 30))))], .int .i64 q2.2] := emk q0m
    replace q12 : Ep4 31 = .agg #[.bool q2.1.Num.fneg, .slice (adOf (partOf 1 (partOf 0 (Ep4 30)))) q2.1.Num.fmag.length (capOf (partOf 1 (partOf 0 (Ep4 30)))), .bool q2.1.Den.fneg, .slice (adOf (partOf 3 (partOf 0 (Ep4 30)))) q2.1.Den.fmag.length (capOf (partOf 3 (partOf 0 (Ep4 30))))] := emk q12
    replace hS : St w0 w (cells b4 43 [.bool false, .slice none 0 0, .bool false, .slice none 0 0] :: l') := emk hS
    refine o_storeAgg (news := [.bool q2.1.Num.fneg, .slice (adOf (partOf 1 (partOf 0 (Ep4 30)))) q2.1.Num.fmag.length (capOf (partOf 1 (partOf 0 (Ep4 30)))), .bool q2.1.Den.fneg, .slice (adOf (partOf 3 (partOf 0 (Ep4 30)))) q2.1.Den.fmag.length (capOf (partOf 3 (partOf 0 (Ep4 30))))]) agg_43 (hE4 4 rfl) q12 rfl (by simp [over_length]) hS (fun w' hS => ?_)
    refine x_done <| ?_
    refine x_fin ⟨⟨undef, rfl⟩, trivial, ?_⟩
    exact emk hS
   ·intro Ep4 w l' hE4 hO4 hF_ hS
    obtain ⟨q13, -⟩ := hF_
    replace q13 : Ep4 32 = .int .i64 q2.2 := emk q13
    refine p (yl_assign q13) <| x_done <| ?_
    refine x_fin ⟨⟨_, rfl⟩, rfl, ?_⟩
    exact emk hS
  intro Ep4 w' hE4 hF_ hS
  obtain ⟨q1e, q1g, q1f, q1h, q0r, q1j, q1l, q1k, q1m, q0s, q10, q0w, q0y, q0x, q0z, q11, q0m, q12, q13, q21, -⟩ := hF_
  replace q1e : Ep4 14 = .pointer (some ⟨b2, 0, none⟩) := emk q1e
  replace q1g : Ep4 15 = .agg #[.bool a0.Num.fneg, .slice q0i a0.Num.fmag.length c_a0_1] := emk q1g
  replace q1f : Ep4 16 = .pointer (some ⟨b3, 2, none⟩) := emk q1f
  replace q1h : Ep4 17 = .agg #[.bool b1.Den.fneg, .slice q9 b1.Den.fmag.length c_b1_3] := emk q1h
  replace q0r : Ep4 18 = .agg #[.bool q0a.fneg, .slice (adOf (partOf 1 (Ep4 18))) q0a.fmag.length (capOf (partOf 1 (Ep4 18)))] := emk q0r
  replace q1j : Ep4 19 = .pointer (some ⟨b3, 0, none⟩) := emk q1j
  replace q1l : Ep4 20 = .agg #[.bool b1.Num.fneg, .slice q0j b1.Num.fmag.length c_b1_1] := emk q1l
  replace q1k : Ep4 21 = .pointer (some ⟨b2, 2, none⟩) := emk q1k
  replace q1m : Ep4 22 = .agg #[.bool a0.Den.fneg, .slice q8 a0.Den.fmag.length c_a0_3] := emk q1m
  replace q0s : Ep4 23 = .agg #[.bool q0b.fneg, .slice (adOf (partOf 1 (Ep4 23))) q0b.fmag.length (capOf (partOf 1 (Ep4 23)))] := emk q0s
  replace q10 : Ep4 24 = .agg #[.bool q0g.fneg, .slice (adOf (partOf 1 (Ep4 24))) q0g.fmag.length (capOf (partOf 1 (Ep4 24)))] := emk q10
  replace q0w : Ep4 25 = .pointer (some ⟨b2, 2, none⟩) := emk q0w
  replace q0y : Ep4 26 = .agg #[.bool a0.Den.fneg, .slice q8 a0.Den.fmag.length c_a0_3] := emk q0y
  replace q0x : Ep4 27 = .pointer (some ⟨b3, 2, none⟩) := emk q0x
  replace q0z : Ep4 28 = .agg #[.bool b1.Den.fneg, .slice q9 b1.Den.fmag.length c_b1_3] := emk q0z
  replace q11 : Ep4 29 = .agg #[.bool q0h.fneg, .slice (adOf (partOf 1 (Ep4 29))) q0h.fmag.length (capOf (partOf 1 (Ep4 29)))] := emk q11
  replace q0m : Ep4 30 = .tuple #[.agg #[.bool q2.1.Num.fneg, .slice (adOf (partOf 1 (partOf 0 (Ep4 30)))) q2.1.Num.fmag.length (capOf (partOf 1 (partOf 0 (Ep4 30)))), .bool q2.1.Den.fneg, .slice (adOf (partOf 3 (partOf 0 (Ep4 30)))) q2.1.Den.fmag.length (capOf (partOf 3 (partOf 0 (Ep4 30))))], .int .i64 q2.2] := emk q0m
  replace q12 : Ep4 31 = .agg #[.bool q2.1.Num.fneg, .slice (adOf (partOf 1 (partOf 0 (Ep4 30)))) q2.1.Num.fmag.length (capOf (partOf 1 (partOf 0 (Ep4 30)))), .bool q2.1.Den.fneg, .slice (adOf (partOf 3 (partOf 0 (Ep4 30)))) q2.1.Den.fmag.length (capOf (partOf 3 (partOf 0 (Ep4 30))))] := emk q12
  replace q13 : Ep4 32 = .int .i64 q2.2 := emk q13
  replace q21 : Ep4 5 = .int .i64 q2.2 := emk q21
  replace hS : St w0 w' (cells b2 43 [.bool a0.Num.fneg, .slice q0i a0.Num.fmag.length c_a0_1, .bool a0.Den.fneg, .slice q8 a0.Den.fmag.length c_a0_3] :: cells b3 43 [.bool b1.Num.fneg, .slice q0j b1.Num.fmag.length c_b1_1, .bool b1.Den.fneg, .slice q9 b1.Den.fmag.length c_b1_3] :: ro ρ :: bunA (fun (q3 : Heap) => Le ρ q3 ∧ RdS (RpI .u32) q3 (adOf (partOf 1 (Ep4 18))) q0a.fmag.length (capOf (partOf 1 (Ep4 18))) q0a.fmag ∧ RdS (RpI .u32) q3 (adOf (partOf 1 (Ep4 23))) q0b.fmag.length (capOf (partOf 1 (Ep4 23))) q0b.fmag ∧ RdS (RpI .u32) q3 (adOf (partOf 1 (Ep4 24))) q0g.fmag.length (capOf (partOf 1 (Ep4 24))) q0g.fmag ∧ RdS (RpI .u32) q3 (adOf (partOf 1 (Ep4 29))) q0h.fmag.length (capOf (partOf 1 (Ep4 29))) q0h.fmag ∧ RdS (RpI .u32) q3 (adOf (partOf 1 (partOf 0 (Ep4 30)))) q2.1.Num.fmag.length (capOf (partOf 1 (partOf 0 (Ep4 30)))) q2.1.Num.fmag ∧ RdS (RpI .u32) q3 (adOf (partOf 3 (partOf 0 (Ep4 30)))) q2.1.Den.fmag.length (capOf (partOf 3 (partOf 0 (Ep4 30)))) q2.1.Den.fmag) (fun (q3 : Heap) => [roD ρ q3]) :: cells b4 43 [.bool q2.1.Num.fneg, .slice (adOf (partOf 1 (partOf 0 (Ep4 30)))) q2.1.Num.fmag.length (capOf (partOf 1 (partOf 0 (Ep4 30)))), .bool q2.1.Den.fneg, .slice (adOf (partOf 3 (partOf 0 (Ep4 30)))) q2.1.Den.fmag.length (capOf (partOf 3 (partOf 0 (Ep4 30))))] :: (l)) := emk hS
  have q_ := St.unbun (hS.pull 3); obtain ⟨q3, ⟨q1w, q6, q7, q0e, q0f, q0k, q0l⟩, hS⟩ := q_
  have q_ := St.ro_join (hS.pull 3) (Le.refl _) q1w; obtain ⟨q2i, q2e, q1y, hS, q2u⟩ := q_
  have e_ := sinj hF; subst e_
  exact x_return ⟨_, ⟨_, _, _, rfl, (hE4 4 rfl), ldvA agg_43 rfl (fun j v hj => by rw [add0]; exact St.cell (hS.pull 3) hj), _, _, rfl, q21, rfl⟩, q2i, (adOf (partOf 1 (partOf 0 (Ep4 30)))), q2.1.Num.fmag.length, (capOf (partOf 1 (partOf 0 (Ep4 30)))), (adOf (partOf 3 (partOf 0 (Ep4 30)))), q2.1.Den.fmag.length, (capOf (partOf 3 (partOf 0 (Ep4 30)))), rfl, q2e, (q0k.le q1y), (q0l.le q1y), ((((hS.pull 1).drop.pull 1).drop.pull 1).drop)⟩
attribute [irreducible] P_exact_Sum

def P_exact_Diff (a0 : T_exact_Ratio) (b1 : T_exact_Ratio) : Option (T_exact_Ratio × Int) :=
 bd (P_exact_Neg (T_exact_Int.mk b1.Num.fneg b1.Num.fmag)) fun q3 =>
 bd (P_exact_Sum a0 (T_exact_Ratio.mk q3 (T_exact_Int.mk b1.Den.fneg b1.Den.fmag))) fun q2 =>
 some (q2.1, q2.2)
theorem c_exact_Diff {w0 w : World} {l : List Assn} {ρ : Heap} {q9 : Option Addr} {q0w : Nat} {c_a0_1 : Nat} {q0a : Option Addr} {q0x : Nat} {c_a0_3 : Nat} {q6 : Option Addr} {q0y : Nat} {c_b1_1 : Nat} {q5 : Option Addr} {q0z : Nat} {c_b1_3 : Nat} {a0 : T_exact_Ratio} {b1 : T_exact_Ratio} {r : (T_exact_Ratio × Int)} (hF : P_exact_Diff a0 b1 = some r) (q10 : RdS (RpI .u32) ρ q9 q0w c_a0_1 a0.Num.fmag) (q11 : RdS (RpI .u32) ρ q0a q0x c_a0_3 a0.Den.fmag) (q12 : RdS (RpI .u32) ρ q6 q0y c_b1_1 b1.Num.fmag) (q13 : RdS (RpI .u32) ρ q5 q0z c_b1_3 b1.Den.fmag) (hS : St w0 w (ro ρ :: l)) :
  Calls Try.prog 12 #[.agg #[.bool a0.Num.fneg, .slice q9 q0w c_a0_1, .bool a0.Den.fneg, .slice q0a q0x c_a0_3], .agg #[.bool b1.Num.fneg, .slice q6 q0y c_b1_1, .bool b1.Den.fneg, .slice q5 q0z c_b1_3]] w fun e w' => ∃ (ρ' : Heap) (q0e : Option Addr) (q0f : Nat) (c_y0_ret_1 : Nat) (q0g : Option Addr) (q0h : Nat) (c_y0_ret_3 : Nat), e = .returned (.tuple #[.agg #[.bool r.1.Num.fneg, .slice q0e q0f c_y0_ret_1, .bool r.1.Den.fneg, .slice q0g q0h c_y0_ret_3], .int .i64 r.2]) ∧ Le ρ ρ' ∧ RdS (RpI .u32) ρ' q0e q0f c_y0_ret_1 r.1.Num.fmag ∧ RdS (RpI .u32) ρ' q0g q0h c_y0_ret_3 r.1.Den.fmag ∧ St w0 w' (ro ρ' :: l) := by
 have e_ := q10.n; subst e_
 have e_ := q11.n; subst e_
 have e_ := q12.n; subst e_
 have e_ := q13.n; subst e_
 refine enterC Try.func12 rfl 16 rfl (by simp) ?_
 refine x_seq <| x_region <| ?_
 refine o_box (cs := [.bool a0.Num.fneg, .slice q9 a0.Num.fmag.length c_a0_1, .bool a0.Den.fneg, .slice q0a a0.Den.fmag.length c_a0_3]) rfl rfl hS (fun b2 w' hS => ?_)
 refine o_box (cs := [.bool b1.Num.fneg, .slice q6 b1.Num.fmag.length c_b1_1, .bool b1.Den.fneg, .slice q5 b1.Den.fmag.length c_b1_3]) rfl rfl hS (fun b3 w' hS => ?_)
 refine o_alloc zero_43 hS (fun b4 w' hS => ?_)
 refine p (yl_assign rfl) <| x_done <| x_seq <| ?_
 replace hF := bd_s hF; obtain ⟨q4, q1b, hF⟩ := hF
 replace hF := bd_s hF; obtain ⟨q2, q1c, hF⟩ := hF
 refine x_par (w0 := w0) [⟨[], [], [6], [0], [], []⟩, ⟨[], [], [7], [], [], []⟩, ⟨[1], [1], [8], [1], [], []⟩, ⟨[1, 2], [2], [9], [2], [], []⟩, ⟨[], [], [10], [], [], []⟩, ⟨[4], [4], [11], [1], [], []⟩, ⟨[1, 2, 3, 4, 5], [3, 5], [9, 12], [], [], []⟩, ⟨[0, 1, 2, 3, 4, 5, 6], [0, 3, 6], [13], [2], [], [3]⟩, ⟨[0, 1, 2, 3, 4, 5, 6, 7], [7], [13, 14], [], [], []⟩, ⟨[0, 1, 2, 3, 4, 5, 6, 7], [7], [15], [], [], []⟩, ⟨[0, 1, 2, 3, 4, 5, 6, 7, 8, 9], [7, 8], [], [], [4], [5]⟩, ⟨[0, 1, 2, 3, 4, 5, 6, 7, 8, 9, 10], [9], [5], [], [], []⟩] [⟨none, none, []⟩, ⟨none, none, []⟩, ⟨none, none, []⟩, ⟨(some 7), none, [13]⟩, ⟨none, (some 10), []⟩, ⟨(some 10), none, [13]⟩] [5, 6, 7, 8, 9, 10, 11, 12, 13, 14, 15] [0, 1, 2, 4] [0, 1, 2, 3, 5] [0, 1, 2, 3, 4, 5, 6, 7, 8, 9, 11] [fun Ep1 => Ep1 6 = .agg #[.bool a0.Num.fneg, .slice q9 a0.Num.fmag.length c_a0_1, .bool a0.Den.fneg, .slice q0a a0.Den.fmag.length c_a0_3], fun Ep1 => Ep1 7 = .pointer (some ⟨b3, 0, none⟩), fun Ep1 => Ep1 8 = .agg #[.bool b1.Num.fneg, .slice q6 b1.Num.fmag.length c_b1_1], fun Ep1 => Ep1 9 = .agg #[.bool q4.fneg, .slice (adOf (partOf 1 (Ep1 9))) q4.fmag.length (capOf (partOf 1 (Ep1 9)))] ∧ RdS (RpI .u32) ρ (adOf (partOf 1 (Ep1 9))) q4.fmag.length (capOf (partOf 1 (Ep1 9))) q4.fmag, fun Ep1 => Ep1 10 = .pointer (some ⟨b3, 2, none⟩), fun Ep1 => Ep1 11 = .agg #[.bool b1.Den.fneg, .slice q5 b1.Den.fmag.length c_b1_3], fun Ep1 => Ep1 12 = .agg #[.bool q4.fneg, .slice (adOf (partOf 1 (Ep1 9))) q4.fmag.length (capOf (partOf 1 (Ep1 9))), .bool b1.Den.fneg, .slice q5 b1.Den.fmag.length c_b1_3], fun Ep1 => Ep1 13 = .tuple #[.agg #[.bool q2.1.Num.fneg, .slice (adOf (partOf 1 (partOf 0 (Ep1 13)))) q2.1.Num.fmag.length (capOf (partOf 1 (partOf 0 (Ep1 13)))), .bool q2.1.Den.fneg, .slice (adOf (partOf 3 (partOf 0 (Ep1 13)))) q2.1.Den.fmag.length (capOf (partOf 3 (partOf 0 (Ep1 13))))], .int .i64 q2.2], fun Ep1 => Ep1 14 = .agg #[.bool q2.1.Num.fneg, .slice (adOf (partOf 1 (partOf 0 (Ep1 13)))) q2.1.Num.fmag.length (capOf (partOf 1 (partOf 0 (Ep1 13)))), .bool q2.1.Den.fneg, .slice (adOf (partOf 3 (partOf 0 (Ep1 13)))) q2.1.Den.fmag.length (capOf (partOf 3 (partOf 0 (Ep1 13))))], fun Ep1 => Ep1 15 = .int .i64 q2.2, fun Ep1 => True, fun Ep1 => Ep1 5 = .int .i64 q2.2] [fun Ep1 => cells b2 43 [.bool a0.Num.fneg, .slice q9 a0.Num.fmag.length c_a0_1, .bool a0.Den.fneg, .slice q0a a0.Den.fmag.length c_a0_3], fun Ep1 => cells b3 43 [.bool b1.Num.fneg, .slice q6 b1.Num.fmag.length c_b1_1, .bool b1.Den.fneg, .slice q5 b1.Den.fmag.length c_b1_3], fun Ep1 => ro ρ, fun Ep1 => bunA (fun (q3 : Heap) => Le ρ q3 ∧ RdS (RpI .u32) q3 (adOf (partOf 1 (partOf 0 (Ep1 13)))) q2.1.Num.fmag.length (capOf (partOf 1 (partOf 0 (Ep1 13)))) q2.1.Num.fmag ∧ RdS (RpI .u32) q3 (adOf (partOf 3 (partOf 0 (Ep1 13)))) q2.1.Den.fmag.length (capOf (partOf 3 (partOf 0 (Ep1 13)))) q2.1.Den.fmag) (fun (q3 : Heap) => [roD ρ q3]), fun Ep1 => cells b4 43 [.bool false, .slice none 0 0, .bool false, .slice none 0 0], fun Ep1 => cells b4 43 [.bool q2.1.Num.fneg, .slice (adOf (partOf 1 (partOf 0 (Ep1 13)))) q2.1.Num.fmag.length (capOf (partOf 1 (partOf 0 (Ep1 13)))), .bool q2.1.Den.fneg, .slice (adOf (partOf 3 (partOf 0 (Ep1 13)))) q2.1.Den.fmag.length (capOf (partOf 3 (partOf 0 (Ep1 13))))]] mixed (by kernel_rfl) (((hS.pull 3).pull 2).pull 3) ?_ ?_
 ·refine ⟨?_, ?_, ?_, ?_, ?_, ?_, ?_, ?_, ?_, ?_, ?_, ?_, trivial⟩
  ·intro Ep1 w l' hE1 hO1 hF_ hS
   replace hS : St w0 w (cells b2 43 [.bool a0.Num.fneg, .slice q9 a0.Num.fmag.length c_a0_1, .bool a0.Den.fneg, .slice q0a a0.Den.fmag.length c_a0_3] :: l') := emk hS
   refine pa (v := .agg #[.bool a0.Num.fneg, .slice q9 a0.Num.fmag.length c_a0_1, .bool a0.Den.fneg, .slice q0a a0.Den.fmag.length c_a0_3]) (ld_sub agg_43 (hE1 2 rfl) rfl rfl hS) <| x_done <| ?_
   refine x_fin ⟨⟨_, rfl⟩, rfl, ?_⟩
   exact emk hS
  ·intro Ep1 w l' hE1 hO1 hF_ hS
   refine p (yl_field0 fld_43_0 (hE1 3 rfl)) <| x_done <| ?_
   refine x_fin ⟨⟨_, rfl⟩, rfl, ?_⟩
   exact emk hS
  ·intro Ep1 w l' hE1 hO1 hF_ hS
   obtain ⟨q0i, -⟩ := hF_
   replace q0i : Ep1 7 = .pointer (some ⟨b3, 0, none⟩) := emk q0i
   replace hS : St w0 w (cells b3 43 [.bool b1.Num.fneg, .slice q6 b1.Num.fmag.length c_b1_1, .bool b1.Den.fneg, .slice q5 b1.Den.fmag.length c_b1_3] :: l') := emk hS
   refine pa (v := .agg #[.bool b1.Num.fneg, .slice q6 b1.Num.fmag.length c_b1_1]) (ld_sub agg_41 q0i rfl rfl hS) <| x_done <| ?_
   refine x_fin ⟨⟨_, rfl⟩, rfl, ?_⟩
   exact emk hS
  ·intro Ep1 w l' hE1 hO1 hF_ hS
   obtain ⟨q0j, -⟩ := hF_
   replace q0j : Ep1 8 = .agg #[.bool b1.Num.fneg, .slice q6 b1.Num.fmag.length c_b1_1] := emk q0j
   replace hS : St w0 w (ro ρ :: l') := emk hS
   have hcall := c_exact_Neg q1b q12 hS
   refine o_cc call_30 (args1 q0j) hcall ?_
   rintro e w' ⟨q15, q16, c_y0_ret_1_1_3, rfl, q0d, hS⟩
   refine ⟨_, rfl, ?_⟩
   have e_ := q0d.n; subst e_
   refine x_done <| ?_
   refine x_fin ⟨⟨_, rfl⟩, ⟨rfl, q0d⟩, ?_⟩
   exact emk hS
  ·intro Ep1 w l' hE1 hO1 hF_ hS
   refine p (yl_field0 fld_43_1 (hE1 3 rfl)) <| x_done <| ?_
   refine x_fin ⟨⟨_, rfl⟩, rfl, ?_⟩
   exact emk hS
  ·intro Ep1 w l' hE1 hO1 hF_ hS
   obtain ⟨q0k, -⟩ := hF_
   replace q0k : Ep1 10 = .pointer (some ⟨b3, 2, none⟩) := emk q0k
   replace hS : St w0 w (cells b3 43 [.bool b1.Num.fneg, .slice q6 b1.Num.fmag.length c_b1_1, .bool b1.Den.fneg, .slice q5 b1.Den.fmag.length c_b1_3] :: l') := emk hS
   refine pa (v := .agg #[.bool b1.Den.fneg, .slice q5 b1.Den.fmag.length c_b1_3]) (ld_sub agg_41 q0k rfl rfl hS) <| x_done <| ?_
   refine x_fin ⟨⟨_, rfl⟩, rfl, ?_⟩
   exact emk hS
  ·intro Ep1 w l' hE1 hO1 hF_ hS
   obtain ⟨q0c, q0l, -⟩ := hF_
   replace q0c : Ep1 9 = .agg #[.bool q4.fneg, .slice (adOf (partOf 1 (Ep1 9))) q4.fmag.length (capOf (partOf 1 (Ep1 9)))] ∧ RdS (RpI .u32) ρ (adOf (partOf 1 (Ep1 9))) q4.fmag.length (capOf (partOf 1 (Ep1 9))) q4.fmag := emk q0c
   have q_ := id q0c; obtain ⟨-, q0t⟩ := q_
   replace q0l : Ep1 11 = .agg #[.bool b1.Den.fneg, .slice q5 b1.Den.fmag.length c_b1_3] := emk q0l
   refine p (v := .agg #[.bool q4.fneg, .slice (adOf (partOf 1 (Ep1 9))) q4.fmag.length (capOf (partOf 1 (Ep1 9))), .bool b1.Den.fneg, .slice q5 b1.Den.fmag.length c_b1_3]) (yl_build bld_43 bldf_43 (parts_eq (pt (va := .agg #[.bool q4.fneg, .slice (adOf (partOf 1 (Ep1 9))) q4.fmag.length (capOf (partOf 1 (Ep1 9)))]) q0c.1 (pt (va := .agg #[.bool b1.Den.fneg, .slice q5 b1.Den.fmag.length c_b1_3]) q0l pt0))) (by kernel_rfl)) <| x_done <| ?_
   refine x_fin ⟨⟨_, rfl⟩, rfl, ?_⟩
   exact emk hS
  ·intro Ep1 w l' hE1 hO1 hF_ hS
   obtain ⟨q0m, q0c, q0n, -⟩ := hF_
   replace q0m : Ep1 6 = .agg #[.bool a0.Num.fneg, .slice q9 a0.Num.fmag.length c_a0_1, .bool a0.Den.fneg, .slice q0a a0.Den.fmag.length c_a0_3] := emk q0m
   replace q0c : Ep1 9 = .agg #[.bool q4.fneg, .slice (adOf (partOf 1 (Ep1 9))) q4.fmag.length (capOf (partOf 1 (Ep1 9)))] ∧ RdS (RpI .u32) ρ (adOf (partOf 1 (Ep1 9))) q4.fmag.length (capOf (partOf 1 (Ep1 9))) q4.fmag := emk q0c
   have q_ := id q0c; obtain ⟨-, q0t⟩ := q_
   replace q0n : Ep1 12 = .agg #[.bool q4.fneg, .slice (adOf (partOf 1 (Ep1 9))) q4.fmag.length (capOf (partOf 1 (Ep1 9))), .bool b1.Den.fneg, .slice q5 b1.Den.fmag.length c_b1_3] := emk q0n
   replace hS : St w0 w (ro ρ :: l') := emk hS
   have hcall := c_exact_Sum q1c q10 q11 q0t q13 hS
   refine o_cc call_18 (args2 q0m q0n) hcall ?_
   rintro e w' ⟨q3, q0o, q17, c_y0_ret_1_1_7, q0p, q18, c_y0_ret_3_1_7, rfl, q14, q7, q8, hS⟩
   refine ⟨_, rfl, ?_⟩
   have e_ := q7.n; subst e_
   have e_ := q8.n; subst e_
   refine x_done <| ?_
   refine x_fin ⟨⟨_, rfl⟩, rfl, ?_⟩
   replace hS := St.ro_split q14 hS
   replace hS := St.bun (Φ := (fun (q3 : Heap) => Le ρ q3 ∧ RdS (RpI .u32) q3 q0o q2.1.Num.fmag.length c_y0_ret_1_1_7 q2.1.Num.fmag ∧ RdS (RpI .u32) q3 q0p q2.1.Den.fmag.length c_y0_ret_3_1_7 q2.1.Den.fmag)) (L := (fun (q3 : Heap) => [roD ρ q3])) q3 ⟨q14, q7, q8⟩ (hS.pull 1)
   exact emk (hS.pull 1)
  ·intro Ep1 w l' hE1 hO1 hF_ hS
   obtain ⟨q0b, -⟩ := hF_
   replace q0b : Ep1 13 = .tuple #[.agg #[.bool q2.1.Num.fneg, .slice (adOf (partOf 1 (partOf 0 (Ep1 13)))) q2.1.Num.fmag.length (capOf (partOf 1 (partOf 0 (Ep1 13)))), .bool q2.1.Den.fneg, .slice (adOf (partOf 3 (partOf 0 (Ep1 13)))) q2.1.Den.fmag.length (capOf (partOf 3 (partOf 0 (Ep1 13))))], .int .i64 q2.2] := emk q0b
   refine p (yl_extract q0b rfl) <| x_done <| ?_
   refine x_fin ⟨⟨_, rfl⟩, rfl, ?_⟩
   exact emk hS
  ·intro Ep1 w l' hE1 hO1 hF_ hS
   obtain ⟨q0b, -⟩ := hF_
   replace q0b : Ep1 13 = .tuple #[.agg #[.bool q2.1.Num.fneg, .slice (adOf (partOf 1 (partOf 0 (Ep1 13)))) q2.1.Num.fmag.length (capOf (partOf 1 (partOf 0 (Ep1 13)))), .bool q2.1.Den.fneg, .slice (adOf (partOf 3 (partOf 0 (Ep1 13)))) q2.1.Den.fmag.length (capOf (partOf 3 (partOf 0 (Ep1 13))))], .int .i64 q2.2] := emk q0b
   refine p (yl_extract q0b rfl) <| x_done <| ?_
   refine x_fin ⟨⟨_, rfl⟩, rfl, ?_⟩
   exact emk hS
  ·intro Ep1 w l' hE1 hO1 hF_ hS
   obtain ⟨q0b, q0q, -⟩ := hF_
   replace q0b : Ep1 13 = .tuple #[.agg #[.bool q2.1.Num.fneg, .slice (adOf (partOf 1 (partOf 0 (Ep1 13)))) q2.1.Num.fmag.length (capOf (partOf 1 (partOf 0 (Ep1 13)))), .bool q2.1.Den.fneg, .slice (adOf (partOf 3 (partOf 0 (Ep1 13)))) q2.1.Den.fmag.length (capOf (partOf 3 (partOf 0 (Ep1 13))))], .int .i64 q2.2] := emk q0b
   replace q0q : Ep1 14 = .agg #[.bool q2.1.Num.fneg, .slice (adOf (partOf 1 (partOf 0 (Ep1 13)))) q2.1.Num.fmag.length (capOf (partOf 1 (partOf 0 (Ep1 13)))), .bool q2.1.Den.fneg, .slice (adOf (partOf 3 (partOf 0 (Ep1 13)))) q2.1.Den.fmag.length (capOf (partOf 3 (partOf 0 (Ep1 13))))] := emk q0q
   replace hS : St w0 w (cells b4 43 [.bool false, .slice none 0 0, .bool false, .slice none 0 0] :: l') := emk hS
   refine o_storeAgg (news := [.bool q2.1.Num.fneg, .slice (adOf (partOf 1 (partOf 0 (Ep1 13)))) q2.1.Num.fmag.length (capOf (partOf 1 (partOf 0 (Ep1 13)))), .bool q2.1.Den.fneg, .slice (adOf (partOf 3 (partOf 0 (Ep1 13)))) q2.1.Den.fmag.length (capOf (partOf 3 (partOf 0 (Ep1 13))))]) agg_43 (hE1 4 rfl) q0q rfl (by simp [over_length]) hS (fun w' hS => ?_)
   refine x_done <| ?_
   refine x_fin ⟨⟨undef, rfl⟩, trivial, ?_⟩
   exact emk hS
  ·intro Ep1 w l' hE1 hO1 hF_ hS
   obtain ⟨q0r, -⟩ := hF_
   replace q0r : Ep1 15 = .int .i64 q2.2 := emk q0r
   refine p (yl_assign q0r) <| x_done <| ?_
   refine x_fin ⟨⟨_, rfl⟩, rfl, ?_⟩
   exact emk hS
 intro Ep1 w' hE1 hF_ hS
 obtain ⟨q0m, q0i, q0j, q0c, q0k, q0l, q0n, q0b, q0q, q0r, q0u, -⟩ := hF_
 replace q0m : Ep1 6 = .agg #[.bool a0.Num.fneg, .slice q9 a0.Num.fmag.length c_a0_1, .bool a0.Den.fneg, .slice q0a a0.Den.fmag.length c_a0_3] := emk q0m
 replace q0i : Ep1 7 = .pointer (some ⟨b3, 0, none⟩) := emk q0i
 replace q0j : Ep1 8 = .agg #[.bool b1.Num.fneg, .slice q6 b1.Num.fmag.length c_b1_1] := emk q0j
 replace q0c : Ep1 9 = .agg #[.bool q4.fneg, .slice (adOf (partOf 1 (Ep1 9))) q4.fmag.length (capOf (partOf 1 (Ep1 9)))] ∧ RdS (RpI .u32) ρ (adOf (partOf 1 (Ep1 9))) q4.fmag.length (capOf (partOf 1 (Ep1 9))) q4.fmag := emk q0c
 have q_ := id q0c; obtain ⟨-, q0t⟩ := q_
 replace q0k : Ep1 10 = .pointer (some ⟨b3, 2, none⟩) := emk q0k
 replace q0l : Ep1 11 = .agg #[.bool b1.Den.fneg, .slice q5 b1.Den.fmag.length c_b1_3] := emk q0l
 replace q0n : Ep1 12 = .agg #[.bool q4.fneg, .slice (adOf (partOf 1 (Ep1 9))) q4.fmag.length (capOf (partOf 1 (Ep1 9))), .bool b1.Den.fneg, .slice q5 b1.Den.fmag.length c_b1_3] := emk q0n
 replace q0b : Ep1 13 = .tuple #[.agg #[.bool q2.1.Num.fneg, .slice (adOf (partOf 1 (partOf 0 (Ep1 13)))) q2.1.Num.fmag.length (capOf (partOf 1 (partOf 0 (Ep1 13)))), .bool q2.1.Den.fneg, .slice (adOf (partOf 3 (partOf 0 (Ep1 13)))) q2.1.Den.fmag.length (capOf (partOf 3 (partOf 0 (Ep1 13))))], .int .i64 q2.2] := emk q0b
 replace q0q : Ep1 14 = .agg #[.bool q2.1.Num.fneg, .slice (adOf (partOf 1 (partOf 0 (Ep1 13)))) q2.1.Num.fmag.length (capOf (partOf 1 (partOf 0 (Ep1 13)))), .bool q2.1.Den.fneg, .slice (adOf (partOf 3 (partOf 0 (Ep1 13)))) q2.1.Den.fmag.length (capOf (partOf 3 (partOf 0 (Ep1 13))))] := emk q0q
 replace q0r : Ep1 15 = .int .i64 q2.2 := emk q0r
 replace q0u : Ep1 5 = .int .i64 q2.2 := emk q0u
 replace hS : St w0 w' (cells b2 43 [.bool a0.Num.fneg, .slice q9 a0.Num.fmag.length c_a0_1, .bool a0.Den.fneg, .slice q0a a0.Den.fmag.length c_a0_3] :: cells b3 43 [.bool b1.Num.fneg, .slice q6 b1.Num.fmag.length c_b1_1, .bool b1.Den.fneg, .slice q5 b1.Den.fmag.length c_b1_3] :: ro ρ :: bunA (fun (q3 : Heap) => Le ρ q3 ∧ RdS (RpI .u32) q3 (adOf (partOf 1 (partOf 0 (Ep1 13)))) q2.1.Num.fmag.length (capOf (partOf 1 (partOf 0 (Ep1 13)))) q2.1.Num.fmag ∧ RdS (RpI .u32) q3 (adOf (partOf 3 (partOf 0 (Ep1 13)))) q2.1.Den.fmag.length (capOf (partOf 3 (partOf 0 (Ep1 13)))) q2.1.Den.fmag) (fun (q3 : Heap) => [roD ρ q3]) :: cells b4 43 [.bool q2.1.Num.fneg, .slice (adOf (partOf 1 (partOf 0 (Ep1 13)))) q2.1.Num.fmag.length (capOf (partOf 1 (partOf 0 (Ep1 13)))), .bool q2.1.Den.fneg, .slice (adOf (partOf 3 (partOf 0 (Ep1 13)))) q2.1.Den.fmag.length (capOf (partOf 3 (partOf 0 (Ep1 13))))] :: (l)) := emk hS
 have q_ := St.unbun (hS.pull 3); obtain ⟨q3, ⟨q0v, q7, q8⟩, hS⟩ := q_
 have q_ := St.ro_join (hS.pull 3) (Le.refl _) q0v; obtain ⟨q1a, q19, q0s, hS, q1d⟩ := q_
 have e_ := sinj hF; subst e_
 exact x_return ⟨_, ⟨_, _, _, rfl, (hE1 4 rfl), ldvA agg_43 rfl (fun j v hj => by rw [add0]; exact St.cell (hS.pull 3) hj), _, _, rfl, q0u, rfl⟩, q1a, (adOf (partOf 1 (partOf 0 (Ep1 13)))), q2.1.Num.fmag.length, (capOf (partOf 1 (partOf 0 (Ep1 13)))), (adOf (partOf 3 (partOf 0 (Ep1 13)))), q2.1.Den.fmag.length, (capOf (partOf 3 (partOf 0 (Ep1 13)))), rfl, q19, (q7.le q0s), (q8.le q0s), ((((hS.pull 1).drop.pull 1).drop.pull 1).drop)⟩
attribute [irreducible] P_exact_Diff

def P_place_squares_L3 (l_0 : List T_exact_Ratio) : (Int × Bool × List Int × Bool × List Int × Bool × List Int × Bool × List Int) → Option ((Int × Bool × List Int × Bool × List Int × Bool × List Int × Bool × List Int) ⊕ ((Bool × List Int × Bool × List Int × Bool × List Int × Bool × List Int) ⊕ (T_exact_Ratio × Int))) := fun (q2, q3, q4, q5, q6, q7, q8, q9, q0a) =>
 if q2 < (l_0.length : Int) then
  ck (inb q2 l_0.length) <|
  lv (gt l_0 q2) fun q0f =>
  bd (P_exact_Prod q0f q0f) fun q0g =>
  bd (
   if q0g.2 = 0 then
    bd (P_exact_Sum (T_exact_Ratio.mk (T_exact_Int.mk q7 q8) (T_exact_Int.mk q9 q0a)) q0g.1) fun q0b =>
    some (q0b.2, q0b.1.Num.fneg, q0b.1.Num.fmag, q0b.1.Den.fneg, q0b.1.Den.fmag)
   else
    some (q0g.2, q7, q8, q9, q0a)) fun (q0d, q0h, q0i, q0j, q0k) =>
  bd (
   if q0d = 0 then
    bd (P_exact_Sum (T_exact_Ratio.mk (T_exact_Int.mk q3 q4) (T_exact_Int.mk q5 q6)) q0f) fun q0c =>
    some (q0c.2, q0c.1.Num.fneg, q0c.1.Num.fmag, q0c.1.Den.fneg, q0c.1.Den.fmag)
   else
    some (q0d, q3, q4, q5, q6)) fun (q0e, q0l, q0m, q0n, q0o) =>
  if q0e ≠ 0 then
   some (Sum.inr (Sum.inr ((T_exact_Ratio.mk (T_exact_Int.mk false []) (T_exact_Int.mk false [])), q0e)))
  else
   ar (q2 + 1) fun x45 =>
   some (Sum.inl (x45, q0l, q0m, q0n, q0o, q0h, q0i, q0j, q0k))
 else
  some (Sum.inr (Sum.inl (q3, q4, q5, q6, q7, q8, q9, q0a)))
def P_place_squares (l_0 : List T_exact_Ratio) : Option (T_exact_Ratio × Int) :=
 bd (P_exact_Whole 0) fun q6 =>
 bd (P_exact_Whole 0) fun q7 =>
 bs (
  lp (P_place_squares_L3 l_0) fuel (0, q6.Num.fneg, q6.Num.fmag, q6.Den.fneg, q6.Den.fmag, q7.Num.fneg, q7.Num.fmag, q7.Den.fneg, q7.Den.fmag)) (fun y => some y) fun (q2, q3, q4, q5, q0b, q0c, q0d, q0e) =>
 bd (P_exact_Whole (l_0.length : Int)) fun q0f =>
 bd (P_exact_Prod (T_exact_Ratio.mk (T_exact_Int.mk q0b q0c) (T_exact_Int.mk q0d q0e)) q0f) fun q8 =>
 if q8.2 ≠ 0 then
  some ((T_exact_Ratio.mk (T_exact_Int.mk false []) (T_exact_Int.mk false [])), q8.2)
 else
  bd (P_exact_Prod (T_exact_Ratio.mk (T_exact_Int.mk q2 q3) (T_exact_Int.mk q4 q5)) (T_exact_Ratio.mk (T_exact_Int.mk q2 q3) (T_exact_Int.mk q4 q5))) fun q9 =>
  if q9.2 ≠ 0 then
   some ((T_exact_Ratio.mk (T_exact_Int.mk false []) (T_exact_Int.mk false [])), q9.2)
  else
   bd (P_exact_Diff q8.1 q9.1) fun q0a =>
   some (q0a.1, q0a.2)
theorem c_place_squares {w0 w : World} {l : List Assn} {ρ : Heap} {q0w : Option Addr} {q4w : Nat} {c_l_0 : Nat} {l_0 : List T_exact_Ratio} {r : (T_exact_Ratio × Int)} (hF : P_place_squares l_0 = some r) (q4o : RdS R_exact_Ratio ρ q0w q4w c_l_0 l_0) (hS : St w0 w (ro ρ :: l)) :
  Calls Try.prog 32 #[.slice q0w q4w c_l_0] w fun e w' => ∃ (ρ' : Heap) (q3p : Option Addr) (q3q : Nat) (c_y0_ret_1 : Nat) (q3r : Option Addr) (q3s : Nat) (c_y0_ret_3 : Nat), e = .returned (.tuple #[.agg #[.bool r.1.Num.fneg, .slice q3p q3q c_y0_ret_1, .bool r.1.Den.fneg, .slice q3r q3s c_y0_ret_3], .int .i64 r.2]) ∧ Le ρ ρ' ∧ RdS (RpI .u32) ρ' q3p q3q c_y0_ret_1 r.1.Num.fmag ∧ RdS (RpI .u32) ρ' q3r q3s c_y0_ret_3 r.1.Den.fmag ∧ St w0 w' (ro ρ' :: l) := by
 have e_ := q4o.n; subst e_
 refine enterC Try.func32 rfl 73 rfl (by simp) ?_
 refine x_seq <| x_region <| ?_
 refine o_alloc zero_43 hS (fun b2 w' hS => ?_)
 replace hF := bd_s hF; obtain ⟨q22, q60, hF⟩ := hF
 refine p (yl_assign rfl) <| x_done <| x_seq <| x_region <| ?_
 have hcall := c_exact_Whole q60  (hS.pull 1)
 refine o_cc call_11 (args1 rfl) hcall ?_
 rintro e w' ⟨q6b, q25, q57, c_y0_ret_1_1_0, q26, q58, c_y0_ret_3_1_0, rfl, q0j, q27, q28, hS⟩
 refine ⟨_, rfl, ?_⟩
 have e_ := q27.n; subst e_
 have e_ := q28.n; subst e_
 replace hF := bd_s hF; obtain ⟨q23, q61, hF⟩ := hF
 have hcall := c_exact_Whole q61  hS
 refine o_cc call_11 (args1 rfl) hcall ?_
 rintro e w' ⟨q4c, q29, q59, c_y0_ret_1_1_1, q2a, q5a, c_y0_ret_3_1_1, rfl, q0d, q2b, q2c, hS⟩
 refine ⟨_, rfl, ?_⟩
 have e_ := q2b.n; subst e_
 have e_ := q2c.n; subst e_
 refine o_alloc zero_43 hS (fun b4 w' hS => ?_)
 refine o_alloc zero_43 hS (fun b5 w' hS => ?_)
 refine o_storeAgg (news := [.bool q22.Num.fneg, .slice q25 q22.Num.fmag.length c_y0_ret_1_1_0, .bool q22.Den.fneg, .slice q26 q22.Den.fmag.length c_y0_ret_3_1_0]) agg_43 rfl rfl rfl (by simp [over_length]) (hS.pull 1) (fun w' hS => ?_)
 refine o_storeAgg (news := [.bool q23.Num.fneg, .slice q29 q23.Num.fmag.length c_y0_ret_1_1_1, .bool q23.Den.fneg, .slice q2a q23.Den.fmag.length c_y0_ret_3_1_1]) agg_43 rfl rfl rfl (by simp [over_length]) (hS.pull 1) (fun w' hS => ?_)
 refine x_done <| x_seq <| x_seq <| x_region <|
  p (yl_move rfl) <| p (yl_len_slice usl_64 rfl) <| p (yl_move rfl) <| x_done <| ?_
 replace hF := bs_s hF; obtain ⟨oL3, hLL3, hF⟩ := hF
 refine x_join (fun E w => ∃ (q0b : Heap) (q10 : Option Addr) (q36 : Nat) (c_b4_1_L3 : Nat) (q11 : Option Addr) (q37 : Nat) (c_b4_3_L3 : Nat) (q9 : Option Addr) (q38 : Nat) (c_b5_1_L3 : Nat) (q0a : Option Addr) (q39 : Nat) (c_b5_3_L3 : Nat) (q1g : Bool) (q1h : List Int) (q1i : Bool) (q1j : List Int) (q0l : Bool) (q0m : List Int) (q0n : Bool) (q0o : List Int), (Sum.inl (q1g, q1h, q1i, q1j, q0l, q0m, q0n, q0o)) = oL3 ∧ Le q4c q0b ∧ E 0 = .slice q0w l_0.length c_l_0 ∧ E 2 = .pointer (some ⟨b2, 0, none⟩) ∧ E 4 = .pointer (some ⟨b4, 0, none⟩) ∧ E 5 = .pointer (some ⟨b5, 0, none⟩) ∧ RdS (RpI .u32) q0b q10 q36 c_b4_1_L3 q1h ∧ RdS (RpI .u32) q0b q11 q37 c_b4_3_L3 q1j ∧ RdS (RpI .u32) q0b q9 q38 c_b5_1_L3 q0m ∧ RdS (RpI .u32) q0b q0a q39 c_b5_3_L3 q0o ∧ St w0 w (cells b2 43 [.bool false, .slice none 0 0, .bool false, .slice none 0 0] :: cells b4 43 [.bool q1g, .slice q10 q36 c_b4_1_L3, .bool q1i, .slice q11 q37 c_b4_3_L3] :: cells b5 43 [.bool q0l, .slice q9 q38 c_b5_1_L3, .bool q0n, .slice q0a q39 c_b5_3_L3] :: ro q0b :: l)) ?_ ?_
 ·refine x_block ?_
  refine x_loop (fun k_ E w => ∃ (q1r : Heap) (q0e : Option Addr) (q2t : Nat) (c_b4_1_L3h : Nat) (q0f : Option Addr) (q2u : Nat) (c_b4_3_L3h : Nat) (q0u : Option Addr) (q2v : Nat) (c_b5_1_L3h : Nat) (q0v : Option Addr) (q2w : Nat) (c_b5_3_L3h : Nat) (q1k : Int) (q0x : Bool) (q0g : List Int) (q0y : Bool) (q0h : List Int) (q14 : Bool) (q0r : List Int) (q15 : Bool) (q0s : List Int), lp (P_place_squares_L3 l_0) k_ (q1k, q0x, q0g, q0y, q0h, q14, q0r, q15, q0s) = some oL3 ∧ Le q4c q1r ∧ E 0 = .slice q0w l_0.length c_l_0 ∧ E 2 = .pointer (some ⟨b2, 0, none⟩) ∧ E 4 = .pointer (some ⟨b4, 0, none⟩) ∧ E 5 = .pointer (some ⟨b5, 0, none⟩) ∧ E 13 = .slice q0w l_0.length c_l_0 ∧ E 14 = .int .i64 (l_0.length : Int) ∧ E 15 = .int .i64 q1k ∧ RdS (RpI .u32) q1r q0e q2t c_b4_1_L3h q0g ∧ RdS (RpI .u32) q1r q0f q2u c_b4_3_L3h q0h ∧ RdS (RpI .u32) q1r q0u q2v c_b5_1_L3h q0r ∧ RdS (RpI .u32) q1r q0v q2w c_b5_3_L3h q0s ∧ St w0 w (cells b2 43 [.bool false, .slice none 0 0, .bool false, .slice none 0 0] :: cells b4 43 [.bool q0x, .slice q0e q2t c_b4_1_L3h, .bool q0y, .slice q0f q2u c_b4_3_L3h] :: cells b5 43 [.bool q14, .slice q0u q2v c_b5_1_L3h, .bool q15, .slice q0v q2w c_b5_3_L3h] :: ro q1r :: l)) fuel ⟨q4c, q25, q22.Num.fmag.length, c_y0_ret_1_1_0, q26, q22.Den.fmag.length, c_y0_ret_3_1_0, q29, q23.Num.fmag.length, c_y0_ret_1_1_1, q2a, q23.Den.fmag.length, c_y0_ret_3_1_1, 0, q22.Num.fneg, q22.Num.fmag, q22.Den.fneg, q22.Den.fmag, q23.Num.fneg, q23.Num.fmag, q23.Den.fneg, q23.Den.fmag, hLL3, (Le.refl _), rfl, rfl, rfl, rfl, rfl, rfl, rfl, (q27.le q0d), (q28.le q0d), q2b, q2c, ((((hS.pull 2).pull 1).pull 2).pull 3)⟩ ?_
  rintro kL3 E w ⟨q1r, q0e, q2t, c_b4_1_L3h, q0f, q2u, c_b4_3_L3h, q0u, q2v, c_b5_1_L3h, q0v, q2w, c_b5_3_L3h, q1k, q0x, q0g, q0y, q0h, q14, q0r, q15, q0s, hLL3, q0c, q4d, q4e, q4f, q3a, q45, q46, q3e, q19, q1a, q1b, q1c, hS⟩
  have e_ := q19.n; subst e_
  have e_ := q1a.n; subst e_
  have e_ := q1b.n; subst e_
  have e_ := q1c.n; subst e_
  replace hLL3 := lp_s hLL3; obtain ⟨kL3, obL3, rfl, hFL3, hLL3⟩ := hLL3
  refine x_seq <| x_region <| p (yl_lss q3e q46) <| x_done <|
   x_seq <|
   x_cond_p (q1k < (l_0.length : Int)) rfl (fun hc16 => ?_) (fun hc16 => ?_)
  ·replace hFL3 := it_t hc16 hFL3
   replace hFL3 := ck_s hFL3; obtain ⟨q4x, hFL3⟩ := hFL3
   replace hFL3 := lv_s hFL3; obtain ⟨q8, q62, hFL3⟩ := hFL3
   have q_ := q4o.get q4x; obtain ⟨q6e, q4y, q63⟩ := q_
   rw [← q62] at q4y
   obtain ⟨q2d, q6c, q2e, q2f, q6d, q2g, rfl, q3t, q3u⟩ := q4y
   have e_ := q3t.n; subst e_
   have e_ := q3u.n; subst e_
   refine x_skip <| x_seq <| x_block <| x_seq <|
    x_region <| p (yix_f sl_64 q45 q3e (q4o.le ((q0j.trans q0d).trans q0c)) q4x) <| pa (v := .agg #[.bool q8.Num.fneg, .slice q2d q8.Num.fmag.length q2e, .bool q8.Den.fneg, .slice q2f q8.Den.fmag.length q2g]) (at_loadAgg agg_43 rfl rfl (Elt.every (Elt.le q63 ((q0j.trans q0d).trans q0c)) (hS.pull 3))) <| ?_
   refine o_alloc zero_43 hS (fun b7 w' hS => ?_)
   refine o_storeAgg (news := [.bool q8.Num.fneg, .slice q2d q8.Num.fmag.length q2e, .bool q8.Den.fneg, .slice q2f q8.Den.fmag.length q2g]) agg_43 rfl rfl rfl (by simp [over_length]) hS (fun w' hS => ?_)
   replace hFL3 := bd_s hFL3; obtain ⟨q24, q64, hFL3⟩ := hFL3
   refine x_done <| x_seq <| x_region <| pa (v := .agg #[.bool q8.Num.fneg, .slice q2d q8.Num.fmag.length q2e, .bool q8.Den.fneg, .slice q2f q8.Den.fmag.length q2g]) (ld_sub agg_43 rfl rfl rfl hS) <|
    pa (v := .agg #[.bool q8.Num.fneg, .slice q2d q8.Num.fmag.length q2e, .bool q8.Den.fneg, .slice q2f q8.Den.fmag.length q2g]) (ld_sub agg_43 rfl rfl rfl hS) <| ?_
   have hcall := c_exact_Prod q64 (q3t.le ((q0j.trans q0d).trans q0c)) (q3u.le ((q0j.trans q0d).trans q0c)) (q3t.le ((q0j.trans q0d).trans q0c)) (q3u.le ((q0j.trans q0d).trans q0c)) (hS.pull 4)
   refine o_cc call_33 (args2 rfl rfl) hcall ?_
   rintro e w' ⟨q4q, q2h, q5b, c_y0_ret_1_5_2, q2i, q5c, c_y0_ret_3_5_2, rfl, q0k, q2j, q2k, hS⟩
   refine ⟨_, rfl, ?_⟩
   have e_ := q2j.n; subst e_
   have e_ := q2k.n; subst e_
   refine p (yl_move rfl) <| p (yl_extract rfl rfl) <| p (yl_extract rfl rfl) <| ?_
   refine o_alloc zero_43 hS (fun b8 w' hS => ?_)
   refine o_storeAgg (news := [.bool q24.1.Num.fneg, .slice q2h q24.1.Num.fmag.length c_y0_ret_1_5_2, .bool q24.1.Den.fneg, .slice q2i q24.1.Den.fmag.length c_y0_ret_3_5_2]) agg_43 rfl rfl rfl (by simp [over_length]) hS (fun w' hS => ?_)
   refine p (yl_assign rfl) <| x_done <| x_seq <| x_seq <|
    x_region <| p (yl_move rfl) <| p (yl_eql rfl rfl) <| x_done <| ?_
   replace hFL3 := bd_s hFL3; obtain ⟨oc26, hFc26, hFL3⟩ := hFL3
   refine x_join (fun E w => ∃ (q2x : Heap) (q12 : Option Addr) (q2y : Nat) (c_b5_1_c26 : Nat) (q13 : Option Addr) (q2z : Nat) (c_b5_3_c26 : Nat) (q3b : Int) (q1l : Bool) (q16 : List Int) (q1m : Bool) (q17 : List Int), (q3b, q1l, q16, q1m, q17) = oc26 ∧ Le q4q q2x ∧ E 0 = .slice q0w l_0.length c_l_0 ∧ E 2 = .pointer (some ⟨b2, 0, none⟩) ∧ E 4 = .pointer (some ⟨b4, 0, none⟩) ∧ E 5 = .pointer (some ⟨b5, 0, none⟩) ∧ E 7 = .pointer (some ⟨b7, 0, none⟩) ∧ E 9 = .int .i64 q3b ∧ E 13 = .slice q0w l_0.length c_l_0 ∧ E 14 = .int .i64 (l_0.length : Int) ∧ E 15 = .int .i64 q1k ∧ RdS (RpI .u32) q2x q12 q2y c_b5_1_c26 q16 ∧ RdS (RpI .u32) q2x q13 q2z c_b5_3_c26 q17 ∧ St w0 w (cells b2 43 [.bool false, .slice none 0 0, .bool false, .slice none 0 0] :: cells b4 43 [.bool q0x, .slice q0e q0g.length c_b4_1_L3h, .bool q0y, .slice q0f q0h.length c_b4_3_L3h] :: cells b5 43 [.bool q1l, .slice q12 q2y c_b5_1_c26, .bool q1m, .slice q13 q2z c_b5_3_c26] :: cells b7 43 [.bool q8.Num.fneg, .slice q2d q8.Num.fmag.length q2e, .bool q8.Den.fneg, .slice q2f q8.Den.fmag.length q2g] :: ro q2x :: l)) ?_ ?_
   ·refine x_cond_p (q24.2 = 0) rfl (fun hc26 => ?_) (fun hc26 => ?_)
    ·replace hFc26 := it_t hc26 hFc26
     replace hFc26 := bd_s hFc26; obtain ⟨q1n, q65, hFc26⟩ := hFc26
     refine x_region <| pa (v := .agg #[.bool q14, .slice q0u q0r.length c_b5_1_L3h, .bool q15, .slice q0v q0s.length c_b5_3_L3h]) (ld_sub agg_43 q3a rfl rfl (hS.pull 5)) <| pa (v := .agg #[.bool q24.1.Num.fneg, .slice q2h q24.1.Num.fmag.length c_y0_ret_1_5_2, .bool q24.1.Den.fneg, .slice q2i q24.1.Den.fmag.length c_y0_ret_3_5_2]) (ld_sub agg_43 rfl rfl rfl hS) <| ?_
     have hcall := c_exact_Sum q65 (q1b.le q0k) (q1c.le q0k) q2j q2k (hS.pull 1)
     refine o_cc call_18 (args2 rfl rfl) hcall ?_
     rintro e w' ⟨q5o, q2l, q5d, c_y0_ret_1_7_2, q2m, q5e, c_y0_ret_3_7_2, rfl, q5p, q2n, q2o, hS⟩
     refine ⟨_, rfl, ?_⟩
     have e_ := q2n.n; subst e_
     have e_ := q2o.n; subst e_
     refine p (yl_move rfl) <| p (yl_extract rfl rfl) <| p (yl_extract rfl rfl) <| ?_
     refine o_storeAgg (news := [.bool q1n.1.Num.fneg, .slice q2l q1n.1.Num.fmag.length c_y0_ret_1_7_2, .bool q1n.1.Den.fneg, .slice q2m q1n.1.Den.fmag.length c_y0_ret_3_7_2]) agg_43 q3a rfl rfl (by simp [over_length]) (hS.pull 5) (fun w' hS => ?_)
     refine p (yl_assign rfl) <| x_done <| ?_
     exact x_inv ⟨q5o, q2l, q1n.1.Num.fmag.length, c_y0_ret_1_7_2, q2m, q1n.1.Den.fmag.length, c_y0_ret_3_7_2, q1n.2, q1n.1.Num.fneg, q1n.1.Num.fmag, q1n.1.Den.fneg, q1n.1.Den.fmag, (sinj hFc26), q5p, q4d, q4e, q4f, q3a, rfl, rfl, q45, q46, q3e, q2n, q2o, ((((((hS.pull 2).drop.pull 1).pull 2).pull 2).pull 4).pull 4)⟩
    ·replace hFc26 := it_f hc26 hFc26
     refine x_skip <| ?_
     exact x_inv ⟨q4q, q0u, q0r.length, c_b5_1_L3h, q0v, q0s.length, c_b5_3_L3h, q24.2, q14, q0r, q15, q0s, (sinj hFc26), (Le.refl _), q4d, q4e, q4f, q3a, rfl, rfl, q45, q46, q3e, (q1b.le q0k), (q1c.le q0k), ((((hS.drop.pull 1).pull 4).pull 4).pull 4)⟩
   rintro E w ⟨q2x, q12, q2y, c_b5_1_c26, q13, q2z, c_b5_3_c26, q3b, q1l, q16, q1m, q17, rfl, q0t, q4r, q4s, q3v, q4t, q5q, q4u, q4k, q4l, q4m, q3w, q3x, hS⟩
   have e_ := q3w.n; subst e_
   have e_ := q3x.n; subst e_
   refine x_seq <| x_seq <| x_region <| p (yl_move q4u) <|
    p (yl_eql rfl rfl) <| x_done <| ?_
   replace hFL3 := bd_s hFL3; obtain ⟨oc34, hFc34, hFL3⟩ := hFL3
   refine x_join (fun E w => ∃ (q30 : Heap) (q1d : Option Addr) (q31 : Nat) (c_b4_1_c34 : Nat) (q1e : Option Addr) (q32 : Nat) (c_b4_3_c34 : Nat) (q3y : Int) (q33 : Bool) (q1o : List Int) (q34 : Bool) (q1p : List Int), (q3y, q33, q1o, q34, q1p) = oc34 ∧ Le q2x q30 ∧ E 0 = .slice q0w l_0.length c_l_0 ∧ E 2 = .pointer (some ⟨b2, 0, none⟩) ∧ E 4 = .pointer (some ⟨b4, 0, none⟩) ∧ E 5 = .pointer (some ⟨b5, 0, none⟩) ∧ E 9 = .int .i64 q3y ∧ E 13 = .slice q0w l_0.length c_l_0 ∧ E 14 = .int .i64 (l_0.length : Int) ∧ E 15 = .int .i64 q1k ∧ RdS (RpI .u32) q30 q1d q31 c_b4_1_c34 q1o ∧ RdS (RpI .u32) q30 q1e q32 c_b4_3_c34 q1p ∧ St w0 w (cells b2 43 [.bool false, .slice none 0 0, .bool false, .slice none 0 0] :: cells b4 43 [.bool q33, .slice q1d q31 c_b4_1_c34, .bool q34, .slice q1e q32 c_b4_3_c34] :: cells b5 43 [.bool q1l, .slice q12 q16.length c_b5_1_c26, .bool q1m, .slice q13 q17.length c_b5_3_c26] :: ro q30 :: l)) ?_ ?_
   ·refine x_cond_p (q3b = 0) rfl (fun hc34 => ?_) (fun hc34 => ?_)
    ·replace hFc34 := it_t hc34 hFc34
     replace hFc34 := bd_s hFc34; obtain ⟨q1q, q66, hFc34⟩ := hFc34
     refine x_region <| pa (v := .agg #[.bool q0x, .slice q0e q0g.length c_b4_1_L3h, .bool q0y, .slice q0f q0h.length c_b4_3_L3h]) (ld_sub agg_43 q3v rfl rfl (hS.pull 1)) <| pa (v := .agg #[.bool q8.Num.fneg, .slice q2d q8.Num.fmag.length q2e, .bool q8.Den.fneg, .slice q2f q8.Den.fmag.length q2g]) (ld_sub agg_43 q5q rfl rfl (hS.pull 3)) <| ?_
     have hcall := c_exact_Sum q66 (q19.le (q0k.trans q0t)) (q1a.le (q0k.trans q0t)) (q3t.le ((((q0j.trans q0d).trans q0c).trans q0k).trans q0t)) (q3u.le ((((q0j.trans q0d).trans q0c).trans q0k).trans q0t)) (hS.pull 4)
     refine o_cc call_18 (args2 rfl rfl) hcall ?_
     rintro e w' ⟨q5r, q2p, q5f, c_y0_ret_1_9_2, q2q, q5g, c_y0_ret_3_9_2, rfl, q5s, q2r, q2s, hS⟩
     refine ⟨_, rfl, ?_⟩
     have e_ := q2r.n; subst e_
     have e_ := q2s.n; subst e_
     refine p (yl_move rfl) <| p (yl_extract rfl rfl) <| p (yl_extract rfl rfl) <| ?_
     refine o_storeAgg (news := [.bool q1q.1.Num.fneg, .slice q2p q1q.1.Num.fmag.length c_y0_ret_1_9_2, .bool q1q.1.Den.fneg, .slice q2q q1q.1.Den.fmag.length c_y0_ret_3_9_2]) agg_43 q3v rfl rfl (by simp [over_length]) (hS.pull 2) (fun w' hS => ?_)
     refine p (yl_assign rfl) <| x_done <| ?_
     exact x_inv ⟨q5r, q2p, q1q.1.Num.fmag.length, c_y0_ret_1_9_2, q2q, q1q.1.Den.fmag.length, c_y0_ret_3_9_2, q1q.2, q1q.1.Num.fneg, q1q.1.Num.fmag, q1q.1.Den.fneg, q1q.1.Den.fmag, (sinj hFc34), q5s, q4r, q4s, q3v, q4t, rfl, q4k, q4l, q4m, q2r, q2s, (((((hS.pull 4).drop.pull 1).pull 3).pull 2).pull 3)⟩
    ·replace hFc34 := it_f hc34 hFc34
     refine x_skip <| ?_
     exact x_inv ⟨q2x, q0e, q0g.length, c_b4_1_L3h, q0f, q0h.length, c_b4_3_L3h, q3b, q0x, q0g, q0y, q0h, (sinj hFc34), (Le.refl _), q4r, q4s, q3v, q4t, q4u, q4k, q4l, q4m, (q19.le (q0k.trans q0t)), (q1a.le (q0k.trans q0t)), (((((hS.pull 3).drop.pull 3).pull 3).pull 3).pull 3)⟩
   rintro E w ⟨q30, q1d, q31, c_b4_1_c34, q1e, q32, c_b4_3_c34, q3y, q33, q1o, q34, q1p, rfl, q35, q5t, q4g, q5u, q5v, q4v, q5h, q5i, q5j, q3z, q40, hS⟩
   have e_ := q3z.n; subst e_
   have e_ := q40.n; subst e_
   refine x_seq <| x_region <| p (yl_move q4v) <| p (yl_neq rfl rfl) <|
    x_done <|
    x_cond_p (q3y ≠ 0) rfl (fun hc42 => ?_) (fun hc42 => ?_)
   ·replace hFL3 := it_t hc42 hFL3
    refine x_seq <| x_region <| p (v := .agg #[.bool false, .slice none 0 0, .bool false, .slice none 0 0]) (yl_build bld_43 bldf_43 (parts_eq pt0) (by kernel_rfl)) <| p (yl_move q4v) <| ?_
    refine o_storeAgg (news := [.bool false, .slice none 0 0, .bool false, .slice none 0 0]) agg_43 q4g rfl rfl (by simp [over_length]) hS (fun w' hS => ?_)
    refine p (yl_assign rfl) <| x_done <| ?_
    have e_ := sinj hFL3; subst e_
    have e_ := (show _ = oL3 from hLL3); subst e_
    have e_ := sinj hF; subst e_
    exact x_return ⟨_, ⟨_, _, _, rfl, q4g, ldvA agg_43 rfl (fun j v hj => by rw [add0]; exact St.cell hS hj), _, _, rfl, rfl, rfl⟩, q30, none, 0, 0, none, 0, 0, rfl, (((((q0j.trans q0d).trans q0c).trans q0k).trans q0t).trans q35), (RdS.nil (A := none) (c := 0)), (RdS.nil (A := none) (c := 0)), hS.drop.drop.drop⟩
   ·replace hFL3 := it_f hc42 hFL3
    replace hFL3 := ar_s hFL3; obtain ⟨x45, hx45, hFL3⟩ := hFL3
    refine x_skip <| x_blk <| x_region <| p (yadd q5j rfl hx45) <|
     p (yl_move rfl) <| x_done <| ?_
    have e_ := sinj hFL3; subst e_
    exact x_inv ⟨kL3, Nat.lt_succ_self _, q30, q1d, q1o.length, c_b4_1_c34, q1e, q1p.length, c_b4_3_c34, q12, q16.length, c_b5_1_c26, q13, q17.length, c_b5_3_c26, x45, q33, q1o, q34, q1p, q1l, q16, q1m, q17, hLL3, (((q0c.trans q0k).trans q0t).trans q35), q5t, q4g, q5u, q5v, q5h, q5i, rfl, q3z, q40, (q3w.le q35), (q3x.le q35), ((((hS.pull 3).pull 3).pull 3).pull 3)⟩
  ·replace hFL3 := it_f hc16 hFL3
   refine x_exitTo _ rfl <| ?_
   have e_ := sinj hFL3; subst e_
   exact x_inv ⟨q1r, q0e, q0g.length, c_b4_1_L3h, q0f, q0h.length, c_b4_3_L3h, q0u, q0r.length, c_b5_1_L3h, q0v, q0s.length, c_b5_3_L3h, q0x, q0g, q0y, q0h, q14, q0r, q15, q0s, hLL3, q0c, q4d, q4e, q4f, q3a, q19, q1a, q1b, q1c, ((((hS.pull 3).pull 3).pull 3).pull 3)⟩
 rintro E w ⟨q0b, q10, q36, c_b4_1_L3, q11, q37, c_b4_3_L3, q9, q38, c_b5_1_L3, q0a, q39, c_b5_3_L3, q1g, q1h, q1i, q1j, q0l, q0m, q0n, q0o, rfl, q47, q67, q3f, q4a, q4p, q3c, q3d, q48, q49, hS⟩
 have e_ := q3c.n; subst e_
 have e_ := q3d.n; subst e_
 have e_ := q48.n; subst e_
 have e_ := q49.n; subst e_
 refine x_seq <| ?_
 replace hF := bd_s hF; obtain ⟨q4, q5w, hF⟩ := hF
 replace hF := bd_s hF; obtain ⟨q2, q5x, hF⟩ := hF
 refine x_par (w0 := w0) [⟨[], [], [47], [0], [], []⟩, ⟨[], [], [48], [], [], []⟩, ⟨[1], [1], [49], [], [], []⟩, ⟨[1, 2], [2], [50], [1], [], [2]⟩, ⟨[0, 1, 2, 3], [0, 3], [51], [1], [2], [3]⟩, ⟨[0, 1, 2, 3, 4], [4], [46, 51], [], [], []⟩, ⟨[0, 1, 2, 3, 4, 5], [4, 5], [51, 52], [], [], []⟩, ⟨[0, 1, 2, 3, 4, 5], [4, 5], [53], [], [], []⟩, ⟨[0, 1, 2, 3, 4, 5, 6], [4, 6], [], [], [0], [4]⟩, ⟨[0, 1, 2, 3, 4, 5, 6, 7, 8], [7], [10], [], [], []⟩] [⟨none, (some 8), []⟩, ⟨none, none, []⟩, ⟨(some 3), (some 4), [50]⟩, ⟨(some 4), none, [50, 51]⟩, ⟨(some 8), none, [51]⟩] [10, 46, 47, 48, 49, 50, 51, 52, 53] [0, 1] [1, 3, 4] [0, 1, 2, 3, 4, 5, 6, 7, 9] [fun Ep13 => Ep13 47 = .agg #[.bool q0l, .slice q9 q0m.length c_b5_1_L3, .bool q0n, .slice q0a q0o.length c_b5_3_L3], fun Ep13 => Ep13 48 = .slice q0w l_0.length c_l_0, fun Ep13 => Ep13 49 = .int .i64 (l_0.length : Int), fun Ep13 => Ep13 50 = .agg #[.bool q4.Num.fneg, .slice (adOf (partOf 1 (Ep13 50))) q4.Num.fmag.length (capOf (partOf 1 (Ep13 50))), .bool q4.Den.fneg, .slice (adOf (partOf 3 (Ep13 50))) q4.Den.fmag.length (capOf (partOf 3 (Ep13 50)))], fun Ep13 => Ep13 51 = .tuple #[.agg #[.bool q2.1.Num.fneg, .slice (adOf (partOf 1 (partOf 0 (Ep13 51)))) q2.1.Num.fmag.length (capOf (partOf 1 (partOf 0 (Ep13 51)))), .bool q2.1.Den.fneg, .slice (adOf (partOf 3 (partOf 0 (Ep13 51)))) q2.1.Den.fmag.length (capOf (partOf 3 (partOf 0 (Ep13 51))))], .int .i64 q2.2], fun Ep13 => Ep13 46 = .tuple #[.agg #[.bool q2.1.Num.fneg, .slice (adOf (partOf 1 (partOf 0 (Ep13 51)))) q2.1.Num.fmag.length (capOf (partOf 1 (partOf 0 (Ep13 51)))), .bool q2.1.Den.fneg, .slice (adOf (partOf 3 (partOf 0 (Ep13 51)))) q2.1.Den.fmag.length (capOf (partOf 3 (partOf 0 (Ep13 51))))], .int .i64 q2.2], fun Ep13 => Ep13 52 = .agg #[.bool q2.1.Num.fneg, .slice (adOf (partOf 1 (partOf 0 (Ep13 51)))) q2.1.Num.fmag.length (capOf (partOf 1 (partOf 0 (Ep13 51)))), .bool q2.1.Den.fneg, .slice (adOf (partOf 3 (partOf 0 (Ep13 51)))) q2.1.Den.fmag.length (capOf (partOf 3 (partOf 0 (Ep13 51))))], fun Ep13 => Ep13 53 = .int .i64 q2.2, fun Ep13 => True, fun Ep13 => Ep13 10 = .int .i64 q2.2] [fun Ep13 => cells b5 43 [.bool q0l, .slice q9 q0m.length c_b5_1_L3, .bool q0n, .slice q0a q0o.length c_b5_3_L3], fun Ep13 => ro q0b, fun Ep13 => bunA (fun (q5 : Heap) => Le q0b q5 ∧ RdS (RpI .u32) q5 (adOf (partOf 1 (Ep13 50))) q4.Num.fmag.length (capOf (partOf 1 (Ep13 50))) q4.Num.fmag ∧ RdS (RpI .u32) q5 (adOf (partOf 3 (Ep13 50))) q4.Den.fmag.length (capOf (partOf 3 (Ep13 50))) q4.Den.fmag) (fun (q5 : Heap) => [roD q0b q5]), fun Ep13 => bunA (fun (q3 : Heap) => Le q0b q3 ∧ RdS (RpI .u32) q3 (adOf (partOf 1 (Ep13 50))) q4.Num.fmag.length (capOf (partOf 1 (Ep13 50))) q4.Num.fmag ∧ RdS (RpI .u32) q3 (adOf (partOf 3 (Ep13 50))) q4.Den.fmag.length (capOf (partOf 3 (Ep13 50))) q4.Den.fmag ∧ RdS (RpI .u32) q3 (adOf (partOf 1 (partOf 0 (Ep13 51)))) q2.1.Num.fmag.length (capOf (partOf 1 (partOf 0 (Ep13 51)))) q2.1.Num.fmag ∧ RdS (RpI .u32) q3 (adOf (partOf 3 (partOf 0 (Ep13 51)))) q2.1.Den.fmag.length (capOf (partOf 3 (partOf 0 (Ep13 51)))) q2.1.Den.fmag) (fun (q3 : Heap) => [roD q0b q3]), fun Ep13 => cells b5 43 [.bool q2.1.Num.fneg, .slice (adOf (partOf 1 (partOf 0 (Ep13 51)))) q2.1.Num.fmag.length (capOf (partOf 1 (partOf 0 (Ep13 51)))), .bool q2.1.Den.fneg, .slice (adOf (partOf 3 (partOf 0 (Ep13 51)))) q2.1.Den.fmag.length (capOf (partOf 3 (partOf 0 (Ep13 51))))]] mixed (by kernel_rfl) ((hS.pull 3).pull 3) ?_ ?_
 ·refine ⟨?_, ?_, ?_, ?_, ?_, ?_, ?_, ?_, ?_, ?_, trivial⟩
  ·intro Ep13 w l' hE13 hO13 hF_ hS
   replace hS : St w0 w (cells b5 43 [.bool q0l, .slice q9 q0m.length c_b5_1_L3, .bool q0n, .slice q0a q0o.length c_b5_3_L3] :: l') := emk hS
   refine pa (v := .agg #[.bool q0l, .slice q9 q0m.length c_b5_1_L3, .bool q0n, .slice q0a q0o.length c_b5_3_L3]) (ld_sub agg_43 ((hE13 5 rfl).trans q4p) rfl rfl hS) <| x_done <| ?_
   refine x_fin ⟨⟨_, rfl⟩, rfl, ?_⟩
   exact emk hS
  ·intro Ep13 w l' hE13 hO13 hF_ hS
   refine p (yl_move ((hE13 0 rfl).trans q67)) <| x_done <| ?_
   refine x_fin ⟨⟨_, rfl⟩, rfl, ?_⟩
   exact emk hS
  ·intro Ep13 w l' hE13 hO13 hF_ hS
   obtain ⟨q3g, -⟩ := hF_
   replace q3g : Ep13 48 = .slice q0w l_0.length c_l_0 := emk q3g
   refine p (yl_len_slice usl_64 q3g) <| x_done <| ?_
   refine x_fin ⟨⟨_, rfl⟩, rfl, ?_⟩
   exact emk hS
  ·intro Ep13 w l' hE13 hO13 hF_ hS
   obtain ⟨q3h, -⟩ := hF_
   replace q3h : Ep13 49 = .int .i64 (l_0.length : Int) := emk q3h
   replace hS : St w0 w (ro q0b :: l') := emk hS
   have hcall := c_exact_Whole q5w  hS
   refine o_cc call_11 (args1 q3h) hcall ?_
   rintro e w' ⟨q5, q41, q4z, c_y0_ret_1_13_3, q42, q50, c_y0_ret_3_13_3, rfl, q4n, q6, q7, hS⟩
   refine ⟨_, rfl, ?_⟩
   have e_ := q6.n; subst e_
   have e_ := q7.n; subst e_
   refine x_done <| ?_
   refine x_fin ⟨⟨_, rfl⟩, rfl, ?_⟩
   replace hS := St.ro_split q4n hS
   replace hS := St.bun (Φ := (fun (q5 : Heap) => Le q0b q5 ∧ RdS (RpI .u32) q5 q41 q4.Num.fmag.length c_y0_ret_1_13_3 q4.Num.fmag ∧ RdS (RpI .u32) q5 q42 q4.Den.fmag.length c_y0_ret_3_13_3 q4.Den.fmag)) (L := (fun (q5 : Heap) => [roD q0b q5])) q5 ⟨q4n, q6, q7⟩ (hS.pull 1)
   exact emk (hS.pull 1)
  ·intro Ep13 w l' hE13 hO13 hF_ hS
   obtain ⟨q3i, q3j, -⟩ := hF_
   replace q3i : Ep13 47 = .agg #[.bool q0l, .slice q9 q0m.length c_b5_1_L3, .bool q0n, .slice q0a q0o.length c_b5_3_L3] := emk q3i
   replace q3j : Ep13 50 = .agg #[.bool q4.Num.fneg, .slice (adOf (partOf 1 (Ep13 50))) q4.Num.fmag.length (capOf (partOf 1 (Ep13 50))), .bool q4.Den.fneg, .slice (adOf (partOf 3 (Ep13 50))) q4.Den.fmag.length (capOf (partOf 3 (Ep13 50)))] := emk q3j
   replace hS : St w0 w (ro q0b :: bunA (fun (q5 : Heap) => Le q0b q5 ∧ RdS (RpI .u32) q5 (adOf (partOf 1 (Ep13 50))) q4.Num.fmag.length (capOf (partOf 1 (Ep13 50))) q4.Num.fmag ∧ RdS (RpI .u32) q5 (adOf (partOf 3 (Ep13 50))) q4.Den.fmag.length (capOf (partOf 3 (Ep13 50))) q4.Den.fmag) (fun (q5 : Heap) => [roD q0b q5]) :: l') := emk hS
   have q_ := St.unbun (hS.pull 1); obtain ⟨q5, ⟨q4i, q6, q7⟩, hS⟩ := q_
   have q_ := St.ro_join (hS.pull 1) (Le.refl _) q4i; obtain ⟨q6a, q1s, q1t, hS, q68⟩ := q_
   have hcall := c_exact_Prod q5x (q48.le q1s) (q49.le q1s) (q6.le q1t) (q7.le q1t) hS
   refine o_cc call_33 (args2 q3i q3j) hcall ?_
   rintro e w' ⟨q3, q43, q51, c_y0_ret_1_13_4, q44, q52, c_y0_ret_3_13_4, rfl, q3k, q0p, q0q, hS⟩
   refine ⟨_, rfl, ?_⟩
   have e_ := q0p.n; subst e_
   have e_ := q0q.n; subst e_
   refine x_done <| ?_
   refine x_fin ⟨⟨_, rfl⟩, rfl, ?_⟩
   replace hS := St.ro_split (q1s.trans q3k) hS
   replace hS := St.bun (Φ := (fun (q3 : Heap) => Le q0b q3 ∧ RdS (RpI .u32) q3 (adOf (partOf 1 (Ep13 50))) q4.Num.fmag.length (capOf (partOf 1 (Ep13 50))) q4.Num.fmag ∧ RdS (RpI .u32) q3 (adOf (partOf 3 (Ep13 50))) q4.Den.fmag.length (capOf (partOf 3 (Ep13 50))) q4.Den.fmag ∧ RdS (RpI .u32) q3 q43 q2.1.Num.fmag.length c_y0_ret_1_13_4 q2.1.Num.fmag ∧ RdS (RpI .u32) q3 q44 q2.1.Den.fmag.length c_y0_ret_3_13_4 q2.1.Den.fmag)) (L := (fun (q3 : Heap) => [roD q0b q3])) q3 ⟨(q1s.trans q3k), (q6.le (q1t.trans q3k)), (q7.le (q1t.trans q3k)), q0p, q0q⟩ (hS.pull 1)
   exact emk (hS.pull 1)
  ·intro Ep13 w l' hE13 hO13 hF_ hS
   obtain ⟨q0i, -⟩ := hF_
   replace q0i : Ep13 51 = .tuple #[.agg #[.bool q2.1.Num.fneg, .slice (adOf (partOf 1 (partOf 0 (Ep13 51)))) q2.1.Num.fmag.length (capOf (partOf 1 (partOf 0 (Ep13 51)))), .bool q2.1.Den.fneg, .slice (adOf (partOf 3 (partOf 0 (Ep13 51)))) q2.1.Den.fmag.length (capOf (partOf 3 (partOf 0 (Ep13 51))))], .int .i64 q2.2] := emk q0i
   refine p (yl_move q0i) <| x_done <| ?_
   refine x_fin ⟨⟨_, rfl⟩, rfl, ?_⟩
   exact emk hS
  ·intro Ep13 w l' hE13 hO13 hF_ hS
   obtain ⟨q0i, q18, -⟩ := hF_
   replace q0i : Ep13 51 = .tuple #[.agg #[.bool q2.1.Num.fneg, .slice (adOf (partOf 1 (partOf 0 (Ep13 51)))) q2.1.Num.fmag.length (capOf (partOf 1 (partOf 0 (Ep13 51)))), .bool q2.1.Den.fneg, .slice (adOf (partOf 3 (partOf 0 (Ep13 51)))) q2.1.Den.fmag.length (capOf (partOf 3 (partOf 0 (Ep13 51))))], .int .i64 q2.2] := emk q0i
   replace q18 : Ep13 46 = .tuple #[.agg #[.bool q2.1.Num.fneg, .slice (adOf (partOf 1 (partOf 0 (Ep13 51)))) q2.1.Num.fmag.length (capOf (partOf 1 (partOf 0 (Ep13 51)))), .bool q2.1.Den.fneg, .slice (adOf (partOf 3 (partOf 0 (Ep13 51)))) q2.1.Den.fmag.length (capOf (partOf 3 (partOf 0 (Ep13 51))))], .int .i64 q2.2] := emk q18
   refine p (yl_extract q18 rfl) <| x_done <| ?_
   refine x_fin ⟨⟨_, rfl⟩, rfl, ?_⟩
   exact emk hS
  ·intro Ep13 w l' hE13 hO13 hF_ hS
   obtain ⟨q0i, q18, -⟩ := hF_
   replace q0i : Ep13 51 = .tuple #[.agg #[.bool q2.1.Num.fneg, .slice (adOf (partOf 1 (partOf 0 (Ep13 51)))) q2.1.Num.fmag.length (capOf (partOf 1 (partOf 0 (Ep13 51)))), .bool q2.1.Den.fneg, .slice (adOf (partOf 3 (partOf 0 (Ep13 51)))) q2.1.Den.fmag.length (capOf (partOf 3 (partOf 0 (Ep13 51))))], .int .i64 q2.2] := emk q0i
   replace q18 : Ep13 46 = .tuple #[.agg #[.bool q2.1.Num.fneg, .slice (adOf (partOf 1 (partOf 0 (Ep13 51)))) q2.1.Num.fmag.length (capOf (partOf 1 (partOf 0 (Ep13 51)))), .bool q2.1.Den.fneg, .slice (adOf (partOf 3 (partOf 0 (Ep13 51)))) q2.1.Den.fmag.length (capOf (partOf 3 (partOf 0 (Ep13 51))))], .int .i64 q2.2] := emk q18
   refine p (yl_extract q18 rfl) <| x_done <| ?_
   refine x_fin ⟨⟨_, rfl⟩, rfl, ?_⟩
   exact emk hS
  ·intro Ep13 w l' hE13 hO13 hF_ hS
   obtain ⟨q0i, q3l, -⟩ := hF_
   replace q0i : Ep13 51 = .tuple #[.agg #[.bool q2.1.Num.fneg, .slice (adOf (partOf 1 (partOf 0 (Ep13 51)))) q2.1.Num.fmag.length (capOf (partOf 1 (partOf 0 (Ep13 51)))), .bool q2.1.Den.fneg, .slice (adOf (partOf 3 (partOf 0 (Ep13 51)))) q2.1.Den.fmag.length (capOf (partOf 3 (partOf 0 (Ep13 51))))], .int .i64 q2.2] := emk q0i
   replace q3l : Ep13 52 = .agg #[.bool q2.1.Num.fneg, .slice (adOf (partOf 1 (partOf 0 (Ep13 51)))) q2.1.Num.fmag.length (capOf (partOf 1 (partOf 0 (Ep13 51)))), .bool q2.1.Den.fneg, .slice (adOf (partOf 3 (partOf 0 (Ep13 51)))) q2.1.Den.fmag.length (capOf (partOf 3 (partOf 0 (Ep13 51))))] := emk q3l
   replace hS : St w0 w (cells b5 43 [.bool q0l, .slice q9 q0m.length c_b5_1_L3, .bool q0n, .slice q0a q0o.length c_b5_3_L3] :: l') := emk hS
   refine o_storeAgg (news := [.bool q2.1.Num.fneg, .slice (adOf (partOf 1 (partOf 0 (Ep13 51)))) q2.1.Num.fmag.length (capOf (partOf 1 (partOf 0 (Ep13 51)))), .bool q2.1.Den.fneg, .slice (adOf (partOf 3 (partOf 0 (Ep13 51)))) q2.1.Den.fmag.length (capOf (partOf 3 (partOf 0 (Ep13 51))))]) agg_43 ((hE13 5 rfl).trans q4p) q3l rfl (by simp [over_length]) hS (fun w' hS => ?_)
   refine x_done <| ?_
   refine x_fin ⟨⟨undef, rfl⟩, trivial, ?_⟩
   exact emk hS
  ·intro Ep13 w l' hE13 hO13 hF_ hS
   obtain ⟨q3m, -⟩ := hF_
   replace q3m : Ep13 53 = .int .i64 q2.2 := emk q3m
   refine p (yl_assign q3m) <| x_done <| ?_
   refine x_fin ⟨⟨_, rfl⟩, rfl, ?_⟩
   exact emk hS
 intro Ep13 w' hE13 hF_ hS
 obtain ⟨q3i, q3g, q3h, q3j, q0i, q18, q3l, q3m, q4b, -⟩ := hF_
 replace q3i : Ep13 47 = .agg #[.bool q0l, .slice q9 q0m.length c_b5_1_L3, .bool q0n, .slice q0a q0o.length c_b5_3_L3] := emk q3i
 replace q3g : Ep13 48 = .slice q0w l_0.length c_l_0 := emk q3g
 replace q3h : Ep13 49 = .int .i64 (l_0.length : Int) := emk q3h
 replace q3j : Ep13 50 = .agg #[.bool q4.Num.fneg, .slice (adOf (partOf 1 (Ep13 50))) q4.Num.fmag.length (capOf (partOf 1 (Ep13 50))), .bool q4.Den.fneg, .slice (adOf (partOf 3 (Ep13 50))) q4.Den.fmag.length (capOf (partOf 3 (Ep13 50)))] := emk q3j
 replace q0i : Ep13 51 = .tuple #[.agg #[.bool q2.1.Num.fneg, .slice (adOf (partOf 1 (partOf 0 (Ep13 51)))) q2.1.Num.fmag.length (capOf (partOf 1 (partOf 0 (Ep13 51)))), .bool q2.1.Den.fneg, .slice (adOf (partOf 3 (partOf 0 (Ep13 51)))) q2.1.Den.fmag.length (capOf (partOf 3 (partOf 0 (Ep13 51))))], .int .i64 q2.2] := emk q0i
 replace q18 : Ep13 46 = .tuple #[.agg #[.bool q2.1.Num.fneg, .slice (adOf (partOf 1 (partOf 0 (Ep13 51)))) q2.1.Num.fmag.length (capOf (partOf 1 (partOf 0 (Ep13 51)))), .bool q2.1.Den.fneg, .slice (adOf (partOf 3 (partOf 0 (Ep13 51)))) q2.1.Den.fmag.length (capOf (partOf 3 (partOf 0 (Ep13 51))))], .int .i64 q2.2] := emk q18
 replace q3l : Ep13 52 = .agg #[.bool q2.1.Num.fneg, .slice (adOf (partOf 1 (partOf 0 (Ep13 51)))) q2.1.Num.fmag.length (capOf (partOf 1 (partOf 0 (Ep13 51)))), .bool q2.1.Den.fneg, .slice (adOf (partOf 3 (partOf 0 (Ep13 51)))) q2.1.Den.fmag.length (capOf (partOf 3 (partOf 0 (Ep13 51))))] := emk q3l
 replace q3m : Ep13 53 = .int .i64 q2.2 := emk q3m
 replace q4b : Ep13 10 = .int .i64 q2.2 := emk q4b
 replace hS : St w0 w' (ro q0b :: bunA (fun (q3 : Heap) => Le q0b q3 ∧ RdS (RpI .u32) q3 (adOf (partOf 1 (Ep13 50))) q4.Num.fmag.length (capOf (partOf 1 (Ep13 50))) q4.Num.fmag ∧ RdS (RpI .u32) q3 (adOf (partOf 3 (Ep13 50))) q4.Den.fmag.length (capOf (partOf 3 (Ep13 50))) q4.Den.fmag ∧ RdS (RpI .u32) q3 (adOf (partOf 1 (partOf 0 (Ep13 51)))) q2.1.Num.fmag.length (capOf (partOf 1 (partOf 0 (Ep13 51)))) q2.1.Num.fmag ∧ RdS (RpI .u32) q3 (adOf (partOf 3 (partOf 0 (Ep13 51)))) q2.1.Den.fmag.length (capOf (partOf 3 (partOf 0 (Ep13 51)))) q2.1.Den.fmag) (fun (q3 : Heap) => [roD q0b q3]) :: cells b5 43 [.bool q2.1.Num.fneg, .slice (adOf (partOf 1 (partOf 0 (Ep13 51)))) q2.1.Num.fmag.length (capOf (partOf 1 (partOf 0 (Ep13 51)))), .bool q2.1.Den.fneg, .slice (adOf (partOf 3 (partOf 0 (Ep13 51)))) q2.1.Den.fmag.length (capOf (partOf 3 (partOf 0 (Ep13 51))))] :: (cells b2 43 [.bool false, .slice none 0 0, .bool false, .slice none 0 0] :: cells b4 43 [.bool q1g, .slice q10 q1h.length c_b4_1_L3, .bool q1i, .slice q11 q1j.length c_b4_3_L3] :: l)) := emk hS
 have q_ := St.unbun (hS.pull 1); obtain ⟨q3, ⟨q4j, q6, q7, q0p, q0q⟩, hS⟩ := q_
 have q_ := St.ro_join (hS.pull 1) (Le.refl _) q4j; obtain ⟨q5k, q0z, q4h, hS, q69⟩ := q_
 refine x_seq <| x_seq <| x_region <| p (yl_move q4b) <|
  p (yl_neq rfl rfl) <| x_done <|
  x_cond_p (q2.2 ≠ 0) rfl (fun hc55 => ?_) (fun hc55 => ?_)
 ·replace hF := it_t hc55 hF
  refine x_seq <| x_region <| p (v := .agg #[.bool false, .slice none 0 0, .bool false, .slice none 0 0]) (yl_build bld_43 bldf_43 (parts_eq pt0) (by kernel_rfl)) <| p (yl_move q4b) <| ?_
  refine o_storeAgg (news := [.bool false, .slice none 0 0, .bool false, .slice none 0 0]) agg_43 ((hE13 2 rfl).trans q3f) rfl rfl (by simp [over_length]) (hS.pull 2) (fun w' hS => ?_)
  refine p (yl_assign rfl) <| x_done <| ?_
  have e_ := sinj hF; subst e_
  exact x_return ⟨_, ⟨_, _, _, rfl, ((hE13 2 rfl).trans q3f), ldvA agg_43 rfl (fun j v hj => by rw [add0]; exact St.cell hS hj), _, _, rfl, rfl, rfl⟩, q5k, none, 0, 0, none, 0, 0, rfl, (((q0j.trans q0d).trans q47).trans q0z), (RdS.nil (A := none) (c := 0)), (RdS.nil (A := none) (c := 0)), (((hS.drop.pull 1).drop.pull 1).drop)⟩
 ·replace hF := it_f hc55 hF
  replace hF := bd_s hF; obtain ⟨q1f, q5y, hF⟩ := hF
  refine x_skip <| x_seq <| x_region <| pa (v := .agg #[.bool q1g, .slice q10 q1h.length c_b4_1_L3, .bool q1i, .slice q11 q1j.length c_b4_3_L3]) (ld_sub agg_43 ((hE13 4 rfl).trans q4a) rfl rfl (hS.pull 3)) <|
   pa (v := .agg #[.bool q1g, .slice q10 q1h.length c_b4_1_L3, .bool q1i, .slice q11 q1j.length c_b4_3_L3]) (ld_sub agg_43 ((hE13 4 rfl).trans q4a) rfl rfl (hS.pull 3)) <| ?_
  have hcall := c_exact_Prod q5y (q3c.le q0z) (q3d.le q0z) (q3c.le q0z) (q3d.le q0z) hS
  refine o_cc call_33 (args2 rfl rfl) hcall ?_
  rintro e w' ⟨q5l, q1u, q53, c_y0_ret_1_16_2, q1v, q54, c_y0_ret_3_16_2, rfl, q3n, q1w, q1x, hS⟩
  refine ⟨_, rfl, ?_⟩
  have e_ := q1w.n; subst e_
  have e_ := q1x.n; subst e_
  refine p (yl_move rfl) <| p (yl_extract rfl rfl) <| p (yl_extract rfl rfl) <| ?_
  refine o_storeAgg (news := [.bool q1f.1.Num.fneg, .slice q1u q1f.1.Num.fmag.length c_y0_ret_1_16_2, .bool q1f.1.Den.fneg, .slice q1v q1f.1.Den.fmag.length c_y0_ret_3_16_2]) agg_43 ((hE13 4 rfl).trans q4a) rfl rfl (by simp [over_length]) (hS.pull 3) (fun w' hS => ?_)
  refine p (yl_assign rfl) <| x_done <| x_seq <| x_seq <|
   x_region <| p (yl_move rfl) <| p (yl_neq rfl rfl) <| x_done <|
   x_cond_p (q1f.2 ≠ 0) rfl (fun hc65 => ?_) (fun hc65 => ?_)
  ·replace hF := it_t hc65 hF
   refine x_seq <| x_region <| p (v := .agg #[.bool false, .slice none 0 0, .bool false, .slice none 0 0]) (yl_build bld_43 bldf_43 (parts_eq pt0) (by kernel_rfl)) <| p (yl_move rfl) <| ?_
   refine o_storeAgg (news := [.bool false, .slice none 0 0, .bool false, .slice none 0 0]) agg_43 ((hE13 2 rfl).trans q3f) rfl rfl (by simp [over_length]) (hS.pull 3) (fun w' hS => ?_)
   refine p (yl_assign rfl) <| x_done <| ?_
   have e_ := sinj hF; subst e_
   exact x_return ⟨_, ⟨_, _, _, rfl, ((hE13 2 rfl).trans q3f), ldvA agg_43 rfl (fun j v hj => by rw [add0]; exact St.cell hS hj), _, _, rfl, rfl, rfl⟩, q5l, none, 0, 0, none, 0, 0, rfl, ((((q0j.trans q0d).trans q47).trans q0z).trans q3n), (RdS.nil (A := none) (c := 0)), (RdS.nil (A := none) (c := 0)), ((hS.drop.drop.pull 1).drop)⟩
  ·replace hF := it_f hc65 hF
   replace hF := bd_s hF; obtain ⟨q3o, q5z, hF⟩ := hF
   refine x_skip <| x_seq <| x_region <| pa (v := .agg #[.bool q2.1.Num.fneg, .slice (adOf (partOf 1 (partOf 0 (Ep13 51)))) q2.1.Num.fmag.length (capOf (partOf 1 (partOf 0 (Ep13 51)))), .bool q2.1.Den.fneg, .slice (adOf (partOf 3 (partOf 0 (Ep13 51)))) q2.1.Den.fmag.length (capOf (partOf 3 (partOf 0 (Ep13 51))))]) (ld_sub agg_43 ((hE13 5 rfl).trans q4p) rfl rfl (hS.pull 2)) <|
    pa (v := .agg #[.bool q1f.1.Num.fneg, .slice q1u q1f.1.Num.fmag.length c_y0_ret_1_16_2, .bool q1f.1.Den.fneg, .slice q1v q1f.1.Den.fmag.length c_y0_ret_3_16_2]) (ld_sub agg_43 ((hE13 4 rfl).trans q4a) rfl rfl hS) <| ?_
   have hcall := c_exact_Diff q5z (q0p.le (q4h.trans q3n)) (q0q.le (q4h.trans q3n)) q1w q1x (hS.pull 1)
   refine o_cc call_12 (args2 rfl rfl) hcall ?_
   rintro e w' ⟨q5m, q1y, q55, c_y0_ret_1_19_2, q1z, q56, c_y0_ret_3_19_2, rfl, q5n, q20, q21, hS⟩
   refine ⟨_, rfl, ?_⟩
   have e_ := q20.n; subst e_
   have e_ := q21.n; subst e_
   refine p (yl_extract rfl rfl) <| p (yl_extract rfl rfl) <| ?_
   refine o_storeAgg (news := [.bool q3o.1.Num.fneg, .slice q1y q3o.1.Num.fmag.length c_y0_ret_1_19_2, .bool q3o.1.Den.fneg, .slice q1z q3o.1.Den.fmag.length c_y0_ret_3_19_2]) agg_43 ((hE13 2 rfl).trans q3f) rfl rfl (by simp [over_length]) (hS.pull 3) (fun w' hS => ?_)
   refine p (yl_assign rfl) <| x_done <| ?_
   have e_ := sinj hF; subst e_
   exact x_return ⟨_, ⟨_, _, _, rfl, ((hE13 2 rfl).trans q3f), ldvA agg_43 rfl (fun j v hj => by rw [add0]; exact St.cell hS hj), _, _, rfl, rfl, rfl⟩, q5m, q1y, q3o.1.Num.fmag.length, c_y0_ret_1_19_2, q1z, q3o.1.Den.fmag.length, c_y0_ret_3_19_2, rfl, (((((q0j.trans q0d).trans q47).trans q0z).trans q3n).trans q5n), q20, q21, (((hS.drop.pull 1).drop.pull 1).drop)⟩
attribute [irreducible] P_place_squares


end Go.Proofs.Ytfkncjfpgflafaa.X
