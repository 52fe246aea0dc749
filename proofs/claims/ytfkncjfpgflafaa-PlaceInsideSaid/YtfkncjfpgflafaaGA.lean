/- Printed by gen.py: plain functions, and that the Go code computes them. -/
import Derived.Test.YtfkncjfpgflafaaXI
import Derived.Test.YtfkncjfpgflafaaYW
import Derived.Test.YtfkncjfpgflafaaXT
import Derived.Test.YtfkncjfpgflafaaGAp0
import Derived.Test.YtfkncjfpgflafaaGAp1
import Derived.Test.YtfkncjfpgflafaaGAp2
namespace Go.Proofs.Ytfkncjfpgflafaa.X
open Go Go.RowKit
set_option linter.unusedVariables false
set_option linter.unusedSimpArgs false

def P_maskkeep4_exacts : Option Bool :=
 bd (P_exact_Solve ([([2] : List Int)] : List (List Int)) ([6] : List Int)) fun q2 =>
 lv ((decide (q2.2 = 0)) && (decide ((q2.1.length : Int) = 1))) fun x16 =>
 ck (x16 = true → inb 0 q2.1.length) <|
 lv (gt q2.1 (0 : Int)) fun q4 =>
 bd (gd (x16) (P_exact_Text q4.Num)) fun q5 =>
 lv (x16 && (decide (q5 = (⟨#[51]⟩ : ByteArray)))) fun x24 =>
 bd (
  if x24 = true then
   bd (P_exact_Of (-12)) fun q6 =>
   bd (P_exact_Text q6) fun q7 =>
   some (decide (q7 = (⟨#[45, 49, 50]⟩ : ByteArray)))
  else
   some false) fun q3 =>
 some q3
set_option maxHeartbeats 4000000 in
set_option maxRecDepth 100000 in
theorem c_maskkeep4_exacts {w0 w : World} {l : List Assn} {ρ : Heap} {r : Bool} (hF : P_maskkeep4_exacts = some r) (hS : St w0 w (ro ρ :: l)) :
  Calls Try.prog 25 #[] w fun e w' => e = .returned (.bool r) ∧ St w0 w' (ro ρ :: l) := by
 refine enterC Try.func25 rfl 30 rfl (by simp) ?_
 refine x_seq <| x_region <| p (yl_assign rfl) <| x_done <|
  x_seq <| x_region <| ?_
 refine o_buildSlice (vs := [.int .i64 2]) (cs := [.int .i64 2]) sl_61 zero_2 (parts_eq (pt (va := .int .i64 2) rfl pt0)) rfl (by intro v hv; simp only [List.mem_cons, List.not_mem_nil, or_false] at hv; first | (subst hv; rfl) | (rcases hv with rfl <;> rfl)) (by decide) rfl hS (fun b4 w' hS => ?_)
 have q14 : RepL (RpI .i64) ρ ([2] : List Int) [.int .i64 2] := (RepL.cons (cs := [.int .i64 2]) rfl RepL.nil)
 replace hS := St.vec_of (n := 1) (sz := (RpI .i64).sz) hS rfl (by decide)
 have q_ := St.vec_fz ((hS.pull 1).pull 1) q14; obtain ⟨q0p, q0f, q0q, hS⟩ := q_
 refine o_buildSlice (vs := [.slice (some ⟨b4, 0, none⟩) 1 1]) (cs := [.slice (some ⟨b4, 0, none⟩) 1 1]) sl_60 zero_61 (parts_eq (pt (va := .slice (some ⟨b4, 0, none⟩) 1 1) rfl pt0)) rfl (by intro v hv; simp only [List.mem_cons, List.not_mem_nil, or_false] at hv; first | (subst hv; rfl) | (rcases hv with rfl <;> rfl)) (by decide) rfl hS (fun b5 w' hS => ?_)
 refine o_buildSlice (vs := [.int .i64 6]) (cs := [.int .i64 6]) sl_61 zero_2 (parts_eq (pt (va := .int .i64 6) rfl pt0)) rfl (by intro v hv; simp only [List.mem_cons, List.not_mem_nil, or_false] at hv; first | (subst hv; rfl) | (rcases hv with rfl <;> rfl)) (by decide) rfl hS (fun b6 w' hS => ?_)
 have q15 : RepL (RpSl (RpI .i64)) q0p ([([2] : List Int)] : List (List Int)) [.slice (some ⟨b4, 0, none⟩) 1 1] := (RepL.cons (cs := [.slice (some ⟨b4, 0, none⟩) 1 1]) ⟨_, _, _, rfl, q0q⟩ RepL.nil)
 replace hS := St.vec_of (n := 1) (sz := (RpSl (RpI .i64)).sz) (hS.pull 1) rfl (by decide)
 have q_ := St.vec_fz ((hS.pull 2).pull 1) q15; obtain ⟨q0r, q0g, q0s, hS⟩ := q_
 have q0t : RepL (RpI .i64) q0r ([6] : List Int) [.int .i64 6] := (RepL.cons (cs := [.int .i64 6]) rfl RepL.nil)
 replace hS := St.vec_of (n := 1) (sz := (RpI .i64).sz) (hS.pull 1) rfl (by decide)
 have q_ := St.vec_fz ((hS.pull 1).pull 1) q0t; obtain ⟨q1d, q0a, q0u, hS⟩ := q_
 replace hF := bd_s hF; obtain ⟨q7, q16, hF⟩ := hF
 have hcall := c_exact_Solve q16 (q0s.le q0a) q0u hS
 refine o_cc call_24 (args2 rfl rfl) hcall ?_
 rintro e w' ⟨q0v, q4, q0w, c_y0_ret_1_3, q0o, rfl, q0x, q5, hS⟩
 refine ⟨_, rfl, ?_⟩
 have e_ := St.vec_n hS q5; subst e_
 replace hF := lv_s hF; obtain ⟨x16, hx16, hF⟩ := hF
 replace hF := ck_s hF; obtain ⟨q0i, hF⟩ := hF
 replace hF := lv_s hF; obtain ⟨q9, q0y, hF⟩ := hF
 have q_ := RepL.getD R_exact_Ratio_d q5 (0 : Int); obtain ⟨q1e, q0e, q0z⟩ := q_
 rw [← q0y] at q0e
 obtain ⟨q0b, q18, q0c, q19, q1a, q1b, rfl, q0d, q0m⟩ := q0e
 have e_ := q0d.n; subst e_
 have e_ := q0m.n; subst e_
 replace hF := bd_s hF; obtain ⟨q0j, q10, hF⟩ := hF
 refine p (yl_move rfl) <| p (yl_extract rfl rfl) <| p (yl_extract rfl rfl) <| p (yl_assign rfl) <|
  p (yl_assign rfl) <| x_done <| x_seq <| x_region <|
  p (yl_move rfl) <| p (yl_eql rfl rfl) <| p (yl_move rfl) <| pg (v := .slice q4 q7.1.length c_y0_ret_1_3) 12 (c := decide (q7.2 = 0)) (says_t _) (fun hq => Yl.at (yl_move rfl)) <|
  pg (v := .int .i64 (q7.1.length : Int)) 12 (c := decide (q7.2 = 0)) (says_t _) (fun hq => Yl.at (yl_len_slice usl_64 (cv hq))) <| pg (v := .bool (decide ((q7.1.length : Int) = 1))) 12 (c := decide (q7.2 = 0)) (says_t _) (fun hq => Yl.at (yl_eql (cv hq) rfl)) <| p (yand' rfl (fun hc => (cv hc)) rfl hx16) <| p (yl_move rfl) <|
  pg (v := .slice q4 q7.1.length c_y0_ret_1_3) 17 (c := x16) (says_t _) (fun hq => Yl.at (yl_move rfl)) <| pg (v := .pointer (some ((adr q4).add ((0 : Int).toNat * R_exact_Ratio.sz)))) 17 (c := x16) (says_t _) (fun hq => Yl.at (yix_o sl_64 (cv hq) rfl hS q5 (q0i hq))) <| pg (v := .pointer (some (((adr q4).add ((0 : Int).toNat * R_exact_Ratio.sz)).add 0))) 17 (c := x16) (says_t _) (fun hq => Yl.at (yl_fieldAddr fld_43_0 (cv hq))) <| pg (v := .agg #[.bool q9.Num.fneg, .slice q0b q9.Num.fmag.length q0c]) 17 (c := x16) (says_t _) (fun hq => at_loadAgg (cs := [.bool q9.Num.fneg, .slice q0b q9.Num.fmag.length q0c]) agg_41 (cv hq) rfl (sub_every (m := 2) (EltV.every (q0z (q0i hq)) hS) rfl)) <|
  pccg (v := .string q0j) 17 (c := x16) (says_t _) call_26 (fun hq => (args1 (cv hq))) hS (fun hq => by
   have hcall := c_exact_Text (gd_t q10 hq) q0d (hS.pull 1)
   exact (Calls.mono hcall (fun e w'' h => And.intro h.1 (h.2.pull 1)))) (fun w' hS => ?_)
 replace hF := lv_s hF; obtain ⟨x24, hx24, hF⟩ := hF
 refine pg (v := .bool (decide (q0j = (⟨#[51]⟩ : ByteArray)))) 17 (c := x16) (says_t _) (fun hq => Yl.at (yl_eql_string (cv hq) rfl)) <| p (yand' rfl (fun hc => (cv hc)) rfl hx24) <| p (yl_move rfl) <| ?_
 replace hF := bd_s hF; obtain ⟨q11, q2, hF⟩ := hF
 refine x_join_ops (fun E w => ∃ (q8 : Bool), q8 = q11 ∧ E 0 = .bool q8 ∧ St w0 w (ro q0v :: l)) ?_ ?_
 ·refine x_split x24 (fun q3 => ?_) (fun q3 => ?_)
  ·replace q2 := it_t q3 q2
   replace q2 := bd_s q2; obtain ⟨q1g, q12, q2⟩ := q2
   refine o_strip 25 true (says_lit (c := true) (Eq.trans (show _ = Value.bool x24 from rfl) (congrArg Value.bool q3)) rfl) <| ?_
   have hcall := c_exact_Of q12  (hS.pull 1)
   refine o_cc call_17 (args1 rfl) hcall ?_
   rintro e w' ⟨q1c, q0k, q0l, c_y0_ret_1_2_16, rfl, q0n, q6, hS⟩
   refine ⟨_, rfl, ?_⟩
   have e_ := q6.n; subst e_
   replace q2 := bd_s q2; obtain ⟨q17, q13, q2⟩ := q2
   refine o_strip 25 true (says_lit (c := true) (Eq.trans (show _ = Value.bool x24 from rfl) (congrArg Value.bool q3)) rfl) <| ?_
   have hcall := c_exact_Text q13 q6 hS
   refine o_cc call_26 (args1 rfl) (hcall) ?_
   rintro e w' ⟨rfl, hS⟩
   refine ⟨_, rfl, ?_⟩
   refine o_strip 25 true (says_lit (c := true) (Eq.trans (show _ = Value.bool x24 from rfl) (congrArg Value.bool q3)) rfl) <| p (yl_eql_string rfl rfl) <| p (yl_pick (b := true) (Eq.trans (show _ = Value.bool x24 from rfl) (congrArg Value.bool q3)) (fun h => rfl) (fun h => nomatch h)) <| p (yl_assign rfl) <|
    x_done <| ?_
   exact x_inv ⟨decide (q17 = (⟨#[45, 49, 50]⟩ : ByteArray)), (Option.some.inj (show some _ = some _ from q2)), rfl, (ro_back0 q0n ((hS.pull 1).drop))⟩
  ·replace q2 := it_bf q3 q2
   refine o_pass 26 25 true (says_lit (c := false) (Eq.trans (show _ = Value.bool x24 from rfl) (congrArg Value.bool q3)) rfl) <| o_pass 27 25 true (says_lit (c := false) (Eq.trans (show _ = Value.bool x24 from rfl) (congrArg Value.bool q3)) rfl) <| o_pass 28 25 true (says_lit (c := false) (Eq.trans (show _ = Value.bool x24 from rfl) (congrArg Value.bool q3)) rfl) <| p (yl_pick (b := false) (Eq.trans (show _ = Value.bool x24 from rfl) (congrArg Value.bool q3)) (fun h => nomatch h) (fun h => rfl)) <|
    p (yl_assign rfl) <| x_done <| ?_
   exact x_inv ⟨false, (Option.some.inj (show some _ = some _ from q2)), rfl, hS.drop⟩
 rintro E w ⟨q8, rfl, q0h, hS⟩
 have e_ := Option.some.inj (show some _ = some _ from hF); subst e_
 exact x_return ⟨_, ⟨_, _, rfl, q0h, rfl⟩, rfl, (ro_back0 (((q0f.trans q0g).trans q0a).trans q0x) hS)⟩
attribute [irreducible] P_maskkeep4_exacts

def P_maskkeep4_places : Option Bool :=
 bd (P_place_Solve 1 ([(T_place_Pull.mk 1 ([0] : List Int) ([(T_floor_Point.mk 6 4)] : List T_floor_Point))] : List T_place_Pull)) fun q2 =>
 bd (P_maskkeep4_exacts) fun q5 =>
 lv (q5 && (decide (q2.2 = 0))) fun x16 =>
 lv (x16 && (decide ((q2.1.length : Int) = 1))) fun x21 =>
 ck (x21 = true → inb 0 q2.1.length) <|
 lv (gt q2.1 (0 : Int)) fun q3 =>
 bd (gd (x21) (P_exact_Text q3.X.Num)) fun q4 =>
 lv (x21 && (decide (q4 = (⟨#[54]⟩ : ByteArray)))) fun x30 =>
 some x30
set_option maxHeartbeats 4000000 in
set_option maxRecDepth 100000 in
theorem c_maskkeep4_places {w0 w : World} {l : List Assn} {ρ : Heap} {r : Bool} (hF : P_maskkeep4_places = some r) (hS : St w0 w (ro ρ :: l)) :
  Calls Try.prog 9 #[] w fun e w' => e = .returned (.bool r) ∧ St w0 w' (ro ρ :: l) := by
 refine enterC Try.func9 rfl 31 rfl (by simp) ?_
 refine x_seq <| x_region <| p (yl_assign rfl) <| x_done <|
  x_seq <| x_region <| ?_
 refine o_buildSlice (vs := [.int .i64 0]) (cs := [.int .i64 0]) sl_22 zero_3 (parts_eq (pt (va := .int .i64 0) rfl pt0)) rfl (by intro v hv; simp only [List.mem_cons, List.not_mem_nil, or_false] at hv; first | (subst hv; rfl) | (rcases hv with rfl <;> rfl)) (by decide) rfl hS (fun b4 w' hS => ?_)
 refine p (v := .agg #[.int .i64 6, .int .i64 4]) (yl_build bld_38 bldf_38 (parts_eq (pt (va := .int .i64 6) rfl (pt (va := .int .i64 4) rfl pt0))) (by kernel_rfl)) <| ?_
 refine o_buildSlice (vs := [.agg #[.int .i64 6, .int .i64 4]]) (cs := [.int .i64 6, .int .i64 4]) sl_34 zero_38 (parts_eq (pt (va := .agg #[.int .i64 6, .int .i64 4]) rfl pt0)) rfl (by intro v hv; simp only [List.mem_cons, List.not_mem_nil, or_false] at hv; first | (subst hv; rfl) | (rcases hv with rfl <;> rfl)) (by decide) rfl hS (fun b6 w' hS => ?_)
 refine p (v := .agg #[.int .i64 1, .slice (some ⟨b4, 0, none⟩) 1 1, .slice (some ⟨b6, 0, none⟩) 1 1]) (yl_build bld_36 bldf_36 (parts_eq (pt (va := .int .i64 1) rfl (pt (va := .slice (some ⟨b4, 0, none⟩) 1 1) rfl (pt (va := .slice (some ⟨b6, 0, none⟩) 1 1) rfl pt0)))) (by kernel_rfl)) <| ?_
 have q0v : RepL (RpI .i64) ρ ([0] : List Int) [.int .i64 0] := (RepL.cons (cs := [.int .i64 0]) rfl RepL.nil)
 replace hS := St.vec_of (n := 1) (sz := (RpI .i64).sz) (hS.pull 1) rfl (by decide)
 have q_ := St.vec_fz ((hS.pull 2).pull 1) q0v; obtain ⟨q0k, q0c, q0l, hS⟩ := q_
 have q0m : RepL R_floor_Point q0k ([(T_floor_Point.mk 6 4)] : List T_floor_Point) [.int .i64 6, .int .i64 4] := (RepL.cons (cs := [.int .i64 6, .int .i64 4]) rfl RepL.nil)
 replace hS := St.vec_of (n := 1) (sz := R_floor_Point.sz) (hS.pull 1) rfl (by decide)
 have q_ := St.vec_fz ((hS.pull 1).pull 1) q0m; obtain ⟨q0n, q6, q0o, hS⟩ := q_
 refine o_buildSlice (vs := [.agg #[.int .i64 1, .slice (some ⟨b4, 0, none⟩) 1 1, .slice (some ⟨b6, 0, none⟩) 1 1]]) (cs := [.int .i64 1, .slice (some ⟨b4, 0, none⟩) 1 1, .slice (some ⟨b6, 0, none⟩) 1 1]) sl_27 zero_36 (parts_eq (pt (va := .agg #[.int .i64 1, .slice (some ⟨b4, 0, none⟩) 1 1, .slice (some ⟨b6, 0, none⟩) 1 1]) rfl pt0)) rfl (by intro v hv; simp only [List.mem_cons, List.not_mem_nil, or_false] at hv; first | (subst hv; rfl) | (rcases hv with rfl <;> rfl)) (by decide) rfl hS (fun b8 w' hS => ?_)
 have q0w : RepL R_place_Pull q0n ([(T_place_Pull.mk 1 ([0] : List Int) ([(T_floor_Point.mk 6 4)] : List T_floor_Point))] : List T_place_Pull) [.int .i64 1, .slice (some ⟨b4, 0, none⟩) 1 1, .slice (some ⟨b6, 0, none⟩) 1 1] := (RepL.cons (cs := [.int .i64 1, .slice (some ⟨b4, 0, none⟩) 1 1, .slice (some ⟨b6, 0, none⟩) 1 1]) ⟨_, _, _, _, _, _, rfl, (q0l.le q6), q0o⟩ RepL.nil)
 replace hS := St.vec_of (n := 1) (sz := R_place_Pull.sz) hS rfl (by decide)
 have q_ := St.vec_fz ((hS.pull 1).pull 1) q0w; obtain ⟨q19, q0d, q0p, hS⟩ := q_
 replace hF := bd_s hF; obtain ⟨q4, q0x, hF⟩ := hF
 have hcall := c_place_Solve q0x q0p hS
 refine o_cc call_8 (args2 rfl rfl) hcall ?_
 rintro e w' ⟨q1a, q2, q0q, c_y0_ret_1_5, q0j, rfl, q0r, q3, hS⟩
 refine ⟨_, rfl, ?_⟩
 have e_ := St.vec_n hS q3; subst e_
 replace hF := bd_s hF; obtain ⟨q0e, q0y, hF⟩ := hF
 refine p (yl_move rfl) <| p (yl_extract rfl rfl) <| p (yl_extract rfl rfl) <| p (yl_assign rfl) <|
  p (yl_assign rfl) <| x_done <| x_seq <| x_region <| ?_
 have hcall := c_maskkeep4_exacts q0y  (hS.pull 1)
 refine o_cc call_25 args0 ((Calls.mono hcall (fun e w'' h => And.intro h.1 (h.2.pull 1)))) ?_
 rintro e w' ⟨rfl, hS⟩
 refine ⟨_, rfl, ?_⟩
 replace hF := lv_s hF; obtain ⟨x16, hx16, hF⟩ := hF
 replace hF := lv_s hF; obtain ⟨x21, hx21, hF⟩ := hF
 replace hF := ck_s hF; obtain ⟨q0a, hF⟩ := hF
 replace hF := lv_s hF; obtain ⟨q5, q0s, hF⟩ := hF
 have q_ := RepL.getD R_place_Spot_d q3 (0 : Int); obtain ⟨q1b, q0b, q0t⟩ := q_
 rw [← q0s] at q0b
 obtain ⟨q7, q0z, q8, q10, q11, q12, q13, q14, q15, q16, q17, q18, rfl, q9, q0g, q0h, q0i⟩ := q0b
 have e_ := q9.n; subst e_
 have e_ := q0g.n; subst e_
 have e_ := q0h.n; subst e_
 have e_ := q0i.n; subst e_
 replace hF := bd_s hF; obtain ⟨q0f, q0u, hF⟩ := hF
 refine p (v := .bool q0e) (yl_move rfl) <| pg (v := .int .i64 q4.2) 13 (c := q0e) (says_t _) (fun hq => Yl.at (yl_move rfl)) <| pg (v := .bool (decide (q4.2 = 0))) 13 (c := q0e) (says_t _) (fun hq => Yl.at (yl_eql (cv hq) rfl)) <| p (yand' rfl (fun hc => (cv hc)) rfl hx16) <|
  p (yl_move rfl) <| pg (v := .slice q2 q4.1.length c_y0_ret_1_5) 17 (c := x16) (says_t _) (fun hq => Yl.at (yl_move rfl)) <| pg (v := .int .i64 (q4.1.length : Int)) 17 (c := x16) (says_t _) (fun hq => Yl.at (yl_len_slice usl_29 (cv hq))) <| pg (v := .bool (decide ((q4.1.length : Int) = 1))) 17 (c := x16) (says_t _) (fun hq => Yl.at (yl_eql (cv hq) rfl)) <|
  p (yand' rfl (fun hc => (cv hc)) rfl hx21) <| p (yl_move rfl) <| pg (v := .slice q2 q4.1.length c_y0_ret_1_5) 22 (c := x21) (says_t _) (fun hq => Yl.at (yl_move rfl)) <| pg (v := .pointer (some ((adr q2).add ((0 : Int).toNat * R_place_Spot.sz)))) 22 (c := x21) (says_t _) (fun hq => Yl.at (yix_o sl_29 (cv hq) rfl hS q3 (q0a hq))) <|
  pg (v := .pointer (some (((adr q2).add ((0 : Int).toNat * R_place_Spot.sz)).add 0))) 22 (c := x21) (says_t _) (fun hq => Yl.at (yl_fieldAddr fld_45_0 (cv hq))) <| pg (v := .pointer (some (((adr q2).add ((0 : Int).toNat * R_place_Spot.sz)).add 0))) 22 (c := x21) (says_t _) (fun hq => Yl.at (yl_fieldE fld_43_0 (cv hq))) <| pg (v := .agg #[.bool q5.X.Num.fneg, .slice q7 q5.X.Num.fmag.length q8]) 22 (c := x21) (says_t _) (fun hq => at_loadAgg (cs := [.bool q5.X.Num.fneg, .slice q7 q5.X.Num.fmag.length q8]) agg_41 (cv hq) rfl (sub_every (m := 2) (EltV.every (q0t (q0a hq)) hS) rfl)) <|
  pccg (v := .string q0f) 22 (c := x21) (says_t _) call_26 (fun hq => (args1 (cv hq))) hS (fun hq => by
   have hcall := c_exact_Text (gd_t q0u hq) q9 (hS.pull 1)
   exact (Calls.mono hcall (fun e w'' h => And.intro h.1 (h.2.pull 1)))) (fun w' hS => ?_)
 replace hF := lv_s hF; obtain ⟨x30, hx30, hF⟩ := hF
 refine pg (v := .bool (decide (q0f = (⟨#[54]⟩ : ByteArray)))) 22 (c := x21) (says_t _) (fun hq => Yl.at (yl_eql_string (cv hq) rfl)) <| p (yand' rfl (fun hc => (cv hc)) rfl hx30) <| p (yl_assign rfl) <| x_done <| ?_
 have e_ := Option.some.inj (show some _ = some _ from hF); subst e_
 exact x_return ⟨_, ⟨_, _, rfl, rfl, rfl⟩, rfl, (ro_back0 (((q0c.trans q6).trans q0d).trans q0r) hS.drop)⟩
attribute [irreducible] P_maskkeep4_places

def P_exact_Whole (n0 : Int) : Option T_exact_Ratio :=
 bd (P_exact_Of n0) fun q2 =>
 bd (P_exact_Of 1) fun q3 =>
 some (T_exact_Ratio.mk (T_exact_Int.mk q2.fneg q2.fmag) (T_exact_Int.mk q3.fneg q3.fmag))
set_option maxHeartbeats 4000000 in
set_option maxRecDepth 100000 in
theorem c_exact_Whole {w0 w : World} {l : List Assn} {ρ : Heap} {n0 : Int} {r : T_exact_Ratio} (hF : P_exact_Whole n0 = some r) (hS : St w0 w (ro ρ :: l)) :
  Calls Try.prog 11 #[.int .i64 n0] w fun e w' => ∃ (ρ' : Heap) (q8 : Option Addr) (q9 : Nat) (c_y0_ret_1 : Nat) (q0a : Option Addr) (q0b : Nat) (c_y0_ret_3 : Nat), e = .returned (.agg #[.bool r.Num.fneg, .slice q8 q9 c_y0_ret_1, .bool r.Den.fneg, .slice q0a q0b c_y0_ret_3]) ∧ Le ρ ρ' ∧ RdS (RpI .u32) ρ' q8 q9 c_y0_ret_1 r.Num.fmag ∧ RdS (RpI .u32) ρ' q0a q0b c_y0_ret_3 r.Den.fmag ∧ St w0 w' (ro ρ' :: l) := by
 refine enterC Try.func11 rfl 7 rfl (by simp) ?_
 refine x_seq <| x_region <| ?_
 refine o_alloc zero_43 hS (fun b2 w' hS => ?_)
 replace hF := bd_s hF; obtain ⟨q6, q0h, hF⟩ := hF
 refine x_done <| x_seq <| x_region <| p (yl_move rfl) <| ?_
 have hcall := c_exact_Of q0h  (hS.pull 1)
 refine o_cc call_17 (args1 rfl) hcall ?_
 rintro e w' ⟨q0j, q2, q0d, c_y0_ret_1_1_1, rfl, q0f, q4, hS⟩
 refine ⟨_, rfl, ?_⟩
 have e_ := q4.n; subst e_
 replace hF := bd_s hF; obtain ⟨q7, q0i, hF⟩ := hF
 have hcall := c_exact_Of q0i  hS
 refine o_cc call_17 (args1 rfl) hcall ?_
 rintro e w' ⟨q0g, q3, q0e, c_y0_ret_1_1_2, rfl, q0c, q5, hS⟩
 refine ⟨_, rfl, ?_⟩
 have e_ := q5.n; subst e_
 refine p (v := .agg #[.bool q6.fneg, .slice q2 q6.fmag.length c_y0_ret_1_1_1, .bool q7.fneg, .slice q3 q7.fmag.length c_y0_ret_1_1_2]) (yl_build bld_43 bldf_43 (parts_eq (pt (va := .agg #[.bool q6.fneg, .slice q2 q6.fmag.length c_y0_ret_1_1_1]) rfl (pt (va := .agg #[.bool q7.fneg, .slice q3 q7.fmag.length c_y0_ret_1_1_2]) rfl pt0))) (by kernel_rfl)) <| ?_
 refine o_storeAgg (news := [.bool q6.fneg, .slice q2 q6.fmag.length c_y0_ret_1_1_1, .bool q7.fneg, .slice q3 q7.fmag.length c_y0_ret_1_1_2]) agg_43 rfl rfl rfl (by simp [over_length]) (hS.pull 1) (fun w' hS => ?_)
 refine x_done <| ?_
 have e_ := Option.some.inj (show some _ = some _ from hF); subst e_
 exact x_return ⟨_, ⟨_, _, _, rfl, rfl, ldvA agg_43 rfl (fun j v hj => by rw [add0]; exact St.cell hS hj), rfl⟩, q0g, q2, q6.fmag.length, c_y0_ret_1_1_1, q3, q7.fmag.length, c_y0_ret_1_1_2, rfl, (q0f.trans q0c), (q4.le q0c), q5, hS.drop⟩
attribute [irreducible] P_exact_Whole

def P_exact_Cmp (a0 : T_exact_Int) (b1 : T_exact_Int) : Option Int :=
 bd (P_exact_Sign a0) fun q2 =>
 bd (P_exact_Sign b1) fun q3 =>
 if q2 ≠ q3 then
  bd (P_exact_Sign a0) fun q4 =>
  bd (P_exact_Sign b1) fun q5 =>
  ar (q4 - q5) fun x15 =>
  bd (P_exact_sign x15) fun q6 =>
  some q6
 else
  if a0.fneg = true then
   bd (P_exact_cmpMag b1.fmag a0.fmag) fun q7 =>
   some q7
  else
   bd (P_exact_cmpMag a0.fmag b1.fmag) fun q8 =>
   some q8
set_option maxHeartbeats 4000000 in
set_option maxRecDepth 100000 in
theorem c_exact_Cmp {w0 w : World} {l : List Assn} {ρ : Heap} {q2 : Option Addr} {q6 : Nat} {c_a0_1 : Nat} {q3 : Option Addr} {q7 : Nat} {c_b1_1 : Nat} {a0 : T_exact_Int} {b1 : T_exact_Int} {r : Int} (hF : P_exact_Cmp a0 b1 = some r) (q4 : RdS (RpI .u32) ρ q2 q6 c_a0_1 a0.fmag) (q5 : RdS (RpI .u32) ρ q3 q7 c_b1_1 b1.fmag) (hS : St w0 w (ro ρ :: l)) :
  Calls Try.prog 28 #[.agg #[.bool a0.fneg, .slice q2 q6 c_a0_1], .agg #[.bool b1.fneg, .slice q3 q7 c_b1_1]] w fun e w' => e = .returned (.int .i64 r) ∧ St w0 w' (ro ρ :: l) := by
 have e_ := q4.n; subst e_
 have e_ := q5.n; subst e_
 refine enterC Try.func28 rfl 30 rfl (by simp) ?_
 refine x_seq <| x_region <| ?_
 refine o_box (cs := [.bool a0.fneg, .slice q2 a0.fmag.length c_a0_1]) rfl rfl hS (fun b2 w' hS => ?_)
 refine o_box (cs := [.bool b1.fneg, .slice q3 b1.fmag.length c_b1_1]) rfl rfl hS (fun b3 w' hS => ?_)
 replace hF := bd_s hF; obtain ⟨q8, q0b, hF⟩ := hF
 replace hF := bd_s hF; obtain ⟨q9, q0c, hF⟩ := hF
 refine p (yl_assign rfl) <| x_done <| x_seq <| x_block <|
  x_seq <| x_still mixed (by kernel_rfl) hS <| qa (v := .agg #[.bool a0.fneg, .slice q2 a0.fmag.length c_a0_1]) (fun w' hS => ld_sub agg_41 rfl rfl rfl (hS.pull 1)) <| qcc (v := .int .i64 q8) call_19 (args1 rfl) (fun w' hS => by
   have hcall := c_exact_Sign q0b q4 (hS.pull 2)
   exact (Calls.mono hcall (fun e w'' h => And.intro h.1 ((h.2.pull 2).pull 2)))) <|
  qa (v := .agg #[.bool b1.fneg, .slice q3 b1.fmag.length c_b1_1]) (fun w' hS => ld_sub agg_41 rfl rfl rfl hS) <| qcc (v := .int .i64 q9) call_19 (args1 rfl) (fun w' hS => by
   have hcall := c_exact_Sign q0c q5 (hS.pull 2)
   exact (Calls.mono hcall (fun e w'' h => And.intro h.1 ((h.2.pull 2).pull 2)))) <| q (yl_neq rfl rfl) <| q (yl_assign rfl) <|
  q_done fun w' hS => ?_
 refine x_cond_p (q8 ≠ q9) rfl (fun hc5 => ?_) (fun hc5 => ?_)
 ·replace hF := it_t hc5 hF
  replace hF := bd_s hF; obtain ⟨q0i, q0d, hF⟩ := hF
  replace hF := bd_s hF; obtain ⟨q0j, q0e, hF⟩ := hF
  replace hF := ar_s hF; obtain ⟨x15, hx15, hF⟩ := hF
  replace hF := bd_s hF; obtain ⟨q0a, q0f, hF⟩ := hF
  refine x_seq <| x_still mixed (by kernel_rfl) hS <| qa (v := .agg #[.bool a0.fneg, .slice q2 a0.fmag.length c_a0_1]) (fun w' hS => ld_sub agg_41 rfl rfl rfl (hS.pull 1)) <| qcc (v := .int .i64 q0i) call_19 (args1 rfl) (fun w' hS => by
    have hcall := c_exact_Sign q0d q4 (hS.pull 2)
    exact (Calls.mono hcall (fun e w'' h => And.intro h.1 ((h.2.pull 2).pull 2)))) <|
   qa (v := .agg #[.bool b1.fneg, .slice q3 b1.fmag.length c_b1_1]) (fun w' hS => ld_sub agg_41 rfl rfl rfl hS) <| qcc (v := .int .i64 q0j) call_19 (args1 rfl) (fun w' hS => by
    have hcall := c_exact_Sign q0e q5 (hS.pull 2)
    exact (Calls.mono hcall (fun e w'' h => And.intro h.1 ((h.2.pull 2).pull 2)))) <| q (ysub rfl rfl hx15) <| qcc (v := .int .i64 q0a) call_47 (args1 rfl) (fun w' hS => by
    have hcall := c_exact_sign q0f  (hS.pull 2)
    exact (Calls.mono hcall (fun e w'' h => And.intro h.1 ((h.2.pull 2).pull 2)))) <|
   q (v := .int .i64 q0a) (yl_assign rfl) <|
   q_done fun w' hS => ?_
  have e_ := Option.some.inj (show some _ = some _ from hF); subst e_
  exact x_return ⟨_, ⟨_, _, rfl, rfl, rfl⟩, rfl, hS.drop.drop⟩
 ·replace hF := it_f hc5 hF
  refine x_seq <| x_region <| p (yl_field0 fld_41_0 rfl) <| pa (at_load one_4 rfl ((hS.pull 1).cell rfl)) <|
   p (yl_assign rfl) <| x_done <|
   x_cond (t := a0.fneg) rfl (fun hc17 => ?_) (fun hc17 => ?_)
  ·replace hF := it_t hc17 hF
   replace hF := bd_s hF; obtain ⟨q0k, q0g, hF⟩ := hF
   refine x_seq <| x_region <| p (yl_field0 fld_41_1 rfl) <| pa (at_load one_39 rfl (hS.cell rfl)) <|
    p (yl_field0 fld_41_1 rfl) <| pa (at_load one_39 rfl ((hS.pull 1).cell rfl)) <| ?_
   have hcall := c_exact_cmpMag q0g q5 q4 (hS.pull 2)
   refine o_cc call_48 (args2 rfl rfl) ((Calls.mono hcall (fun e w'' h => And.intro h.1 ((h.2.pull 2).pull 2)))) ?_
   rintro e w' ⟨rfl, hS⟩
   refine ⟨_, rfl, ?_⟩
   refine p (v := .int .i64 q0k) (yl_assign rfl) <| x_done <| ?_
   have e_ := Option.some.inj (show some _ = some _ from hF); subst e_
   exact x_return ⟨_, ⟨_, _, rfl, rfl, rfl⟩, rfl, hS.drop.drop⟩
  ·replace hF := it_bf hc17 hF
   replace hF := bd_s hF; obtain ⟨q0l, q0h, hF⟩ := hF
   refine x_skip <| x_blk <| x_seq <| x_region <|
    p (yl_field0 fld_41_1 rfl) <| pa (at_load one_39 rfl ((hS.pull 1).cell rfl)) <| p (yl_field0 fld_41_1 rfl) <| pa (at_load one_39 rfl (hS.cell rfl)) <| ?_
   have hcall := c_exact_cmpMag q0h q4 q5 (hS.pull 2)
   refine o_cc call_48 (args2 rfl rfl) ((Calls.mono hcall (fun e w'' h => And.intro h.1 ((h.2.pull 2).pull 2)))) ?_
   rintro e w' ⟨rfl, hS⟩
   refine ⟨_, rfl, ?_⟩
   refine p (v := .int .i64 q0l) (yl_assign rfl) <| x_done <| ?_
   have e_ := Option.some.inj (show some _ = some _ from hF); subst e_
   exact x_return ⟨_, ⟨_, _, rfl, rfl, rfl⟩, rfl, hS.drop.drop⟩
attribute [irreducible] P_exact_Cmp

def P_exact_Check (x0 : T_exact_Ratio) : Option Int :=
 bd (P_exact_Bits (T_exact_Int.mk x0.Num.fneg x0.Num.fmag)) fun q2 =>
 bd (gd (!(decide (65536 < q2))) (P_exact_Bits (T_exact_Int.mk x0.Den.fneg x0.Den.fmag))) fun q3 =>
 lv ((decide (65536 < q2)) || (decide (65536 < q3))) fun x13 =>
 if x13 = true then
  some (3 : Int)
 else
  bd (P_exact_Sign (T_exact_Int.mk x0.Den.fneg x0.Den.fmag)) fun q4 =>
  if q4 < 1 then
   some (2 : Int)
  else
   bd (P_exact_Gcd (T_exact_Int.mk x0.Num.fneg x0.Num.fmag) (T_exact_Int.mk x0.Den.fneg x0.Den.fmag)) fun q5 =>
   bd (P_exact_Of 1) fun q6 =>
   bd (P_exact_Cmp q5 q6) fun q7 =>
   if q7 ≠ 0 then
    some (4 : Int)
   else
    some (0 : Int)
set_option maxHeartbeats 4000000 in
set_option maxRecDepth 100000 in
theorem c_exact_Check {w0 w : World} {l : List Assn} {ρ : Heap} {q5 : Option Addr} {q0a : Nat} {c_x0_1 : Nat} {q2 : Option Addr} {q0b : Nat} {c_x0_3 : Nat} {x0 : T_exact_Ratio} {r : Int} (hF : P_exact_Check x0 = some r) (q7 : RdS (RpI .u32) ρ q5 q0a c_x0_1 x0.Num.fmag) (q6 : RdS (RpI .u32) ρ q2 q0b c_x0_3 x0.Den.fmag) (hS : St w0 w (ro ρ :: l)) :
  Calls Try.prog 31 #[.agg #[.bool x0.Num.fneg, .slice q5 q0a c_x0_1, .bool x0.Den.fneg, .slice q2 q0b c_x0_3]] w fun e w' => e = .returned (.int .i64 r) ∧ St w0 w' (ro ρ :: l) := by
 have e_ := q7.n; subst e_
 have e_ := q6.n; subst e_
 refine enterC Try.func31 rfl 28 rfl (by simp) ?_
 refine x_seq <| x_region <| ?_
 refine o_box (cs := [.bool x0.Num.fneg, .slice q5 x0.Num.fmag.length c_x0_1, .bool x0.Den.fneg, .slice q2 x0.Den.fmag.length c_x0_3]) rfl rfl hS (fun b1 w' hS => ?_)
 replace hF := bd_s hF; obtain ⟨q9, q0i, hF⟩ := hF
 refine p (yl_assign rfl) <| x_done <| x_seq <| x_block <|
  x_seq <| x_region <| p (yl_field0 fld_43_0 rfl) <| pa (v := .agg #[.bool x0.Num.fneg, .slice q5 x0.Num.fmag.length c_x0_1]) (ld_sub agg_41 rfl rfl rfl hS) <| ?_
 have hcall := c_exact_Bits q0i q7 (hS.pull 1)
 refine o_cc call_49 (args1 rfl) ((Calls.mono hcall (fun e w'' h => And.intro h.1 (h.2.pull 1)))) ?_
 rintro e w' ⟨rfl, hS⟩
 refine ⟨_, rfl, ?_⟩
 replace hF := bd_s hF; obtain ⟨q0h, q0j, hF⟩ := hF
 refine p (yl_gtr rfl rfl) <| p (yl_move rfl) <| pg (v := .pointer (some ⟨b1, 2, none⟩)) 8 (c := !(decide (65536 < q9))) (says_f _) (fun hq => Yl.at (yl_field0 fld_43_1 rfl)) <| pg (v := .agg #[.bool x0.Den.fneg, .slice q2 x0.Den.fmag.length c_x0_3]) 8 (c := !(decide (65536 < q9))) (says_f _) (fun hq => ld_sub agg_41 (cv hq) rfl rfl hS) <|
  pccg (v := .int .i64 q0h) 8 (c := !(decide (65536 < q9))) (says_f _) call_49 (fun hq => (args1 (cv hq))) hS (fun hq => by
   have hcall := c_exact_Bits (gd_t q0j hq) q6 (hS.pull 1)
   exact (Calls.mono hcall (fun e w'' h => And.intro h.1 (h.2.pull 1)))) (fun w' hS => ?_)
 replace hF := lv_s hF; obtain ⟨x13, hx13, hF⟩ := hF
 refine pg (v := .bool (decide (65536 < q0h))) 8 (c := !(decide (65536 < q9))) (says_f _) (fun hq => Yl.at (yl_gtr (cv hq) rfl)) <| p (yor' rfl rfl (fun hc => (cv (t_not hc))) hx13) <| p (yl_assign rfl) <| x_done <|
  x_cond (t := x13) rfl (fun hc3 => ?_) (fun hc3 => ?_)
 ·replace hF := it_t hc3 hF
  refine x_seq <| x_region <| p (yl_assign rfl) <| x_done <| ?_
  have e_ := Option.some.inj (show some _ = some _ from hF); subst e_
  exact x_return ⟨_, ⟨_, _, rfl, rfl, rfl⟩, rfl, hS.drop⟩
 ·replace hF := it_bf hc3 hF
  replace hF := bd_s hF; obtain ⟨q0o, q0k, hF⟩ := hF
  refine x_seq <| x_region <| p (yl_field0 fld_43_1 rfl) <| pa (v := .agg #[.bool x0.Den.fneg, .slice q2 x0.Den.fmag.length c_x0_3]) (ld_sub agg_41 rfl rfl rfl hS) <| ?_
  have hcall := c_exact_Sign q0k q6 (hS.pull 1)
  refine o_cc call_19 (args1 rfl) ((Calls.mono hcall (fun e w'' h => And.intro h.1 (h.2.pull 1)))) ?_
  rintro e w' ⟨rfl, hS⟩
  refine ⟨_, rfl, ?_⟩
  refine p (yl_lss rfl rfl) <| p (yl_assign rfl) <| x_done <|
   x_cond_p (q0o < 1) rfl (fun hc14 => ?_) (fun hc14 => ?_)
  ·replace hF := it_t hc14 hF
   refine x_seq <| x_region <| p (yl_assign rfl) <| x_done <| ?_
   have e_ := Option.some.inj (show some _ = some _ from hF); subst e_
   exact x_return ⟨_, ⟨_, _, rfl, rfl, rfl⟩, rfl, hS.drop⟩
  ·replace hF := it_f hc14 hF
   replace hF := bd_s hF; obtain ⟨q0s, q0l, hF⟩ := hF
   refine x_seq <| x_region <| p (yl_field0 fld_43_0 rfl) <| pa (v := .agg #[.bool x0.Num.fneg, .slice q5 x0.Num.fmag.length c_x0_1]) (ld_sub agg_41 rfl rfl rfl hS) <|
    p (yl_field0 fld_43_1 rfl) <| pa (v := .agg #[.bool x0.Den.fneg, .slice q2 x0.Den.fmag.length c_x0_3]) (ld_sub agg_41 rfl rfl rfl hS) <| ?_
   have hcall := c_exact_Gcd q0l q7 q6 (hS.pull 1)
   refine o_cc call_50 (args2 rfl rfl) hcall ?_
   rintro e w' ⟨q0q, q0d, q0e, c_y0_ret_1_5_4, rfl, q0c, q3, hS⟩
   refine ⟨_, rfl, ?_⟩
   have e_ := q3.n; subst e_
   replace hF := bd_s hF; obtain ⟨q0t, q0m, hF⟩ := hF
   have hcall := c_exact_Of q0m  hS
   refine o_cc call_17 (args1 rfl) hcall ?_
   rintro e w' ⟨q0r, q0f, q0g, c_y0_ret_1_5_5, rfl, q8, q4, hS⟩
   refine ⟨_, rfl, ?_⟩
   have e_ := q4.n; subst e_
   replace hF := bd_s hF; obtain ⟨q0p, q0n, hF⟩ := hF
   have hcall := c_exact_Cmp q0n (q3.le q8) q4 hS
   refine o_cc call_28 (args2 rfl rfl) (hcall) ?_
   rintro e w' ⟨rfl, hS⟩
   refine ⟨_, rfl, ?_⟩
   refine p (yl_neq rfl rfl) <| p (yl_assign rfl) <| x_done <|
    x_cond_p (q0p ≠ 0) rfl (fun hc19 => ?_) (fun hc19 => ?_)
   ·replace hF := it_t hc19 hF
    refine x_seq <| x_region <| p (yl_assign rfl) <| x_done <| ?_
    have e_ := Option.some.inj (show some _ = some _ from hF); subst e_
    exact x_return ⟨_, ⟨_, _, rfl, rfl, rfl⟩, rfl, (ro_back0 (q0c.trans q8) ((hS.pull 1).drop))⟩
   ·replace hF := it_f hc19 hF
    refine x_skip <| x_blk <| x_seq <| x_region <|
     p (yl_assign rfl) <| x_done <| ?_
    have e_ := Option.some.inj (show some _ = some _ from hF); subst e_
    exact x_return ⟨_, ⟨_, _, rfl, rfl, rfl⟩, rfl, (ro_back0 (q0c.trans q8) ((hS.pull 1).drop))⟩
attribute [irreducible] P_exact_Check

def P_exact_both (a0 : T_exact_Ratio) (b1 : T_exact_Ratio) : Option Int :=
 bd (P_exact_Check a0) fun q2 =>
 if q2 ≠ 0 then
  some q2
 else
  bd (P_exact_Check b1) fun q3 =>
  some q3
set_option maxHeartbeats 4000000 in
set_option maxRecDepth 100000 in
theorem c_exact_both {w0 w : World} {l : List Assn} {ρ : Heap} {q2 : Option Addr} {q7 : Nat} {c_a0_1 : Nat} {q3 : Option Addr} {q8 : Nat} {c_a0_3 : Nat} {q4 : Option Addr} {q9 : Nat} {c_b1_1 : Nat} {q5 : Option Addr} {q0a : Nat} {c_b1_3 : Nat} {a0 : T_exact_Ratio} {b1 : T_exact_Ratio} {r : Int} (hF : P_exact_both a0 b1 = some r) (q0b : RdS (RpI .u32) ρ q2 q7 c_a0_1 a0.Num.fmag) (q0c : RdS (RpI .u32) ρ q3 q8 c_a0_3 a0.Den.fmag) (q0d : RdS (RpI .u32) ρ q4 q9 c_b1_1 b1.Num.fmag) (q0e : RdS (RpI .u32) ρ q5 q0a c_b1_3 b1.Den.fmag) (hS : St w0 w (ro ρ :: l)) :
  Calls Try.prog 27 #[.agg #[.bool a0.Num.fneg, .slice q2 q7 c_a0_1, .bool a0.Den.fneg, .slice q3 q8 c_a0_3], .agg #[.bool b1.Num.fneg, .slice q4 q9 c_b1_1, .bool b1.Den.fneg, .slice q5 q0a c_b1_3]] w fun e w' => e = .returned (.int .i64 r) ∧ St w0 w' (ro ρ :: l) := by
 have e_ := q0b.n; subst e_
 have e_ := q0c.n; subst e_
 have e_ := q0d.n; subst e_
 have e_ := q0e.n; subst e_
 refine enterC Try.func27 rfl 13 rfl (by simp) ?_
 refine x_seq <| x_region <| ?_
 refine o_box (cs := [.bool a0.Num.fneg, .slice q2 a0.Num.fmag.length c_a0_1, .bool a0.Den.fneg, .slice q3 a0.Den.fmag.length c_a0_3]) rfl rfl hS (fun b2 w' hS => ?_)
 refine o_box (cs := [.bool b1.Num.fneg, .slice q4 b1.Num.fmag.length c_b1_1, .bool b1.Den.fneg, .slice q5 b1.Den.fmag.length c_b1_3]) rfl rfl hS (fun b3 w' hS => ?_)
 replace hF := bd_s hF; obtain ⟨q6, q0f, hF⟩ := hF
 refine p (yl_assign rfl) <| x_done <| x_seq <| x_seq <|
  x_region <| pa (v := .agg #[.bool a0.Num.fneg, .slice q2 a0.Num.fmag.length c_a0_1, .bool a0.Den.fneg, .slice q3 a0.Den.fmag.length c_a0_3]) (ld_sub agg_43 rfl rfl rfl (hS.pull 1)) <| ?_
 have hcall := c_exact_Check q0f q0b q0c (hS.pull 2)
 refine o_cc call_31 (args1 rfl) ((Calls.mono hcall (fun e w'' h => And.intro h.1 ((h.2.pull 2).pull 2)))) ?_
 rintro e w' ⟨rfl, hS⟩
 refine ⟨_, rfl, ?_⟩
 refine p (v := .int .i64 q6) (yl_assign rfl) <| x_done <| x_seq <| x_region <|
  p (v := .int .i64 q6) (yl_move rfl) <| p (yl_neq rfl rfl) <| x_done <|
  x_cond_p (q6 ≠ 0) rfl (fun hc9 => ?_) (fun hc9 => ?_)
 ·replace hF := it_t hc9 hF
  refine x_seq <| x_region <| p (v := .int .i64 q6) (yl_move rfl) <| p (v := .int .i64 q6) (yl_assign rfl) <|
   x_done <| ?_
  have e_ := Option.some.inj (show some _ = some _ from hF); subst e_
  exact x_return ⟨_, ⟨_, _, rfl, rfl, rfl⟩, rfl, hS.drop.drop⟩
 ·replace hF := it_f hc9 hF
  replace hF := bd_s hF; obtain ⟨q0h, q0g, hF⟩ := hF
  refine x_skip <| x_seq <| x_region <| pa (v := .agg #[.bool b1.Num.fneg, .slice q4 b1.Num.fmag.length c_b1_1, .bool b1.Den.fneg, .slice q5 b1.Den.fmag.length c_b1_3]) (ld_sub agg_43 rfl rfl rfl hS) <| ?_
  have hcall := c_exact_Check q0g q0d q0e (hS.pull 2)
  refine o_cc call_31 (args1 rfl) ((Calls.mono hcall (fun e w'' h => And.intro h.1 ((h.2.pull 2).pull 2)))) ?_
  rintro e w' ⟨rfl, hS⟩
  refine ⟨_, rfl, ?_⟩
  refine p (v := .int .i64 q0h) (yl_assign rfl) <| x_done <| ?_
  have e_ := Option.some.inj (show some _ = some _ from hF); subst e_
  exact x_return ⟨_, ⟨_, _, rfl, rfl, rfl⟩, rfl, hS.drop.drop⟩
attribute [irreducible] P_exact_both

def P_exact_Compare (a0 : T_exact_Ratio) (b1 : T_exact_Ratio) : Option Int :=
 bd (P_exact_both a0 b1) fun q3 =>
 if q3 ≠ 0 then
  some (0 : Int)
 else
  bd (P_exact_times (T_exact_Int.mk a0.Num.fneg a0.Num.fmag) (T_exact_Int.mk b1.Den.fneg b1.Den.fmag)) fun q4 =>
  bd (P_exact_times (T_exact_Int.mk b1.Num.fneg b1.Num.fmag) (T_exact_Int.mk a0.Den.fneg a0.Den.fmag)) fun q5 =>
  bd (P_exact_Cmp q4 q5) fun q2 =>
  some q2
set_option maxHeartbeats 4000000 in
set_option maxRecDepth 100000 in
theorem c_exact_Compare {w0 w : World} {l : List Assn} {ρ : Heap} {q6 : Option Addr} {q10 : Nat} {c_a0_1 : Nat} {q7 : Option Addr} {q11 : Nat} {c_a0_3 : Nat} {q8 : Option Addr} {q12 : Nat} {c_b1_1 : Nat} {q9 : Option Addr} {q13 : Nat} {c_b1_3 : Nat} {a0 : T_exact_Ratio} {b1 : T_exact_Ratio} {r : Int} (hF : P_exact_Compare a0 b1 = some r) (q0s : RdS (RpI .u32) ρ q6 q10 c_a0_1 a0.Num.fmag) (q0t : RdS (RpI .u32) ρ q7 q11 c_a0_3 a0.Den.fmag) (q0u : RdS (RpI .u32) ρ q8 q12 c_b1_1 b1.Num.fmag) (q0v : RdS (RpI .u32) ρ q9 q13 c_b1_3 b1.Den.fmag) (hS : St w0 w (ro ρ :: l)) :
  Calls Try.prog 10 #[.agg #[.bool a0.Num.fneg, .slice q6 q10 c_a0_1, .bool a0.Den.fneg, .slice q7 q11 c_a0_3], .agg #[.bool b1.Num.fneg, .slice q8 q12 c_b1_1, .bool b1.Den.fneg, .slice q9 q13 c_b1_3]] w fun e w' => e = .returned (.int .i64 r) ∧ St w0 w' (ro ρ :: l) := by
 have e_ := q0s.n; subst e_
 have e_ := q0t.n; subst e_
 have e_ := q0u.n; subst e_
 have e_ := q0v.n; subst e_
 refine enterC Try.func10 rfl 20 rfl (by simp) ?_
 refine x_seq <| x_region <| ?_
 refine o_box (cs := [.bool a0.Num.fneg, .slice q6 a0.Num.fmag.length c_a0_1, .bool a0.Den.fneg, .slice q7 a0.Den.fmag.length c_a0_3]) rfl rfl hS (fun b2 w' hS => ?_)
 refine o_box (cs := [.bool b1.Num.fneg, .slice q8 b1.Num.fmag.length c_b1_1, .bool b1.Den.fneg, .slice q9 b1.Den.fmag.length c_b1_3]) rfl rfl hS (fun b3 w' hS => ?_)
 replace hF := bd_s hF; obtain ⟨q1h, q1e, hF⟩ := hF
 refine p (yl_assign rfl) <| x_done <| x_seq <| x_seq <|
  x_region <| pa (v := .agg #[.bool a0.Num.fneg, .slice q6 a0.Num.fmag.length c_a0_1, .bool a0.Den.fneg, .slice q7 a0.Den.fmag.length c_a0_3]) (ld_sub agg_43 rfl rfl rfl (hS.pull 1)) <| pa (v := .agg #[.bool b1.Num.fneg, .slice q8 b1.Num.fmag.length c_b1_1, .bool b1.Den.fneg, .slice q9 b1.Den.fmag.length c_b1_3]) (ld_sub agg_43 rfl rfl rfl hS) <| ?_
 have hcall := c_exact_both q1e q0s q0t q0u q0v (hS.pull 2)
 refine o_cc call_27 (args2 rfl rfl) ((Calls.mono hcall (fun e w'' h => And.intro h.1 ((h.2.pull 2).pull 2)))) ?_
 rintro e w' ⟨rfl, hS⟩
 refine ⟨_, rfl, ?_⟩
 refine p (yl_neq rfl rfl) <| x_done <|
  x_cond_p (q1h ≠ 0) rfl (fun hc8 => ?_) (fun hc8 => ?_)
 ·replace hF := it_t hc8 hF
  refine x_seq <| x_region <| p (yl_assign rfl) <| x_done <| ?_
  have e_ := Option.some.inj (show some _ = some _ from hF); subst e_
  exact x_return ⟨_, ⟨_, _, rfl, rfl, rfl⟩, rfl, hS.drop.drop⟩
 ·replace hF := it_f hc8 hF
  refine x_skip <| x_seq <| ?_
  replace hF := bd_s hF; obtain ⟨q0a, q1f, hF⟩ := hF
  replace hF := bd_s hF; obtain ⟨q0b, q1g, hF⟩ := hF
  replace hF := bd_s hF; obtain ⟨q0e, q1d, hF⟩ := hF
  refine x_par (w0 := w0) [⟨[], [], [9], [], [], []⟩, ⟨[0], [0], [10], [0], [], []⟩, ⟨[], [], [11], [], [], []⟩, ⟨[2], [2], [12], [1], [], []⟩, ⟨[0, 1, 2, 3], [1, 3], [13], [2], [], [3]⟩, ⟨[], [], [14], [], [], []⟩, ⟨[5], [5], [15], [1], [], []⟩, ⟨[], [], [16], [], [], []⟩, ⟨[7], [7], [17], [0], [], []⟩, ⟨[0, 1, 2, 3, 4, 5, 6, 7, 8], [6, 8], [18], [2], [], [4]⟩, ⟨[0, 1, 2, 3, 4, 5, 6, 7, 8, 9], [4, 9], [19], [2, 3, 4], [], []⟩, ⟨[0, 1, 2, 3, 4, 5, 6, 7, 8, 9, 10], [10], [4], [], [], []⟩] [⟨none, none, []⟩, ⟨none, none, []⟩, ⟨none, none, []⟩, ⟨(some 4), none, [13]⟩, ⟨(some 9), none, [18]⟩] [4, 9, 10, 11, 12, 13, 14, 15, 16, 17, 18, 19] [0, 1, 2] [0, 1, 2, 3, 4] [0, 1, 2, 3, 4, 5, 6, 7, 8, 9, 10, 11] [fun Ep3 => Ep3 9 = .pointer (some ⟨b2, 0, none⟩), fun Ep3 => Ep3 10 = .agg #[.bool a0.Num.fneg, .slice q6 a0.Num.fmag.length c_a0_1], fun Ep3 => Ep3 11 = .pointer (some ⟨b3, 2, none⟩), fun Ep3 => Ep3 12 = .agg #[.bool b1.Den.fneg, .slice q9 b1.Den.fmag.length c_b1_3], fun Ep3 => Ep3 13 = .agg #[.bool q0a.fneg, .slice (adOf (partOf 1 (Ep3 13))) q0a.fmag.length (capOf (partOf 1 (Ep3 13)))], fun Ep3 => Ep3 14 = .pointer (some ⟨b3, 0, none⟩), fun Ep3 => Ep3 15 = .agg #[.bool b1.Num.fneg, .slice q8 b1.Num.fmag.length c_b1_1], fun Ep3 => Ep3 16 = .pointer (some ⟨b2, 2, none⟩), fun Ep3 => Ep3 17 = .agg #[.bool a0.Den.fneg, .slice q7 a0.Den.fmag.length c_a0_3], fun Ep3 => Ep3 18 = .agg #[.bool q0b.fneg, .slice (adOf (partOf 1 (Ep3 18))) q0b.fmag.length (capOf (partOf 1 (Ep3 18)))], fun Ep3 => Ep3 19 = .int .i64 q0e, fun Ep3 => Ep3 4 = .int .i64 q0e] [fun Ep3 => cells b2 43 [.bool a0.Num.fneg, .slice q6 a0.Num.fmag.length c_a0_1, .bool a0.Den.fneg, .slice q7 a0.Den.fmag.length c_a0_3], fun Ep3 => cells b3 43 [.bool b1.Num.fneg, .slice q8 b1.Num.fmag.length c_b1_1, .bool b1.Den.fneg, .slice q9 b1.Den.fmag.length c_b1_3], fun Ep3 => ro ρ, fun Ep3 => bunA (fun (q2 : Heap) => Le ρ q2 ∧ RdS (RpI .u32) q2 (adOf (partOf 1 (Ep3 13))) q0a.fmag.length (capOf (partOf 1 (Ep3 13))) q0a.fmag) (fun (q2 : Heap) => [roD ρ q2]), fun Ep3 => bunA (fun (q3 : Heap) => Le ρ q3 ∧ RdS (RpI .u32) q3 (adOf (partOf 1 (Ep3 18))) q0b.fmag.length (capOf (partOf 1 (Ep3 18))) q0b.fmag) (fun (q3 : Heap) => [roD ρ q3])] mixed (by kernel_rfl) (((hS.pull 2).pull 1).pull 2) ?_ ?_
  ·refine ⟨?_, ?_, ?_, ?_, ?_, ?_, ?_, ?_, ?_, ?_, ?_, ?_, trivial⟩
   ·intro Ep3 w l' hE3 hO3 hF_ hS
    refine p (yl_field0 fld_43_0 (hE3 2 rfl)) <| x_done <| ?_
    refine x_fin ⟨⟨_, rfl⟩, rfl, ?_⟩
    exact Eq.mp (by kernel_rfl) hS
   ·intro Ep3 w l' hE3 hO3 hF_ hS
    obtain ⟨q0g, -⟩ := hF_
    replace q0g : Ep3 9 = .pointer (some ⟨b2, 0, none⟩) := Eq.mp (by kernel_rfl) q0g
    replace hS : St w0 w (cells b2 43 [.bool a0.Num.fneg, .slice q6 a0.Num.fmag.length c_a0_1, .bool a0.Den.fneg, .slice q7 a0.Den.fmag.length c_a0_3] :: l') := Eq.mp (by kernel_rfl) hS
    refine pa (v := .agg #[.bool a0.Num.fneg, .slice q6 a0.Num.fmag.length c_a0_1]) (ld_sub agg_41 q0g rfl rfl hS) <| x_done <| ?_
    refine x_fin ⟨⟨_, rfl⟩, rfl, ?_⟩
    exact Eq.mp (by kernel_rfl) hS
   ·intro Ep3 w l' hE3 hO3 hF_ hS
    refine p (yl_field0 fld_43_1 (hE3 3 rfl)) <| x_done <| ?_
    refine x_fin ⟨⟨_, rfl⟩, rfl, ?_⟩
    exact Eq.mp (by kernel_rfl) hS
   ·intro Ep3 w l' hE3 hO3 hF_ hS
    obtain ⟨q0h, -⟩ := hF_
    replace q0h : Ep3 11 = .pointer (some ⟨b3, 2, none⟩) := Eq.mp (by kernel_rfl) q0h
    replace hS : St w0 w (cells b3 43 [.bool b1.Num.fneg, .slice q8 b1.Num.fmag.length c_b1_1, .bool b1.Den.fneg, .slice q9 b1.Den.fmag.length c_b1_3] :: l') := Eq.mp (by kernel_rfl) hS
    refine pa (v := .agg #[.bool b1.Den.fneg, .slice q9 b1.Den.fmag.length c_b1_3]) (ld_sub agg_41 q0h rfl rfl hS) <| x_done <| ?_
    refine x_fin ⟨⟨_, rfl⟩, rfl, ?_⟩
    exact Eq.mp (by kernel_rfl) hS
   ·intro Ep3 w l' hE3 hO3 hF_ hS
    obtain ⟨q0i, q0j, -⟩ := hF_
    replace q0i : Ep3 10 = .agg #[.bool a0.Num.fneg, .slice q6 a0.Num.fmag.length c_a0_1] := Eq.mp (by kernel_rfl) q0i
    replace q0j : Ep3 12 = .agg #[.bool b1.Den.fneg, .slice q9 b1.Den.fmag.length c_b1_3] := Eq.mp (by kernel_rfl) q0j
    replace hS : St w0 w (ro ρ :: l') := Eq.mp (by kernel_rfl) hS
    have hcall := c_exact_times q1f q0s q0v hS
    refine o_cc call_29 (args2 q0i q0j) hcall ?_
    rintro e w' ⟨q2, q0k, q1a, c_y0_ret_1_3_4, rfl, q14, q4, hS⟩
    refine ⟨_, rfl, ?_⟩
    have e_ := q4.n; subst e_
    refine x_done <| ?_
    refine x_fin ⟨⟨_, rfl⟩, rfl, ?_⟩
    replace hS := St.ro_split q14 hS
    replace hS := St.bun (Φ := (fun (q2 : Heap) => Le ρ q2 ∧ RdS (RpI .u32) q2 q0k q0a.fmag.length c_y0_ret_1_3_4 q0a.fmag)) (L := (fun (q2 : Heap) => [roD ρ q2])) q2 ⟨q14, q4⟩ (hS.pull 1)
    exact Eq.mp (by kernel_rfl) (hS.pull 1)
   ·intro Ep3 w l' hE3 hO3 hF_ hS
    refine p (yl_field0 fld_43_0 (hE3 3 rfl)) <| x_done <| ?_
    refine x_fin ⟨⟨_, rfl⟩, rfl, ?_⟩
    exact Eq.mp (by kernel_rfl) hS
   ·intro Ep3 w l' hE3 hO3 hF_ hS
    obtain ⟨q0l, -⟩ := hF_
    replace q0l : Ep3 14 = .pointer (some ⟨b3, 0, none⟩) := Eq.mp (by kernel_rfl) q0l
    replace hS : St w0 w (cells b3 43 [.bool b1.Num.fneg, .slice q8 b1.Num.fmag.length c_b1_1, .bool b1.Den.fneg, .slice q9 b1.Den.fmag.length c_b1_3] :: l') := Eq.mp (by kernel_rfl) hS
    refine pa (v := .agg #[.bool b1.Num.fneg, .slice q8 b1.Num.fmag.length c_b1_1]) (ld_sub agg_41 q0l rfl rfl hS) <| x_done <| ?_
    refine x_fin ⟨⟨_, rfl⟩, rfl, ?_⟩
    exact Eq.mp (by kernel_rfl) hS
   ·intro Ep3 w l' hE3 hO3 hF_ hS
    refine p (yl_field0 fld_43_1 (hE3 2 rfl)) <| x_done <| ?_
    refine x_fin ⟨⟨_, rfl⟩, rfl, ?_⟩
    exact Eq.mp (by kernel_rfl) hS
   ·intro Ep3 w l' hE3 hO3 hF_ hS
    obtain ⟨q0m, -⟩ := hF_
    replace q0m : Ep3 16 = .pointer (some ⟨b2, 2, none⟩) := Eq.mp (by kernel_rfl) q0m
    replace hS : St w0 w (cells b2 43 [.bool a0.Num.fneg, .slice q6 a0.Num.fmag.length c_a0_1, .bool a0.Den.fneg, .slice q7 a0.Den.fmag.length c_a0_3] :: l') := Eq.mp (by kernel_rfl) hS
    refine pa (v := .agg #[.bool a0.Den.fneg, .slice q7 a0.Den.fmag.length c_a0_3]) (ld_sub agg_41 q0m rfl rfl hS) <| x_done <| ?_
    refine x_fin ⟨⟨_, rfl⟩, rfl, ?_⟩
    exact Eq.mp (by kernel_rfl) hS
   ·intro Ep3 w l' hE3 hO3 hF_ hS
    obtain ⟨q0n, q0o, -⟩ := hF_
    replace q0n : Ep3 15 = .agg #[.bool b1.Num.fneg, .slice q8 b1.Num.fmag.length c_b1_1] := Eq.mp (by kernel_rfl) q0n
    replace q0o : Ep3 17 = .agg #[.bool a0.Den.fneg, .slice q7 a0.Den.fmag.length c_a0_3] := Eq.mp (by kernel_rfl) q0o
    replace hS : St w0 w (ro ρ :: l') := Eq.mp (by kernel_rfl) hS
    have hcall := c_exact_times q1g q0u q0t hS
    refine o_cc call_29 (args2 q0n q0o) hcall ?_
    rintro e w' ⟨q3, q0p, q1b, c_y0_ret_1_3_9, rfl, q15, q5, hS⟩
    refine ⟨_, rfl, ?_⟩
    have e_ := q5.n; subst e_
    refine x_done <| ?_
    refine x_fin ⟨⟨_, rfl⟩, rfl, ?_⟩
    replace hS := St.ro_split q15 hS
    replace hS := St.bun (Φ := (fun (q3 : Heap) => Le ρ q3 ∧ RdS (RpI .u32) q3 q0p q0b.fmag.length c_y0_ret_1_3_9 q0b.fmag)) (L := (fun (q3 : Heap) => [roD ρ q3])) q3 ⟨q15, q5⟩ (hS.pull 1)
    exact Eq.mp (by kernel_rfl) (hS.pull 1)
   ·intro Ep3 w l' hE3 hO3 hF_ hS
    obtain ⟨q0q, q0r, -⟩ := hF_
    replace q0q : Ep3 13 = .agg #[.bool q0a.fneg, .slice (adOf (partOf 1 (Ep3 13))) q0a.fmag.length (capOf (partOf 1 (Ep3 13)))] := Eq.mp (by kernel_rfl) q0q
    replace q0r : Ep3 18 = .agg #[.bool q0b.fneg, .slice (adOf (partOf 1 (Ep3 18))) q0b.fmag.length (capOf (partOf 1 (Ep3 18)))] := Eq.mp (by kernel_rfl) q0r
    replace hS : St w0 w (ro ρ :: bunA (fun (q2 : Heap) => Le ρ q2 ∧ RdS (RpI .u32) q2 (adOf (partOf 1 (Ep3 13))) q0a.fmag.length (capOf (partOf 1 (Ep3 13))) q0a.fmag) (fun (q2 : Heap) => [roD ρ q2]) :: bunA (fun (q3 : Heap) => Le ρ q3 ∧ RdS (RpI .u32) q3 (adOf (partOf 1 (Ep3 18))) q0b.fmag.length (capOf (partOf 1 (Ep3 18))) q0b.fmag) (fun (q3 : Heap) => [roD ρ q3]) :: l') := Eq.mp (by kernel_rfl) hS
    have q_ := St.unbun (hS.pull 1); obtain ⟨q2, ⟨q0c, q4⟩, hS⟩ := q_
    have q_ := St.ro_join (hS.pull 1) (Le.refl _) q0c; obtain ⟨q1i, q16, q17, hS, q0x⟩ := q_
    have q_ := St.unbun (hS.pull 1); obtain ⟨q3, ⟨q0d, q5⟩, hS⟩ := q_
    have q_ := St.ro_join (hS.pull 1) q16 q0d; obtain ⟨q1j, q18, q19, hS, q0y⟩ := q_
    have hcall := c_exact_Cmp q1d (q4.le (q17.trans q18)) (q5.le q19) hS
    refine o_cc call_28 (args2 q0q q0r) (hcall) ?_
    rintro e w' ⟨rfl, hS⟩
    refine ⟨_, rfl, ?_⟩
    refine x_done <| ?_
    refine x_fin ⟨⟨_, rfl⟩, rfl, ?_⟩
    replace hS := q0y hS
    replace hS := St.bun (Φ := (fun (q3 : Heap) => Le ρ q3 ∧ RdS (RpI .u32) q3 (adOf (partOf 1 (Ep3 18))) q0b.fmag.length (capOf (partOf 1 (Ep3 18))) q0b.fmag)) (L := (fun (q3 : Heap) => [roD ρ q3])) q3 ⟨q0d, q5⟩ (hS.pull 1)
    replace hS := q0x (hS.pull 1)
    replace hS := St.bun (Φ := (fun (q2 : Heap) => Le ρ q2 ∧ RdS (RpI .u32) q2 (adOf (partOf 1 (Ep3 13))) q0a.fmag.length (capOf (partOf 1 (Ep3 13))) q0a.fmag)) (L := (fun (q2 : Heap) => [roD ρ q2])) q2 ⟨q0c, q4⟩ (hS.pull 1)
    exact Eq.mp (by kernel_rfl) (((hS.pull 2).pull 1).pull 2)
   ·intro Ep3 w l' hE3 hO3 hF_ hS
    obtain ⟨q0f, -⟩ := hF_
    replace q0f : Ep3 19 = .int .i64 q0e := Eq.mp (by kernel_rfl) q0f
    refine p (v := .int .i64 q0e) (yl_assign q0f) <| x_done <| ?_
    refine x_fin ⟨⟨_, rfl⟩, rfl, ?_⟩
    exact Eq.mp (by kernel_rfl) hS
  intro Ep3 w' hE3 hF_ hS
  obtain ⟨q0g, q0i, q0h, q0j, q0q, q0l, q0n, q0m, q0o, q0r, q0f, q0z, -⟩ := hF_
  replace q0g : Ep3 9 = .pointer (some ⟨b2, 0, none⟩) := Eq.mp (by kernel_rfl) q0g
  replace q0i : Ep3 10 = .agg #[.bool a0.Num.fneg, .slice q6 a0.Num.fmag.length c_a0_1] := Eq.mp (by kernel_rfl) q0i
  replace q0h : Ep3 11 = .pointer (some ⟨b3, 2, none⟩) := Eq.mp (by kernel_rfl) q0h
  replace q0j : Ep3 12 = .agg #[.bool b1.Den.fneg, .slice q9 b1.Den.fmag.length c_b1_3] := Eq.mp (by kernel_rfl) q0j
  replace q0q : Ep3 13 = .agg #[.bool q0a.fneg, .slice (adOf (partOf 1 (Ep3 13))) q0a.fmag.length (capOf (partOf 1 (Ep3 13)))] := Eq.mp (by kernel_rfl) q0q
  replace q0l : Ep3 14 = .pointer (some ⟨b3, 0, none⟩) := Eq.mp (by kernel_rfl) q0l
  replace q0n : Ep3 15 = .agg #[.bool b1.Num.fneg, .slice q8 b1.Num.fmag.length c_b1_1] := Eq.mp (by kernel_rfl) q0n
  replace q0m : Ep3 16 = .pointer (some ⟨b2, 2, none⟩) := Eq.mp (by kernel_rfl) q0m
  replace q0o : Ep3 17 = .agg #[.bool a0.Den.fneg, .slice q7 a0.Den.fmag.length c_a0_3] := Eq.mp (by kernel_rfl) q0o
  replace q0r : Ep3 18 = .agg #[.bool q0b.fneg, .slice (adOf (partOf 1 (Ep3 18))) q0b.fmag.length (capOf (partOf 1 (Ep3 18)))] := Eq.mp (by kernel_rfl) q0r
  replace q0f : Ep3 19 = .int .i64 q0e := Eq.mp (by kernel_rfl) q0f
  replace q0z : Ep3 4 = .int .i64 q0e := Eq.mp (by kernel_rfl) q0z
  replace hS : St w0 w' (cells b2 43 [.bool a0.Num.fneg, .slice q6 a0.Num.fmag.length c_a0_1, .bool a0.Den.fneg, .slice q7 a0.Den.fmag.length c_a0_3] :: cells b3 43 [.bool b1.Num.fneg, .slice q8 b1.Num.fmag.length c_b1_1, .bool b1.Den.fneg, .slice q9 b1.Den.fmag.length c_b1_3] :: ro ρ :: bunA (fun (q2 : Heap) => Le ρ q2 ∧ RdS (RpI .u32) q2 (adOf (partOf 1 (Ep3 13))) q0a.fmag.length (capOf (partOf 1 (Ep3 13))) q0a.fmag) (fun (q2 : Heap) => [roD ρ q2]) :: bunA (fun (q3 : Heap) => Le ρ q3 ∧ RdS (RpI .u32) q3 (adOf (partOf 1 (Ep3 18))) q0b.fmag.length (capOf (partOf 1 (Ep3 18))) q0b.fmag) (fun (q3 : Heap) => [roD ρ q3]) :: (l)) := Eq.mp (by kernel_rfl) hS
  have q_ := St.unbun (hS.pull 3); obtain ⟨q2, ⟨q0c, q4⟩, hS⟩ := q_
  have q_ := St.ro_join (hS.pull 3) (Le.refl _) q0c; obtain ⟨q1o, q0w, q1m, hS, q1k⟩ := q_
  have q_ := St.unbun (hS.pull 3); obtain ⟨q3, ⟨q0d, q5⟩, hS⟩ := q_
  have q_ := St.ro_join (hS.pull 1) q0w q0d; obtain ⟨q1p, q1c, q1n, hS, q1l⟩ := q_
  have e_ := Option.some.inj (show some _ = some _ from hF); subst e_
  exact x_return ⟨_, ⟨_, _, rfl, q0z, rfl⟩, rfl, (ro_back0 (q0w.trans q1c) (((hS.pull 1).drop.pull 1).drop))⟩
attribute [irreducible] P_exact_Compare

def P_maskkeep4_PlaceInside_L13 (q8 : T_place_Pull) : (Int × Int × Int × Int × Int) → Option ((Int × Int × Int × Int × Int) ⊕ (Int × Int × Int × Int)) := fun (q6, q7, q3, q4, q2) =>
 if q2 < (q8.At.length : Int) then
  ck (inb q2 q8.At.length) <|
  lv (gt q8.At q2) fun q5 =>
  lv (min q6 q5.X) fun x64 =>
  lv (min q7 q5.Y) fun x68 =>
  lv (max q3 q5.X) fun x72 =>
  lv (max q4 q5.Y) fun x76 =>
  ar (q2 + 1) fun x77 =>
  some (Sum.inl (x64, x68, x72, x76, x77))
 else
  some (Sum.inr (q6, q7, q3, q4))
def P_maskkeep4_PlaceInside_L9 (q7 : (List T_place_Pull × Int)) : (Int × Int × Int × Int × Int) → Option ((Int × Int × Int × Int × Int) ⊕ (Int × Int × Int × Int)) := fun (q5, q6, q3, q4, q2) =>
 if q2 < (q7.1.length : Int) then
  bd (
   ck (inb q2 q7.1.length) <|
   lv (gt q7.1 q2) fun q0a =>
   if (q0a.Cells.length : Int) = 0 then
    some (q5, q6, q3, q4)
   else
    bd (
     lp (P_maskkeep4_PlaceInside_L13 q0a) fuel (q5, q6, q3, q4, 0)) fun (q0b, q0c, q8, q9) =>
    some (q0b, q0c, q8, q9)) fun (q0f, q0g, q0d, q0e) =>
  ar (q2 + 1) fun x78 =>
  some (Sum.inl (q0f, q0g, q0d, q0e, x78))
 else
  some (Sum.inr (q5, q6, q3, q4))
def P_maskkeep4_PlaceInside_L19 (q5 : (List T_place_Spot × Int)) (q8 : Int) (q9 : Int) (q6 : Int) (q7 : Int) : Int → Option (Int ⊕ (Unit ⊕ Bool)) := fun q3 =>
 if q3 < (q5.1.length : Int) then
  ck (inb q3 q5.1.length) <|
  lv (gt q5.1 q3) fun q2 =>
  bd (P_exact_Whole q8) fun q0g =>
  bd (P_exact_Compare (T_exact_Ratio.mk (T_exact_Int.mk q2.X.Num.fneg q2.X.Num.fmag) (T_exact_Int.mk q2.X.Den.fneg q2.X.Den.fmag)) q0g) fun q4 =>
  bd (gd (!(decide (q4 < 0))) (P_exact_Whole q6)) fun q0a =>
  bd (gd (!(decide (q4 < 0))) (P_exact_Compare (T_exact_Ratio.mk (T_exact_Int.mk q2.X.Num.fneg q2.X.Num.fmag) (T_exact_Int.mk q2.X.Den.fneg q2.X.Den.fmag)) q0a)) fun q0b =>
  lv ((decide (q4 < 0)) || (decide (0 < q0b))) fun x98 =>
  bd (gd (!x98) (P_exact_Whole q9)) fun q0c =>
  bd (gd (!x98) (P_exact_Compare (T_exact_Ratio.mk (T_exact_Int.mk q2.Y.Num.fneg q2.Y.Num.fmag) (T_exact_Int.mk q2.Y.Den.fneg q2.Y.Den.fmag)) q0c)) fun q0d =>
  lv (x98 || (decide (q0d < 0))) fun x106 =>
  bd (gd (!x106) (P_exact_Whole q7)) fun q0e =>
  bd (gd (!x106) (P_exact_Compare (T_exact_Ratio.mk (T_exact_Int.mk q2.Y.Num.fneg q2.Y.Num.fmag) (T_exact_Int.mk q2.Y.Den.fneg q2.Y.Den.fmag)) q0e)) fun q0f =>
  lv (x106 || (decide (0 < q0f))) fun x114 =>
  if x114 = true then
   some (Sum.inr (Sum.inr false))
  else
   ar (q3 + 1) fun x115 =>
   some (Sum.inl x115)
 else
  some (Sum.inr (Sum.inl ()))
def P_maskkeep4_PlaceInside (l_0 : List Int) : Option Bool :=
 bd (P_maskmake_Stream_Range (T_maskmake_Stream.mk l_0 0) 1 8) fun q2 =>
 bd (P_maskkeep4_pulls (T_maskmake_Stream.mk l_0 q2.2) q2.1) fun q6 =>
 bd (P_place_Solve q2.1 q6.1) fun q3 =>
 bd (P_maskkeep4_places) fun q9 =>
 lv ((!q9) || (decide (q3.2 ≠ 0))) fun x37 =>
 lv (x37 || (decide ((q3.1.length : Int) ≠ q2.1))) fun x43 =>
 if x43 = true then
  some false
 else
  bd (
   lp (P_maskkeep4_PlaceInside_L9 q6) fuel (60, 60, 0, 0, 0)) fun (q7, q8, q4, q5) =>
  bs (
   lp (P_maskkeep4_PlaceInside_L19 q3 q7 q8 q4 q5) fuel 0) (fun y => some y) fun _ =>
  some true
set_option maxHeartbeats 4000000 in
set_option maxRecDepth 100000 in
theorem c_maskkeep4_PlaceInside {w0 w : World} {l : List Assn} {ρ : Heap} {q34 : Option Addr} {q51 : Nat} {c_l_0 : Nat} {l_0 : List Int} {r : Bool} (hF : P_maskkeep4_PlaceInside l_0 = some r) (q4s : RdS (RpI .i64) ρ q34 q51 c_l_0 l_0) (hS : St w0 w (ro ρ :: l)) :
  Calls Try.prog 3 #[.slice q34 q51 c_l_0] w fun e w' => e = .returned (.bool r) ∧ St w0 w' (ro ρ :: l) := by
 have e_ := q4s.n; subst e_
 refine enterC Try.func3 rfl 116 rfl (by simp) ?_
 refine x_seq <| x_region <| p (yl_assign rfl) <| x_done <|
  x_seq <| x_region <| p (yl_move rfl) <| p (v := .agg #[.slice q34 l_0.length c_l_0, .int .i64 0]) (yl_build bld_25 bldf_25 (parts_eq (pt (va := .slice q34 l_0.length c_l_0) rfl pt0)) (by kernel_rfl)) <| ?_
 refine o_box (cs := [.slice q34 l_0.length c_l_0, .int .i64 0]) rfl rfl hS (fun b20 w' hS => ?_)
 replace hF := bd_s hF; obtain ⟨q5k, q66, hF⟩ := hF
 refine p (yl_assign rfl) <| x_done <| x_seq <| x_region <|
  p (yl_move rfl) <| ?_
 have hcall := c_maskmake_Stream_Range q66 q4s ((hS.pull 1).pull 1)
 refine o_cc call_6 (args3 rfl rfl rfl) hcall ?_
 rintro e w' ⟨rfl, hS⟩
 refine ⟨_, rfl, ?_⟩
 replace hF := bd_s hF; obtain ⟨q1v, q67, hF⟩ := hF
 refine p (yl_assign rfl) <| x_done <| x_seq <| x_region <|
  p (yl_move rfl) <| p (yl_move rfl) <| ?_
 have hcall := c_maskkeep4_pulls q67 q4s ((hS.pull 1).pull 1)
 refine o_cc call_7 (args2 rfl rfl) hcall ?_
 rintro e w' ⟨q72, q1a, q5l, c_y0_ret_3_2, q5j, rfl, q3u, q2k, hS⟩
 refine ⟨_, rfl, ?_⟩
 have e_ := St.vec_n hS q2k; subst e_
 refine p (yl_assign rfl) <| x_done <| x_seq <| x_region <|
  p (yl_move rfl) <| p (yl_move rfl) <| ?_
 have q_ := St.vec_fz ((hS.pull 2).pull 1) q2k; obtain ⟨q76, q3f, q4t, hS⟩ := q_
 replace hF := bd_s hF; obtain ⟨q0y, q68, hF⟩ := hF
 have hcall := c_place_Solve q68 q4t hS
 refine o_cc call_8 (args2 rfl rfl) hcall ?_
 rintro e w' ⟨q6, q0e, q5m, c_y0_ret_4_2, q11, rfl, q1q, q1r, hS⟩
 refine ⟨_, rfl, ?_⟩
 have e_ := St.vec_n hS q1r; subst e_
 replace hF := bd_s hF; obtain ⟨q5n, q69, hF⟩ := hF
 refine p (yl_move rfl) <| p (yl_extract rfl rfl) <| p (yl_extract rfl rfl) <| p (yl_assign rfl) <|
  p (yl_assign rfl) <| x_done <| x_seq <| x_seq <|
  x_region <| ?_
 have hcall := c_maskkeep4_places q69  (hS.pull 1)
 refine o_cc call_9 args0 ((Calls.mono hcall (fun e w'' h => And.intro h.1 (((h.2.pull 2).pull 1).pull 2)))) ?_
 rintro e w' ⟨rfl, hS⟩
 refine ⟨_, rfl, ?_⟩
 replace hF := lv_s hF; obtain ⟨x37, hx37, hF⟩ := hF
 replace hF := lv_s hF; obtain ⟨x43, hx43, hF⟩ := hF
 refine p (yl_not rfl) <| p (yl_move rfl) <| pg (v := .int .i64 q0y.2) 34 (c := !(!q5n)) (says_f _) (fun hq => Yl.at (yl_move rfl)) <| pg (v := .bool (decide (q0y.2 ≠ 0))) 34 (c := !(!q5n)) (says_f _) (fun hq => Yl.at (yl_neq (cv hq) rfl)) <|
  p (yor' rfl rfl (fun hc => (cv (t_not hc))) hx37) <| p (yl_move rfl) <| pg (v := .slice q0e q0y.1.length c_y0_ret_4_2) 38 (c := !x37) (says_f _) (fun hq => Yl.at (yl_move rfl)) <| pg (v := .int .i64 (q0y.1.length : Int)) 38 (c := !x37) (says_f _) (fun hq => Yl.at (yl_len_slice usl_29 (cv hq))) <|
  pg (v := .int .i64 q5k.1) 38 (c := !x37) (says_f _) (fun hq => Yl.at (yl_move rfl)) <| pg (v := .bool (decide ((q0y.1.length : Int) ≠ q5k.1))) 38 (c := !x37) (says_f _) (fun hq => Yl.at (yl_neq (cv hq) (cv hq))) <| p (yor' rfl rfl (fun hc => (cv (t_not hc))) hx43) <| x_done <|
  x_cond (t := x43) rfl (fun hc43 => ?_) (fun hc43 => ?_)
 ·replace hF := it_t hc43 hF
  refine x_seq <| x_region <| p (yl_assign rfl) <| x_done <| ?_
  have e_ := Option.some.inj (show some _ = some _ from hF); subst e_
  exact x_return ⟨_, ⟨_, _, rfl, rfl, rfl⟩, rfl, (ro_back0 ((q3u.trans q3f).trans q1q) ((hS.drop.pull 1).drop))⟩
 ·replace hF := it_bf hc43 hF
  refine x_skip <| x_seq <| x_region <| p (yl_assign rfl) <|
   p (yl_assign rfl) <| p (yl_assign rfl) <| p (yl_assign rfl) <| x_done <|
   x_seq <| x_seq <| x_region <| p (yl_move rfl) <|
   p (yl_len_slice usl_27 rfl) <| p (yl_move rfl) <| x_done <| ?_
  replace hF := bd_s hF; obtain ⟨oL9, hLL9, hF⟩ := hF
  refine x_join (fun E w => ∃ (q1k : Int) (q1b : Int) (q18 : Int) (q19 : Int), (q1k, q1b, q18, q19) = oL9 ∧ E 6 = .slice q0e q0y.1.length c_y0_ret_4_2 ∧ E 8 = .int .i64 q1k ∧ E 9 = .int .i64 q1b ∧ E 10 = .int .i64 q18 ∧ E 11 = .int .i64 q19 ∧ St w0 w (vec 45 R_place_Spot.sz (.slice q0e q0y.1.length c_y0_ret_4_2) q0y.1.length q11 :: ro q6 :: l)) ?_ ?_
  ·refine x_block ?_
   refine x_loop (fun k_ E w => ∃ (q1o : Int) (q1p : Int) (q1g : Int) (q1h : Int) (q1i : Int), lp (P_maskkeep4_PlaceInside_L9 q1v) k_ (q1o, q1p, q1g, q1h, q1i) = some oL9 ∧ E 6 = .slice q0e q0y.1.length c_y0_ret_4_2 ∧ E 8 = .int .i64 q1o ∧ E 9 = .int .i64 q1p ∧ E 10 = .int .i64 q1g ∧ E 11 = .int .i64 q1h ∧ E 44 = .slice q1a q1v.1.length c_y0_ret_3_2 ∧ E 45 = .int .i64 (q1v.1.length : Int) ∧ E 46 = .int .i64 q1i ∧ St w0 w (vec 45 R_place_Spot.sz (.slice q0e q0y.1.length c_y0_ret_4_2) q0y.1.length q11 :: ro q6 :: l)) fuel ⟨60, 60, 0, 0, 0, hLL9, rfl, rfl, rfl, rfl, rfl, rfl, rfl, rfl, (((hS.pull 2).drop.pull 1).pull 1)⟩ ?_
   rintro kL9 E w ⟨q1o, q1p, q1g, q1h, q1i, hLL9, q3v, q3w, q3x, q3g, q3h, q3i, q3j, q2n, hS⟩
   replace hLL9 := lp_s hLL9; obtain ⟨kL9, obL9, rfl, hFL9, hLL9⟩ := hLL9
   refine x_seq <| x_region <| p (yl_lss q2n q3j) <| x_done <|
    x_seq <|
    x_cond_p (q1i < (q1v.1.length : Int)) rfl (fun hc47 => ?_) (fun hc47 => ?_)
   ·replace hFL9 := it_t hc47 hFL9
    refine x_skip <| x_seq <| ?_
    replace hFL9 := bd_s hFL9; obtain ⟨ob1, hFb1, hFL9⟩ := hFL9
    refine x_join (fun E w => ∃ (q35 : Int) (q36 : Int) (q2o : Int) (q2p : Int), (q35, q36, q2o, q2p) = ob1 ∧ E 6 = .slice q0e q0y.1.length c_y0_ret_4_2 ∧ E 8 = .int .i64 q35 ∧ E 9 = .int .i64 q36 ∧ E 10 = .int .i64 q2o ∧ E 11 = .int .i64 q2p ∧ E 44 = .slice q1a q1v.1.length c_y0_ret_3_2 ∧ E 45 = .int .i64 (q1v.1.length : Int) ∧ E 46 = .int .i64 q1i ∧ St w0 w (vec 45 R_place_Spot.sz (.slice q0e q0y.1.length c_y0_ret_4_2) q0y.1.length q11 :: ro q6 :: l)) ?_ ?_
    ·replace hFb1 := ck_s hFb1; obtain ⟨q4v, hFb1⟩ := hFb1
     replace hFb1 := lv_s hFb1; obtain ⟨q1c, q5o, hFb1⟩ := hFb1
     have q_ := q4t.get q4v; obtain ⟨q73, q4w, q5p⟩ := q_
     rw [← q5o] at q4w
     obtain ⟨q4h, q6s, q4i, q3k, q6t, q3l, rfl, q54, q3m⟩ := q4w
     have e_ := q54.n; subst e_
     have e_ := q3m.n; subst e_
     refine x_block <| x_seq <| x_region <| p (yix_f sl_27 q3i q2n (q4t.le q1q) q4v) <|
      pa (v := .agg #[.int .i64 q1c.Weight, .slice q4h q1c.Cells.length q4i, .slice q3k q1c.At.length q3l]) (at_loadAgg agg_36 rfl rfl (Elt.every (Elt.le q5p q1q) (hS.pull 1))) <| ?_
     refine o_alloc zero_36 hS (fun b13 w' hS => ?_)
     refine o_storeAgg (news := [.int .i64 q1c.Weight, .slice q4h q1c.Cells.length q4i, .slice q3k q1c.At.length q3l]) agg_36 rfl rfl rfl (by simp [over_length]) hS (fun w' hS => ?_)
     refine x_done <| x_seq <| x_seq <| x_region <|
      p (yl_field0 fld_36_1 rfl) <| pa (at_load one_22 rfl (hS.cell rfl)) <| p (yl_len_slice usl_22 rfl) <| p (yl_eql rfl rfl) <|
      x_done <|
      x_cond_p ((q1c.Cells.length : Int) = 0) rfl (fun hc53 => ?_) (fun hc53 => ?_)
     ·replace hFb1 := it_t hc53 hFb1
      refine x_exitTo _ rfl <| ?_
      exact x_inv ⟨q1o, q1p, q1g, q1h, (Option.some.inj (show some _ = some _ from hFb1)), q3v, q3w, q3x, q3g, q3h, q3i, q3j, q2n, ((hS.drop.pull 1).pull 1)⟩
     ·replace hFb1 := it_f hc53 hFb1
      refine x_skip <| x_seq <| x_region <| p (yl_field0 fld_36_2 rfl) <|
       pa (at_load one_34 rfl (hS.cell rfl)) <| p (yl_len_slice usl_34 rfl) <| p (yl_move rfl) <| x_done <| ?_
      replace hFb1 := bd_s hFb1; obtain ⟨oL13, hLL13, hFb1⟩ := hFb1
      refine x_join (fun E w => ∃ (q2q : Int) (q2r : Int) (q2d : Int) (q2e : Int), (q2q, q2r, q2d, q2e) = oL13 ∧ E 6 = .slice q0e q0y.1.length c_y0_ret_4_2 ∧ E 8 = .int .i64 q2q ∧ E 9 = .int .i64 q2r ∧ E 10 = .int .i64 q2d ∧ E 11 = .int .i64 q2e ∧ E 44 = .slice q1a q1v.1.length c_y0_ret_3_2 ∧ E 45 = .int .i64 (q1v.1.length : Int) ∧ E 46 = .int .i64 q1i ∧ St w0 w (vec 45 R_place_Spot.sz (.slice q0e q0y.1.length c_y0_ret_4_2) q0y.1.length q11 :: ro q6 :: l)) ?_ ?_
      ·refine x_block ?_
       refine x_loop (fun k_ E w => ∃ (q2f : Int) (q2g : Int) (q1t : Int) (q1u : Int) (q2h : Int), lp (P_maskkeep4_PlaceInside_L13 q1c) k_ (q2f, q2g, q1t, q1u, q2h) = some oL13 ∧ E 6 = .slice q0e q0y.1.length c_y0_ret_4_2 ∧ E 8 = .int .i64 q2f ∧ E 9 = .int .i64 q2g ∧ E 10 = .int .i64 q1t ∧ E 11 = .int .i64 q1u ∧ E 44 = .slice q1a q1v.1.length c_y0_ret_3_2 ∧ E 45 = .int .i64 (q1v.1.length : Int) ∧ E 46 = .int .i64 q1i ∧ E 55 = .slice q3k q1c.At.length q3l ∧ E 56 = .int .i64 (q1c.At.length : Int) ∧ E 57 = .int .i64 q2h ∧ St w0 w (vec 45 R_place_Spot.sz (.slice q0e q0y.1.length c_y0_ret_4_2) q0y.1.length q11 :: ro q6 :: l)) fuel ⟨q1o, q1p, q1g, q1h, 0, hLL13, q3v, q3w, q3x, q3g, q3h, q3i, q3j, q2n, rfl, rfl, rfl, ((hS.drop.pull 1).pull 1)⟩ ?_
       rintro kL13 E w ⟨q2f, q2g, q1t, q1u, q2h, hLL13, q4j, q4k, q4l, q3y, q3z, q40, q41, q42, q43, q44, q31, hS⟩
       replace hLL13 := lp_s hLL13; obtain ⟨kL13, obL13, rfl, hFL13, hLL13⟩ := hLL13
       refine x_seq <| x_region <| p (yl_lss q31 q44) <| x_done <|
        x_seq <|
        x_cond_p (q2h < (q1c.At.length : Int)) rfl (fun hc58 => ?_) (fun hc58 => ?_)
       ·replace hFL13 := it_t hc58 hFL13
        replace hFL13 := ck_s hFL13; obtain ⟨q4x, hFL13⟩ := hFL13
        replace hFL13 := lv_s hFL13; obtain ⟨q3t, q5q, hFL13⟩ := hFL13
        have q_ := q3m.get q4x; obtain ⟨q74, q4y, q5r⟩ := q_
        rw [← q5q] at q4y
        have e_ := q4y; subst e_
        refine x_skip <| x_seq <| x_block <| x_seq <|
         x_region <| p (yix_f sl_34 q43 q31 (q3m.le q1q) q4x) <| pa (v := .agg #[.int .i64 q3t.X, .int .i64 q3t.Y]) (at_loadAgg agg_38 rfl rfl (Elt.every (Elt.le q5r q1q) (hS.pull 1))) <| ?_
        refine o_alloc zero_38 hS (fun b15 w' hS => ?_)
        refine o_storeAgg (news := [.int .i64 q3t.X, .int .i64 q3t.Y]) agg_38 rfl rfl rfl (by simp [over_length]) hS (fun w' hS => ?_)
        replace hFL13 := lv_s hFL13; obtain ⟨x64, hx64, hFL13⟩ := hFL13
        replace hFL13 := lv_s hFL13; obtain ⟨x68, hx68, hFL13⟩ := hFL13
        replace hFL13 := lv_s hFL13; obtain ⟨x72, hx72, hFL13⟩ := hFL13
        replace hFL13 := lv_s hFL13; obtain ⟨x76, hx76, hFL13⟩ := hFL13
        refine x_done <| x_still mixed (by kernel_rfl) hS <| q (yl_move q4k) <| q (yl_field0 fld_38_0 rfl) <|
         qa (fun w' hS => at_load one_3 rfl (hS.cell rfl)) <| q (ymin' rfl rfl hx64) <| q (yl_move q4l) <| q (yl_field0 fld_38_1 rfl) <|
         qa (fun w' hS => at_load one_3 rfl (hS.cell rfl)) <| q (ymin' rfl rfl hx68) <| q (yl_move q3y) <| q (yl_field0 fld_38_0 rfl) <|
         qa (fun w' hS => at_load one_3 rfl (hS.cell rfl)) <| q (ymax' rfl rfl hx72) <| q (yl_move q3z) <| q (yl_field0 fld_38_1 rfl) <|
         qa (fun w' hS => at_load one_3 rfl (hS.cell rfl)) <| q (ymax' rfl rfl hx76) <| q (yl_assign rfl) <| q (yl_assign rfl) <|
         q (yl_assign rfl) <| q (yl_assign rfl) <|
         q_done fun w' hS => ?_
        replace hFL13 := ar_s hFL13; obtain ⟨x77, hx77, hFL13⟩ := hFL13
        refine x_blk <| x_region <| p (yadd q31 rfl hx77) <| p (yl_move rfl) <|
         x_done <| ?_
        have e_ := Option.some.inj (show some _ = some _ from hFL13); subst e_
        exact x_inv ⟨kL13, Nat.lt_succ_self _, x64, x68, x72, x76, x77, hLL13, q4j, rfl, rfl, rfl, rfl, q40, q41, q42, q43, q44, rfl, ((hS.drop.pull 1).pull 1)⟩
       ·replace hFL13 := it_f hc58 hFL13
        refine x_exitTo _ rfl <| ?_
        have e_ := Option.some.inj (show some _ = some _ from hFL13); subst e_
        exact x_inv ⟨q2f, q2g, q1t, q1u, hLL13, q4j, q4k, q4l, q3y, q3z, q40, q41, q42, ((hS.pull 1).pull 1)⟩
      rintro E w ⟨q2q, q2r, q2d, q2e, rfl, q5s, q5t, q5u, q55, q56, q57, q58, q59, hS⟩
      refine x_blk <| ?_
      exact x_inv ⟨q2q, q2r, q2d, q2e, (Option.some.inj (show some _ = some _ from hFb1)), q5s, q5t, q5u, q55, q56, q57, q58, q59, ((hS.pull 1).pull 1)⟩
    rintro E w ⟨q35, q36, q2o, q2p, rfl, q6a, q6b, q6c, q5v, q5w, q5x, q5y, q5z, hS⟩
    replace hFL9 := ar_s hFL9; obtain ⟨x78, hx78, hFL9⟩ := hFL9
    refine x_region <| p (yadd q5z rfl hx78) <| p (yl_move rfl) <| x_done <| ?_
    have e_ := Option.some.inj (show some _ = some _ from hFL9); subst e_
    exact x_inv ⟨kL9, Nat.lt_succ_self _, q35, q36, q2o, q2p, x78, hLL9, q6a, q6b, q6c, q5v, q5w, q5x, q5y, rfl, ((hS.pull 1).pull 1)⟩
   ·replace hFL9 := it_f hc47 hFL9
    refine x_exitTo _ rfl <| ?_
    have e_ := Option.some.inj (show some _ = some _ from hFL9); subst e_
    exact x_inv ⟨q1o, q1p, q1g, q1h, hLL9, q3v, q3w, q3x, q3g, q3h, ((hS.pull 1).pull 1)⟩
  rintro E w ⟨q1k, q1b, q18, q19, rfl, q6d, q6e, q6f, q60, q61, hS⟩
  refine x_seq <| x_seq <| x_region <| p (yl_move q6d) <|
   p (yl_len_slice usl_29 rfl) <| p (yl_move rfl) <| x_done <| ?_
  replace hF := bs_s hF; obtain ⟨oL19, hLL19, hF⟩ := hF
  refine x_join (fun E w => (Sum.inl (())) = oL19 ∧ St w0 w (ro q6 :: l)) ?_ ?_
  ·refine x_block ?_
   refine x_loop (fun k_ E w => ∃ (q2i : Int), lp (P_maskkeep4_PlaceInside_L19 q0y q1k q1b q18 q19) k_ q2i = some oL19 ∧ E 8 = .int .i64 q1k ∧ E 9 = .int .i64 q1b ∧ E 10 = .int .i64 q18 ∧ E 11 = .int .i64 q19 ∧ E 79 = .slice q0e q0y.1.length c_y0_ret_4_2 ∧ E 80 = .int .i64 (q0y.1.length : Int) ∧ E 81 = .int .i64 q2i ∧ St w0 w (vec 45 R_place_Spot.sz (.slice q0e q0y.1.length c_y0_ret_4_2) q0y.1.length q11 :: ro q6 :: l)) fuel ⟨0, hLL19, q6e, q6f, q60, q61, rfl, rfl, rfl, ((hS.pull 1).pull 1)⟩ ?_
   rintro kL19 E w ⟨q2i, hLL19, q4m, q4n, q45, q46, q47, q48, q32, hS⟩
   replace hLL19 := lp_s hLL19; obtain ⟨kL19, obL19, rfl, hFL19, hLL19⟩ := hLL19
   refine x_seq <| x_region <| p (yl_lss q32 q48) <| x_done <|
    x_seq <|
    x_cond_p (q2i < (q0y.1.length : Int)) rfl (fun hc82 => ?_) (fun hc82 => ?_)
   ·replace hFL19 := it_t hc82 hFL19
    replace hFL19 := ck_s hFL19; obtain ⟨q4z, hFL19⟩ := hFL19
    replace hFL19 := lv_s hFL19; obtain ⟨q2, q62, hFL19⟩ := hFL19
    have q_ := q1r.get q4z; obtain ⟨q75, q50, q63⟩ := q_
    rw [← q62] at q50
    obtain ⟨q0q, q6u, q0r, q0s, q6v, q0t, q0u, q6w, q0v, q0w, q6x, q0x, rfl, q3n, q3o, q3p, q3q⟩ := q50
    have e_ := q3n.n; subst e_
    have e_ := q3o.n; subst e_
    have e_ := q3p.n; subst e_
    have e_ := q3q.n; subst e_
    refine x_skip <| x_seq <| x_block <| x_seq <|
     x_region <| p (yix_o sl_29 q47 q32 hS q1r q4z) <| pa (v := .agg #[.bool q2.X.Num.fneg, .slice q0q q2.X.Num.fmag.length q0r, .bool q2.X.Den.fneg, .slice q0s q2.X.Den.fmag.length q0t, .bool q2.Y.Num.fneg, .slice q0u q2.Y.Num.fmag.length q0v, .bool q2.Y.Den.fneg, .slice q0w q2.Y.Den.fmag.length q0x]) (at_loadAgg agg_45 rfl rfl (EltV.every q63 hS)) <| ?_
    refine o_alloc zero_45 hS (fun b17 w' hS => ?_)
    refine o_storeAgg (news := [.bool q2.X.Num.fneg, .slice q0q q2.X.Num.fmag.length q0r, .bool q2.X.Den.fneg, .slice q0s q2.X.Den.fmag.length q0t, .bool q2.Y.Num.fneg, .slice q0u q2.Y.Num.fmag.length q0v, .bool q2.Y.Den.fneg, .slice q0w q2.Y.Den.fmag.length q0x]) agg_45 rfl rfl rfl (by simp [over_length]) hS (fun w' hS => ?_)
    refine x_done <| x_seq <| ?_
    replace hFL19 := bd_s hFL19; obtain ⟨q0f, q64, hFL19⟩ := hFL19
    replace hFL19 := bd_s hFL19; obtain ⟨q0a, q65, hFL19⟩ := hFL19
    replace hFL19 := bd_s hFL19; obtain ⟨q3, q5a, hFL19⟩ := hFL19
    replace hFL19 := bd_s hFL19; obtain ⟨q1l, q5b, hFL19⟩ := hFL19
    replace hFL19 := lv_s hFL19; obtain ⟨x98, hx98, hFL19⟩ := hFL19
    replace hFL19 := bd_s hFL19; obtain ⟨q4, q5c, hFL19⟩ := hFL19
    replace hFL19 := bd_s hFL19; obtain ⟨q1m, q5d, hFL19⟩ := hFL19
    replace hFL19 := lv_s hFL19; obtain ⟨x106, hx106, hFL19⟩ := hFL19
    replace hFL19 := bd_s hFL19; obtain ⟨q5, q5e, hFL19⟩ := hFL19
    replace hFL19 := bd_s hFL19; obtain ⟨q1n, q5f, hFL19⟩ := hFL19
    replace hFL19 := lv_s hFL19; obtain ⟨x114, hx114, hFL19⟩ := hFL19
    refine x_par (w0 := w0) [⟨[], [], [85], [], [], []⟩, ⟨[0], [0], [86], [0], [], []⟩, ⟨[], [], [87], [], [], []⟩, ⟨[2], [2], [88], [1], [], [2]⟩, ⟨[0, 1, 2, 3], [1, 3], [89], [1, 2], [], []⟩, ⟨[0, 1, 2, 3, 4], [4], [90], [], [], []⟩, ⟨[0, 1, 2, 3, 4, 5], [5], [91], [], [], []⟩, ⟨[0, 1, 2, 3, 4, 5, 6], [6], [92], [], [], []⟩, ⟨[0, 1, 2, 3, 4, 5, 6, 7], [6, 7], [93], [0], [], []⟩, ⟨[0, 1, 2, 3, 4, 5, 6], [6], [94], [], [], []⟩, ⟨[0, 1, 2, 3, 4, 5, 6, 9], [6, 9], [95], [1], [], [3]⟩, ⟨[0, 1, 2, 3, 4, 5, 6, 7, 8, 9, 10], [6, 8, 10], [96], [1, 3], [], []⟩, ⟨[0, 1, 2, 3, 4, 5, 6, 7, 8, 9, 10, 11], [6, 11], [97], [], [], []⟩, ⟨[0, 1, 2, 3, 4, 5, 6, 7, 8, 9, 10, 11, 12], [6, 12], [98], [], [], []⟩, ⟨[0, 1, 2, 3, 4, 5, 6, 7, 8, 9, 10, 11, 12, 13], [13], [99], [], [], []⟩, ⟨[0, 1, 2, 3, 4, 5, 6, 7, 8, 9, 10, 11, 12, 13, 14], [14], [100], [], [], []⟩, ⟨[0, 1, 2, 3, 4, 5, 6, 7, 8, 9, 10, 11, 12, 13, 14, 15], [14, 15], [101], [0], [], []⟩, ⟨[0, 1, 2, 3, 4, 5, 6, 7, 8, 9, 10, 11, 12, 13, 14], [14], [102], [], [], []⟩, ⟨[0, 1, 2, 3, 4, 5, 6, 7, 8, 9, 10, 11, 12, 13, 14, 17], [14, 17], [103], [1], [], [4]⟩, ⟨[0, 1, 2, 3, 4, 5, 6, 7, 8, 9, 10, 11, 12, 13, 14, 15, 16, 17, 18], [14, 16, 18], [104], [1, 4], [], []⟩, ⟨[0, 1, 2, 3, 4, 5, 6, 7, 8, 9, 10, 11, 12, 13, 14, 15, 16, 17, 18, 19], [14, 19], [105], [], [], []⟩, ⟨[0, 1, 2, 3, 4, 5, 6, 7, 8, 9, 10, 11, 12, 13, 14, 15, 16, 17, 18, 19, 20], [14, 20], [106], [], [], []⟩, ⟨[0, 1, 2, 3, 4, 5, 6, 7, 8, 9, 10, 11, 12, 13, 14, 15, 16, 17, 18, 19, 20, 21], [21], [107], [], [], []⟩, ⟨[0, 1, 2, 3, 4, 5, 6, 7, 8, 9, 10, 11, 12, 13, 14, 15, 16, 17, 18, 19, 20, 21, 22], [22], [108], [], [], []⟩, ⟨[0, 1, 2, 3, 4, 5, 6, 7, 8, 9, 10, 11, 12, 13, 14, 15, 16, 17, 18, 19, 20, 21, 22, 23], [22, 23], [109], [0], [], []⟩, ⟨[0, 1, 2, 3, 4, 5, 6, 7, 8, 9, 10, 11, 12, 13, 14, 15, 16, 17, 18, 19, 20, 21, 22], [22], [110], [], [], []⟩, ⟨[0, 1, 2, 3, 4, 5, 6, 7, 8, 9, 10, 11, 12, 13, 14, 15, 16, 17, 18, 19, 20, 21, 22, 25], [22, 25], [111], [1], [], [5]⟩, ⟨[0, 1, 2, 3, 4, 5, 6, 7, 8, 9, 10, 11, 12, 13, 14, 15, 16, 17, 18, 19, 20, 21, 22, 23, 24, 25, 26], [22, 24, 26], [112], [1, 5], [], []⟩, ⟨[0, 1, 2, 3, 4, 5, 6, 7, 8, 9, 10, 11, 12, 13, 14, 15, 16, 17, 18, 19, 20, 21, 22, 23, 24, 25, 26, 27], [22, 27], [113], [], [], []⟩, ⟨[0, 1, 2, 3, 4, 5, 6, 7, 8, 9, 10, 11, 12, 13, 14, 15, 16, 17, 18, 19, 20, 21, 22, 23, 24, 25, 26, 27, 28], [22, 28], [114], [], [], []⟩] [⟨none, none, []⟩, ⟨none, none, []⟩, ⟨(some 3), none, [88]⟩, ⟨(some 10), none, [95]⟩, ⟨(some 18), none, [103]⟩, ⟨(some 26), none, [111]⟩] [85, 86, 87, 88, 89, 90, 91, 92, 93, 94, 95, 96, 97, 98, 99, 100, 101, 102, 103, 104, 105, 106, 107, 108, 109, 110, 111, 112, 113, 114] [0, 1] [0, 1, 2, 3, 4, 5] [0, 1, 2, 3, 4, 5, 6, 7, 8, 9, 10, 11, 12, 13, 14, 15, 16, 17, 18, 19, 20, 21, 22, 23, 24, 25, 26, 27, 28, 29] [fun Ep21 => Ep21 85 = .pointer (some ⟨b17, 0, none⟩), fun Ep21 => Ep21 86 = .agg #[.bool q2.X.Num.fneg, .slice q0q q2.X.Num.fmag.length q0r, .bool q2.X.Den.fneg, .slice q0s q2.X.Den.fmag.length q0t], fun Ep21 => Ep21 87 = .int .i64 q1k, fun Ep21 => Ep21 88 = .agg #[.bool q0f.Num.fneg, .slice (adOf (partOf 1 (Ep21 88))) q0f.Num.fmag.length (capOf (partOf 1 (Ep21 88))), .bool q0f.Den.fneg, .slice (adOf (partOf 3 (Ep21 88))) q0f.Den.fmag.length (capOf (partOf 3 (Ep21 88)))], fun Ep21 => Ep21 89 = .int .i64 q0a, fun Ep21 => Ep21 90 = .bool (decide (q0a < 0)), fun Ep21 => Ep21 91 = .bool (decide (q0a < 0)), fun Ep21 => Ep21 92 = (bif !(decide (q0a < 0)) then .pointer (some ⟨b17, 0, none⟩) else undef), fun Ep21 => Ep21 93 = (bif !(decide (q0a < 0)) then .agg #[.bool q2.X.Num.fneg, .slice q0q q2.X.Num.fmag.length q0r, .bool q2.X.Den.fneg, .slice q0s q2.X.Den.fmag.length q0t] else undef), fun Ep21 => Ep21 94 = (bif !(decide (q0a < 0)) then .int .i64 q18 else undef), fun Ep21 => Ep21 95 = (bif !(decide (q0a < 0)) then .agg #[.bool q3.Num.fneg, .slice (adOf (partOf 1 (Ep21 95))) q3.Num.fmag.length (capOf (partOf 1 (Ep21 95))), .bool q3.Den.fneg, .slice (adOf (partOf 3 (Ep21 95))) q3.Den.fmag.length (capOf (partOf 3 (Ep21 95)))] else undef), fun Ep21 => Ep21 96 = (bif !(decide (q0a < 0)) then .int .i64 q1l else undef), fun Ep21 => Ep21 97 = (bif !(decide (q0a < 0)) then .bool (decide (0 < q1l)) else undef), fun Ep21 => Ep21 98 = .bool x98, fun Ep21 => Ep21 99 = .bool x98, fun Ep21 => Ep21 100 = (bif !x98 then .pointer (some ⟨b17, 4, none⟩) else undef), fun Ep21 => Ep21 101 = (bif !x98 then .agg #[.bool q2.Y.Num.fneg, .slice q0u q2.Y.Num.fmag.length q0v, .bool q2.Y.Den.fneg, .slice q0w q2.Y.Den.fmag.length q0x] else undef), fun Ep21 => Ep21 102 = (bif !x98 then .int .i64 q1b else undef), fun Ep21 => Ep21 103 = (bif !x98 then .agg #[.bool q4.Num.fneg, .slice (adOf (partOf 1 (Ep21 103))) q4.Num.fmag.length (capOf (partOf 1 (Ep21 103))), .bool q4.Den.fneg, .slice (adOf (partOf 3 (Ep21 103))) q4.Den.fmag.length (capOf (partOf 3 (Ep21 103)))] else undef), fun Ep21 => Ep21 104 = (bif !x98 then .int .i64 q1m else undef), fun Ep21 => Ep21 105 = (bif !x98 then .bool (decide (q1m < 0)) else undef), fun Ep21 => Ep21 106 = .bool x106, fun Ep21 => Ep21 107 = .bool x106, fun Ep21 => Ep21 108 = (bif !x106 then .pointer (some ⟨b17, 4, none⟩) else undef), fun Ep21 => Ep21 109 = (bif !x106 then .agg #[.bool q2.Y.Num.fneg, .slice q0u q2.Y.Num.fmag.length q0v, .bool q2.Y.Den.fneg, .slice q0w q2.Y.Den.fmag.length q0x] else undef), fun Ep21 => Ep21 110 = (bif !x106 then .int .i64 q19 else undef), fun Ep21 => Ep21 111 = (bif !x106 then .agg #[.bool q5.Num.fneg, .slice (adOf (partOf 1 (Ep21 111))) q5.Num.fmag.length (capOf (partOf 1 (Ep21 111))), .bool q5.Den.fneg, .slice (adOf (partOf 3 (Ep21 111))) q5.Den.fmag.length (capOf (partOf 3 (Ep21 111)))] else undef), fun Ep21 => Ep21 112 = (bif !x106 then .int .i64 q1n else undef), fun Ep21 => Ep21 113 = (bif !x106 then .bool (decide (0 < q1n)) else undef), fun Ep21 => Ep21 114 = .bool x114] [fun Ep21 => cells b17 45 [.bool q2.X.Num.fneg, .slice q0q q2.X.Num.fmag.length q0r, .bool q2.X.Den.fneg, .slice q0s q2.X.Den.fmag.length q0t, .bool q2.Y.Num.fneg, .slice q0u q2.Y.Num.fmag.length q0v, .bool q2.Y.Den.fneg, .slice q0w q2.Y.Den.fmag.length q0x], fun Ep21 => ro q6, fun Ep21 => bunA (fun (q0b : Heap) => Le q6 q0b ∧ RdS (RpI .u32) q0b (adOf (partOf 1 (Ep21 88))) q0f.Num.fmag.length (capOf (partOf 1 (Ep21 88))) q0f.Num.fmag ∧ RdS (RpI .u32) q0b (adOf (partOf 3 (Ep21 88))) q0f.Den.fmag.length (capOf (partOf 3 (Ep21 88))) q0f.Den.fmag) (fun (q0b : Heap) => [roD q6 q0b]), fun Ep21 => bunA (fun (q7 : Heap) => Le q6 q7 ∧ ((!(decide (q0a < 0))) = true → RdS (RpI .u32) q7 (adOf (partOf 1 (Ep21 95))) q3.Num.fmag.length (capOf (partOf 1 (Ep21 95))) q3.Num.fmag) ∧ ((!(decide (q0a < 0))) = true → RdS (RpI .u32) q7 (adOf (partOf 3 (Ep21 95))) q3.Den.fmag.length (capOf (partOf 3 (Ep21 95))) q3.Den.fmag)) (fun (q7 : Heap) => [roD q6 q7]), fun Ep21 => bunA (fun (q8 : Heap) => Le q6 q8 ∧ ((!x98) = true → RdS (RpI .u32) q8 (adOf (partOf 1 (Ep21 103))) q4.Num.fmag.length (capOf (partOf 1 (Ep21 103))) q4.Num.fmag) ∧ ((!x98) = true → RdS (RpI .u32) q8 (adOf (partOf 3 (Ep21 103))) q4.Den.fmag.length (capOf (partOf 3 (Ep21 103))) q4.Den.fmag)) (fun (q8 : Heap) => [roD q6 q8]), fun Ep21 => bunA (fun (q9 : Heap) => Le q6 q9 ∧ ((!x106) = true → RdS (RpI .u32) q9 (adOf (partOf 1 (Ep21 111))) q5.Num.fmag.length (capOf (partOf 1 (Ep21 111))) q5.Num.fmag) ∧ ((!x106) = true → RdS (RpI .u32) q9 (adOf (partOf 3 (Ep21 111))) q5.Den.fmag.length (capOf (partOf 3 (Ep21 111))) q5.Den.fmag)) (fun (q9 : Heap) => [roD q6 q9])] mixed (by kernel_rfl) ((hS.pull 2).pull 1) ?_ ?_
    ·refine ⟨?_, ?_, ?_, ?_, ?_, ?_, ?_, ?_, ?_, ?_, ?_, ?_, ?_, ?_, ?_, ?_, ?_, ?_, ?_, ?_, ?_, ?_, ?_, ?_, ?_, ?_, ?_, ?_, ?_, ?_, trivial⟩
     ·intro Ep21 w l' hE21 hO21 hF_ hS
      refine p (yl_field0 fld_45_0 (hE21 17 rfl)) <| x_done <| ?_
      refine x_fin ⟨⟨_, rfl⟩, rfl, ?_⟩
      exact Eq.mp (by kernel_rfl) hS
     ·intro Ep21 w l' hE21 hO21 hF_ hS
      obtain ⟨q2s, -⟩ := hF_
      replace q2s : Ep21 85 = .pointer (some ⟨b17, 0, none⟩) := Eq.mp (by kernel_rfl) q2s
      replace hS : St w0 w (cells b17 45 [.bool q2.X.Num.fneg, .slice q0q q2.X.Num.fmag.length q0r, .bool q2.X.Den.fneg, .slice q0s q2.X.Den.fmag.length q0t, .bool q2.Y.Num.fneg, .slice q0u q2.Y.Num.fmag.length q0v, .bool q2.Y.Den.fneg, .slice q0w q2.Y.Den.fmag.length q0x] :: l') := Eq.mp (by kernel_rfl) hS
      refine pa (v := .agg #[.bool q2.X.Num.fneg, .slice q0q q2.X.Num.fmag.length q0r, .bool q2.X.Den.fneg, .slice q0s q2.X.Den.fmag.length q0t]) (ld_sub agg_43 q2s rfl rfl hS) <| x_done <| ?_
      refine x_fin ⟨⟨_, rfl⟩, rfl, ?_⟩
      exact Eq.mp (by kernel_rfl) hS
     ·intro Ep21 w l' hE21 hO21 hF_ hS
      refine p (yl_move ((hE21 8 rfl).trans q4m)) <| x_done <| ?_
      refine x_fin ⟨⟨_, rfl⟩, rfl, ?_⟩
      exact Eq.mp (by kernel_rfl) hS
     ·intro Ep21 w l' hE21 hO21 hF_ hS
      obtain ⟨q2t, -⟩ := hF_
      replace q2t : Ep21 87 = .int .i64 q1k := Eq.mp (by kernel_rfl) q2t
      replace hS : St w0 w (ro q6 :: l') := Eq.mp (by kernel_rfl) hS
      have hcall := c_exact_Whole q64  hS
      refine o_cc call_11 (args1 q2t) hcall ?_
      rintro e w' ⟨q0b, q37, q52, c_y0_ret_1_21_3, q38, q53, c_y0_ret_3_21_3, rfl, q4o, q0z, q10, hS⟩
      refine ⟨_, rfl, ?_⟩
      have e_ := q0z.n; subst e_
      have e_ := q10.n; subst e_
      refine x_done <| ?_
      refine x_fin ⟨⟨_, rfl⟩, rfl, ?_⟩
      replace hS := St.ro_split q4o hS
      replace hS := St.bun (Φ := (fun (q0b : Heap) => Le q6 q0b ∧ RdS (RpI .u32) q0b q37 q0f.Num.fmag.length c_y0_ret_1_21_3 q0f.Num.fmag ∧ RdS (RpI .u32) q0b q38 q0f.Den.fmag.length c_y0_ret_3_21_3 q0f.Den.fmag)) (L := (fun (q0b : Heap) => [roD q6 q0b])) q0b ⟨q4o, q0z, q10⟩ (hS.pull 1)
      exact Eq.mp (by kernel_rfl) (hS.pull 1)
     ·intro Ep21 w l' hE21 hO21 hF_ hS
      obtain ⟨q2u, q2v, -⟩ := hF_
      replace q2u : Ep21 86 = .agg #[.bool q2.X.Num.fneg, .slice q0q q2.X.Num.fmag.length q0r, .bool q2.X.Den.fneg, .slice q0s q2.X.Den.fmag.length q0t] := Eq.mp (by kernel_rfl) q2u
      replace q2v : Ep21 88 = .agg #[.bool q0f.Num.fneg, .slice (adOf (partOf 1 (Ep21 88))) q0f.Num.fmag.length (capOf (partOf 1 (Ep21 88))), .bool q0f.Den.fneg, .slice (adOf (partOf 3 (Ep21 88))) q0f.Den.fmag.length (capOf (partOf 3 (Ep21 88)))] := Eq.mp (by kernel_rfl) q2v
      replace hS : St w0 w (ro q6 :: bunA (fun (q0b : Heap) => Le q6 q0b ∧ RdS (RpI .u32) q0b (adOf (partOf 1 (Ep21 88))) q0f.Num.fmag.length (capOf (partOf 1 (Ep21 88))) q0f.Num.fmag ∧ RdS (RpI .u32) q0b (adOf (partOf 3 (Ep21 88))) q0f.Den.fmag.length (capOf (partOf 3 (Ep21 88))) q0f.Den.fmag) (fun (q0b : Heap) => [roD q6 q0b]) :: l') := Eq.mp (by kernel_rfl) hS
      have q_ := St.unbun (hS.pull 1); obtain ⟨q0b, ⟨q1j, q0z, q10⟩, hS⟩ := q_
      have q_ := St.ro_join (hS.pull 1) (Le.refl _) q1j; obtain ⟨q6n, q3r, q3s, hS, q4u⟩ := q_
      have hcall := c_exact_Compare q65 (q3n.le q3r) (q3o.le q3r) (q0z.le q3s) (q10.le q3s) hS
      refine o_cc call_10 (args2 q2u q2v) (hcall) ?_
      rintro e w' ⟨rfl, hS⟩
      refine ⟨_, rfl, ?_⟩
      refine x_done <| ?_
      refine x_fin ⟨⟨_, rfl⟩, rfl, ?_⟩
      replace hS := q4u hS
      replace hS := St.bun (Φ := (fun (q0b : Heap) => Le q6 q0b ∧ RdS (RpI .u32) q0b (adOf (partOf 1 (Ep21 88))) q0f.Num.fmag.length (capOf (partOf 1 (Ep21 88))) q0f.Num.fmag ∧ RdS (RpI .u32) q0b (adOf (partOf 3 (Ep21 88))) q0f.Den.fmag.length (capOf (partOf 3 (Ep21 88))) q0f.Den.fmag)) (L := (fun (q0b : Heap) => [roD q6 q0b])) q0b ⟨q1j, q0z, q10⟩ (hS.pull 1)
      exact Eq.mp (by kernel_rfl) (hS.pull 1)
     ·intro Ep21 w l' hE21 hO21 hF_ hS
      obtain ⟨q2w, -⟩ := hF_
      replace q2w : Ep21 89 = .int .i64 q0a := Eq.mp (by kernel_rfl) q2w
      refine p (yl_lss q2w rfl) <| x_done <| ?_
      refine x_fin ⟨⟨_, rfl⟩, rfl, ?_⟩
      exact Eq.mp (by kernel_rfl) hS
     ·intro Ep21 w l' hE21 hO21 hF_ hS
      obtain ⟨q2x, -⟩ := hF_
      replace q2x : Ep21 90 = .bool (decide (q0a < 0)) := Eq.mp (by kernel_rfl) q2x
      refine p (yl_move q2x) <| x_done <| ?_
      refine x_fin ⟨⟨_, rfl⟩, rfl, ?_⟩
      exact Eq.mp (by kernel_rfl) hS
     ·intro Ep21 w l' hE21 hO21 hF_ hS
      obtain ⟨q0m, -⟩ := hF_
      replace q0m : Ep21 91 = .bool (decide (q0a < 0)) := Eq.mp (by kernel_rfl) q0m
      refine pg (v := .pointer (some ⟨b17, 0, none⟩)) 91 (c := !(decide (q0a < 0))) (by rw [show _ = _ from q0m]; exact (says_f _)) (fun hq => Yl.at (yl_field0 fld_45_0 (hE21 17 rfl))) <| x_done <| ?_
      refine x_fin ⟨⟨_, rfl⟩, rfl, ?_⟩
      exact Eq.mp (by kernel_rfl) hS
     ·intro Ep21 w l' hE21 hO21 hF_ hS
      obtain ⟨q0m, q2y, -⟩ := hF_
      replace q0m : Ep21 91 = .bool (decide (q0a < 0)) := Eq.mp (by kernel_rfl) q0m
      replace q2y : Ep21 92 = (bif !(decide (q0a < 0)) then .pointer (some ⟨b17, 0, none⟩) else undef) := Eq.mp (by kernel_rfl) q2y
      replace hS : St w0 w (cells b17 45 [.bool q2.X.Num.fneg, .slice q0q q2.X.Num.fmag.length q0r, .bool q2.X.Den.fneg, .slice q0s q2.X.Den.fmag.length q0t, .bool q2.Y.Num.fneg, .slice q0u q2.Y.Num.fmag.length q0v, .bool q2.Y.Den.fneg, .slice q0w q2.Y.Den.fmag.length q0x] :: l') := Eq.mp (by kernel_rfl) hS
      refine pg (v := .agg #[.bool q2.X.Num.fneg, .slice q0q q2.X.Num.fmag.length q0r, .bool q2.X.Den.fneg, .slice q0s q2.X.Den.fmag.length q0t]) 91 (c := !(decide (q0a < 0))) (by rw [show _ = _ from q0m]; exact (says_f _)) (fun hq => ld_sub agg_43 (Eq.trans q2y (cv hq)) rfl rfl hS) <| x_done <| ?_
      refine x_fin ⟨⟨_, rfl⟩, rfl, ?_⟩
      exact Eq.mp (by kernel_rfl) hS
     ·intro Ep21 w l' hE21 hO21 hF_ hS
      obtain ⟨q0m, -⟩ := hF_
      replace q0m : Ep21 91 = .bool (decide (q0a < 0)) := Eq.mp (by kernel_rfl) q0m
      refine pg (v := .int .i64 q18) 91 (c := !(decide (q0a < 0))) (by rw [show _ = _ from q0m]; exact (says_f _)) (fun hq => Yl.at (yl_move ((hE21 10 rfl).trans q45))) <| x_done <| ?_
      refine x_fin ⟨⟨_, rfl⟩, rfl, ?_⟩
      exact Eq.mp (by kernel_rfl) hS
     ·intro Ep21 w l' hE21 hO21 hF_ hS
      obtain ⟨q0m, q2z, -⟩ := hF_
      replace q0m : Ep21 91 = .bool (decide (q0a < 0)) := Eq.mp (by kernel_rfl) q0m
      replace q2z : Ep21 94 = (bif !(decide (q0a < 0)) then .int .i64 q18 else undef) := Eq.mp (by kernel_rfl) q2z
      replace hS : St w0 w (ro q6 :: l') := Eq.mp (by kernel_rfl) hS
      refine pccxe (Γ := Option Addr × Nat × Option Addr × Nat) (fun q0n => .agg #[.bool q3.Num.fneg, .slice q0n.1 q3.Num.fmag.length q0n.2.1, .bool q3.Den.fneg, .slice q0n.2.2.1 q3.Den.fmag.length q0n.2.2.2]) (fun q0n ρq_ => (RdS (RpI .u32) ρq_ q0n.1 q3.Num.fmag.length q0n.2.1 q3.Num.fmag) ∧ (RdS (RpI .u32) ρq_ q0n.2.2.1 q3.Den.fmag.length q0n.2.2.2 q3.Den.fmag)) (fun v_ => ((adOf (partOf 1 v_)), (capOf (partOf 1 v_)), (adOf (partOf 3 v_)), (capOf (partOf 3 v_)))) (fun _ => rfl) 91 (c := !(decide (q0a < 0))) (by rw [show _ = _ from q0m]; exact (says_f _)) call_11 (fun hq => (args1 (Eq.trans q2z (cv hq)))) hS (fun hq => Calls.mono (c_exact_Whole (gd_t q5a hq)  hS) (fun e w'' h => by
        obtain ⟨ρa_, a1, a2, a3, a4, a5, a6, he, hl_, q2l, q2m, hS_⟩ := h
        have e_ := q2l.n; subst e_
        have e_ := q2m.n; subst e_
        exact ⟨(a1, a3, a4, a6), ρa_, he, hl_, ⟨q2l, q2m⟩, hS_⟩)) (fun q0n q7 w' q49 q4p q5g hS => ?_)
      obtain ⟨q0g, c_y0_ret_1_21_10, q0h, c_y0_ret_3_21_10⟩ := q0n
      have q12 : (!(decide (q0a < 0))) = true → RdS (RpI .u32) q7 q0g q3.Num.fmag.length c_y0_ret_1_21_10 q3.Num.fmag := fun hq => (q4p hq).1
      have q13 : (!(decide (q0a < 0))) = true → RdS (RpI .u32) q7 q0h q3.Den.fmag.length c_y0_ret_3_21_10 q3.Den.fmag := fun hq => (q4p hq).2
      refine x_done <| ?_
      refine x_fin ⟨⟨_, rfl⟩, (congrArg (fun (q0n : Option Addr × Nat × Option Addr × Nat) => (bif !(decide (q0a < 0)) then ((fun q0n => .agg #[.bool q3.Num.fneg, .slice q0n.1 q3.Num.fmag.length q0n.2.1, .bool q3.Den.fneg, .slice q0n.2.2.1 q3.Den.fmag.length q0n.2.2.2] : (Option Addr × Nat × Option Addr × Nat) → Value) q0n) else undef)) q5g), ?_⟩
      replace hS := St.ro_split q49 hS
      replace hS := St.bun (Φ := (fun (q7 : Heap) => Le q6 q7 ∧ ((!(decide (q0a < 0))) = true → RdS (RpI .u32) q7 (adOf (partOf 1 ((bif !(decide (q0a < 0)) then .agg #[.bool q3.Num.fneg, .slice q0g q3.Num.fmag.length c_y0_ret_1_21_10, .bool q3.Den.fneg, .slice q0h q3.Den.fmag.length c_y0_ret_3_21_10] else undef)))) q3.Num.fmag.length (capOf (partOf 1 ((bif !(decide (q0a < 0)) then .agg #[.bool q3.Num.fneg, .slice q0g q3.Num.fmag.length c_y0_ret_1_21_10, .bool q3.Den.fneg, .slice q0h q3.Den.fmag.length c_y0_ret_3_21_10] else undef)))) q3.Num.fmag) ∧ ((!(decide (q0a < 0))) = true → RdS (RpI .u32) q7 (adOf (partOf 3 ((bif !(decide (q0a < 0)) then .agg #[.bool q3.Num.fneg, .slice q0g q3.Num.fmag.length c_y0_ret_1_21_10, .bool q3.Den.fneg, .slice q0h q3.Den.fmag.length c_y0_ret_3_21_10] else undef)))) q3.Den.fmag.length (capOf (partOf 3 ((bif !(decide (q0a < 0)) then .agg #[.bool q3.Num.fneg, .slice q0g q3.Num.fmag.length c_y0_ret_1_21_10, .bool q3.Den.fneg, .slice q0h q3.Den.fmag.length c_y0_ret_3_21_10] else undef)))) q3.Den.fmag))) (L := (fun (q7 : Heap) => [roD q6 q7])) q7 ⟨q49, (fun hq => (congrArg (fun (b_ : Bool) => RdS (RpI .u32) q7 (adOf (partOf 1 (bif b_ then .agg #[.bool q3.Num.fneg, .slice q0g q3.Num.fmag.length c_y0_ret_1_21_10, .bool q3.Den.fneg, .slice q0h q3.Den.fmag.length c_y0_ret_3_21_10] else undef))) q3.Num.fmag.length (capOf (partOf 1 (bif b_ then .agg #[.bool q3.Num.fneg, .slice q0g q3.Num.fmag.length c_y0_ret_1_21_10, .bool q3.Den.fneg, .slice q0h q3.Den.fmag.length c_y0_ret_3_21_10] else undef))) q3.Num.fmag) hq).mpr (q12 hq)), (fun hq => (congrArg (fun (b_ : Bool) => RdS (RpI .u32) q7 (adOf (partOf 3 (bif b_ then .agg #[.bool q3.Num.fneg, .slice q0g q3.Num.fmag.length c_y0_ret_1_21_10, .bool q3.Den.fneg, .slice q0h q3.Den.fmag.length c_y0_ret_3_21_10] else undef))) q3.Den.fmag.length (capOf (partOf 3 (bif b_ then .agg #[.bool q3.Num.fneg, .slice q0g q3.Num.fmag.length c_y0_ret_1_21_10, .bool q3.Den.fneg, .slice q0h q3.Den.fmag.length c_y0_ret_3_21_10] else undef))) q3.Den.fmag) hq).mpr (q13 hq))⟩ (hS.pull 1)
      exact Eq.mp (by kernel_rfl) (hS.pull 1)
     ·intro Ep21 w l' hE21 hO21 hF_ hS
      obtain ⟨q0m, q30, q1w, -⟩ := hF_
      replace q0m : Ep21 91 = .bool (decide (q0a < 0)) := Eq.mp (by kernel_rfl) q0m
      replace q30 : Ep21 93 = (bif !(decide (q0a < 0)) then .agg #[.bool q2.X.Num.fneg, .slice q0q q2.X.Num.fmag.length q0r, .bool q2.X.Den.fneg, .slice q0s q2.X.Den.fmag.length q0t] else undef) := Eq.mp (by kernel_rfl) q30
      replace q1w : Ep21 95 = (bif !(decide (q0a < 0)) then .agg #[.bool q3.Num.fneg, .slice (adOf (partOf 1 (Ep21 95))) q3.Num.fmag.length (capOf (partOf 1 (Ep21 95))), .bool q3.Den.fneg, .slice (adOf (partOf 3 (Ep21 95))) q3.Den.fmag.length (capOf (partOf 3 (Ep21 95)))] else undef) := Eq.mp (by kernel_rfl) q1w
      replace hS : St w0 w (ro q6 :: bunA (fun (q7 : Heap) => Le q6 q7 ∧ ((!(decide (q0a < 0))) = true → RdS (RpI .u32) q7 (adOf (partOf 1 (Ep21 95))) q3.Num.fmag.length (capOf (partOf 1 (Ep21 95))) q3.Num.fmag) ∧ ((!(decide (q0a < 0))) = true → RdS (RpI .u32) q7 (adOf (partOf 3 (Ep21 95))) q3.Den.fmag.length (capOf (partOf 3 (Ep21 95))) q3.Den.fmag)) (fun (q7 : Heap) => [roD q6 q7]) :: l') := Eq.mp (by kernel_rfl) hS
      have q_ := St.unbun (hS.pull 1); obtain ⟨q7, ⟨q1d, q12, q13⟩, hS⟩ := q_
      have q_ := St.ro_join (hS.pull 1) (Le.refl _) q1d; obtain ⟨q6g, q39, q3a, hS, q4e⟩ := q_
      refine pccg (v := .int .i64 q1l) 91 (c := !(decide (q0a < 0))) (by rw [show _ = _ from q0m]; exact (says_f _)) call_10 (fun hq => (args2 (Eq.trans q30 (cv hq)) (Eq.trans q1w (cv hq)))) hS (fun hq => by
        have hcall := c_exact_Compare (gd_t q5b hq) (q3n.le q39) (q3o.le q39) ((q12 hq).le q3a) ((q13 hq).le q3a) hS
        exact hcall) (fun w' hS => ?_)
      refine x_done <| ?_
      refine x_fin ⟨⟨_, rfl⟩, rfl, ?_⟩
      replace hS := q4e hS
      replace hS := St.bun (Φ := (fun (q7 : Heap) => Le q6 q7 ∧ ((!(decide (q0a < 0))) = true → RdS (RpI .u32) q7 (adOf (partOf 1 (Ep21 95))) q3.Num.fmag.length (capOf (partOf 1 (Ep21 95))) q3.Num.fmag) ∧ ((!(decide (q0a < 0))) = true → RdS (RpI .u32) q7 (adOf (partOf 3 (Ep21 95))) q3.Den.fmag.length (capOf (partOf 3 (Ep21 95))) q3.Den.fmag))) (L := (fun (q7 : Heap) => [roD q6 q7])) q7 ⟨q1d, q12, q13⟩ (hS.pull 1)
      exact Eq.mp (by kernel_rfl) (hS.pull 1)
     ·intro Ep21 w l' hE21 hO21 hF_ hS
      obtain ⟨q0m, q1x, -⟩ := hF_
      replace q0m : Ep21 91 = .bool (decide (q0a < 0)) := Eq.mp (by kernel_rfl) q0m
      replace q1x : Ep21 96 = (bif !(decide (q0a < 0)) then .int .i64 q1l else undef) := Eq.mp (by kernel_rfl) q1x
      refine pg (v := .bool (decide (0 < q1l))) 91 (c := !(decide (q0a < 0))) (by rw [show _ = _ from q0m]; exact (says_f _)) (fun hq => Yl.at (yl_gtr (Eq.trans q1x (cv hq)) rfl)) <| x_done <| ?_
      refine x_fin ⟨⟨_, rfl⟩, rfl, ?_⟩
      exact Eq.mp (by kernel_rfl) hS
     ·intro Ep21 w l' hE21 hO21 hF_ hS
      obtain ⟨q0m, q1y, -⟩ := hF_
      replace q0m : Ep21 91 = .bool (decide (q0a < 0)) := Eq.mp (by kernel_rfl) q0m
      replace q1y : Ep21 97 = (bif !(decide (q0a < 0)) then .bool (decide (0 < q1l)) else undef) := Eq.mp (by kernel_rfl) q1y
      refine p (yor' q0m rfl (fun hc => (Eq.trans q1y (cv (t_not hc)))) hx98) <| x_done <| ?_
      refine x_fin ⟨⟨_, rfl⟩, rfl, ?_⟩
      exact Eq.mp (by kernel_rfl) hS
     ·intro Ep21 w l' hE21 hO21 hF_ hS
      obtain ⟨q1z, -⟩ := hF_
      replace q1z : Ep21 98 = .bool x98 := Eq.mp (by kernel_rfl) q1z
      refine p (yl_move q1z) <| x_done <| ?_
      refine x_fin ⟨⟨_, rfl⟩, rfl, ?_⟩
      exact Eq.mp (by kernel_rfl) hS
     ·intro Ep21 w l' hE21 hO21 hF_ hS
      obtain ⟨q0c, -⟩ := hF_
      replace q0c : Ep21 99 = .bool x98 := Eq.mp (by kernel_rfl) q0c
      refine pg (v := .pointer (some ⟨b17, 4, none⟩)) 99 (c := !x98) (by rw [show _ = _ from q0c]; exact (says_f _)) (fun hq => Yl.at (yl_field0 fld_45_1 (hE21 17 rfl))) <| x_done <| ?_
      refine x_fin ⟨⟨_, rfl⟩, rfl, ?_⟩
      exact Eq.mp (by kernel_rfl) hS
     ·intro Ep21 w l' hE21 hO21 hF_ hS
      obtain ⟨q0c, q20, -⟩ := hF_
      replace q0c : Ep21 99 = .bool x98 := Eq.mp (by kernel_rfl) q0c
      replace q20 : Ep21 100 = (bif !x98 then .pointer (some ⟨b17, 4, none⟩) else undef) := Eq.mp (by kernel_rfl) q20
      replace hS : St w0 w (cells b17 45 [.bool q2.X.Num.fneg, .slice q0q q2.X.Num.fmag.length q0r, .bool q2.X.Den.fneg, .slice q0s q2.X.Den.fmag.length q0t, .bool q2.Y.Num.fneg, .slice q0u q2.Y.Num.fmag.length q0v, .bool q2.Y.Den.fneg, .slice q0w q2.Y.Den.fmag.length q0x] :: l') := Eq.mp (by kernel_rfl) hS
      refine pg (v := .agg #[.bool q2.Y.Num.fneg, .slice q0u q2.Y.Num.fmag.length q0v, .bool q2.Y.Den.fneg, .slice q0w q2.Y.Den.fmag.length q0x]) 99 (c := !x98) (by rw [show _ = _ from q0c]; exact (says_f _)) (fun hq => ld_sub agg_43 (Eq.trans q20 (cv hq)) rfl rfl hS) <| x_done <| ?_
      refine x_fin ⟨⟨_, rfl⟩, rfl, ?_⟩
      exact Eq.mp (by kernel_rfl) hS
     ·intro Ep21 w l' hE21 hO21 hF_ hS
      obtain ⟨q0c, -⟩ := hF_
      replace q0c : Ep21 99 = .bool x98 := Eq.mp (by kernel_rfl) q0c
      refine pg (v := .int .i64 q1b) 99 (c := !x98) (by rw [show _ = _ from q0c]; exact (says_f _)) (fun hq => Yl.at (yl_move ((hE21 9 rfl).trans q4n))) <| x_done <| ?_
      refine x_fin ⟨⟨_, rfl⟩, rfl, ?_⟩
      exact Eq.mp (by kernel_rfl) hS
     ·intro Ep21 w l' hE21 hO21 hF_ hS
      obtain ⟨q0c, q21, -⟩ := hF_
      replace q0c : Ep21 99 = .bool x98 := Eq.mp (by kernel_rfl) q0c
      replace q21 : Ep21 102 = (bif !x98 then .int .i64 q1b else undef) := Eq.mp (by kernel_rfl) q21
      replace hS : St w0 w (ro q6 :: l') := Eq.mp (by kernel_rfl) hS
      refine pccxe (Γ := Option Addr × Nat × Option Addr × Nat) (fun q0o => .agg #[.bool q4.Num.fneg, .slice q0o.1 q4.Num.fmag.length q0o.2.1, .bool q4.Den.fneg, .slice q0o.2.2.1 q4.Den.fmag.length q0o.2.2.2]) (fun q0o ρq_ => (RdS (RpI .u32) ρq_ q0o.1 q4.Num.fmag.length q0o.2.1 q4.Num.fmag) ∧ (RdS (RpI .u32) ρq_ q0o.2.2.1 q4.Den.fmag.length q0o.2.2.2 q4.Den.fmag)) (fun v_ => ((adOf (partOf 1 v_)), (capOf (partOf 1 v_)), (adOf (partOf 3 v_)), (capOf (partOf 3 v_)))) (fun _ => rfl) 99 (c := !x98) (by rw [show _ = _ from q0c]; exact (says_f _)) call_11 (fun hq => (args1 (Eq.trans q21 (cv hq)))) hS (fun hq => Calls.mono (c_exact_Whole (gd_t q5c hq)  hS) (fun e w'' h => by
        obtain ⟨ρa_, a1, a2, a3, a4, a5, a6, he, hl_, q2l, q2m, hS_⟩ := h
        have e_ := q2l.n; subst e_
        have e_ := q2m.n; subst e_
        exact ⟨(a1, a3, a4, a6), ρa_, he, hl_, ⟨q2l, q2m⟩, hS_⟩)) (fun q0o q8 w' q4a q4q q5h hS => ?_)
      obtain ⟨q0i, c_y0_ret_1_21_18, q0j, c_y0_ret_3_21_18⟩ := q0o
      have q14 : (!x98) = true → RdS (RpI .u32) q8 q0i q4.Num.fmag.length c_y0_ret_1_21_18 q4.Num.fmag := fun hq => (q4q hq).1
      have q15 : (!x98) = true → RdS (RpI .u32) q8 q0j q4.Den.fmag.length c_y0_ret_3_21_18 q4.Den.fmag := fun hq => (q4q hq).2
      refine x_done <| ?_
      refine x_fin ⟨⟨_, rfl⟩, (congrArg (fun (q0o : Option Addr × Nat × Option Addr × Nat) => (bif !x98 then ((fun q0o => .agg #[.bool q4.Num.fneg, .slice q0o.1 q4.Num.fmag.length q0o.2.1, .bool q4.Den.fneg, .slice q0o.2.2.1 q4.Den.fmag.length q0o.2.2.2] : (Option Addr × Nat × Option Addr × Nat) → Value) q0o) else undef)) q5h), ?_⟩
      replace hS := St.ro_split q4a hS
      replace hS := St.bun (Φ := (fun (q8 : Heap) => Le q6 q8 ∧ ((!x98) = true → RdS (RpI .u32) q8 (adOf (partOf 1 ((bif !x98 then .agg #[.bool q4.Num.fneg, .slice q0i q4.Num.fmag.length c_y0_ret_1_21_18, .bool q4.Den.fneg, .slice q0j q4.Den.fmag.length c_y0_ret_3_21_18] else undef)))) q4.Num.fmag.length (capOf (partOf 1 ((bif !x98 then .agg #[.bool q4.Num.fneg, .slice q0i q4.Num.fmag.length c_y0_ret_1_21_18, .bool q4.Den.fneg, .slice q0j q4.Den.fmag.length c_y0_ret_3_21_18] else undef)))) q4.Num.fmag) ∧ ((!x98) = true → RdS (RpI .u32) q8 (adOf (partOf 3 ((bif !x98 then .agg #[.bool q4.Num.fneg, .slice q0i q4.Num.fmag.length c_y0_ret_1_21_18, .bool q4.Den.fneg, .slice q0j q4.Den.fmag.length c_y0_ret_3_21_18] else undef)))) q4.Den.fmag.length (capOf (partOf 3 ((bif !x98 then .agg #[.bool q4.Num.fneg, .slice q0i q4.Num.fmag.length c_y0_ret_1_21_18, .bool q4.Den.fneg, .slice q0j q4.Den.fmag.length c_y0_ret_3_21_18] else undef)))) q4.Den.fmag))) (L := (fun (q8 : Heap) => [roD q6 q8])) q8 ⟨q4a, (fun hq => (congrArg (fun (b_ : Bool) => RdS (RpI .u32) q8 (adOf (partOf 1 (bif b_ then .agg #[.bool q4.Num.fneg, .slice q0i q4.Num.fmag.length c_y0_ret_1_21_18, .bool q4.Den.fneg, .slice q0j q4.Den.fmag.length c_y0_ret_3_21_18] else undef))) q4.Num.fmag.length (capOf (partOf 1 (bif b_ then .agg #[.bool q4.Num.fneg, .slice q0i q4.Num.fmag.length c_y0_ret_1_21_18, .bool q4.Den.fneg, .slice q0j q4.Den.fmag.length c_y0_ret_3_21_18] else undef))) q4.Num.fmag) hq).mpr (q14 hq)), (fun hq => (congrArg (fun (b_ : Bool) => RdS (RpI .u32) q8 (adOf (partOf 3 (bif b_ then .agg #[.bool q4.Num.fneg, .slice q0i q4.Num.fmag.length c_y0_ret_1_21_18, .bool q4.Den.fneg, .slice q0j q4.Den.fmag.length c_y0_ret_3_21_18] else undef))) q4.Den.fmag.length (capOf (partOf 3 (bif b_ then .agg #[.bool q4.Num.fneg, .slice q0i q4.Num.fmag.length c_y0_ret_1_21_18, .bool q4.Den.fneg, .slice q0j q4.Den.fmag.length c_y0_ret_3_21_18] else undef))) q4.Den.fmag) hq).mpr (q15 hq))⟩ (hS.pull 1)
      exact Eq.mp (by kernel_rfl) (hS.pull 1)
     ·intro Ep21 w l' hE21 hO21 hF_ hS
      obtain ⟨q0c, q22, q23, -⟩ := hF_
      replace q0c : Ep21 99 = .bool x98 := Eq.mp (by kernel_rfl) q0c
      replace q22 : Ep21 101 = (bif !x98 then .agg #[.bool q2.Y.Num.fneg, .slice q0u q2.Y.Num.fmag.length q0v, .bool q2.Y.Den.fneg, .slice q0w q2.Y.Den.fmag.length q0x] else undef) := Eq.mp (by kernel_rfl) q22
      replace q23 : Ep21 103 = (bif !x98 then .agg #[.bool q4.Num.fneg, .slice (adOf (partOf 1 (Ep21 103))) q4.Num.fmag.length (capOf (partOf 1 (Ep21 103))), .bool q4.Den.fneg, .slice (adOf (partOf 3 (Ep21 103))) q4.Den.fmag.length (capOf (partOf 3 (Ep21 103)))] else undef) := Eq.mp (by kernel_rfl) q23
      replace hS : St w0 w (ro q6 :: bunA (fun (q8 : Heap) => Le q6 q8 ∧ ((!x98) = true → RdS (RpI .u32) q8 (adOf (partOf 1 (Ep21 103))) q4.Num.fmag.length (capOf (partOf 1 (Ep21 103))) q4.Num.fmag) ∧ ((!x98) = true → RdS (RpI .u32) q8 (adOf (partOf 3 (Ep21 103))) q4.Den.fmag.length (capOf (partOf 3 (Ep21 103))) q4.Den.fmag)) (fun (q8 : Heap) => [roD q6 q8]) :: l') := Eq.mp (by kernel_rfl) hS
      have q_ := St.unbun (hS.pull 1); obtain ⟨q8, ⟨q1e, q14, q15⟩, hS⟩ := q_
      have q_ := St.ro_join (hS.pull 1) (Le.refl _) q1e; obtain ⟨q6h, q3b, q3c, hS, q4f⟩ := q_
      refine pccg (v := .int .i64 q1m) 99 (c := !x98) (by rw [show _ = _ from q0c]; exact (says_f _)) call_10 (fun hq => (args2 (Eq.trans q22 (cv hq)) (Eq.trans q23 (cv hq)))) hS (fun hq => by
        have hcall := c_exact_Compare (gd_t q5d hq) (q3p.le q3b) (q3q.le q3b) ((q14 hq).le q3c) ((q15 hq).le q3c) hS
        exact hcall) (fun w' hS => ?_)
      refine x_done <| ?_
      refine x_fin ⟨⟨_, rfl⟩, rfl, ?_⟩
      replace hS := q4f hS
      replace hS := St.bun (Φ := (fun (q8 : Heap) => Le q6 q8 ∧ ((!x98) = true → RdS (RpI .u32) q8 (adOf (partOf 1 (Ep21 103))) q4.Num.fmag.length (capOf (partOf 1 (Ep21 103))) q4.Num.fmag) ∧ ((!x98) = true → RdS (RpI .u32) q8 (adOf (partOf 3 (Ep21 103))) q4.Den.fmag.length (capOf (partOf 3 (Ep21 103))) q4.Den.fmag))) (L := (fun (q8 : Heap) => [roD q6 q8])) q8 ⟨q1e, q14, q15⟩ (hS.pull 1)
      exact Eq.mp (by kernel_rfl) (hS.pull 1)
     ·intro Ep21 w l' hE21 hO21 hF_ hS
      obtain ⟨q0c, q24, -⟩ := hF_
      replace q0c : Ep21 99 = .bool x98 := Eq.mp (by kernel_rfl) q0c
      replace q24 : Ep21 104 = (bif !x98 then .int .i64 q1m else undef) := Eq.mp (by kernel_rfl) q24
      refine pg (v := .bool (decide (q1m < 0))) 99 (c := !x98) (by rw [show _ = _ from q0c]; exact (says_f _)) (fun hq => Yl.at (yl_lss (Eq.trans q24 (cv hq)) rfl)) <| x_done <| ?_
      refine x_fin ⟨⟨_, rfl⟩, rfl, ?_⟩
      exact Eq.mp (by kernel_rfl) hS
     ·intro Ep21 w l' hE21 hO21 hF_ hS
      obtain ⟨q0c, q25, -⟩ := hF_
      replace q0c : Ep21 99 = .bool x98 := Eq.mp (by kernel_rfl) q0c
      replace q25 : Ep21 105 = (bif !x98 then .bool (decide (q1m < 0)) else undef) := Eq.mp (by kernel_rfl) q25
      refine p (yor' q0c rfl (fun hc => (Eq.trans q25 (cv (t_not hc)))) hx106) <| x_done <| ?_
      refine x_fin ⟨⟨_, rfl⟩, rfl, ?_⟩
      exact Eq.mp (by kernel_rfl) hS
     ·intro Ep21 w l' hE21 hO21 hF_ hS
      obtain ⟨q26, -⟩ := hF_
      replace q26 : Ep21 106 = .bool x106 := Eq.mp (by kernel_rfl) q26
      refine p (yl_move q26) <| x_done <| ?_
      refine x_fin ⟨⟨_, rfl⟩, rfl, ?_⟩
      exact Eq.mp (by kernel_rfl) hS
     ·intro Ep21 w l' hE21 hO21 hF_ hS
      obtain ⟨q0d, -⟩ := hF_
      replace q0d : Ep21 107 = .bool x106 := Eq.mp (by kernel_rfl) q0d
      refine pg (v := .pointer (some ⟨b17, 4, none⟩)) 107 (c := !x106) (by rw [show _ = _ from q0d]; exact (says_f _)) (fun hq => Yl.at (yl_field0 fld_45_1 (hE21 17 rfl))) <| x_done <| ?_
      refine x_fin ⟨⟨_, rfl⟩, rfl, ?_⟩
      exact Eq.mp (by kernel_rfl) hS
     ·intro Ep21 w l' hE21 hO21 hF_ hS
      obtain ⟨q0d, q27, -⟩ := hF_
      replace q0d : Ep21 107 = .bool x106 := Eq.mp (by kernel_rfl) q0d
      replace q27 : Ep21 108 = (bif !x106 then .pointer (some ⟨b17, 4, none⟩) else undef) := Eq.mp (by kernel_rfl) q27
      replace hS : St w0 w (cells b17 45 [.bool q2.X.Num.fneg, .slice q0q q2.X.Num.fmag.length q0r, .bool q2.X.Den.fneg, .slice q0s q2.X.Den.fmag.length q0t, .bool q2.Y.Num.fneg, .slice q0u q2.Y.Num.fmag.length q0v, .bool q2.Y.Den.fneg, .slice q0w q2.Y.Den.fmag.length q0x] :: l') := Eq.mp (by kernel_rfl) hS
      refine pg (v := .agg #[.bool q2.Y.Num.fneg, .slice q0u q2.Y.Num.fmag.length q0v, .bool q2.Y.Den.fneg, .slice q0w q2.Y.Den.fmag.length q0x]) 107 (c := !x106) (by rw [show _ = _ from q0d]; exact (says_f _)) (fun hq => ld_sub agg_43 (Eq.trans q27 (cv hq)) rfl rfl hS) <| x_done <| ?_
      refine x_fin ⟨⟨_, rfl⟩, rfl, ?_⟩
      exact Eq.mp (by kernel_rfl) hS
     ·intro Ep21 w l' hE21 hO21 hF_ hS
      obtain ⟨q0d, -⟩ := hF_
      replace q0d : Ep21 107 = .bool x106 := Eq.mp (by kernel_rfl) q0d
      refine pg (v := .int .i64 q19) 107 (c := !x106) (by rw [show _ = _ from q0d]; exact (says_f _)) (fun hq => Yl.at (yl_move ((hE21 11 rfl).trans q46))) <| x_done <| ?_
      refine x_fin ⟨⟨_, rfl⟩, rfl, ?_⟩
      exact Eq.mp (by kernel_rfl) hS
     ·intro Ep21 w l' hE21 hO21 hF_ hS
      obtain ⟨q0d, q28, -⟩ := hF_
      replace q0d : Ep21 107 = .bool x106 := Eq.mp (by kernel_rfl) q0d
      replace q28 : Ep21 110 = (bif !x106 then .int .i64 q19 else undef) := Eq.mp (by kernel_rfl) q28
      replace hS : St w0 w (ro q6 :: l') := Eq.mp (by kernel_rfl) hS
      refine pccxe (Γ := Option Addr × Nat × Option Addr × Nat) (fun q0p => .agg #[.bool q5.Num.fneg, .slice q0p.1 q5.Num.fmag.length q0p.2.1, .bool q5.Den.fneg, .slice q0p.2.2.1 q5.Den.fmag.length q0p.2.2.2]) (fun q0p ρq_ => (RdS (RpI .u32) ρq_ q0p.1 q5.Num.fmag.length q0p.2.1 q5.Num.fmag) ∧ (RdS (RpI .u32) ρq_ q0p.2.2.1 q5.Den.fmag.length q0p.2.2.2 q5.Den.fmag)) (fun v_ => ((adOf (partOf 1 v_)), (capOf (partOf 1 v_)), (adOf (partOf 3 v_)), (capOf (partOf 3 v_)))) (fun _ => rfl) 107 (c := !x106) (by rw [show _ = _ from q0d]; exact (says_f _)) call_11 (fun hq => (args1 (Eq.trans q28 (cv hq)))) hS (fun hq => Calls.mono (c_exact_Whole (gd_t q5e hq)  hS) (fun e w'' h => by
        obtain ⟨ρa_, a1, a2, a3, a4, a5, a6, he, hl_, q2l, q2m, hS_⟩ := h
        have e_ := q2l.n; subst e_
        have e_ := q2m.n; subst e_
        exact ⟨(a1, a3, a4, a6), ρa_, he, hl_, ⟨q2l, q2m⟩, hS_⟩)) (fun q0p q9 w' q4b q4r q5i hS => ?_)
      obtain ⟨q0k, c_y0_ret_1_21_26, q0l, c_y0_ret_3_21_26⟩ := q0p
      have q16 : (!x106) = true → RdS (RpI .u32) q9 q0k q5.Num.fmag.length c_y0_ret_1_21_26 q5.Num.fmag := fun hq => (q4r hq).1
      have q17 : (!x106) = true → RdS (RpI .u32) q9 q0l q5.Den.fmag.length c_y0_ret_3_21_26 q5.Den.fmag := fun hq => (q4r hq).2
      refine x_done <| ?_
      refine x_fin ⟨⟨_, rfl⟩, (congrArg (fun (q0p : Option Addr × Nat × Option Addr × Nat) => (bif !x106 then ((fun q0p => .agg #[.bool q5.Num.fneg, .slice q0p.1 q5.Num.fmag.length q0p.2.1, .bool q5.Den.fneg, .slice q0p.2.2.1 q5.Den.fmag.length q0p.2.2.2] : (Option Addr × Nat × Option Addr × Nat) → Value) q0p) else undef)) q5i), ?_⟩
      replace hS := St.ro_split q4b hS
      replace hS := St.bun (Φ := (fun (q9 : Heap) => Le q6 q9 ∧ ((!x106) = true → RdS (RpI .u32) q9 (adOf (partOf 1 ((bif !x106 then .agg #[.bool q5.Num.fneg, .slice q0k q5.Num.fmag.length c_y0_ret_1_21_26, .bool q5.Den.fneg, .slice q0l q5.Den.fmag.length c_y0_ret_3_21_26] else undef)))) q5.Num.fmag.length (capOf (partOf 1 ((bif !x106 then .agg #[.bool q5.Num.fneg, .slice q0k q5.Num.fmag.length c_y0_ret_1_21_26, .bool q5.Den.fneg, .slice q0l q5.Den.fmag.length c_y0_ret_3_21_26] else undef)))) q5.Num.fmag) ∧ ((!x106) = true → RdS (RpI .u32) q9 (adOf (partOf 3 ((bif !x106 then .agg #[.bool q5.Num.fneg, .slice q0k q5.Num.fmag.length c_y0_ret_1_21_26, .bool q5.Den.fneg, .slice q0l q5.Den.fmag.length c_y0_ret_3_21_26] else undef)))) q5.Den.fmag.length (capOf (partOf 3 ((bif !x106 then .agg #[.bool q5.Num.fneg, .slice q0k q5.Num.fmag.length c_y0_ret_1_21_26, .bool q5.Den.fneg, .slice q0l q5.Den.fmag.length c_y0_ret_3_21_26] else undef)))) q5.Den.fmag))) (L := (fun (q9 : Heap) => [roD q6 q9])) q9 ⟨q4b, (fun hq => (congrArg (fun (b_ : Bool) => RdS (RpI .u32) q9 (adOf (partOf 1 (bif b_ then .agg #[.bool q5.Num.fneg, .slice q0k q5.Num.fmag.length c_y0_ret_1_21_26, .bool q5.Den.fneg, .slice q0l q5.Den.fmag.length c_y0_ret_3_21_26] else undef))) q5.Num.fmag.length (capOf (partOf 1 (bif b_ then .agg #[.bool q5.Num.fneg, .slice q0k q5.Num.fmag.length c_y0_ret_1_21_26, .bool q5.Den.fneg, .slice q0l q5.Den.fmag.length c_y0_ret_3_21_26] else undef))) q5.Num.fmag) hq).mpr (q16 hq)), (fun hq => (congrArg (fun (b_ : Bool) => RdS (RpI .u32) q9 (adOf (partOf 3 (bif b_ then .agg #[.bool q5.Num.fneg, .slice q0k q5.Num.fmag.length c_y0_ret_1_21_26, .bool q5.Den.fneg, .slice q0l q5.Den.fmag.length c_y0_ret_3_21_26] else undef))) q5.Den.fmag.length (capOf (partOf 3 (bif b_ then .agg #[.bool q5.Num.fneg, .slice q0k q5.Num.fmag.length c_y0_ret_1_21_26, .bool q5.Den.fneg, .slice q0l q5.Den.fmag.length c_y0_ret_3_21_26] else undef))) q5.Den.fmag) hq).mpr (q17 hq))⟩ (hS.pull 1)
      exact Eq.mp (by kernel_rfl) (hS.pull 1)
     ·intro Ep21 w l' hE21 hO21 hF_ hS
      obtain ⟨q0d, q29, q2a, -⟩ := hF_
      replace q0d : Ep21 107 = .bool x106 := Eq.mp (by kernel_rfl) q0d
      replace q29 : Ep21 109 = (bif !x106 then .agg #[.bool q2.Y.Num.fneg, .slice q0u q2.Y.Num.fmag.length q0v, .bool q2.Y.Den.fneg, .slice q0w q2.Y.Den.fmag.length q0x] else undef) := Eq.mp (by kernel_rfl) q29
      replace q2a : Ep21 111 = (bif !x106 then .agg #[.bool q5.Num.fneg, .slice (adOf (partOf 1 (Ep21 111))) q5.Num.fmag.length (capOf (partOf 1 (Ep21 111))), .bool q5.Den.fneg, .slice (adOf (partOf 3 (Ep21 111))) q5.Den.fmag.length (capOf (partOf 3 (Ep21 111)))] else undef) := Eq.mp (by kernel_rfl) q2a
      replace hS : St w0 w (ro q6 :: bunA (fun (q9 : Heap) => Le q6 q9 ∧ ((!x106) = true → RdS (RpI .u32) q9 (adOf (partOf 1 (Ep21 111))) q5.Num.fmag.length (capOf (partOf 1 (Ep21 111))) q5.Num.fmag) ∧ ((!x106) = true → RdS (RpI .u32) q9 (adOf (partOf 3 (Ep21 111))) q5.Den.fmag.length (capOf (partOf 3 (Ep21 111))) q5.Den.fmag)) (fun (q9 : Heap) => [roD q6 q9]) :: l') := Eq.mp (by kernel_rfl) hS
      have q_ := St.unbun (hS.pull 1); obtain ⟨q9, ⟨q1f, q16, q17⟩, hS⟩ := q_
      have q_ := St.ro_join (hS.pull 1) (Le.refl _) q1f; obtain ⟨q6i, q3d, q3e, hS, q4g⟩ := q_
      refine pccg (v := .int .i64 q1n) 107 (c := !x106) (by rw [show _ = _ from q0d]; exact (says_f _)) call_10 (fun hq => (args2 (Eq.trans q29 (cv hq)) (Eq.trans q2a (cv hq)))) hS (fun hq => by
        have hcall := c_exact_Compare (gd_t q5f hq) (q3p.le q3d) (q3q.le q3d) ((q16 hq).le q3e) ((q17 hq).le q3e) hS
        exact hcall) (fun w' hS => ?_)
      refine x_done <| ?_
      refine x_fin ⟨⟨_, rfl⟩, rfl, ?_⟩
      replace hS := q4g hS
      replace hS := St.bun (Φ := (fun (q9 : Heap) => Le q6 q9 ∧ ((!x106) = true → RdS (RpI .u32) q9 (adOf (partOf 1 (Ep21 111))) q5.Num.fmag.length (capOf (partOf 1 (Ep21 111))) q5.Num.fmag) ∧ ((!x106) = true → RdS (RpI .u32) q9 (adOf (partOf 3 (Ep21 111))) q5.Den.fmag.length (capOf (partOf 3 (Ep21 111))) q5.Den.fmag))) (L := (fun (q9 : Heap) => [roD q6 q9])) q9 ⟨q1f, q16, q17⟩ (hS.pull 1)
      exact Eq.mp (by kernel_rfl) (hS.pull 1)
     ·intro Ep21 w l' hE21 hO21 hF_ hS
      obtain ⟨q0d, q2b, -⟩ := hF_
      replace q0d : Ep21 107 = .bool x106 := Eq.mp (by kernel_rfl) q0d
      replace q2b : Ep21 112 = (bif !x106 then .int .i64 q1n else undef) := Eq.mp (by kernel_rfl) q2b
      refine pg (v := .bool (decide (0 < q1n))) 107 (c := !x106) (by rw [show _ = _ from q0d]; exact (says_f _)) (fun hq => Yl.at (yl_gtr (Eq.trans q2b (cv hq)) rfl)) <| x_done <| ?_
      refine x_fin ⟨⟨_, rfl⟩, rfl, ?_⟩
      exact Eq.mp (by kernel_rfl) hS
     ·intro Ep21 w l' hE21 hO21 hF_ hS
      obtain ⟨q0d, q2c, -⟩ := hF_
      replace q0d : Ep21 107 = .bool x106 := Eq.mp (by kernel_rfl) q0d
      replace q2c : Ep21 113 = (bif !x106 then .bool (decide (0 < q1n)) else undef) := Eq.mp (by kernel_rfl) q2c
      refine p (yor' q0d rfl (fun hc => (Eq.trans q2c (cv (t_not hc)))) hx114) <| x_done <| ?_
      refine x_fin ⟨⟨_, rfl⟩, rfl, ?_⟩
      exact Eq.mp (by kernel_rfl) hS
    intro Ep21 w' hE21 hF_ hS
    obtain ⟨q2s, q2u, q2t, q2v, q2w, q2x, q0m, q2y, q30, q2z, q1w, q1x, q1y, q1z, q0c, q20, q22, q21, q23, q24, q25, q26, q0d, q27, q29, q28, q2a, q2b, q2c, q4c, -⟩ := hF_
    replace q2s : Ep21 85 = .pointer (some ⟨b17, 0, none⟩) := Eq.mp (by kernel_rfl) q2s
    replace q2u : Ep21 86 = .agg #[.bool q2.X.Num.fneg, .slice q0q q2.X.Num.fmag.length q0r, .bool q2.X.Den.fneg, .slice q0s q2.X.Den.fmag.length q0t] := Eq.mp (by kernel_rfl) q2u
    replace q2t : Ep21 87 = .int .i64 q1k := Eq.mp (by kernel_rfl) q2t
    replace q2v : Ep21 88 = .agg #[.bool q0f.Num.fneg, .slice (adOf (partOf 1 (Ep21 88))) q0f.Num.fmag.length (capOf (partOf 1 (Ep21 88))), .bool q0f.Den.fneg, .slice (adOf (partOf 3 (Ep21 88))) q0f.Den.fmag.length (capOf (partOf 3 (Ep21 88)))] := Eq.mp (by kernel_rfl) q2v
    replace q2w : Ep21 89 = .int .i64 q0a := Eq.mp (by kernel_rfl) q2w
    replace q2x : Ep21 90 = .bool (decide (q0a < 0)) := Eq.mp (by kernel_rfl) q2x
    replace q0m : Ep21 91 = .bool (decide (q0a < 0)) := Eq.mp (by kernel_rfl) q0m
    replace q2y : Ep21 92 = (bif !(decide (q0a < 0)) then .pointer (some ⟨b17, 0, none⟩) else undef) := Eq.mp (by kernel_rfl) q2y
    replace q30 : Ep21 93 = (bif !(decide (q0a < 0)) then .agg #[.bool q2.X.Num.fneg, .slice q0q q2.X.Num.fmag.length q0r, .bool q2.X.Den.fneg, .slice q0s q2.X.Den.fmag.length q0t] else undef) := Eq.mp (by kernel_rfl) q30
    replace q2z : Ep21 94 = (bif !(decide (q0a < 0)) then .int .i64 q18 else undef) := Eq.mp (by kernel_rfl) q2z
    replace q1w : Ep21 95 = (bif !(decide (q0a < 0)) then .agg #[.bool q3.Num.fneg, .slice (adOf (partOf 1 (Ep21 95))) q3.Num.fmag.length (capOf (partOf 1 (Ep21 95))), .bool q3.Den.fneg, .slice (adOf (partOf 3 (Ep21 95))) q3.Den.fmag.length (capOf (partOf 3 (Ep21 95)))] else undef) := Eq.mp (by kernel_rfl) q1w
    replace q1x : Ep21 96 = (bif !(decide (q0a < 0)) then .int .i64 q1l else undef) := Eq.mp (by kernel_rfl) q1x
    replace q1y : Ep21 97 = (bif !(decide (q0a < 0)) then .bool (decide (0 < q1l)) else undef) := Eq.mp (by kernel_rfl) q1y
    replace q1z : Ep21 98 = .bool x98 := Eq.mp (by kernel_rfl) q1z
    replace q0c : Ep21 99 = .bool x98 := Eq.mp (by kernel_rfl) q0c
    replace q20 : Ep21 100 = (bif !x98 then .pointer (some ⟨b17, 4, none⟩) else undef) := Eq.mp (by kernel_rfl) q20
    replace q22 : Ep21 101 = (bif !x98 then .agg #[.bool q2.Y.Num.fneg, .slice q0u q2.Y.Num.fmag.length q0v, .bool q2.Y.Den.fneg, .slice q0w q2.Y.Den.fmag.length q0x] else undef) := Eq.mp (by kernel_rfl) q22
    replace q21 : Ep21 102 = (bif !x98 then .int .i64 q1b else undef) := Eq.mp (by kernel_rfl) q21
    replace q23 : Ep21 103 = (bif !x98 then .agg #[.bool q4.Num.fneg, .slice (adOf (partOf 1 (Ep21 103))) q4.Num.fmag.length (capOf (partOf 1 (Ep21 103))), .bool q4.Den.fneg, .slice (adOf (partOf 3 (Ep21 103))) q4.Den.fmag.length (capOf (partOf 3 (Ep21 103)))] else undef) := Eq.mp (by kernel_rfl) q23
    replace q24 : Ep21 104 = (bif !x98 then .int .i64 q1m else undef) := Eq.mp (by kernel_rfl) q24
    replace q25 : Ep21 105 = (bif !x98 then .bool (decide (q1m < 0)) else undef) := Eq.mp (by kernel_rfl) q25
    replace q26 : Ep21 106 = .bool x106 := Eq.mp (by kernel_rfl) q26
    replace q0d : Ep21 107 = .bool x106 := Eq.mp (by kernel_rfl) q0d
    replace q27 : Ep21 108 = (bif !x106 then .pointer (some ⟨b17, 4, none⟩) else undef) := Eq.mp (by kernel_rfl) q27
    replace q29 : Ep21 109 = (bif !x106 then .agg #[.bool q2.Y.Num.fneg, .slice q0u q2.Y.Num.fmag.length q0v, .bool q2.Y.Den.fneg, .slice q0w q2.Y.Den.fmag.length q0x] else undef) := Eq.mp (by kernel_rfl) q29
    replace q28 : Ep21 110 = (bif !x106 then .int .i64 q19 else undef) := Eq.mp (by kernel_rfl) q28
    replace q2a : Ep21 111 = (bif !x106 then .agg #[.bool q5.Num.fneg, .slice (adOf (partOf 1 (Ep21 111))) q5.Num.fmag.length (capOf (partOf 1 (Ep21 111))), .bool q5.Den.fneg, .slice (adOf (partOf 3 (Ep21 111))) q5.Den.fmag.length (capOf (partOf 3 (Ep21 111)))] else undef) := Eq.mp (by kernel_rfl) q2a
    replace q2b : Ep21 112 = (bif !x106 then .int .i64 q1n else undef) := Eq.mp (by kernel_rfl) q2b
    replace q2c : Ep21 113 = (bif !x106 then .bool (decide (0 < q1n)) else undef) := Eq.mp (by kernel_rfl) q2c
    replace q4c : Ep21 114 = .bool x114 := Eq.mp (by kernel_rfl) q4c
    replace hS : St w0 w' (cells b17 45 [.bool q2.X.Num.fneg, .slice q0q q2.X.Num.fmag.length q0r, .bool q2.X.Den.fneg, .slice q0s q2.X.Den.fmag.length q0t, .bool q2.Y.Num.fneg, .slice q0u q2.Y.Num.fmag.length q0v, .bool q2.Y.Den.fneg, .slice q0w q2.Y.Den.fmag.length q0x] :: ro q6 :: bunA (fun (q0b : Heap) => Le q6 q0b ∧ RdS (RpI .u32) q0b (adOf (partOf 1 (Ep21 88))) q0f.Num.fmag.length (capOf (partOf 1 (Ep21 88))) q0f.Num.fmag ∧ RdS (RpI .u32) q0b (adOf (partOf 3 (Ep21 88))) q0f.Den.fmag.length (capOf (partOf 3 (Ep21 88))) q0f.Den.fmag) (fun (q0b : Heap) => [roD q6 q0b]) :: bunA (fun (q7 : Heap) => Le q6 q7 ∧ ((!(decide (q0a < 0))) = true → RdS (RpI .u32) q7 (adOf (partOf 1 (Ep21 95))) q3.Num.fmag.length (capOf (partOf 1 (Ep21 95))) q3.Num.fmag) ∧ ((!(decide (q0a < 0))) = true → RdS (RpI .u32) q7 (adOf (partOf 3 (Ep21 95))) q3.Den.fmag.length (capOf (partOf 3 (Ep21 95))) q3.Den.fmag)) (fun (q7 : Heap) => [roD q6 q7]) :: bunA (fun (q8 : Heap) => Le q6 q8 ∧ ((!x98) = true → RdS (RpI .u32) q8 (adOf (partOf 1 (Ep21 103))) q4.Num.fmag.length (capOf (partOf 1 (Ep21 103))) q4.Num.fmag) ∧ ((!x98) = true → RdS (RpI .u32) q8 (adOf (partOf 3 (Ep21 103))) q4.Den.fmag.length (capOf (partOf 3 (Ep21 103))) q4.Den.fmag)) (fun (q8 : Heap) => [roD q6 q8]) :: bunA (fun (q9 : Heap) => Le q6 q9 ∧ ((!x106) = true → RdS (RpI .u32) q9 (adOf (partOf 1 (Ep21 111))) q5.Num.fmag.length (capOf (partOf 1 (Ep21 111))) q5.Num.fmag) ∧ ((!x106) = true → RdS (RpI .u32) q9 (adOf (partOf 3 (Ep21 111))) q5.Den.fmag.length (capOf (partOf 3 (Ep21 111))) q5.Den.fmag)) (fun (q9 : Heap) => [roD q6 q9]) :: (vec 45 R_place_Spot.sz (.slice q0e q0y.1.length c_y0_ret_4_2) q0y.1.length q11 :: l)) := Eq.mp (by kernel_rfl) hS
    have q_ := St.unbun (hS.pull 2); obtain ⟨q0b, ⟨q1j, q0z, q10⟩, hS⟩ := q_
    have q_ := St.ro_join (hS.pull 2) (Le.refl _) q1j; obtain ⟨q6y, q1s, q6o, hS, q6j⟩ := q_
    have q_ := St.unbun (hS.pull 2); obtain ⟨q7, ⟨q1d, q12, q13⟩, hS⟩ := q_
    have q_ := St.ro_join (hS.pull 1) q1s q1d; obtain ⟨q6z, q2j, q6p, hS, q6k⟩ := q_
    have q_ := St.unbun (hS.pull 2); obtain ⟨q8, ⟨q1e, q14, q15⟩, hS⟩ := q_
    have q_ := St.ro_join (hS.pull 1) (q1s.trans q2j) q1e; obtain ⟨q70, q33, q6q, hS, q6l⟩ := q_
    have q_ := St.unbun (hS.pull 2); obtain ⟨q9, ⟨q1f, q16, q17⟩, hS⟩ := q_
    have q_ := St.ro_join (hS.pull 1) ((q1s.trans q2j).trans q33) q1f; obtain ⟨q71, q4d, q6r, hS, q6m⟩ := q_
    refine x_cond (t := x114) q4c (fun hc114 => ?_) (fun hc114 => ?_)
    ·replace hFL19 := it_t hc114 hFL19
     refine x_seq <| x_region <| p (yl_assign rfl) <| x_done <| ?_
     have e_ := Option.some.inj (show some _ = some _ from hFL19); subst e_
     have e_ := (show _ = oL19 from hLL19); subst e_
     have e_ := Option.some.inj (show some _ = some _ from hF); subst e_
     exact x_return ⟨_, ⟨_, _, rfl, rfl, rfl⟩, rfl, (ro_back0 ((((((q3u.trans q3f).trans q1q).trans q1s).trans q2j).trans q33).trans q4d) (((hS.pull 1).drop.pull 1).drop))⟩
    ·replace hFL19 := it_bf hc114 hFL19
     replace hFL19 := ar_s hFL19; obtain ⟨x115, hx115, hFL19⟩ := hFL19
     refine x_skip <| x_blk <| x_region <| p (yadd ((hE21 81 rfl).trans q32) rfl hx115) <|
      p (yl_move rfl) <| x_done <| ?_
     have e_ := Option.some.inj (show some _ = some _ from hFL19); subst e_
     exact x_inv ⟨kL19, Nat.lt_succ_self _, x115, hLL19, ((hE21 8 rfl).trans q4m), ((hE21 9 rfl).trans q4n), ((hE21 10 rfl).trans q45), ((hE21 11 rfl).trans q46), ((hE21 79 rfl).trans q47), ((hE21 80 rfl).trans q48), rfl, (ro_back1 (((q1s.trans q2j).trans q33).trans q4d) ((hS.pull 1).drop.pull 1))⟩
   ·replace hFL19 := it_f hc82 hFL19
    refine x_exitTo _ rfl <| ?_
    have e_ := Option.some.inj (show some _ = some _ from hFL19); subst e_
    exact x_inv ⟨hLL19, hS.drop⟩
  rintro E w ⟨rfl, hS⟩
  refine x_seq <| x_region <| p (yl_assign rfl) <| x_done <| ?_
  have e_ := Option.some.inj (show some _ = some _ from hF); subst e_
  exact x_return ⟨_, ⟨_, _, rfl, rfl, rfl⟩, rfl, (ro_back0 ((q3u.trans q3f).trans q1q) hS)⟩
attribute [irreducible] P_maskkeep4_PlaceInside


end Go.Proofs.Ytfkncjfpgflafaa.X
