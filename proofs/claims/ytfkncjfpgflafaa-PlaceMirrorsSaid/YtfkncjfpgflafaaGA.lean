/- Printed by gen.py: plain functions, and that the Go code computes them. -/
import Derived.Test.YtfkncjfpgflafaaXI
import Derived.Test.YtfkncjfpgflafaaYW
import Derived.Test.YtfkncjfpgflafaaXT
import Derived.Test.YtfkncjfpgflafaaGAp0
import Derived.Test.YtfkncjfpgflafaaGAp1
import Derived.Test.YtfkncjfpgflafaaGAp2
namespace Go.Proofs.Ytfkncjfpgflafaa.X
open Go Go.RowKit
set_option linter.unusedVariables false
set_option linter.unusedSimpArgs false

def P_maskkeep4_exacts : Option Bool :=
 bd (P_exact_Solve ([([2] : List Int)] : List (List Int)) ([6] : List Int)) fun q2 =>
 lv ((decide (q2.2 = 0)) && (decide ((q2.1.length : Int) = 1))) fun x16 =>
 ck (x16 = true → inb 0 q2.1.length) <|
 lv (gt q2.1 (0 : Int)) fun q4 =>
 bd (gd (x16) (P_exact_Text q4.Num)) fun q5 =>
 lv (x16 && (decide (q5 = (⟨#[51]⟩ : ByteArray)))) fun x24 =>
 bd (
  if x24 = true then
   bd (P_exact_Of (-12)) fun q6 =>
   bd (P_exact_Text q6) fun q7 =>
   some (decide (q7 = (⟨#[45, 49, 50]⟩ : ByteArray)))
  else
   some false) fun q3 =>
 some q3
set_option maxHeartbeats 4000000 in
set_option maxRecDepth 100000 in
theorem c_maskkeep4_exacts {w0 w : World} {l : List Assn} {ρ : Heap} {r : Bool} (hF : P_maskkeep4_exacts = some r) (hS : St w0 w (ro ρ :: l)) :
  Calls Try.prog 25 #[] w fun e w' => e = .returned (.bool r) ∧ St w0 w' (ro ρ :: l) := by
 refine enterC Try.func25 rfl 30 rfl (by simp) ?_
 refine x_seq <| x_region <| p (yl_assign rfl) <| x_done <|
  x_seq <| x_region <| ?_
 refine o_buildSlice (vs := [.int .i64 2]) (cs := [.int .i64 2]) sl_61 zero_2 (parts_eq (pt (va := .int .i64 2) rfl pt0)) rfl (by intro v hv; simp only [List.mem_cons, List.not_mem_nil, or_false] at hv; first | (subst hv; rfl) | (rcases hv with rfl <;> rfl)) (by decide) rfl hS (fun b4 w' hS => ?_)
 have q14 : RepL (RpI .i64) ρ ([2] : List Int) [.int .i64 2] := (RepL.cons (cs := [.int .i64 2]) rfl RepL.nil)
 replace hS := St.vec_of (n := 1) (sz := (RpI .i64).sz) hS rfl (by decide)
 have q_ := St.vec_fz ((hS.pull 1).pull 1) q14; obtain ⟨q0p, q0f, q0q, hS⟩ := q_
 refine o_buildSlice (vs := [.slice (some ⟨b4, 0, none⟩) 1 1]) (cs := [.slice (some ⟨b4, 0, none⟩) 1 1]) sl_60 zero_61 (parts_eq (pt (va := .slice (some ⟨b4, 0, none⟩) 1 1) rfl pt0)) rfl (by intro v hv; simp only [List.mem_cons, List.not_mem_nil, or_false] at hv; first | (subst hv; rfl) | (rcases hv with rfl <;> rfl)) (by decide) rfl hS (fun b5 w' hS => ?_)
 refine o_buildSlice (vs := [.int .i64 6]) (cs := [.int .i64 6]) sl_61 zero_2 (parts_eq (pt (va := .int .i64 6) rfl pt0)) rfl (by intro v hv; simp only [List.mem_cons, List.not_mem_nil, or_false] at hv; first | (subst hv; rfl) | (rcases hv with rfl <;> rfl)) (by decide) rfl hS (fun b6 w' hS => ?_)
 have q15 : RepL (RpSl (RpI .i64)) q0p ([([2] : List Int)] : List (List Int)) [.slice (some ⟨b4, 0, none⟩) 1 1] := (RepL.cons (cs := [.slice (some ⟨b4, 0, none⟩) 1 1]) ⟨_, _, _, rfl, q0q⟩ RepL.nil)
 replace hS := St.vec_of (n := 1) (sz := (RpSl (RpI .i64)).sz) (hS.pull 1) rfl (by decide)
 have q_ := St.vec_fz ((hS.pull 2).pull 1) q15; obtain ⟨q0r, q0g, q0s, hS⟩ := q_
 have q0t : RepL (RpI .i64) q0r ([6] : List Int) [.int .i64 6] := (RepL.cons (cs := [.int .i64 6]) rfl RepL.nil)
 replace hS := St.vec_of (n := 1) (sz := (RpI .i64).sz) (hS.pull 1) rfl (by decide)
 have q_ := St.vec_fz ((hS.pull 1).pull 1) q0t; obtain ⟨q1d, q0a, q0u, hS⟩ := q_
 replace hF := bd_s hF; obtain ⟨q7, q16, hF⟩ := hF
 have hcall := c_exact_Solve q16 (q0s.le q0a) q0u hS
 refine o_cc call_24 (args2 rfl rfl) hcall ?_
 rintro e w' ⟨q0v, q4, q0w, c_y0_ret_1_3, q0o, rfl, q0x, q5, hS⟩
 refine ⟨_, rfl, ?_⟩
 have e_ := St.vec_n hS q5; subst e_
 replace hF := lv_s hF; obtain ⟨x16, hx16, hF⟩ := hF
 replace hF := ck_s hF; obtain ⟨q0i, hF⟩ := hF
 replace hF := lv_s hF; obtain ⟨q9, q0y, hF⟩ := hF
 have q_ := RepL.getD R_exact_Ratio_d q5 (0 : Int); obtain ⟨q1e, q0e, q0z⟩ := q_
 rw [← q0y] at q0e
 obtain ⟨q0b, q18, q0c, q19, q1a, q1b, rfl, q0d, q0m⟩ := q0e
 have e_ := q0d.n; subst e_
 have e_ := q0m.n; subst e_
 replace hF := bd_s hF; obtain ⟨q0j, q10, hF⟩ := hF
 refine p (yl_move rfl) <| p (yl_extract rfl rfl) <| p (yl_extract rfl rfl) <| p (yl_assign rfl) <|
  p (yl_assign rfl) <| x_done <| x_seq <| x_region <|
  p (yl_move rfl) <| p (yl_eql rfl rfl) <| p (yl_move rfl) <| pg (v := .slice q4 q7.1.length c_y0_ret_1_3) 12 (c := decide (q7.2 = 0)) (says_t _) (fun hq => Yl.at (yl_move rfl)) <|
  pg (v := .int .i64 (q7.1.length : Int)) 12 (c := decide (q7.2 = 0)) (says_t _) (fun hq => Yl.at (yl_len_slice usl_64 (cv hq))) <| pg (v := .bool (decide ((q7.1.length : Int) = 1))) 12 (c := decide (q7.2 = 0)) (says_t _) (fun hq => Yl.at (yl_eql (cv hq) rfl)) <| p (yand' rfl (fun hc => (cv hc)) rfl hx16) <| p (yl_move rfl) <|
  pg (v := .slice q4 q7.1.length c_y0_ret_1_3) 17 (c := x16) (says_t _) (fun hq => Yl.at (yl_move rfl)) <| pg (v := .pointer (some ((adr q4).add ((0 : Int).toNat * R_exact_Ratio.sz)))) 17 (c := x16) (says_t _) (fun hq => Yl.at (yix_o sl_64 (cv hq) rfl hS q5 (q0i hq))) <| pg (v := .pointer (some (((adr q4).add ((0 : Int).toNat * R_exact_Ratio.sz)).add 0))) 17 (c := x16) (says_t _) (fun hq => Yl.at (yl_fieldAddr fld_43_0 (cv hq))) <| pg (v := .agg #[.bool q9.Num.fneg, .slice q0b q9.Num.fmag.length q0c]) 17 (c := x16) (says_t _) (fun hq => at_loadAgg (cs := [.bool q9.Num.fneg, .slice q0b q9.Num.fmag.length q0c]) agg_41 (cv hq) rfl (sub_every (m := 2) (EltV.every (q0z (q0i hq)) hS) rfl)) <|
  pccg (v := .string q0j) 17 (c := x16) (says_t _) call_26 (fun hq => (args1 (cv hq))) hS (fun hq => by
   have hcall := c_exact_Text (gd_t q10 hq) q0d (hS.pull 1)
   exact (Calls.mono hcall (fun e w'' h => And.intro h.1 (h.2.pull 1)))) (fun w' hS => ?_)
 replace hF := lv_s hF; obtain ⟨x24, hx24, hF⟩ := hF
 refine pg (v := .bool (decide (q0j = (⟨#[51]⟩ : ByteArray)))) 17 (c := x16) (says_t _) (fun hq => Yl.at (yl_eql_string (cv hq) rfl)) <| p (yand' rfl (fun hc => (cv hc)) rfl hx24) <| p (yl_move rfl) <| ?_
 replace hF := bd_s hF; obtain ⟨q11, q2, hF⟩ := hF
 refine x_join_ops (fun E w => ∃ (q8 : Bool), q8 = q11 ∧ E 0 = .bool q8 ∧ St w0 w (ro q0v :: l)) ?_ ?_
 ·refine x_split x24 (fun q3 => ?_) (fun q3 => ?_)
  ·replace q2 := it_t q3 q2
   replace q2 := bd_s q2; obtain ⟨q1g, q12, q2⟩ := q2
   refine o_strip 25 true (says_lit (c := true) (Eq.trans (show _ = Value.bool x24 from rfl) (congrArg Value.bool q3)) rfl) <| ?_
   have hcall := c_exact_Of q12  (hS.pull 1)
   refine o_cc call_17 (args1 rfl) hcall ?_
   rintro e w' ⟨q1c, q0k, q0l, c_y0_ret_1_2_16, rfl, q0n, q6, hS⟩
   refine ⟨_, rfl, ?_⟩
   have e_ := q6.n; subst e_
   replace q2 := bd_s q2; obtain ⟨q17, q13, q2⟩ := q2
   refine o_strip 25 true (says_lit (c := true) (Eq.trans (show _ = Value.bool x24 from rfl) (congrArg Value.bool q3)) rfl) <| ?_
   have hcall := c_exact_Text q13 q6 hS
   refine o_cc call_26 (args1 rfl) (hcall) ?_
   rintro e w' ⟨rfl, hS⟩
   refine ⟨_, rfl, ?_⟩
   refine o_strip 25 true (says_lit (c := true) (Eq.trans (show _ = Value.bool x24 from rfl) (congrArg Value.bool q3)) rfl) <| p (yl_eql_string rfl rfl) <| p (yl_pick (b := true) (Eq.trans (show _ = Value.bool x24 from rfl) (congrArg Value.bool q3)) (fun h => rfl) (fun h => nomatch h)) <| p (yl_assign rfl) <|
    x_done <| ?_
   exact x_inv ⟨decide (q17 = (⟨#[45, 49, 50]⟩ : ByteArray)), (Option.some.inj (show some _ = some _ from q2)), rfl, (ro_back0 q0n ((hS.pull 1).drop))⟩
  ·replace q2 := it_bf q3 q2
   refine o_pass 26 25 true (says_lit (c := false) (Eq.trans (show _ = Value.bool x24 from rfl) (congrArg Value.bool q3)) rfl) <| o_pass 27 25 true (says_lit (c := false) (Eq.trans (show _ = Value.bool x24 from rfl) (congrArg Value.bool q3)) rfl) <| o_pass 28 25 true (says_lit (c := false) (Eq.trans (show _ = Value.bool x24 from rfl) (congrArg Value.bool q3)) rfl) <| p (yl_pick (b := false) (Eq.trans (show _ = Value.bool x24 from rfl) (congrArg Value.bool q3)) (fun h => nomatch h) (fun h => rfl)) <|
    p (yl_assign rfl) <| x_done <| ?_
   exact x_inv ⟨false, (Option.some.inj (show some _ = some _ from q2)), rfl, hS.drop⟩
 rintro E w ⟨q8, rfl, q0h, hS⟩
 have e_ := Option.some.inj (show some _ = some _ from hF); subst e_
 exact x_return ⟨_, ⟨_, _, rfl, q0h, rfl⟩, rfl, (ro_back0 (((q0f.trans q0g).trans q0a).trans q0x) hS)⟩
attribute [irreducible] P_maskkeep4_exacts

def P_maskkeep4_places : Option Bool :=
 bd (P_place_Solve 1 ([(T_place_Pull.mk 1 ([0] : List Int) ([(T_floor_Point.mk 6 4)] : List T_floor_Point))] : List T_place_Pull)) fun q2 =>
 bd (P_maskkeep4_exacts) fun q5 =>
 lv (q5 && (decide (q2.2 = 0))) fun x16 =>
 lv (x16 && (decide ((q2.1.length : Int) = 1))) fun x21 =>
 ck (x21 = true → inb 0 q2.1.length) <|
 lv (gt q2.1 (0 : Int)) fun q3 =>
 bd (gd (x21) (P_exact_Text q3.X.Num)) fun q4 =>
 lv (x21 && (decide (q4 = (⟨#[54]⟩ : ByteArray)))) fun x30 =>
 some x30
set_option maxHeartbeats 4000000 in
set_option maxRecDepth 100000 in
theorem c_maskkeep4_places {w0 w : World} {l : List Assn} {ρ : Heap} {r : Bool} (hF : P_maskkeep4_places = some r) (hS : St w0 w (ro ρ :: l)) :
  Calls Try.prog 9 #[] w fun e w' => e = .returned (.bool r) ∧ St w0 w' (ro ρ :: l) := by
 refine enterC Try.func9 rfl 31 rfl (by simp) ?_
 refine x_seq <| x_region <| p (yl_assign rfl) <| x_done <|
  x_seq <| x_region <| ?_
 refine o_buildSlice (vs := [.int .i64 0]) (cs := [.int .i64 0]) sl_22 zero_3 (parts_eq (pt (va := .int .i64 0) rfl pt0)) rfl (by intro v hv; simp only [List.mem_cons, List.not_mem_nil, or_false] at hv; first | (subst hv; rfl) | (rcases hv with rfl <;> rfl)) (by decide) rfl hS (fun b4 w' hS => ?_)
 refine p (v := .agg #[.int .i64 6, .int .i64 4]) (yl_build bld_38 bldf_38 (parts_eq (pt (va := .int .i64 6) rfl (pt (va := .int .i64 4) rfl pt0))) (by kernel_rfl)) <| ?_
 refine o_buildSlice (vs := [.agg #[.int .i64 6, .int .i64 4]]) (cs := [.int .i64 6, .int .i64 4]) sl_34 zero_38 (parts_eq (pt (va := .agg #[.int .i64 6, .int .i64 4]) rfl pt0)) rfl (by intro v hv; simp only [List.mem_cons, List.not_mem_nil, or_false] at hv; first | (subst hv; rfl) | (rcases hv with rfl <;> rfl)) (by decide) rfl hS (fun b6 w' hS => ?_)
 refine p (v := .agg #[.int .i64 1, .slice (some ⟨b4, 0, none⟩) 1 1, .slice (some ⟨b6, 0, none⟩) 1 1]) (yl_build bld_36 bldf_36 (parts_eq (pt (va := .int .i64 1) rfl (pt (va := .slice (some ⟨b4, 0, none⟩) 1 1) rfl (pt (va := .slice (some ⟨b6, 0, none⟩) 1 1) rfl pt0)))) (by kernel_rfl)) <| ?_
 have q0v : RepL (RpI .i64) ρ ([0] : List Int) [.int .i64 0] := (RepL.cons (cs := [.int .i64 0]) rfl RepL.nil)
 replace hS := St.vec_of (n := 1) (sz := (RpI .i64).sz) (hS.pull 1) rfl (by decide)
 have q_ := St.vec_fz ((hS.pull 2).pull 1) q0v; obtain ⟨q0k, q0c, q0l, hS⟩ := q_
 have q0m : RepL R_floor_Point q0k ([(T_floor_Point.mk 6 4)] : List T_floor_Point) [.int .i64 6, .int .i64 4] := (RepL.cons (cs := [.int .i64 6, .int .i64 4]) rfl RepL.nil)
 replace hS := St.vec_of (n := 1) (sz := R_floor_Point.sz) (hS.pull 1) rfl (by decide)
 have q_ := St.vec_fz ((hS.pull 1).pull 1) q0m; obtain ⟨q0n, q6, q0o, hS⟩ := q_
 refine o_buildSlice (vs := [.agg #[.int .i64 1, .slice (some ⟨b4, 0, none⟩) 1 1, .slice (some ⟨b6, 0, none⟩) 1 1]]) (cs := [.int .i64 1, .slice (some ⟨b4, 0, none⟩) 1 1, .slice (some ⟨b6, 0, none⟩) 1 1]) sl_27 zero_36 (parts_eq (pt (va := .agg #[.int .i64 1, .slice (some ⟨b4, 0, none⟩) 1 1, .slice (some ⟨b6, 0, none⟩) 1 1]) rfl pt0)) rfl (by intro v hv; simp only [List.mem_cons, List.not_mem_nil, or_false] at hv; first | (subst hv; rfl) | (rcases hv with rfl <;> rfl)) (by decide) rfl hS (fun b8 w' hS => ?_)
 have q0w : RepL R_place_Pull q0n ([(T_place_Pull.mk 1 ([0] : List Int) ([(T_floor_Point.mk 6 4)] : List T_floor_Point))] : List T_place_Pull) [.int .i64 1, .slice (some ⟨b4, 0, none⟩) 1 1, .slice (some ⟨b6, 0, none⟩) 1 1] := (RepL.cons (cs := [.int .i64 1, .slice (some ⟨b4, 0, none⟩) 1 1, .slice (some ⟨b6, 0, none⟩) 1 1]) ⟨_, _, _, _, _, _, rfl, (q0l.le q6), q0o⟩ RepL.nil)
 replace hS := St.vec_of (n := 1) (sz := R_place_Pull.sz) hS rfl (by decide)
 have q_ := St.vec_fz ((hS.pull 1).pull 1) q0w; obtain ⟨q19, q0d, q0p, hS⟩ := q_
 replace hF := bd_s hF; obtain ⟨q4, q0x, hF⟩ := hF
 have hcall := c_place_Solve q0x q0p hS
 refine o_cc call_8 (args2 rfl rfl) hcall ?_
 rintro e w' ⟨q1a, q2, q0q, c_y0_ret_1_5, q0j, rfl, q0r, q3, hS⟩
 refine ⟨_, rfl, ?_⟩
 have e_ := St.vec_n hS q3; subst e_
 replace hF := bd_s hF; obtain ⟨q0e, q0y, hF⟩ := hF
 refine p (yl_move rfl) <| p (yl_extract rfl rfl) <| p (yl_extract rfl rfl) <| p (yl_assign rfl) <|
  p (yl_assign rfl) <| x_done <| x_seq <| x_region <| ?_
 have hcall := c_maskkeep4_exacts q0y  (hS.pull 1)
 refine o_cc call_25 args0 ((Calls.mono hcall (fun e w'' h => And.intro h.1 (h.2.pull 1)))) ?_
 rintro e w' ⟨rfl, hS⟩
 refine ⟨_, rfl, ?_⟩
 replace hF := lv_s hF; obtain ⟨x16, hx16, hF⟩ := hF
 replace hF := lv_s hF; obtain ⟨x21, hx21, hF⟩ := hF
 replace hF := ck_s hF; obtain ⟨q0a, hF⟩ := hF
 replace hF := lv_s hF; obtain ⟨q5, q0s, hF⟩ := hF
 have q_ := RepL.getD R_place_Spot_d q3 (0 : Int); obtain ⟨q1b, q0b, q0t⟩ := q_
 rw [← q0s] at q0b
 obtain ⟨q7, q0z, q8, q10, q11, q12, q13, q14, q15, q16, q17, q18, rfl, q9, q0g, q0h, q0i⟩ := q0b
 have e_ := q9.n; subst e_
 have e_ := q0g.n; subst e_
 have e_ := q0h.n; subst e_
 have e_ := q0i.n; subst e_
 replace hF := bd_s hF; obtain ⟨q0f, q0u, hF⟩ := hF
 refine p (v := .bool q0e) (yl_move rfl) <| pg (v := .int .i64 q4.2) 13 (c := q0e) (says_t _) (fun hq => Yl.at (yl_move rfl)) <| pg (v := .bool (decide (q4.2 = 0))) 13 (c := q0e) (says_t _) (fun hq => Yl.at (yl_eql (cv hq) rfl)) <| p (yand' rfl (fun hc => (cv hc)) rfl hx16) <|
  p (yl_move rfl) <| pg (v := .slice q2 q4.1.length c_y0_ret_1_5) 17 (c := x16) (says_t _) (fun hq => Yl.at (yl_move rfl)) <| pg (v := .int .i64 (q4.1.length : Int)) 17 (c := x16) (says_t _) (fun hq => Yl.at (yl_len_slice usl_29 (cv hq))) <| pg (v := .bool (decide ((q4.1.length : Int) = 1))) 17 (c := x16) (says_t _) (fun hq => Yl.at (yl_eql (cv hq) rfl)) <|
  p (yand' rfl (fun hc => (cv hc)) rfl hx21) <| p (yl_move rfl) <| pg (v := .slice q2 q4.1.length c_y0_ret_1_5) 22 (c := x21) (says_t _) (fun hq => Yl.at (yl_move rfl)) <| pg (v := .pointer (some ((adr q2).add ((0 : Int).toNat * R_place_Spot.sz)))) 22 (c := x21) (says_t _) (fun hq => Yl.at (yix_o sl_29 (cv hq) rfl hS q3 (q0a hq))) <|
  pg (v := .pointer (some (((adr q2).add ((0 : Int).toNat * R_place_Spot.sz)).add 0))) 22 (c := x21) (says_t _) (fun hq => Yl.at (yl_fieldAddr fld_45_0 (cv hq))) <| pg (v := .pointer (some (((adr q2).add ((0 : Int).toNat * R_place_Spot.sz)).add 0))) 22 (c := x21) (says_t _) (fun hq => Yl.at (yl_fieldE fld_43_0 (cv hq))) <| pg (v := .agg #[.bool q5.X.Num.fneg, .slice q7 q5.X.Num.fmag.length q8]) 22 (c := x21) (says_t _) (fun hq => at_loadAgg (cs := [.bool q5.X.Num.fneg, .slice q7 q5.X.Num.fmag.length q8]) agg_41 (cv hq) rfl (sub_every (m := 2) (EltV.every (q0t (q0a hq)) hS) rfl)) <|
  pccg (v := .string q0f) 22 (c := x21) (says_t _) call_26 (fun hq => (args1 (cv hq))) hS (fun hq => by
   have hcall := c_exact_Text (gd_t q0u hq) q9 (hS.pull 1)
   exact (Calls.mono hcall (fun e w'' h => And.intro h.1 (h.2.pull 1)))) (fun w' hS => ?_)
 replace hF := lv_s hF; obtain ⟨x30, hx30, hF⟩ := hF
 refine pg (v := .bool (decide (q0f = (⟨#[54]⟩ : ByteArray)))) 22 (c := x21) (says_t _) (fun hq => Yl.at (yl_eql_string (cv hq) rfl)) <| p (yand' rfl (fun hc => (cv hc)) rfl hx30) <| p (yl_assign rfl) <| x_done <| ?_
 have e_ := Option.some.inj (show some _ = some _ from hF); subst e_
 exact x_return ⟨_, ⟨_, _, rfl, rfl, rfl⟩, rfl, (ro_back0 (((q0c.trans q6).trans q0d).trans q0r) hS.drop)⟩
attribute [irreducible] P_maskkeep4_places

def P_exact_Whole (n0 : Int) : Option T_exact_Ratio :=
 bd (P_exact_Of n0) fun q2 =>
 bd (P_exact_Of 1) fun q3 =>
 some (T_exact_Ratio.mk (T_exact_Int.mk q2.fneg q2.fmag) (T_exact_Int.mk q3.fneg q3.fmag))
set_option maxHeartbeats 4000000 in
set_option maxRecDepth 100000 in
theorem c_exact_Whole {w0 w : World} {l : List Assn} {ρ : Heap} {n0 : Int} {r : T_exact_Ratio} (hF : P_exact_Whole n0 = some r) (hS : St w0 w (ro ρ :: l)) :
  Calls Try.prog 11 #[.int .i64 n0] w fun e w' => ∃ (ρ' : Heap) (q8 : Option Addr) (q9 : Nat) (c_y0_ret_1 : Nat) (q0a : Option Addr) (q0b : Nat) (c_y0_ret_3 : Nat), e = .returned (.agg #[.bool r.Num.fneg, .slice q8 q9 c_y0_ret_1, .bool r.Den.fneg, .slice q0a q0b c_y0_ret_3]) ∧ Le ρ ρ' ∧ RdS (RpI .u32) ρ' q8 q9 c_y0_ret_1 r.Num.fmag ∧ RdS (RpI .u32) ρ' q0a q0b c_y0_ret_3 r.Den.fmag ∧ St w0 w' (ro ρ' :: l) := by
 refine enterC Try.func11 rfl 7 rfl (by simp) ?_
 refine x_seq <| x_region <| ?_
 refine o_alloc zero_43 hS (fun b2 w' hS => ?_)
 replace hF := bd_s hF; obtain ⟨q6, q0h, hF⟩ := hF
 refine x_done <| x_seq <| x_region <| p (yl_move rfl) <| ?_
 have hcall := c_exact_Of q0h  (hS.pull 1)
 refine o_cc call_17 (args1 rfl) hcall ?_
 rintro e w' ⟨q0j, q2, q0d, c_y0_ret_1_1_1, rfl, q0f, q4, hS⟩
 refine ⟨_, rfl, ?_⟩
 have e_ := q4.n; subst e_
 replace hF := bd_s hF; obtain ⟨q7, q0i, hF⟩ := hF
 have hcall := c_exact_Of q0i  hS
 refine o_cc call_17 (args1 rfl) hcall ?_
 rintro e w' ⟨q0g, q3, q0e, c_y0_ret_1_1_2, rfl, q0c, q5, hS⟩
 refine ⟨_, rfl, ?_⟩
 have e_ := q5.n; subst e_
 refine p (v := .agg #[.bool q6.fneg, .slice q2 q6.fmag.length c_y0_ret_1_1_1, .bool q7.fneg, .slice q3 q7.fmag.length c_y0_ret_1_1_2]) (yl_build bld_43 bldf_43 (parts_eq (pt (va := .agg #[.bool q6.fneg, .slice q2 q6.fmag.length c_y0_ret_1_1_1]) rfl (pt (va := .agg #[.bool q7.fneg, .slice q3 q7.fmag.length c_y0_ret_1_1_2]) rfl pt0))) (by kernel_rfl)) <| ?_
 refine o_storeAgg (news := [.bool q6.fneg, .slice q2 q6.fmag.length c_y0_ret_1_1_1, .bool q7.fneg, .slice q3 q7.fmag.length c_y0_ret_1_1_2]) agg_43 rfl rfl rfl (by simp [over_length]) (hS.pull 1) (fun w' hS => ?_)
 refine x_done <| ?_
 have e_ := Option.some.inj (show some _ = some _ from hF); subst e_
 exact x_return ⟨_, ⟨_, _, _, rfl, rfl, ldvA agg_43 rfl (fun j v hj => by rw [add0]; exact St.cell hS hj), rfl⟩, q0g, q2, q6.fmag.length, c_y0_ret_1_1_1, q3, q7.fmag.length, c_y0_ret_1_1_2, rfl, (q0f.trans q0c), (q4.le q0c), q5, hS.drop⟩
attribute [irreducible] P_exact_Whole

def P_exact_Cmp (a0 : T_exact_Int) (b1 : T_exact_Int) : Option Int :=
 bd (P_exact_Sign a0) fun q2 =>
 bd (P_exact_Sign b1) fun q3 =>
 if q2 ≠ q3 then
  bd (P_exact_Sign a0) fun q4 =>
  bd (P_exact_Sign b1) fun q5 =>
  ar (q4 - q5) fun x15 =>
  bd (P_exact_sign x15) fun q6 =>
  some q6
 else
  if a0.fneg = true then
   bd (P_exact_cmpMag b1.fmag a0.fmag) fun q7 =>
   some q7
  else
   bd (P_exact_cmpMag a0.fmag b1.fmag) fun q8 =>
   some q8
set_option maxHeartbeats 4000000 in
set_option maxRecDepth 100000 in
theorem c_exact_Cmp {w0 w : World} {l : List Assn} {ρ : Heap} {q2 : Option Addr} {q6 : Nat} {c_a0_1 : Nat} {q3 : Option Addr} {q7 : Nat} {c_b1_1 : Nat} {a0 : T_exact_Int} {b1 : T_exact_Int} {r : Int} (hF : P_exact_Cmp a0 b1 = some r) (q4 : RdS (RpI .u32) ρ q2 q6 c_a0_1 a0.fmag) (q5 : RdS (RpI .u32) ρ q3 q7 c_b1_1 b1.fmag) (hS : St w0 w (ro ρ :: l)) :
  Calls Try.prog 28 #[.agg #[.bool a0.fneg, .slice q2 q6 c_a0_1], .agg #[.bool b1.fneg, .slice q3 q7 c_b1_1]] w fun e w' => e = .returned (.int .i64 r) ∧ St w0 w' (ro ρ :: l) := by
 have e_ := q4.n; subst e_
 have e_ := q5.n; subst e_
 refine enterC Try.func28 rfl 30 rfl (by simp) ?_
 refine x_seq <| x_region <| ?_
 refine o_box (cs := [.bool a0.fneg, .slice q2 a0.fmag.length c_a0_1]) rfl rfl hS (fun b2 w' hS => ?_)
 refine o_box (cs := [.bool b1.fneg, .slice q3 b1.fmag.length c_b1_1]) rfl rfl hS (fun b3 w' hS => ?_)
 replace hF := bd_s hF; obtain ⟨q8, q0b, hF⟩ := hF
 replace hF := bd_s hF; obtain ⟨q9, q0c, hF⟩ := hF
 refine p (yl_assign rfl) <| x_done <| x_seq <| x_block <|
  x_seq <| x_still mixed (by kernel_rfl) hS <| qa (v := .agg #[.bool a0.fneg, .slice q2 a0.fmag.length c_a0_1]) (fun w' hS => ld_sub agg_41 rfl rfl rfl (hS.pull 1)) <| qcc (v := .int .i64 q8) call_19 (args1 rfl) (fun w' hS => by
   have hcall := c_exact_Sign q0b q4 (hS.pull 2)
   exact (Calls.mono hcall (fun e w'' h => And.intro h.1 ((h.2.pull 2).pull 2)))) <|
  qa (v := .agg #[.bool b1.fneg, .slice q3 b1.fmag.length c_b1_1]) (fun w' hS => ld_sub agg_41 rfl rfl rfl hS) <| qcc (v := .int .i64 q9) call_19 (args1 rfl) (fun w' hS => by
   have hcall := c_exact_Sign q0c q5 (hS.pull 2)
   exact (Calls.mono hcall (fun e w'' h => And.intro h.1 ((h.2.pull 2).pull 2)))) <| q (yl_neq rfl rfl) <| q (yl_assign rfl) <|
  q_done fun w' hS => ?_
 refine x_cond_p (q8 ≠ q9) rfl (fun hc5 => ?_) (fun hc5 => ?_)
 ·replace hF := it_t hc5 hF
  replace hF := bd_s hF; obtain ⟨q0i, q0d, hF⟩ := hF
  replace hF := bd_s hF; obtain ⟨q0j, q0e, hF⟩ := hF
  replace hF := ar_s hF; obtain ⟨x15, hx15, hF⟩ := hF
  replace hF := bd_s hF; obtain ⟨q0a, q0f, hF⟩ := hF
  refine x_seq <| x_still mixed (by kernel_rfl) hS <| qa (v := .agg #[.bool a0.fneg, .slice q2 a0.fmag.length c_a0_1]) (fun w' hS => ld_sub agg_41 rfl rfl rfl (hS.pull 1)) <| qcc (v := .int .i64 q0i) call_19 (args1 rfl) (fun w' hS => by
    have hcall := c_exact_Sign q0d q4 (hS.pull 2)
    exact (Calls.mono hcall (fun e w'' h => And.intro h.1 ((h.2.pull 2).pull 2)))) <|
   qa (v := .agg #[.bool b1.fneg, .slice q3 b1.fmag.length c_b1_1]) (fun w' hS => ld_sub agg_41 rfl rfl rfl hS) <| qcc (v := .int .i64 q0j) call_19 (args1 rfl) (fun w' hS => by
    have hcall := c_exact_Sign q0e q5 (hS.pull 2)
    exact (Calls.mono hcall (fun e w'' h => And.intro h.1 ((h.2.pull 2).pull 2)))) <| q (ysub rfl rfl hx15) <| qcc (v := .int .i64 q0a) call_47 (args1 rfl) (fun w' hS => by
    have hcall := c_exact_sign q0f  (hS.pull 2)
    exact (Calls.mono hcall (fun e w'' h => And.intro h.1 ((h.2.pull 2).pull 2)))) <|
   q (v := .int .i64 q0a) (yl_assign rfl) <|
   q_done fun w' hS => ?_
  have e_ := Option.some.inj (show some _ = some _ from hF); subst e_
  exact x_return ⟨_, ⟨_, _, rfl, rfl, rfl⟩, rfl, hS.drop.drop⟩
 ·replace hF := it_f hc5 hF
  refine x_seq <| x_region <| p (yl_field0 fld_41_0 rfl) <| pa (at_load one_4 rfl ((hS.pull 1).cell rfl)) <|
   p (yl_assign rfl) <| x_done <|
   x_cond (t := a0.fneg) rfl (fun hc17 => ?_) (fun hc17 => ?_)
  ·replace hF := it_t hc17 hF
   replace hF := bd_s hF; obtain ⟨q0k, q0g, hF⟩ := hF
   refine x_seq <| x_region <| p (yl_field0 fld_41_1 rfl) <| pa (at_load one_39 rfl (hS.cell rfl)) <|
    p (yl_field0 fld_41_1 rfl) <| pa (at_load one_39 rfl ((hS.pull 1).cell rfl)) <| ?_
   have hcall := c_exact_cmpMag q0g q5 q4 (hS.pull 2)
   refine o_cc call_48 (args2 rfl rfl) ((Calls.mono hcall (fun e w'' h => And.intro h.1 ((h.2.pull 2).pull 2)))) ?_
   rintro e w' ⟨rfl, hS⟩
   refine ⟨_, rfl, ?_⟩
   refine p (v := .int .i64 q0k) (yl_assign rfl) <| x_done <| ?_
   have e_ := Option.some.inj (show some _ = some _ from hF); subst e_
   exact x_return ⟨_, ⟨_, _, rfl, rfl, rfl⟩, rfl, hS.drop.drop⟩
  ·replace hF := it_bf hc17 hF
   replace hF := bd_s hF; obtain ⟨q0l, q0h, hF⟩ := hF
   refine x_skip <| x_blk <| x_seq <| x_region <|
    p (yl_field0 fld_41_1 rfl) <| pa (at_load one_39 rfl ((hS.pull 1).cell rfl)) <| p (yl_field0 fld_41_1 rfl) <| pa (at_load one_39 rfl (hS.cell rfl)) <| ?_
   have hcall := c_exact_cmpMag q0h q4 q5 (hS.pull 2)
   refine o_cc call_48 (args2 rfl rfl) ((Calls.mono hcall (fun e w'' h => And.intro h.1 ((h.2.pull 2).pull 2)))) ?_
   rintro e w' ⟨rfl, hS⟩
   refine ⟨_, rfl, ?_⟩
   refine p (v := .int .i64 q0l) (yl_assign rfl) <| x_done <| ?_
   have e_ := Option.some.inj (show some _ = some _ from hF); subst e_
   exact x_return ⟨_, ⟨_, _, rfl, rfl, rfl⟩, rfl, hS.drop.drop⟩
attribute [irreducible] P_exact_Cmp

def P_exact_Check (x0 : T_exact_Ratio) : Option Int :=
 bd (P_exact_Bits (T_exact_Int.mk x0.Num.fneg x0.Num.fmag)) fun q2 =>
 bd (gd (!(decide (65536 < q2))) (P_exact_Bits (T_exact_Int.mk x0.Den.fneg x0.Den.fmag))) fun q3 =>
 lv ((decide (65536 < q2)) || (decide (65536 < q3))) fun x13 =>
 if x13 = true then
  some (3 : Int)
 else
  bd (P_exact_Sign (T_exact_Int.mk x0.Den.fneg x0.Den.fmag)) fun q4 =>
  if q4 < 1 then
   some (2 : Int)
  else
   bd (P_exact_Gcd (T_exact_Int.mk x0.Num.fneg x0.Num.fmag) (T_exact_Int.mk x0.Den.fneg x0.Den.fmag)) fun q5 =>
   bd (P_exact_Of 1) fun q6 =>
   bd (P_exact_Cmp q5 q6) fun q7 =>
   if q7 ≠ 0 then
    some (4 : Int)
   else
    some (0 : Int)
set_option maxHeartbeats 4000000 in
set_option maxRecDepth 100000 in
theorem c_exact_Check {w0 w : World} {l : List Assn} {ρ : Heap} {q5 : Option Addr} {q0a : Nat} {c_x0_1 : Nat} {q2 : Option Addr} {q0b : Nat} {c_x0_3 : Nat} {x0 : T_exact_Ratio} {r : Int} (hF : P_exact_Check x0 = some r) (q7 : RdS (RpI .u32) ρ q5 q0a c_x0_1 x0.Num.fmag) (q6 : RdS (RpI .u32) ρ q2 q0b c_x0_3 x0.Den.fmag) (hS : St w0 w (ro ρ :: l)) :
  Calls Try.prog 31 #[.agg #[.bool x0.Num.fneg, .slice q5 q0a c_x0_1, .bool x0.Den.fneg, .slice q2 q0b c_x0_3]] w fun e w' => e = .returned (.int .i64 r) ∧ St w0 w' (ro ρ :: l) := by
 have e_ := q7.n; subst e_
 have e_ := q6.n; subst e_
 refine enterC Try.func31 rfl 28 rfl (by simp) ?_
 refine x_seq <| x_region <| ?_
 refine o_box (cs := [.bool x0.Num.fneg, .slice q5 x0.Num.fmag.length c_x0_1, .bool x0.Den.fneg, .slice q2 x0.Den.fmag.length c_x0_3]) rfl rfl hS (fun b1 w' hS => ?_)
 replace hF := bd_s hF; obtain ⟨q9, q0i, hF⟩ := hF
 refine p (yl_assign rfl) <| x_done <| x_seq <| x_block <|
  x_seq <| x_region <| p (yl_field0 fld_43_0 rfl) <| pa (v := .agg #[.bool x0.Num.fneg, .slice q5 x0.Num.fmag.length c_x0_1]) (ld_sub agg_41 rfl rfl rfl hS) <| ?_
 have hcall := c_exact_Bits q0i q7 (hS.pull 1)
 refine o_cc call_49 (args1 rfl) ((Calls.mono hcall (fun e w'' h => And.intro h.1 (h.2.pull 1)))) ?_
 rintro e w' ⟨rfl, hS⟩
 refine ⟨_, rfl, ?_⟩
 replace hF := bd_s hF; obtain ⟨q0h, q0j, hF⟩ := hF
 refine p (yl_gtr rfl rfl) <| p (yl_move rfl) <| pg (v := .pointer (some ⟨b1, 2, none⟩)) 8 (c := !(decide (65536 < q9))) (says_f _) (fun hq => Yl.at (yl_field0 fld_43_1 rfl)) <| pg (v := .agg #[.bool x0.Den.fneg, .slice q2 x0.Den.fmag.length c_x0_3]) 8 (c := !(decide (65536 < q9))) (says_f _) (fun hq => ld_sub agg_41 (cv hq) rfl rfl hS) <|
  pccg (v := .int .i64 q0h) 8 (c := !(decide (65536 < q9))) (says_f _) call_49 (fun hq => (args1 (cv hq))) hS (fun hq => by
   have hcall := c_exact_Bits (gd_t q0j hq) q6 (hS.pull 1)
   exact (Calls.mono hcall (fun e w'' h => And.intro h.1 (h.2.pull 1)))) (fun w' hS => ?_)
 replace hF := lv_s hF; obtain ⟨x13, hx13, hF⟩ := hF
 refine pg (v := .bool (decide (65536 < q0h))) 8 (c := !(decide (65536 < q9))) (says_f _) (fun hq => Yl.at (yl_gtr (cv hq) rfl)) <| p (yor' rfl rfl (fun hc => (cv (t_not hc))) hx13) <| p (yl_assign rfl) <| x_done <|
  x_cond (t := x13) rfl (fun hc3 => ?_) (fun hc3 => ?_)
 ·replace hF := it_t hc3 hF
  refine x_seq <| x_region <| p (yl_assign rfl) <| x_done <| ?_
  have e_ := Option.some.inj (show some _ = some _ from hF); subst e_
  exact x_return ⟨_, ⟨_, _, rfl, rfl, rfl⟩, rfl, hS.drop⟩
 ·replace hF := it_bf hc3 hF
  replace hF := bd_s hF; obtain ⟨q0o, q0k, hF⟩ := hF
  refine x_seq <| x_region <| p (yl_field0 fld_43_1 rfl) <| pa (v := .agg #[.bool x0.Den.fneg, .slice q2 x0.Den.fmag.length c_x0_3]) (ld_sub agg_41 rfl rfl rfl hS) <| ?_
  have hcall := c_exact_Sign q0k q6 (hS.pull 1)
  refine o_cc call_19 (args1 rfl) ((Calls.mono hcall (fun e w'' h => And.intro h.1 (h.2.pull 1)))) ?_
  rintro e w' ⟨rfl, hS⟩
  refine ⟨_, rfl, ?_⟩
  refine p (yl_lss rfl rfl) <| p (yl_assign rfl) <| x_done <|
   x_cond_p (q0o < 1) rfl (fun hc14 => ?_) (fun hc14 => ?_)
  ·replace hF := it_t hc14 hF
   refine x_seq <| x_region <| p (yl_assign rfl) <| x_done <| ?_
   have e_ := Option.some.inj (show some _ = some _ from hF); subst e_
   exact x_return ⟨_, ⟨_, _, rfl, rfl, rfl⟩, rfl, hS.drop⟩
  ·replace hF := it_f hc14 hF
   replace hF := bd_s hF; obtain ⟨q0s, q0l, hF⟩ := hF
   refine x_seq <| x_region <| p (yl_field0 fld_43_0 rfl) <| pa (v := .agg #[.bool x0.Num.fneg, .slice q5 x0.Num.fmag.length c_x0_1]) (ld_sub agg_41 rfl rfl rfl hS) <|
    p (yl_field0 fld_43_1 rfl) <| pa (v := .agg #[.bool x0.Den.fneg, .slice q2 x0.Den.fmag.length c_x0_3]) (ld_sub agg_41 rfl rfl rfl hS) <| ?_
   have hcall := c_exact_Gcd q0l q7 q6 (hS.pull 1)
   refine o_cc call_50 (args2 rfl rfl) hcall ?_
   rintro e w' ⟨q0q, q0d, q0e, c_y0_ret_1_5_4, rfl, q0c, q3, hS⟩
   refine ⟨_, rfl, ?_⟩
   have e_ := q3.n; subst e_
   replace hF := bd_s hF; obtain ⟨q0t, q0m, hF⟩ := hF
   have hcall := c_exact_Of q0m  hS
   refine o_cc call_17 (args1 rfl) hcall ?_
   rintro e w' ⟨q0r, q0f, q0g, c_y0_ret_1_5_5, rfl, q8, q4, hS⟩
   refine ⟨_, rfl, ?_⟩
   have e_ := q4.n; subst e_
   replace hF := bd_s hF; obtain ⟨q0p, q0n, hF⟩ := hF
   have hcall := c_exact_Cmp q0n (q3.le q8) q4 hS
   refine o_cc call_28 (args2 rfl rfl) (hcall) ?_
   rintro e w' ⟨rfl, hS⟩
   refine ⟨_, rfl, ?_⟩
   refine p (yl_neq rfl rfl) <| p (yl_assign rfl) <| x_done <|
    x_cond_p (q0p ≠ 0) rfl (fun hc19 => ?_) (fun hc19 => ?_)
   ·replace hF := it_t hc19 hF
    refine x_seq <| x_region <| p (yl_assign rfl) <| x_done <| ?_
    have e_ := Option.some.inj (show some _ = some _ from hF); subst e_
    exact x_return ⟨_, ⟨_, _, rfl, rfl, rfl⟩, rfl, (ro_back0 (q0c.trans q8) ((hS.pull 1).drop))⟩
   ·replace hF := it_f hc19 hF
    refine x_skip <| x_blk <| x_seq <| x_region <|
     p (yl_assign rfl) <| x_done <| ?_
    have e_ := Option.some.inj (show some _ = some _ from hF); subst e_
    exact x_return ⟨_, ⟨_, _, rfl, rfl, rfl⟩, rfl, (ro_back0 (q0c.trans q8) ((hS.pull 1).drop))⟩
attribute [irreducible] P_exact_Check

def P_exact_both (a0 : T_exact_Ratio) (b1 : T_exact_Ratio) : Option Int :=
 bd (P_exact_Check a0) fun q2 =>
 if q2 ≠ 0 then
  some q2
 else
  bd (P_exact_Check b1) fun q3 =>
  some q3
set_option maxHeartbeats 4000000 in
set_option maxRecDepth 100000 in
theorem c_exact_both {w0 w : World} {l : List Assn} {ρ : Heap} {q2 : Option Addr} {q7 : Nat} {c_a0_1 : Nat} {q3 : Option Addr} {q8 : Nat} {c_a0_3 : Nat} {q4 : Option Addr} {q9 : Nat} {c_b1_1 : Nat} {q5 : Option Addr} {q0a : Nat} {c_b1_3 : Nat} {a0 : T_exact_Ratio} {b1 : T_exact_Ratio} {r : Int} (hF : P_exact_both a0 b1 = some r) (q0b : RdS (RpI .u32) ρ q2 q7 c_a0_1 a0.Num.fmag) (q0c : RdS (RpI .u32) ρ q3 q8 c_a0_3 a0.Den.fmag) (q0d : RdS (RpI .u32) ρ q4 q9 c_b1_1 b1.Num.fmag) (q0e : RdS (RpI .u32) ρ q5 q0a c_b1_3 b1.Den.fmag) (hS : St w0 w (ro ρ :: l)) :
  Calls Try.prog 27 #[.agg #[.bool a0.Num.fneg, .slice q2 q7 c_a0_1, .bool a0.Den.fneg, .slice q3 q8 c_a0_3], .agg #[.bool b1.Num.fneg, .slice q4 q9 c_b1_1, .bool b1.Den.fneg, .slice q5 q0a c_b1_3]] w fun e w' => e = .returned (.int .i64 r) ∧ St w0 w' (ro ρ :: l) := by
 have e_ := q0b.n; subst e_
 have e_ := q0c.n; subst e_
 have e_ := q0d.n; subst e_
 have e_ := q0e.n; subst e_
 refine enterC Try.func27 rfl 13 rfl (by simp) ?_
 refine x_seq <| x_region <| ?_
 refine o_box (cs := [.bool a0.Num.fneg, .slice q2 a0.Num.fmag.length c_a0_1, .bool a0.Den.fneg, .slice q3 a0.Den.fmag.length c_a0_3]) rfl rfl hS (fun b2 w' hS => ?_)
 refine o_box (cs := [.bool b1.Num.fneg, .slice q4 b1.Num.fmag.length c_b1_1, .bool b1.Den.fneg, .slice q5 b1.Den.fmag.length c_b1_3]) rfl rfl hS (fun b3 w' hS => ?_)
 replace hF := bd_s hF; obtain ⟨q6, q0f, hF⟩ := hF
 refine p (yl_assign rfl) <| x_done <| x_seq <| x_seq <|
  x_region <| pa (v := .agg #[.bool a0.Num.fneg, .slice q2 a0.Num.fmag.length c_a0_1, .bool a0.Den.fneg, .slice q3 a0.Den.fmag.length c_a0_3]) (ld_sub agg_43 rfl rfl rfl (hS.pull 1)) <| ?_
 have hcall := c_exact_Check q0f q0b q0c (hS.pull 2)
 refine o_cc call_31 (args1 rfl) ((Calls.mono hcall (fun e w'' h => And.intro h.1 ((h.2.pull 2).pull 2)))) ?_
 rintro e w' ⟨rfl, hS⟩
 refine ⟨_, rfl, ?_⟩
 refine p (v := .int .i64 q6) (yl_assign rfl) <| x_done <| x_seq <| x_region <|
  p (v := .int .i64 q6) (yl_move rfl) <| p (yl_neq rfl rfl) <| x_done <|
  x_cond_p (q6 ≠ 0) rfl (fun hc9 => ?_) (fun hc9 => ?_)
 ·replace hF := it_t hc9 hF
  refine x_seq <| x_region <| p (v := .int .i64 q6) (yl_move rfl) <| p (v := .int .i64 q6) (yl_assign rfl) <|
   x_done <| ?_
  have e_ := Option.some.inj (show some _ = some _ from hF); subst e_
  exact x_return ⟨_, ⟨_, _, rfl, rfl, rfl⟩, rfl, hS.drop.drop⟩
 ·replace hF := it_f hc9 hF
  replace hF := bd_s hF; obtain ⟨q0h, q0g, hF⟩ := hF
  refine x_skip <| x_seq <| x_region <| pa (v := .agg #[.bool b1.Num.fneg, .slice q4 b1.Num.fmag.length c_b1_1, .bool b1.Den.fneg, .slice q5 b1.Den.fmag.length c_b1_3]) (ld_sub agg_43 rfl rfl rfl hS) <| ?_
  have hcall := c_exact_Check q0g q0d q0e (hS.pull 2)
  refine o_cc call_31 (args1 rfl) ((Calls.mono hcall (fun e w'' h => And.intro h.1 ((h.2.pull 2).pull 2)))) ?_
  rintro e w' ⟨rfl, hS⟩
  refine ⟨_, rfl, ?_⟩
  refine p (v := .int .i64 q0h) (yl_assign rfl) <| x_done <| ?_
  have e_ := Option.some.inj (show some _ = some _ from hF); subst e_
  exact x_return ⟨_, ⟨_, _, rfl, rfl, rfl⟩, rfl, hS.drop.drop⟩
attribute [irreducible] P_exact_both

def P_exact_Sum (a0 : T_exact_Ratio) (b1 : T_exact_Ratio) : Option (T_exact_Ratio × Int) :=
 bd (P_exact_both a0 b1) fun q3 =>
 if q3 ≠ 0 then
  some ((T_exact_Ratio.mk (T_exact_Int.mk false []) (T_exact_Int.mk false [])), q3)
 else
  bd (P_exact_times (T_exact_Int.mk a0.Num.fneg a0.Num.fmag) (T_exact_Int.mk b1.Den.fneg b1.Den.fmag)) fun q6 =>
  bd (P_exact_times (T_exact_Int.mk b1.Num.fneg b1.Num.fmag) (T_exact_Int.mk a0.Den.fneg a0.Den.fmag)) fun q7 =>
  bd (P_exact_plus q6 q7) fun q4 =>
  bd (P_exact_times (T_exact_Int.mk a0.Den.fneg a0.Den.fmag) (T_exact_Int.mk b1.Den.fneg b1.Den.fmag)) fun q5 =>
  bd (P_exact_reduced q4 q5) fun q2 =>
  some (q2.1, q2.2)
set_option maxHeartbeats 4000000 in
set_option maxRecDepth 100000 in
theorem c_exact_Sum {w0 w : World} {l : List Assn} {ρ : Heap} {q0i : Option Addr} {q22 : Nat} {c_a0_1 : Nat} {q8 : Option Addr} {q23 : Nat} {c_a0_3 : Nat} {q0j : Option Addr} {q24 : Nat} {c_b1_1 : Nat} {q9 : Option Addr} {q25 : Nat} {c_b1_3 : Nat} {a0 : T_exact_Ratio} {b1 : T_exact_Ratio} {r : (T_exact_Ratio × Int)} (hF : P_exact_Sum a0 b1 = some r) (q1r : RdS (RpI .u32) ρ q0i q22 c_a0_1 a0.Num.fmag) (q14 : RdS (RpI .u32) ρ q8 q23 c_a0_3 a0.Den.fmag) (q1s : RdS (RpI .u32) ρ q0j q24 c_b1_1 b1.Num.fmag) (q15 : RdS (RpI .u32) ρ q9 q25 c_b1_3 b1.Den.fmag) (hS : St w0 w (ro ρ :: l)) :
  Calls Try.prog 18 #[.agg #[.bool a0.Num.fneg, .slice q0i q22 c_a0_1, .bool a0.Den.fneg, .slice q8 q23 c_a0_3], .agg #[.bool b1.Num.fneg, .slice q0j q24 c_b1_1, .bool b1.Den.fneg, .slice q9 q25 c_b1_3]] w fun e w' => ∃ (ρ' : Heap) (q16 : Option Addr) (q17 : Nat) (c_y0_ret_1 : Nat) (q18 : Option Addr) (q19 : Nat) (c_y0_ret_3 : Nat), e = .returned (.tuple #[.agg #[.bool r.1.Num.fneg, .slice q16 q17 c_y0_ret_1, .bool r.1.Den.fneg, .slice q18 q19 c_y0_ret_3], .int .i64 r.2]) ∧ Le ρ ρ' ∧ RdS (RpI .u32) ρ' q16 q17 c_y0_ret_1 r.1.Num.fmag ∧ RdS (RpI .u32) ρ' q18 q19 c_y0_ret_3 r.1.Den.fmag ∧ St w0 w' (ro ρ' :: l) := by
 have e_ := q1r.n; subst e_
 have e_ := q14.n; subst e_
 have e_ := q1s.n; subst e_
 have e_ := q15.n; subst e_
 refine enterC Try.func18 rfl 33 rfl (by simp) ?_
 refine x_seq <| x_region <| ?_
 refine o_box (cs := [.bool a0.Num.fneg, .slice q0i a0.Num.fmag.length c_a0_1, .bool a0.Den.fneg, .slice q8 a0.Den.fmag.length c_a0_3]) rfl rfl hS (fun b2 w' hS => ?_)
 refine o_box (cs := [.bool b1.Num.fneg, .slice q0j b1.Num.fmag.length c_b1_1, .bool b1.Den.fneg, .slice q9 b1.Den.fmag.length c_b1_3]) rfl rfl hS (fun b3 w' hS => ?_)
 refine o_alloc zero_43 hS (fun b4 w' hS => ?_)
 replace hF := bd_s hF; obtain ⟨q1t, q2j, hF⟩ := hF
 refine p (yl_assign rfl) <| x_done <| x_seq <| x_seq <|
  x_region <| pa (v := .agg #[.bool a0.Num.fneg, .slice q0i a0.Num.fmag.length c_a0_1, .bool a0.Den.fneg, .slice q8 a0.Den.fmag.length c_a0_3]) (ld_sub agg_43 rfl rfl rfl (hS.pull 2)) <| pa (v := .agg #[.bool b1.Num.fneg, .slice q0j b1.Num.fmag.length c_b1_1, .bool b1.Den.fneg, .slice q9 b1.Den.fmag.length c_b1_3]) (ld_sub agg_43 rfl rfl rfl (hS.pull 1)) <| ?_
 have hcall := c_exact_both q2j q1r q14 q1s q15 (hS.pull 3)
 refine o_cc call_27 (args2 rfl rfl) ((Calls.mono hcall (fun e w'' h => And.intro h.1 (((h.2.pull 3).pull 3).pull 3)))) ?_
 rintro e w' ⟨rfl, hS⟩
 refine ⟨_, rfl, ?_⟩
 refine p (v := .int .i64 q1t) (yl_assign rfl) <| x_done <| x_seq <| x_region <|
  p (v := .int .i64 q1t) (yl_move rfl) <| p (yl_neq rfl rfl) <| x_done <|
  x_cond_p (q1t ≠ 0) rfl (fun hc11 => ?_) (fun hc11 => ?_)
 ·replace hF := it_t hc11 hF
  refine x_seq <| x_region <| p (v := .agg #[.bool false, .slice none 0 0, .bool false, .slice none 0 0]) (yl_build bld_43 bldf_43 (parts_eq pt0) (by kernel_rfl)) <| p (v := .int .i64 q1t) (yl_move rfl) <| ?_
  refine o_storeAgg (news := [.bool false, .slice none 0 0, .bool false, .slice none 0 0]) agg_43 rfl rfl rfl (by simp [over_length]) hS (fun w' hS => ?_)
  refine p (v := .int .i64 q1t) (yl_assign rfl) <| x_done <| ?_
  have e_ := Option.some.inj (show some _ = some _ from hF); subst e_
  exact x_return ⟨_, ⟨_, _, _, rfl, rfl, ldvA agg_43 rfl (fun j v hj => by rw [add0]; exact St.cell hS hj), _, _, rfl, rfl, rfl⟩, ρ, none, 0, 0, none, 0, 0, rfl, (Le.refl _), (RdS.nil (A := none) (c := 0)), (RdS.nil (A := none) (c := 0)), hS.drop.drop.drop⟩
 ·replace hF := it_f hc11 hF
  refine x_skip <| x_seq <| ?_
  replace hF := bd_s hF; obtain ⟨q0a, q2k, hF⟩ := hF
  replace hF := bd_s hF; obtain ⟨q0b, q2l, hF⟩ := hF
  replace hF := bd_s hF; obtain ⟨q0g, q2f, hF⟩ := hF
  replace hF := bd_s hF; obtain ⟨q0h, q2g, hF⟩ := hF
  replace hF := bd_s hF; obtain ⟨q2, q2h, hF⟩ := hF
  refine x_par (w0 := w0) [⟨[], [], [14], [], [], []⟩, ⟨[0], [0], [15], [0], [], []⟩, ⟨[], [], [16], [], [], []⟩, ⟨[2], [2], [17], [1], [], []⟩, ⟨[0, 1, 2, 3], [1, 3], [18], [2], [], [3]⟩, ⟨[], [], [19], [], [], []⟩, ⟨[5], [5], [20], [1], [], []⟩, ⟨[], [], [21], [], [], []⟩, ⟨[7], [7], [22], [0], [], []⟩, ⟨[0, 1, 2, 3, 4, 5, 6, 7, 8], [6, 8], [23], [2], [], [4]⟩, ⟨[0, 1, 2, 3, 4, 5, 6, 7, 8, 9], [4, 9], [24], [2], [3, 4], [5]⟩, ⟨[], [], [25], [], [], []⟩, ⟨[11], [11], [26], [0], [], []⟩, ⟨[], [], [27], [], [], []⟩, ⟨[13], [13], [28], [1], [], []⟩, ⟨[0, 1, 2, 3, 4, 5, 6, 7, 8, 9, 10, 11, 12, 13, 14], [12, 14], [29], [2], [], [6]⟩, ⟨[0, 1, 2, 3, 4, 5, 6, 7, 8, 9, 10, 11, 12, 13, 14, 15], [4, 9, 10, 15], [30], [2], [5, 6], [7]⟩, ⟨[0, 1, 2, 3, 4, 5, 6, 7, 8, 9, 10, 11, 12, 13, 14, 15, 16], [16], [30, 31], [], [], []⟩, ⟨[0, 1, 2, 3, 4, 5, 6, 7, 8, 9, 10, 11, 12, 13, 14, 15, 16], [16], [32], [], [], []⟩, ⟨[0, 1, 2, 3, 4, 5, 6, 7, 8, 9, 10, 11, 12, 13, 14, 15, 16, 17, 18], [16, 17], [], [], [8], [9]⟩, ⟨[0, 1, 2, 3, 4, 5, 6, 7, 8, 9, 10, 11, 12, 13, 14, 15, 16, 17, 18, 19], [18], [5], [], [], []⟩] [⟨none, none, []⟩, ⟨none, none, []⟩, ⟨none, none, []⟩, ⟨(some 4), (some 10), [18]⟩, ⟨(some 9), (some 10), [23]⟩, ⟨(some 10), (some 16), [18, 23, 24]⟩, ⟨(some 15), (some 16), [29]⟩, ⟨(some 16), none, [18, 23, 24, 29, 30]⟩, ⟨none, (some 19), []⟩, ⟨(some 19), none, [30]⟩] [5, 14, 15, 16, 17, 18, 19, 20, 21, 22, 23, 24, 25, 26, 27, 28, 29, 30, 31, 32] [0, 1, 2, 8] [0, 1, 2, 7, 9] [0, 1, 2, 3, 4, 5, 6, 7, 8, 9, 10, 11, 12, 13, 14, 15, 16, 17, 18, 20] [fun Ep4 => Ep4 14 = .pointer (some ⟨b2, 0, none⟩), fun Ep4 => Ep4 15 = .agg #[.bool a0.Num.fneg, .slice q0i a0.Num.fmag.length c_a0_1], fun Ep4 => Ep4 16 = .pointer (some ⟨b3, 2, none⟩), fun Ep4 => Ep4 17 = .agg #[.bool b1.Den.fneg, .slice q9 b1.Den.fmag.length c_b1_3], fun Ep4 => Ep4 18 = .agg #[.bool q0a.fneg, .slice (adOf (partOf 1 (Ep4 18))) q0a.fmag.length (capOf (partOf 1 (Ep4 18)))], fun Ep4 => Ep4 19 = .pointer (some ⟨b3, 0, none⟩), fun Ep4 => Ep4 20 = .agg #[.bool b1.Num.fneg, .slice q0j b1.Num.fmag.length c_b1_1], fun Ep4 => Ep4 21 = .pointer (some ⟨b2, 2, none⟩), fun Ep4 => Ep4 22 = .agg #[.bool a0.Den.fneg, .slice q8 a0.Den.fmag.length c_a0_3], fun Ep4 => Ep4 23 = .agg #[.bool q0b.fneg, .slice (adOf (partOf 1 (Ep4 23))) q0b.fmag.length (capOf (partOf 1 (Ep4 23)))], fun Ep4 => Ep4 24 = .agg #[.bool q0g.fneg, .slice (adOf (partOf 1 (Ep4 24))) q0g.fmag.length (capOf (partOf 1 (Ep4 24)))], fun Ep4 => Ep4 25 = .pointer (some ⟨b2, 2, none⟩), fun Ep4 => Ep4 26 = .agg #[.bool a0.Den.fneg, .slice q8 a0.Den.fmag.length c_a0_3], fun Ep4 => Ep4 27 = .pointer (some ⟨b3, 2, none⟩), fun Ep4 => Ep4 28 = .agg #[.bool b1.Den.fneg, .slice q9 b1.Den.fmag.length c_b1_3], fun Ep4 => Ep4 29 = .agg #[.bool q0h.fneg, .slice (adOf (partOf 1 (Ep4 29))) q0h.fmag.length (capOf (partOf 1 (Ep4 29)))], fun Ep4 => Ep4 30 = .tuple #[.agg #[.bool q2.1.Num.fneg, .slice (adOf (partOf 1 (partOf 0 (Ep4 30)))) q2.1.Num.fmag.length (capOf (partOf 1 (partOf 0 (Ep4 30)))), .bool q2.1.Den.fneg, .slice (adOf (partOf 3 (partOf 0 (Ep4 30)))) q2.1.Den.fmag.length (capOf (partOf 3 (partOf 0 (Ep4 30))))], .int .i64 q2.2], fun Ep4 => Ep4 31 = .agg #[.bool q2.1.Num.fneg, .slice (adOf (partOf 1 (partOf 0 (Ep4 30)))) q2.1.Num.fmag.length (capOf (partOf 1 (partOf 0 (Ep4 30)))), .bool q2.1.Den.fneg, .slice (adOf (partOf 3 (partOf 0 (Ep4 30)))) q2.1.Den.fmag.length (capOf (partOf 3 (partOf 0 (Ep4 30))))], fun Ep4 => Ep4 32 = .int .i64 q2.2, fun Ep4 => True, fun Ep4 => Ep4 5 = .int .i64 q2.2] [fun Ep4 => cells b2 43 [.bool a0.Num.fneg, .slice q0i a0.Num.fmag.length c_a0_1, .bool a0.Den.fneg, .slice q8 a0.Den.fmag.length c_a0_3], fun Ep4 => cells b3 43 [.bool b1.Num.fneg, .slice q0j b1.Num.fmag.length c_b1_1, .bool b1.Den.fneg, .slice q9 b1.Den.fmag.length c_b1_3], fun Ep4 => ro ρ, fun Ep4 => bunA (fun (q0c : Heap) => Le ρ q0c ∧ RdS (RpI .u32) q0c (adOf (partOf 1 (Ep4 18))) q0a.fmag.length (capOf (partOf 1 (Ep4 18))) q0a.fmag) (fun (q0c : Heap) => [roD ρ q0c]), fun Ep4 => bunA (fun (q0d : Heap) => Le ρ q0d ∧ RdS (RpI .u32) q0d (adOf (partOf 1 (Ep4 23))) q0b.fmag.length (capOf (partOf 1 (Ep4 23))) q0b.fmag) (fun (q0d : Heap) => [roD ρ q0d]), fun Ep4 => bunA (fun (q4 : Heap) => Le ρ q4 ∧ RdS (RpI .u32) q4 (adOf (partOf 1 (Ep4 18))) q0a.fmag.length (capOf (partOf 1 (Ep4 18))) q0a.fmag ∧ RdS (RpI .u32) q4 (adOf (partOf 1 (Ep4 23))) q0b.fmag.length (capOf (partOf 1 (Ep4 23))) q0b.fmag ∧ RdS (RpI .u32) q4 (adOf (partOf 1 (Ep4 24))) q0g.fmag.length (capOf (partOf 1 (Ep4 24))) q0g.fmag) (fun (q4 : Heap) => [roD ρ q4]), fun Ep4 => bunA (fun (q5 : Heap) => Le ρ q5 ∧ RdS (RpI .u32) q5 (adOf (partOf 1 (Ep4 29))) q0h.fmag.length (capOf (partOf 1 (Ep4 29))) q0h.fmag) (fun (q5 : Heap) => [roD ρ q5]), fun Ep4 => bunA (fun (q3 : Heap) => Le ρ q3 ∧ RdS (RpI .u32) q3 (adOf (partOf 1 (Ep4 18))) q0a.fmag.length (capOf (partOf 1 (Ep4 18))) q0a.fmag ∧ RdS (RpI .u32) q3 (adOf (partOf 1 (Ep4 23))) q0b.fmag.length (capOf (partOf 1 (Ep4 23))) q0b.fmag ∧ RdS (RpI .u32) q3 (adOf (partOf 1 (Ep4 24))) q0g.fmag.length (capOf (partOf 1 (Ep4 24))) q0g.fmag ∧ RdS (RpI .u32) q3 (adOf (partOf 1 (Ep4 29))) q0h.fmag.length (capOf (partOf 1 (Ep4 29))) q0h.fmag ∧ RdS (RpI .u32) q3 (adOf (partOf 1 (partOf 0 (Ep4 30)))) q2.1.Num.fmag.length (capOf (partOf 1 (partOf 0 (Ep4 30)))) q2.1.Num.fmag ∧ RdS (RpI .u32) q3 (adOf (partOf 3 (partOf 0 (Ep4 30)))) q2.1.Den.fmag.length (capOf (partOf 3 (partOf 0 (Ep4 30)))) q2.1.Den.fmag) (fun (q3 : Heap) => [roD ρ q3]), fun Ep4 => cells b4 43 [.bool false, .slice none 0 0, .bool false, .slice none 0 0], fun Ep4 => cells b4 43 [.bool q2.1.Num.fneg, .slice (adOf (partOf 1 (partOf 0 (Ep4 30)))) q2.1.Num.fmag.length (capOf (partOf 1 (partOf 0 (Ep4 30)))), .bool q2.1.Den.fneg, .slice (adOf (partOf 3 (partOf 0 (Ep4 30)))) q2.1.Den.fmag.length (capOf (partOf 3 (partOf 0 (Ep4 30))))]] mixed (by kernel_rfl) (((hS.pull 3).pull 2).pull 3) ?_ ?_
  ·refine ⟨?_, ?_, ?_, ?_, ?_, ?_, ?_, ?_, ?_, ?_, ?_, ?_, ?_, ?_, ?_, ?_, ?_, ?_, ?_, ?_, ?_, trivial⟩
   ·intro Ep4 w l' hE4 hO4 hF_ hS
    refine p (yl_field0 fld_43_0 (hE4 2 rfl)) <| x_done <| ?_
    refine x_fin ⟨⟨_, rfl⟩, rfl, ?_⟩
    exact Eq.mp (by kernel_rfl) hS
   ·intro Ep4 w l' hE4 hO4 hF_ hS
    obtain ⟨q1e, -⟩ := hF_
    replace q1e : Ep4 14 = .pointer (some ⟨b2, 0, none⟩) := Eq.mp (by kernel_rfl) q1e
    replace hS : St w0 w (cells b2 43 [.bool a0.Num.fneg, .slice q0i a0.Num.fmag.length c_a0_1, .bool a0.Den.fneg, .slice q8 a0.Den.fmag.length c_a0_3] :: l') := Eq.mp (by kernel_rfl) hS
    refine pa (v := .agg #[.bool a0.Num.fneg, .slice q0i a0.Num.fmag.length c_a0_1]) (ld_sub agg_41 q1e rfl rfl hS) <| x_done <| ?_
    refine x_fin ⟨⟨_, rfl⟩, rfl, ?_⟩
    exact Eq.mp (by kernel_rfl) hS
   ·intro Ep4 w l' hE4 hO4 hF_ hS
    refine p (yl_field0 fld_43_1 (hE4 3 rfl)) <| x_done <| ?_
    refine x_fin ⟨⟨_, rfl⟩, rfl, ?_⟩
    exact Eq.mp (by kernel_rfl) hS
   ·intro Ep4 w l' hE4 hO4 hF_ hS
    obtain ⟨q1f, -⟩ := hF_
    replace q1f : Ep4 16 = .pointer (some ⟨b3, 2, none⟩) := Eq.mp (by kernel_rfl) q1f
    replace hS : St w0 w (cells b3 43 [.bool b1.Num.fneg, .slice q0j b1.Num.fmag.length c_b1_1, .bool b1.Den.fneg, .slice q9 b1.Den.fmag.length c_b1_3] :: l') := Eq.mp (by kernel_rfl) hS
    refine pa (v := .agg #[.bool b1.Den.fneg, .slice q9 b1.Den.fmag.length c_b1_3]) (ld_sub agg_41 q1f rfl rfl hS) <| x_done <| ?_
    refine x_fin ⟨⟨_, rfl⟩, rfl, ?_⟩
    exact Eq.mp (by kernel_rfl) hS
   ·intro Ep4 w l' hE4 hO4 hF_ hS
    obtain ⟨q1g, q1h, -⟩ := hF_
    replace q1g : Ep4 15 = .agg #[.bool a0.Num.fneg, .slice q0i a0.Num.fmag.length c_a0_1] := Eq.mp (by kernel_rfl) q1g
    replace q1h : Ep4 17 = .agg #[.bool b1.Den.fneg, .slice q9 b1.Den.fmag.length c_b1_3] := Eq.mp (by kernel_rfl) q1h
    replace hS : St w0 w (ro ρ :: l') := Eq.mp (by kernel_rfl) hS
    have hcall := c_exact_times q2k q1r q15 hS
    refine o_cc call_29 (args2 q1g q1h) hcall ?_
    rintro e w' ⟨q0c, q1i, q2c, c_y0_ret_1_4_4, rfl, q26, q6, hS⟩
    refine ⟨_, rfl, ?_⟩
    have e_ := q6.n; subst e_
    refine x_done <| ?_
    refine x_fin ⟨⟨_, rfl⟩, rfl, ?_⟩
    replace hS := St.ro_split q26 hS
    replace hS := St.bun (Φ := (fun (q0c : Heap) => Le ρ q0c ∧ RdS (RpI .u32) q0c q1i q0a.fmag.length c_y0_ret_1_4_4 q0a.fmag)) (L := (fun (q0c : Heap) => [roD ρ q0c])) q0c ⟨q26, q6⟩ (hS.pull 1)
    exact Eq.mp (by kernel_rfl) (hS.pull 1)
   ·intro Ep4 w l' hE4 hO4 hF_ hS
    refine p (yl_field0 fld_43_0 (hE4 3 rfl)) <| x_done <| ?_
    refine x_fin ⟨⟨_, rfl⟩, rfl, ?_⟩
    exact Eq.mp (by kernel_rfl) hS
   ·intro Ep4 w l' hE4 hO4 hF_ hS
    obtain ⟨q1j, -⟩ := hF_
    replace q1j : Ep4 19 = .pointer (some ⟨b3, 0, none⟩) := Eq.mp (by kernel_rfl) q1j
    replace hS : St w0 w (cells b3 43 [.bool b1.Num.fneg, .slice q0j b1.Num.fmag.length c_b1_1, .bool b1.Den.fneg, .slice q9 b1.Den.fmag.length c_b1_3] :: l') := Eq.mp (by kernel_rfl) hS
    refine pa (v := .agg #[.bool b1.Num.fneg, .slice q0j b1.Num.fmag.length c_b1_1]) (ld_sub agg_41 q1j rfl rfl hS) <| x_done <| ?_
    refine x_fin ⟨⟨_, rfl⟩, rfl, ?_⟩
    exact Eq.mp (by kernel_rfl) hS
   ·intro Ep4 w l' hE4 hO4 hF_ hS
    refine p (yl_field0 fld_43_1 (hE4 2 rfl)) <| x_done <| ?_
    refine x_fin ⟨⟨_, rfl⟩, rfl, ?_⟩
    exact Eq.mp (by kernel_rfl) hS
   ·intro Ep4 w l' hE4 hO4 hF_ hS
    obtain ⟨q1k, -⟩ := hF_
    replace q1k : Ep4 21 = .pointer (some ⟨b2, 2, none⟩) := Eq.mp (by kernel_rfl) q1k
    replace hS : St w0 w (cells b2 43 [.bool a0.Num.fneg, .slice q0i a0.Num.fmag.length c_a0_1, .bool a0.Den.fneg, .slice q8 a0.Den.fmag.length c_a0_3] :: l') := Eq.mp (by kernel_rfl) hS
    refine pa (v := .agg #[.bool a0.Den.fneg, .slice q8 a0.Den.fmag.length c_a0_3]) (ld_sub agg_41 q1k rfl rfl hS) <| x_done <| ?_
    refine x_fin ⟨⟨_, rfl⟩, rfl, ?_⟩
    exact Eq.mp (by kernel_rfl) hS
   ·intro Ep4 w l' hE4 hO4 hF_ hS
    obtain ⟨q1l, q1m, -⟩ := hF_
    replace q1l : Ep4 20 = .agg #[.bool b1.Num.fneg, .slice q0j b1.Num.fmag.length c_b1_1] := Eq.mp (by kernel_rfl) q1l
    replace q1m : Ep4 22 = .agg #[.bool a0.Den.fneg, .slice q8 a0.Den.fmag.length c_a0_3] := Eq.mp (by kernel_rfl) q1m
    replace hS : St w0 w (ro ρ :: l') := Eq.mp (by kernel_rfl) hS
    have hcall := c_exact_times q2l q1s q14 hS
    refine o_cc call_29 (args2 q1l q1m) hcall ?_
    rintro e w' ⟨q0d, q1n, q2d, c_y0_ret_1_4_9, rfl, q27, q7, hS⟩
    refine ⟨_, rfl, ?_⟩
    have e_ := q7.n; subst e_
    refine x_done <| ?_
    refine x_fin ⟨⟨_, rfl⟩, rfl, ?_⟩
    replace hS := St.ro_split q27 hS
    replace hS := St.bun (Φ := (fun (q0d : Heap) => Le ρ q0d ∧ RdS (RpI .u32) q0d q1n q0b.fmag.length c_y0_ret_1_4_9 q0b.fmag)) (L := (fun (q0d : Heap) => [roD ρ q0d])) q0d ⟨q27, q7⟩ (hS.pull 1)
    exact Eq.mp (by kernel_rfl) (hS.pull 1)
   ·intro Ep4 w l' hE4 hO4 hF_ hS
    obtain ⟨q0r, q0s, -⟩ := hF_
    replace q0r : Ep4 18 = .agg #[.bool q0a.fneg, .slice (adOf (partOf 1 (Ep4 18))) q0a.fmag.length (capOf (partOf 1 (Ep4 18)))] := Eq.mp (by kernel_rfl) q0r
    replace q0s : Ep4 23 = .agg #[.bool q0b.fneg, .slice (adOf (partOf 1 (Ep4 23))) q0b.fmag.length (capOf (partOf 1 (Ep4 23)))] := Eq.mp (by kernel_rfl) q0s
    replace hS : St w0 w (ro ρ :: bunA (fun (q0c : Heap) => Le ρ q0c ∧ RdS (RpI .u32) q0c (adOf (partOf 1 (Ep4 18))) q0a.fmag.length (capOf (partOf 1 (Ep4 18))) q0a.fmag) (fun (q0c : Heap) => [roD ρ q0c]) :: bunA (fun (q0d : Heap) => Le ρ q0d ∧ RdS (RpI .u32) q0d (adOf (partOf 1 (Ep4 23))) q0b.fmag.length (capOf (partOf 1 (Ep4 23))) q0b.fmag) (fun (q0d : Heap) => [roD ρ q0d]) :: l') := Eq.mp (by kernel_rfl) hS
    have q_ := St.unbun (hS.pull 1); obtain ⟨q0c, ⟨q1z, q6⟩, hS⟩ := q_
    have q_ := St.ro_join (hS.pull 1) (Le.refl _) q1z; obtain ⟨q2q, q0t, q1o, hS, q2m⟩ := q_
    have q_ := St.unbun (hS.pull 1); obtain ⟨q0d, ⟨q20, q7⟩, hS⟩ := q_
    have q_ := St.ro_join (hS.pull 1) q0t q20; obtain ⟨q2r, q0p, q1p, hS, q2n⟩ := q_
    have hcall := c_exact_plus q2f (q6.le (q1o.trans q0p)) (q7.le q1p) hS
    refine o_cc call_36 (args2 q0r q0s) hcall ?_
    rintro e w' ⟨q4, q1a, q28, c_y0_ret_1_4_10, rfl, q0v, q0e, hS⟩
    refine ⟨_, rfl, ?_⟩
    have e_ := q0e.n; subst e_
    refine x_done <| ?_
    refine x_fin ⟨⟨_, rfl⟩, rfl, ?_⟩
    replace hS := St.ro_split ((q0t.trans q0p).trans q0v) hS
    replace hS := St.bun (Φ := (fun (q4 : Heap) => Le ρ q4 ∧ RdS (RpI .u32) q4 (adOf (partOf 1 (Ep4 18))) q0a.fmag.length (capOf (partOf 1 (Ep4 18))) q0a.fmag ∧ RdS (RpI .u32) q4 (adOf (partOf 1 (Ep4 23))) q0b.fmag.length (capOf (partOf 1 (Ep4 23))) q0b.fmag ∧ RdS (RpI .u32) q4 q1a q0g.fmag.length c_y0_ret_1_4_10 q0g.fmag)) (L := (fun (q4 : Heap) => [roD ρ q4])) q4 ⟨((q0t.trans q0p).trans q0v), (q6.le ((q1o.trans q0p).trans q0v)), (q7.le (q1p.trans q0v)), q0e⟩ (hS.pull 1)
    exact Eq.mp (by kernel_rfl) (hS.pull 1)
   ·intro Ep4 w l' hE4 hO4 hF_ hS
    refine p (yl_field0 fld_43_1 (hE4 2 rfl)) <| x_done <| ?_
    refine x_fin ⟨⟨_, rfl⟩, rfl, ?_⟩
    exact Eq.mp (by kernel_rfl) hS
   ·intro Ep4 w l' hE4 hO4 hF_ hS
    obtain ⟨q0w, -⟩ := hF_
    replace q0w : Ep4 25 = .pointer (some ⟨b2, 2, none⟩) := Eq.mp (by kernel_rfl) q0w
    replace hS : St w0 w (cells b2 43 [.bool a0.Num.fneg, .slice q0i a0.Num.fmag.length c_a0_1, .bool a0.Den.fneg, .slice q8 a0.Den.fmag.length c_a0_3] :: l') := Eq.mp (by kernel_rfl) hS
    refine pa (v := .agg #[.bool a0.Den.fneg, .slice q8 a0.Den.fmag.length c_a0_3]) (ld_sub agg_41 q0w rfl rfl hS) <| x_done <| ?_
    refine x_fin ⟨⟨_, rfl⟩, rfl, ?_⟩
    exact Eq.mp (by kernel_rfl) hS
   ·intro Ep4 w l' hE4 hO4 hF_ hS
    refine p (yl_field0 fld_43_1 (hE4 3 rfl)) <| x_done <| ?_
    refine x_fin ⟨⟨_, rfl⟩, rfl, ?_⟩
    exact Eq.mp (by kernel_rfl) hS
   ·intro Ep4 w l' hE4 hO4 hF_ hS
    obtain ⟨q0x, -⟩ := hF_
    replace q0x : Ep4 27 = .pointer (some ⟨b3, 2, none⟩) := Eq.mp (by kernel_rfl) q0x
    replace hS : St w0 w (cells b3 43 [.bool b1.Num.fneg, .slice q0j b1.Num.fmag.length c_b1_1, .bool b1.Den.fneg, .slice q9 b1.Den.fmag.length c_b1_3] :: l') := Eq.mp (by kernel_rfl) hS
    refine pa (v := .agg #[.bool b1.Den.fneg, .slice q9 b1.Den.fmag.length c_b1_3]) (ld_sub agg_41 q0x rfl rfl hS) <| x_done <| ?_
    refine x_fin ⟨⟨_, rfl⟩, rfl, ?_⟩
    exact Eq.mp (by kernel_rfl) hS
   ·intro Ep4 w l' hE4 hO4 hF_ hS
    obtain ⟨q0y, q0z, -⟩ := hF_
    replace q0y : Ep4 26 = .agg #[.bool a0.Den.fneg, .slice q8 a0.Den.fmag.length c_a0_3] := Eq.mp (by kernel_rfl) q0y
    replace q0z : Ep4 28 = .agg #[.bool b1.Den.fneg, .slice q9 b1.Den.fmag.length c_b1_3] := Eq.mp (by kernel_rfl) q0z
    replace hS : St w0 w (ro ρ :: l') := Eq.mp (by kernel_rfl) hS
    have hcall := c_exact_times q2g q14 q15 hS
    refine o_cc call_29 (args2 q0y q0z) hcall ?_
    rintro e w' ⟨q5, q1b, q29, c_y0_ret_1_4_15, rfl, q1x, q0f, hS⟩
    refine ⟨_, rfl, ?_⟩
    have e_ := q0f.n; subst e_
    refine x_done <| ?_
    refine x_fin ⟨⟨_, rfl⟩, rfl, ?_⟩
    replace hS := St.ro_split q1x hS
    replace hS := St.bun (Φ := (fun (q5 : Heap) => Le ρ q5 ∧ RdS (RpI .u32) q5 q1b q0h.fmag.length c_y0_ret_1_4_15 q0h.fmag)) (L := (fun (q5 : Heap) => [roD ρ q5])) q5 ⟨q1x, q0f⟩ (hS.pull 1)
    exact Eq.mp (by kernel_rfl) (hS.pull 1)
   ·intro Ep4 w l' hE4 hO4 hF_ hS
    obtain ⟨q0r, q0s, q10, q11, -⟩ := hF_
    replace q0r : Ep4 18 = .agg #[.bool q0a.fneg, .slice (adOf (partOf 1 (Ep4 18))) q0a.fmag.length (capOf (partOf 1 (Ep4 18)))] := Eq.mp (by kernel_rfl) q0r
    replace q0s : Ep4 23 = .agg #[.bool q0b.fneg, .slice (adOf (partOf 1 (Ep4 23))) q0b.fmag.length (capOf (partOf 1 (Ep4 23)))] := Eq.mp (by kernel_rfl) q0s
    replace q10 : Ep4 24 = .agg #[.bool q0g.fneg, .slice (adOf (partOf 1 (Ep4 24))) q0g.fmag.length (capOf (partOf 1 (Ep4 24)))] := Eq.mp (by kernel_rfl) q10
    replace q11 : Ep4 29 = .agg #[.bool q0h.fneg, .slice (adOf (partOf 1 (Ep4 29))) q0h.fmag.length (capOf (partOf 1 (Ep4 29)))] := Eq.mp (by kernel_rfl) q11
    replace hS : St w0 w (ro ρ :: bunA (fun (q4 : Heap) => Le ρ q4 ∧ RdS (RpI .u32) q4 (adOf (partOf 1 (Ep4 18))) q0a.fmag.length (capOf (partOf 1 (Ep4 18))) q0a.fmag ∧ RdS (RpI .u32) q4 (adOf (partOf 1 (Ep4 23))) q0b.fmag.length (capOf (partOf 1 (Ep4 23))) q0b.fmag ∧ RdS (RpI .u32) q4 (adOf (partOf 1 (Ep4 24))) q0g.fmag.length (capOf (partOf 1 (Ep4 24))) q0g.fmag) (fun (q4 : Heap) => [roD ρ q4]) :: bunA (fun (q5 : Heap) => Le ρ q5 ∧ RdS (RpI .u32) q5 (adOf (partOf 1 (Ep4 29))) q0h.fmag.length (capOf (partOf 1 (Ep4 29))) q0h.fmag) (fun (q5 : Heap) => [roD ρ q5]) :: l') := Eq.mp (by kernel_rfl) hS
    have q_ := St.unbun (hS.pull 1); obtain ⟨q4, ⟨q1u, q6, q7, q0e⟩, hS⟩ := q_
    have q_ := St.ro_join (hS.pull 1) (Le.refl _) q1u; obtain ⟨q2s, q0u, q0q, hS, q2o⟩ := q_
    have q_ := St.unbun (hS.pull 1); obtain ⟨q5, ⟨q1v, q0f⟩, hS⟩ := q_
    have q_ := St.ro_join (hS.pull 1) q0u q1v; obtain ⟨q2t, q0n, q1q, hS, q2p⟩ := q_
    have hcall := c_exact_reduced q2h (q0e.le (q0q.trans q0n)) (q0f.le q1q) hS
    refine o_cc call_34 (args2 q10 q11) hcall ?_
    rintro e w' ⟨q3, q1c, q2a, c_y0_ret_1_4_16, q1d, q2b, c_y0_ret_3_4_16, rfl, q0o, q0k, q0l, hS⟩
    refine ⟨_, rfl, ?_⟩
    have e_ := q0k.n; subst e_
    have e_ := q0l.n; subst e_
    refine x_done <| ?_
    refine x_fin ⟨⟨_, rfl⟩, rfl, ?_⟩
    replace hS := St.ro_split ((q0u.trans q0n).trans q0o) hS
    replace hS := St.bun (Φ := (fun (q3 : Heap) => Le ρ q3 ∧ RdS (RpI .u32) q3 (adOf (partOf 1 (Ep4 18))) q0a.fmag.length (capOf (partOf 1 (Ep4 18))) q0a.fmag ∧ RdS (RpI .u32) q3 (adOf (partOf 1 (Ep4 23))) q0b.fmag.length (capOf (partOf 1 (Ep4 23))) q0b.fmag ∧ RdS (RpI .u32) q3 (adOf (partOf 1 (Ep4 24))) q0g.fmag.length (capOf (partOf 1 (Ep4 24))) q0g.fmag ∧ RdS (RpI .u32) q3 (adOf (partOf 1 (Ep4 29))) q0h.fmag.length (capOf (partOf 1 (Ep4 29))) q0h.fmag ∧ RdS (RpI .u32) q3 q1c q2.1.Num.fmag.length c_y0_ret_1_4_16 q2.1.Num.fmag ∧ RdS (RpI .u32) q3 q1d q2.1.Den.fmag.length c_y0_ret_3_4_16 q2.1.Den.fmag)) (L := (fun (q3 : Heap) => [roD ρ q3])) q3 ⟨((q0u.trans q0n).trans q0o), (q6.le ((q0q.trans q0n).trans q0o)), (q7.le ((q0q.trans q0n).trans q0o)), (q0e.le ((q0q.trans q0n).trans q0o)), (q0f.le (q1q.trans q0o)), q0k, q0l⟩ (hS.pull 1)
    exact Eq.mp (by kernel_rfl) (hS.pull 1)
   ·intro Ep4 w l' hE4 hO4 hF_ hS
    obtain ⟨q0m, -⟩ := hF_
    replace q0m : Ep4 30 = .tuple #[.agg #[.bool q2.1.Num.fneg, .slice (adOf (partOf 1 (partOf 0 (Ep4 30)))) q2.1.Num.fmag.length (capOf (partOf 1 (partOf 0 (Ep4 30)))), .bool q2.1.Den.fneg, .slice (adOf (partOf 3 (partOf 0 (Ep4 30)))) q2.1.Den.fmag.length (capOf (partOf 3 (partOf 0 (Ep4 30))))], .int .i64 q2.2] := Eq.mp (by kernel_rfl) q0m
    refine p (yl_extract q0m rfl) <| x_done <| ?_
    refine x_fin ⟨⟨_, rfl⟩, rfl, ?_⟩
    exact Eq.mp (by kernel_rfl) hS
   ·intro Ep4 w l' hE4 hO4 hF_ hS
    obtain ⟨q0m, -⟩ := hF_
    replace q0m : Ep4 30 = .tuple #[.agg #[.bool q2.1.Num.fneg, .slice (adOf (partOf 1 (partOf 0 (Ep4 30)))) q2.1.Num.fmag.length (capOf (partOf 1 (partOf 0 (Ep4 30)))), .bool q2.1.Den.fneg, .slice (adOf (partOf 3 (partOf 0 (Ep4 30)))) q2.1.Den.fmag.length (capOf (partOf 3 (partOf 0 (Ep4 30))))], .int .i64 q2.2] := Eq.mp (by kernel_rfl) q0m
    refine p (yl_extract q0m rfl) <| x_done <| ?_
    refine x_fin ⟨⟨_, rfl⟩, rfl, ?_⟩
    exact Eq.mp (by kernel_rfl) hS
   ·intro Ep4 w l' hE4 hO4 hF_ hS
    obtain ⟨q0m, q12, -⟩ := hF_
    replace q0m : Ep4 30 = .tuple #[.agg #[.bool q2.1.Num.fneg, .slice (adOf (partOf 1 (partOf 0 (Ep4 30)))) q2.1.Num.fmag.length (capOf (partOf 1 (partOf 0 (Ep4 30)))), .bool q2.1.Den.fneg, .slice (adOf (partOf 3 (partOf 0 (Ep4 30)))) q2.1.Den.fmag.length (capOf (partOf 3 (partOf 0 (Ep4 30))))], .int .i64 q2.2] := Eq.mp (by kernel_rfl) q0m
    replace q12 : Ep4 31 = .agg #[.bool q2.1.Num.fneg, .slice (adOf (partOf 1 (partOf 0 (Ep4 30)))) q2.1.Num.fmag.length (capOf (partOf 1 (partOf 0 (Ep4 30)))), .bool q2.1.Den.fneg, .slice (adOf (partOf 3 (partOf 0 (Ep4 30)))) q2.1.Den.fmag.length (capOf (partOf 3 (partOf 0 (Ep4 30))))] := Eq.mp (by kernel_rfl) q12
    replace hS : St w0 w (cells b4 43 [.bool false, .slice none 0 0, .bool false, .slice none 0 0] :: l') := Eq.mp (by kernel_rfl) hS
    refine o_storeAgg (news := [.bool q2.1.Num.fneg, .slice (adOf (partOf 1 (partOf 0 (Ep4 30)))) q2.1.Num.fmag.length (capOf (partOf 1 (partOf 0 (Ep4 30)))), .bool q2.1.Den.fneg, .slice (adOf (partOf 3 (partOf 0 (Ep4 30)))) q2.1.Den.fmag.length (capOf (partOf 3 (partOf 0 (Ep4 30))))]) agg_43 (hE4 4 rfl) q12 rfl (by simp [over_length]) hS (fun w' hS => ?_)
    refine x_done <| ?_
    refine x_fin ⟨⟨undef, rfl⟩, trivial, ?_⟩
    exact Eq.mp (by kernel_rfl) hS
   ·intro Ep4 w l' hE4 hO4 hF_ hS
    obtain ⟨q13, -⟩ := hF_
    replace q13 : Ep4 32 = .int .i64 q2.2 := Eq.mp (by kernel_rfl) q13
    refine p (yl_assign q13) <| x_done <| ?_
    refine x_fin ⟨⟨_, rfl⟩, rfl, ?_⟩
    exact Eq.mp (by kernel_rfl) hS
  intro Ep4 w' hE4 hF_ hS
  obtain ⟨q1e, q1g, q1f, q1h, q0r, q1j, q1l, q1k, q1m, q0s, q10, q0w, q0y, q0x, q0z, q11, q0m, q12, q13, q21, -⟩ := hF_
  replace q1e : Ep4 14 = .pointer (some ⟨b2, 0, none⟩) := Eq.mp (by kernel_rfl) q1e
  replace q1g : Ep4 15 = .agg #[.bool a0.Num.fneg, .slice q0i a0.Num.fmag.length c_a0_1] := Eq.mp (by kernel_rfl) q1g
  replace q1f : Ep4 16 = .pointer (some ⟨b3, 2, none⟩) := Eq.mp (by kernel_rfl) q1f
  replace q1h : Ep4 17 = .agg #[.bool b1.Den.fneg, .slice q9 b1.Den.fmag.length c_b1_3] := Eq.mp (by kernel_rfl) q1h
  replace q0r : Ep4 18 = .agg #[.bool q0a.fneg, .slice (adOf (partOf 1 (Ep4 18))) q0a.fmag.length (capOf (partOf 1 (Ep4 18)))] := Eq.mp (by kernel_rfl) q0r
  replace q1j : Ep4 19 = .pointer (some ⟨b3, 0, none⟩) := Eq.mp (by kernel_rfl) q1j
  replace q1l : Ep4 20 = .agg #[.bool b1.Num.fneg, .slice q0j b1.Num.fmag.length c_b1_1] := Eq.mp (by kernel_rfl) q1l
  replace q1k : Ep4 21 = .pointer (some ⟨b2, 2, none⟩) := Eq.mp (by kernel_rfl) q1k
  replace q1m : Ep4 22 = .agg #[.bool a0.Den.fneg, .slice q8 a0.Den.fmag.length c_a0_3] := Eq.mp (by kernel_rfl) q1m
  replace q0s : Ep4 23 = .agg #[.bool q0b.fneg, .slice (adOf (partOf 1 (Ep4 23))) q0b.fmag.length (capOf (partOf 1 (Ep4 23)))] := Eq.mp (by kernel_rfl) q0s
  replace q10 : Ep4 24 = .agg #[.bool q0g.fneg, .slice (adOf (partOf 1 (Ep4 24))) q0g.fmag.length (capOf (partOf 1 (Ep4 24)))] := Eq.mp (by kernel_rfl) q10
  replace q0w : Ep4 25 = .pointer (some ⟨b2, 2, none⟩) := Eq.mp (by kernel_rfl) q0w
  replace q0y : Ep4 26 = .agg #[.bool a0.Den.fneg, .slice q8 a0.Den.fmag.length c_a0_3] := Eq.mp (by kernel_rfl) q0y
  replace q0x : Ep4 27 = .pointer (some ⟨b3, 2, none⟩) := Eq.mp (by kernel_rfl) q0x
  replace q0z : Ep4 28 = .agg #[.bool b1.Den.fneg, .slice q9 b1.Den.fmag.length c_b1_3] := Eq.mp (by kernel_rfl) q0z
  replace q11 : Ep4 29 = .agg #[.bool q0h.fneg, .slice (adOf (partOf 1 (Ep4 29))) q0h.fmag.length (capOf (partOf 1 (Ep4 29)))] := Eq.mp (by kernel_rfl) q11
  replace q0m : Ep4 30 = .tuple #[.agg #[.bool q2.1.Num.fneg, .slice (adOf (partOf 1 (partOf 0 (Ep4 30)))) q2.1.Num.fmag.length (capOf (partOf 1 (partOf 0 (Ep4 30)))), .bool q2.1.Den.fneg, .slice (adOf (partOf 3 (partOf 0 (Ep4 30)))) q2.1.Den.fmag.length (capOf (partOf 3 (partOf 0 (Ep4 30))))], .int .i64 q2.2] := Eq.mp (by kernel_rfl) q0m
  replace q12 : Ep4 31 = .agg #[.bool q2.1.Num.fneg, .slice (adOf (partOf 1 (partOf 0 (Ep4 30)))) q2.1.Num.fmag.length (capOf (partOf 1 (partOf 0 (Ep4 30)))), .bool q2.1.Den.fneg, .slice (adOf (partOf 3 (partOf 0 (Ep4 30)))) q2.1.Den.fmag.length (capOf (partOf 3 (partOf 0 (Ep4 30))))] := Eq.mp (by kernel_rfl) q12
  replace q13 : Ep4 32 = .int .i64 q2.2 := Eq.mp (by kernel_rfl) q13
  replace q21 : Ep4 5 = .int .i64 q2.2 := Eq.mp (by kernel_rfl) q21
  replace hS : St w0 w' (cells b2 43 [.bool a0.Num.fneg, .slice q0i a0.Num.fmag.length c_a0_1, .bool a0.Den.fneg, .slice q8 a0.Den.fmag.length c_a0_3] :: cells b3 43 [.bool b1.Num.fneg, .slice q0j b1.Num.fmag.length c_b1_1, .bool b1.Den.fneg, .slice q9 b1.Den.fmag.length c_b1_3] :: ro ρ :: bunA (fun (q3 : Heap) => Le ρ q3 ∧ RdS (RpI .u32) q3 (adOf (partOf 1 (Ep4 18))) q0a.fmag.length (capOf (partOf 1 (Ep4 18))) q0a.fmag ∧ RdS (RpI .u32) q3 (adOf (partOf 1 (Ep4 23))) q0b.fmag.length (capOf (partOf 1 (Ep4 23))) q0b.fmag ∧ RdS (RpI .u32) q3 (adOf (partOf 1 (Ep4 24))) q0g.fmag.length (capOf (partOf 1 (Ep4 24))) q0g.fmag ∧ RdS (RpI .u32) q3 (adOf (partOf 1 (Ep4 29))) q0h.fmag.length (capOf (partOf 1 (Ep4 29))) q0h.fmag ∧ RdS (RpI .u32) q3 (adOf (partOf 1 (partOf 0 (Ep4 30)))) q2.1.Num.fmag.length (capOf (partOf 1 (partOf 0 (Ep4 30)))) q2.1.Num.fmag ∧ RdS (RpI .u32) q3 (adOf (partOf 3 (partOf 0 (Ep4 30)))) q2.1.Den.fmag.length (capOf (partOf 3 (partOf 0 (Ep4 30)))) q2.1.Den.fmag) (fun (q3 : Heap) => [roD ρ q3]) :: cells b4 43 [.bool q2.1.Num.fneg, .slice (adOf (partOf 1 (partOf 0 (Ep4 30)))) q2.1.Num.fmag.length (capOf (partOf 1 (partOf 0 (Ep4 30)))), .bool q2.1.Den.fneg, .slice (adOf (partOf 3 (partOf 0 (Ep4 30)))) q2.1.Den.fmag.length (capOf (partOf 3 (partOf 0 (Ep4 30))))] :: (l)) := Eq.mp (by kernel_rfl) hS
  have q_ := St.unbun (hS.pull 3); obtain ⟨q3, ⟨q1w, q6, q7, q0e, q0f, q0k, q0l⟩, hS⟩ := q_
  have q_ := St.ro_join (hS.pull 3) (Le.refl _) q1w; obtain ⟨q2i, q2e, q1y, hS, q2u⟩ := q_
  have e_ := Option.some.inj (show some _ = some _ from hF); subst e_
  exact x_return ⟨_, ⟨_, _, _, rfl, (hE4 4 rfl), ldvA agg_43 rfl (fun j v hj => by rw [add0]; exact St.cell (hS.pull 3) hj), _, _, rfl, q21, rfl⟩, q2i, (adOf (partOf 1 (partOf 0 (Ep4 30)))), q2.1.Num.fmag.length, (capOf (partOf 1 (partOf 0 (Ep4 30)))), (adOf (partOf 3 (partOf 0 (Ep4 30)))), q2.1.Den.fmag.length, (capOf (partOf 3 (partOf 0 (Ep4 30)))), rfl, q2e, (q0k.le q1y), (q0l.le q1y), ((((hS.pull 1).drop.pull 1).drop.pull 1).drop)⟩
attribute [irreducible] P_exact_Sum

def P_exact_Diff (a0 : T_exact_Ratio) (b1 : T_exact_Ratio) : Option (T_exact_Ratio × Int) :=
 bd (P_exact_Neg (T_exact_Int.mk b1.Num.fneg b1.Num.fmag)) fun q3 =>
 bd (P_exact_Sum a0 (T_exact_Ratio.mk q3 (T_exact_Int.mk b1.Den.fneg b1.Den.fmag))) fun q2 =>
 some (q2.1, q2.2)
set_option maxHeartbeats 4000000 in
set_option maxRecDepth 100000 in
theorem c_exact_Diff {w0 w : World} {l : List Assn} {ρ : Heap} {q9 : Option Addr} {q0w : Nat} {c_a0_1 : Nat} {q0a : Option Addr} {q0x : Nat} {c_a0_3 : Nat} {q6 : Option Addr} {q0y : Nat} {c_b1_1 : Nat} {q5 : Option Addr} {q0z : Nat} {c_b1_3 : Nat} {a0 : T_exact_Ratio} {b1 : T_exact_Ratio} {r : (T_exact_Ratio × Int)} (hF : P_exact_Diff a0 b1 = some r) (q10 : RdS (RpI .u32) ρ q9 q0w c_a0_1 a0.Num.fmag) (q11 : RdS (RpI .u32) ρ q0a q0x c_a0_3 a0.Den.fmag) (q12 : RdS (RpI .u32) ρ q6 q0y c_b1_1 b1.Num.fmag) (q13 : RdS (RpI .u32) ρ q5 q0z c_b1_3 b1.Den.fmag) (hS : St w0 w (ro ρ :: l)) :
  Calls Try.prog 12 #[.agg #[.bool a0.Num.fneg, .slice q9 q0w c_a0_1, .bool a0.Den.fneg, .slice q0a q0x c_a0_3], .agg #[.bool b1.Num.fneg, .slice q6 q0y c_b1_1, .bool b1.Den.fneg, .slice q5 q0z c_b1_3]] w fun e w' => ∃ (ρ' : Heap) (q0e : Option Addr) (q0f : Nat) (c_y0_ret_1 : Nat) (q0g : Option Addr) (q0h : Nat) (c_y0_ret_3 : Nat), e = .returned (.tuple #[.agg #[.bool r.1.Num.fneg, .slice q0e q0f c_y0_ret_1, .bool r.1.Den.fneg, .slice q0g q0h c_y0_ret_3], .int .i64 r.2]) ∧ Le ρ ρ' ∧ RdS (RpI .u32) ρ' q0e q0f c_y0_ret_1 r.1.Num.fmag ∧ RdS (RpI .u32) ρ' q0g q0h c_y0_ret_3 r.1.Den.fmag ∧ St w0 w' (ro ρ' :: l) := by
 have e_ := q10.n; subst e_
 have e_ := q11.n; subst e_
 have e_ := q12.n; subst e_
 have e_ := q13.n; subst e_
 refine enterC Try.func12 rfl 16 rfl (by simp) ?_
 refine x_seq <| x_region <| ?_
 refine o_box (cs := [.bool a0.Num.fneg, .slice q9 a0.Num.fmag.length c_a0_1, .bool a0.Den.fneg, .slice q0a a0.Den.fmag.length c_a0_3]) rfl rfl hS (fun b2 w' hS => ?_)
 refine o_box (cs := [.bool b1.Num.fneg, .slice q6 b1.Num.fmag.length c_b1_1, .bool b1.Den.fneg, .slice q5 b1.Den.fmag.length c_b1_3]) rfl rfl hS (fun b3 w' hS => ?_)
 refine o_alloc zero_43 hS (fun b4 w' hS => ?_)
 refine p (yl_assign rfl) <| x_done <| x_seq <| ?_
 replace hF := bd_s hF; obtain ⟨q4, q1b, hF⟩ := hF
 replace hF := bd_s hF; obtain ⟨q2, q1c, hF⟩ := hF
 refine x_par (w0 := w0) [⟨[], [], [6], [0], [], []⟩, ⟨[], [], [7], [], [], []⟩, ⟨[1], [1], [8], [1], [], []⟩, ⟨[1, 2], [2], [9], [2], [], []⟩, ⟨[], [], [10], [], [], []⟩, ⟨[4], [4], [11], [1], [], []⟩, ⟨[1, 2, 3, 4, 5], [3, 5], [9, 12], [], [], []⟩, ⟨[0, 1, 2, 3, 4, 5, 6], [0, 3, 6], [13], [2], [], [3]⟩, ⟨[0, 1, 2, 3, 4, 5, 6, 7], [7], [13, 14], [], [], []⟩, ⟨[0, 1, 2, 3, 4, 5, 6, 7], [7], [15], [], [], []⟩, ⟨[0, 1, 2, 3, 4, 5, 6, 7, 8, 9], [7, 8], [], [], [4], [5]⟩, ⟨[0, 1, 2, 3, 4, 5, 6, 7, 8, 9, 10], [9], [5], [], [], []⟩] [⟨none, none, []⟩, ⟨none, none, []⟩, ⟨none, none, []⟩, ⟨(some 7), none, [13]⟩, ⟨none, (some 10), []⟩, ⟨(some 10), none, [13]⟩] [5, 6, 7, 8, 9, 10, 11, 12, 13, 14, 15] [0, 1, 2, 4] [0, 1, 2, 3, 5] [0, 1, 2, 3, 4, 5, 6, 7, 8, 9, 11] [fun Ep1 => Ep1 6 = .agg #[.bool a0.Num.fneg, .slice q9 a0.Num.fmag.length c_a0_1, .bool a0.Den.fneg, .slice q0a a0.Den.fmag.length c_a0_3], fun Ep1 => Ep1 7 = .pointer (some ⟨b3, 0, none⟩), fun Ep1 => Ep1 8 = .agg #[.bool b1.Num.fneg, .slice q6 b1.Num.fmag.length c_b1_1], fun Ep1 => Ep1 9 = .agg #[.bool q4.fneg, .slice (adOf (partOf 1 (Ep1 9))) q4.fmag.length (capOf (partOf 1 (Ep1 9)))] ∧ RdS (RpI .u32) ρ (adOf (partOf 1 (Ep1 9))) q4.fmag.length (capOf (partOf 1 (Ep1 9))) q4.fmag, fun Ep1 => Ep1 10 = .pointer (some ⟨b3, 2, none⟩), fun Ep1 => Ep1 11 = .agg #[.bool b1.Den.fneg, .slice q5 b1.Den.fmag.length c_b1_3], fun Ep1 => Ep1 12 = .agg #[.bool q4.fneg, .slice (adOf (partOf 1 (Ep1 9))) q4.fmag.length (capOf (partOf 1 (Ep1 9))), .bool b1.Den.fneg, .slice q5 b1.Den.fmag.length c_b1_3], fun Ep1 => Ep1 13 = .tuple #[.agg #[.bool q2.1.Num.fneg, .slice (adOf (partOf 1 (partOf 0 (Ep1 13)))) q2.1.Num.fmag.length (capOf (partOf 1 (partOf 0 (Ep1 13)))), .bool q2.1.Den.fneg, .slice (adOf (partOf 3 (partOf 0 (Ep1 13)))) q2.1.Den.fmag.length (capOf (partOf 3 (partOf 0 (Ep1 13))))], .int .i64 q2.2], fun Ep1 => Ep1 14 = .agg #[.bool q2.1.Num.fneg, .slice (adOf (partOf 1 (partOf 0 (Ep1 13)))) q2.1.Num.fmag.length (capOf (partOf 1 (partOf 0 (Ep1 13)))), .bool q2.1.Den.fneg, .slice (adOf (partOf 3 (partOf 0 (Ep1 13)))) q2.1.Den.fmag.length (capOf (partOf 3 (partOf 0 (Ep1 13))))], fun Ep1 => Ep1 15 = .int .i64 q2.2, fun Ep1 => True, fun Ep1 => Ep1 5 = .int .i64 q2.2] [fun Ep1 => cells b2 43 [.bool a0.Num.fneg, .slice q9 a0.Num.fmag.length c_a0_1, .bool a0.Den.fneg, .slice q0a a0.Den.fmag.length c_a0_3], fun Ep1 => cells b3 43 [.bool b1.Num.fneg, .slice q6 b1.Num.fmag.length c_b1_1, .bool b1.Den.fneg, .slice q5 b1.Den.fmag.length c_b1_3], fun Ep1 => ro ρ, fun Ep1 => bunA (fun (q3 : Heap) => Le ρ q3 ∧ RdS (RpI .u32) q3 (adOf (partOf 1 (partOf 0 (Ep1 13)))) q2.1.Num.fmag.length (capOf (partOf 1 (partOf 0 (Ep1 13)))) q2.1.Num.fmag ∧ RdS (RpI .u32) q3 (adOf (partOf 3 (partOf 0 (Ep1 13)))) q2.1.Den.fmag.length (capOf (partOf 3 (partOf 0 (Ep1 13)))) q2.1.Den.fmag) (fun (q3 : Heap) => [roD ρ q3]), fun Ep1 => cells b4 43 [.bool false, .slice none 0 0, .bool false, .slice none 0 0], fun Ep1 => cells b4 43 [.bool q2.1.Num.fneg, .slice (adOf (partOf 1 (partOf 0 (Ep1 13)))) q2.1.Num.fmag.length (capOf (partOf 1 (partOf 0 (Ep1 13)))), .bool q2.1.Den.fneg, .slice (adOf (partOf 3 (partOf 0 (Ep1 13)))) q2.1.Den.fmag.length (capOf (partOf 3 (partOf 0 (Ep1 13))))]] mixed (by kernel_rfl) (((hS.pull 3).pull 2).pull 3) ?_ ?_
 ·refine ⟨?_, ?_, ?_, ?_, ?_, ?_, ?_, ?_, ?_, ?_, ?_, ?_, trivial⟩
  ·intro Ep1 w l' hE1 hO1 hF_ hS
   replace hS : St w0 w (cells b2 43 [.bool a0.Num.fneg, .slice q9 a0.Num.fmag.length c_a0_1, .bool a0.Den.fneg, .slice q0a a0.Den.fmag.length c_a0_3] :: l') := Eq.mp (by kernel_rfl) hS
   refine pa (v := .agg #[.bool a0.Num.fneg, .slice q9 a0.Num.fmag.length c_a0_1, .bool a0.Den.fneg, .slice q0a a0.Den.fmag.length c_a0_3]) (ld_sub agg_43 (hE1 2 rfl) rfl rfl hS) <| x_done <| ?_
   refine x_fin ⟨⟨_, rfl⟩, rfl, ?_⟩
   exact Eq.mp (by kernel_rfl) hS
  ·intro Ep1 w l' hE1 hO1 hF_ hS
   refine p (yl_field0 fld_43_0 (hE1 3 rfl)) <| x_done <| ?_
   refine x_fin ⟨⟨_, rfl⟩, rfl, ?_⟩
   exact Eq.mp (by kernel_rfl) hS
  ·intro Ep1 w l' hE1 hO1 hF_ hS
   obtain ⟨q0i, -⟩ := hF_
   replace q0i : Ep1 7 = .pointer (some ⟨b3, 0, none⟩) := Eq.mp (by kernel_rfl) q0i
   replace hS : St w0 w (cells b3 43 [.bool b1.Num.fneg, .slice q6 b1.Num.fmag.length c_b1_1, .bool b1.Den.fneg, .slice q5 b1.Den.fmag.length c_b1_3] :: l') := Eq.mp (by kernel_rfl) hS
   refine pa (v := .agg #[.bool b1.Num.fneg, .slice q6 b1.Num.fmag.length c_b1_1]) (ld_sub agg_41 q0i rfl rfl hS) <| x_done <| ?_
   refine x_fin ⟨⟨_, rfl⟩, rfl, ?_⟩
   exact Eq.mp (by kernel_rfl) hS
  ·intro Ep1 w l' hE1 hO1 hF_ hS
   obtain ⟨q0j, -⟩ := hF_
   replace q0j : Ep1 8 = .agg #[.bool b1.Num.fneg, .slice q6 b1.Num.fmag.length c_b1_1] := Eq.mp (by kernel_rfl) q0j
   replace hS : St w0 w (ro ρ :: l') := Eq.mp (by kernel_rfl) hS
   have hcall := c_exact_Neg q1b q12 hS
   refine o_cc call_30 (args1 q0j) hcall ?_
   rintro e w' ⟨q15, q16, c_y0_ret_1_1_3, rfl, q0d, hS⟩
   refine ⟨_, rfl, ?_⟩
   have e_ := q0d.n; subst e_
   refine x_done <| ?_
   refine x_fin ⟨⟨_, rfl⟩, ⟨rfl, q0d⟩, ?_⟩
   exact Eq.mp (by kernel_rfl) hS
  ·intro Ep1 w l' hE1 hO1 hF_ hS
   refine p (yl_field0 fld_43_1 (hE1 3 rfl)) <| x_done <| ?_
   refine x_fin ⟨⟨_, rfl⟩, rfl, ?_⟩
   exact Eq.mp (by kernel_rfl) hS
  ·intro Ep1 w l' hE1 hO1 hF_ hS
   obtain ⟨q0k, -⟩ := hF_
   replace q0k : Ep1 10 = .pointer (some ⟨b3, 2, none⟩) := Eq.mp (by kernel_rfl) q0k
   replace hS : St w0 w (cells b3 43 [.bool b1.Num.fneg, .slice q6 b1.Num.fmag.length c_b1_1, .bool b1.Den.fneg, .slice q5 b1.Den.fmag.length c_b1_3] :: l') := Eq.mp (by kernel_rfl) hS
   refine pa (v := .agg #[.bool b1.Den.fneg, .slice q5 b1.Den.fmag.length c_b1_3]) (ld_sub agg_41 q0k rfl rfl hS) <| x_done <| ?_
   refine x_fin ⟨⟨_, rfl⟩, rfl, ?_⟩
   exact Eq.mp (by kernel_rfl) hS
  ·intro Ep1 w l' hE1 hO1 hF_ hS
   obtain ⟨q0c, q0l, -⟩ := hF_
   replace q0c : Ep1 9 = .agg #[.bool q4.fneg, .slice (adOf (partOf 1 (Ep1 9))) q4.fmag.length (capOf (partOf 1 (Ep1 9)))] ∧ RdS (RpI .u32) ρ (adOf (partOf 1 (Ep1 9))) q4.fmag.length (capOf (partOf 1 (Ep1 9))) q4.fmag := Eq.mp (by kernel_rfl) q0c
   have q_ := id q0c; obtain ⟨-, q0t⟩ := q_
   replace q0l : Ep1 11 = .agg #[.bool b1.Den.fneg, .slice q5 b1.Den.fmag.length c_b1_3] := Eq.mp (by kernel_rfl) q0l
   refine p (v := .agg #[.bool q4.fneg, .slice (adOf (partOf 1 (Ep1 9))) q4.fmag.length (capOf (partOf 1 (Ep1 9))), .bool b1.Den.fneg, .slice q5 b1.Den.fmag.length c_b1_3]) (yl_build bld_43 bldf_43 (parts_eq (pt (va := .agg #[.bool q4.fneg, .slice (adOf (partOf 1 (Ep1 9))) q4.fmag.length (capOf (partOf 1 (Ep1 9)))]) q0c.1 (pt (va := .agg #[.bool b1.Den.fneg, .slice q5 b1.Den.fmag.length c_b1_3]) q0l pt0))) (by kernel_rfl)) <| x_done <| ?_
   refine x_fin ⟨⟨_, rfl⟩, rfl, ?_⟩
   exact Eq.mp (by kernel_rfl) hS
  ·intro Ep1 w l' hE1 hO1 hF_ hS
   obtain ⟨q0m, q0c, q0n, -⟩ := hF_
   replace q0m : Ep1 6 = .agg #[.bool a0.Num.fneg, .slice q9 a0.Num.fmag.length c_a0_1, .bool a0.Den.fneg, .slice q0a a0.Den.fmag.length c_a0_3] := Eq.mp (by kernel_rfl) q0m
   replace q0c : Ep1 9 = .agg #[.bool q4.fneg, .slice (adOf (partOf 1 (Ep1 9))) q4.fmag.length (capOf (partOf 1 (Ep1 9)))] ∧ RdS (RpI .u32) ρ (adOf (partOf 1 (Ep1 9))) q4.fmag.length (capOf (partOf 1 (Ep1 9))) q4.fmag := Eq.mp (by kernel_rfl) q0c
   have q_ := id q0c; obtain ⟨-, q0t⟩ := q_
   replace q0n : Ep1 12 = .agg #[.bool q4.fneg, .slice (adOf (partOf 1 (Ep1 9))) q4.fmag.length (capOf (partOf 1 (Ep1 9))), .bool b1.Den.fneg, .slice q5 b1.Den.fmag.length c_b1_3] := Eq.mp (by kernel_rfl) q0n
   replace hS : St w0 w (ro ρ :: l') := Eq.mp (by kernel_rfl) hS
   have hcall := c_exact_Sum q1c q10 q11 q0t q13 hS
   refine o_cc call_18 (args2 q0m q0n) hcall ?_
   rintro e w' ⟨q3, q0o, q17, c_y0_ret_1_1_7, q0p, q18, c_y0_ret_3_1_7, rfl, q14, q7, q8, hS⟩
   refine ⟨_, rfl, ?_⟩
   have e_ := q7.n; subst e_
   have e_ := q8.n; subst e_
   refine x_done <| ?_
   refine x_fin ⟨⟨_, rfl⟩, rfl, ?_⟩
   replace hS := St.ro_split q14 hS
   replace hS := St.bun (Φ := (fun (q3 : Heap) => Le ρ q3 ∧ RdS (RpI .u32) q3 q0o q2.1.Num.fmag.length c_y0_ret_1_1_7 q2.1.Num.fmag ∧ RdS (RpI .u32) q3 q0p q2.1.Den.fmag.length c_y0_ret_3_1_7 q2.1.Den.fmag)) (L := (fun (q3 : Heap) => [roD ρ q3])) q3 ⟨q14, q7, q8⟩ (hS.pull 1)
   exact Eq.mp (by kernel_rfl) (hS.pull 1)
  ·intro Ep1 w l' hE1 hO1 hF_ hS
   obtain ⟨q0b, -⟩ := hF_
   replace q0b : Ep1 13 = .tuple #[.agg #[.bool q2.1.Num.fneg, .slice (adOf (partOf 1 (partOf 0 (Ep1 13)))) q2.1.Num.fmag.length (capOf (partOf 1 (partOf 0 (Ep1 13)))), .bool q2.1.Den.fneg, .slice (adOf (partOf 3 (partOf 0 (Ep1 13)))) q2.1.Den.fmag.length (capOf (partOf 3 (partOf 0 (Ep1 13))))], .int .i64 q2.2] := Eq.mp (by kernel_rfl) q0b
   refine p (yl_extract q0b rfl) <| x_done <| ?_
   refine x_fin ⟨⟨_, rfl⟩, rfl, ?_⟩
   exact Eq.mp (by kernel_rfl) hS
  ·intro Ep1 w l' hE1 hO1 hF_ hS
   obtain ⟨q0b, -⟩ := hF_
   replace q0b : Ep1 13 = .tuple #[.agg #[.bool q2.1.Num.fneg, .slice (adOf (partOf 1 (partOf 0 (Ep1 13)))) q2.1.Num.fmag.length (capOf (partOf 1 (partOf 0 (Ep1 13)))), .bool q2.1.Den.fneg, .slice (adOf (partOf 3 (partOf 0 (Ep1 13)))) q2.1.Den.fmag.length (capOf (partOf 3 (partOf 0 (Ep1 13))))], .int .i64 q2.2] := Eq.mp (by kernel_rfl) q0b
   refine p (yl_extract q0b rfl) <| x_done <| ?_
   refine x_fin ⟨⟨_, rfl⟩, rfl, ?_⟩
   exact Eq.mp (by kernel_rfl) hS
  ·intro Ep1 w l' hE1 hO1 hF_ hS
   obtain ⟨q0b, q0q, -⟩ := hF_
   replace q0b : Ep1 13 = .tuple #[.agg #[.bool q2.1.Num.fneg, .slice (adOf (partOf 1 (partOf 0 (Ep1 13)))) q2.1.Num.fmag.length (capOf (partOf 1 (partOf 0 (Ep1 13)))), .bool q2.1.Den.fneg, .slice (adOf (partOf 3 (partOf 0 (Ep1 13)))) q2.1.Den.fmag.length (capOf (partOf 3 (partOf 0 (Ep1 13))))], .int .i64 q2.2] := Eq.mp (by kernel_rfl) q0b
   replace q0q : Ep1 14 = .agg #[.bool q2.1.Num.fneg, .slice (adOf (partOf 1 (partOf 0 (Ep1 13)))) q2.1.Num.fmag.length (capOf (partOf 1 (partOf 0 (Ep1 13)))), .bool q2.1.Den.fneg, .slice (adOf (partOf 3 (partOf 0 (Ep1 13)))) q2.1.Den.fmag.length (capOf (partOf 3 (partOf 0 (Ep1 13))))] := Eq.mp (by kernel_rfl) q0q
   replace hS : St w0 w (cells b4 43 [.bool false, .slice none 0 0, .bool false, .slice none 0 0] :: l') := Eq.mp (by kernel_rfl) hS
   refine o_storeAgg (news := [.bool q2.1.Num.fneg, .slice (adOf (partOf 1 (partOf 0 (Ep1 13)))) q2.1.Num.fmag.length (capOf (partOf 1 (partOf 0 (Ep1 13)))), .bool q2.1.Den.fneg, .slice (adOf (partOf 3 (partOf 0 (Ep1 13)))) q2.1.Den.fmag.length (capOf (partOf 3 (partOf 0 (Ep1 13))))]) agg_43 (hE1 4 rfl) q0q rfl (by simp [over_length]) hS (fun w' hS => ?_)
   refine x_done <| ?_
   refine x_fin ⟨⟨undef, rfl⟩, trivial, ?_⟩
   exact Eq.mp (by kernel_rfl) hS
  ·intro Ep1 w l' hE1 hO1 hF_ hS
   obtain ⟨q0r, -⟩ := hF_
   replace q0r : Ep1 15 = .int .i64 q2.2 := Eq.mp (by kernel_rfl) q0r
   refine p (yl_assign q0r) <| x_done <| ?_
   refine x_fin ⟨⟨_, rfl⟩, rfl, ?_⟩
   exact Eq.mp (by kernel_rfl) hS
 intro Ep1 w' hE1 hF_ hS
 obtain ⟨q0m, q0i, q0j, q0c, q0k, q0l, q0n, q0b, q0q, q0r, q0u, -⟩ := hF_
 replace q0m : Ep1 6 = .agg #[.bool a0.Num.fneg, .slice q9 a0.Num.fmag.length c_a0_1, .bool a0.Den.fneg, .slice q0a a0.Den.fmag.length c_a0_3] := Eq.mp (by kernel_rfl) q0m
 replace q0i : Ep1 7 = .pointer (some ⟨b3, 0, none⟩) := Eq.mp (by kernel_rfl) q0i
 replace q0j : Ep1 8 = .agg #[.bool b1.Num.fneg, .slice q6 b1.Num.fmag.length c_b1_1] := Eq.mp (by kernel_rfl) q0j
 replace q0c : Ep1 9 = .agg #[.bool q4.fneg, .slice (adOf (partOf 1 (Ep1 9))) q4.fmag.length (capOf (partOf 1 (Ep1 9)))] ∧ RdS (RpI .u32) ρ (adOf (partOf 1 (Ep1 9))) q4.fmag.length (capOf (partOf 1 (Ep1 9))) q4.fmag := Eq.mp (by kernel_rfl) q0c
 have q_ := id q0c; obtain ⟨-, q0t⟩ := q_
 replace q0k : Ep1 10 = .pointer (some ⟨b3, 2, none⟩) := Eq.mp (by kernel_rfl) q0k
 replace q0l : Ep1 11 = .agg #[.bool b1.Den.fneg, .slice q5 b1.Den.fmag.length c_b1_3] := Eq.mp (by kernel_rfl) q0l
 replace q0n : Ep1 12 = .agg #[.bool q4.fneg, .slice (adOf (partOf 1 (Ep1 9))) q4.fmag.length (capOf (partOf 1 (Ep1 9))), .bool b1.Den.fneg, .slice q5 b1.Den.fmag.length c_b1_3] := Eq.mp (by kernel_rfl) q0n
 replace q0b : Ep1 13 = .tuple #[.agg #[.bool q2.1.Num.fneg, .slice (adOf (partOf 1 (partOf 0 (Ep1 13)))) q2.1.Num.fmag.length (capOf (partOf 1 (partOf 0 (Ep1 13)))), .bool q2.1.Den.fneg, .slice (adOf (partOf 3 (partOf 0 (Ep1 13)))) q2.1.Den.fmag.length (capOf (partOf 3 (partOf 0 (Ep1 13))))], .int .i64 q2.2] := Eq.mp (by kernel_rfl) q0b
 replace q0q : Ep1 14 = .agg #[.bool q2.1.Num.fneg, .slice (adOf (partOf 1 (partOf 0 (Ep1 13)))) q2.1.Num.fmag.length (capOf (partOf 1 (partOf 0 (Ep1 13)))), .bool q2.1.Den.fneg, .slice (adOf (partOf 3 (partOf 0 (Ep1 13)))) q2.1.Den.fmag.length (capOf (partOf 3 (partOf 0 (Ep1 13))))] := Eq.mp (by kernel_rfl) q0q
 replace q0r : Ep1 15 = .int .i64 q2.2 := Eq.mp (by kernel_rfl) q0r
 replace q0u : Ep1 5 = .int .i64 q2.2 := Eq.mp (by kernel_rfl) q0u
 replace hS : St w0 w' (cells b2 43 [.bool a0.Num.fneg, .slice q9 a0.Num.fmag.length c_a0_1, .bool a0.Den.fneg, .slice q0a a0.Den.fmag.length c_a0_3] :: cells b3 43 [.bool b1.Num.fneg, .slice q6 b1.Num.fmag.length c_b1_1, .bool b1.Den.fneg, .slice q5 b1.Den.fmag.length c_b1_3] :: ro ρ :: bunA (fun (q3 : Heap) => Le ρ q3 ∧ RdS (RpI .u32) q3 (adOf (partOf 1 (partOf 0 (Ep1 13)))) q2.1.Num.fmag.length (capOf (partOf 1 (partOf 0 (Ep1 13)))) q2.1.Num.fmag ∧ RdS (RpI .u32) q3 (adOf (partOf 3 (partOf 0 (Ep1 13)))) q2.1.Den.fmag.length (capOf (partOf 3 (partOf 0 (Ep1 13)))) q2.1.Den.fmag) (fun (q3 : Heap) => [roD ρ q3]) :: cells b4 43 [.bool q2.1.Num.fneg, .slice (adOf (partOf 1 (partOf 0 (Ep1 13)))) q2.1.Num.fmag.length (capOf (partOf 1 (partOf 0 (Ep1 13)))), .bool q2.1.Den.fneg, .slice (adOf (partOf 3 (partOf 0 (Ep1 13)))) q2.1.Den.fmag.length (capOf (partOf 3 (partOf 0 (Ep1 13))))] :: (l)) := Eq.mp (by kernel_rfl) hS
 have q_ := St.unbun (hS.pull 3); obtain ⟨q3, ⟨q0v, q7, q8⟩, hS⟩ := q_
 have q_ := St.ro_join (hS.pull 3) (Le.refl _) q0v; obtain ⟨q1a, q19, q0s, hS, q1d⟩ := q_
 have e_ := Option.some.inj (show some _ = some _ from hF); subst e_
 exact x_return ⟨_, ⟨_, _, _, rfl, (hE1 4 rfl), ldvA agg_43 rfl (fun j v hj => by rw [add0]; exact St.cell (hS.pull 3) hj), _, _, rfl, q0u, rfl⟩, q1a, (adOf (partOf 1 (partOf 0 (Ep1 13)))), q2.1.Num.fmag.length, (capOf (partOf 1 (partOf 0 (Ep1 13)))), (adOf (partOf 3 (partOf 0 (Ep1 13)))), q2.1.Den.fmag.length, (capOf (partOf 3 (partOf 0 (Ep1 13)))), rfl, q19, (q7.le q0s), (q8.le q0s), ((((hS.pull 1).drop.pull 1).drop.pull 1).drop)⟩
attribute [irreducible] P_exact_Diff

def P_exact_Compare (a0 : T_exact_Ratio) (b1 : T_exact_Ratio) : Option Int :=
 bd (P_exact_both a0 b1) fun q3 =>
 if q3 ≠ 0 then
  some (0 : Int)
 else
  bd (P_exact_times (T_exact_Int.mk a0.Num.fneg a0.Num.fmag) (T_exact_Int.mk b1.Den.fneg b1.Den.fmag)) fun q4 =>
  bd (P_exact_times (T_exact_Int.mk b1.Num.fneg b1.Num.fmag) (T_exact_Int.mk a0.Den.fneg a0.Den.fmag)) fun q5 =>
  bd (P_exact_Cmp q4 q5) fun q2 =>
  some q2
set_option maxHeartbeats 4000000 in
set_option maxRecDepth 100000 in
theorem c_exact_Compare {w0 w : World} {l : List Assn} {ρ : Heap} {q6 : Option Addr} {q10 : Nat} {c_a0_1 : Nat} {q7 : Option Addr} {q11 : Nat} {c_a0_3 : Nat} {q8 : Option Addr} {q12 : Nat} {c_b1_1 : Nat} {q9 : Option Addr} {q13 : Nat} {c_b1_3 : Nat} {a0 : T_exact_Ratio} {b1 : T_exact_Ratio} {r : Int} (hF : P_exact_Compare a0 b1 = some r) (q0s : RdS (RpI .u32) ρ q6 q10 c_a0_1 a0.Num.fmag) (q0t : RdS (RpI .u32) ρ q7 q11 c_a0_3 a0.Den.fmag) (q0u : RdS (RpI .u32) ρ q8 q12 c_b1_1 b1.Num.fmag) (q0v : RdS (RpI .u32) ρ q9 q13 c_b1_3 b1.Den.fmag) (hS : St w0 w (ro ρ :: l)) :
  Calls Try.prog 10 #[.agg #[.bool a0.Num.fneg, .slice q6 q10 c_a0_1, .bool a0.Den.fneg, .slice q7 q11 c_a0_3], .agg #[.bool b1.Num.fneg, .slice q8 q12 c_b1_1, .bool b1.Den.fneg, .slice q9 q13 c_b1_3]] w fun e w' => e = .returned (.int .i64 r) ∧ St w0 w' (ro ρ :: l) := by
 have e_ := q0s.n; subst e_
 have e_ := q0t.n; subst e_
 have e_ := q0u.n; subst e_
 have e_ := q0v.n; subst e_
 refine enterC Try.func10 rfl 20 rfl (by simp) ?_
 refine x_seq <| x_region <| ?_
 refine o_box (cs := [.bool a0.Num.fneg, .slice q6 a0.Num.fmag.length c_a0_1, .bool a0.Den.fneg, .slice q7 a0.Den.fmag.length c_a0_3]) rfl rfl hS (fun b2 w' hS => ?_)
 refine o_box (cs := [.bool b1.Num.fneg, .slice q8 b1.Num.fmag.length c_b1_1, .bool b1.Den.fneg, .slice q9 b1.Den.fmag.length c_b1_3]) rfl rfl hS (fun b3 w' hS => ?_)
 replace hF := bd_s hF; obtain ⟨q1h, q1e, hF⟩ := hF
 refine p (yl_assign rfl) <| x_done <| x_seq <| x_seq <|
  x_region <| pa (v := .agg #[.bool a0.Num.fneg, .slice q6 a0.Num.fmag.length c_a0_1, .bool a0.Den.fneg, .slice q7 a0.Den.fmag.length c_a0_3]) (ld_sub agg_43 rfl rfl rfl (hS.pull 1)) <| pa (v := .agg #[.bool b1.Num.fneg, .slice q8 b1.Num.fmag.length c_b1_1, .bool b1.Den.fneg, .slice q9 b1.Den.fmag.length c_b1_3]) (ld_sub agg_43 rfl rfl rfl hS) <| ?_
 have hcall := c_exact_both q1e q0s q0t q0u q0v (hS.pull 2)
 refine o_cc call_27 (args2 rfl rfl) ((Calls.mono hcall (fun e w'' h => And.intro h.1 ((h.2.pull 2).pull 2)))) ?_
 rintro e w' ⟨rfl, hS⟩
 refine ⟨_, rfl, ?_⟩
 refine p (yl_neq rfl rfl) <| x_done <|
  x_cond_p (q1h ≠ 0) rfl (fun hc8 => ?_) (fun hc8 => ?_)
 ·replace hF := it_t hc8 hF
  refine x_seq <| x_region <| p (yl_assign rfl) <| x_done <| ?_
  have e_ := Option.some.inj (show some _ = some _ from hF); subst e_
  exact x_return ⟨_, ⟨_, _, rfl, rfl, rfl⟩, rfl, hS.drop.drop⟩
 ·replace hF := it_f hc8 hF
  refine x_skip <| x_seq <| ?_
  replace hF := bd_s hF; obtain ⟨q0a, q1f, hF⟩ := hF
  replace hF := bd_s hF; obtain ⟨q0b, q1g, hF⟩ := hF
  replace hF := bd_s hF; obtain ⟨q0e, q1d, hF⟩ := hF
  refine x_par (w0 := w0) [⟨[], [], [9], [], [], []⟩, ⟨[0], [0], [10], [0], [], []⟩, ⟨[], [], [11], [], [], []⟩, ⟨[2], [2], [12], [1], [], []⟩, ⟨[0, 1, 2, 3], [1, 3], [13], [2], [], [3]⟩, ⟨[], [], [14], [], [], []⟩, ⟨[5], [5], [15], [1], [], []⟩, ⟨[], [], [16], [], [], []⟩, ⟨[7], [7], [17], [0], [], []⟩, ⟨[0, 1, 2, 3, 4, 5, 6, 7, 8], [6, 8], [18], [2], [], [4]⟩, ⟨[0, 1, 2, 3, 4, 5, 6, 7, 8, 9], [4, 9], [19], [2, 3, 4], [], []⟩, ⟨[0, 1, 2, 3, 4, 5, 6, 7, 8, 9, 10], [10], [4], [], [], []⟩] [⟨none, none, []⟩, ⟨none, none, []⟩, ⟨none, none, []⟩, ⟨(some 4), none, [13]⟩, ⟨(some 9), none, [18]⟩] [4, 9, 10, 11, 12, 13, 14, 15, 16, 17, 18, 19] [0, 1, 2] [0, 1, 2, 3, 4] [0, 1, 2, 3, 4, 5, 6, 7, 8, 9, 10, 11] [fun Ep3 => Ep3 9 = .pointer (some ⟨b2, 0, none⟩), fun Ep3 => Ep3 10 = .agg #[.bool a0.Num.fneg, .slice q6 a0.Num.fmag.length c_a0_1], fun Ep3 => Ep3 11 = .pointer (some ⟨b3, 2, none⟩), fun Ep3 => Ep3 12 = .agg #[.bool b1.Den.fneg, .slice q9 b1.Den.fmag.length c_b1_3], fun Ep3 => Ep3 13 = .agg #[.bool q0a.fneg, .slice (adOf (partOf 1 (Ep3 13))) q0a.fmag.length (capOf (partOf 1 (Ep3 13)))], fun Ep3 => Ep3 14 = .pointer (some ⟨b3, 0, none⟩), fun Ep3 => Ep3 15 = .agg #[.bool b1.Num.fneg, .slice q8 b1.Num.fmag.length c_b1_1], fun Ep3 => Ep3 16 = .pointer (some ⟨b2, 2, none⟩), fun Ep3 => Ep3 17 = .agg #[.bool a0.Den.fneg, .slice q7 a0.Den.fmag.length c_a0_3], fun Ep3 => Ep3 18 = .agg #[.bool q0b.fneg, .slice (adOf (partOf 1 (Ep3 18))) q0b.fmag.length (capOf (partOf 1 (Ep3 18)))], fun Ep3 => Ep3 19 = .int .i64 q0e, fun Ep3 => Ep3 4 = .int .i64 q0e] [fun Ep3 => cells b2 43 [.bool a0.Num.fneg, .slice q6 a0.Num.fmag.length c_a0_1, .bool a0.Den.fneg, .slice q7 a0.Den.fmag.length c_a0_3], fun Ep3 => cells b3 43 [.bool b1.Num.fneg, .slice q8 b1.Num.fmag.length c_b1_1, .bool b1.Den.fneg, .slice q9 b1.Den.fmag.length c_b1_3], fun Ep3 => ro ρ, fun Ep3 => bunA (fun (q2 : Heap) => Le ρ q2 ∧ RdS (RpI .u32) q2 (adOf (partOf 1 (Ep3 13))) q0a.fmag.length (capOf (partOf 1 (Ep3 13))) q0a.fmag) (fun (q2 : Heap) => [roD ρ q2]), fun Ep3 => bunA (fun (q3 : Heap) => Le ρ q3 ∧ RdS (RpI .u32) q3 (adOf (partOf 1 (Ep3 18))) q0b.fmag.length (capOf (partOf 1 (Ep3 18))) q0b.fmag) (fun (q3 : Heap) => [roD ρ q3])] mixed (by kernel_rfl) (((hS.pull 2).pull 1).pull 2) ?_ ?_
  ·refine ⟨?_, ?_, ?_, ?_, ?_, ?_, ?_, ?_, ?_, ?_, ?_, ?_, trivial⟩
   ·intro Ep3 w l' hE3 hO3 hF_ hS
    refine p (yl_field0 fld_43_0 (hE3 2 rfl)) <| x_done <| ?_
    refine x_fin ⟨⟨_, rfl⟩, rfl, ?_⟩
    exact Eq.mp (by kernel_rfl) hS
   ·intro Ep3 w l' hE3 hO3 hF_ hS
    obtain ⟨q0g, -⟩ := hF_
    replace q0g : Ep3 9 = .pointer (some ⟨b2, 0, none⟩) := Eq.mp (by kernel_rfl) q0g
    replace hS : St w0 w (cells b2 43 [.bool a0.Num.fneg, .slice q6 a0.Num.fmag.length c_a0_1, .bool a0.Den.fneg, .slice q7 a0.Den.fmag.length c_a0_3] :: l') := Eq.mp (by kernel_rfl) hS
    refine pa (v := .agg #[.bool a0.Num.fneg, .slice q6 a0.Num.fmag.length c_a0_1]) (ld_sub agg_41 q0g rfl rfl hS) <| x_done <| ?_
    refine x_fin ⟨⟨_, rfl⟩, rfl, ?_⟩
    exact Eq.mp (by kernel_rfl) hS
   ·intro Ep3 w l' hE3 hO3 hF_ hS
    refine p (yl_field0 fld_43_1 (hE3 3 rfl)) <| x_done <| ?_
    refine x_fin ⟨⟨_, rfl⟩, rfl, ?_⟩
    exact Eq.mp (by kernel_rfl) hS
   ·intro Ep3 w l' hE3 hO3 hF_ hS
    obtain ⟨q0h, -⟩ := hF_
    replace q0h : Ep3 11 = .pointer (some ⟨b3, 2, none⟩) := Eq.mp (by kernel_rfl) q0h
    replace hS : St w0 w (cells b3 43 [.bool b1.Num.fneg, .slice q8 b1.Num.fmag.length c_b1_1, .bool b1.Den.fneg, .slice q9 b1.Den.fmag.length c_b1_3] :: l') := Eq.mp (by kernel_rfl) hS
    refine pa (v := .agg #[.bool b1.Den.fneg, .slice q9 b1.Den.fmag.length c_b1_3]) (ld_sub agg_41 q0h rfl rfl hS) <| x_done <| ?_
    refine x_fin ⟨⟨_, rfl⟩, rfl, ?_⟩
    exact Eq.mp (by kernel_rfl) hS
   ·intro Ep3 w l' hE3 hO3 hF_ hS
    obtain ⟨q0i, q0j, -⟩ := hF_
    replace q0i : Ep3 10 = .agg #[.bool a0.Num.fneg, .slice q6 a0.Num.fmag.length c_a0_1] := Eq.mp (by kernel_rfl) q0i
    replace q0j : Ep3 12 = .agg #[.bool b1.Den.fneg, .slice q9 b1.Den.fmag.length c_b1_3] := Eq.mp (by kernel_rfl) q0j
    replace hS : St w0 w (ro ρ :: l') := Eq.mp (by kernel_rfl) hS
    have hcall := c_exact_times q1f q0s q0v hS
    refine o_cc call_29 (args2 q0i q0j) hcall ?_
    rintro e w' ⟨q2, q0k, q1a, c_y0_ret_1_3_4, rfl, q14, q4, hS⟩
    refine ⟨_, rfl, ?_⟩
    have e_ := q4.n; subst e_
    refine x_done <| ?_
    refine x_fin ⟨⟨_, rfl⟩, rfl, ?_⟩
    replace hS := St.ro_split q14 hS
    replace hS := St.bun (Φ := (fun (q2 : Heap) => Le ρ q2 ∧ RdS (RpI .u32) q2 q0k q0a.fmag.length c_y0_ret_1_3_4 q0a.fmag)) (L := (fun (q2 : Heap) => [roD ρ q2])) q2 ⟨q14, q4⟩ (hS.pull 1)
    exact Eq.mp (by kernel_rfl) (hS.pull 1)
   ·intro Ep3 w l' hE3 hO3 hF_ hS
    refine p (yl_field0 fld_43_0 (hE3 3 rfl)) <| x_done <| ?_
    refine x_fin ⟨⟨_, rfl⟩, rfl, ?_⟩
    exact Eq.mp (by kernel_rfl) hS
   ·intro Ep3 w l' hE3 hO3 hF_ hS
    obtain ⟨q0l, -⟩ := hF_
    replace q0l : Ep3 14 = .pointer (some ⟨b3, 0, none⟩) := Eq.mp (by kernel_rfl) q0l
    replace hS : St w0 w (cells b3 43 [.bool b1.Num.fneg, .slice q8 b1.Num.fmag.length c_b1_1, .bool b1.Den.fneg, .slice q9 b1.Den.fmag.length c_b1_3] :: l') := Eq.mp (by kernel_rfl) hS
    refine pa (v := .agg #[.bool b1.Num.fneg, .slice q8 b1.Num.fmag.length c_b1_1]) (ld_sub agg_41 q0l rfl rfl hS) <| x_done <| ?_
    refine x_fin ⟨⟨_, rfl⟩, rfl, ?_⟩
    exact Eq.mp (by kernel_rfl) hS
   ·intro Ep3 w l' hE3 hO3 hF_ hS
    refine p (yl_field0 fld_43_1 (hE3 2 rfl)) <| x_done <| ?_
    refine x_fin ⟨⟨_, rfl⟩, rfl, ?_⟩
    exact Eq.mp (by kernel_rfl) hS
   ·intro Ep3 w l' hE3 hO3 hF_ hS
    obtain ⟨q0m, -⟩ := hF_
    replace q0m : Ep3 16 = .pointer (some ⟨b2, 2, none⟩) := Eq.mp (by kernel_rfl) q0m
    replace hS : St w0 w (cells b2 43 [.bool a0.Num.fneg, .slice q6 a0.Num.fmag.length c_a0_1, .bool a0.Den.fneg, .slice q7 a0.Den.fmag.length c_a0_3] :: l') := Eq.mp (by kernel_rfl) hS
    refine pa (v := .agg #[.bool a0.Den.fneg, .slice q7 a0.Den.fmag.length c_a0_3]) (ld_sub agg_41 q0m rfl rfl hS) <| x_done <| ?_
    refine x_fin ⟨⟨_, rfl⟩, rfl, ?_⟩
    exact Eq.mp (by kernel_rfl) hS
   ·intro Ep3 w l' hE3 hO3 hF_ hS
    obtain ⟨q0n, q0o, -⟩ := hF_
    replace q0n : Ep3 15 = .agg #[.bool b1.Num.fneg, .slice q8 b1.Num.fmag.length c_b1_1] := Eq.mp (by kernel_rfl) q0n
    replace q0o : Ep3 17 = .agg #[.bool a0.Den.fneg, .slice q7 a0.Den.fmag.length c_a0_3] := Eq.mp (by kernel_rfl) q0o
    replace hS : St w0 w (ro ρ :: l') := Eq.mp (by kernel_rfl) hS
    have hcall := c_exact_times q1g q0u q0t hS
    refine o_cc call_29 (args2 q0n q0o) hcall ?_
    rintro e w' ⟨q3, q0p, q1b, c_y0_ret_1_3_9, rfl, q15, q5, hS⟩
    refine ⟨_, rfl, ?_⟩
    have e_ := q5.n; subst e_
    refine x_done <| ?_
    refine x_fin ⟨⟨_, rfl⟩, rfl, ?_⟩
    replace hS := St.ro_split q15 hS
    replace hS := St.bun (Φ := (fun (q3 : Heap) => Le ρ q3 ∧ RdS (RpI .u32) q3 q0p q0b.fmag.length c_y0_ret_1_3_9 q0b.fmag)) (L := (fun (q3 : Heap) => [roD ρ q3])) q3 ⟨q15, q5⟩ (hS.pull 1)
    exact Eq.mp (by kernel_rfl) (hS.pull 1)
   ·intro Ep3 w l' hE3 hO3 hF_ hS
    obtain ⟨q0q, q0r, -⟩ := hF_
    replace q0q : Ep3 13 = .agg #[.bool q0a.fneg, .slice (adOf (partOf 1 (Ep3 13))) q0a.fmag.length (capOf (partOf 1 (Ep3 13)))] := Eq.mp (by kernel_rfl) q0q
    replace q0r : Ep3 18 = .agg #[.bool q0b.fneg, .slice (adOf (partOf 1 (Ep3 18))) q0b.fmag.length (capOf (partOf 1 (Ep3 18)))] := Eq.mp (by kernel_rfl) q0r
    replace hS : St w0 w (ro ρ :: bunA (fun (q2 : Heap) => Le ρ q2 ∧ RdS (RpI .u32) q2 (adOf (partOf 1 (Ep3 13))) q0a.fmag.length (capOf (partOf 1 (Ep3 13))) q0a.fmag) (fun (q2 : Heap) => [roD ρ q2]) :: bunA (fun (q3 : Heap) => Le ρ q3 ∧ RdS (RpI .u32) q3 (adOf (partOf 1 (Ep3 18))) q0b.fmag.length (capOf (partOf 1 (Ep3 18))) q0b.fmag) (fun (q3 : Heap) => [roD ρ q3]) :: l') := Eq.mp (by kernel_rfl) hS
    have q_ := St.unbun (hS.pull 1); obtain ⟨q2, ⟨q0c, q4⟩, hS⟩ := q_
    have q_ := St.ro_join (hS.pull 1) (Le.refl _) q0c; obtain ⟨q1i, q16, q17, hS, q0x⟩ := q_
    have q_ := St.unbun (hS.pull 1); obtain ⟨q3, ⟨q0d, q5⟩, hS⟩ := q_
    have q_ := St.ro_join (hS.pull 1) q16 q0d; obtain ⟨q1j, q18, q19, hS, q0y⟩ := q_
    have hcall := c_exact_Cmp q1d (q4.le (q17.trans q18)) (q5.le q19) hS
    refine o_cc call_28 (args2 q0q q0r) (hcall) ?_
    rintro e w' ⟨rfl, hS⟩
    refine ⟨_, rfl, ?_⟩
    refine x_done <| ?_
    refine x_fin ⟨⟨_, rfl⟩, rfl, ?_⟩
    replace hS := q0y hS
    replace hS := St.bun (Φ := (fun (q3 : Heap) => Le ρ q3 ∧ RdS (RpI .u32) q3 (adOf (partOf 1 (Ep3 18))) q0b.fmag.length (capOf (partOf 1 (Ep3 18))) q0b.fmag)) (L := (fun (q3 : Heap) => [roD ρ q3])) q3 ⟨q0d, q5⟩ (hS.pull 1)
    replace hS := q0x (hS.pull 1)
    replace hS := St.bun (Φ := (fun (q2 : Heap) => Le ρ q2 ∧ RdS (RpI .u32) q2 (adOf (partOf 1 (Ep3 13))) q0a.fmag.length (capOf (partOf 1 (Ep3 13))) q0a.fmag)) (L := (fun (q2 : Heap) => [roD ρ q2])) q2 ⟨q0c, q4⟩ (hS.pull 1)
    exact Eq.mp (by kernel_rfl) (((hS.pull 2).pull 1).pull 2)
   ·intro Ep3 w l' hE3 hO3 hF_ hS
    obtain ⟨q0f, -⟩ := hF_
    replace q0f : Ep3 19 = .int .i64 q0e := Eq.mp (by kernel_rfl) q0f
    refine p (v := .int .i64 q0e) (yl_assign q0f) <| x_done <| ?_
    refine x_fin ⟨⟨_, rfl⟩, rfl, ?_⟩
    exact Eq.mp (by kernel_rfl) hS
  intro Ep3 w' hE3 hF_ hS
  obtain ⟨q0g, q0i, q0h, q0j, q0q, q0l, q0n, q0m, q0o, q0r, q0f, q0z, -⟩ := hF_
  replace q0g : Ep3 9 = .pointer (some ⟨b2, 0, none⟩) := Eq.mp (by kernel_rfl) q0g
  replace q0i : Ep3 10 = .agg #[.bool a0.Num.fneg, .slice q6 a0.Num.fmag.length c_a0_1] := Eq.mp (by kernel_rfl) q0i
  replace q0h : Ep3 11 = .pointer (some ⟨b3, 2, none⟩) := Eq.mp (by kernel_rfl) q0h
  replace q0j : Ep3 12 = .agg #[.bool b1.Den.fneg, .slice q9 b1.Den.fmag.length c_b1_3] := Eq.mp (by kernel_rfl) q0j
  replace q0q : Ep3 13 = .agg #[.bool q0a.fneg, .slice (adOf (partOf 1 (Ep3 13))) q0a.fmag.length (capOf (partOf 1 (Ep3 13)))] := Eq.mp (by kernel_rfl) q0q
  replace q0l : Ep3 14 = .pointer (some ⟨b3, 0, none⟩) := Eq.mp (by kernel_rfl) q0l
  replace q0n : Ep3 15 = .agg #[.bool b1.Num.fneg, .slice q8 b1.Num.fmag.length c_b1_1] := Eq.mp (by kernel_rfl) q0n
  replace q0m : Ep3 16 = .pointer (some ⟨b2, 2, none⟩) := Eq.mp (by kernel_rfl) q0m
  replace q0o : Ep3 17 = .agg #[.bool a0.Den.fneg, .slice q7 a0.Den.fmag.length c_a0_3] := Eq.mp (by kernel_rfl) q0o
  replace q0r : Ep3 18 = .agg #[.bool q0b.fneg, .slice (adOf (partOf 1 (Ep3 18))) q0b.fmag.length (capOf (partOf 1 (Ep3 18)))] := Eq.mp (by kernel_rfl) q0r
  replace q0f : Ep3 19 = .int .i64 q0e := Eq.mp (by kernel_rfl) q0f
  replace q0z : Ep3 4 = .int .i64 q0e := Eq.mp (by kernel_rfl) q0z
  replace hS : St w0 w' (cells b2 43 [.bool a0.Num.fneg, .slice q6 a0.Num.fmag.length c_a0_1, .bool a0.Den.fneg, .slice q7 a0.Den.fmag.length c_a0_3] :: cells b3 43 [.bool b1.Num.fneg, .slice q8 b1.Num.fmag.length c_b1_1, .bool b1.Den.fneg, .slice q9 b1.Den.fmag.length c_b1_3] :: ro ρ :: bunA (fun (q2 : Heap) => Le ρ q2 ∧ RdS (RpI .u32) q2 (adOf (partOf 1 (Ep3 13))) q0a.fmag.length (capOf (partOf 1 (Ep3 13))) q0a.fmag) (fun (q2 : Heap) => [roD ρ q2]) :: bunA (fun (q3 : Heap) => Le ρ q3 ∧ RdS (RpI .u32) q3 (adOf (partOf 1 (Ep3 18))) q0b.fmag.length (capOf (partOf 1 (Ep3 18))) q0b.fmag) (fun (q3 : Heap) => [roD ρ q3]) :: (l)) := Eq.mp (by kernel_rfl) hS
  have q_ := St.unbun (hS.pull 3); obtain ⟨q2, ⟨q0c, q4⟩, hS⟩ := q_
  have q_ := St.ro_join (hS.pull 3) (Le.refl _) q0c; obtain ⟨q1o, q0w, q1m, hS, q1k⟩ := q_
  have q_ := St.unbun (hS.pull 3); obtain ⟨q3, ⟨q0d, q5⟩, hS⟩ := q_
  have q_ := St.ro_join (hS.pull 1) q0w q0d; obtain ⟨q1p, q1c, q1n, hS, q1l⟩ := q_
  have e_ := Option.some.inj (show some _ = some _ from hF); subst e_
  exact x_return ⟨_, ⟨_, _, rfl, q0z, rfl⟩, rfl, (ro_back0 (q0w.trans q1c) (((hS.pull 1).drop.pull 1).drop))⟩
attribute [irreducible] P_exact_Compare

def P_maskkeep4_PlaceMirrors_L11 (q4 : T_place_Pull) : (Int × List T_floor_Point) → Option ((Int × List T_floor_Point) ⊕ List T_floor_Point) := fun (q2, q3) =>
 if q2 < (q4.At.length : Int) then
  ck (inb q2 q4.At.length) <|
  lv (gt q4.At q2) fun q5 =>
  ar (0 - q5.X) fun x57 =>
  lv (q3 ++ [(T_floor_Point.mk q5.Y x57)]) fun q6 =>
  ck (apOk 16 q6.length) <|
  ar (q2 + 1) fun x62 =>
  some (Sum.inl (x62, q6))
 else
  some (Sum.inr q3)
def P_maskkeep4_PlaceMirrors_L7 (q5 : (List T_place_Pull × Int)) : (List T_place_Pull × Int) → Option ((List T_place_Pull × Int) ⊕ List T_place_Pull) := fun (q3, q2) =>
 if q2 < (q5.1.length : Int) then
  ck (inb q2 q5.1.length) <|
  lv (gt q5.1 q2) fun q6 =>
  bd (
   lp (P_maskkeep4_PlaceMirrors_L11 q6) fuel (0, [])) fun q4 =>
  lv (q3 ++ [(T_place_Pull.mk q6.Weight q6.Cells q4)]) fun q7 =>
  ck (apOk 56 q7.length) <|
  ar (q2 + 1) fun x67 =>
  some (Sum.inl (q7, x67))
 else
  some (Sum.inr q3)
def P_maskkeep4_PlaceMirrors_L21 (q4 : (List T_place_Spot × Int)) (q3 : (List T_place_Spot × Int)) : Int → Option (Int ⊕ (Unit ⊕ Bool)) := fun q2 =>
 if q2 < (q4.1.length : Int) then
  bd (P_exact_Whole 0) fun q8 =>
  ck (inb q2 q4.1.length) <|
  lv (gt q4.1 q2) fun q9 =>
  bd (P_exact_Diff q8 q9.X) fun q0a =>
  ck (inb q2 q3.1.length) <|
  lv (gt q3.1 q2) fun q0b =>
  ck (inb q2 q4.1.length) <|
  lv (gt q4.1 q2) fun q0c =>
  bd (P_exact_Compare q0b.X q0c.Y) fun q5 =>
  ck ((!(decide (q5 ≠ 0))) = true → inb q2 q3.1.length) <|
  lv (gt q3.1 q2) fun q6 =>
  bd (gd (!(decide (q5 ≠ 0))) (P_exact_Compare q6.Y q0a.1)) fun q7 =>
  lv ((decide (q5 ≠ 0)) || (decide (q7 ≠ 0))) fun x132 =>
  if x132 = true then
   some (Sum.inr (Sum.inr false))
  else
   ar (q2 + 1) fun x133 =>
   some (Sum.inl x133)
 else
  some (Sum.inr (Sum.inl ()))
def P_maskkeep4_PlaceMirrors (l_0 : List Int) : Option Bool :=
 bd (P_maskmake_Stream_Range (T_maskmake_Stream.mk l_0 0) 1 8) fun q2 =>
 bd (P_maskkeep4_pulls (T_maskmake_Stream.mk l_0 q2.2) q2.1) fun q5 =>
 bd (P_place_Solve q2.1 q5.1) fun q4 =>
 bd (
  lp (P_maskkeep4_PlaceMirrors_L7 q5) fuel ([], 0)) fun q6 =>
 bd (P_place_Solve q2.1 q6) fun q3 =>
 bd (P_maskkeep4_places) fun q7 =>
 lv ((!q7) || (decide (q4.2 ≠ 0))) fun x79 =>
 lv (x79 || (decide (q3.2 ≠ 0))) fun x83 =>
 lv (x83 || (decide ((q4.1.length : Int) ≠ q2.1))) fun x89 =>
 lv (x89 || (decide ((q3.1.length : Int) ≠ q2.1))) fun x95 =>
 if x95 = true then
  some false
 else
  bs (
   lp (P_maskkeep4_PlaceMirrors_L21 q4 q3) fuel 0) (fun y => some y) fun _ =>
  some true
set_option maxHeartbeats 4000000 in
set_option maxRecDepth 100000 in
theorem c_maskkeep4_PlaceMirrors {w0 w : World} {l : List Assn} {ρ : Heap} {q26 : Option Addr} {q48 : Nat} {c_l_0 : Nat} {l_0 : List Int} {r : Bool} (hF : P_maskkeep4_PlaceMirrors l_0 = some r) (q3h : RdS (RpI .i64) ρ q26 q48 c_l_0 l_0) (hS : St w0 w (ro ρ :: l)) :
  Calls Try.prog 4 #[.slice q26 q48 c_l_0] w fun e w' => e = .returned (.bool r) ∧ St w0 w' (ro ρ :: l) := by
 have e_ := q3h.n; subst e_
 refine enterC Try.func4 rfl 134 rfl (by simp) ?_
 refine x_seq <| x_region <| p (yl_assign rfl) <| x_done <|
  x_seq <| x_region <| p (yl_move rfl) <| p (v := .agg #[.slice q26 l_0.length c_l_0, .int .i64 0]) (yl_build bld_25 bldf_25 (parts_eq (pt (va := .slice q26 l_0.length c_l_0) rfl pt0)) (by kernel_rfl)) <| ?_
 refine o_box (cs := [.slice q26 l_0.length c_l_0, .int .i64 0]) rfl rfl hS (fun b21 w' hS => ?_)
 replace hF := bd_s hF; obtain ⟨q1m, q5x, hF⟩ := hF
 refine p (yl_assign rfl) <| x_done <| x_seq <| x_region <|
  p (yl_move rfl) <| ?_
 have hcall := c_maskmake_Stream_Range q5x q3h ((hS.pull 1).pull 1)
 refine o_cc call_6 (args3 rfl rfl rfl) hcall ?_
 rintro e w' ⟨rfl, hS⟩
 refine ⟨_, rfl, ?_⟩
 replace hF := bd_s hF; obtain ⟨q1n, q5y, hF⟩ := hF
 refine p (yl_assign rfl) <| x_done <| x_seq <| x_region <|
  p (yl_move rfl) <| p (yl_move rfl) <| ?_
 have hcall := c_maskkeep4_pulls q5y q3h ((hS.pull 1).pull 1)
 refine o_cc call_7 (args2 rfl rfl) hcall ?_
 rintro e w' ⟨q75, q1b, q59, c_y0_ret_3_2, q57, rfl, q2i, q1o, hS⟩
 refine ⟨_, rfl, ?_⟩
 have e_ := St.vec_n hS q1o; subst e_
 refine p (yl_assign rfl) <| x_done <| x_seq <| x_region <|
  p (yl_move rfl) <| p (yl_move rfl) <| ?_
 have q_ := St.vec_fz ((hS.pull 2).pull 1) q1o; obtain ⟨q7d, q2b, q3i, hS⟩ := q_
 replace hF := bd_s hF; obtain ⟨q6, q5z, hF⟩ := hF
 have hcall := c_place_Solve q5z q3i hS
 refine o_cc call_8 (args2 rfl rfl) hcall ?_
 rintro e w' ⟨q0s, q3, q5a, c_y0_ret_4_2, q0c, rfl, q18, q0o, hS⟩
 refine ⟨_, rfl, ?_⟩
 have e_ := St.vec_n hS q0o; subst e_
 refine p (yl_move rfl) <| p (yl_extract rfl rfl) <| p (yl_extract rfl rfl) <| p (yl_assign rfl) <|
  p (yl_assign rfl) <| x_done <| x_seq <| x_region <|
  p (yl_assign rfl) <| x_done <| x_seq <| x_seq <|
  x_region <| p (yl_move rfl) <| p (yl_len_slice usl_27 rfl) <| p (yl_move rfl) <|
  x_done <| ?_
 replace hF := bd_s hF; obtain ⟨oL7, hLL7, hF⟩ := hF
 refine x_join (fun E w => ∃ (q3j : Heap) (q2c : Option Addr) (q1p : Nat) (c_q8_L7 : Nat) (q20 : List Value) (q3k : List T_place_Pull), q3k = oL7 ∧ Le q0s q3j ∧ E 4 = .int .i64 q1m.1 ∧ E 6 = .slice q3 q6.1.length c_y0_ret_4_2 ∧ E 7 = .int .i64 q6.2 ∧ E 8 = .slice q2c q1p c_q8_L7 ∧ RepL R_place_Pull q3j q3k q20 ∧ St w0 w (vec 45 R_place_Spot.sz (.slice q3 q6.1.length c_y0_ret_4_2) q6.1.length q0c :: vec 36 R_place_Pull.sz (.slice q2c q1p c_q8_L7) q1p q20 :: ro q3j :: l)) ?_ ?_
 ·refine x_block ?_
  replace hS := St.vec_nil hS 36 R_place_Pull.sz
  have q2f : RepL R_place_Pull q0s [] [] := rfl
  refine x_loop (fun k_ E w => ∃ (q0y : Heap) (q0p : Option Addr) (q1j : Nat) (c_q8_L7h : Nat) (q0x : List Value) (q0q : List T_place_Pull) (q1a : Int), lp (P_maskkeep4_PlaceMirrors_L7 q1n) k_ (q0q, q1a) = some oL7 ∧ Le q0s q0y ∧ E 4 = .int .i64 q1m.1 ∧ E 6 = .slice q3 q6.1.length c_y0_ret_4_2 ∧ E 7 = .int .i64 q6.2 ∧ E 8 = .slice q0p q1j c_q8_L7h ∧ E 33 = .slice q1b q1n.1.length c_y0_ret_3_2 ∧ E 34 = .int .i64 (q1n.1.length : Int) ∧ E 35 = .int .i64 q1a ∧ RepL R_place_Pull q0y q0q q0x ∧ St w0 w (vec 45 R_place_Spot.sz (.slice q3 q6.1.length c_y0_ret_4_2) q6.1.length q0c :: vec 36 R_place_Pull.sz (.slice q0p q1j c_q8_L7h) q1j q0x :: ro q0y :: l)) fuel ⟨q0s, none, 0, 0, [], [], 0, hLL7, (Le.refl _), rfl, rfl, rfl, rfl, rfl, rfl, rfl, q2f, ((((hS.pull 3).drop.pull 2).pull 1).pull 2)⟩ ?_
  rintro kL7 E w ⟨q0y, q0p, q1j, c_q8_L7h, q0x, q0q, q1a, hLL7, q0v, q3o, q3p, q3q, q3r, q31, q32, q2d, q21, hS⟩
  have e_ := St.vec_n (hS.pull 1) q21; subst e_
  replace hLL7 := lp_s hLL7; obtain ⟨kL7, obL7, rfl, hFL7, hLL7⟩ := hLL7
  refine x_seq <| x_region <| p (yl_lss q2d q32) <| x_done <|
   x_seq <|
   x_cond_p (q1a < (q1n.1.length : Int)) rfl (fun hc36 => ?_) (fun hc36 => ?_)
  ·replace hFL7 := it_t hc36 hFL7
   replace hFL7 := ck_s hFL7; obtain ⟨q49, hFL7⟩ := hFL7
   replace hFL7 := lv_s hFL7; obtain ⟨q0b, q60, hFL7⟩ := hFL7
   have q_ := q3i.get q49; obtain ⟨q7e, q4a, q61⟩ := q_
   rw [← q60] at q4a
   obtain ⟨q0j, q76, q0k, q2j, q77, q2k, rfl, q3s, q2l⟩ := q4a
   have e_ := q3s.n; subst e_
   have e_ := q2l.n; subst e_
   refine x_skip <| x_seq <| x_block <| x_seq <|
    x_region <| p (yix_f sl_27 q31 q2d (q3i.le (q18.trans q0v)) q49) <| pa (v := .agg #[.int .i64 q0b.Weight, .slice q0j q0b.Cells.length q0k, .slice q2j q0b.At.length q2k]) (at_loadAgg agg_36 rfl rfl (Elt.every (Elt.le q61 (q18.trans q0v)) (hS.pull 2))) <| ?_
   refine o_alloc zero_36 hS (fun b10 w' hS => ?_)
   refine o_storeAgg (news := [.int .i64 q0b.Weight, .slice q0j q0b.Cells.length q0k, .slice q2j q0b.At.length q2k]) agg_36 rfl rfl rfl (by simp [over_length]) hS (fun w' hS => ?_)
   refine x_done <| x_seq <| x_region <| p (yl_field0 fld_36_0 rfl) <|
    pa (at_load one_3 rfl (hS.cell rfl)) <| p (yl_field0 fld_36_1 rfl) <| pa (at_load one_22 rfl (hS.cell rfl)) <| p (v := .agg #[.int .i64 q0b.Weight, .slice q0j q0b.Cells.length q0k, .slice none 0 0]) (yl_build bld_36 bldf_36 (parts_eq (pt (va := .int .i64 q0b.Weight) rfl (pt (va := .slice q0j q0b.Cells.length q0k) rfl pt0))) (by kernel_rfl)) <| ?_
   refine o_alloc zero_36 hS (fun b11 w' hS => ?_)
   refine o_storeAgg (news := [.int .i64 q0b.Weight, .slice q0j q0b.Cells.length q0k, .slice none 0 0]) agg_36 rfl rfl rfl (by simp [over_length]) hS (fun w' hS => ?_)
   refine x_done <| x_seq <| x_seq <| x_region <|
    p (yl_field0 fld_36_2 rfl) <| pa (at_load one_34 rfl ((hS.pull 1).cell rfl)) <| p (yl_len_slice usl_34 rfl) <| p (yl_move rfl) <|
    x_done <| ?_
   replace hFL7 := bd_s hFL7; obtain ⟨oL11, hLL11, hFL7⟩ := hFL7
   refine x_join (fun E w => ∃ (q0g : Option Addr) (q16 : Nat) (c_b11_2_L11 : Nat) (q1c : List Value) (q0h : List T_floor_Point), q0h = oL11 ∧ E 4 = .int .i64 q1m.1 ∧ E 6 = .slice q3 q6.1.length c_y0_ret_4_2 ∧ E 7 = .int .i64 q6.2 ∧ E 8 = .slice q0p q0q.length c_q8_L7h ∧ E 11 = .pointer (some ⟨b11, 0, none⟩) ∧ E 33 = .slice q1b q1n.1.length c_y0_ret_3_2 ∧ E 34 = .int .i64 (q1n.1.length : Int) ∧ E 35 = .int .i64 q1a ∧ RepL R_floor_Point q0y q0h q1c ∧ St w0 w (vec 45 R_place_Spot.sz (.slice q3 q6.1.length c_y0_ret_4_2) q6.1.length q0c :: vec 36 R_place_Pull.sz (.slice q0p q0q.length c_q8_L7h) q0q.length q0x :: cells b11 36 [.int .i64 q0b.Weight, .slice q0j q0b.Cells.length q0k, .slice q0g q16 c_b11_2_L11] :: vec 38 R_floor_Point.sz (.slice q0g q16 c_b11_2_L11) q16 q1c :: ro q0y :: l)) ?_ ?_
   ·refine x_block ?_
    replace hS := St.vec_nil hS 38 R_floor_Point.sz
    have q1y : RepL R_floor_Point q0y [] [] := rfl
    refine x_loop (fun k_ E w => ∃ (q0z : Option Addr) (q10 : Nat) (c_b11_2_L11h : Nat) (q0t : List Value) (q1k : Int) (q11 : List T_floor_Point), lp (P_maskkeep4_PlaceMirrors_L11 q0b) k_ (q1k, q11) = some oL11 ∧ E 4 = .int .i64 q1m.1 ∧ E 6 = .slice q3 q6.1.length c_y0_ret_4_2 ∧ E 7 = .int .i64 q6.2 ∧ E 8 = .slice q0p q0q.length c_q8_L7h ∧ E 11 = .pointer (some ⟨b11, 0, none⟩) ∧ E 33 = .slice q1b q1n.1.length c_y0_ret_3_2 ∧ E 34 = .int .i64 (q1n.1.length : Int) ∧ E 35 = .int .i64 q1a ∧ E 45 = .slice q2j q0b.At.length q2k ∧ E 46 = .int .i64 (q0b.At.length : Int) ∧ E 47 = .int .i64 q1k ∧ RepL R_floor_Point q0y q11 q0t ∧ St w0 w (vec 45 R_place_Spot.sz (.slice q3 q6.1.length c_y0_ret_4_2) q6.1.length q0c :: vec 36 R_place_Pull.sz (.slice q0p q0q.length c_q8_L7h) q0q.length q0x :: cells b11 36 [.int .i64 q0b.Weight, .slice q0j q0b.Cells.length q0k, .slice q0z q10 c_b11_2_L11h] :: vec 38 R_floor_Point.sz (.slice q0z q10 c_b11_2_L11h) q10 q0t :: ro q0y :: l)) fuel ⟨none, 0, 0, [], 0, [], hLL11, q3o, q3p, q3q, q3r, rfl, q31, q32, q2d, rfl, rfl, rfl, q1y, ((((((hS.pull 2).drop.pull 4).pull 1).pull 2).pull 4).pull 4)⟩ ?_
    rintro kL11 E w ⟨q0z, q10, c_b11_2_L11h, q0t, q1k, q11, hLL11, q33, q34, q35, q36, q1l, q2m, q2n, q2o, q2p, q2q, q22, q1d, hS⟩
    have e_ := St.vec_n (hS.pull 3) q1d; subst e_
    replace hLL11 := lp_s hLL11; obtain ⟨kL11, obL11, rfl, hFL11, hLL11⟩ := hLL11
    refine x_seq <| x_region <| p (yl_lss q22 q2q) <| x_done <|
     x_seq <|
     x_cond_p (q1k < (q0b.At.length : Int)) rfl (fun hc48 => ?_) (fun hc48 => ?_)
    ·replace hFL11 := it_t hc48 hFL11
     replace hFL11 := ck_s hFL11; obtain ⟨q3t, hFL11⟩ := hFL11
     replace hFL11 := lv_s hFL11; obtain ⟨q12, q5b, hFL11⟩ := hFL11
     have q_ := q2l.get q3t; obtain ⟨q78, q3u, q5c⟩ := q_
     rw [← q5b] at q3u
     have e_ := q3u; subst e_
     refine x_skip <| x_seq <| x_block <| x_seq <|
      x_region <| p (yix_f sl_34 q2p q22 (q2l.le (q18.trans q0v)) q3t) <| pa (v := .agg #[.int .i64 q12.X, .int .i64 q12.Y]) (at_loadAgg agg_38 rfl rfl (Elt.every (Elt.le q5c (q18.trans q0v)) (hS.pull 4))) <| ?_
     refine o_alloc zero_38 hS (fun b13 w' hS => ?_)
     refine o_storeAgg (news := [.int .i64 q12.X, .int .i64 q12.Y]) agg_38 rfl rfl rfl (by simp [over_length]) hS (fun w' hS => ?_)
     replace hFL11 := ar_s hFL11; obtain ⟨x57, hx57, hFL11⟩ := hFL11
     refine x_done <| x_region <| p (yl_field0 fld_36_2 q1l) <| pa (at_load one_34 rfl ((hS.pull 3).cell rfl)) <|
      p (yl_field0 fld_38_1 rfl) <| pa (at_load one_3 rfl (hS.cell rfl)) <| p (yl_field0 fld_38_0 rfl) <| pa (at_load one_3 rfl (hS.cell rfl)) <|
      p (yneg rfl hx57) <| p (v := .agg #[.int .i64 q12.Y, .int .i64 x57]) (yl_build bld_38 bldf_38 (parts_eq (pt (va := .int .i64 q12.Y) rfl (pt (va := .int .i64 x57) rfl pt0))) (by kernel_rfl)) <| ?_
     refine o_buildSlice (vs := [.agg #[.int .i64 q12.Y, .int .i64 x57]]) (cs := [.int .i64 q12.Y, .int .i64 x57]) sl_34 zero_38 (parts_eq (pt (va := .agg #[.int .i64 q12.Y, .int .i64 x57]) rfl pt0)) rfl (by intro v hv; simp only [List.mem_cons, List.not_mem_nil, or_false] at hv; first | (subst hv; rfl) | (rcases hv with rfl <;> rfl)) (by decide) rfl hS (fun b59 w' hS => ?_)
     replace hFL11 := lv_s hFL11; obtain ⟨q3l, q5d, hFL11⟩ := hFL11
     replace hFL11 := ck_s hFL11; obtain ⟨q5e, hFL11⟩ := hFL11
     refine o_ap sl_34 zero_38 rfl (by decide) rfl rfl (hS.pull 5) q1d (src_blk usl_34 hS rfl rfl) (RepL.cons (R := R_floor_Point) (ρ := q0y) (x := (T_floor_Point.mk q12.Y x57)) (cs := [.int .i64 q12.Y, .int .i64 x57]) rfl RepL.nil) q5d q5e (fun A60 c60 cs60 w' hr60 hS => ?_)
     refine p (yl_field0 fld_36_2 q1l) <| ?_
     refine o_store1 (v := .slice A60 q3l.length c60) one_34 rfl rfl rfl rfl (hS.pull 5) (fun w' hS => ?_)
     replace hFL11 := ar_s hFL11; obtain ⟨x62, hx62, hFL11⟩ := hFL11
     refine x_done <| x_blk <| x_region <| p (yadd q22 rfl hx62) <|
      p (yl_move rfl) <| x_done <| ?_
     have e_ := Option.some.inj (show some _ = some _ from hFL11); subst e_
     exact x_inv ⟨kL11, Nat.lt_succ_self _, A60, q3l.length, c60, cs60, x62, q3l, hLL11, q33, q34, q35, q36, q1l, q2m, q2n, q2o, q2p, q2q, rfl, hr60, (((((((hS.pull 2).drop.pull 2).drop.pull 4).pull 2).pull 2).pull 4).pull 4)⟩
    ·replace hFL11 := it_f hc48 hFL11
     refine x_exitTo _ rfl <| ?_
     have e_ := Option.some.inj (show some _ = some _ from hFL11); subst e_
     exact x_inv ⟨q0z, q11.length, c_b11_2_L11h, q0t, q11, hLL11, q33, q34, q35, q36, q1l, q2m, q2n, q2o, q1d, (((((hS.pull 4).pull 4).pull 4).pull 4).pull 4)⟩
   rintro E w ⟨q0g, q16, c_b11_2_L11, q1c, q0h, rfl, q5f, q5g, q5h, q5i, q4h, q4i, q4j, q4k, q1z, hS⟩
   have e_ := St.vec_n (hS.pull 3) q1z; subst e_
   refine x_region <| p (yl_move q5i) <| pa (v := .agg #[.int .i64 q0b.Weight, .slice q0j q0b.Cells.length q0k, .slice q0g q0h.length c_b11_2_L11]) (ld_sub agg_36 q4h rfl rfl (hS.pull 2)) <| ?_
   have q_ := St.vec_fz ((hS.pull 4).pull 4) q1z; obtain ⟨q3v, q23, q5j, hS⟩ := q_
   refine o_buildSlice (vs := [.agg #[.int .i64 q0b.Weight, .slice q0j q0b.Cells.length q0k, .slice q0g q0h.length c_b11_2_L11]]) (cs := [.int .i64 q0b.Weight, .slice q0j q0b.Cells.length q0k, .slice q0g q0h.length c_b11_2_L11]) sl_27 zero_36 (parts_eq (pt (va := .agg #[.int .i64 q0b.Weight, .slice q0j q0b.Cells.length q0k, .slice q0g q0h.length c_b11_2_L11]) rfl pt0)) rfl (by intro v hv; simp only [List.mem_cons, List.not_mem_nil, or_false] at hv; first | (subst hv; rfl) | (rcases hv with rfl <;> rfl)) (by decide) rfl hS (fun b65 w' hS => ?_)
   replace hFL7 := lv_s hFL7; obtain ⟨q4b, q5k, hFL7⟩ := hFL7
   replace hFL7 := ck_s hFL7; obtain ⟨q5l, hFL7⟩ := hFL7
   refine o_ap sl_27 zero_36 rfl (by decide) rfl rfl (hS.pull 3) (q21.le q23) (src_blk usl_27 hS rfl rfl) (RepL.cons (R := R_place_Pull) (ρ := q3v) (x := (T_place_Pull.mk q0b.Weight q0b.Cells q0h)) (cs := [.int .i64 q0b.Weight, .slice q0j q0b.Cells.length q0k, .slice q0g q0h.length c_b11_2_L11]) ⟨_, _, _, _, _, _, rfl, (q3s.le ((q18.trans q0v).trans q23)), q5j⟩ RepL.nil) q5k q5l (fun A66 c66 cs66 w' hr66 hS => ?_)
   replace hFL7 := ar_s hFL7; obtain ⟨x67, hx67, hFL7⟩ := hFL7
   refine p (yl_assign rfl) <| x_done <| x_blk <| x_region <|
    p (yadd q4k rfl hx67) <| p (yl_move rfl) <| x_done <| ?_
   have e_ := Option.some.inj (show some _ = some _ from hFL7); subst e_
   exact x_inv ⟨kL7, Nat.lt_succ_self _, q3v, A66, q4b.length, c66, cs66, q4b, x67, hLL7, (q0v.trans q23), q5f, q5g, q5h, rfl, q4i, q4j, rfl, hr66, (((((hS.pull 1).drop.pull 3).drop.pull 1).pull 1).pull 2)⟩
  ·replace hFL7 := it_f hc36 hFL7
   refine x_exitTo _ rfl <| ?_
   have e_ := Option.some.inj (show some _ = some _ from hFL7); subst e_
   exact x_inv ⟨q0y, q0p, q0q.length, c_q8_L7h, q0x, q0q, hLL7, q0v, q3o, q3p, q3q, q3r, q21, (((hS.pull 2).pull 2).pull 2)⟩
 rintro E w ⟨q3j, q2c, q1p, c_q8_L7, q20, q3k, rfl, q14, q3m, q3n, q62, q63, q37, hS⟩
 have e_ := St.vec_n (hS.pull 1) q37; subst e_
 refine x_seq <| x_region <| p (yl_move q3m) <| p (yl_move q63) <| ?_
 have q_ := St.vec_fz ((hS.pull 2).pull 2) q37; obtain ⟨q79, q0w, q5m, hS⟩ := q_
 replace hF := bd_s hF; obtain ⟨q0u, q5n, hF⟩ := hF
 have hcall := c_place_Solve q5n q5m hS
 refine o_cc call_8 (args2 rfl rfl) hcall ?_
 rintro e w' ⟨q0a, q0f, q58, c_y0_ret_17_2, q1i, rfl, q15, q0l, hS⟩
 refine ⟨_, rfl, ?_⟩
 have e_ := St.vec_n hS q0l; subst e_
 replace hF := bd_s hF; obtain ⟨q4c, q5o, hF⟩ := hF
 refine p (yl_move rfl) <| p (yl_extract rfl rfl) <| p (yl_extract rfl rfl) <| p (yl_assign rfl) <|
  p (yl_assign rfl) <| x_done <| x_seq <| x_seq <|
  x_region <| ?_
 have hcall := c_maskkeep4_places q5o  (hS.pull 1)
 refine o_cc call_9 args0 ((Calls.mono hcall (fun e w'' h => And.intro h.1 (((h.2.pull 2).pull 1).pull 2)))) ?_
 rintro e w' ⟨rfl, hS⟩
 refine ⟨_, rfl, ?_⟩
 replace hF := lv_s hF; obtain ⟨x79, hx79, hF⟩ := hF
 replace hF := lv_s hF; obtain ⟨x83, hx83, hF⟩ := hF
 replace hF := lv_s hF; obtain ⟨x89, hx89, hF⟩ := hF
 replace hF := lv_s hF; obtain ⟨x95, hx95, hF⟩ := hF
 refine p (yl_not rfl) <| p (yl_move rfl) <| pg (v := .int .i64 q6.2) 76 (c := !(!q4c)) (says_f _) (fun hq => Yl.at (yl_move q62)) <| pg (v := .bool (decide (q6.2 ≠ 0))) 76 (c := !(!q4c)) (says_f _) (fun hq => Yl.at (yl_neq (cv hq) rfl)) <|
  p (yor' rfl rfl (fun hc => (cv (t_not hc))) hx79) <| p (yl_move rfl) <| pg (v := .int .i64 q0u.2) 80 (c := !x79) (says_f _) (fun hq => Yl.at (yl_move rfl)) <| pg (v := .bool (decide (q0u.2 ≠ 0))) 80 (c := !x79) (says_f _) (fun hq => Yl.at (yl_neq (cv hq) rfl)) <|
  p (yor' rfl rfl (fun hc => (cv (t_not hc))) hx83) <| p (yl_move rfl) <| pg (v := .slice q3 q6.1.length c_y0_ret_4_2) 84 (c := !x83) (says_f _) (fun hq => Yl.at (yl_move q3n)) <| pg (v := .int .i64 (q6.1.length : Int)) 84 (c := !x83) (says_f _) (fun hq => Yl.at (yl_len_slice usl_29 (cv hq))) <|
  pg (v := .int .i64 q1m.1) 84 (c := !x83) (says_f _) (fun hq => Yl.at (yl_move q3m)) <| pg (v := .bool (decide ((q6.1.length : Int) ≠ q1m.1))) 84 (c := !x83) (says_f _) (fun hq => Yl.at (yl_neq (cv hq) (cv hq))) <| p (yor' rfl rfl (fun hc => (cv (t_not hc))) hx89) <| p (yl_move rfl) <|
  pg (v := .slice q0f q0u.1.length c_y0_ret_17_2) 90 (c := !x89) (says_f _) (fun hq => Yl.at (yl_move rfl)) <| pg (v := .int .i64 (q0u.1.length : Int)) 90 (c := !x89) (says_f _) (fun hq => Yl.at (yl_len_slice usl_29 (cv hq))) <| pg (v := .int .i64 q1m.1) 90 (c := !x89) (says_f _) (fun hq => Yl.at (yl_move q3m)) <| pg (v := .bool (decide ((q0u.1.length : Int) ≠ q1m.1))) 90 (c := !x89) (says_f _) (fun hq => Yl.at (yl_neq (cv hq) (cv hq))) <|
  p (yor' rfl rfl (fun hc => (cv (t_not hc))) hx95) <| x_done <|
  x_cond (t := x95) rfl (fun hc95 => ?_) (fun hc95 => ?_)
 ·replace hF := it_t hc95 hF
  refine x_seq <| x_region <| p (yl_assign rfl) <| x_done <| ?_
  have e_ := Option.some.inj (show some _ = some _ from hF); subst e_
  exact x_return ⟨_, ⟨_, _, rfl, rfl, rfl⟩, rfl, (ro_back0 (((((q2i.trans q2b).trans q18).trans q14).trans q0w).trans q15) ((hS.drop.pull 1).drop))⟩
 ·replace hF := it_bf hc95 hF
  refine x_skip <| x_seq <| x_seq <| x_region <|
   p (yl_move q3n) <| p (yl_len_slice usl_29 rfl) <| p (yl_move rfl) <| x_done <| ?_
  replace hF := bs_s hF; obtain ⟨oL21, hLL21, hF⟩ := hF
  refine x_join (fun E w => (Sum.inl (())) = oL21 ∧ St w0 w (ro q0a :: l)) ?_ ?_
  ·refine x_block ?_
   refine x_loop (fun k_ E w => ∃ (q9 : Int), lp (P_maskkeep4_PlaceMirrors_L21 q6 q0u) k_ q9 = some oL21 ∧ E 6 = .slice q3 q6.1.length c_y0_ret_4_2 ∧ E 14 = .slice q0f q0u.1.length c_y0_ret_17_2 ∧ E 97 = .int .i64 (q6.1.length : Int) ∧ E 98 = .int .i64 q9 ∧ St w0 w (vec 45 R_place_Spot.sz (.slice q3 q6.1.length c_y0_ret_4_2) q6.1.length q0c :: vec 45 R_place_Spot.sz (.slice q0f q0u.1.length c_y0_ret_17_2) q0u.1.length q1i :: ro q0a :: l)) fuel ⟨0, hLL21, q3n, rfl, rfl, rfl, (((hS.pull 1).pull 1).pull 2)⟩ ?_
   rintro kL21 E w ⟨q9, hLL21, q2e, q24, q2r, q25, hS⟩
   replace hLL21 := lp_s hLL21; obtain ⟨kL21, obL21, rfl, hFL21, hLL21⟩ := hLL21
   refine x_seq <| x_region <| p (yl_lss q25 q2r) <| x_done <|
    x_seq <|
    x_cond_p (q9 < (q6.1.length : Int)) rfl (fun hc99 => ?_) (fun hc99 => ?_)
   ·replace hFL21 := it_t hc99 hFL21
    refine x_skip <| x_seq <| x_block <| x_seq <|
     x_region <| p (yl_move q25) <| p (yl_assign rfl) <| x_done <|
     x_seq <| ?_
    replace hFL21 := bd_s hFL21; obtain ⟨q5, q5p, hFL21⟩ := hFL21
    replace hFL21 := ck_s hFL21; obtain ⟨q3w, hFL21⟩ := hFL21
    replace hFL21 := lv_s hFL21; obtain ⟨q8, q5q, hFL21⟩ := hFL21
    replace hFL21 := bd_s hFL21; obtain ⟨q2, q5r, hFL21⟩ := hFL21
    refine x_par (w0 := w0) [⟨[], [], [102], [0], [], [1]⟩, ⟨[], [], [103], [], [], []⟩, ⟨[], [], [104], [], [], []⟩, ⟨[1, 2], [1, 2], [105], [2], [], []⟩, ⟨[1, 2, 3], [3], [106], [], [], []⟩, ⟨[1, 2, 3, 4], [4], [107], [2], [], []⟩, ⟨[0, 1, 2, 3, 4, 5], [0, 5], [108], [0], [1], [3]⟩, ⟨[0, 1, 2, 3, 4, 5, 6], [6], [101, 108], [], [], []⟩, ⟨[0, 1, 2, 3, 4, 5, 6, 7], [6, 7], [108, 109], [], [], []⟩, ⟨[0, 1, 2, 3, 4, 5, 6, 7], [6, 7], [110], [], [], []⟩, ⟨[], [], [17], [], [], [4]⟩, ⟨[0, 1, 2, 3, 4, 5, 6, 7, 8, 10], [6, 8, 10], [], [], [4], [5]⟩, ⟨[0, 1, 2, 3, 4, 5, 6, 7, 8, 9, 10, 11], [9], [18], [], [], []⟩] [⟨none, none, []⟩, ⟨(some 0), (some 6), [102]⟩, ⟨none, none, []⟩, ⟨(some 6), none, [102, 108]⟩, ⟨(some 10), (some 11), [17]⟩, ⟨(some 11), none, [17, 108]⟩] [17, 18, 101, 102, 103, 104, 105, 106, 107, 108, 109, 110] [0, 2] [0, 2, 3, 5] [0, 1, 2, 3, 4, 5, 6, 7, 8, 9, 10, 12] [fun Ep23 => Ep23 102 = .agg #[.bool q5.Num.fneg, .slice (adOf (partOf 1 (Ep23 102))) q5.Num.fmag.length (capOf (partOf 1 (Ep23 102))), .bool q5.Den.fneg, .slice (adOf (partOf 3 (Ep23 102))) q5.Den.fmag.length (capOf (partOf 3 (Ep23 102)))], fun Ep23 => Ep23 103 = .slice q3 q6.1.length c_y0_ret_4_2, fun Ep23 => Ep23 104 = .int .i64 q9, fun Ep23 => Ep23 105 = .pointer (some ((adr q3).add (q9.toNat * R_place_Spot.sz))), fun Ep23 => Ep23 106 = .pointer (some (((adr q3).add (q9.toNat * R_place_Spot.sz)).add 0)), fun Ep23 => Ep23 107 = .agg #[.bool q8.X.Num.fneg, .slice (adOf (partOf 1 (Ep23 107))) q8.X.Num.fmag.length (capOf (partOf 1 (Ep23 107))), .bool q8.X.Den.fneg, .slice (adOf (partOf 3 (Ep23 107))) q8.X.Den.fmag.length (capOf (partOf 3 (Ep23 107)))] ∧ RdS (RpI .u32) q0s (adOf (partOf 1 (Ep23 107))) q8.X.Num.fmag.length (capOf (partOf 1 (Ep23 107))) q8.X.Num.fmag ∧ RdS (RpI .u32) q0s (adOf (partOf 3 (Ep23 107))) q8.X.Den.fmag.length (capOf (partOf 3 (Ep23 107))) q8.X.Den.fmag, fun Ep23 => Ep23 108 = .tuple #[.agg #[.bool q2.1.Num.fneg, .slice (adOf (partOf 1 (partOf 0 (Ep23 108)))) q2.1.Num.fmag.length (capOf (partOf 1 (partOf 0 (Ep23 108)))), .bool q2.1.Den.fneg, .slice (adOf (partOf 3 (partOf 0 (Ep23 108)))) q2.1.Den.fmag.length (capOf (partOf 3 (partOf 0 (Ep23 108))))], .int .i64 q2.2], fun Ep23 => Ep23 101 = .tuple #[.agg #[.bool q2.1.Num.fneg, .slice (adOf (partOf 1 (partOf 0 (Ep23 108)))) q2.1.Num.fmag.length (capOf (partOf 1 (partOf 0 (Ep23 108)))), .bool q2.1.Den.fneg, .slice (adOf (partOf 3 (partOf 0 (Ep23 108)))) q2.1.Den.fmag.length (capOf (partOf 3 (partOf 0 (Ep23 108))))], .int .i64 q2.2], fun Ep23 => Ep23 109 = .agg #[.bool q2.1.Num.fneg, .slice (adOf (partOf 1 (partOf 0 (Ep23 108)))) q2.1.Num.fmag.length (capOf (partOf 1 (partOf 0 (Ep23 108)))), .bool q2.1.Den.fneg, .slice (adOf (partOf 3 (partOf 0 (Ep23 108)))) q2.1.Den.fmag.length (capOf (partOf 3 (partOf 0 (Ep23 108))))], fun Ep23 => Ep23 110 = .int .i64 q2.2, fun Ep23 => Ep23 17 = .pointer (some ⟨(blkOf (Ep23 17)), 0, none⟩), fun Ep23 => True, fun Ep23 => Ep23 18 = .int .i64 q2.2] [fun Ep23 => ro q0a, fun Ep23 => bunA (fun (q7 : Heap) => Le q0a q7 ∧ RdS (RpI .u32) q7 (adOf (partOf 1 (Ep23 102))) q5.Num.fmag.length (capOf (partOf 1 (Ep23 102))) q5.Num.fmag ∧ RdS (RpI .u32) q7 (adOf (partOf 3 (Ep23 102))) q5.Den.fmag.length (capOf (partOf 3 (Ep23 102))) q5.Den.fmag) (fun (q7 : Heap) => [roD q0a q7]), fun Ep23 => vec 45 R_place_Spot.sz (.slice q3 q6.1.length c_y0_ret_4_2) q6.1.length q0c, fun Ep23 => bunA (fun (q4 : Heap) => Le q0a q4 ∧ RdS (RpI .u32) q4 (adOf (partOf 1 (Ep23 102))) q5.Num.fmag.length (capOf (partOf 1 (Ep23 102))) q5.Num.fmag ∧ RdS (RpI .u32) q4 (adOf (partOf 3 (Ep23 102))) q5.Den.fmag.length (capOf (partOf 3 (Ep23 102))) q5.Den.fmag ∧ RdS (RpI .u32) q4 (adOf (partOf 1 (partOf 0 (Ep23 108)))) q2.1.Num.fmag.length (capOf (partOf 1 (partOf 0 (Ep23 108)))) q2.1.Num.fmag ∧ RdS (RpI .u32) q4 (adOf (partOf 3 (partOf 0 (Ep23 108)))) q2.1.Den.fmag.length (capOf (partOf 3 (partOf 0 (Ep23 108)))) q2.1.Den.fmag) (fun (q4 : Heap) => [roD q0a q4]), fun Ep23 => cells (blkOf (Ep23 17)) 43 [.bool false, .slice none 0 0, .bool false, .slice none 0 0], fun Ep23 => cells (blkOf (Ep23 17)) 43 [.bool q2.1.Num.fneg, .slice (adOf (partOf 1 (partOf 0 (Ep23 108)))) q2.1.Num.fmag.length (capOf (partOf 1 (partOf 0 (Ep23 108)))), .bool q2.1.Den.fneg, .slice (adOf (partOf 3 (partOf 0 (Ep23 108)))) q2.1.Den.fmag.length (capOf (partOf 3 (partOf 0 (Ep23 108))))]] mixed (by kernel_rfl) (hS.pull 2) ?_ ?_
    ·refine ⟨?_, ?_, ?_, ?_, ?_, ?_, ?_, ?_, ?_, ?_, ?_, ?_, ?_, trivial⟩
     ·intro Ep23 w l' hE23 hO23 hF_ hS
      replace hS : St w0 w (ro q0a :: l') := Eq.mp (by kernel_rfl) hS
      have hcall := c_exact_Whole q5p  hS
      refine o_cc call_11 (args1 rfl) hcall ?_
      rintro e w' ⟨q7, q27, q4d, c_y0_ret_1_23_0, q28, q4e, c_y0_ret_3_23_0, rfl, q38, q0d, q0e, hS⟩
      refine ⟨_, rfl, ?_⟩
      have e_ := q0d.n; subst e_
      have e_ := q0e.n; subst e_
      refine x_done <| ?_
      refine x_fin ⟨⟨_, rfl⟩, rfl, ?_⟩
      replace hS := St.ro_split q38 hS
      replace hS := St.bun (Φ := (fun (q7 : Heap) => Le q0a q7 ∧ RdS (RpI .u32) q7 q27 q5.Num.fmag.length c_y0_ret_1_23_0 q5.Num.fmag ∧ RdS (RpI .u32) q7 q28 q5.Den.fmag.length c_y0_ret_3_23_0 q5.Den.fmag)) (L := (fun (q7 : Heap) => [roD q0a q7])) q7 ⟨q38, q0d, q0e⟩ (hS.pull 1)
      exact Eq.mp (by kernel_rfl) (hS.pull 1)
     ·intro Ep23 w l' hE23 hO23 hF_ hS
      refine p (yl_move ((hE23 6 rfl).trans q2e)) <| x_done <| ?_
      refine x_fin ⟨⟨_, rfl⟩, rfl, ?_⟩
      exact Eq.mp (by kernel_rfl) hS
     ·intro Ep23 w l' hE23 hO23 hF_ hS
      refine p (yl_move (hE23 16 rfl)) <| x_done <| ?_
      refine x_fin ⟨⟨_, rfl⟩, rfl, ?_⟩
      exact Eq.mp (by kernel_rfl) hS
     ·intro Ep23 w l' hE23 hO23 hF_ hS
      obtain ⟨q1q, q1r, -⟩ := hF_
      replace q1q : Ep23 103 = .slice q3 q6.1.length c_y0_ret_4_2 := Eq.mp (by kernel_rfl) q1q
      replace q1r : Ep23 104 = .int .i64 q9 := Eq.mp (by kernel_rfl) q1r
      replace hS : St w0 w (vec 45 R_place_Spot.sz (.slice q3 q6.1.length c_y0_ret_4_2) q6.1.length q0c :: l') := Eq.mp (by kernel_rfl) hS
      refine p (yix_o sl_29 q1q q1r hS q0o q3w) <| x_done <| ?_
      refine x_fin ⟨⟨_, rfl⟩, rfl, ?_⟩
      exact Eq.mp (by kernel_rfl) hS
     ·intro Ep23 w l' hE23 hO23 hF_ hS
      obtain ⟨q1s, -⟩ := hF_
      replace q1s : Ep23 105 = .pointer (some ((adr q3).add (q9.toNat * R_place_Spot.sz))) := Eq.mp (by kernel_rfl) q1s
      refine p (yl_fieldAddr fld_45_0 q1s) <| x_done <| ?_
      refine x_fin ⟨⟨_, rfl⟩, rfl, ?_⟩
      exact Eq.mp (by kernel_rfl) hS
     ·intro Ep23 w l' hE23 hO23 hF_ hS
      obtain ⟨q1t, -⟩ := hF_
      replace q1t : Ep23 106 = .pointer (some (((adr q3).add (q9.toNat * R_place_Spot.sz)).add 0)) := Eq.mp (by kernel_rfl) q1t
      replace hS : St w0 w (vec 45 R_place_Spot.sz (.slice q3 q6.1.length c_y0_ret_4_2) q6.1.length q0c :: l') := Eq.mp (by kernel_rfl) hS
      have q_ := q0o.get q3w; obtain ⟨q7a, q3x, q5s⟩ := q_
      rw [← q5q] at q3x
      obtain ⟨q4l, q6f, q4m, q4n, q6g, q4o, q6h, q6i, q6j, q6k, q6l, q6m, rfl, q39, q3a, q4p, q4q⟩ := q3x
      have e_ := q39.n; subst e_
      have e_ := q3a.n; subst e_
      have e_ := q4p.n; subst e_
      have e_ := q4q.n; subst e_
      refine pa (at_loadAgg (cs := [.bool q8.X.Num.fneg, .slice q4l q8.X.Num.fmag.length q4m, .bool q8.X.Den.fneg, .slice q4n q8.X.Den.fmag.length q4o]) agg_43 q1t rfl (sub_every (m := 4) (EltV.every q5s hS) rfl)) <| x_done <| ?_
      refine x_fin ⟨⟨_, rfl⟩, ⟨rfl, q39, q3a⟩, ?_⟩
      exact Eq.mp (by kernel_rfl) hS
     ·intro Ep23 w l' hE23 hO23 hF_ hS
      obtain ⟨q1u, q1f, -⟩ := hF_
      replace q1u : Ep23 102 = .agg #[.bool q5.Num.fneg, .slice (adOf (partOf 1 (Ep23 102))) q5.Num.fmag.length (capOf (partOf 1 (Ep23 102))), .bool q5.Den.fneg, .slice (adOf (partOf 3 (Ep23 102))) q5.Den.fmag.length (capOf (partOf 3 (Ep23 102)))] := Eq.mp (by kernel_rfl) q1u
      replace q1f : Ep23 107 = .agg #[.bool q8.X.Num.fneg, .slice (adOf (partOf 1 (Ep23 107))) q8.X.Num.fmag.length (capOf (partOf 1 (Ep23 107))), .bool q8.X.Den.fneg, .slice (adOf (partOf 3 (Ep23 107))) q8.X.Den.fmag.length (capOf (partOf 3 (Ep23 107)))] ∧ RdS (RpI .u32) q0s (adOf (partOf 1 (Ep23 107))) q8.X.Num.fmag.length (capOf (partOf 1 (Ep23 107))) q8.X.Num.fmag ∧ RdS (RpI .u32) q0s (adOf (partOf 3 (Ep23 107))) q8.X.Den.fmag.length (capOf (partOf 3 (Ep23 107))) q8.X.Den.fmag := Eq.mp (by kernel_rfl) q1f
      have q_ := id q1f; obtain ⟨-, q3y, q3z⟩ := q_
      replace hS : St w0 w (ro q0a :: bunA (fun (q7 : Heap) => Le q0a q7 ∧ RdS (RpI .u32) q7 (adOf (partOf 1 (Ep23 102))) q5.Num.fmag.length (capOf (partOf 1 (Ep23 102))) q5.Num.fmag ∧ RdS (RpI .u32) q7 (adOf (partOf 3 (Ep23 102))) q5.Den.fmag.length (capOf (partOf 3 (Ep23 102))) q5.Den.fmag) (fun (q7 : Heap) => [roD q0a q7]) :: l') := Eq.mp (by kernel_rfl) hS
      have q_ := St.unbun (hS.pull 1); obtain ⟨q7, ⟨q2z, q0d, q0e⟩, hS⟩ := q_
      have q_ := St.ro_join (hS.pull 1) (Le.refl _) q2z; obtain ⟨q66, q1g, q1h, hS, q64⟩ := q_
      have hcall := c_exact_Diff q5r (q0d.le q1h) (q0e.le q1h) (q3y.le (((q14.trans q0w).trans q15).trans q1g)) (q3z.le (((q14.trans q0w).trans q15).trans q1g)) hS
      refine o_cc call_12 (args2 q1u q1f.1) hcall ?_
      rintro e w' ⟨q4, q29, q4f, c_y0_ret_1_23_6, q2a, q4g, c_y0_ret_3_23_6, rfl, q1v, q0m, q0n, hS⟩
      refine ⟨_, rfl, ?_⟩
      have e_ := q0m.n; subst e_
      have e_ := q0n.n; subst e_
      refine x_done <| ?_
      refine x_fin ⟨⟨_, rfl⟩, rfl, ?_⟩
      replace hS := St.ro_split (q1g.trans q1v) hS
      replace hS := St.bun (Φ := (fun (q4 : Heap) => Le q0a q4 ∧ RdS (RpI .u32) q4 (adOf (partOf 1 (Ep23 102))) q5.Num.fmag.length (capOf (partOf 1 (Ep23 102))) q5.Num.fmag ∧ RdS (RpI .u32) q4 (adOf (partOf 3 (Ep23 102))) q5.Den.fmag.length (capOf (partOf 3 (Ep23 102))) q5.Den.fmag ∧ RdS (RpI .u32) q4 q29 q2.1.Num.fmag.length c_y0_ret_1_23_6 q2.1.Num.fmag ∧ RdS (RpI .u32) q4 q2a q2.1.Den.fmag.length c_y0_ret_3_23_6 q2.1.Den.fmag)) (L := (fun (q4 : Heap) => [roD q0a q4])) q4 ⟨(q1g.trans q1v), (q0d.le (q1h.trans q1v)), (q0e.le (q1h.trans q1v)), q0m, q0n⟩ (hS.pull 1)
      exact Eq.mp (by kernel_rfl) (hS.pull 1)
     ·intro Ep23 w l' hE23 hO23 hF_ hS
      obtain ⟨q0i, -⟩ := hF_
      replace q0i : Ep23 108 = .tuple #[.agg #[.bool q2.1.Num.fneg, .slice (adOf (partOf 1 (partOf 0 (Ep23 108)))) q2.1.Num.fmag.length (capOf (partOf 1 (partOf 0 (Ep23 108)))), .bool q2.1.Den.fneg, .slice (adOf (partOf 3 (partOf 0 (Ep23 108)))) q2.1.Den.fmag.length (capOf (partOf 3 (partOf 0 (Ep23 108))))], .int .i64 q2.2] := Eq.mp (by kernel_rfl) q0i
      refine p (yl_move q0i) <| x_done <| ?_
      refine x_fin ⟨⟨_, rfl⟩, rfl, ?_⟩
      exact Eq.mp (by kernel_rfl) hS
     ·intro Ep23 w l' hE23 hO23 hF_ hS
      obtain ⟨q0i, q17, -⟩ := hF_
      replace q0i : Ep23 108 = .tuple #[.agg #[.bool q2.1.Num.fneg, .slice (adOf (partOf 1 (partOf 0 (Ep23 108)))) q2.1.Num.fmag.length (capOf (partOf 1 (partOf 0 (Ep23 108)))), .bool q2.1.Den.fneg, .slice (adOf (partOf 3 (partOf 0 (Ep23 108)))) q2.1.Den.fmag.length (capOf (partOf 3 (partOf 0 (Ep23 108))))], .int .i64 q2.2] := Eq.mp (by kernel_rfl) q0i
      replace q17 : Ep23 101 = .tuple #[.agg #[.bool q2.1.Num.fneg, .slice (adOf (partOf 1 (partOf 0 (Ep23 108)))) q2.1.Num.fmag.length (capOf (partOf 1 (partOf 0 (Ep23 108)))), .bool q2.1.Den.fneg, .slice (adOf (partOf 3 (partOf 0 (Ep23 108)))) q2.1.Den.fmag.length (capOf (partOf 3 (partOf 0 (Ep23 108))))], .int .i64 q2.2] := Eq.mp (by kernel_rfl) q17
      refine p (yl_extract q17 rfl) <| x_done <| ?_
      refine x_fin ⟨⟨_, rfl⟩, rfl, ?_⟩
      exact Eq.mp (by kernel_rfl) hS
     ·intro Ep23 w l' hE23 hO23 hF_ hS
      obtain ⟨q0i, q17, -⟩ := hF_
      replace q0i : Ep23 108 = .tuple #[.agg #[.bool q2.1.Num.fneg, .slice (adOf (partOf 1 (partOf 0 (Ep23 108)))) q2.1.Num.fmag.length (capOf (partOf 1 (partOf 0 (Ep23 108)))), .bool q2.1.Den.fneg, .slice (adOf (partOf 3 (partOf 0 (Ep23 108)))) q2.1.Den.fmag.length (capOf (partOf 3 (partOf 0 (Ep23 108))))], .int .i64 q2.2] := Eq.mp (by kernel_rfl) q0i
      replace q17 : Ep23 101 = .tuple #[.agg #[.bool q2.1.Num.fneg, .slice (adOf (partOf 1 (partOf 0 (Ep23 108)))) q2.1.Num.fmag.length (capOf (partOf 1 (partOf 0 (Ep23 108)))), .bool q2.1.Den.fneg, .slice (adOf (partOf 3 (partOf 0 (Ep23 108)))) q2.1.Den.fmag.length (capOf (partOf 3 (partOf 0 (Ep23 108))))], .int .i64 q2.2] := Eq.mp (by kernel_rfl) q17
      refine p (yl_extract q17 rfl) <| x_done <| ?_
      refine x_fin ⟨⟨_, rfl⟩, rfl, ?_⟩
      exact Eq.mp (by kernel_rfl) hS
     ·intro Ep23 w l' hE23 hO23 hF_ hS
      refine o_alloc zero_43 hS (fun b17 w' hS => ?_)
      refine x_done <| ?_
      refine x_fin ⟨⟨_, rfl⟩, rfl, ?_⟩
      exact Eq.mp (by kernel_rfl) hS
     ·intro Ep23 w l' hE23 hO23 hF_ hS
      obtain ⟨q0i, q1w, q1e, -⟩ := hF_
      replace q0i : Ep23 108 = .tuple #[.agg #[.bool q2.1.Num.fneg, .slice (adOf (partOf 1 (partOf 0 (Ep23 108)))) q2.1.Num.fmag.length (capOf (partOf 1 (partOf 0 (Ep23 108)))), .bool q2.1.Den.fneg, .slice (adOf (partOf 3 (partOf 0 (Ep23 108)))) q2.1.Den.fmag.length (capOf (partOf 3 (partOf 0 (Ep23 108))))], .int .i64 q2.2] := Eq.mp (by kernel_rfl) q0i
      replace q1w : Ep23 109 = .agg #[.bool q2.1.Num.fneg, .slice (adOf (partOf 1 (partOf 0 (Ep23 108)))) q2.1.Num.fmag.length (capOf (partOf 1 (partOf 0 (Ep23 108)))), .bool q2.1.Den.fneg, .slice (adOf (partOf 3 (partOf 0 (Ep23 108)))) q2.1.Den.fmag.length (capOf (partOf 3 (partOf 0 (Ep23 108))))] := Eq.mp (by kernel_rfl) q1w
      replace q1e : Ep23 17 = .pointer (some ⟨(blkOf (Ep23 17)), 0, none⟩) := Eq.mp (by kernel_rfl) q1e
      replace hS : St w0 w (cells (blkOf (Ep23 17)) 43 [.bool false, .slice none 0 0, .bool false, .slice none 0 0] :: l') := Eq.mp (by kernel_rfl) hS
      refine o_storeAgg (news := [.bool q2.1.Num.fneg, .slice (adOf (partOf 1 (partOf 0 (Ep23 108)))) q2.1.Num.fmag.length (capOf (partOf 1 (partOf 0 (Ep23 108)))), .bool q2.1.Den.fneg, .slice (adOf (partOf 3 (partOf 0 (Ep23 108)))) q2.1.Den.fmag.length (capOf (partOf 3 (partOf 0 (Ep23 108))))]) agg_43 q1e q1w rfl (by simp [over_length]) hS (fun w' hS => ?_)
      refine x_done <| ?_
      refine x_fin ⟨⟨undef, rfl⟩, trivial, ?_⟩
      exact Eq.mp (by kernel_rfl) hS
     ·intro Ep23 w l' hE23 hO23 hF_ hS
      obtain ⟨q1x, -⟩ := hF_
      replace q1x : Ep23 110 = .int .i64 q2.2 := Eq.mp (by kernel_rfl) q1x
      refine p (yl_assign q1x) <| x_done <| ?_
      refine x_fin ⟨⟨_, rfl⟩, rfl, ?_⟩
      exact Eq.mp (by kernel_rfl) hS
    intro Ep23 w' hE23 hF_ hS
    obtain ⟨q1u, q1q, q1r, q1s, q1t, q1f, q0i, q17, q1w, q1x, q1e, q40, -⟩ := hF_
    replace q1u : Ep23 102 = .agg #[.bool q5.Num.fneg, .slice (adOf (partOf 1 (Ep23 102))) q5.Num.fmag.length (capOf (partOf 1 (Ep23 102))), .bool q5.Den.fneg, .slice (adOf (partOf 3 (Ep23 102))) q5.Den.fmag.length (capOf (partOf 3 (Ep23 102)))] := Eq.mp (by kernel_rfl) q1u
    replace q1q : Ep23 103 = .slice q3 q6.1.length c_y0_ret_4_2 := Eq.mp (by kernel_rfl) q1q
    replace q1r : Ep23 104 = .int .i64 q9 := Eq.mp (by kernel_rfl) q1r
    replace q1s : Ep23 105 = .pointer (some ((adr q3).add (q9.toNat * R_place_Spot.sz))) := Eq.mp (by kernel_rfl) q1s
    replace q1t : Ep23 106 = .pointer (some (((adr q3).add (q9.toNat * R_place_Spot.sz)).add 0)) := Eq.mp (by kernel_rfl) q1t
    replace q1f : Ep23 107 = .agg #[.bool q8.X.Num.fneg, .slice (adOf (partOf 1 (Ep23 107))) q8.X.Num.fmag.length (capOf (partOf 1 (Ep23 107))), .bool q8.X.Den.fneg, .slice (adOf (partOf 3 (Ep23 107))) q8.X.Den.fmag.length (capOf (partOf 3 (Ep23 107)))] ∧ RdS (RpI .u32) q0s (adOf (partOf 1 (Ep23 107))) q8.X.Num.fmag.length (capOf (partOf 1 (Ep23 107))) q8.X.Num.fmag ∧ RdS (RpI .u32) q0s (adOf (partOf 3 (Ep23 107))) q8.X.Den.fmag.length (capOf (partOf 3 (Ep23 107))) q8.X.Den.fmag := Eq.mp (by kernel_rfl) q1f
    have q_ := id q1f; obtain ⟨-, q3y, q3z⟩ := q_
    replace q0i : Ep23 108 = .tuple #[.agg #[.bool q2.1.Num.fneg, .slice (adOf (partOf 1 (partOf 0 (Ep23 108)))) q2.1.Num.fmag.length (capOf (partOf 1 (partOf 0 (Ep23 108)))), .bool q2.1.Den.fneg, .slice (adOf (partOf 3 (partOf 0 (Ep23 108)))) q2.1.Den.fmag.length (capOf (partOf 3 (partOf 0 (Ep23 108))))], .int .i64 q2.2] := Eq.mp (by kernel_rfl) q0i
    replace q17 : Ep23 101 = .tuple #[.agg #[.bool q2.1.Num.fneg, .slice (adOf (partOf 1 (partOf 0 (Ep23 108)))) q2.1.Num.fmag.length (capOf (partOf 1 (partOf 0 (Ep23 108)))), .bool q2.1.Den.fneg, .slice (adOf (partOf 3 (partOf 0 (Ep23 108)))) q2.1.Den.fmag.length (capOf (partOf 3 (partOf 0 (Ep23 108))))], .int .i64 q2.2] := Eq.mp (by kernel_rfl) q17
    replace q1w : Ep23 109 = .agg #[.bool q2.1.Num.fneg, .slice (adOf (partOf 1 (partOf 0 (Ep23 108)))) q2.1.Num.fmag.length (capOf (partOf 1 (partOf 0 (Ep23 108)))), .bool q2.1.Den.fneg, .slice (adOf (partOf 3 (partOf 0 (Ep23 108)))) q2.1.Den.fmag.length (capOf (partOf 3 (partOf 0 (Ep23 108))))] := Eq.mp (by kernel_rfl) q1w
    replace q1x : Ep23 110 = .int .i64 q2.2 := Eq.mp (by kernel_rfl) q1x
    replace q1e : Ep23 17 = .pointer (some ⟨(blkOf (Ep23 17)), 0, none⟩) := Eq.mp (by kernel_rfl) q1e
    replace q40 : Ep23 18 = .int .i64 q2.2 := Eq.mp (by kernel_rfl) q40
    replace hS : St w0 w' (ro q0a :: vec 45 R_place_Spot.sz (.slice q3 q6.1.length c_y0_ret_4_2) q6.1.length q0c :: bunA (fun (q4 : Heap) => Le q0a q4 ∧ RdS (RpI .u32) q4 (adOf (partOf 1 (Ep23 102))) q5.Num.fmag.length (capOf (partOf 1 (Ep23 102))) q5.Num.fmag ∧ RdS (RpI .u32) q4 (adOf (partOf 3 (Ep23 102))) q5.Den.fmag.length (capOf (partOf 3 (Ep23 102))) q5.Den.fmag ∧ RdS (RpI .u32) q4 (adOf (partOf 1 (partOf 0 (Ep23 108)))) q2.1.Num.fmag.length (capOf (partOf 1 (partOf 0 (Ep23 108)))) q2.1.Num.fmag ∧ RdS (RpI .u32) q4 (adOf (partOf 3 (partOf 0 (Ep23 108)))) q2.1.Den.fmag.length (capOf (partOf 3 (partOf 0 (Ep23 108)))) q2.1.Den.fmag) (fun (q4 : Heap) => [roD q0a q4]) :: cells (blkOf (Ep23 17)) 43 [.bool q2.1.Num.fneg, .slice (adOf (partOf 1 (partOf 0 (Ep23 108)))) q2.1.Num.fmag.length (capOf (partOf 1 (partOf 0 (Ep23 108)))), .bool q2.1.Den.fneg, .slice (adOf (partOf 3 (partOf 0 (Ep23 108)))) q2.1.Den.fmag.length (capOf (partOf 3 (partOf 0 (Ep23 108))))] :: (vec 45 R_place_Spot.sz (.slice q0f q0u.1.length c_y0_ret_17_2) q0u.1.length q1i :: l)) := Eq.mp (by kernel_rfl) hS
    have q_ := St.unbun (hS.pull 2); obtain ⟨q4, ⟨q30, q0d, q0e, q0m, q0n⟩, hS⟩ := q_
    have q_ := St.ro_join (hS.pull 1) (Le.refl _) q30; obtain ⟨q6n, q0r, q2s, hS, q65⟩ := q_
    replace hFL21 := ck_s hFL21; obtain ⟨q41, hFL21⟩ := hFL21
    replace hFL21 := lv_s hFL21; obtain ⟨q2g, q5t, hFL21⟩ := hFL21
    have q_ := q0l.get q41; obtain ⟨q7b, q42, q5u⟩ := q_
    rw [← q5t] at q42
    obtain ⟨q4r, q6o, q4s, q4t, q6p, q4u, q6q, q6r, q6s, q6t, q6u, q6v, rfl, q3b, q3c, q4v, q4w⟩ := q42
    have e_ := q3b.n; subst e_
    have e_ := q3c.n; subst e_
    have e_ := q4v.n; subst e_
    have e_ := q4w.n; subst e_
    replace hFL21 := ck_s hFL21; obtain ⟨q43, hFL21⟩ := hFL21
    replace hFL21 := lv_s hFL21; obtain ⟨q2h, q5v, hFL21⟩ := hFL21
    have q_ := q0o.get q43; obtain ⟨q7c, q44, q5w⟩ := q_
    rw [← q5v] at q44
    obtain ⟨q6w, q6x, q6y, q6z, q70, q71, q4x, q72, q4y, q4z, q73, q50, rfl, q51, q52, q3d, q3e⟩ := q44
    have e_ := q51.n; subst e_
    have e_ := q52.n; subst e_
    have e_ := q3d.n; subst e_
    have e_ := q3e.n; subst e_
    replace hFL21 := bd_s hFL21; obtain ⟨q13, q53, hFL21⟩ := hFL21
    replace hFL21 := ck_s hFL21; obtain ⟨q3f, hFL21⟩ := hFL21
    replace hFL21 := lv_s hFL21; obtain ⟨q19, q54, hFL21⟩ := hFL21
    have q_ := RepL.getD R_place_Spot_d q0l q9; obtain ⟨q74, q3g, q55⟩ := q_
    rw [← q54] at q3g
    obtain ⟨q67, q68, q69, q6a, q6b, q6c, q2t, q6d, q2u, q2v, q6e, q2w, rfl, q46, q47, q2x, q2y⟩ := q3g
    have e_ := q46.n; subst e_
    have e_ := q47.n; subst e_
    have e_ := q2x.n; subst e_
    have e_ := q2y.n; subst e_
    replace hFL21 := bd_s hFL21; obtain ⟨q45, q56, hFL21⟩ := hFL21
    replace hFL21 := lv_s hFL21; obtain ⟨x132, hx132, hFL21⟩ := hFL21
    refine x_seq <| x_still mixed (by kernel_rfl) hS <| q (yl_move ((hE23 14 rfl).trans q24)) <| q (yl_move (hE23 16 rfl)) <|
     q (yix_o sl_29 rfl rfl (hS.pull 3) q0l q41) <| q (yl_fieldAddr fld_45_0 rfl) <| qa (fun w' hS => at_loadAgg (cs := [.bool q2g.X.Num.fneg, .slice q4r q2g.X.Num.fmag.length q4s, .bool q2g.X.Den.fneg, .slice q4t q2g.X.Den.fmag.length q4u]) agg_43 rfl rfl (sub_every (m := 4) (EltV.every q5u (hS.pull 3)) rfl)) <| q (yl_move ((hE23 6 rfl).trans q2e)) <|
     q (yl_move (hE23 16 rfl)) <| q (yix_o sl_29 rfl rfl (hS.pull 1) q0o q43) <| q (yl_fieldAddr fld_45_1 rfl) <| qa (fun w' hS => at_loadAgg (cs := [.bool q2h.Y.Num.fneg, .slice q4x q2h.Y.Num.fmag.length q4y, .bool q2h.Y.Den.fneg, .slice q4z q2h.Y.Den.fmag.length q50]) agg_43 rfl rfl (sub_every (m := 4) (EltV.every q5w (hS.pull 1)) rfl)) <|
     qcc (v := .int .i64 q13) call_10 (args2 rfl rfl) (fun w' hS => by
      have hcall := c_exact_Compare q53 (q3b.le q0r) (q3c.le q0r) (q3d.le (((q14.trans q0w).trans q15).trans q0r)) (q3e.le (((q14.trans q0w).trans q15).trans q0r)) hS
      exact hcall) <| q (yl_neq rfl rfl) <| q (yl_move rfl) <| qg (v := .slice q0f q0u.1.length c_y0_ret_17_2) 123 (c := !(decide (q13 ≠ 0))) (says_f _) (fun hq w' hS => Yl.at (yl_move ((hE23 14 rfl).trans q24))) <|
     qg (v := .int .i64 q9) 123 (c := !(decide (q13 ≠ 0))) (says_f _) (fun hq w' hS => Yl.at (yl_move (hE23 16 rfl))) <| qg (v := .pointer (some ((adr q0f).add (q9.toNat * R_place_Spot.sz)))) 123 (c := !(decide (q13 ≠ 0))) (says_f _) (fun hq w' hS => Yl.at (yix_o sl_29 (cv hq) (cv hq) (hS.pull 3) q0l (q3f hq))) <| qg (v := .pointer (some (((adr q0f).add (q9.toNat * R_place_Spot.sz)).add 4))) 123 (c := !(decide (q13 ≠ 0))) (says_f _) (fun hq w' hS => Yl.at (yl_fieldAddr fld_45_1 (cv hq))) <| qg (v := .agg #[.bool q19.Y.Num.fneg, .slice q2t q19.Y.Num.fmag.length q2u, .bool q19.Y.Den.fneg, .slice q2v q19.Y.Den.fmag.length q2w]) 123 (c := !(decide (q13 ≠ 0))) (says_f _) (fun hq w' hS => at_loadAgg (cs := [.bool q19.Y.Num.fneg, .slice q2t q19.Y.Num.fmag.length q2u, .bool q19.Y.Den.fneg, .slice q2v q19.Y.Den.fmag.length q2w]) agg_43 (cv hq) rfl (sub_every (m := 4) (EltV.every (q55 (q3f hq)) (hS.pull 3)) rfl)) <|
     qg (v := .agg #[.bool q2.1.Num.fneg, .slice (adOf (partOf 1 (partOf 0 (Ep23 108)))) q2.1.Num.fmag.length (capOf (partOf 1 (partOf 0 (Ep23 108)))), .bool q2.1.Den.fneg, .slice (adOf (partOf 3 (partOf 0 (Ep23 108)))) q2.1.Den.fmag.length (capOf (partOf 3 (partOf 0 (Ep23 108))))]) 123 (c := !(decide (q13 ≠ 0))) (says_f _) (fun hq w' hS => ld_sub agg_43 q1e rfl rfl (hS.pull 2)) <| qccg (v := .int .i64 q45) 123 (c := !(decide (q13 ≠ 0))) (says_f _) call_10 (fun hq => (args2 (cv hq) (cv hq))) (fun hq w' hS => by
      have hcall := c_exact_Compare (gd_t q56 hq) (q2x.le q0r) (q2y.le q0r) (q0m.le q2s) (q0n.le q2s) hS
      exact hcall) <| qg (v := .bool (decide (q45 ≠ 0))) 123 (c := !(decide (q13 ≠ 0))) (says_f _) (fun hq w' hS => Yl.at (yl_neq (cv hq) rfl)) <| q (yor' rfl rfl (fun hc => (cv (t_not hc))) hx132) <|
     q_done fun w' hS => ?_
    refine x_cond (t := x132) rfl (fun hc132 => ?_) (fun hc132 => ?_)
    ·replace hFL21 := it_t hc132 hFL21
     refine x_seq <| x_region <| p (yl_assign rfl) <| x_done <| ?_
     have e_ := Option.some.inj (show some _ = some _ from hFL21); subst e_
     have e_ := (show _ = oL21 from hLL21); subst e_
     have e_ := Option.some.inj (show some _ = some _ from hF); subst e_
     exact x_return ⟨_, ⟨_, _, rfl, rfl, rfl⟩, rfl, (ro_back0 ((((((q2i.trans q2b).trans q18).trans q14).trans q0w).trans q15).trans q0r) ((((hS.pull 1).drop.pull 1).drop.pull 1).drop))⟩
    ·replace hFL21 := it_bf hc132 hFL21
     replace hFL21 := ar_s hFL21; obtain ⟨x133, hx133, hFL21⟩ := hFL21
     refine x_skip <| x_blk <| x_region <| p (yadd ((hE23 98 rfl).trans q25) rfl hx133) <|
      p (yl_move rfl) <| x_done <| ?_
     have e_ := Option.some.inj (show some _ = some _ from hFL21); subst e_
     exact x_inv ⟨kL21, Nat.lt_succ_self _, x133, hLL21, ((hE23 6 rfl).trans q2e), ((hE23 14 rfl).trans q24), ((hE23 97 rfl).trans q2r), rfl, (ro_back2 q0r (((hS.pull 2).drop.pull 2).pull 2))⟩
   ·replace hFL21 := it_f hc99 hFL21
    refine x_exitTo _ rfl <| ?_
    have e_ := Option.some.inj (show some _ = some _ from hFL21); subst e_
    exact x_inv ⟨hLL21, hS.drop.drop⟩
  rintro E w ⟨rfl, hS⟩
  refine x_seq <| x_region <| p (yl_assign rfl) <| x_done <| ?_
  have e_ := Option.some.inj (show some _ = some _ from hF); subst e_
  exact x_return ⟨_, ⟨_, _, rfl, rfl, rfl⟩, rfl, (ro_back0 (((((q2i.trans q2b).trans q18).trans q14).trans q0w).trans q15) hS)⟩
attribute [irreducible] P_maskkeep4_PlaceMirrors


end Go.Proofs.Ytfkncjfpgflafaa.X
