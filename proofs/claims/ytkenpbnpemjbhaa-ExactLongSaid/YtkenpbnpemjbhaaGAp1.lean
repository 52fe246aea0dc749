/- Printed by gen.py: plain functions, and that the Go code computes them. -/
import Derived.Test.YtkenpbnpemjbhaaXI
import Derived.Test.YtkenpbnpemjbhaaYW
import Derived.Test.YtkenpbnpemjbhaaXT
import Derived.Test.YtkenpbnpemjbhaaGAp0
namespace Go.Proofs.Ytkenpbnpemjbhaa.X
open Go Go.RowKit
set_option linter.unusedVariables false
set_option linter.unusedSimpArgs false

def P_exact_begin_L7 (q4 : List Int) : (List T_exact_Int × Int) → Option ((List T_exact_Int × Int) ⊕ List T_exact_Int) := fun (q3, q2) =>
 if q2 < (q4.length : Int) then
  ck (inb q2 q4.length) <|
  lv (gt q4 q2) fun x28 =>
  bd (P_exact_Of x28) fun q6 =>
  lv (q3 ++ [q6]) fun q5 =>
  ck (apOk 32 q5.length) <|
  ar (q2 + 1) fun x34 =>
  some (Sum.inl (q5, x34))
 else
  some (Sum.inr q3)
def P_exact_begin_L12 (more1 : List (List Int)) (q3 : Int) : (List T_exact_Int × Int) → Option ((List T_exact_Int × Int) ⊕ List T_exact_Int) := fun (q4, q2) =>
 if q2 < (more1.length : Int) then
  ck (inb q2 more1.length) <|
  lv (gt more1 q2) fun q5 =>
  ck (inb q3 q5.length) <|
  lv (gt q5 q3) fun x45 =>
  bd (P_exact_Of x45) fun q7 =>
  lv (q4 ++ [q7]) fun q6 =>
  ck (apOk 32 q6.length) <|
  ar (q2 + 1) fun x49 =>
  some (Sum.inl (q6, x49))
 else
  some (Sum.inr q4)
def P_exact_begin_L3 (a0 : List (List Int)) (more1 : List (List Int)) : (Int × List (List T_exact_Int)) → Option ((Int × List (List T_exact_Int)) ⊕ List (List T_exact_Int)) := fun (q2, q3) =>
 if q2 < (a0.length : Int) then
  ck (inb q2 a0.length) <|
  lv (gt a0 q2) fun q7 =>
  bd (
   lp (P_exact_begin_L7 q7) fuel ([], 0)) fun q6 =>
  bd (
   lp (P_exact_begin_L12 more1 q2) fuel (q6, 0)) fun q5 =>
  lv (q3 ++ [q5]) fun q4 =>
  ck (apOk 24 q4.length) <|
  ar (q2 + 1) fun x60 =>
  some (Sum.inl (x60, q4))
 else
  some (Sum.inr q3)
def P_exact_begin (a0 : List (List Int)) (more1 : List (List Int)) : Option (List (List T_exact_Int) × Bool × List Int) :=
 bd (P_exact_Of 1) fun q3 =>
 bd (
  lp (P_exact_begin_L3 a0 more1) fuel (0, [])) fun q2 =>
 some (q2, q3.fneg, q3.fmag)
set_option maxHeartbeats 4000000 in
set_option maxRecDepth 100000 in
theorem c_exact_begin {w0 w : World} {l : List Assn} {ρ : Heap} {q1h : Option Addr} {q3c : Nat} {c_a0 : Nat} {q0d : Option Addr} {q25 : Nat} {c_more1 : Nat} {a0 : List (List Int)} {more1 : List (List Int)} {r : (List (List T_exact_Int) × Bool × List Int)} (hF : P_exact_begin a0 more1 = some r) (q2z : RdS (RpSl (RpI .i64)) ρ q1h q3c c_a0 a0) (q1q : RdS (RpSl (RpI .i64)) ρ q0d q25 c_more1 more1) (hS : St w0 w (ro ρ :: l)) :
  Calls Try.prog 86 #[.slice q1h q3c c_a0, .slice q0d q25 c_more1] w fun e w' => ∃ (ρ' : Heap) (q1u : Nat) (q0q : Option Addr) (q0b : Nat) (c_b_y0_ret_0_ret : Nat) (q0j : List Value) (q0r : Option Addr) (q0s : Nat) (c_b_y0_ret_2_ret : Nat), e = .returned (.pointer (some ⟨q1u, 0, none⟩)) ∧ Le ρ ρ' ∧ RepL (RpSl R_exact_Int) ρ' r.1 q0j ∧ RdS (RpI .u32) ρ' q0r q0s c_b_y0_ret_2_ret r.2.2 ∧ St w0 w' (cells q1u 150 [.slice q0q q0b c_b_y0_ret_0_ret, .bool r.2.1, .slice q0r q0s c_b_y0_ret_2_ret, .bool false, .int .i64 0] :: vec 155 (RpSl R_exact_Int).sz (.slice q0q q0b c_b_y0_ret_0_ret) q0b q0j :: ro ρ' :: l) := by
 have e_ := q2z.n; subst e_
 have e_ := q1q.n; subst e_
 refine enterC Try.func86 rfl 62 rfl (by simp) ?_
 replace hF := bd_s hF; obtain ⟨q8, q3s, hF⟩ := hF
 refine x_seq <| x_region <| p (yl_assign rfl) <| x_done <|
  x_seq <| x_region <| ?_
 have hcall := c_exact_Of q3s  hS
 refine o_cc call_51 (args1 rfl) hcall ?_
 rintro e w' ⟨q1m, q3, q37, c_y0_ret_1_1_0, rfl, q0f, q0y, hS⟩
 refine ⟨_, rfl, ?_⟩
 have e_ := q0y.n; subst e_
 refine p (v := .agg #[.slice none 0 0, .bool q8.fneg, .slice q3 q8.fmag.length c_y0_ret_1_1_0, .bool false, .int .i64 0]) (yl_build bld_150 bldf_150 (parts_eq (pt (va := .agg #[.bool q8.fneg, .slice q3 q8.fmag.length c_y0_ret_1_1_0]) rfl pt0)) (by kernel_rfl)) <| ?_
 refine o_box (cs := [.slice none 0 0, .bool q8.fneg, .slice q3 q8.fmag.length c_y0_ret_1_1_0, .bool false, .int .i64 0]) rfl rfl hS (fun b15 w' hS => ?_)
 refine p (yl_assign rfl) <| x_done <| x_seq <| x_seq <|
  x_region <| p (yl_move rfl) <| p (yl_len_slice usl_75 rfl) <| p (yl_move rfl) <|
  x_done <| ?_
 replace hF := bd_s hF; obtain ⟨oL3, hLL3, hF⟩ := hF
 refine x_join (fun E w => ∃ (q1v : Heap) (q0k : Option Addr) (q0l : Nat) (c_b15_0_L3 : Nat) (q0g : List Value) (q11 : List (List T_exact_Int)), q11 = oL3 ∧ Le q1m q1v ∧ E 5 = .pointer (some ⟨b15, 0, none⟩) ∧ RepL (RpSl R_exact_Int) q1v q11 q0g ∧ St w0 w (cells b15 150 [.slice q0k q0l c_b15_0_L3, .bool q8.fneg, .slice q3 q8.fmag.length c_y0_ret_1_1_0, .bool false, .int .i64 0] :: vec 155 (RpSl R_exact_Int).sz (.slice q0k q0l c_b15_0_L3) q0l q0g :: ro q1v :: l)) ?_ ?_
 ·refine x_block ?_
  replace hS := St.vec_nil hS 155 (RpSl R_exact_Int).sz
  have q1i : RepL (RpSl R_exact_Int) q1m [] [] := rfl
  refine x_loop (fun k_ E w => ∃ (q0m : Heap) (q4 : Option Addr) (q0h : Nat) (c_b15_0_L3h : Nat) (q5 : List Value) (q6 : Int) (q2 : List (List T_exact_Int)), lp (P_exact_begin_L3 a0 more1) k_ (q6, q2) = some oL3 ∧ Le q1m q0m ∧ E 1 = .slice q0d more1.length c_more1 ∧ E 5 = .pointer (some ⟨b15, 0, none⟩) ∧ E 16 = .slice q1h a0.length c_a0 ∧ E 17 = .int .i64 (a0.length : Int) ∧ E 18 = .int .i64 q6 ∧ RepL (RpSl R_exact_Int) q0m q2 q5 ∧ St w0 w (cells b15 150 [.slice q4 q0h c_b15_0_L3h, .bool q8.fneg, .slice q3 q8.fmag.length c_y0_ret_1_1_0, .bool false, .int .i64 0] :: vec 155 (RpSl R_exact_Int).sz (.slice q4 q0h c_b15_0_L3h) q0h q5 :: ro q0m :: l)) fuel ⟨q1m, none, 0, 0, [], 0, [], hLL3, (Le.refl _), rfl, rfl, rfl, rfl, rfl, q1i, (((hS.pull 2).pull 1).pull 2)⟩ ?_
  rintro kL3 E w ⟨q0m, q4, q0h, c_b15_0_L3h, q5, q6, q2, hLL3, q7, q3d, q2o, q26, q27, q1d, q0x, hS⟩
  have e_ := St.vec_n (hS.pull 1) q0x; subst e_
  replace hLL3 := lp_s hLL3; obtain ⟨kL3, obL3, rfl, hFL3, hLL3⟩ := hLL3
  refine x_seq <| x_region <| p (yl_lss q1d q27) <| x_done <|
   x_seq <|
   x_cond_p (q6 < (a0.length : Int)) rfl (fun hc19 => ?_) (fun hc19 => ?_)
  ·replace hFL3 := it_t hc19 hFL3
   replace hFL3 := ck_s hFL3; obtain ⟨q31, hFL3⟩ := hFL3
   replace hFL3 := lv_s hFL3; obtain ⟨q2l, q3t, hFL3⟩ := hFL3
   have q_ := q2z.get q31; obtain ⟨q45, q32, q3u⟩ := q_
   rw [← q3t] at q32
   obtain ⟨q42, q4a, q43, rfl, q30⟩ := q32
   have e_ := q30.n; subst e_
   refine x_skip <| x_seq <| x_block <| x_seq <|
    x_region <| p (yl_move q1d) <| p (yix_f sl_75 q26 q1d (q2z.le (q0f.trans q7)) q31) <| pa (at_load one_87 rfl (Elt.ld (j := 0) (Elt.le q3u (q0f.trans q7)) (hS.pull 2) rfl)) <|
    p (yl_assign rfl) <| p (yl_assign rfl) <| x_done <| x_seq <|
    x_region <| p (yl_assign rfl) <| x_done <| x_seq <|
    x_seq <| x_region <| p (yl_move rfl) <| p (yl_len_slice usl_87 rfl) <|
    p (yl_move rfl) <| x_done <| ?_
   replace hFL3 := bd_s hFL3; obtain ⟨oL7, hLL7, hFL3⟩ := hFL3
   refine x_join (fun E w => ∃ (q1j : Heap) (q1e : Option Addr) (q1f : Nat) (c_l8_L7 : Nat) (q12 : List Value) (q1n : List T_exact_Int), q1n = oL7 ∧ Le q0m q1j ∧ E 1 = .slice q0d more1.length c_more1 ∧ E 5 = .pointer (some ⟨b15, 0, none⟩) ∧ E 6 = .int .i64 q6 ∧ E 8 = .slice q1e q1f c_l8_L7 ∧ E 16 = .slice q1h a0.length c_a0 ∧ E 17 = .int .i64 (a0.length : Int) ∧ E 18 = .int .i64 q6 ∧ RepL R_exact_Int q1j q1n q12 ∧ St w0 w (cells b15 150 [.slice q4 q2.length c_b15_0_L3h, .bool q8.fneg, .slice q3 q8.fmag.length c_y0_ret_1_1_0, .bool false, .int .i64 0] :: vec 79 R_exact_Int.sz (.slice q1e q1f c_l8_L7) q1f q12 :: vec 155 (RpSl R_exact_Int).sz (.slice q4 q2.length c_b15_0_L3h) q2.length q5 :: ro q1j :: l)) ?_ ?_
   ·refine x_block ?_
    replace hS := St.vec_nil hS 79 R_exact_Int.sz
    have q1s : RepL R_exact_Int q0m [] [] := rfl
    refine x_loop (fun k_ E w => ∃ (q1o : Heap) (q13 : Option Addr) (q14 : Nat) (c_l8_L7h : Nat) (q0t : List Value) (q19 : List T_exact_Int) (q1g : Int), lp (P_exact_begin_L7 q2l) k_ (q19, q1g) = some oL7 ∧ Le q0m q1o ∧ E 1 = .slice q0d more1.length c_more1 ∧ E 5 = .pointer (some ⟨b15, 0, none⟩) ∧ E 6 = .int .i64 q6 ∧ E 8 = .slice q13 q14 c_l8_L7h ∧ E 16 = .slice q1h a0.length c_a0 ∧ E 17 = .int .i64 (a0.length : Int) ∧ E 18 = .int .i64 q6 ∧ E 23 = .slice q42 q2l.length q43 ∧ E 24 = .int .i64 (q2l.length : Int) ∧ E 25 = .int .i64 q1g ∧ RepL R_exact_Int q1o q19 q0t ∧ St w0 w (cells b15 150 [.slice q4 q2.length c_b15_0_L3h, .bool q8.fneg, .slice q3 q8.fmag.length c_y0_ret_1_1_0, .bool false, .int .i64 0] :: vec 79 R_exact_Int.sz (.slice q13 q14 c_l8_L7h) q14 q0t :: vec 155 (RpSl R_exact_Int).sz (.slice q4 q2.length c_b15_0_L3h) q2.length q5 :: ro q1o :: l)) fuel ⟨q0m, none, 0, 0, [], [], 0, hLL7, (Le.refl _), q3d, q2o, rfl, rfl, q26, q27, q1d, rfl, rfl, rfl, q1s, ((((hS.pull 3).pull 3).pull 2).pull 3)⟩ ?_
    rintro kL7 E w ⟨q1o, q13, q14, c_l8_L7h, q0t, q19, q1g, hLL7, q15, q2p, q2q, q2r, q2s, q28, q29, q2a, q2b, q2c, q1r, q1k, hS⟩
    have e_ := St.vec_n (hS.pull 1) q1k; subst e_
    replace hLL7 := lp_s hLL7; obtain ⟨kL7, obL7, rfl, hFL7, hLL7⟩ := hLL7
    refine x_seq <| x_region <| p (yl_lss q1r q2c) <| x_done <|
     x_seq <|
     x_cond_p (q1g < (q2l.length : Int)) rfl (fun hc26 => ?_) (fun hc26 => ?_)
    ·replace hFL7 := it_t hc26 hFL7
     replace hFL7 := ck_s hFL7; obtain ⟨q33, hFL7⟩ := hFL7
     replace hFL7 := lv_s hFL7; obtain ⟨x28, hx28, hFL7⟩ := hFL7
     replace hFL7 := bd_s hFL7; obtain ⟨q16, q3v, hFL7⟩ := hFL7
     refine x_skip <| x_seq <| x_block <| x_seq <|
      x_region <| p (yix_f sl_87 q2b q1r (q30.le ((q0f.trans q7).trans q15)) q33) <| pa (at_load one_2 rfl (RdS.getW (q30.le ((q0f.trans q7).trans q15)) (hS.pull 3) q33 hx28)) <| p (yl_assign rfl) <|
      x_done <| x_region <| p (yl_move q2s) <| p (yl_move rfl) <| ?_
     have hcall := c_exact_Of q3v  (hS.pull 3)
     refine o_cc call_51 (args1 rfl) hcall ?_
     rintro e w' ⟨q2t, q0a, q38, c_y0_ret_1_9_2, rfl, q2u, q0z, hS⟩
     refine ⟨_, rfl, ?_⟩
     have e_ := q0z.n; subst e_
     refine o_buildSlice (vs := [.agg #[.bool q16.fneg, .slice q0a q16.fmag.length c_y0_ret_1_9_2]]) (cs := [.bool q16.fneg, .slice q0a q16.fmag.length c_y0_ret_1_9_2]) sl_155 zero_79 (parts_eq (pt (va := .agg #[.bool q16.fneg, .slice q0a q16.fmag.length c_y0_ret_1_9_2]) rfl pt0)) rfl (by intro v hv; simp only [List.mem_cons, List.not_mem_nil, or_false] at hv; first | (subst hv; rfl) | (rcases hv with rfl <;> rfl)) (by decide) rfl hS (fun b32 w' hS => ?_)
     replace hFL7 := lv_s hFL7; obtain ⟨q3e, q3w, hFL7⟩ := hFL7
     replace hFL7 := ck_s hFL7; obtain ⟨q3x, hFL7⟩ := hFL7
     refine o_ap sl_155 zero_79 rfl (by decide) rfl rfl (hS.pull 3) (q1k.le q2u) (src_blk usl_155 hS rfl rfl) (RepL.cons (R := R_exact_Int) (ρ := q2t) (x := q16) (cs := [.bool q16.fneg, .slice q0a q16.fmag.length c_y0_ret_1_9_2]) ⟨_, _, _, rfl, q0z⟩ RepL.nil) q3w q3x (fun A33 c33 cs33 w' hr33 hS => ?_)
     replace hFL7 := ar_s hFL7; obtain ⟨x34, hx34, hFL7⟩ := hFL7
     refine p (yl_assign rfl) <| x_done <| x_blk <| x_region <|
      p (yadd q1r rfl hx34) <| p (yl_move rfl) <| x_done <| ?_
     have e_ := Option.some.inj (show some _ = some _ from hFL7); subst e_
     exact x_inv ⟨kL7, Nat.lt_succ_self _, q2t, A33, q3e.length, c33, cs33, q3e, x34, hLL7, (q15.trans q2u), q2p, q2q, q2r, rfl, q28, q29, q2a, q2b, q2c, rfl, hr33, (((((hS.pull 1).drop.pull 1).pull 3).pull 2).pull 3)⟩
    ·replace hFL7 := it_f hc26 hFL7
     refine x_exitTo _ rfl <| ?_
     have e_ := Option.some.inj (show some _ = some _ from hFL7); subst e_
     exact x_inv ⟨q1o, q13, q19.length, c_l8_L7h, q0t, q19, hLL7, q15, q2p, q2q, q2r, q2s, q28, q29, q2a, q1k, ((((hS.pull 3).pull 3).pull 3).pull 3)⟩
   rintro E w ⟨q1j, q1e, q1f, c_l8_L7, q12, q1n, rfl, q0p, q34, q3y, q3z, q40, q3f, q3g, q3h, q2d, hS⟩
   have e_ := St.vec_n (hS.pull 1) q2d; subst e_
   refine x_seq <| x_seq <| x_region <| p (yl_move q34) <|
    p (yl_len_slice usl_75 rfl) <| p (yl_move rfl) <| x_done <| ?_
   replace hFL3 := bd_s hFL3; obtain ⟨oL12, hLL12, hFL3⟩ := hFL3
   refine x_join (fun E w => ∃ (q1t : Heap) (q0c : Option Addr) (q17 : Nat) (c_l8_L12 : Nat) (q1a : List Value) (q0i : List T_exact_Int), q0i = oL12 ∧ Le q1j q1t ∧ E 1 = .slice q0d more1.length c_more1 ∧ E 5 = .pointer (some ⟨b15, 0, none⟩) ∧ E 8 = .slice q0c q17 c_l8_L12 ∧ E 16 = .slice q1h a0.length c_a0 ∧ E 17 = .int .i64 (a0.length : Int) ∧ E 18 = .int .i64 q6 ∧ RepL R_exact_Int q1t q0i q1a ∧ St w0 w (cells b15 150 [.slice q4 q2.length c_b15_0_L3h, .bool q8.fneg, .slice q3 q8.fmag.length c_y0_ret_1_1_0, .bool false, .int .i64 0] :: vec 79 R_exact_Int.sz (.slice q0c q17 c_l8_L12) q17 q1a :: vec 155 (RpSl R_exact_Int).sz (.slice q4 q2.length c_b15_0_L3h) q2.length q5 :: ro q1t :: l)) ?_ ?_
   ·refine x_block ?_
    refine x_loop (fun k_ E w => ∃ (q1b : Heap) (q0u : Option Addr) (q0v : Nat) (c_l8_L12h : Nat) (q0n : List Value) (q10 : List T_exact_Int) (q18 : Int), lp (P_exact_begin_L12 more1 q6) k_ (q10, q18) = some oL12 ∧ Le q1j q1b ∧ E 1 = .slice q0d more1.length c_more1 ∧ E 5 = .pointer (some ⟨b15, 0, none⟩) ∧ E 6 = .int .i64 q6 ∧ E 8 = .slice q0u q0v c_l8_L12h ∧ E 16 = .slice q1h a0.length c_a0 ∧ E 17 = .int .i64 (a0.length : Int) ∧ E 18 = .int .i64 q6 ∧ E 35 = .slice q0d more1.length c_more1 ∧ E 36 = .int .i64 (more1.length : Int) ∧ E 37 = .int .i64 q18 ∧ RepL R_exact_Int q1b q10 q0n ∧ St w0 w (cells b15 150 [.slice q4 q2.length c_b15_0_L3h, .bool q8.fneg, .slice q3 q8.fmag.length c_y0_ret_1_1_0, .bool false, .int .i64 0] :: vec 79 R_exact_Int.sz (.slice q0u q0v c_l8_L12h) q0v q0n :: vec 155 (RpSl R_exact_Int).sz (.slice q4 q2.length c_b15_0_L3h) q2.length q5 :: ro q1b :: l)) fuel ⟨q1j, q1e, q1n.length, c_l8_L7, q12, q1n, 0, hLL12, (Le.refl _), q34, q3y, q3z, q40, q3f, q3g, q3h, rfl, rfl, rfl, q2d, ((((hS.pull 3).pull 3).pull 3).pull 3)⟩ ?_
    rintro kL12 E w ⟨q1b, q0u, q0v, c_l8_L12h, q0n, q10, q18, hLL12, q0e, q2e, q2f, q2g, q2h, q1w, q1x, q1y, q1z, q20, q1l, q1c, hS⟩
    have e_ := St.vec_n (hS.pull 1) q1c; subst e_
    replace hLL12 := lp_s hLL12; obtain ⟨kL12, obL12, rfl, hFL12, hLL12⟩ := hLL12
    refine x_seq <| x_region <| p (yl_lss q1l q20) <| x_done <|
     x_seq <|
     x_cond_p (q18 < (more1.length : Int)) rfl (fun hc38 => ?_) (fun hc38 => ?_)
    ·replace hFL12 := it_t hc38 hFL12
     replace hFL12 := ck_s hFL12; obtain ⟨q2v, hFL12⟩ := hFL12
     replace hFL12 := lv_s hFL12; obtain ⟨q46, q3i, hFL12⟩ := hFL12
     have q_ := q1q.get q2v; obtain ⟨q44, q2w, q3j⟩ := q_
     rw [← q3i] at q2w
     obtain ⟨q47, q48, q49, rfl, q2m⟩ := q2w
     have e_ := q2m.n; subst e_
     replace hFL12 := ck_s hFL12; obtain ⟨q2x, hFL12⟩ := hFL12
     replace hFL12 := lv_s hFL12; obtain ⟨x45, hx45, hFL12⟩ := hFL12
     replace hFL12 := bd_s hFL12; obtain ⟨q0o, q3k, hFL12⟩ := hFL12
     refine x_skip <| x_seq <| x_block <| x_seq <|
      x_region <| p (yix_f sl_75 q1z q1l (q1q.le (((q0f.trans q7).trans q0p).trans q0e)) q2v) <| pa (at_load one_87 rfl (Elt.ld (j := 0) (Elt.le q3j (((q0f.trans q7).trans q0p).trans q0e)) (hS.pull 3) rfl)) <| p (yl_assign rfl) <|
      x_done <| x_region <| p (yl_move q2h) <| p (yl_move rfl) <|
      p (yl_move q2g) <| p (yix_f sl_87 rfl rfl (q2m.le (((q0f.trans q7).trans q0p).trans q0e)) q2x) <| pa (at_load one_2 rfl (RdS.getW (q2m.le (((q0f.trans q7).trans q0p).trans q0e)) (hS.pull 3) q2x hx45)) <| ?_
     have hcall := c_exact_Of q3k  (hS.pull 3)
     refine o_cc call_51 (args1 rfl) hcall ?_
     rintro e w' ⟨q2i, q9, q35, c_y0_ret_1_14_5, rfl, q2j, q0w, hS⟩
     refine ⟨_, rfl, ?_⟩
     have e_ := q0w.n; subst e_
     refine o_buildSlice (vs := [.agg #[.bool q0o.fneg, .slice q9 q0o.fmag.length c_y0_ret_1_14_5]]) (cs := [.bool q0o.fneg, .slice q9 q0o.fmag.length c_y0_ret_1_14_5]) sl_155 zero_79 (parts_eq (pt (va := .agg #[.bool q0o.fneg, .slice q9 q0o.fmag.length c_y0_ret_1_14_5]) rfl pt0)) rfl (by intro v hv; simp only [List.mem_cons, List.not_mem_nil, or_false] at hv; first | (subst hv; rfl) | (rcases hv with rfl <;> rfl)) (by decide) rfl hS (fun b47 w' hS => ?_)
     replace hFL12 := lv_s hFL12; obtain ⟨q36, q3l, hFL12⟩ := hFL12
     replace hFL12 := ck_s hFL12; obtain ⟨q3m, hFL12⟩ := hFL12
     refine o_ap sl_155 zero_79 rfl (by decide) rfl rfl (hS.pull 3) (q1c.le q2j) (src_blk usl_155 hS rfl rfl) (RepL.cons (R := R_exact_Int) (ρ := q2i) (x := q0o) (cs := [.bool q0o.fneg, .slice q9 q0o.fmag.length c_y0_ret_1_14_5]) ⟨_, _, _, rfl, q0w⟩ RepL.nil) q3l q3m (fun A48 c48 cs48 w' hr48 hS => ?_)
     replace hFL12 := ar_s hFL12; obtain ⟨x49, hx49, hFL12⟩ := hFL12
     refine p (yl_assign rfl) <| x_done <| x_blk <| x_region <|
      p (yadd q1l rfl hx49) <| p (yl_move rfl) <| x_done <| ?_
     have e_ := Option.some.inj (show some _ = some _ from hFL12); subst e_
     exact x_inv ⟨kL12, Nat.lt_succ_self _, q2i, A48, q36.length, c48, cs48, q36, x49, hLL12, (q0e.trans q2j), q2e, q2f, q2g, rfl, q1w, q1x, q1y, q1z, q20, rfl, hr48, (((((hS.pull 1).drop.pull 1).pull 3).pull 2).pull 3)⟩
    ·replace hFL12 := it_f hc38 hFL12
     refine x_exitTo _ rfl <| ?_
     have e_ := Option.some.inj (show some _ = some _ from hFL12); subst e_
     exact x_inv ⟨q1b, q0u, q10.length, c_l8_L12h, q0n, q10, hLL12, q0e, q2e, q2f, q2h, q1w, q1x, q1y, q1c, ((((hS.pull 3).pull 3).pull 3).pull 3)⟩
   rintro E w ⟨q1t, q0c, q17, c_l8_L12, q1a, q0i, rfl, q21, q3n, q22, q3o, q39, q3a, q3b, q23, hS⟩
   have e_ := St.vec_n (hS.pull 1) q23; subst e_
   refine x_region <| p (yl_move q22) <| p (yl_move q22) <| p (yl_nilCheck rfl) <|
    p (yl_field0 fld_150_0 rfl) <| pa (at_load one_148 rfl (hS.cell rfl)) <| p (yl_move q3o) <| ?_
   have q_ := St.vec_fz ((hS.pull 3).pull 2) q23; obtain ⟨q2y, q24, q3p, hS⟩ := q_
   refine o_buildSlice (vs := [.slice q0c q0i.length c_l8_L12]) (cs := [.slice q0c q0i.length c_l8_L12]) sl_148 zero_155 (parts_eq (pt (va := .slice q0c q0i.length c_l8_L12) rfl pt0)) rfl (by intro v hv; simp only [List.mem_cons, List.not_mem_nil, or_false] at hv; first | (subst hv; rfl) | (rcases hv with rfl <;> rfl)) (by decide) rfl hS (fun b56 w' hS => ?_)
   replace hFL3 := lv_s hFL3; obtain ⟨q2n, q3q, hFL3⟩ := hFL3
   replace hFL3 := ck_s hFL3; obtain ⟨q3r, hFL3⟩ := hFL3
   refine o_ap sl_148 zero_155 rfl (by decide) rfl rfl (hS.pull 3) (q0x.le ((q0p.trans q21).trans q24)) (src_blk usl_148 hS rfl rfl) (RepL.cons (R := (RpSl R_exact_Int)) (ρ := q2y) (x := q0i) (cs := [.slice q0c q0i.length c_l8_L12]) ⟨_, _, _, rfl, q3p⟩ RepL.nil) q3q q3r (fun A57 c57 cs57 w' hr57 hS => ?_)
   refine p (yl_nilCheck rfl) <| p (yl_field0 fld_150_0 rfl) <| ?_
   refine o_store1 (v := .slice A57 q2n.length c57) one_148 rfl rfl rfl rfl (hS.pull 3) (fun w' hS => ?_)
   replace hFL3 := ar_s hFL3; obtain ⟨x60, hx60, hFL3⟩ := hFL3
   refine x_done <| x_blk <| x_region <| p (yadd q3b rfl hx60) <|
    p (yl_move rfl) <| x_done <| ?_
   have e_ := Option.some.inj (show some _ = some _ from hFL3); subst e_
   exact x_inv ⟨kL3, Nat.lt_succ_self _, q2y, A57, q2n.length, c57, cs57, x60, q2n, hLL3, (((q7.trans q0p).trans q21).trans q24), q3n, q22, q39, q3a, rfl, hr57, ((((hS.pull 2).drop.pull 2).pull 2).pull 2)⟩
  ·replace hFL3 := it_f hc19 hFL3
   refine x_exitTo _ rfl <| ?_
   have e_ := Option.some.inj (show some _ = some _ from hFL3); subst e_
   exact x_inv ⟨q0m, q4, q2.length, c_b15_0_L3h, q5, q2, hLL3, q7, q2o, q0x, (((hS.pull 2).pull 2).pull 2)⟩
 rintro E w ⟨q1v, q0k, q0l, c_b15_0_L3, q0g, q11, rfl, q2k, q41, q1p, hS⟩
 have e_ := St.vec_n (hS.pull 1) q1p; subst e_
 refine x_seq <| x_region <| p (yl_move q41) <| p (yl_assign rfl) <|
  x_done <| ?_
 have e_ := Option.some.inj (show some _ = some _ from hF); subst e_
 exact x_return ⟨_, ⟨_, _, rfl, rfl, rfl⟩, q1v, b15, q0k, q11.length, c_b15_0_L3, q0g, q3, q8.fmag.length, c_y0_ret_1_1_0, rfl, (q0f.trans q2k), q1p, (q0y.le q2k), (((hS.pull 2).pull 2).pull 2)⟩
attribute [irreducible] P_exact_begin

def P_exact_Neg (a0 : T_exact_Int) : Option T_exact_Int :=
 bd (P_exact_made (!a0.fneg) a0.fmag) fun q2 =>
 some q2
set_option maxHeartbeats 4000000 in
set_option maxRecDepth 100000 in
theorem c_exact_Neg {w0 w : World} {l : List Assn} {ρ : Heap} {q6 : Option Addr} {q7 : Nat} {c_a0_1 : Nat} {a0 : T_exact_Int} {r : T_exact_Int} (hF : P_exact_Neg a0 = some r) (q8 : RdS (RpI .u32) ρ q6 q7 c_a0_1 a0.fmag) (hS : St w0 w (ro ρ :: l)) :
  Calls Try.prog 43 #[.agg #[.bool a0.fneg, .slice q6 q7 c_a0_1]] w fun e w' => ∃ (q4 : Option Addr) (q5 : Nat) (c_y0_ret_1 : Nat), e = .returned (.agg #[.bool r.fneg, .slice q4 q5 c_y0_ret_1]) ∧ RdS (RpI .u32) ρ q4 q5 c_y0_ret_1 r.fmag ∧ St w0 w' (ro ρ :: l) := by
 have e_ := q8.n; subst e_
 refine enterC Try.func43 rfl 9 rfl (by simp) ?_
 refine x_seq <| x_region <| ?_
 refine o_box (cs := [.bool a0.fneg, .slice q6 a0.fmag.length c_a0_1]) rfl rfl hS (fun b1 w' hS => ?_)
 refine o_alloc zero_79 hS (fun b2 w' hS => ?_)
 replace hF := bd_s hF; obtain ⟨q9, q0b, hF⟩ := hF
 refine x_done <| x_seq <| x_region <| p (yl_field0 fld_79_0 rfl) <|
  pa (at_load one_4 rfl ((hS.pull 1).cell rfl)) <| p (yl_not rfl) <| p (yl_field0 fld_79_1 rfl) <| pa (at_load one_77 rfl ((hS.pull 1).cell rfl)) <| ?_
 have hcall := c_exact_made q0b q8 (hS.pull 2)
 refine o_cc call_93 (args2 rfl rfl) hcall ?_
 rintro e w' ⟨q2, q0a, c_y0_ret_1_1_5, rfl, q3, hS⟩
 refine ⟨_, rfl, ?_⟩
 have e_ := q3.n; subst e_
 refine o_storeAgg (news := [.bool q9.fneg, .slice q2 q9.fmag.length c_y0_ret_1_1_5]) agg_79 rfl rfl rfl (by simp [over_length]) (hS.pull 1) (fun w' hS => ?_)
 refine x_done <| ?_
 have e_ := Option.some.inj (show some _ = some _ from hF); subst e_
 exact x_return ⟨_, ⟨_, _, _, rfl, rfl, ldvA agg_79 rfl (fun j v hj => by rw [add0]; exact St.cell hS hj), rfl⟩, q2, q9.fmag.length, c_y0_ret_1_1_5, rfl, q3, ((hS.drop.pull 1).drop)⟩
attribute [irreducible] P_exact_Neg

def P_math_bits_LeadingZeros32 (x0 : Int) : Option Int :=
 bd (P_math_bits_Len32 x0) fun q2 =>
 ar ((32 : Int) - q2) fun x5 =>
 some x5
set_option maxHeartbeats 4000000 in
set_option maxRecDepth 100000 in
theorem c_math_bits_LeadingZeros32 {w0 w : World} {l : List Assn} {ρ : Heap} {x0 : Int} {r : Int} (hF : P_math_bits_LeadingZeros32 x0 = some r) (hS : St w0 w (ro ρ :: l)) :
  Calls Try.prog 146 #[.int .u32 x0] w fun e w' => e = .returned (.int .i64 r) ∧ St w0 w' (ro ρ :: l) := by
 refine enterC Try.func146 rfl 6 rfl (by simp) ?_
 replace hF := bd_s hF; obtain ⟨q3, q2, hF⟩ := hF
 refine x_seq <| x_region <| p (yl_assign rfl) <| x_done <|
  x_seq <| x_region <| p (yl_move rfl) <| ?_
 have hcall := c_math_bits_Len32 q2  hS
 refine o_cc call_141 (args1 rfl) (hcall) ?_
 rintro e w' ⟨rfl, hS⟩
 refine ⟨_, rfl, ?_⟩
 replace hF := ar_s hF; obtain ⟨x5, hx5, hF⟩ := hF
 refine p (ysub rfl rfl hx5) <| p (yl_assign rfl) <| x_done <| ?_
 have e_ := Option.some.inj (show some _ = some _ from hF); subst e_
 exact x_return ⟨_, ⟨_, _, rfl, rfl, rfl⟩, rfl, hS⟩
attribute [irreducible] P_math_bits_LeadingZeros32

def P_exact_shifted_L3 (a0 : List Int) (k1 : Int) : (List Int × Int) → Option ((List Int × Int) ⊕ List Int) := fun (q3, q2) =>
 if q2 < (a0.length : Int) then
  ck (inb q2 a0.length) <|
  lv (gt a0 q2) fun x18 =>
  ck (inb q2 q3.length) <|
  lv (gt q3 q2) fun x22 =>
  ck (0 ≤ k1) <|
  lv (shl .u32 x18 k1) fun x25 =>
  lv (bOr .u32 x22 x25) fun x26 =>
  ck (inb q2 q3.length) <|
  lv (stt q3 q2 x26) fun q4 =>
  ar (q2 + 1) fun x30 =>
  lv (x18 % 18446744073709551616) fun x32 =>
  ck (0 ≤ k1) <|
  lv (shl .u64 x32 k1) fun x34 =>
  ck (0 ≤ (32 : Int)) <|
  lv (shr .u64 x34 32) fun x35 =>
  lv (x35 % 4294967296) fun x36 =>
  ck (inb x30 q4.length) <|
  lv (stt q4 x30 x36) fun q5 =>
  ar (q2 + 1) fun x38 =>
  some (Sum.inl (q5, x38))
 else
  some (Sum.inr q3)
def P_exact_shifted (a0 : List Int) (k1 : Int) : Option (List Int) :=
 ar ((a0.length : Int) + 1) fun x10 =>
 ck (mkOk 4 x10) <|
 lv ((List.replicate (x10 : Int).toNat 0 : List Int)) fun q3 =>
 bd (
  lp (P_exact_shifted_L3 a0 k1) fuel (q3, 0)) fun q2 =>
 some q2
set_option maxHeartbeats 4000000 in
set_option maxRecDepth 100000 in
theorem c_exact_shifted {w0 w : World} {l : List Assn} {ρ : Heap} {q0i : Option Addr} {q0p : Nat} {c_a0 : Nat} {a0 : List Int} {k1 : Int} {r : List Int} (hF : P_exact_shifted a0 k1 = some r) (q0j : RdS (RpI .u32) ρ q0i q0p c_a0 a0) (hS : St w0 w (ro ρ :: l)) :
  Calls Try.prog 147 #[.slice q0i q0p c_a0, .int .i64 k1] w fun e w' => ∃ (q0d : Option Addr) (q9 : Nat) (c_y0_ret : Nat) (q0c : List Value), e = .returned (.slice q0d q9 c_y0_ret) ∧ RepL (RpI .u32) ρ r q0c ∧ St w0 w' (vec 159 (RpI .u32).sz (.slice q0d q9 c_y0_ret) q9 q0c :: ro ρ :: l) := by
 have e_ := q0j.n; subst e_
 refine enterC Try.func147 rfl 40 rfl (by simp) ?_
 replace hF := ar_s hF; obtain ⟨x10, hx10, hF⟩ := hF
 refine x_seq <| x_region <| p (yl_assign rfl) <| x_done <|
  x_seq <| x_region <| p (yl_move rfl) <| p (yl_len_slice usl_77 rfl) <|
  p (yadd rfl rfl hx10) <| ?_
 replace hF := ck_s hF; obtain ⟨q0t, hF⟩ := hF
 replace hF := lv_s hF; obtain ⟨q3, q0u, hF⟩ := hF
 refine o_mk sl_77 zero_159 (show (RpI .u32).ok ρ _ 0 from rfl) rfl rfl q0t (by decide) q0u hS (fun A11 cs11 w' hr11 hS => ?_)
 refine p (yl_assign rfl) <| x_done <| x_seq <| x_seq <|
  x_region <| p (yl_move rfl) <| p (yl_len_slice usl_77 rfl) <| p (yl_move rfl) <|
  x_done <| ?_
 replace hF := bd_s hF; obtain ⟨oL3, hLL3, hF⟩ := hF
 refine x_join (fun E w => ∃ (q5 : List Value) (q0b : List Int), q0b = oL3 ∧ E 5 = .slice A11 q3.length q3.length ∧ RepL (RpI .u32) ρ q0b q5 ∧ St w0 w (vec 159 (RpI .u32).sz (.slice A11 q3.length q3.length) q3.length q5 :: ro ρ :: l)) ?_ ?_
 ·refine x_block ?_
  refine x_loop (fun k_ E w => ∃ (q4 : List Value) (q6 : List Int) (q7 : Int), lp (P_exact_shifted_L3 a0 k1) k_ (q6, q7) = some oL3 ∧ E 1 = .int .i64 k1 ∧ E 5 = .slice A11 q3.length q3.length ∧ E 12 = .slice q0i a0.length c_a0 ∧ E 13 = .int .i64 (a0.length : Int) ∧ E 14 = .int .i64 q7 ∧ RepL (RpI .u32) ρ q6 q4 ∧ St w0 w (vec 159 (RpI .u32).sz (.slice A11 q3.length q3.length) q3.length q4 :: ro ρ :: l)) fuel ⟨cs11, q3, 0, hLL3, rfl, rfl, rfl, rfl, rfl, hr11, ((hS.pull 1).pull 1)⟩ ?_
  rintro kL3 E w ⟨q4, q6, q7, hLL3, q0e, q0a, q0f, q0g, q8, q2, hS⟩
  replace hLL3 := lp_s hLL3; obtain ⟨kL3, obL3, rfl, hFL3, hLL3⟩ := hLL3
  refine x_seq <| x_region <| p (yl_lss q8 q0g) <| x_done <|
   x_seq <|
   x_cond_p (q7 < (a0.length : Int)) rfl (fun hc15 => ?_) (fun hc15 => ?_)
  ·replace hFL3 := it_t hc15 hFL3
   replace hFL3 := ck_s hFL3; obtain ⟨q0k, hFL3⟩ := hFL3
   replace hFL3 := lv_s hFL3; obtain ⟨x18, hx18, hFL3⟩ := hFL3
   replace hFL3 := ck_s hFL3; obtain ⟨q0l, hFL3⟩ := hFL3
   replace hFL3 := lv_s hFL3; obtain ⟨x22, hx22, hFL3⟩ := hFL3
   replace hFL3 := ck_s hFL3; obtain ⟨q0v, hFL3⟩ := hFL3
   replace hFL3 := lv_s hFL3; obtain ⟨x25, hx25, hFL3⟩ := hFL3
   replace hFL3 := lv_s hFL3; obtain ⟨x26, hx26, hFL3⟩ := hFL3
   replace hFL3 := ck_s hFL3; obtain ⟨q0m, hFL3⟩ := hFL3
   refine x_skip <| x_seq <| x_block <| x_seq <|
    x_region <| p (yl_move q8) <| p (yix_f sl_77 q0f q8 q0j q0k) <| pa (at_load one_159 rfl (RdS.getW q0j (hS.pull 1) q0k hx18)) <|
    p (yl_assign rfl) <| p (yl_assign rfl) <| x_done <| x_seq <|
    x_head 9 mixed (by kernel_rfl) hS _ _ rfl rfl <| q (yl_move q0a) <| q (yl_move rfl) <| q (yix_o sl_77 rfl rfl hS q2 q0l) <|
    qa (fun w' hS => at_load one_159 rfl (RepL.getW q2 hS q0l hx22)) <| q (yl_move rfl) <| q (yl_move q0e) <| q (yshl rfl rfl q0v hx25) <|
    q (yor rfl rfl hx26) <| q (yix_o sl_77 rfl rfl hS q2 q0m) <|
    q_done fun w' hS => ?_
   replace hFL3 := lv_s hFL3; obtain ⟨q12, q0w, hFL3⟩ := hFL3
   refine o_put' (news := [.int .u32 x26]) sz_159 rfl rfl rfl rfl (o := 0) rfl q0m rfl hS q2 (Le.refl _) (fun c hc => ok_all hc (show (RpI .u32).ok ρ [.int .u32 x26] x26 from rfl)) q0w (fun q11 w' q0n hS => ?_)
   replace hFL3 := ar_s hFL3; obtain ⟨x30, hx30, hFL3⟩ := hFL3
   replace hFL3 := lv_s hFL3; obtain ⟨x32, hx32, hFL3⟩ := hFL3
   replace hFL3 := ck_s hFL3; obtain ⟨q0x, hFL3⟩ := hFL3
   replace hFL3 := lv_s hFL3; obtain ⟨x34, hx34, hFL3⟩ := hFL3
   replace hFL3 := ck_s hFL3; obtain ⟨q0y, hFL3⟩ := hFL3
   replace hFL3 := lv_s hFL3; obtain ⟨x35, hx35, hFL3⟩ := hFL3
   replace hFL3 := lv_s hFL3; obtain ⟨x36, hx36, hFL3⟩ := hFL3
   replace hFL3 := ck_s hFL3; obtain ⟨q0o, hFL3⟩ := hFL3
   refine x_done <| x_region <| p (yl_move q0a) <| p (yl_move rfl) <|
    p (yadd rfl rfl hx30) <| p (yl_move rfl) <| p (yconvu wm_u64 uk_159 ik_158 rfl hx32) <| p (yl_move q0e) <|
    p (yshl rfl rfl q0x hx34) <| p (yshr rfl rfl q0y hx35) <| p (yconvu wm_u32 uk_158 ik_159 rfl hx36) <| p (yix_o sl_77 rfl rfl hS q0n q0o) <| ?_
   replace hFL3 := lv_s hFL3; obtain ⟨q0z, q0q, hFL3⟩ := hFL3
   refine o_put' (news := [.int .u32 x36]) sz_159 rfl rfl rfl rfl (o := 0) rfl q0o rfl hS q0n (Le.refl _) (fun c hc => ok_all hc (show (RpI .u32).ok ρ [.int .u32 x36] x36 from rfl)) q0q (fun q0r w' q0s hS => ?_)
   replace hFL3 := ar_s hFL3; obtain ⟨x38, hx38, hFL3⟩ := hFL3
   refine x_done <| x_blk <| x_region <| p (yadd q8 rfl hx38) <|
    p (yl_move rfl) <| x_done <| ?_
   have e_ := Option.some.inj (show some _ = some _ from hFL3); subst e_
   exact x_inv ⟨kL3, Nat.lt_succ_self _, q0r, q0z, x38, hLL3, q0e, q0a, q0f, q0g, rfl, q0s, ((hS.pull 1).pull 1)⟩
  ·replace hFL3 := it_f hc15 hFL3
   refine x_exitTo _ rfl <| ?_
   have e_ := Option.some.inj (show some _ = some _ from hFL3); subst e_
   exact x_inv ⟨q4, q6, hLL3, q0a, q2, ((hS.pull 1).pull 1)⟩
 rintro E w ⟨q5, q0b, rfl, q10, q0h, hS⟩
 refine x_seq <| x_region <| p (yl_move q10) <| p (yl_assign rfl) <|
  x_done <| ?_
 have e_ := Option.some.inj (show some _ = some _ from hF); subst e_
 exact x_return ⟨_, ⟨_, _, rfl, rfl, rfl⟩, A11, q3.length, q3.length, q5, rfl, q0h, ((hS.pull 1).pull 1)⟩
attribute [irreducible] P_exact_shifted

def P_exact_take_L4 (q7 : Int) (q8 : Int) (v1 : List Int) (guess2 : Int) : (Int × Int × Int × List Int) → Option ((Int × Int × Int × List Int) ⊕ (Int × List Int)) := fun (q5, q4, q2, q3) =>
 if q2 < (q8.toNat : Int) then
  bd (
   if q2 < (v1.length : Int) then
    ck (inb q2 v1.length) <|
    lv (gt v1 q2) fun x25 =>
    lv (x25 % 18446744073709551616) fun x26 =>
    lv ((guess2 * x26) % 18446744073709551616) fun x27 =>
    lv ((q5 + x27) % 18446744073709551616) fun x28 =>
    some x28
   else
    some q5) fun q6 =>
  ck (0 ≤ q7 ∧ inb q2 q8.toNat) <|
  ck (inb (q7 + q2) q3.length) <|
  lv (gt q3 (q7 + q2)) fun x32 =>
  ar (x32) fun x33 =>
  lv (q6 % 4294967296) fun x35 =>
  ar (x35) fun x36 =>
  ar (x33 - x36) fun x37 =>
  ar (x37 + q4) fun x39 =>
  lv (x39 % 4294967296) fun x43 =>
  ck (0 ≤ q7 ∧ inb q2 q8.toNat) <|
  ck (inb (q7 + q2) q3.length) <|
  lv (stt q3 (q7 + q2) x43) fun q9 =>
  ck (0 ≤ (32 : Int)) <|
  lv (shr .i64 x39 32) fun x46 =>
  ck (0 ≤ (32 : Int)) <|
  lv (shr .u64 q6 32) fun x48 =>
  ar (q2 + 1) fun x49 =>
  some (Sum.inl (x48, x46, x49, q9))
 else
  some (Sum.inr (q4, q3))
def P_exact_take (q4 : List Int) (q5 : Int) (q6 : Int) (v1 : List Int) (guess2 : Int) : Option (Bool × List Int) :=
 bd (
  lp (P_exact_take_L4 q5 q6 v1 guess2) fuel (0, 0, 0, q4)) fun (q2, q3) =>
 some (decide (q2 < 0), q3)
set_option maxHeartbeats 4000000 in
set_option maxRecDepth 100000 in
theorem c_exact_take {w0 w : World} {l : List Assn} {ρ : Heap} {q7 : Option Addr} {q0h : Nat} {c_u0_s : Nat} {q0j : List Value} {cw_u0 : Nat} {q0q : Option Addr} {q10 : Nat} {c_v1 : Nat} {q0b : List Int} {q0l : Int} {q0f : Int} {v1 : List Int} {guess2 : Int} {r : (Bool × List Int)} (hF : P_exact_take q0b q0l q0f v1 guess2 = some r) (q0r : RepL (RpI .u32) ρ q0b q0j) (q0w : RdS (RpI .u32) ρ q0q q10 c_v1 v1) (hS : St w0 w (vec 159 (RpI .u32).sz (.slice q7 q0h c_u0_s) q0h q0j :: ro ρ :: l)) :
  Calls Try.prog 148 #[.slice (some ((adr q7).add (q0l.toNat * (RpI .u32).sz))) q0f.toNat cw_u0, .slice q0q q10 c_v1, .int .u64 guess2] w fun e w' => ∃ (q0a : List Value), e = .returned (.bool r.1) ∧ RepL (RpI .u32) ρ r.2 q0a ∧ St w0 w' (vec 159 (RpI .u32).sz (.slice q7 q0h c_u0_s) q0h q0a :: ro ρ :: l) := by
 have e_ := St.vec_n hS q0r; subst e_
 have e_ := q0w.n; subst e_
 refine enterC Try.func148 rfl 52 rfl (by simp) ?_
 refine x_seq <| x_region <| p (yl_assign rfl) <| x_done <|
  x_seq <| x_region <| p (yl_assign rfl) <| x_done <|
  x_seq <| x_region <| p (yl_assign rfl) <| x_done <|
  x_seq <| x_seq <| x_region <| p (yl_move rfl) <|
  p (yl_len_slice usl_77 rfl) <| p (yl_move rfl) <| x_done <| ?_
 replace hF := bd_s hF; obtain ⟨oL4, hLL4, hF⟩ := hF
 refine x_join (fun E w => ∃ (q4 : List Value) (q0c : Int) (q0d : List Int), (q0c, q0d) = oL4 ∧ E 8 = .int .i64 q0c ∧ RepL (RpI .u32) ρ q0d q4 ∧ St w0 w (vec 159 (RpI .u32).sz (.slice q7 q0b.length c_u0_s) q0b.length q4 :: ro ρ :: l)) ?_ ?_
 ·refine x_block ?_
  refine x_loop (fun k_ E w => ∃ (q2 : List Value) (q9 : Int) (q3 : Int) (q5 : Int) (q6 : List Int), lp (P_exact_take_L4 q0l q0f v1 guess2) k_ (q9, q3, q5, q6) = some oL4 ∧ E 0 = .slice (some ((adr q7).add (q0l.toNat * (RpI .u32).sz))) q0f.toNat cw_u0 ∧ E 1 = .slice q0q v1.length c_v1 ∧ E 2 = .int .u64 guess2 ∧ E 7 = .int .u64 q9 ∧ E 8 = .int .i64 q3 ∧ E 12 = .int .i64 (q0f.toNat : Int) ∧ E 13 = .int .i64 q5 ∧ RepL (RpI .u32) ρ q6 q2 ∧ St w0 w (vec 159 (RpI .u32).sz (.slice q7 q0b.length c_u0_s) q0b.length q2 :: ro ρ :: l)) fuel ⟨q0j, 0, 0, 0, q0b, hLL4, rfl, rfl, rfl, rfl, rfl, rfl, rfl, q0r, ((hS.pull 1).pull 1)⟩ ?_
  rintro kL4 E w ⟨q2, q9, q3, q5, q6, hLL4, q0s, q0i, q0m, q0t, q0n, q0k, q0g, q8, hS⟩
  replace hLL4 := lp_s hLL4; obtain ⟨kL4, obL4, rfl, hFL4, hLL4⟩ := hLL4
  refine x_seq <| x_region <| p (yl_lss q0g q0k) <| x_done <|
   x_seq <|
   x_cond_p (q5 < (q0f.toNat : Int)) rfl (fun hc14 => ?_) (fun hc14 => ?_)
  ·replace hFL4 := it_t hc14 hFL4
   refine x_skip <| x_seq <| x_block <| x_seq <|
    x_region <| p (yl_move q0g) <| p (yl_assign rfl) <| x_done <|
    x_seq <| x_seq <| x_region <| p (yl_move rfl) <|
    p (yl_move q0i) <| p (yl_len_slice usl_77 rfl) <| p (yl_lss rfl rfl) <| x_done <| ?_
   replace hFL4 := bd_s hFL4; obtain ⟨oc19, hFc19, hFL4⟩ := hFL4
   refine x_join (fun E w => ∃ (q0e : Int), q0e = oc19 ∧ E 0 = .slice (some ((adr q7).add (q0l.toNat * (RpI .u32).sz))) q0f.toNat cw_u0 ∧ E 1 = .slice q0q v1.length c_v1 ∧ E 2 = .int .u64 guess2 ∧ E 7 = .int .u64 q0e ∧ E 8 = .int .i64 q3 ∧ E 9 = .int .i64 q5 ∧ E 12 = .int .i64 (q0f.toNat : Int) ∧ E 13 = .int .i64 q5 ∧ St w0 w (vec 159 (RpI .u32).sz (.slice q7 q0b.length c_u0_s) q0b.length q2 :: ro ρ :: l)) ?_ ?_
   ·refine x_cond_p (q5 < (v1.length : Int)) rfl (fun hc19 => ?_) (fun hc19 => ?_)
    ·replace hFc19 := it_t hc19 hFc19
     replace hFc19 := ck_s hFc19; obtain ⟨q0x, hFc19⟩ := hFc19
     replace hFc19 := lv_s hFc19; obtain ⟨x25, hx25, hFc19⟩ := hFc19
     replace hFc19 := lv_s hFc19; obtain ⟨x26, hx26, hFc19⟩ := hFc19
     replace hFc19 := lv_s hFc19; obtain ⟨x27, hx27, hFc19⟩ := hFc19
     replace hFc19 := lv_s hFc19; obtain ⟨x28, hx28, hFc19⟩ := hFc19
     refine x_region <| p (yl_move q0t) <| p (yl_move q0m) <| p (yl_move q0i) <|
      p (yl_move rfl) <| p (yix_f sl_77 rfl rfl q0w q0x) <| pa (at_load one_159 rfl (RdS.getW q0w (hS.pull 1) q0x hx25)) <| p (yconvu wm_u64 uk_159 ik_158 rfl hx26) <|
      p (ymulu wm_u64 rfl rfl hx27) <| p (yaddu wm_u64 rfl rfl hx28) <| p (yl_assign rfl) <| x_done <| ?_
     exact x_inv ⟨x28, (Option.some.inj (show some _ = some _ from hFc19)), q0s, q0i, q0m, rfl, q0n, rfl, q0k, q0g, ((hS.pull 1).pull 1)⟩
    ·replace hFc19 := it_f hc19 hFc19
     refine x_skip <| ?_
     exact x_inv ⟨q9, (Option.some.inj (show some _ = some _ from hFc19)), q0s, q0i, q0m, q0t, q0n, rfl, q0k, q0g, ((hS.pull 1).pull 1)⟩
   rintro E w ⟨q0e, rfl, q0o, q11, q12, q0u, q13, q0v, q0y, q0z, hS⟩
   replace hFL4 := ck_s hFL4; obtain ⟨q18, hFL4⟩ := hFL4
   replace hFL4 := ck_s hFL4; obtain ⟨q14, hFL4⟩ := hFL4
   replace hFL4 := lv_s hFL4; obtain ⟨x32, hx32, hFL4⟩ := hFL4
   replace hFL4 := ar_s hFL4; obtain ⟨x33, hx33, hFL4⟩ := hFL4
   replace hFL4 := lv_s hFL4; obtain ⟨x35, hx35, hFL4⟩ := hFL4
   replace hFL4 := ar_s hFL4; obtain ⟨x36, hx36, hFL4⟩ := hFL4
   replace hFL4 := ar_s hFL4; obtain ⟨x37, hx37, hFL4⟩ := hFL4
   replace hFL4 := ar_s hFL4; obtain ⟨x39, hx39, hFL4⟩ := hFL4
   replace hFL4 := lv_s hFL4; obtain ⟨x43, hx43, hFL4⟩ := hFL4
   replace hFL4 := ck_s hFL4; obtain ⟨q19, hFL4⟩ := hFL4
   replace hFL4 := ck_s hFL4; obtain ⟨q15, hFL4⟩ := hFL4
   refine x_seq <| x_region <| p (yl_move q0o) <| p (yl_move q0v) <|
    p (yixw sl_77 rfl rfl q18) <| pa (at_load one_159 rfl (RepL.getW q8 hS q14 hx32)) <| p (yconvi uk_159 ik_2 rfl hx33) <| p (yl_move q0u) <|
    p (yconvu wm_u32 uk_158 ik_159 rfl hx35) <| p (yconvi uk_159 ik_2 rfl hx36) <| p (ysub rfl rfl hx37) <| p (yl_move q13) <|
    p (yadd rfl rfl hx39) <| p (yl_assign rfl) <| x_done <| x_seq <|
    x_region <| p (yl_move q0o) <| p (yl_move q0v) <| p (yl_move rfl) <|
    p (yconvu wm_u32 uk_2 ik_159 rfl hx43) <| p (yixw sl_77 rfl rfl q19) <| ?_
   replace hFL4 := lv_s hFL4; obtain ⟨q1e, q1a, hFL4⟩ := hFL4
   refine o_put' (news := [.int .u32 x43]) sz_159 rfl rfl rfl rfl (o := 0) rfl q15 rfl hS q8 (Le.refl _) (fun c hc => ok_all hc (show (RpI .u32).ok ρ [.int .u32 x43] x43 from rfl)) q1a (fun q1b w' q1c hS => ?_)
   replace hFL4 := ck_s hFL4; obtain ⟨q16, hFL4⟩ := hFL4
   replace hFL4 := lv_s hFL4; obtain ⟨x46, hx46, hFL4⟩ := hFL4
   replace hFL4 := ck_s hFL4; obtain ⟨q17, hFL4⟩ := hFL4
   replace hFL4 := lv_s hFL4; obtain ⟨x48, hx48, hFL4⟩ := hFL4
   replace hFL4 := ar_s hFL4; obtain ⟨x49, hx49, hFL4⟩ := hFL4
   refine x_done <| x_seq <| x_region <| p (yl_move rfl) <|
    p (yshr rfl rfl q16 hx46) <| p (yl_assign rfl) <| x_done <| x_region <|
    p (yl_move q0u) <| p (yshr rfl rfl q17 hx48) <| p (yl_assign rfl) <| x_done <|
    x_blk <| x_region <| p (yadd q0z rfl hx49) <| p (yl_move rfl) <|
    x_done <| ?_
   have e_ := Option.some.inj (show some _ = some _ from hFL4); subst e_
   exact x_inv ⟨kL4, Nat.lt_succ_self _, q1b, x48, x46, x49, q1e, hLL4, q0o, q11, q12, rfl, rfl, q0y, rfl, q1c, ((hS.pull 1).pull 1)⟩
  ·replace hFL4 := it_f hc14 hFL4
   refine x_exitTo _ rfl <| ?_
   have e_ := Option.some.inj (show some _ = some _ from hFL4); subst e_
   exact x_inv ⟨q2, q3, q6, hLL4, q0n, q8, ((hS.pull 1).pull 1)⟩
 rintro E w ⟨q4, q0c, q0d, rfl, q1d, q0p, hS⟩
 refine x_seq <| x_region <| p (yl_move q1d) <| p (yl_lss rfl rfl) <|
  p (yl_assign rfl) <| x_done <| ?_
 have e_ := Option.some.inj (show some _ = some _ from hF); subst e_
 exact x_return ⟨_, ⟨_, _, rfl, rfl, rfl⟩, q4, rfl, q0p, ((hS.pull 1).pull 1)⟩
attribute [irreducible] P_exact_take

def P_exact_give_L2 (q5 : Int) (q7 : Int) (v1 : List Int) : (Int × Int × List Int) → Option ((Int × Int × List Int) ⊕ List Int) := fun (q6, q2, q3) =>
 if q2 < (q7.toNat : Int) then
  ck (0 ≤ q5 ∧ inb q2 q7.toNat) <|
  ck (inb (q5 + q2) q3.length) <|
  lv (gt q3 (q5 + q2)) fun x15 =>
  lv (x15 % 18446744073709551616) fun x16 =>
  lv ((q6 + x16) % 18446744073709551616) fun x17 =>
  bd (
   if q2 < (v1.length : Int) then
    ck (inb q2 v1.length) <|
    lv (gt v1 q2) fun x26 =>
    lv (x26 % 18446744073709551616) fun x27 =>
    lv ((x17 + x27) % 18446744073709551616) fun x28 =>
    some x28
   else
    some x17) fun q4 =>
  lv (q4 % 4294967296) fun x32 =>
  ck (0 ≤ q5 ∧ inb q2 q7.toNat) <|
  ck (inb (q5 + q2) q3.length) <|
  lv (stt q3 (q5 + q2) x32) fun q8 =>
  ck (0 ≤ (32 : Int)) <|
  lv (shr .u64 q4 32) fun x35 =>
  ar (q2 + 1) fun x36 =>
  some (Sum.inl (x35, x36, q8))
 else
  some (Sum.inr q3)
def P_exact_give (q3 : List Int) (q4 : Int) (q5 : Int) (v1 : List Int) : Option (List Int) :=
 bd (
  lp (P_exact_give_L2 q4 q5 v1) fuel (0, 0, q3)) fun q2 =>
 some q2
set_option maxHeartbeats 4000000 in
set_option maxRecDepth 100000 in
theorem c_exact_give {w0 w : World} {l : List Assn} {ρ : Heap} {q5 : Option Addr} {q0e : Nat} {c_u0_s : Nat} {q0h : List Value} {cw_u0 : Nat} {q0m : Option Addr} {q0s : Nat} {c_v1 : Nat} {q9 : List Int} {q0i : Int} {q0d : Int} {v1 : List Int} {r : List Int} (hF : P_exact_give q9 q0i q0d v1 = some r) (q0n : RepL (RpI .u32) ρ q9 q0h) (q0q : RdS (RpI .u32) ρ q0m q0s c_v1 v1) (hS : St w0 w (vec 159 (RpI .u32).sz (.slice q5 q0e c_u0_s) q0e q0h :: ro ρ :: l)) :
  Calls Try.prog 149 #[.slice (some ((adr q5).add (q0i.toNat * (RpI .u32).sz))) q0d.toNat cw_u0, .slice q0m q0s c_v1] w fun e w' => ∃ (q8 : List Value), e = .returned (.tuple #[]) ∧ RepL (RpI .u32) ρ r q8 ∧ St w0 w' (vec 159 (RpI .u32).sz (.slice q5 q0e c_u0_s) q0e q8 :: ro ρ :: l) := by
 have e_ := St.vec_n hS q0n; subst e_
 have e_ := q0q.n; subst e_
 refine enterC Try.func149 rfl 37 rfl (by simp) ?_
 refine x_seq <| x_region <| p (yl_assign rfl) <| x_done <|
  x_seq <| x_region <| p (yl_move rfl) <| p (yl_len_slice usl_77 rfl) <|
  p (yl_move rfl) <| x_done <| ?_
 replace hF := bd_s hF; obtain ⟨oL2, hLL2, hF⟩ := hF
 refine x_join (fun E w => ∃ (q3 : List Value) (q0a : List Int), q0a = oL2 ∧ RepL (RpI .u32) ρ q0a q3 ∧ St w0 w (vec 159 (RpI .u32).sz (.slice q5 q9.length c_u0_s) q9.length q3 :: ro ρ :: l)) ?_ ?_
 ·refine x_block ?_
  refine x_loop (fun k_ E w => ∃ (q2 : List Value) (q0b : Int) (q7 : Int) (q4 : List Int), lp (P_exact_give_L2 q0i q0d v1) k_ (q0b, q7, q4) = some oL2 ∧ E 0 = .slice (some ((adr q5).add (q0i.toNat * (RpI .u32).sz))) q0d.toNat cw_u0 ∧ E 1 = .slice q0m v1.length c_v1 ∧ E 4 = .int .u64 q0b ∧ E 7 = .int .i64 (q0d.toNat : Int) ∧ E 8 = .int .i64 q7 ∧ RepL (RpI .u32) ρ q4 q2 ∧ St w0 w (vec 159 (RpI .u32).sz (.slice q5 q9.length c_u0_s) q9.length q2 :: ro ρ :: l)) fuel ⟨q0h, 0, 0, q9, hLL2, rfl, rfl, rfl, rfl, rfl, q0n, ((hS.pull 1).pull 1)⟩ ?_
  rintro kL2 E w ⟨q2, q0b, q7, q4, hLL2, q0j, q0f, q0t, q0k, q0g, q6, hS⟩
  replace hLL2 := lp_s hLL2; obtain ⟨kL2, obL2, rfl, hFL2, hLL2⟩ := hLL2
  refine x_seq <| x_region <| p (yl_lss q0g q0k) <| x_done <|
   x_seq <|
   x_cond_p (q7 < (q0d.toNat : Int)) rfl (fun hc9 => ?_) (fun hc9 => ?_)
  ·replace hFL2 := it_t hc9 hFL2
   replace hFL2 := ck_s hFL2; obtain ⟨q10, hFL2⟩ := hFL2
   replace hFL2 := ck_s hFL2; obtain ⟨q0u, hFL2⟩ := hFL2
   replace hFL2 := lv_s hFL2; obtain ⟨x15, hx15, hFL2⟩ := hFL2
   replace hFL2 := lv_s hFL2; obtain ⟨x16, hx16, hFL2⟩ := hFL2
   replace hFL2 := lv_s hFL2; obtain ⟨x17, hx17, hFL2⟩ := hFL2
   refine x_skip <| x_seq <| x_block <| x_seq <|
    x_region <| p (yl_move q0g) <| p (yl_assign rfl) <| x_done <|
    x_seq <| x_region <| p (yl_move q0t) <| p (yl_move q0j) <|
    p (yl_move rfl) <| p (yixw sl_77 rfl rfl q10) <| pa (at_load one_159 rfl (RepL.getW q6 hS q0u hx15)) <| p (yconvu wm_u64 uk_159 ik_158 rfl hx16) <|
    p (yaddu wm_u64 rfl rfl hx17) <| p (yl_assign rfl) <| x_done <| x_seq <|
    x_seq <| x_region <| p (yl_move rfl) <| p (yl_move q0f) <|
    p (yl_len_slice usl_77 rfl) <| p (yl_lss rfl rfl) <| x_done <| ?_
   replace hFL2 := bd_s hFL2; obtain ⟨oc21, hFc21, hFL2⟩ := hFL2
   refine x_join (fun E w => ∃ (q0c : Int), q0c = oc21 ∧ E 0 = .slice (some ((adr q5).add (q0i.toNat * (RpI .u32).sz))) q0d.toNat cw_u0 ∧ E 1 = .slice q0m v1.length c_v1 ∧ E 4 = .int .u64 q0c ∧ E 5 = .int .i64 q7 ∧ E 7 = .int .i64 (q0d.toNat : Int) ∧ E 8 = .int .i64 q7 ∧ St w0 w (vec 159 (RpI .u32).sz (.slice q5 q9.length c_u0_s) q9.length q2 :: ro ρ :: l)) ?_ ?_
   ·refine x_cond_p (q7 < (v1.length : Int)) rfl (fun hc21 => ?_) (fun hc21 => ?_)
    ·replace hFc21 := it_t hc21 hFc21
     replace hFc21 := ck_s hFc21; obtain ⟨q0r, hFc21⟩ := hFc21
     replace hFc21 := lv_s hFc21; obtain ⟨x26, hx26, hFc21⟩ := hFc21
     replace hFc21 := lv_s hFc21; obtain ⟨x27, hx27, hFc21⟩ := hFc21
     replace hFc21 := lv_s hFc21; obtain ⟨x28, hx28, hFc21⟩ := hFc21
     refine x_region <| p (yl_move rfl) <| p (yl_move q0f) <| p (yl_move rfl) <|
      p (yix_f sl_77 rfl rfl q0q q0r) <| pa (at_load one_159 rfl (RdS.getW q0q (hS.pull 1) q0r hx26)) <| p (yconvu wm_u64 uk_159 ik_158 rfl hx27) <| p (yaddu wm_u64 rfl rfl hx28) <|
      p (yl_assign rfl) <| x_done <| ?_
     exact x_inv ⟨x28, (Option.some.inj (show some _ = some _ from hFc21)), q0j, q0f, rfl, rfl, q0k, q0g, ((hS.pull 1).pull 1)⟩
    ·replace hFc21 := it_f hc21 hFc21
     refine x_skip <| ?_
     exact x_inv ⟨x17, (Option.some.inj (show some _ = some _ from hFc21)), q0j, q0f, rfl, rfl, q0k, q0g, ((hS.pull 1).pull 1)⟩
   rintro E w ⟨q0c, rfl, q0o, q0v, q0p, q0w, q0x, q0y, hS⟩
   replace hFL2 := lv_s hFL2; obtain ⟨x32, hx32, hFL2⟩ := hFL2
   replace hFL2 := ck_s hFL2; obtain ⟨q11, hFL2⟩ := hFL2
   replace hFL2 := ck_s hFL2; obtain ⟨q0z, hFL2⟩ := hFL2
   refine x_seq <| x_region <| p (yl_move q0o) <| p (yl_move q0w) <|
    p (yl_move q0p) <| p (yconvu wm_u32 uk_158 ik_159 rfl hx32) <| p (yixw sl_77 rfl rfl q11) <| ?_
   replace hFL2 := lv_s hFL2; obtain ⟨q16, q12, hFL2⟩ := hFL2
   refine o_put' (news := [.int .u32 x32]) sz_159 rfl rfl rfl rfl (o := 0) rfl q0z rfl hS q6 (Le.refl _) (fun c hc => ok_all hc (show (RpI .u32).ok ρ [.int .u32 x32] x32 from rfl)) q12 (fun q13 w' q14 hS => ?_)
   replace hFL2 := ck_s hFL2; obtain ⟨q15, hFL2⟩ := hFL2
   replace hFL2 := lv_s hFL2; obtain ⟨x35, hx35, hFL2⟩ := hFL2
   replace hFL2 := ar_s hFL2; obtain ⟨x36, hx36, hFL2⟩ := hFL2
   refine x_done <| x_region <| p (yl_move q0p) <| p (yshr rfl rfl q15 hx35) <|
    p (yl_assign rfl) <| x_done <| x_blk <| x_region <|
    p (yadd q0y rfl hx36) <| p (yl_move rfl) <| x_done <| ?_
   have e_ := Option.some.inj (show some _ = some _ from hFL2); subst e_
   exact x_inv ⟨kL2, Nat.lt_succ_self _, q13, x35, x36, q16, hLL2, q0o, q0v, rfl, q0x, rfl, q14, ((hS.pull 1).pull 1)⟩
  ·replace hFL2 := it_f hc9 hFL2
   refine x_exitTo _ rfl <| ?_
   have e_ := Option.some.inj (show some _ = some _ from hFL2); subst e_
   exact x_inv ⟨q2, q4, hLL2, q6, ((hS.pull 1).pull 1)⟩
 rintro E w ⟨q3, q0a, rfl, q0l, hS⟩
 have e_ := Option.some.inj (show some _ = some _ from hF); subst e_
 exact x_fin ⟨_, rfl, q3, rfl, q0l, ((hS.pull 1).pull 1)⟩
attribute [irreducible] P_exact_give

def P_exact_divMag_L15 (x52 : List Int) (q5 : List Int) (q4 : Int) : (Int × Int) → Option ((Int × Int) ⊕ Int) := fun (q2, q3) =>
 ck (0 ≤ (32 : Int)) <|
 lv (shr .u64 q2 32) fun x101 =>
 ck ((!(decide (x101 ≠ 0))) = true → I64 ((x52.length : Int) - 2)) <|
 lv ((x52.length : Int) - 2) fun x107 =>
 ck ((!(decide (x101 ≠ 0))) = true → inb x107 x52.length) <|
 lv (gt x52 x107) fun x109 =>
 lv (x109 % 18446744073709551616) fun x110 =>
 lv ((q2 * x110) % 18446744073709551616) fun x111 =>
 ck ((!(decide (x101 ≠ 0))) = true → 0 ≤ (32 : Int)) <|
 lv (shl .u64 q3 32) fun x113 =>
 ck ((!(decide (x101 ≠ 0))) = true → I64 (q4 + (x52.length : Int))) <|
 lv (q4 + (x52.length : Int)) fun x117 =>
 ck ((!(decide (x101 ≠ 0))) = true → I64 (x117 - 2)) <|
 lv (x117 - 2) fun x118 =>
 ck ((!(decide (x101 ≠ 0))) = true → inb x118 q5.length) <|
 lv (gt q5 x118) fun x120 =>
 lv (x120 % 18446744073709551616) fun x121 =>
 lv (bOr .u64 x113 x121) fun x122 =>
 lv ((decide (x101 ≠ 0)) || (decide (x122 < x111))) fun x124 =>
 if x124 = true then
  lv ((q2 - 1) % 18446744073709551616) fun x126 =>
  ar ((x52.length : Int) - 1) fun x130 =>
  ck (inb x130 x52.length) <|
  lv (gt x52 x130) fun x132 =>
  lv (x132 % 18446744073709551616) fun x133 =>
  lv ((q3 + x133) % 18446744073709551616) fun x134 =>
  ck (0 ≤ (32 : Int)) <|
  lv (shr .u64 x134 32) fun x136 =>
  if x136 ≠ 0 then
   some (Sum.inr x126)
  else
   some (Sum.inl (x126, x134))
 else
  some (Sum.inr q2)
def P_exact_divMag_L11 (x52 : List Int) : (List Int × List Int × Int) → Option ((List Int × List Int × Int) ⊕ (List Int × List Int)) := fun (q3, q5, q2) =>
 if 0 ≤ q2 then
  ar (q2 + (x52.length : Int)) fun x70 =>
  ck (inb x70 q3.length) <|
  lv (gt q3 x70) fun x72 =>
  lv (x72 % 18446744073709551616) fun x73 =>
  ck (0 ≤ (32 : Int)) <|
  lv (shl .u64 x73 32) fun x74 =>
  ar (q2 + (x52.length : Int)) fun x78 =>
  ar (x78 - 1) fun x79 =>
  ck (inb x79 q3.length) <|
  lv (gt q3 x79) fun x81 =>
  lv (x81 % 18446744073709551616) fun x82 =>
  lv (bOr .u64 x74 x82) fun x83 =>
  ar ((x52.length : Int) - 1) fun x87 =>
  ck (inb x87 x52.length) <|
  lv (gt x52 x87) fun x89 =>
  lv (x89 % 18446744073709551616) fun x90 =>
  ck (x90 ≠ 0) <|
  lv ((Int.tdiv x83 x90) % 18446744073709551616) fun x91 =>
  ar ((x52.length : Int) - 1) fun x95 =>
  ck (inb x95 x52.length) <|
  lv (gt x52 x95) fun x97 =>
  lv (x97 % 18446744073709551616) fun x98 =>
  ck (x98 ≠ 0) <|
  lv (Int.tmod x83 x98) fun x99 =>
  bd (
   lp (P_exact_divMag_L15 x52 q3 q2) fuel (x91, x99)) fun q4 =>
  ar (q2 + (x52.length : Int)) fun x142 =>
  ar (x142 + 1) fun x143 =>
  ck (inb q2 q3.length ∧ q2 ≤ x143 ∧ x143 ≤ q3.length) <|
  lv (x143 - q2) fun m144 =>
  bd (P_exact_take q3 q2 m144 x52 q4) fun q6 =>
  bd (
   if q6.1 = true then
    lv ((q4 - 1) % 18446744073709551616) fun x149 =>
    ar (q2 + (x52.length : Int)) fun x154 =>
    ar (x154 + 1) fun x155 =>
    ck (inb q2 q6.2.length ∧ q2 ≤ x155 ∧ x155 ≤ q6.2.length) <|
    lv (x155 - q2) fun m156 =>
    bd (P_exact_give q6.2 q2 m156 x52) fun q9 =>
    some (q9, x149)
   else
    some (q6.2, q4)) fun (q8, q7) =>
  lv (q7 % 4294967296) fun x162 =>
  ck (inb q2 q5.length) <|
  lv (stt q5 q2 x162) fun q0a =>
  ar (q2 - 1) fun x66 =>
  some (Sum.inl (q8, q0a, x66))
 else
  some (Sum.inr (q3, q5))
def P_exact_divMag_L24 (q4 : Int) (x52 : List Int) : (List Int × Int) → Option ((List Int × Int) ⊕ List Int) := fun (q3, q2) =>
 if q2 < (x52.length : Int) then
  ck (inb q2 q3.length) <|
  lv (gt q3 q2) fun x173 =>
  ck (0 ≤ q4) <|
  lv (shr .u32 x173 q4) fun x175 =>
  ar (q2 + 1) fun x178 =>
  ck (inb x178 q3.length) <|
  lv (gt q3 x178) fun x180 =>
  lv (x180 % 18446744073709551616) fun x181 =>
  ck (0 ≤ (32 : Int)) <|
  lv (shl .u64 x181 32) fun x182 =>
  ck (0 ≤ q4) <|
  lv (shr .u64 x182 q4) fun x184 =>
  lv (x184 % 4294967296) fun x185 =>
  lv (bOr .u32 x175 x185) fun x186 =>
  ck (inb q2 q3.length) <|
  lv (stt q3 q2 x186) fun q5 =>
  ar (q2 + 1) fun x188 =>
  some (Sum.inl (q5, x188))
 else
  some (Sum.inr q3)
def P_exact_divMag (a0 : List Int) (b1 : List Int) : Option (List Int × List Int) :=
 bd (P_exact_cmpMag a0 b1) fun q0a =>
 if q0a < 0 then
  some ([], a0)
 else
  if (b1.length : Int) = 1 then
   ck (inb 0 b1.length) <|
   lv (gt b1 (0 : Int)) fun x30 =>
   bd (P_exact_divSmall a0 x30) fun q5 =>
   some (q5.1, ([q5.2] : List Int))
  else
   ar ((b1.length : Int) - 1) fun x40 =>
   ck (inb x40 b1.length) <|
   lv (gt b1 x40) fun x42 =>
   bd (P_math_bits_LeadingZeros32 x42) fun q3 =>
   bd (P_exact_shifted a0 q3) fun q6 =>
   bd (P_exact_shifted b1 q3) fun q7 =>
   ck (0 ≤ (0 : Int) ∧ (0 : Int) ≤ (b1.length : Int) ∧ (b1.length : Int) ≤ q7.length) <|
   lv (sub q7 0 (b1.length : Int)) fun x52 =>
   ar ((q6.length : Int) - (x52.length : Int)) fun x58 =>
   ck (mkOk 4 x58) <|
   lv ((List.replicate (x58 : Int).toNat 0 : List Int)) fun q8 =>
   ar ((q8.length : Int) - 1) fun x62 =>
   bd (
    lp (P_exact_divMag_L11 x52) fuel (q6, q8, x62)) fun (q9, q4) =>
   bd (
    lp (P_exact_divMag_L24 q3 x52) fuel (q9, 0)) fun q2 =>
   ck (0 ≤ (0 : Int) ∧ (0 : Int) ≤ (x52.length : Int) ∧ (x52.length : Int) ≤ q2.length) <|
   lv (sub q2 0 (x52.length : Int)) fun x192 =>
   some (q4, x192)
set_option maxHeartbeats 4000000 in
set_option maxRecDepth 100000 in
theorem c_exact_divMag {w0 w : World} {l : List Assn} {ρ : Heap} {q1u : Option Addr} {q48 : Nat} {c_a0 : Nat} {q17 : Option Addr} {q49 : Nat} {c_b1 : Nat} {a0 : List Int} {b1 : List Int} {r : (List Int × List Int)} (hF : P_exact_divMag a0 b1 = some r) (q2d : RdS (RpI .u32) ρ q1u q48 c_a0 a0) (q1n : RdS (RpI .u32) ρ q17 q49 c_b1 b1) (hS : St w0 w (ro ρ :: l)) :
  Calls Try.prog 130 #[.slice q1u q48 c_a0, .slice q17 q49 c_b1] w fun e w' => ∃ (ρ' : Heap) (q2e : Option Addr) (q1o : Nat) (c_y0_ret : Nat) (q28 : List Value) (q2f : Option Addr) (q2g : Nat) (c_y1_ret : Nat), e = .returned (.tuple #[.slice q2e q1o c_y0_ret, .slice q2f q2g c_y1_ret]) ∧ Le ρ ρ' ∧ RepL (RpI .u32) ρ' r.1 q28 ∧ RdS (RpI .u32) ρ' q2f q2g c_y1_ret r.2 ∧ St w0 w' (vec 159 (RpI .u32).sz (.slice q2e q1o c_y0_ret) q1o q28 :: ro ρ' :: l) := by
 have e_ := q2d.n; subst e_
 have e_ := q1n.n; subst e_
 refine enterC Try.func130 rfl 193 rfl (by simp) ?_
 replace hF := bd_s hF; obtain ⟨q53, q4u, hF⟩ := hF
 refine x_seq <| x_region <| p (yl_assign rfl) <| p (yl_assign rfl) <|
  x_done <| x_seq <| x_seq <| x_region <|
  p (yl_move rfl) <| p (yl_move rfl) <| ?_
 have hcall := c_exact_cmpMag q4u q2d q1n hS
 refine o_cc call_91 (args2 rfl rfl) (hcall) ?_
 rintro e w' ⟨rfl, hS⟩
 refine ⟨_, rfl, ?_⟩
 refine p (yl_lss rfl rfl) <| x_done <|
  x_cond_p (q53 < 0) rfl (fun hc21 => ?_) (fun hc21 => ?_)
 ·replace hF := it_t hc21 hF
  refine x_seq <| x_region <| p (yl_move rfl) <| p (yl_assign rfl) <|
   p (yl_assign rfl) <| x_done <| ?_
  replace hS := St.vec_nil hS 159 (RpI .u32).sz
  have q2a : RepL (RpI .u32) ρ [] [] := rfl
  have e_ := Option.some.inj (show some _ = some _ from hF); subst e_
  exact x_return ⟨_, ⟨_, _, rfl, rfl, _, _, rfl, rfl, rfl⟩, ρ, none, 0, 0, [], q1u, a0.length, c_a0, rfl, (Le.refl _), q2a, q2d, ((hS.pull 1).pull 1)⟩
 ·replace hF := it_f hc21 hF
  refine x_skip <| x_seq <| x_seq <| x_region <|
   p (yl_move rfl) <| p (yl_len_slice usl_77 rfl) <| p (yl_eql rfl rfl) <| x_done <|
   x_cond_p ((b1.length : Int) = 1) rfl (fun hc25 => ?_) (fun hc25 => ?_)
  ·replace hF := it_t hc25 hF
   replace hF := ck_s hF; obtain ⟨q3q, hF⟩ := hF
   replace hF := lv_s hF; obtain ⟨x30, hx30, hF⟩ := hF
   replace hF := bd_s hF; obtain ⟨q1p, q4v, hF⟩ := hF
   refine x_seq <| x_region <| p (yl_move rfl) <| p (yl_move rfl) <|
    p (yix_f sl_77 rfl rfl q1n q3q) <| pa (at_load one_159 rfl (RdS.getW q1n hS q3q hx30)) <| ?_
   have hcall := c_exact_divSmall q4v q2d hS
   refine o_cc call_98 (args2 rfl rfl) hcall ?_
   rintro e w' ⟨q2h, q4a, c_y0_ret_4_4, q2b, rfl, q18, hS⟩
   refine ⟨_, rfl, ?_⟩
   have e_ := St.vec_n hS q18; subst e_
   refine p (yl_move rfl) <| p (yl_extract rfl rfl) <| p (yl_extract rfl rfl) <| p (yl_assign rfl) <|
    p (yl_assign rfl) <| x_done <| x_seq <| x_region <|
    p (yl_move rfl) <| p (yl_move rfl) <| ?_
   refine o_buildSlice (vs := [.int .u32 q1p.2]) (cs := [.int .u32 q1p.2]) sl_77 zero_159 (parts_eq (pt (va := .int .u32 q1p.2) rfl pt0)) rfl (by intro v hv; simp only [List.mem_cons, List.not_mem_nil, or_false] at hv; first | (subst hv; rfl) | (rcases hv with rfl <;> rfl)) (by decide) rfl hS (fun b36 w' hS => ?_)
   refine p (yl_assign rfl) <| p (yl_assign rfl) <| x_done <| ?_
   have q3k : RepL (RpI .u32) ρ ([q1p.2] : List Int) [.int .u32 q1p.2] := (RepL.cons (cs := [.int .u32 q1p.2]) rfl RepL.nil)
   replace hS := St.vec_of (n := 1) (sz := (RpI .u32).sz) hS rfl (by decide)
   have q_ := St.vec_fz ((hS.pull 2).pull 1) q3k; obtain ⟨q36, q1m, q37, hS⟩ := q_
   have e_ := Option.some.inj (show some _ = some _ from hF); subst e_
   exact x_return ⟨_, ⟨_, _, rfl, rfl, _, _, rfl, rfl, rfl⟩, q36, q2h, q1p.1.length, c_y0_ret_4_4, q2b, (some ⟨b36, 0, none⟩), 1, 1, rfl, q1m, (q18.le q1m), q37, (hS.pull 1)⟩
  ·replace hF := it_f hc25 hF
   replace hF := ar_s hF; obtain ⟨x40, hx40, hF⟩ := hF
   replace hF := ck_s hF; obtain ⟨q3r, hF⟩ := hF
   replace hF := lv_s hF; obtain ⟨x42, hx42, hF⟩ := hF
   replace hF := bd_s hF; obtain ⟨q0e, q4w, hF⟩ := hF
   refine x_skip <| x_seq <| x_region <| p (yl_move rfl) <|
    p (yl_move rfl) <| p (yl_len_slice usl_77 rfl) <| p (ysub rfl rfl hx40) <| p (yix_f sl_77 rfl rfl q1n q3r) <|
    pa (at_load one_159 rfl (RdS.getW q1n hS q3r hx42)) <| ?_
   have hcall := c_math_bits_LeadingZeros32 q4w  hS
   refine o_cc call_146 (args1 rfl) (hcall) ?_
   rintro e w' ⟨rfl, hS⟩
   refine ⟨_, rfl, ?_⟩
   refine p (v := .int .i64 q0e) (yl_assign rfl) <| x_done <| x_seq <| ?_
   replace hF := bd_s hF; obtain ⟨q5, q4x, hF⟩ := hF
   replace hF := bd_s hF; obtain ⟨q0f, q4y, hF⟩ := hF
   replace hF := ck_s hF; obtain ⟨q3s, hF⟩ := hF
   replace hF := lv_s hF; obtain ⟨x52, hx52, hF⟩ := hF
   refine x_par (w0 := w0) [⟨[], [], [44], [], [], []⟩, ⟨[], [], [45], [], [], []⟩, ⟨[0, 1], [0, 1], [46], [0], [], [1]⟩, ⟨[], [], [47], [], [], []⟩, ⟨[], [], [48], [], [], []⟩, ⟨[0, 1, 2, 3, 4], [3, 4], [49], [0], [], [2]⟩, ⟨[], [], [50], [], [], []⟩, ⟨[6], [6], [51], [], [], []⟩, ⟨[0, 1, 2, 3, 4, 5, 6, 7], [5, 7], [52], [0], [2], [3]⟩, ⟨[0, 1, 2, 3, 4, 5], [2], [9, 46], [], [], []⟩, ⟨[0, 1, 2, 3, 4, 5, 6, 7, 8, 9], [8], [10, 52], [], [], []⟩] [⟨none, none, []⟩, ⟨(some 2), none, [46]⟩, ⟨(some 5), (some 8), [49]⟩, ⟨(some 8), none, [49, 52]⟩] [9, 10, 44, 45, 46, 47, 48, 49, 50, 51, 52] [0] [0, 1, 3] [0, 1, 2, 3, 4, 5, 6, 7, 8, 9, 10] [fun Ep7 => Ep7 44 = .slice q1u a0.length c_a0, fun Ep7 => Ep7 45 = .int .i64 q0e, fun Ep7 => Ep7 46 = .slice (adOf (Ep7 46)) q5.length (capOf (Ep7 46)), fun Ep7 => Ep7 47 = .slice q17 b1.length c_b1, fun Ep7 => Ep7 48 = .int .i64 q0e, fun Ep7 => Ep7 49 = .slice (adOf (Ep7 49)) q0f.length (capOf (Ep7 49)), fun Ep7 => Ep7 50 = .slice q17 b1.length c_b1, fun Ep7 => Ep7 51 = .int .i64 (b1.length : Int), fun Ep7 => Ep7 52 = .slice (adOf (Ep7 52)) x52.length (capOf (Ep7 52)), fun Ep7 => Ep7 9 = .slice (adOf (Ep7 46)) q5.length (capOf (Ep7 46)), fun Ep7 => Ep7 10 = .slice (adOf (Ep7 52)) x52.length (capOf (Ep7 52))] [fun Ep7 => ro ρ, fun Ep7 => bunA (fun (q2 : List Value) => RepL (RpI .u32) ρ q5 q2) (fun (q2 : List Value) => [vec 159 (RpI .u32).sz (.slice (adOf (Ep7 46)) q5.length (capOf (Ep7 46))) q5.length q2]), fun Ep7 => bunA (fun (q4 : List Value) => RepL (RpI .u32) ρ q0f q4) (fun (q4 : List Value) => [vec 159 (RpI .u32).sz (.slice (adOf (Ep7 49)) q0f.length (capOf (Ep7 49))) q0f.length q4]), fun Ep7 => bunA (fun (q7 : Heap) => Le ρ q7 ∧ RdS (RpI .u32) q7 (adOf (Ep7 49)) q0f.length (capOf (Ep7 49)) q0f ∧ RdS (RpI .u32) q7 (adOf (Ep7 52)) x52.length (capOf (Ep7 52)) x52) (fun (q7 : Heap) => [roD ρ q7])] mixed (by kernel_rfl) hS ?_ ?_
   ·refine ⟨?_, ?_, ?_, ?_, ?_, ?_, ?_, ?_, ?_, ?_, ?_, trivial⟩
    ·intro Ep7 w l' hE7 hO7 hF_ hS
     refine p (yl_move (hE7 0 rfl)) <| x_done <| ?_
     refine x_fin ⟨⟨_, rfl⟩, rfl, ?_⟩
     exact Eq.mp (by kernel_rfl) hS
    ·intro Ep7 w l' hE7 hO7 hF_ hS
     refine p (v := .int .i64 q0e) (yl_move (hE7 8 rfl)) <| x_done <| ?_
     refine x_fin ⟨⟨_, rfl⟩, rfl, ?_⟩
     exact Eq.mp (by kernel_rfl) hS
    ·intro Ep7 w l' hE7 hO7 hF_ hS
     obtain ⟨q1v, q1w, -⟩ := hF_
     replace q1v : Ep7 44 = .slice q1u a0.length c_a0 := Eq.mp (by kernel_rfl) q1v
     replace q1w : Ep7 45 = .int .i64 q0e := Eq.mp (by kernel_rfl) q1w
     replace hS : St w0 w (ro ρ :: l') := Eq.mp (by kernel_rfl) hS
     have hcall := c_exact_shifted q4x q2d hS
     refine o_cc call_147 (args2 q1v q1w) hcall ?_
     rintro e w' ⟨q2i, q4b, c_y0_ret_7_2, q2, rfl, q0k, hS⟩
     refine ⟨_, rfl, ?_⟩
     have e_ := St.vec_n hS q0k; subst e_
     refine x_done <| ?_
     refine x_fin ⟨⟨_, rfl⟩, rfl, ?_⟩
     replace hS := St.bun (Φ := (fun (q2 : List Value) => RepL (RpI .u32) ρ q5 q2)) (L := (fun (q2 : List Value) => [vec 159 (RpI .u32).sz (.slice q2i q5.length c_y0_ret_7_2) q5.length q2])) q2 q0k hS
     exact Eq.mp (by kernel_rfl) (hS.pull 1)
    ·intro Ep7 w l' hE7 hO7 hF_ hS
     refine p (yl_move (hE7 1 rfl)) <| x_done <| ?_
     refine x_fin ⟨⟨_, rfl⟩, rfl, ?_⟩
     exact Eq.mp (by kernel_rfl) hS
    ·intro Ep7 w l' hE7 hO7 hF_ hS
     refine p (v := .int .i64 q0e) (yl_move (hE7 8 rfl)) <| x_done <| ?_
     refine x_fin ⟨⟨_, rfl⟩, rfl, ?_⟩
     exact Eq.mp (by kernel_rfl) hS
    ·intro Ep7 w l' hE7 hO7 hF_ hS
     obtain ⟨q1x, q1y, -⟩ := hF_
     replace q1x : Ep7 47 = .slice q17 b1.length c_b1 := Eq.mp (by kernel_rfl) q1x
     replace q1y : Ep7 48 = .int .i64 q0e := Eq.mp (by kernel_rfl) q1y
     replace hS : St w0 w (ro ρ :: l') := Eq.mp (by kernel_rfl) hS
     have hcall := c_exact_shifted q4y q1n hS
     refine o_cc call_147 (args2 q1x q1y) hcall ?_
     rintro e w' ⟨q2j, q4c, c_y0_ret_7_5, q4, rfl, q0l, hS⟩
     refine ⟨_, rfl, ?_⟩
     have e_ := St.vec_n hS q0l; subst e_
     refine x_done <| ?_
     refine x_fin ⟨⟨_, rfl⟩, rfl, ?_⟩
     replace hS := St.bun (Φ := (fun (q4 : List Value) => RepL (RpI .u32) ρ q0f q4)) (L := (fun (q4 : List Value) => [vec 159 (RpI .u32).sz (.slice q2j q0f.length c_y0_ret_7_5) q0f.length q4])) q4 q0l hS
     exact Eq.mp (by kernel_rfl) (hS.pull 1)
    ·intro Ep7 w l' hE7 hO7 hF_ hS
     refine p (yl_move (hE7 1 rfl)) <| x_done <| ?_
     refine x_fin ⟨⟨_, rfl⟩, rfl, ?_⟩
     exact Eq.mp (by kernel_rfl) hS
    ·intro Ep7 w l' hE7 hO7 hF_ hS
     obtain ⟨q1z, -⟩ := hF_
     replace q1z : Ep7 50 = .slice q17 b1.length c_b1 := Eq.mp (by kernel_rfl) q1z
     refine p (yl_len_slice usl_77 q1z) <| x_done <| ?_
     refine x_fin ⟨⟨_, rfl⟩, rfl, ?_⟩
     exact Eq.mp (by kernel_rfl) hS
    ·intro Ep7 w l' hE7 hO7 hF_ hS
     obtain ⟨q20, q21, -⟩ := hF_
     replace q20 : Ep7 49 = .slice (adOf (Ep7 49)) q0f.length (capOf (Ep7 49)) := Eq.mp (by kernel_rfl) q20
     replace q21 : Ep7 51 = .int .i64 (b1.length : Int) := Eq.mp (by kernel_rfl) q21
     replace hS : St w0 w (ro ρ :: bunA (fun (q4 : List Value) => RepL (RpI .u32) ρ q0f q4) (fun (q4 : List Value) => [vec 159 (RpI .u32).sz (.slice (adOf (Ep7 49)) q0f.length (capOf (Ep7 49))) q0f.length q4]) :: l') := Eq.mp (by kernel_rfl) hS
     have q_ := St.unbun (hS.pull 1); obtain ⟨q4, q0l, hS⟩ := q_
     have q_ := St.vec_fz ((hS.pull 1).pull 1) q0l; obtain ⟨q7, q2r, q31, hS⟩ := q_
     have q_ := RdS.sub q31 q3s hx52; obtain ⟨A52, n52, c52, hd52, f52⟩ := q_
     refine p (ysub_h sl_77 q20 q21 q3s hd52) <| ?_
     have e_ := f52.n; subst e_
     refine x_done <| ?_
     refine x_fin ⟨⟨_, rfl⟩, rfl, ?_⟩
     replace hS := St.ro_split q2r hS
     replace hS := St.bun (Φ := (fun (q7 : Heap) => Le ρ q7 ∧ RdS (RpI .u32) q7 (adOf (Ep7 49)) q0f.length (capOf (Ep7 49)) q0f ∧ RdS (RpI .u32) q7 A52 x52.length c52 x52)) (L := (fun (q7 : Heap) => [roD ρ q7])) q7 ⟨q2r, q31, f52⟩ (hS.pull 1)
     exact Eq.mp (by kernel_rfl) (hS.pull 1)
    ·intro Ep7 w l' hE7 hO7 hF_ hS
     obtain ⟨q22, -⟩ := hF_
     replace q22 : Ep7 46 = .slice (adOf (Ep7 46)) q5.length (capOf (Ep7 46)) := Eq.mp (by kernel_rfl) q22
     refine p (yl_assign q22) <| x_done <| ?_
     refine x_fin ⟨⟨_, rfl⟩, rfl, ?_⟩
     exact Eq.mp (by kernel_rfl) hS
    ·intro Ep7 w l' hE7 hO7 hF_ hS
     obtain ⟨q23, -⟩ := hF_
     replace q23 : Ep7 52 = .slice (adOf (Ep7 52)) x52.length (capOf (Ep7 52)) := Eq.mp (by kernel_rfl) q23
     refine p (yl_assign q23) <| x_done <| ?_
     refine x_fin ⟨⟨_, rfl⟩, rfl, ?_⟩
     exact Eq.mp (by kernel_rfl) hS
   intro Ep7 w' hE7 hF_ hS
   obtain ⟨q1v, q1w, q22, q1x, q1y, q20, q1z, q21, q23, q32, q2c, -⟩ := hF_
   replace q1v : Ep7 44 = .slice q1u a0.length c_a0 := Eq.mp (by kernel_rfl) q1v
   replace q1w : Ep7 45 = .int .i64 q0e := Eq.mp (by kernel_rfl) q1w
   replace q22 : Ep7 46 = .slice (adOf (Ep7 46)) q5.length (capOf (Ep7 46)) := Eq.mp (by kernel_rfl) q22
   replace q1x : Ep7 47 = .slice q17 b1.length c_b1 := Eq.mp (by kernel_rfl) q1x
   replace q1y : Ep7 48 = .int .i64 q0e := Eq.mp (by kernel_rfl) q1y
   replace q20 : Ep7 49 = .slice (adOf (Ep7 49)) q0f.length (capOf (Ep7 49)) := Eq.mp (by kernel_rfl) q20
   replace q1z : Ep7 50 = .slice q17 b1.length c_b1 := Eq.mp (by kernel_rfl) q1z
   replace q21 : Ep7 51 = .int .i64 (b1.length : Int) := Eq.mp (by kernel_rfl) q21
   replace q23 : Ep7 52 = .slice (adOf (Ep7 52)) x52.length (capOf (Ep7 52)) := Eq.mp (by kernel_rfl) q23
   replace q32 : Ep7 9 = .slice (adOf (Ep7 46)) q5.length (capOf (Ep7 46)) := Eq.mp (by kernel_rfl) q32
   replace q2c : Ep7 10 = .slice (adOf (Ep7 52)) x52.length (capOf (Ep7 52)) := Eq.mp (by kernel_rfl) q2c
   replace hS : St w0 w' (ro ρ :: bunA (fun (q2 : List Value) => RepL (RpI .u32) ρ q5 q2) (fun (q2 : List Value) => [vec 159 (RpI .u32).sz (.slice (adOf (Ep7 46)) q5.length (capOf (Ep7 46))) q5.length q2]) :: bunA (fun (q7 : Heap) => Le ρ q7 ∧ RdS (RpI .u32) q7 (adOf (Ep7 49)) q0f.length (capOf (Ep7 49)) q0f ∧ RdS (RpI .u32) q7 (adOf (Ep7 52)) x52.length (capOf (Ep7 52)) x52) (fun (q7 : Heap) => [roD ρ q7]) :: (l)) := Eq.mp (by kernel_rfl) hS
   have q_ := St.unbun (hS.pull 1); obtain ⟨q2, q0k, hS⟩ := q_
   have q_ := St.unbun (hS.pull 2); obtain ⟨q7, ⟨q38, q31, f52⟩, hS⟩ := q_
   have q_ := St.ro_join (hS.pull 2) (Le.refl _) q38; obtain ⟨q6, q2s, q0d, hS, q54⟩ := q_
   replace hF := ar_s hF; obtain ⟨x58, hx58, hF⟩ := hF
   refine x_seq <| x_region <| p (yl_move q2c) <| p (yl_len_slice usl_77 rfl) <|
    p (yl_assign rfl) <| x_done <| x_seq <| x_region <|
    p (yl_move q32) <| p (yl_len_slice usl_77 rfl) <| p (yl_move rfl) <| p (ysub rfl rfl hx58) <| ?_
   replace hF := ck_s hF; obtain ⟨q4z, hF⟩ := hF
   replace hF := lv_s hF; obtain ⟨q3, q50, hF⟩ := hF
   refine o_mk sl_77 zero_159 (show (RpI .u32).ok q6 _ 0 from rfl) rfl rfl q4z (by decide) q50 hS (fun A59 cs59 w' hr59 hS => ?_)
   replace hF := ar_s hF; obtain ⟨x62, hx62, hF⟩ := hF
   refine p (yl_assign rfl) <| x_done <| x_seq <| x_seq <|
    x_region <| p (yl_move rfl) <| p (yl_len_slice usl_77 rfl) <| p (ysub rfl rfl hx62) <|
    p (yl_assign rfl) <| x_done <| ?_
   replace hF := bd_s hF; obtain ⟨oL11, hLL11, hF⟩ := hF
   refine x_join (fun E w => ∃ (q0v : List Value) (q0b : List Value) (q1s : List Int) (q24 : List Int), (q1s, q24) = oL11 ∧ E 8 = .int .i64 q0e ∧ E 9 = .slice (adOf (Ep7 46)) q5.length (capOf (Ep7 46)) ∧ E 11 = .int .i64 (x52.length : Int) ∧ E 12 = .slice A59 q3.length q3.length ∧ RepL (RpI .u32) q6 q1s q0v ∧ RepL (RpI .u32) q6 q24 q0b ∧ St w0 w (vec 159 (RpI .u32).sz (.slice (adOf (Ep7 46)) q5.length (capOf (Ep7 46))) q5.length q0v :: vec 159 (RpI .u32).sz (.slice A59 q3.length q3.length) q3.length q0b :: ro q6 :: l)) ?_ ?_
   ·refine x_block ?_
    refine x_loop (fun k_ E w => ∃ (q0j : List Value) (q0a : List Value) (q0y : List Int) (q10 : List Int) (q8 : Int), lp (P_exact_divMag_L11 x52) k_ (q0y, q10, q8) = some oL11 ∧ E 8 = .int .i64 q0e ∧ E 9 = .slice (adOf (Ep7 46)) q5.length (capOf (Ep7 46)) ∧ E 10 = .slice (adOf (Ep7 52)) x52.length (capOf (Ep7 52)) ∧ E 11 = .int .i64 (x52.length : Int) ∧ E 12 = .slice A59 q3.length q3.length ∧ E 13 = .int .i64 q8 ∧ RepL (RpI .u32) q6 q0y q0j ∧ RepL (RpI .u32) q6 q10 q0a ∧ St w0 w (vec 159 (RpI .u32).sz (.slice (adOf (Ep7 46)) q5.length (capOf (Ep7 46))) q5.length q0j :: vec 159 (RpI .u32).sz (.slice A59 q3.length q3.length) q3.length q0a :: ro q6 :: l)) fuel ⟨q2, cs59, q5, q3, x62, hLL11, (hE7 8 rfl), q32, q2c, rfl, rfl, rfl, (q0k.le q2s), hr59, (((hS.pull 1).pull 1).pull 2)⟩ ?_
    rintro kL11 E w ⟨q0j, q0a, q0y, q10, q8, hLL11, q2t, q1d, q1q, q0m, q2k, q11, q9, q12, hS⟩
    replace hLL11 := lp_s hLL11; obtain ⟨kL11, obL11, rfl, hFL11, hLL11⟩ := hLL11
    refine x_seq <| x_seq <| x_region <| p (yl_move q11) <|
     p (yl_geq rfl rfl) <| x_done <|
     x_cond_p (0 ≤ q8) rfl (fun hc64 => ?_) (fun hc64 => ?_)
    ·replace hFL11 := it_t hc64 hFL11
     replace hFL11 := ar_s hFL11; obtain ⟨x70, hx70, hFL11⟩ := hFL11
     replace hFL11 := ck_s hFL11; obtain ⟨q39, hFL11⟩ := hFL11
     replace hFL11 := lv_s hFL11; obtain ⟨x72, hx72, hFL11⟩ := hFL11
     replace hFL11 := lv_s hFL11; obtain ⟨x73, hx73, hFL11⟩ := hFL11
     replace hFL11 := ck_s hFL11; obtain ⟨q4d, hFL11⟩ := hFL11
     replace hFL11 := lv_s hFL11; obtain ⟨x74, hx74, hFL11⟩ := hFL11
     replace hFL11 := ar_s hFL11; obtain ⟨x78, hx78, hFL11⟩ := hFL11
     replace hFL11 := ar_s hFL11; obtain ⟨x79, hx79, hFL11⟩ := hFL11
     replace hFL11 := ck_s hFL11; obtain ⟨q2u, hFL11⟩ := hFL11
     replace hFL11 := lv_s hFL11; obtain ⟨x81, hx81, hFL11⟩ := hFL11
     replace hFL11 := lv_s hFL11; obtain ⟨x82, hx82, hFL11⟩ := hFL11
     replace hFL11 := lv_s hFL11; obtain ⟨x83, hx83, hFL11⟩ := hFL11
     refine x_skip <| x_seq <| x_block <| x_seq <|
      x_still mixed (by kernel_rfl) hS <| q (yl_move q1d) <| q (yl_move q11) <| q (yl_move q0m) <|
      q (yadd rfl rfl hx70) <| q (yix_o sl_77 rfl rfl hS q9 q39) <| qa (fun w' hS => at_load one_159 rfl (RepL.getW q9 hS q39 hx72)) <| q (yconvu wm_u64 uk_159 ik_158 rfl hx73) <|
      q (yshl rfl rfl q4d hx74) <| q (yl_move q1d) <| q (yl_move q11) <| q (yl_move q0m) <|
      q (yadd rfl rfl hx78) <| q (ysub rfl rfl hx79) <| q (yix_o sl_77 rfl rfl hS q9 q2u) <| qa (fun w' hS => at_load one_159 rfl (RepL.getW q9 hS q2u hx81)) <|
      q (yconvu wm_u64 uk_159 ik_158 rfl hx82) <| q (yor rfl rfl hx83) <| q (yl_assign rfl) <|
      q_done fun w' hS => ?_
     replace hFL11 := ar_s hFL11; obtain ⟨x87, hx87, hFL11⟩ := hFL11
     replace hFL11 := ck_s hFL11; obtain ⟨q3a, hFL11⟩ := hFL11
     replace hFL11 := lv_s hFL11; obtain ⟨x89, hx89, hFL11⟩ := hFL11
     replace hFL11 := lv_s hFL11; obtain ⟨x90, hx90, hFL11⟩ := hFL11
     replace hFL11 := ck_s hFL11; obtain ⟨q4e, hFL11⟩ := hFL11
     replace hFL11 := lv_s hFL11; obtain ⟨x91, hx91, hFL11⟩ := hFL11
     replace hFL11 := ar_s hFL11; obtain ⟨x95, hx95, hFL11⟩ := hFL11
     replace hFL11 := ck_s hFL11; obtain ⟨q2v, hFL11⟩ := hFL11
     replace hFL11 := lv_s hFL11; obtain ⟨x97, hx97, hFL11⟩ := hFL11
     replace hFL11 := lv_s hFL11; obtain ⟨x98, hx98, hFL11⟩ := hFL11
     replace hFL11 := ck_s hFL11; obtain ⟨q3u, hFL11⟩ := hFL11
     replace hFL11 := lv_s hFL11; obtain ⟨x99, hx99, hFL11⟩ := hFL11
     refine x_seq <| x_still mixed (by kernel_rfl) hS <| q (yl_move rfl) <| q (yl_move q1q) <|
      q (yl_move q0m) <| q (ysub rfl rfl hx87) <| q (yix_f sl_77 rfl rfl (f52.le q0d) q3a) <| qa (fun w' hS => at_load one_159 rfl (RdS.getW (f52.le q0d) (hS.pull 2) q3a hx89)) <|
      q (yconvu wm_u64 uk_159 ik_158 rfl hx90) <| q (yquou wm_u64 rfl rfl q4e hx91) <| q (yl_move rfl) <| q (yl_move q1q) <|
      q (yl_move q0m) <| q (ysub rfl rfl hx95) <| q (yix_f sl_77 rfl rfl (f52.le q0d) q2v) <| qa (fun w' hS => at_load one_159 rfl (RdS.getW (f52.le q0d) (hS.pull 2) q2v hx97)) <|
      q (yconvu wm_u64 uk_159 ik_158 rfl hx98) <| q (yrem rfl rfl q3u hx99) <| q (yl_assign rfl) <| q (yl_assign rfl) <|
      q_done fun w' hS => ?_
     refine x_seq <| ?_
     replace hFL11 := bd_s hFL11; obtain ⟨oL15, hLL15, hFL11⟩ := hFL11
     refine x_join (fun E w => ∃ (q0o : Int), q0o = oL15 ∧ E 8 = .int .i64 q0e ∧ E 9 = .slice (adOf (Ep7 46)) q5.length (capOf (Ep7 46)) ∧ E 10 = .slice (adOf (Ep7 52)) x52.length (capOf (Ep7 52)) ∧ E 11 = .int .i64 (x52.length : Int) ∧ E 12 = .slice A59 q3.length q3.length ∧ E 13 = .int .i64 q8 ∧ E 15 = .int .u64 q0o ∧ St w0 w (vec 159 (RpI .u32).sz (.slice (adOf (Ep7 46)) q5.length (capOf (Ep7 46))) q5.length q0j :: vec 159 (RpI .u32).sz (.slice A59 q3.length q3.length) q3.length q0a :: ro q6 :: l)) ?_ ?_
     ·refine x_block ?_
      refine x_loop (fun k_ E w => ∃ (q0g : Int) (q0p : Int), lp (P_exact_divMag_L15 x52 q0y q8) k_ (q0g, q0p) = some oL15 ∧ E 8 = .int .i64 q0e ∧ E 9 = .slice (adOf (Ep7 46)) q5.length (capOf (Ep7 46)) ∧ E 10 = .slice (adOf (Ep7 52)) x52.length (capOf (Ep7 52)) ∧ E 11 = .int .i64 (x52.length : Int) ∧ E 12 = .slice A59 q3.length q3.length ∧ E 13 = .int .i64 q8 ∧ E 15 = .int .u64 q0g ∧ E 16 = .int .u64 q0p ∧ St w0 w (vec 159 (RpI .u32).sz (.slice (adOf (Ep7 46)) q5.length (capOf (Ep7 46))) q5.length q0j :: vec 159 (RpI .u32).sz (.slice A59 q3.length q3.length) q3.length q0a :: ro q6 :: l)) fuel ⟨x91, x99, hLL15, q2t, q1d, q1q, q0m, q2k, q11, rfl, rfl, (((hS.pull 2).pull 2).pull 2)⟩ ?_
      rintro kL15 E w ⟨q0g, q0p, hLL15, q25, q1e, q0t, q0n, q1r, q13, q14, q2l, hS⟩
      replace hLL15 := lp_s hLL15; obtain ⟨kL15, obL15, rfl, hFL15, hLL15⟩ := hLL15
      replace hFL15 := ck_s hFL15; obtain ⟨q4f, hFL15⟩ := hFL15
      replace hFL15 := lv_s hFL15; obtain ⟨x101, hx101, hFL15⟩ := hFL15
      replace hFL15 := ck_s hFL15; obtain ⟨q4g, hFL15⟩ := hFL15
      replace hFL15 := lv_s hFL15; obtain ⟨x107, hx107, hFL15⟩ := hFL15
      replace hFL15 := ck_s hFL15; obtain ⟨q3b, hFL15⟩ := hFL15
      replace hFL15 := lv_s hFL15; obtain ⟨x109, hx109, hFL15⟩ := hFL15
      replace hFL15 := lv_s hFL15; obtain ⟨x110, hx110, hFL15⟩ := hFL15
      replace hFL15 := lv_s hFL15; obtain ⟨x111, hx111, hFL15⟩ := hFL15
      replace hFL15 := ck_s hFL15; obtain ⟨q3v, hFL15⟩ := hFL15
      replace hFL15 := lv_s hFL15; obtain ⟨x113, hx113, hFL15⟩ := hFL15
      replace hFL15 := ck_s hFL15; obtain ⟨q3w, hFL15⟩ := hFL15
      replace hFL15 := lv_s hFL15; obtain ⟨x117, hx117, hFL15⟩ := hFL15
      replace hFL15 := ck_s hFL15; obtain ⟨q3x, hFL15⟩ := hFL15
      replace hFL15 := lv_s hFL15; obtain ⟨x118, hx118, hFL15⟩ := hFL15
      replace hFL15 := ck_s hFL15; obtain ⟨q2w, hFL15⟩ := hFL15
      replace hFL15 := lv_s hFL15; obtain ⟨x120, hx120, hFL15⟩ := hFL15
      replace hFL15 := lv_s hFL15; obtain ⟨x121, hx121, hFL15⟩ := hFL15
      replace hFL15 := lv_s hFL15; obtain ⟨x122, hx122, hFL15⟩ := hFL15
      replace hFL15 := lv_s hFL15; obtain ⟨x124, hx124, hFL15⟩ := hFL15
      refine x_seq <| x_seq <| x_still mixed (by kernel_rfl) hS <| q (yl_move q14) <|
       q (yshr rfl rfl q4f hx101) <| q (yl_neq rfl rfl) <| q (yl_move rfl) <| qg (v := .int .u64 q0g) 103 (c := !(decide (x101 ≠ 0))) (says_f _) (fun hq w' hS => Yl.at (yl_move q14)) <|
       qg (v := .slice (adOf (Ep7 52)) x52.length (capOf (Ep7 52))) 103 (c := !(decide (x101 ≠ 0))) (says_f _) (fun hq w' hS => Yl.at (yl_move q0t)) <| qg (v := .int .i64 (x52.length : Int)) 103 (c := !(decide (x101 ≠ 0))) (says_f _) (fun hq w' hS => Yl.at (yl_move q0n)) <| qg (v := .int .i64 x107) 103 (c := !(decide (x101 ≠ 0))) (says_f _) (fun hq w' hS => Yl.at (ysub (cv hq) rfl ⟨hx107, (q4g hq)⟩)) <| qg (v := .pointer (some ((adr (adOf (Ep7 52))).add (x107.toNat * (RpI .u32).sz)))) 103 (c := !(decide (x101 ≠ 0))) (says_f _) (fun hq w' hS => Yl.at (yix_f sl_77 (cv hq) (cv hq) (f52.le q0d) (q3b hq))) <|
       qg (v := .int .u32 x109) 103 (c := !(decide (x101 ≠ 0))) (says_f _) (fun hq w' hS => at_load one_159 (cv hq) (RdS.getW (f52.le q0d) (hS.pull 2) (q3b hq) hx109)) <| qg (v := .int .u64 x110) 103 (c := !(decide (x101 ≠ 0))) (says_f _) (fun hq w' hS => Yl.at (yconvu wm_u64 uk_159 ik_158 (cv hq) hx110)) <| qg (v := .int .u64 x111) 103 (c := !(decide (x101 ≠ 0))) (says_f _) (fun hq w' hS => Yl.at (ymulu wm_u64 (cv hq) (cv hq) hx111)) <| qg (v := .int .u64 q0p) 103 (c := !(decide (x101 ≠ 0))) (says_f _) (fun hq w' hS => Yl.at (yl_move q2l)) <|
       qg (v := .int .u64 x113) 103 (c := !(decide (x101 ≠ 0))) (says_f _) (fun hq w' hS => Yl.at (yshl (cv hq) rfl (q3v hq) hx113)) <| qg (v := .slice (adOf (Ep7 46)) q5.length (capOf (Ep7 46))) 103 (c := !(decide (x101 ≠ 0))) (says_f _) (fun hq w' hS => Yl.at (yl_move q1e)) <| qg (v := .int .i64 q8) 103 (c := !(decide (x101 ≠ 0))) (says_f _) (fun hq w' hS => Yl.at (yl_move q13)) <| qg (v := .int .i64 (x52.length : Int)) 103 (c := !(decide (x101 ≠ 0))) (says_f _) (fun hq w' hS => Yl.at (yl_move q0n)) <|
       qg (v := .int .i64 x117) 103 (c := !(decide (x101 ≠ 0))) (says_f _) (fun hq w' hS => Yl.at (yadd (cv hq) (cv hq) ⟨hx117, (q3w hq)⟩)) <| qg (v := .int .i64 x118) 103 (c := !(decide (x101 ≠ 0))) (says_f _) (fun hq w' hS => Yl.at (ysub (cv hq) rfl ⟨hx118, (q3x hq)⟩)) <| qg (v := .pointer (some ((adr (adOf (Ep7 46))).add (x118.toNat * (RpI .u32).sz)))) 103 (c := !(decide (x101 ≠ 0))) (says_f _) (fun hq w' hS => Yl.at (yix_o sl_77 (cv hq) (cv hq) hS q9 (q2w hq))) <| qg (v := .int .u32 x120) 103 (c := !(decide (x101 ≠ 0))) (says_f _) (fun hq w' hS => at_load one_159 (cv hq) (RepL.getW q9 hS (q2w hq) hx120)) <|
       qg (v := .int .u64 x121) 103 (c := !(decide (x101 ≠ 0))) (says_f _) (fun hq w' hS => Yl.at (yconvu wm_u64 uk_159 ik_158 (cv hq) hx121)) <| qg (v := .int .u64 x122) 103 (c := !(decide (x101 ≠ 0))) (says_f _) (fun hq w' hS => Yl.at (yor (cv hq) (cv hq) hx122)) <| qg (v := .bool (decide (x122 < x111))) 103 (c := !(decide (x101 ≠ 0))) (says_f _) (fun hq w' hS => Yl.at (yl_gtr (cv hq) (cv hq))) <| q (yor' rfl rfl (fun hc => (cv (t_not hc))) hx124) <|
       q_done fun w' hS => ?_
      refine x_cond (t := x124) rfl (fun hc124 => ?_) (fun hc124 => ?_)
      ·replace hFL15 := it_t hc124 hFL15
       replace hFL15 := lv_s hFL15; obtain ⟨x126, hx126, hFL15⟩ := hFL15
       replace hFL15 := ar_s hFL15; obtain ⟨x130, hx130, hFL15⟩ := hFL15
       replace hFL15 := ck_s hFL15; obtain ⟨q3c, hFL15⟩ := hFL15
       replace hFL15 := lv_s hFL15; obtain ⟨x132, hx132, hFL15⟩ := hFL15
       replace hFL15 := lv_s hFL15; obtain ⟨x133, hx133, hFL15⟩ := hFL15
       replace hFL15 := lv_s hFL15; obtain ⟨x134, hx134, hFL15⟩ := hFL15
       replace hFL15 := ck_s hFL15; obtain ⟨q4h, hFL15⟩ := hFL15
       replace hFL15 := lv_s hFL15; obtain ⟨x136, hx136, hFL15⟩ := hFL15
       refine x_skip <| x_block <| x_seq <| x_region <|
        p (yl_move q14) <| p (ysubu wm_u64 rfl rfl hx126) <| p (yl_assign rfl) <| x_done <|
        x_seq <| x_region <| p (yl_move q2l) <| p (yl_move q0t) <|
        p (yl_move q0n) <| p (ysub rfl rfl hx130) <| p (yix_f sl_77 rfl rfl (f52.le q0d) q3c) <| pa (at_load one_159 rfl (RdS.getW (f52.le q0d) (hS.pull 2) q3c hx132)) <|
        p (yconvu wm_u64 uk_159 ik_158 rfl hx133) <| p (yaddu wm_u64 rfl rfl hx134) <| p (yl_assign rfl) <| x_done <|
        x_seq <| x_region <| p (yl_move rfl) <| p (yshr rfl rfl q4h hx136) <|
        p (yl_neq rfl rfl) <| x_done <|
        x_cond_p (x136 ≠ 0) rfl (fun hc137 => ?_) (fun hc137 => ?_)
       ·replace hFL15 := it_t hc137 hFL15
        refine x_exitTo _ rfl <| ?_
        have e_ := Option.some.inj (show some _ = some _ from hFL15); subst e_
        exact x_inv ⟨x126, hLL15, q25, q1e, q0t, q0n, q1r, q13, rfl, (((hS.pull 2).pull 2).pull 2)⟩
       ·replace hFL15 := it_f hc137 hFL15
        refine x_skip <| x_blk <| ?_
        have e_ := Option.some.inj (show some _ = some _ from hFL15); subst e_
        exact x_inv ⟨kL15, Nat.lt_succ_self _, x126, x134, hLL15, q25, q1e, q0t, q0n, q1r, q13, rfl, rfl, (((hS.pull 2).pull 2).pull 2)⟩
      ·replace hFL15 := it_bf hc124 hFL15
       refine x_exitTo _ rfl <| ?_
       have e_ := Option.some.inj (show some _ = some _ from hFL15); subst e_
       exact x_inv ⟨q0g, hLL15, q25, q1e, q0t, q0n, q1r, q13, q14, (((hS.pull 2).pull 2).pull 2)⟩
     rintro E w ⟨q0o, rfl, q3d, q1t, q1f, q1g, q2x, q0s, q26, hS⟩
     replace hFL11 := ar_s hFL11; obtain ⟨x142, hx142, hFL11⟩ := hFL11
     replace hFL11 := ar_s hFL11; obtain ⟨x143, hx143, hFL11⟩ := hFL11
     replace hFL11 := ck_s hFL11; obtain ⟨q4i, hFL11⟩ := hFL11
     replace hFL11 := lv_s hFL11; obtain ⟨m144, hm144, hFL11⟩ := hFL11
     replace hFL11 := bd_s hFL11; obtain ⟨q3t, q4j, hFL11⟩ := hFL11
     refine x_seq <| x_seq <| x_region <| p (yl_move q1t) <|
      p (yl_move q0s) <| p (yl_move q0s) <| p (yl_move q1g) <| p (yadd rfl rfl hx142) <|
      p (yadd rfl rfl hx143) <| p (yslw sl_77 rfl rfl rfl hS q9 q4i hm144) <| p (yl_move q1f) <| p (yl_move q26) <| ?_
     have hcall := c_exact_take (cw_u0 := ((capOf (Ep7 46)) - q8.toNat)) q4j q9 (f52.le q0d) ((hS.pull 2).pull 1)
     refine o_cc call_148 (args3 rfl rfl rfl) hcall ?_
     rintro e w' ⟨q15, rfl, q0h, hS⟩
     refine ⟨_, rfl, ?_⟩
     refine x_done <| ?_
     replace hFL11 := bd_s hFL11; obtain ⟨oc147, hFc147, hFL11⟩ := hFL11
     refine x_join (fun E w => ∃ (q0q : List Value) (q1h : List Int) (q0u : Int), (q1h, q0u) = oc147 ∧ E 8 = .int .i64 q0e ∧ E 9 = .slice (adOf (Ep7 46)) q5.length (capOf (Ep7 46)) ∧ E 10 = .slice (adOf (Ep7 52)) x52.length (capOf (Ep7 52)) ∧ E 11 = .int .i64 (x52.length : Int) ∧ E 12 = .slice A59 q3.length q3.length ∧ E 13 = .int .i64 q8 ∧ E 15 = .int .u64 q0u ∧ RepL (RpI .u32) q6 q1h q0q ∧ St w0 w (vec 159 (RpI .u32).sz (.slice (adOf (Ep7 46)) q5.length (capOf (Ep7 46))) q5.length q0q :: vec 159 (RpI .u32).sz (.slice A59 q3.length q3.length) q3.length q0a :: ro q6 :: l)) ?_ ?_
     ·refine x_cond (t := q3t.1) rfl (fun hc147 => ?_) (fun hc147 => ?_)
      ·replace hFc147 := it_t hc147 hFc147
       replace hFc147 := lv_s hFc147; obtain ⟨x149, hx149, hFc147⟩ := hFc147
       replace hFc147 := ar_s hFc147; obtain ⟨x154, hx154, hFc147⟩ := hFc147
       replace hFc147 := ar_s hFc147; obtain ⟨x155, hx155, hFc147⟩ := hFc147
       replace hFc147 := ck_s hFc147; obtain ⟨q4k, hFc147⟩ := hFc147
       replace hFc147 := lv_s hFc147; obtain ⟨m156, hm156, hFc147⟩ := hFc147
       replace hFc147 := bd_s hFc147; obtain ⟨q51, q4l, hFc147⟩ := hFc147
       refine x_seq <| x_region <| p (yl_move q26) <| p (ysubu wm_u64 rfl rfl hx149) <|
        p (yl_assign rfl) <| x_done <| x_region <| p (yl_move q1t) <|
        p (yl_move q0s) <| p (yl_move q0s) <| p (yl_move q1g) <| p (yadd rfl rfl hx154) <|
        p (yadd rfl rfl hx155) <| p (yslw sl_77 rfl rfl rfl hS q0h q4k hm156) <| p (yl_move q1f) <| ?_
       have hcall := c_exact_give (cw_u0 := ((capOf (Ep7 46)) - q8.toNat)) q4l q0h (f52.le q0d) ((hS.pull 1).pull 1)
       refine o_cc call_149 (args2 rfl rfl) hcall ?_
       rintro e w' ⟨q16, rfl, q19, hS⟩
       refine ⟨_, rfl, ?_⟩
       refine x_done <| ?_
       exact x_inv ⟨q16, q51, x149, (Option.some.inj (show some _ = some _ from hFc147)), q3d, q1t, q1f, q1g, q2x, q0s, rfl, q19, (((hS.pull 1).pull 2).pull 2)⟩
      ·replace hFc147 := it_bf hc147 hFc147
       refine x_skip <| ?_
       exact x_inv ⟨q15, q3t.2, q0o, (Option.some.inj (show some _ = some _ from hFc147)), q3d, q1t, q1f, q1g, q2x, q0s, q26, q0h, (((hS.pull 1).pull 2).pull 2)⟩
     rintro E w ⟨q0q, q1h, q0u, rfl, q3y, q3z, q3l, q3m, q2m, q2n, q3n, q3e, hS⟩
     replace hFL11 := lv_s hFL11; obtain ⟨x162, hx162, hFL11⟩ := hFL11
     replace hFL11 := ck_s hFL11; obtain ⟨q3f, hFL11⟩ := hFL11
     refine x_region <| p (yl_move q2m) <| p (yl_move q2n) <| p (yl_move q3n) <|
      p (yconvu wm_u32 uk_158 ik_159 rfl hx162) <| p (yix_o sl_77 rfl rfl (hS.pull 1) q12 q3f) <| ?_
     replace hFL11 := lv_s hFL11; obtain ⟨q52, q4m, hFL11⟩ := hFL11
     refine o_put' (news := [.int .u32 x162]) sz_159 rfl rfl rfl rfl (o := 0) rfl q3f rfl (hS.pull 1) q12 (Le.refl _) (fun c hc => ok_all hc (show (RpI .u32).ok q6 [.int .u32 x162] x162 from rfl)) q4m (fun q4n w' q4o hS => ?_)
     replace hFL11 := ar_s hFL11; obtain ⟨x66, hx66, hFL11⟩ := hFL11
     refine x_done <| x_blk <| x_region <| p (yl_move q2n) <|
      p (ysub rfl rfl hx66) <| p (yl_assign rfl) <| x_done <| ?_
     have e_ := Option.some.inj (show some _ = some _ from hFL11); subst e_
     exact x_inv ⟨kL11, Nat.lt_succ_self _, q0q, q4n, q1h, q52, x66, hLL11, q3y, q3z, q3l, q3m, q2m, rfl, q3e, q4o, (((hS.pull 2).pull 1).pull 2)⟩
    ·replace hFL11 := it_f hc64 hFL11
     refine x_exitTo _ rfl <| ?_
     have e_ := Option.some.inj (show some _ = some _ from hFL11); subst e_
     exact x_inv ⟨q0j, q0a, q0y, q10, hLL11, q2t, q1d, q0m, q2k, q9, q12, (((hS.pull 2).pull 2).pull 2)⟩
   rintro E w ⟨q0v, q0b, q1s, q24, rfl, q4p, q4q, q2y, q40, q3o, q3g, hS⟩
   refine x_seq <| x_seq <| x_region <| p (yl_move q2y) <|
    p (yl_move rfl) <| x_done <| ?_
   replace hF := bd_s hF; obtain ⟨oL24, hLL24, hF⟩ := hF
   refine x_join (fun E w => ∃ (q1a : List Value) (q2o : List Int), q2o = oL24 ∧ E 9 = .slice (adOf (Ep7 46)) q5.length (capOf (Ep7 46)) ∧ E 11 = .int .i64 (x52.length : Int) ∧ E 12 = .slice A59 q3.length q3.length ∧ RepL (RpI .u32) q6 q2o q1a ∧ St w0 w (vec 159 (RpI .u32).sz (.slice (adOf (Ep7 46)) q5.length (capOf (Ep7 46))) q5.length q1a :: vec 159 (RpI .u32).sz (.slice A59 q3.length q3.length) q3.length q0b :: ro q6 :: l)) ?_ ?_
   ·refine x_block ?_
    refine x_loop (fun k_ E w => ∃ (q0r : List Value) (q1i : List Int) (q0w : Int), lp (P_exact_divMag_L24 q0e x52) k_ (q1i, q0w) = some oL24 ∧ E 8 = .int .i64 q0e ∧ E 9 = .slice (adOf (Ep7 46)) q5.length (capOf (Ep7 46)) ∧ E 11 = .int .i64 (x52.length : Int) ∧ E 12 = .slice A59 q3.length q3.length ∧ E 164 = .int .i64 (x52.length : Int) ∧ E 165 = .int .i64 q0w ∧ RepL (RpI .u32) q6 q1i q0r ∧ St w0 w (vec 159 (RpI .u32).sz (.slice (adOf (Ep7 46)) q5.length (capOf (Ep7 46))) q5.length q0r :: vec 159 (RpI .u32).sz (.slice A59 q3.length q3.length) q3.length q0b :: ro q6 :: l)) fuel ⟨q0v, q1s, 0, hLL24, q4p, q4q, q2y, q40, rfl, rfl, q3o, (((hS.pull 2).pull 2).pull 2)⟩ ?_
    rintro kL24 E w ⟨q0r, q1i, q0w, hLL24, q27, q0z, q2p, q2q, q29, q1b, q0i, hS⟩
    replace hLL24 := lp_s hLL24; obtain ⟨kL24, obL24, rfl, hFL24, hLL24⟩ := hLL24
    refine x_seq <| x_region <| p (yl_lss q1b q29) <| x_done <|
     x_seq <|
     x_cond_p (q0w < (x52.length : Int)) rfl (fun hc166 => ?_) (fun hc166 => ?_)
    ·replace hFL24 := it_t hc166 hFL24
     replace hFL24 := ck_s hFL24; obtain ⟨q3h, hFL24⟩ := hFL24
     replace hFL24 := lv_s hFL24; obtain ⟨x173, hx173, hFL24⟩ := hFL24
     replace hFL24 := ck_s hFL24; obtain ⟨q4r, hFL24⟩ := hFL24
     replace hFL24 := lv_s hFL24; obtain ⟨x175, hx175, hFL24⟩ := hFL24
     replace hFL24 := ar_s hFL24; obtain ⟨x178, hx178, hFL24⟩ := hFL24
     replace hFL24 := ck_s hFL24; obtain ⟨q2z, hFL24⟩ := hFL24
     replace hFL24 := lv_s hFL24; obtain ⟨x180, hx180, hFL24⟩ := hFL24
     replace hFL24 := lv_s hFL24; obtain ⟨x181, hx181, hFL24⟩ := hFL24
     replace hFL24 := ck_s hFL24; obtain ⟨q41, hFL24⟩ := hFL24
     replace hFL24 := lv_s hFL24; obtain ⟨x182, hx182, hFL24⟩ := hFL24
     replace hFL24 := ck_s hFL24; obtain ⟨q42, hFL24⟩ := hFL24
     replace hFL24 := lv_s hFL24; obtain ⟨x184, hx184, hFL24⟩ := hFL24
     replace hFL24 := lv_s hFL24; obtain ⟨x185, hx185, hFL24⟩ := hFL24
     replace hFL24 := lv_s hFL24; obtain ⟨x186, hx186, hFL24⟩ := hFL24
     replace hFL24 := ck_s hFL24; obtain ⟨q30, hFL24⟩ := hFL24
     refine x_skip <| x_seq <| x_block <| x_seq <|
      x_region <| p (yl_move q1b) <| p (yl_assign rfl) <| x_done <|
      x_head 20 mixed (by kernel_rfl) hS _ _ rfl rfl <| q (yl_move q0z) <| q (yl_move rfl) <| q (yl_move q0z) <|
      q (yl_move rfl) <| q (yix_o sl_77 rfl rfl hS q0i q3h) <| qa (fun w' hS => at_load one_159 rfl (RepL.getW q0i hS q3h hx173)) <| q (v := .int .i64 q0e) (yl_move q27) <|
      q (yshr rfl rfl q4r hx175) <| q (yl_move q0z) <| q (yl_move rfl) <| q (yadd rfl rfl hx178) <|
      q (yix_o sl_77 rfl rfl hS q0i q2z) <| qa (fun w' hS => at_load one_159 rfl (RepL.getW q0i hS q2z hx180)) <| q (yconvu wm_u64 uk_159 ik_158 rfl hx181) <| q (yshl rfl rfl q41 hx182) <|
      q (v := .int .i64 q0e) (yl_move q27) <| q (yshr rfl rfl q42 hx184) <| q (yconvu wm_u32 uk_158 ik_159 rfl hx185) <| q (yor rfl rfl hx186) <|
      q (yix_o sl_77 rfl rfl hS q0i q30) <|
      q_done fun w' hS => ?_
     replace hFL24 := lv_s hFL24; obtain ⟨q4s, q43, hFL24⟩ := hFL24
     refine o_put' (news := [.int .u32 x186]) sz_159 rfl rfl rfl rfl (o := 0) rfl q30 rfl hS q0i (Le.refl _) (fun c hc => ok_all hc (show (RpI .u32).ok q6 [.int .u32 x186] x186 from rfl)) q43 (fun q44 w' q45 hS => ?_)
     replace hFL24 := ar_s hFL24; obtain ⟨x188, hx188, hFL24⟩ := hFL24
     refine x_done <| x_blk <| x_region <| p (yadd q1b rfl hx188) <|
      p (yl_move rfl) <| x_done <| ?_
     have e_ := Option.some.inj (show some _ = some _ from hFL24); subst e_
     exact x_inv ⟨kL24, Nat.lt_succ_self _, q44, q4s, x188, hLL24, q27, q0z, q2p, q2q, q29, rfl, q45, (((hS.pull 2).pull 2).pull 2)⟩
    ·replace hFL24 := it_f hc166 hFL24
     refine x_exitTo _ rfl <| ?_
     have e_ := Option.some.inj (show some _ = some _ from hFL24); subst e_
     exact x_inv ⟨q0r, q1i, hLL24, q0z, q2p, q2q, q0i, (((hS.pull 2).pull 2).pull 2)⟩
   rintro E w ⟨q1a, q2o, rfl, q4t, q46, q47, q3p, hS⟩
   refine x_seq <| ?_
   have q_ := St.vec_fz ((hS.pull 2).pull 1) q3p; obtain ⟨q0c, q1c, q33, hS⟩ := q_
   replace hF := ck_s hF; obtain ⟨q3i, hF⟩ := hF
   replace hF := lv_s hF; obtain ⟨x192, hx192, hF⟩ := hF
   refine x_par (w0 := w0) [⟨[], [], [189], [], [], []⟩, ⟨[], [], [190], [], [], []⟩, ⟨[], [], [191], [], [], []⟩, ⟨[1, 2], [1, 2], [192], [0], [], []⟩, ⟨[0], [0], [4], [], [], []⟩, ⟨[0, 1, 2, 3, 4], [3], [5, 192], [], [], []⟩] [⟨none, none, []⟩] [4, 5, 189, 190, 191, 192] [0] [0] [0, 1, 2, 3, 4, 5] [fun Ep28 => Ep28 189 = .slice A59 q3.length q3.length, fun Ep28 => Ep28 190 = .slice (adOf (Ep7 46)) q5.length (capOf (Ep7 46)), fun Ep28 => Ep28 191 = .int .i64 (x52.length : Int), fun Ep28 => Ep28 192 = .slice (adOf (Ep28 192)) x192.length (capOf (Ep28 192)) ∧ RdS (RpI .u32) q0c (adOf (Ep28 192)) x192.length (capOf (Ep28 192)) x192, fun Ep28 => Ep28 4 = .slice A59 q3.length q3.length, fun Ep28 => Ep28 5 = .slice (adOf (Ep28 192)) x192.length (capOf (Ep28 192))] [fun Ep28 => ro q0c] mixed (by kernel_rfl) hS ?_ ?_
   ·refine ⟨?_, ?_, ?_, ?_, ?_, ?_, trivial⟩
    ·intro Ep28 w l' hE28 hO28 hF_ hS
     refine p (yl_move ((hE28 12 rfl).trans q47)) <| x_done <| ?_
     refine x_fin ⟨⟨_, rfl⟩, rfl, ?_⟩
     exact Eq.mp (by kernel_rfl) hS
    ·intro Ep28 w l' hE28 hO28 hF_ hS
     refine p (yl_move ((hE28 9 rfl).trans q4t)) <| x_done <| ?_
     refine x_fin ⟨⟨_, rfl⟩, rfl, ?_⟩
     exact Eq.mp (by kernel_rfl) hS
    ·intro Ep28 w l' hE28 hO28 hF_ hS
     refine p (yl_move ((hE28 11 rfl).trans q46)) <| x_done <| ?_
     refine x_fin ⟨⟨_, rfl⟩, rfl, ?_⟩
     exact Eq.mp (by kernel_rfl) hS
    ·intro Ep28 w l' hE28 hO28 hF_ hS
     obtain ⟨q1j, q1k, -⟩ := hF_
     replace q1j : Ep28 190 = .slice (adOf (Ep7 46)) q5.length (capOf (Ep7 46)) := Eq.mp (by kernel_rfl) q1j
     replace q1k : Ep28 191 = .int .i64 (x52.length : Int) := Eq.mp (by kernel_rfl) q1k
     replace hS : St w0 w (ro q0c :: l') := Eq.mp (by kernel_rfl) hS
     have q_ := RdS.sub q33 q3i hx192; obtain ⟨A192, n192, c192, hd192, f192⟩ := q_
     refine p (ysub_h sl_77 q1j q1k q3i hd192) <| ?_
     have e_ := f192.n; subst e_
     refine x_done <| ?_
     refine x_fin ⟨⟨_, rfl⟩, ⟨rfl, f192⟩, ?_⟩
     exact Eq.mp (by kernel_rfl) hS
    ·intro Ep28 w l' hE28 hO28 hF_ hS
     obtain ⟨q1l, -⟩ := hF_
     replace q1l : Ep28 189 = .slice A59 q3.length q3.length := Eq.mp (by kernel_rfl) q1l
     refine p (yl_assign q1l) <| x_done <| ?_
     refine x_fin ⟨⟨_, rfl⟩, rfl, ?_⟩
     exact Eq.mp (by kernel_rfl) hS
    ·intro Ep28 w l' hE28 hO28 hF_ hS
     obtain ⟨q0x, -⟩ := hF_
     replace q0x : Ep28 192 = .slice (adOf (Ep28 192)) x192.length (capOf (Ep28 192)) ∧ RdS (RpI .u32) q0c (adOf (Ep28 192)) x192.length (capOf (Ep28 192)) x192 := Eq.mp (by kernel_rfl) q0x
     have q_ := id q0x; obtain ⟨-, q3j⟩ := q_
     refine p (yl_assign q0x.1) <| x_done <| ?_
     refine x_fin ⟨⟨_, rfl⟩, rfl, ?_⟩
     exact Eq.mp (by kernel_rfl) hS
   intro Ep28 w' hE28 hF_ hS
   obtain ⟨q1l, q1j, q1k, q0x, q34, q35, -⟩ := hF_
   replace q1l : Ep28 189 = .slice A59 q3.length q3.length := Eq.mp (by kernel_rfl) q1l
   replace q1j : Ep28 190 = .slice (adOf (Ep7 46)) q5.length (capOf (Ep7 46)) := Eq.mp (by kernel_rfl) q1j
   replace q1k : Ep28 191 = .int .i64 (x52.length : Int) := Eq.mp (by kernel_rfl) q1k
   replace q0x : Ep28 192 = .slice (adOf (Ep28 192)) x192.length (capOf (Ep28 192)) ∧ RdS (RpI .u32) q0c (adOf (Ep28 192)) x192.length (capOf (Ep28 192)) x192 := Eq.mp (by kernel_rfl) q0x
   have q_ := id q0x; obtain ⟨-, q3j⟩ := q_
   replace q34 : Ep28 4 = .slice A59 q3.length q3.length := Eq.mp (by kernel_rfl) q34
   replace q35 : Ep28 5 = .slice (adOf (Ep28 192)) x192.length (capOf (Ep28 192)) := Eq.mp (by kernel_rfl) q35
   replace hS : St w0 w' (ro q0c :: (vec 159 (RpI .u32).sz (.slice A59 q3.length q3.length) q3.length q0b :: l)) := Eq.mp (by kernel_rfl) hS
   have e_ := Option.some.inj (show some _ = some _ from hF); subst e_
   exact x_return ⟨_, ⟨_, _, rfl, q34, _, _, rfl, q35, rfl⟩, q0c, A59, q3.length, q3.length, q0b, (adOf (Ep28 192)), x192.length, (capOf (Ep28 192)), rfl, (q2s.trans q1c), (q3g.le q1c), q3j, (hS.pull 1)⟩
attribute [irreducible] P_exact_divMag

def P_exact_Abs (a0 : T_exact_Int) : Option T_exact_Int :=
 bd (P_exact_made false a0.fmag) fun q2 =>
 some q2
set_option maxHeartbeats 4000000 in
set_option maxRecDepth 100000 in
theorem c_exact_Abs {w0 w : World} {l : List Assn} {ρ : Heap} {q6 : Option Addr} {q7 : Nat} {c_a0_1 : Nat} {a0 : T_exact_Int} {r : T_exact_Int} (hF : P_exact_Abs a0 = some r) (q8 : RdS (RpI .u32) ρ q6 q7 c_a0_1 a0.fmag) (hS : St w0 w (ro ρ :: l)) :
  Calls Try.prog 56 #[.agg #[.bool a0.fneg, .slice q6 q7 c_a0_1]] w fun e w' => ∃ (q4 : Option Addr) (q5 : Nat) (c_y0_ret_1 : Nat), e = .returned (.agg #[.bool r.fneg, .slice q4 q5 c_y0_ret_1]) ∧ RdS (RpI .u32) ρ q4 q5 c_y0_ret_1 r.fmag ∧ St w0 w' (ro ρ :: l) := by
 have e_ := q8.n; subst e_
 refine enterC Try.func56 rfl 6 rfl (by simp) ?_
 refine x_seq <| x_region <| ?_
 refine o_box (cs := [.bool a0.fneg, .slice q6 a0.fmag.length c_a0_1]) rfl rfl hS (fun b1 w' hS => ?_)
 refine o_alloc zero_79 hS (fun b2 w' hS => ?_)
 replace hF := bd_s hF; obtain ⟨q9, q0b, hF⟩ := hF
 refine x_done <| x_seq <| x_region <| p (yl_field0 fld_79_1 rfl) <|
  pa (at_load one_77 rfl ((hS.pull 1).cell rfl)) <| ?_
 have hcall := c_exact_made q0b q8 (hS.pull 2)
 refine o_cc call_93 (args2 rfl rfl) hcall ?_
 rintro e w' ⟨q2, q0a, c_y0_ret_1_1_2, rfl, q3, hS⟩
 refine ⟨_, rfl, ?_⟩
 have e_ := q3.n; subst e_
 refine o_storeAgg (news := [.bool q9.fneg, .slice q2 q9.fmag.length c_y0_ret_1_1_2]) agg_79 rfl rfl rfl (by simp [over_length]) (hS.pull 1) (fun w' hS => ?_)
 refine x_done <| ?_
 have e_ := Option.some.inj (show some _ = some _ from hF); subst e_
 exact x_return ⟨_, ⟨_, _, _, rfl, rfl, ldvA agg_79 rfl (fun j v hj => by rw [add0]; exact St.cell hS hj), rfl⟩, q2, q9.fmag.length, c_y0_ret_1_1_2, rfl, q3, ((hS.drop.pull 1).drop)⟩
attribute [irreducible] P_exact_Abs

def P_exact_split (a0 : T_exact_Int) (b1 : T_exact_Int) : Option (T_exact_Int × T_exact_Int) :=
 bd (P_exact_divMag a0.fmag b1.fmag) fun q4 =>
 bd (P_exact_made (!(a0.fneg == b1.fneg)) q4.1) fun q3 =>
 bd (P_exact_made a0.fneg q4.2) fun q2 =>
 if q2.fneg = true then
  bd (P_exact_Abs b1) fun q6 =>
  bd (P_exact_plus q2 q6) fun q5 =>
  if b1.fneg = true then
   bd (P_exact_Of 1) fun q7 =>
   bd (P_exact_plus q3 q7) fun q8 =>
   some (q8, q5)
  else
   bd (P_exact_Of (-1)) fun q9 =>
   bd (P_exact_plus q3 q9) fun q0a =>
   some (q0a, q5)
 else
  some (q3, q2)
set_option maxHeartbeats 4000000 in
set_option maxRecDepth 100000 in
theorem c_exact_split {w0 w : World} {l : List Assn} {ρ : Heap} {q0p : Option Addr} {q2m : Nat} {c_a0_1 : Nat} {q0d : Option Addr} {q2n : Nat} {c_b1_1 : Nat} {a0 : T_exact_Int} {b1 : T_exact_Int} {r : (T_exact_Int × T_exact_Int)} (hF : P_exact_split a0 b1 = some r) (q2o : RdS (RpI .u32) ρ q0p q2m c_a0_1 a0.fmag) (q27 : RdS (RpI .u32) ρ q0d q2n c_b1_1 b1.fmag) (hS : St w0 w (ro ρ :: l)) :
  Calls Try.prog 103 #[.agg #[.bool a0.fneg, .slice q0p q2m c_a0_1], .agg #[.bool b1.fneg, .slice q0d q2n c_b1_1]] w fun e w' => ∃ (ρ' : Heap) (q17 : Option Addr) (q18 : Nat) (c_y0_ret_1 : Nat) (q19 : Option Addr) (q1a : Nat) (c_y1_ret_1 : Nat), e = .returned (.tuple #[.agg #[.bool r.1.fneg, .slice q17 q18 c_y0_ret_1], .agg #[.bool r.2.fneg, .slice q19 q1a c_y1_ret_1]]) ∧ Le ρ ρ' ∧ RdS (RpI .u32) ρ' q17 q18 c_y0_ret_1 r.1.fmag ∧ RdS (RpI .u32) ρ' q19 q1a c_y1_ret_1 r.2.fmag ∧ St w0 w' (ro ρ' :: l) := by
 have e_ := q2o.n; subst e_
 have e_ := q27.n; subst e_
 refine enterC Try.func103 rfl 47 rfl (by simp) ?_
 refine x_seq <| x_region <| ?_
 refine o_box (cs := [.bool a0.fneg, .slice q0p a0.fmag.length c_a0_1]) rfl rfl hS (fun b2 w' hS => ?_)
 refine o_box (cs := [.bool b1.fneg, .slice q0d b1.fmag.length c_b1_1]) rfl rfl hS (fun b3 w' hS => ?_)
 refine o_alloc zero_79 hS (fun b4 w' hS => ?_)
 refine o_alloc zero_79 hS (fun b5 w' hS => ?_)
 replace hF := bd_s hF; obtain ⟨q0s, q3a, hF⟩ := hF
 refine x_done <| x_seq <| x_region <| p (yl_field0 fld_79_1 rfl) <|
  pa (at_load one_77 rfl ((hS.pull 3).cell rfl)) <| p (yl_field0 fld_79_1 rfl) <| pa (at_load one_77 rfl ((hS.pull 2).cell rfl)) <| ?_
 have hcall := c_exact_divMag q3a q2o q27 (hS.pull 4)
 refine o_cc call_130 (args2 rfl rfl) hcall ?_
 rintro e w' ⟨q0j, q8, q35, c_y0_ret_1_4, q0z, q0x, q36, c_y1_ret_1_4, rfl, q1b, q10, q11, hS⟩
 refine ⟨_, rfl, ?_⟩
 have e_ := St.vec_n hS q10; subst e_
 have e_ := q11.n; subst e_
 refine p (yl_move rfl) <| p (yl_extract rfl rfl) <| p (yl_extract rfl rfl) <| p (yl_assign rfl) <|
  p (yl_assign rfl) <| x_done <| x_seq <| ?_
 replace hF := bd_s hF; obtain ⟨q2, q3b, hF⟩ := hF
 replace hF := bd_s hF; obtain ⟨q3, q37, hF⟩ := hF
 refine x_par (w0 := w0) [⟨[], [], [18], [], [], []⟩, ⟨[0], [0], [19], [0], [], []⟩, ⟨[], [], [20], [], [], []⟩, ⟨[2], [2], [21], [1], [], []⟩, ⟨[0, 1, 2, 3], [1, 3], [22], [], [], []⟩, ⟨[], [], [23], [], [], []⟩, ⟨[0, 1, 2, 3, 4, 5], [4, 5], [24], [3], [2], [4]⟩, ⟨[], [], [25], [], [], []⟩, ⟨[7], [7], [26], [0], [], []⟩, ⟨[], [], [27], [], [], []⟩, ⟨[0, 1, 2, 3, 4, 5, 6, 7, 8, 9], [8, 9], [28], [3], [], [5]⟩, ⟨[], [], [8], [], [], [6]⟩, ⟨[], [], [9], [], [], [7]⟩, ⟨[0, 1, 2, 3, 4, 5, 6, 7, 8, 9, 10, 11, 12], [6, 11], [], [], [6], [8]⟩, ⟨[0, 1, 2, 3, 4, 5, 6, 7, 8, 9, 10, 11, 12, 13], [10, 12], [], [], [7], [9]⟩] [⟨none, none, []⟩, ⟨none, none, []⟩, ⟨none, (some 6), []⟩, ⟨none, none, []⟩, ⟨(some 6), none, [24]⟩, ⟨(some 10), none, [28]⟩, ⟨(some 11), (some 13), [8]⟩, ⟨(some 12), (some 14), [9]⟩, ⟨(some 13), none, [8, 24]⟩, ⟨(some 14), none, [9, 28]⟩] [8, 9, 18, 19, 20, 21, 22, 23, 24, 25, 26, 27, 28] [0, 1, 2, 3] [0, 1, 3, 4, 5, 8, 9] [0, 1, 2, 3, 4, 5, 6, 7, 8, 9, 10, 11, 12] [fun Ep2 => Ep2 18 = .pointer (some ⟨b2, 0, none⟩), fun Ep2 => Ep2 19 = .bool a0.fneg, fun Ep2 => Ep2 20 = .pointer (some ⟨b3, 0, none⟩), fun Ep2 => Ep2 21 = .bool b1.fneg, fun Ep2 => Ep2 22 = .bool (!(a0.fneg == b1.fneg)), fun Ep2 => Ep2 23 = .slice q8 q0s.1.length c_y0_ret_1_4, fun Ep2 => Ep2 24 = .agg #[.bool q2.fneg, .slice (adOf (partOf 1 (Ep2 24))) q2.fmag.length (capOf (partOf 1 (Ep2 24)))], fun Ep2 => Ep2 25 = .pointer (some ⟨b2, 0, none⟩), fun Ep2 => Ep2 26 = .bool a0.fneg, fun Ep2 => Ep2 27 = .slice q0x q0s.2.length c_y1_ret_1_4, fun Ep2 => Ep2 28 = .agg #[.bool q3.fneg, .slice (adOf (partOf 1 (Ep2 28))) q3.fmag.length (capOf (partOf 1 (Ep2 28)))], fun Ep2 => Ep2 8 = .pointer (some ⟨(blkOf (Ep2 8)), 0, none⟩), fun Ep2 => Ep2 9 = .pointer (some ⟨(blkOf (Ep2 9)), 0, none⟩), fun Ep2 => True, fun Ep2 => True] [fun Ep2 => cells b2 79 [.bool a0.fneg, .slice q0p a0.fmag.length c_a0_1], fun Ep2 => cells b3 79 [.bool b1.fneg, .slice q0d b1.fmag.length c_b1_1], fun Ep2 => vec 159 (RpI .u32).sz (.slice q8 q0s.1.length c_y0_ret_1_4) q0s.1.length q0z, fun Ep2 => ro q0j, fun Ep2 => bunA (fun (q0c : Heap) => Le q0j q0c ∧ RdS (RpI .u32) q0c q8 q0s.1.length c_y0_ret_1_4 q0s.1 ∧ RdS (RpI .u32) q0c (adOf (partOf 1 (Ep2 24))) q2.fmag.length (capOf (partOf 1 (Ep2 24))) q2.fmag) (fun (q0c : Heap) => [roD q0j q0c]), fun Ep2 => bunA (fun (x : Unit) => RdS (RpI .u32) q0j (adOf (partOf 1 (Ep2 28))) q3.fmag.length (capOf (partOf 1 (Ep2 28))) q3.fmag) (fun (x : Unit) => []), fun Ep2 => cells (blkOf (Ep2 8)) 79 [.bool false, .slice none 0 0], fun Ep2 => cells (blkOf (Ep2 9)) 79 [.bool false, .slice none 0 0], fun Ep2 => cells (blkOf (Ep2 8)) 79 [.bool q2.fneg, .slice (adOf (partOf 1 (Ep2 24))) q2.fmag.length (capOf (partOf 1 (Ep2 24)))], fun Ep2 => cells (blkOf (Ep2 9)) 79 [.bool q3.fneg, .slice (adOf (partOf 1 (Ep2 28))) q3.fmag.length (capOf (partOf 1 (Ep2 28)))]] mixed (by kernel_rfl) ((((hS.pull 1).pull 1).pull 4).pull 5) ?_ ?_
 ·refine ⟨?_, ?_, ?_, ?_, ?_, ?_, ?_, ?_, ?_, ?_, ?_, ?_, ?_, ?_, ?_, trivial⟩
  ·intro Ep2 w l' hE2 hO2 hF_ hS
   refine p (yl_field0 fld_79_0 (hE2 2 rfl)) <| x_done <| ?_
   refine x_fin ⟨⟨_, rfl⟩, rfl, ?_⟩
   exact Eq.mp (by kernel_rfl) hS
  ·intro Ep2 w l' hE2 hO2 hF_ hS
   obtain ⟨q1d, -⟩ := hF_
   replace q1d : Ep2 18 = .pointer (some ⟨b2, 0, none⟩) := Eq.mp (by kernel_rfl) q1d
   replace hS : St w0 w (cells b2 79 [.bool a0.fneg, .slice q0p a0.fmag.length c_a0_1] :: l') := Eq.mp (by kernel_rfl) hS
   refine pa (at_load one_4 q1d (hS.cell rfl)) <| x_done <| ?_
   refine x_fin ⟨⟨_, rfl⟩, rfl, ?_⟩
   exact Eq.mp (by kernel_rfl) hS
  ·intro Ep2 w l' hE2 hO2 hF_ hS
   refine p (yl_field0 fld_79_0 (hE2 3 rfl)) <| x_done <| ?_
   refine x_fin ⟨⟨_, rfl⟩, rfl, ?_⟩
   exact Eq.mp (by kernel_rfl) hS
  ·intro Ep2 w l' hE2 hO2 hF_ hS
   obtain ⟨q1e, -⟩ := hF_
   replace q1e : Ep2 20 = .pointer (some ⟨b3, 0, none⟩) := Eq.mp (by kernel_rfl) q1e
   replace hS : St w0 w (cells b3 79 [.bool b1.fneg, .slice q0d b1.fmag.length c_b1_1] :: l') := Eq.mp (by kernel_rfl) hS
   refine pa (at_load one_4 q1e (hS.cell rfl)) <| x_done <| ?_
   refine x_fin ⟨⟨_, rfl⟩, rfl, ?_⟩
   exact Eq.mp (by kernel_rfl) hS
  ·intro Ep2 w l' hE2 hO2 hF_ hS
   obtain ⟨q1f, q1g, -⟩ := hF_
   replace q1f : Ep2 19 = .bool a0.fneg := Eq.mp (by kernel_rfl) q1f
   replace q1g : Ep2 21 = .bool b1.fneg := Eq.mp (by kernel_rfl) q1g
   refine p (yneb ub_4 q1f q1g) <| x_done <| ?_
   refine x_fin ⟨⟨_, rfl⟩, rfl, ?_⟩
   exact Eq.mp (by kernel_rfl) hS
  ·intro Ep2 w l' hE2 hO2 hF_ hS
   refine p (yl_move (hE2 6 rfl)) <| x_done <| ?_
   refine x_fin ⟨⟨_, rfl⟩, rfl, ?_⟩
   exact Eq.mp (by kernel_rfl) hS
  ·intro Ep2 w l' hE2 hO2 hF_ hS
   obtain ⟨q1h, q1i, -⟩ := hF_
   replace q1h : Ep2 22 = .bool (!(a0.fneg == b1.fneg)) := Eq.mp (by kernel_rfl) q1h
   replace q1i : Ep2 23 = .slice q8 q0s.1.length c_y0_ret_1_4 := Eq.mp (by kernel_rfl) q1i
   replace hS : St w0 w (ro q0j :: vec 159 (RpI .u32).sz (.slice q8 q0s.1.length c_y0_ret_1_4) q0s.1.length q0z :: l') := Eq.mp (by kernel_rfl) hS
   have q_ := St.vec_fz (hS.pull 1) q10; obtain ⟨q0c, q2c, q2g, hS⟩ := q_
   have hcall := c_exact_made q3b q2g hS
   refine o_cc call_93 (args2 q1h q1i) hcall ?_
   rintro e w' ⟨q1j, q2v, c_y0_ret_1_2_6, rfl, q0e, hS⟩
   refine ⟨_, rfl, ?_⟩
   have e_ := q0e.n; subst e_
   refine x_done <| ?_
   refine x_fin ⟨⟨_, rfl⟩, rfl, ?_⟩
   replace hS := St.ro_split q2c hS
   replace hS := St.bun (Φ := (fun (q0c : Heap) => Le q0j q0c ∧ RdS (RpI .u32) q0c q8 q0s.1.length c_y0_ret_1_4 q0s.1 ∧ RdS (RpI .u32) q0c q1j q2.fmag.length c_y0_ret_1_2_6 q2.fmag)) (L := (fun (q0c : Heap) => [roD q0j q0c])) q0c ⟨q2c, q2g, q0e⟩ (hS.pull 1)
   exact Eq.mp (by kernel_rfl) (hS.pull 1)
  ·intro Ep2 w l' hE2 hO2 hF_ hS
   refine p (yl_field0 fld_79_0 (hE2 2 rfl)) <| x_done <| ?_
   refine x_fin ⟨⟨_, rfl⟩, rfl, ?_⟩
   exact Eq.mp (by kernel_rfl) hS
  ·intro Ep2 w l' hE2 hO2 hF_ hS
   obtain ⟨q1k, -⟩ := hF_
   replace q1k : Ep2 25 = .pointer (some ⟨b2, 0, none⟩) := Eq.mp (by kernel_rfl) q1k
   replace hS : St w0 w (cells b2 79 [.bool a0.fneg, .slice q0p a0.fmag.length c_a0_1] :: l') := Eq.mp (by kernel_rfl) hS
   refine pa (at_load one_4 q1k (hS.cell rfl)) <| x_done <| ?_
   refine x_fin ⟨⟨_, rfl⟩, rfl, ?_⟩
   exact Eq.mp (by kernel_rfl) hS
  ·intro Ep2 w l' hE2 hO2 hF_ hS
   refine p (yl_move (hE2 7 rfl)) <| x_done <| ?_
   refine x_fin ⟨⟨_, rfl⟩, rfl, ?_⟩
   exact Eq.mp (by kernel_rfl) hS
  ·intro Ep2 w l' hE2 hO2 hF_ hS
   obtain ⟨q1l, q1m, -⟩ := hF_
   replace q1l : Ep2 26 = .bool a0.fneg := Eq.mp (by kernel_rfl) q1l
   replace q1m : Ep2 27 = .slice q0x q0s.2.length c_y1_ret_1_4 := Eq.mp (by kernel_rfl) q1m
   replace hS : St w0 w (ro q0j :: l') := Eq.mp (by kernel_rfl) hS
   have hcall := c_exact_made q37 q11 hS
   refine o_cc call_93 (args2 q1l q1m) hcall ?_
   rintro e w' ⟨q1c, q2t, c_y0_ret_1_2_10, rfl, q0i, hS⟩
   refine ⟨_, rfl, ?_⟩
   have e_ := q0i.n; subst e_
   refine x_done <| ?_
   refine x_fin ⟨⟨_, rfl⟩, rfl, ?_⟩
   replace hS := St.bun (Φ := (fun (x : Unit) => RdS (RpI .u32) q0j q1c q3.fmag.length c_y0_ret_1_2_10 q3.fmag)) (L := (fun (x : Unit) => [])) () q0i hS
   exact Eq.mp (by kernel_rfl) (hS.pull 1)
  ·intro Ep2 w l' hE2 hO2 hF_ hS
   refine o_alloc zero_79 hS (fun b8 w' hS => ?_)
   refine x_done <| ?_
   refine x_fin ⟨⟨_, rfl⟩, rfl, ?_⟩
   exact Eq.mp (by kernel_rfl) hS
  ·intro Ep2 w l' hE2 hO2 hF_ hS
   refine o_alloc zero_79 hS (fun b9 w' hS => ?_)
   refine x_done <| ?_
   refine x_fin ⟨⟨_, rfl⟩, rfl, ?_⟩
   exact Eq.mp (by kernel_rfl) hS
  ·intro Ep2 w l' hE2 hO2 hF_ hS
   obtain ⟨q1n, q0v, -⟩ := hF_
   replace q1n : Ep2 24 = .agg #[.bool q2.fneg, .slice (adOf (partOf 1 (Ep2 24))) q2.fmag.length (capOf (partOf 1 (Ep2 24)))] := Eq.mp (by kernel_rfl) q1n
   replace q0v : Ep2 8 = .pointer (some ⟨(blkOf (Ep2 8)), 0, none⟩) := Eq.mp (by kernel_rfl) q0v
   replace hS : St w0 w (cells (blkOf (Ep2 8)) 79 [.bool false, .slice none 0 0] :: l') := Eq.mp (by kernel_rfl) hS
   refine o_storeAgg (news := [.bool q2.fneg, .slice (adOf (partOf 1 (Ep2 24))) q2.fmag.length (capOf (partOf 1 (Ep2 24)))]) agg_79 q0v q1n rfl (by simp [over_length]) hS (fun w' hS => ?_)
   refine x_done <| ?_
   refine x_fin ⟨⟨undef, rfl⟩, trivial, ?_⟩
   exact Eq.mp (by kernel_rfl) hS
  ·intro Ep2 w l' hE2 hO2 hF_ hS
   obtain ⟨q13, q0t, -⟩ := hF_
   replace q13 : Ep2 28 = .agg #[.bool q3.fneg, .slice (adOf (partOf 1 (Ep2 28))) q3.fmag.length (capOf (partOf 1 (Ep2 28)))] := Eq.mp (by kernel_rfl) q13
   replace q0t : Ep2 9 = .pointer (some ⟨(blkOf (Ep2 9)), 0, none⟩) := Eq.mp (by kernel_rfl) q0t
   replace hS : St w0 w (cells (blkOf (Ep2 9)) 79 [.bool false, .slice none 0 0] :: l') := Eq.mp (by kernel_rfl) hS
   refine o_storeAgg (news := [.bool q3.fneg, .slice (adOf (partOf 1 (Ep2 28))) q3.fmag.length (capOf (partOf 1 (Ep2 28)))]) agg_79 q0t q13 rfl (by simp [over_length]) hS (fun w' hS => ?_)
   refine x_done <| ?_
   refine x_fin ⟨⟨undef, rfl⟩, trivial, ?_⟩
   exact Eq.mp (by kernel_rfl) hS
 intro Ep2 w' hE2 hF_ hS
 obtain ⟨q1d, q1f, q1e, q1g, q1h, q1i, q1n, q1k, q1l, q1m, q13, q0v, q0t, -⟩ := hF_
 replace q1d : Ep2 18 = .pointer (some ⟨b2, 0, none⟩) := Eq.mp (by kernel_rfl) q1d
 replace q1f : Ep2 19 = .bool a0.fneg := Eq.mp (by kernel_rfl) q1f
 replace q1e : Ep2 20 = .pointer (some ⟨b3, 0, none⟩) := Eq.mp (by kernel_rfl) q1e
 replace q1g : Ep2 21 = .bool b1.fneg := Eq.mp (by kernel_rfl) q1g
 replace q1h : Ep2 22 = .bool (!(a0.fneg == b1.fneg)) := Eq.mp (by kernel_rfl) q1h
 replace q1i : Ep2 23 = .slice q8 q0s.1.length c_y0_ret_1_4 := Eq.mp (by kernel_rfl) q1i
 replace q1n : Ep2 24 = .agg #[.bool q2.fneg, .slice (adOf (partOf 1 (Ep2 24))) q2.fmag.length (capOf (partOf 1 (Ep2 24)))] := Eq.mp (by kernel_rfl) q1n
 replace q1k : Ep2 25 = .pointer (some ⟨b2, 0, none⟩) := Eq.mp (by kernel_rfl) q1k
 replace q1l : Ep2 26 = .bool a0.fneg := Eq.mp (by kernel_rfl) q1l
 replace q1m : Ep2 27 = .slice q0x q0s.2.length c_y1_ret_1_4 := Eq.mp (by kernel_rfl) q1m
 replace q13 : Ep2 28 = .agg #[.bool q3.fneg, .slice (adOf (partOf 1 (Ep2 28))) q3.fmag.length (capOf (partOf 1 (Ep2 28)))] := Eq.mp (by kernel_rfl) q13
 replace q0v : Ep2 8 = .pointer (some ⟨(blkOf (Ep2 8)), 0, none⟩) := Eq.mp (by kernel_rfl) q0v
 replace q0t : Ep2 9 = .pointer (some ⟨(blkOf (Ep2 9)), 0, none⟩) := Eq.mp (by kernel_rfl) q0t
 replace hS : St w0 w' (cells b2 79 [.bool a0.fneg, .slice q0p a0.fmag.length c_a0_1] :: cells b3 79 [.bool b1.fneg, .slice q0d b1.fmag.length c_b1_1] :: ro q0j :: bunA (fun (q0c : Heap) => Le q0j q0c ∧ RdS (RpI .u32) q0c q8 q0s.1.length c_y0_ret_1_4 q0s.1 ∧ RdS (RpI .u32) q0c (adOf (partOf 1 (Ep2 24))) q2.fmag.length (capOf (partOf 1 (Ep2 24))) q2.fmag) (fun (q0c : Heap) => [roD q0j q0c]) :: bunA (fun (x : Unit) => RdS (RpI .u32) q0j (adOf (partOf 1 (Ep2 28))) q3.fmag.length (capOf (partOf 1 (Ep2 28))) q3.fmag) (fun (x : Unit) => []) :: cells (blkOf (Ep2 8)) 79 [.bool q2.fneg, .slice (adOf (partOf 1 (Ep2 24))) q2.fmag.length (capOf (partOf 1 (Ep2 24)))] :: cells (blkOf (Ep2 9)) 79 [.bool q3.fneg, .slice (adOf (partOf 1 (Ep2 28))) q3.fmag.length (capOf (partOf 1 (Ep2 28)))] :: (cells b5 79 [.bool false, .slice none 0 0] :: cells b4 79 [.bool false, .slice none 0 0] :: l)) := Eq.mp (by kernel_rfl) hS
 have q_ := St.unbun (hS.pull 3); obtain ⟨q0c, ⟨q2p, q2g, q0e⟩, hS⟩ := q_
 have q_ := St.ro_join (hS.pull 3) (Le.refl _) q2p; obtain ⟨q0h, q0w, q1o, hS, q3k⟩ := q_
 have q_ := St.unbun (hS.pull 3); obtain ⟨⟨⟩, q0i, hS⟩ := q_
 refine x_seq <| x_seq <| x_region <| p (yl_field0 fld_79_0 q0t) <|
  pa (at_load one_4 rfl ((hS.pull 4).cell rfl)) <| x_done <|
  x_cond (t := q3.fneg) rfl (fun hc30 => ?_) (fun hc30 => ?_)
 ·replace hF := it_t hc30 hF
  refine x_seq <| ?_
  replace hF := bd_s hF; obtain ⟨q0u, q3c, hF⟩ := hF
  replace hF := bd_s hF; obtain ⟨q4, q3d, hF⟩ := hF
  refine x_par (w0 := w0) [⟨[], [], [31], [0], [], []⟩, ⟨[], [], [32], [1], [], []⟩, ⟨[1], [1], [33], [2], [], []⟩, ⟨[0, 1, 2], [0, 2], [34], [2], [], [3]⟩, ⟨[0, 1, 2, 3], [3], [], [], [0], [4]⟩] [⟨none, (some 4), []⟩, ⟨none, none, []⟩, ⟨none, none, []⟩, ⟨(some 3), none, [34]⟩, ⟨(some 4), none, [34]⟩] [31, 32, 33, 34] [0, 1, 2] [1, 2, 3, 4] [0, 1, 2, 3] [fun Ep4 => Ep4 31 = .agg #[.bool q3.fneg, .slice (adOf (partOf 1 (Ep2 28))) q3.fmag.length (capOf (partOf 1 (Ep2 28)))], fun Ep4 => Ep4 32 = .agg #[.bool b1.fneg, .slice q0d b1.fmag.length c_b1_1], fun Ep4 => Ep4 33 = .agg #[.bool q0u.fneg, .slice (adOf (partOf 1 (Ep4 33))) q0u.fmag.length (capOf (partOf 1 (Ep4 33)))] ∧ RdS (RpI .u32) q0h (adOf (partOf 1 (Ep4 33))) q0u.fmag.length (capOf (partOf 1 (Ep4 33))) q0u.fmag, fun Ep4 => Ep4 34 = .agg #[.bool q4.fneg, .slice (adOf (partOf 1 (Ep4 34))) q4.fmag.length (capOf (partOf 1 (Ep4 34)))], fun Ep4 => True] [fun Ep4 => cells (blkOf (Ep2 9)) 79 [.bool q3.fneg, .slice (adOf (partOf 1 (Ep2 28))) q3.fmag.length (capOf (partOf 1 (Ep2 28)))], fun Ep4 => cells b3 79 [.bool b1.fneg, .slice q0d b1.fmag.length c_b1_1], fun Ep4 => ro q0h, fun Ep4 => bunA (fun (q9 : Heap) => Le q0h q9 ∧ RdS (RpI .u32) q9 (adOf (partOf 1 (Ep4 34))) q4.fmag.length (capOf (partOf 1 (Ep4 34))) q4.fmag) (fun (q9 : Heap) => [roD q0h q9]), fun Ep4 => cells (blkOf (Ep2 9)) 79 [.bool q4.fneg, .slice (adOf (partOf 1 (Ep4 34))) q4.fmag.length (capOf (partOf 1 (Ep4 34)))]] mixed (by kernel_rfl) ((hS.pull 2).pull 4) ?_ ?_
  ·refine ⟨?_, ?_, ?_, ?_, ?_, trivial⟩
   ·intro Ep4 w l' hE4 hO4 hF_ hS
    replace hS : St w0 w (cells (blkOf (Ep2 9)) 79 [.bool q3.fneg, .slice (adOf (partOf 1 (Ep2 28))) q3.fmag.length (capOf (partOf 1 (Ep2 28)))] :: l') := Eq.mp (by kernel_rfl) hS
    refine pa (v := .agg #[.bool q3.fneg, .slice (adOf (partOf 1 (Ep2 28))) q3.fmag.length (capOf (partOf 1 (Ep2 28)))]) (ld_sub agg_79 ((hE4 9 rfl).trans q0t) rfl rfl hS) <| x_done <| ?_
    refine x_fin ⟨⟨_, rfl⟩, rfl, ?_⟩
    exact Eq.mp (by kernel_rfl) hS
   ·intro Ep4 w l' hE4 hO4 hF_ hS
    replace hS : St w0 w (cells b3 79 [.bool b1.fneg, .slice q0d b1.fmag.length c_b1_1] :: l') := Eq.mp (by kernel_rfl) hS
    refine pa (v := .agg #[.bool b1.fneg, .slice q0d b1.fmag.length c_b1_1]) (ld_sub agg_79 ((hE4 3 rfl).trans (hE2 3 rfl)) rfl rfl hS) <| x_done <| ?_
    refine x_fin ⟨⟨_, rfl⟩, rfl, ?_⟩
    exact Eq.mp (by kernel_rfl) hS
   ·intro Ep4 w l' hE4 hO4 hF_ hS
    obtain ⟨q1p, -⟩ := hF_
    replace q1p : Ep4 32 = .agg #[.bool b1.fneg, .slice q0d b1.fmag.length c_b1_1] := Eq.mp (by kernel_rfl) q1p
    replace hS : St w0 w (ro q0h :: l') := Eq.mp (by kernel_rfl) hS
    have hcall := c_exact_Abs q3c (q27.le (q1b.trans q0w)) hS
    refine o_cc call_56 (args1 q1p) hcall ?_
    rintro e w' ⟨q2w, q2x, c_y0_ret_1_4_2, rfl, q0y, hS⟩
    refine ⟨_, rfl, ?_⟩
    have e_ := q0y.n; subst e_
    refine x_done <| ?_
    refine x_fin ⟨⟨_, rfl⟩, ⟨rfl, q0y⟩, ?_⟩
    exact Eq.mp (by kernel_rfl) hS
   ·intro Ep4 w l' hE4 hO4 hF_ hS
    obtain ⟨q1q, q12, -⟩ := hF_
    replace q1q : Ep4 31 = .agg #[.bool q3.fneg, .slice (adOf (partOf 1 (Ep2 28))) q3.fmag.length (capOf (partOf 1 (Ep2 28)))] := Eq.mp (by kernel_rfl) q1q
    replace q12 : Ep4 33 = .agg #[.bool q0u.fneg, .slice (adOf (partOf 1 (Ep4 33))) q0u.fmag.length (capOf (partOf 1 (Ep4 33)))] ∧ RdS (RpI .u32) q0h (adOf (partOf 1 (Ep4 33))) q0u.fmag.length (capOf (partOf 1 (Ep4 33))) q0u.fmag := Eq.mp (by kernel_rfl) q12
    have q_ := id q12; obtain ⟨-, q2u⟩ := q_
    replace hS : St w0 w (ro q0h :: l') := Eq.mp (by kernel_rfl) hS
    have hcall := c_exact_plus q3d (q0i.le q0w) q2u hS
    refine o_cc call_96 (args2 q1q q12.1) hcall ?_
    rintro e w' ⟨q9, q1r, q2y, c_y0_ret_1_4_3, rfl, q2q, q0k, hS⟩
    refine ⟨_, rfl, ?_⟩
    have e_ := q0k.n; subst e_
    refine x_done <| ?_
    refine x_fin ⟨⟨_, rfl⟩, rfl, ?_⟩
    replace hS := St.ro_split q2q hS
    replace hS := St.bun (Φ := (fun (q9 : Heap) => Le q0h q9 ∧ RdS (RpI .u32) q9 q1r q4.fmag.length c_y0_ret_1_4_3 q4.fmag)) (L := (fun (q9 : Heap) => [roD q0h q9])) q9 ⟨q2q, q0k⟩ (hS.pull 1)
    exact Eq.mp (by kernel_rfl) (hS.pull 1)
   ·intro Ep4 w l' hE4 hO4 hF_ hS
    obtain ⟨q1s, -⟩ := hF_
    replace q1s : Ep4 34 = .agg #[.bool q4.fneg, .slice (adOf (partOf 1 (Ep4 34))) q4.fmag.length (capOf (partOf 1 (Ep4 34)))] := Eq.mp (by kernel_rfl) q1s
    replace hS : St w0 w (cells (blkOf (Ep2 9)) 79 [.bool q3.fneg, .slice (adOf (partOf 1 (Ep2 28))) q3.fmag.length (capOf (partOf 1 (Ep2 28)))] :: l') := Eq.mp (by kernel_rfl) hS
    refine o_storeAgg (news := [.bool q4.fneg, .slice (adOf (partOf 1 (Ep4 34))) q4.fmag.length (capOf (partOf 1 (Ep4 34)))]) agg_79 ((hE4 9 rfl).trans q0t) q1s rfl (by simp [over_length]) hS (fun w' hS => ?_)
    refine x_done <| ?_
    refine x_fin ⟨⟨undef, rfl⟩, trivial, ?_⟩
    exact Eq.mp (by kernel_rfl) hS
  intro Ep4 w' hE4 hF_ hS
  obtain ⟨q1q, q1p, q12, q1s, -⟩ := hF_
  replace q1q : Ep4 31 = .agg #[.bool q3.fneg, .slice (adOf (partOf 1 (Ep2 28))) q3.fmag.length (capOf (partOf 1 (Ep2 28)))] := Eq.mp (by kernel_rfl) q1q
  replace q1p : Ep4 32 = .agg #[.bool b1.fneg, .slice q0d b1.fmag.length c_b1_1] := Eq.mp (by kernel_rfl) q1p
  replace q12 : Ep4 33 = .agg #[.bool q0u.fneg, .slice (adOf (partOf 1 (Ep4 33))) q0u.fmag.length (capOf (partOf 1 (Ep4 33)))] ∧ RdS (RpI .u32) q0h (adOf (partOf 1 (Ep4 33))) q0u.fmag.length (capOf (partOf 1 (Ep4 33))) q0u.fmag := Eq.mp (by kernel_rfl) q12
  have q_ := id q12; obtain ⟨-, q2u⟩ := q_
  replace q1s : Ep4 34 = .agg #[.bool q4.fneg, .slice (adOf (partOf 1 (Ep4 34))) q4.fmag.length (capOf (partOf 1 (Ep4 34)))] := Eq.mp (by kernel_rfl) q1s
  replace hS : St w0 w' (cells b3 79 [.bool b1.fneg, .slice q0d b1.fmag.length c_b1_1] :: ro q0h :: bunA (fun (q9 : Heap) => Le q0h q9 ∧ RdS (RpI .u32) q9 (adOf (partOf 1 (Ep4 34))) q4.fmag.length (capOf (partOf 1 (Ep4 34))) q4.fmag) (fun (q9 : Heap) => [roD q0h q9]) :: cells (blkOf (Ep2 9)) 79 [.bool q4.fneg, .slice (adOf (partOf 1 (Ep4 34))) q4.fmag.length (capOf (partOf 1 (Ep4 34)))] :: (cells b2 79 [.bool a0.fneg, .slice q0p a0.fmag.length c_a0_1] :: cells (blkOf (Ep2 8)) 79 [.bool q2.fneg, .slice (adOf (partOf 1 (Ep2 24))) q2.fmag.length (capOf (partOf 1 (Ep2 24)))] :: cells b5 79 [.bool false, .slice none 0 0] :: cells b4 79 [.bool false, .slice none 0 0] :: l)) := Eq.mp (by kernel_rfl) hS
  have q_ := St.unbun (hS.pull 2); obtain ⟨q9, ⟨q2h, q0k⟩, hS⟩ := q_
  have q_ := St.ro_join (hS.pull 2) (Le.refl _) q2h; obtain ⟨q5, q14, q2d, hS, q3l⟩ := q_
  refine x_seq <| x_seq <| x_region <| p (yl_field0 fld_79_0 ((hE4 3 rfl).trans (hE2 3 rfl))) <|
   pa (at_load one_4 rfl ((hS.pull 1).cell rfl)) <| x_done <|
   x_cond (t := b1.fneg) rfl (fun hc36 => ?_) (fun hc36 => ?_)
  ·replace hF := it_t hc36 hF
   refine x_seq <| ?_
   replace hF := bd_s hF; obtain ⟨q0n, q3e, hF⟩ := hF
   replace hF := bd_s hF; obtain ⟨q0l, q3f, hF⟩ := hF
   refine x_par (w0 := w0) [⟨[], [], [37], [0], [], []⟩, ⟨[], [], [38], [1], [], [2]⟩, ⟨[0, 1], [0, 1], [39], [1], [2], [3]⟩, ⟨[], [], [40], [4], [], []⟩, ⟨[0, 1, 2], [2], [], [], [5], [6]⟩, ⟨[0, 1, 2, 3, 4], [3], [], [], [7], [8]⟩] [⟨none, none, []⟩, ⟨none, none, []⟩, ⟨(some 1), (some 2), [38]⟩, ⟨(some 2), none, [38, 39]⟩, ⟨none, none, []⟩, ⟨none, (some 4), []⟩, ⟨(some 4), none, [39]⟩, ⟨none, (some 5), []⟩, ⟨(some 5), none, []⟩] [37, 38, 39, 40] [0, 1, 4, 5, 7] [0, 1, 3, 4, 6, 8] [0, 1, 2, 3] [fun Ep6 => Ep6 37 = .agg #[.bool q2.fneg, .slice (adOf (partOf 1 (Ep2 24))) q2.fmag.length (capOf (partOf 1 (Ep2 24)))], fun Ep6 => Ep6 38 = .agg #[.bool q0n.fneg, .slice (adOf (partOf 1 (Ep6 38))) q0n.fmag.length (capOf (partOf 1 (Ep6 38)))], fun Ep6 => Ep6 39 = .agg #[.bool q0l.fneg, .slice (adOf (partOf 1 (Ep6 39))) q0l.fmag.length (capOf (partOf 1 (Ep6 39)))], fun Ep6 => Ep6 40 = .agg #[.bool q4.fneg, .slice (adOf (partOf 1 (Ep4 34))) q4.fmag.length (capOf (partOf 1 (Ep4 34)))], fun Ep6 => True, fun Ep6 => True] [fun Ep6 => cells (blkOf (Ep2 8)) 79 [.bool q2.fneg, .slice (adOf (partOf 1 (Ep2 24))) q2.fmag.length (capOf (partOf 1 (Ep2 24)))], fun Ep6 => ro q5, fun Ep6 => bunA (fun (q0a : Heap) => Le q5 q0a ∧ RdS (RpI .u32) q0a (adOf (partOf 1 (Ep6 38))) q0n.fmag.length (capOf (partOf 1 (Ep6 38))) q0n.fmag) (fun (q0a : Heap) => [roD q5 q0a]), fun Ep6 => bunA (fun (q6 : Heap) => Le q5 q6 ∧ RdS (RpI .u32) q6 (adOf (partOf 1 (Ep6 38))) q0n.fmag.length (capOf (partOf 1 (Ep6 38))) q0n.fmag ∧ RdS (RpI .u32) q6 (adOf (partOf 1 (Ep6 39))) q0l.fmag.length (capOf (partOf 1 (Ep6 39))) q0l.fmag) (fun (q6 : Heap) => [roD q5 q6]), fun Ep6 => cells (blkOf (Ep2 9)) 79 [.bool q4.fneg, .slice (adOf (partOf 1 (Ep4 34))) q4.fmag.length (capOf (partOf 1 (Ep4 34)))], fun Ep6 => cells b4 79 [.bool false, .slice none 0 0], fun Ep6 => cells b4 79 [.bool q0l.fneg, .slice (adOf (partOf 1 (Ep6 39))) q0l.fmag.length (capOf (partOf 1 (Ep6 39)))], fun Ep6 => cells b5 79 [.bool false, .slice none 0 0], fun Ep6 => cells b5 79 [.bool q4.fneg, .slice (adOf (partOf 1 (Ep4 34))) q4.fmag.length (capOf (partOf 1 (Ep4 34)))]] mixed (by kernel_rfl) (((((hS.pull 5).pull 6).pull 4).pull 3).pull 6) ?_ ?_
   ·refine ⟨?_, ?_, ?_, ?_, ?_, ?_, trivial⟩
    ·intro Ep6 w l' hE6 hO6 hF_ hS
     replace hS : St w0 w (cells (blkOf (Ep2 8)) 79 [.bool q2.fneg, .slice (adOf (partOf 1 (Ep2 24))) q2.fmag.length (capOf (partOf 1 (Ep2 24)))] :: l') := Eq.mp (by kernel_rfl) hS
     refine pa (v := .agg #[.bool q2.fneg, .slice (adOf (partOf 1 (Ep2 24))) q2.fmag.length (capOf (partOf 1 (Ep2 24)))]) (ld_sub agg_79 ((hE6 8 rfl).trans ((hE4 8 rfl).trans q0v)) rfl rfl hS) <| x_done <| ?_
     refine x_fin ⟨⟨_, rfl⟩, rfl, ?_⟩
     exact Eq.mp (by kernel_rfl) hS
    ·intro Ep6 w l' hE6 hO6 hF_ hS
     replace hS : St w0 w (ro q5 :: l') := Eq.mp (by kernel_rfl) hS
     have hcall := c_exact_Of q3e  hS
     refine o_cc call_51 (args1 rfl) hcall ?_
     rintro e w' ⟨q0a, q1t, q2z, c_y0_ret_1_6_1, rfl, q2r, q0f, hS⟩
     refine ⟨_, rfl, ?_⟩
     have e_ := q0f.n; subst e_
     refine x_done <| ?_
     refine x_fin ⟨⟨_, rfl⟩, rfl, ?_⟩
     replace hS := St.ro_split q2r hS
     replace hS := St.bun (Φ := (fun (q0a : Heap) => Le q5 q0a ∧ RdS (RpI .u32) q0a q1t q0n.fmag.length c_y0_ret_1_6_1 q0n.fmag)) (L := (fun (q0a : Heap) => [roD q5 q0a])) q0a ⟨q2r, q0f⟩ (hS.pull 1)
     exact Eq.mp (by kernel_rfl) (hS.pull 1)
    ·intro Ep6 w l' hE6 hO6 hF_ hS
     obtain ⟨q1u, q1v, -⟩ := hF_
     replace q1u : Ep6 37 = .agg #[.bool q2.fneg, .slice (adOf (partOf 1 (Ep2 24))) q2.fmag.length (capOf (partOf 1 (Ep2 24)))] := Eq.mp (by kernel_rfl) q1u
     replace q1v : Ep6 38 = .agg #[.bool q0n.fneg, .slice (adOf (partOf 1 (Ep6 38))) q0n.fmag.length (capOf (partOf 1 (Ep6 38)))] := Eq.mp (by kernel_rfl) q1v
     replace hS : St w0 w (ro q5 :: bunA (fun (q0a : Heap) => Le q5 q0a ∧ RdS (RpI .u32) q0a (adOf (partOf 1 (Ep6 38))) q0n.fmag.length (capOf (partOf 1 (Ep6 38))) q0n.fmag) (fun (q0a : Heap) => [roD q5 q0a]) :: l') := Eq.mp (by kernel_rfl) hS
     have q_ := St.unbun (hS.pull 1); obtain ⟨q0a, ⟨q2i, q0f⟩, hS⟩ := q_
     have q_ := St.ro_join (hS.pull 1) (Le.refl _) q2i; obtain ⟨q3o, q15, q28, hS, q3i⟩ := q_
     have hcall := c_exact_plus q3f (q0e.le ((q1o.trans q14).trans q15)) (q0f.le q28) hS
     refine o_cc call_96 (args2 q1u q1v) hcall ?_
     rintro e w' ⟨q6, q1w, q30, c_y0_ret_1_6_2, rfl, q29, q0q, hS⟩
     refine ⟨_, rfl, ?_⟩
     have e_ := q0q.n; subst e_
     refine x_done <| ?_
     refine x_fin ⟨⟨_, rfl⟩, rfl, ?_⟩
     replace hS := St.ro_split (q15.trans q29) hS
     replace hS := St.bun (Φ := (fun (q6 : Heap) => Le q5 q6 ∧ RdS (RpI .u32) q6 (adOf (partOf 1 (Ep6 38))) q0n.fmag.length (capOf (partOf 1 (Ep6 38))) q0n.fmag ∧ RdS (RpI .u32) q6 q1w q0l.fmag.length c_y0_ret_1_6_2 q0l.fmag)) (L := (fun (q6 : Heap) => [roD q5 q6])) q6 ⟨(q15.trans q29), (q0f.le (q28.trans q29)), q0q⟩ (hS.pull 1)
     exact Eq.mp (by kernel_rfl) (hS.pull 1)
    ·intro Ep6 w l' hE6 hO6 hF_ hS
     replace hS : St w0 w (cells (blkOf (Ep2 9)) 79 [.bool q4.fneg, .slice (adOf (partOf 1 (Ep4 34))) q4.fmag.length (capOf (partOf 1 (Ep4 34)))] :: l') := Eq.mp (by kernel_rfl) hS
     refine pa (v := .agg #[.bool q4.fneg, .slice (adOf (partOf 1 (Ep4 34))) q4.fmag.length (capOf (partOf 1 (Ep4 34)))]) (ld_sub agg_79 ((hE6 9 rfl).trans ((hE4 9 rfl).trans q0t)) rfl rfl hS) <| x_done <| ?_
     refine x_fin ⟨⟨_, rfl⟩, rfl, ?_⟩
     exact Eq.mp (by kernel_rfl) hS
    ·intro Ep6 w l' hE6 hO6 hF_ hS
     obtain ⟨q1x, -⟩ := hF_
     replace q1x : Ep6 39 = .agg #[.bool q0l.fneg, .slice (adOf (partOf 1 (Ep6 39))) q0l.fmag.length (capOf (partOf 1 (Ep6 39)))] := Eq.mp (by kernel_rfl) q1x
     replace hS : St w0 w (cells b4 79 [.bool false, .slice none 0 0] :: l') := Eq.mp (by kernel_rfl) hS
     refine o_storeAgg (news := [.bool q0l.fneg, .slice (adOf (partOf 1 (Ep6 39))) q0l.fmag.length (capOf (partOf 1 (Ep6 39)))]) agg_79 ((hE6 4 rfl).trans ((hE4 4 rfl).trans (hE2 4 rfl))) q1x rfl (by simp [over_length]) hS (fun w' hS => ?_)
     refine x_done <| ?_
     refine x_fin ⟨⟨undef, rfl⟩, trivial, ?_⟩
     exact Eq.mp (by kernel_rfl) hS
    ·intro Ep6 w l' hE6 hO6 hF_ hS
     obtain ⟨q1y, -⟩ := hF_
     replace q1y : Ep6 40 = .agg #[.bool q4.fneg, .slice (adOf (partOf 1 (Ep4 34))) q4.fmag.length (capOf (partOf 1 (Ep4 34)))] := Eq.mp (by kernel_rfl) q1y
     replace hS : St w0 w (cells b5 79 [.bool false, .slice none 0 0] :: l') := Eq.mp (by kernel_rfl) hS
     refine o_storeAgg (news := [.bool q4.fneg, .slice (adOf (partOf 1 (Ep4 34))) q4.fmag.length (capOf (partOf 1 (Ep4 34)))]) agg_79 ((hE6 5 rfl).trans ((hE4 5 rfl).trans (hE2 5 rfl))) q1y rfl (by simp [over_length]) hS (fun w' hS => ?_)
     refine x_done <| ?_
     refine x_fin ⟨⟨undef, rfl⟩, trivial, ?_⟩
     exact Eq.mp (by kernel_rfl) hS
   intro Ep6 w' hE6 hF_ hS
   obtain ⟨q1u, q1v, q1x, q1y, -⟩ := hF_
   replace q1u : Ep6 37 = .agg #[.bool q2.fneg, .slice (adOf (partOf 1 (Ep2 24))) q2.fmag.length (capOf (partOf 1 (Ep2 24)))] := Eq.mp (by kernel_rfl) q1u
   replace q1v : Ep6 38 = .agg #[.bool q0n.fneg, .slice (adOf (partOf 1 (Ep6 38))) q0n.fmag.length (capOf (partOf 1 (Ep6 38)))] := Eq.mp (by kernel_rfl) q1v
   replace q1x : Ep6 39 = .agg #[.bool q0l.fneg, .slice (adOf (partOf 1 (Ep6 39))) q0l.fmag.length (capOf (partOf 1 (Ep6 39)))] := Eq.mp (by kernel_rfl) q1x
   replace q1y : Ep6 40 = .agg #[.bool q4.fneg, .slice (adOf (partOf 1 (Ep4 34))) q4.fmag.length (capOf (partOf 1 (Ep4 34)))] := Eq.mp (by kernel_rfl) q1y
   replace hS : St w0 w' (cells (blkOf (Ep2 8)) 79 [.bool q2.fneg, .slice (adOf (partOf 1 (Ep2 24))) q2.fmag.length (capOf (partOf 1 (Ep2 24)))] :: ro q5 :: bunA (fun (q6 : Heap) => Le q5 q6 ∧ RdS (RpI .u32) q6 (adOf (partOf 1 (Ep6 38))) q0n.fmag.length (capOf (partOf 1 (Ep6 38))) q0n.fmag ∧ RdS (RpI .u32) q6 (adOf (partOf 1 (Ep6 39))) q0l.fmag.length (capOf (partOf 1 (Ep6 39))) q0l.fmag) (fun (q6 : Heap) => [roD q5 q6]) :: cells (blkOf (Ep2 9)) 79 [.bool q4.fneg, .slice (adOf (partOf 1 (Ep4 34))) q4.fmag.length (capOf (partOf 1 (Ep4 34)))] :: cells b4 79 [.bool q0l.fneg, .slice (adOf (partOf 1 (Ep6 39))) q0l.fmag.length (capOf (partOf 1 (Ep6 39)))] :: cells b5 79 [.bool q4.fneg, .slice (adOf (partOf 1 (Ep4 34))) q4.fmag.length (capOf (partOf 1 (Ep4 34)))] :: (cells b3 79 [.bool b1.fneg, .slice q0d b1.fmag.length c_b1_1] :: cells b2 79 [.bool a0.fneg, .slice q0p a0.fmag.length c_a0_1] :: l)) := Eq.mp (by kernel_rfl) hS
   have q_ := St.unbun (hS.pull 2); obtain ⟨q6, ⟨q2j, q0f, q0q⟩, hS⟩ := q_
   have q_ := St.ro_join (hS.pull 2) (Le.refl _) q2j; obtain ⟨q38, q2e, q31, hS, q3m⟩ := q_
   have e_ := Option.some.inj (show some _ = some _ from hF); subst e_
   exact x_return ⟨_, ⟨_, _, _, rfl, ((hE6 4 rfl).trans ((hE4 4 rfl).trans (hE2 4 rfl))), ldvA agg_79 rfl (fun j v hj => by rw [add0]; exact St.cell (hS.pull 3) hj), _, _, _, rfl, ((hE6 5 rfl).trans ((hE4 5 rfl).trans (hE2 5 rfl))), ldvA agg_79 rfl (fun j v hj => by rw [add0]; exact St.cell (hS.pull 4) hj), rfl⟩, q38, (adOf (partOf 1 (Ep6 39))), q0l.fmag.length, (capOf (partOf 1 (Ep6 39))), (adOf (partOf 1 (Ep4 34))), q4.fmag.length, (capOf (partOf 1 (Ep4 34))), rfl, (((q1b.trans q0w).trans q14).trans q2e), (q0q.le q31), (q0k.le (q2d.trans q2e)), (((((((hS.pull 1).drop.pull 1).drop.pull 1).drop.pull 1).drop.pull 1).drop.pull 1).drop)⟩
  ·replace hF := it_bf hc36 hF
   refine x_skip <| x_seq <| ?_
   replace hF := bd_s hF; obtain ⟨q0o, q3g, hF⟩ := hF
   replace hF := bd_s hF; obtain ⟨q0m, q3h, hF⟩ := hF
   refine x_par (w0 := w0) [⟨[], [], [41], [0], [], []⟩, ⟨[], [], [42], [1], [], [2]⟩, ⟨[0, 1], [0, 1], [43], [1], [2], [3]⟩, ⟨[], [], [44], [4], [], []⟩, ⟨[0, 1, 2], [2], [], [], [5], [6]⟩, ⟨[0, 1, 2, 3, 4], [3], [], [], [7], [8]⟩] [⟨none, none, []⟩, ⟨none, none, []⟩, ⟨(some 1), (some 2), [42]⟩, ⟨(some 2), none, [42, 43]⟩, ⟨none, none, []⟩, ⟨none, (some 4), []⟩, ⟨(some 4), none, [43]⟩, ⟨none, (some 5), []⟩, ⟨(some 5), none, []⟩] [41, 42, 43, 44] [0, 1, 4, 5, 7] [0, 1, 3, 4, 6, 8] [0, 1, 2, 3] [fun Ep7 => Ep7 41 = .agg #[.bool q2.fneg, .slice (adOf (partOf 1 (Ep2 24))) q2.fmag.length (capOf (partOf 1 (Ep2 24)))], fun Ep7 => Ep7 42 = .agg #[.bool q0o.fneg, .slice (adOf (partOf 1 (Ep7 42))) q0o.fmag.length (capOf (partOf 1 (Ep7 42)))], fun Ep7 => Ep7 43 = .agg #[.bool q0m.fneg, .slice (adOf (partOf 1 (Ep7 43))) q0m.fmag.length (capOf (partOf 1 (Ep7 43)))], fun Ep7 => Ep7 44 = .agg #[.bool q4.fneg, .slice (adOf (partOf 1 (Ep4 34))) q4.fmag.length (capOf (partOf 1 (Ep4 34)))], fun Ep7 => True, fun Ep7 => True] [fun Ep7 => cells (blkOf (Ep2 8)) 79 [.bool q2.fneg, .slice (adOf (partOf 1 (Ep2 24))) q2.fmag.length (capOf (partOf 1 (Ep2 24)))], fun Ep7 => ro q5, fun Ep7 => bunA (fun (q0b : Heap) => Le q5 q0b ∧ RdS (RpI .u32) q0b (adOf (partOf 1 (Ep7 42))) q0o.fmag.length (capOf (partOf 1 (Ep7 42))) q0o.fmag) (fun (q0b : Heap) => [roD q5 q0b]), fun Ep7 => bunA (fun (q7 : Heap) => Le q5 q7 ∧ RdS (RpI .u32) q7 (adOf (partOf 1 (Ep7 42))) q0o.fmag.length (capOf (partOf 1 (Ep7 42))) q0o.fmag ∧ RdS (RpI .u32) q7 (adOf (partOf 1 (Ep7 43))) q0m.fmag.length (capOf (partOf 1 (Ep7 43))) q0m.fmag) (fun (q7 : Heap) => [roD q5 q7]), fun Ep7 => cells (blkOf (Ep2 9)) 79 [.bool q4.fneg, .slice (adOf (partOf 1 (Ep4 34))) q4.fmag.length (capOf (partOf 1 (Ep4 34)))], fun Ep7 => cells b4 79 [.bool false, .slice none 0 0], fun Ep7 => cells b4 79 [.bool q0m.fneg, .slice (adOf (partOf 1 (Ep7 43))) q0m.fmag.length (capOf (partOf 1 (Ep7 43)))], fun Ep7 => cells b5 79 [.bool false, .slice none 0 0], fun Ep7 => cells b5 79 [.bool q4.fneg, .slice (adOf (partOf 1 (Ep4 34))) q4.fmag.length (capOf (partOf 1 (Ep4 34)))]] mixed (by kernel_rfl) (((((hS.pull 5).pull 6).pull 4).pull 3).pull 6) ?_ ?_
   ·refine ⟨?_, ?_, ?_, ?_, ?_, ?_, trivial⟩
    ·intro Ep7 w l' hE7 hO7 hF_ hS
     replace hS : St w0 w (cells (blkOf (Ep2 8)) 79 [.bool q2.fneg, .slice (adOf (partOf 1 (Ep2 24))) q2.fmag.length (capOf (partOf 1 (Ep2 24)))] :: l') := Eq.mp (by kernel_rfl) hS
     refine pa (v := .agg #[.bool q2.fneg, .slice (adOf (partOf 1 (Ep2 24))) q2.fmag.length (capOf (partOf 1 (Ep2 24)))]) (ld_sub agg_79 ((hE7 8 rfl).trans ((hE4 8 rfl).trans q0v)) rfl rfl hS) <| x_done <| ?_
     refine x_fin ⟨⟨_, rfl⟩, rfl, ?_⟩
     exact Eq.mp (by kernel_rfl) hS
    ·intro Ep7 w l' hE7 hO7 hF_ hS
     replace hS : St w0 w (ro q5 :: l') := Eq.mp (by kernel_rfl) hS
     have hcall := c_exact_Of q3g  hS
     refine o_cc call_51 (args1 rfl) hcall ?_
     rintro e w' ⟨q0b, q1z, q32, c_y0_ret_1_7_1, rfl, q2s, q0g, hS⟩
     refine ⟨_, rfl, ?_⟩
     have e_ := q0g.n; subst e_
     refine x_done <| ?_
     refine x_fin ⟨⟨_, rfl⟩, rfl, ?_⟩
     replace hS := St.ro_split q2s hS
     replace hS := St.bun (Φ := (fun (q0b : Heap) => Le q5 q0b ∧ RdS (RpI .u32) q0b q1z q0o.fmag.length c_y0_ret_1_7_1 q0o.fmag)) (L := (fun (q0b : Heap) => [roD q5 q0b])) q0b ⟨q2s, q0g⟩ (hS.pull 1)
     exact Eq.mp (by kernel_rfl) (hS.pull 1)
    ·intro Ep7 w l' hE7 hO7 hF_ hS
     obtain ⟨q20, q21, -⟩ := hF_
     replace q20 : Ep7 41 = .agg #[.bool q2.fneg, .slice (adOf (partOf 1 (Ep2 24))) q2.fmag.length (capOf (partOf 1 (Ep2 24)))] := Eq.mp (by kernel_rfl) q20
     replace q21 : Ep7 42 = .agg #[.bool q0o.fneg, .slice (adOf (partOf 1 (Ep7 42))) q0o.fmag.length (capOf (partOf 1 (Ep7 42)))] := Eq.mp (by kernel_rfl) q21
     replace hS : St w0 w (ro q5 :: bunA (fun (q0b : Heap) => Le q5 q0b ∧ RdS (RpI .u32) q0b (adOf (partOf 1 (Ep7 42))) q0o.fmag.length (capOf (partOf 1 (Ep7 42))) q0o.fmag) (fun (q0b : Heap) => [roD q5 q0b]) :: l') := Eq.mp (by kernel_rfl) hS
     have q_ := St.unbun (hS.pull 1); obtain ⟨q0b, ⟨q2k, q0g⟩, hS⟩ := q_
     have q_ := St.ro_join (hS.pull 1) (Le.refl _) q2k; obtain ⟨q3p, q16, q2a, hS, q3j⟩ := q_
     have hcall := c_exact_plus q3h (q0e.le ((q1o.trans q14).trans q16)) (q0g.le q2a) hS
     refine o_cc call_96 (args2 q20 q21) hcall ?_
     rintro e w' ⟨q7, q22, q33, c_y0_ret_1_7_2, rfl, q2b, q0r, hS⟩
     refine ⟨_, rfl, ?_⟩
     have e_ := q0r.n; subst e_
     refine x_done <| ?_
     refine x_fin ⟨⟨_, rfl⟩, rfl, ?_⟩
     replace hS := St.ro_split (q16.trans q2b) hS
     replace hS := St.bun (Φ := (fun (q7 : Heap) => Le q5 q7 ∧ RdS (RpI .u32) q7 (adOf (partOf 1 (Ep7 42))) q0o.fmag.length (capOf (partOf 1 (Ep7 42))) q0o.fmag ∧ RdS (RpI .u32) q7 q22 q0m.fmag.length c_y0_ret_1_7_2 q0m.fmag)) (L := (fun (q7 : Heap) => [roD q5 q7])) q7 ⟨(q16.trans q2b), (q0g.le (q2a.trans q2b)), q0r⟩ (hS.pull 1)
     exact Eq.mp (by kernel_rfl) (hS.pull 1)
    ·intro Ep7 w l' hE7 hO7 hF_ hS
     replace hS : St w0 w (cells (blkOf (Ep2 9)) 79 [.bool q4.fneg, .slice (adOf (partOf 1 (Ep4 34))) q4.fmag.length (capOf (partOf 1 (Ep4 34)))] :: l') := Eq.mp (by kernel_rfl) hS
     refine pa (v := .agg #[.bool q4.fneg, .slice (adOf (partOf 1 (Ep4 34))) q4.fmag.length (capOf (partOf 1 (Ep4 34)))]) (ld_sub agg_79 ((hE7 9 rfl).trans ((hE4 9 rfl).trans q0t)) rfl rfl hS) <| x_done <| ?_
     refine x_fin ⟨⟨_, rfl⟩, rfl, ?_⟩
     exact Eq.mp (by kernel_rfl) hS
    ·intro Ep7 w l' hE7 hO7 hF_ hS
     obtain ⟨q23, -⟩ := hF_
     replace q23 : Ep7 43 = .agg #[.bool q0m.fneg, .slice (adOf (partOf 1 (Ep7 43))) q0m.fmag.length (capOf (partOf 1 (Ep7 43)))] := Eq.mp (by kernel_rfl) q23
     replace hS : St w0 w (cells b4 79 [.bool false, .slice none 0 0] :: l') := Eq.mp (by kernel_rfl) hS
     refine o_storeAgg (news := [.bool q0m.fneg, .slice (adOf (partOf 1 (Ep7 43))) q0m.fmag.length (capOf (partOf 1 (Ep7 43)))]) agg_79 ((hE7 4 rfl).trans ((hE4 4 rfl).trans (hE2 4 rfl))) q23 rfl (by simp [over_length]) hS (fun w' hS => ?_)
     refine x_done <| ?_
     refine x_fin ⟨⟨undef, rfl⟩, trivial, ?_⟩
     exact Eq.mp (by kernel_rfl) hS
    ·intro Ep7 w l' hE7 hO7 hF_ hS
     obtain ⟨q24, -⟩ := hF_
     replace q24 : Ep7 44 = .agg #[.bool q4.fneg, .slice (adOf (partOf 1 (Ep4 34))) q4.fmag.length (capOf (partOf 1 (Ep4 34)))] := Eq.mp (by kernel_rfl) q24
     replace hS : St w0 w (cells b5 79 [.bool false, .slice none 0 0] :: l') := Eq.mp (by kernel_rfl) hS
     refine o_storeAgg (news := [.bool q4.fneg, .slice (adOf (partOf 1 (Ep4 34))) q4.fmag.length (capOf (partOf 1 (Ep4 34)))]) agg_79 ((hE7 5 rfl).trans ((hE4 5 rfl).trans (hE2 5 rfl))) q24 rfl (by simp [over_length]) hS (fun w' hS => ?_)
     refine x_done <| ?_
     refine x_fin ⟨⟨undef, rfl⟩, trivial, ?_⟩
     exact Eq.mp (by kernel_rfl) hS
   intro Ep7 w' hE7 hF_ hS
   obtain ⟨q20, q21, q23, q24, -⟩ := hF_
   replace q20 : Ep7 41 = .agg #[.bool q2.fneg, .slice (adOf (partOf 1 (Ep2 24))) q2.fmag.length (capOf (partOf 1 (Ep2 24)))] := Eq.mp (by kernel_rfl) q20
   replace q21 : Ep7 42 = .agg #[.bool q0o.fneg, .slice (adOf (partOf 1 (Ep7 42))) q0o.fmag.length (capOf (partOf 1 (Ep7 42)))] := Eq.mp (by kernel_rfl) q21
   replace q23 : Ep7 43 = .agg #[.bool q0m.fneg, .slice (adOf (partOf 1 (Ep7 43))) q0m.fmag.length (capOf (partOf 1 (Ep7 43)))] := Eq.mp (by kernel_rfl) q23
   replace q24 : Ep7 44 = .agg #[.bool q4.fneg, .slice (adOf (partOf 1 (Ep4 34))) q4.fmag.length (capOf (partOf 1 (Ep4 34)))] := Eq.mp (by kernel_rfl) q24
   replace hS : St w0 w' (cells (blkOf (Ep2 8)) 79 [.bool q2.fneg, .slice (adOf (partOf 1 (Ep2 24))) q2.fmag.length (capOf (partOf 1 (Ep2 24)))] :: ro q5 :: bunA (fun (q7 : Heap) => Le q5 q7 ∧ RdS (RpI .u32) q7 (adOf (partOf 1 (Ep7 42))) q0o.fmag.length (capOf (partOf 1 (Ep7 42))) q0o.fmag ∧ RdS (RpI .u32) q7 (adOf (partOf 1 (Ep7 43))) q0m.fmag.length (capOf (partOf 1 (Ep7 43))) q0m.fmag) (fun (q7 : Heap) => [roD q5 q7]) :: cells (blkOf (Ep2 9)) 79 [.bool q4.fneg, .slice (adOf (partOf 1 (Ep4 34))) q4.fmag.length (capOf (partOf 1 (Ep4 34)))] :: cells b4 79 [.bool q0m.fneg, .slice (adOf (partOf 1 (Ep7 43))) q0m.fmag.length (capOf (partOf 1 (Ep7 43)))] :: cells b5 79 [.bool q4.fneg, .slice (adOf (partOf 1 (Ep4 34))) q4.fmag.length (capOf (partOf 1 (Ep4 34)))] :: (cells b3 79 [.bool b1.fneg, .slice q0d b1.fmag.length c_b1_1] :: cells b2 79 [.bool a0.fneg, .slice q0p a0.fmag.length c_a0_1] :: l)) := Eq.mp (by kernel_rfl) hS
   have q_ := St.unbun (hS.pull 2); obtain ⟨q7, ⟨q2l, q0g, q0r⟩, hS⟩ := q_
   have q_ := St.ro_join (hS.pull 2) (Le.refl _) q2l; obtain ⟨q39, q2f, q34, hS, q3n⟩ := q_
   have e_ := Option.some.inj (show some _ = some _ from hF); subst e_
   exact x_return ⟨_, ⟨_, _, _, rfl, ((hE7 4 rfl).trans ((hE4 4 rfl).trans (hE2 4 rfl))), ldvA agg_79 rfl (fun j v hj => by rw [add0]; exact St.cell (hS.pull 3) hj), _, _, _, rfl, ((hE7 5 rfl).trans ((hE4 5 rfl).trans (hE2 5 rfl))), ldvA agg_79 rfl (fun j v hj => by rw [add0]; exact St.cell (hS.pull 4) hj), rfl⟩, q39, (adOf (partOf 1 (Ep7 43))), q0m.fmag.length, (capOf (partOf 1 (Ep7 43))), (adOf (partOf 1 (Ep4 34))), q4.fmag.length, (capOf (partOf 1 (Ep4 34))), rfl, (((q1b.trans q0w).trans q14).trans q2f), (q0r.le q34), (q0k.le (q2d.trans q2f)), (((((((hS.pull 1).drop.pull 1).drop.pull 1).drop.pull 1).drop.pull 1).drop.pull 1).drop)⟩
 ·replace hF := it_bf hc30 hF
  refine x_skip <| x_seq <| ?_
  refine x_par (w0 := w0) [⟨[], [], [45], [0], [], []⟩, ⟨[], [], [46], [1], [], []⟩, ⟨[0], [0], [], [], [2], [3]⟩, ⟨[0, 1, 2], [1], [], [], [4], [5]⟩] [⟨none, none, []⟩, ⟨none, none, []⟩, ⟨none, (some 2), []⟩, ⟨(some 2), none, []⟩, ⟨none, (some 3), []⟩, ⟨(some 3), none, []⟩] [45, 46] [0, 1, 2, 4] [0, 1, 3, 5] [0, 1] [fun Ep8 => Ep8 45 = .agg #[.bool q2.fneg, .slice (adOf (partOf 1 (Ep2 24))) q2.fmag.length (capOf (partOf 1 (Ep2 24)))], fun Ep8 => Ep8 46 = .agg #[.bool q3.fneg, .slice (adOf (partOf 1 (Ep2 28))) q3.fmag.length (capOf (partOf 1 (Ep2 28)))], fun Ep8 => True, fun Ep8 => True] [fun Ep8 => cells (blkOf (Ep2 8)) 79 [.bool q2.fneg, .slice (adOf (partOf 1 (Ep2 24))) q2.fmag.length (capOf (partOf 1 (Ep2 24)))], fun Ep8 => cells (blkOf (Ep2 9)) 79 [.bool q3.fneg, .slice (adOf (partOf 1 (Ep2 28))) q3.fmag.length (capOf (partOf 1 (Ep2 28)))], fun Ep8 => cells b4 79 [.bool false, .slice none 0 0], fun Ep8 => cells b4 79 [.bool q2.fneg, .slice (adOf (partOf 1 (Ep2 24))) q2.fmag.length (capOf (partOf 1 (Ep2 24)))], fun Ep8 => cells b5 79 [.bool false, .slice none 0 0], fun Ep8 => cells b5 79 [.bool q3.fneg, .slice (adOf (partOf 1 (Ep2 28))) q3.fmag.length (capOf (partOf 1 (Ep2 28)))]] mixed (by kernel_rfl) ((((hS.pull 5).pull 6).pull 6).pull 6) ?_ ?_
  ·refine ⟨?_, ?_, ?_, ?_, trivial⟩
   ·intro Ep8 w l' hE8 hO8 hF_ hS
    replace hS : St w0 w (cells (blkOf (Ep2 8)) 79 [.bool q2.fneg, .slice (adOf (partOf 1 (Ep2 24))) q2.fmag.length (capOf (partOf 1 (Ep2 24)))] :: l') := Eq.mp (by kernel_rfl) hS
    refine pa (v := .agg #[.bool q2.fneg, .slice (adOf (partOf 1 (Ep2 24))) q2.fmag.length (capOf (partOf 1 (Ep2 24)))]) (ld_sub agg_79 ((hE8 8 rfl).trans q0v) rfl rfl hS) <| x_done <| ?_
    refine x_fin ⟨⟨_, rfl⟩, rfl, ?_⟩
    exact Eq.mp (by kernel_rfl) hS
   ·intro Ep8 w l' hE8 hO8 hF_ hS
    replace hS : St w0 w (cells (blkOf (Ep2 9)) 79 [.bool q3.fneg, .slice (adOf (partOf 1 (Ep2 28))) q3.fmag.length (capOf (partOf 1 (Ep2 28)))] :: l') := Eq.mp (by kernel_rfl) hS
    refine pa (v := .agg #[.bool q3.fneg, .slice (adOf (partOf 1 (Ep2 28))) q3.fmag.length (capOf (partOf 1 (Ep2 28)))]) (ld_sub agg_79 ((hE8 9 rfl).trans q0t) rfl rfl hS) <| x_done <| ?_
    refine x_fin ⟨⟨_, rfl⟩, rfl, ?_⟩
    exact Eq.mp (by kernel_rfl) hS
   ·intro Ep8 w l' hE8 hO8 hF_ hS
    obtain ⟨q25, -⟩ := hF_
    replace q25 : Ep8 45 = .agg #[.bool q2.fneg, .slice (adOf (partOf 1 (Ep2 24))) q2.fmag.length (capOf (partOf 1 (Ep2 24)))] := Eq.mp (by kernel_rfl) q25
    replace hS : St w0 w (cells b4 79 [.bool false, .slice none 0 0] :: l') := Eq.mp (by kernel_rfl) hS
    refine o_storeAgg (news := [.bool q2.fneg, .slice (adOf (partOf 1 (Ep2 24))) q2.fmag.length (capOf (partOf 1 (Ep2 24)))]) agg_79 ((hE8 4 rfl).trans (hE2 4 rfl)) q25 rfl (by simp [over_length]) hS (fun w' hS => ?_)
    refine x_done <| ?_
    refine x_fin ⟨⟨undef, rfl⟩, trivial, ?_⟩
    exact Eq.mp (by kernel_rfl) hS
   ·intro Ep8 w l' hE8 hO8 hF_ hS
    obtain ⟨q26, -⟩ := hF_
    replace q26 : Ep8 46 = .agg #[.bool q3.fneg, .slice (adOf (partOf 1 (Ep2 28))) q3.fmag.length (capOf (partOf 1 (Ep2 28)))] := Eq.mp (by kernel_rfl) q26
    replace hS : St w0 w (cells b5 79 [.bool false, .slice none 0 0] :: l') := Eq.mp (by kernel_rfl) hS
    refine o_storeAgg (news := [.bool q3.fneg, .slice (adOf (partOf 1 (Ep2 28))) q3.fmag.length (capOf (partOf 1 (Ep2 28)))]) agg_79 ((hE8 5 rfl).trans (hE2 5 rfl)) q26 rfl (by simp [over_length]) hS (fun w' hS => ?_)
    refine x_done <| ?_
    refine x_fin ⟨⟨undef, rfl⟩, trivial, ?_⟩
    exact Eq.mp (by kernel_rfl) hS
  intro Ep8 w' hE8 hF_ hS
  obtain ⟨q25, q26, -⟩ := hF_
  replace q25 : Ep8 45 = .agg #[.bool q2.fneg, .slice (adOf (partOf 1 (Ep2 24))) q2.fmag.length (capOf (partOf 1 (Ep2 24)))] := Eq.mp (by kernel_rfl) q25
  replace q26 : Ep8 46 = .agg #[.bool q3.fneg, .slice (adOf (partOf 1 (Ep2 28))) q3.fmag.length (capOf (partOf 1 (Ep2 28)))] := Eq.mp (by kernel_rfl) q26
  replace hS : St w0 w' (cells (blkOf (Ep2 8)) 79 [.bool q2.fneg, .slice (adOf (partOf 1 (Ep2 24))) q2.fmag.length (capOf (partOf 1 (Ep2 24)))] :: cells (blkOf (Ep2 9)) 79 [.bool q3.fneg, .slice (adOf (partOf 1 (Ep2 28))) q3.fmag.length (capOf (partOf 1 (Ep2 28)))] :: cells b4 79 [.bool q2.fneg, .slice (adOf (partOf 1 (Ep2 24))) q2.fmag.length (capOf (partOf 1 (Ep2 24)))] :: cells b5 79 [.bool q3.fneg, .slice (adOf (partOf 1 (Ep2 28))) q3.fmag.length (capOf (partOf 1 (Ep2 28)))] :: (ro q0h :: cells b2 79 [.bool a0.fneg, .slice q0p a0.fmag.length c_a0_1] :: cells b3 79 [.bool b1.fneg, .slice q0d b1.fmag.length c_b1_1] :: l)) := Eq.mp (by kernel_rfl) hS
  have e_ := Option.some.inj (show some _ = some _ from hF); subst e_
  exact x_return ⟨_, ⟨_, _, _, rfl, ((hE8 4 rfl).trans (hE2 4 rfl)), ldvA agg_79 rfl (fun j v hj => by rw [add0]; exact St.cell (hS.pull 2) hj), _, _, _, rfl, ((hE8 5 rfl).trans (hE2 5 rfl)), ldvA agg_79 rfl (fun j v hj => by rw [add0]; exact St.cell (hS.pull 3) hj), rfl⟩, q0h, (adOf (partOf 1 (Ep2 24))), q2.fmag.length, (capOf (partOf 1 (Ep2 24))), (adOf (partOf 1 (Ep2 28))), q3.fmag.length, (capOf (partOf 1 (Ep2 28))), rfl, (q1b.trans q0w), (q0e.le q1o), (q0i.le q0w), (((hS.drop.drop.drop.drop.pull 1).drop.pull 1).drop)⟩
attribute [irreducible] P_exact_split

def P_exact_table_pivot_L2 (t0 : T_exact_table) (c1 : Int) : Int → Option (Int ⊕ Int) := fun q2 =>
 ck ((decide (q2 < (t0.frows.length : Int))) = true → inb q2 t0.frows.length) <|
 lv (gt t0.frows q2) fun q3 =>
 ck ((decide (q2 < (t0.frows.length : Int))) = true → inb c1 q3.length) <|
 lv (gt q3 c1) fun q4 =>
 bd (gd (decide (q2 < (t0.frows.length : Int))) (P_exact_Sign q4)) fun q5 =>
 lv ((decide (q2 < (t0.frows.length : Int))) && (decide (q5 = 0))) fun x38 =>
 if x38 = true then
  ar (q2 + 1) fun x40 =>
  some (Sum.inl x40)
 else
  some (Sum.inr q2)
def P_exact_table_pivot_L15 (t0 : T_exact_table) (c1 : Int) (q5 : List T_exact_Int) (q4 : List T_exact_Int) : (List T_exact_Int × Int) → Option ((List T_exact_Int × Int) ⊕ List T_exact_Int) := fun (q3, q2) =>
 if q2 < (q4.length : Int) then
  ck (inb c1 q5.length) <|
  lv (gt q5 c1) fun q0c =>
  ck (inb q2 q4.length) <|
  lv (gt q4 q2) fun q0d =>
  bd (P_exact_times q0c q0d) fun q0e =>
  ck (inb c1 q4.length) <|
  lv (gt q4 c1) fun q6 =>
  ck (inb q2 q5.length) <|
  lv (gt q5 q2) fun q7 =>
  bd (P_exact_times q6 q7) fun q8 =>
  bd (P_exact_Neg q8) fun q9 =>
  bd (P_exact_plus q0e q9) fun q0a =>
  bd (P_exact_split q0a (T_exact_Int.mk t0.flast.fneg t0.flast.fmag)) fun q0f =>
  ck (inb q2 q3.length) <|
  lv (stt q3 q2 q0f.1) fun q0b =>
  ar (q2 + 1) fun x172 =>
  some (Sum.inl (q0b, x172))
 else
  some (Sum.inr q3)
def P_exact_table_pivot_L10 (t0 : T_exact_table) (c1 : Int) (all2 : Bool) (q9 : List T_exact_Int) : (List (List T_exact_Int) × Int) → Option ((List (List T_exact_Int) × Int) ⊕ List (List T_exact_Int)) := fun (q3, q2) =>
 if q2 < (t0.frows.length : Int) then
  bd (
   ck (inb q2 q3.length) <|
   lv (gt q3 q2) fun q4 =>
   lv ((decide (q2 < t0.frank)) && (!all2)) fun x130 =>
   lv ((decide (q2 = t0.frank)) || x130) fun x131 =>
   if x131 = true then
    some q3
   else
    ck (mkOk 32 (q4.length : Int)) <|
    lv ((List.replicate ((q4.length : Int) : Int).toNat (T_exact_Int.mk false []) : List T_exact_Int)) fun q7 =>
    bd (
     lp (P_exact_table_pivot_L15 t0 c1 q9 q4) fuel (q7, 0)) fun q5 =>
    ck (inb q2 q3.length) <|
    lv (stt q3 q2 q5) fun q8 =>
    some q8) fun q6 =>
  ar (q2 + 1) fun x180 =>
  some (Sum.inl (q6, x180))
 else
  some (Sum.inr q3)
def P_exact_table_pivot (t0 : T_exact_table) (c1 : Int) (all2 : Bool) : Option (Bool × List (List T_exact_Int) × Bool × List Int × Bool × Int) :=
 bd (
  lp (P_exact_table_pivot_L2 t0 c1) fuel t0.frank) fun q3 =>
 if q3 = (t0.frows.length : Int) then
  some (false, t0.frows, t0.flast.fneg, t0.flast.fmag, t0.fodd, t0.frank)
 else
  bd (
   if q3 ≠ t0.frank then
    ck (inb t0.frank t0.frows.length) <|
    lv (gt t0.frows t0.frank) fun q9 =>
    ck (inb q3 t0.frows.length) <|
    lv (gt t0.frows q3) fun q0a =>
    ck (inb q3 t0.frows.length) <|
    lv (stt t0.frows q3 q9) fun q7 =>
    ck (inb t0.frank q7.length) <|
    lv (stt q7 t0.frank q0a) fun q0b =>
    some (q0b, !t0.fodd)
   else
    some (t0.frows, t0.fodd)) fun (q2, q4) =>
  ck (inb t0.frank q2.length) <|
  lv (gt q2 t0.frank) fun q6 =>
  bd (
   lp (P_exact_table_pivot_L10 t0 c1 all2 q6) fuel (q2, 0)) fun q5 =>
  ck (inb c1 q6.length) <|
  lv (gt q6 c1) fun q8 =>
  ar (t0.frank + 1) fun x192 =>
  some (true, q5, q8.fneg, q8.fmag, q4, x192)
set_option maxHeartbeats 4000000 in
set_option maxRecDepth 100000 in
theorem c_exact_table_pivot {w0 w : World} {l : List Assn} {ρ : Heap} {q3 : Nat} {q2 : Option Addr} {q23 : Nat} {c_t0_0 : Nat} {q0t : List Value} {q0c : Option Addr} {q66 : Nat} {c_t0_2 : Nat} {t0 : T_exact_table} {c1 : Int} {all2 : Bool} {r : (Bool × List (List T_exact_Int) × Bool × List Int × Bool × Int)} (hF : P_exact_table_pivot t0 c1 all2 = some r) (q16 : RepL (RpSl R_exact_Int) ρ t0.frows q0t) (q5d : RdS (RpI .u32) ρ q0c q66 c_t0_2 t0.flast.fmag) (hS : St w0 w (cells q3 150 [.slice q2 q23 c_t0_0, .bool t0.flast.fneg, .slice q0c q66 c_t0_2, .bool t0.fodd, .int .i64 t0.frank] :: vec 155 (RpSl R_exact_Int).sz (.slice q2 q23 c_t0_0) q23 q0t :: ro ρ :: l)) :
  Calls Try.prog 87 #[.pointer (some ⟨q3, 0, none⟩), .int .i64 c1, .bool all2] w fun e w' => ∃ (ρ' : Heap) (q2l : List Value) (q2m : Option Addr) (q2n : Nat) (c_b_t0_2_ret : Nat), e = .returned (.bool r.1) ∧ Le ρ ρ' ∧ RepL (RpSl R_exact_Int) ρ' r.2.1 q2l ∧ RdS (RpI .u32) ρ' q2m q2n c_b_t0_2_ret r.2.2.2.1 ∧ St w0 w' (cells q3 150 [.slice q2 q23 c_t0_0, .bool r.2.2.1, .slice q2m q2n c_b_t0_2_ret, .bool r.2.2.2.2.1, .int .i64 r.2.2.2.2.2] :: vec 155 (RpSl R_exact_Int).sz (.slice q2 q23 c_t0_0) q23 q2l :: ro ρ' :: l) := by
 have e_ := St.vec_n (hS.pull 1) q16; subst e_
 have e_ := q5d.n; subst e_
 refine enterC Try.func87 rfl 195 rfl (by simp) ?_
 refine x_seq <| x_region <| p (yl_assign rfl) <| x_done <|
  x_seq <| x_region <| p (yl_move rfl) <| p (yl_nilCheck rfl) <|
  p (yl_field0 fld_150_3 rfl) <| pa (at_load one_3 rfl (hS.cell rfl)) <| p (yl_assign rfl) <| x_done <|
  x_seq <| ?_
 replace hF := bd_s hF; obtain ⟨oL2, hLL2, hF⟩ := hF
 refine x_join (fun E w => ∃ (q0w : Int), q0w = oL2 ∧ E 0 = .pointer (some ⟨q3, 0, none⟩) ∧ E 1 = .int .i64 c1 ∧ E 2 = .bool all2 ∧ E 7 = .int .i64 q0w ∧ St w0 w (cells q3 150 [.slice q2 t0.frows.length c_t0_0, .bool t0.flast.fneg, .slice q0c t0.flast.fmag.length c_t0_2, .bool t0.fodd, .int .i64 t0.frank] :: vec 155 (RpSl R_exact_Int).sz (.slice q2 t0.frows.length c_t0_0) t0.frows.length q0t :: ro ρ :: l)) ?_ ?_
 ·refine x_block ?_
  refine x_loop (fun k_ E w => ∃ (q0l : Int), lp (P_exact_table_pivot_L2 t0 c1) k_ q0l = some oL2 ∧ E 0 = .pointer (some ⟨q3, 0, none⟩) ∧ E 1 = .int .i64 c1 ∧ E 2 = .bool all2 ∧ E 7 = .int .i64 q0l ∧ St w0 w (cells q3 150 [.slice q2 t0.frows.length c_t0_0, .bool t0.flast.fneg, .slice q0c t0.flast.fmag.length c_t0_2, .bool t0.fodd, .int .i64 t0.frank] :: vec 155 (RpSl R_exact_Int).sz (.slice q2 t0.frows.length c_t0_0) t0.frows.length q0t :: ro ρ :: l)) fuel ⟨t0.frank, hLL2, rfl, rfl, rfl, rfl, (((hS.pull 2).pull 2).pull 2)⟩ ?_
  rintro kL2 E w ⟨q0l, hLL2, q49, q5e, q67, q4a, hS⟩
  replace hLL2 := lp_s hLL2; obtain ⟨kL2, obL2, rfl, hFL2, hLL2⟩ := hLL2
  replace hFL2 := ck_s hFL2; obtain ⟨q68, hFL2⟩ := hFL2
  replace hFL2 := lv_s hFL2; obtain ⟨q9b, q88, hFL2⟩ := hFL2
  have q_ := RepL.getD sl_d q16 q0l; obtain ⟨q9w, q69, q89⟩ := q_
  rw [← q88] at q69
  obtain ⟨q7e, qa4, q9c, rfl, q65⟩ := q69
  have e_ := q65.n; subst e_
  replace hFL2 := ck_s hFL2; obtain ⟨q6a, hFL2⟩ := hFL2
  replace hFL2 := lv_s hFL2; obtain ⟨q7f, q8a, hFL2⟩ := hFL2
  have q_ := RdS.getD R_exact_Int_d q65 c1; obtain ⟨q9x, q6b, q8b⟩ := q_
  rw [← q8a] at q6b
  obtain ⟨q7o, q9q, q7p, rfl, q5q⟩ := q6b
  have e_ := q5q.n; subst e_
  replace hFL2 := bd_s hFL2; obtain ⟨q7g, q8c, hFL2⟩ := hFL2
  refine x_seq <| x_seq <| x_region <| p (yl_move q4a) <|
   p (yl_move q49) <| p (yl_nilCheck rfl) <| p (yl_field0 fld_150_0 rfl) <| pa (at_load one_148 rfl (hS.cell rfl)) <|
   p (yl_len_slice usl_148 rfl) <| p (yl_lss rfl rfl) <| p (yl_move rfl) <| pg (v := .pointer (some ⟨q3, 0, none⟩)) 25 (c := decide (q0l < (t0.frows.length : Int))) (says_t _) (fun hq => Yl.at (yl_move q49)) <|
   pg (v := .pointer (some ⟨q3, 0, none⟩)) 25 (c := decide (q0l < (t0.frows.length : Int))) (says_t _) (fun hq => Yl.at (yl_nilCheck (cv hq))) <| pg (v := .pointer (some ⟨q3, 0, none⟩)) 25 (c := decide (q0l < (t0.frows.length : Int))) (says_t _) (fun hq => Yl.at (yl_field0 fld_150_0 (cv hq))) <| pg (v := .slice q2 t0.frows.length c_t0_0) 25 (c := decide (q0l < (t0.frows.length : Int))) (says_t _) (fun hq => at_load one_148 (cv hq) (hS.cell rfl)) <| pg (v := .int .i64 q0l) 25 (c := decide (q0l < (t0.frows.length : Int))) (says_t _) (fun hq => Yl.at (yl_move q4a)) <|
   pg (v := .pointer (some ((adr q2).add (q0l.toNat * (RpSl R_exact_Int).sz)))) 25 (c := decide (q0l < (t0.frows.length : Int))) (says_t _) (fun hq => Yl.at (yix_o sl_148 (cv hq) (cv hq) (hS.pull 1) q16 (q68 hq))) <| pg (v := .slice q7e q9b.length q9c) 25 (c := decide (q0l < (t0.frows.length : Int))) (says_t _) (fun hq => at_load one_155 (cv hq) (EltV.ld (m := 0) (q89 (q68 hq)) (hS.pull 1) rfl)) <| pg (v := .int .i64 c1) 25 (c := decide (q0l < (t0.frows.length : Int))) (says_t _) (fun hq => Yl.at (yl_move q5e)) <| pg (v := .pointer (some ((adr q7e).add (c1.toNat * R_exact_Int.sz)))) 25 (c := decide (q0l < (t0.frows.length : Int))) (says_t _) (fun hq => Yl.at (yix_f sl_155 (cv hq) (cv hq) q65 (q6a hq))) <|
   pg (v := .agg #[.bool q7f.fneg, .slice q7o q7f.fmag.length q7p]) 25 (c := decide (q0l < (t0.frows.length : Int))) (says_t _) (fun hq => at_loadAgg agg_79 (cv hq) rfl (Elt.every (q8b (q6a hq)) (hS.pull 2))) <|
   pccg (v := .int .i64 q7g) 25 (c := decide (q0l < (t0.frows.length : Int))) (says_t _) call_44 (fun hq => (args1 (cv hq))) hS (fun hq => by
    have hcall := c_exact_Sign (gd_t q8c hq) q5q (hS.pull 2)
    exact (Calls.mono hcall (fun e w'' h => And.intro h.1 ((h.2.pull 2).pull 2)))) (fun w' hS => ?_)
  replace hFL2 := lv_s hFL2; obtain ⟨x38, hx38, hFL2⟩ := hFL2
  refine pg (v := .bool (decide (q7g = 0))) 25 (c := decide (q0l < (t0.frows.length : Int))) (says_t _) (fun hq => Yl.at (yl_eql (cv hq) rfl)) <| p (yand' rfl (fun hc => (cv hc)) rfl hx38) <| x_done <|
   x_cond (t := x38) rfl (fun hc38 => ?_) (fun hc38 => ?_)
  ·replace hFL2 := it_t hc38 hFL2
   replace hFL2 := ar_s hFL2; obtain ⟨x40, hx40, hFL2⟩ := hFL2
   refine x_skip <| x_block <| x_region <| p (yl_move q4a) <|
    p (yadd rfl rfl hx40) <| p (yl_assign rfl) <| x_done <| x_blk <| ?_
   have e_ := Option.some.inj (show some _ = some _ from hFL2); subst e_
   exact x_inv ⟨kL2, Nat.lt_succ_self _, x40, hLL2, q49, q5e, q67, rfl, (((hS.pull 2).pull 2).pull 2)⟩
  ·replace hFL2 := it_bf hc38 hFL2
   refine x_exitTo _ rfl <| ?_
   have e_ := Option.some.inj (show some _ = some _ from hFL2); subst e_
   exact x_inv ⟨q0l, hLL2, q49, q5e, q67, q4a, (((hS.pull 2).pull 2).pull 2)⟩
 rintro E w ⟨q0w, rfl, q19, q7h, q7i, q5a, hS⟩
 refine x_seq <| x_seq <| x_region <| p (yl_move q5a) <|
  p (yl_move q19) <| p (yl_nilCheck rfl) <| p (yl_field0 fld_150_0 rfl) <| pa (at_load one_148 rfl (hS.cell rfl)) <|
  p (yl_len_slice usl_148 rfl) <| p (yl_eql rfl rfl) <| x_done <|
  x_cond_p (q0w = (t0.frows.length : Int)) rfl (fun hc47 => ?_) (fun hc47 => ?_)
 ·replace hF := it_t hc47 hF
  refine x_seq <| x_region <| p (yl_assign rfl) <| x_done <| ?_
  have e_ := Option.some.inj (show some _ = some _ from hF); subst e_
  exact x_return ⟨_, ⟨_, _, rfl, rfl, rfl⟩, ρ, q0t, q0c, t0.flast.fmag.length, c_t0_2, rfl, (Le.refl _), q16, q5d, (((hS.pull 2).pull 2).pull 2)⟩
 ·replace hF := it_f hc47 hF
  refine x_skip <| x_seq <| x_seq <| x_region <|
   p (yl_move q5a) <| p (yl_move q19) <| p (yl_nilCheck rfl) <| p (yl_field0 fld_150_3 rfl) <|
   pa (at_load one_3 rfl (hS.cell rfl)) <| p (yl_neq rfl rfl) <| x_done <| ?_
  replace hF := bd_s hF; obtain ⟨oc53, hFc53, hF⟩ := hF
  refine x_join (fun E w => ∃ (q1a : List Value) (q1r : List (List T_exact_Int)) (q0i : Bool), (q1r, q0i) = oc53 ∧ E 0 = .pointer (some ⟨q3, 0, none⟩) ∧ E 1 = .int .i64 c1 ∧ E 2 = .bool all2 ∧ RepL (RpSl R_exact_Int) ρ q1r q1a ∧ St w0 w (cells q3 150 [.slice q2 t0.frows.length c_t0_0, .bool t0.flast.fneg, .slice q0c t0.flast.fmag.length c_t0_2, .bool q0i, .int .i64 t0.frank] :: vec 155 (RpSl R_exact_Int).sz (.slice q2 t0.frows.length c_t0_0) t0.frows.length q1a :: ro ρ :: l)) ?_ ?_
  ·refine x_cond_p (q0w ≠ t0.frank) rfl (fun hc53 => ?_) (fun hc53 => ?_)
   ·replace hFc53 := it_t hc53 hFc53
    replace hFc53 := ck_s hFc53; obtain ⟨q6c, hFc53⟩ := hFc53
    replace hFc53 := lv_s hFc53; obtain ⟨q1b, q8d, hFc53⟩ := hFc53
    replace hFc53 := ck_s hFc53; obtain ⟨q6d, hFc53⟩ := hFc53
    replace hFc53 := lv_s hFc53; obtain ⟨q1c, q8e, hFc53⟩ := hFc53
    replace hFc53 := ck_s hFc53; obtain ⟨q6e, hFc53⟩ := hFc53
    replace hFc53 := lv_s hFc53; obtain ⟨q4b, q8f, hFc53⟩ := hFc53
    replace hFc53 := ck_s hFc53; obtain ⟨q6f, hFc53⟩ := hFc53
    replace hFc53 := lv_s hFc53; obtain ⟨q5b, q8g, hFc53⟩ := hFc53
    refine x_par (w0 := w0) [⟨[], [], [54], [], [], []⟩, ⟨[0], [0], [55], [], [], []⟩, ⟨[0, 1], [1], [56], [], [], []⟩, ⟨[0, 1, 2], [2], [57], [0], [], []⟩, ⟨[], [], [58], [], [], []⟩, ⟨[], [], [59], [], [], []⟩, ⟨[5], [5], [60], [], [], []⟩, ⟨[5, 6], [6], [61], [], [], []⟩, ⟨[5, 6, 7], [7], [62], [0], [], []⟩, ⟨[], [], [63], [], [], []⟩, ⟨[9], [9], [64], [], [], []⟩, ⟨[9, 10], [10], [65], [], [], []⟩, ⟨[9, 10, 11], [11], [66], [0], [], []⟩, ⟨[], [], [67], [], [], []⟩, ⟨[], [], [68], [], [], []⟩, ⟨[14], [14], [69], [], [], []⟩, ⟨[14, 15], [15], [70], [], [], []⟩, ⟨[14, 15, 16], [16], [71], [0], [], []⟩, ⟨[], [], [72], [], [], []⟩, ⟨[18], [18], [73], [], [], []⟩, ⟨[18, 19], [19], [74], [], [], []⟩, ⟨[18, 19, 20], [20], [75], [0], [], []⟩, ⟨[14, 15, 16, 17, 18, 19, 20, 21], [17, 21], [76], [1], [], []⟩, ⟨[14, 15, 16, 17, 18, 19, 20, 21, 22], [22], [77], [1], [], []⟩, ⟨[], [], [78], [], [], []⟩, ⟨[24], [24], [79], [], [], []⟩, ⟨[24, 25], [25], [80], [], [], []⟩, ⟨[24, 25, 26], [26], [81], [0], [], []⟩, ⟨[], [], [82], [], [], []⟩, ⟨[24, 25, 26, 27, 28], [27, 28], [83], [1], [], []⟩, ⟨[24, 25, 26, 27, 28, 29], [29], [84], [1], [], []⟩, ⟨[], [], [85], [], [], []⟩, ⟨[31], [31], [86], [], [], []⟩, ⟨[31, 32], [32], [87], [], [], []⟩, ⟨[31, 32, 33], [33], [88], [0], [], []⟩, ⟨[31, 32, 33, 34], [34], [89], [], [], []⟩, ⟨[0, 1, 2, 3, 4, 5, 6, 7, 8, 9, 10, 11, 12, 14, 15, 16, 17, 18, 19, 20, 21, 22, 23, 24, 25, 26, 27, 28, 29, 30, 31, 32, 33, 34], [3, 4], [90], [1], [], []⟩, ⟨[0, 1, 2, 3, 4, 5, 6, 7, 8, 9, 10, 11, 12, 14, 15, 16, 17, 18, 19, 20, 21, 22, 23, 24, 25, 26, 27, 28, 29, 30, 31, 32, 33, 34, 36], [23, 36], [], [2], [1], [3]⟩, ⟨[0, 1, 2, 3, 4, 5, 6, 7, 8, 9, 10, 11, 12, 14, 15, 16, 17, 18, 19, 20, 21, 22, 23, 24, 25, 26, 27, 28, 29, 30, 31, 32, 33, 34, 36, 37], [8, 12], [91], [2, 3], [], []⟩, ⟨[0, 1, 2, 3, 4, 5, 6, 7, 8, 9, 10, 11, 12, 14, 15, 16, 17, 18, 19, 20, 21, 22, 23, 24, 25, 26, 27, 28, 29, 30, 31, 32, 33, 34, 36, 37, 38], [30, 38], [], [2], [3], [4]⟩, ⟨[0, 1, 2, 3, 4, 5, 6, 7, 8, 9, 10, 11, 12, 13, 14, 15, 16, 17, 18, 19, 20, 21, 22, 23, 24, 25, 26, 27, 28, 29, 30, 31, 32, 33, 34, 35, 36, 37, 38, 39], [13], [92], [], [], []⟩, ⟨[0, 1, 2, 3, 4, 5, 6, 7, 8, 9, 10, 11, 12, 13, 14, 15, 16, 17, 18, 19, 20, 21, 22, 23, 24, 25, 26, 27, 28, 29, 30, 31, 32, 33, 34, 35, 36, 37, 38, 39, 40], [40], [93], [], [], []⟩, ⟨[0, 1, 2, 3, 4, 5, 6, 7, 8, 9, 10, 11, 12, 13, 14, 15, 16, 17, 18, 19, 20, 21, 22, 23, 24, 25, 26, 27, 28, 29, 30, 31, 32, 33, 34, 35, 36, 37, 38, 39, 40, 41], [35, 41], [], [], [0], [5]⟩] [⟨none, (some 42), []⟩, ⟨none, (some 37), []⟩, ⟨none, none, []⟩, ⟨(some 37), (some 39), []⟩, ⟨(some 39), none, []⟩, ⟨(some 42), none, []⟩] [54, 55, 56, 57, 58, 59, 60, 61, 62, 63, 64, 65, 66, 67, 68, 69, 70, 71, 72, 73, 74, 75, 76, 77, 78, 79, 80, 81, 82, 83, 84, 85, 86, 87, 88, 89, 90, 91, 92, 93] [0, 1, 2] [2, 4, 5] [0, 1, 2, 3, 4, 5, 6, 7, 8, 9, 10, 11, 12, 13, 14, 15, 16, 17, 18, 19, 20, 21, 22, 23, 24, 25, 26, 27, 28, 29, 30, 31, 32, 33, 34, 35, 36, 38, 40, 41] [fun Ep7 => Ep7 54 = .pointer (some ⟨q3, 0, none⟩), fun Ep7 => Ep7 55 = .pointer (some ⟨q3, 0, none⟩), fun Ep7 => Ep7 56 = .pointer (some ⟨q3, 0, none⟩), fun Ep7 => Ep7 57 = .slice q2 t0.frows.length c_t0_0, fun Ep7 => Ep7 58 = .int .i64 q0w, fun Ep7 => Ep7 59 = .pointer (some ⟨q3, 0, none⟩), fun Ep7 => Ep7 60 = .pointer (some ⟨q3, 0, none⟩), fun Ep7 => Ep7 61 = .pointer (some ⟨q3, 0, none⟩), fun Ep7 => Ep7 62 = .slice q2 t0.frows.length c_t0_0, fun Ep7 => Ep7 63 = .pointer (some ⟨q3, 0, none⟩), fun Ep7 => Ep7 64 = .pointer (some ⟨q3, 0, none⟩), fun Ep7 => Ep7 65 = .pointer (some ⟨q3, 4, none⟩), fun Ep7 => Ep7 66 = .int .i64 t0.frank, fun Ep7 => Ep7 67 = .pointer (some ⟨q3, 0, none⟩), fun Ep7 => Ep7 68 = .pointer (some ⟨q3, 0, none⟩), fun Ep7 => Ep7 69 = .pointer (some ⟨q3, 0, none⟩), fun Ep7 => Ep7 70 = .pointer (some ⟨q3, 0, none⟩), fun Ep7 => Ep7 71 = .slice q2 t0.frows.length c_t0_0, fun Ep7 => Ep7 72 = .pointer (some ⟨q3, 0, none⟩), fun Ep7 => Ep7 73 = .pointer (some ⟨q3, 0, none⟩), fun Ep7 => Ep7 74 = .pointer (some ⟨q3, 4, none⟩), fun Ep7 => Ep7 75 = .int .i64 t0.frank, fun Ep7 => Ep7 76 = .pointer (some ((adr q2).add (t0.frank.toNat * (RpSl R_exact_Int).sz))), fun Ep7 => Ep7 77 = .slice (adOf (Ep7 77)) q1b.length (capOf (Ep7 77)) ∧ RdS R_exact_Int ρ (adOf (Ep7 77)) q1b.length (capOf (Ep7 77)) q1b, fun Ep7 => Ep7 78 = .pointer (some ⟨q3, 0, none⟩), fun Ep7 => Ep7 79 = .pointer (some ⟨q3, 0, none⟩), fun Ep7 => Ep7 80 = .pointer (some ⟨q3, 0, none⟩), fun Ep7 => Ep7 81 = .slice q2 t0.frows.length c_t0_0, fun Ep7 => Ep7 82 = .int .i64 q0w, fun Ep7 => Ep7 83 = .pointer (some ((adr q2).add (q0w.toNat * (RpSl R_exact_Int).sz))), fun Ep7 => Ep7 84 = .slice (adOf (Ep7 84)) q1c.length (capOf (Ep7 84)) ∧ RdS R_exact_Int ρ (adOf (Ep7 84)) q1c.length (capOf (Ep7 84)) q1c, fun Ep7 => Ep7 85 = .pointer (some ⟨q3, 0, none⟩), fun Ep7 => Ep7 86 = .pointer (some ⟨q3, 0, none⟩), fun Ep7 => Ep7 87 = .pointer (some ⟨q3, 3, none⟩), fun Ep7 => Ep7 88 = .bool t0.fodd, fun Ep7 => Ep7 89 = .bool (!t0.fodd), fun Ep7 => Ep7 90 = .pointer (some ((adr q2).add (q0w.toNat * (RpSl R_exact_Int).sz))), fun Ep7 => True, fun Ep7 => Ep7 91 = .pointer (some ((adr q2).add (t0.frank.toNat * (RpSl R_exact_Int).sz))), fun Ep7 => True, fun Ep7 => Ep7 92 = .pointer (some ⟨q3, 0, none⟩), fun Ep7 => Ep7 93 = .pointer (some ⟨q3, 3, none⟩), fun Ep7 => True] [fun Ep7 => cells q3 150 [.slice q2 t0.frows.length c_t0_0, .bool t0.flast.fneg, .slice q0c t0.flast.fmag.length c_t0_2, .bool t0.fodd, .int .i64 t0.frank], fun Ep7 => vec 155 (RpSl R_exact_Int).sz (.slice q2 t0.frows.length c_t0_0) t0.frows.length q0t, fun Ep7 => ro ρ, fun Ep7 => bunA (fun (q0f : List Value) => RepL (RpSl R_exact_Int) ρ q4b q0f) (fun (q0f : List Value) => [vec 155 (RpSl R_exact_Int).sz (.slice q2 t0.frows.length c_t0_0) t0.frows.length q0f]), fun Ep7 => bunA (fun (q0u : List Value) => RepL (RpSl R_exact_Int) ρ q5b q0u) (fun (q0u : List Value) => [vec 155 (RpSl R_exact_Int).sz (.slice q2 t0.frows.length c_t0_0) t0.frows.length q0u]), fun Ep7 => cells q3 150 [.slice q2 t0.frows.length c_t0_0, .bool t0.flast.fneg, .slice q0c t0.flast.fmag.length c_t0_2, .bool (!t0.fodd), .int .i64 t0.frank]] mixed (by kernel_rfl) (((hS.pull 2).pull 2).pull 2) ?_ ?_
    ·refine ⟨?_, ?_, ?_, ?_, ?_, ?_, ?_, ?_, ?_, ?_, ?_, ?_, ?_, ?_, ?_, ?_, ?_, ?_, ?_, ?_, ?_, ?_, ?_, ?_, ?_, ?_, ?_, ?_, ?_, ?_, ?_, ?_, ?_, ?_, ?_, ?_, ?_, ?_, ?_, ?_, ?_, ?_, ?_, trivial⟩
     ·intro Ep7 w l' hE7 hO7 hF_ hS
      refine p (yl_move ((hE7 0 rfl).trans q19)) <| x_done <| ?_
      refine x_fin ⟨⟨_, rfl⟩, rfl, ?_⟩
      exact Eq.mp (by kernel_rfl) hS
     ·intro Ep7 w l' hE7 hO7 hF_ hS
      obtain ⟨q4n, -⟩ := hF_
      replace q4n : Ep7 54 = .pointer (some ⟨q3, 0, none⟩) := Eq.mp (by kernel_rfl) q4n
      refine p (yl_nilCheck q4n) <| x_done <| ?_
      refine x_fin ⟨⟨_, rfl⟩, rfl, ?_⟩
      exact Eq.mp (by kernel_rfl) hS
     ·intro Ep7 w l' hE7 hO7 hF_ hS
      obtain ⟨q4o, -⟩ := hF_
      replace q4o : Ep7 55 = .pointer (some ⟨q3, 0, none⟩) := Eq.mp (by kernel_rfl) q4o
      refine p (yl_field0 fld_150_0 q4o) <| x_done <| ?_
      refine x_fin ⟨⟨_, rfl⟩, rfl, ?_⟩
      exact Eq.mp (by kernel_rfl) hS
     ·intro Ep7 w l' hE7 hO7 hF_ hS
      obtain ⟨q4p, -⟩ := hF_
      replace q4p : Ep7 56 = .pointer (some ⟨q3, 0, none⟩) := Eq.mp (by kernel_rfl) q4p
      replace hS : St w0 w (cells q3 150 [.slice q2 t0.frows.length c_t0_0, .bool t0.flast.fneg, .slice q0c t0.flast.fmag.length c_t0_2, .bool t0.fodd, .int .i64 t0.frank] :: l') := Eq.mp (by kernel_rfl) hS
      refine pa (at_load one_148 q4p (hS.cell rfl)) <| x_done <| ?_
      refine x_fin ⟨⟨_, rfl⟩, rfl, ?_⟩
      exact Eq.mp (by kernel_rfl) hS
     ·intro Ep7 w l' hE7 hO7 hF_ hS
      refine p (yl_move ((hE7 7 rfl).trans q5a)) <| x_done <| ?_
      refine x_fin ⟨⟨_, rfl⟩, rfl, ?_⟩
      exact Eq.mp (by kernel_rfl) hS
     ·intro Ep7 w l' hE7 hO7 hF_ hS
      refine p (yl_move ((hE7 0 rfl).trans q19)) <| x_done <| ?_
      refine x_fin ⟨⟨_, rfl⟩, rfl, ?_⟩
      exact Eq.mp (by kernel_rfl) hS
     ·intro Ep7 w l' hE7 hO7 hF_ hS
      obtain ⟨q4q, -⟩ := hF_
      replace q4q : Ep7 59 = .pointer (some ⟨q3, 0, none⟩) := Eq.mp (by kernel_rfl) q4q
      refine p (yl_nilCheck q4q) <| x_done <| ?_
      refine x_fin ⟨⟨_, rfl⟩, rfl, ?_⟩
      exact Eq.mp (by kernel_rfl) hS
     ·intro Ep7 w l' hE7 hO7 hF_ hS
      obtain ⟨q4r, -⟩ := hF_
      replace q4r : Ep7 60 = .pointer (some ⟨q3, 0, none⟩) := Eq.mp (by kernel_rfl) q4r
      refine p (yl_field0 fld_150_0 q4r) <| x_done <| ?_
      refine x_fin ⟨⟨_, rfl⟩, rfl, ?_⟩
      exact Eq.mp (by kernel_rfl) hS
     ·intro Ep7 w l' hE7 hO7 hF_ hS
      obtain ⟨q4s, -⟩ := hF_
      replace q4s : Ep7 61 = .pointer (some ⟨q3, 0, none⟩) := Eq.mp (by kernel_rfl) q4s
      replace hS : St w0 w (cells q3 150 [.slice q2 t0.frows.length c_t0_0, .bool t0.flast.fneg, .slice q0c t0.flast.fmag.length c_t0_2, .bool t0.fodd, .int .i64 t0.frank] :: l') := Eq.mp (by kernel_rfl) hS
      refine pa (at_load one_148 q4s (hS.cell rfl)) <| x_done <| ?_
      refine x_fin ⟨⟨_, rfl⟩, rfl, ?_⟩
      exact Eq.mp (by kernel_rfl) hS
     ·intro Ep7 w l' hE7 hO7 hF_ hS
      refine p (yl_move ((hE7 0 rfl).trans q19)) <| x_done <| ?_
      refine x_fin ⟨⟨_, rfl⟩, rfl, ?_⟩
      exact Eq.mp (by kernel_rfl) hS
     ·intro Ep7 w l' hE7 hO7 hF_ hS
      obtain ⟨q4t, -⟩ := hF_
      replace q4t : Ep7 63 = .pointer (some ⟨q3, 0, none⟩) := Eq.mp (by kernel_rfl) q4t
      refine p (yl_nilCheck q4t) <| x_done <| ?_
      refine x_fin ⟨⟨_, rfl⟩, rfl, ?_⟩
      exact Eq.mp (by kernel_rfl) hS
     ·intro Ep7 w l' hE7 hO7 hF_ hS
      obtain ⟨q2r, -⟩ := hF_
      replace q2r : Ep7 64 = .pointer (some ⟨q3, 0, none⟩) := Eq.mp (by kernel_rfl) q2r
      refine p (yl_field0 fld_150_3 q2r) <| x_done <| ?_
      refine x_fin ⟨⟨_, rfl⟩, rfl, ?_⟩
      exact Eq.mp (by kernel_rfl) hS
     ·intro Ep7 w l' hE7 hO7 hF_ hS
      obtain ⟨q2s, -⟩ := hF_
      replace q2s : Ep7 65 = .pointer (some ⟨q3, 4, none⟩) := Eq.mp (by kernel_rfl) q2s
      replace hS : St w0 w (cells q3 150 [.slice q2 t0.frows.length c_t0_0, .bool t0.flast.fneg, .slice q0c t0.flast.fmag.length c_t0_2, .bool t0.fodd, .int .i64 t0.frank] :: l') := Eq.mp (by kernel_rfl) hS
      refine pa (at_load one_3 q2s (hS.cell rfl)) <| x_done <| ?_
      refine x_fin ⟨⟨_, rfl⟩, rfl, ?_⟩
      exact Eq.mp (by kernel_rfl) hS
     ·intro Ep7 w l' hE7 hO7 hF_ hS
      refine p (yl_move ((hE7 0 rfl).trans q19)) <| x_done <| ?_
      refine x_fin ⟨⟨_, rfl⟩, rfl, ?_⟩
      exact Eq.mp (by kernel_rfl) hS
     ·intro Ep7 w l' hE7 hO7 hF_ hS
      refine p (yl_move ((hE7 0 rfl).trans q19)) <| x_done <| ?_
      refine x_fin ⟨⟨_, rfl⟩, rfl, ?_⟩
      exact Eq.mp (by kernel_rfl) hS
     ·intro Ep7 w l' hE7 hO7 hF_ hS
      obtain ⟨q2t, -⟩ := hF_
      replace q2t : Ep7 68 = .pointer (some ⟨q3, 0, none⟩) := Eq.mp (by kernel_rfl) q2t
      refine p (yl_nilCheck q2t) <| x_done <| ?_
      refine x_fin ⟨⟨_, rfl⟩, rfl, ?_⟩
      exact Eq.mp (by kernel_rfl) hS
     ·intro Ep7 w l' hE7 hO7 hF_ hS
      obtain ⟨q2u, -⟩ := hF_
      replace q2u : Ep7 69 = .pointer (some ⟨q3, 0, none⟩) := Eq.mp (by kernel_rfl) q2u
      refine p (yl_field0 fld_150_0 q2u) <| x_done <| ?_
      refine x_fin ⟨⟨_, rfl⟩, rfl, ?_⟩
      exact Eq.mp (by kernel_rfl) hS
     ·intro Ep7 w l' hE7 hO7 hF_ hS
      obtain ⟨q2v, -⟩ := hF_
      replace q2v : Ep7 70 = .pointer (some ⟨q3, 0, none⟩) := Eq.mp (by kernel_rfl) q2v
      replace hS : St w0 w (cells q3 150 [.slice q2 t0.frows.length c_t0_0, .bool t0.flast.fneg, .slice q0c t0.flast.fmag.length c_t0_2, .bool t0.fodd, .int .i64 t0.frank] :: l') := Eq.mp (by kernel_rfl) hS
      refine pa (at_load one_148 q2v (hS.cell rfl)) <| x_done <| ?_
      refine x_fin ⟨⟨_, rfl⟩, rfl, ?_⟩
      exact Eq.mp (by kernel_rfl) hS
     ·intro Ep7 w l' hE7 hO7 hF_ hS
      refine p (yl_move ((hE7 0 rfl).trans q19)) <| x_done <| ?_
      refine x_fin ⟨⟨_, rfl⟩, rfl, ?_⟩
      exact Eq.mp (by kernel_rfl) hS
     ·intro Ep7 w l' hE7 hO7 hF_ hS
      obtain ⟨q2w, -⟩ := hF_
      replace q2w : Ep7 72 = .pointer (some ⟨q3, 0, none⟩) := Eq.mp (by kernel_rfl) q2w
      refine p (yl_nilCheck q2w) <| x_done <| ?_
      refine x_fin ⟨⟨_, rfl⟩, rfl, ?_⟩
      exact Eq.mp (by kernel_rfl) hS
     ·intro Ep7 w l' hE7 hO7 hF_ hS
      obtain ⟨q2x, -⟩ := hF_
      replace q2x : Ep7 73 = .pointer (some ⟨q3, 0, none⟩) := Eq.mp (by kernel_rfl) q2x
      refine p (yl_field0 fld_150_3 q2x) <| x_done <| ?_
      refine x_fin ⟨⟨_, rfl⟩, rfl, ?_⟩
      exact Eq.mp (by kernel_rfl) hS
     ·intro Ep7 w l' hE7 hO7 hF_ hS
      obtain ⟨q2y, -⟩ := hF_
      replace q2y : Ep7 74 = .pointer (some ⟨q3, 4, none⟩) := Eq.mp (by kernel_rfl) q2y
      replace hS : St w0 w (cells q3 150 [.slice q2 t0.frows.length c_t0_0, .bool t0.flast.fneg, .slice q0c t0.flast.fmag.length c_t0_2, .bool t0.fodd, .int .i64 t0.frank] :: l') := Eq.mp (by kernel_rfl) hS
      refine pa (at_load one_3 q2y (hS.cell rfl)) <| x_done <| ?_
      refine x_fin ⟨⟨_, rfl⟩, rfl, ?_⟩
      exact Eq.mp (by kernel_rfl) hS
     ·intro Ep7 w l' hE7 hO7 hF_ hS
      obtain ⟨q2z, q30, -⟩ := hF_
      replace q2z : Ep7 71 = .slice q2 t0.frows.length c_t0_0 := Eq.mp (by kernel_rfl) q2z
      replace q30 : Ep7 75 = .int .i64 t0.frank := Eq.mp (by kernel_rfl) q30
      replace hS : St w0 w (vec 155 (RpSl R_exact_Int).sz (.slice q2 t0.frows.length c_t0_0) t0.frows.length q0t :: l') := Eq.mp (by kernel_rfl) hS
      refine p (yix_o sl_148 q2z q30 hS q16 q6c) <| x_done <| ?_
      refine x_fin ⟨⟨_, rfl⟩, rfl, ?_⟩
      exact Eq.mp (by kernel_rfl) hS
     ·intro Ep7 w l' hE7 hO7 hF_ hS
      obtain ⟨q31, -⟩ := hF_
      replace q31 : Ep7 76 = .pointer (some ((adr q2).add (t0.frank.toNat * (RpSl R_exact_Int).sz))) := Eq.mp (by kernel_rfl) q31
      replace hS : St w0 w (vec 155 (RpSl R_exact_Int).sz (.slice q2 t0.frows.length c_t0_0) t0.frows.length q0t :: l') := Eq.mp (by kernel_rfl) hS
      have q_ := q16.get q6c; obtain ⟨q9y, q6g, q8h⟩ := q_
      rw [← q8d] at q6g
      obtain ⟨qa5, qa6, qa7, rfl, q1e⟩ := q6g
      have e_ := q1e.n; subst e_
      refine pa (at_load one_155 q31 (EltV.ld (m := 0) q8h hS rfl)) <| x_done <| ?_
      refine x_fin ⟨⟨_, rfl⟩, ⟨rfl, q1e⟩, ?_⟩
      exact Eq.mp (by kernel_rfl) hS
     ·intro Ep7 w l' hE7 hO7 hF_ hS
      refine p (yl_move ((hE7 0 rfl).trans q19)) <| x_done <| ?_
      refine x_fin ⟨⟨_, rfl⟩, rfl, ?_⟩
      exact Eq.mp (by kernel_rfl) hS
     ·intro Ep7 w l' hE7 hO7 hF_ hS
      obtain ⟨q32, -⟩ := hF_
      replace q32 : Ep7 78 = .pointer (some ⟨q3, 0, none⟩) := Eq.mp (by kernel_rfl) q32
      refine p (yl_nilCheck q32) <| x_done <| ?_
      refine x_fin ⟨⟨_, rfl⟩, rfl, ?_⟩
      exact Eq.mp (by kernel_rfl) hS
     ·intro Ep7 w l' hE7 hO7 hF_ hS
      obtain ⟨q33, -⟩ := hF_
      replace q33 : Ep7 79 = .pointer (some ⟨q3, 0, none⟩) := Eq.mp (by kernel_rfl) q33
      refine p (yl_field0 fld_150_0 q33) <| x_done <| ?_
      refine x_fin ⟨⟨_, rfl⟩, rfl, ?_⟩
      exact Eq.mp (by kernel_rfl) hS
     ·intro Ep7 w l' hE7 hO7 hF_ hS
      obtain ⟨q34, -⟩ := hF_
      replace q34 : Ep7 80 = .pointer (some ⟨q3, 0, none⟩) := Eq.mp (by kernel_rfl) q34
      replace hS : St w0 w (cells q3 150 [.slice q2 t0.frows.length c_t0_0, .bool t0.flast.fneg, .slice q0c t0.flast.fmag.length c_t0_2, .bool t0.fodd, .int .i64 t0.frank] :: l') := Eq.mp (by kernel_rfl) hS
      refine pa (at_load one_148 q34 (hS.cell rfl)) <| x_done <| ?_
      refine x_fin ⟨⟨_, rfl⟩, rfl, ?_⟩
      exact Eq.mp (by kernel_rfl) hS
     ·intro Ep7 w l' hE7 hO7 hF_ hS
      refine p (yl_move ((hE7 7 rfl).trans q5a)) <| x_done <| ?_
      refine x_fin ⟨⟨_, rfl⟩, rfl, ?_⟩
      exact Eq.mp (by kernel_rfl) hS
     ·intro Ep7 w l' hE7 hO7 hF_ hS
      obtain ⟨q35, q36, -⟩ := hF_
      replace q35 : Ep7 81 = .slice q2 t0.frows.length c_t0_0 := Eq.mp (by kernel_rfl) q35
      replace q36 : Ep7 82 = .int .i64 q0w := Eq.mp (by kernel_rfl) q36
      replace hS : St w0 w (vec 155 (RpSl R_exact_Int).sz (.slice q2 t0.frows.length c_t0_0) t0.frows.length q0t :: l') := Eq.mp (by kernel_rfl) hS
      refine p (yix_o sl_148 q35 q36 hS q16 q6d) <| x_done <| ?_
      refine x_fin ⟨⟨_, rfl⟩, rfl, ?_⟩
      exact Eq.mp (by kernel_rfl) hS
     ·intro Ep7 w l' hE7 hO7 hF_ hS
      obtain ⟨q37, -⟩ := hF_
      replace q37 : Ep7 83 = .pointer (some ((adr q2).add (q0w.toNat * (RpSl R_exact_Int).sz))) := Eq.mp (by kernel_rfl) q37
      replace hS : St w0 w (vec 155 (RpSl R_exact_Int).sz (.slice q2 t0.frows.length c_t0_0) t0.frows.length q0t :: l') := Eq.mp (by kernel_rfl) hS
      have q_ := q16.get q6d; obtain ⟨q9z, q6h, q8i⟩ := q_
      rw [← q8e] at q6h
      obtain ⟨qa8, qa9, qaa, rfl, q1f⟩ := q6h
      have e_ := q1f.n; subst e_
      refine pa (at_load one_155 q37 (EltV.ld (m := 0) q8i hS rfl)) <| x_done <| ?_
      refine x_fin ⟨⟨_, rfl⟩, ⟨rfl, q1f⟩, ?_⟩
      exact Eq.mp (by kernel_rfl) hS
     ·intro Ep7 w l' hE7 hO7 hF_ hS
      refine p (yl_move ((hE7 0 rfl).trans q19)) <| x_done <| ?_
      refine x_fin ⟨⟨_, rfl⟩, rfl, ?_⟩
      exact Eq.mp (by kernel_rfl) hS
     ·intro Ep7 w l' hE7 hO7 hF_ hS
      obtain ⟨q38, -⟩ := hF_
      replace q38 : Ep7 85 = .pointer (some ⟨q3, 0, none⟩) := Eq.mp (by kernel_rfl) q38
      refine p (yl_nilCheck q38) <| x_done <| ?_
      refine x_fin ⟨⟨_, rfl⟩, rfl, ?_⟩
      exact Eq.mp (by kernel_rfl) hS
     ·intro Ep7 w l' hE7 hO7 hF_ hS
      obtain ⟨q39, -⟩ := hF_
      replace q39 : Ep7 86 = .pointer (some ⟨q3, 0, none⟩) := Eq.mp (by kernel_rfl) q39
      refine p (yl_field0 fld_150_2 q39) <| x_done <| ?_
      refine x_fin ⟨⟨_, rfl⟩, rfl, ?_⟩
      exact Eq.mp (by kernel_rfl) hS
     ·intro Ep7 w l' hE7 hO7 hF_ hS
      obtain ⟨q3a, -⟩ := hF_
      replace q3a : Ep7 87 = .pointer (some ⟨q3, 3, none⟩) := Eq.mp (by kernel_rfl) q3a
      replace hS : St w0 w (cells q3 150 [.slice q2 t0.frows.length c_t0_0, .bool t0.flast.fneg, .slice q0c t0.flast.fmag.length c_t0_2, .bool t0.fodd, .int .i64 t0.frank] :: l') := Eq.mp (by kernel_rfl) hS
      refine pa (at_load one_4 q3a (hS.cell rfl)) <| x_done <| ?_
      refine x_fin ⟨⟨_, rfl⟩, rfl, ?_⟩
      exact Eq.mp (by kernel_rfl) hS
     ·intro Ep7 w l' hE7 hO7 hF_ hS
      obtain ⟨q3b, -⟩ := hF_
      replace q3b : Ep7 88 = .bool t0.fodd := Eq.mp (by kernel_rfl) q3b
      refine p (yl_not q3b) <| x_done <| ?_
      refine x_fin ⟨⟨_, rfl⟩, rfl, ?_⟩
      exact Eq.mp (by kernel_rfl) hS
     ·intro Ep7 w l' hE7 hO7 hF_ hS
      obtain ⟨q4u, q4v, -⟩ := hF_
      replace q4u : Ep7 57 = .slice q2 t0.frows.length c_t0_0 := Eq.mp (by kernel_rfl) q4u
      replace q4v : Ep7 58 = .int .i64 q0w := Eq.mp (by kernel_rfl) q4v
      replace hS : St w0 w (vec 155 (RpSl R_exact_Int).sz (.slice q2 t0.frows.length c_t0_0) t0.frows.length q0t :: l') := Eq.mp (by kernel_rfl) hS
      refine p (yix_o sl_148 q4u q4v hS q16 q6e) <| x_done <| ?_
      refine x_fin ⟨⟨_, rfl⟩, rfl, ?_⟩
      exact Eq.mp (by kernel_rfl) hS
     ·intro Ep7 w l' hE7 hO7 hF_ hS
      obtain ⟨q1e, q3c, -⟩ := hF_
      replace q1e : Ep7 77 = .slice (adOf (Ep7 77)) q1b.length (capOf (Ep7 77)) ∧ RdS R_exact_Int ρ (adOf (Ep7 77)) q1b.length (capOf (Ep7 77)) q1b := Eq.mp (by kernel_rfl) q1e
      have q_ := id q1e; obtain ⟨-, q6i⟩ := q_
      replace q3c : Ep7 90 = .pointer (some ((adr q2).add (q0w.toNat * (RpSl R_exact_Int).sz))) := Eq.mp (by kernel_rfl) q3c
      replace hS : St w0 w (ro ρ :: vec 155 (RpSl R_exact_Int).sz (.slice q2 t0.frows.length c_t0_0) t0.frows.length q0t :: l') := Eq.mp (by kernel_rfl) hS
      refine o_put' (news := [.slice (adOf (Ep7 77)) q1b.length (capOf (Ep7 77))]) sz_155 q3c q1e.1 rfl rfl (o := 0) rfl q6e rfl (hS.pull 1) q16 (Le.refl _) (fun c hc => ok_all hc (show (RpSl R_exact_Int).ok ρ [.slice (adOf (Ep7 77)) q1b.length (capOf (Ep7 77))] q1b from ⟨_, _, _, rfl, q6i⟩)) q8f (fun q0f w' q24 hS => ?_)
      refine x_done <| ?_
      refine x_fin ⟨⟨undef, rfl⟩, trivial, ?_⟩
      replace hS := St.bun (Φ := (fun (q0f : List Value) => RepL (RpSl R_exact_Int) ρ q4b q0f)) (L := (fun (q0f : List Value) => [vec 155 (RpSl R_exact_Int).sz (.slice q2 t0.frows.length c_t0_0) t0.frows.length q0f])) q0f q24 hS
      exact Eq.mp (by kernel_rfl) (hS.pull 1)
     ·intro Ep7 w l' hE7 hO7 hF_ hS
      obtain ⟨q4w, q3d, -⟩ := hF_
      replace q4w : Ep7 62 = .slice q2 t0.frows.length c_t0_0 := Eq.mp (by kernel_rfl) q4w
      replace q3d : Ep7 66 = .int .i64 t0.frank := Eq.mp (by kernel_rfl) q3d
      replace hS : St w0 w (ro ρ :: bunA (fun (q0f : List Value) => RepL (RpSl R_exact_Int) ρ q4b q0f) (fun (q0f : List Value) => [vec 155 (RpSl R_exact_Int).sz (.slice q2 t0.frows.length c_t0_0) t0.frows.length q0f]) :: l') := Eq.mp (by kernel_rfl) hS
      have q_ := St.unbun (hS.pull 1); obtain ⟨q0f, q24, hS⟩ := q_
      refine p (yix_o sl_148 q4w q3d hS q24 q6f) <| x_done <| ?_
      refine x_fin ⟨⟨_, rfl⟩, rfl, ?_⟩
      replace hS := St.bun (Φ := (fun (q0f : List Value) => RepL (RpSl R_exact_Int) ρ q4b q0f)) (L := (fun (q0f : List Value) => [vec 155 (RpSl R_exact_Int).sz (.slice q2 t0.frows.length c_t0_0) t0.frows.length q0f])) q0f q24 hS
      exact Eq.mp (by kernel_rfl) (hS.pull 1)
     ·intro Ep7 w l' hE7 hO7 hF_ hS
      obtain ⟨q1f, q3e, -⟩ := hF_
      replace q1f : Ep7 84 = .slice (adOf (Ep7 84)) q1c.length (capOf (Ep7 84)) ∧ RdS R_exact_Int ρ (adOf (Ep7 84)) q1c.length (capOf (Ep7 84)) q1c := Eq.mp (by kernel_rfl) q1f
      have q_ := id q1f; obtain ⟨-, q6j⟩ := q_
      replace q3e : Ep7 91 = .pointer (some ((adr q2).add (t0.frank.toNat * (RpSl R_exact_Int).sz))) := Eq.mp (by kernel_rfl) q3e
      replace hS : St w0 w (ro ρ :: bunA (fun (q0f : List Value) => RepL (RpSl R_exact_Int) ρ q4b q0f) (fun (q0f : List Value) => [vec 155 (RpSl R_exact_Int).sz (.slice q2 t0.frows.length c_t0_0) t0.frows.length q0f]) :: l') := Eq.mp (by kernel_rfl) hS
      have q_ := St.unbun (hS.pull 1); obtain ⟨q0f, q24, hS⟩ := q_
      refine o_put' (news := [.slice (adOf (Ep7 84)) q1c.length (capOf (Ep7 84))]) sz_155 q3e q1f.1 rfl rfl (o := 0) rfl q6f rfl hS q24 (Le.refl _) (fun c hc => ok_all hc (show (RpSl R_exact_Int).ok ρ [.slice (adOf (Ep7 84)) q1c.length (capOf (Ep7 84))] q1c from ⟨_, _, _, rfl, q6j⟩)) q8g (fun q0u w' q5f hS => ?_)
      refine x_done <| ?_
      refine x_fin ⟨⟨undef, rfl⟩, trivial, ?_⟩
      replace hS := St.bun (Φ := (fun (q0u : List Value) => RepL (RpSl R_exact_Int) ρ q5b q0u)) (L := (fun (q0u : List Value) => [vec 155 (RpSl R_exact_Int).sz (.slice q2 t0.frows.length c_t0_0) t0.frows.length q0u])) q0u q5f hS
      exact Eq.mp (by kernel_rfl) (hS.pull 1)
     ·intro Ep7 w l' hE7 hO7 hF_ hS
      obtain ⟨q3f, -⟩ := hF_
      replace q3f : Ep7 67 = .pointer (some ⟨q3, 0, none⟩) := Eq.mp (by kernel_rfl) q3f
      refine p (yl_nilCheck q3f) <| x_done <| ?_
      refine x_fin ⟨⟨_, rfl⟩, rfl, ?_⟩
      exact Eq.mp (by kernel_rfl) hS
     ·intro Ep7 w l' hE7 hO7 hF_ hS
      obtain ⟨q3g, -⟩ := hF_
      replace q3g : Ep7 92 = .pointer (some ⟨q3, 0, none⟩) := Eq.mp (by kernel_rfl) q3g
      refine p (yl_field0 fld_150_2 q3g) <| x_done <| ?_
      refine x_fin ⟨⟨_, rfl⟩, rfl, ?_⟩
      exact Eq.mp (by kernel_rfl) hS
     ·intro Ep7 w l' hE7 hO7 hF_ hS
      obtain ⟨q3h, q3i, -⟩ := hF_
      replace q3h : Ep7 89 = .bool (!t0.fodd) := Eq.mp (by kernel_rfl) q3h
      replace q3i : Ep7 93 = .pointer (some ⟨q3, 3, none⟩) := Eq.mp (by kernel_rfl) q3i
      replace hS : St w0 w (cells q3 150 [.slice q2 t0.frows.length c_t0_0, .bool t0.flast.fneg, .slice q0c t0.flast.fmag.length c_t0_2, .bool t0.fodd, .int .i64 t0.frank] :: l') := Eq.mp (by kernel_rfl) hS
      refine o_store1 (v := .bool (!t0.fodd)) one_4 q3i q3h rfl rfl hS (fun w' hS => ?_)
      refine x_done <| ?_
      refine x_fin ⟨⟨undef, rfl⟩, trivial, ?_⟩
      exact Eq.mp (by kernel_rfl) hS
    intro Ep7 w' hE7 hF_ hS
    obtain ⟨q4n, q4o, q4p, q4u, q4v, q4q, q4r, q4s, q4w, q4t, q2r, q2s, q3d, q3f, q2t, q2u, q2v, q2z, q2w, q2x, q2y, q30, q31, q1e, q32, q33, q34, q35, q36, q37, q1f, q38, q39, q3a, q3b, q3h, q3c, q3e, q3g, q3i, -⟩ := hF_
    replace q4n : Ep7 54 = .pointer (some ⟨q3, 0, none⟩) := Eq.mp (by kernel_rfl) q4n
    replace q4o : Ep7 55 = .pointer (some ⟨q3, 0, none⟩) := Eq.mp (by kernel_rfl) q4o
    replace q4p : Ep7 56 = .pointer (some ⟨q3, 0, none⟩) := Eq.mp (by kernel_rfl) q4p
    replace q4u : Ep7 57 = .slice q2 t0.frows.length c_t0_0 := Eq.mp (by kernel_rfl) q4u
    replace q4v : Ep7 58 = .int .i64 q0w := Eq.mp (by kernel_rfl) q4v
    replace q4q : Ep7 59 = .pointer (some ⟨q3, 0, none⟩) := Eq.mp (by kernel_rfl) q4q
    replace q4r : Ep7 60 = .pointer (some ⟨q3, 0, none⟩) := Eq.mp (by kernel_rfl) q4r
    replace q4s : Ep7 61 = .pointer (some ⟨q3, 0, none⟩) := Eq.mp (by kernel_rfl) q4s
    replace q4w : Ep7 62 = .slice q2 t0.frows.length c_t0_0 := Eq.mp (by kernel_rfl) q4w
    replace q4t : Ep7 63 = .pointer (some ⟨q3, 0, none⟩) := Eq.mp (by kernel_rfl) q4t
    replace q2r : Ep7 64 = .pointer (some ⟨q3, 0, none⟩) := Eq.mp (by kernel_rfl) q2r
    replace q2s : Ep7 65 = .pointer (some ⟨q3, 4, none⟩) := Eq.mp (by kernel_rfl) q2s
    replace q3d : Ep7 66 = .int .i64 t0.frank := Eq.mp (by kernel_rfl) q3d
    replace q3f : Ep7 67 = .pointer (some ⟨q3, 0, none⟩) := Eq.mp (by kernel_rfl) q3f
    replace q2t : Ep7 68 = .pointer (some ⟨q3, 0, none⟩) := Eq.mp (by kernel_rfl) q2t
    replace q2u : Ep7 69 = .pointer (some ⟨q3, 0, none⟩) := Eq.mp (by kernel_rfl) q2u
    replace q2v : Ep7 70 = .pointer (some ⟨q3, 0, none⟩) := Eq.mp (by kernel_rfl) q2v
    replace q2z : Ep7 71 = .slice q2 t0.frows.length c_t0_0 := Eq.mp (by kernel_rfl) q2z
    replace q2w : Ep7 72 = .pointer (some ⟨q3, 0, none⟩) := Eq.mp (by kernel_rfl) q2w
    replace q2x : Ep7 73 = .pointer (some ⟨q3, 0, none⟩) := Eq.mp (by kernel_rfl) q2x
    replace q2y : Ep7 74 = .pointer (some ⟨q3, 4, none⟩) := Eq.mp (by kernel_rfl) q2y
    replace q30 : Ep7 75 = .int .i64 t0.frank := Eq.mp (by kernel_rfl) q30
    replace q31 : Ep7 76 = .pointer (some ((adr q2).add (t0.frank.toNat * (RpSl R_exact_Int).sz))) := Eq.mp (by kernel_rfl) q31
    replace q1e : Ep7 77 = .slice (adOf (Ep7 77)) q1b.length (capOf (Ep7 77)) ∧ RdS R_exact_Int ρ (adOf (Ep7 77)) q1b.length (capOf (Ep7 77)) q1b := Eq.mp (by kernel_rfl) q1e
    have q_ := id q1e; obtain ⟨-, q6i⟩ := q_
    replace q32 : Ep7 78 = .pointer (some ⟨q3, 0, none⟩) := Eq.mp (by kernel_rfl) q32
    replace q33 : Ep7 79 = .pointer (some ⟨q3, 0, none⟩) := Eq.mp (by kernel_rfl) q33
    replace q34 : Ep7 80 = .pointer (some ⟨q3, 0, none⟩) := Eq.mp (by kernel_rfl) q34
    replace q35 : Ep7 81 = .slice q2 t0.frows.length c_t0_0 := Eq.mp (by kernel_rfl) q35
    replace q36 : Ep7 82 = .int .i64 q0w := Eq.mp (by kernel_rfl) q36
    replace q37 : Ep7 83 = .pointer (some ((adr q2).add (q0w.toNat * (RpSl R_exact_Int).sz))) := Eq.mp (by kernel_rfl) q37
    replace q1f : Ep7 84 = .slice (adOf (Ep7 84)) q1c.length (capOf (Ep7 84)) ∧ RdS R_exact_Int ρ (adOf (Ep7 84)) q1c.length (capOf (Ep7 84)) q1c := Eq.mp (by kernel_rfl) q1f
    have q_ := id q1f; obtain ⟨-, q6j⟩ := q_
    replace q38 : Ep7 85 = .pointer (some ⟨q3, 0, none⟩) := Eq.mp (by kernel_rfl) q38
    replace q39 : Ep7 86 = .pointer (some ⟨q3, 0, none⟩) := Eq.mp (by kernel_rfl) q39
    replace q3a : Ep7 87 = .pointer (some ⟨q3, 3, none⟩) := Eq.mp (by kernel_rfl) q3a
    replace q3b : Ep7 88 = .bool t0.fodd := Eq.mp (by kernel_rfl) q3b
    replace q3h : Ep7 89 = .bool (!t0.fodd) := Eq.mp (by kernel_rfl) q3h
    replace q3c : Ep7 90 = .pointer (some ((adr q2).add (q0w.toNat * (RpSl R_exact_Int).sz))) := Eq.mp (by kernel_rfl) q3c
    replace q3e : Ep7 91 = .pointer (some ((adr q2).add (t0.frank.toNat * (RpSl R_exact_Int).sz))) := Eq.mp (by kernel_rfl) q3e
    replace q3g : Ep7 92 = .pointer (some ⟨q3, 0, none⟩) := Eq.mp (by kernel_rfl) q3g
    replace q3i : Ep7 93 = .pointer (some ⟨q3, 3, none⟩) := Eq.mp (by kernel_rfl) q3i
    replace hS : St w0 w' (ro ρ :: bunA (fun (q0u : List Value) => RepL (RpSl R_exact_Int) ρ q5b q0u) (fun (q0u : List Value) => [vec 155 (RpSl R_exact_Int).sz (.slice q2 t0.frows.length c_t0_0) t0.frows.length q0u]) :: cells q3 150 [.slice q2 t0.frows.length c_t0_0, .bool t0.flast.fneg, .slice q0c t0.flast.fmag.length c_t0_2, .bool (!t0.fodd), .int .i64 t0.frank] :: (l)) := Eq.mp (by kernel_rfl) hS
    have q_ := St.unbun (hS.pull 1); obtain ⟨q0u, q5f, hS⟩ := q_
    exact x_inv ⟨q0u, q5b, !t0.fodd, (Option.some.inj (show some _ = some _ from hFc53)), ((hE7 0 rfl).trans q19), ((hE7 1 rfl).trans q7h), ((hE7 2 rfl).trans q7i), q5f, (((hS.pull 1).pull 1).pull 2)⟩
   ·replace hFc53 := it_f hc53 hFc53
    refine x_skip <| ?_
    exact x_inv ⟨q0t, t0.frows, t0.fodd, (Option.some.inj (show some _ = some _ from hFc53)), q19, q7h, q7i, q16, (((hS.pull 2).pull 2).pull 2)⟩
  rintro E w ⟨q1a, q1r, q0i, rfl, q4c, q8j, q8k, q1v, hS⟩
  replace hF := ck_s hF; obtain ⟨q7j, hF⟩ := hF
  replace hF := lv_s hF; obtain ⟨q1h, q9d, hF⟩ := hF
  have q_ := q1v.get q7j; obtain ⟨qab, q7k, q9e⟩ := q_
  rw [← q9d] at q7k
  obtain ⟨q17, qad, q1w, rfl, q42⟩ := q7k
  have e_ := q42.n; subst e_
  refine x_seq <| x_still mixed (by kernel_rfl) hS <| q (yl_move q4c) <| q (yl_nilCheck rfl) <|
   q (yl_field0 fld_150_0 rfl) <| qa (fun w' hS => at_load one_148 rfl (hS.cell rfl)) <| q (yl_move q4c) <| q (yl_nilCheck rfl) <|
   q (yl_field0 fld_150_3 rfl) <| qa (fun w' hS => at_load one_3 rfl (hS.cell rfl)) <| q (yix_o sl_148 rfl rfl (hS.pull 1) q1v q7j) <| qa (fun w' hS => at_load one_155 rfl (EltV.ld (m := 0) q9e (hS.pull 1) rfl)) <|
   q (yl_assign rfl) <|
   q_done fun w' hS => ?_
  refine x_seq <| x_seq <| x_region <| p (yl_move q4c) <|
   p (yl_nilCheck rfl) <| p (yl_field0 fld_150_0 rfl) <| pa (at_load one_148 rfl (hS.cell rfl)) <| p (yl_len_slice usl_148 rfl) <|
   p (yl_move rfl) <| x_done <| ?_
  replace hF := bd_s hF; obtain ⟨oL10, hLL10, hF⟩ := hF
  refine x_join (fun E w => ∃ (q4d : Heap) (q1d : List Value) (q2e : List (List T_exact_Int)), q2e = oL10 ∧ Le ρ q4d ∧ E 0 = .pointer (some ⟨q3, 0, none⟩) ∧ E 1 = .int .i64 c1 ∧ E 8 = .slice q17 q1h.length q1w ∧ RepL (RpSl R_exact_Int) q4d q2e q1d ∧ St w0 w (cells q3 150 [.slice q2 t0.frows.length c_t0_0, .bool t0.flast.fneg, .slice q0c t0.flast.fmag.length c_t0_2, .bool q0i, .int .i64 t0.frank] :: vec 155 (RpSl R_exact_Int).sz (.slice q2 t0.frows.length c_t0_0) t0.frows.length q1d :: ro q4d :: l)) ?_ ?_
  ·refine x_block ?_
   refine x_loop (fun k_ E w => ∃ (q0q : Heap) (q0m : List Value) (q1l : List (List T_exact_Int)) (q7 : Int), lp (P_exact_table_pivot_L10 t0 c1 all2 q1h) k_ (q1l, q7) = some oL10 ∧ Le ρ q0q ∧ E 0 = .pointer (some ⟨q3, 0, none⟩) ∧ E 1 = .int .i64 c1 ∧ E 2 = .bool all2 ∧ E 8 = .slice q17 q1h.length q1w ∧ E 107 = .slice q2 t0.frows.length c_t0_0 ∧ E 108 = .int .i64 (t0.frows.length : Int) ∧ E 109 = .int .i64 q7 ∧ RepL (RpSl R_exact_Int) q0q q1l q0m ∧ St w0 w (cells q3 150 [.slice q2 t0.frows.length c_t0_0, .bool t0.flast.fneg, .slice q0c t0.flast.fmag.length c_t0_2, .bool q0i, .int .i64 t0.frank] :: vec 155 (RpSl R_exact_Int).sz (.slice q2 t0.frows.length c_t0_0) t0.frows.length q0m :: ro q0q :: l)) fuel ⟨ρ, q1a, q1r, 0, hLL10, (Le.refl _), q4c, q8j, q8k, rfl, rfl, rfl, rfl, q1v, (((hS.pull 2).pull 2).pull 2)⟩ ?_
   rintro kL10 E w ⟨q0q, q0m, q1l, q7, hLL10, q0x, q25, q4x, q4y, q4z, q2o, q2p, q1m, q13, hS⟩
   replace hLL10 := lp_s hLL10; obtain ⟨kL10, obL10, rfl, hFL10, hLL10⟩ := hLL10
   refine x_seq <| x_region <| p (yl_lss q1m q2p) <| x_done <|
    x_seq <|
    x_cond_p (q7 < (t0.frows.length : Int)) rfl (fun hc110 => ?_) (fun hc110 => ?_)
   ·replace hFL10 := it_t hc110 hFL10
    refine x_skip <| x_seq <| ?_
    replace hFL10 := bd_s hFL10; obtain ⟨ob3, hFb3, hFL10⟩ := hFL10
    refine x_join (fun E w => ∃ (q5g : Heap) (q1s : List Value) (q3j : List (List T_exact_Int)), q3j = ob3 ∧ Le q0q q5g ∧ E 0 = .pointer (some ⟨q3, 0, none⟩) ∧ E 1 = .int .i64 c1 ∧ E 2 = .bool all2 ∧ E 8 = .slice q17 q1h.length q1w ∧ E 107 = .slice q2 t0.frows.length c_t0_0 ∧ E 108 = .int .i64 (t0.frows.length : Int) ∧ E 109 = .int .i64 q7 ∧ RepL (RpSl R_exact_Int) q5g q3j q1s ∧ St w0 w (cells q3 150 [.slice q2 t0.frows.length c_t0_0, .bool t0.flast.fneg, .slice q0c t0.flast.fmag.length c_t0_2, .bool q0i, .int .i64 t0.frank] :: vec 155 (RpSl R_exact_Int).sz (.slice q2 t0.frows.length c_t0_0) t0.frows.length q1s :: ro q5g :: l)) ?_ ?_
    ·replace hFb3 := ck_s hFb3; obtain ⟨q6k, hFb3⟩ := hFb3
     replace hFb3 := lv_s hFb3; obtain ⟨q1i, q8l, hFb3⟩ := hFb3
     have q_ := q13.get q6k; obtain ⟨qa0, q6l, q8m⟩ := q_
     rw [← q8l] at q6l
     obtain ⟨q18, qac, q2f, rfl, q4e⟩ := q6l
     have e_ := q4e.n; subst e_
     replace hFb3 := lv_s hFb3; obtain ⟨x130, hx130, hFb3⟩ := hFb3
     replace hFb3 := lv_s hFb3; obtain ⟨x131, hx131, hFb3⟩ := hFb3
     refine x_block <| x_seq <| x_region <| p (yl_move q1m) <|
      p (yix_o sl_148 q2o q1m (hS.pull 1) q13 q6k) <| pa (at_load one_155 rfl (EltV.ld (m := 0) q8m (hS.pull 1) rfl)) <| p (yl_assign rfl) <| p (yl_assign rfl) <|
      x_done <| x_seq <| x_seq <| x_region <|
      p (yl_move rfl) <| p (yl_move q25) <| p (yl_nilCheck rfl) <| p (yl_field0 fld_150_3 rfl) <|
      pa (at_load one_3 rfl (hS.cell rfl)) <| p (yl_eql rfl rfl) <| p (yl_move rfl) <| pg (v := .int .i64 q7) 120 (c := !(decide (q7 = t0.frank))) (says_f _) (fun hq => Yl.at (yl_move rfl)) <|
      pg (v := .pointer (some ⟨q3, 0, none⟩)) 120 (c := !(decide (q7 = t0.frank))) (says_f _) (fun hq => Yl.at (yl_move q25)) <| pg (v := .pointer (some ⟨q3, 0, none⟩)) 120 (c := !(decide (q7 = t0.frank))) (says_f _) (fun hq => Yl.at (yl_nilCheck (cv hq))) <| pg (v := .pointer (some ⟨q3, 4, none⟩)) 120 (c := !(decide (q7 = t0.frank))) (says_f _) (fun hq => Yl.at (yl_field0 fld_150_3 (cv hq))) <| pg (v := .int .i64 t0.frank) 120 (c := !(decide (q7 = t0.frank))) (says_f _) (fun hq => at_load one_3 (cv hq) (hS.cell rfl)) <|
      pg (v := .bool (decide (q7 < t0.frank))) 120 (c := !(decide (q7 = t0.frank))) (says_f _) (fun hq => Yl.at (yl_lss (cv hq) (cv hq))) <| pg (v := .bool (decide (q7 < t0.frank))) 120 (c := !(decide (q7 = t0.frank))) (says_f _) (fun hq => Yl.at (yl_move (cv hq))) <| pg (v := .bool all2) 127 (c := (!(decide (q7 = t0.frank))) && (decide (q7 < t0.frank))) (says_ift _ _) (fun hq => Yl.at (yl_move q4y)) <| pg (v := .bool (!all2)) 127 (c := (!(decide (q7 = t0.frank))) && (decide (q7 < t0.frank))) (says_ift _ _) (fun hq => Yl.at (yl_not (cv hq))) <|
      pg (v := .bool x130) 120 (c := !(decide (q7 = t0.frank))) (says_f _) (fun hq => Yl.at (yand' (cv hq) (fun hc => (cv (and_i hq hc))) rfl hx130)) <| p (yor' rfl rfl (fun hc => (cv (t_not hc))) hx131) <| x_done <|
      x_cond (t := x131) rfl (fun hc131 => ?_) (fun hc131 => ?_)
     ·replace hFb3 := it_t hc131 hFb3
      refine x_exitTo _ rfl <| ?_
      exact x_inv ⟨q0q, q0m, q1l, (Option.some.inj (show some _ = some _ from hFb3)), (Le.refl _), q25, q4x, q4y, q4z, q2o, q2p, q1m, q13, (((hS.pull 2).pull 2).pull 2)⟩
     ·replace hFb3 := it_bf hc131 hFb3
      refine x_skip <| x_seq <| x_region <| p (yl_move rfl) <|
       p (yl_len_slice usl_155 rfl) <| ?_
      replace hFb3 := ck_s hFb3; obtain ⟨q8n, hFb3⟩ := hFb3
      replace hFb3 := lv_s hFb3; obtain ⟨q9, q8o, hFb3⟩ := hFb3
      refine o_mk sl_155 zero_79 (show R_exact_Int.ok q0q _ (T_exact_Int.mk false []) from ⟨_, _, _, rfl, (RdS.nil (A := none) (c := 0))⟩) rfl rfl q8n (by decide) q8o hS (fun A134 cs134 w' hr134 hS => ?_)
      refine p (yl_assign rfl) <| x_done <| x_seq <| x_seq <|
       x_region <| p (yl_move rfl) <| p (yl_len_slice usl_155 rfl) <| p (yl_move rfl) <|
       x_done <| ?_
      replace hFb3 := bd_s hFb3; obtain ⟨oL15, hLL15, hFb3⟩ := hFb3
      refine x_join (fun E w => ∃ (q5c : Heap) (q1p : List Value) (q1t : List T_exact_Int), q1t = oL15 ∧ Le q0q q5c ∧ E 0 = .pointer (some ⟨q3, 0, none⟩) ∧ E 1 = .int .i64 c1 ∧ E 2 = .bool all2 ∧ E 8 = .slice q17 q1h.length q1w ∧ E 9 = .int .i64 q7 ∧ E 11 = .slice A134 q9.length q9.length ∧ E 107 = .slice q2 t0.frows.length c_t0_0 ∧ E 108 = .int .i64 (t0.frows.length : Int) ∧ E 109 = .int .i64 q7 ∧ RepL R_exact_Int q5c q1t q1p ∧ St w0 w (cells q3 150 [.slice q2 t0.frows.length c_t0_0, .bool t0.flast.fneg, .slice q0c t0.flast.fmag.length c_t0_2, .bool q0i, .int .i64 t0.frank] :: vec 79 R_exact_Int.sz (.slice A134 q9.length q9.length) q9.length q1p :: vec 155 (RpSl R_exact_Int).sz (.slice q2 t0.frows.length c_t0_0) t0.frows.length q0m :: ro q5c :: l)) ?_ ?_
      ·refine x_block ?_
       refine x_loop (fun k_ E w => ∃ (q6 : Heap) (q0j : List Value) (q1j : List T_exact_Int) (q0a : Int), lp (P_exact_table_pivot_L15 t0 c1 q1h q1i) k_ (q1j, q0a) = some oL15 ∧ Le q0q q6 ∧ E 0 = .pointer (some ⟨q3, 0, none⟩) ∧ E 1 = .int .i64 c1 ∧ E 2 = .bool all2 ∧ E 8 = .slice q17 q1h.length q1w ∧ E 9 = .int .i64 q7 ∧ E 10 = .slice q18 q1i.length q2f ∧ E 11 = .slice A134 q9.length q9.length ∧ E 107 = .slice q2 t0.frows.length c_t0_0 ∧ E 108 = .int .i64 (t0.frows.length : Int) ∧ E 109 = .int .i64 q7 ∧ E 136 = .int .i64 (q1i.length : Int) ∧ E 137 = .int .i64 q0a ∧ RepL R_exact_Int q6 q1j q0j ∧ St w0 w (cells q3 150 [.slice q2 t0.frows.length c_t0_0, .bool t0.flast.fneg, .slice q0c t0.flast.fmag.length c_t0_2, .bool q0i, .int .i64 t0.frank] :: vec 79 R_exact_Int.sz (.slice A134 q9.length q9.length) q9.length q0j :: vec 155 (RpSl R_exact_Int).sz (.slice q2 t0.frows.length c_t0_0) t0.frows.length q0m :: ro q6 :: l)) fuel ⟨q0q, cs134, q9, 0, hLL15, (Le.refl _), q25, q4x, q4y, q4z, rfl, rfl, rfl, q2o, q2p, q1m, rfl, rfl, hr134, ((((hS.pull 3).pull 3).pull 2).pull 3)⟩ ?_
       rintro kL15 E w ⟨q6, q0j, q1j, q0a, hLL15, q0g, q50, q3k, q5r, q3l, q5s, q43, q44, q55, q56, q57, q58, q2q, q1q, hS⟩
       replace hLL15 := lp_s hLL15; obtain ⟨kL15, obL15, rfl, hFL15, hLL15⟩ := hLL15
       refine x_seq <| x_region <| p (yl_lss q2q q58) <| x_done <|
        x_seq <|
        x_cond_p (q0a < (q1i.length : Int)) rfl (fun hc138 => ?_) (fun hc138 => ?_)
       ·replace hFL15 := it_t hc138 hFL15
        refine x_skip <| x_seq <| x_block <| x_seq <|
         x_region <| p (yl_move q2q) <| p (yl_assign rfl) <| x_done <|
         x_seq <| ?_
        replace hFL15 := ck_s hFL15; obtain ⟨q6m, hFL15⟩ := hFL15
        replace hFL15 := lv_s hFL15; obtain ⟨q14, q8p, hFL15⟩ := hFL15
        replace hFL15 := ck_s hFL15; obtain ⟨q6n, hFL15⟩ := hFL15
        replace hFL15 := lv_s hFL15; obtain ⟨q15, q8q, hFL15⟩ := hFL15
        replace hFL15 := bd_s hFL15; obtain ⟨q0v, q8r, hFL15⟩ := hFL15
        replace hFL15 := ck_s hFL15; obtain ⟨q5t, hFL15⟩ := hFL15
        replace hFL15 := lv_s hFL15; obtain ⟨q0y, q7q, hFL15⟩ := hFL15
        replace hFL15 := ck_s hFL15; obtain ⟨q5u, hFL15⟩ := hFL15
        replace hFL15 := lv_s hFL15; obtain ⟨q0z, q7r, hFL15⟩ := hFL15
        replace hFL15 := bd_s hFL15; obtain ⟨q0d, q7s, hFL15⟩ := hFL15
        replace hFL15 := bd_s hFL15; obtain ⟨q0o, q7t, hFL15⟩ := hFL15
        replace hFL15 := bd_s hFL15; obtain ⟨q0b, q7u, hFL15⟩ := hFL15
        refine x_par (w0 := w0) [⟨[], [], [140], [], [], []⟩, ⟨[], [], [141], [], [], []⟩, ⟨[0, 1], [0, 1], [142], [0], [], []⟩, ⟨[0, 1, 2], [2], [143], [0], [], []⟩, ⟨[], [], [144], [], [], []⟩, ⟨[], [], [145], [], [], []⟩, ⟨[4, 5], [4, 5], [146], [0], [], []⟩, ⟨[4, 5, 6], [6], [147], [0], [], []⟩, ⟨[0, 1, 2, 3, 4, 5, 6, 7], [3, 7], [148], [0], [], [1]⟩, ⟨[], [], [149], [], [], []⟩, ⟨[], [], [150], [], [], []⟩, ⟨[9, 10], [9, 10], [151], [0], [], []⟩, ⟨[9, 10, 11], [11], [152], [0], [], []⟩, ⟨[], [], [153], [], [], []⟩, ⟨[], [], [154], [], [], []⟩, ⟨[13, 14], [13, 14], [155], [0], [], []⟩, ⟨[13, 14, 15], [15], [156], [0], [], []⟩, ⟨[0, 1, 2, 3, 4, 5, 6, 7, 8, 9, 10, 11, 12, 13, 14, 15, 16], [12, 16], [157], [0], [], [2]⟩, ⟨[0, 1, 2, 3, 4, 5, 6, 7, 8, 9, 10, 11, 12, 13, 14, 15, 16, 17], [17], [158], [0], [2], [3]⟩, ⟨[0, 1, 2, 3, 4, 5, 6, 7, 8, 9, 10, 11, 12, 13, 14, 15, 16, 17, 18], [8, 17, 18], [159], [0], [1, 3], [4]⟩, ⟨[], [], [13], [], [], [5]⟩, ⟨[0, 1, 2, 3, 4, 5, 6, 7, 8, 9, 10, 11, 12, 13, 14, 15, 16, 17, 18, 19, 20], [19, 20], [], [], [5], [6]⟩] [⟨none, none, []⟩, ⟨(some 8), (some 19), [148]⟩, ⟨(some 17), (some 18), [157]⟩, ⟨(some 18), (some 19), [157, 158]⟩, ⟨(some 19), none, [148, 157, 158, 159]⟩, ⟨(some 20), (some 21), [13]⟩, ⟨(some 21), none, [13, 159]⟩] [13, 140, 141, 142, 143, 144, 145, 146, 147, 148, 149, 150, 151, 152, 153, 154, 155, 156, 157, 158, 159] [0] [0, 4, 6] [0, 1, 2, 3, 4, 5, 6, 7, 8, 9, 10, 11, 12, 13, 14, 15, 16, 17, 18, 19, 20] [fun Ep17 => Ep17 140 = .slice q17 q1h.length q1w, fun Ep17 => Ep17 141 = .int .i64 c1, fun Ep17 => Ep17 142 = .pointer (some ((adr q17).add (c1.toNat * R_exact_Int.sz))), fun Ep17 => Ep17 143 = .agg #[.bool q14.fneg, .slice (adOf (partOf 1 (Ep17 143))) q14.fmag.length (capOf (partOf 1 (Ep17 143)))] ∧ RdS (RpI .u32) ρ (adOf (partOf 1 (Ep17 143))) q14.fmag.length (capOf (partOf 1 (Ep17 143))) q14.fmag, fun Ep17 => Ep17 144 = .slice q18 q1i.length q2f, fun Ep17 => Ep17 145 = .int .i64 q0a, fun Ep17 => Ep17 146 = .pointer (some ((adr q18).add (q0a.toNat * R_exact_Int.sz))), fun Ep17 => Ep17 147 = .agg #[.bool q15.fneg, .slice (adOf (partOf 1 (Ep17 147))) q15.fmag.length (capOf (partOf 1 (Ep17 147)))] ∧ RdS (RpI .u32) q0q (adOf (partOf 1 (Ep17 147))) q15.fmag.length (capOf (partOf 1 (Ep17 147))) q15.fmag, fun Ep17 => Ep17 148 = .agg #[.bool q0v.fneg, .slice (adOf (partOf 1 (Ep17 148))) q0v.fmag.length (capOf (partOf 1 (Ep17 148)))], fun Ep17 => Ep17 149 = .slice q18 q1i.length q2f, fun Ep17 => Ep17 150 = .int .i64 c1, fun Ep17 => Ep17 151 = .pointer (some ((adr q18).add (c1.toNat * R_exact_Int.sz))), fun Ep17 => Ep17 152 = .agg #[.bool q0y.fneg, .slice (adOf (partOf 1 (Ep17 152))) q0y.fmag.length (capOf (partOf 1 (Ep17 152)))] ∧ RdS (RpI .u32) q0q (adOf (partOf 1 (Ep17 152))) q0y.fmag.length (capOf (partOf 1 (Ep17 152))) q0y.fmag, fun Ep17 => Ep17 153 = .slice q17 q1h.length q1w, fun Ep17 => Ep17 154 = .int .i64 q0a, fun Ep17 => Ep17 155 = .pointer (some ((adr q17).add (q0a.toNat * R_exact_Int.sz))), fun Ep17 => Ep17 156 = .agg #[.bool q0z.fneg, .slice (adOf (partOf 1 (Ep17 156))) q0z.fmag.length (capOf (partOf 1 (Ep17 156)))] ∧ RdS (RpI .u32) ρ (adOf (partOf 1 (Ep17 156))) q0z.fmag.length (capOf (partOf 1 (Ep17 156))) q0z.fmag, fun Ep17 => Ep17 157 = .agg #[.bool q0d.fneg, .slice (adOf (partOf 1 (Ep17 157))) q0d.fmag.length (capOf (partOf 1 (Ep17 157)))], fun Ep17 => Ep17 158 = .agg #[.bool q0o.fneg, .slice (adOf (partOf 1 (Ep17 158))) q0o.fmag.length (capOf (partOf 1 (Ep17 158)))], fun Ep17 => Ep17 159 = .agg #[.bool q0b.fneg, .slice (adOf (partOf 1 (Ep17 159))) q0b.fmag.length (capOf (partOf 1 (Ep17 159)))], fun Ep17 => Ep17 13 = .pointer (some ⟨(blkOf (Ep17 13)), 0, none⟩), fun Ep17 => True] [fun Ep17 => ro q6, fun Ep17 => bunA (fun (q0k : Heap) => Le q6 q0k ∧ RdS (RpI .u32) q0k (adOf (partOf 1 (Ep17 148))) q0v.fmag.length (capOf (partOf 1 (Ep17 148))) q0v.fmag) (fun (q0k : Heap) => [roD q6 q0k]), fun Ep17 => bunA (fun (q5 : Heap) => Le q6 q5 ∧ RdS (RpI .u32) q5 (adOf (partOf 1 (Ep17 157))) q0d.fmag.length (capOf (partOf 1 (Ep17 157))) q0d.fmag) (fun (q5 : Heap) => [roD q6 q5]), fun Ep17 => bunA (fun (q5 : Heap) => Le q6 q5 ∧ RdS (RpI .u32) q5 (adOf (partOf 1 (Ep17 157))) q0d.fmag.length (capOf (partOf 1 (Ep17 157))) q0d.fmag ∧ RdS (RpI .u32) q5 (adOf (partOf 1 (Ep17 158))) q0o.fmag.length (capOf (partOf 1 (Ep17 158))) q0o.fmag) (fun (q5 : Heap) => [roD q6 q5]), fun Ep17 => bunA (fun (q8 : Heap) => Le q6 q8 ∧ RdS (RpI .u32) q8 (adOf (partOf 1 (Ep17 148))) q0v.fmag.length (capOf (partOf 1 (Ep17 148))) q0v.fmag ∧ RdS (RpI .u32) q8 (adOf (partOf 1 (Ep17 157))) q0d.fmag.length (capOf (partOf 1 (Ep17 157))) q0d.fmag ∧ RdS (RpI .u32) q8 (adOf (partOf 1 (Ep17 158))) q0o.fmag.length (capOf (partOf 1 (Ep17 158))) q0o.fmag ∧ RdS (RpI .u32) q8 (adOf (partOf 1 (Ep17 159))) q0b.fmag.length (capOf (partOf 1 (Ep17 159))) q0b.fmag) (fun (q8 : Heap) => [roD q6 q8]), fun Ep17 => cells (blkOf (Ep17 13)) 79 [.bool false, .slice none 0 0], fun Ep17 => cells (blkOf (Ep17 13)) 79 [.bool q0b.fneg, .slice (adOf (partOf 1 (Ep17 159))) q0b.fmag.length (capOf (partOf 1 (Ep17 159)))]] mixed (by kernel_rfl) (hS.pull 3) ?_ ?_
        ·refine ⟨?_, ?_, ?_, ?_, ?_, ?_, ?_, ?_, ?_, ?_, ?_, ?_, ?_, ?_, ?_, ?_, ?_, ?_, ?_, ?_, ?_, ?_, trivial⟩
         ·intro Ep17 w l' hE17 hO17 hF_ hS
          refine p (yl_move ((hE17 8 rfl).trans q3l)) <| x_done <| ?_
          refine x_fin ⟨⟨_, rfl⟩, rfl, ?_⟩
          exact Eq.mp (by kernel_rfl) hS
         ·intro Ep17 w l' hE17 hO17 hF_ hS
          refine p (yl_move ((hE17 1 rfl).trans q3k)) <| x_done <| ?_
          refine x_fin ⟨⟨_, rfl⟩, rfl, ?_⟩
          exact Eq.mp (by kernel_rfl) hS
         ·intro Ep17 w l' hE17 hO17 hF_ hS
          obtain ⟨q3m, q3n, -⟩ := hF_
          replace q3m : Ep17 140 = .slice q17 q1h.length q1w := Eq.mp (by kernel_rfl) q3m
          replace q3n : Ep17 141 = .int .i64 c1 := Eq.mp (by kernel_rfl) q3n
          replace hS : St w0 w (ro q6 :: l') := Eq.mp (by kernel_rfl) hS
          refine p (yix_f sl_155 q3m q3n (q42.le (q0x.trans q0g)) q6m) <| x_done <| ?_
          refine x_fin ⟨⟨_, rfl⟩, rfl, ?_⟩
          exact Eq.mp (by kernel_rfl) hS
         ·intro Ep17 w l' hE17 hO17 hF_ hS
          obtain ⟨q3o, -⟩ := hF_
          replace q3o : Ep17 142 = .pointer (some ((adr q17).add (c1.toNat * R_exact_Int.sz))) := Eq.mp (by kernel_rfl) q3o
          replace hS : St w0 w (ro q6 :: l') := Eq.mp (by kernel_rfl) hS
          have q_ := q42.get q6m; obtain ⟨qa1, q6o, q8s⟩ := q_
          rw [← q8p] at q6o
          obtain ⟨q7v, q9r, q7w, rfl, q5v⟩ := q6o
          have e_ := q5v.n; subst e_
          refine pa (v := .agg #[.bool q14.fneg, .slice q7v q14.fmag.length q7w]) (at_loadAgg agg_79 q3o rfl (Elt.every (Elt.le q8s (q0x.trans q0g)) hS)) <| x_done <| ?_
          refine x_fin ⟨⟨_, rfl⟩, ⟨rfl, q5v⟩, ?_⟩
          exact Eq.mp (by kernel_rfl) hS
         ·intro Ep17 w l' hE17 hO17 hF_ hS
          refine p (yl_move ((hE17 10 rfl).trans q43)) <| x_done <| ?_
          refine x_fin ⟨⟨_, rfl⟩, rfl, ?_⟩
          exact Eq.mp (by kernel_rfl) hS
         ·intro Ep17 w l' hE17 hO17 hF_ hS
          refine p (yl_move (hE17 12 rfl)) <| x_done <| ?_
          refine x_fin ⟨⟨_, rfl⟩, rfl, ?_⟩
          exact Eq.mp (by kernel_rfl) hS
         ·intro Ep17 w l' hE17 hO17 hF_ hS
          obtain ⟨q3p, q3q, -⟩ := hF_
          replace q3p : Ep17 144 = .slice q18 q1i.length q2f := Eq.mp (by kernel_rfl) q3p
          replace q3q : Ep17 145 = .int .i64 q0a := Eq.mp (by kernel_rfl) q3q
          replace hS : St w0 w (ro q6 :: l') := Eq.mp (by kernel_rfl) hS
          refine p (yix_f sl_155 q3p q3q (q4e.le q0g) q6n) <| x_done <| ?_
          refine x_fin ⟨⟨_, rfl⟩, rfl, ?_⟩
          exact Eq.mp (by kernel_rfl) hS
         ·intro Ep17 w l' hE17 hO17 hF_ hS
          obtain ⟨q3r, -⟩ := hF_
          replace q3r : Ep17 146 = .pointer (some ((adr q18).add (q0a.toNat * R_exact_Int.sz))) := Eq.mp (by kernel_rfl) q3r
          replace hS : St w0 w (ro q6 :: l') := Eq.mp (by kernel_rfl) hS
          have q_ := q4e.get q6n; obtain ⟨qa2, q6p, q8t⟩ := q_
          rw [← q8q] at q6p
          obtain ⟨q7x, q9s, q7y, rfl, q5w⟩ := q6p
          have e_ := q5w.n; subst e_
          refine pa (v := .agg #[.bool q15.fneg, .slice q7x q15.fmag.length q7y]) (at_loadAgg agg_79 q3r rfl (Elt.every (Elt.le q8t q0g) hS)) <| x_done <| ?_
          refine x_fin ⟨⟨_, rfl⟩, ⟨rfl, q5w⟩, ?_⟩
          exact Eq.mp (by kernel_rfl) hS
         ·intro Ep17 w l' hE17 hO17 hF_ hS
          obtain ⟨q20, q21, -⟩ := hF_
          replace q20 : Ep17 143 = .agg #[.bool q14.fneg, .slice (adOf (partOf 1 (Ep17 143))) q14.fmag.length (capOf (partOf 1 (Ep17 143)))] ∧ RdS (RpI .u32) ρ (adOf (partOf 1 (Ep17 143))) q14.fmag.length (capOf (partOf 1 (Ep17 143))) q14.fmag := Eq.mp (by kernel_rfl) q20
          have q_ := id q20; obtain ⟨-, q6q⟩ := q_
          replace q21 : Ep17 147 = .agg #[.bool q15.fneg, .slice (adOf (partOf 1 (Ep17 147))) q15.fmag.length (capOf (partOf 1 (Ep17 147)))] ∧ RdS (RpI .u32) q0q (adOf (partOf 1 (Ep17 147))) q15.fmag.length (capOf (partOf 1 (Ep17 147))) q15.fmag := Eq.mp (by kernel_rfl) q21
          have q_ := id q21; obtain ⟨-, q6r⟩ := q_
          replace hS : St w0 w (ro q6 :: l') := Eq.mp (by kernel_rfl) hS
          have hcall := c_exact_times q8r (q6q.le (q0x.trans q0g)) (q6r.le q0g) hS
          refine o_cc call_89 (args2 q20.1 q21.1) hcall ?_
          rintro e w' ⟨q0k, q4f, q7l, c_y0_ret_1_17_8, rfl, q5x, q0r, hS⟩
          refine ⟨_, rfl, ?_⟩
          have e_ := q0r.n; subst e_
          refine x_done <| ?_
          refine x_fin ⟨⟨_, rfl⟩, rfl, ?_⟩
          replace hS := St.ro_split q5x hS
          replace hS := St.bun (Φ := (fun (q0k : Heap) => Le q6 q0k ∧ RdS (RpI .u32) q0k q4f q0v.fmag.length c_y0_ret_1_17_8 q0v.fmag)) (L := (fun (q0k : Heap) => [roD q6 q0k])) q0k ⟨q5x, q0r⟩ (hS.pull 1)
          exact Eq.mp (by kernel_rfl) (hS.pull 1)
         ·intro Ep17 w l' hE17 hO17 hF_ hS
          refine p (yl_move ((hE17 10 rfl).trans q43)) <| x_done <| ?_
          refine x_fin ⟨⟨_, rfl⟩, rfl, ?_⟩
          exact Eq.mp (by kernel_rfl) hS
         ·intro Ep17 w l' hE17 hO17 hF_ hS
          refine p (yl_move ((hE17 1 rfl).trans q3k)) <| x_done <| ?_
          refine x_fin ⟨⟨_, rfl⟩, rfl, ?_⟩
          exact Eq.mp (by kernel_rfl) hS
         ·intro Ep17 w l' hE17 hO17 hF_ hS
          obtain ⟨q3s, q26, -⟩ := hF_
          replace q3s : Ep17 149 = .slice q18 q1i.length q2f := Eq.mp (by kernel_rfl) q3s
          replace q26 : Ep17 150 = .int .i64 c1 := Eq.mp (by kernel_rfl) q26
          replace hS : St w0 w (ro q6 :: l') := Eq.mp (by kernel_rfl) hS
          refine p (yix_f sl_155 q3s q26 (q4e.le q0g) q5t) <| x_done <| ?_
          refine x_fin ⟨⟨_, rfl⟩, rfl, ?_⟩
          exact Eq.mp (by kernel_rfl) hS
         ·intro Ep17 w l' hE17 hO17 hF_ hS
          obtain ⟨q27, -⟩ := hF_
          replace q27 : Ep17 151 = .pointer (some ((adr q18).add (c1.toNat * R_exact_Int.sz))) := Eq.mp (by kernel_rfl) q27
          replace hS : St w0 w (ro q6 :: l') := Eq.mp (by kernel_rfl) hS
          have q_ := q4e.get q5t; obtain ⟨q9t, q5y, q7z⟩ := q_
          rw [← q7q] at q5y
          obtain ⟨q71, q9o, q72, rfl, q5h⟩ := q5y
          have e_ := q5h.n; subst e_
          refine pa (v := .agg #[.bool q0y.fneg, .slice q71 q0y.fmag.length q72]) (at_loadAgg agg_79 q27 rfl (Elt.every (Elt.le q7z q0g) hS)) <| x_done <| ?_
          refine x_fin ⟨⟨_, rfl⟩, ⟨rfl, q5h⟩, ?_⟩
          exact Eq.mp (by kernel_rfl) hS
         ·intro Ep17 w l' hE17 hO17 hF_ hS
          refine p (yl_move ((hE17 8 rfl).trans q3l)) <| x_done <| ?_
          refine x_fin ⟨⟨_, rfl⟩, rfl, ?_⟩
          exact Eq.mp (by kernel_rfl) hS
         ·intro Ep17 w l' hE17 hO17 hF_ hS
          refine p (yl_move (hE17 12 rfl)) <| x_done <| ?_
          refine x_fin ⟨⟨_, rfl⟩, rfl, ?_⟩
          exact Eq.mp (by kernel_rfl) hS
         ·intro Ep17 w l' hE17 hO17 hF_ hS
          obtain ⟨q28, q29, -⟩ := hF_
          replace q28 : Ep17 153 = .slice q17 q1h.length q1w := Eq.mp (by kernel_rfl) q28
          replace q29 : Ep17 154 = .int .i64 q0a := Eq.mp (by kernel_rfl) q29
          replace hS : St w0 w (ro q6 :: l') := Eq.mp (by kernel_rfl) hS
          refine p (yix_f sl_155 q28 q29 (q42.le (q0x.trans q0g)) q5u) <| x_done <| ?_
          refine x_fin ⟨⟨_, rfl⟩, rfl, ?_⟩
          exact Eq.mp (by kernel_rfl) hS
         ·intro Ep17 w l' hE17 hO17 hF_ hS
          obtain ⟨q2a, -⟩ := hF_
          replace q2a : Ep17 155 = .pointer (some ((adr q17).add (q0a.toNat * R_exact_Int.sz))) := Eq.mp (by kernel_rfl) q2a
          replace hS : St w0 w (ro q6 :: l') := Eq.mp (by kernel_rfl) hS
          have q_ := q42.get q5u; obtain ⟨q9u, q5z, q80⟩ := q_
          rw [← q7r] at q5z
          obtain ⟨q73, q9p, q74, rfl, q5i⟩ := q5z
          have e_ := q5i.n; subst e_
          refine pa (v := .agg #[.bool q0z.fneg, .slice q73 q0z.fmag.length q74]) (at_loadAgg agg_79 q2a rfl (Elt.every (Elt.le q80 (q0x.trans q0g)) hS)) <| x_done <| ?_
          refine x_fin ⟨⟨_, rfl⟩, ⟨rfl, q5i⟩, ?_⟩
          exact Eq.mp (by kernel_rfl) hS
         ·intro Ep17 w l' hE17 hO17 hF_ hS
          obtain ⟨q1n, q1o, -⟩ := hF_
          replace q1n : Ep17 152 = .agg #[.bool q0y.fneg, .slice (adOf (partOf 1 (Ep17 152))) q0y.fmag.length (capOf (partOf 1 (Ep17 152)))] ∧ RdS (RpI .u32) q0q (adOf (partOf 1 (Ep17 152))) q0y.fmag.length (capOf (partOf 1 (Ep17 152))) q0y.fmag := Eq.mp (by kernel_rfl) q1n
          have q_ := id q1n; obtain ⟨-, q60⟩ := q_
          replace q1o : Ep17 156 = .agg #[.bool q0z.fneg, .slice (adOf (partOf 1 (Ep17 156))) q0z.fmag.length (capOf (partOf 1 (Ep17 156)))] ∧ RdS (RpI .u32) ρ (adOf (partOf 1 (Ep17 156))) q0z.fmag.length (capOf (partOf 1 (Ep17 156))) q0z.fmag := Eq.mp (by kernel_rfl) q1o
          have q_ := id q1o; obtain ⟨-, q61⟩ := q_
          replace hS : St w0 w (ro q6 :: l') := Eq.mp (by kernel_rfl) hS
          have hcall := c_exact_times q7s (q60.le q0g) (q61.le (q0x.trans q0g)) hS
          refine o_cc call_89 (args2 q1n.1 q1o.1) hcall ?_
          rintro e w' ⟨q5, q45, q75, c_y0_ret_1_17_17, rfl, q5j, q0h, hS⟩
          refine ⟨_, rfl, ?_⟩
          have e_ := q0h.n; subst e_
          refine x_done <| ?_
          refine x_fin ⟨⟨_, rfl⟩, rfl, ?_⟩
          replace hS := St.ro_split q5j hS
          replace hS := St.bun (Φ := (fun (q5 : Heap) => Le q6 q5 ∧ RdS (RpI .u32) q5 q45 q0d.fmag.length c_y0_ret_1_17_17 q0d.fmag)) (L := (fun (q5 : Heap) => [roD q6 q5])) q5 ⟨q5j, q0h⟩ (hS.pull 1)
          exact Eq.mp (by kernel_rfl) (hS.pull 1)
         ·intro Ep17 w l' hE17 hO17 hF_ hS
          obtain ⟨q1g, -⟩ := hF_
          replace q1g : Ep17 157 = .agg #[.bool q0d.fneg, .slice (adOf (partOf 1 (Ep17 157))) q0d.fmag.length (capOf (partOf 1 (Ep17 157)))] := Eq.mp (by kernel_rfl) q1g
          replace hS : St w0 w (ro q6 :: bunA (fun (q5 : Heap) => Le q6 q5 ∧ RdS (RpI .u32) q5 (adOf (partOf 1 (Ep17 157))) q0d.fmag.length (capOf (partOf 1 (Ep17 157))) q0d.fmag) (fun (q5 : Heap) => [roD q6 q5]) :: l') := Eq.mp (by kernel_rfl) hS
          have q_ := St.unbun (hS.pull 1); obtain ⟨q5, ⟨q1x, q0h⟩, hS⟩ := q_
          have q_ := St.ro_join (hS.pull 1) (Le.refl _) q1x; obtain ⟨q6s, q4g, q4h, hS, q97⟩ := q_
          have hcall := c_exact_Neg q7t (q0h.le q4h) hS
          refine o_cc call_43 (args1 q1g) hcall ?_
          rintro e w' ⟨q46, q76, c_y0_ret_1_17_18, rfl, q0p, hS⟩
          refine ⟨_, rfl, ?_⟩
          have e_ := q0p.n; subst e_
          refine x_done <| ?_
          refine x_fin ⟨⟨_, rfl⟩, rfl, ?_⟩
          replace hS := St.ro_split q4g hS
          replace hS := St.bun (Φ := (fun (q5 : Heap) => Le q6 q5 ∧ RdS (RpI .u32) q5 (adOf (partOf 1 (Ep17 157))) q0d.fmag.length (capOf (partOf 1 (Ep17 157))) q0d.fmag ∧ RdS (RpI .u32) q5 q46 q0o.fmag.length c_y0_ret_1_17_18 q0o.fmag)) (L := (fun (q5 : Heap) => [roD q6 q5])) q6s ⟨q4g, (q0h.le q4h), q0p⟩ (hS.pull 1)
          exact Eq.mp (by kernel_rfl) (hS.pull 1)
         ·intro Ep17 w l' hE17 hO17 hF_ hS
          obtain ⟨q3t, q1g, q2b, -⟩ := hF_
          replace q3t : Ep17 148 = .agg #[.bool q0v.fneg, .slice (adOf (partOf 1 (Ep17 148))) q0v.fmag.length (capOf (partOf 1 (Ep17 148)))] := Eq.mp (by kernel_rfl) q3t
          replace q1g : Ep17 157 = .agg #[.bool q0d.fneg, .slice (adOf (partOf 1 (Ep17 157))) q0d.fmag.length (capOf (partOf 1 (Ep17 157)))] := Eq.mp (by kernel_rfl) q1g
          replace q2b : Ep17 158 = .agg #[.bool q0o.fneg, .slice (adOf (partOf 1 (Ep17 158))) q0o.fmag.length (capOf (partOf 1 (Ep17 158)))] := Eq.mp (by kernel_rfl) q2b
          replace hS : St w0 w (ro q6 :: bunA (fun (q0k : Heap) => Le q6 q0k ∧ RdS (RpI .u32) q0k (adOf (partOf 1 (Ep17 148))) q0v.fmag.length (capOf (partOf 1 (Ep17 148))) q0v.fmag) (fun (q0k : Heap) => [roD q6 q0k]) :: bunA (fun (q5 : Heap) => Le q6 q5 ∧ RdS (RpI .u32) q5 (adOf (partOf 1 (Ep17 157))) q0d.fmag.length (capOf (partOf 1 (Ep17 157))) q0d.fmag ∧ RdS (RpI .u32) q5 (adOf (partOf 1 (Ep17 158))) q0o.fmag.length (capOf (partOf 1 (Ep17 158))) q0o.fmag) (fun (q5 : Heap) => [roD q6 q5]) :: l') := Eq.mp (by kernel_rfl) hS
          have q_ := St.unbun (hS.pull 1); obtain ⟨q0k, ⟨q5p, q0r⟩, hS⟩ := q_
          have q_ := St.ro_join (hS.pull 1) (Le.refl _) q5p; obtain ⟨q9k, q2g, q4i, hS, q98⟩ := q_
          have q_ := St.unbun (hS.pull 1); obtain ⟨q5, ⟨q1x, q0h, q0p⟩, hS⟩ := q_
          have q_ := St.ro_join (hS.pull 1) q2g q1x; obtain ⟨q9l, q1u, q2h, hS, q99⟩ := q_
          have hcall := c_exact_plus q7u (q0r.le (q4i.trans q1u)) (q0p.le q2h) hS
          refine o_cc call_96 (args2 q3t q2b) hcall ?_
          rintro e w' ⟨q8, q47, q77, c_y0_ret_1_17_19, rfl, q1y, q11, hS⟩
          refine ⟨_, rfl, ?_⟩
          have e_ := q11.n; subst e_
          refine x_done <| ?_
          refine x_fin ⟨⟨_, rfl⟩, rfl, ?_⟩
          replace hS := St.ro_split ((q2g.trans q1u).trans q1y) hS
          replace hS := St.bun (Φ := (fun (q8 : Heap) => Le q6 q8 ∧ RdS (RpI .u32) q8 (adOf (partOf 1 (Ep17 148))) q0v.fmag.length (capOf (partOf 1 (Ep17 148))) q0v.fmag ∧ RdS (RpI .u32) q8 (adOf (partOf 1 (Ep17 157))) q0d.fmag.length (capOf (partOf 1 (Ep17 157))) q0d.fmag ∧ RdS (RpI .u32) q8 (adOf (partOf 1 (Ep17 158))) q0o.fmag.length (capOf (partOf 1 (Ep17 158))) q0o.fmag ∧ RdS (RpI .u32) q8 q47 q0b.fmag.length c_y0_ret_1_17_19 q0b.fmag)) (L := (fun (q8 : Heap) => [roD q6 q8])) q8 ⟨((q2g.trans q1u).trans q1y), (q0r.le ((q4i.trans q1u).trans q1y)), (q0h.le (q2h.trans q1y)), (q0p.le (q2h.trans q1y)), q11⟩ (hS.pull 1)
          exact Eq.mp (by kernel_rfl) (hS.pull 1)
         ·intro Ep17 w l' hE17 hO17 hF_ hS
          refine o_alloc zero_79 hS (fun b13 w' hS => ?_)
          refine x_done <| ?_
          refine x_fin ⟨⟨_, rfl⟩, rfl, ?_⟩
          exact Eq.mp (by kernel_rfl) hS
         ·intro Ep17 w l' hE17 hO17 hF_ hS
          obtain ⟨q2c, q1z, -⟩ := hF_
          replace q2c : Ep17 159 = .agg #[.bool q0b.fneg, .slice (adOf (partOf 1 (Ep17 159))) q0b.fmag.length (capOf (partOf 1 (Ep17 159)))] := Eq.mp (by kernel_rfl) q2c
          replace q1z : Ep17 13 = .pointer (some ⟨(blkOf (Ep17 13)), 0, none⟩) := Eq.mp (by kernel_rfl) q1z
          replace hS : St w0 w (cells (blkOf (Ep17 13)) 79 [.bool false, .slice none 0 0] :: l') := Eq.mp (by kernel_rfl) hS
          refine o_storeAgg (news := [.bool q0b.fneg, .slice (adOf (partOf 1 (Ep17 159))) q0b.fmag.length (capOf (partOf 1 (Ep17 159)))]) agg_79 q1z q2c rfl (by simp [over_length]) hS (fun w' hS => ?_)
          refine x_done <| ?_
          refine x_fin ⟨⟨undef, rfl⟩, trivial, ?_⟩
          exact Eq.mp (by kernel_rfl) hS
        intro Ep17 w' hE17 hF_ hS
        obtain ⟨q3m, q3n, q3o, q20, q3p, q3q, q3r, q21, q3t, q3s, q26, q27, q1n, q28, q29, q2a, q1o, q1g, q2b, q2c, q1z, -⟩ := hF_
        replace q3m : Ep17 140 = .slice q17 q1h.length q1w := Eq.mp (by kernel_rfl) q3m
        replace q3n : Ep17 141 = .int .i64 c1 := Eq.mp (by kernel_rfl) q3n
        replace q3o : Ep17 142 = .pointer (some ((adr q17).add (c1.toNat * R_exact_Int.sz))) := Eq.mp (by kernel_rfl) q3o
        replace q20 : Ep17 143 = .agg #[.bool q14.fneg, .slice (adOf (partOf 1 (Ep17 143))) q14.fmag.length (capOf (partOf 1 (Ep17 143)))] ∧ RdS (RpI .u32) ρ (adOf (partOf 1 (Ep17 143))) q14.fmag.length (capOf (partOf 1 (Ep17 143))) q14.fmag := Eq.mp (by kernel_rfl) q20
        have q_ := id q20; obtain ⟨-, q6q⟩ := q_
        replace q3p : Ep17 144 = .slice q18 q1i.length q2f := Eq.mp (by kernel_rfl) q3p
        replace q3q : Ep17 145 = .int .i64 q0a := Eq.mp (by kernel_rfl) q3q
        replace q3r : Ep17 146 = .pointer (some ((adr q18).add (q0a.toNat * R_exact_Int.sz))) := Eq.mp (by kernel_rfl) q3r
        replace q21 : Ep17 147 = .agg #[.bool q15.fneg, .slice (adOf (partOf 1 (Ep17 147))) q15.fmag.length (capOf (partOf 1 (Ep17 147)))] ∧ RdS (RpI .u32) q0q (adOf (partOf 1 (Ep17 147))) q15.fmag.length (capOf (partOf 1 (Ep17 147))) q15.fmag := Eq.mp (by kernel_rfl) q21
        have q_ := id q21; obtain ⟨-, q6r⟩ := q_
        replace q3t : Ep17 148 = .agg #[.bool q0v.fneg, .slice (adOf (partOf 1 (Ep17 148))) q0v.fmag.length (capOf (partOf 1 (Ep17 148)))] := Eq.mp (by kernel_rfl) q3t
        replace q3s : Ep17 149 = .slice q18 q1i.length q2f := Eq.mp (by kernel_rfl) q3s
        replace q26 : Ep17 150 = .int .i64 c1 := Eq.mp (by kernel_rfl) q26
        replace q27 : Ep17 151 = .pointer (some ((adr q18).add (c1.toNat * R_exact_Int.sz))) := Eq.mp (by kernel_rfl) q27
        replace q1n : Ep17 152 = .agg #[.bool q0y.fneg, .slice (adOf (partOf 1 (Ep17 152))) q0y.fmag.length (capOf (partOf 1 (Ep17 152)))] ∧ RdS (RpI .u32) q0q (adOf (partOf 1 (Ep17 152))) q0y.fmag.length (capOf (partOf 1 (Ep17 152))) q0y.fmag := Eq.mp (by kernel_rfl) q1n
        have q_ := id q1n; obtain ⟨-, q60⟩ := q_
        replace q28 : Ep17 153 = .slice q17 q1h.length q1w := Eq.mp (by kernel_rfl) q28
        replace q29 : Ep17 154 = .int .i64 q0a := Eq.mp (by kernel_rfl) q29
        replace q2a : Ep17 155 = .pointer (some ((adr q17).add (q0a.toNat * R_exact_Int.sz))) := Eq.mp (by kernel_rfl) q2a
        replace q1o : Ep17 156 = .agg #[.bool q0z.fneg, .slice (adOf (partOf 1 (Ep17 156))) q0z.fmag.length (capOf (partOf 1 (Ep17 156)))] ∧ RdS (RpI .u32) ρ (adOf (partOf 1 (Ep17 156))) q0z.fmag.length (capOf (partOf 1 (Ep17 156))) q0z.fmag := Eq.mp (by kernel_rfl) q1o
        have q_ := id q1o; obtain ⟨-, q61⟩ := q_
        replace q1g : Ep17 157 = .agg #[.bool q0d.fneg, .slice (adOf (partOf 1 (Ep17 157))) q0d.fmag.length (capOf (partOf 1 (Ep17 157)))] := Eq.mp (by kernel_rfl) q1g
        replace q2b : Ep17 158 = .agg #[.bool q0o.fneg, .slice (adOf (partOf 1 (Ep17 158))) q0o.fmag.length (capOf (partOf 1 (Ep17 158)))] := Eq.mp (by kernel_rfl) q2b
        replace q2c : Ep17 159 = .agg #[.bool q0b.fneg, .slice (adOf (partOf 1 (Ep17 159))) q0b.fmag.length (capOf (partOf 1 (Ep17 159)))] := Eq.mp (by kernel_rfl) q2c
        replace q1z : Ep17 13 = .pointer (some ⟨(blkOf (Ep17 13)), 0, none⟩) := Eq.mp (by kernel_rfl) q1z
        replace hS : St w0 w' (ro q6 :: bunA (fun (q8 : Heap) => Le q6 q8 ∧ RdS (RpI .u32) q8 (adOf (partOf 1 (Ep17 148))) q0v.fmag.length (capOf (partOf 1 (Ep17 148))) q0v.fmag ∧ RdS (RpI .u32) q8 (adOf (partOf 1 (Ep17 157))) q0d.fmag.length (capOf (partOf 1 (Ep17 157))) q0d.fmag ∧ RdS (RpI .u32) q8 (adOf (partOf 1 (Ep17 158))) q0o.fmag.length (capOf (partOf 1 (Ep17 158))) q0o.fmag ∧ RdS (RpI .u32) q8 (adOf (partOf 1 (Ep17 159))) q0b.fmag.length (capOf (partOf 1 (Ep17 159))) q0b.fmag) (fun (q8 : Heap) => [roD q6 q8]) :: cells (blkOf (Ep17 13)) 79 [.bool q0b.fneg, .slice (adOf (partOf 1 (Ep17 159))) q0b.fmag.length (capOf (partOf 1 (Ep17 159)))] :: (cells q3 150 [.slice q2 t0.frows.length c_t0_0, .bool t0.flast.fneg, .slice q0c t0.flast.fmag.length c_t0_2, .bool q0i, .int .i64 t0.frank] :: vec 79 R_exact_Int.sz (.slice A134 q9.length q9.length) q9.length q0j :: vec 155 (RpSl R_exact_Int).sz (.slice q2 t0.frows.length c_t0_0) t0.frows.length q0m :: l)) := Eq.mp (by kernel_rfl) hS
        have q_ := St.unbun (hS.pull 1); obtain ⟨q8, ⟨q5k, q0r, q0h, q0p, q11⟩, hS⟩ := q_
        have q_ := St.ro_join (hS.pull 1) (Le.refl _) q5k; obtain ⟨q0n, q48, q78, hS, q9m⟩ := q_
        replace hFL15 := bd_s hFL15; obtain ⟨q4, q8u, hFL15⟩ := hFL15
        replace hFL15 := ck_s hFL15; obtain ⟨q62, hFL15⟩ := hFL15
        replace hFL15 := lv_s hFL15; obtain ⟨q4j, q81, hFL15⟩ := hFL15
        refine x_par (w0 := w0) [⟨[], [], [161], [], [], []⟩, ⟨[], [], [162], [], [], []⟩, ⟨[], [], [163], [0], [], []⟩, ⟨[], [], [164], [], [], []⟩, ⟨[3], [3], [165], [], [], []⟩, ⟨[3, 4], [4], [166], [], [], []⟩, ⟨[3, 4, 5], [5], [167], [1], [], []⟩, ⟨[2, 3, 4, 5, 6], [2, 6], [168], [2], [], [3]⟩, ⟨[2, 3, 4, 5, 6, 7], [7], [160, 168], [], [], []⟩, ⟨[2, 3, 4, 5, 6, 7, 8], [7, 8], [168, 169], [], [], []⟩, ⟨[2, 3, 4, 5, 6, 7, 8], [7, 8], [168, 170], [], [], []⟩, ⟨[0, 1, 2, 3, 4, 5, 6, 7, 8, 9], [0, 1], [171], [4], [], []⟩, ⟨[0, 1, 2, 3, 4, 5, 6, 7, 8, 9, 11], [7, 9, 11], [], [2], [4, 3], [5]⟩] [⟨none, none, []⟩, ⟨none, none, []⟩, ⟨none, none, []⟩, ⟨(some 7), (some 12), [168]⟩, ⟨none, (some 12), []⟩, ⟨(some 12), none, [168]⟩] [160, 161, 162, 163, 164, 165, 166, 167, 168, 169, 170, 171] [0, 1, 2, 4] [0, 1, 2, 5] [0, 1, 2, 3, 4, 5, 6, 7, 8, 9, 10, 11] [fun Ep18 => Ep18 161 = .slice A134 q9.length q9.length, fun Ep18 => Ep18 162 = .int .i64 q0a, fun Ep18 => Ep18 163 = .agg #[.bool q0b.fneg, .slice (adOf (partOf 1 (Ep17 159))) q0b.fmag.length (capOf (partOf 1 (Ep17 159)))], fun Ep18 => Ep18 164 = .pointer (some ⟨q3, 0, none⟩), fun Ep18 => Ep18 165 = .pointer (some ⟨q3, 0, none⟩), fun Ep18 => Ep18 166 = .pointer (some ⟨q3, 1, none⟩), fun Ep18 => Ep18 167 = .agg #[.bool t0.flast.fneg, .slice q0c t0.flast.fmag.length c_t0_2], fun Ep18 => Ep18 168 = .tuple #[.agg #[.bool q4.1.fneg, .slice (adOf (partOf 1 (partOf 0 (Ep18 168)))) q4.1.fmag.length (capOf (partOf 1 (partOf 0 (Ep18 168))))], .agg #[.bool q4.2.fneg, .slice (adOf (partOf 1 (partOf 1 (Ep18 168)))) q4.2.fmag.length (capOf (partOf 1 (partOf 1 (Ep18 168))))]], fun Ep18 => Ep18 160 = .tuple #[.agg #[.bool q4.1.fneg, .slice (adOf (partOf 1 (partOf 0 (Ep18 168)))) q4.1.fmag.length (capOf (partOf 1 (partOf 0 (Ep18 168))))], .agg #[.bool q4.2.fneg, .slice (adOf (partOf 1 (partOf 1 (Ep18 168)))) q4.2.fmag.length (capOf (partOf 1 (partOf 1 (Ep18 168))))]], fun Ep18 => Ep18 169 = .agg #[.bool q4.1.fneg, .slice (adOf (partOf 1 (partOf 0 (Ep18 168)))) q4.1.fmag.length (capOf (partOf 1 (partOf 0 (Ep18 168))))], fun Ep18 => Ep18 170 = .agg #[.bool q4.2.fneg, .slice (adOf (partOf 1 (partOf 1 (Ep18 168)))) q4.2.fmag.length (capOf (partOf 1 (partOf 1 (Ep18 168))))], fun Ep18 => Ep18 171 = .pointer (some ((adr A134).add (q0a.toNat * R_exact_Int.sz))), fun Ep18 => True] [fun Ep18 => cells (blkOf (Ep17 13)) 79 [.bool q0b.fneg, .slice (adOf (partOf 1 (Ep17 159))) q0b.fmag.length (capOf (partOf 1 (Ep17 159)))], fun Ep18 => cells q3 150 [.slice q2 t0.frows.length c_t0_0, .bool t0.flast.fneg, .slice q0c t0.flast.fmag.length c_t0_2, .bool q0i, .int .i64 t0.frank], fun Ep18 => ro q0n, fun Ep18 => bunA (fun (q0e : Heap) => Le q0n q0e ∧ RdS (RpI .u32) q0e (adOf (partOf 1 (partOf 0 (Ep18 168)))) q4.1.fmag.length (capOf (partOf 1 (partOf 0 (Ep18 168)))) q4.1.fmag ∧ RdS (RpI .u32) q0e (adOf (partOf 1 (partOf 1 (Ep18 168)))) q4.2.fmag.length (capOf (partOf 1 (partOf 1 (Ep18 168)))) q4.2.fmag) (fun (q0e : Heap) => [roD q0n q0e]), fun Ep18 => vec 79 R_exact_Int.sz (.slice A134 q9.length q9.length) q9.length q0j, fun Ep18 => bunA (fun (x : (Heap × List Value)) => Le q0n x.1 ∧ RdS (RpI .u32) x.1 (adOf (partOf 1 (partOf 0 (Ep18 168)))) q4.1.fmag.length (capOf (partOf 1 (partOf 0 (Ep18 168)))) q4.1.fmag ∧ RdS (RpI .u32) x.1 (adOf (partOf 1 (partOf 1 (Ep18 168)))) q4.2.fmag.length (capOf (partOf 1 (partOf 1 (Ep18 168)))) q4.2.fmag ∧ RepL R_exact_Int x.1 q4j x.2) (fun (x : (Heap × List Value)) => [vec 79 R_exact_Int.sz (.slice A134 q9.length q9.length) q9.length x.2, roD q0n x.1])] mixed (by kernel_rfl) ((((hS.pull 3).pull 1).pull 3).pull 3) ?_ ?_
        ·refine ⟨?_, ?_, ?_, ?_, ?_, ?_, ?_, ?_, ?_, ?_, ?_, ?_, ?_, trivial⟩
         ·intro Ep18 w l' hE18 hO18 hF_ hS
          refine p (yl_move ((hE18 11 rfl).trans ((hE17 11 rfl).trans q44))) <| x_done <| ?_
          refine x_fin ⟨⟨_, rfl⟩, rfl, ?_⟩
          exact Eq.mp (by kernel_rfl) hS
         ·intro Ep18 w l' hE18 hO18 hF_ hS
          refine p (yl_move ((hE18 12 rfl).trans (hE17 12 rfl))) <| x_done <| ?_
          refine x_fin ⟨⟨_, rfl⟩, rfl, ?_⟩
          exact Eq.mp (by kernel_rfl) hS
         ·intro Ep18 w l' hE18 hO18 hF_ hS
          replace hS : St w0 w (cells (blkOf (Ep17 13)) 79 [.bool q0b.fneg, .slice (adOf (partOf 1 (Ep17 159))) q0b.fmag.length (capOf (partOf 1 (Ep17 159)))] :: l') := Eq.mp (by kernel_rfl) hS
          refine pa (v := .agg #[.bool q0b.fneg, .slice (adOf (partOf 1 (Ep17 159))) q0b.fmag.length (capOf (partOf 1 (Ep17 159)))]) (ld_sub agg_79 ((hE18 13 rfl).trans q1z) rfl rfl hS) <| x_done <| ?_
          refine x_fin ⟨⟨_, rfl⟩, rfl, ?_⟩
          exact Eq.mp (by kernel_rfl) hS
         ·intro Ep18 w l' hE18 hO18 hF_ hS
          refine p (yl_move ((hE18 0 rfl).trans ((hE17 0 rfl).trans q50))) <| x_done <| ?_
          refine x_fin ⟨⟨_, rfl⟩, rfl, ?_⟩
          exact Eq.mp (by kernel_rfl) hS
         ·intro Ep18 w l' hE18 hO18 hF_ hS
          obtain ⟨q3u, -⟩ := hF_
          replace q3u : Ep18 164 = .pointer (some ⟨q3, 0, none⟩) := Eq.mp (by kernel_rfl) q3u
          refine p (yl_nilCheck q3u) <| x_done <| ?_
          refine x_fin ⟨⟨_, rfl⟩, rfl, ?_⟩
          exact Eq.mp (by kernel_rfl) hS
         ·intro Ep18 w l' hE18 hO18 hF_ hS
          obtain ⟨q3v, -⟩ := hF_
          replace q3v : Ep18 165 = .pointer (some ⟨q3, 0, none⟩) := Eq.mp (by kernel_rfl) q3v
          refine p (yl_field0 fld_150_1 q3v) <| x_done <| ?_
          refine x_fin ⟨⟨_, rfl⟩, rfl, ?_⟩
          exact Eq.mp (by kernel_rfl) hS
         ·intro Ep18 w l' hE18 hO18 hF_ hS
          obtain ⟨q3w, -⟩ := hF_
          replace q3w : Ep18 166 = .pointer (some ⟨q3, 1, none⟩) := Eq.mp (by kernel_rfl) q3w
          replace hS : St w0 w (cells q3 150 [.slice q2 t0.frows.length c_t0_0, .bool t0.flast.fneg, .slice q0c t0.flast.fmag.length c_t0_2, .bool q0i, .int .i64 t0.frank] :: l') := Eq.mp (by kernel_rfl) hS
          refine pa (v := .agg #[.bool t0.flast.fneg, .slice q0c t0.flast.fmag.length c_t0_2]) (ld_sub agg_79 q3w rfl rfl hS) <| x_done <| ?_
          refine x_fin ⟨⟨_, rfl⟩, rfl, ?_⟩
          exact Eq.mp (by kernel_rfl) hS
         ·intro Ep18 w l' hE18 hO18 hF_ hS
          obtain ⟨q3x, q3y, -⟩ := hF_
          replace q3x : Ep18 163 = .agg #[.bool q0b.fneg, .slice (adOf (partOf 1 (Ep17 159))) q0b.fmag.length (capOf (partOf 1 (Ep17 159)))] := Eq.mp (by kernel_rfl) q3x
          replace q3y : Ep18 167 = .agg #[.bool t0.flast.fneg, .slice q0c t0.flast.fmag.length c_t0_2] := Eq.mp (by kernel_rfl) q3y
          replace hS : St w0 w (ro q0n :: l') := Eq.mp (by kernel_rfl) hS
          have hcall := c_exact_split q8u (q11.le q78) (q5d.le ((q0x.trans q0g).trans q48)) hS
          refine o_cc call_103 (args2 q3x q3y) hcall ?_
          rintro e w' ⟨q0e, q4k, q7m, c_y0_ret_1_18_7, q4l, q7n, c_y1_ret_1_18_7, rfl, q63, q0s, q10, hS⟩
          refine ⟨_, rfl, ?_⟩
          have e_ := q0s.n; subst e_
          have e_ := q10.n; subst e_
          refine x_done <| ?_
          refine x_fin ⟨⟨_, rfl⟩, rfl, ?_⟩
          replace hS := St.ro_split q63 hS
          replace hS := St.bun (Φ := (fun (q0e : Heap) => Le q0n q0e ∧ RdS (RpI .u32) q0e q4k q4.1.fmag.length c_y0_ret_1_18_7 q4.1.fmag ∧ RdS (RpI .u32) q0e q4l q4.2.fmag.length c_y1_ret_1_18_7 q4.2.fmag)) (L := (fun (q0e : Heap) => [roD q0n q0e])) q0e ⟨q63, q0s, q10⟩ (hS.pull 1)
          exact Eq.mp (by kernel_rfl) (hS.pull 1)
         ·intro Ep18 w l' hE18 hO18 hF_ hS
          obtain ⟨q12, -⟩ := hF_
          replace q12 : Ep18 168 = .tuple #[.agg #[.bool q4.1.fneg, .slice (adOf (partOf 1 (partOf 0 (Ep18 168)))) q4.1.fmag.length (capOf (partOf 1 (partOf 0 (Ep18 168))))], .agg #[.bool q4.2.fneg, .slice (adOf (partOf 1 (partOf 1 (Ep18 168)))) q4.2.fmag.length (capOf (partOf 1 (partOf 1 (Ep18 168))))]] := Eq.mp (by kernel_rfl) q12
          refine p (yl_move q12) <| x_done <| ?_
          refine x_fin ⟨⟨_, rfl⟩, rfl, ?_⟩
          exact Eq.mp (by kernel_rfl) hS
         ·intro Ep18 w l' hE18 hO18 hF_ hS
          obtain ⟨q12, q1k, -⟩ := hF_
          replace q12 : Ep18 168 = .tuple #[.agg #[.bool q4.1.fneg, .slice (adOf (partOf 1 (partOf 0 (Ep18 168)))) q4.1.fmag.length (capOf (partOf 1 (partOf 0 (Ep18 168))))], .agg #[.bool q4.2.fneg, .slice (adOf (partOf 1 (partOf 1 (Ep18 168)))) q4.2.fmag.length (capOf (partOf 1 (partOf 1 (Ep18 168))))]] := Eq.mp (by kernel_rfl) q12
          replace q1k : Ep18 160 = .tuple #[.agg #[.bool q4.1.fneg, .slice (adOf (partOf 1 (partOf 0 (Ep18 168)))) q4.1.fmag.length (capOf (partOf 1 (partOf 0 (Ep18 168))))], .agg #[.bool q4.2.fneg, .slice (adOf (partOf 1 (partOf 1 (Ep18 168)))) q4.2.fmag.length (capOf (partOf 1 (partOf 1 (Ep18 168))))]] := Eq.mp (by kernel_rfl) q1k
          refine p (yl_extract q1k rfl) <| x_done <| ?_
          refine x_fin ⟨⟨_, rfl⟩, rfl, ?_⟩
          exact Eq.mp (by kernel_rfl) hS
         ·intro Ep18 w l' hE18 hO18 hF_ hS
          obtain ⟨q12, q1k, -⟩ := hF_
          replace q12 : Ep18 168 = .tuple #[.agg #[.bool q4.1.fneg, .slice (adOf (partOf 1 (partOf 0 (Ep18 168)))) q4.1.fmag.length (capOf (partOf 1 (partOf 0 (Ep18 168))))], .agg #[.bool q4.2.fneg, .slice (adOf (partOf 1 (partOf 1 (Ep18 168)))) q4.2.fmag.length (capOf (partOf 1 (partOf 1 (Ep18 168))))]] := Eq.mp (by kernel_rfl) q12
          replace q1k : Ep18 160 = .tuple #[.agg #[.bool q4.1.fneg, .slice (adOf (partOf 1 (partOf 0 (Ep18 168)))) q4.1.fmag.length (capOf (partOf 1 (partOf 0 (Ep18 168))))], .agg #[.bool q4.2.fneg, .slice (adOf (partOf 1 (partOf 1 (Ep18 168)))) q4.2.fmag.length (capOf (partOf 1 (partOf 1 (Ep18 168))))]] := Eq.mp (by kernel_rfl) q1k
          refine p (yl_extract q1k rfl) <| x_done <| ?_
          refine x_fin ⟨⟨_, rfl⟩, rfl, ?_⟩
          exact Eq.mp (by kernel_rfl) hS
         ·intro Ep18 w l' hE18 hO18 hF_ hS
          obtain ⟨q3z, q40, -⟩ := hF_
          replace q3z : Ep18 161 = .slice A134 q9.length q9.length := Eq.mp (by kernel_rfl) q3z
          replace q40 : Ep18 162 = .int .i64 q0a := Eq.mp (by kernel_rfl) q40
          replace hS : St w0 w (vec 79 R_exact_Int.sz (.slice A134 q9.length q9.length) q9.length q0j :: l') := Eq.mp (by kernel_rfl) hS
          refine p (yix_o sl_155 q3z q40 hS q1q q62) <| x_done <| ?_
          refine x_fin ⟨⟨_, rfl⟩, rfl, ?_⟩
          exact Eq.mp (by kernel_rfl) hS
         ·intro Ep18 w l' hE18 hO18 hF_ hS
          obtain ⟨q12, q41, q2d, -⟩ := hF_
          replace q12 : Ep18 168 = .tuple #[.agg #[.bool q4.1.fneg, .slice (adOf (partOf 1 (partOf 0 (Ep18 168)))) q4.1.fmag.length (capOf (partOf 1 (partOf 0 (Ep18 168))))], .agg #[.bool q4.2.fneg, .slice (adOf (partOf 1 (partOf 1 (Ep18 168)))) q4.2.fmag.length (capOf (partOf 1 (partOf 1 (Ep18 168))))]] := Eq.mp (by kernel_rfl) q12
          replace q41 : Ep18 169 = .agg #[.bool q4.1.fneg, .slice (adOf (partOf 1 (partOf 0 (Ep18 168)))) q4.1.fmag.length (capOf (partOf 1 (partOf 0 (Ep18 168))))] := Eq.mp (by kernel_rfl) q41
          replace q2d : Ep18 171 = .pointer (some ((adr A134).add (q0a.toNat * R_exact_Int.sz))) := Eq.mp (by kernel_rfl) q2d
          replace hS : St w0 w (ro q0n :: vec 79 R_exact_Int.sz (.slice A134 q9.length q9.length) q9.length q0j :: bunA (fun (q0e : Heap) => Le q0n q0e ∧ RdS (RpI .u32) q0e (adOf (partOf 1 (partOf 0 (Ep18 168)))) q4.1.fmag.length (capOf (partOf 1 (partOf 0 (Ep18 168)))) q4.1.fmag ∧ RdS (RpI .u32) q0e (adOf (partOf 1 (partOf 1 (Ep18 168)))) q4.2.fmag.length (capOf (partOf 1 (partOf 1 (Ep18 168)))) q4.2.fmag) (fun (q0e : Heap) => [roD q0n q0e]) :: l') := Eq.mp (by kernel_rfl) hS
          have q_ := St.unbun (hS.pull 2); obtain ⟨q0e, ⟨q22, q0s, q10⟩, hS⟩ := q_
          have q_ := St.ro_join (hS.pull 1) (Le.refl _) q22; obtain ⟨q59, q2i, q2j, hS, q9a⟩ := q_
          refine o_put' (news := [.bool q4.1.fneg, .slice (adOf (partOf 1 (partOf 0 (Ep18 168)))) q4.1.fmag.length (capOf (partOf 1 (partOf 0 (Ep18 168))))]) sz_79 q2d q41 rfl rfl (o := 0) rfl q62 rfl (hS.pull 1) q1q (q48.trans q2i) (fun c hc => ok_all hc (show R_exact_Int.ok q59 [.bool q4.1.fneg, .slice (adOf (partOf 1 (partOf 0 (Ep18 168)))) q4.1.fmag.length (capOf (partOf 1 (partOf 0 (Ep18 168))))] q4.1 from ⟨_, _, _, rfl, (q0s.le q2j)⟩)) q81 (fun q51 w' q52 hS => ?_)
          refine x_done <| ?_
          refine x_fin ⟨⟨undef, rfl⟩, trivial, ?_⟩
          replace hS := St.ro_split q2i (hS.pull 1)
          replace hS := St.bun (Φ := (fun (x : (Heap × List Value)) => Le q0n x.1 ∧ RdS (RpI .u32) x.1 (adOf (partOf 1 (partOf 0 (Ep18 168)))) q4.1.fmag.length (capOf (partOf 1 (partOf 0 (Ep18 168)))) q4.1.fmag ∧ RdS (RpI .u32) x.1 (adOf (partOf 1 (partOf 1 (Ep18 168)))) q4.2.fmag.length (capOf (partOf 1 (partOf 1 (Ep18 168)))) q4.2.fmag ∧ RepL R_exact_Int x.1 q4j x.2)) (L := (fun (x : (Heap × List Value)) => [vec 79 R_exact_Int.sz (.slice A134 q9.length q9.length) q9.length x.2, roD q0n x.1])) (q59, q51) ⟨q2i, (q0s.le q2j), (q10.le q2j), q52⟩ ((hS.pull 1).pull 2)
          exact Eq.mp (by kernel_rfl) (hS.pull 1)
        intro Ep18 w' hE18 hF_ hS
        obtain ⟨q3z, q40, q3x, q3u, q3v, q3w, q3y, q12, q1k, q41, q6t, q2d, -⟩ := hF_
        replace q3z : Ep18 161 = .slice A134 q9.length q9.length := Eq.mp (by kernel_rfl) q3z
        replace q40 : Ep18 162 = .int .i64 q0a := Eq.mp (by kernel_rfl) q40
        replace q3x : Ep18 163 = .agg #[.bool q0b.fneg, .slice (adOf (partOf 1 (Ep17 159))) q0b.fmag.length (capOf (partOf 1 (Ep17 159)))] := Eq.mp (by kernel_rfl) q3x
        replace q3u : Ep18 164 = .pointer (some ⟨q3, 0, none⟩) := Eq.mp (by kernel_rfl) q3u
        replace q3v : Ep18 165 = .pointer (some ⟨q3, 0, none⟩) := Eq.mp (by kernel_rfl) q3v
        replace q3w : Ep18 166 = .pointer (some ⟨q3, 1, none⟩) := Eq.mp (by kernel_rfl) q3w
        replace q3y : Ep18 167 = .agg #[.bool t0.flast.fneg, .slice q0c t0.flast.fmag.length c_t0_2] := Eq.mp (by kernel_rfl) q3y
        replace q12 : Ep18 168 = .tuple #[.agg #[.bool q4.1.fneg, .slice (adOf (partOf 1 (partOf 0 (Ep18 168)))) q4.1.fmag.length (capOf (partOf 1 (partOf 0 (Ep18 168))))], .agg #[.bool q4.2.fneg, .slice (adOf (partOf 1 (partOf 1 (Ep18 168)))) q4.2.fmag.length (capOf (partOf 1 (partOf 1 (Ep18 168))))]] := Eq.mp (by kernel_rfl) q12
        replace q1k : Ep18 160 = .tuple #[.agg #[.bool q4.1.fneg, .slice (adOf (partOf 1 (partOf 0 (Ep18 168)))) q4.1.fmag.length (capOf (partOf 1 (partOf 0 (Ep18 168))))], .agg #[.bool q4.2.fneg, .slice (adOf (partOf 1 (partOf 1 (Ep18 168)))) q4.2.fmag.length (capOf (partOf 1 (partOf 1 (Ep18 168))))]] := Eq.mp (by kernel_rfl) q1k
        replace q41 : Ep18 169 = .agg #[.bool q4.1.fneg, .slice (adOf (partOf 1 (partOf 0 (Ep18 168)))) q4.1.fmag.length (capOf (partOf 1 (partOf 0 (Ep18 168))))] := Eq.mp (by kernel_rfl) q41
        replace q6t : Ep18 170 = .agg #[.bool q4.2.fneg, .slice (adOf (partOf 1 (partOf 1 (Ep18 168)))) q4.2.fmag.length (capOf (partOf 1 (partOf 1 (Ep18 168))))] := Eq.mp (by kernel_rfl) q6t
        replace q2d : Ep18 171 = .pointer (some ((adr A134).add (q0a.toNat * R_exact_Int.sz))) := Eq.mp (by kernel_rfl) q2d
        replace hS : St w0 w' (cells (blkOf (Ep17 13)) 79 [.bool q0b.fneg, .slice (adOf (partOf 1 (Ep17 159))) q0b.fmag.length (capOf (partOf 1 (Ep17 159)))] :: cells q3 150 [.slice q2 t0.frows.length c_t0_0, .bool t0.flast.fneg, .slice q0c t0.flast.fmag.length c_t0_2, .bool q0i, .int .i64 t0.frank] :: ro q0n :: bunA (fun (x : (Heap × List Value)) => Le q0n x.1 ∧ RdS (RpI .u32) x.1 (adOf (partOf 1 (partOf 0 (Ep18 168)))) q4.1.fmag.length (capOf (partOf 1 (partOf 0 (Ep18 168)))) q4.1.fmag ∧ RdS (RpI .u32) x.1 (adOf (partOf 1 (partOf 1 (Ep18 168)))) q4.2.fmag.length (capOf (partOf 1 (partOf 1 (Ep18 168)))) q4.2.fmag ∧ RepL R_exact_Int x.1 q4j x.2) (fun (x : (Heap × List Value)) => [vec 79 R_exact_Int.sz (.slice A134 q9.length q9.length) q9.length x.2, roD q0n x.1]) :: (vec 155 (RpSl R_exact_Int).sz (.slice q2 t0.frows.length c_t0_0) t0.frows.length q0m :: l)) := Eq.mp (by kernel_rfl) hS
        have q_ := St.unbun (hS.pull 3); obtain ⟨⟨q0e, q51⟩, ⟨q22, q0s, q10, q52⟩, hS⟩ := q_
        have q_ := St.ro_join ((hS.pull 1).pull 4) (Le.refl _) q22; obtain ⟨q82, q79, q7a, hS, q9n⟩ := q_
        replace hFL15 := ar_s hFL15; obtain ⟨x172, hx172, hFL15⟩ := hFL15
        refine x_blk <| x_region <| p (yadd ((hE18 137 rfl).trans ((hE17 137 rfl).trans q2q)) rfl hx172) <| p (yl_move rfl) <|
         x_done <| ?_
        have e_ := Option.some.inj (show some _ = some _ from hFL15); subst e_
        exact x_inv ⟨kL15, Nat.lt_succ_self _, q82, q51, q4j, x172, hLL15, ((q0g.trans q48).trans q79), ((hE18 0 rfl).trans ((hE17 0 rfl).trans q50)), ((hE18 1 rfl).trans ((hE17 1 rfl).trans q3k)), ((hE18 2 rfl).trans ((hE17 2 rfl).trans q5r)), ((hE18 8 rfl).trans ((hE17 8 rfl).trans q3l)), ((hE18 9 rfl).trans ((hE17 9 rfl).trans q5s)), ((hE18 10 rfl).trans ((hE17 10 rfl).trans q43)), ((hE18 11 rfl).trans ((hE17 11 rfl).trans q44)), ((hE18 107 rfl).trans ((hE17 107 rfl).trans q55)), ((hE18 108 rfl).trans ((hE17 108 rfl).trans q56)), ((hE18 109 rfl).trans ((hE17 109 rfl).trans q57)), ((hE18 136 rfl).trans ((hE17 136 rfl).trans q58)), rfl, (q52.le q7a), ((((hS.pull 2).drop.pull 3).pull 2).pull 3)⟩
       ·replace hFL15 := it_f hc138 hFL15
        refine x_exitTo _ rfl <| ?_
        have e_ := Option.some.inj (show some _ = some _ from hFL15); subst e_
        exact x_inv ⟨q6, q0j, q1j, hLL15, q0g, q50, q3k, q5r, q3l, q5s, q44, q55, q56, q57, q1q, ((((hS.pull 3).pull 3).pull 3).pull 3)⟩
      rintro E w ⟨q5c, q1p, q1t, rfl, q5l, q6u, q8v, q8w, q8x, q8y, q83, q7b, q7c, q7d, q5m, hS⟩
      replace hFb3 := ck_s hFb3; obtain ⟨q6v, hFb3⟩ := hFb3
      refine x_region <| p (yl_move q6u) <| p (yl_nilCheck rfl) <| p (yl_field0 fld_150_0 rfl) <|
       pa (at_load one_148 rfl (hS.cell rfl)) <| p (yl_move q8y) <| p (yl_move q83) <| p (yix_o sl_148 rfl rfl (hS.pull 2) q13 q6v) <| ?_
      have q_ := St.vec_fz ((hS.pull 3).pull 2) q5m; obtain ⟨q6w, q5n, q8z, hS⟩ := q_
      replace hFb3 := lv_s hFb3; obtain ⟨q9f, q90, hFb3⟩ := hFb3
      refine o_put' (news := [.slice A134 q9.length q9.length]) sz_155 rfl rfl rfl rfl (o := 0) rfl q6v rfl (hS.pull 2) q13 (q5l.trans q5n) (fun c hc => ok_all hc (show (RpSl R_exact_Int).ok q6w [.slice A134 q9.length q9.length] q1t from ⟨_, _, _, rfl, q8z⟩)) q90 (fun q91 w' q92 hS => ?_)
      refine x_done <| x_blk <| ?_
      exact x_inv ⟨q6w, q91, q9f, (Option.some.inj (show some _ = some _ from hFb3)), (q5l.trans q5n), q6u, q8v, q8w, q8x, q7b, q7c, q7d, q92, (((hS.pull 1).pull 1).pull 2)⟩
    rintro E w ⟨q5g, q1s, q3j, rfl, q84, q9g, q9h, q9i, q9j, q85, q86, q87, q6x, hS⟩
    replace hFL10 := ar_s hFL10; obtain ⟨x180, hx180, hFL10⟩ := hFL10
    refine x_region <| p (yadd q87 rfl hx180) <| p (yl_move rfl) <| x_done <| ?_
    have e_ := Option.some.inj (show some _ = some _ from hFL10); subst e_
    exact x_inv ⟨kL10, Nat.lt_succ_self _, q5g, q1s, q3j, x180, hLL10, (q0x.trans q84), q9g, q9h, q9i, q9j, q85, q86, rfl, q6x, (((hS.pull 2).pull 2).pull 2)⟩
   ·replace hFL10 := it_f hc110 hFL10
    refine x_exitTo _ rfl <| ?_
    have e_ := Option.some.inj (show some _ = some _ from hFL10); subst e_
    exact x_inv ⟨q0q, q0m, q1l, hLL10, q0x, q25, q4x, q4z, q13, (((hS.pull 2).pull 2).pull 2)⟩
  rintro E w ⟨q4d, q1d, q2e, rfl, q2k, q6y, q93, q94, q5o, hS⟩
  replace hF := ck_s hF; obtain ⟨q6z, hF⟩ := hF
  replace hF := lv_s hF; obtain ⟨q4m, q95, hF⟩ := hF
  have q_ := q42.get q6z; obtain ⟨qa3, q70, q96⟩ := q_
  rw [← q95] at q70
  obtain ⟨q53, q9v, q54, rfl, q64⟩ := q70
  have e_ := q64.n; subst e_
  refine x_seq <| x_region <| p (yl_move q6y) <| p (yl_move q94) <|
   p (yl_move q93) <| p (yix_f sl_155 rfl rfl (q42.le q2k) q6z) <| pa (v := .agg #[.bool q4m.fneg, .slice q53 q4m.fmag.length q54]) (at_loadAgg agg_79 rfl rfl (Elt.every (Elt.le q96 q2k) (hS.pull 2))) <| p (yl_nilCheck rfl) <|
   p (yl_field0 fld_150_1 rfl) <| ?_
  refine o_storeAgg (news := [.bool q4m.fneg, .slice q53 q4m.fmag.length q54]) agg_79 rfl rfl rfl (by simp [over_length]) hS (fun w' hS => ?_)
  replace hF := ar_s hF; obtain ⟨x192, hx192, hF⟩ := hF
  refine x_done <| x_seq <| x_region <| p (yl_move q6y) <|
   p (yl_nilCheck rfl) <| p (yl_field0 fld_150_3 rfl) <| pa (at_load one_3 rfl (hS.cell rfl)) <| p (yadd rfl rfl hx192) <|
   p (yl_nilCheck rfl) <| p (yl_field0 fld_150_3 rfl) <| ?_
  refine o_store1 (v := .int .i64 x192) one_3 rfl rfl rfl rfl hS (fun w' hS => ?_)
  refine x_done <| x_seq <| x_region <| p (yl_assign rfl) <|
   x_done <| ?_
  have e_ := Option.some.inj (show some _ = some _ from hF); subst e_
  exact x_return ⟨_, ⟨_, _, rfl, rfl, rfl⟩, q4d, q1d, q53, q4m.fmag.length, q54, rfl, q2k, q5o, (q64.le q2k), (((hS.pull 2).pull 2).pull 2)⟩
attribute [irreducible] P_exact_table_pivot


end Go.Proofs.Ytkenpbnpemjbhaa.X
