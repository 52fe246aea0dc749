/- Printed by gen.py: plain functions, and that the Go code computes them. -/
import Derived.Test.YtfkncjfpgflafaaXI
import Derived.Test.YtfkncjfpgflafaaYW
import Derived.Test.YtfkncjfpgflafaaXT
import Derived.Test.YtfkncjfpgflafaaGAp0
namespace Go.Proofs.Ytfkncjfpgflafaa.X
set_option maxHeartbeats 4000000
set_option maxRecDepth 100000
open Go Go.RowKit
set_option linter.unusedVariables false
set_option linter.unusedSimpArgs false

def P_exact_subMag_L4 (a0 : List Int) (b1 : List Int) : (List Int × Int × Int) → Option ((List Int × Int × Int) ⊕ List Int) := fun (q3, q4, q2) =>
 if q2 < (a0.length : Int) then
  ck (inb q2 a0.length) <|
  lv (gt a0 q2) fun x19 =>
  ar (x19) fun x21 =>
  ar (x21 + q4) fun x23 =>
  bd (
   if q2 < (b1.length : Int) then
    ck (inb q2 b1.length) <|
    lv (gt b1 q2) fun x32 =>
    ar (x32) fun x33 =>
    ar (x23 - x33) fun x34 =>
    some x34
   else
    some x23) fun q5 =>
  lv (q5 % 4294967296) fun x38 =>
  ck (inb q2 q3.length) <|
  lv (stt q3 q2 x38) fun q6 =>
  ck (0 ≤ (32 : Int)) <|
  lv (shr .i64 q5 32) fun x41 =>
  ar (q2 + 1) fun x42 =>
  some (Sum.inl (q6, x41, x42))
 else
  some (Sum.inr q3)
def P_exact_subMag (a0 : List Int) (b1 : List Int) : Option (List Int) :=
 ck (mkOk 4 (a0.length : Int)) <|
 lv ((List.replicate ((a0.length : Int) : Int).toNat 0 : List Int)) fun q3 =>
 bd (
  lp (P_exact_subMag_L4 a0 b1) fuel (q3, 0, 0)) fun q2 =>
 some q2
theorem c_exact_subMag {w0 w : World} {l : List Assn} {ρ : Heap} {q0j : Option Addr} {q0w : Nat} {c_a0 : Nat} {q0k : Option Addr} {q0x : Nat} {c_b1 : Nat} {a0 : List Int} {b1 : List Int} {r : List Int} (hF : P_exact_subMag a0 b1 = some r) (q0o : RdS (RpI .u32) ρ q0j q0w c_a0 a0) (q0p : RdS (RpI .u32) ρ q0k q0x c_b1 b1) (hS : St w0 w (ro ρ :: l)) :
  Calls Try.prog 53 #[.slice q0j q0w c_a0, .slice q0k q0x c_b1] w fun e w' => ∃ (q0g : Option Addr) (q0a : Nat) (c_y0_ret : Nat) (q0f : List Value), e = .returned (.slice q0g q0a c_y0_ret) ∧ RepL (RpI .u32) ρ r q0f ∧ St w0 w' (vec 77 (RpI .u32).sz (.slice q0g q0a c_y0_ret) q0a q0f :: ro ρ :: l) := by
 have e_ := q0o.n; subst e_
 have e_ := q0p.n; subst e_
 refine enterC Try.func53 rfl 44 rfl (by simp) ?_
 refine x_seq <| x_region <| p (yl_assign rfl) <| x_done <|
  x_seq <| x_region <| p (yl_move rfl) <| p (yl_len_slice usl_39 rfl) <| ?_
 replace hF := ck_s hF; obtain ⟨q12, hF⟩ := hF
 replace hF := lv_s hF; obtain ⟨q2, q13, hF⟩ := hF
 refine o_mk sl_39 zero_77 (show (RpI .u32).ok ρ _ 0 from rfl) rfl rfl q12 (by decide) q13 hS (fun A12 cs12 w' hr12 hS => ?_)
 refine p (yl_assign rfl) <| x_done <| x_seq <| x_region <|
  p (yl_assign rfl) <| x_done <| x_seq <| x_seq <|
  x_region <| p (yl_move rfl) <| p (yl_len_slice usl_39 rfl) <| p (yl_move rfl) <|
  x_done <| ?_
 replace hF := bd_s hF; obtain ⟨oL4, hLL4, hF⟩ := hF
 refine x_join (fun E w => ∃ (q5 : List Value) (q0c : List Int), q0c = oL4 ∧ E 5 = .slice A12 q2.length q2.length ∧ RepL (RpI .u32) ρ q0c q5 ∧ St w0 w (vec 77 (RpI .u32).sz (.slice A12 q2.length q2.length) q2.length q5 :: ro ρ :: l)) ?_ ?_
 ·refine x_block ?_
  refine x_loop (fun k_ E w => ∃ (q3 : List Value) (q8 : List Int) (q6 : Int) (q4 : Int), lp (P_exact_subMag_L4 a0 b1) k_ (q8, q6, q4) = some oL4 ∧ E 1 = .slice q0k b1.length c_b1 ∧ E 5 = .slice A12 q2.length q2.length ∧ E 6 = .int .i64 q6 ∧ E 13 = .slice q0j a0.length c_a0 ∧ E 14 = .int .i64 (a0.length : Int) ∧ E 15 = .int .i64 q4 ∧ RepL (RpI .u32) ρ q8 q3 ∧ St w0 w (vec 77 (RpI .u32).sz (.slice A12 q2.length q2.length) q2.length q3 :: ro ρ :: l)) fuel ⟨cs12, q2, 0, 0, hLL4, rfl, rfl, rfl, rfl, rfl, rfl, hr12, ((hS.pull 1).pull 1)⟩ ?_
  rintro kL4 E w ⟨q3, q8, q6, q4, hLL4, q0b, q0h, q0y, q0d, q0e, q7, q9, hS⟩
  replace hLL4 := lp_s hLL4; obtain ⟨kL4, obL4, rfl, hFL4, hLL4⟩ := hLL4
  refine x_seq <| x_region <| p (yl_lss q7 q0e) <| x_done <|
   x_seq <|
   x_cond_p (q4 < (a0.length : Int)) rfl (fun hc16 => ?_) (fun hc16 => ?_)
  ·replace hFL4 := it_t hc16 hFL4
   replace hFL4 := ck_s hFL4; obtain ⟨q0q, hFL4⟩ := hFL4
   replace hFL4 := lv_s hFL4; obtain ⟨x19, hx19, hFL4⟩ := hFL4
   replace hFL4 := ar_s hFL4; obtain ⟨x21, hx21, hFL4⟩ := hFL4
   replace hFL4 := ar_s hFL4; obtain ⟨x23, hx23, hFL4⟩ := hFL4
   refine x_skip <| x_seq <| x_block <| x_seq <|
    x_region <| p (yl_move q7) <| p (yix_f sl_39 q0d q7 q0o q0q) <| pa (at_load one_77 rfl (RdS.getW q0o (hS.pull 1) q0q hx19)) <|
    p (yl_assign rfl) <| p (yl_assign rfl) <| x_done <| x_seq <|
    x_region <| p (yl_move rfl) <| p (yconvi uk_77 ik_2 rfl hx21) <| p (yl_move q0y) <|
    p (yadd rfl rfl hx23) <| p (yl_assign rfl) <| x_done <| x_seq <|
    x_seq <| x_region <| p (yl_move rfl) <| p (yl_move q0b) <|
    p (yl_len_slice usl_39 rfl) <| p (yl_lss rfl rfl) <| x_done <| ?_
   replace hFL4 := bd_s hFL4; obtain ⟨oc27, hFc27, hFL4⟩ := hFL4
   refine x_join (fun E w => ∃ (q0i : Int), q0i = oc27 ∧ E 1 = .slice q0k b1.length c_b1 ∧ E 5 = .slice A12 q2.length q2.length ∧ E 7 = .int .i64 q4 ∧ E 9 = .int .i64 q0i ∧ E 13 = .slice q0j a0.length c_a0 ∧ E 14 = .int .i64 (a0.length : Int) ∧ E 15 = .int .i64 q4 ∧ St w0 w (vec 77 (RpI .u32).sz (.slice A12 q2.length q2.length) q2.length q3 :: ro ρ :: l)) ?_ ?_
   ·refine x_cond_p (q4 < (b1.length : Int)) rfl (fun hc27 => ?_) (fun hc27 => ?_)
    ·replace hFc27 := it_t hc27 hFc27
     replace hFc27 := ck_s hFc27; obtain ⟨q0r, hFc27⟩ := hFc27
     replace hFc27 := lv_s hFc27; obtain ⟨x32, hx32, hFc27⟩ := hFc27
     replace hFc27 := ar_s hFc27; obtain ⟨x33, hx33, hFc27⟩ := hFc27
     replace hFc27 := ar_s hFc27; obtain ⟨x34, hx34, hFc27⟩ := hFc27
     refine x_region <| p (yl_move rfl) <| p (yl_move q0b) <| p (yl_move rfl) <|
      p (yix_f sl_39 rfl rfl q0p q0r) <| pa (at_load one_77 rfl (RdS.getW q0p (hS.pull 1) q0r hx32)) <| p (yconvi uk_77 ik_2 rfl hx33) <| p (ysub rfl rfl hx34) <|
      p (yl_assign rfl) <| x_done <| ?_
     exact x_inv ⟨x34, (sinj hFc27), q0b, q0h, rfl, rfl, q0d, q0e, q7, ((hS.pull 1).pull 1)⟩
    ·replace hFc27 := it_f hc27 hFc27
     refine x_skip <| ?_
     exact x_inv ⟨x23, (sinj hFc27), q0b, q0h, rfl, rfl, q0d, q0e, q7, ((hS.pull 1).pull 1)⟩
   rintro E w ⟨q0i, rfl, q0z, q0l, q10, q0m, q0t, q0u, q0v, hS⟩
   replace hFL4 := lv_s hFL4; obtain ⟨x38, hx38, hFL4⟩ := hFL4
   replace hFL4 := ck_s hFL4; obtain ⟨q0s, hFL4⟩ := hFL4
   refine x_seq <| x_region <| p (yl_move q0l) <| p (yl_move q10) <|
    p (yl_move q0m) <| p (yconvu wm_u32 uk_2 ik_77 rfl hx38) <| p (yix_o sl_39 rfl rfl hS q9 q0s) <| ?_
   replace hFL4 := lv_s hFL4; obtain ⟨q18, q14, hFL4⟩ := hFL4
   refine o_put' (news := [.int .u32 x38]) sz_77 rfl rfl rfl rfl (o := 0) rfl q0s rfl hS q9 (Le.refl _) (fun c hc => ok_all hc (show (RpI .u32).ok ρ [.int .u32 x38] x38 from rfl)) q14 (fun q15 w' q16 hS => ?_)
   replace hFL4 := ck_s hFL4; obtain ⟨q11, hFL4⟩ := hFL4
   replace hFL4 := lv_s hFL4; obtain ⟨x41, hx41, hFL4⟩ := hFL4
   replace hFL4 := ar_s hFL4; obtain ⟨x42, hx42, hFL4⟩ := hFL4
   refine x_done <| x_region <| p (yl_move q0m) <| p (yshr rfl rfl q11 hx41) <|
    p (yl_assign rfl) <| x_done <| x_blk <| x_region <|
    p (yadd q0v rfl hx42) <| p (yl_move rfl) <| x_done <| ?_
   have e_ := sinj hFL4; subst e_
   exact x_inv ⟨kL4, Nat.lt_succ_self _, q15, q18, x41, x42, hLL4, q0z, q0l, rfl, q0t, q0u, rfl, q16, ((hS.pull 1).pull 1)⟩
  ·replace hFL4 := it_f hc16 hFL4
   refine x_exitTo _ rfl <| ?_
   have e_ := sinj hFL4; subst e_
   exact x_inv ⟨q3, q8, hLL4, q0h, q9, ((hS.pull 1).pull 1)⟩
 rintro E w ⟨q5, q0c, rfl, q17, q0n, hS⟩
 refine x_seq <| x_region <| p (yl_move q17) <| p (yl_assign rfl) <|
  x_done <| ?_
 have e_ := sinj hF; subst e_
 exact x_return ⟨_, ⟨_, _, rfl, rfl, rfl⟩, A12, q2.length, q2.length, q5, rfl, q0n, ((hS.pull 1).pull 1)⟩
attribute [irreducible] P_exact_subMag

def P_exact_plus (a0 : T_exact_Int) (b1 : T_exact_Int) : Option T_exact_Int :=
 if (a0.fneg == b1.fneg) = true then
  bd (P_exact_addMag a0.fmag b1.fmag) fun q2 =>
  bd (P_exact_made a0.fneg q2) fun q3 =>
  some q3
 else
  bd (P_exact_cmpMag a0.fmag b1.fmag) fun q4 =>
  if 0 ≤ q4 then
   bd (P_exact_subMag a0.fmag b1.fmag) fun q5 =>
   bd (P_exact_made a0.fneg q5) fun q6 =>
   some q6
  else
   bd (P_exact_subMag b1.fmag a0.fmag) fun q7 =>
   bd (P_exact_made b1.fneg q7) fun q8 =>
   some q8
theorem c_exact_plus {w0 w : World} {l : List Assn} {ρ : Heap} {q5 : Option Addr} {q1q : Nat} {c_a0_1 : Nat} {q6 : Option Addr} {q1r : Nat} {c_b1_1 : Nat} {a0 : T_exact_Int} {b1 : T_exact_Int} {r : T_exact_Int} (hF : P_exact_plus a0 b1 = some r) (q0m : RdS (RpI .u32) ρ q5 q1q c_a0_1 a0.fmag) (q0n : RdS (RpI .u32) ρ q6 q1r c_b1_1 b1.fmag) (hS : St w0 w (ro ρ :: l)) :
  Calls Try.prog 36 #[.agg #[.bool a0.fneg, .slice q5 q1q c_a0_1], .agg #[.bool b1.fneg, .slice q6 q1r c_b1_1]] w fun e w' => ∃ (ρ' : Heap) (q0o : Option Addr) (q0p : Nat) (c_y0_ret_1 : Nat), e = .returned (.agg #[.bool r.fneg, .slice q0o q0p c_y0_ret_1]) ∧ Le ρ ρ' ∧ RdS (RpI .u32) ρ' q0o q0p c_y0_ret_1 r.fmag ∧ St w0 w' (ro ρ' :: l) := by
 have e_ := q0m.n; subst e_
 have e_ := q0n.n; subst e_
 refine enterC Try.func36 rfl 42 rfl (by simp) ?_
 refine x_seq <| x_region <| ?_
 refine o_box (cs := [.bool a0.fneg, .slice q5 a0.fmag.length c_a0_1]) rfl rfl hS (fun b2 w' hS => ?_)
 refine o_box (cs := [.bool b1.fneg, .slice q6 b1.fmag.length c_b1_1]) rfl rfl hS (fun b3 w' hS => ?_)
 refine o_alloc zero_41 hS (fun b4 w' hS => ?_)
 refine x_done <| x_seq <| x_block <| x_seq <|
  x_region <| p (yl_field0 fld_41_0 rfl) <| pa (at_load one_4 rfl ((hS.pull 2).cell rfl)) <| p (yl_field0 fld_41_0 rfl) <|
  pa (at_load one_4 rfl ((hS.pull 1).cell rfl)) <| p (yeqb ub_4 rfl rfl) <| p (yl_assign rfl) <| x_done <|
  x_cond (t := (a0.fneg == b1.fneg)) rfl (fun hc5 => ?_) (fun hc5 => ?_)
 ·replace hF := it_t hc5 hF
  refine x_seq <| ?_
  replace hF := bd_s hF; obtain ⟨q0d, q2a, hF⟩ := hF
  replace hF := bd_s hF; obtain ⟨q0a, q2b, hF⟩ := hF
  refine x_par (w0 := w0) [⟨[], [], [11], [], [], []⟩, ⟨[0], [0], [12], [0], [], []⟩, ⟨[], [], [13], [], [], []⟩, ⟨[2], [2], [14], [0], [], []⟩, ⟨[], [], [15], [], [], []⟩, ⟨[4], [4], [16], [1], [], []⟩, ⟨[2, 3, 4, 5], [3, 5], [17], [2], [], [3]⟩, ⟨[0, 1, 2, 3, 4, 5, 6], [1, 6], [18], [2], [3], [4]⟩, ⟨[0, 1, 2, 3, 4, 5, 6, 7], [7], [], [], [5], [6]⟩] [⟨none, none, []⟩, ⟨none, none, []⟩, ⟨none, none, []⟩, ⟨(some 6), (some 7), [17]⟩, ⟨(some 7), none, [17, 18]⟩, ⟨none, (some 8), []⟩, ⟨(some 8), none, [18]⟩] [11, 12, 13, 14, 15, 16, 17, 18] [0, 1, 2, 5] [0, 1, 2, 4, 6] [0, 1, 2, 3, 4, 5, 6, 7] [fun Ep2 => Ep2 11 = .pointer (some ⟨b2, 0, none⟩), fun Ep2 => Ep2 12 = .bool a0.fneg, fun Ep2 => Ep2 13 = .pointer (some ⟨b2, 1, none⟩), fun Ep2 => Ep2 14 = .slice q5 a0.fmag.length c_a0_1, fun Ep2 => Ep2 15 = .pointer (some ⟨b3, 1, none⟩), fun Ep2 => Ep2 16 = .slice q6 b1.fmag.length c_b1_1, fun Ep2 => Ep2 17 = .slice (adOf (Ep2 17)) q0d.length (capOf (Ep2 17)), fun Ep2 => Ep2 18 = .agg #[.bool q0a.fneg, .slice (adOf (partOf 1 (Ep2 18))) q0a.fmag.length (capOf (partOf 1 (Ep2 18)))], fun Ep2 => True] [fun Ep2 => cells b2 41 [.bool a0.fneg, .slice q5 a0.fmag.length c_a0_1], fun Ep2 => cells b3 41 [.bool b1.fneg, .slice q6 b1.fmag.length c_b1_1], fun Ep2 => ro ρ, fun Ep2 => bunA (fun (q2 : List Value) => RepL (RpI .u32) ρ q0d q2) (fun (q2 : List Value) => [vec 77 (RpI .u32).sz (.slice (adOf (Ep2 17)) q0d.length (capOf (Ep2 17))) q0d.length q2]), fun Ep2 => bunA (fun (q7 : Heap) => Le ρ q7 ∧ RdS (RpI .u32) q7 (adOf (Ep2 17)) q0d.length (capOf (Ep2 17)) q0d ∧ RdS (RpI .u32) q7 (adOf (partOf 1 (Ep2 18))) q0a.fmag.length (capOf (partOf 1 (Ep2 18))) q0a.fmag) (fun (q7 : Heap) => [roD ρ q7]), fun Ep2 => cells b4 41 [.bool false, .slice none 0 0], fun Ep2 => cells b4 41 [.bool q0a.fneg, .slice (adOf (partOf 1 (Ep2 18))) q0a.fmag.length (capOf (partOf 1 (Ep2 18)))]] mixed (by kernel_rfl) (((hS.pull 3).pull 2).pull 3) ?_ ?_
  ·refine ⟨?_, ?_, ?_, ?_, ?_, ?_, ?_, ?_, ?_, trivial⟩
   ·intro Ep2 w l' hE2 hO2 hF_ hS
    refine p (yl_field0 fld_41_0 (hE2 2 rfl)) <| x_done <| ?_
    refine x_fin ⟨⟨_, rfl⟩, rfl, ?_⟩
    exact emk hS
   ·intro Ep2 w l' hE2 hO2 hF_ hS
    obtain ⟨q0q, -⟩ := hF_
    replace q0q : Ep2 11 = .pointer (some ⟨b2, 0, none⟩) := emk q0q
    replace hS : St w0 w (cells b2 41 [.bool a0.fneg, .slice q5 a0.fmag.length c_a0_1] :: l') := emk hS
    refine pa (at_load one_4 q0q (hS.cell rfl)) <| x_done <| ?_
    refine x_fin ⟨⟨_, rfl⟩, rfl, ?_⟩
    exact emk hS
   ·intro Ep2 w l' hE2 hO2 hF_ hS
    refine p (yl_field0 fld_41_1 (hE2 2 rfl)) <| x_done <| ?_
    refine x_fin ⟨⟨_, rfl⟩, rfl, ?_⟩
    exact emk hS
   ·intro Ep2 w l' hE2 hO2 hF_ hS
    obtain ⟨q0r, -⟩ := hF_
    replace q0r : Ep2 13 = .pointer (some ⟨b2, 1, none⟩) := emk q0r
    replace hS : St w0 w (cells b2 41 [.bool a0.fneg, .slice q5 a0.fmag.length c_a0_1] :: l') := emk hS
    refine pa (at_load one_39 q0r (hS.cell rfl)) <| x_done <| ?_
    refine x_fin ⟨⟨_, rfl⟩, rfl, ?_⟩
    exact emk hS
   ·intro Ep2 w l' hE2 hO2 hF_ hS
    refine p (yl_field0 fld_41_1 (hE2 3 rfl)) <| x_done <| ?_
    refine x_fin ⟨⟨_, rfl⟩, rfl, ?_⟩
    exact emk hS
   ·intro Ep2 w l' hE2 hO2 hF_ hS
    obtain ⟨q0s, -⟩ := hF_
    replace q0s : Ep2 15 = .pointer (some ⟨b3, 1, none⟩) := emk q0s
    replace hS : St w0 w (cells b3 41 [.bool b1.fneg, .slice q6 b1.fmag.length c_b1_1] :: l') := emk hS
    refine pa (at_load one_39 q0s (hS.cell rfl)) <| x_done <| ?_
    refine x_fin ⟨⟨_, rfl⟩, rfl, ?_⟩
    exact emk hS
   ·intro Ep2 w l' hE2 hO2 hF_ hS
    obtain ⟨q0t, q0u, -⟩ := hF_
    replace q0t : Ep2 14 = .slice q5 a0.fmag.length c_a0_1 := emk q0t
    replace q0u : Ep2 16 = .slice q6 b1.fmag.length c_b1_1 := emk q0u
    replace hS : St w0 w (ro ρ :: l') := emk hS
    have hcall := c_exact_addMag q2a q0m q0n hS
    refine o_cc call_52 (args2 q0t q0u) hcall ?_
    rintro e w' ⟨q1h, q24, c_y0_ret_2_6, q2, rfl, q0j, hS⟩
    refine ⟨_, rfl, ?_⟩
    have e_ := St.vec_n hS q0j; subst e_
    refine x_done <| ?_
    refine x_fin ⟨⟨_, rfl⟩, rfl, ?_⟩
    replace hS := St.bun (Φ := (fun (q2 : List Value) => RepL (RpI .u32) ρ q0d q2)) (L := (fun (q2 : List Value) => [vec 77 (RpI .u32).sz (.slice q1h q0d.length c_y0_ret_2_6) q0d.length q2])) q2 q0j hS
    exact emk (hS.pull 1)
   ·intro Ep2 w l' hE2 hO2 hF_ hS
    obtain ⟨q0v, q0w, -⟩ := hF_
    replace q0v : Ep2 12 = .bool a0.fneg := emk q0v
    replace q0w : Ep2 17 = .slice (adOf (Ep2 17)) q0d.length (capOf (Ep2 17)) := emk q0w
    replace hS : St w0 w (ro ρ :: bunA (fun (q2 : List Value) => RepL (RpI .u32) ρ q0d q2) (fun (q2 : List Value) => [vec 77 (RpI .u32).sz (.slice (adOf (Ep2 17)) q0d.length (capOf (Ep2 17))) q0d.length q2]) :: l') := emk hS
    have q_ := St.unbun (hS.pull 1); obtain ⟨q2, q0j, hS⟩ := q_
    have q_ := St.vec_fz ((hS.pull 1).pull 1) q0j; obtain ⟨q7, q1k, q1n, hS⟩ := q_
    have hcall := c_exact_made q2b q1n hS
    refine o_cc call_35 (args2 q0v q0w) hcall ?_
    rintro e w' ⟨q0x, q1v, c_y0_ret_1_2_7, rfl, q0g, hS⟩
    refine ⟨_, rfl, ?_⟩
    have e_ := q0g.n; subst e_
    refine x_done <| ?_
    refine x_fin ⟨⟨_, rfl⟩, rfl, ?_⟩
    replace hS := St.ro_split q1k hS
    replace hS := St.bun (Φ := (fun (q7 : Heap) => Le ρ q7 ∧ RdS (RpI .u32) q7 (adOf (Ep2 17)) q0d.length (capOf (Ep2 17)) q0d ∧ RdS (RpI .u32) q7 q0x q0a.fmag.length c_y0_ret_1_2_7 q0a.fmag)) (L := (fun (q7 : Heap) => [roD ρ q7])) q7 ⟨q1k, q1n, q0g⟩ (hS.pull 1)
    exact emk (hS.pull 1)
   ·intro Ep2 w l' hE2 hO2 hF_ hS
    obtain ⟨q0y, -⟩ := hF_
    replace q0y : Ep2 18 = .agg #[.bool q0a.fneg, .slice (adOf (partOf 1 (Ep2 18))) q0a.fmag.length (capOf (partOf 1 (Ep2 18)))] := emk q0y
    replace hS : St w0 w (cells b4 41 [.bool false, .slice none 0 0] :: l') := emk hS
    refine o_storeAgg (news := [.bool q0a.fneg, .slice (adOf (partOf 1 (Ep2 18))) q0a.fmag.length (capOf (partOf 1 (Ep2 18)))]) agg_41 (hE2 4 rfl) q0y rfl (by simp [over_length]) hS (fun w' hS => ?_)
    refine x_done <| ?_
    refine x_fin ⟨⟨undef, rfl⟩, trivial, ?_⟩
    exact emk hS
  intro Ep2 w' hE2 hF_ hS
  obtain ⟨q0q, q0v, q0r, q0t, q0s, q0u, q0w, q0y, -⟩ := hF_
  replace q0q : Ep2 11 = .pointer (some ⟨b2, 0, none⟩) := emk q0q
  replace q0v : Ep2 12 = .bool a0.fneg := emk q0v
  replace q0r : Ep2 13 = .pointer (some ⟨b2, 1, none⟩) := emk q0r
  replace q0t : Ep2 14 = .slice q5 a0.fmag.length c_a0_1 := emk q0t
  replace q0s : Ep2 15 = .pointer (some ⟨b3, 1, none⟩) := emk q0s
  replace q0u : Ep2 16 = .slice q6 b1.fmag.length c_b1_1 := emk q0u
  replace q0w : Ep2 17 = .slice (adOf (Ep2 17)) q0d.length (capOf (Ep2 17)) := emk q0w
  replace q0y : Ep2 18 = .agg #[.bool q0a.fneg, .slice (adOf (partOf 1 (Ep2 18))) q0a.fmag.length (capOf (partOf 1 (Ep2 18)))] := emk q0y
  replace hS : St w0 w' (cells b2 41 [.bool a0.fneg, .slice q5 a0.fmag.length c_a0_1] :: cells b3 41 [.bool b1.fneg, .slice q6 b1.fmag.length c_b1_1] :: ro ρ :: bunA (fun (q7 : Heap) => Le ρ q7 ∧ RdS (RpI .u32) q7 (adOf (Ep2 17)) q0d.length (capOf (Ep2 17)) q0d ∧ RdS (RpI .u32) q7 (adOf (partOf 1 (Ep2 18))) q0a.fmag.length (capOf (partOf 1 (Ep2 18))) q0a.fmag) (fun (q7 : Heap) => [roD ρ q7]) :: cells b4 41 [.bool q0a.fneg, .slice (adOf (partOf 1 (Ep2 18))) q0a.fmag.length (capOf (partOf 1 (Ep2 18)))] :: (l)) := emk hS
  have q_ := St.unbun (hS.pull 3); obtain ⟨q7, ⟨q1s, q1n, q0g⟩, hS⟩ := q_
  have q_ := St.ro_join (hS.pull 3) (Le.refl _) q1s; obtain ⟨q25, q1w, q1x, hS, q2h⟩ := q_
  have e_ := sinj hF; subst e_
  exact x_return ⟨_, ⟨_, _, _, rfl, (hE2 4 rfl), ldvA agg_41 rfl (fun j v hj => by rw [add0]; exact St.cell (hS.pull 3) hj), rfl⟩, q25, (adOf (partOf 1 (Ep2 18))), q0a.fmag.length, (capOf (partOf 1 (Ep2 18))), rfl, q1w, (q0g.le q1x), ((((hS.pull 1).drop.pull 1).drop.pull 1).drop)⟩
 ·replace hF := it_bf hc5 hF
  replace hF := bd_s hF; obtain ⟨q2i, q2c, hF⟩ := hF
  refine x_seq <| x_region <| p (yl_field0 fld_41_1 rfl) <| pa (at_load one_39 rfl ((hS.pull 2).cell rfl)) <|
   p (yl_field0 fld_41_1 rfl) <| pa (at_load one_39 rfl ((hS.pull 1).cell rfl)) <| ?_
  have hcall := c_exact_cmpMag q2c q0m q0n (hS.pull 3)
  refine o_cc call_48 (args2 rfl rfl) ((Calls.mono hcall (fun e w'' h => And.intro h.1 (((h.2.pull 3).pull 3).pull 3)))) ?_
  rintro e w' ⟨rfl, hS⟩
  refine ⟨_, rfl, ?_⟩
  refine p (yl_geq rfl rfl) <| p (yl_assign rfl) <| x_done <|
   x_cond_p (0 ≤ q2i) rfl (fun hc19 => ?_) (fun hc19 => ?_)
  ·replace hF := it_t hc19 hF
   refine x_seq <| ?_
   replace hF := bd_s hF; obtain ⟨q0e, q2d, hF⟩ := hF
   replace hF := bd_s hF; obtain ⟨q0b, q2e, hF⟩ := hF
   refine x_par (w0 := w0) [⟨[], [], [26], [], [], []⟩, ⟨[0], [0], [27], [0], [], []⟩, ⟨[], [], [28], [], [], []⟩, ⟨[2], [2], [29], [0], [], []⟩, ⟨[], [], [30], [], [], []⟩, ⟨[4], [4], [31], [1], [], []⟩, ⟨[2, 3, 4, 5], [3, 5], [32], [2], [], [3]⟩, ⟨[0, 1, 2, 3, 4, 5, 6], [1, 6], [33], [2], [3], [4]⟩, ⟨[0, 1, 2, 3, 4, 5, 6, 7], [7], [], [], [5], [6]⟩] [⟨none, none, []⟩, ⟨none, none, []⟩, ⟨none, none, []⟩, ⟨(some 6), (some 7), [32]⟩, ⟨(some 7), none, [32, 33]⟩, ⟨none, (some 8), []⟩, ⟨(some 8), none, [33]⟩] [26, 27, 28, 29, 30, 31, 32, 33] [0, 1, 2, 5] [0, 1, 2, 4, 6] [0, 1, 2, 3, 4, 5, 6, 7] [fun Ep4 => Ep4 26 = .pointer (some ⟨b2, 0, none⟩), fun Ep4 => Ep4 27 = .bool a0.fneg, fun Ep4 => Ep4 28 = .pointer (some ⟨b2, 1, none⟩), fun Ep4 => Ep4 29 = .slice q5 a0.fmag.length c_a0_1, fun Ep4 => Ep4 30 = .pointer (some ⟨b3, 1, none⟩), fun Ep4 => Ep4 31 = .slice q6 b1.fmag.length c_b1_1, fun Ep4 => Ep4 32 = .slice (adOf (Ep4 32)) q0e.length (capOf (Ep4 32)), fun Ep4 => Ep4 33 = .agg #[.bool q0b.fneg, .slice (adOf (partOf 1 (Ep4 33))) q0b.fmag.length (capOf (partOf 1 (Ep4 33)))], fun Ep4 => True] [fun Ep4 => cells b2 41 [.bool a0.fneg, .slice q5 a0.fmag.length c_a0_1], fun Ep4 => cells b3 41 [.bool b1.fneg, .slice q6 b1.fmag.length c_b1_1], fun Ep4 => ro ρ, fun Ep4 => bunA (fun (q3 : List Value) => RepL (RpI .u32) ρ q0e q3) (fun (q3 : List Value) => [vec 77 (RpI .u32).sz (.slice (adOf (Ep4 32)) q0e.length (capOf (Ep4 32))) q0e.length q3]), fun Ep4 => bunA (fun (q8 : Heap) => Le ρ q8 ∧ RdS (RpI .u32) q8 (adOf (Ep4 32)) q0e.length (capOf (Ep4 32)) q0e ∧ RdS (RpI .u32) q8 (adOf (partOf 1 (Ep4 33))) q0b.fmag.length (capOf (partOf 1 (Ep4 33))) q0b.fmag) (fun (q8 : Heap) => [roD ρ q8]), fun Ep4 => cells b4 41 [.bool false, .slice none 0 0], fun Ep4 => cells b4 41 [.bool q0b.fneg, .slice (adOf (partOf 1 (Ep4 33))) q0b.fmag.length (capOf (partOf 1 (Ep4 33)))]] mixed (by kernel_rfl) (((hS.pull 3).pull 2).pull 3) ?_ ?_
   ·refine ⟨?_, ?_, ?_, ?_, ?_, ?_, ?_, ?_, ?_, trivial⟩
    ·intro Ep4 w l' hE4 hO4 hF_ hS
     refine p (yl_field0 fld_41_0 (hE4 2 rfl)) <| x_done <| ?_
     refine x_fin ⟨⟨_, rfl⟩, rfl, ?_⟩
     exact emk hS
    ·intro Ep4 w l' hE4 hO4 hF_ hS
     obtain ⟨q0z, -⟩ := hF_
     replace q0z : Ep4 26 = .pointer (some ⟨b2, 0, none⟩) := emk q0z
     replace hS : St w0 w (cells b2 41 [.bool a0.fneg, .slice q5 a0.fmag.length c_a0_1] :: l') := emk hS
     refine pa (at_load one_4 q0z (hS.cell rfl)) <| x_done <| ?_
     refine x_fin ⟨⟨_, rfl⟩, rfl, ?_⟩
     exact emk hS
    ·intro Ep4 w l' hE4 hO4 hF_ hS
     refine p (yl_field0 fld_41_1 (hE4 2 rfl)) <| x_done <| ?_
     refine x_fin ⟨⟨_, rfl⟩, rfl, ?_⟩
     exact emk hS
    ·intro Ep4 w l' hE4 hO4 hF_ hS
     obtain ⟨q10, -⟩ := hF_
     replace q10 : Ep4 28 = .pointer (some ⟨b2, 1, none⟩) := emk q10
     replace hS : St w0 w (cells b2 41 [.bool a0.fneg, .slice q5 a0.fmag.length c_a0_1] :: l') := emk hS
     refine pa (at_load one_39 q10 (hS.cell rfl)) <| x_done <| ?_
     refine x_fin ⟨⟨_, rfl⟩, rfl, ?_⟩
     exact emk hS
    ·intro Ep4 w l' hE4 hO4 hF_ hS
     refine p (yl_field0 fld_41_1 (hE4 3 rfl)) <| x_done <| ?_
     refine x_fin ⟨⟨_, rfl⟩, rfl, ?_⟩
     exact emk hS
    ·intro Ep4 w l' hE4 hO4 hF_ hS
     obtain ⟨q11, -⟩ := hF_
     replace q11 : Ep4 30 = .pointer (some ⟨b3, 1, none⟩) := emk q11
     replace hS : St w0 w (cells b3 41 [.bool b1.fneg, .slice q6 b1.fmag.length c_b1_1] :: l') := emk hS
     refine pa (at_load one_39 q11 (hS.cell rfl)) <| x_done <| ?_
     refine x_fin ⟨⟨_, rfl⟩, rfl, ?_⟩
     exact emk hS
    ·intro Ep4 w l' hE4 hO4 hF_ hS
     obtain ⟨q12, q13, -⟩ := hF_
     replace q12 : Ep4 29 = .slice q5 a0.fmag.length c_a0_1 := emk q12
     replace q13 : Ep4 31 = .slice q6 b1.fmag.length c_b1_1 := emk q13
     replace hS : St w0 w (ro ρ :: l') := emk hS
     have hcall := c_exact_subMag q2d q0m q0n hS
     refine o_cc call_53 (args2 q12 q13) hcall ?_
     rintro e w' ⟨q1i, q26, c_y0_ret_4_6, q3, rfl, q0k, hS⟩
     refine ⟨_, rfl, ?_⟩
     have e_ := St.vec_n hS q0k; subst e_
     refine x_done <| ?_
     refine x_fin ⟨⟨_, rfl⟩, rfl, ?_⟩
     replace hS := St.bun (Φ := (fun (q3 : List Value) => RepL (RpI .u32) ρ q0e q3)) (L := (fun (q3 : List Value) => [vec 77 (RpI .u32).sz (.slice q1i q0e.length c_y0_ret_4_6) q0e.length q3])) q3 q0k hS
     exact emk (hS.pull 1)
    ·intro Ep4 w l' hE4 hO4 hF_ hS
     obtain ⟨q14, q15, -⟩ := hF_
     replace q14 : Ep4 27 = .bool a0.fneg := emk q14
     replace q15 : Ep4 32 = .slice (adOf (Ep4 32)) q0e.length (capOf (Ep4 32)) := emk q15
     replace hS : St w0 w (ro ρ :: bunA (fun (q3 : List Value) => RepL (RpI .u32) ρ q0e q3) (fun (q3 : List Value) => [vec 77 (RpI .u32).sz (.slice (adOf (Ep4 32)) q0e.length (capOf (Ep4 32))) q0e.length q3]) :: l') := emk hS
     have q_ := St.unbun (hS.pull 1); obtain ⟨q3, q0k, hS⟩ := q_
     have q_ := St.vec_fz ((hS.pull 1).pull 1) q0k; obtain ⟨q8, q1l, q1o, hS⟩ := q_
     have hcall := c_exact_made q2e q1o hS
     refine o_cc call_35 (args2 q14 q15) hcall ?_
     rintro e w' ⟨q16, q1y, c_y0_ret_1_4_7, rfl, q0h, hS⟩
     refine ⟨_, rfl, ?_⟩
     have e_ := q0h.n; subst e_
     refine x_done <| ?_
     refine x_fin ⟨⟨_, rfl⟩, rfl, ?_⟩
     replace hS := St.ro_split q1l hS
     replace hS := St.bun (Φ := (fun (q8 : Heap) => Le ρ q8 ∧ RdS (RpI .u32) q8 (adOf (Ep4 32)) q0e.length (capOf (Ep4 32)) q0e ∧ RdS (RpI .u32) q8 q16 q0b.fmag.length c_y0_ret_1_4_7 q0b.fmag)) (L := (fun (q8 : Heap) => [roD ρ q8])) q8 ⟨q1l, q1o, q0h⟩ (hS.pull 1)
     exact emk (hS.pull 1)
    ·intro Ep4 w l' hE4 hO4 hF_ hS
     obtain ⟨q17, -⟩ := hF_
     replace q17 : Ep4 33 = .agg #[.bool q0b.fneg, .slice (adOf (partOf 1 (Ep4 33))) q0b.fmag.length (capOf (partOf 1 (Ep4 33)))] := emk q17
     replace hS : St w0 w (cells b4 41 [.bool false, .slice none 0 0] :: l') := emk hS
     refine o_storeAgg (news := [.bool q0b.fneg, .slice (adOf (partOf 1 (Ep4 33))) q0b.fmag.length (capOf (partOf 1 (Ep4 33)))]) agg_41 (hE4 4 rfl) q17 rfl (by simp [over_length]) hS (fun w' hS => ?_)
     refine x_done <| ?_
     refine x_fin ⟨⟨undef, rfl⟩, trivial, ?_⟩
     exact emk hS
   intro Ep4 w' hE4 hF_ hS
   obtain ⟨q0z, q14, q10, q12, q11, q13, q15, q17, -⟩ := hF_
   replace q0z : Ep4 26 = .pointer (some ⟨b2, 0, none⟩) := emk q0z
   replace q14 : Ep4 27 = .bool a0.fneg := emk q14
   replace q10 : Ep4 28 = .pointer (some ⟨b2, 1, none⟩) := emk q10
   replace q12 : Ep4 29 = .slice q5 a0.fmag.length c_a0_1 := emk q12
   replace q11 : Ep4 30 = .pointer (some ⟨b3, 1, none⟩) := emk q11
   replace q13 : Ep4 31 = .slice q6 b1.fmag.length c_b1_1 := emk q13
   replace q15 : Ep4 32 = .slice (adOf (Ep4 32)) q0e.length (capOf (Ep4 32)) := emk q15
   replace q17 : Ep4 33 = .agg #[.bool q0b.fneg, .slice (adOf (partOf 1 (Ep4 33))) q0b.fmag.length (capOf (partOf 1 (Ep4 33)))] := emk q17
   replace hS : St w0 w' (cells b2 41 [.bool a0.fneg, .slice q5 a0.fmag.length c_a0_1] :: cells b3 41 [.bool b1.fneg, .slice q6 b1.fmag.length c_b1_1] :: ro ρ :: bunA (fun (q8 : Heap) => Le ρ q8 ∧ RdS (RpI .u32) q8 (adOf (Ep4 32)) q0e.length (capOf (Ep4 32)) q0e ∧ RdS (RpI .u32) q8 (adOf (partOf 1 (Ep4 33))) q0b.fmag.length (capOf (partOf 1 (Ep4 33))) q0b.fmag) (fun (q8 : Heap) => [roD ρ q8]) :: cells b4 41 [.bool q0b.fneg, .slice (adOf (partOf 1 (Ep4 33))) q0b.fmag.length (capOf (partOf 1 (Ep4 33)))] :: (l)) := emk hS
   have q_ := St.unbun (hS.pull 3); obtain ⟨q8, ⟨q1t, q1o, q0h⟩, hS⟩ := q_
   have q_ := St.ro_join (hS.pull 3) (Le.refl _) q1t; obtain ⟨q27, q1z, q20, hS, q2j⟩ := q_
   have e_ := sinj hF; subst e_
   exact x_return ⟨_, ⟨_, _, _, rfl, (hE4 4 rfl), ldvA agg_41 rfl (fun j v hj => by rw [add0]; exact St.cell (hS.pull 3) hj), rfl⟩, q27, (adOf (partOf 1 (Ep4 33))), q0b.fmag.length, (capOf (partOf 1 (Ep4 33))), rfl, q1z, (q0h.le q20), ((((hS.pull 1).drop.pull 1).drop.pull 1).drop)⟩
  ·replace hF := it_f hc19 hF
   refine x_skip <| x_blk <| x_seq <| ?_
   replace hF := bd_s hF; obtain ⟨q0f, q2f, hF⟩ := hF
   replace hF := bd_s hF; obtain ⟨q0c, q2g, hF⟩ := hF
   refine x_par (w0 := w0) [⟨[], [], [34], [], [], []⟩, ⟨[0], [0], [35], [0], [], []⟩, ⟨[], [], [36], [], [], []⟩, ⟨[2], [2], [37], [0], [], []⟩, ⟨[], [], [38], [], [], []⟩, ⟨[4], [4], [39], [1], [], []⟩, ⟨[2, 3, 4, 5], [3, 5], [40], [2], [], [3]⟩, ⟨[0, 1, 2, 3, 4, 5, 6], [1, 6], [41], [2], [3], [4]⟩, ⟨[0, 1, 2, 3, 4, 5, 6, 7], [7], [], [], [5], [6]⟩] [⟨none, none, []⟩, ⟨none, none, []⟩, ⟨none, none, []⟩, ⟨(some 6), (some 7), [40]⟩, ⟨(some 7), none, [40, 41]⟩, ⟨none, (some 8), []⟩, ⟨(some 8), none, [41]⟩] [34, 35, 36, 37, 38, 39, 40, 41] [0, 1, 2, 5] [0, 1, 2, 4, 6] [0, 1, 2, 3, 4, 5, 6, 7] [fun Ep5 => Ep5 34 = .pointer (some ⟨b3, 0, none⟩), fun Ep5 => Ep5 35 = .bool b1.fneg, fun Ep5 => Ep5 36 = .pointer (some ⟨b3, 1, none⟩), fun Ep5 => Ep5 37 = .slice q6 b1.fmag.length c_b1_1, fun Ep5 => Ep5 38 = .pointer (some ⟨b2, 1, none⟩), fun Ep5 => Ep5 39 = .slice q5 a0.fmag.length c_a0_1, fun Ep5 => Ep5 40 = .slice (adOf (Ep5 40)) q0f.length (capOf (Ep5 40)), fun Ep5 => Ep5 41 = .agg #[.bool q0c.fneg, .slice (adOf (partOf 1 (Ep5 41))) q0c.fmag.length (capOf (partOf 1 (Ep5 41)))], fun Ep5 => True] [fun Ep5 => cells b3 41 [.bool b1.fneg, .slice q6 b1.fmag.length c_b1_1], fun Ep5 => cells b2 41 [.bool a0.fneg, .slice q5 a0.fmag.length c_a0_1], fun Ep5 => ro ρ, fun Ep5 => bunA (fun (q4 : List Value) => RepL (RpI .u32) ρ q0f q4) (fun (q4 : List Value) => [vec 77 (RpI .u32).sz (.slice (adOf (Ep5 40)) q0f.length (capOf (Ep5 40))) q0f.length q4]), fun Ep5 => bunA (fun (q9 : Heap) => Le ρ q9 ∧ RdS (RpI .u32) q9 (adOf (Ep5 40)) q0f.length (capOf (Ep5 40)) q0f ∧ RdS (RpI .u32) q9 (adOf (partOf 1 (Ep5 41))) q0c.fmag.length (capOf (partOf 1 (Ep5 41))) q0c.fmag) (fun (q9 : Heap) => [roD ρ q9]), fun Ep5 => cells b4 41 [.bool false, .slice none 0 0], fun Ep5 => cells b4 41 [.bool q0c.fneg, .slice (adOf (partOf 1 (Ep5 41))) q0c.fmag.length (capOf (partOf 1 (Ep5 41)))]] mixed (by kernel_rfl) (((hS.pull 3).pull 3).pull 3) ?_ ?_
   ·refine ⟨?_, ?_, ?_, ?_, ?_, ?_, ?_, ?_, ?_, trivial⟩
    ·intro Ep5 w l' hE5 hO5 hF_ hS
     refine p (yl_field0 fld_41_0 (hE5 3 rfl)) <| x_done <| ?_
     refine x_fin ⟨⟨_, rfl⟩, rfl, ?_⟩
     exact emk hS
    ·intro Ep5 w l' hE5 hO5 hF_ hS
     obtain ⟨q18, -⟩ := hF_
     replace q18 : Ep5 34 = .pointer (some ⟨b3, 0, none⟩) := emk q18
     replace hS : St w0 w (cells b3 41 [.bool b1.fneg, .slice q6 b1.fmag.length c_b1_1] :: l') := emk hS
     refine pa (at_load one_4 q18 (hS.cell rfl)) <| x_done <| ?_
     refine x_fin ⟨⟨_, rfl⟩, rfl, ?_⟩
     exact emk hS
    ·intro Ep5 w l' hE5 hO5 hF_ hS
     refine p (yl_field0 fld_41_1 (hE5 3 rfl)) <| x_done <| ?_
     refine x_fin ⟨⟨_, rfl⟩, rfl, ?_⟩
     exact emk hS
    ·intro Ep5 w l' hE5 hO5 hF_ hS
     obtain ⟨q19, -⟩ := hF_
     replace q19 : Ep5 36 = .pointer (some ⟨b3, 1, none⟩) := emk q19
     replace hS : St w0 w (cells b3 41 [.bool b1.fneg, .slice q6 b1.fmag.length c_b1_1] :: l') := emk hS
     refine pa (at_load one_39 q19 (hS.cell rfl)) <| x_done <| ?_
     refine x_fin ⟨⟨_, rfl⟩, rfl, ?_⟩
     exact emk hS
    ·intro Ep5 w l' hE5 hO5 hF_ hS
     refine p (yl_field0 fld_41_1 (hE5 2 rfl)) <| x_done <| ?_
     refine x_fin ⟨⟨_, rfl⟩, rfl, ?_⟩
     exact emk hS
    ·intro Ep5 w l' hE5 hO5 hF_ hS
     obtain ⟨q1a, -⟩ := hF_
     replace q1a : Ep5 38 = .pointer (some ⟨b2, 1, none⟩) := emk q1a
     replace hS : St w0 w (cells b2 41 [.bool a0.fneg, .slice q5 a0.fmag.length c_a0_1] :: l') := emk hS
     refine pa (at_load one_39 q1a (hS.cell rfl)) <| x_done <| ?_
     refine x_fin ⟨⟨_, rfl⟩, rfl, ?_⟩
     exact emk hS
    ·intro Ep5 w l' hE5 hO5 hF_ hS
     obtain ⟨q1b, q1c, -⟩ := hF_
     replace q1b : Ep5 37 = .slice q6 b1.fmag.length c_b1_1 := emk q1b
     replace q1c : Ep5 39 = .slice q5 a0.fmag.length c_a0_1 := emk q1c
     replace hS : St w0 w (ro ρ :: l') := emk hS
     have hcall := c_exact_subMag q2f q0n q0m hS
     refine o_cc call_53 (args2 q1b q1c) hcall ?_
     rintro e w' ⟨q1j, q28, c_y0_ret_5_6, q4, rfl, q0l, hS⟩
     refine ⟨_, rfl, ?_⟩
     have e_ := St.vec_n hS q0l; subst e_
     refine x_done <| ?_
     refine x_fin ⟨⟨_, rfl⟩, rfl, ?_⟩
     replace hS := St.bun (Φ := (fun (q4 : List Value) => RepL (RpI .u32) ρ q0f q4)) (L := (fun (q4 : List Value) => [vec 77 (RpI .u32).sz (.slice q1j q0f.length c_y0_ret_5_6) q0f.length q4])) q4 q0l hS
     exact emk (hS.pull 1)
    ·intro Ep5 w l' hE5 hO5 hF_ hS
     obtain ⟨q1d, q1e, -⟩ := hF_
     replace q1d : Ep5 35 = .bool b1.fneg := emk q1d
     replace q1e : Ep5 40 = .slice (adOf (Ep5 40)) q0f.length (capOf (Ep5 40)) := emk q1e
     replace hS : St w0 w (ro ρ :: bunA (fun (q4 : List Value) => RepL (RpI .u32) ρ q0f q4) (fun (q4 : List Value) => [vec 77 (RpI .u32).sz (.slice (adOf (Ep5 40)) q0f.length (capOf (Ep5 40))) q0f.length q4]) :: l') := emk hS
     have q_ := St.unbun (hS.pull 1); obtain ⟨q4, q0l, hS⟩ := q_
     have q_ := St.vec_fz ((hS.pull 1).pull 1) q0l; obtain ⟨q9, q1m, q1p, hS⟩ := q_
     have hcall := c_exact_made q2g q1p hS
     refine o_cc call_35 (args2 q1d q1e) hcall ?_
     rintro e w' ⟨q1f, q21, c_y0_ret_1_5_7, rfl, q0i, hS⟩
     refine ⟨_, rfl, ?_⟩
     have e_ := q0i.n; subst e_
     refine x_done <| ?_
     refine x_fin ⟨⟨_, rfl⟩, rfl, ?_⟩
     replace hS := St.ro_split q1m hS
     replace hS := St.bun (Φ := (fun (q9 : Heap) => Le ρ q9 ∧ RdS (RpI .u32) q9 (adOf (Ep5 40)) q0f.length (capOf (Ep5 40)) q0f ∧ RdS (RpI .u32) q9 q1f q0c.fmag.length c_y0_ret_1_5_7 q0c.fmag)) (L := (fun (q9 : Heap) => [roD ρ q9])) q9 ⟨q1m, q1p, q0i⟩ (hS.pull 1)
     exact emk (hS.pull 1)
    ·intro Ep5 w l' hE5 hO5 hF_ hS
     obtain ⟨q1g, -⟩ := hF_
     replace q1g : Ep5 41 = .agg #[.bool q0c.fneg, .slice (adOf (partOf 1 (Ep5 41))) q0c.fmag.length (capOf (partOf 1 (Ep5 41)))] := emk q1g
     replace hS : St w0 w (cells b4 41 [.bool false, .slice none 0 0] :: l') := emk hS
     refine o_storeAgg (news := [.bool q0c.fneg, .slice (adOf (partOf 1 (Ep5 41))) q0c.fmag.length (capOf (partOf 1 (Ep5 41)))]) agg_41 (hE5 4 rfl) q1g rfl (by simp [over_length]) hS (fun w' hS => ?_)
     refine x_done <| ?_
     refine x_fin ⟨⟨undef, rfl⟩, trivial, ?_⟩
     exact emk hS
   intro Ep5 w' hE5 hF_ hS
   obtain ⟨q18, q1d, q19, q1b, q1a, q1c, q1e, q1g, -⟩ := hF_
   replace q18 : Ep5 34 = .pointer (some ⟨b3, 0, none⟩) := emk q18
   replace q1d : Ep5 35 = .bool b1.fneg := emk q1d
   replace q19 : Ep5 36 = .pointer (some ⟨b3, 1, none⟩) := emk q19
   replace q1b : Ep5 37 = .slice q6 b1.fmag.length c_b1_1 := emk q1b
   replace q1a : Ep5 38 = .pointer (some ⟨b2, 1, none⟩) := emk q1a
   replace q1c : Ep5 39 = .slice q5 a0.fmag.length c_a0_1 := emk q1c
   replace q1e : Ep5 40 = .slice (adOf (Ep5 40)) q0f.length (capOf (Ep5 40)) := emk q1e
   replace q1g : Ep5 41 = .agg #[.bool q0c.fneg, .slice (adOf (partOf 1 (Ep5 41))) q0c.fmag.length (capOf (partOf 1 (Ep5 41)))] := emk q1g
   replace hS : St w0 w' (cells b3 41 [.bool b1.fneg, .slice q6 b1.fmag.length c_b1_1] :: cells b2 41 [.bool a0.fneg, .slice q5 a0.fmag.length c_a0_1] :: ro ρ :: bunA (fun (q9 : Heap) => Le ρ q9 ∧ RdS (RpI .u32) q9 (adOf (Ep5 40)) q0f.length (capOf (Ep5 40)) q0f ∧ RdS (RpI .u32) q9 (adOf (partOf 1 (Ep5 41))) q0c.fmag.length (capOf (partOf 1 (Ep5 41))) q0c.fmag) (fun (q9 : Heap) => [roD ρ q9]) :: cells b4 41 [.bool q0c.fneg, .slice (adOf (partOf 1 (Ep5 41))) q0c.fmag.length (capOf (partOf 1 (Ep5 41)))] :: (l)) := emk hS
   have q_ := St.unbun (hS.pull 3); obtain ⟨q9, ⟨q1u, q1p, q0i⟩, hS⟩ := q_
   have q_ := St.ro_join (hS.pull 3) (Le.refl _) q1u; obtain ⟨q29, q22, q23, hS, q2k⟩ := q_
   have e_ := sinj hF; subst e_
   exact x_return ⟨_, ⟨_, _, _, rfl, (hE5 4 rfl), ldvA agg_41 rfl (fun j v hj => by rw [add0]; exact St.cell (hS.pull 3) hj), rfl⟩, q29, (adOf (partOf 1 (Ep5 41))), q0c.fmag.length, (capOf (partOf 1 (Ep5 41))), rfl, q22, (q0i.le q23), ((((hS.pull 1).drop.pull 1).drop.pull 1).drop)⟩
attribute [irreducible] P_exact_plus

def P_exact_divSmall_L4 (a0 : List Int) (d1 : Int) : (List Int × Int × Int) → Option ((List Int × Int × Int) ⊕ (List Int × Int)) := fun (q3, q4, q2) =>
 if 0 ≤ q2 then
  ck (0 ≤ (32 : Int)) <|
  lv (shl .u64 q4 32) fun x20 =>
  ck (inb q2 a0.length) <|
  lv (gt a0 q2) fun x24 =>
  lv (x24 % 18446744073709551616) fun x25 =>
  lv (bOr .u64 x20 x25) fun x26 =>
  lv (d1 % 18446744073709551616) fun x31 =>
  ck (x31 ≠ 0) <|
  lv ((Int.tdiv x26 x31) % 18446744073709551616) fun x32 =>
  lv (x32 % 4294967296) fun x33 =>
  ck (inb q2 q3.length) <|
  lv (stt q3 q2 x33) fun q5 =>
  lv (d1 % 18446744073709551616) fun x37 =>
  ck (x37 ≠ 0) <|
  lv (Int.tmod x26 x37) fun x38 =>
  ar (q2 - 1) fun x18 =>
  some (Sum.inl (q5, x38, x18))
 else
  some (Sum.inr (q3, q4))
def P_exact_divSmall (a0 : List Int) (d1 : Int) : Option (List Int × Int) :=
 ck (mkOk 4 (a0.length : Int)) <|
 lv ((List.replicate ((a0.length : Int) : Int).toNat 0 : List Int)) fun q4 =>
 ar ((a0.length : Int) - 1) fun x14 =>
 bd (
  lp (P_exact_divSmall_L4 a0 d1) fuel (q4, 0, x14)) fun (q3, q2) =>
 lv (q2 % 4294967296) fun x41 =>
 some (q3, x41)
theorem c_exact_divSmall {w0 w : World} {l : List Assn} {ρ : Heap} {q0k : Option Addr} {q0o : Nat} {c_a0 : Nat} {a0 : List Int} {d1 : Int} {r : (List Int × Int)} (hF : P_exact_divSmall a0 d1 = some r) (q0l : RdS (RpI .u32) ρ q0k q0o c_a0 a0) (hS : St w0 w (ro ρ :: l)) :
  Calls Try.prog 42 #[.slice q0k q0o c_a0, .int .u32 d1] w fun e w' => ∃ (q0e : Option Addr) (q8 : Nat) (c_y0_ret : Nat) (q0d : List Value), e = .returned (.tuple #[.slice q0e q8 c_y0_ret, .int .u32 r.2]) ∧ RepL (RpI .u32) ρ r.1 q0d ∧ St w0 w' (vec 77 (RpI .u32).sz (.slice q0e q8 c_y0_ret) q8 q0d :: ro ρ :: l) := by
 have e_ := q0l.n; subst e_
 refine enterC Try.func42 rfl 42 rfl (by simp) ?_
 refine x_seq <| x_region <| p (yl_assign rfl) <| p (yl_assign rfl) <|
  x_done <| x_seq <| x_region <| p (yl_move rfl) <|
  p (yl_len_slice usl_39 rfl) <| ?_
 replace hF := ck_s hF; obtain ⟨q0p, hF⟩ := hF
 replace hF := lv_s hF; obtain ⟨q2, q0q, hF⟩ := hF
 refine o_mk sl_39 zero_77 (show (RpI .u32).ok ρ _ 0 from rfl) rfl rfl q0p (by decide) q0q hS (fun A11 cs11 w' hr11 hS => ?_)
 replace hF := ar_s hF; obtain ⟨x14, hx14, hF⟩ := hF
 refine p (yl_assign rfl) <| x_done <| x_seq <| x_region <|
  p (yl_assign rfl) <| x_done <| x_seq <| x_seq <|
  x_region <| p (yl_move rfl) <| p (yl_len_slice usl_39 rfl) <| p (ysub rfl rfl hx14) <|
  p (yl_assign rfl) <| x_done <| ?_
 replace hF := bd_s hF; obtain ⟨oL4, hLL4, hF⟩ := hF
 refine x_join (fun E w => ∃ (q4 : List Value) (q0c : List Int) (q9 : Int), (q0c, q9) = oL4 ∧ E 6 = .slice A11 q2.length q2.length ∧ E 7 = .int .u64 q9 ∧ RepL (RpI .u32) ρ q0c q4 ∧ St w0 w (vec 77 (RpI .u32).sz (.slice A11 q2.length q2.length) q2.length q4 :: ro ρ :: l)) ?_ ?_
 ·refine x_block ?_
  refine x_loop (fun k_ E w => ∃ (q3 : List Value) (q6 : List Int) (q5 : Int) (q0a : Int), lp (P_exact_divSmall_L4 a0 d1) k_ (q6, q5, q0a) = some oL4 ∧ E 0 = .slice q0k a0.length c_a0 ∧ E 1 = .int .u32 d1 ∧ E 6 = .slice A11 q2.length q2.length ∧ E 7 = .int .u64 q5 ∧ E 8 = .int .i64 q0a ∧ RepL (RpI .u32) ρ q6 q3 ∧ St w0 w (vec 77 (RpI .u32).sz (.slice A11 q2.length q2.length) q2.length q3 :: ro ρ :: l)) fuel ⟨cs11, q2, 0, x14, hLL4, rfl, rfl, rfl, rfl, rfl, hr11, ((hS.pull 1).pull 1)⟩ ?_
  rintro kL4 E w ⟨q3, q6, q5, q0a, hLL4, q0h, q0f, q0g, q0i, q0b, q7, hS⟩
  replace hLL4 := lp_s hLL4; obtain ⟨kL4, obL4, rfl, hFL4, hLL4⟩ := hLL4
  refine x_seq <| x_seq <| x_region <| p (yl_move q0b) <|
   p (yl_geq rfl rfl) <| x_done <|
   x_cond_p (0 ≤ q0a) rfl (fun hc16 => ?_) (fun hc16 => ?_)
  ·replace hFL4 := it_t hc16 hFL4
   replace hFL4 := ck_s hFL4; obtain ⟨q0r, hFL4⟩ := hFL4
   replace hFL4 := lv_s hFL4; obtain ⟨x20, hx20, hFL4⟩ := hFL4
   replace hFL4 := ck_s hFL4; obtain ⟨q0m, hFL4⟩ := hFL4
   replace hFL4 := lv_s hFL4; obtain ⟨x24, hx24, hFL4⟩ := hFL4
   replace hFL4 := lv_s hFL4; obtain ⟨x25, hx25, hFL4⟩ := hFL4
   replace hFL4 := lv_s hFL4; obtain ⟨x26, hx26, hFL4⟩ := hFL4
   replace hFL4 := lv_s hFL4; obtain ⟨x31, hx31, hFL4⟩ := hFL4
   replace hFL4 := ck_s hFL4; obtain ⟨q0s, hFL4⟩ := hFL4
   replace hFL4 := lv_s hFL4; obtain ⟨x32, hx32, hFL4⟩ := hFL4
   replace hFL4 := lv_s hFL4; obtain ⟨x33, hx33, hFL4⟩ := hFL4
   replace hFL4 := ck_s hFL4; obtain ⟨q0n, hFL4⟩ := hFL4
   refine x_skip <| x_seq <| x_block <| x_seq <|
    x_region <| p (yl_move q0i) <| p (yshl rfl rfl q0r hx20) <| p (yl_move q0h) <|
    p (yl_move q0b) <| p (yix_f sl_39 rfl rfl q0l q0m) <| pa (at_load one_77 rfl (RdS.getW q0l (hS.pull 1) q0m hx24)) <| p (yconvu wm_u64 uk_77 ik_75 rfl hx25) <|
    p (yor rfl rfl hx26) <| p (yl_assign rfl) <| x_done <| x_seq <|
    x_region <| p (yl_move q0g) <| p (yl_move q0b) <| p (yl_move rfl) <|
    p (yl_move q0f) <| p (yconvu wm_u64 uk_77 ik_75 rfl hx31) <| p (yquou wm_u64 rfl rfl q0s hx32) <| p (yconvu wm_u32 uk_75 ik_77 rfl hx33) <|
    p (yix_o sl_39 rfl rfl hS q7 q0n) <| ?_
   replace hFL4 := lv_s hFL4; obtain ⟨q0z, q0t, hFL4⟩ := hFL4
   refine o_put' (news := [.int .u32 x33]) sz_77 rfl rfl rfl rfl (o := 0) rfl q0n rfl hS q7 (Le.refl _) (fun c hc => ok_all hc (show (RpI .u32).ok ρ [.int .u32 x33] x33 from rfl)) q0t (fun q0u w' q0v hS => ?_)
   replace hFL4 := lv_s hFL4; obtain ⟨x37, hx37, hFL4⟩ := hFL4
   replace hFL4 := ck_s hFL4; obtain ⟨q0w, hFL4⟩ := hFL4
   replace hFL4 := lv_s hFL4; obtain ⟨x38, hx38, hFL4⟩ := hFL4
   replace hFL4 := ar_s hFL4; obtain ⟨x18, hx18, hFL4⟩ := hFL4
   refine x_done <| x_region <| p (yl_move rfl) <| p (yl_move q0f) <|
    p (yconvu wm_u64 uk_77 ik_75 rfl hx37) <| p (yrem rfl rfl q0w hx38) <| p (yl_assign rfl) <| x_done <|
    x_blk <| x_region <| p (yl_move q0b) <| p (ysub rfl rfl hx18) <|
    p (yl_assign rfl) <| x_done <| ?_
   have e_ := sinj hFL4; subst e_
   exact x_inv ⟨kL4, Nat.lt_succ_self _, q0u, q0z, x38, x18, hLL4, q0h, q0f, q0g, rfl, rfl, q0v, ((hS.pull 1).pull 1)⟩
  ·replace hFL4 := it_f hc16 hFL4
   refine x_exitTo _ rfl <| ?_
   have e_ := sinj hFL4; subst e_
   exact x_inv ⟨q3, q6, q5, hLL4, q0g, q0i, q7, ((hS.pull 1).pull 1)⟩
 rintro E w ⟨q4, q0c, q9, rfl, q0x, q0y, q0j, hS⟩
 replace hF := lv_s hF; obtain ⟨x41, hx41, hF⟩ := hF
 refine x_seq <| x_region <| p (yl_move q0x) <| p (yl_move q0y) <|
  p (yconvu wm_u32 uk_75 ik_77 rfl hx41) <| p (yl_assign rfl) <| p (yl_assign rfl) <| x_done <| ?_
 have e_ := sinj hF; subst e_
 exact x_return ⟨_, ⟨_, _, rfl, rfl, _, _, rfl, rfl, rfl⟩, A11, q2.length, q2.length, q4, rfl, q0j, ((hS.pull 1).pull 1)⟩
attribute [irreducible] P_exact_divSmall

def P_math_bits_Len32 (x0 : Int) : Option Int :=
 bd (
  if 65536 ≤ x0 then
   ck (0 ≤ (16 : Int)) <|
   lv (shr .u32 x0 16) fun x6 =>
   some (x6, (16 : Int))
  else
   some (x0, (0 : Int))) fun (q2, q3) =>
 bd (
  if 256 ≤ q2 then
   ck (0 ≤ (8 : Int)) <|
   lv (shr .u32 q2 8) fun x10 =>
   ar (q3 + 8) fun x12 =>
   some (x10, x12)
  else
   some (q2, q3)) fun (q4, q5) =>
 lv (q4 % 256) fun x15 =>
 ck (inb x15 ks_633d862b.size) <|
 lv (byteAt ks_633d862b x15) fun x16 =>
 ar (x16) fun x17 =>
 ar (q5 + x17) fun x18 =>
 some x18
theorem c_math_bits_Len32 {w0 w : World} {l : List Assn} {ρ : Heap} {x0 : Int} {r : Int} (hF : P_math_bits_Len32 x0 = some r) (hS : St w0 w (ro ρ :: l)) :
  Calls Try.prog 56 #[.int .u32 x0] w fun e w' => e = .returned (.int .i64 r) ∧ St w0 w' (ro ρ :: l) := by
 refine enterC Try.func56 rfl 19 rfl (by simp) ?_
 refine x_seq <| x_region <| p (yl_assign rfl) <| x_done <|
  x_seq <| x_seq <| x_region <| p (yl_move rfl) <|
  p (yl_geq rfl rfl) <| x_done <| ?_
 replace hF := bd_s hF; obtain ⟨oc4, hFc4, hF⟩ := hF
 refine x_join (fun E w => ∃ (q2 : Int) (q3 : Int), (q2, q3) = oc4 ∧ E 0 = .int .u32 q2 ∧ E 2 = .int .i64 q3 ∧ St w0 w (ro ρ :: l)) ?_ ?_
 ·refine x_cond_p (65536 ≤ x0) rfl (fun hc4 => ?_) (fun hc4 => ?_)
  ·replace hFc4 := it_t hc4 hFc4
   replace hFc4 := ck_s hFc4; obtain ⟨q8, hFc4⟩ := hFc4
   replace hFc4 := lv_s hFc4; obtain ⟨x6, hx6, hFc4⟩ := hFc4
   refine x_seq <| x_region <| p (yl_move rfl) <| p (yshr rfl rfl q8 hx6) <|
    p (yl_assign rfl) <| x_done <| x_region <| p (yl_assign rfl) <|
    x_done <| ?_
   exact x_inv ⟨x6, 16, (sinj hFc4), rfl, rfl, hS⟩
  ·replace hFc4 := it_f hc4 hFc4
   refine x_skip <| ?_
   exact x_inv ⟨x0, 0, (sinj hFc4), rfl, rfl, hS⟩
 rintro E w ⟨q2, q3, rfl, q4, q7, hS⟩
 refine x_seq <| x_seq <| x_region <| p (yl_move q4) <|
  p (yl_geq rfl rfl) <| x_done <| ?_
 replace hF := bd_s hF; obtain ⟨oc8, hFc8, hF⟩ := hF
 refine x_join (fun E w => ∃ (q5 : Int) (q6 : Int), (q5, q6) = oc8 ∧ E 0 = .int .u32 q5 ∧ E 2 = .int .i64 q6 ∧ St w0 w (ro ρ :: l)) ?_ ?_
 ·refine x_cond_p (256 ≤ q2) rfl (fun hc8 => ?_) (fun hc8 => ?_)
  ·replace hFc8 := it_t hc8 hFc8
   replace hFc8 := ck_s hFc8; obtain ⟨q9, hFc8⟩ := hFc8
   replace hFc8 := lv_s hFc8; obtain ⟨x10, hx10, hFc8⟩ := hFc8
   replace hFc8 := ar_s hFc8; obtain ⟨x12, hx12, hFc8⟩ := hFc8
   refine x_seq <| x_region <| p (yl_move q4) <| p (yshr rfl rfl q9 hx10) <|
    p (yl_assign rfl) <| x_done <| x_region <| p (yl_move q7) <|
    p (yadd rfl rfl hx12) <| p (yl_assign rfl) <| x_done <| ?_
   exact x_inv ⟨x10, x12, (sinj hFc8), rfl, rfl, hS⟩
  ·replace hFc8 := it_f hc8 hFc8
   refine x_skip <| ?_
   exact x_inv ⟨q2, q3, (sinj hFc8), q4, q7, hS⟩
 rintro E w ⟨q5, q6, rfl, q0a, q0b, hS⟩
 replace hF := lv_s hF; obtain ⟨x15, hx15, hF⟩ := hF
 replace hF := ck_s hF; obtain ⟨q0c, hF⟩ := hF
 replace hF := lv_s hF; obtain ⟨x16, hx16, hF⟩ := hF
 replace hF := ar_s hF; obtain ⟨x17, hx17, hF⟩ := hF
 replace hF := ar_s hF; obtain ⟨x18, hx18, hF⟩ := hF
 refine x_seq <| x_region <| p (yl_move q0b) <| p (yl_move q0a) <|
  p (yconvu wm_u8 uk_77 ik_5 rfl hx15) <| p (ystr us_9 rfl rfl q0c hx16) <| p (yconvi uk_5 ik_3 rfl hx17) <| p (yadd rfl rfl hx18) <|
  p (yl_assign rfl) <| x_done <| ?_
 have e_ := sinj hF; subst e_
 exact x_return ⟨_, ⟨_, _, rfl, rfl, rfl⟩, rfl, hS⟩
attribute [irreducible] P_math_bits_Len32

def P_math_bits_LeadingZeros32 (x0 : Int) : Option Int :=
 bd (P_math_bits_Len32 x0) fun q2 =>
 ar ((32 : Int) - q2) fun x5 =>
 some x5
theorem c_math_bits_LeadingZeros32 {w0 w : World} {l : List Assn} {ρ : Heap} {x0 : Int} {r : Int} (hF : P_math_bits_LeadingZeros32 x0 = some r) (hS : St w0 w (ro ρ :: l)) :
  Calls Try.prog 60 #[.int .u32 x0] w fun e w' => e = .returned (.int .i64 r) ∧ St w0 w' (ro ρ :: l) := by
 refine enterC Try.func60 rfl 6 rfl (by simp) ?_
 replace hF := bd_s hF; obtain ⟨q3, q2, hF⟩ := hF
 refine x_seq <| x_region <| p (yl_assign rfl) <| x_done <|
  x_seq <| x_region <| p (yl_move rfl) <| ?_
 have hcall := c_math_bits_Len32 q2  hS
 refine o_cc call_56 (args1 rfl) (hcall) ?_
 rintro e w' ⟨rfl, hS⟩
 refine ⟨_, rfl, ?_⟩
 replace hF := ar_s hF; obtain ⟨x5, hx5, hF⟩ := hF
 refine p (ysub rfl rfl hx5) <| p (yl_assign rfl) <| x_done <| ?_
 have e_ := sinj hF; subst e_
 exact x_return ⟨_, ⟨_, _, rfl, rfl, rfl⟩, rfl, hS⟩
attribute [irreducible] P_math_bits_LeadingZeros32

def P_exact_shifted_L3 (a0 : List Int) (k1 : Int) : (List Int × Int) → Option ((List Int × Int) ⊕ List Int) := fun (q3, q2) =>
 if q2 < (a0.length : Int) then
  ck (inb q2 a0.length) <|
  lv (gt a0 q2) fun x18 =>
  ck (inb q2 q3.length) <|
  lv (gt q3 q2) fun x22 =>
  ck (0 ≤ k1) <|
  lv (shl .u32 x18 k1) fun x25 =>
  lv (bOr .u32 x22 x25) fun x26 =>
  ck (inb q2 q3.length) <|
  lv (stt q3 q2 x26) fun q4 =>
  ar (q2 + 1) fun x30 =>
  lv (x18 % 18446744073709551616) fun x32 =>
  ck (0 ≤ k1) <|
  lv (shl .u64 x32 k1) fun x34 =>
  ck (0 ≤ (32 : Int)) <|
  lv (shr .u64 x34 32) fun x35 =>
  lv (x35 % 4294967296) fun x36 =>
  ck (inb x30 q4.length) <|
  lv (stt q4 x30 x36) fun q5 =>
  ar (q2 + 1) fun x38 =>
  some (Sum.inl (q5, x38))
 else
  some (Sum.inr q3)
def P_exact_shifted (a0 : List Int) (k1 : Int) : Option (List Int) :=
 ar ((a0.length : Int) + 1) fun x10 =>
 ck (mkOk 4 x10) <|
 lv ((List.replicate (x10 : Int).toNat 0 : List Int)) fun q3 =>
 bd (
  lp (P_exact_shifted_L3 a0 k1) fuel (q3, 0)) fun q2 =>
 some q2
theorem c_exact_shifted {w0 w : World} {l : List Assn} {ρ : Heap} {q0i : Option Addr} {q0p : Nat} {c_a0 : Nat} {a0 : List Int} {k1 : Int} {r : List Int} (hF : P_exact_shifted a0 k1 = some r) (q0j : RdS (RpI .u32) ρ q0i q0p c_a0 a0) (hS : St w0 w (ro ρ :: l)) :
  Calls Try.prog 61 #[.slice q0i q0p c_a0, .int .i64 k1] w fun e w' => ∃ (q0d : Option Addr) (q9 : Nat) (c_y0_ret : Nat) (q0c : List Value), e = .returned (.slice q0d q9 c_y0_ret) ∧ RepL (RpI .u32) ρ r q0c ∧ St w0 w' (vec 77 (RpI .u32).sz (.slice q0d q9 c_y0_ret) q9 q0c :: ro ρ :: l) := by
 have e_ := q0j.n; subst e_
 refine enterC Try.func61 rfl 40 rfl (by simp) ?_
 replace hF := ar_s hF; obtain ⟨x10, hx10, hF⟩ := hF
 refine x_seq <| x_region <| p (yl_assign rfl) <| x_done <|
  x_seq <| x_region <| p (yl_move rfl) <| p (yl_len_slice usl_39 rfl) <|
  p (yadd rfl rfl hx10) <| ?_
 replace hF := ck_s hF; obtain ⟨q0t, hF⟩ := hF
 replace hF := lv_s hF; obtain ⟨q3, q0u, hF⟩ := hF
 refine o_mk sl_39 zero_77 (show (RpI .u32).ok ρ _ 0 from rfl) rfl rfl q0t (by decide) q0u hS (fun A11 cs11 w' hr11 hS => ?_)
 refine p (yl_assign rfl) <| x_done <| x_seq <| x_seq <|
  x_region <| p (yl_move rfl) <| p (yl_len_slice usl_39 rfl) <| p (yl_move rfl) <|
  x_done <| ?_
 replace hF := bd_s hF; obtain ⟨oL3, hLL3, hF⟩ := hF
 refine x_join (fun E w => ∃ (q5 : List Value) (q0b : List Int), q0b = oL3 ∧ E 5 = .slice A11 q3.length q3.length ∧ RepL (RpI .u32) ρ q0b q5 ∧ St w0 w (vec 77 (RpI .u32).sz (.slice A11 q3.length q3.length) q3.length q5 :: ro ρ :: l)) ?_ ?_
 ·refine x_block ?_
  refine x_loop (fun k_ E w => ∃ (q4 : List Value) (q6 : List Int) (q7 : Int), lp (P_exact_shifted_L3 a0 k1) k_ (q6, q7) = some oL3 ∧ E 1 = .int .i64 k1 ∧ E 5 = .slice A11 q3.length q3.length ∧ E 12 = .slice q0i a0.length c_a0 ∧ E 13 = .int .i64 (a0.length : Int) ∧ E 14 = .int .i64 q7 ∧ RepL (RpI .u32) ρ q6 q4 ∧ St w0 w (vec 77 (RpI .u32).sz (.slice A11 q3.length q3.length) q3.length q4 :: ro ρ :: l)) fuel ⟨cs11, q3, 0, hLL3, rfl, rfl, rfl, rfl, rfl, hr11, ((hS.pull 1).pull 1)⟩ ?_
  rintro kL3 E w ⟨q4, q6, q7, hLL3, q0e, q0a, q0f, q0g, q8, q2, hS⟩
  replace hLL3 := lp_s hLL3; obtain ⟨kL3, obL3, rfl, hFL3, hLL3⟩ := hLL3
  refine x_seq <| x_region <| p (yl_lss q8 q0g) <| x_done <|
   x_seq <|
   x_cond_p (q7 < (a0.length : Int)) rfl (fun hc15 => ?_) (fun hc15 => ?_)
  ·replace hFL3 := it_t hc15 hFL3
   replace hFL3 := ck_s hFL3; obtain ⟨q0k, hFL3⟩ := hFL3
   replace hFL3 := lv_s hFL3; obtain ⟨x18, hx18, hFL3⟩ := hFL3
   replace hFL3 := ck_s hFL3; obtain ⟨q0l, hFL3⟩ := hFL3
   replace hFL3 := lv_s hFL3; obtain ⟨x22, hx22, hFL3⟩ := hFL3
   replace hFL3 := ck_s hFL3; obtain ⟨q0v, hFL3⟩ := hFL3
   replace hFL3 := lv_s hFL3; obtain ⟨x25, hx25, hFL3⟩ := hFL3
   replace hFL3 := lv_s hFL3; obtain ⟨x26, hx26, hFL3⟩ := hFL3
   replace hFL3 := ck_s hFL3; obtain ⟨q0m, hFL3⟩ := hFL3
   refine x_skip <| x_seq <| x_block <| x_seq <|
    x_region <| p (yl_move q8) <| p (yix_f sl_39 q0f q8 q0j q0k) <| pa (at_load one_77 rfl (RdS.getW q0j (hS.pull 1) q0k hx18)) <|
    p (yl_assign rfl) <| p (yl_assign rfl) <| x_done <| x_seq <|
    x_head 9 mixed (by kernel_rfl) hS _ _ rfl rfl <| q (yl_move q0a) <| q (yl_move rfl) <| q (yix_o sl_39 rfl rfl hS q2 q0l) <|
    qa (fun w' hS => at_load one_77 rfl (RepL.getW q2 hS q0l hx22)) <| q (yl_move rfl) <| q (yl_move q0e) <| q (yshl rfl rfl q0v hx25) <|
    q (yor rfl rfl hx26) <| q (yix_o sl_39 rfl rfl hS q2 q0m) <|
    q_done fun w' hS => ?_
   replace hFL3 := lv_s hFL3; obtain ⟨q12, q0w, hFL3⟩ := hFL3
   refine o_put' (news := [.int .u32 x26]) sz_77 rfl rfl rfl rfl (o := 0) rfl q0m rfl hS q2 (Le.refl _) (fun c hc => ok_all hc (show (RpI .u32).ok ρ [.int .u32 x26] x26 from rfl)) q0w (fun q11 w' q0n hS => ?_)
   replace hFL3 := ar_s hFL3; obtain ⟨x30, hx30, hFL3⟩ := hFL3
   replace hFL3 := lv_s hFL3; obtain ⟨x32, hx32, hFL3⟩ := hFL3
   replace hFL3 := ck_s hFL3; obtain ⟨q0x, hFL3⟩ := hFL3
   replace hFL3 := lv_s hFL3; obtain ⟨x34, hx34, hFL3⟩ := hFL3
   replace hFL3 := ck_s hFL3; obtain ⟨q0y, hFL3⟩ := hFL3
   replace hFL3 := lv_s hFL3; obtain ⟨x35, hx35, hFL3⟩ := hFL3
   replace hFL3 := lv_s hFL3; obtain ⟨x36, hx36, hFL3⟩ := hFL3
   replace hFL3 := ck_s hFL3; obtain ⟨q0o, hFL3⟩ := hFL3
   refine x_done <| x_region <| p (yl_move q0a) <| p (yl_move rfl) <|
    p (yadd rfl rfl hx30) <| p (yl_move rfl) <| p (yconvu wm_u64 uk_77 ik_75 rfl hx32) <| p (yl_move q0e) <|
    p (yshl rfl rfl q0x hx34) <| p (yshr rfl rfl q0y hx35) <| p (yconvu wm_u32 uk_75 ik_77 rfl hx36) <| p (yix_o sl_39 rfl rfl hS q0n q0o) <| ?_
   replace hFL3 := lv_s hFL3; obtain ⟨q0z, q0q, hFL3⟩ := hFL3
   refine o_put' (news := [.int .u32 x36]) sz_77 rfl rfl rfl rfl (o := 0) rfl q0o rfl hS q0n (Le.refl _) (fun c hc => ok_all hc (show (RpI .u32).ok ρ [.int .u32 x36] x36 from rfl)) q0q (fun q0r w' q0s hS => ?_)
   replace hFL3 := ar_s hFL3; obtain ⟨x38, hx38, hFL3⟩ := hFL3
   refine x_done <| x_blk <| x_region <| p (yadd q8 rfl hx38) <|
    p (yl_move rfl) <| x_done <| ?_
   have e_ := sinj hFL3; subst e_
   exact x_inv ⟨kL3, Nat.lt_succ_self _, q0r, q0z, x38, hLL3, q0e, q0a, q0f, q0g, rfl, q0s, ((hS.pull 1).pull 1)⟩
  ·replace hFL3 := it_f hc15 hFL3
   refine x_exitTo _ rfl <| ?_
   have e_ := sinj hFL3; subst e_
   exact x_inv ⟨q4, q6, hLL3, q0a, q2, ((hS.pull 1).pull 1)⟩
 rintro E w ⟨q5, q0b, rfl, q10, q0h, hS⟩
 refine x_seq <| x_region <| p (yl_move q10) <| p (yl_assign rfl) <|
  x_done <| ?_
 have e_ := sinj hF; subst e_
 exact x_return ⟨_, ⟨_, _, rfl, rfl, rfl⟩, A11, q3.length, q3.length, q5, rfl, q0h, ((hS.pull 1).pull 1)⟩
attribute [irreducible] P_exact_shifted

def P_exact_take_L4 (q7 : Int) (q8 : Int) (v1 : List Int) (guess2 : Int) : (Int × Int × Int × List Int) → Option ((Int × Int × Int × List Int) ⊕ (Int × List Int)) := fun (q5, q4, q2, q3) =>
 if q2 < (q8.toNat : Int) then
  bd (
   if q2 < (v1.length : Int) then
    ck (inb q2 v1.length) <|
    lv (gt v1 q2) fun x25 =>
    lv (x25 % 18446744073709551616) fun x26 =>
    lv ((guess2 * x26) % 18446744073709551616) fun x27 =>
    lv ((q5 + x27) % 18446744073709551616) fun x28 =>
    some x28
   else
    some q5) fun q6 =>
  ck (0 ≤ q7 ∧ inb q2 q8.toNat) <|
  ck (inb (q7 + q2) q3.length) <|
  lv (gt q3 (q7 + q2)) fun x32 =>
  ar (x32) fun x33 =>
  lv (q6 % 4294967296) fun x35 =>
  ar (x35) fun x36 =>
  ar (x33 - x36) fun x37 =>
  ar (x37 + q4) fun x39 =>
  lv (x39 % 4294967296) fun x43 =>
  ck (0 ≤ q7 ∧ inb q2 q8.toNat) <|
  ck (inb (q7 + q2) q3.length) <|
  lv (stt q3 (q7 + q2) x43) fun q9 =>
  ck (0 ≤ (32 : Int)) <|
  lv (shr .i64 x39 32) fun x46 =>
  ck (0 ≤ (32 : Int)) <|
  lv (shr .u64 q6 32) fun x48 =>
  ar (q2 + 1) fun x49 =>
  some (Sum.inl (x48, x46, x49, q9))
 else
  some (Sum.inr (q4, q3))
def P_exact_take (q4 : List Int) (q5 : Int) (q6 : Int) (v1 : List Int) (guess2 : Int) : Option (Bool × List Int) :=
 bd (
  lp (P_exact_take_L4 q5 q6 v1 guess2) fuel (0, 0, 0, q4)) fun (q2, q3) =>
 some (decide (q2 < 0), q3)
theorem c_exact_take {w0 w : World} {l : List Assn} {ρ : Heap} {q7 : Option Addr} {q0h : Nat} {c_u0_s : Nat} {q0j : List Value} {cw_u0 : Nat} {q0q : Option Addr} {q10 : Nat} {c_v1 : Nat} {q0b : List Int} {q0l : Int} {q0f : Int} {v1 : List Int} {guess2 : Int} {r : (Bool × List Int)} (hF : P_exact_take q0b q0l q0f v1 guess2 = some r) (q0r : RepL (RpI .u32) ρ q0b q0j) (q0w : RdS (RpI .u32) ρ q0q q10 c_v1 v1) (hS : St w0 w (vec 77 (RpI .u32).sz (.slice q7 q0h c_u0_s) q0h q0j :: ro ρ :: l)) :
  Calls Try.prog 62 #[.slice (some ((adr q7).add (q0l.toNat * (RpI .u32).sz))) q0f.toNat cw_u0, .slice q0q q10 c_v1, .int .u64 guess2] w fun e w' => ∃ (q0a : List Value), e = .returned (.bool r.1) ∧ RepL (RpI .u32) ρ r.2 q0a ∧ St w0 w' (vec 77 (RpI .u32).sz (.slice q7 q0h c_u0_s) q0h q0a :: ro ρ :: l) := by
 have e_ := St.vec_n hS q0r; subst e_
 have e_ := q0w.n; subst e_
 refine enterC Try.func62 rfl 52 rfl (by simp) ?_
 refine x_seq <| x_region <| p (yl_assign rfl) <| x_done <|
  x_seq <| x_region <| p (yl_assign rfl) <| x_done <|
  x_seq <| x_region <| p (yl_assign rfl) <| x_done <|
  x_seq <| x_seq <| x_region <| p (yl_move rfl) <|
  p (yl_len_slice usl_39 rfl) <| p (yl_move rfl) <| x_done <| ?_
 replace hF := bd_s hF; obtain ⟨oL4, hLL4, hF⟩ := hF
 refine x_join (fun E w => ∃ (q4 : List Value) (q0c : Int) (q0d : List Int), (q0c, q0d) = oL4 ∧ E 8 = .int .i64 q0c ∧ RepL (RpI .u32) ρ q0d q4 ∧ St w0 w (vec 77 (RpI .u32).sz (.slice q7 q0b.length c_u0_s) q0b.length q4 :: ro ρ :: l)) ?_ ?_
 ·refine x_block ?_
  refine x_loop (fun k_ E w => ∃ (q2 : List Value) (q9 : Int) (q3 : Int) (q5 : Int) (q6 : List Int), lp (P_exact_take_L4 q0l q0f v1 guess2) k_ (q9, q3, q5, q6) = some oL4 ∧ E 0 = .slice (some ((adr q7).add (q0l.toNat * (RpI .u32).sz))) q0f.toNat cw_u0 ∧ E 1 = .slice q0q v1.length c_v1 ∧ E 2 = .int .u64 guess2 ∧ E 7 = .int .u64 q9 ∧ E 8 = .int .i64 q3 ∧ E 12 = .int .i64 (q0f.toNat : Int) ∧ E 13 = .int .i64 q5 ∧ RepL (RpI .u32) ρ q6 q2 ∧ St w0 w (vec 77 (RpI .u32).sz (.slice q7 q0b.length c_u0_s) q0b.length q2 :: ro ρ :: l)) fuel ⟨q0j, 0, 0, 0, q0b, hLL4, rfl, rfl, rfl, rfl, rfl, rfl, rfl, q0r, ((hS.pull 1).pull 1)⟩ ?_
  rintro kL4 E w ⟨q2, q9, q3, q5, q6, hLL4, q0s, q0i, q0m, q0t, q0n, q0k, q0g, q8, hS⟩
  replace hLL4 := lp_s hLL4; obtain ⟨kL4, obL4, rfl, hFL4, hLL4⟩ := hLL4
  refine x_seq <| x_region <| p (yl_lss q0g q0k) <| x_done <|
   x_seq <|
   x_cond_p (q5 < (q0f.toNat : Int)) rfl (fun hc14 => ?_) (fun hc14 => ?_)
  ·replace hFL4 := it_t hc14 hFL4
   refine x_skip <| x_seq <| x_block <| x_seq <|
    x_region <| p (yl_move q0g) <| p (yl_assign rfl) <| x_done <|
    x_seq <| x_seq <| x_region <| p (yl_move rfl) <|
    p (yl_move q0i) <| p (yl_len_slice usl_39 rfl) <| p (yl_lss rfl rfl) <| x_done <| ?_
   replace hFL4 := bd_s hFL4; obtain ⟨oc19, hFc19, hFL4⟩ := hFL4
   refine x_join (fun E w => ∃ (q0e : Int), q0e = oc19 ∧ E 0 = .slice (some ((adr q7).add (q0l.toNat * (RpI .u32).sz))) q0f.toNat cw_u0 ∧ E 1 = .slice q0q v1.length c_v1 ∧ E 2 = .int .u64 guess2 ∧ E 7 = .int .u64 q0e ∧ E 8 = .int .i64 q3 ∧ E 9 = .int .i64 q5 ∧ E 12 = .int .i64 (q0f.toNat : Int) ∧ E 13 = .int .i64 q5 ∧ St w0 w (vec 77 (RpI .u32).sz (.slice q7 q0b.length c_u0_s) q0b.length q2 :: ro ρ :: l)) ?_ ?_
   ·refine x_cond_p (q5 < (v1.length : Int)) rfl (fun hc19 => ?_) (fun hc19 => ?_)
    ·replace hFc19 := it_t hc19 hFc19
     replace hFc19 := ck_s hFc19; obtain ⟨q0x, hFc19⟩ := hFc19
     replace hFc19 := lv_s hFc19; obtain ⟨x25, hx25, hFc19⟩ := hFc19
     replace hFc19 := lv_s hFc19; obtain ⟨x26, hx26, hFc19⟩ := hFc19
     replace hFc19 := lv_s hFc19; obtain ⟨x27, hx27, hFc19⟩ := hFc19
     replace hFc19 := lv_s hFc19; obtain ⟨x28, hx28, hFc19⟩ := hFc19
     refine x_region <| p (yl_move q0t) <| p (yl_move q0m) <| p (yl_move q0i) <|
      p (yl_move rfl) <| p (yix_f sl_39 rfl rfl q0w q0x) <| pa (at_load one_77 rfl (RdS.getW q0w (hS.pull 1) q0x hx25)) <| p (yconvu wm_u64 uk_77 ik_75 rfl hx26) <|
      p (ymulu wm_u64 rfl rfl hx27) <| p (yaddu wm_u64 rfl rfl hx28) <| p (yl_assign rfl) <| x_done <| ?_
     exact x_inv ⟨x28, (sinj hFc19), q0s, q0i, q0m, rfl, q0n, rfl, q0k, q0g, ((hS.pull 1).pull 1)⟩
    ·replace hFc19 := it_f hc19 hFc19
     refine x_skip <| ?_
     exact x_inv ⟨q9, (sinj hFc19), q0s, q0i, q0m, q0t, q0n, rfl, q0k, q0g, ((hS.pull 1).pull 1)⟩
   rintro E w ⟨q0e, rfl, q0o, q11, q12, q0u, q13, q0v, q0y, q0z, hS⟩
   replace hFL4 := ck_s hFL4; obtain ⟨q18, hFL4⟩ := hFL4
   replace hFL4 := ck_s hFL4; obtain ⟨q14, hFL4⟩ := hFL4
   replace hFL4 := lv_s hFL4; obtain ⟨x32, hx32, hFL4⟩ := hFL4
   replace hFL4 := ar_s hFL4; obtain ⟨x33, hx33, hFL4⟩ := hFL4
   replace hFL4 := lv_s hFL4; obtain ⟨x35, hx35, hFL4⟩ := hFL4
   replace hFL4 := ar_s hFL4; obtain ⟨x36, hx36, hFL4⟩ := hFL4
   replace hFL4 := ar_s hFL4; obtain ⟨x37, hx37, hFL4⟩ := hFL4
   replace hFL4 := ar_s hFL4; obtain ⟨x39, hx39, hFL4⟩ := hFL4
   replace hFL4 := lv_s hFL4; obtain ⟨x43, hx43, hFL4⟩ := hFL4
   replace hFL4 := ck_s hFL4; obtain ⟨q19, hFL4⟩ := hFL4
   replace hFL4 := ck_s hFL4; obtain ⟨q15, hFL4⟩ := hFL4
   refine x_seq <| x_region <| p (yl_move q0o) <| p (yl_move q0v) <|
    p (yixw sl_39 rfl rfl q18) <| pa (at_load one_77 rfl (RepL.getW q8 hS q14 hx32)) <| p (yconvi uk_77 ik_2 rfl hx33) <| p (yl_move q0u) <|
    p (yconvu wm_u32 uk_75 ik_77 rfl hx35) <| p (yconvi uk_77 ik_2 rfl hx36) <| p (ysub rfl rfl hx37) <| p (yl_move q13) <|
    p (yadd rfl rfl hx39) <| p (yl_assign rfl) <| x_done <| x_seq <|
    x_region <| p (yl_move q0o) <| p (yl_move q0v) <| p (yl_move rfl) <|
    p (yconvu wm_u32 uk_2 ik_77 rfl hx43) <| p (yixw sl_39 rfl rfl q19) <| ?_
   replace hFL4 := lv_s hFL4; obtain ⟨q1e, q1a, hFL4⟩ := hFL4
   refine o_put' (news := [.int .u32 x43]) sz_77 rfl rfl rfl rfl (o := 0) rfl q15 rfl hS q8 (Le.refl _) (fun c hc => ok_all hc (show (RpI .u32).ok ρ [.int .u32 x43] x43 from rfl)) q1a (fun q1b w' q1c hS => ?_)
   replace hFL4 := ck_s hFL4; obtain ⟨q16, hFL4⟩ := hFL4
   replace hFL4 := lv_s hFL4; obtain ⟨x46, hx46, hFL4⟩ := hFL4
   replace hFL4 := ck_s hFL4; obtain ⟨q17, hFL4⟩ := hFL4
   replace hFL4 := lv_s hFL4; obtain ⟨x48, hx48, hFL4⟩ := hFL4
   replace hFL4 := ar_s hFL4; obtain ⟨x49, hx49, hFL4⟩ := hFL4
   refine x_done <| x_seq <| x_region <| p (yl_move rfl) <|
    p (yshr rfl rfl q16 hx46) <| p (yl_assign rfl) <| x_done <| x_region <|
    p (yl_move q0u) <| p (yshr rfl rfl q17 hx48) <| p (yl_assign rfl) <| x_done <|
    x_blk <| x_region <| p (yadd q0z rfl hx49) <| p (yl_move rfl) <|
    x_done <| ?_
   have e_ := sinj hFL4; subst e_
   exact x_inv ⟨kL4, Nat.lt_succ_self _, q1b, x48, x46, x49, q1e, hLL4, q0o, q11, q12, rfl, rfl, q0y, rfl, q1c, ((hS.pull 1).pull 1)⟩
  ·replace hFL4 := it_f hc14 hFL4
   refine x_exitTo _ rfl <| ?_
   have e_ := sinj hFL4; subst e_
   exact x_inv ⟨q2, q3, q6, hLL4, q0n, q8, ((hS.pull 1).pull 1)⟩
 rintro E w ⟨q4, q0c, q0d, rfl, q1d, q0p, hS⟩
 refine x_seq <| x_region <| p (yl_move q1d) <| p (yl_lss rfl rfl) <|
  p (yl_assign rfl) <| x_done <| ?_
 have e_ := sinj hF; subst e_
 exact x_return ⟨_, ⟨_, _, rfl, rfl, rfl⟩, q4, rfl, q0p, ((hS.pull 1).pull 1)⟩
attribute [irreducible] P_exact_take

def P_exact_give_L2 (q5 : Int) (q7 : Int) (v1 : List Int) : (Int × Int × List Int) → Option ((Int × Int × List Int) ⊕ List Int) := fun (q6, q2, q3) =>
 if q2 < (q7.toNat : Int) then
  ck (0 ≤ q5 ∧ inb q2 q7.toNat) <|
  ck (inb (q5 + q2) q3.length) <|
  lv (gt q3 (q5 + q2)) fun x15 =>
  lv (x15 % 18446744073709551616) fun x16 =>
  lv ((q6 + x16) % 18446744073709551616) fun x17 =>
  bd (
   if q2 < (v1.length : Int) then
    ck (inb q2 v1.length) <|
    lv (gt v1 q2) fun x26 =>
    lv (x26 % 18446744073709551616) fun x27 =>
    lv ((x17 + x27) % 18446744073709551616) fun x28 =>
    some x28
   else
    some x17) fun q4 =>
  lv (q4 % 4294967296) fun x32 =>
  ck (0 ≤ q5 ∧ inb q2 q7.toNat) <|
  ck (inb (q5 + q2) q3.length) <|
  lv (stt q3 (q5 + q2) x32) fun q8 =>
  ck (0 ≤ (32 : Int)) <|
  lv (shr .u64 q4 32) fun x35 =>
  ar (q2 + 1) fun x36 =>
  some (Sum.inl (x35, x36, q8))
 else
  some (Sum.inr q3)
def P_exact_give (q3 : List Int) (q4 : Int) (q5 : Int) (v1 : List Int) : Option (List Int) :=
 bd (
  lp (P_exact_give_L2 q4 q5 v1) fuel (0, 0, q3)) fun q2 =>
 some q2
theorem c_exact_give {w0 w : World} {l : List Assn} {ρ : Heap} {q5 : Option Addr} {q0e : Nat} {c_u0_s : Nat} {q0h : List Value} {cw_u0 : Nat} {q0m : Option Addr} {q0s : Nat} {c_v1 : Nat} {q9 : List Int} {q0i : Int} {q0d : Int} {v1 : List Int} {r : List Int} (hF : P_exact_give q9 q0i q0d v1 = some r) (q0n : RepL (RpI .u32) ρ q9 q0h) (q0q : RdS (RpI .u32) ρ q0m q0s c_v1 v1) (hS : St w0 w (vec 77 (RpI .u32).sz (.slice q5 q0e c_u0_s) q0e q0h :: ro ρ :: l)) :
  Calls Try.prog 63 #[.slice (some ((adr q5).add (q0i.toNat * (RpI .u32).sz))) q0d.toNat cw_u0, .slice q0m q0s c_v1] w fun e w' => ∃ (q8 : List Value), e = .returned (.tuple #[]) ∧ RepL (RpI .u32) ρ r q8 ∧ St w0 w' (vec 77 (RpI .u32).sz (.slice q5 q0e c_u0_s) q0e q8 :: ro ρ :: l) := by
 have e_ := St.vec_n hS q0n; subst e_
 have e_ := q0q.n; subst e_
 refine enterC Try.func63 rfl 37 rfl (by simp) ?_
 refine x_seq <| x_region <| p (yl_assign rfl) <| x_done <|
  x_seq <| x_region <| p (yl_move rfl) <| p (yl_len_slice usl_39 rfl) <|
  p (yl_move rfl) <| x_done <| ?_
 replace hF := bd_s hF; obtain ⟨oL2, hLL2, hF⟩ := hF
 refine x_join (fun E w => ∃ (q3 : List Value) (q0a : List Int), q0a = oL2 ∧ RepL (RpI .u32) ρ q0a q3 ∧ St w0 w (vec 77 (RpI .u32).sz (.slice q5 q9.length c_u0_s) q9.length q3 :: ro ρ :: l)) ?_ ?_
 ·refine x_block ?_
  refine x_loop (fun k_ E w => ∃ (q2 : List Value) (q0b : Int) (q7 : Int) (q4 : List Int), lp (P_exact_give_L2 q0i q0d v1) k_ (q0b, q7, q4) = some oL2 ∧ E 0 = .slice (some ((adr q5).add (q0i.toNat * (RpI .u32).sz))) q0d.toNat cw_u0 ∧ E 1 = .slice q0m v1.length c_v1 ∧ E 4 = .int .u64 q0b ∧ E 7 = .int .i64 (q0d.toNat : Int) ∧ E 8 = .int .i64 q7 ∧ RepL (RpI .u32) ρ q4 q2 ∧ St w0 w (vec 77 (RpI .u32).sz (.slice q5 q9.length c_u0_s) q9.length q2 :: ro ρ :: l)) fuel ⟨q0h, 0, 0, q9, hLL2, rfl, rfl, rfl, rfl, rfl, q0n, ((hS.pull 1).pull 1)⟩ ?_
  rintro kL2 E w ⟨q2, q0b, q7, q4, hLL2, q0j, q0f, q0t, q0k, q0g, q6, hS⟩
  replace hLL2 := lp_s hLL2; obtain ⟨kL2, obL2, rfl, hFL2, hLL2⟩ := hLL2
  refine x_seq <| x_region <| p (yl_lss q0g q0k) <| x_done <|
   x_seq <|
   x_cond_p (q7 < (q0d.toNat : Int)) rfl (fun hc9 => ?_) (fun hc9 => ?_)
  ·replace hFL2 := it_t hc9 hFL2
   replace hFL2 := ck_s hFL2; obtain ⟨q10, hFL2⟩ := hFL2
   replace hFL2 := ck_s hFL2; obtain ⟨q0u, hFL2⟩ := hFL2
   replace hFL2 := lv_s hFL2; obtain ⟨x15, hx15, hFL2⟩ := hFL2
   replace hFL2 := lv_s hFL2; obtain ⟨x16, hx16, hFL2⟩ := hFL2
   replace hFL2 := lv_s hFL2; obtain ⟨x17, hx17, hFL2⟩ := hFL2
   refine x_skip <| x_seq <| x_block <| x_seq <|
    x_region <| p (yl_move q0g) <| p (yl_assign rfl) <| x_done <|
    x_seq <| x_region <| p (yl_move q0t) <| p (yl_move q0j) <|
    p (yl_move rfl) <| p (yixw sl_39 rfl rfl q10) <| pa (at_load one_77 rfl (RepL.getW q6 hS q0u hx15)) <| p (yconvu wm_u64 uk_77 ik_75 rfl hx16) <|
    p (yaddu wm_u64 rfl rfl hx17) <| p (yl_assign rfl) <| x_done <| x_seq <|
    x_seq <| x_region <| p (yl_move rfl) <| p (yl_move q0f) <|
    p (yl_len_slice usl_39 rfl) <| p (yl_lss rfl rfl) <| x_done <| ?_
   replace hFL2 := bd_s hFL2; obtain ⟨oc21, hFc21, hFL2⟩ := hFL2
   refine x_join (fun E w => ∃ (q0c : Int), q0c = oc21 ∧ E 0 = .slice (some ((adr q5).add (q0i.toNat * (RpI .u32).sz))) q0d.toNat cw_u0 ∧ E 1 = .slice q0m v1.length c_v1 ∧ E 4 = .int .u64 q0c ∧ E 5 = .int .i64 q7 ∧ E 7 = .int .i64 (q0d.toNat : Int) ∧ E 8 = .int .i64 q7 ∧ St w0 w (vec 77 (RpI .u32).sz (.slice q5 q9.length c_u0_s) q9.length q2 :: ro ρ :: l)) ?_ ?_
   ·refine x_cond_p (q7 < (v1.length : Int)) rfl (fun hc21 => ?_) (fun hc21 => ?_)
    ·replace hFc21 := it_t hc21 hFc21
     replace hFc21 := ck_s hFc21; obtain ⟨q0r, hFc21⟩ := hFc21
     replace hFc21 := lv_s hFc21; obtain ⟨x26, hx26, hFc21⟩ := hFc21
     replace hFc21 := lv_s hFc21; obtain ⟨x27, hx27, hFc21⟩ := hFc21
     replace hFc21 := lv_s hFc21; obtain ⟨x28, hx28, hFc21⟩ := hFc21
     refine x_region <| p (yl_move rfl) <| p (yl_move q0f) <| p (yl_move rfl) <|
      p (yix_f sl_39 rfl rfl q0q q0r) <| pa (at_load one_77 rfl (RdS.getW q0q (hS.pull 1) q0r hx26)) <| p (yconvu wm_u64 uk_77 ik_75 rfl hx27) <| p (yaddu wm_u64 rfl rfl hx28) <|
      p (yl_assign rfl) <| x_done <| ?_
     exact x_inv ⟨x28, (sinj hFc21), q0j, q0f, rfl, rfl, q0k, q0g, ((hS.pull 1).pull 1)⟩
    ·replace hFc21 := it_f hc21 hFc21
     refine x_skip <| ?_
     exact x_inv ⟨x17, (sinj hFc21), q0j, q0f, rfl, rfl, q0k, q0g, ((hS.pull 1).pull 1)⟩
   rintro E w ⟨q0c, rfl, q0o, q0v, q0p, q0w, q0x, q0y, hS⟩
   replace hFL2 := lv_s hFL2; obtain ⟨x32, hx32, hFL2⟩ := hFL2
   replace hFL2 := ck_s hFL2; obtain ⟨q11, hFL2⟩ := hFL2
   replace hFL2 := ck_s hFL2; obtain ⟨q0z, hFL2⟩ := hFL2
   refine x_seq <| x_region <| p (yl_move q0o) <| p (yl_move q0w) <|
    p (yl_move q0p) <| p (yconvu wm_u32 uk_75 ik_77 rfl hx32) <| p (yixw sl_39 rfl rfl q11) <| ?_
   replace hFL2 := lv_s hFL2; obtain ⟨q16, q12, hFL2⟩ := hFL2
   refine o_put' (news := [.int .u32 x32]) sz_77 rfl rfl rfl rfl (o := 0) rfl q0z rfl hS q6 (Le.refl _) (fun c hc => ok_all hc (show (RpI .u32).ok ρ [.int .u32 x32] x32 from rfl)) q12 (fun q13 w' q14 hS => ?_)
   replace hFL2 := ck_s hFL2; obtain ⟨q15, hFL2⟩ := hFL2
   replace hFL2 := lv_s hFL2; obtain ⟨x35, hx35, hFL2⟩ := hFL2
   replace hFL2 := ar_s hFL2; obtain ⟨x36, hx36, hFL2⟩ := hFL2
   refine x_done <| x_region <| p (yl_move q0p) <| p (yshr rfl rfl q15 hx35) <|
    p (yl_assign rfl) <| x_done <| x_blk <| x_region <|
    p (yadd q0y rfl hx36) <| p (yl_move rfl) <| x_done <| ?_
   have e_ := sinj hFL2; subst e_
   exact x_inv ⟨kL2, Nat.lt_succ_self _, q13, x35, x36, q16, hLL2, q0o, q0v, rfl, q0x, rfl, q14, ((hS.pull 1).pull 1)⟩
  ·replace hFL2 := it_f hc9 hFL2
   refine x_exitTo _ rfl <| ?_
   have e_ := sinj hFL2; subst e_
   exact x_inv ⟨q2, q4, hLL2, q6, ((hS.pull 1).pull 1)⟩
 rintro E w ⟨q3, q0a, rfl, q0l, hS⟩
 have e_ := sinj hF; subst e_
 exact x_fin ⟨_, rfl, q3, rfl, q0l, ((hS.pull 1).pull 1)⟩
attribute [irreducible] P_exact_give

def P_exact_divMag_L15 (x52 : List Int) (q5 : List Int) (q4 : Int) : (Int × Int) → Option ((Int × Int) ⊕ Int) := fun (q2, q3) =>
 ck (0 ≤ (32 : Int)) <|
 lv (shr .u64 q2 32) fun x101 =>
 ck ((!(decide (x101 ≠ 0))) = true → I64 ((x52.length : Int) - 2)) <|
 lv ((x52.length : Int) - 2) fun x107 =>
 ck ((!(decide (x101 ≠ 0))) = true → inb x107 x52.length) <|
 lv (gt x52 x107) fun x109 =>
 lv (x109 % 18446744073709551616) fun x110 =>
 lv ((q2 * x110) % 18446744073709551616) fun x111 =>
 ck ((!(decide (x101 ≠ 0))) = true → 0 ≤ (32 : Int)) <|
 lv (shl .u64 q3 32) fun x113 =>
 ck ((!(decide (x101 ≠ 0))) = true → I64 (q4 + (x52.length : Int))) <|
 lv (q4 + (x52.length : Int)) fun x117 =>
 ck ((!(decide (x101 ≠ 0))) = true → I64 (x117 - 2)) <|
 lv (x117 - 2) fun x118 =>
 ck ((!(decide (x101 ≠ 0))) = true → inb x118 q5.length) <|
 lv (gt q5 x118) fun x120 =>
 lv (x120 % 18446744073709551616) fun x121 =>
 lv (bOr .u64 x113 x121) fun x122 =>
 lv ((decide (x101 ≠ 0)) || (decide (x122 < x111))) fun x124 =>
 if x124 = true then
  lv ((q2 - 1) % 18446744073709551616) fun x126 =>
  ar ((x52.length : Int) - 1) fun x130 =>
  ck (inb x130 x52.length) <|
  lv (gt x52 x130) fun x132 =>
  lv (x132 % 18446744073709551616) fun x133 =>
  lv ((q3 + x133) % 18446744073709551616) fun x134 =>
  ck (0 ≤ (32 : Int)) <|
  lv (shr .u64 x134 32) fun x136 =>
  if x136 ≠ 0 then
   some (Sum.inr x126)
  else
   some (Sum.inl (x126, x134))
 else
  some (Sum.inr q2)
def P_exact_divMag_L11 (x52 : List Int) : (List Int × List Int × Int) → Option ((List Int × List Int × Int) ⊕ (List Int × List Int)) := fun (q3, q5, q2) =>
 if 0 ≤ q2 then
  ar (q2 + (x52.length : Int)) fun x70 =>
  ck (inb x70 q3.length) <|
  lv (gt q3 x70) fun x72 =>
  lv (x72 % 18446744073709551616) fun x73 =>
  ck (0 ≤ (32 : Int)) <|
  lv (shl .u64 x73 32) fun x74 =>
  ar (q2 + (x52.length : Int)) fun x78 =>
  ar (x78 - 1) fun x79 =>
  ck (inb x79 q3.length) <|
  lv (gt q3 x79) fun x81 =>
  lv (x81 % 18446744073709551616) fun x82 =>
  lv (bOr .u64 x74 x82) fun x83 =>
  ar ((x52.length : Int) - 1) fun x87 =>
  ck (inb x87 x52.length) <|
  lv (gt x52 x87) fun x89 =>
  lv (x89 % 18446744073709551616) fun x90 =>
  ck (x90 ≠ 0) <|
  lv ((Int.tdiv x83 x90) % 18446744073709551616) fun x91 =>
  ar ((x52.length : Int) - 1) fun x95 =>
  ck (inb x95 x52.length) <|
  lv (gt x52 x95) fun x97 =>
  lv (x97 % 18446744073709551616) fun x98 =>
  ck (x98 ≠ 0) <|
  lv (Int.tmod x83 x98) fun x99 =>
  bd (
   lp (P_exact_divMag_L15 x52 q3 q2) fuel (x91, x99)) fun q4 =>
  ar (q2 + (x52.length : Int)) fun x142 =>
  ar (x142 + 1) fun x143 =>
  ck (inb q2 q3.length ∧ q2 ≤ x143 ∧ x143 ≤ q3.length) <|
  lv (x143 - q2) fun m144 =>
  bd (P_exact_take q3 q2 m144 x52 q4) fun q6 =>
  bd (
   if q6.1 = true then
    lv ((q4 - 1) % 18446744073709551616) fun x149 =>
    ar (q2 + (x52.length : Int)) fun x154 =>
    ar (x154 + 1) fun x155 =>
    ck (inb q2 q6.2.length ∧ q2 ≤ x155 ∧ x155 ≤ q6.2.length) <|
    lv (x155 - q2) fun m156 =>
    bd (P_exact_give q6.2 q2 m156 x52) fun q9 =>
    some (q9, x149)
   else
    some (q6.2, q4)) fun (q8, q7) =>
  lv (q7 % 4294967296) fun x162 =>
  ck (inb q2 q5.length) <|
  lv (stt q5 q2 x162) fun q0a =>
  ar (q2 - 1) fun x66 =>
  some (Sum.inl (q8, q0a, x66))
 else
  some (Sum.inr (q3, q5))
def P_exact_divMag_L24 (q4 : Int) (x52 : List Int) : (List Int × Int) → Option ((List Int × Int) ⊕ List Int) := fun (q3, q2) =>
 if q2 < (x52.length : Int) then
  ck (inb q2 q3.length) <|
  lv (gt q3 q2) fun x173 =>
  ck (0 ≤ q4) <|
  lv (shr .u32 x173 q4) fun x175 =>
  ar (q2 + 1) fun x178 =>
  ck (inb x178 q3.length) <|
  lv (gt q3 x178) fun x180 =>
  lv (x180 % 18446744073709551616) fun x181 =>
  ck (0 ≤ (32 : Int)) <|
  lv (shl .u64 x181 32) fun x182 =>
  ck (0 ≤ q4) <|
  lv (shr .u64 x182 q4) fun x184 =>
  lv (x184 % 4294967296) fun x185 =>
  lv (bOr .u32 x175 x185) fun x186 =>
  ck (inb q2 q3.length) <|
  lv (stt q3 q2 x186) fun q5 =>
  ar (q2 + 1) fun x188 =>
  some (Sum.inl (q5, x188))
 else
  some (Sum.inr q3)
def P_exact_divMag (a0 : List Int) (b1 : List Int) : Option (List Int × List Int) :=
 bd (P_exact_cmpMag a0 b1) fun q0a =>
 if q0a < 0 then
  some ([], a0)
 else
  if (b1.length : Int) = 1 then
   ck (inb 0 b1.length) <|
   lv (gt b1 (0 : Int)) fun x30 =>
   bd (P_exact_divSmall a0 x30) fun q5 =>
   some (q5.1, ([q5.2] : List Int))
  else
   ar ((b1.length : Int) - 1) fun x40 =>
   ck (inb x40 b1.length) <|
   lv (gt b1 x40) fun x42 =>
   bd (P_math_bits_LeadingZeros32 x42) fun q3 =>
   bd (P_exact_shifted a0 q3) fun q6 =>
   bd (P_exact_shifted b1 q3) fun q7 =>
   ck (0 ≤ (0 : Int) ∧ (0 : Int) ≤ (b1.length : Int) ∧ (b1.length : Int) ≤ q7.length) <|
   lv (sub q7 0 (b1.length : Int)) fun x52 =>
   ar ((q6.length : Int) - (x52.length : Int)) fun x58 =>
   ck (mkOk 4 x58) <|
   lv ((List.replicate (x58 : Int).toNat 0 : List Int)) fun q8 =>
   ar ((q8.length : Int) - 1) fun x62 =>
   bd (
    lp (P_exact_divMag_L11 x52) fuel (q6, q8, x62)) fun (q9, q4) =>
   bd (
    lp (P_exact_divMag_L24 q3 x52) fuel (q9, 0)) fun q2 =>
   ck (0 ≤ (0 : Int) ∧ (0 : Int) ≤ (x52.length : Int) ∧ (x52.length : Int) ≤ q2.length) <|
   lv (sub q2 0 (x52.length : Int)) fun x192 =>
   some (q4, x192)
theorem c_exact_divMag {w0 w : World} {l : List Assn} {ρ : Heap} {q1u : Option Addr} {q48 : Nat} {c_a0 : Nat} {q17 : Option Addr} {q49 : Nat} {c_b1 : Nat} {a0 : List Int} {b1 : List Int} {r : (List Int × List Int)} (hF : P_exact_divMag a0 b1 = some r) (q2d : RdS (RpI .u32) ρ q1u q48 c_a0 a0) (q1n : RdS (RpI .u32) ρ q17 q49 c_b1 b1) (hS : St w0 w (ro ρ :: l)) :
  Calls Try.prog 58 #[.slice q1u q48 c_a0, .slice q17 q49 c_b1] w fun e w' => ∃ (ρ' : Heap) (q2e : Option Addr) (q1o : Nat) (c_y0_ret : Nat) (q28 : List Value) (q2f : Option Addr) (q2g : Nat) (c_y1_ret : Nat), e = .returned (.tuple #[.slice q2e q1o c_y0_ret, .slice q2f q2g c_y1_ret]) ∧ Le ρ ρ' ∧ RepL (RpI .u32) ρ' r.1 q28 ∧ RdS (RpI .u32) ρ' q2f q2g c_y1_ret r.2 ∧ St w0 w' (vec 77 (RpI .u32).sz (.slice q2e q1o c_y0_ret) q1o q28 :: ro ρ' :: l) := by
 have e_ := q2d.n; subst e_
 have e_ := q1n.n; subst e_
 refine enterC Try.func58 rfl 193 rfl (by simp) ?_
 replace hF := bd_s hF; obtain ⟨q53, q4u, hF⟩ := hF
 refine x_seq <| x_region <| p (yl_assign rfl) <| p (yl_assign rfl) <|
  x_done <| x_seq <| x_seq <| x_region <|
  p (yl_move rfl) <| p (yl_move rfl) <| ?_
 have hcall := c_exact_cmpMag q4u q2d q1n hS
 refine o_cc call_48 (args2 rfl rfl) (hcall) ?_
 rintro e w' ⟨rfl, hS⟩
 refine ⟨_, rfl, ?_⟩
 refine p (yl_lss rfl rfl) <| x_done <|
  x_cond_p (q53 < 0) rfl (fun hc21 => ?_) (fun hc21 => ?_)
 ·replace hF := it_t hc21 hF
  refine x_seq <| x_region <| p (yl_move rfl) <| p (yl_assign rfl) <|
   p (yl_assign rfl) <| x_done <| ?_
  replace hS := St.vec_nil hS 77 (RpI .u32).sz
  have q2a : RepL (RpI .u32) ρ [] [] := rfl
  have e_ := sinj hF; subst e_
  exact x_return ⟨_, ⟨_, _, rfl, rfl, _, _, rfl, rfl, rfl⟩, ρ, none, 0, 0, [], q1u, a0.length, c_a0, rfl, (Le.refl _), q2a, q2d, ((hS.pull 1).pull 1)⟩
 ·replace hF := it_f hc21 hF
  refine x_skip <| x_seq <| x_seq <| x_region <|
   p (yl_move rfl) <| p (yl_len_slice usl_39 rfl) <| p (yl_eql rfl rfl) <| x_done <|
   x_cond_p ((b1.length : Int) = 1) rfl (fun hc25 => ?_) (fun hc25 => ?_)
  ·replace hF := it_t hc25 hF
   replace hF := ck_s hF; obtain ⟨q3q, hF⟩ := hF
   replace hF := lv_s hF; obtain ⟨x30, hx30, hF⟩ := hF
   replace hF := bd_s hF; obtain ⟨q1p, q4v, hF⟩ := hF
   refine x_seq <| x_region <| p (yl_move rfl) <| p (yl_move rfl) <|
    p (yix_f sl_39 rfl rfl q1n q3q) <| pa (at_load one_77 rfl (RdS.getW q1n hS q3q hx30)) <| ?_
   have hcall := c_exact_divSmall q4v q2d hS
   refine o_cc call_42 (args2 rfl rfl) hcall ?_
   rintro e w' ⟨q2h, q4a, c_y0_ret_4_4, q2b, rfl, q18, hS⟩
   refine ⟨_, rfl, ?_⟩
   have e_ := St.vec_n hS q18; subst e_
   refine p (yl_move rfl) <| p (yl_extract rfl rfl) <| p (yl_extract rfl rfl) <| p (yl_assign rfl) <|
    p (yl_assign rfl) <| x_done <| x_seq <| x_region <|
    p (yl_move rfl) <| p (yl_move rfl) <| ?_
   refine o_buildSlice (vs := [.int .u32 q1p.2]) (cs := [.int .u32 q1p.2]) sl_39 zero_77 (parts_eq (pt (va := .int .u32 q1p.2) rfl pt0)) rfl (by intro v hv; simp only [List.mem_cons, List.not_mem_nil, or_false] at hv; first | (subst hv; rfl) | (rcases hv with rfl <;> rfl)) (by decide) rfl hS (fun b36 w' hS => ?_)
   refine p (yl_assign rfl) <| p (yl_assign rfl) <| x_done <| ?_
   have q3k : RepL (RpI .u32) ρ ([q1p.2] : List Int) [.int .u32 q1p.2] := (RepL.cons (cs := [.int .u32 q1p.2]) rfl RepL.nil)
   replace hS := St.vec_of (n := 1) (sz := (RpI .u32).sz) hS rfl (by decide)
   have q_ := St.vec_fz ((hS.pull 2).pull 1) q3k; obtain ⟨q36, q1m, q37, hS⟩ := q_
   have e_ := sinj hF; subst e_
   exact x_return ⟨_, ⟨_, _, rfl, rfl, _, _, rfl, rfl, rfl⟩, q36, q2h, q1p.1.length, c_y0_ret_4_4, q2b, (some ⟨b36, 0, none⟩), 1, 1, rfl, q1m, (q18.le q1m), q37, (hS.pull 1)⟩
  ·replace hF := it_f hc25 hF
   replace hF := ar_s hF; obtain ⟨x40, hx40, hF⟩ := hF
   replace hF := ck_s hF; obtain ⟨q3r, hF⟩ := hF
   replace hF := lv_s hF; obtain ⟨x42, hx42, hF⟩ := hF
   replace hF := bd_s hF; obtain ⟨q0e, q4w, hF⟩ := hF
   refine x_skip <| x_seq <| x_region <| p (yl_move rfl) <|
    p (yl_move rfl) <| p (yl_len_slice usl_39 rfl) <| p (ysub rfl rfl hx40) <| p (yix_f sl_39 rfl rfl q1n q3r) <|
    pa (at_load one_77 rfl (RdS.getW q1n hS q3r hx42)) <| ?_
   have hcall := c_math_bits_LeadingZeros32 q4w  hS
   refine o_cc call_60 (args1 rfl) (hcall) ?_
   rintro e w' ⟨rfl, hS⟩
   refine ⟨_, rfl, ?_⟩
   refine p (v := .int .i64 q0e) (yl_assign rfl) <| x_done <| x_seq <| ?_
   replace hF := bd_s hF; obtain ⟨q5, q4x, hF⟩ := hF
   replace hF := bd_s hF; obtain ⟨q0f, q4y, hF⟩ := hF
   replace hF := ck_s hF; obtain ⟨q3s, hF⟩ := hF
   replace hF := lv_s hF; obtain ⟨x52, hx52, hF⟩ := hF
   refine x_par (w0 := w0) [⟨[], [], [44], [], [], []⟩, ⟨[], [], [45], [], [], []⟩, ⟨[0, 1], [0, 1], [46], [0], [], [1]⟩, ⟨[], [], [47], [], [], []⟩, ⟨[], [], [48], [], [], []⟩, ⟨[0, 1, 2, 3, 4], [3, 4], [49], [0], [], [2]⟩, ⟨[], [], [50], [], [], []⟩, ⟨[6], [6], [51], [], [], []⟩, ⟨[0, 1, 2, 3, 4, 5, 6, 7], [5, 7], [52], [0], [2], [3]⟩, ⟨[0, 1, 2, 3, 4, 5], [2], [9, 46], [], [], []⟩, ⟨[0, 1, 2, 3, 4, 5, 6, 7, 8, 9], [8], [10, 52], [], [], []⟩] [⟨none, none, []⟩, ⟨(some 2), none, [46]⟩, ⟨(some 5), (some 8), [49]⟩, ⟨(some 8), none, [49, 52]⟩] [9, 10, 44, 45, 46, 47, 48, 49, 50, 51, 52] [0] [0, 1, 3] [0, 1, 2, 3, 4, 5, 6, 7, 8, 9, 10] [fun Ep7 => Ep7 44 = .slice q1u a0.length c_a0, fun Ep7 => Ep7 45 = .int .i64 q0e, fun Ep7 => Ep7 46 = .slice (adOf (Ep7 46)) q5.length (capOf (Ep7 46)), fun Ep7 => Ep7 47 = .slice q17 b1.length c_b1, fun Ep7 => Ep7 48 = .int .i64 q0e, fun Ep7 => Ep7 49 = .slice (adOf (Ep7 49)) q0f.length (capOf (Ep7 49)), fun Ep7 => Ep7 50 = .slice q17 b1.length c_b1, fun Ep7 => Ep7 51 = .int .i64 (b1.length : Int), fun Ep7 => Ep7 52 = .slice (adOf (Ep7 52)) x52.length (capOf (Ep7 52)), fun Ep7 => Ep7 9 = .slice (adOf (Ep7 46)) q5.length (capOf (Ep7 46)), fun Ep7 => Ep7 10 = .slice (adOf (Ep7 52)) x52.length (capOf (Ep7 52))] [fun Ep7 => ro ρ, fun Ep7 => bunA (fun (q2 : List Value) => RepL (RpI .u32) ρ q5 q2) (fun (q2 : List Value) => [vec 77 (RpI .u32).sz (.slice (adOf (Ep7 46)) q5.length (capOf (Ep7 46))) q5.length q2]), fun Ep7 => bunA (fun (q4 : List Value) => RepL (RpI .u32) ρ q0f q4) (fun (q4 : List Value) => [vec 77 (RpI .u32).sz (.slice (adOf (Ep7 49)) q0f.length (capOf (Ep7 49))) q0f.length q4]), fun Ep7 => bunA (fun (q7 : Heap) => Le ρ q7 ∧ RdS (RpI .u32) q7 (adOf (Ep7 49)) q0f.length (capOf (Ep7 49)) q0f ∧ RdS (RpI .u32) q7 (adOf (Ep7 52)) x52.length (capOf (Ep7 52)) x52) (fun (q7 : Heap) => [roD ρ q7])] mixed (by kernel_rfl) hS ?_ ?_
   ·refine ⟨?_, ?_, ?_, ?_, ?_, ?_, ?_, ?_, ?_, ?_, ?_, trivial⟩
    ·intro Ep7 w l' hE7 hO7 hF_ hS
     refine p (yl_move (hE7 0 rfl)) <| x_done <| ?_
     refine x_fin ⟨⟨_, rfl⟩, rfl, ?_⟩
     exact emk hS
    ·intro Ep7 w l' hE7 hO7 hF_ hS
     refine p (v := .int .i64 q0e) (yl_move (hE7 8 rfl)) <| x_done <| ?_
     refine x_fin ⟨⟨_, rfl⟩, rfl, ?_⟩
     exact emk hS
    ·intro Ep7 w l' hE7 hO7 hF_ hS
     obtain ⟨q1v, q1w, -⟩ := hF_
     replace q1v : Ep7 44 = .slice q1u a0.length c_a0 := emk q1v
     replace q1w : Ep7 45 = .int .i64 q0e := emk q1w
     replace hS : St w0 w (ro ρ :: l') := emk hS
     have hcall := c_exact_shifted q4x q2d hS
     refine o_cc call_61 (args2 q1v q1w) hcall ?_
     rintro e w' ⟨q2i, q4b, c_y0_ret_7_2, q2, rfl, q0k, hS⟩
     refine ⟨_, rfl, ?_⟩
     have e_ := St.vec_n hS q0k; subst e_
     refine x_done <| ?_
     refine x_fin ⟨⟨_, rfl⟩, rfl, ?_⟩
     replace hS := St.bun (Φ := (fun (q2 : List Value) => RepL (RpI .u32) ρ q5 q2)) (L := (fun (q2 : List Value) => [vec 77 (RpI .u32).sz (.slice q2i q5.length c_y0_ret_7_2) q5.length q2])) q2 q0k hS
     exact emk (hS.pull 1)
    ·intro Ep7 w l' hE7 hO7 hF_ hS
     refine p (yl_move (hE7 1 rfl)) <| x_done <| ?_
     refine x_fin ⟨⟨_, rfl⟩, rfl, ?_⟩
     exact emk hS
    ·intro Ep7 w l' hE7 hO7 hF_ hS
     refine p (v := .int .i64 q0e) (yl_move (hE7 8 rfl)) <| x_done <| ?_
     refine x_fin ⟨⟨_, rfl⟩, rfl, ?_⟩
     exact emk hS
    ·intro Ep7 w l' hE7 hO7 hF_ hS
     obtain ⟨q1x, q1y, -⟩ := hF_
     replace q1x : Ep7 47 = .slice q17 b1.length c_b1 := emk q1x
     replace q1y : Ep7 48 = .int .i64 q0e := emk q1y
     replace hS : St w0 w (ro ρ :: l') := emk hS
     have hcall := c_exact_shifted q4y q1n hS
     refine o_cc call_61 (args2 q1x q1y) hcall ?_
     rintro e w' ⟨q2j, q4c, c_y0_ret_7_5, q4, rfl, q0l, hS⟩
     refine ⟨_, rfl, ?_⟩
     have e_ := St.vec_n hS q0l; subst e_
     refine x_done <| ?_
     refine x_fin ⟨⟨_, rfl⟩, rfl, ?_⟩
     replace hS := St.bun (Φ := (fun (q4 : List Value) => RepL (RpI .u32) ρ q0f q4)) (L := (fun (q4 : List Value) => [vec 77 (RpI .u32).sz (.slice q2j q0f.length c_y0_ret_7_5) q0f.length q4])) q4 q0l hS
     exact emk (hS.pull 1)
    ·intro Ep7 w l' hE7 hO7 hF_ hS
     refine p (yl_move (hE7 1 rfl)) <| x_done <| ?_
     refine x_fin ⟨⟨_, rfl⟩, rfl, ?_⟩
     exact emk hS
    ·intro Ep7 w l' hE7 hO7 hF_ hS
     obtain ⟨q1z, -⟩ := hF_
     replace q1z : Ep7 50 = .slice q17 b1.length c_b1 := emk q1z
     refine p (yl_len_slice usl_39 q1z) <| x_done <| ?_
     refine x_fin ⟨⟨_, rfl⟩, rfl, ?_⟩
     exact emk hS
    ·intro Ep7 w l' hE7 hO7 hF_ hS
     obtain ⟨q20, q21, -⟩ := hF_
     replace q20 : Ep7 49 = .slice (adOf (Ep7 49)) q0f.length (capOf (Ep7 49)) := emk q20
     replace q21 : Ep7 51 = .int .i64 (b1.length : Int) := emk q21
     replace hS : St w0 w (ro ρ :: bunA (fun (q4 : List Value) => RepL (RpI .u32) ρ q0f q4) (fun (q4 : List Value) => [vec 77 (RpI .u32).sz (.slice (adOf (Ep7 49)) q0f.length (capOf (Ep7 49))) q0f.length q4]) :: l') := emk hS
     have q_ := St.unbun (hS.pull 1); obtain ⟨q4, q0l, hS⟩ := q_
     have q_ := St.vec_fz ((hS.pull 1).pull 1) q0l; obtain ⟨q7, q2r, q31, hS⟩ := q_
     have q_ := RdS.sub q31 q3s hx52; obtain ⟨A52, n52, c52, hd52, f52⟩ := q_
     refine p (ysub_h sl_39 q20 q21 q3s hd52) <| ?_
     have e_ := f52.n; subst e_
     refine x_done <| ?_
     refine x_fin ⟨⟨_, rfl⟩, rfl, ?_⟩
     replace hS := St.ro_split q2r hS
     replace hS := St.bun (Φ := (fun (q7 : Heap) => Le ρ q7 ∧ RdS (RpI .u32) q7 (adOf (Ep7 49)) q0f.length (capOf (Ep7 49)) q0f ∧ RdS (RpI .u32) q7 A52 x52.length c52 x52)) (L := (fun (q7 : Heap) => [roD ρ q7])) q7 ⟨q2r, q31, f52⟩ (hS.pull 1)
     exact emk (hS.pull 1)
    ·intro Ep7 w l' hE7 hO7 hF_ hS
     obtain ⟨q22, -⟩ := hF_
     replace q22 : Ep7 46 = .slice (adOf (Ep7 46)) q5.length (capOf (Ep7 46)) := emk q22
     refine p (yl_assign q22) <| x_done <| ?_
     refine x_fin ⟨⟨_, rfl⟩, rfl, ?_⟩
     exact emk hS
    ·intro Ep7 w l' hE7 hO7 hF_ hS
     obtain ⟨q23, -⟩ := hF_
     replace q23 : Ep7 52 = .slice (adOf (Ep7 52)) x52.length (capOf (Ep7 52)) := emk q23
     refine p (yl_assign q23) <| x_done <| ?_
     refine x_fin ⟨⟨_, rfl⟩, rfl, ?_⟩
     exact emk hS
   intro Ep7 w' hE7 hF_ hS
   obtain ⟨q1v, q1w, q22, q1x, q1y, q20, q1z, q21, q23, q32, q2c, -⟩ := hF_
   replace q1v : Ep7 44 = .slice q1u a0.length c_a0 := emk q1v
   replace q1w : Ep7 45 = .int .i64 q0e := emk q1w
   replace q22 : Ep7 46 = .slice (adOf (Ep7 46)) q5.length (capOf (Ep7 46)) := emk q22
   replace q1x : Ep7 47 = .slice q17 b1.length c_b1 := emk q1x
   replace q1y : Ep7 48 = .int .i64 q0e := emk q1y
   replace q20 : Ep7 49 = .slice (adOf (Ep7 49)) q0f.length (capOf (Ep7 49)) := emk q20
   replace q1z : Ep7 50 = .slice q17 b1.length c_b1 := emk q1z
   replace q21 : Ep7 51 = .int .i64 (b1.length : Int) := emk q21
   replace q23 : Ep7 52 = .slice (adOf (Ep7 52)) x52.length (capOf (Ep7 52)) := emk q23
   replace q32 : Ep7 9 = .slice (adOf (Ep7 46)) q5.length (capOf (Ep7 46)) := emk q32
   replace q2c : Ep7 10 = .slice (adOf (Ep7 52)) x52.length (capOf (Ep7 52)) := emk q2c
   replace hS : St w0 w' (ro ρ :: bunA (fun (q2 : List Value) => RepL (RpI .u32) ρ q5 q2) (fun (q2 : List Value) => [vec 77 (RpI .u32).sz (.slice (adOf (Ep7 46)) q5.length (capOf (Ep7 46))) q5.length q2]) :: bunA (fun (q7 : Heap) => Le ρ q7 ∧ RdS (RpI .u32) q7 (adOf (Ep7 49)) q0f.length (capOf (Ep7 49)) q0f ∧ RdS (RpI .u32) q7 (adOf (Ep7 52)) x52.length (capOf (Ep7 52)) x52) (fun (q7 : Heap) => [roD ρ q7]) :: (l)) := emk hS
   have q_ := St.unbun (hS.pull 1); obtain ⟨q2, q0k, hS⟩ := q_
   have q_ := St.unbun (hS.pull 2); obtain ⟨q7, ⟨q38, q31, f52⟩, hS⟩ := q_
   have q_ := St.ro_join (hS.pull 2) (Le.refl _) q38; obtain ⟨q6, q2s, q0d, hS, q54⟩ := q_
   replace hF := ar_s hF; obtain ⟨x58, hx58, hF⟩ := hF
   refine x_seq <| x_region <| p (yl_move q2c) <| p (yl_len_slice usl_39 rfl) <|
    p (yl_assign rfl) <| x_done <| x_seq <| x_region <|
    p (yl_move q32) <| p (yl_len_slice usl_39 rfl) <| p (yl_move rfl) <| p (ysub rfl rfl hx58) <| ?_
   replace hF := ck_s hF; obtain ⟨q4z, hF⟩ := hF
   replace hF := lv_s hF; obtain ⟨q3, q50, hF⟩ := hF
   refine o_mk sl_39 zero_77 (show (RpI .u32).ok q6 _ 0 from rfl) rfl rfl q4z (by decide) q50 hS (fun A59 cs59 w' hr59 hS => ?_)
   replace hF := ar_s hF; obtain ⟨x62, hx62, hF⟩ := hF
   refine p (yl_assign rfl) <| x_done <| x_seq <| x_seq <|
    x_region <| p (yl_move rfl) <| p (yl_len_slice usl_39 rfl) <| p (ysub rfl rfl hx62) <|
    p (yl_assign rfl) <| x_done <| ?_
   replace hF := bd_s hF; obtain ⟨oL11, hLL11, hF⟩ := hF
   refine x_join (fun E w => ∃ (q0v : List Value) (q0b : List Value) (q1s : List Int) (q24 : List Int), (q1s, q24) = oL11 ∧ E 8 = .int .i64 q0e ∧ E 9 = .slice (adOf (Ep7 46)) q5.length (capOf (Ep7 46)) ∧ E 11 = .int .i64 (x52.length : Int) ∧ E 12 = .slice A59 q3.length q3.length ∧ RepL (RpI .u32) q6 q1s q0v ∧ RepL (RpI .u32) q6 q24 q0b ∧ St w0 w (vec 77 (RpI .u32).sz (.slice (adOf (Ep7 46)) q5.length (capOf (Ep7 46))) q5.length q0v :: vec 77 (RpI .u32).sz (.slice A59 q3.length q3.length) q3.length q0b :: ro q6 :: l)) ?_ ?_
   ·refine x_block ?_
    refine x_loop (fun k_ E w => ∃ (q0j : List Value) (q0a : List Value) (q0y : List Int) (q10 : List Int) (q8 : Int), lp (P_exact_divMag_L11 x52) k_ (q0y, q10, q8) = some oL11 ∧ E 8 = .int .i64 q0e ∧ E 9 = .slice (adOf (Ep7 46)) q5.length (capOf (Ep7 46)) ∧ E 10 = .slice (adOf (Ep7 52)) x52.length (capOf (Ep7 52)) ∧ E 11 = .int .i64 (x52.length : Int) ∧ E 12 = .slice A59 q3.length q3.length ∧ E 13 = .int .i64 q8 ∧ RepL (RpI .u32) q6 q0y q0j ∧ RepL (RpI .u32) q6 q10 q0a ∧ St w0 w (vec 77 (RpI .u32).sz (.slice (adOf (Ep7 46)) q5.length (capOf (Ep7 46))) q5.length q0j :: vec 77 (RpI .u32).sz (.slice A59 q3.length q3.length) q3.length q0a :: ro q6 :: l)) fuel ⟨q2, cs59, q5, q3, x62, hLL11, (hE7 8 rfl), q32, q2c, rfl, rfl, rfl, (q0k.le q2s), hr59, (((hS.pull 1).pull 1).pull 2)⟩ ?_
    rintro kL11 E w ⟨q0j, q0a, q0y, q10, q8, hLL11, q2t, q1d, q1q, q0m, q2k, q11, q9, q12, hS⟩
    replace hLL11 := lp_s hLL11; obtain ⟨kL11, obL11, rfl, hFL11, hLL11⟩ := hLL11
    refine x_seq <| x_seq <| x_region <| p (yl_move q11) <|
     p (yl_geq rfl rfl) <| x_done <|
     x_cond_p (0 ≤ q8) rfl (fun hc64 => ?_) (fun hc64 => ?_)
    ·replace hFL11 := it_t hc64 hFL11
     replace hFL11 := ar_s hFL11; obtain ⟨x70, hx70, hFL11⟩ := hFL11
     replace hFL11 := ck_s hFL11; obtain ⟨q39, hFL11⟩ := hFL11
     replace hFL11 := lv_s hFL11; obtain ⟨x72, hx72, hFL11⟩ := hFL11
     replace hFL11 := lv_s hFL11; obtain ⟨x73, hx73, hFL11⟩ := hFL11
     replace hFL11 := ck_s hFL11; obtain ⟨q4d, hFL11⟩ := hFL11
     replace hFL11 := lv_s hFL11; obtain ⟨x74, hx74, hFL11⟩ := hFL11
     replace hFL11 := ar_s hFL11; obtain ⟨x78, hx78, hFL11⟩ := hFL11
     replace hFL11 := ar_s hFL11; obtain ⟨x79, hx79, hFL11⟩ := hFL11
     replace hFL11 := ck_s hFL11; obtain ⟨q2u, hFL11⟩ := hFL11
     replace hFL11 := lv_s hFL11; obtain ⟨x81, hx81, hFL11⟩ := hFL11
     replace hFL11 := lv_s hFL11; obtain ⟨x82, hx82, hFL11⟩ := hFL11
     replace hFL11 := lv_s hFL11; obtain ⟨x83, hx83, hFL11⟩ := hFL11
     refine x_skip <| x_seq <| x_block <| x_seq <|
      x_still mixed (by kernel_rfl) hS <| q (yl_move q1d) <| q (yl_move q11) <| q (yl_move q0m) <|
      q (yadd rfl rfl hx70) <| q (yix_o sl_39 rfl rfl hS q9 q39) <| qa (fun w' hS => at_load one_77 rfl (RepL.getW q9 hS q39 hx72)) <| q (yconvu wm_u64 uk_77 ik_75 rfl hx73) <|
      q (yshl rfl rfl q4d hx74) <| q (yl_move q1d) <| q (yl_move q11) <| q (yl_move q0m) <|
      q (yadd rfl rfl hx78) <| q (ysub rfl rfl hx79) <| q (yix_o sl_39 rfl rfl hS q9 q2u) <| qa (fun w' hS => at_load one_77 rfl (RepL.getW q9 hS q2u hx81)) <|
      q (yconvu wm_u64 uk_77 ik_75 rfl hx82) <| q (yor rfl rfl hx83) <| q (yl_assign rfl) <|
      q_done fun w' hS => ?_
     replace hFL11 := ar_s hFL11; obtain ⟨x87, hx87, hFL11⟩ := hFL11
     replace hFL11 := ck_s hFL11; obtain ⟨q3a, hFL11⟩ := hFL11
     replace hFL11 := lv_s hFL11; obtain ⟨x89, hx89, hFL11⟩ := hFL11
     replace hFL11 := lv_s hFL11; obtain ⟨x90, hx90, hFL11⟩ := hFL11
     replace hFL11 := ck_s hFL11; obtain ⟨q4e, hFL11⟩ := hFL11
     replace hFL11 := lv_s hFL11; obtain ⟨x91, hx91, hFL11⟩ := hFL11
     replace hFL11 := ar_s hFL11; obtain ⟨x95, hx95, hFL11⟩ := hFL11
     replace hFL11 := ck_s hFL11; obtain ⟨q2v, hFL11⟩ := hFL11
     replace hFL11 := lv_s hFL11; obtain ⟨x97, hx97, hFL11⟩ := hFL11
     replace hFL11 := lv_s hFL11; obtain ⟨x98, hx98, hFL11⟩ := hFL11
     replace hFL11 := ck_s hFL11; obtain ⟨q3u, hFL11⟩ := hFL11
     replace hFL11 := lv_s hFL11; obtain ⟨x99, hx99, hFL11⟩ := hFL11
     refine x_seq <| x_still mixed (by kernel_rfl) hS <| q (yl_move rfl) <| q (yl_move q1q) <|
      q (yl_move q0m) <| q (ysub rfl rfl hx87) <| q (yix_f sl_39 rfl rfl (f52.le q0d) q3a) <| qa (fun w' hS => at_load one_77 rfl (RdS.getW (f52.le q0d) (hS.pull 2) q3a hx89)) <|
      q (yconvu wm_u64 uk_77 ik_75 rfl hx90) <| q (yquou wm_u64 rfl rfl q4e hx91) <| q (yl_move rfl) <| q (yl_move q1q) <|
      q (yl_move q0m) <| q (ysub rfl rfl hx95) <| q (yix_f sl_39 rfl rfl (f52.le q0d) q2v) <| qa (fun w' hS => at_load one_77 rfl (RdS.getW (f52.le q0d) (hS.pull 2) q2v hx97)) <|
      q (yconvu wm_u64 uk_77 ik_75 rfl hx98) <| q (yrem rfl rfl q3u hx99) <| q (yl_assign rfl) <| q (yl_assign rfl) <|
      q_done fun w' hS => ?_
     refine x_seq <| ?_
     replace hFL11 := bd_s hFL11; obtain ⟨oL15, hLL15, hFL11⟩ := hFL11
     refine x_join (fun E w => ∃ (q0o : Int), q0o = oL15 ∧ E 8 = .int .i64 q0e ∧ E 9 = .slice (adOf (Ep7 46)) q5.length (capOf (Ep7 46)) ∧ E 10 = .slice (adOf (Ep7 52)) x52.length (capOf (Ep7 52)) ∧ E 11 = .int .i64 (x52.length : Int) ∧ E 12 = .slice A59 q3.length q3.length ∧ E 13 = .int .i64 q8 ∧ E 15 = .int .u64 q0o ∧ St w0 w (vec 77 (RpI .u32).sz (.slice (adOf (Ep7 46)) q5.length (capOf (Ep7 46))) q5.length q0j :: vec 77 (RpI .u32).sz (.slice A59 q3.length q3.length) q3.length q0a :: ro q6 :: l)) ?_ ?_
     ·refine x_block ?_
      refine x_loop (fun k_ E w => ∃ (q0g : Int) (q0p : Int), lp (P_exact_divMag_L15 x52 q0y q8) k_ (q0g, q0p) = some oL15 ∧ E 8 = .int .i64 q0e ∧ E 9 = .slice (adOf (Ep7 46)) q5.length (capOf (Ep7 46)) ∧ E 10 = .slice (adOf (Ep7 52)) x52.length (capOf (Ep7 52)) ∧ E 11 = .int .i64 (x52.length : Int) ∧ E 12 = .slice A59 q3.length q3.length ∧ E 13 = .int .i64 q8 ∧ E 15 = .int .u64 q0g ∧ E 16 = .int .u64 q0p ∧ St w0 w (vec 77 (RpI .u32).sz (.slice (adOf (Ep7 46)) q5.length (capOf (Ep7 46))) q5.length q0j :: vec 77 (RpI .u32).sz (.slice A59 q3.length q3.length) q3.length q0a :: ro q6 :: l)) fuel ⟨x91, x99, hLL15, q2t, q1d, q1q, q0m, q2k, q11, rfl, rfl, (((hS.pull 2).pull 2).pull 2)⟩ ?_
      rintro kL15 E w ⟨q0g, q0p, hLL15, q25, q1e, q0t, q0n, q1r, q13, q14, q2l, hS⟩
      replace hLL15 := lp_s hLL15; obtain ⟨kL15, obL15, rfl, hFL15, hLL15⟩ := hLL15
      replace hFL15 := ck_s hFL15; obtain ⟨q4f, hFL15⟩ := hFL15
      replace hFL15 := lv_s hFL15; obtain ⟨x101, hx101, hFL15⟩ := hFL15
      replace hFL15 := ck_s hFL15; obtain ⟨q4g, hFL15⟩ := hFL15
      replace hFL15 := lv_s hFL15; obtain ⟨x107, hx107, hFL15⟩ := hFL15
      replace hFL15 := ck_s hFL15; obtain ⟨q3b, hFL15⟩ := hFL15
      replace hFL15 := lv_s hFL15; obtain ⟨x109, hx109, hFL15⟩ := hFL15
      replace hFL15 := lv_s hFL15; obtain ⟨x110, hx110, hFL15⟩ := hFL15
      replace hFL15 := lv_s hFL15; obtain ⟨x111, hx111, hFL15⟩ := hFL15
      replace hFL15 := ck_s hFL15; obtain ⟨q3v, hFL15⟩ := hFL15
      replace hFL15 := lv_s hFL15; obtain ⟨x113, hx113, hFL15⟩ := hFL15
      replace hFL15 := ck_s hFL15; obtain ⟨q3w, hFL15⟩ := hFL15
      replace hFL15 := lv_s hFL15; obtain ⟨x117, hx117, hFL15⟩ := hFL15
      replace hFL15 := ck_s hFL15; obtain ⟨q3x, hFL15⟩ := hFL15
      replace hFL15 := lv_s hFL15; obtain ⟨x118, hx118, hFL15⟩ := hFL15
      replace hFL15 := ck_s hFL15; obtain ⟨q2w, hFL15⟩ := hFL15
      replace hFL15 := lv_s hFL15; obtain ⟨x120, hx120, hFL15⟩ := hFL15
      replace hFL15 := lv_s hFL15; obtain ⟨x121, hx121, hFL15⟩ := hFL15
      replace hFL15 := lv_s hFL15; obtain ⟨x122, hx122, hFL15⟩ := hFL15
      replace hFL15 := lv_s hFL15; obtain ⟨x124, hx124, hFL15⟩ := hFL15
      refine x_seq <| x_seq <| x_still mixed (by kernel_rfl) hS <| q (yl_move q14) <|
       q (yshr rfl rfl q4f hx101) <| q (yl_neq rfl rfl) <| q (yl_move rfl) <| qg (v := .int .u64 q0g) 103 (c := !(decide (x101 ≠ 0))) (says_f _) (fun hq w' hS => Yl.at (yl_move q14)) <|
       qg (v := .slice (adOf (Ep7 52)) x52.length (capOf (Ep7 52))) 103 (c := !(decide (x101 ≠ 0))) (says_f _) (fun hq w' hS => Yl.at (yl_move q0t)) <| qg (v := .int .i64 (x52.length : Int)) 103 (c := !(decide (x101 ≠ 0))) (says_f _) (fun hq w' hS => Yl.at (yl_move q0n)) <| qg (v := .int .i64 x107) 103 (c := !(decide (x101 ≠ 0))) (says_f _) (fun hq w' hS => Yl.at (ysub (cv hq) rfl ⟨hx107, (q4g hq)⟩)) <| qg (v := .pointer (some ((adr (adOf (Ep7 52))).add (x107.toNat * (RpI .u32).sz)))) 103 (c := !(decide (x101 ≠ 0))) (says_f _) (fun hq w' hS => Yl.at (yix_f sl_39 (cv hq) (cv hq) (f52.le q0d) (q3b hq))) <|
       qg (v := .int .u32 x109) 103 (c := !(decide (x101 ≠ 0))) (says_f _) (fun hq w' hS => at_load one_77 (cv hq) (RdS.getW (f52.le q0d) (hS.pull 2) (q3b hq) hx109)) <| qg (v := .int .u64 x110) 103 (c := !(decide (x101 ≠ 0))) (says_f _) (fun hq w' hS => Yl.at (yconvu wm_u64 uk_77 ik_75 (cv hq) hx110)) <| qg (v := .int .u64 x111) 103 (c := !(decide (x101 ≠ 0))) (says_f _) (fun hq w' hS => Yl.at (ymulu wm_u64 (cv hq) (cv hq) hx111)) <| qg (v := .int .u64 q0p) 103 (c := !(decide (x101 ≠ 0))) (says_f _) (fun hq w' hS => Yl.at (yl_move q2l)) <|
       qg (v := .int .u64 x113) 103 (c := !(decide (x101 ≠ 0))) (says_f _) (fun hq w' hS => Yl.at (yshl (cv hq) rfl (q3v hq) hx113)) <| qg (v := .slice (adOf (Ep7 46)) q5.length (capOf (Ep7 46))) 103 (c := !(decide (x101 ≠ 0))) (says_f _) (fun hq w' hS => Yl.at (yl_move q1e)) <| qg (v := .int .i64 q8) 103 (c := !(decide (x101 ≠ 0))) (says_f _) (fun hq w' hS => Yl.at (yl_move q13)) <| qg (v := .int .i64 (x52.length : Int)) 103 (c := !(decide (x101 ≠ 0))) (says_f _) (fun hq w' hS => Yl.at (yl_move q0n)) <|
       qg (v := .int .i64 x117) 103 (c := !(decide (x101 ≠ 0))) (says_f _) (fun hq w' hS => Yl.at (yadd (cv hq) (cv hq) ⟨hx117, (q3w hq)⟩)) <| qg (v := .int .i64 x118) 103 (c := !(decide (x101 ≠ 0))) (says_f _) (fun hq w' hS => Yl.at (ysub (cv hq) rfl ⟨hx118, (q3x hq)⟩)) <| qg (v := .pointer (some ((adr (adOf (Ep7 46))).add (x118.toNat * (RpI .u32).sz)))) 103 (c := !(decide (x101 ≠ 0))) (says_f _) (fun hq w' hS => Yl.at (yix_o sl_39 (cv hq) (cv hq) hS q9 (q2w hq))) <| qg (v := .int .u32 x120) 103 (c := !(decide (x101 ≠ 0))) (says_f _) (fun hq w' hS => at_load one_77 (cv hq) (RepL.getW q9 hS (q2w hq) hx120)) <|
       qg (v := .int .u64 x121) 103 (c := !(decide (x101 ≠ 0))) (says_f _) (fun hq w' hS => Yl.at (yconvu wm_u64 uk_77 ik_75 (cv hq) hx121)) <| qg (v := .int .u64 x122) 103 (c := !(decide (x101 ≠ 0))) (says_f _) (fun hq w' hS => Yl.at (yor (cv hq) (cv hq) hx122)) <| qg (v := .bool (decide (x122 < x111))) 103 (c := !(decide (x101 ≠ 0))) (says_f _) (fun hq w' hS => Yl.at (yl_gtr (cv hq) (cv hq))) <| q (yor' rfl rfl (fun hc => (cv (t_not hc))) hx124) <|
       q_done fun w' hS => ?_
      refine x_cond (t := x124) rfl (fun hc124 => ?_) (fun hc124 => ?_)
      ·replace hFL15 := it_t hc124 hFL15
       replace hFL15 := lv_s hFL15; obtain ⟨x126, hx126, hFL15⟩ := hFL15
       replace hFL15 := ar_s hFL15; obtain ⟨x130, hx130, hFL15⟩ := hFL15
       replace hFL15 := ck_s hFL15; obtain ⟨q3c, hFL15⟩ := hFL15
       replace hFL15 := lv_s hFL15; obtain ⟨x132, hx132, hFL15⟩ := hFL15
       replace hFL15 := lv_s hFL15; obtain ⟨x133, hx133, hFL15⟩ := hFL15
       replace hFL15 := lv_s hFL15; obtain ⟨x134, hx134, hFL15⟩ := hFL15
       replace hFL15 := ck_s hFL15; obtain ⟨q4h, hFL15⟩ := hFL15
       replace hFL15 := lv_s hFL15; obtain ⟨x136, hx136, hFL15⟩ := hFL15
       refine x_skip <| x_block <| x_seq <| x_region <|
        p (yl_move q14) <| p (ysubu wm_u64 rfl rfl hx126) <| p (yl_assign rfl) <| x_done <|
        x_seq <| x_region <| p (yl_move q2l) <| p (yl_move q0t) <|
        p (yl_move q0n) <| p (ysub rfl rfl hx130) <| p (yix_f sl_39 rfl rfl (f52.le q0d) q3c) <| pa (at_load one_77 rfl (RdS.getW (f52.le q0d) (hS.pull 2) q3c hx132)) <|
        p (yconvu wm_u64 uk_77 ik_75 rfl hx133) <| p (yaddu wm_u64 rfl rfl hx134) <| p (yl_assign rfl) <| x_done <|
        x_seq <| x_region <| p (yl_move rfl) <| p (yshr rfl rfl q4h hx136) <|
        p (yl_neq rfl rfl) <| x_done <|
        x_cond_p (x136 ≠ 0) rfl (fun hc137 => ?_) (fun hc137 => ?_)
       ·replace hFL15 := it_t hc137 hFL15
        refine x_exitTo _ rfl <| ?_
        have e_ := sinj hFL15; subst e_
        exact x_inv ⟨x126, hLL15, q25, q1e, q0t, q0n, q1r, q13, rfl, (((hS.pull 2).pull 2).pull 2)⟩
       ·replace hFL15 := it_f hc137 hFL15
        refine x_skip <| x_blk <| ?_
        have e_ := sinj hFL15; subst e_
        exact x_inv ⟨kL15, Nat.lt_succ_self _, x126, x134, hLL15, q25, q1e, q0t, q0n, q1r, q13, rfl, rfl, (((hS.pull 2).pull 2).pull 2)⟩
      ·replace hFL15 := it_bf hc124 hFL15
       refine x_exitTo _ rfl <| ?_
       have e_ := sinj hFL15; subst e_
       exact x_inv ⟨q0g, hLL15, q25, q1e, q0t, q0n, q1r, q13, q14, (((hS.pull 2).pull 2).pull 2)⟩
     rintro E w ⟨q0o, rfl, q3d, q1t, q1f, q1g, q2x, q0s, q26, hS⟩
     replace hFL11 := ar_s hFL11; obtain ⟨x142, hx142, hFL11⟩ := hFL11
     replace hFL11 := ar_s hFL11; obtain ⟨x143, hx143, hFL11⟩ := hFL11
     replace hFL11 := ck_s hFL11; obtain ⟨q4i, hFL11⟩ := hFL11
     replace hFL11 := lv_s hFL11; obtain ⟨m144, hm144, hFL11⟩ := hFL11
     replace hFL11 := bd_s hFL11; obtain ⟨q3t, q4j, hFL11⟩ := hFL11
     refine x_seq <| x_seq <| x_region <| p (yl_move q1t) <|
      p (yl_move q0s) <| p (yl_move q0s) <| p (yl_move q1g) <| p (yadd rfl rfl hx142) <|
      p (yadd rfl rfl hx143) <| p (yslw sl_39 rfl rfl rfl hS q9 q4i hm144) <| p (yl_move q1f) <| p (yl_move q26) <| ?_
     have hcall := c_exact_take (cw_u0 := ((capOf (Ep7 46)) - q8.toNat)) q4j q9 (f52.le q0d) ((hS.pull 2).pull 1)
     refine o_cc call_62 (args3 rfl rfl rfl) hcall ?_
     rintro e w' ⟨q15, rfl, q0h, hS⟩
     refine ⟨_, rfl, ?_⟩
     refine x_done <| ?_
     replace hFL11 := bd_s hFL11; obtain ⟨oc147, hFc147, hFL11⟩ := hFL11
     refine x_join (fun E w => ∃ (q0q : List Value) (q1h : List Int) (q0u : Int), (q1h, q0u) = oc147 ∧ E 8 = .int .i64 q0e ∧ E 9 = .slice (adOf (Ep7 46)) q5.length (capOf (Ep7 46)) ∧ E 10 = .slice (adOf (Ep7 52)) x52.length (capOf (Ep7 52)) ∧ E 11 = .int .i64 (x52.length : Int) ∧ E 12 = .slice A59 q3.length q3.length ∧ E 13 = .int .i64 q8 ∧ E 15 = .int .u64 q0u ∧ RepL (RpI .u32) q6 q1h q0q ∧ St w0 w (vec 77 (RpI .u32).sz (.slice (adOf (Ep7 46)) q5.length (capOf (Ep7 46))) q5.length q0q :: vec 77 (RpI .u32).sz (.slice A59 q3.length q3.length) q3.length q0a :: ro q6 :: l)) ?_ ?_
     ·refine x_cond (t := q3t.1) rfl (fun hc147 => ?_) (fun hc147 => ?_)
      ·replace hFc147 := it_t hc147 hFc147
       replace hFc147 := lv_s hFc147; obtain ⟨x149, hx149, hFc147⟩ := hFc147
       replace hFc147 := ar_s hFc147; obtain ⟨x154, hx154, hFc147⟩ := hFc147
       replace hFc147 := ar_s hFc147; obtain ⟨x155, hx155, hFc147⟩ := hFc147
       replace hFc147 := ck_s hFc147; obtain ⟨q4k, hFc147⟩ := hFc147
       replace hFc147 := lv_s hFc147; obtain ⟨m156, hm156, hFc147⟩ := hFc147
       replace hFc147 := bd_s hFc147; obtain ⟨q51, q4l, hFc147⟩ := hFc147
       refine x_seq <| x_region <| p (yl_move q26) <| p (ysubu wm_u64 rfl rfl hx149) <|
        p (yl_assign rfl) <| x_done <| x_region <| p (yl_move q1t) <|
        p (yl_move q0s) <| p (yl_move q0s) <| p (yl_move q1g) <| p (yadd rfl rfl hx154) <|
        p (yadd rfl rfl hx155) <| p (yslw sl_39 rfl rfl rfl hS q0h q4k hm156) <| p (yl_move q1f) <| ?_
       have hcall := c_exact_give (cw_u0 := ((capOf (Ep7 46)) - q8.toNat)) q4l q0h (f52.le q0d) ((hS.pull 1).pull 1)
       refine o_cc call_63 (args2 rfl rfl) hcall ?_
       rintro e w' ⟨q16, rfl, q19, hS⟩
       refine ⟨_, rfl, ?_⟩
       refine x_done <| ?_
       exact x_inv ⟨q16, q51, x149, (sinj hFc147), q3d, q1t, q1f, q1g, q2x, q0s, rfl, q19, (((hS.pull 1).pull 2).pull 2)⟩
      ·replace hFc147 := it_bf hc147 hFc147
       refine x_skip <| ?_
       exact x_inv ⟨q15, q3t.2, q0o, (sinj hFc147), q3d, q1t, q1f, q1g, q2x, q0s, q26, q0h, (((hS.pull 1).pull 2).pull 2)⟩
     rintro E w ⟨q0q, q1h, q0u, rfl, q3y, q3z, q3l, q3m, q2m, q2n, q3n, q3e, hS⟩
     replace hFL11 := lv_s hFL11; obtain ⟨x162, hx162, hFL11⟩ := hFL11
     replace hFL11 := ck_s hFL11; obtain ⟨q3f, hFL11⟩ := hFL11
     refine x_region <| p (yl_move q2m) <| p (yl_move q2n) <| p (yl_move q3n) <|
      p (yconvu wm_u32 uk_75 ik_77 rfl hx162) <| p (yix_o sl_39 rfl rfl (hS.pull 1) q12 q3f) <| ?_
     replace hFL11 := lv_s hFL11; obtain ⟨q52, q4m, hFL11⟩ := hFL11
     refine o_put' (news := [.int .u32 x162]) sz_77 rfl rfl rfl rfl (o := 0) rfl q3f rfl (hS.pull 1) q12 (Le.refl _) (fun c hc => ok_all hc (show (RpI .u32).ok q6 [.int .u32 x162] x162 from rfl)) q4m (fun q4n w' q4o hS => ?_)
     replace hFL11 := ar_s hFL11; obtain ⟨x66, hx66, hFL11⟩ := hFL11
     refine x_done <| x_blk <| x_region <| p (yl_move q2n) <|
      p (ysub rfl rfl hx66) <| p (yl_assign rfl) <| x_done <| ?_
     have e_ := sinj hFL11; subst e_
     exact x_inv ⟨kL11, Nat.lt_succ_self _, q0q, q4n, q1h, q52, x66, hLL11, q3y, q3z, q3l, q3m, q2m, rfl, q3e, q4o, (((hS.pull 2).pull 1).pull 2)⟩
    ·replace hFL11 := it_f hc64 hFL11
     refine x_exitTo _ rfl <| ?_
     have e_ := sinj hFL11; subst e_
     exact x_inv ⟨q0j, q0a, q0y, q10, hLL11, q2t, q1d, q0m, q2k, q9, q12, (((hS.pull 2).pull 2).pull 2)⟩
   rintro E w ⟨q0v, q0b, q1s, q24, rfl, q4p, q4q, q2y, q40, q3o, q3g, hS⟩
   refine x_seq <| x_seq <| x_region <| p (yl_move q2y) <|
    p (yl_move rfl) <| x_done <| ?_
   replace hF := bd_s hF; obtain ⟨oL24, hLL24, hF⟩ := hF
   refine x_join (fun E w => ∃ (q1a : List Value) (q2o : List Int), q2o = oL24 ∧ E 9 = .slice (adOf (Ep7 46)) q5.length (capOf (Ep7 46)) ∧ E 11 = .int .i64 (x52.length : Int) ∧ E 12 = .slice A59 q3.length q3.length ∧ RepL (RpI .u32) q6 q2o q1a ∧ St w0 w (vec 77 (RpI .u32).sz (.slice (adOf (Ep7 46)) q5.length (capOf (Ep7 46))) q5.length q1a :: vec 77 (RpI .u32).sz (.slice A59 q3.length q3.length) q3.length q0b :: ro q6 :: l)) ?_ ?_
   ·refine x_block ?_
    refine x_loop (fun k_ E w => ∃ (q0r : List Value) (q1i : List Int) (q0w : Int), lp (P_exact_divMag_L24 q0e x52) k_ (q1i, q0w) = some oL24 ∧ E 8 = .int .i64 q0e ∧ E 9 = .slice (adOf (Ep7 46)) q5.length (capOf (Ep7 46)) ∧ E 11 = .int .i64 (x52.length : Int) ∧ E 12 = .slice A59 q3.length q3.length ∧ E 164 = .int .i64 (x52.length : Int) ∧ E 165 = .int .i64 q0w ∧ RepL (RpI .u32) q6 q1i q0r ∧ St w0 w (vec 77 (RpI .u32).sz (.slice (adOf (Ep7 46)) q5.length (capOf (Ep7 46))) q5.length q0r :: vec 77 (RpI .u32).sz (.slice A59 q3.length q3.length) q3.length q0b :: ro q6 :: l)) fuel ⟨q0v, q1s, 0, hLL24, q4p, q4q, q2y, q40, rfl, rfl, q3o, (((hS.pull 2).pull 2).pull 2)⟩ ?_
    rintro kL24 E w ⟨q0r, q1i, q0w, hLL24, q27, q0z, q2p, q2q, q29, q1b, q0i, hS⟩
    replace hLL24 := lp_s hLL24; obtain ⟨kL24, obL24, rfl, hFL24, hLL24⟩ := hLL24
    refine x_seq <| x_region <| p (yl_lss q1b q29) <| x_done <|
     x_seq <|
     x_cond_p (q0w < (x52.length : Int)) rfl (fun hc166 => ?_) (fun hc166 => ?_)
    ·replace hFL24 := it_t hc166 hFL24
     replace hFL24 := ck_s hFL24; obtain ⟨q3h, hFL24⟩ := hFL24
     replace hFL24 := lv_s hFL24; obtain ⟨x173, hx173, hFL24⟩ := hFL24
     replace hFL24 := ck_s hFL24; obtain ⟨q4r, hFL24⟩ := hFL24
     replace hFL24 := lv_s hFL24; obtain ⟨x175, hx175, hFL24⟩ := hFL24
     replace hFL24 := ar_s hFL24; obtain ⟨x178, hx178, hFL24⟩ := hFL24
     replace hFL24 := ck_s hFL24; obtain ⟨q2z, hFL24⟩ := hFL24
     replace hFL24 := lv_s hFL24; obtain ⟨x180, hx180, hFL24⟩ := hFL24
     replace hFL24 := lv_s hFL24; obtain ⟨x181, hx181, hFL24⟩ := hFL24
     replace hFL24 := ck_s hFL24; obtain ⟨q41, hFL24⟩ := hFL24
     replace hFL24 := lv_s hFL24; obtain ⟨x182, hx182, hFL24⟩ := hFL24
     replace hFL24 := ck_s hFL24; obtain ⟨q42, hFL24⟩ := hFL24
     replace hFL24 := lv_s hFL24; obtain ⟨x184, hx184, hFL24⟩ := hFL24
     replace hFL24 := lv_s hFL24; obtain ⟨x185, hx185, hFL24⟩ := hFL24
     replace hFL24 := lv_s hFL24; obtain ⟨x186, hx186, hFL24⟩ := hFL24
     replace hFL24 := ck_s hFL24; obtain ⟨q30, hFL24⟩ := hFL24
     refine x_skip <| x_seq <| x_block <| x_seq <|
      x_region <| p (yl_move q1b) <| p (yl_assign rfl) <| x_done <|
      x_head 20 mixed (by kernel_rfl) hS _ _ rfl rfl <| q (yl_move q0z) <| q (yl_move rfl) <| q (yl_move q0z) <|
      q (yl_move rfl) <| q (yix_o sl_39 rfl rfl hS q0i q3h) <| qa (fun w' hS => at_load one_77 rfl (RepL.getW q0i hS q3h hx173)) <| q (v := .int .i64 q0e) (yl_move q27) <|
      q (yshr rfl rfl q4r hx175) <| q (yl_move q0z) <| q (yl_move rfl) <| q (yadd rfl rfl hx178) <|
      q (yix_o sl_39 rfl rfl hS q0i q2z) <| qa (fun w' hS => at_load one_77 rfl (RepL.getW q0i hS q2z hx180)) <| q (yconvu wm_u64 uk_77 ik_75 rfl hx181) <| q (yshl rfl rfl q41 hx182) <|
      q (v := .int .i64 q0e) (yl_move q27) <| q (yshr rfl rfl q42 hx184) <| q (yconvu wm_u32 uk_75 ik_77 rfl hx185) <| q (yor rfl rfl hx186) <|
      q (yix_o sl_39 rfl rfl hS q0i q30) <|
      q_done fun w' hS => ?_
     replace hFL24 := lv_s hFL24; obtain ⟨q4s, q43, hFL24⟩ := hFL24
     refine o_put' (news := [.int .u32 x186]) sz_77 rfl rfl rfl rfl (o := 0) rfl q30 rfl hS q0i (Le.refl _) (fun c hc => ok_all hc (show (RpI .u32).ok q6 [.int .u32 x186] x186 from rfl)) q43 (fun q44 w' q45 hS => ?_)
     replace hFL24 := ar_s hFL24; obtain ⟨x188, hx188, hFL24⟩ := hFL24
     refine x_done <| x_blk <| x_region <| p (yadd q1b rfl hx188) <|
      p (yl_move rfl) <| x_done <| ?_
     have e_ := sinj hFL24; subst e_
     exact x_inv ⟨kL24, Nat.lt_succ_self _, q44, q4s, x188, hLL24, q27, q0z, q2p, q2q, q29, rfl, q45, (((hS.pull 2).pull 2).pull 2)⟩
    ·replace hFL24 := it_f hc166 hFL24
     refine x_exitTo _ rfl <| ?_
     have e_ := sinj hFL24; subst e_
     exact x_inv ⟨q0r, q1i, hLL24, q0z, q2p, q2q, q0i, (((hS.pull 2).pull 2).pull 2)⟩
   rintro E w ⟨q1a, q2o, rfl, q4t, q46, q47, q3p, hS⟩
   refine x_seq <| ?_
   have q_ := St.vec_fz ((hS.pull 2).pull 1) q3p; obtain ⟨q0c, q1c, q33, hS⟩ := q_
   replace hF := ck_s hF; obtain ⟨q3i, hF⟩ := hF
   replace hF := lv_s hF; obtain ⟨x192, hx192, hF⟩ := hF
   refine x_par (w0 := w0) [⟨[], [], [189], [], [], []⟩, ⟨[], [], [190], [], [], []⟩, ⟨[], [], [191], [], [], []⟩, ⟨[1, 2], [1, 2], [192], [0], [], []⟩, ⟨[0], [0], [4], [], [], []⟩, ⟨[0, 1, 2, 3, 4], [3], [5, 192], [], [], []⟩] [⟨none, none, []⟩] [4, 5, 189, 190, 191, 192] [0] [0] [0, 1, 2, 3, 4, 5] [fun Ep28 => Ep28 189 = .slice A59 q3.length q3.length, fun Ep28 => Ep28 190 = .slice (adOf (Ep7 46)) q5.length (capOf (Ep7 46)), fun Ep28 => Ep28 191 = .int .i64 (x52.length : Int), fun Ep28 => Ep28 192 = .slice (adOf (Ep28 192)) x192.length (capOf (Ep28 192)) ∧ RdS (RpI .u32) q0c (adOf (Ep28 192)) x192.length (capOf (Ep28 192)) x192, fun Ep28 => Ep28 4 = .slice A59 q3.length q3.length, fun Ep28 => Ep28 5 = .slice (adOf (Ep28 192)) x192.length (capOf (Ep28 192))] [fun Ep28 => ro q0c] mixed (by kernel_rfl) hS ?_ ?_
   ·refine ⟨?_, ?_, ?_, ?_, ?_, ?_, trivial⟩
    ·intro Ep28 w l' hE28 hO28 hF_ hS
     refine p (yl_move ((hE28 12 rfl).trans q47)) <| x_done <| ?_
     refine x_fin ⟨⟨_, rfl⟩, rfl, ?_⟩
     exact emk hS
    ·intro Ep28 w l' hE28 hO28 hF_ hS
     refine p (yl_move ((hE28 9 rfl).trans q4t)) <| x_done <| ?_
     refine x_fin ⟨⟨_, rfl⟩, rfl, ?_⟩
     exact emk hS
    ·intro Ep28 w l' hE28 hO28 hF_ hS
     refine p (yl_move ((hE28 11 rfl).trans q46)) <| x_done <| ?_
     refine x_fin ⟨⟨_, rfl⟩, rfl, ?_⟩
     exact emk hS
    ·intro Ep28 w l' hE28 hO28 hF_ hS
     obtain ⟨q1j, q1k, -⟩ := hF_
     replace q1j : Ep28 190 = .slice (adOf (Ep7 46)) q5.length (capOf (Ep7 46)) := emk q1j
     replace q1k : Ep28 191 = .int .i64 (x52.length : Int) := emk q1k
     replace hS : St w0 w (ro q0c :: l') := emk hS
     have q_ := RdS.sub q33 q3i hx192; obtain ⟨A192, n192, c192, hd192, f192⟩ := q_
     refine p (ysub_h sl_39 q1j q1k q3i hd192) <| ?_
     have e_ := f192.n; subst e_
     refine x_done <| ?_
     refine x_fin ⟨⟨_, rfl⟩, ⟨rfl, f192⟩, ?_⟩
     exact emk hS
    ·intro Ep28 w l' hE28 hO28 hF_ hS
     obtain ⟨q1l, -⟩ := hF_
     replace q1l : Ep28 189 = .slice A59 q3.length q3.length := emk q1l
     refine p (yl_assign q1l) <| x_done <| ?_
     refine x_fin ⟨⟨_, rfl⟩, rfl, ?_⟩
     exact emk hS
    ·intro Ep28 w l' hE28 hO28 hF_ hS
     obtain ⟨q0x, -⟩ := hF_
     replace q0x : Ep28 192 = .slice (adOf (Ep28 192)) x192.length (capOf (Ep28 192)) ∧ RdS (RpI .u32) q0c (adOf (Ep28 192)) x192.length (capOf (Ep28 192)) x192 := emk q0x
     have q_ := id q0x; obtain ⟨-, q3j⟩ := q_
     refine p (yl_assign q0x.1) <| x_done <| ?_
     refine x_fin ⟨⟨_, rfl⟩, rfl, ?_⟩
     exact emk hS
   intro Ep28 w' hE28 hF_ hS
   obtain ⟨q1l, q1j, q1k, q0x, q34, q35, -⟩ := hF_
   replace q1l : Ep28 189 = .slice A59 q3.length q3.length := emk q1l
   replace q1j : Ep28 190 = .slice (adOf (Ep7 46)) q5.length (capOf (Ep7 46)) := emk q1j
   replace q1k : Ep28 191 = .int .i64 (x52.length : Int) := emk q1k
   replace q0x : Ep28 192 = .slice (adOf (Ep28 192)) x192.length (capOf (Ep28 192)) ∧ RdS (RpI .u32) q0c (adOf (Ep28 192)) x192.length (capOf (Ep28 192)) x192 := emk q0x
   have q_ := id q0x; obtain ⟨-, q3j⟩ := q_
   replace q34 : Ep28 4 = .slice A59 q3.length q3.length := emk q34
   replace q35 : Ep28 5 = .slice (adOf (Ep28 192)) x192.length (capOf (Ep28 192)) := emk q35
   replace hS : St w0 w' (ro q0c :: (vec 77 (RpI .u32).sz (.slice A59 q3.length q3.length) q3.length q0b :: l)) := emk hS
   have e_ := sinj hF; subst e_
   exact x_return ⟨_, ⟨_, _, rfl, q34, _, _, rfl, q35, rfl⟩, q0c, A59, q3.length, q3.length, q0b, (adOf (Ep28 192)), x192.length, (capOf (Ep28 192)), rfl, (q2s.trans q1c), (q3g.le q1c), q3j, (hS.pull 1)⟩
attribute [irreducible] P_exact_divMag

def P_exact_Abs (a0 : T_exact_Int) : Option T_exact_Int :=
 bd (P_exact_made false a0.fmag) fun q2 =>
 some q2
theorem c_exact_Abs {w0 w : World} {l : List Assn} {ρ : Heap} {q6 : Option Addr} {q7 : Nat} {c_a0_1 : Nat} {a0 : T_exact_Int} {r : T_exact_Int} (hF : P_exact_Abs a0 = some r) (q8 : RdS (RpI .u32) ρ q6 q7 c_a0_1 a0.fmag) (hS : St w0 w (ro ρ :: l)) :
  Calls Try.prog 57 #[.agg #[.bool a0.fneg, .slice q6 q7 c_a0_1]] w fun e w' => ∃ (q4 : Option Addr) (q5 : Nat) (c_y0_ret_1 : Nat), e = .returned (.agg #[.bool r.fneg, .slice q4 q5 c_y0_ret_1]) ∧ RdS (RpI .u32) ρ q4 q5 c_y0_ret_1 r.fmag ∧ St w0 w' (ro ρ :: l) := by
 have e_ := q8.n; subst e_
 refine enterC Try.func57 rfl 6 rfl (by simp) ?_
 refine x_seq <| x_region <| ?_
 refine o_box (cs := [.bool a0.fneg, .slice q6 a0.fmag.length c_a0_1]) rfl rfl hS (fun b1 w' hS => ?_)
 refine o_alloc zero_41 hS (fun b2 w' hS => ?_)
 replace hF := bd_s hF; obtain ⟨q9, q0b, hF⟩ := hF
 refine x_done <| x_seq <| x_region <| p (yl_field0 fld_41_1 rfl) <|
  pa (at_load one_39 rfl ((hS.pull 1).cell rfl)) <| ?_
 have hcall := c_exact_made q0b q8 (hS.pull 2)
 refine o_cc call_35 (args2 rfl rfl) hcall ?_
 rintro e w' ⟨q2, q0a, c_y0_ret_1_1_2, rfl, q3, hS⟩
 refine ⟨_, rfl, ?_⟩
 have e_ := q3.n; subst e_
 refine o_storeAgg (news := [.bool q9.fneg, .slice q2 q9.fmag.length c_y0_ret_1_1_2]) agg_41 rfl rfl rfl (by simp [over_length]) (hS.pull 1) (fun w' hS => ?_)
 refine x_done <| ?_
 have e_ := sinj hF; subst e_
 exact x_return ⟨_, ⟨_, _, _, rfl, rfl, ldvA agg_41 rfl (fun j v hj => by rw [add0]; exact St.cell hS hj), rfl⟩, q2, q9.fmag.length, c_y0_ret_1_1_2, rfl, q3, ((hS.drop.pull 1).drop)⟩
attribute [irreducible] P_exact_Abs

def P_exact_split (a0 : T_exact_Int) (b1 : T_exact_Int) : Option (T_exact_Int × T_exact_Int) :=
 bd (P_exact_divMag a0.fmag b1.fmag) fun q4 =>
 bd (P_exact_made (!(a0.fneg == b1.fneg)) q4.1) fun q3 =>
 bd (P_exact_made a0.fneg q4.2) fun q2 =>
 if q2.fneg = true then
  bd (P_exact_Abs b1) fun q6 =>
  bd (P_exact_plus q2 q6) fun q5 =>
  if b1.fneg = true then
   bd (P_exact_Of 1) fun q7 =>
   bd (P_exact_plus q3 q7) fun q8 =>
   some (q8, q5)
  else
   bd (P_exact_Of (-1)) fun q9 =>
   bd (P_exact_plus q3 q9) fun q0a =>
   some (q0a, q5)
 else
  some (q3, q2)
theorem c_exact_split {w0 w : World} {l : List Assn} {ρ : Heap} {q0p : Option Addr} {q2m : Nat} {c_a0_1 : Nat} {q0d : Option Addr} {q2n : Nat} {c_b1_1 : Nat} {a0 : T_exact_Int} {b1 : T_exact_Int} {r : (T_exact_Int × T_exact_Int)} (hF : P_exact_split a0 b1 = some r) (q2o : RdS (RpI .u32) ρ q0p q2m c_a0_1 a0.fmag) (q27 : RdS (RpI .u32) ρ q0d q2n c_b1_1 b1.fmag) (hS : St w0 w (ro ρ :: l)) :
  Calls Try.prog 51 #[.agg #[.bool a0.fneg, .slice q0p q2m c_a0_1], .agg #[.bool b1.fneg, .slice q0d q2n c_b1_1]] w fun e w' => ∃ (ρ' : Heap) (q17 : Option Addr) (q18 : Nat) (c_y0_ret_1 : Nat) (q19 : Option Addr) (q1a : Nat) (c_y1_ret_1 : Nat), e = .returned (.tuple #[.agg #[.bool r.1.fneg, .slice q17 q18 c_y0_ret_1], .agg #[.bool r.2.fneg, .slice q19 q1a c_y1_ret_1]]) ∧ Le ρ ρ' ∧ RdS (RpI .u32) ρ' q17 q18 c_y0_ret_1 r.1.fmag ∧ RdS (RpI .u32) ρ' q19 q1a c_y1_ret_1 r.2.fmag ∧ St w0 w' (ro ρ' :: l) := by
 have e_ := q2o.n; subst e_
 have e_ := q27.n; subst e_
 refine enterC Try.func51 rfl 47 rfl (by simp) ?_
 refine x_seq <| x_region <| ?_
 refine o_box (cs := [.bool a0.fneg, .slice q0p a0.fmag.length c_a0_1]) rfl rfl hS (fun b2 w' hS => ?_)
 refine o_box (cs := [.bool b1.fneg, .slice q0d b1.fmag.length c_b1_1]) rfl rfl hS (fun b3 w' hS => ?_)
 refine o_alloc zero_41 hS (fun b4 w' hS => ?_)
 refine o_alloc zero_41 hS (fun b5 w' hS => ?_)
 replace hF := bd_s hF; obtain ⟨q0s, q3a, hF⟩ := hF
 refine x_done <| x_seq <| x_region <| p (yl_field0 fld_41_1 rfl) <|
  pa (at_load one_39 rfl ((hS.pull 3).cell rfl)) <| p (yl_field0 fld_41_1 rfl) <| pa (at_load one_39 rfl ((hS.pull 2).cell rfl)) <| ?_
 have hcall := c_exact_divMag q3a q2o q27 (hS.pull 4)
 refine o_cc call_58 (args2 rfl rfl) hcall ?_
 rintro e w' ⟨q0j, q8, q35, c_y0_ret_1_4, q0z, q0x, q36, c_y1_ret_1_4, rfl, q1b, q10, q11, hS⟩
 refine ⟨_, rfl, ?_⟩
 have e_ := St.vec_n hS q10; subst e_
 have e_ := q11.n; subst e_
 refine p (yl_move rfl) <| p (yl_extract rfl rfl) <| p (yl_extract rfl rfl) <| p (yl_assign rfl) <|
  p (yl_assign rfl) <| x_done <| x_seq <| ?_
 replace hF := bd_s hF; obtain ⟨q2, q3b, hF⟩ := hF
 replace hF := bd_s hF; obtain ⟨q3, q37, hF⟩ := hF
 refine x_par (w0 := w0) [⟨[], [], [18], [], [], []⟩, ⟨[0], [0], [19], [0], [], []⟩, ⟨[], [], [20], [], [], []⟩, ⟨[2], [2], [21], [1], [], []⟩, ⟨[0, 1, 2, 3], [1, 3], [22], [], [], []⟩, ⟨[], [], [23], [], [], []⟩, ⟨[0, 1, 2, 3, 4, 5], [4, 5], [24], [3], [2], [4]⟩, ⟨[], [], [25], [], [], []⟩, ⟨[7], [7], [26], [0], [], []⟩, ⟨[], [], [27], [], [], []⟩, ⟨[0, 1, 2, 3, 4, 5, 6, 7, 8, 9], [8, 9], [28], [3], [], [5]⟩, ⟨[], [], [8], [], [], [6]⟩, ⟨[], [], [9], [], [], [7]⟩, ⟨[0, 1, 2, 3, 4, 5, 6, 7, 8, 9, 10, 11, 12], [6, 11], [], [], [6], [8]⟩, ⟨[0, 1, 2, 3, 4, 5, 6, 7, 8, 9, 10, 11, 12, 13], [10, 12], [], [], [7], [9]⟩] [⟨none, none, []⟩, ⟨none, none, []⟩, ⟨none, (some 6), []⟩, ⟨none, none, []⟩, ⟨(some 6), none, [24]⟩, ⟨(some 10), none, [28]⟩, ⟨(some 11), (some 13), [8]⟩, ⟨(some 12), (some 14), [9]⟩, ⟨(some 13), none, [8, 24]⟩, ⟨(some 14), none, [9, 28]⟩] [8, 9, 18, 19, 20, 21, 22, 23, 24, 25, 26, 27, 28] [0, 1, 2, 3] [0, 1, 3, 4, 5, 8, 9] [0, 1, 2, 3, 4, 5, 6, 7, 8, 9, 10, 11, 12] [fun Ep2 => Ep2 18 = .pointer (some ⟨b2, 0, none⟩), fun Ep2 => Ep2 19 = .bool a0.fneg, fun Ep2 => Ep2 20 = .pointer (some ⟨b3, 0, none⟩), fun Ep2 => Ep2 21 = .bool b1.fneg, fun Ep2 => Ep2 22 = .bool (!(a0.fneg == b1.fneg)), fun Ep2 => Ep2 23 = .slice q8 q0s.1.length c_y0_ret_1_4, fun Ep2 => Ep2 24 = .agg #[.bool q2.fneg, .slice (adOf (partOf 1 (Ep2 24))) q2.fmag.length (capOf (partOf 1 (Ep2 24)))], fun Ep2 => Ep2 25 = .pointer (some ⟨b2, 0, none⟩), fun Ep2 => Ep2 26 = .bool a0.fneg, fun Ep2 => Ep2 27 = .slice q0x q0s.2.length c_y1_ret_1_4, fun Ep2 => Ep2 28 = .agg #[.bool q3.fneg, .slice (adOf (partOf 1 (Ep2 28))) q3.fmag.length (capOf (partOf 1 (Ep2 28)))], fun Ep2 => Ep2 8 = .pointer (some ⟨(blkOf (Ep2 8)), 0, none⟩), fun Ep2 => Ep2 9 = .pointer (some ⟨(blkOf (Ep2 9)), 0, none⟩), fun Ep2 => True, fun Ep2 => True] [fun Ep2 => cells b2 41 [.bool a0.fneg, .slice q0p a0.fmag.length c_a0_1], fun Ep2 => cells b3 41 [.bool b1.fneg, .slice q0d b1.fmag.length c_b1_1], fun Ep2 => vec 77 (RpI .u32).sz (.slice q8 q0s.1.length c_y0_ret_1_4) q0s.1.length q0z, fun Ep2 => ro q0j, fun Ep2 => bunA (fun (q0c : Heap) => Le q0j q0c ∧ RdS (RpI .u32) q0c q8 q0s.1.length c_y0_ret_1_4 q0s.1 ∧ RdS (RpI .u32) q0c (adOf (partOf 1 (Ep2 24))) q2.fmag.length (capOf (partOf 1 (Ep2 24))) q2.fmag) (fun (q0c : Heap) => [roD q0j q0c]), fun Ep2 => bunA (fun (x : Unit) => RdS (RpI .u32) q0j (adOf (partOf 1 (Ep2 28))) q3.fmag.length (capOf (partOf 1 (Ep2 28))) q3.fmag) (fun (x : Unit) => []), fun Ep2 => cells (blkOf (Ep2 8)) 41 [.bool false, .slice none 0 0], fun Ep2 => cells (blkOf (Ep2 9)) 41 [.bool false, .slice none 0 0], fun Ep2 => cells (blkOf (Ep2 8)) 41 [.bool q2.fneg, .slice (adOf (partOf 1 (Ep2 24))) q2.fmag.length (capOf (partOf 1 (Ep2 24)))], fun Ep2 => cells (blkOf (Ep2 9)) 41 [.bool q3.fneg, .slice (adOf (partOf 1 (Ep2 28))) q3.fmag.length (capOf (partOf 1 (Ep2 28)))]] mixed (by kernel_rfl) ((((hS.pull 1).pull 1).pull 4).pull 5) ?_ ?_
 ·refine ⟨?_, ?_, ?_, ?_, ?_, ?_, ?_, ?_, ?_, ?_, ?_, ?_, ?_, ?_, ?_, trivial⟩
  ·intro Ep2 w l' hE2 hO2 hF_ hS
   refine p (yl_field0 fld_41_0 (hE2 2 rfl)) <| x_done <| ?_
   refine x_fin ⟨⟨_, rfl⟩, rfl, ?_⟩
   exact emk hS
  ·intro Ep2 w l' hE2 hO2 hF_ hS
   obtain ⟨q1d, -⟩ := hF_
   replace q1d : Ep2 18 = .pointer (some ⟨b2, 0, none⟩) := emk q1d
   replace hS : St w0 w (cells b2 41 [.bool a0.fneg, .slice q0p a0.fmag.length c_a0_1] :: l') := emk hS
   refine pa (at_load one_4 q1d (hS.cell rfl)) <| x_done <| ?_
   refine x_fin ⟨⟨_, rfl⟩, rfl, ?_⟩
   exact emk hS
  ·intro Ep2 w l' hE2 hO2 hF_ hS
   refine p (yl_field0 fld_41_0 (hE2 3 rfl)) <| x_done <| ?_
   refine x_fin ⟨⟨_, rfl⟩, rfl, ?_⟩
   exact emk hS
  ·intro Ep2 w l' hE2 hO2 hF_ hS
   obtain ⟨q1e, -⟩ := hF_
   replace q1e : Ep2 20 = .pointer (some ⟨b3, 0, none⟩) := emk q1e
   replace hS : St w0 w (cells b3 41 [.bool b1.fneg, .slice q0d b1.fmag.length c_b1_1] :: l') := emk hS
   refine pa (at_load one_4 q1e (hS.cell rfl)) <| x_done <| ?_
   refine x_fin ⟨⟨_, rfl⟩, rfl, ?_⟩
   exact emk hS
  ·intro Ep2 w l' hE2 hO2 hF_ hS
   obtain ⟨q1f, q1g, -⟩ := hF_
   replace q1f : Ep2 19 = .bool a0.fneg := emk q1f
   replace q1g : Ep2 21 = .bool b1.fneg := emk q1g
   refine p (yneb ub_4 q1f q1g) <| x_done <| ?_
   refine x_fin ⟨⟨_, rfl⟩, rfl, ?_⟩
   exact emk hS
  ·intro Ep2 w l' hE2 hO2 hF_ hS
   refine p (yl_move (hE2 6 rfl)) <| x_done <| ?_
   refine x_fin ⟨⟨_, rfl⟩, rfl, ?_⟩
   exact emk hS
  ·intro Ep2 w l' hE2 hO2 hF_ hS
   obtain ⟨q1h, q1i, -⟩ := hF_
   replace q1h : Ep2 22 = .bool (!(a0.fneg == b1.fneg)) := emk q1h
   replace q1i : Ep2 23 = .slice q8 q0s.1.length c_y0_ret_1_4 := emk q1i
   replace hS : St w0 w (ro q0j :: vec 77 (RpI .u32).sz (.slice q8 q0s.1.length c_y0_ret_1_4) q0s.1.length q0z :: l') := emk hS
   have q_ := St.vec_fz (hS.pull 1) q10; obtain ⟨q0c, q2c, q2g, hS⟩ := q_
   have hcall := c_exact_made q3b q2g hS
   refine o_cc call_35 (args2 q1h q1i) hcall ?_
   rintro e w' ⟨q1j, q2v, c_y0_ret_1_2_6, rfl, q0e, hS⟩
   refine ⟨_, rfl, ?_⟩
   have e_ := q0e.n; subst e_
   refine x_done <| ?_
   refine x_fin ⟨⟨_, rfl⟩, rfl, ?_⟩
   replace hS := St.ro_split q2c hS
   replace hS := St.bun (Φ := (fun (q0c : Heap) => Le q0j q0c ∧ RdS (RpI .u32) q0c q8 q0s.1.length c_y0_ret_1_4 q0s.1 ∧ RdS (RpI .u32) q0c q1j q2.fmag.length c_y0_ret_1_2_6 q2.fmag)) (L := (fun (q0c : Heap) => [roD q0j q0c])) q0c ⟨q2c, q2g, q0e⟩ (hS.pull 1)
   exact emk (hS.pull 1)
  ·intro Ep2 w l' hE2 hO2 hF_ hS
   refine p (yl_field0 fld_41_0 (hE2 2 rfl)) <| x_done <| ?_
   refine x_fin ⟨⟨_, rfl⟩, rfl, ?_⟩
   exact emk hS
  ·intro Ep2 w l' hE2 hO2 hF_ hS
   obtain ⟨q1k, -⟩ := hF_
   replace q1k : Ep2 25 = .pointer (some ⟨b2, 0, none⟩) := emk q1k
   replace hS : St w0 w (cells b2 41 [.bool a0.fneg, .slice q0p a0.fmag.length c_a0_1] :: l') := emk hS
   refine pa (at_load one_4 q1k (hS.cell rfl)) <| x_done <| ?_
   refine x_fin ⟨⟨_, rfl⟩, rfl, ?_⟩
   exact emk hS
  ·intro Ep2 w l' hE2 hO2 hF_ hS
   refine p (yl_move (hE2 7 rfl)) <| x_done <| ?_
   refine x_fin ⟨⟨_, rfl⟩, rfl, ?_⟩
   exact emk hS
  ·intro Ep2 w l' hE2 hO2 hF_ hS
   obtain ⟨q1l, q1m, -⟩ := hF_
   replace q1l : Ep2 26 = .bool a0.fneg := emk q1l
   replace q1m : Ep2 27 = .slice q0x q0s.2.length c_y1_ret_1_4 := emk q1m
   replace hS : St w0 w (ro q0j :: l') := emk hS
   have hcall := c_exact_made q37 q11 hS
   refine o_cc call_35 (args2 q1l q1m) hcall ?_
   rintro e w' ⟨q1c, q2t, c_y0_ret_1_2_10, rfl, q0i, hS⟩
   refine ⟨_, rfl, ?_⟩
   have e_ := q0i.n; subst e_
   refine x_done <| ?_
   refine x_fin ⟨⟨_, rfl⟩, rfl, ?_⟩
   replace hS := St.bun (Φ := (fun (x : Unit) => RdS (RpI .u32) q0j q1c q3.fmag.length c_y0_ret_1_2_10 q3.fmag)) (L := (fun (x : Unit) => [])) () q0i hS
   exact emk (hS.pull 1)
  ·intro Ep2 w l' hE2 hO2 hF_ hS
   refine o_alloc zero_41 hS (fun b8 w' hS => ?_)
   refine x_done <| ?_
   refine x_fin ⟨⟨_, rfl⟩, rfl, ?_⟩
   exact emk hS
  ·intro Ep2 w l' hE2 hO2 hF_ hS
   refine o_alloc zero_41 hS (fun b9 w' hS => ?_)
   refine x_done <| ?_
   refine x_fin ⟨⟨_, rfl⟩, rfl, ?_⟩
   exact emk hS
  ·intro Ep2 w l' hE2 hO2 hF_ hS
   obtain ⟨q1n, q0v, -⟩ := hF_
   replace q1n : Ep2 24 = .agg #[.bool q2.fneg, .slice (adOf (partOf 1 (Ep2 24))) q2.fmag.length (capOf (partOf 1 (Ep2 24)))] := emk q1n
   replace q0v : Ep2 8 = .pointer (some ⟨(blkOf (Ep2 8)), 0, none⟩) := emk q0v
   replace hS : St w0 w (cells (blkOf (Ep2 8)) 41 [.bool false, .slice none 0 0] :: l') := emk hS
   refine o_storeAgg (news := [.bool q2.fneg, .slice (adOf (partOf 1 (Ep2 24))) q2.fmag.length (capOf (partOf 1 (Ep2 24)))]) agg_41 q0v q1n rfl (by simp [over_length]) hS (fun w' hS => ?_)
   refine x_done <| ?_
   refine x_fin ⟨⟨undef, rfl⟩, trivial, ?_⟩
   exact emk hS
  ·intro Ep2 w l' hE2 hO2 hF_ hS
   obtain ⟨q13, q0t, -⟩ := hF_
   replace q13 : Ep2 28 = .agg #[.bool q3.fneg, .slice (adOf (partOf 1 (Ep2 28))) q3.fmag.length (capOf (partOf 1 (Ep2 28)))] := emk q13
   replace q0t : Ep2 9 = .pointer (some ⟨(blkOf (Ep2 9)), 0, none⟩) := emk q0t
   replace hS : St w0 w (cells (blkOf (Ep2 9)) 41 [.bool false, .slice none 0 0] :: l') := emk hS
   refine o_storeAgg (news := [.bool q3.fneg, .slice (adOf (partOf 1 (Ep2 28))) q3.fmag.length (capOf (partOf 1 (Ep2 28)))]) agg_41 q0t q13 rfl (by simp [over_length]) hS (fun w' hS => ?_)
   refine x_done <| ?_
   refine x_fin ⟨⟨undef, rfl⟩, trivial, ?_⟩
   exact emk hS
 intro Ep2 w' hE2 hF_ hS
 obtain ⟨q1d, q1f, q1e, q1g, q1h, q1i, q1n, q1k, q1l, q1m, q13, q0v, q0t, -⟩ := hF_
 replace q1d : Ep2 18 = .pointer (some ⟨b2, 0, none⟩) := emk q1d
 replace q1f : Ep2 19 = .bool a0.fneg := emk q1f
 replace q1e : Ep2 20 = .pointer (some ⟨b3, 0, none⟩) := emk q1e
 replace q1g : Ep2 21 = .bool b1.fneg := emk q1g
 replace q1h : Ep2 22 = .bool (!(a0.fneg == b1.fneg)) := emk q1h
 replace q1i : Ep2 23 = .slice q8 q0s.1.length c_y0_ret_1_4 := emk q1i
 replace q1n : Ep2 24 = .agg #[.bool q2.fneg, .slice (adOf (partOf 1 (Ep2 24))) q2.fmag.length (capOf (partOf 1 (Ep2 24)))] := emk q1n
 replace q1k : Ep2 25 = .pointer (some ⟨b2, 0, none⟩) := emk q1k
 replace q1l : Ep2 26 = .bool a0.fneg := emk q1l
 replace q1m : Ep2 27 = .slice q0x q0s.2.length c_y1_ret_1_4 := emk q1m
 replace q13 : Ep2 28 = .agg #[.bool q3.fneg, .slice (adOf (partOf 1 (Ep2 28))) q3.fmag.length (capOf (partOf 1 (Ep2 28)))] := emk q13
 replace q0v : Ep2 8 = .pointer (some ⟨(blkOf (Ep2 8)), 0, none⟩) := emk q0v
 replace q0t : Ep2 9 = .pointer (some ⟨(blkOf (Ep2 9)), 0, none⟩) := emk q0t
 replace hS : St w0 w' (cells b2 41 [.bool a0.fneg, .slice q0p a0.fmag.length c_a0_1] :: cells b3 41 [.bool b1.fneg, .slice q0d b1.fmag.length c_b1_1] :: ro q0j :: bunA (fun (q0c : Heap) => Le q0j q0c ∧ RdS (RpI .u32) q0c q8 q0s.1.length c_y0_ret_1_4 q0s.1 ∧ RdS (RpI .u32) q0c (adOf (partOf 1 (Ep2 24))) q2.fmag.length (capOf (partOf 1 (Ep2 24))) q2.fmag) (fun (q0c : Heap) => [roD q0j q0c]) :: bunA (fun (x : Unit) => RdS (RpI .u32) q0j (adOf (partOf 1 (Ep2 28))) q3.fmag.length (capOf (partOf 1 (Ep2 28))) q3.fmag) (fun (x : Unit) => []) :: cells (blkOf (Ep2 8)) 41 [.bool q2.fneg, .slice (adOf (partOf 1 (Ep2 24))) q2.fmag.length (capOf (partOf 1 (Ep2 24)))] :: cells (blkOf (Ep2 9)) 41 [.bool q3.fneg, .slice (adOf (partOf 1 (Ep2 28))) q3.fmag.length (capOf (partOf 1 (Ep2 28)))] :: (cells b5 41 [.bool false, .slice none 0 0] :: cells b4 41 [.bool false, .slice none 0 0] :: l)) := emk hS
 have q_ := St.unbun (hS.pull 3); obtain ⟨q0c, ⟨q2p, q2g, q0e⟩, hS⟩ := q_
 have q_ := St.ro_join (hS.pull 3) (Le.refl _) q2p; obtain ⟨q0h, q0w, q1o, hS, q3k⟩ := q_
 have q_ := St.unbun (hS.pull 3); obtain ⟨⟨⟩, q0i, hS⟩ := q_
 refine x_seq <| x_seq <| x_region <| p (yl_field0 fld_41_0 q0t) <|
  pa (at_load one_4 rfl ((hS.pull 4).cell rfl)) <| x_done <|
  x_cond (t := q3.fneg) rfl (fun hc30 => ?_) (fun hc30 => ?_)
 ·replace hF := it_t hc30 hF
  refine x_seq <| ?_
  replace hF := bd_s hF; obtain ⟨q0u, q3c, hF⟩ := hF
  replace hF := bd_s hF; obtain ⟨q4, q3d, hF⟩ := hF
  refine x_par (w0 := w0) [⟨[], [], [31], [0], [], []⟩, ⟨[], [], [32], [1], [], []⟩, ⟨[1], [1], [33], [2], [], []⟩, ⟨[0, 1, 2], [0, 2], [34], [2], [], [3]⟩, ⟨[0, 1, 2, 3], [3], [], [], [0], [4]⟩] [⟨none, (some 4), []⟩, ⟨none, none, []⟩, ⟨none, none, []⟩, ⟨(some 3), none, [34]⟩, ⟨(some 4), none, [34]⟩] [31, 32, 33, 34] [0, 1, 2] [1, 2, 3, 4] [0, 1, 2, 3] [fun Ep4 => Ep4 31 = .agg #[.bool q3.fneg, .slice (adOf (partOf 1 (Ep2 28))) q3.fmag.length (capOf (partOf 1 (Ep2 28)))], fun Ep4 => Ep4 32 = .agg #[.bool b1.fneg, .slice q0d b1.fmag.length c_b1_1], fun Ep4 => Ep4 33 = .agg #[.bool q0u.fneg, .slice (adOf (partOf 1 (Ep4 33))) q0u.fmag.length (capOf (partOf 1 (Ep4 33)))] ∧ RdS (RpI .u32) q0h (adOf (partOf 1 (Ep4 33))) q0u.fmag.length (capOf (partOf 1 (Ep4 33))) q0u.fmag, fun Ep4 => Ep4 34 = .agg #[.bool q4.fneg, .slice (adOf (partOf 1 (Ep4 34))) q4.fmag.length (capOf (partOf 1 (Ep4 34)))], fun Ep4 => True] [fun Ep4 => cells (blkOf (Ep2 9)) 41 [.bool q3.fneg, .slice (adOf (partOf 1 (Ep2 28))) q3.fmag.length (capOf (partOf 1 (Ep2 28)))], fun Ep4 => cells b3 41 [.bool b1.fneg, .slice q0d b1.fmag.length c_b1_1], fun Ep4 => ro q0h, fun Ep4 => bunA (fun (q9 : Heap) => Le q0h q9 ∧ RdS (RpI .u32) q9 (adOf (partOf 1 (Ep4 34))) q4.fmag.length (capOf (partOf 1 (Ep4 34))) q4.fmag) (fun (q9 : Heap) => [roD q0h q9]), fun Ep4 => cells (blkOf (Ep2 9)) 41 [.bool q4.fneg, .slice (adOf (partOf 1 (Ep4 34))) q4.fmag.length (capOf (partOf 1 (Ep4 34)))]] mixed (by kernel_rfl) ((hS.pull 2).pull 4) ?_ ?_
  ·refine ⟨?_, ?_, ?_, ?_, ?_, trivial⟩
   ·intro Ep4 w l' hE4 hO4 hF_ hS
    replace hS : St w0 w (cells (blkOf (Ep2 9)) 41 [.bool q3.fneg, .slice (adOf (partOf 1 (Ep2 28))) q3.fmag.length (capOf (partOf 1 (Ep2 28)))] :: l') := emk hS
    refine pa (v := .agg #[.bool q3.fneg, .slice (adOf (partOf 1 (Ep2 28))) q3.fmag.length (capOf (partOf 1 (Ep2 28)))]) (ld_sub agg_41 ((hE4 9 rfl).trans q0t) rfl rfl hS) <| x_done <| ?_
    refine x_fin ⟨⟨_, rfl⟩, rfl, ?_⟩
    exact emk hS
   ·intro Ep4 w l' hE4 hO4 hF_ hS
    replace hS : St w0 w (cells b3 41 [.bool b1.fneg, .slice q0d b1.fmag.length c_b1_1] :: l') := emk hS
    refine pa (v := .agg #[.bool b1.fneg, .slice q0d b1.fmag.length c_b1_1]) (ld_sub agg_41 ((hE4 3 rfl).trans (hE2 3 rfl)) rfl rfl hS) <| x_done <| ?_
    refine x_fin ⟨⟨_, rfl⟩, rfl, ?_⟩
    exact emk hS
   ·intro Ep4 w l' hE4 hO4 hF_ hS
    obtain ⟨q1p, -⟩ := hF_
    replace q1p : Ep4 32 = .agg #[.bool b1.fneg, .slice q0d b1.fmag.length c_b1_1] := emk q1p
    replace hS : St w0 w (ro q0h :: l') := emk hS
    have hcall := c_exact_Abs q3c (q27.le (q1b.trans q0w)) hS
    refine o_cc call_57 (args1 q1p) hcall ?_
    rintro e w' ⟨q2w, q2x, c_y0_ret_1_4_2, rfl, q0y, hS⟩
    refine ⟨_, rfl, ?_⟩
    have e_ := q0y.n; subst e_
    refine x_done <| ?_
    refine x_fin ⟨⟨_, rfl⟩, ⟨rfl, q0y⟩, ?_⟩
    exact emk hS
   ·intro Ep4 w l' hE4 hO4 hF_ hS
    obtain ⟨q1q, q12, -⟩ := hF_
    replace q1q : Ep4 31 = .agg #[.bool q3.fneg, .slice (adOf (partOf 1 (Ep2 28))) q3.fmag.length (capOf (partOf 1 (Ep2 28)))] := emk q1q
    replace q12 : Ep4 33 = .agg #[.bool q0u.fneg, .slice (adOf (partOf 1 (Ep4 33))) q0u.fmag.length (capOf (partOf 1 (Ep4 33)))] ∧ RdS (RpI .u32) q0h (adOf (partOf 1 (Ep4 33))) q0u.fmag.length (capOf (partOf 1 (Ep4 33))) q0u.fmag := emk q12
    have q_ := id q12; obtain ⟨-, q2u⟩ := q_
    replace hS : St w0 w (ro q0h :: l') := emk hS
    have hcall := c_exact_plus q3d (q0i.le q0w) q2u hS
    refine o_cc call_36 (args2 q1q q12.1) hcall ?_
    rintro e w' ⟨q9, q1r, q2y, c_y0_ret_1_4_3, rfl, q2q, q0k, hS⟩
    refine ⟨_, rfl, ?_⟩
    have e_ := q0k.n; subst e_
    refine x_done <| ?_
    refine x_fin ⟨⟨_, rfl⟩, rfl, ?_⟩
    replace hS := St.ro_split q2q hS
    replace hS := St.bun (Φ := (fun (q9 : Heap) => Le q0h q9 ∧ RdS (RpI .u32) q9 q1r q4.fmag.length c_y0_ret_1_4_3 q4.fmag)) (L := (fun (q9 : Heap) => [roD q0h q9])) q9 ⟨q2q, q0k⟩ (hS.pull 1)
    exact emk (hS.pull 1)
   ·intro Ep4 w l' hE4 hO4 hF_ hS
    obtain ⟨q1s, -⟩ := hF_
    replace q1s : Ep4 34 = .agg #[.bool q4.fneg, .slice (adOf (partOf 1 (Ep4 34))) q4.fmag.length (capOf (partOf 1 (Ep4 34)))] := emk q1s
    replace hS : St w0 w (cells (blkOf (Ep2 9)) 41 [.bool q3.fneg, .slice (adOf (partOf 1 (Ep2 28))) q3.fmag.length (capOf (partOf 1 (Ep2 28)))] :: l') := emk hS
    refine o_storeAgg (news := [.bool q4.fneg, .slice (adOf (partOf 1 (Ep4 34))) q4.fmag.length (capOf (partOf 1 (Ep4 34)))]) agg_41 ((hE4 9 rfl).trans q0t) q1s rfl (by simp [over_length]) hS (fun w' hS => ?_)
    refine x_done <| ?_
    refine x_fin ⟨⟨undef, rfl⟩, trivial, ?_⟩
    exact emk hS
  intro Ep4 w' hE4 hF_ hS
  obtain ⟨q1q, q1p, q12, q1s, -⟩ := hF_
  replace q1q : Ep4 31 = .agg #[.bool q3.fneg, .slice (adOf (partOf 1 (Ep2 28))) q3.fmag.length (capOf (partOf 1 (Ep2 28)))] := emk q1q
  replace q1p : Ep4 32 = .agg #[.bool b1.fneg, .slice q0d b1.fmag.length c_b1_1] := emk q1p
  replace q12 : Ep4 33 = .agg #[.bool q0u.fneg, .slice (adOf (partOf 1 (Ep4 33))) q0u.fmag.length (capOf (partOf 1 (Ep4 33)))] ∧ RdS (RpI .u32) q0h (adOf (partOf 1 (Ep4 33))) q0u.fmag.length (capOf (partOf 1 (Ep4 33))) q0u.fmag := emk q12
  have q_ := id q12; obtain ⟨-, q2u⟩ := q_
  replace q1s : Ep4 34 = .agg #[.bool q4.fneg, .slice (adOf (partOf 1 (Ep4 34))) q4.fmag.length (capOf (partOf 1 (Ep4 34)))] := emk q1s
  replace hS : St w0 w' (cells b3 41 [.bool b1.fneg, .slice q0d b1.fmag.length c_b1_1] :: ro q0h :: bunA (fun (q9 : Heap) => Le q0h q9 ∧ RdS (RpI .u32) q9 (adOf (partOf 1 (Ep4 34))) q4.fmag.length (capOf (partOf 1 (Ep4 34))) q4.fmag) (fun (q9 : Heap) => [roD q0h q9]) :: cells (blkOf (Ep2 9)) 41 [.bool q4.fneg, .slice (adOf (partOf 1 (Ep4 34))) q4.fmag.length (capOf (partOf 1 (Ep4 34)))] :: (cells b2 41 [.bool a0.fneg, .slice q0p a0.fmag.length c_a0_1] :: cells (blkOf (Ep2 8)) 41 [.bool q2.fneg, .slice (adOf (partOf 1 (Ep2 24))) q2.fmag.length (capOf (partOf 1 (Ep2 24)))] :: cells b5 41 [.bool false, .slice none 0 0] :: cells b4 41 [.bool false, .slice none 0 0] :: l)) := emk hS
  have q_ := St.unbun (hS.pull 2); obtain ⟨q9, ⟨q2h, q0k⟩, hS⟩ := q_
  have q_ := St.ro_join (hS.pull 2) (Le.refl _) q2h; obtain ⟨q5, q14, q2d, hS, q3l⟩ := q_
  refine x_seq <| x_seq <| x_region <| p (yl_field0 fld_41_0 ((hE4 3 rfl).trans (hE2 3 rfl))) <|
   pa (at_load one_4 rfl ((hS.pull 1).cell rfl)) <| x_done <|
   x_cond (t := b1.fneg) rfl (fun hc36 => ?_) (fun hc36 => ?_)
  ·replace hF := it_t hc36 hF
   refine x_seq <| ?_
   replace hF := bd_s hF; obtain ⟨q0n, q3e, hF⟩ := hF
   replace hF := bd_s hF; obtain ⟨q0l, q3f, hF⟩ := hF
   refine x_par (w0 := w0) [⟨[], [], [37], [0], [], []⟩, ⟨[], [], [38], [1], [], [2]⟩, ⟨[0, 1], [0, 1], [39], [1], [2], [3]⟩, ⟨[], [], [40], [4], [], []⟩, ⟨[0, 1, 2], [2], [], [], [5], [6]⟩, ⟨[0, 1, 2, 3, 4], [3], [], [], [7], [8]⟩] [⟨none, none, []⟩, ⟨none, none, []⟩, ⟨(some 1), (some 2), [38]⟩, ⟨(some 2), none, [38, 39]⟩, ⟨none, none, []⟩, ⟨none, (some 4), []⟩, ⟨(some 4), none, [39]⟩, ⟨none, (some 5), []⟩, ⟨(some 5), none, []⟩] [37, 38, 39, 40] [0, 1, 4, 5, 7] [0, 1, 3, 4, 6, 8] [0, 1, 2, 3] [fun Ep6 => Ep6 37 = .agg #[.bool q2.fneg, .slice (adOf (partOf 1 (Ep2 24))) q2.fmag.length (capOf (partOf 1 (Ep2 24)))], fun Ep6 => Ep6 38 = .agg #[.bool q0n.fneg, .slice (adOf (partOf 1 (Ep6 38))) q0n.fmag.length (capOf (partOf 1 (Ep6 38)))], fun Ep6 => Ep6 39 = .agg #[.bool q0l.fneg, .slice (adOf (partOf 1 (Ep6 39))) q0l.fmag.length (capOf (partOf 1 (Ep6 39)))], fun Ep6 => Ep6 40 = .agg #[.bool q4.fneg, .slice (adOf (partOf 1 (Ep4 34))) q4.fmag.length (capOf (partOf 1 (Ep4 34)))], fun Ep6 => True, fun Ep6 => True] [fun Ep6 => cells (blkOf (Ep2 8)) 41 [.bool q2.fneg, .slice (adOf (partOf 1 (Ep2 24))) q2.fmag.length (capOf (partOf 1 (Ep2 24)))], fun Ep6 => ro q5, fun Ep6 => bunA (fun (q0a : Heap) => Le q5 q0a ∧ RdS (RpI .u32) q0a (adOf (partOf 1 (Ep6 38))) q0n.fmag.length (capOf (partOf 1 (Ep6 38))) q0n.fmag) (fun (q0a : Heap) => [roD q5 q0a]), fun Ep6 => bunA (fun (q6 : Heap) => Le q5 q6 ∧ RdS (RpI .u32) q6 (adOf (partOf 1 (Ep6 38))) q0n.fmag.length (capOf (partOf 1 (Ep6 38))) q0n.fmag ∧ RdS (RpI .u32) q6 (adOf (partOf 1 (Ep6 39))) q0l.fmag.length (capOf (partOf 1 (Ep6 39))) q0l.fmag) (fun (q6 : Heap) => [roD q5 q6]), fun Ep6 => cells (blkOf (Ep2 9)) 41 [.bool q4.fneg, .slice (adOf (partOf 1 (Ep4 34))) q4.fmag.length (capOf (partOf 1 (Ep4 34)))], fun Ep6 => cells b4 41 [.bool false, .slice none 0 0], fun Ep6 => cells b4 41 [.bool q0l.fneg, .slice (adOf (partOf 1 (Ep6 39))) q0l.fmag.length (capOf (partOf 1 (Ep6 39)))], fun Ep6 => cells b5 41 [.bool false, .slice none 0 0], fun Ep6 => cells b5 41 [.bool q4.fneg, .slice (adOf (partOf 1 (Ep4 34))) q4.fmag.length (capOf (partOf 1 (Ep4 34)))]] mixed (by kernel_rfl) (((((hS.pull 5).pull 6).pull 4).pull 3).pull 6) ?_ ?_
   ·refine ⟨?_, ?_, ?_, ?_, ?_, ?_, trivial⟩
    ·intro Ep6 w l' hE6 hO6 hF_ hS
     replace hS : St w0 w (cells (blkOf (Ep2 8)) 41 [.bool q2.fneg, .slice (adOf (partOf 1 (Ep2 24))) q2.fmag.length (capOf (partOf 1 (Ep2 24)))] :: l') := emk hS
     refine pa (v := .agg #[.bool q2.fneg, .slice (adOf (partOf 1 (Ep2 24))) q2.fmag.length (capOf (partOf 1 (Ep2 24)))]) (ld_sub agg_41 ((hE6 8 rfl).trans ((hE4 8 rfl).trans q0v)) rfl rfl hS) <| x_done <| ?_
     refine x_fin ⟨⟨_, rfl⟩, rfl, ?_⟩
     exact emk hS
    ·intro Ep6 w l' hE6 hO6 hF_ hS
     replace hS : St w0 w (ro q5 :: l') := emk hS
     have hcall := c_exact_Of q3e  hS
     refine o_cc call_17 (args1 rfl) hcall ?_
     rintro e w' ⟨q0a, q1t, q2z, c_y0_ret_1_6_1, rfl, q2r, q0f, hS⟩
     refine ⟨_, rfl, ?_⟩
     have e_ := q0f.n; subst e_
     refine x_done <| ?_
     refine x_fin ⟨⟨_, rfl⟩, rfl, ?_⟩
     replace hS := St.ro_split q2r hS
     replace hS := St.bun (Φ := (fun (q0a : Heap) => Le q5 q0a ∧ RdS (RpI .u32) q0a q1t q0n.fmag.length c_y0_ret_1_6_1 q0n.fmag)) (L := (fun (q0a : Heap) => [roD q5 q0a])) q0a ⟨q2r, q0f⟩ (hS.pull 1)
     exact emk (hS.pull 1)
    ·intro Ep6 w l' hE6 hO6 hF_ hS
     obtain ⟨q1u, q1v, -⟩ := hF_
     replace q1u : Ep6 37 = .agg #[.bool q2.fneg, .slice (adOf (partOf 1 (Ep2 24))) q2.fmag.length (capOf (partOf 1 (Ep2 24)))] := emk q1u
     replace q1v : Ep6 38 = .agg #[.bool q0n.fneg, .slice (adOf (partOf 1 (Ep6 38))) q0n.fmag.length (capOf (partOf 1 (Ep6 38)))] := emk q1v
     replace hS : St w0 w (ro q5 :: bunA (fun (q0a : Heap) => Le q5 q0a ∧ RdS (RpI .u32) q0a (adOf (partOf 1 (Ep6 38))) q0n.fmag.length (capOf (partOf 1 (Ep6 38))) q0n.fmag) (fun (q0a : Heap) => [roD q5 q0a]) :: l') := emk hS
     have q_ := St.unbun (hS.pull 1); obtain ⟨q0a, ⟨q2i, q0f⟩, hS⟩ := q_
     have q_ := St.ro_join (hS.pull 1) (Le.refl _) q2i; obtain ⟨q3o, q15, q28, hS, q3i⟩ := q_
     have hcall := c_exact_plus q3f (q0e.le ((q1o.trans q14).trans q15)) (q0f.le q28) hS
     refine o_cc call_36 (args2 q1u q1v) hcall ?_
     rintro e w' ⟨q6, q1w, q30, c_y0_ret_1_6_2, rfl, q29, q0q, hS⟩
     refine ⟨_, rfl, ?_⟩
     have e_ := q0q.n; subst e_
     refine x_done <| ?_
     refine x_fin ⟨⟨_, rfl⟩, rfl, ?_⟩
     replace hS := St.ro_split (q15.trans q29) hS
     replace hS := St.bun (Φ := (fun (q6 : Heap) => Le q5 q6 ∧ RdS (RpI .u32) q6 (adOf (partOf 1 (Ep6 38))) q0n.fmag.length (capOf (partOf 1 (Ep6 38))) q0n.fmag ∧ RdS (RpI .u32) q6 q1w q0l.fmag.length c_y0_ret_1_6_2 q0l.fmag)) (L := (fun (q6 : Heap) => [roD q5 q6])) q6 ⟨(q15.trans q29), (q0f.le (q28.trans q29)), q0q⟩ (hS.pull 1)
     exact emk (hS.pull 1)
    ·intro Ep6 w l' hE6 hO6 hF_ hS
     replace hS : St w0 w (cells (blkOf (Ep2 9)) 41 [.bool q4.fneg, .slice (adOf (partOf 1 (Ep4 34))) q4.fmag.length (capOf (partOf 1 (Ep4 34)))] :: l') := emk hS
     refine pa (v := .agg #[.bool q4.fneg, .slice (adOf (partOf 1 (Ep4 34))) q4.fmag.length (capOf (partOf 1 (Ep4 34)))]) (ld_sub agg_41 ((hE6 9 rfl).trans ((hE4 9 rfl).trans q0t)) rfl rfl hS) <| x_done <| ?_
     refine x_fin ⟨⟨_, rfl⟩, rfl, ?_⟩
     exact emk hS
    ·intro Ep6 w l' hE6 hO6 hF_ hS
     obtain ⟨q1x, -⟩ := hF_
     replace q1x : Ep6 39 = .agg #[.bool q0l.fneg, .slice (adOf (partOf 1 (Ep6 39))) q0l.fmag.length (capOf (partOf 1 (Ep6 39)))] := emk q1x
     replace hS : St w0 w (cells b4 41 [.bool false, .slice none 0 0] :: l') := emk hS
     refine o_storeAgg (news := [.bool q0l.fneg, .slice (adOf (partOf 1 (Ep6 39))) q0l.fmag.length (capOf (partOf 1 (Ep6 39)))]) agg_41 ((hE6 4 rfl).trans ((hE4 4 rfl).trans (hE2 4 rfl))) q1x rfl (by simp [over_length]) hS (fun w' hS => ?_)
     refine x_done <| ?_
     refine x_fin ⟨⟨undef, rfl⟩, trivial, ?_⟩
     exact emk hS
    ·intro Ep6 w l' hE6 hO6 hF_ hS
     obtain ⟨q1y, -⟩ := hF_
     replace q1y : Ep6 40 = .agg #[.bool q4.fneg, .slice (adOf (partOf 1 (Ep4 34))) q4.fmag.length (capOf (partOf 1 (Ep4 34)))] := emk q1y
     replace hS : St w0 w (cells b5 41 [.bool false, .slice none 0 0] :: l') := emk hS
     refine o_storeAgg (news := [.bool q4.fneg, .slice (adOf (partOf 1 (Ep4 34))) q4.fmag.length (capOf (partOf 1 (Ep4 34)))]) agg_41 ((hE6 5 rfl).trans ((hE4 5 rfl).trans (hE2 5 rfl))) q1y rfl (by simp [over_length]) hS (fun w' hS => ?_)
     refine x_done <| ?_
     refine x_fin ⟨⟨undef, rfl⟩, trivial, ?_⟩
     exact emk hS
   intro Ep6 w' hE6 hF_ hS
   obtain ⟨q1u, q1v, q1x, q1y, -⟩ := hF_
   replace q1u : Ep6 37 = .agg #[.bool q2.fneg, .slice (adOf (partOf 1 (Ep2 24))) q2.fmag.length (capOf (partOf 1 (Ep2 24)))] := emk q1u
   replace q1v : Ep6 38 = .agg #[.bool q0n.fneg, .slice (adOf (partOf 1 (Ep6 38))) q0n.fmag.length (capOf (partOf 1 (Ep6 38)))] := emk q1v
   replace q1x : Ep6 39 = .agg #[.bool q0l.fneg, .slice (adOf (partOf 1 (Ep6 39))) q0l.fmag.length (capOf (partOf 1 (Ep6 39)))] := emk q1x
   replace q1y : Ep6 40 = .agg #[.bool q4.fneg, .slice (adOf (partOf 1 (Ep4 34))) q4.fmag.length (capOf (partOf 1 (Ep4 34)))] := emk q1y
   replace hS : St w0 w' (cells (blkOf (Ep2 8)) 41 [.bool q2.fneg, .slice (adOf (partOf 1 (Ep2 24))) q2.fmag.length (capOf (partOf 1 (Ep2 24)))] :: ro q5 :: bunA (fun (q6 : Heap) => Le q5 q6 ∧ RdS (RpI .u32) q6 (adOf (partOf 1 (Ep6 38))) q0n.fmag.length (capOf (partOf 1 (Ep6 38))) q0n.fmag ∧ RdS (RpI .u32) q6 (adOf (partOf 1 (Ep6 39))) q0l.fmag.length (capOf (partOf 1 (Ep6 39))) q0l.fmag) (fun (q6 : Heap) => [roD q5 q6]) :: cells (blkOf (Ep2 9)) 41 [.bool q4.fneg, .slice (adOf (partOf 1 (Ep4 34))) q4.fmag.length (capOf (partOf 1 (Ep4 34)))] :: cells b4 41 [.bool q0l.fneg, .slice (adOf (partOf 1 (Ep6 39))) q0l.fmag.length (capOf (partOf 1 (Ep6 39)))] :: cells b5 41 [.bool q4.fneg, .slice (adOf (partOf 1 (Ep4 34))) q4.fmag.length (capOf (partOf 1 (Ep4 34)))] :: (cells b3 41 [.bool b1.fneg, .slice q0d b1.fmag.length c_b1_1] :: cells b2 41 [.bool a0.fneg, .slice q0p a0.fmag.length c_a0_1] :: l)) := emk hS
   have q_ := St.unbun (hS.pull 2); obtain ⟨q6, ⟨q2j, q0f, q0q⟩, hS⟩ := q_
   have q_ := St.ro_join (hS.pull 2) (Le.refl _) q2j; obtain ⟨q38, q2e, q31, hS, q3m⟩ := q_
   have e_ := sinj hF; subst e_
   exact x_return ⟨_, ⟨_, _, _, rfl, ((hE6 4 rfl).trans ((hE4 4 rfl).trans (hE2 4 rfl))), ldvA agg_41 rfl (fun j v hj => by rw [add0]; exact St.cell (hS.pull 3) hj), _, _, _, rfl, ((hE6 5 rfl).trans ((hE4 5 rfl).trans (hE2 5 rfl))), ldvA agg_41 rfl (fun j v hj => by rw [add0]; exact St.cell (hS.pull 4) hj), rfl⟩, q38, (adOf (partOf 1 (Ep6 39))), q0l.fmag.length, (capOf (partOf 1 (Ep6 39))), (adOf (partOf 1 (Ep4 34))), q4.fmag.length, (capOf (partOf 1 (Ep4 34))), rfl, (((q1b.trans q0w).trans q14).trans q2e), (q0q.le q31), (q0k.le (q2d.trans q2e)), (((((((hS.pull 1).drop.pull 1).drop.pull 1).drop.pull 1).drop.pull 1).drop.pull 1).drop)⟩
  ·replace hF := it_bf hc36 hF
   refine x_skip <| x_seq <| ?_
   replace hF := bd_s hF; obtain ⟨q0o, q3g, hF⟩ := hF
   replace hF := bd_s hF; obtain ⟨q0m, q3h, hF⟩ := hF
   refine x_par (w0 := w0) [⟨[], [], [41], [0], [], []⟩, ⟨[], [], [42], [1], [], [2]⟩, ⟨[0, 1], [0, 1], [43], [1], [2], [3]⟩, ⟨[], [], [44], [4], [], []⟩, ⟨[0, 1, 2], [2], [], [], [5], [6]⟩, ⟨[0, 1, 2, 3, 4], [3], [], [], [7], [8]⟩] [⟨none, none, []⟩, ⟨none, none, []⟩, ⟨(some 1), (some 2), [42]⟩, ⟨(some 2), none, [42, 43]⟩, ⟨none, none, []⟩, ⟨none, (some 4), []⟩, ⟨(some 4), none, [43]⟩, ⟨none, (some 5), []⟩, ⟨(some 5), none, []⟩] [41, 42, 43, 44] [0, 1, 4, 5, 7] [0, 1, 3, 4, 6, 8] [0, 1, 2, 3] [fun Ep7 => Ep7 41 = .agg #[.bool q2.fneg, .slice (adOf (partOf 1 (Ep2 24))) q2.fmag.length (capOf (partOf 1 (Ep2 24)))], fun Ep7 => Ep7 42 = .agg #[.bool q0o.fneg, .slice (adOf (partOf 1 (Ep7 42))) q0o.fmag.length (capOf (partOf 1 (Ep7 42)))], fun Ep7 => Ep7 43 = .agg #[.bool q0m.fneg, .slice (adOf (partOf 1 (Ep7 43))) q0m.fmag.length (capOf (partOf 1 (Ep7 43)))], fun Ep7 => Ep7 44 = .agg #[.bool q4.fneg, .slice (adOf (partOf 1 (Ep4 34))) q4.fmag.length (capOf (partOf 1 (Ep4 34)))], fun Ep7 => True, fun Ep7 => True] [fun Ep7 => cells (blkOf (Ep2 8)) 41 [.bool q2.fneg, .slice (adOf (partOf 1 (Ep2 24))) q2.fmag.length (capOf (partOf 1 (Ep2 24)))], fun Ep7 => ro q5, fun Ep7 => bunA (fun (q0b : Heap) => Le q5 q0b ∧ RdS (RpI .u32) q0b (adOf (partOf 1 (Ep7 42))) q0o.fmag.length (capOf (partOf 1 (Ep7 42))) q0o.fmag) (fun (q0b : Heap) => [roD q5 q0b]), fun Ep7 => bunA (fun (q7 : Heap) => Le q5 q7 ∧ RdS (RpI .u32) q7 (adOf (partOf 1 (Ep7 42))) q0o.fmag.length (capOf (partOf 1 (Ep7 42))) q0o.fmag ∧ RdS (RpI .u32) q7 (adOf (partOf 1 (Ep7 43))) q0m.fmag.length (capOf (partOf 1 (Ep7 43))) q0m.fmag) (fun (q7 : Heap) => [roD q5 q7]), fun Ep7 => cells (blkOf (Ep2 9)) 41 [.bool q4.fneg, .slice (adOf (partOf 1 (Ep4 34))) q4.fmag.length (capOf (partOf 1 (Ep4 34)))], fun Ep7 => cells b4 41 [.bool false, .slice none 0 0], fun Ep7 => cells b4 41 [.bool q0m.fneg, .slice (adOf (partOf 1 (Ep7 43))) q0m.fmag.length (capOf (partOf 1 (Ep7 43)))], fun Ep7 => cells b5 41 [.bool false, .slice none 0 0], fun Ep7 => cells b5 41 [.bool q4.fneg, .slice (adOf (partOf 1 (Ep4 34))) q4.fmag.length (capOf (partOf 1 (Ep4 34)))]] mixed (by kernel_rfl) (((((hS.pull 5).pull 6).pull 4).pull 3).pull 6) ?_ ?_
   ·refine ⟨?_, ?_, ?_, ?_, ?_, ?_, trivial⟩
    ·intro Ep7 w l' hE7 hO7 hF_ hS
     replace hS : St w0 w (cells (blkOf (Ep2 8)) 41 [.bool q2.fneg, .slice (adOf (partOf 1 (Ep2 24))) q2.fmag.length (capOf (partOf 1 (Ep2 24)))] :: l') := emk hS
     refine pa (v := .agg #[.bool q2.fneg, .slice (adOf (partOf 1 (Ep2 24))) q2.fmag.length (capOf (partOf 1 (Ep2 24)))]) (ld_sub agg_41 ((hE7 8 rfl).trans ((hE4 8 rfl).trans q0v)) rfl rfl hS) <| x_done <| ?_
     refine x_fin ⟨⟨_, rfl⟩, rfl, ?_⟩
     exact emk hS
    ·intro Ep7 w l' hE7 hO7 hF_ hS
     replace hS : St w0 w (ro q5 :: l') := emk hS
     have hcall := c_exact_Of q3g  hS
     refine o_cc call_17 (args1 rfl) hcall ?_
     rintro e w' ⟨q0b, q1z, q32, c_y0_ret_1_7_1, rfl, q2s, q0g, hS⟩
     refine ⟨_, rfl, ?_⟩
     have e_ := q0g.n; subst e_
     refine x_done <| ?_
     refine x_fin ⟨⟨_, rfl⟩, rfl, ?_⟩
     replace hS := St.ro_split q2s hS
     replace hS := St.bun (Φ := (fun (q0b : Heap) => Le q5 q0b ∧ RdS (RpI .u32) q0b q1z q0o.fmag.length c_y0_ret_1_7_1 q0o.fmag)) (L := (fun (q0b : Heap) => [roD q5 q0b])) q0b ⟨q2s, q0g⟩ (hS.pull 1)
     exact emk (hS.pull 1)
    ·intro Ep7 w l' hE7 hO7 hF_ hS
     obtain ⟨q20, q21, -⟩ := hF_
     replace q20 : Ep7 41 = .agg #[.bool q2.fneg, .slice (adOf (partOf 1 (Ep2 24))) q2.fmag.length (capOf (partOf 1 (Ep2 24)))] := emk q20
     replace q21 : Ep7 42 = .agg #[.bool q0o.fneg, .slice (adOf (partOf 1 (Ep7 42))) q0o.fmag.length (capOf (partOf 1 (Ep7 42)))] := emk q21
     replace hS : St w0 w (ro q5 :: bunA (fun (q0b : Heap) => Le q5 q0b ∧ RdS (RpI .u32) q0b (adOf (partOf 1 (Ep7 42))) q0o.fmag.length (capOf (partOf 1 (Ep7 42))) q0o.fmag) (fun (q0b : Heap) => [roD q5 q0b]) :: l') := emk hS
     have q_ := St.unbun (hS.pull 1); obtain ⟨q0b, ⟨q2k, q0g⟩, hS⟩ := q_
     have q_ := St.ro_join (hS.pull 1) (Le.refl _) q2k; obtain ⟨q3p, q16, q2a, hS, q3j⟩ := q_
     have hcall := c_exact_plus q3h (q0e.le ((q1o.trans q14).trans q16)) (q0g.le q2a) hS
     refine o_cc call_36 (args2 q20 q21) hcall ?_
     rintro e w' ⟨q7, q22, q33, c_y0_ret_1_7_2, rfl, q2b, q0r, hS⟩
     refine ⟨_, rfl, ?_⟩
     have e_ := q0r.n; subst e_
     refine x_done <| ?_
     refine x_fin ⟨⟨_, rfl⟩, rfl, ?_⟩
     replace hS := St.ro_split (q16.trans q2b) hS
     replace hS := St.bun (Φ := (fun (q7 : Heap) => Le q5 q7 ∧ RdS (RpI .u32) q7 (adOf (partOf 1 (Ep7 42))) q0o.fmag.length (capOf (partOf 1 (Ep7 42))) q0o.fmag ∧ RdS (RpI .u32) q7 q22 q0m.fmag.length c_y0_ret_1_7_2 q0m.fmag)) (L := (fun (q7 : Heap) => [roD q5 q7])) q7 ⟨(q16.trans q2b), (q0g.le (q2a.trans q2b)), q0r⟩ (hS.pull 1)
     exact emk (hS.pull 1)
    ·intro Ep7 w l' hE7 hO7 hF_ hS
     replace hS : St w0 w (cells (blkOf (Ep2 9)) 41 [.bool q4.fneg, .slice (adOf (partOf 1 (Ep4 34))) q4.fmag.length (capOf (partOf 1 (Ep4 34)))] :: l') := emk hS
     refine pa (v := .agg #[.bool q4.fneg, .slice (adOf (partOf 1 (Ep4 34))) q4.fmag.length (capOf (partOf 1 (Ep4 34)))]) (ld_sub agg_41 ((hE7 9 rfl).trans ((hE4 9 rfl).trans q0t)) rfl rfl hS) <| x_done <| ?_
     refine x_fin ⟨⟨_, rfl⟩, rfl, ?_⟩
     exact emk hS
    ·intro Ep7 w l' hE7 hO7 hF_ hS
     obtain ⟨q23, -⟩ := hF_
     replace q23 : Ep7 43 = .agg #[.bool q0m.fneg, .slice (adOf (partOf 1 (Ep7 43))) q0m.fmag.length (capOf (partOf 1 (Ep7 43)))] := emk q23
     replace hS : St w0 w (cells b4 41 [.bool false, .slice none 0 0] :: l') := emk hS
     refine o_storeAgg (news := [.bool q0m.fneg, .slice (adOf (partOf 1 (Ep7 43))) q0m.fmag.length (capOf (partOf 1 (Ep7 43)))]) agg_41 ((hE7 4 rfl).trans ((hE4 4 rfl).trans (hE2 4 rfl))) q23 rfl (by simp [over_length]) hS (fun w' hS => ?_)
     refine x_done <| ?_
     refine x_fin ⟨⟨undef, rfl⟩, trivial, ?_⟩
     exact emk hS
    ·intro Ep7 w l' hE7 hO7 hF_ hS
     obtain ⟨q24, -⟩ := hF_
     replace q24 : Ep7 44 = .agg #[.bool q4.fneg, .slice (adOf (partOf 1 (Ep4 34))) q4.fmag.length (capOf (partOf 1 (Ep4 34)))] := emk q24
     replace hS : St w0 w (cells b5 41 [.bool false, .slice none 0 0] :: l') := emk hS
     refine o_storeAgg (news := [.bool q4.fneg, .slice (adOf (partOf 1 (Ep4 34))) q4.fmag.length (capOf (partOf 1 (Ep4 34)))]) agg_41 ((hE7 5 rfl).trans ((hE4 5 rfl).trans (hE2 5 rfl))) q24 rfl (by simp [over_length]) hS (fun w' hS => ?_)
     refine x_done <| ?_
     refine x_fin ⟨⟨undef, rfl⟩, trivial, ?_⟩
     exact emk hS
   intro Ep7 w' hE7 hF_ hS
   obtain ⟨q20, q21, q23, q24, -⟩ := hF_
   replace q20 : Ep7 41 = .agg #[.bool q2.fneg, .slice (adOf (partOf 1 (Ep2 24))) q2.fmag.length (capOf (partOf 1 (Ep2 24)))] := emk q20
   replace q21 : Ep7 42 = .agg #[.bool q0o.fneg, .slice (adOf (partOf 1 (Ep7 42))) q0o.fmag.length (capOf (partOf 1 (Ep7 42)))] := emk q21
   replace q23 : Ep7 43 = .agg #[.bool q0m.fneg, .slice (adOf (partOf 1 (Ep7 43))) q0m.fmag.length (capOf (partOf 1 (Ep7 43)))] := emk q23
   replace q24 : Ep7 44 = .agg #[.bool q4.fneg, .slice (adOf (partOf 1 (Ep4 34))) q4.fmag.length (capOf (partOf 1 (Ep4 34)))] := emk q24
   replace hS : St w0 w' (cells (blkOf (Ep2 8)) 41 [.bool q2.fneg, .slice (adOf (partOf 1 (Ep2 24))) q2.fmag.length (capOf (partOf 1 (Ep2 24)))] :: ro q5 :: bunA (fun (q7 : Heap) => Le q5 q7 ∧ RdS (RpI .u32) q7 (adOf (partOf 1 (Ep7 42))) q0o.fmag.length (capOf (partOf 1 (Ep7 42))) q0o.fmag ∧ RdS (RpI .u32) q7 (adOf (partOf 1 (Ep7 43))) q0m.fmag.length (capOf (partOf 1 (Ep7 43))) q0m.fmag) (fun (q7 : Heap) => [roD q5 q7]) :: cells (blkOf (Ep2 9)) 41 [.bool q4.fneg, .slice (adOf (partOf 1 (Ep4 34))) q4.fmag.length (capOf (partOf 1 (Ep4 34)))] :: cells b4 41 [.bool q0m.fneg, .slice (adOf (partOf 1 (Ep7 43))) q0m.fmag.length (capOf (partOf 1 (Ep7 43)))] :: cells b5 41 [.bool q4.fneg, .slice (adOf (partOf 1 (Ep4 34))) q4.fmag.length (capOf (partOf 1 (Ep4 34)))] :: (cells b3 41 [.bool b1.fneg, .slice q0d b1.fmag.length c_b1_1] :: cells b2 41 [.bool a0.fneg, .slice q0p a0.fmag.length c_a0_1] :: l)) := emk hS
   have q_ := St.unbun (hS.pull 2); obtain ⟨q7, ⟨q2l, q0g, q0r⟩, hS⟩ := q_
   have q_ := St.ro_join (hS.pull 2) (Le.refl _) q2l; obtain ⟨q39, q2f, q34, hS, q3n⟩ := q_
   have e_ := sinj hF; subst e_
   exact x_return ⟨_, ⟨_, _, _, rfl, ((hE7 4 rfl).trans ((hE4 4 rfl).trans (hE2 4 rfl))), ldvA agg_41 rfl (fun j v hj => by rw [add0]; exact St.cell (hS.pull 3) hj), _, _, _, rfl, ((hE7 5 rfl).trans ((hE4 5 rfl).trans (hE2 5 rfl))), ldvA agg_41 rfl (fun j v hj => by rw [add0]; exact St.cell (hS.pull 4) hj), rfl⟩, q39, (adOf (partOf 1 (Ep7 43))), q0m.fmag.length, (capOf (partOf 1 (Ep7 43))), (adOf (partOf 1 (Ep4 34))), q4.fmag.length, (capOf (partOf 1 (Ep4 34))), rfl, (((q1b.trans q0w).trans q14).trans q2f), (q0r.le q34), (q0k.le (q2d.trans q2f)), (((((((hS.pull 1).drop.pull 1).drop.pull 1).drop.pull 1).drop.pull 1).drop.pull 1).drop)⟩
 ·replace hF := it_bf hc30 hF
  refine x_skip <| x_seq <| ?_
  refine x_par (w0 := w0) [⟨[], [], [45], [0], [], []⟩, ⟨[], [], [46], [1], [], []⟩, ⟨[0], [0], [], [], [2], [3]⟩, ⟨[0, 1, 2], [1], [], [], [4], [5]⟩] [⟨none, none, []⟩, ⟨none, none, []⟩, ⟨none, (some 2), []⟩, ⟨(some 2), none, []⟩, ⟨none, (some 3), []⟩, ⟨(some 3), none, []⟩] [45, 46] [0, 1, 2, 4] [0, 1, 3, 5] [0, 1] [fun Ep8 => Ep8 45 = .agg #[.bool q2.fneg, .slice (adOf (partOf 1 (Ep2 24))) q2.fmag.length (capOf (partOf 1 (Ep2 24)))], fun Ep8 => Ep8 46 = .agg #[.bool q3.fneg, .slice (adOf (partOf 1 (Ep2 28))) q3.fmag.length (capOf (partOf 1 (Ep2 28)))], fun Ep8 => True, fun Ep8 => True] [fun Ep8 => cells (blkOf (Ep2 8)) 41 [.bool q2.fneg, .slice (adOf (partOf 1 (Ep2 24))) q2.fmag.length (capOf (partOf 1 (Ep2 24)))], fun Ep8 => cells (blkOf (Ep2 9)) 41 [.bool q3.fneg, .slice (adOf (partOf 1 (Ep2 28))) q3.fmag.length (capOf (partOf 1 (Ep2 28)))], fun Ep8 => cells b4 41 [.bool false, .slice none 0 0], fun Ep8 => cells b4 41 [.bool q2.fneg, .slice (adOf (partOf 1 (Ep2 24))) q2.fmag.length (capOf (partOf 1 (Ep2 24)))], fun Ep8 => cells b5 41 [.bool false, .slice none 0 0], fun Ep8 => cells b5 41 [.bool q3.fneg, .slice (adOf (partOf 1 (Ep2 28))) q3.fmag.length (capOf (partOf 1 (Ep2 28)))]] mixed (by kernel_rfl) ((((hS.pull 5).pull 6).pull 6).pull 6) ?_ ?_
  ·refine ⟨?_, ?_, ?_, ?_, trivial⟩
   ·intro Ep8 w l' hE8 hO8 hF_ hS
    replace hS : St w0 w (cells (blkOf (Ep2 8)) 41 [.bool q2.fneg, .slice (adOf (partOf 1 (Ep2 24))) q2.fmag.length (capOf (partOf 1 (Ep2 24)))] :: l') := emk hS
    refine pa (v := .agg #[.bool q2.fneg, .slice (adOf (partOf 1 (Ep2 24))) q2.fmag.length (capOf (partOf 1 (Ep2 24)))]) (ld_sub agg_41 ((hE8 8 rfl).trans q0v) rfl rfl hS) <| x_done <| ?_
    refine x_fin ⟨⟨_, rfl⟩, rfl, ?_⟩
    exact emk hS
   ·intro Ep8 w l' hE8 hO8 hF_ hS
    replace hS : St w0 w (cells (blkOf (Ep2 9)) 41 [.bool q3.fneg, .slice (adOf (partOf 1 (Ep2 28))) q3.fmag.length (capOf (partOf 1 (Ep2 28)))] :: l') := emk hS
    refine pa (v := .agg #[.bool q3.fneg, .slice (adOf (partOf 1 (Ep2 28))) q3.fmag.length (capOf (partOf 1 (Ep2 28)))]) (ld_sub agg_41 ((hE8 9 rfl).trans q0t) rfl rfl hS) <| x_done <| ?_
    refine x_fin ⟨⟨_, rfl⟩, rfl, ?_⟩
    exact emk hS
   ·intro Ep8 w l' hE8 hO8 hF_ hS
    obtain ⟨q25, -⟩ := hF_
    replace q25 : Ep8 45 = .agg #[.bool q2.fneg, .slice (adOf (partOf 1 (Ep2 24))) q2.fmag.length (capOf (partOf 1 (Ep2 24)))] := emk q25
    replace hS : St w0 w (cells b4 41 [.bool false, .slice none 0 0] :: l') := emk hS
    refine o_storeAgg (news := [.bool q2.fneg, .slice (adOf (partOf 1 (Ep2 24))) q2.fmag.length (capOf (partOf 1 (Ep2 24)))]) agg_41 ((hE8 4 rfl).trans (hE2 4 rfl)) q25 rfl (by simp [over_length]) hS (fun w' hS => ?_)
    refine x_done <| ?_
    refine x_fin ⟨⟨undef, rfl⟩, trivial, ?_⟩
    exact emk hS
   ·intro Ep8 w l' hE8 hO8 hF_ hS
    obtain ⟨q26, -⟩ := hF_
    replace q26 : Ep8 46 = .agg #[.bool q3.fneg, .slice (adOf (partOf 1 (Ep2 28))) q3.fmag.length (capOf (partOf 1 (Ep2 28)))] := emk q26
    replace hS : St w0 w (cells b5 41 [.bool false, .slice none 0 0] :: l') := emk hS
    refine o_storeAgg (news := [.bool q3.fneg, .slice (adOf (partOf 1 (Ep2 28))) q3.fmag.length (capOf (partOf 1 (Ep2 28)))]) agg_41 ((hE8 5 rfl).trans (hE2 5 rfl)) q26 rfl (by simp [over_length]) hS (fun w' hS => ?_)
    refine x_done <| ?_
    refine x_fin ⟨⟨undef, rfl⟩, trivial, ?_⟩
    exact emk hS
  intro Ep8 w' hE8 hF_ hS
  obtain ⟨q25, q26, -⟩ := hF_
  replace q25 : Ep8 45 = .agg #[.bool q2.fneg, .slice (adOf (partOf 1 (Ep2 24))) q2.fmag.length (capOf (partOf 1 (Ep2 24)))] := emk q25
  replace q26 : Ep8 46 = .agg #[.bool q3.fneg, .slice (adOf (partOf 1 (Ep2 28))) q3.fmag.length (capOf (partOf 1 (Ep2 28)))] := emk q26
  replace hS : St w0 w' (cells (blkOf (Ep2 8)) 41 [.bool q2.fneg, .slice (adOf (partOf 1 (Ep2 24))) q2.fmag.length (capOf (partOf 1 (Ep2 24)))] :: cells (blkOf (Ep2 9)) 41 [.bool q3.fneg, .slice (adOf (partOf 1 (Ep2 28))) q3.fmag.length (capOf (partOf 1 (Ep2 28)))] :: cells b4 41 [.bool q2.fneg, .slice (adOf (partOf 1 (Ep2 24))) q2.fmag.length (capOf (partOf 1 (Ep2 24)))] :: cells b5 41 [.bool q3.fneg, .slice (adOf (partOf 1 (Ep2 28))) q3.fmag.length (capOf (partOf 1 (Ep2 28)))] :: (ro q0h :: cells b2 41 [.bool a0.fneg, .slice q0p a0.fmag.length c_a0_1] :: cells b3 41 [.bool b1.fneg, .slice q0d b1.fmag.length c_b1_1] :: l)) := emk hS
  have e_ := sinj hF; subst e_
  exact x_return ⟨_, ⟨_, _, _, rfl, ((hE8 4 rfl).trans (hE2 4 rfl)), ldvA agg_41 rfl (fun j v hj => by rw [add0]; exact St.cell (hS.pull 2) hj), _, _, _, rfl, ((hE8 5 rfl).trans (hE2 5 rfl)), ldvA agg_41 rfl (fun j v hj => by rw [add0]; exact St.cell (hS.pull 3) hj), rfl⟩, q0h, (adOf (partOf 1 (Ep2 24))), q2.fmag.length, (capOf (partOf 1 (Ep2 24))), (adOf (partOf 1 (Ep2 28))), q3.fmag.length, (capOf (partOf 1 (Ep2 28))), rfl, (q1b.trans q0w), (q0e.le q1o), (q0i.le q0w), (((hS.drop.drop.drop.drop.pull 1).drop.pull 1).drop)⟩
attribute [irreducible] P_exact_split


end Go.Proofs.Ytfkncjfpgflafaa.X
