/- Printed by gen.py: plain functions, and that the Go code computes them. -/
import Derived.Test.YtfkncjfpgflafaaDoorXI
import Derived.Test.YtfkncjfpgflafaaDoorXT
import Derived.Test.YtfkncjfpgflafaaDoorGAp0
import Derived.Test.YtfkncjfpgflafaaDoorGAp1
namespace Go.Proofs.YtfkncjfpgflafaaDoor.X
set_option maxHeartbeats 4000000
set_option maxRecDepth 100000
open Go Go.RowKit
set_option linter.unusedVariables false
set_option linter.unusedSimpArgs false

def P_slices_symMergeCmpFunc_int_3_L3 (data0 : List Int) (a1 : Int) (q4 : List Int) : (Int × Int) → Option ((Int × Int) ⊕ Int) := fun (q2, q3) =>
 if q2 < q3 then
  ar (q2 + q3) fun x36 =>
  lv (x36 % 18446744073709551616) fun x37 =>
  ck (0 ≤ (1 : Int)) <|
  lv (shr .u64 x37 1) fun x38 =>
  ar (x38) fun x39 =>
  ck (inb x39 data0.length) <|
  lv (gt data0 x39) fun x44 =>
  ck (inb a1 data0.length) <|
  lv (gt data0 a1) fun x48 =>
  bd (P_legal_tight_1 x44 x48 q4) fun q7 =>
  bd (
   if q7 < 0 then
    ar (x39 + 1) fun x52 =>
    some (x52, q3)
   else
    some (q2, x39)) fun (q5, q6) =>
  some (Sum.inl (q5, q6))
 else
  some (Sum.inr q2)
def P_slices_symMergeCmpFunc_int_3_L9 (q5 : Int) : (List Int × Int) → Option ((List Int × Int) ⊕ List Int) := fun (q2, q3) =>
 ar (q5 - 1) fun x57 =>
 if q3 < x57 then
  ar (q3 + 1) fun x65 =>
  ar (q3 + 1) fun x68 =>
  ck (inb x68 q2.length) <|
  lv (gt q2 x68) fun x70 =>
  ck (inb q3 q2.length) <|
  lv (gt q2 q3) fun x74 =>
  ck (inb q3 q2.length) <|
  lv (stt q2 q3 x70) fun q4 =>
  ck (inb x65 q4.length) <|
  lv (stt q4 x65 x74) fun q6 =>
  ar (q3 + 1) fun x60 =>
  some (Sum.inl (q6, x60))
 else
  some (Sum.inr q2)
def P_slices_symMergeCmpFunc_int_3_L15 (data0 : List Int) (m2 : Int) (q4 : List Int) : (Int × Int) → Option ((Int × Int) ⊕ Int) := fun (q2, q3) =>
 if q2 < q3 then
  ar (q2 + q3) fun x88 =>
  lv (x88 % 18446744073709551616) fun x89 =>
  ck (0 ≤ (1 : Int)) <|
  lv (shr .u64 x89 1) fun x90 =>
  ar (x90) fun x91 =>
  ck (inb m2 data0.length) <|
  lv (gt data0 m2) fun x96 =>
  ck (inb x91 data0.length) <|
  lv (gt data0 x91) fun x100 =>
  bd (P_legal_tight_1 x96 x100 q4) fun q7 =>
  bd (
   if (!(decide (q7 < 0))) = true then
    ar (x91 + 1) fun x105 =>
    some (x105, q3)
   else
    some (q2, x91)) fun (q5, q6) =>
  some (Sum.inl (q5, q6))
 else
  some (Sum.inr q2)
def P_slices_symMergeCmpFunc_int_3_L21 (q5 : Int) : (List Int × Int) → Option ((List Int × Int) ⊕ List Int) := fun (q2, q3) =>
 if q5 < q3 then
  ar (q3 - 1) fun x117 =>
  ar (q3 - 1) fun x120 =>
  ck (inb x120 q2.length) <|
  lv (gt q2 x120) fun x122 =>
  ck (inb q3 q2.length) <|
  lv (gt q2 q3) fun x126 =>
  ck (inb q3 q2.length) <|
  lv (stt q2 q3 x122) fun q4 =>
  ck (inb x117 q4.length) <|
  lv (stt q4 x117 x126) fun q6 =>
  ar (q3 - 1) fun x112 =>
  some (Sum.inl (q6, x112))
 else
  some (Sum.inr q2)
def P_slices_symMergeCmpFunc_int_3_L33 (data0 : List Int) (q5 : List Int) (x148 : Int) : (Int × Int) → Option ((Int × Int) ⊕ Int) := fun (q2, q3) =>
 if q2 < q3 then
  ar (q2 + q3) fun x154 =>
  lv (x154 % 18446744073709551616) fun x155 =>
  ck (0 ≤ (1 : Int)) <|
  lv (shr .u64 x155 1) fun x156 =>
  ar (x156) fun x157 =>
  ar (x148 - x157) fun x162 =>
  ck (inb x162 data0.length) <|
  lv (gt data0 x162) fun x164 =>
  ck (inb x157 data0.length) <|
  lv (gt data0 x157) fun x168 =>
  bd (P_legal_tight_1 x164 x168 q5) fun q7 =>
  bd (
   if (!(decide (q7 < 0))) = true then
    ar (x157 + 1) fun x173 =>
    some (x173, q3)
   else
    some (q2, x157)) fun (q4, q6) =>
  some (Sum.inl (q4, q6))
 else
  some (Sum.inr q2)
def P_slices_symMergeCmpFunc_int_3_B (rc_ : (List Int × Int × Int × Int × List Int) → Option (List Int)) : (List Int × Int × Int × Int × List Int) → Option (List Int) := fun (data0, a1, m2, b3, q3) =>
 ar (m2 - a1) fun x27 =>
 if x27 = 1 then
  bd (
   lp (P_slices_symMergeCmpFunc_int_3_L3 data0 a1 q3) fuel (m2, b3)) fun q0c =>
  bd (
   lp (P_slices_symMergeCmpFunc_int_3_L9 q0c) fuel (data0, a1)) fun q9 =>
  some q9
 else
  ar (b3 - m2) fun x79 =>
  if x79 = 1 then
   bd (
    lp (P_slices_symMergeCmpFunc_int_3_L15 data0 m2 q3) fuel (a1, m2)) fun q0b =>
   bd (
    lp (P_slices_symMergeCmpFunc_int_3_L21 q0b) fuel (data0, m2)) fun q7 =>
   some q7
  else
   ar (a1 + b3) fun x131 =>
   lv (x131 % 18446744073709551616) fun x132 =>
   ck (0 ≤ (1 : Int)) <|
   lv (shr .u64 x132 1) fun x133 =>
   ar (x133) fun x134 =>
   ar (x134 + m2) fun x137 =>
   bd (
    if x134 < m2 then
     ar (x137 - b3) fun x143 =>
     some (x143, x134)
    else
     some (a1, m2)) fun (q8, q0a) =>
   ar (x137 - 1) fun x148 =>
   bd (
    lp (P_slices_symMergeCmpFunc_int_3_L33 data0 q3 x148) fuel (q8, q0a)) fun q2 =>
   ar (x137 - q2) fun x177 =>
   lv ((decide (q2 < m2)) && (decide (m2 < x177))) fun x185 =>
   bd (
    if x185 = true then
     bd (P_slices_rotateCmpFunc_int_3 data0 q2 m2 x177 q3) fun q0d =>
     some q0d
    else
     some data0) fun q4 =>
   lv ((decide (a1 < q2)) && (decide (q2 < x134))) fun x199 =>
   bd (
    if x199 = true then
     bd (rc_ (q4, a1, q2, x134, q3)) fun q0e =>
     some q0e
    else
     some q4) fun q5 =>
   lv ((decide (x134 < x177)) && (decide (x177 < b3))) fun x213 =>
   bd (
    if x213 = true then
     bd (rc_ (q5, x134, x177, b3, q3)) fun q0f =>
     some q0f
    else
     some q5) fun q6 =>
   some q6
def P_slices_symMergeCmpFunc_int_3 (data0 : List Int) (a1 : Int) (m2 : Int) (b3 : Int) (q2 : List Int) : Option (List Int) := rcf P_slices_symMergeCmpFunc_int_3_B fuel (data0, a1, m2, b3, q2)
theorem c_slices_symMergeCmpFunc_int_3_s (rc_ : (List Int × Int × Int × Int × List Int) → Option (List Int)) (ih : ∀ {w0 w : World} {l : List Assn} {ρ : Heap} {q2 : Option Addr} {q0l : Nat} {c_data0 : Nat} {q0b : List Value} {q3 : Nat} {q4 : Option Addr} {q0n : Nat} {c_cmp4_0_0 : Nat} {data0 : List Int} {a1 : Int} {m2 : Int} {b3 : Int} {q5 : List Int} {r : List Int} (hF : rc_ (data0, a1, m2, b3, q5) = some r) (q0e : RepL (RpI .i64) ρ data0 q0b) (q0i : RdS (RpI .i64) ρ q4 q0n c_cmp4_0_0 q5) (hS : St w0 w (vec 3 (RpI .i64).sz (.slice q2 q0l c_data0) q0l q0b :: cells q3 22 [.slice q4 q0n c_cmp4_0_0] :: ro ρ :: l)),
  Calls Tryd.prog 72 #[.slice q2 q0l c_data0, .int .i64 a1, .int .i64 m2, .int .i64 b3, .func (.func 47) #[] #[.pointer (some ⟨q3, 0, none⟩)]] w fun e w' => ∃ (q0j : List Value), e = .returned (.tuple #[]) ∧ RepL (RpI .i64) ρ r q0j ∧ St w0 w' (cells q3 22 [.slice q4 q0n c_cmp4_0_0] :: vec 3 (RpI .i64).sz (.slice q2 q0l c_data0) q0l q0j :: ro ρ :: l)) {w0 w : World} {l : List Assn} {ρ : Heap} {q2 : Option Addr} {q0l : Nat} {c_data0 : Nat} {q0b : List Value} {q3 : Nat} {q4 : Option Addr} {q0n : Nat} {c_cmp4_0_0 : Nat} {data0 : List Int} {a1 : Int} {m2 : Int} {b3 : Int} {q5 : List Int} {r : List Int} (hF : P_slices_symMergeCmpFunc_int_3_B rc_ (data0, a1, m2, b3, q5) = some r) (q0e : RepL (RpI .i64) ρ data0 q0b) (q0i : RdS (RpI .i64) ρ q4 q0n c_cmp4_0_0 q5) (hS : St w0 w (vec 3 (RpI .i64).sz (.slice q2 q0l c_data0) q0l q0b :: cells q3 22 [.slice q4 q0n c_cmp4_0_0] :: ro ρ :: l)) :
  Calls Tryd.prog 72 #[.slice q2 q0l c_data0, .int .i64 a1, .int .i64 m2, .int .i64 b3, .func (.func 47) #[] #[.pointer (some ⟨q3, 0, none⟩)]] w fun e w' => ∃ (q0j : List Value), e = .returned (.tuple #[]) ∧ RepL (RpI .i64) ρ r q0j ∧ St w0 w' (cells q3 22 [.slice q4 q0n c_cmp4_0_0] :: vec 3 (RpI .i64).sz (.slice q2 q0l c_data0) q0l q0j :: ro ρ :: l) := by
 unfold P_slices_symMergeCmpFunc_int_3_B at hF; try dsimp only at hF
 have e_ := St.vec_n hS q0e; subst e_
 have e_ := q0i.n; subst e_
 refine enterC Tryd.func72 rfl 220 rfl (by simp) ?_
 replace hF := ar_s hF; obtain ⟨x27, hx27, hF⟩ := hF
 refine x_seq <| x_seq <| x_region <| p (yl_move rfl) <|
  p (yl_move rfl) <| p (ysub rfl rfl hx27) <| p (yl_eql rfl rfl) <| x_done <|
  x_cond_p (x27 = 1) rfl (fun hc28 => ?_) (fun hc28 => ?_)
 ·replace hF := it_t hc28 hF
  refine x_seq <| x_region <| p (yl_move rfl) <| p (yl_assign rfl) <|
   x_done <| x_seq <| x_region <| p (yl_move rfl) <|
   p (yl_assign rfl) <| x_done <| x_seq <| ?_
  replace hF := bd_s hF; obtain ⟨oL3, hLL3, hF⟩ := hF
  refine x_join (fun E w => ∃ (q25 : Int), q25 = oL3 ∧ E 0 = .slice q2 data0.length c_data0 ∧ E 1 = .int .i64 a1 ∧ E 10 = .int .i64 q25 ∧ St w0 w (vec 3 (RpI .i64).sz (.slice q2 data0.length c_data0) data0.length q0b :: cells q3 22 [.slice q4 q5.length c_cmp4_0_0] :: ro ρ :: l)) ?_ ?_
  ·refine x_block ?_
   refine x_loop (fun k_ E w => ∃ (q11 : Int) (q1b : Int), lp (P_slices_symMergeCmpFunc_int_3_L3 data0 a1 q5) k_ (q11, q1b) = some oL3 ∧ E 0 = .slice q2 data0.length c_data0 ∧ E 1 = .int .i64 a1 ∧ E 4 = .func (.func 47) #[] #[.pointer (some ⟨q3, 0, none⟩)] ∧ E 10 = .int .i64 q11 ∧ E 11 = .int .i64 q1b ∧ St w0 w (vec 3 (RpI .i64).sz (.slice q2 data0.length c_data0) data0.length q0b :: cells q3 22 [.slice q4 q5.length c_cmp4_0_0] :: ro ρ :: l)) fuel ⟨m2, b3, hLL3, rfl, rfl, rfl, rfl, rfl, (((hS.pull 2).pull 2).pull 2)⟩ ?_
   rintro kL3 E w ⟨q11, q1b, hLL3, q26, q38, q3n, q2c, q3c, hS⟩
   replace hLL3 := lp_s hLL3; obtain ⟨kL3, obL3, rfl, hFL3, hLL3⟩ := hLL3
   refine x_seq <| x_seq <| x_region <| p (yl_move q2c) <|
    p (yl_move q3c) <| p (yl_lss rfl rfl) <| x_done <|
    x_cond_p (q11 < q1b) rfl (fun hc33 => ?_) (fun hc33 => ?_)
   ·replace hFL3 := it_t hc33 hFL3
    replace hFL3 := ar_s hFL3; obtain ⟨x36, hx36, hFL3⟩ := hFL3
    replace hFL3 := lv_s hFL3; obtain ⟨x37, hx37, hFL3⟩ := hFL3
    replace hFL3 := ck_s hFL3; obtain ⟨q5s, hFL3⟩ := hFL3
    replace hFL3 := lv_s hFL3; obtain ⟨x38, hx38, hFL3⟩ := hFL3
    replace hFL3 := ar_s hFL3; obtain ⟨x39, hx39, hFL3⟩ := hFL3
    replace hFL3 := ck_s hFL3; obtain ⟨q4o, hFL3⟩ := hFL3
    replace hFL3 := lv_s hFL3; obtain ⟨x44, hx44, hFL3⟩ := hFL3
    replace hFL3 := ck_s hFL3; obtain ⟨q4p, hFL3⟩ := hFL3
    replace hFL3 := lv_s hFL3; obtain ⟨x48, hx48, hFL3⟩ := hFL3
    refine x_skip <| x_block <| x_seq <| x_region <|
     p (yl_move q2c) <| p (yl_move q3c) <| p (yadd rfl rfl hx36) <| p (yconvu wm_u64 uk_3 ik_153 rfl hx37) <|
     p (yshr rfl rfl q5s hx38) <| p (yconvi uk_153 ik_3 rfl hx39) <| p (yl_assign rfl) <| x_done <|
     x_seq <| x_head 9 mixed (by kernel_rfl) hS _ _ rfl rfl <| q (yl_move q3n) <| q (yl_move q26) <|
     q (yl_move rfl) <| q (yix_o sl_22 rfl rfl hS q0e q4o) <| qa (fun w' hS => at_load one_3 rfl (RepL.getW q0e hS q4o hx44)) <| q (yl_move q26) <|
     q (yl_move q38) <| q (yix_o sl_22 rfl rfl hS q0e q4p) <| qa (fun w' hS => at_load one_3 rfl (RepL.getW q0e hS q4p hx48)) <|
     q_done fun w' hS => ?_
    replace hFL3 := bd_s hFL3; obtain ⟨q60, q5t, hFL3⟩ := hFL3
    have hcall := c_legal_tight_1 q5t q0i ((hS.pull 2).pull 2)
    refine o_ccv rfl call_47 (capargs (args2 rfl rfl)) ((Calls.mono hcall (fun e w'' h => And.intro h.1 (((h.2.pull 1).pull 1).pull 2)))) ?_
    rintro e w' ⟨rfl, hS⟩
    refine ⟨_, rfl, ?_⟩
    refine p (yl_lss rfl rfl) <| x_done <| ?_
    replace hFL3 := bd_s hFL3; obtain ⟨oc50, hFc50, hFL3⟩ := hFL3
    refine x_join (fun E w => ∃ (q2d : Int) (q2e : Int), (q2d, q2e) = oc50 ∧ E 0 = .slice q2 data0.length c_data0 ∧ E 1 = .int .i64 a1 ∧ E 4 = .func (.func 47) #[] #[.pointer (some ⟨q3, 0, none⟩)] ∧ E 10 = .int .i64 q2d ∧ E 11 = .int .i64 q2e ∧ St w0 w (vec 3 (RpI .i64).sz (.slice q2 data0.length c_data0) data0.length q0b :: cells q3 22 [.slice q4 q5.length c_cmp4_0_0] :: ro ρ :: l)) ?_ ?_
    ·refine x_cond_p (q60 < 0) rfl (fun hc50 => ?_) (fun hc50 => ?_)
     ·replace hFc50 := it_t hc50 hFc50
      replace hFc50 := ar_s hFc50; obtain ⟨x52, hx52, hFc50⟩ := hFc50
      refine x_region <| p (yl_move rfl) <| p (yadd rfl rfl hx52) <| p (yl_assign rfl) <|
       x_done <| ?_
      exact x_inv ⟨x52, q1b, (sinj hFc50), q26, q38, q3n, rfl, q3c, (((hS.pull 2).pull 2).pull 2)⟩
     ·replace hFc50 := it_f hc50 hFc50
      refine x_region <| p (yl_move rfl) <| p (yl_assign rfl) <| x_done <| ?_
      exact x_inv ⟨q11, x39, (sinj hFc50), q26, q38, q3n, q2c, rfl, (((hS.pull 2).pull 2).pull 2)⟩
    rintro E w ⟨q2d, q2e, rfl, q5e, q5f, q5g, q4q, q4r, hS⟩
    refine x_blk <| ?_
    have e_ := sinj hFL3; subst e_
    exact x_inv ⟨kL3, Nat.lt_succ_self _, q2d, q2e, hLL3, q5e, q5f, q5g, q4q, q4r, (((hS.pull 2).pull 2).pull 2)⟩
   ·replace hFL3 := it_f hc33 hFL3
    refine x_exitTo _ rfl <| ?_
    have e_ := sinj hFL3; subst e_
    exact x_inv ⟨q11, hLL3, q26, q38, q2c, (((hS.pull 2).pull 2).pull 2)⟩
  rintro E w ⟨q25, rfl, q5u, q5v, q5h, hS⟩
  refine x_seq <| x_seq <| x_region <| p (yl_move q5v) <|
   p (yl_assign rfl) <| x_done <| ?_
  replace hF := bd_s hF; obtain ⟨oL9, hLL9, hF⟩ := hF
  refine x_join (fun E w => ∃ (q0q : List Value) (q1a : List Int), q1a = oL9 ∧ RepL (RpI .i64) ρ q1a q0q ∧ St w0 w (cells q3 22 [.slice q4 q5.length c_cmp4_0_0] :: vec 3 (RpI .i64).sz (.slice q2 data0.length c_data0) data0.length q0q :: ro ρ :: l)) ?_ ?_
  ·refine x_block ?_
   refine x_loop (fun k_ E w => ∃ (q0c : List Value) (q19 : List Int) (q9 : Int), lp (P_slices_symMergeCmpFunc_int_3_L9 q25) k_ (q19, q9) = some oL9 ∧ E 0 = .slice q2 data0.length c_data0 ∧ E 10 = .int .i64 q25 ∧ E 13 = .int .i64 q9 ∧ RepL (RpI .i64) ρ q19 q0c ∧ St w0 w (vec 3 (RpI .i64).sz (.slice q2 data0.length c_data0) data0.length q0c :: cells q3 22 [.slice q4 q5.length c_cmp4_0_0] :: ro ρ :: l)) fuel ⟨q0b, data0, a1, hLL9, q5u, q5h, rfl, q0e, (((hS.pull 2).pull 2).pull 2)⟩ ?_
   rintro kL9 E w ⟨q0c, q19, q9, hLL9, q27, q3v, q12, q0k, hS⟩
   replace hLL9 := lp_s hLL9; obtain ⟨kL9, obL9, rfl, hFL9, hLL9⟩ := hLL9
   unfold P_slices_symMergeCmpFunc_int_3_L9 at hFL9
   replace hFL9 := ar_s hFL9; obtain ⟨x57, hx57, hFL9⟩ := hFL9
   refine x_seq <| x_seq <| x_region <| p (yl_move q12) <|
    p (yl_move q3v) <| p (ysub rfl rfl hx57) <| p (yl_lss rfl rfl) <| x_done <|
    x_cond_p (q9 < x57) rfl (fun hc58 => ?_) (fun hc58 => ?_)
   ·replace hFL9 := it_t hc58 hFL9
    refine x_skip <| x_seq <| x_block <| ?_
    replace hFL9 := ar_s hFL9; obtain ⟨x65, hx65, hFL9⟩ := hFL9
    replace hFL9 := ar_s hFL9; obtain ⟨x68, hx68, hFL9⟩ := hFL9
    replace hFL9 := ck_s hFL9; obtain ⟨q46, hFL9⟩ := hFL9
    replace hFL9 := lv_s hFL9; obtain ⟨x70, hx70, hFL9⟩ := hFL9
    replace hFL9 := ck_s hFL9; obtain ⟨q3w, hFL9⟩ := hFL9
    replace hFL9 := lv_s hFL9; obtain ⟨x74, hx74, hFL9⟩ := hFL9
    replace hFL9 := ck_s hFL9; obtain ⟨q3x, hFL9⟩ := hFL9
    replace hFL9 := lv_s hFL9; obtain ⟨q28, q4s, hFL9⟩ := hFL9
    replace hFL9 := ck_s hFL9; obtain ⟨q3y, hFL9⟩ := hFL9
    replace hFL9 := lv_s hFL9; obtain ⟨q39, q4t, hFL9⟩ := hFL9
    refine x_par (w0 := w0) [⟨[], [], [61], [], [], []⟩, ⟨[], [], [62], [], [], []⟩, ⟨[], [], [63], [], [], []⟩, ⟨[], [], [64], [], [], []⟩, ⟨[3], [3], [65], [], [], []⟩, ⟨[], [], [66], [], [], []⟩, ⟨[], [], [67], [], [], []⟩, ⟨[6], [6], [68], [], [], []⟩, ⟨[5, 6, 7], [5, 7], [69], [0], [], []⟩, ⟨[5, 6, 7, 8], [8], [70], [0], [], []⟩, ⟨[], [], [71], [], [], []⟩, ⟨[], [], [72], [], [], []⟩, ⟨[10, 11], [10, 11], [73], [0], [], []⟩, ⟨[10, 11, 12], [12], [74], [0], [], []⟩, ⟨[0, 1, 5, 6, 7, 8, 9, 10, 11, 12, 13], [0, 1], [75], [0], [], []⟩, ⟨[0, 1, 5, 6, 7, 8, 9, 10, 11, 12, 13, 14], [9, 14], [], [], [0], [1]⟩, ⟨[0, 1, 2, 3, 4, 5, 6, 7, 8, 9, 10, 11, 12, 13, 14, 15], [2, 4], [76], [2, 1], [], []⟩, ⟨[0, 1, 2, 3, 4, 5, 6, 7, 8, 9, 10, 11, 12, 13, 14, 15, 16], [13, 16], [], [2], [1], [3]⟩] [⟨none, (some 15), []⟩, ⟨(some 15), (some 17), []⟩, ⟨none, none, []⟩, ⟨(some 17), none, []⟩] [61, 62, 63, 64, 65, 66, 67, 68, 69, 70, 71, 72, 73, 74, 75, 76] [0, 2] [2, 3] [0, 1, 2, 3, 4, 5, 6, 7, 8, 9, 10, 11, 12, 13, 14, 16] [fun Ep11 => Ep11 61 = .slice q2 data0.length c_data0, fun Ep11 => Ep11 62 = .int .i64 q9, fun Ep11 => Ep11 63 = .slice q2 data0.length c_data0, fun Ep11 => Ep11 64 = .int .i64 q9, fun Ep11 => Ep11 65 = .int .i64 x65, fun Ep11 => Ep11 66 = .slice q2 data0.length c_data0, fun Ep11 => Ep11 67 = .int .i64 q9, fun Ep11 => Ep11 68 = .int .i64 x68, fun Ep11 => Ep11 69 = .pointer (some ((adr q2).add (x68.toNat * (RpI .i64).sz))), fun Ep11 => Ep11 70 = .int .i64 x70, fun Ep11 => Ep11 71 = .slice q2 data0.length c_data0, fun Ep11 => Ep11 72 = .int .i64 q9, fun Ep11 => Ep11 73 = .pointer (some ((adr q2).add (q9.toNat * (RpI .i64).sz))), fun Ep11 => Ep11 74 = .int .i64 x74, fun Ep11 => Ep11 75 = .pointer (some ((adr q2).add (q9.toNat * (RpI .i64).sz))), fun Ep11 => True, fun Ep11 => Ep11 76 = .pointer (some ((adr q2).add (x65.toNat * (RpI .i64).sz))), fun Ep11 => True] [fun Ep11 => vec 3 (RpI .i64).sz (.slice q2 data0.length c_data0) data0.length q0c, fun Ep11 => bunA (fun (q7 : List Value) => RepL (RpI .i64) ρ q28 q7) (fun (q7 : List Value) => [vec 3 (RpI .i64).sz (.slice q2 data0.length c_data0) data0.length q7]), fun Ep11 => ro ρ, fun Ep11 => bunA (fun (q0f : List Value) => RepL (RpI .i64) ρ q39 q0f) (fun (q0f : List Value) => [vec 3 (RpI .i64).sz (.slice q2 data0.length c_data0) data0.length q0f])] mixed (by kernel_rfl) ((hS.pull 2).pull 1) ?_ ?_
    ·refine ⟨?_, ?_, ?_, ?_, ?_, ?_, ?_, ?_, ?_, ?_, ?_, ?_, ?_, ?_, ?_, ?_, ?_, ?_, trivial⟩
     ·intro Ep11 w l' hE11 hO11 hF_ hS
      refine p (yl_move ((hE11 0 rfl).trans q27)) <| x_done <| ?_
      refine x_fin ⟨⟨_, rfl⟩, rfl, ?_⟩
      exact emk hS
     ·intro Ep11 w l' hE11 hO11 hF_ hS
      refine p (yl_move ((hE11 13 rfl).trans q12)) <| x_done <| ?_
      refine x_fin ⟨⟨_, rfl⟩, rfl, ?_⟩
      exact emk hS
     ·intro Ep11 w l' hE11 hO11 hF_ hS
      refine p (yl_move ((hE11 0 rfl).trans q27)) <| x_done <| ?_
      refine x_fin ⟨⟨_, rfl⟩, rfl, ?_⟩
      exact emk hS
     ·intro Ep11 w l' hE11 hO11 hF_ hS
      refine p (yl_move ((hE11 13 rfl).trans q12)) <| x_done <| ?_
      refine x_fin ⟨⟨_, rfl⟩, rfl, ?_⟩
      exact emk hS
     ·intro Ep11 w l' hE11 hO11 hF_ hS
      obtain ⟨q2f, -⟩ := hF_
      replace q2f : Ep11 64 = .int .i64 q9 := emk q2f
      refine p (yadd q2f rfl hx65) <| x_done <| ?_
      refine x_fin ⟨⟨_, rfl⟩, rfl, ?_⟩
      exact emk hS
     ·intro Ep11 w l' hE11 hO11 hF_ hS
      refine p (yl_move ((hE11 0 rfl).trans q27)) <| x_done <| ?_
      refine x_fin ⟨⟨_, rfl⟩, rfl, ?_⟩
      exact emk hS
     ·intro Ep11 w l' hE11 hO11 hF_ hS
      refine p (yl_move ((hE11 13 rfl).trans q12)) <| x_done <| ?_
      refine x_fin ⟨⟨_, rfl⟩, rfl, ?_⟩
      exact emk hS
     ·intro Ep11 w l' hE11 hO11 hF_ hS
      obtain ⟨q2g, -⟩ := hF_
      replace q2g : Ep11 67 = .int .i64 q9 := emk q2g
      refine p (yadd q2g rfl hx68) <| x_done <| ?_
      refine x_fin ⟨⟨_, rfl⟩, rfl, ?_⟩
      exact emk hS
     ·intro Ep11 w l' hE11 hO11 hF_ hS
      obtain ⟨q2h, q2i, -⟩ := hF_
      replace q2h : Ep11 66 = .slice q2 data0.length c_data0 := emk q2h
      replace q2i : Ep11 68 = .int .i64 x68 := emk q2i
      replace hS : St w0 w (vec 3 (RpI .i64).sz (.slice q2 data0.length c_data0) data0.length q0c :: l') := emk hS
      refine p (yix_o sl_22 q2h q2i hS q0k q46) <| x_done <| ?_
      refine x_fin ⟨⟨_, rfl⟩, rfl, ?_⟩
      exact emk hS
     ·intro Ep11 w l' hE11 hO11 hF_ hS
      obtain ⟨q2j, -⟩ := hF_
      replace q2j : Ep11 69 = .pointer (some ((adr q2).add (x68.toNat * (RpI .i64).sz))) := emk q2j
      replace hS : St w0 w (vec 3 (RpI .i64).sz (.slice q2 data0.length c_data0) data0.length q0c :: l') := emk hS
      refine pa (at_load one_3 q2j (RepL.getW q0k hS q46 hx70)) <| x_done <| ?_
      refine x_fin ⟨⟨_, rfl⟩, rfl, ?_⟩
      exact emk hS
     ·intro Ep11 w l' hE11 hO11 hF_ hS
      refine p (yl_move ((hE11 0 rfl).trans q27)) <| x_done <| ?_
      refine x_fin ⟨⟨_, rfl⟩, rfl, ?_⟩
      exact emk hS
     ·intro Ep11 w l' hE11 hO11 hF_ hS
      refine p (yl_move ((hE11 13 rfl).trans q12)) <| x_done <| ?_
      refine x_fin ⟨⟨_, rfl⟩, rfl, ?_⟩
      exact emk hS
     ·intro Ep11 w l' hE11 hO11 hF_ hS
      obtain ⟨q1c, q1d, -⟩ := hF_
      replace q1c : Ep11 71 = .slice q2 data0.length c_data0 := emk q1c
      replace q1d : Ep11 72 = .int .i64 q9 := emk q1d
      replace hS : St w0 w (vec 3 (RpI .i64).sz (.slice q2 data0.length c_data0) data0.length q0c :: l') := emk hS
      refine p (yix_o sl_22 q1c q1d hS q0k q3w) <| x_done <| ?_
      refine x_fin ⟨⟨_, rfl⟩, rfl, ?_⟩
      exact emk hS
     ·intro Ep11 w l' hE11 hO11 hF_ hS
      obtain ⟨q1e, -⟩ := hF_
      replace q1e : Ep11 73 = .pointer (some ((adr q2).add (q9.toNat * (RpI .i64).sz))) := emk q1e
      replace hS : St w0 w (vec 3 (RpI .i64).sz (.slice q2 data0.length c_data0) data0.length q0c :: l') := emk hS
      refine pa (at_load one_3 q1e (RepL.getW q0k hS q3w hx74)) <| x_done <| ?_
      refine x_fin ⟨⟨_, rfl⟩, rfl, ?_⟩
      exact emk hS
     ·intro Ep11 w l' hE11 hO11 hF_ hS
      obtain ⟨q2k, q2l, -⟩ := hF_
      replace q2k : Ep11 61 = .slice q2 data0.length c_data0 := emk q2k
      replace q2l : Ep11 62 = .int .i64 q9 := emk q2l
      replace hS : St w0 w (vec 3 (RpI .i64).sz (.slice q2 data0.length c_data0) data0.length q0c :: l') := emk hS
      refine p (yix_o sl_22 q2k q2l hS q0k q3x) <| x_done <| ?_
      refine x_fin ⟨⟨_, rfl⟩, rfl, ?_⟩
      exact emk hS
     ·intro Ep11 w l' hE11 hO11 hF_ hS
      obtain ⟨q2m, q1f, -⟩ := hF_
      replace q2m : Ep11 70 = .int .i64 x70 := emk q2m
      replace q1f : Ep11 75 = .pointer (some ((adr q2).add (q9.toNat * (RpI .i64).sz))) := emk q1f
      replace hS : St w0 w (vec 3 (RpI .i64).sz (.slice q2 data0.length c_data0) data0.length q0c :: l') := emk hS
      refine o_put' (news := [.int .i64 x70]) sz_3 q1f q2m rfl rfl (o := 0) rfl q3x rfl hS q0k (Le.refl _) (fun c hc => ok_all hc (show (RpI .i64).ok ρ [.int .i64 x70] x70 from rfl)) q4s (fun q7 w' q13 hS => ?_)
      refine x_done <| ?_
      refine x_fin ⟨⟨undef, rfl⟩, trivial, ?_⟩
      replace hS := St.bun (Φ := (fun (q7 : List Value) => RepL (RpI .i64) ρ q28 q7)) (L := (fun (q7 : List Value) => [vec 3 (RpI .i64).sz (.slice q2 data0.length c_data0) data0.length q7])) q7 q13 hS
      exact emk hS
     ·intro Ep11 w l' hE11 hO11 hF_ hS
      obtain ⟨q2n, q2o, -⟩ := hF_
      replace q2n : Ep11 63 = .slice q2 data0.length c_data0 := emk q2n
      replace q2o : Ep11 65 = .int .i64 x65 := emk q2o
      replace hS : St w0 w (ro ρ :: bunA (fun (q7 : List Value) => RepL (RpI .i64) ρ q28 q7) (fun (q7 : List Value) => [vec 3 (RpI .i64).sz (.slice q2 data0.length c_data0) data0.length q7]) :: l') := emk hS
      have q_ := St.unbun (hS.pull 1); obtain ⟨q7, q13, hS⟩ := q_
      refine p (yix_o sl_22 q2n q2o hS q13 q3y) <| x_done <| ?_
      refine x_fin ⟨⟨_, rfl⟩, rfl, ?_⟩
      replace hS := St.bun (Φ := (fun (q7 : List Value) => RepL (RpI .i64) ρ q28 q7)) (L := (fun (q7 : List Value) => [vec 3 (RpI .i64).sz (.slice q2 data0.length c_data0) data0.length q7])) q7 q13 hS
      exact emk (hS.pull 1)
     ·intro Ep11 w l' hE11 hO11 hF_ hS
      obtain ⟨q1g, q1h, -⟩ := hF_
      replace q1g : Ep11 74 = .int .i64 x74 := emk q1g
      replace q1h : Ep11 76 = .pointer (some ((adr q2).add (x65.toNat * (RpI .i64).sz))) := emk q1h
      replace hS : St w0 w (ro ρ :: bunA (fun (q7 : List Value) => RepL (RpI .i64) ρ q28 q7) (fun (q7 : List Value) => [vec 3 (RpI .i64).sz (.slice q2 data0.length c_data0) data0.length q7]) :: l') := emk hS
      have q_ := St.unbun (hS.pull 1); obtain ⟨q7, q13, hS⟩ := q_
      refine o_put' (news := [.int .i64 x74]) sz_3 q1h q1g rfl rfl (o := 0) rfl q3y rfl hS q13 (Le.refl _) (fun c hc => ok_all hc (show (RpI .i64).ok ρ [.int .i64 x74] x74 from rfl)) q4t (fun q0f w' q3d hS => ?_)
      refine x_done <| ?_
      refine x_fin ⟨⟨undef, rfl⟩, trivial, ?_⟩
      replace hS := St.bun (Φ := (fun (q0f : List Value) => RepL (RpI .i64) ρ q39 q0f)) (L := (fun (q0f : List Value) => [vec 3 (RpI .i64).sz (.slice q2 data0.length c_data0) data0.length q0f])) q0f q3d hS
      exact emk (hS.pull 1)
    intro Ep11 w' hE11 hF_ hS
    obtain ⟨q2k, q2l, q2n, q2f, q2o, q2h, q2g, q2i, q2j, q2m, q1c, q1d, q1e, q1g, q1f, q1h, -⟩ := hF_
    replace q2k : Ep11 61 = .slice q2 data0.length c_data0 := emk q2k
    replace q2l : Ep11 62 = .int .i64 q9 := emk q2l
    replace q2n : Ep11 63 = .slice q2 data0.length c_data0 := emk q2n
    replace q2f : Ep11 64 = .int .i64 q9 := emk q2f
    replace q2o : Ep11 65 = .int .i64 x65 := emk q2o
    replace q2h : Ep11 66 = .slice q2 data0.length c_data0 := emk q2h
    replace q2g : Ep11 67 = .int .i64 q9 := emk q2g
    replace q2i : Ep11 68 = .int .i64 x68 := emk q2i
    replace q2j : Ep11 69 = .pointer (some ((adr q2).add (x68.toNat * (RpI .i64).sz))) := emk q2j
    replace q2m : Ep11 70 = .int .i64 x70 := emk q2m
    replace q1c : Ep11 71 = .slice q2 data0.length c_data0 := emk q1c
    replace q1d : Ep11 72 = .int .i64 q9 := emk q1d
    replace q1e : Ep11 73 = .pointer (some ((adr q2).add (q9.toNat * (RpI .i64).sz))) := emk q1e
    replace q1g : Ep11 74 = .int .i64 x74 := emk q1g
    replace q1f : Ep11 75 = .pointer (some ((adr q2).add (q9.toNat * (RpI .i64).sz))) := emk q1f
    replace q1h : Ep11 76 = .pointer (some ((adr q2).add (x65.toNat * (RpI .i64).sz))) := emk q1h
    replace hS : St w0 w' (ro ρ :: bunA (fun (q0f : List Value) => RepL (RpI .i64) ρ q39 q0f) (fun (q0f : List Value) => [vec 3 (RpI .i64).sz (.slice q2 data0.length c_data0) data0.length q0f]) :: (cells q3 22 [.slice q4 q5.length c_cmp4_0_0] :: l)) := emk hS
    have q_ := St.unbun (hS.pull 1); obtain ⟨q0f, q3d, hS⟩ := q_
    replace hFL9 := ar_s hFL9; obtain ⟨x60, hx60, hFL9⟩ := hFL9
    refine x_blk <| x_region <| p (yl_move ((hE11 13 rfl).trans q12)) <| p (yadd rfl rfl hx60) <|
     p (yl_assign rfl) <| x_done <| ?_
    have e_ := sinj hFL9; subst e_
    exact x_inv ⟨kL9, Nat.lt_succ_self _, q0f, q39, x60, hLL9, ((hE11 0 rfl).trans q27), ((hE11 10 rfl).trans q3v), rfl, q3d, (((hS.pull 1).pull 2).pull 2)⟩
   ·replace hFL9 := it_f hc58 hFL9
    refine x_exitTo _ rfl <| ?_
    have e_ := sinj hFL9; subst e_
    exact x_inv ⟨q0c, q19, hLL9, q0k, (((hS.pull 2).pull 1).pull 2)⟩
  rintro E w ⟨q0q, q1a, rfl, q3m, hS⟩
  have e_ := sinj hF; subst e_
  exact x_return ⟨_, rfl, q0q, rfl, q3m, (((hS.pull 2).pull 2).pull 2)⟩
 ·replace hF := it_f hc28 hF
  replace hF := ar_s hF; obtain ⟨x79, hx79, hF⟩ := hF
  refine x_skip <| x_seq <| x_seq <| x_region <|
   p (yl_move rfl) <| p (yl_move rfl) <| p (ysub rfl rfl hx79) <| p (yl_eql rfl rfl) <|
   x_done <|
   x_cond_p (x79 = 1) rfl (fun hc80 => ?_) (fun hc80 => ?_)
  ·replace hF := it_t hc80 hF
   refine x_seq <| x_region <| p (yl_move rfl) <| p (yl_assign rfl) <|
    x_done <| x_seq <| x_region <| p (yl_move rfl) <|
    p (yl_assign rfl) <| x_done <| x_seq <| ?_
   replace hF := bd_s hF; obtain ⟨oL15, hLL15, hF⟩ := hF
   refine x_join (fun E w => ∃ (q14 : Int), q14 = oL15 ∧ E 0 = .slice q2 data0.length c_data0 ∧ E 2 = .int .i64 m2 ∧ E 14 = .int .i64 q14 ∧ St w0 w (vec 3 (RpI .i64).sz (.slice q2 data0.length c_data0) data0.length q0b :: cells q3 22 [.slice q4 q5.length c_cmp4_0_0] :: ro ρ :: l)) ?_ ?_
   ·refine x_block ?_
    refine x_loop (fun k_ E w => ∃ (q0v : Int) (q16 : Int), lp (P_slices_symMergeCmpFunc_int_3_L15 data0 m2 q5) k_ (q0v, q16) = some oL15 ∧ E 0 = .slice q2 data0.length c_data0 ∧ E 2 = .int .i64 m2 ∧ E 4 = .func (.func 47) #[] #[.pointer (some ⟨q3, 0, none⟩)] ∧ E 14 = .int .i64 q0v ∧ E 15 = .int .i64 q16 ∧ St w0 w (vec 3 (RpI .i64).sz (.slice q2 data0.length c_data0) data0.length q0b :: cells q3 22 [.slice q4 q5.length c_cmp4_0_0] :: ro ρ :: l)) fuel ⟨a1, m2, hLL15, rfl, rfl, rfl, rfl, rfl, (((hS.pull 2).pull 2).pull 2)⟩ ?_
    rintro kL15 E w ⟨q0v, q16, hLL15, q1i, q2p, q3e, q1s, q31, hS⟩
    replace hLL15 := lp_s hLL15; obtain ⟨kL15, obL15, rfl, hFL15, hLL15⟩ := hLL15
    refine x_seq <| x_seq <| x_region <| p (yl_move q1s) <|
     p (yl_move q31) <| p (yl_lss rfl rfl) <| x_done <|
     x_cond_p (q0v < q16) rfl (fun hc85 => ?_) (fun hc85 => ?_)
    ·replace hFL15 := it_t hc85 hFL15
     replace hFL15 := ar_s hFL15; obtain ⟨x88, hx88, hFL15⟩ := hFL15
     replace hFL15 := lv_s hFL15; obtain ⟨x89, hx89, hFL15⟩ := hFL15
     replace hFL15 := ck_s hFL15; obtain ⟨q5i, hFL15⟩ := hFL15
     replace hFL15 := lv_s hFL15; obtain ⟨x90, hx90, hFL15⟩ := hFL15
     replace hFL15 := ar_s hFL15; obtain ⟨x91, hx91, hFL15⟩ := hFL15
     replace hFL15 := ck_s hFL15; obtain ⟨q47, hFL15⟩ := hFL15
     replace hFL15 := lv_s hFL15; obtain ⟨x96, hx96, hFL15⟩ := hFL15
     replace hFL15 := ck_s hFL15; obtain ⟨q48, hFL15⟩ := hFL15
     replace hFL15 := lv_s hFL15; obtain ⟨x100, hx100, hFL15⟩ := hFL15
     refine x_skip <| x_block <| x_seq <| x_region <|
      p (yl_move q1s) <| p (yl_move q31) <| p (yadd rfl rfl hx88) <| p (yconvu wm_u64 uk_3 ik_153 rfl hx89) <|
      p (yshr rfl rfl q5i hx90) <| p (yconvi uk_153 ik_3 rfl hx91) <| p (yl_assign rfl) <| x_done <|
      x_seq <| x_head 9 mixed (by kernel_rfl) hS _ _ rfl rfl <| q (yl_move q3e) <| q (yl_move q1i) <|
      q (yl_move q2p) <| q (yix_o sl_22 rfl rfl hS q0e q47) <| qa (fun w' hS => at_load one_3 rfl (RepL.getW q0e hS q47 hx96)) <| q (yl_move q1i) <|
      q (yl_move rfl) <| q (yix_o sl_22 rfl rfl hS q0e q48) <| qa (fun w' hS => at_load one_3 rfl (RepL.getW q0e hS q48 hx100)) <|
      q_done fun w' hS => ?_
     replace hFL15 := bd_s hFL15; obtain ⟨q5w, q5j, hFL15⟩ := hFL15
     have hcall := c_legal_tight_1 q5j q0i ((hS.pull 2).pull 2)
     refine o_ccv rfl call_47 (capargs (args2 rfl rfl)) ((Calls.mono hcall (fun e w'' h => And.intro h.1 (((h.2.pull 1).pull 1).pull 2)))) ?_
     rintro e w' ⟨rfl, hS⟩
     refine ⟨_, rfl, ?_⟩
     refine p (yl_lss rfl rfl) <| p (yl_not rfl) <| x_done <| ?_
     replace hFL15 := bd_s hFL15; obtain ⟨oc103, hFc103, hFL15⟩ := hFL15
     refine x_join (fun E w => ∃ (q1t : Int) (q1u : Int), (q1t, q1u) = oc103 ∧ E 0 = .slice q2 data0.length c_data0 ∧ E 2 = .int .i64 m2 ∧ E 4 = .func (.func 47) #[] #[.pointer (some ⟨q3, 0, none⟩)] ∧ E 14 = .int .i64 q1t ∧ E 15 = .int .i64 q1u ∧ St w0 w (vec 3 (RpI .i64).sz (.slice q2 data0.length c_data0) data0.length q0b :: cells q3 22 [.slice q4 q5.length c_cmp4_0_0] :: ro ρ :: l)) ?_ ?_
     ·refine x_cond (t := !(decide (q5w < 0))) rfl (fun hc103 => ?_) (fun hc103 => ?_)
      ·replace hFc103 := it_t hc103 hFc103
       replace hFc103 := ar_s hFc103; obtain ⟨x105, hx105, hFc103⟩ := hFc103
       refine x_region <| p (yl_move rfl) <| p (yadd rfl rfl hx105) <| p (yl_assign rfl) <|
        x_done <| ?_
       exact x_inv ⟨x105, q16, (sinj hFc103), q1i, q2p, q3e, rfl, q31, (((hS.pull 2).pull 2).pull 2)⟩
      ·replace hFc103 := it_bf hc103 hFc103
       refine x_region <| p (yl_move rfl) <| p (yl_assign rfl) <| x_done <| ?_
       exact x_inv ⟨q0v, x91, (sinj hFc103), q1i, q2p, q3e, q1s, rfl, (((hS.pull 2).pull 2).pull 2)⟩
     rintro E w ⟨q1t, q1u, rfl, q4u, q4v, q4w, q4e, q4f, hS⟩
     refine x_blk <| ?_
     have e_ := sinj hFL15; subst e_
     exact x_inv ⟨kL15, Nat.lt_succ_self _, q1t, q1u, hLL15, q4u, q4v, q4w, q4e, q4f, (((hS.pull 2).pull 2).pull 2)⟩
    ·replace hFL15 := it_f hc85 hFL15
     refine x_exitTo _ rfl <| ?_
     have e_ := sinj hFL15; subst e_
     exact x_inv ⟨q0v, hLL15, q1i, q2p, q1s, (((hS.pull 2).pull 2).pull 2)⟩
   rintro E w ⟨q14, rfl, q5k, q5l, q4x, hS⟩
   refine x_seq <| x_seq <| x_region <| p (yl_move q5l) <|
    p (yl_assign rfl) <| x_done <| ?_
   replace hF := bd_s hF; obtain ⟨oL21, hLL21, hF⟩ := hF
   refine x_join (fun E w => ∃ (q0p : List Value) (q17 : List Int), q17 = oL21 ∧ RepL (RpI .i64) ρ q17 q0p ∧ St w0 w (cells q3 22 [.slice q4 q5.length c_cmp4_0_0] :: vec 3 (RpI .i64).sz (.slice q2 data0.length c_data0) data0.length q0p :: ro ρ :: l)) ?_ ?_
   ·refine x_block ?_
    refine x_loop (fun k_ E w => ∃ (q0a : List Value) (q0y : List Int) (q6 : Int), lp (P_slices_symMergeCmpFunc_int_3_L21 q14) k_ (q0y, q6) = some oL21 ∧ E 0 = .slice q2 data0.length c_data0 ∧ E 14 = .int .i64 q14 ∧ E 17 = .int .i64 q6 ∧ RepL (RpI .i64) ρ q0y q0a ∧ St w0 w (vec 3 (RpI .i64).sz (.slice q2 data0.length c_data0) data0.length q0a :: cells q3 22 [.slice q4 q5.length c_cmp4_0_0] :: ro ρ :: l)) fuel ⟨q0b, data0, m2, hLL21, q5k, q4x, rfl, q0e, (((hS.pull 2).pull 2).pull 2)⟩ ?_
    rintro kL21 E w ⟨q0a, q0y, q6, hLL21, q1j, q3o, q0w, q0h, hS⟩
    replace hLL21 := lp_s hLL21; obtain ⟨kL21, obL21, rfl, hFL21, hLL21⟩ := hLL21
    refine x_seq <| x_seq <| x_region <| p (yl_move q0w) <|
     p (yl_move q3o) <| p (yl_gtr rfl rfl) <| x_done <|
     x_cond_p (q14 < q6) rfl (fun hc110 => ?_) (fun hc110 => ?_)
    ·replace hFL21 := it_t hc110 hFL21
     refine x_skip <| x_seq <| x_block <| ?_
     replace hFL21 := ar_s hFL21; obtain ⟨x117, hx117, hFL21⟩ := hFL21
     replace hFL21 := ar_s hFL21; obtain ⟨x120, hx120, hFL21⟩ := hFL21
     replace hFL21 := ck_s hFL21; obtain ⟨q49, hFL21⟩ := hFL21
     replace hFL21 := lv_s hFL21; obtain ⟨x122, hx122, hFL21⟩ := hFL21
     replace hFL21 := ck_s hFL21; obtain ⟨q3z, hFL21⟩ := hFL21
     replace hFL21 := lv_s hFL21; obtain ⟨x126, hx126, hFL21⟩ := hFL21
     replace hFL21 := ck_s hFL21; obtain ⟨q40, hFL21⟩ := hFL21
     replace hFL21 := lv_s hFL21; obtain ⟨q29, q4y, hFL21⟩ := hFL21
     replace hFL21 := ck_s hFL21; obtain ⟨q41, hFL21⟩ := hFL21
     replace hFL21 := lv_s hFL21; obtain ⟨q3a, q4z, hFL21⟩ := hFL21
     refine x_par (w0 := w0) [⟨[], [], [113], [], [], []⟩, ⟨[], [], [114], [], [], []⟩, ⟨[], [], [115], [], [], []⟩, ⟨[], [], [116], [], [], []⟩, ⟨[3], [3], [117], [], [], []⟩, ⟨[], [], [118], [], [], []⟩, ⟨[], [], [119], [], [], []⟩, ⟨[6], [6], [120], [], [], []⟩, ⟨[5, 6, 7], [5, 7], [121], [0], [], []⟩, ⟨[5, 6, 7, 8], [8], [122], [0], [], []⟩, ⟨[], [], [123], [], [], []⟩, ⟨[], [], [124], [], [], []⟩, ⟨[10, 11], [10, 11], [125], [0], [], []⟩, ⟨[10, 11, 12], [12], [126], [0], [], []⟩, ⟨[0, 1, 5, 6, 7, 8, 9, 10, 11, 12, 13], [0, 1], [127], [0], [], []⟩, ⟨[0, 1, 5, 6, 7, 8, 9, 10, 11, 12, 13, 14], [9, 14], [], [], [0], [1]⟩, ⟨[0, 1, 2, 3, 4, 5, 6, 7, 8, 9, 10, 11, 12, 13, 14, 15], [2, 4], [128], [2, 1], [], []⟩, ⟨[0, 1, 2, 3, 4, 5, 6, 7, 8, 9, 10, 11, 12, 13, 14, 15, 16], [13, 16], [], [2], [1], [3]⟩] [⟨none, (some 15), []⟩, ⟨(some 15), (some 17), []⟩, ⟨none, none, []⟩, ⟨(some 17), none, []⟩] [113, 114, 115, 116, 117, 118, 119, 120, 121, 122, 123, 124, 125, 126, 127, 128] [0, 2] [2, 3] [0, 1, 2, 3, 4, 5, 6, 7, 8, 9, 10, 11, 12, 13, 14, 16] [fun Ep23 => Ep23 113 = .slice q2 data0.length c_data0, fun Ep23 => Ep23 114 = .int .i64 q6, fun Ep23 => Ep23 115 = .slice q2 data0.length c_data0, fun Ep23 => Ep23 116 = .int .i64 q6, fun Ep23 => Ep23 117 = .int .i64 x117, fun Ep23 => Ep23 118 = .slice q2 data0.length c_data0, fun Ep23 => Ep23 119 = .int .i64 q6, fun Ep23 => Ep23 120 = .int .i64 x120, fun Ep23 => Ep23 121 = .pointer (some ((adr q2).add (x120.toNat * (RpI .i64).sz))), fun Ep23 => Ep23 122 = .int .i64 x122, fun Ep23 => Ep23 123 = .slice q2 data0.length c_data0, fun Ep23 => Ep23 124 = .int .i64 q6, fun Ep23 => Ep23 125 = .pointer (some ((adr q2).add (q6.toNat * (RpI .i64).sz))), fun Ep23 => Ep23 126 = .int .i64 x126, fun Ep23 => Ep23 127 = .pointer (some ((adr q2).add (q6.toNat * (RpI .i64).sz))), fun Ep23 => True, fun Ep23 => Ep23 128 = .pointer (some ((adr q2).add (x117.toNat * (RpI .i64).sz))), fun Ep23 => True] [fun Ep23 => vec 3 (RpI .i64).sz (.slice q2 data0.length c_data0) data0.length q0a, fun Ep23 => bunA (fun (q8 : List Value) => RepL (RpI .i64) ρ q29 q8) (fun (q8 : List Value) => [vec 3 (RpI .i64).sz (.slice q2 data0.length c_data0) data0.length q8]), fun Ep23 => ro ρ, fun Ep23 => bunA (fun (q0g : List Value) => RepL (RpI .i64) ρ q3a q0g) (fun (q0g : List Value) => [vec 3 (RpI .i64).sz (.slice q2 data0.length c_data0) data0.length q0g])] mixed (by kernel_rfl) ((hS.pull 2).pull 1) ?_ ?_
     ·refine ⟨?_, ?_, ?_, ?_, ?_, ?_, ?_, ?_, ?_, ?_, ?_, ?_, ?_, ?_, ?_, ?_, ?_, ?_, trivial⟩
      ·intro Ep23 w l' hE23 hO23 hF_ hS
       refine p (yl_move ((hE23 0 rfl).trans q1j)) <| x_done <| ?_
       refine x_fin ⟨⟨_, rfl⟩, rfl, ?_⟩
       exact emk hS
      ·intro Ep23 w l' hE23 hO23 hF_ hS
       refine p (yl_move ((hE23 17 rfl).trans q0w)) <| x_done <| ?_
       refine x_fin ⟨⟨_, rfl⟩, rfl, ?_⟩
       exact emk hS
      ·intro Ep23 w l' hE23 hO23 hF_ hS
       refine p (yl_move ((hE23 0 rfl).trans q1j)) <| x_done <| ?_
       refine x_fin ⟨⟨_, rfl⟩, rfl, ?_⟩
       exact emk hS
      ·intro Ep23 w l' hE23 hO23 hF_ hS
       refine p (yl_move ((hE23 17 rfl).trans q0w)) <| x_done <| ?_
       refine x_fin ⟨⟨_, rfl⟩, rfl, ?_⟩
       exact emk hS
      ·intro Ep23 w l' hE23 hO23 hF_ hS
       obtain ⟨q2q, -⟩ := hF_
       replace q2q : Ep23 116 = .int .i64 q6 := emk q2q
       refine p (ysub q2q rfl hx117) <| x_done <| ?_
       refine x_fin ⟨⟨_, rfl⟩, rfl, ?_⟩
       exact emk hS
      ·intro Ep23 w l' hE23 hO23 hF_ hS
       refine p (yl_move ((hE23 0 rfl).trans q1j)) <| x_done <| ?_
       refine x_fin ⟨⟨_, rfl⟩, rfl, ?_⟩
       exact emk hS
      ·intro Ep23 w l' hE23 hO23 hF_ hS
       refine p (yl_move ((hE23 17 rfl).trans q0w)) <| x_done <| ?_
       refine x_fin ⟨⟨_, rfl⟩, rfl, ?_⟩
       exact emk hS
      ·intro Ep23 w l' hE23 hO23 hF_ hS
       obtain ⟨q2r, -⟩ := hF_
       replace q2r : Ep23 119 = .int .i64 q6 := emk q2r
       refine p (ysub q2r rfl hx120) <| x_done <| ?_
       refine x_fin ⟨⟨_, rfl⟩, rfl, ?_⟩
       exact emk hS
      ·intro Ep23 w l' hE23 hO23 hF_ hS
       obtain ⟨q2s, q2t, -⟩ := hF_
       replace q2s : Ep23 118 = .slice q2 data0.length c_data0 := emk q2s
       replace q2t : Ep23 120 = .int .i64 x120 := emk q2t
       replace hS : St w0 w (vec 3 (RpI .i64).sz (.slice q2 data0.length c_data0) data0.length q0a :: l') := emk hS
       refine p (yix_o sl_22 q2s q2t hS q0h q49) <| x_done <| ?_
       refine x_fin ⟨⟨_, rfl⟩, rfl, ?_⟩
       exact emk hS
      ·intro Ep23 w l' hE23 hO23 hF_ hS
       obtain ⟨q2u, -⟩ := hF_
       replace q2u : Ep23 121 = .pointer (some ((adr q2).add (x120.toNat * (RpI .i64).sz))) := emk q2u
       replace hS : St w0 w (vec 3 (RpI .i64).sz (.slice q2 data0.length c_data0) data0.length q0a :: l') := emk hS
       refine pa (at_load one_3 q2u (RepL.getW q0h hS q49 hx122)) <| x_done <| ?_
       refine x_fin ⟨⟨_, rfl⟩, rfl, ?_⟩
       exact emk hS
      ·intro Ep23 w l' hE23 hO23 hF_ hS
       refine p (yl_move ((hE23 0 rfl).trans q1j)) <| x_done <| ?_
       refine x_fin ⟨⟨_, rfl⟩, rfl, ?_⟩
       exact emk hS
      ·intro Ep23 w l' hE23 hO23 hF_ hS
       refine p (yl_move ((hE23 17 rfl).trans q0w)) <| x_done <| ?_
       refine x_fin ⟨⟨_, rfl⟩, rfl, ?_⟩
       exact emk hS
      ·intro Ep23 w l' hE23 hO23 hF_ hS
       obtain ⟨q1k, q1l, -⟩ := hF_
       replace q1k : Ep23 123 = .slice q2 data0.length c_data0 := emk q1k
       replace q1l : Ep23 124 = .int .i64 q6 := emk q1l
       replace hS : St w0 w (vec 3 (RpI .i64).sz (.slice q2 data0.length c_data0) data0.length q0a :: l') := emk hS
       refine p (yix_o sl_22 q1k q1l hS q0h q3z) <| x_done <| ?_
       refine x_fin ⟨⟨_, rfl⟩, rfl, ?_⟩
       exact emk hS
      ·intro Ep23 w l' hE23 hO23 hF_ hS
       obtain ⟨q1m, -⟩ := hF_
       replace q1m : Ep23 125 = .pointer (some ((adr q2).add (q6.toNat * (RpI .i64).sz))) := emk q1m
       replace hS : St w0 w (vec 3 (RpI .i64).sz (.slice q2 data0.length c_data0) data0.length q0a :: l') := emk hS
       refine pa (at_load one_3 q1m (RepL.getW q0h hS q3z hx126)) <| x_done <| ?_
       refine x_fin ⟨⟨_, rfl⟩, rfl, ?_⟩
       exact emk hS
      ·intro Ep23 w l' hE23 hO23 hF_ hS
       obtain ⟨q2v, q2w, -⟩ := hF_
       replace q2v : Ep23 113 = .slice q2 data0.length c_data0 := emk q2v
       replace q2w : Ep23 114 = .int .i64 q6 := emk q2w
       replace hS : St w0 w (vec 3 (RpI .i64).sz (.slice q2 data0.length c_data0) data0.length q0a :: l') := emk hS
       refine p (yix_o sl_22 q2v q2w hS q0h q40) <| x_done <| ?_
       refine x_fin ⟨⟨_, rfl⟩, rfl, ?_⟩
       exact emk hS
      ·intro Ep23 w l' hE23 hO23 hF_ hS
       obtain ⟨q2x, q1n, -⟩ := hF_
       replace q2x : Ep23 122 = .int .i64 x122 := emk q2x
       replace q1n : Ep23 127 = .pointer (some ((adr q2).add (q6.toNat * (RpI .i64).sz))) := emk q1n
       replace hS : St w0 w (vec 3 (RpI .i64).sz (.slice q2 data0.length c_data0) data0.length q0a :: l') := emk hS
       refine o_put' (news := [.int .i64 x122]) sz_3 q1n q2x rfl rfl (o := 0) rfl q40 rfl hS q0h (Le.refl _) (fun c hc => ok_all hc (show (RpI .i64).ok ρ [.int .i64 x122] x122 from rfl)) q4y (fun q8 w' q15 hS => ?_)
       refine x_done <| ?_
       refine x_fin ⟨⟨undef, rfl⟩, trivial, ?_⟩
       replace hS := St.bun (Φ := (fun (q8 : List Value) => RepL (RpI .i64) ρ q29 q8)) (L := (fun (q8 : List Value) => [vec 3 (RpI .i64).sz (.slice q2 data0.length c_data0) data0.length q8])) q8 q15 hS
       exact emk hS
      ·intro Ep23 w l' hE23 hO23 hF_ hS
       obtain ⟨q2y, q2z, -⟩ := hF_
       replace q2y : Ep23 115 = .slice q2 data0.length c_data0 := emk q2y
       replace q2z : Ep23 117 = .int .i64 x117 := emk q2z
       replace hS : St w0 w (ro ρ :: bunA (fun (q8 : List Value) => RepL (RpI .i64) ρ q29 q8) (fun (q8 : List Value) => [vec 3 (RpI .i64).sz (.slice q2 data0.length c_data0) data0.length q8]) :: l') := emk hS
       have q_ := St.unbun (hS.pull 1); obtain ⟨q8, q15, hS⟩ := q_
       refine p (yix_o sl_22 q2y q2z hS q15 q41) <| x_done <| ?_
       refine x_fin ⟨⟨_, rfl⟩, rfl, ?_⟩
       replace hS := St.bun (Φ := (fun (q8 : List Value) => RepL (RpI .i64) ρ q29 q8)) (L := (fun (q8 : List Value) => [vec 3 (RpI .i64).sz (.slice q2 data0.length c_data0) data0.length q8])) q8 q15 hS
       exact emk (hS.pull 1)
      ·intro Ep23 w l' hE23 hO23 hF_ hS
       obtain ⟨q1o, q1p, -⟩ := hF_
       replace q1o : Ep23 126 = .int .i64 x126 := emk q1o
       replace q1p : Ep23 128 = .pointer (some ((adr q2).add (x117.toNat * (RpI .i64).sz))) := emk q1p
       replace hS : St w0 w (ro ρ :: bunA (fun (q8 : List Value) => RepL (RpI .i64) ρ q29 q8) (fun (q8 : List Value) => [vec 3 (RpI .i64).sz (.slice q2 data0.length c_data0) data0.length q8]) :: l') := emk hS
       have q_ := St.unbun (hS.pull 1); obtain ⟨q8, q15, hS⟩ := q_
       refine o_put' (news := [.int .i64 x126]) sz_3 q1p q1o rfl rfl (o := 0) rfl q41 rfl hS q15 (Le.refl _) (fun c hc => ok_all hc (show (RpI .i64).ok ρ [.int .i64 x126] x126 from rfl)) q4z (fun q0g w' q3f hS => ?_)
       refine x_done <| ?_
       refine x_fin ⟨⟨undef, rfl⟩, trivial, ?_⟩
       replace hS := St.bun (Φ := (fun (q0g : List Value) => RepL (RpI .i64) ρ q3a q0g)) (L := (fun (q0g : List Value) => [vec 3 (RpI .i64).sz (.slice q2 data0.length c_data0) data0.length q0g])) q0g q3f hS
       exact emk (hS.pull 1)
     intro Ep23 w' hE23 hF_ hS
     obtain ⟨q2v, q2w, q2y, q2q, q2z, q2s, q2r, q2t, q2u, q2x, q1k, q1l, q1m, q1o, q1n, q1p, -⟩ := hF_
     replace q2v : Ep23 113 = .slice q2 data0.length c_data0 := emk q2v
     replace q2w : Ep23 114 = .int .i64 q6 := emk q2w
     replace q2y : Ep23 115 = .slice q2 data0.length c_data0 := emk q2y
     replace q2q : Ep23 116 = .int .i64 q6 := emk q2q
     replace q2z : Ep23 117 = .int .i64 x117 := emk q2z
     replace q2s : Ep23 118 = .slice q2 data0.length c_data0 := emk q2s
     replace q2r : Ep23 119 = .int .i64 q6 := emk q2r
     replace q2t : Ep23 120 = .int .i64 x120 := emk q2t
     replace q2u : Ep23 121 = .pointer (some ((adr q2).add (x120.toNat * (RpI .i64).sz))) := emk q2u
     replace q2x : Ep23 122 = .int .i64 x122 := emk q2x
     replace q1k : Ep23 123 = .slice q2 data0.length c_data0 := emk q1k
     replace q1l : Ep23 124 = .int .i64 q6 := emk q1l
     replace q1m : Ep23 125 = .pointer (some ((adr q2).add (q6.toNat * (RpI .i64).sz))) := emk q1m
     replace q1o : Ep23 126 = .int .i64 x126 := emk q1o
     replace q1n : Ep23 127 = .pointer (some ((adr q2).add (q6.toNat * (RpI .i64).sz))) := emk q1n
     replace q1p : Ep23 128 = .pointer (some ((adr q2).add (x117.toNat * (RpI .i64).sz))) := emk q1p
     replace hS : St w0 w' (ro ρ :: bunA (fun (q0g : List Value) => RepL (RpI .i64) ρ q3a q0g) (fun (q0g : List Value) => [vec 3 (RpI .i64).sz (.slice q2 data0.length c_data0) data0.length q0g]) :: (cells q3 22 [.slice q4 q5.length c_cmp4_0_0] :: l)) := emk hS
     have q_ := St.unbun (hS.pull 1); obtain ⟨q0g, q3f, hS⟩ := q_
     replace hFL21 := ar_s hFL21; obtain ⟨x112, hx112, hFL21⟩ := hFL21
     refine x_blk <| x_region <| p (yl_move ((hE23 17 rfl).trans q0w)) <| p (ysub rfl rfl hx112) <|
      p (yl_assign rfl) <| x_done <| ?_
     have e_ := sinj hFL21; subst e_
     exact x_inv ⟨kL21, Nat.lt_succ_self _, q0g, q3a, x112, hLL21, ((hE23 0 rfl).trans q1j), ((hE23 14 rfl).trans q3o), rfl, q3f, (((hS.pull 1).pull 2).pull 2)⟩
    ·replace hFL21 := it_f hc110 hFL21
     refine x_exitTo _ rfl <| ?_
     have e_ := sinj hFL21; subst e_
     exact x_inv ⟨q0a, q0y, hLL21, q0h, (((hS.pull 2).pull 1).pull 2)⟩
   rintro E w ⟨q0p, q17, rfl, q3g, hS⟩
   have e_ := sinj hF; subst e_
   exact x_return ⟨_, rfl, q0p, rfl, q3g, (((hS.pull 2).pull 2).pull 2)⟩
  ·replace hF := it_f hc80 hF
   replace hF := ar_s hF; obtain ⟨x131, hx131, hF⟩ := hF
   replace hF := lv_s hF; obtain ⟨x132, hx132, hF⟩ := hF
   replace hF := ck_s hF; obtain ⟨q5m, hF⟩ := hF
   replace hF := lv_s hF; obtain ⟨x133, hx133, hF⟩ := hF
   replace hF := ar_s hF; obtain ⟨x134, hx134, hF⟩ := hF
   replace hF := ar_s hF; obtain ⟨x137, hx137, hF⟩ := hF
   refine x_skip <| x_seq <| x_region <| p (yl_move rfl) <|
    p (yl_move rfl) <| p (yadd rfl rfl hx131) <| p (yconvu wm_u64 uk_3 ik_153 rfl hx132) <| p (yshr rfl rfl q5m hx133) <|
    p (yconvi uk_153 ik_3 rfl hx134) <| p (yl_assign rfl) <| x_done <| x_seq <|
    x_region <| p (yl_move rfl) <| p (yl_move rfl) <| p (yadd rfl rfl hx137) <|
    p (yl_assign rfl) <| x_done <| x_seq <| x_region <|
    p (yl_assign rfl) <| p (yl_assign rfl) <| x_done <| x_seq <|
    x_seq <| x_region <| p (yl_move rfl) <| p (yl_move rfl) <|
    p (yl_gtr rfl rfl) <| x_done <| ?_
   replace hF := bd_s hF; obtain ⟨oc140, hFc140, hF⟩ := hF
   refine x_join (fun E w => ∃ (q0t : Int) (q1v : Int), (q0t, q1v) = oc140 ∧ E 0 = .slice q2 data0.length c_data0 ∧ E 1 = .int .i64 a1 ∧ E 2 = .int .i64 m2 ∧ E 3 = .int .i64 b3 ∧ E 4 = .func (.func 47) #[] #[.pointer (some ⟨q3, 0, none⟩)] ∧ E 18 = .int .i64 x134 ∧ E 19 = .int .i64 x137 ∧ E 20 = .int .i64 q0t ∧ E 21 = .int .i64 q1v ∧ St w0 w (vec 3 (RpI .i64).sz (.slice q2 data0.length c_data0) data0.length q0b :: cells q3 22 [.slice q4 q5.length c_cmp4_0_0] :: ro ρ :: l)) ?_ ?_
   ·refine x_cond_p (x134 < m2) rfl (fun hc140 => ?_) (fun hc140 => ?_)
    ·replace hFc140 := it_t hc140 hFc140
     replace hFc140 := ar_s hFc140; obtain ⟨x143, hx143, hFc140⟩ := hFc140
     refine x_seq <| x_region <| p (yl_move rfl) <| p (yl_move rfl) <|
      p (ysub rfl rfl hx143) <| p (yl_assign rfl) <| x_done <| x_region <|
      p (yl_move rfl) <| p (yl_assign rfl) <| x_done <| ?_
     exact x_inv ⟨x143, x134, (sinj hFc140), rfl, rfl, rfl, rfl, rfl, rfl, rfl, rfl, rfl, (((hS.pull 2).pull 2).pull 2)⟩
    ·replace hFc140 := it_f hc140 hFc140
     refine x_seq <| x_region <| p (yl_move rfl) <| p (yl_assign rfl) <|
      x_done <| x_region <| p (yl_move rfl) <| p (yl_assign rfl) <|
      x_done <| ?_
     exact x_inv ⟨a1, m2, (sinj hFc140), rfl, rfl, rfl, rfl, rfl, rfl, rfl, rfl, rfl, (((hS.pull 2).pull 2).pull 2)⟩
   rintro E w ⟨q0t, q1v, rfl, q50, q51, q52, q53, q54, q4g, q3p, q4h, q4i, hS⟩
   replace hF := ar_s hF; obtain ⟨x148, hx148, hF⟩ := hF
   refine x_seq <| x_region <| p (yl_move q3p) <| p (ysub rfl rfl hx148) <|
    p (yl_assign rfl) <| x_done <| x_seq <| ?_
   replace hF := bd_s hF; obtain ⟨oL33, hLL33, hF⟩ := hF
   refine x_join (fun E w => ∃ (q0d : Int), q0d = oL33 ∧ E 0 = .slice q2 data0.length c_data0 ∧ E 1 = .int .i64 a1 ∧ E 2 = .int .i64 m2 ∧ E 3 = .int .i64 b3 ∧ E 4 = .func (.func 47) #[] #[.pointer (some ⟨q3, 0, none⟩)] ∧ E 18 = .int .i64 x134 ∧ E 19 = .int .i64 x137 ∧ E 20 = .int .i64 q0d ∧ St w0 w (vec 3 (RpI .i64).sz (.slice q2 data0.length c_data0) data0.length q0b :: cells q3 22 [.slice q4 q5.length c_cmp4_0_0] :: ro ρ :: l)) ?_ ?_
   ·refine x_block ?_
    refine x_loop (fun k_ E w => ∃ (q0m : Int) (q18 : Int), lp (P_slices_symMergeCmpFunc_int_3_L33 data0 q5 x148) k_ (q0m, q18) = some oL33 ∧ E 0 = .slice q2 data0.length c_data0 ∧ E 1 = .int .i64 a1 ∧ E 2 = .int .i64 m2 ∧ E 3 = .int .i64 b3 ∧ E 4 = .func (.func 47) #[] #[.pointer (some ⟨q3, 0, none⟩)] ∧ E 18 = .int .i64 x134 ∧ E 19 = .int .i64 x137 ∧ E 20 = .int .i64 q0m ∧ E 21 = .int .i64 q18 ∧ E 22 = .int .i64 x148 ∧ St w0 w (vec 3 (RpI .i64).sz (.slice q2 data0.length c_data0) data0.length q0b :: cells q3 22 [.slice q4 q5.length c_cmp4_0_0] :: ro ρ :: l)) fuel ⟨q0t, q1v, hLL33, q50, q51, q52, q53, q54, q4g, q3p, q4h, q4i, rfl, (((hS.pull 2).pull 2).pull 2)⟩ ?_
    rintro kL33 E w ⟨q0m, q18, hLL33, q1q, q3h, q3i, q3j, q30, q32, q33, q1w, q34, q35, hS⟩
    replace hLL33 := lp_s hLL33; obtain ⟨kL33, obL33, rfl, hFL33, hLL33⟩ := hLL33
    refine x_seq <| x_seq <| x_region <| p (yl_move q1w) <|
     p (yl_move q34) <| p (yl_lss rfl rfl) <| x_done <|
     x_cond_p (q0m < q18) rfl (fun hc151 => ?_) (fun hc151 => ?_)
    ·replace hFL33 := it_t hc151 hFL33
     replace hFL33 := ar_s hFL33; obtain ⟨x154, hx154, hFL33⟩ := hFL33
     replace hFL33 := lv_s hFL33; obtain ⟨x155, hx155, hFL33⟩ := hFL33
     replace hFL33 := ck_s hFL33; obtain ⟨q5n, hFL33⟩ := hFL33
     replace hFL33 := lv_s hFL33; obtain ⟨x156, hx156, hFL33⟩ := hFL33
     replace hFL33 := ar_s hFL33; obtain ⟨x157, hx157, hFL33⟩ := hFL33
     replace hFL33 := ar_s hFL33; obtain ⟨x162, hx162, hFL33⟩ := hFL33
     replace hFL33 := ck_s hFL33; obtain ⟨q4a, hFL33⟩ := hFL33
     replace hFL33 := lv_s hFL33; obtain ⟨x164, hx164, hFL33⟩ := hFL33
     replace hFL33 := ck_s hFL33; obtain ⟨q4b, hFL33⟩ := hFL33
     replace hFL33 := lv_s hFL33; obtain ⟨x168, hx168, hFL33⟩ := hFL33
     refine x_skip <| x_block <| x_seq <| x_region <|
      p (yl_move q1w) <| p (yl_move q34) <| p (yadd rfl rfl hx154) <| p (yconvu wm_u64 uk_3 ik_153 rfl hx155) <|
      p (yshr rfl rfl q5n hx156) <| p (yconvi uk_153 ik_3 rfl hx157) <| p (yl_assign rfl) <| x_done <|
      x_seq <| x_head 11 mixed (by kernel_rfl) hS _ _ rfl rfl <| q (yl_move q30) <| q (yl_move q1q) <|
      q (yl_move q35) <| q (yl_move rfl) <| q (ysub rfl rfl hx162) <| q (yix_o sl_22 rfl rfl hS q0e q4a) <|
      qa (fun w' hS => at_load one_3 rfl (RepL.getW q0e hS q4a hx164)) <| q (yl_move q1q) <| q (yl_move rfl) <| q (yix_o sl_22 rfl rfl hS q0e q4b) <|
      qa (fun w' hS => at_load one_3 rfl (RepL.getW q0e hS q4b hx168)) <|
      q_done fun w' hS => ?_
     replace hFL33 := bd_s hFL33; obtain ⟨q5o, q55, hFL33⟩ := hFL33
     have hcall := c_legal_tight_1 q55 q0i ((hS.pull 2).pull 2)
     refine o_ccv rfl call_47 (capargs (args2 rfl rfl)) ((Calls.mono hcall (fun e w'' h => And.intro h.1 (((h.2.pull 1).pull 1).pull 2)))) ?_
     rintro e w' ⟨rfl, hS⟩
     refine ⟨_, rfl, ?_⟩
     refine p (yl_lss rfl rfl) <| p (yl_not rfl) <| x_done <| ?_
     replace hFL33 := bd_s hFL33; obtain ⟨oc171, hFc171, hFL33⟩ := hFL33
     refine x_join (fun E w => ∃ (q0u : Int) (q1x : Int), (q0u, q1x) = oc171 ∧ E 0 = .slice q2 data0.length c_data0 ∧ E 1 = .int .i64 a1 ∧ E 2 = .int .i64 m2 ∧ E 3 = .int .i64 b3 ∧ E 4 = .func (.func 47) #[] #[.pointer (some ⟨q3, 0, none⟩)] ∧ E 18 = .int .i64 x134 ∧ E 19 = .int .i64 x137 ∧ E 20 = .int .i64 q0u ∧ E 21 = .int .i64 q1x ∧ E 22 = .int .i64 x148 ∧ St w0 w (vec 3 (RpI .i64).sz (.slice q2 data0.length c_data0) data0.length q0b :: cells q3 22 [.slice q4 q5.length c_cmp4_0_0] :: ro ρ :: l)) ?_ ?_
     ·refine x_cond (t := !(decide (q5o < 0))) rfl (fun hc171 => ?_) (fun hc171 => ?_)
      ·replace hFc171 := it_t hc171 hFc171
       replace hFc171 := ar_s hFc171; obtain ⟨x173, hx173, hFc171⟩ := hFc171
       refine x_region <| p (yl_move rfl) <| p (yadd rfl rfl hx173) <| p (yl_assign rfl) <|
        x_done <| ?_
       exact x_inv ⟨x173, q18, (sinj hFc171), q1q, q3h, q3i, q3j, q30, q32, q33, rfl, q34, q35, (((hS.pull 2).pull 2).pull 2)⟩
      ·replace hFc171 := it_bf hc171 hFc171
       refine x_region <| p (yl_move rfl) <| p (yl_assign rfl) <| x_done <| ?_
       exact x_inv ⟨q0m, x157, (sinj hFc171), q1q, q3h, q3i, q3j, q30, q32, q33, q1w, rfl, q35, (((hS.pull 2).pull 2).pull 2)⟩
     rintro E w ⟨q0u, q1x, rfl, q56, q57, q58, q59, q5a, q4j, q4k, q4l, q4m, q4n, hS⟩
     refine x_blk <| ?_
     have e_ := sinj hFL33; subst e_
     exact x_inv ⟨kL33, Nat.lt_succ_self _, q0u, q1x, hLL33, q56, q57, q58, q59, q5a, q4j, q4k, q4l, q4m, q4n, (((hS.pull 2).pull 2).pull 2)⟩
    ·replace hFL33 := it_f hc151 hFL33
     refine x_exitTo _ rfl <| ?_
     have e_ := sinj hFL33; subst e_
     exact x_inv ⟨q0m, hLL33, q1q, q3h, q3i, q3j, q30, q32, q33, q1w, (((hS.pull 2).pull 2).pull 2)⟩
   rintro E w ⟨q0d, rfl, q3q, q4c, q3r, q4d, q3s, q42, q5b, q1r, hS⟩
   replace hF := ar_s hF; obtain ⟨x177, hx177, hF⟩ := hF
   replace hF := lv_s hF; obtain ⟨x185, hx185, hF⟩ := hF
   refine x_seq <| x_region <| p (yl_move q5b) <| p (yl_move q1r) <|
    p (ysub rfl rfl hx177) <| p (yl_assign rfl) <| x_done <| x_seq <|
    x_seq <| x_region <| p (yl_move q1r) <| p (yl_move q3r) <|
    p (yl_lss rfl rfl) <| p (yl_move rfl) <| pg (v := .int .i64 m2) 181 (c := decide (q0d < m2)) (says_t _) (fun hq => Yl.at (yl_move q3r)) <| pg (v := .int .i64 x177) 181 (c := decide (q0d < m2)) (says_t _) (fun hq => Yl.at (yl_move rfl)) <|
    pg (v := .bool (decide (m2 < x177))) 181 (c := decide (q0d < m2)) (says_t _) (fun hq => Yl.at (yl_lss (cv hq) (cv hq))) <| p (yand' rfl (fun hc => (cv hc)) rfl hx185) <| x_done <| ?_
   replace hF := bd_s hF; obtain ⟨oc185, hFc185, hF⟩ := hF
   refine x_join (fun E w => ∃ (q0r : List Value) (q0z : List Int), q0z = oc185 ∧ E 0 = .slice q2 data0.length c_data0 ∧ E 1 = .int .i64 a1 ∧ E 3 = .int .i64 b3 ∧ E 4 = .func (.func 47) #[] #[.pointer (some ⟨q3, 0, none⟩)] ∧ E 18 = .int .i64 x134 ∧ E 20 = .int .i64 q0d ∧ E 24 = .int .i64 x177 ∧ RepL (RpI .i64) ρ q0z q0r ∧ St w0 w (vec 3 (RpI .i64).sz (.slice q2 data0.length c_data0) data0.length q0r :: cells q3 22 [.slice q4 q5.length c_cmp4_0_0] :: ro ρ :: l)) ?_ ?_
   ·refine x_cond (t := x185) rfl (fun hc185 => ?_) (fun hc185 => ?_)
    ·replace hFc185 := it_t hc185 hFc185
     replace hFc185 := bd_s hFc185; obtain ⟨q5x, q5p, hFc185⟩ := hFc185
     refine x_region <| p (yl_move q3q) <| p (yl_move q1r) <| p (yl_move q3r) <|
      p (yl_move rfl) <| p (yl_move q3s) <| ?_
     have hcall := c_slices_rotateCmpFunc_int_3 q5p q0e q0i (((hS.pull 2).pull 2).pull 2)
     refine o_cc call_80 (args5 rfl rfl rfl rfl rfl) hcall ?_
     rintro e w' ⟨q1y, rfl, q22, hS⟩
     refine ⟨_, rfl, ?_⟩
     refine x_done <| ?_
     exact x_inv ⟨q1y, q5x, (sinj hFc185), q3q, q4c, q4d, q3s, q42, q1r, rfl, q22, (((hS.pull 2).pull 1).pull 2)⟩
    ·replace hFc185 := it_bf hc185 hFc185
     refine x_skip <| ?_
     exact x_inv ⟨q0b, data0, (sinj hFc185), q3q, q4c, q4d, q3s, q42, q1r, rfl, q0e, (((hS.pull 2).pull 2).pull 2)⟩
   rintro E w ⟨q0r, q0z, rfl, q3k, q43, q44, q3l, q1z, q36, q3t, q2a, hS⟩
   replace hF := lv_s hF; obtain ⟨x199, hx199, hF⟩ := hF
   refine x_seq <| x_seq <| x_region <| p (yl_move q43) <|
    p (yl_move q36) <| p (yl_lss rfl rfl) <| p (yl_move rfl) <| pg (v := .int .i64 q0d) 195 (c := decide (a1 < q0d)) (says_t _) (fun hq => Yl.at (yl_move q36)) <|
    pg (v := .int .i64 x134) 195 (c := decide (a1 < q0d)) (says_t _) (fun hq => Yl.at (yl_move q1z)) <| pg (v := .bool (decide (q0d < x134))) 195 (c := decide (a1 < q0d)) (says_t _) (fun hq => Yl.at (yl_lss (cv hq) (cv hq))) <| p (yand' rfl (fun hc => (cv hc)) rfl hx199) <| x_done <| ?_
   replace hF := bd_s hF; obtain ⟨oc199, hFc199, hF⟩ := hF
   refine x_join (fun E w => ∃ (q0s : List Value) (q10 : List Int), q10 = oc199 ∧ E 0 = .slice q2 data0.length c_data0 ∧ E 3 = .int .i64 b3 ∧ E 4 = .func (.func 47) #[] #[.pointer (some ⟨q3, 0, none⟩)] ∧ E 18 = .int .i64 x134 ∧ E 24 = .int .i64 x177 ∧ RepL (RpI .i64) ρ q10 q0s ∧ St w0 w (vec 3 (RpI .i64).sz (.slice q2 data0.length c_data0) data0.length q0s :: cells q3 22 [.slice q4 q5.length c_cmp4_0_0] :: ro ρ :: l)) ?_ ?_
   ·refine x_cond (t := x199) rfl (fun hc199 => ?_) (fun hc199 => ?_)
    ·replace hFc199 := it_t hc199 hFc199
     replace hFc199 := bd_s hFc199; obtain ⟨q5y, q5q, hFc199⟩ := hFc199
     refine x_region <| p (yl_move q3k) <| p (yl_move q43) <| p (yl_move q36) <|
      p (yl_move q1z) <| p (yl_move q3l) <| ?_
     have hcall := ih q5q q2a q0i (((hS.pull 2).pull 2).pull 2)
     refine o_cc call_72 (args5 rfl rfl rfl rfl rfl) hcall ?_
     rintro e w' ⟨q20, rfl, q23, hS⟩
     refine ⟨_, rfl, ?_⟩
     refine x_done <| ?_
     exact x_inv ⟨q20, q5y, (sinj hFc199), q3k, q44, q3l, q1z, q3t, q23, (((hS.pull 2).pull 1).pull 2)⟩
    ·replace hFc199 := it_bf hc199 hFc199
     refine x_skip <| ?_
     exact x_inv ⟨q0r, q0z, (sinj hFc199), q3k, q44, q3l, q1z, q3t, q2a, (((hS.pull 2).pull 2).pull 2)⟩
   rintro E w ⟨q0s, q10, rfl, q5c, q45, q5d, q3u, q37, q2b, hS⟩
   replace hF := lv_s hF; obtain ⟨x213, hx213, hF⟩ := hF
   refine x_seq <| x_region <| p (yl_move q3u) <| p (yl_move q37) <|
    p (yl_lss rfl rfl) <| p (yl_move rfl) <| pg (v := .int .i64 x177) 209 (c := decide (x134 < x177)) (says_t _) (fun hq => Yl.at (yl_move q37)) <| pg (v := .int .i64 b3) 209 (c := decide (x134 < x177)) (says_t _) (fun hq => Yl.at (yl_move q45)) <|
    pg (v := .bool (decide (x177 < b3))) 209 (c := decide (x134 < x177)) (says_t _) (fun hq => Yl.at (yl_lss (cv hq) (cv hq))) <| p (yand' rfl (fun hc => (cv hc)) rfl hx213) <| x_done <| ?_
   replace hF := bd_s hF; obtain ⟨oc213, hFc213, hF⟩ := hF
   refine x_join (fun E w => ∃ (q0o : List Value) (q0x : List Int), q0x = oc213 ∧ RepL (RpI .i64) ρ q0x q0o ∧ St w0 w (cells q3 22 [.slice q4 q5.length c_cmp4_0_0] :: vec 3 (RpI .i64).sz (.slice q2 data0.length c_data0) data0.length q0o :: ro ρ :: l)) ?_ ?_
   ·refine x_cond (t := x213) rfl (fun hc213 => ?_) (fun hc213 => ?_)
    ·replace hFc213 := it_t hc213 hFc213
     replace hFc213 := bd_s hFc213; obtain ⟨q5z, q5r, hFc213⟩ := hFc213
     refine x_region <| p (yl_move q5c) <| p (yl_move q3u) <| p (yl_move q37) <|
      p (yl_move q45) <| p (yl_move q5d) <| ?_
     have hcall := ih q5r q2b q0i (((hS.pull 2).pull 2).pull 2)
     refine o_cc call_72 (args5 rfl rfl rfl rfl rfl) hcall ?_
     rintro e w' ⟨q21, rfl, q24, hS⟩
     refine ⟨_, rfl, ?_⟩
     refine x_done <| ?_
     exact x_inv ⟨q21, q5z, (sinj hFc213), q24, (((hS.pull 2).pull 2).pull 2)⟩
    ·replace hFc213 := it_bf hc213 hFc213
     refine x_skip <| ?_
     exact x_inv ⟨q0s, q10, (sinj hFc213), q2b, (((hS.pull 2).pull 1).pull 2)⟩
   rintro E w ⟨q0o, q0x, rfl, q3b, hS⟩
   have e_ := sinj hF; subst e_
   exact x_fin ⟨_, rfl, q0o, rfl, q3b, (((hS.pull 2).pull 2).pull 2)⟩
theorem c_slices_symMergeCmpFunc_int_3_n : ∀ (n : Nat), ∀ {w0 w : World} {l : List Assn} {ρ : Heap} {q7 : Option Addr} {q3 : Nat} {c_data0 : Nat} {q8 : List Value} {q6 : Nat} {q4 : Option Addr} {q5 : Nat} {c_cmp4_0_0 : Nat} {data0 : List Int} {a1 : Int} {m2 : Int} {b3 : Int} {q9 : List Int} {r : List Int} (hF : rcf P_slices_symMergeCmpFunc_int_3_B n (data0, a1, m2, b3, q9) = some r) (q0b : RepL (RpI .i64) ρ data0 q8) (q0a : RdS (RpI .i64) ρ q4 q5 c_cmp4_0_0 q9) (hS : St w0 w (vec 3 (RpI .i64).sz (.slice q7 q3 c_data0) q3 q8 :: cells q6 22 [.slice q4 q5 c_cmp4_0_0] :: ro ρ :: l)),
  Calls Tryd.prog 72 #[.slice q7 q3 c_data0, .int .i64 a1, .int .i64 m2, .int .i64 b3, .func (.func 47) #[] #[.pointer (some ⟨q6, 0, none⟩)]] w fun e w' => ∃ (q2 : List Value), e = .returned (.tuple #[]) ∧ RepL (RpI .i64) ρ r q2 ∧ St w0 w' (cells q6 22 [.slice q4 q5 c_cmp4_0_0] :: vec 3 (RpI .i64).sz (.slice q7 q3 c_data0) q3 q2 :: ro ρ :: l)
 | 0 => by intros; rename_i hF _; cases (show none = some _ from by first | exact hF | assumption)
 | n + 1 => c_slices_symMergeCmpFunc_int_3_s (rcf P_slices_symMergeCmpFunc_int_3_B n) (c_slices_symMergeCmpFunc_int_3_n n)
theorem c_slices_symMergeCmpFunc_int_3 {w0 w : World} {l : List Assn} {ρ : Heap} {q7 : Option Addr} {q3 : Nat} {c_data0 : Nat} {q8 : List Value} {q6 : Nat} {q4 : Option Addr} {q5 : Nat} {c_cmp4_0_0 : Nat} {data0 : List Int} {a1 : Int} {m2 : Int} {b3 : Int} {q9 : List Int} {r : List Int} (hF : P_slices_symMergeCmpFunc_int_3 data0 a1 m2 b3 q9 = some r) (q0b : RepL (RpI .i64) ρ data0 q8) (q0a : RdS (RpI .i64) ρ q4 q5 c_cmp4_0_0 q9) (hS : St w0 w (vec 3 (RpI .i64).sz (.slice q7 q3 c_data0) q3 q8 :: cells q6 22 [.slice q4 q5 c_cmp4_0_0] :: ro ρ :: l)) :
  Calls Tryd.prog 72 #[.slice q7 q3 c_data0, .int .i64 a1, .int .i64 m2, .int .i64 b3, .func (.func 47) #[] #[.pointer (some ⟨q6, 0, none⟩)]] w fun e w' => ∃ (q2 : List Value), e = .returned (.tuple #[]) ∧ RepL (RpI .i64) ρ r q2 ∧ St w0 w' (cells q6 22 [.slice q4 q5 c_cmp4_0_0] :: vec 3 (RpI .i64).sz (.slice q7 q3 c_data0) q3 q2 :: ro ρ :: l) := c_slices_symMergeCmpFunc_int_3_n fuel hF q0b q0a hS
attribute [irreducible] P_slices_symMergeCmpFunc_int_3

def P_slices_stableCmpFunc_int_3_L2 (n1 : Int) (q5 : List Int) : (List Int × Int × Int) → Option ((List Int × Int × Int) ⊕ (List Int × Int)) := fun (q3, q4, q2) =>
 if q2 ≤ n1 then
  bd (P_slices_insertionSortCmpFunc_int_3 q3 q4 q2 q5) fun q6 =>
  ar (q2 + 20) fun x22 =>
  some (Sum.inl (q6, q2, x22))
 else
  some (Sum.inr (q3, q4))
def P_slices_stableCmpFunc_int_3_L9 (n1 : Int) (q6 : List Int) (q2 : Int) : (List Int × Int × Int) → Option ((List Int × Int × Int) ⊕ (List Int × Int)) := fun (q4, q5, q3) =>
 if q3 ≤ n1 then
  ar (q5 + q2) fun x40 =>
  bd (P_slices_symMergeCmpFunc_int_3 q4 q5 x40 q3 q6) fun q7 =>
  ar ((2 : Int) * q2) fun x47 =>
  ar (q3 + x47) fun x48 =>
  some (Sum.inl (q7, q3, x48))
 else
  some (Sum.inr (q4, q5))
def P_slices_stableCmpFunc_int_3_L7 (n1 : Int) (q4 : List Int) : (List Int × Int) → Option ((List Int × Int) ⊕ List Int) := fun (q3, q2) =>
 if q2 < n1 then
  ar ((2 : Int) * q2) fun x32 =>
  bd (
   lp (P_slices_stableCmpFunc_int_3_L9 n1 q4 q2) fuel (q3, 0, x32)) fun (q5, q7) =>
  ar (q7 + q2) fun x51 =>
  bd (
   if x51 < n1 then
    bd (P_slices_symMergeCmpFunc_int_3 q5 q7 x51 n1 q4) fun q8 =>
    some q8
   else
    some q5) fun q6 =>
  ar (q2 * 2) fun x62 =>
  some (Sum.inl (q6, x62))
 else
  some (Sum.inr q3)
def P_slices_stableCmpFunc_int_3 (data0 : List Int) (n1 : Int) (q2 : List Int) : Option (List Int) :=
 bd (
  lp (P_slices_stableCmpFunc_int_3_L2 n1 q2) fuel (data0, 0, 20)) fun (q4, q5) =>
 bd (P_slices_insertionSortCmpFunc_int_3 q4 q5 n1 q2) fun q6 =>
 bd (
  lp (P_slices_stableCmpFunc_int_3_L7 n1 q2) fuel (q6, 20)) fun q3 =>
 some q3
theorem c_slices_stableCmpFunc_int_3 {w0 w : World} {l : List Assn} {ρ : Heap} {q4 : Option Addr} {q0l : Nat} {c_data0 : Nat} {q11 : List Value} {q2 : Nat} {q5 : Option Addr} {q0m : Nat} {c_cmp2_0_0 : Nat} {data0 : List Int} {n1 : Int} {q6 : List Int} {r : List Int} (hF : P_slices_stableCmpFunc_int_3 data0 n1 q6 = some r) (q1l : RepL (RpI .i64) ρ data0 q11) (q9 : RdS (RpI .i64) ρ q5 q0m c_cmp2_0_0 q6) (hS : St w0 w (vec 3 (RpI .i64).sz (.slice q4 q0l c_data0) q0l q11 :: cells q2 22 [.slice q5 q0m c_cmp2_0_0] :: ro ρ :: l)) :
  Calls Tryd.prog 58 #[.slice q4 q0l c_data0, .int .i64 n1, .func (.func 47) #[] #[.pointer (some ⟨q2, 0, none⟩)]] w fun e w' => ∃ (q0f : List Value), e = .returned (.tuple #[]) ∧ RepL (RpI .i64) ρ r q0f ∧ St w0 w' (cells q2 22 [.slice q5 q0m c_cmp2_0_0] :: vec 3 (RpI .i64).sz (.slice q4 q0l c_data0) q0l q0f :: ro ρ :: l) := by
 have e_ := St.vec_n hS q1l; subst e_
 have e_ := q9.n; subst e_
 refine enterC Tryd.func58 rfl 63 rfl (by simp) ?_
 refine x_seq <| x_region <| p (yl_assign rfl) <| x_done <|
  x_seq <| x_region <| p (yl_move rfl) <| p (yl_assign rfl) <|
  p (yl_assign rfl) <| x_done <| x_seq <| ?_
 replace hF := bd_s hF; obtain ⟨oL2, hLL2, hF⟩ := hF
 refine x_join (fun E w => ∃ (q0j : List Value) (q12 : List Int) (q1m : Int), (q12, q1m) = oL2 ∧ E 0 = .slice q4 data0.length c_data0 ∧ E 1 = .int .i64 n1 ∧ E 2 = .func (.func 47) #[] #[.pointer (some ⟨q2, 0, none⟩)] ∧ E 6 = .int .i64 20 ∧ E 7 = .int .i64 q1m ∧ RepL (RpI .i64) ρ q12 q0j ∧ St w0 w (vec 3 (RpI .i64).sz (.slice q4 data0.length c_data0) data0.length q0j :: cells q2 22 [.slice q5 q6.length c_cmp2_0_0] :: ro ρ :: l)) ?_ ?_
 ·refine x_block ?_
  refine x_loop (fun k_ E w => ∃ (q0a : List Value) (q0g : List Int) (q13 : Int) (q0u : Int), lp (P_slices_stableCmpFunc_int_3_L2 n1 q6) k_ (q0g, q13, q0u) = some oL2 ∧ E 0 = .slice q4 data0.length c_data0 ∧ E 1 = .int .i64 n1 ∧ E 2 = .func (.func 47) #[] #[.pointer (some ⟨q2, 0, none⟩)] ∧ E 6 = .int .i64 20 ∧ E 7 = .int .i64 q13 ∧ E 8 = .int .i64 q0u ∧ RepL (RpI .i64) ρ q0g q0a ∧ St w0 w (vec 3 (RpI .i64).sz (.slice q4 data0.length c_data0) data0.length q0a :: cells q2 22 [.slice q5 q6.length c_cmp2_0_0] :: ro ρ :: l)) fuel ⟨q11, data0, 0, 20, hLL2, rfl, rfl, rfl, rfl, rfl, rfl, q1l, (((hS.pull 2).pull 2).pull 2)⟩ ?_
  rintro kL2 E w ⟨q0a, q0g, q13, q0u, hLL2, q1b, q1c, q1d, q1e, q1s, q14, q0y, hS⟩
  replace hLL2 := lp_s hLL2; obtain ⟨kL2, obL2, rfl, hFL2, hLL2⟩ := hLL2
  refine x_seq <| x_seq <| x_region <| p (yl_move q14) <|
   p (yl_move q1c) <| p (yl_leq rfl rfl) <| x_done <|
   x_cond_p (q0u ≤ n1) rfl (fun hc13 => ?_) (fun hc13 => ?_)
  ·replace hFL2 := it_t hc13 hFL2
   replace hFL2 := bd_s hFL2; obtain ⟨q2c, q26, hFL2⟩ := hFL2
   refine x_skip <| x_block <| x_seq <| x_region <|
    p (yl_move q1b) <| p (yl_move q1s) <| p (yl_move q14) <| p (yl_move q1d) <| ?_
   have hcall := c_slices_insertionSortCmpFunc_int_3 q26 q0y q9 (((hS.pull 2).pull 2).pull 2)
   refine o_cc call_71 (args4 rfl rfl rfl rfl) hcall ?_
   rintro e w' ⟨q0q, rfl, q0v, hS⟩
   refine ⟨_, rfl, ?_⟩
   replace hFL2 := ar_s hFL2; obtain ⟨x22, hx22, hFL2⟩ := hFL2
   refine x_done <| x_seq <| x_region <| p (yl_move q14) <|
    p (yl_assign rfl) <| x_done <| x_region <| p (yl_move q14) <|
    p (yl_move q1e) <| p (yadd rfl rfl hx22) <| p (yl_assign rfl) <| x_done <|
    x_blk <| ?_
   have e_ := sinj hFL2; subst e_
   exact x_inv ⟨kL2, Nat.lt_succ_self _, q0q, q2c, q0u, x22, hLL2, q1b, q1c, q1d, q1e, rfl, rfl, q0v, (((hS.pull 2).pull 1).pull 2)⟩
  ·replace hFL2 := it_f hc13 hFL2
   refine x_exitTo _ rfl <| ?_
   have e_ := sinj hFL2; subst e_
   exact x_inv ⟨q0a, q0g, q13, hLL2, q1b, q1c, q1d, q1e, q1s, q0y, (((hS.pull 2).pull 2).pull 2)⟩
 rintro E w ⟨q0j, q12, q1m, rfl, q1u, q1v, q1w, q27, q28, q1n, hS⟩
 replace hF := bd_s hF; obtain ⟨q2d, q29, hF⟩ := hF
 refine x_seq <| x_region <| p (yl_move q1u) <| p (yl_move q28) <|
  p (yl_move q1v) <| p (yl_move q1w) <| ?_
 have hcall := c_slices_insertionSortCmpFunc_int_3 q29 q1n q9 (((hS.pull 2).pull 2).pull 2)
 refine o_cc call_71 (args4 rfl rfl rfl rfl) hcall ?_
 rintro e w' ⟨q0r, rfl, q0w, hS⟩
 refine ⟨_, rfl, ?_⟩
 refine x_done <| ?_
 replace hF := bd_s hF; obtain ⟨oL7, hLL7, hF⟩ := hF
 refine x_join (fun E w => ∃ (q8 : List Value) (q0k : List Int), q0k = oL7 ∧ RepL (RpI .i64) ρ q0k q8 ∧ St w0 w (cells q2 22 [.slice q5 q6.length c_cmp2_0_0] :: vec 3 (RpI .i64).sz (.slice q4 data0.length c_data0) data0.length q8 :: ro ρ :: l)) ?_ ?_
 ·refine x_block ?_
  refine x_loop (fun k_ E w => ∃ (q7 : List Value) (q0e : List Int) (q3 : Int), lp (P_slices_stableCmpFunc_int_3_L7 n1 q6) k_ (q0e, q3) = some oL7 ∧ E 0 = .slice q4 data0.length c_data0 ∧ E 1 = .int .i64 n1 ∧ E 2 = .func (.func 47) #[] #[.pointer (some ⟨q2, 0, none⟩)] ∧ E 6 = .int .i64 q3 ∧ RepL (RpI .i64) ρ q0e q7 ∧ St w0 w (vec 3 (RpI .i64).sz (.slice q4 data0.length c_data0) data0.length q7 :: cells q2 22 [.slice q5 q6.length c_cmp2_0_0] :: ro ρ :: l)) fuel ⟨q0r, q2d, 20, hLL7, q1u, q1v, q1w, q27, q0w, (((hS.pull 2).pull 1).pull 2)⟩ ?_
  rintro kL7 E w ⟨q7, q0e, q3, hLL7, q1y, q1t, q1z, q1f, q0z, hS⟩
  replace hLL7 := lp_s hLL7; obtain ⟨kL7, obL7, rfl, hFL7, hLL7⟩ := hLL7
  refine x_seq <| x_seq <| x_region <| p (yl_move q1f) <|
   p (yl_move q1t) <| p (yl_lss rfl rfl) <| x_done <|
   x_cond_p (q3 < n1) rfl (fun hc30 => ?_) (fun hc30 => ?_)
  ·replace hFL7 := it_t hc30 hFL7
   replace hFL7 := ar_s hFL7; obtain ⟨x32, hx32, hFL7⟩ := hFL7
   refine x_skip <| x_block <| x_seq <| x_region <|
    p (yl_move q1f) <| p (ymul rfl rfl hx32) <| p (yl_assign rfl) <| p (yl_assign rfl) <|
    x_done <| x_seq <| ?_
   replace hFL7 := bd_s hFL7; obtain ⟨oL9, hLL9, hFL7⟩ := hFL7
   refine x_join (fun E w => ∃ (q0d : List Value) (q0n : List Int) (q1o : Int), (q0n, q1o) = oL9 ∧ E 0 = .slice q4 data0.length c_data0 ∧ E 1 = .int .i64 n1 ∧ E 2 = .func (.func 47) #[] #[.pointer (some ⟨q2, 0, none⟩)] ∧ E 6 = .int .i64 q3 ∧ E 7 = .int .i64 q1o ∧ RepL (RpI .i64) ρ q0n q0d ∧ St w0 w (vec 3 (RpI .i64).sz (.slice q4 data0.length c_data0) data0.length q0d :: cells q2 22 [.slice q5 q6.length c_cmp2_0_0] :: ro ρ :: l)) ?_ ?_
   ·refine x_block ?_
    refine x_loop (fun k_ E w => ∃ (q0b : List Value) (q0h : List Int) (q15 : Int) (q0x : Int), lp (P_slices_stableCmpFunc_int_3_L9 n1 q6 q3) k_ (q0h, q15, q0x) = some oL9 ∧ E 0 = .slice q4 data0.length c_data0 ∧ E 1 = .int .i64 n1 ∧ E 2 = .func (.func 47) #[] #[.pointer (some ⟨q2, 0, none⟩)] ∧ E 6 = .int .i64 q3 ∧ E 7 = .int .i64 q15 ∧ E 8 = .int .i64 q0x ∧ RepL (RpI .i64) ρ q0h q0b ∧ St w0 w (vec 3 (RpI .i64).sz (.slice q4 data0.length c_data0) data0.length q0b :: cells q2 22 [.slice q5 q6.length c_cmp2_0_0] :: ro ρ :: l)) fuel ⟨q7, q0e, 0, x32, hLL9, q1y, q1t, q1z, q1f, rfl, rfl, q0z, (((hS.pull 2).pull 2).pull 2)⟩ ?_
    rintro kL9 E w ⟨q0b, q0h, q15, q0x, hLL9, q1g, q1h, q1i, q16, q1j, q17, q10, hS⟩
    replace hLL9 := lp_s hLL9; obtain ⟨kL9, obL9, rfl, hFL9, hLL9⟩ := hLL9
    refine x_seq <| x_seq <| x_region <| p (yl_move q17) <|
     p (yl_move q1h) <| p (yl_leq rfl rfl) <| x_done <|
     x_cond_p (q0x ≤ n1) rfl (fun hc35 => ?_) (fun hc35 => ?_)
    ·replace hFL9 := it_t hc35 hFL9
     replace hFL9 := ar_s hFL9; obtain ⟨x40, hx40, hFL9⟩ := hFL9
     replace hFL9 := bd_s hFL9; obtain ⟨q2a, q20, hFL9⟩ := hFL9
     refine x_skip <| x_block <| x_seq <| x_region <|
      p (yl_move q1g) <| p (yl_move q1j) <| p (yl_move q1j) <| p (yl_move q16) <|
      p (yadd rfl rfl hx40) <| p (yl_move q17) <| p (yl_move q1i) <| ?_
     have hcall := c_slices_symMergeCmpFunc_int_3 q20 q10 q9 (((hS.pull 2).pull 2).pull 2)
     refine o_cc call_72 (args5 rfl rfl rfl rfl rfl) hcall ?_
     rintro e w' ⟨q0o, rfl, q0s, hS⟩
     refine ⟨_, rfl, ?_⟩
     replace hFL9 := ar_s hFL9; obtain ⟨x47, hx47, hFL9⟩ := hFL9
     replace hFL9 := ar_s hFL9; obtain ⟨x48, hx48, hFL9⟩ := hFL9
     refine x_done <| x_seq <| x_region <| p (yl_move q17) <|
      p (yl_assign rfl) <| x_done <| x_region <| p (yl_move q17) <|
      p (yl_move q16) <| p (ymul rfl rfl hx47) <| p (yadd rfl rfl hx48) <| p (yl_assign rfl) <|
      x_done <| x_blk <| ?_
     have e_ := sinj hFL9; subst e_
     exact x_inv ⟨kL9, Nat.lt_succ_self _, q0o, q2a, q0x, x48, hLL9, q1g, q1h, q1i, q16, rfl, rfl, q0s, (((hS.pull 2).pull 1).pull 2)⟩
    ·replace hFL9 := it_f hc35 hFL9
     refine x_exitTo _ rfl <| ?_
     have e_ := sinj hFL9; subst e_
     exact x_inv ⟨q0b, q0h, q15, hLL9, q1g, q1h, q1i, q16, q1j, q10, (((hS.pull 2).pull 2).pull 2)⟩
   rintro E w ⟨q0d, q0n, q1o, rfl, q1p, q1a, q1q, q1r, q1x, q18, hS⟩
   replace hFL7 := ar_s hFL7; obtain ⟨x51, hx51, hFL7⟩ := hFL7
   refine x_seq <| x_seq <| x_region <| p (yl_move q1x) <|
    p (yl_move q1r) <| p (yadd rfl rfl hx51) <| p (yl_assign rfl) <| x_done <|
    x_seq <| x_region <| p (yl_move rfl) <| p (yl_move q1a) <|
    p (yl_lss rfl rfl) <| x_done <| ?_
   replace hFL7 := bd_s hFL7; obtain ⟨oc54, hFc54, hFL7⟩ := hFL7
   refine x_join (fun E w => ∃ (q0c : List Value) (q0i : List Int), q0i = oc54 ∧ E 0 = .slice q4 data0.length c_data0 ∧ E 1 = .int .i64 n1 ∧ E 2 = .func (.func 47) #[] #[.pointer (some ⟨q2, 0, none⟩)] ∧ E 6 = .int .i64 q3 ∧ RepL (RpI .i64) ρ q0i q0c ∧ St w0 w (vec 3 (RpI .i64).sz (.slice q4 data0.length c_data0) data0.length q0c :: cells q2 22 [.slice q5 q6.length c_cmp2_0_0] :: ro ρ :: l)) ?_ ?_
   ·refine x_cond_p (x51 < n1) rfl (fun hc54 => ?_) (fun hc54 => ?_)
    ·replace hFc54 := it_t hc54 hFc54
     replace hFc54 := bd_s hFc54; obtain ⟨q2b, q21, hFc54⟩ := hFc54
     refine x_region <| p (yl_move q1p) <| p (yl_move q1x) <| p (yl_move rfl) <|
      p (yl_move q1a) <| p (yl_move q1q) <| ?_
     have hcall := c_slices_symMergeCmpFunc_int_3 q21 q18 q9 (((hS.pull 2).pull 2).pull 2)
     refine o_cc call_72 (args5 rfl rfl rfl rfl rfl) hcall ?_
     rintro e w' ⟨q0p, rfl, q0t, hS⟩
     refine ⟨_, rfl, ?_⟩
     refine x_done <| ?_
     exact x_inv ⟨q0p, q2b, (sinj hFc54), q1p, q1a, q1q, q1r, q0t, (((hS.pull 2).pull 1).pull 2)⟩
    ·replace hFc54 := it_f hc54 hFc54
     refine x_skip <| ?_
     exact x_inv ⟨q0d, q0n, (sinj hFc54), q1p, q1a, q1q, q1r, q18, (((hS.pull 2).pull 2).pull 2)⟩
   rintro E w ⟨q0c, q0i, rfl, q22, q23, q24, q25, q1k, hS⟩
   replace hFL7 := ar_s hFL7; obtain ⟨x62, hx62, hFL7⟩ := hFL7
   refine x_region <| p (yl_move q25) <| p (ymul rfl rfl hx62) <| p (yl_assign rfl) <|
    x_done <| x_blk <| ?_
   have e_ := sinj hFL7; subst e_
   exact x_inv ⟨kL7, Nat.lt_succ_self _, q0c, q0i, x62, hLL7, q22, q23, q24, rfl, q1k, (((hS.pull 2).pull 2).pull 2)⟩
  ·replace hFL7 := it_f hc30 hFL7
   refine x_exitTo _ rfl <| ?_
   have e_ := sinj hFL7; subst e_
   exact x_inv ⟨q7, q0e, hLL7, q0z, (((hS.pull 2).pull 1).pull 2)⟩
 rintro E w ⟨q8, q0k, rfl, q19, hS⟩
 have e_ := sinj hF; subst e_
 exact x_fin ⟨_, rfl, q8, rfl, q19, (((hS.pull 2).pull 2).pull 2)⟩
attribute [irreducible] P_slices_stableCmpFunc_int_3

def P_slices_SortStableFunc_int_int_3 (x0 : List Int) (q2 : List Int) : Option (List Int) :=
 bd (P_slices_stableCmpFunc_int_3 x0 (x0.length : Int) q2) fun q3 =>
 some q3
theorem c_slices_SortStableFunc_int_int_3 {w0 w : World} {l : List Assn} {ρ : Heap} {q0b : Option Addr} {q9 : Nat} {c_x0 : Nat} {q0c : List Value} {q7 : Nat} {q2 : Option Addr} {q3 : Nat} {c_cmp1_0_0 : Nat} {x0 : List Int} {q0a : List Int} {r : List Int} (hF : P_slices_SortStableFunc_int_int_3 x0 q0a = some r) (q0d : RepL (RpI .i64) ρ x0 q0c) (q8 : RdS (RpI .i64) ρ q2 q3 c_cmp1_0_0 q0a) (hS : St w0 w (vec 3 (RpI .i64).sz (.slice q0b q9 c_x0) q9 q0c :: cells q7 22 [.slice q2 q3 c_cmp1_0_0] :: ro ρ :: l)) :
  Calls Tryd.prog 43 #[.slice q0b q9 c_x0, .func (.func 47) #[] #[.pointer (some ⟨q7, 0, none⟩)]] w fun e w' => ∃ (q5 : List Value), e = .returned (.tuple #[]) ∧ RepL (RpI .i64) ρ r q5 ∧ St w0 w' (cells q7 22 [.slice q2 q3 c_cmp1_0_0] :: vec 3 (RpI .i64).sz (.slice q0b q9 c_x0) q9 q5 :: ro ρ :: l) := by
 have e_ := St.vec_n hS q0d; subst e_
 have e_ := q8.n; subst e_
 refine enterC Tryd.func43 rfl 9 rfl (by simp) ?_
 replace hF := bd_s hF; obtain ⟨q0f, q0e, hF⟩ := hF
 refine x_region <| p (yl_move rfl) <| p (yl_move rfl) <| p (yl_len_slice usl_22 rfl) <|
  p (yl_move rfl) <| ?_
 have hcall := c_slices_stableCmpFunc_int_3 q0e q0d q8 (((hS.pull 2).pull 2).pull 2)
 refine o_cc call_58 (args3 rfl rfl rfl) hcall ?_
 rintro e w' ⟨q4, rfl, q6, hS⟩
 refine ⟨_, rfl, ?_⟩
 refine x_done <| ?_
 have e_ := sinj hF; subst e_
 exact x_fin ⟨_, rfl, q4, rfl, q6, (((hS.pull 2).pull 2).pull 2)⟩
attribute [irreducible] P_slices_SortStableFunc_int_int_3

def P_legal_tight_2 (r_0 : T_legal_room) (q2 : List Int) (q3 : Int) : Option Bool :=
 ar (r_0.Span.To - r_0.Span.From) fun x11 =>
 ck (inb q3 q2.length) <|
 lv (gt q2 q3) fun x15 =>
 some (decide (x15 ≤ x11))
theorem c_legal_tight_2 {w0 w : World} {l : List Assn} {ρ : Heap} {q5 : Nat} {q2 : Option Addr} {q3 : Nat} {c_v1_0 : Nat} {q6 : Nat} {r_0 : T_legal_room} {q9 : List Int} {q7 : Int} {r : Bool} (hF : P_legal_tight_2 r_0 q9 q7 = some r) (q4 : RdS (RpI .i64) ρ q2 q3 c_v1_0 q9) (hS : St w0 w (cells q5 22 [.slice q2 q3 c_v1_0] :: cells q6 3 [.int .i64 q7] :: ro ρ :: l)) :
  Calls Tryd.prog 49 #[.agg #[.int .i64 r_0.frow, .int .i64 r_0.Span.From, .int .i64 r_0.Span.To], .pointer (some ⟨q5, 0, none⟩), .pointer (some ⟨q6, 0, none⟩)] w fun e w' => e = .returned (.bool r) ∧ St w0 w' (cells q5 22 [.slice q2 q3 c_v1_0] :: cells q6 3 [.int .i64 q7] :: ro ρ :: l) := by
 have e_ := q4.n; subst e_
 refine enterC Tryd.func49 rfl 17 rfl (by simp) ?_
 refine x_seq <| x_region <| ?_
 refine o_box (cs := [.int .i64 r_0.frow, .int .i64 r_0.Span.From, .int .i64 r_0.Span.To]) rfl rfl hS (fun b3 w' hS => ?_)
 replace hF := ar_s hF; obtain ⟨x11, hx11, hF⟩ := hF
 replace hF := ck_s hF; obtain ⟨q8, hF⟩ := hF
 replace hF := lv_s hF; obtain ⟨x15, hx15, hF⟩ := hF
 refine p (yl_assign rfl) <| x_done <| x_seq <| x_still mixed (by kernel_rfl) hS <|
  q (yl_field0 fld_106_1 rfl) <| q (yl_fieldN fld_46_1 rfl) <| qa (fun w' hS => at_load one_3 rfl (hS.cell rfl)) <| q (yl_field0 fld_106_1 rfl) <|
  q (yl_fieldN fld_46_0 rfl) <| qa (fun w' hS => at_load one_3 rfl (hS.cell rfl)) <| q (ysub rfl rfl hx11) <| qa (fun w' hS => at_load one_22 rfl ((hS.pull 1).cell rfl)) <|
  qa (fun w' hS => at_load one_3 rfl ((hS.pull 2).cell rfl)) <| q (yix_f sl_22 rfl rfl q4 q8) <| qa (fun w' hS => at_load one_3 rfl (RdS.getW q4 (hS.pull 3) q8 hx15)) <| q (yl_geq rfl rfl) <|
  q (yl_assign rfl) <|
  q_done fun w' hS => ?_
 have e_ := sinj hF; subst e_
 exact x_return ⟨_, ⟨_, _, rfl, rfl, rfl⟩, rfl, (((hS.drop.pull 2).pull 2).pull 2)⟩
attribute [irreducible] P_legal_tight_2

def P_slices_IndexFunc_legal_room_legal_room_L2 (s0 : List T_legal_room) (q3 : List Int) (q4 : Int) : Int → Option (Int ⊕ (Unit ⊕ Int)) := fun q2 =>
 if q2 < (s0.length : Int) then
  ck (inb q2 s0.length) <|
  lv (gt s0 q2) fun q5 =>
  bd (P_legal_tight_2 q5 q3 q4) fun q6 =>
  if q6 = true then
   some (Sum.inr (Sum.inr q2))
  else
   ar (q2 + 1) fun x18 =>
   some (Sum.inl x18)
 else
  some (Sum.inr (Sum.inl ()))
def P_slices_IndexFunc_legal_room_legal_room (s0 : List T_legal_room) (q2 : List Int) (q3 : Int) : Option Int :=
 bs (
  lp (P_slices_IndexFunc_legal_room_legal_room_L2 s0 q2 q3) fuel 0) (fun y => some y) fun _ =>
 some (-1 : Int)
theorem c_slices_IndexFunc_legal_room_legal_room {w0 w : World} {l : List Assn} {ρ : Heap} {q0e : Option Addr} {q0j : Nat} {c_s0 : Nat} {q3 : Nat} {q2 : Option Addr} {q7 : Nat} {c_f1_0_0 : Nat} {q4 : Nat} {s0 : List T_legal_room} {q6 : List Int} {q5 : Int} {r : Int} (hF : P_slices_IndexFunc_legal_room_legal_room s0 q6 q5 = some r) (q0f : RdS R_legal_room ρ q0e q0j c_s0 s0) (q9 : RdS (RpI .i64) ρ q2 q7 c_f1_0_0 q6) (hS : St w0 w (cells q3 22 [.slice q2 q7 c_f1_0_0] :: cells q4 3 [.int .i64 q5] :: ro ρ :: l)) :
  Calls Tryd.prog 48 #[.slice q0e q0j c_s0, .func (.func 49) #[] #[.pointer (some ⟨q3, 0, none⟩), .pointer (some ⟨q4, 0, none⟩)]] w fun e w' => e = .returned (.int .i64 r) ∧ St w0 w' (cells q3 22 [.slice q2 q7 c_f1_0_0] :: cells q4 3 [.int .i64 q5] :: ro ρ :: l) := by
 have e_ := q0f.n; subst e_
 have e_ := q9.n; subst e_
 refine enterC Tryd.func48 rfl 19 rfl (by simp) ?_
 refine x_seq <| x_region <| p (yl_assign rfl) <| x_done <|
  x_seq <| x_seq <| x_region <| p (yl_move rfl) <|
  p (yl_len_slice usl_102 rfl) <| p (yl_move rfl) <| x_done <| ?_
 replace hF := bs_s hF; obtain ⟨oL2, hLL2, hF⟩ := hF
 refine x_join (fun E w => (Sum.inl (())) = oL2 ∧ St w0 w (cells q3 22 [.slice q2 q6.length c_f1_0_0] :: cells q4 3 [.int .i64 q5] :: ro ρ :: l)) ?_ ?_
 ·refine x_block ?_
  refine x_loop (fun k_ E w => ∃ (q8 : Int), lp (P_slices_IndexFunc_legal_room_legal_room_L2 s0 q6 q5) k_ q8 = some oL2 ∧ E 0 = .slice q0e s0.length c_s0 ∧ E 1 = .func (.func 49) #[] #[.pointer (some ⟨q3, 0, none⟩), .pointer (some ⟨q4, 0, none⟩)] ∧ E 7 = .int .i64 (s0.length : Int) ∧ E 8 = .int .i64 q8 ∧ St w0 w (cells q3 22 [.slice q2 q6.length c_f1_0_0] :: cells q4 3 [.int .i64 q5] :: ro ρ :: l)) fuel ⟨0, hLL2, rfl, rfl, rfl, rfl, (((hS.pull 2).pull 2).pull 2)⟩ ?_
  rintro kL2 E w ⟨q8, hLL2, q0b, q0c, q0d, q0a, hS⟩
  replace hLL2 := lp_s hLL2; obtain ⟨kL2, obL2, rfl, hFL2, hLL2⟩ := hLL2
  refine x_seq <| x_region <| p (yl_lss q0a q0d) <| x_done <|
   x_seq <|
   x_cond_p (q8 < (s0.length : Int)) rfl (fun hc9 => ?_) (fun hc9 => ?_)
  ·replace hFL2 := it_t hc9 hFL2
   replace hFL2 := ck_s hFL2; obtain ⟨q0h, hFL2⟩ := hFL2
   replace hFL2 := lv_s hFL2; obtain ⟨q0g, q0k, hFL2⟩ := hFL2
   have q_ := q0f.get q0h; obtain ⟨q0o, q0i, q0l⟩ := q_
   rw [← q0k] at q0i
   have e_ := q0i; subst e_
   replace hFL2 := bd_s hFL2; obtain ⟨q0n, q0m, hFL2⟩ := hFL2
   refine x_skip <| x_seq <| x_block <| x_seq <|
    x_region <| p (yl_move q0a) <| p (yl_assign rfl) <| x_done <|
    x_seq <| x_region <| p (yl_move q0c) <| p (yl_move q0b) <|
    p (yl_move rfl) <| p (yix_f sl_102 rfl rfl q0f q0h) <| pa (v := .agg #[.int .i64 q0g.frow, .int .i64 q0g.Span.From, .int .i64 q0g.Span.To]) (at_loadAgg agg_106 rfl rfl (Elt.every q0l (hS.pull 2))) <| ?_
   have hcall := c_legal_tight_2 q0m q9 hS
   refine o_ccv rfl call_49 (capargs (args1 rfl)) (hcall) ?_
   rintro e w' ⟨rfl, hS⟩
   refine ⟨_, rfl, ?_⟩
   refine x_done <|
    x_cond (t := q0n) rfl (fun hc16 => ?_) (fun hc16 => ?_)
   ·replace hFL2 := it_t hc16 hFL2
    refine x_seq <| x_region <| p (yl_move rfl) <| p (yl_assign rfl) <|
     x_done <| ?_
    have e_ := sinj hFL2; subst e_
    have e_ := (show _ = oL2 from hLL2); subst e_
    have e_ := sinj hF; subst e_
    exact x_return ⟨_, ⟨_, _, rfl, rfl, rfl⟩, rfl, (((hS.pull 2).pull 2).pull 2)⟩
   ·replace hFL2 := it_bf hc16 hFL2
    replace hFL2 := ar_s hFL2; obtain ⟨x18, hx18, hFL2⟩ := hFL2
    refine x_skip <| x_blk <| x_region <| p (yadd q0a rfl hx18) <|
     p (yl_move rfl) <| x_done <| ?_
    have e_ := sinj hFL2; subst e_
    exact x_inv ⟨kL2, Nat.lt_succ_self _, x18, hLL2, q0b, q0c, q0d, rfl, (((hS.pull 2).pull 2).pull 2)⟩
  ·replace hFL2 := it_f hc9 hFL2
   refine x_exitTo _ rfl <| ?_
   have e_ := sinj hFL2; subst e_
   exact x_inv ⟨hLL2, (((hS.pull 2).pull 2).pull 2)⟩
 rintro E w ⟨rfl, hS⟩
 refine x_seq <| x_region <| p (yl_assign rfl) <| x_done <| ?_
 have e_ := sinj hF; subst e_
 exact x_return ⟨_, ⟨_, _, rfl, rfl, rfl⟩, rfl, (((hS.pull 2).pull 2).pull 2)⟩
attribute [irreducible] P_slices_IndexFunc_legal_room_legal_room

def P_legal_tight_L4 (q4 : List Int) : (List Int × Int) → Option ((List Int × Int) ⊕ List Int) := fun (q3, q2) =>
 if q2 < (q4.length : Int) then
  ck (inb q2 q3.length) <|
  lv (stt q3 q2 q2) fun q5 =>
  ar (q2 + 1) fun x27 =>
  some (Sum.inl (q5, x27))
 else
  some (Sum.inr q3)
def P_legal_tight_L11 (area0 : List Int) (q0c : List Int) (q6 : List Int) : (List T_legal_room × List T_floor_Site × Int) → Option ((List T_legal_room × List T_floor_Site × Int) ⊕ (List T_floor_Site ⊕ (List T_floor_Site × Bool))) := fun (q2, q5, q4) =>
 if q4 < (q0c.length : Int) then
  ck (inb q4 q6.length) <|
  lv (gt q6 q4) fun x39 =>
  bd (P_slices_IndexFunc_legal_room_legal_room q2 area0 x39) fun q3 =>
  if q3 < 0 then
   some (Sum.inr (Sum.inr ([], false)))
  else
   ck (inb q3 q2.length) <|
   lv (gt q2 q3) fun q0a =>
   ck (inb q3 q2.length) <|
   lv (gt q2 q3) fun q7 =>
   ck (inb x39 q5.length) <|
   lv (stt q5 x39 (T_floor_Site.mk q0a.frow q7.Span.From)) fun q8 =>
   ck (inb q3 q2.length) <|
   lv (gt q2 q3) fun q0b =>
   ck (inb x39 area0.length) <|
   lv (gt area0 x39) fun x69 =>
   ar (q0b.Span.From + x69) fun x70 =>
   ck (inb q3 q2.length) <|
   lv (stt q2 q3 { (gt q2 q3) with Span := { (gt q2 q3).Span with From := x70 } }) fun q9 =>
   ar (q4 + 1) fun x74 =>
   some (Sum.inl (q9, q8, x74))
 else
  some (Sum.inr (Sum.inl q5))
def P_legal_tight (area0 : List Int) (f1 : T_floor_Floor) : Option (List T_floor_Site × Bool) :=
 bd (P_legal_rooms f1) fun q5 =>
 ck (mkOk 8 (area0.length : Int)) <|
 lv ((List.replicate ((area0.length : Int) : Int).toNat 0 : List Int)) fun q3 =>
 bd (
  lp (P_legal_tight_L4 q3) fuel (q3, 0)) fun q2 =>
 bd (P_slices_SortStableFunc_int_int_3 q2 area0) fun q6 =>
 ck (mkOk 16 (area0.length : Int)) <|
 lv ((List.replicate ((area0.length : Int) : Int).toNat (T_floor_Site.mk 0 0) : List T_floor_Site)) fun q7 =>
 bs (
  lp (P_legal_tight_L11 area0 q3 q6) fuel (q5, q7, 0)) (fun y => some y) fun q4 =>
 some (q4, true)
theorem c_legal_tight {w0 w : World} {l : List Assn} {ρ : Heap} {q0d : Option Addr} {q1a : Nat} {c_area0 : Nat} {q0w : Option Addr} {q1h : Nat} {c_f1_3 : Nat} {q0x : Option Addr} {q1i : Nat} {c_f1_4 : Nat} {q0y : Option Addr} {q1j : Nat} {c_f1_5 : Nat} {area0 : List Int} {f1 : T_floor_Floor} {r : (List T_floor_Site × Bool)} (hF : P_legal_tight area0 f1 = some r) (q0k : RdS (RpI .i64) ρ q0d q1a c_area0 area0) (q1k : RdS R_floor_Block ρ q0w q1h c_f1_3 f1.Blocks) (q1l : RdS R_floor_Wall ρ q0x q1i c_f1_4 f1.Walls) (q1m : RdS R_floor_Port ρ q0y q1j c_f1_5 f1.Ports) (hS : St w0 w (ro ρ :: l)) :
  Calls Tryd.prog 26 #[.slice q0d q1a c_area0, .agg #[.int .i64 f1.Rows, .int .i64 f1.Sites, .int .i64 f1.Layers, .slice q0w q1h c_f1_3, .slice q0x q1i c_f1_4, .slice q0y q1j c_f1_5]] w fun e w' => ∃ (q15 : Option Addr) (q0s : Nat) (c_y0_ret : Nat) (q13 : List Value), e = .returned (.tuple #[.slice q15 q0s c_y0_ret, .bool r.2]) ∧ RepL R_floor_Site ρ r.1 q13 ∧ St w0 w' (vec 88 R_floor_Site.sz (.slice q15 q0s c_y0_ret) q0s q13 :: ro ρ :: l) := by
 have e_ := q0k.n; subst e_
 have e_ := q1k.n; subst e_
 have e_ := q1l.n; subst e_
 have e_ := q1m.n; subst e_
 refine enterC Tryd.func26 rfl 76 rfl (by simp) ?_
 refine x_seq <| x_region <| ?_
 refine o_box (cs := [.slice q0d area0.length c_area0]) rfl rfl hS (fun b2 w' hS => ?_)
 refine o_box (cs := [.int .i64 f1.Rows, .int .i64 f1.Sites, .int .i64 f1.Layers, .slice q0w f1.Blocks.length c_f1_3, .slice q0x f1.Walls.length c_f1_4, .slice q0y f1.Ports.length c_f1_5]) rfl rfl hS (fun b3 w' hS => ?_)
 replace hF := bd_s hF; obtain ⟨q0i, q2f, hF⟩ := hF
 refine p (yl_assign rfl) <| p (yl_assign rfl) <| x_done <| x_seq <|
  x_region <| pa (v := .agg #[.int .i64 f1.Rows, .int .i64 f1.Sites, .int .i64 f1.Layers, .slice q0w f1.Blocks.length c_f1_3, .slice q0x f1.Walls.length c_f1_4, .slice q0y f1.Ports.length c_f1_5]) (ld_sub agg_30 rfl rfl rfl hS) <| ?_
 have hcall := c_legal_rooms q2f q1k q1l q1m (hS.pull 2)
 refine o_cc call_42 (args1 rfl) hcall ?_
 rintro e w' ⟨q4, q26, c_y0_ret_1_1, q0a, rfl, q0o, hS⟩
 refine ⟨_, rfl, ?_⟩
 have e_ := St.vec_n hS q0o; subst e_
 refine p (yl_assign rfl) <| x_done <| x_seq <| x_region <|
  pa (at_load one_22 rfl ((hS.pull 3).cell rfl)) <| p (yl_len_slice usl_22 rfl) <| ?_
 replace hF := ck_s hF; obtain ⟨q2g, hF⟩ := hF
 replace hF := lv_s hF; obtain ⟨q3, q2h, hF⟩ := hF
 refine o_mk sl_22 zero_3 (show (RpI .i64).ok ρ _ 0 from rfl) rfl rfl q2g (by decide) q2h hS (fun A17 cs17 w' hr17 hS => ?_)
 refine p (yl_assign rfl) <| x_done <| x_seq <| x_seq <|
  x_region <| p (yl_move rfl) <| p (yl_len_slice usl_22 rfl) <| p (yl_move rfl) <|
  x_done <| ?_
 replace hF := bd_s hF; obtain ⟨oL4, hLL4, hF⟩ := hF
 refine x_join (fun E w => ∃ (q0e : List Value) (q0p : List Int), q0p = oL4 ∧ E 2 = .pointer (some ⟨b2, 0, none⟩) ∧ E 6 = .slice q4 q0i.length c_y0_ret_1_1 ∧ E 7 = .slice A17 q3.length q3.length ∧ RepL (RpI .i64) ρ q0p q0e ∧ St w0 w (cells b2 22 [.slice q0d area0.length c_area0] :: vec 106 R_legal_room.sz (.slice q4 q0i.length c_y0_ret_1_1) q0i.length q0a :: vec 3 (RpI .i64).sz (.slice A17 q3.length q3.length) q3.length q0e :: ro ρ :: l)) ?_ ?_
 ·refine x_block ?_
  refine x_loop (fun k_ E w => ∃ (q5 : List Value) (q0c : List Int) (q7 : Int), lp (P_legal_tight_L4 q3) k_ (q0c, q7) = some oL4 ∧ E 2 = .pointer (some ⟨b2, 0, none⟩) ∧ E 6 = .slice q4 q0i.length c_y0_ret_1_1 ∧ E 7 = .slice A17 q3.length q3.length ∧ E 19 = .int .i64 (q3.length : Int) ∧ E 20 = .int .i64 q7 ∧ RepL (RpI .i64) ρ q0c q5 ∧ St w0 w (cells b2 22 [.slice q0d area0.length c_area0] :: vec 106 R_legal_room.sz (.slice q4 q0i.length c_y0_ret_1_1) q0i.length q0a :: vec 3 (RpI .i64).sz (.slice A17 q3.length q3.length) q3.length q5 :: ro ρ :: l)) fuel ⟨cs17, q3, 0, hLL4, rfl, rfl, rfl, rfl, rfl, hr17, (((((hS.pull 3).drop.pull 2).pull 1).pull 2).pull 3)⟩ ?_
  rintro kL4 E w ⟨q5, q0c, q7, hLL4, q1n, q1o, q16, q1b, q10, q0f, hS⟩
  replace hLL4 := lp_s hLL4; obtain ⟨kL4, obL4, rfl, hFL4, hLL4⟩ := hLL4
  refine x_seq <| x_region <| p (yl_lss q10 q1b) <| x_done <|
   x_seq <|
   x_cond_p (q7 < (q3.length : Int)) rfl (fun hc21 => ?_) (fun hc21 => ?_)
  ·replace hFL4 := it_t hc21 hFL4
   replace hFL4 := ck_s hFL4; obtain ⟨q1w, hFL4⟩ := hFL4
   refine x_skip <| x_seq <| x_block <| x_seq <|
    x_region <| p (yl_move q10) <| p (yl_assign rfl) <| x_done <|
    x_region <| p (yl_move q16) <| p (yl_move rfl) <| p (yl_move rfl) <|
    p (yix_o sl_22 rfl rfl (hS.pull 2) q0f q1w) <| ?_
   replace hFL4 := lv_s hFL4; obtain ⟨q2p, q2i, hFL4⟩ := hFL4
   refine o_put' (news := [.int .i64 q7]) sz_3 rfl rfl rfl rfl (o := 0) rfl q1w rfl (hS.pull 2) q0f (Le.refl _) (fun c hc => ok_all hc (show (RpI .i64).ok ρ [.int .i64 q7] q7 from rfl)) q2i (fun q2j w' q2k hS => ?_)
   replace hFL4 := ar_s hFL4; obtain ⟨x27, hx27, hFL4⟩ := hFL4
   refine x_done <| x_blk <| x_region <| p (yadd q10 rfl hx27) <|
    p (yl_move rfl) <| x_done <| ?_
   have e_ := sinj hFL4; subst e_
   exact x_inv ⟨kL4, Nat.lt_succ_self _, q2j, q2p, x27, hLL4, q1n, q1o, q16, q1b, rfl, q2k, ((((hS.pull 3).pull 1).pull 3).pull 3)⟩
  ·replace hFL4 := it_f hc21 hFL4
   refine x_exitTo _ rfl <| ?_
   have e_ := sinj hFL4; subst e_
   exact x_inv ⟨q5, q0c, hLL4, q1n, q1o, q16, q0f, ((((hS.pull 3).pull 3).pull 3).pull 3)⟩
 rintro E w ⟨q0e, q0p, rfl, q1f, q2l, q1x, q19, hS⟩
 replace hF := bd_s hF; obtain ⟨q2q, q2m, hF⟩ := hF
 refine x_seq <| x_region <| p (yl_move q1x) <| p (v := .func (.func 47) #[] #[.pointer (some ⟨b2, 0, none⟩)]) (yl_makeFunc (by simp only [List.map_toArray, List.map_nil]) (by simp only [List.map_toArray, List.map_cons, List.map_nil]; exact arr1 q1f)) <| ?_
 have hcall := c_slices_SortStableFunc_int_int_3 q2m q19 q0k (((hS.pull 3).pull 1).pull 3)
 refine o_cc call_43 (args2 rfl rfl) hcall ?_
 rintro e w' ⟨q0t, rfl, q0g, hS⟩
 refine ⟨_, rfl, ?_⟩
 refine x_done <| x_seq <| x_region <| pa (at_load one_22 q1f (hS.cell rfl)) <|
  p (yl_len_slice usl_22 rfl) <| ?_
 replace hF := ck_s hF; obtain ⟨q2n, hF⟩ := hF
 replace hF := lv_s hF; obtain ⟨q8, q2o, hF⟩ := hF
 refine o_mk sl_37 zero_88 (show R_floor_Site.ok ρ _ (T_floor_Site.mk 0 0) from rfl) rfl rfl q2n (by decide) q2o hS (fun A33 cs33 w' hr33 hS => ?_)
 refine p (yl_assign rfl) <| x_done <| x_seq <| x_seq <|
  x_region <| p (yl_move q1x) <| p (yl_len_slice usl_22 rfl) <| p (yl_move rfl) <|
  x_done <| ?_
 replace hF := bs_s hF; obtain ⟨oL11, hLL11, hF⟩ := hF
 refine x_join (fun E w => ∃ (q9 : List Value) (q0u : List T_floor_Site), (Sum.inl q0u) = oL11 ∧ E 9 = .slice A33 q8.length q8.length ∧ RepL R_floor_Site ρ q0u q9 ∧ St w0 w (vec 88 R_floor_Site.sz (.slice A33 q8.length q8.length) q8.length q9 :: ro ρ :: l)) ?_ ?_
 ·refine x_block ?_
  refine x_loop (fun k_ E w => ∃ (q0b : List Value) (q6 : List Value) (q0m : List T_legal_room) (q0h : List T_floor_Site) (q0n : Int), lp (P_legal_tight_L11 area0 q3 q2q) k_ (q0m, q0h, q0n) = some oL11 ∧ E 2 = .pointer (some ⟨b2, 0, none⟩) ∧ E 6 = .slice q4 q0i.length c_y0_ret_1_1 ∧ E 9 = .slice A33 q8.length q8.length ∧ E 34 = .slice A17 q3.length q3.length ∧ E 35 = .int .i64 (q3.length : Int) ∧ E 36 = .int .i64 q0n ∧ RepL R_legal_room ρ q0m q0b ∧ RepL R_floor_Site ρ q0h q6 ∧ St w0 w (cells b2 22 [.slice q0d area0.length c_area0] :: vec 106 R_legal_room.sz (.slice q4 q0i.length c_y0_ret_1_1) q0i.length q0b :: vec 88 R_floor_Site.sz (.slice A33 q8.length q8.length) q8.length q6 :: vec 3 (RpI .i64).sz (.slice A17 q3.length q3.length) q3.length q0t :: ro ρ :: l)) fuel ⟨q0a, cs33, q0i, q8, 0, hLL11, q1f, q2l, rfl, rfl, rfl, rfl, q0o, hr33, (((((hS.pull 3).pull 3).pull 2).pull 4).pull 4)⟩ ?_
  rintro kL11 E w ⟨q0b, q6, q0m, q0h, q0n, hLL11, q11, q0l, q12, q17, q18, q0v, q2, q0j, hS⟩
  replace hLL11 := lp_s hLL11; obtain ⟨kL11, obL11, rfl, hFL11, hLL11⟩ := hLL11
  refine x_seq <| x_region <| p (yl_lss q0v q18) <| x_done <|
   x_seq <|
   x_cond_p (q0n < (q3.length : Int)) rfl (fun hc37 => ?_) (fun hc37 => ?_)
  ·replace hFL11 := it_t hc37 hFL11
   replace hFL11 := ck_s hFL11; obtain ⟨q1p, hFL11⟩ := hFL11
   replace hFL11 := lv_s hFL11; obtain ⟨x39, hx39, hFL11⟩ := hFL11
   refine x_skip <| x_seq <| x_block <| x_seq <|
    x_region <| p (yix_o sl_22 q17 q0v (hS.pull 3) q0g q1p) <| pa (at_load one_3 rfl (RepL.getW q0g (hS.pull 3) q1p hx39)) <| ?_
   refine o_alloc zero_3 hS (fun b11 w' hS => ?_)
   refine o_store1 (v := .int .i64 x39) one_3 rfl rfl rfl rfl hS (fun w' hS => ?_)
   replace hFL11 := bd_s hFL11; obtain ⟨q0r, q27, hFL11⟩ := hFL11
   refine x_done <| x_seq <| x_region <| p (yl_move q0l) <|
    p (v := .func (.func 49) #[] #[.pointer (some ⟨b2, 0, none⟩), .pointer (some ⟨b11, 0, none⟩)]) (yl_makeFunc (by simp only [List.map_toArray, List.map_nil]) (by simp only [List.map_toArray, List.map_cons, List.map_nil]; exact arr2 q11 rfl)) <| ?_
   have q_ := St.lend ((hS.pull 5).pull 3) q2; obtain ⟨ρl0, hll0, hlf0, hS0, back0⟩ := q_
   have hcall := c_slices_IndexFunc_legal_room_legal_room q27 hlf0 (q0k.le hll0) ((hS0.pull 1).pull 2)
   refine o_cc call_48 (args2 rfl rfl) ((Calls.mono hcall (fun e w'' h => And.intro h.1 (((((((back0 (h.2.pull 2)).pull 1).pull 5).pull 5).pull 3).pull 4).pull 5)))) ?_
   rintro e w' ⟨rfl, hS⟩
   refine ⟨_, rfl, ?_⟩
   refine p (v := .int .i64 q0r) (yl_assign rfl) <| x_done <| x_seq <| x_seq <|
    x_region <| p (v := .int .i64 q0r) (yl_move rfl) <| p (yl_lss rfl rfl) <| x_done <|
    x_cond_p (q0r < 0) rfl (fun hc44 => ?_) (fun hc44 => ?_)
   ·replace hFL11 := it_t hc44 hFL11
    refine x_seq <| x_region <| p (yl_assign rfl) <| p (yl_assign rfl) <|
     x_done <| ?_
    replace hS := St.vec_nil hS 88 R_floor_Site.sz
    have q14 : RepL R_floor_Site ρ [] [] := rfl
    have e_ := sinj hFL11; subst e_
    have e_ := (show _ = oL11 from hLL11); subst e_
    have e_ := sinj hF; subst e_
    exact x_return ⟨_, ⟨_, _, rfl, rfl, _, _, rfl, rfl, rfl⟩, none, 0, 0, [], rfl, q14, (((((((hS.pull 1).drop.pull 1).drop.pull 1).drop.pull 1).drop.pull 1).drop.pull 1).pull 1)⟩
   ·replace hFL11 := it_f hc44 hFL11
    replace hFL11 := ck_s hFL11; obtain ⟨q1q, hFL11⟩ := hFL11
    replace hFL11 := lv_s hFL11; obtain ⟨q0z, q28, hFL11⟩ := hFL11
    have q_ := q2.get q1q; obtain ⟨q2s, q1r, q29⟩ := q_
    rw [← q28] at q1r
    have e_ := q1r; subst e_
    replace hFL11 := ck_s hFL11; obtain ⟨q1s, hFL11⟩ := hFL11
    replace hFL11 := lv_s hFL11; obtain ⟨q0q, q1y, hFL11⟩ := hFL11
    have q_ := q2.get q1s; obtain ⟨q2r, q1c, q1z⟩ := q_
    rw [← q1y] at q1c
    have e_ := q1c; subst e_
    replace hFL11 := ck_s hFL11; obtain ⟨q1d, hFL11⟩ := hFL11
    refine x_skip <| x_seq <| x_head 15 mixed (by kernel_rfl) hS _ _ rfl rfl <| q (yl_move q12) <|
     qa (fun w' hS => at_load one_3 rfl (hS.cell rfl)) <| q (yl_move q0l) <| q (v := .int .i64 q0r) (yl_move rfl) <| q (yix_o sl_102 rfl rfl (hS.pull 2) q2 q1q) <|
     q (yl_fieldAddr fld_106_0 rfl) <| qa (fun w' hS => at_load one_3 rfl (EltV.ld (m := 0) q29 (hS.pull 2) rfl)) <| q (yl_move q0l) <| q (v := .int .i64 q0r) (yl_move rfl) <|
     q (yix_o sl_102 rfl rfl (hS.pull 2) q2 q1s) <| q (yl_fieldAddr fld_106_1 rfl) <| q (yl_fieldE fld_46_0 rfl) <| qa (fun w' hS => at_load one_3 rfl (EltV.ld (m := 1) q1z (hS.pull 2) rfl)) <|
     q (v := .agg #[.int .i64 q0z.frow, .int .i64 q0q.Span.From]) (yl_build bld_88 bldf_88 (parts_eq (pt (va := .int .i64 q0z.frow) rfl (pt (va := .int .i64 q0q.Span.From) rfl pt0))) (by kernel_rfl)) <| q (yix_o sl_37 rfl rfl (hS.pull 3) q0j q1d) <|
     q_done fun w' hS => ?_
    replace hFL11 := lv_s hFL11; obtain ⟨q2a, q20, hFL11⟩ := hFL11
    refine o_put' (news := [.int .i64 q0z.frow, .int .i64 q0q.Span.From]) sz_88 rfl rfl rfl rfl (o := 0) rfl q1d rfl (hS.pull 3) q0j (Le.refl _) (fun c hc => ok_all hc (show R_floor_Site.ok ρ [.int .i64 q0z.frow, .int .i64 q0q.Span.From] (T_floor_Site.mk q0z.frow q0q.Span.From) from rfl)) q20 (fun q21 w' q22 hS => ?_)
    replace hFL11 := ck_s hFL11; obtain ⟨q1t, hFL11⟩ := hFL11
    replace hFL11 := lv_s hFL11; obtain ⟨q2u, q2b, hFL11⟩ := hFL11
    have q_ := q2.get q1t; obtain ⟨q2t, q1u, q2c⟩ := q_
    rw [← q2b] at q1u
    have e_ := q1u; subst e_
    replace hFL11 := ck_s hFL11; obtain ⟨q1v, hFL11⟩ := hFL11
    replace hFL11 := lv_s hFL11; obtain ⟨x69, hx69, hFL11⟩ := hFL11
    replace hFL11 := ar_s hFL11; obtain ⟨x70, hx70, hFL11⟩ := hFL11
    replace hFL11 := ck_s hFL11; obtain ⟨q1e, hFL11⟩ := hFL11
    refine x_done <| x_head 14 mixed (by kernel_rfl) hS _ _ rfl rfl <| q (yl_move q0l) <| q (v := .int .i64 q0r) (yl_move rfl) <|
     q (yix_o sl_102 rfl rfl (hS.pull 3) q2 q1t) <| q (yl_fieldAddr fld_106_1 rfl) <| q (yl_fieldE fld_46_0 rfl) <| qa (fun w' hS => at_load one_3 rfl (EltV.ld (m := 1) q2c (hS.pull 3) rfl)) <|
     qa (fun w' hS => at_load one_22 q11 ((hS.pull 2).cell rfl)) <| qa (fun w' hS => at_load one_3 rfl ((hS.pull 1).cell rfl)) <| q (yix_f sl_22 rfl rfl q0k q1v) <| qa (fun w' hS => at_load one_3 rfl (RdS.getW q0k (hS.pull 5) q1v hx69)) <|
     q (yadd rfl rfl hx70) <| q (yix_o sl_102 rfl rfl (hS.pull 3) q2 q1e) <| q (yl_fieldAddr fld_106_1 rfl) <| q (yl_fieldE fld_46_0 rfl) <|
     q_done fun w' hS => ?_
    replace hFL11 := lv_s hFL11; obtain ⟨q2d, q23, hFL11⟩ := hFL11
    refine o_put' (news := [.int .i64 x70]) sz_3 rfl rfl rfl rfl (o := 1) rfl q1e rfl (hS.pull 3) q2 (Le.refl _) (fun c hc => by obtain rfl := hc; rfl) q23 (fun q24 w' q25 hS => ?_)
    replace hFL11 := ar_s hFL11; obtain ⟨x74, hx74, hFL11⟩ := hFL11
    refine x_done <| x_blk <| x_region <| p (yadd q0v rfl hx74) <|
     p (yl_move rfl) <| x_done <| ?_
    have e_ := sinj hFL11; subst e_
    exact x_inv ⟨kL11, Nat.lt_succ_self _, q24, q21, q2d, q2a, x74, hLL11, q11, q0l, q12, q17, q18, rfl, q25, q22, ((((((hS.pull 2).drop.pull 4).pull 4).pull 3).pull 3).pull 4)⟩
  ·replace hFL11 := it_f hc37 hFL11
   refine x_exitTo _ rfl <| ?_
   have e_ := sinj hFL11; subst e_
   exact x_inv ⟨q6, q0h, hLL11, q12, q0j, (((hS.drop.drop.pull 1).drop.pull 1).pull 1)⟩
 rintro E w ⟨q9, q0u, rfl, q2e, q1g, hS⟩
 refine x_seq <| x_region <| p (yl_move q2e) <| p (yl_assign rfl) <|
  p (yl_assign rfl) <| x_done <| ?_
 have e_ := sinj hF; subst e_
 exact x_return ⟨_, ⟨_, _, rfl, rfl, _, _, rfl, rfl, rfl⟩, A33, q8.length, q8.length, q9, rfl, q1g, ((hS.pull 1).pull 1)⟩
attribute [irreducible] P_legal_tight

def P_legal_Place_L9 (want0 : List T_floor_Point) (area1 : List Int) : Int → Option (Int ⊕ (Unit ⊕ (List T_floor_Site × Int))) := fun q2 =>
 if q2 < (want0.length : Int) then
  ck (inb q2 want0.length) <|
  lv (gt want0 q2) fun q3 =>
  ck (inb q2 area1.length) <|
  lv (gt area1 q2) fun x38 =>
  ck ((!(decide (x38 < 1))) = true → inb q2 area1.length) <|
  lv (gt area1 q2) fun x44 =>
  lv ((decide (x38 < 1)) || (decide (40 < x44))) fun x46 =>
  lv (max q3.X q3.Y) fun x52 =>
  lv (x46 || (decide (1000 < x52))) fun x54 =>
  lv (min q3.X q3.Y) fun x60 =>
  lv (x54 || (decide (x60 < (-1000)))) fun x62 =>
  if x62 = true then
   some (Sum.inr (Sum.inr ([], (2 : Int))))
  else
   ar (q2 + 1) fun x63 =>
   some (Sum.inl x63)
 else
  some (Sum.inr (Sum.inl ()))
def P_legal_Place (want0 : List T_floor_Point) (area1 : List Int) (f2 : T_floor_Floor) : Option (List T_floor_Site × Int) :=
 bd (P_floor_Check f2) fun q4 =>
 if q4 ≠ 0 then
  some ([], q4)
 else
  if 364 < (area1.length : Int) then
   some ([], (3 : Int))
  else
   if (want0.length : Int) ≠ (area1.length : Int) then
    some ([], (4 : Int))
   else
    bs (
     lp (P_legal_Place_L9 want0 area1) fuel 0) (fun y => some y) fun _ =>
    bd (P_legal_near want0 area1 f2) fun q2 =>
    if q2.2 = true then
     some (q2.1, (0 : Int))
    else
     bd (P_legal_tight area1 f2) fun q3 =>
     if q3.2 = true then
      some (q3.1, (0 : Int))
     else
      some ([], (14 : Int))
theorem c_legal_Place {w0 w : World} {l : List Assn} {ρ : Heap} {q0a : Option Addr} {q0r : Nat} {c_want0 : Nat} {q7 : Option Addr} {q0s : Nat} {c_area1 : Nat} {q4 : Option Addr} {q0v : Nat} {c_f2_3 : Nat} {q5 : Option Addr} {q0w : Nat} {c_f2_4 : Nat} {q6 : Option Addr} {q0x : Nat} {c_f2_5 : Nat} {want0 : List T_floor_Point} {area1 : List Int} {f2 : T_floor_Floor} {r : (List T_floor_Site × Int)} (hF : P_legal_Place want0 area1 f2 = some r) (q0d : RdS R_floor_Point ρ q0a q0r c_want0 want0) (q3 : RdS (RpI .i64) ρ q7 q0s c_area1 area1) (q0g : RdS R_floor_Block ρ q4 q0v c_f2_3 f2.Blocks) (q0h : RdS R_floor_Wall ρ q5 q0w c_f2_4 f2.Walls) (q0i : RdS R_floor_Port ρ q6 q0x c_f2_5 f2.Ports) (hS : St w0 w (ro ρ :: l)) :
  Calls Tryd.prog 8 #[.slice q0a q0r c_want0, .slice q7 q0s c_area1, .agg #[.int .i64 f2.Rows, .int .i64 f2.Sites, .int .i64 f2.Layers, .slice q4 q0v c_f2_3, .slice q5 q0w c_f2_4, .slice q6 q0x c_f2_5]] w fun e w' => ∃ (q0p : Option Addr) (q0f : Nat) (c_y0_ret : Nat) (q0m : List Value), e = .returned (.tuple #[.slice q0p q0f c_y0_ret, .int .i64 r.2]) ∧ RepL R_floor_Site ρ r.1 q0m ∧ St w0 w' (vec 88 R_floor_Site.sz (.slice q0p q0f c_y0_ret) q0f q0m :: ro ρ :: l) := by
 have e_ := q0d.n; subst e_
 have e_ := q3.n; subst e_
 have e_ := q0g.n; subst e_
 have e_ := q0h.n; subst e_
 have e_ := q0i.n; subst e_
 refine enterC Tryd.func8 rfl 81 rfl (by simp) ?_
 refine x_seq <| x_region <| ?_
 refine o_box (cs := [.int .i64 f2.Rows, .int .i64 f2.Sites, .int .i64 f2.Layers, .slice q4 f2.Blocks.length c_f2_3, .slice q5 f2.Walls.length c_f2_4, .slice q6 f2.Ports.length c_f2_5]) rfl rfl hS (fun b5 w' hS => ?_)
 replace hF := bd_s hF; obtain ⟨q0q, q1e, hF⟩ := hF
 refine p (yl_assign rfl) <| p (yl_assign rfl) <| x_done <| x_seq <|
  x_seq <| x_region <| pa (v := .agg #[.int .i64 f2.Rows, .int .i64 f2.Sites, .int .i64 f2.Layers, .slice q4 f2.Blocks.length c_f2_3, .slice q5 f2.Walls.length c_f2_4, .slice q6 f2.Ports.length c_f2_5]) (ld_sub agg_30 rfl rfl rfl hS) <| ?_
 have hcall := c_floor_Check q1e q0g q0h q0i (hS.pull 1)
 refine o_cc call_10 (args1 rfl) ((Calls.mono hcall (fun e w'' h => And.intro h.1 (h.2.pull 1)))) ?_
 rintro e w' ⟨rfl, hS⟩
 refine ⟨_, rfl, ?_⟩
 refine p (v := .int .i64 q0q) (yl_assign rfl) <| x_done <| x_seq <| x_region <|
  p (v := .int .i64 q0q) (yl_move rfl) <| p (yl_neq rfl rfl) <| x_done <|
  x_cond_p (q0q ≠ 0) rfl (fun hc18 => ?_) (fun hc18 => ?_)
 ·replace hF := it_t hc18 hF
  refine x_seq <| x_region <| p (v := .int .i64 q0q) (yl_move rfl) <| p (yl_assign rfl) <|
   p (v := .int .i64 q0q) (yl_assign rfl) <| x_done <| ?_
  replace hS := St.vec_nil hS 88 R_floor_Site.sz
  have q2 : RepL R_floor_Site ρ [] [] := rfl
  have e_ := sinj hF; subst e_
  exact x_return ⟨_, ⟨_, _, rfl, rfl, _, _, rfl, rfl, rfl⟩, none, 0, 0, [], rfl, q2, (((hS.pull 1).drop.pull 1).pull 1)⟩
 ·replace hF := it_f hc18 hF
  refine x_skip <| x_seq <| x_seq <| x_region <|
   p (yl_move rfl) <| p (yl_len_slice usl_22 rfl) <| p (yl_gtr rfl rfl) <| x_done <|
   x_cond_p (364 < (area1.length : Int)) rfl (fun hc22 => ?_) (fun hc22 => ?_)
  ·replace hF := it_t hc22 hF
   refine x_seq <| x_region <| p (yl_assign rfl) <| p (yl_assign rfl) <|
    x_done <| ?_
   replace hS := St.vec_nil hS 88 R_floor_Site.sz
   have q2 : RepL R_floor_Site ρ [] [] := rfl
   have e_ := sinj hF; subst e_
   exact x_return ⟨_, ⟨_, _, rfl, rfl, _, _, rfl, rfl, rfl⟩, none, 0, 0, [], rfl, q2, (((hS.pull 1).drop.pull 1).pull 1)⟩
  ·replace hF := it_f hc22 hF
   refine x_skip <| x_seq <| x_seq <| x_region <|
    p (yl_move rfl) <| p (yl_len_slice usl_32 rfl) <| p (yl_move rfl) <| p (yl_len_slice usl_22 rfl) <|
    p (yl_neq rfl rfl) <| x_done <|
    x_cond_p ((want0.length : Int) ≠ (area1.length : Int)) rfl (fun hc27 => ?_) (fun hc27 => ?_)
   ·replace hF := it_t hc27 hF
    refine x_seq <| x_region <| p (yl_assign rfl) <| p (yl_assign rfl) <|
     x_done <| ?_
    replace hS := St.vec_nil hS 88 R_floor_Site.sz
    have q2 : RepL R_floor_Site ρ [] [] := rfl
    have e_ := sinj hF; subst e_
    exact x_return ⟨_, ⟨_, _, rfl, rfl, _, _, rfl, rfl, rfl⟩, none, 0, 0, [], rfl, q2, (((hS.pull 1).drop.pull 1).pull 1)⟩
   ·replace hF := it_f hc27 hF
    refine x_skip <| x_seq <| x_seq <| x_region <|
     p (yl_move rfl) <| p (yl_len_slice usl_32 rfl) <| p (yl_move rfl) <| x_done <| ?_
    replace hF := bs_s hF; obtain ⟨oL9, hLL9, hF⟩ := hF
    refine x_join (fun E w => (Sum.inl (())) = oL9 ∧ E 0 = .slice q0a want0.length c_want0 ∧ E 1 = .slice q7 area1.length c_area1 ∧ E 5 = .pointer (some ⟨b5, 0, none⟩) ∧ St w0 w (cells b5 30 [.int .i64 f2.Rows, .int .i64 f2.Sites, .int .i64 f2.Layers, .slice q4 f2.Blocks.length c_f2_3, .slice q5 f2.Walls.length c_f2_4, .slice q6 f2.Ports.length c_f2_5] :: ro ρ :: l)) ?_ ?_
    ·refine x_block ?_
     refine x_loop (fun k_ E w => ∃ (q8 : Int), lp (P_legal_Place_L9 want0 area1) k_ q8 = some oL9 ∧ E 0 = .slice q0a want0.length c_want0 ∧ E 1 = .slice q7 area1.length c_area1 ∧ E 5 = .pointer (some ⟨b5, 0, none⟩) ∧ E 28 = .slice q0a want0.length c_want0 ∧ E 29 = .int .i64 (want0.length : Int) ∧ E 30 = .int .i64 q8 ∧ St w0 w (cells b5 30 [.int .i64 f2.Rows, .int .i64 f2.Sites, .int .i64 f2.Layers, .slice q4 f2.Blocks.length c_f2_3, .slice q5 f2.Walls.length c_f2_4, .slice q6 f2.Ports.length c_f2_5] :: ro ρ :: l)) fuel ⟨0, hLL9, rfl, rfl, rfl, rfl, rfl, rfl, ((hS.pull 1).pull 1)⟩ ?_
     rintro kL9 E w ⟨q8, hLL9, q0y, q0j, q0z, q0t, q0u, q0e, hS⟩
     replace hLL9 := lp_s hLL9; obtain ⟨kL9, obL9, rfl, hFL9, hLL9⟩ := hLL9
     refine x_seq <| x_region <| p (yl_lss q0e q0u) <| x_done <|
      x_seq <|
      x_cond_p (q8 < (want0.length : Int)) rfl (fun hc31 => ?_) (fun hc31 => ?_)
     ·replace hFL9 := it_t hc31 hFL9
      replace hFL9 := ck_s hFL9; obtain ⟨q10, hFL9⟩ := hFL9
      replace hFL9 := lv_s hFL9; obtain ⟨q9, q1a, hFL9⟩ := hFL9
      have q_ := q0d.get q10; obtain ⟨q1g, q11, q1b⟩ := q_
      rw [← q1a] at q11
      have e_ := q11; subst e_
      refine x_skip <| x_seq <| x_block <| x_seq <|
       x_region <| p (yl_move q0e) <| p (yix_f sl_32 q0t q0e q0d q10) <| pa (v := .agg #[.int .i64 q9.X, .int .i64 q9.Y]) (at_loadAgg agg_36 rfl rfl (Elt.every q1b (hS.pull 1))) <| ?_
      refine o_alloc zero_36 hS (fun b10 w' hS => ?_)
      refine p (yl_assign rfl) <| ?_
      refine o_storeAgg (news := [.int .i64 q9.X, .int .i64 q9.Y]) agg_36 rfl rfl rfl (by simp [over_length]) hS (fun w' hS => ?_)
      replace hFL9 := ck_s hFL9; obtain ⟨q12, hFL9⟩ := hFL9
      replace hFL9 := lv_s hFL9; obtain ⟨x38, hx38, hFL9⟩ := hFL9
      replace hFL9 := ck_s hFL9; obtain ⟨q13, hFL9⟩ := hFL9
      replace hFL9 := lv_s hFL9; obtain ⟨x44, hx44, hFL9⟩ := hFL9
      replace hFL9 := lv_s hFL9; obtain ⟨x46, hx46, hFL9⟩ := hFL9
      replace hFL9 := lv_s hFL9; obtain ⟨x52, hx52, hFL9⟩ := hFL9
      replace hFL9 := lv_s hFL9; obtain ⟨x54, hx54, hFL9⟩ := hFL9
      replace hFL9 := lv_s hFL9; obtain ⟨x60, hx60, hFL9⟩ := hFL9
      replace hFL9 := lv_s hFL9; obtain ⟨x62, hx62, hFL9⟩ := hFL9
      refine x_done <| x_seq <| x_region <| p (yl_move q0j) <|
       p (yl_move rfl) <| p (yix_f sl_22 rfl rfl q3 q12) <| pa (at_load one_3 rfl (RdS.getW q3 (hS.pull 2) q12 hx38)) <| p (yl_lss rfl rfl) <|
       p (yl_move rfl) <| pg (v := .slice q7 area1.length c_area1) 40 (c := !(decide (x38 < 1))) (says_f _) (fun hq => Yl.at (yl_move q0j)) <| pg (v := .int .i64 q8) 40 (c := !(decide (x38 < 1))) (says_f _) (fun hq => Yl.at (yl_move rfl)) <| pg (v := .pointer (some ((adr q7).add (q8.toNat * (RpI .i64).sz)))) 40 (c := !(decide (x38 < 1))) (says_f _) (fun hq => Yl.at (yix_f sl_22 (cv hq) (cv hq) q3 (q13 hq))) <|
       pg (v := .int .i64 x44) 40 (c := !(decide (x38 < 1))) (says_f _) (fun hq => at_load one_3 (cv hq) (RdS.getW q3 (hS.pull 2) (q13 hq) hx44)) <| pg (v := .bool (decide (40 < x44))) 40 (c := !(decide (x38 < 1))) (says_f _) (fun hq => Yl.at (yl_gtr (cv hq) rfl)) <| p (yor' rfl rfl (fun hc => (cv (t_not hc))) hx46) <| p (yl_move rfl) <|
       pg (v := .pointer (some ⟨b10, 0, none⟩)) 47 (c := !x46) (says_f _) (fun hq => Yl.at (yl_field0 fld_36_0 rfl)) <| pg (v := .int .i64 q9.X) 47 (c := !x46) (says_f _) (fun hq => at_load one_3 (cv hq) (hS.cell rfl)) <| pg (v := .pointer (some ⟨b10, 1, none⟩)) 47 (c := !x46) (says_f _) (fun hq => Yl.at (yl_field0 fld_36_1 rfl)) <| pg (v := .int .i64 q9.Y) 47 (c := !x46) (says_f _) (fun hq => at_load one_3 (cv hq) (hS.cell rfl)) <|
       pg (v := .int .i64 x52) 47 (c := !x46) (says_f _) (fun hq => Yl.at (ymax' (cv hq) (cv hq) hx52)) <| pg (v := .bool (decide (1000 < x52))) 47 (c := !x46) (says_f _) (fun hq => Yl.at (yl_gtr (cv hq) rfl)) <| p (yor' rfl rfl (fun hc => (cv (t_not hc))) hx54) <| p (yl_move rfl) <|
       pg (v := .pointer (some ⟨b10, 0, none⟩)) 55 (c := !x54) (says_f _) (fun hq => Yl.at (yl_field0 fld_36_0 rfl)) <| pg (v := .int .i64 q9.X) 55 (c := !x54) (says_f _) (fun hq => at_load one_3 (cv hq) (hS.cell rfl)) <| pg (v := .pointer (some ⟨b10, 1, none⟩)) 55 (c := !x54) (says_f _) (fun hq => Yl.at (yl_field0 fld_36_1 rfl)) <| pg (v := .int .i64 q9.Y) 55 (c := !x54) (says_f _) (fun hq => at_load one_3 (cv hq) (hS.cell rfl)) <|
       pg (v := .int .i64 x60) 55 (c := !x54) (says_f _) (fun hq => Yl.at (ymin' (cv hq) (cv hq) hx60)) <| pg (v := .bool (decide (x60 < (-1000)))) 55 (c := !x54) (says_f _) (fun hq => Yl.at (yl_lss (cv hq) rfl)) <| p (yor' rfl rfl (fun hc => (cv (t_not hc))) hx62) <| x_done <|
       x_cond (t := x62) rfl (fun hc62 => ?_) (fun hc62 => ?_)
      ·replace hFL9 := it_t hc62 hFL9
       refine x_seq <| x_region <| p (yl_assign rfl) <| p (yl_assign rfl) <|
        x_done <| ?_
       replace hS := St.vec_nil hS 88 R_floor_Site.sz
       have q2 : RepL R_floor_Site ρ [] [] := rfl
       have e_ := sinj hFL9; subst e_
       have e_ := (show _ = oL9 from hLL9); subst e_
       have e_ := sinj hF; subst e_
       exact x_return ⟨_, ⟨_, _, rfl, rfl, _, _, rfl, rfl, rfl⟩, none, 0, 0, [], rfl, q2, ((((hS.pull 1).drop.pull 1).drop.pull 1).pull 1)⟩
      ·replace hFL9 := it_bf hc62 hFL9
       replace hFL9 := ar_s hFL9; obtain ⟨x63, hx63, hFL9⟩ := hFL9
       refine x_skip <| x_blk <| x_region <| p (yadd q0e rfl hx63) <|
        p (yl_move rfl) <| x_done <| ?_
       have e_ := sinj hFL9; subst e_
       exact x_inv ⟨kL9, Nat.lt_succ_self _, x63, hLL9, q0y, q0j, q0z, q0t, q0u, rfl, ((hS.drop.pull 1).pull 1)⟩
     ·replace hFL9 := it_f hc31 hFL9
      refine x_exitTo _ rfl <| ?_
      have e_ := sinj hFL9; subst e_
      exact x_inv ⟨hLL9, q0y, q0j, q0z, ((hS.pull 1).pull 1)⟩
    rintro E w ⟨rfl, q1f, q14, q15, hS⟩
    replace hF := bd_s hF; obtain ⟨q16, q1c, hF⟩ := hF
    refine x_seq <| x_seq <| x_region <| p (yl_move q1f) <|
     p (yl_move q14) <| pa (v := .agg #[.int .i64 f2.Rows, .int .i64 f2.Sites, .int .i64 f2.Layers, .slice q4 f2.Blocks.length c_f2_3, .slice q5 f2.Walls.length c_f2_4, .slice q6 f2.Ports.length c_f2_5]) (ld_sub agg_30 q15 rfl rfl hS) <| ?_
    have hcall := c_legal_near q1c q0d q3 q0g q0h q0i (hS.pull 1)
    refine o_cc call_25 (args3 rfl rfl rfl) hcall ?_
    rintro e w' ⟨q0n, q18, c_y0_ret_14_3, q0k, rfl, q0b, hS⟩
    refine ⟨_, rfl, ?_⟩
    have e_ := St.vec_n hS q0b; subst e_
    refine p (yl_move rfl) <| p (yl_extract rfl rfl) <| p (yl_extract rfl rfl) <| p (yl_assign rfl) <|
     p (yl_assign rfl) <| x_done <| x_seq <| x_region <|
     p (yl_move rfl) <| x_done <|
     x_cond (t := q16.2) rfl (fun hc71 => ?_) (fun hc71 => ?_)
    ·replace hF := it_t hc71 hF
     refine x_seq <| x_region <| p (yl_move rfl) <| p (yl_assign rfl) <|
      p (yl_assign rfl) <| x_done <| ?_
     have e_ := sinj hF; subst e_
     exact x_return ⟨_, ⟨_, _, rfl, rfl, _, _, rfl, rfl, rfl⟩, q0n, q16.1.length, c_y0_ret_14_3, q0k, rfl, q0b, (((hS.pull 2).drop.pull 1).pull 1)⟩
    ·replace hF := it_bf hc71 hF
     replace hF := bd_s hF; obtain ⟨q17, q1d, hF⟩ := hF
     refine x_skip <| x_seq <| x_seq <| x_region <|
      p (yl_move q14) <| pa (v := .agg #[.int .i64 f2.Rows, .int .i64 f2.Sites, .int .i64 f2.Layers, .slice q4 f2.Blocks.length c_f2_3, .slice q5 f2.Walls.length c_f2_4, .slice q6 f2.Ports.length c_f2_5]) (ld_sub agg_30 q15 rfl rfl (hS.pull 2)) <| ?_
     have hcall := c_legal_tight q1d q3 q0g q0h q0i (hS.pull 1)
     refine o_cc call_26 (args2 rfl rfl) hcall ?_
     rintro e w' ⟨q0o, q19, c_y0_ret_17_2, q0l, rfl, q0c, hS⟩
     refine ⟨_, rfl, ?_⟩
     have e_ := St.vec_n hS q0c; subst e_
     refine p (yl_move rfl) <| p (yl_extract rfl rfl) <| p (yl_extract rfl rfl) <| p (yl_assign rfl) <|
      p (yl_assign rfl) <| x_done <| x_seq <| x_region <|
      p (yl_move rfl) <| x_done <|
      x_cond (t := q17.2) rfl (fun hc79 => ?_) (fun hc79 => ?_)
     ·replace hF := it_t hc79 hF
      refine x_seq <| x_region <| p (yl_move rfl) <| p (yl_assign rfl) <|
       p (yl_assign rfl) <| x_done <| ?_
      have e_ := sinj hF; subst e_
      exact x_return ⟨_, ⟨_, _, rfl, rfl, _, _, rfl, rfl, rfl⟩, q0o, q17.1.length, c_y0_ret_17_2, q0l, rfl, q0c, ((((hS.pull 2).drop.pull 2).drop.pull 1).pull 1)⟩
     ·replace hF := it_bf hc79 hF
      refine x_skip <| x_seq <| x_region <| p (yl_assign rfl) <|
       p (yl_assign rfl) <| x_done <| ?_
      replace hS := St.vec_nil hS 88 R_floor_Site.sz
      have q2 : RepL R_floor_Site ρ [] [] := rfl
      have e_ := sinj hF; subst e_
      exact x_return ⟨_, ⟨_, _, rfl, rfl, _, _, rfl, rfl, rfl⟩, none, 0, 0, [], rfl, q2, (((((hS.pull 1).drop.pull 2).drop.pull 2).drop.pull 1).pull 1)⟩
attribute [irreducible] P_legal_Place

def P_legal_checkRow_L9 (want0 : List Int) (wide1 : List Int) : (Int × Int) → Option ((Int × Int) ⊕ (Int ⊕ Int)) := fun (q3, q2) =>
 if q2 < (wide1.length : Int) then
  ck (inb q2 wide1.length) <|
  lv (gt wide1 q2) fun x39 =>
  lv ((decide (x39 < 1)) || (decide (40 < x39))) fun x45 =>
  ck ((!x45) = true → inb q2 want0.length) <|
  lv (gt want0 q2) fun x50 =>
  lv (x45 || (decide (x50 < (-1000)))) fun x52 =>
  ck ((!x52) = true → inb q2 want0.length) <|
  lv (gt want0 q2) fun x57 =>
  lv (x52 || (decide (1000 < x57))) fun x59 =>
  if x59 = true then
   some (Sum.inr (Sum.inr (2 : Int)))
  else
   ar (q3 + x39) fun x62 =>
   ar (q2 + 1) fun x63 =>
   some (Sum.inl (x62, x63))
 else
  some (Sum.inr (Sum.inl q3))
def P_legal_checkRow (want0 : List Int) (wide1 : List Int) (s2 : T_floor_Span) : Option Int :=
 if (want0.length : Int) ≠ (wide1.length : Int) then
  some (4 : Int)
 else
  lv ((decide (s2.From < 0)) || (decide (s2.To < s2.From))) fun x24 =>
  lv (x24 || (decide (40 < s2.To))) fun x29 =>
  if x29 = true then
   some (2 : Int)
  else
   if 40 < (want0.length : Int) then
    some (3 : Int)
   else
    bs (
     lp (P_legal_checkRow_L9 want0 wide1) fuel (0, 0)) (fun y => some y) fun q2 =>
    ar (s2.To - s2.From) fun x69 =>
    if x69 < q2 then
     some (14 : Int)
    else
     some (0 : Int)
theorem c_legal_checkRow {w0 w : World} {l : List Assn} {ρ : Heap} {q3 : Option Addr} {q0b : Nat} {c_want0 : Nat} {q8 : Option Addr} {q0c : Nat} {c_wide1 : Nat} {want0 : List Int} {wide1 : List Int} {s2 : T_floor_Span} {r : Int} (hF : P_legal_checkRow want0 wide1 s2 = some r) (q4 : RdS (RpI .i64) ρ q3 q0b c_want0 want0) (q9 : RdS (RpI .i64) ρ q8 q0c c_wide1 wide1) (hS : St w0 w (ro ρ :: l)) :
  Calls Tryd.prog 50 #[.slice q3 q0b c_want0, .slice q8 q0c c_wide1, .agg #[.int .i64 s2.From, .int .i64 s2.To]] w fun e w' => e = .returned (.int .i64 r) ∧ St w0 w' (ro ρ :: l) := by
 have e_ := q4.n; subst e_
 have e_ := q9.n; subst e_
 refine enterC Tryd.func50 rfl 71 rfl (by simp) ?_
 refine x_seq <| x_region <| ?_
 refine o_box (cs := [.int .i64 s2.From, .int .i64 s2.To]) rfl rfl hS (fun b5 w' hS => ?_)
 refine p (yl_assign rfl) <| x_done <| x_seq <| x_seq <|
  x_region <| p (yl_move rfl) <| p (yl_len_slice usl_22 rfl) <| p (yl_move rfl) <|
  p (yl_len_slice usl_22 rfl) <| p (yl_neq rfl rfl) <| x_done <|
  x_cond_p ((want0.length : Int) ≠ (wide1.length : Int)) rfl (fun hc14 => ?_) (fun hc14 => ?_)
 ·replace hF := it_t hc14 hF
  refine x_seq <| x_region <| p (yl_assign rfl) <| x_done <| ?_
  have e_ := sinj hF; subst e_
  exact x_return ⟨_, ⟨_, _, rfl, rfl, rfl⟩, rfl, hS.drop⟩
 ·replace hF := it_f hc14 hF
  replace hF := lv_s hF; obtain ⟨x24, hx24, hF⟩ := hF
  replace hF := lv_s hF; obtain ⟨x29, hx29, hF⟩ := hF
  refine x_skip <| x_seq <| x_seq <| x_region <|
   p (yl_field0 fld_46_0 rfl) <| pa (at_load one_3 rfl (hS.cell rfl)) <| p (yl_lss rfl rfl) <| p (yl_move rfl) <|
   pg (v := .pointer (some ⟨b5, 1, none⟩)) 18 (c := !(decide (s2.From < 0))) (says_f _) (fun hq => Yl.at (yl_field0 fld_46_1 rfl)) <| pg (v := .int .i64 s2.To) 18 (c := !(decide (s2.From < 0))) (says_f _) (fun hq => at_load one_3 (cv hq) (hS.cell rfl)) <| pg (v := .pointer (some ⟨b5, 0, none⟩)) 18 (c := !(decide (s2.From < 0))) (says_f _) (fun hq => Yl.at (yl_field0 fld_46_0 rfl)) <| pg (v := .int .i64 s2.From) 18 (c := !(decide (s2.From < 0))) (says_f _) (fun hq => at_load one_3 (cv hq) (hS.cell rfl)) <|
   pg (v := .bool (decide (s2.To < s2.From))) 18 (c := !(decide (s2.From < 0))) (says_f _) (fun hq => Yl.at (yl_lss (cv hq) (cv hq))) <| p (yor' rfl rfl (fun hc => (cv (t_not hc))) hx24) <| p (yl_move rfl) <| pg (v := .pointer (some ⟨b5, 1, none⟩)) 25 (c := !x24) (says_f _) (fun hq => Yl.at (yl_field0 fld_46_1 rfl)) <|
   pg (v := .int .i64 s2.To) 25 (c := !x24) (says_f _) (fun hq => at_load one_3 (cv hq) (hS.cell rfl)) <| pg (v := .bool (decide (40 < s2.To))) 25 (c := !x24) (says_f _) (fun hq => Yl.at (yl_gtr (cv hq) rfl)) <| p (yor' rfl rfl (fun hc => (cv (t_not hc))) hx29) <| x_done <|
   x_cond (t := x29) rfl (fun hc29 => ?_) (fun hc29 => ?_)
  ·replace hF := it_t hc29 hF
   refine x_seq <| x_region <| p (yl_assign rfl) <| x_done <| ?_
   have e_ := sinj hF; subst e_
   exact x_return ⟨_, ⟨_, _, rfl, rfl, rfl⟩, rfl, hS.drop⟩
  ·replace hF := it_bf hc29 hF
   refine x_skip <| x_seq <| x_seq <| x_region <|
    p (yl_move rfl) <| p (yl_len_slice usl_22 rfl) <| p (yl_gtr rfl rfl) <| x_done <|
    x_cond_p (40 < (want0.length : Int)) rfl (fun hc32 => ?_) (fun hc32 => ?_)
   ·replace hF := it_t hc32 hF
    refine x_seq <| x_region <| p (yl_assign rfl) <| x_done <| ?_
    have e_ := sinj hF; subst e_
    exact x_return ⟨_, ⟨_, _, rfl, rfl, rfl⟩, rfl, hS.drop⟩
   ·replace hF := it_f hc32 hF
    refine x_skip <| x_seq <| x_region <| p (yl_assign rfl) <|
     x_done <| x_seq <| x_seq <| x_region <|
     p (yl_move rfl) <| p (yl_len_slice usl_22 rfl) <| p (yl_move rfl) <| x_done <| ?_
    replace hF := bs_s hF; obtain ⟨oL9, hLL9, hF⟩ := hF
    refine x_join (fun E w => ∃ (q6 : Int), (Sum.inl q6) = oL9 ∧ E 5 = .pointer (some ⟨b5, 0, none⟩) ∧ E 7 = .int .i64 q6 ∧ St w0 w (cells b5 46 [.int .i64 s2.From, .int .i64 s2.To] :: ro ρ :: l)) ?_ ?_
    ·refine x_block ?_
     refine x_loop (fun k_ E w => ∃ (q5 : Int) (q2 : Int), lp (P_legal_checkRow_L9 want0 wide1) k_ (q5, q2) = some oL9 ∧ E 0 = .slice q3 want0.length c_want0 ∧ E 5 = .pointer (some ⟨b5, 0, none⟩) ∧ E 7 = .int .i64 q5 ∧ E 33 = .slice q8 wide1.length c_wide1 ∧ E 34 = .int .i64 (wide1.length : Int) ∧ E 35 = .int .i64 q2 ∧ St w0 w (cells b5 46 [.int .i64 s2.From, .int .i64 s2.To] :: ro ρ :: l)) fuel ⟨0, 0, hLL9, rfl, rfl, rfl, rfl, rfl, rfl, ((hS.pull 1).pull 1)⟩ ?_
     rintro kL9 E w ⟨q5, q2, hLL9, q0a, q0g, q0h, q0d, q0e, q7, hS⟩
     replace hLL9 := lp_s hLL9; obtain ⟨kL9, obL9, rfl, hFL9, hLL9⟩ := hLL9
     refine x_seq <| x_region <| p (yl_lss q7 q0e) <| x_done <|
      x_seq <|
      x_cond_p (q2 < (wide1.length : Int)) rfl (fun hc36 => ?_) (fun hc36 => ?_)
     ·replace hFL9 := it_t hc36 hFL9
      replace hFL9 := ck_s hFL9; obtain ⟨q0i, hFL9⟩ := hFL9
      replace hFL9 := lv_s hFL9; obtain ⟨x39, hx39, hFL9⟩ := hFL9
      replace hFL9 := lv_s hFL9; obtain ⟨x45, hx45, hFL9⟩ := hFL9
      replace hFL9 := ck_s hFL9; obtain ⟨q0j, hFL9⟩ := hFL9
      replace hFL9 := lv_s hFL9; obtain ⟨x50, hx50, hFL9⟩ := hFL9
      replace hFL9 := lv_s hFL9; obtain ⟨x52, hx52, hFL9⟩ := hFL9
      replace hFL9 := ck_s hFL9; obtain ⟨q0f, hFL9⟩ := hFL9
      replace hFL9 := lv_s hFL9; obtain ⟨x57, hx57, hFL9⟩ := hFL9
      replace hFL9 := lv_s hFL9; obtain ⟨x59, hx59, hFL9⟩ := hFL9
      refine x_skip <| x_seq <| x_block <| x_seq <|
       x_region <| p (yl_move q7) <| p (yix_f sl_22 q0d q7 q9 q0i) <| pa (at_load one_3 rfl (RdS.getW q9 (hS.pull 1) q0i hx39)) <|
       p (yl_assign rfl) <| p (yl_assign rfl) <| x_done <| x_seq <|
       x_seq <| x_region <| p (yl_move rfl) <| p (yl_lss rfl rfl) <|
       p (yl_move rfl) <| pg (v := .int .i64 x39) 42 (c := !(decide (x39 < 1))) (says_f _) (fun hq => Yl.at (yl_move rfl)) <| pg (v := .bool (decide (40 < x39))) 42 (c := !(decide (x39 < 1))) (says_f _) (fun hq => Yl.at (yl_gtr (cv hq) rfl)) <| p (yor' rfl rfl (fun hc => (cv (t_not hc))) hx45) <|
       p (yl_move rfl) <| pg (v := .slice q3 want0.length c_want0) 46 (c := !x45) (says_f _) (fun hq => Yl.at (yl_move q0a)) <| pg (v := .int .i64 q2) 46 (c := !x45) (says_f _) (fun hq => Yl.at (yl_move rfl)) <| pg (v := .pointer (some ((adr q3).add (q2.toNat * (RpI .i64).sz)))) 46 (c := !x45) (says_f _) (fun hq => Yl.at (yix_f sl_22 (cv hq) (cv hq) q4 (q0j hq))) <|
       pg (v := .int .i64 x50) 46 (c := !x45) (says_f _) (fun hq => at_load one_3 (cv hq) (RdS.getW q4 (hS.pull 1) (q0j hq) hx50)) <| pg (v := .bool (decide (x50 < (-1000)))) 46 (c := !x45) (says_f _) (fun hq => Yl.at (yl_lss (cv hq) rfl)) <| p (yor' rfl rfl (fun hc => (cv (t_not hc))) hx52) <| p (yl_move rfl) <|
       pg (v := .slice q3 want0.length c_want0) 53 (c := !x52) (says_f _) (fun hq => Yl.at (yl_move q0a)) <| pg (v := .int .i64 q2) 53 (c := !x52) (says_f _) (fun hq => Yl.at (yl_move rfl)) <| pg (v := .pointer (some ((adr q3).add (q2.toNat * (RpI .i64).sz)))) 53 (c := !x52) (says_f _) (fun hq => Yl.at (yix_f sl_22 (cv hq) (cv hq) q4 (q0f hq))) <| pg (v := .int .i64 x57) 53 (c := !x52) (says_f _) (fun hq => at_load one_3 (cv hq) (RdS.getW q4 (hS.pull 1) (q0f hq) hx57)) <|
       pg (v := .bool (decide (1000 < x57))) 53 (c := !x52) (says_f _) (fun hq => Yl.at (yl_gtr (cv hq) rfl)) <| p (yor' rfl rfl (fun hc => (cv (t_not hc))) hx59) <| x_done <|
       x_cond (t := x59) rfl (fun hc59 => ?_) (fun hc59 => ?_)
      ·replace hFL9 := it_t hc59 hFL9
       refine x_seq <| x_region <| p (yl_assign rfl) <| x_done <| ?_
       have e_ := sinj hFL9; subst e_
       have e_ := (show _ = oL9 from hLL9); subst e_
       have e_ := sinj hF; subst e_
       exact x_return ⟨_, ⟨_, _, rfl, rfl, rfl⟩, rfl, hS.drop⟩
      ·replace hFL9 := it_bf hc59 hFL9
       replace hFL9 := ar_s hFL9; obtain ⟨x62, hx62, hFL9⟩ := hFL9
       replace hFL9 := ar_s hFL9; obtain ⟨x63, hx63, hFL9⟩ := hFL9
       refine x_skip <| x_region <| p (yl_move q0h) <| p (yl_move rfl) <|
        p (yadd rfl rfl hx62) <| p (yl_assign rfl) <| x_done <| x_blk <|
        x_region <| p (yadd q7 rfl hx63) <| p (yl_move rfl) <| x_done <| ?_
       have e_ := sinj hFL9; subst e_
       exact x_inv ⟨kL9, Nat.lt_succ_self _, x62, x63, hLL9, q0a, q0g, rfl, q0d, q0e, rfl, ((hS.pull 1).pull 1)⟩
     ·replace hFL9 := it_f hc36 hFL9
      refine x_exitTo _ rfl <| ?_
      have e_ := sinj hFL9; subst e_
      exact x_inv ⟨q5, hLL9, q0g, q0h, ((hS.pull 1).pull 1)⟩
    rintro E w ⟨q6, rfl, q0k, q0l, hS⟩
    replace hF := ar_s hF; obtain ⟨x69, hx69, hF⟩ := hF
    refine x_seq <| x_seq <| x_region <| p (yl_move q0l) <|
     p (yl_field0 fld_46_1 q0k) <| pa (at_load one_3 rfl (hS.cell rfl)) <| p (yl_field0 fld_46_0 q0k) <| pa (at_load one_3 rfl (hS.cell rfl)) <|
     p (ysub rfl rfl hx69) <| p (yl_gtr rfl rfl) <| x_done <|
     x_cond_p (x69 < q6) rfl (fun hc70 => ?_) (fun hc70 => ?_)
    ·replace hF := it_t hc70 hF
     refine x_seq <| x_region <| p (yl_assign rfl) <| x_done <| ?_
     have e_ := sinj hF; subst e_
     exact x_return ⟨_, ⟨_, _, rfl, rfl, rfl⟩, rfl, hS.drop⟩
    ·replace hF := it_f hc70 hF
     refine x_skip <| x_seq <| x_region <| p (yl_assign rfl) <|
      x_done <| ?_
     have e_ := sinj hF; subst e_
     exact x_return ⟨_, ⟨_, _, rfl, rfl, rfl⟩, rfl, hS.drop⟩
attribute [irreducible] P_legal_checkRow

def P_legal_cost (want0 : Int) (wide1 : Int) (q2 : Int) (behind3 : List Int) (s4 : T_floor_Span) : Option (Int × Bool) :=
 ar (q2 + wide1) fun x15 =>
 ar (x15 - s4.From) fun x18 =>
 ck ((!(decide ((behind3.length : Int) ≤ x18))) = true → inb x18 behind3.length) <|
 lv (gt behind3 x18) fun x27 =>
 lv ((decide ((behind3.length : Int) ≤ x18)) || (decide (x27 < 0))) fun x29 =>
 if x29 = true then
  some ((0 : Int), false)
 else
  ar (q2 - want0) fun x32 =>
  ar (q2 - want0) fun x35 =>
  ar (x32 * x35) fun x36 =>
  ck (inb x18 behind3.length) <|
  lv (gt behind3 x18) fun x40 =>
  ar (x36 + x40) fun x41 =>
  some (x41, true)
theorem c_legal_cost {w0 w : World} {l : List Assn} {ρ : Heap} {q3 : Option Addr} {q4 : Nat} {c_behind3 : Nat} {want0 : Int} {wide1 : Int} {q7 : Int} {behind3 : List Int} {s4 : T_floor_Span} {r : (Int × Bool)} (hF : P_legal_cost want0 wide1 q7 behind3 s4 = some r) (q2 : RdS (RpI .i64) ρ q3 q4 c_behind3 behind3) (hS : St w0 w (ro ρ :: l)) :
  Calls Tryd.prog 51 #[.int .i64 want0, .int .i64 wide1, .int .i64 q7, .slice q3 q4 c_behind3, .agg #[.int .i64 s4.From, .int .i64 s4.To]] w fun e w' => e = .returned (.tuple #[.int .i64 r.1, .bool r.2]) ∧ St w0 w' (ro ρ :: l) := by
 have e_ := q2.n; subst e_
 refine enterC Tryd.func51 rfl 42 rfl (by simp) ?_
 refine x_seq <| x_region <| ?_
 refine o_box (cs := [.int .i64 s4.From, .int .i64 s4.To]) rfl rfl hS (fun b9 w' hS => ?_)
 replace hF := ar_s hF; obtain ⟨x15, hx15, hF⟩ := hF
 replace hF := ar_s hF; obtain ⟨x18, hx18, hF⟩ := hF
 replace hF := ck_s hF; obtain ⟨q5, hF⟩ := hF
 replace hF := lv_s hF; obtain ⟨x27, hx27, hF⟩ := hF
 replace hF := lv_s hF; obtain ⟨x29, hx29, hF⟩ := hF
 refine p (yl_assign rfl) <| p (yl_assign rfl) <| x_done <| x_seq <|
  x_region <| p (yl_move rfl) <| p (yl_move rfl) <| p (yadd rfl rfl hx15) <|
  p (yl_field0 fld_46_0 rfl) <| pa (at_load one_3 rfl (hS.cell rfl)) <| p (ysub rfl rfl hx18) <| p (yl_assign rfl) <|
  x_done <| x_seq <| x_seq <| x_region <|
  p (yl_move rfl) <| p (yl_move rfl) <| p (yl_len_slice usl_22 rfl) <| p (yl_geq rfl rfl) <|
  p (yl_move rfl) <| pg (v := .slice q3 behind3.length c_behind3) 23 (c := !(decide ((behind3.length : Int) ≤ x18))) (says_f _) (fun hq => Yl.at (yl_move rfl)) <| pg (v := .int .i64 x18) 23 (c := !(decide ((behind3.length : Int) ≤ x18))) (says_f _) (fun hq => Yl.at (yl_move rfl)) <| pg (v := .pointer (some ((adr q3).add (x18.toNat * (RpI .i64).sz)))) 23 (c := !(decide ((behind3.length : Int) ≤ x18))) (says_f _) (fun hq => Yl.at (yix_f sl_22 (cv hq) (cv hq) q2 (q5 hq))) <|
  pg (v := .int .i64 x27) 23 (c := !(decide ((behind3.length : Int) ≤ x18))) (says_f _) (fun hq => at_load one_3 (cv hq) (RdS.getW q2 (hS.pull 1) (q5 hq) hx27)) <| pg (v := .bool (decide (x27 < 0))) 23 (c := !(decide ((behind3.length : Int) ≤ x18))) (says_f _) (fun hq => Yl.at (yl_lss (cv hq) rfl)) <| p (yor' rfl rfl (fun hc => (cv (t_not hc))) hx29) <| x_done <|
  x_cond (t := x29) rfl (fun hc29 => ?_) (fun hc29 => ?_)
 ·replace hF := it_t hc29 hF
  refine x_seq <| x_region <| p (yl_assign rfl) <| p (yl_assign rfl) <|
   x_done <| ?_
  have e_ := sinj hF; subst e_
  exact x_return ⟨_, ⟨_, _, rfl, rfl, _, _, rfl, rfl, rfl⟩, rfl, hS.drop⟩
 ·replace hF := it_bf hc29 hF
  replace hF := ar_s hF; obtain ⟨x32, hx32, hF⟩ := hF
  replace hF := ar_s hF; obtain ⟨x35, hx35, hF⟩ := hF
  replace hF := ar_s hF; obtain ⟨x36, hx36, hF⟩ := hF
  replace hF := ck_s hF; obtain ⟨q6, hF⟩ := hF
  replace hF := lv_s hF; obtain ⟨x40, hx40, hF⟩ := hF
  replace hF := ar_s hF; obtain ⟨x41, hx41, hF⟩ := hF
  refine x_skip <| x_seq <| x_region <| p (yl_move rfl) <|
   p (yl_move rfl) <| p (ysub rfl rfl hx32) <| p (yl_move rfl) <| p (yl_move rfl) <|
   p (ysub rfl rfl hx35) <| p (ymul rfl rfl hx36) <| p (yl_move rfl) <| p (yl_move rfl) <|
   p (yix_f sl_22 rfl rfl q2 q6) <| pa (at_load one_3 rfl (RdS.getW q2 (hS.pull 1) q6 hx40)) <| p (yadd rfl rfl hx41) <| p (yl_assign rfl) <|
   p (yl_assign rfl) <| x_done <| ?_
  have e_ := sinj hF; subst e_
  exact x_return ⟨_, ⟨_, _, rfl, rfl, _, _, rfl, rfl, rfl⟩, rfl, hS.drop⟩
attribute [irreducible] P_legal_cost

def P_legal_Row_L13 (want0 : List Int) (wide1 : List Int) (s2 : T_floor_Span) (x38 : Int) (q2 : Int) : (List (List Int) × Int) → Option ((List (List Int) × Int) ⊕ List (List Int)) := fun (q5, q4) =>
 if 0 ≤ q4 then
  ck (inb q2 q5.length) <|
  lv (gt q5 q2) fun q0a =>
  ck (inb q4 q0a.length) <|
  lv (stt q0a q4 (-1)) fun q0d =>
  ar (q4 + 1) fun x68 =>
  lv (stt q5 q2 q0d) fun zr4 =>
  bd (
   if x68 < x38 then
    ck (inb q2 zr4.length) <|
    lv (gt zr4 q2) fun q8 =>
    ck (inb q2 zr4.length) <|
    ck (inb q2 zr4.length) <|
    ck (inb x68 q8.length) <|
    lv (gt q8 x68) fun x83 =>
    ck (inb q4 q8.length) <|
    lv (stt q8 q4 x83) fun q0c =>
    lv (stt zr4 q2 q0c) fun zr5 =>
    some zr5
   else
    some zr4) fun q3 =>
  ar (q2 + 1) fun x100 =>
  ck (inb x100 q3.length) <|
  lv (gt q3 x100) fun q0b =>
  ck (inb q2 want0.length) <|
  lv (gt want0 q2) fun x89 =>
  ck (inb q2 wide1.length) <|
  lv (gt wide1 q2) fun x93 =>
  ar (s2.From + q4) fun x97 =>
  ck (inb x100 q3.length) <|
  bd (P_legal_cost x89 x93 x97 q0b s2) fun q6 =>
  ck (q6.2 = true → inb q2 q3.length) <|
  ck (inb q2 q3.length) <|
  lv (gt q3 q2) fun q7 =>
  ck (q6.2 = true → inb q4 q7.length) <|
  lv (gt q7 q4) fun x115 =>
  ck ((q6.2 && !(decide (x115 < 0))) = true → inb q2 q3.length) <|
  ck ((q6.2 && !(decide (x115 < 0))) = true → inb q4 q7.length) <|
  lv ((decide (x115 < 0)) || (decide (q6.1 ≤ x115))) fun x127 =>
  lv (q6.2 && x127) fun x128 =>
  bd (
   if x128 = true then
    ck (inb q2 q3.length) <|
    ck (inb q4 q7.length) <|
    lv (stt q7 q4 q6.1) fun q0e =>
    lv (stt q3 q2 q0e) fun zr8 =>
    some zr8
   else
    some q3) fun q9 =>
  ar (q4 - 1) fun x60 =>
  some (Sum.inl (q9, x60))
 else
  some (Sum.inr q5)
def P_legal_Row_L9 (want0 : List Int) (wide1 : List Int) (s2 : T_floor_Span) (x38 : Int) (q5 : List Int) : (List (List Int) × Int) → Option ((List (List Int) × Int) ⊕ List (List Int)) := fun (q2, q3) =>
 if 0 ≤ q3 then
  ck (mkOk 8 x38) <|
  ck (inb q3 q2.length) <|
  lv (gt q2 q3) fun q6 =>
  lv (stt q2 q3 q5) fun zr3 =>
  ar (x38 - 1) fun x56 =>
  bd (
   lp (P_legal_Row_L13 want0 wide1 s2 x38 q3) fuel (zr3, x56)) fun q4 =>
  ar (q3 - 1) fun x49 =>
  some (Sum.inl (q4, x49))
 else
  some (Sum.inr q2)
def P_legal_Row_L26 (want0 : List Int) (wide1 : List Int) (s2 : T_floor_Span) (q3 : List (List Int)) (q2 : Int) : Int → Option (Int ⊕ Int) := fun q4 =>
 ar (q2 + 1) fun x156 =>
 ck (inb x156 q3.length) <|
 lv (gt q3 x156) fun q7 =>
 ck (inb q2 want0.length) <|
 lv (gt want0 q2) fun x145 =>
 ck (inb q2 wide1.length) <|
 lv (gt wide1 q2) fun x149 =>
 ar (s2.From + q4) fun x153 =>
 ck (inb x156 q3.length) <|
 bd (P_legal_cost x145 x149 x153 q7 s2) fun q5 =>
 ck (q5.2 = true → inb q2 q3.length) <|
 ck (inb q2 q3.length) <|
 lv (gt q3 q2) fun q6 =>
 ck (q5.2 = true → inb q4 q6.length) <|
 lv (gt q6 q4) fun x172 =>
 lv (q5.2 && (decide (q5.1 = x172))) fun x174 =>
 if x174 = true then
  some (Sum.inr q4)
 else
  ar (q4 + 1) fun x176 =>
  some (Sum.inl x176)
def P_legal_Row_L24 (want0 : List Int) (wide1 : List Int) (s2 : T_floor_Span) (q5 : List (List Int)) : (List Int × Int × Int) → Option ((List Int × Int × Int) ⊕ List Int) := fun (q3, q6, q2) =>
 if q2 < (want0.length : Int) then
  bd (
   lp (P_legal_Row_L26 want0 wide1 s2 q5 q2) fuel q6) fun q4 =>
  ar (s2.From + q4) fun x181 =>
  lv (q3 ++ [x181]) fun q7 =>
  ck (apOk 8 q7.length) <|
  ck (inb q2 wide1.length) <|
  lv (gt wide1 q2) fun x188 =>
  ar (q4 + x188) fun x189 =>
  ar (q2 + 1) fun x190 =>
  some (Sum.inl (q7, x189, x190))
 else
  some (Sum.inr q3)
def P_legal_Row (want0 : List Int) (wide1 : List Int) (s2 : T_floor_Span) : Option (List Int × Int) :=
 bd (P_legal_checkRow want0 wide1 s2) fun q5 =>
 if q5 ≠ 0 then
  some ([], q5)
 else
  ar ((want0.length : Int) + 1) fun x31 =>
  ck (mkOk 24 x31) <|
  lv ((List.replicate (x31 : Int).toNat [] : List (List Int))) fun q4 =>
  ar (s2.To - s2.From) fun x37 =>
  ar (x37 + 1) fun x38 =>
  ck (mkOk 8 x38) <|
  lv ((List.replicate (x38 : Int).toNat 0 : List Int)) fun q6 =>
  ck (inb (want0.length : Int) q4.length) <|
  lv (gt q4 (want0.length : Int)) fun q7 =>
  lv (stt q4 (want0.length : Int) q6) fun zr2 =>
  ar ((want0.length : Int) - 1) fun x45 =>
  bd (
   lp (P_legal_Row_L9 want0 wide1 s2 x38 q6) fuel (zr2, x45)) fun q2 =>
  bd (
   lp (P_legal_Row_L24 want0 wide1 s2 q2) fuel ([], 0, 0)) fun q3 =>
  some (q3, (0 : Int))
theorem c_legal_Row {w0 w : World} {l : List Assn} {ρ : Heap} {q0c : Option Addr} {q2c : Nat} {c_want0 : Nat} {q0d : Option Addr} {q2d : Nat} {c_wide1 : Nat} {want0 : List Int} {wide1 : List Int} {s2 : T_floor_Span} {r : (List Int × Int)} (hF : P_legal_Row want0 wide1 s2 = some r) (q0y : RdS (RpI .i64) ρ q0c q2c c_want0 want0) (q0g : RdS (RpI .i64) ρ q0d q2d c_wide1 wide1) (hS : St w0 w (ro ρ :: l)) :
  Calls Tryd.prog 27 #[.slice q0c q2c c_want0, .slice q0d q2d c_wide1, .agg #[.int .i64 s2.From, .int .i64 s2.To]] w fun e w' => ∃ (q22 : Option Addr) (q1f : Nat) (c_y0_ret : Nat) (q1v : List Value), e = .returned (.tuple #[.slice q22 q1f c_y0_ret, .int .i64 r.2]) ∧ RepL (RpI .i64) ρ r.1 q1v ∧ St w0 w' (vec 3 (RpI .i64).sz (.slice q22 q1f c_y0_ret) q1f q1v :: ro ρ :: l) := by
 have e_ := q0y.n; subst e_
 have e_ := q0g.n; subst e_
 refine enterC Tryd.func27 rfl 192 rfl (by simp) ?_
 refine x_seq <| x_region <| ?_
 refine o_box (cs := [.int .i64 s2.From, .int .i64 s2.To]) rfl rfl hS (fun b5 w' hS => ?_)
 replace hF := bd_s hF; obtain ⟨q23, q4r, hF⟩ := hF
 refine p (yl_assign rfl) <| p (yl_assign rfl) <| x_done <| x_seq <|
  x_seq <| x_region <| p (yl_move rfl) <| p (yl_move rfl) <|
  pa (v := .agg #[.int .i64 s2.From, .int .i64 s2.To]) (ld_sub agg_46 rfl rfl rfl hS) <| ?_
 have hcall := c_legal_checkRow q4r q0y q0g (hS.pull 1)
 refine o_cc call_50 (args3 rfl rfl rfl) ((Calls.mono hcall (fun e w'' h => And.intro h.1 (h.2.pull 1)))) ?_
 rintro e w' ⟨rfl, hS⟩
 refine ⟨_, rfl, ?_⟩
 refine p (v := .int .i64 q23) (yl_assign rfl) <| x_done <| x_seq <| x_region <|
  p (v := .int .i64 q23) (yl_move rfl) <| p (yl_neq rfl rfl) <| x_done <|
  x_cond_p (q23 ≠ 0) rfl (fun hc26 => ?_) (fun hc26 => ?_)
 ·replace hF := it_t hc26 hF
  refine x_seq <| x_region <| p (v := .int .i64 q23) (yl_move rfl) <| p (yl_assign rfl) <|
   p (v := .int .i64 q23) (yl_assign rfl) <| x_done <| ?_
  replace hS := St.vec_nil hS 3 (RpI .i64).sz
  have q20 : RepL (RpI .i64) ρ [] [] := rfl
  have e_ := sinj hF; subst e_
  exact x_return ⟨_, ⟨_, _, rfl, rfl, _, _, rfl, rfl, rfl⟩, none, 0, 0, [], rfl, q20, (((hS.pull 1).drop.pull 1).pull 1)⟩
 ·replace hF := it_f hc26 hF
  replace hF := ar_s hF; obtain ⟨x31, hx31, hF⟩ := hF
  refine x_skip <| x_seq <| x_region <| p (yl_move rfl) <|
   p (yl_len_slice usl_22 rfl) <| p (yl_assign rfl) <| x_done <| x_seq <|
   x_region <| p (yl_move rfl) <| p (yadd rfl rfl hx31) <| ?_
  replace hF := ck_s hF; obtain ⟨q4s, hF⟩ := hF
  replace hF := lv_s hF; obtain ⟨q3, q4t, hF⟩ := hF
  refine o_mk2 (ei := 3) (R := (RpI .i64)) sl_110 zero_22 (by decide) rfl rfl q4s q4t hS (fun A32 w' hS => ?_)
  replace hF := ar_s hF; obtain ⟨x37, hx37, hF⟩ := hF
  replace hF := ar_s hF; obtain ⟨x38, hx38, hF⟩ := hF
  refine p (yl_assign rfl) <| x_done <| x_seq <| x_region <|
   p (yl_field0 fld_46_1 rfl) <| pa (at_load one_3 rfl ((hS.pull 1).cell rfl)) <| p (yl_field0 fld_46_0 rfl) <| pa (at_load one_3 rfl ((hS.pull 1).cell rfl)) <|
   p (ysub rfl rfl hx37) <| p (yadd rfl rfl hx38) <| p (yl_assign rfl) <| x_done <|
   x_seq <| x_region <| p (yl_move rfl) <| p (yl_move rfl) <|
   p (yl_move rfl) <| ?_
  replace hF := ck_s hF; obtain ⟨q4u, hF⟩ := hF
  replace hF := lv_s hF; obtain ⟨q4y, q3c, hF⟩ := hF
  refine o_mk sl_22 zero_3 (show (RpI .i64).ok ρ _ 0 from rfl) rfl rfl q4u (by decide) q3c hS (fun A42 cs42 w' hr42 hS => ?_)
  replace hF := ck_s hF; obtain ⟨q21, hF⟩ := hF
  refine p (yix2 sl_110 rfl rfl (hS.pull 1) q21) <| ?_
  replace hF := lv_s hF; obtain ⟨q60, q47, hF⟩ := hF
  have q_ := St.open2 q21 (hS.pull 1); obtain ⟨q61, q62, q63, q5b, q1h, hS⟩ := q_
  rw [← q47] at q1h
  replace q1h := q1h ρ
  have e_ := St.vec_n hS q1h; subst e_
  refine o_put2 sz_22 rfl rfl rfl q21 (hS.pull 1) (fun w' hS => ?_)
  replace hF := lv_s hF; obtain ⟨zr2, hzr2, hF⟩ := hF
  replace hS := St.close2 q21 (fun _ => RepL.flat (fun h => h) hr42) (hS.pull 2)
  rw [← hzr2] at hS
  replace hF := ar_s hF; obtain ⟨x45, hx45, hF⟩ := hF
  refine x_done <| x_seq <| x_seq <| x_region <|
   p (yl_move rfl) <| p (ysub rfl rfl hx45) <| p (yl_assign rfl) <| x_done <| ?_
  replace hF := bd_s hF; obtain ⟨oL9, hLL9, hF⟩ := hF
  refine x_join (fun E w => ∃ (q0a : List (List Int)), q0a = oL9 ∧ E 0 = .slice q0c want0.length c_want0 ∧ E 1 = .slice q0d wide1.length c_wide1 ∧ E 5 = .pointer (some ⟨b5, 0, none⟩) ∧ E 10 = .slice A32 q3.length q3.length ∧ True ∧ St w0 w (cells b5 46 [.int .i64 s2.From, .int .i64 s2.To] :: vec2 22 3 (RpI .i64) A32 q3.length q3.length q0a :: ro ρ :: l)) ?_ ?_
  ·refine x_block ?_
   refine x_loop (fun k_ E w => ∃ (q0t : List (List Int)) (q7 : Int), lp (P_legal_Row_L9 want0 wide1 s2 x38 q4y) k_ (q0t, q7) = some oL9 ∧ E 0 = .slice q0c want0.length c_want0 ∧ E 1 = .slice q0d wide1.length c_wide1 ∧ E 5 = .pointer (some ⟨b5, 0, none⟩) ∧ E 10 = .slice A32 q3.length q3.length ∧ E 11 = .int .i64 x38 ∧ E 12 = .int .i64 q7 ∧ True ∧ St w0 w (cells b5 46 [.int .i64 s2.From, .int .i64 s2.To] :: vec2 22 3 (RpI .i64) A32 q3.length q3.length q0t :: ro ρ :: l)) fuel ⟨zr2, x45, hLL9, rfl, rfl, rfl, rfl, rfl, rfl, trivial, ((((hS.pull 1).drop.pull 2).pull 1).pull 2)⟩ ?_
   rintro kL9 E w ⟨q0t, q7, hLL9, q2k, q2l, q2m, q1l, q1m, q1n, q44, hS⟩
   replace hLL9 := lp_s hLL9; obtain ⟨kL9, obL9, rfl, hFL9, hLL9⟩ := hLL9
   refine x_seq <| x_seq <| x_region <| p (yl_move q1n) <|
    p (yl_geq rfl rfl) <| x_done <|
    x_cond_p (0 ≤ q7) rfl (fun hc47 => ?_) (fun hc47 => ?_)
   ·replace hFL9 := it_t hc47 hFL9
    refine x_skip <| x_seq <| x_block <| x_seq <|
     x_region <| p (yl_move q1l) <| p (yl_move q1n) <| p (yl_move q1m) <| ?_
    replace hFL9 := ck_s hFL9; obtain ⟨q48, hFL9⟩ := hFL9
    refine o_mk sl_22 zero_3 (show (RpI .i64).ok ρ _ 0 from rfl) rfl rfl q48 (by decide) q3c hS (fun A53 cs53 w' hr53 hS => ?_)
    replace hFL9 := ck_s hFL9; obtain ⟨q1i, hFL9⟩ := hFL9
    refine p (yix2 sl_110 rfl rfl (hS.pull 2) q1i) <| ?_
    replace hFL9 := lv_s hFL9; obtain ⟨q5c, q3f, hFL9⟩ := hFL9
    have q_ := St.open2 q1i (hS.pull 2); obtain ⟨q5d, q5e, q5f, q53, q1b, hS⟩ := q_
    rw [← q3f] at q1b
    replace q1b := q1b ρ
    have e_ := St.vec_n hS q1b; subst e_
    refine o_put2 sz_22 rfl rfl rfl q1i (hS.pull 1) (fun w' hS => ?_)
    replace hFL9 := lv_s hFL9; obtain ⟨zr3, hzr3, hFL9⟩ := hFL9
    replace hS := St.close2 q1i (fun _ => RepL.flat (fun h => h) hr53) (hS.pull 2)
    rw [← hzr3] at hS
    replace hFL9 := ar_s hFL9; obtain ⟨x56, hx56, hFL9⟩ := hFL9
    refine x_done <| x_seq <| x_region <| p (yl_move q1m) <|
     p (ysub rfl rfl hx56) <| p (yl_assign rfl) <| x_done <| ?_
    replace hFL9 := bd_s hFL9; obtain ⟨oL13, hLL13, hFL9⟩ := hFL9
    refine x_join (fun E w => ∃ (q0u : List (List Int)), q0u = oL13 ∧ E 0 = .slice q0c want0.length c_want0 ∧ E 1 = .slice q0d wide1.length c_wide1 ∧ E 5 = .pointer (some ⟨b5, 0, none⟩) ∧ E 10 = .slice A32 q3.length q3.length ∧ E 11 = .int .i64 x38 ∧ E 12 = .int .i64 q7 ∧ True ∧ St w0 w (cells b5 46 [.int .i64 s2.From, .int .i64 s2.To] :: vec2 22 3 (RpI .i64) A32 q3.length q3.length q0u :: ro ρ :: l)) ?_ ?_
    ·refine x_block ?_
     refine x_loop (fun k_ E w => ∃ (q0m : List (List Int)) (q0b : Int), lp (P_legal_Row_L13 want0 wide1 s2 x38 q7) k_ (q0m, q0b) = some oL13 ∧ E 0 = .slice q0c want0.length c_want0 ∧ E 1 = .slice q0d wide1.length c_wide1 ∧ E 5 = .pointer (some ⟨b5, 0, none⟩) ∧ E 10 = .slice A32 q3.length q3.length ∧ E 11 = .int .i64 x38 ∧ E 12 = .int .i64 q7 ∧ E 13 = .int .i64 q0b ∧ True ∧ St w0 w (cells b5 46 [.int .i64 s2.From, .int .i64 s2.To] :: vec2 22 3 (RpI .i64) A32 q3.length q3.length q0m :: ro ρ :: l)) fuel ⟨zr3, x56, hLL13, q2k, q2l, q2m, q1l, q1m, q1n, rfl, trivial, ((((hS.pull 1).drop.pull 2).pull 1).pull 2)⟩ ?_
     rintro kL13 E w ⟨q0m, q0b, hLL13, q1o, q1p, q1q, q0q, q17, q0r, q0f, q3g, hS⟩
     replace hLL13 := lp_s hLL13; obtain ⟨kL13, obL13, rfl, hFL13, hLL13⟩ := hLL13
     refine x_seq <| x_seq <| x_region <| p (yl_move q0f) <|
      p (yl_geq rfl rfl) <| x_done <|
      x_cond_p (0 ≤ q0b) rfl (fun hc58 => ?_) (fun hc58 => ?_)
     ·replace hFL13 := it_t hc58 hFL13
      replace hFL13 := ck_s hFL13; obtain ⟨q24, hFL13⟩ := hFL13
      refine x_skip <| x_seq <| x_block <| x_seq <|
       x_region <| p (yl_move q0q) <| p (yl_move q0r) <| p (yix2 sl_110 rfl rfl (hS.pull 1) q24) <| ?_
      replace hFL13 := lv_s hFL13; obtain ⟨q5g, q3h, hFL13⟩ := hFL13
      have q_ := St.open2 q24 (hS.pull 1); obtain ⟨q5h, q5i, q5j, q54, q0z, hS⟩ := q_
      rw [← q3h] at q0z
      replace q0z := q0z ρ
      have e_ := St.vec_n hS q0z; subst e_
      replace hFL13 := ck_s hFL13; obtain ⟨q2n, hFL13⟩ := hFL13
      refine pa (at_load one_22 rfl (hole_cell (hS.pull 1))) <| p (yl_move q0f) <| p (yix_o sl_22 rfl rfl hS q0z q2n) <| ?_
      replace hFL13 := lv_s hFL13; obtain ⟨q64, q49, hFL13⟩ := hFL13
      refine o_put' (news := [.int .i64 (-1)]) sz_3 rfl rfl rfl rfl (o := 0) rfl q2n rfl hS q0z (Le.refl _) (fun c hc => ok_all hc (show (RpI .i64).ok ρ [.int .i64 (-1)] (-1) from rfl)) q49 (fun q5k w' q4a hS => ?_)
      replace hFL13 := ar_s hFL13; obtain ⟨x68, hx68, hFL13⟩ := hFL13
      refine x_done <| x_seq <| x_seq <| x_region <|
       p (yl_move q0f) <| p (yadd rfl rfl hx68) <| p (yl_move q17) <| p (yl_lss rfl rfl) <|
       x_done <| ?_
      replace hFL13 := lv_s hFL13; obtain ⟨zr4, hzr4, hFL13⟩ := hFL13
      replace hS := St.close2 q24 (fun _ => RepL.flat (fun h => h) q4a) ((hS.pull 1).pull 1)
      rw [← hzr4] at hS
      replace hFL13 := bd_s hFL13; obtain ⟨oc70, hFc70, hFL13⟩ := hFL13
      refine x_join (fun E w => ∃ (q0v : List (List Int)), q0v = oc70 ∧ E 0 = .slice q0c want0.length c_want0 ∧ E 1 = .slice q0d wide1.length c_wide1 ∧ E 5 = .pointer (some ⟨b5, 0, none⟩) ∧ E 10 = .slice A32 q3.length q3.length ∧ E 11 = .int .i64 x38 ∧ E 12 = .int .i64 q7 ∧ E 13 = .int .i64 q0b ∧ True ∧ St w0 w (cells b5 46 [.int .i64 s2.From, .int .i64 s2.To] :: vec2 22 3 (RpI .i64) A32 q3.length q3.length q0v :: ro ρ :: l)) ?_ ?_
      ·refine x_cond_p (x68 < x38) rfl (fun hc70 => ?_) (fun hc70 => ?_)
       ·replace hFc70 := it_t hc70 hFc70
        replace hFc70 := ck_s hFc70; obtain ⟨q2o, hFc70⟩ := hFc70
        replace hFc70 := lv_s hFc70; obtain ⟨q5l, q3i, hFc70⟩ := hFc70
        have q_ := St.open2 q2o hS; obtain ⟨q5m, q5n, q5o, q55, q0h, hS⟩ := q_
        rw [← q3i] at q0h
        replace q0h := q0h ρ
        have e_ := St.vec_n hS q0h; subst e_
        replace hFc70 := ck_s hFc70; obtain ⟨q4b, hFc70⟩ := hFc70
        replace hFc70 := ck_s hFc70; obtain ⟨q4c, hFc70⟩ := hFc70
        replace hFc70 := ck_s hFc70; obtain ⟨q2e, hFc70⟩ := hFc70
        replace hFc70 := lv_s hFc70; obtain ⟨x83, hx83, hFc70⟩ := hFc70
        replace hFc70 := ck_s hFc70; obtain ⟨q2f, hFc70⟩ := hFc70
        refine x_head 14 mixed (by kernel_rfl) hS _ _ rfl rfl <| q (yl_move q0q) <| q (yl_move q0r) <| q (yix2h sl_110 rfl rfl (hS.pull 1) q4b) <|
         qa (fun w' hS => at_load one_22 rfl (hole_cell (hS.pull 1))) <| q (yl_move q0f) <| q (yl_move q0q) <| q (yl_move q0r) <|
         q (yix2h sl_110 rfl rfl (hS.pull 1) q4c) <| qa (fun w' hS => at_load one_22 rfl (hole_cell (hS.pull 1))) <| q (yl_move q0f) <| q (yadd rfl rfl hx68) <|
         q (yix_o sl_22 rfl rfl hS q0h q2e) <| qa (fun w' hS => at_load one_3 rfl (RepL.getW q0h hS q2e hx83)) <| q (yix_o sl_22 rfl rfl hS q0h q2f) <|
         q_done fun w' hS => ?_
        replace hFc70 := lv_s hFc70; obtain ⟨q5p, q3j, hFc70⟩ := hFc70
        refine o_put' (news := [.int .i64 x83]) sz_3 rfl rfl rfl rfl (o := 0) rfl q2f rfl hS q0h (Le.refl _) (fun c hc => ok_all hc (show (RpI .i64).ok ρ [.int .i64 x83] x83 from rfl)) q3j (fun q56 w' q3k hS => ?_)
        refine x_done <| ?_
        replace hFc70 := lv_s hFc70; obtain ⟨zr5, hzr5, hFc70⟩ := hFc70
        replace hS := St.close2 q2o (fun _ => RepL.flat (fun h => h) q3k) ((hS.pull 1).pull 1)
        rw [← hzr5] at hS
        exact x_inv ⟨zr5, (sinj hFc70), q1o, q1p, q1q, q0q, q17, q0r, q0f, trivial, (((hS.pull 2).pull 1).pull 2)⟩
       ·replace hFc70 := it_f hc70 hFc70
        refine x_skip <| ?_
        exact x_inv ⟨zr4, (sinj hFc70), q1o, q1p, q1q, q0q, q17, q0r, q0f, trivial, (((hS.pull 2).pull 1).pull 2)⟩
      rintro E w ⟨q0v, rfl, q25, q26, q1j, q10, q2g, q0i, q11, q45, hS⟩
      replace hFL13 := ar_s hFL13; obtain ⟨x100, hx100, hFL13⟩ := hFL13
      replace hFL13 := ck_s hFL13; obtain ⟨q27, hFL13⟩ := hFL13
      refine x_seq <| ?_
      replace hFL13 := lv_s hFL13; obtain ⟨q4z, q1w, hFL13⟩ := hFL13
      have q_ := St.open2 q27 (hS.pull 1); obtain ⟨q50, q51, q52, q4x, q0j, hS⟩ := q_
      rw [← q1w] at q0j
      replace q0j := q0j ρ
      have e_ := St.vec_n hS q0j; subst e_
      replace hFL13 := ck_s hFL13; obtain ⟨q2p, hFL13⟩ := hFL13
      replace hFL13 := lv_s hFL13; obtain ⟨x89, hx89, hFL13⟩ := hFL13
      replace hFL13 := ck_s hFL13; obtain ⟨q2q, hFL13⟩ := hFL13
      replace hFL13 := lv_s hFL13; obtain ⟨x93, hx93, hFL13⟩ := hFL13
      replace hFL13 := ar_s hFL13; obtain ⟨x97, hx97, hFL13⟩ := hFL13
      replace hFL13 := ck_s hFL13; obtain ⟨q3l, hFL13⟩ := hFL13
      replace hFL13 := bd_s hFL13; obtain ⟨q2, q3m, hFL13⟩ := hFL13
      refine x_still mixed (by kernel_rfl) hS <| q (yl_move q25) <| q (yl_move q0i) <| q (yix_f sl_22 rfl rfl q0y q2p) <|
       qa (fun w' hS => at_load one_3 rfl (RdS.getW q0y (hS.pull 3) q2p hx89)) <| q (yl_move q26) <| q (yl_move q0i) <| q (yix_f sl_22 rfl rfl q0g q2q) <|
       qa (fun w' hS => at_load one_3 rfl (RdS.getW q0g (hS.pull 3) q2q hx93)) <| q (yl_field0 fld_46_0 q1j) <| qa (fun w' hS => at_load one_3 rfl ((hS.pull 2).cell rfl)) <| q (yl_move q11) <|
       q (yadd rfl rfl hx97) <| q (yl_move q10) <| q (yl_move q0i) <| q (yadd rfl rfl hx100) <|
       q (yix2h sl_110 rfl rfl (hS.pull 1) q3l) <| qa (fun w' hS => at_load one_22 rfl (hole_cell (hS.pull 1))) <| qa (v := .agg #[.int .i64 s2.From, .int .i64 s2.To]) (fun w' hS => ld_sub agg_46 q1j rfl rfl (hS.pull 2)) <| qcc (v := .tuple #[.int .i64 q2.1, .bool q2.2]) call_51 (args5 rfl rfl rfl rfl rfl) (fun w' hS => by
        have q_ := St.lend ((hS.pull 3).pull 1) q0j; obtain ⟨ρl0, hll0, hlf0, hS0, back0⟩ := q_
        have hcall := c_legal_cost q3m hlf0 hS0
        exact (Calls.mono hcall (fun e w'' h => And.intro h.1 (((((back0 h.2).pull 1).pull 3).pull 3).pull 3)))) <|
       q (v := .tuple #[.int .i64 q2.1, .bool q2.2]) (yl_move rfl) <| q (yl_extract rfl rfl) <| q (yl_extract rfl rfl) <| q (yl_assign rfl) <|
       q (yl_assign rfl) <|
       q_done fun w' hS => ?_
      replace hFL13 := ck_s hFL13; obtain ⟨q4d, hFL13⟩ := hFL13
      refine x_seq <| x_region <| p (yl_move rfl) <| p (yl_move rfl) <|
       pg (v := .slice A32 q3.length q3.length) 108 (c := q2.2) (says_t _) (fun hq => Yl.at (yl_move q10)) <| pg (v := .int .i64 q7) 108 (c := q2.2) (says_t _) (fun hq => Yl.at (yl_move q0i)) <| pg (v := .pointer (some ((adr A32).add (q7.toNat * 1)))) 108 (c := q2.2) (says_t _) (fun hq => Yl.at (yix2h sl_110 (cv hq) (cv hq) (hS.pull 1) (q4d hq))) <| ?_
      replace hS := St.close2s q1w q27 (fun _ => RepL.flat (fun h => h) q0j) ((hS.pull 1).pull 1)
      replace hFL13 := ck_s hFL13; obtain ⟨q2r, hFL13⟩ := hFL13
      replace hFL13 := lv_s hFL13; obtain ⟨q2s, q1r, hFL13⟩ := hFL13
      have q_ := St.open2 q2r hS; obtain ⟨q1k, q5q, q2t, q57, q0e, hS⟩ := q_
      rw [← q1r] at q0e
      replace q0e := q0e ρ
      have e_ := St.vec_n hS q0e; subst e_
      replace hFL13 := ck_s hFL13; obtain ⟨q2u, hFL13⟩ := hFL13
      replace hFL13 := lv_s hFL13; obtain ⟨x115, hx115, hFL13⟩ := hFL13
      replace hFL13 := ck_s hFL13; obtain ⟨q3n, hFL13⟩ := hFL13
      replace hFL13 := ck_s hFL13; obtain ⟨q2h, hFL13⟩ := hFL13
      replace hFL13 := lv_s hFL13; obtain ⟨x127, hx127, hFL13⟩ := hFL13
      replace hFL13 := lv_s hFL13; obtain ⟨x128, hx128, hFL13⟩ := hFL13
      refine pg (v := .slice q1k q2s.length q2t) 108 (c := q2.2) (says_t _) (fun hq => at_load one_22 (cv hq) (hole_cell (hS.pull 1))) <| pg (v := .int .i64 q0b) 108 (c := q2.2) (says_t _) (fun hq => Yl.at (yl_move q11)) <| pg (v := .pointer (some ((adr q1k).add (q0b.toNat * (RpI .i64).sz)))) 108 (c := q2.2) (says_t _) (fun hq => Yl.at (yix_o sl_22 (cv hq) (cv hq) hS q0e (q2u hq))) <| pg (v := .int .i64 x115) 108 (c := q2.2) (says_t _) (fun hq => at_load one_3 (cv hq) (RepL.getW q0e hS (q2u hq) hx115)) <|
       pg (v := .bool (decide (x115 < 0))) 108 (c := q2.2) (says_t _) (fun hq => Yl.at (yl_lss (cv hq) rfl)) <| pg (v := .bool (decide (x115 < 0))) 108 (c := q2.2) (says_t _) (fun hq => Yl.at (yl_move (cv hq))) <| pg (v := .int .i64 q2.1) 117 (c := q2.2 && !(decide (x115 < 0))) (says_iff _ _) (fun hq => Yl.at (yl_move rfl)) <| pg (v := .slice A32 q3.length q3.length) 117 (c := q2.2 && !(decide (x115 < 0))) (says_iff _ _) (fun hq => Yl.at (yl_move q10)) <|
       pg (v := .int .i64 q7) 117 (c := q2.2 && !(decide (x115 < 0))) (says_iff _ _) (fun hq => Yl.at (yl_move q0i)) <| pg (v := .pointer (some ((adr A32).add (q7.toNat * 1)))) 117 (c := q2.2 && !(decide (x115 < 0))) (says_iff _ _) (fun hq => Yl.at (yix2h sl_110 (cv hq) (cv hq) (hS.pull 1) (q3n hq))) <| pg (v := .slice q1k q2s.length q2t) 117 (c := q2.2 && !(decide (x115 < 0))) (says_iff _ _) (fun hq => at_load one_22 (cv hq) (hole_cell (hS.pull 1))) <| pg (v := .int .i64 q0b) 117 (c := q2.2 && !(decide (x115 < 0))) (says_iff _ _) (fun hq => Yl.at (yl_move q11)) <|
       pg (v := .pointer (some ((adr q1k).add (q0b.toNat * (RpI .i64).sz)))) 117 (c := q2.2 && !(decide (x115 < 0))) (says_iff _ _) (fun hq => Yl.at (yix_o sl_22 (cv hq) (cv hq) hS q0e (q2h hq))) <| pg (v := .int .i64 x115) 117 (c := q2.2 && !(decide (x115 < 0))) (says_iff _ _) (fun hq => at_load one_3 (cv hq) (RepL.getW q0e hS (q2h hq) hx115)) <| pg (v := .bool (decide (q2.1 ≤ x115))) 117 (c := q2.2 && !(decide (x115 < 0))) (says_iff _ _) (fun hq => Yl.at (yl_leq (cv hq) (cv hq))) <| pg (v := .bool x127) 108 (c := q2.2) (says_t _) (fun hq => Yl.at (yor' (cv hq) rfl (fun hc => (cv (and_i hq (t_not hc)))) hx127)) <|
       p (yand' rfl (fun hc => (cv hc)) rfl hx128) <| x_done <| ?_
      replace hS := St.close2s q1r q2r (fun _ => RepL.flat (fun h => h) q0e) ((hS.pull 1).pull 1)
      replace hFL13 := bd_s hFL13; obtain ⟨oc128, hFc128, hFL13⟩ := hFL13
      refine x_join (fun E w => ∃ (q0n : List (List Int)), q0n = oc128 ∧ E 0 = .slice q0c want0.length c_want0 ∧ E 1 = .slice q0d wide1.length c_wide1 ∧ E 5 = .pointer (some ⟨b5, 0, none⟩) ∧ E 10 = .slice A32 q3.length q3.length ∧ E 11 = .int .i64 x38 ∧ E 12 = .int .i64 q7 ∧ E 13 = .int .i64 q0b ∧ True ∧ St w0 w (cells b5 46 [.int .i64 s2.From, .int .i64 s2.To] :: vec2 22 3 (RpI .i64) A32 q3.length q3.length q0n :: ro ρ :: l)) ?_ ?_
      ·refine x_cond (t := x128) rfl (fun hc128 => ?_) (fun hc128 => ?_)
       ·replace hFc128 := it_t hc128 hFc128
        replace hFc128 := ck_s hFc128; obtain ⟨q28, hFc128⟩ := hFc128
        refine x_region <| p (yl_move q10) <| p (yl_move q0i) <| p (yix2 sl_110 rfl rfl hS q28) <| ?_
        have q_ := St.open2 q28 hS; obtain ⟨q5r, q5s, q5t, q58, q12, hS⟩ := q_
        rw [← q1r] at q12
        replace q12 := q12 ρ
        have e_ := St.vec_n hS q12; subst e_
        replace hFc128 := ck_s hFc128; obtain ⟨q2v, hFc128⟩ := hFc128
        refine pa (at_load one_22 rfl (hole_cell (hS.pull 1))) <| p (yl_move q11) <| p (yl_move rfl) <| p (yix_o sl_22 rfl rfl hS q12 q2v) <| ?_
        replace hFc128 := lv_s hFc128; obtain ⟨q65, q4e, hFc128⟩ := hFc128
        refine o_put' (news := [.int .i64 q2.1]) sz_3 rfl rfl rfl rfl (o := 0) rfl q2v rfl hS q12 (Le.refl _) (fun c hc => ok_all hc (show (RpI .i64).ok ρ [.int .i64 q2.1] q2.1 from rfl)) q4e (fun q5u w' q4f hS => ?_)
        refine x_done <| ?_
        replace hFc128 := lv_s hFc128; obtain ⟨zr8, hzr8, hFc128⟩ := hFc128
        replace hS := St.close2 q28 (fun _ => RepL.flat (fun h => h) q4f) ((hS.pull 1).pull 1)
        rw [← hzr8] at hS
        exact x_inv ⟨zr8, (sinj hFc128), q25, q26, q1j, q10, q2g, q0i, q11, trivial, (((hS.pull 2).pull 1).pull 2)⟩
       ·replace hFc128 := it_bf hc128 hFc128
        refine x_skip <| ?_
        exact x_inv ⟨q0v, (sinj hFc128), q25, q26, q1j, q10, q2g, q0i, q11, trivial, (((hS.pull 2).pull 1).pull 2)⟩
      rintro E w ⟨q0n, rfl, q3o, q3p, q3q, q34, q35, q36, q37, q3r, hS⟩
      replace hFL13 := ar_s hFL13; obtain ⟨x60, hx60, hFL13⟩ := hFL13
      refine x_blk <| x_region <| p (yl_move q37) <| p (ysub rfl rfl hx60) <|
       p (yl_assign rfl) <| x_done <| ?_
      have e_ := sinj hFL13; subst e_
      exact x_inv ⟨kL13, Nat.lt_succ_self _, q0n, x60, hLL13, q3o, q3p, q3q, q34, q35, q36, rfl, trivial, (((hS.pull 2).pull 2).pull 2)⟩
     ·replace hFL13 := it_f hc58 hFL13
      refine x_exitTo _ rfl <| ?_
      have e_ := sinj hFL13; subst e_
      exact x_inv ⟨q0m, hLL13, q1o, q1p, q1q, q0q, q17, q0r, trivial, (((hS.pull 2).pull 2).pull 2)⟩
    rintro E w ⟨q0u, rfl, q4g, q4h, q4i, q3s, q3t, q3u, q46, hS⟩
    replace hFL9 := ar_s hFL9; obtain ⟨x49, hx49, hFL9⟩ := hFL9
    refine x_blk <| x_region <| p (yl_move q3u) <| p (ysub rfl rfl hx49) <|
     p (yl_assign rfl) <| x_done <| ?_
    have e_ := sinj hFL9; subst e_
    exact x_inv ⟨kL9, Nat.lt_succ_self _, q0u, x49, hLL9, q4g, q4h, q4i, q3s, q3t, rfl, trivial, (((hS.pull 2).pull 2).pull 2)⟩
   ·replace hFL9 := it_f hc47 hFL9
    refine x_exitTo _ rfl <| ?_
    have e_ := sinj hFL9; subst e_
    exact x_inv ⟨q0t, hLL9, q2k, q2l, q2m, q1l, trivial, (((hS.pull 2).pull 2).pull 2)⟩
  rintro E w ⟨q0a, rfl, q3d, q4v, q4w, q4j, q4k, hS⟩
  refine x_seq <| x_region <| p (yl_assign rfl) <| x_done <|
   x_seq <| x_region <| p (yl_assign rfl) <| x_done <|
   x_seq <| x_seq <| x_region <| p (yl_move q3d) <|
   p (yl_len_slice usl_22 rfl) <| p (yl_move rfl) <| x_done <| ?_
  replace hF := bd_s hF; obtain ⟨oL24, hLL24, hF⟩ := hF
  refine x_join (fun E w => ∃ (q0w : Option Addr) (q0x : Nat) (c_out16_L24 : Nat) (q0o : List Value) (q15 : List Int), q15 = oL24 ∧ E 16 = .slice q0w q0x c_out16_L24 ∧ RepL (RpI .i64) ρ q15 q0o ∧ St w0 w (vec 3 (RpI .i64).sz (.slice q0w q0x c_out16_L24) q0x q0o :: ro ρ :: l)) ?_ ?_
  ·refine x_block ?_
   replace hS := St.vec_nil hS 3 (RpI .i64).sz
   have q1d : RepL (RpI .i64) ρ [] [] := rfl
   refine x_loop (fun k_ E w => ∃ (q5 : Option Addr) (q0p : Nat) (c_out16_L24h : Nat) (q9 : List Value) (q4 : List Int) (q16 : Int) (q6 : Int), lp (P_legal_Row_L24 want0 wide1 s2 q0a) k_ (q4, q16, q6) = some oL24 ∧ E 0 = .slice q0c want0.length c_want0 ∧ E 1 = .slice q0d wide1.length c_wide1 ∧ E 5 = .pointer (some ⟨b5, 0, none⟩) ∧ E 10 = .slice A32 q3.length q3.length ∧ E 16 = .slice q5 q0p c_out16_L24h ∧ E 17 = .int .i64 q16 ∧ E 137 = .int .i64 (want0.length : Int) ∧ E 138 = .int .i64 q6 ∧ RepL (RpI .i64) ρ q4 q9 ∧ St w0 w (cells b5 46 [.int .i64 s2.From, .int .i64 s2.To] :: vec2 22 3 (RpI .i64) A32 q3.length q3.length q0a :: vec 3 (RpI .i64).sz (.slice q5 q0p c_out16_L24h) q0p q9 :: ro ρ :: l)) fuel ⟨none, 0, 0, [], [], 0, 0, hLL24, q3d, q4v, q4w, q4j, rfl, rfl, rfl, rfl, q1d, ((((hS.pull 3).pull 1).pull 3).pull 3)⟩ ?_
   rintro kL24 E w ⟨q5, q0p, c_out16_L24h, q9, q4, q16, q6, hLL24, q3v, q3w, q3x, q38, q29, q39, q1x, q1a, q14, hS⟩
   have e_ := St.vec_n (hS.pull 2) q14; subst e_
   replace hLL24 := lp_s hLL24; obtain ⟨kL24, obL24, rfl, hFL24, hLL24⟩ := hLL24
   refine x_seq <| x_region <| p (yl_lss q1a q1x) <| x_done <|
    x_seq <|
    x_cond_p (q6 < (want0.length : Int)) rfl (fun hc139 => ?_) (fun hc139 => ?_)
   ·replace hFL24 := it_t hc139 hFL24
    refine x_skip <| x_seq <| x_block <| x_seq <|
     x_region <| p (yl_move q1a) <| p (yl_assign rfl) <| x_done <|
     x_seq <| ?_
    replace hFL24 := bd_s hFL24; obtain ⟨oL26, hLL26, hFL24⟩ := hFL24
    refine x_join (fun E w => ∃ (q1g : Int), q1g = oL26 ∧ E 0 = .slice q0c want0.length c_want0 ∧ E 1 = .slice q0d wide1.length c_wide1 ∧ E 5 = .pointer (some ⟨b5, 0, none⟩) ∧ E 10 = .slice A32 q3.length q3.length ∧ E 16 = .slice q5 q4.length c_out16_L24h ∧ E 17 = .int .i64 q1g ∧ E 18 = .int .i64 q6 ∧ E 137 = .int .i64 (want0.length : Int) ∧ E 138 = .int .i64 q6 ∧ St w0 w (cells b5 46 [.int .i64 s2.From, .int .i64 s2.To] :: vec2 22 3 (RpI .i64) A32 q3.length q3.length q0a :: vec 3 (RpI .i64).sz (.slice q5 q4.length c_out16_L24h) q4.length q9 :: ro ρ :: l)) ?_ ?_
    ·refine x_block ?_
     refine x_loop (fun k_ E w => ∃ (q0k : Int), lp (P_legal_Row_L26 want0 wide1 s2 q0a q6) k_ q0k = some oL26 ∧ E 0 = .slice q0c want0.length c_want0 ∧ E 1 = .slice q0d wide1.length c_wide1 ∧ E 5 = .pointer (some ⟨b5, 0, none⟩) ∧ E 10 = .slice A32 q3.length q3.length ∧ E 16 = .slice q5 q4.length c_out16_L24h ∧ E 17 = .int .i64 q0k ∧ E 18 = .int .i64 q6 ∧ E 137 = .int .i64 (want0.length : Int) ∧ E 138 = .int .i64 q6 ∧ St w0 w (cells b5 46 [.int .i64 s2.From, .int .i64 s2.To] :: vec2 22 3 (RpI .i64) A32 q3.length q3.length q0a :: vec 3 (RpI .i64).sz (.slice q5 q4.length c_out16_L24h) q4.length q9 :: ro ρ :: l)) fuel ⟨q16, hLL26, q3v, q3w, q3x, q38, q29, q39, rfl, q1x, q1a, ((((hS.pull 3).pull 3).pull 3).pull 3)⟩ ?_
     rintro kL26 E w ⟨q0k, hLL26, q1s, q1t, q1c, q18, q2a, q19, q0s, q1y, q1z, hS⟩
     replace hLL26 := lp_s hLL26; obtain ⟨kL26, obL26, rfl, hFL26, hLL26⟩ := hLL26
     unfold P_legal_Row_L26 at hFL26
     replace hFL26 := ar_s hFL26; obtain ⟨x156, hx156, hFL26⟩ := hFL26
     replace hFL26 := ck_s hFL26; obtain ⟨q2w, hFL26⟩ := hFL26
     refine x_block <| x_seq <| x_seq <| ?_
     replace hFL26 := lv_s hFL26; obtain ⟨q5v, q2i, hFL26⟩ := hFL26
     have q_ := St.open2 q2w (hS.pull 1); obtain ⟨q5w, q5x, q5y, q59, q13, hS⟩ := q_
     rw [← q2i] at q13
     replace q13 := q13 ρ
     have e_ := St.vec_n hS q13; subst e_
     replace hFL26 := ck_s hFL26; obtain ⟨q2x, hFL26⟩ := hFL26
     replace hFL26 := lv_s hFL26; obtain ⟨x145, hx145, hFL26⟩ := hFL26
     replace hFL26 := ck_s hFL26; obtain ⟨q2y, hFL26⟩ := hFL26
     replace hFL26 := lv_s hFL26; obtain ⟨x149, hx149, hFL26⟩ := hFL26
     replace hFL26 := ar_s hFL26; obtain ⟨x153, hx153, hFL26⟩ := hFL26
     replace hFL26 := ck_s hFL26; obtain ⟨q3y, hFL26⟩ := hFL26
     replace hFL26 := bd_s hFL26; obtain ⟨q8, q3z, hFL26⟩ := hFL26
     refine x_still mixed (by kernel_rfl) hS <| q (yl_move q1s) <| q (yl_move q0s) <| q (yix_f sl_22 rfl rfl q0y q2x) <|
      qa (fun w' hS => at_load one_3 rfl (RdS.getW q0y (hS.pull 4) q2x hx145)) <| q (yl_move q1t) <| q (yl_move q0s) <| q (yix_f sl_22 rfl rfl q0g q2y) <|
      qa (fun w' hS => at_load one_3 rfl (RdS.getW q0g (hS.pull 4) q2y hx149)) <| q (yl_field0 fld_46_0 q1c) <| qa (fun w' hS => at_load one_3 rfl ((hS.pull 2).cell rfl)) <| q (yl_move q19) <|
      q (yadd rfl rfl hx153) <| q (yl_move q18) <| q (yl_move q0s) <| q (yadd rfl rfl hx156) <|
      q (yix2h sl_110 rfl rfl (hS.pull 1) q3y) <| qa (fun w' hS => at_load one_22 rfl (hole_cell (hS.pull 1))) <| qa (v := .agg #[.int .i64 s2.From, .int .i64 s2.To]) (fun w' hS => ld_sub agg_46 q1c rfl rfl (hS.pull 2)) <| qcc (v := .tuple #[.int .i64 q8.1, .bool q8.2]) call_51 (args5 rfl rfl rfl rfl rfl) (fun w' hS => by
       have q_ := St.lend ((hS.pull 4).pull 1) q13; obtain ⟨ρl0, hll0, hlf0, hS0, back0⟩ := q_
       have hcall := c_legal_cost q3z hlf0 hS0
       exact (Calls.mono hcall (fun e w'' h => And.intro h.1 ((((((back0 h.2).pull 1).pull 4).pull 4).pull 4).pull 4)))) <|
      q (v := .tuple #[.int .i64 q8.1, .bool q8.2]) (yl_move rfl) <| q (yl_extract rfl rfl) <| q (yl_extract rfl rfl) <| q (yl_assign rfl) <|
      q (yl_assign rfl) <|
      q_done fun w' hS => ?_
     replace hFL26 := ck_s hFL26; obtain ⟨q4l, hFL26⟩ := hFL26
     refine x_seq <| x_region <| p (yl_move rfl) <| p (yl_move rfl) <|
      pg (v := .int .i64 q8.1) 164 (c := q8.2) (says_t _) (fun hq => Yl.at (yl_move rfl)) <| pg (v := .slice A32 q3.length q3.length) 164 (c := q8.2) (says_t _) (fun hq => Yl.at (yl_move q18)) <| pg (v := .int .i64 q6) 164 (c := q8.2) (says_t _) (fun hq => Yl.at (yl_move q0s)) <| pg (v := .pointer (some ((adr A32).add (q6.toNat * 1)))) 164 (c := q8.2) (says_t _) (fun hq => Yl.at (yix2h sl_110 (cv hq) (cv hq) (hS.pull 1) (q4l hq))) <| ?_
     replace hS := St.close2s q2i q2w (fun _ => RepL.flat (fun h => h) q13) ((hS.pull 1).pull 1)
     replace hFL26 := ck_s hFL26; obtain ⟨q2b, hFL26⟩ := hFL26
     replace hFL26 := lv_s hFL26; obtain ⟨q4m, q1u, hFL26⟩ := hFL26
     have q_ := St.open2 q2b hS; obtain ⟨q2z, q5z, q4n, q5a, q0l, hS⟩ := q_
     rw [← q1u] at q0l
     replace q0l := q0l ρ
     have e_ := St.vec_n hS q0l; subst e_
     replace hFL26 := ck_s hFL26; obtain ⟨q30, hFL26⟩ := hFL26
     replace hFL26 := lv_s hFL26; obtain ⟨x172, hx172, hFL26⟩ := hFL26
     replace hFL26 := lv_s hFL26; obtain ⟨x174, hx174, hFL26⟩ := hFL26
     refine pg (v := .slice q2z q4m.length q4n) 164 (c := q8.2) (says_t _) (fun hq => at_load one_22 (cv hq) (hole_cell (hS.pull 1))) <| pg (v := .int .i64 q0k) 164 (c := q8.2) (says_t _) (fun hq => Yl.at (yl_move q19)) <| pg (v := .pointer (some ((adr q2z).add (q0k.toNat * (RpI .i64).sz)))) 164 (c := q8.2) (says_t _) (fun hq => Yl.at (yix_o sl_22 (cv hq) (cv hq) hS q0l (q30 hq))) <| pg (v := .int .i64 x172) 164 (c := q8.2) (says_t _) (fun hq => at_load one_3 (cv hq) (RepL.getW q0l hS (q30 hq) hx172)) <|
      pg (v := .bool (decide (q8.1 = x172))) 164 (c := q8.2) (says_t _) (fun hq => Yl.at (yl_eql (cv hq) (cv hq))) <| p (yand' rfl (fun hc => (cv hc)) rfl hx174) <| x_done <|
      x_cond (t := x174) rfl (fun hc174 => ?_) (fun hc174 => ?_)
     ·replace hFL26 := it_t hc174 hFL26
      refine x_exitTo _ rfl <| ?_
      replace hS := St.close2s q1u q2b (fun _ => RepL.flat (fun h => h) q0l) ((hS.pull 1).pull 1)
      have e_ := sinj hFL26; subst e_
      exact x_inv ⟨q0k, hLL26, q1s, q1t, q1c, q18, q2a, q19, q0s, q1y, q1z, ((((hS.pull 3).pull 3).pull 2).pull 3)⟩
     ·replace hFL26 := it_bf hc174 hFL26
      replace hFL26 := ar_s hFL26; obtain ⟨x176, hx176, hFL26⟩ := hFL26
      refine x_skip <| x_region <| p (yl_move q19) <| p (yadd rfl rfl hx176) <|
       p (yl_assign rfl) <| x_done <| x_blk <| ?_
      replace hS := St.close2s q1u q2b (fun _ => RepL.flat (fun h => h) q0l) ((hS.pull 1).pull 1)
      have e_ := sinj hFL26; subst e_
      exact x_inv ⟨kL26, Nat.lt_succ_self _, x176, hLL26, q1s, q1t, q1c, q18, q2a, rfl, q0s, q1y, q1z, ((((hS.pull 3).pull 3).pull 2).pull 3)⟩
    rintro E w ⟨q1g, rfl, q4o, q31, q32, q40, q41, q2j, q42, q3a, q3b, hS⟩
    replace hFL24 := ar_s hFL24; obtain ⟨x181, hx181, hFL24⟩ := hFL24
    refine x_seq <| x_region <| p (yl_move q41) <| p (yl_field0 fld_46_0 q32) <|
     pa (at_load one_3 rfl (hS.cell rfl)) <| p (yl_move q2j) <| p (yadd rfl rfl hx181) <| ?_
    refine o_buildSlice (vs := [.int .i64 x181]) (cs := [.int .i64 x181]) sl_22 zero_3 (parts_eq (pt (va := .int .i64 x181) rfl pt0)) rfl (by intro v hv; simp only [List.mem_cons, List.not_mem_nil, or_false] at hv; first | (subst hv; rfl) | (rcases hv with rfl <;> rfl)) (by decide) rfl hS (fun b182 w' hS => ?_)
    replace hFL24 := lv_s hFL24; obtain ⟨q3e, q4p, hFL24⟩ := hFL24
    replace hFL24 := ck_s hFL24; obtain ⟨q4q, hFL24⟩ := hFL24
    refine o_ap sl_22 zero_3 rfl (by decide) rfl rfl (hS.pull 3) q14 (src_blk usl_22 hS rfl rfl) (RepL.cons (R := (RpI .i64)) (ρ := ρ) (x := x181) (cs := [.int .i64 x181]) rfl RepL.nil) q4p q4q (fun A183 c183 cs183 w' hr183 hS => ?_)
    replace hFL24 := ck_s hFL24; obtain ⟨q33, hFL24⟩ := hFL24
    replace hFL24 := lv_s hFL24; obtain ⟨x188, hx188, hFL24⟩ := hFL24
    replace hFL24 := ar_s hFL24; obtain ⟨x189, hx189, hFL24⟩ := hFL24
    replace hFL24 := ar_s hFL24; obtain ⟨x190, hx190, hFL24⟩ := hFL24
    refine p (yl_assign rfl) <| x_done <| x_region <| p (yl_move q2j) <|
     p (yl_move q31) <| p (yl_move q42) <| p (yix_f sl_22 rfl rfl q0g q33) <| pa (at_load one_3 rfl (RdS.getW q0g (hS.pull 4) q33 hx188)) <|
     p (yadd rfl rfl hx189) <| p (yl_assign rfl) <| x_done <| x_blk <|
     x_region <| p (yadd q3b rfl hx190) <| p (yl_move rfl) <| x_done <| ?_
    have e_ := sinj hFL24; subst e_
    exact x_inv ⟨kL24, Nat.lt_succ_self _, A183, q3e.length, c183, cs183, q3e, x189, x190, hLL24, q4o, q31, q32, q40, rfl, rfl, q3a, rfl, hr183, (((((hS.pull 1).drop.pull 3).pull 1).pull 3).pull 3)⟩
   ·replace hFL24 := it_f hc139 hFL24
    refine x_exitTo _ rfl <| ?_
    have e_ := sinj hFL24; subst e_
    exact x_inv ⟨q5, q4.length, c_out16_L24h, q9, q4, hLL24, q29, q14, ((hS.drop.drop.pull 1).pull 1)⟩
  rintro E w ⟨q0w, q0x, c_out16_L24, q0o, q15, rfl, q43, q1e, hS⟩
  have e_ := St.vec_n hS q1e; subst e_
  refine x_seq <| x_region <| p (yl_move q43) <| p (yl_assign rfl) <|
   p (yl_assign rfl) <| x_done <| ?_
  have e_ := sinj hF; subst e_
  exact x_return ⟨_, ⟨_, _, rfl, rfl, _, _, rfl, rfl, rfl⟩, q0w, q15.length, c_out16_L24, q0o, rfl, q1e, ((hS.pull 1).pull 1)⟩
attribute [irreducible] P_legal_Row

def P_slices_Equal_int_int_L4 (s10 : List Int) (s21 : List Int) : Int → Option (Int ⊕ (Unit ⊕ Bool)) := fun q2 =>
 if q2 < (s10.length : Int) then
  ck (inb q2 s10.length) <|
  lv (gt s10 q2) fun x19 =>
  ck (inb q2 s21.length) <|
  lv (gt s21 q2) fun x23 =>
  if x19 ≠ x23 then
   some (Sum.inr (Sum.inr false))
  else
   ar (q2 + 1) fun x25 =>
   some (Sum.inl x25)
 else
  some (Sum.inr (Sum.inl ()))
def P_slices_Equal_int_int (s10 : List Int) (s21 : List Int) : Option Bool :=
 if (s10.length : Int) ≠ (s21.length : Int) then
  some false
 else
  bs (
   lp (P_slices_Equal_int_int_L4 s10 s21) fuel 0) (fun y => some y) fun _ =>
  some true
theorem c_slices_Equal_int_int {w0 w : World} {l : List Assn} {ρ : Heap} {q5 : Option Addr} {q0b : Nat} {c_s10 : Nat} {q6 : Option Addr} {q0c : Nat} {c_s21 : Nat} {s10 : List Int} {s21 : List Int} {r : Bool} (hF : P_slices_Equal_int_int s10 s21 = some r) (q7 : RdS (RpI .i64) ρ q5 q0b c_s10 s10) (q8 : RdS (RpI .i64) ρ q6 q0c c_s21 s21) (hS : St w0 w (ro ρ :: l)) :
  Calls Tryd.prog 28 #[.slice q5 q0b c_s10, .slice q6 q0c c_s21] w fun e w' => e = .returned (.bool r) ∧ St w0 w' (ro ρ :: l) := by
 have e_ := q7.n; subst e_
 have e_ := q8.n; subst e_
 refine enterC Tryd.func28 rfl 26 rfl (by simp) ?_
 refine x_seq <| x_region <| p (yl_assign rfl) <| x_done <|
  x_seq <| x_seq <| x_region <| p (yl_move rfl) <|
  p (yl_len_slice usl_22 rfl) <| p (yl_move rfl) <| p (yl_len_slice usl_22 rfl) <| p (yl_neq rfl rfl) <|
  x_done <|
  x_cond_p ((s10.length : Int) ≠ (s21.length : Int)) rfl (fun hc10 => ?_) (fun hc10 => ?_)
 ·replace hF := it_t hc10 hF
  refine x_seq <| x_region <| p (yl_assign rfl) <| x_done <| ?_
  have e_ := sinj hF; subst e_
  exact x_return ⟨_, ⟨_, _, rfl, rfl, rfl⟩, rfl, hS⟩
 ·replace hF := it_f hc10 hF
  refine x_skip <| x_seq <| x_seq <| x_region <|
   p (yl_move rfl) <| p (yl_len_slice usl_22 rfl) <| p (yl_move rfl) <| x_done <| ?_
  replace hF := bs_s hF; obtain ⟨oL4, hLL4, hF⟩ := hF
  refine x_join (fun E w => (Sum.inl (())) = oL4 ∧ St w0 w (ro ρ :: l)) ?_ ?_
  ·refine x_block ?_
   refine x_loop (fun k_ E w => ∃ (q2 : Int), lp (P_slices_Equal_int_int_L4 s10 s21) k_ q2 = some oL4 ∧ E 0 = .slice q5 s10.length c_s10 ∧ E 1 = .slice q6 s21.length c_s21 ∧ E 12 = .int .i64 (s10.length : Int) ∧ E 13 = .int .i64 q2 ∧ St w0 w (ro ρ :: l)) fuel ⟨0, hLL4, rfl, rfl, rfl, rfl, hS⟩ ?_
   rintro kL4 E w ⟨q2, hLL4, q9, q0a, q4, q3, hS⟩
   replace hLL4 := lp_s hLL4; obtain ⟨kL4, obL4, rfl, hFL4, hLL4⟩ := hLL4
   refine x_seq <| x_region <| p (yl_lss q3 q4) <| x_done <|
    x_seq <|
    x_cond_p (q2 < (s10.length : Int)) rfl (fun hc14 => ?_) (fun hc14 => ?_)
   ·replace hFL4 := it_t hc14 hFL4
    replace hFL4 := ck_s hFL4; obtain ⟨q0d, hFL4⟩ := hFL4
    replace hFL4 := lv_s hFL4; obtain ⟨x19, hx19, hFL4⟩ := hFL4
    replace hFL4 := ck_s hFL4; obtain ⟨q0e, hFL4⟩ := hFL4
    replace hFL4 := lv_s hFL4; obtain ⟨x23, hx23, hFL4⟩ := hFL4
    refine x_skip <| x_seq <| x_block <| x_seq <|
     x_region <| p (yl_move q3) <| p (yl_assign rfl) <| x_done <|
     x_seq <| x_still mixed (by kernel_rfl) hS <| q (yl_move q9) <| q (yl_move rfl) <|
     q (yix_f sl_22 rfl rfl q7 q0d) <| qa (fun w' hS => at_load one_3 rfl (RdS.getW q7 hS q0d hx19)) <| q (yl_move q0a) <| q (yl_move rfl) <|
     q (yix_f sl_22 rfl rfl q8 q0e) <| qa (fun w' hS => at_load one_3 rfl (RdS.getW q8 hS q0e hx23)) <| q (yl_neq rfl rfl) <|
     q_done fun w' hS => ?_
    refine x_cond_p (x19 ≠ x23) rfl (fun hc24 => ?_) (fun hc24 => ?_)
    ·replace hFL4 := it_t hc24 hFL4
     refine x_seq <| x_region <| p (yl_assign rfl) <| x_done <| ?_
     have e_ := sinj hFL4; subst e_
     have e_ := (show _ = oL4 from hLL4); subst e_
     have e_ := sinj hF; subst e_
     exact x_return ⟨_, ⟨_, _, rfl, rfl, rfl⟩, rfl, hS⟩
    ·replace hFL4 := it_f hc24 hFL4
     replace hFL4 := ar_s hFL4; obtain ⟨x25, hx25, hFL4⟩ := hFL4
     refine x_skip <| x_blk <| x_region <| p (yadd q3 rfl hx25) <|
      p (yl_move rfl) <| x_done <| ?_
     have e_ := sinj hFL4; subst e_
     exact x_inv ⟨kL4, Nat.lt_succ_self _, x25, hLL4, q9, q0a, q4, rfl, hS⟩
   ·replace hFL4 := it_f hc14 hFL4
    refine x_exitTo _ rfl <| ?_
    have e_ := sinj hFL4; subst e_
    exact x_inv ⟨hLL4, hS⟩
  rintro E w ⟨rfl, hS⟩
  refine x_seq <| x_region <| p (yl_assign rfl) <| x_done <| ?_
  have e_ := sinj hF; subst e_
  exact x_return ⟨_, ⟨_, _, rfl, rfl, rfl⟩, rfl, hS⟩
attribute [irreducible] P_slices_Equal_int_int

def P_maskkeep4_rows : Option Bool :=
 bd (P_legal_Row ([2, 2] : List Int) ([2, 2] : List Int) (T_floor_Span.mk 0 10)) fun q3 =>
 bd (
  if (decide (q3.2 = 0)) = true then
   bd (P_slices_Equal_int_int q3.1 ([1, 3] : List Int)) fun q4 =>
   some q4
  else
   some false) fun q2 =>
 some q2
theorem c_maskkeep4_rows {w0 w : World} {l : List Assn} {ρ : Heap} {r : Bool} (hF : P_maskkeep4_rows = some r) (hS : St w0 w (ro ρ :: l)) :
  Calls Tryd.prog 9 #[] w fun e w' => e = .returned (.bool r) ∧ St w0 w' (ro ρ :: l) := by
 refine enterC Tryd.func9 rfl 17 rfl (by simp) ?_
 refine x_seq <| x_region <| p (yl_assign rfl) <| x_done <|
  x_seq <| x_region <| ?_
 refine o_buildSlice (vs := [.int .i64 2, .int .i64 2]) (cs := [.int .i64 2, .int .i64 2]) sl_22 zero_3 (parts_eq (pt (va := .int .i64 2) rfl (pt (va := .int .i64 2) rfl pt0))) rfl (by intro v hv; simp only [List.mem_cons, List.not_mem_nil, or_false] at hv; first | (subst hv; rfl) | (rcases hv with rfl | rfl <;> rfl)) (by decide) rfl hS (fun b4 w' hS => ?_)
 refine o_buildSlice (vs := [.int .i64 2, .int .i64 2]) (cs := [.int .i64 2, .int .i64 2]) sl_22 zero_3 (parts_eq (pt (va := .int .i64 2) rfl (pt (va := .int .i64 2) rfl pt0))) rfl (by intro v hv; simp only [List.mem_cons, List.not_mem_nil, or_false] at hv; first | (subst hv; rfl) | (rcases hv with rfl | rfl <;> rfl)) (by decide) rfl hS (fun b5 w' hS => ?_)
 refine p (v := .agg #[.int .i64 0, .int .i64 10]) (yl_build bld_46 bldf_46 (parts_eq (pt (va := .int .i64 0) rfl (pt (va := .int .i64 10) rfl pt0))) (by kernel_rfl)) <| ?_
 have q0d : RepL (RpI .i64) ρ ([2, 2] : List Int) [.int .i64 2, .int .i64 2] := (RepL.cons (cs := [.int .i64 2]) rfl (RepL.cons (cs := [.int .i64 2]) rfl RepL.nil))
 replace hS := St.vec_of (n := 2) (sz := (RpI .i64).sz) (hS.pull 1) rfl (by decide)
 have q0b : RepL (RpI .i64) ρ ([2, 2] : List Int) [.int .i64 2, .int .i64 2] := (RepL.cons (cs := [.int .i64 2]) rfl (RepL.cons (cs := [.int .i64 2]) rfl RepL.nil))
 replace hS := St.vec_of (n := 2) (sz := (RpI .i64).sz) (hS.pull 1) rfl (by decide)
 replace hF := bd_s hF; obtain ⟨q5, q0e, hF⟩ := hF
 have q_ := St.lend ((hS.pull 2).pull 2) q0d; obtain ⟨ρl0, hll0, hlf0, hS0, back0⟩ := q_
 have q_ := St.lend (hS0.pull 1) (q0b.le hll0); obtain ⟨ρl1, hll1, hlf1, hS1, back1⟩ := q_
 have hcall := c_legal_Row q0e (hlf0.le hll1) hlf1 hS1
 refine o_cc call_27 (args3 rfl rfl rfl) hcall ?_
 rintro e w' ⟨q6, q0c, c_y0_ret_1_3, q8, rfl, q3, hS⟩
 refine ⟨_, rfl, ?_⟩
 replace hS := back1 (hS.pull 1)
 replace hS := back0 (hS.pull 1)
 replace q3 : RepL (RpI .i64) ρ q5.1 q8 := RepL.flat (fun h => h) q3
 have e_ := St.vec_n (hS.pull 3) q3; subst e_
 refine p (yl_move rfl) <| p (yl_extract rfl rfl) <| p (yl_extract rfl rfl) <| p (yl_assign rfl) <|
  p (yl_assign rfl) <| x_done <| x_seq <| x_region <|
  p (yl_move rfl) <| p (yl_eql rfl rfl) <| p (yl_move rfl) <| pg (v := .slice q6 q5.1.length c_y0_ret_1_3) 12 (c := decide (q5.2 = 0)) (says_t _) (fun hq => Yl.at (yl_move rfl)) <| ?_
 replace hF := bd_s hF; obtain ⟨q0f, q2, hF⟩ := hF
 refine x_join_ops (fun E w => ∃ (q7 : Bool), q7 = q0f ∧ E 0 = .bool q7 ∧ St w0 w (ro ρ :: l)) ?_ ?_
 ·refine x_split (decide (q5.2 = 0)) (fun q4 => ?_) (fun q4 => ?_)
  ·replace q2 := it_t q4 q2
   refine o_strip 12 true (says_lit (c := true) (Eq.trans (show _ = Value.bool (decide (q5.2 = 0)) from rfl) (congrArg Value.bool q4)) rfl) <| ?_
   refine o_buildSlice (vs := [.int .i64 1, .int .i64 3]) (cs := [.int .i64 1, .int .i64 3]) sl_22 zero_3 (parts_eq (pt (va := .int .i64 1) rfl (pt (va := .int .i64 3) rfl pt0))) rfl (by intro v hv; simp only [List.mem_cons, List.not_mem_nil, or_false] at hv; first | (subst hv; rfl) | (rcases hv with rfl | rfl <;> rfl)) (by decide) rfl hS (fun b14 w' hS => ?_)
   refine o_strip 12 true (says_lit (c := true) (Eq.trans (show _ = Value.bool (decide (q5.2 = 0)) from rfl) (congrArg Value.bool q4)) rfl) <| ?_
   have q0g : RepL (RpI .i64) ρ ([1, 3] : List Int) [.int .i64 1, .int .i64 3] := (RepL.cons (cs := [.int .i64 1]) rfl (RepL.cons (cs := [.int .i64 3]) rfl RepL.nil))
   replace hS := St.vec_of (n := 2) (sz := (RpI .i64).sz) hS rfl (by decide)
   replace q2 := bd_s q2; obtain ⟨q9, q0h, q2⟩ := q2
   have q_ := St.lend ((hS.pull 2).pull 4) q3; obtain ⟨ρl0, hll0, hlf0, hS0, back0⟩ := q_
   have q_ := St.lend (hS0.pull 1) (q0g.le hll0); obtain ⟨ρl1, hll1, hlf1, hS1, back1⟩ := q_
   have hcall := c_slices_Equal_int_int q0h (hlf0.le hll1) hlf1 hS1
   refine o_cc call_28 (args2 (Eq.trans (show _ = (bif decide (q5.2 = 0) then .slice q6 q5.1.length c_y0_ret_1_3 else undef) from rfl) (cv q4)) rfl) ((Calls.mono hcall (fun e w'' h => And.intro h.1 (((((back0 ((back1 h.2).pull 1)).pull 4).pull 2).pull 4).pull 4)))) ?_
   rintro e w' ⟨rfl, hS⟩
   refine ⟨_, rfl, ?_⟩
   refine p (v := .bool q9) (yl_pick (b := true) (Eq.trans (show _ = Value.bool (decide (q5.2 = 0)) from rfl) (congrArg Value.bool q4)) (fun h => rfl) (fun h => nomatch h)) <| p (v := .bool q9) (yl_assign rfl) <| x_done <| ?_
   exact x_inv ⟨q9, (sinj q2), rfl, (((hS.drop.drop.pull 1).drop.pull 1).drop)⟩
  ·replace q2 := it_bf q4 q2
   refine o_pass 14 12 true (says_lit (c := false) (Eq.trans (show _ = Value.bool (decide (q5.2 = 0)) from rfl) (congrArg Value.bool q4)) rfl) <| o_pass 15 12 true (says_lit (c := false) (Eq.trans (show _ = Value.bool (decide (q5.2 = 0)) from rfl) (congrArg Value.bool q4)) rfl) <| p (yl_pick (b := false) (Eq.trans (show _ = Value.bool (decide (q5.2 = 0)) from rfl) (congrArg Value.bool q4)) (fun h => nomatch h) (fun h => rfl)) <| p (yl_assign rfl) <|
    x_done <| ?_
   exact x_inv ⟨false, (sinj q2), rfl, (((hS.drop.pull 1).drop.pull 1).drop)⟩
 rintro E w ⟨q7, rfl, q0a, hS⟩
 have e_ := sinj hF; subst e_
 exact x_return ⟨_, ⟨_, _, rfl, q0a, rfl⟩, rfl, hS⟩
attribute [irreducible] P_maskkeep4_rows

def P_floor_Check_2_L6 (f0 : T_floor_Floor) : Int → Option (Int ⊕ (Unit ⊕ Int)) := fun q2 =>
 if q2 < (f0.Blocks.length : Int) then
  ck (inb q2 f0.Blocks.length) <|
  lv (gt f0.Blocks q2) fun q3 =>
  ar (f0.Rows - 1) fun x54 =>
  bd (P_floor_within q3.Row 0 x54) fun q4 =>
  ck ((!(!q4)) = true → I64 (f0.Sites - 1)) <|
  lv (f0.Sites - 1) fun x62 =>
  bd (gd (!(!q4)) (P_floor_within q3.From 0 x62)) fun q5 =>
  lv ((!q4) || (!q5)) fun x65 =>
  ck ((!x65) = true → I64 (q3.From + 1)) <|
  lv (q3.From + 1) fun x71 =>
  bd (gd (!x65) (P_floor_within q3.To x71 f0.Sites)) fun q6 =>
  lv (x65 || (!q6)) fun x76 =>
  if x76 = true then
   some (Sum.inr (Sum.inr (2 : Int)))
  else
   ar (q2 + 1) fun x77 =>
   some (Sum.inl x77)
 else
  some (Sum.inr (Sum.inl ()))
def P_floor_Check_2_L13 (f0 : T_floor_Floor) (q2 : (Int × Int)) : Int → Option (Int ⊕ (Unit ⊕ Int)) := fun q3 =>
 if q3 < (f0.Walls.length : Int) then
  ck (inb q3 f0.Walls.length) <|
  lv (gt f0.Walls q3) fun q4 =>
  ar (f0.Layers - 1) fun x94 =>
  bd (P_floor_within q4.Layer 0 x94) fun q5 =>
  ck ((!(!q5)) = true → I64 (q2.1 - 1)) <|
  lv (q2.1 - 1) fun x101 =>
  bd (gd (!(!q5)) (P_floor_within q4.X0 0 x101)) fun q6 =>
  lv ((!q5) || (!q6)) fun x104 =>
  ck ((!x104) = true → I64 (q2.2 - 1)) <|
  lv (q2.2 - 1) fun x109 =>
  bd (gd (!x104) (P_floor_within q4.Y0 0 x109)) fun q7 =>
  lv (x104 || (!q7)) fun x112 =>
  ck ((!x112) = true → I64 (q2.1 - 1)) <|
  lv (q2.1 - 1) fun x119 =>
  bd (gd (!x112) (P_floor_within q4.X1 q4.X0 x119)) fun q8 =>
  lv (x112 || (!q8)) fun x122 =>
  ck ((!x122) = true → I64 (q2.2 - 1)) <|
  lv (q2.2 - 1) fun x129 =>
  bd (gd (!x122) (P_floor_within q4.Y1 q4.Y0 x129)) fun q9 =>
  lv (x122 || (!q9)) fun x132 =>
  if x132 = true then
   some (Sum.inr (Sum.inr (2 : Int)))
  else
   ar (q3 + 1) fun x133 =>
   some (Sum.inl x133)
 else
  some (Sum.inr (Sum.inl ()))
def P_floor_Check_2_L19 (f0 : T_floor_Floor) : Int → Option (Int ⊕ (Unit ⊕ Int)) := fun q2 =>
 if q2 < (f0.Ports.length : Int) then
  bd (P_floor_checkPort f0 q2) fun q3 =>
  if q3 ≠ 0 then
   some (Sum.inr (Sum.inr q3))
  else
   ar (q2 + 1) fun x146 =>
   some (Sum.inl x146)
 else
  some (Sum.inr (Sum.inl ()))
def P_floor_Check_2 (f0 : T_floor_Floor) : Option Int :=
 bd (P_floor_within f0.Rows 1 20) fun q2 =>
 bd (gd (!(!q2)) (P_floor_within f0.Sites 1 40)) fun q5 =>
 lv ((!q2) || (!q5)) fun x20 =>
 bd (gd (!x20) (P_floor_within f0.Layers 2 6)) fun q3 =>
 lv (x20 || (!q3)) fun x26 =>
 if x26 = true then
  some (2 : Int)
 else
  lv ((decide (32 < (f0.Blocks.length : Int))) || (decide (32 < (f0.Walls.length : Int)))) fun x36 =>
  lv (x36 || (decide (200 < (f0.Ports.length : Int)))) fun x42 =>
  if x42 = true then
   some (3 : Int)
  else
   bs (
    lp (P_floor_Check_2_L6 f0) fuel 0) (fun y => some y) fun _ =>
   bd (P_floor_Size f0) fun q4 =>
   bs (
    lp (P_floor_Check_2_L13 f0 q4) fuel 0) (fun y => some y) fun _ =>
   bs (
    lp (P_floor_Check_2_L19 f0) fuel 0) (fun y => some y) fun _ =>
   some (0 : Int)
theorem c_floor_Check_2 {w0 w : World} {l : List Assn} {ρ : Heap} {q4 : Option Addr} {q0w : Nat} {c_f0_3 : Nat} {q3 : Option Addr} {q0x : Nat} {c_f0_4 : Nat} {q5 : Option Addr} {q0y : Nat} {c_f0_5 : Nat} {f0 : T_floor_Floor} {r : Int} (hF : P_floor_Check_2 f0 = some r) (q0a : RdS R_floor_Block ρ q4 q0w c_f0_3 f0.Blocks) (q0b : RdS R_floor_Wall ρ q3 q0x c_f0_4 f0.Walls) (q0o : RdS R_floor_Port ρ q5 q0y c_f0_5 f0.Ports) (hS : St w0 w (ro ρ :: l)) :
  Calls Tryd.prog 10 #[.agg #[.int .i64 f0.Rows, .int .i64 f0.Sites, .int .i64 f0.Layers, .slice q4 q0w c_f0_3, .slice q3 q0x c_f0_4, .slice q5 q0y c_f0_5]] w fun e w' => e = .returned (.int .i64 r) ∧ St w0 w' (ro ρ :: l) := by
 have e_ := q0a.n; subst e_
 have e_ := q0b.n; subst e_
 have e_ := q0o.n; subst e_
 refine enterC Tryd.func10 rfl 147 rfl (by simp) ?_
 refine x_seq <| x_region <| ?_
 refine o_box (cs := [.int .i64 f0.Rows, .int .i64 f0.Sites, .int .i64 f0.Layers, .slice q4 f0.Blocks.length c_f0_3, .slice q3 f0.Walls.length c_f0_4, .slice q5 f0.Ports.length c_f0_5]) rfl rfl hS (fun b1 w' hS => ?_)
 replace hF := bd_s hF; obtain ⟨q0u, q1u, hF⟩ := hF
 refine p (yl_assign rfl) <| x_done <| x_seq <| x_seq <|
  x_region <| p (yl_field0 fld_30_0 rfl) <| pa (at_load one_3 rfl (hS.cell rfl)) <| ?_
 have hcall := c_floor_within q1u  (hS.pull 1)
 refine o_cc call_29 (args3 rfl rfl rfl) ((Calls.mono hcall (fun e w'' h => And.intro h.1 (h.2.pull 1)))) ?_
 rintro e w' ⟨rfl, hS⟩
 refine ⟨_, rfl, ?_⟩
 replace hF := bd_s hF; obtain ⟨q1j, q1v, hF⟩ := hF
 refine p (yl_not rfl) <| p (yl_move rfl) <| pg (v := .pointer (some ⟨b1, 1, none⟩)) 15 (c := !(!q0u)) (says_f _) (fun hq => Yl.at (yl_field0 fld_30_1 rfl)) <| pg (v := .int .i64 f0.Sites) 15 (c := !(!q0u)) (says_f _) (fun hq => at_load one_3 (cv hq) (hS.cell rfl)) <|
  pccg (v := .bool q1j) 15 (c := !(!q0u)) (says_f _) call_29 (fun hq => (args3 (cv hq) rfl rfl)) hS (fun hq => by
   have hcall := c_floor_within (gd_t q1v hq)  (hS.pull 1)
   exact (Calls.mono hcall (fun e w'' h => And.intro h.1 (h.2.pull 1)))) (fun w' hS => ?_)
 replace hF := lv_s hF; obtain ⟨x20, hx20, hF⟩ := hF
 replace hF := bd_s hF; obtain ⟨q16, q1k, hF⟩ := hF
 refine pg (v := .bool (!q1j)) 15 (c := !(!q0u)) (says_f _) (fun hq => Yl.at (yl_not (cv hq))) <| p (yor' rfl rfl (fun hc => (cv (t_not hc))) hx20) <| p (yl_move rfl) <| pg (v := .pointer (some ⟨b1, 2, none⟩)) 21 (c := !x20) (says_f _) (fun hq => Yl.at (yl_field0 fld_30_2 rfl)) <|
  pg (v := .int .i64 f0.Layers) 21 (c := !x20) (says_f _) (fun hq => at_load one_3 (cv hq) (hS.cell rfl)) <|
  pccg (v := .bool q16) 21 (c := !x20) (says_f _) call_29 (fun hq => (args3 (cv hq) rfl rfl)) hS (fun hq => by
   have hcall := c_floor_within (gd_t q1k hq)  (hS.pull 1)
   exact (Calls.mono hcall (fun e w'' h => And.intro h.1 (h.2.pull 1)))) (fun w' hS => ?_)
 replace hF := lv_s hF; obtain ⟨x26, hx26, hF⟩ := hF
 refine pg (v := .bool (!q16)) 21 (c := !x20) (says_f _) (fun hq => Yl.at (yl_not (cv hq))) <| p (yor' rfl rfl (fun hc => (cv (t_not hc))) hx26) <| x_done <|
  x_cond (t := x26) rfl (fun hc26 => ?_) (fun hc26 => ?_)
 ·replace hF := it_t hc26 hF
  refine x_seq <| x_region <| p (yl_assign rfl) <| x_done <| ?_
  have e_ := sinj hF; subst e_
  exact x_return ⟨_, ⟨_, _, rfl, rfl, rfl⟩, rfl, hS.drop⟩
 ·replace hF := it_bf hc26 hF
  replace hF := lv_s hF; obtain ⟨x36, hx36, hF⟩ := hF
  replace hF := lv_s hF; obtain ⟨x42, hx42, hF⟩ := hF
  refine x_skip <| x_seq <| x_seq <| x_region <|
   p (yl_field0 fld_30_3 rfl) <| pa (at_load one_26 rfl (hS.cell rfl)) <| p (yl_len_slice usl_26 rfl) <| p (yl_gtr rfl rfl) <|
   p (yl_move rfl) <| pg (v := .pointer (some ⟨b1, 4, none⟩)) 31 (c := !(decide (32 < (f0.Blocks.length : Int)))) (says_f _) (fun hq => Yl.at (yl_field0 fld_30_4 rfl)) <| pg (v := .slice q3 f0.Walls.length c_f0_4) 31 (c := !(decide (32 < (f0.Blocks.length : Int)))) (says_f _) (fun hq => at_load one_27 (cv hq) (hS.cell rfl)) <| pg (v := .int .i64 (f0.Walls.length : Int)) 31 (c := !(decide (32 < (f0.Blocks.length : Int)))) (says_f _) (fun hq => Yl.at (yl_len_slice usl_27 (cv hq))) <|
   pg (v := .bool (decide (32 < (f0.Walls.length : Int)))) 31 (c := !(decide (32 < (f0.Blocks.length : Int)))) (says_f _) (fun hq => Yl.at (yl_gtr (cv hq) rfl)) <| p (yor' rfl rfl (fun hc => (cv (t_not hc))) hx36) <| p (yl_move rfl) <| pg (v := .pointer (some ⟨b1, 5, none⟩)) 37 (c := !x36) (says_f _) (fun hq => Yl.at (yl_field0 fld_30_5 rfl)) <|
   pg (v := .slice q5 f0.Ports.length c_f0_5) 37 (c := !x36) (says_f _) (fun hq => at_load one_28 (cv hq) (hS.cell rfl)) <| pg (v := .int .i64 (f0.Ports.length : Int)) 37 (c := !x36) (says_f _) (fun hq => Yl.at (yl_len_slice usl_28 (cv hq))) <| pg (v := .bool (decide (200 < (f0.Ports.length : Int)))) 37 (c := !x36) (says_f _) (fun hq => Yl.at (yl_gtr (cv hq) rfl)) <| p (yor' rfl rfl (fun hc => (cv (t_not hc))) hx42) <|
   x_done <|
   x_cond (t := x42) rfl (fun hc42 => ?_) (fun hc42 => ?_)
  ·replace hF := it_t hc42 hF
   refine x_seq <| x_region <| p (yl_assign rfl) <| x_done <| ?_
   have e_ := sinj hF; subst e_
   exact x_return ⟨_, ⟨_, _, rfl, rfl, rfl⟩, rfl, hS.drop⟩
  ·replace hF := it_bf hc42 hF
   refine x_skip <| x_seq <| x_seq <| x_region <|
    p (yl_field0 fld_30_3 rfl) <| pa (at_load one_26 rfl (hS.cell rfl)) <| p (yl_len_slice usl_26 rfl) <| p (yl_move rfl) <|
    x_done <| ?_
   replace hF := bs_s hF; obtain ⟨oL6, hLL6, hF⟩ := hF
   refine x_join (fun E w => (Sum.inl (())) = oL6 ∧ E 1 = .pointer (some ⟨b1, 0, none⟩) ∧ St w0 w (cells b1 30 [.int .i64 f0.Rows, .int .i64 f0.Sites, .int .i64 f0.Layers, .slice q4 f0.Blocks.length c_f0_3, .slice q3 f0.Walls.length c_f0_4, .slice q5 f0.Ports.length c_f0_5] :: ro ρ :: l)) ?_ ?_
   ·refine x_block ?_
    refine x_loop (fun k_ E w => ∃ (q0e : Int), lp (P_floor_Check_2_L6 f0) k_ q0e = some oL6 ∧ E 1 = .pointer (some ⟨b1, 0, none⟩) ∧ E 44 = .slice q4 f0.Blocks.length c_f0_3 ∧ E 45 = .int .i64 (f0.Blocks.length : Int) ∧ E 46 = .int .i64 q0e ∧ St w0 w (cells b1 30 [.int .i64 f0.Rows, .int .i64 f0.Sites, .int .i64 f0.Layers, .slice q4 f0.Blocks.length c_f0_3, .slice q3 f0.Walls.length c_f0_4, .slice q5 f0.Ports.length c_f0_5] :: ro ρ :: l)) fuel ⟨0, hLL6, rfl, rfl, rfl, rfl, ((hS.pull 1).pull 1)⟩ ?_
    rintro kL6 E w ⟨q0e, hLL6, q0c, q0r, q0s, q0j, hS⟩
    replace hLL6 := lp_s hLL6; obtain ⟨kL6, obL6, rfl, hFL6, hLL6⟩ := hLL6
    refine x_seq <| x_region <| p (yl_lss q0j q0s) <| x_done <|
     x_seq <|
     x_cond_p (q0e < (f0.Blocks.length : Int)) rfl (fun hc47 => ?_) (fun hc47 => ?_)
    ·replace hFL6 := it_t hc47 hFL6
     replace hFL6 := ck_s hFL6; obtain ⟨q17, hFL6⟩ := hFL6
     replace hFL6 := lv_s hFL6; obtain ⟨q8, q1w, hFL6⟩ := hFL6
     have q_ := q0a.get q17; obtain ⟨q20, q18, q1x⟩ := q_
     rw [← q1w] at q18
     have e_ := q18; subst e_
     refine x_skip <| x_seq <| x_block <| x_seq <|
      x_region <| p (yix_f sl_26 q0r q0j q0a q17) <| pa (v := .agg #[.int .i64 q8.Row, .int .i64 q8.From, .int .i64 q8.To]) (at_loadAgg agg_68 rfl rfl (Elt.every q1x (hS.pull 1))) <| ?_
     refine o_alloc zero_68 hS (fun b4 w' hS => ?_)
     refine o_storeAgg (news := [.int .i64 q8.Row, .int .i64 q8.From, .int .i64 q8.To]) agg_68 rfl rfl rfl (by simp [over_length]) hS (fun w' hS => ?_)
     replace hFL6 := ar_s hFL6; obtain ⟨x54, hx54, hFL6⟩ := hFL6
     replace hFL6 := bd_s hFL6; obtain ⟨q0g, q1y, hFL6⟩ := hFL6
     refine x_done <| x_seq <| x_region <| p (yl_field0 fld_68_0 rfl) <|
      pa (at_load one_3 rfl (hS.cell rfl)) <| p (yl_field0 fld_30_0 q0c) <| pa (at_load one_3 rfl ((hS.pull 1).cell rfl)) <| p (ysub rfl rfl hx54) <| ?_
     have hcall := c_floor_within q1y  (hS.pull 2)
     refine o_cc call_29 (args3 rfl rfl rfl) ((Calls.mono hcall (fun e w'' h => And.intro h.1 ((h.2.pull 2).pull 2)))) ?_
     rintro e w' ⟨rfl, hS⟩
     refine ⟨_, rfl, ?_⟩
     replace hFL6 := ck_s hFL6; obtain ⟨q1l, hFL6⟩ := hFL6
     replace hFL6 := lv_s hFL6; obtain ⟨x62, hx62, hFL6⟩ := hFL6
     replace hFL6 := bd_s hFL6; obtain ⟨q19, q1m, hFL6⟩ := hFL6
     refine p (yl_not rfl) <| p (yl_move rfl) <| pg (v := .pointer (some ⟨b4, 1, none⟩)) 57 (c := !(!q0g)) (says_f _) (fun hq => Yl.at (yl_field0 fld_68_1 rfl)) <| pg (v := .int .i64 q8.From) 57 (c := !(!q0g)) (says_f _) (fun hq => at_load one_3 (cv hq) (hS.cell rfl)) <|
      pg (v := .pointer (some ⟨b1, 1, none⟩)) 57 (c := !(!q0g)) (says_f _) (fun hq => Yl.at (yl_field0 fld_30_1 q0c)) <| pg (v := .int .i64 f0.Sites) 57 (c := !(!q0g)) (says_f _) (fun hq => at_load one_3 (cv hq) ((hS.pull 1).cell rfl)) <| pg (v := .int .i64 x62) 57 (c := !(!q0g)) (says_f _) (fun hq => Yl.at (ysub (cv hq) rfl ⟨hx62, (q1l hq)⟩)) <|
      pccg (v := .bool q19) 57 (c := !(!q0g)) (says_f _) call_29 (fun hq => (args3 (cv hq) rfl (cv hq))) hS (fun hq => by
       have hcall := c_floor_within (gd_t q1m hq)  (hS.pull 2)
       exact (Calls.mono hcall (fun e w'' h => And.intro h.1 ((h.2.pull 2).pull 2)))) (fun w' hS => ?_)
     replace hFL6 := lv_s hFL6; obtain ⟨x65, hx65, hFL6⟩ := hFL6
     replace hFL6 := ck_s hFL6; obtain ⟨q1n, hFL6⟩ := hFL6
     replace hFL6 := lv_s hFL6; obtain ⟨x71, hx71, hFL6⟩ := hFL6
     replace hFL6 := bd_s hFL6; obtain ⟨q1a, q1o, hFL6⟩ := hFL6
     refine pg (v := .bool (!q19)) 57 (c := !(!q0g)) (says_f _) (fun hq => Yl.at (yl_not (cv hq))) <| p (yor' rfl rfl (fun hc => (cv (t_not hc))) hx65) <| p (yl_move rfl) <| pg (v := .pointer (some ⟨b4, 2, none⟩)) 66 (c := !x65) (says_f _) (fun hq => Yl.at (yl_field0 fld_68_2 rfl)) <|
      pg (v := .int .i64 q8.To) 66 (c := !x65) (says_f _) (fun hq => at_load one_3 (cv hq) (hS.cell rfl)) <| pg (v := .pointer (some ⟨b4, 1, none⟩)) 66 (c := !x65) (says_f _) (fun hq => Yl.at (yl_field0 fld_68_1 rfl)) <| pg (v := .int .i64 q8.From) 66 (c := !x65) (says_f _) (fun hq => at_load one_3 (cv hq) (hS.cell rfl)) <| pg (v := .int .i64 x71) 66 (c := !x65) (says_f _) (fun hq => Yl.at (yadd (cv hq) rfl ⟨hx71, (q1n hq)⟩)) <|
      pg (v := .pointer (some ⟨b1, 1, none⟩)) 66 (c := !x65) (says_f _) (fun hq => Yl.at (yl_field0 fld_30_1 q0c)) <| pg (v := .int .i64 f0.Sites) 66 (c := !x65) (says_f _) (fun hq => at_load one_3 (cv hq) ((hS.pull 1).cell rfl)) <|
      pccg (v := .bool q1a) 66 (c := !x65) (says_f _) call_29 (fun hq => (args3 (cv hq) (cv hq) (cv hq))) hS (fun hq => by
       have hcall := c_floor_within (gd_t q1o hq)  (hS.pull 2)
       exact (Calls.mono hcall (fun e w'' h => And.intro h.1 ((h.2.pull 2).pull 2)))) (fun w' hS => ?_)
     replace hFL6 := lv_s hFL6; obtain ⟨x76, hx76, hFL6⟩ := hFL6
     refine pg (v := .bool (!q1a)) 66 (c := !x65) (says_f _) (fun hq => Yl.at (yl_not (cv hq))) <| p (yor' rfl rfl (fun hc => (cv (t_not hc))) hx76) <| x_done <|
      x_cond (t := x76) rfl (fun hc76 => ?_) (fun hc76 => ?_)
     ·replace hFL6 := it_t hc76 hFL6
      refine x_seq <| x_region <| p (yl_assign rfl) <| x_done <| ?_
      have e_ := sinj hFL6; subst e_
      have e_ := (show _ = oL6 from hLL6); subst e_
      have e_ := sinj hF; subst e_
      exact x_return ⟨_, ⟨_, _, rfl, rfl, rfl⟩, rfl, hS.drop.drop⟩
     ·replace hFL6 := it_bf hc76 hFL6
      replace hFL6 := ar_s hFL6; obtain ⟨x77, hx77, hFL6⟩ := hFL6
      refine x_skip <| x_blk <| x_region <| p (yadd q0j rfl hx77) <|
       p (yl_move rfl) <| x_done <| ?_
      have e_ := sinj hFL6; subst e_
      exact x_inv ⟨kL6, Nat.lt_succ_self _, x77, hLL6, q0c, q0r, q0s, rfl, ((hS.drop.pull 1).pull 1)⟩
    ·replace hFL6 := it_f hc47 hFL6
     refine x_exitTo _ rfl <| ?_
     have e_ := sinj hFL6; subst e_
     exact x_inv ⟨hLL6, q0c, ((hS.pull 1).pull 1)⟩
   rintro E w ⟨rfl, q0v, hS⟩
   replace hF := bd_s hF; obtain ⟨q6, q1p, hF⟩ := hF
   refine x_seq <| x_region <| pa (v := .agg #[.int .i64 f0.Rows, .int .i64 f0.Sites, .int .i64 f0.Layers, .slice q4 f0.Blocks.length c_f0_3, .slice q3 f0.Walls.length c_f0_4, .slice q5 f0.Ports.length c_f0_5]) (ld_sub agg_30 q0v rfl rfl hS) <| ?_
   have hcall := c_floor_Size q1p q0a q0b q0o (hS.pull 1)
   refine o_cc call_13 (args1 rfl) ((Calls.mono hcall (fun e w'' h => And.intro h.1 (h.2.pull 1)))) ?_
   rintro e w' ⟨rfl, hS⟩
   refine ⟨_, rfl, ?_⟩
   refine p (v := .tuple #[.int .i64 q6.1, .int .i64 q6.2]) (yl_move rfl) <| p (yl_extract rfl rfl) <| p (yl_extract rfl rfl) <| p (yl_assign rfl) <|
    p (yl_assign rfl) <| x_done <| x_seq <| x_seq <|
    x_region <| p (yl_field0 fld_30_4 q0v) <| pa (at_load one_27 rfl (hS.cell rfl)) <| p (yl_len_slice usl_27 rfl) <|
    p (yl_move rfl) <| x_done <| ?_
   replace hF := bs_s hF; obtain ⟨oL13, hLL13, hF⟩ := hF
   refine x_join (fun E w => (Sum.inl (())) = oL13 ∧ E 1 = .pointer (some ⟨b1, 0, none⟩) ∧ St w0 w (cells b1 30 [.int .i64 f0.Rows, .int .i64 f0.Sites, .int .i64 f0.Layers, .slice q4 f0.Blocks.length c_f0_3, .slice q3 f0.Walls.length c_f0_4, .slice q5 f0.Ports.length c_f0_5] :: ro ρ :: l)) ?_ ?_
   ·refine x_block ?_
    refine x_loop (fun k_ E w => ∃ (q9 : Int), lp (P_floor_Check_2_L13 f0 q6) k_ q9 = some oL13 ∧ E 1 = .pointer (some ⟨b1, 0, none⟩) ∧ E 5 = .int .i64 q6.1 ∧ E 6 = .int .i64 q6.2 ∧ E 84 = .slice q3 f0.Walls.length c_f0_4 ∧ E 85 = .int .i64 (f0.Walls.length : Int) ∧ E 86 = .int .i64 q9 ∧ St w0 w (cells b1 30 [.int .i64 f0.Rows, .int .i64 f0.Sites, .int .i64 f0.Layers, .slice q4 f0.Blocks.length c_f0_3, .slice q3 f0.Walls.length c_f0_4, .slice q5 f0.Ports.length c_f0_5] :: ro ρ :: l)) fuel ⟨0, hLL13, q0v, rfl, rfl, rfl, rfl, rfl, ((hS.pull 1).pull 1)⟩ ?_
    rintro kL13 E w ⟨q9, hLL13, q0k, q0l, q0m, q0p, q0q, q0h, hS⟩
    replace hLL13 := lp_s hLL13; obtain ⟨kL13, obL13, rfl, hFL13, hLL13⟩ := hLL13
    refine x_seq <| x_region <| p (yl_lss q0h q0q) <| x_done <|
     x_seq <|
     x_cond_p (q9 < (f0.Walls.length : Int)) rfl (fun hc87 => ?_) (fun hc87 => ?_)
    ·replace hFL13 := it_t hc87 hFL13
     replace hFL13 := ck_s hFL13; obtain ⟨q0z, hFL13⟩ := hFL13
     replace hFL13 := lv_s hFL13; obtain ⟨q2, q1q, hFL13⟩ := hFL13
     have q_ := q0b.get q0z; obtain ⟨q1z, q10, q1r⟩ := q_
     rw [← q1q] at q10
     have e_ := q10; subst e_
     refine x_skip <| x_seq <| x_block <| x_seq <|
      x_region <| p (yix_f sl_27 q0p q0h q0b q0z) <| pa (v := .agg #[.int .i64 q2.Layer, .int .i64 q2.X0, .int .i64 q2.Y0, .int .i64 q2.X1, .int .i64 q2.Y1]) (at_loadAgg agg_70 rfl rfl (Elt.every q1r (hS.pull 1))) <| ?_
     refine o_alloc zero_70 hS (fun b8 w' hS => ?_)
     refine o_storeAgg (news := [.int .i64 q2.Layer, .int .i64 q2.X0, .int .i64 q2.Y0, .int .i64 q2.X1, .int .i64 q2.Y1]) agg_70 rfl rfl rfl (by simp [over_length]) hS (fun w' hS => ?_)
     replace hFL13 := ar_s hFL13; obtain ⟨x94, hx94, hFL13⟩ := hFL13
     replace hFL13 := bd_s hFL13; obtain ⟨q0f, q1s, hFL13⟩ := hFL13
     refine x_done <| x_seq <| x_region <| p (yl_field0 fld_70_0 rfl) <|
      pa (at_load one_3 rfl (hS.cell rfl)) <| p (yl_field0 fld_30_2 q0k) <| pa (at_load one_3 rfl ((hS.pull 1).cell rfl)) <| p (ysub rfl rfl hx94) <| ?_
     have hcall := c_floor_within q1s  (hS.pull 2)
     refine o_cc call_29 (args3 rfl rfl rfl) ((Calls.mono hcall (fun e w'' h => And.intro h.1 ((h.2.pull 2).pull 2)))) ?_
     rintro e w' ⟨rfl, hS⟩
     refine ⟨_, rfl, ?_⟩
     replace hFL13 := ck_s hFL13; obtain ⟨q1b, hFL13⟩ := hFL13
     replace hFL13 := lv_s hFL13; obtain ⟨x101, hx101, hFL13⟩ := hFL13
     replace hFL13 := bd_s hFL13; obtain ⟨q11, q1c, hFL13⟩ := hFL13
     refine p (yl_not rfl) <| p (yl_move rfl) <| pg (v := .pointer (some ⟨b8, 1, none⟩)) 97 (c := !(!q0f)) (says_f _) (fun hq => Yl.at (yl_field0 fld_70_1 rfl)) <| pg (v := .int .i64 q2.X0) 97 (c := !(!q0f)) (says_f _) (fun hq => at_load one_3 (cv hq) (hS.cell rfl)) <|
      pg (v := .int .i64 q6.1) 97 (c := !(!q0f)) (says_f _) (fun hq => Yl.at (yl_move q0l)) <| pg (v := .int .i64 x101) 97 (c := !(!q0f)) (says_f _) (fun hq => Yl.at (ysub (cv hq) rfl ⟨hx101, (q1b hq)⟩)) <|
      pccg (v := .bool q11) 97 (c := !(!q0f)) (says_f _) call_29 (fun hq => (args3 (cv hq) rfl (cv hq))) hS (fun hq => by
       have hcall := c_floor_within (gd_t q1c hq)  (hS.pull 2)
       exact (Calls.mono hcall (fun e w'' h => And.intro h.1 ((h.2.pull 2).pull 2)))) (fun w' hS => ?_)
     replace hFL13 := lv_s hFL13; obtain ⟨x104, hx104, hFL13⟩ := hFL13
     replace hFL13 := ck_s hFL13; obtain ⟨q1d, hFL13⟩ := hFL13
     replace hFL13 := lv_s hFL13; obtain ⟨x109, hx109, hFL13⟩ := hFL13
     replace hFL13 := bd_s hFL13; obtain ⟨q12, q1e, hFL13⟩ := hFL13
     refine pg (v := .bool (!q11)) 97 (c := !(!q0f)) (says_f _) (fun hq => Yl.at (yl_not (cv hq))) <| p (yor' rfl rfl (fun hc => (cv (t_not hc))) hx104) <| p (yl_move rfl) <| pg (v := .pointer (some ⟨b8, 2, none⟩)) 105 (c := !x104) (says_f _) (fun hq => Yl.at (yl_field0 fld_70_2 rfl)) <|
      pg (v := .int .i64 q2.Y0) 105 (c := !x104) (says_f _) (fun hq => at_load one_3 (cv hq) (hS.cell rfl)) <| pg (v := .int .i64 q6.2) 105 (c := !x104) (says_f _) (fun hq => Yl.at (yl_move q0m)) <| pg (v := .int .i64 x109) 105 (c := !x104) (says_f _) (fun hq => Yl.at (ysub (cv hq) rfl ⟨hx109, (q1d hq)⟩)) <|
      pccg (v := .bool q12) 105 (c := !x104) (says_f _) call_29 (fun hq => (args3 (cv hq) rfl (cv hq))) hS (fun hq => by
       have hcall := c_floor_within (gd_t q1e hq)  (hS.pull 2)
       exact (Calls.mono hcall (fun e w'' h => And.intro h.1 ((h.2.pull 2).pull 2)))) (fun w' hS => ?_)
     replace hFL13 := lv_s hFL13; obtain ⟨x112, hx112, hFL13⟩ := hFL13
     replace hFL13 := ck_s hFL13; obtain ⟨q1f, hFL13⟩ := hFL13
     replace hFL13 := lv_s hFL13; obtain ⟨x119, hx119, hFL13⟩ := hFL13
     replace hFL13 := bd_s hFL13; obtain ⟨q13, q1g, hFL13⟩ := hFL13
     refine pg (v := .bool (!q12)) 105 (c := !x104) (says_f _) (fun hq => Yl.at (yl_not (cv hq))) <| p (yor' rfl rfl (fun hc => (cv (t_not hc))) hx112) <| p (yl_move rfl) <| pg (v := .pointer (some ⟨b8, 3, none⟩)) 113 (c := !x112) (says_f _) (fun hq => Yl.at (yl_field0 fld_70_3 rfl)) <|
      pg (v := .int .i64 q2.X1) 113 (c := !x112) (says_f _) (fun hq => at_load one_3 (cv hq) (hS.cell rfl)) <| pg (v := .pointer (some ⟨b8, 1, none⟩)) 113 (c := !x112) (says_f _) (fun hq => Yl.at (yl_field0 fld_70_1 rfl)) <| pg (v := .int .i64 q2.X0) 113 (c := !x112) (says_f _) (fun hq => at_load one_3 (cv hq) (hS.cell rfl)) <| pg (v := .int .i64 q6.1) 113 (c := !x112) (says_f _) (fun hq => Yl.at (yl_move q0l)) <|
      pg (v := .int .i64 x119) 113 (c := !x112) (says_f _) (fun hq => Yl.at (ysub (cv hq) rfl ⟨hx119, (q1f hq)⟩)) <|
      pccg (v := .bool q13) 113 (c := !x112) (says_f _) call_29 (fun hq => (args3 (cv hq) (cv hq) (cv hq))) hS (fun hq => by
       have hcall := c_floor_within (gd_t q1g hq)  (hS.pull 2)
       exact (Calls.mono hcall (fun e w'' h => And.intro h.1 ((h.2.pull 2).pull 2)))) (fun w' hS => ?_)
     replace hFL13 := lv_s hFL13; obtain ⟨x122, hx122, hFL13⟩ := hFL13
     replace hFL13 := ck_s hFL13; obtain ⟨q1h, hFL13⟩ := hFL13
     replace hFL13 := lv_s hFL13; obtain ⟨x129, hx129, hFL13⟩ := hFL13
     replace hFL13 := bd_s hFL13; obtain ⟨q14, q1i, hFL13⟩ := hFL13
     refine pg (v := .bool (!q13)) 113 (c := !x112) (says_f _) (fun hq => Yl.at (yl_not (cv hq))) <| p (yor' rfl rfl (fun hc => (cv (t_not hc))) hx122) <| p (yl_move rfl) <| pg (v := .pointer (some ⟨b8, 4, none⟩)) 123 (c := !x122) (says_f _) (fun hq => Yl.at (yl_field0 fld_70_4 rfl)) <|
      pg (v := .int .i64 q2.Y1) 123 (c := !x122) (says_f _) (fun hq => at_load one_3 (cv hq) (hS.cell rfl)) <| pg (v := .pointer (some ⟨b8, 2, none⟩)) 123 (c := !x122) (says_f _) (fun hq => Yl.at (yl_field0 fld_70_2 rfl)) <| pg (v := .int .i64 q2.Y0) 123 (c := !x122) (says_f _) (fun hq => at_load one_3 (cv hq) (hS.cell rfl)) <| pg (v := .int .i64 q6.2) 123 (c := !x122) (says_f _) (fun hq => Yl.at (yl_move q0m)) <|
      pg (v := .int .i64 x129) 123 (c := !x122) (says_f _) (fun hq => Yl.at (ysub (cv hq) rfl ⟨hx129, (q1h hq)⟩)) <|
      pccg (v := .bool q14) 123 (c := !x122) (says_f _) call_29 (fun hq => (args3 (cv hq) (cv hq) (cv hq))) hS (fun hq => by
       have hcall := c_floor_within (gd_t q1i hq)  (hS.pull 2)
       exact (Calls.mono hcall (fun e w'' h => And.intro h.1 ((h.2.pull 2).pull 2)))) (fun w' hS => ?_)
     replace hFL13 := lv_s hFL13; obtain ⟨x132, hx132, hFL13⟩ := hFL13
     refine pg (v := .bool (!q14)) 123 (c := !x122) (says_f _) (fun hq => Yl.at (yl_not (cv hq))) <| p (yor' rfl rfl (fun hc => (cv (t_not hc))) hx132) <| x_done <|
      x_cond (t := x132) rfl (fun hc132 => ?_) (fun hc132 => ?_)
     ·replace hFL13 := it_t hc132 hFL13
      refine x_seq <| x_region <| p (yl_assign rfl) <| x_done <| ?_
      have e_ := sinj hFL13; subst e_
      have e_ := (show _ = oL13 from hLL13); subst e_
      have e_ := sinj hF; subst e_
      exact x_return ⟨_, ⟨_, _, rfl, rfl, rfl⟩, rfl, hS.drop.drop⟩
     ·replace hFL13 := it_bf hc132 hFL13
      replace hFL13 := ar_s hFL13; obtain ⟨x133, hx133, hFL13⟩ := hFL13
      refine x_skip <| x_blk <| x_region <| p (yadd q0h rfl hx133) <|
       p (yl_move rfl) <| x_done <| ?_
      have e_ := sinj hFL13; subst e_
      exact x_inv ⟨kL13, Nat.lt_succ_self _, x133, hLL13, q0k, q0l, q0m, q0p, q0q, rfl, ((hS.drop.pull 1).pull 1)⟩
    ·replace hFL13 := it_f hc87 hFL13
     refine x_exitTo _ rfl <| ?_
     have e_ := sinj hFL13; subst e_
     exact x_inv ⟨hLL13, q0k, ((hS.pull 1).pull 1)⟩
   rintro E w ⟨rfl, q15, hS⟩
   refine x_seq <| x_seq <| x_region <| p (yl_field0 fld_30_5 q15) <|
    pa (at_load one_28 rfl (hS.cell rfl)) <| p (yl_len_slice usl_28 rfl) <| p (yl_move rfl) <| x_done <| ?_
   replace hF := bs_s hF; obtain ⟨oL19, hLL19, hF⟩ := hF
   refine x_join (fun E w => (Sum.inl (())) = oL19 ∧ St w0 w (ro ρ :: l)) ?_ ?_
   ·refine x_block ?_
    refine x_loop (fun k_ E w => ∃ (q7 : Int), lp (P_floor_Check_2_L19 f0) k_ q7 = some oL19 ∧ E 1 = .pointer (some ⟨b1, 0, none⟩) ∧ E 136 = .int .i64 (f0.Ports.length : Int) ∧ E 137 = .int .i64 q7 ∧ St w0 w (cells b1 30 [.int .i64 f0.Rows, .int .i64 f0.Sites, .int .i64 f0.Layers, .slice q4 f0.Blocks.length c_f0_3, .slice q3 f0.Walls.length c_f0_4, .slice q5 f0.Ports.length c_f0_5] :: ro ρ :: l)) fuel ⟨0, hLL19, q15, rfl, rfl, ((hS.pull 1).pull 1)⟩ ?_
    rintro kL19 E w ⟨q7, hLL19, q0t, q0n, q0d, hS⟩
    replace hLL19 := lp_s hLL19; obtain ⟨kL19, obL19, rfl, hFL19, hLL19⟩ := hLL19
    refine x_seq <| x_region <| p (yl_lss q0d q0n) <| x_done <|
     x_seq <|
     x_cond_p (q7 < (f0.Ports.length : Int)) rfl (fun hc138 => ?_) (fun hc138 => ?_)
    ·replace hFL19 := it_t hc138 hFL19
     replace hFL19 := bd_s hFL19; obtain ⟨q0i, q1t, hFL19⟩ := hFL19
     refine x_skip <| x_seq <| x_block <| x_seq <|
      x_region <| p (yl_move q0d) <| p (yl_assign rfl) <| x_done <|
      x_seq <| x_region <| pa (v := .agg #[.int .i64 f0.Rows, .int .i64 f0.Sites, .int .i64 f0.Layers, .slice q4 f0.Blocks.length c_f0_3, .slice q3 f0.Walls.length c_f0_4, .slice q5 f0.Ports.length c_f0_5]) (ld_sub agg_30 q0t rfl rfl hS) <| p (yl_move rfl) <| ?_
     have hcall := c_floor_checkPort q1t q0a q0b q0o (hS.pull 1)
     refine o_cc call_30 (args2 rfl rfl) ((Calls.mono hcall (fun e w'' h => And.intro h.1 (h.2.pull 1)))) ?_
     rintro e w' ⟨rfl, hS⟩
     refine ⟨_, rfl, ?_⟩
     refine p (v := .int .i64 q0i) (yl_assign rfl) <| x_done <| x_seq <| x_region <|
      p (v := .int .i64 q0i) (yl_move rfl) <| p (yl_neq rfl rfl) <| x_done <|
      x_cond_p (q0i ≠ 0) rfl (fun hc144 => ?_) (fun hc144 => ?_)
     ·replace hFL19 := it_t hc144 hFL19
      refine x_seq <| x_region <| p (v := .int .i64 q0i) (yl_move rfl) <| p (v := .int .i64 q0i) (yl_assign rfl) <|
       x_done <| ?_
      have e_ := sinj hFL19; subst e_
      have e_ := (show _ = oL19 from hLL19); subst e_
      have e_ := sinj hF; subst e_
      exact x_return ⟨_, ⟨_, _, rfl, rfl, rfl⟩, rfl, hS.drop⟩
     ·replace hFL19 := it_f hc144 hFL19
      replace hFL19 := ar_s hFL19; obtain ⟨x146, hx146, hFL19⟩ := hFL19
      refine x_skip <| x_blk <| x_region <| p (yadd q0d rfl hx146) <|
       p (yl_move rfl) <| x_done <| ?_
      have e_ := sinj hFL19; subst e_
      exact x_inv ⟨kL19, Nat.lt_succ_self _, x146, hLL19, q0t, q0n, rfl, ((hS.pull 1).pull 1)⟩
    ·replace hFL19 := it_f hc138 hFL19
     refine x_exitTo _ rfl <| ?_
     have e_ := sinj hFL19; subst e_
     exact x_inv ⟨hLL19, hS.drop⟩
   rintro E w ⟨rfl, hS⟩
   refine x_seq <| x_region <| p (yl_assign rfl) <| x_done <| ?_
   have e_ := sinj hF; subst e_
   exact x_return ⟨_, ⟨_, _, rfl, rfl, rfl⟩, rfl, hS⟩
attribute [irreducible] P_floor_Check_2

def P_floor_Free_2_L9 (row1 : Int) (q4 : T_floor_Block) : (List Bool × Int) → Option ((List Bool × Int) ⊕ List Bool) := fun (q2, q3) =>
 lv ((decide (q3 < q4.To)) && (decide (q4.Row = row1))) fun x50 =>
 if x50 = true then
  ck (inb q3 q2.length) <|
  lv (stt q2 q3 true) fun q5 =>
  ar (q3 + 1) fun x52 =>
  some (Sum.inl (q5, x52))
 else
  some (Sum.inr q2)
def P_floor_Free_2_L6 (f0 : T_floor_Floor) (row1 : Int) : (List Bool × Int) → Option ((List Bool × Int) ⊕ List Bool) := fun (q3, q2) =>
 if q2 < (f0.Blocks.length : Int) then
  ck (inb q2 f0.Blocks.length) <|
  lv (gt f0.Blocks q2) fun q5 =>
  bd (
   lp (P_floor_Free_2_L9 row1 q5) fuel (q3, q5.From)) fun q4 =>
  ar (q2 + 1) fun x56 =>
  some (Sum.inl (q4, x56))
 else
  some (Sum.inr q3)
def P_floor_Free_2_L16 (q0a : List Bool) (q5 : List Bool) : (List T_floor_Span × Int × Int) → Option ((List T_floor_Span × Int × Int) ⊕ List T_floor_Span) := fun (q3, q4, q2) =>
 if q2 < (q0a.length : Int) then
  ck (inb q2 q5.length) <|
  lv (gt q5 q2) fun x63 =>
  bd (
   if x63 = true then
    bd (
     if q4 < q2 then
      lv (q3 ++ [(T_floor_Span.mk q4 q2)]) fun q9 =>
      ck (apOk 16 q9.length) <|
      some q9
     else
      some q3) fun q7 =>
    ar (q2 + 1) fun x75 =>
    some (q7, x75)
   else
    some (q3, q4)) fun (q8, q6) =>
  ar (q2 + 1) fun x76 =>
  some (Sum.inl (q8, q6, x76))
 else
  some (Sum.inr q3)
def P_floor_Free_2 (f0 : T_floor_Floor) (row1 : Int) : Option (List T_floor_Span) :=
 bd (P_floor_Check f0) fun q3 =>
 ck ((!(decide (q3 ≠ 0))) = true → I64 (f0.Rows - 1)) <|
 lv (f0.Rows - 1) fun x20 =>
 bd (gd (!(decide (q3 ≠ 0))) (P_floor_within row1 0 x20)) fun q6 =>
 lv ((decide (q3 ≠ 0)) || (!q6)) fun x23 =>
 if x23 = true then
  some []
 else
  ar (f0.Sites + 1) fun x26 =>
  ck (mkOk 1 x26) <|
  lv ((List.replicate (x26 : Int).toNat false : List Bool)) fun q4 =>
  ck (inb f0.Sites q4.length) <|
  lv (stt q4 f0.Sites true) fun q7 =>
  bd (
   lp (P_floor_Free_2_L6 f0 row1) fuel (q7, 0)) fun q2 =>
  bd (
   lp (P_floor_Free_2_L16 q4 q2) fuel ([], 0, 0)) fun q5 =>
  some q5
theorem c_floor_Free_2 {w0 w : World} {l : List Assn} {ρ : Heap} {q0t : Option Addr} {q1u : Nat} {c_f0_3 : Nat} {q19 : Option Addr} {q1v : Nat} {c_f0_4 : Nat} {q1a : Option Addr} {q1w : Nat} {c_f0_5 : Nat} {f0 : T_floor_Floor} {row1 : Int} {r : List T_floor_Span} (hF : P_floor_Free_2 f0 row1 = some r) (q1b : RdS R_floor_Block ρ q0t q1u c_f0_3 f0.Blocks) (q1x : RdS R_floor_Wall ρ q19 q1v c_f0_4 f0.Walls) (q1y : RdS R_floor_Port ρ q1a q1w c_f0_5 f0.Ports) (hS : St w0 w (ro ρ :: l)) :
  Calls Tryd.prog 11 #[.agg #[.int .i64 f0.Rows, .int .i64 f0.Sites, .int .i64 f0.Layers, .slice q0t q1u c_f0_3, .slice q19 q1v c_f0_4, .slice q1a q1w c_f0_5], .int .i64 row1] w fun e w' => ∃ (q1j : Option Addr) (q16 : Nat) (c_y0_ret : Nat) (q1h : List Value), e = .returned (.slice q1j q16 c_y0_ret) ∧ RepL R_floor_Span ρ r q1h ∧ St w0 w' (vec 46 R_floor_Span.sz (.slice q1j q16 c_y0_ret) q16 q1h :: ro ρ :: l) := by
 have e_ := q1b.n; subst e_
 have e_ := q1x.n; subst e_
 have e_ := q1y.n; subst e_
 refine enterC Tryd.func11 rfl 78 rfl (by simp) ?_
 refine x_seq <| x_region <| ?_
 refine o_box (cs := [.int .i64 f0.Rows, .int .i64 f0.Sites, .int .i64 f0.Layers, .slice q0t f0.Blocks.length c_f0_3, .slice q19 f0.Walls.length c_f0_4, .slice q1a f0.Ports.length c_f0_5]) rfl rfl hS (fun b2 w' hS => ?_)
 replace hF := bd_s hF; obtain ⟨q1f, q2r, hF⟩ := hF
 refine p (yl_assign rfl) <| x_done <| x_seq <| x_seq <|
  x_region <| pa (v := .agg #[.int .i64 f0.Rows, .int .i64 f0.Sites, .int .i64 f0.Layers, .slice q0t f0.Blocks.length c_f0_3, .slice q19 f0.Walls.length c_f0_4, .slice q1a f0.Ports.length c_f0_5]) (ld_sub agg_30 rfl rfl rfl hS) <| ?_
 have hcall := c_floor_Check q2r q1b q1x q1y (hS.pull 1)
 refine o_cc call_10 (args1 rfl) ((Calls.mono hcall (fun e w'' h => And.intro h.1 (h.2.pull 1)))) ?_
 rintro e w' ⟨rfl, hS⟩
 refine ⟨_, rfl, ?_⟩
 replace hF := ck_s hF; obtain ⟨q2s, hF⟩ := hF
 replace hF := lv_s hF; obtain ⟨x20, hx20, hF⟩ := hF
 replace hF := bd_s hF; obtain ⟨q2e, q2t, hF⟩ := hF
 refine p (yl_neq rfl rfl) <| p (yl_move rfl) <| pg (v := .int .i64 row1) 16 (c := !(decide (q1f ≠ 0))) (says_f _) (fun hq => Yl.at (yl_move rfl)) <| pg (v := .pointer (some ⟨b2, 0, none⟩)) 16 (c := !(decide (q1f ≠ 0))) (says_f _) (fun hq => Yl.at (yl_field0 fld_30_0 rfl)) <|
  pg (v := .int .i64 f0.Rows) 16 (c := !(decide (q1f ≠ 0))) (says_f _) (fun hq => at_load one_3 (cv hq) (hS.cell rfl)) <| pg (v := .int .i64 x20) 16 (c := !(decide (q1f ≠ 0))) (says_f _) (fun hq => Yl.at (ysub (cv hq) rfl ⟨hx20, (q2s hq)⟩)) <|
  pccg (v := .bool q2e) 16 (c := !(decide (q1f ≠ 0))) (says_f _) call_29 (fun hq => (args3 (cv hq) rfl (cv hq))) hS (fun hq => by
   have hcall := c_floor_within (gd_t q2t hq)  (hS.pull 1)
   exact (Calls.mono hcall (fun e w'' h => And.intro h.1 (h.2.pull 1)))) (fun w' hS => ?_)
 replace hF := lv_s hF; obtain ⟨x23, hx23, hF⟩ := hF
 refine pg (v := .bool (!q2e)) 16 (c := !(decide (q1f ≠ 0))) (says_f _) (fun hq => Yl.at (yl_not (cv hq))) <| p (yor' rfl rfl (fun hc => (cv (t_not hc))) hx23) <| x_done <|
  x_cond (t := x23) rfl (fun hc23 => ?_) (fun hc23 => ?_)
 ·replace hF := it_t hc23 hF
  refine x_seq <| x_region <| p (yl_assign rfl) <| x_done <| ?_
  replace hS := St.vec_nil hS 46 R_floor_Span.sz
  have q1i : RepL R_floor_Span ρ [] [] := rfl
  have e_ := sinj hF; subst e_
  exact x_return ⟨_, ⟨_, _, rfl, rfl, rfl⟩, none, 0, 0, [], rfl, q1i, (((hS.pull 1).drop.pull 1).pull 1)⟩
 ·replace hF := it_bf hc23 hF
  replace hF := ar_s hF; obtain ⟨x26, hx26, hF⟩ := hF
  refine x_skip <| x_seq <| x_region <| p (yl_field0 fld_30_1 rfl) <|
   pa (at_load one_3 rfl (hS.cell rfl)) <| p (yadd rfl rfl hx26) <| ?_
  replace hF := ck_s hF; obtain ⟨q2u, hF⟩ := hF
  replace hF := lv_s hF; obtain ⟨q2, q2v, hF⟩ := hF
  refine o_mk sl_85 zero_4 (show RpB.ok ρ _ false from rfl) rfl rfl q2u (by decide) q2v hS (fun A27 cs27 w' hr27 hS => ?_)
  replace hF := ck_s hF; obtain ⟨q22, hF⟩ := hF
  refine p (yl_assign rfl) <| x_done <| x_seq <| x_region <|
   p (yl_move rfl) <| p (yl_field0 fld_30_1 rfl) <| pa (at_load one_3 rfl ((hS.pull 1).cell rfl)) <| p (yix_o sl_85 rfl rfl hS hr27 q22) <| ?_
  replace hF := lv_s hF; obtain ⟨q35, q2w, hF⟩ := hF
  refine o_put' (news := [.bool true]) sz_4 rfl rfl rfl rfl (o := 0) rfl q22 rfl hS hr27 (Le.refl _) (fun c hc => ok_all hc (show RpB.ok ρ [.bool true] true from rfl)) q2w (fun q2x w' q2y hS => ?_)
  refine x_done <| x_seq <| x_seq <| x_region <|
   p (yl_field0 fld_30_3 rfl) <| pa (at_load one_26 rfl ((hS.pull 1).cell rfl)) <| p (yl_len_slice usl_26 rfl) <| p (yl_move rfl) <|
   x_done <| ?_
  replace hF := bd_s hF; obtain ⟨oL6, hLL6, hF⟩ := hF
  refine x_join (fun E w => ∃ (q6 : List Value) (q0y : List Bool), q0y = oL6 ∧ E 5 = .slice A27 q2.length q2.length ∧ RepL RpB ρ q0y q6 ∧ St w0 w (vec 4 RpB.sz (.slice A27 q2.length q2.length) q2.length q6 :: ro ρ :: l)) ?_ ?_
  ·refine x_block ?_
   refine x_loop (fun k_ E w => ∃ (q8 : List Value) (q0d : List Bool) (q0s : Int), lp (P_floor_Free_2_L6 f0 row1) k_ (q0d, q0s) = some oL6 ∧ E 1 = .int .i64 row1 ∧ E 5 = .slice A27 q2.length q2.length ∧ E 33 = .slice q0t f0.Blocks.length c_f0_3 ∧ E 34 = .int .i64 (f0.Blocks.length : Int) ∧ E 35 = .int .i64 q0s ∧ RepL RpB ρ q0d q8 ∧ St w0 w (vec 4 RpB.sz (.slice A27 q2.length q2.length) q2.length q8 :: ro ρ :: l)) fuel ⟨q2x, q35, 0, hLL6, rfl, rfl, rfl, rfl, rfl, q2y, (((hS.pull 1).drop.pull 1).pull 1)⟩ ?_
   rintro kL6 E w ⟨q8, q0d, q0s, hLL6, q2f, q1z, q1p, q1q, q1g, q13, hS⟩
   replace hLL6 := lp_s hLL6; obtain ⟨kL6, obL6, rfl, hFL6, hLL6⟩ := hLL6
   refine x_seq <| x_region <| p (yl_lss q1g q1q) <| x_done <|
    x_seq <|
    x_cond_p (q0s < (f0.Blocks.length : Int)) rfl (fun hc36 => ?_) (fun hc36 => ?_)
   ·replace hFL6 := it_t hc36 hFL6
    replace hFL6 := ck_s hFL6; obtain ⟨q23, hFL6⟩ := hFL6
    replace hFL6 := lv_s hFL6; obtain ⟨q0a, q2z, hFL6⟩ := hFL6
    have q_ := q1b.get q23; obtain ⟨q36, q24, q30⟩ := q_
    rw [← q2z] at q24
    have e_ := q24; subst e_
    refine x_skip <| x_seq <| x_block <| x_seq <|
     x_region <| p (yix_f sl_26 q1p q1g q1b q23) <| pa (v := .agg #[.int .i64 q0a.Row, .int .i64 q0a.From, .int .i64 q0a.To]) (at_loadAgg agg_68 rfl rfl (Elt.every q30 (hS.pull 1))) <| ?_
    refine o_alloc zero_68 hS (fun b7 w' hS => ?_)
    refine o_storeAgg (news := [.int .i64 q0a.Row, .int .i64 q0a.From, .int .i64 q0a.To]) agg_68 rfl rfl rfl (by simp [over_length]) hS (fun w' hS => ?_)
    refine x_done <| x_seq <| x_region <| p (yl_field0 fld_68_1 rfl) <|
     pa (at_load one_3 rfl (hS.cell rfl)) <| p (yl_assign rfl) <| x_done <| ?_
    replace hFL6 := bd_s hFL6; obtain ⟨oL9, hLL9, hFL6⟩ := hFL6
    refine x_join (fun E w => ∃ (q0e : List Value) (q0z : List Bool), q0z = oL9 ∧ E 1 = .int .i64 row1 ∧ E 5 = .slice A27 q2.length q2.length ∧ E 33 = .slice q0t f0.Blocks.length c_f0_3 ∧ E 34 = .int .i64 (f0.Blocks.length : Int) ∧ E 35 = .int .i64 q0s ∧ RepL RpB ρ q0z q0e ∧ St w0 w (vec 4 RpB.sz (.slice A27 q2.length q2.length) q2.length q0e :: ro ρ :: l)) ?_ ?_
    ·refine x_block ?_
     refine x_loop (fun k_ E w => ∃ (q0c : List Value) (q0k : List Bool) (q0u : Int), lp (P_floor_Free_2_L9 row1 q0a) k_ (q0k, q0u) = some oL9 ∧ E 1 = .int .i64 row1 ∧ E 5 = .slice A27 q2.length q2.length ∧ E 7 = .pointer (some ⟨b7, 0, none⟩) ∧ E 8 = .int .i64 q0u ∧ E 33 = .slice q0t f0.Blocks.length c_f0_3 ∧ E 34 = .int .i64 (f0.Blocks.length : Int) ∧ E 35 = .int .i64 q0s ∧ RepL RpB ρ q0k q0c ∧ St w0 w (vec 4 RpB.sz (.slice A27 q2.length q2.length) q2.length q0c :: cells b7 68 [.int .i64 q0a.Row, .int .i64 q0a.From, .int .i64 q0a.To] :: ro ρ :: l)) fuel ⟨q8, q0d, q0a.From, hLL9, q2f, q1z, rfl, rfl, q1p, q1q, q1g, q13, (((hS.pull 2).pull 1).pull 2)⟩ ?_
     rintro kL9 E w ⟨q0c, q0k, q0u, hLL9, q1k, q1l, q1m, q1n, q1r, q1s, q1t, q0v, hS⟩
     replace hLL9 := lp_s hLL9; obtain ⟨kL9, obL9, rfl, hFL9, hLL9⟩ := hLL9
     unfold P_floor_Free_2_L9 at hFL9; try dsimp only at hFL9
     replace hFL9 := lv_s hFL9; obtain ⟨x50, hx50, hFL9⟩ := hFL9
     refine x_seq <| x_seq <| x_region <| p (yl_move q1n) <|
      p (yl_field0 fld_68_2 q1m) <| pa (at_load one_3 rfl ((hS.pull 1).cell rfl)) <| p (yl_lss rfl rfl) <| p (yl_move rfl) <|
      pg (v := .pointer (some ⟨b7, 0, none⟩)) 45 (c := decide (q0u < q0a.To)) (says_t _) (fun hq => Yl.at (yl_field0 fld_68_0 q1m)) <| pg (v := .int .i64 q0a.Row) 45 (c := decide (q0u < q0a.To)) (says_t _) (fun hq => at_load one_3 (cv hq) ((hS.pull 1).cell rfl)) <| pg (v := .int .i64 row1) 45 (c := decide (q0u < q0a.To)) (says_t _) (fun hq => Yl.at (yl_move q1k)) <| pg (v := .bool (decide (q0a.Row = row1))) 45 (c := decide (q0u < q0a.To)) (says_t _) (fun hq => Yl.at (yl_eql (cv hq) (cv hq))) <|
      p (yand' rfl (fun hc => (cv hc)) rfl hx50) <| x_done <|
      x_cond (t := x50) rfl (fun hc50 => ?_) (fun hc50 => ?_)
     ·replace hFL9 := it_t hc50 hFL9
      replace hFL9 := ck_s hFL9; obtain ⟨q20, hFL9⟩ := hFL9
      refine x_skip <| x_seq <| x_block <| x_region <|
       p (yl_move q1l) <| p (yl_move q1n) <| p (yix_o sl_85 rfl rfl hS q0v q20) <| ?_
      replace hFL9 := lv_s hFL9; obtain ⟨q31, q2g, hFL9⟩ := hFL9
      refine o_put' (news := [.bool true]) sz_4 rfl rfl rfl rfl (o := 0) rfl q20 rfl hS q0v (Le.refl _) (fun c hc => ok_all hc (show RpB.ok ρ [.bool true] true from rfl)) q2g (fun q2h w' q2i hS => ?_)
      replace hFL9 := ar_s hFL9; obtain ⟨x52, hx52, hFL9⟩ := hFL9
      refine x_done <| x_blk <| x_region <| p (yl_move q1n) <|
       p (yadd rfl rfl hx52) <| p (yl_assign rfl) <| x_done <| ?_
      have e_ := sinj hFL9; subst e_
      exact x_inv ⟨kL9, Nat.lt_succ_self _, q2h, q31, x52, hLL9, q1k, q1l, q1m, rfl, q1r, q1s, q1t, q2i, (((hS.pull 2).pull 2).pull 2)⟩
     ·replace hFL9 := it_bf hc50 hFL9
      refine x_exitTo _ rfl <| ?_
      have e_ := sinj hFL9; subst e_
      exact x_inv ⟨q0c, q0k, hLL9, q1k, q1l, q1r, q1s, q1t, q0v, (((hS.pull 1).drop.pull 1).pull 1)⟩
    rintro E w ⟨q0e, q0z, rfl, q32, q33, q2j, q2k, q2l, q1o, hS⟩
    replace hFL6 := ar_s hFL6; obtain ⟨x56, hx56, hFL6⟩ := hFL6
    refine x_blk <| x_region <| p (yadd q2l rfl hx56) <| p (yl_move rfl) <|
     x_done <| ?_
    have e_ := sinj hFL6; subst e_
    exact x_inv ⟨kL6, Nat.lt_succ_self _, q0e, q0z, x56, hLL6, q32, q33, q2j, q2k, rfl, q1o, ((hS.pull 1).pull 1)⟩
   ·replace hFL6 := it_f hc36 hFL6
    refine x_exitTo _ rfl <| ?_
    have e_ := sinj hFL6; subst e_
    exact x_inv ⟨q8, q0d, hLL6, q1z, q13, ((hS.pull 1).pull 1)⟩
  rintro E w ⟨q6, q0y, rfl, q34, q15, hS⟩
  refine x_seq <| x_region <| p (yl_assign rfl) <| x_done <|
   x_seq <| x_region <| p (yl_assign rfl) <| x_done <|
   x_seq <| x_seq <| x_region <| p (yl_move q34) <|
   p (yl_len_slice usl_85 rfl) <| p (yl_move rfl) <| x_done <| ?_
  replace hF := bd_s hF; obtain ⟨oL16, hLL16, hF⟩ := hF
  refine x_join (fun E w => ∃ (q0l : Option Addr) (q0m : Nat) (c_out9_L16 : Nat) (q0g : List Value) (q10 : List T_floor_Span), q10 = oL16 ∧ E 9 = .slice q0l q0m c_out9_L16 ∧ RepL R_floor_Span ρ q10 q0g ∧ St w0 w (vec 46 R_floor_Span.sz (.slice q0l q0m c_out9_L16) q0m q0g :: ro ρ :: l)) ?_ ?_
  ·refine x_block ?_
   replace hS := St.vec_nil hS 46 R_floor_Span.sz
   have q17 : RepL R_floor_Span ρ [] [] := rfl
   refine x_loop (fun k_ E w => ∃ (q9 : Option Addr) (q0h : Nat) (c_out9_L16h : Nat) (q7 : List Value) (q5 : List T_floor_Span) (q3 : Int) (q4 : Int), lp (P_floor_Free_2_L16 q2 q0y) k_ (q5, q3, q4) = some oL16 ∧ E 9 = .slice q9 q0h c_out9_L16h ∧ E 10 = .int .i64 q3 ∧ E 57 = .slice A27 q2.length q2.length ∧ E 58 = .int .i64 (q2.length : Int) ∧ E 59 = .int .i64 q4 ∧ RepL R_floor_Span ρ q5 q7 ∧ St w0 w (vec 46 R_floor_Span.sz (.slice q9 q0h c_out9_L16h) q0h q7 :: vec 4 RpB.sz (.slice A27 q2.length q2.length) q2.length q6 :: ro ρ :: l)) fuel ⟨none, 0, 0, [], [], 0, 0, hLL16, rfl, rfl, rfl, rfl, rfl, q17, (((hS.pull 2).pull 2).pull 2)⟩ ?_
   rintro kL16 E w ⟨q9, q0h, c_out9_L16h, q7, q5, q3, q4, hLL16, q14, q18, q11, q12, q0f, q0b, hS⟩
   have e_ := St.vec_n hS q0b; subst e_
   replace hLL16 := lp_s hLL16; obtain ⟨kL16, obL16, rfl, hFL16, hLL16⟩ := hLL16
   refine x_seq <| x_region <| p (yl_lss q0f q12) <| x_done <|
    x_seq <|
    x_cond_p (q4 < (q2.length : Int)) rfl (fun hc60 => ?_) (fun hc60 => ?_)
   ·replace hFL16 := it_t hc60 hFL16
    replace hFL16 := ck_s hFL16; obtain ⟨q21, hFL16⟩ := hFL16
    replace hFL16 := lv_s hFL16; obtain ⟨x63, hx63, hFL16⟩ := hFL16
    refine x_skip <| x_seq <| x_block <| x_seq <|
     x_region <| p (yl_move q0f) <| p (yix_o sl_85 q11 q0f (hS.pull 1) q15 q21) <| pa (at_load one_4 rfl (RepL.getW q15 (hS.pull 1) q21 hx63)) <|
     p (yl_assign rfl) <| p (yl_assign rfl) <| x_done <| x_seq <|
     x_region <| p (yl_move rfl) <| x_done <| ?_
    replace hFL16 := bd_s hFL16; obtain ⟨oc64, hFc64, hFL16⟩ := hFL16
    refine x_join (fun E w => ∃ (q0n : Option Addr) (q0o : Nat) (c_out9_c64 : Nat) (q0i : List Value) (q0w : List T_floor_Span) (q0p : Int), (q0w, q0p) = oc64 ∧ E 9 = .slice q0n q0o c_out9_c64 ∧ E 10 = .int .i64 q0p ∧ E 57 = .slice A27 q2.length q2.length ∧ E 58 = .int .i64 (q2.length : Int) ∧ E 59 = .int .i64 q4 ∧ RepL R_floor_Span ρ q0w q0i ∧ St w0 w (vec 46 R_floor_Span.sz (.slice q0n q0o c_out9_c64) q0o q0i :: vec 4 RpB.sz (.slice A27 q2.length q2.length) q2.length q6 :: ro ρ :: l)) ?_ ?_
    ·refine x_cond (t := x63) rfl (fun hc64 => ?_) (fun hc64 => ?_)
     ·replace hFc64 := it_t hc64 hFc64
      refine x_seq <| x_seq <| x_region <| p (yl_move q18) <|
       p (yl_move rfl) <| p (yl_lss rfl rfl) <| x_done <| ?_
      replace hFc64 := bd_s hFc64; obtain ⟨oc67, hFc67, hFc64⟩ := hFc64
      refine x_join (fun E w => ∃ (q0q : Option Addr) (q0r : Nat) (c_out9_c67 : Nat) (q0j : List Value) (q0x : List T_floor_Span), q0x = oc67 ∧ E 9 = .slice q0q q0r c_out9_c67 ∧ E 11 = .int .i64 q4 ∧ E 57 = .slice A27 q2.length q2.length ∧ E 58 = .int .i64 (q2.length : Int) ∧ E 59 = .int .i64 q4 ∧ RepL R_floor_Span ρ q0x q0j ∧ St w0 w (vec 46 R_floor_Span.sz (.slice q0q q0r c_out9_c67) q0r q0j :: vec 4 RpB.sz (.slice A27 q2.length q2.length) q2.length q6 :: ro ρ :: l)) ?_ ?_
      ·refine x_cond_p (q3 < q4) rfl (fun hc67 => ?_) (fun hc67 => ?_)
       ·replace hFc67 := it_t hc67 hFc67
        refine x_region <| p (yl_move q14) <| p (yl_move q18) <| p (yl_move rfl) <|
         p (v := .agg #[.int .i64 q3, .int .i64 q4]) (yl_build bld_46 bldf_46 (parts_eq (pt (va := .int .i64 q3) rfl (pt (va := .int .i64 q4) rfl pt0))) (by kernel_rfl)) <| ?_
        refine o_buildSlice (vs := [.agg #[.int .i64 q3, .int .i64 q4]]) (cs := [.int .i64 q3, .int .i64 q4]) sl_43 zero_46 (parts_eq (pt (va := .agg #[.int .i64 q3, .int .i64 q4]) rfl pt0)) rfl (by intro v hv; simp only [List.mem_cons, List.not_mem_nil, or_false] at hv; first | (subst hv; rfl) | (rcases hv with rfl <;> rfl)) (by decide) rfl hS (fun b72 w' hS => ?_)
        replace hFc67 := lv_s hFc67; obtain ⟨q25, q2m, hFc67⟩ := hFc67
        replace hFc67 := ck_s hFc67; obtain ⟨q2n, hFc67⟩ := hFc67
        refine o_ap sl_43 zero_46 rfl (by decide) rfl rfl (hS.pull 1) q0b (src_blk usl_43 hS rfl rfl) (RepL.cons (R := R_floor_Span) (ρ := ρ) (x := (T_floor_Span.mk q3 q4)) (cs := [.int .i64 q3, .int .i64 q4]) rfl RepL.nil) q2m q2n (fun A73 c73 cs73 w' hr73 hS => ?_)
        refine p (yl_assign rfl) <| x_done <| ?_
        exact x_inv ⟨A73, q25.length, c73, cs73, q25, (sinj hFc67), rfl, rfl, q11, q12, q0f, hr73, ((((hS.pull 1).drop.pull 2).pull 2).pull 2)⟩
       ·replace hFc67 := it_f hc67 hFc67
        refine x_skip <| ?_
        exact x_inv ⟨q9, q5.length, c_out9_L16h, q7, q5, (sinj hFc67), q14, rfl, q11, q12, q0f, q0b, (((hS.pull 2).pull 2).pull 2)⟩
      rintro E w ⟨q0q, q0r, c_out9_c67, q0j, q0x, rfl, q2o, q26, q27, q28, q29, q1c, hS⟩
      have e_ := St.vec_n hS q1c; subst e_
      replace hFc64 := ar_s hFc64; obtain ⟨x75, hx75, hFc64⟩ := hFc64
      refine x_region <| p (yl_move q26) <| p (yadd rfl rfl hx75) <| p (yl_assign rfl) <|
       x_done <| ?_
      exact x_inv ⟨q0q, q0x.length, c_out9_c67, q0j, q0x, x75, (sinj hFc64), q2o, rfl, q27, q28, q29, q1c, (((hS.pull 2).pull 2).pull 2)⟩
     ·replace hFc64 := it_bf hc64 hFc64
      refine x_skip <| ?_
      exact x_inv ⟨q9, q5.length, c_out9_L16h, q7, q5, q3, (sinj hFc64), q14, q18, q11, q12, q0f, q0b, (((hS.pull 2).pull 2).pull 2)⟩
    rintro E w ⟨q0n, q0o, c_out9_c64, q0i, q0w, q0p, rfl, q2p, q2a, q2b, q2c, q2d, q1d, hS⟩
    have e_ := St.vec_n hS q1d; subst e_
    replace hFL16 := ar_s hFL16; obtain ⟨x76, hx76, hFL16⟩ := hFL16
    refine x_blk <| x_region <| p (yadd q2d rfl hx76) <| p (yl_move rfl) <|
     x_done <| ?_
    have e_ := sinj hFL16; subst e_
    exact x_inv ⟨kL16, Nat.lt_succ_self _, q0n, q0w.length, c_out9_c64, q0i, q0w, q0p, x76, hLL16, q2p, q2a, q2b, q2c, rfl, q1d, (((hS.pull 2).pull 2).pull 2)⟩
   ·replace hFL16 := it_f hc60 hFL16
    refine x_exitTo _ rfl <| ?_
    have e_ := sinj hFL16; subst e_
    exact x_inv ⟨q9, q5.length, c_out9_L16h, q7, q5, hLL16, q14, q0b, (((hS.pull 1).drop.pull 1).pull 1)⟩
  rintro E w ⟨q0l, q0m, c_out9_L16, q0g, q10, rfl, q2q, q1e, hS⟩
  have e_ := St.vec_n hS q1e; subst e_
  refine x_seq <| x_region <| p (yl_move q2q) <| p (yl_assign rfl) <|
   x_done <| ?_
  have e_ := sinj hF; subst e_
  exact x_return ⟨_, ⟨_, _, rfl, rfl, rfl⟩, q0l, q10.length, c_out9_L16, q0g, rfl, q1e, ((hS.pull 1).pull 1)⟩
attribute [irreducible] P_floor_Free_2


end Go.Proofs.YtfkncjfpgflafaaDoor.X
