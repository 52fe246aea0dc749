/- Printed by gen.py: plain functions, and that the Go code computes them. -/
import Derived.Test.YtnnmbmgnpdcefaaYJ
import Derived.Test.YtnnmbmgnpdcefaaXI
import Derived.Test.YtnnmbmgnpdcefaaXP
import Derived.Test.YtnnmbmgnpdcefaaYX
import Derived.Test.YtnnmbmgnpdcefaaYU
import Derived.Test.YtnnmbmgnpdcefaaXT
import Derived.Test.YtnnmbmgnpdcefaaGAp0
namespace Go.Proofs.Ytnnmbmgnpdcefaa.X
set_option maxHeartbeats 4000000
set_option maxRecDepth 100000
open Go Go.RowKit
set_option linter.unusedVariables false
set_option linter.unusedSimpArgs false

def P_slices_IndexFunc_rules_Pin_rules_Pin_L2 (s0 : List T_rules_Pin) (q3 : Int) : Int → Option (Int ⊕ (Unit ⊕ Int)) := fun q2 =>
 if q2 < (s0.length : Int) then
  ck (inb q2 s0.length) <|
  lv (gt s0 q2) fun q4 =>
  bd (P_maskkeep4_RulesApart_1 q4 q3) fun q5 =>
  if q4.Net = q3 then
   some (Sum.inr (Sum.inr q2))
  else
   ar (q2 + 1) fun x18 =>
   some (Sum.inl x18)
 else
  some (Sum.inr (Sum.inl ()))
def P_slices_IndexFunc_rules_Pin_rules_Pin (s0 : List T_rules_Pin) (q2 : Int) : Option Int :=
 bs (
  lp (P_slices_IndexFunc_rules_Pin_rules_Pin_L2 s0 q2) fuel 0) (fun y => some y) fun _ =>
 some (-1 : Int)
theorem c_slices_IndexFunc_rules_Pin_rules_Pin {w0 w : World} {l : List Assn} {ρ : Heap} {q0a : Option Addr} {q0e : Nat} {c_s0 : Nat} {q3 : Nat} {s0 : List T_rules_Pin} {q2 : Int} {r : Int} (hF : P_slices_IndexFunc_rules_Pin_rules_Pin s0 q2 = some r) (q0b : RdS R_rules_Pin ρ q0a q0e c_s0 s0) (hS : St w0 w (cells q3 3 [.int .i64 q2] :: ro ρ :: l)) :
  Calls Try.prog 59 #[.slice q0a q0e c_s0, .func (.func 29) #[] #[.pointer (some ⟨q3, 0, none⟩)]] w fun e w' => e = .returned (.int .i64 r) ∧ St w0 w' (cells q3 3 [.int .i64 q2] :: ro ρ :: l) := by
 have e_ := q0b.n; subst e_
 refine enterC Try.func59 rfl 19 rfl (by simp) ?_
 refine x_seq <| x_region <| p (yl_assign rfl) <| x_done <|
  x_seq <| x_seq <| x_region <| p (yl_move rfl) <|
  p (yl_len_slice usl_28 rfl) <| p (yl_move rfl) <| x_done <| ?_
 replace hF := bs_s hF; obtain ⟨oL2, hLL2, hF⟩ := hF
 refine x_join (fun E w => (Sum.inl (())) = oL2 ∧ St w0 w (cells q3 3 [.int .i64 q2] :: ro ρ :: l)) ?_ ?_
 ·refine x_block ?_
  refine x_loop (fun k_ E w => ∃ (q4 : Int), lp (P_slices_IndexFunc_rules_Pin_rules_Pin_L2 s0 q2) k_ q4 = some oL2 ∧ E 0 = .slice q0a s0.length c_s0 ∧ E 1 = .func (.func 29) #[] #[.pointer (some ⟨q3, 0, none⟩)] ∧ E 7 = .int .i64 (s0.length : Int) ∧ E 8 = .int .i64 q4 ∧ St w0 w (cells q3 3 [.int .i64 q2] :: ro ρ :: l)) fuel ⟨0, hLL2, rfl, rfl, rfl, rfl, ((hS.pull 1).pull 1)⟩ ?_
  rintro kL2 E w ⟨q4, hLL2, q7, q8, q9, q6, hS⟩
  replace hLL2 := lp_s hLL2; obtain ⟨kL2, obL2, rfl, hFL2, hLL2⟩ := hLL2
  refine x_seq <| x_region <| p (yl_lss q6 q9) <| x_done <|
   x_seq <|
   x_cond_p (q4 < (s0.length : Int)) rfl (fun hc9 => ?_) (fun hc9 => ?_)
  ·replace hFL2 := it_t hc9 hFL2
   replace hFL2 := ck_s hFL2; obtain ⟨q0c, hFL2⟩ := hFL2
   replace hFL2 := lv_s hFL2; obtain ⟨q5, q0f, hFL2⟩ := hFL2
   have q_ := q0b.get q0c; obtain ⟨q0i, q0d, q0g⟩ := q_
   rw [← q0f] at q0d
   have e_ := q0d; subst e_
   replace hFL2 := bd_s hFL2; obtain ⟨q0j, q0h, hFL2⟩ := hFL2
   refine x_skip <| x_seq <| x_block <| x_seq <|
    x_region <| p (yl_move q6) <| p (yl_assign rfl) <| x_done <|
    x_seq <| x_region <| p (yl_move q8) <| p (yl_move q7) <|
    p (yl_move rfl) <| p (yix_f sl_28 rfl rfl q0b q0c) <| pa (v := .agg #[.int .i64 q5.Net, .int .i64 q5.X, .int .i64 q5.Y, .bool q5.Drive, .int .i64 q5.Size]) (at_loadAgg agg_39 rfl rfl (Elt.every q0g (hS.pull 1))) <| ?_
   have hcall := c_maskkeep4_RulesApart_1 q0h  hS
   refine o_ccv rfl call_29 (capargs (args1 rfl)) (hcall) ?_
   rintro e w' ⟨rfl, hS⟩
   refine ⟨_, rfl, ?_⟩
   refine x_done <|
    x_cond_p (q5.Net = q2) rfl (fun hc16 => ?_) (fun hc16 => ?_)
   ·replace hFL2 := it_t hc16 hFL2
    refine x_seq <| x_region <| p (yl_move rfl) <| p (yl_assign rfl) <|
     x_done <| ?_
    have e_ := sinj hFL2; subst e_
    have e_ := (show _ = oL2 from hLL2); subst e_
    have e_ := sinj hF; subst e_
    exact x_return ⟨_, ⟨_, _, rfl, rfl, rfl⟩, rfl, ((hS.pull 1).pull 1)⟩
   ·replace hFL2 := it_f hc16 hFL2
    replace hFL2 := ar_s hFL2; obtain ⟨x18, hx18, hFL2⟩ := hFL2
    refine x_skip <| x_blk <| x_region <| p (yadd q6 rfl hx18) <|
     p (yl_move rfl) <| x_done <| ?_
    have e_ := sinj hFL2; subst e_
    exact x_inv ⟨kL2, Nat.lt_succ_self _, x18, hLL2, q7, q8, q9, rfl, ((hS.pull 1).pull 1)⟩
  ·replace hFL2 := it_f hc9 hFL2
   refine x_exitTo _ rfl <| ?_
   have e_ := sinj hFL2; subst e_
   exact x_inv ⟨hLL2, ((hS.pull 1).pull 1)⟩
 rintro E w ⟨rfl, hS⟩
 refine x_seq <| x_region <| p (yl_assign rfl) <| x_done <| ?_
 have e_ := sinj hF; subst e_
 exact x_return ⟨_, ⟨_, _, rfl, rfl, rfl⟩, rfl, ((hS.pull 1).pull 1)⟩
attribute [irreducible] P_slices_IndexFunc_rules_Pin_rules_Pin

def P_slices_DeleteFunc_rules_Pin_rules_Pin_L5 (s0 : List T_rules_Pin) (q5 : Int) : (List T_rules_Pin × Int × Int) → Option ((List T_rules_Pin × Int × Int) ⊕ (List T_rules_Pin × Int)) := fun (q2, q3, q4) =>
 if q4 < (s0.length : Int) then
  ck (inb q4 q2.length) <|
  lv (gt q2 q4) fun q6 =>
  bd (P_maskkeep4_RulesApart_1 q6 q5) fun q0a =>
  bd (
   if (!(decide (q6.Net = q5))) = true then
    ck (inb q3 q2.length) <|
    lv (stt q2 q3 q6) fun q9 =>
    ar (q3 + 1) fun x35 =>
    some (q9, x35)
   else
    some (q2, q3)) fun (q7, q8) =>
  ar (q4 + 1) fun x21 =>
  some (Sum.inl (q7, q8, x21))
 else
  some (Sum.inr (q2, q3))
def P_slices_DeleteFunc_rules_Pin_rules_Pin (s0 : List T_rules_Pin) (q3 : Int) : Option (List T_rules_Pin) :=
 bd (P_slices_IndexFunc_rules_Pin_rules_Pin s0 q3) fun q5 =>
 if q5 = (-1) then
  some s0
 else
  ar (q5 + 1) fun x15 =>
  bd (
   lp (P_slices_DeleteFunc_rules_Pin_rules_Pin_L5 s0 q3) fuel (s0, q5, x15)) fun (q4, q2) =>
  ck (0 ≤ q2 ∧ q2 ≤ q4.length) <|
  lv (q4.take (q2 : Int).toNat ++ List.replicate (q4.length - (q2 : Int).toNat) (T_rules_Pin.mk 0 0 0 false 0)) fun q6 =>
  ck (0 ≤ (0 : Int) ∧ (0 : Int) ≤ q2 ∧ q2 ≤ q6.length) <|
  lv (sub q6 0 q2) fun x41 =>
  some x41
theorem c_slices_DeleteFunc_rules_Pin_rules_Pin {w0 w : World} {l : List Assn} {ρ : Heap} {q9 : Option Addr} {q0u : Nat} {c_s0 : Nat} {q0n : List Value} {q3 : Nat} {s0 : List T_rules_Pin} {q4 : Int} {r : List T_rules_Pin} (hF : P_slices_DeleteFunc_rules_Pin_rules_Pin s0 q4 = some r) (q0o : RepL R_rules_Pin ρ s0 q0n) (hS : St w0 w (vec 39 R_rules_Pin.sz (.slice q9 q0u c_s0) q0u q0n :: cells q3 3 [.int .i64 q4] :: ro ρ :: l)) :
  Calls Try.prog 28 #[.slice q9 q0u c_s0, .func (.func 29) #[] #[.pointer (some ⟨q3, 0, none⟩)]] w fun e w' => ∃ (ρ' : Heap) (q0i : Option Addr) (q0j : Nat) (c_y0_ret : Nat), e = .returned (.slice q0i q0j c_y0_ret) ∧ Le ρ ρ' ∧ RdS R_rules_Pin ρ' q0i q0j c_y0_ret r ∧ St w0 w' (cells q3 3 [.int .i64 q4] :: ro ρ' :: l) := by
 have e_ := St.vec_n hS q0o; subst e_
 refine enterC Try.func28 rfl 42 rfl (by simp) ?_
 replace hF := bd_s hF; obtain ⟨q0k, q1c, hF⟩ := hF
 refine x_seq <| x_region <| p (yl_assign rfl) <| x_done <|
  x_seq <| x_region <| p (yl_move rfl) <| p (yl_move rfl) <| ?_
 have q_ := St.lend ((hS.pull 2).pull 1) q0o; obtain ⟨ρl0, hll0, hlf0, hS0, back0⟩ := q_
 have hcall := c_slices_IndexFunc_rules_Pin_rules_Pin q1c hlf0 (hS0.pull 1)
 refine o_cc call_59 (args2 rfl rfl) ((Calls.mono hcall (fun e w'' h => And.intro h.1 ((((back0 (h.2.pull 1)).pull 1).pull 2).pull 2)))) ?_
 rintro e w' ⟨rfl, hS⟩
 refine ⟨_, rfl, ?_⟩
 refine p (v := .int .i64 q0k) (yl_assign rfl) <| x_done <| x_seq <| x_seq <|
  x_region <| p (v := .int .i64 q0k) (yl_move rfl) <| p (yl_eql rfl rfl) <| x_done <|
  x_cond_p (q0k = (-1)) rfl (fun hc12 => ?_) (fun hc12 => ?_)
 ·replace hF := it_t hc12 hF
  refine x_seq <| x_region <| p (yl_move rfl) <| p (yl_assign rfl) <|
   x_done <| ?_
  have q_ := St.vec_fz ((hS.pull 2).pull 1) q0o; obtain ⟨q0v, q0p, q0w, hS⟩ := q_
  have e_ := sinj hF; subst e_
  exact x_return ⟨_, ⟨_, _, rfl, rfl, rfl⟩, q0v, q9, s0.length, c_s0, rfl, q0p, q0w, (hS.pull 1)⟩
 ·replace hF := it_f hc12 hF
  replace hF := ar_s hF; obtain ⟨x15, hx15, hF⟩ := hF
  refine x_skip <| x_seq <| x_seq <| x_region <|
   p (v := .int .i64 q0k) (yl_move rfl) <| p (yadd rfl rfl hx15) <| p (yl_assign rfl) <| x_done <| ?_
  replace hF := bd_s hF; obtain ⟨oL5, hLL5, hF⟩ := hF
  refine x_join (fun E w => ∃ (q0d : List Value) (q0q : List T_rules_Pin) (q0r : Int), (q0q, q0r) = oL5 ∧ E 0 = .slice q9 s0.length c_s0 ∧ E 5 = .int .i64 q0r ∧ RepL R_rules_Pin ρ q0q q0d ∧ St w0 w (vec 39 R_rules_Pin.sz (.slice q9 s0.length c_s0) s0.length q0d :: cells q3 3 [.int .i64 q4] :: ro ρ :: l)) ?_ ?_
  ·refine x_block ?_
   refine x_loop (fun k_ E w => ∃ (q6 : List Value) (q0a : List T_rules_Pin) (q0b : Int) (q0c : Int), lp (P_slices_DeleteFunc_rules_Pin_rules_Pin_L5 s0 q4) k_ (q0a, q0b, q0c) = some oL5 ∧ E 0 = .slice q9 s0.length c_s0 ∧ E 1 = .func (.func 29) #[] #[.pointer (some ⟨q3, 0, none⟩)] ∧ E 5 = .int .i64 q0b ∧ E 6 = .int .i64 q0c ∧ RepL R_rules_Pin ρ q0a q6 ∧ St w0 w (vec 39 R_rules_Pin.sz (.slice q9 s0.length c_s0) s0.length q6 :: cells q3 3 [.int .i64 q4] :: ro ρ :: l)) fuel ⟨q0n, s0, q0k, x15, hLL5, rfl, rfl, rfl, rfl, q0o, (((hS.pull 2).pull 2).pull 2)⟩ ?_
   rintro kL5 E w ⟨q6, q0a, q0b, q0c, hLL5, q8, q0l, q0e, q0f, q5, hS⟩
   replace hLL5 := lp_s hLL5; obtain ⟨kL5, obL5, rfl, hFL5, hLL5⟩ := hLL5
   refine x_seq <| x_seq <| x_region <| p (yl_move q0f) <|
    p (yl_move q8) <| p (yl_len_slice usl_28 rfl) <| p (yl_lss rfl rfl) <| x_done <|
    x_cond_p (q0c < (s0.length : Int)) rfl (fun hc19 => ?_) (fun hc19 => ?_)
   ·replace hFL5 := it_t hc19 hFL5
    replace hFL5 := ck_s hFL5; obtain ⟨q0z, hFL5⟩ := hFL5
    replace hFL5 := lv_s hFL5; obtain ⟨q2, q1d, hFL5⟩ := hFL5
    have q_ := q5.get q0z; obtain ⟨q1l, q10, q1e⟩ := q_
    rw [← q1d] at q10
    have e_ := q10; subst e_
    refine x_skip <| x_seq <| x_block <| x_seq <|
     x_region <| p (yl_move q8) <| p (yl_move q0f) <| p (yix_o sl_28 rfl rfl hS q5 q0z) <|
     pa (v := .agg #[.int .i64 q2.Net, .int .i64 q2.X, .int .i64 q2.Y, .bool q2.Drive, .int .i64 q2.Size]) (at_loadAgg agg_39 rfl rfl (EltV.every q1e hS)) <| ?_
    refine o_alloc zero_39 hS (fun b7 w' hS => ?_)
    refine o_storeAgg (news := [.int .i64 q2.Net, .int .i64 q2.X, .int .i64 q2.Y, .bool q2.Drive, .int .i64 q2.Size]) agg_39 rfl rfl rfl (by simp [over_length]) hS (fun w' hS => ?_)
    replace hFL5 := bd_s hFL5; obtain ⟨q1n, q1f, hFL5⟩ := hFL5
    refine x_done <| x_seq <| x_region <| p (yl_move q0l) <|
     pa (v := .agg #[.int .i64 q2.Net, .int .i64 q2.X, .int .i64 q2.Y, .bool q2.Drive, .int .i64 q2.Size]) (ld_sub agg_39 rfl rfl rfl hS) <| ?_
    have hcall := c_maskkeep4_RulesApart_1 q1f  ((hS.pull 3).pull 3)
    refine o_ccv rfl call_29 (capargs (args1 rfl)) ((Calls.mono hcall (fun e w'' h => And.intro h.1 ((((h.2.pull 1).pull 1).pull 3).pull 3)))) ?_
    rintro e w' ⟨rfl, hS⟩
    refine ⟨_, rfl, ?_⟩
    refine p (yl_not rfl) <| x_done <| ?_
    replace hFL5 := bd_s hFL5; obtain ⟨oc29, hFc29, hFL5⟩ := hFL5
    refine x_join (fun E w => ∃ (q7 : List Value) (q0g : List T_rules_Pin) (q0h : Int), (q0g, q0h) = oc29 ∧ E 0 = .slice q9 s0.length c_s0 ∧ E 1 = .func (.func 29) #[] #[.pointer (some ⟨q3, 0, none⟩)] ∧ E 5 = .int .i64 q0h ∧ E 6 = .int .i64 q0c ∧ RepL R_rules_Pin ρ q0g q7 ∧ St w0 w (vec 39 R_rules_Pin.sz (.slice q9 s0.length c_s0) s0.length q7 :: cells q3 3 [.int .i64 q4] :: ro ρ :: l)) ?_ ?_
    ·refine x_cond (t := !(decide (q2.Net = q4))) rfl (fun hc29 => ?_) (fun hc29 => ?_)
     ·replace hFc29 := it_t hc29 hFc29
      replace hFc29 := ck_s hFc29; obtain ⟨q11, hFc29⟩ := hFc29
      refine x_seq <| x_region <| p (yl_move q8) <| p (yl_move q0e) <|
       pa (v := .agg #[.int .i64 q2.Net, .int .i64 q2.X, .int .i64 q2.Y, .bool q2.Drive, .int .i64 q2.Size]) (ld_sub agg_39 rfl rfl rfl hS) <| p (yix_o sl_28 rfl rfl (hS.pull 1) q5 q11) <| ?_
      replace hFc29 := lv_s hFc29; obtain ⟨q1j, q1g, hFc29⟩ := hFc29
      refine o_put' (news := [.int .i64 q2.Net, .int .i64 q2.X, .int .i64 q2.Y, .bool q2.Drive, .int .i64 q2.Size]) sz_39 rfl rfl rfl rfl (o := 0) rfl q11 rfl (hS.pull 1) q5 (Le.refl _) (fun c hc => ok_all hc (show R_rules_Pin.ok ρ [.int .i64 q2.Net, .int .i64 q2.X, .int .i64 q2.Y, .bool q2.Drive, .int .i64 q2.Size] q2 from rfl)) q1g (fun q1h w' q1i hS => ?_)
      replace hFc29 := ar_s hFc29; obtain ⟨x35, hx35, hFc29⟩ := hFc29
      refine x_done <| x_region <| p (yl_move q0e) <| p (yadd rfl rfl hx35) <|
       p (yl_assign rfl) <| x_done <| ?_
      exact x_inv ⟨q1h, q1j, x35, (sinj hFc29), q8, q0l, rfl, q0f, q1i, ((((hS.pull 1).drop.pull 2).pull 2).pull 2)⟩
     ·replace hFc29 := it_bf hc29 hFc29
      refine x_skip <| ?_
      exact x_inv ⟨q6, q0a, q0b, (sinj hFc29), q8, q0l, q0e, q0f, q5, (((hS.drop.pull 2).pull 2).pull 2)⟩
    rintro E w ⟨q7, q0g, q0h, rfl, q14, q15, q16, q17, q0x, hS⟩
    replace hFL5 := ar_s hFL5; obtain ⟨x21, hx21, hFL5⟩ := hFL5
    refine x_blk <| x_region <| p (yl_move q17) <| p (yadd rfl rfl hx21) <|
     p (yl_assign rfl) <| x_done <| ?_
    have e_ := sinj hFL5; subst e_
    exact x_inv ⟨kL5, Nat.lt_succ_self _, q7, q0g, q0h, x21, hLL5, q14, q15, q16, rfl, q0x, (((hS.pull 2).pull 2).pull 2)⟩
   ·replace hFL5 := it_f hc19 hFL5
    refine x_exitTo _ rfl <| ?_
    have e_ := sinj hFL5; subst e_
    exact x_inv ⟨q6, q0a, q0b, hLL5, q8, q0e, q5, (((hS.pull 2).pull 2).pull 2)⟩
  rintro E w ⟨q0d, q0q, q0r, rfl, q12, q13, q0m, hS⟩
  replace hF := ck_s hF; obtain ⟨q0s, hF⟩ := hF
  refine x_seq <| x_region <| p (yl_move q12) <| p (yl_move q13) <|
   p (yslc sl_28 rfl rfl hS q0m q0s) <| ?_
  replace hF := lv_s hF; obtain ⟨q1m, q18, hF⟩ := hF
  refine o_clear (z := (T_rules_Pin.mk 0 0 0 false 0)) usl_28 zero_39 rfl (show R_rules_Pin.ok ρ _ (T_rules_Pin.mk 0 0 0 false 0) from rfl) hS q0m q0s q18 (fun q1k w' q19 hS => ?_)
  refine x_done <| x_seq <| x_region <| p (yl_move q12) <|
   p (yl_move q13) <| ?_
  have q_ := St.vec_fz ((hS.pull 2).pull 1) q19; obtain ⟨q1a, q0y, q1b, hS⟩ := q_
  replace hF := ck_s hF; obtain ⟨q0t, hF⟩ := hF
  replace hF := lv_s hF; obtain ⟨x41, hx41, hF⟩ := hF
  have q_ := RdS.sub q1b q0t hx41; obtain ⟨A41, n41, c41, hd41, f41⟩ := q_
  refine p (ysub_h sl_28 rfl rfl q0t hd41) <| ?_
  have e_ := f41.n; subst e_
  refine p (yl_assign rfl) <| x_done <| ?_
  have e_ := sinj hF; subst e_
  exact x_return ⟨_, ⟨_, _, rfl, rfl, rfl⟩, q1a, A41, x41.length, c41, rfl, q0y, f41, (hS.pull 1)⟩
attribute [irreducible] P_slices_DeleteFunc_rules_Pin_rules_Pin

def P_rules_within (n0 : Int) (low1 : Int) (high2 : Int) : Option Bool :=
 lv ((decide (low1 ≤ n0)) && (decide (n0 ≤ high2))) fun x14 =>
 some x14
theorem c_rules_within {w0 w : World} {l : List Assn} {ρ : Heap} {n0 : Int} {low1 : Int} {high2 : Int} {r : Bool} (hF : P_rules_within n0 low1 high2 = some r) (hS : St w0 w (ro ρ :: l)) :
  Calls Try.prog 61 #[.int .i64 n0, .int .i64 low1, .int .i64 high2] w fun e w' => e = .returned (.bool r) ∧ St w0 w' (ro ρ :: l) := by
 refine enterC Try.func61 rfl 15 rfl (by simp) ?_
 replace hF := lv_s hF; obtain ⟨x14, hx14, hF⟩ := hF
 refine x_seq <| x_region <| p (yl_assign rfl) <| x_done <|
  x_seq <| x_region <| p (yl_move rfl) <| p (yl_move rfl) <|
  p (yl_leq rfl rfl) <| p (yl_move rfl) <| pg (v := .int .i64 n0) 10 (c := decide (low1 ≤ n0)) (says_t _) (fun hq => Yl.at (yl_move rfl)) <| pg (v := .int .i64 high2) 10 (c := decide (low1 ≤ n0)) (says_t _) (fun hq => Yl.at (yl_move rfl)) <|
  pg (v := .bool (decide (n0 ≤ high2))) 10 (c := decide (low1 ≤ n0)) (says_t _) (fun hq => Yl.at (yl_leq (cv hq) (cv hq))) <| p (yand' rfl (fun hc => (cv hc)) rfl hx14) <| p (yl_assign rfl) <| x_done <| ?_
 have e_ := sinj hF; subst e_
 exact x_return ⟨_, ⟨_, _, rfl, rfl, rfl⟩, rfl, hS⟩
attribute [irreducible] P_rules_within

def P_rules_checkWire (l_0 : T_rules_Layout) (w_1 : T_rules_Wire) : Option Int :=
 ar (l_0.Nets - 1) fun x10 =>
 bd (P_rules_within w_1.Net 0 x10) fun q7 =>
 if (!q7) = true then
  some (7 : Int)
 else
  ar (l_0.Layers - 1) fun x18 =>
  bd (P_rules_within w_1.Layer 0 x18) fun q2 =>
  ck ((!(!q2)) = true → I64 (l_0.W - 1)) <|
  lv (l_0.W - 1) fun x26 =>
  bd (gd (!(!q2)) (P_rules_within w_1.X0 0 x26)) fun q3 =>
  lv ((!q2) || (!q3)) fun x29 =>
  ck ((!x29) = true → I64 (l_0.H - 1)) <|
  lv (l_0.H - 1) fun x35 =>
  bd (gd (!x29) (P_rules_within w_1.Y0 0 x35)) fun q4 =>
  lv (x29 || (!q4)) fun x38 =>
  ck ((!x38) = true → I64 (l_0.W - 1)) <|
  lv (l_0.W - 1) fun x46 =>
  bd (gd (!x38) (P_rules_within w_1.X1 w_1.X0 x46)) fun q5 =>
  lv (x38 || (!q5)) fun x49 =>
  ck ((!x49) = true → I64 (l_0.H - 1)) <|
  lv (l_0.H - 1) fun x57 =>
  bd (gd (!x49) (P_rules_within w_1.Y1 w_1.Y0 x57)) fun q6 =>
  lv (x49 || (!q6)) fun x60 =>
  if x60 = true then
   some (2 : Int)
  else
   ck ((2 : Int) ≠ 0) <|
   lv (Int.tmod w_1.Layer 2) fun x64 =>
   lv ((decide (x64 = 0)) && (decide (w_1.Y0 ≠ w_1.Y1))) fun x72 =>
   ck ((!x72) = true → (2 : Int) ≠ 0) <|
   lv (Int.tmod w_1.Layer 2) fun x76 =>
   lv ((decide (x76 = 1)) && (decide (w_1.X0 ≠ w_1.X1))) fun x84 =>
   lv (x72 || x84) fun x85 =>
   if x85 = true then
    some (4 : Int)
   else
    some (0 : Int)
theorem c_rules_checkWire {w0 w : World} {l : List Assn} {ρ : Heap} {q3 : Option Addr} {q7 : Nat} {c_l_0_4 : Nat} {q4 : Option Addr} {q8 : Nat} {c_l_0_5 : Nat} {q5 : Option Addr} {q9 : Nat} {c_l_0_6 : Nat} {q6 : Option Addr} {q0a : Nat} {c_l_0_7 : Nat} {l_0 : T_rules_Layout} {w_1 : T_rules_Wire} {r : Int} (hF : P_rules_checkWire l_0 w_1 = some r) (q0f : RdS R_rules_Wire ρ q3 q7 c_l_0_4 l_0.Wires) (q0g : RdS R_rules_Via ρ q4 q8 c_l_0_5 l_0.Vias) (q0h : RdS R_rules_Pin ρ q5 q9 c_l_0_6 l_0.Pins) (q0i : RdS R_floor_Wall ρ q6 q0a c_l_0_7 l_0.Walls) (hS : St w0 w (ro ρ :: l)) :
  Calls Try.prog 62 #[.agg #[.int .i64 l_0.W, .int .i64 l_0.H, .int .i64 l_0.Layers, .int .i64 l_0.Nets, .slice q3 q7 c_l_0_4, .slice q4 q8 c_l_0_5, .slice q5 q9 c_l_0_6, .slice q6 q0a c_l_0_7], .agg #[.int .i64 w_1.Net, .int .i64 w_1.Layer, .int .i64 w_1.X0, .int .i64 w_1.Y0, .int .i64 w_1.X1, .int .i64 w_1.Y1]] w fun e w' => e = .returned (.int .i64 r) ∧ St w0 w' (ro ρ :: l) := by
 have e_ := q0f.n; subst e_
 have e_ := q0g.n; subst e_
 have e_ := q0h.n; subst e_
 have e_ := q0i.n; subst e_
 refine enterC Try.func62 rfl 86 rfl (by simp) ?_
 refine x_seq <| x_region <| ?_
 refine o_box (cs := [.int .i64 l_0.W, .int .i64 l_0.H, .int .i64 l_0.Layers, .int .i64 l_0.Nets, .slice q3 l_0.Wires.length c_l_0_4, .slice q4 l_0.Vias.length c_l_0_5, .slice q5 l_0.Pins.length c_l_0_6, .slice q6 l_0.Walls.length c_l_0_7]) rfl rfl hS (fun b2 w' hS => ?_)
 refine o_box (cs := [.int .i64 w_1.Net, .int .i64 w_1.Layer, .int .i64 w_1.X0, .int .i64 w_1.Y0, .int .i64 w_1.X1, .int .i64 w_1.Y1]) rfl rfl hS (fun b3 w' hS => ?_)
 replace hF := ar_s hF; obtain ⟨x10, hx10, hF⟩ := hF
 replace hF := bd_s hF; obtain ⟨q0v, q0s, hF⟩ := hF
 refine p (yl_assign rfl) <| x_done <| x_seq <| x_block <|
  x_seq <| x_region <| p (yl_field0 fld_44_0 rfl) <| pa (at_load one_3 rfl (hS.cell rfl)) <|
  p (yl_field0 fld_31_3 rfl) <| pa (at_load one_3 rfl ((hS.pull 1).cell rfl)) <| p (ysub rfl rfl hx10) <| ?_
 have hcall := c_rules_within q0s  (hS.pull 2)
 refine o_cc call_61 (args3 rfl rfl rfl) ((Calls.mono hcall (fun e w'' h => And.intro h.1 ((h.2.pull 2).pull 2)))) ?_
 rintro e w' ⟨rfl, hS⟩
 refine ⟨_, rfl, ?_⟩
 refine p (yl_not rfl) <| p (yl_assign rfl) <| x_done <|
  x_cond (t := !q0v) rfl (fun hc5 => ?_) (fun hc5 => ?_)
 ·replace hF := it_t hc5 hF
  refine x_seq <| x_region <| p (yl_assign rfl) <| x_done <| ?_
  have e_ := sinj hF; subst e_
  exact x_return ⟨_, ⟨_, _, rfl, rfl, rfl⟩, rfl, hS.drop.drop⟩
 ·replace hF := it_bf hc5 hF
  replace hF := ar_s hF; obtain ⟨x18, hx18, hF⟩ := hF
  replace hF := bd_s hF; obtain ⟨q2, q0t, hF⟩ := hF
  refine x_seq <| x_region <| p (yl_field0 fld_44_1 rfl) <| pa (at_load one_3 rfl (hS.cell rfl)) <|
   p (yl_field0 fld_31_2 rfl) <| pa (at_load one_3 rfl ((hS.pull 1).cell rfl)) <| p (ysub rfl rfl hx18) <| ?_
  have hcall := c_rules_within q0t  (hS.pull 2)
  refine o_cc call_61 (args3 rfl rfl rfl) ((Calls.mono hcall (fun e w'' h => And.intro h.1 ((h.2.pull 2).pull 2)))) ?_
  rintro e w' ⟨rfl, hS⟩
  refine ⟨_, rfl, ?_⟩
  replace hF := ck_s hF; obtain ⟨q0j, hF⟩ := hF
  replace hF := lv_s hF; obtain ⟨x26, hx26, hF⟩ := hF
  replace hF := bd_s hF; obtain ⟨q0b, q0k, hF⟩ := hF
  refine p (yl_not rfl) <| p (yl_move rfl) <| pg (v := .pointer (some ⟨b3, 2, none⟩)) 21 (c := !(!q2)) (says_f _) (fun hq => Yl.at (yl_field0 fld_44_2 rfl)) <| pg (v := .int .i64 w_1.X0) 21 (c := !(!q2)) (says_f _) (fun hq => at_load one_3 (cv hq) (hS.cell rfl)) <|
   pg (v := .pointer (some ⟨b2, 0, none⟩)) 21 (c := !(!q2)) (says_f _) (fun hq => Yl.at (yl_field0 fld_31_0 rfl)) <| pg (v := .int .i64 l_0.W) 21 (c := !(!q2)) (says_f _) (fun hq => at_load one_3 (cv hq) ((hS.pull 1).cell rfl)) <| pg (v := .int .i64 x26) 21 (c := !(!q2)) (says_f _) (fun hq => Yl.at (ysub (cv hq) rfl ⟨hx26, (q0j hq)⟩)) <|
   pccg (v := .bool q0b) 21 (c := !(!q2)) (says_f _) call_61 (fun hq => (args3 (cv hq) rfl (cv hq))) hS (fun hq => by
    have hcall := c_rules_within (gd_t q0k hq)  (hS.pull 2)
    exact (Calls.mono hcall (fun e w'' h => And.intro h.1 ((h.2.pull 2).pull 2)))) (fun w' hS => ?_)
  replace hF := lv_s hF; obtain ⟨x29, hx29, hF⟩ := hF
  replace hF := ck_s hF; obtain ⟨q0l, hF⟩ := hF
  replace hF := lv_s hF; obtain ⟨x35, hx35, hF⟩ := hF
  replace hF := bd_s hF; obtain ⟨q0c, q0m, hF⟩ := hF
  refine pg (v := .bool (!q0b)) 21 (c := !(!q2)) (says_f _) (fun hq => Yl.at (yl_not (cv hq))) <| p (yor' rfl rfl (fun hc => (cv (t_not hc))) hx29) <| p (yl_move rfl) <| pg (v := .pointer (some ⟨b3, 3, none⟩)) 30 (c := !x29) (says_f _) (fun hq => Yl.at (yl_field0 fld_44_3 rfl)) <|
   pg (v := .int .i64 w_1.Y0) 30 (c := !x29) (says_f _) (fun hq => at_load one_3 (cv hq) (hS.cell rfl)) <| pg (v := .pointer (some ⟨b2, 1, none⟩)) 30 (c := !x29) (says_f _) (fun hq => Yl.at (yl_field0 fld_31_1 rfl)) <| pg (v := .int .i64 l_0.H) 30 (c := !x29) (says_f _) (fun hq => at_load one_3 (cv hq) ((hS.pull 1).cell rfl)) <| pg (v := .int .i64 x35) 30 (c := !x29) (says_f _) (fun hq => Yl.at (ysub (cv hq) rfl ⟨hx35, (q0l hq)⟩)) <|
   pccg (v := .bool q0c) 30 (c := !x29) (says_f _) call_61 (fun hq => (args3 (cv hq) rfl (cv hq))) hS (fun hq => by
    have hcall := c_rules_within (gd_t q0m hq)  (hS.pull 2)
    exact (Calls.mono hcall (fun e w'' h => And.intro h.1 ((h.2.pull 2).pull 2)))) (fun w' hS => ?_)
  replace hF := lv_s hF; obtain ⟨x38, hx38, hF⟩ := hF
  replace hF := ck_s hF; obtain ⟨q0n, hF⟩ := hF
  replace hF := lv_s hF; obtain ⟨x46, hx46, hF⟩ := hF
  replace hF := bd_s hF; obtain ⟨q0d, q0o, hF⟩ := hF
  refine pg (v := .bool (!q0c)) 30 (c := !x29) (says_f _) (fun hq => Yl.at (yl_not (cv hq))) <| p (yor' rfl rfl (fun hc => (cv (t_not hc))) hx38) <| p (yl_move rfl) <| pg (v := .pointer (some ⟨b3, 4, none⟩)) 39 (c := !x38) (says_f _) (fun hq => Yl.at (yl_field0 fld_44_4 rfl)) <|
   pg (v := .int .i64 w_1.X1) 39 (c := !x38) (says_f _) (fun hq => at_load one_3 (cv hq) (hS.cell rfl)) <| pg (v := .pointer (some ⟨b3, 2, none⟩)) 39 (c := !x38) (says_f _) (fun hq => Yl.at (yl_field0 fld_44_2 rfl)) <| pg (v := .int .i64 w_1.X0) 39 (c := !x38) (says_f _) (fun hq => at_load one_3 (cv hq) (hS.cell rfl)) <| pg (v := .pointer (some ⟨b2, 0, none⟩)) 39 (c := !x38) (says_f _) (fun hq => Yl.at (yl_field0 fld_31_0 rfl)) <|
   pg (v := .int .i64 l_0.W) 39 (c := !x38) (says_f _) (fun hq => at_load one_3 (cv hq) ((hS.pull 1).cell rfl)) <| pg (v := .int .i64 x46) 39 (c := !x38) (says_f _) (fun hq => Yl.at (ysub (cv hq) rfl ⟨hx46, (q0n hq)⟩)) <|
   pccg (v := .bool q0d) 39 (c := !x38) (says_f _) call_61 (fun hq => (args3 (cv hq) (cv hq) (cv hq))) hS (fun hq => by
    have hcall := c_rules_within (gd_t q0o hq)  (hS.pull 2)
    exact (Calls.mono hcall (fun e w'' h => And.intro h.1 ((h.2.pull 2).pull 2)))) (fun w' hS => ?_)
  replace hF := lv_s hF; obtain ⟨x49, hx49, hF⟩ := hF
  replace hF := ck_s hF; obtain ⟨q0p, hF⟩ := hF
  replace hF := lv_s hF; obtain ⟨x57, hx57, hF⟩ := hF
  replace hF := bd_s hF; obtain ⟨q0e, q0q, hF⟩ := hF
  refine pg (v := .bool (!q0d)) 39 (c := !x38) (says_f _) (fun hq => Yl.at (yl_not (cv hq))) <| p (yor' rfl rfl (fun hc => (cv (t_not hc))) hx49) <| p (yl_move rfl) <| pg (v := .pointer (some ⟨b3, 5, none⟩)) 50 (c := !x49) (says_f _) (fun hq => Yl.at (yl_field0 fld_44_5 rfl)) <|
   pg (v := .int .i64 w_1.Y1) 50 (c := !x49) (says_f _) (fun hq => at_load one_3 (cv hq) (hS.cell rfl)) <| pg (v := .pointer (some ⟨b3, 3, none⟩)) 50 (c := !x49) (says_f _) (fun hq => Yl.at (yl_field0 fld_44_3 rfl)) <| pg (v := .int .i64 w_1.Y0) 50 (c := !x49) (says_f _) (fun hq => at_load one_3 (cv hq) (hS.cell rfl)) <| pg (v := .pointer (some ⟨b2, 1, none⟩)) 50 (c := !x49) (says_f _) (fun hq => Yl.at (yl_field0 fld_31_1 rfl)) <|
   pg (v := .int .i64 l_0.H) 50 (c := !x49) (says_f _) (fun hq => at_load one_3 (cv hq) ((hS.pull 1).cell rfl)) <| pg (v := .int .i64 x57) 50 (c := !x49) (says_f _) (fun hq => Yl.at (ysub (cv hq) rfl ⟨hx57, (q0p hq)⟩)) <|
   pccg (v := .bool q0e) 50 (c := !x49) (says_f _) call_61 (fun hq => (args3 (cv hq) (cv hq) (cv hq))) hS (fun hq => by
    have hcall := c_rules_within (gd_t q0q hq)  (hS.pull 2)
    exact (Calls.mono hcall (fun e w'' h => And.intro h.1 ((h.2.pull 2).pull 2)))) (fun w' hS => ?_)
  replace hF := lv_s hF; obtain ⟨x60, hx60, hF⟩ := hF
  refine pg (v := .bool (!q0e)) 50 (c := !x49) (says_f _) (fun hq => Yl.at (yl_not (cv hq))) <| p (yor' rfl rfl (fun hc => (cv (t_not hc))) hx60) <| p (yl_assign rfl) <| x_done <|
   x_cond (t := x60) rfl (fun hc13 => ?_) (fun hc13 => ?_)
  ·replace hF := it_t hc13 hF
   refine x_seq <| x_region <| p (yl_assign rfl) <| x_done <| ?_
   have e_ := sinj hF; subst e_
   exact x_return ⟨_, ⟨_, _, rfl, rfl, rfl⟩, rfl, hS.drop.drop⟩
  ·replace hF := it_bf hc13 hF
   replace hF := ck_s hF; obtain ⟨q0u, hF⟩ := hF
   replace hF := lv_s hF; obtain ⟨x64, hx64, hF⟩ := hF
   replace hF := lv_s hF; obtain ⟨x72, hx72, hF⟩ := hF
   replace hF := ck_s hF; obtain ⟨q0r, hF⟩ := hF
   replace hF := lv_s hF; obtain ⟨x76, hx76, hF⟩ := hF
   replace hF := lv_s hF; obtain ⟨x84, hx84, hF⟩ := hF
   replace hF := lv_s hF; obtain ⟨x85, hx85, hF⟩ := hF
   refine x_seq <| x_region <| p (yl_field0 fld_44_1 rfl) <| pa (at_load one_3 rfl (hS.cell rfl)) <|
    p (yrem rfl rfl q0u hx64) <| p (yl_eql rfl rfl) <| p (yl_move rfl) <| pg (v := .pointer (some ⟨b3, 3, none⟩)) 66 (c := decide (x64 = 0)) (says_t _) (fun hq => Yl.at (yl_field0 fld_44_3 rfl)) <|
    pg (v := .int .i64 w_1.Y0) 66 (c := decide (x64 = 0)) (says_t _) (fun hq => at_load one_3 (cv hq) (hS.cell rfl)) <| pg (v := .pointer (some ⟨b3, 5, none⟩)) 66 (c := decide (x64 = 0)) (says_t _) (fun hq => Yl.at (yl_field0 fld_44_5 rfl)) <| pg (v := .int .i64 w_1.Y1) 66 (c := decide (x64 = 0)) (says_t _) (fun hq => at_load one_3 (cv hq) (hS.cell rfl)) <| pg (v := .bool (decide (w_1.Y0 ≠ w_1.Y1))) 66 (c := decide (x64 = 0)) (says_t _) (fun hq => Yl.at (yl_neq (cv hq) (cv hq))) <|
    p (yand' rfl (fun hc => (cv hc)) rfl hx72) <| p (yl_move rfl) <| pg (v := .pointer (some ⟨b3, 1, none⟩)) 73 (c := !x72) (says_f _) (fun hq => Yl.at (yl_field0 fld_44_1 rfl)) <| pg (v := .int .i64 w_1.Layer) 73 (c := !x72) (says_f _) (fun hq => at_load one_3 (cv hq) (hS.cell rfl)) <|
    pg (v := .int .i64 x76) 73 (c := !x72) (says_f _) (fun hq => Yl.at (yrem (cv hq) rfl (q0r hq) hx76)) <| pg (v := .bool (decide (x76 = 1))) 73 (c := !x72) (says_f _) (fun hq => Yl.at (yl_eql (cv hq) rfl)) <| pg (v := .bool (decide (x76 = 1))) 73 (c := !x72) (says_f _) (fun hq => Yl.at (yl_move (cv hq))) <| pg (v := .pointer (some ⟨b3, 2, none⟩)) 78 (c := (!x72) && (decide (x76 = 1))) (says_ift _ _) (fun hq => Yl.at (yl_field0 fld_44_2 rfl)) <|
    pg (v := .int .i64 w_1.X0) 78 (c := (!x72) && (decide (x76 = 1))) (says_ift _ _) (fun hq => at_load one_3 (cv hq) (hS.cell rfl)) <| pg (v := .pointer (some ⟨b3, 4, none⟩)) 78 (c := (!x72) && (decide (x76 = 1))) (says_ift _ _) (fun hq => Yl.at (yl_field0 fld_44_4 rfl)) <| pg (v := .int .i64 w_1.X1) 78 (c := (!x72) && (decide (x76 = 1))) (says_ift _ _) (fun hq => at_load one_3 (cv hq) (hS.cell rfl)) <| pg (v := .bool (decide (w_1.X0 ≠ w_1.X1))) 78 (c := (!x72) && (decide (x76 = 1))) (says_ift _ _) (fun hq => Yl.at (yl_neq (cv hq) (cv hq))) <|
    pg (v := .bool x84) 73 (c := !x72) (says_f _) (fun hq => Yl.at (yand' (cv hq) (fun hc => (cv (and_i hq hc))) rfl hx84)) <| p (yor' rfl rfl (fun hc => (cv (t_not hc))) hx85) <| p (yl_assign rfl) <| x_done <|
    x_cond (t := x85) rfl (fun hc61 => ?_) (fun hc61 => ?_)
   ·replace hF := it_t hc61 hF
    refine x_seq <| x_region <| p (yl_assign rfl) <| x_done <| ?_
    have e_ := sinj hF; subst e_
    exact x_return ⟨_, ⟨_, _, rfl, rfl, rfl⟩, rfl, hS.drop.drop⟩
   ·replace hF := it_bf hc61 hF
    refine x_skip <| x_blk <| x_seq <| x_region <|
     p (yl_assign rfl) <| x_done <| ?_
    have e_ := sinj hF; subst e_
    exact x_return ⟨_, ⟨_, _, rfl, rfl, rfl⟩, rfl, hS.drop.drop⟩
attribute [irreducible] P_rules_checkWire

def P_rules_Check_L7 (l_0 : T_rules_Layout) : (Int × Int) → Option ((Int × Int) ⊕ (Int ⊕ Int)) := fun (q3, q2) =>
 if q2 < (l_0.Wires.length : Int) then
  ck (inb q2 l_0.Wires.length) <|
  lv (gt l_0.Wires q2) fun q4 =>
  bd (P_rules_checkWire l_0 q4) fun q5 =>
  if q5 ≠ 0 then
   some (Sum.inr (Sum.inr q5))
  else
   ar (q4.X1 - q4.X0) fun x75 =>
   ar (x75 + q4.Y1) fun x78 =>
   ar (x78 - q4.Y0) fun x81 =>
   ar (x81 + 1) fun x82 =>
   ar (q3 + x82) fun x83 =>
   ar (q2 + 1) fun x84 =>
   some (Sum.inl (x83, x84))
 else
  some (Sum.inr (Sum.inl q3))
def P_rules_Check_L15 (l_0 : T_rules_Layout) : Int → Option (Int ⊕ (Unit ⊕ Int)) := fun q2 =>
 if q2 < (l_0.Vias.length : Int) then
  ck (inb q2 l_0.Vias.length) <|
  lv (gt l_0.Vias q2) fun q3 =>
  ar (l_0.Nets - 1) fun x96 =>
  bd (P_rules_within q3.Net 0 x96) fun q7 =>
  if (!q7) = true then
   some (Sum.inr (Sum.inr (7 : Int)))
  else
   ar (l_0.Layers - 2) fun x103 =>
   bd (P_rules_within q3.Layer 0 x103) fun q4 =>
   ck ((!(!q4)) = true → I64 (l_0.W - 1)) <|
   lv (l_0.W - 1) fun x111 =>
   bd (gd (!(!q4)) (P_rules_within q3.X 0 x111)) fun q5 =>
   lv ((!q4) || (!q5)) fun x114 =>
   ck ((!x114) = true → I64 (l_0.H - 1)) <|
   lv (l_0.H - 1) fun x120 =>
   bd (gd (!x114) (P_rules_within q3.Y 0 x120)) fun q6 =>
   lv (x114 || (!q6)) fun x123 =>
   if x123 = true then
    some (Sum.inr (Sum.inr (2 : Int)))
   else
    ar (q2 + 1) fun x124 =>
    some (Sum.inl x124)
 else
  some (Sum.inr (Sum.inl ()))
def P_rules_Check_L23 (l_0 : T_rules_Layout) : Int → Option (Int ⊕ (Unit ⊕ Int)) := fun q2 =>
 if q2 < (l_0.Pins.length : Int) then
  ck (inb q2 l_0.Pins.length) <|
  lv (gt l_0.Pins q2) fun q3 =>
  ar (l_0.Nets - 1) fun x136 =>
  bd (P_rules_within q3.Net 0 x136) fun q7 =>
  if (!q7) = true then
   some (Sum.inr (Sum.inr (7 : Int)))
  else
   ar (l_0.W - 1) fun x143 =>
   bd (P_rules_within q3.X 0 x143) fun q4 =>
   ck ((!(!q4)) = true → I64 (l_0.H - 1)) <|
   lv (l_0.H - 1) fun x151 =>
   bd (gd (!(!q4)) (P_rules_within q3.Y 0 x151)) fun q5 =>
   lv ((!q4) || (!q5)) fun x154 =>
   bd (gd (!x154) (P_rules_within q3.Size 0 1000)) fun q6 =>
   lv (x154 || (!q6)) fun x160 =>
   lv (q3.Drive && (decide (0 < q3.Size))) fun x168 =>
   lv (x160 || x168) fun x169 =>
   if x169 = true then
    some (Sum.inr (Sum.inr (2 : Int)))
   else
    ar (q2 + 1) fun x170 =>
    some (Sum.inl x170)
 else
  some (Sum.inr (Sum.inl ()))
def P_rules_Check_L31 (l_0 : T_rules_Layout) : Int → Option (Int ⊕ (Unit ⊕ Int)) := fun q2 =>
 if q2 < (l_0.Walls.length : Int) then
  ck (inb q2 l_0.Walls.length) <|
  lv (gt l_0.Walls q2) fun q3 =>
  ar (l_0.Layers - 1) fun x182 =>
  bd (P_rules_within q3.Layer 0 x182) fun q4 =>
  ck ((!(!q4)) = true → I64 (l_0.W - 1)) <|
  lv (l_0.W - 1) fun x190 =>
  bd (gd (!(!q4)) (P_rules_within q3.X0 0 x190)) fun q5 =>
  lv ((!q4) || (!q5)) fun x193 =>
  ck ((!x193) = true → I64 (l_0.H - 1)) <|
  lv (l_0.H - 1) fun x199 =>
  bd (gd (!x193) (P_rules_within q3.Y0 0 x199)) fun q6 =>
  lv (x193 || (!q6)) fun x202 =>
  ck ((!x202) = true → I64 (l_0.W - 1)) <|
  lv (l_0.W - 1) fun x210 =>
  bd (gd (!x202) (P_rules_within q3.X1 q3.X0 x210)) fun q7 =>
  lv (x202 || (!q7)) fun x213 =>
  ck ((!x213) = true → I64 (l_0.H - 1)) <|
  lv (l_0.H - 1) fun x221 =>
  bd (gd (!x213) (P_rules_within q3.Y1 q3.Y0 x221)) fun q8 =>
  lv (x213 || (!q8)) fun x224 =>
  if x224 = true then
   some (Sum.inr (Sum.inr (2 : Int)))
  else
   ar (q2 + 1) fun x225 =>
   some (Sum.inl x225)
 else
  some (Sum.inr (Sum.inl ()))
def P_rules_Check (l_0 : T_rules_Layout) : Option Int :=
 bd (P_rules_within l_0.W 1 512) fun q3 =>
 bd (gd (!(!q3)) (P_rules_within l_0.H 1 512)) fun q6 =>
 lv ((!q3) || (!q6)) fun x22 =>
 bd (gd (!x22) (P_rules_within l_0.Layers 1 6)) fun q4 =>
 lv (x22 || (!q4)) fun x28 =>
 bd (gd (!x28) (P_rules_within l_0.Nets 0 700)) fun q5 =>
 lv (x28 || (!q5)) fun x34 =>
 if x34 = true then
  some (2 : Int)
 else
  lv ((decide (6000 < (l_0.Wires.length : Int))) || (decide (6000 < (l_0.Vias.length : Int)))) fun x44 =>
  lv (x44 || (decide (4000 < (l_0.Pins.length : Int)))) fun x50 =>
  lv (x50 || (decide (64 < (l_0.Walls.length : Int)))) fun x56 =>
  if x56 = true then
   some (3 : Int)
  else
   bs (
    lp (P_rules_Check_L7 l_0) fuel (0, 0)) (fun y => some y) fun q2 =>
   bs (
    lp (P_rules_Check_L15 l_0) fuel 0) (fun y => some y) fun _ =>
   bs (
    lp (P_rules_Check_L23 l_0) fuel 0) (fun y => some y) fun _ =>
   bs (
    lp (P_rules_Check_L31 l_0) fuel 0) (fun y => some y) fun _ =>
   if 200000 < q2 then
    some (3 : Int)
   else
    some (0 : Int)
theorem c_rules_Check {w0 w : World} {l : List Assn} {ρ : Heap} {q7 : Option Addr} {q12 : Nat} {c_l_0_4 : Nat} {q4 : Option Addr} {q13 : Nat} {c_l_0_5 : Nat} {q5 : Option Addr} {q14 : Nat} {c_l_0_6 : Nat} {q6 : Option Addr} {q15 : Nat} {c_l_0_7 : Nat} {l_0 : T_rules_Layout} {r : Int} (hF : P_rules_Check l_0 = some r) (q0n : RdS R_rules_Wire ρ q7 q12 c_l_0_4 l_0.Wires) (q0o : RdS R_rules_Via ρ q4 q13 c_l_0_5 l_0.Vias) (q0p : RdS R_rules_Pin ρ q5 q14 c_l_0_6 l_0.Pins) (q0q : RdS R_floor_Wall ρ q6 q15 c_l_0_7 l_0.Walls) (hS : St w0 w (ro ρ :: l)) :
  Calls Try.prog 44 #[.agg #[.int .i64 l_0.W, .int .i64 l_0.H, .int .i64 l_0.Layers, .int .i64 l_0.Nets, .slice q7 q12 c_l_0_4, .slice q4 q13 c_l_0_5, .slice q5 q14 c_l_0_6, .slice q6 q15 c_l_0_7]] w fun e w' => e = .returned (.int .i64 r) ∧ St w0 w' (ro ρ :: l) := by
 have e_ := q0n.n; subst e_
 have e_ := q0o.n; subst e_
 have e_ := q0p.n; subst e_
 have e_ := q0q.n; subst e_
 refine enterC Try.func44 rfl 228 rfl (by simp) ?_
 refine x_seq <| x_region <| ?_
 refine o_box (cs := [.int .i64 l_0.W, .int .i64 l_0.H, .int .i64 l_0.Layers, .int .i64 l_0.Nets, .slice q7 l_0.Wires.length c_l_0_4, .slice q4 l_0.Vias.length c_l_0_5, .slice q5 l_0.Pins.length c_l_0_6, .slice q6 l_0.Walls.length c_l_0_7]) rfl rfl hS (fun b1 w' hS => ?_)
 replace hF := bd_s hF; obtain ⟨q1b, q2u, hF⟩ := hF
 refine p (yl_assign rfl) <| x_done <| x_seq <| x_seq <|
  x_region <| p (yl_field0 fld_31_0 rfl) <| pa (at_load one_3 rfl (hS.cell rfl)) <| ?_
 have hcall := c_rules_within q2u  (hS.pull 1)
 refine o_cc call_61 (args3 rfl rfl rfl) ((Calls.mono hcall (fun e w'' h => And.intro h.1 (h.2.pull 1)))) ?_
 rintro e w' ⟨rfl, hS⟩
 refine ⟨_, rfl, ?_⟩
 replace hF := bd_s hF; obtain ⟨q2d, q2v, hF⟩ := hF
 refine p (yl_not rfl) <| p (yl_move rfl) <| pg (v := .pointer (some ⟨b1, 1, none⟩)) 17 (c := !(!q1b)) (says_f _) (fun hq => Yl.at (yl_field0 fld_31_1 rfl)) <| pg (v := .int .i64 l_0.H) 17 (c := !(!q1b)) (says_f _) (fun hq => at_load one_3 (cv hq) (hS.cell rfl)) <|
  pccg (v := .bool q2d) 17 (c := !(!q1b)) (says_f _) call_61 (fun hq => (args3 (cv hq) rfl rfl)) hS (fun hq => by
   have hcall := c_rules_within (gd_t q2v hq)  (hS.pull 1)
   exact (Calls.mono hcall (fun e w'' h => And.intro h.1 (h.2.pull 1)))) (fun w' hS => ?_)
 replace hF := lv_s hF; obtain ⟨x22, hx22, hF⟩ := hF
 replace hF := bd_s hF; obtain ⟨q1t, q2e, hF⟩ := hF
 refine pg (v := .bool (!q2d)) 17 (c := !(!q1b)) (says_f _) (fun hq => Yl.at (yl_not (cv hq))) <| p (yor' rfl rfl (fun hc => (cv (t_not hc))) hx22) <| p (yl_move rfl) <| pg (v := .pointer (some ⟨b1, 2, none⟩)) 23 (c := !x22) (says_f _) (fun hq => Yl.at (yl_field0 fld_31_2 rfl)) <|
  pg (v := .int .i64 l_0.Layers) 23 (c := !x22) (says_f _) (fun hq => at_load one_3 (cv hq) (hS.cell rfl)) <|
  pccg (v := .bool q1t) 23 (c := !x22) (says_f _) call_61 (fun hq => (args3 (cv hq) rfl rfl)) hS (fun hq => by
   have hcall := c_rules_within (gd_t q2e hq)  (hS.pull 1)
   exact (Calls.mono hcall (fun e w'' h => And.intro h.1 (h.2.pull 1)))) (fun w' hS => ?_)
 replace hF := lv_s hF; obtain ⟨x28, hx28, hF⟩ := hF
 replace hF := bd_s hF; obtain ⟨q1u, q2f, hF⟩ := hF
 refine pg (v := .bool (!q1t)) 23 (c := !x22) (says_f _) (fun hq => Yl.at (yl_not (cv hq))) <| p (yor' rfl rfl (fun hc => (cv (t_not hc))) hx28) <| p (yl_move rfl) <| pg (v := .pointer (some ⟨b1, 3, none⟩)) 29 (c := !x28) (says_f _) (fun hq => Yl.at (yl_field0 fld_31_3 rfl)) <|
  pg (v := .int .i64 l_0.Nets) 29 (c := !x28) (says_f _) (fun hq => at_load one_3 (cv hq) (hS.cell rfl)) <|
  pccg (v := .bool q1u) 29 (c := !x28) (says_f _) call_61 (fun hq => (args3 (cv hq) rfl rfl)) hS (fun hq => by
   have hcall := c_rules_within (gd_t q2f hq)  (hS.pull 1)
   exact (Calls.mono hcall (fun e w'' h => And.intro h.1 (h.2.pull 1)))) (fun w' hS => ?_)
 replace hF := lv_s hF; obtain ⟨x34, hx34, hF⟩ := hF
 refine pg (v := .bool (!q1u)) 29 (c := !x28) (says_f _) (fun hq => Yl.at (yl_not (cv hq))) <| p (yor' rfl rfl (fun hc => (cv (t_not hc))) hx34) <| x_done <|
  x_cond (t := x34) rfl (fun hc34 => ?_) (fun hc34 => ?_)
 ·replace hF := it_t hc34 hF
  refine x_seq <| x_region <| p (yl_assign rfl) <| x_done <| ?_
  have e_ := sinj hF; subst e_
  exact x_return ⟨_, ⟨_, _, rfl, rfl, rfl⟩, rfl, hS.drop⟩
 ·replace hF := it_bf hc34 hF
  replace hF := lv_s hF; obtain ⟨x44, hx44, hF⟩ := hF
  replace hF := lv_s hF; obtain ⟨x50, hx50, hF⟩ := hF
  replace hF := lv_s hF; obtain ⟨x56, hx56, hF⟩ := hF
  refine x_skip <| x_seq <| x_seq <| x_region <|
   p (yl_field0 fld_31_4 rfl) <| pa (at_load one_26 rfl (hS.cell rfl)) <| p (yl_len_slice usl_26 rfl) <| p (yl_gtr rfl rfl) <|
   p (yl_move rfl) <| pg (v := .pointer (some ⟨b1, 5, none⟩)) 39 (c := !(decide (6000 < (l_0.Wires.length : Int)))) (says_f _) (fun hq => Yl.at (yl_field0 fld_31_5 rfl)) <| pg (v := .slice q4 l_0.Vias.length c_l_0_5) 39 (c := !(decide (6000 < (l_0.Wires.length : Int)))) (says_f _) (fun hq => at_load one_27 (cv hq) (hS.cell rfl)) <| pg (v := .int .i64 (l_0.Vias.length : Int)) 39 (c := !(decide (6000 < (l_0.Wires.length : Int)))) (says_f _) (fun hq => Yl.at (yl_len_slice usl_27 (cv hq))) <|
   pg (v := .bool (decide (6000 < (l_0.Vias.length : Int)))) 39 (c := !(decide (6000 < (l_0.Wires.length : Int)))) (says_f _) (fun hq => Yl.at (yl_gtr (cv hq) rfl)) <| p (yor' rfl rfl (fun hc => (cv (t_not hc))) hx44) <| p (yl_move rfl) <| pg (v := .pointer (some ⟨b1, 6, none⟩)) 45 (c := !x44) (says_f _) (fun hq => Yl.at (yl_field0 fld_31_6 rfl)) <|
   pg (v := .slice q5 l_0.Pins.length c_l_0_6) 45 (c := !x44) (says_f _) (fun hq => at_load one_28 (cv hq) (hS.cell rfl)) <| pg (v := .int .i64 (l_0.Pins.length : Int)) 45 (c := !x44) (says_f _) (fun hq => Yl.at (yl_len_slice usl_28 (cv hq))) <| pg (v := .bool (decide (4000 < (l_0.Pins.length : Int)))) 45 (c := !x44) (says_f _) (fun hq => Yl.at (yl_gtr (cv hq) rfl)) <| p (yor' rfl rfl (fun hc => (cv (t_not hc))) hx50) <|
   p (yl_move rfl) <| pg (v := .pointer (some ⟨b1, 7, none⟩)) 51 (c := !x50) (says_f _) (fun hq => Yl.at (yl_field0 fld_31_7 rfl)) <| pg (v := .slice q6 l_0.Walls.length c_l_0_7) 51 (c := !x50) (says_f _) (fun hq => at_load one_29 (cv hq) (hS.cell rfl)) <| pg (v := .int .i64 (l_0.Walls.length : Int)) 51 (c := !x50) (says_f _) (fun hq => Yl.at (yl_len_slice usl_29 (cv hq))) <|
   pg (v := .bool (decide (64 < (l_0.Walls.length : Int)))) 51 (c := !x50) (says_f _) (fun hq => Yl.at (yl_gtr (cv hq) rfl)) <| p (yor' rfl rfl (fun hc => (cv (t_not hc))) hx56) <| x_done <|
   x_cond (t := x56) rfl (fun hc56 => ?_) (fun hc56 => ?_)
  ·replace hF := it_t hc56 hF
   refine x_seq <| x_region <| p (yl_assign rfl) <| x_done <| ?_
   have e_ := sinj hF; subst e_
   exact x_return ⟨_, ⟨_, _, rfl, rfl, rfl⟩, rfl, hS.drop⟩
  ·replace hF := it_bf hc56 hF
   refine x_skip <| x_seq <| x_region <| p (yl_assign rfl) <|
    x_done <| x_seq <| x_seq <| x_region <|
    p (yl_field0 fld_31_4 rfl) <| pa (at_load one_26 rfl (hS.cell rfl)) <| p (yl_len_slice usl_26 rfl) <| p (yl_move rfl) <|
    x_done <| ?_
   replace hF := bs_s hF; obtain ⟨oL7, hLL7, hF⟩ := hF
   refine x_join (fun E w => ∃ (q2 : Int), (Sum.inl q2) = oL7 ∧ E 1 = .pointer (some ⟨b1, 0, none⟩) ∧ E 3 = .int .i64 q2 ∧ St w0 w (cells b1 31 [.int .i64 l_0.W, .int .i64 l_0.H, .int .i64 l_0.Layers, .int .i64 l_0.Nets, .slice q7 l_0.Wires.length c_l_0_4, .slice q4 l_0.Vias.length c_l_0_5, .slice q5 l_0.Pins.length c_l_0_6, .slice q6 l_0.Walls.length c_l_0_7] :: ro ρ :: l)) ?_ ?_
   ·refine x_block ?_
    refine x_loop (fun k_ E w => ∃ (q0a : Int) (q0r : Int), lp (P_rules_Check_L7 l_0) k_ (q0a, q0r) = some oL7 ∧ E 1 = .pointer (some ⟨b1, 0, none⟩) ∧ E 3 = .int .i64 q0a ∧ E 58 = .slice q7 l_0.Wires.length c_l_0_4 ∧ E 59 = .int .i64 (l_0.Wires.length : Int) ∧ E 60 = .int .i64 q0r ∧ St w0 w (cells b1 31 [.int .i64 l_0.W, .int .i64 l_0.H, .int .i64 l_0.Layers, .int .i64 l_0.Nets, .slice q7 l_0.Wires.length c_l_0_4, .slice q4 l_0.Vias.length c_l_0_5, .slice q5 l_0.Pins.length c_l_0_6, .slice q6 l_0.Walls.length c_l_0_7] :: ro ρ :: l)) fuel ⟨0, 0, hLL7, rfl, rfl, rfl, rfl, rfl, ((hS.pull 1).pull 1)⟩ ?_
    rintro kL7 E w ⟨q0a, q0r, hLL7, q0y, q1c, q16, q17, q0t, hS⟩
    replace hLL7 := lp_s hLL7; obtain ⟨kL7, obL7, rfl, hFL7, hLL7⟩ := hLL7
    refine x_seq <| x_region <| p (yl_lss q0t q17) <| x_done <|
     x_seq <|
     x_cond_p (q0r < (l_0.Wires.length : Int)) rfl (fun hc61 => ?_) (fun hc61 => ?_)
    ·replace hFL7 := it_t hc61 hFL7
     replace hFL7 := ck_s hFL7; obtain ⟨q1v, hFL7⟩ := hFL7
     replace hFL7 := lv_s hFL7; obtain ⟨q9, q2w, hFL7⟩ := hFL7
     have q_ := q0n.get q1v; obtain ⟨q35, q1w, q2x⟩ := q_
     rw [← q2w] at q1w
     have e_ := q1w; subst e_
     refine x_skip <| x_seq <| x_block <| x_seq <|
      x_region <| p (yix_f sl_26 q16 q0t q0n q1v) <| pa (v := .agg #[.int .i64 q9.Net, .int .i64 q9.Layer, .int .i64 q9.X0, .int .i64 q9.Y0, .int .i64 q9.X1, .int .i64 q9.Y1]) (at_loadAgg agg_44 rfl rfl (Elt.every q2x (hS.pull 1))) <| ?_
     refine o_alloc zero_44 hS (fun b5 w' hS => ?_)
     refine o_storeAgg (news := [.int .i64 q9.Net, .int .i64 q9.Layer, .int .i64 q9.X0, .int .i64 q9.Y0, .int .i64 q9.X1, .int .i64 q9.Y1]) agg_44 rfl rfl rfl (by simp [over_length]) hS (fun w' hS => ?_)
     replace hFL7 := bd_s hFL7; obtain ⟨q0z, q2y, hFL7⟩ := hFL7
     refine x_done <| x_seq <| x_seq <| x_region <|
      pa (v := .agg #[.int .i64 l_0.W, .int .i64 l_0.H, .int .i64 l_0.Layers, .int .i64 l_0.Nets, .slice q7 l_0.Wires.length c_l_0_4, .slice q4 l_0.Vias.length c_l_0_5, .slice q5 l_0.Pins.length c_l_0_6, .slice q6 l_0.Walls.length c_l_0_7]) (ld_sub agg_31 q0y rfl rfl (hS.pull 1)) <| pa (v := .agg #[.int .i64 q9.Net, .int .i64 q9.Layer, .int .i64 q9.X0, .int .i64 q9.Y0, .int .i64 q9.X1, .int .i64 q9.Y1]) (ld_sub agg_44 rfl rfl rfl hS) <| ?_
     have hcall := c_rules_checkWire q2y q0n q0o q0p q0q (hS.pull 2)
     refine o_cc call_62 (args2 rfl rfl) ((Calls.mono hcall (fun e w'' h => And.intro h.1 ((h.2.pull 2).pull 2)))) ?_
     rintro e w' ⟨rfl, hS⟩
     refine ⟨_, rfl, ?_⟩
     refine p (v := .int .i64 q0z) (yl_assign rfl) <| x_done <| x_seq <| x_region <|
      p (v := .int .i64 q0z) (yl_move rfl) <| p (yl_neq rfl rfl) <| x_done <|
      x_cond_p (q0z ≠ 0) rfl (fun hc68 => ?_) (fun hc68 => ?_)
     ·replace hFL7 := it_t hc68 hFL7
      refine x_seq <| x_region <| p (v := .int .i64 q0z) (yl_move rfl) <| p (v := .int .i64 q0z) (yl_assign rfl) <|
       x_done <| ?_
      have e_ := sinj hFL7; subst e_
      have e_ := (show _ = oL7 from hLL7); subst e_
      have e_ := sinj hF; subst e_
      exact x_return ⟨_, ⟨_, _, rfl, rfl, rfl⟩, rfl, hS.drop.drop⟩
     ·replace hFL7 := it_f hc68 hFL7
      replace hFL7 := ar_s hFL7; obtain ⟨x75, hx75, hFL7⟩ := hFL7
      replace hFL7 := ar_s hFL7; obtain ⟨x78, hx78, hFL7⟩ := hFL7
      replace hFL7 := ar_s hFL7; obtain ⟨x81, hx81, hFL7⟩ := hFL7
      replace hFL7 := ar_s hFL7; obtain ⟨x82, hx82, hFL7⟩ := hFL7
      replace hFL7 := ar_s hFL7; obtain ⟨x83, hx83, hFL7⟩ := hFL7
      replace hFL7 := ar_s hFL7; obtain ⟨x84, hx84, hFL7⟩ := hFL7
      refine x_skip <| x_region <| p (yl_move q1c) <| p (yl_field0 fld_44_4 rfl) <|
       pa (at_load one_3 rfl (hS.cell rfl)) <| p (yl_field0 fld_44_2 rfl) <| pa (at_load one_3 rfl (hS.cell rfl)) <| p (ysub rfl rfl hx75) <|
       p (yl_field0 fld_44_5 rfl) <| pa (at_load one_3 rfl (hS.cell rfl)) <| p (yadd rfl rfl hx78) <| p (yl_field0 fld_44_3 rfl) <|
       pa (at_load one_3 rfl (hS.cell rfl)) <| p (ysub rfl rfl hx81) <| p (yadd rfl rfl hx82) <| p (yadd rfl rfl hx83) <|
       p (yl_assign rfl) <| x_done <| x_blk <| x_region <|
       p (yadd q0t rfl hx84) <| p (yl_move rfl) <| x_done <| ?_
      have e_ := sinj hFL7; subst e_
      exact x_inv ⟨kL7, Nat.lt_succ_self _, x83, x84, hLL7, q0y, rfl, q16, q17, rfl, ((hS.drop.pull 1).pull 1)⟩
    ·replace hFL7 := it_f hc61 hFL7
     refine x_exitTo _ rfl <| ?_
     have e_ := sinj hFL7; subst e_
     exact x_inv ⟨q0a, hLL7, q0y, q1c, ((hS.pull 1).pull 1)⟩
   rintro E w ⟨q2, rfl, q1x, q2z, hS⟩
   refine x_seq <| x_seq <| x_region <| p (yl_field0 fld_31_5 q1x) <|
    pa (at_load one_27 rfl (hS.cell rfl)) <| p (yl_len_slice usl_27 rfl) <| p (yl_move rfl) <| x_done <| ?_
   replace hF := bs_s hF; obtain ⟨oL15, hLL15, hF⟩ := hF
   refine x_join (fun E w => (Sum.inl (())) = oL15 ∧ E 1 = .pointer (some ⟨b1, 0, none⟩) ∧ E 3 = .int .i64 q2 ∧ St w0 w (cells b1 31 [.int .i64 l_0.W, .int .i64 l_0.H, .int .i64 l_0.Layers, .int .i64 l_0.Nets, .slice q7 l_0.Wires.length c_l_0_4, .slice q4 l_0.Vias.length c_l_0_5, .slice q5 l_0.Pins.length c_l_0_6, .slice q6 l_0.Walls.length c_l_0_7] :: ro ρ :: l)) ?_ ?_
   ·refine x_block ?_
    refine x_loop (fun k_ E w => ∃ (q0h : Int), lp (P_rules_Check_L15 l_0) k_ q0h = some oL15 ∧ E 1 = .pointer (some ⟨b1, 0, none⟩) ∧ E 3 = .int .i64 q2 ∧ E 86 = .slice q4 l_0.Vias.length c_l_0_5 ∧ E 87 = .int .i64 (l_0.Vias.length : Int) ∧ E 88 = .int .i64 q0h ∧ St w0 w (cells b1 31 [.int .i64 l_0.W, .int .i64 l_0.H, .int .i64 l_0.Layers, .int .i64 l_0.Nets, .slice q7 l_0.Wires.length c_l_0_4, .slice q4 l_0.Vias.length c_l_0_5, .slice q5 l_0.Pins.length c_l_0_6, .slice q6 l_0.Walls.length c_l_0_7] :: ro ρ :: l)) fuel ⟨0, hLL15, q1x, q2z, rfl, rfl, rfl, ((hS.pull 1).pull 1)⟩ ?_
    rintro kL15 E w ⟨q0h, hLL15, q0c, q18, q10, q11, q0s, hS⟩
    replace hLL15 := lp_s hLL15; obtain ⟨kL15, obL15, rfl, hFL15, hLL15⟩ := hLL15
    refine x_seq <| x_region <| p (yl_lss q0s q11) <| x_done <|
     x_seq <|
     x_cond_p (q0h < (l_0.Vias.length : Int)) rfl (fun hc89 => ?_) (fun hc89 => ?_)
    ·replace hFL15 := it_t hc89 hFL15
     replace hFL15 := ck_s hFL15; obtain ⟨q1d, hFL15⟩ := hFL15
     replace hFL15 := lv_s hFL15; obtain ⟨q0b, q2g, hFL15⟩ := hFL15
     have q_ := q0o.get q1d; obtain ⟨q32, q1e, q2h⟩ := q_
     rw [← q2g] at q1e
     have e_ := q1e; subst e_
     refine x_skip <| x_seq <| x_block <| x_seq <|
      x_region <| p (yix_f sl_27 q10 q0s q0o q1d) <| pa (v := .agg #[.int .i64 q0b.Net, .int .i64 q0b.Layer, .int .i64 q0b.X, .int .i64 q0b.Y]) (at_loadAgg agg_47 rfl rfl (Elt.every q2h (hS.pull 1))) <| ?_
     refine o_alloc zero_47 hS (fun b8 w' hS => ?_)
     refine o_storeAgg (news := [.int .i64 q0b.Net, .int .i64 q0b.Layer, .int .i64 q0b.X, .int .i64 q0b.Y]) agg_47 rfl rfl rfl (by simp [over_length]) hS (fun w' hS => ?_)
     replace hFL15 := ar_s hFL15; obtain ⟨x96, hx96, hFL15⟩ := hFL15
     replace hFL15 := bd_s hFL15; obtain ⟨q30, q2i, hFL15⟩ := hFL15
     refine x_done <| x_seq <| x_seq <| x_region <|
      p (yl_field0 fld_47_0 rfl) <| pa (at_load one_3 rfl (hS.cell rfl)) <| p (yl_field0 fld_31_3 q0c) <| pa (at_load one_3 rfl ((hS.pull 1).cell rfl)) <|
      p (ysub rfl rfl hx96) <| ?_
     have hcall := c_rules_within q2i  (hS.pull 2)
     refine o_cc call_61 (args3 rfl rfl rfl) ((Calls.mono hcall (fun e w'' h => And.intro h.1 ((h.2.pull 2).pull 2)))) ?_
     rintro e w' ⟨rfl, hS⟩
     refine ⟨_, rfl, ?_⟩
     refine p (yl_not rfl) <| x_done <|
      x_cond (t := !q30) rfl (fun hc98 => ?_) (fun hc98 => ?_)
     ·replace hFL15 := it_t hc98 hFL15
      refine x_seq <| x_region <| p (yl_assign rfl) <| x_done <| ?_
      have e_ := sinj hFL15; subst e_
      have e_ := (show _ = oL15 from hLL15); subst e_
      have e_ := sinj hF; subst e_
      exact x_return ⟨_, ⟨_, _, rfl, rfl, rfl⟩, rfl, hS.drop.drop⟩
     ·replace hFL15 := it_bf hc98 hFL15
      replace hFL15 := ar_s hFL15; obtain ⟨x103, hx103, hFL15⟩ := hFL15
      replace hFL15 := bd_s hFL15; obtain ⟨q0i, q2j, hFL15⟩ := hFL15
      refine x_skip <| x_seq <| x_region <| p (yl_field0 fld_47_1 rfl) <|
       pa (at_load one_3 rfl (hS.cell rfl)) <| p (yl_field0 fld_31_2 q0c) <| pa (at_load one_3 rfl ((hS.pull 1).cell rfl)) <| p (ysub rfl rfl hx103) <| ?_
      have hcall := c_rules_within q2j  (hS.pull 2)
      refine o_cc call_61 (args3 rfl rfl rfl) ((Calls.mono hcall (fun e w'' h => And.intro h.1 ((h.2.pull 2).pull 2)))) ?_
      rintro e w' ⟨rfl, hS⟩
      refine ⟨_, rfl, ?_⟩
      replace hFL15 := ck_s hFL15; obtain ⟨q1y, hFL15⟩ := hFL15
      replace hFL15 := lv_s hFL15; obtain ⟨x111, hx111, hFL15⟩ := hFL15
      replace hFL15 := bd_s hFL15; obtain ⟨q1f, q1z, hFL15⟩ := hFL15
      refine p (yl_not rfl) <| p (yl_move rfl) <| pg (v := .pointer (some ⟨b8, 2, none⟩)) 106 (c := !(!q0i)) (says_f _) (fun hq => Yl.at (yl_field0 fld_47_2 rfl)) <| pg (v := .int .i64 q0b.X) 106 (c := !(!q0i)) (says_f _) (fun hq => at_load one_3 (cv hq) (hS.cell rfl)) <|
       pg (v := .pointer (some ⟨b1, 0, none⟩)) 106 (c := !(!q0i)) (says_f _) (fun hq => Yl.at (yl_field0 fld_31_0 q0c)) <| pg (v := .int .i64 l_0.W) 106 (c := !(!q0i)) (says_f _) (fun hq => at_load one_3 (cv hq) ((hS.pull 1).cell rfl)) <| pg (v := .int .i64 x111) 106 (c := !(!q0i)) (says_f _) (fun hq => Yl.at (ysub (cv hq) rfl ⟨hx111, (q1y hq)⟩)) <|
       pccg (v := .bool q1f) 106 (c := !(!q0i)) (says_f _) call_61 (fun hq => (args3 (cv hq) rfl (cv hq))) hS (fun hq => by
        have hcall := c_rules_within (gd_t q1z hq)  (hS.pull 2)
        exact (Calls.mono hcall (fun e w'' h => And.intro h.1 ((h.2.pull 2).pull 2)))) (fun w' hS => ?_)
      replace hFL15 := lv_s hFL15; obtain ⟨x114, hx114, hFL15⟩ := hFL15
      replace hFL15 := ck_s hFL15; obtain ⟨q20, hFL15⟩ := hFL15
      replace hFL15 := lv_s hFL15; obtain ⟨x120, hx120, hFL15⟩ := hFL15
      replace hFL15 := bd_s hFL15; obtain ⟨q1g, q21, hFL15⟩ := hFL15
      refine pg (v := .bool (!q1f)) 106 (c := !(!q0i)) (says_f _) (fun hq => Yl.at (yl_not (cv hq))) <| p (yor' rfl rfl (fun hc => (cv (t_not hc))) hx114) <| p (yl_move rfl) <| pg (v := .pointer (some ⟨b8, 3, none⟩)) 115 (c := !x114) (says_f _) (fun hq => Yl.at (yl_field0 fld_47_3 rfl)) <|
       pg (v := .int .i64 q0b.Y) 115 (c := !x114) (says_f _) (fun hq => at_load one_3 (cv hq) (hS.cell rfl)) <| pg (v := .pointer (some ⟨b1, 1, none⟩)) 115 (c := !x114) (says_f _) (fun hq => Yl.at (yl_field0 fld_31_1 q0c)) <| pg (v := .int .i64 l_0.H) 115 (c := !x114) (says_f _) (fun hq => at_load one_3 (cv hq) ((hS.pull 1).cell rfl)) <| pg (v := .int .i64 x120) 115 (c := !x114) (says_f _) (fun hq => Yl.at (ysub (cv hq) rfl ⟨hx120, (q20 hq)⟩)) <|
       pccg (v := .bool q1g) 115 (c := !x114) (says_f _) call_61 (fun hq => (args3 (cv hq) rfl (cv hq))) hS (fun hq => by
        have hcall := c_rules_within (gd_t q21 hq)  (hS.pull 2)
        exact (Calls.mono hcall (fun e w'' h => And.intro h.1 ((h.2.pull 2).pull 2)))) (fun w' hS => ?_)
      replace hFL15 := lv_s hFL15; obtain ⟨x123, hx123, hFL15⟩ := hFL15
      refine pg (v := .bool (!q1g)) 115 (c := !x114) (says_f _) (fun hq => Yl.at (yl_not (cv hq))) <| p (yor' rfl rfl (fun hc => (cv (t_not hc))) hx123) <| x_done <|
       x_cond (t := x123) rfl (fun hc123 => ?_) (fun hc123 => ?_)
      ·replace hFL15 := it_t hc123 hFL15
       refine x_seq <| x_region <| p (yl_assign rfl) <| x_done <| ?_
       have e_ := sinj hFL15; subst e_
       have e_ := (show _ = oL15 from hLL15); subst e_
       have e_ := sinj hF; subst e_
       exact x_return ⟨_, ⟨_, _, rfl, rfl, rfl⟩, rfl, hS.drop.drop⟩
      ·replace hFL15 := it_bf hc123 hFL15
       replace hFL15 := ar_s hFL15; obtain ⟨x124, hx124, hFL15⟩ := hFL15
       refine x_skip <| x_blk <| x_region <| p (yadd q0s rfl hx124) <|
        p (yl_move rfl) <| x_done <| ?_
       have e_ := sinj hFL15; subst e_
       exact x_inv ⟨kL15, Nat.lt_succ_self _, x124, hLL15, q0c, q18, q10, q11, rfl, ((hS.drop.pull 1).pull 1)⟩
    ·replace hFL15 := it_f hc89 hFL15
     refine x_exitTo _ rfl <| ?_
     have e_ := sinj hFL15; subst e_
     exact x_inv ⟨hLL15, q0c, q18, ((hS.pull 1).pull 1)⟩
   rintro E w ⟨rfl, q1h, q2k, hS⟩
   refine x_seq <| x_seq <| x_region <| p (yl_field0 fld_31_6 q1h) <|
    pa (at_load one_28 rfl (hS.cell rfl)) <| p (yl_len_slice usl_28 rfl) <| p (yl_move rfl) <| x_done <| ?_
   replace hF := bs_s hF; obtain ⟨oL23, hLL23, hF⟩ := hF
   refine x_join (fun E w => (Sum.inl (())) = oL23 ∧ E 1 = .pointer (some ⟨b1, 0, none⟩) ∧ E 3 = .int .i64 q2 ∧ St w0 w (cells b1 31 [.int .i64 l_0.W, .int .i64 l_0.H, .int .i64 l_0.Layers, .int .i64 l_0.Nets, .slice q7 l_0.Wires.length c_l_0_4, .slice q4 l_0.Vias.length c_l_0_5, .slice q5 l_0.Pins.length c_l_0_6, .slice q6 l_0.Walls.length c_l_0_7] :: ro ρ :: l)) ?_ ?_
   ·refine x_block ?_
    refine x_loop (fun k_ E w => ∃ (q0e : Int), lp (P_rules_Check_L23 l_0) k_ q0e = some oL23 ∧ E 1 = .pointer (some ⟨b1, 0, none⟩) ∧ E 3 = .int .i64 q2 ∧ E 126 = .slice q5 l_0.Pins.length c_l_0_6 ∧ E 127 = .int .i64 (l_0.Pins.length : Int) ∧ E 128 = .int .i64 q0e ∧ St w0 w (cells b1 31 [.int .i64 l_0.W, .int .i64 l_0.H, .int .i64 l_0.Layers, .int .i64 l_0.Nets, .slice q7 l_0.Wires.length c_l_0_4, .slice q4 l_0.Vias.length c_l_0_5, .slice q5 l_0.Pins.length c_l_0_6, .slice q6 l_0.Walls.length c_l_0_7] :: ro ρ :: l)) fuel ⟨0, hLL23, q1h, q2k, rfl, rfl, rfl, ((hS.pull 1).pull 1)⟩ ?_
    rintro kL23 E w ⟨q0e, hLL23, q0g, q19, q0u, q0v, q0l, hS⟩
    replace hLL23 := lp_s hLL23; obtain ⟨kL23, obL23, rfl, hFL23, hLL23⟩ := hLL23
    refine x_seq <| x_region <| p (yl_lss q0l q0v) <| x_done <|
     x_seq <|
     x_cond_p (q0e < (l_0.Pins.length : Int)) rfl (fun hc129 => ?_) (fun hc129 => ?_)
    ·replace hFL23 := it_t hc129 hFL23
     replace hFL23 := ck_s hFL23; obtain ⟨q1i, hFL23⟩ := hFL23
     replace hFL23 := lv_s hFL23; obtain ⟨q3, q2l, hFL23⟩ := hFL23
     have q_ := q0p.get q1i; obtain ⟨q33, q1j, q2m⟩ := q_
     rw [← q2l] at q1j
     have e_ := q1j; subst e_
     refine x_skip <| x_seq <| x_block <| x_seq <|
      x_region <| p (yix_f sl_28 q0u q0l q0p q1i) <| pa (v := .agg #[.int .i64 q3.Net, .int .i64 q3.X, .int .i64 q3.Y, .bool q3.Drive, .int .i64 q3.Size]) (at_loadAgg agg_39 rfl rfl (Elt.every q2m (hS.pull 1))) <| ?_
     refine o_alloc zero_39 hS (fun b10 w' hS => ?_)
     refine o_storeAgg (news := [.int .i64 q3.Net, .int .i64 q3.X, .int .i64 q3.Y, .bool q3.Drive, .int .i64 q3.Size]) agg_39 rfl rfl rfl (by simp [over_length]) hS (fun w' hS => ?_)
     replace hFL23 := ar_s hFL23; obtain ⟨x136, hx136, hFL23⟩ := hFL23
     replace hFL23 := bd_s hFL23; obtain ⟨q31, q2n, hFL23⟩ := hFL23
     refine x_done <| x_seq <| x_seq <| x_region <|
      p (yl_field0 fld_39_0 rfl) <| pa (at_load one_3 rfl (hS.cell rfl)) <| p (yl_field0 fld_31_3 q0g) <| pa (at_load one_3 rfl ((hS.pull 1).cell rfl)) <|
      p (ysub rfl rfl hx136) <| ?_
     have hcall := c_rules_within q2n  (hS.pull 2)
     refine o_cc call_61 (args3 rfl rfl rfl) ((Calls.mono hcall (fun e w'' h => And.intro h.1 ((h.2.pull 2).pull 2)))) ?_
     rintro e w' ⟨rfl, hS⟩
     refine ⟨_, rfl, ?_⟩
     refine p (yl_not rfl) <| x_done <|
      x_cond (t := !q31) rfl (fun hc138 => ?_) (fun hc138 => ?_)
     ·replace hFL23 := it_t hc138 hFL23
      refine x_seq <| x_region <| p (yl_assign rfl) <| x_done <| ?_
      have e_ := sinj hFL23; subst e_
      have e_ := (show _ = oL23 from hLL23); subst e_
      have e_ := sinj hF; subst e_
      exact x_return ⟨_, ⟨_, _, rfl, rfl, rfl⟩, rfl, hS.drop.drop⟩
     ·replace hFL23 := it_bf hc138 hFL23
      replace hFL23 := ar_s hFL23; obtain ⟨x143, hx143, hFL23⟩ := hFL23
      replace hFL23 := bd_s hFL23; obtain ⟨q0j, q2o, hFL23⟩ := hFL23
      refine x_skip <| x_seq <| x_region <| p (yl_field0 fld_39_1 rfl) <|
       pa (at_load one_3 rfl (hS.cell rfl)) <| p (yl_field0 fld_31_0 q0g) <| pa (at_load one_3 rfl ((hS.pull 1).cell rfl)) <| p (ysub rfl rfl hx143) <| ?_
      have hcall := c_rules_within q2o  (hS.pull 2)
      refine o_cc call_61 (args3 rfl rfl rfl) ((Calls.mono hcall (fun e w'' h => And.intro h.1 ((h.2.pull 2).pull 2)))) ?_
      rintro e w' ⟨rfl, hS⟩
      refine ⟨_, rfl, ?_⟩
      replace hFL23 := ck_s hFL23; obtain ⟨q22, hFL23⟩ := hFL23
      replace hFL23 := lv_s hFL23; obtain ⟨x151, hx151, hFL23⟩ := hFL23
      replace hFL23 := bd_s hFL23; obtain ⟨q1k, q23, hFL23⟩ := hFL23
      refine p (yl_not rfl) <| p (yl_move rfl) <| pg (v := .pointer (some ⟨b10, 2, none⟩)) 146 (c := !(!q0j)) (says_f _) (fun hq => Yl.at (yl_field0 fld_39_2 rfl)) <| pg (v := .int .i64 q3.Y) 146 (c := !(!q0j)) (says_f _) (fun hq => at_load one_3 (cv hq) (hS.cell rfl)) <|
       pg (v := .pointer (some ⟨b1, 1, none⟩)) 146 (c := !(!q0j)) (says_f _) (fun hq => Yl.at (yl_field0 fld_31_1 q0g)) <| pg (v := .int .i64 l_0.H) 146 (c := !(!q0j)) (says_f _) (fun hq => at_load one_3 (cv hq) ((hS.pull 1).cell rfl)) <| pg (v := .int .i64 x151) 146 (c := !(!q0j)) (says_f _) (fun hq => Yl.at (ysub (cv hq) rfl ⟨hx151, (q22 hq)⟩)) <|
       pccg (v := .bool q1k) 146 (c := !(!q0j)) (says_f _) call_61 (fun hq => (args3 (cv hq) rfl (cv hq))) hS (fun hq => by
        have hcall := c_rules_within (gd_t q23 hq)  (hS.pull 2)
        exact (Calls.mono hcall (fun e w'' h => And.intro h.1 ((h.2.pull 2).pull 2)))) (fun w' hS => ?_)
      replace hFL23 := lv_s hFL23; obtain ⟨x154, hx154, hFL23⟩ := hFL23
      replace hFL23 := bd_s hFL23; obtain ⟨q1l, q24, hFL23⟩ := hFL23
      refine pg (v := .bool (!q1k)) 146 (c := !(!q0j)) (says_f _) (fun hq => Yl.at (yl_not (cv hq))) <| p (yor' rfl rfl (fun hc => (cv (t_not hc))) hx154) <| p (yl_move rfl) <| pg (v := .pointer (some ⟨b10, 4, none⟩)) 155 (c := !x154) (says_f _) (fun hq => Yl.at (yl_field0 fld_39_4 rfl)) <|
       pg (v := .int .i64 q3.Size) 155 (c := !x154) (says_f _) (fun hq => at_load one_3 (cv hq) (hS.cell rfl)) <|
       pccg (v := .bool q1l) 155 (c := !x154) (says_f _) call_61 (fun hq => (args3 (cv hq) rfl rfl)) hS (fun hq => by
        have hcall := c_rules_within (gd_t q24 hq)  (hS.pull 2)
        exact (Calls.mono hcall (fun e w'' h => And.intro h.1 ((h.2.pull 2).pull 2)))) (fun w' hS => ?_)
      replace hFL23 := lv_s hFL23; obtain ⟨x160, hx160, hFL23⟩ := hFL23
      replace hFL23 := lv_s hFL23; obtain ⟨x168, hx168, hFL23⟩ := hFL23
      replace hFL23 := lv_s hFL23; obtain ⟨x169, hx169, hFL23⟩ := hFL23
      refine pg (v := .bool (!q1l)) 155 (c := !x154) (says_f _) (fun hq => Yl.at (yl_not (cv hq))) <| p (yor' rfl rfl (fun hc => (cv (t_not hc))) hx160) <| p (yl_move rfl) <| pg (v := .pointer (some ⟨b10, 3, none⟩)) 161 (c := !x160) (says_f _) (fun hq => Yl.at (yl_field0 fld_39_3 rfl)) <|
       pg (v := .bool q3.Drive) 161 (c := !x160) (says_f _) (fun hq => at_load one_4 (cv hq) (hS.cell rfl)) <| pg (v := .bool q3.Drive) 161 (c := !x160) (says_f _) (fun hq => Yl.at (yl_move (cv hq))) <| pg (v := .pointer (some ⟨b10, 4, none⟩)) 164 (c := (!x160) && q3.Drive) (says_ift _ _) (fun hq => Yl.at (yl_field0 fld_39_4 rfl)) <| pg (v := .int .i64 q3.Size) 164 (c := (!x160) && q3.Drive) (says_ift _ _) (fun hq => at_load one_3 (cv hq) (hS.cell rfl)) <|
       pg (v := .bool (decide (0 < q3.Size))) 164 (c := (!x160) && q3.Drive) (says_ift _ _) (fun hq => Yl.at (yl_gtr (cv hq) rfl)) <| pg (v := .bool x168) 161 (c := !x160) (says_f _) (fun hq => Yl.at (yand' (cv hq) (fun hc => (cv (and_i hq hc))) rfl hx168)) <| p (yor' rfl rfl (fun hc => (cv (t_not hc))) hx169) <| x_done <|
       x_cond (t := x169) rfl (fun hc169 => ?_) (fun hc169 => ?_)
      ·replace hFL23 := it_t hc169 hFL23
       refine x_seq <| x_region <| p (yl_assign rfl) <| x_done <| ?_
       have e_ := sinj hFL23; subst e_
       have e_ := (show _ = oL23 from hLL23); subst e_
       have e_ := sinj hF; subst e_
       exact x_return ⟨_, ⟨_, _, rfl, rfl, rfl⟩, rfl, hS.drop.drop⟩
      ·replace hFL23 := it_bf hc169 hFL23
       replace hFL23 := ar_s hFL23; obtain ⟨x170, hx170, hFL23⟩ := hFL23
       refine x_skip <| x_blk <| x_region <| p (yadd q0l rfl hx170) <|
        p (yl_move rfl) <| x_done <| ?_
       have e_ := sinj hFL23; subst e_
       exact x_inv ⟨kL23, Nat.lt_succ_self _, x170, hLL23, q0g, q19, q0u, q0v, rfl, ((hS.drop.pull 1).pull 1)⟩
    ·replace hFL23 := it_f hc129 hFL23
     refine x_exitTo _ rfl <| ?_
     have e_ := sinj hFL23; subst e_
     exact x_inv ⟨hLL23, q0g, q19, ((hS.pull 1).pull 1)⟩
   rintro E w ⟨rfl, q1m, q2p, hS⟩
   refine x_seq <| x_seq <| x_region <| p (yl_field0 fld_31_7 q1m) <|
    pa (at_load one_29 rfl (hS.cell rfl)) <| p (yl_len_slice usl_29 rfl) <| p (yl_move rfl) <| x_done <| ?_
   replace hF := bs_s hF; obtain ⟨oL31, hLL31, hF⟩ := hF
   refine x_join (fun E w => (Sum.inl (())) = oL31 ∧ E 3 = .int .i64 q2 ∧ St w0 w (ro ρ :: l)) ?_ ?_
   ·refine x_block ?_
    refine x_loop (fun k_ E w => ∃ (q0f : Int), lp (P_rules_Check_L31 l_0) k_ q0f = some oL31 ∧ E 1 = .pointer (some ⟨b1, 0, none⟩) ∧ E 3 = .int .i64 q2 ∧ E 172 = .slice q6 l_0.Walls.length c_l_0_7 ∧ E 173 = .int .i64 (l_0.Walls.length : Int) ∧ E 174 = .int .i64 q0f ∧ St w0 w (cells b1 31 [.int .i64 l_0.W, .int .i64 l_0.H, .int .i64 l_0.Layers, .int .i64 l_0.Nets, .slice q7 l_0.Wires.length c_l_0_4, .slice q4 l_0.Vias.length c_l_0_5, .slice q5 l_0.Pins.length c_l_0_6, .slice q6 l_0.Walls.length c_l_0_7] :: ro ρ :: l)) fuel ⟨0, hLL31, q1m, q2p, rfl, rfl, rfl, ((hS.pull 1).pull 1)⟩ ?_
    rintro kL31 E w ⟨q0f, hLL31, q0d, q1a, q0w, q0x, q0m, hS⟩
    replace hLL31 := lp_s hLL31; obtain ⟨kL31, obL31, rfl, hFL31, hLL31⟩ := hLL31
    refine x_seq <| x_region <| p (yl_lss q0m q0x) <| x_done <|
     x_seq <|
     x_cond_p (q0f < (l_0.Walls.length : Int)) rfl (fun hc175 => ?_) (fun hc175 => ?_)
    ·replace hFL31 := it_t hc175 hFL31
     replace hFL31 := ck_s hFL31; obtain ⟨q1n, hFL31⟩ := hFL31
     replace hFL31 := lv_s hFL31; obtain ⟨q8, q2q, hFL31⟩ := hFL31
     have q_ := q0q.get q1n; obtain ⟨q34, q1o, q2r⟩ := q_
     rw [← q2q] at q1o
     have e_ := q1o; subst e_
     refine x_skip <| x_seq <| x_block <| x_seq <|
      x_region <| p (yix_f sl_29 q0w q0m q0q q1n) <| pa (v := .agg #[.int .i64 q8.Layer, .int .i64 q8.X0, .int .i64 q8.Y0, .int .i64 q8.X1, .int .i64 q8.Y1]) (at_loadAgg agg_66 rfl rfl (Elt.every q2r (hS.pull 1))) <| ?_
     refine o_alloc zero_66 hS (fun b12 w' hS => ?_)
     refine o_storeAgg (news := [.int .i64 q8.Layer, .int .i64 q8.X0, .int .i64 q8.Y0, .int .i64 q8.X1, .int .i64 q8.Y1]) agg_66 rfl rfl rfl (by simp [over_length]) hS (fun w' hS => ?_)
     replace hFL31 := ar_s hFL31; obtain ⟨x182, hx182, hFL31⟩ := hFL31
     replace hFL31 := bd_s hFL31; obtain ⟨q0k, q2s, hFL31⟩ := hFL31
     refine x_done <| x_seq <| x_region <| p (yl_field0 fld_66_0 rfl) <|
      pa (at_load one_3 rfl (hS.cell rfl)) <| p (yl_field0 fld_31_2 q0d) <| pa (at_load one_3 rfl ((hS.pull 1).cell rfl)) <| p (ysub rfl rfl hx182) <| ?_
     have hcall := c_rules_within q2s  (hS.pull 2)
     refine o_cc call_61 (args3 rfl rfl rfl) ((Calls.mono hcall (fun e w'' h => And.intro h.1 ((h.2.pull 2).pull 2)))) ?_
     rintro e w' ⟨rfl, hS⟩
     refine ⟨_, rfl, ?_⟩
     replace hFL31 := ck_s hFL31; obtain ⟨q25, hFL31⟩ := hFL31
     replace hFL31 := lv_s hFL31; obtain ⟨x190, hx190, hFL31⟩ := hFL31
     replace hFL31 := bd_s hFL31; obtain ⟨q1p, q26, hFL31⟩ := hFL31
     refine p (yl_not rfl) <| p (yl_move rfl) <| pg (v := .pointer (some ⟨b12, 1, none⟩)) 185 (c := !(!q0k)) (says_f _) (fun hq => Yl.at (yl_field0 fld_66_1 rfl)) <| pg (v := .int .i64 q8.X0) 185 (c := !(!q0k)) (says_f _) (fun hq => at_load one_3 (cv hq) (hS.cell rfl)) <|
      pg (v := .pointer (some ⟨b1, 0, none⟩)) 185 (c := !(!q0k)) (says_f _) (fun hq => Yl.at (yl_field0 fld_31_0 q0d)) <| pg (v := .int .i64 l_0.W) 185 (c := !(!q0k)) (says_f _) (fun hq => at_load one_3 (cv hq) ((hS.pull 1).cell rfl)) <| pg (v := .int .i64 x190) 185 (c := !(!q0k)) (says_f _) (fun hq => Yl.at (ysub (cv hq) rfl ⟨hx190, (q25 hq)⟩)) <|
      pccg (v := .bool q1p) 185 (c := !(!q0k)) (says_f _) call_61 (fun hq => (args3 (cv hq) rfl (cv hq))) hS (fun hq => by
       have hcall := c_rules_within (gd_t q26 hq)  (hS.pull 2)
       exact (Calls.mono hcall (fun e w'' h => And.intro h.1 ((h.2.pull 2).pull 2)))) (fun w' hS => ?_)
     replace hFL31 := lv_s hFL31; obtain ⟨x193, hx193, hFL31⟩ := hFL31
     replace hFL31 := ck_s hFL31; obtain ⟨q27, hFL31⟩ := hFL31
     replace hFL31 := lv_s hFL31; obtain ⟨x199, hx199, hFL31⟩ := hFL31
     replace hFL31 := bd_s hFL31; obtain ⟨q1q, q28, hFL31⟩ := hFL31
     refine pg (v := .bool (!q1p)) 185 (c := !(!q0k)) (says_f _) (fun hq => Yl.at (yl_not (cv hq))) <| p (yor' rfl rfl (fun hc => (cv (t_not hc))) hx193) <| p (yl_move rfl) <| pg (v := .pointer (some ⟨b12, 2, none⟩)) 194 (c := !x193) (says_f _) (fun hq => Yl.at (yl_field0 fld_66_2 rfl)) <|
      pg (v := .int .i64 q8.Y0) 194 (c := !x193) (says_f _) (fun hq => at_load one_3 (cv hq) (hS.cell rfl)) <| pg (v := .pointer (some ⟨b1, 1, none⟩)) 194 (c := !x193) (says_f _) (fun hq => Yl.at (yl_field0 fld_31_1 q0d)) <| pg (v := .int .i64 l_0.H) 194 (c := !x193) (says_f _) (fun hq => at_load one_3 (cv hq) ((hS.pull 1).cell rfl)) <| pg (v := .int .i64 x199) 194 (c := !x193) (says_f _) (fun hq => Yl.at (ysub (cv hq) rfl ⟨hx199, (q27 hq)⟩)) <|
      pccg (v := .bool q1q) 194 (c := !x193) (says_f _) call_61 (fun hq => (args3 (cv hq) rfl (cv hq))) hS (fun hq => by
       have hcall := c_rules_within (gd_t q28 hq)  (hS.pull 2)
       exact (Calls.mono hcall (fun e w'' h => And.intro h.1 ((h.2.pull 2).pull 2)))) (fun w' hS => ?_)
     replace hFL31 := lv_s hFL31; obtain ⟨x202, hx202, hFL31⟩ := hFL31
     replace hFL31 := ck_s hFL31; obtain ⟨q29, hFL31⟩ := hFL31
     replace hFL31 := lv_s hFL31; obtain ⟨x210, hx210, hFL31⟩ := hFL31
     replace hFL31 := bd_s hFL31; obtain ⟨q1r, q2a, hFL31⟩ := hFL31
     refine pg (v := .bool (!q1q)) 194 (c := !x193) (says_f _) (fun hq => Yl.at (yl_not (cv hq))) <| p (yor' rfl rfl (fun hc => (cv (t_not hc))) hx202) <| p (yl_move rfl) <| pg (v := .pointer (some ⟨b12, 3, none⟩)) 203 (c := !x202) (says_f _) (fun hq => Yl.at (yl_field0 fld_66_3 rfl)) <|
      pg (v := .int .i64 q8.X1) 203 (c := !x202) (says_f _) (fun hq => at_load one_3 (cv hq) (hS.cell rfl)) <| pg (v := .pointer (some ⟨b12, 1, none⟩)) 203 (c := !x202) (says_f _) (fun hq => Yl.at (yl_field0 fld_66_1 rfl)) <| pg (v := .int .i64 q8.X0) 203 (c := !x202) (says_f _) (fun hq => at_load one_3 (cv hq) (hS.cell rfl)) <| pg (v := .pointer (some ⟨b1, 0, none⟩)) 203 (c := !x202) (says_f _) (fun hq => Yl.at (yl_field0 fld_31_0 q0d)) <|
      pg (v := .int .i64 l_0.W) 203 (c := !x202) (says_f _) (fun hq => at_load one_3 (cv hq) ((hS.pull 1).cell rfl)) <| pg (v := .int .i64 x210) 203 (c := !x202) (says_f _) (fun hq => Yl.at (ysub (cv hq) rfl ⟨hx210, (q29 hq)⟩)) <|
      pccg (v := .bool q1r) 203 (c := !x202) (says_f _) call_61 (fun hq => (args3 (cv hq) (cv hq) (cv hq))) hS (fun hq => by
       have hcall := c_rules_within (gd_t q2a hq)  (hS.pull 2)
       exact (Calls.mono hcall (fun e w'' h => And.intro h.1 ((h.2.pull 2).pull 2)))) (fun w' hS => ?_)
     replace hFL31 := lv_s hFL31; obtain ⟨x213, hx213, hFL31⟩ := hFL31
     replace hFL31 := ck_s hFL31; obtain ⟨q2b, hFL31⟩ := hFL31
     replace hFL31 := lv_s hFL31; obtain ⟨x221, hx221, hFL31⟩ := hFL31
     replace hFL31 := bd_s hFL31; obtain ⟨q1s, q2c, hFL31⟩ := hFL31
     refine pg (v := .bool (!q1r)) 203 (c := !x202) (says_f _) (fun hq => Yl.at (yl_not (cv hq))) <| p (yor' rfl rfl (fun hc => (cv (t_not hc))) hx213) <| p (yl_move rfl) <| pg (v := .pointer (some ⟨b12, 4, none⟩)) 214 (c := !x213) (says_f _) (fun hq => Yl.at (yl_field0 fld_66_4 rfl)) <|
      pg (v := .int .i64 q8.Y1) 214 (c := !x213) (says_f _) (fun hq => at_load one_3 (cv hq) (hS.cell rfl)) <| pg (v := .pointer (some ⟨b12, 2, none⟩)) 214 (c := !x213) (says_f _) (fun hq => Yl.at (yl_field0 fld_66_2 rfl)) <| pg (v := .int .i64 q8.Y0) 214 (c := !x213) (says_f _) (fun hq => at_load one_3 (cv hq) (hS.cell rfl)) <| pg (v := .pointer (some ⟨b1, 1, none⟩)) 214 (c := !x213) (says_f _) (fun hq => Yl.at (yl_field0 fld_31_1 q0d)) <|
      pg (v := .int .i64 l_0.H) 214 (c := !x213) (says_f _) (fun hq => at_load one_3 (cv hq) ((hS.pull 1).cell rfl)) <| pg (v := .int .i64 x221) 214 (c := !x213) (says_f _) (fun hq => Yl.at (ysub (cv hq) rfl ⟨hx221, (q2b hq)⟩)) <|
      pccg (v := .bool q1s) 214 (c := !x213) (says_f _) call_61 (fun hq => (args3 (cv hq) (cv hq) (cv hq))) hS (fun hq => by
       have hcall := c_rules_within (gd_t q2c hq)  (hS.pull 2)
       exact (Calls.mono hcall (fun e w'' h => And.intro h.1 ((h.2.pull 2).pull 2)))) (fun w' hS => ?_)
     replace hFL31 := lv_s hFL31; obtain ⟨x224, hx224, hFL31⟩ := hFL31
     refine pg (v := .bool (!q1s)) 214 (c := !x213) (says_f _) (fun hq => Yl.at (yl_not (cv hq))) <| p (yor' rfl rfl (fun hc => (cv (t_not hc))) hx224) <| x_done <|
      x_cond (t := x224) rfl (fun hc224 => ?_) (fun hc224 => ?_)
     ·replace hFL31 := it_t hc224 hFL31
      refine x_seq <| x_region <| p (yl_assign rfl) <| x_done <| ?_
      have e_ := sinj hFL31; subst e_
      have e_ := (show _ = oL31 from hLL31); subst e_
      have e_ := sinj hF; subst e_
      exact x_return ⟨_, ⟨_, _, rfl, rfl, rfl⟩, rfl, hS.drop.drop⟩
     ·replace hFL31 := it_bf hc224 hFL31
      replace hFL31 := ar_s hFL31; obtain ⟨x225, hx225, hFL31⟩ := hFL31
      refine x_skip <| x_blk <| x_region <| p (yadd q0m rfl hx225) <|
       p (yl_move rfl) <| x_done <| ?_
      have e_ := sinj hFL31; subst e_
      exact x_inv ⟨kL31, Nat.lt_succ_self _, x225, hLL31, q0d, q1a, q0w, q0x, rfl, ((hS.drop.pull 1).pull 1)⟩
    ·replace hFL31 := it_f hc175 hFL31
     refine x_exitTo _ rfl <| ?_
     have e_ := sinj hFL31; subst e_
     exact x_inv ⟨hLL31, q1a, hS.drop⟩
   rintro E w ⟨rfl, q2t, hS⟩
   refine x_seq <| x_seq <| x_region <| p (yl_move q2t) <|
    p (yl_gtr rfl rfl) <| x_done <|
    x_cond_p (200000 < q2) rfl (fun hc227 => ?_) (fun hc227 => ?_)
   ·replace hF := it_t hc227 hF
    refine x_seq <| x_region <| p (yl_assign rfl) <| x_done <| ?_
    have e_ := sinj hF; subst e_
    exact x_return ⟨_, ⟨_, _, rfl, rfl, rfl⟩, rfl, hS⟩
   ·replace hF := it_f hc227 hF
    refine x_skip <| x_seq <| x_region <| p (yl_assign rfl) <|
     x_done <| ?_
    have e_ := sinj hF; subst e_
    exact x_return ⟨_, ⟨_, _, rfl, rfl, rfl⟩, rfl, hS⟩
attribute [irreducible] P_rules_Check

def P_rules_shapes_L10 (q5 : T_rules_Wire) (q6 : Int) : (Int × List T_rules_Spot) → Option ((Int × List T_rules_Spot) ⊕ List T_rules_Spot) := fun (q2, q3) =>
 if q2 ≤ q5.X1 then
  lv (q3 ++ [(T_rules_Spot.mk q5.Layer q2 q6)]) fun q4 =>
  ck (apOk 24 q4.length) <|
  ar (q2 + 1) fun x38 =>
  some (Sum.inl (x38, q4))
 else
  some (Sum.inr q3)
def P_rules_shapes_L7 (q4 : T_rules_Wire) : (Int × List T_rules_Spot) → Option ((Int × List T_rules_Spot) ⊕ List T_rules_Spot) := fun (q2, q3) =>
 if q2 ≤ q4.Y1 then
  bd (
   lp (P_rules_shapes_L10 q4 q2) fuel (q4.X0, q3)) fun q5 =>
  ar (q2 + 1) fun x30 =>
  some (Sum.inl (x30, q5))
 else
  some (Sum.inr q3)
def P_rules_shapes_L3 (l_0 : T_rules_Layout) : (List T_rules_shape × Int) → Option ((List T_rules_shape × Int) ⊕ List T_rules_shape) := fun (q3, q2) =>
 if q2 < (l_0.Wires.length : Int) then
  ck (inb q2 l_0.Wires.length) <|
  lv (gt l_0.Wires q2) fun q4 =>
  bd (
   lp (P_rules_shapes_L7 q4) fuel (q4.Y0, [])) fun q6 =>
  lv (q3 ++ [(T_rules_shape.mk q4.Net q6 true (-1))]) fun q5 =>
  ck (apOk 48 q5.length) <|
  ar (q2 + 1) fun x53 =>
  some (Sum.inl (q5, x53))
 else
  some (Sum.inr q3)
def P_rules_shapes_L16 (l_0 : T_rules_Layout) : (List T_rules_shape × Int) → Option ((List T_rules_shape × Int) ⊕ List T_rules_shape) := fun (q4, q2) =>
 if q2 < (l_0.Vias.length : Int) then
  ck (inb q2 l_0.Vias.length) <|
  lv (gt l_0.Vias q2) fun q3 =>
  ar (q3.Layer + 1) fun x73 =>
  lv (q4 ++ [(T_rules_shape.mk q3.Net ([(T_rules_Spot.mk q3.Layer q3.X q3.Y), (T_rules_Spot.mk x73 q3.X q3.Y)] : List T_rules_Spot) false (-1))]) fun q5 =>
  ck (apOk 48 q5.length) <|
  ar (q2 + 1) fun x83 =>
  some (Sum.inl (q5, x83))
 else
  some (Sum.inr q4)
def P_rules_shapes_L21 (l_0 : T_rules_Layout) : (List T_rules_shape × Int) → Option ((List T_rules_shape × Int) ⊕ List T_rules_shape) := fun (q3, q2) =>
 if q2 < (l_0.Pins.length : Int) then
  ck (inb q2 l_0.Pins.length) <|
  lv (gt l_0.Pins q2) fun q4 =>
  lv (q3 ++ [(T_rules_shape.mk q4.Net ([(T_rules_Spot.mk 0 q4.X q4.Y)] : List T_rules_Spot) false q2)]) fun q5 =>
  ck (apOk 48 q5.length) <|
  ar (q2 + 1) fun x105 =>
  some (Sum.inl (q5, x105))
 else
  some (Sum.inr q3)
def P_rules_shapes (l_0 : T_rules_Layout) : Option (List T_rules_shape) :=
 bd (
  lp (P_rules_shapes_L3 l_0) fuel ([], 0)) fun q4 =>
 bd (
  lp (P_rules_shapes_L16 l_0) fuel (q4, 0)) fun q2 =>
 bd (
  lp (P_rules_shapes_L21 l_0) fuel (q2, 0)) fun q3 =>
 some q3
theorem c_rules_shapes {w0 w : World} {l : List Assn} {ρ : Heap} {q7 : Option Addr} {q2v : Nat} {c_l_0_4 : Nat} {q0a : Option Addr} {q2w : Nat} {c_l_0_5 : Nat} {q0b : Option Addr} {q2x : Nat} {c_l_0_6 : Nat} {q0d : Option Addr} {q2y : Nat} {c_l_0_7 : Nat} {l_0 : T_rules_Layout} {r : List T_rules_shape} (hF : P_rules_shapes l_0 = some r) (q2a : RdS R_rules_Wire ρ q7 q2v c_l_0_4 l_0.Wires) (q2b : RdS R_rules_Via ρ q0a q2w c_l_0_5 l_0.Vias) (q2c : RdS R_rules_Pin ρ q0b q2x c_l_0_6 l_0.Pins) (q3u : RdS R_floor_Wall ρ q0d q2y c_l_0_7 l_0.Walls) (hS : St w0 w (ro ρ :: l)) :
  Calls Try.prog 45 #[.agg #[.int .i64 l_0.W, .int .i64 l_0.H, .int .i64 l_0.Layers, .int .i64 l_0.Nets, .slice q7 q2v c_l_0_4, .slice q0a q2w c_l_0_5, .slice q0b q2x c_l_0_6, .slice q0d q2y c_l_0_7]] w fun e w' => ∃ (ρ' : Heap) (q2j : Option Addr) (q1y : Nat) (c_y0_ret : Nat) (q2g : List Value), e = .returned (.slice q2j q1y c_y0_ret) ∧ Le ρ ρ' ∧ RepL R_rules_shape ρ' r q2g ∧ St w0 w' (vec 122 R_rules_shape.sz (.slice q2j q1y c_y0_ret) q1y q2g :: ro ρ' :: l) := by
 have e_ := q2a.n; subst e_
 have e_ := q2b.n; subst e_
 have e_ := q2c.n; subst e_
 have e_ := q3u.n; subst e_
 refine enterC Try.func45 rfl 107 rfl (by simp) ?_
 refine x_seq <| x_region <| ?_
 refine o_box (cs := [.int .i64 l_0.W, .int .i64 l_0.H, .int .i64 l_0.Layers, .int .i64 l_0.Nets, .slice q7 l_0.Wires.length c_l_0_4, .slice q0a l_0.Vias.length c_l_0_5, .slice q0b l_0.Pins.length c_l_0_6, .slice q0d l_0.Walls.length c_l_0_7]) rfl rfl hS (fun b1 w' hS => ?_)
 refine p (yl_assign rfl) <| x_done <| x_seq <| x_region <|
  p (yl_assign rfl) <| x_done <| x_seq <| x_seq <|
  x_region <| p (yl_field0 fld_31_4 rfl) <| pa (at_load one_26 rfl (hS.cell rfl)) <| p (yl_len_slice usl_26 rfl) <|
  p (yl_move rfl) <| x_done <| ?_
 replace hF := bd_s hF; obtain ⟨oL3, hLL3, hF⟩ := hF
 refine x_join (fun E w => ∃ (q1z : Heap) (q1c : Option Addr) (q1d : Nat) (c_out3_L3 : Nat) (q11 : List Value) (q1k : List T_rules_shape), q1k = oL3 ∧ Le ρ q1z ∧ E 1 = .pointer (some ⟨b1, 0, none⟩) ∧ E 3 = .slice q1c q1d c_out3_L3 ∧ RepL R_rules_shape q1z q1k q11 ∧ St w0 w (cells b1 31 [.int .i64 l_0.W, .int .i64 l_0.H, .int .i64 l_0.Layers, .int .i64 l_0.Nets, .slice q7 l_0.Wires.length c_l_0_4, .slice q0a l_0.Vias.length c_l_0_5, .slice q0b l_0.Pins.length c_l_0_6, .slice q0d l_0.Walls.length c_l_0_7] :: vec 122 R_rules_shape.sz (.slice q1c q1d c_out3_L3) q1d q11 :: ro q1z :: l)) ?_ ?_
 ·refine x_block ?_
  replace hS := St.vec_nil hS 122 R_rules_shape.sz
  have q22 : RepL R_rules_shape ρ [] [] := rfl
  refine x_loop (fun k_ E w => ∃ (q0g : Heap) (q6 : Option Addr) (q12 : Nat) (c_out3_L3h : Nat) (q8 : List Value) (q5 : List T_rules_shape) (q0k : Int), lp (P_rules_shapes_L3 l_0) k_ (q5, q0k) = some oL3 ∧ Le ρ q0g ∧ E 1 = .pointer (some ⟨b1, 0, none⟩) ∧ E 3 = .slice q6 q12 c_out3_L3h ∧ E 14 = .slice q7 l_0.Wires.length c_l_0_4 ∧ E 15 = .int .i64 (l_0.Wires.length : Int) ∧ E 16 = .int .i64 q0k ∧ RepL R_rules_shape q0g q5 q8 ∧ St w0 w (cells b1 31 [.int .i64 l_0.W, .int .i64 l_0.H, .int .i64 l_0.Layers, .int .i64 l_0.Nets, .slice q7 l_0.Wires.length c_l_0_4, .slice q0a l_0.Vias.length c_l_0_5, .slice q0b l_0.Pins.length c_l_0_6, .slice q0d l_0.Walls.length c_l_0_7] :: vec 122 R_rules_shape.sz (.slice q6 q12 c_out3_L3h) q12 q8 :: ro q0g :: l)) fuel ⟨ρ, none, 0, 0, [], [], 0, hLL3, (Le.refl _), rfl, rfl, rfl, rfl, rfl, q22, (((hS.pull 2).pull 1).pull 2)⟩ ?_
  rintro kL3 E w ⟨q0g, q6, q12, c_out3_L3h, q8, q5, q0k, hLL3, q1o, q3a, q3b, q2z, q30, q2d, q1p, hS⟩
  have e_ := St.vec_n (hS.pull 1) q1p; subst e_
  replace hLL3 := lp_s hLL3; obtain ⟨kL3, obL3, rfl, hFL3, hLL3⟩ := hLL3
  refine x_seq <| x_region <| p (yl_lss q2d q30) <| x_done <|
   x_seq <|
   x_cond_p (q0k < (l_0.Wires.length : Int)) rfl (fun hc17 => ?_) (fun hc17 => ?_)
  ·replace hFL3 := it_t hc17 hFL3
   replace hFL3 := ck_s hFL3; obtain ⟨q3q, hFL3⟩ := hFL3
   replace hFL3 := lv_s hFL3; obtain ⟨q3, q4o, hFL3⟩ := hFL3
   have q_ := q2a.get q3q; obtain ⟨q4w, q3r, q4p⟩ := q_
   rw [← q4o] at q3r
   have e_ := q3r; subst e_
   refine x_skip <| x_seq <| x_block <| x_seq <|
    x_region <| p (yix_f sl_26 q2z q2d (q2a.le q1o) q3q) <| pa (v := .agg #[.int .i64 q3.Net, .int .i64 q3.Layer, .int .i64 q3.X0, .int .i64 q3.Y0, .int .i64 q3.X1, .int .i64 q3.Y1]) (at_loadAgg agg_44 rfl rfl (Elt.every (Elt.le q4p q1o) (hS.pull 2))) <| ?_
   refine o_alloc zero_44 hS (fun b5 w' hS => ?_)
   refine o_storeAgg (news := [.int .i64 q3.Net, .int .i64 q3.Layer, .int .i64 q3.X0, .int .i64 q3.Y0, .int .i64 q3.X1, .int .i64 q3.Y1]) agg_44 rfl rfl rfl (by simp [over_length]) hS (fun w' hS => ?_)
   refine x_done <| x_seq <| x_region <| p (yl_field0 fld_44_0 rfl) <|
    pa (at_load one_3 rfl (hS.cell rfl)) <| p (v := .agg #[.int .i64 q3.Net, .slice none 0 0, .bool true, .int .i64 (-1)]) (yl_build bld_122 bldf_122 (parts_eq (pt (va := .int .i64 q3.Net) rfl (pt (va := .bool true) rfl (pt (va := .int .i64 (-1)) rfl pt0)))) (by kernel_rfl)) <| ?_
   refine o_alloc zero_122 hS (fun b6 w' hS => ?_)
   refine o_storeAgg (news := [.int .i64 q3.Net, .slice none 0 0, .bool true, .int .i64 (-1)]) agg_122 rfl rfl rfl (by simp [over_length]) hS (fun w' hS => ?_)
   refine x_done <| x_seq <| x_seq <| x_region <|
    p (yl_field0 fld_44_3 rfl) <| pa (at_load one_3 rfl ((hS.pull 1).cell rfl)) <| p (yl_assign rfl) <| x_done <| ?_
   replace hFL3 := bd_s hFL3; obtain ⟨oL7, hLL7, hFL3⟩ := hFL3
   refine x_join (fun E w => ∃ (q0f : Option Addr) (q1e : Nat) (c_b6_1_L7 : Nat) (q1q : List Value) (q0h : List T_rules_Spot), q0h = oL7 ∧ E 1 = .pointer (some ⟨b1, 0, none⟩) ∧ E 3 = .slice q6 q5.length c_out3_L3h ∧ E 6 = .pointer (some ⟨b6, 0, none⟩) ∧ E 14 = .slice q7 l_0.Wires.length c_l_0_4 ∧ E 15 = .int .i64 (l_0.Wires.length : Int) ∧ E 16 = .int .i64 q0k ∧ RepL R_rules_Spot q0g q0h q1q ∧ St w0 w (cells b1 31 [.int .i64 l_0.W, .int .i64 l_0.H, .int .i64 l_0.Layers, .int .i64 l_0.Nets, .slice q7 l_0.Wires.length c_l_0_4, .slice q0a l_0.Vias.length c_l_0_5, .slice q0b l_0.Pins.length c_l_0_6, .slice q0d l_0.Walls.length c_l_0_7] :: vec 122 R_rules_shape.sz (.slice q6 q5.length c_out3_L3h) q5.length q8 :: cells b6 122 [.int .i64 q3.Net, .slice q0f q1e c_b6_1_L7, .bool true, .int .i64 (-1)] :: vec 61 R_rules_Spot.sz (.slice q0f q1e c_b6_1_L7) q1e q1q :: ro q0g :: l)) ?_ ?_
   ·refine x_block ?_
    replace hS := St.vec_nil hS 61 R_rules_Spot.sz
    have q23 : RepL R_rules_Spot q0g [] [] := rfl
    refine x_loop (fun k_ E w => ∃ (q0l : Option Addr) (q13 : Nat) (c_b6_1_L7h : Nat) (q0i : List Value) (q0c : Int) (q0j : List T_rules_Spot), lp (P_rules_shapes_L7 q3) k_ (q0c, q0j) = some oL7 ∧ E 1 = .pointer (some ⟨b1, 0, none⟩) ∧ E 3 = .slice q6 q5.length c_out3_L3h ∧ E 5 = .pointer (some ⟨b5, 0, none⟩) ∧ E 6 = .pointer (some ⟨b6, 0, none⟩) ∧ E 7 = .int .i64 q0c ∧ E 14 = .slice q7 l_0.Wires.length c_l_0_4 ∧ E 15 = .int .i64 (l_0.Wires.length : Int) ∧ E 16 = .int .i64 q0k ∧ RepL R_rules_Spot q0g q0j q0i ∧ St w0 w (cells b1 31 [.int .i64 l_0.W, .int .i64 l_0.H, .int .i64 l_0.Layers, .int .i64 l_0.Nets, .slice q7 l_0.Wires.length c_l_0_4, .slice q0a l_0.Vias.length c_l_0_5, .slice q0b l_0.Pins.length c_l_0_6, .slice q0d l_0.Walls.length c_l_0_7] :: vec 122 R_rules_shape.sz (.slice q6 q5.length c_out3_L3h) q5.length q8 :: cells b5 44 [.int .i64 q3.Net, .int .i64 q3.Layer, .int .i64 q3.X0, .int .i64 q3.Y0, .int .i64 q3.X1, .int .i64 q3.Y1] :: cells b6 122 [.int .i64 q3.Net, .slice q0l q13 c_b6_1_L7h, .bool true, .int .i64 (-1)] :: vec 61 R_rules_Spot.sz (.slice q0l q13 c_b6_1_L7h) q13 q0i :: ro q0g :: l)) fuel ⟨none, 0, 0, [], q3.Y0, [], hLL7, q3a, q3b, rfl, rfl, rfl, q2z, q30, q2d, q23, ((((((hS.pull 5).pull 1).pull 2).pull 3).pull 5).pull 5)⟩ ?_
    rintro kL7 E w ⟨q0l, q13, c_b6_1_L7h, q0i, q0c, q0j, hLL7, q3c, q3d, q2k, q3e, q3f, q31, q32, q33, q1r, hS⟩
    have e_ := St.vec_n (hS.pull 4) q1r; subst e_
    replace hLL7 := lp_s hLL7; obtain ⟨kL7, obL7, rfl, hFL7, hLL7⟩ := hLL7
    refine x_seq <| x_seq <| x_region <| p (yl_move q3f) <|
     p (yl_field0 fld_44_5 q2k) <| pa (at_load one_3 rfl ((hS.pull 2).cell rfl)) <| p (yl_leq rfl rfl) <| x_done <|
     x_cond_p (q0c ≤ q3.Y1) rfl (fun hc28 => ?_) (fun hc28 => ?_)
    ·replace hFL7 := it_t hc28 hFL7
     refine x_skip <| x_seq <| x_block <| x_seq <|
      x_region <| p (yl_field0 fld_44_2 q2k) <| pa (at_load one_3 rfl ((hS.pull 2).cell rfl)) <| p (yl_assign rfl) <|
      x_done <| ?_
     replace hFL7 := bd_s hFL7; obtain ⟨oL10, hLL10, hFL7⟩ := hFL7
     refine x_join (fun E w => ∃ (q14 : Option Addr) (q15 : Nat) (c_b6_1_L10 : Nat) (q0p : List Value) (q1a : List T_rules_Spot), q1a = oL10 ∧ E 1 = .pointer (some ⟨b1, 0, none⟩) ∧ E 3 = .slice q6 q5.length c_out3_L3h ∧ E 5 = .pointer (some ⟨b5, 0, none⟩) ∧ E 6 = .pointer (some ⟨b6, 0, none⟩) ∧ E 7 = .int .i64 q0c ∧ E 14 = .slice q7 l_0.Wires.length c_l_0_4 ∧ E 15 = .int .i64 (l_0.Wires.length : Int) ∧ E 16 = .int .i64 q0k ∧ RepL R_rules_Spot q0g q1a q0p ∧ St w0 w (cells b1 31 [.int .i64 l_0.W, .int .i64 l_0.H, .int .i64 l_0.Layers, .int .i64 l_0.Nets, .slice q7 l_0.Wires.length c_l_0_4, .slice q0a l_0.Vias.length c_l_0_5, .slice q0b l_0.Pins.length c_l_0_6, .slice q0d l_0.Walls.length c_l_0_7] :: vec 122 R_rules_shape.sz (.slice q6 q5.length c_out3_L3h) q5.length q8 :: cells b5 44 [.int .i64 q3.Net, .int .i64 q3.Layer, .int .i64 q3.X0, .int .i64 q3.Y0, .int .i64 q3.X1, .int .i64 q3.Y1] :: cells b6 122 [.int .i64 q3.Net, .slice q14 q15 c_b6_1_L10, .bool true, .int .i64 (-1)] :: vec 61 R_rules_Spot.sz (.slice q14 q15 c_b6_1_L10) q15 q0p :: ro q0g :: l)) ?_ ?_
     ·refine x_block ?_
      refine x_loop (fun k_ E w => ∃ (q0q : Option Addr) (q0r : Nat) (c_b6_1_L10h : Nat) (q0m : List Value) (q0e : Int) (q0y : List T_rules_Spot), lp (P_rules_shapes_L10 q3 q0c) k_ (q0e, q0y) = some oL10 ∧ E 1 = .pointer (some ⟨b1, 0, none⟩) ∧ E 3 = .slice q6 q5.length c_out3_L3h ∧ E 5 = .pointer (some ⟨b5, 0, none⟩) ∧ E 6 = .pointer (some ⟨b6, 0, none⟩) ∧ E 7 = .int .i64 q0c ∧ E 8 = .int .i64 q0e ∧ E 14 = .slice q7 l_0.Wires.length c_l_0_4 ∧ E 15 = .int .i64 (l_0.Wires.length : Int) ∧ E 16 = .int .i64 q0k ∧ RepL R_rules_Spot q0g q0y q0m ∧ St w0 w (cells b1 31 [.int .i64 l_0.W, .int .i64 l_0.H, .int .i64 l_0.Layers, .int .i64 l_0.Nets, .slice q7 l_0.Wires.length c_l_0_4, .slice q0a l_0.Vias.length c_l_0_5, .slice q0b l_0.Pins.length c_l_0_6, .slice q0d l_0.Walls.length c_l_0_7] :: vec 122 R_rules_shape.sz (.slice q6 q5.length c_out3_L3h) q5.length q8 :: cells b5 44 [.int .i64 q3.Net, .int .i64 q3.Layer, .int .i64 q3.X0, .int .i64 q3.Y0, .int .i64 q3.X1, .int .i64 q3.Y1] :: cells b6 122 [.int .i64 q3.Net, .slice q0q q0r c_b6_1_L10h, .bool true, .int .i64 (-1)] :: vec 61 R_rules_Spot.sz (.slice q0q q0r c_b6_1_L10h) q0r q0m :: ro q0g :: l)) fuel ⟨q0l, q0j.length, c_b6_1_L7h, q0i, q3.X0, q0j, hLL10, q3c, q3d, q2k, q3e, q3f, rfl, q31, q32, q33, q1r, ((((((hS.pull 5).pull 5).pull 5).pull 5).pull 5).pull 5)⟩ ?_
      rintro kL10 E w ⟨q0q, q0r, c_b6_1_L10h, q0m, q0e, q0y, hLL10, q34, q35, q1w, q1x, q2e, q2f, q2l, q2m, q2n, q1h, hS⟩
      have e_ := St.vec_n (hS.pull 4) q1h; subst e_
      replace hLL10 := lp_s hLL10; obtain ⟨kL10, obL10, rfl, hFL10, hLL10⟩ := hLL10
      refine x_seq <| x_seq <| x_region <| p (yl_move q2f) <|
       p (yl_field0 fld_44_4 q1w) <| pa (at_load one_3 rfl ((hS.pull 2).cell rfl)) <| p (yl_leq rfl rfl) <| x_done <|
       x_cond_p (q0e ≤ q3.X1) rfl (fun hc36 => ?_) (fun hc36 => ?_)
      ·replace hFL10 := it_t hc36 hFL10
       refine x_skip <| x_seq <| x_block <| x_region <|
        p (yl_field0 fld_122_1 q1x) <| pa (at_load one_120 rfl ((hS.pull 3).cell rfl)) <| p (yl_field0 fld_44_1 q1w) <| pa (at_load one_3 rfl ((hS.pull 2).cell rfl)) <|
        p (yl_move q2f) <| p (yl_move q2e) <| p (v := .agg #[.int .i64 q3.Layer, .int .i64 q0e, .int .i64 q0c]) (yl_build bld_61 bldf_61 (parts_eq (pt (va := .int .i64 q3.Layer) rfl (pt (va := .int .i64 q0e) rfl (pt (va := .int .i64 q0c) rfl pt0)))) (by kernel_rfl)) <| ?_
       refine o_buildSlice (vs := [.agg #[.int .i64 q3.Layer, .int .i64 q0e, .int .i64 q0c]]) (cs := [.int .i64 q3.Layer, .int .i64 q0e, .int .i64 q0c]) sl_120 zero_61 (parts_eq (pt (va := .agg #[.int .i64 q3.Layer, .int .i64 q0e, .int .i64 q0c]) rfl pt0)) rfl (by intro v hv; simp only [List.mem_cons, List.not_mem_nil, or_false] at hv; first | (subst hv; rfl) | (rcases hv with rfl <;> rfl)) (by decide) rfl hS (fun b46 w' hS => ?_)
       replace hFL10 := lv_s hFL10; obtain ⟨q39, q44, hFL10⟩ := hFL10
       replace hFL10 := ck_s hFL10; obtain ⟨q45, hFL10⟩ := hFL10
       refine o_ap sl_120 zero_61 rfl (by decide) rfl rfl (hS.pull 5) q1h (src_blk usl_120 hS rfl rfl) (RepL.cons (R := R_rules_Spot) (ρ := q0g) (x := (T_rules_Spot.mk q3.Layer q0e q0c)) (cs := [.int .i64 q3.Layer, .int .i64 q0e, .int .i64 q0c]) rfl RepL.nil) q44 q45 (fun A47 c47 cs47 w' hr47 hS => ?_)
       refine p (yl_field0 fld_122_1 q1x) <| ?_
       refine o_store1 (v := .slice A47 q39.length c47) one_120 rfl rfl rfl rfl (hS.pull 5) (fun w' hS => ?_)
       replace hFL10 := ar_s hFL10; obtain ⟨x38, hx38, hFL10⟩ := hFL10
       refine x_done <| x_blk <| x_region <| p (yl_move q2f) <|
        p (yadd rfl rfl hx38) <| p (yl_assign rfl) <| x_done <| ?_
       have e_ := sinj hFL10; subst e_
       exact x_inv ⟨kL10, Nat.lt_succ_self _, A47, q39.length, c47, cs47, x38, q39, hLL10, q34, q35, q1w, q1x, q2e, rfl, q2l, q2m, q2n, hr47, (((((((hS.pull 2).drop.pull 5).pull 2).pull 2).pull 5).pull 5).pull 5)⟩
      ·replace hFL10 := it_f hc36 hFL10
       refine x_exitTo _ rfl <| ?_
       have e_ := sinj hFL10; subst e_
       exact x_inv ⟨q0q, q0y.length, c_b6_1_L10h, q0m, q0y, hLL10, q34, q35, q1w, q1x, q2e, q2l, q2m, q2n, q1h, ((((((hS.pull 5).pull 5).pull 5).pull 5).pull 5).pull 5)⟩
     rintro E w ⟨q14, q15, c_b6_1_L10, q0p, q1a, rfl, q46, q47, q48, q49, q4a, q3v, q3w, q3x, q24, hS⟩
     have e_ := St.vec_n (hS.pull 4) q24; subst e_
     replace hFL7 := ar_s hFL7; obtain ⟨x30, hx30, hFL7⟩ := hFL7
     refine x_blk <| x_region <| p (yl_move q4a) <| p (yadd rfl rfl hx30) <|
      p (yl_assign rfl) <| x_done <| ?_
     have e_ := sinj hFL7; subst e_
     exact x_inv ⟨kL7, Nat.lt_succ_self _, q14, q1a.length, c_b6_1_L10, q0p, x30, q1a, hLL7, q46, q47, q48, q49, rfl, q3v, q3w, q3x, q24, ((((((hS.pull 5).pull 5).pull 5).pull 5).pull 5).pull 5)⟩
    ·replace hFL7 := it_f hc28 hFL7
     refine x_exitTo _ rfl <| ?_
     have e_ := sinj hFL7; subst e_
     exact x_inv ⟨q0l, q0j.length, c_b6_1_L7h, q0i, q0j, hLL7, q3c, q3d, q3e, q31, q32, q33, q1r, ((((((hS.pull 2).drop.pull 4).pull 4).pull 4).pull 4).pull 4)⟩
   rintro E w ⟨q0f, q1e, c_b6_1_L7, q1q, q0h, rfl, q4q, q4r, q4s, q4b, q4c, q4d, q2h, hS⟩
   have e_ := St.vec_n (hS.pull 3) q2h; subst e_
   refine x_region <| p (yl_move q4r) <| pa (v := .agg #[.int .i64 q3.Net, .slice q0f q0h.length c_b6_1_L7, .bool true, .int .i64 (-1)]) (ld_sub agg_122 q4s rfl rfl (hS.pull 2)) <| ?_
   have q_ := St.vec_fz ((hS.pull 4).pull 4) q2h; obtain ⟨q3g, q2o, q4e, hS⟩ := q_
   refine o_buildSlice (vs := [.agg #[.int .i64 q3.Net, .slice q0f q0h.length c_b6_1_L7, .bool true, .int .i64 (-1)]]) (cs := [.int .i64 q3.Net, .slice q0f q0h.length c_b6_1_L7, .bool true, .int .i64 (-1)]) sl_98 zero_122 (parts_eq (pt (va := .agg #[.int .i64 q3.Net, .slice q0f q0h.length c_b6_1_L7, .bool true, .int .i64 (-1)]) rfl pt0)) rfl (by intro v hv; simp only [List.mem_cons, List.not_mem_nil, or_false] at hv; first | (subst hv; rfl) | (rcases hv with rfl <;> rfl)) (by decide) rfl hS (fun b51 w' hS => ?_)
   replace hFL3 := lv_s hFL3; obtain ⟨q3s, q4f, hFL3⟩ := hFL3
   replace hFL3 := ck_s hFL3; obtain ⟨q4g, hFL3⟩ := hFL3
   refine o_ap sl_98 zero_122 rfl (by decide) rfl rfl (hS.pull 3) (q1p.le q2o) (src_blk usl_98 hS rfl rfl) (RepL.cons (R := R_rules_shape) (ρ := q3g) (x := (T_rules_shape.mk q3.Net q0h true (-1))) (cs := [.int .i64 q3.Net, .slice q0f q0h.length c_b6_1_L7, .bool true, .int .i64 (-1)]) ⟨_, _, _, rfl, q4e⟩ RepL.nil) q4f q4g (fun A52 c52 cs52 w' hr52 hS => ?_)
   replace hFL3 := ar_s hFL3; obtain ⟨x53, hx53, hFL3⟩ := hFL3
   refine p (yl_assign rfl) <| x_done <| x_blk <| x_region <|
    p (yadd q4d rfl hx53) <| p (yl_move rfl) <| x_done <| ?_
   have e_ := sinj hFL3; subst e_
   exact x_inv ⟨kL3, Nat.lt_succ_self _, q3g, A52, q3s.length, c52, cs52, q3s, x53, hLL3, (q1o.trans q2o), q4q, rfl, q4b, q4c, rfl, hr52, (((((hS.pull 1).drop.pull 3).drop.pull 1).pull 1).pull 2)⟩
  ·replace hFL3 := it_f hc17 hFL3
   refine x_exitTo _ rfl <| ?_
   have e_ := sinj hFL3; subst e_
   exact x_inv ⟨q0g, q6, q5.length, c_out3_L3h, q8, q5, hLL3, q1o, q3a, q3b, q1p, (((hS.pull 2).pull 2).pull 2)⟩
 rintro E w ⟨q1z, q1c, q1d, c_out3_L3, q11, q1k, rfl, q1l, q3t, q4t, q2i, hS⟩
 have e_ := St.vec_n (hS.pull 1) q2i; subst e_
 refine x_seq <| x_seq <| x_region <| p (yl_field0 fld_31_5 q3t) <|
  pa (at_load one_27 rfl (hS.cell rfl)) <| p (yl_len_slice usl_27 rfl) <| p (yl_move rfl) <| x_done <| ?_
 replace hF := bd_s hF; obtain ⟨oL16, hLL16, hF⟩ := hF
 refine x_join (fun E w => ∃ (q1s : Heap) (q16 : Option Addr) (q17 : Nat) (c_out3_L16 : Nat) (q0s : List Value) (q1b : List T_rules_shape), q1b = oL16 ∧ Le q1z q1s ∧ E 1 = .pointer (some ⟨b1, 0, none⟩) ∧ E 3 = .slice q16 q17 c_out3_L16 ∧ RepL R_rules_shape q1s q1b q0s ∧ St w0 w (cells b1 31 [.int .i64 l_0.W, .int .i64 l_0.H, .int .i64 l_0.Layers, .int .i64 l_0.Nets, .slice q7 l_0.Wires.length c_l_0_4, .slice q0a l_0.Vias.length c_l_0_5, .slice q0b l_0.Pins.length c_l_0_6, .slice q0d l_0.Walls.length c_l_0_7] :: vec 122 R_rules_shape.sz (.slice q16 q17 c_out3_L16) q17 q0s :: ro q1s :: l)) ?_ ?_
 ·refine x_block ?_
  refine x_loop (fun k_ E w => ∃ (q1m : Heap) (q0t : Option Addr) (q0u : Nat) (c_out3_L16h : Nat) (q0n : List Value) (q0z : List T_rules_shape) (q1t : Int), lp (P_rules_shapes_L16 l_0) k_ (q0z, q1t) = some oL16 ∧ Le q1z q1m ∧ E 1 = .pointer (some ⟨b1, 0, none⟩) ∧ E 3 = .slice q0t q0u c_out3_L16h ∧ E 55 = .slice q0a l_0.Vias.length c_l_0_5 ∧ E 56 = .int .i64 (l_0.Vias.length : Int) ∧ E 57 = .int .i64 q1t ∧ RepL R_rules_shape q1m q0z q0n ∧ St w0 w (cells b1 31 [.int .i64 l_0.W, .int .i64 l_0.H, .int .i64 l_0.Layers, .int .i64 l_0.Nets, .slice q7 l_0.Wires.length c_l_0_4, .slice q0a l_0.Vias.length c_l_0_5, .slice q0b l_0.Pins.length c_l_0_6, .slice q0d l_0.Walls.length c_l_0_7] :: vec 122 R_rules_shape.sz (.slice q0t q0u c_out3_L16h) q0u q0n :: ro q1m :: l)) fuel ⟨q1z, q1c, q1k.length, c_out3_L3, q11, q1k, 0, hLL16, (Le.refl _), q3t, q4t, rfl, rfl, rfl, q2i, (((hS.pull 2).pull 2).pull 2)⟩ ?_
  rintro kL16 E w ⟨q1m, q0t, q0u, c_out3_L16h, q0n, q0z, q1t, hLL16, q1f, q36, q37, q2p, q2q, q20, q1i, hS⟩
  have e_ := St.vec_n (hS.pull 1) q1i; subst e_
  replace hLL16 := lp_s hLL16; obtain ⟨kL16, obL16, rfl, hFL16, hLL16⟩ := hLL16
  refine x_seq <| x_region <| p (yl_lss q20 q2q) <| x_done <|
   x_seq <|
   x_cond_p (q1t < (l_0.Vias.length : Int)) rfl (fun hc58 => ?_) (fun hc58 => ?_)
  ·replace hFL16 := it_t hc58 hFL16
   replace hFL16 := ck_s hFL16; obtain ⟨q3h, hFL16⟩ := hFL16
   replace hFL16 := lv_s hFL16; obtain ⟨q2, q4h, hFL16⟩ := hFL16
   have q_ := q2b.get q3h; obtain ⟨q4u, q3i, q4i⟩ := q_
   rw [← q4h] at q3i
   have e_ := q3i; subst e_
   refine x_skip <| x_seq <| x_block <| x_seq <|
    x_region <| p (yix_f sl_27 q2p q20 (q2b.le (q1l.trans q1f)) q3h) <| pa (v := .agg #[.int .i64 q2.Net, .int .i64 q2.Layer, .int .i64 q2.X, .int .i64 q2.Y]) (at_loadAgg agg_47 rfl rfl (Elt.every (Elt.le q4i (q1l.trans q1f)) (hS.pull 2))) <| ?_
   refine o_alloc zero_47 hS (fun b10 w' hS => ?_)
   refine o_storeAgg (news := [.int .i64 q2.Net, .int .i64 q2.Layer, .int .i64 q2.X, .int .i64 q2.Y]) agg_47 rfl rfl rfl (by simp [over_length]) hS (fun w' hS => ?_)
   replace hFL16 := ar_s hFL16; obtain ⟨x73, hx73, hFL16⟩ := hFL16
   refine x_done <| x_region <| p (yl_move q37) <| p (yl_field0 fld_47_0 rfl) <|
    pa (at_load one_3 rfl (hS.cell rfl)) <| p (yl_field0 fld_47_1 rfl) <| pa (at_load one_3 rfl (hS.cell rfl)) <| p (yl_field0 fld_47_2 rfl) <|
    pa (at_load one_3 rfl (hS.cell rfl)) <| p (yl_field0 fld_47_3 rfl) <| pa (at_load one_3 rfl (hS.cell rfl)) <| p (v := .agg #[.int .i64 q2.Layer, .int .i64 q2.X, .int .i64 q2.Y]) (yl_build bld_61 bldf_61 (parts_eq (pt (va := .int .i64 q2.Layer) rfl (pt (va := .int .i64 q2.X) rfl (pt (va := .int .i64 q2.Y) rfl pt0)))) (by kernel_rfl)) <|
    p (yl_field0 fld_47_1 rfl) <| pa (at_load one_3 rfl (hS.cell rfl)) <| p (yadd rfl rfl hx73) <| p (yl_field0 fld_47_2 rfl) <|
    pa (at_load one_3 rfl (hS.cell rfl)) <| p (yl_field0 fld_47_3 rfl) <| pa (at_load one_3 rfl (hS.cell rfl)) <| p (v := .agg #[.int .i64 x73, .int .i64 q2.X, .int .i64 q2.Y]) (yl_build bld_61 bldf_61 (parts_eq (pt (va := .int .i64 x73) rfl (pt (va := .int .i64 q2.X) rfl (pt (va := .int .i64 q2.Y) rfl pt0)))) (by kernel_rfl)) <| ?_
   refine o_buildSlice (vs := [.agg #[.int .i64 q2.Layer, .int .i64 q2.X, .int .i64 q2.Y], .agg #[.int .i64 x73, .int .i64 q2.X, .int .i64 q2.Y]]) (cs := [.int .i64 q2.Layer, .int .i64 q2.X, .int .i64 q2.Y, .int .i64 x73, .int .i64 q2.X, .int .i64 q2.Y]) sl_120 zero_61 (parts_eq (pt (va := .agg #[.int .i64 q2.Layer, .int .i64 q2.X, .int .i64 q2.Y]) rfl (pt (va := .agg #[.int .i64 x73, .int .i64 q2.X, .int .i64 q2.Y]) rfl pt0))) rfl (by intro v hv; simp only [List.mem_cons, List.not_mem_nil, or_false] at hv; first | (subst hv; rfl) | (rcases hv with rfl | rfl <;> rfl)) (by decide) rfl hS (fun b79 w' hS => ?_)
   refine p (v := .agg #[.int .i64 q2.Net, .slice (some ⟨b79, 0, none⟩) 2 2, .bool false, .int .i64 (-1)]) (yl_build bld_122 bldf_122 (parts_eq (pt (va := .int .i64 q2.Net) rfl (pt (va := .slice (some ⟨b79, 0, none⟩) 2 2) rfl (pt (va := .bool false) rfl (pt (va := .int .i64 (-1)) rfl pt0))))) (by kernel_rfl)) <| ?_
   have q3y : RepL R_rules_Spot q1m ([(T_rules_Spot.mk q2.Layer q2.X q2.Y), (T_rules_Spot.mk x73 q2.X q2.Y)] : List T_rules_Spot) [.int .i64 q2.Layer, .int .i64 q2.X, .int .i64 q2.Y, .int .i64 x73, .int .i64 q2.X, .int .i64 q2.Y] := (RepL.cons (cs := [.int .i64 q2.Layer, .int .i64 q2.X, .int .i64 q2.Y]) rfl (RepL.cons (cs := [.int .i64 x73, .int .i64 q2.X, .int .i64 q2.Y]) rfl RepL.nil))
   replace hS := St.vec_of (n := 2) (sz := R_rules_Spot.sz) hS rfl (by decide)
   have q_ := St.vec_fz ((hS.pull 4).pull 1) q3y; obtain ⟨q2r, q25, q3n, hS⟩ := q_
   refine o_buildSlice (vs := [.agg #[.int .i64 q2.Net, .slice (some ⟨b79, 0, none⟩) 2 2, .bool false, .int .i64 (-1)]]) (cs := [.int .i64 q2.Net, .slice (some ⟨b79, 0, none⟩) 2 2, .bool false, .int .i64 (-1)]) sl_98 zero_122 (parts_eq (pt (va := .agg #[.int .i64 q2.Net, .slice (some ⟨b79, 0, none⟩) 2 2, .bool false, .int .i64 (-1)]) rfl pt0)) rfl (by intro v hv; simp only [List.mem_cons, List.not_mem_nil, or_false] at hv; first | (subst hv; rfl) | (rcases hv with rfl <;> rfl)) (by decide) rfl hS (fun b81 w' hS => ?_)
   replace hFL16 := lv_s hFL16; obtain ⟨q3j, q3z, hFL16⟩ := hFL16
   replace hFL16 := ck_s hFL16; obtain ⟨q40, hFL16⟩ := hFL16
   refine o_ap sl_98 zero_122 rfl (by decide) rfl rfl (hS.pull 4) (q1i.le q25) (src_blk usl_98 hS rfl rfl) (RepL.cons (R := R_rules_shape) (ρ := q2r) (x := (T_rules_shape.mk q2.Net ([(T_rules_Spot.mk q2.Layer q2.X q2.Y), (T_rules_Spot.mk x73 q2.X q2.Y)] : List T_rules_Spot) false (-1))) (cs := [.int .i64 q2.Net, .slice (some ⟨b79, 0, none⟩) 2 2, .bool false, .int .i64 (-1)]) ⟨_, _, _, rfl, q3n⟩ RepL.nil) q3z q40 (fun A82 c82 cs82 w' hr82 hS => ?_)
   replace hFL16 := ar_s hFL16; obtain ⟨x83, hx83, hFL16⟩ := hFL16
   refine p (yl_assign rfl) <| x_done <| x_blk <| x_region <|
    p (yadd q20 rfl hx83) <| p (yl_move rfl) <| x_done <| ?_
   have e_ := sinj hFL16; subst e_
   exact x_inv ⟨kL16, Nat.lt_succ_self _, q2r, A82, q3j.length, c82, cs82, q3j, x83, hLL16, (q1f.trans q25), q36, rfl, q2p, q2q, rfl, hr82, (((((hS.pull 1).drop.pull 2).drop.pull 1).pull 1).pull 2)⟩
  ·replace hFL16 := it_f hc58 hFL16
   refine x_exitTo _ rfl <| ?_
   have e_ := sinj hFL16; subst e_
   exact x_inv ⟨q1m, q0t, q0z.length, c_out3_L16h, q0n, q0z, hLL16, q1f, q36, q37, q1i, (((hS.pull 2).pull 2).pull 2)⟩
 rintro E w ⟨q1s, q16, q17, c_out3_L16, q0s, q1b, rfl, q21, q4j, q4k, q26, hS⟩
 have e_ := St.vec_n (hS.pull 1) q26; subst e_
 refine x_seq <| x_seq <| x_region <| p (yl_field0 fld_31_6 q4j) <|
  pa (at_load one_28 rfl (hS.cell rfl)) <| p (yl_len_slice usl_28 rfl) <| p (yl_move rfl) <| x_done <| ?_
 replace hF := bd_s hF; obtain ⟨oL21, hLL21, hF⟩ := hF
 refine x_join (fun E w => ∃ (q27 : Heap) (q18 : Option Addr) (q19 : Nat) (c_out3_L21 : Nat) (q0v : List Value) (q1u : List T_rules_shape), q1u = oL21 ∧ Le q1s q27 ∧ E 3 = .slice q18 q19 c_out3_L21 ∧ RepL R_rules_shape q27 q1u q0v ∧ St w0 w (vec 122 R_rules_shape.sz (.slice q18 q19 c_out3_L21) q19 q0v :: ro q27 :: l)) ?_ ?_
 ·refine x_block ?_
  refine x_loop (fun k_ E w => ∃ (q1n : Heap) (q0w : Option Addr) (q0x : Nat) (c_out3_L21h : Nat) (q0o : List Value) (q10 : List T_rules_shape) (q9 : Int), lp (P_rules_shapes_L21 l_0) k_ (q10, q9) = some oL21 ∧ Le q1s q1n ∧ E 3 = .slice q0w q0x c_out3_L21h ∧ E 85 = .slice q0b l_0.Pins.length c_l_0_6 ∧ E 86 = .int .i64 (l_0.Pins.length : Int) ∧ E 87 = .int .i64 q9 ∧ RepL R_rules_shape q1n q10 q0o ∧ St w0 w (vec 122 R_rules_shape.sz (.slice q0w q0x c_out3_L21h) q0x q0o :: ro q1n :: l)) fuel ⟨q1s, q16, q1b.length, c_out3_L16, q0s, q1b, 0, hLL21, (Le.refl _), q4k, rfl, rfl, rfl, q26, ((hS.drop.pull 1).pull 1)⟩ ?_
  rintro kL21 E w ⟨q1n, q0w, q0x, c_out3_L21h, q0o, q10, q9, hLL21, q1g, q38, q2s, q2t, q1v, q1j, hS⟩
  have e_ := St.vec_n hS q1j; subst e_
  replace hLL21 := lp_s hLL21; obtain ⟨kL21, obL21, rfl, hFL21, hLL21⟩ := hLL21
  refine x_seq <| x_region <| p (yl_lss q1v q2t) <| x_done <|
   x_seq <|
   x_cond_p (q9 < (l_0.Pins.length : Int)) rfl (fun hc88 => ?_) (fun hc88 => ?_)
  ·replace hFL21 := it_t hc88 hFL21
   replace hFL21 := ck_s hFL21; obtain ⟨q3k, hFL21⟩ := hFL21
   replace hFL21 := lv_s hFL21; obtain ⟨q4, q4l, hFL21⟩ := hFL21
   have q_ := q2c.get q3k; obtain ⟨q4v, q3l, q4m⟩ := q_
   rw [← q4l] at q3l
   have e_ := q3l; subst e_
   refine x_skip <| x_seq <| x_block <| x_seq <|
    x_region <| p (yl_move q1v) <| p (yix_f sl_28 q2s q1v (q2c.le ((q1l.trans q21).trans q1g)) q3k) <| pa (v := .agg #[.int .i64 q4.Net, .int .i64 q4.X, .int .i64 q4.Y, .bool q4.Drive, .int .i64 q4.Size]) (at_loadAgg agg_39 rfl rfl (Elt.every (Elt.le q4m ((q1l.trans q21).trans q1g)) (hS.pull 1))) <| ?_
   refine o_alloc zero_39 hS (fun b12 w' hS => ?_)
   refine p (yl_assign rfl) <| ?_
   refine o_storeAgg (news := [.int .i64 q4.Net, .int .i64 q4.X, .int .i64 q4.Y, .bool q4.Drive, .int .i64 q4.Size]) agg_39 rfl rfl rfl (by simp [over_length]) hS (fun w' hS => ?_)
   refine x_done <| x_region <| p (yl_move q38) <| p (yl_field0 fld_39_0 rfl) <|
    pa (at_load one_3 rfl (hS.cell rfl)) <| p (yl_field0 fld_39_1 rfl) <| pa (at_load one_3 rfl (hS.cell rfl)) <| p (yl_field0 fld_39_2 rfl) <|
    pa (at_load one_3 rfl (hS.cell rfl)) <| p (v := .agg #[.int .i64 0, .int .i64 q4.X, .int .i64 q4.Y]) (yl_build bld_61 bldf_61 (parts_eq (pt (va := .int .i64 0) rfl (pt (va := .int .i64 q4.X) rfl (pt (va := .int .i64 q4.Y) rfl pt0)))) (by kernel_rfl)) <| ?_
   refine o_buildSlice (vs := [.agg #[.int .i64 0, .int .i64 q4.X, .int .i64 q4.Y]]) (cs := [.int .i64 0, .int .i64 q4.X, .int .i64 q4.Y]) sl_120 zero_61 (parts_eq (pt (va := .agg #[.int .i64 0, .int .i64 q4.X, .int .i64 q4.Y]) rfl pt0)) rfl (by intro v hv; simp only [List.mem_cons, List.not_mem_nil, or_false] at hv; first | (subst hv; rfl) | (rcases hv with rfl <;> rfl)) (by decide) rfl hS (fun b100 w' hS => ?_)
   refine p (yl_move rfl) <| p (v := .agg #[.int .i64 q4.Net, .slice (some ⟨b100, 0, none⟩) 1 1, .bool false, .int .i64 q9]) (yl_build bld_122 bldf_122 (parts_eq (pt (va := .int .i64 q4.Net) rfl (pt (va := .slice (some ⟨b100, 0, none⟩) 1 1) rfl (pt (va := .bool false) rfl (pt (va := .int .i64 q9) rfl pt0))))) (by kernel_rfl)) <| ?_
   have q41 : RepL R_rules_Spot q1n ([(T_rules_Spot.mk 0 q4.X q4.Y)] : List T_rules_Spot) [.int .i64 0, .int .i64 q4.X, .int .i64 q4.Y] := (RepL.cons (cs := [.int .i64 0, .int .i64 q4.X, .int .i64 q4.Y]) rfl RepL.nil)
   replace hS := St.vec_of (n := 1) (sz := R_rules_Spot.sz) hS rfl (by decide)
   have q_ := St.vec_fz ((hS.pull 3).pull 1) q41; obtain ⟨q2u, q28, q3o, hS⟩ := q_
   refine o_buildSlice (vs := [.agg #[.int .i64 q4.Net, .slice (some ⟨b100, 0, none⟩) 1 1, .bool false, .int .i64 q9]]) (cs := [.int .i64 q4.Net, .slice (some ⟨b100, 0, none⟩) 1 1, .bool false, .int .i64 q9]) sl_98 zero_122 (parts_eq (pt (va := .agg #[.int .i64 q4.Net, .slice (some ⟨b100, 0, none⟩) 1 1, .bool false, .int .i64 q9]) rfl pt0)) rfl (by intro v hv; simp only [List.mem_cons, List.not_mem_nil, or_false] at hv; first | (subst hv; rfl) | (rcases hv with rfl <;> rfl)) (by decide) rfl hS (fun b103 w' hS => ?_)
   replace hFL21 := lv_s hFL21; obtain ⟨q3m, q42, hFL21⟩ := hFL21
   replace hFL21 := ck_s hFL21; obtain ⟨q43, hFL21⟩ := hFL21
   refine o_ap sl_98 zero_122 rfl (by decide) rfl rfl (hS.pull 3) (q1j.le q28) (src_blk usl_98 hS rfl rfl) (RepL.cons (R := R_rules_shape) (ρ := q2u) (x := (T_rules_shape.mk q4.Net ([(T_rules_Spot.mk 0 q4.X q4.Y)] : List T_rules_Spot) false q9)) (cs := [.int .i64 q4.Net, .slice (some ⟨b100, 0, none⟩) 1 1, .bool false, .int .i64 q9]) ⟨_, _, _, rfl, q3o⟩ RepL.nil) q42 q43 (fun A104 c104 cs104 w' hr104 hS => ?_)
   replace hFL21 := ar_s hFL21; obtain ⟨x105, hx105, hFL21⟩ := hFL21
   refine p (yl_assign rfl) <| x_done <| x_blk <| x_region <|
    p (yadd q1v rfl hx105) <| p (yl_move rfl) <| x_done <| ?_
   have e_ := sinj hFL21; subst e_
   exact x_inv ⟨kL21, Nat.lt_succ_self _, q2u, A104, q3m.length, c104, cs104, q3m, x105, hLL21, (q1g.trans q28), rfl, q2s, q2t, rfl, hr104, ((((hS.pull 1).drop.pull 2).drop.pull 1).pull 1)⟩
  ·replace hFL21 := it_f hc88 hFL21
   refine x_exitTo _ rfl <| ?_
   have e_ := sinj hFL21; subst e_
   exact x_inv ⟨q1n, q0w, q10.length, c_out3_L21h, q0o, q10, hLL21, q1g, q38, q1j, ((hS.pull 1).pull 1)⟩
 rintro E w ⟨q27, q18, q19, c_out3_L21, q0v, q1u, rfl, q3p, q4n, q29, hS⟩
 have e_ := St.vec_n hS q29; subst e_
 refine x_seq <| x_region <| p (yl_move q4n) <| p (yl_assign rfl) <|
  x_done <| ?_
 have e_ := sinj hF; subst e_
 exact x_return ⟨_, ⟨_, _, rfl, rfl, rfl⟩, q27, q18, q1u.length, c_out3_L21, q0v, rfl, ((q1l.trans q21).trans q3p), q29, ((hS.pull 1).pull 1)⟩
attribute [irreducible] P_rules_shapes

def P_rules_bag_add (q2 : List (T_rules_Fault × Bool)) (q3 : Bool) (f1 : T_rules_Fault) : Option (List (T_rules_Fault × Bool) × Bool) :=
 lv (mget f1 q2 false) fun x9 =>
 lv ((!x9) && (decide ((q2.length : Int) = 10000))) fun x18 =>
 if x18 = true then
  some (q2, true)
 else
  lv (mput f1 true q2) fun q4 =>
  some (q4, q3)
theorem c_rules_bag_add {w0 w : World} {l : List Assn} {ρ : Heap} {q3 : Nat} {q2 : Nat} {q4 : List (T_rules_Fault × Bool)} {q5 : Bool} {f1 : T_rules_Fault} {r : (List (T_rules_Fault × Bool) × Bool)} (hF : P_rules_bag_add q4 q5 f1 = some r) (hS : St w0 w (cells q3 103 [.map (some q2), .bool q5] :: mapA q2 kf_63 Value.bool q4 :: ro ρ :: l)) :
  Calls Try.prog 63 #[.pointer (some ⟨q3, 0, none⟩), .agg #[.int .i64 f1.Kind, .int .i64 f1.Net, .int .i64 f1.Other, .int .i64 f1.At.Layer, .int .i64 f1.At.X, .int .i64 f1.At.Y]] w fun e w' => e = .returned (.tuple #[]) ∧ St w0 w' (cells q3 103 [.map (some q2), .bool r.2] :: mapA q2 kf_63 Value.bool r.1 :: ro ρ :: l) := by
 refine enterC Try.func63 rfl 27 rfl (by simp) ?_
 refine x_seq <| x_region <| ?_
 refine o_box (cs := [.int .i64 f1.Kind, .int .i64 f1.Net, .int .i64 f1.Other, .int .i64 f1.At.Layer, .int .i64 f1.At.X, .int .i64 f1.At.Y]) rfl rfl hS (fun b3 w' hS => ?_)
 replace hF := lv_s hF; obtain ⟨x9, hx9, hF⟩ := hF
 replace hF := lv_s hF; obtain ⟨x18, hx18, hF⟩ := hF
 refine x_done <| x_seq <| x_seq <| x_still mixed (by kernel_rfl) hS <|
  q (yl_move rfl) <| q (yl_nilCheck rfl) <| q (yl_field0 fld_103_0 rfl) <| qa (fun w' hS => at_load one_101 rfl ((hS.pull 1).cell rfl)) <|
  qa (v := .agg #[.int .i64 f1.Kind, .int .i64 f1.Net, .int .i64 f1.Other, .int .i64 f1.At.Layer, .int .i64 f1.At.X, .int .i64 f1.At.Y]) (fun w' hS => ld_sub agg_63 rfl rfl rfl hS) <| qa (fun w' hS => at_look (k := f1) um_101 kp_63 (zero1 zv_4) rfl rfl (hS.pull 2) hx9) <| q (yl_not rfl) <| q (yl_move rfl) <|
  qg (v := .pointer (some ⟨q3, 0, none⟩)) 11 (c := !x9) (says_t _) (fun hq w' hS => Yl.at (yl_move rfl)) <| qg (v := .pointer (some ⟨q3, 0, none⟩)) 11 (c := !x9) (says_t _) (fun hq w' hS => Yl.at (yl_nilCheck (cv hq))) <| qg (v := .pointer (some ⟨q3, 0, none⟩)) 11 (c := !x9) (says_t _) (fun hq w' hS => Yl.at (yl_field0 fld_103_0 (cv hq))) <| qg (v := .map (some q2)) 11 (c := !x9) (says_t _) (fun hq w' hS => at_load one_101 (cv hq) ((hS.pull 1).cell rfl)) <|
  qg (v := .int .i64 (q4.length : Int)) 11 (c := !x9) (says_t _) (fun hq w' hS => at_lenm um_101 (cv hq) (hS.pull 2)) <| qg (v := .bool (decide ((q4.length : Int) = 10000))) 11 (c := !x9) (says_t _) (fun hq w' hS => Yl.at (yl_eql (cv hq) rfl)) <| q (yand' rfl (fun hc => (cv hc)) rfl hx18) <|
  q_done fun w' hS => ?_
 refine x_cond (t := x18) rfl (fun hc18 => ?_) (fun hc18 => ?_)
 ·replace hF := it_t hc18 hF
  refine x_seq <| x_region <| p (yl_move rfl) <| p (yl_nilCheck rfl) <|
   p (yl_field0 fld_103_1 rfl) <| ?_
  refine o_store1 (v := .bool true) one_4 rfl rfl rfl rfl (hS.pull 1) (fun w' hS => ?_)
  refine x_done <| ?_
  have e_ := sinj hF; subst e_
  exact x_return ⟨_, rfl, rfl, ((((hS.pull 1).drop.pull 2).pull 2).pull 2)⟩
 ·replace hF := it_bf hc18 hF
  refine x_skip <| x_head 5 mixed (by kernel_rfl) hS _ _ rfl rfl <| q (yl_move rfl) <| q (yl_nilCheck rfl) <|
   q (yl_field0 fld_103_0 rfl) <| qa (fun w' hS => at_load one_101 rfl ((hS.pull 1).cell rfl)) <| qa (v := .agg #[.int .i64 f1.Kind, .int .i64 f1.Net, .int .i64 f1.Other, .int .i64 f1.At.Layer, .int .i64 f1.At.X, .int .i64 f1.At.Y]) (fun w' hS => ld_sub agg_63 rfl rfl rfl hS) <|
   q_done fun w' hS => ?_
  replace hF := lv_s hF; obtain ⟨q7, q6, hF⟩ := hF
  refine o_mapset (k := f1) (vf := Value.bool) (v := true) um_101 kp_63 rfl rfl rfl (hS.pull 2) q6 (fun w' hS => ?_)
  refine x_done <| ?_
  have e_ := sinj hF; subst e_
  exact x_fin ⟨_, rfl, rfl, ((((hS.pull 1).drop.pull 2).pull 1).pull 2)⟩
attribute [irreducible] P_rules_bag_add

def P_rules_shorts_L10 (q7 : T_rules_shape) (q8 : T_rules_Spot) (q6 : List Int) : (Int × List (T_rules_Fault × Bool) × Bool) → Option ((Int × List (T_rules_Fault × Bool) × Bool) ⊕ ((List (T_rules_Fault × Bool) × Bool) ⊕ (List (T_rules_Fault × Bool) × Bool))) := fun (q2, q4, q5) =>
 if q2 < (q6.length : Int) then
  ck (inb q2 q6.length) <|
  lv (gt q6 q2) fun x40 =>
  lv (min x40 q7.fnet) fun x45 =>
  lv (max x40 q7.fnet) fun x49 =>
  bd (P_rules_bag_add q4 q5 (T_rules_Fault.mk 1 x45 x49 q8)) fun q3 =>
  if q3.2 = true then
   some (Sum.inr (Sum.inr (q3.1, q3.2)))
  else
   ar (q2 + 1) fun x57 =>
   some (Sum.inl (x57, q3.1, q3.2))
 else
  some (Sum.inr (Sum.inl (q4, q5)))
def P_rules_shorts_L6 (q6 : T_rules_shape) : (List (T_rules_Spot × List Int) × Int × List (T_rules_Fault × Bool) × Bool) → Option ((List (T_rules_Spot × List Int) × Int × List (T_rules_Fault × Bool) × Bool) ⊕ ((List (T_rules_Spot × List Int) × List (T_rules_Fault × Bool) × Bool) ⊕ (List (T_rules_Fault × Bool) × Bool))) := fun (q2, q5, q3, q4) =>
 if q5 < (q6.fspots.length : Int) then
  bs (
   ck (inb q5 q6.fspots.length) <|
   lv (gt q6.fspots q5) fun q8 =>
   lv (mget q8 q2 []) fun q7 =>
   bd (P_slices_Contains_int_int q7 q6.fnet) fun q0h =>
   if q0h = true then
    some (Sum.inl (q2, q3, q4))
   else
    bs (
     lp (P_rules_shorts_L10 q6 q8 q7) fuel (0, q3, q4)) (fun y => some (Sum.inr y)) fun (q9, q0a) =>
    lv (mput q8 q7 q2) fun q0f =>
    lv (q7 ++ [q6.fnet]) fun q0e =>
    ck (apOk 8 q0e.length) <|
    lv (mput q8 q0e q0f) fun q0g =>
    some (Sum.inl (q0g, q9, q0a))) (fun y => some (Sum.inr (Sum.inr y))) fun (q0d, q0b, q0c) =>
  ar (q5 + 1) fun x67 =>
  some (Sum.inl (q0d, x67, q0b, q0c))
 else
  some (Sum.inr (Sum.inl (q2, q3, q4)))
def P_rules_shorts_L3 (s2 : List T_rules_shape) : (List (T_rules_Spot × List Int) × Int × List (T_rules_Fault × Bool) × Bool) → Option ((List (T_rules_Spot × List Int) × Int × List (T_rules_Fault × Bool) × Bool) ⊕ ((List (T_rules_Fault × Bool) × Bool) ⊕ (List (T_rules_Fault × Bool) × Bool))) := fun (q5, q2, q3, q4) =>
 if q2 < (s2.length : Int) then
  ck (inb q2 s2.length) <|
  lv (gt s2 q2) fun q9 =>
  bs (
   lp (P_rules_shorts_L6 q9) fuel (q5, 0, q3, q4)) (fun y => some (Sum.inr (Sum.inr y))) fun (q8, q6, q7) =>
  ar (q2 + 1) fun x68 =>
  some (Sum.inl (q8, x68, q6, q7))
 else
  some (Sum.inr (Sum.inl (q3, q4)))
def P_rules_shorts (q4 : List (T_rules_Fault × Bool)) (q5 : Bool) (v1 : T_rules_Layout) (s2 : List T_rules_shape) : Option (List (T_rules_Fault × Bool) × Bool) :=
 bs (
  lp (P_rules_shorts_L3 s2) fuel ([], 0, q4, q5)) (fun y => some y) fun (q2, q3) =>
 some (q2, q3)
theorem c_rules_shorts {w0 w : World} {l : List Assn} {ρ : Heap} {q9 : Nat} {q4 : Nat} {q1b : Option Addr} {q1u : Nat} {c_v1_4 : Nat} {q1c : Option Addr} {q1v : Nat} {c_v1_5 : Nat} {q1d : Option Addr} {q1w : Nat} {c_v1_6 : Nat} {q1e : Option Addr} {q1x : Nat} {c_v1_7 : Nat} {q0t : Option Addr} {q2i : Nat} {c_s2 : Nat} {q23 : List (T_rules_Fault × Bool)} {q24 : Bool} {v1 : T_rules_Layout} {s2 : List T_rules_shape} {r : (List (T_rules_Fault × Bool) × Bool)} (hF : P_rules_shorts q23 q24 v1 s2 = some r) (q2j : RdS R_rules_Wire ρ q1b q1u c_v1_4 v1.Wires) (q2k : RdS R_rules_Via ρ q1c q1v c_v1_5 v1.Vias) (q2l : RdS R_rules_Pin ρ q1d q1w c_v1_6 v1.Pins) (q2m : RdS R_floor_Wall ρ q1e q1x c_v1_7 v1.Walls) (q25 : RdS R_rules_shape ρ q0t q2i c_s2 s2) (hS : St w0 w (cells q9 103 [.map (some q4), .bool q24] :: mapA q4 kf_63 Value.bool q23 :: ro ρ :: l)) :
  Calls Try.prog 46 #[.pointer (some ⟨q9, 0, none⟩), .agg #[.int .i64 v1.W, .int .i64 v1.H, .int .i64 v1.Layers, .int .i64 v1.Nets, .slice q1b q1u c_v1_4, .slice q1c q1v c_v1_5, .slice q1d q1w c_v1_6, .slice q1e q1x c_v1_7], .slice q0t q2i c_s2] w fun e w' => e = .returned (.tuple #[]) ∧ St w0 w' (cells q9 103 [.map (some q4), .bool r.2] :: mapA q4 kf_63 Value.bool r.1 :: ro ρ :: l) := by
 have e_ := q2j.n; subst e_
 have e_ := q2k.n; subst e_
 have e_ := q2l.n; subst e_
 have e_ := q2m.n; subst e_
 have e_ := q25.n; subst e_
 refine enterC Try.func46 rfl 69 rfl (by simp) ?_
 refine x_seq <| x_region <| ?_
 refine o_box (cs := [.int .i64 v1.W, .int .i64 v1.H, .int .i64 v1.Layers, .int .i64 v1.Nets, .slice q1b v1.Wires.length c_v1_4, .slice q1c v1.Vias.length c_v1_5, .slice q1d v1.Pins.length c_v1_6, .slice q1e v1.Walls.length c_v1_7]) rfl rfl hS (fun b4 w' hS => ?_)
 refine x_done <| x_seq <| x_region <| ?_
 refine o_mkmapS (α := Int) kf_61 3 (RpI .i64) hS (fun b13 w' hS => ?_)
 refine p (yl_assign rfl) <| x_done <| x_seq <| x_region <|
  p (yl_move rfl) <| p (yl_len_slice usl_98 rfl) <| p (yl_move rfl) <| x_done <| ?_
 replace hF := bs_s hF; obtain ⟨oL3, hLL3, hF⟩ := hF
 refine x_join (fun E w => ∃ (q0u : List (T_rules_Fault × Bool)) (q0v : Bool), (Sum.inl (q0u, q0v)) = oL3 ∧ St w0 w (cells q9 103 [.map (some q4), .bool q0v] :: mapA q4 kf_63 Value.bool q0u :: ro ρ :: l)) ?_ ?_
 ·refine x_block ?_
  refine x_loop (fun k_ E w => ∃ (q0l : List (T_rules_Spot × List Int)) (q6 : Int) (q0d : List (T_rules_Fault × Bool)) (q0e : Bool), lp (P_rules_shorts_L3 s2) k_ (q0l, q6, q0d, q0e) = some oL3 ∧ E 0 = .pointer (some ⟨q9, 0, none⟩) ∧ E 6 = .map (some b13) ∧ E 14 = .slice q0t s2.length c_s2 ∧ E 15 = .int .i64 (s2.length : Int) ∧ E 16 = .int .i64 q6 ∧ St w0 w (cells q9 103 [.map (some q4), .bool q0e] :: mapS 3 (RpI .i64) b13 kf_61 q0l :: mapA q4 kf_63 Value.bool q0d :: ro ρ :: l)) fuel ⟨[], 0, q23, q24, hLL3, rfl, rfl, rfl, rfl, rfl, (((((hS.pull 1).drop.pull 3).pull 3).pull 2).pull 3)⟩ ?_
  rintro kL3 E w ⟨q0l, q6, q0d, q0e, hLL3, q2n, q2o, q1r, q1s, q15, hS⟩
  replace hLL3 := lp_s hLL3; obtain ⟨kL3, obL3, rfl, hFL3, hLL3⟩ := hLL3
  refine x_seq <| x_region <| p (yl_lss q15 q1s) <| x_done <|
   x_seq <|
   x_cond_p (q6 < (s2.length : Int)) rfl (fun hc17 => ?_) (fun hc17 => ?_)
  ·replace hFL3 := it_t hc17 hFL3
   replace hFL3 := ck_s hFL3; obtain ⟨q26, hFL3⟩ := hFL3
   replace hFL3 := lv_s hFL3; obtain ⟨q2, q33, hFL3⟩ := hFL3
   have q_ := q25.get q26; obtain ⟨q3f, q27, q34⟩ := q_
   rw [← q33] at q27
   obtain ⟨q0a, q3e, q0b, rfl, q1f⟩ := q27
   have e_ := q1f.n; subst e_
   refine x_skip <| x_seq <| x_block <| x_seq <|
    x_region <| p (yix_f sl_98 q1r q15 q25 q26) <| pa (v := .agg #[.int .i64 q2.fnet, .slice q0a q2.fspots.length q0b, .bool q2.fwire, .int .i64 q2.fpin]) (at_loadAgg agg_122 rfl rfl (Elt.every q34 (hS.pull 3))) <| ?_
   refine o_alloc zero_122 hS (fun b8 w' hS => ?_)
   refine o_storeAgg (news := [.int .i64 q2.fnet, .slice q0a q2.fspots.length q0b, .bool q2.fwire, .int .i64 q2.fpin]) agg_122 rfl rfl rfl (by simp [over_length]) hS (fun w' hS => ?_)
   refine x_done <| x_seq <| x_region <| p (yl_field0 fld_122_1 rfl) <|
    pa (at_load one_120 rfl (hS.cell rfl)) <| p (yl_len_slice usl_120 rfl) <| p (yl_move rfl) <| x_done <| ?_
   replace hFL3 := bs_s hFL3; obtain ⟨oL6, hLL6, hFL3⟩ := hFL3
   refine x_join (fun E w => ∃ (q0q : List (T_rules_Spot × List Int)) (q0m : List (T_rules_Fault × Bool)) (q0n : Bool), (Sum.inl (q0q, q0m, q0n)) = oL6 ∧ E 0 = .pointer (some ⟨q9, 0, none⟩) ∧ E 6 = .map (some b13) ∧ E 14 = .slice q0t s2.length c_s2 ∧ E 15 = .int .i64 (s2.length : Int) ∧ E 16 = .int .i64 q6 ∧ St w0 w (cells q9 103 [.map (some q4), .bool q0n] :: mapS 3 (RpI .i64) b13 kf_61 q0q :: mapA q4 kf_63 Value.bool q0m :: ro ρ :: l)) ?_ ?_
   ·refine x_block ?_
    refine x_loop (fun k_ E w => ∃ (q5 : List (T_rules_Spot × List Int)) (q0g : Int) (q7 : List (T_rules_Fault × Bool)) (q8 : Bool), lp (P_rules_shorts_L6 q2) k_ (q5, q0g, q7, q8) = some oL6 ∧ E 0 = .pointer (some ⟨q9, 0, none⟩) ∧ E 6 = .map (some b13) ∧ E 8 = .pointer (some ⟨b8, 0, none⟩) ∧ E 14 = .slice q0t s2.length c_s2 ∧ E 15 = .int .i64 (s2.length : Int) ∧ E 16 = .int .i64 q6 ∧ E 21 = .slice q0a q2.fspots.length q0b ∧ E 22 = .int .i64 (q2.fspots.length : Int) ∧ E 23 = .int .i64 q0g ∧ St w0 w (cells q9 103 [.map (some q4), .bool q8] :: mapS 3 (RpI .i64) b13 kf_61 q5 :: cells b8 122 [.int .i64 q2.fnet, .slice q0a q2.fspots.length q0b, .bool q2.fwire, .int .i64 q2.fpin] :: mapA q4 kf_63 Value.bool q7 :: ro ρ :: l)) fuel ⟨q0l, 0, q0d, q0e, hLL6, q2n, q2o, rfl, q1r, q1s, q15, rfl, rfl, rfl, (((((hS.pull 4).pull 4).pull 2).pull 4).pull 4)⟩ ?_
    rintro kL6 E w ⟨q5, q0g, q7, q8, hLL6, q1g, q0w, q1h, q16, q17, q18, q19, q1a, q0y, hS⟩
    replace hLL6 := lp_s hLL6; obtain ⟨kL6, obL6, rfl, hFL6, hLL6⟩ := hLL6
    refine x_seq <| x_region <| p (yl_lss q0y q1a) <| x_done <|
     x_seq <|
     x_cond_p (q0g < (q2.fspots.length : Int)) rfl (fun hc24 => ?_) (fun hc24 => ?_)
    ·replace hFL6 := it_t hc24 hFL6
     refine x_skip <| x_seq <| ?_
     replace hFL6 := bs_s hFL6; obtain ⟨ob3, hFb3, hFL6⟩ := hFL6
     refine x_join (fun E w => ∃ (q0r : List (T_rules_Spot × List Int)) (q0o : List (T_rules_Fault × Bool)) (q0p : Bool), (Sum.inl (q0r, q0o, q0p)) = ob3 ∧ E 0 = .pointer (some ⟨q9, 0, none⟩) ∧ E 6 = .map (some b13) ∧ E 8 = .pointer (some ⟨b8, 0, none⟩) ∧ E 14 = .slice q0t s2.length c_s2 ∧ E 15 = .int .i64 (s2.length : Int) ∧ E 16 = .int .i64 q6 ∧ E 21 = .slice q0a q2.fspots.length q0b ∧ E 22 = .int .i64 (q2.fspots.length : Int) ∧ E 23 = .int .i64 q0g ∧ St w0 w (cells q9 103 [.map (some q4), .bool q0p] :: mapS 3 (RpI .i64) b13 kf_61 q0r :: cells b8 122 [.int .i64 q2.fnet, .slice q0a q2.fspots.length q0b, .bool q2.fwire, .int .i64 q2.fpin] :: mapA q4 kf_63 Value.bool q0o :: ro ρ :: l)) ?_ ?_
     ·replace hFb3 := ck_s hFb3; obtain ⟨q28, hFb3⟩ := hFb3
      replace hFb3 := lv_s hFb3; obtain ⟨q3, q35, hFb3⟩ := hFb3
      have q_ := q1f.get q28; obtain ⟨q3g, q29, q36⟩ := q_
      rw [← q35] at q29
      have e_ := q29; subst e_
      refine x_block <| x_seq <| x_region <| p (yix_f sl_120 q19 q0y q1f q28) <|
       pa (v := .agg #[.int .i64 q3.Layer, .int .i64 q3.X, .int .i64 q3.Y]) (at_loadAgg agg_61 rfl rfl (Elt.every q36 (hS.pull 4))) <| ?_
      refine o_alloc zero_61 hS (fun b10 w' hS => ?_)
      refine o_storeAgg (news := [.int .i64 q3.Layer, .int .i64 q3.X, .int .i64 q3.Y]) agg_61 rfl rfl rfl (by simp [over_length]) hS (fun w' hS => ?_)
      refine x_done <| x_seq <| x_seq <| ?_
      replace hFb3 := lv_s hFb3; obtain ⟨q0f, q13, hFb3⟩ := hFb3
      have q_ := St.openS q3 (hS.pull 2); obtain ⟨q14, q3h, q0x, q1y, q0c, hS⟩ := q_
      rw [← q13] at q0c
      replace q0c := q0c ρ
      have e_ := St.vec_n hS q0c; subst e_
      replace hFb3 := bd_s hFb3; obtain ⟨q2p, q37, hFb3⟩ := hFb3
      refine x_still mixed (by kernel_rfl) hS <| q (yl_move q0w) <| qa (v := .agg #[.int .i64 q3.Layer, .int .i64 q3.X, .int .i64 q3.Y]) (fun w' hS => ld_sub agg_61 rfl rfl rfl (hS.pull 2)) <| qa (fun w' hS => at_lookS um_123 kp_61 (zero1 zv_22) rfl rfl (hS.pull 1)) <|
       q (yl_field0 fld_122_0 q1h) <| qa (fun w' hS => at_load one_3 rfl ((hS.pull 4).cell rfl)) <| qcc (v := .bool q2p) call_56 (args2 rfl rfl) (fun w' hS => by
        have q_ := St.lend ((hS.pull 6).pull 1) q0c; obtain ⟨ρl0, hll0, hlf0, hS0, back0⟩ := q_
        have hcall := c_slices_Contains_int_int q37 hlf0 hS0
        exact (Calls.mono hcall (fun e w'' h => And.intro h.1 ((((((((back0 h.2).pull 1).pull 6).pull 6).pull 6).pull 6).pull 6).pull 6)))) <|
       q_done fun w' hS => ?_
      refine x_cond (t := q2p) rfl (fun hc32 => ?_) (fun hc32 => ?_)
      ·replace hFb3 := it_t hc32 hFb3
       refine x_exitTo _ rfl <| ?_
       replace hS := St.closeS q13 (fun _ => RepL.flat (fun h => h) q0c) ((hS.pull 1).pull 1)
       exact x_inv ⟨q5, q7, q8, (sinj hFb3), q1g, q0w, q1h, q16, q17, q18, q19, q1a, q0y, ((((((hS.pull 1).drop.pull 4).pull 4).pull 4).pull 3).pull 4)⟩
      ·replace hFb3 := it_bf hc32 hFb3
       refine x_skip <| x_seq <| x_seq <| x_region <|
        p (yl_move q0w) <| pa (v := .agg #[.int .i64 q3.Layer, .int .i64 q3.X, .int .i64 q3.Y]) (ld_sub agg_61 rfl rfl rfl (hS.pull 2)) <| pa (at_lookS um_123 kp_61 (zero1 zv_22) rfl rfl (hS.pull 1)) <| p (yl_len_slice usl_22 rfl) <|
        p (yl_move rfl) <| x_done <| ?_
       replace hFb3 := bs_s hFb3; obtain ⟨oL10, hLL10, hFb3⟩ := hFb3
       refine x_join (fun E w => ∃ (q0j : List (T_rules_Fault × Bool)) (q0k : Bool), (Sum.inl (q0j, q0k)) = oL10 ∧ E 0 = .pointer (some ⟨q9, 0, none⟩) ∧ E 6 = .map (some b13) ∧ E 8 = .pointer (some ⟨b8, 0, none⟩) ∧ E 10 = .pointer (some ⟨b10, 0, none⟩) ∧ E 14 = .slice q0t s2.length c_s2 ∧ E 15 = .int .i64 (s2.length : Int) ∧ E 16 = .int .i64 q6 ∧ E 21 = .slice q0a q2.fspots.length q0b ∧ E 22 = .int .i64 (q2.fspots.length : Int) ∧ E 23 = .int .i64 q0g ∧ St w0 w (cells q9 103 [.map (some q4), .bool q0k] :: vec 3 (RpI .i64).sz (.slice q14 q0f.length q0x) q0f.length q1y :: holeS 3 (RpI .i64) b13 kf_61 q5 q3 ⟨q14, q0f.length, q0x⟩ :: cells b8 122 [.int .i64 q2.fnet, .slice q0a q2.fspots.length q0b, .bool q2.fwire, .int .i64 q2.fpin] :: cells b10 61 [.int .i64 q3.Layer, .int .i64 q3.X, .int .i64 q3.Y] :: mapA q4 kf_63 Value.bool q0j :: ro ρ :: l)) ?_ ?_
       ·refine x_block ?_
        refine x_loop (fun k_ E w => ∃ (q0s : Int) (q0h : List (T_rules_Fault × Bool)) (q0i : Bool), lp (P_rules_shorts_L10 q2 q3 q0f) k_ (q0s, q0h, q0i) = some oL10 ∧ E 0 = .pointer (some ⟨q9, 0, none⟩) ∧ E 6 = .map (some b13) ∧ E 8 = .pointer (some ⟨b8, 0, none⟩) ∧ E 10 = .pointer (some ⟨b10, 0, none⟩) ∧ E 14 = .slice q0t s2.length c_s2 ∧ E 15 = .int .i64 (s2.length : Int) ∧ E 16 = .int .i64 q6 ∧ E 21 = .slice q0a q2.fspots.length q0b ∧ E 22 = .int .i64 (q2.fspots.length : Int) ∧ E 23 = .int .i64 q0g ∧ E 35 = .slice q14 q0f.length q0x ∧ E 36 = .int .i64 (q0f.length : Int) ∧ E 37 = .int .i64 q0s ∧ St w0 w (cells q9 103 [.map (some q4), .bool q0i] :: vec 3 (RpI .i64).sz (.slice q14 q0f.length q0x) q0f.length q1y :: holeS 3 (RpI .i64) b13 kf_61 q5 q3 ⟨q14, q0f.length, q0x⟩ :: cells b8 122 [.int .i64 q2.fnet, .slice q0a q2.fspots.length q0b, .bool q2.fwire, .int .i64 q2.fpin] :: cells b10 61 [.int .i64 q3.Layer, .int .i64 q3.X, .int .i64 q3.Y] :: mapA q4 kf_63 Value.bool q0h :: ro ρ :: l)) fuel ⟨0, q7, q8, hLL10, q1g, q0w, q1h, rfl, q16, q17, q18, q19, q1a, q0y, rfl, rfl, rfl, (((((((hS.pull 6).pull 6).pull 4).pull 6).pull 5).pull 5).pull 6)⟩ ?_
        rintro kL10 E w ⟨q0s, q0h, q0i, hLL10, q0z, q1t, q10, q11, q1i, q1j, q1k, q1l, q1m, q1n, q1o, q1p, q12, hS⟩
        replace hLL10 := lp_s hLL10; obtain ⟨kL10, obL10, rfl, hFL10, hLL10⟩ := hLL10
        refine x_seq <| x_region <| p (yl_lss q12 q1p) <| x_done <|
         x_seq <|
         x_cond_p (q0s < (q0f.length : Int)) rfl (fun hc38 => ?_) (fun hc38 => ?_)
        ·replace hFL10 := it_t hc38 hFL10
         replace hFL10 := ck_s hFL10; obtain ⟨q1z, hFL10⟩ := hFL10
         replace hFL10 := lv_s hFL10; obtain ⟨x40, hx40, hFL10⟩ := hFL10
         replace hFL10 := lv_s hFL10; obtain ⟨x45, hx45, hFL10⟩ := hFL10
         replace hFL10 := lv_s hFL10; obtain ⟨x49, hx49, hFL10⟩ := hFL10
         replace hFL10 := bd_s hFL10; obtain ⟨q1q, q2a, hFL10⟩ := hFL10
         refine x_skip <| x_seq <| x_block <| x_seq <|
          x_region <| p (yix_o sl_22 q1o q12 (hS.pull 1) q0c q1z) <| pa (at_load one_3 rfl (RepL.getW q0c (hS.pull 1) q1z hx40)) <| p (yl_assign rfl) <|
          x_done <| x_seq <| x_region <| p (yl_move q0z) <|
          p (yl_move rfl) <| p (yl_field0 fld_122_0 q10) <| pa (at_load one_3 rfl ((hS.pull 3).cell rfl)) <| p (ymin' rfl rfl hx45) <|
          p (yl_move rfl) <| p (yl_field0 fld_122_0 q10) <| pa (at_load one_3 rfl ((hS.pull 3).cell rfl)) <| p (ymax' rfl rfl hx49) <|
          pa (v := .agg #[.int .i64 q3.Layer, .int .i64 q3.X, .int .i64 q3.Y]) (ld_sub agg_61 q11 rfl rfl (hS.pull 4)) <| p (v := .agg #[.int .i64 1, .int .i64 x45, .int .i64 x49, .int .i64 q3.Layer, .int .i64 q3.X, .int .i64 q3.Y]) (yl_build bld_63 bldf_63 (parts_eq (pt (va := .int .i64 1) rfl (pt (va := .int .i64 x45) rfl (pt (va := .int .i64 x49) rfl (pt (va := .agg #[.int .i64 q3.Layer, .int .i64 q3.X, .int .i64 q3.Y]) rfl pt0))))) (by kernel_rfl)) <| ?_
         have hcall := c_rules_bag_add q2a  (((hS.pull 6).pull 6).pull 2)
         refine o_cc call_63 (args2 rfl rfl) hcall ?_
         rintro e w' ⟨rfl, hS⟩
         refine ⟨_, rfl, ?_⟩
         refine x_done <| x_seq <| x_region <| p (yl_move q0z) <|
          p (yl_nilCheck rfl) <| p (yl_field0 fld_103_1 rfl) <| pa (at_load one_4 rfl (hS.cell rfl)) <| x_done <|
          x_cond (t := q1q.2) rfl (fun hc56 => ?_) (fun hc56 => ?_)
         ·replace hFL10 := it_t hc56 hFL10
          replace hS := St.closeS q13 (fun _ => RepL.flat (fun h => h) q0c) ((hS.pull 4).pull 4)
          have e_ := sinj hFL10; subst e_
          have e_ := (show _ = oL10 from hLL10); subst e_
          have e_ := sinj hFb3; subst e_
          have e_ := sinj hFL6; subst e_
          have e_ := (show _ = oL6 from hLL6); subst e_
          have e_ := sinj hFL3; subst e_
          have e_ := (show _ = oL3 from hLL3); subst e_
          have e_ := sinj hF; subst e_
          exact x_return ⟨_, rfl, rfl, (((((hS.drop.pull 3).drop.pull 3).drop.pull 2).pull 2).pull 2)⟩
         ·replace hFL10 := it_bf hc56 hFL10
          replace hFL10 := ar_s hFL10; obtain ⟨x57, hx57, hFL10⟩ := hFL10
          refine x_skip <| x_blk <| x_region <| p (yadd q12 rfl hx57) <|
           p (yl_move rfl) <| x_done <| ?_
          have e_ := sinj hFL10; subst e_
          exact x_inv ⟨kL10, Nat.lt_succ_self _, x57, q1q.1, q1q.2, hLL10, q0z, q1t, q10, q11, q1i, q1j, q1k, q1l, q1m, q1n, q1o, q1p, rfl, (((((((hS.pull 2).pull 2).pull 6).pull 6).pull 6).pull 6).pull 6)⟩
        ·replace hFL10 := it_f hc38 hFL10
         refine x_exitTo _ rfl <| ?_
         have e_ := sinj hFL10; subst e_
         exact x_inv ⟨q0h, q0i, hLL10, q0z, q1t, q10, q11, q1i, q1j, q1k, q1l, q1m, q1n, (((((((hS.pull 6).pull 6).pull 6).pull 6).pull 6).pull 6).pull 6)⟩
       rintro E w ⟨q0j, q0k, rfl, q2q, q20, q21, q2b, q2c, q2d, q2e, q2f, q2g, q2h, hS⟩
       refine x_region <| p (yl_move q20) <| pa (v := .agg #[.int .i64 q3.Layer, .int .i64 q3.X, .int .i64 q3.Y]) (ld_sub agg_61 q2b rfl rfl (hS.pull 4)) <| p (yl_field0 fld_122_0 q21) <|
        pa (at_load one_3 rfl ((hS.pull 3).cell rfl)) <| ?_
       refine o_buildSlice (vs := [.int .i64 q2.fnet]) (cs := [.int .i64 q2.fnet]) sl_22 zero_3 (parts_eq (pt (va := .int .i64 q2.fnet) rfl pt0)) rfl (by intro v hv; simp only [List.mem_cons, List.not_mem_nil, or_false] at hv; first | (subst hv; rfl) | (rcases hv with rfl <;> rfl)) (by decide) rfl hS (fun b63 w' hS => ?_)
       replace hFb3 := lv_s hFb3; obtain ⟨q3i, q22, hFb3⟩ := hFb3
       refine o_mapEntryS (k := q3) um_123 kp_61 (zero1 zv_22) rfl rfl (hS.pull 3) (q22.trans (congrArg (fun q_ => mput q3 q_ q5) q13)) (fun w' hS => ?_)
       refine p (yl_extract rfl rfl) <| ?_
       replace hFb3 := lv_s hFb3; obtain ⟨q3j, q2r, hFb3⟩ := hFb3
       replace hFb3 := ck_s hFb3; obtain ⟨q2s, hFb3⟩ := hFb3
       refine o_ap sl_22 zero_3 rfl (by decide) rfl rfl (hS.pull 3) q0c (src_blk usl_22 (hS.pull 1) rfl rfl) (RepL.cons (R := (RpI .i64)) (ρ := ρ) (x := q2.fnet) (cs := [.int .i64 q2.fnet]) rfl RepL.nil) q2r q2s (fun A65 c65 cs65 w' hr65 hS => ?_)
       refine p (yl_extract rfl rfl) <| ?_
       replace hFb3 := lv_s hFb3; obtain ⟨q38, q2t, hFb3⟩ := hFb3
       refine o_entryStoreS (k := q3) (es := q5) (v0 := q0f) rfl rfl rfl rfl q22 (fun _ => RepL.flat (fun h => h) hr65) ((hS.pull 1).pull 1) q2t (fun w' hS => ?_)
       refine x_done <| x_blk <| ?_
       exact x_inv ⟨q38, q0j, q0k, (sinj hFb3), q2q, q20, q21, q2c, q2d, q2e, q2f, q2g, q2h, (((((((hS.pull 1).drop.pull 3).drop.pull 4).pull 4).pull 4).pull 3).pull 4)⟩
     rintro E w ⟨q0r, q0o, q0p, rfl, q39, q3a, q3b, q2u, q2v, q2w, q2x, q2y, q2z, hS⟩
     replace hFL6 := ar_s hFL6; obtain ⟨x67, hx67, hFL6⟩ := hFL6
     refine x_region <| p (yadd q2z rfl hx67) <| p (yl_move rfl) <| x_done <| ?_
     have e_ := sinj hFL6; subst e_
     exact x_inv ⟨kL6, Nat.lt_succ_self _, q0r, x67, q0o, q0p, hLL6, q39, q3a, q3b, q2u, q2v, q2w, q2x, q2y, rfl, (((((hS.pull 4).pull 4).pull 4).pull 4).pull 4)⟩
    ·replace hFL6 := it_f hc24 hFL6
     refine x_exitTo _ rfl <| ?_
     have e_ := sinj hFL6; subst e_
     exact x_inv ⟨q5, q7, q8, hLL6, q1g, q0w, q16, q17, q18, (((((hS.pull 2).drop.pull 3).pull 3).pull 3).pull 3)⟩
   rintro E w ⟨q0q, q0m, q0n, rfl, q3c, q3d, q30, q31, q32, hS⟩
   replace hFL3 := ar_s hFL3; obtain ⟨x68, hx68, hFL3⟩ := hFL3
   refine x_blk <| x_region <| p (yadd q32 rfl hx68) <| p (yl_move rfl) <|
    x_done <| ?_
   have e_ := sinj hFL3; subst e_
   exact x_inv ⟨kL3, Nat.lt_succ_self _, q0q, x68, q0m, q0n, hLL3, q3c, q3d, q30, q31, rfl, ((((hS.pull 3).pull 3).pull 3).pull 3)⟩
  ·replace hFL3 := it_f hc17 hFL3
   refine x_exitTo _ rfl <| ?_
   have e_ := sinj hFL3; subst e_
   exact x_inv ⟨q0d, q0e, hLL3, ((((hS.pull 1).drop.pull 2).pull 2).pull 2)⟩
 rintro E w ⟨q0u, q0v, rfl, hS⟩
 have e_ := sinj hF; subst e_
 exact x_fin ⟨_, rfl, rfl, (((hS.pull 2).pull 2).pull 2)⟩
attribute [irreducible] P_rules_shorts

def P_rules_walled_L8 (l_1 : T_rules_Layout) (q0c : T_rules_shape) (q6 : T_rules_Spot) : (Int × List (T_rules_Fault × Bool) × Bool) → Option ((Int × List (T_rules_Fault × Bool) × Bool) ⊕ (List (T_rules_Fault × Bool) × Bool)) := fun (q4, q2, q3) =>
 if q4 < (l_1.Walls.length : Int) then
  ck (inb q4 l_1.Walls.length) <|
  lv (gt l_1.Walls q4) fun q5 =>
  bd (gd (decide (q6.Layer = q5.Layer)) (P_rules_within q6.X q5.X0 q5.X1)) fun q0a =>
  lv ((decide (q6.Layer = q5.Layer)) && q0a) fun x45 =>
  bd (gd (x45) (P_rules_within q6.Y q5.Y0 q5.Y1)) fun q0b =>
  lv (x45 && q0b) fun x54 =>
  bd (
   if x54 = true then
    bd (P_rules_bag_add q2 q3 (T_rules_Fault.mk 2 q0c.fnet 0 q6)) fun q9 =>
    some (q9.1, q9.2)
   else
    some (q2, q3)) fun (q7, q8) =>
  ar (q4 + 1) fun x61 =>
  some (Sum.inl (x61, q7, q8))
 else
  some (Sum.inr (q2, q3))
def P_rules_walled_L5 (l_1 : T_rules_Layout) (q5 : T_rules_shape) : (Int × List (T_rules_Fault × Bool) × Bool) → Option ((Int × List (T_rules_Fault × Bool) × Bool) ⊕ (List (T_rules_Fault × Bool) × Bool)) := fun (q2, q3, q4) =>
 if q2 < (q5.fspots.length : Int) then
  ck (inb q2 q5.fspots.length) <|
  lv (gt q5.fspots q2) fun q8 =>
  bd (
   lp (P_rules_walled_L8 l_1 q5 q8) fuel (0, q3, q4)) fun (q6, q7) =>
  ar (q2 + 1) fun x62 =>
  some (Sum.inl (x62, q6, q7))
 else
  some (Sum.inr (q3, q4))
def P_rules_walled_L2 (l_1 : T_rules_Layout) (s2 : List T_rules_shape) : (Int × List (T_rules_Fault × Bool) × Bool) → Option ((Int × List (T_rules_Fault × Bool) × Bool) ⊕ (List (T_rules_Fault × Bool) × Bool)) := fun (q2, q3, q4) =>
 if q2 < (s2.length : Int) then
  ck (inb q2 s2.length) <|
  lv (gt s2 q2) fun q7 =>
  bd (
   lp (P_rules_walled_L5 l_1 q7) fuel (0, q3, q4)) fun (q5, q6) =>
  ar (q2 + 1) fun x63 =>
  some (Sum.inl (x63, q5, q6))
 else
  some (Sum.inr (q3, q4))
def P_rules_walled (q4 : List (T_rules_Fault × Bool)) (q5 : Bool) (l_1 : T_rules_Layout) (s2 : List T_rules_shape) : Option (List (T_rules_Fault × Bool) × Bool) :=
 bd (
  lp (P_rules_walled_L2 l_1 s2) fuel (0, q4, q5)) fun (q2, q3) =>
 some (q2, q3)
theorem c_rules_walled {w0 w : World} {l : List Assn} {ρ : Heap} {q0b : Nat} {q4 : Nat} {q7 : Option Addr} {q1d : Nat} {c_l_1_4 : Nat} {q8 : Option Addr} {q1e : Nat} {c_l_1_5 : Nat} {q9 : Option Addr} {q1f : Nat} {c_l_1_6 : Nat} {q6 : Option Addr} {q1g : Nat} {c_l_1_7 : Nat} {q0t : Option Addr} {q2d : Nat} {c_s2 : Nat} {q1p : List (T_rules_Fault × Bool)} {q1q : Bool} {l_1 : T_rules_Layout} {s2 : List T_rules_shape} {r : (List (T_rules_Fault × Bool) × Bool)} (hF : P_rules_walled q1p q1q l_1 s2 = some r) (q1z : RdS R_rules_Wire ρ q7 q1d c_l_1_4 l_1.Wires) (q20 : RdS R_rules_Via ρ q8 q1e c_l_1_5 l_1.Vias) (q21 : RdS R_rules_Pin ρ q9 q1f c_l_1_6 l_1.Pins) (q0z : RdS R_floor_Wall ρ q6 q1g c_l_1_7 l_1.Walls) (q1r : RdS R_rules_shape ρ q0t q2d c_s2 s2) (hS : St w0 w (cells q0b 103 [.map (some q4), .bool q1q] :: mapA q4 kf_63 Value.bool q1p :: ro ρ :: l)) :
  Calls Try.prog 47 #[.pointer (some ⟨q0b, 0, none⟩), .agg #[.int .i64 l_1.W, .int .i64 l_1.H, .int .i64 l_1.Layers, .int .i64 l_1.Nets, .slice q7 q1d c_l_1_4, .slice q8 q1e c_l_1_5, .slice q9 q1f c_l_1_6, .slice q6 q1g c_l_1_7], .slice q0t q2d c_s2] w fun e w' => e = .returned (.tuple #[]) ∧ St w0 w' (cells q0b 103 [.map (some q4), .bool r.2] :: mapA q4 kf_63 Value.bool r.1 :: ro ρ :: l) := by
 have e_ := q1z.n; subst e_
 have e_ := q20.n; subst e_
 have e_ := q21.n; subst e_
 have e_ := q0z.n; subst e_
 have e_ := q1r.n; subst e_
 refine enterC Try.func47 rfl 64 rfl (by simp) ?_
 refine x_seq <| x_region <| ?_
 refine o_box (cs := [.int .i64 l_1.W, .int .i64 l_1.H, .int .i64 l_1.Layers, .int .i64 l_1.Nets, .slice q7 l_1.Wires.length c_l_1_4, .slice q8 l_1.Vias.length c_l_1_5, .slice q9 l_1.Pins.length c_l_1_6, .slice q6 l_1.Walls.length c_l_1_7]) rfl rfl hS (fun b4 w' hS => ?_)
 refine x_done <| x_seq <| x_region <| p (yl_move rfl) <|
  p (yl_len_slice usl_98 rfl) <| p (yl_move rfl) <| x_done <| ?_
 replace hF := bd_s hF; obtain ⟨oL2, hLL2, hF⟩ := hF
 refine x_join (fun E w => ∃ (q0u : List (T_rules_Fault × Bool)) (q0v : Bool), (q0u, q0v) = oL2 ∧ St w0 w (cells q0b 103 [.map (some q4), .bool q0v] :: mapA q4 kf_63 Value.bool q0u :: ro ρ :: l)) ?_ ?_
 ·refine x_block ?_
  refine x_loop (fun k_ E w => ∃ (q0a : Int) (q0e : List (T_rules_Fault × Bool)) (q0f : Bool), lp (P_rules_walled_L2 l_1 s2) k_ (q0a, q0e, q0f) = some oL2 ∧ E 0 = .pointer (some ⟨q0b, 0, none⟩) ∧ E 4 = .pointer (some ⟨b4, 0, none⟩) ∧ E 12 = .slice q0t s2.length c_s2 ∧ E 13 = .int .i64 (s2.length : Int) ∧ E 14 = .int .i64 q0a ∧ St w0 w (cells q0b 103 [.map (some q4), .bool q0f] :: cells b4 31 [.int .i64 l_1.W, .int .i64 l_1.H, .int .i64 l_1.Layers, .int .i64 l_1.Nets, .slice q7 l_1.Wires.length c_l_1_4, .slice q8 l_1.Vias.length c_l_1_5, .slice q9 l_1.Pins.length c_l_1_6, .slice q6 l_1.Walls.length c_l_1_7] :: mapA q4 kf_63 Value.bool q0e :: ro ρ :: l)) fuel ⟨0, q1p, q1q, hLL2, rfl, rfl, rfl, rfl, rfl, ((((hS.pull 3).pull 3).pull 2).pull 3)⟩ ?_
  rintro kL2 E w ⟨q0a, q0e, q0f, hLL2, q2e, q2f, q1h, q1i, q10, hS⟩
  replace hLL2 := lp_s hLL2; obtain ⟨kL2, obL2, rfl, hFL2, hLL2⟩ := hLL2
  refine x_seq <| x_region <| p (yl_lss q10 q1i) <| x_done <|
   x_seq <|
   x_cond_p (q0a < (s2.length : Int)) rfl (fun hc15 => ?_) (fun hc15 => ?_)
  ·replace hFL2 := it_t hc15 hFL2
   replace hFL2 := ck_s hFL2; obtain ⟨q1s, hFL2⟩ := hFL2
   replace hFL2 := lv_s hFL2; obtain ⟨q2, q2x, hFL2⟩ := hFL2
   have q_ := q1r.get q1s; obtain ⟨q39, q1t, q2y⟩ := q_
   rw [← q2x] at q1t
   obtain ⟨q0c, q38, q0d, rfl, q1a⟩ := q1t
   have e_ := q1a.n; subst e_
   refine x_skip <| x_seq <| x_block <| x_seq <|
    x_region <| p (yix_f sl_98 q1h q10 q1r q1s) <| pa (v := .agg #[.int .i64 q2.fnet, .slice q0c q2.fspots.length q0d, .bool q2.fwire, .int .i64 q2.fpin]) (at_loadAgg agg_122 rfl rfl (Elt.every q2y (hS.pull 3))) <| ?_
   refine o_alloc zero_122 hS (fun b7 w' hS => ?_)
   refine o_storeAgg (news := [.int .i64 q2.fnet, .slice q0c q2.fspots.length q0d, .bool q2.fwire, .int .i64 q2.fpin]) agg_122 rfl rfl rfl (by simp [over_length]) hS (fun w' hS => ?_)
   refine x_done <| x_seq <| x_region <| p (yl_field0 fld_122_1 rfl) <|
    pa (at_load one_120 rfl (hS.cell rfl)) <| p (yl_len_slice usl_120 rfl) <| p (yl_move rfl) <| x_done <| ?_
   replace hFL2 := bd_s hFL2; obtain ⟨oL5, hLL5, hFL2⟩ := hFL2
   refine x_join (fun E w => ∃ (q0n : List (T_rules_Fault × Bool)) (q0o : Bool), (q0n, q0o) = oL5 ∧ E 0 = .pointer (some ⟨q0b, 0, none⟩) ∧ E 4 = .pointer (some ⟨b4, 0, none⟩) ∧ E 12 = .slice q0t s2.length c_s2 ∧ E 13 = .int .i64 (s2.length : Int) ∧ E 14 = .int .i64 q0a ∧ St w0 w (cells q0b 103 [.map (some q4), .bool q0o] :: cells b4 31 [.int .i64 l_1.W, .int .i64 l_1.H, .int .i64 l_1.Layers, .int .i64 l_1.Nets, .slice q7 l_1.Wires.length c_l_1_4, .slice q8 l_1.Vias.length c_l_1_5, .slice q9 l_1.Pins.length c_l_1_6, .slice q6 l_1.Walls.length c_l_1_7] :: mapA q4 kf_63 Value.bool q0n :: ro ρ :: l)) ?_ ?_
   ·refine x_block ?_
    refine x_loop (fun k_ E w => ∃ (q0k : Int) (q0g : List (T_rules_Fault × Bool)) (q0h : Bool), lp (P_rules_walled_L5 l_1 q2) k_ (q0k, q0g, q0h) = some oL5 ∧ E 0 = .pointer (some ⟨q0b, 0, none⟩) ∧ E 4 = .pointer (some ⟨b4, 0, none⟩) ∧ E 7 = .pointer (some ⟨b7, 0, none⟩) ∧ E 12 = .slice q0t s2.length c_s2 ∧ E 13 = .int .i64 (s2.length : Int) ∧ E 14 = .int .i64 q0a ∧ E 19 = .slice q0c q2.fspots.length q0d ∧ E 20 = .int .i64 (q2.fspots.length : Int) ∧ E 21 = .int .i64 q0k ∧ St w0 w (cells q0b 103 [.map (some q4), .bool q0h] :: cells b4 31 [.int .i64 l_1.W, .int .i64 l_1.H, .int .i64 l_1.Layers, .int .i64 l_1.Nets, .slice q7 l_1.Wires.length c_l_1_4, .slice q8 l_1.Vias.length c_l_1_5, .slice q9 l_1.Pins.length c_l_1_6, .slice q6 l_1.Walls.length c_l_1_7] :: cells b7 122 [.int .i64 q2.fnet, .slice q0c q2.fspots.length q0d, .bool q2.fwire, .int .i64 q2.fpin] :: mapA q4 kf_63 Value.bool q0g :: ro ρ :: l)) fuel ⟨0, q0e, q0f, hLL5, q2e, q2f, rfl, q1h, q1i, q10, rfl, rfl, rfl, (((((hS.pull 4).pull 4).pull 2).pull 4).pull 4)⟩ ?_
    rintro kL5 E w ⟨q0k, q0g, q0h, hLL5, q1o, q1b, q2g, q1j, q1k, q1l, q1m, q1n, q11, hS⟩
    replace hLL5 := lp_s hLL5; obtain ⟨kL5, obL5, rfl, hFL5, hLL5⟩ := hLL5
    refine x_seq <| x_region <| p (yl_lss q11 q1n) <| x_done <|
     x_seq <|
     x_cond_p (q0k < (q2.fspots.length : Int)) rfl (fun hc22 => ?_) (fun hc22 => ?_)
    ·replace hFL5 := it_t hc22 hFL5
     replace hFL5 := ck_s hFL5; obtain ⟨q1u, hFL5⟩ := hFL5
     replace hFL5 := lv_s hFL5; obtain ⟨q3, q2z, hFL5⟩ := hFL5
     have q_ := q1a.get q1u; obtain ⟨q3a, q1v, q30⟩ := q_
     rw [← q2z] at q1v
     have e_ := q1v; subst e_
     refine x_skip <| x_seq <| x_block <| x_seq <|
      x_region <| p (yix_f sl_120 q1m q11 q1a q1u) <| pa (v := .agg #[.int .i64 q3.Layer, .int .i64 q3.X, .int .i64 q3.Y]) (at_loadAgg agg_61 rfl rfl (Elt.every q30 (hS.pull 4))) <| ?_
     refine o_alloc zero_61 hS (fun b9 w' hS => ?_)
     refine o_storeAgg (news := [.int .i64 q3.Layer, .int .i64 q3.X, .int .i64 q3.Y]) agg_61 rfl rfl rfl (by simp [over_length]) hS (fun w' hS => ?_)
     refine x_done <| x_seq <| x_region <| p (yl_field0 fld_31_7 q1b) <|
      pa (at_load one_29 rfl ((hS.pull 2).cell rfl)) <| p (yl_len_slice usl_29 rfl) <| p (yl_move rfl) <| x_done <| ?_
     replace hFL5 := bd_s hFL5; obtain ⟨oL8, hLL8, hFL5⟩ := hFL5
     refine x_join (fun E w => ∃ (q0p : List (T_rules_Fault × Bool)) (q0q : Bool), (q0p, q0q) = oL8 ∧ E 0 = .pointer (some ⟨q0b, 0, none⟩) ∧ E 4 = .pointer (some ⟨b4, 0, none⟩) ∧ E 7 = .pointer (some ⟨b7, 0, none⟩) ∧ E 12 = .slice q0t s2.length c_s2 ∧ E 13 = .int .i64 (s2.length : Int) ∧ E 14 = .int .i64 q0a ∧ E 19 = .slice q0c q2.fspots.length q0d ∧ E 20 = .int .i64 (q2.fspots.length : Int) ∧ E 21 = .int .i64 q0k ∧ St w0 w (cells q0b 103 [.map (some q4), .bool q0q] :: cells b4 31 [.int .i64 l_1.W, .int .i64 l_1.H, .int .i64 l_1.Layers, .int .i64 l_1.Nets, .slice q7 l_1.Wires.length c_l_1_4, .slice q8 l_1.Vias.length c_l_1_5, .slice q9 l_1.Pins.length c_l_1_6, .slice q6 l_1.Walls.length c_l_1_7] :: cells b7 122 [.int .i64 q2.fnet, .slice q0c q2.fspots.length q0d, .bool q2.fwire, .int .i64 q2.fpin] :: mapA q4 kf_63 Value.bool q0p :: ro ρ :: l)) ?_ ?_
     ·refine x_block ?_
      refine x_loop (fun k_ E w => ∃ (q0r : Int) (q0i : List (T_rules_Fault × Bool)) (q0j : Bool), lp (P_rules_walled_L8 l_1 q2 q3) k_ (q0r, q0i, q0j) = some oL8 ∧ E 0 = .pointer (some ⟨q0b, 0, none⟩) ∧ E 4 = .pointer (some ⟨b4, 0, none⟩) ∧ E 7 = .pointer (some ⟨b7, 0, none⟩) ∧ E 9 = .pointer (some ⟨b9, 0, none⟩) ∧ E 12 = .slice q0t s2.length c_s2 ∧ E 13 = .int .i64 (s2.length : Int) ∧ E 14 = .int .i64 q0a ∧ E 19 = .slice q0c q2.fspots.length q0d ∧ E 20 = .int .i64 (q2.fspots.length : Int) ∧ E 21 = .int .i64 q0k ∧ E 26 = .slice q6 l_1.Walls.length c_l_1_7 ∧ E 27 = .int .i64 (l_1.Walls.length : Int) ∧ E 28 = .int .i64 q0r ∧ St w0 w (cells q0b 103 [.map (some q4), .bool q0j] :: cells b4 31 [.int .i64 l_1.W, .int .i64 l_1.H, .int .i64 l_1.Layers, .int .i64 l_1.Nets, .slice q7 l_1.Wires.length c_l_1_4, .slice q8 l_1.Vias.length c_l_1_5, .slice q9 l_1.Pins.length c_l_1_6, .slice q6 l_1.Walls.length c_l_1_7] :: cells b7 122 [.int .i64 q2.fnet, .slice q0c q2.fspots.length q0d, .bool q2.fwire, .int .i64 q2.fpin] :: cells b9 61 [.int .i64 q3.Layer, .int .i64 q3.X, .int .i64 q3.Y] :: mapA q4 kf_63 Value.bool q0i :: ro ρ :: l)) fuel ⟨0, q0g, q0h, hLL8, q1o, q1b, q2g, rfl, q1j, q1k, q1l, q1m, q1n, q11, rfl, rfl, rfl, ((((((hS.pull 5).pull 5).pull 2).pull 5).pull 5).pull 5)⟩ ?_
      rintro kL8 E w ⟨q0r, q0i, q0j, hLL8, q0x, q1c, q0y, q0s, q12, q13, q14, q15, q16, q17, q18, q19, q0w, hS⟩
      replace hLL8 := lp_s hLL8; obtain ⟨kL8, obL8, rfl, hFL8, hLL8⟩ := hLL8
      refine x_seq <| x_region <| p (yl_lss q0w q19) <| x_done <|
       x_seq <|
       x_cond_p (q0r < (l_1.Walls.length : Int)) rfl (fun hc29 => ?_) (fun hc29 => ?_)
      ·replace hFL8 := it_t hc29 hFL8
       replace hFL8 := ck_s hFL8; obtain ⟨q1w, hFL8⟩ := hFL8
       replace hFL8 := lv_s hFL8; obtain ⟨q5, q31, hFL8⟩ := hFL8
       have q_ := q0z.get q1w; obtain ⟨q3b, q1x, q32⟩ := q_
       rw [← q31] at q1x
       have e_ := q1x; subst e_
       refine x_skip <| x_seq <| x_block <| x_seq <|
        x_region <| p (yix_f sl_29 q18 q0w q0z q1w) <| pa (v := .agg #[.int .i64 q5.Layer, .int .i64 q5.X0, .int .i64 q5.Y0, .int .i64 q5.X1, .int .i64 q5.Y1]) (at_loadAgg agg_66 rfl rfl (Elt.every q32 (hS.pull 5))) <| ?_
       refine o_alloc zero_66 hS (fun b11 w' hS => ?_)
       refine o_storeAgg (news := [.int .i64 q5.Layer, .int .i64 q5.X0, .int .i64 q5.Y0, .int .i64 q5.X1, .int .i64 q5.Y1]) agg_66 rfl rfl rfl (by simp [over_length]) hS (fun w' hS => ?_)
       replace hFL8 := bd_s hFL8; obtain ⟨q2h, q22, hFL8⟩ := hFL8
       refine x_done <| x_seq <| x_region <| p (yl_field0 fld_61_0 q0s) <|
        pa (at_load one_3 rfl ((hS.pull 4).cell rfl)) <| p (yl_field0 fld_66_0 rfl) <| pa (at_load one_3 rfl (hS.cell rfl)) <| p (yl_eql rfl rfl) <|
        p (yl_move rfl) <| pg (v := .pointer (some ⟨b9, 1, none⟩)) 37 (c := decide (q3.Layer = q5.Layer)) (says_t _) (fun hq => Yl.at (yl_field0 fld_61_1 q0s)) <| pg (v := .int .i64 q3.X) 37 (c := decide (q3.Layer = q5.Layer)) (says_t _) (fun hq => at_load one_3 (cv hq) ((hS.pull 4).cell rfl)) <| pg (v := .pointer (some ⟨b11, 1, none⟩)) 37 (c := decide (q3.Layer = q5.Layer)) (says_t _) (fun hq => Yl.at (yl_field0 fld_66_1 rfl)) <|
        pg (v := .int .i64 q5.X0) 37 (c := decide (q3.Layer = q5.Layer)) (says_t _) (fun hq => at_load one_3 (cv hq) (hS.cell rfl)) <| pg (v := .pointer (some ⟨b11, 3, none⟩)) 37 (c := decide (q3.Layer = q5.Layer)) (says_t _) (fun hq => Yl.at (yl_field0 fld_66_3 rfl)) <| pg (v := .int .i64 q5.X1) 37 (c := decide (q3.Layer = q5.Layer)) (says_t _) (fun hq => at_load one_3 (cv hq) (hS.cell rfl)) <|
        pccg (v := .bool q2h) 37 (c := decide (q3.Layer = q5.Layer)) (says_t _) call_61 (fun hq => (args3 (cv hq) (cv hq) (cv hq))) hS (fun hq => by
         have hcall := c_rules_within (gd_t q22 hq)  (hS.pull 6)
         exact (Calls.mono hcall (fun e w'' h => And.intro h.1 ((((((h.2.pull 6).pull 6).pull 6).pull 6).pull 6).pull 6)))) (fun w' hS => ?_)
       replace hFL8 := lv_s hFL8; obtain ⟨x45, hx45, hFL8⟩ := hFL8
       replace hFL8 := bd_s hFL8; obtain ⟨q2i, q23, hFL8⟩ := hFL8
       refine p (yand' rfl (fun hc => (cv hc)) rfl hx45) <| p (yl_move rfl) <| pg (v := .pointer (some ⟨b9, 2, none⟩)) 46 (c := x45) (says_t _) (fun hq => Yl.at (yl_field0 fld_61_2 q0s)) <| pg (v := .int .i64 q3.Y) 46 (c := x45) (says_t _) (fun hq => at_load one_3 (cv hq) ((hS.pull 4).cell rfl)) <|
        pg (v := .pointer (some ⟨b11, 2, none⟩)) 46 (c := x45) (says_t _) (fun hq => Yl.at (yl_field0 fld_66_2 rfl)) <| pg (v := .int .i64 q5.Y0) 46 (c := x45) (says_t _) (fun hq => at_load one_3 (cv hq) (hS.cell rfl)) <| pg (v := .pointer (some ⟨b11, 4, none⟩)) 46 (c := x45) (says_t _) (fun hq => Yl.at (yl_field0 fld_66_4 rfl)) <| pg (v := .int .i64 q5.Y1) 46 (c := x45) (says_t _) (fun hq => at_load one_3 (cv hq) (hS.cell rfl)) <|
        pccg (v := .bool q2i) 46 (c := x45) (says_t _) call_61 (fun hq => (args3 (cv hq) (cv hq) (cv hq))) hS (fun hq => by
         have hcall := c_rules_within (gd_t q23 hq)  (hS.pull 6)
         exact (Calls.mono hcall (fun e w'' h => And.intro h.1 ((((((h.2.pull 6).pull 6).pull 6).pull 6).pull 6).pull 6)))) (fun w' hS => ?_)
       replace hFL8 := lv_s hFL8; obtain ⟨x54, hx54, hFL8⟩ := hFL8
       refine p (yand' rfl (fun hc => (cv hc)) rfl hx54) <| x_done <| ?_
       replace hFL8 := bd_s hFL8; obtain ⟨oc54, hFc54, hFL8⟩ := hFL8
       refine x_join (fun E w => ∃ (q0l : List (T_rules_Fault × Bool)) (q0m : Bool), (q0l, q0m) = oc54 ∧ E 0 = .pointer (some ⟨q0b, 0, none⟩) ∧ E 4 = .pointer (some ⟨b4, 0, none⟩) ∧ E 7 = .pointer (some ⟨b7, 0, none⟩) ∧ E 9 = .pointer (some ⟨b9, 0, none⟩) ∧ E 12 = .slice q0t s2.length c_s2 ∧ E 13 = .int .i64 (s2.length : Int) ∧ E 14 = .int .i64 q0a ∧ E 19 = .slice q0c q2.fspots.length q0d ∧ E 20 = .int .i64 (q2.fspots.length : Int) ∧ E 21 = .int .i64 q0k ∧ E 26 = .slice q6 l_1.Walls.length c_l_1_7 ∧ E 27 = .int .i64 (l_1.Walls.length : Int) ∧ E 28 = .int .i64 q0r ∧ St w0 w (cells q0b 103 [.map (some q4), .bool q0m] :: cells b4 31 [.int .i64 l_1.W, .int .i64 l_1.H, .int .i64 l_1.Layers, .int .i64 l_1.Nets, .slice q7 l_1.Wires.length c_l_1_4, .slice q8 l_1.Vias.length c_l_1_5, .slice q9 l_1.Pins.length c_l_1_6, .slice q6 l_1.Walls.length c_l_1_7] :: cells b7 122 [.int .i64 q2.fnet, .slice q0c q2.fspots.length q0d, .bool q2.fwire, .int .i64 q2.fpin] :: cells b9 61 [.int .i64 q3.Layer, .int .i64 q3.X, .int .i64 q3.Y] :: mapA q4 kf_63 Value.bool q0l :: ro ρ :: l)) ?_ ?_
       ·refine x_cond (t := x54) rfl (fun hc54 => ?_) (fun hc54 => ?_)
        ·replace hFc54 := it_t hc54 hFc54
         replace hFc54 := bd_s hFc54; obtain ⟨q1y, q2j, hFc54⟩ := hFc54
         refine x_region <| p (yl_move q0x) <| p (yl_field0 fld_122_0 q0y) <| pa (at_load one_3 rfl ((hS.pull 3).cell rfl)) <|
          pa (v := .agg #[.int .i64 q3.Layer, .int .i64 q3.X, .int .i64 q3.Y]) (ld_sub agg_61 q0s rfl rfl (hS.pull 4)) <| p (v := .agg #[.int .i64 2, .int .i64 q2.fnet, .int .i64 0, .int .i64 q3.Layer, .int .i64 q3.X, .int .i64 q3.Y]) (yl_build bld_63 bldf_63 (parts_eq (pt (va := .int .i64 2) rfl (pt (va := .int .i64 q2.fnet) rfl (pt (va := .int .i64 0) rfl (pt (va := .agg #[.int .i64 q3.Layer, .int .i64 q3.X, .int .i64 q3.Y]) rfl pt0))))) (by kernel_rfl)) <| ?_
         have hcall := c_rules_bag_add q2j  (((hS.pull 6).pull 6).pull 3)
         refine o_cc call_63 (args2 rfl rfl) hcall ?_
         rintro e w' ⟨rfl, hS⟩
         refine ⟨_, rfl, ?_⟩
         refine x_done <| ?_
         exact x_inv ⟨q1y.1, q1y.2, (sinj hFc54), q0x, q1c, q0y, q0s, q12, q13, q14, q15, q16, q17, q18, q19, q0w, (((((((hS.pull 3).drop.pull 2).pull 2).pull 5).pull 5).pull 5).pull 5)⟩
        ·replace hFc54 := it_bf hc54 hFc54
         refine x_skip <| ?_
         exact x_inv ⟨q0i, q0j, (sinj hFc54), q0x, q1c, q0y, q0s, q12, q13, q14, q15, q16, q17, q18, q19, q0w, ((((((hS.drop.pull 5).pull 5).pull 5).pull 5).pull 5).pull 5)⟩
       rintro E w ⟨q0l, q0m, rfl, q2k, q2l, q2m, q2n, q24, q25, q26, q27, q28, q29, q2a, q2b, q2c, hS⟩
       replace hFL8 := ar_s hFL8; obtain ⟨x61, hx61, hFL8⟩ := hFL8
       refine x_blk <| x_region <| p (yadd q2c rfl hx61) <| p (yl_move rfl) <|
        x_done <| ?_
       have e_ := sinj hFL8; subst e_
       exact x_inv ⟨kL8, Nat.lt_succ_self _, x61, q0l, q0m, hLL8, q2k, q2l, q2m, q2n, q24, q25, q26, q27, q28, q29, q2a, q2b, rfl, ((((((hS.pull 5).pull 5).pull 5).pull 5).pull 5).pull 5)⟩
      ·replace hFL8 := it_f hc29 hFL8
       refine x_exitTo _ rfl <| ?_
       have e_ := sinj hFL8; subst e_
       exact x_inv ⟨q0i, q0j, hLL8, q0x, q1c, q0y, q12, q13, q14, q15, q16, q17, ((((((hS.pull 3).drop.pull 4).pull 4).pull 4).pull 4).pull 4)⟩
     rintro E w ⟨q0p, q0q, rfl, q33, q34, q35, q2o, q2p, q2q, q2r, q2s, q2t, hS⟩
     replace hFL5 := ar_s hFL5; obtain ⟨x62, hx62, hFL5⟩ := hFL5
     refine x_blk <| x_region <| p (yadd q2t rfl hx62) <| p (yl_move rfl) <|
      x_done <| ?_
     have e_ := sinj hFL5; subst e_
     exact x_inv ⟨kL5, Nat.lt_succ_self _, x62, q0p, q0q, hLL5, q33, q34, q35, q2o, q2p, q2q, q2r, q2s, rfl, (((((hS.pull 4).pull 4).pull 4).pull 4).pull 4)⟩
    ·replace hFL5 := it_f hc22 hFL5
     refine x_exitTo _ rfl <| ?_
     have e_ := sinj hFL5; subst e_
     exact x_inv ⟨q0g, q0h, hLL5, q1o, q1b, q1j, q1k, q1l, (((((hS.pull 2).drop.pull 3).pull 3).pull 3).pull 3)⟩
   rintro E w ⟨q0n, q0o, rfl, q36, q37, q2u, q2v, q2w, hS⟩
   replace hFL2 := ar_s hFL2; obtain ⟨x63, hx63, hFL2⟩ := hFL2
   refine x_blk <| x_region <| p (yadd q2w rfl hx63) <| p (yl_move rfl) <|
    x_done <| ?_
   have e_ := sinj hFL2; subst e_
   exact x_inv ⟨kL2, Nat.lt_succ_self _, x63, q0n, q0o, hLL2, q36, q37, q2u, q2v, rfl, ((((hS.pull 3).pull 3).pull 3).pull 3)⟩
  ·replace hFL2 := it_f hc15 hFL2
   refine x_exitTo _ rfl <| ?_
   have e_ := sinj hFL2; subst e_
   exact x_inv ⟨q0e, q0f, hLL2, ((((hS.pull 1).drop.pull 2).pull 2).pull 2)⟩
 rintro E w ⟨q0u, q0v, rfl, hS⟩
 have e_ := sinj hF; subst e_
 exact x_fin ⟨_, rfl, rfl, (((hS.pull 2).pull 2).pull 2)⟩
attribute [irreducible] P_rules_walled

def P_rules_near_L3 (l_1 : T_rules_Layout) : (List (T_rules_Spot × List Int) × Int) → Nd ((List (T_rules_Spot × List Int) × Int) ⊕ List (T_rules_Spot × List Int)) := fun (q3, q4) =>
 if q4 < (l_1.Vias.length : Int) then
  nck (inb q4 l_1.Vias.length) <|
  nlv (gt l_1.Vias q4) fun q2 =>
  nlv (mget (T_rules_Spot.mk q2.Layer q2.X q2.Y) q3 []) fun q8 =>
  nbd (nof (P_slices_Contains_int_int q8 q2.Net)) fun q9 =>
  nbd (
   if (!q9) = true then
    nlv (mget (T_rules_Spot.mk q2.Layer q2.X q2.Y) q3 []) fun q5 =>
    nlv (mput (T_rules_Spot.mk q2.Layer q2.X q2.Y) q5 q3) fun q0a =>
    nlv (q5 ++ [q2.Net]) fun q7 =>
    nck (apOk 8 q7.length) <|
    nlv (mput (T_rules_Spot.mk q2.Layer q2.X q2.Y) q7 q0a) fun q0b =>
    nret q0b
   else
    nret q3) fun q6 =>
  nar (q4 + 1) fun x49 =>
  nret (Sum.inl (q6, x49))
 else
  nret (Sum.inr q3)
def P_rules_near_L19u4 (e54 : (T_rules_Spot × List Int)) (x84u4 : Int) : (Int × List (T_rules_Fault × Bool) × Bool) → Nd ((Int × List (T_rules_Fault × Bool) × Bool) ⊕ ((List (T_rules_Fault × Bool) × Bool) ⊕ (List (T_rules_Fault × Bool) × Bool))) := fun (q2, q4, q5) =>
 if q2 < (e54.2.length : Int) then
  nck (inb q2 e54.2.length) <|
  nlv (gt e54.2 q2) fun x90u4 =>
  nlv (min x90u4 x84u4) fun x94u4 =>
  nlv (max x90u4 x84u4) fun x97u4 =>
  nbd (nof (P_rules_bag_add q4 q5 (T_rules_Fault.mk 3 x94u4 x97u4 e54.1))) fun q3 =>
  if q3.2 = true then
   nret (Sum.inr (Sum.inr (q3.1, q3.2)))
  else
   nar (q2 + 1) fun x105u4 =>
   nret (Sum.inl (x105u4, q3.1, q3.2))
 else
  nret (Sum.inr (Sum.inl (q4, q5)))
def P_rules_near_L16u4 (e54 : (T_rules_Spot × List Int)) (q5 : List Int) : (Int × List (T_rules_Fault × Bool) × Bool) → Nd ((Int × List (T_rules_Fault × Bool) × Bool) ⊕ ((List (T_rules_Fault × Bool) × Bool) ⊕ (List (T_rules_Fault × Bool) × Bool))) := fun (q2, q3, q4) =>
 if q2 < (q5.length : Int) then
  nck (inb q2 q5.length) <|
  nlv (gt q5 q2) fun x84u4 =>
  nbs (
   nlp (P_rules_near_L19u4 e54 x84u4) fuel (0, q3, q4)) (fun y => nret (Sum.inr (Sum.inr y))) fun (q6, q7) =>
  nar (q2 + 1) fun x106u4 =>
  nret (Sum.inl (x106u4, q6, q7))
 else
  nret (Sum.inr (Sum.inl (q3, q4)))
def P_rules_near_L19u3 (e54 : (T_rules_Spot × List Int)) (x84u3 : Int) : (Int × List (T_rules_Fault × Bool) × Bool) → Nd ((Int × List (T_rules_Fault × Bool) × Bool) ⊕ ((List (T_rules_Fault × Bool) × Bool) ⊕ (List (T_rules_Fault × Bool) × Bool))) := fun (q2, q4, q5) =>
 if q2 < (e54.2.length : Int) then
  nck (inb q2 e54.2.length) <|
  nlv (gt e54.2 q2) fun x90u3 =>
  nlv (min x90u3 x84u3) fun x94u3 =>
  nlv (max x90u3 x84u3) fun x97u3 =>
  nbd (nof (P_rules_bag_add q4 q5 (T_rules_Fault.mk 3 x94u3 x97u3 e54.1))) fun q3 =>
  if q3.2 = true then
   nret (Sum.inr (Sum.inr (q3.1, q3.2)))
  else
   nar (q2 + 1) fun x105u3 =>
   nret (Sum.inl (x105u3, q3.1, q3.2))
 else
  nret (Sum.inr (Sum.inl (q4, q5)))
def P_rules_near_L16u3 (e54 : (T_rules_Spot × List Int)) (q5 : List Int) : (Int × List (T_rules_Fault × Bool) × Bool) → Nd ((Int × List (T_rules_Fault × Bool) × Bool) ⊕ ((List (T_rules_Fault × Bool) × Bool) ⊕ (List (T_rules_Fault × Bool) × Bool))) := fun (q2, q3, q4) =>
 if q2 < (q5.length : Int) then
  nck (inb q2 q5.length) <|
  nlv (gt q5 q2) fun x84u3 =>
  nbs (
   nlp (P_rules_near_L19u3 e54 x84u3) fuel (0, q3, q4)) (fun y => nret (Sum.inr (Sum.inr y))) fun (q6, q7) =>
  nar (q2 + 1) fun x106u3 =>
  nret (Sum.inl (x106u3, q6, q7))
 else
  nret (Sum.inr (Sum.inl (q3, q4)))
def P_rules_near_L19u2 (e54 : (T_rules_Spot × List Int)) (x84u2 : Int) : (Int × List (T_rules_Fault × Bool) × Bool) → Nd ((Int × List (T_rules_Fault × Bool) × Bool) ⊕ ((List (T_rules_Fault × Bool) × Bool) ⊕ (List (T_rules_Fault × Bool) × Bool))) := fun (q2, q4, q5) =>
 if q2 < (e54.2.length : Int) then
  nck (inb q2 e54.2.length) <|
  nlv (gt e54.2 q2) fun x90u2 =>
  nlv (min x90u2 x84u2) fun x94u2 =>
  nlv (max x90u2 x84u2) fun x97u2 =>
  nbd (nof (P_rules_bag_add q4 q5 (T_rules_Fault.mk 3 x94u2 x97u2 e54.1))) fun q3 =>
  if q3.2 = true then
   nret (Sum.inr (Sum.inr (q3.1, q3.2)))
  else
   nar (q2 + 1) fun x105u2 =>
   nret (Sum.inl (x105u2, q3.1, q3.2))
 else
  nret (Sum.inr (Sum.inl (q4, q5)))
def P_rules_near_L16u2 (e54 : (T_rules_Spot × List Int)) (q5 : List Int) : (Int × List (T_rules_Fault × Bool) × Bool) → Nd ((Int × List (T_rules_Fault × Bool) × Bool) ⊕ ((List (T_rules_Fault × Bool) × Bool) ⊕ (List (T_rules_Fault × Bool) × Bool))) := fun (q2, q3, q4) =>
 if q2 < (q5.length : Int) then
  nck (inb q2 q5.length) <|
  nlv (gt q5 q2) fun x84u2 =>
  nbs (
   nlp (P_rules_near_L19u2 e54 x84u2) fuel (0, q3, q4)) (fun y => nret (Sum.inr (Sum.inr y))) fun (q6, q7) =>
  nar (q2 + 1) fun x106u2 =>
  nret (Sum.inl (x106u2, q6, q7))
 else
  nret (Sum.inr (Sum.inl (q3, q4)))
def P_rules_near_L19u1 (e54 : (T_rules_Spot × List Int)) (x84u1 : Int) : (Int × List (T_rules_Fault × Bool) × Bool) → Nd ((Int × List (T_rules_Fault × Bool) × Bool) ⊕ ((List (T_rules_Fault × Bool) × Bool) ⊕ (List (T_rules_Fault × Bool) × Bool))) := fun (q2, q4, q5) =>
 if q2 < (e54.2.length : Int) then
  nck (inb q2 e54.2.length) <|
  nlv (gt e54.2 q2) fun x90u1 =>
  nlv (min x90u1 x84u1) fun x94u1 =>
  nlv (max x90u1 x84u1) fun x97u1 =>
  nbd (nof (P_rules_bag_add q4 q5 (T_rules_Fault.mk 3 x94u1 x97u1 e54.1))) fun q3 =>
  if q3.2 = true then
   nret (Sum.inr (Sum.inr (q3.1, q3.2)))
  else
   nar (q2 + 1) fun x105u1 =>
   nret (Sum.inl (x105u1, q3.1, q3.2))
 else
  nret (Sum.inr (Sum.inl (q4, q5)))
def P_rules_near_L16u1 (e54 : (T_rules_Spot × List Int)) (q5 : List Int) : (Int × List (T_rules_Fault × Bool) × Bool) → Nd ((Int × List (T_rules_Fault × Bool) × Bool) ⊕ ((List (T_rules_Fault × Bool) × Bool) ⊕ (List (T_rules_Fault × Bool) × Bool))) := fun (q2, q3, q4) =>
 if q2 < (q5.length : Int) then
  nck (inb q2 q5.length) <|
  nlv (gt q5 q2) fun x84u1 =>
  nbs (
   nlp (P_rules_near_L19u1 e54 x84u1) fuel (0, q3, q4)) (fun y => nret (Sum.inr (Sum.inr y))) fun (q6, q7) =>
  nar (q2 + 1) fun x106u1 =>
  nret (Sum.inl (x106u1, q6, q7))
 else
  nret (Sum.inr (Sum.inl (q3, q4)))
def P_rules_near_L10 (q2 : List (T_rules_Spot × List Int)) : (List Nat × List (T_rules_Fault × Bool) × Bool) → Nd ((List Nat × List (T_rules_Fault × Bool) × Bool) ⊕ ((List (T_rules_Fault × Bool) × Bool) ⊕ (List (T_rules_Fault × Bool) × Bool))) := fun (q5, q3, q4) =>
 nnx (q2.length) q5 (
  nret (Sum.inr (Sum.inl (q3, q4)))) fun i52 =>
 nlv (gt q2 i52) fun e54 =>
 nar (e54.1.X + 1) fun x72u4 =>
 nar (e54.1.Y + 0) fun x77u4 =>
 nlv (mget (T_rules_Spot.mk e54.1.Layer x72u4 x77u4) q2 []) fun q0e =>
 nbs (
  nlp (P_rules_near_L16u4 e54 q0e) fuel (0, q3, q4)) (fun y => nret (Sum.inr (Sum.inr y))) fun (q6, q7) =>
 nar (e54.1.X + (-1)) fun x72u3 =>
 nar (e54.1.Y + 1) fun x77u3 =>
 nlv (mget (T_rules_Spot.mk e54.1.Layer x72u3 x77u3) q2 []) fun q0f =>
 nbs (
  nlp (P_rules_near_L16u3 e54 q0f) fuel (0, q6, q7)) (fun y => nret (Sum.inr (Sum.inr y))) fun (q8, q9) =>
 nar (e54.1.X + 0) fun x72u2 =>
 nar (e54.1.Y + 1) fun x77u2 =>
 nlv (mget (T_rules_Spot.mk e54.1.Layer x72u2 x77u2) q2 []) fun q0g =>
 nbs (
  nlp (P_rules_near_L16u2 e54 q0g) fuel (0, q8, q9)) (fun y => nret (Sum.inr (Sum.inr y))) fun (q0a, q0b) =>
 nar (e54.1.X + 1) fun x72u1 =>
 nar (e54.1.Y + 1) fun x77u1 =>
 nlv (mget (T_rules_Spot.mk e54.1.Layer x72u1 x77u1) q2 []) fun q0h =>
 nbs (
  nlp (P_rules_near_L16u1 e54 q0h) fuel (0, q0a, q0b)) (fun y => nret (Sum.inr (Sum.inr y))) fun (q0c, q0d) =>
 nret (Sum.inl ((q5 ++ [i52]), q0c, q0d))
def P_rules_near (q5 : List (T_rules_Fault × Bool)) (q6 : Bool) (l_1 : T_rules_Layout) (v2 : List T_rules_shape) : Nd (List (T_rules_Fault × Bool) × Bool) :=
 nbd (
  nlp (P_rules_near_L3 l_1) fuel ([], 0)) fun q4 =>
 nbs (
  nlp (P_rules_near_L10 q4) fuel ([], q5, q6)) (fun y => nret y) fun (q2, q3) =>
 nret (q2, q3)
theorem c_rules_near {w0 w : World} {l : List Assn} {ρ : Heap} {q4 : Nat} {q2 : Nat} {q4u : Option Addr} {q5t : Nat} {c_l_1_4 : Nat} {q1x : Option Addr} {q5u : Nat} {c_l_1_5 : Nat} {q4v : Option Addr} {q5v : Nat} {c_l_1_6 : Nat} {q4w : Option Addr} {q5w : Nat} {c_l_1_7 : Nat} {q88 : Option Addr} {q89 : Nat} {c_v2 : Nat} {q4x : List (T_rules_Fault × Bool)} {q4y : Bool} {l_1 : T_rules_Layout} {v2 : List T_rules_shape} {Q : (List (T_rules_Fault × Bool) × Bool) → Prop} (hF : P_rules_near q4x q4y l_1 v2 Q) (q81 : RdS R_rules_Wire ρ q4u q5t c_l_1_4 l_1.Wires) (q4z : RdS R_rules_Via ρ q1x q5u c_l_1_5 l_1.Vias) (q82 : RdS R_rules_Pin ρ q4v q5v c_l_1_6 l_1.Pins) (q83 : RdS R_floor_Wall ρ q4w q5w c_l_1_7 l_1.Walls) (q8r : RdS R_rules_shape ρ q88 q89 c_v2 v2) (hS : St w0 w (cells q4 103 [.map (some q2), .bool q4y] :: mapA q2 kf_63 Value.bool q4x :: ro ρ :: l)) :
  Calls Try.prog 48 #[.pointer (some ⟨q4, 0, none⟩), .agg #[.int .i64 l_1.W, .int .i64 l_1.H, .int .i64 l_1.Layers, .int .i64 l_1.Nets, .slice q4u q5t c_l_1_4, .slice q1x q5u c_l_1_5, .slice q4v q5v c_l_1_6, .slice q4w q5w c_l_1_7], .slice q88 q89 c_v2] w fun e w' => ∃ r : (List (T_rules_Fault × Bool) × Bool), Q r ∧ e = .returned (.tuple #[]) ∧ St w0 w' (cells q4 103 [.map (some q2), .bool r.2] :: mapA q2 kf_63 Value.bool r.1 :: ro ρ :: l) := by
 have e_ := q81.n; subst e_
 have e_ := q4z.n; subst e_
 have e_ := q82.n; subst e_
 have e_ := q83.n; subst e_
 have e_ := q8r.n; subst e_
 refine enterC Try.func48 rfl 108 rfl (by simp) ?_
 refine x_seq <| x_region <| ?_
 refine o_box (cs := [.int .i64 l_1.W, .int .i64 l_1.H, .int .i64 l_1.Layers, .int .i64 l_1.Nets, .slice q4u l_1.Wires.length c_l_1_4, .slice q1x l_1.Vias.length c_l_1_5, .slice q4v l_1.Pins.length c_l_1_6, .slice q4w l_1.Walls.length c_l_1_7]) rfl rfl hS (fun b4 w' hS => ?_)
 refine x_done <| x_seq <| x_region <| ?_
 refine o_mkmapS (α := Int) kf_61 3 (RpI .i64) hS (fun b18 w' hS => ?_)
 refine p (yl_assign rfl) <| x_done <| x_seq <| x_seq <|
  x_region <| p (yl_field0 fld_31_5 rfl) <| pa (at_load one_27 rfl ((hS.pull 1).cell rfl)) <| p (yl_len_slice usl_27 rfl) <|
  p (yl_move rfl) <| x_done <| ?_
 replace hF := nbd_j hF; obtain ⟨oL3, hLL3, hF⟩ := hF
 refine x_join (fun E w => ∃ (q3 : List (T_rules_Spot × List Int)), oL3 q3 ∧ E 0 = .pointer (some ⟨q4, 0, none⟩) ∧ E 6 = .map (some b18) ∧ St w0 w (cells q4 103 [.map (some q2), .bool q4y] :: mapS 3 (RpI .i64) b18 kf_61 q3 :: mapA q2 kf_63 Value.bool q4x :: ro ρ :: l)) ?_ ?_
 ·refine x_block ?_
  refine x_loop (fun k_ E w => ∃ (q1h : List (T_rules_Spot × List Int)) (q1y : Int), nlp (P_rules_near_L3 l_1) k_ (q1h, q1y) oL3 ∧ E 0 = .pointer (some ⟨q4, 0, none⟩) ∧ E 6 = .map (some b18) ∧ E 20 = .slice q1x l_1.Vias.length c_l_1_5 ∧ E 21 = .int .i64 (l_1.Vias.length : Int) ∧ E 22 = .int .i64 q1y ∧ St w0 w (cells q4 103 [.map (some q2), .bool q4y] :: mapS 3 (RpI .i64) b18 kf_61 q1h :: mapA q2 kf_63 Value.bool q4x :: ro ρ :: l)) fuel ⟨[], 0, hLL3, rfl, rfl, rfl, rfl, rfl, (((((hS.pull 1).drop.pull 3).pull 3).pull 2).pull 3)⟩ ?_
  rintro kL3 E w ⟨q1h, q1y, hLL3, q5h, q31, q50, q51, q33, hS⟩
  replace hLL3 := nlp_s hLL3; obtain ⟨kL3, obL3, rfl, hFL3, hLL3⟩ := hLL3
  refine x_seq <| x_region <| p (yl_lss q33 q51) <| x_done <|
   x_seq <|
   x_cond_p (q1y < (l_1.Vias.length : Int)) rfl (fun hc23 => ?_) (fun hc23 => ?_)
  ·replace hFL3 := nit_t hc23 hFL3
   replace hFL3 := nck_s hFL3; obtain ⟨q7x, hFL3⟩ := hFL3
   replace hFL3 := nlv_s hFL3; obtain ⟨q5, q8e, hFL3⟩ := hFL3
   have q_ := q4z.get q7x; obtain ⟨q91, q7y, q8f⟩ := q_
   rw [← q8e] at q7y
   have e_ := q7y; subst e_
   refine x_skip <| x_seq <| x_block <| x_seq <|
    x_region <| p (yix_f sl_27 q50 q33 q4z q7x) <| pa (v := .agg #[.int .i64 q5.Net, .int .i64 q5.Layer, .int .i64 q5.X, .int .i64 q5.Y]) (at_loadAgg agg_47 rfl rfl (Elt.every q8f (hS.pull 3))) <| ?_
   refine o_alloc zero_47 hS (fun b8 w' hS => ?_)
   refine o_storeAgg (news := [.int .i64 q5.Net, .int .i64 q5.Layer, .int .i64 q5.X, .int .i64 q5.Y]) agg_47 rfl rfl rfl (by simp [over_length]) hS (fun w' hS => ?_)
   refine x_done <| x_seq <| x_region <| p (yl_field0 fld_47_1 rfl) <|
    pa (at_load one_3 rfl (hS.cell rfl)) <| p (yl_field0 fld_47_2 rfl) <| pa (at_load one_3 rfl (hS.cell rfl)) <| p (yl_field0 fld_47_3 rfl) <|
    pa (at_load one_3 rfl (hS.cell rfl)) <| p (v := .agg #[.int .i64 q5.Layer, .int .i64 q5.X, .int .i64 q5.Y]) (yl_build bld_61 bldf_61 (parts_eq (pt (va := .int .i64 q5.Layer) rfl (pt (va := .int .i64 q5.X) rfl (pt (va := .int .i64 q5.Y) rfl pt0)))) (by kernel_rfl)) <| ?_
   refine o_alloc zero_61 hS (fun b9 w' hS => ?_)
   refine o_storeAgg (news := [.int .i64 q5.Layer, .int .i64 q5.X, .int .i64 q5.Y]) agg_61 rfl rfl rfl (by simp [over_length]) hS (fun w' hS => ?_)
   refine x_done <| x_seq <| ?_
   replace hFL3 := nlv_s hFL3; obtain ⟨q92, q5z, hFL3⟩ := hFL3
   have q_ := St.openS (T_rules_Spot.mk q5.Layer q5.X q5.Y) (hS.pull 3); obtain ⟨q93, q94, q8x, q8y, q1z, hS⟩ := q_
   rw [← q5z] at q1z
   replace q1z := q1z ρ
   have e_ := St.vec_n hS q1z; subst e_
   replace hFL3 := nbd_s hFL3; obtain ⟨q8a, q8g, hFL3⟩ := hFL3
   refine x_still mixed (by kernel_rfl) hS <| q (yl_move q31) <| qa (v := .agg #[.int .i64 q5.Layer, .int .i64 q5.X, .int .i64 q5.Y]) (fun w' hS => ld_sub agg_61 rfl rfl rfl (hS.pull 2)) <| qa (fun w' hS => at_lookS um_123 kp_61 (zero1 zv_22) rfl rfl (hS.pull 1)) <|
    q (yl_field0 fld_47_0 rfl) <| qa (fun w' hS => at_load one_3 rfl ((hS.pull 3).cell rfl)) <| qcc (v := .bool q8a) call_56 (args2 rfl rfl) (fun w' hS => by
     have q_ := St.lend ((hS.pull 6).pull 1) q1z; obtain ⟨ρl0, hll0, hlf0, hS0, back0⟩ := q_
     have hcall := c_slices_Contains_int_int q8g hlf0 hS0
     exact (Calls.mono hcall (fun e w'' h => And.intro h.1 ((((((((back0 h.2).pull 1).pull 6).pull 6).pull 6).pull 6).pull 6).pull 6)))) <| q (yl_not rfl) <|
    q_done fun w' hS => ?_
   replace hS := St.closeS q5z (fun _ => RepL.flat (fun h => h) q1z) ((hS.pull 1).pull 1)
   replace hFL3 := nbd_j hFL3; obtain ⟨oc39, hFc39, hFL3⟩ := hFL3
   refine x_join (fun E w => ∃ (q34 : List (T_rules_Spot × List Int)), oc39 q34 ∧ E 0 = .pointer (some ⟨q4, 0, none⟩) ∧ E 6 = .map (some b18) ∧ E 20 = .slice q1x l_1.Vias.length c_l_1_5 ∧ E 21 = .int .i64 (l_1.Vias.length : Int) ∧ E 22 = .int .i64 q1y ∧ St w0 w (cells q4 103 [.map (some q2), .bool q4y] :: mapS 3 (RpI .i64) b18 kf_61 q34 :: mapA q2 kf_63 Value.bool q4x :: ro ρ :: l)) ?_ ?_
   ·refine x_cond (t := !q8a) rfl (fun hc39 => ?_) (fun hc39 => ?_)
    ·replace hFc39 := nit_t hc39 hFc39
     refine x_region <| p (yl_move q31) <| pa (v := .agg #[.int .i64 q5.Layer, .int .i64 q5.X, .int .i64 q5.Y]) (ld_sub agg_61 rfl rfl rfl (hS.pull 1)) <| p (yl_field0 fld_47_0 rfl) <|
      pa (at_load one_3 rfl ((hS.pull 2).cell rfl)) <| ?_
     refine o_buildSlice (vs := [.int .i64 q5.Net]) (cs := [.int .i64 q5.Net]) sl_22 zero_3 (parts_eq (pt (va := .int .i64 q5.Net) rfl pt0)) rfl (by intro v hv; simp only [List.mem_cons, List.not_mem_nil, or_false] at hv; first | (subst hv; rfl) | (rcases hv with rfl <;> rfl)) (by decide) rfl hS (fun b45 w' hS => ?_)
     replace hFc39 := nlv_s hFc39; obtain ⟨q8h, q60, hFc39⟩ := hFc39
     have q_ := St.openS (T_rules_Spot.mk q5.Layer q5.X q5.Y) (hS.pull 1); obtain ⟨q95, q96, q8z, q90, q32, hS⟩ := q_
     rw [← q60] at q32
     replace q32 := q32 ρ
     have e_ := St.vec_n hS q32; subst e_
     replace hFc39 := nlv_s hFc39; obtain ⟨q98, q7z, hFc39⟩ := hFc39
     refine o_mapEntryS (k := (T_rules_Spot.mk q5.Layer q5.X q5.Y)) um_123 kp_61 (zero1 zv_22) rfl rfl (hS.pull 1) (q7z.trans (congrArg (fun q_ => mput (T_rules_Spot.mk q5.Layer q5.X q5.Y) q_ q1h) q60)) (fun w' hS => ?_)
     refine p (yl_extract rfl rfl) <| ?_
     replace hFc39 := nlv_s hFc39; obtain ⟨q99, q8i, hFc39⟩ := hFc39
     replace hFc39 := nck_s hFc39; obtain ⟨q8j, hFc39⟩ := hFc39
     refine o_ap sl_22 zero_3 rfl (by decide) rfl rfl (hS.pull 1) q32 (src_blk usl_22 (hS.pull 2) rfl rfl) (RepL.cons (R := (RpI .i64)) (ρ := ρ) (x := q5.Net) (cs := [.int .i64 q5.Net]) rfl RepL.nil) q8i q8j (fun A47 c47 cs47 w' hr47 hS => ?_)
     refine p (yl_extract rfl rfl) <| ?_
     replace hFc39 := nlv_s hFc39; obtain ⟨q8s, q8k, hFc39⟩ := hFc39
     refine o_entryStoreS (k := (T_rules_Spot.mk q5.Layer q5.X q5.Y)) (es := q1h) (v0 := q8h) rfl rfl rfl rfl q7z (fun _ => RepL.flat (fun h => h) hr47) ((hS.pull 1).pull 1) q8k (fun w' hS => ?_)
     refine x_done <| ?_
     exact x_inv ⟨q8s, hFc39, q5h, q31, q50, q51, q33, (((((((hS.pull 1).drop.pull 1).drop.pull 1).drop.pull 3).pull 3).pull 2).pull 3)⟩
    ·replace hFc39 := nit_bf hc39 hFc39
     refine x_skip <| ?_
     exact x_inv ⟨q1h, hFc39, q5h, q31, q50, q51, q33, ((((((hS.pull 1).drop.pull 1).drop.pull 3).pull 3).pull 2).pull 3)⟩
   rintro E w ⟨q34, hq_, q8b, q8c, q84, q85, q86, hS⟩
   replace hFL3 := hFL3 _ hq_
   clear hq_
   replace hFL3 := nar_s hFL3; obtain ⟨x49, hx49, hFL3⟩ := hFL3
   refine x_blk <| x_region <| p (yadd q86 rfl hx49) <| p (yl_move rfl) <|
    x_done <| ?_
   exact x_inv ⟨kL3, Nat.lt_succ_self _, q34, x49, (hLL3 _ hFL3), q8b, q8c, q84, q85, rfl, ((((hS.pull 3).pull 3).pull 3).pull 3)⟩
  ·replace hFL3 := nit_f hc23 hFL3
   refine x_exitTo _ rfl <| ?_
   exact x_inv ⟨q1h, (hLL3 _ hFL3), q5h, q31, ((((hS.pull 3).pull 3).pull 3).pull 3)⟩
 rintro E w ⟨q3, hq_, q8l, q80, hS⟩
 replace hF := hF _ hq_
 clear hq_
 refine x_seq <| x_region <| p (yl_move q80) <| ?_
 have q_ := St.mapS_fz ((hS.pull 3).pull 2); obtain ⟨q9, q0a, q20, q1p, hS⟩ := q_
 refine o_rangeF um_123 rfl q1p hS (fun b51 w' hS => ?_)
 refine x_done <| ?_
 replace hF := nbs_j hF; obtain ⟨oL10, hLL10, hF⟩ := hF
 refine x_join (fun E w => ∃ (q1j : List (T_rules_Fault × Bool)) (q1k : Bool), oL10 (Sum.inl (q1j, q1k)) ∧ St w0 w (cells q4 103 [.map (some q2), .bool q1k] :: mapA q2 kf_63 Value.bool q1j :: ro q9 :: l)) ?_ ?_
 ·refine x_block ?_
  refine x_loop (fun k_ E w => ∃ (q6 : List Nat) (q0r : List (T_rules_Fault × Bool)) (q0s : Bool), nlp (P_rules_near_L10 q3) k_ (q6, q0r, q0s) oL10 ∧ E 0 = .pointer (some ⟨q4, 0, none⟩) ∧ E 6 = .map (some b18) ∧ E 51 = .pointer (some ⟨b51, 0, none⟩) ∧ St w0 w (cells q4 103 [.map (some q2), .bool q0s] :: mapA b18 kf_61 Hd.v (zipK q3 q0a) :: itA b51 b18 q3.length q6 :: mapA q2 kf_63 Value.bool q0r :: ro q9 :: l)) fuel ⟨[], q4x, q4y, hLL10, q8l, q80, rfl, (((((hS.pull 2).pull 4).pull 2).pull 3).pull 4)⟩ ?_
  rintro kL10 E w ⟨q6, q0r, q0s, hLL10, q87, q5x, q35, hS⟩
  replace hLL10 := nlp_s hLL10; obtain ⟨kL10, obL10, rfl, hFL10, hLL10⟩ := hLL10
  refine x_seq <| x_region <|
   o_nextF q35 q1p ((hS.pull 1).pull 2) (fun q8m w' hS => ?_) (fun i52 q5y q8n w' hS => ?_)
  ·replace hFL10 := nnx_a hFL10 q8m
   refine p (yl_extract rfl rfl) <| x_done <| x_seq <| x_cond_f (show ev _ _ = .bool false from rfl) <|
    x_exitTo _ rfl <| ?_
   exact x_inv ⟨q0r, q0s, (hLL10 _ hFL10), (((hS.drop.drop.pull 2).pull 2).pull 2)⟩
  ·replace hFL10 := nnx_k hFL10 q5y q8n
   replace hFL10 := nlv_s hFL10; obtain ⟨e54, he54, hFL10⟩ := hFL10
   have q_ := RdM.at q1p q5y; obtain ⟨q7, q97, q8, q8d, q1i⟩ := q_
   rw [← he54] at q1i
   have e_ := q1i.n; subst e_
   refine p (yl_extract rfl rfl) <| x_done <| x_seq <| x_cond_t (show ev _ _ = .bool true from rfl) <|
    x_skip <| x_block <| x_seq <| x_region <|
    pa (at_entryF (kf := kf_61) q35 q5y q1p q8d ((hS.pull 1).pull 1) he54) <| p (yl_extract rfl rfl) <| p (yl_extract rfl rfl) <| ?_
   refine o_alloc zero_61 hS (fun b10 w' hS => ?_)
   refine o_storeAgg (news := [.int .i64 e54.1.Layer, .int .i64 e54.1.X, .int .i64 e54.1.Y]) agg_61 rfl rfl rfl (by simp [over_length]) hS (fun w' hS => ?_)
   refine p (yl_assign rfl) <| x_done <| x_seq <| x_region <|
    p (v := .agg #[.int .i64 1, .int .i64 0]) (yl_buildA arr_125 zero_125 (parts_eq (pt (va := .int .i64 1) rfl (pt (va := .int .i64 0) rfl pt0))) (by kernel_rfl)) <| p (v := .agg #[.int .i64 (-1), .int .i64 1]) (yl_buildA arr_125 zero_125 (parts_eq (pt (va := .int .i64 (-1)) rfl (pt (va := .int .i64 1) rfl pt0))) (by kernel_rfl)) <| p (v := .agg #[.int .i64 0, .int .i64 1]) (yl_buildA arr_125 zero_125 (parts_eq (pt (va := .int .i64 0) rfl (pt (va := .int .i64 1) rfl pt0))) (by kernel_rfl)) <| p (v := .agg #[.int .i64 1, .int .i64 1]) (yl_buildA arr_125 zero_125 (parts_eq (pt (va := .int .i64 1) rfl (pt (va := .int .i64 1) rfl pt0))) (by kernel_rfl)) <|
    p (v := .agg #[.int .i64 1, .int .i64 0, .int .i64 (-1), .int .i64 1, .int .i64 0, .int .i64 1, .int .i64 1, .int .i64 1]) (yl_buildA arr_126 zero_126 (parts_eq (pt (va := .agg #[.int .i64 1, .int .i64 0]) rfl (pt (va := .agg #[.int .i64 (-1), .int .i64 1]) rfl (pt (va := .agg #[.int .i64 0, .int .i64 1]) rfl (pt (va := .agg #[.int .i64 1, .int .i64 1]) rfl pt0))))) (by kernel_rfl)) <| p (yl_move rfl) <| x_done <| x_block <|
    x_unroll 4 <| x_seq <| x_region <| p (ylss_l (t := true) rfl rfl (by decide)) <|
    x_done <| x_seq <| x_cond_t (show ev _ _ = .bool true from rfl) <| x_skip <|
    x_seq <| x_block <| x_seq <| x_region <|
    p (v := .agg #[.int .i64 1, .int .i64 0]) (yl_ixvA (x := .tmp 61) (y := .tmp 62) (cs := [.int .i64 1, .int .i64 0]) arr_126 agg_125 rfl rfl (by decide) rfl) <| ?_
   refine o_alloc zero_125 hS (fun b13u4 w' hS => ?_)
   refine o_storeAgg (news := [.int .i64 1, .int .i64 0]) agg_125 rfl rfl rfl (by simp [over_length]) hS (fun w' hS => ?_)
   replace hFL10 := nar_s hFL10; obtain ⟨x72u4, hx72u4, hFL10⟩ := hFL10
   replace hFL10 := nar_s hFL10; obtain ⟨x77u4, hx77u4, hFL10⟩ := hFL10
   replace hFL10 := nlv_s hFL10; obtain ⟨q0b, q61, hFL10⟩ := hFL10
   have q_ := RdM.get q1p (T_rules_Spot.mk e54.1.Layer x72u4 x77u4); obtain ⟨q25, q8t, q26, q62, q27⟩ := q_
   rw [← q61] at q27
   have e_ := q27.n; subst e_
   refine x_done <| x_seq <| x_region <| p (yl_move q5x) <|
    p (yl_field0 fld_61_0 rfl) <| pa (at_load one_3 rfl ((hS.pull 1).cell rfl)) <| p (yl_field0 fld_61_1 rfl) <| pa (at_load one_3 rfl ((hS.pull 1).cell rfl)) <|
    p (yl_ixa (x := .tmp 13) (q := 0) arr_125 rfl rfl (by decide) rfl) <| pa (at_load one_3 rfl (hS.cell rfl)) <| p (yadd rfl rfl hx72u4) <| p (yl_field0 fld_61_2 rfl) <|
    pa (at_load one_3 rfl ((hS.pull 1).cell rfl)) <| p (yl_ixa (x := .tmp 13) (q := 1) arr_125 rfl rfl (by decide) rfl) <| pa (at_load one_3 rfl (hS.cell rfl)) <| p (yadd rfl rfl hx77u4) <|
    p (v := .agg #[.int .i64 e54.1.Layer, .int .i64 x72u4, .int .i64 x77u4]) (yl_build bld_61 bldf_61 (parts_eq (pt (va := .int .i64 e54.1.Layer) rfl (pt (va := .int .i64 x72u4) rfl (pt (va := .int .i64 x77u4) rfl pt0)))) (by kernel_rfl)) <| pa (v := .slice q25 q0b.length q26) (at_look (k := (T_rules_Spot.mk e54.1.Layer x72u4 x77u4)) (vf := Hd.v) (d := nilH) um_123 kp_61 (zero1 zv_22) rfl rfl (hS.pull 3) q62.symm) <| p (yl_len_slice usl_22 rfl) <| p (yl_move rfl) <|
    x_done <| ?_
   replace hFL10 := nbs_j hFL10; obtain ⟨oL16u4, hLL16u4, hFL10⟩ := hFL10
   refine x_join (fun E w => ∃ (q11 : List (T_rules_Fault × Bool)) (q12 : Bool), oL16u4 (Sum.inl (q11, q12)) ∧ E 0 = .pointer (some ⟨q4, 0, none⟩) ∧ E 6 = .map (some b18) ∧ E 10 = .pointer (some ⟨b10, 0, none⟩) ∧ E 11 = .slice q7 e54.2.length q8 ∧ E 51 = .pointer (some ⟨b51, 0, none⟩) ∧ E 61 = .agg #[.int .i64 1, .int .i64 0, .int .i64 (-1), .int .i64 1, .int .i64 0, .int .i64 1, .int .i64 1, .int .i64 1] ∧ E 62 = .int .i64 0 ∧ St w0 w (cells q4 103 [.map (some q2), .bool q12] :: mapA b18 kf_61 Hd.v (zipK q3 q0a) :: cells b10 61 [.int .i64 e54.1.Layer, .int .i64 e54.1.X, .int .i64 e54.1.Y] :: itA b51 b18 q3.length (q6 ++ [i52]) :: mapA q2 kf_63 Value.bool q11 :: ro q9 :: l)) ?_ ?_
   ·refine x_block ?_
    refine x_loop (fun k_ E w => ∃ (q0n : Int) (q0f : List (T_rules_Fault × Bool)) (q0g : Bool), nlp (P_rules_near_L16u4 e54 q0b) k_ (q0n, q0f, q0g) oL16u4 ∧ E 0 = .pointer (some ⟨q4, 0, none⟩) ∧ E 6 = .map (some b18) ∧ E 10 = .pointer (some ⟨b10, 0, none⟩) ∧ E 11 = .slice q7 e54.2.length q8 ∧ E 51 = .pointer (some ⟨b51, 0, none⟩) ∧ E 61 = .agg #[.int .i64 1, .int .i64 0, .int .i64 (-1), .int .i64 1, .int .i64 0, .int .i64 1, .int .i64 1, .int .i64 1] ∧ E 62 = .int .i64 0 ∧ E 79 = .slice q25 q0b.length q26 ∧ E 80 = .int .i64 (q0b.length : Int) ∧ E 81 = .int .i64 q0n ∧ St w0 w (cells q4 103 [.map (some q2), .bool q0g] :: mapA b18 kf_61 Hd.v (zipK q3 q0a) :: cells b10 61 [.int .i64 e54.1.Layer, .int .i64 e54.1.X, .int .i64 e54.1.Y] :: itA b51 b18 q3.length (q6 ++ [i52]) :: mapA q2 kf_63 Value.bool q0f :: ro q9 :: l)) fuel ⟨0, q0r, q0s, hLL16u4, q87, q5x, rfl, rfl, q35, rfl, rfl, rfl, rfl, rfl, ((((((hS.drop.pull 5).pull 5).pull 3).pull 3).pull 4).pull 5)⟩ ?_
    rintro kL16u4 E w ⟨q0n, q0f, q0g, hLL16u4, q52, q53, q36, q28, q37, q38, q39, q3a, q3b, q29, hS⟩
    replace hLL16u4 := nlp_s hLL16u4; obtain ⟨kL16u4, obL16u4, rfl, hFL16u4, hLL16u4⟩ := hLL16u4
    refine x_seq <| x_region <| p (yl_lss q29 q3b) <| x_done <|
     x_seq <|
     x_cond_p (q0n < (q0b.length : Int)) rfl (fun hc82u4 => ?_) (fun hc82u4 => ?_)
    ·replace hFL16u4 := nit_t hc82u4 hFL16u4
     replace hFL16u4 := nck_s hFL16u4; obtain ⟨q5i, hFL16u4⟩ := hFL16u4
     replace hFL16u4 := nlv_s hFL16u4; obtain ⟨x84u4, hx84u4, hFL16u4⟩ := hFL16u4
     refine x_skip <| x_seq <| x_block <| x_seq <|
      x_region <| p (yix_f sl_22 q3a q29 q27 q5i) <| pa (at_load one_3 rfl (RdS.getW q27 (hS.pull 5) q5i hx84u4)) <| p (yl_assign rfl) <|
      x_done <| x_seq <| x_region <| p (yl_move q28) <|
      p (yl_len_slice usl_22 rfl) <| p (yl_move rfl) <| x_done <| ?_
     replace hFL16u4 := nbs_j hFL16u4; obtain ⟨oL19u4, hLL19u4, hFL16u4⟩ := hFL16u4
     refine x_join (fun E w => ∃ (q13 : List (T_rules_Fault × Bool)) (q14 : Bool), oL19u4 (Sum.inl (q13, q14)) ∧ E 0 = .pointer (some ⟨q4, 0, none⟩) ∧ E 6 = .map (some b18) ∧ E 10 = .pointer (some ⟨b10, 0, none⟩) ∧ E 11 = .slice q7 e54.2.length q8 ∧ E 51 = .pointer (some ⟨b51, 0, none⟩) ∧ E 61 = .agg #[.int .i64 1, .int .i64 0, .int .i64 (-1), .int .i64 1, .int .i64 0, .int .i64 1, .int .i64 1, .int .i64 1] ∧ E 62 = .int .i64 0 ∧ E 79 = .slice q25 q0b.length q26 ∧ E 80 = .int .i64 (q0b.length : Int) ∧ E 81 = .int .i64 q0n ∧ St w0 w (cells q4 103 [.map (some q2), .bool q14] :: mapA b18 kf_61 Hd.v (zipK q3 q0a) :: cells b10 61 [.int .i64 e54.1.Layer, .int .i64 e54.1.X, .int .i64 e54.1.Y] :: itA b51 b18 q3.length (q6 ++ [i52]) :: mapA q2 kf_63 Value.bool q13 :: ro q9 :: l)) ?_ ?_
     ·refine x_block ?_
      refine x_loop (fun k_ E w => ∃ (q1l : Int) (q0t : List (T_rules_Fault × Bool)) (q0u : Bool), nlp (P_rules_near_L19u4 e54 x84u4) k_ (q1l, q0t, q0u) oL19u4 ∧ E 0 = .pointer (some ⟨q4, 0, none⟩) ∧ E 6 = .map (some b18) ∧ E 10 = .pointer (some ⟨b10, 0, none⟩) ∧ E 11 = .slice q7 e54.2.length q8 ∧ E 15 = .int .i64 x84u4 ∧ E 51 = .pointer (some ⟨b51, 0, none⟩) ∧ E 61 = .agg #[.int .i64 1, .int .i64 0, .int .i64 (-1), .int .i64 1, .int .i64 0, .int .i64 1, .int .i64 1, .int .i64 1] ∧ E 62 = .int .i64 0 ∧ E 79 = .slice q25 q0b.length q26 ∧ E 80 = .int .i64 (q0b.length : Int) ∧ E 81 = .int .i64 q0n ∧ E 85 = .slice q7 e54.2.length q8 ∧ E 86 = .int .i64 (e54.2.length : Int) ∧ E 87 = .int .i64 q1l ∧ St w0 w (cells q4 103 [.map (some q2), .bool q0u] :: mapA b18 kf_61 Hd.v (zipK q3 q0a) :: cells b10 61 [.int .i64 e54.1.Layer, .int .i64 e54.1.X, .int .i64 e54.1.Y] :: itA b51 b18 q3.length (q6 ++ [i52]) :: mapA q2 kf_63 Value.bool q0t :: ro q9 :: l)) fuel ⟨0, q0f, q0g, hLL19u4, q52, q53, q36, q28, rfl, q37, q38, q39, q3a, q3b, q29, rfl, rfl, rfl, ((((((hS.pull 5).pull 5).pull 5).pull 5).pull 5).pull 5)⟩ ?_
      rintro kL19u4 E w ⟨q1l, q0t, q0u, hLL19u4, q1q, q54, q2a, q3c, q2b, q3d, q3e, q3f, q3g, q3h, q3i, q3j, q3k, q2c, hS⟩
      replace hLL19u4 := nlp_s hLL19u4; obtain ⟨kL19u4, obL19u4, rfl, hFL19u4, hLL19u4⟩ := hLL19u4
      refine x_seq <| x_region <| p (yl_lss q2c q3k) <| x_done <|
       x_seq <|
       x_cond_p (q1l < (e54.2.length : Int)) rfl (fun hc88u4 => ?_) (fun hc88u4 => ?_)
      ·replace hFL19u4 := nit_t hc88u4 hFL19u4
       replace hFL19u4 := nck_s hFL19u4; obtain ⟨q5j, hFL19u4⟩ := hFL19u4
       replace hFL19u4 := nlv_s hFL19u4; obtain ⟨x90u4, hx90u4, hFL19u4⟩ := hFL19u4
       replace hFL19u4 := nlv_s hFL19u4; obtain ⟨x94u4, hx94u4, hFL19u4⟩ := hFL19u4
       replace hFL19u4 := nlv_s hFL19u4; obtain ⟨x97u4, hx97u4, hFL19u4⟩ := hFL19u4
       replace hFL19u4 := nbd_s hFL19u4; obtain ⟨q21, q7g, hFL19u4⟩ := hFL19u4
       refine x_skip <| x_seq <| x_block <| x_seq <|
        x_region <| p (yix_f sl_22 q3j q2c q1i q5j) <| pa (at_load one_3 rfl (RdS.getW q1i (hS.pull 5) q5j hx90u4)) <| p (yl_assign rfl) <|
        x_done <| x_seq <| x_region <| p (yl_move q1q) <|
        p (yl_move rfl) <| p (yl_move q2b) <| p (ymin' rfl rfl hx94u4) <| p (yl_move rfl) <|
        p (yl_move q2b) <| p (ymax' rfl rfl hx97u4) <| pa (v := .agg #[.int .i64 e54.1.Layer, .int .i64 e54.1.X, .int .i64 e54.1.Y]) (ld_sub agg_61 q2a rfl rfl (hS.pull 2)) <| p (v := .agg #[.int .i64 3, .int .i64 x94u4, .int .i64 x97u4, .int .i64 e54.1.Layer, .int .i64 e54.1.X, .int .i64 e54.1.Y]) (yl_build bld_63 bldf_63 (parts_eq (pt (va := .int .i64 3) rfl (pt (va := .int .i64 x94u4) rfl (pt (va := .int .i64 x97u4) rfl (pt (va := .agg #[.int .i64 e54.1.Layer, .int .i64 e54.1.X, .int .i64 e54.1.Y]) rfl pt0))))) (by kernel_rfl)) <| ?_
       have hcall := c_rules_bag_add q7g  (((hS.pull 5).pull 5).pull 2)
       refine o_cc call_63 (args2 rfl rfl) hcall ?_
       rintro e w' ⟨rfl, hS⟩
       refine ⟨_, rfl, ?_⟩
       refine x_done <| x_seq <| x_region <| p (yl_move q1q) <|
        p (yl_nilCheck rfl) <| p (yl_field0 fld_103_1 rfl) <| pa (at_load one_4 rfl (hS.cell rfl)) <| x_done <|
        x_cond (t := q21.2) rfl (fun hc104u4 => ?_) (fun hc104u4 => ?_)
       ·replace hFL19u4 := nit_t hc104u4 hFL19u4
        exact x_return ⟨_, rfl, (q21.1, q21.2), (hF _ (hLL10 _ (hFL10 _ (hLL16u4 _ (hFL16u4 _ (hLL19u4 _ hFL19u4)))))), rfl, (ro_back2 q20 ((((((hS.pull 3).drop.pull 3).drop.pull 3).drop.pull 2).pull 2).pull 2))⟩
       ·replace hFL19u4 := nit_bf hc104u4 hFL19u4
        replace hFL19u4 := nar_s hFL19u4; obtain ⟨x105u4, hx105u4, hFL19u4⟩ := hFL19u4
        refine x_skip <| x_blk <| x_region <| p (yadd q2c rfl hx105u4) <|
         p (yl_move rfl) <| x_done <| ?_
        exact x_inv ⟨kL19u4, Nat.lt_succ_self _, x105u4, q21.1, q21.2, (hLL19u4 _ hFL19u4), q1q, q54, q2a, q3c, q2b, q3d, q3e, q3f, q3g, q3h, q3i, q3j, q3k, rfl, ((((((hS.pull 2).pull 2).pull 5).pull 5).pull 5).pull 5)⟩
      ·replace hFL19u4 := nit_f hc88u4 hFL19u4
       refine x_exitTo _ rfl <| ?_
       exact x_inv ⟨q0t, q0u, (hLL19u4 _ hFL19u4), q1q, q54, q2a, q3c, q3d, q3e, q3f, q3g, q3h, q3i, ((((((hS.pull 5).pull 5).pull 5).pull 5).pull 5).pull 5)⟩
     rintro E w ⟨q13, q14, hq_, q7h, q7i, q63, q64, q65, q66, q67, q68, q69, q6a, hS⟩
     replace hFL16u4 := hFL16u4 _ hq_
     clear hq_
     replace hFL16u4 := nar_s hFL16u4; obtain ⟨x106u4, hx106u4, hFL16u4⟩ := hFL16u4
     refine x_blk <| x_region <| p (yadd q6a rfl hx106u4) <| p (yl_move rfl) <|
      x_done <| ?_
     exact x_inv ⟨kL16u4, Nat.lt_succ_self _, x106u4, q13, q14, (hLL16u4 _ hFL16u4), q7h, q7i, q63, q64, q65, q66, q67, q68, q69, rfl, ((((((hS.pull 5).pull 5).pull 5).pull 5).pull 5).pull 5)⟩
    ·replace hFL16u4 := nit_f hc82u4 hFL16u4
     refine x_exitTo _ rfl <| ?_
     exact x_inv ⟨q0f, q0g, (hLL16u4 _ hFL16u4), q52, q53, q36, q28, q37, q38, q39, ((((((hS.pull 5).pull 5).pull 5).pull 5).pull 5).pull 5)⟩
   rintro E w ⟨q11, q12, hq_, q7j, q5k, q1r, q6b, q6c, q55, q6d, hS⟩
   replace hFL10 := hFL10 _ hq_
   clear hq_
   refine x_blk <| x_region <| p (yadd (c := 1) q6d rfl ⟨rfl, by decide⟩) <| p (yl_move rfl) <|
    x_done <| x_un 3 <| x_seq <| x_region <|
    p (ylss_l (t := true) rfl rfl (by decide)) <| x_done <| x_seq <| x_cond_t (show ev _ _ = .bool true from rfl) <|
    x_skip <| x_seq <| x_block <| x_seq <|
    x_region <| p (v := .agg #[.int .i64 (-1), .int .i64 1]) (yl_ixvA (x := .tmp 61) (y := .tmp 62) (cs := [.int .i64 (-1), .int .i64 1]) arr_126 agg_125 q55 rfl (by decide) rfl) <| ?_
   refine o_alloc zero_125 hS (fun b13u3 w' hS => ?_)
   refine o_storeAgg (news := [.int .i64 (-1), .int .i64 1]) agg_125 rfl rfl rfl (by simp [over_length]) hS (fun w' hS => ?_)
   replace hFL10 := nar_s hFL10; obtain ⟨x72u3, hx72u3, hFL10⟩ := hFL10
   replace hFL10 := nar_s hFL10; obtain ⟨x77u3, hx77u3, hFL10⟩ := hFL10
   replace hFL10 := nlv_s hFL10; obtain ⟨q0c, q6e, hFL10⟩ := hFL10
   have q_ := RdM.get q1p (T_rules_Spot.mk e54.1.Layer x72u3 x77u3); obtain ⟨q2d, q8u, q2e, q6f, q2f⟩ := q_
   rw [← q6e] at q2f
   have e_ := q2f.n; subst e_
   refine x_done <| x_seq <| x_region <| p (yl_move q5k) <|
    p (yl_field0 fld_61_0 q1r) <| pa (at_load one_3 rfl ((hS.pull 3).cell rfl)) <| p (yl_field0 fld_61_1 q1r) <| pa (at_load one_3 rfl ((hS.pull 3).cell rfl)) <|
    p (yl_ixa (x := .tmp 13) (q := 0) arr_125 rfl rfl (by decide) rfl) <| pa (at_load one_3 rfl (hS.cell rfl)) <| p (yadd rfl rfl hx72u3) <| p (yl_field0 fld_61_2 q1r) <|
    pa (at_load one_3 rfl ((hS.pull 3).cell rfl)) <| p (yl_ixa (x := .tmp 13) (q := 1) arr_125 rfl rfl (by decide) rfl) <| pa (at_load one_3 rfl (hS.cell rfl)) <| p (yadd rfl rfl hx77u3) <|
    p (v := .agg #[.int .i64 e54.1.Layer, .int .i64 x72u3, .int .i64 x77u3]) (yl_build bld_61 bldf_61 (parts_eq (pt (va := .int .i64 e54.1.Layer) rfl (pt (va := .int .i64 x72u3) rfl (pt (va := .int .i64 x77u3) rfl pt0)))) (by kernel_rfl)) <| pa (v := .slice q2d q0c.length q2e) (at_look (k := (T_rules_Spot.mk e54.1.Layer x72u3 x77u3)) (vf := Hd.v) (d := nilH) um_123 kp_61 (zero1 zv_22) rfl rfl (hS.pull 2) q6f.symm) <| p (yl_len_slice usl_22 rfl) <| p (yl_move rfl) <|
    x_done <| ?_
   replace hFL10 := nbs_j hFL10; obtain ⟨oL16u3, hLL16u3, hFL10⟩ := hFL10
   refine x_join (fun E w => ∃ (q15 : List (T_rules_Fault × Bool)) (q16 : Bool), oL16u3 (Sum.inl (q15, q16)) ∧ E 0 = .pointer (some ⟨q4, 0, none⟩) ∧ E 6 = .map (some b18) ∧ E 10 = .pointer (some ⟨b10, 0, none⟩) ∧ E 11 = .slice q7 e54.2.length q8 ∧ E 51 = .pointer (some ⟨b51, 0, none⟩) ∧ E 61 = .agg #[.int .i64 1, .int .i64 0, .int .i64 (-1), .int .i64 1, .int .i64 0, .int .i64 1, .int .i64 1, .int .i64 1] ∧ E 62 = .int .i64 1 ∧ St w0 w (cells q4 103 [.map (some q2), .bool q16] :: mapA b18 kf_61 Hd.v (zipK q3 q0a) :: cells b10 61 [.int .i64 e54.1.Layer, .int .i64 e54.1.X, .int .i64 e54.1.Y] :: itA b51 b18 q3.length (q6 ++ [i52]) :: mapA q2 kf_63 Value.bool q15 :: ro q9 :: l)) ?_ ?_
   ·refine x_block ?_
    refine x_loop (fun k_ E w => ∃ (q0o : Int) (q0h : List (T_rules_Fault × Bool)) (q0i : Bool), nlp (P_rules_near_L16u3 e54 q0c) k_ (q0o, q0h, q0i) oL16u3 ∧ E 0 = .pointer (some ⟨q4, 0, none⟩) ∧ E 6 = .map (some b18) ∧ E 10 = .pointer (some ⟨b10, 0, none⟩) ∧ E 11 = .slice q7 e54.2.length q8 ∧ E 51 = .pointer (some ⟨b51, 0, none⟩) ∧ E 61 = .agg #[.int .i64 1, .int .i64 0, .int .i64 (-1), .int .i64 1, .int .i64 0, .int .i64 1, .int .i64 1, .int .i64 1] ∧ E 62 = .int .i64 1 ∧ E 79 = .slice q2d q0c.length q2e ∧ E 80 = .int .i64 (q0c.length : Int) ∧ E 81 = .int .i64 q0o ∧ St w0 w (cells q4 103 [.map (some q2), .bool q0i] :: mapA b18 kf_61 Hd.v (zipK q3 q0a) :: cells b10 61 [.int .i64 e54.1.Layer, .int .i64 e54.1.X, .int .i64 e54.1.Y] :: itA b51 b18 q3.length (q6 ++ [i52]) :: mapA q2 kf_63 Value.bool q0h :: ro q9 :: l)) fuel ⟨0, q11, q12, hLL16u3, q7j, q5k, q1r, q6b, q6c, q55, rfl, rfl, rfl, rfl, ((((((hS.drop.pull 5).pull 5).pull 5).pull 5).pull 5).pull 5)⟩ ?_
    rintro kL16u3 E w ⟨q0o, q0h, q0i, hLL16u3, q56, q57, q3l, q2g, q3m, q3n, q3o, q3p, q3q, q2h, hS⟩
    replace hLL16u3 := nlp_s hLL16u3; obtain ⟨kL16u3, obL16u3, rfl, hFL16u3, hLL16u3⟩ := hLL16u3
    refine x_seq <| x_region <| p (yl_lss q2h q3q) <| x_done <|
     x_seq <|
     x_cond_p (q0o < (q0c.length : Int)) rfl (fun hc82u3 => ?_) (fun hc82u3 => ?_)
    ·replace hFL16u3 := nit_t hc82u3 hFL16u3
     replace hFL16u3 := nck_s hFL16u3; obtain ⟨q5l, hFL16u3⟩ := hFL16u3
     replace hFL16u3 := nlv_s hFL16u3; obtain ⟨x84u3, hx84u3, hFL16u3⟩ := hFL16u3
     refine x_skip <| x_seq <| x_block <| x_seq <|
      x_region <| p (yix_f sl_22 q3p q2h q2f q5l) <| pa (at_load one_3 rfl (RdS.getW q2f (hS.pull 5) q5l hx84u3)) <| p (yl_assign rfl) <|
      x_done <| x_seq <| x_region <| p (yl_move q2g) <|
      p (yl_len_slice usl_22 rfl) <| p (yl_move rfl) <| x_done <| ?_
     replace hFL16u3 := nbs_j hFL16u3; obtain ⟨oL19u3, hLL19u3, hFL16u3⟩ := hFL16u3
     refine x_join (fun E w => ∃ (q17 : List (T_rules_Fault × Bool)) (q18 : Bool), oL19u3 (Sum.inl (q17, q18)) ∧ E 0 = .pointer (some ⟨q4, 0, none⟩) ∧ E 6 = .map (some b18) ∧ E 10 = .pointer (some ⟨b10, 0, none⟩) ∧ E 11 = .slice q7 e54.2.length q8 ∧ E 51 = .pointer (some ⟨b51, 0, none⟩) ∧ E 61 = .agg #[.int .i64 1, .int .i64 0, .int .i64 (-1), .int .i64 1, .int .i64 0, .int .i64 1, .int .i64 1, .int .i64 1] ∧ E 62 = .int .i64 1 ∧ E 79 = .slice q2d q0c.length q2e ∧ E 80 = .int .i64 (q0c.length : Int) ∧ E 81 = .int .i64 q0o ∧ St w0 w (cells q4 103 [.map (some q2), .bool q18] :: mapA b18 kf_61 Hd.v (zipK q3 q0a) :: cells b10 61 [.int .i64 e54.1.Layer, .int .i64 e54.1.X, .int .i64 e54.1.Y] :: itA b51 b18 q3.length (q6 ++ [i52]) :: mapA q2 kf_63 Value.bool q17 :: ro q9 :: l)) ?_ ?_
     ·refine x_block ?_
      refine x_loop (fun k_ E w => ∃ (q1m : Int) (q0v : List (T_rules_Fault × Bool)) (q0w : Bool), nlp (P_rules_near_L19u3 e54 x84u3) k_ (q1m, q0v, q0w) oL19u3 ∧ E 0 = .pointer (some ⟨q4, 0, none⟩) ∧ E 6 = .map (some b18) ∧ E 10 = .pointer (some ⟨b10, 0, none⟩) ∧ E 11 = .slice q7 e54.2.length q8 ∧ E 15 = .int .i64 x84u3 ∧ E 51 = .pointer (some ⟨b51, 0, none⟩) ∧ E 61 = .agg #[.int .i64 1, .int .i64 0, .int .i64 (-1), .int .i64 1, .int .i64 0, .int .i64 1, .int .i64 1, .int .i64 1] ∧ E 62 = .int .i64 1 ∧ E 79 = .slice q2d q0c.length q2e ∧ E 80 = .int .i64 (q0c.length : Int) ∧ E 81 = .int .i64 q0o ∧ E 85 = .slice q7 e54.2.length q8 ∧ E 86 = .int .i64 (e54.2.length : Int) ∧ E 87 = .int .i64 q1m ∧ St w0 w (cells q4 103 [.map (some q2), .bool q0w] :: mapA b18 kf_61 Hd.v (zipK q3 q0a) :: cells b10 61 [.int .i64 e54.1.Layer, .int .i64 e54.1.X, .int .i64 e54.1.Y] :: itA b51 b18 q3.length (q6 ++ [i52]) :: mapA q2 kf_63 Value.bool q0v :: ro q9 :: l)) fuel ⟨0, q0h, q0i, hLL19u3, q56, q57, q3l, q2g, rfl, q3m, q3n, q3o, q3p, q3q, q2h, rfl, rfl, rfl, ((((((hS.pull 5).pull 5).pull 5).pull 5).pull 5).pull 5)⟩ ?_
      rintro kL19u3 E w ⟨q1m, q0v, q0w, hLL19u3, q1s, q58, q2i, q3r, q2j, q3s, q3t, q3u, q3v, q3w, q3x, q3y, q3z, q2k, hS⟩
      replace hLL19u3 := nlp_s hLL19u3; obtain ⟨kL19u3, obL19u3, rfl, hFL19u3, hLL19u3⟩ := hLL19u3
      refine x_seq <| x_region <| p (yl_lss q2k q3z) <| x_done <|
       x_seq <|
       x_cond_p (q1m < (e54.2.length : Int)) rfl (fun hc88u3 => ?_) (fun hc88u3 => ?_)
      ·replace hFL19u3 := nit_t hc88u3 hFL19u3
       replace hFL19u3 := nck_s hFL19u3; obtain ⟨q5m, hFL19u3⟩ := hFL19u3
       replace hFL19u3 := nlv_s hFL19u3; obtain ⟨x90u3, hx90u3, hFL19u3⟩ := hFL19u3
       replace hFL19u3 := nlv_s hFL19u3; obtain ⟨x94u3, hx94u3, hFL19u3⟩ := hFL19u3
       replace hFL19u3 := nlv_s hFL19u3; obtain ⟨x97u3, hx97u3, hFL19u3⟩ := hFL19u3
       replace hFL19u3 := nbd_s hFL19u3; obtain ⟨q22, q7k, hFL19u3⟩ := hFL19u3
       refine x_skip <| x_seq <| x_block <| x_seq <|
        x_region <| p (yix_f sl_22 q3y q2k q1i q5m) <| pa (at_load one_3 rfl (RdS.getW q1i (hS.pull 5) q5m hx90u3)) <| p (yl_assign rfl) <|
        x_done <| x_seq <| x_region <| p (yl_move q1s) <|
        p (yl_move rfl) <| p (yl_move q2j) <| p (ymin' rfl rfl hx94u3) <| p (yl_move rfl) <|
        p (yl_move q2j) <| p (ymax' rfl rfl hx97u3) <| pa (v := .agg #[.int .i64 e54.1.Layer, .int .i64 e54.1.X, .int .i64 e54.1.Y]) (ld_sub agg_61 q2i rfl rfl (hS.pull 2)) <| p (v := .agg #[.int .i64 3, .int .i64 x94u3, .int .i64 x97u3, .int .i64 e54.1.Layer, .int .i64 e54.1.X, .int .i64 e54.1.Y]) (yl_build bld_63 bldf_63 (parts_eq (pt (va := .int .i64 3) rfl (pt (va := .int .i64 x94u3) rfl (pt (va := .int .i64 x97u3) rfl (pt (va := .agg #[.int .i64 e54.1.Layer, .int .i64 e54.1.X, .int .i64 e54.1.Y]) rfl pt0))))) (by kernel_rfl)) <| ?_
       have hcall := c_rules_bag_add q7k  (((hS.pull 5).pull 5).pull 2)
       refine o_cc call_63 (args2 rfl rfl) hcall ?_
       rintro e w' ⟨rfl, hS⟩
       refine ⟨_, rfl, ?_⟩
       refine x_done <| x_seq <| x_region <| p (yl_move q1s) <|
        p (yl_nilCheck rfl) <| p (yl_field0 fld_103_1 rfl) <| pa (at_load one_4 rfl (hS.cell rfl)) <| x_done <|
        x_cond (t := q22.2) rfl (fun hc104u3 => ?_) (fun hc104u3 => ?_)
       ·replace hFL19u3 := nit_t hc104u3 hFL19u3
        exact x_return ⟨_, rfl, (q22.1, q22.2), (hF _ (hLL10 _ (hFL10 _ (hLL16u3 _ (hFL16u3 _ (hLL19u3 _ hFL19u3)))))), rfl, (ro_back2 q20 ((((((hS.pull 3).drop.pull 3).drop.pull 3).drop.pull 2).pull 2).pull 2))⟩
       ·replace hFL19u3 := nit_bf hc104u3 hFL19u3
        replace hFL19u3 := nar_s hFL19u3; obtain ⟨x105u3, hx105u3, hFL19u3⟩ := hFL19u3
        refine x_skip <| x_blk <| x_region <| p (yadd q2k rfl hx105u3) <|
         p (yl_move rfl) <| x_done <| ?_
        exact x_inv ⟨kL19u3, Nat.lt_succ_self _, x105u3, q22.1, q22.2, (hLL19u3 _ hFL19u3), q1s, q58, q2i, q3r, q2j, q3s, q3t, q3u, q3v, q3w, q3x, q3y, q3z, rfl, ((((((hS.pull 2).pull 2).pull 5).pull 5).pull 5).pull 5)⟩
      ·replace hFL19u3 := nit_f hc88u3 hFL19u3
       refine x_exitTo _ rfl <| ?_
       exact x_inv ⟨q0v, q0w, (hLL19u3 _ hFL19u3), q1s, q58, q2i, q3r, q3s, q3t, q3u, q3v, q3w, q3x, ((((((hS.pull 5).pull 5).pull 5).pull 5).pull 5).pull 5)⟩
     rintro E w ⟨q17, q18, hq_, q7l, q7m, q6g, q6h, q6i, q6j, q6k, q6l, q6m, q6n, hS⟩
     replace hFL16u3 := hFL16u3 _ hq_
     clear hq_
     replace hFL16u3 := nar_s hFL16u3; obtain ⟨x106u3, hx106u3, hFL16u3⟩ := hFL16u3
     refine x_blk <| x_region <| p (yadd q6n rfl hx106u3) <| p (yl_move rfl) <|
      x_done <| ?_
     exact x_inv ⟨kL16u3, Nat.lt_succ_self _, x106u3, q17, q18, (hLL16u3 _ hFL16u3), q7l, q7m, q6g, q6h, q6i, q6j, q6k, q6l, q6m, rfl, ((((((hS.pull 5).pull 5).pull 5).pull 5).pull 5).pull 5)⟩
    ·replace hFL16u3 := nit_f hc82u3 hFL16u3
     refine x_exitTo _ rfl <| ?_
     exact x_inv ⟨q0h, q0i, (hLL16u3 _ hFL16u3), q56, q57, q3l, q2g, q3m, q3n, q3o, ((((((hS.pull 5).pull 5).pull 5).pull 5).pull 5).pull 5)⟩
   rintro E w ⟨q15, q16, hq_, q7n, q5n, q1t, q6o, q6p, q59, q6q, hS⟩
   replace hFL10 := hFL10 _ hq_
   clear hq_
   refine x_blk <| x_region <| p (yadd (c := 2) q6q rfl ⟨rfl, by decide⟩) <| p (yl_move rfl) <|
    x_done <| x_un 2 <| x_seq <| x_region <|
    p (ylss_l (t := true) rfl rfl (by decide)) <| x_done <| x_seq <| x_cond_t (show ev _ _ = .bool true from rfl) <|
    x_skip <| x_seq <| x_block <| x_seq <|
    x_region <| p (v := .agg #[.int .i64 0, .int .i64 1]) (yl_ixvA (x := .tmp 61) (y := .tmp 62) (cs := [.int .i64 0, .int .i64 1]) arr_126 agg_125 q59 rfl (by decide) rfl) <| ?_
   refine o_alloc zero_125 hS (fun b13u2 w' hS => ?_)
   refine o_storeAgg (news := [.int .i64 0, .int .i64 1]) agg_125 rfl rfl rfl (by simp [over_length]) hS (fun w' hS => ?_)
   replace hFL10 := nar_s hFL10; obtain ⟨x72u2, hx72u2, hFL10⟩ := hFL10
   replace hFL10 := nar_s hFL10; obtain ⟨x77u2, hx77u2, hFL10⟩ := hFL10
   replace hFL10 := nlv_s hFL10; obtain ⟨q0d, q6r, hFL10⟩ := hFL10
   have q_ := RdM.get q1p (T_rules_Spot.mk e54.1.Layer x72u2 x77u2); obtain ⟨q2l, q8v, q2m, q6s, q2n⟩ := q_
   rw [← q6r] at q2n
   have e_ := q2n.n; subst e_
   refine x_done <| x_seq <| x_region <| p (yl_move q5n) <|
    p (yl_field0 fld_61_0 q1t) <| pa (at_load one_3 rfl ((hS.pull 3).cell rfl)) <| p (yl_field0 fld_61_1 q1t) <| pa (at_load one_3 rfl ((hS.pull 3).cell rfl)) <|
    p (yl_ixa (x := .tmp 13) (q := 0) arr_125 rfl rfl (by decide) rfl) <| pa (at_load one_3 rfl (hS.cell rfl)) <| p (yadd rfl rfl hx72u2) <| p (yl_field0 fld_61_2 q1t) <|
    pa (at_load one_3 rfl ((hS.pull 3).cell rfl)) <| p (yl_ixa (x := .tmp 13) (q := 1) arr_125 rfl rfl (by decide) rfl) <| pa (at_load one_3 rfl (hS.cell rfl)) <| p (yadd rfl rfl hx77u2) <|
    p (v := .agg #[.int .i64 e54.1.Layer, .int .i64 x72u2, .int .i64 x77u2]) (yl_build bld_61 bldf_61 (parts_eq (pt (va := .int .i64 e54.1.Layer) rfl (pt (va := .int .i64 x72u2) rfl (pt (va := .int .i64 x77u2) rfl pt0)))) (by kernel_rfl)) <| pa (v := .slice q2l q0d.length q2m) (at_look (k := (T_rules_Spot.mk e54.1.Layer x72u2 x77u2)) (vf := Hd.v) (d := nilH) um_123 kp_61 (zero1 zv_22) rfl rfl (hS.pull 2) q6s.symm) <| p (yl_len_slice usl_22 rfl) <| p (yl_move rfl) <|
    x_done <| ?_
   replace hFL10 := nbs_j hFL10; obtain ⟨oL16u2, hLL16u2, hFL10⟩ := hFL10
   refine x_join (fun E w => ∃ (q19 : List (T_rules_Fault × Bool)) (q1a : Bool), oL16u2 (Sum.inl (q19, q1a)) ∧ E 0 = .pointer (some ⟨q4, 0, none⟩) ∧ E 6 = .map (some b18) ∧ E 10 = .pointer (some ⟨b10, 0, none⟩) ∧ E 11 = .slice q7 e54.2.length q8 ∧ E 51 = .pointer (some ⟨b51, 0, none⟩) ∧ E 61 = .agg #[.int .i64 1, .int .i64 0, .int .i64 (-1), .int .i64 1, .int .i64 0, .int .i64 1, .int .i64 1, .int .i64 1] ∧ E 62 = .int .i64 2 ∧ St w0 w (cells q4 103 [.map (some q2), .bool q1a] :: mapA b18 kf_61 Hd.v (zipK q3 q0a) :: cells b10 61 [.int .i64 e54.1.Layer, .int .i64 e54.1.X, .int .i64 e54.1.Y] :: itA b51 b18 q3.length (q6 ++ [i52]) :: mapA q2 kf_63 Value.bool q19 :: ro q9 :: l)) ?_ ?_
   ·refine x_block ?_
    refine x_loop (fun k_ E w => ∃ (q0p : Int) (q0j : List (T_rules_Fault × Bool)) (q0k : Bool), nlp (P_rules_near_L16u2 e54 q0d) k_ (q0p, q0j, q0k) oL16u2 ∧ E 0 = .pointer (some ⟨q4, 0, none⟩) ∧ E 6 = .map (some b18) ∧ E 10 = .pointer (some ⟨b10, 0, none⟩) ∧ E 11 = .slice q7 e54.2.length q8 ∧ E 51 = .pointer (some ⟨b51, 0, none⟩) ∧ E 61 = .agg #[.int .i64 1, .int .i64 0, .int .i64 (-1), .int .i64 1, .int .i64 0, .int .i64 1, .int .i64 1, .int .i64 1] ∧ E 62 = .int .i64 2 ∧ E 79 = .slice q2l q0d.length q2m ∧ E 80 = .int .i64 (q0d.length : Int) ∧ E 81 = .int .i64 q0p ∧ St w0 w (cells q4 103 [.map (some q2), .bool q0k] :: mapA b18 kf_61 Hd.v (zipK q3 q0a) :: cells b10 61 [.int .i64 e54.1.Layer, .int .i64 e54.1.X, .int .i64 e54.1.Y] :: itA b51 b18 q3.length (q6 ++ [i52]) :: mapA q2 kf_63 Value.bool q0j :: ro q9 :: l)) fuel ⟨0, q15, q16, hLL16u2, q7n, q5n, q1t, q6o, q6p, q59, rfl, rfl, rfl, rfl, ((((((hS.drop.pull 5).pull 5).pull 5).pull 5).pull 5).pull 5)⟩ ?_
    rintro kL16u2 E w ⟨q0p, q0j, q0k, hLL16u2, q5a, q5b, q40, q2o, q41, q42, q43, q44, q45, q2p, hS⟩
    replace hLL16u2 := nlp_s hLL16u2; obtain ⟨kL16u2, obL16u2, rfl, hFL16u2, hLL16u2⟩ := hLL16u2
    refine x_seq <| x_region <| p (yl_lss q2p q45) <| x_done <|
     x_seq <|
     x_cond_p (q0p < (q0d.length : Int)) rfl (fun hc82u2 => ?_) (fun hc82u2 => ?_)
    ·replace hFL16u2 := nit_t hc82u2 hFL16u2
     replace hFL16u2 := nck_s hFL16u2; obtain ⟨q5o, hFL16u2⟩ := hFL16u2
     replace hFL16u2 := nlv_s hFL16u2; obtain ⟨x84u2, hx84u2, hFL16u2⟩ := hFL16u2
     refine x_skip <| x_seq <| x_block <| x_seq <|
      x_region <| p (yix_f sl_22 q44 q2p q2n q5o) <| pa (at_load one_3 rfl (RdS.getW q2n (hS.pull 5) q5o hx84u2)) <| p (yl_assign rfl) <|
      x_done <| x_seq <| x_region <| p (yl_move q2o) <|
      p (yl_len_slice usl_22 rfl) <| p (yl_move rfl) <| x_done <| ?_
     replace hFL16u2 := nbs_j hFL16u2; obtain ⟨oL19u2, hLL19u2, hFL16u2⟩ := hFL16u2
     refine x_join (fun E w => ∃ (q1b : List (T_rules_Fault × Bool)) (q1c : Bool), oL19u2 (Sum.inl (q1b, q1c)) ∧ E 0 = .pointer (some ⟨q4, 0, none⟩) ∧ E 6 = .map (some b18) ∧ E 10 = .pointer (some ⟨b10, 0, none⟩) ∧ E 11 = .slice q7 e54.2.length q8 ∧ E 51 = .pointer (some ⟨b51, 0, none⟩) ∧ E 61 = .agg #[.int .i64 1, .int .i64 0, .int .i64 (-1), .int .i64 1, .int .i64 0, .int .i64 1, .int .i64 1, .int .i64 1] ∧ E 62 = .int .i64 2 ∧ E 79 = .slice q2l q0d.length q2m ∧ E 80 = .int .i64 (q0d.length : Int) ∧ E 81 = .int .i64 q0p ∧ St w0 w (cells q4 103 [.map (some q2), .bool q1c] :: mapA b18 kf_61 Hd.v (zipK q3 q0a) :: cells b10 61 [.int .i64 e54.1.Layer, .int .i64 e54.1.X, .int .i64 e54.1.Y] :: itA b51 b18 q3.length (q6 ++ [i52]) :: mapA q2 kf_63 Value.bool q1b :: ro q9 :: l)) ?_ ?_
     ·refine x_block ?_
      refine x_loop (fun k_ E w => ∃ (q1n : Int) (q0x : List (T_rules_Fault × Bool)) (q0y : Bool), nlp (P_rules_near_L19u2 e54 x84u2) k_ (q1n, q0x, q0y) oL19u2 ∧ E 0 = .pointer (some ⟨q4, 0, none⟩) ∧ E 6 = .map (some b18) ∧ E 10 = .pointer (some ⟨b10, 0, none⟩) ∧ E 11 = .slice q7 e54.2.length q8 ∧ E 15 = .int .i64 x84u2 ∧ E 51 = .pointer (some ⟨b51, 0, none⟩) ∧ E 61 = .agg #[.int .i64 1, .int .i64 0, .int .i64 (-1), .int .i64 1, .int .i64 0, .int .i64 1, .int .i64 1, .int .i64 1] ∧ E 62 = .int .i64 2 ∧ E 79 = .slice q2l q0d.length q2m ∧ E 80 = .int .i64 (q0d.length : Int) ∧ E 81 = .int .i64 q0p ∧ E 85 = .slice q7 e54.2.length q8 ∧ E 86 = .int .i64 (e54.2.length : Int) ∧ E 87 = .int .i64 q1n ∧ St w0 w (cells q4 103 [.map (some q2), .bool q0y] :: mapA b18 kf_61 Hd.v (zipK q3 q0a) :: cells b10 61 [.int .i64 e54.1.Layer, .int .i64 e54.1.X, .int .i64 e54.1.Y] :: itA b51 b18 q3.length (q6 ++ [i52]) :: mapA q2 kf_63 Value.bool q0x :: ro q9 :: l)) fuel ⟨0, q0j, q0k, hLL19u2, q5a, q5b, q40, q2o, rfl, q41, q42, q43, q44, q45, q2p, rfl, rfl, rfl, ((((((hS.pull 5).pull 5).pull 5).pull 5).pull 5).pull 5)⟩ ?_
      rintro kL19u2 E w ⟨q1n, q0x, q0y, hLL19u2, q1u, q5c, q2q, q46, q2r, q47, q48, q49, q4a, q4b, q4c, q4d, q4e, q2s, hS⟩
      replace hLL19u2 := nlp_s hLL19u2; obtain ⟨kL19u2, obL19u2, rfl, hFL19u2, hLL19u2⟩ := hLL19u2
      refine x_seq <| x_region <| p (yl_lss q2s q4e) <| x_done <|
       x_seq <|
       x_cond_p (q1n < (e54.2.length : Int)) rfl (fun hc88u2 => ?_) (fun hc88u2 => ?_)
      ·replace hFL19u2 := nit_t hc88u2 hFL19u2
       replace hFL19u2 := nck_s hFL19u2; obtain ⟨q5p, hFL19u2⟩ := hFL19u2
       replace hFL19u2 := nlv_s hFL19u2; obtain ⟨x90u2, hx90u2, hFL19u2⟩ := hFL19u2
       replace hFL19u2 := nlv_s hFL19u2; obtain ⟨x94u2, hx94u2, hFL19u2⟩ := hFL19u2
       replace hFL19u2 := nlv_s hFL19u2; obtain ⟨x97u2, hx97u2, hFL19u2⟩ := hFL19u2
       replace hFL19u2 := nbd_s hFL19u2; obtain ⟨q23, q7o, hFL19u2⟩ := hFL19u2
       refine x_skip <| x_seq <| x_block <| x_seq <|
        x_region <| p (yix_f sl_22 q4d q2s q1i q5p) <| pa (at_load one_3 rfl (RdS.getW q1i (hS.pull 5) q5p hx90u2)) <| p (yl_assign rfl) <|
        x_done <| x_seq <| x_region <| p (yl_move q1u) <|
        p (yl_move rfl) <| p (yl_move q2r) <| p (ymin' rfl rfl hx94u2) <| p (yl_move rfl) <|
        p (yl_move q2r) <| p (ymax' rfl rfl hx97u2) <| pa (v := .agg #[.int .i64 e54.1.Layer, .int .i64 e54.1.X, .int .i64 e54.1.Y]) (ld_sub agg_61 q2q rfl rfl (hS.pull 2)) <| p (v := .agg #[.int .i64 3, .int .i64 x94u2, .int .i64 x97u2, .int .i64 e54.1.Layer, .int .i64 e54.1.X, .int .i64 e54.1.Y]) (yl_build bld_63 bldf_63 (parts_eq (pt (va := .int .i64 3) rfl (pt (va := .int .i64 x94u2) rfl (pt (va := .int .i64 x97u2) rfl (pt (va := .agg #[.int .i64 e54.1.Layer, .int .i64 e54.1.X, .int .i64 e54.1.Y]) rfl pt0))))) (by kernel_rfl)) <| ?_
       have hcall := c_rules_bag_add q7o  (((hS.pull 5).pull 5).pull 2)
       refine o_cc call_63 (args2 rfl rfl) hcall ?_
       rintro e w' ⟨rfl, hS⟩
       refine ⟨_, rfl, ?_⟩
       refine x_done <| x_seq <| x_region <| p (yl_move q1u) <|
        p (yl_nilCheck rfl) <| p (yl_field0 fld_103_1 rfl) <| pa (at_load one_4 rfl (hS.cell rfl)) <| x_done <|
        x_cond (t := q23.2) rfl (fun hc104u2 => ?_) (fun hc104u2 => ?_)
       ·replace hFL19u2 := nit_t hc104u2 hFL19u2
        exact x_return ⟨_, rfl, (q23.1, q23.2), (hF _ (hLL10 _ (hFL10 _ (hLL16u2 _ (hFL16u2 _ (hLL19u2 _ hFL19u2)))))), rfl, (ro_back2 q20 ((((((hS.pull 3).drop.pull 3).drop.pull 3).drop.pull 2).pull 2).pull 2))⟩
       ·replace hFL19u2 := nit_bf hc104u2 hFL19u2
        replace hFL19u2 := nar_s hFL19u2; obtain ⟨x105u2, hx105u2, hFL19u2⟩ := hFL19u2
        refine x_skip <| x_blk <| x_region <| p (yadd q2s rfl hx105u2) <|
         p (yl_move rfl) <| x_done <| ?_
        exact x_inv ⟨kL19u2, Nat.lt_succ_self _, x105u2, q23.1, q23.2, (hLL19u2 _ hFL19u2), q1u, q5c, q2q, q46, q2r, q47, q48, q49, q4a, q4b, q4c, q4d, q4e, rfl, ((((((hS.pull 2).pull 2).pull 5).pull 5).pull 5).pull 5)⟩
      ·replace hFL19u2 := nit_f hc88u2 hFL19u2
       refine x_exitTo _ rfl <| ?_
       exact x_inv ⟨q0x, q0y, (hLL19u2 _ hFL19u2), q1u, q5c, q2q, q46, q47, q48, q49, q4a, q4b, q4c, ((((((hS.pull 5).pull 5).pull 5).pull 5).pull 5).pull 5)⟩
     rintro E w ⟨q1b, q1c, hq_, q7p, q7q, q6t, q6u, q6v, q6w, q6x, q6y, q6z, q70, hS⟩
     replace hFL16u2 := hFL16u2 _ hq_
     clear hq_
     replace hFL16u2 := nar_s hFL16u2; obtain ⟨x106u2, hx106u2, hFL16u2⟩ := hFL16u2
     refine x_blk <| x_region <| p (yadd q70 rfl hx106u2) <| p (yl_move rfl) <|
      x_done <| ?_
     exact x_inv ⟨kL16u2, Nat.lt_succ_self _, x106u2, q1b, q1c, (hLL16u2 _ hFL16u2), q7p, q7q, q6t, q6u, q6v, q6w, q6x, q6y, q6z, rfl, ((((((hS.pull 5).pull 5).pull 5).pull 5).pull 5).pull 5)⟩
    ·replace hFL16u2 := nit_f hc82u2 hFL16u2
     refine x_exitTo _ rfl <| ?_
     exact x_inv ⟨q0j, q0k, (hLL16u2 _ hFL16u2), q5a, q5b, q40, q2o, q41, q42, q43, ((((((hS.pull 5).pull 5).pull 5).pull 5).pull 5).pull 5)⟩
   rintro E w ⟨q19, q1a, hq_, q7r, q5q, q1v, q71, q72, q5d, q73, hS⟩
   replace hFL10 := hFL10 _ hq_
   clear hq_
   refine x_blk <| x_region <| p (yadd (c := 3) q73 rfl ⟨rfl, by decide⟩) <| p (yl_move rfl) <|
    x_done <| x_un 1 <| x_seq <| x_region <|
    p (ylss_l (t := true) rfl rfl (by decide)) <| x_done <| x_seq <| x_cond_t (show ev _ _ = .bool true from rfl) <|
    x_skip <| x_seq <| x_block <| x_seq <|
    x_region <| p (v := .agg #[.int .i64 1, .int .i64 1]) (yl_ixvA (x := .tmp 61) (y := .tmp 62) (cs := [.int .i64 1, .int .i64 1]) arr_126 agg_125 q5d rfl (by decide) rfl) <| ?_
   refine o_alloc zero_125 hS (fun b13u1 w' hS => ?_)
   refine o_storeAgg (news := [.int .i64 1, .int .i64 1]) agg_125 rfl rfl rfl (by simp [over_length]) hS (fun w' hS => ?_)
   replace hFL10 := nar_s hFL10; obtain ⟨x72u1, hx72u1, hFL10⟩ := hFL10
   replace hFL10 := nar_s hFL10; obtain ⟨x77u1, hx77u1, hFL10⟩ := hFL10
   replace hFL10 := nlv_s hFL10; obtain ⟨q0e, q74, hFL10⟩ := hFL10
   have q_ := RdM.get q1p (T_rules_Spot.mk e54.1.Layer x72u1 x77u1); obtain ⟨q2t, q8w, q2u, q75, q2v⟩ := q_
   rw [← q74] at q2v
   have e_ := q2v.n; subst e_
   refine x_done <| x_seq <| x_region <| p (yl_move q5q) <|
    p (yl_field0 fld_61_0 q1v) <| pa (at_load one_3 rfl ((hS.pull 3).cell rfl)) <| p (yl_field0 fld_61_1 q1v) <| pa (at_load one_3 rfl ((hS.pull 3).cell rfl)) <|
    p (yl_ixa (x := .tmp 13) (q := 0) arr_125 rfl rfl (by decide) rfl) <| pa (at_load one_3 rfl (hS.cell rfl)) <| p (yadd rfl rfl hx72u1) <| p (yl_field0 fld_61_2 q1v) <|
    pa (at_load one_3 rfl ((hS.pull 3).cell rfl)) <| p (yl_ixa (x := .tmp 13) (q := 1) arr_125 rfl rfl (by decide) rfl) <| pa (at_load one_3 rfl (hS.cell rfl)) <| p (yadd rfl rfl hx77u1) <|
    p (v := .agg #[.int .i64 e54.1.Layer, .int .i64 x72u1, .int .i64 x77u1]) (yl_build bld_61 bldf_61 (parts_eq (pt (va := .int .i64 e54.1.Layer) rfl (pt (va := .int .i64 x72u1) rfl (pt (va := .int .i64 x77u1) rfl pt0)))) (by kernel_rfl)) <| pa (v := .slice q2t q0e.length q2u) (at_look (k := (T_rules_Spot.mk e54.1.Layer x72u1 x77u1)) (vf := Hd.v) (d := nilH) um_123 kp_61 (zero1 zv_22) rfl rfl (hS.pull 2) q75.symm) <| p (yl_len_slice usl_22 rfl) <| p (yl_move rfl) <|
    x_done <| ?_
   replace hFL10 := nbs_j hFL10; obtain ⟨oL16u1, hLL16u1, hFL10⟩ := hFL10
   refine x_join (fun E w => ∃ (q1d : List (T_rules_Fault × Bool)) (q1e : Bool), oL16u1 (Sum.inl (q1d, q1e)) ∧ E 0 = .pointer (some ⟨q4, 0, none⟩) ∧ E 6 = .map (some b18) ∧ E 10 = .pointer (some ⟨b10, 0, none⟩) ∧ E 11 = .slice q7 e54.2.length q8 ∧ E 51 = .pointer (some ⟨b51, 0, none⟩) ∧ E 61 = .agg #[.int .i64 1, .int .i64 0, .int .i64 (-1), .int .i64 1, .int .i64 0, .int .i64 1, .int .i64 1, .int .i64 1] ∧ E 62 = .int .i64 3 ∧ St w0 w (cells q4 103 [.map (some q2), .bool q1e] :: mapA b18 kf_61 Hd.v (zipK q3 q0a) :: cells b10 61 [.int .i64 e54.1.Layer, .int .i64 e54.1.X, .int .i64 e54.1.Y] :: itA b51 b18 q3.length (q6 ++ [i52]) :: mapA q2 kf_63 Value.bool q1d :: ro q9 :: l)) ?_ ?_
   ·refine x_block ?_
    refine x_loop (fun k_ E w => ∃ (q0q : Int) (q0l : List (T_rules_Fault × Bool)) (q0m : Bool), nlp (P_rules_near_L16u1 e54 q0e) k_ (q0q, q0l, q0m) oL16u1 ∧ E 0 = .pointer (some ⟨q4, 0, none⟩) ∧ E 6 = .map (some b18) ∧ E 10 = .pointer (some ⟨b10, 0, none⟩) ∧ E 11 = .slice q7 e54.2.length q8 ∧ E 51 = .pointer (some ⟨b51, 0, none⟩) ∧ E 61 = .agg #[.int .i64 1, .int .i64 0, .int .i64 (-1), .int .i64 1, .int .i64 0, .int .i64 1, .int .i64 1, .int .i64 1] ∧ E 62 = .int .i64 3 ∧ E 79 = .slice q2t q0e.length q2u ∧ E 80 = .int .i64 (q0e.length : Int) ∧ E 81 = .int .i64 q0q ∧ St w0 w (cells q4 103 [.map (some q2), .bool q0m] :: mapA b18 kf_61 Hd.v (zipK q3 q0a) :: cells b10 61 [.int .i64 e54.1.Layer, .int .i64 e54.1.X, .int .i64 e54.1.Y] :: itA b51 b18 q3.length (q6 ++ [i52]) :: mapA q2 kf_63 Value.bool q0l :: ro q9 :: l)) fuel ⟨0, q19, q1a, hLL16u1, q7r, q5q, q1v, q71, q72, q5d, rfl, rfl, rfl, rfl, ((((((hS.drop.pull 5).pull 5).pull 5).pull 5).pull 5).pull 5)⟩ ?_
    rintro kL16u1 E w ⟨q0q, q0l, q0m, hLL16u1, q5e, q5f, q4f, q2w, q4g, q4h, q4i, q4j, q4k, q2x, hS⟩
    replace hLL16u1 := nlp_s hLL16u1; obtain ⟨kL16u1, obL16u1, rfl, hFL16u1, hLL16u1⟩ := hLL16u1
    refine x_seq <| x_region <| p (yl_lss q2x q4k) <| x_done <|
     x_seq <|
     x_cond_p (q0q < (q0e.length : Int)) rfl (fun hc82u1 => ?_) (fun hc82u1 => ?_)
    ·replace hFL16u1 := nit_t hc82u1 hFL16u1
     replace hFL16u1 := nck_s hFL16u1; obtain ⟨q5r, hFL16u1⟩ := hFL16u1
     replace hFL16u1 := nlv_s hFL16u1; obtain ⟨x84u1, hx84u1, hFL16u1⟩ := hFL16u1
     refine x_skip <| x_seq <| x_block <| x_seq <|
      x_region <| p (yix_f sl_22 q4j q2x q2v q5r) <| pa (at_load one_3 rfl (RdS.getW q2v (hS.pull 5) q5r hx84u1)) <| p (yl_assign rfl) <|
      x_done <| x_seq <| x_region <| p (yl_move q2w) <|
      p (yl_len_slice usl_22 rfl) <| p (yl_move rfl) <| x_done <| ?_
     replace hFL16u1 := nbs_j hFL16u1; obtain ⟨oL19u1, hLL19u1, hFL16u1⟩ := hFL16u1
     refine x_join (fun E w => ∃ (q1f : List (T_rules_Fault × Bool)) (q1g : Bool), oL19u1 (Sum.inl (q1f, q1g)) ∧ E 0 = .pointer (some ⟨q4, 0, none⟩) ∧ E 6 = .map (some b18) ∧ E 10 = .pointer (some ⟨b10, 0, none⟩) ∧ E 11 = .slice q7 e54.2.length q8 ∧ E 51 = .pointer (some ⟨b51, 0, none⟩) ∧ E 61 = .agg #[.int .i64 1, .int .i64 0, .int .i64 (-1), .int .i64 1, .int .i64 0, .int .i64 1, .int .i64 1, .int .i64 1] ∧ E 62 = .int .i64 3 ∧ E 79 = .slice q2t q0e.length q2u ∧ E 80 = .int .i64 (q0e.length : Int) ∧ E 81 = .int .i64 q0q ∧ St w0 w (cells q4 103 [.map (some q2), .bool q1g] :: mapA b18 kf_61 Hd.v (zipK q3 q0a) :: cells b10 61 [.int .i64 e54.1.Layer, .int .i64 e54.1.X, .int .i64 e54.1.Y] :: itA b51 b18 q3.length (q6 ++ [i52]) :: mapA q2 kf_63 Value.bool q1f :: ro q9 :: l)) ?_ ?_
     ·refine x_block ?_
      refine x_loop (fun k_ E w => ∃ (q1o : Int) (q0z : List (T_rules_Fault × Bool)) (q10 : Bool), nlp (P_rules_near_L19u1 e54 x84u1) k_ (q1o, q0z, q10) oL19u1 ∧ E 0 = .pointer (some ⟨q4, 0, none⟩) ∧ E 6 = .map (some b18) ∧ E 10 = .pointer (some ⟨b10, 0, none⟩) ∧ E 11 = .slice q7 e54.2.length q8 ∧ E 15 = .int .i64 x84u1 ∧ E 51 = .pointer (some ⟨b51, 0, none⟩) ∧ E 61 = .agg #[.int .i64 1, .int .i64 0, .int .i64 (-1), .int .i64 1, .int .i64 0, .int .i64 1, .int .i64 1, .int .i64 1] ∧ E 62 = .int .i64 3 ∧ E 79 = .slice q2t q0e.length q2u ∧ E 80 = .int .i64 (q0e.length : Int) ∧ E 81 = .int .i64 q0q ∧ E 85 = .slice q7 e54.2.length q8 ∧ E 86 = .int .i64 (e54.2.length : Int) ∧ E 87 = .int .i64 q1o ∧ St w0 w (cells q4 103 [.map (some q2), .bool q10] :: mapA b18 kf_61 Hd.v (zipK q3 q0a) :: cells b10 61 [.int .i64 e54.1.Layer, .int .i64 e54.1.X, .int .i64 e54.1.Y] :: itA b51 b18 q3.length (q6 ++ [i52]) :: mapA q2 kf_63 Value.bool q0z :: ro q9 :: l)) fuel ⟨0, q0l, q0m, hLL19u1, q5e, q5f, q4f, q2w, rfl, q4g, q4h, q4i, q4j, q4k, q2x, rfl, rfl, rfl, ((((((hS.pull 5).pull 5).pull 5).pull 5).pull 5).pull 5)⟩ ?_
      rintro kL19u1 E w ⟨q1o, q0z, q10, hLL19u1, q1w, q5g, q2y, q4l, q2z, q4m, q4n, q4o, q4p, q4q, q4r, q4s, q4t, q30, hS⟩
      replace hLL19u1 := nlp_s hLL19u1; obtain ⟨kL19u1, obL19u1, rfl, hFL19u1, hLL19u1⟩ := hLL19u1
      refine x_seq <| x_region <| p (yl_lss q30 q4t) <| x_done <|
       x_seq <|
       x_cond_p (q1o < (e54.2.length : Int)) rfl (fun hc88u1 => ?_) (fun hc88u1 => ?_)
      ·replace hFL19u1 := nit_t hc88u1 hFL19u1
       replace hFL19u1 := nck_s hFL19u1; obtain ⟨q5s, hFL19u1⟩ := hFL19u1
       replace hFL19u1 := nlv_s hFL19u1; obtain ⟨x90u1, hx90u1, hFL19u1⟩ := hFL19u1
       replace hFL19u1 := nlv_s hFL19u1; obtain ⟨x94u1, hx94u1, hFL19u1⟩ := hFL19u1
       replace hFL19u1 := nlv_s hFL19u1; obtain ⟨x97u1, hx97u1, hFL19u1⟩ := hFL19u1
       replace hFL19u1 := nbd_s hFL19u1; obtain ⟨q24, q7s, hFL19u1⟩ := hFL19u1
       refine x_skip <| x_seq <| x_block <| x_seq <|
        x_region <| p (yix_f sl_22 q4s q30 q1i q5s) <| pa (at_load one_3 rfl (RdS.getW q1i (hS.pull 5) q5s hx90u1)) <| p (yl_assign rfl) <|
        x_done <| x_seq <| x_region <| p (yl_move q1w) <|
        p (yl_move rfl) <| p (yl_move q2z) <| p (ymin' rfl rfl hx94u1) <| p (yl_move rfl) <|
        p (yl_move q2z) <| p (ymax' rfl rfl hx97u1) <| pa (v := .agg #[.int .i64 e54.1.Layer, .int .i64 e54.1.X, .int .i64 e54.1.Y]) (ld_sub agg_61 q2y rfl rfl (hS.pull 2)) <| p (v := .agg #[.int .i64 3, .int .i64 x94u1, .int .i64 x97u1, .int .i64 e54.1.Layer, .int .i64 e54.1.X, .int .i64 e54.1.Y]) (yl_build bld_63 bldf_63 (parts_eq (pt (va := .int .i64 3) rfl (pt (va := .int .i64 x94u1) rfl (pt (va := .int .i64 x97u1) rfl (pt (va := .agg #[.int .i64 e54.1.Layer, .int .i64 e54.1.X, .int .i64 e54.1.Y]) rfl pt0))))) (by kernel_rfl)) <| ?_
       have hcall := c_rules_bag_add q7s  (((hS.pull 5).pull 5).pull 2)
       refine o_cc call_63 (args2 rfl rfl) hcall ?_
       rintro e w' ⟨rfl, hS⟩
       refine ⟨_, rfl, ?_⟩
       refine x_done <| x_seq <| x_region <| p (yl_move q1w) <|
        p (yl_nilCheck rfl) <| p (yl_field0 fld_103_1 rfl) <| pa (at_load one_4 rfl (hS.cell rfl)) <| x_done <|
        x_cond (t := q24.2) rfl (fun hc104u1 => ?_) (fun hc104u1 => ?_)
       ·replace hFL19u1 := nit_t hc104u1 hFL19u1
        exact x_return ⟨_, rfl, (q24.1, q24.2), (hF _ (hLL10 _ (hFL10 _ (hLL16u1 _ (hFL16u1 _ (hLL19u1 _ hFL19u1)))))), rfl, (ro_back2 q20 ((((((hS.pull 3).drop.pull 3).drop.pull 3).drop.pull 2).pull 2).pull 2))⟩
       ·replace hFL19u1 := nit_bf hc104u1 hFL19u1
        replace hFL19u1 := nar_s hFL19u1; obtain ⟨x105u1, hx105u1, hFL19u1⟩ := hFL19u1
        refine x_skip <| x_blk <| x_region <| p (yadd q30 rfl hx105u1) <|
         p (yl_move rfl) <| x_done <| ?_
        exact x_inv ⟨kL19u1, Nat.lt_succ_self _, x105u1, q24.1, q24.2, (hLL19u1 _ hFL19u1), q1w, q5g, q2y, q4l, q2z, q4m, q4n, q4o, q4p, q4q, q4r, q4s, q4t, rfl, ((((((hS.pull 2).pull 2).pull 5).pull 5).pull 5).pull 5)⟩
      ·replace hFL19u1 := nit_f hc88u1 hFL19u1
       refine x_exitTo _ rfl <| ?_
       exact x_inv ⟨q0z, q10, (hLL19u1 _ hFL19u1), q1w, q5g, q2y, q4l, q4m, q4n, q4o, q4p, q4q, q4r, ((((((hS.pull 5).pull 5).pull 5).pull 5).pull 5).pull 5)⟩
     rintro E w ⟨q1f, q1g, hq_, q7t, q7u, q76, q77, q78, q79, q7a, q7b, q7c, q7d, hS⟩
     replace hFL16u1 := hFL16u1 _ hq_
     clear hq_
     replace hFL16u1 := nar_s hFL16u1; obtain ⟨x106u1, hx106u1, hFL16u1⟩ := hFL16u1
     refine x_blk <| x_region <| p (yadd q7d rfl hx106u1) <| p (yl_move rfl) <|
      x_done <| ?_
     exact x_inv ⟨kL16u1, Nat.lt_succ_self _, x106u1, q1f, q1g, (hLL16u1 _ hFL16u1), q7t, q7u, q76, q77, q78, q79, q7a, q7b, q7c, rfl, ((((((hS.pull 5).pull 5).pull 5).pull 5).pull 5).pull 5)⟩
    ·replace hFL16u1 := nit_f hc82u1 hFL16u1
     refine x_exitTo _ rfl <| ?_
     exact x_inv ⟨q0l, q0m, (hLL16u1 _ hFL16u1), q5e, q5f, q4f, q2w, q4g, q4h, q4i, ((((((hS.pull 5).pull 5).pull 5).pull 5).pull 5).pull 5)⟩
   rintro E w ⟨q1d, q1e, hq_, q7v, q7w, q8o, q8p, q7e, q8q, q7f, hS⟩
   replace hFL10 := hFL10 _ hq_
   clear hq_
   refine x_blk <| x_region <| p (yadd (c := 4) q7f rfl ⟨rfl, by decide⟩) <| p (yl_move rfl) <|
    x_done <| x_un 0 <| x_seq <| x_region <|
    p (ylss_l (t := false) rfl rfl (by decide)) <| x_done <| x_seq <| x_cond_f (show ev _ _ = .bool false from rfl) <|
    x_exitTo _ rfl <| x_blk <| ?_
   exact x_inv ⟨kL10, Nat.lt_succ_self _, (q6 ++ [i52]), q1d, q1e, (hLL10 _ hFL10), q7v, q7w, q7e, ((((((hS.pull 2).drop.pull 4).pull 4).pull 4).pull 4).pull 4)⟩
 rintro E w ⟨q1j, q1k, hq_, hS⟩
 replace hF := hF _ hq_
 clear hq_
 exact x_fin ⟨_, rfl, (q1j, q1k), hF, rfl, (ro_back2 q20 (((hS.pull 2).pull 2).pull 2))⟩
attribute [irreducible] P_rules_near

def P_slices_Clone_rules_Spot_rules_Spot (s0 : List T_rules_Spot) : Option (List T_rules_Spot) :=
 lv (([] : List T_rules_Spot) ++ s0) fun q2 =>
 ck (apOk 24 q2.length) <|
 some q2
theorem c_slices_Clone_rules_Spot_rules_Spot {w0 w : World} {l : List Assn} {ρ : Heap} {q6 : Option Addr} {q8 : Nat} {c_s0 : Nat} {s0 : List T_rules_Spot} {r : List T_rules_Spot} (hF : P_slices_Clone_rules_Spot_rules_Spot s0 = some r) (q7 : RdS R_rules_Spot ρ q6 q8 c_s0 s0) (hS : St w0 w (ro ρ :: l)) :
  Calls Try.prog 66 #[.slice q6 q8 c_s0] w fun e w' => ∃ (q5 : Option Addr) (q2 : Nat) (c_y0_ret : Nat) (q3 : List Value), e = .returned (.slice q5 q2 c_y0_ret) ∧ RepL R_rules_Spot ρ r q3 ∧ St w0 w' (vec 61 R_rules_Spot.sz (.slice q5 q2 c_y0_ret) q2 q3 :: ro ρ :: l) := by
 have e_ := q7.n; subst e_
 refine enterC Try.func66 rfl 8 rfl (by simp) ?_
 refine x_seq <| x_region <| p (yl_assign rfl) <| x_done <|
  x_seq <| x_seq <| x_region <| p (yl_move rfl) <|
  p (yeq_nil usl_120 rfl rfl) <| x_done <|
  x_cond (t := Option.isNone q6) rfl (fun hc4 => ?_) (fun hc4 => ?_)
 ·have hx0 : s0 = [] := RdS.nil_of q7 hc4
  have hF : some ([] : List T_rules_Spot) = some r := by rw [hx0] at hF; unfold P_slices_Clone_rules_Spot_rules_Spot at hF; simpa [lv, ck, apOk] using hF
  refine x_seq <| x_region <| p (yl_assign rfl) <| x_done <| ?_
  replace hS := St.vec_nil hS 61 R_rules_Spot.sz
  have q4 : RepL R_rules_Spot ρ [] [] := rfl
  have e_ := sinj hF; subst e_
  exact x_return ⟨_, ⟨_, _, rfl, rfl, rfl⟩, none, 0, 0, [], rfl, q4, ((hS.pull 1).pull 1)⟩
 ·skip
  refine x_skip <| x_seq <| x_region <| ?_
  refine o_buildSlice (vs := []) (cs := []) sl_120 zero_61 (parts_eq pt0) rfl (by intro v hv; cases hv) (by decide) rfl hS (fun b5 w' hS => ?_)
  refine p (yl_move rfl) <| ?_
  have q9 : RepL R_rules_Spot ρ ([] : List T_rules_Spot) [] := RepL.nil
  replace hS := St.vec_of (n := 0) (sz := R_rules_Spot.sz) hS rfl (by decide)
  have q_ := src_f usl_120 (hS.pull 1) q7; obtain ⟨nw7, hnw7, src7⟩ := q_
  replace hF := lv_s hF; obtain ⟨q0c, q0a, hF⟩ := hF
  replace hF := ck_s hF; obtain ⟨q0b, hF⟩ := hF
  refine o_ap sl_120 zero_61 rfl (by decide) rfl rfl hS q9 src7 hnw7 q0a q0b (fun A7 c7 cs7 w' hr7 hS => ?_)
  refine p (yl_assign rfl) <| x_done <| ?_
  have e_ := sinj hF; subst e_
  exact x_return ⟨_, ⟨_, _, rfl, rfl, rfl⟩, A7, q0c.length, c7, cs7, rfl, hr7, ((hS.pull 1).pull 1)⟩
attribute [irreducible] P_slices_Clone_rules_Spot_rules_Spot

def P_rules_small_1_1 (q2 : T_rules_Spot) (q3 : Int) : Option Unit :=
 some ()
theorem c_rules_small_1_1 {w0 w : World} {l : List Assn} {ρ : Heap} {q4 : Nat} {q2 : T_rules_Spot} {q3 : Int} {r : Unit} (hF : P_rules_small_1_1 q2 q3 = some r) (hS : St w0 w (cells q4 3 [.int .i64 q3] :: ro ρ :: l)) :
  Calls Try.prog 67 #[.agg #[.int .i64 q2.Layer, .int .i64 q2.X, .int .i64 q2.Y], .pointer (some ⟨q4, 0, none⟩)] w fun e w' => e = .returned (.bool (decide (q2.Layer ≠ q3))) ∧ St w0 w' (cells q4 3 [.int .i64 q3] :: ro ρ :: l) := by
 refine enterC Try.func67 rfl 8 rfl (by simp) ?_
 refine x_seq <| x_region <| ?_
 refine o_box (cs := [.int .i64 q2.Layer, .int .i64 q2.X, .int .i64 q2.Y]) rfl rfl hS (fun b2 w' hS => ?_)
 refine p (yl_assign rfl) <| x_done <| x_seq <| x_region <|
  p (yl_field0 fld_61_0 rfl) <| pa (at_load one_3 rfl (hS.cell rfl)) <| pa (at_load one_3 rfl ((hS.pull 1).cell rfl)) <| p (yl_neq rfl rfl) <|
  p (yl_assign rfl) <| x_done <| ?_
 have e_ := sinj hF; subst e_
 exact x_return ⟨_, ⟨_, _, rfl, rfl, rfl⟩, rfl, ((hS.drop.pull 1).pull 1)⟩
attribute [irreducible] P_rules_small_1_1

def P_slices_IndexFunc_rules_Spot_rules_Spot_L2 (s0 : List T_rules_Spot) (q3 : Int) : Int → Option (Int ⊕ (Unit ⊕ Int)) := fun q2 =>
 if q2 < (s0.length : Int) then
  ck (inb q2 s0.length) <|
  lv (gt s0 q2) fun q4 =>
  bd (P_rules_small_1_1 q4 q3) fun q5 =>
  if q4.Layer ≠ q3 then
   some (Sum.inr (Sum.inr q2))
  else
   ar (q2 + 1) fun x18 =>
   some (Sum.inl x18)
 else
  some (Sum.inr (Sum.inl ()))
def P_slices_IndexFunc_rules_Spot_rules_Spot (s0 : List T_rules_Spot) (q2 : Int) : Option Int :=
 bs (
  lp (P_slices_IndexFunc_rules_Spot_rules_Spot_L2 s0 q2) fuel 0) (fun y => some y) fun _ =>
 some (-1 : Int)
theorem c_slices_IndexFunc_rules_Spot_rules_Spot {w0 w : World} {l : List Assn} {ρ : Heap} {q0a : Option Addr} {q0e : Nat} {c_s0 : Nat} {q3 : Nat} {s0 : List T_rules_Spot} {q2 : Int} {r : Int} (hF : P_slices_IndexFunc_rules_Spot_rules_Spot s0 q2 = some r) (q0b : RdS R_rules_Spot ρ q0a q0e c_s0 s0) (hS : St w0 w (cells q3 3 [.int .i64 q2] :: ro ρ :: l)) :
  Calls Try.prog 80 #[.slice q0a q0e c_s0, .func (.func 67) #[] #[.pointer (some ⟨q3, 0, none⟩)]] w fun e w' => e = .returned (.int .i64 r) ∧ St w0 w' (cells q3 3 [.int .i64 q2] :: ro ρ :: l) := by
 have e_ := q0b.n; subst e_
 refine enterC Try.func80 rfl 19 rfl (by simp) ?_
 refine x_seq <| x_region <| p (yl_assign rfl) <| x_done <|
  x_seq <| x_seq <| x_region <| p (yl_move rfl) <|
  p (yl_len_slice usl_120 rfl) <| p (yl_move rfl) <| x_done <| ?_
 replace hF := bs_s hF; obtain ⟨oL2, hLL2, hF⟩ := hF
 refine x_join (fun E w => (Sum.inl (())) = oL2 ∧ St w0 w (cells q3 3 [.int .i64 q2] :: ro ρ :: l)) ?_ ?_
 ·refine x_block ?_
  refine x_loop (fun k_ E w => ∃ (q4 : Int), lp (P_slices_IndexFunc_rules_Spot_rules_Spot_L2 s0 q2) k_ q4 = some oL2 ∧ E 0 = .slice q0a s0.length c_s0 ∧ E 1 = .func (.func 67) #[] #[.pointer (some ⟨q3, 0, none⟩)] ∧ E 7 = .int .i64 (s0.length : Int) ∧ E 8 = .int .i64 q4 ∧ St w0 w (cells q3 3 [.int .i64 q2] :: ro ρ :: l)) fuel ⟨0, hLL2, rfl, rfl, rfl, rfl, ((hS.pull 1).pull 1)⟩ ?_
  rintro kL2 E w ⟨q4, hLL2, q7, q8, q9, q5, hS⟩
  replace hLL2 := lp_s hLL2; obtain ⟨kL2, obL2, rfl, hFL2, hLL2⟩ := hLL2
  refine x_seq <| x_region <| p (yl_lss q5 q9) <| x_done <|
   x_seq <|
   x_cond_p (q4 < (s0.length : Int)) rfl (fun hc9 => ?_) (fun hc9 => ?_)
  ·replace hFL2 := it_t hc9 hFL2
   replace hFL2 := ck_s hFL2; obtain ⟨q0c, hFL2⟩ := hFL2
   replace hFL2 := lv_s hFL2; obtain ⟨q6, q0f, hFL2⟩ := hFL2
   have q_ := q0b.get q0c; obtain ⟨q0i, q0d, q0g⟩ := q_
   rw [← q0f] at q0d
   have e_ := q0d; subst e_
   replace hFL2 := bd_s hFL2; obtain ⟨q0j, q0h, hFL2⟩ := hFL2
   refine x_skip <| x_seq <| x_block <| x_seq <|
    x_region <| p (yl_move q5) <| p (yl_assign rfl) <| x_done <|
    x_seq <| x_region <| p (yl_move q8) <| p (yl_move q7) <|
    p (yl_move rfl) <| p (yix_f sl_120 rfl rfl q0b q0c) <| pa (v := .agg #[.int .i64 q6.Layer, .int .i64 q6.X, .int .i64 q6.Y]) (at_loadAgg agg_61 rfl rfl (Elt.every q0g (hS.pull 1))) <| ?_
   have hcall := c_rules_small_1_1 q0h  hS
   refine o_ccv rfl call_67 (capargs (args1 rfl)) (hcall) ?_
   rintro e w' ⟨rfl, hS⟩
   refine ⟨_, rfl, ?_⟩
   refine x_done <|
    x_cond_p (q6.Layer ≠ q2) rfl (fun hc16 => ?_) (fun hc16 => ?_)
   ·replace hFL2 := it_t hc16 hFL2
    refine x_seq <| x_region <| p (yl_move rfl) <| p (yl_assign rfl) <|
     x_done <| ?_
    have e_ := sinj hFL2; subst e_
    have e_ := (show _ = oL2 from hLL2); subst e_
    have e_ := sinj hF; subst e_
    exact x_return ⟨_, ⟨_, _, rfl, rfl, rfl⟩, rfl, ((hS.pull 1).pull 1)⟩
   ·replace hFL2 := it_f hc16 hFL2
    replace hFL2 := ar_s hFL2; obtain ⟨x18, hx18, hFL2⟩ := hFL2
    refine x_skip <| x_blk <| x_region <| p (yadd q5 rfl hx18) <|
     p (yl_move rfl) <| x_done <| ?_
    have e_ := sinj hFL2; subst e_
    exact x_inv ⟨kL2, Nat.lt_succ_self _, x18, hLL2, q7, q8, q9, rfl, ((hS.pull 1).pull 1)⟩
  ·replace hFL2 := it_f hc9 hFL2
   refine x_exitTo _ rfl <| ?_
   have e_ := sinj hFL2; subst e_
   exact x_inv ⟨hLL2, ((hS.pull 1).pull 1)⟩
 rintro E w ⟨rfl, hS⟩
 refine x_seq <| x_region <| p (yl_assign rfl) <| x_done <| ?_
 have e_ := sinj hF; subst e_
 exact x_return ⟨_, ⟨_, _, rfl, rfl, rfl⟩, rfl, ((hS.pull 1).pull 1)⟩
attribute [irreducible] P_slices_IndexFunc_rules_Spot_rules_Spot

def P_slices_DeleteFunc_rules_Spot_rules_Spot_L5 (s0 : List T_rules_Spot) (q5 : Int) : (List T_rules_Spot × Int × Int) → Option ((List T_rules_Spot × Int × Int) ⊕ (List T_rules_Spot × Int)) := fun (q2, q3, q4) =>
 if q4 < (s0.length : Int) then
  ck (inb q4 q2.length) <|
  lv (gt q2 q4) fun q6 =>
  bd (P_rules_small_1_1 q6 q5) fun q0a =>
  bd (
   if (!(decide (q6.Layer ≠ q5))) = true then
    ck (inb q3 q2.length) <|
    lv (stt q2 q3 q6) fun q9 =>
    ar (q3 + 1) fun x35 =>
    some (q9, x35)
   else
    some (q2, q3)) fun (q7, q8) =>
  ar (q4 + 1) fun x21 =>
  some (Sum.inl (q7, q8, x21))
 else
  some (Sum.inr (q2, q3))
def P_slices_DeleteFunc_rules_Spot_rules_Spot (s0 : List T_rules_Spot) (q3 : Int) : Option (List T_rules_Spot) :=
 bd (P_slices_IndexFunc_rules_Spot_rules_Spot s0 q3) fun q5 =>
 if q5 = (-1) then
  some s0
 else
  ar (q5 + 1) fun x15 =>
  bd (
   lp (P_slices_DeleteFunc_rules_Spot_rules_Spot_L5 s0 q3) fuel (s0, q5, x15)) fun (q4, q2) =>
  ck (0 ≤ q2 ∧ q2 ≤ q4.length) <|
  lv (q4.take (q2 : Int).toNat ++ List.replicate (q4.length - (q2 : Int).toNat) (T_rules_Spot.mk 0 0 0)) fun q6 =>
  ck (0 ≤ (0 : Int) ∧ (0 : Int) ≤ q2 ∧ q2 ≤ q6.length) <|
  lv (sub q6 0 q2) fun x41 =>
  some x41
theorem c_slices_DeleteFunc_rules_Spot_rules_Spot {w0 w : World} {l : List Assn} {ρ : Heap} {q9 : Option Addr} {q0u : Nat} {c_s0 : Nat} {q0n : List Value} {q3 : Nat} {s0 : List T_rules_Spot} {q4 : Int} {r : List T_rules_Spot} (hF : P_slices_DeleteFunc_rules_Spot_rules_Spot s0 q4 = some r) (q0o : RepL R_rules_Spot ρ s0 q0n) (hS : St w0 w (vec 61 R_rules_Spot.sz (.slice q9 q0u c_s0) q0u q0n :: cells q3 3 [.int .i64 q4] :: ro ρ :: l)) :
  Calls Try.prog 65 #[.slice q9 q0u c_s0, .func (.func 67) #[] #[.pointer (some ⟨q3, 0, none⟩)]] w fun e w' => ∃ (ρ' : Heap) (q0i : Option Addr) (q0j : Nat) (c_y0_ret : Nat), e = .returned (.slice q0i q0j c_y0_ret) ∧ Le ρ ρ' ∧ RdS R_rules_Spot ρ' q0i q0j c_y0_ret r ∧ St w0 w' (cells q3 3 [.int .i64 q4] :: ro ρ' :: l) := by
 have e_ := St.vec_n hS q0o; subst e_
 refine enterC Try.func65 rfl 42 rfl (by simp) ?_
 replace hF := bd_s hF; obtain ⟨q0k, q1c, hF⟩ := hF
 refine x_seq <| x_region <| p (yl_assign rfl) <| x_done <|
  x_seq <| x_region <| p (yl_move rfl) <| p (yl_move rfl) <| ?_
 have q_ := St.lend ((hS.pull 2).pull 1) q0o; obtain ⟨ρl0, hll0, hlf0, hS0, back0⟩ := q_
 have hcall := c_slices_IndexFunc_rules_Spot_rules_Spot q1c hlf0 (hS0.pull 1)
 refine o_cc call_80 (args2 rfl rfl) ((Calls.mono hcall (fun e w'' h => And.intro h.1 ((((back0 (h.2.pull 1)).pull 1).pull 2).pull 2)))) ?_
 rintro e w' ⟨rfl, hS⟩
 refine ⟨_, rfl, ?_⟩
 refine p (v := .int .i64 q0k) (yl_assign rfl) <| x_done <| x_seq <| x_seq <|
  x_region <| p (v := .int .i64 q0k) (yl_move rfl) <| p (yl_eql rfl rfl) <| x_done <|
  x_cond_p (q0k = (-1)) rfl (fun hc12 => ?_) (fun hc12 => ?_)
 ·replace hF := it_t hc12 hF
  refine x_seq <| x_region <| p (yl_move rfl) <| p (yl_assign rfl) <|
   x_done <| ?_
  have q_ := St.vec_fz ((hS.pull 2).pull 1) q0o; obtain ⟨q0v, q0p, q0w, hS⟩ := q_
  have e_ := sinj hF; subst e_
  exact x_return ⟨_, ⟨_, _, rfl, rfl, rfl⟩, q0v, q9, s0.length, c_s0, rfl, q0p, q0w, (hS.pull 1)⟩
 ·replace hF := it_f hc12 hF
  replace hF := ar_s hF; obtain ⟨x15, hx15, hF⟩ := hF
  refine x_skip <| x_seq <| x_seq <| x_region <|
   p (v := .int .i64 q0k) (yl_move rfl) <| p (yadd rfl rfl hx15) <| p (yl_assign rfl) <| x_done <| ?_
  replace hF := bd_s hF; obtain ⟨oL5, hLL5, hF⟩ := hF
  refine x_join (fun E w => ∃ (q0d : List Value) (q0q : List T_rules_Spot) (q0r : Int), (q0q, q0r) = oL5 ∧ E 0 = .slice q9 s0.length c_s0 ∧ E 5 = .int .i64 q0r ∧ RepL R_rules_Spot ρ q0q q0d ∧ St w0 w (vec 61 R_rules_Spot.sz (.slice q9 s0.length c_s0) s0.length q0d :: cells q3 3 [.int .i64 q4] :: ro ρ :: l)) ?_ ?_
  ·refine x_block ?_
   refine x_loop (fun k_ E w => ∃ (q6 : List Value) (q0a : List T_rules_Spot) (q0b : Int) (q0c : Int), lp (P_slices_DeleteFunc_rules_Spot_rules_Spot_L5 s0 q4) k_ (q0a, q0b, q0c) = some oL5 ∧ E 0 = .slice q9 s0.length c_s0 ∧ E 1 = .func (.func 67) #[] #[.pointer (some ⟨q3, 0, none⟩)] ∧ E 5 = .int .i64 q0b ∧ E 6 = .int .i64 q0c ∧ RepL R_rules_Spot ρ q0a q6 ∧ St w0 w (vec 61 R_rules_Spot.sz (.slice q9 s0.length c_s0) s0.length q6 :: cells q3 3 [.int .i64 q4] :: ro ρ :: l)) fuel ⟨q0n, s0, q0k, x15, hLL5, rfl, rfl, rfl, rfl, q0o, (((hS.pull 2).pull 2).pull 2)⟩ ?_
   rintro kL5 E w ⟨q6, q0a, q0b, q0c, hLL5, q8, q0l, q0e, q0f, q5, hS⟩
   replace hLL5 := lp_s hLL5; obtain ⟨kL5, obL5, rfl, hFL5, hLL5⟩ := hLL5
   refine x_seq <| x_seq <| x_region <| p (yl_move q0f) <|
    p (yl_move q8) <| p (yl_len_slice usl_120 rfl) <| p (yl_lss rfl rfl) <| x_done <|
    x_cond_p (q0c < (s0.length : Int)) rfl (fun hc19 => ?_) (fun hc19 => ?_)
   ·replace hFL5 := it_t hc19 hFL5
    replace hFL5 := ck_s hFL5; obtain ⟨q0z, hFL5⟩ := hFL5
    replace hFL5 := lv_s hFL5; obtain ⟨q2, q1d, hFL5⟩ := hFL5
    have q_ := q5.get q0z; obtain ⟨q1l, q10, q1e⟩ := q_
    rw [← q1d] at q10
    have e_ := q10; subst e_
    refine x_skip <| x_seq <| x_block <| x_seq <|
     x_region <| p (yl_move q8) <| p (yl_move q0f) <| p (yix_o sl_120 rfl rfl hS q5 q0z) <|
     pa (v := .agg #[.int .i64 q2.Layer, .int .i64 q2.X, .int .i64 q2.Y]) (at_loadAgg agg_61 rfl rfl (EltV.every q1e hS)) <| ?_
    refine o_alloc zero_61 hS (fun b7 w' hS => ?_)
    refine o_storeAgg (news := [.int .i64 q2.Layer, .int .i64 q2.X, .int .i64 q2.Y]) agg_61 rfl rfl rfl (by simp [over_length]) hS (fun w' hS => ?_)
    replace hFL5 := bd_s hFL5; obtain ⟨q1n, q1f, hFL5⟩ := hFL5
    refine x_done <| x_seq <| x_region <| p (yl_move q0l) <|
     pa (v := .agg #[.int .i64 q2.Layer, .int .i64 q2.X, .int .i64 q2.Y]) (ld_sub agg_61 rfl rfl rfl hS) <| ?_
    have hcall := c_rules_small_1_1 q1f  ((hS.pull 3).pull 3)
    refine o_ccv rfl call_67 (capargs (args1 rfl)) ((Calls.mono hcall (fun e w'' h => And.intro h.1 ((((h.2.pull 1).pull 1).pull 3).pull 3)))) ?_
    rintro e w' ⟨rfl, hS⟩
    refine ⟨_, rfl, ?_⟩
    refine p (yl_not rfl) <| x_done <| ?_
    replace hFL5 := bd_s hFL5; obtain ⟨oc29, hFc29, hFL5⟩ := hFL5
    refine x_join (fun E w => ∃ (q7 : List Value) (q0g : List T_rules_Spot) (q0h : Int), (q0g, q0h) = oc29 ∧ E 0 = .slice q9 s0.length c_s0 ∧ E 1 = .func (.func 67) #[] #[.pointer (some ⟨q3, 0, none⟩)] ∧ E 5 = .int .i64 q0h ∧ E 6 = .int .i64 q0c ∧ RepL R_rules_Spot ρ q0g q7 ∧ St w0 w (vec 61 R_rules_Spot.sz (.slice q9 s0.length c_s0) s0.length q7 :: cells q3 3 [.int .i64 q4] :: ro ρ :: l)) ?_ ?_
    ·refine x_cond (t := !(decide (q2.Layer ≠ q4))) rfl (fun hc29 => ?_) (fun hc29 => ?_)
     ·replace hFc29 := it_t hc29 hFc29
      replace hFc29 := ck_s hFc29; obtain ⟨q11, hFc29⟩ := hFc29
      refine x_seq <| x_region <| p (yl_move q8) <| p (yl_move q0e) <|
       pa (v := .agg #[.int .i64 q2.Layer, .int .i64 q2.X, .int .i64 q2.Y]) (ld_sub agg_61 rfl rfl rfl hS) <| p (yix_o sl_120 rfl rfl (hS.pull 1) q5 q11) <| ?_
      replace hFc29 := lv_s hFc29; obtain ⟨q1j, q1g, hFc29⟩ := hFc29
      refine o_put' (news := [.int .i64 q2.Layer, .int .i64 q2.X, .int .i64 q2.Y]) sz_61 rfl rfl rfl rfl (o := 0) rfl q11 rfl (hS.pull 1) q5 (Le.refl _) (fun c hc => ok_all hc (show R_rules_Spot.ok ρ [.int .i64 q2.Layer, .int .i64 q2.X, .int .i64 q2.Y] q2 from rfl)) q1g (fun q1h w' q1i hS => ?_)
      replace hFc29 := ar_s hFc29; obtain ⟨x35, hx35, hFc29⟩ := hFc29
      refine x_done <| x_region <| p (yl_move q0e) <| p (yadd rfl rfl hx35) <|
       p (yl_assign rfl) <| x_done <| ?_
      exact x_inv ⟨q1h, q1j, x35, (sinj hFc29), q8, q0l, rfl, q0f, q1i, ((((hS.pull 1).drop.pull 2).pull 2).pull 2)⟩
     ·replace hFc29 := it_bf hc29 hFc29
      refine x_skip <| ?_
      exact x_inv ⟨q6, q0a, q0b, (sinj hFc29), q8, q0l, q0e, q0f, q5, (((hS.drop.pull 2).pull 2).pull 2)⟩
    rintro E w ⟨q7, q0g, q0h, rfl, q14, q15, q16, q17, q0x, hS⟩
    replace hFL5 := ar_s hFL5; obtain ⟨x21, hx21, hFL5⟩ := hFL5
    refine x_blk <| x_region <| p (yl_move q17) <| p (yadd rfl rfl hx21) <|
     p (yl_assign rfl) <| x_done <| ?_
    have e_ := sinj hFL5; subst e_
    exact x_inv ⟨kL5, Nat.lt_succ_self _, q7, q0g, q0h, x21, hLL5, q14, q15, q16, rfl, q0x, (((hS.pull 2).pull 2).pull 2)⟩
   ·replace hFL5 := it_f hc19 hFL5
    refine x_exitTo _ rfl <| ?_
    have e_ := sinj hFL5; subst e_
    exact x_inv ⟨q6, q0a, q0b, hLL5, q8, q0e, q5, (((hS.pull 2).pull 2).pull 2)⟩
  rintro E w ⟨q0d, q0q, q0r, rfl, q12, q13, q0m, hS⟩
  replace hF := ck_s hF; obtain ⟨q0s, hF⟩ := hF
  refine x_seq <| x_region <| p (yl_move q12) <| p (yl_move q13) <|
   p (yslc sl_120 rfl rfl hS q0m q0s) <| ?_
  replace hF := lv_s hF; obtain ⟨q1m, q18, hF⟩ := hF
  refine o_clear (z := (T_rules_Spot.mk 0 0 0)) usl_120 zero_61 rfl (show R_rules_Spot.ok ρ _ (T_rules_Spot.mk 0 0 0) from rfl) hS q0m q0s q18 (fun q1k w' q19 hS => ?_)
  refine x_done <| x_seq <| x_region <| p (yl_move q12) <|
   p (yl_move q13) <| ?_
  have q_ := St.vec_fz ((hS.pull 2).pull 1) q19; obtain ⟨q1a, q0y, q1b, hS⟩ := q_
  replace hF := ck_s hF; obtain ⟨q0t, hF⟩ := hF
  replace hF := lv_s hF; obtain ⟨x41, hx41, hF⟩ := hF
  have q_ := RdS.sub q1b q0t hx41; obtain ⟨A41, n41, c41, hd41, f41⟩ := q_
  refine p (ysub_h sl_120 rfl rfl q0t hd41) <| ?_
  have e_ := f41.n; subst e_
  refine p (yl_assign rfl) <| x_done <| ?_
  have e_ := sinj hF; subst e_
  exact x_return ⟨_, ⟨_, _, rfl, rfl, rfl⟩, q1a, A41, x41.length, c41, rfl, q0y, f41, (hS.pull 1)⟩
attribute [irreducible] P_slices_DeleteFunc_rules_Spot_rules_Spot


end Go.Proofs.Ytnnmbmgnpdcefaa.X
