/- Printed by gen.py: plain functions, and that the Go code computes them. -/
import Derived.Test.YtlolchgeedegdaaDoorXI
import Derived.Test.YtlolchgeedegdaaDoorXT
import Derived.Test.YtlolchgeedegdaaDoorGAp0
import Derived.Test.YtlolchgeedegdaaDoorGAp1
import Derived.Test.YtlolchgeedegdaaDoorGAp2
namespace Go.Proofs.YtlolchgeedegdaaDoor.X
open Go Go.RowKit
set_option linter.unusedVariables false
set_option linter.unusedSimpArgs false

def P_timing_Ends_L6 (q6 : Int) (q4 : Int) : (List T_timing_End × Int) → Option ((List T_timing_End × Int) ⊕ List T_timing_End) := fun (q3, q2) =>
 if q2 < q6 then
  lv (q3 ++ [(T_timing_End.mk q4 q2 (T_timing_Slack.mk false 0 0) (T_timing_Slack.mk false 0 0))]) fun q5 =>
  ck (apOk 64 q5.length) <|
  ar (q2 + 1) fun x27 =>
  some (Sum.inl (q5, x27))
 else
  some (Sum.inr q3)
def P_timing_Ends_L3 (n0 : T_api_Netlist) : (List T_timing_End × Int) → Option ((List T_timing_End × Int) ⊕ List T_timing_End) := fun (q3, q2) =>
 if q2 < (n0.Flops.length : Int) then
  ck (inb q2 n0.Flops.length) <|
  lv (gt n0.Flops q2) fun q5 =>
  bd (P_delay_Inputs q5) fun q6 =>
  bd (
   lp (P_timing_Ends_L6 q6 q2) fuel (q3, 0)) fun q4 =>
  ar (q2 + 1) fun x28 =>
  some (Sum.inl (q4, x28))
 else
  some (Sum.inr q3)
def P_timing_Ends_L12 (n0 : T_api_Netlist) : (List T_timing_End × Int) → Option ((List T_timing_End × Int) ⊕ List T_timing_End) := fun (q3, q2) =>
 if q2 < (n0.Outs.length : Int) then
  lv (q3 ++ [(T_timing_End.mk (-1) q2 (T_timing_Slack.mk false 0 0) (T_timing_Slack.mk false 0 0))]) fun q4 =>
  ck (apOk 64 q4.length) <|
  ar (q2 + 1) fun x40 =>
  some (Sum.inl (q4, x40))
 else
  some (Sum.inr q3)
def P_timing_Ends (n0 : T_api_Netlist) : Option (List T_timing_End) :=
 bd (
  lp (P_timing_Ends_L3 n0) fuel ([], 0)) fun q3 =>
 bd (
  lp (P_timing_Ends_L12 n0) fuel (q3, 0)) fun q2 =>
 some q2
set_option maxHeartbeats 4000000 in
set_option maxRecDepth 100000 in
theorem c_timing_Ends {w0 w : World} {l : List Assn} {ρ : Heap} {q0n : Option Addr} {q1j : Nat} {c_n0_0 : Nat} {q0o : Option Addr} {q1k : Nat} {c_n0_1 : Nat} {q5 : Option Addr} {q1l : Nat} {c_n0_2 : Nat} {q0p : Option Addr} {q1m : Nat} {c_n0_3 : Nat} {q0q : Option Addr} {q1n : Nat} {c_n0_4 : Nat} {n0 : T_api_Netlist} {r : List T_timing_End} (hF : P_timing_Ends n0 = some r) (q1z : RdS RpS ρ q0n q1j c_n0_0 n0.In) (q20 : RdS RpS ρ q0o q1k c_n0_1 n0.Out) (q1b : RdS R_api_Flop ρ q5 q1l c_n0_2 n0.Flops) (q21 : RdS R_api_Gate ρ q0p q1m c_n0_3 n0.Gates) (q22 : RdS (RpI .i64) ρ q0q q1n c_n0_4 n0.Outs) (hS : St w0 w (ro ρ :: l)) :
  Calls Tryd.prog 59 #[.agg #[.slice q0n q1j c_n0_0, .slice q0o q1k c_n0_1, .slice q5 q1l c_n0_2, .slice q0p q1m c_n0_3, .slice q0q q1n c_n0_4]] w fun e w' => ∃ (q1c : Option Addr) (q13 : Nat) (c_y0_ret : Nat) (q18 : List Value), e = .returned (.slice q1c q13 c_y0_ret) ∧ RepL R_timing_End ρ r q18 ∧ St w0 w' (vec 67 R_timing_End.sz (.slice q1c q13 c_y0_ret) q13 q18 :: ro ρ :: l) := by
 have e_ := q1z.n; subst e_
 have e_ := q20.n; subst e_
 have e_ := q1b.n; subst e_
 have e_ := q21.n; subst e_
 have e_ := q22.n; subst e_
 refine enterC Tryd.func59 rfl 42 rfl (by simp) ?_
 refine x_seq <| x_region <| ?_
 refine o_box (cs := [.slice q0n n0.In.length c_n0_0, .slice q0o n0.Out.length c_n0_1, .slice q5 n0.Flops.length c_n0_2, .slice q0p n0.Gates.length c_n0_3, .slice q0q n0.Outs.length c_n0_4]) rfl rfl hS (fun b1 w' hS => ?_)
 refine p (yl_assign rfl) <| x_done <| x_seq <| x_region <|
  p (yl_assign rfl) <| x_done <| x_seq <| x_seq <|
  x_region <| p (yl_field0 fld_30_2 rfl) <| pa (at_load one_27 rfl (hS.cell rfl)) <| p (yl_len_slice usl_27 rfl) <|
  p (yl_move rfl) <| x_done <| ?_
 replace hF := bd_s hF; obtain ⟨oL3, hLL3, hF⟩ := hF
 refine x_join (fun E w => ∃ (q0s : Option Addr) (q0t : Nat) (c_out3_L3 : Nat) (q0g : List Value) (q0x : List T_timing_End), q0x = oL3 ∧ E 1 = .pointer (some ⟨b1, 0, none⟩) ∧ E 3 = .slice q0s q0t c_out3_L3 ∧ RepL R_timing_End ρ q0x q0g ∧ St w0 w (cells b1 30 [.slice q0n n0.In.length c_n0_0, .slice q0o n0.Out.length c_n0_1, .slice q5 n0.Flops.length c_n0_2, .slice q0p n0.Gates.length c_n0_3, .slice q0q n0.Outs.length c_n0_4] :: vec 67 R_timing_End.sz (.slice q0s q0t c_out3_L3) q0t q0g :: ro ρ :: l)) ?_ ?_
 ·refine x_block ?_
  replace hS := St.vec_nil hS 67 R_timing_End.sz
  have q15 : RepL R_timing_End ρ [] [] := rfl
  refine x_loop (fun k_ E w => ∃ (q9 : Option Addr) (q0h : Nat) (c_out3_L3h : Nat) (q6 : List Value) (q7 : List T_timing_End) (q2 : Int), lp (P_timing_Ends_L3 n0) k_ (q7, q2) = some oL3 ∧ E 1 = .pointer (some ⟨b1, 0, none⟩) ∧ E 3 = .slice q9 q0h c_out3_L3h ∧ E 9 = .slice q5 n0.Flops.length c_n0_2 ∧ E 10 = .int .i64 (n0.Flops.length : Int) ∧ E 11 = .int .i64 q2 ∧ RepL R_timing_End ρ q7 q6 ∧ St w0 w (cells b1 30 [.slice q0n n0.In.length c_n0_0, .slice q0o n0.Out.length c_n0_1, .slice q5 n0.Flops.length c_n0_2, .slice q0p n0.Gates.length c_n0_3, .slice q0q n0.Outs.length c_n0_4] :: vec 67 R_timing_End.sz (.slice q9 q0h c_out3_L3h) q0h q6 :: ro ρ :: l)) fuel ⟨none, 0, 0, [], [], 0, hLL3, rfl, rfl, rfl, rfl, rfl, q15, (((hS.pull 2).pull 1).pull 2)⟩ ?_
  rintro kL3 E w ⟨q9, q0h, c_out3_L3h, q6, q7, q2, hLL3, q1o, q1p, q1q, q1e, q12, q0z, hS⟩
  have e_ := St.vec_n (hS.pull 1) q0z; subst e_
  replace hLL3 := lp_s hLL3; obtain ⟨kL3, obL3, rfl, hFL3, hLL3⟩ := hLL3
  refine x_seq <| x_region <| p (yl_lss q12 q1e) <| x_done <|
   x_seq <|
   x_cond_p (q2 < (n0.Flops.length : Int)) rfl (fun hc12 => ?_) (fun hc12 => ?_)
  ·replace hFL3 := it_t hc12 hFL3
   replace hFL3 := ck_s hFL3; obtain ⟨q1w, hFL3⟩ := hFL3
   replace hFL3 := lv_s hFL3; obtain ⟨q8, q29, hFL3⟩ := hFL3
   have q_ := q1b.get q1w; obtain ⟨q2j, q1x, q2a⟩ := q_
   rw [← q29] at q1x
   have e_ := q1x; subst e_
   refine x_skip <| x_seq <| x_block <| x_seq <|
    x_region <| p (yl_move q12) <| p (yix_f sl_27 q1q q12 q1b q1w) <| pa (v := .agg #[.string q8.Name, .int .i64 q8.Cell, .int .i64 q8.D, .int .i64 q8.En, .bool q8.Init]) (at_loadAgg agg_135 rfl rfl (Elt.every q2a (hS.pull 2))) <| ?_
   refine o_alloc zero_135 hS (fun b5 w' hS => ?_)
   refine p (yl_assign rfl) <| ?_
   refine o_storeAgg (news := [.string q8.Name, .int .i64 q8.Cell, .int .i64 q8.D, .int .i64 q8.En, .bool q8.Init]) agg_135 rfl rfl rfl (by simp [over_length]) hS (fun w' hS => ?_)
   replace hFL3 := bd_s hFL3; obtain ⟨q1v, q2b, hFL3⟩ := hFL3
   refine x_done <| x_seq <| x_region <| pa (v := .agg #[.string q8.Name, .int .i64 q8.Cell, .int .i64 q8.D, .int .i64 q8.En, .bool q8.Init]) (ld_sub agg_135 rfl rfl rfl hS) <| ?_
   have hcall := c_delay_Inputs q2b  (hS.pull 3)
   refine o_cc call_113 (args1 rfl) ((Calls.mono hcall (fun e w'' h => And.intro h.1 (((h.2.pull 3).pull 3).pull 3)))) ?_
   rintro e w' ⟨rfl, hS⟩
   refine ⟨_, rfl, ?_⟩
   refine p (yl_move rfl) <| x_done <| ?_
   replace hFL3 := bd_s hFL3; obtain ⟨oL6, hLL6, hFL3⟩ := hFL3
   refine x_join (fun E w => ∃ (q0u : Option Addr) (q0v : Nat) (c_out3_L6 : Nat) (q0i : List Value) (q0y : List T_timing_End), q0y = oL6 ∧ E 1 = .pointer (some ⟨b1, 0, none⟩) ∧ E 3 = .slice q0u q0v c_out3_L6 ∧ E 9 = .slice q5 n0.Flops.length c_n0_2 ∧ E 10 = .int .i64 (n0.Flops.length : Int) ∧ E 11 = .int .i64 q2 ∧ RepL R_timing_End ρ q0y q0i ∧ St w0 w (cells b1 30 [.slice q0n n0.In.length c_n0_0, .slice q0o n0.Out.length c_n0_1, .slice q5 n0.Flops.length c_n0_2, .slice q0p n0.Gates.length c_n0_3, .slice q0q n0.Outs.length c_n0_4] :: vec 67 R_timing_End.sz (.slice q0u q0v c_out3_L6) q0v q0i :: ro ρ :: l)) ?_ ?_
   ·refine x_block ?_
    refine x_loop (fun k_ E w => ∃ (q0j : Option Addr) (q0k : Nat) (c_out3_L6h : Nat) (q0b : List Value) (q0r : List T_timing_End) (q4 : Int), lp (P_timing_Ends_L6 q1v q2) k_ (q0r, q4) = some oL6 ∧ E 1 = .pointer (some ⟨b1, 0, none⟩) ∧ E 3 = .slice q0j q0k c_out3_L6h ∧ E 4 = .int .i64 q2 ∧ E 9 = .slice q5 n0.Flops.length c_n0_2 ∧ E 10 = .int .i64 (n0.Flops.length : Int) ∧ E 11 = .int .i64 q2 ∧ E 17 = .int .i64 q1v ∧ E 18 = .int .i64 q4 ∧ RepL R_timing_End ρ q0r q0b ∧ St w0 w (cells b1 30 [.slice q0n n0.In.length c_n0_0, .slice q0o n0.Out.length c_n0_1, .slice q5 n0.Flops.length c_n0_2, .slice q0p n0.Gates.length c_n0_3, .slice q0q n0.Outs.length c_n0_4] :: vec 67 R_timing_End.sz (.slice q0j q0k c_out3_L6h) q0k q0b :: ro ρ :: l)) fuel ⟨q9, q7.length, c_out3_L3h, q6, q7, 0, hLL6, q1o, q1p, rfl, q1q, q1e, q12, rfl, rfl, q0z, (((hS.drop.pull 2).pull 2).pull 2)⟩ ?_
    rintro kL6 E w ⟨q0j, q0k, c_out3_L6h, q0b, q0r, q4, hLL6, q1r, q1s, q1t, q1u, q1f, q1g, q1h, q17, q10, hS⟩
    have e_ := St.vec_n (hS.pull 1) q10; subst e_
    replace hLL6 := lp_s hLL6; obtain ⟨kL6, obL6, rfl, hFL6, hLL6⟩ := hLL6
    refine x_seq <| x_region <| p (yl_lss q17 q1h) <| x_done <|
     x_seq <|
     x_cond_p (q4 < q1v) rfl (fun hc19 => ?_) (fun hc19 => ?_)
    ·replace hFL6 := it_t hc19 hFL6
     refine x_skip <| x_seq <| x_block <| x_seq <|
      x_region <| p (yl_move q17) <| p (yl_assign rfl) <| x_done <|
      x_region <| p (yl_move q1s) <| p (yl_move q1t) <| p (yl_move rfl) <|
      p (v := .agg #[.int .i64 q2, .int .i64 q4, .bool false, .int .i64 0, .int .i64 0, .bool false, .int .i64 0, .int .i64 0]) (yl_build bld_67 bldf_67 (parts_eq (pt (va := .int .i64 q2) rfl (pt (va := .int .i64 q4) rfl pt0))) (by kernel_rfl)) <| ?_
     refine o_buildSlice (vs := [.agg #[.int .i64 q2, .int .i64 q4, .bool false, .int .i64 0, .int .i64 0, .bool false, .int .i64 0, .int .i64 0]]) (cs := [.int .i64 q2, .int .i64 q4, .bool false, .int .i64 0, .int .i64 0, .bool false, .int .i64 0, .int .i64 0]) sl_61 zero_67 (parts_eq (pt (va := .agg #[.int .i64 q2, .int .i64 q4, .bool false, .int .i64 0, .int .i64 0, .bool false, .int .i64 0, .int .i64 0]) rfl pt0)) rfl (by intro v hv; simp only [List.mem_cons, List.not_mem_nil, or_false] at hv; first | (subst hv; rfl) | (rcases hv with rfl <;> rfl)) (by decide) rfl hS (fun b25 w' hS => ?_)
     replace hFL6 := lv_s hFL6; obtain ⟨q23, q2c, hFL6⟩ := hFL6
     replace hFL6 := ck_s hFL6; obtain ⟨q2d, hFL6⟩ := hFL6
     refine o_ap sl_61 zero_67 rfl (by decide) rfl rfl (hS.pull 2) q10 (src_blk usl_61 hS rfl rfl) (RepL.cons (R := R_timing_End) (ρ := ρ) (x := (T_timing_End.mk q2 q4 (T_timing_Slack.mk false 0 0) (T_timing_Slack.mk false 0 0))) (cs := [.int .i64 q2, .int .i64 q4, .bool false, .int .i64 0, .int .i64 0, .bool false, .int .i64 0, .int .i64 0]) rfl RepL.nil) q2c q2d (fun A26 c26 cs26 w' hr26 hS => ?_)
     replace hFL6 := ar_s hFL6; obtain ⟨x27, hx27, hFL6⟩ := hFL6
     refine p (yl_assign rfl) <| x_done <| x_blk <| x_region <|
      p (yadd q17 rfl hx27) <| p (yl_move rfl) <| x_done <| ?_
     have e_ := Option.some.inj (show some _ = some _ from hFL6); subst e_
     exact x_inv ⟨kL6, Nat.lt_succ_self _, A26, q23.length, c26, cs26, q23, x27, hLL6, q1r, rfl, q1t, q1u, q1f, q1g, q1h, rfl, hr26, ((((hS.pull 1).drop.pull 2).pull 1).pull 2)⟩
    ·replace hFL6 := it_f hc19 hFL6
     refine x_exitTo _ rfl <| ?_
     have e_ := Option.some.inj (show some _ = some _ from hFL6); subst e_
     exact x_inv ⟨q0j, q0r.length, c_out3_L6h, q0b, q0r, hLL6, q1r, q1s, q1u, q1f, q1g, q10, (((hS.pull 2).pull 2).pull 2)⟩
   rintro E w ⟨q0u, q0v, c_out3_L6, q0i, q0y, rfl, q2e, q2f, q2g, q24, q25, q19, hS⟩
   have e_ := St.vec_n (hS.pull 1) q19; subst e_
   replace hFL3 := ar_s hFL3; obtain ⟨x28, hx28, hFL3⟩ := hFL3
   refine x_blk <| x_region <| p (yadd q25 rfl hx28) <| p (yl_move rfl) <|
    x_done <| ?_
   have e_ := Option.some.inj (show some _ = some _ from hFL3); subst e_
   exact x_inv ⟨kL3, Nat.lt_succ_self _, q0u, q0y.length, c_out3_L6, q0i, q0y, x28, hLL3, q2e, q2f, q2g, q24, rfl, q19, (((hS.pull 2).pull 2).pull 2)⟩
  ·replace hFL3 := it_f hc12 hFL3
   refine x_exitTo _ rfl <| ?_
   have e_ := Option.some.inj (show some _ = some _ from hFL3); subst e_
   exact x_inv ⟨q9, q7.length, c_out3_L3h, q6, q7, hLL3, q1o, q1p, q0z, (((hS.pull 2).pull 2).pull 2)⟩
 rintro E w ⟨q0s, q0t, c_out3_L3, q0g, q0x, rfl, q2h, q2i, q1a, hS⟩
 have e_ := St.vec_n (hS.pull 1) q1a; subst e_
 refine x_seq <| x_seq <| x_region <| p (yl_field0 fld_30_4 q2h) <|
  pa (at_load one_22 rfl (hS.cell rfl)) <| p (yl_len_slice usl_22 rfl) <| p (yl_move rfl) <| x_done <| ?_
 replace hF := bd_s hF; obtain ⟨oL12, hLL12, hF⟩ := hF
 refine x_join (fun E w => ∃ (q0l : Option Addr) (q0m : Nat) (c_out3_L12 : Nat) (q0c : List Value) (q11 : List T_timing_End), q11 = oL12 ∧ E 3 = .slice q0l q0m c_out3_L12 ∧ RepL R_timing_End ρ q11 q0c ∧ St w0 w (vec 67 R_timing_End.sz (.slice q0l q0m c_out3_L12) q0m q0c :: ro ρ :: l)) ?_ ?_
 ·refine x_block ?_
  refine x_loop (fun k_ E w => ∃ (q0d : Option Addr) (q0e : Nat) (c_out3_L12h : Nat) (q0a : List Value) (q0f : List T_timing_End) (q3 : Int), lp (P_timing_Ends_L12 n0) k_ (q0f, q3) = some oL12 ∧ E 3 = .slice q0d q0e c_out3_L12h ∧ E 31 = .int .i64 (n0.Outs.length : Int) ∧ E 32 = .int .i64 q3 ∧ RepL R_timing_End ρ q0f q0a ∧ St w0 w (vec 67 R_timing_End.sz (.slice q0d q0e c_out3_L12h) q0e q0a :: ro ρ :: l)) fuel ⟨q0s, q0x.length, c_out3_L3, q0g, q0x, 0, hLL12, q2i, rfl, rfl, q1a, ((hS.drop.pull 1).pull 1)⟩ ?_
  rintro kL12 E w ⟨q0d, q0e, c_out3_L12h, q0a, q0f, q3, hLL12, q1i, q1d, q14, q0w, hS⟩
  have e_ := St.vec_n hS q0w; subst e_
  replace hLL12 := lp_s hLL12; obtain ⟨kL12, obL12, rfl, hFL12, hLL12⟩ := hLL12
  refine x_seq <| x_region <| p (yl_lss q14 q1d) <| x_done <|
   x_seq <|
   x_cond_p (q3 < (n0.Outs.length : Int)) rfl (fun hc33 => ?_) (fun hc33 => ?_)
  ·replace hFL12 := it_t hc33 hFL12
   refine x_skip <| x_seq <| x_block <| x_seq <|
    x_region <| p (yl_move q14) <| p (yl_assign rfl) <| x_done <|
    x_region <| p (yl_move q1i) <| p (yl_move rfl) <| p (v := .agg #[.int .i64 (-1), .int .i64 q3, .bool false, .int .i64 0, .int .i64 0, .bool false, .int .i64 0, .int .i64 0]) (yl_build bld_67 bldf_67 (parts_eq (pt (va := .int .i64 (-1)) rfl (pt (va := .int .i64 q3) rfl pt0))) (by kernel_rfl)) <| ?_
   refine o_buildSlice (vs := [.agg #[.int .i64 (-1), .int .i64 q3, .bool false, .int .i64 0, .int .i64 0, .bool false, .int .i64 0, .int .i64 0]]) (cs := [.int .i64 (-1), .int .i64 q3, .bool false, .int .i64 0, .int .i64 0, .bool false, .int .i64 0, .int .i64 0]) sl_61 zero_67 (parts_eq (pt (va := .agg #[.int .i64 (-1), .int .i64 q3, .bool false, .int .i64 0, .int .i64 0, .bool false, .int .i64 0, .int .i64 0]) rfl pt0)) rfl (by intro v hv; simp only [List.mem_cons, List.not_mem_nil, or_false] at hv; first | (subst hv; rfl) | (rcases hv with rfl <;> rfl)) (by decide) rfl hS (fun b38 w' hS => ?_)
   replace hFL12 := lv_s hFL12; obtain ⟨q1y, q26, hFL12⟩ := hFL12
   replace hFL12 := ck_s hFL12; obtain ⟨q27, hFL12⟩ := hFL12
   refine o_ap sl_61 zero_67 rfl (by decide) rfl rfl (hS.pull 1) q0w (src_blk usl_61 hS rfl rfl) (RepL.cons (R := R_timing_End) (ρ := ρ) (x := (T_timing_End.mk (-1) q3 (T_timing_Slack.mk false 0 0) (T_timing_Slack.mk false 0 0))) (cs := [.int .i64 (-1), .int .i64 q3, .bool false, .int .i64 0, .int .i64 0, .bool false, .int .i64 0, .int .i64 0]) rfl RepL.nil) q26 q27 (fun A39 c39 cs39 w' hr39 hS => ?_)
   replace hFL12 := ar_s hFL12; obtain ⟨x40, hx40, hFL12⟩ := hFL12
   refine p (yl_assign rfl) <| x_done <| x_blk <| x_region <|
    p (yadd q14 rfl hx40) <| p (yl_move rfl) <| x_done <| ?_
   have e_ := Option.some.inj (show some _ = some _ from hFL12); subst e_
   exact x_inv ⟨kL12, Nat.lt_succ_self _, A39, q1y.length, c39, cs39, q1y, x40, hLL12, rfl, q1d, rfl, hr39, (((hS.pull 1).drop.pull 1).pull 1)⟩
  ·replace hFL12 := it_f hc33 hFL12
   refine x_exitTo _ rfl <| ?_
   have e_ := Option.some.inj (show some _ = some _ from hFL12); subst e_
   exact x_inv ⟨q0d, q0f.length, c_out3_L12h, q0a, q0f, hLL12, q1i, q0w, ((hS.pull 1).pull 1)⟩
 rintro E w ⟨q0l, q0m, c_out3_L12, q0c, q11, rfl, q28, q16, hS⟩
 have e_ := St.vec_n hS q16; subst e_
 refine x_seq <| x_region <| p (yl_move q28) <| p (yl_assign rfl) <|
  x_done <| ?_
 have e_ := Option.some.inj (show some _ = some _ from hF); subst e_
 exact x_return ⟨_, ⟨_, _, rfl, rfl, rfl⟩, q0l, q11.length, c_out3_L12, q0c, rfl, q16, ((hS.pull 1).pull 1)⟩
attribute [irreducible] P_timing_Ends

def P_timing_Starts (n0 : T_api_Netlist) : Option Int :=
 ar ((n0.In.length : Int) + (n0.Flops.length : Int)) fun x9 =>
 some x9
set_option maxHeartbeats 4000000 in
set_option maxRecDepth 100000 in
theorem c_timing_Starts {w0 w : World} {l : List Assn} {ρ : Heap} {q2 : Option Addr} {q7 : Nat} {c_n0_0 : Nat} {q3 : Option Addr} {q8 : Nat} {c_n0_1 : Nat} {q4 : Option Addr} {q9 : Nat} {c_n0_2 : Nat} {q5 : Option Addr} {q0a : Nat} {c_n0_3 : Nat} {q6 : Option Addr} {q0b : Nat} {c_n0_4 : Nat} {n0 : T_api_Netlist} {r : Int} (hF : P_timing_Starts n0 = some r) (q0c : RdS RpS ρ q2 q7 c_n0_0 n0.In) (q0d : RdS RpS ρ q3 q8 c_n0_1 n0.Out) (q0e : RdS R_api_Flop ρ q4 q9 c_n0_2 n0.Flops) (q0f : RdS R_api_Gate ρ q5 q0a c_n0_3 n0.Gates) (q0g : RdS (RpI .i64) ρ q6 q0b c_n0_4 n0.Outs) (hS : St w0 w (ro ρ :: l)) :
  Calls Tryd.prog 60 #[.agg #[.slice q2 q7 c_n0_0, .slice q3 q8 c_n0_1, .slice q4 q9 c_n0_2, .slice q5 q0a c_n0_3, .slice q6 q0b c_n0_4]] w fun e w' => e = .returned (.int .i64 r) ∧ St w0 w' (ro ρ :: l) := by
 have e_ := q0c.n; subst e_
 have e_ := q0d.n; subst e_
 have e_ := q0e.n; subst e_
 have e_ := q0f.n; subst e_
 have e_ := q0g.n; subst e_
 refine enterC Tryd.func60 rfl 10 rfl (by simp) ?_
 refine x_seq <| x_region <| ?_
 refine o_box (cs := [.slice q2 n0.In.length c_n0_0, .slice q3 n0.Out.length c_n0_1, .slice q4 n0.Flops.length c_n0_2, .slice q5 n0.Gates.length c_n0_3, .slice q6 n0.Outs.length c_n0_4]) rfl rfl hS (fun b1 w' hS => ?_)
 replace hF := ar_s hF; obtain ⟨x9, hx9, hF⟩ := hF
 refine p (yl_assign rfl) <| x_done <| x_seq <| x_region <|
  p (yl_field0 fld_30_0 rfl) <| pa (at_load one_26 rfl (hS.cell rfl)) <| p (yl_len_slice usl_26 rfl) <| p (yl_field0 fld_30_2 rfl) <|
  pa (at_load one_27 rfl (hS.cell rfl)) <| p (yl_len_slice usl_27 rfl) <| p (yadd rfl rfl hx9) <| p (yl_assign rfl) <|
  x_done <| ?_
 have e_ := Option.some.inj (show some _ = some _ from hF); subst e_
 exact x_return ⟨_, ⟨_, _, rfl, rfl, rfl⟩, rfl, hS.drop⟩
attribute [irreducible] P_timing_Starts

def P_clocks_At_L2 (l_0 : T_clocks_Limits) (input1 : ByteArray) : Int → Option (Int ⊕ (Unit ⊕ T_tree_Window)) := fun q2 =>
 if q2 < (l_0.Inputs.length : Int) then
  ck (inb q2 l_0.Inputs.length) <|
  lv (gt l_0.Inputs q2) fun q3 =>
  if q3.Name = input1 then
   some (Sum.inr (Sum.inr (T_tree_Window.mk q3.At.Lo q3.At.Hi)))
  else
   ar (q2 + 1) fun x20 =>
   some (Sum.inl x20)
 else
  some (Sum.inr (Sum.inl ()))
def P_clocks_At (l_0 : T_clocks_Limits) (input1 : ByteArray) : Option T_tree_Window :=
 bs (
  lp (P_clocks_At_L2 l_0 input1) fuel 0) (fun y => some y) fun _ =>
 some (T_tree_Window.mk 0 0)
set_option maxHeartbeats 4000000 in
set_option maxRecDepth 100000 in
theorem c_clocks_At {w0 w : World} {l : List Assn} {ρ : Heap} {q3 : Option Addr} {q0a : Nat} {c_l_0_1 : Nat} {q6 : Option Addr} {q0b : Nat} {c_l_0_2 : Nat} {q7 : Option Addr} {q0c : Nat} {c_l_0_3 : Nat} {l_0 : T_clocks_Limits} {input1 : ByteArray} {r : T_tree_Window} (hF : P_clocks_At l_0 input1 = some r) (q8 : RdS R_clocks_Input ρ q3 q0a c_l_0_1 l_0.Inputs) (q0j : RdS R_clocks_Output ρ q6 q0b c_l_0_2 l_0.Outputs) (q0k : RdS R_clocks_Path ρ q7 q0c c_l_0_3 l_0.Paths) (hS : St w0 w (ro ρ :: l)) :
  Calls Tryd.prog 154 #[.agg #[.int .i64 l_0.Period, .slice q3 q0a c_l_0_1, .slice q6 q0b c_l_0_2, .slice q7 q0c c_l_0_3], .string input1] w fun e w' => e = .returned (.agg #[.int .i64 r.Lo, .int .i64 r.Hi]) ∧ St w0 w' (ro ρ :: l) := by
 have e_ := q8.n; subst e_
 have e_ := q0j.n; subst e_
 have e_ := q0k.n; subst e_
 refine enterC Tryd.func154 rfl 22 rfl (by simp) ?_
 refine x_seq <| x_region <| ?_
 refine o_box (cs := [.int .i64 l_0.Period, .slice q3 l_0.Inputs.length c_l_0_1, .slice q6 l_0.Outputs.length c_l_0_2, .slice q7 l_0.Paths.length c_l_0_3]) rfl rfl hS (fun b2 w' hS => ?_)
 refine o_alloc zero_70 hS (fun b4 w' hS => ?_)
 refine x_done <| x_seq <| x_seq <| x_region <|
  p (yl_field0 fld_56_1 rfl) <| pa (at_load one_52 rfl ((hS.pull 1).cell rfl)) <| p (yl_len_slice usl_52 rfl) <| p (yl_move rfl) <|
  x_done <| ?_
 replace hF := bs_s hF; obtain ⟨oL2, hLL2, hF⟩ := hF
 refine x_join (fun E w => (Sum.inl (())) = oL2 ∧ E 4 = .pointer (some ⟨b4, 0, none⟩) ∧ St w0 w (cells b4 70 [.int .i64 0, .int .i64 0] :: ro ρ :: l)) ?_ ?_
 ·refine x_block ?_
  refine x_loop (fun k_ E w => ∃ (q4 : Int), lp (P_clocks_At_L2 l_0 input1) k_ q4 = some oL2 ∧ E 1 = .string input1 ∧ E 4 = .pointer (some ⟨b4, 0, none⟩) ∧ E 8 = .slice q3 l_0.Inputs.length c_l_0_1 ∧ E 9 = .int .i64 (l_0.Inputs.length : Int) ∧ E 10 = .int .i64 q4 ∧ St w0 w (cells b4 70 [.int .i64 0, .int .i64 0] :: ro ρ :: l)) fuel ⟨0, hLL2, rfl, rfl, rfl, rfl, rfl, (((hS.pull 1).drop.pull 1).pull 1)⟩ ?_
  rintro kL2 E w ⟨q4, hLL2, q0d, q5, q0e, q0f, q9, hS⟩
  replace hLL2 := lp_s hLL2; obtain ⟨kL2, obL2, rfl, hFL2, hLL2⟩ := hLL2
  refine x_seq <| x_region <| p (yl_lss q9 q0f) <| x_done <|
   x_seq <|
   x_cond_p (q4 < (l_0.Inputs.length : Int)) rfl (fun hc11 => ?_) (fun hc11 => ?_)
  ·replace hFL2 := it_t hc11 hFL2
   replace hFL2 := ck_s hFL2; obtain ⟨q0g, hFL2⟩ := hFL2
   replace hFL2 := lv_s hFL2; obtain ⟨q2, q0l, hFL2⟩ := hFL2
   have q_ := q8.get q0g; obtain ⟨q0n, q0h, q0m⟩ := q_
   rw [← q0l] at q0h
   have e_ := q0h; subst e_
   refine x_skip <| x_seq <| x_block <| x_seq <|
    x_region <| p (yix_f sl_52 q0e q9 q8 q0g) <| pa (v := .agg #[.string q2.Name, .int .i64 q2.At.Lo, .int .i64 q2.At.Hi]) (at_loadAgg agg_156 rfl rfl (Elt.every q0m (hS.pull 1))) <| ?_
   refine o_alloc zero_156 hS (fun b6 w' hS => ?_)
   refine o_storeAgg (news := [.string q2.Name, .int .i64 q2.At.Lo, .int .i64 q2.At.Hi]) agg_156 rfl rfl rfl (by simp [over_length]) hS (fun w' hS => ?_)
   refine x_done <| x_seq <| x_region <| p (yl_field0 fld_156_0 rfl) <|
    pa (at_load one_9 rfl (hS.cell rfl)) <| p (yl_move q0d) <| p (yl_eql_string rfl rfl) <| x_done <|
    x_cond_p (q2.Name = input1) rfl (fun hc17 => ?_) (fun hc17 => ?_)
   ·replace hFL2 := it_t hc17 hFL2
    refine x_seq <| x_region <| p (yl_field0 fld_156_1 rfl) <| pa (v := .agg #[.int .i64 q2.At.Lo, .int .i64 q2.At.Hi]) (ld_sub agg_70 rfl rfl rfl hS) <| ?_
    refine o_storeAgg (news := [.int .i64 q2.At.Lo, .int .i64 q2.At.Hi]) agg_70 q5 rfl rfl (by simp [over_length]) (hS.pull 1) (fun w' hS => ?_)
    refine x_done <| ?_
    have e_ := Option.some.inj (show some _ = some _ from hFL2); subst e_
    have e_ := (show _ = oL2 from hLL2); subst e_
    have e_ := Option.some.inj (show some _ = some _ from hF); subst e_
    exact x_return ⟨_, ⟨_, _, _, rfl, q5, ldvA agg_70 rfl (fun j v hj => by rw [add0]; exact St.cell hS hj), rfl⟩, rfl, hS.drop.drop⟩
   ·replace hFL2 := it_f hc17 hFL2
    replace hFL2 := ar_s hFL2; obtain ⟨x20, hx20, hFL2⟩ := hFL2
    refine x_skip <| x_blk <| x_region <| p (yadd q9 rfl hx20) <|
     p (yl_move rfl) <| x_done <| ?_
    have e_ := Option.some.inj (show some _ = some _ from hFL2); subst e_
    exact x_inv ⟨kL2, Nat.lt_succ_self _, x20, hLL2, q0d, q5, q0e, q0f, rfl, ((hS.drop.pull 1).pull 1)⟩
  ·replace hFL2 := it_f hc11 hFL2
   refine x_exitTo _ rfl <| ?_
   have e_ := Option.some.inj (show some _ = some _ from hFL2); subst e_
   exact x_inv ⟨hLL2, q5, ((hS.pull 1).pull 1)⟩
 rintro E w ⟨rfl, q0i, hS⟩
 refine x_seq <| x_region <| p (v := .agg #[.int .i64 0, .int .i64 0]) (yl_build bld_70 bldf_70 (parts_eq pt0) (by kernel_rfl)) <| ?_
 refine o_storeAgg (news := [.int .i64 0, .int .i64 0]) agg_70 q0i rfl rfl (by simp [over_length]) hS (fun w' hS => ?_)
 refine x_done <| ?_
 have e_ := Option.some.inj (show some _ = some _ from hF); subst e_
 exact x_return ⟨_, ⟨_, _, _, rfl, q0i, ldvA agg_70 rfl (fun j v hj => by rw [add0]; exact St.cell hS hj), rfl⟩, rfl, hS.drop⟩
attribute [irreducible] P_clocks_At

def P_timing_leaves (j0 : T_timing_Job) (start1 : Int) : Option T_tree_Window :=
 if start1 < (j0.Net.In.length : Int) then
  ck (inb start1 j0.Net.In.length) <|
  lv (gt j0.Net.In start1) fun x21 =>
  bd (P_clocks_At (T_clocks_Limits.mk j0.Limits.Period j0.Limits.Inputs j0.Limits.Outputs j0.Limits.Paths) x21) fun q4 =>
  some q4
 else
  ar (start1 - (j0.Net.In.length : Int)) fun x28 =>
  ck (inb x28 j0.Delays.Clock.length) <|
  lv (gt j0.Delays.Clock x28) fun q3 =>
  ck (inb x28 j0.Delays.Launch.length) <|
  lv (gt j0.Delays.Launch x28) fun q2 =>
  ar (q3.Lo + q2.Lo) fun x45 =>
  ar (q3.Hi + q2.Hi) fun x50 =>
  some (T_tree_Window.mk x45 x50)
set_option maxHeartbeats 4000000 in
set_option maxRecDepth 100000 in
theorem c_timing_leaves {w0 w : World} {l : List Assn} {ρ : Heap} {q9 : Option Addr} {q17 : Nat} {c_j0_0 : Nat} {q0a : Option Addr} {q18 : Nat} {c_j0_1 : Nat} {q0b : Option Addr} {q19 : Nat} {c_j0_2 : Nat} {q0c : Option Addr} {q1a : Nat} {c_j0_3 : Nat} {q0d : Option Addr} {q1b : Nat} {c_j0_4 : Nat} {q0e : Option Addr} {q1c : Nat} {c_j0_5 : Nat} {q0f : Option Addr} {q1d : Nat} {c_j0_6 : Nat} {q0g : Option Addr} {q1e : Nat} {c_j0_7 : Nat} {q0h : Option Addr} {q1f : Nat} {c_j0_8 : Nat} {q3 : Option Addr} {q1g : Nat} {c_j0_9 : Nat} {q2 : Option Addr} {q0z : Nat} {c_j0_10 : Nat} {q5 : Option Addr} {q10 : Nat} {c_j0_12 : Nat} {q6 : Option Addr} {q11 : Nat} {c_j0_13 : Nat} {q7 : Option Addr} {q12 : Nat} {c_j0_14 : Nat} {j0 : T_timing_Job} {start1 : Int} {r : T_tree_Window} (hF : P_timing_leaves j0 start1 = some r) (q0x : RdS RpS ρ q9 q17 c_j0_0 j0.Net.In) (q1m : RdS RpS ρ q0a q18 c_j0_1 j0.Net.Out) (q1n : RdS R_api_Flop ρ q0b q19 c_j0_2 j0.Net.Flops) (q1o : RdS R_api_Gate ρ q0c q1a c_j0_3 j0.Net.Gates) (q1p : RdS (RpI .i64) ρ q0d q1b c_j0_4 j0.Net.Outs) (q1q : RdS R_api_Cell ρ q0e q1c c_j0_5 j0.Lib) (q1r : RdS (RpSl R_tree_Window) ρ q0f q1d c_j0_6 j0.Delays.Gates) (q1s : RdS (RpSl R_tree_Window) ρ q0g q1e c_j0_7 j0.Delays.Data) (q1t : RdS R_tree_Window ρ q0h q1f c_j0_8 j0.Delays.Outs) (q0y : RdS R_tree_Window ρ q3 q1g c_j0_9 j0.Delays.Clock) (q0m : RdS R_tree_Window ρ q2 q0z c_j0_10 j0.Delays.Launch) (q13 : RdS R_clocks_Input ρ q5 q10 c_j0_12 j0.Limits.Inputs) (q14 : RdS R_clocks_Output ρ q6 q11 c_j0_13 j0.Limits.Outputs) (q15 : RdS R_clocks_Path ρ q7 q12 c_j0_14 j0.Limits.Paths) (hS : St w0 w (ro ρ :: l)) :
  Calls Tryd.prog 115 #[.agg #[.slice q9 q17 c_j0_0, .slice q0a q18 c_j0_1, .slice q0b q19 c_j0_2, .slice q0c q1a c_j0_3, .slice q0d q1b c_j0_4, .slice q0e q1c c_j0_5, .slice q0f q1d c_j0_6, .slice q0g q1e c_j0_7, .slice q0h q1f c_j0_8, .slice q3 q1g c_j0_9, .slice q2 q0z c_j0_10, .int .i64 j0.Limits.Period, .slice q5 q10 c_j0_12, .slice q6 q11 c_j0_13, .slice q7 q12 c_j0_14], .int .i64 start1] w fun e w' => e = .returned (.agg #[.int .i64 r.Lo, .int .i64 r.Hi]) ∧ St w0 w' (ro ρ :: l) := by
 have e_ := q0x.n; subst e_
 have e_ := q1m.n; subst e_
 have e_ := q1n.n; subst e_
 have e_ := q1o.n; subst e_
 have e_ := q1p.n; subst e_
 have e_ := q1q.n; subst e_
 have e_ := q1r.n; subst e_
 have e_ := q1s.n; subst e_
 have e_ := q1t.n; subst e_
 have e_ := q0y.n; subst e_
 have e_ := q0m.n; subst e_
 have e_ := q13.n; subst e_
 have e_ := q14.n; subst e_
 have e_ := q15.n; subst e_
 refine enterC Tryd.func115 rfl 52 rfl (by simp) ?_
 refine x_seq <| x_region <| ?_
 refine o_box (cs := [.slice q9 j0.Net.In.length c_j0_0, .slice q0a j0.Net.Out.length c_j0_1, .slice q0b j0.Net.Flops.length c_j0_2, .slice q0c j0.Net.Gates.length c_j0_3, .slice q0d j0.Net.Outs.length c_j0_4, .slice q0e j0.Lib.length c_j0_5, .slice q0f j0.Delays.Gates.length c_j0_6, .slice q0g j0.Delays.Data.length c_j0_7, .slice q0h j0.Delays.Outs.length c_j0_8, .slice q3 j0.Delays.Clock.length c_j0_9, .slice q2 j0.Delays.Launch.length c_j0_10, .int .i64 j0.Limits.Period, .slice q5 j0.Limits.Inputs.length c_j0_12, .slice q6 j0.Limits.Outputs.length c_j0_13, .slice q7 j0.Limits.Paths.length c_j0_14]) rfl rfl hS (fun b2 w' hS => ?_)
 refine o_alloc zero_70 hS (fun b4 w' hS => ?_)
 refine x_done <| x_seq <| x_seq <| x_region <|
  p (yl_move rfl) <| p (yl_field0 fld_58_0 rfl) <| p (yl_field0 fld_30_0 rfl) <| pa (at_load one_26 rfl ((hS.pull 1).cell rfl)) <|
  p (yl_len_slice usl_26 rfl) <| p (yl_lss rfl rfl) <| x_done <|
  x_cond_p (start1 < (j0.Net.In.length : Int)) rfl (fun hc13 => ?_) (fun hc13 => ?_)
 ·replace hF := it_t hc13 hF
  replace hF := ck_s hF; obtain ⟨q1j, hF⟩ := hF
  replace hF := lv_s hF; obtain ⟨x21, hx21, hF⟩ := hF
  replace hF := bd_s hF; obtain ⟨q16, q1w, hF⟩ := hF
  refine x_seq <| x_head 9 mixed (by kernel_rfl) hS _ _ rfl rfl <| q (yl_field0 fld_58_3 rfl) <| qa (v := .agg #[.int .i64 j0.Limits.Period, .slice q5 j0.Limits.Inputs.length c_j0_12, .slice q6 j0.Limits.Outputs.length c_j0_13, .slice q7 j0.Limits.Paths.length c_j0_14]) (fun w' hS => ld_sub agg_56 rfl rfl rfl (hS.pull 1)) <|
   q (yl_field0 fld_58_0 rfl) <| q (yl_field0 fld_30_0 rfl) <| qa (fun w' hS => at_load one_26 rfl ((hS.pull 1).cell rfl)) <| q (yl_move rfl) <|
   q (yix_f sl_26 rfl rfl q0x q1j) <| qa (fun w' hS => at_load one_9 rfl (RdS.getW q0x (hS.pull 2) q1j hx21)) <| qcc (v := .agg #[.int .i64 q16.Lo, .int .i64 q16.Hi]) call_154 (args2 rfl rfl) (fun w' hS => by
    have hcall := c_clocks_At q1w q13 q14 q15 (hS.pull 2)
    exact (Calls.mono hcall (fun e w'' h => And.intro h.1 ((h.2.pull 2).pull 2)))) <|
   q_done fun w' hS => ?_
  refine o_storeAgg (news := [.int .i64 q16.Lo, .int .i64 q16.Hi]) agg_70 rfl rfl rfl (by simp [over_length]) hS (fun w' hS => ?_)
  refine x_done <| ?_
  have e_ := Option.some.inj (show some _ = some _ from hF); subst e_
  exact x_return ⟨_, ⟨_, _, _, rfl, rfl, ldvA agg_70 rfl (fun j v hj => by rw [add0]; exact St.cell hS hj), rfl⟩, rfl, hS.drop.drop⟩
 ·replace hF := it_f hc13 hF
  replace hF := ar_s hF; obtain ⟨x28, hx28, hF⟩ := hF
  refine x_skip <| x_seq <| x_region <| p (yl_move rfl) <|
   p (yl_field0 fld_58_0 rfl) <| p (yl_field0 fld_30_0 rfl) <| pa (at_load one_26 rfl ((hS.pull 1).cell rfl)) <| p (yl_len_slice usl_26 rfl) <|
   p (ysub rfl rfl hx28) <| p (yl_assign rfl) <| x_done <| x_seq <| ?_
  replace hF := ck_s hF; obtain ⟨q1k, hF⟩ := hF
  replace hF := lv_s hF; obtain ⟨q8, q1x, hF⟩ := hF
  replace hF := ck_s hF; obtain ⟨q1h, hF⟩ := hF
  replace hF := lv_s hF; obtain ⟨q4, q1u, hF⟩ := hF
  refine x_par (w0 := w0) [⟨[], [], [29], [], [], []⟩, ⟨[0], [0], [30], [], [], []⟩, ⟨[0, 1], [1], [31], [0], [], []⟩, ⟨[], [], [32], [], [], []⟩, ⟨[0, 1, 2, 3], [2, 3], [33], [1], [], []⟩, ⟨[0, 1, 2, 3, 4], [4], [34], [1], [], []⟩, ⟨[], [], [35], [], [], []⟩, ⟨[6], [6], [36], [], [], []⟩, ⟨[6, 7], [7], [37], [0], [], []⟩, ⟨[], [], [38], [], [], []⟩, ⟨[6, 7, 8, 9], [8, 9], [39], [1], [], []⟩, ⟨[6, 7, 8, 9, 10], [10], [40], [1], [], []⟩, ⟨[], [], [6], [], [], [2]⟩, ⟨[], [], [7], [], [], [3]⟩, ⟨[0, 1, 2, 3, 4, 5, 12, 13], [5, 12], [], [], [2], [4]⟩, ⟨[0, 1, 2, 3, 4, 5, 6, 7, 8, 9, 10, 11, 12, 13, 14], [11, 13], [], [], [3], [5]⟩] [⟨none, none, []⟩, ⟨none, none, []⟩, ⟨(some 12), (some 14), [6]⟩, ⟨(some 13), (some 15), [7]⟩, ⟨(some 14), none, [6]⟩, ⟨(some 15), none, [7]⟩] [6, 7, 29, 30, 31, 32, 33, 34, 35, 36, 37, 38, 39, 40] [0, 1] [0, 1, 4, 5] [0, 1, 2, 3, 4, 5, 6, 7, 8, 9, 10, 11, 12, 13] [fun Ep4 => Ep4 29 = .pointer (some ⟨b2, 6, none⟩), fun Ep4 => Ep4 30 = .pointer (some ⟨b2, 9, none⟩), fun Ep4 => Ep4 31 = .slice q3 j0.Delays.Clock.length c_j0_9, fun Ep4 => Ep4 32 = .int .i64 x28, fun Ep4 => Ep4 33 = .pointer (some ((adr q3).add (x28.toNat * R_tree_Window.sz))), fun Ep4 => Ep4 34 = .agg #[.int .i64 q8.Lo, .int .i64 q8.Hi], fun Ep4 => Ep4 35 = .pointer (some ⟨b2, 6, none⟩), fun Ep4 => Ep4 36 = .pointer (some ⟨b2, 10, none⟩), fun Ep4 => Ep4 37 = .slice q2 j0.Delays.Launch.length c_j0_10, fun Ep4 => Ep4 38 = .int .i64 x28, fun Ep4 => Ep4 39 = .pointer (some ((adr q2).add (x28.toNat * R_tree_Window.sz))), fun Ep4 => Ep4 40 = .agg #[.int .i64 q4.Lo, .int .i64 q4.Hi], fun Ep4 => Ep4 6 = .pointer (some ⟨(blkOf (Ep4 6)), 0, none⟩), fun Ep4 => Ep4 7 = .pointer (some ⟨(blkOf (Ep4 7)), 0, none⟩), fun Ep4 => True, fun Ep4 => True] [fun Ep4 => cells b2 58 [.slice q9 j0.Net.In.length c_j0_0, .slice q0a j0.Net.Out.length c_j0_1, .slice q0b j0.Net.Flops.length c_j0_2, .slice q0c j0.Net.Gates.length c_j0_3, .slice q0d j0.Net.Outs.length c_j0_4, .slice q0e j0.Lib.length c_j0_5, .slice q0f j0.Delays.Gates.length c_j0_6, .slice q0g j0.Delays.Data.length c_j0_7, .slice q0h j0.Delays.Outs.length c_j0_8, .slice q3 j0.Delays.Clock.length c_j0_9, .slice q2 j0.Delays.Launch.length c_j0_10, .int .i64 j0.Limits.Period, .slice q5 j0.Limits.Inputs.length c_j0_12, .slice q6 j0.Limits.Outputs.length c_j0_13, .slice q7 j0.Limits.Paths.length c_j0_14], fun Ep4 => ro ρ, fun Ep4 => cells (blkOf (Ep4 6)) 70 [.int .i64 0, .int .i64 0], fun Ep4 => cells (blkOf (Ep4 7)) 70 [.int .i64 0, .int .i64 0], fun Ep4 => cells (blkOf (Ep4 6)) 70 [.int .i64 q8.Lo, .int .i64 q8.Hi], fun Ep4 => cells (blkOf (Ep4 7)) 70 [.int .i64 q4.Lo, .int .i64 q4.Hi]] mixed (by kernel_rfl) ((hS.pull 2).pull 2) ?_ ?_
  ·refine ⟨?_, ?_, ?_, ?_, ?_, ?_, ?_, ?_, ?_, ?_, ?_, ?_, ?_, ?_, ?_, ?_, trivial⟩
   ·intro Ep4 w l' hE4 hO4 hF_ hS
    refine p (yl_field0 fld_58_2 (hE4 2 rfl)) <| x_done <| ?_
    refine x_fin ⟨⟨_, rfl⟩, rfl, ?_⟩
    exact Eq.mp (by kernel_rfl) hS
   ·intro Ep4 w l' hE4 hO4 hF_ hS
    obtain ⟨q0n, -⟩ := hF_
    replace q0n : Ep4 29 = .pointer (some ⟨b2, 6, none⟩) := Eq.mp (by kernel_rfl) q0n
    refine p (yl_fieldN fld_51_3 q0n) <| x_done <| ?_
    refine x_fin ⟨⟨_, rfl⟩, rfl, ?_⟩
    exact Eq.mp (by kernel_rfl) hS
   ·intro Ep4 w l' hE4 hO4 hF_ hS
    obtain ⟨q0o, -⟩ := hF_
    replace q0o : Ep4 30 = .pointer (some ⟨b2, 9, none⟩) := Eq.mp (by kernel_rfl) q0o
    replace hS : St w0 w (cells b2 58 [.slice q9 j0.Net.In.length c_j0_0, .slice q0a j0.Net.Out.length c_j0_1, .slice q0b j0.Net.Flops.length c_j0_2, .slice q0c j0.Net.Gates.length c_j0_3, .slice q0d j0.Net.Outs.length c_j0_4, .slice q0e j0.Lib.length c_j0_5, .slice q0f j0.Delays.Gates.length c_j0_6, .slice q0g j0.Delays.Data.length c_j0_7, .slice q0h j0.Delays.Outs.length c_j0_8, .slice q3 j0.Delays.Clock.length c_j0_9, .slice q2 j0.Delays.Launch.length c_j0_10, .int .i64 j0.Limits.Period, .slice q5 j0.Limits.Inputs.length c_j0_12, .slice q6 j0.Limits.Outputs.length c_j0_13, .slice q7 j0.Limits.Paths.length c_j0_14] :: l') := Eq.mp (by kernel_rfl) hS
    refine pa (at_load one_49 q0o (hS.cell rfl)) <| x_done <| ?_
    refine x_fin ⟨⟨_, rfl⟩, rfl, ?_⟩
    exact Eq.mp (by kernel_rfl) hS
   ·intro Ep4 w l' hE4 hO4 hF_ hS
    refine p (yl_move (hE4 5 rfl)) <| x_done <| ?_
    refine x_fin ⟨⟨_, rfl⟩, rfl, ?_⟩
    exact Eq.mp (by kernel_rfl) hS
   ·intro Ep4 w l' hE4 hO4 hF_ hS
    obtain ⟨q0p, q0q, -⟩ := hF_
    replace q0p : Ep4 31 = .slice q3 j0.Delays.Clock.length c_j0_9 := Eq.mp (by kernel_rfl) q0p
    replace q0q : Ep4 32 = .int .i64 x28 := Eq.mp (by kernel_rfl) q0q
    replace hS : St w0 w (ro ρ :: l') := Eq.mp (by kernel_rfl) hS
    refine p (yix_f sl_49 q0p q0q q0y q1k) <| x_done <| ?_
    refine x_fin ⟨⟨_, rfl⟩, rfl, ?_⟩
    exact Eq.mp (by kernel_rfl) hS
   ·intro Ep4 w l' hE4 hO4 hF_ hS
    obtain ⟨q0r, -⟩ := hF_
    replace q0r : Ep4 33 = .pointer (some ((adr q3).add (x28.toNat * R_tree_Window.sz))) := Eq.mp (by kernel_rfl) q0r
    replace hS : St w0 w (ro ρ :: l') := Eq.mp (by kernel_rfl) hS
    have q_ := q0y.get q1k; obtain ⟨q20, q1l, q1y⟩ := q_
    rw [← q1x] at q1l
    have e_ := q1l; subst e_
    refine pa (v := .agg #[.int .i64 q8.Lo, .int .i64 q8.Hi]) (at_loadAgg agg_70 q0r rfl (Elt.every q1y hS)) <| x_done <| ?_
    refine x_fin ⟨⟨_, rfl⟩, rfl, ?_⟩
    exact Eq.mp (by kernel_rfl) hS
   ·intro Ep4 w l' hE4 hO4 hF_ hS
    refine p (yl_field0 fld_58_2 (hE4 2 rfl)) <| x_done <| ?_
    refine x_fin ⟨⟨_, rfl⟩, rfl, ?_⟩
    exact Eq.mp (by kernel_rfl) hS
   ·intro Ep4 w l' hE4 hO4 hF_ hS
    obtain ⟨q0s, -⟩ := hF_
    replace q0s : Ep4 35 = .pointer (some ⟨b2, 6, none⟩) := Eq.mp (by kernel_rfl) q0s
    refine p (yl_fieldN fld_51_4 q0s) <| x_done <| ?_
    refine x_fin ⟨⟨_, rfl⟩, rfl, ?_⟩
    exact Eq.mp (by kernel_rfl) hS
   ·intro Ep4 w l' hE4 hO4 hF_ hS
    obtain ⟨q0t, -⟩ := hF_
    replace q0t : Ep4 36 = .pointer (some ⟨b2, 10, none⟩) := Eq.mp (by kernel_rfl) q0t
    replace hS : St w0 w (cells b2 58 [.slice q9 j0.Net.In.length c_j0_0, .slice q0a j0.Net.Out.length c_j0_1, .slice q0b j0.Net.Flops.length c_j0_2, .slice q0c j0.Net.Gates.length c_j0_3, .slice q0d j0.Net.Outs.length c_j0_4, .slice q0e j0.Lib.length c_j0_5, .slice q0f j0.Delays.Gates.length c_j0_6, .slice q0g j0.Delays.Data.length c_j0_7, .slice q0h j0.Delays.Outs.length c_j0_8, .slice q3 j0.Delays.Clock.length c_j0_9, .slice q2 j0.Delays.Launch.length c_j0_10, .int .i64 j0.Limits.Period, .slice q5 j0.Limits.Inputs.length c_j0_12, .slice q6 j0.Limits.Outputs.length c_j0_13, .slice q7 j0.Limits.Paths.length c_j0_14] :: l') := Eq.mp (by kernel_rfl) hS
    refine pa (at_load one_49 q0t (hS.cell rfl)) <| x_done <| ?_
    refine x_fin ⟨⟨_, rfl⟩, rfl, ?_⟩
    exact Eq.mp (by kernel_rfl) hS
   ·intro Ep4 w l' hE4 hO4 hF_ hS
    refine p (yl_move (hE4 5 rfl)) <| x_done <| ?_
    refine x_fin ⟨⟨_, rfl⟩, rfl, ?_⟩
    exact Eq.mp (by kernel_rfl) hS
   ·intro Ep4 w l' hE4 hO4 hF_ hS
    obtain ⟨q0u, q0v, -⟩ := hF_
    replace q0u : Ep4 37 = .slice q2 j0.Delays.Launch.length c_j0_10 := Eq.mp (by kernel_rfl) q0u
    replace q0v : Ep4 38 = .int .i64 x28 := Eq.mp (by kernel_rfl) q0v
    replace hS : St w0 w (ro ρ :: l') := Eq.mp (by kernel_rfl) hS
    refine p (yix_f sl_49 q0u q0v q0m q1h) <| x_done <| ?_
    refine x_fin ⟨⟨_, rfl⟩, rfl, ?_⟩
    exact Eq.mp (by kernel_rfl) hS
   ·intro Ep4 w l' hE4 hO4 hF_ hS
    obtain ⟨q0k, -⟩ := hF_
    replace q0k : Ep4 39 = .pointer (some ((adr q2).add (x28.toNat * R_tree_Window.sz))) := Eq.mp (by kernel_rfl) q0k
    replace hS : St w0 w (ro ρ :: l') := Eq.mp (by kernel_rfl) hS
    have q_ := q0m.get q1h; obtain ⟨q1z, q1i, q1v⟩ := q_
    rw [← q1u] at q1i
    have e_ := q1i; subst e_
    refine pa (v := .agg #[.int .i64 q4.Lo, .int .i64 q4.Hi]) (at_loadAgg agg_70 q0k rfl (Elt.every q1v hS)) <| x_done <| ?_
    refine x_fin ⟨⟨_, rfl⟩, rfl, ?_⟩
    exact Eq.mp (by kernel_rfl) hS
   ·intro Ep4 w l' hE4 hO4 hF_ hS
    refine o_alloc zero_70 hS (fun b6 w' hS => ?_)
    refine x_done <| ?_
    refine x_fin ⟨⟨_, rfl⟩, rfl, ?_⟩
    exact Eq.mp (by kernel_rfl) hS
   ·intro Ep4 w l' hE4 hO4 hF_ hS
    refine o_alloc zero_70 hS (fun b7 w' hS => ?_)
    refine x_done <| ?_
    refine x_fin ⟨⟨_, rfl⟩, rfl, ?_⟩
    exact Eq.mp (by kernel_rfl) hS
   ·intro Ep4 w l' hE4 hO4 hF_ hS
    obtain ⟨q0w, q0i, -⟩ := hF_
    replace q0w : Ep4 34 = .agg #[.int .i64 q8.Lo, .int .i64 q8.Hi] := Eq.mp (by kernel_rfl) q0w
    replace q0i : Ep4 6 = .pointer (some ⟨(blkOf (Ep4 6)), 0, none⟩) := Eq.mp (by kernel_rfl) q0i
    replace hS : St w0 w (cells (blkOf (Ep4 6)) 70 [.int .i64 0, .int .i64 0] :: l') := Eq.mp (by kernel_rfl) hS
    refine o_storeAgg (news := [.int .i64 q8.Lo, .int .i64 q8.Hi]) agg_70 q0i q0w rfl (by simp [over_length]) hS (fun w' hS => ?_)
    refine x_done <| ?_
    refine x_fin ⟨⟨undef, rfl⟩, trivial, ?_⟩
    exact Eq.mp (by kernel_rfl) hS
   ·intro Ep4 w l' hE4 hO4 hF_ hS
    obtain ⟨q0l, q0j, -⟩ := hF_
    replace q0l : Ep4 40 = .agg #[.int .i64 q4.Lo, .int .i64 q4.Hi] := Eq.mp (by kernel_rfl) q0l
    replace q0j : Ep4 7 = .pointer (some ⟨(blkOf (Ep4 7)), 0, none⟩) := Eq.mp (by kernel_rfl) q0j
    replace hS : St w0 w (cells (blkOf (Ep4 7)) 70 [.int .i64 0, .int .i64 0] :: l') := Eq.mp (by kernel_rfl) hS
    refine o_storeAgg (news := [.int .i64 q4.Lo, .int .i64 q4.Hi]) agg_70 q0j q0l rfl (by simp [over_length]) hS (fun w' hS => ?_)
    refine x_done <| ?_
    refine x_fin ⟨⟨undef, rfl⟩, trivial, ?_⟩
    exact Eq.mp (by kernel_rfl) hS
  intro Ep4 w' hE4 hF_ hS
  obtain ⟨q0n, q0o, q0p, q0q, q0r, q0w, q0s, q0t, q0u, q0v, q0k, q0l, q0i, q0j, -⟩ := hF_
  replace q0n : Ep4 29 = .pointer (some ⟨b2, 6, none⟩) := Eq.mp (by kernel_rfl) q0n
  replace q0o : Ep4 30 = .pointer (some ⟨b2, 9, none⟩) := Eq.mp (by kernel_rfl) q0o
  replace q0p : Ep4 31 = .slice q3 j0.Delays.Clock.length c_j0_9 := Eq.mp (by kernel_rfl) q0p
  replace q0q : Ep4 32 = .int .i64 x28 := Eq.mp (by kernel_rfl) q0q
  replace q0r : Ep4 33 = .pointer (some ((adr q3).add (x28.toNat * R_tree_Window.sz))) := Eq.mp (by kernel_rfl) q0r
  replace q0w : Ep4 34 = .agg #[.int .i64 q8.Lo, .int .i64 q8.Hi] := Eq.mp (by kernel_rfl) q0w
  replace q0s : Ep4 35 = .pointer (some ⟨b2, 6, none⟩) := Eq.mp (by kernel_rfl) q0s
  replace q0t : Ep4 36 = .pointer (some ⟨b2, 10, none⟩) := Eq.mp (by kernel_rfl) q0t
  replace q0u : Ep4 37 = .slice q2 j0.Delays.Launch.length c_j0_10 := Eq.mp (by kernel_rfl) q0u
  replace q0v : Ep4 38 = .int .i64 x28 := Eq.mp (by kernel_rfl) q0v
  replace q0k : Ep4 39 = .pointer (some ((adr q2).add (x28.toNat * R_tree_Window.sz))) := Eq.mp (by kernel_rfl) q0k
  replace q0l : Ep4 40 = .agg #[.int .i64 q4.Lo, .int .i64 q4.Hi] := Eq.mp (by kernel_rfl) q0l
  replace q0i : Ep4 6 = .pointer (some ⟨(blkOf (Ep4 6)), 0, none⟩) := Eq.mp (by kernel_rfl) q0i
  replace q0j : Ep4 7 = .pointer (some ⟨(blkOf (Ep4 7)), 0, none⟩) := Eq.mp (by kernel_rfl) q0j
  replace hS : St w0 w' (cells b2 58 [.slice q9 j0.Net.In.length c_j0_0, .slice q0a j0.Net.Out.length c_j0_1, .slice q0b j0.Net.Flops.length c_j0_2, .slice q0c j0.Net.Gates.length c_j0_3, .slice q0d j0.Net.Outs.length c_j0_4, .slice q0e j0.Lib.length c_j0_5, .slice q0f j0.Delays.Gates.length c_j0_6, .slice q0g j0.Delays.Data.length c_j0_7, .slice q0h j0.Delays.Outs.length c_j0_8, .slice q3 j0.Delays.Clock.length c_j0_9, .slice q2 j0.Delays.Launch.length c_j0_10, .int .i64 j0.Limits.Period, .slice q5 j0.Limits.Inputs.length c_j0_12, .slice q6 j0.Limits.Outputs.length c_j0_13, .slice q7 j0.Limits.Paths.length c_j0_14] :: ro ρ :: cells (blkOf (Ep4 6)) 70 [.int .i64 q8.Lo, .int .i64 q8.Hi] :: cells (blkOf (Ep4 7)) 70 [.int .i64 q4.Lo, .int .i64 q4.Hi] :: (cells b4 70 [.int .i64 0, .int .i64 0] :: l)) := Eq.mp (by kernel_rfl) hS
  replace hF := ar_s hF; obtain ⟨x45, hx45, hF⟩ := hF
  replace hF := ar_s hF; obtain ⟨x50, hx50, hF⟩ := hF
  refine x_seq <| x_region <| p (yl_field0 fld_70_0 q0i) <| pa (at_load one_3 rfl ((hS.pull 2).cell rfl)) <|
   p (yl_field0 fld_70_0 q0j) <| pa (at_load one_3 rfl ((hS.pull 3).cell rfl)) <| p (yadd rfl rfl hx45) <| p (yl_field0 fld_70_1 q0i) <|
   pa (at_load one_3 rfl ((hS.pull 2).cell rfl)) <| p (yl_field0 fld_70_1 q0j) <| pa (at_load one_3 rfl ((hS.pull 3).cell rfl)) <| p (yadd rfl rfl hx50) <|
   p (v := .agg #[.int .i64 x45, .int .i64 x50]) (yl_build bld_70 bldf_70 (parts_eq (pt (va := .int .i64 x45) rfl (pt (va := .int .i64 x50) rfl pt0))) (by kernel_rfl)) <| ?_
  refine o_storeAgg (news := [.int .i64 x45, .int .i64 x50]) agg_70 (hE4 4 rfl) rfl rfl (by simp [over_length]) (hS.pull 4) (fun w' hS => ?_)
  refine x_done <| ?_
  have e_ := Option.some.inj (show some _ = some _ from hF); subst e_
  exact x_return ⟨_, ⟨_, _, _, rfl, (hE4 4 rfl), ldvA agg_70 rfl (fun j v hj => by rw [add0]; exact St.cell hS hj), rfl⟩, rfl, (((hS.drop.drop.pull 1).drop.pull 1).drop)⟩
attribute [irreducible] P_timing_leaves

def P_timing_later (a0 : T_timing_Arrival) (w_1 : T_tree_Window) : Option T_timing_Arrival :=
 if (!a0.Known) = true then
  some a0
 else
  ar (a0.Early + w_1.Lo) fun x13 =>
  ar (a0.Late + w_1.Hi) fun x18 =>
  some (T_timing_Arrival.mk true x13 x18)
set_option maxHeartbeats 4000000 in
set_option maxRecDepth 100000 in
theorem c_timing_later {w0 w : World} {l : List Assn} {ρ : Heap} {a0 : T_timing_Arrival} {w_1 : T_tree_Window} {r : T_timing_Arrival} (hF : P_timing_later a0 w_1 = some r) (hS : St w0 w (ro ρ :: l)) :
  Calls Tryd.prog 117 #[.agg #[.bool a0.Known, .int .i64 a0.Early, .int .i64 a0.Late], .agg #[.int .i64 w_1.Lo, .int .i64 w_1.Hi]] w fun e w' => e = .returned (.agg #[.bool r.Known, .int .i64 r.Early, .int .i64 r.Late]) ∧ St w0 w' (ro ρ :: l) := by
 refine enterC Tryd.func117 rfl 20 rfl (by simp) ?_
 refine x_seq <| x_region <| ?_
 refine o_box (cs := [.bool a0.Known, .int .i64 a0.Early, .int .i64 a0.Late]) rfl rfl hS (fun b2 w' hS => ?_)
 refine o_box (cs := [.int .i64 w_1.Lo, .int .i64 w_1.Hi]) rfl rfl hS (fun b3 w' hS => ?_)
 refine o_alloc zero_145 hS (fun b4 w' hS => ?_)
 refine x_done <| x_seq <| x_seq <| x_region <|
  p (yl_field0 fld_145_0 rfl) <| pa (at_load one_4 rfl ((hS.pull 2).cell rfl)) <| p (yl_not rfl) <| x_done <|
  x_cond (t := !a0.Known) rfl (fun hc7 => ?_) (fun hc7 => ?_)
 ·replace hF := it_t hc7 hF
  refine x_seq <| x_region <| pa (v := .agg #[.bool a0.Known, .int .i64 a0.Early, .int .i64 a0.Late]) (ld_sub agg_145 rfl rfl rfl (hS.pull 2)) <| ?_
  refine o_storeAgg (news := [.bool a0.Known, .int .i64 a0.Early, .int .i64 a0.Late]) agg_145 rfl rfl rfl (by simp [over_length]) hS (fun w' hS => ?_)
  refine x_done <| ?_
  have e_ := Option.some.inj (show some _ = some _ from hF); subst e_
  exact x_return ⟨_, ⟨_, _, _, rfl, rfl, ldvA agg_145 rfl (fun j v hj => by rw [add0]; exact St.cell hS hj), rfl⟩, rfl, hS.drop.drop.drop⟩
 ·replace hF := it_bf hc7 hF
  replace hF := ar_s hF; obtain ⟨x13, hx13, hF⟩ := hF
  replace hF := ar_s hF; obtain ⟨x18, hx18, hF⟩ := hF
  refine x_skip <| x_seq <| x_region <| p (yl_field0 fld_145_1 rfl) <|
   pa (at_load one_3 rfl ((hS.pull 2).cell rfl)) <| p (yl_field0 fld_70_0 rfl) <| pa (at_load one_3 rfl ((hS.pull 1).cell rfl)) <| p (yadd rfl rfl hx13) <|
   p (yl_field0 fld_145_2 rfl) <| pa (at_load one_3 rfl ((hS.pull 2).cell rfl)) <| p (yl_field0 fld_70_1 rfl) <| pa (at_load one_3 rfl ((hS.pull 1).cell rfl)) <|
   p (yadd rfl rfl hx18) <| p (v := .agg #[.bool true, .int .i64 x13, .int .i64 x18]) (yl_build bld_145 bldf_145 (parts_eq (pt (va := .bool true) rfl (pt (va := .int .i64 x13) rfl (pt (va := .int .i64 x18) rfl pt0)))) (by kernel_rfl)) <| ?_
  refine o_storeAgg (news := [.bool true, .int .i64 x13, .int .i64 x18]) agg_145 rfl rfl rfl (by simp [over_length]) hS (fun w' hS => ?_)
  refine x_done <| ?_
  have e_ := Option.some.inj (show some _ = some _ from hF); subst e_
  exact x_return ⟨_, ⟨_, _, _, rfl, rfl, ldvA agg_145 rfl (fun j v hj => by rw [add0]; exact St.cell hS hj), rfl⟩, rfl, hS.drop.drop.drop⟩
attribute [irreducible] P_timing_later

def P_timing_join (a0 : T_timing_Arrival) (b1 : T_timing_Arrival) : Option T_timing_Arrival :=
 if (!a0.Known) = true then
  some b1
 else
  if (!b1.Known) = true then
   some a0
  else
   lv (min a0.Early b1.Early) fun x19 =>
   lv (max a0.Late b1.Late) fun x24 =>
   some (T_timing_Arrival.mk true x19 x24)
set_option maxHeartbeats 4000000 in
set_option maxRecDepth 100000 in
theorem c_timing_join {w0 w : World} {l : List Assn} {ρ : Heap} {a0 : T_timing_Arrival} {b1 : T_timing_Arrival} {r : T_timing_Arrival} (hF : P_timing_join a0 b1 = some r) (hS : St w0 w (ro ρ :: l)) :
  Calls Tryd.prog 116 #[.agg #[.bool a0.Known, .int .i64 a0.Early, .int .i64 a0.Late], .agg #[.bool b1.Known, .int .i64 b1.Early, .int .i64 b1.Late]] w fun e w' => e = .returned (.agg #[.bool r.Known, .int .i64 r.Early, .int .i64 r.Late]) ∧ St w0 w' (ro ρ :: l) := by
 refine enterC Tryd.func116 rfl 26 rfl (by simp) ?_
 refine x_seq <| x_region <| ?_
 refine o_box (cs := [.bool a0.Known, .int .i64 a0.Early, .int .i64 a0.Late]) rfl rfl hS (fun b2 w' hS => ?_)
 refine o_box (cs := [.bool b1.Known, .int .i64 b1.Early, .int .i64 b1.Late]) rfl rfl hS (fun b3 w' hS => ?_)
 refine o_alloc zero_145 hS (fun b4 w' hS => ?_)
 refine x_done <| x_seq <| x_block <| x_seq <|
  x_region <| p (yl_field0 fld_145_0 rfl) <| pa (at_load one_4 rfl ((hS.pull 2).cell rfl)) <| p (yl_not rfl) <|
  p (yl_assign rfl) <| x_done <|
  x_cond (t := !a0.Known) rfl (fun hc5 => ?_) (fun hc5 => ?_)
 ·replace hF := it_t hc5 hF
  refine x_seq <| x_region <| pa (v := .agg #[.bool b1.Known, .int .i64 b1.Early, .int .i64 b1.Late]) (ld_sub agg_145 rfl rfl rfl (hS.pull 1)) <| ?_
  refine o_storeAgg (news := [.bool b1.Known, .int .i64 b1.Early, .int .i64 b1.Late]) agg_145 rfl rfl rfl (by simp [over_length]) hS (fun w' hS => ?_)
  refine x_done <| ?_
  have e_ := Option.some.inj (show some _ = some _ from hF); subst e_
  exact x_return ⟨_, ⟨_, _, _, rfl, rfl, ldvA agg_145 rfl (fun j v hj => by rw [add0]; exact St.cell hS hj), rfl⟩, rfl, hS.drop.drop.drop⟩
 ·replace hF := it_bf hc5 hF
  refine x_seq <| x_region <| p (yl_field0 fld_145_0 rfl) <| pa (at_load one_4 rfl ((hS.pull 1).cell rfl)) <|
   p (yl_not rfl) <| p (yl_assign rfl) <| x_done <|
   x_cond (t := !b1.Known) rfl (fun hc10 => ?_) (fun hc10 => ?_)
  ·replace hF := it_t hc10 hF
   refine x_seq <| x_region <| pa (v := .agg #[.bool a0.Known, .int .i64 a0.Early, .int .i64 a0.Late]) (ld_sub agg_145 rfl rfl rfl (hS.pull 2)) <| ?_
   refine o_storeAgg (news := [.bool a0.Known, .int .i64 a0.Early, .int .i64 a0.Late]) agg_145 rfl rfl rfl (by simp [over_length]) hS (fun w' hS => ?_)
   refine x_done <| ?_
   have e_ := Option.some.inj (show some _ = some _ from hF); subst e_
   exact x_return ⟨_, ⟨_, _, _, rfl, rfl, ldvA agg_145 rfl (fun j v hj => by rw [add0]; exact St.cell hS hj), rfl⟩, rfl, hS.drop.drop.drop⟩
  ·replace hF := it_bf hc10 hF
   replace hF := lv_s hF; obtain ⟨x19, hx19, hF⟩ := hF
   replace hF := lv_s hF; obtain ⟨x24, hx24, hF⟩ := hF
   refine x_skip <| x_blk <| x_seq <| x_region <|
    p (yl_field0 fld_145_1 rfl) <| pa (at_load one_3 rfl ((hS.pull 2).cell rfl)) <| p (yl_field0 fld_145_1 rfl) <| pa (at_load one_3 rfl ((hS.pull 1).cell rfl)) <|
    p (ymin' rfl rfl hx19) <| p (yl_field0 fld_145_2 rfl) <| pa (at_load one_3 rfl ((hS.pull 2).cell rfl)) <| p (yl_field0 fld_145_2 rfl) <|
    pa (at_load one_3 rfl ((hS.pull 1).cell rfl)) <| p (ymax' rfl rfl hx24) <| p (v := .agg #[.bool true, .int .i64 x19, .int .i64 x24]) (yl_build bld_145 bldf_145 (parts_eq (pt (va := .bool true) rfl (pt (va := .int .i64 x19) rfl (pt (va := .int .i64 x24) rfl pt0)))) (by kernel_rfl)) <| ?_
   refine o_storeAgg (news := [.bool true, .int .i64 x19, .int .i64 x24]) agg_145 rfl rfl rfl (by simp [over_length]) hS (fun w' hS => ?_)
   refine x_done <| ?_
   have e_ := Option.some.inj (show some _ = some _ from hF); subst e_
   exact x_return ⟨_, ⟨_, _, _, rfl, rfl, ldvA agg_145 rfl (fun j v hj => by rw [add0]; exact St.cell hS hj), rfl⟩, rfl, hS.drop.drop.drop⟩
attribute [irreducible] P_timing_join

def P_timing_from_L3 (j0 : T_timing_Job) (starts1 : List Int) : (List T_timing_Arrival × Int) → Option ((List T_timing_Arrival × Int) ⊕ List T_timing_Arrival) := fun (q3, q2) =>
 if q2 < (starts1.length : Int) then
  ck (inb q2 starts1.length) <|
  lv (gt starts1 q2) fun x23 =>
  bd (P_timing_leaves j0 x23) fun q4 =>
  ar ((2 : Int) + x23) fun x29 =>
  ck (inb x29 q3.length) <|
  lv (stt q3 x29 (T_timing_Arrival.mk true q4.Lo q4.Hi)) fun q5 =>
  ar (q2 + 1) fun x36 =>
  some (Sum.inl (q5, x36))
 else
  some (Sum.inr q3)
def P_timing_from_L13 (j0 : T_timing_Job) (q7 : Int) (q5 : T_api_Gate) (q4 : Int) : (List T_timing_Arrival × Int) → Option ((List T_timing_Arrival × Int) ⊕ List T_timing_Arrival) := fun (q2, q3) =>
 if q3 < (q5.Ins.length : Int) then
  ck (inb q3 q5.Ins.length) <|
  lv (gt q5.Ins q3) fun x56 =>
  ar (q7 + q4) fun x60 =>
  ar (q7 + q4) fun x64 =>
  ck (inb x64 q2.length) <|
  lv (gt q2 x64) fun q0d =>
  ck (inb x56 q2.length) <|
  lv (gt q2 x56) fun q8 =>
  ck (inb q4 j0.Delays.Gates.length) <|
  lv (gt j0.Delays.Gates q4) fun q6 =>
  ck (inb q3 q6.length) <|
  lv (gt q6 q3) fun q9 =>
  bd (P_timing_later q8 q9) fun q0a =>
  bd (P_timing_join q0d q0a) fun q0b =>
  ck (inb x60 q2.length) <|
  lv (stt q2 x60 q0b) fun q0c =>
  ar (q3 + 1) fun x83 =>
  some (Sum.inl (q0c, x83))
 else
  some (Sum.inr q2)
def P_timing_from_L10 (j0 : T_timing_Job) (q6 : Int) : (List T_timing_Arrival × Int) → Option ((List T_timing_Arrival × Int) ⊕ List T_timing_Arrival) := fun (q3, q2) =>
 if q2 < (j0.Net.Gates.length : Int) then
  ck (inb q2 j0.Net.Gates.length) <|
  lv (gt j0.Net.Gates q2) fun q5 =>
  bd (
   lp (P_timing_from_L13 j0 q6 q5 q2) fuel (q3, 0)) fun q4 =>
  ar (q2 + 1) fun x84 =>
  some (Sum.inl (q4, x84))
 else
  some (Sum.inr q3)
def P_timing_from (j0 : T_timing_Job) (starts1 : List Int) : Option (List T_timing_Arrival) :=
 bd (P_netlist_Nets (T_api_Netlist.mk j0.Net.In j0.Net.Out j0.Net.Flops j0.Net.Gates j0.Net.Outs)) fun q4 =>
 ck (mkOk 24 q4) <|
 lv ((List.replicate (q4 : Int).toNat (T_timing_Arrival.mk false 0 0) : List T_timing_Arrival)) fun q5 =>
 bd (
  lp (P_timing_from_L3 j0 starts1) fuel (q5, 0)) fun q3 =>
 bd (P_netlist_First (T_api_Netlist.mk j0.Net.In j0.Net.Out j0.Net.Flops j0.Net.Gates j0.Net.Outs)) fun q6 =>
 bd (
  lp (P_timing_from_L10 j0 q6) fuel (q3, 0)) fun q2 =>
 some q2
set_option maxHeartbeats 4000000 in
set_option maxRecDepth 100000 in
theorem c_timing_from {w0 w : World} {l : List Assn} {ρ : Heap} {q5 : Option Addr} {q2n : Nat} {c_j0_0 : Nat} {q6 : Option Addr} {q2o : Nat} {c_j0_1 : Nat} {q7 : Option Addr} {q2p : Nat} {c_j0_2 : Nat} {q3 : Option Addr} {q2q : Nat} {c_j0_3 : Nat} {q8 : Option Addr} {q2r : Nat} {c_j0_4 : Nat} {q0g : Option Addr} {q2s : Nat} {c_j0_5 : Nat} {q0h : Option Addr} {q2t : Nat} {c_j0_6 : Nat} {q0i : Option Addr} {q2u : Nat} {c_j0_7 : Nat} {q0j : Option Addr} {q2v : Nat} {c_j0_8 : Nat} {q0k : Option Addr} {q2w : Nat} {c_j0_9 : Nat} {q0b : Option Addr} {q21 : Nat} {c_j0_10 : Nat} {q0c : Option Addr} {q22 : Nat} {c_j0_12 : Nat} {q0d : Option Addr} {q23 : Nat} {c_j0_13 : Nat} {q0e : Option Addr} {q24 : Nat} {c_j0_14 : Nat} {q13 : Option Addr} {q1m : Nat} {c_starts1 : Nat} {j0 : T_timing_Job} {starts1 : List Int} {r : List T_timing_Arrival} (hF : P_timing_from j0 starts1 = some r) (q1c : RdS RpS ρ q5 q2n c_j0_0 j0.Net.In) (q1d : RdS RpS ρ q6 q2o c_j0_1 j0.Net.Out) (q1e : RdS R_api_Flop ρ q7 q2p c_j0_2 j0.Net.Flops) (q0u : RdS R_api_Gate ρ q3 q2q c_j0_3 j0.Net.Gates) (q1f : RdS (RpI .i64) ρ q8 q2r c_j0_4 j0.Net.Outs) (q2x : RdS R_api_Cell ρ q0g q2s c_j0_5 j0.Lib) (q1g : RdS (RpSl R_tree_Window) ρ q0h q2t c_j0_6 j0.Delays.Gates) (q2y : RdS (RpSl R_tree_Window) ρ q0i q2u c_j0_7 j0.Delays.Data) (q2z : RdS R_tree_Window ρ q0j q2v c_j0_8 j0.Delays.Outs) (q30 : RdS R_tree_Window ρ q0k q2w c_j0_9 j0.Delays.Clock) (q25 : RdS R_tree_Window ρ q0b q21 c_j0_10 j0.Delays.Launch) (q26 : RdS R_clocks_Input ρ q0c q22 c_j0_12 j0.Limits.Inputs) (q27 : RdS R_clocks_Output ρ q0d q23 c_j0_13 j0.Limits.Outputs) (q28 : RdS R_clocks_Path ρ q0e q24 c_j0_14 j0.Limits.Paths) (q14 : RdS (RpI .i64) ρ q13 q1m c_starts1 starts1) (hS : St w0 w (ro ρ :: l)) :
  Calls Tryd.prog 61 #[.agg #[.slice q5 q2n c_j0_0, .slice q6 q2o c_j0_1, .slice q7 q2p c_j0_2, .slice q3 q2q c_j0_3, .slice q8 q2r c_j0_4, .slice q0g q2s c_j0_5, .slice q0h q2t c_j0_6, .slice q0i q2u c_j0_7, .slice q0j q2v c_j0_8, .slice q0k q2w c_j0_9, .slice q0b q21 c_j0_10, .int .i64 j0.Limits.Period, .slice q0c q22 c_j0_12, .slice q0d q23 c_j0_13, .slice q0e q24 c_j0_14], .slice q13 q1m c_starts1] w fun e w' => ∃ (q1o : Option Addr) (q1a : Nat) (c_y0_ret : Nat) (q1n : List Value), e = .returned (.slice q1o q1a c_y0_ret) ∧ RepL R_timing_Arrival ρ r q1n ∧ St w0 w' (vec 145 R_timing_Arrival.sz (.slice q1o q1a c_y0_ret) q1a q1n :: ro ρ :: l) := by
 have e_ := q1c.n; subst e_
 have e_ := q1d.n; subst e_
 have e_ := q1e.n; subst e_
 have e_ := q0u.n; subst e_
 have e_ := q1f.n; subst e_
 have e_ := q2x.n; subst e_
 have e_ := q1g.n; subst e_
 have e_ := q2y.n; subst e_
 have e_ := q2z.n; subst e_
 have e_ := q30.n; subst e_
 have e_ := q25.n; subst e_
 have e_ := q26.n; subst e_
 have e_ := q27.n; subst e_
 have e_ := q28.n; subst e_
 have e_ := q14.n; subst e_
 refine enterC Tryd.func61 rfl 86 rfl (by simp) ?_
 refine x_seq <| x_region <| ?_
 refine o_box (cs := [.slice q5 j0.Net.In.length c_j0_0, .slice q6 j0.Net.Out.length c_j0_1, .slice q7 j0.Net.Flops.length c_j0_2, .slice q3 j0.Net.Gates.length c_j0_3, .slice q8 j0.Net.Outs.length c_j0_4, .slice q0g j0.Lib.length c_j0_5, .slice q0h j0.Delays.Gates.length c_j0_6, .slice q0i j0.Delays.Data.length c_j0_7, .slice q0j j0.Delays.Outs.length c_j0_8, .slice q0k j0.Delays.Clock.length c_j0_9, .slice q0b j0.Delays.Launch.length c_j0_10, .int .i64 j0.Limits.Period, .slice q0c j0.Limits.Inputs.length c_j0_12, .slice q0d j0.Limits.Outputs.length c_j0_13, .slice q0e j0.Limits.Paths.length c_j0_14]) rfl rfl hS (fun b2 w' hS => ?_)
 replace hF := bd_s hF; obtain ⟨q4j, q3z, hF⟩ := hF
 refine p (yl_assign rfl) <| x_done <| x_seq <| x_region <|
  p (yl_field0 fld_58_0 rfl) <| pa (v := .agg #[.slice q5 j0.Net.In.length c_j0_0, .slice q6 j0.Net.Out.length c_j0_1, .slice q7 j0.Net.Flops.length c_j0_2, .slice q3 j0.Net.Gates.length c_j0_3, .slice q8 j0.Net.Outs.length c_j0_4]) (ld_sub agg_30 rfl rfl rfl hS) <| ?_
 have hcall := c_netlist_Nets q3z q1c q1d q1e q0u q1f (hS.pull 1)
 refine o_cc call_12 (args1 rfl) ((Calls.mono hcall (fun e w'' h => And.intro h.1 (h.2.pull 1)))) ?_
 rintro e w' ⟨rfl, hS⟩
 refine ⟨_, rfl, ?_⟩
 replace hF := ck_s hF; obtain ⟨q40, hF⟩ := hF
 replace hF := lv_s hF; obtain ⟨q2, q41, hF⟩ := hF
 refine o_mk sl_140 zero_145 (show R_timing_Arrival.ok ρ _ (T_timing_Arrival.mk false 0 0) from rfl) rfl rfl q40 (by decide) q41 hS (fun A17 cs17 w' hr17 hS => ?_)
 refine p (yl_assign rfl) <| x_done <| x_seq <| x_seq <|
  x_region <| p (yl_move rfl) <| p (yl_len_slice usl_22 rfl) <| p (yl_move rfl) <|
  x_done <| ?_
 replace hF := bd_s hF; obtain ⟨oL3, hLL3, hF⟩ := hF
 refine x_join (fun E w => ∃ (q0s : List Value) (q16 : List T_timing_Arrival), q16 = oL3 ∧ E 2 = .pointer (some ⟨b2, 0, none⟩) ∧ E 5 = .slice A17 q2.length q2.length ∧ RepL R_timing_Arrival ρ q16 q0s ∧ St w0 w (cells b2 58 [.slice q5 j0.Net.In.length c_j0_0, .slice q6 j0.Net.Out.length c_j0_1, .slice q7 j0.Net.Flops.length c_j0_2, .slice q3 j0.Net.Gates.length c_j0_3, .slice q8 j0.Net.Outs.length c_j0_4, .slice q0g j0.Lib.length c_j0_5, .slice q0h j0.Delays.Gates.length c_j0_6, .slice q0i j0.Delays.Data.length c_j0_7, .slice q0j j0.Delays.Outs.length c_j0_8, .slice q0k j0.Delays.Clock.length c_j0_9, .slice q0b j0.Delays.Launch.length c_j0_10, .int .i64 j0.Limits.Period, .slice q0c j0.Limits.Inputs.length c_j0_12, .slice q0d j0.Limits.Outputs.length c_j0_13, .slice q0e j0.Limits.Paths.length c_j0_14] :: vec 145 R_timing_Arrival.sz (.slice A17 q2.length q2.length) q2.length q0s :: ro ρ :: l)) ?_ ?_
 ·refine x_block ?_
  refine x_loop (fun k_ E w => ∃ (q0m : List Value) (q0w : List T_timing_Arrival) (q17 : Int), lp (P_timing_from_L3 j0 starts1) k_ (q0w, q17) = some oL3 ∧ E 2 = .pointer (some ⟨b2, 0, none⟩) ∧ E 5 = .slice A17 q2.length q2.length ∧ E 18 = .slice q13 starts1.length c_starts1 ∧ E 19 = .int .i64 (starts1.length : Int) ∧ E 20 = .int .i64 q17 ∧ RepL R_timing_Arrival ρ q0w q0m ∧ St w0 w (cells b2 58 [.slice q5 j0.Net.In.length c_j0_0, .slice q6 j0.Net.Out.length c_j0_1, .slice q7 j0.Net.Flops.length c_j0_2, .slice q3 j0.Net.Gates.length c_j0_3, .slice q8 j0.Net.Outs.length c_j0_4, .slice q0g j0.Lib.length c_j0_5, .slice q0h j0.Delays.Gates.length c_j0_6, .slice q0i j0.Delays.Data.length c_j0_7, .slice q0j j0.Delays.Outs.length c_j0_8, .slice q0k j0.Delays.Clock.length c_j0_9, .slice q0b j0.Delays.Launch.length c_j0_10, .int .i64 j0.Limits.Period, .slice q0c j0.Limits.Inputs.length c_j0_12, .slice q0d j0.Limits.Outputs.length c_j0_13, .slice q0e j0.Limits.Paths.length c_j0_14] :: vec 145 R_timing_Arrival.sz (.slice A17 q2.length q2.length) q2.length q0m :: ro ρ :: l)) fuel ⟨cs17, q2, 0, hLL3, rfl, rfl, rfl, rfl, rfl, hr17, (((hS.pull 2).pull 1).pull 2)⟩ ?_
  rintro kL3 E w ⟨q0m, q0w, q17, hLL3, q1p, q1q, q29, q2a, q1h, q0x, hS⟩
  replace hLL3 := lp_s hLL3; obtain ⟨kL3, obL3, rfl, hFL3, hLL3⟩ := hLL3
  refine x_seq <| x_region <| p (yl_lss q1h q2a) <| x_done <|
   x_seq <|
   x_cond_p (q17 < (starts1.length : Int)) rfl (fun hc21 => ?_) (fun hc21 => ?_)
  ·replace hFL3 := it_t hc21 hFL3
   replace hFL3 := ck_s hFL3; obtain ⟨q38, hFL3⟩ := hFL3
   replace hFL3 := lv_s hFL3; obtain ⟨x23, hx23, hFL3⟩ := hFL3
   replace hFL3 := bd_s hFL3; obtain ⟨q0r, q42, hFL3⟩ := hFL3
   refine x_skip <| x_seq <| x_block <| x_seq <|
    x_region <| p (yix_f sl_22 q29 q1h q14 q38) <| pa (at_load one_3 rfl (RdS.getW q14 (hS.pull 2) q38 hx23)) <| p (yl_assign rfl) <|
    x_done <| x_seq <| x_region <| pa (v := .agg #[.slice q5 j0.Net.In.length c_j0_0, .slice q6 j0.Net.Out.length c_j0_1, .slice q7 j0.Net.Flops.length c_j0_2, .slice q3 j0.Net.Gates.length c_j0_3, .slice q8 j0.Net.Outs.length c_j0_4, .slice q0g j0.Lib.length c_j0_5, .slice q0h j0.Delays.Gates.length c_j0_6, .slice q0i j0.Delays.Data.length c_j0_7, .slice q0j j0.Delays.Outs.length c_j0_8, .slice q0k j0.Delays.Clock.length c_j0_9, .slice q0b j0.Delays.Launch.length c_j0_10, .int .i64 j0.Limits.Period, .slice q0c j0.Limits.Inputs.length c_j0_12, .slice q0d j0.Limits.Outputs.length c_j0_13, .slice q0e j0.Limits.Paths.length c_j0_14]) (ld_sub agg_58 q1p rfl rfl hS) <|
    p (yl_move rfl) <| ?_
   have hcall := c_timing_leaves q42 q1c q1d q1e q0u q1f q2x q1g q2y q2z q30 q25 q26 q27 q28 (hS.pull 2)
   refine o_cc call_115 (args2 rfl rfl) ((Calls.mono hcall (fun e w'' h => And.intro h.1 ((h.2.pull 2).pull 2)))) ?_
   rintro e w' ⟨rfl, hS⟩
   refine ⟨_, rfl, ?_⟩
   refine o_alloc zero_70 hS (fun b8 w' hS => ?_)
   refine o_storeAgg (news := [.int .i64 q0r.Lo, .int .i64 q0r.Hi]) agg_70 rfl rfl rfl (by simp [over_length]) hS (fun w' hS => ?_)
   replace hFL3 := ar_s hFL3; obtain ⟨x29, hx29, hFL3⟩ := hFL3
   replace hFL3 := ck_s hFL3; obtain ⟨q39, hFL3⟩ := hFL3
   refine x_done <| x_region <| p (yl_move q1q) <| p (yl_move rfl) <|
    p (yadd rfl rfl hx29) <| p (yl_field0 fld_70_0 rfl) <| pa (at_load one_3 rfl (hS.cell rfl)) <| p (yl_field0 fld_70_1 rfl) <|
    pa (at_load one_3 rfl (hS.cell rfl)) <| p (v := .agg #[.bool true, .int .i64 q0r.Lo, .int .i64 q0r.Hi]) (yl_build bld_145 bldf_145 (parts_eq (pt (va := .bool true) rfl (pt (va := .int .i64 q0r.Lo) rfl (pt (va := .int .i64 q0r.Hi) rfl pt0)))) (by kernel_rfl)) <| p (yix_o sl_140 rfl rfl (hS.pull 2) q0x q39) <| ?_
   replace hFL3 := lv_s hFL3; obtain ⟨q48, q43, hFL3⟩ := hFL3
   refine o_put' (news := [.bool true, .int .i64 q0r.Lo, .int .i64 q0r.Hi]) sz_145 rfl rfl rfl rfl (o := 0) rfl q39 rfl (hS.pull 2) q0x (Le.refl _) (fun c hc => ok_all hc (show R_timing_Arrival.ok ρ [.bool true, .int .i64 q0r.Lo, .int .i64 q0r.Hi] (T_timing_Arrival.mk true q0r.Lo q0r.Hi) from rfl)) q43 (fun q44 w' q45 hS => ?_)
   replace hFL3 := ar_s hFL3; obtain ⟨x36, hx36, hFL3⟩ := hFL3
   refine x_done <| x_blk <| x_region <| p (yadd q1h rfl hx36) <|
    p (yl_move rfl) <| x_done <| ?_
   have e_ := Option.some.inj (show some _ = some _ from hFL3); subst e_
   exact x_inv ⟨kL3, Nat.lt_succ_self _, q44, q48, x36, hLL3, q1p, q1q, q29, q2a, rfl, q45, ((((hS.pull 1).drop.pull 2).pull 1).pull 2)⟩
  ·replace hFL3 := it_f hc21 hFL3
   refine x_exitTo _ rfl <| ?_
   have e_ := Option.some.inj (show some _ = some _ from hFL3); subst e_
   exact x_inv ⟨q0m, q0w, hLL3, q1p, q1q, q0x, (((hS.pull 2).pull 2).pull 2)⟩
 rintro E w ⟨q0s, q16, rfl, q2j, q46, q31, hS⟩
 replace hF := bd_s hF; obtain ⟨q15, q47, hF⟩ := hF
 refine x_seq <| x_region <| p (yl_field0 fld_58_0 q2j) <| pa (v := .agg #[.slice q5 j0.Net.In.length c_j0_0, .slice q6 j0.Net.Out.length c_j0_1, .slice q7 j0.Net.Flops.length c_j0_2, .slice q3 j0.Net.Gates.length c_j0_3, .slice q8 j0.Net.Outs.length c_j0_4]) (ld_sub agg_30 rfl rfl rfl hS) <| ?_
 have hcall := c_netlist_First q47 q1c q1d q1e q0u q1f (hS.pull 2)
 refine o_cc call_22 (args1 rfl) ((Calls.mono hcall (fun e w'' h => And.intro h.1 ((h.2.pull 2).pull 2)))) ?_
 rintro e w' ⟨rfl, hS⟩
 refine ⟨_, rfl, ?_⟩
 refine p (v := .int .i64 q15) (yl_assign rfl) <| x_done <| x_seq <| x_seq <|
  x_region <| p (yl_field0 fld_58_0 q2j) <| p (yl_field0 fld_30_3 rfl) <| pa (at_load one_28 rfl (hS.cell rfl)) <|
  p (yl_len_slice usl_28 rfl) <| p (yl_move rfl) <| x_done <| ?_
 replace hF := bd_s hF; obtain ⟨oL10, hLL10, hF⟩ := hF
 refine x_join (fun E w => ∃ (q0n : List Value) (q1b : List T_timing_Arrival), q1b = oL10 ∧ E 5 = .slice A17 q2.length q2.length ∧ RepL R_timing_Arrival ρ q1b q0n ∧ St w0 w (vec 145 R_timing_Arrival.sz (.slice A17 q2.length q2.length) q2.length q0n :: ro ρ :: l)) ?_ ?_
 ·refine x_block ?_
  refine x_loop (fun k_ E w => ∃ (q9 : List Value) (q0q : List T_timing_Arrival) (q0a : Int), lp (P_timing_from_L10 j0 q15) k_ (q0q, q0a) = some oL10 ∧ E 2 = .pointer (some ⟨b2, 0, none⟩) ∧ E 5 = .slice A17 q2.length q2.length ∧ E 9 = .int .i64 q15 ∧ E 42 = .slice q3 j0.Net.Gates.length c_j0_3 ∧ E 43 = .int .i64 (j0.Net.Gates.length : Int) ∧ E 44 = .int .i64 q0a ∧ RepL R_timing_Arrival ρ q0q q9 ∧ St w0 w (cells b2 58 [.slice q5 j0.Net.In.length c_j0_0, .slice q6 j0.Net.Out.length c_j0_1, .slice q7 j0.Net.Flops.length c_j0_2, .slice q3 j0.Net.Gates.length c_j0_3, .slice q8 j0.Net.Outs.length c_j0_4, .slice q0g j0.Lib.length c_j0_5, .slice q0h j0.Delays.Gates.length c_j0_6, .slice q0i j0.Delays.Data.length c_j0_7, .slice q0j j0.Delays.Outs.length c_j0_8, .slice q0k j0.Delays.Clock.length c_j0_9, .slice q0b j0.Delays.Launch.length c_j0_10, .int .i64 j0.Limits.Period, .slice q0c j0.Limits.Inputs.length c_j0_12, .slice q0d j0.Limits.Outputs.length c_j0_13, .slice q0e j0.Limits.Paths.length c_j0_14] :: vec 145 R_timing_Arrival.sz (.slice A17 q2.length q2.length) q2.length q9 :: ro ρ :: l)) fuel ⟨q0s, q16, 0, hLL10, q2j, q46, rfl, rfl, rfl, rfl, q31, (((hS.pull 2).pull 2).pull 2)⟩ ?_
  rintro kL10 E w ⟨q9, q0q, q0a, hLL10, q3a, q2b, q3b, q1r, q1s, q0y, q19, hS⟩
  replace hLL10 := lp_s hLL10; obtain ⟨kL10, obL10, rfl, hFL10, hLL10⟩ := hLL10
  refine x_seq <| x_region <| p (yl_lss q0y q1s) <| x_done <|
   x_seq <|
   x_cond_p (q0a < (j0.Net.Gates.length : Int)) rfl (fun hc45 => ?_) (fun hc45 => ?_)
  ·replace hFL10 := it_t hc45 hFL10
   replace hFL10 := ck_s hFL10; obtain ⟨q32, hFL10⟩ := hFL10
   replace hFL10 := lv_s hFL10; obtain ⟨q0o, q3q, hFL10⟩ := hFL10
   have q_ := q0u.get q32; obtain ⟨q4d, q33, q3r⟩ := q_
   rw [← q3q] at q33
   obtain ⟨q1i, q49, q1j, rfl, q1k⟩ := q33
   have e_ := q1k.n; subst e_
   refine x_skip <| x_seq <| x_block <| x_seq <|
    x_region <| p (yl_move q0y) <| p (yix_f sl_28 q1r q0y q0u q32) <| pa (v := .agg #[.int .i64 q0o.Cell, .int .u64 q0o.Table, .slice q1i q0o.Ins.length q1j]) (at_loadAgg agg_38 rfl rfl (Elt.every q3r (hS.pull 2))) <| ?_
   refine o_alloc zero_38 hS (fun b11 w' hS => ?_)
   refine p (yl_assign rfl) <| ?_
   refine o_storeAgg (news := [.int .i64 q0o.Cell, .int .u64 q0o.Table, .slice q1i q0o.Ins.length q1j]) agg_38 rfl rfl rfl (by simp [over_length]) hS (fun w' hS => ?_)
   refine x_done <| x_seq <| x_region <| p (yl_field0 fld_38_2 rfl) <|
    pa (at_load one_22 rfl (hS.cell rfl)) <| p (yl_len_slice usl_22 rfl) <| p (yl_move rfl) <| x_done <| ?_
   replace hFL10 := bd_s hFL10; obtain ⟨oL13, hLL13, hFL10⟩ := hFL10
   refine x_join (fun E w => ∃ (q0p : List Value) (q0z : List T_timing_Arrival), q0z = oL13 ∧ E 2 = .pointer (some ⟨b2, 0, none⟩) ∧ E 5 = .slice A17 q2.length q2.length ∧ E 9 = .int .i64 q15 ∧ E 42 = .slice q3 j0.Net.Gates.length c_j0_3 ∧ E 43 = .int .i64 (j0.Net.Gates.length : Int) ∧ E 44 = .int .i64 q0a ∧ RepL R_timing_Arrival ρ q0z q0p ∧ St w0 w (cells b2 58 [.slice q5 j0.Net.In.length c_j0_0, .slice q6 j0.Net.Out.length c_j0_1, .slice q7 j0.Net.Flops.length c_j0_2, .slice q3 j0.Net.Gates.length c_j0_3, .slice q8 j0.Net.Outs.length c_j0_4, .slice q0g j0.Lib.length c_j0_5, .slice q0h j0.Delays.Gates.length c_j0_6, .slice q0i j0.Delays.Data.length c_j0_7, .slice q0j j0.Delays.Outs.length c_j0_8, .slice q0k j0.Delays.Clock.length c_j0_9, .slice q0b j0.Delays.Launch.length c_j0_10, .int .i64 j0.Limits.Period, .slice q0c j0.Limits.Inputs.length c_j0_12, .slice q0d j0.Limits.Outputs.length c_j0_13, .slice q0e j0.Limits.Paths.length c_j0_14] :: vec 145 R_timing_Arrival.sz (.slice A17 q2.length q2.length) q2.length q0p :: ro ρ :: l)) ?_ ?_
   ·refine x_block ?_
    refine x_loop (fun k_ E w => ∃ (q0l : List Value) (q0t : List T_timing_Arrival) (q10 : Int), lp (P_timing_from_L13 j0 q15 q0o q0a) k_ (q0t, q10) = some oL13 ∧ E 2 = .pointer (some ⟨b2, 0, none⟩) ∧ E 5 = .slice A17 q2.length q2.length ∧ E 9 = .int .i64 q15 ∧ E 10 = .int .i64 q0a ∧ E 42 = .slice q3 j0.Net.Gates.length c_j0_3 ∧ E 43 = .int .i64 (j0.Net.Gates.length : Int) ∧ E 44 = .int .i64 q0a ∧ E 50 = .slice q1i q0o.Ins.length q1j ∧ E 51 = .int .i64 (q0o.Ins.length : Int) ∧ E 52 = .int .i64 q10 ∧ RepL R_timing_Arrival ρ q0t q0l ∧ St w0 w (cells b2 58 [.slice q5 j0.Net.In.length c_j0_0, .slice q6 j0.Net.Out.length c_j0_1, .slice q7 j0.Net.Flops.length c_j0_2, .slice q3 j0.Net.Gates.length c_j0_3, .slice q8 j0.Net.Outs.length c_j0_4, .slice q0g j0.Lib.length c_j0_5, .slice q0h j0.Delays.Gates.length c_j0_6, .slice q0i j0.Delays.Data.length c_j0_7, .slice q0j j0.Delays.Outs.length c_j0_8, .slice q0k j0.Delays.Clock.length c_j0_9, .slice q0b j0.Delays.Launch.length c_j0_10, .int .i64 j0.Limits.Period, .slice q0c j0.Limits.Inputs.length c_j0_12, .slice q0d j0.Limits.Outputs.length c_j0_13, .slice q0e j0.Limits.Paths.length c_j0_14] :: vec 145 R_timing_Arrival.sz (.slice A17 q2.length q2.length) q2.length q0l :: ro ρ :: l)) fuel ⟨q9, q0q, 0, hLL13, q3a, q2b, q3b, rfl, q1r, q1s, q0y, rfl, rfl, rfl, q19, (((hS.drop.pull 2).pull 2).pull 2)⟩ ?_
    rintro kL13 E w ⟨q0l, q0t, q10, hLL13, q1l, q0v, q18, q11, q1t, q1u, q1v, q1w, q1x, q12, q4, hS⟩
    replace hLL13 := lp_s hLL13; obtain ⟨kL13, obL13, rfl, hFL13, hLL13⟩ := hLL13
    refine x_seq <| x_region <| p (yl_lss q12 q1x) <| x_done <|
     x_seq <|
     x_cond_p (q10 < (q0o.Ins.length : Int)) rfl (fun hc53 => ?_) (fun hc53 => ?_)
    ·replace hFL13 := it_t hc53 hFL13
     replace hFL13 := ck_s hFL13; obtain ⟨q34, hFL13⟩ := hFL13
     replace hFL13 := lv_s hFL13; obtain ⟨x56, hx56, hFL13⟩ := hFL13
     replace hFL13 := ar_s hFL13; obtain ⟨x60, hx60, hFL13⟩ := hFL13
     replace hFL13 := ar_s hFL13; obtain ⟨x64, hx64, hFL13⟩ := hFL13
     replace hFL13 := ck_s hFL13; obtain ⟨q35, hFL13⟩ := hFL13
     replace hFL13 := lv_s hFL13; obtain ⟨q2k, q3s, hFL13⟩ := hFL13
     have q_ := q4.get q35; obtain ⟨q4e, q36, q3t⟩ := q_
     rw [← q3s] at q36
     have e_ := q36; subst e_
     replace hFL13 := ck_s hFL13; obtain ⟨q2c, hFL13⟩ := hFL13
     replace hFL13 := lv_s hFL13; obtain ⟨q1y, q3c, hFL13⟩ := hFL13
     have q_ := q4.get q2c; obtain ⟨q4a, q2d, q3d⟩ := q_
     rw [← q3c] at q2d
     have e_ := q2d; subst e_
     replace hFL13 := ck_s hFL13; obtain ⟨q2e, hFL13⟩ := hFL13
     replace hFL13 := lv_s hFL13; obtain ⟨q4f, q3e, hFL13⟩ := hFL13
     have q_ := q1g.get q2e; obtain ⟨q4b, q2f, q3f⟩ := q_
     rw [← q3e] at q2f
     obtain ⟨q4g, q4h, q4i, rfl, q1z⟩ := q2f
     have e_ := q1z.n; subst e_
     replace hFL13 := ck_s hFL13; obtain ⟨q2g, hFL13⟩ := hFL13
     replace hFL13 := lv_s hFL13; obtain ⟨q37, q3g, hFL13⟩ := hFL13
     have q_ := q1z.get q2g; obtain ⟨q4c, q2h, q3h⟩ := q_
     rw [← q3g] at q2h
     have e_ := q2h; subst e_
     replace hFL13 := bd_s hFL13; obtain ⟨q20, q3i, hFL13⟩ := hFL13
     replace hFL13 := bd_s hFL13; obtain ⟨q0f, q3j, hFL13⟩ := hFL13
     replace hFL13 := ck_s hFL13; obtain ⟨q2i, hFL13⟩ := hFL13
     refine x_skip <| x_seq <| x_block <| x_seq <|
      x_region <| p (yl_move q12) <| p (yix_f sl_22 q1w q12 q1k q34) <| pa (at_load one_3 rfl (RdS.getW q1k (hS.pull 2) q34 hx56)) <|
      p (yl_assign rfl) <| p (yl_assign rfl) <| x_done <| x_head 26 mixed (by kernel_rfl) hS _ _ rfl rfl <|
      q (yl_move q0v) <| q (v := .int .i64 q15) (yl_move q18) <| q (yl_move q11) <| q (yadd rfl rfl hx60) <|
      q (yl_move q0v) <| q (v := .int .i64 q15) (yl_move q18) <| q (yl_move q11) <| q (yadd rfl rfl hx64) <|
      q (yix_o sl_140 rfl rfl (hS.pull 1) q4 q35) <| qa (v := .agg #[.bool q2k.Known, .int .i64 q2k.Early, .int .i64 q2k.Late]) (fun w' hS => at_loadAgg agg_145 rfl rfl (EltV.every q3t (hS.pull 1))) <| q (yl_move q0v) <| q (yl_move rfl) <|
      q (yix_o sl_140 rfl rfl (hS.pull 1) q4 q2c) <| qa (v := .agg #[.bool q1y.Known, .int .i64 q1y.Early, .int .i64 q1y.Late]) (fun w' hS => at_loadAgg agg_145 rfl rfl (EltV.every q3d (hS.pull 1))) <| q (yl_field0 fld_58_2 q1l) <| q (yl_fieldN fld_51_0 rfl) <|
      qa (fun w' hS => at_load one_48 rfl (hS.cell rfl)) <| q (yl_move q11) <| q (yix_f sl_48 rfl rfl q1g q2e) <| qa (fun w' hS => at_load one_49 rfl (Elt.ld (j := 0) q3f (hS.pull 2) rfl)) <|
      q (yl_move rfl) <| q (yix_f sl_49 rfl rfl q1z q2g) <| qa (v := .agg #[.int .i64 q37.Lo, .int .i64 q37.Hi]) (fun w' hS => at_loadAgg agg_70 rfl rfl (Elt.every q3h (hS.pull 2))) <| qcc (v := .agg #[.bool q20.Known, .int .i64 q20.Early, .int .i64 q20.Late]) call_117 (args2 rfl rfl) (fun w' hS => by
       have hcall := c_timing_later q3i  (hS.pull 2)
       exact (Calls.mono hcall (fun e w'' h => And.intro h.1 ((h.2.pull 2).pull 2)))) <|
      qcc (v := .agg #[.bool q0f.Known, .int .i64 q0f.Early, .int .i64 q0f.Late]) call_116 (args2 rfl rfl) (fun w' hS => by
       have hcall := c_timing_join q3j  (hS.pull 2)
       exact (Calls.mono hcall (fun e w'' h => And.intro h.1 ((h.2.pull 2).pull 2)))) <| q (yix_o sl_140 rfl rfl (hS.pull 1) q4 q2i) <|
      q_done fun w' hS => ?_
     replace hFL13 := lv_s hFL13; obtain ⟨q3u, q3k, hFL13⟩ := hFL13
     refine o_put' (news := [.bool q0f.Known, .int .i64 q0f.Early, .int .i64 q0f.Late]) sz_145 rfl rfl rfl rfl (o := 0) rfl q2i rfl (hS.pull 1) q4 (Le.refl _) (fun c hc => ok_all hc (show R_timing_Arrival.ok ρ [.bool q0f.Known, .int .i64 q0f.Early, .int .i64 q0f.Late] q0f from rfl)) q3k (fun q3l w' q3m hS => ?_)
     replace hFL13 := ar_s hFL13; obtain ⟨x83, hx83, hFL13⟩ := hFL13
     refine x_done <| x_blk <| x_region <| p (yadd q12 rfl hx83) <|
      p (yl_move rfl) <| x_done <| ?_
     have e_ := Option.some.inj (show some _ = some _ from hFL13); subst e_
     exact x_inv ⟨kL13, Nat.lt_succ_self _, q3l, q3u, x83, hLL13, q1l, q0v, q18, q11, q1t, q1u, q1v, q1w, q1x, rfl, q3m, (((hS.pull 2).pull 1).pull 2)⟩
    ·replace hFL13 := it_f hc53 hFL13
     refine x_exitTo _ rfl <| ?_
     have e_ := Option.some.inj (show some _ = some _ from hFL13); subst e_
     exact x_inv ⟨q0l, q0t, hLL13, q1l, q0v, q18, q1t, q1u, q1v, q4, (((hS.pull 2).pull 2).pull 2)⟩
   rintro E w ⟨q0p, q0z, rfl, q3v, q3w, q3x, q3n, q3o, q3p, q2l, hS⟩
   replace hFL10 := ar_s hFL10; obtain ⟨x84, hx84, hFL10⟩ := hFL10
   refine x_blk <| x_region <| p (yadd q3p rfl hx84) <| p (yl_move rfl) <|
    x_done <| ?_
   have e_ := Option.some.inj (show some _ = some _ from hFL10); subst e_
   exact x_inv ⟨kL10, Nat.lt_succ_self _, q0p, q0z, x84, hLL10, q3v, q3w, q3x, q3n, q3o, rfl, q2l, (((hS.pull 2).pull 2).pull 2)⟩
  ·replace hFL10 := it_f hc45 hFL10
   refine x_exitTo _ rfl <| ?_
   have e_ := Option.some.inj (show some _ = some _ from hFL10); subst e_
   exact x_inv ⟨q9, q0q, hLL10, q2b, q19, ((hS.drop.pull 1).pull 1)⟩
 rintro E w ⟨q0n, q1b, rfl, q3y, q2m, hS⟩
 refine x_seq <| x_region <| p (yl_move q3y) <| p (yl_assign rfl) <|
  x_done <| ?_
 have e_ := Option.some.inj (show some _ = some _ from hF); subst e_
 exact x_return ⟨_, ⟨_, _, rfl, rfl, rfl⟩, A17, q2.length, q2.length, q0n, rfl, q2m, ((hS.pull 1).pull 1)⟩
attribute [irreducible] P_timing_from

def P_timing_at (j0 : T_timing_Job) (nets1 : List T_timing_Arrival) (e_2 : T_timing_End) : Option T_timing_Arrival :=
 if e_2.Flop < 0 then
  ck (inb e_2.Input j0.Net.Outs.length) <|
  lv (gt j0.Net.Outs e_2.Input) fun x19 =>
  ck (inb x19 nets1.length) <|
  lv (gt nets1 x19) fun q9 =>
  ck (inb e_2.Input j0.Delays.Outs.length) <|
  lv (gt j0.Delays.Outs e_2.Input) fun q5 =>
  bd (P_timing_later q9 q5) fun q6 =>
  some q6
 else
  ck (inb e_2.Flop j0.Net.Flops.length) <|
  lv (gt j0.Net.Flops e_2.Flop) fun q4 =>
  bd (
   if e_2.Input = 1 then
    some q4.En
   else
    some q4.D) fun q2 =>
  ck (inb q2 nets1.length) <|
  lv (gt nets1 q2) fun q0a =>
  ck (inb e_2.Flop j0.Delays.Data.length) <|
  lv (gt j0.Delays.Data e_2.Flop) fun q3 =>
  ck (inb e_2.Input q3.length) <|
  lv (gt q3 e_2.Input) fun q7 =>
  bd (P_timing_later q0a q7) fun q8 =>
  some q8
set_option maxHeartbeats 4000000 in
set_option maxRecDepth 100000 in
theorem c_timing_at {w0 w : World} {l : List Assn} {ρ : Heap} {q0b : Option Addr} {q0w : Nat} {c_j0_0 : Nat} {q0c : Option Addr} {q0x : Nat} {c_j0_1 : Nat} {q0d : Option Addr} {q0y : Nat} {c_j0_2 : Nat} {q0e : Option Addr} {q0z : Nat} {c_j0_3 : Nat} {q0f : Option Addr} {q10 : Nat} {c_j0_4 : Nat} {q0g : Option Addr} {q11 : Nat} {c_j0_5 : Nat} {q0h : Option Addr} {q12 : Nat} {c_j0_6 : Nat} {q0i : Option Addr} {q13 : Nat} {c_j0_7 : Nat} {q0j : Option Addr} {q14 : Nat} {c_j0_8 : Nat} {q0k : Option Addr} {q15 : Nat} {c_j0_9 : Nat} {q4 : Option Addr} {q0q : Nat} {c_j0_10 : Nat} {q5 : Option Addr} {q0r : Nat} {c_j0_12 : Nat} {q6 : Option Addr} {q0s : Nat} {c_j0_13 : Nat} {q7 : Option Addr} {q0t : Nat} {c_j0_14 : Nat} {q0l : Option Addr} {q0u : Nat} {c_nets1 : Nat} {j0 : T_timing_Job} {nets1 : List T_timing_Arrival} {e_2 : T_timing_End} {r : T_timing_Arrival} (hF : P_timing_at j0 nets1 e_2 = some r) (q1t : RdS RpS ρ q0b q0w c_j0_0 j0.Net.In) (q1u : RdS RpS ρ q0c q0x c_j0_1 j0.Net.Out) (q0m : RdS R_api_Flop ρ q0d q0y c_j0_2 j0.Net.Flops) (q1v : RdS R_api_Gate ρ q0e q0z c_j0_3 j0.Net.Gates) (q0n : RdS (RpI .i64) ρ q0f q10 c_j0_4 j0.Net.Outs) (q1w : RdS R_api_Cell ρ q0g q11 c_j0_5 j0.Lib) (q1x : RdS (RpSl R_tree_Window) ρ q0h q12 c_j0_6 j0.Delays.Gates) (q0o : RdS (RpSl R_tree_Window) ρ q0i q13 c_j0_7 j0.Delays.Data) (q0p : RdS R_tree_Window ρ q0j q14 c_j0_8 j0.Delays.Outs) (q1y : RdS R_tree_Window ρ q0k q15 c_j0_9 j0.Delays.Clock) (q1p : RdS R_tree_Window ρ q4 q0q c_j0_10 j0.Delays.Launch) (q1q : RdS R_clocks_Input ρ q5 q0r c_j0_12 j0.Limits.Inputs) (q1r : RdS R_clocks_Output ρ q6 q0s c_j0_13 j0.Limits.Outputs) (q1s : RdS R_clocks_Path ρ q7 q0t c_j0_14 j0.Limits.Paths) (q3 : RdS R_timing_Arrival ρ q0l q0u c_nets1 nets1) (hS : St w0 w (ro ρ :: l)) :
  Calls Tryd.prog 122 #[.agg #[.slice q0b q0w c_j0_0, .slice q0c q0x c_j0_1, .slice q0d q0y c_j0_2, .slice q0e q0z c_j0_3, .slice q0f q10 c_j0_4, .slice q0g q11 c_j0_5, .slice q0h q12 c_j0_6, .slice q0i q13 c_j0_7, .slice q0j q14 c_j0_8, .slice q0k q15 c_j0_9, .slice q4 q0q c_j0_10, .int .i64 j0.Limits.Period, .slice q5 q0r c_j0_12, .slice q6 q0s c_j0_13, .slice q7 q0t c_j0_14], .slice q0l q0u c_nets1, .agg #[.int .i64 e_2.Flop, .int .i64 e_2.Input, .bool e_2.Setup.Known, .int .i64 e_2.Setup.Value, .int .i64 e_2.Setup.From, .bool e_2.Hold.Known, .int .i64 e_2.Hold.Value, .int .i64 e_2.Hold.From]] w fun e w' => e = .returned (.agg #[.bool r.Known, .int .i64 r.Early, .int .i64 r.Late]) ∧ St w0 w' (ro ρ :: l) := by
 have e_ := q1t.n; subst e_
 have e_ := q1u.n; subst e_
 have e_ := q0m.n; subst e_
 have e_ := q1v.n; subst e_
 have e_ := q0n.n; subst e_
 have e_ := q1w.n; subst e_
 have e_ := q1x.n; subst e_
 have e_ := q0o.n; subst e_
 have e_ := q0p.n; subst e_
 have e_ := q1y.n; subst e_
 have e_ := q1p.n; subst e_
 have e_ := q1q.n; subst e_
 have e_ := q1r.n; subst e_
 have e_ := q1s.n; subst e_
 have e_ := q3.n; subst e_
 refine enterC Tryd.func122 rfl 60 rfl (by simp) ?_
 refine x_seq <| x_region <| ?_
 refine o_box (cs := [.slice q0b j0.Net.In.length c_j0_0, .slice q0c j0.Net.Out.length c_j0_1, .slice q0d j0.Net.Flops.length c_j0_2, .slice q0e j0.Net.Gates.length c_j0_3, .slice q0f j0.Net.Outs.length c_j0_4, .slice q0g j0.Lib.length c_j0_5, .slice q0h j0.Delays.Gates.length c_j0_6, .slice q0i j0.Delays.Data.length c_j0_7, .slice q0j j0.Delays.Outs.length c_j0_8, .slice q0k j0.Delays.Clock.length c_j0_9, .slice q4 j0.Delays.Launch.length c_j0_10, .int .i64 j0.Limits.Period, .slice q5 j0.Limits.Inputs.length c_j0_12, .slice q6 j0.Limits.Outputs.length c_j0_13, .slice q7 j0.Limits.Paths.length c_j0_14]) rfl rfl hS (fun b3 w' hS => ?_)
 refine o_box (cs := [.int .i64 e_2.Flop, .int .i64 e_2.Input, .bool e_2.Setup.Known, .int .i64 e_2.Setup.Value, .int .i64 e_2.Setup.From, .bool e_2.Hold.Known, .int .i64 e_2.Hold.Value, .int .i64 e_2.Hold.From]) rfl rfl hS (fun b5 w' hS => ?_)
 refine o_alloc zero_145 hS (fun b6 w' hS => ?_)
 refine x_done <| x_seq <| x_seq <| x_region <|
  p (yl_field0 fld_67_0 rfl) <| pa (at_load one_3 rfl ((hS.pull 1).cell rfl)) <| p (yl_lss rfl rfl) <| x_done <|
  x_cond_p (e_2.Flop < 0) rfl (fun hc11 => ?_) (fun hc11 => ?_)
 ·replace hF := it_t hc11 hF
  replace hF := ck_s hF; obtain ⟨q1f, hF⟩ := hF
  replace hF := lv_s hF; obtain ⟨x19, hx19, hF⟩ := hF
  replace hF := ck_s hF; obtain ⟨q1g, hF⟩ := hF
  replace hF := lv_s hF; obtain ⟨q1d, q2a, hF⟩ := hF
  have q_ := q3.get q1g; obtain ⟨q2j, q1h, q2b⟩ := q_
  rw [← q2a] at q1h
  have e_ := q1h; subst e_
  replace hF := ck_s hF; obtain ⟨q16, hF⟩ := hF
  replace hF := lv_s hF; obtain ⟨q1i, q1z, hF⟩ := hF
  have q_ := q0p.get q16; obtain ⟨q2g, q17, q20⟩ := q_
  rw [← q1z] at q17
  have e_ := q17; subst e_
  replace hF := bd_s hF; obtain ⟨q8, q21, hF⟩ := hF
  refine x_seq <| x_head 18 mixed (by kernel_rfl) hS _ _ rfl rfl <| q (yl_move rfl) <| q (yl_field0 fld_58_0 rfl) <|
   q (yl_field0 fld_30_4 rfl) <| qa (fun w' hS => at_load one_22 rfl ((hS.pull 2).cell rfl)) <| q (yl_field0 fld_67_1 rfl) <| qa (fun w' hS => at_load one_3 rfl ((hS.pull 1).cell rfl)) <|
   q (yix_f sl_22 rfl rfl q0n q1f) <| qa (fun w' hS => at_load one_3 rfl (RdS.getW q0n (hS.pull 3) q1f hx19)) <| q (yix_f sl_140 rfl rfl q3 q1g) <| qa (v := .agg #[.bool q1d.Known, .int .i64 q1d.Early, .int .i64 q1d.Late]) (fun w' hS => at_loadAgg agg_145 rfl rfl (Elt.every q2b (hS.pull 3))) <|
   q (yl_field0 fld_58_2 rfl) <| q (yl_fieldN fld_51_2 rfl) <| qa (fun w' hS => at_load one_49 rfl ((hS.pull 2).cell rfl)) <| q (yl_field0 fld_67_1 rfl) <|
   qa (fun w' hS => at_load one_3 rfl ((hS.pull 1).cell rfl)) <| q (yix_f sl_49 rfl rfl q0p q16) <| qa (v := .agg #[.int .i64 q1i.Lo, .int .i64 q1i.Hi]) (fun w' hS => at_loadAgg agg_70 rfl rfl (Elt.every q20 (hS.pull 3))) <| qcc (v := .agg #[.bool q8.Known, .int .i64 q8.Early, .int .i64 q8.Late]) call_117 (args2 rfl rfl) (fun w' hS => by
    have hcall := c_timing_later q21  (hS.pull 3)
    exact (Calls.mono hcall (fun e w'' h => And.intro h.1 (((h.2.pull 3).pull 3).pull 3)))) <|
   q_done fun w' hS => ?_
  refine o_storeAgg (news := [.bool q8.Known, .int .i64 q8.Early, .int .i64 q8.Late]) agg_145 rfl rfl rfl (by simp [over_length]) hS (fun w' hS => ?_)
  refine x_done <| ?_
  have e_ := Option.some.inj (show some _ = some _ from hF); subst e_
  exact x_return ⟨_, ⟨_, _, _, rfl, rfl, ldvA agg_145 rfl (fun j v hj => by rw [add0]; exact St.cell hS hj), rfl⟩, rfl, hS.drop.drop.drop⟩
 ·replace hF := it_f hc11 hF
  replace hF := ck_s hF; obtain ⟨q1j, hF⟩ := hF
  replace hF := lv_s hF; obtain ⟨q2, q2c, hF⟩ := hF
  have q_ := q0m.get q1j; obtain ⟨q2k, q1k, q2d⟩ := q_
  rw [← q2c] at q1k
  have e_ := q1k; subst e_
  refine x_skip <| x_seq <| x_region <| p (yl_field0 fld_58_0 rfl) <|
   p (yl_field0 fld_30_2 rfl) <| pa (at_load one_27 rfl ((hS.pull 2).cell rfl)) <| p (yl_field0 fld_67_0 rfl) <| pa (at_load one_3 rfl ((hS.pull 1).cell rfl)) <|
   p (yix_f sl_27 rfl rfl q0m q1j) <| pa (v := .agg #[.string q2.Name, .int .i64 q2.Cell, .int .i64 q2.D, .int .i64 q2.En, .bool q2.Init]) (at_loadAgg agg_135 rfl rfl (Elt.every q2d (hS.pull 3))) <| ?_
  refine o_alloc zero_135 hS (fun b7 w' hS => ?_)
  refine o_storeAgg (news := [.string q2.Name, .int .i64 q2.Cell, .int .i64 q2.D, .int .i64 q2.En, .bool q2.Init]) agg_135 rfl rfl rfl (by simp [over_length]) hS (fun w' hS => ?_)
  refine x_done <| x_seq <| x_region <| p (yl_field0 fld_135_2 rfl) <|
   pa (at_load one_3 rfl (hS.cell rfl)) <| p (yl_assign rfl) <| x_done <| x_seq <|
   x_seq <| x_region <| p (yl_field0 fld_67_1 rfl) <| pa (at_load one_3 rfl ((hS.pull 2).cell rfl)) <|
   p (yl_eql rfl rfl) <| x_done <| ?_
  replace hF := bd_s hF; obtain ⟨oc41, hFc41, hF⟩ := hF
  refine x_join (fun E w => ∃ (q0a : Int), q0a = oc41 ∧ E 1 = .slice q0l nets1.length c_nets1 ∧ E 3 = .pointer (some ⟨b3, 0, none⟩) ∧ E 5 = .pointer (some ⟨b5, 0, none⟩) ∧ E 6 = .pointer (some ⟨b6, 0, none⟩) ∧ E 8 = .int .i64 q0a ∧ St w0 w (cells b3 58 [.slice q0b j0.Net.In.length c_j0_0, .slice q0c j0.Net.Out.length c_j0_1, .slice q0d j0.Net.Flops.length c_j0_2, .slice q0e j0.Net.Gates.length c_j0_3, .slice q0f j0.Net.Outs.length c_j0_4, .slice q0g j0.Lib.length c_j0_5, .slice q0h j0.Delays.Gates.length c_j0_6, .slice q0i j0.Delays.Data.length c_j0_7, .slice q0j j0.Delays.Outs.length c_j0_8, .slice q0k j0.Delays.Clock.length c_j0_9, .slice q4 j0.Delays.Launch.length c_j0_10, .int .i64 j0.Limits.Period, .slice q5 j0.Limits.Inputs.length c_j0_12, .slice q6 j0.Limits.Outputs.length c_j0_13, .slice q7 j0.Limits.Paths.length c_j0_14] :: cells b5 67 [.int .i64 e_2.Flop, .int .i64 e_2.Input, .bool e_2.Setup.Known, .int .i64 e_2.Setup.Value, .int .i64 e_2.Setup.From, .bool e_2.Hold.Known, .int .i64 e_2.Hold.Value, .int .i64 e_2.Hold.From] :: cells b6 145 [.bool false, .int .i64 0, .int .i64 0] :: ro ρ :: l)) ?_ ?_
  ·refine x_cond_p (e_2.Input = 1) rfl (fun hc41 => ?_) (fun hc41 => ?_)
   ·replace hFc41 := it_t hc41 hFc41
    refine x_region <| p (yl_field0 fld_135_3 rfl) <| pa (at_load one_3 rfl (hS.cell rfl)) <| p (yl_assign rfl) <|
     x_done <| ?_
    exact x_inv ⟨q2.En, (Option.some.inj (show some _ = some _ from hFc41)), rfl, rfl, rfl, rfl, rfl, ((((hS.drop.pull 3).pull 1).pull 2).pull 3)⟩
   ·replace hFc41 := it_f hc41 hFc41
    refine x_skip <| ?_
    exact x_inv ⟨q2.D, (Option.some.inj (show some _ = some _ from hFc41)), rfl, rfl, rfl, rfl, rfl, ((((hS.drop.pull 3).pull 1).pull 2).pull 3)⟩
  rintro E w ⟨q0a, rfl, q22, q23, q18, q19, q24, hS⟩
  replace hF := ck_s hF; obtain ⟨q1l, hF⟩ := hF
  replace hF := lv_s hF; obtain ⟨q1e, q2e, hF⟩ := hF
  have q_ := q3.get q1l; obtain ⟨q2l, q1m, q2f⟩ := q_
  rw [← q2e] at q1m
  have e_ := q1m; subst e_
  replace hF := ck_s hF; obtain ⟨q1n, hF⟩ := hF
  replace hF := lv_s hF; obtain ⟨q2m, q25, hF⟩ := hF
  have q_ := q0o.get q1n; obtain ⟨q2h, q1a, q26⟩ := q_
  rw [← q25] at q1a
  obtain ⟨q2n, q2o, q2p, rfl, q0v⟩ := q1a
  have e_ := q0v.n; subst e_
  replace hF := ck_s hF; obtain ⟨q1b, hF⟩ := hF
  replace hF := lv_s hF; obtain ⟨q1o, q27, hF⟩ := hF
  have q_ := q0v.get q1b; obtain ⟨q2i, q1c, q28⟩ := q_
  rw [← q27] at q1c
  have e_ := q1c; subst e_
  replace hF := bd_s hF; obtain ⟨q9, q29, hF⟩ := hF
  refine x_seq <| x_head 16 mixed (by kernel_rfl) hS _ _ rfl rfl <| q (yl_move q22) <| q (yl_move q24) <|
   q (yix_f sl_140 rfl rfl q3 q1l) <| qa (v := .agg #[.bool q1e.Known, .int .i64 q1e.Early, .int .i64 q1e.Late]) (fun w' hS => at_loadAgg agg_145 rfl rfl (Elt.every q2f (hS.pull 3))) <| q (yl_field0 fld_58_2 q23) <| q (yl_fieldN fld_51_1 rfl) <|
   qa (fun w' hS => at_load one_48 rfl (hS.cell rfl)) <| q (yl_field0 fld_67_0 q18) <| qa (fun w' hS => at_load one_3 rfl ((hS.pull 1).cell rfl)) <| q (yix_f sl_48 rfl rfl q0o q1n) <|
   qa (fun w' hS => at_load one_49 rfl (Elt.ld (j := 0) q26 (hS.pull 3) rfl)) <| q (yl_field0 fld_67_1 q18) <| qa (fun w' hS => at_load one_3 rfl ((hS.pull 1).cell rfl)) <| q (yix_f sl_49 rfl rfl q0v q1b) <|
   qa (v := .agg #[.int .i64 q1o.Lo, .int .i64 q1o.Hi]) (fun w' hS => at_loadAgg agg_70 rfl rfl (Elt.every q28 (hS.pull 3))) <| qcc (v := .agg #[.bool q9.Known, .int .i64 q9.Early, .int .i64 q9.Late]) call_117 (args2 rfl rfl) (fun w' hS => by
    have hcall := c_timing_later q29  (hS.pull 3)
    exact (Calls.mono hcall (fun e w'' h => And.intro h.1 (((h.2.pull 3).pull 3).pull 3)))) <|
   q_done fun w' hS => ?_
  refine o_storeAgg (news := [.bool q9.Known, .int .i64 q9.Early, .int .i64 q9.Late]) agg_145 q19 rfl rfl (by simp [over_length]) (hS.pull 2) (fun w' hS => ?_)
  refine x_done <| ?_
  have e_ := Option.some.inj (show some _ = some _ from hF); subst e_
  exact x_return ⟨_, ⟨_, _, _, rfl, q19, ldvA agg_145 rfl (fun j v hj => by rw [add0]; exact St.cell hS hj), rfl⟩, rfl, hS.drop.drop.drop⟩
attribute [irreducible] P_timing_at

def P_timing_End_in (e_0 : T_timing_End) (j1 : T_timing_Job) (nets2 : List T_timing_Arrival) : Option T_timing_Arrival :=
 bd (P_timing_at j1 nets2 e_0) fun q2 =>
 some q2
set_option maxHeartbeats 4000000 in
set_option maxRecDepth 100000 in
theorem c_timing_End_in {w0 w : World} {l : List Assn} {ρ : Heap} {q6 : Option Addr} {q0r : Nat} {c_j1_0 : Nat} {q7 : Option Addr} {q0s : Nat} {c_j1_1 : Nat} {q8 : Option Addr} {q0t : Nat} {c_j1_2 : Nat} {q9 : Option Addr} {q0u : Nat} {c_j1_3 : Nat} {q0a : Option Addr} {q0v : Nat} {c_j1_4 : Nat} {q0b : Option Addr} {q0w : Nat} {c_j1_5 : Nat} {q0c : Option Addr} {q0x : Nat} {c_j1_6 : Nat} {q0d : Option Addr} {q0y : Nat} {c_j1_7 : Nat} {q0e : Option Addr} {q0z : Nat} {c_j1_8 : Nat} {q0f : Option Addr} {q10 : Nat} {c_j1_9 : Nat} {q2 : Option Addr} {q0g : Nat} {c_j1_10 : Nat} {q3 : Option Addr} {q0h : Nat} {c_j1_12 : Nat} {q4 : Option Addr} {q0i : Nat} {c_j1_13 : Nat} {q5 : Option Addr} {q0j : Nat} {c_j1_14 : Nat} {q0k : Option Addr} {q0l : Nat} {c_nets2 : Nat} {e_0 : T_timing_End} {j1 : T_timing_Job} {nets2 : List T_timing_Arrival} {r : T_timing_Arrival} (hF : P_timing_End_in e_0 j1 nets2 = some r) (q11 : RdS RpS ρ q6 q0r c_j1_0 j1.Net.In) (q12 : RdS RpS ρ q7 q0s c_j1_1 j1.Net.Out) (q13 : RdS R_api_Flop ρ q8 q0t c_j1_2 j1.Net.Flops) (q14 : RdS R_api_Gate ρ q9 q0u c_j1_3 j1.Net.Gates) (q15 : RdS (RpI .i64) ρ q0a q0v c_j1_4 j1.Net.Outs) (q16 : RdS R_api_Cell ρ q0b q0w c_j1_5 j1.Lib) (q17 : RdS (RpSl R_tree_Window) ρ q0c q0x c_j1_6 j1.Delays.Gates) (q18 : RdS (RpSl R_tree_Window) ρ q0d q0y c_j1_7 j1.Delays.Data) (q19 : RdS R_tree_Window ρ q0e q0z c_j1_8 j1.Delays.Outs) (q1a : RdS R_tree_Window ρ q0f q10 c_j1_9 j1.Delays.Clock) (q0m : RdS R_tree_Window ρ q2 q0g c_j1_10 j1.Delays.Launch) (q0n : RdS R_clocks_Input ρ q3 q0h c_j1_12 j1.Limits.Inputs) (q0o : RdS R_clocks_Output ρ q4 q0i c_j1_13 j1.Limits.Outputs) (q0p : RdS R_clocks_Path ρ q5 q0j c_j1_14 j1.Limits.Paths) (q0q : RdS R_timing_Arrival ρ q0k q0l c_nets2 nets2) (hS : St w0 w (ro ρ :: l)) :
  Calls Tryd.prog 63 #[.agg #[.int .i64 e_0.Flop, .int .i64 e_0.Input, .bool e_0.Setup.Known, .int .i64 e_0.Setup.Value, .int .i64 e_0.Setup.From, .bool e_0.Hold.Known, .int .i64 e_0.Hold.Value, .int .i64 e_0.Hold.From], .agg #[.slice q6 q0r c_j1_0, .slice q7 q0s c_j1_1, .slice q8 q0t c_j1_2, .slice q9 q0u c_j1_3, .slice q0a q0v c_j1_4, .slice q0b q0w c_j1_5, .slice q0c q0x c_j1_6, .slice q0d q0y c_j1_7, .slice q0e q0z c_j1_8, .slice q0f q10 c_j1_9, .slice q2 q0g c_j1_10, .int .i64 j1.Limits.Period, .slice q3 q0h c_j1_12, .slice q4 q0i c_j1_13, .slice q5 q0j c_j1_14], .slice q0k q0l c_nets2] w fun e w' => e = .returned (.agg #[.bool r.Known, .int .i64 r.Early, .int .i64 r.Late]) ∧ St w0 w' (ro ρ :: l) := by
 have e_ := q11.n; subst e_
 have e_ := q12.n; subst e_
 have e_ := q13.n; subst e_
 have e_ := q14.n; subst e_
 have e_ := q15.n; subst e_
 have e_ := q16.n; subst e_
 have e_ := q17.n; subst e_
 have e_ := q18.n; subst e_
 have e_ := q19.n; subst e_
 have e_ := q1a.n; subst e_
 have e_ := q0m.n; subst e_
 have e_ := q0n.n; subst e_
 have e_ := q0o.n; subst e_
 have e_ := q0p.n; subst e_
 have e_ := q0q.n; subst e_
 refine enterC Tryd.func63 rfl 11 rfl (by simp) ?_
 refine x_seq <| x_region <| ?_
 refine o_box (cs := [.int .i64 e_0.Flop, .int .i64 e_0.Input, .bool e_0.Setup.Known, .int .i64 e_0.Setup.Value, .int .i64 e_0.Setup.From, .bool e_0.Hold.Known, .int .i64 e_0.Hold.Value, .int .i64 e_0.Hold.From]) rfl rfl hS (fun b3 w' hS => ?_)
 refine o_box (cs := [.slice q6 j1.Net.In.length c_j1_0, .slice q7 j1.Net.Out.length c_j1_1, .slice q8 j1.Net.Flops.length c_j1_2, .slice q9 j1.Net.Gates.length c_j1_3, .slice q0a j1.Net.Outs.length c_j1_4, .slice q0b j1.Lib.length c_j1_5, .slice q0c j1.Delays.Gates.length c_j1_6, .slice q0d j1.Delays.Data.length c_j1_7, .slice q0e j1.Delays.Outs.length c_j1_8, .slice q0f j1.Delays.Clock.length c_j1_9, .slice q2 j1.Delays.Launch.length c_j1_10, .int .i64 j1.Limits.Period, .slice q3 j1.Limits.Inputs.length c_j1_12, .slice q4 j1.Limits.Outputs.length c_j1_13, .slice q5 j1.Limits.Paths.length c_j1_14]) rfl rfl hS (fun b4 w' hS => ?_)
 refine o_alloc zero_145 hS (fun b6 w' hS => ?_)
 replace hF := bd_s hF; obtain ⟨q1b, q1c, hF⟩ := hF
 refine x_done <| x_seq <| x_region <| pa (v := .agg #[.slice q6 j1.Net.In.length c_j1_0, .slice q7 j1.Net.Out.length c_j1_1, .slice q8 j1.Net.Flops.length c_j1_2, .slice q9 j1.Net.Gates.length c_j1_3, .slice q0a j1.Net.Outs.length c_j1_4, .slice q0b j1.Lib.length c_j1_5, .slice q0c j1.Delays.Gates.length c_j1_6, .slice q0d j1.Delays.Data.length c_j1_7, .slice q0e j1.Delays.Outs.length c_j1_8, .slice q0f j1.Delays.Clock.length c_j1_9, .slice q2 j1.Delays.Launch.length c_j1_10, .int .i64 j1.Limits.Period, .slice q3 j1.Limits.Inputs.length c_j1_12, .slice q4 j1.Limits.Outputs.length c_j1_13, .slice q5 j1.Limits.Paths.length c_j1_14]) (ld_sub agg_58 rfl rfl rfl (hS.pull 1)) <|
  p (yl_move rfl) <| pa (v := .agg #[.int .i64 e_0.Flop, .int .i64 e_0.Input, .bool e_0.Setup.Known, .int .i64 e_0.Setup.Value, .int .i64 e_0.Setup.From, .bool e_0.Hold.Known, .int .i64 e_0.Hold.Value, .int .i64 e_0.Hold.From]) (ld_sub agg_67 rfl rfl rfl (hS.pull 2)) <| ?_
 have hcall := c_timing_at q1c q11 q12 q13 q14 q15 q16 q17 q18 q19 q1a q0m q0n q0o q0p q0q (hS.pull 3)
 refine o_cc call_122 (args3 rfl rfl rfl) ((Calls.mono hcall (fun e w'' h => And.intro h.1 (((h.2.pull 3).pull 3).pull 3)))) ?_
 rintro e w' ⟨rfl, hS⟩
 refine ⟨_, rfl, ?_⟩
 refine o_storeAgg (news := [.bool q1b.Known, .int .i64 q1b.Early, .int .i64 q1b.Late]) agg_145 rfl rfl rfl (by simp [over_length]) hS (fun w' hS => ?_)
 refine x_done <| ?_
 have e_ := Option.some.inj (show some _ = some _ from hF); subst e_
 exact x_return ⟨_, ⟨_, _, _, rfl, rfl, ldvA agg_145 rfl (fun j v hj => by rw [add0]; exact St.cell hS hj), rfl⟩, rfl, hS.drop.drop.drop⟩
attribute [irreducible] P_timing_End_in

def P_timing_name (n0 : T_api_Netlist) (start1 : Int) : Option ByteArray :=
 if start1 < (n0.In.length : Int) then
  ck (inb start1 n0.In.length) <|
  lv (gt n0.In start1) fun x14 =>
  some x14
 else
  ar (start1 - (n0.In.length : Int)) fun x21 =>
  ck (inb x21 n0.Flops.length) <|
  lv (gt n0.Flops x21) fun q2 =>
  some q2.Name
set_option maxHeartbeats 4000000 in
set_option maxRecDepth 100000 in
theorem c_timing_name {w0 w : World} {l : List Assn} {ρ : Heap} {q2 : Option Addr} {q9 : Nat} {c_n0_0 : Nat} {q3 : Option Addr} {q0a : Nat} {c_n0_1 : Nat} {q4 : Option Addr} {q0b : Nat} {c_n0_2 : Nat} {q5 : Option Addr} {q0c : Nat} {c_n0_3 : Nat} {q6 : Option Addr} {q0d : Nat} {c_n0_4 : Nat} {n0 : T_api_Netlist} {start1 : Int} {r : ByteArray} (hF : P_timing_name n0 start1 = some r) (q7 : RdS RpS ρ q2 q9 c_n0_0 n0.In) (q0h : RdS RpS ρ q3 q0a c_n0_1 n0.Out) (q8 : RdS R_api_Flop ρ q4 q0b c_n0_2 n0.Flops) (q0i : RdS R_api_Gate ρ q5 q0c c_n0_3 n0.Gates) (q0j : RdS (RpI .i64) ρ q6 q0d c_n0_4 n0.Outs) (hS : St w0 w (ro ρ :: l)) :
  Calls Tryd.prog 118 #[.agg #[.slice q2 q9 c_n0_0, .slice q3 q0a c_n0_1, .slice q4 q0b c_n0_2, .slice q5 q0c c_n0_3, .slice q6 q0d c_n0_4], .int .i64 start1] w fun e w' => e = .returned (.string r) ∧ St w0 w' (ro ρ :: l) := by
 have e_ := q7.n; subst e_
 have e_ := q0h.n; subst e_
 have e_ := q8.n; subst e_
 have e_ := q0i.n; subst e_
 have e_ := q0j.n; subst e_
 refine enterC Tryd.func118 rfl 25 rfl (by simp) ?_
 refine x_seq <| x_region <| ?_
 refine o_box (cs := [.slice q2 n0.In.length c_n0_0, .slice q3 n0.Out.length c_n0_1, .slice q4 n0.Flops.length c_n0_2, .slice q5 n0.Gates.length c_n0_3, .slice q6 n0.Outs.length c_n0_4]) rfl rfl hS (fun b2 w' hS => ?_)
 refine p (yl_assign rfl) <| x_done <| x_seq <| x_seq <|
  x_region <| p (yl_move rfl) <| p (yl_field0 fld_30_0 rfl) <| pa (at_load one_26 rfl (hS.cell rfl)) <|
  p (yl_len_slice usl_26 rfl) <| p (yl_lss rfl rfl) <| x_done <|
  x_cond_p (start1 < (n0.In.length : Int)) rfl (fun hc9 => ?_) (fun hc9 => ?_)
 ·replace hF := it_t hc9 hF
  replace hF := ck_s hF; obtain ⟨q0e, hF⟩ := hF
  replace hF := lv_s hF; obtain ⟨x14, hx14, hF⟩ := hF
  refine x_seq <| x_region <| p (yl_field0 fld_30_0 rfl) <| pa (at_load one_26 rfl (hS.cell rfl)) <|
   p (yl_move rfl) <| p (yix_f sl_26 rfl rfl q7 q0e) <| pa (at_load one_9 rfl (RdS.getW q7 (hS.pull 1) q0e hx14)) <| p (yl_assign rfl) <|
   x_done <| ?_
  have e_ := Option.some.inj (show some _ = some _ from hF); subst e_
  exact x_return ⟨_, ⟨_, _, rfl, rfl, rfl⟩, rfl, hS.drop⟩
 ·replace hF := it_f hc9 hF
  replace hF := ar_s hF; obtain ⟨x21, hx21, hF⟩ := hF
  replace hF := ck_s hF; obtain ⟨q0f, hF⟩ := hF
  replace hF := lv_s hF; obtain ⟨q0n, q0k, hF⟩ := hF
  have q_ := q8.get q0f; obtain ⟨q0m, q0g, q0l⟩ := q_
  rw [← q0k] at q0g
  have e_ := q0g; subst e_
  refine x_skip <| x_seq <| x_region <| p (yl_field0 fld_30_2 rfl) <|
   pa (at_load one_27 rfl (hS.cell rfl)) <| p (yl_move rfl) <| p (yl_field0 fld_30_0 rfl) <| pa (at_load one_26 rfl (hS.cell rfl)) <|
   p (yl_len_slice usl_26 rfl) <| p (ysub rfl rfl hx21) <| p (yix_f sl_27 rfl rfl q8 q0f) <| p (yl_fieldAddr fld_135_0 rfl) <|
   pa (at_load one_9 rfl (Elt.ld (j := 0) q0l (hS.pull 1) rfl)) <| p (yl_assign rfl) <| x_done <| ?_
  have e_ := Option.some.inj (show some _ = some _ from hF); subst e_
  exact x_return ⟨_, ⟨_, _, rfl, rfl, rfl⟩, rfl, hS.drop⟩
attribute [irreducible] P_timing_name

def P_timing_label (n0 : T_api_Netlist) (e_1 : T_timing_End) : Option ByteArray :=
 if e_1.Flop < 0 then
  ck (inb e_1.Input n0.Out.length) <|
  lv (gt n0.Out e_1.Input) fun x13 =>
  some x13
 else
  ck (inb e_1.Flop n0.Flops.length) <|
  lv (gt n0.Flops e_1.Flop) fun q2 =>
  some q2.Name
set_option maxHeartbeats 4000000 in
set_option maxRecDepth 100000 in
theorem c_timing_label {w0 w : World} {l : List Assn} {ρ : Heap} {q2 : Option Addr} {q9 : Nat} {c_n0_0 : Nat} {q3 : Option Addr} {q0a : Nat} {c_n0_1 : Nat} {q4 : Option Addr} {q0b : Nat} {c_n0_2 : Nat} {q5 : Option Addr} {q0c : Nat} {c_n0_3 : Nat} {q6 : Option Addr} {q0d : Nat} {c_n0_4 : Nat} {n0 : T_api_Netlist} {e_1 : T_timing_End} {r : ByteArray} (hF : P_timing_label n0 e_1 = some r) (q0h : RdS RpS ρ q2 q9 c_n0_0 n0.In) (q7 : RdS RpS ρ q3 q0a c_n0_1 n0.Out) (q8 : RdS R_api_Flop ρ q4 q0b c_n0_2 n0.Flops) (q0i : RdS R_api_Gate ρ q5 q0c c_n0_3 n0.Gates) (q0j : RdS (RpI .i64) ρ q6 q0d c_n0_4 n0.Outs) (hS : St w0 w (ro ρ :: l)) :
  Calls Tryd.prog 119 #[.agg #[.slice q2 q9 c_n0_0, .slice q3 q0a c_n0_1, .slice q4 q0b c_n0_2, .slice q5 q0c c_n0_3, .slice q6 q0d c_n0_4], .agg #[.int .i64 e_1.Flop, .int .i64 e_1.Input, .bool e_1.Setup.Known, .int .i64 e_1.Setup.Value, .int .i64 e_1.Setup.From, .bool e_1.Hold.Known, .int .i64 e_1.Hold.Value, .int .i64 e_1.Hold.From]] w fun e w' => e = .returned (.string r) ∧ St w0 w' (ro ρ :: l) := by
 have e_ := q0h.n; subst e_
 have e_ := q7.n; subst e_
 have e_ := q8.n; subst e_
 have e_ := q0i.n; subst e_
 have e_ := q0j.n; subst e_
 refine enterC Tryd.func119 rfl 21 rfl (by simp) ?_
 refine x_seq <| x_region <| ?_
 refine o_box (cs := [.slice q2 n0.In.length c_n0_0, .slice q3 n0.Out.length c_n0_1, .slice q4 n0.Flops.length c_n0_2, .slice q5 n0.Gates.length c_n0_3, .slice q6 n0.Outs.length c_n0_4]) rfl rfl hS (fun b2 w' hS => ?_)
 refine o_box (cs := [.int .i64 e_1.Flop, .int .i64 e_1.Input, .bool e_1.Setup.Known, .int .i64 e_1.Setup.Value, .int .i64 e_1.Setup.From, .bool e_1.Hold.Known, .int .i64 e_1.Hold.Value, .int .i64 e_1.Hold.From]) rfl rfl hS (fun b3 w' hS => ?_)
 refine p (yl_assign rfl) <| x_done <| x_seq <| x_seq <|
  x_region <| p (yl_field0 fld_67_0 rfl) <| pa (at_load one_3 rfl (hS.cell rfl)) <| p (yl_lss rfl rfl) <|
  x_done <|
  x_cond_p (e_1.Flop < 0) rfl (fun hc7 => ?_) (fun hc7 => ?_)
 ·replace hF := it_t hc7 hF
  replace hF := ck_s hF; obtain ⟨q0e, hF⟩ := hF
  replace hF := lv_s hF; obtain ⟨x13, hx13, hF⟩ := hF
  refine x_seq <| x_region <| p (yl_field0 fld_30_1 rfl) <| pa (at_load one_26 rfl ((hS.pull 1).cell rfl)) <|
   p (yl_field0 fld_67_1 rfl) <| pa (at_load one_3 rfl (hS.cell rfl)) <| p (yix_f sl_26 rfl rfl q7 q0e) <| pa (at_load one_9 rfl (RdS.getW q7 (hS.pull 2) q0e hx13)) <|
   p (yl_assign rfl) <| x_done <| ?_
  have e_ := Option.some.inj (show some _ = some _ from hF); subst e_
  exact x_return ⟨_, ⟨_, _, rfl, rfl, rfl⟩, rfl, hS.drop.drop⟩
 ·replace hF := it_f hc7 hF
  replace hF := ck_s hF; obtain ⟨q0f, hF⟩ := hF
  replace hF := lv_s hF; obtain ⟨q0n, q0k, hF⟩ := hF
  have q_ := q8.get q0f; obtain ⟨q0m, q0g, q0l⟩ := q_
  rw [← q0k] at q0g
  have e_ := q0g; subst e_
  refine x_skip <| x_seq <| x_region <| p (yl_field0 fld_30_2 rfl) <|
   pa (at_load one_27 rfl ((hS.pull 1).cell rfl)) <| p (yl_field0 fld_67_0 rfl) <| pa (at_load one_3 rfl (hS.cell rfl)) <| p (yix_f sl_27 rfl rfl q8 q0f) <|
   p (yl_fieldAddr fld_135_0 rfl) <| pa (at_load one_9 rfl (Elt.ld (j := 0) q0l (hS.pull 2) rfl)) <| p (yl_assign rfl) <| x_done <| ?_
  have e_ := Option.some.inj (show some _ = some _ from hF); subst e_
  exact x_return ⟨_, ⟨_, _, rfl, rfl, rfl⟩, rfl, hS.drop.drop⟩
attribute [irreducible] P_timing_label

def P_clocks_Cycles_L2 (l_0 : T_clocks_Limits) (q4 : ByteArray) (to2 : ByteArray) : Int → Option (Int ⊕ (Unit ⊕ Int)) := fun q2 =>
 if q2 < (l_0.Paths.length : Int) then
  ck (inb q2 l_0.Paths.length) <|
  lv (gt l_0.Paths q2) fun q3 =>
  lv ((decide (q3.From = (⟨#[]⟩ : ByteArray))) || (decide (q3.From = q4))) fun x24 =>
  lv ((decide (q3.To = (⟨#[]⟩ : ByteArray))) || (decide (q3.To = to2))) fun x34 =>
  lv (x24 && x34) fun x35 =>
  if x35 = true then
   some (Sum.inr (Sum.inr q3.Cycles))
  else
   ar (q2 + 1) fun x38 =>
   some (Sum.inl x38)
 else
  some (Sum.inr (Sum.inl ()))
def P_clocks_Cycles (l_0 : T_clocks_Limits) (q2 : ByteArray) (to2 : ByteArray) : Option Int :=
 bs (
  lp (P_clocks_Cycles_L2 l_0 q2 to2) fuel 0) (fun y => some y) fun _ =>
 some (1 : Int)
set_option maxHeartbeats 4000000 in
set_option maxRecDepth 100000 in
theorem c_clocks_Cycles {w0 w : World} {l : List Assn} {ρ : Heap} {q6 : Option Addr} {q0a : Nat} {c_l_0_1 : Nat} {q7 : Option Addr} {q0b : Nat} {c_l_0_2 : Nat} {q4 : Option Addr} {q0c : Nat} {c_l_0_3 : Nat} {l_0 : T_clocks_Limits} {q3 : ByteArray} {to2 : ByteArray} {r : Int} (hF : P_clocks_Cycles l_0 q3 to2 = some r) (q0j : RdS R_clocks_Input ρ q6 q0a c_l_0_1 l_0.Inputs) (q0k : RdS R_clocks_Output ρ q7 q0b c_l_0_2 l_0.Outputs) (q8 : RdS R_clocks_Path ρ q4 q0c c_l_0_3 l_0.Paths) (hS : St w0 w (ro ρ :: l)) :
  Calls Tryd.prog 76 #[.agg #[.int .i64 l_0.Period, .slice q6 q0a c_l_0_1, .slice q7 q0b c_l_0_2, .slice q4 q0c c_l_0_3], .string q3, .string to2] w fun e w' => e = .returned (.int .i64 r) ∧ St w0 w' (ro ρ :: l) := by
 have e_ := q0j.n; subst e_
 have e_ := q0k.n; subst e_
 have e_ := q8.n; subst e_
 refine enterC Tryd.func76 rfl 39 rfl (by simp) ?_
 refine x_seq <| x_region <| ?_
 refine o_box (cs := [.int .i64 l_0.Period, .slice q6 l_0.Inputs.length c_l_0_1, .slice q7 l_0.Outputs.length c_l_0_2, .slice q4 l_0.Paths.length c_l_0_3]) rfl rfl hS (fun b3 w' hS => ?_)
 refine p (yl_assign rfl) <| x_done <| x_seq <| x_seq <|
  x_region <| p (yl_field0 fld_56_3 rfl) <| pa (at_load one_54 rfl (hS.cell rfl)) <| p (yl_len_slice usl_54 rfl) <|
  p (yl_move rfl) <| x_done <| ?_
 replace hF := bs_s hF; obtain ⟨oL2, hLL2, hF⟩ := hF
 refine x_join (fun E w => (Sum.inl (())) = oL2 ∧ St w0 w (ro ρ :: l)) ?_ ?_
 ·refine x_block ?_
  refine x_loop (fun k_ E w => ∃ (q5 : Int), lp (P_clocks_Cycles_L2 l_0 q3 to2) k_ q5 = some oL2 ∧ E 1 = .string q3 ∧ E 2 = .string to2 ∧ E 10 = .slice q4 l_0.Paths.length c_l_0_3 ∧ E 11 = .int .i64 (l_0.Paths.length : Int) ∧ E 12 = .int .i64 q5 ∧ St w0 w (ro ρ :: l)) fuel ⟨0, hLL2, rfl, rfl, rfl, rfl, rfl, hS.drop⟩ ?_
  rintro kL2 E w ⟨q5, hLL2, q0f, q0g, q0d, q0e, q9, hS⟩
  replace hLL2 := lp_s hLL2; obtain ⟨kL2, obL2, rfl, hFL2, hLL2⟩ := hLL2
  refine x_seq <| x_region <| p (yl_lss q9 q0e) <| x_done <|
   x_seq <|
   x_cond_p (q5 < (l_0.Paths.length : Int)) rfl (fun hc13 => ?_) (fun hc13 => ?_)
  ·replace hFL2 := it_t hc13 hFL2
   replace hFL2 := ck_s hFL2; obtain ⟨q0h, hFL2⟩ := hFL2
   replace hFL2 := lv_s hFL2; obtain ⟨q2, q0l, hFL2⟩ := hFL2
   have q_ := q8.get q0h; obtain ⟨q0n, q0i, q0m⟩ := q_
   rw [← q0l] at q0i
   have e_ := q0i; subst e_
   refine x_skip <| x_seq <| x_block <| x_seq <|
    x_region <| p (yix_f sl_54 q0d q9 q8 q0h) <| pa (v := .agg #[.string q2.From, .string q2.To, .int .i64 q2.Cycles]) (at_loadAgg agg_160 rfl rfl (Elt.every q0m hS)) <| ?_
   refine o_alloc zero_160 hS (fun b8 w' hS => ?_)
   refine o_storeAgg (news := [.string q2.From, .string q2.To, .int .i64 q2.Cycles]) agg_160 rfl rfl rfl (by simp [over_length]) hS (fun w' hS => ?_)
   replace hFL2 := lv_s hFL2; obtain ⟨x24, hx24, hFL2⟩ := hFL2
   replace hFL2 := lv_s hFL2; obtain ⟨x34, hx34, hFL2⟩ := hFL2
   replace hFL2 := lv_s hFL2; obtain ⟨x35, hx35, hFL2⟩ := hFL2
   refine x_done <| x_seq <| x_region <| p (yl_field0 fld_160_0 rfl) <|
    pa (at_load one_9 rfl (hS.cell rfl)) <| p (yl_eql_string rfl rfl) <| p (yl_move rfl) <| pg (v := .pointer (some ⟨b8, 0, none⟩)) 19 (c := !(decide (q2.From = (⟨#[]⟩ : ByteArray)))) (says_f _) (fun hq => Yl.at (yl_field0 fld_160_0 rfl)) <|
    pg (v := .string q2.From) 19 (c := !(decide (q2.From = (⟨#[]⟩ : ByteArray)))) (says_f _) (fun hq => at_load one_9 (cv hq) (hS.cell rfl)) <| pg (v := .string q3) 19 (c := !(decide (q2.From = (⟨#[]⟩ : ByteArray)))) (says_f _) (fun hq => Yl.at (yl_move q0f)) <| pg (v := .bool (decide (q2.From = q3))) 19 (c := !(decide (q2.From = (⟨#[]⟩ : ByteArray)))) (says_f _) (fun hq => Yl.at (yl_eql_string (cv hq) (cv hq))) <| p (yor' rfl rfl (fun hc => (cv (t_not hc))) hx24) <|
    p (yl_move rfl) <| pg (v := .pointer (some ⟨b8, 1, none⟩)) 25 (c := x24) (says_t _) (fun hq => Yl.at (yl_field0 fld_160_1 rfl)) <| pg (v := .string q2.To) 25 (c := x24) (says_t _) (fun hq => at_load one_9 (cv hq) (hS.cell rfl)) <| pg (v := .bool (decide (q2.To = (⟨#[]⟩ : ByteArray)))) 25 (c := x24) (says_t _) (fun hq => Yl.at (yl_eql_string (cv hq) rfl)) <|
    pg (v := .bool (decide (q2.To = (⟨#[]⟩ : ByteArray)))) 25 (c := x24) (says_t _) (fun hq => Yl.at (yl_move (cv hq))) <| pg (v := .pointer (some ⟨b8, 1, none⟩)) 29 (c := x24 && !(decide (q2.To = (⟨#[]⟩ : ByteArray)))) (says_iff _ _) (fun hq => Yl.at (yl_field0 fld_160_1 rfl)) <| pg (v := .string q2.To) 29 (c := x24 && !(decide (q2.To = (⟨#[]⟩ : ByteArray)))) (says_iff _ _) (fun hq => at_load one_9 (cv hq) (hS.cell rfl)) <| pg (v := .string to2) 29 (c := x24 && !(decide (q2.To = (⟨#[]⟩ : ByteArray)))) (says_iff _ _) (fun hq => Yl.at (yl_move q0g)) <|
    pg (v := .bool (decide (q2.To = to2))) 29 (c := x24 && !(decide (q2.To = (⟨#[]⟩ : ByteArray)))) (says_iff _ _) (fun hq => Yl.at (yl_eql_string (cv hq) (cv hq))) <| pg (v := .bool x34) 25 (c := x24) (says_t _) (fun hq => Yl.at (yor' (cv hq) rfl (fun hc => (cv (and_i hq (t_not hc)))) hx34)) <| p (yand' rfl (fun hc => (cv hc)) rfl hx35) <| x_done <|
    x_cond (t := x35) rfl (fun hc35 => ?_) (fun hc35 => ?_)
   ·replace hFL2 := it_t hc35 hFL2
    refine x_seq <| x_region <| p (yl_field0 fld_160_2 rfl) <| pa (at_load one_3 rfl (hS.cell rfl)) <|
     p (yl_assign rfl) <| x_done <| ?_
    have e_ := Option.some.inj (show some _ = some _ from hFL2); subst e_
    have e_ := (show _ = oL2 from hLL2); subst e_
    have e_ := Option.some.inj (show some _ = some _ from hF); subst e_
    exact x_return ⟨_, ⟨_, _, rfl, rfl, rfl⟩, rfl, hS.drop⟩
   ·replace hFL2 := it_bf hc35 hFL2
    replace hFL2 := ar_s hFL2; obtain ⟨x38, hx38, hFL2⟩ := hFL2
    refine x_skip <| x_blk <| x_region <| p (yadd q9 rfl hx38) <|
     p (yl_move rfl) <| x_done <| ?_
    have e_ := Option.some.inj (show some _ = some _ from hFL2); subst e_
    exact x_inv ⟨kL2, Nat.lt_succ_self _, x38, hLL2, q0f, q0g, q0d, q0e, rfl, hS.drop⟩
  ·replace hFL2 := it_f hc13 hFL2
   refine x_exitTo _ rfl <| ?_
   have e_ := Option.some.inj (show some _ = some _ from hFL2); subst e_
   exact x_inv ⟨hLL2, hS⟩
 rintro E w ⟨rfl, hS⟩
 refine x_seq <| x_region <| p (yl_assign rfl) <| x_done <| ?_
 have e_ := Option.some.inj (show some _ = some _ from hF); subst e_
 exact x_return ⟨_, ⟨_, _, rfl, rfl, rfl⟩, rfl, hS⟩
attribute [irreducible] P_clocks_Cycles

def P_clocks_Before_L2 (l_0 : T_clocks_Limits) (output1 : ByteArray) : Int → Option (Int ⊕ (Unit ⊕ Int)) := fun q2 =>
 if q2 < (l_0.Outputs.length : Int) then
  ck (inb q2 l_0.Outputs.length) <|
  lv (gt l_0.Outputs q2) fun q3 =>
  if q3.Name = output1 then
   some (Sum.inr (Sum.inr q3.Before))
  else
   ar (q2 + 1) fun x20 =>
   some (Sum.inl x20)
 else
  some (Sum.inr (Sum.inl ()))
def P_clocks_Before (l_0 : T_clocks_Limits) (output1 : ByteArray) : Option Int :=
 bs (
  lp (P_clocks_Before_L2 l_0 output1) fuel 0) (fun y => some y) fun _ =>
 some (1 : Int)
set_option maxHeartbeats 4000000 in
set_option maxRecDepth 100000 in
theorem c_clocks_Before {w0 w : World} {l : List Assn} {ρ : Heap} {q4 : Option Addr} {q9 : Nat} {c_l_0_1 : Nat} {q2 : Option Addr} {q0a : Nat} {c_l_0_2 : Nat} {q5 : Option Addr} {q0b : Nat} {c_l_0_3 : Nat} {l_0 : T_clocks_Limits} {output1 : ByteArray} {r : Int} (hF : P_clocks_Before l_0 output1 = some r) (q0h : RdS R_clocks_Input ρ q4 q9 c_l_0_1 l_0.Inputs) (q6 : RdS R_clocks_Output ρ q2 q0a c_l_0_2 l_0.Outputs) (q0i : RdS R_clocks_Path ρ q5 q0b c_l_0_3 l_0.Paths) (hS : St w0 w (ro ρ :: l)) :
  Calls Tryd.prog 121 #[.agg #[.int .i64 l_0.Period, .slice q4 q9 c_l_0_1, .slice q2 q0a c_l_0_2, .slice q5 q0b c_l_0_3], .string output1] w fun e w' => e = .returned (.int .i64 r) ∧ St w0 w' (ro ρ :: l) := by
 have e_ := q0h.n; subst e_
 have e_ := q6.n; subst e_
 have e_ := q0i.n; subst e_
 refine enterC Tryd.func121 rfl 21 rfl (by simp) ?_
 refine x_seq <| x_region <| ?_
 refine o_box (cs := [.int .i64 l_0.Period, .slice q4 l_0.Inputs.length c_l_0_1, .slice q2 l_0.Outputs.length c_l_0_2, .slice q5 l_0.Paths.length c_l_0_3]) rfl rfl hS (fun b2 w' hS => ?_)
 refine p (yl_assign rfl) <| x_done <| x_seq <| x_seq <|
  x_region <| p (yl_field0 fld_56_2 rfl) <| pa (at_load one_53 rfl (hS.cell rfl)) <| p (yl_len_slice usl_53 rfl) <|
  p (yl_move rfl) <| x_done <| ?_
 replace hF := bs_s hF; obtain ⟨oL2, hLL2, hF⟩ := hF
 refine x_join (fun E w => (Sum.inl (())) = oL2 ∧ St w0 w (ro ρ :: l)) ?_ ?_
 ·refine x_block ?_
  refine x_loop (fun k_ E w => ∃ (q3 : Int), lp (P_clocks_Before_L2 l_0 output1) k_ q3 = some oL2 ∧ E 1 = .string output1 ∧ E 8 = .slice q2 l_0.Outputs.length c_l_0_2 ∧ E 9 = .int .i64 (l_0.Outputs.length : Int) ∧ E 10 = .int .i64 q3 ∧ St w0 w (ro ρ :: l)) fuel ⟨0, hLL2, rfl, rfl, rfl, rfl, hS.drop⟩ ?_
  rintro kL2 E w ⟨q3, hLL2, q0c, q0d, q0e, q7, hS⟩
  replace hLL2 := lp_s hLL2; obtain ⟨kL2, obL2, rfl, hFL2, hLL2⟩ := hLL2
  refine x_seq <| x_region <| p (yl_lss q7 q0e) <| x_done <|
   x_seq <|
   x_cond_p (q3 < (l_0.Outputs.length : Int)) rfl (fun hc11 => ?_) (fun hc11 => ?_)
  ·replace hFL2 := it_t hc11 hFL2
   replace hFL2 := ck_s hFL2; obtain ⟨q0f, hFL2⟩ := hFL2
   replace hFL2 := lv_s hFL2; obtain ⟨q8, q0j, hFL2⟩ := hFL2
   have q_ := q6.get q0f; obtain ⟨q0l, q0g, q0k⟩ := q_
   rw [← q0j] at q0g
   have e_ := q0g; subst e_
   refine x_skip <| x_seq <| x_block <| x_seq <|
    x_region <| p (yix_f sl_53 q0d q7 q6 q0f) <| pa (v := .agg #[.string q8.Name, .int .i64 q8.Before]) (at_loadAgg agg_158 rfl rfl (Elt.every q0k hS)) <| ?_
   refine o_alloc zero_158 hS (fun b6 w' hS => ?_)
   refine o_storeAgg (news := [.string q8.Name, .int .i64 q8.Before]) agg_158 rfl rfl rfl (by simp [over_length]) hS (fun w' hS => ?_)
   refine x_done <| x_seq <| x_region <| p (yl_field0 fld_158_0 rfl) <|
    pa (at_load one_9 rfl (hS.cell rfl)) <| p (yl_move q0c) <| p (yl_eql_string rfl rfl) <| x_done <|
    x_cond_p (q8.Name = output1) rfl (fun hc17 => ?_) (fun hc17 => ?_)
   ·replace hFL2 := it_t hc17 hFL2
    refine x_seq <| x_region <| p (yl_field0 fld_158_1 rfl) <| pa (at_load one_3 rfl (hS.cell rfl)) <|
     p (yl_assign rfl) <| x_done <| ?_
    have e_ := Option.some.inj (show some _ = some _ from hFL2); subst e_
    have e_ := (show _ = oL2 from hLL2); subst e_
    have e_ := Option.some.inj (show some _ = some _ from hF); subst e_
    exact x_return ⟨_, ⟨_, _, rfl, rfl, rfl⟩, rfl, hS.drop⟩
   ·replace hFL2 := it_f hc17 hFL2
    replace hFL2 := ar_s hFL2; obtain ⟨x20, hx20, hFL2⟩ := hFL2
    refine x_skip <| x_blk <| x_region <| p (yadd q7 rfl hx20) <|
     p (yl_move rfl) <| x_done <| ?_
    have e_ := Option.some.inj (show some _ = some _ from hFL2); subst e_
    exact x_inv ⟨kL2, Nat.lt_succ_self _, x20, hLL2, q0c, q0d, q0e, rfl, hS.drop⟩
  ·replace hFL2 := it_f hc11 hFL2
   refine x_exitTo _ rfl <| ?_
   have e_ := Option.some.inj (show some _ = some _ from hFL2); subst e_
   exact x_inv ⟨hLL2, hS⟩
 rintro E w ⟨rfl, hS⟩
 refine x_seq <| x_region <| p (yl_assign rfl) <| x_done <| ?_
 have e_ := Option.some.inj (show some _ = some _ from hF); subst e_
 exact x_return ⟨_, ⟨_, _, rfl, rfl, rfl⟩, rfl, hS⟩
attribute [irreducible] P_clocks_Before

def P_timing_Slack_less (q2 : List T_timing_End) (q4 : Int) (value1 : Int) (q5 : Int) : Option (List T_timing_End) :=
 lv (gt q2 q4) fun q6 =>
 lv ((!q6.Setup.Known) || (decide (value1 < ((gt q2 q4).Setup.Value)))) fun x18 =>
 bd (
  if x18 = true then
   lv (stt q2 q4 { (gt q2 q4) with Setup := (T_timing_Slack.mk true value1 q5) }) fun q7 =>
   some q7
  else
   some q2) fun q3 =>
 some q3
set_option maxHeartbeats 4000000 in
set_option maxRecDepth 100000 in
theorem c_timing_Slack_less {w0 w : World} {l : List Assn} {ρ : Heap} {q3 : Option Addr} {q0a : Nat} {c_s0_s : Nat} {q0b : List Value} {q6 : List T_timing_End} {q7 : Int} {value1 : Int} {q8 : Int} {r : List T_timing_End} (hF : P_timing_Slack_less q6 q7 value1 q8 = some r) (q9 : RepL R_timing_End ρ q6 q0b) (q0e : inb q7 q6.length) (hS : St w0 w (vec 67 R_timing_End.sz (.slice q3 q0a c_s0_s) q0a q0b :: ro ρ :: l)) :
  Calls Tryd.prog 120 #[.pointer (some (((adr q3).add (q7.toNat * R_timing_End.sz)).add 2)), .int .i64 value1, .int .i64 q8] w fun e w' => ∃ (q5 : List Value), e = .returned (.tuple #[]) ∧ RepL R_timing_End ρ r q5 ∧ St w0 w' (vec 67 R_timing_End.sz (.slice q3 q0a c_s0_s) q0a q5 :: ro ρ :: l) := by
 have e_ := St.vec_n hS q9; subst e_
 refine enterC Tryd.func120 rfl 24 rfl (by simp) ?_
 replace hF := lv_s hF; obtain ⟨q0c, q0g, hF⟩ := hF
 have q_ := q9.get q0e; obtain ⟨q0m, q0f, q0h⟩ := q_
 rw [← q0g] at q0f
 have e_ := q0f; subst e_
 replace hF := lv_s hF; obtain ⟨x18, hx18, hF⟩ := hF
 refine x_seq <| x_region <| p (yl_move rfl) <| p (yl_nilCheck rfl) <|
  p (yl_fieldE fld_65_0 rfl) <| pa (at_load one_4 rfl (EltV.ld (m := 2) q0h hS rfl)) <| p (yl_not rfl) <| p (yl_move rfl) <|
  pg (v := .int .i64 value1) 11 (c := !(!q0c.Setup.Known)) (says_f _) (fun hq => Yl.at (yl_move rfl)) <| pg (v := .pointer (some (((adr q3).add (q7.toNat * R_timing_End.sz)).add 2))) 11 (c := !(!q0c.Setup.Known)) (says_f _) (fun hq => Yl.at (yl_move rfl)) <| pg (v := .pointer (some (((adr q3).add (q7.toNat * R_timing_End.sz)).add 2))) 11 (c := !(!q0c.Setup.Known)) (says_f _) (fun hq => Yl.at (yl_nilCheck (cv hq))) <| pg (v := .pointer (some (((adr q3).add (q7.toNat * R_timing_End.sz)).add 3))) 11 (c := !(!q0c.Setup.Known)) (says_f _) (fun hq => Yl.at (yl_fieldE fld_65_1 (cv hq))) <|
  pg (v := .int .i64 ((gt q6 q7).Setup.Value)) 11 (c := !(!q0c.Setup.Known)) (says_f _) (fun hq => (by obtain ⟨el, ek, ee⟩ := q9.get q0e; obtain rfl := ek; exact at_load one_3 (cv hq) (EltV.ld (m := 3) ee hS rfl))) <| pg (v := .bool (decide (value1 < ((gt q6 q7).Setup.Value)))) 11 (c := !(!q0c.Setup.Known)) (says_f _) (fun hq => Yl.at (yl_lss (cv hq) (cv hq))) <| p (yor' rfl rfl (fun hc => (cv (t_not hc))) hx18) <| x_done <| ?_
 replace hF := bd_s hF; obtain ⟨oc18, hFc18, hF⟩ := hF
 refine x_join (fun E w => ∃ (q2 : List Value) (q4 : List T_timing_End), q4 = oc18 ∧ RepL R_timing_End ρ q4 q2 ∧ St w0 w (vec 67 R_timing_End.sz (.slice q3 q6.length c_s0_s) q6.length q2 :: ro ρ :: l)) ?_ ?_
 ·refine x_cond (t := x18) rfl (fun hc18 => ?_) (fun hc18 => ?_)
  ·replace hFc18 := it_t hc18 hFc18
   refine x_region <| p (yl_move rfl) <| p (yl_move rfl) <| p (yl_move rfl) <|
    p (v := .agg #[.bool true, .int .i64 value1, .int .i64 q8]) (yl_build bld_65 bldf_65 (parts_eq (pt (va := .bool true) rfl (pt (va := .int .i64 value1) rfl (pt (va := .int .i64 q8) rfl pt0)))) (by kernel_rfl)) <| p (yl_nilCheck rfl) <| ?_
   replace hFc18 := lv_s hFc18; obtain ⟨q0l, q0i, hFc18⟩ := hFc18
   refine o_put' (news := [.bool true, .int .i64 value1, .int .i64 q8]) sz_65 rfl rfl rfl rfl (o := 2) rfl q0e rfl hS q9 (Le.refl _) (fun c hc => by obtain rfl := hc; rfl) q0i (fun q0j w' q0k hS => ?_)
   refine x_done <| ?_
   exact x_inv ⟨q0j, q0l, (Option.some.inj (show some _ = some _ from hFc18)), q0k, ((hS.pull 1).pull 1)⟩
  ·replace hFc18 := it_bf hc18 hFc18
   refine x_skip <| ?_
   exact x_inv ⟨q0b, q6, (Option.some.inj (show some _ = some _ from hFc18)), q9, ((hS.pull 1).pull 1)⟩
 rintro E w ⟨q2, q4, rfl, q0d, hS⟩
 have e_ := Option.some.inj (show some _ = some _ from hF); subst e_
 exact x_fin ⟨_, rfl, q2, rfl, q0d, ((hS.pull 1).pull 1)⟩
attribute [irreducible] P_timing_Slack_less

def P_timing_Slack_less_2 (q2 : List T_timing_End) (q4 : Int) (value1 : Int) (q5 : Int) : Option (List T_timing_End) :=
 lv (gt q2 q4) fun q6 =>
 lv ((!q6.Hold.Known) || (decide (value1 < ((gt q2 q4).Hold.Value)))) fun x18 =>
 bd (
  if x18 = true then
   lv (stt q2 q4 { (gt q2 q4) with Hold := (T_timing_Slack.mk true value1 q5) }) fun q7 =>
   some q7
  else
   some q2) fun q3 =>
 some q3
set_option maxHeartbeats 4000000 in
set_option maxRecDepth 100000 in
theorem c_timing_Slack_less_2 {w0 w : World} {l : List Assn} {ρ : Heap} {q3 : Option Addr} {q0a : Nat} {c_s0_s : Nat} {q0b : List Value} {q6 : List T_timing_End} {q7 : Int} {value1 : Int} {q8 : Int} {r : List T_timing_End} (hF : P_timing_Slack_less_2 q6 q7 value1 q8 = some r) (q9 : RepL R_timing_End ρ q6 q0b) (q0e : inb q7 q6.length) (hS : St w0 w (vec 67 R_timing_End.sz (.slice q3 q0a c_s0_s) q0a q0b :: ro ρ :: l)) :
  Calls Tryd.prog 120 #[.pointer (some (((adr q3).add (q7.toNat * R_timing_End.sz)).add 5)), .int .i64 value1, .int .i64 q8] w fun e w' => ∃ (q5 : List Value), e = .returned (.tuple #[]) ∧ RepL R_timing_End ρ r q5 ∧ St w0 w' (vec 67 R_timing_End.sz (.slice q3 q0a c_s0_s) q0a q5 :: ro ρ :: l) := by
 have e_ := St.vec_n hS q9; subst e_
 refine enterC Tryd.func120 rfl 24 rfl (by simp) ?_
 replace hF := lv_s hF; obtain ⟨q0c, q0g, hF⟩ := hF
 have q_ := q9.get q0e; obtain ⟨q0m, q0f, q0h⟩ := q_
 rw [← q0g] at q0f
 have e_ := q0f; subst e_
 replace hF := lv_s hF; obtain ⟨x18, hx18, hF⟩ := hF
 refine x_seq <| x_region <| p (yl_move rfl) <| p (yl_nilCheck rfl) <|
  p (yl_fieldE fld_65_0 rfl) <| pa (at_load one_4 rfl (EltV.ld (m := 5) q0h hS rfl)) <| p (yl_not rfl) <| p (yl_move rfl) <|
  pg (v := .int .i64 value1) 11 (c := !(!q0c.Hold.Known)) (says_f _) (fun hq => Yl.at (yl_move rfl)) <| pg (v := .pointer (some (((adr q3).add (q7.toNat * R_timing_End.sz)).add 5))) 11 (c := !(!q0c.Hold.Known)) (says_f _) (fun hq => Yl.at (yl_move rfl)) <| pg (v := .pointer (some (((adr q3).add (q7.toNat * R_timing_End.sz)).add 5))) 11 (c := !(!q0c.Hold.Known)) (says_f _) (fun hq => Yl.at (yl_nilCheck (cv hq))) <| pg (v := .pointer (some (((adr q3).add (q7.toNat * R_timing_End.sz)).add 6))) 11 (c := !(!q0c.Hold.Known)) (says_f _) (fun hq => Yl.at (yl_fieldE fld_65_1 (cv hq))) <|
  pg (v := .int .i64 ((gt q6 q7).Hold.Value)) 11 (c := !(!q0c.Hold.Known)) (says_f _) (fun hq => (by obtain ⟨el, ek, ee⟩ := q9.get q0e; obtain rfl := ek; exact at_load one_3 (cv hq) (EltV.ld (m := 6) ee hS rfl))) <| pg (v := .bool (decide (value1 < ((gt q6 q7).Hold.Value)))) 11 (c := !(!q0c.Hold.Known)) (says_f _) (fun hq => Yl.at (yl_lss (cv hq) (cv hq))) <| p (yor' rfl rfl (fun hc => (cv (t_not hc))) hx18) <| x_done <| ?_
 replace hF := bd_s hF; obtain ⟨oc18, hFc18, hF⟩ := hF
 refine x_join (fun E w => ∃ (q2 : List Value) (q4 : List T_timing_End), q4 = oc18 ∧ RepL R_timing_End ρ q4 q2 ∧ St w0 w (vec 67 R_timing_End.sz (.slice q3 q6.length c_s0_s) q6.length q2 :: ro ρ :: l)) ?_ ?_
 ·refine x_cond (t := x18) rfl (fun hc18 => ?_) (fun hc18 => ?_)
  ·replace hFc18 := it_t hc18 hFc18
   refine x_region <| p (yl_move rfl) <| p (yl_move rfl) <| p (yl_move rfl) <|
    p (v := .agg #[.bool true, .int .i64 value1, .int .i64 q8]) (yl_build bld_65 bldf_65 (parts_eq (pt (va := .bool true) rfl (pt (va := .int .i64 value1) rfl (pt (va := .int .i64 q8) rfl pt0)))) (by kernel_rfl)) <| p (yl_nilCheck rfl) <| ?_
   replace hFc18 := lv_s hFc18; obtain ⟨q0l, q0i, hFc18⟩ := hFc18
   refine o_put' (news := [.bool true, .int .i64 value1, .int .i64 q8]) sz_65 rfl rfl rfl rfl (o := 5) rfl q0e rfl hS q9 (Le.refl _) (fun c hc => by obtain rfl := hc; rfl) q0i (fun q0j w' q0k hS => ?_)
   refine x_done <| ?_
   exact x_inv ⟨q0j, q0l, (Option.some.inj (show some _ = some _ from hFc18)), q0k, ((hS.pull 1).pull 1)⟩
  ·replace hFc18 := it_bf hc18 hFc18
   refine x_skip <| ?_
   exact x_inv ⟨q0b, q6, (Option.some.inj (show some _ = some _ from hFc18)), q9, ((hS.pull 1).pull 1)⟩
 rintro E w ⟨q2, q4, rfl, q0d, hS⟩
 have e_ := Option.some.inj (show some _ = some _ from hF); subst e_
 exact x_fin ⟨_, rfl, q2, rfl, q0d, ((hS.pull 1).pull 1)⟩
attribute [irreducible] P_timing_Slack_less_2

def P_timing_slacks (j0 : T_timing_Job) (q3 : List T_timing_End) (q2 : Int) (start2 : Int) (a3 : T_timing_Arrival) : Option (List T_timing_End) :=
 bd (P_timing_name (T_api_Netlist.mk j0.Net.In j0.Net.Out j0.Net.Flops j0.Net.Gates j0.Net.Outs) start2) fun q0h =>
 lv (gt q3 q2) fun q0c =>
 bd (P_timing_label (T_api_Netlist.mk j0.Net.In j0.Net.Out j0.Net.Flops j0.Net.Gates j0.Net.Outs) q0c) fun q0d =>
 bd (P_clocks_Cycles (T_clocks_Limits.mk j0.Limits.Period j0.Limits.Inputs j0.Limits.Outputs j0.Limits.Paths) q0h q0d) fun q4 =>
 lv ((!a3.Known) || (decide (q4 = 0))) fun x31 =>
 if x31 = true then
  some q3
 else
  ar (q4 * j0.Limits.Period) fun x36 =>
  lv (gt q3 q2) fun q0i =>
  if q0i.Flop < 0 then
   lv (gt q3 q2) fun q5 =>
   ck (inb q5.Input j0.Net.Out.length) <|
   lv (gt j0.Net.Out q5.Input) fun x56 =>
   bd (P_clocks_Before (T_clocks_Limits.mk j0.Limits.Period j0.Limits.Inputs j0.Limits.Outputs j0.Limits.Paths) x56) fun q0e =>
   ar (x36 - q0e) fun x58 =>
   ar (x58 - a3.Late) fun x61 =>
   bd (P_timing_Slack_less q3 q2 x61 start2) fun q0f =>
   some q0f
  else
   lv (gt q3 q2) fun q9 =>
   ck (inb q9.Flop j0.Net.Flops.length) <|
   lv (gt j0.Net.Flops q9.Flop) fun q6 =>
   ck (inb q6.Cell j0.Lib.length) <|
   lv (gt j0.Lib q6.Cell) fun q7 =>
   lv (gt q3 q2) fun q0a =>
   ck (inb q0a.Flop j0.Delays.Clock.length) <|
   lv (gt j0.Delays.Clock q0a.Flop) fun q0b =>
   ar (x36 + q0b.Lo) fun x93 =>
   ar (x93 - q7.Setup) fun x96 =>
   ar (x96 - a3.Late) fun x99 =>
   bd (P_timing_Slack_less q3 q2 x99 start2) fun q8 =>
   ar (a3.Early - q0b.Hi) fun x109 =>
   ar (x109 - q7.Hold) fun x112 =>
   ar (x112 - 1) fun x113 =>
   ck (inb q2 q8.length) <|
   bd (P_timing_Slack_less_2 q8 q2 x113 start2) fun q0g =>
   some q0g
set_option maxHeartbeats 4000000 in
set_option maxRecDepth 100000 in
theorem c_timing_slacks {w0 w : World} {l : List Assn} {ρ : Heap} {q0d : Option Addr} {q27 : Nat} {c_j0_0 : Nat} {q0e : Option Addr} {q28 : Nat} {c_j0_1 : Nat} {q4 : Option Addr} {q29 : Nat} {c_j0_2 : Nat} {q0f : Option Addr} {q2a : Nat} {c_j0_3 : Nat} {q0g : Option Addr} {q2b : Nat} {c_j0_4 : Nat} {q6 : Option Addr} {q2c : Nat} {c_j0_5 : Nat} {q0j : Option Addr} {q2d : Nat} {c_j0_6 : Nat} {q0k : Option Addr} {q2e : Nat} {c_j0_7 : Nat} {q0l : Option Addr} {q2f : Nat} {c_j0_8 : Nat} {q7 : Option Addr} {q2g : Nat} {c_j0_9 : Nat} {q0h : Option Addr} {q1z : Nat} {c_j0_10 : Nat} {q8 : Option Addr} {q20 : Nat} {c_j0_12 : Nat} {q9 : Option Addr} {q21 : Nat} {c_j0_13 : Nat} {q0a : Option Addr} {q22 : Nat} {c_j0_14 : Nat} {q3 : Option Addr} {q11 : Nat} {c_e_1_s : Nat} {q0b : List Value} {j0 : T_timing_Job} {q0c : List T_timing_End} {q5 : Int} {start2 : Int} {a3 : T_timing_Arrival} {r : List T_timing_End} (hF : P_timing_slacks j0 q0c q5 start2 a3 = some r) (q1u : RdS RpS ρ q0d q27 c_j0_0 j0.Net.In) (q0v : RdS RpS ρ q0e q28 c_j0_1 j0.Net.Out) (q0w : RdS R_api_Flop ρ q4 q29 c_j0_2 j0.Net.Flops) (q1v : RdS R_api_Gate ρ q0f q2a c_j0_3 j0.Net.Gates) (q1w : RdS (RpI .i64) ρ q0g q2b c_j0_4 j0.Net.Outs) (q1x : RdS R_api_Cell ρ q6 q2c c_j0_5 j0.Lib) (q30 : RdS (RpSl R_tree_Window) ρ q0j q2d c_j0_6 j0.Delays.Gates) (q31 : RdS (RpSl R_tree_Window) ρ q0k q2e c_j0_7 j0.Delays.Data) (q32 : RdS R_tree_Window ρ q0l q2f c_j0_8 j0.Delays.Outs) (q1y : RdS R_tree_Window ρ q7 q2g c_j0_9 j0.Delays.Clock) (q2t : RdS R_tree_Window ρ q0h q1z c_j0_10 j0.Delays.Launch) (q17 : RdS R_clocks_Input ρ q8 q20 c_j0_12 j0.Limits.Inputs) (q18 : RdS R_clocks_Output ρ q9 q21 c_j0_13 j0.Limits.Outputs) (q19 : RdS R_clocks_Path ρ q0a q22 c_j0_14 j0.Limits.Paths) (q0i : RepL R_timing_End ρ q0c q0b) (q0n : inb q5 q0c.length) (hS : St w0 w (vec 67 R_timing_End.sz (.slice q3 q11 c_e_1_s) q11 q0b :: ro ρ :: l)) :
  Calls Tryd.prog 62 #[.agg #[.slice q0d q27 c_j0_0, .slice q0e q28 c_j0_1, .slice q4 q29 c_j0_2, .slice q0f q2a c_j0_3, .slice q0g q2b c_j0_4, .slice q6 q2c c_j0_5, .slice q0j q2d c_j0_6, .slice q0k q2e c_j0_7, .slice q0l q2f c_j0_8, .slice q7 q2g c_j0_9, .slice q0h q1z c_j0_10, .int .i64 j0.Limits.Period, .slice q8 q20 c_j0_12, .slice q9 q21 c_j0_13, .slice q0a q22 c_j0_14], .pointer (some ((adr q3).add (q5.toNat * R_timing_End.sz))), .int .i64 start2, .agg #[.bool a3.Known, .int .i64 a3.Early, .int .i64 a3.Late]] w fun e w' => ∃ (q0o : List Value), e = .returned (.tuple #[]) ∧ RepL R_timing_End ρ r q0o ∧ St w0 w' (vec 67 R_timing_End.sz (.slice q3 q11 c_e_1_s) q11 q0o :: ro ρ :: l) := by
 have e_ := q1u.n; subst e_
 have e_ := q0v.n; subst e_
 have e_ := q0w.n; subst e_
 have e_ := q1v.n; subst e_
 have e_ := q1w.n; subst e_
 have e_ := q1x.n; subst e_
 have e_ := q30.n; subst e_
 have e_ := q31.n; subst e_
 have e_ := q32.n; subst e_
 have e_ := q1y.n; subst e_
 have e_ := q2t.n; subst e_
 have e_ := q17.n; subst e_
 have e_ := q18.n; subst e_
 have e_ := q19.n; subst e_
 have e_ := St.vec_n hS q0i; subst e_
 refine enterC Tryd.func62 rfl 116 rfl (by simp) ?_
 refine x_seq <| x_region <| ?_
 refine o_box (cs := [.slice q0d j0.Net.In.length c_j0_0, .slice q0e j0.Net.Out.length c_j0_1, .slice q4 j0.Net.Flops.length c_j0_2, .slice q0f j0.Net.Gates.length c_j0_3, .slice q0g j0.Net.Outs.length c_j0_4, .slice q6 j0.Lib.length c_j0_5, .slice q0j j0.Delays.Gates.length c_j0_6, .slice q0k j0.Delays.Data.length c_j0_7, .slice q0l j0.Delays.Outs.length c_j0_8, .slice q7 j0.Delays.Clock.length c_j0_9, .slice q0h j0.Delays.Launch.length c_j0_10, .int .i64 j0.Limits.Period, .slice q8 j0.Limits.Inputs.length c_j0_12, .slice q9 j0.Limits.Outputs.length c_j0_13, .slice q0a j0.Limits.Paths.length c_j0_14]) rfl rfl hS (fun b4 w' hS => ?_)
 refine o_box (cs := [.bool a3.Known, .int .i64 a3.Early, .int .i64 a3.Late]) rfl rfl hS (fun b7 w' hS => ?_)
 replace hF := bd_s hF; obtain ⟨q3w, q3l, hF⟩ := hF
 replace hF := lv_s hF; obtain ⟨q0p, q33, hF⟩ := hF
 have q_ := q0i.get q0n; obtain ⟨q41, q2h, q34⟩ := q_
 rw [← q33] at q2h
 have e_ := q2h; subst e_
 replace hF := bd_s hF; obtain ⟨q3m, q35, hF⟩ := hF
 replace hF := bd_s hF; obtain ⟨q16, q36, hF⟩ := hF
 refine x_done <| x_seq <| x_still mixed (by kernel_rfl) hS <| q (yl_field0 fld_58_3 rfl) <|
  qa (v := .agg #[.int .i64 j0.Limits.Period, .slice q8 j0.Limits.Inputs.length c_j0_12, .slice q9 j0.Limits.Outputs.length c_j0_13, .slice q0a j0.Limits.Paths.length c_j0_14]) (fun w' hS => ld_sub agg_56 rfl rfl rfl (hS.pull 1)) <| q (yl_field0 fld_58_0 rfl) <| qa (v := .agg #[.slice q0d j0.Net.In.length c_j0_0, .slice q0e j0.Net.Out.length c_j0_1, .slice q4 j0.Net.Flops.length c_j0_2, .slice q0f j0.Net.Gates.length c_j0_3, .slice q0g j0.Net.Outs.length c_j0_4]) (fun w' hS => ld_sub agg_30 rfl rfl rfl (hS.pull 1)) <| q (yl_move rfl) <|
  qcc (v := .string q3w) call_118 (args2 rfl rfl) (fun w' hS => by
   have hcall := c_timing_name q3l q1u q0v q0w q1v q1w (hS.pull 3)
   exact (Calls.mono hcall (fun e w'' h => And.intro h.1 (((h.2.pull 3).pull 3).pull 3)))) <| q (yl_field0 fld_58_0 rfl) <| qa (v := .agg #[.slice q0d j0.Net.In.length c_j0_0, .slice q0e j0.Net.Out.length c_j0_1, .slice q4 j0.Net.Flops.length c_j0_2, .slice q0f j0.Net.Gates.length c_j0_3, .slice q0g j0.Net.Outs.length c_j0_4]) (fun w' hS => ld_sub agg_30 rfl rfl rfl (hS.pull 1)) <| q (yl_move rfl) <|
  q (yl_nilCheck rfl) <| qa (v := .agg #[.int .i64 q0p.Flop, .int .i64 q0p.Input, .bool q0p.Setup.Known, .int .i64 q0p.Setup.Value, .int .i64 q0p.Setup.From, .bool q0p.Hold.Known, .int .i64 q0p.Hold.Value, .int .i64 q0p.Hold.From]) (fun w' hS => at_loadAgg agg_67 rfl rfl (EltV.every q34 (hS.pull 2))) <| qcc (v := .string q3m) call_119 (args2 rfl rfl) (fun w' hS => by
   have hcall := c_timing_label q35 q1u q0v q0w q1v q1w (hS.pull 3)
   exact (Calls.mono hcall (fun e w'' h => And.intro h.1 (((h.2.pull 3).pull 3).pull 3)))) <| qcc (v := .int .i64 q16) call_76 (args3 rfl rfl rfl) (fun w' hS => by
   have hcall := c_clocks_Cycles q36 q17 q18 q19 (hS.pull 3)
   exact (Calls.mono hcall (fun e w'' h => And.intro h.1 (((h.2.pull 3).pull 3).pull 3)))) <|
  q (v := .int .i64 q16) (yl_assign rfl) <|
  q_done fun w' hS => ?_
 replace hF := lv_s hF; obtain ⟨x31, hx31, hF⟩ := hF
 refine x_seq <| x_seq <| x_region <| p (yl_field0 fld_145_0 rfl) <|
  pa (at_load one_4 rfl (hS.cell rfl)) <| p (yl_not rfl) <| p (yl_move rfl) <| pg (v := .int .i64 q16) 28 (c := !(!a3.Known)) (says_f _) (fun hq => Yl.at (yl_move rfl)) <|
  pg (v := .bool (decide (q16 = 0))) 28 (c := !(!a3.Known)) (says_f _) (fun hq => Yl.at (yl_eql (cv hq) rfl)) <| p (yor' rfl rfl (fun hc => (cv (t_not hc))) hx31) <| x_done <|
  x_cond (t := x31) rfl (fun hc31 => ?_) (fun hc31 => ?_)
 ·replace hF := it_t hc31 hF
  have e_ := Option.some.inj (show some _ = some _ from hF); subst e_
  exact x_return ⟨_, rfl, q0b, rfl, q0i, ((hS.drop.drop.pull 1).pull 1)⟩
 ·replace hF := it_bf hc31 hF
  replace hF := ar_s hF; obtain ⟨x36, hx36, hF⟩ := hF
  replace hF := lv_s hF; obtain ⟨q3x, q3n, hF⟩ := hF
  have q_ := q0i.get q0n; obtain ⟨q45, q2n, q3o⟩ := q_
  rw [← q3n] at q2n
  have e_ := q2n; subst e_
  refine x_skip <| x_seq <| x_region <| p (v := .int .i64 q16) (yl_move rfl) <|
   p (yl_field0 fld_58_3 rfl) <| p (yl_fieldN fld_56_0 rfl) <| pa (at_load one_3 rfl ((hS.pull 1).cell rfl)) <| p (ymul rfl rfl hx36) <|
   p (yl_assign rfl) <| x_done <| x_seq <| x_seq <|
   x_region <| p (yl_move rfl) <| p (yl_nilCheck rfl) <| p (yl_fieldAddr fld_67_0 rfl) <|
   pa (at_load one_3 rfl (EltV.ld (m := 0) q3o (hS.pull 2) rfl)) <| p (yl_lss rfl rfl) <| x_done <|
   x_cond_p (q3x.Flop < 0) rfl (fun hc41 => ?_) (fun hc41 => ?_)
  ·replace hF := it_t hc41 hF
   replace hF := lv_s hF; obtain ⟨q46, q37, hF⟩ := hF
   have q_ := q0i.get q0n; obtain ⟨q42, q2i, q38⟩ := q_
   rw [← q37] at q2i
   have e_ := q2i; subst e_
   replace hF := ck_s hF; obtain ⟨q2j, hF⟩ := hF
   replace hF := lv_s hF; obtain ⟨x56, hx56, hF⟩ := hF
   replace hF := bd_s hF; obtain ⟨q3p, q39, hF⟩ := hF
   replace hF := ar_s hF; obtain ⟨x58, hx58, hF⟩ := hF
   replace hF := ar_s hF; obtain ⟨x61, hx61, hF⟩ := hF
   refine x_seq <| x_head 21 mixed (by kernel_rfl) hS _ _ rfl rfl <| q (yl_move rfl) <| q (yl_nilCheck rfl) <|
    q (yl_fieldAddr fld_67_2 rfl) <| q (yl_move rfl) <| q (yl_field0 fld_58_3 rfl) <| qa (v := .agg #[.int .i64 j0.Limits.Period, .slice q8 j0.Limits.Inputs.length c_j0_12, .slice q9 j0.Limits.Outputs.length c_j0_13, .slice q0a j0.Limits.Paths.length c_j0_14]) (fun w' hS => ld_sub agg_56 rfl rfl rfl (hS.pull 1)) <|
    q (yl_field0 fld_58_0 rfl) <| q (yl_field0 fld_30_1 rfl) <| qa (fun w' hS => at_load one_26 rfl ((hS.pull 1).cell rfl)) <| q (yl_move rfl) <|
    q (yl_nilCheck rfl) <| q (yl_fieldAddr fld_67_1 rfl) <| qa (fun w' hS => at_load one_3 rfl (EltV.ld (m := 1) q38 (hS.pull 2) rfl)) <| q (yix_f sl_26 rfl rfl q0v q2j) <|
    qa (fun w' hS => at_load one_9 rfl (RdS.getW q0v (hS.pull 3) q2j hx56)) <| qcc (v := .int .i64 q3p) call_121 (args2 rfl rfl) (fun w' hS => by
     have hcall := c_clocks_Before q39 q17 q18 q19 (hS.pull 3)
     exact (Calls.mono hcall (fun e w'' h => And.intro h.1 (((h.2.pull 3).pull 3).pull 3)))) <| q (ysub rfl rfl hx58) <| q (yl_field0 fld_145_2 rfl) <|
    qa (fun w' hS => at_load one_3 rfl (hS.cell rfl)) <| q (ysub rfl rfl hx61) <| q (yl_move rfl) <|
    q_done fun w' hS => ?_
   replace hF := bd_s hF; obtain ⟨q47, q3a, hF⟩ := hF
   have hcall := c_timing_Slack_less q3a q0i q0n ((hS.pull 3).pull 3)
   refine o_cc call_120 (args3 rfl rfl rfl) hcall ?_
   rintro e w' ⟨q0t, rfl, q0x, hS⟩
   refine ⟨_, rfl, ?_⟩
   refine x_done <| ?_
   have e_ := Option.some.inj (show some _ = some _ from hF); subst e_
   exact x_return ⟨_, rfl, q0t, rfl, q0x, ((((hS.pull 2).drop.pull 2).drop.pull 1).pull 1)⟩
  ·replace hF := it_f hc41 hF
   refine x_skip <| x_seq <| ?_
   replace hF := lv_s hF; obtain ⟨q0s, q3q, hF⟩ := hF
   replace hF := ck_s hF; obtain ⟨q2o, hF⟩ := hF
   replace hF := lv_s hF; obtain ⟨q12, q3b, hF⟩ := hF
   replace hF := ck_s hF; obtain ⟨q2k, hF⟩ := hF
   replace hF := lv_s hF; obtain ⟨q2, q3c, hF⟩ := hF
   refine x_par (w0 := w0) [⟨[], [], [64], [], [], []⟩, ⟨[0], [0], [65], [0], [], []⟩, ⟨[], [], [66], [], [], []⟩, ⟨[2], [2], [67], [], [], []⟩, ⟨[2, 3], [3], [68], [0], [], []⟩, ⟨[], [], [69], [], [], []⟩, ⟨[5], [5], [70], [], [], []⟩, ⟨[5, 6], [6], [71], [], [], []⟩, ⟨[5, 6, 7], [7], [72], [1], [], []⟩, ⟨[2, 3, 4, 5, 6, 7, 8], [4, 8], [73], [2], [], []⟩, ⟨[2, 3, 4, 5, 6, 7, 8, 9], [9], [74], [], [], []⟩, ⟨[2, 3, 4, 5, 6, 7, 8, 9, 10], [10], [75], [2], [], []⟩, ⟨[0, 1, 2, 3, 4, 5, 6, 7, 8, 9, 10, 11], [1, 11], [76], [2], [], []⟩, ⟨[0, 1, 2, 3, 4, 5, 6, 7, 8, 9, 10, 11, 12], [12], [77], [2], [], []⟩, ⟨[], [], [10], [], [], [3]⟩, ⟨[0, 1, 2, 3, 4, 5, 6, 7, 8, 9, 10, 11, 12, 13, 14], [13, 14], [], [], [3], [4]⟩] [⟨none, none, []⟩, ⟨none, none, []⟩, ⟨none, none, []⟩, ⟨(some 14), (some 15), [10]⟩, ⟨(some 15), none, [10, 77]⟩] [10, 64, 65, 66, 67, 68, 69, 70, 71, 72, 73, 74, 75, 76, 77] [0, 1, 2] [0, 1, 2, 4] [0, 1, 2, 3, 4, 5, 6, 7, 8, 9, 10, 11, 12, 13, 14] [fun Ep6 => Ep6 64 = .pointer (some ⟨b4, 5, none⟩), fun Ep6 => Ep6 65 = .slice q6 j0.Lib.length c_j0_5, fun Ep6 => Ep6 66 = .pointer (some ⟨b4, 0, none⟩), fun Ep6 => Ep6 67 = .pointer (some ⟨b4, 2, none⟩), fun Ep6 => Ep6 68 = .slice q4 j0.Net.Flops.length c_j0_2, fun Ep6 => Ep6 69 = .pointer (some ((adr q3).add (q5.toNat * R_timing_End.sz))), fun Ep6 => Ep6 70 = .pointer (some ((adr q3).add (q5.toNat * R_timing_End.sz))), fun Ep6 => Ep6 71 = .pointer (some (((adr q3).add (q5.toNat * R_timing_End.sz)).add 0)), fun Ep6 => Ep6 72 = .int .i64 q0s.Flop, fun Ep6 => Ep6 73 = .pointer (some ((adr q4).add (q0s.Flop.toNat * R_api_Flop.sz))), fun Ep6 => Ep6 74 = .pointer (some (((adr q4).add (q0s.Flop.toNat * R_api_Flop.sz)).add 1)), fun Ep6 => Ep6 75 = .int .i64 q12.Cell, fun Ep6 => Ep6 76 = .pointer (some ((adr q6).add (q12.Cell.toNat * R_api_Cell.sz))), fun Ep6 => Ep6 77 = .agg #[.string q2.Name, .bool q2.Flop, .int .i64 q2.Ins, .int .u64 q2.Table, .int .i64 q2.Area, .slice (adOf (partOf 5 (Ep6 77))) q2.Cap.length (capOf (partOf 5 (Ep6 77))), .slice (adOf (partOf 6 (Ep6 77))) q2.Min.length (capOf (partOf 6 (Ep6 77))), .slice (adOf (partOf 7 (Ep6 77))) q2.Max.length (capOf (partOf 7 (Ep6 77))), .int .i64 q2.Drive, .int .i64 q2.Setup, .int .i64 q2.Hold] ∧ RdS (RpI .i64) ρ (adOf (partOf 5 (Ep6 77))) q2.Cap.length (capOf (partOf 5 (Ep6 77))) q2.Cap ∧ RdS (RpI .i64) ρ (adOf (partOf 6 (Ep6 77))) q2.Min.length (capOf (partOf 6 (Ep6 77))) q2.Min ∧ RdS (RpI .i64) ρ (adOf (partOf 7 (Ep6 77))) q2.Max.length (capOf (partOf 7 (Ep6 77))) q2.Max, fun Ep6 => Ep6 10 = .pointer (some ⟨(blkOf (Ep6 10)), 0, none⟩), fun Ep6 => True] [fun Ep6 => cells b4 58 [.slice q0d j0.Net.In.length c_j0_0, .slice q0e j0.Net.Out.length c_j0_1, .slice q4 j0.Net.Flops.length c_j0_2, .slice q0f j0.Net.Gates.length c_j0_3, .slice q0g j0.Net.Outs.length c_j0_4, .slice q6 j0.Lib.length c_j0_5, .slice q0j j0.Delays.Gates.length c_j0_6, .slice q0k j0.Delays.Data.length c_j0_7, .slice q0l j0.Delays.Outs.length c_j0_8, .slice q7 j0.Delays.Clock.length c_j0_9, .slice q0h j0.Delays.Launch.length c_j0_10, .int .i64 j0.Limits.Period, .slice q8 j0.Limits.Inputs.length c_j0_12, .slice q9 j0.Limits.Outputs.length c_j0_13, .slice q0a j0.Limits.Paths.length c_j0_14], fun Ep6 => vec 67 R_timing_End.sz (.slice q3 q0c.length c_e_1_s) q0c.length q0b, fun Ep6 => ro ρ, fun Ep6 => cells (blkOf (Ep6 10)) 206 [.string (⟨#[]⟩ : ByteArray), .bool false, .int .i64 0, .int .u64 0, .int .i64 0, .slice none 0 0, .slice none 0 0, .slice none 0 0, .int .i64 0, .int .i64 0, .int .i64 0], fun Ep6 => cells (blkOf (Ep6 10)) 206 [.string q2.Name, .bool q2.Flop, .int .i64 q2.Ins, .int .u64 q2.Table, .int .i64 q2.Area, .slice (adOf (partOf 5 (Ep6 77))) q2.Cap.length (capOf (partOf 5 (Ep6 77))), .slice (adOf (partOf 6 (Ep6 77))) q2.Min.length (capOf (partOf 6 (Ep6 77))), .slice (adOf (partOf 7 (Ep6 77))) q2.Max.length (capOf (partOf 7 (Ep6 77))), .int .i64 q2.Drive, .int .i64 q2.Setup, .int .i64 q2.Hold]] mixed (by kernel_rfl) (((hS.pull 3).pull 3).pull 3) ?_ ?_
   ·refine ⟨?_, ?_, ?_, ?_, ?_, ?_, ?_, ?_, ?_, ?_, ?_, ?_, ?_, ?_, ?_, ?_, trivial⟩
    ·intro Ep6 w l' hE6 hO6 hF_ hS
     refine p (yl_field0 fld_58_1 (hE6 4 rfl)) <| x_done <| ?_
     refine x_fin ⟨⟨_, rfl⟩, rfl, ?_⟩
     exact Eq.mp (by kernel_rfl) hS
    ·intro Ep6 w l' hE6 hO6 hF_ hS
     obtain ⟨q1a, -⟩ := hF_
     replace q1a : Ep6 64 = .pointer (some ⟨b4, 5, none⟩) := Eq.mp (by kernel_rfl) q1a
     replace hS : St w0 w (cells b4 58 [.slice q0d j0.Net.In.length c_j0_0, .slice q0e j0.Net.Out.length c_j0_1, .slice q4 j0.Net.Flops.length c_j0_2, .slice q0f j0.Net.Gates.length c_j0_3, .slice q0g j0.Net.Outs.length c_j0_4, .slice q6 j0.Lib.length c_j0_5, .slice q0j j0.Delays.Gates.length c_j0_6, .slice q0k j0.Delays.Data.length c_j0_7, .slice q0l j0.Delays.Outs.length c_j0_8, .slice q7 j0.Delays.Clock.length c_j0_9, .slice q0h j0.Delays.Launch.length c_j0_10, .int .i64 j0.Limits.Period, .slice q8 j0.Limits.Inputs.length c_j0_12, .slice q9 j0.Limits.Outputs.length c_j0_13, .slice q0a j0.Limits.Paths.length c_j0_14] :: l') := Eq.mp (by kernel_rfl) hS
     refine pa (at_load one_31 q1a (hS.cell rfl)) <| x_done <| ?_
     refine x_fin ⟨⟨_, rfl⟩, rfl, ?_⟩
     exact Eq.mp (by kernel_rfl) hS
    ·intro Ep6 w l' hE6 hO6 hF_ hS
     refine p (yl_field0 fld_58_0 (hE6 4 rfl)) <| x_done <| ?_
     refine x_fin ⟨⟨_, rfl⟩, rfl, ?_⟩
     exact Eq.mp (by kernel_rfl) hS
    ·intro Ep6 w l' hE6 hO6 hF_ hS
     obtain ⟨q1b, -⟩ := hF_
     replace q1b : Ep6 66 = .pointer (some ⟨b4, 0, none⟩) := Eq.mp (by kernel_rfl) q1b
     refine p (yl_field0 fld_30_2 q1b) <| x_done <| ?_
     refine x_fin ⟨⟨_, rfl⟩, rfl, ?_⟩
     exact Eq.mp (by kernel_rfl) hS
    ·intro Ep6 w l' hE6 hO6 hF_ hS
     obtain ⟨q1c, -⟩ := hF_
     replace q1c : Ep6 67 = .pointer (some ⟨b4, 2, none⟩) := Eq.mp (by kernel_rfl) q1c
     replace hS : St w0 w (cells b4 58 [.slice q0d j0.Net.In.length c_j0_0, .slice q0e j0.Net.Out.length c_j0_1, .slice q4 j0.Net.Flops.length c_j0_2, .slice q0f j0.Net.Gates.length c_j0_3, .slice q0g j0.Net.Outs.length c_j0_4, .slice q6 j0.Lib.length c_j0_5, .slice q0j j0.Delays.Gates.length c_j0_6, .slice q0k j0.Delays.Data.length c_j0_7, .slice q0l j0.Delays.Outs.length c_j0_8, .slice q7 j0.Delays.Clock.length c_j0_9, .slice q0h j0.Delays.Launch.length c_j0_10, .int .i64 j0.Limits.Period, .slice q8 j0.Limits.Inputs.length c_j0_12, .slice q9 j0.Limits.Outputs.length c_j0_13, .slice q0a j0.Limits.Paths.length c_j0_14] :: l') := Eq.mp (by kernel_rfl) hS
     refine pa (at_load one_27 q1c (hS.cell rfl)) <| x_done <| ?_
     refine x_fin ⟨⟨_, rfl⟩, rfl, ?_⟩
     exact Eq.mp (by kernel_rfl) hS
    ·intro Ep6 w l' hE6 hO6 hF_ hS
     refine p (yl_move (hE6 1 rfl)) <| x_done <| ?_
     refine x_fin ⟨⟨_, rfl⟩, rfl, ?_⟩
     exact Eq.mp (by kernel_rfl) hS
    ·intro Ep6 w l' hE6 hO6 hF_ hS
     obtain ⟨q1d, -⟩ := hF_
     replace q1d : Ep6 69 = .pointer (some ((adr q3).add (q5.toNat * R_timing_End.sz))) := Eq.mp (by kernel_rfl) q1d
     refine p (yl_nilCheck q1d) <| x_done <| ?_
     refine x_fin ⟨⟨_, rfl⟩, rfl, ?_⟩
     exact Eq.mp (by kernel_rfl) hS
    ·intro Ep6 w l' hE6 hO6 hF_ hS
     obtain ⟨q1e, -⟩ := hF_
     replace q1e : Ep6 70 = .pointer (some ((adr q3).add (q5.toNat * R_timing_End.sz))) := Eq.mp (by kernel_rfl) q1e
     refine p (yl_fieldAddr fld_67_0 q1e) <| x_done <| ?_
     refine x_fin ⟨⟨_, rfl⟩, rfl, ?_⟩
     exact Eq.mp (by kernel_rfl) hS
    ·intro Ep6 w l' hE6 hO6 hF_ hS
     obtain ⟨q1f, -⟩ := hF_
     replace q1f : Ep6 71 = .pointer (some (((adr q3).add (q5.toNat * R_timing_End.sz)).add 0)) := Eq.mp (by kernel_rfl) q1f
     replace hS : St w0 w (vec 67 R_timing_End.sz (.slice q3 q0c.length c_e_1_s) q0c.length q0b :: l') := Eq.mp (by kernel_rfl) hS
     have q_ := q0i.get q0n; obtain ⟨q48, q2p, q3r⟩ := q_
     rw [← q3q] at q2p
     have e_ := q2p; subst e_
     refine pa (at_load one_3 q1f (EltV.ld (m := 0) q3r hS rfl)) <| x_done <| ?_
     refine x_fin ⟨⟨_, rfl⟩, rfl, ?_⟩
     exact Eq.mp (by kernel_rfl) hS
    ·intro Ep6 w l' hE6 hO6 hF_ hS
     obtain ⟨q1g, q1h, -⟩ := hF_
     replace q1g : Ep6 68 = .slice q4 j0.Net.Flops.length c_j0_2 := Eq.mp (by kernel_rfl) q1g
     replace q1h : Ep6 72 = .int .i64 q0s.Flop := Eq.mp (by kernel_rfl) q1h
     replace hS : St w0 w (ro ρ :: l') := Eq.mp (by kernel_rfl) hS
     refine p (yix_f sl_27 q1g q1h q0w q2o) <| x_done <| ?_
     refine x_fin ⟨⟨_, rfl⟩, rfl, ?_⟩
     exact Eq.mp (by kernel_rfl) hS
    ·intro Ep6 w l' hE6 hO6 hF_ hS
     obtain ⟨q1i, -⟩ := hF_
     replace q1i : Ep6 73 = .pointer (some ((adr q4).add (q0s.Flop.toNat * R_api_Flop.sz))) := Eq.mp (by kernel_rfl) q1i
     refine p (yl_fieldAddr fld_135_1 q1i) <| x_done <| ?_
     refine x_fin ⟨⟨_, rfl⟩, rfl, ?_⟩
     exact Eq.mp (by kernel_rfl) hS
    ·intro Ep6 w l' hE6 hO6 hF_ hS
     obtain ⟨q13, -⟩ := hF_
     replace q13 : Ep6 74 = .pointer (some (((adr q4).add (q0s.Flop.toNat * R_api_Flop.sz)).add 1)) := Eq.mp (by kernel_rfl) q13
     replace hS : St w0 w (ro ρ :: l') := Eq.mp (by kernel_rfl) hS
     have q_ := q0w.get q2o; obtain ⟨q43, q2l, q3d⟩ := q_
     rw [← q3b] at q2l
     have e_ := q2l; subst e_
     refine pa (at_load one_3 q13 (Elt.ld (j := 1) q3d hS rfl)) <| x_done <| ?_
     refine x_fin ⟨⟨_, rfl⟩, rfl, ?_⟩
     exact Eq.mp (by kernel_rfl) hS
    ·intro Ep6 w l' hE6 hO6 hF_ hS
     obtain ⟨q1j, q14, -⟩ := hF_
     replace q1j : Ep6 65 = .slice q6 j0.Lib.length c_j0_5 := Eq.mp (by kernel_rfl) q1j
     replace q14 : Ep6 75 = .int .i64 q12.Cell := Eq.mp (by kernel_rfl) q14
     replace hS : St w0 w (ro ρ :: l') := Eq.mp (by kernel_rfl) hS
     refine p (yix_f sl_31 q1j q14 q1x q2k) <| x_done <| ?_
     refine x_fin ⟨⟨_, rfl⟩, rfl, ?_⟩
     exact Eq.mp (by kernel_rfl) hS
    ·intro Ep6 w l' hE6 hO6 hF_ hS
     obtain ⟨q15, -⟩ := hF_
     replace q15 : Ep6 76 = .pointer (some ((adr q6).add (q12.Cell.toNat * R_api_Cell.sz))) := Eq.mp (by kernel_rfl) q15
     replace hS : St w0 w (ro ρ :: l') := Eq.mp (by kernel_rfl) hS
     have q_ := q1x.get q2k; obtain ⟨q44, q2m, q3e⟩ := q_
     rw [← q3c] at q2m
     obtain ⟨q2u, q3y, q2v, q2w, q3z, q2x, q2y, q40, q2z, rfl, q23, q24, q25⟩ := q2m
     have e_ := q23.n; subst e_
     have e_ := q24.n; subst e_
     have e_ := q25.n; subst e_
     refine pa (v := .agg #[.string q2.Name, .bool q2.Flop, .int .i64 q2.Ins, .int .u64 q2.Table, .int .i64 q2.Area, .slice q2u q2.Cap.length q2v, .slice q2w q2.Min.length q2x, .slice q2y q2.Max.length q2z, .int .i64 q2.Drive, .int .i64 q2.Setup, .int .i64 q2.Hold]) (at_loadAgg agg_206 q15 rfl (Elt.every q3e hS)) <| x_done <| ?_
     refine x_fin ⟨⟨_, rfl⟩, ⟨rfl, q23, q24, q25⟩, ?_⟩
     exact Eq.mp (by kernel_rfl) hS
    ·intro Ep6 w l' hE6 hO6 hF_ hS
     refine o_alloc zero_206 hS (fun b10 w' hS => ?_)
     refine x_done <| ?_
     refine x_fin ⟨⟨_, rfl⟩, rfl, ?_⟩
     exact Eq.mp (by kernel_rfl) hS
    ·intro Ep6 w l' hE6 hO6 hF_ hS
     obtain ⟨q0q, q0r, -⟩ := hF_
     replace q0q : Ep6 77 = .agg #[.string q2.Name, .bool q2.Flop, .int .i64 q2.Ins, .int .u64 q2.Table, .int .i64 q2.Area, .slice (adOf (partOf 5 (Ep6 77))) q2.Cap.length (capOf (partOf 5 (Ep6 77))), .slice (adOf (partOf 6 (Ep6 77))) q2.Min.length (capOf (partOf 6 (Ep6 77))), .slice (adOf (partOf 7 (Ep6 77))) q2.Max.length (capOf (partOf 7 (Ep6 77))), .int .i64 q2.Drive, .int .i64 q2.Setup, .int .i64 q2.Hold] ∧ RdS (RpI .i64) ρ (adOf (partOf 5 (Ep6 77))) q2.Cap.length (capOf (partOf 5 (Ep6 77))) q2.Cap ∧ RdS (RpI .i64) ρ (adOf (partOf 6 (Ep6 77))) q2.Min.length (capOf (partOf 6 (Ep6 77))) q2.Min ∧ RdS (RpI .i64) ρ (adOf (partOf 7 (Ep6 77))) q2.Max.length (capOf (partOf 7 (Ep6 77))) q2.Max := Eq.mp (by kernel_rfl) q0q
     have q_ := id q0q; obtain ⟨-, q3f, q3g, q3h⟩ := q_
     replace q0r : Ep6 10 = .pointer (some ⟨(blkOf (Ep6 10)), 0, none⟩) := Eq.mp (by kernel_rfl) q0r
     replace hS : St w0 w (cells (blkOf (Ep6 10)) 206 [.string (⟨#[]⟩ : ByteArray), .bool false, .int .i64 0, .int .u64 0, .int .i64 0, .slice none 0 0, .slice none 0 0, .slice none 0 0, .int .i64 0, .int .i64 0, .int .i64 0] :: l') := Eq.mp (by kernel_rfl) hS
     refine o_storeAgg (news := [.string q2.Name, .bool q2.Flop, .int .i64 q2.Ins, .int .u64 q2.Table, .int .i64 q2.Area, .slice (adOf (partOf 5 (Ep6 77))) q2.Cap.length (capOf (partOf 5 (Ep6 77))), .slice (adOf (partOf 6 (Ep6 77))) q2.Min.length (capOf (partOf 6 (Ep6 77))), .slice (adOf (partOf 7 (Ep6 77))) q2.Max.length (capOf (partOf 7 (Ep6 77))), .int .i64 q2.Drive, .int .i64 q2.Setup, .int .i64 q2.Hold]) agg_206 q0r q0q.1 rfl (by simp [over_length]) hS (fun w' hS => ?_)
     refine x_done <| ?_
     refine x_fin ⟨⟨undef, rfl⟩, trivial, ?_⟩
     exact Eq.mp (by kernel_rfl) hS
   intro Ep6 w' hE6 hF_ hS
   obtain ⟨q1a, q1j, q1b, q1c, q1g, q1d, q1e, q1f, q1h, q1i, q13, q14, q15, q0q, q0r, -⟩ := hF_
   replace q1a : Ep6 64 = .pointer (some ⟨b4, 5, none⟩) := Eq.mp (by kernel_rfl) q1a
   replace q1j : Ep6 65 = .slice q6 j0.Lib.length c_j0_5 := Eq.mp (by kernel_rfl) q1j
   replace q1b : Ep6 66 = .pointer (some ⟨b4, 0, none⟩) := Eq.mp (by kernel_rfl) q1b
   replace q1c : Ep6 67 = .pointer (some ⟨b4, 2, none⟩) := Eq.mp (by kernel_rfl) q1c
   replace q1g : Ep6 68 = .slice q4 j0.Net.Flops.length c_j0_2 := Eq.mp (by kernel_rfl) q1g
   replace q1d : Ep6 69 = .pointer (some ((adr q3).add (q5.toNat * R_timing_End.sz))) := Eq.mp (by kernel_rfl) q1d
   replace q1e : Ep6 70 = .pointer (some ((adr q3).add (q5.toNat * R_timing_End.sz))) := Eq.mp (by kernel_rfl) q1e
   replace q1f : Ep6 71 = .pointer (some (((adr q3).add (q5.toNat * R_timing_End.sz)).add 0)) := Eq.mp (by kernel_rfl) q1f
   replace q1h : Ep6 72 = .int .i64 q0s.Flop := Eq.mp (by kernel_rfl) q1h
   replace q1i : Ep6 73 = .pointer (some ((adr q4).add (q0s.Flop.toNat * R_api_Flop.sz))) := Eq.mp (by kernel_rfl) q1i
   replace q13 : Ep6 74 = .pointer (some (((adr q4).add (q0s.Flop.toNat * R_api_Flop.sz)).add 1)) := Eq.mp (by kernel_rfl) q13
   replace q14 : Ep6 75 = .int .i64 q12.Cell := Eq.mp (by kernel_rfl) q14
   replace q15 : Ep6 76 = .pointer (some ((adr q6).add (q12.Cell.toNat * R_api_Cell.sz))) := Eq.mp (by kernel_rfl) q15
   replace q0q : Ep6 77 = .agg #[.string q2.Name, .bool q2.Flop, .int .i64 q2.Ins, .int .u64 q2.Table, .int .i64 q2.Area, .slice (adOf (partOf 5 (Ep6 77))) q2.Cap.length (capOf (partOf 5 (Ep6 77))), .slice (adOf (partOf 6 (Ep6 77))) q2.Min.length (capOf (partOf 6 (Ep6 77))), .slice (adOf (partOf 7 (Ep6 77))) q2.Max.length (capOf (partOf 7 (Ep6 77))), .int .i64 q2.Drive, .int .i64 q2.Setup, .int .i64 q2.Hold] ∧ RdS (RpI .i64) ρ (adOf (partOf 5 (Ep6 77))) q2.Cap.length (capOf (partOf 5 (Ep6 77))) q2.Cap ∧ RdS (RpI .i64) ρ (adOf (partOf 6 (Ep6 77))) q2.Min.length (capOf (partOf 6 (Ep6 77))) q2.Min ∧ RdS (RpI .i64) ρ (adOf (partOf 7 (Ep6 77))) q2.Max.length (capOf (partOf 7 (Ep6 77))) q2.Max := Eq.mp (by kernel_rfl) q0q
   have q_ := id q0q; obtain ⟨-, q3f, q3g, q3h⟩ := q_
   replace q0r : Ep6 10 = .pointer (some ⟨(blkOf (Ep6 10)), 0, none⟩) := Eq.mp (by kernel_rfl) q0r
   replace hS : St w0 w' (cells b4 58 [.slice q0d j0.Net.In.length c_j0_0, .slice q0e j0.Net.Out.length c_j0_1, .slice q4 j0.Net.Flops.length c_j0_2, .slice q0f j0.Net.Gates.length c_j0_3, .slice q0g j0.Net.Outs.length c_j0_4, .slice q6 j0.Lib.length c_j0_5, .slice q0j j0.Delays.Gates.length c_j0_6, .slice q0k j0.Delays.Data.length c_j0_7, .slice q0l j0.Delays.Outs.length c_j0_8, .slice q7 j0.Delays.Clock.length c_j0_9, .slice q0h j0.Delays.Launch.length c_j0_10, .int .i64 j0.Limits.Period, .slice q8 j0.Limits.Inputs.length c_j0_12, .slice q9 j0.Limits.Outputs.length c_j0_13, .slice q0a j0.Limits.Paths.length c_j0_14] :: vec 67 R_timing_End.sz (.slice q3 q0c.length c_e_1_s) q0c.length q0b :: ro ρ :: cells (blkOf (Ep6 10)) 206 [.string q2.Name, .bool q2.Flop, .int .i64 q2.Ins, .int .u64 q2.Table, .int .i64 q2.Area, .slice (adOf (partOf 5 (Ep6 77))) q2.Cap.length (capOf (partOf 5 (Ep6 77))), .slice (adOf (partOf 6 (Ep6 77))) q2.Min.length (capOf (partOf 6 (Ep6 77))), .slice (adOf (partOf 7 (Ep6 77))) q2.Max.length (capOf (partOf 7 (Ep6 77))), .int .i64 q2.Drive, .int .i64 q2.Setup, .int .i64 q2.Hold] :: (cells b7 145 [.bool a3.Known, .int .i64 a3.Early, .int .i64 a3.Late] :: l)) := Eq.mp (by kernel_rfl) hS
   refine x_seq <| ?_
   replace hF := lv_s hF; obtain ⟨q1k, q3s, hF⟩ := hF
   replace hF := ck_s hF; obtain ⟨q2q, hF⟩ := hF
   replace hF := lv_s hF; obtain ⟨q0m, q3t, hF⟩ := hF
   refine x_par (w0 := w0) [⟨[], [], [78], [], [], []⟩, ⟨[0], [0], [79], [], [], []⟩, ⟨[0, 1], [1], [80], [0], [], []⟩, ⟨[], [], [81], [], [], []⟩, ⟨[3], [3], [82], [], [], []⟩, ⟨[3, 4], [4], [83], [], [], []⟩, ⟨[3, 4, 5], [5], [84], [1], [], []⟩, ⟨[0, 1, 2, 3, 4, 5, 6], [2, 6], [85], [2], [], []⟩, ⟨[0, 1, 2, 3, 4, 5, 6, 7], [7], [86], [2], [], []⟩, ⟨[], [], [11], [], [], [3]⟩, ⟨[0, 1, 2, 3, 4, 5, 6, 7, 8, 9], [8, 9], [], [], [3], [4]⟩] [⟨none, none, []⟩, ⟨none, none, []⟩, ⟨none, none, []⟩, ⟨(some 9), (some 10), [11]⟩, ⟨(some 10), none, [11]⟩] [11, 78, 79, 80, 81, 82, 83, 84, 85, 86] [0, 1, 2] [0, 1, 2, 4] [0, 1, 2, 3, 4, 5, 6, 7, 8, 9] [fun Ep7 => Ep7 78 = .pointer (some ⟨b4, 6, none⟩), fun Ep7 => Ep7 79 = .pointer (some ⟨b4, 9, none⟩), fun Ep7 => Ep7 80 = .slice q7 j0.Delays.Clock.length c_j0_9, fun Ep7 => Ep7 81 = .pointer (some ((adr q3).add (q5.toNat * R_timing_End.sz))), fun Ep7 => Ep7 82 = .pointer (some ((adr q3).add (q5.toNat * R_timing_End.sz))), fun Ep7 => Ep7 83 = .pointer (some (((adr q3).add (q5.toNat * R_timing_End.sz)).add 0)), fun Ep7 => Ep7 84 = .int .i64 q1k.Flop, fun Ep7 => Ep7 85 = .pointer (some ((adr q7).add (q1k.Flop.toNat * R_tree_Window.sz))), fun Ep7 => Ep7 86 = .agg #[.int .i64 q0m.Lo, .int .i64 q0m.Hi], fun Ep7 => Ep7 11 = .pointer (some ⟨(blkOf (Ep7 11)), 0, none⟩), fun Ep7 => True] [fun Ep7 => cells b4 58 [.slice q0d j0.Net.In.length c_j0_0, .slice q0e j0.Net.Out.length c_j0_1, .slice q4 j0.Net.Flops.length c_j0_2, .slice q0f j0.Net.Gates.length c_j0_3, .slice q0g j0.Net.Outs.length c_j0_4, .slice q6 j0.Lib.length c_j0_5, .slice q0j j0.Delays.Gates.length c_j0_6, .slice q0k j0.Delays.Data.length c_j0_7, .slice q0l j0.Delays.Outs.length c_j0_8, .slice q7 j0.Delays.Clock.length c_j0_9, .slice q0h j0.Delays.Launch.length c_j0_10, .int .i64 j0.Limits.Period, .slice q8 j0.Limits.Inputs.length c_j0_12, .slice q9 j0.Limits.Outputs.length c_j0_13, .slice q0a j0.Limits.Paths.length c_j0_14], fun Ep7 => vec 67 R_timing_End.sz (.slice q3 q0c.length c_e_1_s) q0c.length q0b, fun Ep7 => ro ρ, fun Ep7 => cells (blkOf (Ep7 11)) 70 [.int .i64 0, .int .i64 0], fun Ep7 => cells (blkOf (Ep7 11)) 70 [.int .i64 q0m.Lo, .int .i64 q0m.Hi]] mixed (by kernel_rfl) (((hS.pull 2).pull 2).pull 2) ?_ ?_
   ·refine ⟨?_, ?_, ?_, ?_, ?_, ?_, ?_, ?_, ?_, ?_, ?_, trivial⟩
    ·intro Ep7 w l' hE7 hO7 hF_ hS
     refine p (yl_field0 fld_58_2 ((hE7 4 rfl).trans (hE6 4 rfl))) <| x_done <| ?_
     refine x_fin ⟨⟨_, rfl⟩, rfl, ?_⟩
     exact Eq.mp (by kernel_rfl) hS
    ·intro Ep7 w l' hE7 hO7 hF_ hS
     obtain ⟨q1l, -⟩ := hF_
     replace q1l : Ep7 78 = .pointer (some ⟨b4, 6, none⟩) := Eq.mp (by kernel_rfl) q1l
     refine p (yl_fieldN fld_51_3 q1l) <| x_done <| ?_
     refine x_fin ⟨⟨_, rfl⟩, rfl, ?_⟩
     exact Eq.mp (by kernel_rfl) hS
    ·intro Ep7 w l' hE7 hO7 hF_ hS
     obtain ⟨q1m, -⟩ := hF_
     replace q1m : Ep7 79 = .pointer (some ⟨b4, 9, none⟩) := Eq.mp (by kernel_rfl) q1m
     replace hS : St w0 w (cells b4 58 [.slice q0d j0.Net.In.length c_j0_0, .slice q0e j0.Net.Out.length c_j0_1, .slice q4 j0.Net.Flops.length c_j0_2, .slice q0f j0.Net.Gates.length c_j0_3, .slice q0g j0.Net.Outs.length c_j0_4, .slice q6 j0.Lib.length c_j0_5, .slice q0j j0.Delays.Gates.length c_j0_6, .slice q0k j0.Delays.Data.length c_j0_7, .slice q0l j0.Delays.Outs.length c_j0_8, .slice q7 j0.Delays.Clock.length c_j0_9, .slice q0h j0.Delays.Launch.length c_j0_10, .int .i64 j0.Limits.Period, .slice q8 j0.Limits.Inputs.length c_j0_12, .slice q9 j0.Limits.Outputs.length c_j0_13, .slice q0a j0.Limits.Paths.length c_j0_14] :: l') := Eq.mp (by kernel_rfl) hS
     refine pa (at_load one_49 q1m (hS.cell rfl)) <| x_done <| ?_
     refine x_fin ⟨⟨_, rfl⟩, rfl, ?_⟩
     exact Eq.mp (by kernel_rfl) hS
    ·intro Ep7 w l' hE7 hO7 hF_ hS
     refine p (yl_move ((hE7 1 rfl).trans (hE6 1 rfl))) <| x_done <| ?_
     refine x_fin ⟨⟨_, rfl⟩, rfl, ?_⟩
     exact Eq.mp (by kernel_rfl) hS
    ·intro Ep7 w l' hE7 hO7 hF_ hS
     obtain ⟨q1n, -⟩ := hF_
     replace q1n : Ep7 81 = .pointer (some ((adr q3).add (q5.toNat * R_timing_End.sz))) := Eq.mp (by kernel_rfl) q1n
     refine p (yl_nilCheck q1n) <| x_done <| ?_
     refine x_fin ⟨⟨_, rfl⟩, rfl, ?_⟩
     exact Eq.mp (by kernel_rfl) hS
    ·intro Ep7 w l' hE7 hO7 hF_ hS
     obtain ⟨q1o, -⟩ := hF_
     replace q1o : Ep7 82 = .pointer (some ((adr q3).add (q5.toNat * R_timing_End.sz))) := Eq.mp (by kernel_rfl) q1o
     refine p (yl_fieldAddr fld_67_0 q1o) <| x_done <| ?_
     refine x_fin ⟨⟨_, rfl⟩, rfl, ?_⟩
     exact Eq.mp (by kernel_rfl) hS
    ·intro Ep7 w l' hE7 hO7 hF_ hS
     obtain ⟨q1p, -⟩ := hF_
     replace q1p : Ep7 83 = .pointer (some (((adr q3).add (q5.toNat * R_timing_End.sz)).add 0)) := Eq.mp (by kernel_rfl) q1p
     replace hS : St w0 w (vec 67 R_timing_End.sz (.slice q3 q0c.length c_e_1_s) q0c.length q0b :: l') := Eq.mp (by kernel_rfl) hS
     have q_ := q0i.get q0n; obtain ⟨q49, q2r, q3u⟩ := q_
     rw [← q3s] at q2r
     have e_ := q2r; subst e_
     refine pa (at_load one_3 q1p (EltV.ld (m := 0) q3u hS rfl)) <| x_done <| ?_
     refine x_fin ⟨⟨_, rfl⟩, rfl, ?_⟩
     exact Eq.mp (by kernel_rfl) hS
    ·intro Ep7 w l' hE7 hO7 hF_ hS
     obtain ⟨q1q, q1r, -⟩ := hF_
     replace q1q : Ep7 80 = .slice q7 j0.Delays.Clock.length c_j0_9 := Eq.mp (by kernel_rfl) q1q
     replace q1r : Ep7 84 = .int .i64 q1k.Flop := Eq.mp (by kernel_rfl) q1r
     replace hS : St w0 w (ro ρ :: l') := Eq.mp (by kernel_rfl) hS
     refine p (yix_f sl_49 q1q q1r q1y q2q) <| x_done <| ?_
     refine x_fin ⟨⟨_, rfl⟩, rfl, ?_⟩
     exact Eq.mp (by kernel_rfl) hS
    ·intro Ep7 w l' hE7 hO7 hF_ hS
     obtain ⟨q1s, -⟩ := hF_
     replace q1s : Ep7 85 = .pointer (some ((adr q7).add (q1k.Flop.toNat * R_tree_Window.sz))) := Eq.mp (by kernel_rfl) q1s
     replace hS : St w0 w (ro ρ :: l') := Eq.mp (by kernel_rfl) hS
     have q_ := q1y.get q2q; obtain ⟨q4a, q2s, q3v⟩ := q_
     rw [← q3t] at q2s
     have e_ := q2s; subst e_
     refine pa (v := .agg #[.int .i64 q0m.Lo, .int .i64 q0m.Hi]) (at_loadAgg agg_70 q1s rfl (Elt.every q3v hS)) <| x_done <| ?_
     refine x_fin ⟨⟨_, rfl⟩, rfl, ?_⟩
     exact Eq.mp (by kernel_rfl) hS
    ·intro Ep7 w l' hE7 hO7 hF_ hS
     refine o_alloc zero_70 hS (fun b11 w' hS => ?_)
     refine x_done <| ?_
     refine x_fin ⟨⟨_, rfl⟩, rfl, ?_⟩
     exact Eq.mp (by kernel_rfl) hS
    ·intro Ep7 w l' hE7 hO7 hF_ hS
     obtain ⟨q1t, q0y, -⟩ := hF_
     replace q1t : Ep7 86 = .agg #[.int .i64 q0m.Lo, .int .i64 q0m.Hi] := Eq.mp (by kernel_rfl) q1t
     replace q0y : Ep7 11 = .pointer (some ⟨(blkOf (Ep7 11)), 0, none⟩) := Eq.mp (by kernel_rfl) q0y
     replace hS : St w0 w (cells (blkOf (Ep7 11)) 70 [.int .i64 0, .int .i64 0] :: l') := Eq.mp (by kernel_rfl) hS
     refine o_storeAgg (news := [.int .i64 q0m.Lo, .int .i64 q0m.Hi]) agg_70 q0y q1t rfl (by simp [over_length]) hS (fun w' hS => ?_)
     refine x_done <| ?_
     refine x_fin ⟨⟨undef, rfl⟩, trivial, ?_⟩
     exact Eq.mp (by kernel_rfl) hS
   intro Ep7 w' hE7 hF_ hS
   obtain ⟨q1l, q1m, q1q, q1n, q1o, q1p, q1r, q1s, q1t, q0y, -⟩ := hF_
   replace q1l : Ep7 78 = .pointer (some ⟨b4, 6, none⟩) := Eq.mp (by kernel_rfl) q1l
   replace q1m : Ep7 79 = .pointer (some ⟨b4, 9, none⟩) := Eq.mp (by kernel_rfl) q1m
   replace q1q : Ep7 80 = .slice q7 j0.Delays.Clock.length c_j0_9 := Eq.mp (by kernel_rfl) q1q
   replace q1n : Ep7 81 = .pointer (some ((adr q3).add (q5.toNat * R_timing_End.sz))) := Eq.mp (by kernel_rfl) q1n
   replace q1o : Ep7 82 = .pointer (some ((adr q3).add (q5.toNat * R_timing_End.sz))) := Eq.mp (by kernel_rfl) q1o
   replace q1p : Ep7 83 = .pointer (some (((adr q3).add (q5.toNat * R_timing_End.sz)).add 0)) := Eq.mp (by kernel_rfl) q1p
   replace q1r : Ep7 84 = .int .i64 q1k.Flop := Eq.mp (by kernel_rfl) q1r
   replace q1s : Ep7 85 = .pointer (some ((adr q7).add (q1k.Flop.toNat * R_tree_Window.sz))) := Eq.mp (by kernel_rfl) q1s
   replace q1t : Ep7 86 = .agg #[.int .i64 q0m.Lo, .int .i64 q0m.Hi] := Eq.mp (by kernel_rfl) q1t
   replace q0y : Ep7 11 = .pointer (some ⟨(blkOf (Ep7 11)), 0, none⟩) := Eq.mp (by kernel_rfl) q0y
   replace hS : St w0 w' (cells b4 58 [.slice q0d j0.Net.In.length c_j0_0, .slice q0e j0.Net.Out.length c_j0_1, .slice q4 j0.Net.Flops.length c_j0_2, .slice q0f j0.Net.Gates.length c_j0_3, .slice q0g j0.Net.Outs.length c_j0_4, .slice q6 j0.Lib.length c_j0_5, .slice q0j j0.Delays.Gates.length c_j0_6, .slice q0k j0.Delays.Data.length c_j0_7, .slice q0l j0.Delays.Outs.length c_j0_8, .slice q7 j0.Delays.Clock.length c_j0_9, .slice q0h j0.Delays.Launch.length c_j0_10, .int .i64 j0.Limits.Period, .slice q8 j0.Limits.Inputs.length c_j0_12, .slice q9 j0.Limits.Outputs.length c_j0_13, .slice q0a j0.Limits.Paths.length c_j0_14] :: vec 67 R_timing_End.sz (.slice q3 q0c.length c_e_1_s) q0c.length q0b :: ro ρ :: cells (blkOf (Ep7 11)) 70 [.int .i64 q0m.Lo, .int .i64 q0m.Hi] :: (cells (blkOf (Ep6 10)) 206 [.string q2.Name, .bool q2.Flop, .int .i64 q2.Ins, .int .u64 q2.Table, .int .i64 q2.Area, .slice (adOf (partOf 5 (Ep6 77))) q2.Cap.length (capOf (partOf 5 (Ep6 77))), .slice (adOf (partOf 6 (Ep6 77))) q2.Min.length (capOf (partOf 6 (Ep6 77))), .slice (adOf (partOf 7 (Ep6 77))) q2.Max.length (capOf (partOf 7 (Ep6 77))), .int .i64 q2.Drive, .int .i64 q2.Setup, .int .i64 q2.Hold] :: cells b7 145 [.bool a3.Known, .int .i64 a3.Early, .int .i64 a3.Late] :: l)) := Eq.mp (by kernel_rfl) hS
   replace hF := ar_s hF; obtain ⟨x93, hx93, hF⟩ := hF
   replace hF := ar_s hF; obtain ⟨x96, hx96, hF⟩ := hF
   replace hF := ar_s hF; obtain ⟨x99, hx99, hF⟩ := hF
   refine x_seq <| x_head 14 mixed (by kernel_rfl) hS _ _ rfl rfl <| q (yl_move ((hE7 1 rfl).trans (hE6 1 rfl))) <| q (yl_nilCheck rfl) <|
    q (yl_fieldAddr fld_67_2 rfl) <| q (yl_move ((hE7 9 rfl).trans (hE6 9 rfl))) <| q (yl_field0 fld_70_0 q0y) <| qa (fun w' hS => at_load one_3 rfl ((hS.pull 3).cell rfl)) <|
    q (yadd rfl rfl hx93) <| q (yl_field0 fld_206_9 ((hE7 10 rfl).trans q0r)) <| qa (fun w' hS => at_load one_3 rfl ((hS.pull 4).cell rfl)) <| q (ysub rfl rfl hx96) <|
    q (yl_field0 fld_145_2 ((hE7 7 rfl).trans (hE6 7 rfl))) <| qa (fun w' hS => at_load one_3 rfl ((hS.pull 5).cell rfl)) <| q (ysub rfl rfl hx99) <| q (yl_move ((hE7 2 rfl).trans (hE6 2 rfl))) <|
    q_done fun w' hS => ?_
   replace hF := bd_s hF; obtain ⟨q4b, q3i, hF⟩ := hF
   have hcall := c_timing_Slack_less q3i q0i q0n ((hS.pull 2).pull 2)
   refine o_cc call_120 (args3 rfl rfl rfl) hcall ?_
   rintro e w' ⟨q26, rfl, q0z, hS⟩
   refine ⟨_, rfl, ?_⟩
   replace hF := ar_s hF; obtain ⟨x109, hx109, hF⟩ := hF
   replace hF := ar_s hF; obtain ⟨x112, hx112, hF⟩ := hF
   replace hF := ar_s hF; obtain ⟨x113, hx113, hF⟩ := hF
   refine x_done <| x_head 13 mixed (by kernel_rfl) hS _ _ rfl rfl <| q (yl_move ((hE7 1 rfl).trans (hE6 1 rfl))) <| q (yl_nilCheck rfl) <|
    q (yl_fieldAddr fld_67_3 rfl) <| q (yl_field0 fld_145_1 ((hE7 7 rfl).trans (hE6 7 rfl))) <| qa (fun w' hS => at_load one_3 rfl ((hS.pull 5).cell rfl)) <| q (yl_field0 fld_70_1 q0y) <|
    qa (fun w' hS => at_load one_3 rfl ((hS.pull 3).cell rfl)) <| q (ysub rfl rfl hx109) <| q (yl_field0 fld_206_10 ((hE7 10 rfl).trans q0r)) <| qa (fun w' hS => at_load one_3 rfl ((hS.pull 4).cell rfl)) <|
    q (ysub rfl rfl hx112) <| q (ysub rfl rfl hx113) <| q (yl_move ((hE7 2 rfl).trans (hE6 2 rfl))) <|
    q_done fun w' hS => ?_
   replace hF := ck_s hF; obtain ⟨q3j, hF⟩ := hF
   replace hF := bd_s hF; obtain ⟨q4c, q3k, hF⟩ := hF
   have hcall := c_timing_Slack_less_2 q3k q0z q3j ((hS.pull 1).pull 1)
   refine o_cc call_120 (args3 rfl rfl rfl) hcall ?_
   rintro e w' ⟨q0u, rfl, q10, hS⟩
   refine ⟨_, rfl, ?_⟩
   refine x_done <| ?_
   have e_ := Option.some.inj (show some _ = some _ from hF); subst e_
   exact x_fin ⟨_, rfl, q0u, rfl, q10, ((((((hS.pull 2).drop.pull 2).drop.pull 2).drop.pull 2).drop.pull 1).pull 1)⟩
attribute [irreducible] P_timing_slacks

def P_timing_Report_L10 (j0 : T_timing_Job) (q8 : List T_timing_End) (q9 : List T_timing_Arrival) (q4 : Int) : (List T_timing_End × Int) → Option ((List T_timing_End × Int) ⊕ List T_timing_End) := fun (q3, q2) =>
 if q2 < (q8.length : Int) then
  ck (inb q2 q3.length) <|
  ck (inb q2 q3.length) <|
  lv (gt q3 q2) fun q7 =>
  bd (P_timing_End_in q7 j0 q9) fun q5 =>
  bd (P_timing_slacks j0 q3 q2 q4 q5) fun q6 =>
  ar (q2 + 1) fun x45 =>
  some (Sum.inl (q6, x45))
 else
  some (Sum.inr q3)
def P_timing_Report_L6 (j0 : T_timing_Job) (q5 : List T_timing_End) (q6 : Int) : (List T_timing_End × Int) → Option ((List T_timing_End × Int) ⊕ List T_timing_End) := fun (q3, q2) =>
 if q2 < q6 then
  bd (P_timing_from j0 ([q2] : List Int)) fun q7 =>
  bd (
   lp (P_timing_Report_L10 j0 q5 q7 q2) fuel (q3, 0)) fun q4 =>
  ar (q2 + 1) fun x46 =>
  some (Sum.inl (q4, x46))
 else
  some (Sum.inr q3)
def P_timing_Report (j0 : T_timing_Job) : Option (List T_timing_End × Int) :=
 bd (P_timing_Check j0) fun q3 =>
 if q3 ≠ 0 then
  some ([], q3)
 else
  bd (P_timing_Ends (T_api_Netlist.mk j0.Net.In j0.Net.Out j0.Net.Flops j0.Net.Gates j0.Net.Outs)) fun q4 =>
  bd (P_timing_Starts (T_api_Netlist.mk j0.Net.In j0.Net.Out j0.Net.Flops j0.Net.Gates j0.Net.Outs)) fun q5 =>
  bd (
   lp (P_timing_Report_L6 j0 q4 q5) fuel (q4, 0)) fun q2 =>
  some (q2, (0 : Int))
set_option maxHeartbeats 4000000 in
set_option maxRecDepth 100000 in
theorem c_timing_Report {w0 w : World} {l : List Assn} {ρ : Heap} {q4 : Option Addr} {q24 : Nat} {c_j0_0 : Nat} {q5 : Option Addr} {q25 : Nat} {c_j0_1 : Nat} {q6 : Option Addr} {q26 : Nat} {c_j0_2 : Nat} {q7 : Option Addr} {q27 : Nat} {c_j0_3 : Nat} {q8 : Option Addr} {q28 : Nat} {c_j0_4 : Nat} {q0e : Option Addr} {q29 : Nat} {c_j0_5 : Nat} {q0f : Option Addr} {q2a : Nat} {c_j0_6 : Nat} {q0g : Option Addr} {q2b : Nat} {c_j0_7 : Nat} {q0h : Option Addr} {q2c : Nat} {c_j0_8 : Nat} {q0i : Option Addr} {q2d : Nat} {c_j0_9 : Nat} {q9 : Option Addr} {q1w : Nat} {c_j0_10 : Nat} {q0a : Option Addr} {q1x : Nat} {c_j0_12 : Nat} {q0b : Option Addr} {q1y : Nat} {c_j0_13 : Nat} {q0c : Option Addr} {q1z : Nat} {c_j0_14 : Nat} {j0 : T_timing_Job} {r : (List T_timing_End × Int)} (hF : P_timing_Report j0 = some r) (q0p : RdS RpS ρ q4 q24 c_j0_0 j0.Net.In) (q0q : RdS RpS ρ q5 q25 c_j0_1 j0.Net.Out) (q0r : RdS R_api_Flop ρ q6 q26 c_j0_2 j0.Net.Flops) (q0s : RdS R_api_Gate ρ q7 q27 c_j0_3 j0.Net.Gates) (q0t : RdS (RpI .i64) ρ q8 q28 c_j0_4 j0.Net.Outs) (q16 : RdS R_api_Cell ρ q0e q29 c_j0_5 j0.Lib) (q17 : RdS (RpSl R_tree_Window) ρ q0f q2a c_j0_6 j0.Delays.Gates) (q18 : RdS (RpSl R_tree_Window) ρ q0g q2b c_j0_7 j0.Delays.Data) (q19 : RdS R_tree_Window ρ q0h q2c c_j0_8 j0.Delays.Outs) (q1a : RdS R_tree_Window ρ q0i q2d c_j0_9 j0.Delays.Clock) (q0x : RdS R_tree_Window ρ q9 q1w c_j0_10 j0.Delays.Launch) (q0y : RdS R_clocks_Input ρ q0a q1x c_j0_12 j0.Limits.Inputs) (q0z : RdS R_clocks_Output ρ q0b q1y c_j0_13 j0.Limits.Outputs) (q10 : RdS R_clocks_Path ρ q0c q1z c_j0_14 j0.Limits.Paths) (hS : St w0 w (ro ρ :: l)) :
  Calls Tryd.prog 19 #[.agg #[.slice q4 q24 c_j0_0, .slice q5 q25 c_j0_1, .slice q6 q26 c_j0_2, .slice q7 q27 c_j0_3, .slice q8 q28 c_j0_4, .slice q0e q29 c_j0_5, .slice q0f q2a c_j0_6, .slice q0g q2b c_j0_7, .slice q0h q2c c_j0_8, .slice q0i q2d c_j0_9, .slice q9 q1w c_j0_10, .int .i64 j0.Limits.Period, .slice q0a q1x c_j0_12, .slice q0b q1y c_j0_13, .slice q0c q1z c_j0_14]] w fun e w' => ∃ (q1n : Option Addr) (q1f : Nat) (c_y0_ret : Nat) (q1k : List Value), e = .returned (.tuple #[.slice q1n q1f c_y0_ret, .int .i64 r.2]) ∧ RepL R_timing_End ρ r.1 q1k ∧ St w0 w' (vec 67 R_timing_End.sz (.slice q1n q1f c_y0_ret) q1f q1k :: ro ρ :: l) := by
 have e_ := q0p.n; subst e_
 have e_ := q0q.n; subst e_
 have e_ := q0r.n; subst e_
 have e_ := q0s.n; subst e_
 have e_ := q0t.n; subst e_
 have e_ := q16.n; subst e_
 have e_ := q17.n; subst e_
 have e_ := q18.n; subst e_
 have e_ := q19.n; subst e_
 have e_ := q1a.n; subst e_
 have e_ := q0x.n; subst e_
 have e_ := q0y.n; subst e_
 have e_ := q0z.n; subst e_
 have e_ := q10.n; subst e_
 refine enterC Tryd.func19 rfl 48 rfl (by simp) ?_
 refine x_seq <| x_region <| ?_
 refine o_box (cs := [.slice q4 j0.Net.In.length c_j0_0, .slice q5 j0.Net.Out.length c_j0_1, .slice q6 j0.Net.Flops.length c_j0_2, .slice q7 j0.Net.Gates.length c_j0_3, .slice q8 j0.Net.Outs.length c_j0_4, .slice q0e j0.Lib.length c_j0_5, .slice q0f j0.Delays.Gates.length c_j0_6, .slice q0g j0.Delays.Data.length c_j0_7, .slice q0h j0.Delays.Outs.length c_j0_8, .slice q0i j0.Delays.Clock.length c_j0_9, .slice q9 j0.Delays.Launch.length c_j0_10, .int .i64 j0.Limits.Period, .slice q0a j0.Limits.Inputs.length c_j0_12, .slice q0b j0.Limits.Outputs.length c_j0_13, .slice q0c j0.Limits.Paths.length c_j0_14]) rfl rfl hS (fun b1 w' hS => ?_)
 replace hF := bd_s hF; obtain ⟨q1o, q2u, hF⟩ := hF
 refine p (yl_assign rfl) <| p (yl_assign rfl) <| x_done <| x_seq <|
  x_seq <| x_region <| pa (v := .agg #[.slice q4 j0.Net.In.length c_j0_0, .slice q5 j0.Net.Out.length c_j0_1, .slice q6 j0.Net.Flops.length c_j0_2, .slice q7 j0.Net.Gates.length c_j0_3, .slice q8 j0.Net.Outs.length c_j0_4, .slice q0e j0.Lib.length c_j0_5, .slice q0f j0.Delays.Gates.length c_j0_6, .slice q0g j0.Delays.Data.length c_j0_7, .slice q0h j0.Delays.Outs.length c_j0_8, .slice q0i j0.Delays.Clock.length c_j0_9, .slice q9 j0.Delays.Launch.length c_j0_10, .int .i64 j0.Limits.Period, .slice q0a j0.Limits.Inputs.length c_j0_12, .slice q0b j0.Limits.Outputs.length c_j0_13, .slice q0c j0.Limits.Paths.length c_j0_14]) (ld_sub agg_58 rfl rfl rfl hS) <| ?_
 have hcall := c_timing_Check q2u q0p q0q q0r q0s q0t q16 q17 q18 q19 q1a q0x q0y q0z q10 (hS.pull 1)
 refine o_cc call_58 (args1 rfl) ((Calls.mono hcall (fun e w'' h => And.intro h.1 (h.2.pull 1)))) ?_
 rintro e w' ⟨rfl, hS⟩
 refine ⟨_, rfl, ?_⟩
 refine p (v := .int .i64 q1o) (yl_assign rfl) <| x_done <| x_seq <| x_region <|
  p (v := .int .i64 q1o) (yl_move rfl) <| p (yl_neq rfl rfl) <| x_done <|
  x_cond_p (q1o ≠ 0) rfl (fun hc12 => ?_) (fun hc12 => ?_)
 ·replace hF := it_t hc12 hF
  refine x_seq <| x_region <| p (v := .int .i64 q1o) (yl_move rfl) <| p (yl_assign rfl) <|
   p (v := .int .i64 q1o) (yl_assign rfl) <| x_done <| ?_
  replace hS := St.vec_nil hS 67 R_timing_End.sz
  have q1l : RepL R_timing_End ρ [] [] := rfl
  have e_ := Option.some.inj (show some _ = some _ from hF); subst e_
  exact x_return ⟨_, ⟨_, _, rfl, rfl, _, _, rfl, rfl, rfl⟩, none, 0, 0, [], rfl, q1l, (((hS.pull 1).drop.pull 1).pull 1)⟩
 ·replace hF := it_f hc12 hF
  replace hF := bd_s hF; obtain ⟨q0d, q2v, hF⟩ := hF
  refine x_skip <| x_seq <| x_region <| p (yl_field0 fld_58_0 rfl) <|
   pa (v := .agg #[.slice q4 j0.Net.In.length c_j0_0, .slice q5 j0.Net.Out.length c_j0_1, .slice q6 j0.Net.Flops.length c_j0_2, .slice q7 j0.Net.Gates.length c_j0_3, .slice q8 j0.Net.Outs.length c_j0_4]) (ld_sub agg_30 rfl rfl rfl hS) <| ?_
  have hcall := c_timing_Ends q2v q0p q0q q0r q0s q0t (hS.pull 1)
  refine o_cc call_59 (args1 rfl) hcall ?_
  rintro e w' ⟨q2, q2n, c_y0_ret_4_2, q1m, rfl, q1b, hS⟩
  refine ⟨_, rfl, ?_⟩
  have e_ := St.vec_n hS q1b; subst e_
  replace hF := bd_s hF; obtain ⟨q1p, q2w, hF⟩ := hF
  refine p (yl_assign rfl) <| x_done <| x_seq <| x_seq <|
   x_region <| p (yl_field0 fld_58_0 rfl) <| pa (v := .agg #[.slice q4 j0.Net.In.length c_j0_0, .slice q5 j0.Net.Out.length c_j0_1, .slice q6 j0.Net.Flops.length c_j0_2, .slice q7 j0.Net.Gates.length c_j0_3, .slice q8 j0.Net.Outs.length c_j0_4]) (ld_sub agg_30 rfl rfl rfl (hS.pull 2)) <| ?_
  have hcall := c_timing_Starts q2w q0p q0q q0r q0s q0t (hS.pull 1)
  refine o_cc call_60 (args1 rfl) ((Calls.mono hcall (fun e w'' h => And.intro h.1 (((h.2.pull 2).pull 1).pull 2)))) ?_
  rintro e w' ⟨rfl, hS⟩
  refine ⟨_, rfl, ?_⟩
  refine p (yl_move rfl) <| x_done <| ?_
  replace hF := bd_s hF; obtain ⟨oL6, hLL6, hF⟩ := hF
  refine x_join (fun E w => ∃ (q0o : List Value) (q1i : List T_timing_End), q1i = oL6 ∧ E 5 = .slice q2 q0d.length c_y0_ret_4_2 ∧ RepL R_timing_End ρ q1i q0o ∧ St w0 w (vec 67 R_timing_End.sz (.slice q2 q0d.length c_y0_ret_4_2) q0d.length q0o :: ro ρ :: l)) ?_ ?_
  ·refine x_block ?_
   refine x_loop (fun k_ E w => ∃ (q0j : List Value) (q0u : List T_timing_End) (q3 : Int), lp (P_timing_Report_L6 j0 q0d q1p) k_ (q0u, q3) = some oL6 ∧ E 1 = .pointer (some ⟨b1, 0, none⟩) ∧ E 5 = .slice q2 q0d.length c_y0_ret_4_2 ∧ E 19 = .int .i64 q1p ∧ E 20 = .int .i64 q3 ∧ RepL R_timing_End ρ q0u q0j ∧ St w0 w (cells b1 58 [.slice q4 j0.Net.In.length c_j0_0, .slice q5 j0.Net.Out.length c_j0_1, .slice q6 j0.Net.Flops.length c_j0_2, .slice q7 j0.Net.Gates.length c_j0_3, .slice q8 j0.Net.Outs.length c_j0_4, .slice q0e j0.Lib.length c_j0_5, .slice q0f j0.Delays.Gates.length c_j0_6, .slice q0g j0.Delays.Data.length c_j0_7, .slice q0h j0.Delays.Outs.length c_j0_8, .slice q0i j0.Delays.Clock.length c_j0_9, .slice q9 j0.Delays.Launch.length c_j0_10, .int .i64 j0.Limits.Period, .slice q0a j0.Limits.Inputs.length c_j0_12, .slice q0b j0.Limits.Outputs.length c_j0_13, .slice q0c j0.Limits.Paths.length c_j0_14] :: vec 67 R_timing_End.sz (.slice q2 q0d.length c_y0_ret_4_2) q0d.length q0j :: ro ρ :: l)) fuel ⟨q1m, q0d, 0, hLL6, rfl, rfl, rfl, rfl, q1b, (((hS.pull 1).pull 1).pull 2)⟩ ?_
   rintro kL6 E w ⟨q0j, q0u, q3, hLL6, q2e, q1q, q20, q1j, q1h, hS⟩
   replace hLL6 := lp_s hLL6; obtain ⟨kL6, obL6, rfl, hFL6, hLL6⟩ := hLL6
   refine x_seq <| x_region <| p (yl_lss q1j q20) <| x_done <|
    x_seq <|
    x_cond_p (q3 < q1p) rfl (fun hc21 => ?_) (fun hc21 => ?_)
   ·replace hFL6 := it_t hc21 hFL6
    refine x_skip <| x_seq <| x_block <| x_seq <|
     x_region <| p (yl_move q1j) <| p (yl_assign rfl) <| x_done <|
     x_seq <| x_region <| pa (v := .agg #[.slice q4 j0.Net.In.length c_j0_0, .slice q5 j0.Net.Out.length c_j0_1, .slice q6 j0.Net.Flops.length c_j0_2, .slice q7 j0.Net.Gates.length c_j0_3, .slice q8 j0.Net.Outs.length c_j0_4, .slice q0e j0.Lib.length c_j0_5, .slice q0f j0.Delays.Gates.length c_j0_6, .slice q0g j0.Delays.Data.length c_j0_7, .slice q0h j0.Delays.Outs.length c_j0_8, .slice q0i j0.Delays.Clock.length c_j0_9, .slice q9 j0.Delays.Launch.length c_j0_10, .int .i64 j0.Limits.Period, .slice q0a j0.Limits.Inputs.length c_j0_12, .slice q0b j0.Limits.Outputs.length c_j0_13, .slice q0c j0.Limits.Paths.length c_j0_14]) (ld_sub agg_58 q2e rfl rfl hS) <| p (yl_move rfl) <| ?_
    refine o_buildSlice (vs := [.int .i64 q3]) (cs := [.int .i64 q3]) sl_22 zero_3 (parts_eq (pt (va := .int .i64 q3) rfl pt0)) rfl (by intro v hv; simp only [List.mem_cons, List.not_mem_nil, or_false] at hv; first | (subst hv; rfl) | (rcases hv with rfl <;> rfl)) (by decide) rfl hS (fun b25 w' hS => ?_)
    have q2x : RepL (RpI .i64) ρ ([q3] : List Int) [.int .i64 q3] := (RepL.cons (cs := [.int .i64 q3]) rfl RepL.nil)
    replace hS := St.vec_of (n := 1) (sz := (RpI .i64).sz) hS rfl (by decide)
    replace hFL6 := bd_s hFL6; obtain ⟨q1r, q2y, hFL6⟩ := hFL6
    have q_ := St.lend ((hS.pull 3).pull 1) q2x; obtain ⟨ρl0, hll0, hlf0, hS0, back0⟩ := q_
    have hcall := c_timing_from q2y (q0p.le hll0) (q0q.le hll0) (q0r.le hll0) (q0s.le hll0) (q0t.le hll0) (q16.le hll0) (q17.le hll0) (q18.le hll0) (q19.le hll0) (q1a.le hll0) (q0x.le hll0) (q0y.le hll0) (q0z.le hll0) (q10.le hll0) hlf0 hS0
    refine o_cc call_61 (args2 rfl rfl) hcall ?_
    rintro e w' ⟨q1c, q2o, c_y0_ret_8_3, q15, rfl, q0l, hS⟩
    refine ⟨_, rfl, ?_⟩
    replace hS := back0 (hS.pull 1)
    replace q0l : RepL R_timing_Arrival ρ q1r q15 := RepL.flat (fun h => h) q0l
    have e_ := St.vec_n (hS.pull 2) q0l; subst e_
    refine p (yl_assign rfl) <| x_done <| x_seq <| x_region <|
     p (yl_move q1q) <| p (yl_len_slice usl_61 rfl) <| p (yl_move rfl) <| x_done <| ?_
    replace hFL6 := bd_s hFL6; obtain ⟨oL10, hLL10, hFL6⟩ := hFL6
    refine x_join (fun E w => ∃ (q0n : List Value) (q12 : List T_timing_End), q12 = oL10 ∧ E 1 = .pointer (some ⟨b1, 0, none⟩) ∧ E 5 = .slice q2 q0d.length c_y0_ret_4_2 ∧ E 19 = .int .i64 q1p ∧ E 20 = .int .i64 q3 ∧ RepL R_timing_End ρ q12 q0n ∧ St w0 w (cells b1 58 [.slice q4 j0.Net.In.length c_j0_0, .slice q5 j0.Net.Out.length c_j0_1, .slice q6 j0.Net.Flops.length c_j0_2, .slice q7 j0.Net.Gates.length c_j0_3, .slice q8 j0.Net.Outs.length c_j0_4, .slice q0e j0.Lib.length c_j0_5, .slice q0f j0.Delays.Gates.length c_j0_6, .slice q0g j0.Delays.Data.length c_j0_7, .slice q0h j0.Delays.Outs.length c_j0_8, .slice q0i j0.Delays.Clock.length c_j0_9, .slice q9 j0.Delays.Launch.length c_j0_10, .int .i64 j0.Limits.Period, .slice q0a j0.Limits.Inputs.length c_j0_12, .slice q0b j0.Limits.Outputs.length c_j0_13, .slice q0c j0.Limits.Paths.length c_j0_14] :: vec 67 R_timing_End.sz (.slice q2 q0d.length c_y0_ret_4_2) q0d.length q0n :: ro ρ :: l)) ?_ ?_
    ·refine x_block ?_
     refine x_loop (fun k_ E w => ∃ (q0m : List Value) (q0v : List T_timing_End) (q13 : Int), lp (P_timing_Report_L10 j0 q0d q1r q3) k_ (q0v, q13) = some oL10 ∧ E 1 = .pointer (some ⟨b1, 0, none⟩) ∧ E 5 = .slice q2 q0d.length c_y0_ret_4_2 ∧ E 6 = .int .i64 q3 ∧ E 7 = .slice q1c q1r.length c_y0_ret_8_3 ∧ E 19 = .int .i64 q1p ∧ E 20 = .int .i64 q3 ∧ E 28 = .int .i64 (q0d.length : Int) ∧ E 29 = .int .i64 q13 ∧ RepL R_timing_End ρ q0v q0m ∧ St w0 w (cells b1 58 [.slice q4 j0.Net.In.length c_j0_0, .slice q5 j0.Net.Out.length c_j0_1, .slice q6 j0.Net.Flops.length c_j0_2, .slice q7 j0.Net.Gates.length c_j0_3, .slice q8 j0.Net.Outs.length c_j0_4, .slice q0e j0.Lib.length c_j0_5, .slice q0f j0.Delays.Gates.length c_j0_6, .slice q0g j0.Delays.Data.length c_j0_7, .slice q0h j0.Delays.Outs.length c_j0_8, .slice q0i j0.Delays.Clock.length c_j0_9, .slice q9 j0.Delays.Launch.length c_j0_10, .int .i64 j0.Limits.Period, .slice q0a j0.Limits.Inputs.length c_j0_12, .slice q0b j0.Limits.Outputs.length c_j0_13, .slice q0c j0.Limits.Paths.length c_j0_14] :: vec 67 R_timing_End.sz (.slice q2 q0d.length c_y0_ret_4_2) q0d.length q0m :: vec 145 R_timing_Arrival.sz (.slice q1c q1r.length c_y0_ret_8_3) q1r.length q15 :: ro ρ :: l)) fuel ⟨q0j, q0u, 0, hLL10, q2e, q1q, rfl, rfl, q20, q1j, rfl, rfl, q1h, (((hS.drop.pull 1).pull 3).pull 3)⟩ ?_
     rintro kL10 E w ⟨q0m, q0v, q13, hLL10, q1d, q1e, q21, q22, q1s, q1t, q1u, q1g, q0k, hS⟩
     replace hLL10 := lp_s hLL10; obtain ⟨kL10, obL10, rfl, hFL10, hLL10⟩ := hLL10
     refine x_seq <| x_region <| p (yl_lss q1g q1u) <| x_done <|
      x_seq <|
      x_cond_p (q13 < (q0d.length : Int)) rfl (fun hc30 => ?_) (fun hc30 => ?_)
     ·replace hFL10 := it_t hc30 hFL10
      replace hFL10 := ck_s hFL10; obtain ⟨q2f, hFL10⟩ := hFL10
      replace hFL10 := ck_s hFL10; obtain ⟨q2g, hFL10⟩ := hFL10
      replace hFL10 := lv_s hFL10; obtain ⟨q0w, q2p, hFL10⟩ := hFL10
      have q_ := q0k.get q2g; obtain ⟨q30, q2h, q2q⟩ := q_
      rw [← q2p] at q2h
      have e_ := q2h; subst e_
      replace hFL10 := bd_s hFL10; obtain ⟨q1v, q2j, hFL10⟩ := hFL10
      refine x_skip <| x_seq <| x_block <| x_seq <|
       x_region <| p (yl_move q1g) <| p (yl_assign rfl) <| x_done <|
       x_head 12 mixed (by kernel_rfl) hS _ _ rfl rfl <| qa (v := .agg #[.slice q4 j0.Net.In.length c_j0_0, .slice q5 j0.Net.Out.length c_j0_1, .slice q6 j0.Net.Flops.length c_j0_2, .slice q7 j0.Net.Gates.length c_j0_3, .slice q8 j0.Net.Outs.length c_j0_4, .slice q0e j0.Lib.length c_j0_5, .slice q0f j0.Delays.Gates.length c_j0_6, .slice q0g j0.Delays.Data.length c_j0_7, .slice q0h j0.Delays.Outs.length c_j0_8, .slice q0i j0.Delays.Clock.length c_j0_9, .slice q9 j0.Delays.Launch.length c_j0_10, .int .i64 j0.Limits.Period, .slice q0a j0.Limits.Inputs.length c_j0_12, .slice q0b j0.Limits.Outputs.length c_j0_13, .slice q0c j0.Limits.Paths.length c_j0_14]) (fun w' hS => ld_sub agg_58 q1d rfl rfl hS) <| q (yl_move q1e) <| q (yl_move rfl) <|
       q (yix_o sl_61 rfl rfl (hS.pull 1) q0k q2f) <| q (yl_move q21) <| q (yl_move q1e) <| q (yl_move rfl) <|
       q (yix_o sl_61 rfl rfl (hS.pull 1) q0k q2g) <| qa (v := .agg #[.int .i64 q0w.Flop, .int .i64 q0w.Input, .bool q0w.Setup.Known, .int .i64 q0w.Setup.Value, .int .i64 q0w.Setup.From, .bool q0w.Hold.Known, .int .i64 q0w.Hold.Value, .int .i64 q0w.Hold.From]) (fun w' hS => at_loadAgg agg_67 rfl rfl (EltV.every q2q (hS.pull 1))) <| qa (v := .agg #[.slice q4 j0.Net.In.length c_j0_0, .slice q5 j0.Net.Out.length c_j0_1, .slice q6 j0.Net.Flops.length c_j0_2, .slice q7 j0.Net.Gates.length c_j0_3, .slice q8 j0.Net.Outs.length c_j0_4, .slice q0e j0.Lib.length c_j0_5, .slice q0f j0.Delays.Gates.length c_j0_6, .slice q0g j0.Delays.Data.length c_j0_7, .slice q0h j0.Delays.Outs.length c_j0_8, .slice q0i j0.Delays.Clock.length c_j0_9, .slice q9 j0.Delays.Launch.length c_j0_10, .int .i64 j0.Limits.Period, .slice q0a j0.Limits.Inputs.length c_j0_12, .slice q0b j0.Limits.Outputs.length c_j0_13, .slice q0c j0.Limits.Paths.length c_j0_14]) (fun w' hS => ld_sub agg_58 q1d rfl rfl hS) <| q (yl_move q22) <|
       qcc (v := .agg #[.bool q1v.Known, .int .i64 q1v.Early, .int .i64 q1v.Late]) call_63 (args3 rfl rfl rfl) (fun w' hS => by
        have q_ := St.lend ((hS.pull 3).pull 3) q0l; obtain ⟨ρl0, hll0, hlf0, hS0, back0⟩ := q_
        have hcall := c_timing_End_in q2j (q0p.le hll0) (q0q.le hll0) (q0r.le hll0) (q0s.le hll0) (q0t.le hll0) (q16.le hll0) (q17.le hll0) (q18.le hll0) (q19.le hll0) (q1a.le hll0) (q0x.le hll0) (q0y.le hll0) (q0z.le hll0) (q10.le hll0) hlf0 hS0
        exact (Calls.mono hcall (fun e w'' h => And.intro h.1 (((((back0 h.2).pull 1).pull 1).pull 3).pull 3)))) <|
       q_done fun w' hS => ?_
      replace hFL10 := bd_s hFL10; obtain ⟨q2r, q2k, hFL10⟩ := hFL10
      have hcall := c_timing_slacks q2k q0p q0q q0r q0s q0t q16 q17 q18 q19 q1a q0x q0y q0z q10 q0k q2f ((hS.pull 3).pull 2)
      refine o_cc call_62 (args4 rfl rfl rfl rfl) hcall ?_
      rintro e w' ⟨q11, rfl, q14, hS⟩
      refine ⟨_, rfl, ?_⟩
      replace hFL10 := ar_s hFL10; obtain ⟨x45, hx45, hFL10⟩ := hFL10
      refine x_done <| x_blk <| x_region <| p (yadd q1g rfl hx45) <|
       p (yl_move rfl) <| x_done <| ?_
      have e_ := Option.some.inj (show some _ = some _ from hFL10); subst e_
      exact x_inv ⟨kL10, Nat.lt_succ_self _, q11, q2r, x45, hLL10, q1d, q1e, q21, q22, q1s, q1t, q1u, rfl, q14, ((((hS.pull 1).pull 3).pull 2).pull 3)⟩
     ·replace hFL10 := it_f hc30 hFL10
      refine x_exitTo _ rfl <| ?_
      have e_ := Option.some.inj (show some _ = some _ from hFL10); subst e_
      exact x_inv ⟨q0m, q0v, hLL10, q1d, q1e, q1s, q1t, q0k, ((((hS.pull 2).drop.pull 2).pull 2).pull 2)⟩
    rintro E w ⟨q0n, q12, rfl, q2s, q2t, q2l, q2m, q23, hS⟩
    replace hFL6 := ar_s hFL6; obtain ⟨x46, hx46, hFL6⟩ := hFL6
    refine x_blk <| x_region <| p (yadd q2m rfl hx46) <| p (yl_move rfl) <|
     x_done <| ?_
    have e_ := Option.some.inj (show some _ = some _ from hFL6); subst e_
    exact x_inv ⟨kL6, Nat.lt_succ_self _, q0n, q12, x46, hLL6, q2s, q2t, q2l, rfl, q23, (((hS.pull 2).pull 2).pull 2)⟩
   ·replace hFL6 := it_f hc21 hFL6
    refine x_exitTo _ rfl <| ?_
    have e_ := Option.some.inj (show some _ = some _ from hFL6); subst e_
    exact x_inv ⟨q0j, q0u, hLL6, q1q, q1h, ((hS.drop.pull 1).pull 1)⟩
  rintro E w ⟨q0o, q1i, rfl, q2z, q2i, hS⟩
  refine x_seq <| x_region <| p (yl_move q2z) <| p (yl_assign rfl) <|
   p (yl_assign rfl) <| x_done <| ?_
  have e_ := Option.some.inj (show some _ = some _ from hF); subst e_
  exact x_return ⟨_, ⟨_, _, rfl, rfl, _, _, rfl, rfl, rfl⟩, q2, q0d.length, c_y0_ret_4_2, q0o, rfl, q2i, ((hS.pull 1).pull 1)⟩
attribute [irreducible] P_timing_Report

def P_maskkeep4_times : Option Bool :=
 bd (P_timing_Report (T_timing_Job.mk (T_api_Netlist.mk ([(⟨#[97]⟩ : ByteArray)] : List ByteArray) ([(⟨#[98]⟩ : ByteArray)] : List ByteArray) [] [] ([2] : List Int)) [] (T_delay_Delays.mk [] [] ([(T_tree_Window.mk 3 4)] : List T_tree_Window) [] []) (T_clocks_Limits.mk 9 [] [] []))) fun q2 =>
 lv ((decide (q2.2 = 0)) && (decide ((q2.1.length : Int) = 1))) fun x26 =>
 ck (x26 = true → inb 0 q2.1.length) <|
 lv (x26 && (decide (((gt q2.1 (0 : Int)).Setup.Value) = 4))) fun x34 =>
 some x34
set_option maxHeartbeats 4000000 in
set_option maxRecDepth 100000 in
theorem c_maskkeep4_times {w0 w : World} {l : List Assn} {ρ : Heap} {r : Bool} (hF : P_maskkeep4_times = some r) (hS : St w0 w (ro ρ :: l)) :
  Calls Tryd.prog 20 #[] w fun e w' => e = .returned (.bool r) ∧ St w0 w' (ro ρ :: l) := by
 refine enterC Tryd.func20 rfl 35 rfl (by simp) ?_
 refine x_seq <| x_region <| p (yl_assign rfl) <| x_done <|
  x_seq <| x_region <| ?_
 refine o_buildSlice (vs := [.string (⟨#[97]⟩ : ByteArray)]) (cs := [.string (⟨#[97]⟩ : ByteArray)]) sl_26 zero_9 (parts_eq (pt (va := .string (⟨#[97]⟩ : ByteArray)) rfl pt0)) rfl (by intro v hv; simp only [List.mem_cons, List.not_mem_nil, or_false] at hv; first | (subst hv; rfl) | (rcases hv with rfl <;> rfl)) (by decide) rfl hS (fun b5 w' hS => ?_)
 refine o_buildSlice (vs := [.string (⟨#[98]⟩ : ByteArray)]) (cs := [.string (⟨#[98]⟩ : ByteArray)]) sl_26 zero_9 (parts_eq (pt (va := .string (⟨#[98]⟩ : ByteArray)) rfl pt0)) rfl (by intro v hv; simp only [List.mem_cons, List.not_mem_nil, or_false] at hv; first | (subst hv; rfl) | (rcases hv with rfl <;> rfl)) (by decide) rfl hS (fun b6 w' hS => ?_)
 refine o_buildSlice (vs := [.int .i64 2]) (cs := [.int .i64 2]) sl_22 zero_3 (parts_eq (pt (va := .int .i64 2) rfl pt0)) rfl (by intro v hv; simp only [List.mem_cons, List.not_mem_nil, or_false] at hv; first | (subst hv; rfl) | (rcases hv with rfl <;> rfl)) (by decide) rfl hS (fun b7 w' hS => ?_)
 refine p (v := .agg #[.slice (some ⟨b5, 0, none⟩) 1 1, .slice (some ⟨b6, 0, none⟩) 1 1, .slice none 0 0, .slice none 0 0, .slice (some ⟨b7, 0, none⟩) 1 1]) (yl_build bld_30 bldf_30 (parts_eq (pt (va := .slice (some ⟨b5, 0, none⟩) 1 1) rfl (pt (va := .slice (some ⟨b6, 0, none⟩) 1 1) rfl (pt (va := .slice (some ⟨b7, 0, none⟩) 1 1) rfl pt0)))) (by kernel_rfl)) <| ?_
 refine o_alloc zero_30 hS (fun b1 w' hS => ?_)
 refine o_storeAgg (news := [.slice (some ⟨b5, 0, none⟩) 1 1, .slice (some ⟨b6, 0, none⟩) 1 1, .slice none 0 0, .slice none 0 0, .slice (some ⟨b7, 0, none⟩) 1 1]) agg_30 rfl rfl rfl (by simp [over_length]) hS (fun w' hS => ?_)
 refine x_done <| x_seq <| x_region <| pa (v := .agg #[.slice (some ⟨b5, 0, none⟩) 1 1, .slice (some ⟨b6, 0, none⟩) 1 1, .slice none 0 0, .slice none 0 0, .slice (some ⟨b7, 0, none⟩) 1 1]) (ld_sub agg_30 rfl rfl rfl hS) <|
  p (v := .agg #[.int .i64 3, .int .i64 4]) (yl_build bld_70 bldf_70 (parts_eq (pt (va := .int .i64 3) rfl (pt (va := .int .i64 4) rfl pt0))) (by kernel_rfl)) <| ?_
 refine o_buildSlice (vs := [.agg #[.int .i64 3, .int .i64 4]]) (cs := [.int .i64 3, .int .i64 4]) sl_49 zero_70 (parts_eq (pt (va := .agg #[.int .i64 3, .int .i64 4]) rfl pt0)) rfl (by intro v hv; simp only [List.mem_cons, List.not_mem_nil, or_false] at hv; first | (subst hv; rfl) | (rcases hv with rfl <;> rfl)) (by decide) rfl hS (fun b11 w' hS => ?_)
 refine p (v := .agg #[.slice none 0 0, .slice none 0 0, .slice (some ⟨b11, 0, none⟩) 1 1, .slice none 0 0, .slice none 0 0]) (yl_build bld_51 bldf_51 (parts_eq (pt (va := .slice (some ⟨b11, 0, none⟩) 1 1) rfl pt0)) (by kernel_rfl)) <| p (v := .agg #[.int .i64 9, .slice none 0 0, .slice none 0 0, .slice none 0 0]) (yl_build bld_56 bldf_56 (parts_eq (pt (va := .int .i64 9) rfl pt0)) (by kernel_rfl)) <| p (v := .agg #[.slice (some ⟨b5, 0, none⟩) 1 1, .slice (some ⟨b6, 0, none⟩) 1 1, .slice none 0 0, .slice none 0 0, .slice (some ⟨b7, 0, none⟩) 1 1, .slice none 0 0, .slice none 0 0, .slice none 0 0, .slice (some ⟨b11, 0, none⟩) 1 1, .slice none 0 0, .slice none 0 0, .int .i64 9, .slice none 0 0, .slice none 0 0, .slice none 0 0]) (yl_build bld_58 bldf_58 (parts_eq (pt (va := .agg #[.slice (some ⟨b5, 0, none⟩) 1 1, .slice (some ⟨b6, 0, none⟩) 1 1, .slice none 0 0, .slice none 0 0, .slice (some ⟨b7, 0, none⟩) 1 1]) rfl (pt (va := .agg #[.slice none 0 0, .slice none 0 0, .slice (some ⟨b11, 0, none⟩) 1 1, .slice none 0 0, .slice none 0 0]) rfl (pt (va := .agg #[.int .i64 9, .slice none 0 0, .slice none 0 0, .slice none 0 0]) rfl pt0)))) (by kernel_rfl)) <| ?_
 refine o_alloc zero_58 hS (fun b2 w' hS => ?_)
 refine o_storeAgg (news := [.slice (some ⟨b5, 0, none⟩) 1 1, .slice (some ⟨b6, 0, none⟩) 1 1, .slice none 0 0, .slice none 0 0, .slice (some ⟨b7, 0, none⟩) 1 1, .slice none 0 0, .slice none 0 0, .slice none 0 0, .slice (some ⟨b11, 0, none⟩) 1 1, .slice none 0 0, .slice none 0 0, .int .i64 9, .slice none 0 0, .slice none 0 0, .slice none 0 0]) agg_58 rfl rfl rfl (by simp [over_length]) hS (fun w' hS => ?_)
 refine x_done <| x_seq <| x_region <| pa (v := .agg #[.slice (some ⟨b5, 0, none⟩) 1 1, .slice (some ⟨b6, 0, none⟩) 1 1, .slice none 0 0, .slice none 0 0, .slice (some ⟨b7, 0, none⟩) 1 1, .slice none 0 0, .slice none 0 0, .slice none 0 0, .slice (some ⟨b11, 0, none⟩) 1 1, .slice none 0 0, .slice none 0 0, .int .i64 9, .slice none 0 0, .slice none 0 0, .slice none 0 0]) (ld_sub agg_58 rfl rfl rfl hS) <| ?_
 have q0b : RepL RpS ρ ([(⟨#[97]⟩ : ByteArray)] : List ByteArray) [.string (⟨#[97]⟩ : ByteArray)] := (RepL.cons (cs := [.string (⟨#[97]⟩ : ByteArray)]) rfl RepL.nil)
 replace hS := St.vec_of (n := 1) (sz := RpS.sz) (hS.pull 5) rfl (by decide)
 have q7 : RepL RpS ρ ([(⟨#[98]⟩ : ByteArray)] : List ByteArray) [.string (⟨#[98]⟩ : ByteArray)] := (RepL.cons (cs := [.string (⟨#[98]⟩ : ByteArray)]) rfl RepL.nil)
 replace hS := St.vec_of (n := 1) (sz := RpS.sz) (hS.pull 5) rfl (by decide)
 have q8 : RepL (RpI .i64) ρ ([2] : List Int) [.int .i64 2] := (RepL.cons (cs := [.int .i64 2]) rfl RepL.nil)
 replace hS := St.vec_of (n := 1) (sz := (RpI .i64).sz) (hS.pull 5) rfl (by decide)
 have q9 : RepL R_tree_Window ρ ([(T_tree_Window.mk 3 4)] : List T_tree_Window) [.int .i64 3, .int .i64 4] := (RepL.cons (cs := [.int .i64 3, .int .i64 4]) rfl RepL.nil)
 replace hS := St.vec_of (n := 1) (sz := R_tree_Window.sz) (hS.pull 4) rfl (by decide)
 replace hF := bd_s hF; obtain ⟨q4, q0c, hF⟩ := hF
 have q_ := St.lend ((hS.pull 6).pull 4) q0b; obtain ⟨ρl0, hll0, hlf0, hS0, back0⟩ := q_
 have q_ := St.lend (hS0.pull 3) (q7.le hll0); obtain ⟨ρl1, hll1, hlf1, hS1, back1⟩ := q_
 have q_ := St.lend (hS1.pull 2) (q8.le (hll0.trans hll1)); obtain ⟨ρl2, hll2, hlf2, hS2, back2⟩ := q_
 have q_ := St.lend (hS2.pull 1) (q9.le ((hll0.trans hll1).trans hll2)); obtain ⟨ρl3, hll3, hlf3, hS3, back3⟩ := q_
 have hcall := c_timing_Report q0c (hlf0.le ((hll1.trans hll2).trans hll3)) (hlf1.le (hll2.trans hll3)) (RdS.nil (A := none) (c := 0)) (RdS.nil (A := none) (c := 0)) (hlf2.le hll3) (RdS.nil (A := none) (c := 0)) (RdS.nil (A := none) (c := 0)) (RdS.nil (A := none) (c := 0)) hlf3 (RdS.nil (A := none) (c := 0)) (RdS.nil (A := none) (c := 0)) (RdS.nil (A := none) (c := 0)) (RdS.nil (A := none) (c := 0)) (RdS.nil (A := none) (c := 0)) hS3
 refine o_cc call_19 (args1 rfl) hcall ?_
 rintro e w' ⟨q2, q0a, c_y0_ret_3_1, q5, rfl, q3, hS⟩
 refine ⟨_, rfl, ?_⟩
 replace hS := back3 (hS.pull 1)
 replace hS := back2 (hS.pull 1)
 replace hS := back1 (hS.pull 1)
 replace hS := back0 (hS.pull 1)
 replace q3 : RepL R_timing_End ρ q4.1 q5 := RepL.flat (fun h => h) q3
 have e_ := St.vec_n (hS.pull 5) q3; subst e_
 replace hF := lv_s hF; obtain ⟨x26, hx26, hF⟩ := hF
 replace hF := ck_s hF; obtain ⟨q6, hF⟩ := hF
 replace hF := lv_s hF; obtain ⟨x34, hx34, hF⟩ := hF
 refine p (yl_move rfl) <| p (yl_extract rfl rfl) <| p (yl_extract rfl rfl) <| p (yl_assign rfl) <|
  p (yl_assign rfl) <| x_done <| x_seq <| x_region <|
  p (yl_move rfl) <| p (yl_eql rfl rfl) <| p (yl_move rfl) <| pg (v := .slice q2 q4.1.length c_y0_ret_3_1) 22 (c := decide (q4.2 = 0)) (says_t _) (fun hq => Yl.at (yl_move rfl)) <|
  pg (v := .int .i64 (q4.1.length : Int)) 22 (c := decide (q4.2 = 0)) (says_t _) (fun hq => Yl.at (yl_len_slice usl_61 (cv hq))) <| pg (v := .bool (decide ((q4.1.length : Int) = 1))) 22 (c := decide (q4.2 = 0)) (says_t _) (fun hq => Yl.at (yl_eql (cv hq) rfl)) <| p (yand' rfl (fun hc => (cv hc)) rfl hx26) <| p (yl_move rfl) <|
  pg (v := .slice q2 q4.1.length c_y0_ret_3_1) 27 (c := x26) (says_t _) (fun hq => Yl.at (yl_move rfl)) <| pg (v := .pointer (some ((adr q2).add ((0 : Int).toNat * R_timing_End.sz)))) 27 (c := x26) (says_t _) (fun hq => Yl.at (yix_o sl_61 (cv hq) rfl (hS.pull 5) q3 (q6 hq))) <| pg (v := .pointer (some (((adr q2).add ((0 : Int).toNat * R_timing_End.sz)).add 2))) 27 (c := x26) (says_t _) (fun hq => Yl.at (yl_fieldAddr fld_67_2 (cv hq))) <| pg (v := .pointer (some (((adr q2).add ((0 : Int).toNat * R_timing_End.sz)).add 3))) 27 (c := x26) (says_t _) (fun hq => Yl.at (yl_fieldE fld_65_1 (cv hq))) <|
  pg (v := .int .i64 ((gt q4.1 (0 : Int)).Setup.Value)) 27 (c := x26) (says_t _) (fun hq => (by obtain ⟨el, ek, ee⟩ := q3.get (q6 hq); obtain rfl := ek; exact at_load one_3 (cv hq) (EltV.ld (m := 3) ee (hS.pull 5) rfl))) <| pg (v := .bool (decide (((gt q4.1 (0 : Int)).Setup.Value) = 4))) 27 (c := x26) (says_t _) (fun hq => Yl.at (yl_eql (cv hq) rfl)) <| p (yand' rfl (fun hc => (cv hc)) rfl hx34) <| p (yl_assign rfl) <|
  x_done <| ?_
 have e_ := Option.some.inj (show some _ = some _ from hF); subst e_
 exact x_return ⟨_, ⟨_, _, rfl, rfl, rfl⟩, rfl, (((((((hS.drop.pull 1).drop.pull 1).drop.pull 1).drop.pull 1).drop.pull 1).drop.pull 1).drop)⟩
attribute [irreducible] P_maskkeep4_times

def P_timing_isEnd (n0 : T_api_Netlist) (e_1 : T_timing_End) : Option Bool :=
 if e_1.Flop = (-1) then
  lv ((decide (0 ≤ e_1.Input)) && (decide (e_1.Input < (n0.Outs.length : Int)))) fun x18 =>
  some x18
 else
  lv ((decide (0 ≤ e_1.Flop)) && (decide (e_1.Flop < (n0.Flops.length : Int)))) fun x29 =>
  lv (x29 && (decide (0 ≤ e_1.Input))) fun x34 =>
  ck (x34 = true → inb e_1.Flop n0.Flops.length) <|
  lv (gt n0.Flops e_1.Flop) fun q2 =>
  bd (gd (x34) (P_delay_Inputs q2)) fun q3 =>
  lv (x34 && (decide (e_1.Input < q3))) fun x46 =>
  some x46
set_option maxHeartbeats 4000000 in
set_option maxRecDepth 100000 in
theorem c_timing_isEnd {w0 w : World} {l : List Assn} {ρ : Heap} {q5 : Option Addr} {q9 : Nat} {c_n0_0 : Nat} {q6 : Option Addr} {q0a : Nat} {c_n0_1 : Nat} {q2 : Option Addr} {q0b : Nat} {c_n0_2 : Nat} {q7 : Option Addr} {q0c : Nat} {c_n0_3 : Nat} {q3 : Option Addr} {q0d : Nat} {c_n0_4 : Nat} {n0 : T_api_Netlist} {e_1 : T_timing_End} {r : Bool} (hF : P_timing_isEnd n0 e_1 = some r) (q0h : RdS RpS ρ q5 q9 c_n0_0 n0.In) (q0i : RdS RpS ρ q6 q0a c_n0_1 n0.Out) (q8 : RdS R_api_Flop ρ q2 q0b c_n0_2 n0.Flops) (q0j : RdS R_api_Gate ρ q7 q0c c_n0_3 n0.Gates) (q0k : RdS (RpI .i64) ρ q3 q0d c_n0_4 n0.Outs) (hS : St w0 w (ro ρ :: l)) :
  Calls Tryd.prog 64 #[.agg #[.slice q5 q9 c_n0_0, .slice q6 q0a c_n0_1, .slice q2 q0b c_n0_2, .slice q7 q0c c_n0_3, .slice q3 q0d c_n0_4], .agg #[.int .i64 e_1.Flop, .int .i64 e_1.Input, .bool e_1.Setup.Known, .int .i64 e_1.Setup.Value, .int .i64 e_1.Setup.From, .bool e_1.Hold.Known, .int .i64 e_1.Hold.Value, .int .i64 e_1.Hold.From]] w fun e w' => e = .returned (.bool r) ∧ St w0 w' (ro ρ :: l) := by
 have e_ := q0h.n; subst e_
 have e_ := q0i.n; subst e_
 have e_ := q8.n; subst e_
 have e_ := q0j.n; subst e_
 have e_ := q0k.n; subst e_
 refine enterC Tryd.func64 rfl 47 rfl (by simp) ?_
 refine x_seq <| x_region <| ?_
 refine o_box (cs := [.slice q5 n0.In.length c_n0_0, .slice q6 n0.Out.length c_n0_1, .slice q2 n0.Flops.length c_n0_2, .slice q7 n0.Gates.length c_n0_3, .slice q3 n0.Outs.length c_n0_4]) rfl rfl hS (fun b2 w' hS => ?_)
 refine o_box (cs := [.int .i64 e_1.Flop, .int .i64 e_1.Input, .bool e_1.Setup.Known, .int .i64 e_1.Setup.Value, .int .i64 e_1.Setup.From, .bool e_1.Hold.Known, .int .i64 e_1.Hold.Value, .int .i64 e_1.Hold.From]) rfl rfl hS (fun b3 w' hS => ?_)
 refine p (yl_assign rfl) <| x_done <| x_seq <| x_seq <|
  x_region <| p (yl_field0 fld_67_0 rfl) <| pa (at_load one_3 rfl (hS.cell rfl)) <| p (yl_eql rfl rfl) <|
  x_done <|
  x_cond_p (e_1.Flop = (-1)) rfl (fun hc7 => ?_) (fun hc7 => ?_)
 ·replace hF := it_t hc7 hF
  replace hF := lv_s hF; obtain ⟨x18, hx18, hF⟩ := hF
  refine x_seq <| x_region <| p (yl_field0 fld_67_1 rfl) <| pa (at_load one_3 rfl (hS.cell rfl)) <|
   p (yl_geq rfl rfl) <| p (yl_move rfl) <| pg (v := .pointer (some ⟨b3, 1, none⟩)) 11 (c := decide (0 ≤ e_1.Input)) (says_t _) (fun hq => Yl.at (yl_field0 fld_67_1 rfl)) <| pg (v := .int .i64 e_1.Input) 11 (c := decide (0 ≤ e_1.Input)) (says_t _) (fun hq => at_load one_3 (cv hq) (hS.cell rfl)) <|
   pg (v := .pointer (some ⟨b2, 4, none⟩)) 11 (c := decide (0 ≤ e_1.Input)) (says_t _) (fun hq => Yl.at (yl_field0 fld_30_4 rfl)) <| pg (v := .slice q3 n0.Outs.length c_n0_4) 11 (c := decide (0 ≤ e_1.Input)) (says_t _) (fun hq => at_load one_22 (cv hq) ((hS.pull 1).cell rfl)) <| pg (v := .int .i64 (n0.Outs.length : Int)) 11 (c := decide (0 ≤ e_1.Input)) (says_t _) (fun hq => Yl.at (yl_len_slice usl_22 (cv hq))) <| pg (v := .bool (decide (e_1.Input < (n0.Outs.length : Int)))) 11 (c := decide (0 ≤ e_1.Input)) (says_t _) (fun hq => Yl.at (yl_lss (cv hq) (cv hq))) <|
   p (yand' rfl (fun hc => (cv hc)) rfl hx18) <| p (yl_assign rfl) <| x_done <| ?_
  have e_ := Option.some.inj (show some _ = some _ from hF); subst e_
  exact x_return ⟨_, ⟨_, _, rfl, rfl, rfl⟩, rfl, hS.drop.drop⟩
 ·replace hF := it_f hc7 hF
  replace hF := lv_s hF; obtain ⟨x29, hx29, hF⟩ := hF
  replace hF := lv_s hF; obtain ⟨x34, hx34, hF⟩ := hF
  replace hF := ck_s hF; obtain ⟨q0e, hF⟩ := hF
  replace hF := lv_s hF; obtain ⟨q4, q0l, hF⟩ := hF
  have q_ := RdS.getD R_api_Flop_d q8 e_1.Flop; obtain ⟨q0o, q0f, q0m⟩ := q_
  rw [← q0l] at q0f
  have e_ := q0f; subst e_
  replace hF := bd_s hF; obtain ⟨q0g, q0n, hF⟩ := hF
  replace hF := lv_s hF; obtain ⟨x46, hx46, hF⟩ := hF
  refine x_skip <| x_seq <| x_still mixed (by kernel_rfl) hS <| q (yl_field0 fld_67_0 rfl) <|
   qa (fun w' hS => at_load one_3 rfl (hS.cell rfl)) <| q (yl_geq rfl rfl) <| q (yl_move rfl) <| qg (v := .pointer (some ⟨b3, 0, none⟩)) 22 (c := decide (0 ≤ e_1.Flop)) (says_t _) (fun hq w' hS => Yl.at (yl_field0 fld_67_0 rfl)) <|
   qg (v := .int .i64 e_1.Flop) 22 (c := decide (0 ≤ e_1.Flop)) (says_t _) (fun hq w' hS => at_load one_3 (cv hq) (hS.cell rfl)) <| qg (v := .pointer (some ⟨b2, 2, none⟩)) 22 (c := decide (0 ≤ e_1.Flop)) (says_t _) (fun hq w' hS => Yl.at (yl_field0 fld_30_2 rfl)) <| qg (v := .slice q2 n0.Flops.length c_n0_2) 22 (c := decide (0 ≤ e_1.Flop)) (says_t _) (fun hq w' hS => at_load one_27 (cv hq) ((hS.pull 1).cell rfl)) <| qg (v := .int .i64 (n0.Flops.length : Int)) 22 (c := decide (0 ≤ e_1.Flop)) (says_t _) (fun hq w' hS => Yl.at (yl_len_slice usl_27 (cv hq))) <|
   qg (v := .bool (decide (e_1.Flop < (n0.Flops.length : Int)))) 22 (c := decide (0 ≤ e_1.Flop)) (says_t _) (fun hq w' hS => Yl.at (yl_lss (cv hq) (cv hq))) <| q (yand' rfl (fun hc => (cv hc)) rfl hx29) <| q (yl_move rfl) <| qg (v := .pointer (some ⟨b3, 1, none⟩)) 30 (c := x29) (says_t _) (fun hq w' hS => Yl.at (yl_field0 fld_67_1 rfl)) <|
   qg (v := .int .i64 e_1.Input) 30 (c := x29) (says_t _) (fun hq w' hS => at_load one_3 (cv hq) (hS.cell rfl)) <| qg (v := .bool (decide (0 ≤ e_1.Input))) 30 (c := x29) (says_t _) (fun hq w' hS => Yl.at (yl_geq (cv hq) rfl)) <| q (yand' rfl (fun hc => (cv hc)) rfl hx34) <| q (yl_move rfl) <|
   qg (v := .pointer (some ⟨b3, 1, none⟩)) 35 (c := x34) (says_t _) (fun hq w' hS => Yl.at (yl_field0 fld_67_1 rfl)) <| qg (v := .int .i64 e_1.Input) 35 (c := x34) (says_t _) (fun hq w' hS => at_load one_3 (cv hq) (hS.cell rfl)) <| qg (v := .pointer (some ⟨b2, 2, none⟩)) 35 (c := x34) (says_t _) (fun hq w' hS => Yl.at (yl_field0 fld_30_2 rfl)) <| qg (v := .slice q2 n0.Flops.length c_n0_2) 35 (c := x34) (says_t _) (fun hq w' hS => at_load one_27 (cv hq) ((hS.pull 1).cell rfl)) <|
   qg (v := .pointer (some ⟨b3, 0, none⟩)) 35 (c := x34) (says_t _) (fun hq w' hS => Yl.at (yl_field0 fld_67_0 rfl)) <| qg (v := .int .i64 e_1.Flop) 35 (c := x34) (says_t _) (fun hq w' hS => at_load one_3 (cv hq) (hS.cell rfl)) <| qg (v := .pointer (some ((adr q2).add (e_1.Flop.toNat * R_api_Flop.sz)))) 35 (c := x34) (says_t _) (fun hq w' hS => Yl.at (yix_f sl_27 (cv hq) (cv hq) q8 (q0e hq))) <| qg (v := .agg #[.string q4.Name, .int .i64 q4.Cell, .int .i64 q4.D, .int .i64 q4.En, .bool q4.Init]) 35 (c := x34) (says_t _) (fun hq w' hS => at_loadAgg agg_135 (cv hq) rfl (Elt.every (q0m (q0e hq)) (hS.pull 2))) <|
   qccg (v := .int .i64 q0g) 35 (c := x34) (says_t _) call_113 (fun hq => (args1 (cv hq))) (fun hq w' hS => by
    have hcall := c_delay_Inputs (gd_t q0n hq)  (hS.pull 2)
    exact (Calls.mono hcall (fun e w'' h => And.intro h.1 ((h.2.pull 2).pull 2)))) <| qg (v := .bool (decide (e_1.Input < q0g))) 35 (c := x34) (says_t _) (fun hq w' hS => Yl.at (yl_lss (cv hq) (cv hq))) <| q (yand' rfl (fun hc => (cv hc)) rfl hx46) <| q (yl_assign rfl) <|
   q_done fun w' hS => ?_
  have e_ := Option.some.inj (show some _ = some _ from hF); subst e_
  exact x_return ⟨_, ⟨_, _, rfl, rfl, rfl⟩, rfl, hS.drop.drop⟩
attribute [irreducible] P_timing_isEnd

def P_timing_latest_L3 (j0 : T_timing_Job) (nets1 : List T_timing_Arrival) (g2 : Int) (q8 : T_api_Gate) : (Int × Int × Int) → Option ((Int × Int × Int) ⊕ Int) := fun (q3, q4, q2) =>
 if q2 < (q8.Ins.length : Int) then
  ck (inb q2 q8.Ins.length) <|
  lv (gt q8.Ins q2) fun x24 =>
  ck (inb x24 nets1.length) <|
  lv (gt nets1 x24) fun q0b =>
  ck (inb g2 j0.Delays.Gates.length) <|
  lv (gt j0.Delays.Gates g2) fun q9 =>
  ck (inb q2 q9.length) <|
  lv (gt q9 q2) fun q0a =>
  bd (P_timing_later q0b q0a) fun q5 =>
  lv ((decide (q3 < 0)) || (decide (q4 < q5.Late))) fun x49 =>
  lv (q5.Known && x49) fun x50 =>
  bd (
   if x50 = true then
    some (x24, q5.Late)
   else
    some (q3, q4)) fun (q6, q7) =>
  ar (q2 + 1) fun x54 =>
  some (Sum.inl (q6, q7, x54))
 else
  some (Sum.inr q3)
def P_timing_latest (j0 : T_timing_Job) (nets1 : List T_timing_Arrival) (g2 : Int) : Option Int :=
 ck (inb g2 j0.Net.Gates.length) <|
 lv (gt j0.Net.Gates g2) fun q3 =>
 bd (
  lp (P_timing_latest_L3 j0 nets1 g2 q3) fuel ((-1), 0, 0)) fun q2 =>
 some q2
set_option maxHeartbeats 4000000 in
set_option maxRecDepth 100000 in
theorem c_timing_latest {w0 w : World} {l : List Assn} {ρ : Heap} {q0d : Option Addr} {q1o : Nat} {c_j0_0 : Nat} {q0e : Option Addr} {q1p : Nat} {c_j0_1 : Nat} {q0f : Option Addr} {q1q : Nat} {c_j0_2 : Nat} {q0g : Option Addr} {q1r : Nat} {c_j0_3 : Nat} {q0h : Option Addr} {q1s : Nat} {c_j0_4 : Nat} {q0i : Option Addr} {q1t : Nat} {c_j0_5 : Nat} {q4 : Option Addr} {q1u : Nat} {c_j0_6 : Nat} {q0j : Option Addr} {q1v : Nat} {c_j0_7 : Nat} {q0k : Option Addr} {q1w : Nat} {c_j0_8 : Nat} {q0l : Option Addr} {q1x : Nat} {c_j0_9 : Nat} {q8 : Option Addr} {q1j : Nat} {c_j0_10 : Nat} {q9 : Option Addr} {q1k : Nat} {c_j0_12 : Nat} {q0a : Option Addr} {q1l : Nat} {c_j0_13 : Nat} {q0b : Option Addr} {q1m : Nat} {c_j0_14 : Nat} {q6 : Option Addr} {q1n : Nat} {c_nets1 : Nat} {j0 : T_timing_Job} {nets1 : List T_timing_Arrival} {g2 : Int} {r : Int} (hF : P_timing_latest j0 nets1 g2 = some r) (q2h : RdS RpS ρ q0d q1o c_j0_0 j0.Net.In) (q2i : RdS RpS ρ q0e q1p c_j0_1 j0.Net.Out) (q2j : RdS R_api_Flop ρ q0f q1q c_j0_2 j0.Net.Flops) (q1c : RdS R_api_Gate ρ q0g q1r c_j0_3 j0.Net.Gates) (q2k : RdS (RpI .i64) ρ q0h q1s c_j0_4 j0.Net.Outs) (q2l : RdS R_api_Cell ρ q0i q1t c_j0_5 j0.Lib) (q1d : RdS (RpSl R_tree_Window) ρ q4 q1u c_j0_6 j0.Delays.Gates) (q2m : RdS (RpSl R_tree_Window) ρ q0j q1v c_j0_7 j0.Delays.Data) (q2n : RdS R_tree_Window ρ q0k q1w c_j0_8 j0.Delays.Outs) (q2o : RdS R_tree_Window ρ q0l q1x c_j0_9 j0.Delays.Clock) (q2a : RdS R_tree_Window ρ q8 q1j c_j0_10 j0.Delays.Launch) (q2b : RdS R_clocks_Input ρ q9 q1k c_j0_12 j0.Limits.Inputs) (q2c : RdS R_clocks_Output ρ q0a q1l c_j0_13 j0.Limits.Outputs) (q2d : RdS R_clocks_Path ρ q0b q1m c_j0_14 j0.Limits.Paths) (q0y : RdS R_timing_Arrival ρ q6 q1n c_nets1 nets1) (hS : St w0 w (ro ρ :: l)) :
  Calls Tryd.prog 65 #[.agg #[.slice q0d q1o c_j0_0, .slice q0e q1p c_j0_1, .slice q0f q1q c_j0_2, .slice q0g q1r c_j0_3, .slice q0h q1s c_j0_4, .slice q0i q1t c_j0_5, .slice q4 q1u c_j0_6, .slice q0j q1v c_j0_7, .slice q0k q1w c_j0_8, .slice q0l q1x c_j0_9, .slice q8 q1j c_j0_10, .int .i64 j0.Limits.Period, .slice q9 q1k c_j0_12, .slice q0a q1l c_j0_13, .slice q0b q1m c_j0_14], .slice q6 q1n c_nets1, .int .i64 g2] w fun e w' => e = .returned (.int .i64 r) ∧ St w0 w' (ro ρ :: l) := by
 have e_ := q2h.n; subst e_
 have e_ := q2i.n; subst e_
 have e_ := q2j.n; subst e_
 have e_ := q1c.n; subst e_
 have e_ := q2k.n; subst e_
 have e_ := q2l.n; subst e_
 have e_ := q1d.n; subst e_
 have e_ := q2m.n; subst e_
 have e_ := q2n.n; subst e_
 have e_ := q2o.n; subst e_
 have e_ := q2a.n; subst e_
 have e_ := q2b.n; subst e_
 have e_ := q2c.n; subst e_
 have e_ := q2d.n; subst e_
 have e_ := q0y.n; subst e_
 refine enterC Tryd.func65 rfl 56 rfl (by simp) ?_
 refine x_seq <| x_region <| ?_
 refine o_box (cs := [.slice q0d j0.Net.In.length c_j0_0, .slice q0e j0.Net.Out.length c_j0_1, .slice q0f j0.Net.Flops.length c_j0_2, .slice q0g j0.Net.Gates.length c_j0_3, .slice q0h j0.Net.Outs.length c_j0_4, .slice q0i j0.Lib.length c_j0_5, .slice q4 j0.Delays.Gates.length c_j0_6, .slice q0j j0.Delays.Data.length c_j0_7, .slice q0k j0.Delays.Outs.length c_j0_8, .slice q0l j0.Delays.Clock.length c_j0_9, .slice q8 j0.Delays.Launch.length c_j0_10, .int .i64 j0.Limits.Period, .slice q9 j0.Limits.Inputs.length c_j0_12, .slice q0a j0.Limits.Outputs.length c_j0_13, .slice q0b j0.Limits.Paths.length c_j0_14]) rfl rfl hS (fun b3 w' hS => ?_)
 replace hF := ck_s hF; obtain ⟨q23, hF⟩ := hF
 replace hF := lv_s hF; obtain ⟨q0z, q2x, hF⟩ := hF
 have q_ := q1c.get q23; obtain ⟨q36, q24, q2y⟩ := q_
 rw [← q2x] at q24
 obtain ⟨q1y, q34, q1z, rfl, q1e⟩ := q24
 have e_ := q1e.n; subst e_
 refine p (yl_assign rfl) <| x_done <| x_seq <| x_region <|
  p (yl_assign rfl) <| p (yl_assign rfl) <| x_done <| x_seq <|
  x_seq <| x_region <| p (yl_field0 fld_58_0 rfl) <| p (yl_field0 fld_30_3 rfl) <|
  pa (at_load one_28 rfl (hS.cell rfl)) <| p (yl_move rfl) <| p (yix_f sl_28 rfl rfl q1c q23) <| p (yl_fieldAddr fld_38_2 rfl) <|
  pa (at_load one_22 rfl (Elt.ld (j := 2) q2y (hS.pull 1) rfl)) <| p (yl_len_slice usl_22 rfl) <| p (yl_move rfl) <| x_done <| ?_
 replace hF := bd_s hF; obtain ⟨oL3, hLL3, hF⟩ := hF
 refine x_join (fun E w => ∃ (q0x : Int), q0x = oL3 ∧ E 7 = .int .i64 q0x ∧ St w0 w (ro ρ :: l)) ?_ ?_
 ·refine x_block ?_
  refine x_loop (fun k_ E w => ∃ (q3 : Int) (q0c : Int) (q5 : Int), lp (P_timing_latest_L3 j0 nets1 g2 q0z) k_ (q3, q0c, q5) = some oL3 ∧ E 1 = .slice q6 nets1.length c_nets1 ∧ E 2 = .int .i64 g2 ∧ E 3 = .pointer (some ⟨b3, 0, none⟩) ∧ E 7 = .int .i64 q3 ∧ E 8 = .int .i64 q0c ∧ E 18 = .slice q1y q0z.Ins.length q1z ∧ E 19 = .int .i64 (q0z.Ins.length : Int) ∧ E 20 = .int .i64 q5 ∧ St w0 w (cells b3 58 [.slice q0d j0.Net.In.length c_j0_0, .slice q0e j0.Net.Out.length c_j0_1, .slice q0f j0.Net.Flops.length c_j0_2, .slice q0g j0.Net.Gates.length c_j0_3, .slice q0h j0.Net.Outs.length c_j0_4, .slice q0i j0.Lib.length c_j0_5, .slice q4 j0.Delays.Gates.length c_j0_6, .slice q0j j0.Delays.Data.length c_j0_7, .slice q0k j0.Delays.Outs.length c_j0_8, .slice q0l j0.Delays.Clock.length c_j0_9, .slice q8 j0.Delays.Launch.length c_j0_10, .int .i64 j0.Limits.Period, .slice q9 j0.Limits.Inputs.length c_j0_12, .slice q0a j0.Limits.Outputs.length c_j0_13, .slice q0b j0.Limits.Paths.length c_j0_14] :: ro ρ :: l)) fuel ⟨(-1), 0, 0, hLL3, rfl, rfl, rfl, rfl, rfl, rfl, rfl, rfl, ((hS.pull 1).pull 1)⟩ ?_
  rintro kL3 E w ⟨q3, q0c, q5, hLL3, q1f, q1g, q1h, q1i, q20, q10, q11, q0s, hS⟩
  replace hLL3 := lp_s hLL3; obtain ⟨kL3, obL3, rfl, hFL3, hLL3⟩ := hLL3
  refine x_seq <| x_region <| p (yl_lss q0s q11) <| x_done <|
   x_seq <|
   x_cond_p (q5 < (q0z.Ins.length : Int)) rfl (fun hc21 => ?_) (fun hc21 => ?_)
  ·replace hFL3 := it_t hc21 hFL3
   replace hFL3 := ck_s hFL3; obtain ⟨q25, hFL3⟩ := hFL3
   replace hFL3 := lv_s hFL3; obtain ⟨x24, hx24, hFL3⟩ := hFL3
   refine x_skip <| x_seq <| x_block <| x_seq <|
    x_region <| p (yl_move q0s) <| p (yix_f sl_22 q10 q0s q1e q25) <| pa (at_load one_3 rfl (RdS.getW q1e (hS.pull 1) q25 hx24)) <|
    p (yl_assign rfl) <| p (yl_assign rfl) <| x_done <| x_seq <| ?_
   replace hFL3 := ck_s hFL3; obtain ⟨q26, hFL3⟩ := hFL3
   replace hFL3 := lv_s hFL3; obtain ⟨q0m, q2z, hFL3⟩ := hFL3
   replace hFL3 := ck_s hFL3; obtain ⟨q27, hFL3⟩ := hFL3
   replace hFL3 := lv_s hFL3; obtain ⟨q0n, q30, hFL3⟩ := hFL3
   replace hFL3 := ck_s hFL3; obtain ⟨q21, hFL3⟩ := hFL3
   replace hFL3 := lv_s hFL3; obtain ⟨q0p, q2p, hFL3⟩ := hFL3
   replace hFL3 := bd_s hFL3; obtain ⟨q2, q2q, hFL3⟩ := hFL3
   refine x_par (w0 := w0) [⟨[], [], [25], [], [], []⟩, ⟨[], [], [26], [], [], []⟩, ⟨[0, 1], [0, 1], [27], [0], [], []⟩, ⟨[0, 1, 2], [2], [28], [0], [], []⟩, ⟨[], [], [29], [], [], []⟩, ⟨[4], [4], [30], [], [], []⟩, ⟨[4, 5], [5], [31], [1], [], []⟩, ⟨[], [], [32], [], [], []⟩, ⟨[4, 5, 6, 7], [6, 7], [33], [0], [], []⟩, ⟨[4, 5, 6, 7, 8], [8], [34], [0], [], []⟩, ⟨[], [], [35], [], [], []⟩, ⟨[4, 5, 6, 7, 8, 9, 10], [9, 10], [34, 36], [0], [], []⟩, ⟨[4, 5, 6, 7, 8, 9, 10, 11], [9, 11], [37], [0], [], []⟩, ⟨[0, 1, 2, 3, 4, 5, 6, 7, 8, 9, 10, 11, 12], [3, 12], [38], [0], [], []⟩, ⟨[], [], [11], [], [], [2]⟩, ⟨[0, 1, 2, 3, 4, 5, 6, 7, 8, 9, 10, 11, 12, 13, 14], [13, 14], [], [], [2], [3]⟩] [⟨none, none, []⟩, ⟨none, none, []⟩, ⟨(some 14), (some 15), [11]⟩, ⟨(some 15), none, [11]⟩] [11, 25, 26, 27, 28, 29, 30, 31, 32, 33, 34, 35, 36, 37, 38] [0, 1] [0, 1, 3] [0, 1, 2, 3, 4, 5, 6, 7, 8, 9, 10, 11, 12, 13, 14] [fun Ep5 => Ep5 25 = .slice q6 nets1.length c_nets1, fun Ep5 => Ep5 26 = .int .i64 x24, fun Ep5 => Ep5 27 = .pointer (some ((adr q6).add (x24.toNat * R_timing_Arrival.sz))), fun Ep5 => Ep5 28 = .agg #[.bool q0m.Known, .int .i64 q0m.Early, .int .i64 q0m.Late], fun Ep5 => Ep5 29 = .pointer (some ⟨b3, 6, none⟩), fun Ep5 => Ep5 30 = .pointer (some ⟨b3, 6, none⟩), fun Ep5 => Ep5 31 = .slice q4 j0.Delays.Gates.length c_j0_6, fun Ep5 => Ep5 32 = .int .i64 g2, fun Ep5 => Ep5 33 = .pointer (some ((adr q4).add (g2.toNat * (RpSl R_tree_Window).sz))), fun Ep5 => Ep5 34 = .slice (adOf (Ep5 34)) q0n.length (capOf (Ep5 34)) ∧ RdS R_tree_Window ρ (adOf (Ep5 34)) q0n.length (capOf (Ep5 34)) q0n, fun Ep5 => Ep5 35 = .int .i64 q5, fun Ep5 => Ep5 36 = .pointer (some ((adr (adOf (Ep5 34))).add (q5.toNat * R_tree_Window.sz))), fun Ep5 => Ep5 37 = .agg #[.int .i64 q0p.Lo, .int .i64 q0p.Hi], fun Ep5 => Ep5 38 = .agg #[.bool q2.Known, .int .i64 q2.Early, .int .i64 q2.Late], fun Ep5 => Ep5 11 = .pointer (some ⟨(blkOf (Ep5 11)), 0, none⟩), fun Ep5 => True] [fun Ep5 => ro ρ, fun Ep5 => cells b3 58 [.slice q0d j0.Net.In.length c_j0_0, .slice q0e j0.Net.Out.length c_j0_1, .slice q0f j0.Net.Flops.length c_j0_2, .slice q0g j0.Net.Gates.length c_j0_3, .slice q0h j0.Net.Outs.length c_j0_4, .slice q0i j0.Lib.length c_j0_5, .slice q4 j0.Delays.Gates.length c_j0_6, .slice q0j j0.Delays.Data.length c_j0_7, .slice q0k j0.Delays.Outs.length c_j0_8, .slice q0l j0.Delays.Clock.length c_j0_9, .slice q8 j0.Delays.Launch.length c_j0_10, .int .i64 j0.Limits.Period, .slice q9 j0.Limits.Inputs.length c_j0_12, .slice q0a j0.Limits.Outputs.length c_j0_13, .slice q0b j0.Limits.Paths.length c_j0_14], fun Ep5 => cells (blkOf (Ep5 11)) 145 [.bool false, .int .i64 0, .int .i64 0], fun Ep5 => cells (blkOf (Ep5 11)) 145 [.bool q2.Known, .int .i64 q2.Early, .int .i64 q2.Late]] mixed (by kernel_rfl) (hS.pull 1) ?_ ?_
   ·refine ⟨?_, ?_, ?_, ?_, ?_, ?_, ?_, ?_, ?_, ?_, ?_, ?_, ?_, ?_, ?_, ?_, trivial⟩
    ·intro Ep5 w l' hE5 hO5 hF_ hS
     refine p (yl_move ((hE5 1 rfl).trans q1f)) <| x_done <| ?_
     refine x_fin ⟨⟨_, rfl⟩, rfl, ?_⟩
     exact Eq.mp (by kernel_rfl) hS
    ·intro Ep5 w l' hE5 hO5 hF_ hS
     refine p (yl_move (hE5 10 rfl)) <| x_done <| ?_
     refine x_fin ⟨⟨_, rfl⟩, rfl, ?_⟩
     exact Eq.mp (by kernel_rfl) hS
    ·intro Ep5 w l' hE5 hO5 hF_ hS
     obtain ⟨q12, q13, -⟩ := hF_
     replace q12 : Ep5 25 = .slice q6 nets1.length c_nets1 := Eq.mp (by kernel_rfl) q12
     replace q13 : Ep5 26 = .int .i64 x24 := Eq.mp (by kernel_rfl) q13
     replace hS : St w0 w (ro ρ :: l') := Eq.mp (by kernel_rfl) hS
     refine p (yix_f sl_140 q12 q13 q0y q26) <| x_done <| ?_
     refine x_fin ⟨⟨_, rfl⟩, rfl, ?_⟩
     exact Eq.mp (by kernel_rfl) hS
    ·intro Ep5 w l' hE5 hO5 hF_ hS
     obtain ⟨q14, -⟩ := hF_
     replace q14 : Ep5 27 = .pointer (some ((adr q6).add (x24.toNat * R_timing_Arrival.sz))) := Eq.mp (by kernel_rfl) q14
     replace hS : St w0 w (ro ρ :: l') := Eq.mp (by kernel_rfl) hS
     have q_ := q0y.get q26; obtain ⟨q37, q28, q31⟩ := q_
     rw [← q2z] at q28
     have e_ := q28; subst e_
     refine pa (v := .agg #[.bool q0m.Known, .int .i64 q0m.Early, .int .i64 q0m.Late]) (at_loadAgg agg_145 q14 rfl (Elt.every q31 hS)) <| x_done <| ?_
     refine x_fin ⟨⟨_, rfl⟩, rfl, ?_⟩
     exact Eq.mp (by kernel_rfl) hS
    ·intro Ep5 w l' hE5 hO5 hF_ hS
     refine p (yl_field0 fld_58_2 ((hE5 3 rfl).trans q1h)) <| x_done <| ?_
     refine x_fin ⟨⟨_, rfl⟩, rfl, ?_⟩
     exact Eq.mp (by kernel_rfl) hS
    ·intro Ep5 w l' hE5 hO5 hF_ hS
     obtain ⟨q15, -⟩ := hF_
     replace q15 : Ep5 29 = .pointer (some ⟨b3, 6, none⟩) := Eq.mp (by kernel_rfl) q15
     refine p (yl_fieldN fld_51_0 q15) <| x_done <| ?_
     refine x_fin ⟨⟨_, rfl⟩, rfl, ?_⟩
     exact Eq.mp (by kernel_rfl) hS
    ·intro Ep5 w l' hE5 hO5 hF_ hS
     obtain ⟨q16, -⟩ := hF_
     replace q16 : Ep5 30 = .pointer (some ⟨b3, 6, none⟩) := Eq.mp (by kernel_rfl) q16
     replace hS : St w0 w (cells b3 58 [.slice q0d j0.Net.In.length c_j0_0, .slice q0e j0.Net.Out.length c_j0_1, .slice q0f j0.Net.Flops.length c_j0_2, .slice q0g j0.Net.Gates.length c_j0_3, .slice q0h j0.Net.Outs.length c_j0_4, .slice q0i j0.Lib.length c_j0_5, .slice q4 j0.Delays.Gates.length c_j0_6, .slice q0j j0.Delays.Data.length c_j0_7, .slice q0k j0.Delays.Outs.length c_j0_8, .slice q0l j0.Delays.Clock.length c_j0_9, .slice q8 j0.Delays.Launch.length c_j0_10, .int .i64 j0.Limits.Period, .slice q9 j0.Limits.Inputs.length c_j0_12, .slice q0a j0.Limits.Outputs.length c_j0_13, .slice q0b j0.Limits.Paths.length c_j0_14] :: l') := Eq.mp (by kernel_rfl) hS
     refine pa (at_load one_48 q16 (hS.cell rfl)) <| x_done <| ?_
     refine x_fin ⟨⟨_, rfl⟩, rfl, ?_⟩
     exact Eq.mp (by kernel_rfl) hS
    ·intro Ep5 w l' hE5 hO5 hF_ hS
     refine p (yl_move ((hE5 2 rfl).trans q1g)) <| x_done <| ?_
     refine x_fin ⟨⟨_, rfl⟩, rfl, ?_⟩
     exact Eq.mp (by kernel_rfl) hS
    ·intro Ep5 w l' hE5 hO5 hF_ hS
     obtain ⟨q17, q18, -⟩ := hF_
     replace q17 : Ep5 31 = .slice q4 j0.Delays.Gates.length c_j0_6 := Eq.mp (by kernel_rfl) q17
     replace q18 : Ep5 32 = .int .i64 g2 := Eq.mp (by kernel_rfl) q18
     replace hS : St w0 w (ro ρ :: l') := Eq.mp (by kernel_rfl) hS
     refine p (yix_f sl_48 q17 q18 q1d q27) <| x_done <| ?_
     refine x_fin ⟨⟨_, rfl⟩, rfl, ?_⟩
     exact Eq.mp (by kernel_rfl) hS
    ·intro Ep5 w l' hE5 hO5 hF_ hS
     obtain ⟨q19, -⟩ := hF_
     replace q19 : Ep5 33 = .pointer (some ((adr q4).add (g2.toNat * (RpSl R_tree_Window).sz))) := Eq.mp (by kernel_rfl) q19
     replace hS : St w0 w (ro ρ :: l') := Eq.mp (by kernel_rfl) hS
     have q_ := q1d.get q27; obtain ⟨q38, q29, q32⟩ := q_
     rw [← q30] at q29
     obtain ⟨q39, q3a, q3b, rfl, q7⟩ := q29
     have e_ := q7.n; subst e_
     refine pa (at_load one_49 q19 (Elt.ld (j := 0) q32 hS rfl)) <| x_done <| ?_
     refine x_fin ⟨⟨_, rfl⟩, ⟨rfl, q7⟩, ?_⟩
     exact Eq.mp (by kernel_rfl) hS
    ·intro Ep5 w l' hE5 hO5 hF_ hS
     refine p (yl_move (hE5 9 rfl)) <| x_done <| ?_
     refine x_fin ⟨⟨_, rfl⟩, rfl, ?_⟩
     exact Eq.mp (by kernel_rfl) hS
    ·intro Ep5 w l' hE5 hO5 hF_ hS
     obtain ⟨q7, q0t, -⟩ := hF_
     replace q7 : Ep5 34 = .slice (adOf (Ep5 34)) q0n.length (capOf (Ep5 34)) ∧ RdS R_tree_Window ρ (adOf (Ep5 34)) q0n.length (capOf (Ep5 34)) q0n := Eq.mp (by kernel_rfl) q7
     have q_ := id q7; obtain ⟨-, q1b⟩ := q_
     replace q0t : Ep5 35 = .int .i64 q5 := Eq.mp (by kernel_rfl) q0t
     replace hS : St w0 w (ro ρ :: l') := Eq.mp (by kernel_rfl) hS
     refine p (yix_f sl_49 q7.1 q0t q1b q21) <| x_done <| ?_
     refine x_fin ⟨⟨_, rfl⟩, rfl, ?_⟩
     exact Eq.mp (by kernel_rfl) hS
    ·intro Ep5 w l' hE5 hO5 hF_ hS
     obtain ⟨q7, q0u, -⟩ := hF_
     replace q7 : Ep5 34 = .slice (adOf (Ep5 34)) q0n.length (capOf (Ep5 34)) ∧ RdS R_tree_Window ρ (adOf (Ep5 34)) q0n.length (capOf (Ep5 34)) q0n := Eq.mp (by kernel_rfl) q7
     have q_ := id q7; obtain ⟨-, q1b⟩ := q_
     replace q0u : Ep5 36 = .pointer (some ((adr (adOf (Ep5 34))).add (q5.toNat * R_tree_Window.sz))) := Eq.mp (by kernel_rfl) q0u
     replace hS : St w0 w (ro ρ :: l') := Eq.mp (by kernel_rfl) hS
     have q_ := q1b.get q21; obtain ⟨q35, q22, q2r⟩ := q_
     rw [← q2p] at q22
     have e_ := q22; subst e_
     refine pa (v := .agg #[.int .i64 q0p.Lo, .int .i64 q0p.Hi]) (at_loadAgg agg_70 q0u rfl (Elt.every q2r hS)) <| x_done <| ?_
     refine x_fin ⟨⟨_, rfl⟩, rfl, ?_⟩
     exact Eq.mp (by kernel_rfl) hS
    ·intro Ep5 w l' hE5 hO5 hF_ hS
     obtain ⟨q1a, q0v, -⟩ := hF_
     replace q1a : Ep5 28 = .agg #[.bool q0m.Known, .int .i64 q0m.Early, .int .i64 q0m.Late] := Eq.mp (by kernel_rfl) q1a
     replace q0v : Ep5 37 = .agg #[.int .i64 q0p.Lo, .int .i64 q0p.Hi] := Eq.mp (by kernel_rfl) q0v
     replace hS : St w0 w (ro ρ :: l') := Eq.mp (by kernel_rfl) hS
     have hcall := c_timing_later q2q  hS
     refine o_cc call_117 (args2 q1a q0v) (hcall) ?_
     rintro e w' ⟨rfl, hS⟩
     refine ⟨_, rfl, ?_⟩
     refine x_done <| ?_
     refine x_fin ⟨⟨_, rfl⟩, rfl, ?_⟩
     exact Eq.mp (by kernel_rfl) hS
    ·intro Ep5 w l' hE5 hO5 hF_ hS
     refine o_alloc zero_145 hS (fun b11 w' hS => ?_)
     refine x_done <| ?_
     refine x_fin ⟨⟨_, rfl⟩, rfl, ?_⟩
     exact Eq.mp (by kernel_rfl) hS
    ·intro Ep5 w l' hE5 hO5 hF_ hS
     obtain ⟨q0w, q0o, -⟩ := hF_
     replace q0w : Ep5 38 = .agg #[.bool q2.Known, .int .i64 q2.Early, .int .i64 q2.Late] := Eq.mp (by kernel_rfl) q0w
     replace q0o : Ep5 11 = .pointer (some ⟨(blkOf (Ep5 11)), 0, none⟩) := Eq.mp (by kernel_rfl) q0o
     replace hS : St w0 w (cells (blkOf (Ep5 11)) 145 [.bool false, .int .i64 0, .int .i64 0] :: l') := Eq.mp (by kernel_rfl) hS
     refine o_storeAgg (news := [.bool q2.Known, .int .i64 q2.Early, .int .i64 q2.Late]) agg_145 q0o q0w rfl (by simp [over_length]) hS (fun w' hS => ?_)
     refine x_done <| ?_
     refine x_fin ⟨⟨undef, rfl⟩, trivial, ?_⟩
     exact Eq.mp (by kernel_rfl) hS
   intro Ep5 w' hE5 hF_ hS
   obtain ⟨q12, q13, q14, q1a, q15, q16, q17, q18, q19, q7, q0t, q0u, q0v, q0w, q0o, -⟩ := hF_
   replace q12 : Ep5 25 = .slice q6 nets1.length c_nets1 := Eq.mp (by kernel_rfl) q12
   replace q13 : Ep5 26 = .int .i64 x24 := Eq.mp (by kernel_rfl) q13
   replace q14 : Ep5 27 = .pointer (some ((adr q6).add (x24.toNat * R_timing_Arrival.sz))) := Eq.mp (by kernel_rfl) q14
   replace q1a : Ep5 28 = .agg #[.bool q0m.Known, .int .i64 q0m.Early, .int .i64 q0m.Late] := Eq.mp (by kernel_rfl) q1a
   replace q15 : Ep5 29 = .pointer (some ⟨b3, 6, none⟩) := Eq.mp (by kernel_rfl) q15
   replace q16 : Ep5 30 = .pointer (some ⟨b3, 6, none⟩) := Eq.mp (by kernel_rfl) q16
   replace q17 : Ep5 31 = .slice q4 j0.Delays.Gates.length c_j0_6 := Eq.mp (by kernel_rfl) q17
   replace q18 : Ep5 32 = .int .i64 g2 := Eq.mp (by kernel_rfl) q18
   replace q19 : Ep5 33 = .pointer (some ((adr q4).add (g2.toNat * (RpSl R_tree_Window).sz))) := Eq.mp (by kernel_rfl) q19
   replace q7 : Ep5 34 = .slice (adOf (Ep5 34)) q0n.length (capOf (Ep5 34)) ∧ RdS R_tree_Window ρ (adOf (Ep5 34)) q0n.length (capOf (Ep5 34)) q0n := Eq.mp (by kernel_rfl) q7
   have q_ := id q7; obtain ⟨-, q1b⟩ := q_
   replace q0t : Ep5 35 = .int .i64 q5 := Eq.mp (by kernel_rfl) q0t
   replace q0u : Ep5 36 = .pointer (some ((adr (adOf (Ep5 34))).add (q5.toNat * R_tree_Window.sz))) := Eq.mp (by kernel_rfl) q0u
   replace q0v : Ep5 37 = .agg #[.int .i64 q0p.Lo, .int .i64 q0p.Hi] := Eq.mp (by kernel_rfl) q0v
   replace q0w : Ep5 38 = .agg #[.bool q2.Known, .int .i64 q2.Early, .int .i64 q2.Late] := Eq.mp (by kernel_rfl) q0w
   replace q0o : Ep5 11 = .pointer (some ⟨(blkOf (Ep5 11)), 0, none⟩) := Eq.mp (by kernel_rfl) q0o
   replace hS : St w0 w' (ro ρ :: cells b3 58 [.slice q0d j0.Net.In.length c_j0_0, .slice q0e j0.Net.Out.length c_j0_1, .slice q0f j0.Net.Flops.length c_j0_2, .slice q0g j0.Net.Gates.length c_j0_3, .slice q0h j0.Net.Outs.length c_j0_4, .slice q0i j0.Lib.length c_j0_5, .slice q4 j0.Delays.Gates.length c_j0_6, .slice q0j j0.Delays.Data.length c_j0_7, .slice q0k j0.Delays.Outs.length c_j0_8, .slice q0l j0.Delays.Clock.length c_j0_9, .slice q8 j0.Delays.Launch.length c_j0_10, .int .i64 j0.Limits.Period, .slice q9 j0.Limits.Inputs.length c_j0_12, .slice q0a j0.Limits.Outputs.length c_j0_13, .slice q0b j0.Limits.Paths.length c_j0_14] :: cells (blkOf (Ep5 11)) 145 [.bool q2.Known, .int .i64 q2.Early, .int .i64 q2.Late] :: (l)) := Eq.mp (by kernel_rfl) hS
   replace hFL3 := lv_s hFL3; obtain ⟨x49, hx49, hFL3⟩ := hFL3
   replace hFL3 := lv_s hFL3; obtain ⟨x50, hx50, hFL3⟩ := hFL3
   refine x_seq <| x_region <| p (yl_field0 fld_145_0 q0o) <| pa (at_load one_4 rfl ((hS.pull 2).cell rfl)) <|
    p (yl_move rfl) <| pg (v := .int .i64 q3) 41 (c := q2.Known) (says_t _) (fun hq => Yl.at (yl_move ((hE5 7 rfl).trans q1i))) <| pg (v := .bool (decide (q3 < 0))) 41 (c := q2.Known) (says_t _) (fun hq => Yl.at (yl_lss (cv hq) rfl)) <| pg (v := .bool (decide (q3 < 0))) 41 (c := q2.Known) (says_t _) (fun hq => Yl.at (yl_move (cv hq))) <|
    pg (v := .pointer (some ⟨(blkOf (Ep5 11)), 2, none⟩)) 44 (c := q2.Known && !(decide (q3 < 0))) (says_iff _ _) (fun hq => Yl.at (yl_field0 fld_145_2 q0o)) <| pg (v := .int .i64 q2.Late) 44 (c := q2.Known && !(decide (q3 < 0))) (says_iff _ _) (fun hq => at_load one_3 (cv hq) ((hS.pull 2).cell rfl)) <| pg (v := .int .i64 q0c) 44 (c := q2.Known && !(decide (q3 < 0))) (says_iff _ _) (fun hq => Yl.at (yl_move ((hE5 8 rfl).trans q20))) <| pg (v := .bool (decide (q0c < q2.Late))) 44 (c := q2.Known && !(decide (q3 < 0))) (says_iff _ _) (fun hq => Yl.at (yl_gtr (cv hq) (cv hq))) <|
    pg (v := .bool x49) 41 (c := q2.Known) (says_t _) (fun hq => Yl.at (yor' (cv hq) rfl (fun hc => (cv (and_i hq (t_not hc)))) hx49)) <| p (yand' rfl (fun hc => (cv hc)) rfl hx50) <| x_done <| ?_
   replace hFL3 := bd_s hFL3; obtain ⟨oc50, hFc50, hFL3⟩ := hFL3
   refine x_join (fun E w => ∃ (q0q : Int) (q0r : Int), (q0q, q0r) = oc50 ∧ E 1 = .slice q6 nets1.length c_nets1 ∧ E 2 = .int .i64 g2 ∧ E 3 = .pointer (some ⟨b3, 0, none⟩) ∧ E 7 = .int .i64 q0q ∧ E 8 = .int .i64 q0r ∧ E 18 = .slice q1y q0z.Ins.length q1z ∧ E 19 = .int .i64 (q0z.Ins.length : Int) ∧ E 20 = .int .i64 q5 ∧ St w0 w (cells b3 58 [.slice q0d j0.Net.In.length c_j0_0, .slice q0e j0.Net.Out.length c_j0_1, .slice q0f j0.Net.Flops.length c_j0_2, .slice q0g j0.Net.Gates.length c_j0_3, .slice q0h j0.Net.Outs.length c_j0_4, .slice q0i j0.Lib.length c_j0_5, .slice q4 j0.Delays.Gates.length c_j0_6, .slice q0j j0.Delays.Data.length c_j0_7, .slice q0k j0.Delays.Outs.length c_j0_8, .slice q0l j0.Delays.Clock.length c_j0_9, .slice q8 j0.Delays.Launch.length c_j0_10, .int .i64 j0.Limits.Period, .slice q9 j0.Limits.Inputs.length c_j0_12, .slice q0a j0.Limits.Outputs.length c_j0_13, .slice q0b j0.Limits.Paths.length c_j0_14] :: ro ρ :: l)) ?_ ?_
   ·refine x_cond (t := x50) rfl (fun hc50 => ?_) (fun hc50 => ?_)
    ·replace hFc50 := it_t hc50 hFc50
     refine x_still mixed (by kernel_rfl) hS <| q (yl_move (hE5 10 rfl)) <| q (yl_field0 fld_145_2 q0o) <| qa (fun w' hS => at_load one_3 rfl ((hS.pull 2).cell rfl)) <|
      q (yl_assign rfl) <| q (yl_assign rfl) <|
      q_done fun w' hS => ?_
     exact x_inv ⟨x24, q2.Late, (Option.some.inj (show some _ = some _ from hFc50)), ((hE5 1 rfl).trans q1f), ((hE5 2 rfl).trans q1g), ((hE5 3 rfl).trans q1h), rfl, rfl, ((hE5 18 rfl).trans q10), ((hE5 19 rfl).trans q11), ((hE5 20 rfl).trans q0s), ((hS.pull 2).drop.pull 1)⟩
    ·replace hFc50 := it_bf hc50 hFc50
     refine x_skip <| ?_
     exact x_inv ⟨q3, q0c, (Option.some.inj (show some _ = some _ from hFc50)), ((hE5 1 rfl).trans q1f), ((hE5 2 rfl).trans q1g), ((hE5 3 rfl).trans q1h), ((hE5 7 rfl).trans q1i), ((hE5 8 rfl).trans q20), ((hE5 18 rfl).trans q10), ((hE5 19 rfl).trans q11), ((hE5 20 rfl).trans q0s), ((hS.pull 2).drop.pull 1)⟩
   rintro E w ⟨q0q, q0r, rfl, q2s, q2t, q2u, q2v, q2w, q2e, q2f, q2g, hS⟩
   replace hFL3 := ar_s hFL3; obtain ⟨x54, hx54, hFL3⟩ := hFL3
   refine x_blk <| x_region <| p (yadd q2g rfl hx54) <| p (yl_move rfl) <|
    x_done <| ?_
   have e_ := Option.some.inj (show some _ = some _ from hFL3); subst e_
   exact x_inv ⟨kL3, Nat.lt_succ_self _, q0q, q0r, x54, hLL3, q2s, q2t, q2u, q2v, q2w, q2e, q2f, rfl, ((hS.pull 1).pull 1)⟩
  ·replace hFL3 := it_f hc21 hFL3
   refine x_exitTo _ rfl <| ?_
   have e_ := Option.some.inj (show some _ = some _ from hFL3); subst e_
   exact x_inv ⟨q3, hLL3, q1i, hS.drop⟩
 rintro E w ⟨q0x, rfl, q33, hS⟩
 refine x_seq <| x_region <| p (yl_move q33) <| p (yl_assign rfl) <|
  x_done <| ?_
 have e_ := Option.some.inj (show some _ = some _ from hF); subst e_
 exact x_return ⟨_, ⟨_, _, rfl, rfl, rfl⟩, rfl, hS⟩
attribute [irreducible] P_timing_latest


end Go.Proofs.YtlolchgeedegdaaDoor.X
