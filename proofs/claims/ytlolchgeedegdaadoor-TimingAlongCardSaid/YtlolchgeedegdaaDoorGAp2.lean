/- Printed by gen.py: plain functions, and that the Go code computes them. -/
import Derived.Test.YtlolchgeedegdaaDoorXI
import Derived.Test.YtlolchgeedegdaaDoorXT
import Derived.Test.YtlolchgeedegdaaDoorGAp0
import Derived.Test.YtlolchgeedegdaaDoorGAp1
namespace Go.Proofs.YtlolchgeedegdaaDoor.X
open Go Go.RowKit
set_option linter.unusedVariables false
set_option linter.unusedSimpArgs false

def P_netlist_Form_L7 (n0 : T_api_Netlist) : (List ByteArray × Int) → Option ((List ByteArray × Int) ⊕ List ByteArray) := fun (q3, q2) =>
 if q2 < (n0.Flops.length : Int) then
  ck (inb q2 n0.Flops.length) <|
  lv (gt n0.Flops q2) fun q5 =>
  lv (q3 ++ [q5.Name]) fun q4 =>
  ck (apOk 16 q4.length) <|
  ar (q2 + 1) fun x57 =>
  some (Sum.inl (q4, x57))
 else
  some (Sum.inr q3)
def P_netlist_Form_L26 (q5 : Int) (q4 : T_api_Gate) (q3 : Int) : Int → Option (Int ⊕ (Unit ⊕ Int)) := fun q2 =>
 if q2 < (q4.Ins.length : Int) then
  ck (inb q2 q4.Ins.length) <|
  lv (gt q4.Ins q2) fun x97 =>
  ck ((!(decide (x97 < 0))) = true → I64 (q5 + q3)) <|
  lv (q5 + q3) fun x104 =>
  lv ((decide (x97 < 0)) || (decide (x104 ≤ x97))) fun x106 =>
  if x106 = true then
   some (Sum.inr (Sum.inr (2 : Int)))
  else
   ar (q2 + 1) fun x107 =>
   some (Sum.inl x107)
 else
  some (Sum.inr (Sum.inl ()))
def P_netlist_Form_L19 (n0 : T_api_Netlist) (q4 : Int) : Int → Option (Int ⊕ (Unit ⊕ Int)) := fun q2 =>
 if q2 < (n0.Gates.length : Int) then
  ck (inb q2 n0.Gates.length) <|
  lv (gt n0.Gates q2) fun q3 =>
  if 6 < (q3.Ins.length : Int) then
   some (Sum.inr (Sum.inr (3 : Int)))
  else
   bd (P_netlist_Mask (q3.Ins.length : Int)) fun q5 =>
   lv (bAndNot .u64 q3.Table q5) fun x89 =>
   if x89 ≠ 0 then
    some (Sum.inr (Sum.inr (4 : Int)))
   else
    bs (
     lp (P_netlist_Form_L26 q4 q3 q2) fuel 0) (fun y => some (Sum.inr (Sum.inr y))) fun _ =>
    ar (q2 + 1) fun x108 =>
    some (Sum.inl x108)
 else
  some (Sum.inr (Sum.inl ()))
def P_netlist_Form (n0 : T_api_Netlist) : Option Int :=
 lv ((decide (128 < (n0.In.length : Int))) || (decide (128 < (n0.Out.length : Int)))) fun x22 =>
 lv (x22 || (decide (288 < (n0.Flops.length : Int)))) fun x28 =>
 lv (x28 || (decide (1200 < (n0.Gates.length : Int)))) fun x34 =>
 if x34 = true then
  some (3 : Int)
 else
  if (n0.Out.length : Int) ≠ (n0.Outs.length : Int) then
   some (4 : Int)
  else
   bd (P_slices_Clone_string_string n0.In) fun q7 =>
   bd (
    lp (P_netlist_Form_L7 n0) fuel (q7, 0)) fun q2 =>
   bd (P_graph_Names q2) fun q3 =>
   if q3 ≠ 0 then
    some q3
   else
    bd (P_graph_Names n0.Out) fun q4 =>
    if q4 ≠ 0 then
     some q4
    else
     bd (P_netlist_First n0) fun q5 =>
     bs (
      lp (P_netlist_Form_L19 n0 q5) fuel 0) (fun y => some y) fun _ =>
     bd (P_netlist_ends n0) fun q6 =>
     some q6
set_option maxHeartbeats 4000000 in
set_option maxRecDepth 100000 in
theorem c_netlist_Form {w0 w : World} {l : List Assn} {ρ : Heap} {q6 : Option Addr} {q1h : Nat} {c_n0_0 : Nat} {q5 : Option Addr} {q1i : Nat} {c_n0_1 : Nat} {q3 : Option Addr} {q1j : Nat} {c_n0_2 : Nat} {q2 : Option Addr} {q1k : Nat} {c_n0_3 : Nat} {q7 : Option Addr} {q1l : Nat} {c_n0_4 : Nat} {n0 : T_api_Netlist} {r : Int} (hF : P_netlist_Form n0 = some r) (q0s : RdS RpS ρ q6 q1h c_n0_0 n0.In) (q0t : RdS RpS ρ q5 q1i c_n0_1 n0.Out) (q0l : RdS R_api_Flop ρ q3 q1j c_n0_2 n0.Flops) (q0m : RdS R_api_Gate ρ q2 q1k c_n0_3 n0.Gates) (q13 : RdS (RpI .i64) ρ q7 q1l c_n0_4 n0.Outs) (hS : St w0 w (ro ρ :: l)) :
  Calls Tryd.prog 149 #[.agg #[.slice q6 q1h c_n0_0, .slice q5 q1i c_n0_1, .slice q3 q1j c_n0_2, .slice q2 q1k c_n0_3, .slice q7 q1l c_n0_4]] w fun e w' => e = .returned (.int .i64 r) ∧ St w0 w' (ro ρ :: l) := by
 have e_ := q0s.n; subst e_
 have e_ := q0t.n; subst e_
 have e_ := q0l.n; subst e_
 have e_ := q0m.n; subst e_
 have e_ := q13.n; subst e_
 refine enterC Tryd.func149 rfl 111 rfl (by simp) ?_
 refine x_seq <| x_region <| ?_
 refine o_box (cs := [.slice q6 n0.In.length c_n0_0, .slice q5 n0.Out.length c_n0_1, .slice q3 n0.Flops.length c_n0_2, .slice q2 n0.Gates.length c_n0_3, .slice q7 n0.Outs.length c_n0_4]) rfl rfl hS (fun b1 w' hS => ?_)
 replace hF := lv_s hF; obtain ⟨x22, hx22, hF⟩ := hF
 replace hF := lv_s hF; obtain ⟨x28, hx28, hF⟩ := hF
 replace hF := lv_s hF; obtain ⟨x34, hx34, hF⟩ := hF
 refine p (yl_assign rfl) <| x_done <| x_seq <| x_seq <|
  x_region <| p (yl_field0 fld_30_0 rfl) <| pa (at_load one_26 rfl (hS.cell rfl)) <| p (yl_len_slice usl_26 rfl) <|
  p (yl_gtr rfl rfl) <| p (yl_move rfl) <| pg (v := .pointer (some ⟨b1, 1, none⟩)) 17 (c := !(decide (128 < (n0.In.length : Int)))) (says_f _) (fun hq => Yl.at (yl_field0 fld_30_1 rfl)) <| pg (v := .slice q5 n0.Out.length c_n0_1) 17 (c := !(decide (128 < (n0.In.length : Int)))) (says_f _) (fun hq => at_load one_26 (cv hq) (hS.cell rfl)) <|
  pg (v := .int .i64 (n0.Out.length : Int)) 17 (c := !(decide (128 < (n0.In.length : Int)))) (says_f _) (fun hq => Yl.at (yl_len_slice usl_26 (cv hq))) <| pg (v := .bool (decide (128 < (n0.Out.length : Int)))) 17 (c := !(decide (128 < (n0.In.length : Int)))) (says_f _) (fun hq => Yl.at (yl_gtr (cv hq) rfl)) <| p (yor' rfl rfl (fun hc => (cv (t_not hc))) hx22) <| p (yl_move rfl) <|
  pg (v := .pointer (some ⟨b1, 2, none⟩)) 23 (c := !x22) (says_f _) (fun hq => Yl.at (yl_field0 fld_30_2 rfl)) <| pg (v := .slice q3 n0.Flops.length c_n0_2) 23 (c := !x22) (says_f _) (fun hq => at_load one_27 (cv hq) (hS.cell rfl)) <| pg (v := .int .i64 (n0.Flops.length : Int)) 23 (c := !x22) (says_f _) (fun hq => Yl.at (yl_len_slice usl_27 (cv hq))) <| pg (v := .bool (decide (288 < (n0.Flops.length : Int)))) 23 (c := !x22) (says_f _) (fun hq => Yl.at (yl_gtr (cv hq) rfl)) <|
  p (yor' rfl rfl (fun hc => (cv (t_not hc))) hx28) <| p (yl_move rfl) <| pg (v := .pointer (some ⟨b1, 3, none⟩)) 29 (c := !x28) (says_f _) (fun hq => Yl.at (yl_field0 fld_30_3 rfl)) <| pg (v := .slice q2 n0.Gates.length c_n0_3) 29 (c := !x28) (says_f _) (fun hq => at_load one_28 (cv hq) (hS.cell rfl)) <|
  pg (v := .int .i64 (n0.Gates.length : Int)) 29 (c := !x28) (says_f _) (fun hq => Yl.at (yl_len_slice usl_28 (cv hq))) <| pg (v := .bool (decide (1200 < (n0.Gates.length : Int)))) 29 (c := !x28) (says_f _) (fun hq => Yl.at (yl_gtr (cv hq) rfl)) <| p (yor' rfl rfl (fun hc => (cv (t_not hc))) hx34) <| x_done <|
  x_cond (t := x34) rfl (fun hc34 => ?_) (fun hc34 => ?_)
 ·replace hF := it_t hc34 hF
  refine x_seq <| x_region <| p (yl_assign rfl) <| x_done <| ?_
  have e_ := Option.some.inj (show some _ = some _ from hF); subst e_
  exact x_return ⟨_, ⟨_, _, rfl, rfl, rfl⟩, rfl, hS.drop⟩
 ·replace hF := it_bf hc34 hF
  refine x_skip <| x_seq <| x_seq <| x_region <|
   p (yl_field0 fld_30_1 rfl) <| pa (at_load one_26 rfl (hS.cell rfl)) <| p (yl_len_slice usl_26 rfl) <| p (yl_field0 fld_30_4 rfl) <|
   pa (at_load one_22 rfl (hS.cell rfl)) <| p (yl_len_slice usl_22 rfl) <| p (yl_neq rfl rfl) <| x_done <|
   x_cond_p ((n0.Out.length : Int) ≠ (n0.Outs.length : Int)) rfl (fun hc41 => ?_) (fun hc41 => ?_)
  ·replace hF := it_t hc41 hF
   refine x_seq <| x_region <| p (yl_assign rfl) <| x_done <| ?_
   have e_ := Option.some.inj (show some _ = some _ from hF); subst e_
   exact x_return ⟨_, ⟨_, _, rfl, rfl, rfl⟩, rfl, hS.drop⟩
  ·replace hF := it_f hc41 hF
   replace hF := bd_s hF; obtain ⟨q1x, q2b, hF⟩ := hF
   refine x_skip <| x_seq <| x_region <| p (yl_field0 fld_30_0 rfl) <|
    pa (at_load one_26 rfl (hS.cell rfl)) <| ?_
   have hcall := c_slices_Clone_string_string q2b q0s (hS.pull 1)
   refine o_cc call_106 (args1 rfl) hcall ?_
   rintro e w' ⟨q14, q1y, c_y0_ret_5_2, q11, rfl, q0n, hS⟩
   refine ⟨_, rfl, ?_⟩
   have e_ := St.vec_n hS q0n; subst e_
   refine p (yl_assign rfl) <| x_done <| x_seq <| x_seq <|
    x_region <| p (yl_field0 fld_30_2 rfl) <| pa (at_load one_27 rfl ((hS.pull 2).cell rfl)) <| p (yl_len_slice usl_27 rfl) <|
    p (yl_move rfl) <| x_done <| ?_
   replace hF := bd_s hF; obtain ⟨oL7, hLL7, hF⟩ := hF
   refine x_join (fun E w => ∃ (q0h : Option Addr) (q0e : Nat) (c_names3_L7 : Nat) (q0f : List Value) (q0o : List ByteArray), q0o = oL7 ∧ E 1 = .pointer (some ⟨b1, 0, none⟩) ∧ E 3 = .slice q0h q0e c_names3_L7 ∧ RepL RpS ρ q0o q0f ∧ St w0 w (cells b1 30 [.slice q6 n0.In.length c_n0_0, .slice q5 n0.Out.length c_n0_1, .slice q3 n0.Flops.length c_n0_2, .slice q2 n0.Gates.length c_n0_3, .slice q7 n0.Outs.length c_n0_4] :: vec 9 RpS.sz (.slice q0h q0e c_names3_L7) q0e q0f :: ro ρ :: l)) ?_ ?_
   ·refine x_block ?_
    refine x_loop (fun k_ E w => ∃ (q0a : Option Addr) (q0b : Nat) (c_names3_L7h : Nat) (q8 : List Value) (q0c : List ByteArray) (q0p : Int), lp (P_netlist_Form_L7 n0) k_ (q0c, q0p) = some oL7 ∧ E 1 = .pointer (some ⟨b1, 0, none⟩) ∧ E 3 = .slice q0a q0b c_names3_L7h ∧ E 46 = .slice q3 n0.Flops.length c_n0_2 ∧ E 47 = .int .i64 (n0.Flops.length : Int) ∧ E 48 = .int .i64 q0p ∧ RepL RpS ρ q0c q8 ∧ St w0 w (cells b1 30 [.slice q6 n0.In.length c_n0_0, .slice q5 n0.Out.length c_n0_1, .slice q3 n0.Flops.length c_n0_2, .slice q2 n0.Gates.length c_n0_3, .slice q7 n0.Outs.length c_n0_4] :: vec 9 RpS.sz (.slice q0a q0b c_names3_L7h) q0b q8 :: ro ρ :: l)) fuel ⟨q14, q1x.length, c_y0_ret_5_2, q11, q1x, 0, hLL7, rfl, rfl, rfl, rfl, rfl, q0n, (((hS.pull 1).pull 1).pull 2)⟩ ?_
    rintro kL7 E w ⟨q0a, q0b, c_names3_L7h, q8, q0c, q0p, hLL7, q1m, q1n, q1c, q1d, q0w, q0g, hS⟩
    have e_ := St.vec_n (hS.pull 1) q0g; subst e_
    replace hLL7 := lp_s hLL7; obtain ⟨kL7, obL7, rfl, hFL7, hLL7⟩ := hLL7
    refine x_seq <| x_region <| p (yl_lss q0w q1d) <| x_done <|
     x_seq <|
     x_cond_p (q0p < (n0.Flops.length : Int)) rfl (fun hc49 => ?_) (fun hc49 => ?_)
    ·replace hFL7 := it_t hc49 hFL7
     replace hFL7 := ck_s hFL7; obtain ⟨q1r, hFL7⟩ := hFL7
     replace hFL7 := lv_s hFL7; obtain ⟨q9, q2c, hFL7⟩ := hFL7
     have q_ := q0l.get q1r; obtain ⟨q2l, q1s, q2d⟩ := q_
     rw [← q2c] at q1s
     have e_ := q1s; subst e_
     refine x_skip <| x_seq <| x_block <| x_seq <|
      x_region <| p (yix_f sl_27 q1c q0w q0l q1r) <| pa (v := .agg #[.string q9.Name, .int .i64 q9.Cell, .int .i64 q9.D, .int .i64 q9.En, .bool q9.Init]) (at_loadAgg agg_135 rfl rfl (Elt.every q2d (hS.pull 2))) <| ?_
     refine o_alloc zero_135 hS (fun b5 w' hS => ?_)
     refine o_storeAgg (news := [.string q9.Name, .int .i64 q9.Cell, .int .i64 q9.D, .int .i64 q9.En, .bool q9.Init]) agg_135 rfl rfl rfl (by simp [over_length]) hS (fun w' hS => ?_)
     refine x_done <| x_region <| p (yl_move q1n) <| p (yl_field0 fld_135_0 rfl) <|
      pa (at_load one_9 rfl (hS.cell rfl)) <| ?_
     refine o_buildSlice (vs := [.string q9.Name]) (cs := [.string q9.Name]) sl_26 zero_9 (parts_eq (pt (va := .string q9.Name) rfl pt0)) rfl (by intro v hv; simp only [List.mem_cons, List.not_mem_nil, or_false] at hv; first | (subst hv; rfl) | (rcases hv with rfl <;> rfl)) (by decide) rfl hS (fun b55 w' hS => ?_)
     replace hFL7 := lv_s hFL7; obtain ⟨q1z, q2e, hFL7⟩ := hFL7
     replace hFL7 := ck_s hFL7; obtain ⟨q2f, hFL7⟩ := hFL7
     refine o_ap sl_26 zero_9 rfl (by decide) rfl rfl (hS.pull 3) q0g (src_blk usl_26 hS rfl rfl) (RepL.cons (R := RpS) (ρ := ρ) (x := q9.Name) (cs := [.string q9.Name]) rfl RepL.nil) q2e q2f (fun A56 c56 cs56 w' hr56 hS => ?_)
     replace hFL7 := ar_s hFL7; obtain ⟨x57, hx57, hFL7⟩ := hFL7
     refine p (yl_assign rfl) <| x_done <| x_blk <| x_region <|
      p (yadd q0w rfl hx57) <| p (yl_move rfl) <| x_done <| ?_
     have e_ := Option.some.inj (show some _ = some _ from hFL7); subst e_
     exact x_inv ⟨kL7, Nat.lt_succ_self _, A56, q1z.length, c56, cs56, q1z, x57, hLL7, q1m, rfl, q1c, q1d, rfl, hr56, (((((hS.pull 1).drop.pull 1).drop.pull 2).pull 1).pull 2)⟩
    ·replace hFL7 := it_f hc49 hFL7
     refine x_exitTo _ rfl <| ?_
     have e_ := Option.some.inj (show some _ = some _ from hFL7); subst e_
     exact x_inv ⟨q0a, q0c.length, c_names3_L7h, q8, q0c, hLL7, q1m, q1n, q0g, (((hS.pull 2).pull 2).pull 2)⟩
   rintro E w ⟨q0h, q0e, c_names3_L7, q0f, q0o, rfl, q12, q2g, q0q, hS⟩
   have e_ := St.vec_n (hS.pull 1) q0q; subst e_
   replace hF := bd_s hF; obtain ⟨q0u, q20, hF⟩ := hF
   refine x_seq <| x_seq <| x_region <| p (yl_move q2g) <| ?_
   have q_ := St.lend ((hS.pull 2).pull 2) q0q; obtain ⟨ρl0, hll0, hlf0, hS0, back0⟩ := q_
   have hcall := c_graph_Names q20 hlf0 hS0
   refine o_cc call_171 (args1 rfl) ((Calls.mono hcall (fun e w'' h => And.intro h.1 ((((back0 h.2).pull 1).pull 1).pull 2)))) ?_
   rintro e w' ⟨rfl, hS⟩
   refine ⟨_, rfl, ?_⟩
   refine p (v := .int .i64 q0u) (yl_assign rfl) <| x_done <| x_seq <| x_region <|
    p (v := .int .i64 q0u) (yl_move rfl) <| p (yl_neq rfl rfl) <| x_done <|
    x_cond_p (q0u ≠ 0) rfl (fun hc61 => ?_) (fun hc61 => ?_)
   ·replace hF := it_t hc61 hF
    refine x_seq <| x_region <| p (v := .int .i64 q0u) (yl_move rfl) <| p (v := .int .i64 q0u) (yl_assign rfl) <|
     x_done <| ?_
    have e_ := Option.some.inj (show some _ = some _ from hF); subst e_
    exact x_return ⟨_, ⟨_, _, rfl, rfl, rfl⟩, rfl, hS.drop.drop⟩
   ·replace hF := it_f hc61 hF
    replace hF := bd_s hF; obtain ⟨q0v, q21, hF⟩ := hF
    refine x_skip <| x_seq <| x_seq <| x_region <|
     p (yl_field0 fld_30_1 q12) <| pa (at_load one_26 rfl (hS.cell rfl)) <| ?_
    have hcall := c_graph_Names q21 q0t (hS.pull 2)
    refine o_cc call_171 (args1 rfl) ((Calls.mono hcall (fun e w'' h => And.intro h.1 ((h.2.pull 2).pull 2)))) ?_
    rintro e w' ⟨rfl, hS⟩
    refine ⟨_, rfl, ?_⟩
    refine p (v := .int .i64 q0v) (yl_assign rfl) <| x_done <| x_seq <| x_region <|
     p (v := .int .i64 q0v) (yl_move rfl) <| p (yl_neq rfl rfl) <| x_done <|
     x_cond_p (q0v ≠ 0) rfl (fun hc67 => ?_) (fun hc67 => ?_)
    ·replace hF := it_t hc67 hF
     refine x_seq <| x_region <| p (v := .int .i64 q0v) (yl_move rfl) <| p (v := .int .i64 q0v) (yl_assign rfl) <|
      x_done <| ?_
     have e_ := Option.some.inj (show some _ = some _ from hF); subst e_
     exact x_return ⟨_, ⟨_, _, rfl, rfl, rfl⟩, rfl, hS.drop.drop⟩
    ·replace hF := it_f hc67 hF
     replace hF := bd_s hF; obtain ⟨q0i, q22, hF⟩ := hF
     refine x_skip <| x_seq <| x_region <| pa (v := .agg #[.slice q6 n0.In.length c_n0_0, .slice q5 n0.Out.length c_n0_1, .slice q3 n0.Flops.length c_n0_2, .slice q2 n0.Gates.length c_n0_3, .slice q7 n0.Outs.length c_n0_4]) (ld_sub agg_30 q12 rfl rfl hS) <| ?_
     have hcall := c_netlist_First q22 q0s q0t q0l q0m q13 (hS.pull 2)
     refine o_cc call_22 (args1 rfl) ((Calls.mono hcall (fun e w'' h => And.intro h.1 ((h.2.pull 2).pull 2)))) ?_
     rintro e w' ⟨rfl, hS⟩
     refine ⟨_, rfl, ?_⟩
     refine p (v := .int .i64 q0i) (yl_assign rfl) <| x_done <| x_seq <| x_seq <|
      x_region <| p (yl_field0 fld_30_3 q12) <| pa (at_load one_28 rfl (hS.cell rfl)) <| p (yl_len_slice usl_28 rfl) <|
      p (yl_move rfl) <| x_done <| ?_
     replace hF := bs_s hF; obtain ⟨oL19, hLL19, hF⟩ := hF
     refine x_join (fun E w => (Sum.inl (())) = oL19 ∧ E 1 = .pointer (some ⟨b1, 0, none⟩) ∧ St w0 w (cells b1 30 [.slice q6 n0.In.length c_n0_0, .slice q5 n0.Out.length c_n0_1, .slice q3 n0.Flops.length c_n0_2, .slice q2 n0.Gates.length c_n0_3, .slice q7 n0.Outs.length c_n0_4] :: ro ρ :: l)) ?_ ?_
     ·refine x_block ?_
      refine x_loop (fun k_ E w => ∃ (q4 : Int), lp (P_netlist_Form_L19 n0 q0i) k_ q4 = some oL19 ∧ E 1 = .pointer (some ⟨b1, 0, none⟩) ∧ E 8 = .int .i64 q0i ∧ E 72 = .slice q2 n0.Gates.length c_n0_3 ∧ E 73 = .int .i64 (n0.Gates.length : Int) ∧ E 74 = .int .i64 q4 ∧ St w0 w (cells b1 30 [.slice q6 n0.In.length c_n0_0, .slice q5 n0.Out.length c_n0_1, .slice q3 n0.Flops.length c_n0_2, .slice q2 n0.Gates.length c_n0_3, .slice q7 n0.Outs.length c_n0_4] :: ro ρ :: l)) fuel ⟨0, hLL19, q12, rfl, rfl, rfl, rfl, (((hS.pull 1).drop.pull 1).pull 1)⟩ ?_
      rintro kL19 E w ⟨q4, hLL19, q1e, q1t, q15, q16, q0j, hS⟩
      replace hLL19 := lp_s hLL19; obtain ⟨kL19, obL19, rfl, hFL19, hLL19⟩ := hLL19
      refine x_seq <| x_region <| p (yl_lss q0j q16) <| x_done <|
       x_seq <|
       x_cond_p (q4 < (n0.Gates.length : Int)) rfl (fun hc75 => ?_) (fun hc75 => ?_)
      ·replace hFL19 := it_t hc75 hFL19
       replace hFL19 := ck_s hFL19; obtain ⟨q1o, hFL19⟩ := hFL19
       replace hFL19 := lv_s hFL19; obtain ⟨q0d, q23, hFL19⟩ := hFL19
       have q_ := q0m.get q1o; obtain ⟨q2k, q1p, q24⟩ := q_
       rw [← q23] at q1p
       obtain ⟨q0x, q2j, q0y, rfl, q0z⟩ := q1p
       have e_ := q0z.n; subst e_
       refine x_skip <| x_seq <| x_block <| x_seq <|
        x_region <| p (yl_move q0j) <| p (yix_f sl_28 q15 q0j q0m q1o) <| pa (v := .agg #[.int .i64 q0d.Cell, .int .u64 q0d.Table, .slice q0x q0d.Ins.length q0y]) (at_loadAgg agg_38 rfl rfl (Elt.every q24 (hS.pull 1))) <| ?_
       refine o_alloc zero_38 hS (fun b10 w' hS => ?_)
       refine p (yl_assign rfl) <| ?_
       refine o_storeAgg (news := [.int .i64 q0d.Cell, .int .u64 q0d.Table, .slice q0x q0d.Ins.length q0y]) agg_38 rfl rfl rfl (by simp [over_length]) hS (fun w' hS => ?_)
       refine x_done <| x_seq <| x_seq <| x_region <|
        p (yl_field0 fld_38_2 rfl) <| pa (at_load one_22 rfl (hS.cell rfl)) <| p (yl_len_slice usl_22 rfl) <| p (yl_gtr rfl rfl) <|
        x_done <|
        x_cond_p (6 < (q0d.Ins.length : Int)) rfl (fun hc82 => ?_) (fun hc82 => ?_)
       ·replace hFL19 := it_t hc82 hFL19
        refine x_seq <| x_region <| p (yl_assign rfl) <| x_done <| ?_
        have e_ := Option.some.inj (show some _ = some _ from hFL19); subst e_
        have e_ := (show _ = oL19 from hLL19); subst e_
        have e_ := Option.some.inj (show some _ = some _ from hF); subst e_
        exact x_return ⟨_, ⟨_, _, rfl, rfl, rfl⟩, rfl, hS.drop.drop⟩
       ·replace hFL19 := it_f hc82 hFL19
        replace hFL19 := bd_s hFL19; obtain ⟨q2h, q25, hFL19⟩ := hFL19
        replace hFL19 := lv_s hFL19; obtain ⟨x89, hx89, hFL19⟩ := hFL19
        refine x_skip <| x_seq <| x_seq <| x_still mixed (by kernel_rfl) hS <|
         q (yl_field0 fld_38_1 rfl) <| qa (fun w' hS => at_load one_35 rfl (hS.cell rfl)) <| q (yl_field0 fld_38_2 rfl) <| qa (fun w' hS => at_load one_22 rfl (hS.cell rfl)) <|
         q (yl_len_slice usl_22 rfl) <| qcc (v := .int .u64 q2h) call_172 (args1 rfl) (fun w' hS => by
          have hcall := c_netlist_Mask q25  (hS.pull 2)
          exact (Calls.mono hcall (fun e w'' h => And.intro h.1 ((h.2.pull 2).pull 2)))) <| q (yandNot rfl rfl hx89) <| q (yl_neq rfl rfl) <|
         q_done fun w' hS => ?_
        refine x_cond_p (x89 ≠ 0) rfl (fun hc90 => ?_) (fun hc90 => ?_)
        ·replace hFL19 := it_t hc90 hFL19
         refine x_seq <| x_region <| p (yl_assign rfl) <| x_done <| ?_
         have e_ := Option.some.inj (show some _ = some _ from hFL19); subst e_
         have e_ := (show _ = oL19 from hLL19); subst e_
         have e_ := Option.some.inj (show some _ = some _ from hF); subst e_
         exact x_return ⟨_, ⟨_, _, rfl, rfl, rfl⟩, rfl, hS.drop.drop⟩
        ·replace hFL19 := it_f hc90 hFL19
         refine x_skip <| x_seq <| x_region <| p (yl_field0 fld_38_2 rfl) <|
          pa (at_load one_22 rfl (hS.cell rfl)) <| p (yl_len_slice usl_22 rfl) <| p (yl_move rfl) <| x_done <| ?_
         replace hFL19 := bs_s hFL19; obtain ⟨oL26, hLL26, hFL19⟩ := hFL19
         refine x_join (fun E w => (Sum.inl (())) = oL26 ∧ E 1 = .pointer (some ⟨b1, 0, none⟩) ∧ E 8 = .int .i64 q0i ∧ E 72 = .slice q2 n0.Gates.length c_n0_3 ∧ E 73 = .int .i64 (n0.Gates.length : Int) ∧ E 74 = .int .i64 q4 ∧ St w0 w (cells b1 30 [.slice q6 n0.In.length c_n0_0, .slice q5 n0.Out.length c_n0_1, .slice q3 n0.Flops.length c_n0_2, .slice q2 n0.Gates.length c_n0_3, .slice q7 n0.Outs.length c_n0_4] :: ro ρ :: l)) ?_ ?_
         ·refine x_block ?_
          refine x_loop (fun k_ E w => ∃ (q0k : Int), lp (P_netlist_Form_L26 q0i q0d q4) k_ q0k = some oL26 ∧ E 1 = .pointer (some ⟨b1, 0, none⟩) ∧ E 8 = .int .i64 q0i ∧ E 9 = .int .i64 q4 ∧ E 72 = .slice q2 n0.Gates.length c_n0_3 ∧ E 73 = .int .i64 (n0.Gates.length : Int) ∧ E 74 = .int .i64 q4 ∧ E 92 = .slice q0x q0d.Ins.length q0y ∧ E 93 = .int .i64 (q0d.Ins.length : Int) ∧ E 94 = .int .i64 q0k ∧ St w0 w (cells b1 30 [.slice q6 n0.In.length c_n0_0, .slice q5 n0.Out.length c_n0_1, .slice q3 n0.Flops.length c_n0_2, .slice q2 n0.Gates.length c_n0_3, .slice q7 n0.Outs.length c_n0_4] :: ro ρ :: l)) fuel ⟨0, hLL26, q1e, q1t, rfl, q15, q16, q0j, rfl, rfl, rfl, ((hS.drop.pull 1).pull 1)⟩ ?_
          rintro kL26 E w ⟨q0k, hLL26, q1f, q10, q1g, q17, q18, q19, q1a, q1b, q0r, hS⟩
          replace hLL26 := lp_s hLL26; obtain ⟨kL26, obL26, rfl, hFL26, hLL26⟩ := hLL26
          refine x_seq <| x_region <| p (yl_lss q0r q1b) <| x_done <|
           x_seq <|
           x_cond_p (q0k < (q0d.Ins.length : Int)) rfl (fun hc95 => ?_) (fun hc95 => ?_)
          ·replace hFL26 := it_t hc95 hFL26
           replace hFL26 := ck_s hFL26; obtain ⟨q1q, hFL26⟩ := hFL26
           replace hFL26 := lv_s hFL26; obtain ⟨x97, hx97, hFL26⟩ := hFL26
           replace hFL26 := ck_s hFL26; obtain ⟨q26, hFL26⟩ := hFL26
           replace hFL26 := lv_s hFL26; obtain ⟨x104, hx104, hFL26⟩ := hFL26
           replace hFL26 := lv_s hFL26; obtain ⟨x106, hx106, hFL26⟩ := hFL26
           refine x_skip <| x_seq <| x_block <| x_seq <|
            x_region <| p (yix_f sl_22 q1a q0r q0z q1q) <| pa (at_load one_3 rfl (RdS.getW q0z (hS.pull 1) q1q hx97)) <| p (yl_assign rfl) <|
            x_done <| x_seq <| x_region <| p (yl_move rfl) <|
            p (yl_lss rfl rfl) <| p (yl_move rfl) <| pg (v := .int .i64 x97) 100 (c := !(decide (x97 < 0))) (says_f _) (fun hq => Yl.at (yl_move rfl)) <| pg (v := .int .i64 q0i) 100 (c := !(decide (x97 < 0))) (says_f _) (fun hq => Yl.at (yl_move q10)) <|
            pg (v := .int .i64 q4) 100 (c := !(decide (x97 < 0))) (says_f _) (fun hq => Yl.at (yl_move q1g)) <| pg (v := .int .i64 x104) 100 (c := !(decide (x97 < 0))) (says_f _) (fun hq => Yl.at (yadd (cv hq) (cv hq) ⟨hx104, (q26 hq)⟩)) <| pg (v := .bool (decide (x104 ≤ x97))) 100 (c := !(decide (x97 < 0))) (says_f _) (fun hq => Yl.at (yl_geq (cv hq) (cv hq))) <| p (yor' rfl rfl (fun hc => (cv (t_not hc))) hx106) <|
            x_done <|
            x_cond (t := x106) rfl (fun hc106 => ?_) (fun hc106 => ?_)
           ·replace hFL26 := it_t hc106 hFL26
            refine x_seq <| x_region <| p (yl_assign rfl) <| x_done <| ?_
            have e_ := Option.some.inj (show some _ = some _ from hFL26); subst e_
            have e_ := (show _ = oL26 from hLL26); subst e_
            have e_ := Option.some.inj (show some _ = some _ from hFL19); subst e_
            have e_ := (show _ = oL19 from hLL19); subst e_
            have e_ := Option.some.inj (show some _ = some _ from hF); subst e_
            exact x_return ⟨_, ⟨_, _, rfl, rfl, rfl⟩, rfl, hS.drop⟩
           ·replace hFL26 := it_bf hc106 hFL26
            replace hFL26 := ar_s hFL26; obtain ⟨x107, hx107, hFL26⟩ := hFL26
            refine x_skip <| x_blk <| x_region <| p (yadd q0r rfl hx107) <|
             p (yl_move rfl) <| x_done <| ?_
            have e_ := Option.some.inj (show some _ = some _ from hFL26); subst e_
            exact x_inv ⟨kL26, Nat.lt_succ_self _, x107, hLL26, q1f, q10, q1g, q17, q18, q19, q1a, q1b, rfl, ((hS.pull 1).pull 1)⟩
          ·replace hFL26 := it_f hc95 hFL26
           refine x_exitTo _ rfl <| ?_
           have e_ := Option.some.inj (show some _ = some _ from hFL26); subst e_
           exact x_inv ⟨hLL26, q1f, q10, q17, q18, q19, ((hS.pull 1).pull 1)⟩
         rintro E w ⟨rfl, q27, q28, q1u, q1v, q1w, hS⟩
         replace hFL19 := ar_s hFL19; obtain ⟨x108, hx108, hFL19⟩ := hFL19
         refine x_blk <| x_region <| p (yadd q1w rfl hx108) <| p (yl_move rfl) <|
          x_done <| ?_
         have e_ := Option.some.inj (show some _ = some _ from hFL19); subst e_
         exact x_inv ⟨kL19, Nat.lt_succ_self _, x108, hLL19, q27, q28, q1u, q1v, rfl, ((hS.pull 1).pull 1)⟩
      ·replace hFL19 := it_f hc75 hFL19
       refine x_exitTo _ rfl <| ?_
       have e_ := Option.some.inj (show some _ = some _ from hFL19); subst e_
       exact x_inv ⟨hLL19, q1e, ((hS.pull 1).pull 1)⟩
     rintro E w ⟨rfl, q29, hS⟩
     replace hF := bd_s hF; obtain ⟨q2i, q2a, hF⟩ := hF
     refine x_seq <| x_region <| pa (v := .agg #[.slice q6 n0.In.length c_n0_0, .slice q5 n0.Out.length c_n0_1, .slice q3 n0.Flops.length c_n0_2, .slice q2 n0.Gates.length c_n0_3, .slice q7 n0.Outs.length c_n0_4]) (ld_sub agg_30 q29 rfl rfl hS) <| ?_
     have hcall := c_netlist_ends q2a q0s q0t q0l q0m q13 (hS.pull 1)
     refine o_cc call_173 (args1 rfl) ((Calls.mono hcall (fun e w'' h => And.intro h.1 (h.2.pull 1)))) ?_
     rintro e w' ⟨rfl, hS⟩
     refine ⟨_, rfl, ?_⟩
     refine p (v := .int .i64 q2i) (yl_assign rfl) <| x_done <| ?_
     have e_ := Option.some.inj (show some _ = some _ from hF); subst e_
     exact x_return ⟨_, ⟨_, _, rfl, rfl, rfl⟩, rfl, hS.drop⟩
attribute [irreducible] P_netlist_Form

def P_netlist_gate (x0 : T_api_Gate) (lib1 : List T_api_Cell) : Option Int :=
 if x0.Cell = (-1) then
  some (0 : Int)
 else
  lv ((decide (x0.Cell < (-1))) || (decide ((lib1.length : Int) ≤ x0.Cell))) fun x19 =>
  if x19 = true then
   some (7 : Int)
  else
   ck (inb x0.Cell lib1.length) <|
   lv (gt lib1 x0.Cell) fun q3 =>
   if q3.Flop = true then
    some (8 : Int)
   else
    ck (inb x0.Cell lib1.length) <|
    lv (gt lib1 x0.Cell) fun q2 =>
    ck ((!(decide (q2.Ins ≠ (x0.Ins.length : Int)))) = true → inb x0.Cell lib1.length) <|
    lv ((decide (q2.Ins ≠ (x0.Ins.length : Int))) || (decide (((gt lib1 x0.Cell).Table) ≠ x0.Table))) fun x48 =>
    if x48 = true then
     some (4 : Int)
    else
     some (0 : Int)
set_option maxHeartbeats 4000000 in
set_option maxRecDepth 100000 in
theorem c_netlist_gate {w0 w : World} {l : List Assn} {ρ : Heap} {q5 : Option Addr} {q6 : Nat} {c_x0_2 : Nat} {q3 : Option Addr} {q7 : Nat} {c_lib1 : Nat} {x0 : T_api_Gate} {lib1 : List T_api_Cell} {r : Int} (hF : P_netlist_gate x0 lib1 = some r) (q0d : RdS (RpI .i64) ρ q5 q6 c_x0_2 x0.Ins) (q2 : RdS R_api_Cell ρ q3 q7 c_lib1 lib1) (hS : St w0 w (ro ρ :: l)) :
  Calls Tryd.prog 150 #[.agg #[.int .i64 x0.Cell, .int .u64 x0.Table, .slice q5 q6 c_x0_2], .slice q3 q7 c_lib1] w fun e w' => e = .returned (.int .i64 r) ∧ St w0 w' (ro ρ :: l) := by
 have e_ := q0d.n; subst e_
 have e_ := q2.n; subst e_
 refine enterC Tryd.func150 rfl 49 rfl (by simp) ?_
 refine x_seq <| x_region <| ?_
 refine o_box (cs := [.int .i64 x0.Cell, .int .u64 x0.Table, .slice q5 x0.Ins.length c_x0_2]) rfl rfl hS (fun b2 w' hS => ?_)
 refine p (yl_assign rfl) <| x_done <| x_seq <| x_block <|
  x_seq <| x_region <| p (yl_field0 fld_38_0 rfl) <| pa (at_load one_3 rfl (hS.cell rfl)) <|
  p (yl_eql rfl rfl) <| p (yl_assign rfl) <| x_done <|
  x_cond_p (x0.Cell = (-1)) rfl (fun hc5 => ?_) (fun hc5 => ?_)
 ·replace hF := it_t hc5 hF
  refine x_seq <| x_region <| p (yl_assign rfl) <| x_done <| ?_
  have e_ := Option.some.inj (show some _ = some _ from hF); subst e_
  exact x_return ⟨_, ⟨_, _, rfl, rfl, rfl⟩, rfl, hS.drop⟩
 ·replace hF := it_f hc5 hF
  replace hF := lv_s hF; obtain ⟨x19, hx19, hF⟩ := hF
  refine x_seq <| x_region <| p (yl_field0 fld_38_0 rfl) <| pa (at_load one_3 rfl (hS.cell rfl)) <|
   p (yl_lss rfl rfl) <| p (yl_move rfl) <| pg (v := .pointer (some ⟨b2, 0, none⟩)) 13 (c := !(decide (x0.Cell < (-1)))) (says_f _) (fun hq => Yl.at (yl_field0 fld_38_0 rfl)) <| pg (v := .int .i64 x0.Cell) 13 (c := !(decide (x0.Cell < (-1)))) (says_f _) (fun hq => at_load one_3 (cv hq) (hS.cell rfl)) <|
   pg (v := .slice q3 lib1.length c_lib1) 13 (c := !(decide (x0.Cell < (-1)))) (says_f _) (fun hq => Yl.at (yl_move rfl)) <| pg (v := .int .i64 (lib1.length : Int)) 13 (c := !(decide (x0.Cell < (-1)))) (says_f _) (fun hq => Yl.at (yl_len_slice usl_31 (cv hq))) <| pg (v := .bool (decide ((lib1.length : Int) ≤ x0.Cell))) 13 (c := !(decide (x0.Cell < (-1)))) (says_f _) (fun hq => Yl.at (yl_geq (cv hq) (cv hq))) <| p (yor' rfl rfl (fun hc => (cv (t_not hc))) hx19) <|
   p (yl_assign rfl) <| x_done <|
   x_cond (t := x19) rfl (fun hc9 => ?_) (fun hc9 => ?_)
  ·replace hF := it_t hc9 hF
   refine x_seq <| x_region <| p (yl_assign rfl) <| x_done <| ?_
   have e_ := Option.some.inj (show some _ = some _ from hF); subst e_
   exact x_return ⟨_, ⟨_, _, rfl, rfl, rfl⟩, rfl, hS.drop⟩
  ·replace hF := it_bf hc9 hF
   replace hF := ck_s hF; obtain ⟨q9, hF⟩ := hF
   replace hF := lv_s hF; obtain ⟨q0o, q0k, hF⟩ := hF
   have q_ := q2.get q9; obtain ⟨q17, q0a, q0l⟩ := q_
   rw [← q0k] at q0a
   obtain ⟨q0p, q0q, q0r, q0s, q0t, q0u, q0v, q0w, q0x, rfl, q0e, q0f, q0g⟩ := q0a
   have e_ := q0e.n; subst e_
   have e_ := q0f.n; subst e_
   have e_ := q0g.n; subst e_
   refine x_seq <| x_region <| p (yl_move rfl) <| p (yl_field0 fld_38_0 rfl) <|
    pa (at_load one_3 rfl (hS.cell rfl)) <| p (yix_f sl_31 rfl rfl q2 q9) <| p (yl_fieldAddr fld_206_1 rfl) <| pa (at_load one_4 rfl (Elt.ld (j := 1) q0l (hS.pull 1) rfl)) <|
    p (yl_assign rfl) <| x_done <|
    x_cond (t := q0o.Flop) rfl (fun hc20 => ?_) (fun hc20 => ?_)
   ·replace hF := it_t hc20 hF
    refine x_seq <| x_region <| p (yl_assign rfl) <| x_done <| ?_
    have e_ := Option.some.inj (show some _ = some _ from hF); subst e_
    exact x_return ⟨_, ⟨_, _, rfl, rfl, rfl⟩, rfl, hS.drop⟩
   ·replace hF := it_bf hc20 hF
    replace hF := ck_s hF; obtain ⟨q0b, hF⟩ := hF
    replace hF := lv_s hF; obtain ⟨q4, q0m, hF⟩ := hF
    have q_ := q2.get q0b; obtain ⟨q18, q0c, q0n⟩ := q_
    rw [← q0m] at q0c
    obtain ⟨q0y, q0z, q10, q11, q12, q13, q14, q15, q16, rfl, q0h, q0i, q0j⟩ := q0c
    have e_ := q0h.n; subst e_
    have e_ := q0i.n; subst e_
    have e_ := q0j.n; subst e_
    replace hF := ck_s hF; obtain ⟨q8, hF⟩ := hF
    replace hF := lv_s hF; obtain ⟨x48, hx48, hF⟩ := hF
    refine x_seq <| x_still mixed (by kernel_rfl) hS <| q (yl_move rfl) <| q (yl_field0 fld_38_0 rfl) <|
     qa (fun w' hS => at_load one_3 rfl (hS.cell rfl)) <| q (yix_f sl_31 rfl rfl q2 q0b) <| q (yl_fieldAddr fld_206_2 rfl) <| qa (fun w' hS => at_load one_3 rfl (Elt.ld (j := 2) q0n (hS.pull 1) rfl)) <|
     q (yl_field0 fld_38_2 rfl) <| qa (fun w' hS => at_load one_22 rfl (hS.cell rfl)) <| q (yl_len_slice usl_22 rfl) <| q (yl_neq rfl rfl) <|
     q (yl_move rfl) <| qg (v := .slice q3 lib1.length c_lib1) 38 (c := !(decide (q4.Ins ≠ (x0.Ins.length : Int)))) (says_f _) (fun hq w' hS => Yl.at (yl_move rfl)) <| qg (v := .pointer (some ⟨b2, 0, none⟩)) 38 (c := !(decide (q4.Ins ≠ (x0.Ins.length : Int)))) (says_f _) (fun hq w' hS => Yl.at (yl_field0 fld_38_0 rfl)) <| qg (v := .int .i64 x0.Cell) 38 (c := !(decide (q4.Ins ≠ (x0.Ins.length : Int)))) (says_f _) (fun hq w' hS => at_load one_3 (cv hq) (hS.cell rfl)) <|
     qg (v := .pointer (some ((adr q3).add (x0.Cell.toNat * R_api_Cell.sz)))) 38 (c := !(decide (q4.Ins ≠ (x0.Ins.length : Int)))) (says_f _) (fun hq w' hS => Yl.at (yix_f sl_31 (cv hq) (cv hq) q2 (q8 hq))) <| qg (v := .pointer (some (((adr q3).add (x0.Cell.toNat * R_api_Cell.sz)).add 3))) 38 (c := !(decide (q4.Ins ≠ (x0.Ins.length : Int)))) (says_f _) (fun hq w' hS => Yl.at (yl_fieldAddr fld_206_3 (cv hq))) <| qg (v := .int .u64 ((gt lib1 x0.Cell).Table)) 38 (c := !(decide (q4.Ins ≠ (x0.Ins.length : Int)))) (says_f _) (fun hq w' hS => (by obtain ⟨el, ek, ee⟩ := q2.get (q8 hq); obtain ⟨_q0, _q1, _q2, _q3, _q4, _q5, _q6, _q7, _q8, rfl, -⟩ := ek; exact at_load one_35 (cv hq) (Elt.ld (j := 3) ee (hS.pull 1) rfl))) <| qg (v := .pointer (some ⟨b2, 1, none⟩)) 38 (c := !(decide (q4.Ins ≠ (x0.Ins.length : Int)))) (says_f _) (fun hq w' hS => Yl.at (yl_field0 fld_38_1 rfl)) <|
     qg (v := .int .u64 x0.Table) 38 (c := !(decide (q4.Ins ≠ (x0.Ins.length : Int)))) (says_f _) (fun hq w' hS => at_load one_35 (cv hq) (hS.cell rfl)) <| qg (v := .bool (decide (((gt lib1 x0.Cell).Table) ≠ x0.Table))) 38 (c := !(decide (q4.Ins ≠ (x0.Ins.length : Int)))) (says_f _) (fun hq w' hS => Yl.at (yl_neq (cv hq) (cv hq))) <| q (yor' rfl rfl (fun hc => (cv (t_not hc))) hx48) <| q (yl_assign rfl) <|
     q_done fun w' hS => ?_
    refine x_cond (t := x48) rfl (fun hc27 => ?_) (fun hc27 => ?_)
    ·replace hF := it_t hc27 hF
     refine x_seq <| x_region <| p (yl_assign rfl) <| x_done <| ?_
     have e_ := Option.some.inj (show some _ = some _ from hF); subst e_
     exact x_return ⟨_, ⟨_, _, rfl, rfl, rfl⟩, rfl, hS.drop⟩
    ·replace hF := it_bf hc27 hF
     refine x_skip <| x_blk <| x_seq <| x_region <|
      p (yl_assign rfl) <| x_done <| ?_
     have e_ := Option.some.inj (show some _ = some _ from hF); subst e_
     exact x_return ⟨_, ⟨_, _, rfl, rfl, rfl⟩, rfl, hS.drop⟩
attribute [irreducible] P_netlist_gate

def P_netlist_flop (f0 : T_api_Flop) (lib1 : List T_api_Cell) : Option Int :=
 if f0.Cell = (-1) then
  some (0 : Int)
 else
  lv ((decide (f0.Cell < (-1))) || (decide ((lib1.length : Int) ≤ f0.Cell))) fun x19 =>
  if x19 = true then
   some (7 : Int)
  else
   ck (inb f0.Cell lib1.length) <|
   lv (gt lib1 f0.Cell) fun q2 =>
   if (!q2.Flop) = true then
    some (8 : Int)
   else
    ck (inb f0.Cell lib1.length) <|
    lv (gt lib1 f0.Cell) fun q3 =>
    lv ((decide (q3.Ins = 1)) && (decide (f0.En ≠ 1))) fun x40 =>
    if x40 = true then
     some (4 : Int)
    else
     some (0 : Int)
set_option maxHeartbeats 4000000 in
set_option maxRecDepth 100000 in
theorem c_netlist_flop {w0 w : World} {l : List Assn} {ρ : Heap} {q3 : Option Addr} {q4 : Nat} {c_lib1 : Nat} {f0 : T_api_Flop} {lib1 : List T_api_Cell} {r : Int} (hF : P_netlist_flop f0 lib1 = some r) (q2 : RdS R_api_Cell ρ q3 q4 c_lib1 lib1) (hS : St w0 w (ro ρ :: l)) :
  Calls Tryd.prog 151 #[.agg #[.string f0.Name, .int .i64 f0.Cell, .int .i64 f0.D, .int .i64 f0.En, .bool f0.Init], .slice q3 q4 c_lib1] w fun e w' => e = .returned (.int .i64 r) ∧ St w0 w' (ro ρ :: l) := by
 have e_ := q2.n; subst e_
 refine enterC Tryd.func151 rfl 41 rfl (by simp) ?_
 refine x_seq <| x_region <| ?_
 refine o_box (cs := [.string f0.Name, .int .i64 f0.Cell, .int .i64 f0.D, .int .i64 f0.En, .bool f0.Init]) rfl rfl hS (fun b2 w' hS => ?_)
 refine p (yl_assign rfl) <| x_done <| x_seq <| x_block <|
  x_seq <| x_region <| p (yl_field0 fld_135_1 rfl) <| pa (at_load one_3 rfl (hS.cell rfl)) <|
  p (yl_eql rfl rfl) <| p (yl_assign rfl) <| x_done <|
  x_cond_p (f0.Cell = (-1)) rfl (fun hc5 => ?_) (fun hc5 => ?_)
 ·replace hF := it_t hc5 hF
  refine x_seq <| x_region <| p (yl_assign rfl) <| x_done <| ?_
  have e_ := Option.some.inj (show some _ = some _ from hF); subst e_
  exact x_return ⟨_, ⟨_, _, rfl, rfl, rfl⟩, rfl, hS.drop⟩
 ·replace hF := it_f hc5 hF
  replace hF := lv_s hF; obtain ⟨x19, hx19, hF⟩ := hF
  refine x_seq <| x_region <| p (yl_field0 fld_135_1 rfl) <| pa (at_load one_3 rfl (hS.cell rfl)) <|
   p (yl_lss rfl rfl) <| p (yl_move rfl) <| pg (v := .pointer (some ⟨b2, 1, none⟩)) 13 (c := !(decide (f0.Cell < (-1)))) (says_f _) (fun hq => Yl.at (yl_field0 fld_135_1 rfl)) <| pg (v := .int .i64 f0.Cell) 13 (c := !(decide (f0.Cell < (-1)))) (says_f _) (fun hq => at_load one_3 (cv hq) (hS.cell rfl)) <|
   pg (v := .slice q3 lib1.length c_lib1) 13 (c := !(decide (f0.Cell < (-1)))) (says_f _) (fun hq => Yl.at (yl_move rfl)) <| pg (v := .int .i64 (lib1.length : Int)) 13 (c := !(decide (f0.Cell < (-1)))) (says_f _) (fun hq => Yl.at (yl_len_slice usl_31 (cv hq))) <| pg (v := .bool (decide ((lib1.length : Int) ≤ f0.Cell))) 13 (c := !(decide (f0.Cell < (-1)))) (says_f _) (fun hq => Yl.at (yl_geq (cv hq) (cv hq))) <| p (yor' rfl rfl (fun hc => (cv (t_not hc))) hx19) <|
   p (yl_assign rfl) <| x_done <|
   x_cond (t := x19) rfl (fun hc9 => ?_) (fun hc9 => ?_)
  ·replace hF := it_t hc9 hF
   refine x_seq <| x_region <| p (yl_assign rfl) <| x_done <| ?_
   have e_ := Option.some.inj (show some _ = some _ from hF); subst e_
   exact x_return ⟨_, ⟨_, _, rfl, rfl, rfl⟩, rfl, hS.drop⟩
  ·replace hF := it_bf hc9 hF
   replace hF := ck_s hF; obtain ⟨q6, hF⟩ := hF
   replace hF := lv_s hF; obtain ⟨q0k, q0g, hF⟩ := hF
   have q_ := q2.get q6; obtain ⟨q13, q7, q0h⟩ := q_
   rw [← q0g] at q7
   obtain ⟨q0l, q0m, q0n, q0o, q0p, q0q, q0r, q0s, q0t, rfl, q0a, q0b, q0c⟩ := q7
   have e_ := q0a.n; subst e_
   have e_ := q0b.n; subst e_
   have e_ := q0c.n; subst e_
   refine x_seq <| x_region <| p (yl_move rfl) <| p (yl_field0 fld_135_1 rfl) <|
    pa (at_load one_3 rfl (hS.cell rfl)) <| p (yix_f sl_31 rfl rfl q2 q6) <| p (yl_fieldAddr fld_206_1 rfl) <| pa (at_load one_4 rfl (Elt.ld (j := 1) q0h (hS.pull 1) rfl)) <|
    p (yl_not rfl) <| p (yl_assign rfl) <| x_done <|
    x_cond (t := !q0k.Flop) rfl (fun hc20 => ?_) (fun hc20 => ?_)
   ·replace hF := it_t hc20 hF
    refine x_seq <| x_region <| p (yl_assign rfl) <| x_done <| ?_
    have e_ := Option.some.inj (show some _ = some _ from hF); subst e_
    exact x_return ⟨_, ⟨_, _, rfl, rfl, rfl⟩, rfl, hS.drop⟩
   ·replace hF := it_bf hc20 hF
    replace hF := ck_s hF; obtain ⟨q8, hF⟩ := hF
    replace hF := lv_s hF; obtain ⟨q5, q0i, hF⟩ := hF
    have q_ := q2.get q8; obtain ⟨q14, q9, q0j⟩ := q_
    rw [← q0i] at q9
    obtain ⟨q0u, q0v, q0w, q0x, q0y, q0z, q10, q11, q12, rfl, q0d, q0e, q0f⟩ := q9
    have e_ := q0d.n; subst e_
    have e_ := q0e.n; subst e_
    have e_ := q0f.n; subst e_
    replace hF := lv_s hF; obtain ⟨x40, hx40, hF⟩ := hF
    refine x_seq <| x_region <| p (yl_move rfl) <| p (yl_field0 fld_135_1 rfl) <|
     pa (at_load one_3 rfl (hS.cell rfl)) <| p (yix_f sl_31 rfl rfl q2 q8) <| p (yl_fieldAddr fld_206_2 rfl) <| pa (at_load one_3 rfl (Elt.ld (j := 2) q0j (hS.pull 1) rfl)) <|
     p (yl_eql rfl rfl) <| p (yl_move rfl) <| pg (v := .pointer (some ⟨b2, 3, none⟩)) 36 (c := decide (q5.Ins = 1)) (says_t _) (fun hq => Yl.at (yl_field0 fld_135_3 rfl)) <| pg (v := .int .i64 f0.En) 36 (c := decide (q5.Ins = 1)) (says_t _) (fun hq => at_load one_3 (cv hq) (hS.cell rfl)) <|
     pg (v := .bool (decide (f0.En ≠ 1))) 36 (c := decide (q5.Ins = 1)) (says_t _) (fun hq => Yl.at (yl_neq (cv hq) rfl)) <| p (yand' rfl (fun hc => (cv hc)) rfl hx40) <| p (yl_assign rfl) <| x_done <|
     x_cond (t := x40) rfl (fun hc28 => ?_) (fun hc28 => ?_)
    ·replace hF := it_t hc28 hF
     refine x_seq <| x_region <| p (yl_assign rfl) <| x_done <| ?_
     have e_ := Option.some.inj (show some _ = some _ from hF); subst e_
     exact x_return ⟨_, ⟨_, _, rfl, rfl, rfl⟩, rfl, hS.drop⟩
    ·replace hF := it_bf hc28 hF
     refine x_skip <| x_blk <| x_seq <| x_region <|
      p (yl_assign rfl) <| x_done <| ?_
     have e_ := Option.some.inj (show some _ = some _ from hF); subst e_
     exact x_return ⟨_, ⟨_, _, rfl, rfl, rfl⟩, rfl, hS.drop⟩
attribute [irreducible] P_netlist_flop

def P_netlist_Check_L5 (n0 : T_api_Netlist) (lib1 : List T_api_Cell) : Int → Option (Int ⊕ (Unit ⊕ Int)) := fun q2 =>
 if q2 < (n0.Gates.length : Int) then
  ck (inb q2 n0.Gates.length) <|
  lv (gt n0.Gates q2) fun q4 =>
  bd (P_netlist_gate q4 lib1) fun q3 =>
  if q3 ≠ 0 then
   some (Sum.inr (Sum.inr q3))
  else
   ar (q2 + 1) fun x30 =>
   some (Sum.inl x30)
 else
  some (Sum.inr (Sum.inl ()))
def P_netlist_Check_L12 (n0 : T_api_Netlist) (lib1 : List T_api_Cell) : Int → Option (Int ⊕ (Unit ⊕ Int)) := fun q2 =>
 if q2 < (n0.Flops.length : Int) then
  ck (inb q2 n0.Flops.length) <|
  lv (gt n0.Flops q2) fun q4 =>
  bd (P_netlist_flop q4 lib1) fun q3 =>
  if q3 ≠ 0 then
   some (Sum.inr (Sum.inr q3))
  else
   ar (q2 + 1) fun x44 =>
   some (Sum.inl x44)
 else
  some (Sum.inr (Sum.inl ()))
def P_netlist_Check (n0 : T_api_Netlist) (lib1 : List T_api_Cell) : Option Int :=
 bd (P_netlist_Form n0) fun q2 =>
 if q2 ≠ 0 then
  some q2
 else
  bs (
   lp (P_netlist_Check_L5 n0 lib1) fuel 0) (fun y => some y) fun _ =>
  bs (
   lp (P_netlist_Check_L12 n0 lib1) fuel 0) (fun y => some y) fun _ =>
  some (0 : Int)
set_option maxHeartbeats 4000000 in
set_option maxRecDepth 100000 in
theorem c_netlist_Check {w0 w : World} {l : List Assn} {ρ : Heap} {q5 : Option Addr} {q0s : Nat} {c_n0_0 : Nat} {q6 : Option Addr} {q0t : Nat} {c_n0_1 : Nat} {q3 : Option Addr} {q0u : Nat} {c_n0_2 : Nat} {q4 : Option Addr} {q0v : Nat} {c_n0_3 : Nat} {q7 : Option Addr} {q0w : Nat} {c_n0_4 : Nat} {q0a : Option Addr} {q0x : Nat} {c_lib1 : Nat} {n0 : T_api_Netlist} {lib1 : List T_api_Cell} {r : Int} (hF : P_netlist_Check n0 lib1 = some r) (q0y : RdS RpS ρ q5 q0s c_n0_0 n0.In) (q0z : RdS RpS ρ q6 q0t c_n0_1 n0.Out) (q0d : RdS R_api_Flop ρ q3 q0u c_n0_2 n0.Flops) (q0e : RdS R_api_Gate ρ q4 q0v c_n0_3 n0.Gates) (q10 : RdS (RpI .i64) ρ q7 q0w c_n0_4 n0.Outs) (q0h : RdS R_api_Cell ρ q0a q0x c_lib1 lib1) (hS : St w0 w (ro ρ :: l)) :
  Calls Tryd.prog 105 #[.agg #[.slice q5 q0s c_n0_0, .slice q6 q0t c_n0_1, .slice q3 q0u c_n0_2, .slice q4 q0v c_n0_3, .slice q7 q0w c_n0_4], .slice q0a q0x c_lib1] w fun e w' => e = .returned (.int .i64 r) ∧ St w0 w' (ro ρ :: l) := by
 have e_ := q0y.n; subst e_
 have e_ := q0z.n; subst e_
 have e_ := q0d.n; subst e_
 have e_ := q0e.n; subst e_
 have e_ := q10.n; subst e_
 have e_ := q0h.n; subst e_
 refine enterC Tryd.func105 rfl 45 rfl (by simp) ?_
 refine x_seq <| x_region <| ?_
 refine o_box (cs := [.slice q5 n0.In.length c_n0_0, .slice q6 n0.Out.length c_n0_1, .slice q3 n0.Flops.length c_n0_2, .slice q4 n0.Gates.length c_n0_3, .slice q7 n0.Outs.length c_n0_4]) rfl rfl hS (fun b2 w' hS => ?_)
 replace hF := bd_s hF; obtain ⟨q0i, q1a, hF⟩ := hF
 refine p (yl_assign rfl) <| x_done <| x_seq <| x_seq <|
  x_region <| pa (v := .agg #[.slice q5 n0.In.length c_n0_0, .slice q6 n0.Out.length c_n0_1, .slice q3 n0.Flops.length c_n0_2, .slice q4 n0.Gates.length c_n0_3, .slice q7 n0.Outs.length c_n0_4]) (ld_sub agg_30 rfl rfl rfl hS) <| ?_
 have hcall := c_netlist_Form q1a q0y q0z q0d q0e q10 (hS.pull 1)
 refine o_cc call_149 (args1 rfl) ((Calls.mono hcall (fun e w'' h => And.intro h.1 (h.2.pull 1)))) ?_
 rintro e w' ⟨rfl, hS⟩
 refine ⟨_, rfl, ?_⟩
 refine p (v := .int .i64 q0i) (yl_assign rfl) <| x_done <| x_seq <| x_region <|
  p (v := .int .i64 q0i) (yl_move rfl) <| p (yl_neq rfl rfl) <| x_done <|
  x_cond_p (q0i ≠ 0) rfl (fun hc15 => ?_) (fun hc15 => ?_)
 ·replace hF := it_t hc15 hF
  refine x_seq <| x_region <| p (v := .int .i64 q0i) (yl_move rfl) <| p (v := .int .i64 q0i) (yl_assign rfl) <|
   x_done <| ?_
  have e_ := Option.some.inj (show some _ = some _ from hF); subst e_
  exact x_return ⟨_, ⟨_, _, rfl, rfl, rfl⟩, rfl, hS.drop⟩
 ·replace hF := it_f hc15 hF
  refine x_skip <| x_seq <| x_seq <| x_region <|
   p (yl_field0 fld_30_3 rfl) <| pa (at_load one_28 rfl (hS.cell rfl)) <| p (yl_len_slice usl_28 rfl) <| p (yl_move rfl) <|
   x_done <| ?_
  replace hF := bs_s hF; obtain ⟨oL5, hLL5, hF⟩ := hF
  refine x_join (fun E w => (Sum.inl (())) = oL5 ∧ E 1 = .slice q0a lib1.length c_lib1 ∧ E 2 = .pointer (some ⟨b2, 0, none⟩) ∧ St w0 w (cells b2 30 [.slice q5 n0.In.length c_n0_0, .slice q6 n0.Out.length c_n0_1, .slice q3 n0.Flops.length c_n0_2, .slice q4 n0.Gates.length c_n0_3, .slice q7 n0.Outs.length c_n0_4] :: ro ρ :: l)) ?_ ?_
  ·refine x_block ?_
   refine x_loop (fun k_ E w => ∃ (q0b : Int), lp (P_netlist_Check_L5 n0 lib1) k_ q0b = some oL5 ∧ E 1 = .slice q0a lib1.length c_lib1 ∧ E 2 = .pointer (some ⟨b2, 0, none⟩) ∧ E 18 = .slice q4 n0.Gates.length c_n0_3 ∧ E 19 = .int .i64 (n0.Gates.length : Int) ∧ E 20 = .int .i64 q0b ∧ St w0 w (cells b2 30 [.slice q5 n0.In.length c_n0_0, .slice q6 n0.Out.length c_n0_1, .slice q3 n0.Flops.length c_n0_2, .slice q4 n0.Gates.length c_n0_3, .slice q7 n0.Outs.length c_n0_4] :: ro ρ :: l)) fuel ⟨0, hLL5, rfl, rfl, rfl, rfl, rfl, ((hS.pull 1).pull 1)⟩ ?_
   rintro kL5 E w ⟨q0b, hLL5, q0j, q11, q0p, q0q, q0g, hS⟩
   replace hLL5 := lp_s hLL5; obtain ⟨kL5, obL5, rfl, hFL5, hLL5⟩ := hLL5
   refine x_seq <| x_region <| p (yl_lss q0g q0q) <| x_done <|
    x_seq <|
    x_cond_p (q0b < (n0.Gates.length : Int)) rfl (fun hc21 => ?_) (fun hc21 => ?_)
   ·replace hFL5 := it_t hc21 hFL5
    replace hFL5 := ck_s hFL5; obtain ⟨q15, hFL5⟩ := hFL5
    replace hFL5 := lv_s hFL5; obtain ⟨q8, q1b, hFL5⟩ := hFL5
    have q_ := q0e.get q15; obtain ⟨q1i, q16, q1c⟩ := q_
    rw [← q1b] at q16
    obtain ⟨q0k, q1g, q0l, rfl, q12⟩ := q16
    have e_ := q12.n; subst e_
    refine x_skip <| x_seq <| x_block <| x_seq <|
     x_region <| p (yix_f sl_28 q0p q0g q0e q15) <| pa (v := .agg #[.int .i64 q8.Cell, .int .u64 q8.Table, .slice q0k q8.Ins.length q0l]) (at_loadAgg agg_38 rfl rfl (Elt.every q1c (hS.pull 1))) <| ?_
    refine o_alloc zero_38 hS (fun b7 w' hS => ?_)
    refine o_storeAgg (news := [.int .i64 q8.Cell, .int .u64 q8.Table, .slice q0k q8.Ins.length q0l]) agg_38 rfl rfl rfl (by simp [over_length]) hS (fun w' hS => ?_)
    replace hFL5 := bd_s hFL5; obtain ⟨q0m, q1d, hFL5⟩ := hFL5
    refine x_done <| x_seq <| x_region <| pa (v := .agg #[.int .i64 q8.Cell, .int .u64 q8.Table, .slice q0k q8.Ins.length q0l]) (ld_sub agg_38 rfl rfl rfl hS) <|
     p (yl_move q0j) <| ?_
    have hcall := c_netlist_gate q1d q12 q0h (hS.pull 2)
    refine o_cc call_150 (args2 rfl rfl) ((Calls.mono hcall (fun e w'' h => And.intro h.1 ((h.2.pull 2).pull 2)))) ?_
    rintro e w' ⟨rfl, hS⟩
    refine ⟨_, rfl, ?_⟩
    refine p (v := .int .i64 q0m) (yl_assign rfl) <| x_done <| x_seq <| x_region <|
     p (v := .int .i64 q0m) (yl_move rfl) <| p (yl_neq rfl rfl) <| x_done <|
     x_cond_p (q0m ≠ 0) rfl (fun hc28 => ?_) (fun hc28 => ?_)
    ·replace hFL5 := it_t hc28 hFL5
     refine x_seq <| x_region <| p (v := .int .i64 q0m) (yl_move rfl) <| p (v := .int .i64 q0m) (yl_assign rfl) <|
      x_done <| ?_
     have e_ := Option.some.inj (show some _ = some _ from hFL5); subst e_
     have e_ := (show _ = oL5 from hLL5); subst e_
     have e_ := Option.some.inj (show some _ = some _ from hF); subst e_
     exact x_return ⟨_, ⟨_, _, rfl, rfl, rfl⟩, rfl, hS.drop.drop⟩
    ·replace hFL5 := it_f hc28 hFL5
     replace hFL5 := ar_s hFL5; obtain ⟨x30, hx30, hFL5⟩ := hFL5
     refine x_skip <| x_blk <| x_region <| p (yadd q0g rfl hx30) <|
      p (yl_move rfl) <| x_done <| ?_
     have e_ := Option.some.inj (show some _ = some _ from hFL5); subst e_
     exact x_inv ⟨kL5, Nat.lt_succ_self _, x30, hLL5, q0j, q11, q0p, q0q, rfl, ((hS.drop.pull 1).pull 1)⟩
   ·replace hFL5 := it_f hc21 hFL5
    refine x_exitTo _ rfl <| ?_
    have e_ := Option.some.inj (show some _ = some _ from hFL5); subst e_
    exact x_inv ⟨hLL5, q0j, q11, ((hS.pull 1).pull 1)⟩
  rintro E w ⟨rfl, q1e, q1f, hS⟩
  refine x_seq <| x_seq <| x_region <| p (yl_field0 fld_30_2 q1f) <|
   pa (at_load one_27 rfl (hS.cell rfl)) <| p (yl_len_slice usl_27 rfl) <| p (yl_move rfl) <| x_done <| ?_
  replace hF := bs_s hF; obtain ⟨oL12, hLL12, hF⟩ := hF
  refine x_join (fun E w => (Sum.inl (())) = oL12 ∧ St w0 w (ro ρ :: l)) ?_ ?_
  ·refine x_block ?_
   refine x_loop (fun k_ E w => ∃ (q9 : Int), lp (P_netlist_Check_L12 n0 lib1) k_ q9 = some oL12 ∧ E 1 = .slice q0a lib1.length c_lib1 ∧ E 32 = .slice q3 n0.Flops.length c_n0_2 ∧ E 33 = .int .i64 (n0.Flops.length : Int) ∧ E 34 = .int .i64 q9 ∧ St w0 w (ro ρ :: l)) fuel ⟨0, hLL12, q1e, rfl, rfl, rfl, hS.drop⟩ ?_
   rintro kL12 E w ⟨q9, hLL12, q0r, q0n, q0o, q0c, hS⟩
   replace hLL12 := lp_s hLL12; obtain ⟨kL12, obL12, rfl, hFL12, hLL12⟩ := hLL12
   refine x_seq <| x_region <| p (yl_lss q0c q0o) <| x_done <|
    x_seq <|
    x_cond_p (q9 < (n0.Flops.length : Int)) rfl (fun hc35 => ?_) (fun hc35 => ?_)
   ·replace hFL12 := it_t hc35 hFL12
    replace hFL12 := ck_s hFL12; obtain ⟨q13, hFL12⟩ := hFL12
    replace hFL12 := lv_s hFL12; obtain ⟨q2, q17, hFL12⟩ := hFL12
    have q_ := q0d.get q13; obtain ⟨q1h, q14, q18⟩ := q_
    rw [← q17] at q14
    have e_ := q14; subst e_
    refine x_skip <| x_seq <| x_block <| x_seq <|
     x_region <| p (yix_f sl_27 q0n q0c q0d q13) <| pa (v := .agg #[.string q2.Name, .int .i64 q2.Cell, .int .i64 q2.D, .int .i64 q2.En, .bool q2.Init]) (at_loadAgg agg_135 rfl rfl (Elt.every q18 hS)) <| ?_
    refine o_alloc zero_135 hS (fun b10 w' hS => ?_)
    refine o_storeAgg (news := [.string q2.Name, .int .i64 q2.Cell, .int .i64 q2.D, .int .i64 q2.En, .bool q2.Init]) agg_135 rfl rfl rfl (by simp [over_length]) hS (fun w' hS => ?_)
    replace hFL12 := bd_s hFL12; obtain ⟨q0f, q19, hFL12⟩ := hFL12
    refine x_done <| x_seq <| x_region <| pa (v := .agg #[.string q2.Name, .int .i64 q2.Cell, .int .i64 q2.D, .int .i64 q2.En, .bool q2.Init]) (ld_sub agg_135 rfl rfl rfl hS) <|
     p (yl_move q0r) <| ?_
    have hcall := c_netlist_flop q19 q0h (hS.pull 1)
    refine o_cc call_151 (args2 rfl rfl) ((Calls.mono hcall (fun e w'' h => And.intro h.1 (h.2.pull 1)))) ?_
    rintro e w' ⟨rfl, hS⟩
    refine ⟨_, rfl, ?_⟩
    refine p (v := .int .i64 q0f) (yl_assign rfl) <| x_done <| x_seq <| x_region <|
     p (v := .int .i64 q0f) (yl_move rfl) <| p (yl_neq rfl rfl) <| x_done <|
     x_cond_p (q0f ≠ 0) rfl (fun hc42 => ?_) (fun hc42 => ?_)
    ·replace hFL12 := it_t hc42 hFL12
     refine x_seq <| x_region <| p (v := .int .i64 q0f) (yl_move rfl) <| p (v := .int .i64 q0f) (yl_assign rfl) <|
      x_done <| ?_
     have e_ := Option.some.inj (show some _ = some _ from hFL12); subst e_
     have e_ := (show _ = oL12 from hLL12); subst e_
     have e_ := Option.some.inj (show some _ = some _ from hF); subst e_
     exact x_return ⟨_, ⟨_, _, rfl, rfl, rfl⟩, rfl, hS.drop⟩
    ·replace hFL12 := it_f hc42 hFL12
     replace hFL12 := ar_s hFL12; obtain ⟨x44, hx44, hFL12⟩ := hFL12
     refine x_skip <| x_blk <| x_region <| p (yadd q0c rfl hx44) <|
      p (yl_move rfl) <| x_done <| ?_
     have e_ := Option.some.inj (show some _ = some _ from hFL12); subst e_
     exact x_inv ⟨kL12, Nat.lt_succ_self _, x44, hLL12, q0r, q0n, q0o, rfl, hS.drop⟩
   ·replace hFL12 := it_f hc35 hFL12
    refine x_exitTo _ rfl <| ?_
    have e_ := Option.some.inj (show some _ = some _ from hFL12); subst e_
    exact x_inv ⟨hLL12, hS⟩
  rintro E w ⟨rfl, hS⟩
  refine x_seq <| x_region <| p (yl_assign rfl) <| x_done <| ?_
  have e_ := Option.some.inj (show some _ = some _ from hF); subst e_
  exact x_return ⟨_, ⟨_, _, rfl, rfl, rfl⟩, rfl, hS⟩
attribute [irreducible] P_netlist_Check

def P_delay_right (w_0 : T_tree_Window) : Option Bool :=
 lv ((decide ((0 : Int) ≤ w_0.Lo)) && (decide (w_0.Lo ≤ w_0.Hi))) fun x12 =>
 lv (x12 && (decide (w_0.Hi ≤ 16777216))) fun x17 =>
 some x17
set_option maxHeartbeats 4000000 in
set_option maxRecDepth 100000 in
theorem c_delay_right {w0 w : World} {l : List Assn} {ρ : Heap} {w_0 : T_tree_Window} {r : Bool} (hF : P_delay_right w_0 = some r) (hS : St w0 w (ro ρ :: l)) :
  Calls Tryd.prog 174 #[.agg #[.int .i64 w_0.Lo, .int .i64 w_0.Hi]] w fun e w' => e = .returned (.bool r) ∧ St w0 w' (ro ρ :: l) := by
 refine enterC Tryd.func174 rfl 18 rfl (by simp) ?_
 refine x_seq <| x_region <| ?_
 refine o_box (cs := [.int .i64 w_0.Lo, .int .i64 w_0.Hi]) rfl rfl hS (fun b1 w' hS => ?_)
 replace hF := lv_s hF; obtain ⟨x12, hx12, hF⟩ := hF
 replace hF := lv_s hF; obtain ⟨x17, hx17, hF⟩ := hF
 refine p (yl_assign rfl) <| x_done <| x_seq <| x_region <|
  p (yl_field0 fld_70_0 rfl) <| pa (at_load one_3 rfl (hS.cell rfl)) <| p (yl_leq rfl rfl) <| p (yl_move rfl) <|
  pg (v := .pointer (some ⟨b1, 0, none⟩)) 6 (c := decide ((0 : Int) ≤ w_0.Lo)) (says_t _) (fun hq => Yl.at (yl_field0 fld_70_0 rfl)) <| pg (v := .int .i64 w_0.Lo) 6 (c := decide ((0 : Int) ≤ w_0.Lo)) (says_t _) (fun hq => at_load one_3 (cv hq) (hS.cell rfl)) <| pg (v := .pointer (some ⟨b1, 1, none⟩)) 6 (c := decide ((0 : Int) ≤ w_0.Lo)) (says_t _) (fun hq => Yl.at (yl_field0 fld_70_1 rfl)) <| pg (v := .int .i64 w_0.Hi) 6 (c := decide ((0 : Int) ≤ w_0.Lo)) (says_t _) (fun hq => at_load one_3 (cv hq) (hS.cell rfl)) <|
  pg (v := .bool (decide (w_0.Lo ≤ w_0.Hi))) 6 (c := decide ((0 : Int) ≤ w_0.Lo)) (says_t _) (fun hq => Yl.at (yl_leq (cv hq) (cv hq))) <| p (yand' rfl (fun hc => (cv hc)) rfl hx12) <| p (yl_move rfl) <| pg (v := .pointer (some ⟨b1, 1, none⟩)) 13 (c := x12) (says_t _) (fun hq => Yl.at (yl_field0 fld_70_1 rfl)) <|
  pg (v := .int .i64 w_0.Hi) 13 (c := x12) (says_t _) (fun hq => at_load one_3 (cv hq) (hS.cell rfl)) <| pg (v := .bool (decide (w_0.Hi ≤ 16777216))) 13 (c := x12) (says_t _) (fun hq => Yl.at (yl_leq (cv hq) rfl)) <| p (yand' rfl (fun hc => (cv hc)) rfl hx17) <| p (yl_assign rfl) <|
  x_done <| ?_
 have e_ := Option.some.inj (show some _ = some _ from hF); subst e_
 exact x_return ⟨_, ⟨_, _, rfl, rfl, rfl⟩, rfl, hS.drop⟩
attribute [irreducible] P_delay_right

def P_delay_all_L4 (l_0 : List T_tree_Window) : Int → Option (Int ⊕ (Unit ⊕ Int)) := fun q2 =>
 if q2 < (l_0.length : Int) then
  ck (inb q2 l_0.length) <|
  lv (gt l_0 q2) fun q3 =>
  bd (P_delay_right q3) fun q4 =>
  if (!q4) = true then
   some (Sum.inr (Sum.inr (2 : Int)))
  else
   ar (q2 + 1) fun x20 =>
   some (Sum.inl x20)
 else
  some (Sum.inr (Sum.inl ()))
def P_delay_all (l_0 : List T_tree_Window) (n1 : Int) : Option Int :=
 if (l_0.length : Int) ≠ n1 then
  some (4 : Int)
 else
  bs (
   lp (P_delay_all_L4 l_0) fuel 0) (fun y => some y) fun _ =>
  some (0 : Int)
set_option maxHeartbeats 4000000 in
set_option maxRecDepth 100000 in
theorem c_delay_all {w0 w : World} {l : List Assn} {ρ : Heap} {q7 : Option Addr} {q9 : Nat} {c_l_0 : Nat} {l_0 : List T_tree_Window} {n1 : Int} {r : Int} (hF : P_delay_all l_0 n1 = some r) (q8 : RdS R_tree_Window ρ q7 q9 c_l_0 l_0) (hS : St w0 w (ro ρ :: l)) :
  Calls Tryd.prog 153 #[.slice q7 q9 c_l_0, .int .i64 n1] w fun e w' => e = .returned (.int .i64 r) ∧ St w0 w' (ro ρ :: l) := by
 have e_ := q8.n; subst e_
 refine enterC Tryd.func153 rfl 21 rfl (by simp) ?_
 refine x_seq <| x_region <| p (yl_assign rfl) <| x_done <|
  x_seq <| x_seq <| x_region <| p (yl_move rfl) <|
  p (yl_len_slice usl_49 rfl) <| p (yl_move rfl) <| p (yl_neq rfl rfl) <| x_done <|
  x_cond_p ((l_0.length : Int) ≠ n1) rfl (fun hc10 => ?_) (fun hc10 => ?_)
 ·replace hF := it_t hc10 hF
  refine x_seq <| x_region <| p (yl_assign rfl) <| x_done <| ?_
  have e_ := Option.some.inj (show some _ = some _ from hF); subst e_
  exact x_return ⟨_, ⟨_, _, rfl, rfl, rfl⟩, rfl, hS⟩
 ·replace hF := it_f hc10 hF
  refine x_skip <| x_seq <| x_seq <| x_region <|
   p (yl_move rfl) <| p (yl_len_slice usl_49 rfl) <| p (yl_move rfl) <| x_done <| ?_
  replace hF := bs_s hF; obtain ⟨oL4, hLL4, hF⟩ := hF
  refine x_join (fun E w => (Sum.inl (())) = oL4 ∧ St w0 w (ro ρ :: l)) ?_ ?_
  ·refine x_block ?_
   refine x_loop (fun k_ E w => ∃ (q2 : Int), lp (P_delay_all_L4 l_0) k_ q2 = some oL4 ∧ E 11 = .slice q7 l_0.length c_l_0 ∧ E 12 = .int .i64 (l_0.length : Int) ∧ E 13 = .int .i64 q2 ∧ St w0 w (ro ρ :: l)) fuel ⟨0, hLL4, rfl, rfl, rfl, hS⟩ ?_
   rintro kL4 E w ⟨q2, hLL4, q5, q6, q3, hS⟩
   replace hLL4 := lp_s hLL4; obtain ⟨kL4, obL4, rfl, hFL4, hLL4⟩ := hLL4
   refine x_seq <| x_region <| p (yl_lss q3 q6) <| x_done <|
    x_seq <|
    x_cond_p (q2 < (l_0.length : Int)) rfl (fun hc14 => ?_) (fun hc14 => ?_)
   ·replace hFL4 := it_t hc14 hFL4
    replace hFL4 := ck_s hFL4; obtain ⟨q0a, hFL4⟩ := hFL4
    replace hFL4 := lv_s hFL4; obtain ⟨q4, q0c, hFL4⟩ := hFL4
    have q_ := q8.get q0a; obtain ⟨q0g, q0b, q0d⟩ := q_
    rw [← q0c] at q0b
    have e_ := q0b; subst e_
    refine x_skip <| x_seq <| x_block <| x_seq <|
     x_region <| p (yix_f sl_49 q5 q3 q8 q0a) <| pa (v := .agg #[.int .i64 q4.Lo, .int .i64 q4.Hi]) (at_loadAgg agg_70 rfl rfl (Elt.every q0d hS)) <| ?_
    refine o_alloc zero_70 hS (fun b6 w' hS => ?_)
    refine o_storeAgg (news := [.int .i64 q4.Lo, .int .i64 q4.Hi]) agg_70 rfl rfl rfl (by simp [over_length]) hS (fun w' hS => ?_)
    replace hFL4 := bd_s hFL4; obtain ⟨q0f, q0e, hFL4⟩ := hFL4
    refine x_done <| x_seq <| x_region <| pa (v := .agg #[.int .i64 q4.Lo, .int .i64 q4.Hi]) (ld_sub agg_70 rfl rfl rfl hS) <| ?_
    have hcall := c_delay_right q0e  (hS.pull 1)
    refine o_cc call_174 (args1 rfl) ((Calls.mono hcall (fun e w'' h => And.intro h.1 (h.2.pull 1)))) ?_
    rintro e w' ⟨rfl, hS⟩
    refine ⟨_, rfl, ?_⟩
    refine p (yl_not rfl) <| x_done <|
     x_cond (t := !q0f) rfl (fun hc19 => ?_) (fun hc19 => ?_)
    ·replace hFL4 := it_t hc19 hFL4
     refine x_seq <| x_region <| p (yl_assign rfl) <| x_done <| ?_
     have e_ := Option.some.inj (show some _ = some _ from hFL4); subst e_
     have e_ := (show _ = oL4 from hLL4); subst e_
     have e_ := Option.some.inj (show some _ = some _ from hF); subst e_
     exact x_return ⟨_, ⟨_, _, rfl, rfl, rfl⟩, rfl, hS.drop⟩
    ·replace hFL4 := it_bf hc19 hFL4
     replace hFL4 := ar_s hFL4; obtain ⟨x20, hx20, hFL4⟩ := hFL4
     refine x_skip <| x_blk <| x_region <| p (yadd q3 rfl hx20) <|
      p (yl_move rfl) <| x_done <| ?_
     have e_ := Option.some.inj (show some _ = some _ from hFL4); subst e_
     exact x_inv ⟨kL4, Nat.lt_succ_self _, x20, hLL4, q5, q6, rfl, hS.drop⟩
   ·replace hFL4 := it_f hc14 hFL4
    refine x_exitTo _ rfl <| ?_
    have e_ := Option.some.inj (show some _ = some _ from hFL4); subst e_
    exact x_inv ⟨hLL4, hS⟩
  rintro E w ⟨rfl, hS⟩
  refine x_seq <| x_region <| p (yl_assign rfl) <| x_done <| ?_
  have e_ := Option.some.inj (show some _ = some _ from hF); subst e_
  exact x_return ⟨_, ⟨_, _, rfl, rfl, rfl⟩, rfl, hS⟩
attribute [irreducible] P_delay_all

def P_delay_Inputs (f0 : T_api_Flop) : Option Int :=
 if f0.En = 1 then
  some (1 : Int)
 else
  some (2 : Int)
set_option maxHeartbeats 4000000 in
set_option maxRecDepth 100000 in
theorem c_delay_Inputs {w0 w : World} {l : List Assn} {ρ : Heap} {f0 : T_api_Flop} {r : Int} (hF : P_delay_Inputs f0 = some r) (hS : St w0 w (ro ρ :: l)) :
  Calls Tryd.prog 113 #[.agg #[.string f0.Name, .int .i64 f0.Cell, .int .i64 f0.D, .int .i64 f0.En, .bool f0.Init]] w fun e w' => e = .returned (.int .i64 r) ∧ St w0 w' (ro ρ :: l) := by
 refine enterC Tryd.func113 rfl 6 rfl (by simp) ?_
 refine x_seq <| x_region <| ?_
 refine o_box (cs := [.string f0.Name, .int .i64 f0.Cell, .int .i64 f0.D, .int .i64 f0.En, .bool f0.Init]) rfl rfl hS (fun b1 w' hS => ?_)
 refine p (yl_assign rfl) <| x_done <| x_seq <| x_seq <|
  x_region <| p (yl_field0 fld_135_3 rfl) <| pa (at_load one_3 rfl (hS.cell rfl)) <| p (yl_eql rfl rfl) <|
  x_done <|
  x_cond_p (f0.En = 1) rfl (fun hc5 => ?_) (fun hc5 => ?_)
 ·replace hF := it_t hc5 hF
  refine x_seq <| x_region <| p (yl_assign rfl) <| x_done <| ?_
  have e_ := Option.some.inj (show some _ = some _ from hF); subst e_
  exact x_return ⟨_, ⟨_, _, rfl, rfl, rfl⟩, rfl, hS.drop⟩
 ·replace hF := it_f hc5 hF
  refine x_skip <| x_seq <| x_region <| p (yl_assign rfl) <|
   x_done <| ?_
  have e_ := Option.some.inj (show some _ = some _ from hF); subst e_
  exact x_return ⟨_, ⟨_, _, rfl, rfl, rfl⟩, rfl, hS.drop⟩
attribute [irreducible] P_delay_Inputs

def P_delay_Check_L4 (n0 : T_api_Netlist) (d1 : T_delay_Delays) : Int → Option (Int ⊕ (Unit ⊕ Int)) := fun q2 =>
 if q2 < (n0.Gates.length : Int) then
  ck (inb q2 n0.Gates.length) <|
  lv (gt n0.Gates q2) fun q4 =>
  ck (inb q2 d1.Gates.length) <|
  lv (gt d1.Gates q2) fun q5 =>
  bd (P_delay_all q5 (q4.Ins.length : Int)) fun q3 =>
  if q3 ≠ 0 then
   some (Sum.inr (Sum.inr q3))
  else
   ar (q2 + 1) fun x49 =>
   some (Sum.inl x49)
 else
  some (Sum.inr (Sum.inl ()))
def P_delay_Check_L11 (n0 : T_api_Netlist) (d1 : T_delay_Delays) : Int → Option (Int ⊕ (Unit ⊕ Int)) := fun q2 =>
 if q2 < (n0.Flops.length : Int) then
  ck (inb q2 n0.Flops.length) <|
  lv (gt n0.Flops q2) fun q4 =>
  ck (inb q2 d1.Data.length) <|
  lv (gt d1.Data q2) fun q5 =>
  bd (P_delay_Inputs q4) fun q6 =>
  bd (P_delay_all q5 q6) fun q3 =>
  if q3 ≠ 0 then
   some (Sum.inr (Sum.inr q3))
  else
   ar (q2 + 1) fun x69 =>
   some (Sum.inl x69)
 else
  some (Sum.inr (Sum.inl ()))
def P_delay_Check (n0 : T_api_Netlist) (d1 : T_delay_Delays) : Option Int :=
 lv ((decide ((d1.Gates.length : Int) ≠ (n0.Gates.length : Int))) || (decide ((d1.Data.length : Int) ≠ (n0.Flops.length : Int)))) fun x28 =>
 if x28 = true then
  some (4 : Int)
 else
  bs (
   lp (P_delay_Check_L4 n0 d1) fuel 0) (fun y => some y) fun _ =>
  bs (
   lp (P_delay_Check_L11 n0 d1) fuel 0) (fun y => some y) fun _ =>
  bd (P_delay_all d1.Outs (n0.Outs.length : Int)) fun q2 =>
  if q2 ≠ 0 then
   some q2
  else
   bd (P_delay_all d1.Clock (n0.Flops.length : Int)) fun q3 =>
   if q3 ≠ 0 then
    some q3
   else
    bd (P_delay_all d1.Launch (n0.Flops.length : Int)) fun q4 =>
    some q4
set_option maxHeartbeats 4000000 in
set_option maxRecDepth 100000 in
theorem c_delay_Check {w0 w : World} {l : List Assn} {ρ : Heap} {q6 : Option Addr} {q0z : Nat} {c_n0_0 : Nat} {q7 : Option Addr} {q10 : Nat} {c_n0_1 : Nat} {q3 : Option Addr} {q11 : Nat} {c_n0_2 : Nat} {q4 : Option Addr} {q12 : Nat} {c_n0_3 : Nat} {q8 : Option Addr} {q13 : Nat} {c_n0_4 : Nat} {q9 : Option Addr} {q14 : Nat} {c_d1_0 : Nat} {q5 : Option Addr} {q15 : Nat} {c_d1_1 : Nat} {q0a : Option Addr} {q16 : Nat} {c_d1_2 : Nat} {q0b : Option Addr} {q17 : Nat} {c_d1_3 : Nat} {q0c : Option Addr} {q18 : Nat} {c_d1_4 : Nat} {n0 : T_api_Netlist} {d1 : T_delay_Delays} {r : Int} (hF : P_delay_Check n0 d1 = some r) (q1p : RdS RpS ρ q6 q0z c_n0_0 n0.In) (q1q : RdS RpS ρ q7 q10 c_n0_1 n0.Out) (q0n : RdS R_api_Flop ρ q3 q11 c_n0_2 n0.Flops) (q0o : RdS R_api_Gate ρ q4 q12 c_n0_3 n0.Gates) (q1r : RdS (RpI .i64) ρ q8 q13 c_n0_4 n0.Outs) (q0p : RdS (RpSl R_tree_Window) ρ q9 q14 c_d1_0 d1.Gates) (q0q : RdS (RpSl R_tree_Window) ρ q5 q15 c_d1_1 d1.Data) (q19 : RdS R_tree_Window ρ q0a q16 c_d1_2 d1.Outs) (q1a : RdS R_tree_Window ρ q0b q17 c_d1_3 d1.Clock) (q1b : RdS R_tree_Window ρ q0c q18 c_d1_4 d1.Launch) (hS : St w0 w (ro ρ :: l)) :
  Calls Tryd.prog 114 #[.agg #[.slice q6 q0z c_n0_0, .slice q7 q10 c_n0_1, .slice q3 q11 c_n0_2, .slice q4 q12 c_n0_3, .slice q8 q13 c_n0_4], .agg #[.slice q9 q14 c_d1_0, .slice q5 q15 c_d1_1, .slice q0a q16 c_d1_2, .slice q0b q17 c_d1_3, .slice q0c q18 c_d1_4]] w fun e w' => e = .returned (.int .i64 r) ∧ St w0 w' (ro ρ :: l) := by
 have e_ := q1p.n; subst e_
 have e_ := q1q.n; subst e_
 have e_ := q0n.n; subst e_
 have e_ := q0o.n; subst e_
 have e_ := q1r.n; subst e_
 have e_ := q0p.n; subst e_
 have e_ := q0q.n; subst e_
 have e_ := q19.n; subst e_
 have e_ := q1a.n; subst e_
 have e_ := q1b.n; subst e_
 refine enterC Tryd.func114 rfl 94 rfl (by simp) ?_
 refine x_seq <| x_region <| ?_
 refine o_box (cs := [.slice q6 n0.In.length c_n0_0, .slice q7 n0.Out.length c_n0_1, .slice q3 n0.Flops.length c_n0_2, .slice q4 n0.Gates.length c_n0_3, .slice q8 n0.Outs.length c_n0_4]) rfl rfl hS (fun b2 w' hS => ?_)
 refine o_box (cs := [.slice q9 d1.Gates.length c_d1_0, .slice q5 d1.Data.length c_d1_1, .slice q0a d1.Outs.length c_d1_2, .slice q0b d1.Clock.length c_d1_3, .slice q0c d1.Launch.length c_d1_4]) rfl rfl hS (fun b3 w' hS => ?_)
 replace hF := lv_s hF; obtain ⟨x28, hx28, hF⟩ := hF
 refine p (yl_assign rfl) <| x_done <| x_seq <| x_seq <|
  x_region <| p (yl_field0 fld_51_0 rfl) <| pa (at_load one_48 rfl (hS.cell rfl)) <| p (yl_len_slice usl_48 rfl) <|
  p (yl_field0 fld_30_3 rfl) <| pa (at_load one_28 rfl ((hS.pull 1).cell rfl)) <| p (yl_len_slice usl_28 rfl) <| p (yl_neq rfl rfl) <|
  p (yl_move rfl) <| pg (v := .pointer (some ⟨b3, 1, none⟩)) 20 (c := !(decide ((d1.Gates.length : Int) ≠ (n0.Gates.length : Int)))) (says_f _) (fun hq => Yl.at (yl_field0 fld_51_1 rfl)) <| pg (v := .slice q5 d1.Data.length c_d1_1) 20 (c := !(decide ((d1.Gates.length : Int) ≠ (n0.Gates.length : Int)))) (says_f _) (fun hq => at_load one_48 (cv hq) (hS.cell rfl)) <| pg (v := .int .i64 (d1.Data.length : Int)) 20 (c := !(decide ((d1.Gates.length : Int) ≠ (n0.Gates.length : Int)))) (says_f _) (fun hq => Yl.at (yl_len_slice usl_48 (cv hq))) <|
  pg (v := .pointer (some ⟨b2, 2, none⟩)) 20 (c := !(decide ((d1.Gates.length : Int) ≠ (n0.Gates.length : Int)))) (says_f _) (fun hq => Yl.at (yl_field0 fld_30_2 rfl)) <| pg (v := .slice q3 n0.Flops.length c_n0_2) 20 (c := !(decide ((d1.Gates.length : Int) ≠ (n0.Gates.length : Int)))) (says_f _) (fun hq => at_load one_27 (cv hq) ((hS.pull 1).cell rfl)) <| pg (v := .int .i64 (n0.Flops.length : Int)) 20 (c := !(decide ((d1.Gates.length : Int) ≠ (n0.Gates.length : Int)))) (says_f _) (fun hq => Yl.at (yl_len_slice usl_27 (cv hq))) <| pg (v := .bool (decide ((d1.Data.length : Int) ≠ (n0.Flops.length : Int)))) 20 (c := !(decide ((d1.Gates.length : Int) ≠ (n0.Gates.length : Int)))) (says_f _) (fun hq => Yl.at (yl_neq (cv hq) (cv hq))) <|
  p (yor' rfl rfl (fun hc => (cv (t_not hc))) hx28) <| x_done <|
  x_cond (t := x28) rfl (fun hc28 => ?_) (fun hc28 => ?_)
 ·replace hF := it_t hc28 hF
  refine x_seq <| x_region <| p (yl_assign rfl) <| x_done <| ?_
  have e_ := Option.some.inj (show some _ = some _ from hF); subst e_
  exact x_return ⟨_, ⟨_, _, rfl, rfl, rfl⟩, rfl, hS.drop.drop⟩
 ·replace hF := it_bf hc28 hF
  refine x_skip <| x_seq <| x_seq <| x_region <|
   p (yl_field0 fld_30_3 rfl) <| pa (at_load one_28 rfl ((hS.pull 1).cell rfl)) <| p (yl_len_slice usl_28 rfl) <| p (yl_move rfl) <|
   x_done <| ?_
  replace hF := bs_s hF; obtain ⟨oL4, hLL4, hF⟩ := hF
  refine x_join (fun E w => (Sum.inl (())) = oL4 ∧ E 2 = .pointer (some ⟨b2, 0, none⟩) ∧ E 3 = .pointer (some ⟨b3, 0, none⟩) ∧ St w0 w (cells b2 30 [.slice q6 n0.In.length c_n0_0, .slice q7 n0.Out.length c_n0_1, .slice q3 n0.Flops.length c_n0_2, .slice q4 n0.Gates.length c_n0_3, .slice q8 n0.Outs.length c_n0_4] :: cells b3 51 [.slice q9 d1.Gates.length c_d1_0, .slice q5 d1.Data.length c_d1_1, .slice q0a d1.Outs.length c_d1_2, .slice q0b d1.Clock.length c_d1_3, .slice q0c d1.Launch.length c_d1_4] :: ro ρ :: l)) ?_ ?_
  ·refine x_block ?_
   refine x_loop (fun k_ E w => ∃ (q0f : Int), lp (P_delay_Check_L4 n0 d1) k_ q0f = some oL4 ∧ E 2 = .pointer (some ⟨b2, 0, none⟩) ∧ E 3 = .pointer (some ⟨b3, 0, none⟩) ∧ E 30 = .slice q4 n0.Gates.length c_n0_3 ∧ E 31 = .int .i64 (n0.Gates.length : Int) ∧ E 32 = .int .i64 q0f ∧ St w0 w (cells b2 30 [.slice q6 n0.In.length c_n0_0, .slice q7 n0.Out.length c_n0_1, .slice q3 n0.Flops.length c_n0_2, .slice q4 n0.Gates.length c_n0_3, .slice q8 n0.Outs.length c_n0_4] :: cells b3 51 [.slice q9 d1.Gates.length c_d1_0, .slice q5 d1.Data.length c_d1_1, .slice q0a d1.Outs.length c_d1_2, .slice q0b d1.Clock.length c_d1_3, .slice q0c d1.Launch.length c_d1_4] :: ro ρ :: l)) fuel ⟨0, hLL4, rfl, rfl, rfl, rfl, rfl, (((hS.pull 2).pull 1).pull 2)⟩ ?_
   rintro kL4 E w ⟨q0f, hLL4, q1c, q0r, q0w, q0x, q0g, hS⟩
   replace hLL4 := lp_s hLL4; obtain ⟨kL4, obL4, rfl, hFL4, hLL4⟩ := hLL4
   refine x_seq <| x_region <| p (yl_lss q0g q0x) <| x_done <|
    x_seq <|
    x_cond_p (q0f < (n0.Gates.length : Int)) rfl (fun hc33 => ?_) (fun hc33 => ?_)
   ·replace hFL4 := it_t hc33 hFL4
    replace hFL4 := ck_s hFL4; obtain ⟨q1j, hFL4⟩ := hFL4
    replace hFL4 := lv_s hFL4; obtain ⟨q0k, q23, hFL4⟩ := hFL4
    have q_ := q0o.get q1j; obtain ⟨q2e, q1k, q24⟩ := q_
    rw [← q23] at q1k
    obtain ⟨q1d, q2b, q1e, rfl, q1s⟩ := q1k
    have e_ := q1s.n; subst e_
    refine x_skip <| x_seq <| x_block <| x_seq <|
     x_region <| p (yl_move q0g) <| p (yix_f sl_28 q0w q0g q0o q1j) <| pa (v := .agg #[.int .i64 q0k.Cell, .int .u64 q0k.Table, .slice q1d q0k.Ins.length q1e]) (at_loadAgg agg_38 rfl rfl (Elt.every q24 (hS.pull 2))) <| ?_
    refine o_alloc zero_38 hS (fun b6 w' hS => ?_)
    refine p (yl_assign rfl) <| ?_
    refine o_storeAgg (news := [.int .i64 q0k.Cell, .int .u64 q0k.Table, .slice q1d q0k.Ins.length q1e]) agg_38 rfl rfl rfl (by simp [over_length]) hS (fun w' hS => ?_)
    replace hFL4 := ck_s hFL4; obtain ⟨q1l, hFL4⟩ := hFL4
    replace hFL4 := lv_s hFL4; obtain ⟨q2k, q25, hFL4⟩ := hFL4
    have q_ := q0p.get q1l; obtain ⟨q2f, q1m, q26⟩ := q_
    rw [← q25] at q1m
    obtain ⟨q2l, q2m, q2n, rfl, q1t⟩ := q1m
    have e_ := q1t.n; subst e_
    replace hFL4 := bd_s hFL4; obtain ⟨q0l, q27, hFL4⟩ := hFL4
    refine x_done <| x_seq <| x_still mixed (by kernel_rfl) hS <| q (yl_field0 fld_51_0 q0r) <|
     qa (fun w' hS => at_load one_48 rfl ((hS.pull 2).cell rfl)) <| q (yl_move rfl) <| q (yix_f sl_48 rfl rfl q0p q1l) <| qa (fun w' hS => at_load one_49 rfl (Elt.ld (j := 0) q26 (hS.pull 3) rfl)) <|
     q (yl_field0 fld_38_2 rfl) <| qa (fun w' hS => at_load one_22 rfl (hS.cell rfl)) <| q (yl_len_slice usl_22 rfl) <| qcc (v := .int .i64 q0l) call_153 (args2 rfl rfl) (fun w' hS => by
      have hcall := c_delay_all q27 q1t (hS.pull 3)
      exact (Calls.mono hcall (fun e w'' h => And.intro h.1 (((h.2.pull 3).pull 3).pull 3)))) <|
     q (v := .int .i64 q0l) (yl_assign rfl) <|
     q_done fun w' hS => ?_
    refine x_seq <| x_region <| p (v := .int .i64 q0l) (yl_move rfl) <| p (yl_neq rfl rfl) <|
     x_done <|
     x_cond_p (q0l ≠ 0) rfl (fun hc47 => ?_) (fun hc47 => ?_)
    ·replace hFL4 := it_t hc47 hFL4
     refine x_seq <| x_region <| p (v := .int .i64 q0l) (yl_move rfl) <| p (v := .int .i64 q0l) (yl_assign rfl) <|
      x_done <| ?_
     have e_ := Option.some.inj (show some _ = some _ from hFL4); subst e_
     have e_ := (show _ = oL4 from hLL4); subst e_
     have e_ := Option.some.inj (show some _ = some _ from hF); subst e_
     exact x_return ⟨_, ⟨_, _, rfl, rfl, rfl⟩, rfl, hS.drop.drop.drop⟩
    ·replace hFL4 := it_f hc47 hFL4
     replace hFL4 := ar_s hFL4; obtain ⟨x49, hx49, hFL4⟩ := hFL4
     refine x_skip <| x_blk <| x_region <| p (yadd q0g rfl hx49) <|
      p (yl_move rfl) <| x_done <| ?_
     have e_ := Option.some.inj (show some _ = some _ from hFL4); subst e_
     exact x_inv ⟨kL4, Nat.lt_succ_self _, x49, hLL4, q1c, q0r, q0w, q0x, rfl, (((hS.drop.pull 2).pull 2).pull 2)⟩
   ·replace hFL4 := it_f hc33 hFL4
    refine x_exitTo _ rfl <| ?_
    have e_ := Option.some.inj (show some _ = some _ from hFL4); subst e_
    exact x_inv ⟨hLL4, q1c, q0r, (((hS.pull 2).pull 2).pull 2)⟩
  rintro E w ⟨rfl, q1n, q28, hS⟩
  refine x_seq <| x_seq <| x_region <| p (yl_field0 fld_30_2 q1n) <|
   pa (at_load one_27 rfl (hS.cell rfl)) <| p (yl_len_slice usl_27 rfl) <| p (yl_move rfl) <| x_done <| ?_
  replace hF := bs_s hF; obtain ⟨oL11, hLL11, hF⟩ := hF
  refine x_join (fun E w => (Sum.inl (())) = oL11 ∧ E 2 = .pointer (some ⟨b2, 0, none⟩) ∧ E 3 = .pointer (some ⟨b3, 0, none⟩) ∧ St w0 w (cells b2 30 [.slice q6 n0.In.length c_n0_0, .slice q7 n0.Out.length c_n0_1, .slice q3 n0.Flops.length c_n0_2, .slice q4 n0.Gates.length c_n0_3, .slice q8 n0.Outs.length c_n0_4] :: cells b3 51 [.slice q9 d1.Gates.length c_d1_0, .slice q5 d1.Data.length c_d1_1, .slice q0a d1.Outs.length c_d1_2, .slice q0b d1.Clock.length c_d1_3, .slice q0c d1.Launch.length c_d1_4] :: ro ρ :: l)) ?_ ?_
  ·refine x_block ?_
   refine x_loop (fun k_ E w => ∃ (q0d : Int), lp (P_delay_Check_L11 n0 d1) k_ q0d = some oL11 ∧ E 2 = .pointer (some ⟨b2, 0, none⟩) ∧ E 3 = .pointer (some ⟨b3, 0, none⟩) ∧ E 51 = .slice q3 n0.Flops.length c_n0_2 ∧ E 52 = .int .i64 (n0.Flops.length : Int) ∧ E 53 = .int .i64 q0d ∧ St w0 w (cells b2 30 [.slice q6 n0.In.length c_n0_0, .slice q7 n0.Out.length c_n0_1, .slice q3 n0.Flops.length c_n0_2, .slice q4 n0.Gates.length c_n0_3, .slice q8 n0.Outs.length c_n0_4] :: cells b3 51 [.slice q9 d1.Gates.length c_d1_0, .slice q5 d1.Data.length c_d1_1, .slice q0a d1.Outs.length c_d1_2, .slice q0b d1.Clock.length c_d1_3, .slice q0c d1.Launch.length c_d1_4] :: ro ρ :: l)) fuel ⟨0, hLL11, q1n, q28, rfl, rfl, rfl, (((hS.pull 2).pull 2).pull 2)⟩ ?_
   rintro kL11 E w ⟨q0d, hLL11, q0y, q0m, q0s, q0t, q0e, hS⟩
   replace hLL11 := lp_s hLL11; obtain ⟨kL11, obL11, rfl, hFL11, hLL11⟩ := hLL11
   refine x_seq <| x_region <| p (yl_lss q0e q0t) <| x_done <|
    x_seq <|
    x_cond_p (q0d < (n0.Flops.length : Int)) rfl (fun hc54 => ?_) (fun hc54 => ?_)
   ·replace hFL11 := it_t hc54 hFL11
    replace hFL11 := ck_s hFL11; obtain ⟨q1f, hFL11⟩ := hFL11
    replace hFL11 := lv_s hFL11; obtain ⟨q2, q1u, hFL11⟩ := hFL11
    have q_ := q0n.get q1f; obtain ⟨q2c, q1g, q1v⟩ := q_
    rw [← q1u] at q1g
    have e_ := q1g; subst e_
    refine x_skip <| x_seq <| x_block <| x_seq <|
     x_region <| p (yl_move q0e) <| p (yix_f sl_27 q0s q0e q0n q1f) <| pa (v := .agg #[.string q2.Name, .int .i64 q2.Cell, .int .i64 q2.D, .int .i64 q2.En, .bool q2.Init]) (at_loadAgg agg_135 rfl rfl (Elt.every q1v (hS.pull 2))) <| ?_
    refine o_alloc zero_135 hS (fun b9 w' hS => ?_)
    refine p (yl_assign rfl) <| ?_
    refine o_storeAgg (news := [.string q2.Name, .int .i64 q2.Cell, .int .i64 q2.D, .int .i64 q2.En, .bool q2.Init]) agg_135 rfl rfl rfl (by simp [over_length]) hS (fun w' hS => ?_)
    replace hFL11 := ck_s hFL11; obtain ⟨q1h, hFL11⟩ := hFL11
    replace hFL11 := lv_s hFL11; obtain ⟨q2g, q1w, hFL11⟩ := hFL11
    have q_ := q0q.get q1h; obtain ⟨q2d, q1i, q1x⟩ := q_
    rw [← q1w] at q1i
    obtain ⟨q2h, q2i, q2j, rfl, q1o⟩ := q1i
    have e_ := q1o.n; subst e_
    replace hFL11 := bd_s hFL11; obtain ⟨q29, q1y, hFL11⟩ := hFL11
    replace hFL11 := bd_s hFL11; obtain ⟨q0h, q1z, hFL11⟩ := hFL11
    refine x_done <| x_seq <| x_still mixed (by kernel_rfl) hS <| q (yl_field0 fld_51_1 q0m) <|
     qa (fun w' hS => at_load one_48 rfl ((hS.pull 2).cell rfl)) <| q (yl_move rfl) <| q (yix_f sl_48 rfl rfl q0q q1h) <| qa (fun w' hS => at_load one_49 rfl (Elt.ld (j := 0) q1x (hS.pull 3) rfl)) <|
     qa (v := .agg #[.string q2.Name, .int .i64 q2.Cell, .int .i64 q2.D, .int .i64 q2.En, .bool q2.Init]) (fun w' hS => ld_sub agg_135 rfl rfl rfl hS) <| qcc (v := .int .i64 q29) call_113 (args1 rfl) (fun w' hS => by
      have hcall := c_delay_Inputs q1y  (hS.pull 3)
      exact (Calls.mono hcall (fun e w'' h => And.intro h.1 (((h.2.pull 3).pull 3).pull 3)))) <| qcc (v := .int .i64 q0h) call_153 (args2 rfl rfl) (fun w' hS => by
      have hcall := c_delay_all q1z q1o (hS.pull 3)
      exact (Calls.mono hcall (fun e w'' h => And.intro h.1 (((h.2.pull 3).pull 3).pull 3)))) <| q (v := .int .i64 q0h) (yl_assign rfl) <|
     q_done fun w' hS => ?_
    refine x_seq <| x_region <| p (v := .int .i64 q0h) (yl_move rfl) <| p (yl_neq rfl rfl) <|
     x_done <|
     x_cond_p (q0h ≠ 0) rfl (fun hc67 => ?_) (fun hc67 => ?_)
    ·replace hFL11 := it_t hc67 hFL11
     refine x_seq <| x_region <| p (v := .int .i64 q0h) (yl_move rfl) <| p (v := .int .i64 q0h) (yl_assign rfl) <|
      x_done <| ?_
     have e_ := Option.some.inj (show some _ = some _ from hFL11); subst e_
     have e_ := (show _ = oL11 from hLL11); subst e_
     have e_ := Option.some.inj (show some _ = some _ from hF); subst e_
     exact x_return ⟨_, ⟨_, _, rfl, rfl, rfl⟩, rfl, hS.drop.drop.drop⟩
    ·replace hFL11 := it_f hc67 hFL11
     replace hFL11 := ar_s hFL11; obtain ⟨x69, hx69, hFL11⟩ := hFL11
     refine x_skip <| x_blk <| x_region <| p (yadd q0e rfl hx69) <|
      p (yl_move rfl) <| x_done <| ?_
     have e_ := Option.some.inj (show some _ = some _ from hFL11); subst e_
     exact x_inv ⟨kL11, Nat.lt_succ_self _, x69, hLL11, q0y, q0m, q0s, q0t, rfl, (((hS.drop.pull 2).pull 2).pull 2)⟩
   ·replace hFL11 := it_f hc54 hFL11
    refine x_exitTo _ rfl <| ?_
    have e_ := Option.some.inj (show some _ = some _ from hFL11); subst e_
    exact x_inv ⟨hLL11, q0y, q0m, (((hS.pull 2).pull 2).pull 2)⟩
  rintro E w ⟨rfl, q0u, q0v, hS⟩
  replace hF := bd_s hF; obtain ⟨q0i, q20, hF⟩ := hF
  refine x_seq <| x_seq <| x_region <| p (yl_field0 fld_51_2 q0v) <|
   pa (at_load one_49 rfl ((hS.pull 1).cell rfl)) <| p (yl_field0 fld_30_4 q0u) <| pa (at_load one_22 rfl (hS.cell rfl)) <| p (yl_len_slice usl_22 rfl) <| ?_
  have hcall := c_delay_all q20 q19 (hS.pull 2)
  refine o_cc call_153 (args2 rfl rfl) ((Calls.mono hcall (fun e w'' h => And.intro h.1 ((h.2.pull 2).pull 2)))) ?_
  rintro e w' ⟨rfl, hS⟩
  refine ⟨_, rfl, ?_⟩
  refine p (v := .int .i64 q0i) (yl_assign rfl) <| x_done <| x_seq <| x_region <|
   p (v := .int .i64 q0i) (yl_move rfl) <| p (yl_neq rfl rfl) <| x_done <|
   x_cond_p (q0i ≠ 0) rfl (fun hc77 => ?_) (fun hc77 => ?_)
  ·replace hF := it_t hc77 hF
   refine x_seq <| x_region <| p (v := .int .i64 q0i) (yl_move rfl) <| p (v := .int .i64 q0i) (yl_assign rfl) <|
    x_done <| ?_
   have e_ := Option.some.inj (show some _ = some _ from hF); subst e_
   exact x_return ⟨_, ⟨_, _, rfl, rfl, rfl⟩, rfl, hS.drop.drop⟩
  ·replace hF := it_f hc77 hF
   replace hF := bd_s hF; obtain ⟨q0j, q21, hF⟩ := hF
   refine x_skip <| x_seq <| x_seq <| x_region <|
    p (yl_field0 fld_51_3 q0v) <| pa (at_load one_49 rfl ((hS.pull 1).cell rfl)) <| p (yl_field0 fld_30_2 q0u) <| pa (at_load one_27 rfl (hS.cell rfl)) <|
    p (yl_len_slice usl_27 rfl) <| ?_
   have hcall := c_delay_all q21 q1a (hS.pull 2)
   refine o_cc call_153 (args2 rfl rfl) ((Calls.mono hcall (fun e w'' h => And.intro h.1 ((h.2.pull 2).pull 2)))) ?_
   rintro e w' ⟨rfl, hS⟩
   refine ⟨_, rfl, ?_⟩
   refine p (v := .int .i64 q0j) (yl_assign rfl) <| x_done <| x_seq <| x_region <|
    p (v := .int .i64 q0j) (yl_move rfl) <| p (yl_neq rfl rfl) <| x_done <|
    x_cond_p (q0j ≠ 0) rfl (fun hc86 => ?_) (fun hc86 => ?_)
   ·replace hF := it_t hc86 hF
    refine x_seq <| x_region <| p (v := .int .i64 q0j) (yl_move rfl) <| p (v := .int .i64 q0j) (yl_assign rfl) <|
     x_done <| ?_
    have e_ := Option.some.inj (show some _ = some _ from hF); subst e_
    exact x_return ⟨_, ⟨_, _, rfl, rfl, rfl⟩, rfl, hS.drop.drop⟩
   ·replace hF := it_f hc86 hF
    replace hF := bd_s hF; obtain ⟨q2a, q22, hF⟩ := hF
    refine x_skip <| x_seq <| x_region <| p (yl_field0 fld_51_4 q0v) <|
     pa (at_load one_49 rfl ((hS.pull 1).cell rfl)) <| p (yl_field0 fld_30_2 q0u) <| pa (at_load one_27 rfl (hS.cell rfl)) <| p (yl_len_slice usl_27 rfl) <| ?_
    have hcall := c_delay_all q22 q1b (hS.pull 2)
    refine o_cc call_153 (args2 rfl rfl) ((Calls.mono hcall (fun e w'' h => And.intro h.1 ((h.2.pull 2).pull 2)))) ?_
    rintro e w' ⟨rfl, hS⟩
    refine ⟨_, rfl, ?_⟩
    refine p (v := .int .i64 q2a) (yl_assign rfl) <| x_done <| ?_
    have e_ := Option.some.inj (show some _ = some _ from hF); subst e_
    exact x_return ⟨_, ⟨_, _, rfl, rfl, rfl⟩, rfl, hS.drop.drop⟩
attribute [irreducible] P_delay_Check

def P_clocks_name_L2 (s0 : ByteArray) : Int → Option (Int ⊕ (Unit ⊕ Bool)) := fun q2 =>
 if q2 < (s0.size : Int) then
  ck (inb q2 s0.size) <|
  lv (byteAt s0 q2) fun x11 =>
  ck ((!(decide (x11 < 33))) = true → inb q2 s0.size) <|
  lv (byteAt s0 q2) fun x16 =>
  lv ((decide (x11 < 33)) || (decide (126 < x16))) fun x18 =>
  if x18 = true then
   some (Sum.inr (Sum.inr false))
  else
   ar (q2 + 1) fun x19 =>
   some (Sum.inl x19)
 else
  some (Sum.inr (Sum.inl ()))
def P_clocks_name (s0 : ByteArray) : Option Bool :=
 bs (
  lp (P_clocks_name_L2 s0) fuel 0) (fun y => some y) fun _ =>
 lv ((decide (s0 ≠ (⟨#[]⟩ : ByteArray))) && (decide ((s0.size : Int) ≤ 128))) fun x26 =>
 some x26
set_option maxHeartbeats 4000000 in
set_option maxRecDepth 100000 in
theorem c_clocks_name {w0 w : World} {l : List Assn} {ρ : Heap} {s0 : ByteArray} {r : Bool} (hF : P_clocks_name s0 = some r) (hS : St w0 w (ro ρ :: l)) :
  Calls Tryd.prog 123 #[.string s0] w fun e w' => e = .returned (.bool r) ∧ St w0 w' (ro ρ :: l) := by
 refine enterC Tryd.func123 rfl 27 rfl (by simp) ?_
 refine x_seq <| x_region <| p (yl_assign rfl) <| x_done <|
  x_seq <| x_seq <| x_region <| p (yl_move rfl) <|
  p (yl_len_string us_9 rfl) <| p (yl_move rfl) <| x_done <| ?_
 replace hF := bs_s hF; obtain ⟨oL2, hLL2, hF⟩ := hF
 refine x_join (fun E w => (Sum.inl (())) = oL2 ∧ E 0 = .string s0 ∧ St w0 w (ro ρ :: l)) ?_ ?_
 ·refine x_block ?_
  refine x_loop (fun k_ E w => ∃ (q2 : Int), lp (P_clocks_name_L2 s0) k_ q2 = some oL2 ∧ E 0 = .string s0 ∧ E 5 = .int .i64 (s0.size : Int) ∧ E 6 = .int .i64 q2 ∧ St w0 w (ro ρ :: l)) fuel ⟨0, hLL2, rfl, rfl, rfl, hS⟩ ?_
  rintro kL2 E w ⟨q2, hLL2, q3, q5, q4, hS⟩
  replace hLL2 := lp_s hLL2; obtain ⟨kL2, obL2, rfl, hFL2, hLL2⟩ := hLL2
  refine x_seq <| x_region <| p (yl_lss q4 q5) <| x_done <|
   x_seq <|
   x_cond_p (q2 < (s0.size : Int)) rfl (fun hc7 => ?_) (fun hc7 => ?_)
  ·replace hFL2 := it_t hc7 hFL2
   replace hFL2 := ck_s hFL2; obtain ⟨q7, hFL2⟩ := hFL2
   replace hFL2 := lv_s hFL2; obtain ⟨x11, hx11, hFL2⟩ := hFL2
   replace hFL2 := ck_s hFL2; obtain ⟨q8, hFL2⟩ := hFL2
   replace hFL2 := lv_s hFL2; obtain ⟨x16, hx16, hFL2⟩ := hFL2
   replace hFL2 := lv_s hFL2; obtain ⟨x18, hx18, hFL2⟩ := hFL2
   refine x_skip <| x_seq <| x_block <| x_seq <|
    x_region <| p (yl_move q4) <| p (yl_assign rfl) <| x_done <|
    x_seq <| x_region <| p (yl_move q3) <| p (yl_move rfl) <|
    p (ystr us_9 rfl rfl q7 hx11) <| p (yl_lss rfl rfl) <| p (yl_move rfl) <| pg (v := .string s0) 13 (c := !(decide (x11 < 33))) (says_f _) (fun hq => Yl.at (yl_move q3)) <|
    pg (v := .int .i64 q2) 13 (c := !(decide (x11 < 33))) (says_f _) (fun hq => Yl.at (yl_move rfl)) <| pg (v := .int .u8 x16) 13 (c := !(decide (x11 < 33))) (says_f _) (fun hq => Yl.at (ystr us_9 (cv hq) (cv hq) (q8 hq) hx16)) <| pg (v := .bool (decide (126 < x16))) 13 (c := !(decide (x11 < 33))) (says_f _) (fun hq => Yl.at (yl_gtr (cv hq) rfl)) <| p (yor' rfl rfl (fun hc => (cv (t_not hc))) hx18) <|
    x_done <|
    x_cond (t := x18) rfl (fun hc18 => ?_) (fun hc18 => ?_)
   ·replace hFL2 := it_t hc18 hFL2
    refine x_seq <| x_region <| p (yl_assign rfl) <| x_done <| ?_
    have e_ := Option.some.inj (show some _ = some _ from hFL2); subst e_
    have e_ := (show _ = oL2 from hLL2); subst e_
    have e_ := Option.some.inj (show some _ = some _ from hF); subst e_
    exact x_return ⟨_, ⟨_, _, rfl, rfl, rfl⟩, rfl, hS⟩
   ·replace hFL2 := it_bf hc18 hFL2
    replace hFL2 := ar_s hFL2; obtain ⟨x19, hx19, hFL2⟩ := hFL2
    refine x_skip <| x_blk <| x_region <| p (yadd q4 rfl hx19) <|
     p (yl_move rfl) <| x_done <| ?_
    have e_ := Option.some.inj (show some _ = some _ from hFL2); subst e_
    exact x_inv ⟨kL2, Nat.lt_succ_self _, x19, hLL2, q3, q5, rfl, hS⟩
  ·replace hFL2 := it_f hc7 hFL2
   refine x_exitTo _ rfl <| ?_
   have e_ := Option.some.inj (show some _ = some _ from hFL2); subst e_
   exact x_inv ⟨hLL2, q3, hS⟩
 rintro E w ⟨rfl, q6, hS⟩
 replace hF := lv_s hF; obtain ⟨x26, hx26, hF⟩ := hF
 refine x_seq <| x_region <| p (yl_move q6) <| p (ynes rfl rfl) <|
  p (yl_move rfl) <| pg (v := .string s0) 22 (c := decide (s0 ≠ (⟨#[]⟩ : ByteArray))) (says_t _) (fun hq => Yl.at (yl_move q6)) <| pg (v := .int .i64 (s0.size : Int)) 22 (c := decide (s0 ≠ (⟨#[]⟩ : ByteArray))) (says_t _) (fun hq => Yl.at (yl_len_string us_9 (cv hq))) <| pg (v := .bool (decide ((s0.size : Int) ≤ 128))) 22 (c := decide (s0 ≠ (⟨#[]⟩ : ByteArray))) (says_t _) (fun hq => Yl.at (yl_leq (cv hq) rfl)) <|
  p (yand' rfl (fun hc => (cv hc)) rfl hx26) <| p (yl_assign rfl) <| x_done <| ?_
 have e_ := Option.some.inj (show some _ = some _ from hF); subst e_
 exact x_return ⟨_, ⟨_, _, rfl, rfl, rfl⟩, rfl, hS⟩
attribute [irreducible] P_clocks_name

def P_clocks_Check_1 (y0 : T_clocks_Input) (v1 : T_clocks_Input) : Option Unit :=
 some ()
set_option maxHeartbeats 4000000 in
set_option maxRecDepth 100000 in
theorem c_clocks_Check_1 {w0 w : World} {l : List Assn} {ρ : Heap} {q2 : Nat} {y0 : T_clocks_Input} {v1 : T_clocks_Input} {r : Unit} (hF : P_clocks_Check_1 y0 v1 = some r) (hS : St w0 w (cells q2 156 [.string v1.Name, .int .i64 v1.At.Lo, .int .i64 v1.At.Hi] :: ro ρ :: l)) :
  Calls Tryd.prog 125 #[.agg #[.string y0.Name, .int .i64 y0.At.Lo, .int .i64 y0.At.Hi], .pointer (some ⟨q2, 0, none⟩)] w fun e w' => e = .returned (.bool (decide (y0.Name = v1.Name))) ∧ St w0 w' (cells q2 156 [.string v1.Name, .int .i64 v1.At.Lo, .int .i64 v1.At.Hi] :: ro ρ :: l) := by
 refine enterC Tryd.func125 rfl 9 rfl (by simp) ?_
 refine x_seq <| x_region <| ?_
 refine o_box (cs := [.string y0.Name, .int .i64 y0.At.Lo, .int .i64 y0.At.Hi]) rfl rfl hS (fun b2 w' hS => ?_)
 refine p (yl_assign rfl) <| x_done <| x_seq <| x_region <|
  p (yl_field0 fld_156_0 rfl) <| pa (at_load one_9 rfl (hS.cell rfl)) <| p (yl_field0 fld_156_0 rfl) <| pa (at_load one_9 rfl ((hS.pull 1).cell rfl)) <|
  p (yl_eql_string rfl rfl) <| p (yl_assign rfl) <| x_done <| ?_
 have e_ := Option.some.inj (show some _ = some _ from hF); subst e_
 exact x_return ⟨_, ⟨_, _, rfl, rfl, rfl⟩, rfl, ((hS.drop.pull 1).pull 1)⟩
attribute [irreducible] P_clocks_Check_1

def P_slices_IndexFunc_clocks_Input_clocks_Input_L2 (s0 : List T_clocks_Input) (q3 : T_clocks_Input) : Int → Option (Int ⊕ (Unit ⊕ Int)) := fun q2 =>
 if q2 < (s0.length : Int) then
  ck (inb q2 s0.length) <|
  lv (gt s0 q2) fun q4 =>
  bd (P_clocks_Check_1 q4 q3) fun q5 =>
  if q4.Name = q3.Name then
   some (Sum.inr (Sum.inr q2))
  else
   ar (q2 + 1) fun x18 =>
   some (Sum.inl x18)
 else
  some (Sum.inr (Sum.inl ()))
def P_slices_IndexFunc_clocks_Input_clocks_Input (s0 : List T_clocks_Input) (q2 : T_clocks_Input) : Option Int :=
 bs (
  lp (P_slices_IndexFunc_clocks_Input_clocks_Input_L2 s0 q2) fuel 0) (fun y => some y) fun _ =>
 some (-1 : Int)
set_option maxHeartbeats 4000000 in
set_option maxRecDepth 100000 in
theorem c_slices_IndexFunc_clocks_Input_clocks_Input {w0 w : World} {l : List Assn} {ρ : Heap} {q0a : Option Addr} {q0e : Nat} {c_s0 : Nat} {q3 : Nat} {s0 : List T_clocks_Input} {q2 : T_clocks_Input} {r : Int} (hF : P_slices_IndexFunc_clocks_Input_clocks_Input s0 q2 = some r) (q0b : RdS R_clocks_Input ρ q0a q0e c_s0 s0) (hS : St w0 w (cells q3 156 [.string q2.Name, .int .i64 q2.At.Lo, .int .i64 q2.At.Hi] :: ro ρ :: l)) :
  Calls Tryd.prog 155 #[.slice q0a q0e c_s0, .func (.func 125) #[] #[.pointer (some ⟨q3, 0, none⟩)]] w fun e w' => e = .returned (.int .i64 r) ∧ St w0 w' (cells q3 156 [.string q2.Name, .int .i64 q2.At.Lo, .int .i64 q2.At.Hi] :: ro ρ :: l) := by
 have e_ := q0b.n; subst e_
 refine enterC Tryd.func155 rfl 19 rfl (by simp) ?_
 refine x_seq <| x_region <| p (yl_assign rfl) <| x_done <|
  x_seq <| x_seq <| x_region <| p (yl_move rfl) <|
  p (yl_len_slice usl_52 rfl) <| p (yl_move rfl) <| x_done <| ?_
 replace hF := bs_s hF; obtain ⟨oL2, hLL2, hF⟩ := hF
 refine x_join (fun E w => (Sum.inl (())) = oL2 ∧ St w0 w (cells q3 156 [.string q2.Name, .int .i64 q2.At.Lo, .int .i64 q2.At.Hi] :: ro ρ :: l)) ?_ ?_
 ·refine x_block ?_
  refine x_loop (fun k_ E w => ∃ (q4 : Int), lp (P_slices_IndexFunc_clocks_Input_clocks_Input_L2 s0 q2) k_ q4 = some oL2 ∧ E 0 = .slice q0a s0.length c_s0 ∧ E 1 = .func (.func 125) #[] #[.pointer (some ⟨q3, 0, none⟩)] ∧ E 7 = .int .i64 (s0.length : Int) ∧ E 8 = .int .i64 q4 ∧ St w0 w (cells q3 156 [.string q2.Name, .int .i64 q2.At.Lo, .int .i64 q2.At.Hi] :: ro ρ :: l)) fuel ⟨0, hLL2, rfl, rfl, rfl, rfl, ((hS.pull 1).pull 1)⟩ ?_
  rintro kL2 E w ⟨q4, hLL2, q7, q8, q9, q5, hS⟩
  replace hLL2 := lp_s hLL2; obtain ⟨kL2, obL2, rfl, hFL2, hLL2⟩ := hLL2
  refine x_seq <| x_region <| p (yl_lss q5 q9) <| x_done <|
   x_seq <|
   x_cond_p (q4 < (s0.length : Int)) rfl (fun hc9 => ?_) (fun hc9 => ?_)
  ·replace hFL2 := it_t hc9 hFL2
   replace hFL2 := ck_s hFL2; obtain ⟨q0c, hFL2⟩ := hFL2
   replace hFL2 := lv_s hFL2; obtain ⟨q6, q0f, hFL2⟩ := hFL2
   have q_ := q0b.get q0c; obtain ⟨q0i, q0d, q0g⟩ := q_
   rw [← q0f] at q0d
   have e_ := q0d; subst e_
   replace hFL2 := bd_s hFL2; obtain ⟨q0j, q0h, hFL2⟩ := hFL2
   refine x_skip <| x_seq <| x_block <| x_seq <|
    x_region <| p (yl_move q5) <| p (yl_assign rfl) <| x_done <|
    x_seq <| x_region <| p (yl_move q8) <| p (yl_move q7) <|
    p (yl_move rfl) <| p (yix_f sl_52 rfl rfl q0b q0c) <| pa (v := .agg #[.string q6.Name, .int .i64 q6.At.Lo, .int .i64 q6.At.Hi]) (at_loadAgg agg_156 rfl rfl (Elt.every q0g (hS.pull 1))) <| ?_
   have hcall := c_clocks_Check_1 q0h  hS
   refine o_ccv rfl call_125 (capargs (args1 rfl)) (hcall) ?_
   rintro e w' ⟨rfl, hS⟩
   refine ⟨_, rfl, ?_⟩
   refine x_done <|
    x_cond_p (q6.Name = q2.Name) rfl (fun hc16 => ?_) (fun hc16 => ?_)
   ·replace hFL2 := it_t hc16 hFL2
    refine x_seq <| x_region <| p (yl_move rfl) <| p (yl_assign rfl) <|
     x_done <| ?_
    have e_ := Option.some.inj (show some _ = some _ from hFL2); subst e_
    have e_ := (show _ = oL2 from hLL2); subst e_
    have e_ := Option.some.inj (show some _ = some _ from hF); subst e_
    exact x_return ⟨_, ⟨_, _, rfl, rfl, rfl⟩, rfl, ((hS.pull 1).pull 1)⟩
   ·replace hFL2 := it_f hc16 hFL2
    replace hFL2 := ar_s hFL2; obtain ⟨x18, hx18, hFL2⟩ := hFL2
    refine x_skip <| x_blk <| x_region <| p (yadd q5 rfl hx18) <|
     p (yl_move rfl) <| x_done <| ?_
    have e_ := Option.some.inj (show some _ = some _ from hFL2); subst e_
    exact x_inv ⟨kL2, Nat.lt_succ_self _, x18, hLL2, q7, q8, q9, rfl, ((hS.pull 1).pull 1)⟩
  ·replace hFL2 := it_f hc9 hFL2
   refine x_exitTo _ rfl <| ?_
   have e_ := Option.some.inj (show some _ = some _ from hFL2); subst e_
   exact x_inv ⟨hLL2, ((hS.pull 1).pull 1)⟩
 rintro E w ⟨rfl, hS⟩
 refine x_seq <| x_region <| p (yl_assign rfl) <| x_done <| ?_
 have e_ := Option.some.inj (show some _ = some _ from hF); subst e_
 exact x_return ⟨_, ⟨_, _, rfl, rfl, rfl⟩, rfl, ((hS.pull 1).pull 1)⟩
attribute [irreducible] P_slices_IndexFunc_clocks_Input_clocks_Input

def P_slices_ContainsFunc_clocks_Input_clocks_Input (s0 : List T_clocks_Input) (q2 : T_clocks_Input) : Option Bool :=
 bd (P_slices_IndexFunc_clocks_Input_clocks_Input s0 q2) fun q3 =>
 some (decide (0 ≤ q3))
set_option maxHeartbeats 4000000 in
set_option maxRecDepth 100000 in
theorem c_slices_ContainsFunc_clocks_Input_clocks_Input {w0 w : World} {l : List Assn} {ρ : Heap} {q4 : Option Addr} {q5 : Nat} {c_s0 : Nat} {q3 : Nat} {s0 : List T_clocks_Input} {q2 : T_clocks_Input} {r : Bool} (hF : P_slices_ContainsFunc_clocks_Input_clocks_Input s0 q2 = some r) (q6 : RdS R_clocks_Input ρ q4 q5 c_s0 s0) (hS : St w0 w (cells q3 156 [.string q2.Name, .int .i64 q2.At.Lo, .int .i64 q2.At.Hi] :: ro ρ :: l)) :
  Calls Tryd.prog 124 #[.slice q4 q5 c_s0, .func (.func 125) #[] #[.pointer (some ⟨q3, 0, none⟩)]] w fun e w' => e = .returned (.bool r) ∧ St w0 w' (cells q3 156 [.string q2.Name, .int .i64 q2.At.Lo, .int .i64 q2.At.Hi] :: ro ρ :: l) := by
 have e_ := q6.n; subst e_
 refine enterC Tryd.func124 rfl 9 rfl (by simp) ?_
 replace hF := bd_s hF; obtain ⟨q8, q7, hF⟩ := hF
 refine x_seq <| x_region <| p (yl_assign rfl) <| x_done <|
  x_seq <| x_region <| p (yl_move rfl) <| p (yl_move rfl) <| ?_
 have hcall := c_slices_IndexFunc_clocks_Input_clocks_Input q7 q6 hS
 refine o_cc call_155 (args2 rfl rfl) (hcall) ?_
 rintro e w' ⟨rfl, hS⟩
 refine ⟨_, rfl, ?_⟩
 refine p (yl_geq rfl rfl) <| p (yl_assign rfl) <| x_done <| ?_
 have e_ := Option.some.inj (show some _ = some _ from hF); subst e_
 exact x_return ⟨_, ⟨_, _, rfl, rfl, rfl⟩, rfl, ((hS.pull 1).pull 1)⟩
attribute [irreducible] P_slices_ContainsFunc_clocks_Input_clocks_Input

def P_clocks_Check_2 (y0 : T_clocks_Output) (v1 : T_clocks_Output) : Option Unit :=
 some ()
set_option maxHeartbeats 4000000 in
set_option maxRecDepth 100000 in
theorem c_clocks_Check_2 {w0 w : World} {l : List Assn} {ρ : Heap} {q2 : Nat} {y0 : T_clocks_Output} {v1 : T_clocks_Output} {r : Unit} (hF : P_clocks_Check_2 y0 v1 = some r) (hS : St w0 w (cells q2 158 [.string v1.Name, .int .i64 v1.Before] :: ro ρ :: l)) :
  Calls Tryd.prog 127 #[.agg #[.string y0.Name, .int .i64 y0.Before], .pointer (some ⟨q2, 0, none⟩)] w fun e w' => e = .returned (.bool (decide (y0.Name = v1.Name))) ∧ St w0 w' (cells q2 158 [.string v1.Name, .int .i64 v1.Before] :: ro ρ :: l) := by
 refine enterC Tryd.func127 rfl 9 rfl (by simp) ?_
 refine x_seq <| x_region <| ?_
 refine o_box (cs := [.string y0.Name, .int .i64 y0.Before]) rfl rfl hS (fun b2 w' hS => ?_)
 refine p (yl_assign rfl) <| x_done <| x_seq <| x_region <|
  p (yl_field0 fld_158_0 rfl) <| pa (at_load one_9 rfl (hS.cell rfl)) <| p (yl_field0 fld_158_0 rfl) <| pa (at_load one_9 rfl ((hS.pull 1).cell rfl)) <|
  p (yl_eql_string rfl rfl) <| p (yl_assign rfl) <| x_done <| ?_
 have e_ := Option.some.inj (show some _ = some _ from hF); subst e_
 exact x_return ⟨_, ⟨_, _, rfl, rfl, rfl⟩, rfl, ((hS.drop.pull 1).pull 1)⟩
attribute [irreducible] P_clocks_Check_2

def P_slices_IndexFunc_clocks_Output_clocks_Output_L2 (s0 : List T_clocks_Output) (q3 : T_clocks_Output) : Int → Option (Int ⊕ (Unit ⊕ Int)) := fun q2 =>
 if q2 < (s0.length : Int) then
  ck (inb q2 s0.length) <|
  lv (gt s0 q2) fun q4 =>
  bd (P_clocks_Check_2 q4 q3) fun q5 =>
  if q4.Name = q3.Name then
   some (Sum.inr (Sum.inr q2))
  else
   ar (q2 + 1) fun x18 =>
   some (Sum.inl x18)
 else
  some (Sum.inr (Sum.inl ()))
def P_slices_IndexFunc_clocks_Output_clocks_Output (s0 : List T_clocks_Output) (q2 : T_clocks_Output) : Option Int :=
 bs (
  lp (P_slices_IndexFunc_clocks_Output_clocks_Output_L2 s0 q2) fuel 0) (fun y => some y) fun _ =>
 some (-1 : Int)
set_option maxHeartbeats 4000000 in
set_option maxRecDepth 100000 in
theorem c_slices_IndexFunc_clocks_Output_clocks_Output {w0 w : World} {l : List Assn} {ρ : Heap} {q9 : Option Addr} {q0e : Nat} {c_s0 : Nat} {q3 : Nat} {s0 : List T_clocks_Output} {q2 : T_clocks_Output} {r : Int} (hF : P_slices_IndexFunc_clocks_Output_clocks_Output s0 q2 = some r) (q0a : RdS R_clocks_Output ρ q9 q0e c_s0 s0) (hS : St w0 w (cells q3 158 [.string q2.Name, .int .i64 q2.Before] :: ro ρ :: l)) :
  Calls Tryd.prog 156 #[.slice q9 q0e c_s0, .func (.func 127) #[] #[.pointer (some ⟨q3, 0, none⟩)]] w fun e w' => e = .returned (.int .i64 r) ∧ St w0 w' (cells q3 158 [.string q2.Name, .int .i64 q2.Before] :: ro ρ :: l) := by
 have e_ := q0a.n; subst e_
 refine enterC Tryd.func156 rfl 19 rfl (by simp) ?_
 refine x_seq <| x_region <| p (yl_assign rfl) <| x_done <|
  x_seq <| x_seq <| x_region <| p (yl_move rfl) <|
  p (yl_len_slice usl_53 rfl) <| p (yl_move rfl) <| x_done <| ?_
 replace hF := bs_s hF; obtain ⟨oL2, hLL2, hF⟩ := hF
 refine x_join (fun E w => (Sum.inl (())) = oL2 ∧ St w0 w (cells q3 158 [.string q2.Name, .int .i64 q2.Before] :: ro ρ :: l)) ?_ ?_
 ·refine x_block ?_
  refine x_loop (fun k_ E w => ∃ (q4 : Int), lp (P_slices_IndexFunc_clocks_Output_clocks_Output_L2 s0 q2) k_ q4 = some oL2 ∧ E 0 = .slice q9 s0.length c_s0 ∧ E 1 = .func (.func 127) #[] #[.pointer (some ⟨q3, 0, none⟩)] ∧ E 7 = .int .i64 (s0.length : Int) ∧ E 8 = .int .i64 q4 ∧ St w0 w (cells q3 158 [.string q2.Name, .int .i64 q2.Before] :: ro ρ :: l)) fuel ⟨0, hLL2, rfl, rfl, rfl, rfl, ((hS.pull 1).pull 1)⟩ ?_
  rintro kL2 E w ⟨q4, hLL2, q6, q7, q8, q5, hS⟩
  replace hLL2 := lp_s hLL2; obtain ⟨kL2, obL2, rfl, hFL2, hLL2⟩ := hLL2
  refine x_seq <| x_region <| p (yl_lss q5 q8) <| x_done <|
   x_seq <|
   x_cond_p (q4 < (s0.length : Int)) rfl (fun hc9 => ?_) (fun hc9 => ?_)
  ·replace hFL2 := it_t hc9 hFL2
   replace hFL2 := ck_s hFL2; obtain ⟨q0c, hFL2⟩ := hFL2
   replace hFL2 := lv_s hFL2; obtain ⟨q0b, q0f, hFL2⟩ := hFL2
   have q_ := q0a.get q0c; obtain ⟨q0i, q0d, q0g⟩ := q_
   rw [← q0f] at q0d
   have e_ := q0d; subst e_
   replace hFL2 := bd_s hFL2; obtain ⟨q0j, q0h, hFL2⟩ := hFL2
   refine x_skip <| x_seq <| x_block <| x_seq <|
    x_region <| p (yl_move q5) <| p (yl_assign rfl) <| x_done <|
    x_seq <| x_region <| p (yl_move q7) <| p (yl_move q6) <|
    p (yl_move rfl) <| p (yix_f sl_53 rfl rfl q0a q0c) <| pa (v := .agg #[.string q0b.Name, .int .i64 q0b.Before]) (at_loadAgg agg_158 rfl rfl (Elt.every q0g (hS.pull 1))) <| ?_
   have hcall := c_clocks_Check_2 q0h  hS
   refine o_ccv rfl call_127 (capargs (args1 rfl)) (hcall) ?_
   rintro e w' ⟨rfl, hS⟩
   refine ⟨_, rfl, ?_⟩
   refine x_done <|
    x_cond_p (q0b.Name = q2.Name) rfl (fun hc16 => ?_) (fun hc16 => ?_)
   ·replace hFL2 := it_t hc16 hFL2
    refine x_seq <| x_region <| p (yl_move rfl) <| p (yl_assign rfl) <|
     x_done <| ?_
    have e_ := Option.some.inj (show some _ = some _ from hFL2); subst e_
    have e_ := (show _ = oL2 from hLL2); subst e_
    have e_ := Option.some.inj (show some _ = some _ from hF); subst e_
    exact x_return ⟨_, ⟨_, _, rfl, rfl, rfl⟩, rfl, ((hS.pull 1).pull 1)⟩
   ·replace hFL2 := it_f hc16 hFL2
    replace hFL2 := ar_s hFL2; obtain ⟨x18, hx18, hFL2⟩ := hFL2
    refine x_skip <| x_blk <| x_region <| p (yadd q5 rfl hx18) <|
     p (yl_move rfl) <| x_done <| ?_
    have e_ := Option.some.inj (show some _ = some _ from hFL2); subst e_
    exact x_inv ⟨kL2, Nat.lt_succ_self _, x18, hLL2, q6, q7, q8, rfl, ((hS.pull 1).pull 1)⟩
  ·replace hFL2 := it_f hc9 hFL2
   refine x_exitTo _ rfl <| ?_
   have e_ := Option.some.inj (show some _ = some _ from hFL2); subst e_
   exact x_inv ⟨hLL2, ((hS.pull 1).pull 1)⟩
 rintro E w ⟨rfl, hS⟩
 refine x_seq <| x_region <| p (yl_assign rfl) <| x_done <| ?_
 have e_ := Option.some.inj (show some _ = some _ from hF); subst e_
 exact x_return ⟨_, ⟨_, _, rfl, rfl, rfl⟩, rfl, ((hS.pull 1).pull 1)⟩
attribute [irreducible] P_slices_IndexFunc_clocks_Output_clocks_Output

def P_slices_ContainsFunc_clocks_Output_clocks_Output (s0 : List T_clocks_Output) (q2 : T_clocks_Output) : Option Bool :=
 bd (P_slices_IndexFunc_clocks_Output_clocks_Output s0 q2) fun q3 =>
 some (decide (0 ≤ q3))
set_option maxHeartbeats 4000000 in
set_option maxRecDepth 100000 in
theorem c_slices_ContainsFunc_clocks_Output_clocks_Output {w0 w : World} {l : List Assn} {ρ : Heap} {q4 : Option Addr} {q5 : Nat} {c_s0 : Nat} {q2 : Nat} {s0 : List T_clocks_Output} {q3 : T_clocks_Output} {r : Bool} (hF : P_slices_ContainsFunc_clocks_Output_clocks_Output s0 q3 = some r) (q6 : RdS R_clocks_Output ρ q4 q5 c_s0 s0) (hS : St w0 w (cells q2 158 [.string q3.Name, .int .i64 q3.Before] :: ro ρ :: l)) :
  Calls Tryd.prog 126 #[.slice q4 q5 c_s0, .func (.func 127) #[] #[.pointer (some ⟨q2, 0, none⟩)]] w fun e w' => e = .returned (.bool r) ∧ St w0 w' (cells q2 158 [.string q3.Name, .int .i64 q3.Before] :: ro ρ :: l) := by
 have e_ := q6.n; subst e_
 refine enterC Tryd.func126 rfl 9 rfl (by simp) ?_
 replace hF := bd_s hF; obtain ⟨q8, q7, hF⟩ := hF
 refine x_seq <| x_region <| p (yl_assign rfl) <| x_done <|
  x_seq <| x_region <| p (yl_move rfl) <| p (yl_move rfl) <| ?_
 have hcall := c_slices_IndexFunc_clocks_Output_clocks_Output q7 q6 hS
 refine o_cc call_156 (args2 rfl rfl) (hcall) ?_
 rintro e w' ⟨rfl, hS⟩
 refine ⟨_, rfl, ?_⟩
 refine p (yl_geq rfl rfl) <| p (yl_assign rfl) <| x_done <| ?_
 have e_ := Option.some.inj (show some _ = some _ from hF); subst e_
 exact x_return ⟨_, ⟨_, _, rfl, rfl, rfl⟩, rfl, ((hS.pull 1).pull 1)⟩
attribute [irreducible] P_slices_ContainsFunc_clocks_Output_clocks_Output

def P_clocks_write_1 (n0 : Int) : Option ByteArray :=
 bd (P_strconv_Itoa n0) fun q2 =>
 some q2
set_option maxHeartbeats 4000000 in
set_option maxRecDepth 100000 in
theorem c_clocks_write_1 {w0 w : World} {l : List Assn} {ρ : Heap} {n0 : Int} {r : ByteArray} (hF : P_clocks_write_1 n0 = some r) (hS : St w0 w (ro ρ :: l)) :
  Calls Tryd.prog 128 #[.int .i64 n0] w fun e w' => e = .returned (.string r) ∧ St w0 w' (ro ρ :: l) := by
 refine enterC Tryd.func128 rfl 5 rfl (by simp) ?_
 replace hF := bd_s hF; obtain ⟨q3, q2, hF⟩ := hF
 refine x_seq <| x_region <| p (yl_assign rfl) <| x_done <|
  x_seq <| x_region <| p (yl_move rfl) <| ?_
 have hcall := c_strconv_Itoa q2  hS
 refine o_cc call_93 (args1 rfl) (hcall) ?_
 rintro e w' ⟨rfl, hS⟩
 refine ⟨_, rfl, ?_⟩
 refine p (v := .string q3) (yl_assign rfl) <| x_done <| ?_
 have e_ := Option.some.inj (show some _ = some _ from hF); subst e_
 exact x_return ⟨_, ⟨_, _, rfl, rfl, rfl⟩, rfl, hS⟩
attribute [irreducible] P_clocks_write_1

def P_clocks_write_2 (s0 : ByteArray) : Option ByteArray :=
 if s0 = (⟨#[]⟩ : ByteArray) then
  some (⟨#[42]⟩ : ByteArray)
 else
  ck ((⟨#[61]⟩ : ByteArray).size + s0.size ≤ 140737488355328) <|
  some ((⟨#[61]⟩ : ByteArray) ++ s0)
set_option maxHeartbeats 4000000 in
set_option maxRecDepth 100000 in
theorem c_clocks_write_2 {w0 w : World} {l : List Assn} {ρ : Heap} {s0 : ByteArray} {r : ByteArray} (hF : P_clocks_write_2 s0 = some r) (hS : St w0 w (ro ρ :: l)) :
  Calls Tryd.prog 129 #[.string s0] w fun e w' => e = .returned (.string r) ∧ St w0 w' (ro ρ :: l) := by
 refine enterC Tryd.func129 rfl 7 rfl (by simp) ?_
 refine x_seq <| x_region <| p (yl_assign rfl) <| x_done <|
  x_seq <| x_seq <| x_region <| p (yl_move rfl) <|
  p (yl_eql_string rfl rfl) <| x_done <|
  x_cond_p (s0 = (⟨#[]⟩ : ByteArray)) rfl (fun hc4 => ?_) (fun hc4 => ?_)
 ·replace hF := it_t hc4 hF
  refine x_seq <| x_region <| p (yl_assign rfl) <| x_done <| ?_
  have e_ := Option.some.inj (show some _ = some _ from hF); subst e_
  exact x_return ⟨_, ⟨_, _, rfl, rfl, rfl⟩, rfl, hS⟩
 ·replace hF := it_f hc4 hF
  replace hF := ck_s hF; obtain ⟨q2, hF⟩ := hF
  refine x_skip <| x_seq <| x_region <| p (yl_move rfl) <|
   p (yadds rfl rfl q2) <| p (yl_assign rfl) <| x_done <| ?_
  have e_ := Option.some.inj (show some _ = some _ from hF); subst e_
  exact x_return ⟨_, ⟨_, _, rfl, rfl, rfl⟩, rfl, hS⟩
attribute [irreducible] P_clocks_write_2

def P_clocks_write_L5 (l_0 : T_clocks_Limits) : (ByteArray × Int) → Option ((ByteArray × Int) ⊕ ByteArray) := fun (q6, q3) =>
 if q3 < (l_0.Inputs.length : Int) then
  ck (inb q3 l_0.Inputs.length) <|
  lv (gt l_0.Inputs q3) fun q2 =>
  ck ((⟨#[105, 110, 112, 117, 116, 32]⟩ : ByteArray).size + q2.Name.size ≤ 140737488355328) <|
  ck (((⟨#[105, 110, 112, 117, 116, 32]⟩ : ByteArray) ++ q2.Name).size + (⟨#[32]⟩ : ByteArray).size ≤ 140737488355328) <|
  bd (P_clocks_write_1 q2.At.Lo) fun q4 =>
  ck ((((⟨#[105, 110, 112, 117, 116, 32]⟩ : ByteArray) ++ q2.Name) ++ (⟨#[32]⟩ : ByteArray)).size + q4.size ≤ 140737488355328) <|
  ck (((((⟨#[105, 110, 112, 117, 116, 32]⟩ : ByteArray) ++ q2.Name) ++ (⟨#[32]⟩ : ByteArray)) ++ q4).size + (⟨#[32]⟩ : ByteArray).size ≤ 140737488355328) <|
  bd (P_clocks_write_1 q2.At.Hi) fun q5 =>
  ck ((((((⟨#[105, 110, 112, 117, 116, 32]⟩ : ByteArray) ++ q2.Name) ++ (⟨#[32]⟩ : ByteArray)) ++ q4) ++ (⟨#[32]⟩ : ByteArray)).size + q5.size ≤ 140737488355328) <|
  ck (((((((⟨#[105, 110, 112, 117, 116, 32]⟩ : ByteArray) ++ q2.Name) ++ (⟨#[32]⟩ : ByteArray)) ++ q4) ++ (⟨#[32]⟩ : ByteArray)) ++ q5).size + (⟨#[10]⟩ : ByteArray).size ≤ 140737488355328) <|
  ck (q6.size + (((((((⟨#[105, 110, 112, 117, 116, 32]⟩ : ByteArray) ++ q2.Name) ++ (⟨#[32]⟩ : ByteArray)) ++ q4) ++ (⟨#[32]⟩ : ByteArray)) ++ q5) ++ (⟨#[10]⟩ : ByteArray)).size ≤ 140737488355328) <|
  lv (q6 ++ (((((((⟨#[105, 110, 112, 117, 116, 32]⟩ : ByteArray) ++ q2.Name) ++ (⟨#[32]⟩ : ByteArray)) ++ q4) ++ (⟨#[32]⟩ : ByteArray)) ++ q5) ++ (⟨#[10]⟩ : ByteArray))) fun q7 =>
  ar (q3 + 1) fun x45 =>
  some (Sum.inl (q7, x45))
 else
  some (Sum.inr q6)
def P_clocks_write_L10 (l_0 : T_clocks_Limits) : (ByteArray × Int) → Option ((ByteArray × Int) ⊕ ByteArray) := fun (q4, q2) =>
 if q2 < (l_0.Outputs.length : Int) then
  ck (inb q2 l_0.Outputs.length) <|
  lv (gt l_0.Outputs q2) fun q3 =>
  ck ((⟨#[111, 117, 116, 112, 117, 116, 32]⟩ : ByteArray).size + q3.Name.size ≤ 140737488355328) <|
  ck (((⟨#[111, 117, 116, 112, 117, 116, 32]⟩ : ByteArray) ++ q3.Name).size + (⟨#[32]⟩ : ByteArray).size ≤ 140737488355328) <|
  bd (P_clocks_write_1 q3.Before) fun q5 =>
  ck ((((⟨#[111, 117, 116, 112, 117, 116, 32]⟩ : ByteArray) ++ q3.Name) ++ (⟨#[32]⟩ : ByteArray)).size + q5.size ≤ 140737488355328) <|
  ck (((((⟨#[111, 117, 116, 112, 117, 116, 32]⟩ : ByteArray) ++ q3.Name) ++ (⟨#[32]⟩ : ByteArray)) ++ q5).size + (⟨#[10]⟩ : ByteArray).size ≤ 140737488355328) <|
  ck (q4.size + (((((⟨#[111, 117, 116, 112, 117, 116, 32]⟩ : ByteArray) ++ q3.Name) ++ (⟨#[32]⟩ : ByteArray)) ++ q5) ++ (⟨#[10]⟩ : ByteArray)).size ≤ 140737488355328) <|
  lv (q4 ++ (((((⟨#[111, 117, 116, 112, 117, 116, 32]⟩ : ByteArray) ++ q3.Name) ++ (⟨#[32]⟩ : ByteArray)) ++ q5) ++ (⟨#[10]⟩ : ByteArray))) fun q6 =>
  ar (q2 + 1) fun x64 =>
  some (Sum.inl (q6, x64))
 else
  some (Sum.inr q4)
def P_clocks_write_L16 (l_0 : T_clocks_Limits) : (ByteArray × Int) → Option ((ByteArray × Int) ⊕ ByteArray) := fun (q3, q4) =>
 if q4 < (l_0.Paths.length : Int) then
  ck (inb q4 l_0.Paths.length) <|
  lv (gt l_0.Paths q4) fun q5 =>
  bd (
   if q5.Cycles = 0 then
    bd (P_clocks_write_2 q5.From) fun q6 =>
    ck ((⟨#[102, 97, 108, 115, 101, 32]⟩ : ByteArray).size + q6.size ≤ 140737488355328) <|
    ck (((⟨#[102, 97, 108, 115, 101, 32]⟩ : ByteArray) ++ q6).size + (⟨#[32]⟩ : ByteArray).size ≤ 140737488355328) <|
    bd (P_clocks_write_2 q5.To) fun q9 =>
    ck ((((⟨#[102, 97, 108, 115, 101, 32]⟩ : ByteArray) ++ q6) ++ (⟨#[32]⟩ : ByteArray)).size + q9.size ≤ 140737488355328) <|
    ck (((((⟨#[102, 97, 108, 115, 101, 32]⟩ : ByteArray) ++ q6) ++ (⟨#[32]⟩ : ByteArray)) ++ q9).size + (⟨#[10]⟩ : ByteArray).size ≤ 140737488355328) <|
    ck (q3.size + (((((⟨#[102, 97, 108, 115, 101, 32]⟩ : ByteArray) ++ q6) ++ (⟨#[32]⟩ : ByteArray)) ++ q9) ++ (⟨#[10]⟩ : ByteArray)).size ≤ 140737488355328) <|
    lv (q3 ++ (((((⟨#[102, 97, 108, 115, 101, 32]⟩ : ByteArray) ++ q6) ++ (⟨#[32]⟩ : ByteArray)) ++ q9) ++ (⟨#[10]⟩ : ByteArray))) fun q0a =>
    some q0a
   else
    bd (P_clocks_write_1 q5.Cycles) fun q2 =>
    ck ((⟨#[109, 117, 108, 116, 105, 32]⟩ : ByteArray).size + q2.size ≤ 140737488355328) <|
    ck (((⟨#[109, 117, 108, 116, 105, 32]⟩ : ByteArray) ++ q2).size + (⟨#[32]⟩ : ByteArray).size ≤ 140737488355328) <|
    bd (P_clocks_write_2 q5.From) fun q7 =>
    ck ((((⟨#[109, 117, 108, 116, 105, 32]⟩ : ByteArray) ++ q2) ++ (⟨#[32]⟩ : ByteArray)).size + q7.size ≤ 140737488355328) <|
    ck (((((⟨#[109, 117, 108, 116, 105, 32]⟩ : ByteArray) ++ q2) ++ (⟨#[32]⟩ : ByteArray)) ++ q7).size + (⟨#[32]⟩ : ByteArray).size ≤ 140737488355328) <|
    bd (P_clocks_write_2 q5.To) fun q8 =>
    ck ((((((⟨#[109, 117, 108, 116, 105, 32]⟩ : ByteArray) ++ q2) ++ (⟨#[32]⟩ : ByteArray)) ++ q7) ++ (⟨#[32]⟩ : ByteArray)).size + q8.size ≤ 140737488355328) <|
    ck (((((((⟨#[109, 117, 108, 116, 105, 32]⟩ : ByteArray) ++ q2) ++ (⟨#[32]⟩ : ByteArray)) ++ q7) ++ (⟨#[32]⟩ : ByteArray)) ++ q8).size + (⟨#[10]⟩ : ByteArray).size ≤ 140737488355328) <|
    ck (q3.size + (((((((⟨#[109, 117, 108, 116, 105, 32]⟩ : ByteArray) ++ q2) ++ (⟨#[32]⟩ : ByteArray)) ++ q7) ++ (⟨#[32]⟩ : ByteArray)) ++ q8) ++ (⟨#[10]⟩ : ByteArray)).size ≤ 140737488355328) <|
    lv (q3 ++ (((((((⟨#[109, 117, 108, 116, 105, 32]⟩ : ByteArray) ++ q2) ++ (⟨#[32]⟩ : ByteArray)) ++ q7) ++ (⟨#[32]⟩ : ByteArray)) ++ q8) ++ (⟨#[10]⟩ : ByteArray))) fun q0b =>
    some q0b) fun q0c =>
  ar (q4 + 1) fun x107 =>
  some (Sum.inl (q0c, x107))
 else
  some (Sum.inr q3)
def P_clocks_write (l_0 : T_clocks_Limits) : Option ByteArray :=
 bd (P_clocks_write_1 l_0.Period) fun q2 =>
 ck ((⟨#[112, 101, 114, 105, 111, 100, 32]⟩ : ByteArray).size + q2.size ≤ 140737488355328) <|
 ck (((⟨#[112, 101, 114, 105, 111, 100, 32]⟩ : ByteArray) ++ q2).size + (⟨#[10]⟩ : ByteArray).size ≤ 140737488355328) <|
 ck ((⟨#[]⟩ : ByteArray).size + (((⟨#[112, 101, 114, 105, 111, 100, 32]⟩ : ByteArray) ++ q2) ++ (⟨#[10]⟩ : ByteArray)).size ≤ 140737488355328) <|
 lv ((⟨#[]⟩ : ByteArray) ++ (((⟨#[112, 101, 114, 105, 111, 100, 32]⟩ : ByteArray) ++ q2) ++ (⟨#[10]⟩ : ByteArray))) fun q6 =>
 bd (
  lp (P_clocks_write_L5 l_0) fuel (q6, 0)) fun q5 =>
 bd (
  lp (P_clocks_write_L10 l_0) fuel (q5, 0)) fun q4 =>
 bd (
  lp (P_clocks_write_L16 l_0) fuel (q4, 0)) fun q3 =>
 ck (0 < q3.size) <|
 some q3
set_option maxHeartbeats 4000000 in
set_option maxRecDepth 100000 in
theorem c_clocks_write {w0 w : World} {l : List Assn} {ρ : Heap} {q9 : Option Addr} {q2w : Nat} {c_l_0_1 : Nat} {q0a : Option Addr} {q2x : Nat} {c_l_0_2 : Nat} {q8 : Option Addr} {q2y : Nat} {c_l_0_3 : Nat} {l_0 : T_clocks_Limits} {r : ByteArray} (hF : P_clocks_write l_0 = some r) (q27 : RdS R_clocks_Input ρ q9 q2w c_l_0_1 l_0.Inputs) (q28 : RdS R_clocks_Output ρ q0a q2x c_l_0_2 l_0.Outputs) (q29 : RdS R_clocks_Path ρ q8 q2y c_l_0_3 l_0.Paths) (hS : St w0 w (ro ρ :: l)) :
  Calls Tryd.prog 74 #[.agg #[.int .i64 l_0.Period, .slice q9 q2w c_l_0_1, .slice q0a q2x c_l_0_2, .slice q8 q2y c_l_0_3]] w fun e w' => e = .returned (.string r) ∧ St w0 w' (ro ρ :: l) := by
 have e_ := q27.n; subst e_
 have e_ := q28.n; subst e_
 have e_ := q29.n; subst e_
 refine enterC Tryd.func74 rfl 109 rfl (by simp) ?_
 refine x_seq <| x_region <| ?_
 refine o_box (cs := [.int .i64 l_0.Period, .slice q9 l_0.Inputs.length c_l_0_1, .slice q0a l_0.Outputs.length c_l_0_2, .slice q8 l_0.Paths.length c_l_0_3]) rfl rfl hS (fun b1 w' hS => ?_)
 refine p (yl_assign rfl) <| x_done <| x_seq <| x_region <| ?_
 refine o_alloc zero_171 hS (fun b3 w' hS => ?_)
 replace hS := bld_new (e := 5) hS
 replace hF := bd_s hF; obtain ⟨q57, q4q, hF⟩ := hF
 refine x_done <| x_seq <| x_region <| p (yl_assign rfl) <|
  x_done <| x_seq <| x_region <| p (yl_move rfl) <|
  p (yl_field0 fld_56_0 rfl) <| pa (at_load one_3 rfl ((hS.pull 1).cell rfl)) <| ?_
 have hcall := c_clocks_write_1 q4q  (hS.pull 2)
 refine o_ccv rfl call_128 (args1 rfl) ((Calls.mono hcall (fun e w'' h => And.intro h.1 ((h.2.pull 2).pull 2)))) ?_
 rintro e w' ⟨rfl, hS⟩
 refine ⟨_, rfl, ?_⟩
 replace hF := ck_s hF; obtain ⟨q4r, hF⟩ := hF
 replace hF := ck_s hF; obtain ⟨q4s, hF⟩ := hF
 refine p (yadds rfl rfl q4r) <| p (yadds rfl rfl q4s) <| ?_
 replace hF := ck_s hF; obtain ⟨q4t, hF⟩ := hF
 replace hF := lv_s hF; obtain ⟨q53, q4u, hF⟩ := hF
 refine o_cc call_80 (args2 rfl rfl) (bws hS q4t) ?_
 rintro e w' ⟨rfl, hS⟩
 refine ⟨_, rfl, ?_⟩
 rw [← q4u] at hS
 refine x_done <| x_seq <| x_seq <| x_region <|
  p (yl_field0 fld_56_1 rfl) <| pa (at_load one_52 rfl ((hS.pull 1).cell rfl)) <| p (yl_len_slice usl_52 rfl) <| p (yl_move rfl) <|
  x_done <| ?_
 replace hF := bd_s hF; obtain ⟨oL5, hLL5, hF⟩ := hF
 refine x_join (fun E w => ∃ (q2o : ByteArray), q2o = oL5 ∧ E 1 = .pointer (some ⟨b1, 0, none⟩) ∧ E 3 = .pointer (some ⟨b3, 0, none⟩) ∧ E 4 = .func (.func 128) #[] #[] ∧ St w0 w (cells b1 56 [.int .i64 l_0.Period, .slice q9 l_0.Inputs.length c_l_0_1, .slice q0a l_0.Outputs.length c_l_0_2, .slice q8 l_0.Paths.length c_l_0_3] :: bld 171 5 b3 q2o :: ro ρ :: l)) ?_ ?_
 ·refine x_block ?_
  refine x_loop (fun k_ E w => ∃ (q0k : ByteArray) (q0y : Int), lp (P_clocks_write_L5 l_0) k_ (q0k, q0y) = some oL5 ∧ E 1 = .pointer (some ⟨b1, 0, none⟩) ∧ E 3 = .pointer (some ⟨b3, 0, none⟩) ∧ E 4 = .func (.func 128) #[] #[] ∧ E 20 = .slice q9 l_0.Inputs.length c_l_0_1 ∧ E 21 = .int .i64 (l_0.Inputs.length : Int) ∧ E 22 = .int .i64 q0y ∧ St w0 w (cells b1 56 [.int .i64 l_0.Period, .slice q9 l_0.Inputs.length c_l_0_1, .slice q0a l_0.Outputs.length c_l_0_2, .slice q8 l_0.Paths.length c_l_0_3] :: bld 171 5 b3 q0k :: ro ρ :: l)) fuel ⟨q53, 0, hLL5, rfl, rfl, rfl, rfl, rfl, rfl, (((hS.pull 2).pull 1).pull 2)⟩ ?_
  rintro kL5 E w ⟨q0k, q0y, hLL5, q33, q2p, q24, q2z, q30, q2a, hS⟩
  replace hLL5 := lp_s hLL5; obtain ⟨kL5, obL5, rfl, hFL5, hLL5⟩ := hLL5
  refine x_seq <| x_region <| p (yl_lss q2a q30) <| x_done <|
   x_seq <|
   x_cond_p (q0y < (l_0.Inputs.length : Int)) rfl (fun hc23 => ?_) (fun hc23 => ?_)
  ·replace hFL5 := it_t hc23 hFL5
   replace hFL5 := ck_s hFL5; obtain ⟨q3b, hFL5⟩ := hFL5
   replace hFL5 := lv_s hFL5; obtain ⟨q3, q4v, hFL5⟩ := hFL5
   have q_ := q27.get q3b; obtain ⟨q56, q3c, q4w⟩ := q_
   rw [← q4v] at q3c
   have e_ := q3c; subst e_
   refine x_skip <| x_seq <| x_block <| x_seq <|
    x_region <| p (yix_f sl_52 q2z q2a q27 q3b) <| pa (v := .agg #[.string q3.Name, .int .i64 q3.At.Lo, .int .i64 q3.At.Hi]) (at_loadAgg agg_156 rfl rfl (Elt.every q4w (hS.pull 2))) <| ?_
   refine o_alloc zero_156 hS (fun b6 w' hS => ?_)
   refine o_storeAgg (news := [.string q3.Name, .int .i64 q3.At.Lo, .int .i64 q3.At.Hi]) agg_156 rfl rfl rfl (by simp [over_length]) hS (fun w' hS => ?_)
   refine x_done <| ?_
   replace hFL5 := ck_s hFL5; obtain ⟨q4x, hFL5⟩ := hFL5
   replace hFL5 := ck_s hFL5; obtain ⟨q4y, hFL5⟩ := hFL5
   replace hFL5 := bd_s hFL5; obtain ⟨q0b, q4z, hFL5⟩ := hFL5
   replace hFL5 := ck_s hFL5; obtain ⟨q50, hFL5⟩ := hFL5
   replace hFL5 := ck_s hFL5; obtain ⟨q3v, hFL5⟩ := hFL5
   replace hFL5 := bd_s hFL5; obtain ⟨q0e, q3w, hFL5⟩ := hFL5
   replace hFL5 := ck_s hFL5; obtain ⟨q3x, hFL5⟩ := hFL5
   replace hFL5 := ck_s hFL5; obtain ⟨q3y, hFL5⟩ := hFL5
   replace hFL5 := ck_s hFL5; obtain ⟨q3z, hFL5⟩ := hFL5
   replace hFL5 := lv_s hFL5; obtain ⟨q32, q40, hFL5⟩ := hFL5
   refine x_par (w0 := w0) [⟨[], [], [26], [], [], []⟩, ⟨[0], [0], [27], [0], [], []⟩, ⟨[0, 1], [1], [28], [], [], []⟩, ⟨[0, 1, 2], [2], [29], [], [], []⟩, ⟨[], [], [30], [], [], []⟩, ⟨[], [], [31], [], [], []⟩, ⟨[5], [5], [32], [], [], []⟩, ⟨[5, 6], [6], [33], [0], [], []⟩, ⟨[4, 5, 6, 7], [4, 7], [34], [1], [], []⟩, ⟨[0, 1, 2, 3, 4, 5, 6, 7, 8], [3, 8], [35], [], [], []⟩, ⟨[0, 1, 2, 3, 4, 5, 6, 7, 8, 9], [9], [36], [], [], []⟩, ⟨[], [], [37], [], [], []⟩, ⟨[], [], [38], [], [], []⟩, ⟨[12], [12], [39], [], [], []⟩, ⟨[12, 13], [13], [40], [0], [], []⟩, ⟨[4, 5, 6, 7, 8, 11, 12, 13, 14], [11, 14], [41], [1], [], []⟩, ⟨[0, 1, 2, 3, 4, 5, 6, 7, 8, 9, 10, 11, 12, 13, 14, 15], [10, 15], [42], [], [], []⟩, ⟨[0, 1, 2, 3, 4, 5, 6, 7, 8, 9, 10, 11, 12, 13, 14, 15, 16], [16], [43], [], [], []⟩, ⟨[0, 1, 2, 3, 4, 5, 6, 7, 8, 9, 10, 11, 12, 13, 14, 15, 16, 17], [17], [44], [], [2], [3]⟩] [⟨none, none, []⟩, ⟨none, none, []⟩, ⟨none, (some 18), []⟩, ⟨(some 18), none, []⟩] [26, 27, 28, 29, 30, 31, 32, 33, 34, 35, 36, 37, 38, 39, 40, 41, 42, 43, 44] [0, 1, 2] [0, 1, 3] [0, 1, 2, 3, 4, 5, 6, 7, 8, 9, 10, 11, 12, 13, 14, 15, 16, 17, 18] [fun Ep7 => Ep7 26 = .pointer (some ⟨b6, 0, none⟩), fun Ep7 => Ep7 27 = .string q3.Name, fun Ep7 => Ep7 28 = .string ((⟨#[105, 110, 112, 117, 116, 32]⟩ : ByteArray) ++ q3.Name), fun Ep7 => Ep7 29 = .string (((⟨#[105, 110, 112, 117, 116, 32]⟩ : ByteArray) ++ q3.Name) ++ (⟨#[32]⟩ : ByteArray)), fun Ep7 => Ep7 30 = .func (.func 128) #[] #[], fun Ep7 => Ep7 31 = .pointer (some ⟨b6, 1, none⟩), fun Ep7 => Ep7 32 = .pointer (some ⟨b6, 1, none⟩), fun Ep7 => Ep7 33 = .int .i64 q3.At.Lo, fun Ep7 => Ep7 34 = .string q0b, fun Ep7 => Ep7 35 = .string ((((⟨#[105, 110, 112, 117, 116, 32]⟩ : ByteArray) ++ q3.Name) ++ (⟨#[32]⟩ : ByteArray)) ++ q0b), fun Ep7 => Ep7 36 = .string (((((⟨#[105, 110, 112, 117, 116, 32]⟩ : ByteArray) ++ q3.Name) ++ (⟨#[32]⟩ : ByteArray)) ++ q0b) ++ (⟨#[32]⟩ : ByteArray)), fun Ep7 => Ep7 37 = .func (.func 128) #[] #[], fun Ep7 => Ep7 38 = .pointer (some ⟨b6, 1, none⟩), fun Ep7 => Ep7 39 = .pointer (some ⟨b6, 2, none⟩), fun Ep7 => Ep7 40 = .int .i64 q3.At.Hi, fun Ep7 => Ep7 41 = .string q0e, fun Ep7 => Ep7 42 = .string ((((((⟨#[105, 110, 112, 117, 116, 32]⟩ : ByteArray) ++ q3.Name) ++ (⟨#[32]⟩ : ByteArray)) ++ q0b) ++ (⟨#[32]⟩ : ByteArray)) ++ q0e), fun Ep7 => Ep7 43 = .string (((((((⟨#[105, 110, 112, 117, 116, 32]⟩ : ByteArray) ++ q3.Name) ++ (⟨#[32]⟩ : ByteArray)) ++ q0b) ++ (⟨#[32]⟩ : ByteArray)) ++ q0e) ++ (⟨#[10]⟩ : ByteArray)), fun Ep7 => Ep7 44 = .tuple #[.int .i64 ((((((((⟨#[105, 110, 112, 117, 116, 32]⟩ : ByteArray) ++ q3.Name) ++ (⟨#[32]⟩ : ByteArray)) ++ q0b) ++ (⟨#[32]⟩ : ByteArray)) ++ q0e) ++ (⟨#[10]⟩ : ByteArray)).size : Int), .nilIface]] [fun Ep7 => cells b6 156 [.string q3.Name, .int .i64 q3.At.Lo, .int .i64 q3.At.Hi], fun Ep7 => ro ρ, fun Ep7 => bld 171 5 b3 q0k, fun Ep7 => bld 171 5 b3 q32] mixed (by kernel_rfl) (((hS.pull 2).pull 3).pull 2) ?_ ?_
   ·refine ⟨?_, ?_, ?_, ?_, ?_, ?_, ?_, ?_, ?_, ?_, ?_, ?_, ?_, ?_, ?_, ?_, ?_, ?_, ?_, trivial⟩
    ·intro Ep7 w l' hE7 hO7 hF_ hS
     refine p (yl_field0 fld_156_0 (hE7 6 rfl)) <| x_done <| ?_
     refine x_fin ⟨⟨_, rfl⟩, rfl, ?_⟩
     exact Eq.mp (by kernel_rfl) hS
    ·intro Ep7 w l' hE7 hO7 hF_ hS
     obtain ⟨q2b, -⟩ := hF_
     replace q2b : Ep7 26 = .pointer (some ⟨b6, 0, none⟩) := Eq.mp (by kernel_rfl) q2b
     replace hS : St w0 w (cells b6 156 [.string q3.Name, .int .i64 q3.At.Lo, .int .i64 q3.At.Hi] :: l') := Eq.mp (by kernel_rfl) hS
     refine pa (at_load one_9 q2b (hS.cell rfl)) <| x_done <| ?_
     refine x_fin ⟨⟨_, rfl⟩, rfl, ?_⟩
     exact Eq.mp (by kernel_rfl) hS
    ·intro Ep7 w l' hE7 hO7 hF_ hS
     obtain ⟨q2c, -⟩ := hF_
     replace q2c : Ep7 27 = .string q3.Name := Eq.mp (by kernel_rfl) q2c
     refine p (yadds rfl q2c q4x) <| x_done <| ?_
     refine x_fin ⟨⟨_, rfl⟩, rfl, ?_⟩
     exact Eq.mp (by kernel_rfl) hS
    ·intro Ep7 w l' hE7 hO7 hF_ hS
     obtain ⟨q2d, -⟩ := hF_
     replace q2d : Ep7 28 = .string ((⟨#[105, 110, 112, 117, 116, 32]⟩ : ByteArray) ++ q3.Name) := Eq.mp (by kernel_rfl) q2d
     refine p (yadds q2d rfl q4y) <| x_done <| ?_
     refine x_fin ⟨⟨_, rfl⟩, rfl, ?_⟩
     exact Eq.mp (by kernel_rfl) hS
    ·intro Ep7 w l' hE7 hO7 hF_ hS
     refine p (yl_move ((hE7 4 rfl).trans q24)) <| x_done <| ?_
     refine x_fin ⟨⟨_, rfl⟩, rfl, ?_⟩
     exact Eq.mp (by kernel_rfl) hS
    ·intro Ep7 w l' hE7 hO7 hF_ hS
     refine p (yl_field0 fld_156_1 (hE7 6 rfl)) <| x_done <| ?_
     refine x_fin ⟨⟨_, rfl⟩, rfl, ?_⟩
     exact Eq.mp (by kernel_rfl) hS
    ·intro Ep7 w l' hE7 hO7 hF_ hS
     obtain ⟨q2e, -⟩ := hF_
     replace q2e : Ep7 31 = .pointer (some ⟨b6, 1, none⟩) := Eq.mp (by kernel_rfl) q2e
     refine p (yl_fieldN fld_70_0 q2e) <| x_done <| ?_
     refine x_fin ⟨⟨_, rfl⟩, rfl, ?_⟩
     exact Eq.mp (by kernel_rfl) hS
    ·intro Ep7 w l' hE7 hO7 hF_ hS
     obtain ⟨q2f, -⟩ := hF_
     replace q2f : Ep7 32 = .pointer (some ⟨b6, 1, none⟩) := Eq.mp (by kernel_rfl) q2f
     replace hS : St w0 w (cells b6 156 [.string q3.Name, .int .i64 q3.At.Lo, .int .i64 q3.At.Hi] :: l') := Eq.mp (by kernel_rfl) hS
     refine pa (at_load one_3 q2f (hS.cell rfl)) <| x_done <| ?_
     refine x_fin ⟨⟨_, rfl⟩, rfl, ?_⟩
     exact Eq.mp (by kernel_rfl) hS
    ·intro Ep7 w l' hE7 hO7 hF_ hS
     obtain ⟨q2g, q2h, -⟩ := hF_
     replace q2g : Ep7 30 = .func (.func 128) #[] #[] := Eq.mp (by kernel_rfl) q2g
     replace q2h : Ep7 33 = .int .i64 q3.At.Lo := Eq.mp (by kernel_rfl) q2h
     replace hS : St w0 w (ro ρ :: l') := Eq.mp (by kernel_rfl) hS
     have hcall := c_clocks_write_1 q4z  hS
     refine o_ccv q2g call_128 (args1 q2h) (hcall) ?_
     rintro e w' ⟨rfl, hS⟩
     refine ⟨_, rfl, ?_⟩
     refine x_done <| ?_
     refine x_fin ⟨⟨_, rfl⟩, rfl, ?_⟩
     exact Eq.mp (by kernel_rfl) hS
    ·intro Ep7 w l' hE7 hO7 hF_ hS
     obtain ⟨q2i, q2j, -⟩ := hF_
     replace q2i : Ep7 29 = .string (((⟨#[105, 110, 112, 117, 116, 32]⟩ : ByteArray) ++ q3.Name) ++ (⟨#[32]⟩ : ByteArray)) := Eq.mp (by kernel_rfl) q2i
     replace q2j : Ep7 34 = .string q0b := Eq.mp (by kernel_rfl) q2j
     refine p (yadds q2i q2j q50) <| x_done <| ?_
     refine x_fin ⟨⟨_, rfl⟩, rfl, ?_⟩
     exact Eq.mp (by kernel_rfl) hS
    ·intro Ep7 w l' hE7 hO7 hF_ hS
     obtain ⟨q2k, -⟩ := hF_
     replace q2k : Ep7 35 = .string ((((⟨#[105, 110, 112, 117, 116, 32]⟩ : ByteArray) ++ q3.Name) ++ (⟨#[32]⟩ : ByteArray)) ++ q0b) := Eq.mp (by kernel_rfl) q2k
     refine p (yadds q2k rfl q3v) <| x_done <| ?_
     refine x_fin ⟨⟨_, rfl⟩, rfl, ?_⟩
     exact Eq.mp (by kernel_rfl) hS
    ·intro Ep7 w l' hE7 hO7 hF_ hS
     refine p (yl_move ((hE7 4 rfl).trans q24)) <| x_done <| ?_
     refine x_fin ⟨⟨_, rfl⟩, rfl, ?_⟩
     exact Eq.mp (by kernel_rfl) hS
    ·intro Ep7 w l' hE7 hO7 hF_ hS
     refine p (yl_field0 fld_156_1 (hE7 6 rfl)) <| x_done <| ?_
     refine x_fin ⟨⟨_, rfl⟩, rfl, ?_⟩
     exact Eq.mp (by kernel_rfl) hS
    ·intro Ep7 w l' hE7 hO7 hF_ hS
     obtain ⟨q0z, -⟩ := hF_
     replace q0z : Ep7 38 = .pointer (some ⟨b6, 1, none⟩) := Eq.mp (by kernel_rfl) q0z
     refine p (yl_fieldN fld_70_1 q0z) <| x_done <| ?_
     refine x_fin ⟨⟨_, rfl⟩, rfl, ?_⟩
     exact Eq.mp (by kernel_rfl) hS
    ·intro Ep7 w l' hE7 hO7 hF_ hS
     obtain ⟨q10, -⟩ := hF_
     replace q10 : Ep7 39 = .pointer (some ⟨b6, 2, none⟩) := Eq.mp (by kernel_rfl) q10
     replace hS : St w0 w (cells b6 156 [.string q3.Name, .int .i64 q3.At.Lo, .int .i64 q3.At.Hi] :: l') := Eq.mp (by kernel_rfl) hS
     refine pa (at_load one_3 q10 (hS.cell rfl)) <| x_done <| ?_
     refine x_fin ⟨⟨_, rfl⟩, rfl, ?_⟩
     exact Eq.mp (by kernel_rfl) hS
    ·intro Ep7 w l' hE7 hO7 hF_ hS
     obtain ⟨q11, q12, -⟩ := hF_
     replace q11 : Ep7 37 = .func (.func 128) #[] #[] := Eq.mp (by kernel_rfl) q11
     replace q12 : Ep7 40 = .int .i64 q3.At.Hi := Eq.mp (by kernel_rfl) q12
     replace hS : St w0 w (ro ρ :: l') := Eq.mp (by kernel_rfl) hS
     have hcall := c_clocks_write_1 q3w  hS
     refine o_ccv q11 call_128 (args1 q12) (hcall) ?_
     rintro e w' ⟨rfl, hS⟩
     refine ⟨_, rfl, ?_⟩
     refine x_done <| ?_
     refine x_fin ⟨⟨_, rfl⟩, rfl, ?_⟩
     exact Eq.mp (by kernel_rfl) hS
    ·intro Ep7 w l' hE7 hO7 hF_ hS
     obtain ⟨q13, q14, -⟩ := hF_
     replace q13 : Ep7 36 = .string (((((⟨#[105, 110, 112, 117, 116, 32]⟩ : ByteArray) ++ q3.Name) ++ (⟨#[32]⟩ : ByteArray)) ++ q0b) ++ (⟨#[32]⟩ : ByteArray)) := Eq.mp (by kernel_rfl) q13
     replace q14 : Ep7 41 = .string q0e := Eq.mp (by kernel_rfl) q14
     refine p (yadds q13 q14 q3x) <| x_done <| ?_
     refine x_fin ⟨⟨_, rfl⟩, rfl, ?_⟩
     exact Eq.mp (by kernel_rfl) hS
    ·intro Ep7 w l' hE7 hO7 hF_ hS
     obtain ⟨q15, -⟩ := hF_
     replace q15 : Ep7 42 = .string ((((((⟨#[105, 110, 112, 117, 116, 32]⟩ : ByteArray) ++ q3.Name) ++ (⟨#[32]⟩ : ByteArray)) ++ q0b) ++ (⟨#[32]⟩ : ByteArray)) ++ q0e) := Eq.mp (by kernel_rfl) q15
     refine p (yadds q15 rfl q3y) <| x_done <| ?_
     refine x_fin ⟨⟨_, rfl⟩, rfl, ?_⟩
     exact Eq.mp (by kernel_rfl) hS
    ·intro Ep7 w l' hE7 hO7 hF_ hS
     obtain ⟨q16, -⟩ := hF_
     replace q16 : Ep7 43 = .string (((((((⟨#[105, 110, 112, 117, 116, 32]⟩ : ByteArray) ++ q3.Name) ++ (⟨#[32]⟩ : ByteArray)) ++ q0b) ++ (⟨#[32]⟩ : ByteArray)) ++ q0e) ++ (⟨#[10]⟩ : ByteArray)) := Eq.mp (by kernel_rfl) q16
     replace hS : St w0 w (bld 171 5 b3 q0k :: l') := Eq.mp (by kernel_rfl) hS
     refine o_cc call_80 (args2 ((hE7 3 rfl).trans q2p) q16) (bws hS q3z) ?_
     rintro e w' ⟨rfl, hS⟩
     refine ⟨_, rfl, ?_⟩
     rw [← q40] at hS
     refine x_done <| ?_
     refine x_fin ⟨⟨_, rfl⟩, rfl, ?_⟩
     exact Eq.mp (by kernel_rfl) hS
   intro Ep7 w' hE7 hF_ hS
   obtain ⟨q2b, q2c, q2d, q2i, q2g, q2e, q2f, q2h, q2j, q2k, q13, q11, q0z, q10, q12, q14, q15, q16, q3d, -⟩ := hF_
   replace q2b : Ep7 26 = .pointer (some ⟨b6, 0, none⟩) := Eq.mp (by kernel_rfl) q2b
   replace q2c : Ep7 27 = .string q3.Name := Eq.mp (by kernel_rfl) q2c
   replace q2d : Ep7 28 = .string ((⟨#[105, 110, 112, 117, 116, 32]⟩ : ByteArray) ++ q3.Name) := Eq.mp (by kernel_rfl) q2d
   replace q2i : Ep7 29 = .string (((⟨#[105, 110, 112, 117, 116, 32]⟩ : ByteArray) ++ q3.Name) ++ (⟨#[32]⟩ : ByteArray)) := Eq.mp (by kernel_rfl) q2i
   replace q2g : Ep7 30 = .func (.func 128) #[] #[] := Eq.mp (by kernel_rfl) q2g
   replace q2e : Ep7 31 = .pointer (some ⟨b6, 1, none⟩) := Eq.mp (by kernel_rfl) q2e
   replace q2f : Ep7 32 = .pointer (some ⟨b6, 1, none⟩) := Eq.mp (by kernel_rfl) q2f
   replace q2h : Ep7 33 = .int .i64 q3.At.Lo := Eq.mp (by kernel_rfl) q2h
   replace q2j : Ep7 34 = .string q0b := Eq.mp (by kernel_rfl) q2j
   replace q2k : Ep7 35 = .string ((((⟨#[105, 110, 112, 117, 116, 32]⟩ : ByteArray) ++ q3.Name) ++ (⟨#[32]⟩ : ByteArray)) ++ q0b) := Eq.mp (by kernel_rfl) q2k
   replace q13 : Ep7 36 = .string (((((⟨#[105, 110, 112, 117, 116, 32]⟩ : ByteArray) ++ q3.Name) ++ (⟨#[32]⟩ : ByteArray)) ++ q0b) ++ (⟨#[32]⟩ : ByteArray)) := Eq.mp (by kernel_rfl) q13
   replace q11 : Ep7 37 = .func (.func 128) #[] #[] := Eq.mp (by kernel_rfl) q11
   replace q0z : Ep7 38 = .pointer (some ⟨b6, 1, none⟩) := Eq.mp (by kernel_rfl) q0z
   replace q10 : Ep7 39 = .pointer (some ⟨b6, 2, none⟩) := Eq.mp (by kernel_rfl) q10
   replace q12 : Ep7 40 = .int .i64 q3.At.Hi := Eq.mp (by kernel_rfl) q12
   replace q14 : Ep7 41 = .string q0e := Eq.mp (by kernel_rfl) q14
   replace q15 : Ep7 42 = .string ((((((⟨#[105, 110, 112, 117, 116, 32]⟩ : ByteArray) ++ q3.Name) ++ (⟨#[32]⟩ : ByteArray)) ++ q0b) ++ (⟨#[32]⟩ : ByteArray)) ++ q0e) := Eq.mp (by kernel_rfl) q15
   replace q16 : Ep7 43 = .string (((((((⟨#[105, 110, 112, 117, 116, 32]⟩ : ByteArray) ++ q3.Name) ++ (⟨#[32]⟩ : ByteArray)) ++ q0b) ++ (⟨#[32]⟩ : ByteArray)) ++ q0e) ++ (⟨#[10]⟩ : ByteArray)) := Eq.mp (by kernel_rfl) q16
   replace q3d : Ep7 44 = .tuple #[.int .i64 ((((((((⟨#[105, 110, 112, 117, 116, 32]⟩ : ByteArray) ++ q3.Name) ++ (⟨#[32]⟩ : ByteArray)) ++ q0b) ++ (⟨#[32]⟩ : ByteArray)) ++ q0e) ++ (⟨#[10]⟩ : ByteArray)).size : Int), .nilIface] := Eq.mp (by kernel_rfl) q3d
   replace hS : St w0 w' (cells b6 156 [.string q3.Name, .int .i64 q3.At.Lo, .int .i64 q3.At.Hi] :: ro ρ :: bld 171 5 b3 q32 :: (cells b1 56 [.int .i64 l_0.Period, .slice q9 l_0.Inputs.length c_l_0_1, .slice q0a l_0.Outputs.length c_l_0_2, .slice q8 l_0.Paths.length c_l_0_3] :: l)) := Eq.mp (by kernel_rfl) hS
   replace hFL5 := ar_s hFL5; obtain ⟨x45, hx45, hFL5⟩ := hFL5
   refine x_blk <| x_region <| p (yadd ((hE7 22 rfl).trans q2a) rfl hx45) <| p (yl_move rfl) <|
    x_done <| ?_
   have e_ := Option.some.inj (show some _ = some _ from hFL5); subst e_
   exact x_inv ⟨kL5, Nat.lt_succ_self _, q32, x45, hLL5, ((hE7 1 rfl).trans q33), ((hE7 3 rfl).trans q2p), ((hE7 4 rfl).trans q24), ((hE7 20 rfl).trans q2z), ((hE7 21 rfl).trans q30), rfl, ((hS.drop.pull 1).pull 2)⟩
  ·replace hFL5 := it_f hc23 hFL5
   refine x_exitTo _ rfl <| ?_
   have e_ := Option.some.inj (show some _ = some _ from hFL5); subst e_
   exact x_inv ⟨q0k, hLL5, q33, q2p, q24, (((hS.pull 2).pull 2).pull 2)⟩
 rintro E w ⟨q2o, rfl, q3e, q51, q52, hS⟩
 refine x_seq <| x_seq <| x_region <| p (yl_field0 fld_56_2 q3e) <|
  pa (at_load one_53 rfl (hS.cell rfl)) <| p (yl_len_slice usl_53 rfl) <| p (yl_move rfl) <| x_done <| ?_
 replace hF := bd_s hF; obtain ⟨oL10, hLL10, hF⟩ := hF
 refine x_join (fun E w => ∃ (q25 : ByteArray), q25 = oL10 ∧ E 1 = .pointer (some ⟨b1, 0, none⟩) ∧ E 3 = .pointer (some ⟨b3, 0, none⟩) ∧ E 4 = .func (.func 128) #[] #[] ∧ St w0 w (cells b1 56 [.int .i64 l_0.Period, .slice q9 l_0.Inputs.length c_l_0_1, .slice q0a l_0.Outputs.length c_l_0_2, .slice q8 l_0.Paths.length c_l_0_3] :: bld 171 5 b3 q25 :: ro ρ :: l)) ?_ ?_
 ·refine x_block ?_
  refine x_loop (fun k_ E w => ∃ (q0h : ByteArray) (q0w : Int), lp (P_clocks_write_L10 l_0) k_ (q0h, q0w) = some oL10 ∧ E 1 = .pointer (some ⟨b1, 0, none⟩) ∧ E 3 = .pointer (some ⟨b3, 0, none⟩) ∧ E 4 = .func (.func 128) #[] #[] ∧ E 47 = .slice q0a l_0.Outputs.length c_l_0_2 ∧ E 48 = .int .i64 (l_0.Outputs.length : Int) ∧ E 49 = .int .i64 q0w ∧ St w0 w (cells b1 56 [.int .i64 l_0.Period, .slice q9 l_0.Inputs.length c_l_0_1, .slice q0a l_0.Outputs.length c_l_0_2, .slice q8 l_0.Paths.length c_l_0_3] :: bld 171 5 b3 q0h :: ro ρ :: l)) fuel ⟨q2o, 0, hLL10, q3e, q51, q52, rfl, rfl, rfl, (((hS.pull 2).pull 2).pull 2)⟩ ?_
  rintro kL10 E w ⟨q0h, q0w, hLL10, q31, q2l, q2m, q2q, q2r, q21, hS⟩
  replace hLL10 := lp_s hLL10; obtain ⟨kL10, obL10, rfl, hFL10, hLL10⟩ := hLL10
  refine x_seq <| x_region <| p (yl_lss q21 q2r) <| x_done <|
   x_seq <|
   x_cond_p (q0w < (l_0.Outputs.length : Int)) rfl (fun hc50 => ?_) (fun hc50 => ?_)
  ·replace hFL10 := it_t hc50 hFL10
   replace hFL10 := ck_s hFL10; obtain ⟨q34, hFL10⟩ := hFL10
   replace hFL10 := lv_s hFL10; obtain ⟨q4, q41, hFL10⟩ := hFL10
   have q_ := q28.get q34; obtain ⟨q54, q35, q42⟩ := q_
   rw [← q41] at q35
   have e_ := q35; subst e_
   refine x_skip <| x_seq <| x_block <| x_seq <|
    x_region <| p (yix_f sl_53 q2q q21 q28 q34) <| pa (v := .agg #[.string q4.Name, .int .i64 q4.Before]) (at_loadAgg agg_158 rfl rfl (Elt.every q42 (hS.pull 2))) <| ?_
   refine o_alloc zero_158 hS (fun b8 w' hS => ?_)
   refine o_storeAgg (news := [.string q4.Name, .int .i64 q4.Before]) agg_158 rfl rfl rfl (by simp [over_length]) hS (fun w' hS => ?_)
   refine x_done <| ?_
   replace hFL10 := ck_s hFL10; obtain ⟨q43, hFL10⟩ := hFL10
   replace hFL10 := ck_s hFL10; obtain ⟨q44, hFL10⟩ := hFL10
   replace hFL10 := bd_s hFL10; obtain ⟨q0f, q45, hFL10⟩ := hFL10
   replace hFL10 := ck_s hFL10; obtain ⟨q46, hFL10⟩ := hFL10
   replace hFL10 := ck_s hFL10; obtain ⟨q47, hFL10⟩ := hFL10
   replace hFL10 := ck_s hFL10; obtain ⟨q3f, hFL10⟩ := hFL10
   replace hFL10 := lv_s hFL10; obtain ⟨q2s, q3g, hFL10⟩ := hFL10
   refine x_par (w0 := w0) [⟨[], [], [53], [], [], []⟩, ⟨[0], [0], [54], [0], [], []⟩, ⟨[0, 1], [1], [55], [], [], []⟩, ⟨[0, 1, 2], [2], [56], [], [], []⟩, ⟨[], [], [57], [], [], []⟩, ⟨[], [], [58], [], [], []⟩, ⟨[5], [5], [59], [0], [], []⟩, ⟨[4, 5, 6], [4, 6], [60], [1], [], []⟩, ⟨[0, 1, 2, 3, 4, 5, 6, 7], [3, 7], [61], [], [], []⟩, ⟨[0, 1, 2, 3, 4, 5, 6, 7, 8], [8], [62], [], [], []⟩, ⟨[0, 1, 2, 3, 4, 5, 6, 7, 8, 9], [9], [63], [], [2], [3]⟩] [⟨none, none, []⟩, ⟨none, none, []⟩, ⟨none, (some 10), []⟩, ⟨(some 10), none, []⟩] [53, 54, 55, 56, 57, 58, 59, 60, 61, 62, 63] [0, 1, 2] [0, 1, 3] [0, 1, 2, 3, 4, 5, 6, 7, 8, 9, 10] [fun Ep12 => Ep12 53 = .pointer (some ⟨b8, 0, none⟩), fun Ep12 => Ep12 54 = .string q4.Name, fun Ep12 => Ep12 55 = .string ((⟨#[111, 117, 116, 112, 117, 116, 32]⟩ : ByteArray) ++ q4.Name), fun Ep12 => Ep12 56 = .string (((⟨#[111, 117, 116, 112, 117, 116, 32]⟩ : ByteArray) ++ q4.Name) ++ (⟨#[32]⟩ : ByteArray)), fun Ep12 => Ep12 57 = .func (.func 128) #[] #[], fun Ep12 => Ep12 58 = .pointer (some ⟨b8, 1, none⟩), fun Ep12 => Ep12 59 = .int .i64 q4.Before, fun Ep12 => Ep12 60 = .string q0f, fun Ep12 => Ep12 61 = .string ((((⟨#[111, 117, 116, 112, 117, 116, 32]⟩ : ByteArray) ++ q4.Name) ++ (⟨#[32]⟩ : ByteArray)) ++ q0f), fun Ep12 => Ep12 62 = .string (((((⟨#[111, 117, 116, 112, 117, 116, 32]⟩ : ByteArray) ++ q4.Name) ++ (⟨#[32]⟩ : ByteArray)) ++ q0f) ++ (⟨#[10]⟩ : ByteArray)), fun Ep12 => Ep12 63 = .tuple #[.int .i64 ((((((⟨#[111, 117, 116, 112, 117, 116, 32]⟩ : ByteArray) ++ q4.Name) ++ (⟨#[32]⟩ : ByteArray)) ++ q0f) ++ (⟨#[10]⟩ : ByteArray)).size : Int), .nilIface]] [fun Ep12 => cells b8 158 [.string q4.Name, .int .i64 q4.Before], fun Ep12 => ro ρ, fun Ep12 => bld 171 5 b3 q0h, fun Ep12 => bld 171 5 b3 q2s] mixed (by kernel_rfl) (((hS.pull 2).pull 3).pull 2) ?_ ?_
   ·refine ⟨?_, ?_, ?_, ?_, ?_, ?_, ?_, ?_, ?_, ?_, ?_, trivial⟩
    ·intro Ep12 w l' hE12 hO12 hF_ hS
     refine p (yl_field0 fld_158_0 (hE12 8 rfl)) <| x_done <| ?_
     refine x_fin ⟨⟨_, rfl⟩, rfl, ?_⟩
     exact Eq.mp (by kernel_rfl) hS
    ·intro Ep12 w l' hE12 hO12 hF_ hS
     obtain ⟨q17, -⟩ := hF_
     replace q17 : Ep12 53 = .pointer (some ⟨b8, 0, none⟩) := Eq.mp (by kernel_rfl) q17
     replace hS : St w0 w (cells b8 158 [.string q4.Name, .int .i64 q4.Before] :: l') := Eq.mp (by kernel_rfl) hS
     refine pa (at_load one_9 q17 (hS.cell rfl)) <| x_done <| ?_
     refine x_fin ⟨⟨_, rfl⟩, rfl, ?_⟩
     exact Eq.mp (by kernel_rfl) hS
    ·intro Ep12 w l' hE12 hO12 hF_ hS
     obtain ⟨q18, -⟩ := hF_
     replace q18 : Ep12 54 = .string q4.Name := Eq.mp (by kernel_rfl) q18
     refine p (yadds rfl q18 q43) <| x_done <| ?_
     refine x_fin ⟨⟨_, rfl⟩, rfl, ?_⟩
     exact Eq.mp (by kernel_rfl) hS
    ·intro Ep12 w l' hE12 hO12 hF_ hS
     obtain ⟨q19, -⟩ := hF_
     replace q19 : Ep12 55 = .string ((⟨#[111, 117, 116, 112, 117, 116, 32]⟩ : ByteArray) ++ q4.Name) := Eq.mp (by kernel_rfl) q19
     refine p (yadds q19 rfl q44) <| x_done <| ?_
     refine x_fin ⟨⟨_, rfl⟩, rfl, ?_⟩
     exact Eq.mp (by kernel_rfl) hS
    ·intro Ep12 w l' hE12 hO12 hF_ hS
     refine p (yl_move ((hE12 4 rfl).trans q2m)) <| x_done <| ?_
     refine x_fin ⟨⟨_, rfl⟩, rfl, ?_⟩
     exact Eq.mp (by kernel_rfl) hS
    ·intro Ep12 w l' hE12 hO12 hF_ hS
     refine p (yl_field0 fld_158_1 (hE12 8 rfl)) <| x_done <| ?_
     refine x_fin ⟨⟨_, rfl⟩, rfl, ?_⟩
     exact Eq.mp (by kernel_rfl) hS
    ·intro Ep12 w l' hE12 hO12 hF_ hS
     obtain ⟨q1a, -⟩ := hF_
     replace q1a : Ep12 58 = .pointer (some ⟨b8, 1, none⟩) := Eq.mp (by kernel_rfl) q1a
     replace hS : St w0 w (cells b8 158 [.string q4.Name, .int .i64 q4.Before] :: l') := Eq.mp (by kernel_rfl) hS
     refine pa (at_load one_3 q1a (hS.cell rfl)) <| x_done <| ?_
     refine x_fin ⟨⟨_, rfl⟩, rfl, ?_⟩
     exact Eq.mp (by kernel_rfl) hS
    ·intro Ep12 w l' hE12 hO12 hF_ hS
     obtain ⟨q1b, q1c, -⟩ := hF_
     replace q1b : Ep12 57 = .func (.func 128) #[] #[] := Eq.mp (by kernel_rfl) q1b
     replace q1c : Ep12 59 = .int .i64 q4.Before := Eq.mp (by kernel_rfl) q1c
     replace hS : St w0 w (ro ρ :: l') := Eq.mp (by kernel_rfl) hS
     have hcall := c_clocks_write_1 q45  hS
     refine o_ccv q1b call_128 (args1 q1c) (hcall) ?_
     rintro e w' ⟨rfl, hS⟩
     refine ⟨_, rfl, ?_⟩
     refine x_done <| ?_
     refine x_fin ⟨⟨_, rfl⟩, rfl, ?_⟩
     exact Eq.mp (by kernel_rfl) hS
    ·intro Ep12 w l' hE12 hO12 hF_ hS
     obtain ⟨q1d, q1e, -⟩ := hF_
     replace q1d : Ep12 56 = .string (((⟨#[111, 117, 116, 112, 117, 116, 32]⟩ : ByteArray) ++ q4.Name) ++ (⟨#[32]⟩ : ByteArray)) := Eq.mp (by kernel_rfl) q1d
     replace q1e : Ep12 60 = .string q0f := Eq.mp (by kernel_rfl) q1e
     refine p (yadds q1d q1e q46) <| x_done <| ?_
     refine x_fin ⟨⟨_, rfl⟩, rfl, ?_⟩
     exact Eq.mp (by kernel_rfl) hS
    ·intro Ep12 w l' hE12 hO12 hF_ hS
     obtain ⟨q1f, -⟩ := hF_
     replace q1f : Ep12 61 = .string ((((⟨#[111, 117, 116, 112, 117, 116, 32]⟩ : ByteArray) ++ q4.Name) ++ (⟨#[32]⟩ : ByteArray)) ++ q0f) := Eq.mp (by kernel_rfl) q1f
     refine p (yadds q1f rfl q47) <| x_done <| ?_
     refine x_fin ⟨⟨_, rfl⟩, rfl, ?_⟩
     exact Eq.mp (by kernel_rfl) hS
    ·intro Ep12 w l' hE12 hO12 hF_ hS
     obtain ⟨q1g, -⟩ := hF_
     replace q1g : Ep12 62 = .string (((((⟨#[111, 117, 116, 112, 117, 116, 32]⟩ : ByteArray) ++ q4.Name) ++ (⟨#[32]⟩ : ByteArray)) ++ q0f) ++ (⟨#[10]⟩ : ByteArray)) := Eq.mp (by kernel_rfl) q1g
     replace hS : St w0 w (bld 171 5 b3 q0h :: l') := Eq.mp (by kernel_rfl) hS
     refine o_cc call_80 (args2 ((hE12 3 rfl).trans q2l) q1g) (bws hS q3f) ?_
     rintro e w' ⟨rfl, hS⟩
     refine ⟨_, rfl, ?_⟩
     rw [← q3g] at hS
     refine x_done <| ?_
     refine x_fin ⟨⟨_, rfl⟩, rfl, ?_⟩
     exact Eq.mp (by kernel_rfl) hS
   intro Ep12 w' hE12 hF_ hS
   obtain ⟨q17, q18, q19, q1d, q1b, q1a, q1c, q1e, q1f, q1g, q36, -⟩ := hF_
   replace q17 : Ep12 53 = .pointer (some ⟨b8, 0, none⟩) := Eq.mp (by kernel_rfl) q17
   replace q18 : Ep12 54 = .string q4.Name := Eq.mp (by kernel_rfl) q18
   replace q19 : Ep12 55 = .string ((⟨#[111, 117, 116, 112, 117, 116, 32]⟩ : ByteArray) ++ q4.Name) := Eq.mp (by kernel_rfl) q19
   replace q1d : Ep12 56 = .string (((⟨#[111, 117, 116, 112, 117, 116, 32]⟩ : ByteArray) ++ q4.Name) ++ (⟨#[32]⟩ : ByteArray)) := Eq.mp (by kernel_rfl) q1d
   replace q1b : Ep12 57 = .func (.func 128) #[] #[] := Eq.mp (by kernel_rfl) q1b
   replace q1a : Ep12 58 = .pointer (some ⟨b8, 1, none⟩) := Eq.mp (by kernel_rfl) q1a
   replace q1c : Ep12 59 = .int .i64 q4.Before := Eq.mp (by kernel_rfl) q1c
   replace q1e : Ep12 60 = .string q0f := Eq.mp (by kernel_rfl) q1e
   replace q1f : Ep12 61 = .string ((((⟨#[111, 117, 116, 112, 117, 116, 32]⟩ : ByteArray) ++ q4.Name) ++ (⟨#[32]⟩ : ByteArray)) ++ q0f) := Eq.mp (by kernel_rfl) q1f
   replace q1g : Ep12 62 = .string (((((⟨#[111, 117, 116, 112, 117, 116, 32]⟩ : ByteArray) ++ q4.Name) ++ (⟨#[32]⟩ : ByteArray)) ++ q0f) ++ (⟨#[10]⟩ : ByteArray)) := Eq.mp (by kernel_rfl) q1g
   replace q36 : Ep12 63 = .tuple #[.int .i64 ((((((⟨#[111, 117, 116, 112, 117, 116, 32]⟩ : ByteArray) ++ q4.Name) ++ (⟨#[32]⟩ : ByteArray)) ++ q0f) ++ (⟨#[10]⟩ : ByteArray)).size : Int), .nilIface] := Eq.mp (by kernel_rfl) q36
   replace hS : St w0 w' (cells b8 158 [.string q4.Name, .int .i64 q4.Before] :: ro ρ :: bld 171 5 b3 q2s :: (cells b1 56 [.int .i64 l_0.Period, .slice q9 l_0.Inputs.length c_l_0_1, .slice q0a l_0.Outputs.length c_l_0_2, .slice q8 l_0.Paths.length c_l_0_3] :: l)) := Eq.mp (by kernel_rfl) hS
   replace hFL10 := ar_s hFL10; obtain ⟨x64, hx64, hFL10⟩ := hFL10
   refine x_blk <| x_region <| p (yadd ((hE12 49 rfl).trans q21) rfl hx64) <| p (yl_move rfl) <|
    x_done <| ?_
   have e_ := Option.some.inj (show some _ = some _ from hFL10); subst e_
   exact x_inv ⟨kL10, Nat.lt_succ_self _, q2s, x64, hLL10, ((hE12 1 rfl).trans q31), ((hE12 3 rfl).trans q2l), ((hE12 4 rfl).trans q2m), ((hE12 47 rfl).trans q2q), ((hE12 48 rfl).trans q2r), rfl, ((hS.drop.pull 1).pull 2)⟩
  ·replace hFL10 := it_f hc50 hFL10
   refine x_exitTo _ rfl <| ?_
   have e_ := Option.some.inj (show some _ = some _ from hFL10); subst e_
   exact x_inv ⟨q0h, hLL10, q31, q2l, q2m, (((hS.pull 2).pull 2).pull 2)⟩
 rintro E w ⟨q25, rfl, q48, q49, q4a, hS⟩
 refine x_seq <| x_region <| p (yl_assign rfl) <| x_done <|
  x_seq <| x_seq <| x_region <| p (yl_field0 fld_56_3 q48) <|
  pa (at_load one_54 rfl (hS.cell rfl)) <| p (yl_len_slice usl_54 rfl) <| p (yl_move rfl) <| x_done <| ?_
 replace hF := bd_s hF; obtain ⟨oL16, hLL16, hF⟩ := hF
 refine x_join (fun E w => ∃ (q2t : ByteArray), q2t = oL16 ∧ E 3 = .pointer (some ⟨b3, 0, none⟩) ∧ St w0 w (bld 171 5 b3 q2t :: ro ρ :: l)) ?_ ?_
 ·refine x_block ?_
  refine x_loop (fun k_ E w => ∃ (q0d : ByteArray) (q0j : Int), lp (P_clocks_write_L16 l_0) k_ (q0d, q0j) = some oL16 ∧ E 3 = .pointer (some ⟨b3, 0, none⟩) ∧ E 4 = .func (.func 128) #[] #[] ∧ E 9 = .func (.func 129) #[] #[] ∧ E 66 = .slice q8 l_0.Paths.length c_l_0_3 ∧ E 67 = .int .i64 (l_0.Paths.length : Int) ∧ E 68 = .int .i64 q0j ∧ St w0 w (bld 171 5 b3 q0d :: ro ρ :: l)) fuel ⟨q25, 0, hLL16, q49, q4a, rfl, rfl, rfl, rfl, ((hS.drop.pull 1).pull 1)⟩ ?_
  rintro kL16 E w ⟨q0d, q0j, hLL16, q0l, q2n, q0i, q22, q23, q0x, hS⟩
  replace hLL16 := lp_s hLL16; obtain ⟨kL16, obL16, rfl, hFL16, hLL16⟩ := hLL16
  refine x_seq <| x_region <| p (yl_lss q0x q23) <| x_done <|
   x_seq <|
   x_cond_p (q0j < (l_0.Paths.length : Int)) rfl (fun hc69 => ?_) (fun hc69 => ?_)
  ·replace hFL16 := it_t hc69 hFL16
   replace hFL16 := ck_s hFL16; obtain ⟨q37, hFL16⟩ := hFL16
   replace hFL16 := lv_s hFL16; obtain ⟨q2, q4b, hFL16⟩ := hFL16
   have q_ := q29.get q37; obtain ⟨q55, q38, q4c⟩ := q_
   rw [← q4b] at q38
   have e_ := q38; subst e_
   refine x_skip <| x_seq <| x_block <| x_seq <|
    x_region <| p (yix_f sl_54 q22 q0x q29 q37) <| pa (v := .agg #[.string q2.From, .string q2.To, .int .i64 q2.Cycles]) (at_loadAgg agg_160 rfl rfl (Elt.every q4c (hS.pull 1))) <| ?_
   refine o_alloc zero_160 hS (fun b11 w' hS => ?_)
   refine o_storeAgg (news := [.string q2.From, .string q2.To, .int .i64 q2.Cycles]) agg_160 rfl rfl rfl (by simp [over_length]) hS (fun w' hS => ?_)
   refine x_done <| x_seq <| x_region <| p (yl_field0 fld_160_2 rfl) <|
    pa (at_load one_3 rfl (hS.cell rfl)) <| p (yl_eql rfl rfl) <| x_done <| ?_
   replace hFL16 := bd_s hFL16; obtain ⟨oc74, hFc74, hFL16⟩ := hFL16
   refine x_join (fun E w => ∃ (q26 : ByteArray), q26 = oc74 ∧ E 3 = .pointer (some ⟨b3, 0, none⟩) ∧ E 4 = .func (.func 128) #[] #[] ∧ E 9 = .func (.func 129) #[] #[] ∧ E 66 = .slice q8 l_0.Paths.length c_l_0_3 ∧ E 67 = .int .i64 (l_0.Paths.length : Int) ∧ E 68 = .int .i64 q0j ∧ St w0 w (bld 171 5 b3 q26 :: ro ρ :: l)) ?_ ?_
   ·refine x_cond_p (q2.Cycles = 0) rfl (fun hc74 => ?_) (fun hc74 => ?_)
    ·replace hFc74 := it_t hc74 hFc74
     replace hFc74 := bd_s hFc74; obtain ⟨q6, q4d, hFc74⟩ := hFc74
     replace hFc74 := ck_s hFc74; obtain ⟨q4e, hFc74⟩ := hFc74
     replace hFc74 := ck_s hFc74; obtain ⟨q4f, hFc74⟩ := hFc74
     replace hFc74 := bd_s hFc74; obtain ⟨q0g, q4g, hFc74⟩ := hFc74
     replace hFc74 := ck_s hFc74; obtain ⟨q3h, hFc74⟩ := hFc74
     replace hFc74 := ck_s hFc74; obtain ⟨q3i, hFc74⟩ := hFc74
     replace hFc74 := ck_s hFc74; obtain ⟨q3j, hFc74⟩ := hFc74
     replace hFc74 := lv_s hFc74; obtain ⟨q2u, q3k, hFc74⟩ := hFc74
     refine x_par (w0 := w0) [⟨[], [], [75], [], [], []⟩, ⟨[], [], [76], [], [], []⟩, ⟨[1], [1], [77], [0], [], []⟩, ⟨[0, 1, 2], [0, 2], [78], [1], [], []⟩, ⟨[0, 1, 2, 3], [3], [79], [], [], []⟩, ⟨[0, 1, 2, 3, 4], [4], [80], [], [], []⟩, ⟨[], [], [81], [], [], []⟩, ⟨[], [], [82], [], [], []⟩, ⟨[7], [7], [83], [0], [], []⟩, ⟨[0, 1, 2, 3, 6, 7, 8], [6, 8], [84], [1], [], []⟩, ⟨[0, 1, 2, 3, 4, 5, 6, 7, 8, 9], [5, 9], [85], [], [], []⟩, ⟨[0, 1, 2, 3, 4, 5, 6, 7, 8, 9, 10], [10], [86], [], [], []⟩, ⟨[0, 1, 2, 3, 4, 5, 6, 7, 8, 9, 10, 11], [11], [87], [], [2], [3]⟩] [⟨none, none, []⟩, ⟨none, none, []⟩, ⟨none, (some 12), []⟩, ⟨(some 12), none, []⟩] [75, 76, 77, 78, 79, 80, 81, 82, 83, 84, 85, 86, 87] [0, 1, 2] [0, 1, 3] [0, 1, 2, 3, 4, 5, 6, 7, 8, 9, 10, 11, 12] [fun Ep19 => Ep19 75 = .func (.func 129) #[] #[], fun Ep19 => Ep19 76 = .pointer (some ⟨b11, 0, none⟩), fun Ep19 => Ep19 77 = .string q2.From, fun Ep19 => Ep19 78 = .string q6, fun Ep19 => Ep19 79 = .string ((⟨#[102, 97, 108, 115, 101, 32]⟩ : ByteArray) ++ q6), fun Ep19 => Ep19 80 = .string (((⟨#[102, 97, 108, 115, 101, 32]⟩ : ByteArray) ++ q6) ++ (⟨#[32]⟩ : ByteArray)), fun Ep19 => Ep19 81 = .func (.func 129) #[] #[], fun Ep19 => Ep19 82 = .pointer (some ⟨b11, 1, none⟩), fun Ep19 => Ep19 83 = .string q2.To, fun Ep19 => Ep19 84 = .string q0g, fun Ep19 => Ep19 85 = .string ((((⟨#[102, 97, 108, 115, 101, 32]⟩ : ByteArray) ++ q6) ++ (⟨#[32]⟩ : ByteArray)) ++ q0g), fun Ep19 => Ep19 86 = .string (((((⟨#[102, 97, 108, 115, 101, 32]⟩ : ByteArray) ++ q6) ++ (⟨#[32]⟩ : ByteArray)) ++ q0g) ++ (⟨#[10]⟩ : ByteArray)), fun Ep19 => Ep19 87 = .tuple #[.int .i64 ((((((⟨#[102, 97, 108, 115, 101, 32]⟩ : ByteArray) ++ q6) ++ (⟨#[32]⟩ : ByteArray)) ++ q0g) ++ (⟨#[10]⟩ : ByteArray)).size : Int), .nilIface]] [fun Ep19 => cells b11 160 [.string q2.From, .string q2.To, .int .i64 q2.Cycles], fun Ep19 => ro ρ, fun Ep19 => bld 171 5 b3 q0d, fun Ep19 => bld 171 5 b3 q2u] mixed (by kernel_rfl) (((hS.pull 1).pull 2).pull 2) ?_ ?_
     ·refine ⟨?_, ?_, ?_, ?_, ?_, ?_, ?_, ?_, ?_, ?_, ?_, ?_, ?_, trivial⟩
      ·intro Ep19 w l' hE19 hO19 hF_ hS
       refine p (yl_move ((hE19 9 rfl).trans q0i)) <| x_done <| ?_
       refine x_fin ⟨⟨_, rfl⟩, rfl, ?_⟩
       exact Eq.mp (by kernel_rfl) hS
      ·intro Ep19 w l' hE19 hO19 hF_ hS
       refine p (yl_field0 fld_160_0 (hE19 11 rfl)) <| x_done <| ?_
       refine x_fin ⟨⟨_, rfl⟩, rfl, ?_⟩
       exact Eq.mp (by kernel_rfl) hS
      ·intro Ep19 w l' hE19 hO19 hF_ hS
       obtain ⟨q1h, -⟩ := hF_
       replace q1h : Ep19 76 = .pointer (some ⟨b11, 0, none⟩) := Eq.mp (by kernel_rfl) q1h
       replace hS : St w0 w (cells b11 160 [.string q2.From, .string q2.To, .int .i64 q2.Cycles] :: l') := Eq.mp (by kernel_rfl) hS
       refine pa (at_load one_9 q1h (hS.cell rfl)) <| x_done <| ?_
       refine x_fin ⟨⟨_, rfl⟩, rfl, ?_⟩
       exact Eq.mp (by kernel_rfl) hS
      ·intro Ep19 w l' hE19 hO19 hF_ hS
       obtain ⟨q1i, q1j, -⟩ := hF_
       replace q1i : Ep19 75 = .func (.func 129) #[] #[] := Eq.mp (by kernel_rfl) q1i
       replace q1j : Ep19 77 = .string q2.From := Eq.mp (by kernel_rfl) q1j
       replace hS : St w0 w (ro ρ :: l') := Eq.mp (by kernel_rfl) hS
       have hcall := c_clocks_write_2 q4d  hS
       refine o_ccv q1i call_129 (args1 q1j) (hcall) ?_
       rintro e w' ⟨rfl, hS⟩
       refine ⟨_, rfl, ?_⟩
       refine x_done <| ?_
       refine x_fin ⟨⟨_, rfl⟩, rfl, ?_⟩
       exact Eq.mp (by kernel_rfl) hS
      ·intro Ep19 w l' hE19 hO19 hF_ hS
       obtain ⟨q1k, -⟩ := hF_
       replace q1k : Ep19 78 = .string q6 := Eq.mp (by kernel_rfl) q1k
       refine p (yadds rfl q1k q4e) <| x_done <| ?_
       refine x_fin ⟨⟨_, rfl⟩, rfl, ?_⟩
       exact Eq.mp (by kernel_rfl) hS
      ·intro Ep19 w l' hE19 hO19 hF_ hS
       obtain ⟨q1l, -⟩ := hF_
       replace q1l : Ep19 79 = .string ((⟨#[102, 97, 108, 115, 101, 32]⟩ : ByteArray) ++ q6) := Eq.mp (by kernel_rfl) q1l
       refine p (yadds q1l rfl q4f) <| x_done <| ?_
       refine x_fin ⟨⟨_, rfl⟩, rfl, ?_⟩
       exact Eq.mp (by kernel_rfl) hS
      ·intro Ep19 w l' hE19 hO19 hF_ hS
       refine p (yl_move ((hE19 9 rfl).trans q0i)) <| x_done <| ?_
       refine x_fin ⟨⟨_, rfl⟩, rfl, ?_⟩
       exact Eq.mp (by kernel_rfl) hS
      ·intro Ep19 w l' hE19 hO19 hF_ hS
       refine p (yl_field0 fld_160_1 (hE19 11 rfl)) <| x_done <| ?_
       refine x_fin ⟨⟨_, rfl⟩, rfl, ?_⟩
       exact Eq.mp (by kernel_rfl) hS
      ·intro Ep19 w l' hE19 hO19 hF_ hS
       obtain ⟨q1m, -⟩ := hF_
       replace q1m : Ep19 82 = .pointer (some ⟨b11, 1, none⟩) := Eq.mp (by kernel_rfl) q1m
       replace hS : St w0 w (cells b11 160 [.string q2.From, .string q2.To, .int .i64 q2.Cycles] :: l') := Eq.mp (by kernel_rfl) hS
       refine pa (at_load one_9 q1m (hS.cell rfl)) <| x_done <| ?_
       refine x_fin ⟨⟨_, rfl⟩, rfl, ?_⟩
       exact Eq.mp (by kernel_rfl) hS
      ·intro Ep19 w l' hE19 hO19 hF_ hS
       obtain ⟨q1n, q1o, -⟩ := hF_
       replace q1n : Ep19 81 = .func (.func 129) #[] #[] := Eq.mp (by kernel_rfl) q1n
       replace q1o : Ep19 83 = .string q2.To := Eq.mp (by kernel_rfl) q1o
       replace hS : St w0 w (ro ρ :: l') := Eq.mp (by kernel_rfl) hS
       have hcall := c_clocks_write_2 q4g  hS
       refine o_ccv q1n call_129 (args1 q1o) (hcall) ?_
       rintro e w' ⟨rfl, hS⟩
       refine ⟨_, rfl, ?_⟩
       refine x_done <| ?_
       refine x_fin ⟨⟨_, rfl⟩, rfl, ?_⟩
       exact Eq.mp (by kernel_rfl) hS
      ·intro Ep19 w l' hE19 hO19 hF_ hS
       obtain ⟨q1p, q1q, -⟩ := hF_
       replace q1p : Ep19 80 = .string (((⟨#[102, 97, 108, 115, 101, 32]⟩ : ByteArray) ++ q6) ++ (⟨#[32]⟩ : ByteArray)) := Eq.mp (by kernel_rfl) q1p
       replace q1q : Ep19 84 = .string q0g := Eq.mp (by kernel_rfl) q1q
       refine p (yadds q1p q1q q3h) <| x_done <| ?_
       refine x_fin ⟨⟨_, rfl⟩, rfl, ?_⟩
       exact Eq.mp (by kernel_rfl) hS
      ·intro Ep19 w l' hE19 hO19 hF_ hS
       obtain ⟨q0m, -⟩ := hF_
       replace q0m : Ep19 85 = .string ((((⟨#[102, 97, 108, 115, 101, 32]⟩ : ByteArray) ++ q6) ++ (⟨#[32]⟩ : ByteArray)) ++ q0g) := Eq.mp (by kernel_rfl) q0m
       refine p (yadds q0m rfl q3i) <| x_done <| ?_
       refine x_fin ⟨⟨_, rfl⟩, rfl, ?_⟩
       exact Eq.mp (by kernel_rfl) hS
      ·intro Ep19 w l' hE19 hO19 hF_ hS
       obtain ⟨q0n, -⟩ := hF_
       replace q0n : Ep19 86 = .string (((((⟨#[102, 97, 108, 115, 101, 32]⟩ : ByteArray) ++ q6) ++ (⟨#[32]⟩ : ByteArray)) ++ q0g) ++ (⟨#[10]⟩ : ByteArray)) := Eq.mp (by kernel_rfl) q0n
       replace hS : St w0 w (bld 171 5 b3 q0d :: l') := Eq.mp (by kernel_rfl) hS
       refine o_cc call_80 (args2 ((hE19 3 rfl).trans q0l) q0n) (bws hS q3j) ?_
       rintro e w' ⟨rfl, hS⟩
       refine ⟨_, rfl, ?_⟩
       rw [← q3k] at hS
       refine x_done <| ?_
       refine x_fin ⟨⟨_, rfl⟩, rfl, ?_⟩
       exact Eq.mp (by kernel_rfl) hS
     intro Ep19 w' hE19 hF_ hS
     obtain ⟨q1i, q1h, q1j, q1k, q1l, q1p, q1n, q1m, q1o, q1q, q0m, q0n, q39, -⟩ := hF_
     replace q1i : Ep19 75 = .func (.func 129) #[] #[] := Eq.mp (by kernel_rfl) q1i
     replace q1h : Ep19 76 = .pointer (some ⟨b11, 0, none⟩) := Eq.mp (by kernel_rfl) q1h
     replace q1j : Ep19 77 = .string q2.From := Eq.mp (by kernel_rfl) q1j
     replace q1k : Ep19 78 = .string q6 := Eq.mp (by kernel_rfl) q1k
     replace q1l : Ep19 79 = .string ((⟨#[102, 97, 108, 115, 101, 32]⟩ : ByteArray) ++ q6) := Eq.mp (by kernel_rfl) q1l
     replace q1p : Ep19 80 = .string (((⟨#[102, 97, 108, 115, 101, 32]⟩ : ByteArray) ++ q6) ++ (⟨#[32]⟩ : ByteArray)) := Eq.mp (by kernel_rfl) q1p
     replace q1n : Ep19 81 = .func (.func 129) #[] #[] := Eq.mp (by kernel_rfl) q1n
     replace q1m : Ep19 82 = .pointer (some ⟨b11, 1, none⟩) := Eq.mp (by kernel_rfl) q1m
     replace q1o : Ep19 83 = .string q2.To := Eq.mp (by kernel_rfl) q1o
     replace q1q : Ep19 84 = .string q0g := Eq.mp (by kernel_rfl) q1q
     replace q0m : Ep19 85 = .string ((((⟨#[102, 97, 108, 115, 101, 32]⟩ : ByteArray) ++ q6) ++ (⟨#[32]⟩ : ByteArray)) ++ q0g) := Eq.mp (by kernel_rfl) q0m
     replace q0n : Ep19 86 = .string (((((⟨#[102, 97, 108, 115, 101, 32]⟩ : ByteArray) ++ q6) ++ (⟨#[32]⟩ : ByteArray)) ++ q0g) ++ (⟨#[10]⟩ : ByteArray)) := Eq.mp (by kernel_rfl) q0n
     replace q39 : Ep19 87 = .tuple #[.int .i64 ((((((⟨#[102, 97, 108, 115, 101, 32]⟩ : ByteArray) ++ q6) ++ (⟨#[32]⟩ : ByteArray)) ++ q0g) ++ (⟨#[10]⟩ : ByteArray)).size : Int), .nilIface] := Eq.mp (by kernel_rfl) q39
     replace hS : St w0 w' (cells b11 160 [.string q2.From, .string q2.To, .int .i64 q2.Cycles] :: ro ρ :: bld 171 5 b3 q2u :: (l)) := Eq.mp (by kernel_rfl) hS
     exact x_inv ⟨q2u, (Option.some.inj (show some _ = some _ from hFc74)), ((hE19 3 rfl).trans q0l), ((hE19 4 rfl).trans q2n), ((hE19 9 rfl).trans q0i), ((hE19 66 rfl).trans q22), ((hE19 67 rfl).trans q23), ((hE19 68 rfl).trans q0x), (hS.drop.pull 1)⟩
    ·replace hFc74 := it_f hc74 hFc74
     replace hFc74 := bd_s hFc74; obtain ⟨q5, q4h, hFc74⟩ := hFc74
     replace hFc74 := ck_s hFc74; obtain ⟨q4i, hFc74⟩ := hFc74
     replace hFc74 := ck_s hFc74; obtain ⟨q4j, hFc74⟩ := hFc74
     replace hFc74 := bd_s hFc74; obtain ⟨q7, q4k, hFc74⟩ := hFc74
     replace hFc74 := ck_s hFc74; obtain ⟨q3l, hFc74⟩ := hFc74
     replace hFc74 := ck_s hFc74; obtain ⟨q3m, hFc74⟩ := hFc74
     replace hFc74 := bd_s hFc74; obtain ⟨q0c, q3n, hFc74⟩ := hFc74
     replace hFc74 := ck_s hFc74; obtain ⟨q3o, hFc74⟩ := hFc74
     replace hFc74 := ck_s hFc74; obtain ⟨q3p, hFc74⟩ := hFc74
     replace hFc74 := ck_s hFc74; obtain ⟨q3q, hFc74⟩ := hFc74
     replace hFc74 := lv_s hFc74; obtain ⟨q2v, q3r, hFc74⟩ := hFc74
     refine x_par (w0 := w0) [⟨[], [], [88], [], [], []⟩, ⟨[], [], [89], [], [], []⟩, ⟨[1], [1], [90], [0], [], []⟩, ⟨[0, 1, 2], [0, 2], [91], [1], [], []⟩, ⟨[0, 1, 2, 3], [3], [92], [], [], []⟩, ⟨[0, 1, 2, 3, 4], [4], [93], [], [], []⟩, ⟨[], [], [94], [], [], []⟩, ⟨[], [], [95], [], [], []⟩, ⟨[7], [7], [96], [0], [], []⟩, ⟨[0, 1, 2, 3, 6, 7, 8], [6, 8], [97], [1], [], []⟩, ⟨[0, 1, 2, 3, 4, 5, 6, 7, 8, 9], [5, 9], [98], [], [], []⟩, ⟨[0, 1, 2, 3, 4, 5, 6, 7, 8, 9, 10], [10], [99], [], [], []⟩, ⟨[], [], [100], [], [], []⟩, ⟨[], [], [101], [], [], []⟩, ⟨[13], [13], [102], [0], [], []⟩, ⟨[0, 1, 2, 3, 6, 7, 8, 9, 12, 13, 14], [12, 14], [103], [1], [], []⟩, ⟨[0, 1, 2, 3, 4, 5, 6, 7, 8, 9, 10, 11, 12, 13, 14, 15], [11, 15], [104], [], [], []⟩, ⟨[0, 1, 2, 3, 4, 5, 6, 7, 8, 9, 10, 11, 12, 13, 14, 15, 16], [16], [105], [], [], []⟩, ⟨[0, 1, 2, 3, 4, 5, 6, 7, 8, 9, 10, 11, 12, 13, 14, 15, 16, 17], [17], [106], [], [2], [3]⟩] [⟨none, none, []⟩, ⟨none, none, []⟩, ⟨none, (some 18), []⟩, ⟨(some 18), none, []⟩] [88, 89, 90, 91, 92, 93, 94, 95, 96, 97, 98, 99, 100, 101, 102, 103, 104, 105, 106] [0, 1, 2] [0, 1, 3] [0, 1, 2, 3, 4, 5, 6, 7, 8, 9, 10, 11, 12, 13, 14, 15, 16, 17, 18] [fun Ep20 => Ep20 88 = .func (.func 128) #[] #[], fun Ep20 => Ep20 89 = .pointer (some ⟨b11, 2, none⟩), fun Ep20 => Ep20 90 = .int .i64 q2.Cycles, fun Ep20 => Ep20 91 = .string q5, fun Ep20 => Ep20 92 = .string ((⟨#[109, 117, 108, 116, 105, 32]⟩ : ByteArray) ++ q5), fun Ep20 => Ep20 93 = .string (((⟨#[109, 117, 108, 116, 105, 32]⟩ : ByteArray) ++ q5) ++ (⟨#[32]⟩ : ByteArray)), fun Ep20 => Ep20 94 = .func (.func 129) #[] #[], fun Ep20 => Ep20 95 = .pointer (some ⟨b11, 0, none⟩), fun Ep20 => Ep20 96 = .string q2.From, fun Ep20 => Ep20 97 = .string q7, fun Ep20 => Ep20 98 = .string ((((⟨#[109, 117, 108, 116, 105, 32]⟩ : ByteArray) ++ q5) ++ (⟨#[32]⟩ : ByteArray)) ++ q7), fun Ep20 => Ep20 99 = .string (((((⟨#[109, 117, 108, 116, 105, 32]⟩ : ByteArray) ++ q5) ++ (⟨#[32]⟩ : ByteArray)) ++ q7) ++ (⟨#[32]⟩ : ByteArray)), fun Ep20 => Ep20 100 = .func (.func 129) #[] #[], fun Ep20 => Ep20 101 = .pointer (some ⟨b11, 1, none⟩), fun Ep20 => Ep20 102 = .string q2.To, fun Ep20 => Ep20 103 = .string q0c, fun Ep20 => Ep20 104 = .string ((((((⟨#[109, 117, 108, 116, 105, 32]⟩ : ByteArray) ++ q5) ++ (⟨#[32]⟩ : ByteArray)) ++ q7) ++ (⟨#[32]⟩ : ByteArray)) ++ q0c), fun Ep20 => Ep20 105 = .string (((((((⟨#[109, 117, 108, 116, 105, 32]⟩ : ByteArray) ++ q5) ++ (⟨#[32]⟩ : ByteArray)) ++ q7) ++ (⟨#[32]⟩ : ByteArray)) ++ q0c) ++ (⟨#[10]⟩ : ByteArray)), fun Ep20 => Ep20 106 = .tuple #[.int .i64 ((((((((⟨#[109, 117, 108, 116, 105, 32]⟩ : ByteArray) ++ q5) ++ (⟨#[32]⟩ : ByteArray)) ++ q7) ++ (⟨#[32]⟩ : ByteArray)) ++ q0c) ++ (⟨#[10]⟩ : ByteArray)).size : Int), .nilIface]] [fun Ep20 => cells b11 160 [.string q2.From, .string q2.To, .int .i64 q2.Cycles], fun Ep20 => ro ρ, fun Ep20 => bld 171 5 b3 q0d, fun Ep20 => bld 171 5 b3 q2v] mixed (by kernel_rfl) (((hS.pull 1).pull 2).pull 2) ?_ ?_
     ·refine ⟨?_, ?_, ?_, ?_, ?_, ?_, ?_, ?_, ?_, ?_, ?_, ?_, ?_, ?_, ?_, ?_, ?_, ?_, ?_, trivial⟩
      ·intro Ep20 w l' hE20 hO20 hF_ hS
       refine p (yl_move ((hE20 4 rfl).trans q2n)) <| x_done <| ?_
       refine x_fin ⟨⟨_, rfl⟩, rfl, ?_⟩
       exact Eq.mp (by kernel_rfl) hS
      ·intro Ep20 w l' hE20 hO20 hF_ hS
       refine p (yl_field0 fld_160_2 (hE20 11 rfl)) <| x_done <| ?_
       refine x_fin ⟨⟨_, rfl⟩, rfl, ?_⟩
       exact Eq.mp (by kernel_rfl) hS
      ·intro Ep20 w l' hE20 hO20 hF_ hS
       obtain ⟨q1r, -⟩ := hF_
       replace q1r : Ep20 89 = .pointer (some ⟨b11, 2, none⟩) := Eq.mp (by kernel_rfl) q1r
       replace hS : St w0 w (cells b11 160 [.string q2.From, .string q2.To, .int .i64 q2.Cycles] :: l') := Eq.mp (by kernel_rfl) hS
       refine pa (at_load one_3 q1r (hS.cell rfl)) <| x_done <| ?_
       refine x_fin ⟨⟨_, rfl⟩, rfl, ?_⟩
       exact Eq.mp (by kernel_rfl) hS
      ·intro Ep20 w l' hE20 hO20 hF_ hS
       obtain ⟨q1s, q1t, -⟩ := hF_
       replace q1s : Ep20 88 = .func (.func 128) #[] #[] := Eq.mp (by kernel_rfl) q1s
       replace q1t : Ep20 90 = .int .i64 q2.Cycles := Eq.mp (by kernel_rfl) q1t
       replace hS : St w0 w (ro ρ :: l') := Eq.mp (by kernel_rfl) hS
       have hcall := c_clocks_write_1 q4h  hS
       refine o_ccv q1s call_128 (args1 q1t) (hcall) ?_
       rintro e w' ⟨rfl, hS⟩
       refine ⟨_, rfl, ?_⟩
       refine x_done <| ?_
       refine x_fin ⟨⟨_, rfl⟩, rfl, ?_⟩
       exact Eq.mp (by kernel_rfl) hS
      ·intro Ep20 w l' hE20 hO20 hF_ hS
       obtain ⟨q1u, -⟩ := hF_
       replace q1u : Ep20 91 = .string q5 := Eq.mp (by kernel_rfl) q1u
       refine p (yadds rfl q1u q4i) <| x_done <| ?_
       refine x_fin ⟨⟨_, rfl⟩, rfl, ?_⟩
       exact Eq.mp (by kernel_rfl) hS
      ·intro Ep20 w l' hE20 hO20 hF_ hS
       obtain ⟨q1v, -⟩ := hF_
       replace q1v : Ep20 92 = .string ((⟨#[109, 117, 108, 116, 105, 32]⟩ : ByteArray) ++ q5) := Eq.mp (by kernel_rfl) q1v
       refine p (yadds q1v rfl q4j) <| x_done <| ?_
       refine x_fin ⟨⟨_, rfl⟩, rfl, ?_⟩
       exact Eq.mp (by kernel_rfl) hS
      ·intro Ep20 w l' hE20 hO20 hF_ hS
       refine p (yl_move ((hE20 9 rfl).trans q0i)) <| x_done <| ?_
       refine x_fin ⟨⟨_, rfl⟩, rfl, ?_⟩
       exact Eq.mp (by kernel_rfl) hS
      ·intro Ep20 w l' hE20 hO20 hF_ hS
       refine p (yl_field0 fld_160_0 (hE20 11 rfl)) <| x_done <| ?_
       refine x_fin ⟨⟨_, rfl⟩, rfl, ?_⟩
       exact Eq.mp (by kernel_rfl) hS
      ·intro Ep20 w l' hE20 hO20 hF_ hS
       obtain ⟨q1w, -⟩ := hF_
       replace q1w : Ep20 95 = .pointer (some ⟨b11, 0, none⟩) := Eq.mp (by kernel_rfl) q1w
       replace hS : St w0 w (cells b11 160 [.string q2.From, .string q2.To, .int .i64 q2.Cycles] :: l') := Eq.mp (by kernel_rfl) hS
       refine pa (at_load one_9 q1w (hS.cell rfl)) <| x_done <| ?_
       refine x_fin ⟨⟨_, rfl⟩, rfl, ?_⟩
       exact Eq.mp (by kernel_rfl) hS
      ·intro Ep20 w l' hE20 hO20 hF_ hS
       obtain ⟨q1x, q1y, -⟩ := hF_
       replace q1x : Ep20 94 = .func (.func 129) #[] #[] := Eq.mp (by kernel_rfl) q1x
       replace q1y : Ep20 96 = .string q2.From := Eq.mp (by kernel_rfl) q1y
       replace hS : St w0 w (ro ρ :: l') := Eq.mp (by kernel_rfl) hS
       have hcall := c_clocks_write_2 q4k  hS
       refine o_ccv q1x call_129 (args1 q1y) (hcall) ?_
       rintro e w' ⟨rfl, hS⟩
       refine ⟨_, rfl, ?_⟩
       refine x_done <| ?_
       refine x_fin ⟨⟨_, rfl⟩, rfl, ?_⟩
       exact Eq.mp (by kernel_rfl) hS
      ·intro Ep20 w l' hE20 hO20 hF_ hS
       obtain ⟨q1z, q20, -⟩ := hF_
       replace q1z : Ep20 93 = .string (((⟨#[109, 117, 108, 116, 105, 32]⟩ : ByteArray) ++ q5) ++ (⟨#[32]⟩ : ByteArray)) := Eq.mp (by kernel_rfl) q1z
       replace q20 : Ep20 97 = .string q7 := Eq.mp (by kernel_rfl) q20
       refine p (yadds q1z q20 q3l) <| x_done <| ?_
       refine x_fin ⟨⟨_, rfl⟩, rfl, ?_⟩
       exact Eq.mp (by kernel_rfl) hS
      ·intro Ep20 w l' hE20 hO20 hF_ hS
       obtain ⟨q0o, -⟩ := hF_
       replace q0o : Ep20 98 = .string ((((⟨#[109, 117, 108, 116, 105, 32]⟩ : ByteArray) ++ q5) ++ (⟨#[32]⟩ : ByteArray)) ++ q7) := Eq.mp (by kernel_rfl) q0o
       refine p (yadds q0o rfl q3m) <| x_done <| ?_
       refine x_fin ⟨⟨_, rfl⟩, rfl, ?_⟩
       exact Eq.mp (by kernel_rfl) hS
      ·intro Ep20 w l' hE20 hO20 hF_ hS
       refine p (yl_move ((hE20 9 rfl).trans q0i)) <| x_done <| ?_
       refine x_fin ⟨⟨_, rfl⟩, rfl, ?_⟩
       exact Eq.mp (by kernel_rfl) hS
      ·intro Ep20 w l' hE20 hO20 hF_ hS
       refine p (yl_field0 fld_160_1 (hE20 11 rfl)) <| x_done <| ?_
       refine x_fin ⟨⟨_, rfl⟩, rfl, ?_⟩
       exact Eq.mp (by kernel_rfl) hS
      ·intro Ep20 w l' hE20 hO20 hF_ hS
       obtain ⟨q0p, -⟩ := hF_
       replace q0p : Ep20 101 = .pointer (some ⟨b11, 1, none⟩) := Eq.mp (by kernel_rfl) q0p
       replace hS : St w0 w (cells b11 160 [.string q2.From, .string q2.To, .int .i64 q2.Cycles] :: l') := Eq.mp (by kernel_rfl) hS
       refine pa (at_load one_9 q0p (hS.cell rfl)) <| x_done <| ?_
       refine x_fin ⟨⟨_, rfl⟩, rfl, ?_⟩
       exact Eq.mp (by kernel_rfl) hS
      ·intro Ep20 w l' hE20 hO20 hF_ hS
       obtain ⟨q0q, q0r, -⟩ := hF_
       replace q0q : Ep20 100 = .func (.func 129) #[] #[] := Eq.mp (by kernel_rfl) q0q
       replace q0r : Ep20 102 = .string q2.To := Eq.mp (by kernel_rfl) q0r
       replace hS : St w0 w (ro ρ :: l') := Eq.mp (by kernel_rfl) hS
       have hcall := c_clocks_write_2 q3n  hS
       refine o_ccv q0q call_129 (args1 q0r) (hcall) ?_
       rintro e w' ⟨rfl, hS⟩
       refine ⟨_, rfl, ?_⟩
       refine x_done <| ?_
       refine x_fin ⟨⟨_, rfl⟩, rfl, ?_⟩
       exact Eq.mp (by kernel_rfl) hS
      ·intro Ep20 w l' hE20 hO20 hF_ hS
       obtain ⟨q0s, q0t, -⟩ := hF_
       replace q0s : Ep20 99 = .string (((((⟨#[109, 117, 108, 116, 105, 32]⟩ : ByteArray) ++ q5) ++ (⟨#[32]⟩ : ByteArray)) ++ q7) ++ (⟨#[32]⟩ : ByteArray)) := Eq.mp (by kernel_rfl) q0s
       replace q0t : Ep20 103 = .string q0c := Eq.mp (by kernel_rfl) q0t
       refine p (yadds q0s q0t q3o) <| x_done <| ?_
       refine x_fin ⟨⟨_, rfl⟩, rfl, ?_⟩
       exact Eq.mp (by kernel_rfl) hS
      ·intro Ep20 w l' hE20 hO20 hF_ hS
       obtain ⟨q0u, -⟩ := hF_
       replace q0u : Ep20 104 = .string ((((((⟨#[109, 117, 108, 116, 105, 32]⟩ : ByteArray) ++ q5) ++ (⟨#[32]⟩ : ByteArray)) ++ q7) ++ (⟨#[32]⟩ : ByteArray)) ++ q0c) := Eq.mp (by kernel_rfl) q0u
       refine p (yadds q0u rfl q3p) <| x_done <| ?_
       refine x_fin ⟨⟨_, rfl⟩, rfl, ?_⟩
       exact Eq.mp (by kernel_rfl) hS
      ·intro Ep20 w l' hE20 hO20 hF_ hS
       obtain ⟨q0v, -⟩ := hF_
       replace q0v : Ep20 105 = .string (((((((⟨#[109, 117, 108, 116, 105, 32]⟩ : ByteArray) ++ q5) ++ (⟨#[32]⟩ : ByteArray)) ++ q7) ++ (⟨#[32]⟩ : ByteArray)) ++ q0c) ++ (⟨#[10]⟩ : ByteArray)) := Eq.mp (by kernel_rfl) q0v
       replace hS : St w0 w (bld 171 5 b3 q0d :: l') := Eq.mp (by kernel_rfl) hS
       refine o_cc call_80 (args2 ((hE20 3 rfl).trans q0l) q0v) (bws hS q3q) ?_
       rintro e w' ⟨rfl, hS⟩
       refine ⟨_, rfl, ?_⟩
       rw [← q3r] at hS
       refine x_done <| ?_
       refine x_fin ⟨⟨_, rfl⟩, rfl, ?_⟩
       exact Eq.mp (by kernel_rfl) hS
     intro Ep20 w' hE20 hF_ hS
     obtain ⟨q1s, q1r, q1t, q1u, q1v, q1z, q1x, q1w, q1y, q20, q0o, q0s, q0q, q0p, q0r, q0t, q0u, q0v, q3a, -⟩ := hF_
     replace q1s : Ep20 88 = .func (.func 128) #[] #[] := Eq.mp (by kernel_rfl) q1s
     replace q1r : Ep20 89 = .pointer (some ⟨b11, 2, none⟩) := Eq.mp (by kernel_rfl) q1r
     replace q1t : Ep20 90 = .int .i64 q2.Cycles := Eq.mp (by kernel_rfl) q1t
     replace q1u : Ep20 91 = .string q5 := Eq.mp (by kernel_rfl) q1u
     replace q1v : Ep20 92 = .string ((⟨#[109, 117, 108, 116, 105, 32]⟩ : ByteArray) ++ q5) := Eq.mp (by kernel_rfl) q1v
     replace q1z : Ep20 93 = .string (((⟨#[109, 117, 108, 116, 105, 32]⟩ : ByteArray) ++ q5) ++ (⟨#[32]⟩ : ByteArray)) := Eq.mp (by kernel_rfl) q1z
     replace q1x : Ep20 94 = .func (.func 129) #[] #[] := Eq.mp (by kernel_rfl) q1x
     replace q1w : Ep20 95 = .pointer (some ⟨b11, 0, none⟩) := Eq.mp (by kernel_rfl) q1w
     replace q1y : Ep20 96 = .string q2.From := Eq.mp (by kernel_rfl) q1y
     replace q20 : Ep20 97 = .string q7 := Eq.mp (by kernel_rfl) q20
     replace q0o : Ep20 98 = .string ((((⟨#[109, 117, 108, 116, 105, 32]⟩ : ByteArray) ++ q5) ++ (⟨#[32]⟩ : ByteArray)) ++ q7) := Eq.mp (by kernel_rfl) q0o
     replace q0s : Ep20 99 = .string (((((⟨#[109, 117, 108, 116, 105, 32]⟩ : ByteArray) ++ q5) ++ (⟨#[32]⟩ : ByteArray)) ++ q7) ++ (⟨#[32]⟩ : ByteArray)) := Eq.mp (by kernel_rfl) q0s
     replace q0q : Ep20 100 = .func (.func 129) #[] #[] := Eq.mp (by kernel_rfl) q0q
     replace q0p : Ep20 101 = .pointer (some ⟨b11, 1, none⟩) := Eq.mp (by kernel_rfl) q0p
     replace q0r : Ep20 102 = .string q2.To := Eq.mp (by kernel_rfl) q0r
     replace q0t : Ep20 103 = .string q0c := Eq.mp (by kernel_rfl) q0t
     replace q0u : Ep20 104 = .string ((((((⟨#[109, 117, 108, 116, 105, 32]⟩ : ByteArray) ++ q5) ++ (⟨#[32]⟩ : ByteArray)) ++ q7) ++ (⟨#[32]⟩ : ByteArray)) ++ q0c) := Eq.mp (by kernel_rfl) q0u
     replace q0v : Ep20 105 = .string (((((((⟨#[109, 117, 108, 116, 105, 32]⟩ : ByteArray) ++ q5) ++ (⟨#[32]⟩ : ByteArray)) ++ q7) ++ (⟨#[32]⟩ : ByteArray)) ++ q0c) ++ (⟨#[10]⟩ : ByteArray)) := Eq.mp (by kernel_rfl) q0v
     replace q3a : Ep20 106 = .tuple #[.int .i64 ((((((((⟨#[109, 117, 108, 116, 105, 32]⟩ : ByteArray) ++ q5) ++ (⟨#[32]⟩ : ByteArray)) ++ q7) ++ (⟨#[32]⟩ : ByteArray)) ++ q0c) ++ (⟨#[10]⟩ : ByteArray)).size : Int), .nilIface] := Eq.mp (by kernel_rfl) q3a
     replace hS : St w0 w' (cells b11 160 [.string q2.From, .string q2.To, .int .i64 q2.Cycles] :: ro ρ :: bld 171 5 b3 q2v :: (l)) := Eq.mp (by kernel_rfl) hS
     exact x_inv ⟨q2v, (Option.some.inj (show some _ = some _ from hFc74)), ((hE20 3 rfl).trans q0l), ((hE20 4 rfl).trans q2n), ((hE20 9 rfl).trans q0i), ((hE20 66 rfl).trans q22), ((hE20 67 rfl).trans q23), ((hE20 68 rfl).trans q0x), (hS.drop.pull 1)⟩
   rintro E w ⟨q26, rfl, q4l, q4m, q4n, q3s, q3t, q3u, hS⟩
   replace hFL16 := ar_s hFL16; obtain ⟨x107, hx107, hFL16⟩ := hFL16
   refine x_blk <| x_region <| p (yadd q3u rfl hx107) <| p (yl_move rfl) <|
    x_done <| ?_
   have e_ := Option.some.inj (show some _ = some _ from hFL16); subst e_
   exact x_inv ⟨kL16, Nat.lt_succ_self _, q26, x107, hLL16, q4l, q4m, q4n, q3s, q3t, rfl, ((hS.pull 1).pull 1)⟩
  ·replace hFL16 := it_f hc69 hFL16
   refine x_exitTo _ rfl <| ?_
   have e_ := Option.some.inj (show some _ = some _ from hFL16); subst e_
   exact x_inv ⟨q0d, hLL16, q0l, ((hS.pull 1).pull 1)⟩
 rintro E w ⟨q2t, rfl, q4o, hS⟩
 refine x_seq <| x_region <| ?_
 replace hF := ck_s hF; obtain ⟨q4p, hF⟩ := hF
 refine o_cc call_81 (args1 q4o) (bst hS q4p) ?_
 rintro e w' ⟨rfl, hS⟩
 refine ⟨_, rfl, ?_⟩
 refine p (yl_assign rfl) <| x_done <| ?_
 have e_ := Option.some.inj (show some _ = some _ from hF); subst e_
 exact x_return ⟨_, ⟨_, _, rfl, rfl, rfl⟩, rfl, hS⟩
attribute [irreducible] P_clocks_write

def P_clocks_Check_L6 (l_0 : T_clocks_Limits) : Int → Option (Int ⊕ (Unit ⊕ Int)) := fun q2 =>
 if q2 < (l_0.Inputs.length : Int) then
  ck (inb q2 l_0.Inputs.length) <|
  lv (gt l_0.Inputs q2) fun q3 =>
  bd (P_clocks_name q3.Name) fun q5 =>
  if (!q5) = true then
   some (Sum.inr (Sum.inr (9 : Int)))
  else
   lv ((decide (q3.At.Lo < 0)) || (decide (q3.At.Hi < q3.At.Lo))) fun x59 =>
   lv (x59 || (decide (16777216 < q3.At.Hi))) fun x65 =>
   if x65 = true then
    some (Sum.inr (Sum.inr (2 : Int)))
   else
    ck (0 ≤ (0 : Int) ∧ (0 : Int) ≤ q2 ∧ q2 ≤ l_0.Inputs.length) <|
    lv (sub l_0.Inputs 0 q2) fun x70 =>
    bd (P_slices_ContainsFunc_clocks_Input_clocks_Input x70 q3) fun q4 =>
    if q4 = true then
     some (Sum.inr (Sum.inr (6 : Int)))
    else
     ar (q2 + 1) fun x73 =>
     some (Sum.inl x73)
 else
  some (Sum.inr (Sum.inl ()))
def P_clocks_Check_L16 (l_0 : T_clocks_Limits) : Int → Option (Int ⊕ (Unit ⊕ Int)) := fun q2 =>
 if q2 < (l_0.Outputs.length : Int) then
  ck (inb q2 l_0.Outputs.length) <|
  lv (gt l_0.Outputs q2) fun q3 =>
  bd (P_clocks_name q3.Name) fun q4 =>
  if (!q4) = true then
   some (Sum.inr (Sum.inr (9 : Int)))
  else
   lv ((decide (q3.Before < 1)) || (decide (16777216 < q3.Before))) fun x95 =>
   if x95 = true then
    some (Sum.inr (Sum.inr (2 : Int)))
   else
    ck (0 ≤ (0 : Int) ∧ (0 : Int) ≤ q2 ∧ q2 ≤ l_0.Outputs.length) <|
    lv (sub l_0.Outputs 0 q2) fun x100 =>
    bd (P_slices_ContainsFunc_clocks_Output_clocks_Output x100 q3) fun q5 =>
    if q5 = true then
     some (Sum.inr (Sum.inr (6 : Int)))
    else
     ar (q2 + 1) fun x103 =>
     some (Sum.inl x103)
 else
  some (Sum.inr (Sum.inl ()))
def P_clocks_Check_L26 (l_0 : T_clocks_Limits) : Int → Option (Int ⊕ (Unit ⊕ Int)) := fun q3 =>
 if q3 < (l_0.Paths.length : Int) then
  ck (inb q3 l_0.Paths.length) <|
  lv (gt l_0.Paths q3) fun q2 =>
  bd (gd (decide (q2.From ≠ (⟨#[]⟩ : ByteArray))) (P_clocks_name q2.From)) fun q5 =>
  lv ((decide (q2.From ≠ (⟨#[]⟩ : ByteArray))) && (!q5)) fun x120 =>
  bd (gd ((!x120) && (decide (q2.To ≠ (⟨#[]⟩ : ByteArray)))) (P_clocks_name q2.To)) fun q4 =>
  lv ((decide (q2.To ≠ (⟨#[]⟩ : ByteArray))) && (!q4)) fun x130 =>
  lv (x120 || x130) fun x131 =>
  if x131 = true then
   some (Sum.inr (Sum.inr (9 : Int)))
  else
   lv ((decide (q2.Cycles < 0)) || (decide (16 < q2.Cycles))) fun x140 =>
   lv (x140 || (decide (q2.Cycles = 1))) fun x145 =>
   if x145 = true then
    some (Sum.inr (Sum.inr (2 : Int)))
   else
    ar (q3 + 1) fun x146 =>
    some (Sum.inl x146)
 else
  some (Sum.inr (Sum.inl ()))
def P_clocks_Check (l_0 : T_clocks_Limits) : Option Int :=
 lv ((decide (l_0.Period < 1)) || (decide (67108864 < l_0.Period))) fun x16 =>
 if x16 = true then
  some (2 : Int)
 else
  lv ((decide (128 < (l_0.Inputs.length : Int))) || (decide (128 < (l_0.Outputs.length : Int)))) fun x26 =>
  lv (x26 || (decide (64 < (l_0.Paths.length : Int)))) fun x32 =>
  if x32 = true then
   some (3 : Int)
  else
   bs (
    lp (P_clocks_Check_L6 l_0) fuel 0) (fun y => some y) fun _ =>
   bs (
    lp (P_clocks_Check_L16 l_0) fuel 0) (fun y => some y) fun _ =>
   bs (
    lp (P_clocks_Check_L26 l_0) fuel 0) (fun y => some y) fun _ =>
   bd (P_clocks_write l_0) fun q2 =>
   if 262144 < (q2.size : Int) then
    some (3 : Int)
   else
    some (0 : Int)
set_option maxHeartbeats 4000000 in
set_option maxRecDepth 100000 in
theorem c_clocks_Check {w0 w : World} {l : List Assn} {ρ : Heap} {q5 : Option Addr} {q0n : Nat} {c_l_0_1 : Nat} {q3 : Option Addr} {q0o : Nat} {c_l_0_2 : Nat} {q4 : Option Addr} {q0p : Nat} {c_l_0_3 : Nat} {l_0 : T_clocks_Limits} {r : Int} (hF : P_clocks_Check l_0 = some r) (q9 : RdS R_clocks_Input ρ q5 q0n c_l_0_1 l_0.Inputs) (q0a : RdS R_clocks_Output ρ q3 q0o c_l_0_2 l_0.Outputs) (q0e : RdS R_clocks_Path ρ q4 q0p c_l_0_3 l_0.Paths) (hS : St w0 w (ro ρ :: l)) :
  Calls Tryd.prog 73 #[.agg #[.int .i64 l_0.Period, .slice q5 q0n c_l_0_1, .slice q3 q0o c_l_0_2, .slice q4 q0p c_l_0_3]] w fun e w' => e = .returned (.int .i64 r) ∧ St w0 w' (ro ρ :: l) := by
 have e_ := q9.n; subst e_
 have e_ := q0a.n; subst e_
 have e_ := q0e.n; subst e_
 refine enterC Tryd.func73 rfl 151 rfl (by simp) ?_
 refine x_seq <| x_region <| ?_
 refine o_box (cs := [.int .i64 l_0.Period, .slice q5 l_0.Inputs.length c_l_0_1, .slice q3 l_0.Outputs.length c_l_0_2, .slice q4 l_0.Paths.length c_l_0_3]) rfl rfl hS (fun b1 w' hS => ?_)
 replace hF := lv_s hF; obtain ⟨x16, hx16, hF⟩ := hF
 refine p (yl_assign rfl) <| x_done <| x_seq <| x_seq <|
  x_region <| p (yl_field0 fld_56_0 rfl) <| pa (at_load one_3 rfl (hS.cell rfl)) <| p (yl_lss rfl rfl) <|
  p (yl_move rfl) <| pg (v := .pointer (some ⟨b1, 0, none⟩)) 12 (c := !(decide (l_0.Period < 1))) (says_f _) (fun hq => Yl.at (yl_field0 fld_56_0 rfl)) <| pg (v := .int .i64 l_0.Period) 12 (c := !(decide (l_0.Period < 1))) (says_f _) (fun hq => at_load one_3 (cv hq) (hS.cell rfl)) <| pg (v := .bool (decide (67108864 < l_0.Period))) 12 (c := !(decide (l_0.Period < 1))) (says_f _) (fun hq => Yl.at (yl_gtr (cv hq) rfl)) <|
  p (yor' rfl rfl (fun hc => (cv (t_not hc))) hx16) <| x_done <|
  x_cond (t := x16) rfl (fun hc16 => ?_) (fun hc16 => ?_)
 ·replace hF := it_t hc16 hF
  refine x_seq <| x_region <| p (yl_assign rfl) <| x_done <| ?_
  have e_ := Option.some.inj (show some _ = some _ from hF); subst e_
  exact x_return ⟨_, ⟨_, _, rfl, rfl, rfl⟩, rfl, hS.drop⟩
 ·replace hF := it_bf hc16 hF
  replace hF := lv_s hF; obtain ⟨x26, hx26, hF⟩ := hF
  replace hF := lv_s hF; obtain ⟨x32, hx32, hF⟩ := hF
  refine x_skip <| x_seq <| x_seq <| x_region <|
   p (yl_field0 fld_56_1 rfl) <| pa (at_load one_52 rfl (hS.cell rfl)) <| p (yl_len_slice usl_52 rfl) <| p (yl_gtr rfl rfl) <|
   p (yl_move rfl) <| pg (v := .pointer (some ⟨b1, 2, none⟩)) 21 (c := !(decide (128 < (l_0.Inputs.length : Int)))) (says_f _) (fun hq => Yl.at (yl_field0 fld_56_2 rfl)) <| pg (v := .slice q3 l_0.Outputs.length c_l_0_2) 21 (c := !(decide (128 < (l_0.Inputs.length : Int)))) (says_f _) (fun hq => at_load one_53 (cv hq) (hS.cell rfl)) <| pg (v := .int .i64 (l_0.Outputs.length : Int)) 21 (c := !(decide (128 < (l_0.Inputs.length : Int)))) (says_f _) (fun hq => Yl.at (yl_len_slice usl_53 (cv hq))) <|
   pg (v := .bool (decide (128 < (l_0.Outputs.length : Int)))) 21 (c := !(decide (128 < (l_0.Inputs.length : Int)))) (says_f _) (fun hq => Yl.at (yl_gtr (cv hq) rfl)) <| p (yor' rfl rfl (fun hc => (cv (t_not hc))) hx26) <| p (yl_move rfl) <| pg (v := .pointer (some ⟨b1, 3, none⟩)) 27 (c := !x26) (says_f _) (fun hq => Yl.at (yl_field0 fld_56_3 rfl)) <|
   pg (v := .slice q4 l_0.Paths.length c_l_0_3) 27 (c := !x26) (says_f _) (fun hq => at_load one_54 (cv hq) (hS.cell rfl)) <| pg (v := .int .i64 (l_0.Paths.length : Int)) 27 (c := !x26) (says_f _) (fun hq => Yl.at (yl_len_slice usl_54 (cv hq))) <| pg (v := .bool (decide (64 < (l_0.Paths.length : Int)))) 27 (c := !x26) (says_f _) (fun hq => Yl.at (yl_gtr (cv hq) rfl)) <| p (yor' rfl rfl (fun hc => (cv (t_not hc))) hx32) <|
   x_done <|
   x_cond (t := x32) rfl (fun hc32 => ?_) (fun hc32 => ?_)
  ·replace hF := it_t hc32 hF
   refine x_seq <| x_region <| p (yl_assign rfl) <| x_done <| ?_
   have e_ := Option.some.inj (show some _ = some _ from hF); subst e_
   exact x_return ⟨_, ⟨_, _, rfl, rfl, rfl⟩, rfl, hS.drop⟩
  ·replace hF := it_bf hc32 hF
   refine x_skip <| x_seq <| x_seq <| x_region <|
    p (yl_field0 fld_56_1 rfl) <| pa (at_load one_52 rfl (hS.cell rfl)) <| p (yl_len_slice usl_52 rfl) <| p (yl_move rfl) <|
    x_done <| ?_
   replace hF := bs_s hF; obtain ⟨oL6, hLL6, hF⟩ := hF
   refine x_join (fun E w => (Sum.inl (())) = oL6 ∧ E 1 = .pointer (some ⟨b1, 0, none⟩) ∧ St w0 w (cells b1 56 [.int .i64 l_0.Period, .slice q5 l_0.Inputs.length c_l_0_1, .slice q3 l_0.Outputs.length c_l_0_2, .slice q4 l_0.Paths.length c_l_0_3] :: ro ρ :: l)) ?_ ?_
   ·refine x_block ?_
    refine x_loop (fun k_ E w => ∃ (q0f : Int), lp (P_clocks_Check_L6 l_0) k_ q0f = some oL6 ∧ E 1 = .pointer (some ⟨b1, 0, none⟩) ∧ E 34 = .slice q5 l_0.Inputs.length c_l_0_1 ∧ E 35 = .int .i64 (l_0.Inputs.length : Int) ∧ E 36 = .int .i64 q0f ∧ St w0 w (cells b1 56 [.int .i64 l_0.Period, .slice q5 l_0.Inputs.length c_l_0_1, .slice q3 l_0.Outputs.length c_l_0_2, .slice q4 l_0.Paths.length c_l_0_3] :: ro ρ :: l)) fuel ⟨0, hLL6, rfl, rfl, rfl, rfl, ((hS.pull 1).pull 1)⟩ ?_
    rintro kL6 E w ⟨q0f, hLL6, q0k, q0q, q0r, q0g, hS⟩
    replace hLL6 := lp_s hLL6; obtain ⟨kL6, obL6, rfl, hFL6, hLL6⟩ := hLL6
    refine x_seq <| x_region <| p (yl_lss q0g q0r) <| x_done <|
     x_seq <|
     x_cond_p (q0f < (l_0.Inputs.length : Int)) rfl (fun hc37 => ?_) (fun hc37 => ?_)
    ·replace hFL6 := it_t hc37 hFL6
     replace hFL6 := ck_s hFL6; obtain ⟨q11, hFL6⟩ := hFL6
     replace hFL6 := lv_s hFL6; obtain ⟨q6, q1i, hFL6⟩ := hFL6
     have q_ := q9.get q11; obtain ⟨q1q, q12, q1j⟩ := q_
     rw [← q1i] at q12
     have e_ := q12; subst e_
     refine x_skip <| x_seq <| x_block <| x_seq <|
      x_region <| p (yl_move q0g) <| p (yix_f sl_52 q0q q0g q9 q11) <| pa (v := .agg #[.string q6.Name, .int .i64 q6.At.Lo, .int .i64 q6.At.Hi]) (at_loadAgg agg_156 rfl rfl (Elt.every q1j (hS.pull 1))) <| ?_
     refine o_alloc zero_156 hS (fun b4 w' hS => ?_)
     refine p (yl_assign rfl) <| ?_
     refine o_storeAgg (news := [.string q6.Name, .int .i64 q6.At.Lo, .int .i64 q6.At.Hi]) agg_156 rfl rfl rfl (by simp [over_length]) hS (fun w' hS => ?_)
     replace hFL6 := bd_s hFL6; obtain ⟨q1n, q1k, hFL6⟩ := hFL6
     refine x_done <| x_block <| x_seq <| x_region <|
      p (yl_field0 fld_156_0 rfl) <| pa (at_load one_9 rfl (hS.cell rfl)) <| ?_
     have hcall := c_clocks_name q1k  (hS.pull 2)
     refine o_cc call_123 (args1 rfl) ((Calls.mono hcall (fun e w'' h => And.intro h.1 ((h.2.pull 2).pull 2)))) ?_
     rintro e w' ⟨rfl, hS⟩
     refine ⟨_, rfl, ?_⟩
     refine p (yl_not rfl) <| p (yl_assign rfl) <| x_done <|
      x_cond (t := !q1n) rfl (fun hc41 => ?_) (fun hc41 => ?_)
     ·replace hFL6 := it_t hc41 hFL6
      refine x_seq <| x_region <| p (yl_assign rfl) <| x_done <| ?_
      have e_ := Option.some.inj (show some _ = some _ from hFL6); subst e_
      have e_ := (show _ = oL6 from hLL6); subst e_
      have e_ := Option.some.inj (show some _ = some _ from hF); subst e_
      exact x_return ⟨_, ⟨_, _, rfl, rfl, rfl⟩, rfl, hS.drop.drop⟩
     ·replace hFL6 := it_bf hc41 hFL6
      replace hFL6 := lv_s hFL6; obtain ⟨x59, hx59, hFL6⟩ := hFL6
      replace hFL6 := lv_s hFL6; obtain ⟨x65, hx65, hFL6⟩ := hFL6
      refine x_seq <| x_region <| p (yl_field0 fld_156_1 rfl) <| p (yl_fieldN fld_70_0 rfl) <|
       pa (at_load one_3 rfl (hS.cell rfl)) <| p (yl_lss rfl rfl) <| p (yl_move rfl) <| pg (v := .pointer (some ⟨b4, 1, none⟩)) 51 (c := !(decide (q6.At.Lo < 0))) (says_f _) (fun hq => Yl.at (yl_field0 fld_156_1 rfl)) <|
       pg (v := .pointer (some ⟨b4, 2, none⟩)) 51 (c := !(decide (q6.At.Lo < 0))) (says_f _) (fun hq => Yl.at (yl_fieldN fld_70_1 (cv hq))) <| pg (v := .int .i64 q6.At.Hi) 51 (c := !(decide (q6.At.Lo < 0))) (says_f _) (fun hq => at_load one_3 (cv hq) (hS.cell rfl)) <| pg (v := .pointer (some ⟨b4, 1, none⟩)) 51 (c := !(decide (q6.At.Lo < 0))) (says_f _) (fun hq => Yl.at (yl_field0 fld_156_1 rfl)) <| pg (v := .pointer (some ⟨b4, 1, none⟩)) 51 (c := !(decide (q6.At.Lo < 0))) (says_f _) (fun hq => Yl.at (yl_fieldN fld_70_0 (cv hq))) <|
       pg (v := .int .i64 q6.At.Lo) 51 (c := !(decide (q6.At.Lo < 0))) (says_f _) (fun hq => at_load one_3 (cv hq) (hS.cell rfl)) <| pg (v := .bool (decide (q6.At.Hi < q6.At.Lo))) 51 (c := !(decide (q6.At.Lo < 0))) (says_f _) (fun hq => Yl.at (yl_lss (cv hq) (cv hq))) <| p (yor' rfl rfl (fun hc => (cv (t_not hc))) hx59) <| p (yl_move rfl) <|
       pg (v := .pointer (some ⟨b4, 1, none⟩)) 60 (c := !x59) (says_f _) (fun hq => Yl.at (yl_field0 fld_156_1 rfl)) <| pg (v := .pointer (some ⟨b4, 2, none⟩)) 60 (c := !x59) (says_f _) (fun hq => Yl.at (yl_fieldN fld_70_1 (cv hq))) <| pg (v := .int .i64 q6.At.Hi) 60 (c := !x59) (says_f _) (fun hq => at_load one_3 (cv hq) (hS.cell rfl)) <| pg (v := .bool (decide (16777216 < q6.At.Hi))) 60 (c := !x59) (says_f _) (fun hq => Yl.at (yl_gtr (cv hq) rfl)) <|
       p (yor' rfl rfl (fun hc => (cv (t_not hc))) hx65) <| p (yl_assign rfl) <| x_done <|
       x_cond (t := x65) rfl (fun hc46 => ?_) (fun hc46 => ?_)
      ·replace hFL6 := it_t hc46 hFL6
       refine x_seq <| x_region <| p (yl_assign rfl) <| x_done <| ?_
       have e_ := Option.some.inj (show some _ = some _ from hFL6); subst e_
       have e_ := (show _ = oL6 from hLL6); subst e_
       have e_ := Option.some.inj (show some _ = some _ from hF); subst e_
       exact x_return ⟨_, ⟨_, _, rfl, rfl, rfl⟩, rfl, hS.drop.drop⟩
      ·replace hFL6 := it_bf hc46 hFL6
       replace hFL6 := ck_s hFL6; obtain ⟨q0t, hFL6⟩ := hFL6
       replace hFL6 := lv_s hFL6; obtain ⟨x70, hx70, hFL6⟩ := hFL6
       refine x_seq <| x_region <| p (yl_field0 fld_56_1 q0k) <| pa (at_load one_52 rfl ((hS.pull 1).cell rfl)) <|
        p (yl_move rfl) <| ?_
       have q_ := RdS.sub q9 q0t hx70; obtain ⟨A70, n70, c70, hd70, f70⟩ := q_
       refine p (ysub_h sl_52 rfl rfl q0t hd70) <| ?_
       have e_ := f70.n; subst e_
       replace hFL6 := bd_s hFL6; obtain ⟨q13, q18, hFL6⟩ := hFL6
       refine p (v := .func (.func 125) #[] #[.pointer (some ⟨b4, 0, none⟩)]) (yl_makeFunc (by simp only [List.map_toArray, List.map_nil]) (by simp only [List.map_toArray, List.map_cons, List.map_nil]; rfl)) <| ?_
       have hcall := c_slices_ContainsFunc_clocks_Input_clocks_Input q18 f70 ((hS.pull 2).pull 1)
       refine o_cc call_124 (args2 rfl rfl) ((Calls.mono hcall (fun e w'' h => And.intro h.1 (((h.2.pull 1).pull 2).pull 2)))) ?_
       rintro e w' ⟨rfl, hS⟩
       refine ⟨_, rfl, ?_⟩
       refine p (v := .bool q13) (yl_assign rfl) <| x_done <|
        x_cond (t := q13) rfl (fun hc66 => ?_) (fun hc66 => ?_)
       ·replace hFL6 := it_t hc66 hFL6
        refine x_seq <| x_region <| p (yl_assign rfl) <| x_done <| ?_
        have e_ := Option.some.inj (show some _ = some _ from hFL6); subst e_
        have e_ := (show _ = oL6 from hLL6); subst e_
        have e_ := Option.some.inj (show some _ = some _ from hF); subst e_
        exact x_return ⟨_, ⟨_, _, rfl, rfl, rfl⟩, rfl, hS.drop.drop⟩
       ·replace hFL6 := it_bf hc66 hFL6
        replace hFL6 := ar_s hFL6; obtain ⟨x73, hx73, hFL6⟩ := hFL6
        refine x_skip <| x_blk <| x_blk <| x_region <|
         p (yadd q0g rfl hx73) <| p (yl_move rfl) <| x_done <| ?_
        have e_ := Option.some.inj (show some _ = some _ from hFL6); subst e_
        exact x_inv ⟨kL6, Nat.lt_succ_self _, x73, hLL6, q0k, q0q, q0r, rfl, ((hS.drop.pull 1).pull 1)⟩
    ·replace hFL6 := it_f hc37 hFL6
     refine x_exitTo _ rfl <| ?_
     have e_ := Option.some.inj (show some _ = some _ from hFL6); subst e_
     exact x_inv ⟨hLL6, q0k, ((hS.pull 1).pull 1)⟩
   rintro E w ⟨rfl, q14, hS⟩
   refine x_seq <| x_seq <| x_region <| p (yl_field0 fld_56_2 q14) <|
    pa (at_load one_53 rfl (hS.cell rfl)) <| p (yl_len_slice usl_53 rfl) <| p (yl_move rfl) <| x_done <| ?_
   replace hF := bs_s hF; obtain ⟨oL16, hLL16, hF⟩ := hF
   refine x_join (fun E w => (Sum.inl (())) = oL16 ∧ E 1 = .pointer (some ⟨b1, 0, none⟩) ∧ St w0 w (cells b1 56 [.int .i64 l_0.Period, .slice q5 l_0.Inputs.length c_l_0_1, .slice q3 l_0.Outputs.length c_l_0_2, .slice q4 l_0.Paths.length c_l_0_3] :: ro ρ :: l)) ?_ ?_
   ·refine x_block ?_
    refine x_loop (fun k_ E w => ∃ (q0b : Int), lp (P_clocks_Check_L16 l_0) k_ q0b = some oL16 ∧ E 1 = .pointer (some ⟨b1, 0, none⟩) ∧ E 75 = .slice q3 l_0.Outputs.length c_l_0_2 ∧ E 76 = .int .i64 (l_0.Outputs.length : Int) ∧ E 77 = .int .i64 q0b ∧ St w0 w (cells b1 56 [.int .i64 l_0.Period, .slice q5 l_0.Inputs.length c_l_0_1, .slice q3 l_0.Outputs.length c_l_0_2, .slice q4 l_0.Paths.length c_l_0_3] :: ro ρ :: l)) fuel ⟨0, hLL16, q14, rfl, rfl, rfl, ((hS.pull 1).pull 1)⟩ ?_
    rintro kL16 E w ⟨q0b, hLL16, q0h, q0l, q0m, q0c, hS⟩
    replace hLL16 := lp_s hLL16; obtain ⟨kL16, obL16, rfl, hFL16, hLL16⟩ := hLL16
    refine x_seq <| x_region <| p (yl_lss q0c q0m) <| x_done <|
     x_seq <|
     x_cond_p (q0b < (l_0.Outputs.length : Int)) rfl (fun hc78 => ?_) (fun hc78 => ?_)
    ·replace hFL16 := it_t hc78 hFL16
     replace hFL16 := ck_s hFL16; obtain ⟨q0u, hFL16⟩ := hFL16
     replace hFL16 := lv_s hFL16; obtain ⟨q7, q19, hFL16⟩ := hFL16
     have q_ := q0a.get q0u; obtain ⟨q1o, q0v, q1a⟩ := q_
     rw [← q19] at q0v
     have e_ := q0v; subst e_
     refine x_skip <| x_seq <| x_block <| x_seq <|
      x_region <| p (yl_move q0c) <| p (yix_f sl_53 q0l q0c q0a q0u) <| pa (v := .agg #[.string q7.Name, .int .i64 q7.Before]) (at_loadAgg agg_158 rfl rfl (Elt.every q1a (hS.pull 1))) <| ?_
     refine o_alloc zero_158 hS (fun b6 w' hS => ?_)
     refine p (yl_assign rfl) <| ?_
     refine o_storeAgg (news := [.string q7.Name, .int .i64 q7.Before]) agg_158 rfl rfl rfl (by simp [over_length]) hS (fun w' hS => ?_)
     replace hFL16 := bd_s hFL16; obtain ⟨q1l, q1b, hFL16⟩ := hFL16
     refine x_done <| x_block <| x_seq <| x_region <|
      p (yl_field0 fld_158_0 rfl) <| pa (at_load one_9 rfl (hS.cell rfl)) <| ?_
     have hcall := c_clocks_name q1b  (hS.pull 2)
     refine o_cc call_123 (args1 rfl) ((Calls.mono hcall (fun e w'' h => And.intro h.1 ((h.2.pull 2).pull 2)))) ?_
     rintro e w' ⟨rfl, hS⟩
     refine ⟨_, rfl, ?_⟩
     refine p (yl_not rfl) <| p (yl_assign rfl) <| x_done <|
      x_cond (t := !q1l) rfl (fun hc82 => ?_) (fun hc82 => ?_)
     ·replace hFL16 := it_t hc82 hFL16
      refine x_seq <| x_region <| p (yl_assign rfl) <| x_done <| ?_
      have e_ := Option.some.inj (show some _ = some _ from hFL16); subst e_
      have e_ := (show _ = oL16 from hLL16); subst e_
      have e_ := Option.some.inj (show some _ = some _ from hF); subst e_
      exact x_return ⟨_, ⟨_, _, rfl, rfl, rfl⟩, rfl, hS.drop.drop⟩
     ·replace hFL16 := it_bf hc82 hFL16
      replace hFL16 := lv_s hFL16; obtain ⟨x95, hx95, hFL16⟩ := hFL16
      refine x_seq <| x_region <| p (yl_field0 fld_158_1 rfl) <| pa (at_load one_3 rfl (hS.cell rfl)) <|
       p (yl_lss rfl rfl) <| p (yl_move rfl) <| pg (v := .pointer (some ⟨b6, 1, none⟩)) 91 (c := !(decide (q7.Before < 1))) (says_f _) (fun hq => Yl.at (yl_field0 fld_158_1 rfl)) <| pg (v := .int .i64 q7.Before) 91 (c := !(decide (q7.Before < 1))) (says_f _) (fun hq => at_load one_3 (cv hq) (hS.cell rfl)) <|
       pg (v := .bool (decide (16777216 < q7.Before))) 91 (c := !(decide (q7.Before < 1))) (says_f _) (fun hq => Yl.at (yl_gtr (cv hq) rfl)) <| p (yor' rfl rfl (fun hc => (cv (t_not hc))) hx95) <| p (yl_assign rfl) <| x_done <|
       x_cond (t := x95) rfl (fun hc87 => ?_) (fun hc87 => ?_)
      ·replace hFL16 := it_t hc87 hFL16
       refine x_seq <| x_region <| p (yl_assign rfl) <| x_done <| ?_
       have e_ := Option.some.inj (show some _ = some _ from hFL16); subst e_
       have e_ := (show _ = oL16 from hLL16); subst e_
       have e_ := Option.some.inj (show some _ = some _ from hF); subst e_
       exact x_return ⟨_, ⟨_, _, rfl, rfl, rfl⟩, rfl, hS.drop.drop⟩
      ·replace hFL16 := it_bf hc87 hFL16
       replace hFL16 := ck_s hFL16; obtain ⟨q0w, hFL16⟩ := hFL16
       replace hFL16 := lv_s hFL16; obtain ⟨x100, hx100, hFL16⟩ := hFL16
       refine x_seq <| x_region <| p (yl_field0 fld_56_2 q0h) <| pa (at_load one_53 rfl ((hS.pull 1).cell rfl)) <|
        p (yl_move rfl) <| ?_
       have q_ := RdS.sub q0a q0w hx100; obtain ⟨A100, n100, c100, hd100, f100⟩ := q_
       refine p (ysub_h sl_53 rfl rfl q0w hd100) <| ?_
       have e_ := f100.n; subst e_
       replace hFL16 := bd_s hFL16; obtain ⟨q15, q1c, hFL16⟩ := hFL16
       refine p (v := .func (.func 127) #[] #[.pointer (some ⟨b6, 0, none⟩)]) (yl_makeFunc (by simp only [List.map_toArray, List.map_nil]) (by simp only [List.map_toArray, List.map_cons, List.map_nil]; rfl)) <| ?_
       have hcall := c_slices_ContainsFunc_clocks_Output_clocks_Output q1c f100 ((hS.pull 2).pull 1)
       refine o_cc call_126 (args2 rfl rfl) ((Calls.mono hcall (fun e w'' h => And.intro h.1 (((h.2.pull 1).pull 2).pull 2)))) ?_
       rintro e w' ⟨rfl, hS⟩
       refine ⟨_, rfl, ?_⟩
       refine p (v := .bool q15) (yl_assign rfl) <| x_done <|
        x_cond (t := q15) rfl (fun hc96 => ?_) (fun hc96 => ?_)
       ·replace hFL16 := it_t hc96 hFL16
        refine x_seq <| x_region <| p (yl_assign rfl) <| x_done <| ?_
        have e_ := Option.some.inj (show some _ = some _ from hFL16); subst e_
        have e_ := (show _ = oL16 from hLL16); subst e_
        have e_ := Option.some.inj (show some _ = some _ from hF); subst e_
        exact x_return ⟨_, ⟨_, _, rfl, rfl, rfl⟩, rfl, hS.drop.drop⟩
       ·replace hFL16 := it_bf hc96 hFL16
        replace hFL16 := ar_s hFL16; obtain ⟨x103, hx103, hFL16⟩ := hFL16
        refine x_skip <| x_blk <| x_blk <| x_region <|
         p (yadd q0c rfl hx103) <| p (yl_move rfl) <| x_done <| ?_
        have e_ := Option.some.inj (show some _ = some _ from hFL16); subst e_
        exact x_inv ⟨kL16, Nat.lt_succ_self _, x103, hLL16, q0h, q0l, q0m, rfl, ((hS.drop.pull 1).pull 1)⟩
    ·replace hFL16 := it_f hc78 hFL16
     refine x_exitTo _ rfl <| ?_
     have e_ := Option.some.inj (show some _ = some _ from hFL16); subst e_
     exact x_inv ⟨hLL16, q0h, ((hS.pull 1).pull 1)⟩
   rintro E w ⟨rfl, q0x, hS⟩
   refine x_seq <| x_seq <| x_region <| p (yl_field0 fld_56_3 q0x) <|
    pa (at_load one_54 rfl (hS.cell rfl)) <| p (yl_len_slice usl_54 rfl) <| p (yl_move rfl) <| x_done <| ?_
   replace hF := bs_s hF; obtain ⟨oL26, hLL26, hF⟩ := hF
   refine x_join (fun E w => (Sum.inl (())) = oL26 ∧ E 1 = .pointer (some ⟨b1, 0, none⟩) ∧ St w0 w (cells b1 56 [.int .i64 l_0.Period, .slice q5 l_0.Inputs.length c_l_0_1, .slice q3 l_0.Outputs.length c_l_0_2, .slice q4 l_0.Paths.length c_l_0_3] :: ro ρ :: l)) ?_ ?_
   ·refine x_block ?_
    refine x_loop (fun k_ E w => ∃ (q8 : Int), lp (P_clocks_Check_L26 l_0) k_ q8 = some oL26 ∧ E 1 = .pointer (some ⟨b1, 0, none⟩) ∧ E 105 = .slice q4 l_0.Paths.length c_l_0_3 ∧ E 106 = .int .i64 (l_0.Paths.length : Int) ∧ E 107 = .int .i64 q8 ∧ St w0 w (cells b1 56 [.int .i64 l_0.Period, .slice q5 l_0.Inputs.length c_l_0_1, .slice q3 l_0.Outputs.length c_l_0_2, .slice q4 l_0.Paths.length c_l_0_3] :: ro ρ :: l)) fuel ⟨0, hLL26, q0x, rfl, rfl, rfl, ((hS.pull 1).pull 1)⟩ ?_
    rintro kL26 E w ⟨q8, hLL26, q0s, q0i, q0j, q0d, hS⟩
    replace hLL26 := lp_s hLL26; obtain ⟨kL26, obL26, rfl, hFL26, hLL26⟩ := hLL26
    refine x_seq <| x_region <| p (yl_lss q0d q0j) <| x_done <|
     x_seq <|
     x_cond_p (q8 < (l_0.Paths.length : Int)) rfl (fun hc108 => ?_) (fun hc108 => ?_)
    ·replace hFL26 := it_t hc108 hFL26
     replace hFL26 := ck_s hFL26; obtain ⟨q0y, hFL26⟩ := hFL26
     replace hFL26 := lv_s hFL26; obtain ⟨q2, q1d, hFL26⟩ := hFL26
     have q_ := q0e.get q0y; obtain ⟨q1p, q0z, q1e⟩ := q_
     rw [← q1d] at q0z
     have e_ := q0z; subst e_
     refine x_skip <| x_seq <| x_block <| x_seq <|
      x_region <| p (yix_f sl_54 q0i q0d q0e q0y) <| pa (v := .agg #[.string q2.From, .string q2.To, .int .i64 q2.Cycles]) (at_loadAgg agg_160 rfl rfl (Elt.every q1e (hS.pull 1))) <| ?_
     refine o_alloc zero_160 hS (fun b8 w' hS => ?_)
     refine o_storeAgg (news := [.string q2.From, .string q2.To, .int .i64 q2.Cycles]) agg_160 rfl rfl rfl (by simp [over_length]) hS (fun w' hS => ?_)
     replace hFL26 := bd_s hFL26; obtain ⟨q16, q1f, hFL26⟩ := hFL26
     refine x_done <| x_block <| x_seq <| x_region <|
      p (yl_field0 fld_160_0 rfl) <| pa (at_load one_9 rfl (hS.cell rfl)) <| p (ynes rfl rfl) <| p (yl_move rfl) <|
      pg (v := .pointer (some ⟨b8, 0, none⟩)) 115 (c := decide (q2.From ≠ (⟨#[]⟩ : ByteArray))) (says_t _) (fun hq => Yl.at (yl_field0 fld_160_0 rfl)) <| pg (v := .string q2.From) 115 (c := decide (q2.From ≠ (⟨#[]⟩ : ByteArray))) (says_t _) (fun hq => at_load one_9 (cv hq) (hS.cell rfl)) <|
      pccg (v := .bool q16) 115 (c := decide (q2.From ≠ (⟨#[]⟩ : ByteArray))) (says_t _) call_123 (fun hq => (args1 (cv hq))) hS (fun hq => by
       have hcall := c_clocks_name (gd_t q1f hq)  (hS.pull 2)
       exact (Calls.mono hcall (fun e w'' h => And.intro h.1 ((h.2.pull 2).pull 2)))) (fun w' hS => ?_)
     replace hFL26 := lv_s hFL26; obtain ⟨x120, hx120, hFL26⟩ := hFL26
     replace hFL26 := bd_s hFL26; obtain ⟨q10, q17, hFL26⟩ := hFL26
     refine pg (v := .bool (!q16)) 115 (c := decide (q2.From ≠ (⟨#[]⟩ : ByteArray))) (says_t _) (fun hq => Yl.at (yl_not (cv hq))) <| p (yand' rfl (fun hc => (cv hc)) rfl hx120) <| p (yl_move rfl) <| pg (v := .pointer (some ⟨b8, 1, none⟩)) 121 (c := !x120) (says_f _) (fun hq => Yl.at (yl_field0 fld_160_1 rfl)) <|
      pg (v := .string q2.To) 121 (c := !x120) (says_f _) (fun hq => at_load one_9 (cv hq) (hS.cell rfl)) <| pg (v := .bool (decide (q2.To ≠ (⟨#[]⟩ : ByteArray)))) 121 (c := !x120) (says_f _) (fun hq => Yl.at (ynes (cv hq) rfl)) <| pg (v := .bool (decide (q2.To ≠ (⟨#[]⟩ : ByteArray)))) 121 (c := !x120) (says_f _) (fun hq => Yl.at (yl_move (cv hq))) <| pg (v := .pointer (some ⟨b8, 1, none⟩)) 125 (c := (!x120) && (decide (q2.To ≠ (⟨#[]⟩ : ByteArray)))) (says_ift _ _) (fun hq => Yl.at (yl_field0 fld_160_1 rfl)) <|
      pg (v := .string q2.To) 125 (c := (!x120) && (decide (q2.To ≠ (⟨#[]⟩ : ByteArray)))) (says_ift _ _) (fun hq => at_load one_9 (cv hq) (hS.cell rfl)) <|
      pccg (v := .bool q10) 125 (c := (!x120) && (decide (q2.To ≠ (⟨#[]⟩ : ByteArray)))) (says_ift _ _) call_123 (fun hq => (args1 (cv hq))) hS (fun hq => by
       have hcall := c_clocks_name (gd_t q17 hq)  (hS.pull 2)
       exact (Calls.mono hcall (fun e w'' h => And.intro h.1 ((h.2.pull 2).pull 2)))) (fun w' hS => ?_)
     replace hFL26 := lv_s hFL26; obtain ⟨x130, hx130, hFL26⟩ := hFL26
     replace hFL26 := lv_s hFL26; obtain ⟨x131, hx131, hFL26⟩ := hFL26
     refine pg (v := .bool (!q10)) 125 (c := (!x120) && (decide (q2.To ≠ (⟨#[]⟩ : ByteArray)))) (says_ift _ _) (fun hq => Yl.at (yl_not (cv hq))) <| pg (v := .bool x130) 121 (c := !x120) (says_f _) (fun hq => Yl.at (yand' (cv hq) (fun hc => (cv (and_i hq hc))) rfl hx130)) <| p (yor' rfl rfl (fun hc => (cv (t_not hc))) hx131) <| p (yl_assign rfl) <|
      x_done <|
      x_cond (t := x131) rfl (fun hc111 => ?_) (fun hc111 => ?_)
     ·replace hFL26 := it_t hc111 hFL26
      refine x_seq <| x_region <| p (yl_assign rfl) <| x_done <| ?_
      have e_ := Option.some.inj (show some _ = some _ from hFL26); subst e_
      have e_ := (show _ = oL26 from hLL26); subst e_
      have e_ := Option.some.inj (show some _ = some _ from hF); subst e_
      exact x_return ⟨_, ⟨_, _, rfl, rfl, rfl⟩, rfl, hS.drop.drop⟩
     ·replace hFL26 := it_bf hc111 hFL26
      replace hFL26 := lv_s hFL26; obtain ⟨x140, hx140, hFL26⟩ := hFL26
      replace hFL26 := lv_s hFL26; obtain ⟨x145, hx145, hFL26⟩ := hFL26
      refine x_seq <| x_region <| p (yl_field0 fld_160_2 rfl) <| pa (at_load one_3 rfl (hS.cell rfl)) <|
       p (yl_lss rfl rfl) <| p (yl_move rfl) <| pg (v := .pointer (some ⟨b8, 2, none⟩)) 136 (c := !(decide (q2.Cycles < 0))) (says_f _) (fun hq => Yl.at (yl_field0 fld_160_2 rfl)) <| pg (v := .int .i64 q2.Cycles) 136 (c := !(decide (q2.Cycles < 0))) (says_f _) (fun hq => at_load one_3 (cv hq) (hS.cell rfl)) <|
       pg (v := .bool (decide (16 < q2.Cycles))) 136 (c := !(decide (q2.Cycles < 0))) (says_f _) (fun hq => Yl.at (yl_gtr (cv hq) rfl)) <| p (yor' rfl rfl (fun hc => (cv (t_not hc))) hx140) <| p (yl_move rfl) <| pg (v := .pointer (some ⟨b8, 2, none⟩)) 141 (c := !x140) (says_f _) (fun hq => Yl.at (yl_field0 fld_160_2 rfl)) <|
       pg (v := .int .i64 q2.Cycles) 141 (c := !x140) (says_f _) (fun hq => at_load one_3 (cv hq) (hS.cell rfl)) <| pg (v := .bool (decide (q2.Cycles = 1))) 141 (c := !x140) (says_f _) (fun hq => Yl.at (yl_eql (cv hq) rfl)) <| p (yor' rfl rfl (fun hc => (cv (t_not hc))) hx145) <| p (yl_assign rfl) <|
       x_done <|
       x_cond (t := x145) rfl (fun hc132 => ?_) (fun hc132 => ?_)
      ·replace hFL26 := it_t hc132 hFL26
       refine x_seq <| x_region <| p (yl_assign rfl) <| x_done <| ?_
       have e_ := Option.some.inj (show some _ = some _ from hFL26); subst e_
       have e_ := (show _ = oL26 from hLL26); subst e_
       have e_ := Option.some.inj (show some _ = some _ from hF); subst e_
       exact x_return ⟨_, ⟨_, _, rfl, rfl, rfl⟩, rfl, hS.drop.drop⟩
      ·replace hFL26 := it_bf hc132 hFL26
       replace hFL26 := ar_s hFL26; obtain ⟨x146, hx146, hFL26⟩ := hFL26
       refine x_skip <| x_blk <| x_blk <| x_region <|
        p (yadd q0d rfl hx146) <| p (yl_move rfl) <| x_done <| ?_
       have e_ := Option.some.inj (show some _ = some _ from hFL26); subst e_
       exact x_inv ⟨kL26, Nat.lt_succ_self _, x146, hLL26, q0s, q0i, q0j, rfl, ((hS.drop.pull 1).pull 1)⟩
    ·replace hFL26 := it_f hc108 hFL26
     refine x_exitTo _ rfl <| ?_
     have e_ := Option.some.inj (show some _ = some _ from hFL26); subst e_
     exact x_inv ⟨hLL26, q0s, ((hS.pull 1).pull 1)⟩
   rintro E w ⟨rfl, q1g, hS⟩
   replace hF := bd_s hF; obtain ⟨q1m, q1h, hF⟩ := hF
   refine x_seq <| x_seq <| x_region <| pa (v := .agg #[.int .i64 l_0.Period, .slice q5 l_0.Inputs.length c_l_0_1, .slice q3 l_0.Outputs.length c_l_0_2, .slice q4 l_0.Paths.length c_l_0_3]) (ld_sub agg_56 q1g rfl rfl hS) <| ?_
   have hcall := c_clocks_write q1h q9 q0a q0e (hS.pull 1)
   refine o_cc call_74 (args1 rfl) ((Calls.mono hcall (fun e w'' h => And.intro h.1 (h.2.pull 1)))) ?_
   rintro e w' ⟨rfl, hS⟩
   refine ⟨_, rfl, ?_⟩
   refine p (yl_len_string us_9 rfl) <| p (yl_gtr rfl rfl) <| x_done <|
    x_cond_p (262144 < (q1m.size : Int)) rfl (fun hc150 => ?_) (fun hc150 => ?_)
   ·replace hF := it_t hc150 hF
    refine x_seq <| x_region <| p (yl_assign rfl) <| x_done <| ?_
    have e_ := Option.some.inj (show some _ = some _ from hF); subst e_
    exact x_return ⟨_, ⟨_, _, rfl, rfl, rfl⟩, rfl, hS.drop⟩
   ·replace hF := it_f hc150 hF
    refine x_skip <| x_seq <| x_region <| p (yl_assign rfl) <|
     x_done <| ?_
    have e_ := Option.some.inj (show some _ = some _ from hF); subst e_
    exact x_return ⟨_, ⟨_, _, rfl, rfl, rfl⟩, rfl, hS.drop⟩
attribute [irreducible] P_clocks_Check

def P_slices_Index_string_string_L2 (s0 : List ByteArray) (v1 : ByteArray) : Int → Option (Int ⊕ (Unit ⊕ Int)) := fun q2 =>
 if q2 < (s0.length : Int) then
  ck (inb q2 s0.length) <|
  lv (gt s0 q2) fun x15 =>
  if v1 = x15 then
   some (Sum.inr (Sum.inr q2))
  else
   ar (q2 + 1) fun x18 =>
   some (Sum.inl x18)
 else
  some (Sum.inr (Sum.inl ()))
def P_slices_Index_string_string (s0 : List ByteArray) (v1 : ByteArray) : Option Int :=
 bs (
  lp (P_slices_Index_string_string_L2 s0 v1) fuel 0) (fun y => some y) fun _ =>
 some (-1 : Int)
set_option maxHeartbeats 4000000 in
set_option maxRecDepth 100000 in
theorem c_slices_Index_string_string {w0 w : World} {l : List Assn} {ρ : Heap} {q7 : Option Addr} {q0a : Nat} {c_s0 : Nat} {s0 : List ByteArray} {v1 : ByteArray} {r : Int} (hF : P_slices_Index_string_string s0 v1 = some r) (q8 : RdS RpS ρ q7 q0a c_s0 s0) (hS : St w0 w (ro ρ :: l)) :
  Calls Tryd.prog 132 #[.slice q7 q0a c_s0, .string v1] w fun e w' => e = .returned (.int .i64 r) ∧ St w0 w' (ro ρ :: l) := by
 have e_ := q8.n; subst e_
 refine enterC Tryd.func132 rfl 19 rfl (by simp) ?_
 refine x_seq <| x_region <| p (yl_assign rfl) <| x_done <|
  x_seq <| x_seq <| x_region <| p (yl_move rfl) <|
  p (yl_len_slice usl_26 rfl) <| p (yl_move rfl) <| x_done <| ?_
 replace hF := bs_s hF; obtain ⟨oL2, hLL2, hF⟩ := hF
 refine x_join (fun E w => (Sum.inl (())) = oL2 ∧ St w0 w (ro ρ :: l)) ?_ ?_
 ·refine x_block ?_
  refine x_loop (fun k_ E w => ∃ (q2 : Int), lp (P_slices_Index_string_string_L2 s0 v1) k_ q2 = some oL2 ∧ E 0 = .slice q7 s0.length c_s0 ∧ E 1 = .string v1 ∧ E 7 = .int .i64 (s0.length : Int) ∧ E 8 = .int .i64 q2 ∧ St w0 w (ro ρ :: l)) fuel ⟨0, hLL2, rfl, rfl, rfl, rfl, hS⟩ ?_
  rintro kL2 E w ⟨q2, hLL2, q4, q5, q6, q3, hS⟩
  replace hLL2 := lp_s hLL2; obtain ⟨kL2, obL2, rfl, hFL2, hLL2⟩ := hLL2
  refine x_seq <| x_region <| p (yl_lss q3 q6) <| x_done <|
   x_seq <|
   x_cond_p (q2 < (s0.length : Int)) rfl (fun hc9 => ?_) (fun hc9 => ?_)
  ·replace hFL2 := it_t hc9 hFL2
   replace hFL2 := ck_s hFL2; obtain ⟨q9, hFL2⟩ := hFL2
   replace hFL2 := lv_s hFL2; obtain ⟨x15, hx15, hFL2⟩ := hFL2
   refine x_skip <| x_seq <| x_block <| x_seq <|
    x_region <| p (yl_move q3) <| p (yl_assign rfl) <| x_done <|
    x_seq <| x_region <| p (yl_move q5) <| p (yl_move q4) <|
    p (yl_move rfl) <| p (yix_f sl_26 rfl rfl q8 q9) <| pa (at_load one_9 rfl (RdS.getW q8 hS q9 hx15)) <| p (yl_eql_string rfl rfl) <|
    x_done <|
    x_cond_p (v1 = x15) rfl (fun hc16 => ?_) (fun hc16 => ?_)
   ·replace hFL2 := it_t hc16 hFL2
    refine x_seq <| x_region <| p (yl_move rfl) <| p (yl_assign rfl) <|
     x_done <| ?_
    have e_ := Option.some.inj (show some _ = some _ from hFL2); subst e_
    have e_ := (show _ = oL2 from hLL2); subst e_
    have e_ := Option.some.inj (show some _ = some _ from hF); subst e_
    exact x_return ⟨_, ⟨_, _, rfl, rfl, rfl⟩, rfl, hS⟩
   ·replace hFL2 := it_f hc16 hFL2
    replace hFL2 := ar_s hFL2; obtain ⟨x18, hx18, hFL2⟩ := hFL2
    refine x_skip <| x_blk <| x_region <| p (yadd q3 rfl hx18) <|
     p (yl_move rfl) <| x_done <| ?_
    have e_ := Option.some.inj (show some _ = some _ from hFL2); subst e_
    exact x_inv ⟨kL2, Nat.lt_succ_self _, x18, hLL2, q4, q5, q6, rfl, hS⟩
  ·replace hFL2 := it_f hc9 hFL2
   refine x_exitTo _ rfl <| ?_
   have e_ := Option.some.inj (show some _ = some _ from hFL2); subst e_
   exact x_inv ⟨hLL2, hS⟩
 rintro E w ⟨rfl, hS⟩
 refine x_seq <| x_region <| p (yl_assign rfl) <| x_done <| ?_
 have e_ := Option.some.inj (show some _ = some _ from hF); subst e_
 exact x_return ⟨_, ⟨_, _, rfl, rfl, rfl⟩, rfl, hS⟩
attribute [irreducible] P_slices_Index_string_string

def P_slices_Contains_string_string (s0 : List ByteArray) (v1 : ByteArray) : Option Bool :=
 bd (P_slices_Index_string_string s0 v1) fun q2 =>
 some (decide (0 ≤ q2))
set_option maxHeartbeats 4000000 in
set_option maxRecDepth 100000 in
theorem c_slices_Contains_string_string {w0 w : World} {l : List Assn} {ρ : Heap} {q2 : Option Addr} {q3 : Nat} {c_s0 : Nat} {s0 : List ByteArray} {v1 : ByteArray} {r : Bool} (hF : P_slices_Contains_string_string s0 v1 = some r) (q4 : RdS RpS ρ q2 q3 c_s0 s0) (hS : St w0 w (ro ρ :: l)) :
  Calls Tryd.prog 77 #[.slice q2 q3 c_s0, .string v1] w fun e w' => e = .returned (.bool r) ∧ St w0 w' (ro ρ :: l) := by
 have e_ := q4.n; subst e_
 refine enterC Tryd.func77 rfl 9 rfl (by simp) ?_
 replace hF := bd_s hF; obtain ⟨q6, q5, hF⟩ := hF
 refine x_seq <| x_region <| p (yl_assign rfl) <| x_done <|
  x_seq <| x_region <| p (yl_move rfl) <| p (yl_move rfl) <| ?_
 have hcall := c_slices_Index_string_string q5 q4 hS
 refine o_cc call_132 (args2 rfl rfl) (hcall) ?_
 rintro e w' ⟨rfl, hS⟩
 refine ⟨_, rfl, ?_⟩
 refine p (yl_geq rfl rfl) <| p (yl_assign rfl) <| x_done <| ?_
 have e_ := Option.some.inj (show some _ = some _ from hF); subst e_
 exact x_return ⟨_, ⟨_, _, rfl, rfl, rfl⟩, rfl, hS⟩
attribute [irreducible] P_slices_Contains_string_string

def P_clocks_CheckFor_L6 (n1 : T_api_Netlist) : (List ByteArray × Int) → Option ((List ByteArray × Int) ⊕ List ByteArray) := fun (q3, q2) =>
 if q2 < (n1.Flops.length : Int) then
  ck (inb q2 n1.Flops.length) <|
  lv (gt n1.Flops q2) fun q5 =>
  lv (q3 ++ [q5.Name]) fun q4 =>
  ck (apOk 16 q4.length) <|
  ar (q2 + 1) fun x34 =>
  some (Sum.inl (q4, x34))
 else
  some (Sum.inr q3)
def P_clocks_CheckFor_L11 (l_0 : T_clocks_Limits) (n1 : T_api_Netlist) : Int → Option (Int ⊕ (Unit ⊕ Int)) := fun q2 =>
 if q2 < (l_0.Inputs.length : Int) then
  ck (inb q2 l_0.Inputs.length) <|
  lv (gt l_0.Inputs q2) fun q3 =>
  bd (P_slices_Contains_string_string n1.In q3.Name) fun q4 =>
  if (!q4) = true then
   some (Sum.inr (Sum.inr (7 : Int)))
  else
   ar (q2 + 1) fun x48 =>
   some (Sum.inl x48)
 else
  some (Sum.inr (Sum.inl ()))
def P_clocks_CheckFor_L17 (l_0 : T_clocks_Limits) (n1 : T_api_Netlist) : Int → Option (Int ⊕ (Unit ⊕ Int)) := fun q2 =>
 if q2 < (l_0.Outputs.length : Int) then
  ck (inb q2 l_0.Outputs.length) <|
  lv (gt l_0.Outputs q2) fun q3 =>
  bd (P_slices_Contains_string_string n1.Out q3.Name) fun q4 =>
  if (!q4) = true then
   some (Sum.inr (Sum.inr (7 : Int)))
  else
   ar (q2 + 1) fun x62 =>
   some (Sum.inl x62)
 else
  some (Sum.inr (Sum.inl ()))
def P_clocks_CheckFor_L23 (l_0 : T_clocks_Limits) (n1 : T_api_Netlist) (q4 : List ByteArray) : Int → Option (Int ⊕ (Unit ⊕ Int)) := fun q3 =>
 if q3 < (l_0.Paths.length : Int) then
  ck (inb q3 l_0.Paths.length) <|
  lv (gt l_0.Paths q3) fun q2 =>
  bd (gd (!(decide (q2.From = (⟨#[]⟩ : ByteArray)))) (P_slices_Contains_string_string n1.In q2.From)) fun q7 =>
  lv ((decide (q2.From = (⟨#[]⟩ : ByteArray))) || q7) fun x79 =>
  bd (gd (!x79) (P_slices_Contains_string_string q4 q2.From)) fun q5 =>
  lv (x79 || q5) fun x85 =>
  bd (gd (!(decide (q2.To = (⟨#[]⟩ : ByteArray)))) (P_slices_Contains_string_string n1.Out q2.To)) fun q8 =>
  lv ((decide (q2.To = (⟨#[]⟩ : ByteArray))) || q8) fun x95 =>
  bd (gd (!x95) (P_slices_Contains_string_string q4 q2.To)) fun q6 =>
  lv (x95 || q6) fun x101 =>
  lv ((!x85) || (!x101)) fun x107 =>
  if x107 = true then
   some (Sum.inr (Sum.inr (7 : Int)))
  else
   ar (q3 + 1) fun x108 =>
   some (Sum.inl x108)
 else
  some (Sum.inr (Sum.inl ()))
def P_clocks_CheckFor (l_0 : T_clocks_Limits) (n1 : T_api_Netlist) : Option Int :=
 bd (P_clocks_Check l_0) fun q3 =>
 if q3 ≠ 0 then
  some q3
 else
  bd (
   lp (P_clocks_CheckFor_L6 n1) fuel ([], 0)) fun q2 =>
  bs (
   lp (P_clocks_CheckFor_L11 l_0 n1) fuel 0) (fun y => some y) fun _ =>
  bs (
   lp (P_clocks_CheckFor_L17 l_0 n1) fuel 0) (fun y => some y) fun _ =>
  bs (
   lp (P_clocks_CheckFor_L23 l_0 n1 q2) fuel 0) (fun y => some y) fun _ =>
  some (0 : Int)
set_option maxHeartbeats 4000000 in
set_option maxRecDepth 100000 in
theorem c_clocks_CheckFor {w0 w : World} {l : List Assn} {ρ : Heap} {q6 : Option Addr} {q1e : Nat} {c_l_0_1 : Nat} {q7 : Option Addr} {q1f : Nat} {c_l_0_2 : Nat} {q8 : Option Addr} {q1g : Nat} {c_l_0_3 : Nat} {q9 : Option Addr} {q1n : Nat} {c_n1_0 : Nat} {q0a : Option Addr} {q1o : Nat} {c_n1_1 : Nat} {q0b : Option Addr} {q1p : Nat} {c_n1_2 : Nat} {q0c : Option Addr} {q1q : Nat} {c_n1_3 : Nat} {q0d : Option Addr} {q1r : Nat} {c_n1_4 : Nat} {l_0 : T_clocks_Limits} {n1 : T_api_Netlist} {r : Int} (hF : P_clocks_CheckFor l_0 n1 = some r) (q0p : RdS R_clocks_Input ρ q6 q1e c_l_0_1 l_0.Inputs) (q0q : RdS R_clocks_Output ρ q7 q1f c_l_0_2 l_0.Outputs) (q0r : RdS R_clocks_Path ρ q8 q1g c_l_0_3 l_0.Paths) (q14 : RdS RpS ρ q9 q1n c_n1_0 n1.In) (q15 : RdS RpS ρ q0a q1o c_n1_1 n1.Out) (q16 : RdS R_api_Flop ρ q0b q1p c_n1_2 n1.Flops) (q27 : RdS R_api_Gate ρ q0c q1q c_n1_3 n1.Gates) (q28 : RdS (RpI .i64) ρ q0d q1r c_n1_4 n1.Outs) (hS : St w0 w (ro ρ :: l)) :
  Calls Tryd.prog 29 #[.agg #[.int .i64 l_0.Period, .slice q6 q1e c_l_0_1, .slice q7 q1f c_l_0_2, .slice q8 q1g c_l_0_3], .agg #[.slice q9 q1n c_n1_0, .slice q0a q1o c_n1_1, .slice q0b q1p c_n1_2, .slice q0c q1q c_n1_3, .slice q0d q1r c_n1_4]] w fun e w' => e = .returned (.int .i64 r) ∧ St w0 w' (ro ρ :: l) := by
 have e_ := q0p.n; subst e_
 have e_ := q0q.n; subst e_
 have e_ := q0r.n; subst e_
 have e_ := q14.n; subst e_
 have e_ := q15.n; subst e_
 have e_ := q16.n; subst e_
 have e_ := q27.n; subst e_
 have e_ := q28.n; subst e_
 refine enterC Tryd.func29 rfl 109 rfl (by simp) ?_
 refine x_seq <| x_region <| ?_
 refine o_box (cs := [.int .i64 l_0.Period, .slice q6 l_0.Inputs.length c_l_0_1, .slice q7 l_0.Outputs.length c_l_0_2, .slice q8 l_0.Paths.length c_l_0_3]) rfl rfl hS (fun b2 w' hS => ?_)
 refine o_box (cs := [.slice q9 n1.In.length c_n1_0, .slice q0a n1.Out.length c_n1_1, .slice q0b n1.Flops.length c_n1_2, .slice q0c n1.Gates.length c_n1_3, .slice q0d n1.Outs.length c_n1_4]) rfl rfl hS (fun b3 w' hS => ?_)
 replace hF := bd_s hF; obtain ⟨q17, q2r, hF⟩ := hF
 refine p (yl_assign rfl) <| x_done <| x_seq <| x_seq <|
  x_region <| pa (v := .agg #[.int .i64 l_0.Period, .slice q6 l_0.Inputs.length c_l_0_1, .slice q7 l_0.Outputs.length c_l_0_2, .slice q8 l_0.Paths.length c_l_0_3]) (ld_sub agg_56 rfl rfl rfl (hS.pull 1)) <| ?_
 have hcall := c_clocks_Check q2r q0p q0q q0r (hS.pull 2)
 refine o_cc call_73 (args1 rfl) ((Calls.mono hcall (fun e w'' h => And.intro h.1 ((h.2.pull 2).pull 2)))) ?_
 rintro e w' ⟨rfl, hS⟩
 refine ⟨_, rfl, ?_⟩
 refine p (v := .int .i64 q17) (yl_assign rfl) <| x_done <| x_seq <| x_region <|
  p (v := .int .i64 q17) (yl_move rfl) <| p (yl_neq rfl rfl) <| x_done <|
  x_cond_p (q17 ≠ 0) rfl (fun hc20 => ?_) (fun hc20 => ?_)
 ·replace hF := it_t hc20 hF
  refine x_seq <| x_region <| p (v := .int .i64 q17) (yl_move rfl) <| p (v := .int .i64 q17) (yl_assign rfl) <|
   x_done <| ?_
  have e_ := Option.some.inj (show some _ = some _ from hF); subst e_
  exact x_return ⟨_, ⟨_, _, rfl, rfl, rfl⟩, rfl, hS.drop.drop⟩
 ·replace hF := it_f hc20 hF
  refine x_skip <| x_seq <| x_region <| p (yl_assign rfl) <|
   x_done <| x_seq <| x_seq <| x_region <|
   p (yl_field0 fld_30_2 rfl) <| pa (at_load one_27 rfl (hS.cell rfl)) <| p (yl_len_slice usl_27 rfl) <| p (yl_move rfl) <|
   x_done <| ?_
  replace hF := bd_s hF; obtain ⟨oL6, hLL6, hF⟩ := hF
  refine x_join (fun E w => ∃ (q3 : Option Addr) (q0j : Nat) (c_flops6_L6 : Nat) (q4 : List Value) (q2 : List ByteArray), q2 = oL6 ∧ E 2 = .pointer (some ⟨b2, 0, none⟩) ∧ E 3 = .pointer (some ⟨b3, 0, none⟩) ∧ E 6 = .slice q3 q0j c_flops6_L6 ∧ RepL RpS ρ q2 q4 ∧ St w0 w (cells b2 56 [.int .i64 l_0.Period, .slice q6 l_0.Inputs.length c_l_0_1, .slice q7 l_0.Outputs.length c_l_0_2, .slice q8 l_0.Paths.length c_l_0_3] :: cells b3 30 [.slice q9 n1.In.length c_n1_0, .slice q0a n1.Out.length c_n1_1, .slice q0b n1.Flops.length c_n1_2, .slice q0c n1.Gates.length c_n1_3, .slice q0d n1.Outs.length c_n1_4] :: vec 9 RpS.sz (.slice q3 q0j c_flops6_L6) q0j q4 :: ro ρ :: l)) ?_ ?_
  ·refine x_block ?_
   replace hS := St.vec_nil hS 9 RpS.sz
   have q0u : RepL RpS ρ [] [] := rfl
   refine x_loop (fun k_ E w => ∃ (q0g : Option Addr) (q0h : Nat) (c_flops6_L6h : Nat) (q0e : List Value) (q0i : List ByteArray) (q0s : Int), lp (P_clocks_CheckFor_L6 n1) k_ (q0i, q0s) = some oL6 ∧ E 2 = .pointer (some ⟨b2, 0, none⟩) ∧ E 3 = .pointer (some ⟨b3, 0, none⟩) ∧ E 6 = .slice q0g q0h c_flops6_L6h ∧ E 23 = .slice q0b n1.Flops.length c_n1_2 ∧ E 24 = .int .i64 (n1.Flops.length : Int) ∧ E 25 = .int .i64 q0s ∧ RepL RpS ρ q0i q0e ∧ St w0 w (cells b2 56 [.int .i64 l_0.Period, .slice q6 l_0.Inputs.length c_l_0_1, .slice q7 l_0.Outputs.length c_l_0_2, .slice q8 l_0.Paths.length c_l_0_3] :: cells b3 30 [.slice q9 n1.In.length c_n1_0, .slice q0a n1.Out.length c_n1_1, .slice q0b n1.Flops.length c_n1_2, .slice q0c n1.Gates.length c_n1_3, .slice q0d n1.Outs.length c_n1_4] :: vec 9 RpS.sz (.slice q0g q0h c_flops6_L6h) q0h q0e :: ro ρ :: l)) fuel ⟨none, 0, 0, [], [], 0, hLL6, rfl, rfl, rfl, rfl, rfl, rfl, q0u, ((((hS.pull 3).pull 1).pull 2).pull 3)⟩ ?_
   rintro kL6 E w ⟨q0g, q0h, c_flops6_L6h, q0e, q0i, q0s, hLL6, q1s, q1t, q1u, q1h, q1i, q0y, q0k, hS⟩
   have e_ := St.vec_n (hS.pull 2) q0k; subst e_
   replace hLL6 := lp_s hLL6; obtain ⟨kL6, obL6, rfl, hFL6, hLL6⟩ := hLL6
   refine x_seq <| x_region <| p (yl_lss q0y q1i) <| x_done <|
    x_seq <|
    x_cond_p (q0s < (n1.Flops.length : Int)) rfl (fun hc26 => ?_) (fun hc26 => ?_)
   ·replace hFL6 := it_t hc26 hFL6
    replace hFL6 := ck_s hFL6; obtain ⟨q22, hFL6⟩ := hFL6
    replace hFL6 := lv_s hFL6; obtain ⟨q0f, q2s, hFL6⟩ := hFL6
    have q_ := q16.get q22; obtain ⟨q35, q23, q2t⟩ := q_
    rw [← q2s] at q23
    have e_ := q23; subst e_
    refine x_skip <| x_seq <| x_block <| x_seq <|
     x_region <| p (yix_f sl_27 q1h q0y q16 q22) <| pa (v := .agg #[.string q0f.Name, .int .i64 q0f.Cell, .int .i64 q0f.D, .int .i64 q0f.En, .bool q0f.Init]) (at_loadAgg agg_135 rfl rfl (Elt.every q2t (hS.pull 3))) <| ?_
    refine o_alloc zero_135 hS (fun b8 w' hS => ?_)
    refine o_storeAgg (news := [.string q0f.Name, .int .i64 q0f.Cell, .int .i64 q0f.D, .int .i64 q0f.En, .bool q0f.Init]) agg_135 rfl rfl rfl (by simp [over_length]) hS (fun w' hS => ?_)
    refine x_done <| x_region <| p (yl_move q1u) <| p (yl_field0 fld_135_0 rfl) <|
     pa (at_load one_9 rfl (hS.cell rfl)) <| ?_
    refine o_buildSlice (vs := [.string q0f.Name]) (cs := [.string q0f.Name]) sl_26 zero_9 (parts_eq (pt (va := .string q0f.Name) rfl pt0)) rfl (by intro v hv; simp only [List.mem_cons, List.not_mem_nil, or_false] at hv; first | (subst hv; rfl) | (rcases hv with rfl <;> rfl)) (by decide) rfl hS (fun b32 w' hS => ?_)
    replace hFL6 := lv_s hFL6; obtain ⟨q29, q2u, hFL6⟩ := hFL6
    replace hFL6 := ck_s hFL6; obtain ⟨q2v, hFL6⟩ := hFL6
    refine o_ap sl_26 zero_9 rfl (by decide) rfl rfl (hS.pull 4) q0k (src_blk usl_26 hS rfl rfl) (RepL.cons (R := RpS) (ρ := ρ) (x := q0f.Name) (cs := [.string q0f.Name]) rfl RepL.nil) q2u q2v (fun A33 c33 cs33 w' hr33 hS => ?_)
    replace hFL6 := ar_s hFL6; obtain ⟨x34, hx34, hFL6⟩ := hFL6
    refine p (yl_assign rfl) <| x_done <| x_blk <| x_region <|
     p (yadd q0y rfl hx34) <| p (yl_move rfl) <| x_done <| ?_
    have e_ := Option.some.inj (show some _ = some _ from hFL6); subst e_
    exact x_inv ⟨kL6, Nat.lt_succ_self _, A33, q29.length, c33, cs33, q29, x34, hLL6, q1s, q1t, rfl, q1h, q1i, rfl, hr33, ((((((hS.pull 1).drop.pull 1).drop.pull 3).pull 1).pull 3).pull 3)⟩
   ·replace hFL6 := it_f hc26 hFL6
    refine x_exitTo _ rfl <| ?_
    have e_ := Option.some.inj (show some _ = some _ from hFL6); subst e_
    exact x_inv ⟨q0g, q0i.length, c_flops6_L6h, q0e, q0i, hLL6, q1s, q1t, q1u, q0k, ((((hS.pull 3).pull 3).pull 3).pull 3)⟩
  rintro E w ⟨q3, q0j, c_flops6_L6, q4, q2, rfl, q24, q2w, q2x, q0l, hS⟩
  have e_ := St.vec_n (hS.pull 2) q0l; subst e_
  refine x_seq <| x_seq <| x_region <| p (yl_field0 fld_56_1 q24) <|
   pa (at_load one_52 rfl (hS.cell rfl)) <| p (yl_len_slice usl_52 rfl) <| p (yl_move rfl) <| x_done <| ?_
  replace hF := bs_s hF; obtain ⟨oL11, hLL11, hF⟩ := hF
  refine x_join (fun E w => (Sum.inl (())) = oL11 ∧ E 2 = .pointer (some ⟨b2, 0, none⟩) ∧ E 3 = .pointer (some ⟨b3, 0, none⟩) ∧ E 6 = .slice q3 q2.length c_flops6_L6 ∧ St w0 w (cells b2 56 [.int .i64 l_0.Period, .slice q6 l_0.Inputs.length c_l_0_1, .slice q7 l_0.Outputs.length c_l_0_2, .slice q8 l_0.Paths.length c_l_0_3] :: cells b3 30 [.slice q9 n1.In.length c_n1_0, .slice q0a n1.Out.length c_n1_1, .slice q0b n1.Flops.length c_n1_2, .slice q0c n1.Gates.length c_n1_3, .slice q0d n1.Outs.length c_n1_4] :: vec 9 RpS.sz (.slice q3 q2.length c_flops6_L6) q2.length q4 :: ro ρ :: l)) ?_ ?_
  ·refine x_block ?_
   refine x_loop (fun k_ E w => ∃ (q0m : Int), lp (P_clocks_CheckFor_L11 l_0 n1) k_ q0m = some oL11 ∧ E 2 = .pointer (some ⟨b2, 0, none⟩) ∧ E 3 = .pointer (some ⟨b3, 0, none⟩) ∧ E 6 = .slice q3 q2.length c_flops6_L6 ∧ E 36 = .slice q6 l_0.Inputs.length c_l_0_1 ∧ E 37 = .int .i64 (l_0.Inputs.length : Int) ∧ E 38 = .int .i64 q0m ∧ St w0 w (cells b2 56 [.int .i64 l_0.Period, .slice q6 l_0.Inputs.length c_l_0_1, .slice q7 l_0.Outputs.length c_l_0_2, .slice q8 l_0.Paths.length c_l_0_3] :: cells b3 30 [.slice q9 n1.In.length c_n1_0, .slice q0a n1.Out.length c_n1_1, .slice q0b n1.Flops.length c_n1_2, .slice q0c n1.Gates.length c_n1_3, .slice q0d n1.Outs.length c_n1_4] :: vec 9 RpS.sz (.slice q3 q2.length c_flops6_L6) q2.length q4 :: ro ρ :: l)) fuel ⟨0, hLL11, q24, q2w, q2x, rfl, rfl, rfl, ((((hS.pull 3).pull 3).pull 3).pull 3)⟩ ?_
   rintro kL11 E w ⟨q0m, hLL11, q1j, q0z, q1k, q18, q19, q0v, hS⟩
   replace hLL11 := lp_s hLL11; obtain ⟨kL11, obL11, rfl, hFL11, hLL11⟩ := hLL11
   refine x_seq <| x_region <| p (yl_lss q0v q19) <| x_done <|
    x_seq <|
    x_cond_p (q0m < (l_0.Inputs.length : Int)) rfl (fun hc39 => ?_) (fun hc39 => ?_)
   ·replace hFL11 := it_t hc39 hFL11
    replace hFL11 := ck_s hFL11; obtain ⟨q1v, hFL11⟩ := hFL11
    replace hFL11 := lv_s hFL11; obtain ⟨q0t, q2a, hFL11⟩ := hFL11
    have q_ := q0p.get q1v; obtain ⟨q32, q1w, q2b⟩ := q_
    rw [← q2a] at q1w
    have e_ := q1w; subst e_
    refine x_skip <| x_seq <| x_block <| x_seq <|
     x_region <| p (yix_f sl_52 q18 q0v q0p q1v) <| pa (v := .agg #[.string q0t.Name, .int .i64 q0t.At.Lo, .int .i64 q0t.At.Hi]) (at_loadAgg agg_156 rfl rfl (Elt.every q2b (hS.pull 3))) <| ?_
    refine o_alloc zero_156 hS (fun b10 w' hS => ?_)
    refine o_storeAgg (news := [.string q0t.Name, .int .i64 q0t.At.Lo, .int .i64 q0t.At.Hi]) agg_156 rfl rfl rfl (by simp [over_length]) hS (fun w' hS => ?_)
    replace hFL11 := bd_s hFL11; obtain ⟨q2y, q2c, hFL11⟩ := hFL11
    refine x_done <| x_seq <| x_region <| p (yl_field0 fld_30_0 q0z) <|
     pa (at_load one_26 rfl ((hS.pull 2).cell rfl)) <| p (yl_field0 fld_156_0 rfl) <| pa (at_load one_9 rfl (hS.cell rfl)) <| ?_
    have hcall := c_slices_Contains_string_string q2c q14 (hS.pull 4)
    refine o_cc call_77 (args2 rfl rfl) ((Calls.mono hcall (fun e w'' h => And.intro h.1 ((((h.2.pull 4).pull 4).pull 4).pull 4)))) ?_
    rintro e w' ⟨rfl, hS⟩
    refine ⟨_, rfl, ?_⟩
    refine p (yl_not rfl) <| x_done <|
     x_cond (t := !q2y) rfl (fun hc47 => ?_) (fun hc47 => ?_)
    ·replace hFL11 := it_t hc47 hFL11
     refine x_seq <| x_region <| p (yl_assign rfl) <| x_done <| ?_
     have e_ := Option.some.inj (show some _ = some _ from hFL11); subst e_
     have e_ := (show _ = oL11 from hLL11); subst e_
     have e_ := Option.some.inj (show some _ = some _ from hF); subst e_
     exact x_return ⟨_, ⟨_, _, rfl, rfl, rfl⟩, rfl, hS.drop.drop.drop.drop⟩
    ·replace hFL11 := it_bf hc47 hFL11
     replace hFL11 := ar_s hFL11; obtain ⟨x48, hx48, hFL11⟩ := hFL11
     refine x_skip <| x_blk <| x_region <| p (yadd q0v rfl hx48) <|
      p (yl_move rfl) <| x_done <| ?_
     have e_ := Option.some.inj (show some _ = some _ from hFL11); subst e_
     exact x_inv ⟨kL11, Nat.lt_succ_self _, x48, hLL11, q1j, q0z, q1k, q18, q19, rfl, ((((hS.drop.pull 3).pull 3).pull 3).pull 3)⟩
   ·replace hFL11 := it_f hc39 hFL11
    refine x_exitTo _ rfl <| ?_
    have e_ := Option.some.inj (show some _ = some _ from hFL11); subst e_
    exact x_inv ⟨hLL11, q1j, q0z, q1k, ((((hS.pull 3).pull 3).pull 3).pull 3)⟩
  rintro E w ⟨rfl, q1x, q2d, q2e, hS⟩
  refine x_seq <| x_seq <| x_region <| p (yl_field0 fld_56_2 q1x) <|
   pa (at_load one_53 rfl (hS.cell rfl)) <| p (yl_len_slice usl_53 rfl) <| p (yl_move rfl) <| x_done <| ?_
  replace hF := bs_s hF; obtain ⟨oL17, hLL17, hF⟩ := hF
  refine x_join (fun E w => (Sum.inl (())) = oL17 ∧ E 2 = .pointer (some ⟨b2, 0, none⟩) ∧ E 3 = .pointer (some ⟨b3, 0, none⟩) ∧ E 6 = .slice q3 q2.length c_flops6_L6 ∧ St w0 w (cells b2 56 [.int .i64 l_0.Period, .slice q6 l_0.Inputs.length c_l_0_1, .slice q7 l_0.Outputs.length c_l_0_2, .slice q8 l_0.Paths.length c_l_0_3] :: cells b3 30 [.slice q9 n1.In.length c_n1_0, .slice q0a n1.Out.length c_n1_1, .slice q0b n1.Flops.length c_n1_2, .slice q0c n1.Gates.length c_n1_3, .slice q0d n1.Outs.length c_n1_4] :: vec 9 RpS.sz (.slice q3 q2.length c_flops6_L6) q2.length q4 :: ro ρ :: l)) ?_ ?_
  ·refine x_block ?_
   refine x_loop (fun k_ E w => ∃ (q0n : Int), lp (P_clocks_CheckFor_L17 l_0 n1) k_ q0n = some oL17 ∧ E 2 = .pointer (some ⟨b2, 0, none⟩) ∧ E 3 = .pointer (some ⟨b3, 0, none⟩) ∧ E 6 = .slice q3 q2.length c_flops6_L6 ∧ E 50 = .slice q7 l_0.Outputs.length c_l_0_2 ∧ E 51 = .int .i64 (l_0.Outputs.length : Int) ∧ E 52 = .int .i64 q0n ∧ St w0 w (cells b2 56 [.int .i64 l_0.Period, .slice q6 l_0.Inputs.length c_l_0_1, .slice q7 l_0.Outputs.length c_l_0_2, .slice q8 l_0.Paths.length c_l_0_3] :: cells b3 30 [.slice q9 n1.In.length c_n1_0, .slice q0a n1.Out.length c_n1_1, .slice q0b n1.Flops.length c_n1_2, .slice q0c n1.Gates.length c_n1_3, .slice q0d n1.Outs.length c_n1_4] :: vec 9 RpS.sz (.slice q3 q2.length c_flops6_L6) q2.length q4 :: ro ρ :: l)) fuel ⟨0, hLL17, q1x, q2d, q2e, rfl, rfl, rfl, ((((hS.pull 3).pull 3).pull 3).pull 3)⟩ ?_
   rintro kL17 E w ⟨q0n, hLL17, q1l, q10, q1m, q1a, q1b, q0w, hS⟩
   replace hLL17 := lp_s hLL17; obtain ⟨kL17, obL17, rfl, hFL17, hLL17⟩ := hLL17
   refine x_seq <| x_region <| p (yl_lss q0w q1b) <| x_done <|
    x_seq <|
    x_cond_p (q0n < (l_0.Outputs.length : Int)) rfl (fun hc53 => ?_) (fun hc53 => ?_)
   ·replace hFL17 := it_t hc53 hFL17
    replace hFL17 := ck_s hFL17; obtain ⟨q1y, hFL17⟩ := hFL17
    replace hFL17 := lv_s hFL17; obtain ⟨q13, q2f, hFL17⟩ := hFL17
    have q_ := q0q.get q1y; obtain ⟨q33, q1z, q2g⟩ := q_
    rw [← q2f] at q1z
    have e_ := q1z; subst e_
    refine x_skip <| x_seq <| x_block <| x_seq <|
     x_region <| p (yix_f sl_53 q1a q0w q0q q1y) <| pa (v := .agg #[.string q13.Name, .int .i64 q13.Before]) (at_loadAgg agg_158 rfl rfl (Elt.every q2g (hS.pull 3))) <| ?_
    refine o_alloc zero_158 hS (fun b12 w' hS => ?_)
    refine o_storeAgg (news := [.string q13.Name, .int .i64 q13.Before]) agg_158 rfl rfl rfl (by simp [over_length]) hS (fun w' hS => ?_)
    replace hFL17 := bd_s hFL17; obtain ⟨q2z, q2h, hFL17⟩ := hFL17
    refine x_done <| x_seq <| x_region <| p (yl_field0 fld_30_1 q10) <|
     pa (at_load one_26 rfl ((hS.pull 2).cell rfl)) <| p (yl_field0 fld_158_0 rfl) <| pa (at_load one_9 rfl (hS.cell rfl)) <| ?_
    have hcall := c_slices_Contains_string_string q2h q15 (hS.pull 4)
    refine o_cc call_77 (args2 rfl rfl) ((Calls.mono hcall (fun e w'' h => And.intro h.1 ((((h.2.pull 4).pull 4).pull 4).pull 4)))) ?_
    rintro e w' ⟨rfl, hS⟩
    refine ⟨_, rfl, ?_⟩
    refine p (yl_not rfl) <| x_done <|
     x_cond (t := !q2z) rfl (fun hc61 => ?_) (fun hc61 => ?_)
    ·replace hFL17 := it_t hc61 hFL17
     refine x_seq <| x_region <| p (yl_assign rfl) <| x_done <| ?_
     have e_ := Option.some.inj (show some _ = some _ from hFL17); subst e_
     have e_ := (show _ = oL17 from hLL17); subst e_
     have e_ := Option.some.inj (show some _ = some _ from hF); subst e_
     exact x_return ⟨_, ⟨_, _, rfl, rfl, rfl⟩, rfl, hS.drop.drop.drop.drop⟩
    ·replace hFL17 := it_bf hc61 hFL17
     replace hFL17 := ar_s hFL17; obtain ⟨x62, hx62, hFL17⟩ := hFL17
     refine x_skip <| x_blk <| x_region <| p (yadd q0w rfl hx62) <|
      p (yl_move rfl) <| x_done <| ?_
     have e_ := Option.some.inj (show some _ = some _ from hFL17); subst e_
     exact x_inv ⟨kL17, Nat.lt_succ_self _, x62, hLL17, q1l, q10, q1m, q1a, q1b, rfl, ((((hS.drop.pull 3).pull 3).pull 3).pull 3)⟩
   ·replace hFL17 := it_f hc53 hFL17
    refine x_exitTo _ rfl <| ?_
    have e_ := Option.some.inj (show some _ = some _ from hFL17); subst e_
    exact x_inv ⟨hLL17, q1l, q10, q1m, ((((hS.pull 3).pull 3).pull 3).pull 3)⟩
  rintro E w ⟨rfl, q2i, q2j, q2k, hS⟩
  refine x_seq <| x_seq <| x_region <| p (yl_field0 fld_56_3 q2i) <|
   pa (at_load one_54 rfl (hS.cell rfl)) <| p (yl_len_slice usl_54 rfl) <| p (yl_move rfl) <| x_done <| ?_
  replace hF := bs_s hF; obtain ⟨oL23, hLL23, hF⟩ := hF
  refine x_join (fun E w => (Sum.inl (())) = oL23 ∧ St w0 w (ro ρ :: l)) ?_ ?_
  ·refine x_block ?_
   refine x_loop (fun k_ E w => ∃ (q0o : Int), lp (P_clocks_CheckFor_L23 l_0 n1 q2) k_ q0o = some oL23 ∧ E 3 = .pointer (some ⟨b3, 0, none⟩) ∧ E 6 = .slice q3 q2.length c_flops6_L6 ∧ E 64 = .slice q8 l_0.Paths.length c_l_0_3 ∧ E 65 = .int .i64 (l_0.Paths.length : Int) ∧ E 66 = .int .i64 q0o ∧ St w0 w (cells b3 30 [.slice q9 n1.In.length c_n1_0, .slice q0a n1.Out.length c_n1_1, .slice q0b n1.Flops.length c_n1_2, .slice q0c n1.Gates.length c_n1_3, .slice q0d n1.Outs.length c_n1_4] :: vec 9 RpS.sz (.slice q3 q2.length c_flops6_L6) q2.length q4 :: ro ρ :: l)) fuel ⟨0, hLL23, q2j, q2k, rfl, rfl, rfl, (((hS.drop.pull 2).pull 2).pull 2)⟩ ?_
   rintro kL23 E w ⟨q0o, hLL23, q11, q12, q1c, q1d, q0x, hS⟩
   replace hLL23 := lp_s hLL23; obtain ⟨kL23, obL23, rfl, hFL23, hLL23⟩ := hLL23
   refine x_seq <| x_region <| p (yl_lss q0x q1d) <| x_done <|
    x_seq <|
    x_cond_p (q0o < (l_0.Paths.length : Int)) rfl (fun hc67 => ?_) (fun hc67 => ?_)
   ·replace hFL23 := it_t hc67 hFL23
    replace hFL23 := ck_s hFL23; obtain ⟨q20, hFL23⟩ := hFL23
    replace hFL23 := lv_s hFL23; obtain ⟨q5, q2l, hFL23⟩ := hFL23
    have q_ := q0r.get q20; obtain ⟨q34, q21, q2m⟩ := q_
    rw [← q2l] at q21
    have e_ := q21; subst e_
    refine x_skip <| x_seq <| x_block <| x_seq <|
     x_region <| p (yix_f sl_54 q1c q0x q0r q20) <| pa (v := .agg #[.string q5.From, .string q5.To, .int .i64 q5.Cycles]) (at_loadAgg agg_160 rfl rfl (Elt.every q2m (hS.pull 2))) <| ?_
    refine o_alloc zero_160 hS (fun b14 w' hS => ?_)
    refine o_storeAgg (news := [.string q5.From, .string q5.To, .int .i64 q5.Cycles]) agg_160 rfl rfl rfl (by simp [over_length]) hS (fun w' hS => ?_)
    replace hFL23 := bd_s hFL23; obtain ⟨q30, q2n, hFL23⟩ := hFL23
    refine x_done <| x_seq <| x_region <| p (yl_field0 fld_160_0 rfl) <|
     pa (at_load one_9 rfl (hS.cell rfl)) <| p (yl_eql_string rfl rfl) <| p (yl_move rfl) <| pg (v := .pointer (some ⟨b3, 0, none⟩)) 73 (c := !(decide (q5.From = (⟨#[]⟩ : ByteArray)))) (says_f _) (fun hq => Yl.at (yl_field0 fld_30_0 q11)) <|
     pg (v := .slice q9 n1.In.length c_n1_0) 73 (c := !(decide (q5.From = (⟨#[]⟩ : ByteArray)))) (says_f _) (fun hq => at_load one_26 (cv hq) ((hS.pull 1).cell rfl)) <| pg (v := .pointer (some ⟨b14, 0, none⟩)) 73 (c := !(decide (q5.From = (⟨#[]⟩ : ByteArray)))) (says_f _) (fun hq => Yl.at (yl_field0 fld_160_0 rfl)) <| pg (v := .string q5.From) 73 (c := !(decide (q5.From = (⟨#[]⟩ : ByteArray)))) (says_f _) (fun hq => at_load one_9 (cv hq) (hS.cell rfl)) <|
     pccg (v := .bool q30) 73 (c := !(decide (q5.From = (⟨#[]⟩ : ByteArray)))) (says_f _) call_77 (fun hq => (args2 (cv hq) (cv hq))) hS (fun hq => by
      have hcall := c_slices_Contains_string_string (gd_t q2n hq) q14 (hS.pull 3)
      exact (Calls.mono hcall (fun e w'' h => And.intro h.1 (((h.2.pull 3).pull 3).pull 3)))) (fun w' hS => ?_)
    replace hFL23 := lv_s hFL23; obtain ⟨x79, hx79, hFL23⟩ := hFL23
    replace hFL23 := bd_s hFL23; obtain ⟨q2o, q25, hFL23⟩ := hFL23
    refine p (yor' rfl rfl (fun hc => (cv (t_not hc))) hx79) <| p (yl_move rfl) <| pg (v := .slice q3 q2.length c_flops6_L6) 80 (c := !x79) (says_f _) (fun hq => Yl.at (yl_move q12)) <| pg (v := .pointer (some ⟨b14, 0, none⟩)) 80 (c := !x79) (says_f _) (fun hq => Yl.at (yl_field0 fld_160_0 rfl)) <|
     pg (v := .string q5.From) 80 (c := !x79) (says_f _) (fun hq => at_load one_9 (cv hq) (hS.cell rfl)) <|
     pccg (v := .bool q2o) 80 (c := !x79) (says_f _) call_77 (fun hq => (args2 (cv hq) (cv hq))) hS (fun hq => by
      have q_ := St.lend ((hS.pull 3).pull 3) q0l; obtain ⟨ρl0, hll0, hlf0, hS0, back0⟩ := q_
      have hcall := c_slices_Contains_string_string (gd_t q25 hq) hlf0 hS0
      exact (Calls.mono hcall (fun e w'' h => And.intro h.1 (((((back0 h.2).pull 1).pull 1).pull 3).pull 3)))) (fun w' hS => ?_)
    replace hFL23 := lv_s hFL23; obtain ⟨x85, hx85, hFL23⟩ := hFL23
    replace hFL23 := bd_s hFL23; obtain ⟨q31, q2p, hFL23⟩ := hFL23
    refine p (yor' rfl rfl (fun hc => (cv (t_not hc))) hx85) <| p (yl_assign rfl) <| x_done <| x_seq <|
     x_region <| p (yl_field0 fld_160_1 rfl) <| pa (at_load one_9 rfl (hS.cell rfl)) <| p (yl_eql_string rfl rfl) <|
     p (yl_move rfl) <| pg (v := .pointer (some ⟨b3, 1, none⟩)) 89 (c := !(decide (q5.To = (⟨#[]⟩ : ByteArray)))) (says_f _) (fun hq => Yl.at (yl_field0 fld_30_1 q11)) <| pg (v := .slice q0a n1.Out.length c_n1_1) 89 (c := !(decide (q5.To = (⟨#[]⟩ : ByteArray)))) (says_f _) (fun hq => at_load one_26 (cv hq) ((hS.pull 1).cell rfl)) <| pg (v := .pointer (some ⟨b14, 1, none⟩)) 89 (c := !(decide (q5.To = (⟨#[]⟩ : ByteArray)))) (says_f _) (fun hq => Yl.at (yl_field0 fld_160_1 rfl)) <|
     pg (v := .string q5.To) 89 (c := !(decide (q5.To = (⟨#[]⟩ : ByteArray)))) (says_f _) (fun hq => at_load one_9 (cv hq) (hS.cell rfl)) <|
     pccg (v := .bool q31) 89 (c := !(decide (q5.To = (⟨#[]⟩ : ByteArray)))) (says_f _) call_77 (fun hq => (args2 (cv hq) (cv hq))) hS (fun hq => by
      have hcall := c_slices_Contains_string_string (gd_t q2p hq) q15 (hS.pull 3)
      exact (Calls.mono hcall (fun e w'' h => And.intro h.1 (((h.2.pull 3).pull 3).pull 3)))) (fun w' hS => ?_)
    replace hFL23 := lv_s hFL23; obtain ⟨x95, hx95, hFL23⟩ := hFL23
    replace hFL23 := bd_s hFL23; obtain ⟨q2q, q26, hFL23⟩ := hFL23
    refine p (yor' rfl rfl (fun hc => (cv (t_not hc))) hx95) <| p (yl_move rfl) <| pg (v := .slice q3 q2.length c_flops6_L6) 96 (c := !x95) (says_f _) (fun hq => Yl.at (yl_move q12)) <| pg (v := .pointer (some ⟨b14, 1, none⟩)) 96 (c := !x95) (says_f _) (fun hq => Yl.at (yl_field0 fld_160_1 rfl)) <|
     pg (v := .string q5.To) 96 (c := !x95) (says_f _) (fun hq => at_load one_9 (cv hq) (hS.cell rfl)) <|
     pccg (v := .bool q2q) 96 (c := !x95) (says_f _) call_77 (fun hq => (args2 (cv hq) (cv hq))) hS (fun hq => by
      have q_ := St.lend ((hS.pull 3).pull 3) q0l; obtain ⟨ρl0, hll0, hlf0, hS0, back0⟩ := q_
      have hcall := c_slices_Contains_string_string (gd_t q26 hq) hlf0 hS0
      exact (Calls.mono hcall (fun e w'' h => And.intro h.1 (((((back0 h.2).pull 1).pull 1).pull 3).pull 3)))) (fun w' hS => ?_)
    replace hFL23 := lv_s hFL23; obtain ⟨x101, hx101, hFL23⟩ := hFL23
    replace hFL23 := lv_s hFL23; obtain ⟨x107, hx107, hFL23⟩ := hFL23
    refine p (yor' rfl rfl (fun hc => (cv (t_not hc))) hx101) <| p (yl_assign rfl) <| x_done <| x_seq <|
     x_region <| p (yl_move rfl) <| p (yl_not rfl) <| p (yl_move rfl) <|
     pg (v := .bool x101) 104 (c := !(!x85)) (says_f _) (fun hq => Yl.at (yl_move rfl)) <| pg (v := .bool (!x101)) 104 (c := !(!x85)) (says_f _) (fun hq => Yl.at (yl_not (cv hq))) <| p (yor' rfl rfl (fun hc => (cv (t_not hc))) hx107) <| x_done <|
     x_cond (t := x107) rfl (fun hc107 => ?_) (fun hc107 => ?_)
    ·replace hFL23 := it_t hc107 hFL23
     refine x_seq <| x_region <| p (yl_assign rfl) <| x_done <| ?_
     have e_ := Option.some.inj (show some _ = some _ from hFL23); subst e_
     have e_ := (show _ = oL23 from hLL23); subst e_
     have e_ := Option.some.inj (show some _ = some _ from hF); subst e_
     exact x_return ⟨_, ⟨_, _, rfl, rfl, rfl⟩, rfl, hS.drop.drop.drop⟩
    ·replace hFL23 := it_bf hc107 hFL23
     replace hFL23 := ar_s hFL23; obtain ⟨x108, hx108, hFL23⟩ := hFL23
     refine x_skip <| x_blk <| x_region <| p (yadd q0x rfl hx108) <|
      p (yl_move rfl) <| x_done <| ?_
     have e_ := Option.some.inj (show some _ = some _ from hFL23); subst e_
     exact x_inv ⟨kL23, Nat.lt_succ_self _, x108, hLL23, q11, q12, q1c, q1d, rfl, (((hS.drop.pull 2).pull 2).pull 2)⟩
   ·replace hFL23 := it_f hc67 hFL23
    refine x_exitTo _ rfl <| ?_
    have e_ := Option.some.inj (show some _ = some _ from hFL23); subst e_
    exact x_inv ⟨hLL23, hS.drop.drop⟩
  rintro E w ⟨rfl, hS⟩
  refine x_seq <| x_region <| p (yl_assign rfl) <| x_done <| ?_
  have e_ := Option.some.inj (show some _ = some _ from hF); subst e_
  exact x_return ⟨_, ⟨_, _, rfl, rfl, rfl⟩, rfl, hS⟩
attribute [irreducible] P_clocks_CheckFor

def P_timing_Check_L5 (j0 : T_timing_Job) : Int → Option (Int ⊕ (Unit ⊕ Int)) := fun q2 =>
 if q2 < (j0.Net.Flops.length : Int) then
  ck (inb q2 j0.Net.Flops.length) <|
  lv (gt j0.Net.Flops q2) fun q3 =>
  if q3.Cell < 0 then
   some (Sum.inr (Sum.inr (8 : Int)))
  else
   ar (q2 + 1) fun x26 =>
   some (Sum.inl x26)
 else
  some (Sum.inr (Sum.inl ()))
def P_timing_Check (j0 : T_timing_Job) : Option Int :=
 bd (P_netlist_Check (T_api_Netlist.mk j0.Net.In j0.Net.Out j0.Net.Flops j0.Net.Gates j0.Net.Outs) j0.Lib) fun q3 =>
 if q3 ≠ 0 then
  some q3
 else
  bs (
   lp (P_timing_Check_L5 j0) fuel 0) (fun y => some y) fun _ =>
  bd (P_delay_Check (T_api_Netlist.mk j0.Net.In j0.Net.Out j0.Net.Flops j0.Net.Gates j0.Net.Outs) (T_delay_Delays.mk j0.Delays.Gates j0.Delays.Data j0.Delays.Outs j0.Delays.Clock j0.Delays.Launch)) fun q2 =>
  if q2 ≠ 0 then
   some q2
  else
   bd (P_clocks_CheckFor (T_clocks_Limits.mk j0.Limits.Period j0.Limits.Inputs j0.Limits.Outputs j0.Limits.Paths) (T_api_Netlist.mk j0.Net.In j0.Net.Out j0.Net.Flops j0.Net.Gates j0.Net.Outs)) fun q4 =>
   some q4
set_option maxHeartbeats 4000000 in
set_option maxRecDepth 100000 in
theorem c_timing_Check {w0 w : World} {l : List Assn} {ρ : Heap} {q3 : Option Addr} {q11 : Nat} {c_j0_0 : Nat} {q4 : Option Addr} {q12 : Nat} {c_j0_1 : Nat} {q2 : Option Addr} {q13 : Nat} {c_j0_2 : Nat} {q5 : Option Addr} {q14 : Nat} {c_j0_3 : Nat} {q6 : Option Addr} {q15 : Nat} {c_j0_4 : Nat} {q0h : Option Addr} {q16 : Nat} {c_j0_5 : Nat} {q0c : Option Addr} {q17 : Nat} {c_j0_6 : Nat} {q0d : Option Addr} {q18 : Nat} {c_j0_7 : Nat} {q0e : Option Addr} {q19 : Nat} {c_j0_8 : Nat} {q0f : Option Addr} {q1a : Nat} {c_j0_9 : Nat} {q7 : Option Addr} {q0r : Nat} {c_j0_10 : Nat} {q8 : Option Addr} {q0s : Nat} {c_j0_12 : Nat} {q9 : Option Addr} {q0t : Nat} {c_j0_13 : Nat} {q0a : Option Addr} {q0u : Nat} {c_j0_14 : Nat} {j0 : T_timing_Job} {r : Int} (hF : P_timing_Check j0 = some r) (q0j : RdS RpS ρ q3 q11 c_j0_0 j0.Net.In) (q0k : RdS RpS ρ q4 q12 c_j0_1 j0.Net.Out) (q0g : RdS R_api_Flop ρ q2 q13 c_j0_2 j0.Net.Flops) (q0l : RdS R_api_Gate ρ q5 q14 c_j0_3 j0.Net.Gates) (q0m : RdS (RpI .i64) ρ q6 q15 c_j0_4 j0.Net.Outs) (q1b : RdS R_api_Cell ρ q0h q16 c_j0_5 j0.Lib) (q1c : RdS (RpSl R_tree_Window) ρ q0c q17 c_j0_6 j0.Delays.Gates) (q1d : RdS (RpSl R_tree_Window) ρ q0d q18 c_j0_7 j0.Delays.Data) (q1e : RdS R_tree_Window ρ q0e q19 c_j0_8 j0.Delays.Outs) (q1f : RdS R_tree_Window ρ q0f q1a c_j0_9 j0.Delays.Clock) (q0v : RdS R_tree_Window ρ q7 q0r c_j0_10 j0.Delays.Launch) (q0w : RdS R_clocks_Input ρ q8 q0s c_j0_12 j0.Limits.Inputs) (q0x : RdS R_clocks_Output ρ q9 q0t c_j0_13 j0.Limits.Outputs) (q0y : RdS R_clocks_Path ρ q0a q0u c_j0_14 j0.Limits.Paths) (hS : St w0 w (ro ρ :: l)) :
  Calls Tryd.prog 58 #[.agg #[.slice q3 q11 c_j0_0, .slice q4 q12 c_j0_1, .slice q2 q13 c_j0_2, .slice q5 q14 c_j0_3, .slice q6 q15 c_j0_4, .slice q0h q16 c_j0_5, .slice q0c q17 c_j0_6, .slice q0d q18 c_j0_7, .slice q0e q19 c_j0_8, .slice q0f q1a c_j0_9, .slice q7 q0r c_j0_10, .int .i64 j0.Limits.Period, .slice q8 q0s c_j0_12, .slice q9 q0t c_j0_13, .slice q0a q0u c_j0_14]] w fun e w' => e = .returned (.int .i64 r) ∧ St w0 w' (ro ρ :: l) := by
 have e_ := q0j.n; subst e_
 have e_ := q0k.n; subst e_
 have e_ := q0g.n; subst e_
 have e_ := q0l.n; subst e_
 have e_ := q0m.n; subst e_
 have e_ := q1b.n; subst e_
 have e_ := q1c.n; subst e_
 have e_ := q1d.n; subst e_
 have e_ := q1e.n; subst e_
 have e_ := q1f.n; subst e_
 have e_ := q0v.n; subst e_
 have e_ := q0w.n; subst e_
 have e_ := q0x.n; subst e_
 have e_ := q0y.n; subst e_
 refine enterC Tryd.func58 rfl 40 rfl (by simp) ?_
 refine x_seq <| x_region <| ?_
 refine o_box (cs := [.slice q3 j0.Net.In.length c_j0_0, .slice q4 j0.Net.Out.length c_j0_1, .slice q2 j0.Net.Flops.length c_j0_2, .slice q5 j0.Net.Gates.length c_j0_3, .slice q6 j0.Net.Outs.length c_j0_4, .slice q0h j0.Lib.length c_j0_5, .slice q0c j0.Delays.Gates.length c_j0_6, .slice q0d j0.Delays.Data.length c_j0_7, .slice q0e j0.Delays.Outs.length c_j0_8, .slice q0f j0.Delays.Clock.length c_j0_9, .slice q7 j0.Delays.Launch.length c_j0_10, .int .i64 j0.Limits.Period, .slice q8 j0.Limits.Inputs.length c_j0_12, .slice q9 j0.Limits.Outputs.length c_j0_13, .slice q0a j0.Limits.Paths.length c_j0_14]) rfl rfl hS (fun b1 w' hS => ?_)
 replace hF := bd_s hF; obtain ⟨q0q, q1l, hF⟩ := hF
 refine p (yl_assign rfl) <| x_done <| x_seq <| x_seq <|
  x_region <| p (yl_field0 fld_58_0 rfl) <| pa (v := .agg #[.slice q3 j0.Net.In.length c_j0_0, .slice q4 j0.Net.Out.length c_j0_1, .slice q2 j0.Net.Flops.length c_j0_2, .slice q5 j0.Net.Gates.length c_j0_3, .slice q6 j0.Net.Outs.length c_j0_4]) (ld_sub agg_30 rfl rfl rfl hS) <| p (yl_field0 fld_58_1 rfl) <|
  pa (at_load one_31 rfl (hS.cell rfl)) <| ?_
 have hcall := c_netlist_Check q1l q0j q0k q0g q0l q0m q1b (hS.pull 1)
 refine o_cc call_105 (args2 rfl rfl) ((Calls.mono hcall (fun e w'' h => And.intro h.1 (h.2.pull 1)))) ?_
 rintro e w' ⟨rfl, hS⟩
 refine ⟨_, rfl, ?_⟩
 refine p (v := .int .i64 q0q) (yl_assign rfl) <| x_done <| x_seq <| x_region <|
  p (v := .int .i64 q0q) (yl_move rfl) <| p (yl_neq rfl rfl) <| x_done <|
  x_cond_p (q0q ≠ 0) rfl (fun hc13 => ?_) (fun hc13 => ?_)
 ·replace hF := it_t hc13 hF
  refine x_seq <| x_region <| p (v := .int .i64 q0q) (yl_move rfl) <| p (v := .int .i64 q0q) (yl_assign rfl) <|
   x_done <| ?_
  have e_ := Option.some.inj (show some _ = some _ from hF); subst e_
  exact x_return ⟨_, ⟨_, _, rfl, rfl, rfl⟩, rfl, hS.drop⟩
 ·replace hF := it_f hc13 hF
  refine x_skip <| x_seq <| x_seq <| x_region <|
   p (yl_field0 fld_58_0 rfl) <| p (yl_field0 fld_30_2 rfl) <| pa (at_load one_27 rfl (hS.cell rfl)) <| p (yl_len_slice usl_27 rfl) <|
   p (yl_move rfl) <| x_done <| ?_
  replace hF := bs_s hF; obtain ⟨oL5, hLL5, hF⟩ := hF
  refine x_join (fun E w => (Sum.inl (())) = oL5 ∧ E 1 = .pointer (some ⟨b1, 0, none⟩) ∧ St w0 w (cells b1 58 [.slice q3 j0.Net.In.length c_j0_0, .slice q4 j0.Net.Out.length c_j0_1, .slice q2 j0.Net.Flops.length c_j0_2, .slice q5 j0.Net.Gates.length c_j0_3, .slice q6 j0.Net.Outs.length c_j0_4, .slice q0h j0.Lib.length c_j0_5, .slice q0c j0.Delays.Gates.length c_j0_6, .slice q0d j0.Delays.Data.length c_j0_7, .slice q0e j0.Delays.Outs.length c_j0_8, .slice q0f j0.Delays.Clock.length c_j0_9, .slice q7 j0.Delays.Launch.length c_j0_10, .int .i64 j0.Limits.Period, .slice q8 j0.Limits.Inputs.length c_j0_12, .slice q9 j0.Limits.Outputs.length c_j0_13, .slice q0a j0.Limits.Paths.length c_j0_14] :: ro ρ :: l)) ?_ ?_
  ·refine x_block ?_
   refine x_loop (fun k_ E w => ∃ (q0i : Int), lp (P_timing_Check_L5 j0) k_ q0i = some oL5 ∧ E 1 = .pointer (some ⟨b1, 0, none⟩) ∧ E 17 = .slice q2 j0.Net.Flops.length c_j0_2 ∧ E 18 = .int .i64 (j0.Net.Flops.length : Int) ∧ E 19 = .int .i64 q0i ∧ St w0 w (cells b1 58 [.slice q3 j0.Net.In.length c_j0_0, .slice q4 j0.Net.Out.length c_j0_1, .slice q2 j0.Net.Flops.length c_j0_2, .slice q5 j0.Net.Gates.length c_j0_3, .slice q6 j0.Net.Outs.length c_j0_4, .slice q0h j0.Lib.length c_j0_5, .slice q0c j0.Delays.Gates.length c_j0_6, .slice q0d j0.Delays.Data.length c_j0_7, .slice q0e j0.Delays.Outs.length c_j0_8, .slice q0f j0.Delays.Clock.length c_j0_9, .slice q7 j0.Delays.Launch.length c_j0_10, .int .i64 j0.Limits.Period, .slice q8 j0.Limits.Inputs.length c_j0_12, .slice q9 j0.Limits.Outputs.length c_j0_13, .slice q0a j0.Limits.Paths.length c_j0_14] :: ro ρ :: l)) fuel ⟨0, hLL5, rfl, rfl, rfl, rfl, ((hS.pull 1).pull 1)⟩ ?_
   rintro kL5 E w ⟨q0i, hLL5, q1g, q0z, q10, q0o, hS⟩
   replace hLL5 := lp_s hLL5; obtain ⟨kL5, obL5, rfl, hFL5, hLL5⟩ := hLL5
   refine x_seq <| x_region <| p (yl_lss q0o q10) <| x_done <|
    x_seq <|
    x_cond_p (q0i < (j0.Net.Flops.length : Int)) rfl (fun hc20 => ?_) (fun hc20 => ?_)
   ·replace hFL5 := it_t hc20 hFL5
    replace hFL5 := ck_s hFL5; obtain ⟨q1h, hFL5⟩ := hFL5
    replace hFL5 := lv_s hFL5; obtain ⟨q0b, q1m, hFL5⟩ := hFL5
    have q_ := q0g.get q1h; obtain ⟨q1p, q1i, q1n⟩ := q_
    rw [← q1m] at q1i
    have e_ := q1i; subst e_
    refine x_skip <| x_seq <| x_block <| x_seq <|
     x_region <| p (yix_f sl_27 q0z q0o q0g q1h) <| pa (v := .agg #[.string q0b.Name, .int .i64 q0b.Cell, .int .i64 q0b.D, .int .i64 q0b.En, .bool q0b.Init]) (at_loadAgg agg_135 rfl rfl (Elt.every q1n (hS.pull 1))) <| ?_
    refine o_alloc zero_135 hS (fun b5 w' hS => ?_)
    refine o_storeAgg (news := [.string q0b.Name, .int .i64 q0b.Cell, .int .i64 q0b.D, .int .i64 q0b.En, .bool q0b.Init]) agg_135 rfl rfl rfl (by simp [over_length]) hS (fun w' hS => ?_)
    refine x_done <| x_seq <| x_region <| p (yl_field0 fld_135_1 rfl) <|
     pa (at_load one_3 rfl (hS.cell rfl)) <| p (yl_lss rfl rfl) <| x_done <|
     x_cond_p (q0b.Cell < 0) rfl (fun hc25 => ?_) (fun hc25 => ?_)
    ·replace hFL5 := it_t hc25 hFL5
     refine x_seq <| x_region <| p (yl_assign rfl) <| x_done <| ?_
     have e_ := Option.some.inj (show some _ = some _ from hFL5); subst e_
     have e_ := (show _ = oL5 from hLL5); subst e_
     have e_ := Option.some.inj (show some _ = some _ from hF); subst e_
     exact x_return ⟨_, ⟨_, _, rfl, rfl, rfl⟩, rfl, hS.drop.drop⟩
    ·replace hFL5 := it_f hc25 hFL5
     replace hFL5 := ar_s hFL5; obtain ⟨x26, hx26, hFL5⟩ := hFL5
     refine x_skip <| x_blk <| x_region <| p (yadd q0o rfl hx26) <|
      p (yl_move rfl) <| x_done <| ?_
     have e_ := Option.some.inj (show some _ = some _ from hFL5); subst e_
     exact x_inv ⟨kL5, Nat.lt_succ_self _, x26, hLL5, q1g, q0z, q10, rfl, ((hS.drop.pull 1).pull 1)⟩
   ·replace hFL5 := it_f hc20 hFL5
    refine x_exitTo _ rfl <| ?_
    have e_ := Option.some.inj (show some _ = some _ from hFL5); subst e_
    exact x_inv ⟨hLL5, q1g, ((hS.pull 1).pull 1)⟩
  rintro E w ⟨rfl, q0p, hS⟩
  replace hF := bd_s hF; obtain ⟨q0n, q1j, hF⟩ := hF
  refine x_seq <| x_seq <| x_region <| p (yl_field0 fld_58_0 q0p) <|
   pa (v := .agg #[.slice q3 j0.Net.In.length c_j0_0, .slice q4 j0.Net.Out.length c_j0_1, .slice q2 j0.Net.Flops.length c_j0_2, .slice q5 j0.Net.Gates.length c_j0_3, .slice q6 j0.Net.Outs.length c_j0_4]) (ld_sub agg_30 rfl rfl rfl hS) <| p (yl_field0 fld_58_2 q0p) <| pa (v := .agg #[.slice q0c j0.Delays.Gates.length c_j0_6, .slice q0d j0.Delays.Data.length c_j0_7, .slice q0e j0.Delays.Outs.length c_j0_8, .slice q0f j0.Delays.Clock.length c_j0_9, .slice q7 j0.Delays.Launch.length c_j0_10]) (ld_sub agg_51 rfl rfl rfl hS) <| ?_
  have hcall := c_delay_Check q1j q0j q0k q0g q0l q0m q1c q1d q1e q1f q0v (hS.pull 1)
  refine o_cc call_114 (args2 rfl rfl) ((Calls.mono hcall (fun e w'' h => And.intro h.1 (h.2.pull 1)))) ?_
  rintro e w' ⟨rfl, hS⟩
  refine ⟨_, rfl, ?_⟩
  refine p (v := .int .i64 q0n) (yl_assign rfl) <| x_done <| x_seq <| x_region <|
   p (v := .int .i64 q0n) (yl_move rfl) <| p (yl_neq rfl rfl) <| x_done <|
   x_cond_p (q0n ≠ 0) rfl (fun hc33 => ?_) (fun hc33 => ?_)
  ·replace hF := it_t hc33 hF
   refine x_seq <| x_region <| p (v := .int .i64 q0n) (yl_move rfl) <| p (v := .int .i64 q0n) (yl_assign rfl) <|
    x_done <| ?_
   have e_ := Option.some.inj (show some _ = some _ from hF); subst e_
   exact x_return ⟨_, ⟨_, _, rfl, rfl, rfl⟩, rfl, hS.drop⟩
  ·replace hF := it_f hc33 hF
   replace hF := bd_s hF; obtain ⟨q1o, q1k, hF⟩ := hF
   refine x_skip <| x_seq <| x_region <| p (yl_field0 fld_58_3 q0p) <|
    pa (v := .agg #[.int .i64 j0.Limits.Period, .slice q8 j0.Limits.Inputs.length c_j0_12, .slice q9 j0.Limits.Outputs.length c_j0_13, .slice q0a j0.Limits.Paths.length c_j0_14]) (ld_sub agg_56 rfl rfl rfl hS) <| p (yl_field0 fld_58_0 q0p) <| pa (v := .agg #[.slice q3 j0.Net.In.length c_j0_0, .slice q4 j0.Net.Out.length c_j0_1, .slice q2 j0.Net.Flops.length c_j0_2, .slice q5 j0.Net.Gates.length c_j0_3, .slice q6 j0.Net.Outs.length c_j0_4]) (ld_sub agg_30 rfl rfl rfl hS) <| ?_
   have hcall := c_clocks_CheckFor q1k q0w q0x q0y q0j q0k q0g q0l q0m (hS.pull 1)
   refine o_cc call_29 (args2 rfl rfl) ((Calls.mono hcall (fun e w'' h => And.intro h.1 (h.2.pull 1)))) ?_
   rintro e w' ⟨rfl, hS⟩
   refine ⟨_, rfl, ?_⟩
   refine p (v := .int .i64 q1o) (yl_assign rfl) <| x_done <| ?_
   have e_ := Option.some.inj (show some _ = some _ from hF); subst e_
   exact x_return ⟨_, ⟨_, _, rfl, rfl, rfl⟩, rfl, hS.drop⟩
attribute [irreducible] P_timing_Check


end Go.Proofs.YtlolchgeedegdaaDoor.X
