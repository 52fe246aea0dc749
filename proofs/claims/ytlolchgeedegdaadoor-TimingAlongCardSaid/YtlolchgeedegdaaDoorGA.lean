/- Printed by gen.py: plain functions, and that the Go code computes them. -/
import Derived.Test.YtlolchgeedegdaaDoorXI
import Derived.Test.YtlolchgeedegdaaDoorXT
import Derived.Test.YtlolchgeedegdaaDoorGAp0
import Derived.Test.YtlolchgeedegdaaDoorGAp1
import Derived.Test.YtlolchgeedegdaaDoorGAp2
import Derived.Test.YtlolchgeedegdaaDoorGAp3
namespace Go.Proofs.YtlolchgeedegdaaDoor.X
open Go Go.RowKit
set_option linter.unusedVariables false
set_option linter.unusedSimpArgs false

def P_timing_Path_L20 (j0 : T_timing_Job) (q5 : List T_timing_Arrival) (q6 : Int) : (Int × List T_timing_Step) → Option ((Int × List T_timing_Step) ⊕ List T_timing_Step) := fun (q2, q3) =>
 ck (inb q2 q5.length) <|
 lv (gt q5 q2) fun q7 =>
 lv (q3 ++ [(T_timing_Step.mk q2 q7.Late)]) fun q4 =>
 ck (apOk 16 q4.length) <|
 if q2 < q6 then
  some (Sum.inr q4)
 else
  ar (q2 - q6) fun x95 =>
  bd (P_timing_latest j0 q5 x95) fun q8 =>
  some (Sum.inl (q8, q4))
def P_timing_Path_L25 (q2 : List T_timing_Step) : (List T_timing_Step × Int) → Option ((List T_timing_Step × Int) ⊕ List T_timing_Step) := fun (q4, q3) =>
 if q3 < (q2.length : Int) then
  ar ((q2.length : Int) - 1) fun x106 =>
  ar (x106 - q3) fun x108 =>
  ck (inb x108 q2.length) <|
  lv (gt q2 x108) fun q6 =>
  lv (q4 ++ [q6]) fun q5 =>
  ck (apOk 16 q5.length) <|
  ar (q3 + 1) fun x113 =>
  some (Sum.inl (q5, x113))
 else
  some (Sum.inr q4)
def P_timing_Path (j0 : T_timing_Job) (start1 : Int) (e_2 : T_timing_End) : Option (List T_timing_Step × Int) :=
 bd (P_timing_Check j0) fun q7 =>
 if q7 ≠ 0 then
  some ([], q7)
 else
  bd (gd (!(decide (start1 < 0))) (P_timing_Starts (T_api_Netlist.mk j0.Net.In j0.Net.Out j0.Net.Flops j0.Net.Gates j0.Net.Outs))) fun q0c =>
  lv ((decide (start1 < 0)) || (decide (q0c ≤ start1))) fun x29 =>
  if x29 = true then
   some ([], (2 : Int))
  else
   bd (P_timing_isEnd (T_api_Netlist.mk j0.Net.In j0.Net.Out j0.Net.Flops j0.Net.Gates j0.Net.Outs) e_2) fun q0d =>
   if (!q0d) = true then
    some ([], (7 : Int))
   else
    bd (P_timing_from j0 ([start1] : List Int)) fun q6 =>
    bd (
     if e_2.Flop < 0 then
      ck (inb e_2.Input j0.Net.Outs.length) <|
      lv (gt j0.Net.Outs e_2.Input) fun x49 =>
      some x49
     else
      ck (inb e_2.Flop j0.Net.Flops.length) <|
      lv (gt j0.Net.Flops e_2.Flop) fun q8 =>
      bd (
       if e_2.Input = 1 then
        ck (inb e_2.Flop j0.Net.Flops.length) <|
        lv (gt j0.Net.Flops e_2.Flop) fun q9 =>
        some q9.En
       else
        some q8.D) fun q3 =>
      some q3) fun q2 =>
    ck (inb q2 q6.length) <|
    lv (gt q6 q2) fun q0a =>
    if (!q0a.Known) = true then
     some ([], (18 : Int))
    else
     bd (P_netlist_First (T_api_Netlist.mk j0.Net.In j0.Net.Out j0.Net.Flops j0.Net.Gates j0.Net.Outs)) fun q0b =>
     bd (
      lp (P_timing_Path_L20 j0 q6 q0b) fuel (q2, [])) fun q4 =>
     bd (
      lp (P_timing_Path_L25 q4) fuel ([], 0)) fun q5 =>
     some (q5, (0 : Int))
set_option maxHeartbeats 4000000 in
set_option maxRecDepth 100000 in
theorem c_timing_Path {w0 w : World} {l : List Assn} {ρ : Heap} {q7 : Option Addr} {q2b : Nat} {c_j0_0 : Nat} {q8 : Option Addr} {q2c : Nat} {c_j0_1 : Nat} {q9 : Option Addr} {q2d : Nat} {c_j0_2 : Nat} {q0a : Option Addr} {q2e : Nat} {c_j0_3 : Nat} {q0b : Option Addr} {q2f : Nat} {c_j0_4 : Nat} {q0m : Option Addr} {q2g : Nat} {c_j0_5 : Nat} {q0n : Option Addr} {q2h : Nat} {c_j0_6 : Nat} {q0o : Option Addr} {q2i : Nat} {c_j0_7 : Nat} {q0p : Option Addr} {q2j : Nat} {c_j0_8 : Nat} {q0q : Option Addr} {q2k : Nat} {c_j0_9 : Nat} {q0e : Option Addr} {q24 : Nat} {c_j0_10 : Nat} {q0f : Option Addr} {q25 : Nat} {c_j0_12 : Nat} {q0g : Option Addr} {q26 : Nat} {c_j0_13 : Nat} {q0h : Option Addr} {q27 : Nat} {c_j0_14 : Nat} {j0 : T_timing_Job} {start1 : Int} {e_2 : T_timing_End} {r : (List T_timing_Step × Int)} (hF : P_timing_Path j0 start1 e_2 = some r) (q14 : RdS RpS ρ q7 q2b c_j0_0 j0.Net.In) (q15 : RdS RpS ρ q8 q2c c_j0_1 j0.Net.Out) (q0c : RdS R_api_Flop ρ q9 q2d c_j0_2 j0.Net.Flops) (q16 : RdS R_api_Gate ρ q0a q2e c_j0_3 j0.Net.Gates) (q0r : RdS (RpI .i64) ρ q0b q2f c_j0_4 j0.Net.Outs) (q1s : RdS R_api_Cell ρ q0m q2g c_j0_5 j0.Lib) (q1t : RdS (RpSl R_tree_Window) ρ q0n q2h c_j0_6 j0.Delays.Gates) (q1u : RdS (RpSl R_tree_Window) ρ q0o q2i c_j0_7 j0.Delays.Data) (q1v : RdS R_tree_Window ρ q0p q2j c_j0_8 j0.Delays.Outs) (q1w : RdS R_tree_Window ρ q0q q2k c_j0_9 j0.Delays.Clock) (q1h : RdS R_tree_Window ρ q0e q24 c_j0_10 j0.Delays.Launch) (q1i : RdS R_clocks_Input ρ q0f q25 c_j0_12 j0.Limits.Inputs) (q1j : RdS R_clocks_Output ρ q0g q26 c_j0_13 j0.Limits.Outputs) (q1k : RdS R_clocks_Path ρ q0h q27 c_j0_14 j0.Limits.Paths) (hS : St w0 w (ro ρ :: l)) :
  Calls Tryd.prog 21 #[.agg #[.slice q7 q2b c_j0_0, .slice q8 q2c c_j0_1, .slice q9 q2d c_j0_2, .slice q0a q2e c_j0_3, .slice q0b q2f c_j0_4, .slice q0m q2g c_j0_5, .slice q0n q2h c_j0_6, .slice q0o q2i c_j0_7, .slice q0p q2j c_j0_8, .slice q0q q2k c_j0_9, .slice q0e q24 c_j0_10, .int .i64 j0.Limits.Period, .slice q0f q25 c_j0_12, .slice q0g q26 c_j0_13, .slice q0h q27 c_j0_14], .int .i64 start1, .agg #[.int .i64 e_2.Flop, .int .i64 e_2.Input, .bool e_2.Setup.Known, .int .i64 e_2.Setup.Value, .int .i64 e_2.Setup.From, .bool e_2.Hold.Known, .int .i64 e_2.Hold.Value, .int .i64 e_2.Hold.From]] w fun e w' => ∃ (q20 : Option Addr) (q1o : Nat) (c_y0_ret : Nat) (q1y : List Value), e = .returned (.tuple #[.slice q20 q1o c_y0_ret, .int .i64 r.2]) ∧ RepL R_timing_Step ρ r.1 q1y ∧ St w0 w' (vec 75 R_timing_Step.sz (.slice q20 q1o c_y0_ret) q1o q1y :: ro ρ :: l) := by
 have e_ := q14.n; subst e_
 have e_ := q15.n; subst e_
 have e_ := q0c.n; subst e_
 have e_ := q16.n; subst e_
 have e_ := q0r.n; subst e_
 have e_ := q1s.n; subst e_
 have e_ := q1t.n; subst e_
 have e_ := q1u.n; subst e_
 have e_ := q1v.n; subst e_
 have e_ := q1w.n; subst e_
 have e_ := q1h.n; subst e_
 have e_ := q1i.n; subst e_
 have e_ := q1j.n; subst e_
 have e_ := q1k.n; subst e_
 refine enterC Tryd.func21 rfl 115 rfl (by simp) ?_
 refine x_seq <| x_region <| ?_
 refine o_box (cs := [.slice q7 j0.Net.In.length c_j0_0, .slice q8 j0.Net.Out.length c_j0_1, .slice q9 j0.Net.Flops.length c_j0_2, .slice q0a j0.Net.Gates.length c_j0_3, .slice q0b j0.Net.Outs.length c_j0_4, .slice q0m j0.Lib.length c_j0_5, .slice q0n j0.Delays.Gates.length c_j0_6, .slice q0o j0.Delays.Data.length c_j0_7, .slice q0p j0.Delays.Outs.length c_j0_8, .slice q0q j0.Delays.Clock.length c_j0_9, .slice q0e j0.Delays.Launch.length c_j0_10, .int .i64 j0.Limits.Period, .slice q0f j0.Limits.Inputs.length c_j0_12, .slice q0g j0.Limits.Outputs.length c_j0_13, .slice q0h j0.Limits.Paths.length c_j0_14]) rfl rfl hS (fun b3 w' hS => ?_)
 refine o_box (cs := [.int .i64 e_2.Flop, .int .i64 e_2.Input, .bool e_2.Setup.Known, .int .i64 e_2.Setup.Value, .int .i64 e_2.Setup.From, .bool e_2.Hold.Known, .int .i64 e_2.Hold.Value, .int .i64 e_2.Hold.From]) rfl rfl hS (fun b5 w' hS => ?_)
 replace hF := bd_s hF; obtain ⟨q21, q3n, hF⟩ := hF
 refine p (yl_assign rfl) <| p (yl_assign rfl) <| x_done <| x_seq <|
  x_seq <| x_region <| pa (v := .agg #[.slice q7 j0.Net.In.length c_j0_0, .slice q8 j0.Net.Out.length c_j0_1, .slice q9 j0.Net.Flops.length c_j0_2, .slice q0a j0.Net.Gates.length c_j0_3, .slice q0b j0.Net.Outs.length c_j0_4, .slice q0m j0.Lib.length c_j0_5, .slice q0n j0.Delays.Gates.length c_j0_6, .slice q0o j0.Delays.Data.length c_j0_7, .slice q0p j0.Delays.Outs.length c_j0_8, .slice q0q j0.Delays.Clock.length c_j0_9, .slice q0e j0.Delays.Launch.length c_j0_10, .int .i64 j0.Limits.Period, .slice q0f j0.Limits.Inputs.length c_j0_12, .slice q0g j0.Limits.Outputs.length c_j0_13, .slice q0h j0.Limits.Paths.length c_j0_14]) (ld_sub agg_58 rfl rfl rfl (hS.pull 1)) <| ?_
 have hcall := c_timing_Check q3n q14 q15 q0c q16 q0r q1s q1t q1u q1v q1w q1h q1i q1j q1k (hS.pull 2)
 refine o_cc call_58 (args1 rfl) ((Calls.mono hcall (fun e w'' h => And.intro h.1 ((h.2.pull 2).pull 2)))) ?_
 rintro e w' ⟨rfl, hS⟩
 refine ⟨_, rfl, ?_⟩
 refine p (v := .int .i64 q21) (yl_assign rfl) <| x_done <| x_seq <| x_region <|
  p (v := .int .i64 q21) (yl_move rfl) <| p (yl_neq rfl rfl) <| x_done <|
  x_cond_p (q21 ≠ 0) rfl (fun hc19 => ?_) (fun hc19 => ?_)
 ·replace hF := it_t hc19 hF
  refine x_seq <| x_region <| p (v := .int .i64 q21) (yl_move rfl) <| p (yl_assign rfl) <|
   p (v := .int .i64 q21) (yl_assign rfl) <| x_done <| ?_
  replace hS := St.vec_nil hS 75 R_timing_Step.sz
  have q4 : RepL R_timing_Step ρ [] [] := rfl
  have e_ := Option.some.inj (show some _ = some _ from hF); subst e_
  exact x_return ⟨_, ⟨_, _, rfl, rfl, _, _, rfl, rfl, rfl⟩, none, 0, 0, [], rfl, q4, ((((hS.pull 1).drop.pull 1).drop.pull 1).pull 1)⟩
 ·replace hF := it_f hc19 hF
  replace hF := bd_s hF; obtain ⟨q35, q3o, hF⟩ := hF
  refine x_skip <| x_seq <| x_seq <| x_region <|
   p (yl_move rfl) <| p (yl_lss rfl rfl) <| p (yl_move rfl) <| pg (v := .int .i64 start1) 23 (c := !(decide (start1 < 0))) (says_f _) (fun hq => Yl.at (yl_move rfl)) <|
   pg (v := .pointer (some ⟨b3, 0, none⟩)) 23 (c := !(decide (start1 < 0))) (says_f _) (fun hq => Yl.at (yl_field0 fld_58_0 rfl)) <| pg (v := .agg #[.slice q7 j0.Net.In.length c_j0_0, .slice q8 j0.Net.Out.length c_j0_1, .slice q9 j0.Net.Flops.length c_j0_2, .slice q0a j0.Net.Gates.length c_j0_3, .slice q0b j0.Net.Outs.length c_j0_4]) 23 (c := !(decide (start1 < 0))) (says_f _) (fun hq => ld_sub agg_30 (cv hq) rfl rfl (hS.pull 1)) <|
   pccg (v := .int .i64 q35) 23 (c := !(decide (start1 < 0))) (says_f _) call_60 (fun hq => (args1 (cv hq))) hS (fun hq => by
    have hcall := c_timing_Starts (gd_t q3o hq) q14 q15 q0c q16 q0r (hS.pull 2)
    exact (Calls.mono hcall (fun e w'' h => And.intro h.1 ((h.2.pull 2).pull 2)))) (fun w' hS => ?_)
  replace hF := lv_s hF; obtain ⟨x29, hx29, hF⟩ := hF
  refine pg (v := .bool (decide (q35 ≤ start1))) 23 (c := !(decide (start1 < 0))) (says_f _) (fun hq => Yl.at (yl_geq (cv hq) (cv hq))) <| p (yor' rfl rfl (fun hc => (cv (t_not hc))) hx29) <| x_done <|
   x_cond (t := x29) rfl (fun hc29 => ?_) (fun hc29 => ?_)
  ·replace hF := it_t hc29 hF
   refine x_seq <| x_region <| p (yl_assign rfl) <| p (yl_assign rfl) <|
    x_done <| ?_
   replace hS := St.vec_nil hS 75 R_timing_Step.sz
   have q4 : RepL R_timing_Step ρ [] [] := rfl
   have e_ := Option.some.inj (show some _ = some _ from hF); subst e_
   exact x_return ⟨_, ⟨_, _, rfl, rfl, _, _, rfl, rfl, rfl⟩, none, 0, 0, [], rfl, q4, ((((hS.pull 1).drop.pull 1).drop.pull 1).pull 1)⟩
  ·replace hF := it_bf hc29 hF
   replace hF := bd_s hF; obtain ⟨q3v, q3p, hF⟩ := hF
   refine x_skip <| x_seq <| x_seq <| x_region <|
    p (yl_field0 fld_58_0 rfl) <| pa (v := .agg #[.slice q7 j0.Net.In.length c_j0_0, .slice q8 j0.Net.Out.length c_j0_1, .slice q9 j0.Net.Flops.length c_j0_2, .slice q0a j0.Net.Gates.length c_j0_3, .slice q0b j0.Net.Outs.length c_j0_4]) (ld_sub agg_30 rfl rfl rfl (hS.pull 1)) <| pa (v := .agg #[.int .i64 e_2.Flop, .int .i64 e_2.Input, .bool e_2.Setup.Known, .int .i64 e_2.Setup.Value, .int .i64 e_2.Setup.From, .bool e_2.Hold.Known, .int .i64 e_2.Hold.Value, .int .i64 e_2.Hold.From]) (ld_sub agg_67 rfl rfl rfl hS) <| ?_
   have hcall := c_timing_isEnd q3p q14 q15 q0c q16 q0r (hS.pull 2)
   refine o_cc call_64 (args2 rfl rfl) ((Calls.mono hcall (fun e w'' h => And.intro h.1 ((h.2.pull 2).pull 2)))) ?_
   rintro e w' ⟨rfl, hS⟩
   refine ⟨_, rfl, ?_⟩
   refine p (yl_not rfl) <| x_done <|
    x_cond (t := !q3v) rfl (fun hc34 => ?_) (fun hc34 => ?_)
   ·replace hF := it_t hc34 hF
    refine x_seq <| x_region <| p (yl_assign rfl) <| p (yl_assign rfl) <|
     x_done <| ?_
    replace hS := St.vec_nil hS 75 R_timing_Step.sz
    have q4 : RepL R_timing_Step ρ [] [] := rfl
    have e_ := Option.some.inj (show some _ = some _ from hF); subst e_
    exact x_return ⟨_, ⟨_, _, rfl, rfl, _, _, rfl, rfl, rfl⟩, none, 0, 0, [], rfl, q4, ((((hS.pull 1).drop.pull 1).drop.pull 1).pull 1)⟩
   ·replace hF := it_bf hc34 hF
    refine x_skip <| x_seq <| x_region <| pa (v := .agg #[.slice q7 j0.Net.In.length c_j0_0, .slice q8 j0.Net.Out.length c_j0_1, .slice q9 j0.Net.Flops.length c_j0_2, .slice q0a j0.Net.Gates.length c_j0_3, .slice q0b j0.Net.Outs.length c_j0_4, .slice q0m j0.Lib.length c_j0_5, .slice q0n j0.Delays.Gates.length c_j0_6, .slice q0o j0.Delays.Data.length c_j0_7, .slice q0p j0.Delays.Outs.length c_j0_8, .slice q0q j0.Delays.Clock.length c_j0_9, .slice q0e j0.Delays.Launch.length c_j0_10, .int .i64 j0.Limits.Period, .slice q0f j0.Limits.Inputs.length c_j0_12, .slice q0g j0.Limits.Outputs.length c_j0_13, .slice q0h j0.Limits.Paths.length c_j0_14]) (ld_sub agg_58 rfl rfl rfl (hS.pull 1)) <|
     p (yl_move rfl) <| ?_
    refine o_buildSlice (vs := [.int .i64 start1]) (cs := [.int .i64 start1]) sl_22 zero_3 (parts_eq (pt (va := .int .i64 start1) rfl pt0)) rfl (by intro v hv; simp only [List.mem_cons, List.not_mem_nil, or_false] at hv; first | (subst hv; rfl) | (rcases hv with rfl <;> rfl)) (by decide) rfl hS (fun b37 w' hS => ?_)
    have q3q : RepL (RpI .i64) ρ ([start1] : List Int) [.int .i64 start1] := (RepL.cons (cs := [.int .i64 start1]) rfl RepL.nil)
    replace hS := St.vec_of (n := 1) (sz := (RpI .i64).sz) hS rfl (by decide)
    replace hF := bd_s hF; obtain ⟨q17, q3r, hF⟩ := hF
    have q_ := St.lend ((hS.pull 3).pull 1) q3q; obtain ⟨ρl0, hll0, hlf0, hS0, back0⟩ := q_
    have hcall := c_timing_from q3r (q14.le hll0) (q15.le hll0) (q0c.le hll0) (q16.le hll0) (q0r.le hll0) (q1s.le hll0) (q1t.le hll0) (q1u.le hll0) (q1v.le hll0) (q1w.le hll0) (q1h.le hll0) (q1i.le hll0) (q1j.le hll0) (q1k.le hll0) hlf0 hS0
    refine o_cc call_61 (args2 rfl rfl) hcall ?_
    rintro e w' ⟨q6, q36, c_y0_ret_8_3, q0i, rfl, q3, hS⟩
    refine ⟨_, rfl, ?_⟩
    replace hS := back0 (hS.pull 1)
    replace q3 : RepL R_timing_Arrival ρ q17 q0i := RepL.flat (fun h => h) q3
    have e_ := St.vec_n (hS.pull 2) q3; subst e_
    refine p (yl_assign rfl) <| x_done <| x_seq <| x_region <|
     p (yl_field0 fld_58_0 rfl) <| p (yl_field0 fld_30_4 rfl) <| pa (at_load one_22 rfl ((hS.pull 4).cell rfl)) <| p (yl_assign rfl) <|
     x_done <| x_seq <| x_region <| p (yl_assign rfl) <|
     x_done <| x_seq <| x_seq <| x_region <|
     p (yl_field0 fld_67_0 rfl) <| pa (at_load one_3 rfl ((hS.pull 3).cell rfl)) <| p (yl_lss rfl rfl) <| x_done <| ?_
    replace hF := bd_s hF; obtain ⟨oc44, hFc44, hF⟩ := hF
    refine x_join (fun E w => ∃ (q12 : Int), q12 = oc44 ∧ E 3 = .pointer (some ⟨b3, 0, none⟩) ∧ E 9 = .slice q6 q17.length c_y0_ret_8_3 ∧ E 11 = .int .i64 q12 ∧ St w0 w (cells b3 58 [.slice q7 j0.Net.In.length c_j0_0, .slice q8 j0.Net.Out.length c_j0_1, .slice q9 j0.Net.Flops.length c_j0_2, .slice q0a j0.Net.Gates.length c_j0_3, .slice q0b j0.Net.Outs.length c_j0_4, .slice q0m j0.Lib.length c_j0_5, .slice q0n j0.Delays.Gates.length c_j0_6, .slice q0o j0.Delays.Data.length c_j0_7, .slice q0p j0.Delays.Outs.length c_j0_8, .slice q0q j0.Delays.Clock.length c_j0_9, .slice q0e j0.Delays.Launch.length c_j0_10, .int .i64 j0.Limits.Period, .slice q0f j0.Limits.Inputs.length c_j0_12, .slice q0g j0.Limits.Outputs.length c_j0_13, .slice q0h j0.Limits.Paths.length c_j0_14] :: vec 145 R_timing_Arrival.sz (.slice q6 q17.length c_y0_ret_8_3) q17.length q0i :: ro ρ :: l)) ?_ ?_
    ·refine x_cond_p (e_2.Flop < 0) rfl (fun hc44 => ?_) (fun hc44 => ?_)
     ·replace hFc44 := it_t hc44 hFc44
      replace hFc44 := ck_s hFc44; obtain ⟨q2l, hFc44⟩ := hFc44
      replace hFc44 := lv_s hFc44; obtain ⟨x49, hx49, hFc44⟩ := hFc44
      refine x_region <| p (yl_move rfl) <| p (yl_field0 fld_67_1 rfl) <| pa (at_load one_3 rfl ((hS.pull 3).cell rfl)) <|
       p (yix_f sl_22 rfl rfl q0r q2l) <| pa (at_load one_3 rfl (RdS.getW q0r (hS.pull 1) q2l hx49)) <| p (yl_assign rfl) <| x_done <| ?_
      exact x_inv ⟨x49, (Option.some.inj (show some _ = some _ from hFc44)), rfl, rfl, rfl, (((hS.drop.pull 2).drop.pull 1).pull 2)⟩
     ·replace hFc44 := it_f hc44 hFc44
      replace hFc44 := ck_s hFc44; obtain ⟨q2m, hFc44⟩ := hFc44
      replace hFc44 := lv_s hFc44; obtain ⟨q3s, q37, hFc44⟩ := hFc44
      have q_ := q0c.get q2m; obtain ⟨q3w, q2n, q38⟩ := q_
      rw [← q37] at q2n
      have e_ := q2n; subst e_
      refine x_seq <| x_region <| p (yl_field0 fld_58_0 rfl) <| p (yl_field0 fld_30_2 rfl) <|
       pa (at_load one_27 rfl ((hS.pull 4).cell rfl)) <| p (yl_field0 fld_67_0 rfl) <| pa (at_load one_3 rfl ((hS.pull 3).cell rfl)) <| p (yix_f sl_27 rfl rfl q0c q2m) <|
       p (yl_fieldAddr fld_135_2 rfl) <| pa (at_load one_3 rfl (Elt.ld (j := 2) q38 (hS.pull 1) rfl)) <| p (yl_assign rfl) <| x_done <|
       x_seq <| x_region <| p (yl_field0 fld_67_1 rfl) <| pa (at_load one_3 rfl ((hS.pull 3).cell rfl)) <|
       p (yl_eql rfl rfl) <| x_done <| ?_
      replace hFc44 := bd_s hFc44; obtain ⟨oc60, hFc60, hFc44⟩ := hFc44
      refine x_join (fun E w => ∃ (q13 : Int), q13 = oc60 ∧ E 3 = .pointer (some ⟨b3, 0, none⟩) ∧ E 9 = .slice q6 q17.length c_y0_ret_8_3 ∧ E 11 = .int .i64 q13 ∧ St w0 w (cells b3 58 [.slice q7 j0.Net.In.length c_j0_0, .slice q8 j0.Net.Out.length c_j0_1, .slice q9 j0.Net.Flops.length c_j0_2, .slice q0a j0.Net.Gates.length c_j0_3, .slice q0b j0.Net.Outs.length c_j0_4, .slice q0m j0.Lib.length c_j0_5, .slice q0n j0.Delays.Gates.length c_j0_6, .slice q0o j0.Delays.Data.length c_j0_7, .slice q0p j0.Delays.Outs.length c_j0_8, .slice q0q j0.Delays.Clock.length c_j0_9, .slice q0e j0.Delays.Launch.length c_j0_10, .int .i64 j0.Limits.Period, .slice q0f j0.Limits.Inputs.length c_j0_12, .slice q0g j0.Limits.Outputs.length c_j0_13, .slice q0h j0.Limits.Paths.length c_j0_14] :: vec 145 R_timing_Arrival.sz (.slice q6 q17.length c_y0_ret_8_3) q17.length q0i :: ro ρ :: l)) ?_ ?_
      ·refine x_cond_p (e_2.Input = 1) rfl (fun hc60 => ?_) (fun hc60 => ?_)
       ·replace hFc60 := it_t hc60 hFc60
        replace hFc60 := ck_s hFc60; obtain ⟨q2o, hFc60⟩ := hFc60
        replace hFc60 := lv_s hFc60; obtain ⟨q3t, q39, hFc60⟩ := hFc60
        have q_ := q0c.get q2o; obtain ⟨q3x, q2p, q3a⟩ := q_
        rw [← q39] at q2p
        have e_ := q2p; subst e_
        refine x_region <| p (yl_field0 fld_58_0 rfl) <| p (yl_field0 fld_30_2 rfl) <| pa (at_load one_27 rfl ((hS.pull 4).cell rfl)) <|
         p (yl_field0 fld_67_0 rfl) <| pa (at_load one_3 rfl ((hS.pull 3).cell rfl)) <| p (yix_f sl_27 rfl rfl q0c q2o) <| p (yl_fieldAddr fld_135_3 rfl) <|
         pa (at_load one_3 rfl (Elt.ld (j := 3) q3a (hS.pull 1) rfl)) <| p (yl_assign rfl) <| x_done <| ?_
        exact x_inv ⟨q3t.En, (Option.some.inj (show some _ = some _ from hFc60)), rfl, rfl, rfl, (((hS.drop.pull 2).drop.pull 1).pull 2)⟩
       ·replace hFc60 := it_f hc60 hFc60
        refine x_skip <| ?_
        exact x_inv ⟨q3s.D, (Option.some.inj (show some _ = some _ from hFc60)), rfl, rfl, rfl, (((hS.drop.pull 2).drop.pull 1).pull 2)⟩
      rintro E w ⟨q13, rfl, q3b, q3c, q31, hS⟩
      exact x_inv ⟨q13, (Option.some.inj (show some _ = some _ from hFc44)), q3b, q3c, q31, (((hS.pull 2).pull 2).pull 2)⟩
    rintro E w ⟨q12, rfl, q2q, q2r, q28, hS⟩
    replace hF := ck_s hF; obtain ⟨q2s, hF⟩ := hF
    replace hF := lv_s hF; obtain ⟨q3u, q3d, hF⟩ := hF
    have q_ := q3.get q2s; obtain ⟨q3y, q2t, q3e⟩ := q_
    rw [← q3d] at q2t
    have e_ := q2t; subst e_
    refine x_seq <| x_seq <| x_region <| p (yl_move q2r) <|
     p (yl_move q28) <| p (yix_o sl_140 rfl rfl (hS.pull 1) q3 q2s) <| p (yl_fieldAddr fld_145_0 rfl) <| pa (at_load one_4 rfl (EltV.ld (m := 0) q3e (hS.pull 1) rfl)) <|
     p (yl_not rfl) <| x_done <|
     x_cond (t := !q3u.Known) rfl (fun hc74 => ?_) (fun hc74 => ?_)
    ·replace hF := it_t hc74 hF
     refine x_seq <| x_region <| p (yl_assign rfl) <| p (yl_assign rfl) <|
      x_done <| ?_
     replace hS := St.vec_nil hS 75 R_timing_Step.sz
     have q4 : RepL R_timing_Step ρ [] [] := rfl
     have e_ := Option.some.inj (show some _ = some _ from hF); subst e_
     exact x_return ⟨_, ⟨_, _, rfl, rfl, _, _, rfl, rfl, rfl⟩, none, 0, 0, [], rfl, q4, ((((hS.pull 1).drop.pull 1).drop.pull 1).pull 1)⟩
    ·replace hF := it_bf hc74 hF
     replace hF := bd_s hF; obtain ⟨q1l, q3f, hF⟩ := hF
     refine x_skip <| x_seq <| x_region <| p (yl_assign rfl) <|
      x_done <| x_seq <| x_seq <| x_region <|
      p (yl_field0 fld_58_0 q2q) <| pa (v := .agg #[.slice q7 j0.Net.In.length c_j0_0, .slice q8 j0.Net.Out.length c_j0_1, .slice q9 j0.Net.Flops.length c_j0_2, .slice q0a j0.Net.Gates.length c_j0_3, .slice q0b j0.Net.Outs.length c_j0_4]) (ld_sub agg_30 rfl rfl rfl hS) <| ?_
     have hcall := c_netlist_First q3f q14 q15 q0c q16 q0r (hS.pull 2)
     refine o_cc call_22 (args1 rfl) ((Calls.mono hcall (fun e w'' h => And.intro h.1 ((h.2.pull 2).pull 2)))) ?_
     rintro e w' ⟨rfl, hS⟩
     refine ⟨_, rfl, ?_⟩
     refine p (v := .int .i64 q1l) (yl_assign rfl) <| x_done <| ?_
     replace hF := bd_s hF; obtain ⟨oL20, hLL20, hF⟩ := hF
     refine x_join (fun E w => ∃ (q0d : Option Addr) (q0s : Nat) (c_back12_L20 : Nat) (q0j : List Value) (q5 : List T_timing_Step), q5 = oL20 ∧ E 12 = .slice q0d q0s c_back12_L20 ∧ RepL R_timing_Step ρ q5 q0j ∧ St w0 w (vec 75 R_timing_Step.sz (.slice q0d q0s c_back12_L20) q0s q0j :: ro ρ :: l)) ?_ ?_
     ·refine x_block ?_
      replace hS := St.vec_nil hS 75 R_timing_Step.sz
      have q1g : RepL R_timing_Step ρ [] [] := rfl
      refine x_loop (fun k_ E w => ∃ (q11 : Option Addr) (q0k : Nat) (c_back12_L20h : Nat) (q0y : List Value) (q2 : Int) (q1b : List T_timing_Step), lp (P_timing_Path_L20 j0 q17 q1l) k_ (q2, q1b) = some oL20 ∧ E 3 = .pointer (some ⟨b3, 0, none⟩) ∧ E 9 = .slice q6 q17.length c_y0_ret_8_3 ∧ E 11 = .int .i64 q2 ∧ E 12 = .slice q11 q0k c_back12_L20h ∧ E 13 = .int .i64 q1l ∧ RepL R_timing_Step ρ q1b q0y ∧ St w0 w (cells b3 58 [.slice q7 j0.Net.In.length c_j0_0, .slice q8 j0.Net.Out.length c_j0_1, .slice q9 j0.Net.Flops.length c_j0_2, .slice q0a j0.Net.Gates.length c_j0_3, .slice q0b j0.Net.Outs.length c_j0_4, .slice q0m j0.Lib.length c_j0_5, .slice q0n j0.Delays.Gates.length c_j0_6, .slice q0o j0.Delays.Data.length c_j0_7, .slice q0p j0.Delays.Outs.length c_j0_8, .slice q0q j0.Delays.Clock.length c_j0_9, .slice q0e j0.Delays.Launch.length c_j0_10, .int .i64 j0.Limits.Period, .slice q0f j0.Limits.Inputs.length c_j0_12, .slice q0g j0.Limits.Outputs.length c_j0_13, .slice q0h j0.Limits.Paths.length c_j0_14] :: vec 145 R_timing_Arrival.sz (.slice q6 q17.length c_y0_ret_8_3) q17.length q0i :: vec 75 R_timing_Step.sz (.slice q11 q0k c_back12_L20h) q0k q0y :: ro ρ :: l)) fuel ⟨none, 0, 0, [], q12, [], hLL20, q2q, q2r, q28, rfl, rfl, q1g, ((((hS.pull 3).pull 1).pull 3).pull 3)⟩ ?_
      rintro kL20 E w ⟨q11, q0k, c_back12_L20h, q0y, q2, q1b, hLL20, q29, q1x, q1c, q2z, q1p, q1f, hS⟩
      have e_ := St.vec_n (hS.pull 2) q1f; subst e_
      replace hLL20 := lp_s hLL20; obtain ⟨kL20, obL20, rfl, hFL20, hLL20⟩ := hLL20
      replace hFL20 := ck_s hFL20; obtain ⟨q2u, hFL20⟩ := hFL20
      replace hFL20 := lv_s hFL20; obtain ⟨q1d, q3g, hFL20⟩ := hFL20
      have q_ := q3.get q2u; obtain ⟨q3z, q2v, q3h⟩ := q_
      rw [← q3g] at q2v
      have e_ := q2v; subst e_
      refine x_block <| x_seq <| x_region <| p (yl_move q2z) <|
       p (yl_move q1c) <| p (yl_move q1x) <| p (yl_move q1c) <| p (yix_o sl_140 rfl rfl (hS.pull 1) q3 q2u) <|
       p (yl_fieldAddr fld_145_2 rfl) <| pa (at_load one_3 rfl (EltV.ld (m := 2) q3h (hS.pull 1) rfl)) <| p (v := .agg #[.int .i64 q2, .int .i64 q1d.Late]) (yl_build bld_75 bldf_75 (parts_eq (pt (va := .int .i64 q2) rfl (pt (va := .int .i64 q1d.Late) rfl pt0))) (by kernel_rfl)) <| ?_
      refine o_buildSlice (vs := [.agg #[.int .i64 q2, .int .i64 q1d.Late]]) (cs := [.int .i64 q2, .int .i64 q1d.Late]) sl_71 zero_75 (parts_eq (pt (va := .agg #[.int .i64 q2, .int .i64 q1d.Late]) rfl pt0)) rfl (by intro v hv; simp only [List.mem_cons, List.not_mem_nil, or_false] at hv; first | (subst hv; rfl) | (rcases hv with rfl <;> rfl)) (by decide) rfl hS (fun b86 w' hS => ?_)
      replace hFL20 := lv_s hFL20; obtain ⟨q1z, q3i, hFL20⟩ := hFL20
      replace hFL20 := ck_s hFL20; obtain ⟨q3j, hFL20⟩ := hFL20
      refine o_ap sl_71 zero_75 rfl (by decide) rfl rfl (hS.pull 3) q1f (src_blk usl_71 hS rfl rfl) (RepL.cons (R := R_timing_Step) (ρ := ρ) (x := (T_timing_Step.mk q2 q1d.Late)) (cs := [.int .i64 q2, .int .i64 q1d.Late]) rfl RepL.nil) q3i q3j (fun A87 c87 cs87 w' hr87 hS => ?_)
      refine p (yl_assign rfl) <| x_done <| x_seq <| x_seq <|
       x_region <| p (yl_move q1c) <| p (v := .int .i64 q1l) (yl_move q1p) <| p (yl_lss rfl rfl) <|
       x_done <|
       x_cond_p (q2 < q1l) rfl (fun hc90 => ?_) (fun hc90 => ?_)
      ·replace hFL20 := it_t hc90 hFL20
       refine x_exitTo _ rfl <| ?_
       have e_ := Option.some.inj (show some _ = some _ from hFL20); subst e_
       exact x_inv ⟨A87, q1z.length, c87, cs87, q1z, hLL20, rfl, hr87, (((((hS.pull 1).drop.pull 1).drop.pull 1).drop.pull 1).pull 1)⟩
      ·replace hFL20 := it_f hc90 hFL20
       replace hFL20 := ar_s hFL20; obtain ⟨x95, hx95, hFL20⟩ := hFL20
       replace hFL20 := bd_s hFL20; obtain ⟨q30, q3k, hFL20⟩ := hFL20
       refine x_skip <| x_region <| pa (v := .agg #[.slice q7 j0.Net.In.length c_j0_0, .slice q8 j0.Net.Out.length c_j0_1, .slice q9 j0.Net.Flops.length c_j0_2, .slice q0a j0.Net.Gates.length c_j0_3, .slice q0b j0.Net.Outs.length c_j0_4, .slice q0m j0.Lib.length c_j0_5, .slice q0n j0.Delays.Gates.length c_j0_6, .slice q0o j0.Delays.Data.length c_j0_7, .slice q0p j0.Delays.Outs.length c_j0_8, .slice q0q j0.Delays.Clock.length c_j0_9, .slice q0e j0.Delays.Launch.length c_j0_10, .int .i64 j0.Limits.Period, .slice q0f j0.Limits.Inputs.length c_j0_12, .slice q0g j0.Limits.Outputs.length c_j0_13, .slice q0h j0.Limits.Paths.length c_j0_14]) (ld_sub agg_58 q29 rfl rfl (hS.pull 2)) <| p (yl_move q1x) <|
        p (yl_move q1c) <| p (v := .int .i64 q1l) (yl_move q1p) <| p (ysub rfl rfl hx95) <| ?_
       have q_ := St.lend ((hS.pull 4).pull 4) q3; obtain ⟨ρl0, hll0, hlf0, hS0, back0⟩ := q_
       have hcall := c_timing_latest q3k (q14.le hll0) (q15.le hll0) (q0c.le hll0) (q16.le hll0) (q0r.le hll0) (q1s.le hll0) (q1t.le hll0) (q1u.le hll0) (q1v.le hll0) (q1w.le hll0) (q1h.le hll0) (q1i.le hll0) (q1j.le hll0) (q1k.le hll0) hlf0 hS0
       refine o_cc call_65 (args3 rfl rfl rfl) ((Calls.mono hcall (fun e w'' h => And.intro h.1 ((((((back0 h.2).pull 1).pull 1).pull 4).pull 4).pull 4)))) ?_
       rintro e w' ⟨rfl, hS⟩
       refine ⟨_, rfl, ?_⟩
       refine p (v := .int .i64 q30) (yl_assign rfl) <| x_done <| x_blk <| ?_
       have e_ := Option.some.inj (show some _ = some _ from hFL20); subst e_
       exact x_inv ⟨kL20, Nat.lt_succ_self _, A87, q1z.length, c87, cs87, q30, q1z, hLL20, q29, q1x, rfl, rfl, q1p, hr87, (((((hS.pull 1).drop.pull 3).pull 1).pull 3).pull 3)⟩
     rintro E w ⟨q0d, q0s, c_back12_L20, q0j, q5, rfl, q2a, q18, hS⟩
     have e_ := St.vec_n hS q18; subst e_
     refine x_seq <| x_region <| p (yl_assign rfl) <| x_done <|
      x_seq <| x_seq <| x_region <| p (yl_move q2a) <|
      p (yl_len_slice usl_71 rfl) <| p (yl_move rfl) <| x_done <| ?_
     replace hF := bd_s hF; obtain ⟨oL25, hLL25, hF⟩ := hF
     refine x_join (fun E w => ∃ (q0z : Option Addr) (q10 : Nat) (c_out14_L25 : Nat) (q0t : List Value) (q1a : List T_timing_Step), q1a = oL25 ∧ E 14 = .slice q0z q10 c_out14_L25 ∧ RepL R_timing_Step ρ q1a q0t ∧ St w0 w (vec 75 R_timing_Step.sz (.slice q0z q10 c_out14_L25) q10 q0t :: ro ρ :: l)) ?_ ?_
     ·refine x_block ?_
      replace hS := St.vec_nil hS 75 R_timing_Step.sz
      have q1m : RepL R_timing_Step ρ [] [] := rfl
      refine x_loop (fun k_ E w => ∃ (q0u : Option Addr) (q0v : Nat) (c_out14_L25h : Nat) (q0l : List Value) (q0w : List T_timing_Step) (q1e : Int), lp (P_timing_Path_L25 q5) k_ (q0w, q1e) = some oL25 ∧ E 12 = .slice q0d q5.length c_back12_L20 ∧ E 14 = .slice q0u q0v c_out14_L25h ∧ E 98 = .int .i64 (q5.length : Int) ∧ E 99 = .int .i64 q1e ∧ RepL R_timing_Step ρ q0w q0l ∧ St w0 w (vec 75 R_timing_Step.sz (.slice q0d q5.length c_back12_L20) q5.length q0j :: vec 75 R_timing_Step.sz (.slice q0u q0v c_out14_L25h) q0v q0l :: ro ρ :: l)) fuel ⟨none, 0, 0, [], [], 0, hLL25, q2a, rfl, rfl, rfl, q1m, (((hS.pull 2).pull 1).pull 2)⟩ ?_
      rintro kL25 E w ⟨q0u, q0v, c_out14_L25h, q0l, q0w, q1e, hLL25, q1q, q22, q23, q1r, q19, hS⟩
      have e_ := St.vec_n (hS.pull 1) q19; subst e_
      replace hLL25 := lp_s hLL25; obtain ⟨kL25, obL25, rfl, hFL25, hLL25⟩ := hLL25
      refine x_seq <| x_region <| p (yl_lss q1r q23) <| x_done <|
       x_seq <|
       x_cond_p (q1e < (q5.length : Int)) rfl (fun hc100 => ?_) (fun hc100 => ?_)
      ·replace hFL25 := it_t hc100 hFL25
       replace hFL25 := ar_s hFL25; obtain ⟨x106, hx106, hFL25⟩ := hFL25
       replace hFL25 := ar_s hFL25; obtain ⟨x108, hx108, hFL25⟩ := hFL25
       replace hFL25 := ck_s hFL25; obtain ⟨q2w, hFL25⟩ := hFL25
       replace hFL25 := lv_s hFL25; obtain ⟨q0x, q3l, hFL25⟩ := hFL25
       have q_ := q18.get q2w; obtain ⟨q40, q2x, q3m⟩ := q_
       rw [← q3l] at q2x
       have e_ := q2x; subst e_
       refine x_skip <| x_seq <| x_block <| x_seq <|
        x_region <| p (yl_move q1r) <| p (yl_assign rfl) <| x_done <|
        x_region <| p (yl_move q22) <| p (yl_move q1q) <| p (yl_move q1q) <|
        p (yl_len_slice usl_71 rfl) <| p (ysub rfl rfl hx106) <| p (yl_move rfl) <| p (ysub rfl rfl hx108) <|
        p (yix_o sl_71 rfl rfl hS q18 q2w) <| pa (v := .agg #[.int .i64 q0x.Net, .int .i64 q0x.At]) (at_loadAgg agg_75 rfl rfl (EltV.every q3m hS)) <| ?_
       refine o_buildSlice (vs := [.agg #[.int .i64 q0x.Net, .int .i64 q0x.At]]) (cs := [.int .i64 q0x.Net, .int .i64 q0x.At]) sl_71 zero_75 (parts_eq (pt (va := .agg #[.int .i64 q0x.Net, .int .i64 q0x.At]) rfl pt0)) rfl (by intro v hv; simp only [List.mem_cons, List.not_mem_nil, or_false] at hv; first | (subst hv; rfl) | (rcases hv with rfl <;> rfl)) (by decide) rfl hS (fun b111 w' hS => ?_)
       replace hFL25 := lv_s hFL25; obtain ⟨q2y, q32, hFL25⟩ := hFL25
       replace hFL25 := ck_s hFL25; obtain ⟨q33, hFL25⟩ := hFL25
       refine o_ap sl_71 zero_75 rfl (by decide) rfl rfl (hS.pull 2) q19 (src_blk usl_71 hS rfl rfl) (RepL.cons (R := R_timing_Step) (ρ := ρ) (x := q0x) (cs := [.int .i64 q0x.Net, .int .i64 q0x.At]) rfl RepL.nil) q32 q33 (fun A112 c112 cs112 w' hr112 hS => ?_)
       replace hFL25 := ar_s hFL25; obtain ⟨x113, hx113, hFL25⟩ := hFL25
       refine p (yl_assign rfl) <| x_done <| x_blk <| x_region <|
        p (yadd q1r rfl hx113) <| p (yl_move rfl) <| x_done <| ?_
       have e_ := Option.some.inj (show some _ = some _ from hFL25); subst e_
       exact x_inv ⟨kL25, Nat.lt_succ_self _, A112, q2y.length, c112, cs112, q2y, x113, hLL25, q1q, rfl, q23, rfl, hr112, ((((hS.pull 1).drop.pull 2).pull 1).pull 2)⟩
      ·replace hFL25 := it_f hc100 hFL25
       refine x_exitTo _ rfl <| ?_
       have e_ := Option.some.inj (show some _ = some _ from hFL25); subst e_
       exact x_inv ⟨q0u, q0w.length, c_out14_L25h, q0l, q0w, hLL25, q22, q19, ((hS.drop.pull 1).pull 1)⟩
     rintro E w ⟨q0z, q10, c_out14_L25, q0t, q1a, rfl, q34, q1n, hS⟩
     have e_ := St.vec_n hS q1n; subst e_
     refine x_seq <| x_region <| p (yl_move q34) <| p (yl_assign rfl) <|
      p (yl_assign rfl) <| x_done <| ?_
     have e_ := Option.some.inj (show some _ = some _ from hF); subst e_
     exact x_return ⟨_, ⟨_, _, rfl, rfl, _, _, rfl, rfl, rfl⟩, q0z, q1a.length, c_out14_L25, q0t, rfl, q1n, ((hS.pull 1).pull 1)⟩
attribute [irreducible] P_timing_Path

def P_maskkeep4_TimingAlong_L21 (q8 : (T_timing_Job × Int)) (q4 : (List T_timing_Step × Int)) (x91 : Int) (q7 : T_api_Gate) (q5 : Int) : (Bool × Int) → Option ((Bool × Int) ⊕ Bool) := fun (q2, q3) =>
 if q3 < (q7.Ins.length : Int) then
  ck (inb q3 q7.Ins.length) <|
  lv (gt q7.Ins q3) fun x114 =>
  ck ((!q2) = true → I64 (q5 - 1)) <|
  lv (q5 - 1) fun x120 =>
  ck ((!q2) = true → inb x120 q4.1.length) <|
  ck (((!q2) && (decide (x114 = ((gt q4.1 x120).Net)))) = true → inb q5 q4.1.length) <|
  ck (((!q2) && (decide (x114 = ((gt q4.1 x120).Net)))) = true → I64 (q5 - 1)) <|
  lv (q5 - 1) fun x133 =>
  ck (((!q2) && (decide (x114 = ((gt q4.1 x120).Net)))) = true → inb x133 q4.1.length) <|
  ck (((!q2) && (decide (x114 = ((gt q4.1 x120).Net)))) = true → inb x91 q8.1.Delays.Gates.length) <|
  lv (gt q8.1.Delays.Gates x91) fun q6 =>
  ck (((!q2) && (decide (x114 = ((gt q4.1 x120).Net)))) = true → inb q3 q6.length) <|
  ck (((!q2) && (decide (x114 = ((gt q4.1 x120).Net)))) = true → I64 (((gt q4.1 x133).At) + ((gt q6 q3).Hi))) <|
  lv (((gt q4.1 x133).At) + ((gt q6 q3).Hi)) fun x147 =>
  lv ((decide (x114 = ((gt q4.1 x120).Net))) && (decide (((gt q4.1 q5).At) = x147))) fun x149 =>
  lv (q2 || x149) fun x150 =>
  ar (q3 + 1) fun x151 =>
  some (Sum.inl (x150, x151))
 else
  some (Sum.inr q2)
def P_maskkeep4_TimingAlong_L14 (q3 : (T_timing_Job × Int)) (q4 : (List T_timing_Step × Int)) (q6 : Int) : Int → Option (Int ⊕ (Unit ⊕ Bool)) := fun q2 =>
 if q2 < (q4.1.length : Int) then
  ck (inb q2 q4.1.length) <|
  lv (gt q4.1 q2) fun q7 =>
  ar (q7.Net - q6) fun x91 =>
  lv ((decide (x91 < 0)) || (decide ((q3.1.Net.Gates.length : Int) ≤ x91))) fun x101 =>
  if x101 = true then
   some (Sum.inr (Sum.inr false))
  else
   ck (inb x91 q3.1.Net.Gates.length) <|
   lv (gt q3.1.Net.Gates x91) fun q8 =>
   bd (
    lp (P_maskkeep4_TimingAlong_L21 q3 q4 x91 q8 q2) fuel (false, 0)) fun q5 =>
   if (!q5) = true then
    some (Sum.inr (Sum.inr false))
   else
    ar (q2 + 1) fun x84 =>
    some (Sum.inl x84)
 else
  some (Sum.inr (Sum.inl ()))
def P_maskkeep4_TimingAlong (l_0 : List Int) (q8 : Int) : Option Bool :=
 bd (P_maskkeep4_job (T_maskmake_Stream.mk l_0 0) true) fun q2 =>
 bd (P_timing_Report q2.1) fun q3 =>
 bd (P_maskkeep4_times) fun q9 =>
 lv ((!q9) || (decide (q3.2 ≠ 0))) fun x32 =>
 lv (x32 || (decide ((q3.1.length : Int) = 0))) fun x37 =>
 if x37 = true then
  some false
 else
  bd (P_maskmake_Below q8 (q3.1.length : Int)) fun q6 =>
  ck (inb q6 q3.1.length) <|
  lv (gt q3.1 q6) fun q4 =>
  if (!q4.Setup.Known) = true then
   some true
  else
   bd (P_timing_Path q2.1 q4.Setup.From q4) fun q5 =>
   lv ((decide (q5.2 ≠ 0)) || (decide ((q5.1.length : Int) = 0))) fun x64 =>
   ck ((!x64) = true → inb 0 q5.1.length) <|
   ck ((!x64) = true → I64 ((2 : Int) + q4.Setup.From)) <|
   lv ((2 : Int) + q4.Setup.From) fun x73 =>
   lv (x64 || (decide (((gt q5.1 (0 : Int)).Net) ≠ x73))) fun x75 =>
   if x75 = true then
    some false
   else
    bd (P_netlist_First (T_api_Netlist.mk q2.1.Net.In q2.1.Net.Out q2.1.Net.Flops q2.1.Net.Gates q2.1.Net.Outs)) fun q7 =>
    bs (
     lp (P_maskkeep4_TimingAlong_L14 q2 q5 q7) fuel 1) (fun y => some y) fun _ =>
    some true
set_option maxHeartbeats 4000000 in
set_option maxRecDepth 100000 in
theorem c_maskkeep4_TimingAlong {w0 w : World} {l : List Assn} {ρ : Heap} {q1l : Option Addr} {q2e : Nat} {c_l_0 : Nat} {l_0 : List Int} {q37 : Int} {r : Bool} (hF : P_maskkeep4_TimingAlong l_0 q37 = some r) (q2f : RdS (RpI .i64) ρ q1l q2e c_l_0 l_0) (hS : St w0 w (ro ρ :: l)) :
  Calls Tryd.prog 6 #[.slice q1l q2e c_l_0, .int .i64 q37] w fun e w' => e = .returned (.bool r) ∧ St w0 w' (ro ρ :: l) := by
 have e_ := q2f.n; subst e_
 refine enterC Tryd.func6 rfl 154 rfl (by simp) ?_
 refine x_seq <| x_region <| p (yl_assign rfl) <| x_done <|
  x_seq <| x_region <| p (yl_move rfl) <| p (v := .agg #[.slice q1l l_0.length c_l_0, .int .i64 0]) (yl_build bld_25 bldf_25 (parts_eq (pt (va := .slice q1l l_0.length c_l_0) rfl pt0)) (by kernel_rfl)) <| ?_
 refine o_box (cs := [.slice q1l l_0.length c_l_0, .int .i64 0]) rfl rfl hS (fun b19 w' hS => ?_)
 replace hF := bd_s hF; obtain ⟨q2, q3j, hF⟩ := hF
 refine p (yl_assign rfl) <| x_done <| x_seq <| x_region <|
  p (yl_move rfl) <| ?_
 have hcall := c_maskkeep4_job q3j q2f ((hS.pull 1).pull 1)
 refine o_cc call_17 (args2 rfl rfl) hcall ?_
 rintro e w' ⟨q1f, q0h, q2m, c_y0_ret_0_2_1, q0i, q2n, c_y0_ret_1_2_1, q0j, q2o, c_y0_ret_2_2_1, q0f, q2p, c_y0_ret_3_2_1, q0k, q2q, c_y0_ret_4_2_1, q0m, q2r, c_y0_ret_5_2_1, q6, q2s, c_y0_ret_6_2_1, q10, q0c, q2t, c_y0_ret_7_2_1, q11, q0d, q2u, c_y0_ret_8_2_1, q12, q0e, q2v, c_y0_ret_9_2_1, q13, q8, q2g, c_y0_ret_10_2_1, q0w, q9, q2h, c_y0_ret_12_2_1, q0x, q0a, q2i, c_y0_ret_13_2_1, q0y, q0b, q2j, c_y0_ret_14_2_1, q0z, rfl, q1g, q0r, q0s, q0t, q0n, q0u, q18, q0o, q19, q1a, q1b, q14, q15, q16, q17, hS⟩
 refine ⟨_, rfl, ?_⟩
 have e_ := q0r.n; subst e_
 have e_ := q0s.n; subst e_
 have e_ := q0t.n; subst e_
 have e_ := q0n.n; subst e_
 have e_ := q0u.n; subst e_
 have e_ := q18.n; subst e_
 have e_ := St.vec_n hS q0o; subst e_
 have e_ := St.vec_n (hS.pull 1) q19; subst e_
 have e_ := St.vec_n (hS.pull 2) q1a; subst e_
 have e_ := St.vec_n (hS.pull 3) q1b; subst e_
 have e_ := St.vec_n (hS.pull 4) q14; subst e_
 have e_ := St.vec_n (hS.pull 5) q15; subst e_
 have e_ := St.vec_n (hS.pull 6) q16; subst e_
 have e_ := St.vec_n (hS.pull 7) q17; subst e_
 refine o_alloc zero_58 hS (fun b6 w' hS => ?_)
 refine o_storeAgg (news := [.slice q0h q2.1.Net.In.length c_y0_ret_0_2_1, .slice q0i q2.1.Net.Out.length c_y0_ret_1_2_1, .slice q0j q2.1.Net.Flops.length c_y0_ret_2_2_1, .slice q0f q2.1.Net.Gates.length c_y0_ret_3_2_1, .slice q0k q2.1.Net.Outs.length c_y0_ret_4_2_1, .slice q0m q2.1.Lib.length c_y0_ret_5_2_1, .slice q6 q2.1.Delays.Gates.length c_y0_ret_6_2_1, .slice q0c q2.1.Delays.Data.length c_y0_ret_7_2_1, .slice q0d q2.1.Delays.Outs.length c_y0_ret_8_2_1, .slice q0e q2.1.Delays.Clock.length c_y0_ret_9_2_1, .slice q8 q2.1.Delays.Launch.length c_y0_ret_10_2_1, .int .i64 q2.1.Limits.Period, .slice q9 q2.1.Limits.Inputs.length c_y0_ret_12_2_1, .slice q0a q2.1.Limits.Outputs.length c_y0_ret_13_2_1, .slice q0b q2.1.Limits.Paths.length c_y0_ret_14_2_1]) agg_58 rfl rfl rfl (by simp [over_length]) hS (fun w' hS => ?_)
 replace hF := bd_s hF; obtain ⟨q1m, q3k, hF⟩ := hF
 refine x_done <| x_seq <| x_region <| pa (v := .agg #[.slice q0h q2.1.Net.In.length c_y0_ret_0_2_1, .slice q0i q2.1.Net.Out.length c_y0_ret_1_2_1, .slice q0j q2.1.Net.Flops.length c_y0_ret_2_2_1, .slice q0f q2.1.Net.Gates.length c_y0_ret_3_2_1, .slice q0k q2.1.Net.Outs.length c_y0_ret_4_2_1, .slice q0m q2.1.Lib.length c_y0_ret_5_2_1, .slice q6 q2.1.Delays.Gates.length c_y0_ret_6_2_1, .slice q0c q2.1.Delays.Data.length c_y0_ret_7_2_1, .slice q0d q2.1.Delays.Outs.length c_y0_ret_8_2_1, .slice q0e q2.1.Delays.Clock.length c_y0_ret_9_2_1, .slice q8 q2.1.Delays.Launch.length c_y0_ret_10_2_1, .int .i64 q2.1.Limits.Period, .slice q9 q2.1.Limits.Inputs.length c_y0_ret_12_2_1, .slice q0a q2.1.Limits.Outputs.length c_y0_ret_13_2_1, .slice q0b q2.1.Limits.Paths.length c_y0_ret_14_2_1]) (ld_sub agg_58 rfl rfl rfl hS) <| ?_
 have q_ := St.lend ((hS.pull 10).pull 2) q0o; obtain ⟨ρl0, hll0, hlf0, hS0, back0⟩ := q_
 have q_ := St.lend (hS0.pull 2) (q19.le hll0); obtain ⟨ρl1, hll1, hlf1, hS1, back1⟩ := q_
 have q_ := St.lend (hS1.pull 2) (q1a.le (hll0.trans hll1)); obtain ⟨ρl2, hll2, hlf2, hS2, back2⟩ := q_
 have q_ := St.lend (hS2.pull 2) (q1b.le ((hll0.trans hll1).trans hll2)); obtain ⟨ρl3, hll3, hlf3, hS3, back3⟩ := q_
 have q_ := St.lend (hS3.pull 2) (q14.le (((hll0.trans hll1).trans hll2).trans hll3)); obtain ⟨ρl4, hll4, hlf4, hS4, back4⟩ := q_
 have q_ := St.lend (hS4.pull 2) (q15.le ((((hll0.trans hll1).trans hll2).trans hll3).trans hll4)); obtain ⟨ρl5, hll5, hlf5, hS5, back5⟩ := q_
 have q_ := St.lend (hS5.pull 2) (q16.le (((((hll0.trans hll1).trans hll2).trans hll3).trans hll4).trans hll5)); obtain ⟨ρl6, hll6, hlf6, hS6, back6⟩ := q_
 have q_ := St.lend (hS6.pull 2) (q17.le ((((((hll0.trans hll1).trans hll2).trans hll3).trans hll4).trans hll5).trans hll6)); obtain ⟨ρl7, hll7, hlf7, hS7, back7⟩ := q_
 have hcall := c_timing_Report q3k (q0r.le (((((((hll0.trans hll1).trans hll2).trans hll3).trans hll4).trans hll5).trans hll6).trans hll7)) (q0s.le (((((((hll0.trans hll1).trans hll2).trans hll3).trans hll4).trans hll5).trans hll6).trans hll7)) (q0t.le (((((((hll0.trans hll1).trans hll2).trans hll3).trans hll4).trans hll5).trans hll6).trans hll7)) (q0n.le (((((((hll0.trans hll1).trans hll2).trans hll3).trans hll4).trans hll5).trans hll6).trans hll7)) (q0u.le (((((((hll0.trans hll1).trans hll2).trans hll3).trans hll4).trans hll5).trans hll6).trans hll7)) (q18.le (((((((hll0.trans hll1).trans hll2).trans hll3).trans hll4).trans hll5).trans hll6).trans hll7)) (hlf0.le ((((((hll1.trans hll2).trans hll3).trans hll4).trans hll5).trans hll6).trans hll7)) (hlf1.le (((((hll2.trans hll3).trans hll4).trans hll5).trans hll6).trans hll7)) (hlf2.le ((((hll3.trans hll4).trans hll5).trans hll6).trans hll7)) (hlf3.le (((hll4.trans hll5).trans hll6).trans hll7)) (hlf4.le ((hll5.trans hll6).trans hll7)) (hlf5.le (hll6.trans hll7)) (hlf6.le hll7) hlf7 hS7
 refine o_cc call_19 (args1 rfl) hcall ?_
 rintro e w' ⟨q1u, q38, c_y0_ret_3_1, q1s, rfl, q0q, hS⟩
 refine ⟨_, rfl, ?_⟩
 replace hS := back7 (hS.pull 1)
 replace hS := back6 (hS.pull 1)
 replace hS := back5 (hS.pull 1)
 replace hS := back4 (hS.pull 1)
 replace hS := back3 (hS.pull 1)
 replace hS := back2 (hS.pull 1)
 replace hS := back1 (hS.pull 1)
 replace hS := back0 (hS.pull 1)
 replace q0q : RepL R_timing_End q1f q1m.1 q1s := RepL.flat (fun h => h) q0q
 have e_ := St.vec_n (hS.pull 9) q0q; subst e_
 replace hF := bd_s hF; obtain ⟨q39, q3l, hF⟩ := hF
 refine p (yl_move rfl) <| p (yl_extract rfl rfl) <| p (yl_extract rfl rfl) <| p (yl_assign rfl) <|
  p (yl_assign rfl) <| x_done <| x_seq <| x_seq <|
  x_region <| ?_
 have hcall := c_maskkeep4_times q3l  (hS.pull 1)
 refine o_cc call_20 args0 ((Calls.mono hcall (fun e w'' h => And.intro h.1 ((((((((((((h.2.pull 11).pull 11).pull 11).pull 11).pull 11).pull 11).pull 11).pull 11).pull 11).pull 11).pull 10).pull 11)))) ?_
 rintro e w' ⟨rfl, hS⟩
 refine ⟨_, rfl, ?_⟩
 replace hF := lv_s hF; obtain ⟨x32, hx32, hF⟩ := hF
 replace hF := lv_s hF; obtain ⟨x37, hx37, hF⟩ := hF
 refine p (yl_not rfl) <| p (yl_move rfl) <| pg (v := .int .i64 q1m.2) 29 (c := !(!q39)) (says_f _) (fun hq => Yl.at (yl_move rfl)) <| pg (v := .bool (decide (q1m.2 ≠ 0))) 29 (c := !(!q39)) (says_f _) (fun hq => Yl.at (yl_neq (cv hq) rfl)) <|
  p (yor' rfl rfl (fun hc => (cv (t_not hc))) hx32) <| p (yl_move rfl) <| pg (v := .slice q1u q1m.1.length c_y0_ret_3_1) 33 (c := !x32) (says_f _) (fun hq => Yl.at (yl_move rfl)) <| pg (v := .int .i64 (q1m.1.length : Int)) 33 (c := !x32) (says_f _) (fun hq => Yl.at (yl_len_slice usl_61 (cv hq))) <|
  pg (v := .bool (decide ((q1m.1.length : Int) = 0))) 33 (c := !x32) (says_f _) (fun hq => Yl.at (yl_eql (cv hq) rfl)) <| p (yor' rfl rfl (fun hc => (cv (t_not hc))) hx37) <| x_done <|
  x_cond (t := x37) rfl (fun hc37 => ?_) (fun hc37 => ?_)
 ·replace hF := it_t hc37 hF
  refine x_seq <| x_region <| p (yl_assign rfl) <| x_done <| ?_
  have e_ := Option.some.inj (show some _ = some _ from hF); subst e_
  exact x_return ⟨_, ⟨_, _, rfl, rfl, rfl⟩, rfl, (ro_back0 q1g (((((((((((hS.drop.pull 1).drop.pull 1).drop.pull 1).drop.pull 1).drop.pull 1).drop.pull 1).drop.pull 1).drop.pull 1).drop.pull 1).drop.pull 1).drop))⟩
 ·replace hF := it_bf hc37 hF
  replace hF := bd_s hF; obtain ⟨q3x, q3m, hF⟩ := hF
  refine x_skip <| x_seq <| x_region <| p (yl_move rfl) <|
   p (yl_move rfl) <| p (yl_move rfl) <| p (yl_len_slice usl_61 rfl) <| ?_
  have hcall := c_maskmake_Below q3m  (hS.pull 1)
  refine o_cc call_18 (args2 rfl rfl) ((Calls.mono hcall (fun e w'' h => And.intro h.1 ((((((((((((h.2.pull 11).pull 11).pull 11).pull 11).pull 11).pull 11).pull 11).pull 11).pull 11).pull 11).pull 10).pull 11)))) ?_
  rintro e w' ⟨rfl, hS⟩
  refine ⟨_, rfl, ?_⟩
  replace hF := ck_s hF; obtain ⟨q2k, hF⟩ := hF
  replace hF := lv_s hF; obtain ⟨q0l, q3n, hF⟩ := hF
  have q_ := q0q.get q2k; obtain ⟨q3v, q2l, q3o⟩ := q_
  rw [← q3n] at q2l
  have e_ := q2l; subst e_
  refine p (yix_o sl_61 rfl rfl (hS.pull 9) q0q q2k) <| pa (v := .agg #[.int .i64 q0l.Flop, .int .i64 q0l.Input, .bool q0l.Setup.Known, .int .i64 q0l.Setup.Value, .int .i64 q0l.Setup.From, .bool q0l.Hold.Known, .int .i64 q0l.Hold.Value, .int .i64 q0l.Hold.From]) (at_loadAgg agg_67 rfl rfl (EltV.every q3o (hS.pull 9))) <| ?_
  refine o_alloc zero_67 hS (fun b9 w' hS => ?_)
  refine o_storeAgg (news := [.int .i64 q0l.Flop, .int .i64 q0l.Input, .bool q0l.Setup.Known, .int .i64 q0l.Setup.Value, .int .i64 q0l.Setup.From, .bool q0l.Hold.Known, .int .i64 q0l.Hold.Value, .int .i64 q0l.Hold.From]) agg_67 rfl rfl rfl (by simp [over_length]) hS (fun w' hS => ?_)
  refine x_done <| x_seq <| x_seq <| x_region <|
   p (yl_field0 fld_67_2 rfl) <| p (yl_fieldN fld_65_0 rfl) <| pa (at_load one_4 rfl (hS.cell rfl)) <| p (yl_not rfl) <|
   x_done <|
   x_cond (t := !q0l.Setup.Known) rfl (fun hc48 => ?_) (fun hc48 => ?_)
  ·replace hF := it_t hc48 hF
   refine x_seq <| x_region <| p (yl_assign rfl) <| x_done <| ?_
   have e_ := Option.some.inj (show some _ = some _ from hF); subst e_
   exact x_return ⟨_, ⟨_, _, rfl, rfl, rfl⟩, rfl, (ro_back0 q1g (((((((((((hS.drop.drop.pull 1).drop.pull 1).drop.pull 1).drop.pull 1).drop.pull 1).drop.pull 1).drop.pull 1).drop.pull 1).drop.pull 1).drop.pull 1).drop))⟩
  ·replace hF := it_bf hc48 hF
   replace hF := bd_s hF; obtain ⟨q5, q3p, hF⟩ := hF
   refine x_skip <| x_seq <| x_region <| pa (v := .agg #[.slice q0h q2.1.Net.In.length c_y0_ret_0_2_1, .slice q0i q2.1.Net.Out.length c_y0_ret_1_2_1, .slice q0j q2.1.Net.Flops.length c_y0_ret_2_2_1, .slice q0f q2.1.Net.Gates.length c_y0_ret_3_2_1, .slice q0k q2.1.Net.Outs.length c_y0_ret_4_2_1, .slice q0m q2.1.Lib.length c_y0_ret_5_2_1, .slice q6 q2.1.Delays.Gates.length c_y0_ret_6_2_1, .slice q0c q2.1.Delays.Data.length c_y0_ret_7_2_1, .slice q0d q2.1.Delays.Outs.length c_y0_ret_8_2_1, .slice q0e q2.1.Delays.Clock.length c_y0_ret_9_2_1, .slice q8 q2.1.Delays.Launch.length c_y0_ret_10_2_1, .int .i64 q2.1.Limits.Period, .slice q9 q2.1.Limits.Inputs.length c_y0_ret_12_2_1, .slice q0a q2.1.Limits.Outputs.length c_y0_ret_13_2_1, .slice q0b q2.1.Limits.Paths.length c_y0_ret_14_2_1]) (ld_sub agg_58 rfl rfl rfl (hS.pull 11)) <|
    p (yl_field0 fld_67_2 rfl) <| p (yl_fieldN fld_65_2 rfl) <| pa (at_load one_3 rfl (hS.cell rfl)) <| pa (v := .agg #[.int .i64 q0l.Flop, .int .i64 q0l.Input, .bool q0l.Setup.Known, .int .i64 q0l.Setup.Value, .int .i64 q0l.Setup.From, .bool q0l.Hold.Known, .int .i64 q0l.Hold.Value, .int .i64 q0l.Hold.From]) (ld_sub agg_67 rfl rfl rfl hS) <| ?_
   have q_ := St.lend ((hS.pull 2).pull 2) q0o; obtain ⟨ρl0, hll0, hlf0, hS0, back0⟩ := q_
   have q_ := St.lend (hS0.pull 2) (q19.le hll0); obtain ⟨ρl1, hll1, hlf1, hS1, back1⟩ := q_
   have q_ := St.lend (hS1.pull 2) (q1a.le (hll0.trans hll1)); obtain ⟨ρl2, hll2, hlf2, hS2, back2⟩ := q_
   have q_ := St.lend (hS2.pull 2) (q1b.le ((hll0.trans hll1).trans hll2)); obtain ⟨ρl3, hll3, hlf3, hS3, back3⟩ := q_
   have q_ := St.lend (hS3.pull 2) (q14.le (((hll0.trans hll1).trans hll2).trans hll3)); obtain ⟨ρl4, hll4, hlf4, hS4, back4⟩ := q_
   have q_ := St.lend (hS4.pull 2) (q15.le ((((hll0.trans hll1).trans hll2).trans hll3).trans hll4)); obtain ⟨ρl5, hll5, hlf5, hS5, back5⟩ := q_
   have q_ := St.lend (hS5.pull 2) (q16.le (((((hll0.trans hll1).trans hll2).trans hll3).trans hll4).trans hll5)); obtain ⟨ρl6, hll6, hlf6, hS6, back6⟩ := q_
   have q_ := St.lend (hS6.pull 2) (q17.le ((((((hll0.trans hll1).trans hll2).trans hll3).trans hll4).trans hll5).trans hll6)); obtain ⟨ρl7, hll7, hlf7, hS7, back7⟩ := q_
   have hcall := c_timing_Path q3p (q0r.le (((((((hll0.trans hll1).trans hll2).trans hll3).trans hll4).trans hll5).trans hll6).trans hll7)) (q0s.le (((((((hll0.trans hll1).trans hll2).trans hll3).trans hll4).trans hll5).trans hll6).trans hll7)) (q0t.le (((((((hll0.trans hll1).trans hll2).trans hll3).trans hll4).trans hll5).trans hll6).trans hll7)) (q0n.le (((((((hll0.trans hll1).trans hll2).trans hll3).trans hll4).trans hll5).trans hll6).trans hll7)) (q0u.le (((((((hll0.trans hll1).trans hll2).trans hll3).trans hll4).trans hll5).trans hll6).trans hll7)) (q18.le (((((((hll0.trans hll1).trans hll2).trans hll3).trans hll4).trans hll5).trans hll6).trans hll7)) (hlf0.le ((((((hll1.trans hll2).trans hll3).trans hll4).trans hll5).trans hll6).trans hll7)) (hlf1.le (((((hll2.trans hll3).trans hll4).trans hll5).trans hll6).trans hll7)) (hlf2.le ((((hll3.trans hll4).trans hll5).trans hll6).trans hll7)) (hlf3.le (((hll4.trans hll5).trans hll6).trans hll7)) (hlf4.le ((hll5.trans hll6).trans hll7)) (hlf5.le (hll6.trans hll7)) (hlf6.le hll7) hlf7 hS7
   refine o_cc call_21 (args3 rfl rfl rfl) hcall ?_
   rintro e w' ⟨q4, q3a, c_y0_ret_9_5, q0v, rfl, q7, hS⟩
   refine ⟨_, rfl, ?_⟩
   replace hS := back7 (hS.pull 1)
   replace hS := back6 (hS.pull 1)
   replace hS := back5 (hS.pull 1)
   replace hS := back4 (hS.pull 1)
   replace hS := back3 (hS.pull 1)
   replace hS := back2 (hS.pull 1)
   replace hS := back1 (hS.pull 1)
   replace hS := back0 (hS.pull 1)
   replace q7 : RepL R_timing_Step q1f q5.1 q0v := RepL.flat (fun h => h) q7
   have e_ := St.vec_n (hS.pull 9) q7; subst e_
   replace hF := lv_s hF; obtain ⟨x64, hx64, hF⟩ := hF
   replace hF := ck_s hF; obtain ⟨q26, hF⟩ := hF
   replace hF := ck_s hF; obtain ⟨q2w, hF⟩ := hF
   replace hF := lv_s hF; obtain ⟨x73, hx73, hF⟩ := hF
   replace hF := lv_s hF; obtain ⟨x75, hx75, hF⟩ := hF
   refine p (yl_move rfl) <| p (yl_extract rfl rfl) <| p (yl_extract rfl rfl) <| p (yl_assign rfl) <|
    p (yl_assign rfl) <| x_done <| x_seq <| x_seq <|
    x_still mixed (by kernel_rfl) hS <| q (yl_move rfl) <| q (yl_neq rfl rfl) <| q (yl_move rfl) <|
    qg (v := .slice q4 q5.1.length c_y0_ret_9_5) 60 (c := !(decide (q5.2 ≠ 0))) (says_f _) (fun hq w' hS => Yl.at (yl_move rfl)) <| qg (v := .int .i64 (q5.1.length : Int)) 60 (c := !(decide (q5.2 ≠ 0))) (says_f _) (fun hq w' hS => Yl.at (yl_len_slice usl_71 (cv hq))) <| qg (v := .bool (decide ((q5.1.length : Int) = 0))) 60 (c := !(decide (q5.2 ≠ 0))) (says_f _) (fun hq w' hS => Yl.at (yl_eql (cv hq) rfl)) <| q (yor' rfl rfl (fun hc => (cv (t_not hc))) hx64) <|
    q (yl_move rfl) <| qg (v := .slice q4 q5.1.length c_y0_ret_9_5) 65 (c := !x64) (says_f _) (fun hq w' hS => Yl.at (yl_move rfl)) <| qg (v := .pointer (some ((adr q4).add ((0 : Int).toNat * R_timing_Step.sz)))) 65 (c := !x64) (says_f _) (fun hq w' hS => Yl.at (yix_o sl_71 (cv hq) rfl (hS.pull 9) q7 (q26 hq))) <| qg (v := .pointer (some (((adr q4).add ((0 : Int).toNat * R_timing_Step.sz)).add 0))) 65 (c := !x64) (says_f _) (fun hq w' hS => Yl.at (yl_fieldAddr fld_75_0 (cv hq))) <|
    qg (v := .int .i64 ((gt q5.1 (0 : Int)).Net)) 65 (c := !x64) (says_f _) (fun hq w' hS => (by obtain ⟨el, ek, ee⟩ := q7.get (q26 hq); obtain rfl := ek; exact at_load one_3 (cv hq) (EltV.ld (m := 0) ee (hS.pull 9) rfl))) <| qg (v := .pointer (some ⟨b9, 2, none⟩)) 65 (c := !x64) (says_f _) (fun hq w' hS => Yl.at (yl_field0 fld_67_2 rfl)) <| qg (v := .pointer (some ⟨b9, 4, none⟩)) 65 (c := !x64) (says_f _) (fun hq w' hS => Yl.at (yl_fieldN fld_65_2 (cv hq))) <| qg (v := .int .i64 q0l.Setup.From) 65 (c := !x64) (says_f _) (fun hq w' hS => at_load one_3 (cv hq) ((hS.pull 10).cell rfl)) <|
    qg (v := .int .i64 x73) 65 (c := !x64) (says_f _) (fun hq w' hS => Yl.at (yadd rfl (cv hq) ⟨hx73, (q2w hq)⟩)) <| qg (v := .bool (decide (((gt q5.1 (0 : Int)).Net) ≠ x73))) 65 (c := !x64) (says_f _) (fun hq w' hS => Yl.at (yl_neq (cv hq) (cv hq))) <| q (yor' rfl rfl (fun hc => (cv (t_not hc))) hx75) <|
    q_done fun w' hS => ?_
   refine x_cond (t := x75) rfl (fun hc75 => ?_) (fun hc75 => ?_)
   ·replace hF := it_t hc75 hF
    refine x_seq <| x_region <| p (yl_assign rfl) <| x_done <| ?_
    have e_ := Option.some.inj (show some _ = some _ from hF); subst e_
    exact x_return ⟨_, ⟨_, _, rfl, rfl, rfl⟩, rfl, (ro_back0 q1g (((((((((((((hS.drop.pull 1).drop.pull 1).drop.pull 1).drop.pull 1).drop.pull 1).drop.pull 1).drop.pull 1).drop.pull 1).drop.pull 1).drop.pull 1).drop.pull 1).drop.pull 1).drop))⟩
   ·replace hF := it_bf hc75 hF
    replace hF := bd_s hF; obtain ⟨q1i, q3b, hF⟩ := hF
    refine x_skip <| x_seq <| x_region <| p (yl_field0 fld_58_0 rfl) <|
     pa (v := .agg #[.slice q0h q2.1.Net.In.length c_y0_ret_0_2_1, .slice q0i q2.1.Net.Out.length c_y0_ret_1_2_1, .slice q0j q2.1.Net.Flops.length c_y0_ret_2_2_1, .slice q0f q2.1.Net.Gates.length c_y0_ret_3_2_1, .slice q0k q2.1.Net.Outs.length c_y0_ret_4_2_1]) (ld_sub agg_30 rfl rfl rfl (hS.pull 12)) <| ?_
    have hcall := c_netlist_First q3b q0r q0s q0t q0n q0u (hS.pull 1)
    refine o_cc call_22 (args1 rfl) ((Calls.mono hcall (fun e w'' h => And.intro h.1 ((((((((((((((h.2.pull 13).pull 13).pull 13).pull 13).pull 13).pull 13).pull 13).pull 13).pull 13).pull 13).pull 13).pull 13).pull 12).pull 13)))) ?_
    rintro e w' ⟨rfl, hS⟩
    refine ⟨_, rfl, ?_⟩
    refine p (v := .int .i64 q1i) (yl_assign rfl) <| x_done <| x_seq <| x_seq <|
     x_region <| p (yl_assign rfl) <| x_done <| ?_
    replace hF := bs_s hF; obtain ⟨oL14, hLL14, hF⟩ := hF
    refine x_join (fun E w => (Sum.inl (())) = oL14 ∧ St w0 w (ro q1f :: l)) ?_ ?_
    ·refine x_block ?_
     refine x_loop (fun k_ E w => ∃ (q0g : Int), lp (P_maskkeep4_TimingAlong_L14 q2 q5 q1i) k_ q0g = some oL14 ∧ E 6 = .pointer (some ⟨b6, 0, none⟩) ∧ E 10 = .slice q4 q5.1.length c_y0_ret_9_5 ∧ E 11 = .int .i64 q1i ∧ E 12 = .int .i64 q0g ∧ St w0 w (cells b6 58 [.slice q0h q2.1.Net.In.length c_y0_ret_0_2_1, .slice q0i q2.1.Net.Out.length c_y0_ret_1_2_1, .slice q0j q2.1.Net.Flops.length c_y0_ret_2_2_1, .slice q0f q2.1.Net.Gates.length c_y0_ret_3_2_1, .slice q0k q2.1.Net.Outs.length c_y0_ret_4_2_1, .slice q0m q2.1.Lib.length c_y0_ret_5_2_1, .slice q6 q2.1.Delays.Gates.length c_y0_ret_6_2_1, .slice q0c q2.1.Delays.Data.length c_y0_ret_7_2_1, .slice q0d q2.1.Delays.Outs.length c_y0_ret_8_2_1, .slice q0e q2.1.Delays.Clock.length c_y0_ret_9_2_1, .slice q8 q2.1.Delays.Launch.length c_y0_ret_10_2_1, .int .i64 q2.1.Limits.Period, .slice q9 q2.1.Limits.Inputs.length c_y0_ret_12_2_1, .slice q0a q2.1.Limits.Outputs.length c_y0_ret_13_2_1, .slice q0b q2.1.Limits.Paths.length c_y0_ret_14_2_1] :: vec 75 R_timing_Step.sz (.slice q4 q5.1.length c_y0_ret_9_5) q5.1.length q0v :: vec 49 (RpSl R_tree_Window).sz (.slice q6 q2.1.Delays.Gates.length c_y0_ret_6_2_1) q2.1.Delays.Gates.length q10 :: vec 49 (RpSl R_tree_Window).sz (.slice q0c q2.1.Delays.Data.length c_y0_ret_7_2_1) q2.1.Delays.Data.length q11 :: vec 70 R_tree_Window.sz (.slice q0d q2.1.Delays.Outs.length c_y0_ret_8_2_1) q2.1.Delays.Outs.length q12 :: vec 70 R_tree_Window.sz (.slice q0e q2.1.Delays.Clock.length c_y0_ret_9_2_1) q2.1.Delays.Clock.length q13 :: vec 70 R_tree_Window.sz (.slice q8 q2.1.Delays.Launch.length c_y0_ret_10_2_1) q2.1.Delays.Launch.length q0w :: vec 156 R_clocks_Input.sz (.slice q9 q2.1.Limits.Inputs.length c_y0_ret_12_2_1) q2.1.Limits.Inputs.length q0x :: vec 158 R_clocks_Output.sz (.slice q0a q2.1.Limits.Outputs.length c_y0_ret_13_2_1) q2.1.Limits.Outputs.length q0y :: vec 160 R_clocks_Path.sz (.slice q0b q2.1.Limits.Paths.length c_y0_ret_14_2_1) q2.1.Limits.Paths.length q0z :: ro q1f :: l)) fuel ⟨1, hLL14, rfl, rfl, rfl, rfl, ((((((((((((((hS.pull 10).drop.pull 10).drop.pull 11).drop.pull 1).pull 8).pull 8).pull 8).pull 8).pull 8).pull 8).pull 8).pull 8).pull 9).pull 10)⟩ ?_
     rintro kL14 E w ⟨q0g, hLL14, q1n, q1j, q1v, q1k, hS⟩
     replace hLL14 := lp_s hLL14; obtain ⟨kL14, obL14, rfl, hFL14, hLL14⟩ := hLL14
     refine x_seq <| x_seq <| x_region <| p (yl_move q1k) <|
      p (yl_move q1j) <| p (yl_len_slice usl_71 rfl) <| p (yl_lss rfl rfl) <| x_done <|
      x_cond_p (q0g < (q5.1.length : Int)) rfl (fun hc82 => ?_) (fun hc82 => ?_)
     ·replace hFL14 := it_t hc82 hFL14
      replace hFL14 := ck_s hFL14; obtain ⟨q27, hFL14⟩ := hFL14
      replace hFL14 := lv_s hFL14; obtain ⟨q3w, q3c, hFL14⟩ := hFL14
      have q_ := q7.get q27; obtain ⟨q3s, q28, q3d⟩ := q_
      rw [← q3c] at q28
      have e_ := q28; subst e_
      replace hFL14 := ar_s hFL14; obtain ⟨x91, hx91, hFL14⟩ := hFL14
      replace hFL14 := lv_s hFL14; obtain ⟨x101, hx101, hFL14⟩ := hFL14
      refine x_skip <| x_seq <| x_block <| x_seq <|
       x_region <| p (yl_move q1j) <| p (yl_move q1k) <| p (yix_o sl_71 rfl rfl (hS.pull 1) q7 q27) <|
       p (yl_fieldAddr fld_75_0 rfl) <| pa (at_load one_3 rfl (EltV.ld (m := 0) q3d (hS.pull 1) rfl)) <| p (v := .int .i64 q1i) (yl_move q1v) <| p (ysub rfl rfl hx91) <|
       p (yl_assign rfl) <| x_done <| x_seq <| x_seq <|
       x_region <| p (yl_move rfl) <| p (yl_lss rfl rfl) <| p (yl_move rfl) <|
       pg (v := .int .i64 x91) 94 (c := !(decide (x91 < 0))) (says_f _) (fun hq => Yl.at (yl_move rfl)) <| pg (v := .pointer (some ⟨b6, 0, none⟩)) 94 (c := !(decide (x91 < 0))) (says_f _) (fun hq => Yl.at (yl_field0 fld_58_0 q1n)) <| pg (v := .pointer (some ⟨b6, 3, none⟩)) 94 (c := !(decide (x91 < 0))) (says_f _) (fun hq => Yl.at (yl_field0 fld_30_3 (cv hq))) <| pg (v := .slice q0f q2.1.Net.Gates.length c_y0_ret_3_2_1) 94 (c := !(decide (x91 < 0))) (says_f _) (fun hq => at_load one_28 (cv hq) (hS.cell rfl)) <|
       pg (v := .int .i64 (q2.1.Net.Gates.length : Int)) 94 (c := !(decide (x91 < 0))) (says_f _) (fun hq => Yl.at (yl_len_slice usl_28 (cv hq))) <| pg (v := .bool (decide ((q2.1.Net.Gates.length : Int) ≤ x91))) 94 (c := !(decide (x91 < 0))) (says_f _) (fun hq => Yl.at (yl_geq (cv hq) (cv hq))) <| p (yor' rfl rfl (fun hc => (cv (t_not hc))) hx101) <| x_done <|
       x_cond (t := x101) rfl (fun hc101 => ?_) (fun hc101 => ?_)
      ·replace hFL14 := it_t hc101 hFL14
       refine x_seq <| x_region <| p (yl_assign rfl) <| x_done <| ?_
       have e_ := Option.some.inj (show some _ = some _ from hFL14); subst e_
       have e_ := (show _ = oL14 from hLL14); subst e_
       have e_ := Option.some.inj (show some _ = some _ from hF); subst e_
       exact x_return ⟨_, ⟨_, _, rfl, rfl, rfl⟩, rfl, (ro_back0 q1g hS.drop.drop.drop.drop.drop.drop.drop.drop.drop.drop)⟩
      ·replace hFL14 := it_bf hc101 hFL14
       replace hFL14 := ck_s hFL14; obtain ⟨q29, hFL14⟩ := hFL14
       replace hFL14 := lv_s hFL14; obtain ⟨q1t, q3e, hFL14⟩ := hFL14
       have q_ := q0n.get q29; obtain ⟨q3t, q2a, q3f⟩ := q_
       rw [← q3e] at q2a
       obtain ⟨q2x, q3q, q2y, rfl, q1o⟩ := q2a
       have e_ := q1o.n; subst e_
       refine x_skip <| x_seq <| x_region <| p (yl_assign rfl) <|
        x_done <| x_seq <| x_seq <| x_region <|
        p (yl_field0 fld_58_0 q1n) <| p (yl_field0 fld_30_3 rfl) <| pa (at_load one_28 rfl (hS.cell rfl)) <| p (yl_move rfl) <|
        p (yix_f sl_28 rfl rfl q0n q29) <| p (yl_fieldAddr fld_38_2 rfl) <| pa (at_load one_22 rfl (Elt.ld (j := 2) q3f (hS.pull 10) rfl)) <| p (yl_len_slice usl_22 rfl) <|
        p (yl_move rfl) <| x_done <| ?_
       replace hFL14 := bd_s hFL14; obtain ⟨oL21, hLL21, hFL14⟩ := hFL14
       refine x_join (fun E w => ∃ (q1h : Bool), q1h = oL21 ∧ E 6 = .pointer (some ⟨b6, 0, none⟩) ∧ E 10 = .slice q4 q5.1.length c_y0_ret_9_5 ∧ E 11 = .int .i64 q1i ∧ E 12 = .int .i64 q0g ∧ E 14 = .bool q1h ∧ St w0 w (cells b6 58 [.slice q0h q2.1.Net.In.length c_y0_ret_0_2_1, .slice q0i q2.1.Net.Out.length c_y0_ret_1_2_1, .slice q0j q2.1.Net.Flops.length c_y0_ret_2_2_1, .slice q0f q2.1.Net.Gates.length c_y0_ret_3_2_1, .slice q0k q2.1.Net.Outs.length c_y0_ret_4_2_1, .slice q0m q2.1.Lib.length c_y0_ret_5_2_1, .slice q6 q2.1.Delays.Gates.length c_y0_ret_6_2_1, .slice q0c q2.1.Delays.Data.length c_y0_ret_7_2_1, .slice q0d q2.1.Delays.Outs.length c_y0_ret_8_2_1, .slice q0e q2.1.Delays.Clock.length c_y0_ret_9_2_1, .slice q8 q2.1.Delays.Launch.length c_y0_ret_10_2_1, .int .i64 q2.1.Limits.Period, .slice q9 q2.1.Limits.Inputs.length c_y0_ret_12_2_1, .slice q0a q2.1.Limits.Outputs.length c_y0_ret_13_2_1, .slice q0b q2.1.Limits.Paths.length c_y0_ret_14_2_1] :: vec 75 R_timing_Step.sz (.slice q4 q5.1.length c_y0_ret_9_5) q5.1.length q0v :: vec 49 (RpSl R_tree_Window).sz (.slice q6 q2.1.Delays.Gates.length c_y0_ret_6_2_1) q2.1.Delays.Gates.length q10 :: vec 49 (RpSl R_tree_Window).sz (.slice q0c q2.1.Delays.Data.length c_y0_ret_7_2_1) q2.1.Delays.Data.length q11 :: vec 70 R_tree_Window.sz (.slice q0d q2.1.Delays.Outs.length c_y0_ret_8_2_1) q2.1.Delays.Outs.length q12 :: vec 70 R_tree_Window.sz (.slice q0e q2.1.Delays.Clock.length c_y0_ret_9_2_1) q2.1.Delays.Clock.length q13 :: vec 70 R_tree_Window.sz (.slice q8 q2.1.Delays.Launch.length c_y0_ret_10_2_1) q2.1.Delays.Launch.length q0w :: vec 156 R_clocks_Input.sz (.slice q9 q2.1.Limits.Inputs.length c_y0_ret_12_2_1) q2.1.Limits.Inputs.length q0x :: vec 158 R_clocks_Output.sz (.slice q0a q2.1.Limits.Outputs.length c_y0_ret_13_2_1) q2.1.Limits.Outputs.length q0y :: vec 160 R_clocks_Path.sz (.slice q0b q2.1.Limits.Paths.length c_y0_ret_14_2_1) q2.1.Limits.Paths.length q0z :: ro q1f :: l)) ?_ ?_
       ·refine x_block ?_
        refine x_loop (fun k_ E w => ∃ (q3 : Bool) (q0p : Int), lp (P_maskkeep4_TimingAlong_L21 q2 q5 x91 q1t q0g) k_ (q3, q0p) = some oL21 ∧ E 6 = .pointer (some ⟨b6, 0, none⟩) ∧ E 10 = .slice q4 q5.1.length c_y0_ret_9_5 ∧ E 11 = .int .i64 q1i ∧ E 12 = .int .i64 q0g ∧ E 13 = .int .i64 x91 ∧ E 14 = .bool q3 ∧ E 108 = .slice q2x q1t.Ins.length q2y ∧ E 109 = .int .i64 (q1t.Ins.length : Int) ∧ E 110 = .int .i64 q0p ∧ St w0 w (cells b6 58 [.slice q0h q2.1.Net.In.length c_y0_ret_0_2_1, .slice q0i q2.1.Net.Out.length c_y0_ret_1_2_1, .slice q0j q2.1.Net.Flops.length c_y0_ret_2_2_1, .slice q0f q2.1.Net.Gates.length c_y0_ret_3_2_1, .slice q0k q2.1.Net.Outs.length c_y0_ret_4_2_1, .slice q0m q2.1.Lib.length c_y0_ret_5_2_1, .slice q6 q2.1.Delays.Gates.length c_y0_ret_6_2_1, .slice q0c q2.1.Delays.Data.length c_y0_ret_7_2_1, .slice q0d q2.1.Delays.Outs.length c_y0_ret_8_2_1, .slice q0e q2.1.Delays.Clock.length c_y0_ret_9_2_1, .slice q8 q2.1.Delays.Launch.length c_y0_ret_10_2_1, .int .i64 q2.1.Limits.Period, .slice q9 q2.1.Limits.Inputs.length c_y0_ret_12_2_1, .slice q0a q2.1.Limits.Outputs.length c_y0_ret_13_2_1, .slice q0b q2.1.Limits.Paths.length c_y0_ret_14_2_1] :: vec 75 R_timing_Step.sz (.slice q4 q5.1.length c_y0_ret_9_5) q5.1.length q0v :: vec 49 (RpSl R_tree_Window).sz (.slice q6 q2.1.Delays.Gates.length c_y0_ret_6_2_1) q2.1.Delays.Gates.length q10 :: vec 49 (RpSl R_tree_Window).sz (.slice q0c q2.1.Delays.Data.length c_y0_ret_7_2_1) q2.1.Delays.Data.length q11 :: vec 70 R_tree_Window.sz (.slice q0d q2.1.Delays.Outs.length c_y0_ret_8_2_1) q2.1.Delays.Outs.length q12 :: vec 70 R_tree_Window.sz (.slice q0e q2.1.Delays.Clock.length c_y0_ret_9_2_1) q2.1.Delays.Clock.length q13 :: vec 70 R_tree_Window.sz (.slice q8 q2.1.Delays.Launch.length c_y0_ret_10_2_1) q2.1.Delays.Launch.length q0w :: vec 156 R_clocks_Input.sz (.slice q9 q2.1.Limits.Inputs.length c_y0_ret_12_2_1) q2.1.Limits.Inputs.length q0x :: vec 158 R_clocks_Output.sz (.slice q0a q2.1.Limits.Outputs.length c_y0_ret_13_2_1) q2.1.Limits.Outputs.length q0y :: vec 160 R_clocks_Path.sz (.slice q0b q2.1.Limits.Paths.length c_y0_ret_14_2_1) q2.1.Limits.Paths.length q0z :: ro q1f :: l)) fuel ⟨false, 0, hLL21, q1n, q1j, q1v, q1k, rfl, rfl, rfl, rfl, rfl, (((((((((((hS.pull 10).pull 10).pull 10).pull 10).pull 10).pull 10).pull 10).pull 10).pull 10).pull 10).pull 10)⟩ ?_
        rintro kL21 E w ⟨q3, q0p, hLL21, q1p, q1c, q1w, q1d, q1x, q1y, q1q, q1r, q1e, hS⟩
        replace hLL21 := lp_s hLL21; obtain ⟨kL21, obL21, rfl, hFL21, hLL21⟩ := hLL21
        refine x_seq <| x_region <| p (yl_lss q1e q1r) <| x_done <|
         x_seq <|
         x_cond_p (q0p < (q1t.Ins.length : Int)) rfl (fun hc111 => ?_) (fun hc111 => ?_)
        ·replace hFL21 := it_t hc111 hFL21
         replace hFL21 := ck_s hFL21; obtain ⟨q2b, hFL21⟩ := hFL21
         replace hFL21 := lv_s hFL21; obtain ⟨x114, hx114, hFL21⟩ := hFL21
         replace hFL21 := ck_s hFL21; obtain ⟨q3g, hFL21⟩ := hFL21
         replace hFL21 := lv_s hFL21; obtain ⟨x120, hx120, hFL21⟩ := hFL21
         replace hFL21 := ck_s hFL21; obtain ⟨q2c, hFL21⟩ := hFL21
         replace hFL21 := ck_s hFL21; obtain ⟨q21, hFL21⟩ := hFL21
         replace hFL21 := ck_s hFL21; obtain ⟨q2z, hFL21⟩ := hFL21
         replace hFL21 := lv_s hFL21; obtain ⟨x133, hx133, hFL21⟩ := hFL21
         replace hFL21 := ck_s hFL21; obtain ⟨q22, hFL21⟩ := hFL21
         replace hFL21 := ck_s hFL21; obtain ⟨q23, hFL21⟩ := hFL21
         replace hFL21 := lv_s hFL21; obtain ⟨q2d, q30, hFL21⟩ := hFL21
         have q_ := RepL.getD sl_d q0o x91; obtain ⟨q3r, q24, q31⟩ := q_
         rw [← q30] at q24
         obtain ⟨q1z, q3u, q3h, rfl, q20⟩ := q24
         have e_ := q20.n; subst e_
         replace hFL21 := ck_s hFL21; obtain ⟨q25, hFL21⟩ := hFL21
         replace hFL21 := ck_s hFL21; obtain ⟨q32, hFL21⟩ := hFL21
         replace hFL21 := lv_s hFL21; obtain ⟨x147, hx147, hFL21⟩ := hFL21
         replace hFL21 := lv_s hFL21; obtain ⟨x149, hx149, hFL21⟩ := hFL21
         replace hFL21 := lv_s hFL21; obtain ⟨x150, hx150, hFL21⟩ := hFL21
         refine x_skip <| x_seq <| x_block <| x_seq <|
          x_region <| p (yl_move q1e) <| p (yix_f sl_22 q1q q1e q1o q2b) <| pa (at_load one_3 rfl (RdS.getW q1o (hS.pull 10) q2b hx114)) <|
          p (yl_assign rfl) <| p (yl_assign rfl) <| x_done <| x_still mixed (by kernel_rfl) hS <|
          q (yl_move q1y) <| q (yl_move rfl) <| qg (v := .int .i64 x114) 116 (c := !q3) (says_f _) (fun hq w' hS => Yl.at (yl_move rfl)) <| qg (v := .slice q4 q5.1.length c_y0_ret_9_5) 116 (c := !q3) (says_f _) (fun hq w' hS => Yl.at (yl_move q1c)) <|
          qg (v := .int .i64 q0g) 116 (c := !q3) (says_f _) (fun hq w' hS => Yl.at (yl_move q1d)) <| qg (v := .int .i64 x120) 116 (c := !q3) (says_f _) (fun hq w' hS => Yl.at (ysub (cv hq) rfl ⟨hx120, (q3g hq)⟩)) <| qg (v := .pointer (some ((adr q4).add (x120.toNat * R_timing_Step.sz)))) 116 (c := !q3) (says_f _) (fun hq w' hS => Yl.at (yix_o sl_71 (cv hq) (cv hq) (hS.pull 1) q7 (q2c hq))) <| qg (v := .pointer (some (((adr q4).add (x120.toNat * R_timing_Step.sz)).add 0))) 116 (c := !q3) (says_f _) (fun hq w' hS => Yl.at (yl_fieldAddr fld_75_0 (cv hq))) <|
          qg (v := .int .i64 ((gt q5.1 x120).Net)) 116 (c := !q3) (says_f _) (fun hq w' hS => (by obtain ⟨el, ek, ee⟩ := q7.get (q2c hq); obtain rfl := ek; exact at_load one_3 (cv hq) (EltV.ld (m := 0) ee (hS.pull 1) rfl))) <| qg (v := .bool (decide (x114 = ((gt q5.1 x120).Net)))) 116 (c := !q3) (says_f _) (fun hq w' hS => Yl.at (yl_eql (cv hq) (cv hq))) <| qg (v := .bool (decide (x114 = ((gt q5.1 x120).Net)))) 116 (c := !q3) (says_f _) (fun hq w' hS => Yl.at (yl_move (cv hq))) <| qg (v := .slice q4 q5.1.length c_y0_ret_9_5) 125 (c := (!q3) && (decide (x114 = ((gt q5.1 x120).Net)))) (says_ift _ _) (fun hq w' hS => Yl.at (yl_move q1c)) <|
          qg (v := .int .i64 q0g) 125 (c := (!q3) && (decide (x114 = ((gt q5.1 x120).Net)))) (says_ift _ _) (fun hq w' hS => Yl.at (yl_move q1d)) <| qg (v := .pointer (some ((adr q4).add (q0g.toNat * R_timing_Step.sz)))) 125 (c := (!q3) && (decide (x114 = ((gt q5.1 x120).Net)))) (says_ift _ _) (fun hq w' hS => Yl.at (yix_o sl_71 (cv hq) (cv hq) (hS.pull 1) q7 (q21 hq))) <| qg (v := .pointer (some (((adr q4).add (q0g.toNat * R_timing_Step.sz)).add 1))) 125 (c := (!q3) && (decide (x114 = ((gt q5.1 x120).Net)))) (says_ift _ _) (fun hq w' hS => Yl.at (yl_fieldAddr fld_75_1 (cv hq))) <| qg (v := .int .i64 ((gt q5.1 q0g).At)) 125 (c := (!q3) && (decide (x114 = ((gt q5.1 x120).Net)))) (says_ift _ _) (fun hq w' hS => (by obtain ⟨el, ek, ee⟩ := q7.get (q21 hq); obtain rfl := ek; exact at_load one_3 (cv hq) (EltV.ld (m := 1) ee (hS.pull 1) rfl))) <|
          qg (v := .slice q4 q5.1.length c_y0_ret_9_5) 125 (c := (!q3) && (decide (x114 = ((gt q5.1 x120).Net)))) (says_ift _ _) (fun hq w' hS => Yl.at (yl_move q1c)) <| qg (v := .int .i64 q0g) 125 (c := (!q3) && (decide (x114 = ((gt q5.1 x120).Net)))) (says_ift _ _) (fun hq w' hS => Yl.at (yl_move q1d)) <| qg (v := .int .i64 x133) 125 (c := (!q3) && (decide (x114 = ((gt q5.1 x120).Net)))) (says_ift _ _) (fun hq w' hS => Yl.at (ysub (cv hq) rfl ⟨hx133, (q2z hq)⟩)) <| qg (v := .pointer (some ((adr q4).add (x133.toNat * R_timing_Step.sz)))) 125 (c := (!q3) && (decide (x114 = ((gt q5.1 x120).Net)))) (says_ift _ _) (fun hq w' hS => Yl.at (yix_o sl_71 (cv hq) (cv hq) (hS.pull 1) q7 (q22 hq))) <|
          qg (v := .pointer (some (((adr q4).add (x133.toNat * R_timing_Step.sz)).add 1))) 125 (c := (!q3) && (decide (x114 = ((gt q5.1 x120).Net)))) (says_ift _ _) (fun hq w' hS => Yl.at (yl_fieldAddr fld_75_1 (cv hq))) <| qg (v := .int .i64 ((gt q5.1 x133).At)) 125 (c := (!q3) && (decide (x114 = ((gt q5.1 x120).Net)))) (says_ift _ _) (fun hq w' hS => (by obtain ⟨el, ek, ee⟩ := q7.get (q22 hq); obtain rfl := ek; exact at_load one_3 (cv hq) (EltV.ld (m := 1) ee (hS.pull 1) rfl))) <| qg (v := .pointer (some ⟨b6, 6, none⟩)) 125 (c := (!q3) && (decide (x114 = ((gt q5.1 x120).Net)))) (says_ift _ _) (fun hq w' hS => Yl.at (yl_field0 fld_58_2 q1p)) <| qg (v := .pointer (some ⟨b6, 6, none⟩)) 125 (c := (!q3) && (decide (x114 = ((gt q5.1 x120).Net)))) (says_ift _ _) (fun hq w' hS => Yl.at (yl_fieldN fld_51_0 (cv hq))) <|
          qg (v := .slice q6 q2.1.Delays.Gates.length c_y0_ret_6_2_1) 125 (c := (!q3) && (decide (x114 = ((gt q5.1 x120).Net)))) (says_ift _ _) (fun hq w' hS => at_load one_48 (cv hq) (hS.cell rfl)) <| qg (v := .int .i64 x91) 125 (c := (!q3) && (decide (x114 = ((gt q5.1 x120).Net)))) (says_ift _ _) (fun hq w' hS => Yl.at (yl_move q1x)) <| qg (v := .pointer (some ((adr q6).add (x91.toNat * (RpSl R_tree_Window).sz)))) 125 (c := (!q3) && (decide (x114 = ((gt q5.1 x120).Net)))) (says_ift _ _) (fun hq w' hS => Yl.at (yix_o sl_48 (cv hq) (cv hq) (hS.pull 2) q0o (q23 hq))) <| qg (v := .slice q1z q2d.length q3h) 125 (c := (!q3) && (decide (x114 = ((gt q5.1 x120).Net)))) (says_ift _ _) (fun hq w' hS => at_load one_49 (cv hq) (EltV.ld (m := 0) (q31 (q23 hq)) (hS.pull 2) rfl)) <|
          qg (v := .int .i64 q0p) 125 (c := (!q3) && (decide (x114 = ((gt q5.1 x120).Net)))) (says_ift _ _) (fun hq w' hS => Yl.at (yl_move rfl)) <| qg (v := .pointer (some ((adr q1z).add (q0p.toNat * R_tree_Window.sz)))) 125 (c := (!q3) && (decide (x114 = ((gt q5.1 x120).Net)))) (says_ift _ _) (fun hq w' hS => Yl.at (yix_f sl_49 (cv hq) (cv hq) q20 (q25 hq))) <| qg (v := .pointer (some (((adr q1z).add (q0p.toNat * R_tree_Window.sz)).add 1))) 125 (c := (!q3) && (decide (x114 = ((gt q5.1 x120).Net)))) (says_ift _ _) (fun hq w' hS => Yl.at (yl_fieldAddr fld_70_1 (cv hq))) <| qg (v := .int .i64 ((gt q2d q0p).Hi)) 125 (c := (!q3) && (decide (x114 = ((gt q5.1 x120).Net)))) (says_ift _ _) (fun hq w' hS => (by obtain ⟨el, ek, ee⟩ := q20.get (q25 hq); obtain rfl := ek; exact at_load one_3 (cv hq) (Elt.ld (j := 1) ee (hS.pull 10) rfl))) <|
          qg (v := .int .i64 x147) 125 (c := (!q3) && (decide (x114 = ((gt q5.1 x120).Net)))) (says_ift _ _) (fun hq w' hS => Yl.at (yadd (cv hq) (cv hq) ⟨hx147, (q32 hq)⟩)) <| qg (v := .bool (decide (((gt q5.1 q0g).At) = x147))) 125 (c := (!q3) && (decide (x114 = ((gt q5.1 x120).Net)))) (says_ift _ _) (fun hq w' hS => Yl.at (yl_eql (cv hq) (cv hq))) <| qg (v := .bool x149) 116 (c := !q3) (says_f _) (fun hq w' hS => Yl.at (yand' (cv hq) (fun hc => (cv (and_i hq hc))) rfl hx149)) <| q (yor' rfl rfl (fun hc => (cv (t_not hc))) hx150) <|
          q (yl_assign rfl) <|
          q_done fun w' hS => ?_
         replace hFL21 := ar_s hFL21; obtain ⟨x151, hx151, hFL21⟩ := hFL21
         refine x_blk <| x_region <| p (yadd q1e rfl hx151) <| p (yl_move rfl) <|
          x_done <| ?_
         have e_ := Option.some.inj (show some _ = some _ from hFL21); subst e_
         exact x_inv ⟨kL21, Nat.lt_succ_self _, x150, x151, hLL21, q1p, q1c, q1w, q1d, q1x, rfl, q1q, q1r, rfl, (((((((((((hS.pull 10).pull 10).pull 10).pull 10).pull 10).pull 10).pull 10).pull 10).pull 10).pull 10).pull 10)⟩
        ·replace hFL21 := it_f hc111 hFL21
         refine x_exitTo _ rfl <| ?_
         have e_ := Option.some.inj (show some _ = some _ from hFL21); subst e_
         exact x_inv ⟨q3, hLL21, q1p, q1c, q1w, q1d, q1y, (((((((((((hS.pull 10).pull 10).pull 10).pull 10).pull 10).pull 10).pull 10).pull 10).pull 10).pull 10).pull 10)⟩
       rintro E w ⟨q1h, rfl, q3i, q33, q34, q35, q36, hS⟩
       refine x_seq <| x_region <| p (yl_move q36) <| p (yl_not rfl) <|
        x_done <|
        x_cond (t := !q1h) rfl (fun hc153 => ?_) (fun hc153 => ?_)
       ·replace hFL14 := it_t hc153 hFL14
        refine x_seq <| x_region <| p (yl_assign rfl) <| x_done <| ?_
        have e_ := Option.some.inj (show some _ = some _ from hFL14); subst e_
        have e_ := (show _ = oL14 from hLL14); subst e_
        have e_ := Option.some.inj (show some _ = some _ from hF); subst e_
        exact x_return ⟨_, ⟨_, _, rfl, rfl, rfl⟩, rfl, (ro_back0 q1g hS.drop.drop.drop.drop.drop.drop.drop.drop.drop.drop)⟩
       ·replace hFL14 := it_bf hc153 hFL14
        replace hFL14 := ar_s hFL14; obtain ⟨x84, hx84, hFL14⟩ := hFL14
        refine x_skip <| x_blk <| x_region <| p (yl_move q35) <|
         p (yadd rfl rfl hx84) <| p (yl_assign rfl) <| x_done <| ?_
        have e_ := Option.some.inj (show some _ = some _ from hFL14); subst e_
        exact x_inv ⟨kL14, Nat.lt_succ_self _, x84, hLL14, q3i, q33, q34, rfl, (((((((((((hS.pull 10).pull 10).pull 10).pull 10).pull 10).pull 10).pull 10).pull 10).pull 10).pull 10).pull 10)⟩
     ·replace hFL14 := it_f hc82 hFL14
      refine x_exitTo _ rfl <| ?_
      have e_ := Option.some.inj (show some _ = some _ from hFL14); subst e_
      exact x_inv ⟨hLL14, hS.drop.drop.drop.drop.drop.drop.drop.drop.drop.drop⟩
    rintro E w ⟨rfl, hS⟩
    refine x_seq <| x_region <| p (yl_assign rfl) <| x_done <| ?_
    have e_ := Option.some.inj (show some _ = some _ from hF); subst e_
    exact x_return ⟨_, ⟨_, _, rfl, rfl, rfl⟩, rfl, (ro_back0 q1g hS)⟩
attribute [irreducible] P_maskkeep4_TimingAlong


end Go.Proofs.YtlolchgeedegdaaDoor.X
