/- Printed by gen.py: plain functions, and that the Go code computes them. -/
import Derived.Test.YtlolchgeedegdaaDoorXI
import Derived.Test.YtlolchgeedegdaaDoorXT
import Derived.Test.YtlolchgeedegdaaDoorGAp0
namespace Go.Proofs.YtlolchgeedegdaaDoor.X
open Go Go.RowKit
set_option linter.unusedVariables false
set_option linter.unusedSimpArgs false

def P_lib_CheckCell_L19 (c0 : T_api_Cell) : Int → Option (Int ⊕ (Unit ⊕ Int)) := fun q2 =>
 if q2 < (c0.Min.length : Int) then
  ck (inb q2 c0.Min.length) <|
  lv (gt c0.Min q2) fun x144 =>
  ck (inb q2 c0.Max.length) <|
  lv (gt c0.Max q2) fun x149 =>
  if x149 < x144 then
   some (Sum.inr (Sum.inr (5 : Int)))
  else
   ar (q2 + 1) fun x151 =>
   some (Sum.inl x151)
 else
  some (Sum.inr (Sum.inl ()))
def P_lib_CheckCell (c0 : T_api_Cell) : Option Int :=
 bd (P_lib_Name c0.Name) fun q0g =>
 if (!q0g) = true then
  some (9 : Int)
 else
  bd (
   if c0.Flop = true then
    ar (c0.Ins + 1) fun x19 =>
    some ((1 : Int), x19, (1 : Int))
   else
    some ((0 : Int), c0.Ins, c0.Ins)) fun (q8, q7, q2) =>
  lv ((decide (c0.Ins < q8)) || (decide (6 < c0.Ins))) fun x29 =>
  lv (c0.Flop && (decide (2 < c0.Ins))) fun x37 =>
  lv (x29 || x37) fun x38 =>
  if x38 = true then
   some (2 : Int)
  else
   lv ((decide ((c0.Cap.length : Int) ≠ q7)) || (decide ((c0.Min.length : Int) ≠ q2))) fun x51 =>
   lv (x51 || (decide ((c0.Max.length : Int) ≠ q2))) fun x58 =>
   if x58 = true then
    some (4 : Int)
   else
    lv (c0.Flop && (decide (c0.Table ≠ 0))) fun x66 =>
    bd (gd (!x66) (P_netlist_Mask c0.Ins)) fun q9 =>
    lv (bAndNot .u64 c0.Table q9) fun x73 =>
    lv (x66 || (decide (x73 ≠ 0))) fun x75 =>
    if x75 = true then
     some (4 : Int)
    else
     bd (P_lib_in 64 ([c0.Area] : List Int)) fun q0d =>
     lv ((!q0d) || (decide (c0.Area = 0))) fun x86 =>
     bd (
      if x86 = true then
       some true
      else
       bd (P_lib_in 1000 c0.Cap) fun q0a =>
       bd (
        if q0a = true then
         bd (P_lib_in 1000 ([c0.Drive] : List Int)) fun q0b =>
         some (!q0b)
        else
         some true) fun q4 =>
       some q4) fun q5 =>
     if q5 = true then
      some (2 : Int)
     else
      bd (P_lib_in 10000 c0.Min) fun q0e =>
      bd (
       if q0e = true then
        bd (P_lib_in 10000 c0.Max) fun q0f =>
        bd (
         if q0f = true then
          bd (P_lib_in 10000 ([c0.Setup, c0.Hold] : List Int)) fun q0c =>
          some (!q0c)
         else
          some true) fun q3 =>
        some q3
       else
        some true) fun q6 =>
      if q6 = true then
       some (2 : Int)
      else
       lv ((decide (c0.Setup ≠ 0)) || (decide (c0.Hold ≠ 0))) fun x132 =>
       lv ((!c0.Flop) && x132) fun x133 =>
       if x133 = true then
        some (4 : Int)
       else
        bs (
         lp (P_lib_CheckCell_L19 c0) fuel 0) (fun y => some y) fun _ =>
        some (0 : Int)
set_option maxHeartbeats 4000000 in
set_option maxRecDepth 100000 in
theorem c_lib_CheckCell {w0 w : World} {l : List Assn} {ρ : Heap} {q0e : Option Addr} {q11 : Nat} {c_c0_5 : Nat} {q0h : Option Addr} {q12 : Nat} {c_c0_6 : Nat} {q0b : Option Addr} {q13 : Nat} {c_c0_7 : Nat} {c0 : T_api_Cell} {r : Int} (hF : P_lib_CheckCell c0 = some r) (q14 : RdS (RpI .i64) ρ q0e q11 c_c0_5 c0.Cap) (q0s : RdS (RpI .i64) ρ q0h q12 c_c0_6 c0.Min) (q0t : RdS (RpI .i64) ρ q0b q13 c_c0_7 c0.Max) (hS : St w0 w (ro ρ :: l)) :
  Calls Tryd.prog 168 #[.agg #[.string c0.Name, .bool c0.Flop, .int .i64 c0.Ins, .int .u64 c0.Table, .int .i64 c0.Area, .slice q0e q11 c_c0_5, .slice q0h q12 c_c0_6, .slice q0b q13 c_c0_7, .int .i64 c0.Drive, .int .i64 c0.Setup, .int .i64 c0.Hold]] w fun e w' => e = .returned (.int .i64 r) ∧ St w0 w' (ro ρ :: l) := by
 have e_ := q14.n; subst e_
 have e_ := q0s.n; subst e_
 have e_ := q0t.n; subst e_
 refine enterC Tryd.func168 rfl 152 rfl (by simp) ?_
 refine x_seq <| x_region <| ?_
 refine o_box (cs := [.string c0.Name, .bool c0.Flop, .int .i64 c0.Ins, .int .u64 c0.Table, .int .i64 c0.Area, .slice q0e c0.Cap.length c_c0_5, .slice q0h c0.Min.length c_c0_6, .slice q0b c0.Max.length c_c0_7, .int .i64 c0.Drive, .int .i64 c0.Setup, .int .i64 c0.Hold]) rfl rfl hS (fun b1 w' hS => ?_)
 replace hF := bd_s hF; obtain ⟨q1u, q1t, hF⟩ := hF
 refine p (yl_assign rfl) <| x_done <| x_seq <| x_seq <|
  x_region <| p (yl_field0 fld_206_0 rfl) <| pa (at_load one_9 rfl (hS.cell rfl)) <| ?_
 have hcall := c_lib_Name q1t  (hS.pull 1)
 refine o_cc call_190 (args1 rfl) ((Calls.mono hcall (fun e w'' h => And.intro h.1 (h.2.pull 1)))) ?_
 rintro e w' ⟨rfl, hS⟩
 refine ⟨_, rfl, ?_⟩
 refine p (yl_not rfl) <| x_done <|
  x_cond (t := !q1u) rfl (fun hc10 => ?_) (fun hc10 => ?_)
 ·replace hF := it_t hc10 hF
  refine x_seq <| x_region <| p (yl_assign rfl) <| x_done <| ?_
  have e_ := Option.some.inj (show some _ = some _ from hF); subst e_
  exact x_return ⟨_, ⟨_, _, rfl, rfl, rfl⟩, rfl, hS.drop⟩
 ·replace hF := it_bf hc10 hF
  refine x_skip <| x_seq <| x_still mixed (by kernel_rfl) hS <| q (yl_field0 fld_206_2 rfl) <|
   qa (fun w' hS => at_load one_3 rfl (hS.cell rfl)) <| q (yl_field0 fld_206_2 rfl) <| qa (fun w' hS => at_load one_3 rfl (hS.cell rfl)) <| q (yl_assign rfl) <|
   q (yl_assign rfl) <| q (yl_assign rfl) <|
   q_done fun w' hS => ?_
  refine x_seq <| x_seq <| x_region <| p (yl_field0 fld_206_1 rfl) <|
   pa (at_load one_4 rfl (hS.cell rfl)) <| x_done <| ?_
  replace hF := bd_s hF; obtain ⟨oc16, hFc16, hF⟩ := hF
  refine x_join (fun E w => ∃ (q0j : Int) (q9 : Int) (q0f : Int), (q0j, q9, q0f) = oc16 ∧ E 1 = .pointer (some ⟨b1, 0, none⟩) ∧ E 3 = .int .i64 q0j ∧ E 4 = .int .i64 q9 ∧ E 5 = .int .i64 q0f ∧ St w0 w (cells b1 206 [.string c0.Name, .bool c0.Flop, .int .i64 c0.Ins, .int .u64 c0.Table, .int .i64 c0.Area, .slice q0e c0.Cap.length c_c0_5, .slice q0h c0.Min.length c_c0_6, .slice q0b c0.Max.length c_c0_7, .int .i64 c0.Drive, .int .i64 c0.Setup, .int .i64 c0.Hold] :: ro ρ :: l)) ?_ ?_
  ·refine x_cond (t := c0.Flop) rfl (fun hc16 => ?_) (fun hc16 => ?_)
   ·replace hFc16 := it_t hc16 hFc16
    replace hFc16 := ar_s hFc16; obtain ⟨x19, hx19, hFc16⟩ := hFc16
    refine x_still mixed (by kernel_rfl) hS <| q (yl_field0 fld_206_2 rfl) <| qa (fun w' hS => at_load one_3 rfl (hS.cell rfl)) <| q (yadd rfl rfl hx19) <|
     q (yl_assign rfl) <| q (yl_assign rfl) <| q (yl_assign rfl) <|
     q_done fun w' hS => ?_
    exact x_inv ⟨1, x19, 1, (Option.some.inj (show some _ = some _ from hFc16)), rfl, rfl, rfl, rfl, ((hS.pull 1).pull 1)⟩
   ·replace hFc16 := it_bf hc16 hFc16
    refine x_skip <| ?_
    exact x_inv ⟨0, c0.Ins, c0.Ins, (Option.some.inj (show some _ = some _ from hFc16)), rfl, rfl, rfl, rfl, ((hS.pull 1).pull 1)⟩
  rintro E w ⟨q0j, q9, q0f, rfl, q3, q1j, q1k, q15, hS⟩
  replace hF := lv_s hF; obtain ⟨x29, hx29, hF⟩ := hF
  replace hF := lv_s hF; obtain ⟨x37, hx37, hF⟩ := hF
  replace hF := lv_s hF; obtain ⟨x38, hx38, hF⟩ := hF
  refine x_seq <| x_block <| x_seq <| x_region <|
   p (yl_field0 fld_206_2 q3) <| pa (at_load one_3 rfl (hS.cell rfl)) <| p (yl_move q1j) <| p (yl_lss rfl rfl) <|
   p (yl_move rfl) <| pg (v := .pointer (some ⟨b1, 2, none⟩)) 25 (c := !(decide (c0.Ins < q0j))) (says_f _) (fun hq => Yl.at (yl_field0 fld_206_2 q3)) <| pg (v := .int .i64 c0.Ins) 25 (c := !(decide (c0.Ins < q0j))) (says_f _) (fun hq => at_load one_3 (cv hq) (hS.cell rfl)) <| pg (v := .bool (decide (6 < c0.Ins))) 25 (c := !(decide (c0.Ins < q0j))) (says_f _) (fun hq => Yl.at (yl_gtr (cv hq) rfl)) <|
   p (yor' rfl rfl (fun hc => (cv (t_not hc))) hx29) <| p (yl_move rfl) <| pg (v := .pointer (some ⟨b1, 1, none⟩)) 30 (c := !x29) (says_f _) (fun hq => Yl.at (yl_field0 fld_206_1 q3)) <| pg (v := .bool c0.Flop) 30 (c := !x29) (says_f _) (fun hq => at_load one_4 (cv hq) (hS.cell rfl)) <|
   pg (v := .bool c0.Flop) 30 (c := !x29) (says_f _) (fun hq => Yl.at (yl_move (cv hq))) <| pg (v := .pointer (some ⟨b1, 2, none⟩)) 33 (c := (!x29) && c0.Flop) (says_ift _ _) (fun hq => Yl.at (yl_field0 fld_206_2 q3)) <| pg (v := .int .i64 c0.Ins) 33 (c := (!x29) && c0.Flop) (says_ift _ _) (fun hq => at_load one_3 (cv hq) (hS.cell rfl)) <| pg (v := .bool (decide (2 < c0.Ins))) 33 (c := (!x29) && c0.Flop) (says_ift _ _) (fun hq => Yl.at (yl_gtr (cv hq) rfl)) <|
   pg (v := .bool x37) 30 (c := !x29) (says_f _) (fun hq => Yl.at (yand' (cv hq) (fun hc => (cv (and_i hq hc))) rfl hx37)) <| p (yor' rfl rfl (fun hc => (cv (t_not hc))) hx38) <| p (yl_assign rfl) <| x_done <|
   x_cond (t := x38) rfl (fun hc20 => ?_) (fun hc20 => ?_)
  ·replace hF := it_t hc20 hF
   refine x_seq <| x_region <| p (yl_assign rfl) <| x_done <| ?_
   have e_ := Option.some.inj (show some _ = some _ from hF); subst e_
   exact x_return ⟨_, ⟨_, _, rfl, rfl, rfl⟩, rfl, hS.drop⟩
  ·replace hF := it_bf hc20 hF
   replace hF := lv_s hF; obtain ⟨x51, hx51, hF⟩ := hF
   replace hF := lv_s hF; obtain ⟨x58, hx58, hF⟩ := hF
   refine x_seq <| x_region <| p (yl_field0 fld_206_5 q3) <| pa (at_load one_22 rfl (hS.cell rfl)) <|
    p (yl_len_slice usl_22 rfl) <| p (yl_move q1k) <| p (yl_neq rfl rfl) <| p (yl_move rfl) <|
    pg (v := .pointer (some ⟨b1, 6, none⟩)) 45 (c := !(decide ((c0.Cap.length : Int) ≠ q9))) (says_f _) (fun hq => Yl.at (yl_field0 fld_206_6 q3)) <| pg (v := .slice q0h c0.Min.length c_c0_6) 45 (c := !(decide ((c0.Cap.length : Int) ≠ q9))) (says_f _) (fun hq => at_load one_22 (cv hq) (hS.cell rfl)) <| pg (v := .int .i64 (c0.Min.length : Int)) 45 (c := !(decide ((c0.Cap.length : Int) ≠ q9))) (says_f _) (fun hq => Yl.at (yl_len_slice usl_22 (cv hq))) <| pg (v := .int .i64 q0f) 45 (c := !(decide ((c0.Cap.length : Int) ≠ q9))) (says_f _) (fun hq => Yl.at (yl_move q15)) <|
    pg (v := .bool (decide ((c0.Min.length : Int) ≠ q0f))) 45 (c := !(decide ((c0.Cap.length : Int) ≠ q9))) (says_f _) (fun hq => Yl.at (yl_neq (cv hq) (cv hq))) <| p (yor' rfl rfl (fun hc => (cv (t_not hc))) hx51) <| p (yl_move rfl) <| pg (v := .pointer (some ⟨b1, 7, none⟩)) 52 (c := !x51) (says_f _) (fun hq => Yl.at (yl_field0 fld_206_7 q3)) <|
    pg (v := .slice q0b c0.Max.length c_c0_7) 52 (c := !x51) (says_f _) (fun hq => at_load one_22 (cv hq) (hS.cell rfl)) <| pg (v := .int .i64 (c0.Max.length : Int)) 52 (c := !x51) (says_f _) (fun hq => Yl.at (yl_len_slice usl_22 (cv hq))) <| pg (v := .int .i64 q0f) 52 (c := !x51) (says_f _) (fun hq => Yl.at (yl_move q15)) <| pg (v := .bool (decide ((c0.Max.length : Int) ≠ q0f))) 52 (c := !x51) (says_f _) (fun hq => Yl.at (yl_neq (cv hq) (cv hq))) <|
    p (yor' rfl rfl (fun hc => (cv (t_not hc))) hx58) <| p (yl_assign rfl) <| x_done <|
    x_cond (t := x58) rfl (fun hc39 => ?_) (fun hc39 => ?_)
   ·replace hF := it_t hc39 hF
    refine x_seq <| x_region <| p (yl_assign rfl) <| x_done <| ?_
    have e_ := Option.some.inj (show some _ = some _ from hF); subst e_
    exact x_return ⟨_, ⟨_, _, rfl, rfl, rfl⟩, rfl, hS.drop⟩
   ·replace hF := it_bf hc39 hF
    replace hF := lv_s hF; obtain ⟨x66, hx66, hF⟩ := hF
    replace hF := bd_s hF; obtain ⟨q1l, q1a, hF⟩ := hF
    replace hF := lv_s hF; obtain ⟨x73, hx73, hF⟩ := hF
    replace hF := lv_s hF; obtain ⟨x75, hx75, hF⟩ := hF
    refine x_seq <| x_still mixed (by kernel_rfl) hS <| q (yl_field0 fld_206_1 q3) <| qa (fun w' hS => at_load one_4 rfl (hS.cell rfl)) <|
     q (yl_move rfl) <| qg (v := .pointer (some ⟨b1, 3, none⟩)) 62 (c := c0.Flop) (says_t _) (fun hq w' hS => Yl.at (yl_field0 fld_206_3 q3)) <| qg (v := .int .u64 c0.Table) 62 (c := c0.Flop) (says_t _) (fun hq w' hS => at_load one_35 (cv hq) (hS.cell rfl)) <| qg (v := .bool (decide (c0.Table ≠ 0))) 62 (c := c0.Flop) (says_t _) (fun hq w' hS => Yl.at (yl_neq (cv hq) rfl)) <|
     q (yand' rfl (fun hc => (cv hc)) rfl hx66) <| q (yl_move rfl) <| qg (v := .pointer (some ⟨b1, 3, none⟩)) 67 (c := !x66) (says_f _) (fun hq w' hS => Yl.at (yl_field0 fld_206_3 q3)) <| qg (v := .int .u64 c0.Table) 67 (c := !x66) (says_f _) (fun hq w' hS => at_load one_35 (cv hq) (hS.cell rfl)) <|
     qg (v := .pointer (some ⟨b1, 2, none⟩)) 67 (c := !x66) (says_f _) (fun hq w' hS => Yl.at (yl_field0 fld_206_2 q3)) <| qg (v := .int .i64 c0.Ins) 67 (c := !x66) (says_f _) (fun hq w' hS => at_load one_3 (cv hq) (hS.cell rfl)) <| qccg (v := .int .u64 q1l) 67 (c := !x66) (says_f _) call_172 (fun hq => (args1 (cv hq))) (fun hq w' hS => by
      have hcall := c_netlist_Mask (gd_t q1a hq)  (hS.pull 1)
      exact (Calls.mono hcall (fun e w'' h => And.intro h.1 (h.2.pull 1)))) <| qg (v := .int .u64 x73) 67 (c := !x66) (says_f _) (fun hq w' hS => Yl.at (yandNot (cv hq) (cv hq) hx73)) <|
     qg (v := .bool (decide (x73 ≠ 0))) 67 (c := !x66) (says_f _) (fun hq w' hS => Yl.at (yl_neq (cv hq) rfl)) <| q (yor' rfl rfl (fun hc => (cv (t_not hc))) hx75) <| q (yl_assign rfl) <|
     q_done fun w' hS => ?_
    refine x_cond (t := x75) rfl (fun hc59 => ?_) (fun hc59 => ?_)
    ·replace hF := it_t hc59 hF
     refine x_seq <| x_region <| p (yl_assign rfl) <| x_done <| ?_
     have e_ := Option.some.inj (show some _ = some _ from hF); subst e_
     exact x_return ⟨_, ⟨_, _, rfl, rfl, rfl⟩, rfl, hS.drop⟩
    ·replace hF := it_bf hc59 hF
     refine x_seq <| x_region <| p (yl_field0 fld_206_4 q3) <| pa (at_load one_3 rfl (hS.cell rfl)) <| ?_
     refine o_buildSlice (vs := [.int .i64 c0.Area]) (cs := [.int .i64 c0.Area]) sl_22 zero_3 (parts_eq (pt (va := .int .i64 c0.Area) rfl pt0)) rfl (by intro v hv; simp only [List.mem_cons, List.not_mem_nil, or_false] at hv; first | (subst hv; rfl) | (rcases hv with rfl <;> rfl)) (by decide) rfl hS (fun b79 w' hS => ?_)
     have q1m : RepL (RpI .i64) ρ ([c0.Area] : List Int) [.int .i64 c0.Area] := (RepL.cons (cs := [.int .i64 c0.Area]) rfl RepL.nil)
     replace hS := St.vec_of (n := 1) (sz := (RpI .i64).sz) hS rfl (by decide)
     replace hF := bd_s hF; obtain ⟨q0x, q1n, hF⟩ := hF
     have q_ := St.lend ((hS.pull 2).pull 1) q1m; obtain ⟨ρl0, hll0, hlf0, hS0, back0⟩ := q_
     have hcall := c_lib_in q1n hlf0 hS0
     refine o_cc call_191 (args2 rfl rfl) ((Calls.mono hcall (fun e w'' h => And.intro h.1 ((((back0 h.2).pull 1).pull 2).pull 2)))) ?_
     rintro e w' ⟨rfl, hS⟩
     refine ⟨_, rfl, ?_⟩
     replace hF := lv_s hF; obtain ⟨x86, hx86, hF⟩ := hF
     refine p (yl_not rfl) <| p (yl_move rfl) <| pg (v := .pointer (some ⟨b1, 4, none⟩)) 82 (c := !(!q0x)) (says_f _) (fun hq => Yl.at (yl_field0 fld_206_4 q3)) <| pg (v := .int .i64 c0.Area) 82 (c := !(!q0x)) (says_f _) (fun hq => at_load one_3 (cv hq) ((hS.pull 1).cell rfl)) <|
      pg (v := .bool (decide (c0.Area = 0))) 82 (c := !(!q0x)) (says_f _) (fun hq => Yl.at (yl_eql (cv hq) rfl)) <| p (yor' rfl rfl (fun hc => (cv (t_not hc))) hx86) <| p (yl_move rfl) <| pg (v := .pointer (some ⟨b1, 5, none⟩)) 87 (c := !x86) (says_f _) (fun hq => Yl.at (yl_field0 fld_206_5 q3)) <|
      pg (v := .slice q0e c0.Cap.length c_c0_5) 87 (c := !x86) (says_f _) (fun hq => at_load one_22 (cv hq) ((hS.pull 1).cell rfl)) <| ?_
     replace hF := bd_s hF; obtain ⟨q1b, q2, hF⟩ := hF
     refine x_join_ops (fun E w => ∃ (q0m : Bool), q0m = q1b ∧ E 1 = .pointer (some ⟨b1, 0, none⟩) ∧ E 76 = .bool q0m ∧ St w0 w (cells b1 206 [.string c0.Name, .bool c0.Flop, .int .i64 c0.Ins, .int .u64 c0.Table, .int .i64 c0.Area, .slice q0e c0.Cap.length c_c0_5, .slice q0h c0.Min.length c_c0_6, .slice q0b c0.Max.length c_c0_7, .int .i64 c0.Drive, .int .i64 c0.Setup, .int .i64 c0.Hold] :: ro ρ :: l)) ?_ ?_
     ·refine x_split x86 (fun q0d => ?_) (fun q0d => ?_)
      ·replace q2 := it_t q0d q2
       refine o_pass 90 87 false (says_lit (c := true) (Eq.trans (show _ = Value.bool x86 from rfl) (congrArg Value.bool q0d)) rfl) <| o_pass 91 87 false (says_lit (c := true) (Eq.trans (show _ = Value.bool x86 from rfl) (congrArg Value.bool q0d)) rfl) <| p (yl_pick (b := true) (Eq.trans (show _ = Value.bool x86 from rfl) (congrArg Value.bool q0d)) (fun h => rfl) (fun h => nomatch h)) <| p (yl_move rfl) <|
        o_pass 94 93 false (says_lit (c := true) rfl rfl) <| o_pass 95 93 false (says_lit (c := true) rfl rfl) <| o_pass 96 93 false (says_lit (c := true) rfl rfl) <| o_pass 97 93 false (says_lit (c := true) rfl rfl) <|
        o_pass 98 93 false (says_lit (c := true) rfl rfl) <| p (yl_pick (b := true) rfl (fun h => rfl) (fun h => nomatch h)) <| p (yl_assign rfl) <| x_done <| ?_
       exact x_inv ⟨true, (Option.some.inj (show some _ = some _ from q2)), q3, rfl, ((hS.drop.pull 1).pull 1)⟩
      ·replace q2 := it_bf q0d q2
       replace q2 := bd_s q2; obtain ⟨q0c, q1c, q2⟩ := q2
       refine o_strip 87 false (says_lit (c := false) (Eq.trans (show _ = Value.bool x86 from rfl) (congrArg Value.bool q0d)) rfl) <| ?_
       have hcall := c_lib_in q1c q14 (hS.pull 2)
       refine o_cc call_191 (args2 rfl (Eq.trans (show _ = (bif !x86 then .slice q0e c0.Cap.length c_c0_5 else undef) from rfl) (cv (t_not q0d)))) ((Calls.mono hcall (fun e w'' h => And.intro h.1 ((h.2.pull 2).pull 2)))) ?_
       rintro e w' ⟨rfl, hS⟩
       refine ⟨_, rfl, ?_⟩
       refine o_strip 87 false (says_lit (c := false) (Eq.trans (show _ = Value.bool x86 from rfl) (congrArg Value.bool q0d)) rfl) <| p (yl_not rfl) <| p (yl_pick (b := false) (Eq.trans (show _ = Value.bool x86 from rfl) (congrArg Value.bool q0d)) (fun h => nomatch h) (fun h => rfl)) <| p (yl_move rfl) <|
        pg (v := .pointer (some ⟨b1, 8, none⟩)) 93 (c := !(!q0c)) (says_f _) (fun hq => Yl.at (yl_field0 fld_206_8 q3)) <| pg (v := .int .i64 c0.Drive) 93 (c := !(!q0c)) (says_f _) (fun hq => at_load one_3 (cv hq) ((hS.pull 1).cell rfl)) <| ?_
       replace q2 := bd_s q2; obtain ⟨q1d, q7, q2⟩ := q2
       refine x_join_ops (fun E w => ∃ (q0n : Bool), q0n = q1d ∧ E 1 = .pointer (some ⟨b1, 0, none⟩) ∧ E 76 = .bool q0n ∧ St w0 w (cells b1 206 [.string c0.Name, .bool c0.Flop, .int .i64 c0.Ins, .int .u64 c0.Table, .int .i64 c0.Area, .slice q0e c0.Cap.length c_c0_5, .slice q0h c0.Min.length c_c0_6, .slice q0b c0.Max.length c_c0_7, .int .i64 c0.Drive, .int .i64 c0.Setup, .int .i64 c0.Hold] :: ro ρ :: l)) ?_ ?_
       ·refine x_split q0c (fun q6 => ?_) (fun q6 => ?_)
        ·replace q7 := it_t q6 q7
         refine o_strip 93 false (says_lit (c := false) (Eq.trans (show _ = Value.bool (!q0c) from rfl) (congrArg Value.bool (f_not q6))) rfl) <| ?_
         refine o_buildSlice (vs := [.int .i64 c0.Drive]) (cs := [.int .i64 c0.Drive]) sl_22 zero_3 (parts_eq (pt (va := .int .i64 c0.Drive) (Eq.trans (show _ = (bif !(!q0c) then .int .i64 c0.Drive else undef) from rfl) (cv (t_not (f_not q6)))) pt0)) rfl (by intro v hv; simp only [List.mem_cons, List.not_mem_nil, or_false] at hv; first | (subst hv; rfl) | (rcases hv with rfl <;> rfl)) (by decide) rfl hS (fun b96 w' hS => ?_)
         refine o_strip 93 false (says_lit (c := false) (Eq.trans (show _ = Value.bool (!q0c) from rfl) (congrArg Value.bool (f_not q6))) rfl) <| ?_
         have q1e : RepL (RpI .i64) ρ ([c0.Drive] : List Int) [.int .i64 c0.Drive] := (RepL.cons (cs := [.int .i64 c0.Drive]) rfl RepL.nil)
         replace hS := St.vec_of (n := 1) (sz := (RpI .i64).sz) hS rfl (by decide)
         replace q7 := bd_s q7; obtain ⟨q1o, q1f, q7⟩ := q7
         have q_ := St.lend ((hS.pull 3).pull 1) q1e; obtain ⟨ρl0, hll0, hlf0, hS0, back0⟩ := q_
         have hcall := c_lib_in q1f hlf0 hS0
         refine o_cc call_191 (args2 rfl rfl) ((Calls.mono hcall (fun e w'' h => And.intro h.1 (((((back0 h.2).pull 1).pull 3).pull 3).pull 3)))) ?_
         rintro e w' ⟨rfl, hS⟩
         refine ⟨_, rfl, ?_⟩
         refine o_strip 93 false (says_lit (c := false) (Eq.trans (show _ = Value.bool (!q0c) from rfl) (congrArg Value.bool (f_not q6))) rfl) <| p (yl_not rfl) <| p (yl_pick (b := false) (Eq.trans (show _ = Value.bool (!q0c) from rfl) (congrArg Value.bool (f_not q6))) (fun h => nomatch h) (fun h => rfl)) <| p (yl_assign rfl) <|
          x_done <| ?_
         exact x_inv ⟨!q1o, (Option.some.inj (show some _ = some _ from q7)), q3, rfl, ((hS.drop.drop.pull 1).pull 1)⟩
        ·replace q7 := it_bf q6 q7
         refine o_pass 96 93 false (says_lit (c := true) (Eq.trans (show _ = Value.bool (!q0c) from rfl) (congrArg Value.bool (t_not q6))) rfl) <| o_pass 97 93 false (says_lit (c := true) (Eq.trans (show _ = Value.bool (!q0c) from rfl) (congrArg Value.bool (t_not q6))) rfl) <| o_pass 98 93 false (says_lit (c := true) (Eq.trans (show _ = Value.bool (!q0c) from rfl) (congrArg Value.bool (t_not q6))) rfl) <| p (yl_pick (b := true) (Eq.trans (show _ = Value.bool (!q0c) from rfl) (congrArg Value.bool (t_not q6))) (fun h => rfl) (fun h => nomatch h)) <|
          p (yl_assign rfl) <| x_done <| ?_
         exact x_inv ⟨true, (Option.some.inj (show some _ = some _ from q7)), q3, rfl, ((hS.drop.pull 1).pull 1)⟩
       rintro E w ⟨q0n, rfl, q16, q0y, hS⟩
       exact x_inv ⟨q0n, (Option.some.inj (show some _ = some _ from q2)), q16, q0y, ((hS.pull 1).pull 1)⟩
     rintro E w ⟨q0m, rfl, q0g, q0z, hS⟩
     refine x_cond (t := q0m) q0z (fun hc76 => ?_) (fun hc76 => ?_)
     ·replace hF := it_t hc76 hF
      refine x_seq <| x_region <| p (yl_assign rfl) <| x_done <| ?_
      have e_ := Option.some.inj (show some _ = some _ from hF); subst e_
      exact x_return ⟨_, ⟨_, _, rfl, rfl, rfl⟩, rfl, hS.drop⟩
     ·replace hF := it_bf hc76 hF
      replace hF := bd_s hF; obtain ⟨q0k, q1p, hF⟩ := hF
      refine x_seq <| x_region <| p (yl_field0 fld_206_6 q0g) <| pa (at_load one_22 rfl (hS.cell rfl)) <| ?_
      have hcall := c_lib_in q1p q0s (hS.pull 1)
      refine o_cc call_191 (args2 rfl rfl) ((Calls.mono hcall (fun e w'' h => And.intro h.1 (h.2.pull 1)))) ?_
      rintro e w' ⟨rfl, hS⟩
      refine ⟨_, rfl, ?_⟩
      refine p (yl_not rfl) <| p (yl_move rfl) <| pg (v := .pointer (some ⟨b1, 7, none⟩)) 105 (c := !(!q0k)) (says_f _) (fun hq => Yl.at (yl_field0 fld_206_7 q0g)) <| pg (v := .slice q0b c0.Max.length c_c0_7) 105 (c := !(!q0k)) (says_f _) (fun hq => at_load one_22 (cv hq) (hS.cell rfl)) <| ?_
      replace hF := bd_s hF; obtain ⟨q1q, q4, hF⟩ := hF
      refine x_join_ops (fun E w => ∃ (q0o : Bool), q0o = q1q ∧ E 1 = .pointer (some ⟨b1, 0, none⟩) ∧ E 100 = .bool q0o ∧ St w0 w (cells b1 206 [.string c0.Name, .bool c0.Flop, .int .i64 c0.Ins, .int .u64 c0.Table, .int .i64 c0.Area, .slice q0e c0.Cap.length c_c0_5, .slice q0h c0.Min.length c_c0_6, .slice q0b c0.Max.length c_c0_7, .int .i64 c0.Drive, .int .i64 c0.Setup, .int .i64 c0.Hold] :: ro ρ :: l)) ?_ ?_
      ·refine x_split q0k (fun q0i => ?_) (fun q0i => ?_)
       ·replace q4 := it_t q0i q4
        replace q4 := bd_s q4; obtain ⟨q0a, q1r, q4⟩ := q4
        refine o_strip 105 false (says_lit (c := false) (Eq.trans (show _ = Value.bool (!q0k) from rfl) (congrArg Value.bool (f_not q0i))) rfl) <| ?_
        have hcall := c_lib_in q1r q0t (hS.pull 1)
        refine o_cc call_191 (args2 rfl (Eq.trans (show _ = (bif !(!q0k) then .slice q0b c0.Max.length c_c0_7 else undef) from rfl) (cv (t_not (f_not q0i))))) ((Calls.mono hcall (fun e w'' h => And.intro h.1 (h.2.pull 1)))) ?_
        rintro e w' ⟨rfl, hS⟩
        refine ⟨_, rfl, ?_⟩
        refine o_strip 105 false (says_lit (c := false) (Eq.trans (show _ = Value.bool (!q0k) from rfl) (congrArg Value.bool (f_not q0i))) rfl) <| p (yl_not rfl) <| p (yl_pick (b := false) (Eq.trans (show _ = Value.bool (!q0k) from rfl) (congrArg Value.bool (f_not q0i))) (fun h => nomatch h) (fun h => rfl)) <| p (yl_move rfl) <|
         pg (v := .pointer (some ⟨b1, 9, none⟩)) 111 (c := !(!q0a)) (says_f _) (fun hq => Yl.at (yl_field0 fld_206_9 q0g)) <| pg (v := .int .i64 c0.Setup) 111 (c := !(!q0a)) (says_f _) (fun hq => at_load one_3 (cv hq) (hS.cell rfl)) <| pg (v := .pointer (some ⟨b1, 10, none⟩)) 111 (c := !(!q0a)) (says_f _) (fun hq => Yl.at (yl_field0 fld_206_10 q0g)) <| pg (v := .int .i64 c0.Hold) 111 (c := !(!q0a)) (says_f _) (fun hq => at_load one_3 (cv hq) (hS.cell rfl)) <| ?_
        replace q4 := bd_s q4; obtain ⟨q1g, q8, q4⟩ := q4
        refine x_join_ops (fun E w => ∃ (q0l : Bool), q0l = q1g ∧ E 1 = .pointer (some ⟨b1, 0, none⟩) ∧ E 100 = .bool q0l ∧ St w0 w (cells b1 206 [.string c0.Name, .bool c0.Flop, .int .i64 c0.Ins, .int .u64 c0.Table, .int .i64 c0.Area, .slice q0e c0.Cap.length c_c0_5, .slice q0h c0.Min.length c_c0_6, .slice q0b c0.Max.length c_c0_7, .int .i64 c0.Drive, .int .i64 c0.Setup, .int .i64 c0.Hold] :: ro ρ :: l)) ?_ ?_
        ·refine x_split q0a (fun q5 => ?_) (fun q5 => ?_)
         ·replace q8 := it_t q5 q8
          refine o_strip 111 false (says_lit (c := false) (Eq.trans (show _ = Value.bool (!q0a) from rfl) (congrArg Value.bool (f_not q5))) rfl) <| ?_
          refine o_buildSlice (vs := [.int .i64 c0.Setup, .int .i64 c0.Hold]) (cs := [.int .i64 c0.Setup, .int .i64 c0.Hold]) sl_22 zero_3 (parts_eq (pt (va := .int .i64 c0.Setup) (Eq.trans (show _ = (bif !(!q0a) then .int .i64 c0.Setup else undef) from rfl) (cv (t_not (f_not q5)))) (pt (va := .int .i64 c0.Hold) (Eq.trans (show _ = (bif !(!q0a) then .int .i64 c0.Hold else undef) from rfl) (cv (t_not (f_not q5)))) pt0))) rfl (by intro v hv; simp only [List.mem_cons, List.not_mem_nil, or_false] at hv; first | (subst hv; rfl) | (rcases hv with rfl | rfl <;> rfl)) (by decide) rfl hS (fun b116 w' hS => ?_)
          refine o_strip 111 false (says_lit (c := false) (Eq.trans (show _ = Value.bool (!q0a) from rfl) (congrArg Value.bool (f_not q5))) rfl) <| ?_
          have q1h : RepL (RpI .i64) ρ ([c0.Setup, c0.Hold] : List Int) [.int .i64 c0.Setup, .int .i64 c0.Hold] := (RepL.cons (cs := [.int .i64 c0.Setup]) rfl (RepL.cons (cs := [.int .i64 c0.Hold]) rfl RepL.nil))
          replace hS := St.vec_of (n := 2) (sz := (RpI .i64).sz) hS rfl (by decide)
          replace q8 := bd_s q8; obtain ⟨q1s, q1i, q8⟩ := q8
          have q_ := St.lend ((hS.pull 2).pull 1) q1h; obtain ⟨ρl0, hll0, hlf0, hS0, back0⟩ := q_
          have hcall := c_lib_in q1i hlf0 hS0
          refine o_cc call_191 (args2 rfl rfl) ((Calls.mono hcall (fun e w'' h => And.intro h.1 ((((back0 h.2).pull 1).pull 2).pull 2)))) ?_
          rintro e w' ⟨rfl, hS⟩
          refine ⟨_, rfl, ?_⟩
          refine o_strip 111 false (says_lit (c := false) (Eq.trans (show _ = Value.bool (!q0a) from rfl) (congrArg Value.bool (f_not q5))) rfl) <| p (yl_not rfl) <| p (yl_pick (b := false) (Eq.trans (show _ = Value.bool (!q0a) from rfl) (congrArg Value.bool (f_not q5))) (fun h => nomatch h) (fun h => rfl)) <| p (yl_assign rfl) <|
           x_done <| ?_
          exact x_inv ⟨!q1s, (Option.some.inj (show some _ = some _ from q8)), q0g, rfl, ((hS.drop.pull 1).pull 1)⟩
         ·replace q8 := it_bf q5 q8
          refine o_pass 116 111 false (says_lit (c := true) (Eq.trans (show _ = Value.bool (!q0a) from rfl) (congrArg Value.bool (t_not q5))) rfl) <| o_pass 117 111 false (says_lit (c := true) (Eq.trans (show _ = Value.bool (!q0a) from rfl) (congrArg Value.bool (t_not q5))) rfl) <| o_pass 118 111 false (says_lit (c := true) (Eq.trans (show _ = Value.bool (!q0a) from rfl) (congrArg Value.bool (t_not q5))) rfl) <| p (yl_pick (b := true) (Eq.trans (show _ = Value.bool (!q0a) from rfl) (congrArg Value.bool (t_not q5))) (fun h => rfl) (fun h => nomatch h)) <|
           p (yl_assign rfl) <| x_done <| ?_
          exact x_inv ⟨true, (Option.some.inj (show some _ = some _ from q8)), q0g, rfl, ((hS.pull 1).pull 1)⟩
        rintro E w ⟨q0l, rfl, q17, q0w, hS⟩
        exact x_inv ⟨q0l, (Option.some.inj (show some _ = some _ from q4)), q17, q0w, ((hS.pull 1).pull 1)⟩
       ·replace q4 := it_bf q0i q4
        refine o_pass 108 105 false (says_lit (c := true) (Eq.trans (show _ = Value.bool (!q0k) from rfl) (congrArg Value.bool (t_not q0i))) rfl) <| o_pass 109 105 false (says_lit (c := true) (Eq.trans (show _ = Value.bool (!q0k) from rfl) (congrArg Value.bool (t_not q0i))) rfl) <| p (yl_pick (b := true) (Eq.trans (show _ = Value.bool (!q0k) from rfl) (congrArg Value.bool (t_not q0i))) (fun h => rfl) (fun h => nomatch h)) <| p (yl_move rfl) <|
         o_pass 112 111 false (says_lit (c := true) rfl rfl) <| o_pass 113 111 false (says_lit (c := true) rfl rfl) <| o_pass 114 111 false (says_lit (c := true) rfl rfl) <| o_pass 115 111 false (says_lit (c := true) rfl rfl) <|
         o_pass 116 111 false (says_lit (c := true) rfl rfl) <| o_pass 117 111 false (says_lit (c := true) rfl rfl) <| o_pass 118 111 false (says_lit (c := true) rfl rfl) <| p (yl_pick (b := true) rfl (fun h => rfl) (fun h => nomatch h)) <|
         p (yl_assign rfl) <| x_done <| ?_
        exact x_inv ⟨true, (Option.some.inj (show some _ = some _ from q4)), q0g, rfl, ((hS.pull 1).pull 1)⟩
      rintro E w ⟨q0o, rfl, q0p, q10, hS⟩
      refine x_cond (t := q0o) q10 (fun hc100 => ?_) (fun hc100 => ?_)
      ·replace hF := it_t hc100 hF
       refine x_seq <| x_region <| p (yl_assign rfl) <| x_done <| ?_
       have e_ := Option.some.inj (show some _ = some _ from hF); subst e_
       exact x_return ⟨_, ⟨_, _, rfl, rfl, rfl⟩, rfl, hS.drop⟩
      ·replace hF := it_bf hc100 hF
       replace hF := lv_s hF; obtain ⟨x132, hx132, hF⟩ := hF
       replace hF := lv_s hF; obtain ⟨x133, hx133, hF⟩ := hF
       refine x_seq <| x_region <| p (yl_field0 fld_206_1 q0p) <| pa (at_load one_4 rfl (hS.cell rfl)) <|
        p (yl_not rfl) <| p (yl_move rfl) <| pg (v := .pointer (some ⟨b1, 9, none⟩)) 124 (c := !c0.Flop) (says_t _) (fun hq => Yl.at (yl_field0 fld_206_9 q0p)) <| pg (v := .int .i64 c0.Setup) 124 (c := !c0.Flop) (says_t _) (fun hq => at_load one_3 (cv hq) (hS.cell rfl)) <|
        pg (v := .bool (decide (c0.Setup ≠ 0))) 124 (c := !c0.Flop) (says_t _) (fun hq => Yl.at (yl_neq (cv hq) rfl)) <| pg (v := .bool (decide (c0.Setup ≠ 0))) 124 (c := !c0.Flop) (says_t _) (fun hq => Yl.at (yl_move (cv hq))) <| pg (v := .pointer (some ⟨b1, 10, none⟩)) 128 (c := (!c0.Flop) && !(decide (c0.Setup ≠ 0))) (says_iff _ _) (fun hq => Yl.at (yl_field0 fld_206_10 q0p)) <| pg (v := .int .i64 c0.Hold) 128 (c := (!c0.Flop) && !(decide (c0.Setup ≠ 0))) (says_iff _ _) (fun hq => at_load one_3 (cv hq) (hS.cell rfl)) <|
        pg (v := .bool (decide (c0.Hold ≠ 0))) 128 (c := (!c0.Flop) && !(decide (c0.Setup ≠ 0))) (says_iff _ _) (fun hq => Yl.at (yl_neq (cv hq) rfl)) <| pg (v := .bool x132) 124 (c := !c0.Flop) (says_t _) (fun hq => Yl.at (yor' (cv hq) rfl (fun hc => (cv (and_i hq (t_not hc)))) hx132)) <| p (yand' rfl (fun hc => (cv hc)) rfl hx133) <| p (yl_assign rfl) <|
        x_done <|
        x_cond (t := x133) rfl (fun hc120 => ?_) (fun hc120 => ?_)
       ·replace hF := it_t hc120 hF
        refine x_seq <| x_region <| p (yl_assign rfl) <| x_done <| ?_
        have e_ := Option.some.inj (show some _ = some _ from hF); subst e_
        exact x_return ⟨_, ⟨_, _, rfl, rfl, rfl⟩, rfl, hS.drop⟩
       ·replace hF := it_bf hc120 hF
        refine x_skip <| x_blk <| x_seq <| x_seq <|
         x_region <| p (yl_field0 fld_206_6 q0p) <| pa (at_load one_22 rfl (hS.cell rfl)) <| p (yl_len_slice usl_22 rfl) <|
         p (yl_move rfl) <| x_done <| ?_
        replace hF := bs_s hF; obtain ⟨oL19, hLL19, hF⟩ := hF
        refine x_join (fun E w => (Sum.inl (())) = oL19 ∧ St w0 w (ro ρ :: l)) ?_ ?_
        ·refine x_block ?_
         refine x_loop (fun k_ E w => ∃ (q0q : Int), lp (P_lib_CheckCell_L19 c0) k_ q0q = some oL19 ∧ E 1 = .pointer (some ⟨b1, 0, none⟩) ∧ E 136 = .int .i64 (c0.Min.length : Int) ∧ E 137 = .int .i64 q0q ∧ St w0 w (cells b1 206 [.string c0.Name, .bool c0.Flop, .int .i64 c0.Ins, .int .u64 c0.Table, .int .i64 c0.Area, .slice q0e c0.Cap.length c_c0_5, .slice q0h c0.Min.length c_c0_6, .slice q0b c0.Max.length c_c0_7, .int .i64 c0.Drive, .int .i64 c0.Setup, .int .i64 c0.Hold] :: ro ρ :: l)) fuel ⟨0, hLL19, q0p, rfl, rfl, ((hS.pull 1).pull 1)⟩ ?_
         rintro kL19 E w ⟨q0q, hLL19, q0u, q0v, q0r, hS⟩
         replace hLL19 := lp_s hLL19; obtain ⟨kL19, obL19, rfl, hFL19, hLL19⟩ := hLL19
         refine x_seq <| x_region <| p (yl_lss q0r q0v) <| x_done <|
          x_seq <|
          x_cond_p (q0q < (c0.Min.length : Int)) rfl (fun hc138 => ?_) (fun hc138 => ?_)
         ·replace hFL19 := it_t hc138 hFL19
          replace hFL19 := ck_s hFL19; obtain ⟨q18, hFL19⟩ := hFL19
          replace hFL19 := lv_s hFL19; obtain ⟨x144, hx144, hFL19⟩ := hFL19
          replace hFL19 := ck_s hFL19; obtain ⟨q19, hFL19⟩ := hFL19
          replace hFL19 := lv_s hFL19; obtain ⟨x149, hx149, hFL19⟩ := hFL19
          refine x_skip <| x_seq <| x_block <| x_seq <|
           x_region <| p (yl_move q0r) <| p (yl_assign rfl) <| x_done <|
           x_seq <| x_still mixed (by kernel_rfl) hS <| q (yl_field0 fld_206_6 q0u) <| qa (fun w' hS => at_load one_22 rfl (hS.cell rfl)) <|
           q (yl_move rfl) <| q (yix_f sl_22 rfl rfl q0s q18) <| qa (fun w' hS => at_load one_3 rfl (RdS.getW q0s (hS.pull 1) q18 hx144)) <| q (yl_field0 fld_206_7 q0u) <|
           qa (fun w' hS => at_load one_22 rfl (hS.cell rfl)) <| q (yl_move rfl) <| q (yix_f sl_22 rfl rfl q0t q19) <| qa (fun w' hS => at_load one_3 rfl (RdS.getW q0t (hS.pull 1) q19 hx149)) <|
           q (yl_gtr rfl rfl) <|
           q_done fun w' hS => ?_
          refine x_cond_p (x149 < x144) rfl (fun hc150 => ?_) (fun hc150 => ?_)
          ·replace hFL19 := it_t hc150 hFL19
           refine x_seq <| x_region <| p (yl_assign rfl) <| x_done <| ?_
           have e_ := Option.some.inj (show some _ = some _ from hFL19); subst e_
           have e_ := (show _ = oL19 from hLL19); subst e_
           have e_ := Option.some.inj (show some _ = some _ from hF); subst e_
           exact x_return ⟨_, ⟨_, _, rfl, rfl, rfl⟩, rfl, hS.drop⟩
          ·replace hFL19 := it_f hc150 hFL19
           replace hFL19 := ar_s hFL19; obtain ⟨x151, hx151, hFL19⟩ := hFL19
           refine x_skip <| x_blk <| x_region <| p (yadd q0r rfl hx151) <|
            p (yl_move rfl) <| x_done <| ?_
           have e_ := Option.some.inj (show some _ = some _ from hFL19); subst e_
           exact x_inv ⟨kL19, Nat.lt_succ_self _, x151, hLL19, q0u, q0v, rfl, ((hS.pull 1).pull 1)⟩
         ·replace hFL19 := it_f hc138 hFL19
          refine x_exitTo _ rfl <| ?_
          have e_ := Option.some.inj (show some _ = some _ from hFL19); subst e_
          exact x_inv ⟨hLL19, hS.drop⟩
        rintro E w ⟨rfl, hS⟩
        refine x_seq <| x_region <| p (yl_assign rfl) <| x_done <| ?_
        have e_ := Option.some.inj (show some _ = some _ from hF); subst e_
        exact x_return ⟨_, ⟨_, _, rfl, rfl, rfl⟩, rfl, hS⟩
attribute [irreducible] P_lib_CheckCell

def P_lib_Check_1 (d0 : T_api_Cell) (v1 : T_api_Cell) : Option Unit :=
 some ()
set_option maxHeartbeats 4000000 in
set_option maxRecDepth 100000 in
theorem c_lib_Check_1 {w0 w : World} {l : List Assn} {ρ : Heap} {q2 : Option Addr} {q0b : Nat} {c_d0_5 : Nat} {q3 : Option Addr} {q0c : Nat} {c_d0_6 : Nat} {q4 : Option Addr} {q0d : Nat} {c_d0_7 : Nat} {q0e : Nat} {q5 : Option Addr} {q6 : Nat} {c_v1_5 : Nat} {q7 : Option Addr} {q8 : Nat} {c_v1_6 : Nat} {q9 : Option Addr} {q0a : Nat} {c_v1_7 : Nat} {d0 : T_api_Cell} {v1 : T_api_Cell} {r : Unit} (hF : P_lib_Check_1 d0 v1 = some r) (q0f : RdS (RpI .i64) ρ q2 q0b c_d0_5 d0.Cap) (q0g : RdS (RpI .i64) ρ q3 q0c c_d0_6 d0.Min) (q0h : RdS (RpI .i64) ρ q4 q0d c_d0_7 d0.Max) (q0i : RdS (RpI .i64) ρ q5 q6 c_v1_5 v1.Cap) (q0j : RdS (RpI .i64) ρ q7 q8 c_v1_6 v1.Min) (q0k : RdS (RpI .i64) ρ q9 q0a c_v1_7 v1.Max) (hS : St w0 w (cells q0e 206 [.string v1.Name, .bool v1.Flop, .int .i64 v1.Ins, .int .u64 v1.Table, .int .i64 v1.Area, .slice q5 q6 c_v1_5, .slice q7 q8 c_v1_6, .slice q9 q0a c_v1_7, .int .i64 v1.Drive, .int .i64 v1.Setup, .int .i64 v1.Hold] :: ro ρ :: l)) :
  Calls Tryd.prog 170 #[.agg #[.string d0.Name, .bool d0.Flop, .int .i64 d0.Ins, .int .u64 d0.Table, .int .i64 d0.Area, .slice q2 q0b c_d0_5, .slice q3 q0c c_d0_6, .slice q4 q0d c_d0_7, .int .i64 d0.Drive, .int .i64 d0.Setup, .int .i64 d0.Hold], .pointer (some ⟨q0e, 0, none⟩)] w fun e w' => e = .returned (.bool (decide (d0.Name = v1.Name))) ∧ St w0 w' (cells q0e 206 [.string v1.Name, .bool v1.Flop, .int .i64 v1.Ins, .int .u64 v1.Table, .int .i64 v1.Area, .slice q5 q6 c_v1_5, .slice q7 q8 c_v1_6, .slice q9 q0a c_v1_7, .int .i64 v1.Drive, .int .i64 v1.Setup, .int .i64 v1.Hold] :: ro ρ :: l) := by
 have e_ := q0f.n; subst e_
 have e_ := q0g.n; subst e_
 have e_ := q0h.n; subst e_
 have e_ := q0i.n; subst e_
 have e_ := q0j.n; subst e_
 have e_ := q0k.n; subst e_
 refine enterC Tryd.func170 rfl 9 rfl (by simp) ?_
 refine x_seq <| x_region <| ?_
 refine o_box (cs := [.string d0.Name, .bool d0.Flop, .int .i64 d0.Ins, .int .u64 d0.Table, .int .i64 d0.Area, .slice q2 d0.Cap.length c_d0_5, .slice q3 d0.Min.length c_d0_6, .slice q4 d0.Max.length c_d0_7, .int .i64 d0.Drive, .int .i64 d0.Setup, .int .i64 d0.Hold]) rfl rfl hS (fun b2 w' hS => ?_)
 refine p (yl_assign rfl) <| x_done <| x_seq <| x_region <|
  p (yl_field0 fld_206_0 rfl) <| pa (at_load one_9 rfl (hS.cell rfl)) <| p (yl_field0 fld_206_0 rfl) <| pa (at_load one_9 rfl ((hS.pull 1).cell rfl)) <|
  p (yl_eql_string rfl rfl) <| p (yl_assign rfl) <| x_done <| ?_
 have e_ := Option.some.inj (show some _ = some _ from hF); subst e_
 exact x_return ⟨_, ⟨_, _, rfl, rfl, rfl⟩, rfl, ((hS.drop.pull 1).pull 1)⟩
attribute [irreducible] P_lib_Check_1

def P_slices_IndexFunc_api_Cell_api_Cell_L2 (s0 : List T_api_Cell) (q3 : T_api_Cell) : Int → Option (Int ⊕ (Unit ⊕ Int)) := fun q2 =>
 if q2 < (s0.length : Int) then
  ck (inb q2 s0.length) <|
  lv (gt s0 q2) fun q4 =>
  bd (P_lib_Check_1 q4 q3) fun q5 =>
  if q4.Name = q3.Name then
   some (Sum.inr (Sum.inr q2))
  else
   ar (q2 + 1) fun x18 =>
   some (Sum.inl x18)
 else
  some (Sum.inr (Sum.inl ()))
def P_slices_IndexFunc_api_Cell_api_Cell (s0 : List T_api_Cell) (q2 : T_api_Cell) : Option Int :=
 bs (
  lp (P_slices_IndexFunc_api_Cell_api_Cell_L2 s0 q2) fuel 0) (fun y => some y) fun _ =>
 some (-1 : Int)
set_option maxHeartbeats 4000000 in
set_option maxRecDepth 100000 in
theorem c_slices_IndexFunc_api_Cell_api_Cell {w0 w : World} {l : List Assn} {ρ : Heap} {q0m : Option Addr} {q0q : Nat} {c_s0 : Nat} {q7 : Nat} {q4 : Option Addr} {q8 : Nat} {c_f1_0_5 : Nat} {q5 : Option Addr} {q9 : Nat} {c_f1_0_6 : Nat} {q6 : Option Addr} {q0a : Nat} {c_f1_0_7 : Nat} {s0 : List T_api_Cell} {q2 : T_api_Cell} {r : Int} (hF : P_slices_IndexFunc_api_Cell_api_Cell s0 q2 = some r) (q0n : RdS R_api_Cell ρ q0m q0q c_s0 s0) (q0c : RdS (RpI .i64) ρ q4 q8 c_f1_0_5 q2.Cap) (q0d : RdS (RpI .i64) ρ q5 q9 c_f1_0_6 q2.Min) (q0e : RdS (RpI .i64) ρ q6 q0a c_f1_0_7 q2.Max) (hS : St w0 w (cells q7 206 [.string q2.Name, .bool q2.Flop, .int .i64 q2.Ins, .int .u64 q2.Table, .int .i64 q2.Area, .slice q4 q8 c_f1_0_5, .slice q5 q9 c_f1_0_6, .slice q6 q0a c_f1_0_7, .int .i64 q2.Drive, .int .i64 q2.Setup, .int .i64 q2.Hold] :: ro ρ :: l)) :
  Calls Tryd.prog 192 #[.slice q0m q0q c_s0, .func (.func 170) #[] #[.pointer (some ⟨q7, 0, none⟩)]] w fun e w' => e = .returned (.int .i64 r) ∧ St w0 w' (cells q7 206 [.string q2.Name, .bool q2.Flop, .int .i64 q2.Ins, .int .u64 q2.Table, .int .i64 q2.Area, .slice q4 q8 c_f1_0_5, .slice q5 q9 c_f1_0_6, .slice q6 q0a c_f1_0_7, .int .i64 q2.Drive, .int .i64 q2.Setup, .int .i64 q2.Hold] :: ro ρ :: l) := by
 have e_ := q0n.n; subst e_
 have e_ := q0c.n; subst e_
 have e_ := q0d.n; subst e_
 have e_ := q0e.n; subst e_
 refine enterC Tryd.func192 rfl 19 rfl (by simp) ?_
 refine x_seq <| x_region <| p (yl_assign rfl) <| x_done <|
  x_seq <| x_seq <| x_region <| p (yl_move rfl) <|
  p (yl_len_slice usl_31 rfl) <| p (yl_move rfl) <| x_done <| ?_
 replace hF := bs_s hF; obtain ⟨oL2, hLL2, hF⟩ := hF
 refine x_join (fun E w => (Sum.inl (())) = oL2 ∧ St w0 w (cells q7 206 [.string q2.Name, .bool q2.Flop, .int .i64 q2.Ins, .int .u64 q2.Table, .int .i64 q2.Area, .slice q4 q2.Cap.length c_f1_0_5, .slice q5 q2.Min.length c_f1_0_6, .slice q6 q2.Max.length c_f1_0_7, .int .i64 q2.Drive, .int .i64 q2.Setup, .int .i64 q2.Hold] :: ro ρ :: l)) ?_ ?_
 ·refine x_block ?_
  refine x_loop (fun k_ E w => ∃ (q0b : Int), lp (P_slices_IndexFunc_api_Cell_api_Cell_L2 s0 q2) k_ q0b = some oL2 ∧ E 0 = .slice q0m s0.length c_s0 ∧ E 1 = .func (.func 170) #[] #[.pointer (some ⟨q7, 0, none⟩)] ∧ E 7 = .int .i64 (s0.length : Int) ∧ E 8 = .int .i64 q0b ∧ St w0 w (cells q7 206 [.string q2.Name, .bool q2.Flop, .int .i64 q2.Ins, .int .u64 q2.Table, .int .i64 q2.Area, .slice q4 q2.Cap.length c_f1_0_5, .slice q5 q2.Min.length c_f1_0_6, .slice q6 q2.Max.length c_f1_0_7, .int .i64 q2.Drive, .int .i64 q2.Setup, .int .i64 q2.Hold] :: ro ρ :: l)) fuel ⟨0, hLL2, rfl, rfl, rfl, rfl, ((hS.pull 1).pull 1)⟩ ?_
  rintro kL2 E w ⟨q0b, hLL2, q0g, q0h, q0i, q0f, hS⟩
  replace hLL2 := lp_s hLL2; obtain ⟨kL2, obL2, rfl, hFL2, hLL2⟩ := hLL2
  refine x_seq <| x_region <| p (yl_lss q0f q0i) <| x_done <|
   x_seq <|
   x_cond_p (q0b < (s0.length : Int)) rfl (fun hc9 => ?_) (fun hc9 => ?_)
  ·replace hFL2 := it_t hc9 hFL2
   replace hFL2 := ck_s hFL2; obtain ⟨q0o, hFL2⟩ := hFL2
   replace hFL2 := lv_s hFL2; obtain ⟨q3, q0x, hFL2⟩ := hFL2
   have q_ := q0n.get q0o; obtain ⟨q13, q0p, q0y⟩ := q_
   rw [← q0x] at q0p
   obtain ⟨q0r, q10, q0s, q0t, q11, q0u, q0v, q12, q0w, rfl, q0j, q0k, q0l⟩ := q0p
   have e_ := q0j.n; subst e_
   have e_ := q0k.n; subst e_
   have e_ := q0l.n; subst e_
   replace hFL2 := bd_s hFL2; obtain ⟨q14, q0z, hFL2⟩ := hFL2
   refine x_skip <| x_seq <| x_block <| x_seq <|
    x_region <| p (yl_move q0f) <| p (yl_assign rfl) <| x_done <|
    x_seq <| x_region <| p (yl_move q0h) <| p (yl_move q0g) <|
    p (yl_move rfl) <| p (yix_f sl_31 rfl rfl q0n q0o) <| pa (v := .agg #[.string q3.Name, .bool q3.Flop, .int .i64 q3.Ins, .int .u64 q3.Table, .int .i64 q3.Area, .slice q0r q3.Cap.length q0s, .slice q0t q3.Min.length q0u, .slice q0v q3.Max.length q0w, .int .i64 q3.Drive, .int .i64 q3.Setup, .int .i64 q3.Hold]) (at_loadAgg agg_206 rfl rfl (Elt.every q0y (hS.pull 1))) <| ?_
   have hcall := c_lib_Check_1 q0z q0j q0k q0l q0c q0d q0e hS
   refine o_ccv rfl call_170 (capargs (args1 rfl)) (hcall) ?_
   rintro e w' ⟨rfl, hS⟩
   refine ⟨_, rfl, ?_⟩
   refine x_done <|
    x_cond_p (q3.Name = q2.Name) rfl (fun hc16 => ?_) (fun hc16 => ?_)
   ·replace hFL2 := it_t hc16 hFL2
    refine x_seq <| x_region <| p (yl_move rfl) <| p (yl_assign rfl) <|
     x_done <| ?_
    have e_ := Option.some.inj (show some _ = some _ from hFL2); subst e_
    have e_ := (show _ = oL2 from hLL2); subst e_
    have e_ := Option.some.inj (show some _ = some _ from hF); subst e_
    exact x_return ⟨_, ⟨_, _, rfl, rfl, rfl⟩, rfl, ((hS.pull 1).pull 1)⟩
   ·replace hFL2 := it_f hc16 hFL2
    replace hFL2 := ar_s hFL2; obtain ⟨x18, hx18, hFL2⟩ := hFL2
    refine x_skip <| x_blk <| x_region <| p (yadd q0f rfl hx18) <|
     p (yl_move rfl) <| x_done <| ?_
    have e_ := Option.some.inj (show some _ = some _ from hFL2); subst e_
    exact x_inv ⟨kL2, Nat.lt_succ_self _, x18, hLL2, q0g, q0h, q0i, rfl, ((hS.pull 1).pull 1)⟩
  ·replace hFL2 := it_f hc9 hFL2
   refine x_exitTo _ rfl <| ?_
   have e_ := Option.some.inj (show some _ = some _ from hFL2); subst e_
   exact x_inv ⟨hLL2, ((hS.pull 1).pull 1)⟩
 rintro E w ⟨rfl, hS⟩
 refine x_seq <| x_region <| p (yl_assign rfl) <| x_done <| ?_
 have e_ := Option.some.inj (show some _ = some _ from hF); subst e_
 exact x_return ⟨_, ⟨_, _, rfl, rfl, rfl⟩, rfl, ((hS.pull 1).pull 1)⟩
attribute [irreducible] P_slices_IndexFunc_api_Cell_api_Cell

def P_slices_ContainsFunc_api_Cell_api_Cell (s0 : List T_api_Cell) (q2 : T_api_Cell) : Option Bool :=
 bd (P_slices_IndexFunc_api_Cell_api_Cell s0 q2) fun q3 =>
 some (decide (0 ≤ q3))
set_option maxHeartbeats 4000000 in
set_option maxRecDepth 100000 in
theorem c_slices_ContainsFunc_api_Cell_api_Cell {w0 w : World} {l : List Assn} {ρ : Heap} {q0d : Option Addr} {q0e : Nat} {c_s0 : Nat} {q9 : Nat} {q3 : Option Addr} {q4 : Nat} {c_f1_0_5 : Nat} {q5 : Option Addr} {q6 : Nat} {c_f1_0_6 : Nat} {q7 : Option Addr} {q8 : Nat} {c_f1_0_7 : Nat} {s0 : List T_api_Cell} {q2 : T_api_Cell} {r : Bool} (hF : P_slices_ContainsFunc_api_Cell_api_Cell s0 q2 = some r) (q0f : RdS R_api_Cell ρ q0d q0e c_s0 s0) (q0a : RdS (RpI .i64) ρ q3 q4 c_f1_0_5 q2.Cap) (q0b : RdS (RpI .i64) ρ q5 q6 c_f1_0_6 q2.Min) (q0c : RdS (RpI .i64) ρ q7 q8 c_f1_0_7 q2.Max) (hS : St w0 w (cells q9 206 [.string q2.Name, .bool q2.Flop, .int .i64 q2.Ins, .int .u64 q2.Table, .int .i64 q2.Area, .slice q3 q4 c_f1_0_5, .slice q5 q6 c_f1_0_6, .slice q7 q8 c_f1_0_7, .int .i64 q2.Drive, .int .i64 q2.Setup, .int .i64 q2.Hold] :: ro ρ :: l)) :
  Calls Tryd.prog 169 #[.slice q0d q0e c_s0, .func (.func 170) #[] #[.pointer (some ⟨q9, 0, none⟩)]] w fun e w' => e = .returned (.bool r) ∧ St w0 w' (cells q9 206 [.string q2.Name, .bool q2.Flop, .int .i64 q2.Ins, .int .u64 q2.Table, .int .i64 q2.Area, .slice q3 q4 c_f1_0_5, .slice q5 q6 c_f1_0_6, .slice q7 q8 c_f1_0_7, .int .i64 q2.Drive, .int .i64 q2.Setup, .int .i64 q2.Hold] :: ro ρ :: l) := by
 have e_ := q0f.n; subst e_
 have e_ := q0a.n; subst e_
 have e_ := q0b.n; subst e_
 have e_ := q0c.n; subst e_
 refine enterC Tryd.func169 rfl 9 rfl (by simp) ?_
 replace hF := bd_s hF; obtain ⟨q0h, q0g, hF⟩ := hF
 refine x_seq <| x_region <| p (yl_assign rfl) <| x_done <|
  x_seq <| x_region <| p (yl_move rfl) <| p (yl_move rfl) <| ?_
 have hcall := c_slices_IndexFunc_api_Cell_api_Cell q0g q0f q0a q0b q0c hS
 refine o_cc call_192 (args2 rfl rfl) (hcall) ?_
 rintro e w' ⟨rfl, hS⟩
 refine ⟨_, rfl, ?_⟩
 refine p (yl_geq rfl rfl) <| p (yl_assign rfl) <| x_done <| ?_
 have e_ := Option.some.inj (show some _ = some _ from hF); subst e_
 exact x_return ⟨_, ⟨_, _, rfl, rfl, rfl⟩, rfl, ((hS.pull 1).pull 1)⟩
attribute [irreducible] P_slices_ContainsFunc_api_Cell_api_Cell

def P_lib_Check_L4 (l_0 : List T_api_Cell) : Int → Option (Int ⊕ (Unit ⊕ Int)) := fun q2 =>
 if q2 < (l_0.length : Int) then
  ck (inb q2 l_0.length) <|
  lv (gt l_0 q2) fun q3 =>
  bd (P_lib_CheckCell q3) fun q4 =>
  if q4 ≠ 0 then
   some (Sum.inr (Sum.inr q4))
  else
   ck (0 ≤ (0 : Int) ∧ (0 : Int) ≤ q2 ∧ q2 ≤ l_0.length) <|
   lv (sub l_0 0 q2) fun x23 =>
   bd (P_slices_ContainsFunc_api_Cell_api_Cell x23 q3) fun q5 =>
   if q5 = true then
    some (Sum.inr (Sum.inr (6 : Int)))
   else
    ar (q2 + 1) fun x26 =>
    some (Sum.inl x26)
 else
  some (Sum.inr (Sum.inl ()))
def P_lib_Check (l_0 : List T_api_Cell) : Option Int :=
 if 64 < (l_0.length : Int) then
  some (3 : Int)
 else
  bs (
   lp (P_lib_Check_L4 l_0) fuel 0) (fun y => some y) fun _ =>
  some (0 : Int)
set_option maxHeartbeats 4000000 in
set_option maxRecDepth 100000 in
theorem c_lib_Check {w0 w : World} {l : List Assn} {ρ : Heap} {q5 : Option Addr} {q0k : Nat} {c_l_0 : Nat} {l_0 : List T_api_Cell} {r : Int} (hF : P_lib_Check l_0 = some r) (q6 : RdS R_api_Cell ρ q5 q0k c_l_0 l_0) (hS : St w0 w (ro ρ :: l)) :
  Calls Tryd.prog 147 #[.slice q5 q0k c_l_0] w fun e w' => e = .returned (.int .i64 r) ∧ St w0 w' (ro ρ :: l) := by
 have e_ := q6.n; subst e_
 refine enterC Tryd.func147 rfl 27 rfl (by simp) ?_
 refine x_seq <| x_region <| p (yl_assign rfl) <| x_done <|
  x_seq <| x_seq <| x_region <| p (yl_move rfl) <|
  p (yl_len_slice usl_31 rfl) <| p (yl_gtr rfl rfl) <| x_done <|
  x_cond_p (64 < (l_0.length : Int)) rfl (fun hc8 => ?_) (fun hc8 => ?_)
 ·replace hF := it_t hc8 hF
  refine x_seq <| x_region <| p (yl_assign rfl) <| x_done <| ?_
  have e_ := Option.some.inj (show some _ = some _ from hF); subst e_
  exact x_return ⟨_, ⟨_, _, rfl, rfl, rfl⟩, rfl, hS⟩
 ·replace hF := it_f hc8 hF
  refine x_skip <| x_seq <| x_seq <| x_region <|
   p (yl_move rfl) <| p (yl_len_slice usl_31 rfl) <| p (yl_move rfl) <| x_done <| ?_
  replace hF := bs_s hF; obtain ⟨oL4, hLL4, hF⟩ := hF
  refine x_join (fun E w => (Sum.inl (())) = oL4 ∧ St w0 w (ro ρ :: l)) ?_ ?_
  ·refine x_block ?_
   refine x_loop (fun k_ E w => ∃ (q3 : Int), lp (P_lib_Check_L4 l_0) k_ q3 = some oL4 ∧ E 0 = .slice q5 l_0.length c_l_0 ∧ E 9 = .slice q5 l_0.length c_l_0 ∧ E 10 = .int .i64 (l_0.length : Int) ∧ E 11 = .int .i64 q3 ∧ St w0 w (ro ρ :: l)) fuel ⟨0, hLL4, rfl, rfl, rfl, rfl, hS⟩ ?_
   rintro kL4 E w ⟨q3, hLL4, q0i, q0j, q0h, q4, hS⟩
   replace hLL4 := lp_s hLL4; obtain ⟨kL4, obL4, rfl, hFL4, hLL4⟩ := hLL4
   refine x_seq <| x_region <| p (yl_lss q4 q0h) <| x_done <|
    x_seq <|
    x_cond_p (q3 < (l_0.length : Int)) rfl (fun hc12 => ?_) (fun hc12 => ?_)
   ·replace hFL4 := it_t hc12 hFL4
    replace hFL4 := ck_s hFL4; obtain ⟨q0l, hFL4⟩ := hFL4
    replace hFL4 := lv_s hFL4; obtain ⟨q2, q0o, hFL4⟩ := hFL4
    have q_ := q6.get q0l; obtain ⟨q0w, q0m, q0p⟩ := q_
    rw [← q0o] at q0m
    obtain ⟨q7, q0t, q8, q9, q0u, q0a, q0b, q0v, q0c, rfl, q0d, q0e, q0f⟩ := q0m
    have e_ := q0d.n; subst e_
    have e_ := q0e.n; subst e_
    have e_ := q0f.n; subst e_
    refine x_skip <| x_seq <| x_block <| x_seq <|
     x_region <| p (yl_move q4) <| p (yix_f sl_31 q0j q4 q6 q0l) <| pa (v := .agg #[.string q2.Name, .bool q2.Flop, .int .i64 q2.Ins, .int .u64 q2.Table, .int .i64 q2.Area, .slice q7 q2.Cap.length q8, .slice q9 q2.Min.length q0a, .slice q0b q2.Max.length q0c, .int .i64 q2.Drive, .int .i64 q2.Setup, .int .i64 q2.Hold]) (at_loadAgg agg_206 rfl rfl (Elt.every q0p hS)) <| ?_
    refine o_alloc zero_206 hS (fun b4 w' hS => ?_)
    refine p (yl_assign rfl) <| ?_
    refine o_storeAgg (news := [.string q2.Name, .bool q2.Flop, .int .i64 q2.Ins, .int .u64 q2.Table, .int .i64 q2.Area, .slice q7 q2.Cap.length q8, .slice q9 q2.Min.length q0a, .slice q0b q2.Max.length q0c, .int .i64 q2.Drive, .int .i64 q2.Setup, .int .i64 q2.Hold]) agg_206 rfl rfl rfl (by simp [over_length]) hS (fun w' hS => ?_)
    replace hFL4 := bd_s hFL4; obtain ⟨q0g, q0q, hFL4⟩ := hFL4
    refine x_done <| x_seq <| x_seq <| x_region <|
     pa (v := .agg #[.string q2.Name, .bool q2.Flop, .int .i64 q2.Ins, .int .u64 q2.Table, .int .i64 q2.Area, .slice q7 q2.Cap.length q8, .slice q9 q2.Min.length q0a, .slice q0b q2.Max.length q0c, .int .i64 q2.Drive, .int .i64 q2.Setup, .int .i64 q2.Hold]) (ld_sub agg_206 rfl rfl rfl hS) <| ?_
    have hcall := c_lib_CheckCell q0q q0d q0e q0f (hS.pull 1)
    refine o_cc call_168 (args1 rfl) ((Calls.mono hcall (fun e w'' h => And.intro h.1 (h.2.pull 1)))) ?_
    rintro e w' ⟨rfl, hS⟩
    refine ⟨_, rfl, ?_⟩
    refine p (v := .int .i64 q0g) (yl_assign rfl) <| x_done <| x_seq <| x_region <|
     p (v := .int .i64 q0g) (yl_move rfl) <| p (yl_neq rfl rfl) <| x_done <|
     x_cond_p (q0g ≠ 0) rfl (fun hc19 => ?_) (fun hc19 => ?_)
    ·replace hFL4 := it_t hc19 hFL4
     refine x_seq <| x_region <| p (v := .int .i64 q0g) (yl_move rfl) <| p (v := .int .i64 q0g) (yl_assign rfl) <|
      x_done <| ?_
     have e_ := Option.some.inj (show some _ = some _ from hFL4); subst e_
     have e_ := (show _ = oL4 from hLL4); subst e_
     have e_ := Option.some.inj (show some _ = some _ from hF); subst e_
     exact x_return ⟨_, ⟨_, _, rfl, rfl, rfl⟩, rfl, hS.drop⟩
    ·replace hFL4 := it_f hc19 hFL4
     replace hFL4 := ck_s hFL4; obtain ⟨q0n, hFL4⟩ := hFL4
     replace hFL4 := lv_s hFL4; obtain ⟨x23, hx23, hFL4⟩ := hFL4
     refine x_skip <| x_seq <| x_region <| p (yl_move q0i) <|
      p (yl_move rfl) <| ?_
     have q_ := RdS.sub q6 q0n hx23; obtain ⟨A23, n23, c23, hd23, f23⟩ := q_
     refine p (ysub_h sl_31 rfl rfl q0n hd23) <| ?_
     have e_ := f23.n; subst e_
     replace hFL4 := bd_s hFL4; obtain ⟨q0s, q0r, hFL4⟩ := hFL4
     refine p (v := .func (.func 170) #[] #[.pointer (some ⟨b4, 0, none⟩)]) (yl_makeFunc (by simp only [List.map_toArray, List.map_nil]) (by simp only [List.map_toArray, List.map_cons, List.map_nil]; rfl)) <| ?_
     have hcall := c_slices_ContainsFunc_api_Cell_api_Cell q0r f23 q0d q0e q0f hS
     refine o_cc call_169 (args2 rfl rfl) (hcall) ?_
     rintro e w' ⟨rfl, hS⟩
     refine ⟨_, rfl, ?_⟩
     refine x_done <|
      x_cond (t := q0s) rfl (fun hc25 => ?_) (fun hc25 => ?_)
     ·replace hFL4 := it_t hc25 hFL4
      refine x_seq <| x_region <| p (yl_assign rfl) <| x_done <| ?_
      have e_ := Option.some.inj (show some _ = some _ from hFL4); subst e_
      have e_ := (show _ = oL4 from hLL4); subst e_
      have e_ := Option.some.inj (show some _ = some _ from hF); subst e_
      exact x_return ⟨_, ⟨_, _, rfl, rfl, rfl⟩, rfl, hS.drop⟩
     ·replace hFL4 := it_bf hc25 hFL4
      replace hFL4 := ar_s hFL4; obtain ⟨x26, hx26, hFL4⟩ := hFL4
      refine x_skip <| x_blk <| x_region <| p (yadd q4 rfl hx26) <|
       p (yl_move rfl) <| x_done <| ?_
      have e_ := Option.some.inj (show some _ = some _ from hFL4); subst e_
      exact x_inv ⟨kL4, Nat.lt_succ_self _, x26, hLL4, q0i, q0j, q0h, rfl, hS.drop⟩
   ·replace hFL4 := it_f hc12 hFL4
    refine x_exitTo _ rfl <| ?_
    have e_ := Option.some.inj (show some _ = some _ from hFL4); subst e_
    exact x_inv ⟨hLL4, hS⟩
  rintro E w ⟨rfl, hS⟩
  refine x_seq <| x_region <| p (yl_assign rfl) <| x_done <| ?_
  have e_ := Option.some.inj (show some _ = some _ from hF); subst e_
  exact x_return ⟨_, ⟨_, _, rfl, rfl, rfl⟩, rfl, hS⟩
attribute [irreducible] P_lib_Check

def P_floor_Fits (c0 : T_api_Cell) : Option Bool :=
 lv ((decide (1 ≤ c0.Area)) && (decide (c0.Area ≤ 40))) fun x10 =>
 ck (x10 = true → I64 ((2 : Int) * c0.Ins)) <|
 lv ((2 : Int) * c0.Ins) fun x14 =>
 ck (x10 = true → I64 ((4 : Int) * c0.Area)) <|
 lv ((4 : Int) * c0.Area) fun x17 =>
 lv (x10 && (decide (x14 ≤ x17))) fun x19 =>
 some x19
set_option maxHeartbeats 4000000 in
set_option maxRecDepth 100000 in
theorem c_floor_Fits {w0 w : World} {l : List Assn} {ρ : Heap} {q2 : Option Addr} {q5 : Nat} {c_c0_5 : Nat} {q3 : Option Addr} {q6 : Nat} {c_c0_6 : Nat} {q4 : Option Addr} {q7 : Nat} {c_c0_7 : Nat} {c0 : T_api_Cell} {r : Bool} (hF : P_floor_Fits c0 = some r) (q8 : RdS (RpI .i64) ρ q2 q5 c_c0_5 c0.Cap) (q9 : RdS (RpI .i64) ρ q3 q6 c_c0_6 c0.Min) (q0a : RdS (RpI .i64) ρ q4 q7 c_c0_7 c0.Max) (hS : St w0 w (ro ρ :: l)) :
  Calls Tryd.prog 148 #[.agg #[.string c0.Name, .bool c0.Flop, .int .i64 c0.Ins, .int .u64 c0.Table, .int .i64 c0.Area, .slice q2 q5 c_c0_5, .slice q3 q6 c_c0_6, .slice q4 q7 c_c0_7, .int .i64 c0.Drive, .int .i64 c0.Setup, .int .i64 c0.Hold]] w fun e w' => e = .returned (.bool r) ∧ St w0 w' (ro ρ :: l) := by
 have e_ := q8.n; subst e_
 have e_ := q9.n; subst e_
 have e_ := q0a.n; subst e_
 refine enterC Tryd.func148 rfl 20 rfl (by simp) ?_
 refine x_seq <| x_region <| ?_
 refine o_box (cs := [.string c0.Name, .bool c0.Flop, .int .i64 c0.Ins, .int .u64 c0.Table, .int .i64 c0.Area, .slice q2 c0.Cap.length c_c0_5, .slice q3 c0.Min.length c_c0_6, .slice q4 c0.Max.length c_c0_7, .int .i64 c0.Drive, .int .i64 c0.Setup, .int .i64 c0.Hold]) rfl rfl hS (fun b1 w' hS => ?_)
 replace hF := lv_s hF; obtain ⟨x10, hx10, hF⟩ := hF
 replace hF := ck_s hF; obtain ⟨q0b, hF⟩ := hF
 replace hF := lv_s hF; obtain ⟨x14, hx14, hF⟩ := hF
 replace hF := ck_s hF; obtain ⟨q0c, hF⟩ := hF
 replace hF := lv_s hF; obtain ⟨x17, hx17, hF⟩ := hF
 replace hF := lv_s hF; obtain ⟨x19, hx19, hF⟩ := hF
 refine p (yl_assign rfl) <| x_done <| x_seq <| x_region <|
  p (yl_field0 fld_206_4 rfl) <| pa (at_load one_3 rfl (hS.cell rfl)) <| p (yl_geq rfl rfl) <| p (yl_move rfl) <|
  pg (v := .pointer (some ⟨b1, 4, none⟩)) 6 (c := decide (1 ≤ c0.Area)) (says_t _) (fun hq => Yl.at (yl_field0 fld_206_4 rfl)) <| pg (v := .int .i64 c0.Area) 6 (c := decide (1 ≤ c0.Area)) (says_t _) (fun hq => at_load one_3 (cv hq) (hS.cell rfl)) <| pg (v := .bool (decide (c0.Area ≤ 40))) 6 (c := decide (1 ≤ c0.Area)) (says_t _) (fun hq => Yl.at (yl_leq (cv hq) rfl)) <| p (yand' rfl (fun hc => (cv hc)) rfl hx10) <|
  p (yl_move rfl) <| pg (v := .pointer (some ⟨b1, 2, none⟩)) 11 (c := x10) (says_t _) (fun hq => Yl.at (yl_field0 fld_206_2 rfl)) <| pg (v := .int .i64 c0.Ins) 11 (c := x10) (says_t _) (fun hq => at_load one_3 (cv hq) (hS.cell rfl)) <| pg (v := .int .i64 x14) 11 (c := x10) (says_t _) (fun hq => Yl.at (ymul rfl (cv hq) ⟨hx14, (q0b hq)⟩)) <|
  pg (v := .pointer (some ⟨b1, 4, none⟩)) 11 (c := x10) (says_t _) (fun hq => Yl.at (yl_field0 fld_206_4 rfl)) <| pg (v := .int .i64 c0.Area) 11 (c := x10) (says_t _) (fun hq => at_load one_3 (cv hq) (hS.cell rfl)) <| pg (v := .int .i64 x17) 11 (c := x10) (says_t _) (fun hq => Yl.at (ymul rfl (cv hq) ⟨hx17, (q0c hq)⟩)) <| pg (v := .bool (decide (x14 ≤ x17))) 11 (c := x10) (says_t _) (fun hq => Yl.at (yl_leq (cv hq) (cv hq))) <|
  p (yand' rfl (fun hc => (cv hc)) rfl hx19) <| p (yl_assign rfl) <| x_done <| ?_
 have e_ := Option.some.inj (show some _ = some _ from hF); subst e_
 exact x_return ⟨_, ⟨_, _, rfl, rfl, rfl⟩, rfl, hS.drop⟩
attribute [irreducible] P_floor_Fits

def P_floor_CheckLib_L5 (l_0 : List T_api_Cell) : Int → Option (Int ⊕ (Unit ⊕ Int)) := fun q2 =>
 if q2 < (l_0.length : Int) then
  ck (inb q2 l_0.length) <|
  lv (gt l_0 q2) fun q3 =>
  bd (P_floor_Fits q3) fun q4 =>
  if (!q4) = true then
   some (Sum.inr (Sum.inr (4 : Int)))
  else
   ar (q2 + 1) fun x20 =>
   some (Sum.inl x20)
 else
  some (Sum.inr (Sum.inl ()))
def P_floor_CheckLib (l_0 : List T_api_Cell) : Option Int :=
 bd (P_lib_Check l_0) fun q2 =>
 if q2 ≠ 0 then
  some q2
 else
  bs (
   lp (P_floor_CheckLib_L5 l_0) fuel 0) (fun y => some y) fun _ =>
  some (0 : Int)
set_option maxHeartbeats 4000000 in
set_option maxRecDepth 100000 in
theorem c_floor_CheckLib {w0 w : World} {l : List Assn} {ρ : Heap} {q0f : Option Addr} {q0j : Nat} {c_l_0 : Nat} {l_0 : List T_api_Cell} {r : Int} (hF : P_floor_CheckLib l_0 = some r) (q5 : RdS R_api_Cell ρ q0f q0j c_l_0 l_0) (hS : St w0 w (ro ρ :: l)) :
  Calls Tryd.prog 104 #[.slice q0f q0j c_l_0] w fun e w' => e = .returned (.int .i64 r) ∧ St w0 w' (ro ρ :: l) := by
 have e_ := q5.n; subst e_
 refine enterC Tryd.func104 rfl 21 rfl (by simp) ?_
 replace hF := bd_s hF; obtain ⟨q6, q0m, hF⟩ := hF
 refine x_seq <| x_region <| p (yl_assign rfl) <| x_done <|
  x_seq <| x_seq <| x_region <| p (yl_move rfl) <| ?_
 have hcall := c_lib_Check q0m q5 hS
 refine o_cc call_147 (args1 rfl) (hcall) ?_
 rintro e w' ⟨rfl, hS⟩
 refine ⟨_, rfl, ?_⟩
 refine p (v := .int .i64 q6) (yl_assign rfl) <| x_done <| x_seq <| x_region <|
  p (v := .int .i64 q6) (yl_move rfl) <| p (yl_neq rfl rfl) <| x_done <|
  x_cond_p (q6 ≠ 0) rfl (fun hc9 => ?_) (fun hc9 => ?_)
 ·replace hF := it_t hc9 hF
  refine x_seq <| x_region <| p (v := .int .i64 q6) (yl_move rfl) <| p (v := .int .i64 q6) (yl_assign rfl) <|
   x_done <| ?_
  have e_ := Option.some.inj (show some _ = some _ from hF); subst e_
  exact x_return ⟨_, ⟨_, _, rfl, rfl, rfl⟩, rfl, hS⟩
 ·replace hF := it_f hc9 hF
  refine x_skip <| x_seq <| x_seq <| x_region <|
   p (yl_move rfl) <| p (yl_len_slice usl_31 rfl) <| p (yl_move rfl) <| x_done <| ?_
  replace hF := bs_s hF; obtain ⟨oL5, hLL5, hF⟩ := hF
  refine x_join (fun E w => (Sum.inl (())) = oL5 ∧ St w0 w (ro ρ :: l)) ?_ ?_
  ·refine x_block ?_
   refine x_loop (fun k_ E w => ∃ (q3 : Int), lp (P_floor_CheckLib_L5 l_0) k_ q3 = some oL5 ∧ E 11 = .slice q0f l_0.length c_l_0 ∧ E 12 = .int .i64 (l_0.length : Int) ∧ E 13 = .int .i64 q3 ∧ St w0 w (ro ρ :: l)) fuel ⟨0, hLL5, rfl, rfl, rfl, hS⟩ ?_
   rintro kL5 E w ⟨q3, hLL5, q0d, q0e, q4, hS⟩
   replace hLL5 := lp_s hLL5; obtain ⟨kL5, obL5, rfl, hFL5, hLL5⟩ := hLL5
   refine x_seq <| x_region <| p (yl_lss q4 q0e) <| x_done <|
    x_seq <|
    x_cond_p (q3 < (l_0.length : Int)) rfl (fun hc14 => ?_) (fun hc14 => ?_)
   ·replace hFL5 := it_t hc14 hFL5
    replace hFL5 := ck_s hFL5; obtain ⟨q0k, hFL5⟩ := hFL5
    replace hFL5 := lv_s hFL5; obtain ⟨q2, q0n, hFL5⟩ := hFL5
    have q_ := q5.get q0k; obtain ⟨q0u, q0l, q0o⟩ := q_
    rw [← q0n] at q0l
    obtain ⟨q7, q0r, q8, q9, q0s, q0a, q0b, q0t, q0c, rfl, q0g, q0h, q0i⟩ := q0l
    have e_ := q0g.n; subst e_
    have e_ := q0h.n; subst e_
    have e_ := q0i.n; subst e_
    refine x_skip <| x_seq <| x_block <| x_seq <|
     x_region <| p (yix_f sl_31 q0d q4 q5 q0k) <| pa (v := .agg #[.string q2.Name, .bool q2.Flop, .int .i64 q2.Ins, .int .u64 q2.Table, .int .i64 q2.Area, .slice q7 q2.Cap.length q8, .slice q9 q2.Min.length q0a, .slice q0b q2.Max.length q0c, .int .i64 q2.Drive, .int .i64 q2.Setup, .int .i64 q2.Hold]) (at_loadAgg agg_206 rfl rfl (Elt.every q0o hS)) <| ?_
    refine o_alloc zero_206 hS (fun b5 w' hS => ?_)
    refine o_storeAgg (news := [.string q2.Name, .bool q2.Flop, .int .i64 q2.Ins, .int .u64 q2.Table, .int .i64 q2.Area, .slice q7 q2.Cap.length q8, .slice q9 q2.Min.length q0a, .slice q0b q2.Max.length q0c, .int .i64 q2.Drive, .int .i64 q2.Setup, .int .i64 q2.Hold]) agg_206 rfl rfl rfl (by simp [over_length]) hS (fun w' hS => ?_)
    replace hFL5 := bd_s hFL5; obtain ⟨q0q, q0p, hFL5⟩ := hFL5
    refine x_done <| x_seq <| x_region <| pa (v := .agg #[.string q2.Name, .bool q2.Flop, .int .i64 q2.Ins, .int .u64 q2.Table, .int .i64 q2.Area, .slice q7 q2.Cap.length q8, .slice q9 q2.Min.length q0a, .slice q0b q2.Max.length q0c, .int .i64 q2.Drive, .int .i64 q2.Setup, .int .i64 q2.Hold]) (ld_sub agg_206 rfl rfl rfl hS) <| ?_
    have hcall := c_floor_Fits q0p q0g q0h q0i (hS.pull 1)
    refine o_cc call_148 (args1 rfl) ((Calls.mono hcall (fun e w'' h => And.intro h.1 (h.2.pull 1)))) ?_
    rintro e w' ⟨rfl, hS⟩
    refine ⟨_, rfl, ?_⟩
    refine p (yl_not rfl) <| x_done <|
     x_cond (t := !q0q) rfl (fun hc19 => ?_) (fun hc19 => ?_)
    ·replace hFL5 := it_t hc19 hFL5
     refine x_seq <| x_region <| p (yl_assign rfl) <| x_done <| ?_
     have e_ := Option.some.inj (show some _ = some _ from hFL5); subst e_
     have e_ := (show _ = oL5 from hLL5); subst e_
     have e_ := Option.some.inj (show some _ = some _ from hF); subst e_
     exact x_return ⟨_, ⟨_, _, rfl, rfl, rfl⟩, rfl, hS.drop⟩
    ·replace hFL5 := it_bf hc19 hFL5
     replace hFL5 := ar_s hFL5; obtain ⟨x20, hx20, hFL5⟩ := hFL5
     refine x_skip <| x_blk <| x_region <| p (yadd q4 rfl hx20) <|
      p (yl_move rfl) <| x_done <| ?_
     have e_ := Option.some.inj (show some _ = some _ from hFL5); subst e_
     exact x_inv ⟨kL5, Nat.lt_succ_self _, x20, hLL5, q0d, q0e, rfl, hS.drop⟩
   ·replace hFL5 := it_f hc14 hFL5
    refine x_exitTo _ rfl <| ?_
    have e_ := Option.some.inj (show some _ = some _ from hFL5); subst e_
    exact x_inv ⟨hLL5, hS⟩
  rintro E w ⟨rfl, hS⟩
  refine x_seq <| x_region <| p (yl_assign rfl) <| x_done <| ?_
  have e_ := Option.some.inj (show some _ = some _ from hF); subst e_
  exact x_return ⟨_, ⟨_, _, rfl, rfl, rfl⟩, rfl, hS⟩
attribute [irreducible] P_floor_CheckLib

def P_slices_Clone_string_string (s0 : List ByteArray) : Option (List ByteArray) :=
 lv (([] : List ByteArray) ++ s0) fun q2 =>
 ck (apOk 16 q2.length) <|
 some q2
set_option maxHeartbeats 4000000 in
set_option maxRecDepth 100000 in
theorem c_slices_Clone_string_string {w0 w : World} {l : List Assn} {ρ : Heap} {q6 : Option Addr} {q8 : Nat} {c_s0 : Nat} {s0 : List ByteArray} {r : List ByteArray} (hF : P_slices_Clone_string_string s0 = some r) (q7 : RdS RpS ρ q6 q8 c_s0 s0) (hS : St w0 w (ro ρ :: l)) :
  Calls Tryd.prog 106 #[.slice q6 q8 c_s0] w fun e w' => ∃ (q5 : Option Addr) (q2 : Nat) (c_y0_ret : Nat) (q3 : List Value), e = .returned (.slice q5 q2 c_y0_ret) ∧ RepL RpS ρ r q3 ∧ St w0 w' (vec 9 RpS.sz (.slice q5 q2 c_y0_ret) q2 q3 :: ro ρ :: l) := by
 have e_ := q7.n; subst e_
 refine enterC Tryd.func106 rfl 8 rfl (by simp) ?_
 refine x_seq <| x_region <| p (yl_assign rfl) <| x_done <|
  x_seq <| x_seq <| x_region <| p (yl_move rfl) <|
  p (yeq_nil usl_26 rfl rfl) <| x_done <|
  x_cond (t := Option.isNone q6) rfl (fun hc4 => ?_) (fun hc4 => ?_)
 ·have hx0 : s0 = [] := RdS.nil_of q7 hc4
  have hF : some ([] : List ByteArray) = some r := by rw [hx0] at hF; unfold P_slices_Clone_string_string at hF; simpa [lv, ck, apOk] using hF
  refine x_seq <| x_region <| p (yl_assign rfl) <| x_done <| ?_
  replace hS := St.vec_nil hS 9 RpS.sz
  have q4 : RepL RpS ρ [] [] := rfl
  have e_ := Option.some.inj (show some _ = some _ from hF); subst e_
  exact x_return ⟨_, ⟨_, _, rfl, rfl, rfl⟩, none, 0, 0, [], rfl, q4, ((hS.pull 1).pull 1)⟩
 ·skip
  refine x_skip <| x_seq <| x_region <| ?_
  refine o_buildSlice (vs := []) (cs := []) sl_26 zero_9 (parts_eq pt0) rfl (by intro v hv; cases hv) (by decide) rfl hS (fun b5 w' hS => ?_)
  refine p (yl_move rfl) <| ?_
  have q9 : RepL RpS ρ ([] : List ByteArray) [] := RepL.nil
  replace hS := St.vec_of (n := 0) (sz := RpS.sz) hS rfl (by decide)
  have q_ := src_f usl_26 (hS.pull 1) q7; obtain ⟨nw7, hnw7, src7⟩ := q_
  replace hF := lv_s hF; obtain ⟨q0c, q0a, hF⟩ := hF
  replace hF := ck_s hF; obtain ⟨q0b, hF⟩ := hF
  refine o_ap sl_26 zero_9 rfl (by decide) rfl rfl hS q9 src7 hnw7 q0a q0b (fun A7 c7 cs7 w' hr7 hS => ?_)
  refine p (yl_assign rfl) <| x_done <| ?_
  have e_ := Option.some.inj (show some _ = some _ from hF); subst e_
  exact x_return ⟨_, ⟨_, _, rfl, rfl, rfl⟩, A7, q0c.length, c7, cs7, rfl, hr7, ((hS.pull 1).pull 1)⟩
attribute [irreducible] P_slices_Clone_string_string

def P_graph_Name_L4 (q3 : List Int) : Int → Option (Int ⊕ (Unit ⊕ Bool)) := fun q2 =>
 if q2 < (q3.length : Int) then
  ck (inb q2 q3.length) <|
  lv (gt q3 q2) fun x19 =>
  lv ((decide (x19 < 33)) || (decide (126 < x19))) fun x25 =>
  if x25 = true then
   some (Sum.inr (Sum.inr false))
  else
   ar (q2 + 1) fun x26 =>
   some (Sum.inl x26)
 else
  some (Sum.inr (Sum.inl ()))
def P_graph_Name (s0 : ByteArray) : Option Bool :=
 lv ((decide ((s0.size : Int) < 1)) || (decide (128 < (s0.size : Int)))) fun x12 =>
 if x12 = true then
  some false
 else
  lv (bytesL s0) fun q2 =>
  bs (
   lp (P_graph_Name_L4 q2) fuel 0) (fun y => some y) fun _ =>
  some true
set_option maxHeartbeats 4000000 in
set_option maxRecDepth 100000 in
theorem c_graph_Name {w0 w : World} {l : List Assn} {ρ : Heap} {s0 : ByteArray} {r : Bool} (hF : P_graph_Name s0 = some r) (hS : St w0 w (ro ρ :: l)) :
  Calls Tryd.prog 193 #[.string s0] w fun e w' => e = .returned (.bool r) ∧ St w0 w' (ro ρ :: l) := by
 refine enterC Tryd.func193 rfl 27 rfl (by simp) ?_
 replace hF := lv_s hF; obtain ⟨x12, hx12, hF⟩ := hF
 refine x_seq <| x_region <| p (yl_assign rfl) <| x_done <|
  x_seq <| x_seq <| x_region <| p (yl_move rfl) <|
  p (yl_len_string us_9 rfl) <| p (yl_lss rfl rfl) <| p (yl_move rfl) <| pg (v := .string s0) 8 (c := !(decide ((s0.size : Int) < 1))) (says_f _) (fun hq => Yl.at (yl_move rfl)) <|
  pg (v := .int .i64 (s0.size : Int)) 8 (c := !(decide ((s0.size : Int) < 1))) (says_f _) (fun hq => Yl.at (yl_len_string us_9 (cv hq))) <| pg (v := .bool (decide (128 < (s0.size : Int)))) 8 (c := !(decide ((s0.size : Int) < 1))) (says_f _) (fun hq => Yl.at (yl_gtr (cv hq) rfl)) <| p (yor' rfl rfl (fun hc => (cv (t_not hc))) hx12) <| x_done <|
  x_cond (t := x12) rfl (fun hc12 => ?_) (fun hc12 => ?_)
 ·replace hF := it_t hc12 hF
  refine x_seq <| x_region <| p (yl_assign rfl) <| x_done <| ?_
  have e_ := Option.some.inj (show some _ = some _ from hF); subst e_
  exact x_return ⟨_, ⟨_, _, rfl, rfl, rfl⟩, rfl, hS⟩
 ·replace hF := it_bf hc12 hF
  refine x_skip <| x_seq <| x_seq <| x_region <|
   p (yl_move rfl) <| ?_
  replace hF := lv_s hF; obtain ⟨q6, q0a, hF⟩ := hF
  refine o_byt us_9 usl_169 ui_5 rfl q0a hS (fun q9 A14 c14 w' q7 f14 hS => ?_)
  refine p (yl_len_slice usl_169 rfl) <| p (yl_move rfl) <| x_done <| ?_
  replace hF := bs_s hF; obtain ⟨oL4, hLL4, hF⟩ := hF
  refine x_join (fun E w => (Sum.inl (())) = oL4 ∧ St w0 w (ro q9 :: l)) ?_ ?_
  ·refine x_block ?_
   refine x_loop (fun k_ E w => ∃ (q2 : Int), lp (P_graph_Name_L4 q6) k_ q2 = some oL4 ∧ E 14 = .slice A14 q6.length c14 ∧ E 15 = .int .i64 (q6.length : Int) ∧ E 16 = .int .i64 q2 ∧ St w0 w (ro q9 :: l)) fuel ⟨0, hLL4, rfl, rfl, rfl, hS⟩ ?_
   rintro kL4 E w ⟨q2, hLL4, q4, q5, q3, hS⟩
   replace hLL4 := lp_s hLL4; obtain ⟨kL4, obL4, rfl, hFL4, hLL4⟩ := hLL4
   refine x_seq <| x_region <| p (yl_lss q3 q5) <| x_done <|
    x_seq <|
    x_cond_p (q2 < (q6.length : Int)) rfl (fun hc17 => ?_) (fun hc17 => ?_)
   ·replace hFL4 := it_t hc17 hFL4
    replace hFL4 := ck_s hFL4; obtain ⟨q8, hFL4⟩ := hFL4
    replace hFL4 := lv_s hFL4; obtain ⟨x19, hx19, hFL4⟩ := hFL4
    replace hFL4 := lv_s hFL4; obtain ⟨x25, hx25, hFL4⟩ := hFL4
    refine x_skip <| x_seq <| x_block <| x_seq <|
     x_region <| p (yix_f sl_169 q4 q3 f14 q8) <| pa (at_load one_5 rfl (RdS.getW f14 hS q8 hx19)) <| p (yl_assign rfl) <|
     x_done <| x_seq <| x_region <| p (yl_move rfl) <|
     p (yl_lss rfl rfl) <| p (yl_move rfl) <| pg (v := .int .u8 x19) 22 (c := !(decide (x19 < 33))) (says_f _) (fun hq => Yl.at (yl_move rfl)) <| pg (v := .bool (decide (126 < x19))) 22 (c := !(decide (x19 < 33))) (says_f _) (fun hq => Yl.at (yl_gtr (cv hq) rfl)) <|
     p (yor' rfl rfl (fun hc => (cv (t_not hc))) hx25) <| x_done <|
     x_cond (t := x25) rfl (fun hc25 => ?_) (fun hc25 => ?_)
    ·replace hFL4 := it_t hc25 hFL4
     refine x_seq <| x_region <| p (yl_assign rfl) <| x_done <| ?_
     have e_ := Option.some.inj (show some _ = some _ from hFL4); subst e_
     have e_ := (show _ = oL4 from hLL4); subst e_
     have e_ := Option.some.inj (show some _ = some _ from hF); subst e_
     exact x_return ⟨_, ⟨_, _, rfl, rfl, rfl⟩, rfl, (ro_back0 q7 hS)⟩
    ·replace hFL4 := it_bf hc25 hFL4
     replace hFL4 := ar_s hFL4; obtain ⟨x26, hx26, hFL4⟩ := hFL4
     refine x_skip <| x_blk <| x_region <| p (yadd q3 rfl hx26) <|
      p (yl_move rfl) <| x_done <| ?_
     have e_ := Option.some.inj (show some _ = some _ from hFL4); subst e_
     exact x_inv ⟨kL4, Nat.lt_succ_self _, x26, hLL4, q4, q5, rfl, hS⟩
   ·replace hFL4 := it_f hc17 hFL4
    refine x_exitTo _ rfl <| ?_
    have e_ := Option.some.inj (show some _ = some _ from hFL4); subst e_
    exact x_inv ⟨hLL4, hS⟩
  rintro E w ⟨rfl, hS⟩
  refine x_seq <| x_region <| p (yl_assign rfl) <| x_done <| ?_
  have e_ := Option.some.inj (show some _ = some _ from hF); subst e_
  exact x_return ⟨_, ⟨_, _, rfl, rfl, rfl⟩, rfl, (ro_back0 q7 hS)⟩
attribute [irreducible] P_graph_Name

def P_graph_Names_L3 (l_0 : List ByteArray) : (List (ByteArray × Int) × Int) → Option ((List (ByteArray × Int) × Int) ⊕ (Unit ⊕ Int)) := fun (q3, q2) =>
 if q2 < (l_0.length : Int) then
  ck (inb q2 l_0.length) <|
  lv (gt l_0 q2) fun x12 =>
  bd (P_graph_Name x12) fun q5 =>
  if (!q5) = true then
   some (Sum.inr (Sum.inr (9 : Int)))
  else
   lv (mget x12 q3 0) fun x18 =>
   ar (x18 + 1) fun x19 =>
   lv (mput x12 x19 q3) fun q4 =>
   lv (mget x12 q4 0) fun x22 =>
   if 1 < x22 then
    some (Sum.inr (Sum.inr (6 : Int)))
   else
    ar (q2 + 1) fun x24 =>
    some (Sum.inl (q4, x24))
 else
  some (Sum.inr (Sum.inl ()))
def P_graph_Names (l_0 : List ByteArray) : Option Int :=
 bs (
  lp (P_graph_Names_L3 l_0) fuel ([], 0)) (fun y => some y) fun _ =>
 some (0 : Int)
set_option maxHeartbeats 4000000 in
set_option maxRecDepth 100000 in
theorem c_graph_Names {w0 w : World} {l : List Assn} {ρ : Heap} {q6 : Option Addr} {q0a : Nat} {c_l_0 : Nat} {l_0 : List ByteArray} {r : Int} (hF : P_graph_Names l_0 = some r) (q7 : RdS RpS ρ q6 q0a c_l_0 l_0) (hS : St w0 w (ro ρ :: l)) :
  Calls Tryd.prog 171 #[.slice q6 q0a c_l_0] w fun e w' => e = .returned (.int .i64 r) ∧ St w0 w' (ro ρ :: l) := by
 have e_ := q7.n; subst e_
 refine enterC Tryd.func171 rfl 25 rfl (by simp) ?_
 refine x_seq <| x_region <| p (yl_assign rfl) <| x_done <|
  x_seq <| x_region <| ?_
 refine o_mkmap (κ := ByteArray) (α := Int) Value.string (Value.int .i64) hS (fun b6 w' hS => ?_)
 refine p (yl_assign rfl) <| x_done <| x_seq <| x_seq <|
  x_region <| p (yl_move rfl) <| p (yl_len_slice usl_26 rfl) <| p (yl_move rfl) <|
  x_done <| ?_
 replace hF := bs_s hF; obtain ⟨oL3, hLL3, hF⟩ := hF
 refine x_join (fun E w => (Sum.inl (())) = oL3 ∧ St w0 w (ro ρ :: l)) ?_ ?_
 ·refine x_block ?_
  refine x_loop (fun k_ E w => ∃ (q2 : List (ByteArray × Int)) (q3 : Int), lp (P_graph_Names_L3 l_0) k_ (q2, q3) = some oL3 ∧ E 3 = .map (some b6) ∧ E 7 = .slice q6 l_0.length c_l_0 ∧ E 8 = .int .i64 (l_0.length : Int) ∧ E 9 = .int .i64 q3 ∧ St w0 w (mapA b6 Value.string (Value.int .i64) q2 :: ro ρ :: l)) fuel ⟨[], 0, hLL3, rfl, rfl, rfl, rfl, ((hS.pull 1).pull 1)⟩ ?_
  rintro kL3 E w ⟨q2, q3, hLL3, q4, q8, q9, q5, hS⟩
  replace hLL3 := lp_s hLL3; obtain ⟨kL3, obL3, rfl, hFL3, hLL3⟩ := hLL3
  refine x_seq <| x_region <| p (yl_lss q5 q9) <| x_done <|
   x_seq <|
   x_cond_p (q3 < (l_0.length : Int)) rfl (fun hc10 => ?_) (fun hc10 => ?_)
  ·replace hFL3 := it_t hc10 hFL3
   replace hFL3 := ck_s hFL3; obtain ⟨q0b, hFL3⟩ := hFL3
   replace hFL3 := lv_s hFL3; obtain ⟨x12, hx12, hFL3⟩ := hFL3
   replace hFL3 := bd_s hFL3; obtain ⟨q0e, q0c, hFL3⟩ := hFL3
   refine x_skip <| x_seq <| x_block <| x_seq <|
    x_region <| p (yix_f sl_26 q8 q5 q7 q0b) <| pa (at_load one_9 rfl (RdS.getW q7 (hS.pull 1) q0b hx12)) <| p (yl_assign rfl) <|
    x_done <| x_seq <| x_seq <| x_region <|
    p (yl_move rfl) <| ?_
   have hcall := c_graph_Name q0c  (hS.pull 1)
   refine o_cc call_193 (args1 rfl) ((Calls.mono hcall (fun e w'' h => And.intro h.1 (h.2.pull 1)))) ?_
   rintro e w' ⟨rfl, hS⟩
   refine ⟨_, rfl, ?_⟩
   refine p (yl_not rfl) <| x_done <|
    x_cond (t := !q0e) rfl (fun hc15 => ?_) (fun hc15 => ?_)
   ·replace hFL3 := it_t hc15 hFL3
    refine x_seq <| x_region <| p (yl_assign rfl) <| x_done <| ?_
    have e_ := Option.some.inj (show some _ = some _ from hFL3); subst e_
    have e_ := (show _ = oL3 from hLL3); subst e_
    have e_ := Option.some.inj (show some _ = some _ from hF); subst e_
    exact x_return ⟨_, ⟨_, _, rfl, rfl, rfl⟩, rfl, hS.drop⟩
   ·replace hFL3 := it_bf hc15 hFL3
    replace hFL3 := lv_s hFL3; obtain ⟨x18, hx18, hFL3⟩ := hFL3
    replace hFL3 := ar_s hFL3; obtain ⟨x19, hx19, hFL3⟩ := hFL3
    refine x_skip <| x_seq <| x_region <| p (yl_move q4) <|
     p (yl_move rfl) <| pa (at_look (k := x12) um_279 (KeyP.string us_9) (zero1 zv_3) rfl rfl hS hx18) <| p (yadd rfl rfl hx19) <| ?_
    replace hFL3 := lv_s hFL3; obtain ⟨q0f, q0d, hFL3⟩ := hFL3
    refine o_mapset (vf := (Value.int .i64)) (v := x19) um_279 (KeyP.string us_9) rfl rfl rfl hS q0d (fun w' hS => ?_)
    replace hFL3 := lv_s hFL3; obtain ⟨x22, hx22, hFL3⟩ := hFL3
    refine x_done <| x_seq <| x_region <| p (yl_move q4) <|
     p (yl_move rfl) <| pa (at_look (k := x12) um_279 (KeyP.string us_9) (zero1 zv_3) rfl rfl hS hx22) <| p (yl_gtr rfl rfl) <| x_done <|
     x_cond_p (1 < x22) rfl (fun hc23 => ?_) (fun hc23 => ?_)
    ·replace hFL3 := it_t hc23 hFL3
     refine x_seq <| x_region <| p (yl_assign rfl) <| x_done <| ?_
     have e_ := Option.some.inj (show some _ = some _ from hFL3); subst e_
     have e_ := (show _ = oL3 from hLL3); subst e_
     have e_ := Option.some.inj (show some _ = some _ from hF); subst e_
     exact x_return ⟨_, ⟨_, _, rfl, rfl, rfl⟩, rfl, hS.drop⟩
    ·replace hFL3 := it_f hc23 hFL3
     replace hFL3 := ar_s hFL3; obtain ⟨x24, hx24, hFL3⟩ := hFL3
     refine x_skip <| x_blk <| x_region <| p (yadd q5 rfl hx24) <|
      p (yl_move rfl) <| x_done <| ?_
     have e_ := Option.some.inj (show some _ = some _ from hFL3); subst e_
     exact x_inv ⟨kL3, Nat.lt_succ_self _, q0f, x24, hLL3, q4, q8, q9, rfl, ((hS.pull 1).pull 1)⟩
  ·replace hFL3 := it_f hc10 hFL3
   refine x_exitTo _ rfl <| ?_
   have e_ := Option.some.inj (show some _ = some _ from hFL3); subst e_
   exact x_inv ⟨hLL3, hS.drop⟩
 rintro E w ⟨rfl, hS⟩
 refine x_seq <| x_region <| p (yl_assign rfl) <| x_done <| ?_
 have e_ := Option.some.inj (show some _ = some _ from hF); subst e_
 exact x_return ⟨_, ⟨_, _, rfl, rfl, rfl⟩, rfl, hS⟩
attribute [irreducible] P_graph_Names

def P_netlist_ends_L3 (n0 : T_api_Netlist) (q4 : Int) : Int → Option (Int ⊕ (Unit ⊕ Int)) := fun q2 =>
 if q2 < (n0.Flops.length : Int) then
  ck (inb q2 n0.Flops.length) <|
  lv (gt n0.Flops q2) fun q3 =>
  lv ((decide (q3.D < 0)) || (decide (q4 ≤ q3.D))) fun x25 =>
  lv (x25 || (decide (q3.En < 0))) fun x30 =>
  lv (x30 || (decide (q4 ≤ q3.En))) fun x36 =>
  if x36 = true then
   some (Sum.inr (Sum.inr (2 : Int)))
  else
   ar (q2 + 1) fun x37 =>
   some (Sum.inl x37)
 else
  some (Sum.inr (Sum.inl ()))
def P_netlist_ends_L9 (n0 : T_api_Netlist) (q3 : Int) : Int → Option (Int ⊕ (Unit ⊕ Int)) := fun q2 =>
 if q2 < (n0.Outs.length : Int) then
  ck (inb q2 n0.Outs.length) <|
  lv (gt n0.Outs q2) fun x44 =>
  lv ((decide (x44 < 0)) || (decide (q3 ≤ x44))) fun x51 =>
  if x51 = true then
   some (Sum.inr (Sum.inr (2 : Int)))
  else
   ar (q2 + 1) fun x52 =>
   some (Sum.inl x52)
 else
  some (Sum.inr (Sum.inl ()))
def P_netlist_ends (n0 : T_api_Netlist) : Option Int :=
 bd (P_netlist_Nets n0) fun q2 =>
 bs (
  lp (P_netlist_ends_L3 n0 q2) fuel 0) (fun y => some y) fun _ =>
 bs (
  lp (P_netlist_ends_L9 n0 q2) fuel 0) (fun y => some y) fun _ =>
 some (0 : Int)
set_option maxHeartbeats 4000000 in
set_option maxRecDepth 100000 in
theorem c_netlist_ends {w0 w : World} {l : List Assn} {ρ : Heap} {q6 : Option Addr} {q0k : Nat} {c_n0_0 : Nat} {q7 : Option Addr} {q0l : Nat} {c_n0_1 : Nat} {q4 : Option Addr} {q0m : Nat} {c_n0_2 : Nat} {q8 : Option Addr} {q0n : Nat} {c_n0_3 : Nat} {q5 : Option Addr} {q0o : Nat} {c_n0_4 : Nat} {n0 : T_api_Netlist} {r : Int} (hF : P_netlist_ends n0 = some r) (q0p : RdS RpS ρ q6 q0k c_n0_0 n0.In) (q0q : RdS RpS ρ q7 q0l c_n0_1 n0.Out) (q0b : RdS R_api_Flop ρ q4 q0m c_n0_2 n0.Flops) (q0r : RdS R_api_Gate ρ q8 q0n c_n0_3 n0.Gates) (q0c : RdS (RpI .i64) ρ q5 q0o c_n0_4 n0.Outs) (hS : St w0 w (ro ρ :: l)) :
  Calls Tryd.prog 173 #[.agg #[.slice q6 q0k c_n0_0, .slice q7 q0l c_n0_1, .slice q4 q0m c_n0_2, .slice q8 q0n c_n0_3, .slice q5 q0o c_n0_4]] w fun e w' => e = .returned (.int .i64 r) ∧ St w0 w' (ro ρ :: l) := by
 have e_ := q0p.n; subst e_
 have e_ := q0q.n; subst e_
 have e_ := q0b.n; subst e_
 have e_ := q0r.n; subst e_
 have e_ := q0c.n; subst e_
 refine enterC Tryd.func173 rfl 53 rfl (by simp) ?_
 refine x_seq <| x_region <| ?_
 refine o_box (cs := [.slice q6 n0.In.length c_n0_0, .slice q7 n0.Out.length c_n0_1, .slice q4 n0.Flops.length c_n0_2, .slice q8 n0.Gates.length c_n0_3, .slice q5 n0.Outs.length c_n0_4]) rfl rfl hS (fun b1 w' hS => ?_)
 replace hF := bd_s hF; obtain ⟨q3, q0x, hF⟩ := hF
 refine p (yl_assign rfl) <| x_done <| x_seq <| x_region <|
  pa (v := .agg #[.slice q6 n0.In.length c_n0_0, .slice q7 n0.Out.length c_n0_1, .slice q4 n0.Flops.length c_n0_2, .slice q8 n0.Gates.length c_n0_3, .slice q5 n0.Outs.length c_n0_4]) (ld_sub agg_30 rfl rfl rfl hS) <| ?_
 have hcall := c_netlist_Nets q0x q0p q0q q0b q0r q0c (hS.pull 1)
 refine o_cc call_12 (args1 rfl) ((Calls.mono hcall (fun e w'' h => And.intro h.1 (h.2.pull 1)))) ?_
 rintro e w' ⟨rfl, hS⟩
 refine ⟨_, rfl, ?_⟩
 refine p (v := .int .i64 q3) (yl_assign rfl) <| x_done <| x_seq <| x_seq <|
  x_region <| p (yl_field0 fld_30_2 rfl) <| pa (at_load one_27 rfl (hS.cell rfl)) <| p (yl_len_slice usl_27 rfl) <|
  p (yl_move rfl) <| x_done <| ?_
 replace hF := bs_s hF; obtain ⟨oL3, hLL3, hF⟩ := hF
 refine x_join (fun E w => (Sum.inl (())) = oL3 ∧ E 1 = .pointer (some ⟨b1, 0, none⟩) ∧ E 3 = .int .i64 q3 ∧ St w0 w (cells b1 30 [.slice q6 n0.In.length c_n0_0, .slice q7 n0.Out.length c_n0_1, .slice q4 n0.Flops.length c_n0_2, .slice q8 n0.Gates.length c_n0_3, .slice q5 n0.Outs.length c_n0_4] :: ro ρ :: l)) ?_ ?_
 ·refine x_block ?_
  refine x_loop (fun k_ E w => ∃ (q9 : Int), lp (P_netlist_ends_L3 n0 q3) k_ q9 = some oL3 ∧ E 1 = .pointer (some ⟨b1, 0, none⟩) ∧ E 3 = .int .i64 q3 ∧ E 11 = .slice q4 n0.Flops.length c_n0_2 ∧ E 12 = .int .i64 (n0.Flops.length : Int) ∧ E 13 = .int .i64 q9 ∧ St w0 w (cells b1 30 [.slice q6 n0.In.length c_n0_0, .slice q7 n0.Out.length c_n0_1, .slice q4 n0.Flops.length c_n0_2, .slice q8 n0.Gates.length c_n0_3, .slice q5 n0.Outs.length c_n0_4] :: ro ρ :: l)) fuel ⟨0, hLL3, rfl, rfl, rfl, rfl, rfl, ((hS.pull 1).pull 1)⟩ ?_
  rintro kL3 E w ⟨q9, hLL3, q0s, q0d, q0g, q0h, q0e, hS⟩
  replace hLL3 := lp_s hLL3; obtain ⟨kL3, obL3, rfl, hFL3, hLL3⟩ := hLL3
  refine x_seq <| x_region <| p (yl_lss q0e q0h) <| x_done <|
   x_seq <|
   x_cond_p (q9 < (n0.Flops.length : Int)) rfl (fun hc14 => ?_) (fun hc14 => ?_)
  ·replace hFL3 := it_t hc14 hFL3
   replace hFL3 := ck_s hFL3; obtain ⟨q0v, hFL3⟩ := hFL3
   replace hFL3 := lv_s hFL3; obtain ⟨q2, q0y, hFL3⟩ := hFL3
   have q_ := q0b.get q0v; obtain ⟨q12, q0w, q0z⟩ := q_
   rw [← q0y] at q0w
   have e_ := q0w; subst e_
   refine x_skip <| x_seq <| x_block <| x_seq <|
    x_region <| p (yix_f sl_27 q0g q0e q0b q0v) <| pa (v := .agg #[.string q2.Name, .int .i64 q2.Cell, .int .i64 q2.D, .int .i64 q2.En, .bool q2.Init]) (at_loadAgg agg_135 rfl rfl (Elt.every q0z (hS.pull 1))) <| ?_
   refine o_alloc zero_135 hS (fun b5 w' hS => ?_)
   refine o_storeAgg (news := [.string q2.Name, .int .i64 q2.Cell, .int .i64 q2.D, .int .i64 q2.En, .bool q2.Init]) agg_135 rfl rfl rfl (by simp [over_length]) hS (fun w' hS => ?_)
   replace hFL3 := lv_s hFL3; obtain ⟨x25, hx25, hFL3⟩ := hFL3
   replace hFL3 := lv_s hFL3; obtain ⟨x30, hx30, hFL3⟩ := hFL3
   replace hFL3 := lv_s hFL3; obtain ⟨x36, hx36, hFL3⟩ := hFL3
   refine x_done <| x_seq <| x_region <| p (yl_field0 fld_135_2 rfl) <|
    pa (at_load one_3 rfl (hS.cell rfl)) <| p (yl_lss rfl rfl) <| p (yl_move rfl) <| pg (v := .pointer (some ⟨b5, 2, none⟩)) 20 (c := !(decide (q2.D < 0))) (says_f _) (fun hq => Yl.at (yl_field0 fld_135_2 rfl)) <|
    pg (v := .int .i64 q2.D) 20 (c := !(decide (q2.D < 0))) (says_f _) (fun hq => at_load one_3 (cv hq) (hS.cell rfl)) <| pg (v := .int .i64 q3) 20 (c := !(decide (q2.D < 0))) (says_f _) (fun hq => Yl.at (yl_move q0d)) <| pg (v := .bool (decide (q3 ≤ q2.D))) 20 (c := !(decide (q2.D < 0))) (says_f _) (fun hq => Yl.at (yl_geq (cv hq) (cv hq))) <| p (yor' rfl rfl (fun hc => (cv (t_not hc))) hx25) <|
    p (yl_move rfl) <| pg (v := .pointer (some ⟨b5, 3, none⟩)) 26 (c := !x25) (says_f _) (fun hq => Yl.at (yl_field0 fld_135_3 rfl)) <| pg (v := .int .i64 q2.En) 26 (c := !x25) (says_f _) (fun hq => at_load one_3 (cv hq) (hS.cell rfl)) <| pg (v := .bool (decide (q2.En < 0))) 26 (c := !x25) (says_f _) (fun hq => Yl.at (yl_lss (cv hq) rfl)) <|
    p (yor' rfl rfl (fun hc => (cv (t_not hc))) hx30) <| p (yl_move rfl) <| pg (v := .pointer (some ⟨b5, 3, none⟩)) 31 (c := !x30) (says_f _) (fun hq => Yl.at (yl_field0 fld_135_3 rfl)) <| pg (v := .int .i64 q2.En) 31 (c := !x30) (says_f _) (fun hq => at_load one_3 (cv hq) (hS.cell rfl)) <|
    pg (v := .int .i64 q3) 31 (c := !x30) (says_f _) (fun hq => Yl.at (yl_move q0d)) <| pg (v := .bool (decide (q3 ≤ q2.En))) 31 (c := !x30) (says_f _) (fun hq => Yl.at (yl_geq (cv hq) (cv hq))) <| p (yor' rfl rfl (fun hc => (cv (t_not hc))) hx36) <| x_done <|
    x_cond (t := x36) rfl (fun hc36 => ?_) (fun hc36 => ?_)
   ·replace hFL3 := it_t hc36 hFL3
    refine x_seq <| x_region <| p (yl_assign rfl) <| x_done <| ?_
    have e_ := Option.some.inj (show some _ = some _ from hFL3); subst e_
    have e_ := (show _ = oL3 from hLL3); subst e_
    have e_ := Option.some.inj (show some _ = some _ from hF); subst e_
    exact x_return ⟨_, ⟨_, _, rfl, rfl, rfl⟩, rfl, hS.drop.drop⟩
   ·replace hFL3 := it_bf hc36 hFL3
    replace hFL3 := ar_s hFL3; obtain ⟨x37, hx37, hFL3⟩ := hFL3
    refine x_skip <| x_blk <| x_region <| p (yadd q0e rfl hx37) <|
     p (yl_move rfl) <| x_done <| ?_
    have e_ := Option.some.inj (show some _ = some _ from hFL3); subst e_
    exact x_inv ⟨kL3, Nat.lt_succ_self _, x37, hLL3, q0s, q0d, q0g, q0h, rfl, ((hS.drop.pull 1).pull 1)⟩
  ·replace hFL3 := it_f hc14 hFL3
   refine x_exitTo _ rfl <| ?_
   have e_ := Option.some.inj (show some _ = some _ from hFL3); subst e_
   exact x_inv ⟨hLL3, q0s, q0d, ((hS.pull 1).pull 1)⟩
 rintro E w ⟨rfl, q10, q11, hS⟩
 refine x_seq <| x_seq <| x_region <| p (yl_field0 fld_30_4 q10) <|
  pa (at_load one_22 rfl (hS.cell rfl)) <| p (yl_len_slice usl_22 rfl) <| p (yl_move rfl) <| x_done <| ?_
 replace hF := bs_s hF; obtain ⟨oL9, hLL9, hF⟩ := hF
 refine x_join (fun E w => (Sum.inl (())) = oL9 ∧ St w0 w (ro ρ :: l)) ?_ ?_
 ·refine x_block ?_
  refine x_loop (fun k_ E w => ∃ (q0a : Int), lp (P_netlist_ends_L9 n0 q3) k_ q0a = some oL9 ∧ E 3 = .int .i64 q3 ∧ E 39 = .slice q5 n0.Outs.length c_n0_4 ∧ E 40 = .int .i64 (n0.Outs.length : Int) ∧ E 41 = .int .i64 q0a ∧ St w0 w (ro ρ :: l)) fuel ⟨0, hLL9, q11, rfl, rfl, rfl, hS.drop⟩ ?_
  rintro kL9 E w ⟨q0a, hLL9, q0t, q0i, q0j, q0f, hS⟩
  replace hLL9 := lp_s hLL9; obtain ⟨kL9, obL9, rfl, hFL9, hLL9⟩ := hLL9
  refine x_seq <| x_region <| p (yl_lss q0f q0j) <| x_done <|
   x_seq <|
   x_cond_p (q0a < (n0.Outs.length : Int)) rfl (fun hc42 => ?_) (fun hc42 => ?_)
  ·replace hFL9 := it_t hc42 hFL9
   replace hFL9 := ck_s hFL9; obtain ⟨q0u, hFL9⟩ := hFL9
   replace hFL9 := lv_s hFL9; obtain ⟨x44, hx44, hFL9⟩ := hFL9
   replace hFL9 := lv_s hFL9; obtain ⟨x51, hx51, hFL9⟩ := hFL9
   refine x_skip <| x_seq <| x_block <| x_seq <|
    x_region <| p (yix_f sl_22 q0i q0f q0c q0u) <| pa (at_load one_3 rfl (RdS.getW q0c hS q0u hx44)) <| p (yl_assign rfl) <|
    x_done <| x_seq <| x_region <| p (yl_move rfl) <|
    p (yl_lss rfl rfl) <| p (yl_move rfl) <| pg (v := .int .i64 x44) 47 (c := !(decide (x44 < 0))) (says_f _) (fun hq => Yl.at (yl_move rfl)) <| pg (v := .int .i64 q3) 47 (c := !(decide (x44 < 0))) (says_f _) (fun hq => Yl.at (yl_move q0t)) <|
    pg (v := .bool (decide (q3 ≤ x44))) 47 (c := !(decide (x44 < 0))) (says_f _) (fun hq => Yl.at (yl_geq (cv hq) (cv hq))) <| p (yor' rfl rfl (fun hc => (cv (t_not hc))) hx51) <| x_done <|
    x_cond (t := x51) rfl (fun hc51 => ?_) (fun hc51 => ?_)
   ·replace hFL9 := it_t hc51 hFL9
    refine x_seq <| x_region <| p (yl_assign rfl) <| x_done <| ?_
    have e_ := Option.some.inj (show some _ = some _ from hFL9); subst e_
    have e_ := (show _ = oL9 from hLL9); subst e_
    have e_ := Option.some.inj (show some _ = some _ from hF); subst e_
    exact x_return ⟨_, ⟨_, _, rfl, rfl, rfl⟩, rfl, hS⟩
   ·replace hFL9 := it_bf hc51 hFL9
    replace hFL9 := ar_s hFL9; obtain ⟨x52, hx52, hFL9⟩ := hFL9
    refine x_skip <| x_blk <| x_region <| p (yadd q0f rfl hx52) <|
     p (yl_move rfl) <| x_done <| ?_
    have e_ := Option.some.inj (show some _ = some _ from hFL9); subst e_
    exact x_inv ⟨kL9, Nat.lt_succ_self _, x52, hLL9, q0t, q0i, q0j, rfl, hS⟩
  ·replace hFL9 := it_f hc42 hFL9
   refine x_exitTo _ rfl <| ?_
   have e_ := Option.some.inj (show some _ = some _ from hFL9); subst e_
   exact x_inv ⟨hLL9, hS⟩
 rintro E w ⟨rfl, hS⟩
 refine x_seq <| x_region <| p (yl_assign rfl) <| x_done <| ?_
 have e_ := Option.some.inj (show some _ = some _ from hF); subst e_
 exact x_return ⟨_, ⟨_, _, rfl, rfl, rfl⟩, rfl, hS⟩
attribute [irreducible] P_netlist_ends

def P_netlist_Form_L7 (n0 : T_api_Netlist) : (List ByteArray × Int) → Option ((List ByteArray × Int) ⊕ List ByteArray) := fun (q3, q2) =>
 if q2 < (n0.Flops.length : Int) then
  ck (inb q2 n0.Flops.length) <|
  lv (gt n0.Flops q2) fun q5 =>
  lv (q3 ++ [q5.Name]) fun q4 =>
  ck (apOk 16 q4.length) <|
  ar (q2 + 1) fun x57 =>
  some (Sum.inl (q4, x57))
 else
  some (Sum.inr q3)
def P_netlist_Form_L26 (q5 : Int) (q4 : T_api_Gate) (q3 : Int) : Int → Option (Int ⊕ (Unit ⊕ Int)) := fun q2 =>
 if q2 < (q4.Ins.length : Int) then
  ck (inb q2 q4.Ins.length) <|
  lv (gt q4.Ins q2) fun x97 =>
  ck ((!(decide (x97 < 0))) = true → I64 (q5 + q3)) <|
  lv (q5 + q3) fun x104 =>
  lv ((decide (x97 < 0)) || (decide (x104 ≤ x97))) fun x106 =>
  if x106 = true then
   some (Sum.inr (Sum.inr (2 : Int)))
  else
   ar (q2 + 1) fun x107 =>
   some (Sum.inl x107)
 else
  some (Sum.inr (Sum.inl ()))
def P_netlist_Form_L19 (n0 : T_api_Netlist) (q4 : Int) : Int → Option (Int ⊕ (Unit ⊕ Int)) := fun q2 =>
 if q2 < (n0.Gates.length : Int) then
  ck (inb q2 n0.Gates.length) <|
  lv (gt n0.Gates q2) fun q3 =>
  if 6 < (q3.Ins.length : Int) then
   some (Sum.inr (Sum.inr (3 : Int)))
  else
   bd (P_netlist_Mask (q3.Ins.length : Int)) fun q5 =>
   lv (bAndNot .u64 q3.Table q5) fun x89 =>
   if x89 ≠ 0 then
    some (Sum.inr (Sum.inr (4 : Int)))
   else
    bs (
     lp (P_netlist_Form_L26 q4 q3 q2) fuel 0) (fun y => some (Sum.inr (Sum.inr y))) fun _ =>
    ar (q2 + 1) fun x108 =>
    some (Sum.inl x108)
 else
  some (Sum.inr (Sum.inl ()))
def P_netlist_Form (n0 : T_api_Netlist) : Option Int :=
 lv ((decide (128 < (n0.In.length : Int))) || (decide (128 < (n0.Out.length : Int)))) fun x22 =>
 lv (x22 || (decide (288 < (n0.Flops.length : Int)))) fun x28 =>
 lv (x28 || (decide (1200 < (n0.Gates.length : Int)))) fun x34 =>
 if x34 = true then
  some (3 : Int)
 else
  if (n0.Out.length : Int) ≠ (n0.Outs.length : Int) then
   some (4 : Int)
  else
   bd (P_slices_Clone_string_string n0.In) fun q7 =>
   bd (
    lp (P_netlist_Form_L7 n0) fuel (q7, 0)) fun q2 =>
   bd (P_graph_Names q2) fun q3 =>
   if q3 ≠ 0 then
    some q3
   else
    bd (P_graph_Names n0.Out) fun q4 =>
    if q4 ≠ 0 then
     some q4
    else
     bd (P_netlist_First n0) fun q5 =>
     bs (
      lp (P_netlist_Form_L19 n0 q5) fuel 0) (fun y => some y) fun _ =>
     bd (P_netlist_ends n0) fun q6 =>
     some q6
set_option maxHeartbeats 4000000 in
set_option maxRecDepth 100000 in
theorem c_netlist_Form {w0 w : World} {l : List Assn} {ρ : Heap} {q6 : Option Addr} {q1h : Nat} {c_n0_0 : Nat} {q5 : Option Addr} {q1i : Nat} {c_n0_1 : Nat} {q3 : Option Addr} {q1j : Nat} {c_n0_2 : Nat} {q2 : Option Addr} {q1k : Nat} {c_n0_3 : Nat} {q7 : Option Addr} {q1l : Nat} {c_n0_4 : Nat} {n0 : T_api_Netlist} {r : Int} (hF : P_netlist_Form n0 = some r) (q0s : RdS RpS ρ q6 q1h c_n0_0 n0.In) (q0t : RdS RpS ρ q5 q1i c_n0_1 n0.Out) (q0l : RdS R_api_Flop ρ q3 q1j c_n0_2 n0.Flops) (q0m : RdS R_api_Gate ρ q2 q1k c_n0_3 n0.Gates) (q13 : RdS (RpI .i64) ρ q7 q1l c_n0_4 n0.Outs) (hS : St w0 w (ro ρ :: l)) :
  Calls Tryd.prog 149 #[.agg #[.slice q6 q1h c_n0_0, .slice q5 q1i c_n0_1, .slice q3 q1j c_n0_2, .slice q2 q1k c_n0_3, .slice q7 q1l c_n0_4]] w fun e w' => e = .returned (.int .i64 r) ∧ St w0 w' (ro ρ :: l) := by
 have e_ := q0s.n; subst e_
 have e_ := q0t.n; subst e_
 have e_ := q0l.n; subst e_
 have e_ := q0m.n; subst e_
 have e_ := q13.n; subst e_
 refine enterC Tryd.func149 rfl 111 rfl (by simp) ?_
 refine x_seq <| x_region <| ?_
 refine o_box (cs := [.slice q6 n0.In.length c_n0_0, .slice q5 n0.Out.length c_n0_1, .slice q3 n0.Flops.length c_n0_2, .slice q2 n0.Gates.length c_n0_3, .slice q7 n0.Outs.length c_n0_4]) rfl rfl hS (fun b1 w' hS => ?_)
 replace hF := lv_s hF; obtain ⟨x22, hx22, hF⟩ := hF
 replace hF := lv_s hF; obtain ⟨x28, hx28, hF⟩ := hF
 replace hF := lv_s hF; obtain ⟨x34, hx34, hF⟩ := hF
 refine p (yl_assign rfl) <| x_done <| x_seq <| x_seq <|
  x_region <| p (yl_field0 fld_30_0 rfl) <| pa (at_load one_26 rfl (hS.cell rfl)) <| p (yl_len_slice usl_26 rfl) <|
  p (yl_gtr rfl rfl) <| p (yl_move rfl) <| pg (v := .pointer (some ⟨b1, 1, none⟩)) 17 (c := !(decide (128 < (n0.In.length : Int)))) (says_f _) (fun hq => Yl.at (yl_field0 fld_30_1 rfl)) <| pg (v := .slice q5 n0.Out.length c_n0_1) 17 (c := !(decide (128 < (n0.In.length : Int)))) (says_f _) (fun hq => at_load one_26 (cv hq) (hS.cell rfl)) <|
  pg (v := .int .i64 (n0.Out.length : Int)) 17 (c := !(decide (128 < (n0.In.length : Int)))) (says_f _) (fun hq => Yl.at (yl_len_slice usl_26 (cv hq))) <| pg (v := .bool (decide (128 < (n0.Out.length : Int)))) 17 (c := !(decide (128 < (n0.In.length : Int)))) (says_f _) (fun hq => Yl.at (yl_gtr (cv hq) rfl)) <| p (yor' rfl rfl (fun hc => (cv (t_not hc))) hx22) <| p (yl_move rfl) <|
  pg (v := .pointer (some ⟨b1, 2, none⟩)) 23 (c := !x22) (says_f _) (fun hq => Yl.at (yl_field0 fld_30_2 rfl)) <| pg (v := .slice q3 n0.Flops.length c_n0_2) 23 (c := !x22) (says_f _) (fun hq => at_load one_27 (cv hq) (hS.cell rfl)) <| pg (v := .int .i64 (n0.Flops.length : Int)) 23 (c := !x22) (says_f _) (fun hq => Yl.at (yl_len_slice usl_27 (cv hq))) <| pg (v := .bool (decide (288 < (n0.Flops.length : Int)))) 23 (c := !x22) (says_f _) (fun hq => Yl.at (yl_gtr (cv hq) rfl)) <|
  p (yor' rfl rfl (fun hc => (cv (t_not hc))) hx28) <| p (yl_move rfl) <| pg (v := .pointer (some ⟨b1, 3, none⟩)) 29 (c := !x28) (says_f _) (fun hq => Yl.at (yl_field0 fld_30_3 rfl)) <| pg (v := .slice q2 n0.Gates.length c_n0_3) 29 (c := !x28) (says_f _) (fun hq => at_load one_28 (cv hq) (hS.cell rfl)) <|
  pg (v := .int .i64 (n0.Gates.length : Int)) 29 (c := !x28) (says_f _) (fun hq => Yl.at (yl_len_slice usl_28 (cv hq))) <| pg (v := .bool (decide (1200 < (n0.Gates.length : Int)))) 29 (c := !x28) (says_f _) (fun hq => Yl.at (yl_gtr (cv hq) rfl)) <| p (yor' rfl rfl (fun hc => (cv (t_not hc))) hx34) <| x_done <|
  x_cond (t := x34) rfl (fun hc34 => ?_) (fun hc34 => ?_)
 ·replace hF := it_t hc34 hF
  refine x_seq <| x_region <| p (yl_assign rfl) <| x_done <| ?_
  have e_ := Option.some.inj (show some _ = some _ from hF); subst e_
  exact x_return ⟨_, ⟨_, _, rfl, rfl, rfl⟩, rfl, hS.drop⟩
 ·replace hF := it_bf hc34 hF
  refine x_skip <| x_seq <| x_seq <| x_region <|
   p (yl_field0 fld_30_1 rfl) <| pa (at_load one_26 rfl (hS.cell rfl)) <| p (yl_len_slice usl_26 rfl) <| p (yl_field0 fld_30_4 rfl) <|
   pa (at_load one_22 rfl (hS.cell rfl)) <| p (yl_len_slice usl_22 rfl) <| p (yl_neq rfl rfl) <| x_done <|
   x_cond_p ((n0.Out.length : Int) ≠ (n0.Outs.length : Int)) rfl (fun hc41 => ?_) (fun hc41 => ?_)
  ·replace hF := it_t hc41 hF
   refine x_seq <| x_region <| p (yl_assign rfl) <| x_done <| ?_
   have e_ := Option.some.inj (show some _ = some _ from hF); subst e_
   exact x_return ⟨_, ⟨_, _, rfl, rfl, rfl⟩, rfl, hS.drop⟩
  ·replace hF := it_f hc41 hF
   replace hF := bd_s hF; obtain ⟨q1x, q2b, hF⟩ := hF
   refine x_skip <| x_seq <| x_region <| p (yl_field0 fld_30_0 rfl) <|
    pa (at_load one_26 rfl (hS.cell rfl)) <| ?_
   have hcall := c_slices_Clone_string_string q2b q0s (hS.pull 1)
   refine o_cc call_106 (args1 rfl) hcall ?_
   rintro e w' ⟨q14, q1y, c_y0_ret_5_2, q11, rfl, q0n, hS⟩
   refine ⟨_, rfl, ?_⟩
   have e_ := St.vec_n hS q0n; subst e_
   refine p (yl_assign rfl) <| x_done <| x_seq <| x_seq <|
    x_region <| p (yl_field0 fld_30_2 rfl) <| pa (at_load one_27 rfl ((hS.pull 2).cell rfl)) <| p (yl_len_slice usl_27 rfl) <|
    p (yl_move rfl) <| x_done <| ?_
   replace hF := bd_s hF; obtain ⟨oL7, hLL7, hF⟩ := hF
   refine x_join (fun E w => ∃ (q0h : Option Addr) (q0e : Nat) (c_names3_L7 : Nat) (q0f : List Value) (q0o : List ByteArray), q0o = oL7 ∧ E 1 = .pointer (some ⟨b1, 0, none⟩) ∧ E 3 = .slice q0h q0e c_names3_L7 ∧ RepL RpS ρ q0o q0f ∧ St w0 w (cells b1 30 [.slice q6 n0.In.length c_n0_0, .slice q5 n0.Out.length c_n0_1, .slice q3 n0.Flops.length c_n0_2, .slice q2 n0.Gates.length c_n0_3, .slice q7 n0.Outs.length c_n0_4] :: vec 9 RpS.sz (.slice q0h q0e c_names3_L7) q0e q0f :: ro ρ :: l)) ?_ ?_
   ·refine x_block ?_
    refine x_loop (fun k_ E w => ∃ (q0a : Option Addr) (q0b : Nat) (c_names3_L7h : Nat) (q8 : List Value) (q0c : List ByteArray) (q0p : Int), lp (P_netlist_Form_L7 n0) k_ (q0c, q0p) = some oL7 ∧ E 1 = .pointer (some ⟨b1, 0, none⟩) ∧ E 3 = .slice q0a q0b c_names3_L7h ∧ E 46 = .slice q3 n0.Flops.length c_n0_2 ∧ E 47 = .int .i64 (n0.Flops.length : Int) ∧ E 48 = .int .i64 q0p ∧ RepL RpS ρ q0c q8 ∧ St w0 w (cells b1 30 [.slice q6 n0.In.length c_n0_0, .slice q5 n0.Out.length c_n0_1, .slice q3 n0.Flops.length c_n0_2, .slice q2 n0.Gates.length c_n0_3, .slice q7 n0.Outs.length c_n0_4] :: vec 9 RpS.sz (.slice q0a q0b c_names3_L7h) q0b q8 :: ro ρ :: l)) fuel ⟨q14, q1x.length, c_y0_ret_5_2, q11, q1x, 0, hLL7, rfl, rfl, rfl, rfl, rfl, q0n, (((hS.pull 1).pull 1).pull 2)⟩ ?_
    rintro kL7 E w ⟨q0a, q0b, c_names3_L7h, q8, q0c, q0p, hLL7, q1m, q1n, q1c, q1d, q0w, q0g, hS⟩
    have e_ := St.vec_n (hS.pull 1) q0g; subst e_
    replace hLL7 := lp_s hLL7; obtain ⟨kL7, obL7, rfl, hFL7, hLL7⟩ := hLL7
    refine x_seq <| x_region <| p (yl_lss q0w q1d) <| x_done <|
     x_seq <|
     x_cond_p (q0p < (n0.Flops.length : Int)) rfl (fun hc49 => ?_) (fun hc49 => ?_)
    ·replace hFL7 := it_t hc49 hFL7
     replace hFL7 := ck_s hFL7; obtain ⟨q1r, hFL7⟩ := hFL7
     replace hFL7 := lv_s hFL7; obtain ⟨q9, q2c, hFL7⟩ := hFL7
     have q_ := q0l.get q1r; obtain ⟨q2l, q1s, q2d⟩ := q_
     rw [← q2c] at q1s
     have e_ := q1s; subst e_
     refine x_skip <| x_seq <| x_block <| x_seq <|
      x_region <| p (yix_f sl_27 q1c q0w q0l q1r) <| pa (v := .agg #[.string q9.Name, .int .i64 q9.Cell, .int .i64 q9.D, .int .i64 q9.En, .bool q9.Init]) (at_loadAgg agg_135 rfl rfl (Elt.every q2d (hS.pull 2))) <| ?_
     refine o_alloc zero_135 hS (fun b5 w' hS => ?_)
     refine o_storeAgg (news := [.string q9.Name, .int .i64 q9.Cell, .int .i64 q9.D, .int .i64 q9.En, .bool q9.Init]) agg_135 rfl rfl rfl (by simp [over_length]) hS (fun w' hS => ?_)
     refine x_done <| x_region <| p (yl_move q1n) <| p (yl_field0 fld_135_0 rfl) <|
      pa (at_load one_9 rfl (hS.cell rfl)) <| ?_
     refine o_buildSlice (vs := [.string q9.Name]) (cs := [.string q9.Name]) sl_26 zero_9 (parts_eq (pt (va := .string q9.Name) rfl pt0)) rfl (by intro v hv; simp only [List.mem_cons, List.not_mem_nil, or_false] at hv; first | (subst hv; rfl) | (rcases hv with rfl <;> rfl)) (by decide) rfl hS (fun b55 w' hS => ?_)
     replace hFL7 := lv_s hFL7; obtain ⟨q1z, q2e, hFL7⟩ := hFL7
     replace hFL7 := ck_s hFL7; obtain ⟨q2f, hFL7⟩ := hFL7
     refine o_ap sl_26 zero_9 rfl (by decide) rfl rfl (hS.pull 3) q0g (src_blk usl_26 hS rfl rfl) (RepL.cons (R := RpS) (ρ := ρ) (x := q9.Name) (cs := [.string q9.Name]) rfl RepL.nil) q2e q2f (fun A56 c56 cs56 w' hr56 hS => ?_)
     replace hFL7 := ar_s hFL7; obtain ⟨x57, hx57, hFL7⟩ := hFL7
     refine p (yl_assign rfl) <| x_done <| x_blk <| x_region <|
      p (yadd q0w rfl hx57) <| p (yl_move rfl) <| x_done <| ?_
     have e_ := Option.some.inj (show some _ = some _ from hFL7); subst e_
     exact x_inv ⟨kL7, Nat.lt_succ_self _, A56, q1z.length, c56, cs56, q1z, x57, hLL7, q1m, rfl, q1c, q1d, rfl, hr56, (((((hS.pull 1).drop.pull 1).drop.pull 2).pull 1).pull 2)⟩
    ·replace hFL7 := it_f hc49 hFL7
     refine x_exitTo _ rfl <| ?_
     have e_ := Option.some.inj (show some _ = some _ from hFL7); subst e_
     exact x_inv ⟨q0a, q0c.length, c_names3_L7h, q8, q0c, hLL7, q1m, q1n, q0g, (((hS.pull 2).pull 2).pull 2)⟩
   rintro E w ⟨q0h, q0e, c_names3_L7, q0f, q0o, rfl, q12, q2g, q0q, hS⟩
   have e_ := St.vec_n (hS.pull 1) q0q; subst e_
   replace hF := bd_s hF; obtain ⟨q0u, q20, hF⟩ := hF
   refine x_seq <| x_seq <| x_region <| p (yl_move q2g) <| ?_
   have q_ := St.lend ((hS.pull 2).pull 2) q0q; obtain ⟨ρl0, hll0, hlf0, hS0, back0⟩ := q_
   have hcall := c_graph_Names q20 hlf0 hS0
   refine o_cc call_171 (args1 rfl) ((Calls.mono hcall (fun e w'' h => And.intro h.1 ((((back0 h.2).pull 1).pull 1).pull 2)))) ?_
   rintro e w' ⟨rfl, hS⟩
   refine ⟨_, rfl, ?_⟩
   refine p (v := .int .i64 q0u) (yl_assign rfl) <| x_done <| x_seq <| x_region <|
    p (v := .int .i64 q0u) (yl_move rfl) <| p (yl_neq rfl rfl) <| x_done <|
    x_cond_p (q0u ≠ 0) rfl (fun hc61 => ?_) (fun hc61 => ?_)
   ·replace hF := it_t hc61 hF
    refine x_seq <| x_region <| p (v := .int .i64 q0u) (yl_move rfl) <| p (v := .int .i64 q0u) (yl_assign rfl) <|
     x_done <| ?_
    have e_ := Option.some.inj (show some _ = some _ from hF); subst e_
    exact x_return ⟨_, ⟨_, _, rfl, rfl, rfl⟩, rfl, hS.drop.drop⟩
   ·replace hF := it_f hc61 hF
    replace hF := bd_s hF; obtain ⟨q0v, q21, hF⟩ := hF
    refine x_skip <| x_seq <| x_seq <| x_region <|
     p (yl_field0 fld_30_1 q12) <| pa (at_load one_26 rfl (hS.cell rfl)) <| ?_
    have hcall := c_graph_Names q21 q0t (hS.pull 2)
    refine o_cc call_171 (args1 rfl) ((Calls.mono hcall (fun e w'' h => And.intro h.1 ((h.2.pull 2).pull 2)))) ?_
    rintro e w' ⟨rfl, hS⟩
    refine ⟨_, rfl, ?_⟩
    refine p (v := .int .i64 q0v) (yl_assign rfl) <| x_done <| x_seq <| x_region <|
     p (v := .int .i64 q0v) (yl_move rfl) <| p (yl_neq rfl rfl) <| x_done <|
     x_cond_p (q0v ≠ 0) rfl (fun hc67 => ?_) (fun hc67 => ?_)
    ·replace hF := it_t hc67 hF
     refine x_seq <| x_region <| p (v := .int .i64 q0v) (yl_move rfl) <| p (v := .int .i64 q0v) (yl_assign rfl) <|
      x_done <| ?_
     have e_ := Option.some.inj (show some _ = some _ from hF); subst e_
     exact x_return ⟨_, ⟨_, _, rfl, rfl, rfl⟩, rfl, hS.drop.drop⟩
    ·replace hF := it_f hc67 hF
     replace hF := bd_s hF; obtain ⟨q0i, q22, hF⟩ := hF
     refine x_skip <| x_seq <| x_region <| pa (v := .agg #[.slice q6 n0.In.length c_n0_0, .slice q5 n0.Out.length c_n0_1, .slice q3 n0.Flops.length c_n0_2, .slice q2 n0.Gates.length c_n0_3, .slice q7 n0.Outs.length c_n0_4]) (ld_sub agg_30 q12 rfl rfl hS) <| ?_
     have hcall := c_netlist_First q22 q0s q0t q0l q0m q13 (hS.pull 2)
     refine o_cc call_22 (args1 rfl) ((Calls.mono hcall (fun e w'' h => And.intro h.1 ((h.2.pull 2).pull 2)))) ?_
     rintro e w' ⟨rfl, hS⟩
     refine ⟨_, rfl, ?_⟩
     refine p (v := .int .i64 q0i) (yl_assign rfl) <| x_done <| x_seq <| x_seq <|
      x_region <| p (yl_field0 fld_30_3 q12) <| pa (at_load one_28 rfl (hS.cell rfl)) <| p (yl_len_slice usl_28 rfl) <|
      p (yl_move rfl) <| x_done <| ?_
     replace hF := bs_s hF; obtain ⟨oL19, hLL19, hF⟩ := hF
     refine x_join (fun E w => (Sum.inl (())) = oL19 ∧ E 1 = .pointer (some ⟨b1, 0, none⟩) ∧ St w0 w (cells b1 30 [.slice q6 n0.In.length c_n0_0, .slice q5 n0.Out.length c_n0_1, .slice q3 n0.Flops.length c_n0_2, .slice q2 n0.Gates.length c_n0_3, .slice q7 n0.Outs.length c_n0_4] :: ro ρ :: l)) ?_ ?_
     ·refine x_block ?_
      refine x_loop (fun k_ E w => ∃ (q4 : Int), lp (P_netlist_Form_L19 n0 q0i) k_ q4 = some oL19 ∧ E 1 = .pointer (some ⟨b1, 0, none⟩) ∧ E 8 = .int .i64 q0i ∧ E 72 = .slice q2 n0.Gates.length c_n0_3 ∧ E 73 = .int .i64 (n0.Gates.length : Int) ∧ E 74 = .int .i64 q4 ∧ St w0 w (cells b1 30 [.slice q6 n0.In.length c_n0_0, .slice q5 n0.Out.length c_n0_1, .slice q3 n0.Flops.length c_n0_2, .slice q2 n0.Gates.length c_n0_3, .slice q7 n0.Outs.length c_n0_4] :: ro ρ :: l)) fuel ⟨0, hLL19, q12, rfl, rfl, rfl, rfl, (((hS.pull 1).drop.pull 1).pull 1)⟩ ?_
      rintro kL19 E w ⟨q4, hLL19, q1e, q1t, q15, q16, q0j, hS⟩
      replace hLL19 := lp_s hLL19; obtain ⟨kL19, obL19, rfl, hFL19, hLL19⟩ := hLL19
      refine x_seq <| x_region <| p (yl_lss q0j q16) <| x_done <|
       x_seq <|
       x_cond_p (q4 < (n0.Gates.length : Int)) rfl (fun hc75 => ?_) (fun hc75 => ?_)
      ·replace hFL19 := it_t hc75 hFL19
       replace hFL19 := ck_s hFL19; obtain ⟨q1o, hFL19⟩ := hFL19
       replace hFL19 := lv_s hFL19; obtain ⟨q0d, q23, hFL19⟩ := hFL19
       have q_ := q0m.get q1o; obtain ⟨q2k, q1p, q24⟩ := q_
       rw [← q23] at q1p
       obtain ⟨q0x, q2j, q0y, rfl, q0z⟩ := q1p
       have e_ := q0z.n; subst e_
       refine x_skip <| x_seq <| x_block <| x_seq <|
        x_region <| p (yl_move q0j) <| p (yix_f sl_28 q15 q0j q0m q1o) <| pa (v := .agg #[.int .i64 q0d.Cell, .int .u64 q0d.Table, .slice q0x q0d.Ins.length q0y]) (at_loadAgg agg_38 rfl rfl (Elt.every q24 (hS.pull 1))) <| ?_
       refine o_alloc zero_38 hS (fun b10 w' hS => ?_)
       refine p (yl_assign rfl) <| ?_
       refine o_storeAgg (news := [.int .i64 q0d.Cell, .int .u64 q0d.Table, .slice q0x q0d.Ins.length q0y]) agg_38 rfl rfl rfl (by simp [over_length]) hS (fun w' hS => ?_)
       refine x_done <| x_seq <| x_seq <| x_region <|
        p (yl_field0 fld_38_2 rfl) <| pa (at_load one_22 rfl (hS.cell rfl)) <| p (yl_len_slice usl_22 rfl) <| p (yl_gtr rfl rfl) <|
        x_done <|
        x_cond_p (6 < (q0d.Ins.length : Int)) rfl (fun hc82 => ?_) (fun hc82 => ?_)
       ·replace hFL19 := it_t hc82 hFL19
        refine x_seq <| x_region <| p (yl_assign rfl) <| x_done <| ?_
        have e_ := Option.some.inj (show some _ = some _ from hFL19); subst e_
        have e_ := (show _ = oL19 from hLL19); subst e_
        have e_ := Option.some.inj (show some _ = some _ from hF); subst e_
        exact x_return ⟨_, ⟨_, _, rfl, rfl, rfl⟩, rfl, hS.drop.drop⟩
       ·replace hFL19 := it_f hc82 hFL19
        replace hFL19 := bd_s hFL19; obtain ⟨q2h, q25, hFL19⟩ := hFL19
        replace hFL19 := lv_s hFL19; obtain ⟨x89, hx89, hFL19⟩ := hFL19
        refine x_skip <| x_seq <| x_seq <| x_still mixed (by kernel_rfl) hS <|
         q (yl_field0 fld_38_1 rfl) <| qa (fun w' hS => at_load one_35 rfl (hS.cell rfl)) <| q (yl_field0 fld_38_2 rfl) <| qa (fun w' hS => at_load one_22 rfl (hS.cell rfl)) <|
         q (yl_len_slice usl_22 rfl) <| qcc (v := .int .u64 q2h) call_172 (args1 rfl) (fun w' hS => by
          have hcall := c_netlist_Mask q25  (hS.pull 2)
          exact (Calls.mono hcall (fun e w'' h => And.intro h.1 ((h.2.pull 2).pull 2)))) <| q (yandNot rfl rfl hx89) <| q (yl_neq rfl rfl) <|
         q_done fun w' hS => ?_
        refine x_cond_p (x89 ≠ 0) rfl (fun hc90 => ?_) (fun hc90 => ?_)
        ·replace hFL19 := it_t hc90 hFL19
         refine x_seq <| x_region <| p (yl_assign rfl) <| x_done <| ?_
         have e_ := Option.some.inj (show some _ = some _ from hFL19); subst e_
         have e_ := (show _ = oL19 from hLL19); subst e_
         have e_ := Option.some.inj (show some _ = some _ from hF); subst e_
         exact x_return ⟨_, ⟨_, _, rfl, rfl, rfl⟩, rfl, hS.drop.drop⟩
        ·replace hFL19 := it_f hc90 hFL19
         refine x_skip <| x_seq <| x_region <| p (yl_field0 fld_38_2 rfl) <|
          pa (at_load one_22 rfl (hS.cell rfl)) <| p (yl_len_slice usl_22 rfl) <| p (yl_move rfl) <| x_done <| ?_
         replace hFL19 := bs_s hFL19; obtain ⟨oL26, hLL26, hFL19⟩ := hFL19
         refine x_join (fun E w => (Sum.inl (())) = oL26 ∧ E 1 = .pointer (some ⟨b1, 0, none⟩) ∧ E 8 = .int .i64 q0i ∧ E 72 = .slice q2 n0.Gates.length c_n0_3 ∧ E 73 = .int .i64 (n0.Gates.length : Int) ∧ E 74 = .int .i64 q4 ∧ St w0 w (cells b1 30 [.slice q6 n0.In.length c_n0_0, .slice q5 n0.Out.length c_n0_1, .slice q3 n0.Flops.length c_n0_2, .slice q2 n0.Gates.length c_n0_3, .slice q7 n0.Outs.length c_n0_4] :: ro ρ :: l)) ?_ ?_
         ·refine x_block ?_
          refine x_loop (fun k_ E w => ∃ (q0k : Int), lp (P_netlist_Form_L26 q0i q0d q4) k_ q0k = some oL26 ∧ E 1 = .pointer (some ⟨b1, 0, none⟩) ∧ E 8 = .int .i64 q0i ∧ E 9 = .int .i64 q4 ∧ E 72 = .slice q2 n0.Gates.length c_n0_3 ∧ E 73 = .int .i64 (n0.Gates.length : Int) ∧ E 74 = .int .i64 q4 ∧ E 92 = .slice q0x q0d.Ins.length q0y ∧ E 93 = .int .i64 (q0d.Ins.length : Int) ∧ E 94 = .int .i64 q0k ∧ St w0 w (cells b1 30 [.slice q6 n0.In.length c_n0_0, .slice q5 n0.Out.length c_n0_1, .slice q3 n0.Flops.length c_n0_2, .slice q2 n0.Gates.length c_n0_3, .slice q7 n0.Outs.length c_n0_4] :: ro ρ :: l)) fuel ⟨0, hLL26, q1e, q1t, rfl, q15, q16, q0j, rfl, rfl, rfl, ((hS.drop.pull 1).pull 1)⟩ ?_
          rintro kL26 E w ⟨q0k, hLL26, q1f, q10, q1g, q17, q18, q19, q1a, q1b, q0r, hS⟩
          replace hLL26 := lp_s hLL26; obtain ⟨kL26, obL26, rfl, hFL26, hLL26⟩ := hLL26
          refine x_seq <| x_region <| p (yl_lss q0r q1b) <| x_done <|
           x_seq <|
           x_cond_p (q0k < (q0d.Ins.length : Int)) rfl (fun hc95 => ?_) (fun hc95 => ?_)
          ·replace hFL26 := it_t hc95 hFL26
           replace hFL26 := ck_s hFL26; obtain ⟨q1q, hFL26⟩ := hFL26
           replace hFL26 := lv_s hFL26; obtain ⟨x97, hx97, hFL26⟩ := hFL26
           replace hFL26 := ck_s hFL26; obtain ⟨q26, hFL26⟩ := hFL26
           replace hFL26 := lv_s hFL26; obtain ⟨x104, hx104, hFL26⟩ := hFL26
           replace hFL26 := lv_s hFL26; obtain ⟨x106, hx106, hFL26⟩ := hFL26
           refine x_skip <| x_seq <| x_block <| x_seq <|
            x_region <| p (yix_f sl_22 q1a q0r q0z q1q) <| pa (at_load one_3 rfl (RdS.getW q0z (hS.pull 1) q1q hx97)) <| p (yl_assign rfl) <|
            x_done <| x_seq <| x_region <| p (yl_move rfl) <|
            p (yl_lss rfl rfl) <| p (yl_move rfl) <| pg (v := .int .i64 x97) 100 (c := !(decide (x97 < 0))) (says_f _) (fun hq => Yl.at (yl_move rfl)) <| pg (v := .int .i64 q0i) 100 (c := !(decide (x97 < 0))) (says_f _) (fun hq => Yl.at (yl_move q10)) <|
            pg (v := .int .i64 q4) 100 (c := !(decide (x97 < 0))) (says_f _) (fun hq => Yl.at (yl_move q1g)) <| pg (v := .int .i64 x104) 100 (c := !(decide (x97 < 0))) (says_f _) (fun hq => Yl.at (yadd (cv hq) (cv hq) ⟨hx104, (q26 hq)⟩)) <| pg (v := .bool (decide (x104 ≤ x97))) 100 (c := !(decide (x97 < 0))) (says_f _) (fun hq => Yl.at (yl_geq (cv hq) (cv hq))) <| p (yor' rfl rfl (fun hc => (cv (t_not hc))) hx106) <|
            x_done <|
            x_cond (t := x106) rfl (fun hc106 => ?_) (fun hc106 => ?_)
           ·replace hFL26 := it_t hc106 hFL26
            refine x_seq <| x_region <| p (yl_assign rfl) <| x_done <| ?_
            have e_ := Option.some.inj (show some _ = some _ from hFL26); subst e_
            have e_ := (show _ = oL26 from hLL26); subst e_
            have e_ := Option.some.inj (show some _ = some _ from hFL19); subst e_
            have e_ := (show _ = oL19 from hLL19); subst e_
            have e_ := Option.some.inj (show some _ = some _ from hF); subst e_
            exact x_return ⟨_, ⟨_, _, rfl, rfl, rfl⟩, rfl, hS.drop⟩
           ·replace hFL26 := it_bf hc106 hFL26
            replace hFL26 := ar_s hFL26; obtain ⟨x107, hx107, hFL26⟩ := hFL26
            refine x_skip <| x_blk <| x_region <| p (yadd q0r rfl hx107) <|
             p (yl_move rfl) <| x_done <| ?_
            have e_ := Option.some.inj (show some _ = some _ from hFL26); subst e_
            exact x_inv ⟨kL26, Nat.lt_succ_self _, x107, hLL26, q1f, q10, q1g, q17, q18, q19, q1a, q1b, rfl, ((hS.pull 1).pull 1)⟩
          ·replace hFL26 := it_f hc95 hFL26
           refine x_exitTo _ rfl <| ?_
           have e_ := Option.some.inj (show some _ = some _ from hFL26); subst e_
           exact x_inv ⟨hLL26, q1f, q10, q17, q18, q19, ((hS.pull 1).pull 1)⟩
         rintro E w ⟨rfl, q27, q28, q1u, q1v, q1w, hS⟩
         replace hFL19 := ar_s hFL19; obtain ⟨x108, hx108, hFL19⟩ := hFL19
         refine x_blk <| x_region <| p (yadd q1w rfl hx108) <| p (yl_move rfl) <|
          x_done <| ?_
         have e_ := Option.some.inj (show some _ = some _ from hFL19); subst e_
         exact x_inv ⟨kL19, Nat.lt_succ_self _, x108, hLL19, q27, q28, q1u, q1v, rfl, ((hS.pull 1).pull 1)⟩
      ·replace hFL19 := it_f hc75 hFL19
       refine x_exitTo _ rfl <| ?_
       have e_ := Option.some.inj (show some _ = some _ from hFL19); subst e_
       exact x_inv ⟨hLL19, q1e, ((hS.pull 1).pull 1)⟩
     rintro E w ⟨rfl, q29, hS⟩
     replace hF := bd_s hF; obtain ⟨q2i, q2a, hF⟩ := hF
     refine x_seq <| x_region <| pa (v := .agg #[.slice q6 n0.In.length c_n0_0, .slice q5 n0.Out.length c_n0_1, .slice q3 n0.Flops.length c_n0_2, .slice q2 n0.Gates.length c_n0_3, .slice q7 n0.Outs.length c_n0_4]) (ld_sub agg_30 q29 rfl rfl hS) <| ?_
     have hcall := c_netlist_ends q2a q0s q0t q0l q0m q13 (hS.pull 1)
     refine o_cc call_173 (args1 rfl) ((Calls.mono hcall (fun e w'' h => And.intro h.1 (h.2.pull 1)))) ?_
     rintro e w' ⟨rfl, hS⟩
     refine ⟨_, rfl, ?_⟩
     refine p (v := .int .i64 q2i) (yl_assign rfl) <| x_done <| ?_
     have e_ := Option.some.inj (show some _ = some _ from hF); subst e_
     exact x_return ⟨_, ⟨_, _, rfl, rfl, rfl⟩, rfl, hS.drop⟩
attribute [irreducible] P_netlist_Form

def P_netlist_gate (x0 : T_api_Gate) (lib1 : List T_api_Cell) : Option Int :=
 if x0.Cell = (-1) then
  some (0 : Int)
 else
  lv ((decide (x0.Cell < (-1))) || (decide ((lib1.length : Int) ≤ x0.Cell))) fun x19 =>
  if x19 = true then
   some (7 : Int)
  else
   ck (inb x0.Cell lib1.length) <|
   lv (gt lib1 x0.Cell) fun q3 =>
   if q3.Flop = true then
    some (8 : Int)
   else
    ck (inb x0.Cell lib1.length) <|
    lv (gt lib1 x0.Cell) fun q2 =>
    ck ((!(decide (q2.Ins ≠ (x0.Ins.length : Int)))) = true → inb x0.Cell lib1.length) <|
    lv ((decide (q2.Ins ≠ (x0.Ins.length : Int))) || (decide (((gt lib1 x0.Cell).Table) ≠ x0.Table))) fun x48 =>
    if x48 = true then
     some (4 : Int)
    else
     some (0 : Int)
set_option maxHeartbeats 4000000 in
set_option maxRecDepth 100000 in
theorem c_netlist_gate {w0 w : World} {l : List Assn} {ρ : Heap} {q5 : Option Addr} {q6 : Nat} {c_x0_2 : Nat} {q3 : Option Addr} {q7 : Nat} {c_lib1 : Nat} {x0 : T_api_Gate} {lib1 : List T_api_Cell} {r : Int} (hF : P_netlist_gate x0 lib1 = some r) (q0d : RdS (RpI .i64) ρ q5 q6 c_x0_2 x0.Ins) (q2 : RdS R_api_Cell ρ q3 q7 c_lib1 lib1) (hS : St w0 w (ro ρ :: l)) :
  Calls Tryd.prog 150 #[.agg #[.int .i64 x0.Cell, .int .u64 x0.Table, .slice q5 q6 c_x0_2], .slice q3 q7 c_lib1] w fun e w' => e = .returned (.int .i64 r) ∧ St w0 w' (ro ρ :: l) := by
 have e_ := q0d.n; subst e_
 have e_ := q2.n; subst e_
 refine enterC Tryd.func150 rfl 49 rfl (by simp) ?_
 refine x_seq <| x_region <| ?_
 refine o_box (cs := [.int .i64 x0.Cell, .int .u64 x0.Table, .slice q5 x0.Ins.length c_x0_2]) rfl rfl hS (fun b2 w' hS => ?_)
 refine p (yl_assign rfl) <| x_done <| x_seq <| x_block <|
  x_seq <| x_region <| p (yl_field0 fld_38_0 rfl) <| pa (at_load one_3 rfl (hS.cell rfl)) <|
  p (yl_eql rfl rfl) <| p (yl_assign rfl) <| x_done <|
  x_cond_p (x0.Cell = (-1)) rfl (fun hc5 => ?_) (fun hc5 => ?_)
 ·replace hF := it_t hc5 hF
  refine x_seq <| x_region <| p (yl_assign rfl) <| x_done <| ?_
  have e_ := Option.some.inj (show some _ = some _ from hF); subst e_
  exact x_return ⟨_, ⟨_, _, rfl, rfl, rfl⟩, rfl, hS.drop⟩
 ·replace hF := it_f hc5 hF
  replace hF := lv_s hF; obtain ⟨x19, hx19, hF⟩ := hF
  refine x_seq <| x_region <| p (yl_field0 fld_38_0 rfl) <| pa (at_load one_3 rfl (hS.cell rfl)) <|
   p (yl_lss rfl rfl) <| p (yl_move rfl) <| pg (v := .pointer (some ⟨b2, 0, none⟩)) 13 (c := !(decide (x0.Cell < (-1)))) (says_f _) (fun hq => Yl.at (yl_field0 fld_38_0 rfl)) <| pg (v := .int .i64 x0.Cell) 13 (c := !(decide (x0.Cell < (-1)))) (says_f _) (fun hq => at_load one_3 (cv hq) (hS.cell rfl)) <|
   pg (v := .slice q3 lib1.length c_lib1) 13 (c := !(decide (x0.Cell < (-1)))) (says_f _) (fun hq => Yl.at (yl_move rfl)) <| pg (v := .int .i64 (lib1.length : Int)) 13 (c := !(decide (x0.Cell < (-1)))) (says_f _) (fun hq => Yl.at (yl_len_slice usl_31 (cv hq))) <| pg (v := .bool (decide ((lib1.length : Int) ≤ x0.Cell))) 13 (c := !(decide (x0.Cell < (-1)))) (says_f _) (fun hq => Yl.at (yl_geq (cv hq) (cv hq))) <| p (yor' rfl rfl (fun hc => (cv (t_not hc))) hx19) <|
   p (yl_assign rfl) <| x_done <|
   x_cond (t := x19) rfl (fun hc9 => ?_) (fun hc9 => ?_)
  ·replace hF := it_t hc9 hF
   refine x_seq <| x_region <| p (yl_assign rfl) <| x_done <| ?_
   have e_ := Option.some.inj (show some _ = some _ from hF); subst e_
   exact x_return ⟨_, ⟨_, _, rfl, rfl, rfl⟩, rfl, hS.drop⟩
  ·replace hF := it_bf hc9 hF
   replace hF := ck_s hF; obtain ⟨q9, hF⟩ := hF
   replace hF := lv_s hF; obtain ⟨q0o, q0k, hF⟩ := hF
   have q_ := q2.get q9; obtain ⟨q17, q0a, q0l⟩ := q_
   rw [← q0k] at q0a
   obtain ⟨q0p, q0q, q0r, q0s, q0t, q0u, q0v, q0w, q0x, rfl, q0e, q0f, q0g⟩ := q0a
   have e_ := q0e.n; subst e_
   have e_ := q0f.n; subst e_
   have e_ := q0g.n; subst e_
   refine x_seq <| x_region <| p (yl_move rfl) <| p (yl_field0 fld_38_0 rfl) <|
    pa (at_load one_3 rfl (hS.cell rfl)) <| p (yix_f sl_31 rfl rfl q2 q9) <| p (yl_fieldAddr fld_206_1 rfl) <| pa (at_load one_4 rfl (Elt.ld (j := 1) q0l (hS.pull 1) rfl)) <|
    p (yl_assign rfl) <| x_done <|
    x_cond (t := q0o.Flop) rfl (fun hc20 => ?_) (fun hc20 => ?_)
   ·replace hF := it_t hc20 hF
    refine x_seq <| x_region <| p (yl_assign rfl) <| x_done <| ?_
    have e_ := Option.some.inj (show some _ = some _ from hF); subst e_
    exact x_return ⟨_, ⟨_, _, rfl, rfl, rfl⟩, rfl, hS.drop⟩
   ·replace hF := it_bf hc20 hF
    replace hF := ck_s hF; obtain ⟨q0b, hF⟩ := hF
    replace hF := lv_s hF; obtain ⟨q4, q0m, hF⟩ := hF
    have q_ := q2.get q0b; obtain ⟨q18, q0c, q0n⟩ := q_
    rw [← q0m] at q0c
    obtain ⟨q0y, q0z, q10, q11, q12, q13, q14, q15, q16, rfl, q0h, q0i, q0j⟩ := q0c
    have e_ := q0h.n; subst e_
    have e_ := q0i.n; subst e_
    have e_ := q0j.n; subst e_
    replace hF := ck_s hF; obtain ⟨q8, hF⟩ := hF
    replace hF := lv_s hF; obtain ⟨x48, hx48, hF⟩ := hF
    refine x_seq <| x_still mixed (by kernel_rfl) hS <| q (yl_move rfl) <| q (yl_field0 fld_38_0 rfl) <|
     qa (fun w' hS => at_load one_3 rfl (hS.cell rfl)) <| q (yix_f sl_31 rfl rfl q2 q0b) <| q (yl_fieldAddr fld_206_2 rfl) <| qa (fun w' hS => at_load one_3 rfl (Elt.ld (j := 2) q0n (hS.pull 1) rfl)) <|
     q (yl_field0 fld_38_2 rfl) <| qa (fun w' hS => at_load one_22 rfl (hS.cell rfl)) <| q (yl_len_slice usl_22 rfl) <| q (yl_neq rfl rfl) <|
     q (yl_move rfl) <| qg (v := .slice q3 lib1.length c_lib1) 38 (c := !(decide (q4.Ins ≠ (x0.Ins.length : Int)))) (says_f _) (fun hq w' hS => Yl.at (yl_move rfl)) <| qg (v := .pointer (some ⟨b2, 0, none⟩)) 38 (c := !(decide (q4.Ins ≠ (x0.Ins.length : Int)))) (says_f _) (fun hq w' hS => Yl.at (yl_field0 fld_38_0 rfl)) <| qg (v := .int .i64 x0.Cell) 38 (c := !(decide (q4.Ins ≠ (x0.Ins.length : Int)))) (says_f _) (fun hq w' hS => at_load one_3 (cv hq) (hS.cell rfl)) <|
     qg (v := .pointer (some ((adr q3).add (x0.Cell.toNat * R_api_Cell.sz)))) 38 (c := !(decide (q4.Ins ≠ (x0.Ins.length : Int)))) (says_f _) (fun hq w' hS => Yl.at (yix_f sl_31 (cv hq) (cv hq) q2 (q8 hq))) <| qg (v := .pointer (some (((adr q3).add (x0.Cell.toNat * R_api_Cell.sz)).add 3))) 38 (c := !(decide (q4.Ins ≠ (x0.Ins.length : Int)))) (says_f _) (fun hq w' hS => Yl.at (yl_fieldAddr fld_206_3 (cv hq))) <| qg (v := .int .u64 ((gt lib1 x0.Cell).Table)) 38 (c := !(decide (q4.Ins ≠ (x0.Ins.length : Int)))) (says_f _) (fun hq w' hS => (by obtain ⟨el, ek, ee⟩ := q2.get (q8 hq); obtain ⟨_q0, _q1, _q2, _q3, _q4, _q5, _q6, _q7, _q8, rfl, -⟩ := ek; exact at_load one_35 (cv hq) (Elt.ld (j := 3) ee (hS.pull 1) rfl))) <| qg (v := .pointer (some ⟨b2, 1, none⟩)) 38 (c := !(decide (q4.Ins ≠ (x0.Ins.length : Int)))) (says_f _) (fun hq w' hS => Yl.at (yl_field0 fld_38_1 rfl)) <|
     qg (v := .int .u64 x0.Table) 38 (c := !(decide (q4.Ins ≠ (x0.Ins.length : Int)))) (says_f _) (fun hq w' hS => at_load one_35 (cv hq) (hS.cell rfl)) <| qg (v := .bool (decide (((gt lib1 x0.Cell).Table) ≠ x0.Table))) 38 (c := !(decide (q4.Ins ≠ (x0.Ins.length : Int)))) (says_f _) (fun hq w' hS => Yl.at (yl_neq (cv hq) (cv hq))) <| q (yor' rfl rfl (fun hc => (cv (t_not hc))) hx48) <| q (yl_assign rfl) <|
     q_done fun w' hS => ?_
    refine x_cond (t := x48) rfl (fun hc27 => ?_) (fun hc27 => ?_)
    ·replace hF := it_t hc27 hF
     refine x_seq <| x_region <| p (yl_assign rfl) <| x_done <| ?_
     have e_ := Option.some.inj (show some _ = some _ from hF); subst e_
     exact x_return ⟨_, ⟨_, _, rfl, rfl, rfl⟩, rfl, hS.drop⟩
    ·replace hF := it_bf hc27 hF
     refine x_skip <| x_blk <| x_seq <| x_region <|
      p (yl_assign rfl) <| x_done <| ?_
     have e_ := Option.some.inj (show some _ = some _ from hF); subst e_
     exact x_return ⟨_, ⟨_, _, rfl, rfl, rfl⟩, rfl, hS.drop⟩
attribute [irreducible] P_netlist_gate

def P_netlist_flop (f0 : T_api_Flop) (lib1 : List T_api_Cell) : Option Int :=
 if f0.Cell = (-1) then
  some (0 : Int)
 else
  lv ((decide (f0.Cell < (-1))) || (decide ((lib1.length : Int) ≤ f0.Cell))) fun x19 =>
  if x19 = true then
   some (7 : Int)
  else
   ck (inb f0.Cell lib1.length) <|
   lv (gt lib1 f0.Cell) fun q2 =>
   if (!q2.Flop) = true then
    some (8 : Int)
   else
    ck (inb f0.Cell lib1.length) <|
    lv (gt lib1 f0.Cell) fun q3 =>
    lv ((decide (q3.Ins = 1)) && (decide (f0.En ≠ 1))) fun x40 =>
    if x40 = true then
     some (4 : Int)
    else
     some (0 : Int)
set_option maxHeartbeats 4000000 in
set_option maxRecDepth 100000 in
theorem c_netlist_flop {w0 w : World} {l : List Assn} {ρ : Heap} {q3 : Option Addr} {q4 : Nat} {c_lib1 : Nat} {f0 : T_api_Flop} {lib1 : List T_api_Cell} {r : Int} (hF : P_netlist_flop f0 lib1 = some r) (q2 : RdS R_api_Cell ρ q3 q4 c_lib1 lib1) (hS : St w0 w (ro ρ :: l)) :
  Calls Tryd.prog 151 #[.agg #[.string f0.Name, .int .i64 f0.Cell, .int .i64 f0.D, .int .i64 f0.En, .bool f0.Init], .slice q3 q4 c_lib1] w fun e w' => e = .returned (.int .i64 r) ∧ St w0 w' (ro ρ :: l) := by
 have e_ := q2.n; subst e_
 refine enterC Tryd.func151 rfl 41 rfl (by simp) ?_
 refine x_seq <| x_region <| ?_
 refine o_box (cs := [.string f0.Name, .int .i64 f0.Cell, .int .i64 f0.D, .int .i64 f0.En, .bool f0.Init]) rfl rfl hS (fun b2 w' hS => ?_)
 refine p (yl_assign rfl) <| x_done <| x_seq <| x_block <|
  x_seq <| x_region <| p (yl_field0 fld_135_1 rfl) <| pa (at_load one_3 rfl (hS.cell rfl)) <|
  p (yl_eql rfl rfl) <| p (yl_assign rfl) <| x_done <|
  x_cond_p (f0.Cell = (-1)) rfl (fun hc5 => ?_) (fun hc5 => ?_)
 ·replace hF := it_t hc5 hF
  refine x_seq <| x_region <| p (yl_assign rfl) <| x_done <| ?_
  have e_ := Option.some.inj (show some _ = some _ from hF); subst e_
  exact x_return ⟨_, ⟨_, _, rfl, rfl, rfl⟩, rfl, hS.drop⟩
 ·replace hF := it_f hc5 hF
  replace hF := lv_s hF; obtain ⟨x19, hx19, hF⟩ := hF
  refine x_seq <| x_region <| p (yl_field0 fld_135_1 rfl) <| pa (at_load one_3 rfl (hS.cell rfl)) <|
   p (yl_lss rfl rfl) <| p (yl_move rfl) <| pg (v := .pointer (some ⟨b2, 1, none⟩)) 13 (c := !(decide (f0.Cell < (-1)))) (says_f _) (fun hq => Yl.at (yl_field0 fld_135_1 rfl)) <| pg (v := .int .i64 f0.Cell) 13 (c := !(decide (f0.Cell < (-1)))) (says_f _) (fun hq => at_load one_3 (cv hq) (hS.cell rfl)) <|
   pg (v := .slice q3 lib1.length c_lib1) 13 (c := !(decide (f0.Cell < (-1)))) (says_f _) (fun hq => Yl.at (yl_move rfl)) <| pg (v := .int .i64 (lib1.length : Int)) 13 (c := !(decide (f0.Cell < (-1)))) (says_f _) (fun hq => Yl.at (yl_len_slice usl_31 (cv hq))) <| pg (v := .bool (decide ((lib1.length : Int) ≤ f0.Cell))) 13 (c := !(decide (f0.Cell < (-1)))) (says_f _) (fun hq => Yl.at (yl_geq (cv hq) (cv hq))) <| p (yor' rfl rfl (fun hc => (cv (t_not hc))) hx19) <|
   p (yl_assign rfl) <| x_done <|
   x_cond (t := x19) rfl (fun hc9 => ?_) (fun hc9 => ?_)
  ·replace hF := it_t hc9 hF
   refine x_seq <| x_region <| p (yl_assign rfl) <| x_done <| ?_
   have e_ := Option.some.inj (show some _ = some _ from hF); subst e_
   exact x_return ⟨_, ⟨_, _, rfl, rfl, rfl⟩, rfl, hS.drop⟩
  ·replace hF := it_bf hc9 hF
   replace hF := ck_s hF; obtain ⟨q6, hF⟩ := hF
   replace hF := lv_s hF; obtain ⟨q0k, q0g, hF⟩ := hF
   have q_ := q2.get q6; obtain ⟨q13, q7, q0h⟩ := q_
   rw [← q0g] at q7
   obtain ⟨q0l, q0m, q0n, q0o, q0p, q0q, q0r, q0s, q0t, rfl, q0a, q0b, q0c⟩ := q7
   have e_ := q0a.n; subst e_
   have e_ := q0b.n; subst e_
   have e_ := q0c.n; subst e_
   refine x_seq <| x_region <| p (yl_move rfl) <| p (yl_field0 fld_135_1 rfl) <|
    pa (at_load one_3 rfl (hS.cell rfl)) <| p (yix_f sl_31 rfl rfl q2 q6) <| p (yl_fieldAddr fld_206_1 rfl) <| pa (at_load one_4 rfl (Elt.ld (j := 1) q0h (hS.pull 1) rfl)) <|
    p (yl_not rfl) <| p (yl_assign rfl) <| x_done <|
    x_cond (t := !q0k.Flop) rfl (fun hc20 => ?_) (fun hc20 => ?_)
   ·replace hF := it_t hc20 hF
    refine x_seq <| x_region <| p (yl_assign rfl) <| x_done <| ?_
    have e_ := Option.some.inj (show some _ = some _ from hF); subst e_
    exact x_return ⟨_, ⟨_, _, rfl, rfl, rfl⟩, rfl, hS.drop⟩
   ·replace hF := it_bf hc20 hF
    replace hF := ck_s hF; obtain ⟨q8, hF⟩ := hF
    replace hF := lv_s hF; obtain ⟨q5, q0i, hF⟩ := hF
    have q_ := q2.get q8; obtain ⟨q14, q9, q0j⟩ := q_
    rw [← q0i] at q9
    obtain ⟨q0u, q0v, q0w, q0x, q0y, q0z, q10, q11, q12, rfl, q0d, q0e, q0f⟩ := q9
    have e_ := q0d.n; subst e_
    have e_ := q0e.n; subst e_
    have e_ := q0f.n; subst e_
    replace hF := lv_s hF; obtain ⟨x40, hx40, hF⟩ := hF
    refine x_seq <| x_region <| p (yl_move rfl) <| p (yl_field0 fld_135_1 rfl) <|
     pa (at_load one_3 rfl (hS.cell rfl)) <| p (yix_f sl_31 rfl rfl q2 q8) <| p (yl_fieldAddr fld_206_2 rfl) <| pa (at_load one_3 rfl (Elt.ld (j := 2) q0j (hS.pull 1) rfl)) <|
     p (yl_eql rfl rfl) <| p (yl_move rfl) <| pg (v := .pointer (some ⟨b2, 3, none⟩)) 36 (c := decide (q5.Ins = 1)) (says_t _) (fun hq => Yl.at (yl_field0 fld_135_3 rfl)) <| pg (v := .int .i64 f0.En) 36 (c := decide (q5.Ins = 1)) (says_t _) (fun hq => at_load one_3 (cv hq) (hS.cell rfl)) <|
     pg (v := .bool (decide (f0.En ≠ 1))) 36 (c := decide (q5.Ins = 1)) (says_t _) (fun hq => Yl.at (yl_neq (cv hq) rfl)) <| p (yand' rfl (fun hc => (cv hc)) rfl hx40) <| p (yl_assign rfl) <| x_done <|
     x_cond (t := x40) rfl (fun hc28 => ?_) (fun hc28 => ?_)
    ·replace hF := it_t hc28 hF
     refine x_seq <| x_region <| p (yl_assign rfl) <| x_done <| ?_
     have e_ := Option.some.inj (show some _ = some _ from hF); subst e_
     exact x_return ⟨_, ⟨_, _, rfl, rfl, rfl⟩, rfl, hS.drop⟩
    ·replace hF := it_bf hc28 hF
     refine x_skip <| x_blk <| x_seq <| x_region <|
      p (yl_assign rfl) <| x_done <| ?_
     have e_ := Option.some.inj (show some _ = some _ from hF); subst e_
     exact x_return ⟨_, ⟨_, _, rfl, rfl, rfl⟩, rfl, hS.drop⟩
attribute [irreducible] P_netlist_flop

def P_netlist_Check_L5 (n0 : T_api_Netlist) (lib1 : List T_api_Cell) : Int → Option (Int ⊕ (Unit ⊕ Int)) := fun q2 =>
 if q2 < (n0.Gates.length : Int) then
  ck (inb q2 n0.Gates.length) <|
  lv (gt n0.Gates q2) fun q4 =>
  bd (P_netlist_gate q4 lib1) fun q3 =>
  if q3 ≠ 0 then
   some (Sum.inr (Sum.inr q3))
  else
   ar (q2 + 1) fun x30 =>
   some (Sum.inl x30)
 else
  some (Sum.inr (Sum.inl ()))
def P_netlist_Check_L12 (n0 : T_api_Netlist) (lib1 : List T_api_Cell) : Int → Option (Int ⊕ (Unit ⊕ Int)) := fun q2 =>
 if q2 < (n0.Flops.length : Int) then
  ck (inb q2 n0.Flops.length) <|
  lv (gt n0.Flops q2) fun q4 =>
  bd (P_netlist_flop q4 lib1) fun q3 =>
  if q3 ≠ 0 then
   some (Sum.inr (Sum.inr q3))
  else
   ar (q2 + 1) fun x44 =>
   some (Sum.inl x44)
 else
  some (Sum.inr (Sum.inl ()))
def P_netlist_Check (n0 : T_api_Netlist) (lib1 : List T_api_Cell) : Option Int :=
 bd (P_netlist_Form n0) fun q2 =>
 if q2 ≠ 0 then
  some q2
 else
  bs (
   lp (P_netlist_Check_L5 n0 lib1) fuel 0) (fun y => some y) fun _ =>
  bs (
   lp (P_netlist_Check_L12 n0 lib1) fuel 0) (fun y => some y) fun _ =>
  some (0 : Int)
set_option maxHeartbeats 4000000 in
set_option maxRecDepth 100000 in
theorem c_netlist_Check {w0 w : World} {l : List Assn} {ρ : Heap} {q5 : Option Addr} {q0s : Nat} {c_n0_0 : Nat} {q6 : Option Addr} {q0t : Nat} {c_n0_1 : Nat} {q3 : Option Addr} {q0u : Nat} {c_n0_2 : Nat} {q4 : Option Addr} {q0v : Nat} {c_n0_3 : Nat} {q7 : Option Addr} {q0w : Nat} {c_n0_4 : Nat} {q0a : Option Addr} {q0x : Nat} {c_lib1 : Nat} {n0 : T_api_Netlist} {lib1 : List T_api_Cell} {r : Int} (hF : P_netlist_Check n0 lib1 = some r) (q0y : RdS RpS ρ q5 q0s c_n0_0 n0.In) (q0z : RdS RpS ρ q6 q0t c_n0_1 n0.Out) (q0d : RdS R_api_Flop ρ q3 q0u c_n0_2 n0.Flops) (q0e : RdS R_api_Gate ρ q4 q0v c_n0_3 n0.Gates) (q10 : RdS (RpI .i64) ρ q7 q0w c_n0_4 n0.Outs) (q0h : RdS R_api_Cell ρ q0a q0x c_lib1 lib1) (hS : St w0 w (ro ρ :: l)) :
  Calls Tryd.prog 105 #[.agg #[.slice q5 q0s c_n0_0, .slice q6 q0t c_n0_1, .slice q3 q0u c_n0_2, .slice q4 q0v c_n0_3, .slice q7 q0w c_n0_4], .slice q0a q0x c_lib1] w fun e w' => e = .returned (.int .i64 r) ∧ St w0 w' (ro ρ :: l) := by
 have e_ := q0y.n; subst e_
 have e_ := q0z.n; subst e_
 have e_ := q0d.n; subst e_
 have e_ := q0e.n; subst e_
 have e_ := q10.n; subst e_
 have e_ := q0h.n; subst e_
 refine enterC Tryd.func105 rfl 45 rfl (by simp) ?_
 refine x_seq <| x_region <| ?_
 refine o_box (cs := [.slice q5 n0.In.length c_n0_0, .slice q6 n0.Out.length c_n0_1, .slice q3 n0.Flops.length c_n0_2, .slice q4 n0.Gates.length c_n0_3, .slice q7 n0.Outs.length c_n0_4]) rfl rfl hS (fun b2 w' hS => ?_)
 replace hF := bd_s hF; obtain ⟨q0i, q1a, hF⟩ := hF
 refine p (yl_assign rfl) <| x_done <| x_seq <| x_seq <|
  x_region <| pa (v := .agg #[.slice q5 n0.In.length c_n0_0, .slice q6 n0.Out.length c_n0_1, .slice q3 n0.Flops.length c_n0_2, .slice q4 n0.Gates.length c_n0_3, .slice q7 n0.Outs.length c_n0_4]) (ld_sub agg_30 rfl rfl rfl hS) <| ?_
 have hcall := c_netlist_Form q1a q0y q0z q0d q0e q10 (hS.pull 1)
 refine o_cc call_149 (args1 rfl) ((Calls.mono hcall (fun e w'' h => And.intro h.1 (h.2.pull 1)))) ?_
 rintro e w' ⟨rfl, hS⟩
 refine ⟨_, rfl, ?_⟩
 refine p (v := .int .i64 q0i) (yl_assign rfl) <| x_done <| x_seq <| x_region <|
  p (v := .int .i64 q0i) (yl_move rfl) <| p (yl_neq rfl rfl) <| x_done <|
  x_cond_p (q0i ≠ 0) rfl (fun hc15 => ?_) (fun hc15 => ?_)
 ·replace hF := it_t hc15 hF
  refine x_seq <| x_region <| p (v := .int .i64 q0i) (yl_move rfl) <| p (v := .int .i64 q0i) (yl_assign rfl) <|
   x_done <| ?_
  have e_ := Option.some.inj (show some _ = some _ from hF); subst e_
  exact x_return ⟨_, ⟨_, _, rfl, rfl, rfl⟩, rfl, hS.drop⟩
 ·replace hF := it_f hc15 hF
  refine x_skip <| x_seq <| x_seq <| x_region <|
   p (yl_field0 fld_30_3 rfl) <| pa (at_load one_28 rfl (hS.cell rfl)) <| p (yl_len_slice usl_28 rfl) <| p (yl_move rfl) <|
   x_done <| ?_
  replace hF := bs_s hF; obtain ⟨oL5, hLL5, hF⟩ := hF
  refine x_join (fun E w => (Sum.inl (())) = oL5 ∧ E 1 = .slice q0a lib1.length c_lib1 ∧ E 2 = .pointer (some ⟨b2, 0, none⟩) ∧ St w0 w (cells b2 30 [.slice q5 n0.In.length c_n0_0, .slice q6 n0.Out.length c_n0_1, .slice q3 n0.Flops.length c_n0_2, .slice q4 n0.Gates.length c_n0_3, .slice q7 n0.Outs.length c_n0_4] :: ro ρ :: l)) ?_ ?_
  ·refine x_block ?_
   refine x_loop (fun k_ E w => ∃ (q0b : Int), lp (P_netlist_Check_L5 n0 lib1) k_ q0b = some oL5 ∧ E 1 = .slice q0a lib1.length c_lib1 ∧ E 2 = .pointer (some ⟨b2, 0, none⟩) ∧ E 18 = .slice q4 n0.Gates.length c_n0_3 ∧ E 19 = .int .i64 (n0.Gates.length : Int) ∧ E 20 = .int .i64 q0b ∧ St w0 w (cells b2 30 [.slice q5 n0.In.length c_n0_0, .slice q6 n0.Out.length c_n0_1, .slice q3 n0.Flops.length c_n0_2, .slice q4 n0.Gates.length c_n0_3, .slice q7 n0.Outs.length c_n0_4] :: ro ρ :: l)) fuel ⟨0, hLL5, rfl, rfl, rfl, rfl, rfl, ((hS.pull 1).pull 1)⟩ ?_
   rintro kL5 E w ⟨q0b, hLL5, q0j, q11, q0p, q0q, q0g, hS⟩
   replace hLL5 := lp_s hLL5; obtain ⟨kL5, obL5, rfl, hFL5, hLL5⟩ := hLL5
   refine x_seq <| x_region <| p (yl_lss q0g q0q) <| x_done <|
    x_seq <|
    x_cond_p (q0b < (n0.Gates.length : Int)) rfl (fun hc21 => ?_) (fun hc21 => ?_)
   ·replace hFL5 := it_t hc21 hFL5
    replace hFL5 := ck_s hFL5; obtain ⟨q15, hFL5⟩ := hFL5
    replace hFL5 := lv_s hFL5; obtain ⟨q8, q1b, hFL5⟩ := hFL5
    have q_ := q0e.get q15; obtain ⟨q1i, q16, q1c⟩ := q_
    rw [← q1b] at q16
    obtain ⟨q0k, q1g, q0l, rfl, q12⟩ := q16
    have e_ := q12.n; subst e_
    refine x_skip <| x_seq <| x_block <| x_seq <|
     x_region <| p (yix_f sl_28 q0p q0g q0e q15) <| pa (v := .agg #[.int .i64 q8.Cell, .int .u64 q8.Table, .slice q0k q8.Ins.length q0l]) (at_loadAgg agg_38 rfl rfl (Elt.every q1c (hS.pull 1))) <| ?_
    refine o_alloc zero_38 hS (fun b7 w' hS => ?_)
    refine o_storeAgg (news := [.int .i64 q8.Cell, .int .u64 q8.Table, .slice q0k q8.Ins.length q0l]) agg_38 rfl rfl rfl (by simp [over_length]) hS (fun w' hS => ?_)
    replace hFL5 := bd_s hFL5; obtain ⟨q0m, q1d, hFL5⟩ := hFL5
    refine x_done <| x_seq <| x_region <| pa (v := .agg #[.int .i64 q8.Cell, .int .u64 q8.Table, .slice q0k q8.Ins.length q0l]) (ld_sub agg_38 rfl rfl rfl hS) <|
     p (yl_move q0j) <| ?_
    have hcall := c_netlist_gate q1d q12 q0h (hS.pull 2)
    refine o_cc call_150 (args2 rfl rfl) ((Calls.mono hcall (fun e w'' h => And.intro h.1 ((h.2.pull 2).pull 2)))) ?_
    rintro e w' ⟨rfl, hS⟩
    refine ⟨_, rfl, ?_⟩
    refine p (v := .int .i64 q0m) (yl_assign rfl) <| x_done <| x_seq <| x_region <|
     p (v := .int .i64 q0m) (yl_move rfl) <| p (yl_neq rfl rfl) <| x_done <|
     x_cond_p (q0m ≠ 0) rfl (fun hc28 => ?_) (fun hc28 => ?_)
    ·replace hFL5 := it_t hc28 hFL5
     refine x_seq <| x_region <| p (v := .int .i64 q0m) (yl_move rfl) <| p (v := .int .i64 q0m) (yl_assign rfl) <|
      x_done <| ?_
     have e_ := Option.some.inj (show some _ = some _ from hFL5); subst e_
     have e_ := (show _ = oL5 from hLL5); subst e_
     have e_ := Option.some.inj (show some _ = some _ from hF); subst e_
     exact x_return ⟨_, ⟨_, _, rfl, rfl, rfl⟩, rfl, hS.drop.drop⟩
    ·replace hFL5 := it_f hc28 hFL5
     replace hFL5 := ar_s hFL5; obtain ⟨x30, hx30, hFL5⟩ := hFL5
     refine x_skip <| x_blk <| x_region <| p (yadd q0g rfl hx30) <|
      p (yl_move rfl) <| x_done <| ?_
     have e_ := Option.some.inj (show some _ = some _ from hFL5); subst e_
     exact x_inv ⟨kL5, Nat.lt_succ_self _, x30, hLL5, q0j, q11, q0p, q0q, rfl, ((hS.drop.pull 1).pull 1)⟩
   ·replace hFL5 := it_f hc21 hFL5
    refine x_exitTo _ rfl <| ?_
    have e_ := Option.some.inj (show some _ = some _ from hFL5); subst e_
    exact x_inv ⟨hLL5, q0j, q11, ((hS.pull 1).pull 1)⟩
  rintro E w ⟨rfl, q1e, q1f, hS⟩
  refine x_seq <| x_seq <| x_region <| p (yl_field0 fld_30_2 q1f) <|
   pa (at_load one_27 rfl (hS.cell rfl)) <| p (yl_len_slice usl_27 rfl) <| p (yl_move rfl) <| x_done <| ?_
  replace hF := bs_s hF; obtain ⟨oL12, hLL12, hF⟩ := hF
  refine x_join (fun E w => (Sum.inl (())) = oL12 ∧ St w0 w (ro ρ :: l)) ?_ ?_
  ·refine x_block ?_
   refine x_loop (fun k_ E w => ∃ (q9 : Int), lp (P_netlist_Check_L12 n0 lib1) k_ q9 = some oL12 ∧ E 1 = .slice q0a lib1.length c_lib1 ∧ E 32 = .slice q3 n0.Flops.length c_n0_2 ∧ E 33 = .int .i64 (n0.Flops.length : Int) ∧ E 34 = .int .i64 q9 ∧ St w0 w (ro ρ :: l)) fuel ⟨0, hLL12, q1e, rfl, rfl, rfl, hS.drop⟩ ?_
   rintro kL12 E w ⟨q9, hLL12, q0r, q0n, q0o, q0c, hS⟩
   replace hLL12 := lp_s hLL12; obtain ⟨kL12, obL12, rfl, hFL12, hLL12⟩ := hLL12
   refine x_seq <| x_region <| p (yl_lss q0c q0o) <| x_done <|
    x_seq <|
    x_cond_p (q9 < (n0.Flops.length : Int)) rfl (fun hc35 => ?_) (fun hc35 => ?_)
   ·replace hFL12 := it_t hc35 hFL12
    replace hFL12 := ck_s hFL12; obtain ⟨q13, hFL12⟩ := hFL12
    replace hFL12 := lv_s hFL12; obtain ⟨q2, q17, hFL12⟩ := hFL12
    have q_ := q0d.get q13; obtain ⟨q1h, q14, q18⟩ := q_
    rw [← q17] at q14
    have e_ := q14; subst e_
    refine x_skip <| x_seq <| x_block <| x_seq <|
     x_region <| p (yix_f sl_27 q0n q0c q0d q13) <| pa (v := .agg #[.string q2.Name, .int .i64 q2.Cell, .int .i64 q2.D, .int .i64 q2.En, .bool q2.Init]) (at_loadAgg agg_135 rfl rfl (Elt.every q18 hS)) <| ?_
    refine o_alloc zero_135 hS (fun b10 w' hS => ?_)
    refine o_storeAgg (news := [.string q2.Name, .int .i64 q2.Cell, .int .i64 q2.D, .int .i64 q2.En, .bool q2.Init]) agg_135 rfl rfl rfl (by simp [over_length]) hS (fun w' hS => ?_)
    replace hFL12 := bd_s hFL12; obtain ⟨q0f, q19, hFL12⟩ := hFL12
    refine x_done <| x_seq <| x_region <| pa (v := .agg #[.string q2.Name, .int .i64 q2.Cell, .int .i64 q2.D, .int .i64 q2.En, .bool q2.Init]) (ld_sub agg_135 rfl rfl rfl hS) <|
     p (yl_move q0r) <| ?_
    have hcall := c_netlist_flop q19 q0h (hS.pull 1)
    refine o_cc call_151 (args2 rfl rfl) ((Calls.mono hcall (fun e w'' h => And.intro h.1 (h.2.pull 1)))) ?_
    rintro e w' ⟨rfl, hS⟩
    refine ⟨_, rfl, ?_⟩
    refine p (v := .int .i64 q0f) (yl_assign rfl) <| x_done <| x_seq <| x_region <|
     p (v := .int .i64 q0f) (yl_move rfl) <| p (yl_neq rfl rfl) <| x_done <|
     x_cond_p (q0f ≠ 0) rfl (fun hc42 => ?_) (fun hc42 => ?_)
    ·replace hFL12 := it_t hc42 hFL12
     refine x_seq <| x_region <| p (v := .int .i64 q0f) (yl_move rfl) <| p (v := .int .i64 q0f) (yl_assign rfl) <|
      x_done <| ?_
     have e_ := Option.some.inj (show some _ = some _ from hFL12); subst e_
     have e_ := (show _ = oL12 from hLL12); subst e_
     have e_ := Option.some.inj (show some _ = some _ from hF); subst e_
     exact x_return ⟨_, ⟨_, _, rfl, rfl, rfl⟩, rfl, hS.drop⟩
    ·replace hFL12 := it_f hc42 hFL12
     replace hFL12 := ar_s hFL12; obtain ⟨x44, hx44, hFL12⟩ := hFL12
     refine x_skip <| x_blk <| x_region <| p (yadd q0c rfl hx44) <|
      p (yl_move rfl) <| x_done <| ?_
     have e_ := Option.some.inj (show some _ = some _ from hFL12); subst e_
     exact x_inv ⟨kL12, Nat.lt_succ_self _, x44, hLL12, q0r, q0n, q0o, rfl, hS.drop⟩
   ·replace hFL12 := it_f hc35 hFL12
    refine x_exitTo _ rfl <| ?_
    have e_ := Option.some.inj (show some _ = some _ from hFL12); subst e_
    exact x_inv ⟨hLL12, hS⟩
  rintro E w ⟨rfl, hS⟩
  refine x_seq <| x_region <| p (yl_assign rfl) <| x_done <| ?_
  have e_ := Option.some.inj (show some _ = some _ from hF); subst e_
  exact x_return ⟨_, ⟨_, _, rfl, rfl, rfl⟩, rfl, hS⟩
attribute [irreducible] P_netlist_Check

def P_floor_CheckChip_L8 (n0 : T_api_Netlist) : Int → Option (Int ⊕ (Unit ⊕ Int)) := fun q2 =>
 if q2 < (n0.Gates.length : Int) then
  ck (inb q2 n0.Gates.length) <|
  lv (gt n0.Gates q2) fun q3 =>
  if q3.Cell < 0 then
   some (Sum.inr (Sum.inr (8 : Int)))
  else
   ar (q2 + 1) fun x32 =>
   some (Sum.inl x32)
 else
  some (Sum.inr (Sum.inl ()))
def P_floor_CheckChip_L14 (n0 : T_api_Netlist) : Int → Option (Int ⊕ (Unit ⊕ Int)) := fun q2 =>
 if q2 < (n0.Flops.length : Int) then
  ck (inb q2 n0.Flops.length) <|
  lv (gt n0.Flops q2) fun q3 =>
  if q3.Cell < 0 then
   some (Sum.inr (Sum.inr (8 : Int)))
  else
   ar (q2 + 1) fun x43 =>
   some (Sum.inl x43)
 else
  some (Sum.inr (Sum.inl ()))
def P_floor_CheckChip (n0 : T_api_Netlist) (l_1 : List T_api_Cell) : Option Int :=
 bd (P_floor_CheckLib l_1) fun q2 =>
 if q2 ≠ 0 then
  some q2
 else
  bd (P_netlist_Check n0 l_1) fun q3 =>
  if q3 ≠ 0 then
   some q3
  else
   bs (
    lp (P_floor_CheckChip_L8 n0) fuel 0) (fun y => some y) fun _ =>
   bs (
    lp (P_floor_CheckChip_L14 n0) fuel 0) (fun y => some y) fun _ =>
   ar ((n0.Gates.length : Int) + (n0.Flops.length : Int)) fun x50 =>
   if 300 < x50 then
    some (3 : Int)
   else
    some (0 : Int)
set_option maxHeartbeats 4000000 in
set_option maxRecDepth 100000 in
theorem c_floor_CheckChip {w0 w : World} {l : List Assn} {ρ : Heap} {q5 : Option Addr} {q0n : Nat} {c_n0_0 : Nat} {q6 : Option Addr} {q0o : Nat} {c_n0_1 : Nat} {q2 : Option Addr} {q0p : Nat} {c_n0_2 : Nat} {q3 : Option Addr} {q0q : Nat} {c_n0_3 : Nat} {q7 : Option Addr} {q0r : Nat} {c_n0_4 : Nat} {q11 : Option Addr} {q12 : Nat} {c_l_1 : Nat} {n0 : T_api_Netlist} {l_1 : List T_api_Cell} {r : Int} (hF : P_floor_CheckChip n0 l_1 = some r) (q0s : RdS RpS ρ q5 q0n c_n0_0 n0.In) (q0t : RdS RpS ρ q6 q0o c_n0_1 n0.Out) (q0c : RdS R_api_Flop ρ q2 q0p c_n0_2 n0.Flops) (q0d : RdS R_api_Gate ρ q3 q0q c_n0_3 n0.Gates) (q0u : RdS (RpI .i64) ρ q7 q0r c_n0_4 n0.Outs) (q0m : RdS R_api_Cell ρ q11 q12 c_l_1 l_1) (hS : St w0 w (ro ρ :: l)) :
  Calls Tryd.prog 49 #[.agg #[.slice q5 q0n c_n0_0, .slice q6 q0o c_n0_1, .slice q2 q0p c_n0_2, .slice q3 q0q c_n0_3, .slice q7 q0r c_n0_4], .slice q11 q12 c_l_1] w fun e w' => e = .returned (.int .i64 r) ∧ St w0 w' (ro ρ :: l) := by
 have e_ := q0s.n; subst e_
 have e_ := q0t.n; subst e_
 have e_ := q0c.n; subst e_
 have e_ := q0d.n; subst e_
 have e_ := q0u.n; subst e_
 have e_ := q0m.n; subst e_
 refine enterC Tryd.func49 rfl 52 rfl (by simp) ?_
 refine x_seq <| x_region <| ?_
 refine o_box (cs := [.slice q5 n0.In.length c_n0_0, .slice q6 n0.Out.length c_n0_1, .slice q2 n0.Flops.length c_n0_2, .slice q3 n0.Gates.length c_n0_3, .slice q7 n0.Outs.length c_n0_4]) rfl rfl hS (fun b2 w' hS => ?_)
 replace hF := bd_s hF; obtain ⟨q0f, q19, hF⟩ := hF
 refine p (yl_assign rfl) <| x_done <| x_seq <| x_seq <|
  x_region <| p (yl_move rfl) <| ?_
 have hcall := c_floor_CheckLib q19 q0m (hS.pull 1)
 refine o_cc call_104 (args1 rfl) ((Calls.mono hcall (fun e w'' h => And.intro h.1 (h.2.pull 1)))) ?_
 rintro e w' ⟨rfl, hS⟩
 refine ⟨_, rfl, ?_⟩
 refine p (v := .int .i64 q0f) (yl_assign rfl) <| x_done <| x_seq <| x_region <|
  p (v := .int .i64 q0f) (yl_move rfl) <| p (yl_neq rfl rfl) <| x_done <|
  x_cond_p (q0f ≠ 0) rfl (fun hc14 => ?_) (fun hc14 => ?_)
 ·replace hF := it_t hc14 hF
  refine x_seq <| x_region <| p (v := .int .i64 q0f) (yl_move rfl) <| p (v := .int .i64 q0f) (yl_assign rfl) <|
   x_done <| ?_
  have e_ := Option.some.inj (show some _ = some _ from hF); subst e_
  exact x_return ⟨_, ⟨_, _, rfl, rfl, rfl⟩, rfl, hS.drop⟩
 ·replace hF := it_f hc14 hF
  replace hF := bd_s hF; obtain ⟨q0g, q1a, hF⟩ := hF
  refine x_skip <| x_seq <| x_seq <| x_region <|
   pa (v := .agg #[.slice q5 n0.In.length c_n0_0, .slice q6 n0.Out.length c_n0_1, .slice q2 n0.Flops.length c_n0_2, .slice q3 n0.Gates.length c_n0_3, .slice q7 n0.Outs.length c_n0_4]) (ld_sub agg_30 rfl rfl rfl hS) <| p (yl_move rfl) <| ?_
  have hcall := c_netlist_Check q1a q0s q0t q0c q0d q0u q0m (hS.pull 1)
  refine o_cc call_105 (args2 rfl rfl) ((Calls.mono hcall (fun e w'' h => And.intro h.1 (h.2.pull 1)))) ?_
  rintro e w' ⟨rfl, hS⟩
  refine ⟨_, rfl, ?_⟩
  refine p (v := .int .i64 q0g) (yl_assign rfl) <| x_done <| x_seq <| x_region <|
   p (v := .int .i64 q0g) (yl_move rfl) <| p (yl_neq rfl rfl) <| x_done <|
   x_cond_p (q0g ≠ 0) rfl (fun hc20 => ?_) (fun hc20 => ?_)
  ·replace hF := it_t hc20 hF
   refine x_seq <| x_region <| p (v := .int .i64 q0g) (yl_move rfl) <| p (v := .int .i64 q0g) (yl_assign rfl) <|
    x_done <| ?_
   have e_ := Option.some.inj (show some _ = some _ from hF); subst e_
   exact x_return ⟨_, ⟨_, _, rfl, rfl, rfl⟩, rfl, hS.drop⟩
  ·replace hF := it_f hc20 hF
   refine x_skip <| x_seq <| x_seq <| x_region <|
    p (yl_field0 fld_30_3 rfl) <| pa (at_load one_28 rfl (hS.cell rfl)) <| p (yl_len_slice usl_28 rfl) <| p (yl_move rfl) <|
    x_done <| ?_
   replace hF := bs_s hF; obtain ⟨oL8, hLL8, hF⟩ := hF
   refine x_join (fun E w => (Sum.inl (())) = oL8 ∧ E 2 = .pointer (some ⟨b2, 0, none⟩) ∧ St w0 w (cells b2 30 [.slice q5 n0.In.length c_n0_0, .slice q6 n0.Out.length c_n0_1, .slice q2 n0.Flops.length c_n0_2, .slice q3 n0.Gates.length c_n0_3, .slice q7 n0.Outs.length c_n0_4] :: ro ρ :: l)) ?_ ?_
   ·refine x_block ?_
    refine x_loop (fun k_ E w => ∃ (q9 : Int), lp (P_floor_CheckChip_L8 n0) k_ q9 = some oL8 ∧ E 2 = .pointer (some ⟨b2, 0, none⟩) ∧ E 23 = .slice q3 n0.Gates.length c_n0_3 ∧ E 24 = .int .i64 (n0.Gates.length : Int) ∧ E 25 = .int .i64 q9 ∧ St w0 w (cells b2 30 [.slice q5 n0.In.length c_n0_0, .slice q6 n0.Out.length c_n0_1, .slice q2 n0.Flops.length c_n0_2, .slice q3 n0.Gates.length c_n0_3, .slice q7 n0.Outs.length c_n0_4] :: ro ρ :: l)) fuel ⟨0, hLL8, rfl, rfl, rfl, rfl, ((hS.pull 1).pull 1)⟩ ?_
    rintro kL8 E w ⟨q9, hLL8, q0v, q0j, q0k, q0e, hS⟩
    replace hLL8 := lp_s hLL8; obtain ⟨kL8, obL8, rfl, hFL8, hLL8⟩ := hLL8
    refine x_seq <| x_region <| p (yl_lss q0e q0k) <| x_done <|
     x_seq <|
     x_cond_p (q9 < (n0.Gates.length : Int)) rfl (fun hc26 => ?_) (fun hc26 => ?_)
    ·replace hFL8 := it_t hc26 hFL8
     replace hFL8 := ck_s hFL8; obtain ⟨q13, hFL8⟩ := hFL8
     replace hFL8 := lv_s hFL8; obtain ⟨q0a, q1b, hFL8⟩ := hFL8
     have q_ := q0d.get q13; obtain ⟨q1f, q14, q1c⟩ := q_
     rw [← q1b] at q14
     obtain ⟨q0w, q1d, q0x, rfl, q16⟩ := q14
     have e_ := q16.n; subst e_
     refine x_skip <| x_seq <| x_block <| x_seq <|
      x_region <| p (yix_f sl_28 q0j q0e q0d q13) <| pa (v := .agg #[.int .i64 q0a.Cell, .int .u64 q0a.Table, .slice q0w q0a.Ins.length q0x]) (at_loadAgg agg_38 rfl rfl (Elt.every q1c (hS.pull 1))) <| ?_
     refine o_alloc zero_38 hS (fun b8 w' hS => ?_)
     refine o_storeAgg (news := [.int .i64 q0a.Cell, .int .u64 q0a.Table, .slice q0w q0a.Ins.length q0x]) agg_38 rfl rfl rfl (by simp [over_length]) hS (fun w' hS => ?_)
     refine x_done <| x_seq <| x_region <| p (yl_field0 fld_38_0 rfl) <|
      pa (at_load one_3 rfl (hS.cell rfl)) <| p (yl_lss rfl rfl) <| x_done <|
      x_cond_p (q0a.Cell < 0) rfl (fun hc31 => ?_) (fun hc31 => ?_)
     ·replace hFL8 := it_t hc31 hFL8
      refine x_seq <| x_region <| p (yl_assign rfl) <| x_done <| ?_
      have e_ := Option.some.inj (show some _ = some _ from hFL8); subst e_
      have e_ := (show _ = oL8 from hLL8); subst e_
      have e_ := Option.some.inj (show some _ = some _ from hF); subst e_
      exact x_return ⟨_, ⟨_, _, rfl, rfl, rfl⟩, rfl, hS.drop.drop⟩
     ·replace hFL8 := it_f hc31 hFL8
      replace hFL8 := ar_s hFL8; obtain ⟨x32, hx32, hFL8⟩ := hFL8
      refine x_skip <| x_blk <| x_region <| p (yadd q0e rfl hx32) <|
       p (yl_move rfl) <| x_done <| ?_
      have e_ := Option.some.inj (show some _ = some _ from hFL8); subst e_
      exact x_inv ⟨kL8, Nat.lt_succ_self _, x32, hLL8, q0v, q0j, q0k, rfl, ((hS.drop.pull 1).pull 1)⟩
    ·replace hFL8 := it_f hc26 hFL8
     refine x_exitTo _ rfl <| ?_
     have e_ := Option.some.inj (show some _ = some _ from hFL8); subst e_
     exact x_inv ⟨hLL8, q0v, ((hS.pull 1).pull 1)⟩
   rintro E w ⟨rfl, q15, hS⟩
   refine x_seq <| x_seq <| x_region <| p (yl_field0 fld_30_2 q15) <|
    pa (at_load one_27 rfl (hS.cell rfl)) <| p (yl_len_slice usl_27 rfl) <| p (yl_move rfl) <| x_done <| ?_
   replace hF := bs_s hF; obtain ⟨oL14, hLL14, hF⟩ := hF
   refine x_join (fun E w => (Sum.inl (())) = oL14 ∧ E 2 = .pointer (some ⟨b2, 0, none⟩) ∧ St w0 w (cells b2 30 [.slice q5 n0.In.length c_n0_0, .slice q6 n0.Out.length c_n0_1, .slice q2 n0.Flops.length c_n0_2, .slice q3 n0.Gates.length c_n0_3, .slice q7 n0.Outs.length c_n0_4] :: ro ρ :: l)) ?_ ?_
   ·refine x_block ?_
    refine x_loop (fun k_ E w => ∃ (q8 : Int), lp (P_floor_CheckChip_L14 n0) k_ q8 = some oL14 ∧ E 2 = .pointer (some ⟨b2, 0, none⟩) ∧ E 34 = .slice q2 n0.Flops.length c_n0_2 ∧ E 35 = .int .i64 (n0.Flops.length : Int) ∧ E 36 = .int .i64 q8 ∧ St w0 w (cells b2 30 [.slice q5 n0.In.length c_n0_0, .slice q6 n0.Out.length c_n0_1, .slice q2 n0.Flops.length c_n0_2, .slice q3 n0.Gates.length c_n0_3, .slice q7 n0.Outs.length c_n0_4] :: ro ρ :: l)) fuel ⟨0, hLL14, q15, rfl, rfl, rfl, ((hS.pull 1).pull 1)⟩ ?_
    rintro kL14 E w ⟨q8, hLL14, q0l, q0h, q0i, q0b, hS⟩
    replace hLL14 := lp_s hLL14; obtain ⟨kL14, obL14, rfl, hFL14, hLL14⟩ := hLL14
    refine x_seq <| x_region <| p (yl_lss q0b q0i) <| x_done <|
     x_seq <|
     x_cond_p (q8 < (n0.Flops.length : Int)) rfl (fun hc37 => ?_) (fun hc37 => ?_)
    ·replace hFL14 := it_t hc37 hFL14
     replace hFL14 := ck_s hFL14; obtain ⟨q0y, hFL14⟩ := hFL14
     replace hFL14 := lv_s hFL14; obtain ⟨q4, q17, hFL14⟩ := hFL14
     have q_ := q0c.get q0y; obtain ⟨q1e, q0z, q18⟩ := q_
     rw [← q17] at q0z
     have e_ := q0z; subst e_
     refine x_skip <| x_seq <| x_block <| x_seq <|
      x_region <| p (yix_f sl_27 q0h q0b q0c q0y) <| pa (v := .agg #[.string q4.Name, .int .i64 q4.Cell, .int .i64 q4.D, .int .i64 q4.En, .bool q4.Init]) (at_loadAgg agg_135 rfl rfl (Elt.every q18 (hS.pull 1))) <| ?_
     refine o_alloc zero_135 hS (fun b10 w' hS => ?_)
     refine o_storeAgg (news := [.string q4.Name, .int .i64 q4.Cell, .int .i64 q4.D, .int .i64 q4.En, .bool q4.Init]) agg_135 rfl rfl rfl (by simp [over_length]) hS (fun w' hS => ?_)
     refine x_done <| x_seq <| x_region <| p (yl_field0 fld_135_1 rfl) <|
      pa (at_load one_3 rfl (hS.cell rfl)) <| p (yl_lss rfl rfl) <| x_done <|
      x_cond_p (q4.Cell < 0) rfl (fun hc42 => ?_) (fun hc42 => ?_)
     ·replace hFL14 := it_t hc42 hFL14
      refine x_seq <| x_region <| p (yl_assign rfl) <| x_done <| ?_
      have e_ := Option.some.inj (show some _ = some _ from hFL14); subst e_
      have e_ := (show _ = oL14 from hLL14); subst e_
      have e_ := Option.some.inj (show some _ = some _ from hF); subst e_
      exact x_return ⟨_, ⟨_, _, rfl, rfl, rfl⟩, rfl, hS.drop.drop⟩
     ·replace hFL14 := it_f hc42 hFL14
      replace hFL14 := ar_s hFL14; obtain ⟨x43, hx43, hFL14⟩ := hFL14
      refine x_skip <| x_blk <| x_region <| p (yadd q0b rfl hx43) <|
       p (yl_move rfl) <| x_done <| ?_
      have e_ := Option.some.inj (show some _ = some _ from hFL14); subst e_
      exact x_inv ⟨kL14, Nat.lt_succ_self _, x43, hLL14, q0l, q0h, q0i, rfl, ((hS.drop.pull 1).pull 1)⟩
    ·replace hFL14 := it_f hc37 hFL14
     refine x_exitTo _ rfl <| ?_
     have e_ := Option.some.inj (show some _ = some _ from hFL14); subst e_
     exact x_inv ⟨hLL14, q0l, ((hS.pull 1).pull 1)⟩
   rintro E w ⟨rfl, q10, hS⟩
   replace hF := ar_s hF; obtain ⟨x50, hx50, hF⟩ := hF
   refine x_seq <| x_seq <| x_region <| p (yl_field0 fld_30_3 q10) <|
    pa (at_load one_28 rfl (hS.cell rfl)) <| p (yl_len_slice usl_28 rfl) <| p (yl_field0 fld_30_2 q10) <| pa (at_load one_27 rfl (hS.cell rfl)) <|
    p (yl_len_slice usl_27 rfl) <| p (yadd rfl rfl hx50) <| p (yl_gtr rfl rfl) <| x_done <|
    x_cond_p (300 < x50) rfl (fun hc51 => ?_) (fun hc51 => ?_)
   ·replace hF := it_t hc51 hF
    refine x_seq <| x_region <| p (yl_assign rfl) <| x_done <| ?_
    have e_ := Option.some.inj (show some _ = some _ from hF); subst e_
    exact x_return ⟨_, ⟨_, _, rfl, rfl, rfl⟩, rfl, hS.drop⟩
   ·replace hF := it_f hc51 hF
    refine x_skip <| x_seq <| x_region <| p (yl_assign rfl) <|
     x_done <| ?_
    have e_ := Option.some.inj (show some _ = some _ from hF); subst e_
    exact x_return ⟨_, ⟨_, _, rfl, rfl, rfl⟩, rfl, hS.drop⟩
attribute [irreducible] P_floor_CheckChip

def P_slices_Clone_api_Flop_api_Flop (s0 : List T_api_Flop) : Option (List T_api_Flop) :=
 lv (([] : List T_api_Flop) ++ s0) fun q2 =>
 ck (apOk 48 q2.length) <|
 some q2
set_option maxHeartbeats 4000000 in
set_option maxRecDepth 100000 in
theorem c_slices_Clone_api_Flop_api_Flop {w0 w : World} {l : List Assn} {ρ : Heap} {q6 : Option Addr} {q8 : Nat} {c_s0 : Nat} {s0 : List T_api_Flop} {r : List T_api_Flop} (hF : P_slices_Clone_api_Flop_api_Flop s0 = some r) (q7 : RdS R_api_Flop ρ q6 q8 c_s0 s0) (hS : St w0 w (ro ρ :: l)) :
  Calls Tryd.prog 107 #[.slice q6 q8 c_s0] w fun e w' => ∃ (q5 : Option Addr) (q2 : Nat) (c_y0_ret : Nat) (q3 : List Value), e = .returned (.slice q5 q2 c_y0_ret) ∧ RepL R_api_Flop ρ r q3 ∧ St w0 w' (vec 135 R_api_Flop.sz (.slice q5 q2 c_y0_ret) q2 q3 :: ro ρ :: l) := by
 have e_ := q7.n; subst e_
 refine enterC Tryd.func107 rfl 8 rfl (by simp) ?_
 refine x_seq <| x_region <| p (yl_assign rfl) <| x_done <|
  x_seq <| x_seq <| x_region <| p (yl_move rfl) <|
  p (yeq_nil usl_27 rfl rfl) <| x_done <|
  x_cond (t := Option.isNone q6) rfl (fun hc4 => ?_) (fun hc4 => ?_)
 ·have hx0 : s0 = [] := RdS.nil_of q7 hc4
  have hF : some ([] : List T_api_Flop) = some r := by rw [hx0] at hF; unfold P_slices_Clone_api_Flop_api_Flop at hF; simpa [lv, ck, apOk] using hF
  refine x_seq <| x_region <| p (yl_assign rfl) <| x_done <| ?_
  replace hS := St.vec_nil hS 135 R_api_Flop.sz
  have q4 : RepL R_api_Flop ρ [] [] := rfl
  have e_ := Option.some.inj (show some _ = some _ from hF); subst e_
  exact x_return ⟨_, ⟨_, _, rfl, rfl, rfl⟩, none, 0, 0, [], rfl, q4, ((hS.pull 1).pull 1)⟩
 ·skip
  refine x_skip <| x_seq <| x_region <| ?_
  refine o_buildSlice (vs := []) (cs := []) sl_27 zero_135 (parts_eq pt0) rfl (by intro v hv; cases hv) (by decide) rfl hS (fun b5 w' hS => ?_)
  refine p (yl_move rfl) <| ?_
  have q9 : RepL R_api_Flop ρ ([] : List T_api_Flop) [] := RepL.nil
  replace hS := St.vec_of (n := 0) (sz := R_api_Flop.sz) hS rfl (by decide)
  have q_ := src_f usl_27 (hS.pull 1) q7; obtain ⟨nw7, hnw7, src7⟩ := q_
  replace hF := lv_s hF; obtain ⟨q0c, q0a, hF⟩ := hF
  replace hF := ck_s hF; obtain ⟨q0b, hF⟩ := hF
  refine o_ap sl_27 zero_135 rfl (by decide) rfl rfl hS q9 src7 hnw7 q0a q0b (fun A7 c7 cs7 w' hr7 hS => ?_)
  refine p (yl_assign rfl) <| x_done <| ?_
  have e_ := Option.some.inj (show some _ = some _ from hF); subst e_
  exact x_return ⟨_, ⟨_, _, rfl, rfl, rfl⟩, A7, q0c.length, c7, cs7, rfl, hr7, ((hS.pull 1).pull 1)⟩
attribute [irreducible] P_slices_Clone_api_Flop_api_Flop

def P_slices_Clone_api_Gate_api_Gate (s0 : List T_api_Gate) : Option (List T_api_Gate) :=
 lv (([] : List T_api_Gate) ++ s0) fun q2 =>
 ck (apOk 40 q2.length) <|
 some q2
set_option maxHeartbeats 4000000 in
set_option maxRecDepth 100000 in
theorem c_slices_Clone_api_Gate_api_Gate {w0 w : World} {l : List Assn} {ρ : Heap} {q6 : Option Addr} {q8 : Nat} {c_s0 : Nat} {s0 : List T_api_Gate} {r : List T_api_Gate} (hF : P_slices_Clone_api_Gate_api_Gate s0 = some r) (q7 : RdS R_api_Gate ρ q6 q8 c_s0 s0) (hS : St w0 w (ro ρ :: l)) :
  Calls Tryd.prog 108 #[.slice q6 q8 c_s0] w fun e w' => ∃ (q5 : Option Addr) (q2 : Nat) (c_y0_ret : Nat) (q3 : List Value), e = .returned (.slice q5 q2 c_y0_ret) ∧ RepL R_api_Gate ρ r q3 ∧ St w0 w' (vec 38 R_api_Gate.sz (.slice q5 q2 c_y0_ret) q2 q3 :: ro ρ :: l) := by
 have e_ := q7.n; subst e_
 refine enterC Tryd.func108 rfl 8 rfl (by simp) ?_
 refine x_seq <| x_region <| p (yl_assign rfl) <| x_done <|
  x_seq <| x_seq <| x_region <| p (yl_move rfl) <|
  p (yeq_nil usl_28 rfl rfl) <| x_done <|
  x_cond (t := Option.isNone q6) rfl (fun hc4 => ?_) (fun hc4 => ?_)
 ·have hx0 : s0 = [] := RdS.nil_of q7 hc4
  have hF : some ([] : List T_api_Gate) = some r := by rw [hx0] at hF; unfold P_slices_Clone_api_Gate_api_Gate at hF; simpa [lv, ck, apOk] using hF
  refine x_seq <| x_region <| p (yl_assign rfl) <| x_done <| ?_
  replace hS := St.vec_nil hS 38 R_api_Gate.sz
  have q4 : RepL R_api_Gate ρ [] [] := rfl
  have e_ := Option.some.inj (show some _ = some _ from hF); subst e_
  exact x_return ⟨_, ⟨_, _, rfl, rfl, rfl⟩, none, 0, 0, [], rfl, q4, ((hS.pull 1).pull 1)⟩
 ·skip
  refine x_skip <| x_seq <| x_region <| ?_
  refine o_buildSlice (vs := []) (cs := []) sl_28 zero_38 (parts_eq pt0) rfl (by intro v hv; cases hv) (by decide) rfl hS (fun b5 w' hS => ?_)
  refine p (yl_move rfl) <| ?_
  have q9 : RepL R_api_Gate ρ ([] : List T_api_Gate) [] := RepL.nil
  replace hS := St.vec_of (n := 0) (sz := R_api_Gate.sz) hS rfl (by decide)
  have q_ := src_f usl_28 (hS.pull 1) q7; obtain ⟨nw7, hnw7, src7⟩ := q_
  replace hF := lv_s hF; obtain ⟨q0c, q0a, hF⟩ := hF
  replace hF := ck_s hF; obtain ⟨q0b, hF⟩ := hF
  refine o_ap sl_28 zero_38 rfl (by decide) rfl rfl hS q9 src7 hnw7 q0a q0b (fun A7 c7 cs7 w' hr7 hS => ?_)
  refine p (yl_assign rfl) <| x_done <| ?_
  have e_ := Option.some.inj (show some _ = some _ from hF); subst e_
  exact x_return ⟨_, ⟨_, _, rfl, rfl, rfl⟩, A7, q0c.length, c7, cs7, rfl, hr7, ((hS.pull 1).pull 1)⟩
attribute [irreducible] P_slices_Clone_api_Gate_api_Gate

def P_slices_Clone_int_int (s0 : List Int) : Option (List Int) :=
 lv (([] : List Int) ++ s0) fun q2 =>
 ck (apOk 8 q2.length) <|
 some q2
set_option maxHeartbeats 4000000 in
set_option maxRecDepth 100000 in
theorem c_slices_Clone_int_int {w0 w : World} {l : List Assn} {ρ : Heap} {q6 : Option Addr} {q8 : Nat} {c_s0 : Nat} {s0 : List Int} {r : List Int} (hF : P_slices_Clone_int_int s0 = some r) (q7 : RdS (RpI .i64) ρ q6 q8 c_s0 s0) (hS : St w0 w (ro ρ :: l)) :
  Calls Tryd.prog 109 #[.slice q6 q8 c_s0] w fun e w' => ∃ (q5 : Option Addr) (q2 : Nat) (c_y0_ret : Nat) (q3 : List Value), e = .returned (.slice q5 q2 c_y0_ret) ∧ RepL (RpI .i64) ρ r q3 ∧ St w0 w' (vec 3 (RpI .i64).sz (.slice q5 q2 c_y0_ret) q2 q3 :: ro ρ :: l) := by
 have e_ := q7.n; subst e_
 refine enterC Tryd.func109 rfl 8 rfl (by simp) ?_
 refine x_seq <| x_region <| p (yl_assign rfl) <| x_done <|
  x_seq <| x_seq <| x_region <| p (yl_move rfl) <|
  p (yeq_nil usl_22 rfl rfl) <| x_done <|
  x_cond (t := Option.isNone q6) rfl (fun hc4 => ?_) (fun hc4 => ?_)
 ·have hx0 : s0 = [] := RdS.nil_of q7 hc4
  have hF : some ([] : List Int) = some r := by rw [hx0] at hF; unfold P_slices_Clone_int_int at hF; simpa [lv, ck, apOk] using hF
  refine x_seq <| x_region <| p (yl_assign rfl) <| x_done <| ?_
  replace hS := St.vec_nil hS 3 (RpI .i64).sz
  have q4 : RepL (RpI .i64) ρ [] [] := rfl
  have e_ := Option.some.inj (show some _ = some _ from hF); subst e_
  exact x_return ⟨_, ⟨_, _, rfl, rfl, rfl⟩, none, 0, 0, [], rfl, q4, ((hS.pull 1).pull 1)⟩
 ·skip
  refine x_skip <| x_seq <| x_region <| ?_
  refine o_buildSlice (vs := []) (cs := []) sl_22 zero_3 (parts_eq pt0) rfl (by intro v hv; cases hv) (by decide) rfl hS (fun b5 w' hS => ?_)
  refine p (yl_move rfl) <| ?_
  have q9 : RepL (RpI .i64) ρ ([] : List Int) [] := RepL.nil
  replace hS := St.vec_of (n := 0) (sz := (RpI .i64).sz) hS rfl (by decide)
  have q_ := src_f usl_22 (hS.pull 1) q7; obtain ⟨nw7, hnw7, src7⟩ := q_
  replace hF := lv_s hF; obtain ⟨q0c, q0a, hF⟩ := hF
  replace hF := ck_s hF; obtain ⟨q0b, hF⟩ := hF
  refine o_ap sl_22 zero_3 rfl (by decide) rfl rfl hS q9 src7 hnw7 q0a q0b (fun A7 c7 cs7 w' hr7 hS => ?_)
  refine p (yl_assign rfl) <| x_done <| ?_
  have e_ := Option.some.inj (show some _ = some _ from hF); subst e_
  exact x_return ⟨_, ⟨_, _, rfl, rfl, rfl⟩, A7, q0c.length, c7, cs7, rfl, hr7, ((hS.pull 1).pull 1)⟩
attribute [irreducible] P_slices_Clone_int_int

def P_netlist_Copy_L3 (q4 : List T_api_Gate) : (Int × List T_api_Gate) → Option ((Int × List T_api_Gate) ⊕ List T_api_Gate) := fun (q3, q2) =>
 if q3 < (q4.length : Int) then
  ck (inb q3 q2.length) <|
  lv (gt q2 q3) fun q6 =>
  bd (P_slices_Clone_int_int q6.Ins) fun q7 =>
  ck (inb q3 q2.length) <|
  lv (stt q2 q3 { (gt q2 q3) with Ins := q7 }) fun q5 =>
  ar (q3 + 1) fun x39 =>
  some (Sum.inl (x39, q5))
 else
  some (Sum.inr q2)
def P_netlist_Copy (n0 : T_api_Netlist) : Option T_api_Netlist :=
 bd (P_slices_Clone_string_string n0.In) fun q5 =>
 bd (P_slices_Clone_string_string n0.Out) fun q6 =>
 bd (P_slices_Clone_api_Flop_api_Flop n0.Flops) fun q7 =>
 bd (P_slices_Clone_api_Gate_api_Gate n0.Gates) fun q3 =>
 bd (P_slices_Clone_int_int n0.Outs) fun q4 =>
 bd (
  lp (P_netlist_Copy_L3 q3) fuel (0, q3)) fun q2 =>
 some (T_api_Netlist.mk q5 q6 q7 q2 q4)
set_option maxHeartbeats 4000000 in
set_option maxRecDepth 100000 in
theorem c_netlist_Copy {w0 w : World} {l : List Assn} {ρ : Heap} {q0j : Option Addr} {q2q : Nat} {c_n0_0 : Nat} {q0k : Option Addr} {q2r : Nat} {c_n0_1 : Nat} {q0l : Option Addr} {q2s : Nat} {c_n0_2 : Nat} {q0m : Option Addr} {q2t : Nat} {c_n0_3 : Nat} {q0n : Option Addr} {q2u : Nat} {c_n0_4 : Nat} {n0 : T_api_Netlist} {r : T_api_Netlist} (hF : P_netlist_Copy n0 = some r) (q2v : RdS RpS ρ q0j q2q c_n0_0 n0.In) (q2w : RdS RpS ρ q0k q2r c_n0_1 n0.Out) (q2x : RdS R_api_Flop ρ q0l q2s c_n0_2 n0.Flops) (q2y : RdS R_api_Gate ρ q0m q2t c_n0_3 n0.Gates) (q2z : RdS (RpI .i64) ρ q0n q2u c_n0_4 n0.Outs) (hS : St w0 w (ro ρ :: l)) :
  Calls Tryd.prog 50 #[.agg #[.slice q0j q2q c_n0_0, .slice q0k q2r c_n0_1, .slice q0l q2s c_n0_2, .slice q0m q2t c_n0_3, .slice q0n q2u c_n0_4]] w fun e w' => ∃ (ρ' : Heap) (q1p : Option Addr) (q11 : Nat) (c_y0_ret_0 : Nat) (q1i : List Value) (q1q : Option Addr) (q12 : Nat) (c_y0_ret_1 : Nat) (q1j : List Value) (q1r : Option Addr) (q13 : Nat) (c_y0_ret_2 : Nat) (q1k : List Value) (q1s : Option Addr) (q14 : Nat) (c_y0_ret_3 : Nat) (q1l : List Value) (q1t : Option Addr) (q15 : Nat) (c_y0_ret_4 : Nat) (q1m : List Value), e = .returned (.agg #[.slice q1p q11 c_y0_ret_0, .slice q1q q12 c_y0_ret_1, .slice q1r q13 c_y0_ret_2, .slice q1s q14 c_y0_ret_3, .slice q1t q15 c_y0_ret_4]) ∧ Le ρ ρ' ∧ RepL RpS ρ' r.In q1i ∧ RepL RpS ρ' r.Out q1j ∧ RepL R_api_Flop ρ' r.Flops q1k ∧ RepL R_api_Gate ρ' r.Gates q1l ∧ RepL (RpI .i64) ρ' r.Outs q1m ∧ St w0 w' (vec 9 RpS.sz (.slice q1p q11 c_y0_ret_0) q11 q1i :: vec 9 RpS.sz (.slice q1q q12 c_y0_ret_1) q12 q1j :: vec 135 R_api_Flop.sz (.slice q1r q13 c_y0_ret_2) q13 q1k :: vec 38 R_api_Gate.sz (.slice q1s q14 c_y0_ret_3) q14 q1l :: vec 3 (RpI .i64).sz (.slice q1t q15 c_y0_ret_4) q15 q1m :: ro ρ' :: l) := by
 have e_ := q2v.n; subst e_
 have e_ := q2w.n; subst e_
 have e_ := q2x.n; subst e_
 have e_ := q2y.n; subst e_
 have e_ := q2z.n; subst e_
 refine enterC Tryd.func50 rfl 41 rfl (by simp) ?_
 refine x_seq <| x_region <| ?_
 refine o_box (cs := [.slice q0j n0.In.length c_n0_0, .slice q0k n0.Out.length c_n0_1, .slice q0l n0.Flops.length c_n0_2, .slice q0m n0.Gates.length c_n0_3, .slice q0n n0.Outs.length c_n0_4]) rfl rfl hS (fun b1 w' hS => ?_)
 refine o_alloc zero_30 hS (fun b2 w' hS => ?_)
 refine x_done <| x_seq <| ?_
 replace hF := bd_s hF; obtain ⟨q0d, q3k, hF⟩ := hF
 replace hF := bd_s hF; obtain ⟨q0e, q3l, hF⟩ := hF
 replace hF := bd_s hF; obtain ⟨q0f, q3m, hF⟩ := hF
 replace hF := bd_s hF; obtain ⟨q2, q3c, hF⟩ := hF
 replace hF := bd_s hF; obtain ⟨q0a, q3d, hF⟩ := hF
 refine x_par (w0 := w0) [⟨[], [], [5], [], [], []⟩, ⟨[0], [0], [6], [0], [], []⟩, ⟨[0, 1], [1], [7], [1], [], [2]⟩, ⟨[], [], [8], [], [], []⟩, ⟨[3], [3], [9], [0], [], []⟩, ⟨[0, 1, 2, 3, 4], [4], [10], [1], [], [3]⟩, ⟨[], [], [11], [], [], []⟩, ⟨[6], [6], [12], [0], [], []⟩, ⟨[0, 1, 2, 3, 4, 5, 6, 7], [7], [13], [1], [], [4]⟩, ⟨[], [], [14], [], [], []⟩, ⟨[9], [9], [15], [0], [], []⟩, ⟨[0, 1, 2, 3, 4, 5, 6, 7, 8, 9, 10], [10], [16], [1], [], [5]⟩, ⟨[], [], [17], [], [], []⟩, ⟨[12], [12], [18], [0], [], []⟩, ⟨[0, 1, 2, 3, 4, 5, 6, 7, 8, 9, 10, 11, 12, 13], [13], [19], [1], [], [6]⟩, ⟨[0, 1, 2, 3, 4, 5, 6, 7, 8, 9, 10, 11, 12, 13, 14], [2, 5, 8, 11, 14], [7, 10, 13, 16, 19, 20], [], [], []⟩, ⟨[], [], [3], [], [], [7]⟩, ⟨[0, 1, 2, 3, 4, 5, 6, 7, 8, 9, 10, 11, 12, 13, 14, 15, 16], [2, 5, 8, 11, 14, 15, 16], [], [], [7], [8]⟩] [⟨none, none, []⟩, ⟨none, none, []⟩, ⟨(some 2), none, [7]⟩, ⟨(some 5), none, [10]⟩, ⟨(some 8), none, [13]⟩, ⟨(some 11), none, [16]⟩, ⟨(some 14), none, [19]⟩, ⟨(some 16), (some 17), [3]⟩, ⟨(some 17), none, [3, 7, 10, 13, 16, 19]⟩] [3, 5, 6, 7, 8, 9, 10, 11, 12, 13, 14, 15, 16, 17, 18, 19, 20] [0, 1] [0, 1, 2, 3, 4, 5, 6, 8] [0, 1, 2, 3, 4, 5, 6, 7, 8, 9, 10, 11, 12, 13, 14, 15, 16] [fun Ep1 => Ep1 5 = .pointer (some ⟨b1, 0, none⟩), fun Ep1 => Ep1 6 = .slice q0j n0.In.length c_n0_0, fun Ep1 => Ep1 7 = .slice (adOf (Ep1 7)) q0d.length (capOf (Ep1 7)), fun Ep1 => Ep1 8 = .pointer (some ⟨b1, 1, none⟩), fun Ep1 => Ep1 9 = .slice q0k n0.Out.length c_n0_1, fun Ep1 => Ep1 10 = .slice (adOf (Ep1 10)) q0e.length (capOf (Ep1 10)), fun Ep1 => Ep1 11 = .pointer (some ⟨b1, 2, none⟩), fun Ep1 => Ep1 12 = .slice q0l n0.Flops.length c_n0_2, fun Ep1 => Ep1 13 = .slice (adOf (Ep1 13)) q0f.length (capOf (Ep1 13)), fun Ep1 => Ep1 14 = .pointer (some ⟨b1, 3, none⟩), fun Ep1 => Ep1 15 = .slice q0m n0.Gates.length c_n0_3, fun Ep1 => Ep1 16 = .slice (adOf (Ep1 16)) q2.length (capOf (Ep1 16)), fun Ep1 => Ep1 17 = .pointer (some ⟨b1, 4, none⟩), fun Ep1 => Ep1 18 = .slice q0n n0.Outs.length c_n0_4, fun Ep1 => Ep1 19 = .slice (adOf (Ep1 19)) q0a.length (capOf (Ep1 19)), fun Ep1 => Ep1 20 = .agg #[.slice (adOf (Ep1 7)) q0d.length (capOf (Ep1 7)), .slice (adOf (Ep1 10)) q0e.length (capOf (Ep1 10)), .slice (adOf (Ep1 13)) q0f.length (capOf (Ep1 13)), .slice (adOf (Ep1 16)) q2.length (capOf (Ep1 16)), .slice (adOf (Ep1 19)) q0a.length (capOf (Ep1 19))], fun Ep1 => Ep1 3 = .pointer (some ⟨(blkOf (Ep1 3)), 0, none⟩), fun Ep1 => True] [fun Ep1 => cells b1 30 [.slice q0j n0.In.length c_n0_0, .slice q0k n0.Out.length c_n0_1, .slice q0l n0.Flops.length c_n0_2, .slice q0m n0.Gates.length c_n0_3, .slice q0n n0.Outs.length c_n0_4], fun Ep1 => ro ρ, fun Ep1 => bunA (fun (q4 : List Value) => RepL RpS ρ q0d q4) (fun (q4 : List Value) => [vec 9 RpS.sz (.slice (adOf (Ep1 7)) q0d.length (capOf (Ep1 7))) q0d.length q4]), fun Ep1 => bunA (fun (q5 : List Value) => RepL RpS ρ q0e q5) (fun (q5 : List Value) => [vec 9 RpS.sz (.slice (adOf (Ep1 10)) q0e.length (capOf (Ep1 10))) q0e.length q5]), fun Ep1 => bunA (fun (q6 : List Value) => RepL R_api_Flop ρ q0f q6) (fun (q6 : List Value) => [vec 135 R_api_Flop.sz (.slice (adOf (Ep1 13)) q0f.length (capOf (Ep1 13))) q0f.length q6]), fun Ep1 => bunA (fun (q7 : List Value) => RepL R_api_Gate ρ q2 q7) (fun (q7 : List Value) => [vec 38 R_api_Gate.sz (.slice (adOf (Ep1 16)) q2.length (capOf (Ep1 16))) q2.length q7]), fun Ep1 => bunA (fun (q3 : List Value) => RepL (RpI .i64) ρ q0a q3) (fun (q3 : List Value) => [vec 3 (RpI .i64).sz (.slice (adOf (Ep1 19)) q0a.length (capOf (Ep1 19))) q0a.length q3]), fun Ep1 => cells (blkOf (Ep1 3)) 30 [.slice none 0 0, .slice none 0 0, .slice none 0 0, .slice none 0 0, .slice none 0 0], fun Ep1 => cells (blkOf (Ep1 3)) 30 [.slice (adOf (Ep1 7)) q0d.length (capOf (Ep1 7)), .slice (adOf (Ep1 10)) q0e.length (capOf (Ep1 10)), .slice (adOf (Ep1 13)) q0f.length (capOf (Ep1 13)), .slice (adOf (Ep1 16)) q2.length (capOf (Ep1 16)), .slice (adOf (Ep1 19)) q0a.length (capOf (Ep1 19))]] mixed (by kernel_rfl) ((hS.pull 2).pull 2) ?_ ?_
 ·refine ⟨?_, ?_, ?_, ?_, ?_, ?_, ?_, ?_, ?_, ?_, ?_, ?_, ?_, ?_, ?_, ?_, ?_, ?_, trivial⟩
  ·intro Ep1 w l' hE1 hO1 hF_ hS
   refine p (yl_field0 fld_30_0 (hE1 1 rfl)) <| x_done <| ?_
   refine x_fin ⟨⟨_, rfl⟩, rfl, ?_⟩
   exact Eq.mp (by kernel_rfl) hS
  ·intro Ep1 w l' hE1 hO1 hF_ hS
   obtain ⟨q1v, -⟩ := hF_
   replace q1v : Ep1 5 = .pointer (some ⟨b1, 0, none⟩) := Eq.mp (by kernel_rfl) q1v
   replace hS : St w0 w (cells b1 30 [.slice q0j n0.In.length c_n0_0, .slice q0k n0.Out.length c_n0_1, .slice q0l n0.Flops.length c_n0_2, .slice q0m n0.Gates.length c_n0_3, .slice q0n n0.Outs.length c_n0_4] :: l') := Eq.mp (by kernel_rfl) hS
   refine pa (at_load one_26 q1v (hS.cell rfl)) <| x_done <| ?_
   refine x_fin ⟨⟨_, rfl⟩, rfl, ?_⟩
   exact Eq.mp (by kernel_rfl) hS
  ·intro Ep1 w l' hE1 hO1 hF_ hS
   obtain ⟨q1w, -⟩ := hF_
   replace q1w : Ep1 6 = .slice q0j n0.In.length c_n0_0 := Eq.mp (by kernel_rfl) q1w
   replace hS : St w0 w (ro ρ :: l') := Eq.mp (by kernel_rfl) hS
   have hcall := c_slices_Clone_string_string q3k q2v hS
   refine o_cc call_106 (args1 q1w) hcall ?_
   rintro e w' ⟨q2f, q3e, c_y0_ret_1_2, q4, rfl, q0s, hS⟩
   refine ⟨_, rfl, ?_⟩
   have e_ := St.vec_n hS q0s; subst e_
   refine x_done <| ?_
   refine x_fin ⟨⟨_, rfl⟩, rfl, ?_⟩
   replace hS := St.bun (Φ := (fun (q4 : List Value) => RepL RpS ρ q0d q4)) (L := (fun (q4 : List Value) => [vec 9 RpS.sz (.slice q2f q0d.length c_y0_ret_1_2) q0d.length q4])) q4 q0s hS
   exact Eq.mp (by kernel_rfl) (hS.pull 1)
  ·intro Ep1 w l' hE1 hO1 hF_ hS
   refine p (yl_field0 fld_30_1 (hE1 1 rfl)) <| x_done <| ?_
   refine x_fin ⟨⟨_, rfl⟩, rfl, ?_⟩
   exact Eq.mp (by kernel_rfl) hS
  ·intro Ep1 w l' hE1 hO1 hF_ hS
   obtain ⟨q1x, -⟩ := hF_
   replace q1x : Ep1 8 = .pointer (some ⟨b1, 1, none⟩) := Eq.mp (by kernel_rfl) q1x
   replace hS : St w0 w (cells b1 30 [.slice q0j n0.In.length c_n0_0, .slice q0k n0.Out.length c_n0_1, .slice q0l n0.Flops.length c_n0_2, .slice q0m n0.Gates.length c_n0_3, .slice q0n n0.Outs.length c_n0_4] :: l') := Eq.mp (by kernel_rfl) hS
   refine pa (at_load one_26 q1x (hS.cell rfl)) <| x_done <| ?_
   refine x_fin ⟨⟨_, rfl⟩, rfl, ?_⟩
   exact Eq.mp (by kernel_rfl) hS
  ·intro Ep1 w l' hE1 hO1 hF_ hS
   obtain ⟨q1y, -⟩ := hF_
   replace q1y : Ep1 9 = .slice q0k n0.Out.length c_n0_1 := Eq.mp (by kernel_rfl) q1y
   replace hS : St w0 w (ro ρ :: l') := Eq.mp (by kernel_rfl) hS
   have hcall := c_slices_Clone_string_string q3l q2w hS
   refine o_cc call_106 (args1 q1y) hcall ?_
   rintro e w' ⟨q2g, q3f, c_y0_ret_1_5, q5, rfl, q0t, hS⟩
   refine ⟨_, rfl, ?_⟩
   have e_ := St.vec_n hS q0t; subst e_
   refine x_done <| ?_
   refine x_fin ⟨⟨_, rfl⟩, rfl, ?_⟩
   replace hS := St.bun (Φ := (fun (q5 : List Value) => RepL RpS ρ q0e q5)) (L := (fun (q5 : List Value) => [vec 9 RpS.sz (.slice q2g q0e.length c_y0_ret_1_5) q0e.length q5])) q5 q0t hS
   exact Eq.mp (by kernel_rfl) (hS.pull 1)
  ·intro Ep1 w l' hE1 hO1 hF_ hS
   refine p (yl_field0 fld_30_2 (hE1 1 rfl)) <| x_done <| ?_
   refine x_fin ⟨⟨_, rfl⟩, rfl, ?_⟩
   exact Eq.mp (by kernel_rfl) hS
  ·intro Ep1 w l' hE1 hO1 hF_ hS
   obtain ⟨q1z, -⟩ := hF_
   replace q1z : Ep1 11 = .pointer (some ⟨b1, 2, none⟩) := Eq.mp (by kernel_rfl) q1z
   replace hS : St w0 w (cells b1 30 [.slice q0j n0.In.length c_n0_0, .slice q0k n0.Out.length c_n0_1, .slice q0l n0.Flops.length c_n0_2, .slice q0m n0.Gates.length c_n0_3, .slice q0n n0.Outs.length c_n0_4] :: l') := Eq.mp (by kernel_rfl) hS
   refine pa (at_load one_27 q1z (hS.cell rfl)) <| x_done <| ?_
   refine x_fin ⟨⟨_, rfl⟩, rfl, ?_⟩
   exact Eq.mp (by kernel_rfl) hS
  ·intro Ep1 w l' hE1 hO1 hF_ hS
   obtain ⟨q20, -⟩ := hF_
   replace q20 : Ep1 12 = .slice q0l n0.Flops.length c_n0_2 := Eq.mp (by kernel_rfl) q20
   replace hS : St w0 w (ro ρ :: l') := Eq.mp (by kernel_rfl) hS
   have hcall := c_slices_Clone_api_Flop_api_Flop q3m q2x hS
   refine o_cc call_107 (args1 q20) hcall ?_
   rintro e w' ⟨q2h, q3g, c_y0_ret_1_8, q6, rfl, q0u, hS⟩
   refine ⟨_, rfl, ?_⟩
   have e_ := St.vec_n hS q0u; subst e_
   refine x_done <| ?_
   refine x_fin ⟨⟨_, rfl⟩, rfl, ?_⟩
   replace hS := St.bun (Φ := (fun (q6 : List Value) => RepL R_api_Flop ρ q0f q6)) (L := (fun (q6 : List Value) => [vec 135 R_api_Flop.sz (.slice q2h q0f.length c_y0_ret_1_8) q0f.length q6])) q6 q0u hS
   exact Eq.mp (by kernel_rfl) (hS.pull 1)
  ·intro Ep1 w l' hE1 hO1 hF_ hS
   refine p (yl_field0 fld_30_3 (hE1 1 rfl)) <| x_done <| ?_
   refine x_fin ⟨⟨_, rfl⟩, rfl, ?_⟩
   exact Eq.mp (by kernel_rfl) hS
  ·intro Ep1 w l' hE1 hO1 hF_ hS
   obtain ⟨q21, -⟩ := hF_
   replace q21 : Ep1 14 = .pointer (some ⟨b1, 3, none⟩) := Eq.mp (by kernel_rfl) q21
   replace hS : St w0 w (cells b1 30 [.slice q0j n0.In.length c_n0_0, .slice q0k n0.Out.length c_n0_1, .slice q0l n0.Flops.length c_n0_2, .slice q0m n0.Gates.length c_n0_3, .slice q0n n0.Outs.length c_n0_4] :: l') := Eq.mp (by kernel_rfl) hS
   refine pa (at_load one_28 q21 (hS.cell rfl)) <| x_done <| ?_
   refine x_fin ⟨⟨_, rfl⟩, rfl, ?_⟩
   exact Eq.mp (by kernel_rfl) hS
  ·intro Ep1 w l' hE1 hO1 hF_ hS
   obtain ⟨q1c, -⟩ := hF_
   replace q1c : Ep1 15 = .slice q0m n0.Gates.length c_n0_3 := Eq.mp (by kernel_rfl) q1c
   replace hS : St w0 w (ro ρ :: l') := Eq.mp (by kernel_rfl) hS
   have hcall := c_slices_Clone_api_Gate_api_Gate q3c q2y hS
   refine o_cc call_108 (args1 q1c) hcall ?_
   rintro e w' ⟨q2c, q3a, c_y0_ret_1_11, q7, rfl, q0q, hS⟩
   refine ⟨_, rfl, ?_⟩
   have e_ := St.vec_n hS q0q; subst e_
   refine x_done <| ?_
   refine x_fin ⟨⟨_, rfl⟩, rfl, ?_⟩
   replace hS := St.bun (Φ := (fun (q7 : List Value) => RepL R_api_Gate ρ q2 q7)) (L := (fun (q7 : List Value) => [vec 38 R_api_Gate.sz (.slice q2c q2.length c_y0_ret_1_11) q2.length q7])) q7 q0q hS
   exact Eq.mp (by kernel_rfl) (hS.pull 1)
  ·intro Ep1 w l' hE1 hO1 hF_ hS
   refine p (yl_field0 fld_30_4 (hE1 1 rfl)) <| x_done <| ?_
   refine x_fin ⟨⟨_, rfl⟩, rfl, ?_⟩
   exact Eq.mp (by kernel_rfl) hS
  ·intro Ep1 w l' hE1 hO1 hF_ hS
   obtain ⟨q1d, -⟩ := hF_
   replace q1d : Ep1 17 = .pointer (some ⟨b1, 4, none⟩) := Eq.mp (by kernel_rfl) q1d
   replace hS : St w0 w (cells b1 30 [.slice q0j n0.In.length c_n0_0, .slice q0k n0.Out.length c_n0_1, .slice q0l n0.Flops.length c_n0_2, .slice q0m n0.Gates.length c_n0_3, .slice q0n n0.Outs.length c_n0_4] :: l') := Eq.mp (by kernel_rfl) hS
   refine pa (at_load one_22 q1d (hS.cell rfl)) <| x_done <| ?_
   refine x_fin ⟨⟨_, rfl⟩, rfl, ?_⟩
   exact Eq.mp (by kernel_rfl) hS
  ·intro Ep1 w l' hE1 hO1 hF_ hS
   obtain ⟨q1e, -⟩ := hF_
   replace q1e : Ep1 18 = .slice q0n n0.Outs.length c_n0_4 := Eq.mp (by kernel_rfl) q1e
   replace hS : St w0 w (ro ρ :: l') := Eq.mp (by kernel_rfl) hS
   have hcall := c_slices_Clone_int_int q3d q2z hS
   refine o_cc call_109 (args1 q1e) hcall ?_
   rintro e w' ⟨q2d, q3b, c_y0_ret_1_14, q3, rfl, q0r, hS⟩
   refine ⟨_, rfl, ?_⟩
   have e_ := St.vec_n hS q0r; subst e_
   refine x_done <| ?_
   refine x_fin ⟨⟨_, rfl⟩, rfl, ?_⟩
   replace hS := St.bun (Φ := (fun (q3 : List Value) => RepL (RpI .i64) ρ q0a q3)) (L := (fun (q3 : List Value) => [vec 3 (RpI .i64).sz (.slice q2d q0a.length c_y0_ret_1_14) q0a.length q3])) q3 q0r hS
   exact Eq.mp (by kernel_rfl) (hS.pull 1)
  ·intro Ep1 w l' hE1 hO1 hF_ hS
   obtain ⟨q16, q17, q18, q0x, q0y, -⟩ := hF_
   replace q16 : Ep1 7 = .slice (adOf (Ep1 7)) q0d.length (capOf (Ep1 7)) := Eq.mp (by kernel_rfl) q16
   replace q17 : Ep1 10 = .slice (adOf (Ep1 10)) q0e.length (capOf (Ep1 10)) := Eq.mp (by kernel_rfl) q17
   replace q18 : Ep1 13 = .slice (adOf (Ep1 13)) q0f.length (capOf (Ep1 13)) := Eq.mp (by kernel_rfl) q18
   replace q0x : Ep1 16 = .slice (adOf (Ep1 16)) q2.length (capOf (Ep1 16)) := Eq.mp (by kernel_rfl) q0x
   replace q0y : Ep1 19 = .slice (adOf (Ep1 19)) q0a.length (capOf (Ep1 19)) := Eq.mp (by kernel_rfl) q0y
   refine p (v := .agg #[.slice (adOf (Ep1 7)) q0d.length (capOf (Ep1 7)), .slice (adOf (Ep1 10)) q0e.length (capOf (Ep1 10)), .slice (adOf (Ep1 13)) q0f.length (capOf (Ep1 13)), .slice (adOf (Ep1 16)) q2.length (capOf (Ep1 16)), .slice (adOf (Ep1 19)) q0a.length (capOf (Ep1 19))]) (yl_build bld_30 bldf_30 (parts_eq (pt (va := .slice (adOf (Ep1 7)) q0d.length (capOf (Ep1 7))) q16 (pt (va := .slice (adOf (Ep1 10)) q0e.length (capOf (Ep1 10))) q17 (pt (va := .slice (adOf (Ep1 13)) q0f.length (capOf (Ep1 13))) q18 (pt (va := .slice (adOf (Ep1 16)) q2.length (capOf (Ep1 16))) q0x (pt (va := .slice (adOf (Ep1 19)) q0a.length (capOf (Ep1 19))) q0y pt0)))))) (by kernel_rfl)) <| x_done <| ?_
   refine x_fin ⟨⟨_, rfl⟩, rfl, ?_⟩
   exact Eq.mp (by kernel_rfl) hS
  ·intro Ep1 w l' hE1 hO1 hF_ hS
   refine o_alloc zero_30 hS (fun b3 w' hS => ?_)
   refine x_done <| ?_
   refine x_fin ⟨⟨_, rfl⟩, rfl, ?_⟩
   exact Eq.mp (by kernel_rfl) hS
  ·intro Ep1 w l' hE1 hO1 hF_ hS
   obtain ⟨q16, q17, q18, q0x, q0y, q1f, q0z, -⟩ := hF_
   replace q16 : Ep1 7 = .slice (adOf (Ep1 7)) q0d.length (capOf (Ep1 7)) := Eq.mp (by kernel_rfl) q16
   replace q17 : Ep1 10 = .slice (adOf (Ep1 10)) q0e.length (capOf (Ep1 10)) := Eq.mp (by kernel_rfl) q17
   replace q18 : Ep1 13 = .slice (adOf (Ep1 13)) q0f.length (capOf (Ep1 13)) := Eq.mp (by kernel_rfl) q18
   replace q0x : Ep1 16 = .slice (adOf (Ep1 16)) q2.length (capOf (Ep1 16)) := Eq.mp (by kernel_rfl) q0x
   replace q0y : Ep1 19 = .slice (adOf (Ep1 19)) q0a.length (capOf (Ep1 19)) := Eq.mp (by kernel_rfl) q0y
   replace q1f : Ep1 20 = .agg #[.slice (adOf (Ep1 7)) q0d.length (capOf (Ep1 7)), .slice (adOf (Ep1 10)) q0e.length (capOf (Ep1 10)), .slice (adOf (Ep1 13)) q0f.length (capOf (Ep1 13)), .slice (adOf (Ep1 16)) q2.length (capOf (Ep1 16)), .slice (adOf (Ep1 19)) q0a.length (capOf (Ep1 19))] := Eq.mp (by kernel_rfl) q1f
   replace q0z : Ep1 3 = .pointer (some ⟨(blkOf (Ep1 3)), 0, none⟩) := Eq.mp (by kernel_rfl) q0z
   replace hS : St w0 w (cells (blkOf (Ep1 3)) 30 [.slice none 0 0, .slice none 0 0, .slice none 0 0, .slice none 0 0, .slice none 0 0] :: l') := Eq.mp (by kernel_rfl) hS
   refine o_storeAgg (news := [.slice (adOf (Ep1 7)) q0d.length (capOf (Ep1 7)), .slice (adOf (Ep1 10)) q0e.length (capOf (Ep1 10)), .slice (adOf (Ep1 13)) q0f.length (capOf (Ep1 13)), .slice (adOf (Ep1 16)) q2.length (capOf (Ep1 16)), .slice (adOf (Ep1 19)) q0a.length (capOf (Ep1 19))]) agg_30 q0z q1f rfl (by simp [over_length]) hS (fun w' hS => ?_)
   refine x_done <| ?_
   refine x_fin ⟨⟨undef, rfl⟩, trivial, ?_⟩
   exact Eq.mp (by kernel_rfl) hS
 intro Ep1 w' hE1 hF_ hS
 obtain ⟨q1v, q1w, q16, q1x, q1y, q17, q1z, q20, q18, q21, q1c, q0x, q1d, q1e, q0y, q1f, q0z, -⟩ := hF_
 replace q1v : Ep1 5 = .pointer (some ⟨b1, 0, none⟩) := Eq.mp (by kernel_rfl) q1v
 replace q1w : Ep1 6 = .slice q0j n0.In.length c_n0_0 := Eq.mp (by kernel_rfl) q1w
 replace q16 : Ep1 7 = .slice (adOf (Ep1 7)) q0d.length (capOf (Ep1 7)) := Eq.mp (by kernel_rfl) q16
 replace q1x : Ep1 8 = .pointer (some ⟨b1, 1, none⟩) := Eq.mp (by kernel_rfl) q1x
 replace q1y : Ep1 9 = .slice q0k n0.Out.length c_n0_1 := Eq.mp (by kernel_rfl) q1y
 replace q17 : Ep1 10 = .slice (adOf (Ep1 10)) q0e.length (capOf (Ep1 10)) := Eq.mp (by kernel_rfl) q17
 replace q1z : Ep1 11 = .pointer (some ⟨b1, 2, none⟩) := Eq.mp (by kernel_rfl) q1z
 replace q20 : Ep1 12 = .slice q0l n0.Flops.length c_n0_2 := Eq.mp (by kernel_rfl) q20
 replace q18 : Ep1 13 = .slice (adOf (Ep1 13)) q0f.length (capOf (Ep1 13)) := Eq.mp (by kernel_rfl) q18
 replace q21 : Ep1 14 = .pointer (some ⟨b1, 3, none⟩) := Eq.mp (by kernel_rfl) q21
 replace q1c : Ep1 15 = .slice q0m n0.Gates.length c_n0_3 := Eq.mp (by kernel_rfl) q1c
 replace q0x : Ep1 16 = .slice (adOf (Ep1 16)) q2.length (capOf (Ep1 16)) := Eq.mp (by kernel_rfl) q0x
 replace q1d : Ep1 17 = .pointer (some ⟨b1, 4, none⟩) := Eq.mp (by kernel_rfl) q1d
 replace q1e : Ep1 18 = .slice q0n n0.Outs.length c_n0_4 := Eq.mp (by kernel_rfl) q1e
 replace q0y : Ep1 19 = .slice (adOf (Ep1 19)) q0a.length (capOf (Ep1 19)) := Eq.mp (by kernel_rfl) q0y
 replace q1f : Ep1 20 = .agg #[.slice (adOf (Ep1 7)) q0d.length (capOf (Ep1 7)), .slice (adOf (Ep1 10)) q0e.length (capOf (Ep1 10)), .slice (adOf (Ep1 13)) q0f.length (capOf (Ep1 13)), .slice (adOf (Ep1 16)) q2.length (capOf (Ep1 16)), .slice (adOf (Ep1 19)) q0a.length (capOf (Ep1 19))] := Eq.mp (by kernel_rfl) q1f
 replace q0z : Ep1 3 = .pointer (some ⟨(blkOf (Ep1 3)), 0, none⟩) := Eq.mp (by kernel_rfl) q0z
 replace hS : St w0 w' (cells b1 30 [.slice q0j n0.In.length c_n0_0, .slice q0k n0.Out.length c_n0_1, .slice q0l n0.Flops.length c_n0_2, .slice q0m n0.Gates.length c_n0_3, .slice q0n n0.Outs.length c_n0_4] :: ro ρ :: bunA (fun (q4 : List Value) => RepL RpS ρ q0d q4) (fun (q4 : List Value) => [vec 9 RpS.sz (.slice (adOf (Ep1 7)) q0d.length (capOf (Ep1 7))) q0d.length q4]) :: bunA (fun (q5 : List Value) => RepL RpS ρ q0e q5) (fun (q5 : List Value) => [vec 9 RpS.sz (.slice (adOf (Ep1 10)) q0e.length (capOf (Ep1 10))) q0e.length q5]) :: bunA (fun (q6 : List Value) => RepL R_api_Flop ρ q0f q6) (fun (q6 : List Value) => [vec 135 R_api_Flop.sz (.slice (adOf (Ep1 13)) q0f.length (capOf (Ep1 13))) q0f.length q6]) :: bunA (fun (q7 : List Value) => RepL R_api_Gate ρ q2 q7) (fun (q7 : List Value) => [vec 38 R_api_Gate.sz (.slice (adOf (Ep1 16)) q2.length (capOf (Ep1 16))) q2.length q7]) :: bunA (fun (q3 : List Value) => RepL (RpI .i64) ρ q0a q3) (fun (q3 : List Value) => [vec 3 (RpI .i64).sz (.slice (adOf (Ep1 19)) q0a.length (capOf (Ep1 19))) q0a.length q3]) :: cells (blkOf (Ep1 3)) 30 [.slice (adOf (Ep1 7)) q0d.length (capOf (Ep1 7)), .slice (adOf (Ep1 10)) q0e.length (capOf (Ep1 10)), .slice (adOf (Ep1 13)) q0f.length (capOf (Ep1 13)), .slice (adOf (Ep1 16)) q2.length (capOf (Ep1 16)), .slice (adOf (Ep1 19)) q0a.length (capOf (Ep1 19))] :: (cells b2 30 [.slice none 0 0, .slice none 0 0, .slice none 0 0, .slice none 0 0, .slice none 0 0] :: l)) := Eq.mp (by kernel_rfl) hS
 have q_ := St.unbun (hS.pull 2); obtain ⟨q4, q0s, hS⟩ := q_
 have q_ := St.unbun (hS.pull 3); obtain ⟨q5, q0t, hS⟩ := q_
 have q_ := St.unbun (hS.pull 4); obtain ⟨q6, q0u, hS⟩ := q_
 have q_ := St.unbun (hS.pull 5); obtain ⟨q7, q0q, hS⟩ := q_
 have q_ := St.unbun (hS.pull 6); obtain ⟨q3, q0r, hS⟩ := q_
 refine x_seq <| x_seq <| x_region <| p (yl_field0 fld_30_3 q0z) <|
  pa (at_load one_28 rfl ((hS.pull 7).cell rfl)) <| p (yl_len_slice usl_28 rfl) <| p (yl_move rfl) <| x_done <| ?_
 replace hF := bd_s hF; obtain ⟨oL3, hLL3, hF⟩ := hF
 refine x_join (fun E w => ∃ (q2i : Heap) (q1a : Nat) (q0i : List Value) (q0w : List T_api_Gate), q0w = oL3 ∧ Le ρ q2i ∧ E 2 = .pointer (some ⟨b2, 0, none⟩) ∧ E 3 = .pointer (some ⟨q1a, 0, none⟩) ∧ RepL R_api_Gate q2i q0w q0i ∧ St w0 w (cells b2 30 [.slice none 0 0, .slice none 0 0, .slice none 0 0, .slice none 0 0, .slice none 0 0] :: cells q1a 30 [.slice (adOf (Ep1 7)) q0d.length (capOf (Ep1 7)), .slice (adOf (Ep1 10)) q0e.length (capOf (Ep1 10)), .slice (adOf (Ep1 13)) q0f.length (capOf (Ep1 13)), .slice (adOf (Ep1 16)) q2.length (capOf (Ep1 16)), .slice (adOf (Ep1 19)) q0a.length (capOf (Ep1 19))] :: vec 9 RpS.sz (.slice (adOf (Ep1 7)) q0d.length (capOf (Ep1 7))) q0d.length q4 :: vec 9 RpS.sz (.slice (adOf (Ep1 10)) q0e.length (capOf (Ep1 10))) q0e.length q5 :: vec 135 R_api_Flop.sz (.slice (adOf (Ep1 13)) q0f.length (capOf (Ep1 13))) q0f.length q6 :: vec 38 R_api_Gate.sz (.slice (adOf (Ep1 16)) q2.length (capOf (Ep1 16))) q2.length q0i :: vec 3 (RpI .i64).sz (.slice (adOf (Ep1 19)) q0a.length (capOf (Ep1 19))) q0a.length q3 :: ro q2i :: l)) ?_ ?_
 ·refine x_block ?_
  refine x_loop (fun k_ E w => ∃ (q0g : Heap) (q0c : Nat) (q9 : List Value) (q0b : Int) (q0o : List T_api_Gate), lp (P_netlist_Copy_L3 q2) k_ (q0b, q0o) = some oL3 ∧ Le ρ q0g ∧ E 2 = .pointer (some ⟨b2, 0, none⟩) ∧ E 3 = .pointer (some ⟨q0c, 0, none⟩) ∧ E 23 = .int .i64 (q2.length : Int) ∧ E 24 = .int .i64 q0b ∧ RepL R_api_Gate q0g q0o q9 ∧ St w0 w (cells b2 30 [.slice none 0 0, .slice none 0 0, .slice none 0 0, .slice none 0 0, .slice none 0 0] :: cells q0c 30 [.slice (adOf (Ep1 7)) q0d.length (capOf (Ep1 7)), .slice (adOf (Ep1 10)) q0e.length (capOf (Ep1 10)), .slice (adOf (Ep1 13)) q0f.length (capOf (Ep1 13)), .slice (adOf (Ep1 16)) q2.length (capOf (Ep1 16)), .slice (adOf (Ep1 19)) q0a.length (capOf (Ep1 19))] :: vec 9 RpS.sz (.slice (adOf (Ep1 7)) q0d.length (capOf (Ep1 7))) q0d.length q4 :: vec 9 RpS.sz (.slice (adOf (Ep1 10)) q0e.length (capOf (Ep1 10))) q0e.length q5 :: vec 135 R_api_Flop.sz (.slice (adOf (Ep1 13)) q0f.length (capOf (Ep1 13))) q0f.length q6 :: vec 38 R_api_Gate.sz (.slice (adOf (Ep1 16)) q2.length (capOf (Ep1 16))) q2.length q9 :: vec 3 (RpI .i64).sz (.slice (adOf (Ep1 19)) q0a.length (capOf (Ep1 19))) q0a.length q3 :: ro q0g :: l)) fuel ⟨ρ, (blkOf (Ep1 3)), q7, 0, q2, hLL3, (Le.refl _), (hE1 2 rfl), q0z, rfl, rfl, q0q, (((((((((hS.pull 5).drop.pull 5).pull 1).pull 2).pull 3).pull 4).pull 5).pull 6).pull 7)⟩ ?_
  rintro kL3 E w ⟨q0g, q0c, q9, q0b, q0o, hLL3, q2j, q30, q1u, q2o, q22, q0h, hS⟩
  replace hLL3 := lp_s hLL3; obtain ⟨kL3, obL3, rfl, hFL3, hLL3⟩ := hLL3
  refine x_seq <| x_region <| p (yl_lss q22 q2o) <| x_done <|
   x_seq <|
   x_cond_p (q0b < (q2.length : Int)) rfl (fun hc25 => ?_) (fun hc25 => ?_)
  ·replace hFL3 := it_t hc25 hFL3
   refine x_skip <| x_seq <| x_block <| x_seq <|
    x_region <| p (yl_move q22) <| p (yl_assign rfl) <| x_done <| ?_
   replace hFL3 := ck_s hFL3; obtain ⟨q34, hFL3⟩ := hFL3
   replace hFL3 := lv_s hFL3; obtain ⟨q19, q3n, hFL3⟩ := hFL3
   replace hFL3 := bd_s hFL3; obtain ⟨q0p, q3o, hFL3⟩ := hFL3
   replace hFL3 := ck_s hFL3; obtain ⟨q31, hFL3⟩ := hFL3
   replace hFL3 := lv_s hFL3; obtain ⟨q2e, q3h, hFL3⟩ := hFL3
   refine x_par (w0 := w0) [⟨[], [], [27], [], [], []⟩, ⟨[0], [0], [28], [0], [], []⟩, ⟨[], [], [29], [], [], []⟩, ⟨[], [], [30], [], [], []⟩, ⟨[3], [3], [31], [0], [], []⟩, ⟨[], [], [32], [], [], []⟩, ⟨[3, 4, 5], [4, 5], [33], [1], [], []⟩, ⟨[3, 4, 5, 6], [6], [34], [], [], []⟩, ⟨[3, 4, 5, 6, 7], [7], [35], [1], [], []⟩, ⟨[3, 4, 5, 6, 7, 8], [8], [36], [2], [], [3]⟩, ⟨[0, 1, 2, 3, 4, 5, 6, 7, 8, 9], [1, 2], [37], [1], [], []⟩, ⟨[0, 1, 2, 3, 4, 5, 6, 7, 8, 9, 10], [10], [38], [], [], []⟩, ⟨[0, 1, 2, 3, 4, 5, 6, 7, 8, 9, 10, 11], [9, 11], [], [2], [1, 3], [4]⟩] [⟨none, none, []⟩, ⟨none, (some 12), []⟩, ⟨none, none, []⟩, ⟨(some 9), (some 12), [36]⟩, ⟨(some 12), none, [36]⟩] [27, 28, 29, 30, 31, 32, 33, 34, 35, 36, 37, 38] [0, 1, 2] [0, 2, 4] [0, 1, 2, 3, 4, 5, 6, 7, 8, 9, 10, 11] [fun Ep5 => Ep5 27 = .pointer (some ⟨q0c, 3, none⟩), fun Ep5 => Ep5 28 = .slice (adOf (Ep1 16)) q2.length (capOf (Ep1 16)), fun Ep5 => Ep5 29 = .int .i64 q0b, fun Ep5 => Ep5 30 = .pointer (some ⟨q0c, 3, none⟩), fun Ep5 => Ep5 31 = .slice (adOf (Ep1 16)) q2.length (capOf (Ep1 16)), fun Ep5 => Ep5 32 = .int .i64 q0b, fun Ep5 => Ep5 33 = .pointer (some ((adr (adOf (Ep1 16))).add (q0b.toNat * R_api_Gate.sz))), fun Ep5 => Ep5 34 = .pointer (some (((adr (adOf (Ep1 16))).add (q0b.toNat * R_api_Gate.sz)).add 2)), fun Ep5 => Ep5 35 = .slice (adOf (Ep5 35)) q19.Ins.length (capOf (Ep5 35)) ∧ RdS (RpI .i64) q0g (adOf (Ep5 35)) q19.Ins.length (capOf (Ep5 35)) q19.Ins, fun Ep5 => Ep5 36 = .slice (adOf (Ep5 36)) q0p.length (capOf (Ep5 36)), fun Ep5 => Ep5 37 = .pointer (some ((adr (adOf (Ep1 16))).add (q0b.toNat * R_api_Gate.sz))), fun Ep5 => Ep5 38 = .pointer (some (((adr (adOf (Ep1 16))).add (q0b.toNat * R_api_Gate.sz)).add 2)), fun Ep5 => True] [fun Ep5 => cells q0c 30 [.slice (adOf (Ep1 7)) q0d.length (capOf (Ep1 7)), .slice (adOf (Ep1 10)) q0e.length (capOf (Ep1 10)), .slice (adOf (Ep1 13)) q0f.length (capOf (Ep1 13)), .slice (adOf (Ep1 16)) q2.length (capOf (Ep1 16)), .slice (adOf (Ep1 19)) q0a.length (capOf (Ep1 19))], fun Ep5 => vec 38 R_api_Gate.sz (.slice (adOf (Ep1 16)) q2.length (capOf (Ep1 16))) q2.length q9, fun Ep5 => ro q0g, fun Ep5 => bunA (fun (q8 : List Value) => RepL (RpI .i64) q0g q0p q8) (fun (q8 : List Value) => [vec 3 (RpI .i64).sz (.slice (adOf (Ep5 36)) q0p.length (capOf (Ep5 36))) q0p.length q8]), fun Ep5 => bunA (fun (x : (Heap × List Value)) => Le q0g x.1 ∧ RdS (RpI .i64) x.1 (adOf (Ep5 36)) q0p.length (capOf (Ep5 36)) q0p ∧ RepL R_api_Gate x.1 q2e x.2) (fun (x : (Heap × List Value)) => [vec 38 R_api_Gate.sz (.slice (adOf (Ep1 16)) q2.length (capOf (Ep1 16))) q2.length x.2, roD q0g x.1])] mixed (by kernel_rfl) (((hS.pull 7).pull 6).pull 3) ?_ ?_
   ·refine ⟨?_, ?_, ?_, ?_, ?_, ?_, ?_, ?_, ?_, ?_, ?_, ?_, ?_, trivial⟩
    ·intro Ep5 w l' hE5 hO5 hF_ hS
     refine p (yl_field0 fld_30_3 ((hE5 3 rfl).trans q1u)) <| x_done <| ?_
     refine x_fin ⟨⟨_, rfl⟩, rfl, ?_⟩
     exact Eq.mp (by kernel_rfl) hS
    ·intro Ep5 w l' hE5 hO5 hF_ hS
     obtain ⟨q23, -⟩ := hF_
     replace q23 : Ep5 27 = .pointer (some ⟨q0c, 3, none⟩) := Eq.mp (by kernel_rfl) q23
     replace hS : St w0 w (cells q0c 30 [.slice (adOf (Ep1 7)) q0d.length (capOf (Ep1 7)), .slice (adOf (Ep1 10)) q0e.length (capOf (Ep1 10)), .slice (adOf (Ep1 13)) q0f.length (capOf (Ep1 13)), .slice (adOf (Ep1 16)) q2.length (capOf (Ep1 16)), .slice (adOf (Ep1 19)) q0a.length (capOf (Ep1 19))] :: l') := Eq.mp (by kernel_rfl) hS
     refine pa (at_load one_28 q23 (hS.cell rfl)) <| x_done <| ?_
     refine x_fin ⟨⟨_, rfl⟩, rfl, ?_⟩
     exact Eq.mp (by kernel_rfl) hS
    ·intro Ep5 w l' hE5 hO5 hF_ hS
     refine p (yl_move (hE5 4 rfl)) <| x_done <| ?_
     refine x_fin ⟨⟨_, rfl⟩, rfl, ?_⟩
     exact Eq.mp (by kernel_rfl) hS
    ·intro Ep5 w l' hE5 hO5 hF_ hS
     refine p (yl_field0 fld_30_3 ((hE5 3 rfl).trans q1u)) <| x_done <| ?_
     refine x_fin ⟨⟨_, rfl⟩, rfl, ?_⟩
     exact Eq.mp (by kernel_rfl) hS
    ·intro Ep5 w l' hE5 hO5 hF_ hS
     obtain ⟨q24, -⟩ := hF_
     replace q24 : Ep5 30 = .pointer (some ⟨q0c, 3, none⟩) := Eq.mp (by kernel_rfl) q24
     replace hS : St w0 w (cells q0c 30 [.slice (adOf (Ep1 7)) q0d.length (capOf (Ep1 7)), .slice (adOf (Ep1 10)) q0e.length (capOf (Ep1 10)), .slice (adOf (Ep1 13)) q0f.length (capOf (Ep1 13)), .slice (adOf (Ep1 16)) q2.length (capOf (Ep1 16)), .slice (adOf (Ep1 19)) q0a.length (capOf (Ep1 19))] :: l') := Eq.mp (by kernel_rfl) hS
     refine pa (at_load one_28 q24 (hS.cell rfl)) <| x_done <| ?_
     refine x_fin ⟨⟨_, rfl⟩, rfl, ?_⟩
     exact Eq.mp (by kernel_rfl) hS
    ·intro Ep5 w l' hE5 hO5 hF_ hS
     refine p (yl_move (hE5 4 rfl)) <| x_done <| ?_
     refine x_fin ⟨⟨_, rfl⟩, rfl, ?_⟩
     exact Eq.mp (by kernel_rfl) hS
    ·intro Ep5 w l' hE5 hO5 hF_ hS
     obtain ⟨q25, q26, -⟩ := hF_
     replace q25 : Ep5 31 = .slice (adOf (Ep1 16)) q2.length (capOf (Ep1 16)) := Eq.mp (by kernel_rfl) q25
     replace q26 : Ep5 32 = .int .i64 q0b := Eq.mp (by kernel_rfl) q26
     replace hS : St w0 w (vec 38 R_api_Gate.sz (.slice (adOf (Ep1 16)) q2.length (capOf (Ep1 16))) q2.length q9 :: l') := Eq.mp (by kernel_rfl) hS
     refine p (yix_o sl_28 q25 q26 hS q0h q34) <| x_done <| ?_
     refine x_fin ⟨⟨_, rfl⟩, rfl, ?_⟩
     exact Eq.mp (by kernel_rfl) hS
    ·intro Ep5 w l' hE5 hO5 hF_ hS
     obtain ⟨q27, -⟩ := hF_
     replace q27 : Ep5 33 = .pointer (some ((adr (adOf (Ep1 16))).add (q0b.toNat * R_api_Gate.sz))) := Eq.mp (by kernel_rfl) q27
     refine p (yl_fieldAddr fld_38_2 q27) <| x_done <| ?_
     refine x_fin ⟨⟨_, rfl⟩, rfl, ?_⟩
     exact Eq.mp (by kernel_rfl) hS
    ·intro Ep5 w l' hE5 hO5 hF_ hS
     obtain ⟨q28, -⟩ := hF_
     replace q28 : Ep5 34 = .pointer (some (((adr (adOf (Ep1 16))).add (q0b.toNat * R_api_Gate.sz)).add 2)) := Eq.mp (by kernel_rfl) q28
     replace hS : St w0 w (vec 38 R_api_Gate.sz (.slice (adOf (Ep1 16)) q2.length (capOf (Ep1 16))) q2.length q9 :: l') := Eq.mp (by kernel_rfl) hS
     have q_ := q0h.get q34; obtain ⟨q3v, q35, q3p⟩ := q_
     rw [← q3n] at q35
     obtain ⟨q3s, q3t, q3u, rfl, q32⟩ := q35
     have e_ := q32.n; subst e_
     refine pa (at_load one_22 q28 (EltV.ld (m := 2) q3p hS rfl)) <| x_done <| ?_
     refine x_fin ⟨⟨_, rfl⟩, ⟨rfl, q32⟩, ?_⟩
     exact Eq.mp (by kernel_rfl) hS
    ·intro Ep5 w l' hE5 hO5 hF_ hS
     obtain ⟨q1b, -⟩ := hF_
     replace q1b : Ep5 35 = .slice (adOf (Ep5 35)) q19.Ins.length (capOf (Ep5 35)) ∧ RdS (RpI .i64) q0g (adOf (Ep5 35)) q19.Ins.length (capOf (Ep5 35)) q19.Ins := Eq.mp (by kernel_rfl) q1b
     have q_ := id q1b; obtain ⟨-, q36⟩ := q_
     replace hS : St w0 w (ro q0g :: l') := Eq.mp (by kernel_rfl) hS
     have hcall := c_slices_Clone_int_int q3o q36 hS
     refine o_cc call_109 (args1 q1b.1) hcall ?_
     rintro e w' ⟨q2k, q3i, c_y0_ret_5_9, q8, rfl, q0v, hS⟩
     refine ⟨_, rfl, ?_⟩
     have e_ := St.vec_n hS q0v; subst e_
     refine x_done <| ?_
     refine x_fin ⟨⟨_, rfl⟩, rfl, ?_⟩
     replace hS := St.bun (Φ := (fun (q8 : List Value) => RepL (RpI .i64) q0g q0p q8)) (L := (fun (q8 : List Value) => [vec 3 (RpI .i64).sz (.slice q2k q0p.length c_y0_ret_5_9) q0p.length q8])) q8 q0v hS
     exact Eq.mp (by kernel_rfl) (hS.pull 1)
    ·intro Ep5 w l' hE5 hO5 hF_ hS
     obtain ⟨q29, q2a, -⟩ := hF_
     replace q29 : Ep5 28 = .slice (adOf (Ep1 16)) q2.length (capOf (Ep1 16)) := Eq.mp (by kernel_rfl) q29
     replace q2a : Ep5 29 = .int .i64 q0b := Eq.mp (by kernel_rfl) q2a
     replace hS : St w0 w (vec 38 R_api_Gate.sz (.slice (adOf (Ep1 16)) q2.length (capOf (Ep1 16))) q2.length q9 :: l') := Eq.mp (by kernel_rfl) hS
     refine p (yix_o sl_28 q29 q2a hS q0h q31) <| x_done <| ?_
     refine x_fin ⟨⟨_, rfl⟩, rfl, ?_⟩
     exact Eq.mp (by kernel_rfl) hS
    ·intro Ep5 w l' hE5 hO5 hF_ hS
     obtain ⟨q1g, -⟩ := hF_
     replace q1g : Ep5 37 = .pointer (some ((adr (adOf (Ep1 16))).add (q0b.toNat * R_api_Gate.sz))) := Eq.mp (by kernel_rfl) q1g
     refine p (yl_fieldAddr fld_38_2 q1g) <| x_done <| ?_
     refine x_fin ⟨⟨_, rfl⟩, rfl, ?_⟩
     exact Eq.mp (by kernel_rfl) hS
    ·intro Ep5 w l' hE5 hO5 hF_ hS
     obtain ⟨q2b, q1h, -⟩ := hF_
     replace q2b : Ep5 36 = .slice (adOf (Ep5 36)) q0p.length (capOf (Ep5 36)) := Eq.mp (by kernel_rfl) q2b
     replace q1h : Ep5 38 = .pointer (some (((adr (adOf (Ep1 16))).add (q0b.toNat * R_api_Gate.sz)).add 2)) := Eq.mp (by kernel_rfl) q1h
     replace hS : St w0 w (ro q0g :: vec 38 R_api_Gate.sz (.slice (adOf (Ep1 16)) q2.length (capOf (Ep1 16))) q2.length q9 :: bunA (fun (q8 : List Value) => RepL (RpI .i64) q0g q0p q8) (fun (q8 : List Value) => [vec 3 (RpI .i64).sz (.slice (adOf (Ep5 36)) q0p.length (capOf (Ep5 36))) q0p.length q8]) :: l') := Eq.mp (by kernel_rfl) hS
     have q_ := St.unbun (hS.pull 2); obtain ⟨q8, q0v, hS⟩ := q_
     have q_ := St.vec_fz ((hS.pull 1).pull 1) q0v; obtain ⟨q33, q1n, q2l, hS⟩ := q_
     refine o_put' (news := [.slice (adOf (Ep5 36)) q0p.length (capOf (Ep5 36))]) sz_22 q1h q2b rfl rfl (o := 2) rfl q31 rfl (hS.pull 1) q0h q1n (fun c hc => by obtain ⟨_, _, _, rfl, q0⟩ := hc; exact ⟨_, _, _, rfl, q2l⟩) q3h (fun q2m w' q2n hS => ?_)
     refine x_done <| ?_
     refine x_fin ⟨⟨undef, rfl⟩, trivial, ?_⟩
     replace hS := St.ro_split q1n (hS.pull 1)
     replace hS := St.bun (Φ := (fun (x : (Heap × List Value)) => Le q0g x.1 ∧ RdS (RpI .i64) x.1 (adOf (Ep5 36)) q0p.length (capOf (Ep5 36)) q0p ∧ RepL R_api_Gate x.1 q2e x.2)) (L := (fun (x : (Heap × List Value)) => [vec 38 R_api_Gate.sz (.slice (adOf (Ep1 16)) q2.length (capOf (Ep1 16))) q2.length x.2, roD q0g x.1])) (q33, q2m) ⟨q1n, q2l, q2n⟩ ((hS.pull 1).pull 2)
     exact Eq.mp (by kernel_rfl) (hS.pull 1)
   intro Ep5 w' hE5 hF_ hS
   obtain ⟨q23, q29, q2a, q24, q25, q26, q27, q28, q1b, q2b, q1g, q1h, -⟩ := hF_
   replace q23 : Ep5 27 = .pointer (some ⟨q0c, 3, none⟩) := Eq.mp (by kernel_rfl) q23
   replace q29 : Ep5 28 = .slice (adOf (Ep1 16)) q2.length (capOf (Ep1 16)) := Eq.mp (by kernel_rfl) q29
   replace q2a : Ep5 29 = .int .i64 q0b := Eq.mp (by kernel_rfl) q2a
   replace q24 : Ep5 30 = .pointer (some ⟨q0c, 3, none⟩) := Eq.mp (by kernel_rfl) q24
   replace q25 : Ep5 31 = .slice (adOf (Ep1 16)) q2.length (capOf (Ep1 16)) := Eq.mp (by kernel_rfl) q25
   replace q26 : Ep5 32 = .int .i64 q0b := Eq.mp (by kernel_rfl) q26
   replace q27 : Ep5 33 = .pointer (some ((adr (adOf (Ep1 16))).add (q0b.toNat * R_api_Gate.sz))) := Eq.mp (by kernel_rfl) q27
   replace q28 : Ep5 34 = .pointer (some (((adr (adOf (Ep1 16))).add (q0b.toNat * R_api_Gate.sz)).add 2)) := Eq.mp (by kernel_rfl) q28
   replace q1b : Ep5 35 = .slice (adOf (Ep5 35)) q19.Ins.length (capOf (Ep5 35)) ∧ RdS (RpI .i64) q0g (adOf (Ep5 35)) q19.Ins.length (capOf (Ep5 35)) q19.Ins := Eq.mp (by kernel_rfl) q1b
   have q_ := id q1b; obtain ⟨-, q36⟩ := q_
   replace q2b : Ep5 36 = .slice (adOf (Ep5 36)) q0p.length (capOf (Ep5 36)) := Eq.mp (by kernel_rfl) q2b
   replace q1g : Ep5 37 = .pointer (some ((adr (adOf (Ep1 16))).add (q0b.toNat * R_api_Gate.sz))) := Eq.mp (by kernel_rfl) q1g
   replace q1h : Ep5 38 = .pointer (some (((adr (adOf (Ep1 16))).add (q0b.toNat * R_api_Gate.sz)).add 2)) := Eq.mp (by kernel_rfl) q1h
   replace hS : St w0 w' (cells q0c 30 [.slice (adOf (Ep1 7)) q0d.length (capOf (Ep1 7)), .slice (adOf (Ep1 10)) q0e.length (capOf (Ep1 10)), .slice (adOf (Ep1 13)) q0f.length (capOf (Ep1 13)), .slice (adOf (Ep1 16)) q2.length (capOf (Ep1 16)), .slice (adOf (Ep1 19)) q0a.length (capOf (Ep1 19))] :: ro q0g :: bunA (fun (x : (Heap × List Value)) => Le q0g x.1 ∧ RdS (RpI .i64) x.1 (adOf (Ep5 36)) q0p.length (capOf (Ep5 36)) q0p ∧ RepL R_api_Gate x.1 q2e x.2) (fun (x : (Heap × List Value)) => [vec 38 R_api_Gate.sz (.slice (adOf (Ep1 16)) q2.length (capOf (Ep1 16))) q2.length x.2, roD q0g x.1]) :: (cells b2 30 [.slice none 0 0, .slice none 0 0, .slice none 0 0, .slice none 0 0, .slice none 0 0] :: vec 9 RpS.sz (.slice (adOf (Ep1 7)) q0d.length (capOf (Ep1 7))) q0d.length q4 :: vec 9 RpS.sz (.slice (adOf (Ep1 10)) q0e.length (capOf (Ep1 10))) q0e.length q5 :: vec 135 R_api_Flop.sz (.slice (adOf (Ep1 13)) q0f.length (capOf (Ep1 13))) q0f.length q6 :: vec 3 (RpI .i64).sz (.slice (adOf (Ep1 19)) q0a.length (capOf (Ep1 19))) q0a.length q3 :: l)) := Eq.mp (by kernel_rfl) hS
   have q_ := St.unbun (hS.pull 2); obtain ⟨⟨q33, q2m⟩, ⟨q2p, q2l, q2n⟩, hS⟩ := q_
   have q_ := St.ro_join ((hS.pull 1).pull 3) (Le.refl _) q2p; obtain ⟨q3j, q38, q39, hS, q3r⟩ := q_
   replace hFL3 := ar_s hFL3; obtain ⟨x39, hx39, hFL3⟩ := hFL3
   refine x_blk <| x_region <| p (yadd ((hE5 24 rfl).trans q22) rfl hx39) <| p (yl_move rfl) <|
    x_done <| ?_
   have e_ := Option.some.inj (show some _ = some _ from hFL3); subst e_
   exact x_inv ⟨kL3, Nat.lt_succ_self _, q3j, q0c, q2m, x39, q2e, hLL3, (q2j.trans q38), ((hE5 2 rfl).trans q30), ((hE5 3 rfl).trans q1u), ((hE5 23 rfl).trans q2o), rfl, (q2n.le q39), (((((((hS.pull 7).pull 2).pull 7).pull 7).pull 7).pull 6).pull 7)⟩
  ·replace hFL3 := it_f hc25 hFL3
   refine x_exitTo _ rfl <| ?_
   have e_ := Option.some.inj (show some _ = some _ from hFL3); subst e_
   exact x_inv ⟨q0g, q0c, q9, q0o, hLL3, q2j, q30, q1u, q0h, ((((((((hS.pull 7).pull 7).pull 7).pull 7).pull 7).pull 7).pull 7).pull 7)⟩
 rintro E w ⟨q2i, q1a, q0i, q0w, rfl, q10, q37, q3q, q1o, hS⟩
 refine x_seq <| x_region <| pa (v := .agg #[.slice (adOf (Ep1 7)) q0d.length (capOf (Ep1 7)), .slice (adOf (Ep1 10)) q0e.length (capOf (Ep1 10)), .slice (adOf (Ep1 13)) q0f.length (capOf (Ep1 13)), .slice (adOf (Ep1 16)) q2.length (capOf (Ep1 16)), .slice (adOf (Ep1 19)) q0a.length (capOf (Ep1 19))]) (ld_sub agg_30 q3q rfl rfl (hS.pull 1)) <| ?_
 refine o_storeAgg (news := [.slice (adOf (Ep1 7)) q0d.length (capOf (Ep1 7)), .slice (adOf (Ep1 10)) q0e.length (capOf (Ep1 10)), .slice (adOf (Ep1 13)) q0f.length (capOf (Ep1 13)), .slice (adOf (Ep1 16)) q2.length (capOf (Ep1 16)), .slice (adOf (Ep1 19)) q0a.length (capOf (Ep1 19))]) agg_30 q37 rfl rfl (by simp [over_length]) hS (fun w' hS => ?_)
 refine x_done <| ?_
 have e_ := Option.some.inj (show some _ = some _ from hF); subst e_
 exact x_return ⟨_, ⟨_, _, _, rfl, q37, ldvA agg_30 rfl (fun j v hj => by rw [add0]; exact St.cell hS hj), rfl⟩, q2i, (adOf (Ep1 7)), q0d.length, (capOf (Ep1 7)), q4, (adOf (Ep1 10)), q0e.length, (capOf (Ep1 10)), q5, (adOf (Ep1 13)), q0f.length, (capOf (Ep1 13)), q6, (adOf (Ep1 16)), q2.length, (capOf (Ep1 16)), q0i, (adOf (Ep1 19)), q0a.length, (capOf (Ep1 19)), q3, rfl, q10, (q0s.le q10), (q0t.le q10), (q0u.le q10), q1o, (q0r.le q10), ((((((hS.drop.drop.pull 5).pull 5).pull 5).pull 5).pull 5).pull 5)⟩
attribute [irreducible] P_netlist_Copy

def P_eco_blank (g0 : T_api_Gate) : Option Bool :=
 lv ((decide (g0.Cell = 0)) && (decide (g0.Table = 0))) fun x10 =>
 lv (x10 && (decide ((g0.Ins.length : Int) = 0))) fun x16 =>
 some x16
set_option maxHeartbeats 4000000 in
set_option maxRecDepth 100000 in
theorem c_eco_blank {w0 w : World} {l : List Assn} {ρ : Heap} {q2 : Option Addr} {q3 : Nat} {c_g0_2 : Nat} {g0 : T_api_Gate} {r : Bool} (hF : P_eco_blank g0 = some r) (q4 : RdS (RpI .i64) ρ q2 q3 c_g0_2 g0.Ins) (hS : St w0 w (ro ρ :: l)) :
  Calls Tryd.prog 152 #[.agg #[.int .i64 g0.Cell, .int .u64 g0.Table, .slice q2 q3 c_g0_2]] w fun e w' => e = .returned (.bool r) ∧ St w0 w' (ro ρ :: l) := by
 have e_ := q4.n; subst e_
 refine enterC Tryd.func152 rfl 17 rfl (by simp) ?_
 refine x_seq <| x_region <| ?_
 refine o_box (cs := [.int .i64 g0.Cell, .int .u64 g0.Table, .slice q2 g0.Ins.length c_g0_2]) rfl rfl hS (fun b1 w' hS => ?_)
 replace hF := lv_s hF; obtain ⟨x10, hx10, hF⟩ := hF
 replace hF := lv_s hF; obtain ⟨x16, hx16, hF⟩ := hF
 refine p (yl_assign rfl) <| x_done <| x_seq <| x_region <|
  p (yl_field0 fld_38_0 rfl) <| pa (at_load one_3 rfl (hS.cell rfl)) <| p (yl_eql rfl rfl) <| p (yl_move rfl) <|
  pg (v := .pointer (some ⟨b1, 1, none⟩)) 6 (c := decide (g0.Cell = 0)) (says_t _) (fun hq => Yl.at (yl_field0 fld_38_1 rfl)) <| pg (v := .int .u64 g0.Table) 6 (c := decide (g0.Cell = 0)) (says_t _) (fun hq => at_load one_35 (cv hq) (hS.cell rfl)) <| pg (v := .bool (decide (g0.Table = 0))) 6 (c := decide (g0.Cell = 0)) (says_t _) (fun hq => Yl.at (yl_eql (cv hq) rfl)) <| p (yand' rfl (fun hc => (cv hc)) rfl hx10) <|
  p (yl_move rfl) <| pg (v := .pointer (some ⟨b1, 2, none⟩)) 11 (c := x10) (says_t _) (fun hq => Yl.at (yl_field0 fld_38_2 rfl)) <| pg (v := .slice q2 g0.Ins.length c_g0_2) 11 (c := x10) (says_t _) (fun hq => at_load one_22 (cv hq) (hS.cell rfl)) <| pg (v := .int .i64 (g0.Ins.length : Int)) 11 (c := x10) (says_t _) (fun hq => Yl.at (yl_len_slice usl_22 (cv hq))) <|
  pg (v := .bool (decide ((g0.Ins.length : Int) = 0))) 11 (c := x10) (says_t _) (fun hq => Yl.at (yl_eql (cv hq) rfl)) <| p (yand' rfl (fun hc => (cv hc)) rfl hx16) <| p (yl_assign rfl) <| x_done <| ?_
 have e_ := Option.some.inj (show some _ = some _ from hF); subst e_
 exact x_return ⟨_, ⟨_, _, rfl, rfl, rfl⟩, rfl, hS.drop⟩
attribute [irreducible] P_eco_blank

def P_eco_valid (x0 : T_eco_Edit) : Option Bool :=
 if x0.Kind = 0 then
  lv ((decide (x0.I = 0)) && (decide (x0.K = 0))) fun x14 =>
  lv (x14 && (decide (x0.Net = 0))) fun x19 =>
  some x19
 else
  bd (
   if x0.Kind = 3 then
    some (decide (x0.Kind = 3))
   else
    some (decide (x0.Kind = 4))) fun q2 =>
  if q2 = true then
   bd (P_eco_blank (T_api_Gate.mk x0.Gate.Cell x0.Gate.Table x0.Gate.Ins)) fun q3 =>
   lv (q3 && (decide (x0.K = 0))) fun x30 =>
   some x30
  else
   bd (P_eco_blank (T_api_Gate.mk x0.Gate.Cell x0.Gate.Table x0.Gate.Ins)) fun q4 =>
   some q4
set_option maxHeartbeats 4000000 in
set_option maxRecDepth 100000 in
theorem c_eco_valid {w0 w : World} {l : List Assn} {ρ : Heap} {q2 : Option Addr} {q7 : Nat} {c_x0_3 : Nat} {x0 : T_eco_Edit} {r : Bool} (hF : P_eco_valid x0 = some r) (q4 : RdS (RpI .i64) ρ q2 q7 c_x0_3 x0.Gate.Ins) (hS : St w0 w (ro ρ :: l)) :
  Calls Tryd.prog 110 #[.agg #[.int .i64 x0.Kind, .int .i64 x0.Gate.Cell, .int .u64 x0.Gate.Table, .slice q2 q7 c_x0_3, .int .i64 x0.I, .int .i64 x0.K, .int .i64 x0.Net]] w fun e w' => e = .returned (.bool r) ∧ St w0 w' (ro ρ :: l) := by
 have e_ := q4.n; subst e_
 refine enterC Tryd.func110 rfl 34 rfl (by simp) ?_
 refine x_seq <| x_region <| ?_
 refine o_box (cs := [.int .i64 x0.Kind, .int .i64 x0.Gate.Cell, .int .u64 x0.Gate.Table, .slice q2 x0.Gate.Ins.length c_x0_3, .int .i64 x0.I, .int .i64 x0.K, .int .i64 x0.Net]) rfl rfl hS (fun b1 w' hS => ?_)
 refine p (yl_assign rfl) <| x_done <| x_seq <| x_seq <|
  x_region <| p (yl_field0 fld_43_0 rfl) <| pa (at_load one_3 rfl (hS.cell rfl)) <| x_done <|
  x_block <| x_seq <| x_region <| p (yl_eql rfl rfl) <|
  p (yl_assign rfl) <| x_done <|
  x_cond_p (x0.Kind = 0) rfl (fun hc5 => ?_) (fun hc5 => ?_)
 ·replace hF := it_t hc5 hF
  replace hF := lv_s hF; obtain ⟨x14, hx14, hF⟩ := hF
  replace hF := lv_s hF; obtain ⟨x19, hx19, hF⟩ := hF
  refine x_seq <| x_region <| p (yl_field0 fld_43_2 rfl) <| pa (at_load one_3 rfl (hS.cell rfl)) <|
   p (yl_eql rfl rfl) <| p (yl_move rfl) <| pg (v := .pointer (some ⟨b1, 5, none⟩)) 10 (c := decide (x0.I = 0)) (says_t _) (fun hq => Yl.at (yl_field0 fld_43_3 rfl)) <| pg (v := .int .i64 x0.K) 10 (c := decide (x0.I = 0)) (says_t _) (fun hq => at_load one_3 (cv hq) (hS.cell rfl)) <|
   pg (v := .bool (decide (x0.K = 0))) 10 (c := decide (x0.I = 0)) (says_t _) (fun hq => Yl.at (yl_eql (cv hq) rfl)) <| p (yand' rfl (fun hc => (cv hc)) rfl hx14) <| p (yl_move rfl) <| pg (v := .pointer (some ⟨b1, 6, none⟩)) 15 (c := x14) (says_t _) (fun hq => Yl.at (yl_field0 fld_43_4 rfl)) <|
   pg (v := .int .i64 x0.Net) 15 (c := x14) (says_t _) (fun hq => at_load one_3 (cv hq) (hS.cell rfl)) <| pg (v := .bool (decide (x0.Net = 0))) 15 (c := x14) (says_t _) (fun hq => Yl.at (yl_eql (cv hq) rfl)) <| p (yand' rfl (fun hc => (cv hc)) rfl hx19) <| p (yl_assign rfl) <|
   x_done <| ?_
  have e_ := Option.some.inj (show some _ = some _ from hF); subst e_
  exact x_return ⟨_, ⟨_, _, rfl, rfl, rfl⟩, rfl, hS.drop⟩
 ·replace hF := it_f hc5 hF
  refine x_seq <| x_seq <| x_region <| p (yl_eql rfl rfl) <|
   p (yl_assign rfl) <| x_done <| ?_
  replace hF := bd_s hF; obtain ⟨oc20, hFc20, hF⟩ := hF
  refine x_join (fun E w => ∃ (q3 : Bool), q3 = oc20 ∧ E 1 = .pointer (some ⟨b1, 0, none⟩) ∧ E 20 = .bool q3 ∧ St w0 w (cells b1 43 [.int .i64 x0.Kind, .int .i64 x0.Gate.Cell, .int .u64 x0.Gate.Table, .slice q2 x0.Gate.Ins.length c_x0_3, .int .i64 x0.I, .int .i64 x0.K, .int .i64 x0.Net] :: ro ρ :: l)) ?_ ?_
  ·refine x_cond_p (x0.Kind = 3) rfl (fun hc20 => ?_) (fun hc20 => ?_)
   ·replace hFc20 := it_t hc20 hFc20
    refine x_skip <| ?_
    exact x_inv ⟨decide (x0.Kind = 3), (Option.some.inj (show some _ = some _ from hFc20)), rfl, rfl, ((hS.pull 1).pull 1)⟩
   ·replace hFc20 := it_f hc20 hFc20
    refine x_region <| p (yl_eql rfl rfl) <| p (yl_assign rfl) <| x_done <| ?_
    exact x_inv ⟨decide (x0.Kind = 4), (Option.some.inj (show some _ = some _ from hFc20)), rfl, rfl, ((hS.pull 1).pull 1)⟩
  rintro E w ⟨q3, rfl, q5, q8, hS⟩
  refine x_cond (t := q3) q8 (fun hc20 => ?_) (fun hc20 => ?_)
  ·replace hF := it_t hc20 hF
   replace hF := bd_s hF; obtain ⟨q6, q9, hF⟩ := hF
   refine x_seq <| x_region <| p (yl_field0 fld_43_1 q5) <| pa (v := .agg #[.int .i64 x0.Gate.Cell, .int .u64 x0.Gate.Table, .slice q2 x0.Gate.Ins.length c_x0_3]) (ld_sub agg_38 rfl rfl rfl hS) <| ?_
   have hcall := c_eco_blank q9 q4 (hS.pull 1)
   refine o_cc call_152 (args1 rfl) ((Calls.mono hcall (fun e w'' h => And.intro h.1 (h.2.pull 1)))) ?_
   rintro e w' ⟨rfl, hS⟩
   refine ⟨_, rfl, ?_⟩
   replace hF := lv_s hF; obtain ⟨x30, hx30, hF⟩ := hF
   refine p (v := .bool q6) (yl_move rfl) <| pg (v := .pointer (some ⟨b1, 5, none⟩)) 26 (c := q6) (says_t _) (fun hq => Yl.at (yl_field0 fld_43_3 q5)) <| pg (v := .int .i64 x0.K) 26 (c := q6) (says_t _) (fun hq => at_load one_3 (cv hq) (hS.cell rfl)) <| pg (v := .bool (decide (x0.K = 0))) 26 (c := q6) (says_t _) (fun hq => Yl.at (yl_eql (cv hq) rfl)) <|
    p (yand' rfl (fun hc => (cv hc)) rfl hx30) <| p (yl_assign rfl) <| x_done <| ?_
   have e_ := Option.some.inj (show some _ = some _ from hF); subst e_
   exact x_return ⟨_, ⟨_, _, rfl, rfl, rfl⟩, rfl, hS.drop⟩
  ·replace hF := it_bf hc20 hF
   replace hF := bd_s hF; obtain ⟨q0b, q0a, hF⟩ := hF
   refine x_skip <| x_blk <| x_seq <| x_region <|
    p (yl_field0 fld_43_1 q5) <| pa (v := .agg #[.int .i64 x0.Gate.Cell, .int .u64 x0.Gate.Table, .slice q2 x0.Gate.Ins.length c_x0_3]) (ld_sub agg_38 rfl rfl rfl hS) <| ?_
   have hcall := c_eco_blank q0a q4 (hS.pull 1)
   refine o_cc call_152 (args1 rfl) ((Calls.mono hcall (fun e w'' h => And.intro h.1 (h.2.pull 1)))) ?_
   rintro e w' ⟨rfl, hS⟩
   refine ⟨_, rfl, ?_⟩
   refine p (v := .bool q0b) (yl_assign rfl) <| x_done <| ?_
   have e_ := Option.some.inj (show some _ = some _ from hF); subst e_
   exact x_return ⟨_, ⟨_, _, rfl, rfl, rfl⟩, rfl, hS.drop⟩
attribute [irreducible] P_eco_valid

def P_slices_Clone_api_Gate_api_Gate_2 (s0 : List T_api_Gate) : Option (List T_api_Gate) :=
 lv (([] : List T_api_Gate) ++ s0) fun q2 =>
 ck (apOk 40 q2.length) <|
 some q2
set_option maxHeartbeats 4000000 in
set_option maxRecDepth 100000 in
theorem c_slices_Clone_api_Gate_api_Gate_2 {w0 w : World} {l : List Assn} {ρ : Heap} {q7 : Option Addr} {q5 : Nat} {c_s0 : Nat} {q8 : List Value} {s0 : List T_api_Gate} {r : List T_api_Gate} (hF : P_slices_Clone_api_Gate_api_Gate_2 s0 = some r) (q9 : RepL R_api_Gate ρ s0 q8) (hS : St w0 w (vec 38 R_api_Gate.sz (.slice q7 q5 c_s0) q5 q8 :: ro ρ :: l)) :
  Calls Tryd.prog 108 #[.slice q7 q5 c_s0] w fun e w' => ∃ (q6 : Option Addr) (q2 : Nat) (c_y0_ret : Nat) (q3 : List Value), e = .returned (.slice q6 q2 c_y0_ret) ∧ RepL R_api_Gate ρ r q3 ∧ St w0 w' (vec 38 R_api_Gate.sz (.slice q6 q2 c_y0_ret) q2 q3 :: vec 38 R_api_Gate.sz (.slice q7 q5 c_s0) q5 q8 :: ro ρ :: l) := by
 have e_ := St.vec_n hS q9; subst e_
 refine enterC Tryd.func108 rfl 8 rfl (by simp) ?_
 refine x_seq <| x_region <| p (yl_assign rfl) <| x_done <|
  x_seq <| x_seq <| x_region <| p (yl_move rfl) <|
  p (yeq_nil usl_28 rfl rfl) <| x_done <|
  x_cond (t := Option.isNone q7) rfl (fun hc4 => ?_) (fun hc4 => ?_)
 ·have hx0 : s0 = [] := vec_nilA hS q9 hc4
  have hF : some ([] : List T_api_Gate) = some r := by rw [hx0] at hF; unfold P_slices_Clone_api_Gate_api_Gate_2 at hF; simpa [lv, ck, apOk] using hF
  refine x_seq <| x_region <| p (yl_assign rfl) <| x_done <| ?_
  replace hS := St.vec_nil hS 38 R_api_Gate.sz
  have q4 : RepL R_api_Gate ρ [] [] := rfl
  have e_ := Option.some.inj (show some _ = some _ from hF); subst e_
  exact x_return ⟨_, ⟨_, _, rfl, rfl, rfl⟩, none, 0, 0, [], rfl, q4, (((hS.pull 2).pull 2).pull 2)⟩
 ·skip
  refine x_skip <| x_seq <| x_region <| ?_
  refine o_buildSlice (vs := []) (cs := []) sl_28 zero_38 (parts_eq pt0) rfl (by intro v hv; cases hv) (by decide) rfl hS (fun b5 w' hS => ?_)
  refine p (yl_move rfl) <| ?_
  have q0a : RepL R_api_Gate ρ ([] : List T_api_Gate) [] := RepL.nil
  replace hS := St.vec_of (n := 0) (sz := R_api_Gate.sz) hS rfl (by decide)
  replace hF := lv_s hF; obtain ⟨q0d, q0b, hF⟩ := hF
  replace hF := ck_s hF; obtain ⟨q0c, hF⟩ := hF
  refine o_ap sl_28 zero_38 rfl (by decide) rfl rfl hS q0a (src_o usl_28 (hS.pull 1) q9) q9 q0b q0c (fun A7 c7 cs7 w' hr7 hS => ?_)
  refine p (yl_assign rfl) <| x_done <| ?_
  have e_ := Option.some.inj (show some _ = some _ from hF); subst e_
  exact x_return ⟨_, ⟨_, _, rfl, rfl, rfl⟩, A7, q0d.length, c7, cs7, rfl, hr7, (((hS.pull 2).pull 2).pull 2)⟩
attribute [irreducible] P_slices_Clone_api_Gate_api_Gate_2

def P_eco_add (n0 : T_api_Netlist) (l_1 : List T_api_Cell) (g2 : T_api_Gate) : Option (Int × List T_api_Gate) :=
 ar ((n0.Gates.length : Int) + (n0.Flops.length : Int)) fun x19 =>
 if 300 ≤ x19 then
  some ((3 : Int), n0.Gates)
 else
  bd (P_slices_Clone_api_Gate_api_Gate_2 n0.Gates) fun q5 =>
  bd (P_slices_Clone_int_int g2.Ins) fun q4 =>
  lv (q5 ++ [(T_api_Gate.mk g2.Cell g2.Table q4)]) fun q2 =>
  ck (apOk 40 q2.length) <|
  bd (P_floor_CheckChip (T_api_Netlist.mk n0.In n0.Out n0.Flops q2 n0.Outs) l_1) fun q3 =>
  if q3 ≠ 0 then
   some (q3, n0.Gates)
  else
   some ((0 : Int), q2)
set_option maxHeartbeats 4000000 in
set_option maxRecDepth 100000 in
theorem c_eco_add {w0 w : World} {l : List Assn} {ρ : Heap} {q0f : Nat} {q6 : Option Addr} {q0l : Nat} {c_n0_0 : Nat} {q0u : List Value} {q7 : Option Addr} {q0m : Nat} {c_n0_1 : Nat} {q0v : List Value} {q8 : Option Addr} {q0n : Nat} {c_n0_2 : Nat} {q0w : List Value} {q9 : Option Addr} {q1g : Nat} {c_n0_3 : Nat} {q0i : List Value} {q0a : Option Addr} {q0o : Nat} {c_n0_4 : Nat} {q0x : List Value} {q1t : Option Addr} {q1u : Nat} {c_l_1 : Nat} {q0c : Option Addr} {q1m : Nat} {c_g2_2 : Nat} {n0 : T_api_Netlist} {l_1 : List T_api_Cell} {g2 : T_api_Gate} {r : (Int × List T_api_Gate)} (hF : P_eco_add n0 l_1 g2 = some r) (q1n : RepL RpS ρ n0.In q0u) (q1o : RepL RpS ρ n0.Out q0v) (q1p : RepL R_api_Flop ρ n0.Flops q0w) (q13 : RepL R_api_Gate ρ n0.Gates q0i) (q1q : RepL (RpI .i64) ρ n0.Outs q0x) (q1v : RdS R_api_Cell ρ q1t q1u c_l_1 l_1) (q1r : RdS (RpI .i64) ρ q0c q1m c_g2_2 g2.Ins) (hS : St w0 w (cells q0f 30 [.slice q6 q0l c_n0_0, .slice q7 q0m c_n0_1, .slice q8 q0n c_n0_2, .slice q9 q1g c_n0_3, .slice q0a q0o c_n0_4] :: vec 9 RpS.sz (.slice q6 q0l c_n0_0) q0l q0u :: vec 9 RpS.sz (.slice q7 q0m c_n0_1) q0m q0v :: vec 135 R_api_Flop.sz (.slice q8 q0n c_n0_2) q0n q0w :: vec 38 R_api_Gate.sz (.slice q9 q1g c_n0_3) q1g q0i :: vec 3 (RpI .i64).sz (.slice q0a q0o c_n0_4) q0o q0x :: ro ρ :: l)) :
  Calls Tryd.prog 111 #[.pointer (some ⟨q0f, 0, none⟩), .slice q1t q1u c_l_1, .agg #[.int .i64 g2.Cell, .int .u64 g2.Table, .slice q0c q1m c_g2_2]] w fun e w' => ∃ (ρ' : Heap) (q0r : Option Addr) (q0k : Nat) (c_b_n0_3_ret : Nat) (q0q : List Value), e = .returned (.int .i64 r.1) ∧ Le ρ ρ' ∧ RepL R_api_Gate ρ' r.2 q0q ∧ St w0 w' (cells q0f 30 [.slice q6 q0l c_n0_0, .slice q7 q0m c_n0_1, .slice q8 q0n c_n0_2, .slice q0r q0k c_b_n0_3_ret, .slice q0a q0o c_n0_4] :: vec 9 RpS.sz (.slice q6 q0l c_n0_0) q0l q0u :: vec 9 RpS.sz (.slice q7 q0m c_n0_1) q0m q0v :: vec 135 R_api_Flop.sz (.slice q8 q0n c_n0_2) q0n q0w :: vec 38 R_api_Gate.sz (.slice q0r q0k c_b_n0_3_ret) q0k q0q :: vec 3 (RpI .i64).sz (.slice q0a q0o c_n0_4) q0o q0x :: ro ρ' :: l) := by
 have e_ := St.vec_n (hS.pull 1) q1n; subst e_
 have e_ := St.vec_n (hS.pull 2) q1o; subst e_
 have e_ := St.vec_n (hS.pull 3) q1p; subst e_
 have e_ := St.vec_n (hS.pull 4) q13; subst e_
 have e_ := St.vec_n (hS.pull 5) q1q; subst e_
 have e_ := q1v.n; subst e_
 have e_ := q1r.n; subst e_
 refine enterC Tryd.func111 rfl 49 rfl (by simp) ?_
 refine x_seq <| x_region <| ?_
 refine o_box (cs := [.int .i64 g2.Cell, .int .u64 g2.Table, .slice q0c g2.Ins.length c_g2_2]) rfl rfl hS (fun b5 w' hS => ?_)
 replace hF := ar_s hF; obtain ⟨x19, hx19, hF⟩ := hF
 refine p (yl_assign rfl) <| x_done <| x_seq <| x_seq <|
  x_still mixed (by kernel_rfl) hS <| q (yl_move rfl) <| q (yl_nilCheck rfl) <| q (yl_field0 fld_30_3 rfl) <|
  qa (fun w' hS => at_load one_28 rfl ((hS.pull 1).cell rfl)) <| q (yl_len_slice usl_28 rfl) <| q (yl_move rfl) <| q (yl_nilCheck rfl) <|
  q (yl_field0 fld_30_2 rfl) <| qa (fun w' hS => at_load one_27 rfl ((hS.pull 1).cell rfl)) <| q (yl_len_slice usl_27 rfl) <| q (yadd rfl rfl hx19) <|
  q (yl_geq rfl rfl) <|
  q_done fun w' hS => ?_
 refine x_cond_p (300 ≤ x19) rfl (fun hc20 => ?_) (fun hc20 => ?_)
 ·replace hF := it_t hc20 hF
  refine x_seq <| x_region <| p (yl_assign rfl) <| x_done <| ?_
  have e_ := Option.some.inj (show some _ = some _ from hF); subst e_
  exact x_return ⟨_, ⟨_, _, rfl, rfl, rfl⟩, ρ, q9, n0.Gates.length, c_n0_3, q0i, rfl, (Le.refl _), q13, (((((((hS.drop.pull 6).pull 6).pull 6).pull 6).pull 6).pull 6).pull 6)⟩
 ·replace hF := it_f hc20 hF
  refine x_skip <| x_seq <| x_region <| p (yl_move rfl) <|
   p (yl_nilCheck rfl) <| pa (v := .agg #[.slice q6 n0.In.length c_n0_0, .slice q7 n0.Out.length c_n0_1, .slice q8 n0.Flops.length c_n0_2, .slice q9 n0.Gates.length c_n0_3, .slice q0a n0.Outs.length c_n0_4]) (ld_sub agg_30 rfl rfl rfl (hS.pull 1)) <| ?_
  refine o_alloc zero_30 hS (fun b7 w' hS => ?_)
  refine o_storeAgg (news := [.slice q6 n0.In.length c_n0_0, .slice q7 n0.Out.length c_n0_1, .slice q8 n0.Flops.length c_n0_2, .slice q9 n0.Gates.length c_n0_3, .slice q0a n0.Outs.length c_n0_4]) agg_30 rfl rfl rfl (by simp [over_length]) hS (fun w' hS => ?_)
  refine x_done <| x_seq <| ?_
  replace hF := bd_s hF; obtain ⟨q0j, q21, hF⟩ := hF
  replace hF := bd_s hF; obtain ⟨q3, q1x, hF⟩ := hF
  replace hF := lv_s hF; obtain ⟨q0b, q1y, hF⟩ := hF
  replace hF := ck_s hF; obtain ⟨q1z, hF⟩ := hF
  refine x_par (w0 := w0) [⟨[], [], [24], [], [], []⟩, ⟨[0], [0], [25], [], [], []⟩, ⟨[0, 1], [1], [26], [], [], []⟩, ⟨[0, 1, 2], [2], [27], [0], [], []⟩, ⟨[0, 1, 2, 3], [3], [28], [1, 2], [], [3]⟩, ⟨[], [], [29], [], [], []⟩, ⟨[5], [5], [30], [4], [], []⟩, ⟨[], [], [31], [], [], []⟩, ⟨[7], [7], [32], [4], [], []⟩, ⟨[], [], [33], [], [], []⟩, ⟨[9], [9], [34], [4], [], []⟩, ⟨[0, 1, 2, 3, 4, 9, 10], [10], [35], [2], [], [5]⟩, ⟨[0, 1, 2, 3, 4, 5, 6, 7, 8, 9, 10, 11], [6, 8, 11], [35, 36], [], [], []⟩, ⟨[0, 1, 2, 3, 4, 5, 6, 7, 8, 9, 10, 11, 12], [11, 12], [37], [2], [5], [6, 7]⟩, ⟨[0, 1, 2, 3, 4, 5, 6, 7, 8, 9, 10, 11, 12, 13], [4, 11, 13], [38], [6, 2], [7, 3], [8]⟩, ⟨[0, 1, 2, 3, 4, 5, 6, 7, 8, 9, 10, 11, 12, 13, 14], [], [39], [], [], []⟩, ⟨[0, 1, 2, 3, 4, 5, 6, 7, 8, 9, 10, 11, 12, 13, 14, 15], [14, 15], [], [], [9], [10]⟩] [⟨none, none, []⟩, ⟨none, none, []⟩, ⟨none, none, []⟩, ⟨(some 4), (some 14), [28]⟩, ⟨none, none, []⟩, ⟨(some 11), (some 13), [35]⟩, ⟨(some 13), none, [35, 37]⟩, ⟨(some 13), (some 14), [35]⟩, ⟨(some 14), none, [35, 38]⟩, ⟨none, (some 16), []⟩, ⟨(some 16), none, [38]⟩] [24, 25, 26, 27, 28, 29, 30, 31, 32, 33, 34, 35, 36, 37, 38, 39] [0, 1, 2, 4, 9] [0, 1, 2, 4, 6, 8, 10] [0, 1, 2, 3, 4, 5, 6, 7, 8, 9, 10, 11, 12, 13, 14, 15] [fun Ep4 => Ep4 24 = .pointer (some ⟨q0f, 0, none⟩), fun Ep4 => Ep4 25 = .pointer (some ⟨q0f, 0, none⟩), fun Ep4 => Ep4 26 = .pointer (some ⟨q0f, 3, none⟩), fun Ep4 => Ep4 27 = .slice q9 n0.Gates.length c_n0_3, fun Ep4 => Ep4 28 = .slice (adOf (Ep4 28)) q0j.length (capOf (Ep4 28)), fun Ep4 => Ep4 29 = .pointer (some ⟨b5, 0, none⟩), fun Ep4 => Ep4 30 = .int .i64 g2.Cell, fun Ep4 => Ep4 31 = .pointer (some ⟨b5, 1, none⟩), fun Ep4 => Ep4 32 = .int .u64 g2.Table, fun Ep4 => Ep4 33 = .pointer (some ⟨b5, 2, none⟩), fun Ep4 => Ep4 34 = .slice q0c g2.Ins.length c_g2_2, fun Ep4 => Ep4 35 = .slice (adOf (Ep4 35)) q3.length (capOf (Ep4 35)), fun Ep4 => Ep4 36 = .agg #[.int .i64 g2.Cell, .int .u64 g2.Table, .slice (adOf (Ep4 35)) q3.length (capOf (Ep4 35))], fun Ep4 => Ep4 37 = .slice (some ⟨(blkOf (Ep4 37)), 0, none⟩) 1 1, fun Ep4 => Ep4 38 = .slice (adOf (Ep4 38)) q0b.length (capOf (Ep4 38)), fun Ep4 => Ep4 39 = .pointer (some ⟨b7, 3, none⟩), fun Ep4 => True] [fun Ep4 => cells q0f 30 [.slice q6 n0.In.length c_n0_0, .slice q7 n0.Out.length c_n0_1, .slice q8 n0.Flops.length c_n0_2, .slice q9 n0.Gates.length c_n0_3, .slice q0a n0.Outs.length c_n0_4], fun Ep4 => vec 38 R_api_Gate.sz (.slice q9 n0.Gates.length c_n0_3) n0.Gates.length q0i, fun Ep4 => ro ρ, fun Ep4 => bunA (fun (q4 : List Value) => RepL R_api_Gate ρ q0j q4) (fun (q4 : List Value) => [vec 38 R_api_Gate.sz (.slice (adOf (Ep4 28)) q0j.length (capOf (Ep4 28))) q0j.length q4]), fun Ep4 => cells b5 38 [.int .i64 g2.Cell, .int .u64 g2.Table, .slice q0c g2.Ins.length c_g2_2], fun Ep4 => bunA (fun (q2 : List Value) => RepL (RpI .i64) ρ q3 q2) (fun (q2 : List Value) => [vec 3 (RpI .i64).sz (.slice (adOf (Ep4 35)) q3.length (capOf (Ep4 35))) q3.length q2]), fun Ep4 => cells (blkOf (Ep4 37)) 38 [.int .i64 g2.Cell, .int .u64 g2.Table, .slice (adOf (Ep4 35)) q3.length (capOf (Ep4 35))], fun Ep4 => bunA (fun (q5 : Heap) => Le ρ q5 ∧ RdS (RpI .i64) q5 (adOf (Ep4 35)) q3.length (capOf (Ep4 35)) q3) (fun (q5 : Heap) => [roD ρ q5]), fun Ep4 => bunA (fun (x : (Heap × List Value)) => Le ρ x.1 ∧ RdS (RpI .i64) x.1 (adOf (Ep4 35)) q3.length (capOf (Ep4 35)) q3 ∧ RepL R_api_Gate x.1 q0b x.2) (fun (x : (Heap × List Value)) => [vec 38 R_api_Gate.sz (.slice (adOf (Ep4 38)) q0b.length (capOf (Ep4 38))) q0b.length x.2, roD ρ x.1]), fun Ep4 => cells b7 30 [.slice q6 n0.In.length c_n0_0, .slice q7 n0.Out.length c_n0_1, .slice q8 n0.Flops.length c_n0_2, .slice q9 n0.Gates.length c_n0_3, .slice q0a n0.Outs.length c_n0_4], fun Ep4 => cells b7 30 [.slice q6 n0.In.length c_n0_0, .slice q7 n0.Out.length c_n0_1, .slice q8 n0.Flops.length c_n0_2, .slice (adOf (Ep4 38)) q0b.length (capOf (Ep4 38)), .slice q0a n0.Outs.length c_n0_4]] mixed (by kernel_rfl) ((((hS.pull 1).pull 8).pull 7).pull 4) ?_ ?_
  ·refine ⟨?_, ?_, ?_, ?_, ?_, ?_, ?_, ?_, ?_, ?_, ?_, ?_, ?_, ?_, ?_, ?_, ?_, trivial⟩
   ·intro Ep4 w l' hE4 hO4 hF_ hS
    refine p (yl_move (hE4 0 rfl)) <| x_done <| ?_
    refine x_fin ⟨⟨_, rfl⟩, rfl, ?_⟩
    exact Eq.mp (by kernel_rfl) hS
   ·intro Ep4 w l' hE4 hO4 hF_ hS
    obtain ⟨q14, -⟩ := hF_
    replace q14 : Ep4 24 = .pointer (some ⟨q0f, 0, none⟩) := Eq.mp (by kernel_rfl) q14
    refine p (yl_nilCheck q14) <| x_done <| ?_
    refine x_fin ⟨⟨_, rfl⟩, rfl, ?_⟩
    exact Eq.mp (by kernel_rfl) hS
   ·intro Ep4 w l' hE4 hO4 hF_ hS
    obtain ⟨q15, -⟩ := hF_
    replace q15 : Ep4 25 = .pointer (some ⟨q0f, 0, none⟩) := Eq.mp (by kernel_rfl) q15
    refine p (yl_field0 fld_30_3 q15) <| x_done <| ?_
    refine x_fin ⟨⟨_, rfl⟩, rfl, ?_⟩
    exact Eq.mp (by kernel_rfl) hS
   ·intro Ep4 w l' hE4 hO4 hF_ hS
    obtain ⟨q16, -⟩ := hF_
    replace q16 : Ep4 26 = .pointer (some ⟨q0f, 3, none⟩) := Eq.mp (by kernel_rfl) q16
    replace hS : St w0 w (cells q0f 30 [.slice q6 n0.In.length c_n0_0, .slice q7 n0.Out.length c_n0_1, .slice q8 n0.Flops.length c_n0_2, .slice q9 n0.Gates.length c_n0_3, .slice q0a n0.Outs.length c_n0_4] :: l') := Eq.mp (by kernel_rfl) hS
    refine pa (at_load one_28 q16 (hS.cell rfl)) <| x_done <| ?_
    refine x_fin ⟨⟨_, rfl⟩, rfl, ?_⟩
    exact Eq.mp (by kernel_rfl) hS
   ·intro Ep4 w l' hE4 hO4 hF_ hS
    obtain ⟨q17, -⟩ := hF_
    replace q17 : Ep4 27 = .slice q9 n0.Gates.length c_n0_3 := Eq.mp (by kernel_rfl) q17
    replace hS : St w0 w (vec 38 R_api_Gate.sz (.slice q9 n0.Gates.length c_n0_3) n0.Gates.length q0i :: ro ρ :: l') := Eq.mp (by kernel_rfl) hS
    have hcall := c_slices_Clone_api_Gate_api_Gate_2 q21 q13 ((hS.pull 1).pull 1)
    refine o_cc call_108 (args1 q17) hcall ?_
    rintro e w' ⟨q1h, q20, c_y0_ret_4_4, q4, rfl, q0h, hS⟩
    refine ⟨_, rfl, ?_⟩
    have e_ := St.vec_n hS q0h; subst e_
    refine x_done <| ?_
    refine x_fin ⟨⟨_, rfl⟩, rfl, ?_⟩
    replace hS := St.bun (Φ := (fun (q4 : List Value) => RepL R_api_Gate ρ q0j q4)) (L := (fun (q4 : List Value) => [vec 38 R_api_Gate.sz (.slice q1h q0j.length c_y0_ret_4_4) q0j.length q4])) q4 q0h hS
    exact Eq.mp (by kernel_rfl) ((hS.pull 2).pull 2)
   ·intro Ep4 w l' hE4 hO4 hF_ hS
    refine p (yl_field0 fld_38_0 (hE4 5 rfl)) <| x_done <| ?_
    refine x_fin ⟨⟨_, rfl⟩, rfl, ?_⟩
    exact Eq.mp (by kernel_rfl) hS
   ·intro Ep4 w l' hE4 hO4 hF_ hS
    obtain ⟨q18, -⟩ := hF_
    replace q18 : Ep4 29 = .pointer (some ⟨b5, 0, none⟩) := Eq.mp (by kernel_rfl) q18
    replace hS : St w0 w (cells b5 38 [.int .i64 g2.Cell, .int .u64 g2.Table, .slice q0c g2.Ins.length c_g2_2] :: l') := Eq.mp (by kernel_rfl) hS
    refine pa (at_load one_3 q18 (hS.cell rfl)) <| x_done <| ?_
    refine x_fin ⟨⟨_, rfl⟩, rfl, ?_⟩
    exact Eq.mp (by kernel_rfl) hS
   ·intro Ep4 w l' hE4 hO4 hF_ hS
    refine p (yl_field0 fld_38_1 (hE4 5 rfl)) <| x_done <| ?_
    refine x_fin ⟨⟨_, rfl⟩, rfl, ?_⟩
    exact Eq.mp (by kernel_rfl) hS
   ·intro Ep4 w l' hE4 hO4 hF_ hS
    obtain ⟨q19, -⟩ := hF_
    replace q19 : Ep4 31 = .pointer (some ⟨b5, 1, none⟩) := Eq.mp (by kernel_rfl) q19
    replace hS : St w0 w (cells b5 38 [.int .i64 g2.Cell, .int .u64 g2.Table, .slice q0c g2.Ins.length c_g2_2] :: l') := Eq.mp (by kernel_rfl) hS
    refine pa (at_load one_35 q19 (hS.cell rfl)) <| x_done <| ?_
    refine x_fin ⟨⟨_, rfl⟩, rfl, ?_⟩
    exact Eq.mp (by kernel_rfl) hS
   ·intro Ep4 w l' hE4 hO4 hF_ hS
    refine p (yl_field0 fld_38_2 (hE4 5 rfl)) <| x_done <| ?_
    refine x_fin ⟨⟨_, rfl⟩, rfl, ?_⟩
    exact Eq.mp (by kernel_rfl) hS
   ·intro Ep4 w l' hE4 hO4 hF_ hS
    obtain ⟨q1a, -⟩ := hF_
    replace q1a : Ep4 33 = .pointer (some ⟨b5, 2, none⟩) := Eq.mp (by kernel_rfl) q1a
    replace hS : St w0 w (cells b5 38 [.int .i64 g2.Cell, .int .u64 g2.Table, .slice q0c g2.Ins.length c_g2_2] :: l') := Eq.mp (by kernel_rfl) hS
    refine pa (at_load one_22 q1a (hS.cell rfl)) <| x_done <| ?_
    refine x_fin ⟨⟨_, rfl⟩, rfl, ?_⟩
    exact Eq.mp (by kernel_rfl) hS
   ·intro Ep4 w l' hE4 hO4 hF_ hS
    obtain ⟨q0y, -⟩ := hF_
    replace q0y : Ep4 34 = .slice q0c g2.Ins.length c_g2_2 := Eq.mp (by kernel_rfl) q0y
    replace hS : St w0 w (ro ρ :: l') := Eq.mp (by kernel_rfl) hS
    have hcall := c_slices_Clone_int_int q1x q1r hS
    refine o_cc call_109 (args1 q0y) hcall ?_
    rintro e w' ⟨q1f, q1w, c_y0_ret_4_11, q2, rfl, q0d, hS⟩
    refine ⟨_, rfl, ?_⟩
    have e_ := St.vec_n hS q0d; subst e_
    refine x_done <| ?_
    refine x_fin ⟨⟨_, rfl⟩, rfl, ?_⟩
    replace hS := St.bun (Φ := (fun (q2 : List Value) => RepL (RpI .i64) ρ q3 q2)) (L := (fun (q2 : List Value) => [vec 3 (RpI .i64).sz (.slice q1f q3.length c_y0_ret_4_11) q3.length q2])) q2 q0d hS
    exact Eq.mp (by kernel_rfl) (hS.pull 1)
   ·intro Ep4 w l' hE4 hO4 hF_ hS
    obtain ⟨q1b, q1c, q0e, -⟩ := hF_
    replace q1b : Ep4 30 = .int .i64 g2.Cell := Eq.mp (by kernel_rfl) q1b
    replace q1c : Ep4 32 = .int .u64 g2.Table := Eq.mp (by kernel_rfl) q1c
    replace q0e : Ep4 35 = .slice (adOf (Ep4 35)) q3.length (capOf (Ep4 35)) := Eq.mp (by kernel_rfl) q0e
    refine p (v := .agg #[.int .i64 g2.Cell, .int .u64 g2.Table, .slice (adOf (Ep4 35)) q3.length (capOf (Ep4 35))]) (yl_build bld_38 bldf_38 (parts_eq (pt (va := .int .i64 g2.Cell) q1b (pt (va := .int .u64 g2.Table) q1c (pt (va := .slice (adOf (Ep4 35)) q3.length (capOf (Ep4 35))) q0e pt0)))) (by kernel_rfl)) <| x_done <| ?_
    refine x_fin ⟨⟨_, rfl⟩, rfl, ?_⟩
    exact Eq.mp (by kernel_rfl) hS
   ·intro Ep4 w l' hE4 hO4 hF_ hS
    obtain ⟨q0e, q0z, -⟩ := hF_
    replace q0e : Ep4 35 = .slice (adOf (Ep4 35)) q3.length (capOf (Ep4 35)) := Eq.mp (by kernel_rfl) q0e
    replace q0z : Ep4 36 = .agg #[.int .i64 g2.Cell, .int .u64 g2.Table, .slice (adOf (Ep4 35)) q3.length (capOf (Ep4 35))] := Eq.mp (by kernel_rfl) q0z
    replace hS : St w0 w (ro ρ :: bunA (fun (q2 : List Value) => RepL (RpI .i64) ρ q3 q2) (fun (q2 : List Value) => [vec 3 (RpI .i64).sz (.slice (adOf (Ep4 35)) q3.length (capOf (Ep4 35))) q3.length q2]) :: l') := Eq.mp (by kernel_rfl) hS
    have q_ := St.unbun (hS.pull 1); obtain ⟨q2, q0d, hS⟩ := q_
    have q_ := St.vec_fz ((hS.pull 1).pull 1) q0d; obtain ⟨q5, q1i, q0s, hS⟩ := q_
    refine o_buildSlice (vs := [.agg #[.int .i64 g2.Cell, .int .u64 g2.Table, .slice (adOf (Ep4 35)) q3.length (capOf (Ep4 35))]]) (cs := [.int .i64 g2.Cell, .int .u64 g2.Table, .slice (adOf (Ep4 35)) q3.length (capOf (Ep4 35))]) sl_28 zero_38 (parts_eq (pt (va := .agg #[.int .i64 g2.Cell, .int .u64 g2.Table, .slice (adOf (Ep4 35)) q3.length (capOf (Ep4 35))]) q0z pt0)) rfl (by intro v hv; simp only [List.mem_cons, List.not_mem_nil, or_false] at hv; first | (subst hv; rfl) | (rcases hv with rfl <;> rfl)) (by decide) rfl hS (fun b37 w' hS => ?_)
    refine x_done <| ?_
    refine x_fin ⟨⟨_, rfl⟩, rfl, ?_⟩
    replace hS := St.ro_split q1i (hS.pull 1)
    replace hS := St.bun (Φ := (fun (q5 : Heap) => Le ρ q5 ∧ RdS (RpI .i64) q5 (adOf (Ep4 35)) q3.length (capOf (Ep4 35)) q3)) (L := (fun (q5 : Heap) => [roD ρ q5])) q5 ⟨q1i, q0s⟩ (hS.pull 1)
    exact Eq.mp (by kernel_rfl) ((hS.pull 2).pull 2)
   ·intro Ep4 w l' hE4 hO4 hF_ hS
    obtain ⟨q1d, q0e, q10, -⟩ := hF_
    replace q1d : Ep4 28 = .slice (adOf (Ep4 28)) q0j.length (capOf (Ep4 28)) := Eq.mp (by kernel_rfl) q1d
    replace q0e : Ep4 35 = .slice (adOf (Ep4 35)) q3.length (capOf (Ep4 35)) := Eq.mp (by kernel_rfl) q0e
    replace q10 : Ep4 37 = .slice (some ⟨(blkOf (Ep4 37)), 0, none⟩) 1 1 := Eq.mp (by kernel_rfl) q10
    replace hS : St w0 w (cells (blkOf (Ep4 37)) 38 [.int .i64 g2.Cell, .int .u64 g2.Table, .slice (adOf (Ep4 35)) q3.length (capOf (Ep4 35))] :: ro ρ :: bunA (fun (q5 : Heap) => Le ρ q5 ∧ RdS (RpI .i64) q5 (adOf (Ep4 35)) q3.length (capOf (Ep4 35)) q3) (fun (q5 : Heap) => [roD ρ q5]) :: bunA (fun (q4 : List Value) => RepL R_api_Gate ρ q0j q4) (fun (q4 : List Value) => [vec 38 R_api_Gate.sz (.slice (adOf (Ep4 28)) q0j.length (capOf (Ep4 28))) q0j.length q4]) :: l') := Eq.mp (by kernel_rfl) hS
    have q_ := St.unbun (hS.pull 2); obtain ⟨q5, ⟨q0p, q0s⟩, hS⟩ := q_
    have q_ := St.ro_join (hS.pull 2) (Le.refl _) q0p; obtain ⟨q1j, q0t, q1e, hS, q22⟩ := q_
    have q_ := St.unbun (hS.pull 2); obtain ⟨q4, q0h, hS⟩ := q_
    refine o_ap sl_28 zero_38 rfl (by decide) q1d q10 hS (q0h.le q0t) (src_blk usl_28 (hS.pull 2) rfl rfl) (RepL.cons (R := R_api_Gate) (ρ := q1j) (x := (T_api_Gate.mk g2.Cell g2.Table q3)) (cs := [.int .i64 g2.Cell, .int .u64 g2.Table, .slice (adOf (Ep4 35)) q3.length (capOf (Ep4 35))]) ⟨_, _, _, rfl, (q0s.le q1e)⟩ RepL.nil) q1y q1z (fun A38 c38 cs38 w' hr38 hS => ?_)
    refine x_done <| ?_
    refine x_fin ⟨⟨_, rfl⟩, rfl, ?_⟩
    replace hS := St.ro_split q0t (hS.pull 1)
    replace hS := St.bun (Φ := (fun (x : (Heap × List Value)) => Le ρ x.1 ∧ RdS (RpI .i64) x.1 (adOf (Ep4 35)) q3.length (capOf (Ep4 35)) q3 ∧ RepL R_api_Gate x.1 q0b x.2)) (L := (fun (x : (Heap × List Value)) => [vec 38 R_api_Gate.sz (.slice A38 q0b.length c38) q0b.length x.2, roD ρ x.1])) (q1j, cs38) ⟨q0t, (q0s.le q1e), hr38⟩ ((hS.pull 1).pull 2)
    exact Eq.mp (by kernel_rfl) ((hS.pull 1).pull 2)
   ·intro Ep4 w l' hE4 hO4 hF_ hS
    refine p (yl_field0 fld_30_3 (hE4 7 rfl)) <| x_done <| ?_
    refine x_fin ⟨⟨_, rfl⟩, rfl, ?_⟩
    exact Eq.mp (by kernel_rfl) hS
   ·intro Ep4 w l' hE4 hO4 hF_ hS
    obtain ⟨q11, q12, -⟩ := hF_
    replace q11 : Ep4 38 = .slice (adOf (Ep4 38)) q0b.length (capOf (Ep4 38)) := Eq.mp (by kernel_rfl) q11
    replace q12 : Ep4 39 = .pointer (some ⟨b7, 3, none⟩) := Eq.mp (by kernel_rfl) q12
    replace hS : St w0 w (cells b7 30 [.slice q6 n0.In.length c_n0_0, .slice q7 n0.Out.length c_n0_1, .slice q8 n0.Flops.length c_n0_2, .slice q9 n0.Gates.length c_n0_3, .slice q0a n0.Outs.length c_n0_4] :: l') := Eq.mp (by kernel_rfl) hS
    refine o_store1 (v := .slice (adOf (Ep4 38)) q0b.length (capOf (Ep4 38))) one_28 q12 q11 rfl rfl hS (fun w' hS => ?_)
    refine x_done <| ?_
    refine x_fin ⟨⟨undef, rfl⟩, trivial, ?_⟩
    exact Eq.mp (by kernel_rfl) hS
  intro Ep4 w' hE4 hF_ hS
  obtain ⟨q14, q15, q16, q17, q1d, q18, q1b, q19, q1c, q1a, q0y, q0e, q0z, q10, q11, q12, -⟩ := hF_
  replace q14 : Ep4 24 = .pointer (some ⟨q0f, 0, none⟩) := Eq.mp (by kernel_rfl) q14
  replace q15 : Ep4 25 = .pointer (some ⟨q0f, 0, none⟩) := Eq.mp (by kernel_rfl) q15
  replace q16 : Ep4 26 = .pointer (some ⟨q0f, 3, none⟩) := Eq.mp (by kernel_rfl) q16
  replace q17 : Ep4 27 = .slice q9 n0.Gates.length c_n0_3 := Eq.mp (by kernel_rfl) q17
  replace q1d : Ep4 28 = .slice (adOf (Ep4 28)) q0j.length (capOf (Ep4 28)) := Eq.mp (by kernel_rfl) q1d
  replace q18 : Ep4 29 = .pointer (some ⟨b5, 0, none⟩) := Eq.mp (by kernel_rfl) q18
  replace q1b : Ep4 30 = .int .i64 g2.Cell := Eq.mp (by kernel_rfl) q1b
  replace q19 : Ep4 31 = .pointer (some ⟨b5, 1, none⟩) := Eq.mp (by kernel_rfl) q19
  replace q1c : Ep4 32 = .int .u64 g2.Table := Eq.mp (by kernel_rfl) q1c
  replace q1a : Ep4 33 = .pointer (some ⟨b5, 2, none⟩) := Eq.mp (by kernel_rfl) q1a
  replace q0y : Ep4 34 = .slice q0c g2.Ins.length c_g2_2 := Eq.mp (by kernel_rfl) q0y
  replace q0e : Ep4 35 = .slice (adOf (Ep4 35)) q3.length (capOf (Ep4 35)) := Eq.mp (by kernel_rfl) q0e
  replace q0z : Ep4 36 = .agg #[.int .i64 g2.Cell, .int .u64 g2.Table, .slice (adOf (Ep4 35)) q3.length (capOf (Ep4 35))] := Eq.mp (by kernel_rfl) q0z
  replace q10 : Ep4 37 = .slice (some ⟨(blkOf (Ep4 37)), 0, none⟩) 1 1 := Eq.mp (by kernel_rfl) q10
  replace q11 : Ep4 38 = .slice (adOf (Ep4 38)) q0b.length (capOf (Ep4 38)) := Eq.mp (by kernel_rfl) q11
  replace q12 : Ep4 39 = .pointer (some ⟨b7, 3, none⟩) := Eq.mp (by kernel_rfl) q12
  replace hS : St w0 w' (cells q0f 30 [.slice q6 n0.In.length c_n0_0, .slice q7 n0.Out.length c_n0_1, .slice q8 n0.Flops.length c_n0_2, .slice q9 n0.Gates.length c_n0_3, .slice q0a n0.Outs.length c_n0_4] :: vec 38 R_api_Gate.sz (.slice q9 n0.Gates.length c_n0_3) n0.Gates.length q0i :: ro ρ :: cells b5 38 [.int .i64 g2.Cell, .int .u64 g2.Table, .slice q0c g2.Ins.length c_g2_2] :: cells (blkOf (Ep4 37)) 38 [.int .i64 g2.Cell, .int .u64 g2.Table, .slice (adOf (Ep4 35)) q3.length (capOf (Ep4 35))] :: bunA (fun (x : (Heap × List Value)) => Le ρ x.1 ∧ RdS (RpI .i64) x.1 (adOf (Ep4 35)) q3.length (capOf (Ep4 35)) q3 ∧ RepL R_api_Gate x.1 q0b x.2) (fun (x : (Heap × List Value)) => [vec 38 R_api_Gate.sz (.slice (adOf (Ep4 38)) q0b.length (capOf (Ep4 38))) q0b.length x.2, roD ρ x.1]) :: cells b7 30 [.slice q6 n0.In.length c_n0_0, .slice q7 n0.Out.length c_n0_1, .slice q8 n0.Flops.length c_n0_2, .slice (adOf (Ep4 38)) q0b.length (capOf (Ep4 38)), .slice q0a n0.Outs.length c_n0_4] :: (vec 9 RpS.sz (.slice q6 n0.In.length c_n0_0) n0.In.length q0u :: vec 9 RpS.sz (.slice q7 n0.Out.length c_n0_1) n0.Out.length q0v :: vec 135 R_api_Flop.sz (.slice q8 n0.Flops.length c_n0_2) n0.Flops.length q0w :: vec 3 (RpI .i64).sz (.slice q0a n0.Outs.length c_n0_4) n0.Outs.length q0x :: l)) := Eq.mp (by kernel_rfl) hS
  have q_ := St.unbun (hS.pull 5); obtain ⟨⟨q5, cs38⟩, ⟨q0p, q0s, hr38⟩, hS⟩ := q_
  have q_ := St.ro_join ((hS.pull 1).pull 4) (Le.refl _) q0p; obtain ⟨q1s, q0g, q1l, hS, q24⟩ := q_
  replace hF := bd_s hF; obtain ⟨q1k, q23, hF⟩ := hF
  refine x_seq <| x_seq <| x_region <| pa (v := .agg #[.slice q6 n0.In.length c_n0_0, .slice q7 n0.Out.length c_n0_1, .slice q8 n0.Flops.length c_n0_2, .slice (adOf (Ep4 38)) q0b.length (capOf (Ep4 38)), .slice q0a n0.Outs.length c_n0_4]) (ld_sub agg_30 (hE4 7 rfl) rfl rfl (hS.pull 6)) <|
   p (yl_move (hE4 1 rfl)) <| ?_
  have q_ := St.lend (hS.pull 7) (q1n.le q0g); obtain ⟨ρl0, hll0, hlf0, hS0, back0⟩ := q_
  have q_ := St.lend (hS0.pull 7) (q1o.le (q0g.trans hll0)); obtain ⟨ρl1, hll1, hlf1, hS1, back1⟩ := q_
  have q_ := St.lend (hS1.pull 7) (q1p.le (q0g.trans (hll0.trans hll1))); obtain ⟨ρl2, hll2, hlf2, hS2, back2⟩ := q_
  have q_ := St.lend (hS2.pull 1) (hr38.le (q1l.trans ((hll0.trans hll1).trans hll2))); obtain ⟨ρl3, hll3, hlf3, hS3, back3⟩ := q_
  have q_ := St.lend (hS3.pull 6) (q1q.le (q0g.trans (((hll0.trans hll1).trans hll2).trans hll3))); obtain ⟨ρl4, hll4, hlf4, hS4, back4⟩ := q_
  have hcall := c_floor_CheckChip q23 (hlf0.le (((hll1.trans hll2).trans hll3).trans hll4)) (hlf1.le ((hll2.trans hll3).trans hll4)) (hlf2.le (hll3.trans hll4)) (hlf3.le hll4) hlf4 ((q1v.le q0g).le ((((hll0.trans hll1).trans hll2).trans hll3).trans hll4)) hS4
  refine o_cc call_49 (args2 rfl rfl) ((Calls.mono hcall (fun e w'' h => And.intro h.1 ((((((((((((back0 ((back1 ((back2 ((back3 ((back4 h.2).pull 1)).pull 1)).pull 1)).pull 1)).pull 5).pull 4).pull 4).pull 3).pull 10).pull 10).pull 10).pull 10).pull 10).pull 10).pull 10)))) ?_
  rintro e w' ⟨rfl, hS⟩
  refine ⟨_, rfl, ?_⟩
  refine p (v := .int .i64 q1k) (yl_assign rfl) <| x_done <| x_seq <| x_region <|
   p (v := .int .i64 q1k) (yl_move rfl) <| p (yl_neq rfl rfl) <| x_done <|
   x_cond_p (q1k ≠ 0) rfl (fun hc44 => ?_) (fun hc44 => ?_)
  ·replace hF := it_t hc44 hF
   refine x_seq <| x_region <| p (v := .int .i64 q1k) (yl_move rfl) <| p (v := .int .i64 q1k) (yl_assign rfl) <|
    x_done <| ?_
   have e_ := Option.some.inj (show some _ = some _ from hF); subst e_
   exact x_return ⟨_, ⟨_, _, rfl, rfl, rfl⟩, q1s, q9, n0.Gates.length, c_n0_3, q0i, rfl, q0g, (q13.le q0g), ((((((((((hS.pull 1).drop.pull 3).drop.pull 3).drop.pull 3).drop.pull 6).pull 3).pull 6).pull 6).pull 6).pull 6)⟩
  ·replace hF := it_f hc44 hF
   refine x_skip <| x_seq <| x_region <| p (yl_move (hE4 0 rfl)) <|
    pa (v := .agg #[.slice q6 n0.In.length c_n0_0, .slice q7 n0.Out.length c_n0_1, .slice q8 n0.Flops.length c_n0_2, .slice (adOf (Ep4 38)) q0b.length (capOf (Ep4 38)), .slice q0a n0.Outs.length c_n0_4]) (ld_sub agg_30 (hE4 7 rfl) rfl rfl (hS.pull 6)) <| p (yl_nilCheck rfl) <| ?_
   refine o_storeAgg (news := [.slice q6 n0.In.length c_n0_0, .slice q7 n0.Out.length c_n0_1, .slice q8 n0.Flops.length c_n0_2, .slice (adOf (Ep4 38)) q0b.length (capOf (Ep4 38)), .slice q0a n0.Outs.length c_n0_4]) agg_30 rfl rfl rfl (by simp [over_length]) (hS.pull 2) (fun w' hS => ?_)
   refine x_done <| x_seq <| x_region <| p (yl_assign rfl) <|
    x_done <| ?_
   have e_ := Option.some.inj (show some _ = some _ from hF); subst e_
   exact x_return ⟨_, ⟨_, _, rfl, rfl, rfl⟩, q1s, (adOf (Ep4 38)), q0b.length, (capOf (Ep4 38)), cs38, rfl, q0g, (hr38.le q1l), (((((((((((hS.pull 3).drop.pull 3).drop.pull 3).drop.pull 3).drop.pull 1).pull 6).pull 3).pull 6).pull 6).pull 6).pull 6)⟩
attribute [irreducible] P_eco_add


end Go.Proofs.YtlolchgeedegdaaDoor.X
