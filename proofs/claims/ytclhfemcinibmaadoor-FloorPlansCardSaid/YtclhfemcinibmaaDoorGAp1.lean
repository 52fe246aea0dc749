/- Printed by gen.py: plain functions, and that the Go code computes them. -/
import Derived.Test.YtclhfemcinibmaaDoorYJ
import Derived.Test.YtclhfemcinibmaaDoorXT
import Derived.Test.YtclhfemcinibmaaDoorXI
import Derived.Test.YtclhfemcinibmaaDoorGAp0
namespace Go.Proofs.YtclhfemcinibmaaDoor.X
open Go Go.RowKit
set_option linter.unusedVariables false
set_option linter.unusedSimpArgs false

def P_lib_CheckCell_L19 (c0 : T_api_Cell) : Int → Option (Int ⊕ (Unit ⊕ Int)) := fun y137_L19h =>
  if y137_L19h < (c0.Min.length : Int) then
    ck (inb y137_L19h c0.Min.length) <|
    lv (gt c0.Min y137_L19h) fun x144 =>
    ck (inb y137_L19h c0.Max.length) <|
    lv (gt c0.Max y137_L19h) fun x149 =>
    if x149 < x144 then
      some (Sum.inr (Sum.inr (5 : Int)))
    else
      ar (y137_L19h + 1) fun x151 =>
      some (Sum.inl x151)
  else
    some (Sum.inr (Sum.inl ()))
def P_lib_CheckCell (c0 : T_api_Cell) : Option Int :=
  bd (P_lib_Name c0.Name) fun r1_2 =>
  if (!r1_2) = true then
    some (9 : Int)
  else
    bd (
      if c0.Flop = true then
        ar (c0.Ins + 1) fun x19 =>
        some ((1 : Int), x19, (1 : Int))
      else
        some ((0 : Int), c0.Ins, c0.Ins)) fun (low3_c16, caps4_c16, ends5_c16) =>
    lv ((decide (c0.Ins < low3_c16)) || (decide (6 < c0.Ins))) fun x29 =>
    lv (c0.Flop && (decide (2 < c0.Ins))) fun x37 =>
    lv (x29 || x37) fun x38 =>
    if x38 = true then
      some (2 : Int)
    else
      lv ((decide ((c0.Cap.length : Int) ≠ caps4_c16)) || (decide ((c0.Min.length : Int) ≠ ends5_c16))) fun x51 =>
      lv (x51 || (decide ((c0.Max.length : Int) ≠ ends5_c16))) fun x58 =>
      if x58 = true then
        some (4 : Int)
      else
        lv (c0.Flop && (decide (c0.Table ≠ 0))) fun x66 =>
        bd (gd (!x66) (P_netlist_Mask c0.Ins)) fun r10_12 =>
        lv (bAndNot .u64 c0.Table r10_12) fun x73 =>
        lv (x66 || (decide (x73 ≠ 0))) fun x75 =>
        if x75 = true then
          some (4 : Int)
        else
          bd (P_lib_in 64 ([c0.Area] : List Int)) fun r12_3 =>
          lv ((!r12_3) || (decide (c0.Area = 0))) fun x86 =>
          bd (
            if x86 = true then
              some true
            else
              bd (P_lib_in 1000 c0.Cap) fun r12_13 =>
              bd (
                if r12_13 = true then
                  bd (P_lib_in 1000 ([c0.Drive] : List Int)) fun r12_20 =>
                  some (!r12_20)
                else
                  some true) fun y76_g12_19 =>
              some y76_g12_19) fun y76_g12_13 =>
          if y76_g12_13 = true then
            some (2 : Int)
          else
            bd (P_lib_in 10000 c0.Min) fun r14_2 =>
            bd (
              if r14_2 = true then
                bd (P_lib_in 10000 c0.Max) fun r14_7 =>
                bd (
                  if r14_7 = true then
                    bd (P_lib_in 10000 ([c0.Setup, c0.Hold] : List Int)) fun r14_16 =>
                    some (!r14_16)
                  else
                    some true) fun y100_g14_15 =>
                some y100_g14_15
              else
                some true) fun y100_g14_7 =>
            if y100_g14_7 = true then
              some (2 : Int)
            else
              lv ((decide (c0.Setup ≠ 0)) || (decide (c0.Hold ≠ 0))) fun x132 =>
              lv ((!c0.Flop) && x132) fun x133 =>
              if x133 = true then
                some (4 : Int)
              else
                bs (
                  lp (P_lib_CheckCell_L19 c0) fuel 0) (fun y => some y) fun _ =>
                some (0 : Int)
set_option maxHeartbeats 4000000 in
set_option maxRecDepth 100000 in
theorem c_lib_CheckCell {w0 w : World} {l : List Assn} {ρ : Heap} {A_c0_5 : Option Addr} {n_c0_5 : Nat} {c_c0_5 : Nat} {A_c0_6 : Option Addr} {n_c0_6 : Nat} {c_c0_6 : Nat} {A_c0_7 : Option Addr} {n_c0_7 : Nat} {c_c0_7 : Nat} {c0 : T_api_Cell} {r : Int} (hF : P_lib_CheckCell c0 = some r) (h_c0_5 : RdS (RpI .i64) ρ A_c0_5 n_c0_5 c_c0_5 c0.Cap) (h_c0_6 : RdS (RpI .i64) ρ A_c0_6 n_c0_6 c_c0_6 c0.Min) (h_c0_7 : RdS (RpI .i64) ρ A_c0_7 n_c0_7 c_c0_7 c0.Max) (hS : St w0 w (ro ρ :: l)) :
    Calls Tryd.prog 202 #[.agg #[.string c0.Name, .bool c0.Flop, .int .i64 c0.Ins, .int .u64 c0.Table, .int .i64 c0.Area, .slice A_c0_5 n_c0_5 c_c0_5, .slice A_c0_6 n_c0_6 c_c0_6, .slice A_c0_7 n_c0_7 c_c0_7, .int .i64 c0.Drive, .int .i64 c0.Setup, .int .i64 c0.Hold]] w fun e w' => e = .returned (.int .i64 r) ∧ St w0 w' (ro ρ :: l) := by
  have e_ := h_c0_5.n; subst e_
  have e_ := h_c0_6.n; subst e_
  have e_ := h_c0_7.n; subst e_
  refine enterC Tryd.func202 rfl 152 rfl (by simp) ?_
  refine x_seq <| x_region <|
    ?_
  refine o_box (cs := [.string c0.Name, .bool c0.Flop, .int .i64 c0.Ins, .int .u64 c0.Table, .int .i64 c0.Area, .slice A_c0_5 c0.Cap.length c_c0_5, .slice A_c0_6 c0.Min.length c_c0_6, .slice A_c0_7 c0.Max.length c_c0_7, .int .i64 c0.Drive, .int .i64 c0.Setup, .int .i64 c0.Hold]) rfl rfl hS (fun b1 w' hS => ?_)
  replace hF := bd_s hF; obtain ⟨r1_2, hc1_2, hF⟩ := hF
  refine p (yl_assign rfl) <| x_done <| x_seq <| x_seq <|
    x_region <| p (yl_field0 fld_61_0 rfl) <| pa (at_load one_9 rfl (hS.cell rfl)) <|
    ?_
  have hcall := c_lib_Name hc1_2  (hS.pull 1)
  refine o_cc call_228 (args1 rfl) ((Calls.mono hcall (fun e w'' h => And.intro h.1 (h.2.pull 1)))) ?_
  rintro e w' ⟨rfl, hS⟩
  refine ⟨_, rfl, ?_⟩
  refine p (yl_not rfl) <| x_done <|
    x_cond (t := !r1_2) rfl (fun hc10 => ?_) (fun hc10 => ?_)
  · replace hF := it_t hc10 hF
    refine x_seq <| x_region <| p (yl_assign rfl) <| x_done <|
      ?_
    have e_ := Option.some.inj (show some _ = some _ from hF); subst e_
    exact x_return ⟨_, ⟨_, _, rfl, rfl, rfl⟩, rfl, hS.drop⟩
  · replace hF := it_bf hc10 hF
    refine x_skip <| x_seq <| x_still mixed (by kernel_rfl) hS <| q (yl_field0 fld_61_2 rfl) <|
      qa (fun w' hS => at_load one_3 rfl (hS.cell rfl)) <| q (yl_field0 fld_61_2 rfl) <| qa (fun w' hS => at_load one_3 rfl (hS.cell rfl)) <| q (yl_assign rfl) <|
      q (yl_assign rfl) <| q (yl_assign rfl) <|
      q_done fun w' hS => ?_
    refine x_seq <| x_seq <| x_region <| p (yl_field0 fld_61_1 rfl) <|
      pa (at_load one_4 rfl (hS.cell rfl)) <| x_done <|
      ?_
    replace hF := bd_s hF; obtain ⟨oc16, hFc16, hF⟩ := hF
    refine x_join (fun E w => ∃ (low3_c16 : Int) (caps4_c16 : Int) (ends5_c16 : Int), (low3_c16, caps4_c16, ends5_c16) = oc16 ∧ E 1 = .pointer (some ⟨b1, 0, none⟩) ∧ E 3 = .int .i64 low3_c16 ∧ E 4 = .int .i64 caps4_c16 ∧ E 5 = .int .i64 ends5_c16 ∧ St w0 w (cells b1 61 [.string c0.Name, .bool c0.Flop, .int .i64 c0.Ins, .int .u64 c0.Table, .int .i64 c0.Area, .slice A_c0_5 c0.Cap.length c_c0_5, .slice A_c0_6 c0.Min.length c_c0_6, .slice A_c0_7 c0.Max.length c_c0_7, .int .i64 c0.Drive, .int .i64 c0.Setup, .int .i64 c0.Hold] :: ro ρ :: l)) ?_ ?_
    · skip -- c16
      refine x_cond (t := c0.Flop) rfl (fun hc16 => ?_) (fun hc16 => ?_)
      · replace hFc16 := it_t hc16 hFc16
        replace hFc16 := ar_s hFc16; obtain ⟨x19, hx19, hFc16⟩ := hFc16
        refine x_still mixed (by kernel_rfl) hS <| q (yl_field0 fld_61_2 rfl) <| qa (fun w' hS => at_load one_3 rfl (hS.cell rfl)) <| q (yadd rfl rfl hx19) <|
          q (yl_assign rfl) <| q (yl_assign rfl) <| q (yl_assign rfl) <|
          q_done fun w' hS => ?_
        exact x_inv ⟨1, x19, 1, (Option.some.inj (show some _ = some _ from hFc16)), rfl, rfl, rfl, rfl, ((hS.pull 1).pull 1)⟩
      · replace hFc16 := it_bf hc16 hFc16
        refine x_skip <|
          ?_
        exact x_inv ⟨0, c0.Ins, c0.Ins, (Option.some.inj (show some _ = some _ from hFc16)), rfl, rfl, rfl, rfl, ((hS.pull 1).pull 1)⟩
    rintro E w ⟨low3_c16, caps4_c16, ends5_c16, rfl, ec16_1, ec16_3, ec16_4, ec16_5, hS⟩
    replace hF := lv_s hF; obtain ⟨x29, hx29, hF⟩ := hF
    replace hF := lv_s hF; obtain ⟨x37, hx37, hF⟩ := hF
    replace hF := lv_s hF; obtain ⟨x38, hx38, hF⟩ := hF
    refine x_seq <| x_block <| x_seq <| x_region <|
      p (yl_field0 fld_61_2 ec16_1) <| pa (at_load one_3 rfl (hS.cell rfl)) <| p (yl_move ec16_3) <| p (yl_lss rfl rfl) <|
      p (yl_move rfl) <| pg (v := .pointer (some ⟨b1, 2, none⟩)) 25 (c := !(decide (c0.Ins < low3_c16))) (says_f _) (fun hq => Yl.at (yl_field0 fld_61_2 ec16_1)) <| pg (v := .int .i64 c0.Ins) 25 (c := !(decide (c0.Ins < low3_c16))) (says_f _) (fun hq => at_load one_3 (cv hq) (hS.cell rfl)) <| pg (v := .bool (decide (6 < c0.Ins))) 25 (c := !(decide (c0.Ins < low3_c16))) (says_f _) (fun hq => Yl.at (yl_gtr (cv hq) rfl)) <|
      p (yor' rfl rfl (fun hc => (cv (t_not hc))) hx29) <| p (yl_move rfl) <| pg (v := .pointer (some ⟨b1, 1, none⟩)) 30 (c := !x29) (says_f _) (fun hq => Yl.at (yl_field0 fld_61_1 ec16_1)) <| pg (v := .bool c0.Flop) 30 (c := !x29) (says_f _) (fun hq => at_load one_4 (cv hq) (hS.cell rfl)) <|
      pg (v := .bool c0.Flop) 30 (c := !x29) (says_f _) (fun hq => Yl.at (yl_move (cv hq))) <| pg (v := .pointer (some ⟨b1, 2, none⟩)) 33 (c := (!x29) && c0.Flop) (says_ift _ _) (fun hq => Yl.at (yl_field0 fld_61_2 ec16_1)) <| pg (v := .int .i64 c0.Ins) 33 (c := (!x29) && c0.Flop) (says_ift _ _) (fun hq => at_load one_3 (cv hq) (hS.cell rfl)) <| pg (v := .bool (decide (2 < c0.Ins))) 33 (c := (!x29) && c0.Flop) (says_ift _ _) (fun hq => Yl.at (yl_gtr (cv hq) rfl)) <|
      pg (v := .bool x37) 30 (c := !x29) (says_f _) (fun hq => Yl.at (yand' (cv hq) (fun hc => (cv (and_i hq hc))) rfl hx37)) <| p (yor' rfl rfl (fun hc => (cv (t_not hc))) hx38) <| p (yl_assign rfl) <| x_done <|
      x_cond (t := x38) rfl (fun hc20 => ?_) (fun hc20 => ?_)
    · replace hF := it_t hc20 hF
      refine x_seq <| x_region <| p (yl_assign rfl) <| x_done <|
        ?_
      have e_ := Option.some.inj (show some _ = some _ from hF); subst e_
      exact x_return ⟨_, ⟨_, _, rfl, rfl, rfl⟩, rfl, hS.drop⟩
    · replace hF := it_bf hc20 hF
      replace hF := lv_s hF; obtain ⟨x51, hx51, hF⟩ := hF
      replace hF := lv_s hF; obtain ⟨x58, hx58, hF⟩ := hF
      refine x_seq <| x_region <| p (yl_field0 fld_61_5 ec16_1) <| pa (at_load one_22 rfl (hS.cell rfl)) <|
        p (yl_len_slice usl_22 rfl) <| p (yl_move ec16_4) <| p (yl_neq rfl rfl) <| p (yl_move rfl) <|
        pg (v := .pointer (some ⟨b1, 6, none⟩)) 45 (c := !(decide ((c0.Cap.length : Int) ≠ caps4_c16))) (says_f _) (fun hq => Yl.at (yl_field0 fld_61_6 ec16_1)) <| pg (v := .slice A_c0_6 c0.Min.length c_c0_6) 45 (c := !(decide ((c0.Cap.length : Int) ≠ caps4_c16))) (says_f _) (fun hq => at_load one_22 (cv hq) (hS.cell rfl)) <| pg (v := .int .i64 (c0.Min.length : Int)) 45 (c := !(decide ((c0.Cap.length : Int) ≠ caps4_c16))) (says_f _) (fun hq => Yl.at (yl_len_slice usl_22 (cv hq))) <| pg (v := .int .i64 ends5_c16) 45 (c := !(decide ((c0.Cap.length : Int) ≠ caps4_c16))) (says_f _) (fun hq => Yl.at (yl_move ec16_5)) <|
        pg (v := .bool (decide ((c0.Min.length : Int) ≠ ends5_c16))) 45 (c := !(decide ((c0.Cap.length : Int) ≠ caps4_c16))) (says_f _) (fun hq => Yl.at (yl_neq (cv hq) (cv hq))) <| p (yor' rfl rfl (fun hc => (cv (t_not hc))) hx51) <| p (yl_move rfl) <| pg (v := .pointer (some ⟨b1, 7, none⟩)) 52 (c := !x51) (says_f _) (fun hq => Yl.at (yl_field0 fld_61_7 ec16_1)) <|
        pg (v := .slice A_c0_7 c0.Max.length c_c0_7) 52 (c := !x51) (says_f _) (fun hq => at_load one_22 (cv hq) (hS.cell rfl)) <| pg (v := .int .i64 (c0.Max.length : Int)) 52 (c := !x51) (says_f _) (fun hq => Yl.at (yl_len_slice usl_22 (cv hq))) <| pg (v := .int .i64 ends5_c16) 52 (c := !x51) (says_f _) (fun hq => Yl.at (yl_move ec16_5)) <| pg (v := .bool (decide ((c0.Max.length : Int) ≠ ends5_c16))) 52 (c := !x51) (says_f _) (fun hq => Yl.at (yl_neq (cv hq) (cv hq))) <|
        p (yor' rfl rfl (fun hc => (cv (t_not hc))) hx58) <| p (yl_assign rfl) <| x_done <|
        x_cond (t := x58) rfl (fun hc39 => ?_) (fun hc39 => ?_)
      · replace hF := it_t hc39 hF
        refine x_seq <| x_region <| p (yl_assign rfl) <| x_done <|
          ?_
        have e_ := Option.some.inj (show some _ = some _ from hF); subst e_
        exact x_return ⟨_, ⟨_, _, rfl, rfl, rfl⟩, rfl, hS.drop⟩
      · replace hF := it_bf hc39 hF
        replace hF := lv_s hF; obtain ⟨x66, hx66, hF⟩ := hF
        replace hF := bd_s hF; obtain ⟨r10_12, hc10_12, hF⟩ := hF
        replace hF := lv_s hF; obtain ⟨x73, hx73, hF⟩ := hF
        replace hF := lv_s hF; obtain ⟨x75, hx75, hF⟩ := hF
        refine x_seq <| x_still mixed (by kernel_rfl) hS <| q (yl_field0 fld_61_1 ec16_1) <| qa (fun w' hS => at_load one_4 rfl (hS.cell rfl)) <|
          q (yl_move rfl) <| qg (v := .pointer (some ⟨b1, 3, none⟩)) 62 (c := c0.Flop) (says_t _) (fun hq w' hS => Yl.at (yl_field0 fld_61_3 ec16_1)) <| qg (v := .int .u64 c0.Table) 62 (c := c0.Flop) (says_t _) (fun hq w' hS => at_load one_35 (cv hq) (hS.cell rfl)) <| qg (v := .bool (decide (c0.Table ≠ 0))) 62 (c := c0.Flop) (says_t _) (fun hq w' hS => Yl.at (yl_neq (cv hq) rfl)) <|
          q (yand' rfl (fun hc => (cv hc)) rfl hx66) <| q (yl_move rfl) <| qg (v := .pointer (some ⟨b1, 3, none⟩)) 67 (c := !x66) (says_f _) (fun hq w' hS => Yl.at (yl_field0 fld_61_3 ec16_1)) <| qg (v := .int .u64 c0.Table) 67 (c := !x66) (says_f _) (fun hq w' hS => at_load one_35 (cv hq) (hS.cell rfl)) <|
          qg (v := .pointer (some ⟨b1, 2, none⟩)) 67 (c := !x66) (says_f _) (fun hq w' hS => Yl.at (yl_field0 fld_61_2 ec16_1)) <| qg (v := .int .i64 c0.Ins) 67 (c := !x66) (says_f _) (fun hq w' hS => at_load one_3 (cv hq) (hS.cell rfl)) <| qccg (v := .int .u64 r10_12) 67 (c := !x66) (says_f _) call_206 (fun hq => (args1 (cv hq))) (fun hq w' hS => by
            have hcall := c_netlist_Mask (gd_t hc10_12 hq)  (hS.pull 1)
            exact (Calls.mono hcall (fun e w'' h => And.intro h.1 (h.2.pull 1)))) <| qg (v := .int .u64 x73) 67 (c := !x66) (says_f _) (fun hq w' hS => Yl.at (yandNot (cv hq) (cv hq) hx73)) <|
          qg (v := .bool (decide (x73 ≠ 0))) 67 (c := !x66) (says_f _) (fun hq w' hS => Yl.at (yl_neq (cv hq) rfl)) <| q (yor' rfl rfl (fun hc => (cv (t_not hc))) hx75) <| q (yl_assign rfl) <|
          q_done fun w' hS => ?_
        refine x_cond (t := x75) rfl (fun hc59 => ?_) (fun hc59 => ?_)
        · replace hF := it_t hc59 hF
          refine x_seq <| x_region <| p (yl_assign rfl) <| x_done <|
            ?_
          have e_ := Option.some.inj (show some _ = some _ from hF); subst e_
          exact x_return ⟨_, ⟨_, _, rfl, rfl, rfl⟩, rfl, hS.drop⟩
        · replace hF := it_bf hc59 hF
          refine x_seq <| x_region <| p (yl_field0 fld_61_4 ec16_1) <| pa (at_load one_3 rfl (hS.cell rfl)) <|
            ?_
          refine o_buildSlice (vs := [.int .i64 c0.Area]) (cs := [.int .i64 c0.Area]) sl_22 zero_3 (parts_eq (pt (va := .int .i64 c0.Area) rfl pt0)) rfl (by intro v hv; simp only [List.mem_cons, List.not_mem_nil, or_false] at hv; first | (subst hv; rfl) | (rcases hv with rfl <;> rfl)) (by decide) rfl hS (fun b79 w' hS => ?_)
          have hl12_3 : RepL (RpI .i64) ρ ([c0.Area] : List Int) [.int .i64 c0.Area] := (RepL.cons (cs := [.int .i64 c0.Area]) rfl RepL.nil)
          replace hS := St.vec_of (n := 1) (sz := (RpI .i64).sz) hS rfl (by decide)
          replace hF := bd_s hF; obtain ⟨r12_3, hc12_3, hF⟩ := hF
          have q_ := St.lend ((hS.pull 2).pull 1) hl12_3; obtain ⟨ρl0, hll0, hlf0, hS0, back0⟩ := q_
          have hcall := c_lib_in hc12_3 hlf0 hS0
          refine o_cc call_229 (args2 rfl rfl) ((Calls.mono hcall (fun e w'' h => And.intro h.1 ((((back0 h.2).pull 1).pull 2).pull 2)))) ?_
          rintro e w' ⟨rfl, hS⟩
          refine ⟨_, rfl, ?_⟩
          replace hF := lv_s hF; obtain ⟨x86, hx86, hF⟩ := hF
          refine p (yl_not rfl) <| p (yl_move rfl) <| pg (v := .pointer (some ⟨b1, 4, none⟩)) 82 (c := !(!r12_3)) (says_f _) (fun hq => Yl.at (yl_field0 fld_61_4 ec16_1)) <| pg (v := .int .i64 c0.Area) 82 (c := !(!r12_3)) (says_f _) (fun hq => at_load one_3 (cv hq) ((hS.pull 1).cell rfl)) <|
            pg (v := .bool (decide (c0.Area = 0))) 82 (c := !(!r12_3)) (says_f _) (fun hq => Yl.at (yl_eql (cv hq) rfl)) <| p (yor' rfl rfl (fun hc => (cv (t_not hc))) hx86) <| p (yl_move rfl) <| pg (v := .pointer (some ⟨b1, 5, none⟩)) 87 (c := !x86) (says_f _) (fun hq => Yl.at (yl_field0 fld_61_5 ec16_1)) <|
            pg (v := .slice A_c0_5 c0.Cap.length c_c0_5) 87 (c := !x86) (says_f _) (fun hq => at_load one_22 (cv hq) ((hS.pull 1).cell rfl)) <|
            ?_
          replace hF := bd_s hF; obtain ⟨og12_13, hFg12_13, hF⟩ := hF
          refine x_join_ops (fun E w => ∃ (y76_g12_13 : Bool), y76_g12_13 = og12_13 ∧ E 1 = .pointer (some ⟨b1, 0, none⟩) ∧ E 76 = .bool y76_g12_13 ∧ St w0 w (cells b1 61 [.string c0.Name, .bool c0.Flop, .int .i64 c0.Ins, .int .u64 c0.Table, .int .i64 c0.Area, .slice A_c0_5 c0.Cap.length c_c0_5, .slice A_c0_6 c0.Min.length c_c0_6, .slice A_c0_7 c0.Max.length c_c0_7, .int .i64 c0.Drive, .int .i64 c0.Setup, .int .i64 c0.Hold] :: ro ρ :: l)) ?_ ?_
          · skip -- g12_13
            refine x_split x86 (fun hg12_13 => ?_) (fun hg12_13 => ?_)
            · replace hFg12_13 := it_t hg12_13 hFg12_13
              refine o_pass 90 87 false (says_lit (c := true) (Eq.trans (show _ = Value.bool x86 from rfl) (congrArg Value.bool hg12_13)) rfl) <| o_pass 91 87 false (says_lit (c := true) (Eq.trans (show _ = Value.bool x86 from rfl) (congrArg Value.bool hg12_13)) rfl) <| p (yl_pick (b := true) (Eq.trans (show _ = Value.bool x86 from rfl) (congrArg Value.bool hg12_13)) (fun h => rfl) (fun h => nomatch h)) <| p (yl_move rfl) <|
                o_pass 94 93 false (says_lit (c := true) rfl rfl) <| o_pass 95 93 false (says_lit (c := true) rfl rfl) <| o_pass 96 93 false (says_lit (c := true) rfl rfl) <| o_pass 97 93 false (says_lit (c := true) rfl rfl) <|
                o_pass 98 93 false (says_lit (c := true) rfl rfl) <| p (yl_pick (b := true) rfl (fun h => rfl) (fun h => nomatch h)) <| p (yl_assign rfl) <| x_done <|
                ?_
              exact x_inv ⟨true, (Option.some.inj (show some _ = some _ from hFg12_13)), ec16_1, rfl, ((hS.drop.pull 1).pull 1)⟩
            · replace hFg12_13 := it_bf hg12_13 hFg12_13
              replace hFg12_13 := bd_s hFg12_13; obtain ⟨r12_13, hc12_13, hFg12_13⟩ := hFg12_13
              refine o_strip 87 false (says_lit (c := false) (Eq.trans (show _ = Value.bool x86 from rfl) (congrArg Value.bool hg12_13)) rfl) <|
                ?_
              have hcall := c_lib_in hc12_13 h_c0_5 (hS.pull 2)
              refine o_cc call_229 (args2 rfl (Eq.trans (show _ = (bif !x86 then .slice A_c0_5 c0.Cap.length c_c0_5 else undef) from rfl) (cv (t_not hg12_13)))) ((Calls.mono hcall (fun e w'' h => And.intro h.1 ((h.2.pull 2).pull 2)))) ?_
              rintro e w' ⟨rfl, hS⟩
              refine ⟨_, rfl, ?_⟩
              refine o_strip 87 false (says_lit (c := false) (Eq.trans (show _ = Value.bool x86 from rfl) (congrArg Value.bool hg12_13)) rfl) <| p (yl_not rfl) <| p (yl_pick (b := false) (Eq.trans (show _ = Value.bool x86 from rfl) (congrArg Value.bool hg12_13)) (fun h => nomatch h) (fun h => rfl)) <| p (yl_move rfl) <|
                pg (v := .pointer (some ⟨b1, 8, none⟩)) 93 (c := !(!r12_13)) (says_f _) (fun hq => Yl.at (yl_field0 fld_61_8 ec16_1)) <| pg (v := .int .i64 c0.Drive) 93 (c := !(!r12_13)) (says_f _) (fun hq => at_load one_3 (cv hq) ((hS.pull 1).cell rfl)) <|
                ?_
              replace hFg12_13 := bd_s hFg12_13; obtain ⟨og12_19, hFg12_19, hFg12_13⟩ := hFg12_13
              refine x_join_ops (fun E w => ∃ (y76_g12_19 : Bool), y76_g12_19 = og12_19 ∧ E 1 = .pointer (some ⟨b1, 0, none⟩) ∧ E 76 = .bool y76_g12_19 ∧ St w0 w (cells b1 61 [.string c0.Name, .bool c0.Flop, .int .i64 c0.Ins, .int .u64 c0.Table, .int .i64 c0.Area, .slice A_c0_5 c0.Cap.length c_c0_5, .slice A_c0_6 c0.Min.length c_c0_6, .slice A_c0_7 c0.Max.length c_c0_7, .int .i64 c0.Drive, .int .i64 c0.Setup, .int .i64 c0.Hold] :: ro ρ :: l)) ?_ ?_
              · skip -- g12_19
                refine x_split r12_13 (fun hg12_19 => ?_) (fun hg12_19 => ?_)
                · replace hFg12_19 := it_t hg12_19 hFg12_19
                  refine o_strip 93 false (says_lit (c := false) (Eq.trans (show _ = Value.bool (!r12_13) from rfl) (congrArg Value.bool (f_not hg12_19))) rfl) <|
                    ?_
                  refine o_buildSlice (vs := [.int .i64 c0.Drive]) (cs := [.int .i64 c0.Drive]) sl_22 zero_3 (parts_eq (pt (va := .int .i64 c0.Drive) (Eq.trans (show _ = (bif !(!r12_13) then .int .i64 c0.Drive else undef) from rfl) (cv (t_not (f_not hg12_19)))) pt0)) rfl (by intro v hv; simp only [List.mem_cons, List.not_mem_nil, or_false] at hv; first | (subst hv; rfl) | (rcases hv with rfl <;> rfl)) (by decide) rfl hS (fun b96 w' hS => ?_)
                  refine o_strip 93 false (says_lit (c := false) (Eq.trans (show _ = Value.bool (!r12_13) from rfl) (congrArg Value.bool (f_not hg12_19))) rfl) <|
                    ?_
                  have hl12_20 : RepL (RpI .i64) ρ ([c0.Drive] : List Int) [.int .i64 c0.Drive] := (RepL.cons (cs := [.int .i64 c0.Drive]) rfl RepL.nil)
                  replace hS := St.vec_of (n := 1) (sz := (RpI .i64).sz) hS rfl (by decide)
                  replace hFg12_19 := bd_s hFg12_19; obtain ⟨r12_20, hc12_20, hFg12_19⟩ := hFg12_19
                  have q_ := St.lend ((hS.pull 3).pull 1) hl12_20; obtain ⟨ρl0, hll0, hlf0, hS0, back0⟩ := q_
                  have hcall := c_lib_in hc12_20 hlf0 hS0
                  refine o_cc call_229 (args2 rfl rfl) ((Calls.mono hcall (fun e w'' h => And.intro h.1 (((((back0 h.2).pull 1).pull 3).pull 3).pull 3)))) ?_
                  rintro e w' ⟨rfl, hS⟩
                  refine ⟨_, rfl, ?_⟩
                  refine o_strip 93 false (says_lit (c := false) (Eq.trans (show _ = Value.bool (!r12_13) from rfl) (congrArg Value.bool (f_not hg12_19))) rfl) <| p (yl_not rfl) <| p (yl_pick (b := false) (Eq.trans (show _ = Value.bool (!r12_13) from rfl) (congrArg Value.bool (f_not hg12_19))) (fun h => nomatch h) (fun h => rfl)) <| p (yl_assign rfl) <|
                    x_done <|
                    ?_
                  exact x_inv ⟨!r12_20, (Option.some.inj (show some _ = some _ from hFg12_19)), ec16_1, rfl, ((hS.drop.drop.pull 1).pull 1)⟩
                · replace hFg12_19 := it_bf hg12_19 hFg12_19
                  refine o_pass 96 93 false (says_lit (c := true) (Eq.trans (show _ = Value.bool (!r12_13) from rfl) (congrArg Value.bool (t_not hg12_19))) rfl) <| o_pass 97 93 false (says_lit (c := true) (Eq.trans (show _ = Value.bool (!r12_13) from rfl) (congrArg Value.bool (t_not hg12_19))) rfl) <| o_pass 98 93 false (says_lit (c := true) (Eq.trans (show _ = Value.bool (!r12_13) from rfl) (congrArg Value.bool (t_not hg12_19))) rfl) <| p (yl_pick (b := true) (Eq.trans (show _ = Value.bool (!r12_13) from rfl) (congrArg Value.bool (t_not hg12_19))) (fun h => rfl) (fun h => nomatch h)) <|
                    p (yl_assign rfl) <| x_done <|
                    ?_
                  exact x_inv ⟨true, (Option.some.inj (show some _ = some _ from hFg12_19)), ec16_1, rfl, ((hS.drop.pull 1).pull 1)⟩
              rintro E w ⟨y76_g12_19, rfl, eg12_19_1, eg12_19_76, hS⟩
              exact x_inv ⟨y76_g12_19, (Option.some.inj (show some _ = some _ from hFg12_13)), eg12_19_1, eg12_19_76, ((hS.pull 1).pull 1)⟩
          rintro E w ⟨y76_g12_13, rfl, eg12_13_1, eg12_13_76, hS⟩
          refine x_cond (t := y76_g12_13) eg12_13_76 (fun hc76 => ?_) (fun hc76 => ?_)
          · replace hF := it_t hc76 hF
            refine x_seq <| x_region <| p (yl_assign rfl) <| x_done <|
              ?_
            have e_ := Option.some.inj (show some _ = some _ from hF); subst e_
            exact x_return ⟨_, ⟨_, _, rfl, rfl, rfl⟩, rfl, hS.drop⟩
          · replace hF := it_bf hc76 hF
            replace hF := bd_s hF; obtain ⟨r14_2, hc14_2, hF⟩ := hF
            refine x_seq <| x_region <| p (yl_field0 fld_61_6 eg12_13_1) <| pa (at_load one_22 rfl (hS.cell rfl)) <|
              ?_
            have hcall := c_lib_in hc14_2 h_c0_6 (hS.pull 1)
            refine o_cc call_229 (args2 rfl rfl) ((Calls.mono hcall (fun e w'' h => And.intro h.1 (h.2.pull 1)))) ?_
            rintro e w' ⟨rfl, hS⟩
            refine ⟨_, rfl, ?_⟩
            refine p (yl_not rfl) <| p (yl_move rfl) <| pg (v := .pointer (some ⟨b1, 7, none⟩)) 105 (c := !(!r14_2)) (says_f _) (fun hq => Yl.at (yl_field0 fld_61_7 eg12_13_1)) <| pg (v := .slice A_c0_7 c0.Max.length c_c0_7) 105 (c := !(!r14_2)) (says_f _) (fun hq => at_load one_22 (cv hq) (hS.cell rfl)) <|
              ?_
            replace hF := bd_s hF; obtain ⟨og14_7, hFg14_7, hF⟩ := hF
            refine x_join_ops (fun E w => ∃ (y100_g14_7 : Bool), y100_g14_7 = og14_7 ∧ E 1 = .pointer (some ⟨b1, 0, none⟩) ∧ E 100 = .bool y100_g14_7 ∧ St w0 w (cells b1 61 [.string c0.Name, .bool c0.Flop, .int .i64 c0.Ins, .int .u64 c0.Table, .int .i64 c0.Area, .slice A_c0_5 c0.Cap.length c_c0_5, .slice A_c0_6 c0.Min.length c_c0_6, .slice A_c0_7 c0.Max.length c_c0_7, .int .i64 c0.Drive, .int .i64 c0.Setup, .int .i64 c0.Hold] :: ro ρ :: l)) ?_ ?_
            · skip -- g14_7
              refine x_split r14_2 (fun hg14_7 => ?_) (fun hg14_7 => ?_)
              · replace hFg14_7 := it_t hg14_7 hFg14_7
                replace hFg14_7 := bd_s hFg14_7; obtain ⟨r14_7, hc14_7, hFg14_7⟩ := hFg14_7
                refine o_strip 105 false (says_lit (c := false) (Eq.trans (show _ = Value.bool (!r14_2) from rfl) (congrArg Value.bool (f_not hg14_7))) rfl) <|
                  ?_
                have hcall := c_lib_in hc14_7 h_c0_7 (hS.pull 1)
                refine o_cc call_229 (args2 rfl (Eq.trans (show _ = (bif !(!r14_2) then .slice A_c0_7 c0.Max.length c_c0_7 else undef) from rfl) (cv (t_not (f_not hg14_7))))) ((Calls.mono hcall (fun e w'' h => And.intro h.1 (h.2.pull 1)))) ?_
                rintro e w' ⟨rfl, hS⟩
                refine ⟨_, rfl, ?_⟩
                refine o_strip 105 false (says_lit (c := false) (Eq.trans (show _ = Value.bool (!r14_2) from rfl) (congrArg Value.bool (f_not hg14_7))) rfl) <| p (yl_not rfl) <| p (yl_pick (b := false) (Eq.trans (show _ = Value.bool (!r14_2) from rfl) (congrArg Value.bool (f_not hg14_7))) (fun h => nomatch h) (fun h => rfl)) <| p (yl_move rfl) <|
                  pg (v := .pointer (some ⟨b1, 9, none⟩)) 111 (c := !(!r14_7)) (says_f _) (fun hq => Yl.at (yl_field0 fld_61_9 eg12_13_1)) <| pg (v := .int .i64 c0.Setup) 111 (c := !(!r14_7)) (says_f _) (fun hq => at_load one_3 (cv hq) (hS.cell rfl)) <| pg (v := .pointer (some ⟨b1, 10, none⟩)) 111 (c := !(!r14_7)) (says_f _) (fun hq => Yl.at (yl_field0 fld_61_10 eg12_13_1)) <| pg (v := .int .i64 c0.Hold) 111 (c := !(!r14_7)) (says_f _) (fun hq => at_load one_3 (cv hq) (hS.cell rfl)) <|
                  ?_
                replace hFg14_7 := bd_s hFg14_7; obtain ⟨og14_15, hFg14_15, hFg14_7⟩ := hFg14_7
                refine x_join_ops (fun E w => ∃ (y100_g14_15 : Bool), y100_g14_15 = og14_15 ∧ E 1 = .pointer (some ⟨b1, 0, none⟩) ∧ E 100 = .bool y100_g14_15 ∧ St w0 w (cells b1 61 [.string c0.Name, .bool c0.Flop, .int .i64 c0.Ins, .int .u64 c0.Table, .int .i64 c0.Area, .slice A_c0_5 c0.Cap.length c_c0_5, .slice A_c0_6 c0.Min.length c_c0_6, .slice A_c0_7 c0.Max.length c_c0_7, .int .i64 c0.Drive, .int .i64 c0.Setup, .int .i64 c0.Hold] :: ro ρ :: l)) ?_ ?_
                · skip -- g14_15
                  refine x_split r14_7 (fun hg14_15 => ?_) (fun hg14_15 => ?_)
                  · replace hFg14_15 := it_t hg14_15 hFg14_15
                    refine o_strip 111 false (says_lit (c := false) (Eq.trans (show _ = Value.bool (!r14_7) from rfl) (congrArg Value.bool (f_not hg14_15))) rfl) <|
                      ?_
                    refine o_buildSlice (vs := [.int .i64 c0.Setup, .int .i64 c0.Hold]) (cs := [.int .i64 c0.Setup, .int .i64 c0.Hold]) sl_22 zero_3 (parts_eq (pt (va := .int .i64 c0.Setup) (Eq.trans (show _ = (bif !(!r14_7) then .int .i64 c0.Setup else undef) from rfl) (cv (t_not (f_not hg14_15)))) (pt (va := .int .i64 c0.Hold) (Eq.trans (show _ = (bif !(!r14_7) then .int .i64 c0.Hold else undef) from rfl) (cv (t_not (f_not hg14_15)))) pt0))) rfl (by intro v hv; simp only [List.mem_cons, List.not_mem_nil, or_false] at hv; first | (subst hv; rfl) | (rcases hv with rfl | rfl <;> rfl)) (by decide) rfl hS (fun b116 w' hS => ?_)
                    refine o_strip 111 false (says_lit (c := false) (Eq.trans (show _ = Value.bool (!r14_7) from rfl) (congrArg Value.bool (f_not hg14_15))) rfl) <|
                      ?_
                    have hl14_16 : RepL (RpI .i64) ρ ([c0.Setup, c0.Hold] : List Int) [.int .i64 c0.Setup, .int .i64 c0.Hold] := (RepL.cons (cs := [.int .i64 c0.Setup]) rfl (RepL.cons (cs := [.int .i64 c0.Hold]) rfl RepL.nil))
                    replace hS := St.vec_of (n := 2) (sz := (RpI .i64).sz) hS rfl (by decide)
                    replace hFg14_15 := bd_s hFg14_15; obtain ⟨r14_16, hc14_16, hFg14_15⟩ := hFg14_15
                    have q_ := St.lend ((hS.pull 2).pull 1) hl14_16; obtain ⟨ρl0, hll0, hlf0, hS0, back0⟩ := q_
                    have hcall := c_lib_in hc14_16 hlf0 hS0
                    refine o_cc call_229 (args2 rfl rfl) ((Calls.mono hcall (fun e w'' h => And.intro h.1 ((((back0 h.2).pull 1).pull 2).pull 2)))) ?_
                    rintro e w' ⟨rfl, hS⟩
                    refine ⟨_, rfl, ?_⟩
                    refine o_strip 111 false (says_lit (c := false) (Eq.trans (show _ = Value.bool (!r14_7) from rfl) (congrArg Value.bool (f_not hg14_15))) rfl) <| p (yl_not rfl) <| p (yl_pick (b := false) (Eq.trans (show _ = Value.bool (!r14_7) from rfl) (congrArg Value.bool (f_not hg14_15))) (fun h => nomatch h) (fun h => rfl)) <| p (yl_assign rfl) <|
                      x_done <|
                      ?_
                    exact x_inv ⟨!r14_16, (Option.some.inj (show some _ = some _ from hFg14_15)), eg12_13_1, rfl, ((hS.drop.pull 1).pull 1)⟩
                  · replace hFg14_15 := it_bf hg14_15 hFg14_15
                    refine o_pass 116 111 false (says_lit (c := true) (Eq.trans (show _ = Value.bool (!r14_7) from rfl) (congrArg Value.bool (t_not hg14_15))) rfl) <| o_pass 117 111 false (says_lit (c := true) (Eq.trans (show _ = Value.bool (!r14_7) from rfl) (congrArg Value.bool (t_not hg14_15))) rfl) <| o_pass 118 111 false (says_lit (c := true) (Eq.trans (show _ = Value.bool (!r14_7) from rfl) (congrArg Value.bool (t_not hg14_15))) rfl) <| p (yl_pick (b := true) (Eq.trans (show _ = Value.bool (!r14_7) from rfl) (congrArg Value.bool (t_not hg14_15))) (fun h => rfl) (fun h => nomatch h)) <|
                      p (yl_assign rfl) <| x_done <|
                      ?_
                    exact x_inv ⟨true, (Option.some.inj (show some _ = some _ from hFg14_15)), eg12_13_1, rfl, ((hS.pull 1).pull 1)⟩
                rintro E w ⟨y100_g14_15, rfl, eg14_15_1, eg14_15_100, hS⟩
                exact x_inv ⟨y100_g14_15, (Option.some.inj (show some _ = some _ from hFg14_7)), eg14_15_1, eg14_15_100, ((hS.pull 1).pull 1)⟩
              · replace hFg14_7 := it_bf hg14_7 hFg14_7
                refine o_pass 108 105 false (says_lit (c := true) (Eq.trans (show _ = Value.bool (!r14_2) from rfl) (congrArg Value.bool (t_not hg14_7))) rfl) <| o_pass 109 105 false (says_lit (c := true) (Eq.trans (show _ = Value.bool (!r14_2) from rfl) (congrArg Value.bool (t_not hg14_7))) rfl) <| p (yl_pick (b := true) (Eq.trans (show _ = Value.bool (!r14_2) from rfl) (congrArg Value.bool (t_not hg14_7))) (fun h => rfl) (fun h => nomatch h)) <| p (yl_move rfl) <|
                  o_pass 112 111 false (says_lit (c := true) rfl rfl) <| o_pass 113 111 false (says_lit (c := true) rfl rfl) <| o_pass 114 111 false (says_lit (c := true) rfl rfl) <| o_pass 115 111 false (says_lit (c := true) rfl rfl) <|
                  o_pass 116 111 false (says_lit (c := true) rfl rfl) <| o_pass 117 111 false (says_lit (c := true) rfl rfl) <| o_pass 118 111 false (says_lit (c := true) rfl rfl) <| p (yl_pick (b := true) rfl (fun h => rfl) (fun h => nomatch h)) <|
                  p (yl_assign rfl) <| x_done <|
                  ?_
                exact x_inv ⟨true, (Option.some.inj (show some _ = some _ from hFg14_7)), eg12_13_1, rfl, ((hS.pull 1).pull 1)⟩
            rintro E w ⟨y100_g14_7, rfl, eg14_7_1, eg14_7_100, hS⟩
            refine x_cond (t := y100_g14_7) eg14_7_100 (fun hc100 => ?_) (fun hc100 => ?_)
            · replace hF := it_t hc100 hF
              refine x_seq <| x_region <| p (yl_assign rfl) <| x_done <|
                ?_
              have e_ := Option.some.inj (show some _ = some _ from hF); subst e_
              exact x_return ⟨_, ⟨_, _, rfl, rfl, rfl⟩, rfl, hS.drop⟩
            · replace hF := it_bf hc100 hF
              replace hF := lv_s hF; obtain ⟨x132, hx132, hF⟩ := hF
              replace hF := lv_s hF; obtain ⟨x133, hx133, hF⟩ := hF
              refine x_seq <| x_region <| p (yl_field0 fld_61_1 eg14_7_1) <| pa (at_load one_4 rfl (hS.cell rfl)) <|
                p (yl_not rfl) <| p (yl_move rfl) <| pg (v := .pointer (some ⟨b1, 9, none⟩)) 124 (c := !c0.Flop) (says_t _) (fun hq => Yl.at (yl_field0 fld_61_9 eg14_7_1)) <| pg (v := .int .i64 c0.Setup) 124 (c := !c0.Flop) (says_t _) (fun hq => at_load one_3 (cv hq) (hS.cell rfl)) <|
                pg (v := .bool (decide (c0.Setup ≠ 0))) 124 (c := !c0.Flop) (says_t _) (fun hq => Yl.at (yl_neq (cv hq) rfl)) <| pg (v := .bool (decide (c0.Setup ≠ 0))) 124 (c := !c0.Flop) (says_t _) (fun hq => Yl.at (yl_move (cv hq))) <| pg (v := .pointer (some ⟨b1, 10, none⟩)) 128 (c := (!c0.Flop) && !(decide (c0.Setup ≠ 0))) (says_iff _ _) (fun hq => Yl.at (yl_field0 fld_61_10 eg14_7_1)) <| pg (v := .int .i64 c0.Hold) 128 (c := (!c0.Flop) && !(decide (c0.Setup ≠ 0))) (says_iff _ _) (fun hq => at_load one_3 (cv hq) (hS.cell rfl)) <|
                pg (v := .bool (decide (c0.Hold ≠ 0))) 128 (c := (!c0.Flop) && !(decide (c0.Setup ≠ 0))) (says_iff _ _) (fun hq => Yl.at (yl_neq (cv hq) rfl)) <| pg (v := .bool x132) 124 (c := !c0.Flop) (says_t _) (fun hq => Yl.at (yor' (cv hq) rfl (fun hc => (cv (and_i hq (t_not hc)))) hx132)) <| p (yand' rfl (fun hc => (cv hc)) rfl hx133) <| p (yl_assign rfl) <|
                x_done <|
                x_cond (t := x133) rfl (fun hc120 => ?_) (fun hc120 => ?_)
              · replace hF := it_t hc120 hF
                refine x_seq <| x_region <| p (yl_assign rfl) <| x_done <|
                  ?_
                have e_ := Option.some.inj (show some _ = some _ from hF); subst e_
                exact x_return ⟨_, ⟨_, _, rfl, rfl, rfl⟩, rfl, hS.drop⟩
              · replace hF := it_bf hc120 hF
                refine x_skip <| x_blk <| x_seq <| x_seq <|
                  x_region <| p (yl_field0 fld_61_6 eg14_7_1) <| pa (at_load one_22 rfl (hS.cell rfl)) <| p (yl_len_slice usl_22 rfl) <|
                  p (yl_move rfl) <| x_done <|
                  ?_
                replace hF := bs_s hF; obtain ⟨oL19, hLL19, hF⟩ := hF
                refine x_join (fun E w => (Sum.inl (())) = oL19 ∧ St w0 w (ro ρ :: l)) ?_ ?_
                · skip -- L19
                  refine x_block ?_
                  refine x_loop (fun k_ E w => ∃ (y137_L19h : Int), lp (P_lib_CheckCell_L19 c0) k_ y137_L19h = some oL19 ∧ E 1 = .pointer (some ⟨b1, 0, none⟩) ∧ E 136 = .int .i64 (c0.Min.length : Int) ∧ E 137 = .int .i64 y137_L19h ∧ St w0 w (cells b1 61 [.string c0.Name, .bool c0.Flop, .int .i64 c0.Ins, .int .u64 c0.Table, .int .i64 c0.Area, .slice A_c0_5 c0.Cap.length c_c0_5, .slice A_c0_6 c0.Min.length c_c0_6, .slice A_c0_7 c0.Max.length c_c0_7, .int .i64 c0.Drive, .int .i64 c0.Setup, .int .i64 c0.Hold] :: ro ρ :: l)) fuel ⟨0, hLL19, eg14_7_1, rfl, rfl, ((hS.pull 1).pull 1)⟩ ?_
                  rintro kL19 E w ⟨y137_L19h, hLL19, eL19h_1, eL19h_136, eL19h_137, hS⟩
                  replace hLL19 := lp_s hLL19; obtain ⟨kL19, obL19, rfl, hFL19, hLL19⟩ := hLL19
                  refine x_seq <| x_region <| p (yl_lss eL19h_137 eL19h_136) <| x_done <|
                    x_seq <|
                    x_cond_p (y137_L19h < (c0.Min.length : Int)) rfl (fun hc138 => ?_) (fun hc138 => ?_)
                  · replace hFL19 := it_t hc138 hFL19
                    replace hFL19 := ck_s hFL19; obtain ⟨hk21_3, hFL19⟩ := hFL19
                    replace hFL19 := lv_s hFL19; obtain ⟨x144, hx144, hFL19⟩ := hFL19
                    replace hFL19 := ck_s hFL19; obtain ⟨hk21_8, hFL19⟩ := hFL19
                    replace hFL19 := lv_s hFL19; obtain ⟨x149, hx149, hFL19⟩ := hFL19
                    refine x_skip <| x_seq <| x_block <| x_seq <|
                      x_region <| p (yl_move eL19h_137) <| p (yl_assign rfl) <| x_done <|
                      x_seq <| x_still mixed (by kernel_rfl) hS <| q (yl_field0 fld_61_6 eL19h_1) <| qa (fun w' hS => at_load one_22 rfl (hS.cell rfl)) <|
                      q (yl_move rfl) <| q (yix_f sl_22 rfl rfl h_c0_6 hk21_3) <| qa (fun w' hS => at_load one_3 rfl (RdS.getW h_c0_6 (hS.pull 1) hk21_3 hx144)) <| q (yl_field0 fld_61_7 eL19h_1) <|
                      qa (fun w' hS => at_load one_22 rfl (hS.cell rfl)) <| q (yl_move rfl) <| q (yix_f sl_22 rfl rfl h_c0_7 hk21_8) <| qa (fun w' hS => at_load one_3 rfl (RdS.getW h_c0_7 (hS.pull 1) hk21_8 hx149)) <|
                      q (yl_gtr rfl rfl) <|
                      q_done fun w' hS => ?_
                    refine x_cond_p (x149 < x144) rfl (fun hc150 => ?_) (fun hc150 => ?_)
                    · replace hFL19 := it_t hc150 hFL19
                      refine x_seq <| x_region <| p (yl_assign rfl) <| x_done <|
                        ?_
                      have e_ := Option.some.inj (show some _ = some _ from hFL19); subst e_
                      have e_ := (show _ = oL19 from hLL19); subst e_
                      have e_ := Option.some.inj (show some _ = some _ from hF); subst e_
                      exact x_return ⟨_, ⟨_, _, rfl, rfl, rfl⟩, rfl, hS.drop⟩
                    · replace hFL19 := it_f hc150 hFL19
                      replace hFL19 := ar_s hFL19; obtain ⟨x151, hx151, hFL19⟩ := hFL19
                      refine x_skip <| x_blk <| x_region <| p (yadd eL19h_137 rfl hx151) <|
                        p (yl_move rfl) <| x_done <|
                        ?_
                      have e_ := Option.some.inj (show some _ = some _ from hFL19); subst e_
                      exact x_inv ⟨kL19, Nat.lt_succ_self _, x151, hLL19, eL19h_1, eL19h_136, rfl, ((hS.pull 1).pull 1)⟩
                  · replace hFL19 := it_f hc138 hFL19
                    refine x_exitTo _ rfl <|
                      ?_
                    have e_ := Option.some.inj (show some _ = some _ from hFL19); subst e_
                    exact x_inv ⟨hLL19, hS.drop⟩
                rintro E w ⟨rfl, hS⟩
                refine x_seq <| x_region <| p (yl_assign rfl) <| x_done <|
                  ?_
                have e_ := Option.some.inj (show some _ = some _ from hF); subst e_
                exact x_return ⟨_, ⟨_, _, rfl, rfl, rfl⟩, rfl, hS⟩
attribute [irreducible] P_lib_CheckCell

def P_lib_Check_1 (d0 : T_api_Cell) (v1 : T_api_Cell) : Option Unit :=
  some ()
set_option maxHeartbeats 4000000 in
set_option maxRecDepth 100000 in
theorem c_lib_Check_1 {w0 w : World} {l : List Assn} {ρ : Heap} {A_d0_5 : Option Addr} {n_d0_5 : Nat} {c_d0_5 : Nat} {A_d0_6 : Option Addr} {n_d0_6 : Nat} {c_d0_6 : Nat} {A_d0_7 : Option Addr} {n_d0_7 : Nat} {c_d0_7 : Nat} {b_v1 : Nat} {A_v1_5 : Option Addr} {n_v1_5 : Nat} {c_v1_5 : Nat} {A_v1_6 : Option Addr} {n_v1_6 : Nat} {c_v1_6 : Nat} {A_v1_7 : Option Addr} {n_v1_7 : Nat} {c_v1_7 : Nat} {d0 : T_api_Cell} {v1 : T_api_Cell} {r : Unit} (hF : P_lib_Check_1 d0 v1 = some r) (h_d0_5 : RdS (RpI .i64) ρ A_d0_5 n_d0_5 c_d0_5 d0.Cap) (h_d0_6 : RdS (RpI .i64) ρ A_d0_6 n_d0_6 c_d0_6 d0.Min) (h_d0_7 : RdS (RpI .i64) ρ A_d0_7 n_d0_7 c_d0_7 d0.Max) (h_v1_5 : RdS (RpI .i64) ρ A_v1_5 n_v1_5 c_v1_5 v1.Cap) (h_v1_6 : RdS (RpI .i64) ρ A_v1_6 n_v1_6 c_v1_6 v1.Min) (h_v1_7 : RdS (RpI .i64) ρ A_v1_7 n_v1_7 c_v1_7 v1.Max) (hS : St w0 w (cells b_v1 61 [.string v1.Name, .bool v1.Flop, .int .i64 v1.Ins, .int .u64 v1.Table, .int .i64 v1.Area, .slice A_v1_5 n_v1_5 c_v1_5, .slice A_v1_6 n_v1_6 c_v1_6, .slice A_v1_7 n_v1_7 c_v1_7, .int .i64 v1.Drive, .int .i64 v1.Setup, .int .i64 v1.Hold] :: ro ρ :: l)) :
    Calls Tryd.prog 204 #[.agg #[.string d0.Name, .bool d0.Flop, .int .i64 d0.Ins, .int .u64 d0.Table, .int .i64 d0.Area, .slice A_d0_5 n_d0_5 c_d0_5, .slice A_d0_6 n_d0_6 c_d0_6, .slice A_d0_7 n_d0_7 c_d0_7, .int .i64 d0.Drive, .int .i64 d0.Setup, .int .i64 d0.Hold], .pointer (some ⟨b_v1, 0, none⟩)] w fun e w' => e = .returned (.bool (decide (d0.Name = v1.Name))) ∧ St w0 w' (cells b_v1 61 [.string v1.Name, .bool v1.Flop, .int .i64 v1.Ins, .int .u64 v1.Table, .int .i64 v1.Area, .slice A_v1_5 n_v1_5 c_v1_5, .slice A_v1_6 n_v1_6 c_v1_6, .slice A_v1_7 n_v1_7 c_v1_7, .int .i64 v1.Drive, .int .i64 v1.Setup, .int .i64 v1.Hold] :: ro ρ :: l) := by
  have e_ := h_d0_5.n; subst e_
  have e_ := h_d0_6.n; subst e_
  have e_ := h_d0_7.n; subst e_
  have e_ := h_v1_5.n; subst e_
  have e_ := h_v1_6.n; subst e_
  have e_ := h_v1_7.n; subst e_
  refine enterC Tryd.func204 rfl 9 rfl (by simp) ?_
  refine x_seq <| x_region <|
    ?_
  refine o_box (cs := [.string d0.Name, .bool d0.Flop, .int .i64 d0.Ins, .int .u64 d0.Table, .int .i64 d0.Area, .slice A_d0_5 d0.Cap.length c_d0_5, .slice A_d0_6 d0.Min.length c_d0_6, .slice A_d0_7 d0.Max.length c_d0_7, .int .i64 d0.Drive, .int .i64 d0.Setup, .int .i64 d0.Hold]) rfl rfl hS (fun b2 w' hS => ?_)
  refine p (yl_assign rfl) <| x_done <| x_seq <| x_region <|
    p (yl_field0 fld_61_0 rfl) <| pa (at_load one_9 rfl (hS.cell rfl)) <| p (yl_field0 fld_61_0 rfl) <| pa (at_load one_9 rfl ((hS.pull 1).cell rfl)) <|
    p (yl_eql_string rfl rfl) <| p (yl_assign rfl) <| x_done <|
    ?_
  have e_ := Option.some.inj (show some _ = some _ from hF); subst e_
  exact x_return ⟨_, ⟨_, _, rfl, rfl, rfl⟩, rfl, ((hS.drop.pull 1).pull 1)⟩
attribute [irreducible] P_lib_Check_1

def P_slices_IndexFunc_api_Cell_api_Cell_L2 (s0 : List T_api_Cell) (f1_0 : T_api_Cell) : Int → Option (Int ⊕ (Unit ⊕ Int)) := fun y8_L2h =>
  if y8_L2h < (s0.length : Int) then
    ck (inb y8_L2h s0.length) <|
    lv (gt s0 y8_L2h) fun y4_4 =>
    bd (P_lib_Check_1 y4_4 f1_0) fun r4_5 =>
    if y4_4.Name = f1_0.Name then
      some (Sum.inr (Sum.inr y8_L2h))
    else
      ar (y8_L2h + 1) fun x18 =>
      some (Sum.inl x18)
  else
    some (Sum.inr (Sum.inl ()))
def P_slices_IndexFunc_api_Cell_api_Cell (s0 : List T_api_Cell) (f1_0 : T_api_Cell) : Option Int :=
  bs (
    lp (P_slices_IndexFunc_api_Cell_api_Cell_L2 s0 f1_0) fuel 0) (fun y => some y) fun _ =>
  some (-1 : Int)
set_option maxHeartbeats 4000000 in
set_option maxRecDepth 100000 in
theorem c_slices_IndexFunc_api_Cell_api_Cell {w0 w : World} {l : List Assn} {ρ : Heap} {A_s0 : Option Addr} {n_s0 : Nat} {c_s0 : Nat} {b_f1_0 : Nat} {A_f1_0_5 : Option Addr} {n_f1_0_5 : Nat} {c_f1_0_5 : Nat} {A_f1_0_6 : Option Addr} {n_f1_0_6 : Nat} {c_f1_0_6 : Nat} {A_f1_0_7 : Option Addr} {n_f1_0_7 : Nat} {c_f1_0_7 : Nat} {s0 : List T_api_Cell} {f1_0 : T_api_Cell} {r : Int} (hF : P_slices_IndexFunc_api_Cell_api_Cell s0 f1_0 = some r) (h_s0 : RdS R_api_Cell ρ A_s0 n_s0 c_s0 s0) (h_f1_0_5 : RdS (RpI .i64) ρ A_f1_0_5 n_f1_0_5 c_f1_0_5 f1_0.Cap) (h_f1_0_6 : RdS (RpI .i64) ρ A_f1_0_6 n_f1_0_6 c_f1_0_6 f1_0.Min) (h_f1_0_7 : RdS (RpI .i64) ρ A_f1_0_7 n_f1_0_7 c_f1_0_7 f1_0.Max) (hS : St w0 w (cells b_f1_0 61 [.string f1_0.Name, .bool f1_0.Flop, .int .i64 f1_0.Ins, .int .u64 f1_0.Table, .int .i64 f1_0.Area, .slice A_f1_0_5 n_f1_0_5 c_f1_0_5, .slice A_f1_0_6 n_f1_0_6 c_f1_0_6, .slice A_f1_0_7 n_f1_0_7 c_f1_0_7, .int .i64 f1_0.Drive, .int .i64 f1_0.Setup, .int .i64 f1_0.Hold] :: ro ρ :: l)) :
    Calls Tryd.prog 230 #[.slice A_s0 n_s0 c_s0, .func (.func 204) #[] #[.pointer (some ⟨b_f1_0, 0, none⟩)]] w fun e w' => e = .returned (.int .i64 r) ∧ St w0 w' (cells b_f1_0 61 [.string f1_0.Name, .bool f1_0.Flop, .int .i64 f1_0.Ins, .int .u64 f1_0.Table, .int .i64 f1_0.Area, .slice A_f1_0_5 n_f1_0_5 c_f1_0_5, .slice A_f1_0_6 n_f1_0_6 c_f1_0_6, .slice A_f1_0_7 n_f1_0_7 c_f1_0_7, .int .i64 f1_0.Drive, .int .i64 f1_0.Setup, .int .i64 f1_0.Hold] :: ro ρ :: l) := by
  have e_ := h_s0.n; subst e_
  have e_ := h_f1_0_5.n; subst e_
  have e_ := h_f1_0_6.n; subst e_
  have e_ := h_f1_0_7.n; subst e_
  refine enterC Tryd.func230 rfl 19 rfl (by simp) ?_
  refine x_seq <| x_region <| p (yl_assign rfl) <| x_done <|
    x_seq <| x_seq <| x_region <| p (yl_move rfl) <|
    p (yl_len_slice usl_31 rfl) <| p (yl_move rfl) <| x_done <|
    ?_
  replace hF := bs_s hF; obtain ⟨oL2, hLL2, hF⟩ := hF
  refine x_join (fun E w => (Sum.inl (())) = oL2 ∧ St w0 w (cells b_f1_0 61 [.string f1_0.Name, .bool f1_0.Flop, .int .i64 f1_0.Ins, .int .u64 f1_0.Table, .int .i64 f1_0.Area, .slice A_f1_0_5 f1_0.Cap.length c_f1_0_5, .slice A_f1_0_6 f1_0.Min.length c_f1_0_6, .slice A_f1_0_7 f1_0.Max.length c_f1_0_7, .int .i64 f1_0.Drive, .int .i64 f1_0.Setup, .int .i64 f1_0.Hold] :: ro ρ :: l)) ?_ ?_
  · skip -- L2
    refine x_block ?_
    refine x_loop (fun k_ E w => ∃ (y8_L2h : Int), lp (P_slices_IndexFunc_api_Cell_api_Cell_L2 s0 f1_0) k_ y8_L2h = some oL2 ∧ E 0 = .slice A_s0 s0.length c_s0 ∧ E 1 = .func (.func 204) #[] #[.pointer (some ⟨b_f1_0, 0, none⟩)] ∧ E 7 = .int .i64 (s0.length : Int) ∧ E 8 = .int .i64 y8_L2h ∧ St w0 w (cells b_f1_0 61 [.string f1_0.Name, .bool f1_0.Flop, .int .i64 f1_0.Ins, .int .u64 f1_0.Table, .int .i64 f1_0.Area, .slice A_f1_0_5 f1_0.Cap.length c_f1_0_5, .slice A_f1_0_6 f1_0.Min.length c_f1_0_6, .slice A_f1_0_7 f1_0.Max.length c_f1_0_7, .int .i64 f1_0.Drive, .int .i64 f1_0.Setup, .int .i64 f1_0.Hold] :: ro ρ :: l)) fuel ⟨0, hLL2, rfl, rfl, rfl, rfl, ((hS.pull 1).pull 1)⟩ ?_
    rintro kL2 E w ⟨y8_L2h, hLL2, eL2h_0, eL2h_1, eL2h_7, eL2h_8, hS⟩
    replace hLL2 := lp_s hLL2; obtain ⟨kL2, obL2, rfl, hFL2, hLL2⟩ := hLL2
    refine x_seq <| x_region <| p (yl_lss eL2h_8 eL2h_7) <| x_done <|
      x_seq <|
      x_cond_p (y8_L2h < (s0.length : Int)) rfl (fun hc9 => ?_) (fun hc9 => ?_)
    · replace hFL2 := it_t hc9 hFL2
      replace hFL2 := ck_s hFL2; obtain ⟨hk4_3, hFL2⟩ := hFL2
      replace hFL2 := lv_s hFL2; obtain ⟨y4_4, hy4_4, hFL2⟩ := hFL2
      have q_ := h_s0.get hk4_3; obtain ⟨el4_4, ek4_4, ee4_4⟩ := q_
      rw [← hy4_4] at ek4_4
      obtain ⟨A4_4_5, n4_4_5, c4_4_5, A4_4_6, n4_4_6, c4_4_6, A4_4_7, n4_4_7, c4_4_7, rfl, f4_4_5, f4_4_6, f4_4_7⟩ := ek4_4
      have e_ := f4_4_5.n; subst e_
      have e_ := f4_4_6.n; subst e_
      have e_ := f4_4_7.n; subst e_
      replace hFL2 := bd_s hFL2; obtain ⟨r4_5, hc4_5, hFL2⟩ := hFL2
      refine x_skip <| x_seq <| x_block <| x_seq <|
        x_region <| p (yl_move eL2h_8) <| p (yl_assign rfl) <| x_done <|
        x_seq <| x_region <| p (yl_move eL2h_1) <| p (yl_move eL2h_0) <|
        p (yl_move rfl) <| p (yix_f sl_31 rfl rfl h_s0 hk4_3) <| pa (v := .agg #[.string y4_4.Name, .bool y4_4.Flop, .int .i64 y4_4.Ins, .int .u64 y4_4.Table, .int .i64 y4_4.Area, .slice A4_4_5 y4_4.Cap.length c4_4_5, .slice A4_4_6 y4_4.Min.length c4_4_6, .slice A4_4_7 y4_4.Max.length c4_4_7, .int .i64 y4_4.Drive, .int .i64 y4_4.Setup, .int .i64 y4_4.Hold]) (at_loadAgg agg_61 rfl rfl (Elt.every ee4_4 (hS.pull 1))) <|
        ?_
      have hcall := c_lib_Check_1 hc4_5 f4_4_5 f4_4_6 f4_4_7 h_f1_0_5 h_f1_0_6 h_f1_0_7 hS
      refine o_ccv rfl call_204 (capargs (args1 rfl)) (hcall) ?_
      rintro e w' ⟨rfl, hS⟩
      refine ⟨_, rfl, ?_⟩
      refine x_done <|
        x_cond_p (y4_4.Name = f1_0.Name) rfl (fun hc16 => ?_) (fun hc16 => ?_)
      · replace hFL2 := it_t hc16 hFL2
        refine x_seq <| x_region <| p (yl_move rfl) <| p (yl_assign rfl) <|
          x_done <|
          ?_
        have e_ := Option.some.inj (show some _ = some _ from hFL2); subst e_
        have e_ := (show _ = oL2 from hLL2); subst e_
        have e_ := Option.some.inj (show some _ = some _ from hF); subst e_
        exact x_return ⟨_, ⟨_, _, rfl, rfl, rfl⟩, rfl, ((hS.pull 1).pull 1)⟩
      · replace hFL2 := it_f hc16 hFL2
        replace hFL2 := ar_s hFL2; obtain ⟨x18, hx18, hFL2⟩ := hFL2
        refine x_skip <| x_blk <| x_region <| p (yadd eL2h_8 rfl hx18) <|
          p (yl_move rfl) <| x_done <|
          ?_
        have e_ := Option.some.inj (show some _ = some _ from hFL2); subst e_
        exact x_inv ⟨kL2, Nat.lt_succ_self _, x18, hLL2, eL2h_0, eL2h_1, eL2h_7, rfl, ((hS.pull 1).pull 1)⟩
    · replace hFL2 := it_f hc9 hFL2
      refine x_exitTo _ rfl <|
        ?_
      have e_ := Option.some.inj (show some _ = some _ from hFL2); subst e_
      exact x_inv ⟨hLL2, ((hS.pull 1).pull 1)⟩
  rintro E w ⟨rfl, hS⟩
  refine x_seq <| x_region <| p (yl_assign rfl) <| x_done <|
    ?_
  have e_ := Option.some.inj (show some _ = some _ from hF); subst e_
  exact x_return ⟨_, ⟨_, _, rfl, rfl, rfl⟩, rfl, ((hS.pull 1).pull 1)⟩
attribute [irreducible] P_slices_IndexFunc_api_Cell_api_Cell

def P_slices_ContainsFunc_api_Cell_api_Cell (s0 : List T_api_Cell) (f1_0 : T_api_Cell) : Option Bool :=
  bd (P_slices_IndexFunc_api_Cell_api_Cell s0 f1_0) fun r1_2 =>
  some (decide (0 ≤ r1_2))
set_option maxHeartbeats 4000000 in
set_option maxRecDepth 100000 in
theorem c_slices_ContainsFunc_api_Cell_api_Cell {w0 w : World} {l : List Assn} {ρ : Heap} {A_s0 : Option Addr} {n_s0 : Nat} {c_s0 : Nat} {b_f1_0 : Nat} {A_f1_0_5 : Option Addr} {n_f1_0_5 : Nat} {c_f1_0_5 : Nat} {A_f1_0_6 : Option Addr} {n_f1_0_6 : Nat} {c_f1_0_6 : Nat} {A_f1_0_7 : Option Addr} {n_f1_0_7 : Nat} {c_f1_0_7 : Nat} {s0 : List T_api_Cell} {f1_0 : T_api_Cell} {r : Bool} (hF : P_slices_ContainsFunc_api_Cell_api_Cell s0 f1_0 = some r) (h_s0 : RdS R_api_Cell ρ A_s0 n_s0 c_s0 s0) (h_f1_0_5 : RdS (RpI .i64) ρ A_f1_0_5 n_f1_0_5 c_f1_0_5 f1_0.Cap) (h_f1_0_6 : RdS (RpI .i64) ρ A_f1_0_6 n_f1_0_6 c_f1_0_6 f1_0.Min) (h_f1_0_7 : RdS (RpI .i64) ρ A_f1_0_7 n_f1_0_7 c_f1_0_7 f1_0.Max) (hS : St w0 w (cells b_f1_0 61 [.string f1_0.Name, .bool f1_0.Flop, .int .i64 f1_0.Ins, .int .u64 f1_0.Table, .int .i64 f1_0.Area, .slice A_f1_0_5 n_f1_0_5 c_f1_0_5, .slice A_f1_0_6 n_f1_0_6 c_f1_0_6, .slice A_f1_0_7 n_f1_0_7 c_f1_0_7, .int .i64 f1_0.Drive, .int .i64 f1_0.Setup, .int .i64 f1_0.Hold] :: ro ρ :: l)) :
    Calls Tryd.prog 203 #[.slice A_s0 n_s0 c_s0, .func (.func 204) #[] #[.pointer (some ⟨b_f1_0, 0, none⟩)]] w fun e w' => e = .returned (.bool r) ∧ St w0 w' (cells b_f1_0 61 [.string f1_0.Name, .bool f1_0.Flop, .int .i64 f1_0.Ins, .int .u64 f1_0.Table, .int .i64 f1_0.Area, .slice A_f1_0_5 n_f1_0_5 c_f1_0_5, .slice A_f1_0_6 n_f1_0_6 c_f1_0_6, .slice A_f1_0_7 n_f1_0_7 c_f1_0_7, .int .i64 f1_0.Drive, .int .i64 f1_0.Setup, .int .i64 f1_0.Hold] :: ro ρ :: l) := by
  have e_ := h_s0.n; subst e_
  have e_ := h_f1_0_5.n; subst e_
  have e_ := h_f1_0_6.n; subst e_
  have e_ := h_f1_0_7.n; subst e_
  refine enterC Tryd.func203 rfl 9 rfl (by simp) ?_
  replace hF := bd_s hF; obtain ⟨r1_2, hc1_2, hF⟩ := hF
  refine x_seq <| x_region <| p (yl_assign rfl) <| x_done <|
    x_seq <| x_region <| p (yl_move rfl) <| p (yl_move rfl) <|
    ?_
  have hcall := c_slices_IndexFunc_api_Cell_api_Cell hc1_2 h_s0 h_f1_0_5 h_f1_0_6 h_f1_0_7 hS
  refine o_cc call_230 (args2 rfl rfl) (hcall) ?_
  rintro e w' ⟨rfl, hS⟩
  refine ⟨_, rfl, ?_⟩
  refine p (yl_geq rfl rfl) <| p (yl_assign rfl) <| x_done <|
    ?_
  have e_ := Option.some.inj (show some _ = some _ from hF); subst e_
  exact x_return ⟨_, ⟨_, _, rfl, rfl, rfl⟩, rfl, ((hS.pull 1).pull 1)⟩
attribute [irreducible] P_slices_ContainsFunc_api_Cell_api_Cell

def P_lib_Check_L4 (l_0 : List T_api_Cell) : Int → Option (Int ⊕ (Unit ⊕ Int)) := fun y11_L4h =>
  if y11_L4h < (l_0.length : Int) then
    ck (inb y11_L4h l_0.length) <|
    lv (gt l_0 y11_L4h) fun y5_2 =>
    bd (P_lib_CheckCell y5_2) fun r6_1 =>
    if r6_1 ≠ 0 then
      some (Sum.inr (Sum.inr r6_1))
    else
      ck (0 ≤ (0 : Int) ∧ (0 : Int) ≤ y11_L4h ∧ y11_L4h ≤ l_0.length) <|
      lv (sub l_0 0 y11_L4h) fun x23 =>
      bd (P_slices_ContainsFunc_api_Cell_api_Cell x23 y5_2) fun r9_4 =>
      if r9_4 = true then
        some (Sum.inr (Sum.inr (6 : Int)))
      else
        ar (y11_L4h + 1) fun x26 =>
        some (Sum.inl x26)
  else
    some (Sum.inr (Sum.inl ()))
def P_lib_Check (l_0 : List T_api_Cell) : Option Int :=
  if 64 < (l_0.length : Int) then
    some (3 : Int)
  else
    bs (
      lp (P_lib_Check_L4 l_0) fuel 0) (fun y => some y) fun _ =>
    some (0 : Int)
set_option maxHeartbeats 4000000 in
set_option maxRecDepth 100000 in
theorem c_lib_Check {w0 w : World} {l : List Assn} {ρ : Heap} {A_l_0 : Option Addr} {n_l_0 : Nat} {c_l_0 : Nat} {l_0 : List T_api_Cell} {r : Int} (hF : P_lib_Check l_0 = some r) (h_l_0 : RdS R_api_Cell ρ A_l_0 n_l_0 c_l_0 l_0) (hS : St w0 w (ro ρ :: l)) :
    Calls Tryd.prog 173 #[.slice A_l_0 n_l_0 c_l_0] w fun e w' => e = .returned (.int .i64 r) ∧ St w0 w' (ro ρ :: l) := by
  have e_ := h_l_0.n; subst e_
  refine enterC Tryd.func173 rfl 27 rfl (by simp) ?_
  refine x_seq <| x_region <| p (yl_assign rfl) <| x_done <|
    x_seq <| x_seq <| x_region <| p (yl_move rfl) <|
    p (yl_len_slice usl_31 rfl) <| p (yl_gtr rfl rfl) <| x_done <|
    x_cond_p (64 < (l_0.length : Int)) rfl (fun hc8 => ?_) (fun hc8 => ?_)
  · replace hF := it_t hc8 hF
    refine x_seq <| x_region <| p (yl_assign rfl) <| x_done <|
      ?_
    have e_ := Option.some.inj (show some _ = some _ from hF); subst e_
    exact x_return ⟨_, ⟨_, _, rfl, rfl, rfl⟩, rfl, hS⟩
  · replace hF := it_f hc8 hF
    refine x_skip <| x_seq <| x_seq <| x_region <|
      p (yl_move rfl) <| p (yl_len_slice usl_31 rfl) <| p (yl_move rfl) <| x_done <|
      ?_
    replace hF := bs_s hF; obtain ⟨oL4, hLL4, hF⟩ := hF
    refine x_join (fun E w => (Sum.inl (())) = oL4 ∧ St w0 w (ro ρ :: l)) ?_ ?_
    · skip -- L4
      refine x_block ?_
      refine x_loop (fun k_ E w => ∃ (y11_L4h : Int), lp (P_lib_Check_L4 l_0) k_ y11_L4h = some oL4 ∧ E 0 = .slice A_l_0 l_0.length c_l_0 ∧ E 9 = .slice A_l_0 l_0.length c_l_0 ∧ E 10 = .int .i64 (l_0.length : Int) ∧ E 11 = .int .i64 y11_L4h ∧ St w0 w (ro ρ :: l)) fuel ⟨0, hLL4, rfl, rfl, rfl, rfl, hS⟩ ?_
      rintro kL4 E w ⟨y11_L4h, hLL4, eL4h_0, eL4h_9, eL4h_10, eL4h_11, hS⟩
      replace hLL4 := lp_s hLL4; obtain ⟨kL4, obL4, rfl, hFL4, hLL4⟩ := hLL4
      refine x_seq <| x_region <| p (yl_lss eL4h_11 eL4h_10) <| x_done <|
        x_seq <|
        x_cond_p (y11_L4h < (l_0.length : Int)) rfl (fun hc12 => ?_) (fun hc12 => ?_)
      · replace hFL4 := it_t hc12 hFL4
        replace hFL4 := ck_s hFL4; obtain ⟨hk5_1, hFL4⟩ := hFL4
        replace hFL4 := lv_s hFL4; obtain ⟨y5_2, hy5_2, hFL4⟩ := hFL4
        have q_ := h_l_0.get hk5_1; obtain ⟨el5_2, ek5_2, ee5_2⟩ := q_
        rw [← hy5_2] at ek5_2
        obtain ⟨A5_2_5, n5_2_5, c5_2_5, A5_2_6, n5_2_6, c5_2_6, A5_2_7, n5_2_7, c5_2_7, rfl, f5_2_5, f5_2_6, f5_2_7⟩ := ek5_2
        have e_ := f5_2_5.n; subst e_
        have e_ := f5_2_6.n; subst e_
        have e_ := f5_2_7.n; subst e_
        refine x_skip <| x_seq <| x_block <| x_seq <|
          x_region <| p (yl_move eL4h_11) <| p (yix_f sl_31 eL4h_9 eL4h_11 h_l_0 hk5_1) <| pa (v := .agg #[.string y5_2.Name, .bool y5_2.Flop, .int .i64 y5_2.Ins, .int .u64 y5_2.Table, .int .i64 y5_2.Area, .slice A5_2_5 y5_2.Cap.length c5_2_5, .slice A5_2_6 y5_2.Min.length c5_2_6, .slice A5_2_7 y5_2.Max.length c5_2_7, .int .i64 y5_2.Drive, .int .i64 y5_2.Setup, .int .i64 y5_2.Hold]) (at_loadAgg agg_61 rfl rfl (Elt.every ee5_2 hS)) <|
          ?_
        refine o_alloc zero_61 hS (fun b4 w' hS => ?_)
        refine p (yl_assign rfl) <|
          ?_
        refine o_storeAgg (news := [.string y5_2.Name, .bool y5_2.Flop, .int .i64 y5_2.Ins, .int .u64 y5_2.Table, .int .i64 y5_2.Area, .slice A5_2_5 y5_2.Cap.length c5_2_5, .slice A5_2_6 y5_2.Min.length c5_2_6, .slice A5_2_7 y5_2.Max.length c5_2_7, .int .i64 y5_2.Drive, .int .i64 y5_2.Setup, .int .i64 y5_2.Hold]) agg_61 rfl rfl rfl (by simp [over_length]) hS (fun w' hS => ?_)
        replace hFL4 := bd_s hFL4; obtain ⟨r6_1, hc6_1, hFL4⟩ := hFL4
        refine x_done <| x_seq <| x_seq <| x_region <|
          pa (v := .agg #[.string y5_2.Name, .bool y5_2.Flop, .int .i64 y5_2.Ins, .int .u64 y5_2.Table, .int .i64 y5_2.Area, .slice A5_2_5 y5_2.Cap.length c5_2_5, .slice A5_2_6 y5_2.Min.length c5_2_6, .slice A5_2_7 y5_2.Max.length c5_2_7, .int .i64 y5_2.Drive, .int .i64 y5_2.Setup, .int .i64 y5_2.Hold]) (ld_sub agg_61 rfl rfl rfl hS) <|
          ?_
        have hcall := c_lib_CheckCell hc6_1 f5_2_5 f5_2_6 f5_2_7 (hS.pull 1)
        refine o_cc call_202 (args1 rfl) ((Calls.mono hcall (fun e w'' h => And.intro h.1 (h.2.pull 1)))) ?_
        rintro e w' ⟨rfl, hS⟩
        refine ⟨_, rfl, ?_⟩
        refine p (v := .int .i64 r6_1) (yl_assign rfl) <| x_done <| x_seq <| x_region <|
          p (v := .int .i64 r6_1) (yl_move rfl) <| p (yl_neq rfl rfl) <| x_done <|
          x_cond_p (r6_1 ≠ 0) rfl (fun hc19 => ?_) (fun hc19 => ?_)
        · replace hFL4 := it_t hc19 hFL4
          refine x_seq <| x_region <| p (v := .int .i64 r6_1) (yl_move rfl) <| p (v := .int .i64 r6_1) (yl_assign rfl) <|
            x_done <|
            ?_
          have e_ := Option.some.inj (show some _ = some _ from hFL4); subst e_
          have e_ := (show _ = oL4 from hLL4); subst e_
          have e_ := Option.some.inj (show some _ = some _ from hF); subst e_
          exact x_return ⟨_, ⟨_, _, rfl, rfl, rfl⟩, rfl, hS.drop⟩
        · replace hFL4 := it_f hc19 hFL4
          replace hFL4 := ck_s hFL4; obtain ⟨hk9_2, hFL4⟩ := hFL4
          replace hFL4 := lv_s hFL4; obtain ⟨x23, hx23, hFL4⟩ := hFL4
          refine x_skip <| x_seq <| x_region <| p (yl_move eL4h_0) <|
            p (yl_move rfl) <|
            ?_
          have q_ := RdS.sub h_l_0 hk9_2 hx23; obtain ⟨A23, n23, c23, hd23, f23⟩ := q_
          refine p (ysub_h sl_31 rfl rfl hk9_2 hd23) <|
            ?_
          have e_ := f23.n; subst e_
          replace hFL4 := bd_s hFL4; obtain ⟨r9_4, hc9_4, hFL4⟩ := hFL4
          refine p (v := .func (.func 204) #[] #[.pointer (some ⟨b4, 0, none⟩)]) (yl_makeFunc (by simp only [List.map_toArray, List.map_nil]) (by simp only [List.map_toArray, List.map_cons, List.map_nil]; rfl)) <|
            ?_
          have hcall := c_slices_ContainsFunc_api_Cell_api_Cell hc9_4 f23 f5_2_5 f5_2_6 f5_2_7 hS
          refine o_cc call_203 (args2 rfl rfl) (hcall) ?_
          rintro e w' ⟨rfl, hS⟩
          refine ⟨_, rfl, ?_⟩
          refine x_done <|
            x_cond (t := r9_4) rfl (fun hc25 => ?_) (fun hc25 => ?_)
          · replace hFL4 := it_t hc25 hFL4
            refine x_seq <| x_region <| p (yl_assign rfl) <| x_done <|
              ?_
            have e_ := Option.some.inj (show some _ = some _ from hFL4); subst e_
            have e_ := (show _ = oL4 from hLL4); subst e_
            have e_ := Option.some.inj (show some _ = some _ from hF); subst e_
            exact x_return ⟨_, ⟨_, _, rfl, rfl, rfl⟩, rfl, hS.drop⟩
          · replace hFL4 := it_bf hc25 hFL4
            replace hFL4 := ar_s hFL4; obtain ⟨x26, hx26, hFL4⟩ := hFL4
            refine x_skip <| x_blk <| x_region <| p (yadd eL4h_11 rfl hx26) <|
              p (yl_move rfl) <| x_done <|
              ?_
            have e_ := Option.some.inj (show some _ = some _ from hFL4); subst e_
            exact x_inv ⟨kL4, Nat.lt_succ_self _, x26, hLL4, eL4h_0, eL4h_9, eL4h_10, rfl, hS.drop⟩
      · replace hFL4 := it_f hc12 hFL4
        refine x_exitTo _ rfl <|
          ?_
        have e_ := Option.some.inj (show some _ = some _ from hFL4); subst e_
        exact x_inv ⟨hLL4, hS⟩
    rintro E w ⟨rfl, hS⟩
    refine x_seq <| x_region <| p (yl_assign rfl) <| x_done <|
      ?_
    have e_ := Option.some.inj (show some _ = some _ from hF); subst e_
    exact x_return ⟨_, ⟨_, _, rfl, rfl, rfl⟩, rfl, hS⟩
attribute [irreducible] P_lib_Check

def P_floor_Fits (c0 : T_api_Cell) : Option Bool :=
  lv ((decide (1 ≤ c0.Area)) && (decide (c0.Area ≤ 40))) fun x10 =>
  ck (x10 = true → I64 ((2 : Int) * c0.Ins)) <|
  lv ((2 : Int) * c0.Ins) fun x14 =>
  ck (x10 = true → I64 ((4 : Int) * c0.Area)) <|
  lv ((4 : Int) * c0.Area) fun x17 =>
  lv (x10 && (decide (x14 ≤ x17))) fun x19 =>
  some x19
set_option maxHeartbeats 4000000 in
set_option maxRecDepth 100000 in
theorem c_floor_Fits {w0 w : World} {l : List Assn} {ρ : Heap} {A_c0_5 : Option Addr} {n_c0_5 : Nat} {c_c0_5 : Nat} {A_c0_6 : Option Addr} {n_c0_6 : Nat} {c_c0_6 : Nat} {A_c0_7 : Option Addr} {n_c0_7 : Nat} {c_c0_7 : Nat} {c0 : T_api_Cell} {r : Bool} (hF : P_floor_Fits c0 = some r) (h_c0_5 : RdS (RpI .i64) ρ A_c0_5 n_c0_5 c_c0_5 c0.Cap) (h_c0_6 : RdS (RpI .i64) ρ A_c0_6 n_c0_6 c_c0_6 c0.Min) (h_c0_7 : RdS (RpI .i64) ρ A_c0_7 n_c0_7 c_c0_7 c0.Max) (hS : St w0 w (ro ρ :: l)) :
    Calls Tryd.prog 174 #[.agg #[.string c0.Name, .bool c0.Flop, .int .i64 c0.Ins, .int .u64 c0.Table, .int .i64 c0.Area, .slice A_c0_5 n_c0_5 c_c0_5, .slice A_c0_6 n_c0_6 c_c0_6, .slice A_c0_7 n_c0_7 c_c0_7, .int .i64 c0.Drive, .int .i64 c0.Setup, .int .i64 c0.Hold]] w fun e w' => e = .returned (.bool r) ∧ St w0 w' (ro ρ :: l) := by
  have e_ := h_c0_5.n; subst e_
  have e_ := h_c0_6.n; subst e_
  have e_ := h_c0_7.n; subst e_
  refine enterC Tryd.func174 rfl 20 rfl (by simp) ?_
  refine x_seq <| x_region <|
    ?_
  refine o_box (cs := [.string c0.Name, .bool c0.Flop, .int .i64 c0.Ins, .int .u64 c0.Table, .int .i64 c0.Area, .slice A_c0_5 c0.Cap.length c_c0_5, .slice A_c0_6 c0.Min.length c_c0_6, .slice A_c0_7 c0.Max.length c_c0_7, .int .i64 c0.Drive, .int .i64 c0.Setup, .int .i64 c0.Hold]) rfl rfl hS (fun b1 w' hS => ?_)
  replace hF := lv_s hF; obtain ⟨x10, hx10, hF⟩ := hF
  replace hF := ck_s hF; obtain ⟨hk1_11, hF⟩ := hF
  replace hF := lv_s hF; obtain ⟨x14, hx14, hF⟩ := hF
  replace hF := ck_s hF; obtain ⟨hk1_14, hF⟩ := hF
  replace hF := lv_s hF; obtain ⟨x17, hx17, hF⟩ := hF
  replace hF := lv_s hF; obtain ⟨x19, hx19, hF⟩ := hF
  refine p (yl_assign rfl) <| x_done <| x_seq <| x_region <|
    p (yl_field0 fld_61_4 rfl) <| pa (at_load one_3 rfl (hS.cell rfl)) <| p (yl_geq rfl rfl) <| p (yl_move rfl) <|
    pg (v := .pointer (some ⟨b1, 4, none⟩)) 6 (c := decide (1 ≤ c0.Area)) (says_t _) (fun hq => Yl.at (yl_field0 fld_61_4 rfl)) <| pg (v := .int .i64 c0.Area) 6 (c := decide (1 ≤ c0.Area)) (says_t _) (fun hq => at_load one_3 (cv hq) (hS.cell rfl)) <| pg (v := .bool (decide (c0.Area ≤ 40))) 6 (c := decide (1 ≤ c0.Area)) (says_t _) (fun hq => Yl.at (yl_leq (cv hq) rfl)) <| p (yand' rfl (fun hc => (cv hc)) rfl hx10) <|
    p (yl_move rfl) <| pg (v := .pointer (some ⟨b1, 2, none⟩)) 11 (c := x10) (says_t _) (fun hq => Yl.at (yl_field0 fld_61_2 rfl)) <| pg (v := .int .i64 c0.Ins) 11 (c := x10) (says_t _) (fun hq => at_load one_3 (cv hq) (hS.cell rfl)) <| pg (v := .int .i64 x14) 11 (c := x10) (says_t _) (fun hq => Yl.at (ymul rfl (cv hq) ⟨hx14, (hk1_11 hq)⟩)) <|
    pg (v := .pointer (some ⟨b1, 4, none⟩)) 11 (c := x10) (says_t _) (fun hq => Yl.at (yl_field0 fld_61_4 rfl)) <| pg (v := .int .i64 c0.Area) 11 (c := x10) (says_t _) (fun hq => at_load one_3 (cv hq) (hS.cell rfl)) <| pg (v := .int .i64 x17) 11 (c := x10) (says_t _) (fun hq => Yl.at (ymul rfl (cv hq) ⟨hx17, (hk1_14 hq)⟩)) <| pg (v := .bool (decide (x14 ≤ x17))) 11 (c := x10) (says_t _) (fun hq => Yl.at (yl_leq (cv hq) (cv hq))) <|
    p (yand' rfl (fun hc => (cv hc)) rfl hx19) <| p (yl_assign rfl) <| x_done <|
    ?_
  have e_ := Option.some.inj (show some _ = some _ from hF); subst e_
  exact x_return ⟨_, ⟨_, _, rfl, rfl, rfl⟩, rfl, hS.drop⟩
attribute [irreducible] P_floor_Fits

def P_floor_CheckLib_L5 (l_0 : List T_api_Cell) : Int → Option (Int ⊕ (Unit ⊕ Int)) := fun y13_L5h =>
  if y13_L5h < (l_0.length : Int) then
    ck (inb y13_L5h l_0.length) <|
    lv (gt l_0 y13_L5h) fun y6_1 =>
    bd (P_floor_Fits y6_1) fun r7_1 =>
    if (!r7_1) = true then
      some (Sum.inr (Sum.inr (4 : Int)))
    else
      ar (y13_L5h + 1) fun x20 =>
      some (Sum.inl x20)
  else
    some (Sum.inr (Sum.inl ()))
def P_floor_CheckLib (l_0 : List T_api_Cell) : Option Int :=
  bd (P_lib_Check l_0) fun r1_1 =>
  if r1_1 ≠ 0 then
    some r1_1
  else
    bs (
      lp (P_floor_CheckLib_L5 l_0) fuel 0) (fun y => some y) fun _ =>
    some (0 : Int)
set_option maxHeartbeats 4000000 in
set_option maxRecDepth 100000 in
theorem c_floor_CheckLib {w0 w : World} {l : List Assn} {ρ : Heap} {A_l_0 : Option Addr} {n_l_0 : Nat} {c_l_0 : Nat} {l_0 : List T_api_Cell} {r : Int} (hF : P_floor_CheckLib l_0 = some r) (h_l_0 : RdS R_api_Cell ρ A_l_0 n_l_0 c_l_0 l_0) (hS : St w0 w (ro ρ :: l)) :
    Calls Tryd.prog 119 #[.slice A_l_0 n_l_0 c_l_0] w fun e w' => e = .returned (.int .i64 r) ∧ St w0 w' (ro ρ :: l) := by
  have e_ := h_l_0.n; subst e_
  refine enterC Tryd.func119 rfl 21 rfl (by simp) ?_
  replace hF := bd_s hF; obtain ⟨r1_1, hc1_1, hF⟩ := hF
  refine x_seq <| x_region <| p (yl_assign rfl) <| x_done <|
    x_seq <| x_seq <| x_region <| p (yl_move rfl) <|
    ?_
  have hcall := c_lib_Check hc1_1 h_l_0 hS
  refine o_cc call_173 (args1 rfl) (hcall) ?_
  rintro e w' ⟨rfl, hS⟩
  refine ⟨_, rfl, ?_⟩
  refine p (v := .int .i64 r1_1) (yl_assign rfl) <| x_done <| x_seq <| x_region <|
    p (v := .int .i64 r1_1) (yl_move rfl) <| p (yl_neq rfl rfl) <| x_done <|
    x_cond_p (r1_1 ≠ 0) rfl (fun hc9 => ?_) (fun hc9 => ?_)
  · replace hF := it_t hc9 hF
    refine x_seq <| x_region <| p (v := .int .i64 r1_1) (yl_move rfl) <| p (v := .int .i64 r1_1) (yl_assign rfl) <|
      x_done <|
      ?_
    have e_ := Option.some.inj (show some _ = some _ from hF); subst e_
    exact x_return ⟨_, ⟨_, _, rfl, rfl, rfl⟩, rfl, hS⟩
  · replace hF := it_f hc9 hF
    refine x_skip <| x_seq <| x_seq <| x_region <|
      p (yl_move rfl) <| p (yl_len_slice usl_31 rfl) <| p (yl_move rfl) <| x_done <|
      ?_
    replace hF := bs_s hF; obtain ⟨oL5, hLL5, hF⟩ := hF
    refine x_join (fun E w => (Sum.inl (())) = oL5 ∧ St w0 w (ro ρ :: l)) ?_ ?_
    · skip -- L5
      refine x_block ?_
      refine x_loop (fun k_ E w => ∃ (y13_L5h : Int), lp (P_floor_CheckLib_L5 l_0) k_ y13_L5h = some oL5 ∧ E 11 = .slice A_l_0 l_0.length c_l_0 ∧ E 12 = .int .i64 (l_0.length : Int) ∧ E 13 = .int .i64 y13_L5h ∧ St w0 w (ro ρ :: l)) fuel ⟨0, hLL5, rfl, rfl, rfl, hS⟩ ?_
      rintro kL5 E w ⟨y13_L5h, hLL5, eL5h_11, eL5h_12, eL5h_13, hS⟩
      replace hLL5 := lp_s hLL5; obtain ⟨kL5, obL5, rfl, hFL5, hLL5⟩ := hLL5
      refine x_seq <| x_region <| p (yl_lss eL5h_13 eL5h_12) <| x_done <|
        x_seq <|
        x_cond_p (y13_L5h < (l_0.length : Int)) rfl (fun hc14 => ?_) (fun hc14 => ?_)
      · replace hFL5 := it_t hc14 hFL5
        replace hFL5 := ck_s hFL5; obtain ⟨hk6_0, hFL5⟩ := hFL5
        replace hFL5 := lv_s hFL5; obtain ⟨y6_1, hy6_1, hFL5⟩ := hFL5
        have q_ := h_l_0.get hk6_0; obtain ⟨el6_1, ek6_1, ee6_1⟩ := q_
        rw [← hy6_1] at ek6_1
        obtain ⟨A6_1_5, n6_1_5, c6_1_5, A6_1_6, n6_1_6, c6_1_6, A6_1_7, n6_1_7, c6_1_7, rfl, f6_1_5, f6_1_6, f6_1_7⟩ := ek6_1
        have e_ := f6_1_5.n; subst e_
        have e_ := f6_1_6.n; subst e_
        have e_ := f6_1_7.n; subst e_
        refine x_skip <| x_seq <| x_block <| x_seq <|
          x_region <| p (yix_f sl_31 eL5h_11 eL5h_13 h_l_0 hk6_0) <| pa (v := .agg #[.string y6_1.Name, .bool y6_1.Flop, .int .i64 y6_1.Ins, .int .u64 y6_1.Table, .int .i64 y6_1.Area, .slice A6_1_5 y6_1.Cap.length c6_1_5, .slice A6_1_6 y6_1.Min.length c6_1_6, .slice A6_1_7 y6_1.Max.length c6_1_7, .int .i64 y6_1.Drive, .int .i64 y6_1.Setup, .int .i64 y6_1.Hold]) (at_loadAgg agg_61 rfl rfl (Elt.every ee6_1 hS)) <|
          ?_
        refine o_alloc zero_61 hS (fun b5 w' hS => ?_)
        refine o_storeAgg (news := [.string y6_1.Name, .bool y6_1.Flop, .int .i64 y6_1.Ins, .int .u64 y6_1.Table, .int .i64 y6_1.Area, .slice A6_1_5 y6_1.Cap.length c6_1_5, .slice A6_1_6 y6_1.Min.length c6_1_6, .slice A6_1_7 y6_1.Max.length c6_1_7, .int .i64 y6_1.Drive, .int .i64 y6_1.Setup, .int .i64 y6_1.Hold]) agg_61 rfl rfl rfl (by simp [over_length]) hS (fun w' hS => ?_)
        replace hFL5 := bd_s hFL5; obtain ⟨r7_1, hc7_1, hFL5⟩ := hFL5
        refine x_done <| x_seq <| x_region <| pa (v := .agg #[.string y6_1.Name, .bool y6_1.Flop, .int .i64 y6_1.Ins, .int .u64 y6_1.Table, .int .i64 y6_1.Area, .slice A6_1_5 y6_1.Cap.length c6_1_5, .slice A6_1_6 y6_1.Min.length c6_1_6, .slice A6_1_7 y6_1.Max.length c6_1_7, .int .i64 y6_1.Drive, .int .i64 y6_1.Setup, .int .i64 y6_1.Hold]) (ld_sub agg_61 rfl rfl rfl hS) <|
          ?_
        have hcall := c_floor_Fits hc7_1 f6_1_5 f6_1_6 f6_1_7 (hS.pull 1)
        refine o_cc call_174 (args1 rfl) ((Calls.mono hcall (fun e w'' h => And.intro h.1 (h.2.pull 1)))) ?_
        rintro e w' ⟨rfl, hS⟩
        refine ⟨_, rfl, ?_⟩
        refine p (yl_not rfl) <| x_done <|
          x_cond (t := !r7_1) rfl (fun hc19 => ?_) (fun hc19 => ?_)
        · replace hFL5 := it_t hc19 hFL5
          refine x_seq <| x_region <| p (yl_assign rfl) <| x_done <|
            ?_
          have e_ := Option.some.inj (show some _ = some _ from hFL5); subst e_
          have e_ := (show _ = oL5 from hLL5); subst e_
          have e_ := Option.some.inj (show some _ = some _ from hF); subst e_
          exact x_return ⟨_, ⟨_, _, rfl, rfl, rfl⟩, rfl, hS.drop⟩
        · replace hFL5 := it_bf hc19 hFL5
          replace hFL5 := ar_s hFL5; obtain ⟨x20, hx20, hFL5⟩ := hFL5
          refine x_skip <| x_blk <| x_region <| p (yadd eL5h_13 rfl hx20) <|
            p (yl_move rfl) <| x_done <|
            ?_
          have e_ := Option.some.inj (show some _ = some _ from hFL5); subst e_
          exact x_inv ⟨kL5, Nat.lt_succ_self _, x20, hLL5, eL5h_11, eL5h_12, rfl, hS.drop⟩
      · replace hFL5 := it_f hc14 hFL5
        refine x_exitTo _ rfl <|
          ?_
        have e_ := Option.some.inj (show some _ = some _ from hFL5); subst e_
        exact x_inv ⟨hLL5, hS⟩
    rintro E w ⟨rfl, hS⟩
    refine x_seq <| x_region <| p (yl_assign rfl) <| x_done <|
      ?_
    have e_ := Option.some.inj (show some _ = some _ from hF); subst e_
    exact x_return ⟨_, ⟨_, _, rfl, rfl, rfl⟩, rfl, hS⟩
attribute [irreducible] P_floor_CheckLib

def P_slices_Clone_string_string (s0 : List ByteArray) : Option (List ByteArray) :=
  lv (([] : List ByteArray) ++ s0) fun z3_2 =>
  ck (apOk 16 z3_2.length) <|
  some z3_2
set_option maxHeartbeats 4000000 in
set_option maxRecDepth 100000 in
theorem c_slices_Clone_string_string {w0 w : World} {l : List Assn} {ρ : Heap} {A_s0 : Option Addr} {n_s0 : Nat} {c_s0 : Nat} {s0 : List ByteArray} {r : List ByteArray} (hF : P_slices_Clone_string_string s0 = some r) (h_s0 : RdS RpS ρ A_s0 n_s0 c_s0 s0) (hS : St w0 w (ro ρ :: l)) :
    Calls Tryd.prog 121 #[.slice A_s0 n_s0 c_s0] w fun e w' => ∃ (A_y0_ret : Option Addr) (n_y0_ret : Nat) (c_y0_ret : Nat) (cs_y0_ret : List Value), e = .returned (.slice A_y0_ret n_y0_ret c_y0_ret) ∧ RepL RpS ρ r cs_y0_ret ∧ St w0 w' (vec 9 RpS.sz (.slice A_y0_ret n_y0_ret c_y0_ret) n_y0_ret cs_y0_ret :: ro ρ :: l) := by
  have e_ := h_s0.n; subst e_
  refine enterC Tryd.func121 rfl 8 rfl (by simp) ?_
  refine x_seq <| x_region <| p (yl_assign rfl) <| x_done <|
    x_seq <| x_seq <| x_region <| p (yl_move rfl) <|
    p (yeq_nil usl_26 rfl rfl) <| x_done <|
    x_cond (t := Option.isNone A_s0) rfl (fun hc4 => ?_) (fun hc4 => ?_)
  · have hx0 : s0 = [] := RdS.nil_of h_s0 hc4
    have hF : some ([] : List ByteArray) = some r := by rw [hx0] at hF; unfold P_slices_Clone_string_string at hF; simpa [lv, ck, apOk] using hF
    refine x_seq <| x_region <| p (yl_assign rfl) <| x_done <|
      ?_
    replace hS := St.vec_nil hS 9 RpS.sz
    have hnil_A_y0_ret : RepL RpS ρ [] [] := rfl
    have e_ := Option.some.inj (show some _ = some _ from hF); subst e_
    exact x_return ⟨_, ⟨_, _, rfl, rfl, rfl⟩, none, 0, 0, [], rfl, hnil_A_y0_ret, ((hS.pull 1).pull 1)⟩
  · skip
    refine x_skip <| x_seq <| x_region <|
      ?_
    refine o_buildSlice (vs := []) (cs := []) sl_26 zero_9 (parts_eq pt0) rfl (by intro v hv; cases hv) (by decide) rfl hS (fun b5 w' hS => ?_)
    refine p (yl_move rfl) <|
      ?_
    have hl3_2 : RepL RpS ρ ([] : List ByteArray) [] := RepL.nil
    replace hS := St.vec_of (n := 0) (sz := RpS.sz) hS rfl (by decide)
    have q_ := src_f usl_26 (hS.pull 1) h_s0; obtain ⟨nw7, hnw7, src7⟩ := q_
    replace hF := lv_s hF; obtain ⟨z3_2, hz3_2, hF⟩ := hF
    replace hF := ck_s hF; obtain ⟨hk3_2, hF⟩ := hF
    refine o_ap sl_26 zero_9 rfl (by decide) rfl rfl hS hl3_2 src7 hnw7 hz3_2 hk3_2 (fun A7 c7 cs7 w' hr7 hS => ?_)
    refine p (yl_assign rfl) <| x_done <|
      ?_
    have e_ := Option.some.inj (show some _ = some _ from hF); subst e_
    exact x_return ⟨_, ⟨_, _, rfl, rfl, rfl⟩, A7, z3_2.length, c7, cs7, rfl, hr7, ((hS.pull 1).pull 1)⟩
attribute [irreducible] P_slices_Clone_string_string

def P_graph_Name_L4 (z3_1 : List Int) : Int → Option (Int ⊕ (Unit ⊕ Bool)) := fun y16_L4h =>
  if y16_L4h < (z3_1.length : Int) then
    ck (inb y16_L4h z3_1.length) <|
    lv (gt z3_1 y16_L4h) fun x19 =>
    lv ((decide (x19 < 33)) || (decide (126 < x19))) fun x25 =>
    if x25 = true then
      some (Sum.inr (Sum.inr false))
    else
      ar (y16_L4h + 1) fun x26 =>
      some (Sum.inl x26)
  else
    some (Sum.inr (Sum.inl ()))
def P_graph_Name (s0 : ByteArray) : Option Bool :=
  lv ((decide ((s0.size : Int) < 1)) || (decide (128 < (s0.size : Int)))) fun x12 =>
  if x12 = true then
    some false
  else
    lv (bytesL s0) fun z3_1 =>
    bs (
      lp (P_graph_Name_L4 z3_1) fuel 0) (fun y => some y) fun _ =>
    some true
set_option maxHeartbeats 4000000 in
set_option maxRecDepth 100000 in
theorem c_graph_Name {w0 w : World} {l : List Assn} {ρ : Heap} {s0 : ByteArray} {r : Bool} (hF : P_graph_Name s0 = some r) (hS : St w0 w (ro ρ :: l)) :
    Calls Tryd.prog 231 #[.string s0] w fun e w' => e = .returned (.bool r) ∧ St w0 w' (ro ρ :: l) := by
  refine enterC Tryd.func231 rfl 27 rfl (by simp) ?_
  replace hF := lv_s hF; obtain ⟨x12, hx12, hF⟩ := hF
  refine x_seq <| x_region <| p (yl_assign rfl) <| x_done <|
    x_seq <| x_seq <| x_region <| p (yl_move rfl) <|
    p (yl_len_string us_9 rfl) <| p (yl_lss rfl rfl) <| p (yl_move rfl) <| pg (v := .string s0) 8 (c := !(decide ((s0.size : Int) < 1))) (says_f _) (fun hq => Yl.at (yl_move rfl)) <|
    pg (v := .int .i64 (s0.size : Int)) 8 (c := !(decide ((s0.size : Int) < 1))) (says_f _) (fun hq => Yl.at (yl_len_string us_9 (cv hq))) <| pg (v := .bool (decide (128 < (s0.size : Int)))) 8 (c := !(decide ((s0.size : Int) < 1))) (says_f _) (fun hq => Yl.at (yl_gtr (cv hq) rfl)) <| p (yor' rfl rfl (fun hc => (cv (t_not hc))) hx12) <| x_done <|
    x_cond (t := x12) rfl (fun hc12 => ?_) (fun hc12 => ?_)
  · replace hF := it_t hc12 hF
    refine x_seq <| x_region <| p (yl_assign rfl) <| x_done <|
      ?_
    have e_ := Option.some.inj (show some _ = some _ from hF); subst e_
    exact x_return ⟨_, ⟨_, _, rfl, rfl, rfl⟩, rfl, hS⟩
  · replace hF := it_bf hc12 hF
    refine x_skip <| x_seq <| x_seq <| x_region <|
      p (yl_move rfl) <|
      ?_
    replace hF := lv_s hF; obtain ⟨z3_1, hz3_1, hF⟩ := hF
    refine o_byt us_9 usl_217 ui_5 rfl hz3_1 hS (fun ρ3_1 A14 c14 w' hle3_1 f14 hS => ?_)
    refine p (yl_len_slice usl_217 rfl) <| p (yl_move rfl) <| x_done <|
      ?_
    replace hF := bs_s hF; obtain ⟨oL4, hLL4, hF⟩ := hF
    refine x_join (fun E w => (Sum.inl (())) = oL4 ∧ St w0 w (ro ρ3_1 :: l)) ?_ ?_
    · skip -- L4
      refine x_block ?_
      refine x_loop (fun k_ E w => ∃ (y16_L4h : Int), lp (P_graph_Name_L4 z3_1) k_ y16_L4h = some oL4 ∧ E 14 = .slice A14 z3_1.length c14 ∧ E 15 = .int .i64 (z3_1.length : Int) ∧ E 16 = .int .i64 y16_L4h ∧ St w0 w (ro ρ3_1 :: l)) fuel ⟨0, hLL4, rfl, rfl, rfl, hS⟩ ?_
      rintro kL4 E w ⟨y16_L4h, hLL4, eL4h_14, eL4h_15, eL4h_16, hS⟩
      replace hLL4 := lp_s hLL4; obtain ⟨kL4, obL4, rfl, hFL4, hLL4⟩ := hLL4
      refine x_seq <| x_region <| p (yl_lss eL4h_16 eL4h_15) <| x_done <|
        x_seq <|
        x_cond_p (y16_L4h < (z3_1.length : Int)) rfl (fun hc17 => ?_) (fun hc17 => ?_)
      · replace hFL4 := it_t hc17 hFL4
        replace hFL4 := ck_s hFL4; obtain ⟨hk5_0, hFL4⟩ := hFL4
        replace hFL4 := lv_s hFL4; obtain ⟨x19, hx19, hFL4⟩ := hFL4
        replace hFL4 := lv_s hFL4; obtain ⟨x25, hx25, hFL4⟩ := hFL4
        refine x_skip <| x_seq <| x_block <| x_seq <|
          x_region <| p (yix_f sl_217 eL4h_14 eL4h_16 f14 hk5_0) <| pa (at_load one_5 rfl (RdS.getW f14 hS hk5_0 hx19)) <| p (yl_assign rfl) <|
          x_done <| x_seq <| x_region <| p (yl_move rfl) <|
          p (yl_lss rfl rfl) <| p (yl_move rfl) <| pg (v := .int .u8 x19) 22 (c := !(decide (x19 < 33))) (says_f _) (fun hq => Yl.at (yl_move rfl)) <| pg (v := .bool (decide (126 < x19))) 22 (c := !(decide (x19 < 33))) (says_f _) (fun hq => Yl.at (yl_gtr (cv hq) rfl)) <|
          p (yor' rfl rfl (fun hc => (cv (t_not hc))) hx25) <| x_done <|
          x_cond (t := x25) rfl (fun hc25 => ?_) (fun hc25 => ?_)
        · replace hFL4 := it_t hc25 hFL4
          refine x_seq <| x_region <| p (yl_assign rfl) <| x_done <|
            ?_
          have e_ := Option.some.inj (show some _ = some _ from hFL4); subst e_
          have e_ := (show _ = oL4 from hLL4); subst e_
          have e_ := Option.some.inj (show some _ = some _ from hF); subst e_
          exact x_return ⟨_, ⟨_, _, rfl, rfl, rfl⟩, rfl, (ro_back0 hle3_1 hS)⟩
        · replace hFL4 := it_bf hc25 hFL4
          replace hFL4 := ar_s hFL4; obtain ⟨x26, hx26, hFL4⟩ := hFL4
          refine x_skip <| x_blk <| x_region <| p (yadd eL4h_16 rfl hx26) <|
            p (yl_move rfl) <| x_done <|
            ?_
          have e_ := Option.some.inj (show some _ = some _ from hFL4); subst e_
          exact x_inv ⟨kL4, Nat.lt_succ_self _, x26, hLL4, eL4h_14, eL4h_15, rfl, hS⟩
      · replace hFL4 := it_f hc17 hFL4
        refine x_exitTo _ rfl <|
          ?_
        have e_ := Option.some.inj (show some _ = some _ from hFL4); subst e_
        exact x_inv ⟨hLL4, hS⟩
    rintro E w ⟨rfl, hS⟩
    refine x_seq <| x_region <| p (yl_assign rfl) <| x_done <|
      ?_
    have e_ := Option.some.inj (show some _ = some _ from hF); subst e_
    exact x_return ⟨_, ⟨_, _, rfl, rfl, rfl⟩, rfl, (ro_back0 hle3_1 hS)⟩
attribute [irreducible] P_graph_Name

def P_graph_Names_L3 (l_0 : List ByteArray) : (List (ByteArray × Int) × Int) → Option ((List (ByteArray × Int) × Int) ⊕ (Unit ⊕ Int)) := fun (seen3_L3h, y9_L3h) =>
  if y9_L3h < (l_0.length : Int) then
    ck (inb y9_L3h l_0.length) <|
    lv (gt l_0 y9_L3h) fun x12 =>
    bd (P_graph_Name x12) fun r5_1 =>
    if (!r5_1) = true then
      some (Sum.inr (Sum.inr (9 : Int)))
    else
      lv (mget x12 seen3_L3h 0) fun x18 =>
      ar (x18 + 1) fun x19 =>
      lv (mput x12 x19 seen3_L3h) fun z7_4 =>
      lv (mget x12 z7_4 0) fun x22 =>
      if 1 < x22 then
        some (Sum.inr (Sum.inr (6 : Int)))
      else
        ar (y9_L3h + 1) fun x24 =>
        some (Sum.inl (z7_4, x24))
  else
    some (Sum.inr (Sum.inl ()))
def P_graph_Names (l_0 : List ByteArray) : Option Int :=
  bs (
    lp (P_graph_Names_L3 l_0) fuel ([], 0)) (fun y => some y) fun _ =>
  some (0 : Int)
set_option maxHeartbeats 4000000 in
set_option maxRecDepth 100000 in
theorem c_graph_Names {w0 w : World} {l : List Assn} {ρ : Heap} {A_l_0 : Option Addr} {n_l_0 : Nat} {c_l_0 : Nat} {l_0 : List ByteArray} {r : Int} (hF : P_graph_Names l_0 = some r) (h_l_0 : RdS RpS ρ A_l_0 n_l_0 c_l_0 l_0) (hS : St w0 w (ro ρ :: l)) :
    Calls Tryd.prog 205 #[.slice A_l_0 n_l_0 c_l_0] w fun e w' => e = .returned (.int .i64 r) ∧ St w0 w' (ro ρ :: l) := by
  have e_ := h_l_0.n; subst e_
  refine enterC Tryd.func205 rfl 25 rfl (by simp) ?_
  refine x_seq <| x_region <| p (yl_assign rfl) <| x_done <|
    x_seq <| x_region <|
    ?_
  refine o_mkmap (κ := ByteArray) (α := Int) Value.string (Value.int .i64) hS (fun b6 w' hS => ?_)
  refine p (yl_assign rfl) <| x_done <| x_seq <| x_seq <|
    x_region <| p (yl_move rfl) <| p (yl_len_slice usl_26 rfl) <| p (yl_move rfl) <|
    x_done <|
    ?_
  replace hF := bs_s hF; obtain ⟨oL3, hLL3, hF⟩ := hF
  refine x_join (fun E w => (Sum.inl (())) = oL3 ∧ St w0 w (ro ρ :: l)) ?_ ?_
  · skip -- L3
    refine x_block ?_
    refine x_loop (fun k_ E w => ∃ (seen3_L3h : List (ByteArray × Int)) (y9_L3h : Int), lp (P_graph_Names_L3 l_0) k_ (seen3_L3h, y9_L3h) = some oL3 ∧ E 3 = .map (some b6) ∧ E 7 = .slice A_l_0 l_0.length c_l_0 ∧ E 8 = .int .i64 (l_0.length : Int) ∧ E 9 = .int .i64 y9_L3h ∧ St w0 w (mapA b6 Value.string (Value.int .i64) seen3_L3h :: ro ρ :: l)) fuel ⟨[], 0, hLL3, rfl, rfl, rfl, rfl, ((hS.pull 1).pull 1)⟩ ?_
    rintro kL3 E w ⟨seen3_L3h, y9_L3h, hLL3, eL3h_3, eL3h_7, eL3h_8, eL3h_9, hS⟩
    replace hLL3 := lp_s hLL3; obtain ⟨kL3, obL3, rfl, hFL3, hLL3⟩ := hLL3
    refine x_seq <| x_region <| p (yl_lss eL3h_9 eL3h_8) <| x_done <|
      x_seq <|
      x_cond_p (y9_L3h < (l_0.length : Int)) rfl (fun hc10 => ?_) (fun hc10 => ?_)
    · replace hFL3 := it_t hc10 hFL3
      replace hFL3 := ck_s hFL3; obtain ⟨hk4_0, hFL3⟩ := hFL3
      replace hFL3 := lv_s hFL3; obtain ⟨x12, hx12, hFL3⟩ := hFL3
      replace hFL3 := bd_s hFL3; obtain ⟨r5_1, hc5_1, hFL3⟩ := hFL3
      refine x_skip <| x_seq <| x_block <| x_seq <|
        x_region <| p (yix_f sl_26 eL3h_7 eL3h_9 h_l_0 hk4_0) <| pa (at_load one_9 rfl (RdS.getW h_l_0 (hS.pull 1) hk4_0 hx12)) <| p (yl_assign rfl) <|
        x_done <| x_seq <| x_seq <| x_region <|
        p (yl_move rfl) <|
        ?_
      have hcall := c_graph_Name hc5_1  (hS.pull 1)
      refine o_cc call_231 (args1 rfl) ((Calls.mono hcall (fun e w'' h => And.intro h.1 (h.2.pull 1)))) ?_
      rintro e w' ⟨rfl, hS⟩
      refine ⟨_, rfl, ?_⟩
      refine p (yl_not rfl) <| x_done <|
        x_cond (t := !r5_1) rfl (fun hc15 => ?_) (fun hc15 => ?_)
      · replace hFL3 := it_t hc15 hFL3
        refine x_seq <| x_region <| p (yl_assign rfl) <| x_done <|
          ?_
        have e_ := Option.some.inj (show some _ = some _ from hFL3); subst e_
        have e_ := (show _ = oL3 from hLL3); subst e_
        have e_ := Option.some.inj (show some _ = some _ from hF); subst e_
        exact x_return ⟨_, ⟨_, _, rfl, rfl, rfl⟩, rfl, hS.drop⟩
      · replace hFL3 := it_bf hc15 hFL3
        replace hFL3 := lv_s hFL3; obtain ⟨x18, hx18, hFL3⟩ := hFL3
        replace hFL3 := ar_s hFL3; obtain ⟨x19, hx19, hFL3⟩ := hFL3
        refine x_skip <| x_seq <| x_region <| p (yl_move eL3h_3) <|
          p (yl_move rfl) <| pa (at_look (k := x12) um_348 (KeyP.string us_9) (zero1 zv_3) rfl rfl hS hx18) <| p (yadd rfl rfl hx19) <|
          ?_
        replace hFL3 := lv_s hFL3; obtain ⟨z7_4, hz7_4, hFL3⟩ := hFL3
        refine o_mapset (vf := (Value.int .i64)) (v := x19) um_348 (KeyP.string us_9) rfl rfl rfl hS hz7_4 (fun w' hS => ?_)
        replace hFL3 := lv_s hFL3; obtain ⟨x22, hx22, hFL3⟩ := hFL3
        refine x_done <| x_seq <| x_region <| p (yl_move eL3h_3) <|
          p (yl_move rfl) <| pa (at_look (k := x12) um_348 (KeyP.string us_9) (zero1 zv_3) rfl rfl hS hx22) <| p (yl_gtr rfl rfl) <| x_done <|
          x_cond_p (1 < x22) rfl (fun hc23 => ?_) (fun hc23 => ?_)
        · replace hFL3 := it_t hc23 hFL3
          refine x_seq <| x_region <| p (yl_assign rfl) <| x_done <|
            ?_
          have e_ := Option.some.inj (show some _ = some _ from hFL3); subst e_
          have e_ := (show _ = oL3 from hLL3); subst e_
          have e_ := Option.some.inj (show some _ = some _ from hF); subst e_
          exact x_return ⟨_, ⟨_, _, rfl, rfl, rfl⟩, rfl, hS.drop⟩
        · replace hFL3 := it_f hc23 hFL3
          replace hFL3 := ar_s hFL3; obtain ⟨x24, hx24, hFL3⟩ := hFL3
          refine x_skip <| x_blk <| x_region <| p (yadd eL3h_9 rfl hx24) <|
            p (yl_move rfl) <| x_done <|
            ?_
          have e_ := Option.some.inj (show some _ = some _ from hFL3); subst e_
          exact x_inv ⟨kL3, Nat.lt_succ_self _, z7_4, x24, hLL3, eL3h_3, eL3h_7, eL3h_8, rfl, ((hS.pull 1).pull 1)⟩
    · replace hFL3 := it_f hc10 hFL3
      refine x_exitTo _ rfl <|
        ?_
      have e_ := Option.some.inj (show some _ = some _ from hFL3); subst e_
      exact x_inv ⟨hLL3, hS.drop⟩
  rintro E w ⟨rfl, hS⟩
  refine x_seq <| x_region <| p (yl_assign rfl) <| x_done <|
    ?_
  have e_ := Option.some.inj (show some _ = some _ from hF); subst e_
  exact x_return ⟨_, ⟨_, _, rfl, rfl, rfl⟩, rfl, hS⟩
attribute [irreducible] P_graph_Names

def P_netlist_First (n0 : T_api_Netlist) : Option Int :=
  ar ((2 : Int) + (n0.In.length : Int)) fun x6 =>
  ar (x6 + (n0.Flops.length : Int)) fun x10 =>
  some x10
set_option maxHeartbeats 4000000 in
set_option maxRecDepth 100000 in
theorem c_netlist_First {w0 w : World} {l : List Assn} {ρ : Heap} {A_n0_0 : Option Addr} {n_n0_0 : Nat} {c_n0_0 : Nat} {A_n0_1 : Option Addr} {n_n0_1 : Nat} {c_n0_1 : Nat} {A_n0_2 : Option Addr} {n_n0_2 : Nat} {c_n0_2 : Nat} {A_n0_3 : Option Addr} {n_n0_3 : Nat} {c_n0_3 : Nat} {A_n0_4 : Option Addr} {n_n0_4 : Nat} {c_n0_4 : Nat} {n0 : T_api_Netlist} {r : Int} (hF : P_netlist_First n0 = some r) (h_n0_0 : RdS RpS ρ A_n0_0 n_n0_0 c_n0_0 n0.In) (h_n0_1 : RdS RpS ρ A_n0_1 n_n0_1 c_n0_1 n0.Out) (h_n0_2 : RdS R_api_Flop ρ A_n0_2 n_n0_2 c_n0_2 n0.Flops) (h_n0_3 : RdS R_api_Gate ρ A_n0_3 n_n0_3 c_n0_3 n0.Gates) (h_n0_4 : RdS (RpI .i64) ρ A_n0_4 n_n0_4 c_n0_4 n0.Outs) (hS : St w0 w (ro ρ :: l)) :
    Calls Tryd.prog 44 #[.agg #[.slice A_n0_0 n_n0_0 c_n0_0, .slice A_n0_1 n_n0_1 c_n0_1, .slice A_n0_2 n_n0_2 c_n0_2, .slice A_n0_3 n_n0_3 c_n0_3, .slice A_n0_4 n_n0_4 c_n0_4]] w fun e w' => e = .returned (.int .i64 r) ∧ St w0 w' (ro ρ :: l) := by
  have e_ := h_n0_0.n; subst e_
  have e_ := h_n0_1.n; subst e_
  have e_ := h_n0_2.n; subst e_
  have e_ := h_n0_3.n; subst e_
  have e_ := h_n0_4.n; subst e_
  refine enterC Tryd.func44 rfl 11 rfl (by simp) ?_
  refine x_seq <| x_region <|
    ?_
  refine o_box (cs := [.slice A_n0_0 n0.In.length c_n0_0, .slice A_n0_1 n0.Out.length c_n0_1, .slice A_n0_2 n0.Flops.length c_n0_2, .slice A_n0_3 n0.Gates.length c_n0_3, .slice A_n0_4 n0.Outs.length c_n0_4]) rfl rfl hS (fun b1 w' hS => ?_)
  replace hF := ar_s hF; obtain ⟨x6, hx6, hF⟩ := hF
  replace hF := ar_s hF; obtain ⟨x10, hx10, hF⟩ := hF
  refine p (yl_assign rfl) <| x_done <| x_seq <| x_region <|
    p (yl_field0 fld_30_0 rfl) <| pa (at_load one_26 rfl (hS.cell rfl)) <| p (yl_len_slice usl_26 rfl) <| p (yadd rfl rfl hx6) <|
    p (yl_field0 fld_30_2 rfl) <| pa (at_load one_27 rfl (hS.cell rfl)) <| p (yl_len_slice usl_27 rfl) <| p (yadd rfl rfl hx10) <|
    p (yl_assign rfl) <| x_done <|
    ?_
  have e_ := Option.some.inj (show some _ = some _ from hF); subst e_
  exact x_return ⟨_, ⟨_, _, rfl, rfl, rfl⟩, rfl, hS.drop⟩
attribute [irreducible] P_netlist_First

def P_netlist_Nets (n0 : T_api_Netlist) : Option Int :=
  bd (P_netlist_First n0) fun r1_1 =>
  ar (r1_1 + (n0.Gates.length : Int)) fun x8 =>
  some x8
set_option maxHeartbeats 4000000 in
set_option maxRecDepth 100000 in
theorem c_netlist_Nets {w0 w : World} {l : List Assn} {ρ : Heap} {A_n0_0 : Option Addr} {n_n0_0 : Nat} {c_n0_0 : Nat} {A_n0_1 : Option Addr} {n_n0_1 : Nat} {c_n0_1 : Nat} {A_n0_2 : Option Addr} {n_n0_2 : Nat} {c_n0_2 : Nat} {A_n0_3 : Option Addr} {n_n0_3 : Nat} {c_n0_3 : Nat} {A_n0_4 : Option Addr} {n_n0_4 : Nat} {c_n0_4 : Nat} {n0 : T_api_Netlist} {r : Int} (hF : P_netlist_Nets n0 = some r) (h_n0_0 : RdS RpS ρ A_n0_0 n_n0_0 c_n0_0 n0.In) (h_n0_1 : RdS RpS ρ A_n0_1 n_n0_1 c_n0_1 n0.Out) (h_n0_2 : RdS R_api_Flop ρ A_n0_2 n_n0_2 c_n0_2 n0.Flops) (h_n0_3 : RdS R_api_Gate ρ A_n0_3 n_n0_3 c_n0_3 n0.Gates) (h_n0_4 : RdS (RpI .i64) ρ A_n0_4 n_n0_4 c_n0_4 n0.Outs) (hS : St w0 w (ro ρ :: l)) :
    Calls Tryd.prog 13 #[.agg #[.slice A_n0_0 n_n0_0 c_n0_0, .slice A_n0_1 n_n0_1 c_n0_1, .slice A_n0_2 n_n0_2 c_n0_2, .slice A_n0_3 n_n0_3 c_n0_3, .slice A_n0_4 n_n0_4 c_n0_4]] w fun e w' => e = .returned (.int .i64 r) ∧ St w0 w' (ro ρ :: l) := by
  have e_ := h_n0_0.n; subst e_
  have e_ := h_n0_1.n; subst e_
  have e_ := h_n0_2.n; subst e_
  have e_ := h_n0_3.n; subst e_
  have e_ := h_n0_4.n; subst e_
  refine enterC Tryd.func13 rfl 9 rfl (by simp) ?_
  refine x_seq <| x_region <|
    ?_
  refine o_box (cs := [.slice A_n0_0 n0.In.length c_n0_0, .slice A_n0_1 n0.Out.length c_n0_1, .slice A_n0_2 n0.Flops.length c_n0_2, .slice A_n0_3 n0.Gates.length c_n0_3, .slice A_n0_4 n0.Outs.length c_n0_4]) rfl rfl hS (fun b1 w' hS => ?_)
  replace hF := bd_s hF; obtain ⟨r1_1, hc1_1, hF⟩ := hF
  replace hF := ar_s hF; obtain ⟨x8, hx8, hF⟩ := hF
  refine p (yl_assign rfl) <| x_done <| x_seq <| x_still mixed (by kernel_rfl) hS <|
    qa (v := .agg #[.slice A_n0_0 n0.In.length c_n0_0, .slice A_n0_1 n0.Out.length c_n0_1, .slice A_n0_2 n0.Flops.length c_n0_2, .slice A_n0_3 n0.Gates.length c_n0_3, .slice A_n0_4 n0.Outs.length c_n0_4]) (fun w' hS => ld_sub agg_30 rfl rfl rfl hS) <| qcc (v := .int .i64 r1_1) call_44 (args1 rfl) (fun w' hS => by
      have hcall := c_netlist_First hc1_1 h_n0_0 h_n0_1 h_n0_2 h_n0_3 h_n0_4 (hS.pull 1)
      exact (Calls.mono hcall (fun e w'' h => And.intro h.1 (h.2.pull 1)))) <| q (yl_field0 fld_30_3 rfl) <| qa (fun w' hS => at_load one_28 rfl (hS.cell rfl)) <|
    q (yl_len_slice usl_28 rfl) <| q (yadd rfl rfl hx8) <| q (yl_assign rfl) <|
    q_done fun w' hS => ?_
  have e_ := Option.some.inj (show some _ = some _ from hF); subst e_
  exact x_return ⟨_, ⟨_, _, rfl, rfl, rfl⟩, rfl, hS.drop⟩
attribute [irreducible] P_netlist_Nets

def P_netlist_ends_L3 (n0 : T_api_Netlist) (r1_1 : Int) : Int → Option (Int ⊕ (Unit ⊕ Int)) := fun y13_L3h =>
  if y13_L3h < (n0.Flops.length : Int) then
    ck (inb y13_L3h n0.Flops.length) <|
    lv (gt n0.Flops y13_L3h) fun y4_1 =>
    lv ((decide (y4_1.D < 0)) || (decide (r1_1 ≤ y4_1.D))) fun x25 =>
    lv (x25 || (decide (y4_1.En < 0))) fun x30 =>
    lv (x30 || (decide (r1_1 ≤ y4_1.En))) fun x36 =>
    if x36 = true then
      some (Sum.inr (Sum.inr (2 : Int)))
    else
      ar (y13_L3h + 1) fun x37 =>
      some (Sum.inl x37)
  else
    some (Sum.inr (Sum.inl ()))
def P_netlist_ends_L9 (n0 : T_api_Netlist) (r1_1 : Int) : Int → Option (Int ⊕ (Unit ⊕ Int)) := fun y41_L9h =>
  if y41_L9h < (n0.Outs.length : Int) then
    ck (inb y41_L9h n0.Outs.length) <|
    lv (gt n0.Outs y41_L9h) fun x44 =>
    lv ((decide (x44 < 0)) || (decide (r1_1 ≤ x44))) fun x51 =>
    if x51 = true then
      some (Sum.inr (Sum.inr (2 : Int)))
    else
      ar (y41_L9h + 1) fun x52 =>
      some (Sum.inl x52)
  else
    some (Sum.inr (Sum.inl ()))
def P_netlist_ends (n0 : T_api_Netlist) : Option Int :=
  bd (P_netlist_Nets n0) fun r1_1 =>
  bs (
    lp (P_netlist_ends_L3 n0 r1_1) fuel 0) (fun y => some y) fun _ =>
  bs (
    lp (P_netlist_ends_L9 n0 r1_1) fuel 0) (fun y => some y) fun _ =>
  some (0 : Int)
set_option maxHeartbeats 4000000 in
set_option maxRecDepth 100000 in
theorem c_netlist_ends {w0 w : World} {l : List Assn} {ρ : Heap} {A_n0_0 : Option Addr} {n_n0_0 : Nat} {c_n0_0 : Nat} {A_n0_1 : Option Addr} {n_n0_1 : Nat} {c_n0_1 : Nat} {A_n0_2 : Option Addr} {n_n0_2 : Nat} {c_n0_2 : Nat} {A_n0_3 : Option Addr} {n_n0_3 : Nat} {c_n0_3 : Nat} {A_n0_4 : Option Addr} {n_n0_4 : Nat} {c_n0_4 : Nat} {n0 : T_api_Netlist} {r : Int} (hF : P_netlist_ends n0 = some r) (h_n0_0 : RdS RpS ρ A_n0_0 n_n0_0 c_n0_0 n0.In) (h_n0_1 : RdS RpS ρ A_n0_1 n_n0_1 c_n0_1 n0.Out) (h_n0_2 : RdS R_api_Flop ρ A_n0_2 n_n0_2 c_n0_2 n0.Flops) (h_n0_3 : RdS R_api_Gate ρ A_n0_3 n_n0_3 c_n0_3 n0.Gates) (h_n0_4 : RdS (RpI .i64) ρ A_n0_4 n_n0_4 c_n0_4 n0.Outs) (hS : St w0 w (ro ρ :: l)) :
    Calls Tryd.prog 207 #[.agg #[.slice A_n0_0 n_n0_0 c_n0_0, .slice A_n0_1 n_n0_1 c_n0_1, .slice A_n0_2 n_n0_2 c_n0_2, .slice A_n0_3 n_n0_3 c_n0_3, .slice A_n0_4 n_n0_4 c_n0_4]] w fun e w' => e = .returned (.int .i64 r) ∧ St w0 w' (ro ρ :: l) := by
  have e_ := h_n0_0.n; subst e_
  have e_ := h_n0_1.n; subst e_
  have e_ := h_n0_2.n; subst e_
  have e_ := h_n0_3.n; subst e_
  have e_ := h_n0_4.n; subst e_
  refine enterC Tryd.func207 rfl 53 rfl (by simp) ?_
  refine x_seq <| x_region <|
    ?_
  refine o_box (cs := [.slice A_n0_0 n0.In.length c_n0_0, .slice A_n0_1 n0.Out.length c_n0_1, .slice A_n0_2 n0.Flops.length c_n0_2, .slice A_n0_3 n0.Gates.length c_n0_3, .slice A_n0_4 n0.Outs.length c_n0_4]) rfl rfl hS (fun b1 w' hS => ?_)
  replace hF := bd_s hF; obtain ⟨r1_1, hc1_1, hF⟩ := hF
  refine p (yl_assign rfl) <| x_done <| x_seq <| x_region <|
    pa (v := .agg #[.slice A_n0_0 n0.In.length c_n0_0, .slice A_n0_1 n0.Out.length c_n0_1, .slice A_n0_2 n0.Flops.length c_n0_2, .slice A_n0_3 n0.Gates.length c_n0_3, .slice A_n0_4 n0.Outs.length c_n0_4]) (ld_sub agg_30 rfl rfl rfl hS) <|
    ?_
  have hcall := c_netlist_Nets hc1_1 h_n0_0 h_n0_1 h_n0_2 h_n0_3 h_n0_4 (hS.pull 1)
  refine o_cc call_13 (args1 rfl) ((Calls.mono hcall (fun e w'' h => And.intro h.1 (h.2.pull 1)))) ?_
  rintro e w' ⟨rfl, hS⟩
  refine ⟨_, rfl, ?_⟩
  refine p (v := .int .i64 r1_1) (yl_assign rfl) <| x_done <| x_seq <| x_seq <|
    x_region <| p (yl_field0 fld_30_2 rfl) <| pa (at_load one_27 rfl (hS.cell rfl)) <| p (yl_len_slice usl_27 rfl) <|
    p (yl_move rfl) <| x_done <|
    ?_
  replace hF := bs_s hF; obtain ⟨oL3, hLL3, hF⟩ := hF
  refine x_join (fun E w => (Sum.inl (())) = oL3 ∧ E 1 = .pointer (some ⟨b1, 0, none⟩) ∧ E 3 = .int .i64 r1_1 ∧ St w0 w (cells b1 30 [.slice A_n0_0 n0.In.length c_n0_0, .slice A_n0_1 n0.Out.length c_n0_1, .slice A_n0_2 n0.Flops.length c_n0_2, .slice A_n0_3 n0.Gates.length c_n0_3, .slice A_n0_4 n0.Outs.length c_n0_4] :: ro ρ :: l)) ?_ ?_
  · skip -- L3
    refine x_block ?_
    refine x_loop (fun k_ E w => ∃ (y13_L3h : Int), lp (P_netlist_ends_L3 n0 r1_1) k_ y13_L3h = some oL3 ∧ E 1 = .pointer (some ⟨b1, 0, none⟩) ∧ E 3 = .int .i64 r1_1 ∧ E 11 = .slice A_n0_2 n0.Flops.length c_n0_2 ∧ E 12 = .int .i64 (n0.Flops.length : Int) ∧ E 13 = .int .i64 y13_L3h ∧ St w0 w (cells b1 30 [.slice A_n0_0 n0.In.length c_n0_0, .slice A_n0_1 n0.Out.length c_n0_1, .slice A_n0_2 n0.Flops.length c_n0_2, .slice A_n0_3 n0.Gates.length c_n0_3, .slice A_n0_4 n0.Outs.length c_n0_4] :: ro ρ :: l)) fuel ⟨0, hLL3, rfl, rfl, rfl, rfl, rfl, ((hS.pull 1).pull 1)⟩ ?_
    rintro kL3 E w ⟨y13_L3h, hLL3, eL3h_1, eL3h_3, eL3h_11, eL3h_12, eL3h_13, hS⟩
    replace hLL3 := lp_s hLL3; obtain ⟨kL3, obL3, rfl, hFL3, hLL3⟩ := hLL3
    refine x_seq <| x_region <| p (yl_lss eL3h_13 eL3h_12) <| x_done <|
      x_seq <|
      x_cond_p (y13_L3h < (n0.Flops.length : Int)) rfl (fun hc14 => ?_) (fun hc14 => ?_)
    · replace hFL3 := it_t hc14 hFL3
      replace hFL3 := ck_s hFL3; obtain ⟨hk4_0, hFL3⟩ := hFL3
      replace hFL3 := lv_s hFL3; obtain ⟨y4_1, hy4_1, hFL3⟩ := hFL3
      have q_ := h_n0_2.get hk4_0; obtain ⟨el4_1, ek4_1, ee4_1⟩ := q_
      rw [← hy4_1] at ek4_1
      have e_ := ek4_1; subst e_
      refine x_skip <| x_seq <| x_block <| x_seq <|
        x_region <| p (yix_f sl_27 eL3h_11 eL3h_13 h_n0_2 hk4_0) <| pa (v := .agg #[.string y4_1.Name, .int .i64 y4_1.Cell, .int .i64 y4_1.D, .int .i64 y4_1.En, .bool y4_1.Init]) (at_loadAgg agg_149 rfl rfl (Elt.every ee4_1 (hS.pull 1))) <|
        ?_
      refine o_alloc zero_149 hS (fun b5 w' hS => ?_)
      refine o_storeAgg (news := [.string y4_1.Name, .int .i64 y4_1.Cell, .int .i64 y4_1.D, .int .i64 y4_1.En, .bool y4_1.Init]) agg_149 rfl rfl rfl (by simp [over_length]) hS (fun w' hS => ?_)
      replace hFL3 := lv_s hFL3; obtain ⟨x25, hx25, hFL3⟩ := hFL3
      replace hFL3 := lv_s hFL3; obtain ⟨x30, hx30, hFL3⟩ := hFL3
      replace hFL3 := lv_s hFL3; obtain ⟨x36, hx36, hFL3⟩ := hFL3
      refine x_done <| x_seq <| x_region <| p (yl_field0 fld_149_2 rfl) <|
        pa (at_load one_3 rfl (hS.cell rfl)) <| p (yl_lss rfl rfl) <| p (yl_move rfl) <| pg (v := .pointer (some ⟨b5, 2, none⟩)) 20 (c := !(decide (y4_1.D < 0))) (says_f _) (fun hq => Yl.at (yl_field0 fld_149_2 rfl)) <|
        pg (v := .int .i64 y4_1.D) 20 (c := !(decide (y4_1.D < 0))) (says_f _) (fun hq => at_load one_3 (cv hq) (hS.cell rfl)) <| pg (v := .int .i64 r1_1) 20 (c := !(decide (y4_1.D < 0))) (says_f _) (fun hq => Yl.at (yl_move eL3h_3)) <| pg (v := .bool (decide (r1_1 ≤ y4_1.D))) 20 (c := !(decide (y4_1.D < 0))) (says_f _) (fun hq => Yl.at (yl_geq (cv hq) (cv hq))) <| p (yor' rfl rfl (fun hc => (cv (t_not hc))) hx25) <|
        p (yl_move rfl) <| pg (v := .pointer (some ⟨b5, 3, none⟩)) 26 (c := !x25) (says_f _) (fun hq => Yl.at (yl_field0 fld_149_3 rfl)) <| pg (v := .int .i64 y4_1.En) 26 (c := !x25) (says_f _) (fun hq => at_load one_3 (cv hq) (hS.cell rfl)) <| pg (v := .bool (decide (y4_1.En < 0))) 26 (c := !x25) (says_f _) (fun hq => Yl.at (yl_lss (cv hq) rfl)) <|
        p (yor' rfl rfl (fun hc => (cv (t_not hc))) hx30) <| p (yl_move rfl) <| pg (v := .pointer (some ⟨b5, 3, none⟩)) 31 (c := !x30) (says_f _) (fun hq => Yl.at (yl_field0 fld_149_3 rfl)) <| pg (v := .int .i64 y4_1.En) 31 (c := !x30) (says_f _) (fun hq => at_load one_3 (cv hq) (hS.cell rfl)) <|
        pg (v := .int .i64 r1_1) 31 (c := !x30) (says_f _) (fun hq => Yl.at (yl_move eL3h_3)) <| pg (v := .bool (decide (r1_1 ≤ y4_1.En))) 31 (c := !x30) (says_f _) (fun hq => Yl.at (yl_geq (cv hq) (cv hq))) <| p (yor' rfl rfl (fun hc => (cv (t_not hc))) hx36) <| x_done <|
        x_cond (t := x36) rfl (fun hc36 => ?_) (fun hc36 => ?_)
      · replace hFL3 := it_t hc36 hFL3
        refine x_seq <| x_region <| p (yl_assign rfl) <| x_done <|
          ?_
        have e_ := Option.some.inj (show some _ = some _ from hFL3); subst e_
        have e_ := (show _ = oL3 from hLL3); subst e_
        have e_ := Option.some.inj (show some _ = some _ from hF); subst e_
        exact x_return ⟨_, ⟨_, _, rfl, rfl, rfl⟩, rfl, hS.drop.drop⟩
      · replace hFL3 := it_bf hc36 hFL3
        replace hFL3 := ar_s hFL3; obtain ⟨x37, hx37, hFL3⟩ := hFL3
        refine x_skip <| x_blk <| x_region <| p (yadd eL3h_13 rfl hx37) <|
          p (yl_move rfl) <| x_done <|
          ?_
        have e_ := Option.some.inj (show some _ = some _ from hFL3); subst e_
        exact x_inv ⟨kL3, Nat.lt_succ_self _, x37, hLL3, eL3h_1, eL3h_3, eL3h_11, eL3h_12, rfl, ((hS.drop.pull 1).pull 1)⟩
    · replace hFL3 := it_f hc14 hFL3
      refine x_exitTo _ rfl <|
        ?_
      have e_ := Option.some.inj (show some _ = some _ from hFL3); subst e_
      exact x_inv ⟨hLL3, eL3h_1, eL3h_3, ((hS.pull 1).pull 1)⟩
  rintro E w ⟨rfl, eL3_1, eL3_3, hS⟩
  refine x_seq <| x_seq <| x_region <| p (yl_field0 fld_30_4 eL3_1) <|
    pa (at_load one_22 rfl (hS.cell rfl)) <| p (yl_len_slice usl_22 rfl) <| p (yl_move rfl) <| x_done <|
    ?_
  replace hF := bs_s hF; obtain ⟨oL9, hLL9, hF⟩ := hF
  refine x_join (fun E w => (Sum.inl (())) = oL9 ∧ St w0 w (ro ρ :: l)) ?_ ?_
  · skip -- L9
    refine x_block ?_
    refine x_loop (fun k_ E w => ∃ (y41_L9h : Int), lp (P_netlist_ends_L9 n0 r1_1) k_ y41_L9h = some oL9 ∧ E 3 = .int .i64 r1_1 ∧ E 39 = .slice A_n0_4 n0.Outs.length c_n0_4 ∧ E 40 = .int .i64 (n0.Outs.length : Int) ∧ E 41 = .int .i64 y41_L9h ∧ St w0 w (ro ρ :: l)) fuel ⟨0, hLL9, eL3_3, rfl, rfl, rfl, hS.drop⟩ ?_
    rintro kL9 E w ⟨y41_L9h, hLL9, eL9h_3, eL9h_39, eL9h_40, eL9h_41, hS⟩
    replace hLL9 := lp_s hLL9; obtain ⟨kL9, obL9, rfl, hFL9, hLL9⟩ := hLL9
    refine x_seq <| x_region <| p (yl_lss eL9h_41 eL9h_40) <| x_done <|
      x_seq <|
      x_cond_p (y41_L9h < (n0.Outs.length : Int)) rfl (fun hc42 => ?_) (fun hc42 => ?_)
    · replace hFL9 := it_t hc42 hFL9
      replace hFL9 := ck_s hFL9; obtain ⟨hk10_0, hFL9⟩ := hFL9
      replace hFL9 := lv_s hFL9; obtain ⟨x44, hx44, hFL9⟩ := hFL9
      replace hFL9 := lv_s hFL9; obtain ⟨x51, hx51, hFL9⟩ := hFL9
      refine x_skip <| x_seq <| x_block <| x_seq <|
        x_region <| p (yix_f sl_22 eL9h_39 eL9h_41 h_n0_4 hk10_0) <| pa (at_load one_3 rfl (RdS.getW h_n0_4 hS hk10_0 hx44)) <| p (yl_assign rfl) <|
        x_done <| x_seq <| x_region <| p (yl_move rfl) <|
        p (yl_lss rfl rfl) <| p (yl_move rfl) <| pg (v := .int .i64 x44) 47 (c := !(decide (x44 < 0))) (says_f _) (fun hq => Yl.at (yl_move rfl)) <| pg (v := .int .i64 r1_1) 47 (c := !(decide (x44 < 0))) (says_f _) (fun hq => Yl.at (yl_move eL9h_3)) <|
        pg (v := .bool (decide (r1_1 ≤ x44))) 47 (c := !(decide (x44 < 0))) (says_f _) (fun hq => Yl.at (yl_geq (cv hq) (cv hq))) <| p (yor' rfl rfl (fun hc => (cv (t_not hc))) hx51) <| x_done <|
        x_cond (t := x51) rfl (fun hc51 => ?_) (fun hc51 => ?_)
      · replace hFL9 := it_t hc51 hFL9
        refine x_seq <| x_region <| p (yl_assign rfl) <| x_done <|
          ?_
        have e_ := Option.some.inj (show some _ = some _ from hFL9); subst e_
        have e_ := (show _ = oL9 from hLL9); subst e_
        have e_ := Option.some.inj (show some _ = some _ from hF); subst e_
        exact x_return ⟨_, ⟨_, _, rfl, rfl, rfl⟩, rfl, hS⟩
      · replace hFL9 := it_bf hc51 hFL9
        replace hFL9 := ar_s hFL9; obtain ⟨x52, hx52, hFL9⟩ := hFL9
        refine x_skip <| x_blk <| x_region <| p (yadd eL9h_41 rfl hx52) <|
          p (yl_move rfl) <| x_done <|
          ?_
        have e_ := Option.some.inj (show some _ = some _ from hFL9); subst e_
        exact x_inv ⟨kL9, Nat.lt_succ_self _, x52, hLL9, eL9h_3, eL9h_39, eL9h_40, rfl, hS⟩
    · replace hFL9 := it_f hc42 hFL9
      refine x_exitTo _ rfl <|
        ?_
      have e_ := Option.some.inj (show some _ = some _ from hFL9); subst e_
      exact x_inv ⟨hLL9, hS⟩
  rintro E w ⟨rfl, hS⟩
  refine x_seq <| x_region <| p (yl_assign rfl) <| x_done <|
    ?_
  have e_ := Option.some.inj (show some _ = some _ from hF); subst e_
  exact x_return ⟨_, ⟨_, _, rfl, rfl, rfl⟩, rfl, hS⟩
attribute [irreducible] P_netlist_ends

def P_netlist_Form_L7 (n0 : T_api_Netlist) : (List ByteArray × Int) → Option ((List ByteArray × Int) ⊕ List ByteArray) := fun (names3_L7h, y48_L7h) =>
  if y48_L7h < (n0.Flops.length : Int) then
    ck (inb y48_L7h n0.Flops.length) <|
    lv (gt n0.Flops y48_L7h) fun y8_1 =>
    lv (names3_L7h ++ [y8_1.Name]) fun z9_4 =>
    ck (apOk 16 z9_4.length) <|
    ar (y48_L7h + 1) fun x57 =>
    some (Sum.inl (z9_4, x57))
  else
    some (Sum.inr names3_L7h)
def P_netlist_Form_L26 (r17_1 : Int) (y20_2 : T_api_Gate) (y74_L19h : Int) : Int → Option (Int ⊕ (Unit ⊕ Int)) := fun y94_L26h =>
  if y94_L26h < (y20_2.Ins.length : Int) then
    ck (inb y94_L26h y20_2.Ins.length) <|
    lv (gt y20_2.Ins y94_L26h) fun x97 =>
    ck ((!(decide (x97 < 0))) = true → I64 (r17_1 + y74_L19h)) <|
    lv (r17_1 + y74_L19h) fun x104 =>
    lv ((decide (x97 < 0)) || (decide (x104 ≤ x97))) fun x106 =>
    if x106 = true then
      some (Sum.inr (Sum.inr (2 : Int)))
    else
      ar (y94_L26h + 1) fun x107 =>
      some (Sum.inl x107)
  else
    some (Sum.inr (Sum.inl ()))
def P_netlist_Form_L19 (n0 : T_api_Netlist) (r17_1 : Int) : Int → Option (Int ⊕ (Unit ⊕ Int)) := fun y74_L19h =>
  if y74_L19h < (n0.Gates.length : Int) then
    ck (inb y74_L19h n0.Gates.length) <|
    lv (gt n0.Gates y74_L19h) fun y20_2 =>
    if 6 < (y20_2.Ins.length : Int) then
      some (Sum.inr (Sum.inr (3 : Int)))
    else
      bd (P_netlist_Mask (y20_2.Ins.length : Int)) fun r23_5 =>
      lv (bAndNot .u64 y20_2.Table r23_5) fun x89 =>
      if x89 ≠ 0 then
        some (Sum.inr (Sum.inr (4 : Int)))
      else
        bs (
          lp (P_netlist_Form_L26 r17_1 y20_2 y74_L19h) fuel 0) (fun y => some (Sum.inr (Sum.inr y))) fun _ =>
        ar (y74_L19h + 1) fun x108 =>
        some (Sum.inl x108)
  else
    some (Sum.inr (Sum.inl ()))
def P_netlist_Form (n0 : T_api_Netlist) : Option Int :=
  lv ((decide (128 < (n0.In.length : Int))) || (decide (128 < (n0.Out.length : Int)))) fun x22 =>
  lv (x22 || (decide (288 < (n0.Flops.length : Int)))) fun x28 =>
  lv (x28 || (decide (1200 < (n0.Gates.length : Int)))) fun x34 =>
  if x34 = true then
    some (3 : Int)
  else
    if (n0.Out.length : Int) ≠ (n0.Outs.length : Int) then
      some (4 : Int)
    else
      bd (P_slices_Clone_string_string n0.In) fun r5_2 =>
      bd (
        lp (P_netlist_Form_L7 n0) fuel (r5_2, 0)) fun names3_L7 =>
      bd (P_graph_Names names3_L7) fun r11_1 =>
      if r11_1 ≠ 0 then
        some r11_1
      else
        bd (P_graph_Names n0.Out) fun r14_2 =>
        if r14_2 ≠ 0 then
          some r14_2
        else
          bd (P_netlist_First n0) fun r17_1 =>
          bs (
            lp (P_netlist_Form_L19 n0 r17_1) fuel 0) (fun y => some y) fun _ =>
          bd (P_netlist_ends n0) fun r32_1 =>
          some r32_1
set_option maxHeartbeats 4000000 in
set_option maxRecDepth 100000 in
theorem c_netlist_Form {w0 w : World} {l : List Assn} {ρ : Heap} {A_n0_0 : Option Addr} {n_n0_0 : Nat} {c_n0_0 : Nat} {A_n0_1 : Option Addr} {n_n0_1 : Nat} {c_n0_1 : Nat} {A_n0_2 : Option Addr} {n_n0_2 : Nat} {c_n0_2 : Nat} {A_n0_3 : Option Addr} {n_n0_3 : Nat} {c_n0_3 : Nat} {A_n0_4 : Option Addr} {n_n0_4 : Nat} {c_n0_4 : Nat} {n0 : T_api_Netlist} {r : Int} (hF : P_netlist_Form n0 = some r) (h_n0_0 : RdS RpS ρ A_n0_0 n_n0_0 c_n0_0 n0.In) (h_n0_1 : RdS RpS ρ A_n0_1 n_n0_1 c_n0_1 n0.Out) (h_n0_2 : RdS R_api_Flop ρ A_n0_2 n_n0_2 c_n0_2 n0.Flops) (h_n0_3 : RdS R_api_Gate ρ A_n0_3 n_n0_3 c_n0_3 n0.Gates) (h_n0_4 : RdS (RpI .i64) ρ A_n0_4 n_n0_4 c_n0_4 n0.Outs) (hS : St w0 w (ro ρ :: l)) :
    Calls Tryd.prog 175 #[.agg #[.slice A_n0_0 n_n0_0 c_n0_0, .slice A_n0_1 n_n0_1 c_n0_1, .slice A_n0_2 n_n0_2 c_n0_2, .slice A_n0_3 n_n0_3 c_n0_3, .slice A_n0_4 n_n0_4 c_n0_4]] w fun e w' => e = .returned (.int .i64 r) ∧ St w0 w' (ro ρ :: l) := by
  have e_ := h_n0_0.n; subst e_
  have e_ := h_n0_1.n; subst e_
  have e_ := h_n0_2.n; subst e_
  have e_ := h_n0_3.n; subst e_
  have e_ := h_n0_4.n; subst e_
  refine enterC Tryd.func175 rfl 111 rfl (by simp) ?_
  refine x_seq <| x_region <|
    ?_
  refine o_box (cs := [.slice A_n0_0 n0.In.length c_n0_0, .slice A_n0_1 n0.Out.length c_n0_1, .slice A_n0_2 n0.Flops.length c_n0_2, .slice A_n0_3 n0.Gates.length c_n0_3, .slice A_n0_4 n0.Outs.length c_n0_4]) rfl rfl hS (fun b1 w' hS => ?_)
  replace hF := lv_s hF; obtain ⟨x22, hx22, hF⟩ := hF
  replace hF := lv_s hF; obtain ⟨x28, hx28, hF⟩ := hF
  replace hF := lv_s hF; obtain ⟨x34, hx34, hF⟩ := hF
  refine p (yl_assign rfl) <| x_done <| x_seq <| x_seq <|
    x_region <| p (yl_field0 fld_30_0 rfl) <| pa (at_load one_26 rfl (hS.cell rfl)) <| p (yl_len_slice usl_26 rfl) <|
    p (yl_gtr rfl rfl) <| p (yl_move rfl) <| pg (v := .pointer (some ⟨b1, 1, none⟩)) 17 (c := !(decide (128 < (n0.In.length : Int)))) (says_f _) (fun hq => Yl.at (yl_field0 fld_30_1 rfl)) <| pg (v := .slice A_n0_1 n0.Out.length c_n0_1) 17 (c := !(decide (128 < (n0.In.length : Int)))) (says_f _) (fun hq => at_load one_26 (cv hq) (hS.cell rfl)) <|
    pg (v := .int .i64 (n0.Out.length : Int)) 17 (c := !(decide (128 < (n0.In.length : Int)))) (says_f _) (fun hq => Yl.at (yl_len_slice usl_26 (cv hq))) <| pg (v := .bool (decide (128 < (n0.Out.length : Int)))) 17 (c := !(decide (128 < (n0.In.length : Int)))) (says_f _) (fun hq => Yl.at (yl_gtr (cv hq) rfl)) <| p (yor' rfl rfl (fun hc => (cv (t_not hc))) hx22) <| p (yl_move rfl) <|
    pg (v := .pointer (some ⟨b1, 2, none⟩)) 23 (c := !x22) (says_f _) (fun hq => Yl.at (yl_field0 fld_30_2 rfl)) <| pg (v := .slice A_n0_2 n0.Flops.length c_n0_2) 23 (c := !x22) (says_f _) (fun hq => at_load one_27 (cv hq) (hS.cell rfl)) <| pg (v := .int .i64 (n0.Flops.length : Int)) 23 (c := !x22) (says_f _) (fun hq => Yl.at (yl_len_slice usl_27 (cv hq))) <| pg (v := .bool (decide (288 < (n0.Flops.length : Int)))) 23 (c := !x22) (says_f _) (fun hq => Yl.at (yl_gtr (cv hq) rfl)) <|
    p (yor' rfl rfl (fun hc => (cv (t_not hc))) hx28) <| p (yl_move rfl) <| pg (v := .pointer (some ⟨b1, 3, none⟩)) 29 (c := !x28) (says_f _) (fun hq => Yl.at (yl_field0 fld_30_3 rfl)) <| pg (v := .slice A_n0_3 n0.Gates.length c_n0_3) 29 (c := !x28) (says_f _) (fun hq => at_load one_28 (cv hq) (hS.cell rfl)) <|
    pg (v := .int .i64 (n0.Gates.length : Int)) 29 (c := !x28) (says_f _) (fun hq => Yl.at (yl_len_slice usl_28 (cv hq))) <| pg (v := .bool (decide (1200 < (n0.Gates.length : Int)))) 29 (c := !x28) (says_f _) (fun hq => Yl.at (yl_gtr (cv hq) rfl)) <| p (yor' rfl rfl (fun hc => (cv (t_not hc))) hx34) <| x_done <|
    x_cond (t := x34) rfl (fun hc34 => ?_) (fun hc34 => ?_)
  · replace hF := it_t hc34 hF
    refine x_seq <| x_region <| p (yl_assign rfl) <| x_done <|
      ?_
    have e_ := Option.some.inj (show some _ = some _ from hF); subst e_
    exact x_return ⟨_, ⟨_, _, rfl, rfl, rfl⟩, rfl, hS.drop⟩
  · replace hF := it_bf hc34 hF
    refine x_skip <| x_seq <| x_seq <| x_region <|
      p (yl_field0 fld_30_1 rfl) <| pa (at_load one_26 rfl (hS.cell rfl)) <| p (yl_len_slice usl_26 rfl) <| p (yl_field0 fld_30_4 rfl) <|
      pa (at_load one_22 rfl (hS.cell rfl)) <| p (yl_len_slice usl_22 rfl) <| p (yl_neq rfl rfl) <| x_done <|
      x_cond_p ((n0.Out.length : Int) ≠ (n0.Outs.length : Int)) rfl (fun hc41 => ?_) (fun hc41 => ?_)
    · replace hF := it_t hc41 hF
      refine x_seq <| x_region <| p (yl_assign rfl) <| x_done <|
        ?_
      have e_ := Option.some.inj (show some _ = some _ from hF); subst e_
      exact x_return ⟨_, ⟨_, _, rfl, rfl, rfl⟩, rfl, hS.drop⟩
    · replace hF := it_f hc41 hF
      replace hF := bd_s hF; obtain ⟨r5_2, hc5_2, hF⟩ := hF
      refine x_skip <| x_seq <| x_region <| p (yl_field0 fld_30_0 rfl) <|
        pa (at_load one_26 rfl (hS.cell rfl)) <|
        ?_
      have hcall := c_slices_Clone_string_string hc5_2 h_n0_0 (hS.pull 1)
      refine o_cc call_121 (args1 rfl) hcall ?_
      rintro e w' ⟨A_y0_ret_5_2, n_y0_ret_5_2, c_y0_ret_5_2, cs_y0_ret_5_2, rfl, h_y0_ret_5_2, hS⟩
      refine ⟨_, rfl, ?_⟩
      have e_ := St.vec_n hS h_y0_ret_5_2; subst e_
      refine p (yl_assign rfl) <| x_done <| x_seq <| x_seq <|
        x_region <| p (yl_field0 fld_30_2 rfl) <| pa (at_load one_27 rfl ((hS.pull 2).cell rfl)) <| p (yl_len_slice usl_27 rfl) <|
        p (yl_move rfl) <| x_done <|
        ?_
      replace hF := bd_s hF; obtain ⟨oL7, hLL7, hF⟩ := hF
      refine x_join (fun E w => ∃ (A_names3_L7 : Option Addr) (n_names3_L7 : Nat) (c_names3_L7 : Nat) (cs_names3_L7 : List Value) (names3_L7 : List ByteArray), names3_L7 = oL7 ∧ E 1 = .pointer (some ⟨b1, 0, none⟩) ∧ E 3 = .slice A_names3_L7 n_names3_L7 c_names3_L7 ∧ RepL RpS ρ names3_L7 cs_names3_L7 ∧ St w0 w (cells b1 30 [.slice A_n0_0 n0.In.length c_n0_0, .slice A_n0_1 n0.Out.length c_n0_1, .slice A_n0_2 n0.Flops.length c_n0_2, .slice A_n0_3 n0.Gates.length c_n0_3, .slice A_n0_4 n0.Outs.length c_n0_4] :: vec 9 RpS.sz (.slice A_names3_L7 n_names3_L7 c_names3_L7) n_names3_L7 cs_names3_L7 :: ro ρ :: l)) ?_ ?_
      · skip -- L7
        refine x_block ?_
        refine x_loop (fun k_ E w => ∃ (A_names3_L7h : Option Addr) (n_names3_L7h : Nat) (c_names3_L7h : Nat) (cs_names3_L7h : List Value) (names3_L7h : List ByteArray) (y48_L7h : Int), lp (P_netlist_Form_L7 n0) k_ (names3_L7h, y48_L7h) = some oL7 ∧ E 1 = .pointer (some ⟨b1, 0, none⟩) ∧ E 3 = .slice A_names3_L7h n_names3_L7h c_names3_L7h ∧ E 46 = .slice A_n0_2 n0.Flops.length c_n0_2 ∧ E 47 = .int .i64 (n0.Flops.length : Int) ∧ E 48 = .int .i64 y48_L7h ∧ RepL RpS ρ names3_L7h cs_names3_L7h ∧ St w0 w (cells b1 30 [.slice A_n0_0 n0.In.length c_n0_0, .slice A_n0_1 n0.Out.length c_n0_1, .slice A_n0_2 n0.Flops.length c_n0_2, .slice A_n0_3 n0.Gates.length c_n0_3, .slice A_n0_4 n0.Outs.length c_n0_4] :: vec 9 RpS.sz (.slice A_names3_L7h n_names3_L7h c_names3_L7h) n_names3_L7h cs_names3_L7h :: ro ρ :: l)) fuel ⟨A_y0_ret_5_2, r5_2.length, c_y0_ret_5_2, cs_y0_ret_5_2, r5_2, 0, hLL7, rfl, rfl, rfl, rfl, rfl, h_y0_ret_5_2, (((hS.pull 1).pull 1).pull 2)⟩ ?_
        rintro kL7 E w ⟨A_names3_L7h, n_names3_L7h, c_names3_L7h, cs_names3_L7h, names3_L7h, y48_L7h, hLL7, eL7h_1, eL7h_3, eL7h_46, eL7h_47, eL7h_48, h_names3_L7h, hS⟩
        have e_ := St.vec_n (hS.pull 1) h_names3_L7h; subst e_
        replace hLL7 := lp_s hLL7; obtain ⟨kL7, obL7, rfl, hFL7, hLL7⟩ := hLL7
        refine x_seq <| x_region <| p (yl_lss eL7h_48 eL7h_47) <| x_done <|
          x_seq <|
          x_cond_p (y48_L7h < (n0.Flops.length : Int)) rfl (fun hc49 => ?_) (fun hc49 => ?_)
        · replace hFL7 := it_t hc49 hFL7
          replace hFL7 := ck_s hFL7; obtain ⟨hk8_0, hFL7⟩ := hFL7
          replace hFL7 := lv_s hFL7; obtain ⟨y8_1, hy8_1, hFL7⟩ := hFL7
          have q_ := h_n0_2.get hk8_0; obtain ⟨el8_1, ek8_1, ee8_1⟩ := q_
          rw [← hy8_1] at ek8_1
          have e_ := ek8_1; subst e_
          refine x_skip <| x_seq <| x_block <| x_seq <|
            x_region <| p (yix_f sl_27 eL7h_46 eL7h_48 h_n0_2 hk8_0) <| pa (v := .agg #[.string y8_1.Name, .int .i64 y8_1.Cell, .int .i64 y8_1.D, .int .i64 y8_1.En, .bool y8_1.Init]) (at_loadAgg agg_149 rfl rfl (Elt.every ee8_1 (hS.pull 2))) <|
            ?_
          refine o_alloc zero_149 hS (fun b5 w' hS => ?_)
          refine o_storeAgg (news := [.string y8_1.Name, .int .i64 y8_1.Cell, .int .i64 y8_1.D, .int .i64 y8_1.En, .bool y8_1.Init]) agg_149 rfl rfl rfl (by simp [over_length]) hS (fun w' hS => ?_)
          refine x_done <| x_region <| p (yl_move eL7h_3) <| p (yl_field0 fld_149_0 rfl) <|
            pa (at_load one_9 rfl (hS.cell rfl)) <|
            ?_
          refine o_buildSlice (vs := [.string y8_1.Name]) (cs := [.string y8_1.Name]) sl_26 zero_9 (parts_eq (pt (va := .string y8_1.Name) rfl pt0)) rfl (by intro v hv; simp only [List.mem_cons, List.not_mem_nil, or_false] at hv; first | (subst hv; rfl) | (rcases hv with rfl <;> rfl)) (by decide) rfl hS (fun b55 w' hS => ?_)
          replace hFL7 := lv_s hFL7; obtain ⟨z9_4, hz9_4, hFL7⟩ := hFL7
          replace hFL7 := ck_s hFL7; obtain ⟨hk9_4, hFL7⟩ := hFL7
          refine o_ap sl_26 zero_9 rfl (by decide) rfl rfl (hS.pull 3) h_names3_L7h (src_blk usl_26 hS rfl rfl) (RepL.cons (R := RpS) (ρ := ρ) (x := y8_1.Name) (cs := [.string y8_1.Name]) rfl RepL.nil) hz9_4 hk9_4 (fun A56 c56 cs56 w' hr56 hS => ?_)
          replace hFL7 := ar_s hFL7; obtain ⟨x57, hx57, hFL7⟩ := hFL7
          refine p (yl_assign rfl) <| x_done <| x_blk <| x_region <|
            p (yadd eL7h_48 rfl hx57) <| p (yl_move rfl) <| x_done <|
            ?_
          have e_ := Option.some.inj (show some _ = some _ from hFL7); subst e_
          exact x_inv ⟨kL7, Nat.lt_succ_self _, A56, z9_4.length, c56, cs56, z9_4, x57, hLL7, eL7h_1, rfl, eL7h_46, eL7h_47, rfl, hr56, (((((hS.pull 1).drop.pull 1).drop.pull 2).pull 1).pull 2)⟩
        · replace hFL7 := it_f hc49 hFL7
          refine x_exitTo _ rfl <|
            ?_
          have e_ := Option.some.inj (show some _ = some _ from hFL7); subst e_
          exact x_inv ⟨A_names3_L7h, names3_L7h.length, c_names3_L7h, cs_names3_L7h, names3_L7h, hLL7, eL7h_1, eL7h_3, h_names3_L7h, (((hS.pull 2).pull 2).pull 2)⟩
      rintro E w ⟨A_names3_L7, n_names3_L7, c_names3_L7, cs_names3_L7, names3_L7, rfl, eL7_1, eL7_3, h_names3_L7, hS⟩
      have e_ := St.vec_n (hS.pull 1) h_names3_L7; subst e_
      replace hF := bd_s hF; obtain ⟨r11_1, hc11_1, hF⟩ := hF
      refine x_seq <| x_seq <| x_region <| p (yl_move eL7_3) <|
        ?_
      have q_ := St.lend ((hS.pull 2).pull 2) h_names3_L7; obtain ⟨ρl0, hll0, hlf0, hS0, back0⟩ := q_
      have hcall := c_graph_Names hc11_1 hlf0 hS0
      refine o_cc call_205 (args1 rfl) ((Calls.mono hcall (fun e w'' h => And.intro h.1 ((((back0 h.2).pull 1).pull 1).pull 2)))) ?_
      rintro e w' ⟨rfl, hS⟩
      refine ⟨_, rfl, ?_⟩
      refine p (v := .int .i64 r11_1) (yl_assign rfl) <| x_done <| x_seq <| x_region <|
        p (v := .int .i64 r11_1) (yl_move rfl) <| p (yl_neq rfl rfl) <| x_done <|
        x_cond_p (r11_1 ≠ 0) rfl (fun hc61 => ?_) (fun hc61 => ?_)
      · replace hF := it_t hc61 hF
        refine x_seq <| x_region <| p (v := .int .i64 r11_1) (yl_move rfl) <| p (v := .int .i64 r11_1) (yl_assign rfl) <|
          x_done <|
          ?_
        have e_ := Option.some.inj (show some _ = some _ from hF); subst e_
        exact x_return ⟨_, ⟨_, _, rfl, rfl, rfl⟩, rfl, hS.drop.drop⟩
      · replace hF := it_f hc61 hF
        replace hF := bd_s hF; obtain ⟨r14_2, hc14_2, hF⟩ := hF
        refine x_skip <| x_seq <| x_seq <| x_region <|
          p (yl_field0 fld_30_1 eL7_1) <| pa (at_load one_26 rfl (hS.cell rfl)) <|
          ?_
        have hcall := c_graph_Names hc14_2 h_n0_1 (hS.pull 2)
        refine o_cc call_205 (args1 rfl) ((Calls.mono hcall (fun e w'' h => And.intro h.1 ((h.2.pull 2).pull 2)))) ?_
        rintro e w' ⟨rfl, hS⟩
        refine ⟨_, rfl, ?_⟩
        refine p (v := .int .i64 r14_2) (yl_assign rfl) <| x_done <| x_seq <| x_region <|
          p (v := .int .i64 r14_2) (yl_move rfl) <| p (yl_neq rfl rfl) <| x_done <|
          x_cond_p (r14_2 ≠ 0) rfl (fun hc67 => ?_) (fun hc67 => ?_)
        · replace hF := it_t hc67 hF
          refine x_seq <| x_region <| p (v := .int .i64 r14_2) (yl_move rfl) <| p (v := .int .i64 r14_2) (yl_assign rfl) <|
            x_done <|
            ?_
          have e_ := Option.some.inj (show some _ = some _ from hF); subst e_
          exact x_return ⟨_, ⟨_, _, rfl, rfl, rfl⟩, rfl, hS.drop.drop⟩
        · replace hF := it_f hc67 hF
          replace hF := bd_s hF; obtain ⟨r17_1, hc17_1, hF⟩ := hF
          refine x_skip <| x_seq <| x_region <| pa (v := .agg #[.slice A_n0_0 n0.In.length c_n0_0, .slice A_n0_1 n0.Out.length c_n0_1, .slice A_n0_2 n0.Flops.length c_n0_2, .slice A_n0_3 n0.Gates.length c_n0_3, .slice A_n0_4 n0.Outs.length c_n0_4]) (ld_sub agg_30 eL7_1 rfl rfl hS) <|
            ?_
          have hcall := c_netlist_First hc17_1 h_n0_0 h_n0_1 h_n0_2 h_n0_3 h_n0_4 (hS.pull 2)
          refine o_cc call_44 (args1 rfl) ((Calls.mono hcall (fun e w'' h => And.intro h.1 ((h.2.pull 2).pull 2)))) ?_
          rintro e w' ⟨rfl, hS⟩
          refine ⟨_, rfl, ?_⟩
          refine p (v := .int .i64 r17_1) (yl_assign rfl) <| x_done <| x_seq <| x_seq <|
            x_region <| p (yl_field0 fld_30_3 eL7_1) <| pa (at_load one_28 rfl (hS.cell rfl)) <| p (yl_len_slice usl_28 rfl) <|
            p (yl_move rfl) <| x_done <|
            ?_
          replace hF := bs_s hF; obtain ⟨oL19, hLL19, hF⟩ := hF
          refine x_join (fun E w => (Sum.inl (())) = oL19 ∧ E 1 = .pointer (some ⟨b1, 0, none⟩) ∧ St w0 w (cells b1 30 [.slice A_n0_0 n0.In.length c_n0_0, .slice A_n0_1 n0.Out.length c_n0_1, .slice A_n0_2 n0.Flops.length c_n0_2, .slice A_n0_3 n0.Gates.length c_n0_3, .slice A_n0_4 n0.Outs.length c_n0_4] :: ro ρ :: l)) ?_ ?_
          · skip -- L19
            refine x_block ?_
            refine x_loop (fun k_ E w => ∃ (y74_L19h : Int), lp (P_netlist_Form_L19 n0 r17_1) k_ y74_L19h = some oL19 ∧ E 1 = .pointer (some ⟨b1, 0, none⟩) ∧ E 8 = .int .i64 r17_1 ∧ E 72 = .slice A_n0_3 n0.Gates.length c_n0_3 ∧ E 73 = .int .i64 (n0.Gates.length : Int) ∧ E 74 = .int .i64 y74_L19h ∧ St w0 w (cells b1 30 [.slice A_n0_0 n0.In.length c_n0_0, .slice A_n0_1 n0.Out.length c_n0_1, .slice A_n0_2 n0.Flops.length c_n0_2, .slice A_n0_3 n0.Gates.length c_n0_3, .slice A_n0_4 n0.Outs.length c_n0_4] :: ro ρ :: l)) fuel ⟨0, hLL19, eL7_1, rfl, rfl, rfl, rfl, (((hS.pull 1).drop.pull 1).pull 1)⟩ ?_
            rintro kL19 E w ⟨y74_L19h, hLL19, eL19h_1, eL19h_8, eL19h_72, eL19h_73, eL19h_74, hS⟩
            replace hLL19 := lp_s hLL19; obtain ⟨kL19, obL19, rfl, hFL19, hLL19⟩ := hLL19
            refine x_seq <| x_region <| p (yl_lss eL19h_74 eL19h_73) <| x_done <|
              x_seq <|
              x_cond_p (y74_L19h < (n0.Gates.length : Int)) rfl (fun hc75 => ?_) (fun hc75 => ?_)
            · replace hFL19 := it_t hc75 hFL19
              replace hFL19 := ck_s hFL19; obtain ⟨hk20_1, hFL19⟩ := hFL19
              replace hFL19 := lv_s hFL19; obtain ⟨y20_2, hy20_2, hFL19⟩ := hFL19
              have q_ := h_n0_3.get hk20_1; obtain ⟨el20_2, ek20_2, ee20_2⟩ := q_
              rw [← hy20_2] at ek20_2
              obtain ⟨A20_2_2, n20_2_2, c20_2_2, rfl, f20_2_2⟩ := ek20_2
              have e_ := f20_2_2.n; subst e_
              refine x_skip <| x_seq <| x_block <| x_seq <|
                x_region <| p (yl_move eL19h_74) <| p (yix_f sl_28 eL19h_72 eL19h_74 h_n0_3 hk20_1) <| pa (v := .agg #[.int .i64 y20_2.Cell, .int .u64 y20_2.Table, .slice A20_2_2 y20_2.Ins.length c20_2_2]) (at_loadAgg agg_38 rfl rfl (Elt.every ee20_2 (hS.pull 1))) <|
                ?_
              refine o_alloc zero_38 hS (fun b10 w' hS => ?_)
              refine p (yl_assign rfl) <|
                ?_
              refine o_storeAgg (news := [.int .i64 y20_2.Cell, .int .u64 y20_2.Table, .slice A20_2_2 y20_2.Ins.length c20_2_2]) agg_38 rfl rfl rfl (by simp [over_length]) hS (fun w' hS => ?_)
              refine x_done <| x_seq <| x_seq <| x_region <|
                p (yl_field0 fld_38_2 rfl) <| pa (at_load one_22 rfl (hS.cell rfl)) <| p (yl_len_slice usl_22 rfl) <| p (yl_gtr rfl rfl) <|
                x_done <|
                x_cond_p (6 < (y20_2.Ins.length : Int)) rfl (fun hc82 => ?_) (fun hc82 => ?_)
              · replace hFL19 := it_t hc82 hFL19
                refine x_seq <| x_region <| p (yl_assign rfl) <| x_done <|
                  ?_
                have e_ := Option.some.inj (show some _ = some _ from hFL19); subst e_
                have e_ := (show _ = oL19 from hLL19); subst e_
                have e_ := Option.some.inj (show some _ = some _ from hF); subst e_
                exact x_return ⟨_, ⟨_, _, rfl, rfl, rfl⟩, rfl, hS.drop.drop⟩
              · replace hFL19 := it_f hc82 hFL19
                replace hFL19 := bd_s hFL19; obtain ⟨r23_5, hc23_5, hFL19⟩ := hFL19
                replace hFL19 := lv_s hFL19; obtain ⟨x89, hx89, hFL19⟩ := hFL19
                refine x_skip <| x_seq <| x_seq <| x_still mixed (by kernel_rfl) hS <|
                  q (yl_field0 fld_38_1 rfl) <| qa (fun w' hS => at_load one_35 rfl (hS.cell rfl)) <| q (yl_field0 fld_38_2 rfl) <| qa (fun w' hS => at_load one_22 rfl (hS.cell rfl)) <|
                  q (yl_len_slice usl_22 rfl) <| qcc (v := .int .u64 r23_5) call_206 (args1 rfl) (fun w' hS => by
                    have hcall := c_netlist_Mask hc23_5  (hS.pull 2)
                    exact (Calls.mono hcall (fun e w'' h => And.intro h.1 ((h.2.pull 2).pull 2)))) <| q (yandNot rfl rfl hx89) <| q (yl_neq rfl rfl) <|
                  q_done fun w' hS => ?_
                refine x_cond_p (x89 ≠ 0) rfl (fun hc90 => ?_) (fun hc90 => ?_)
                · replace hFL19 := it_t hc90 hFL19
                  refine x_seq <| x_region <| p (yl_assign rfl) <| x_done <|
                    ?_
                  have e_ := Option.some.inj (show some _ = some _ from hFL19); subst e_
                  have e_ := (show _ = oL19 from hLL19); subst e_
                  have e_ := Option.some.inj (show some _ = some _ from hF); subst e_
                  exact x_return ⟨_, ⟨_, _, rfl, rfl, rfl⟩, rfl, hS.drop.drop⟩
                · replace hFL19 := it_f hc90 hFL19
                  refine x_skip <| x_seq <| x_region <| p (yl_field0 fld_38_2 rfl) <|
                    pa (at_load one_22 rfl (hS.cell rfl)) <| p (yl_len_slice usl_22 rfl) <| p (yl_move rfl) <| x_done <|
                    ?_
                  replace hFL19 := bs_s hFL19; obtain ⟨oL26, hLL26, hFL19⟩ := hFL19
                  refine x_join (fun E w => (Sum.inl (())) = oL26 ∧ E 1 = .pointer (some ⟨b1, 0, none⟩) ∧ E 8 = .int .i64 r17_1 ∧ E 72 = .slice A_n0_3 n0.Gates.length c_n0_3 ∧ E 73 = .int .i64 (n0.Gates.length : Int) ∧ E 74 = .int .i64 y74_L19h ∧ St w0 w (cells b1 30 [.slice A_n0_0 n0.In.length c_n0_0, .slice A_n0_1 n0.Out.length c_n0_1, .slice A_n0_2 n0.Flops.length c_n0_2, .slice A_n0_3 n0.Gates.length c_n0_3, .slice A_n0_4 n0.Outs.length c_n0_4] :: ro ρ :: l)) ?_ ?_
                  · skip -- L26
                    refine x_block ?_
                    refine x_loop (fun k_ E w => ∃ (y94_L26h : Int), lp (P_netlist_Form_L26 r17_1 y20_2 y74_L19h) k_ y94_L26h = some oL26 ∧ E 1 = .pointer (some ⟨b1, 0, none⟩) ∧ E 8 = .int .i64 r17_1 ∧ E 9 = .int .i64 y74_L19h ∧ E 72 = .slice A_n0_3 n0.Gates.length c_n0_3 ∧ E 73 = .int .i64 (n0.Gates.length : Int) ∧ E 74 = .int .i64 y74_L19h ∧ E 92 = .slice A20_2_2 y20_2.Ins.length c20_2_2 ∧ E 93 = .int .i64 (y20_2.Ins.length : Int) ∧ E 94 = .int .i64 y94_L26h ∧ St w0 w (cells b1 30 [.slice A_n0_0 n0.In.length c_n0_0, .slice A_n0_1 n0.Out.length c_n0_1, .slice A_n0_2 n0.Flops.length c_n0_2, .slice A_n0_3 n0.Gates.length c_n0_3, .slice A_n0_4 n0.Outs.length c_n0_4] :: ro ρ :: l)) fuel ⟨0, hLL26, eL19h_1, eL19h_8, rfl, eL19h_72, eL19h_73, eL19h_74, rfl, rfl, rfl, ((hS.drop.pull 1).pull 1)⟩ ?_
                    rintro kL26 E w ⟨y94_L26h, hLL26, eL26h_1, eL26h_8, eL26h_9, eL26h_72, eL26h_73, eL26h_74, eL26h_92, eL26h_93, eL26h_94, hS⟩
                    replace hLL26 := lp_s hLL26; obtain ⟨kL26, obL26, rfl, hFL26, hLL26⟩ := hLL26
                    refine x_seq <| x_region <| p (yl_lss eL26h_94 eL26h_93) <| x_done <|
                      x_seq <|
                      x_cond_p (y94_L26h < (y20_2.Ins.length : Int)) rfl (fun hc95 => ?_) (fun hc95 => ?_)
                    · replace hFL26 := it_t hc95 hFL26
                      replace hFL26 := ck_s hFL26; obtain ⟨hk27_0, hFL26⟩ := hFL26
                      replace hFL26 := lv_s hFL26; obtain ⟨x97, hx97, hFL26⟩ := hFL26
                      replace hFL26 := ck_s hFL26; obtain ⟨hk28_6, hFL26⟩ := hFL26
                      replace hFL26 := lv_s hFL26; obtain ⟨x104, hx104, hFL26⟩ := hFL26
                      replace hFL26 := lv_s hFL26; obtain ⟨x106, hx106, hFL26⟩ := hFL26
                      refine x_skip <| x_seq <| x_block <| x_seq <|
                        x_region <| p (yix_f sl_22 eL26h_92 eL26h_94 f20_2_2 hk27_0) <| pa (at_load one_3 rfl (RdS.getW f20_2_2 (hS.pull 1) hk27_0 hx97)) <| p (yl_assign rfl) <|
                        x_done <| x_seq <| x_region <| p (yl_move rfl) <|
                        p (yl_lss rfl rfl) <| p (yl_move rfl) <| pg (v := .int .i64 x97) 100 (c := !(decide (x97 < 0))) (says_f _) (fun hq => Yl.at (yl_move rfl)) <| pg (v := .int .i64 r17_1) 100 (c := !(decide (x97 < 0))) (says_f _) (fun hq => Yl.at (yl_move eL26h_8)) <|
                        pg (v := .int .i64 y74_L19h) 100 (c := !(decide (x97 < 0))) (says_f _) (fun hq => Yl.at (yl_move eL26h_9)) <| pg (v := .int .i64 x104) 100 (c := !(decide (x97 < 0))) (says_f _) (fun hq => Yl.at (yadd (cv hq) (cv hq) ⟨hx104, (hk28_6 hq)⟩)) <| pg (v := .bool (decide (x104 ≤ x97))) 100 (c := !(decide (x97 < 0))) (says_f _) (fun hq => Yl.at (yl_geq (cv hq) (cv hq))) <| p (yor' rfl rfl (fun hc => (cv (t_not hc))) hx106) <|
                        x_done <|
                        x_cond (t := x106) rfl (fun hc106 => ?_) (fun hc106 => ?_)
                      · replace hFL26 := it_t hc106 hFL26
                        refine x_seq <| x_region <| p (yl_assign rfl) <| x_done <|
                          ?_
                        have e_ := Option.some.inj (show some _ = some _ from hFL26); subst e_
                        have e_ := (show _ = oL26 from hLL26); subst e_
                        have e_ := Option.some.inj (show some _ = some _ from hFL19); subst e_
                        have e_ := (show _ = oL19 from hLL19); subst e_
                        have e_ := Option.some.inj (show some _ = some _ from hF); subst e_
                        exact x_return ⟨_, ⟨_, _, rfl, rfl, rfl⟩, rfl, hS.drop⟩
                      · replace hFL26 := it_bf hc106 hFL26
                        replace hFL26 := ar_s hFL26; obtain ⟨x107, hx107, hFL26⟩ := hFL26
                        refine x_skip <| x_blk <| x_region <| p (yadd eL26h_94 rfl hx107) <|
                          p (yl_move rfl) <| x_done <|
                          ?_
                        have e_ := Option.some.inj (show some _ = some _ from hFL26); subst e_
                        exact x_inv ⟨kL26, Nat.lt_succ_self _, x107, hLL26, eL26h_1, eL26h_8, eL26h_9, eL26h_72, eL26h_73, eL26h_74, eL26h_92, eL26h_93, rfl, ((hS.pull 1).pull 1)⟩
                    · replace hFL26 := it_f hc95 hFL26
                      refine x_exitTo _ rfl <|
                        ?_
                      have e_ := Option.some.inj (show some _ = some _ from hFL26); subst e_
                      exact x_inv ⟨hLL26, eL26h_1, eL26h_8, eL26h_72, eL26h_73, eL26h_74, ((hS.pull 1).pull 1)⟩
                  rintro E w ⟨rfl, eL26_1, eL26_8, eL26_72, eL26_73, eL26_74, hS⟩
                  replace hFL19 := ar_s hFL19; obtain ⟨x108, hx108, hFL19⟩ := hFL19
                  refine x_blk <| x_region <| p (yadd eL26_74 rfl hx108) <| p (yl_move rfl) <|
                    x_done <|
                    ?_
                  have e_ := Option.some.inj (show some _ = some _ from hFL19); subst e_
                  exact x_inv ⟨kL19, Nat.lt_succ_self _, x108, hLL19, eL26_1, eL26_8, eL26_72, eL26_73, rfl, ((hS.pull 1).pull 1)⟩
            · replace hFL19 := it_f hc75 hFL19
              refine x_exitTo _ rfl <|
                ?_
              have e_ := Option.some.inj (show some _ = some _ from hFL19); subst e_
              exact x_inv ⟨hLL19, eL19h_1, ((hS.pull 1).pull 1)⟩
          rintro E w ⟨rfl, eL19_1, hS⟩
          replace hF := bd_s hF; obtain ⟨r32_1, hc32_1, hF⟩ := hF
          refine x_seq <| x_region <| pa (v := .agg #[.slice A_n0_0 n0.In.length c_n0_0, .slice A_n0_1 n0.Out.length c_n0_1, .slice A_n0_2 n0.Flops.length c_n0_2, .slice A_n0_3 n0.Gates.length c_n0_3, .slice A_n0_4 n0.Outs.length c_n0_4]) (ld_sub agg_30 eL19_1 rfl rfl hS) <|
            ?_
          have hcall := c_netlist_ends hc32_1 h_n0_0 h_n0_1 h_n0_2 h_n0_3 h_n0_4 (hS.pull 1)
          refine o_cc call_207 (args1 rfl) ((Calls.mono hcall (fun e w'' h => And.intro h.1 (h.2.pull 1)))) ?_
          rintro e w' ⟨rfl, hS⟩
          refine ⟨_, rfl, ?_⟩
          refine p (v := .int .i64 r32_1) (yl_assign rfl) <| x_done <|
            ?_
          have e_ := Option.some.inj (show some _ = some _ from hF); subst e_
          exact x_return ⟨_, ⟨_, _, rfl, rfl, rfl⟩, rfl, hS.drop⟩
attribute [irreducible] P_netlist_Form

def P_netlist_gate (x0 : T_api_Gate) (lib1 : List T_api_Cell) : Option Int :=
  if x0.Cell = (-1) then
    some (0 : Int)
  else
    lv ((decide (x0.Cell < (-1))) || (decide ((lib1.length : Int) ≤ x0.Cell))) fun x19 =>
    if x19 = true then
      some (7 : Int)
    else
      ck (inb x0.Cell lib1.length) <|
      lv (gt lib1 x0.Cell) fun y5_5 =>
      if y5_5.Flop = true then
        some (8 : Int)
      else
        ck (inb x0.Cell lib1.length) <|
        lv (gt lib1 x0.Cell) fun y7_5 =>
        ck ((!(decide (y7_5.Ins ≠ (x0.Ins.length : Int)))) = true → inb x0.Cell lib1.length) <|
        lv ((decide (y7_5.Ins ≠ (x0.Ins.length : Int))) || (decide (((gt lib1 x0.Cell).Table) ≠ x0.Table))) fun x48 =>
        if x48 = true then
          some (4 : Int)
        else
          some (0 : Int)
set_option maxHeartbeats 4000000 in
set_option maxRecDepth 100000 in
theorem c_netlist_gate {w0 w : World} {l : List Assn} {ρ : Heap} {A_x0_2 : Option Addr} {n_x0_2 : Nat} {c_x0_2 : Nat} {A_lib1 : Option Addr} {n_lib1 : Nat} {c_lib1 : Nat} {x0 : T_api_Gate} {lib1 : List T_api_Cell} {r : Int} (hF : P_netlist_gate x0 lib1 = some r) (h_x0_2 : RdS (RpI .i64) ρ A_x0_2 n_x0_2 c_x0_2 x0.Ins) (h_lib1 : RdS R_api_Cell ρ A_lib1 n_lib1 c_lib1 lib1) (hS : St w0 w (ro ρ :: l)) :
    Calls Tryd.prog 176 #[.agg #[.int .i64 x0.Cell, .int .u64 x0.Table, .slice A_x0_2 n_x0_2 c_x0_2], .slice A_lib1 n_lib1 c_lib1] w fun e w' => e = .returned (.int .i64 r) ∧ St w0 w' (ro ρ :: l) := by
  have e_ := h_x0_2.n; subst e_
  have e_ := h_lib1.n; subst e_
  refine enterC Tryd.func176 rfl 49 rfl (by simp) ?_
  refine x_seq <| x_region <|
    ?_
  refine o_box (cs := [.int .i64 x0.Cell, .int .u64 x0.Table, .slice A_x0_2 x0.Ins.length c_x0_2]) rfl rfl hS (fun b2 w' hS => ?_)
  refine p (yl_assign rfl) <| x_done <| x_seq <| x_block <|
    x_seq <| x_region <| p (yl_field0 fld_38_0 rfl) <| pa (at_load one_3 rfl (hS.cell rfl)) <|
    p (yl_eql rfl rfl) <| p (yl_assign rfl) <| x_done <|
    x_cond_p (x0.Cell = (-1)) rfl (fun hc5 => ?_) (fun hc5 => ?_)
  · replace hF := it_t hc5 hF
    refine x_seq <| x_region <| p (yl_assign rfl) <| x_done <|
      ?_
    have e_ := Option.some.inj (show some _ = some _ from hF); subst e_
    exact x_return ⟨_, ⟨_, _, rfl, rfl, rfl⟩, rfl, hS.drop⟩
  · replace hF := it_f hc5 hF
    replace hF := lv_s hF; obtain ⟨x19, hx19, hF⟩ := hF
    refine x_seq <| x_region <| p (yl_field0 fld_38_0 rfl) <| pa (at_load one_3 rfl (hS.cell rfl)) <|
      p (yl_lss rfl rfl) <| p (yl_move rfl) <| pg (v := .pointer (some ⟨b2, 0, none⟩)) 13 (c := !(decide (x0.Cell < (-1)))) (says_f _) (fun hq => Yl.at (yl_field0 fld_38_0 rfl)) <| pg (v := .int .i64 x0.Cell) 13 (c := !(decide (x0.Cell < (-1)))) (says_f _) (fun hq => at_load one_3 (cv hq) (hS.cell rfl)) <|
      pg (v := .slice A_lib1 lib1.length c_lib1) 13 (c := !(decide (x0.Cell < (-1)))) (says_f _) (fun hq => Yl.at (yl_move rfl)) <| pg (v := .int .i64 (lib1.length : Int)) 13 (c := !(decide (x0.Cell < (-1)))) (says_f _) (fun hq => Yl.at (yl_len_slice usl_31 (cv hq))) <| pg (v := .bool (decide ((lib1.length : Int) ≤ x0.Cell))) 13 (c := !(decide (x0.Cell < (-1)))) (says_f _) (fun hq => Yl.at (yl_geq (cv hq) (cv hq))) <| p (yor' rfl rfl (fun hc => (cv (t_not hc))) hx19) <|
      p (yl_assign rfl) <| x_done <|
      x_cond (t := x19) rfl (fun hc9 => ?_) (fun hc9 => ?_)
    · replace hF := it_t hc9 hF
      refine x_seq <| x_region <| p (yl_assign rfl) <| x_done <|
        ?_
      have e_ := Option.some.inj (show some _ = some _ from hF); subst e_
      exact x_return ⟨_, ⟨_, _, rfl, rfl, rfl⟩, rfl, hS.drop⟩
    · replace hF := it_bf hc9 hF
      replace hF := ck_s hF; obtain ⟨hk5_3, hF⟩ := hF
      replace hF := lv_s hF; obtain ⟨y5_5, hy5_5, hF⟩ := hF
      have q_ := h_lib1.get hk5_3; obtain ⟨el5_5, ek5_5, ee5_5⟩ := q_
      rw [← hy5_5] at ek5_5
      obtain ⟨A5_5_5, n5_5_5, c5_5_5, A5_5_6, n5_5_6, c5_5_6, A5_5_7, n5_5_7, c5_5_7, rfl, f5_5_5, f5_5_6, f5_5_7⟩ := ek5_5
      have e_ := f5_5_5.n; subst e_
      have e_ := f5_5_6.n; subst e_
      have e_ := f5_5_7.n; subst e_
      refine x_seq <| x_region <| p (yl_move rfl) <| p (yl_field0 fld_38_0 rfl) <|
        pa (at_load one_3 rfl (hS.cell rfl)) <| p (yix_f sl_31 rfl rfl h_lib1 hk5_3) <| p (yl_fieldAddr fld_61_1 rfl) <| pa (at_load one_4 rfl (Elt.ld (j := 1) ee5_5 (hS.pull 1) rfl)) <|
        p (yl_assign rfl) <| x_done <|
        x_cond (t := y5_5.Flop) rfl (fun hc20 => ?_) (fun hc20 => ?_)
      · replace hF := it_t hc20 hF
        refine x_seq <| x_region <| p (yl_assign rfl) <| x_done <|
          ?_
        have e_ := Option.some.inj (show some _ = some _ from hF); subst e_
        exact x_return ⟨_, ⟨_, _, rfl, rfl, rfl⟩, rfl, hS.drop⟩
      · replace hF := it_bf hc20 hF
        replace hF := ck_s hF; obtain ⟨hk7_3, hF⟩ := hF
        replace hF := lv_s hF; obtain ⟨y7_5, hy7_5, hF⟩ := hF
        have q_ := h_lib1.get hk7_3; obtain ⟨el7_5, ek7_5, ee7_5⟩ := q_
        rw [← hy7_5] at ek7_5
        obtain ⟨A7_5_5, n7_5_5, c7_5_5, A7_5_6, n7_5_6, c7_5_6, A7_5_7, n7_5_7, c7_5_7, rfl, f7_5_5, f7_5_6, f7_5_7⟩ := ek7_5
        have e_ := f7_5_5.n; subst e_
        have e_ := f7_5_6.n; subst e_
        have e_ := f7_5_7.n; subst e_
        replace hF := ck_s hF; obtain ⟨hk7_14, hF⟩ := hF
        replace hF := lv_s hF; obtain ⟨x48, hx48, hF⟩ := hF
        refine x_seq <| x_still mixed (by kernel_rfl) hS <| q (yl_move rfl) <| q (yl_field0 fld_38_0 rfl) <|
          qa (fun w' hS => at_load one_3 rfl (hS.cell rfl)) <| q (yix_f sl_31 rfl rfl h_lib1 hk7_3) <| q (yl_fieldAddr fld_61_2 rfl) <| qa (fun w' hS => at_load one_3 rfl (Elt.ld (j := 2) ee7_5 (hS.pull 1) rfl)) <|
          q (yl_field0 fld_38_2 rfl) <| qa (fun w' hS => at_load one_22 rfl (hS.cell rfl)) <| q (yl_len_slice usl_22 rfl) <| q (yl_neq rfl rfl) <|
          q (yl_move rfl) <| qg (v := .slice A_lib1 lib1.length c_lib1) 38 (c := !(decide (y7_5.Ins ≠ (x0.Ins.length : Int)))) (says_f _) (fun hq w' hS => Yl.at (yl_move rfl)) <| qg (v := .pointer (some ⟨b2, 0, none⟩)) 38 (c := !(decide (y7_5.Ins ≠ (x0.Ins.length : Int)))) (says_f _) (fun hq w' hS => Yl.at (yl_field0 fld_38_0 rfl)) <| qg (v := .int .i64 x0.Cell) 38 (c := !(decide (y7_5.Ins ≠ (x0.Ins.length : Int)))) (says_f _) (fun hq w' hS => at_load one_3 (cv hq) (hS.cell rfl)) <|
          qg (v := .pointer (some ((adr A_lib1).add (x0.Cell.toNat * R_api_Cell.sz)))) 38 (c := !(decide (y7_5.Ins ≠ (x0.Ins.length : Int)))) (says_f _) (fun hq w' hS => Yl.at (yix_f sl_31 (cv hq) (cv hq) h_lib1 (hk7_14 hq))) <| qg (v := .pointer (some (((adr A_lib1).add (x0.Cell.toNat * R_api_Cell.sz)).add 3))) 38 (c := !(decide (y7_5.Ins ≠ (x0.Ins.length : Int)))) (says_f _) (fun hq w' hS => Yl.at (yl_fieldAddr fld_61_3 (cv hq))) <| qg (v := .int .u64 ((gt lib1 x0.Cell).Table)) 38 (c := !(decide (y7_5.Ins ≠ (x0.Ins.length : Int)))) (says_f _) (fun hq w' hS => (by obtain ⟨el, ek, ee⟩ := h_lib1.get (hk7_14 hq); obtain ⟨_q0, _q1, _q2, _q3, _q4, _q5, _q6, _q7, _q8, rfl, -⟩ := ek; exact at_load one_35 (cv hq) (Elt.ld (j := 3) ee (hS.pull 1) rfl))) <| qg (v := .pointer (some ⟨b2, 1, none⟩)) 38 (c := !(decide (y7_5.Ins ≠ (x0.Ins.length : Int)))) (says_f _) (fun hq w' hS => Yl.at (yl_field0 fld_38_1 rfl)) <|
          qg (v := .int .u64 x0.Table) 38 (c := !(decide (y7_5.Ins ≠ (x0.Ins.length : Int)))) (says_f _) (fun hq w' hS => at_load one_35 (cv hq) (hS.cell rfl)) <| qg (v := .bool (decide (((gt lib1 x0.Cell).Table) ≠ x0.Table))) 38 (c := !(decide (y7_5.Ins ≠ (x0.Ins.length : Int)))) (says_f _) (fun hq w' hS => Yl.at (yl_neq (cv hq) (cv hq))) <| q (yor' rfl rfl (fun hc => (cv (t_not hc))) hx48) <| q (yl_assign rfl) <|
          q_done fun w' hS => ?_
        refine x_cond (t := x48) rfl (fun hc27 => ?_) (fun hc27 => ?_)
        · replace hF := it_t hc27 hF
          refine x_seq <| x_region <| p (yl_assign rfl) <| x_done <|
            ?_
          have e_ := Option.some.inj (show some _ = some _ from hF); subst e_
          exact x_return ⟨_, ⟨_, _, rfl, rfl, rfl⟩, rfl, hS.drop⟩
        · replace hF := it_bf hc27 hF
          refine x_skip <| x_blk <| x_seq <| x_region <|
            p (yl_assign rfl) <| x_done <|
            ?_
          have e_ := Option.some.inj (show some _ = some _ from hF); subst e_
          exact x_return ⟨_, ⟨_, _, rfl, rfl, rfl⟩, rfl, hS.drop⟩
attribute [irreducible] P_netlist_gate

def P_netlist_flop (f0 : T_api_Flop) (lib1 : List T_api_Cell) : Option Int :=
  if f0.Cell = (-1) then
    some (0 : Int)
  else
    lv ((decide (f0.Cell < (-1))) || (decide ((lib1.length : Int) ≤ f0.Cell))) fun x19 =>
    if x19 = true then
      some (7 : Int)
    else
      ck (inb f0.Cell lib1.length) <|
      lv (gt lib1 f0.Cell) fun y5_5 =>
      if (!y5_5.Flop) = true then
        some (8 : Int)
      else
        ck (inb f0.Cell lib1.length) <|
        lv (gt lib1 f0.Cell) fun y7_5 =>
        lv ((decide (y7_5.Ins = 1)) && (decide (f0.En ≠ 1))) fun x40 =>
        if x40 = true then
          some (4 : Int)
        else
          some (0 : Int)
set_option maxHeartbeats 4000000 in
set_option maxRecDepth 100000 in
theorem c_netlist_flop {w0 w : World} {l : List Assn} {ρ : Heap} {A_lib1 : Option Addr} {n_lib1 : Nat} {c_lib1 : Nat} {f0 : T_api_Flop} {lib1 : List T_api_Cell} {r : Int} (hF : P_netlist_flop f0 lib1 = some r) (h_lib1 : RdS R_api_Cell ρ A_lib1 n_lib1 c_lib1 lib1) (hS : St w0 w (ro ρ :: l)) :
    Calls Tryd.prog 177 #[.agg #[.string f0.Name, .int .i64 f0.Cell, .int .i64 f0.D, .int .i64 f0.En, .bool f0.Init], .slice A_lib1 n_lib1 c_lib1] w fun e w' => e = .returned (.int .i64 r) ∧ St w0 w' (ro ρ :: l) := by
  have e_ := h_lib1.n; subst e_
  refine enterC Tryd.func177 rfl 41 rfl (by simp) ?_
  refine x_seq <| x_region <|
    ?_
  refine o_box (cs := [.string f0.Name, .int .i64 f0.Cell, .int .i64 f0.D, .int .i64 f0.En, .bool f0.Init]) rfl rfl hS (fun b2 w' hS => ?_)
  refine p (yl_assign rfl) <| x_done <| x_seq <| x_block <|
    x_seq <| x_region <| p (yl_field0 fld_149_1 rfl) <| pa (at_load one_3 rfl (hS.cell rfl)) <|
    p (yl_eql rfl rfl) <| p (yl_assign rfl) <| x_done <|
    x_cond_p (f0.Cell = (-1)) rfl (fun hc5 => ?_) (fun hc5 => ?_)
  · replace hF := it_t hc5 hF
    refine x_seq <| x_region <| p (yl_assign rfl) <| x_done <|
      ?_
    have e_ := Option.some.inj (show some _ = some _ from hF); subst e_
    exact x_return ⟨_, ⟨_, _, rfl, rfl, rfl⟩, rfl, hS.drop⟩
  · replace hF := it_f hc5 hF
    replace hF := lv_s hF; obtain ⟨x19, hx19, hF⟩ := hF
    refine x_seq <| x_region <| p (yl_field0 fld_149_1 rfl) <| pa (at_load one_3 rfl (hS.cell rfl)) <|
      p (yl_lss rfl rfl) <| p (yl_move rfl) <| pg (v := .pointer (some ⟨b2, 1, none⟩)) 13 (c := !(decide (f0.Cell < (-1)))) (says_f _) (fun hq => Yl.at (yl_field0 fld_149_1 rfl)) <| pg (v := .int .i64 f0.Cell) 13 (c := !(decide (f0.Cell < (-1)))) (says_f _) (fun hq => at_load one_3 (cv hq) (hS.cell rfl)) <|
      pg (v := .slice A_lib1 lib1.length c_lib1) 13 (c := !(decide (f0.Cell < (-1)))) (says_f _) (fun hq => Yl.at (yl_move rfl)) <| pg (v := .int .i64 (lib1.length : Int)) 13 (c := !(decide (f0.Cell < (-1)))) (says_f _) (fun hq => Yl.at (yl_len_slice usl_31 (cv hq))) <| pg (v := .bool (decide ((lib1.length : Int) ≤ f0.Cell))) 13 (c := !(decide (f0.Cell < (-1)))) (says_f _) (fun hq => Yl.at (yl_geq (cv hq) (cv hq))) <| p (yor' rfl rfl (fun hc => (cv (t_not hc))) hx19) <|
      p (yl_assign rfl) <| x_done <|
      x_cond (t := x19) rfl (fun hc9 => ?_) (fun hc9 => ?_)
    · replace hF := it_t hc9 hF
      refine x_seq <| x_region <| p (yl_assign rfl) <| x_done <|
        ?_
      have e_ := Option.some.inj (show some _ = some _ from hF); subst e_
      exact x_return ⟨_, ⟨_, _, rfl, rfl, rfl⟩, rfl, hS.drop⟩
    · replace hF := it_bf hc9 hF
      replace hF := ck_s hF; obtain ⟨hk5_3, hF⟩ := hF
      replace hF := lv_s hF; obtain ⟨y5_5, hy5_5, hF⟩ := hF
      have q_ := h_lib1.get hk5_3; obtain ⟨el5_5, ek5_5, ee5_5⟩ := q_
      rw [← hy5_5] at ek5_5
      obtain ⟨A5_5_5, n5_5_5, c5_5_5, A5_5_6, n5_5_6, c5_5_6, A5_5_7, n5_5_7, c5_5_7, rfl, f5_5_5, f5_5_6, f5_5_7⟩ := ek5_5
      have e_ := f5_5_5.n; subst e_
      have e_ := f5_5_6.n; subst e_
      have e_ := f5_5_7.n; subst e_
      refine x_seq <| x_region <| p (yl_move rfl) <| p (yl_field0 fld_149_1 rfl) <|
        pa (at_load one_3 rfl (hS.cell rfl)) <| p (yix_f sl_31 rfl rfl h_lib1 hk5_3) <| p (yl_fieldAddr fld_61_1 rfl) <| pa (at_load one_4 rfl (Elt.ld (j := 1) ee5_5 (hS.pull 1) rfl)) <|
        p (yl_not rfl) <| p (yl_assign rfl) <| x_done <|
        x_cond (t := !y5_5.Flop) rfl (fun hc20 => ?_) (fun hc20 => ?_)
      · replace hF := it_t hc20 hF
        refine x_seq <| x_region <| p (yl_assign rfl) <| x_done <|
          ?_
        have e_ := Option.some.inj (show some _ = some _ from hF); subst e_
        exact x_return ⟨_, ⟨_, _, rfl, rfl, rfl⟩, rfl, hS.drop⟩
      · replace hF := it_bf hc20 hF
        replace hF := ck_s hF; obtain ⟨hk7_3, hF⟩ := hF
        replace hF := lv_s hF; obtain ⟨y7_5, hy7_5, hF⟩ := hF
        have q_ := h_lib1.get hk7_3; obtain ⟨el7_5, ek7_5, ee7_5⟩ := q_
        rw [← hy7_5] at ek7_5
        obtain ⟨A7_5_5, n7_5_5, c7_5_5, A7_5_6, n7_5_6, c7_5_6, A7_5_7, n7_5_7, c7_5_7, rfl, f7_5_5, f7_5_6, f7_5_7⟩ := ek7_5
        have e_ := f7_5_5.n; subst e_
        have e_ := f7_5_6.n; subst e_
        have e_ := f7_5_7.n; subst e_
        replace hF := lv_s hF; obtain ⟨x40, hx40, hF⟩ := hF
        refine x_seq <| x_region <| p (yl_move rfl) <| p (yl_field0 fld_149_1 rfl) <|
          pa (at_load one_3 rfl (hS.cell rfl)) <| p (yix_f sl_31 rfl rfl h_lib1 hk7_3) <| p (yl_fieldAddr fld_61_2 rfl) <| pa (at_load one_3 rfl (Elt.ld (j := 2) ee7_5 (hS.pull 1) rfl)) <|
          p (yl_eql rfl rfl) <| p (yl_move rfl) <| pg (v := .pointer (some ⟨b2, 3, none⟩)) 36 (c := decide (y7_5.Ins = 1)) (says_t _) (fun hq => Yl.at (yl_field0 fld_149_3 rfl)) <| pg (v := .int .i64 f0.En) 36 (c := decide (y7_5.Ins = 1)) (says_t _) (fun hq => at_load one_3 (cv hq) (hS.cell rfl)) <|
          pg (v := .bool (decide (f0.En ≠ 1))) 36 (c := decide (y7_5.Ins = 1)) (says_t _) (fun hq => Yl.at (yl_neq (cv hq) rfl)) <| p (yand' rfl (fun hc => (cv hc)) rfl hx40) <| p (yl_assign rfl) <| x_done <|
          x_cond (t := x40) rfl (fun hc28 => ?_) (fun hc28 => ?_)
        · replace hF := it_t hc28 hF
          refine x_seq <| x_region <| p (yl_assign rfl) <| x_done <|
            ?_
          have e_ := Option.some.inj (show some _ = some _ from hF); subst e_
          exact x_return ⟨_, ⟨_, _, rfl, rfl, rfl⟩, rfl, hS.drop⟩
        · replace hF := it_bf hc28 hF
          refine x_skip <| x_blk <| x_seq <| x_region <|
            p (yl_assign rfl) <| x_done <|
            ?_
          have e_ := Option.some.inj (show some _ = some _ from hF); subst e_
          exact x_return ⟨_, ⟨_, _, rfl, rfl, rfl⟩, rfl, hS.drop⟩
attribute [irreducible] P_netlist_flop

def P_netlist_Check_L5 (n0 : T_api_Netlist) (lib1 : List T_api_Cell) : Int → Option (Int ⊕ (Unit ⊕ Int)) := fun y20_L5h =>
  if y20_L5h < (n0.Gates.length : Int) then
    ck (inb y20_L5h n0.Gates.length) <|
    lv (gt n0.Gates y20_L5h) fun y6_1 =>
    bd (P_netlist_gate y6_1 lib1) fun r7_2 =>
    if r7_2 ≠ 0 then
      some (Sum.inr (Sum.inr r7_2))
    else
      ar (y20_L5h + 1) fun x30 =>
      some (Sum.inl x30)
  else
    some (Sum.inr (Sum.inl ()))
def P_netlist_Check_L12 (n0 : T_api_Netlist) (lib1 : List T_api_Cell) : Int → Option (Int ⊕ (Unit ⊕ Int)) := fun y34_L12h =>
  if y34_L12h < (n0.Flops.length : Int) then
    ck (inb y34_L12h n0.Flops.length) <|
    lv (gt n0.Flops y34_L12h) fun y13_1 =>
    bd (P_netlist_flop y13_1 lib1) fun r14_2 =>
    if r14_2 ≠ 0 then
      some (Sum.inr (Sum.inr r14_2))
    else
      ar (y34_L12h + 1) fun x44 =>
      some (Sum.inl x44)
  else
    some (Sum.inr (Sum.inl ()))
def P_netlist_Check (n0 : T_api_Netlist) (lib1 : List T_api_Cell) : Option Int :=
  bd (P_netlist_Form n0) fun r1_1 =>
  if r1_1 ≠ 0 then
    some r1_1
  else
    bs (
      lp (P_netlist_Check_L5 n0 lib1) fuel 0) (fun y => some y) fun _ =>
    bs (
      lp (P_netlist_Check_L12 n0 lib1) fuel 0) (fun y => some y) fun _ =>
    some (0 : Int)
set_option maxHeartbeats 4000000 in
set_option maxRecDepth 100000 in
theorem c_netlist_Check {w0 w : World} {l : List Assn} {ρ : Heap} {A_n0_0 : Option Addr} {n_n0_0 : Nat} {c_n0_0 : Nat} {A_n0_1 : Option Addr} {n_n0_1 : Nat} {c_n0_1 : Nat} {A_n0_2 : Option Addr} {n_n0_2 : Nat} {c_n0_2 : Nat} {A_n0_3 : Option Addr} {n_n0_3 : Nat} {c_n0_3 : Nat} {A_n0_4 : Option Addr} {n_n0_4 : Nat} {c_n0_4 : Nat} {A_lib1 : Option Addr} {n_lib1 : Nat} {c_lib1 : Nat} {n0 : T_api_Netlist} {lib1 : List T_api_Cell} {r : Int} (hF : P_netlist_Check n0 lib1 = some r) (h_n0_0 : RdS RpS ρ A_n0_0 n_n0_0 c_n0_0 n0.In) (h_n0_1 : RdS RpS ρ A_n0_1 n_n0_1 c_n0_1 n0.Out) (h_n0_2 : RdS R_api_Flop ρ A_n0_2 n_n0_2 c_n0_2 n0.Flops) (h_n0_3 : RdS R_api_Gate ρ A_n0_3 n_n0_3 c_n0_3 n0.Gates) (h_n0_4 : RdS (RpI .i64) ρ A_n0_4 n_n0_4 c_n0_4 n0.Outs) (h_lib1 : RdS R_api_Cell ρ A_lib1 n_lib1 c_lib1 lib1) (hS : St w0 w (ro ρ :: l)) :
    Calls Tryd.prog 120 #[.agg #[.slice A_n0_0 n_n0_0 c_n0_0, .slice A_n0_1 n_n0_1 c_n0_1, .slice A_n0_2 n_n0_2 c_n0_2, .slice A_n0_3 n_n0_3 c_n0_3, .slice A_n0_4 n_n0_4 c_n0_4], .slice A_lib1 n_lib1 c_lib1] w fun e w' => e = .returned (.int .i64 r) ∧ St w0 w' (ro ρ :: l) := by
  have e_ := h_n0_0.n; subst e_
  have e_ := h_n0_1.n; subst e_
  have e_ := h_n0_2.n; subst e_
  have e_ := h_n0_3.n; subst e_
  have e_ := h_n0_4.n; subst e_
  have e_ := h_lib1.n; subst e_
  refine enterC Tryd.func120 rfl 45 rfl (by simp) ?_
  refine x_seq <| x_region <|
    ?_
  refine o_box (cs := [.slice A_n0_0 n0.In.length c_n0_0, .slice A_n0_1 n0.Out.length c_n0_1, .slice A_n0_2 n0.Flops.length c_n0_2, .slice A_n0_3 n0.Gates.length c_n0_3, .slice A_n0_4 n0.Outs.length c_n0_4]) rfl rfl hS (fun b2 w' hS => ?_)
  replace hF := bd_s hF; obtain ⟨r1_1, hc1_1, hF⟩ := hF
  refine p (yl_assign rfl) <| x_done <| x_seq <| x_seq <|
    x_region <| pa (v := .agg #[.slice A_n0_0 n0.In.length c_n0_0, .slice A_n0_1 n0.Out.length c_n0_1, .slice A_n0_2 n0.Flops.length c_n0_2, .slice A_n0_3 n0.Gates.length c_n0_3, .slice A_n0_4 n0.Outs.length c_n0_4]) (ld_sub agg_30 rfl rfl rfl hS) <|
    ?_
  have hcall := c_netlist_Form hc1_1 h_n0_0 h_n0_1 h_n0_2 h_n0_3 h_n0_4 (hS.pull 1)
  refine o_cc call_175 (args1 rfl) ((Calls.mono hcall (fun e w'' h => And.intro h.1 (h.2.pull 1)))) ?_
  rintro e w' ⟨rfl, hS⟩
  refine ⟨_, rfl, ?_⟩
  refine p (v := .int .i64 r1_1) (yl_assign rfl) <| x_done <| x_seq <| x_region <|
    p (v := .int .i64 r1_1) (yl_move rfl) <| p (yl_neq rfl rfl) <| x_done <|
    x_cond_p (r1_1 ≠ 0) rfl (fun hc15 => ?_) (fun hc15 => ?_)
  · replace hF := it_t hc15 hF
    refine x_seq <| x_region <| p (v := .int .i64 r1_1) (yl_move rfl) <| p (v := .int .i64 r1_1) (yl_assign rfl) <|
      x_done <|
      ?_
    have e_ := Option.some.inj (show some _ = some _ from hF); subst e_
    exact x_return ⟨_, ⟨_, _, rfl, rfl, rfl⟩, rfl, hS.drop⟩
  · replace hF := it_f hc15 hF
    refine x_skip <| x_seq <| x_seq <| x_region <|
      p (yl_field0 fld_30_3 rfl) <| pa (at_load one_28 rfl (hS.cell rfl)) <| p (yl_len_slice usl_28 rfl) <| p (yl_move rfl) <|
      x_done <|
      ?_
    replace hF := bs_s hF; obtain ⟨oL5, hLL5, hF⟩ := hF
    refine x_join (fun E w => (Sum.inl (())) = oL5 ∧ E 1 = .slice A_lib1 lib1.length c_lib1 ∧ E 2 = .pointer (some ⟨b2, 0, none⟩) ∧ St w0 w (cells b2 30 [.slice A_n0_0 n0.In.length c_n0_0, .slice A_n0_1 n0.Out.length c_n0_1, .slice A_n0_2 n0.Flops.length c_n0_2, .slice A_n0_3 n0.Gates.length c_n0_3, .slice A_n0_4 n0.Outs.length c_n0_4] :: ro ρ :: l)) ?_ ?_
    · skip -- L5
      refine x_block ?_
      refine x_loop (fun k_ E w => ∃ (y20_L5h : Int), lp (P_netlist_Check_L5 n0 lib1) k_ y20_L5h = some oL5 ∧ E 1 = .slice A_lib1 lib1.length c_lib1 ∧ E 2 = .pointer (some ⟨b2, 0, none⟩) ∧ E 18 = .slice A_n0_3 n0.Gates.length c_n0_3 ∧ E 19 = .int .i64 (n0.Gates.length : Int) ∧ E 20 = .int .i64 y20_L5h ∧ St w0 w (cells b2 30 [.slice A_n0_0 n0.In.length c_n0_0, .slice A_n0_1 n0.Out.length c_n0_1, .slice A_n0_2 n0.Flops.length c_n0_2, .slice A_n0_3 n0.Gates.length c_n0_3, .slice A_n0_4 n0.Outs.length c_n0_4] :: ro ρ :: l)) fuel ⟨0, hLL5, rfl, rfl, rfl, rfl, rfl, ((hS.pull 1).pull 1)⟩ ?_
      rintro kL5 E w ⟨y20_L5h, hLL5, eL5h_1, eL5h_2, eL5h_18, eL5h_19, eL5h_20, hS⟩
      replace hLL5 := lp_s hLL5; obtain ⟨kL5, obL5, rfl, hFL5, hLL5⟩ := hLL5
      refine x_seq <| x_region <| p (yl_lss eL5h_20 eL5h_19) <| x_done <|
        x_seq <|
        x_cond_p (y20_L5h < (n0.Gates.length : Int)) rfl (fun hc21 => ?_) (fun hc21 => ?_)
      · replace hFL5 := it_t hc21 hFL5
        replace hFL5 := ck_s hFL5; obtain ⟨hk6_0, hFL5⟩ := hFL5
        replace hFL5 := lv_s hFL5; obtain ⟨y6_1, hy6_1, hFL5⟩ := hFL5
        have q_ := h_n0_3.get hk6_0; obtain ⟨el6_1, ek6_1, ee6_1⟩ := q_
        rw [← hy6_1] at ek6_1
        obtain ⟨A6_1_2, n6_1_2, c6_1_2, rfl, f6_1_2⟩ := ek6_1
        have e_ := f6_1_2.n; subst e_
        refine x_skip <| x_seq <| x_block <| x_seq <|
          x_region <| p (yix_f sl_28 eL5h_18 eL5h_20 h_n0_3 hk6_0) <| pa (v := .agg #[.int .i64 y6_1.Cell, .int .u64 y6_1.Table, .slice A6_1_2 y6_1.Ins.length c6_1_2]) (at_loadAgg agg_38 rfl rfl (Elt.every ee6_1 (hS.pull 1))) <|
          ?_
        refine o_alloc zero_38 hS (fun b7 w' hS => ?_)
        refine o_storeAgg (news := [.int .i64 y6_1.Cell, .int .u64 y6_1.Table, .slice A6_1_2 y6_1.Ins.length c6_1_2]) agg_38 rfl rfl rfl (by simp [over_length]) hS (fun w' hS => ?_)
        replace hFL5 := bd_s hFL5; obtain ⟨r7_2, hc7_2, hFL5⟩ := hFL5
        refine x_done <| x_seq <| x_region <| pa (v := .agg #[.int .i64 y6_1.Cell, .int .u64 y6_1.Table, .slice A6_1_2 y6_1.Ins.length c6_1_2]) (ld_sub agg_38 rfl rfl rfl hS) <|
          p (yl_move eL5h_1) <|
          ?_
        have hcall := c_netlist_gate hc7_2 f6_1_2 h_lib1 (hS.pull 2)
        refine o_cc call_176 (args2 rfl rfl) ((Calls.mono hcall (fun e w'' h => And.intro h.1 ((h.2.pull 2).pull 2)))) ?_
        rintro e w' ⟨rfl, hS⟩
        refine ⟨_, rfl, ?_⟩
        refine p (v := .int .i64 r7_2) (yl_assign rfl) <| x_done <| x_seq <| x_region <|
          p (v := .int .i64 r7_2) (yl_move rfl) <| p (yl_neq rfl rfl) <| x_done <|
          x_cond_p (r7_2 ≠ 0) rfl (fun hc28 => ?_) (fun hc28 => ?_)
        · replace hFL5 := it_t hc28 hFL5
          refine x_seq <| x_region <| p (v := .int .i64 r7_2) (yl_move rfl) <| p (v := .int .i64 r7_2) (yl_assign rfl) <|
            x_done <|
            ?_
          have e_ := Option.some.inj (show some _ = some _ from hFL5); subst e_
          have e_ := (show _ = oL5 from hLL5); subst e_
          have e_ := Option.some.inj (show some _ = some _ from hF); subst e_
          exact x_return ⟨_, ⟨_, _, rfl, rfl, rfl⟩, rfl, hS.drop.drop⟩
        · replace hFL5 := it_f hc28 hFL5
          replace hFL5 := ar_s hFL5; obtain ⟨x30, hx30, hFL5⟩ := hFL5
          refine x_skip <| x_blk <| x_region <| p (yadd eL5h_20 rfl hx30) <|
            p (yl_move rfl) <| x_done <|
            ?_
          have e_ := Option.some.inj (show some _ = some _ from hFL5); subst e_
          exact x_inv ⟨kL5, Nat.lt_succ_self _, x30, hLL5, eL5h_1, eL5h_2, eL5h_18, eL5h_19, rfl, ((hS.drop.pull 1).pull 1)⟩
      · replace hFL5 := it_f hc21 hFL5
        refine x_exitTo _ rfl <|
          ?_
        have e_ := Option.some.inj (show some _ = some _ from hFL5); subst e_
        exact x_inv ⟨hLL5, eL5h_1, eL5h_2, ((hS.pull 1).pull 1)⟩
    rintro E w ⟨rfl, eL5_1, eL5_2, hS⟩
    refine x_seq <| x_seq <| x_region <| p (yl_field0 fld_30_2 eL5_2) <|
      pa (at_load one_27 rfl (hS.cell rfl)) <| p (yl_len_slice usl_27 rfl) <| p (yl_move rfl) <| x_done <|
      ?_
    replace hF := bs_s hF; obtain ⟨oL12, hLL12, hF⟩ := hF
    refine x_join (fun E w => (Sum.inl (())) = oL12 ∧ St w0 w (ro ρ :: l)) ?_ ?_
    · skip -- L12
      refine x_block ?_
      refine x_loop (fun k_ E w => ∃ (y34_L12h : Int), lp (P_netlist_Check_L12 n0 lib1) k_ y34_L12h = some oL12 ∧ E 1 = .slice A_lib1 lib1.length c_lib1 ∧ E 32 = .slice A_n0_2 n0.Flops.length c_n0_2 ∧ E 33 = .int .i64 (n0.Flops.length : Int) ∧ E 34 = .int .i64 y34_L12h ∧ St w0 w (ro ρ :: l)) fuel ⟨0, hLL12, eL5_1, rfl, rfl, rfl, hS.drop⟩ ?_
      rintro kL12 E w ⟨y34_L12h, hLL12, eL12h_1, eL12h_32, eL12h_33, eL12h_34, hS⟩
      replace hLL12 := lp_s hLL12; obtain ⟨kL12, obL12, rfl, hFL12, hLL12⟩ := hLL12
      refine x_seq <| x_region <| p (yl_lss eL12h_34 eL12h_33) <| x_done <|
        x_seq <|
        x_cond_p (y34_L12h < (n0.Flops.length : Int)) rfl (fun hc35 => ?_) (fun hc35 => ?_)
      · replace hFL12 := it_t hc35 hFL12
        replace hFL12 := ck_s hFL12; obtain ⟨hk13_0, hFL12⟩ := hFL12
        replace hFL12 := lv_s hFL12; obtain ⟨y13_1, hy13_1, hFL12⟩ := hFL12
        have q_ := h_n0_2.get hk13_0; obtain ⟨el13_1, ek13_1, ee13_1⟩ := q_
        rw [← hy13_1] at ek13_1
        have e_ := ek13_1; subst e_
        refine x_skip <| x_seq <| x_block <| x_seq <|
          x_region <| p (yix_f sl_27 eL12h_32 eL12h_34 h_n0_2 hk13_0) <| pa (v := .agg #[.string y13_1.Name, .int .i64 y13_1.Cell, .int .i64 y13_1.D, .int .i64 y13_1.En, .bool y13_1.Init]) (at_loadAgg agg_149 rfl rfl (Elt.every ee13_1 hS)) <|
          ?_
        refine o_alloc zero_149 hS (fun b10 w' hS => ?_)
        refine o_storeAgg (news := [.string y13_1.Name, .int .i64 y13_1.Cell, .int .i64 y13_1.D, .int .i64 y13_1.En, .bool y13_1.Init]) agg_149 rfl rfl rfl (by simp [over_length]) hS (fun w' hS => ?_)
        replace hFL12 := bd_s hFL12; obtain ⟨r14_2, hc14_2, hFL12⟩ := hFL12
        refine x_done <| x_seq <| x_region <| pa (v := .agg #[.string y13_1.Name, .int .i64 y13_1.Cell, .int .i64 y13_1.D, .int .i64 y13_1.En, .bool y13_1.Init]) (ld_sub agg_149 rfl rfl rfl hS) <|
          p (yl_move eL12h_1) <|
          ?_
        have hcall := c_netlist_flop hc14_2 h_lib1 (hS.pull 1)
        refine o_cc call_177 (args2 rfl rfl) ((Calls.mono hcall (fun e w'' h => And.intro h.1 (h.2.pull 1)))) ?_
        rintro e w' ⟨rfl, hS⟩
        refine ⟨_, rfl, ?_⟩
        refine p (v := .int .i64 r14_2) (yl_assign rfl) <| x_done <| x_seq <| x_region <|
          p (v := .int .i64 r14_2) (yl_move rfl) <| p (yl_neq rfl rfl) <| x_done <|
          x_cond_p (r14_2 ≠ 0) rfl (fun hc42 => ?_) (fun hc42 => ?_)
        · replace hFL12 := it_t hc42 hFL12
          refine x_seq <| x_region <| p (v := .int .i64 r14_2) (yl_move rfl) <| p (v := .int .i64 r14_2) (yl_assign rfl) <|
            x_done <|
            ?_
          have e_ := Option.some.inj (show some _ = some _ from hFL12); subst e_
          have e_ := (show _ = oL12 from hLL12); subst e_
          have e_ := Option.some.inj (show some _ = some _ from hF); subst e_
          exact x_return ⟨_, ⟨_, _, rfl, rfl, rfl⟩, rfl, hS.drop⟩
        · replace hFL12 := it_f hc42 hFL12
          replace hFL12 := ar_s hFL12; obtain ⟨x44, hx44, hFL12⟩ := hFL12
          refine x_skip <| x_blk <| x_region <| p (yadd eL12h_34 rfl hx44) <|
            p (yl_move rfl) <| x_done <|
            ?_
          have e_ := Option.some.inj (show some _ = some _ from hFL12); subst e_
          exact x_inv ⟨kL12, Nat.lt_succ_self _, x44, hLL12, eL12h_1, eL12h_32, eL12h_33, rfl, hS.drop⟩
      · replace hFL12 := it_f hc35 hFL12
        refine x_exitTo _ rfl <|
          ?_
        have e_ := Option.some.inj (show some _ = some _ from hFL12); subst e_
        exact x_inv ⟨hLL12, hS⟩
    rintro E w ⟨rfl, hS⟩
    refine x_seq <| x_region <| p (yl_assign rfl) <| x_done <|
      ?_
    have e_ := Option.some.inj (show some _ = some _ from hF); subst e_
    exact x_return ⟨_, ⟨_, _, rfl, rfl, rfl⟩, rfl, hS⟩
attribute [irreducible] P_netlist_Check

def P_floor_CheckChip_L8 (n0 : T_api_Netlist) : Int → Option (Int ⊕ (Unit ⊕ Int)) := fun y25_L8h =>
  if y25_L8h < (n0.Gates.length : Int) then
    ck (inb y25_L8h n0.Gates.length) <|
    lv (gt n0.Gates y25_L8h) fun y9_1 =>
    if y9_1.Cell < 0 then
      some (Sum.inr (Sum.inr (8 : Int)))
    else
      ar (y25_L8h + 1) fun x32 =>
      some (Sum.inl x32)
  else
    some (Sum.inr (Sum.inl ()))
def P_floor_CheckChip_L14 (n0 : T_api_Netlist) : Int → Option (Int ⊕ (Unit ⊕ Int)) := fun y36_L14h =>
  if y36_L14h < (n0.Flops.length : Int) then
    ck (inb y36_L14h n0.Flops.length) <|
    lv (gt n0.Flops y36_L14h) fun y15_1 =>
    if y15_1.Cell < 0 then
      some (Sum.inr (Sum.inr (8 : Int)))
    else
      ar (y36_L14h + 1) fun x43 =>
      some (Sum.inl x43)
  else
    some (Sum.inr (Sum.inl ()))
def P_floor_CheckChip (n0 : T_api_Netlist) (l_1 : List T_api_Cell) : Option Int :=
  bd (P_floor_CheckLib l_1) fun r1_1 =>
  if r1_1 ≠ 0 then
    some r1_1
  else
    bd (P_netlist_Check n0 l_1) fun r4_2 =>
    if r4_2 ≠ 0 then
      some r4_2
    else
      bs (
        lp (P_floor_CheckChip_L8 n0) fuel 0) (fun y => some y) fun _ =>
      bs (
        lp (P_floor_CheckChip_L14 n0) fuel 0) (fun y => some y) fun _ =>
      ar ((n0.Gates.length : Int) + (n0.Flops.length : Int)) fun x50 =>
      if 300 < x50 then
        some (3 : Int)
      else
        some (0 : Int)
set_option maxHeartbeats 4000000 in
set_option maxRecDepth 100000 in
theorem c_floor_CheckChip {w0 w : World} {l : List Assn} {ρ : Heap} {A_n0_0 : Option Addr} {n_n0_0 : Nat} {c_n0_0 : Nat} {A_n0_1 : Option Addr} {n_n0_1 : Nat} {c_n0_1 : Nat} {A_n0_2 : Option Addr} {n_n0_2 : Nat} {c_n0_2 : Nat} {A_n0_3 : Option Addr} {n_n0_3 : Nat} {c_n0_3 : Nat} {A_n0_4 : Option Addr} {n_n0_4 : Nat} {c_n0_4 : Nat} {A_l_1 : Option Addr} {n_l_1 : Nat} {c_l_1 : Nat} {n0 : T_api_Netlist} {l_1 : List T_api_Cell} {r : Int} (hF : P_floor_CheckChip n0 l_1 = some r) (h_n0_0 : RdS RpS ρ A_n0_0 n_n0_0 c_n0_0 n0.In) (h_n0_1 : RdS RpS ρ A_n0_1 n_n0_1 c_n0_1 n0.Out) (h_n0_2 : RdS R_api_Flop ρ A_n0_2 n_n0_2 c_n0_2 n0.Flops) (h_n0_3 : RdS R_api_Gate ρ A_n0_3 n_n0_3 c_n0_3 n0.Gates) (h_n0_4 : RdS (RpI .i64) ρ A_n0_4 n_n0_4 c_n0_4 n0.Outs) (h_l_1 : RdS R_api_Cell ρ A_l_1 n_l_1 c_l_1 l_1) (hS : St w0 w (ro ρ :: l)) :
    Calls Tryd.prog 57 #[.agg #[.slice A_n0_0 n_n0_0 c_n0_0, .slice A_n0_1 n_n0_1 c_n0_1, .slice A_n0_2 n_n0_2 c_n0_2, .slice A_n0_3 n_n0_3 c_n0_3, .slice A_n0_4 n_n0_4 c_n0_4], .slice A_l_1 n_l_1 c_l_1] w fun e w' => e = .returned (.int .i64 r) ∧ St w0 w' (ro ρ :: l) := by
  have e_ := h_n0_0.n; subst e_
  have e_ := h_n0_1.n; subst e_
  have e_ := h_n0_2.n; subst e_
  have e_ := h_n0_3.n; subst e_
  have e_ := h_n0_4.n; subst e_
  have e_ := h_l_1.n; subst e_
  refine enterC Tryd.func57 rfl 52 rfl (by simp) ?_
  refine x_seq <| x_region <|
    ?_
  refine o_box (cs := [.slice A_n0_0 n0.In.length c_n0_0, .slice A_n0_1 n0.Out.length c_n0_1, .slice A_n0_2 n0.Flops.length c_n0_2, .slice A_n0_3 n0.Gates.length c_n0_3, .slice A_n0_4 n0.Outs.length c_n0_4]) rfl rfl hS (fun b2 w' hS => ?_)
  replace hF := bd_s hF; obtain ⟨r1_1, hc1_1, hF⟩ := hF
  refine p (yl_assign rfl) <| x_done <| x_seq <| x_seq <|
    x_region <| p (yl_move rfl) <|
    ?_
  have hcall := c_floor_CheckLib hc1_1 h_l_1 (hS.pull 1)
  refine o_cc call_119 (args1 rfl) ((Calls.mono hcall (fun e w'' h => And.intro h.1 (h.2.pull 1)))) ?_
  rintro e w' ⟨rfl, hS⟩
  refine ⟨_, rfl, ?_⟩
  refine p (v := .int .i64 r1_1) (yl_assign rfl) <| x_done <| x_seq <| x_region <|
    p (v := .int .i64 r1_1) (yl_move rfl) <| p (yl_neq rfl rfl) <| x_done <|
    x_cond_p (r1_1 ≠ 0) rfl (fun hc14 => ?_) (fun hc14 => ?_)
  · replace hF := it_t hc14 hF
    refine x_seq <| x_region <| p (v := .int .i64 r1_1) (yl_move rfl) <| p (v := .int .i64 r1_1) (yl_assign rfl) <|
      x_done <|
      ?_
    have e_ := Option.some.inj (show some _ = some _ from hF); subst e_
    exact x_return ⟨_, ⟨_, _, rfl, rfl, rfl⟩, rfl, hS.drop⟩
  · replace hF := it_f hc14 hF
    replace hF := bd_s hF; obtain ⟨r4_2, hc4_2, hF⟩ := hF
    refine x_skip <| x_seq <| x_seq <| x_region <|
      pa (v := .agg #[.slice A_n0_0 n0.In.length c_n0_0, .slice A_n0_1 n0.Out.length c_n0_1, .slice A_n0_2 n0.Flops.length c_n0_2, .slice A_n0_3 n0.Gates.length c_n0_3, .slice A_n0_4 n0.Outs.length c_n0_4]) (ld_sub agg_30 rfl rfl rfl hS) <| p (yl_move rfl) <|
      ?_
    have hcall := c_netlist_Check hc4_2 h_n0_0 h_n0_1 h_n0_2 h_n0_3 h_n0_4 h_l_1 (hS.pull 1)
    refine o_cc call_120 (args2 rfl rfl) ((Calls.mono hcall (fun e w'' h => And.intro h.1 (h.2.pull 1)))) ?_
    rintro e w' ⟨rfl, hS⟩
    refine ⟨_, rfl, ?_⟩
    refine p (v := .int .i64 r4_2) (yl_assign rfl) <| x_done <| x_seq <| x_region <|
      p (v := .int .i64 r4_2) (yl_move rfl) <| p (yl_neq rfl rfl) <| x_done <|
      x_cond_p (r4_2 ≠ 0) rfl (fun hc20 => ?_) (fun hc20 => ?_)
    · replace hF := it_t hc20 hF
      refine x_seq <| x_region <| p (v := .int .i64 r4_2) (yl_move rfl) <| p (v := .int .i64 r4_2) (yl_assign rfl) <|
        x_done <|
        ?_
      have e_ := Option.some.inj (show some _ = some _ from hF); subst e_
      exact x_return ⟨_, ⟨_, _, rfl, rfl, rfl⟩, rfl, hS.drop⟩
    · replace hF := it_f hc20 hF
      refine x_skip <| x_seq <| x_seq <| x_region <|
        p (yl_field0 fld_30_3 rfl) <| pa (at_load one_28 rfl (hS.cell rfl)) <| p (yl_len_slice usl_28 rfl) <| p (yl_move rfl) <|
        x_done <|
        ?_
      replace hF := bs_s hF; obtain ⟨oL8, hLL8, hF⟩ := hF
      refine x_join (fun E w => (Sum.inl (())) = oL8 ∧ E 2 = .pointer (some ⟨b2, 0, none⟩) ∧ St w0 w (cells b2 30 [.slice A_n0_0 n0.In.length c_n0_0, .slice A_n0_1 n0.Out.length c_n0_1, .slice A_n0_2 n0.Flops.length c_n0_2, .slice A_n0_3 n0.Gates.length c_n0_3, .slice A_n0_4 n0.Outs.length c_n0_4] :: ro ρ :: l)) ?_ ?_
      · skip -- L8
        refine x_block ?_
        refine x_loop (fun k_ E w => ∃ (y25_L8h : Int), lp (P_floor_CheckChip_L8 n0) k_ y25_L8h = some oL8 ∧ E 2 = .pointer (some ⟨b2, 0, none⟩) ∧ E 23 = .slice A_n0_3 n0.Gates.length c_n0_3 ∧ E 24 = .int .i64 (n0.Gates.length : Int) ∧ E 25 = .int .i64 y25_L8h ∧ St w0 w (cells b2 30 [.slice A_n0_0 n0.In.length c_n0_0, .slice A_n0_1 n0.Out.length c_n0_1, .slice A_n0_2 n0.Flops.length c_n0_2, .slice A_n0_3 n0.Gates.length c_n0_3, .slice A_n0_4 n0.Outs.length c_n0_4] :: ro ρ :: l)) fuel ⟨0, hLL8, rfl, rfl, rfl, rfl, ((hS.pull 1).pull 1)⟩ ?_
        rintro kL8 E w ⟨y25_L8h, hLL8, eL8h_2, eL8h_23, eL8h_24, eL8h_25, hS⟩
        replace hLL8 := lp_s hLL8; obtain ⟨kL8, obL8, rfl, hFL8, hLL8⟩ := hLL8
        refine x_seq <| x_region <| p (yl_lss eL8h_25 eL8h_24) <| x_done <|
          x_seq <|
          x_cond_p (y25_L8h < (n0.Gates.length : Int)) rfl (fun hc26 => ?_) (fun hc26 => ?_)
        · replace hFL8 := it_t hc26 hFL8
          replace hFL8 := ck_s hFL8; obtain ⟨hk9_0, hFL8⟩ := hFL8
          replace hFL8 := lv_s hFL8; obtain ⟨y9_1, hy9_1, hFL8⟩ := hFL8
          have q_ := h_n0_3.get hk9_0; obtain ⟨el9_1, ek9_1, ee9_1⟩ := q_
          rw [← hy9_1] at ek9_1
          obtain ⟨A9_1_2, n9_1_2, c9_1_2, rfl, f9_1_2⟩ := ek9_1
          have e_ := f9_1_2.n; subst e_
          refine x_skip <| x_seq <| x_block <| x_seq <|
            x_region <| p (yix_f sl_28 eL8h_23 eL8h_25 h_n0_3 hk9_0) <| pa (v := .agg #[.int .i64 y9_1.Cell, .int .u64 y9_1.Table, .slice A9_1_2 y9_1.Ins.length c9_1_2]) (at_loadAgg agg_38 rfl rfl (Elt.every ee9_1 (hS.pull 1))) <|
            ?_
          refine o_alloc zero_38 hS (fun b8 w' hS => ?_)
          refine o_storeAgg (news := [.int .i64 y9_1.Cell, .int .u64 y9_1.Table, .slice A9_1_2 y9_1.Ins.length c9_1_2]) agg_38 rfl rfl rfl (by simp [over_length]) hS (fun w' hS => ?_)
          refine x_done <| x_seq <| x_region <| p (yl_field0 fld_38_0 rfl) <|
            pa (at_load one_3 rfl (hS.cell rfl)) <| p (yl_lss rfl rfl) <| x_done <|
            x_cond_p (y9_1.Cell < 0) rfl (fun hc31 => ?_) (fun hc31 => ?_)
          · replace hFL8 := it_t hc31 hFL8
            refine x_seq <| x_region <| p (yl_assign rfl) <| x_done <|
              ?_
            have e_ := Option.some.inj (show some _ = some _ from hFL8); subst e_
            have e_ := (show _ = oL8 from hLL8); subst e_
            have e_ := Option.some.inj (show some _ = some _ from hF); subst e_
            exact x_return ⟨_, ⟨_, _, rfl, rfl, rfl⟩, rfl, hS.drop.drop⟩
          · replace hFL8 := it_f hc31 hFL8
            replace hFL8 := ar_s hFL8; obtain ⟨x32, hx32, hFL8⟩ := hFL8
            refine x_skip <| x_blk <| x_region <| p (yadd eL8h_25 rfl hx32) <|
              p (yl_move rfl) <| x_done <|
              ?_
            have e_ := Option.some.inj (show some _ = some _ from hFL8); subst e_
            exact x_inv ⟨kL8, Nat.lt_succ_self _, x32, hLL8, eL8h_2, eL8h_23, eL8h_24, rfl, ((hS.drop.pull 1).pull 1)⟩
        · replace hFL8 := it_f hc26 hFL8
          refine x_exitTo _ rfl <|
            ?_
          have e_ := Option.some.inj (show some _ = some _ from hFL8); subst e_
          exact x_inv ⟨hLL8, eL8h_2, ((hS.pull 1).pull 1)⟩
      rintro E w ⟨rfl, eL8_2, hS⟩
      refine x_seq <| x_seq <| x_region <| p (yl_field0 fld_30_2 eL8_2) <|
        pa (at_load one_27 rfl (hS.cell rfl)) <| p (yl_len_slice usl_27 rfl) <| p (yl_move rfl) <| x_done <|
        ?_
      replace hF := bs_s hF; obtain ⟨oL14, hLL14, hF⟩ := hF
      refine x_join (fun E w => (Sum.inl (())) = oL14 ∧ E 2 = .pointer (some ⟨b2, 0, none⟩) ∧ St w0 w (cells b2 30 [.slice A_n0_0 n0.In.length c_n0_0, .slice A_n0_1 n0.Out.length c_n0_1, .slice A_n0_2 n0.Flops.length c_n0_2, .slice A_n0_3 n0.Gates.length c_n0_3, .slice A_n0_4 n0.Outs.length c_n0_4] :: ro ρ :: l)) ?_ ?_
      · skip -- L14
        refine x_block ?_
        refine x_loop (fun k_ E w => ∃ (y36_L14h : Int), lp (P_floor_CheckChip_L14 n0) k_ y36_L14h = some oL14 ∧ E 2 = .pointer (some ⟨b2, 0, none⟩) ∧ E 34 = .slice A_n0_2 n0.Flops.length c_n0_2 ∧ E 35 = .int .i64 (n0.Flops.length : Int) ∧ E 36 = .int .i64 y36_L14h ∧ St w0 w (cells b2 30 [.slice A_n0_0 n0.In.length c_n0_0, .slice A_n0_1 n0.Out.length c_n0_1, .slice A_n0_2 n0.Flops.length c_n0_2, .slice A_n0_3 n0.Gates.length c_n0_3, .slice A_n0_4 n0.Outs.length c_n0_4] :: ro ρ :: l)) fuel ⟨0, hLL14, eL8_2, rfl, rfl, rfl, ((hS.pull 1).pull 1)⟩ ?_
        rintro kL14 E w ⟨y36_L14h, hLL14, eL14h_2, eL14h_34, eL14h_35, eL14h_36, hS⟩
        replace hLL14 := lp_s hLL14; obtain ⟨kL14, obL14, rfl, hFL14, hLL14⟩ := hLL14
        refine x_seq <| x_region <| p (yl_lss eL14h_36 eL14h_35) <| x_done <|
          x_seq <|
          x_cond_p (y36_L14h < (n0.Flops.length : Int)) rfl (fun hc37 => ?_) (fun hc37 => ?_)
        · replace hFL14 := it_t hc37 hFL14
          replace hFL14 := ck_s hFL14; obtain ⟨hk15_0, hFL14⟩ := hFL14
          replace hFL14 := lv_s hFL14; obtain ⟨y15_1, hy15_1, hFL14⟩ := hFL14
          have q_ := h_n0_2.get hk15_0; obtain ⟨el15_1, ek15_1, ee15_1⟩ := q_
          rw [← hy15_1] at ek15_1
          have e_ := ek15_1; subst e_
          refine x_skip <| x_seq <| x_block <| x_seq <|
            x_region <| p (yix_f sl_27 eL14h_34 eL14h_36 h_n0_2 hk15_0) <| pa (v := .agg #[.string y15_1.Name, .int .i64 y15_1.Cell, .int .i64 y15_1.D, .int .i64 y15_1.En, .bool y15_1.Init]) (at_loadAgg agg_149 rfl rfl (Elt.every ee15_1 (hS.pull 1))) <|
            ?_
          refine o_alloc zero_149 hS (fun b10 w' hS => ?_)
          refine o_storeAgg (news := [.string y15_1.Name, .int .i64 y15_1.Cell, .int .i64 y15_1.D, .int .i64 y15_1.En, .bool y15_1.Init]) agg_149 rfl rfl rfl (by simp [over_length]) hS (fun w' hS => ?_)
          refine x_done <| x_seq <| x_region <| p (yl_field0 fld_149_1 rfl) <|
            pa (at_load one_3 rfl (hS.cell rfl)) <| p (yl_lss rfl rfl) <| x_done <|
            x_cond_p (y15_1.Cell < 0) rfl (fun hc42 => ?_) (fun hc42 => ?_)
          · replace hFL14 := it_t hc42 hFL14
            refine x_seq <| x_region <| p (yl_assign rfl) <| x_done <|
              ?_
            have e_ := Option.some.inj (show some _ = some _ from hFL14); subst e_
            have e_ := (show _ = oL14 from hLL14); subst e_
            have e_ := Option.some.inj (show some _ = some _ from hF); subst e_
            exact x_return ⟨_, ⟨_, _, rfl, rfl, rfl⟩, rfl, hS.drop.drop⟩
          · replace hFL14 := it_f hc42 hFL14
            replace hFL14 := ar_s hFL14; obtain ⟨x43, hx43, hFL14⟩ := hFL14
            refine x_skip <| x_blk <| x_region <| p (yadd eL14h_36 rfl hx43) <|
              p (yl_move rfl) <| x_done <|
              ?_
            have e_ := Option.some.inj (show some _ = some _ from hFL14); subst e_
            exact x_inv ⟨kL14, Nat.lt_succ_self _, x43, hLL14, eL14h_2, eL14h_34, eL14h_35, rfl, ((hS.drop.pull 1).pull 1)⟩
        · replace hFL14 := it_f hc37 hFL14
          refine x_exitTo _ rfl <|
            ?_
          have e_ := Option.some.inj (show some _ = some _ from hFL14); subst e_
          exact x_inv ⟨hLL14, eL14h_2, ((hS.pull 1).pull 1)⟩
      rintro E w ⟨rfl, eL14_2, hS⟩
      replace hF := ar_s hF; obtain ⟨x50, hx50, hF⟩ := hF
      refine x_seq <| x_seq <| x_region <| p (yl_field0 fld_30_3 eL14_2) <|
        pa (at_load one_28 rfl (hS.cell rfl)) <| p (yl_len_slice usl_28 rfl) <| p (yl_field0 fld_30_2 eL14_2) <| pa (at_load one_27 rfl (hS.cell rfl)) <|
        p (yl_len_slice usl_27 rfl) <| p (yadd rfl rfl hx50) <| p (yl_gtr rfl rfl) <| x_done <|
        x_cond_p (300 < x50) rfl (fun hc51 => ?_) (fun hc51 => ?_)
      · replace hF := it_t hc51 hF
        refine x_seq <| x_region <| p (yl_assign rfl) <| x_done <|
          ?_
        have e_ := Option.some.inj (show some _ = some _ from hF); subst e_
        exact x_return ⟨_, ⟨_, _, rfl, rfl, rfl⟩, rfl, hS.drop⟩
      · replace hF := it_f hc51 hF
        refine x_skip <| x_seq <| x_region <| p (yl_assign rfl) <|
          x_done <|
          ?_
        have e_ := Option.some.inj (show some _ = some _ from hF); subst e_
        exact x_return ⟨_, ⟨_, _, rfl, rfl, rfl⟩, rfl, hS.drop⟩
attribute [irreducible] P_floor_CheckChip

def P_floor_within (n0 : Int) (low1 : Int) (high2 : Int) : Option Bool :=
  lv ((decide (low1 ≤ n0)) && (decide (n0 ≤ high2))) fun x14 =>
  some x14
set_option maxHeartbeats 4000000 in
set_option maxRecDepth 100000 in
theorem c_floor_within {w0 w : World} {l : List Assn} {ρ : Heap} {n0 : Int} {low1 : Int} {high2 : Int} {r : Bool} (hF : P_floor_within n0 low1 high2 = some r) (hS : St w0 w (ro ρ :: l)) :
    Calls Tryd.prog 69 #[.int .i64 n0, .int .i64 low1, .int .i64 high2] w fun e w' => e = .returned (.bool r) ∧ St w0 w' (ro ρ :: l) := by
  refine enterC Tryd.func69 rfl 15 rfl (by simp) ?_
  replace hF := lv_s hF; obtain ⟨x14, hx14, hF⟩ := hF
  refine x_seq <| x_region <| p (yl_assign rfl) <| x_done <|
    x_seq <| x_region <| p (yl_move rfl) <| p (yl_move rfl) <|
    p (yl_leq rfl rfl) <| p (yl_move rfl) <| pg (v := .int .i64 n0) 10 (c := decide (low1 ≤ n0)) (says_t _) (fun hq => Yl.at (yl_move rfl)) <| pg (v := .int .i64 high2) 10 (c := decide (low1 ≤ n0)) (says_t _) (fun hq => Yl.at (yl_move rfl)) <|
    pg (v := .bool (decide (n0 ≤ high2))) 10 (c := decide (low1 ≤ n0)) (says_t _) (fun hq => Yl.at (yl_leq (cv hq) (cv hq))) <| p (yand' rfl (fun hc => (cv hc)) rfl hx14) <| p (yl_assign rfl) <| x_done <|
    ?_
  have e_ := Option.some.inj (show some _ = some _ from hF); subst e_
  exact x_return ⟨_, ⟨_, _, rfl, rfl, rfl⟩, rfl, hS⟩
attribute [irreducible] P_floor_within

def P_floor_area (l_0 : List T_api_Cell) (i1 : Int) : Option Int :=
  lv ((decide (i1 < 0)) || (decide ((l_0.length : Int) ≤ i1))) fun x12 =>
  if x12 = true then
    some (0 : Int)
  else
    ck (inb i1 l_0.length) <|
    lv (gt l_0 i1) fun y3_4 =>
    some y3_4.Area
set_option maxHeartbeats 4000000 in
set_option maxRecDepth 100000 in
theorem c_floor_area {w0 w : World} {l : List Assn} {ρ : Heap} {A_l_0 : Option Addr} {n_l_0 : Nat} {c_l_0 : Nat} {l_0 : List T_api_Cell} {i1 : Int} {r : Int} (hF : P_floor_area l_0 i1 = some r) (h_l_0 : RdS R_api_Cell ρ A_l_0 n_l_0 c_l_0 l_0) (hS : St w0 w (ro ρ :: l)) :
    Calls Tryd.prog 72 #[.slice A_l_0 n_l_0 c_l_0, .int .i64 i1] w fun e w' => e = .returned (.int .i64 r) ∧ St w0 w' (ro ρ :: l) := by
  have e_ := h_l_0.n; subst e_
  refine enterC Tryd.func72 rfl 18 rfl (by simp) ?_
  replace hF := lv_s hF; obtain ⟨x12, hx12, hF⟩ := hF
  refine x_seq <| x_region <| p (yl_assign rfl) <| x_done <|
    x_seq <| x_seq <| x_region <| p (yl_move rfl) <|
    p (yl_lss rfl rfl) <| p (yl_move rfl) <| pg (v := .int .i64 i1) 7 (c := !(decide (i1 < 0))) (says_f _) (fun hq => Yl.at (yl_move rfl)) <| pg (v := .slice A_l_0 l_0.length c_l_0) 7 (c := !(decide (i1 < 0))) (says_f _) (fun hq => Yl.at (yl_move rfl)) <|
    pg (v := .int .i64 (l_0.length : Int)) 7 (c := !(decide (i1 < 0))) (says_f _) (fun hq => Yl.at (yl_len_slice usl_31 (cv hq))) <| pg (v := .bool (decide ((l_0.length : Int) ≤ i1))) 7 (c := !(decide (i1 < 0))) (says_f _) (fun hq => Yl.at (yl_geq (cv hq) (cv hq))) <| p (yor' rfl rfl (fun hc => (cv (t_not hc))) hx12) <| x_done <|
    x_cond (t := x12) rfl (fun hc12 => ?_) (fun hc12 => ?_)
  · replace hF := it_t hc12 hF
    refine x_seq <| x_region <| p (yl_assign rfl) <| x_done <|
      ?_
    have e_ := Option.some.inj (show some _ = some _ from hF); subst e_
    exact x_return ⟨_, ⟨_, _, rfl, rfl, rfl⟩, rfl, hS⟩
  · replace hF := it_bf hc12 hF
    replace hF := ck_s hF; obtain ⟨hk3_2, hF⟩ := hF
    replace hF := lv_s hF; obtain ⟨y3_4, hy3_4, hF⟩ := hF
    have q_ := h_l_0.get hk3_2; obtain ⟨el3_4, ek3_4, ee3_4⟩ := q_
    rw [← hy3_4] at ek3_4
    obtain ⟨A3_4_5, n3_4_5, c3_4_5, A3_4_6, n3_4_6, c3_4_6, A3_4_7, n3_4_7, c3_4_7, rfl, f3_4_5, f3_4_6, f3_4_7⟩ := ek3_4
    have e_ := f3_4_5.n; subst e_
    have e_ := f3_4_6.n; subst e_
    have e_ := f3_4_7.n; subst e_
    refine x_skip <| x_seq <| x_region <| p (yl_move rfl) <|
      p (yl_move rfl) <| p (yix_f sl_31 rfl rfl h_l_0 hk3_2) <| p (yl_fieldAddr fld_61_4 rfl) <| pa (at_load one_3 rfl (Elt.ld (j := 4) ee3_4 hS rfl)) <|
      p (yl_assign rfl) <| x_done <|
      ?_
    have e_ := Option.some.inj (show some _ = some _ from hF); subst e_
    exact x_return ⟨_, ⟨_, _, rfl, rfl, rfl⟩, rfl, hS⟩
attribute [irreducible] P_floor_area

def P_floor_Areas_L3 (n0 : T_api_Netlist) (l_1 : List T_api_Cell) : (List Int × Int) → Option ((List Int × Int) ⊕ List Int) := fun (out5_L3h, y13_L3h) =>
  if y13_L3h < (n0.Gates.length : Int) then
    ck (inb y13_L3h n0.Gates.length) <|
    lv (gt n0.Gates y13_L3h) fun y4_1 =>
    bd (P_floor_area l_1 y4_1.Cell) fun r5_4 =>
    lv (out5_L3h ++ [r5_4]) fun z5_6 =>
    ck (apOk 8 z5_6.length) <|
    ar (y13_L3h + 1) fun x24 =>
    some (Sum.inl (z5_6, x24))
  else
    some (Sum.inr out5_L3h)
def P_floor_Areas_L8 (n0 : T_api_Netlist) (l_1 : List T_api_Cell) : (List Int × Int) → Option ((List Int × Int) ⊕ List Int) := fun (out5_L8h, y28_L8h) =>
  if y28_L8h < (n0.Flops.length : Int) then
    ck (inb y28_L8h n0.Flops.length) <|
    lv (gt n0.Flops y28_L8h) fun y9_1 =>
    bd (P_floor_area l_1 y9_1.Cell) fun r10_4 =>
    lv (out5_L8h ++ [r10_4]) fun z10_6 =>
    ck (apOk 8 z10_6.length) <|
    ar (y28_L8h + 1) fun x39 =>
    some (Sum.inl (z10_6, x39))
  else
    some (Sum.inr out5_L8h)
def P_floor_Areas (n0 : T_api_Netlist) (l_1 : List T_api_Cell) : Option (List Int) :=
  bd (
    lp (P_floor_Areas_L3 n0 l_1) fuel ([], 0)) fun out5_L3 =>
  bd (
    lp (P_floor_Areas_L8 n0 l_1) fuel (out5_L3, 0)) fun out5_L8 =>
  some out5_L8
set_option maxHeartbeats 4000000 in
set_option maxRecDepth 100000 in
theorem c_floor_Areas {w0 w : World} {l : List Assn} {ρ : Heap} {A_n0_0 : Option Addr} {n_n0_0 : Nat} {c_n0_0 : Nat} {A_n0_1 : Option Addr} {n_n0_1 : Nat} {c_n0_1 : Nat} {A_n0_2 : Option Addr} {n_n0_2 : Nat} {c_n0_2 : Nat} {A_n0_3 : Option Addr} {n_n0_3 : Nat} {c_n0_3 : Nat} {A_n0_4 : Option Addr} {n_n0_4 : Nat} {c_n0_4 : Nat} {A_l_1 : Option Addr} {n_l_1 : Nat} {c_l_1 : Nat} {n0 : T_api_Netlist} {l_1 : List T_api_Cell} {r : List Int} (hF : P_floor_Areas n0 l_1 = some r) (h_n0_0 : RdS RpS ρ A_n0_0 n_n0_0 c_n0_0 n0.In) (h_n0_1 : RdS RpS ρ A_n0_1 n_n0_1 c_n0_1 n0.Out) (h_n0_2 : RdS R_api_Flop ρ A_n0_2 n_n0_2 c_n0_2 n0.Flops) (h_n0_3 : RdS R_api_Gate ρ A_n0_3 n_n0_3 c_n0_3 n0.Gates) (h_n0_4 : RdS (RpI .i64) ρ A_n0_4 n_n0_4 c_n0_4 n0.Outs) (h_l_1 : RdS R_api_Cell ρ A_l_1 n_l_1 c_l_1 l_1) (hS : St w0 w (ro ρ :: l)) :
    Calls Tryd.prog 25 #[.agg #[.slice A_n0_0 n_n0_0 c_n0_0, .slice A_n0_1 n_n0_1 c_n0_1, .slice A_n0_2 n_n0_2 c_n0_2, .slice A_n0_3 n_n0_3 c_n0_3, .slice A_n0_4 n_n0_4 c_n0_4], .slice A_l_1 n_l_1 c_l_1] w fun e w' => ∃ (A_y0_ret : Option Addr) (n_y0_ret : Nat) (c_y0_ret : Nat) (cs_y0_ret : List Value), e = .returned (.slice A_y0_ret n_y0_ret c_y0_ret) ∧ RepL (RpI .i64) ρ r cs_y0_ret ∧ St w0 w' (vec 3 (RpI .i64).sz (.slice A_y0_ret n_y0_ret c_y0_ret) n_y0_ret cs_y0_ret :: ro ρ :: l) := by
  have e_ := h_n0_0.n; subst e_
  have e_ := h_n0_1.n; subst e_
  have e_ := h_n0_2.n; subst e_
  have e_ := h_n0_3.n; subst e_
  have e_ := h_n0_4.n; subst e_
  have e_ := h_l_1.n; subst e_
  refine enterC Tryd.func25 rfl 41 rfl (by simp) ?_
  refine x_seq <| x_region <|
    ?_
  refine o_box (cs := [.slice A_n0_0 n0.In.length c_n0_0, .slice A_n0_1 n0.Out.length c_n0_1, .slice A_n0_2 n0.Flops.length c_n0_2, .slice A_n0_3 n0.Gates.length c_n0_3, .slice A_n0_4 n0.Outs.length c_n0_4]) rfl rfl hS (fun b2 w' hS => ?_)
  refine p (yl_assign rfl) <| x_done <| x_seq <| x_region <|
    p (yl_assign rfl) <| x_done <| x_seq <| x_seq <|
    x_region <| p (yl_field0 fld_30_3 rfl) <| pa (at_load one_28 rfl (hS.cell rfl)) <| p (yl_len_slice usl_28 rfl) <|
    p (yl_move rfl) <| x_done <|
    ?_
  replace hF := bd_s hF; obtain ⟨oL3, hLL3, hF⟩ := hF
  refine x_join (fun E w => ∃ (A_out5_L3 : Option Addr) (n_out5_L3 : Nat) (c_out5_L3 : Nat) (cs_out5_L3 : List Value) (out5_L3 : List Int), out5_L3 = oL3 ∧ E 1 = .slice A_l_1 l_1.length c_l_1 ∧ E 2 = .pointer (some ⟨b2, 0, none⟩) ∧ E 5 = .slice A_out5_L3 n_out5_L3 c_out5_L3 ∧ RepL (RpI .i64) ρ out5_L3 cs_out5_L3 ∧ St w0 w (cells b2 30 [.slice A_n0_0 n0.In.length c_n0_0, .slice A_n0_1 n0.Out.length c_n0_1, .slice A_n0_2 n0.Flops.length c_n0_2, .slice A_n0_3 n0.Gates.length c_n0_3, .slice A_n0_4 n0.Outs.length c_n0_4] :: vec 3 (RpI .i64).sz (.slice A_out5_L3 n_out5_L3 c_out5_L3) n_out5_L3 cs_out5_L3 :: ro ρ :: l)) ?_ ?_
  · skip -- L3
    refine x_block ?_
    replace hS := St.vec_nil hS 3 (RpI .i64).sz
    have hnil_A_out5_L3h : RepL (RpI .i64) ρ [] [] := rfl
    refine x_loop (fun k_ E w => ∃ (A_out5_L3h : Option Addr) (n_out5_L3h : Nat) (c_out5_L3h : Nat) (cs_out5_L3h : List Value) (out5_L3h : List Int) (y13_L3h : Int), lp (P_floor_Areas_L3 n0 l_1) k_ (out5_L3h, y13_L3h) = some oL3 ∧ E 1 = .slice A_l_1 l_1.length c_l_1 ∧ E 2 = .pointer (some ⟨b2, 0, none⟩) ∧ E 5 = .slice A_out5_L3h n_out5_L3h c_out5_L3h ∧ E 11 = .slice A_n0_3 n0.Gates.length c_n0_3 ∧ E 12 = .int .i64 (n0.Gates.length : Int) ∧ E 13 = .int .i64 y13_L3h ∧ RepL (RpI .i64) ρ out5_L3h cs_out5_L3h ∧ St w0 w (cells b2 30 [.slice A_n0_0 n0.In.length c_n0_0, .slice A_n0_1 n0.Out.length c_n0_1, .slice A_n0_2 n0.Flops.length c_n0_2, .slice A_n0_3 n0.Gates.length c_n0_3, .slice A_n0_4 n0.Outs.length c_n0_4] :: vec 3 (RpI .i64).sz (.slice A_out5_L3h n_out5_L3h c_out5_L3h) n_out5_L3h cs_out5_L3h :: ro ρ :: l)) fuel ⟨none, 0, 0, [], [], 0, hLL3, rfl, rfl, rfl, rfl, rfl, rfl, hnil_A_out5_L3h, (((hS.pull 2).pull 1).pull 2)⟩ ?_
    rintro kL3 E w ⟨A_out5_L3h, n_out5_L3h, c_out5_L3h, cs_out5_L3h, out5_L3h, y13_L3h, hLL3, eL3h_1, eL3h_2, eL3h_5, eL3h_11, eL3h_12, eL3h_13, h_out5_L3h, hS⟩
    have e_ := St.vec_n (hS.pull 1) h_out5_L3h; subst e_
    replace hLL3 := lp_s hLL3; obtain ⟨kL3, obL3, rfl, hFL3, hLL3⟩ := hLL3
    refine x_seq <| x_region <| p (yl_lss eL3h_13 eL3h_12) <| x_done <|
      x_seq <|
      x_cond_p (y13_L3h < (n0.Gates.length : Int)) rfl (fun hc14 => ?_) (fun hc14 => ?_)
    · replace hFL3 := it_t hc14 hFL3
      replace hFL3 := ck_s hFL3; obtain ⟨hk4_0, hFL3⟩ := hFL3
      replace hFL3 := lv_s hFL3; obtain ⟨y4_1, hy4_1, hFL3⟩ := hFL3
      have q_ := h_n0_3.get hk4_0; obtain ⟨el4_1, ek4_1, ee4_1⟩ := q_
      rw [← hy4_1] at ek4_1
      obtain ⟨A4_1_2, n4_1_2, c4_1_2, rfl, f4_1_2⟩ := ek4_1
      have e_ := f4_1_2.n; subst e_
      refine x_skip <| x_seq <| x_block <| x_seq <|
        x_region <| p (yix_f sl_28 eL3h_11 eL3h_13 h_n0_3 hk4_0) <| pa (v := .agg #[.int .i64 y4_1.Cell, .int .u64 y4_1.Table, .slice A4_1_2 y4_1.Ins.length c4_1_2]) (at_loadAgg agg_38 rfl rfl (Elt.every ee4_1 (hS.pull 2))) <|
        ?_
      refine o_alloc zero_38 hS (fun b7 w' hS => ?_)
      refine o_storeAgg (news := [.int .i64 y4_1.Cell, .int .u64 y4_1.Table, .slice A4_1_2 y4_1.Ins.length c4_1_2]) agg_38 rfl rfl rfl (by simp [over_length]) hS (fun w' hS => ?_)
      replace hFL3 := bd_s hFL3; obtain ⟨r5_4, hc5_4, hFL3⟩ := hFL3
      refine x_done <| x_region <| p (yl_move eL3h_5) <| p (yl_move eL3h_1) <|
        p (yl_field0 fld_38_0 rfl) <| pa (at_load one_3 rfl (hS.cell rfl)) <|
        ?_
      have hcall := c_floor_area hc5_4 h_l_1 (hS.pull 3)
      refine o_cc call_72 (args2 rfl rfl) ((Calls.mono hcall (fun e w'' h => And.intro h.1 (((h.2.pull 3).pull 3).pull 3)))) ?_
      rintro e w' ⟨rfl, hS⟩
      refine ⟨_, rfl, ?_⟩
      refine o_buildSlice (vs := [.int .i64 r5_4]) (cs := [.int .i64 r5_4]) sl_22 zero_3 (parts_eq (pt (va := .int .i64 r5_4) rfl pt0)) rfl (by intro v hv; simp only [List.mem_cons, List.not_mem_nil, or_false] at hv; first | (subst hv; rfl) | (rcases hv with rfl <;> rfl)) (by decide) rfl hS (fun b22 w' hS => ?_)
      replace hFL3 := lv_s hFL3; obtain ⟨z5_6, hz5_6, hFL3⟩ := hFL3
      replace hFL3 := ck_s hFL3; obtain ⟨hk5_6, hFL3⟩ := hFL3
      refine o_ap sl_22 zero_3 rfl (by decide) rfl rfl (hS.pull 3) h_out5_L3h (src_blk usl_22 hS rfl rfl) (RepL.cons (R := (RpI .i64)) (ρ := ρ) (x := r5_4) (cs := [.int .i64 r5_4]) rfl RepL.nil) hz5_6 hk5_6 (fun A23 c23 cs23 w' hr23 hS => ?_)
      replace hFL3 := ar_s hFL3; obtain ⟨x24, hx24, hFL3⟩ := hFL3
      refine p (yl_assign rfl) <| x_done <| x_blk <| x_region <|
        p (yadd eL3h_13 rfl hx24) <| p (yl_move rfl) <| x_done <|
        ?_
      have e_ := Option.some.inj (show some _ = some _ from hFL3); subst e_
      exact x_inv ⟨kL3, Nat.lt_succ_self _, A23, z5_6.length, c23, cs23, z5_6, x24, hLL3, eL3h_1, eL3h_2, rfl, eL3h_11, eL3h_12, rfl, hr23, (((((hS.pull 1).drop.pull 1).drop.pull 2).pull 1).pull 2)⟩
    · replace hFL3 := it_f hc14 hFL3
      refine x_exitTo _ rfl <|
        ?_
      have e_ := Option.some.inj (show some _ = some _ from hFL3); subst e_
      exact x_inv ⟨A_out5_L3h, out5_L3h.length, c_out5_L3h, cs_out5_L3h, out5_L3h, hLL3, eL3h_1, eL3h_2, eL3h_5, h_out5_L3h, (((hS.pull 2).pull 2).pull 2)⟩
  rintro E w ⟨A_out5_L3, n_out5_L3, c_out5_L3, cs_out5_L3, out5_L3, rfl, eL3_1, eL3_2, eL3_5, h_out5_L3, hS⟩
  have e_ := St.vec_n (hS.pull 1) h_out5_L3; subst e_
  refine x_seq <| x_seq <| x_region <| p (yl_field0 fld_30_2 eL3_2) <|
    pa (at_load one_27 rfl (hS.cell rfl)) <| p (yl_len_slice usl_27 rfl) <| p (yl_move rfl) <| x_done <|
    ?_
  replace hF := bd_s hF; obtain ⟨oL8, hLL8, hF⟩ := hF
  refine x_join (fun E w => ∃ (A_out5_L8 : Option Addr) (n_out5_L8 : Nat) (c_out5_L8 : Nat) (cs_out5_L8 : List Value) (out5_L8 : List Int), out5_L8 = oL8 ∧ E 5 = .slice A_out5_L8 n_out5_L8 c_out5_L8 ∧ RepL (RpI .i64) ρ out5_L8 cs_out5_L8 ∧ St w0 w (vec 3 (RpI .i64).sz (.slice A_out5_L8 n_out5_L8 c_out5_L8) n_out5_L8 cs_out5_L8 :: ro ρ :: l)) ?_ ?_
  · skip -- L8
    refine x_block ?_
    refine x_loop (fun k_ E w => ∃ (A_out5_L8h : Option Addr) (n_out5_L8h : Nat) (c_out5_L8h : Nat) (cs_out5_L8h : List Value) (out5_L8h : List Int) (y28_L8h : Int), lp (P_floor_Areas_L8 n0 l_1) k_ (out5_L8h, y28_L8h) = some oL8 ∧ E 1 = .slice A_l_1 l_1.length c_l_1 ∧ E 5 = .slice A_out5_L8h n_out5_L8h c_out5_L8h ∧ E 26 = .slice A_n0_2 n0.Flops.length c_n0_2 ∧ E 27 = .int .i64 (n0.Flops.length : Int) ∧ E 28 = .int .i64 y28_L8h ∧ RepL (RpI .i64) ρ out5_L8h cs_out5_L8h ∧ St w0 w (vec 3 (RpI .i64).sz (.slice A_out5_L8h n_out5_L8h c_out5_L8h) n_out5_L8h cs_out5_L8h :: ro ρ :: l)) fuel ⟨A_out5_L3, out5_L3.length, c_out5_L3, cs_out5_L3, out5_L3, 0, hLL8, eL3_1, eL3_5, rfl, rfl, rfl, h_out5_L3, ((hS.drop.pull 1).pull 1)⟩ ?_
    rintro kL8 E w ⟨A_out5_L8h, n_out5_L8h, c_out5_L8h, cs_out5_L8h, out5_L8h, y28_L8h, hLL8, eL8h_1, eL8h_5, eL8h_26, eL8h_27, eL8h_28, h_out5_L8h, hS⟩
    have e_ := St.vec_n hS h_out5_L8h; subst e_
    replace hLL8 := lp_s hLL8; obtain ⟨kL8, obL8, rfl, hFL8, hLL8⟩ := hLL8
    refine x_seq <| x_region <| p (yl_lss eL8h_28 eL8h_27) <| x_done <|
      x_seq <|
      x_cond_p (y28_L8h < (n0.Flops.length : Int)) rfl (fun hc29 => ?_) (fun hc29 => ?_)
    · replace hFL8 := it_t hc29 hFL8
      replace hFL8 := ck_s hFL8; obtain ⟨hk9_0, hFL8⟩ := hFL8
      replace hFL8 := lv_s hFL8; obtain ⟨y9_1, hy9_1, hFL8⟩ := hFL8
      have q_ := h_n0_2.get hk9_0; obtain ⟨el9_1, ek9_1, ee9_1⟩ := q_
      rw [← hy9_1] at ek9_1
      have e_ := ek9_1; subst e_
      refine x_skip <| x_seq <| x_block <| x_seq <|
        x_region <| p (yix_f sl_27 eL8h_26 eL8h_28 h_n0_2 hk9_0) <| pa (v := .agg #[.string y9_1.Name, .int .i64 y9_1.Cell, .int .i64 y9_1.D, .int .i64 y9_1.En, .bool y9_1.Init]) (at_loadAgg agg_149 rfl rfl (Elt.every ee9_1 (hS.pull 1))) <|
        ?_
      refine o_alloc zero_149 hS (fun b9 w' hS => ?_)
      refine o_storeAgg (news := [.string y9_1.Name, .int .i64 y9_1.Cell, .int .i64 y9_1.D, .int .i64 y9_1.En, .bool y9_1.Init]) agg_149 rfl rfl rfl (by simp [over_length]) hS (fun w' hS => ?_)
      replace hFL8 := bd_s hFL8; obtain ⟨r10_4, hc10_4, hFL8⟩ := hFL8
      refine x_done <| x_region <| p (yl_move eL8h_5) <| p (yl_move eL8h_1) <|
        p (yl_field0 fld_149_1 rfl) <| pa (at_load one_3 rfl (hS.cell rfl)) <|
        ?_
      have hcall := c_floor_area hc10_4 h_l_1 (hS.pull 2)
      refine o_cc call_72 (args2 rfl rfl) ((Calls.mono hcall (fun e w'' h => And.intro h.1 ((h.2.pull 2).pull 2)))) ?_
      rintro e w' ⟨rfl, hS⟩
      refine ⟨_, rfl, ?_⟩
      refine o_buildSlice (vs := [.int .i64 r10_4]) (cs := [.int .i64 r10_4]) sl_22 zero_3 (parts_eq (pt (va := .int .i64 r10_4) rfl pt0)) rfl (by intro v hv; simp only [List.mem_cons, List.not_mem_nil, or_false] at hv; first | (subst hv; rfl) | (rcases hv with rfl <;> rfl)) (by decide) rfl hS (fun b37 w' hS => ?_)
      replace hFL8 := lv_s hFL8; obtain ⟨z10_6, hz10_6, hFL8⟩ := hFL8
      replace hFL8 := ck_s hFL8; obtain ⟨hk10_6, hFL8⟩ := hFL8
      refine o_ap sl_22 zero_3 rfl (by decide) rfl rfl (hS.pull 2) h_out5_L8h (src_blk usl_22 hS rfl rfl) (RepL.cons (R := (RpI .i64)) (ρ := ρ) (x := r10_4) (cs := [.int .i64 r10_4]) rfl RepL.nil) hz10_6 hk10_6 (fun A38 c38 cs38 w' hr38 hS => ?_)
      replace hFL8 := ar_s hFL8; obtain ⟨x39, hx39, hFL8⟩ := hFL8
      refine p (yl_assign rfl) <| x_done <| x_blk <| x_region <|
        p (yadd eL8h_28 rfl hx39) <| p (yl_move rfl) <| x_done <|
        ?_
      have e_ := Option.some.inj (show some _ = some _ from hFL8); subst e_
      exact x_inv ⟨kL8, Nat.lt_succ_self _, A38, z10_6.length, c38, cs38, z10_6, x39, hLL8, eL8h_1, rfl, eL8h_26, eL8h_27, rfl, hr38, ((((hS.pull 1).drop.pull 1).drop.pull 1).pull 1)⟩
    · replace hFL8 := it_f hc29 hFL8
      refine x_exitTo _ rfl <|
        ?_
      have e_ := Option.some.inj (show some _ = some _ from hFL8); subst e_
      exact x_inv ⟨A_out5_L8h, out5_L8h.length, c_out5_L8h, cs_out5_L8h, out5_L8h, hLL8, eL8h_5, h_out5_L8h, ((hS.pull 1).pull 1)⟩
  rintro E w ⟨A_out5_L8, n_out5_L8, c_out5_L8, cs_out5_L8, out5_L8, rfl, eL8_5, h_out5_L8, hS⟩
  have e_ := St.vec_n hS h_out5_L8; subst e_
  refine x_seq <| x_region <| p (yl_move eL8_5) <| p (yl_assign rfl) <|
    x_done <|
    ?_
  have e_ := Option.some.inj (show some _ = some _ from hF); subst e_
  exact x_return ⟨_, ⟨_, _, rfl, rfl, rfl⟩, A_out5_L8, out5_L8.length, c_out5_L8, cs_out5_L8, rfl, h_out5_L8, ((hS.pull 1).pull 1)⟩
attribute [irreducible] P_floor_Areas

def P_floor_Names_L3 (n0 : T_api_Netlist) : (List T_floor_Port × Int) → Option ((List T_floor_Port × Int) ⊕ List T_floor_Port) := fun (out3_L3h, y11_L3h) =>
  if y11_L3h < (n0.In.length : Int) then
    ck (inb y11_L3h n0.In.length) <|
    lv (gt n0.In y11_L3h) fun x14 =>
    lv (out3_L3h ++ [(T_floor_Port.mk x14 false 0 0)]) fun z5_4 =>
    ck (apOk 40 z5_4.length) <|
    ar (y11_L3h + 1) fun x20 =>
    some (Sum.inl (z5_4, x20))
  else
    some (Sum.inr out3_L3h)
def P_floor_Names_L8 (n0 : T_api_Netlist) : (List T_floor_Port × Int) → Option ((List T_floor_Port × Int) ⊕ List T_floor_Port) := fun (out3_L8h, y24_L8h) =>
  if y24_L8h < (n0.Out.length : Int) then
    ck (inb y24_L8h n0.Out.length) <|
    lv (gt n0.Out y24_L8h) fun x27 =>
    lv (out3_L8h ++ [(T_floor_Port.mk x27 true 0 0)]) fun z10_4 =>
    ck (apOk 40 z10_4.length) <|
    ar (y24_L8h + 1) fun x33 =>
    some (Sum.inl (z10_4, x33))
  else
    some (Sum.inr out3_L8h)
def P_floor_Names (n0 : T_api_Netlist) : Option (List T_floor_Port) :=
  bd (
    lp (P_floor_Names_L3 n0) fuel ([], 0)) fun out3_L3 =>
  bd (
    lp (P_floor_Names_L8 n0) fuel (out3_L3, 0)) fun out3_L8 =>
  bd (
    if 0 < (n0.Flops.length : Int) then
      lv (out3_L8 ++ [(T_floor_Port.mk (⟨#[]⟩ : ByteArray) false 0 0)]) fun z13_3 =>
      ck (apOk 40 z13_3.length) <|
      some z13_3
    else
      some out3_L8) fun out3_c37 =>
  some out3_c37
set_option maxHeartbeats 4000000 in
set_option maxRecDepth 100000 in
theorem c_floor_Names {w0 w : World} {l : List Assn} {ρ : Heap} {A_n0_0 : Option Addr} {n_n0_0 : Nat} {c_n0_0 : Nat} {A_n0_1 : Option Addr} {n_n0_1 : Nat} {c_n0_1 : Nat} {A_n0_2 : Option Addr} {n_n0_2 : Nat} {c_n0_2 : Nat} {A_n0_3 : Option Addr} {n_n0_3 : Nat} {c_n0_3 : Nat} {A_n0_4 : Option Addr} {n_n0_4 : Nat} {c_n0_4 : Nat} {n0 : T_api_Netlist} {r : List T_floor_Port} (hF : P_floor_Names n0 = some r) (h_n0_0 : RdS RpS ρ A_n0_0 n_n0_0 c_n0_0 n0.In) (h_n0_1 : RdS RpS ρ A_n0_1 n_n0_1 c_n0_1 n0.Out) (h_n0_2 : RdS R_api_Flop ρ A_n0_2 n_n0_2 c_n0_2 n0.Flops) (h_n0_3 : RdS R_api_Gate ρ A_n0_3 n_n0_3 c_n0_3 n0.Gates) (h_n0_4 : RdS (RpI .i64) ρ A_n0_4 n_n0_4 c_n0_4 n0.Outs) (hS : St w0 w (ro ρ :: l)) :
    Calls Tryd.prog 26 #[.agg #[.slice A_n0_0 n_n0_0 c_n0_0, .slice A_n0_1 n_n0_1 c_n0_1, .slice A_n0_2 n_n0_2 c_n0_2, .slice A_n0_3 n_n0_3 c_n0_3, .slice A_n0_4 n_n0_4 c_n0_4]] w fun e w' => ∃ (A_y0_ret : Option Addr) (n_y0_ret : Nat) (c_y0_ret : Nat) (cs_y0_ret : List Value), e = .returned (.slice A_y0_ret n_y0_ret c_y0_ret) ∧ RepL R_floor_Port ρ r cs_y0_ret ∧ St w0 w' (vec 64 R_floor_Port.sz (.slice A_y0_ret n_y0_ret c_y0_ret) n_y0_ret cs_y0_ret :: ro ρ :: l) := by
  have e_ := h_n0_0.n; subst e_
  have e_ := h_n0_1.n; subst e_
  have e_ := h_n0_2.n; subst e_
  have e_ := h_n0_3.n; subst e_
  have e_ := h_n0_4.n; subst e_
  refine enterC Tryd.func26 rfl 43 rfl (by simp) ?_
  refine x_seq <| x_region <|
    ?_
  refine o_box (cs := [.slice A_n0_0 n0.In.length c_n0_0, .slice A_n0_1 n0.Out.length c_n0_1, .slice A_n0_2 n0.Flops.length c_n0_2, .slice A_n0_3 n0.Gates.length c_n0_3, .slice A_n0_4 n0.Outs.length c_n0_4]) rfl rfl hS (fun b1 w' hS => ?_)
  refine p (yl_assign rfl) <| x_done <| x_seq <| x_region <|
    p (yl_assign rfl) <| x_done <| x_seq <| x_seq <|
    x_region <| p (yl_field0 fld_30_0 rfl) <| pa (at_load one_26 rfl (hS.cell rfl)) <| p (yl_len_slice usl_26 rfl) <|
    p (yl_move rfl) <| x_done <|
    ?_
  replace hF := bd_s hF; obtain ⟨oL3, hLL3, hF⟩ := hF
  refine x_join (fun E w => ∃ (A_out3_L3 : Option Addr) (n_out3_L3 : Nat) (c_out3_L3 : Nat) (cs_out3_L3 : List Value) (out3_L3 : List T_floor_Port), out3_L3 = oL3 ∧ E 1 = .pointer (some ⟨b1, 0, none⟩) ∧ E 3 = .slice A_out3_L3 n_out3_L3 c_out3_L3 ∧ RepL R_floor_Port ρ out3_L3 cs_out3_L3 ∧ St w0 w (cells b1 30 [.slice A_n0_0 n0.In.length c_n0_0, .slice A_n0_1 n0.Out.length c_n0_1, .slice A_n0_2 n0.Flops.length c_n0_2, .slice A_n0_3 n0.Gates.length c_n0_3, .slice A_n0_4 n0.Outs.length c_n0_4] :: vec 64 R_floor_Port.sz (.slice A_out3_L3 n_out3_L3 c_out3_L3) n_out3_L3 cs_out3_L3 :: ro ρ :: l)) ?_ ?_
  · skip -- L3
    refine x_block ?_
    replace hS := St.vec_nil hS 64 R_floor_Port.sz
    have hnil_A_out3_L3h : RepL R_floor_Port ρ [] [] := rfl
    refine x_loop (fun k_ E w => ∃ (A_out3_L3h : Option Addr) (n_out3_L3h : Nat) (c_out3_L3h : Nat) (cs_out3_L3h : List Value) (out3_L3h : List T_floor_Port) (y11_L3h : Int), lp (P_floor_Names_L3 n0) k_ (out3_L3h, y11_L3h) = some oL3 ∧ E 1 = .pointer (some ⟨b1, 0, none⟩) ∧ E 3 = .slice A_out3_L3h n_out3_L3h c_out3_L3h ∧ E 9 = .slice A_n0_0 n0.In.length c_n0_0 ∧ E 10 = .int .i64 (n0.In.length : Int) ∧ E 11 = .int .i64 y11_L3h ∧ RepL R_floor_Port ρ out3_L3h cs_out3_L3h ∧ St w0 w (cells b1 30 [.slice A_n0_0 n0.In.length c_n0_0, .slice A_n0_1 n0.Out.length c_n0_1, .slice A_n0_2 n0.Flops.length c_n0_2, .slice A_n0_3 n0.Gates.length c_n0_3, .slice A_n0_4 n0.Outs.length c_n0_4] :: vec 64 R_floor_Port.sz (.slice A_out3_L3h n_out3_L3h c_out3_L3h) n_out3_L3h cs_out3_L3h :: ro ρ :: l)) fuel ⟨none, 0, 0, [], [], 0, hLL3, rfl, rfl, rfl, rfl, rfl, hnil_A_out3_L3h, (((hS.pull 2).pull 1).pull 2)⟩ ?_
    rintro kL3 E w ⟨A_out3_L3h, n_out3_L3h, c_out3_L3h, cs_out3_L3h, out3_L3h, y11_L3h, hLL3, eL3h_1, eL3h_3, eL3h_9, eL3h_10, eL3h_11, h_out3_L3h, hS⟩
    have e_ := St.vec_n (hS.pull 1) h_out3_L3h; subst e_
    replace hLL3 := lp_s hLL3; obtain ⟨kL3, obL3, rfl, hFL3, hLL3⟩ := hLL3
    refine x_seq <| x_region <| p (yl_lss eL3h_11 eL3h_10) <| x_done <|
      x_seq <|
      x_cond_p (y11_L3h < (n0.In.length : Int)) rfl (fun hc12 => ?_) (fun hc12 => ?_)
    · replace hFL3 := it_t hc12 hFL3
      replace hFL3 := ck_s hFL3; obtain ⟨hk4_0, hFL3⟩ := hFL3
      replace hFL3 := lv_s hFL3; obtain ⟨x14, hx14, hFL3⟩ := hFL3
      refine x_skip <| x_seq <| x_block <| x_seq <|
        x_region <| p (yix_f sl_26 eL3h_9 eL3h_11 h_n0_0 hk4_0) <| pa (at_load one_9 rfl (RdS.getW h_n0_0 (hS.pull 2) hk4_0 hx14)) <| p (yl_assign rfl) <|
        x_done <| x_region <| p (yl_move eL3h_3) <| p (yl_move rfl) <|
        p (v := .agg #[.string x14, .bool false, .int .i64 0, .int .i64 0]) (yl_build bld_64 bldf_64 (parts_eq (pt (va := .string x14) rfl pt0)) (by kernel_rfl)) <|
        ?_
      refine o_buildSlice (vs := [.agg #[.string x14, .bool false, .int .i64 0, .int .i64 0]]) (cs := [.string x14, .bool false, .int .i64 0, .int .i64 0]) sl_53 zero_64 (parts_eq (pt (va := .agg #[.string x14, .bool false, .int .i64 0, .int .i64 0]) rfl pt0)) rfl (by intro v hv; simp only [List.mem_cons, List.not_mem_nil, or_false] at hv; first | (subst hv; rfl) | (rcases hv with rfl <;> rfl)) (by decide) rfl hS (fun b18 w' hS => ?_)
      replace hFL3 := lv_s hFL3; obtain ⟨z5_4, hz5_4, hFL3⟩ := hFL3
      replace hFL3 := ck_s hFL3; obtain ⟨hk5_4, hFL3⟩ := hFL3
      refine o_ap sl_53 zero_64 rfl (by decide) rfl rfl (hS.pull 2) h_out3_L3h (src_blk usl_53 hS rfl rfl) (RepL.cons (R := R_floor_Port) (ρ := ρ) (x := (T_floor_Port.mk x14 false 0 0)) (cs := [.string x14, .bool false, .int .i64 0, .int .i64 0]) rfl RepL.nil) hz5_4 hk5_4 (fun A19 c19 cs19 w' hr19 hS => ?_)
      replace hFL3 := ar_s hFL3; obtain ⟨x20, hx20, hFL3⟩ := hFL3
      refine p (yl_assign rfl) <| x_done <| x_blk <| x_region <|
        p (yadd eL3h_11 rfl hx20) <| p (yl_move rfl) <| x_done <|
        ?_
      have e_ := Option.some.inj (show some _ = some _ from hFL3); subst e_
      exact x_inv ⟨kL3, Nat.lt_succ_self _, A19, z5_4.length, c19, cs19, z5_4, x20, hLL3, eL3h_1, rfl, eL3h_9, eL3h_10, rfl, hr19, ((((hS.pull 1).drop.pull 2).pull 1).pull 2)⟩
    · replace hFL3 := it_f hc12 hFL3
      refine x_exitTo _ rfl <|
        ?_
      have e_ := Option.some.inj (show some _ = some _ from hFL3); subst e_
      exact x_inv ⟨A_out3_L3h, out3_L3h.length, c_out3_L3h, cs_out3_L3h, out3_L3h, hLL3, eL3h_1, eL3h_3, h_out3_L3h, (((hS.pull 2).pull 2).pull 2)⟩
  rintro E w ⟨A_out3_L3, n_out3_L3, c_out3_L3, cs_out3_L3, out3_L3, rfl, eL3_1, eL3_3, h_out3_L3, hS⟩
  have e_ := St.vec_n (hS.pull 1) h_out3_L3; subst e_
  refine x_seq <| x_seq <| x_region <| p (yl_field0 fld_30_1 eL3_1) <|
    pa (at_load one_26 rfl (hS.cell rfl)) <| p (yl_len_slice usl_26 rfl) <| p (yl_move rfl) <| x_done <|
    ?_
  replace hF := bd_s hF; obtain ⟨oL8, hLL8, hF⟩ := hF
  refine x_join (fun E w => ∃ (A_out3_L8 : Option Addr) (n_out3_L8 : Nat) (c_out3_L8 : Nat) (cs_out3_L8 : List Value) (out3_L8 : List T_floor_Port), out3_L8 = oL8 ∧ E 1 = .pointer (some ⟨b1, 0, none⟩) ∧ E 3 = .slice A_out3_L8 n_out3_L8 c_out3_L8 ∧ RepL R_floor_Port ρ out3_L8 cs_out3_L8 ∧ St w0 w (cells b1 30 [.slice A_n0_0 n0.In.length c_n0_0, .slice A_n0_1 n0.Out.length c_n0_1, .slice A_n0_2 n0.Flops.length c_n0_2, .slice A_n0_3 n0.Gates.length c_n0_3, .slice A_n0_4 n0.Outs.length c_n0_4] :: vec 64 R_floor_Port.sz (.slice A_out3_L8 n_out3_L8 c_out3_L8) n_out3_L8 cs_out3_L8 :: ro ρ :: l)) ?_ ?_
  · skip -- L8
    refine x_block ?_
    refine x_loop (fun k_ E w => ∃ (A_out3_L8h : Option Addr) (n_out3_L8h : Nat) (c_out3_L8h : Nat) (cs_out3_L8h : List Value) (out3_L8h : List T_floor_Port) (y24_L8h : Int), lp (P_floor_Names_L8 n0) k_ (out3_L8h, y24_L8h) = some oL8 ∧ E 1 = .pointer (some ⟨b1, 0, none⟩) ∧ E 3 = .slice A_out3_L8h n_out3_L8h c_out3_L8h ∧ E 22 = .slice A_n0_1 n0.Out.length c_n0_1 ∧ E 23 = .int .i64 (n0.Out.length : Int) ∧ E 24 = .int .i64 y24_L8h ∧ RepL R_floor_Port ρ out3_L8h cs_out3_L8h ∧ St w0 w (cells b1 30 [.slice A_n0_0 n0.In.length c_n0_0, .slice A_n0_1 n0.Out.length c_n0_1, .slice A_n0_2 n0.Flops.length c_n0_2, .slice A_n0_3 n0.Gates.length c_n0_3, .slice A_n0_4 n0.Outs.length c_n0_4] :: vec 64 R_floor_Port.sz (.slice A_out3_L8h n_out3_L8h c_out3_L8h) n_out3_L8h cs_out3_L8h :: ro ρ :: l)) fuel ⟨A_out3_L3, out3_L3.length, c_out3_L3, cs_out3_L3, out3_L3, 0, hLL8, eL3_1, eL3_3, rfl, rfl, rfl, h_out3_L3, (((hS.pull 2).pull 2).pull 2)⟩ ?_
    rintro kL8 E w ⟨A_out3_L8h, n_out3_L8h, c_out3_L8h, cs_out3_L8h, out3_L8h, y24_L8h, hLL8, eL8h_1, eL8h_3, eL8h_22, eL8h_23, eL8h_24, h_out3_L8h, hS⟩
    have e_ := St.vec_n (hS.pull 1) h_out3_L8h; subst e_
    replace hLL8 := lp_s hLL8; obtain ⟨kL8, obL8, rfl, hFL8, hLL8⟩ := hLL8
    refine x_seq <| x_region <| p (yl_lss eL8h_24 eL8h_23) <| x_done <|
      x_seq <|
      x_cond_p (y24_L8h < (n0.Out.length : Int)) rfl (fun hc25 => ?_) (fun hc25 => ?_)
    · replace hFL8 := it_t hc25 hFL8
      replace hFL8 := ck_s hFL8; obtain ⟨hk9_0, hFL8⟩ := hFL8
      replace hFL8 := lv_s hFL8; obtain ⟨x27, hx27, hFL8⟩ := hFL8
      refine x_skip <| x_seq <| x_block <| x_seq <|
        x_region <| p (yix_f sl_26 eL8h_22 eL8h_24 h_n0_1 hk9_0) <| pa (at_load one_9 rfl (RdS.getW h_n0_1 (hS.pull 2) hk9_0 hx27)) <| p (yl_assign rfl) <|
        x_done <| x_region <| p (yl_move eL8h_3) <| p (yl_move rfl) <|
        p (v := .agg #[.string x27, .bool true, .int .i64 0, .int .i64 0]) (yl_build bld_64 bldf_64 (parts_eq (pt (va := .string x27) rfl (pt (va := .bool true) rfl pt0))) (by kernel_rfl)) <|
        ?_
      refine o_buildSlice (vs := [.agg #[.string x27, .bool true, .int .i64 0, .int .i64 0]]) (cs := [.string x27, .bool true, .int .i64 0, .int .i64 0]) sl_53 zero_64 (parts_eq (pt (va := .agg #[.string x27, .bool true, .int .i64 0, .int .i64 0]) rfl pt0)) rfl (by intro v hv; simp only [List.mem_cons, List.not_mem_nil, or_false] at hv; first | (subst hv; rfl) | (rcases hv with rfl <;> rfl)) (by decide) rfl hS (fun b31 w' hS => ?_)
      replace hFL8 := lv_s hFL8; obtain ⟨z10_4, hz10_4, hFL8⟩ := hFL8
      replace hFL8 := ck_s hFL8; obtain ⟨hk10_4, hFL8⟩ := hFL8
      refine o_ap sl_53 zero_64 rfl (by decide) rfl rfl (hS.pull 2) h_out3_L8h (src_blk usl_53 hS rfl rfl) (RepL.cons (R := R_floor_Port) (ρ := ρ) (x := (T_floor_Port.mk x27 true 0 0)) (cs := [.string x27, .bool true, .int .i64 0, .int .i64 0]) rfl RepL.nil) hz10_4 hk10_4 (fun A32 c32 cs32 w' hr32 hS => ?_)
      replace hFL8 := ar_s hFL8; obtain ⟨x33, hx33, hFL8⟩ := hFL8
      refine p (yl_assign rfl) <| x_done <| x_blk <| x_region <|
        p (yadd eL8h_24 rfl hx33) <| p (yl_move rfl) <| x_done <|
        ?_
      have e_ := Option.some.inj (show some _ = some _ from hFL8); subst e_
      exact x_inv ⟨kL8, Nat.lt_succ_self _, A32, z10_4.length, c32, cs32, z10_4, x33, hLL8, eL8h_1, rfl, eL8h_22, eL8h_23, rfl, hr32, ((((hS.pull 1).drop.pull 2).pull 1).pull 2)⟩
    · replace hFL8 := it_f hc25 hFL8
      refine x_exitTo _ rfl <|
        ?_
      have e_ := Option.some.inj (show some _ = some _ from hFL8); subst e_
      exact x_inv ⟨A_out3_L8h, out3_L8h.length, c_out3_L8h, cs_out3_L8h, out3_L8h, hLL8, eL8h_1, eL8h_3, h_out3_L8h, (((hS.pull 2).pull 2).pull 2)⟩
  rintro E w ⟨A_out3_L8, n_out3_L8, c_out3_L8, cs_out3_L8, out3_L8, rfl, eL8_1, eL8_3, h_out3_L8, hS⟩
  have e_ := St.vec_n (hS.pull 1) h_out3_L8; subst e_
  refine x_seq <| x_seq <| x_region <| p (yl_field0 fld_30_2 eL8_1) <|
    pa (at_load one_27 rfl (hS.cell rfl)) <| p (yl_len_slice usl_27 rfl) <| p (yl_gtr rfl rfl) <| x_done <|
    ?_
  replace hF := bd_s hF; obtain ⟨oc37, hFc37, hF⟩ := hF
  refine x_join (fun E w => ∃ (A_out3_c37 : Option Addr) (n_out3_c37 : Nat) (c_out3_c37 : Nat) (cs_out3_c37 : List Value) (out3_c37 : List T_floor_Port), out3_c37 = oc37 ∧ E 3 = .slice A_out3_c37 n_out3_c37 c_out3_c37 ∧ RepL R_floor_Port ρ out3_c37 cs_out3_c37 ∧ St w0 w (vec 64 R_floor_Port.sz (.slice A_out3_c37 n_out3_c37 c_out3_c37) n_out3_c37 cs_out3_c37 :: ro ρ :: l)) ?_ ?_
  · skip -- c37
    refine x_cond_p (0 < (n0.Flops.length : Int)) rfl (fun hc37 => ?_) (fun hc37 => ?_)
    · replace hFc37 := it_t hc37 hFc37
      refine x_region <| p (yl_move eL8_3) <| p (v := .agg #[.string (⟨#[]⟩ : ByteArray), .bool false, .int .i64 0, .int .i64 0]) (yl_build bld_64 bldf_64 (parts_eq pt0) (by kernel_rfl)) <|
        ?_
      refine o_buildSlice (vs := [.agg #[.string (⟨#[]⟩ : ByteArray), .bool false, .int .i64 0, .int .i64 0]]) (cs := [.string (⟨#[]⟩ : ByteArray), .bool false, .int .i64 0, .int .i64 0]) sl_53 zero_64 (parts_eq (pt (va := .agg #[.string (⟨#[]⟩ : ByteArray), .bool false, .int .i64 0, .int .i64 0]) rfl pt0)) rfl (by intro v hv; simp only [List.mem_cons, List.not_mem_nil, or_false] at hv; first | (subst hv; rfl) | (rcases hv with rfl <;> rfl)) (by decide) rfl hS (fun b40 w' hS => ?_)
      replace hFc37 := lv_s hFc37; obtain ⟨z13_3, hz13_3, hFc37⟩ := hFc37
      replace hFc37 := ck_s hFc37; obtain ⟨hk13_3, hFc37⟩ := hFc37
      refine o_ap sl_53 zero_64 rfl (by decide) rfl rfl (hS.pull 2) h_out3_L8 (src_blk usl_53 hS rfl rfl) (RepL.cons (R := R_floor_Port) (ρ := ρ) (x := (T_floor_Port.mk (⟨#[]⟩ : ByteArray) false 0 0)) (cs := [.string (⟨#[]⟩ : ByteArray), .bool false, .int .i64 0, .int .i64 0]) rfl RepL.nil) hz13_3 hk13_3 (fun A41 c41 cs41 w' hr41 hS => ?_)
      refine p (yl_assign rfl) <| x_done <|
        ?_
      exact x_inv ⟨A41, z13_3.length, c41, cs41, z13_3, (Option.some.inj (show some _ = some _ from hFc37)), rfl, hr41, ((((hS.pull 1).drop.pull 1).drop.pull 1).pull 1)⟩
    · replace hFc37 := it_f hc37 hFc37
      refine x_skip <|
        ?_
      exact x_inv ⟨A_out3_L8, out3_L8.length, c_out3_L8, cs_out3_L8, out3_L8, (Option.some.inj (show some _ = some _ from hFc37)), eL8_3, h_out3_L8, ((hS.drop.pull 1).pull 1)⟩
  rintro E w ⟨A_out3_c37, n_out3_c37, c_out3_c37, cs_out3_c37, out3_c37, rfl, ec37_3, h_out3_c37, hS⟩
  have e_ := St.vec_n hS h_out3_c37; subst e_
  refine x_seq <| x_region <| p (yl_move ec37_3) <| p (yl_assign rfl) <|
    x_done <|
    ?_
  have e_ := Option.some.inj (show some _ = some _ from hF); subst e_
  exact x_return ⟨_, ⟨_, _, rfl, rfl, rfl⟩, A_out3_c37, out3_c37.length, c_out3_c37, cs_out3_c37, rfl, h_out3_c37, ((hS.pull 1).pull 1)⟩
attribute [irreducible] P_floor_Names

def P_floor_Size (f0 : T_floor_Floor) : Option (Int × Int) :=
  ar ((4 : Int) * f0.Sites) fun x6 =>
  ar (x6 + 8) fun x7 =>
  ar ((4 : Int) * f0.Rows) fun x10 =>
  ar (x10 + 8) fun x11 =>
  some (x7, x11)
set_option maxHeartbeats 4000000 in
set_option maxRecDepth 100000 in
theorem c_floor_Size {w0 w : World} {l : List Assn} {ρ : Heap} {A_f0_3 : Option Addr} {n_f0_3 : Nat} {c_f0_3 : Nat} {A_f0_4 : Option Addr} {n_f0_4 : Nat} {c_f0_4 : Nat} {A_f0_5 : Option Addr} {n_f0_5 : Nat} {c_f0_5 : Nat} {f0 : T_floor_Floor} {r : (Int × Int)} (hF : P_floor_Size f0 = some r) (h_f0_3 : RdS R_floor_Block ρ A_f0_3 n_f0_3 c_f0_3 f0.Blocks) (h_f0_4 : RdS R_floor_Wall ρ A_f0_4 n_f0_4 c_f0_4 f0.Walls) (h_f0_5 : RdS R_floor_Port ρ A_f0_5 n_f0_5 c_f0_5 f0.Ports) (hS : St w0 w (ro ρ :: l)) :
    Calls Tryd.prog 35 #[.agg #[.int .i64 f0.Rows, .int .i64 f0.Sites, .int .i64 f0.Layers, .slice A_f0_3 n_f0_3 c_f0_3, .slice A_f0_4 n_f0_4 c_f0_4, .slice A_f0_5 n_f0_5 c_f0_5]] w fun e w' => e = .returned (.tuple #[.int .i64 r.1, .int .i64 r.2]) ∧ St w0 w' (ro ρ :: l) := by
  have e_ := h_f0_3.n; subst e_
  have e_ := h_f0_4.n; subst e_
  have e_ := h_f0_5.n; subst e_
  refine enterC Tryd.func35 rfl 12 rfl (by simp) ?_
  refine x_seq <| x_region <|
    ?_
  refine o_box (cs := [.int .i64 f0.Rows, .int .i64 f0.Sites, .int .i64 f0.Layers, .slice A_f0_3 f0.Blocks.length c_f0_3, .slice A_f0_4 f0.Walls.length c_f0_4, .slice A_f0_5 f0.Ports.length c_f0_5]) rfl rfl hS (fun b1 w' hS => ?_)
  replace hF := ar_s hF; obtain ⟨x6, hx6, hF⟩ := hF
  replace hF := ar_s hF; obtain ⟨x7, hx7, hF⟩ := hF
  replace hF := ar_s hF; obtain ⟨x10, hx10, hF⟩ := hF
  replace hF := ar_s hF; obtain ⟨x11, hx11, hF⟩ := hF
  refine p (yl_assign rfl) <| p (yl_assign rfl) <| x_done <| x_seq <|
    x_still mixed (by kernel_rfl) hS <| q (yl_field0 fld_55_1 rfl) <| qa (fun w' hS => at_load one_3 rfl (hS.cell rfl)) <| q (ymul rfl rfl hx6) <|
    q (yadd rfl rfl hx7) <| q (yl_field0 fld_55_0 rfl) <| qa (fun w' hS => at_load one_3 rfl (hS.cell rfl)) <| q (ymul rfl rfl hx10) <|
    q (yadd rfl rfl hx11) <| q (yl_assign rfl) <| q (yl_assign rfl) <|
    q_done fun w' hS => ?_
  have e_ := Option.some.inj (show some _ = some _ from hF); subst e_
  exact x_return ⟨_, ⟨_, _, rfl, rfl, _, _, rfl, rfl, rfl⟩, rfl, hS.drop⟩
attribute [irreducible] P_floor_Size

def P_floor_border_2_L6 (ports1 : List T_floor_Port) (r1_3 : (Int × Int)) (x22 : Int) : (Int × List T_floor_Port) → Option ((Int × List T_floor_Port) ⊕ List T_floor_Port) := fun (y35_L6h, b_f0_5_L6h) =>
  if y35_L6h < (ports1.length : Int) then
    ck (inb y35_L6h ports1.length) <|
    lv (gt ports1 y35_L6h) fun y7_2 =>
    ar (x22 * y35_L6h) fun x42 =>
    ck ((ports1.length : Int) ≠ 0) <|
    ar (Int.tdiv x42 (ports1.length : Int)) fun x45 =>
    bd (
      if x45 < r1_3.1 then
        some (x45, (0 : Int))
      else
        ar (r1_3.1 + r1_3.2) fun x62 =>
        ar (x62 - 1) fun x63 =>
        bd (
          if x45 < x63 then
            ar (r1_3.1 - 1) fun x66 =>
            ar (x45 - r1_3.1) fun x69 =>
            ar (x69 + 1) fun x70 =>
            some (x66, x70)
          else
            ar ((2 : Int) * r1_3.1) fun x76 =>
            ar (x76 + r1_3.2) fun x78 =>
            ar (x78 - 2) fun x79 =>
            bd (
              if x45 < x79 then
                ar ((2 : Int) * r1_3.1) fun x82 =>
                ar (x82 + r1_3.2) fun x84 =>
                ar (x84 - 3) fun x85 =>
                ar (x85 - x45) fun x87 =>
                ar (r1_3.2 - 1) fun x89 =>
                some (x87, x89)
              else
                ar (x22 - x45) fun x48 =>
                some ((0 : Int), x48)) fun (b9_2_c73, b9_3_c73) =>
            some (b9_2_c73, b9_3_c73)) fun (b9_2_c58, b9_3_c58) =>
        some (b9_2_c58, b9_3_c58)) fun (b9_2_c51, b9_3_c51) =>
    lv (b_f0_5_L6h ++ [(T_floor_Port.mk y7_2.Name y7_2.Out b9_2_c51 b9_3_c51)]) fun z16_7 =>
    ck (apOk 40 z16_7.length) <|
    ar (y35_L6h + 1) fun x102 =>
    some (Sum.inl (x102, z16_7))
  else
    some (Sum.inr b_f0_5_L6h)
def P_floor_border_2 (f0 : T_floor_Floor) (ports1 : List T_floor_Port) : Option (Bool × List T_floor_Port) :=
  bd (P_floor_Size f0) fun r1_3 =>
  ar (r1_3.1 + r1_3.2) fun x20 =>
  ar ((2 : Int) * x20) fun x21 =>
  ar (x21 - 4) fun x22 =>
  ck ((!(decide (200 < (ports1.length : Int)))) = true → I64 ((3 : Int) * (ports1.length : Int))) <|
  lv ((3 : Int) * (ports1.length : Int)) fun x29 =>
  lv ((decide (200 < (ports1.length : Int))) || (decide (x22 < x29))) fun x32 =>
  if x32 = true then
    some (false, f0.Ports)
  else
    bd (
      lp (P_floor_border_2_L6 ports1 r1_3 x22) fuel (0, f0.Ports)) fun b_f0_5_L6 =>
    some (true, b_f0_5_L6)
set_option maxHeartbeats 4000000 in
set_option maxRecDepth 100000 in
theorem c_floor_border_2 {w0 w : World} {l : List Assn} {ρ : Heap} {b_f0 : Nat} {A_f0_3 : Option Addr} {n_f0_3 : Nat} {c_f0_3 : Nat} {A_f0_4 : Option Addr} {n_f0_4 : Nat} {c_f0_4 : Nat} {A_f0_5 : Option Addr} {n_f0_5 : Nat} {c_f0_5 : Nat} {cs_f0_5 : List Value} {A_ports1 : Option Addr} {n_ports1 : Nat} {c_ports1 : Nat} {f0 : T_floor_Floor} {ports1 : List T_floor_Port} {r : (Bool × List T_floor_Port)} (hF : P_floor_border_2 f0 ports1 = some r) (h_f0_3 : RdS R_floor_Block ρ A_f0_3 n_f0_3 c_f0_3 f0.Blocks) (h_f0_4 : RdS R_floor_Wall ρ A_f0_4 n_f0_4 c_f0_4 f0.Walls) (h_f0_5 : RepL R_floor_Port ρ f0.Ports cs_f0_5) (h_ports1 : RdS R_floor_Port ρ A_ports1 n_ports1 c_ports1 ports1) (hS : St w0 w (cells b_f0 55 [.int .i64 f0.Rows, .int .i64 f0.Sites, .int .i64 f0.Layers, .slice A_f0_3 n_f0_3 c_f0_3, .slice A_f0_4 n_f0_4 c_f0_4, .slice A_f0_5 n_f0_5 c_f0_5] :: vec 64 R_floor_Port.sz (.slice A_f0_5 n_f0_5 c_f0_5) n_f0_5 cs_f0_5 :: ro ρ :: l)) :
    Calls Tryd.prog 70 #[.pointer (some ⟨b_f0, 0, none⟩), .slice A_ports1 n_ports1 c_ports1] w fun e w' => ∃ (A_b_f0_5_ret : Option Addr) (n_b_f0_5_ret : Nat) (c_b_f0_5_ret : Nat) (cs_b_f0_5_ret : List Value), e = .returned (.bool r.1) ∧ RepL R_floor_Port ρ r.2 cs_b_f0_5_ret ∧ St w0 w' (cells b_f0 55 [.int .i64 f0.Rows, .int .i64 f0.Sites, .int .i64 f0.Layers, .slice A_f0_3 n_f0_3 c_f0_3, .slice A_f0_4 n_f0_4 c_f0_4, .slice A_b_f0_5_ret n_b_f0_5_ret c_b_f0_5_ret] :: vec 64 R_floor_Port.sz (.slice A_b_f0_5_ret n_b_f0_5_ret c_b_f0_5_ret) n_b_f0_5_ret cs_b_f0_5_ret :: ro ρ :: l) := by
  have e_ := h_f0_3.n; subst e_
  have e_ := h_f0_4.n; subst e_
  have e_ := St.vec_n (hS.pull 1) h_f0_5; subst e_
  have e_ := h_ports1.n; subst e_
  refine enterC Tryd.func70 rfl 103 rfl (by simp) ?_
  replace hF := bd_s hF; obtain ⟨r1_3, hc1_3, hF⟩ := hF
  refine x_seq <| x_region <| p (yl_assign rfl) <| x_done <|
    x_seq <| x_region <| p (yl_move rfl) <| p (yl_nilCheck rfl) <|
    pa (v := .agg #[.int .i64 f0.Rows, .int .i64 f0.Sites, .int .i64 f0.Layers, .slice A_f0_3 f0.Blocks.length c_f0_3, .slice A_f0_4 f0.Walls.length c_f0_4, .slice A_f0_5 f0.Ports.length c_f0_5]) (ld_sub agg_55 rfl rfl rfl hS) <|
    ?_
  have q_ := St.lend ((hS.pull 2).pull 2) h_f0_5; obtain ⟨ρl0, hll0, hlf0, hS0, back0⟩ := q_
  have hcall := c_floor_Size hc1_3 (h_f0_3.le hll0) (h_f0_4.le hll0) hlf0 hS0
  refine o_cc call_35 (args1 rfl) ((Calls.mono hcall (fun e w'' h => And.intro h.1 ((((back0 h.2).pull 1).pull 1).pull 2)))) ?_
  rintro e w' ⟨rfl, hS⟩
  refine ⟨_, rfl, ?_⟩
  replace hF := ar_s hF; obtain ⟨x20, hx20, hF⟩ := hF
  replace hF := ar_s hF; obtain ⟨x21, hx21, hF⟩ := hF
  replace hF := ar_s hF; obtain ⟨x22, hx22, hF⟩ := hF
  replace hF := ck_s hF; obtain ⟨hk3_6, hF⟩ := hF
  replace hF := lv_s hF; obtain ⟨x29, hx29, hF⟩ := hF
  replace hF := lv_s hF; obtain ⟨x32, hx32, hF⟩ := hF
  refine p (v := .tuple #[.int .i64 r1_3.1, .int .i64 r1_3.2]) (yl_move rfl) <| p (yl_extract rfl rfl) <| p (yl_extract rfl rfl) <| p (yl_assign rfl) <|
    p (yl_assign rfl) <| x_done <| x_seq <| x_region <|
    p (yl_move rfl) <| p (yl_move rfl) <| p (yadd rfl rfl hx20) <| p (ymul rfl rfl hx21) <|
    p (ysub rfl rfl hx22) <| p (yl_assign rfl) <| x_done <| x_seq <|
    x_seq <| x_region <| p (yl_move rfl) <| p (yl_len_slice usl_53 rfl) <|
    p (yl_gtr rfl rfl) <| p (yl_move rfl) <| pg (v := .slice A_ports1 ports1.length c_ports1) 26 (c := !(decide (200 < (ports1.length : Int)))) (says_f _) (fun hq => Yl.at (yl_move rfl)) <| pg (v := .int .i64 (ports1.length : Int)) 26 (c := !(decide (200 < (ports1.length : Int)))) (says_f _) (fun hq => Yl.at (yl_len_slice usl_53 (cv hq))) <|
    pg (v := .int .i64 x29) 26 (c := !(decide (200 < (ports1.length : Int)))) (says_f _) (fun hq => Yl.at (ymul rfl (cv hq) ⟨hx29, (hk3_6 hq)⟩)) <| pg (v := .int .i64 x22) 26 (c := !(decide (200 < (ports1.length : Int)))) (says_f _) (fun hq => Yl.at (yl_move rfl)) <| pg (v := .bool (decide (x22 < x29))) 26 (c := !(decide (200 < (ports1.length : Int)))) (says_f _) (fun hq => Yl.at (yl_gtr (cv hq) (cv hq))) <| p (yor' rfl rfl (fun hc => (cv (t_not hc))) hx32) <|
    x_done <|
    x_cond (t := x32) rfl (fun hc32 => ?_) (fun hc32 => ?_)
  · replace hF := it_t hc32 hF
    refine x_seq <| x_region <| p (yl_assign rfl) <| x_done <|
      ?_
    have e_ := Option.some.inj (show some _ = some _ from hF); subst e_
    exact x_return ⟨_, ⟨_, _, rfl, rfl, rfl⟩, A_f0_5, f0.Ports.length, c_f0_5, cs_f0_5, rfl, h_f0_5, (((hS.pull 2).pull 2).pull 2)⟩
  · replace hF := it_bf hc32 hF
    refine x_skip <| x_seq <| x_seq <| x_region <|
      p (yl_move rfl) <| p (yl_len_slice usl_53 rfl) <| p (yl_move rfl) <| x_done <|
      ?_
    replace hF := bd_s hF; obtain ⟨oL6, hLL6, hF⟩ := hF
    refine x_join (fun E w => ∃ (A_b_f0_5_L6 : Option Addr) (n_b_f0_5_L6 : Nat) (c_b_f0_5_L6 : Nat) (cs_b_f0_5_L6 : List Value) (b_f0_5_L6 : List T_floor_Port), b_f0_5_L6 = oL6 ∧ RepL R_floor_Port ρ b_f0_5_L6 cs_b_f0_5_L6 ∧ St w0 w (cells b_f0 55 [.int .i64 f0.Rows, .int .i64 f0.Sites, .int .i64 f0.Layers, .slice A_f0_3 f0.Blocks.length c_f0_3, .slice A_f0_4 f0.Walls.length c_f0_4, .slice A_b_f0_5_L6 n_b_f0_5_L6 c_b_f0_5_L6] :: vec 64 R_floor_Port.sz (.slice A_b_f0_5_L6 n_b_f0_5_L6 c_b_f0_5_L6) n_b_f0_5_L6 cs_b_f0_5_L6 :: ro ρ :: l)) ?_ ?_
    · skip -- L6
      refine x_block ?_
      refine x_loop (fun k_ E w => ∃ (A_b_f0_5_L6h : Option Addr) (n_b_f0_5_L6h : Nat) (c_b_f0_5_L6h : Nat) (cs_b_f0_5_L6h : List Value) (y35_L6h : Int) (b_f0_5_L6h : List T_floor_Port), lp (P_floor_border_2_L6 ports1 r1_3 x22) k_ (y35_L6h, b_f0_5_L6h) = some oL6 ∧ E 0 = .pointer (some ⟨b_f0, 0, none⟩) ∧ E 1 = .slice A_ports1 ports1.length c_ports1 ∧ E 5 = .int .i64 r1_3.1 ∧ E 6 = .int .i64 r1_3.2 ∧ E 7 = .int .i64 x22 ∧ E 33 = .slice A_ports1 ports1.length c_ports1 ∧ E 34 = .int .i64 (ports1.length : Int) ∧ E 35 = .int .i64 y35_L6h ∧ RepL R_floor_Port ρ b_f0_5_L6h cs_b_f0_5_L6h ∧ St w0 w (cells b_f0 55 [.int .i64 f0.Rows, .int .i64 f0.Sites, .int .i64 f0.Layers, .slice A_f0_3 f0.Blocks.length c_f0_3, .slice A_f0_4 f0.Walls.length c_f0_4, .slice A_b_f0_5_L6h n_b_f0_5_L6h c_b_f0_5_L6h] :: vec 64 R_floor_Port.sz (.slice A_b_f0_5_L6h n_b_f0_5_L6h c_b_f0_5_L6h) n_b_f0_5_L6h cs_b_f0_5_L6h :: ro ρ :: l)) fuel ⟨A_f0_5, f0.Ports.length, c_f0_5, cs_f0_5, 0, f0.Ports, hLL6, rfl, rfl, rfl, rfl, rfl, rfl, rfl, rfl, h_f0_5, (((hS.pull 2).pull 2).pull 2)⟩ ?_
      rintro kL6 E w ⟨A_b_f0_5_L6h, n_b_f0_5_L6h, c_b_f0_5_L6h, cs_b_f0_5_L6h, y35_L6h, b_f0_5_L6h, hLL6, eL6h_0, eL6h_1, eL6h_5, eL6h_6, eL6h_7, eL6h_33, eL6h_34, eL6h_35, h_b_f0_5_L6h, hS⟩
      have e_ := St.vec_n (hS.pull 1) h_b_f0_5_L6h; subst e_
      replace hLL6 := lp_s hLL6; obtain ⟨kL6, obL6, rfl, hFL6, hLL6⟩ := hLL6
      refine x_seq <| x_region <| p (yl_lss eL6h_35 eL6h_34) <| x_done <|
        x_seq <|
        x_cond_p (y35_L6h < (ports1.length : Int)) rfl (fun hc36 => ?_) (fun hc36 => ?_)
      · replace hFL6 := it_t hc36 hFL6
        replace hFL6 := ck_s hFL6; obtain ⟨hk7_1, hFL6⟩ := hFL6
        replace hFL6 := lv_s hFL6; obtain ⟨y7_2, hy7_2, hFL6⟩ := hFL6
        have q_ := h_ports1.get hk7_1; obtain ⟨el7_2, ek7_2, ee7_2⟩ := q_
        rw [← hy7_2] at ek7_2
        have e_ := ek7_2; subst e_
        refine x_skip <| x_seq <| x_block <| x_seq <|
          x_region <| p (yl_move eL6h_35) <| p (yix_f sl_53 eL6h_33 eL6h_35 h_ports1 hk7_1) <| pa (v := .agg #[.string y7_2.Name, .bool y7_2.Out, .int .i64 y7_2.X, .int .i64 y7_2.Y]) (at_loadAgg agg_64 rfl rfl (Elt.every ee7_2 (hS.pull 2))) <|
          ?_
        refine o_alloc zero_64 hS (fun b9 w' hS => ?_)
        refine p (yl_assign rfl) <|
          ?_
        refine o_storeAgg (news := [.string y7_2.Name, .bool y7_2.Out, .int .i64 y7_2.X, .int .i64 y7_2.Y]) agg_64 rfl rfl rfl (by simp [over_length]) hS (fun w' hS => ?_)
        replace hFL6 := ar_s hFL6; obtain ⟨x42, hx42, hFL6⟩ := hFL6
        replace hFL6 := ck_s hFL6; obtain ⟨hk8_5, hFL6⟩ := hFL6
        replace hFL6 := ar_s hFL6; obtain ⟨x45, hx45, hFL6⟩ := hFL6
        refine x_done <| x_seq <| x_region <| p (yl_move eL6h_7) <|
          p (yl_move rfl) <| p (ymul rfl rfl hx42) <| p (yl_move eL6h_1) <| p (yl_len_slice usl_53 rfl) <|
          p (yquo rfl rfl hk8_5 hx45) <| p (yl_assign rfl) <| x_done <| x_seq <|
          x_block <| x_seq <| x_region <| p (yl_move rfl) <|
          p (yl_move eL6h_5) <| p (yl_lss rfl rfl) <| p (yl_assign rfl) <| x_done <|
          ?_
        replace hFL6 := bd_s hFL6; obtain ⟨oc51, hFc51, hFL6⟩ := hFL6
        refine x_join (fun E w => ∃ (b9_2_c51 : Int) (b9_3_c51 : Int), (b9_2_c51, b9_3_c51) = oc51 ∧ E 0 = .pointer (some ⟨b_f0, 0, none⟩) ∧ E 1 = .slice A_ports1 ports1.length c_ports1 ∧ E 5 = .int .i64 r1_3.1 ∧ E 6 = .int .i64 r1_3.2 ∧ E 7 = .int .i64 x22 ∧ E 9 = .pointer (some ⟨b9, 0, none⟩) ∧ E 33 = .slice A_ports1 ports1.length c_ports1 ∧ E 34 = .int .i64 (ports1.length : Int) ∧ E 35 = .int .i64 y35_L6h ∧ St w0 w (cells b_f0 55 [.int .i64 f0.Rows, .int .i64 f0.Sites, .int .i64 f0.Layers, .slice A_f0_3 f0.Blocks.length c_f0_3, .slice A_f0_4 f0.Walls.length c_f0_4, .slice A_b_f0_5_L6h b_f0_5_L6h.length c_b_f0_5_L6h] :: cells b9 64 [.string y7_2.Name, .bool y7_2.Out, .int .i64 b9_2_c51, .int .i64 b9_3_c51] :: vec 64 R_floor_Port.sz (.slice A_b_f0_5_L6h b_f0_5_L6h.length c_b_f0_5_L6h) b_f0_5_L6h.length cs_b_f0_5_L6h :: ro ρ :: l)) ?_ ?_
        · skip -- c51
          refine x_cond_p (x45 < r1_3.1) rfl (fun hc51 => ?_) (fun hc51 => ?_)
          · replace hFc51 := it_t hc51 hFc51
            refine x_region <| p (yl_move rfl) <| p (yl_field0 fld_64_2 rfl) <|
              ?_
            refine o_store1 (v := .int .i64 x45) one_3 rfl rfl rfl rfl hS (fun w' hS => ?_)
            refine p (yl_field0 fld_64_3 rfl) <|
              ?_
            refine o_store1 (v := .int .i64 0) one_3 rfl rfl rfl rfl hS (fun w' hS => ?_)
            refine x_done <|
              ?_
            exact x_inv ⟨x45, 0, (Option.some.inj (show some _ = some _ from hFc51)), eL6h_0, eL6h_1, eL6h_5, eL6h_6, eL6h_7, rfl, eL6h_33, eL6h_34, eL6h_35, ((((hS.pull 3).pull 3).pull 2).pull 3)⟩
          · replace hFc51 := it_f hc51 hFc51
            replace hFc51 := ar_s hFc51; obtain ⟨x62, hx62, hFc51⟩ := hFc51
            replace hFc51 := ar_s hFc51; obtain ⟨x63, hx63, hFc51⟩ := hFc51
            refine x_seq <| x_region <| p (yl_move rfl) <| p (yl_move eL6h_5) <|
              p (yl_move eL6h_6) <| p (yadd rfl rfl hx62) <| p (ysub rfl rfl hx63) <| p (yl_lss rfl rfl) <|
              p (yl_assign rfl) <| x_done <|
              ?_
            replace hFc51 := bd_s hFc51; obtain ⟨oc58, hFc58, hFc51⟩ := hFc51
            refine x_join (fun E w => ∃ (b9_2_c58 : Int) (b9_3_c58 : Int), (b9_2_c58, b9_3_c58) = oc58 ∧ E 0 = .pointer (some ⟨b_f0, 0, none⟩) ∧ E 1 = .slice A_ports1 ports1.length c_ports1 ∧ E 5 = .int .i64 r1_3.1 ∧ E 6 = .int .i64 r1_3.2 ∧ E 7 = .int .i64 x22 ∧ E 9 = .pointer (some ⟨b9, 0, none⟩) ∧ E 33 = .slice A_ports1 ports1.length c_ports1 ∧ E 34 = .int .i64 (ports1.length : Int) ∧ E 35 = .int .i64 y35_L6h ∧ St w0 w (cells b_f0 55 [.int .i64 f0.Rows, .int .i64 f0.Sites, .int .i64 f0.Layers, .slice A_f0_3 f0.Blocks.length c_f0_3, .slice A_f0_4 f0.Walls.length c_f0_4, .slice A_b_f0_5_L6h b_f0_5_L6h.length c_b_f0_5_L6h] :: cells b9 64 [.string y7_2.Name, .bool y7_2.Out, .int .i64 b9_2_c58, .int .i64 b9_3_c58] :: vec 64 R_floor_Port.sz (.slice A_b_f0_5_L6h b_f0_5_L6h.length c_b_f0_5_L6h) b_f0_5_L6h.length cs_b_f0_5_L6h :: ro ρ :: l)) ?_ ?_
            · skip -- c58
              refine x_cond_p (x45 < x63) rfl (fun hc58 => ?_) (fun hc58 => ?_)
              · replace hFc58 := it_t hc58 hFc58
                replace hFc58 := ar_s hFc58; obtain ⟨x66, hx66, hFc58⟩ := hFc58
                replace hFc58 := ar_s hFc58; obtain ⟨x69, hx69, hFc58⟩ := hFc58
                replace hFc58 := ar_s hFc58; obtain ⟨x70, hx70, hFc58⟩ := hFc58
                refine x_region <| p (yl_move eL6h_5) <| p (ysub rfl rfl hx66) <| p (yl_move rfl) <|
                  p (yl_move eL6h_5) <| p (ysub rfl rfl hx69) <| p (yadd rfl rfl hx70) <| p (yl_field0 fld_64_2 rfl) <|
                  ?_
                refine o_store1 (v := .int .i64 x66) one_3 rfl rfl rfl rfl hS (fun w' hS => ?_)
                refine p (yl_field0 fld_64_3 rfl) <|
                  ?_
                refine o_store1 (v := .int .i64 x70) one_3 rfl rfl rfl rfl hS (fun w' hS => ?_)
                refine x_done <|
                  ?_
                exact x_inv ⟨x66, x70, (Option.some.inj (show some _ = some _ from hFc58)), eL6h_0, eL6h_1, eL6h_5, eL6h_6, eL6h_7, rfl, eL6h_33, eL6h_34, eL6h_35, ((((hS.pull 3).pull 3).pull 2).pull 3)⟩
              · replace hFc58 := it_f hc58 hFc58
                replace hFc58 := ar_s hFc58; obtain ⟨x76, hx76, hFc58⟩ := hFc58
                replace hFc58 := ar_s hFc58; obtain ⟨x78, hx78, hFc58⟩ := hFc58
                replace hFc58 := ar_s hFc58; obtain ⟨x79, hx79, hFc58⟩ := hFc58
                refine x_seq <| x_region <| p (yl_move rfl) <| p (yl_move eL6h_5) <|
                  p (ymul rfl rfl hx76) <| p (yl_move eL6h_6) <| p (yadd rfl rfl hx78) <| p (ysub rfl rfl hx79) <|
                  p (yl_lss rfl rfl) <| p (yl_assign rfl) <| x_done <|
                  ?_
                replace hFc58 := bd_s hFc58; obtain ⟨oc73, hFc73, hFc58⟩ := hFc58
                refine x_join (fun E w => ∃ (b9_2_c73 : Int) (b9_3_c73 : Int), (b9_2_c73, b9_3_c73) = oc73 ∧ E 0 = .pointer (some ⟨b_f0, 0, none⟩) ∧ E 1 = .slice A_ports1 ports1.length c_ports1 ∧ E 5 = .int .i64 r1_3.1 ∧ E 6 = .int .i64 r1_3.2 ∧ E 7 = .int .i64 x22 ∧ E 9 = .pointer (some ⟨b9, 0, none⟩) ∧ E 33 = .slice A_ports1 ports1.length c_ports1 ∧ E 34 = .int .i64 (ports1.length : Int) ∧ E 35 = .int .i64 y35_L6h ∧ St w0 w (cells b_f0 55 [.int .i64 f0.Rows, .int .i64 f0.Sites, .int .i64 f0.Layers, .slice A_f0_3 f0.Blocks.length c_f0_3, .slice A_f0_4 f0.Walls.length c_f0_4, .slice A_b_f0_5_L6h b_f0_5_L6h.length c_b_f0_5_L6h] :: cells b9 64 [.string y7_2.Name, .bool y7_2.Out, .int .i64 b9_2_c73, .int .i64 b9_3_c73] :: vec 64 R_floor_Port.sz (.slice A_b_f0_5_L6h b_f0_5_L6h.length c_b_f0_5_L6h) b_f0_5_L6h.length cs_b_f0_5_L6h :: ro ρ :: l)) ?_ ?_
                · skip -- c73
                  refine x_cond_p (x45 < x79) rfl (fun hc73 => ?_) (fun hc73 => ?_)
                  · replace hFc73 := it_t hc73 hFc73
                    replace hFc73 := ar_s hFc73; obtain ⟨x82, hx82, hFc73⟩ := hFc73
                    replace hFc73 := ar_s hFc73; obtain ⟨x84, hx84, hFc73⟩ := hFc73
                    replace hFc73 := ar_s hFc73; obtain ⟨x85, hx85, hFc73⟩ := hFc73
                    replace hFc73 := ar_s hFc73; obtain ⟨x87, hx87, hFc73⟩ := hFc73
                    replace hFc73 := ar_s hFc73; obtain ⟨x89, hx89, hFc73⟩ := hFc73
                    refine x_region <| p (yl_move eL6h_5) <| p (ymul rfl rfl hx82) <| p (yl_move eL6h_6) <|
                      p (yadd rfl rfl hx84) <| p (ysub rfl rfl hx85) <| p (yl_move rfl) <| p (ysub rfl rfl hx87) <|
                      p (yl_move eL6h_6) <| p (ysub rfl rfl hx89) <| p (yl_field0 fld_64_2 rfl) <|
                      ?_
                    refine o_store1 (v := .int .i64 x87) one_3 rfl rfl rfl rfl hS (fun w' hS => ?_)
                    refine p (yl_field0 fld_64_3 rfl) <|
                      ?_
                    refine o_store1 (v := .int .i64 x89) one_3 rfl rfl rfl rfl hS (fun w' hS => ?_)
                    refine x_done <|
                      ?_
                    exact x_inv ⟨x87, x89, (Option.some.inj (show some _ = some _ from hFc73)), eL6h_0, eL6h_1, eL6h_5, eL6h_6, eL6h_7, rfl, eL6h_33, eL6h_34, eL6h_35, ((((hS.pull 3).pull 3).pull 2).pull 3)⟩
                  · replace hFc73 := it_f hc73 hFc73
                    replace hFc73 := ar_s hFc73; obtain ⟨x48, hx48, hFc73⟩ := hFc73
                    refine x_region <| p (yl_move eL6h_7) <| p (yl_move rfl) <| p (ysub rfl rfl hx48) <|
                      p (yl_field0 fld_64_2 rfl) <|
                      ?_
                    refine o_store1 (v := .int .i64 0) one_3 rfl rfl rfl rfl hS (fun w' hS => ?_)
                    refine p (yl_field0 fld_64_3 rfl) <|
                      ?_
                    refine o_store1 (v := .int .i64 x48) one_3 rfl rfl rfl rfl hS (fun w' hS => ?_)
                    refine x_done <|
                      ?_
                    exact x_inv ⟨0, x48, (Option.some.inj (show some _ = some _ from hFc73)), eL6h_0, eL6h_1, eL6h_5, eL6h_6, eL6h_7, rfl, eL6h_33, eL6h_34, eL6h_35, ((((hS.pull 3).pull 3).pull 2).pull 3)⟩
                rintro E w ⟨b9_2_c73, b9_3_c73, rfl, ec73_0, ec73_1, ec73_5, ec73_6, ec73_7, ec73_9, ec73_33, ec73_34, ec73_35, hS⟩
                exact x_inv ⟨b9_2_c73, b9_3_c73, (Option.some.inj (show some _ = some _ from hFc58)), ec73_0, ec73_1, ec73_5, ec73_6, ec73_7, ec73_9, ec73_33, ec73_34, ec73_35, ((((hS.pull 3).pull 3).pull 3).pull 3)⟩
            rintro E w ⟨b9_2_c58, b9_3_c58, rfl, ec58_0, ec58_1, ec58_5, ec58_6, ec58_7, ec58_9, ec58_33, ec58_34, ec58_35, hS⟩
            exact x_inv ⟨b9_2_c58, b9_3_c58, (Option.some.inj (show some _ = some _ from hFc51)), ec58_0, ec58_1, ec58_5, ec58_6, ec58_7, ec58_9, ec58_33, ec58_34, ec58_35, ((((hS.pull 3).pull 3).pull 3).pull 3)⟩
        rintro E w ⟨b9_2_c51, b9_3_c51, rfl, ec51_0, ec51_1, ec51_5, ec51_6, ec51_7, ec51_9, ec51_33, ec51_34, ec51_35, hS⟩
        refine x_blk <|
          ?_
        replace hFL6 := lv_s hFL6; obtain ⟨z16_7, hz16_7, hFL6⟩ := hFL6
        replace hFL6 := ck_s hFL6; obtain ⟨hk16_7, hFL6⟩ := hFL6
        refine x_par (w0 := w0) [⟨[], [], [92], [], [], []⟩, ⟨[], [], [93], [], [], []⟩, ⟨[1], [1], [94], [], [], []⟩, ⟨[1, 2], [2], [95], [], [], []⟩, ⟨[1, 2, 3], [3], [96], [0], [], []⟩, ⟨[], [], [97], [1], [], []⟩, ⟨[5], [5], [98], [], [], [2]⟩, ⟨[1, 2, 3, 4, 5, 6], [4, 6], [99], [2, 4], [3], [5]⟩, ⟨[0, 1, 2, 3, 4, 5, 6, 7], [0], [100], [], [], []⟩, ⟨[0, 1, 2, 3, 4, 5, 6, 7, 8], [8], [101], [], [], []⟩, ⟨[0, 1, 2, 3, 4, 5, 6, 7, 8, 9], [7, 9], [], [], [0], [6]⟩] [⟨none, (some 10), []⟩, ⟨none, none, []⟩, ⟨(some 6), none, [98]⟩, ⟨none, (some 7), []⟩, ⟨none, none, []⟩, ⟨(some 7), none, [99]⟩, ⟨(some 10), none, [99]⟩] [92, 93, 94, 95, 96, 97, 98, 99, 100, 101] [0, 1, 3, 4] [1, 2, 4, 5, 6] [0, 1, 2, 3, 4, 5, 6, 7, 8, 9] [fun Ep16 => Ep16 92 = .pointer (some ⟨b_f0, 0, none⟩), fun Ep16 => Ep16 93 = .pointer (some ⟨b_f0, 0, none⟩), fun Ep16 => Ep16 94 = .pointer (some ⟨b_f0, 0, none⟩), fun Ep16 => Ep16 95 = .pointer (some ⟨b_f0, 5, none⟩), fun Ep16 => Ep16 96 = .slice A_b_f0_5_L6h b_f0_5_L6h.length c_b_f0_5_L6h, fun Ep16 => Ep16 97 = .agg #[.string y7_2.Name, .bool y7_2.Out, .int .i64 b9_2_c51, .int .i64 b9_3_c51], fun Ep16 => Ep16 98 = .slice (some ⟨(blkOf (Ep16 98)), 0, none⟩) 1 1, fun Ep16 => Ep16 99 = .slice (adOf (Ep16 99)) z16_7.length (capOf (Ep16 99)), fun Ep16 => Ep16 100 = .pointer (some ⟨b_f0, 0, none⟩), fun Ep16 => Ep16 101 = .pointer (some ⟨b_f0, 5, none⟩), fun Ep16 => True] [fun Ep16 => cells b_f0 55 [.int .i64 f0.Rows, .int .i64 f0.Sites, .int .i64 f0.Layers, .slice A_f0_3 f0.Blocks.length c_f0_3, .slice A_f0_4 f0.Walls.length c_f0_4, .slice A_b_f0_5_L6h b_f0_5_L6h.length c_b_f0_5_L6h], fun Ep16 => cells b9 64 [.string y7_2.Name, .bool y7_2.Out, .int .i64 b9_2_c51, .int .i64 b9_3_c51], fun Ep16 => cells (blkOf (Ep16 98)) 64 [.string y7_2.Name, .bool y7_2.Out, .int .i64 b9_2_c51, .int .i64 b9_3_c51], fun Ep16 => vec 64 R_floor_Port.sz (.slice A_b_f0_5_L6h b_f0_5_L6h.length c_b_f0_5_L6h) b_f0_5_L6h.length cs_b_f0_5_L6h, fun Ep16 => ro ρ, fun Ep16 => bunA (fun (cs99 : List Value) => RepL R_floor_Port ρ z16_7 cs99) (fun (cs99 : List Value) => [vec 64 R_floor_Port.sz (.slice (adOf (Ep16 99)) z16_7.length (capOf (Ep16 99))) z16_7.length cs99]), fun Ep16 => cells b_f0 55 [.int .i64 f0.Rows, .int .i64 f0.Sites, .int .i64 f0.Layers, .slice A_f0_3 f0.Blocks.length c_f0_3, .slice A_f0_4 f0.Walls.length c_f0_4, .slice (adOf (Ep16 99)) z16_7.length (capOf (Ep16 99))]] mixed (by kernel_rfl) ((((hS.pull 3).pull 3).pull 3).pull 3) ?_ ?_
        · refine ⟨?_, ?_, ?_, ?_, ?_, ?_, ?_, ?_, ?_, ?_, ?_, trivial⟩
          · intro Ep16 w l' hE16 hO16 hF_ hS
            refine p (yl_move ((hE16 0 rfl).trans ec51_0)) <| x_done <|
              ?_
            refine x_fin ⟨⟨_, rfl⟩, rfl, ?_⟩
            exact Eq.mp (by kernel_rfl) hS
          · intro Ep16 w l' hE16 hO16 hF_ hS
            refine p (yl_move ((hE16 0 rfl).trans ec51_0)) <| x_done <|
              ?_
            refine x_fin ⟨⟨_, rfl⟩, rfl, ?_⟩
            exact Eq.mp (by kernel_rfl) hS
          · intro Ep16 w l' hE16 hO16 hF_ hS
            obtain ⟨f16_1, -⟩ := hF_
            replace f16_1 : Ep16 93 = .pointer (some ⟨b_f0, 0, none⟩) := Eq.mp (by kernel_rfl) f16_1
            refine p (yl_nilCheck f16_1) <| x_done <|
              ?_
            refine x_fin ⟨⟨_, rfl⟩, rfl, ?_⟩
            exact Eq.mp (by kernel_rfl) hS
          · intro Ep16 w l' hE16 hO16 hF_ hS
            obtain ⟨f16_2, -⟩ := hF_
            replace f16_2 : Ep16 94 = .pointer (some ⟨b_f0, 0, none⟩) := Eq.mp (by kernel_rfl) f16_2
            refine p (yl_field0 fld_55_5 f16_2) <| x_done <|
              ?_
            refine x_fin ⟨⟨_, rfl⟩, rfl, ?_⟩
            exact Eq.mp (by kernel_rfl) hS
          · intro Ep16 w l' hE16 hO16 hF_ hS
            obtain ⟨f16_3, -⟩ := hF_
            replace f16_3 : Ep16 95 = .pointer (some ⟨b_f0, 5, none⟩) := Eq.mp (by kernel_rfl) f16_3
            replace hS : St w0 w (cells b_f0 55 [.int .i64 f0.Rows, .int .i64 f0.Sites, .int .i64 f0.Layers, .slice A_f0_3 f0.Blocks.length c_f0_3, .slice A_f0_4 f0.Walls.length c_f0_4, .slice A_b_f0_5_L6h b_f0_5_L6h.length c_b_f0_5_L6h] :: l') := Eq.mp (by kernel_rfl) hS
            refine pa (at_load one_53 f16_3 (hS.cell rfl)) <| x_done <|
              ?_
            refine x_fin ⟨⟨_, rfl⟩, rfl, ?_⟩
            exact Eq.mp (by kernel_rfl) hS
          · intro Ep16 w l' hE16 hO16 hF_ hS
            replace hS : St w0 w (cells b9 64 [.string y7_2.Name, .bool y7_2.Out, .int .i64 b9_2_c51, .int .i64 b9_3_c51] :: l') := Eq.mp (by kernel_rfl) hS
            refine pa (v := .agg #[.string y7_2.Name, .bool y7_2.Out, .int .i64 b9_2_c51, .int .i64 b9_3_c51]) (ld_sub agg_64 ((hE16 9 rfl).trans ec51_9) rfl rfl hS) <| x_done <|
              ?_
            refine x_fin ⟨⟨_, rfl⟩, rfl, ?_⟩
            exact Eq.mp (by kernel_rfl) hS
          · intro Ep16 w l' hE16 hO16 hF_ hS
            obtain ⟨f16_5, -⟩ := hF_
            replace f16_5 : Ep16 97 = .agg #[.string y7_2.Name, .bool y7_2.Out, .int .i64 b9_2_c51, .int .i64 b9_3_c51] := Eq.mp (by kernel_rfl) f16_5
            refine o_buildSlice (vs := [.agg #[.string y7_2.Name, .bool y7_2.Out, .int .i64 b9_2_c51, .int .i64 b9_3_c51]]) (cs := [.string y7_2.Name, .bool y7_2.Out, .int .i64 b9_2_c51, .int .i64 b9_3_c51]) sl_53 zero_64 (parts_eq (pt (va := .agg #[.string y7_2.Name, .bool y7_2.Out, .int .i64 b9_2_c51, .int .i64 b9_3_c51]) f16_5 pt0)) rfl (by intro v hv; simp only [List.mem_cons, List.not_mem_nil, or_false] at hv; first | (subst hv; rfl) | (rcases hv with rfl <;> rfl)) (by decide) rfl hS (fun b98 w' hS => ?_)
            refine x_done <|
              ?_
            refine x_fin ⟨⟨_, rfl⟩, rfl, ?_⟩
            exact Eq.mp (by kernel_rfl) hS
          · intro Ep16 w l' hE16 hO16 hF_ hS
            obtain ⟨f16_4, f16_6, -⟩ := hF_
            replace f16_4 : Ep16 96 = .slice A_b_f0_5_L6h b_f0_5_L6h.length c_b_f0_5_L6h := Eq.mp (by kernel_rfl) f16_4
            replace f16_6 : Ep16 98 = .slice (some ⟨(blkOf (Ep16 98)), 0, none⟩) 1 1 := Eq.mp (by kernel_rfl) f16_6
            replace hS : St w0 w (cells (blkOf (Ep16 98)) 64 [.string y7_2.Name, .bool y7_2.Out, .int .i64 b9_2_c51, .int .i64 b9_3_c51] :: ro ρ :: vec 64 R_floor_Port.sz (.slice A_b_f0_5_L6h b_f0_5_L6h.length c_b_f0_5_L6h) b_f0_5_L6h.length cs_b_f0_5_L6h :: l') := Eq.mp (by kernel_rfl) hS
            refine o_ap sl_53 zero_64 rfl (by decide) f16_4 f16_6 (hS.pull 2) h_b_f0_5_L6h (src_blk usl_53 hS rfl rfl) (RepL.cons (R := R_floor_Port) (ρ := ρ) (x := (T_floor_Port.mk y7_2.Name y7_2.Out b9_2_c51 b9_3_c51)) (cs := [.string y7_2.Name, .bool y7_2.Out, .int .i64 b9_2_c51, .int .i64 b9_3_c51]) rfl RepL.nil) hz16_7 hk16_7 (fun A99 c99 cs99 w' hr99 hS => ?_)
            refine x_done <|
              ?_
            refine x_fin ⟨⟨_, rfl⟩, rfl, ?_⟩
            replace hS := St.bun (Φ := (fun (cs99 : List Value) => RepL R_floor_Port ρ z16_7 cs99)) (L := (fun (cs99 : List Value) => [vec 64 R_floor_Port.sz (.slice A99 z16_7.length c99) z16_7.length cs99])) cs99 hr99 hS
            exact Eq.mp (by kernel_rfl) ((hS.pull 2).pull 2)
          · intro Ep16 w l' hE16 hO16 hF_ hS
            obtain ⟨f16_0, -⟩ := hF_
            replace f16_0 : Ep16 92 = .pointer (some ⟨b_f0, 0, none⟩) := Eq.mp (by kernel_rfl) f16_0
            refine p (yl_nilCheck f16_0) <| x_done <|
              ?_
            refine x_fin ⟨⟨_, rfl⟩, rfl, ?_⟩
            exact Eq.mp (by kernel_rfl) hS
          · intro Ep16 w l' hE16 hO16 hF_ hS
            obtain ⟨f16_8, -⟩ := hF_
            replace f16_8 : Ep16 100 = .pointer (some ⟨b_f0, 0, none⟩) := Eq.mp (by kernel_rfl) f16_8
            refine p (yl_field0 fld_55_5 f16_8) <| x_done <|
              ?_
            refine x_fin ⟨⟨_, rfl⟩, rfl, ?_⟩
            exact Eq.mp (by kernel_rfl) hS
          · intro Ep16 w l' hE16 hO16 hF_ hS
            obtain ⟨f16_7, f16_9, -⟩ := hF_
            replace f16_7 : Ep16 99 = .slice (adOf (Ep16 99)) z16_7.length (capOf (Ep16 99)) := Eq.mp (by kernel_rfl) f16_7
            replace f16_9 : Ep16 101 = .pointer (some ⟨b_f0, 5, none⟩) := Eq.mp (by kernel_rfl) f16_9
            replace hS : St w0 w (cells b_f0 55 [.int .i64 f0.Rows, .int .i64 f0.Sites, .int .i64 f0.Layers, .slice A_f0_3 f0.Blocks.length c_f0_3, .slice A_f0_4 f0.Walls.length c_f0_4, .slice A_b_f0_5_L6h b_f0_5_L6h.length c_b_f0_5_L6h] :: l') := Eq.mp (by kernel_rfl) hS
            refine o_store1 (v := .slice (adOf (Ep16 99)) z16_7.length (capOf (Ep16 99))) one_53 f16_9 f16_7 rfl rfl hS (fun w' hS => ?_)
            refine x_done <|
              ?_
            refine x_fin ⟨⟨undef, rfl⟩, trivial, ?_⟩
            exact Eq.mp (by kernel_rfl) hS
        intro Ep16 w' hE16 hF_ hS
        obtain ⟨f16_0, f16_1, f16_2, f16_3, f16_4, f16_5, f16_6, f16_7, f16_8, f16_9, -⟩ := hF_
        replace f16_0 : Ep16 92 = .pointer (some ⟨b_f0, 0, none⟩) := Eq.mp (by kernel_rfl) f16_0
        replace f16_1 : Ep16 93 = .pointer (some ⟨b_f0, 0, none⟩) := Eq.mp (by kernel_rfl) f16_1
        replace f16_2 : Ep16 94 = .pointer (some ⟨b_f0, 0, none⟩) := Eq.mp (by kernel_rfl) f16_2
        replace f16_3 : Ep16 95 = .pointer (some ⟨b_f0, 5, none⟩) := Eq.mp (by kernel_rfl) f16_3
        replace f16_4 : Ep16 96 = .slice A_b_f0_5_L6h b_f0_5_L6h.length c_b_f0_5_L6h := Eq.mp (by kernel_rfl) f16_4
        replace f16_5 : Ep16 97 = .agg #[.string y7_2.Name, .bool y7_2.Out, .int .i64 b9_2_c51, .int .i64 b9_3_c51] := Eq.mp (by kernel_rfl) f16_5
        replace f16_6 : Ep16 98 = .slice (some ⟨(blkOf (Ep16 98)), 0, none⟩) 1 1 := Eq.mp (by kernel_rfl) f16_6
        replace f16_7 : Ep16 99 = .slice (adOf (Ep16 99)) z16_7.length (capOf (Ep16 99)) := Eq.mp (by kernel_rfl) f16_7
        replace f16_8 : Ep16 100 = .pointer (some ⟨b_f0, 0, none⟩) := Eq.mp (by kernel_rfl) f16_8
        replace f16_9 : Ep16 101 = .pointer (some ⟨b_f0, 5, none⟩) := Eq.mp (by kernel_rfl) f16_9
        replace hS : St w0 w' (cells b9 64 [.string y7_2.Name, .bool y7_2.Out, .int .i64 b9_2_c51, .int .i64 b9_3_c51] :: cells (blkOf (Ep16 98)) 64 [.string y7_2.Name, .bool y7_2.Out, .int .i64 b9_2_c51, .int .i64 b9_3_c51] :: ro ρ :: bunA (fun (cs99 : List Value) => RepL R_floor_Port ρ z16_7 cs99) (fun (cs99 : List Value) => [vec 64 R_floor_Port.sz (.slice (adOf (Ep16 99)) z16_7.length (capOf (Ep16 99))) z16_7.length cs99]) :: cells b_f0 55 [.int .i64 f0.Rows, .int .i64 f0.Sites, .int .i64 f0.Layers, .slice A_f0_3 f0.Blocks.length c_f0_3, .slice A_f0_4 f0.Walls.length c_f0_4, .slice (adOf (Ep16 99)) z16_7.length (capOf (Ep16 99))] :: (l)) := Eq.mp (by kernel_rfl) hS
        have q_ := St.unbun (hS.pull 3); obtain ⟨cs99, hr99, hS⟩ := q_
        replace hFL6 := ar_s hFL6; obtain ⟨x102, hx102, hFL6⟩ := hFL6
        refine x_blk <| x_region <| p (yadd ((hE16 35 rfl).trans ec51_35) rfl hx102) <| p (yl_move rfl) <|
          x_done <|
          ?_
        have e_ := Option.some.inj (show some _ = some _ from hFL6); subst e_
        exact x_inv ⟨kL6, Nat.lt_succ_self _, (adOf (Ep16 99)), z16_7.length, (capOf (Ep16 99)), cs99, x102, z16_7, hLL6, ((hE16 0 rfl).trans ec51_0), ((hE16 1 rfl).trans ec51_1), ((hE16 5 rfl).trans ec51_5), ((hE16 6 rfl).trans ec51_6), ((hE16 7 rfl).trans ec51_7), ((hE16 33 rfl).trans ec51_33), ((hE16 34 rfl).trans ec51_34), rfl, hr99, (((((hS.pull 1).drop.pull 1).drop.pull 1).pull 1).pull 2)⟩
      · replace hFL6 := it_f hc36 hFL6
        refine x_exitTo _ rfl <|
          ?_
        have e_ := Option.some.inj (show some _ = some _ from hFL6); subst e_
        exact x_inv ⟨A_b_f0_5_L6h, b_f0_5_L6h.length, c_b_f0_5_L6h, cs_b_f0_5_L6h, b_f0_5_L6h, hLL6, h_b_f0_5_L6h, (((hS.pull 2).pull 2).pull 2)⟩
    rintro E w ⟨A_b_f0_5_L6, n_b_f0_5_L6, c_b_f0_5_L6, cs_b_f0_5_L6, b_f0_5_L6, rfl, h_b_f0_5_L6, hS⟩
    have e_ := St.vec_n (hS.pull 1) h_b_f0_5_L6; subst e_
    refine x_seq <| x_region <| p (yl_assign rfl) <| x_done <|
      ?_
    have e_ := Option.some.inj (show some _ = some _ from hF); subst e_
    exact x_return ⟨_, ⟨_, _, rfl, rfl, rfl⟩, A_b_f0_5_L6, b_f0_5_L6.length, c_b_f0_5_L6, cs_b_f0_5_L6, rfl, h_b_f0_5_L6, (((hS.pull 2).pull 2).pull 2)⟩
attribute [irreducible] P_floor_border_2

def P_floor_Plan_L8 (r7_2 : List Int) : (Int × Int) → Option ((Int × Int) ⊕ Int) := fun (need9_L8h, y37_L8h) =>
  if y37_L8h < (r7_2.length : Int) then
    ck (inb y37_L8h r7_2.length) <|
    lv (gt r7_2 y37_L8h) fun x40 =>
    ar (need9_L8h + x40) fun x43 =>
    ar (y37_L8h + 1) fun x44 =>
    some (Sum.inl (x43, x44))
  else
    some (Sum.inr need9_L8h)
def P_floor_Plan_L13 (l_1 : List T_api_Cell) : (Int × Int) → Option ((Int × Int) ⊕ Int) := fun (most10_L13h, y47_L13h) =>
  if y47_L13h < (l_1.length : Int) then
    ck (inb y47_L13h l_1.length) <|
    lv (gt l_1 y47_L13h) fun y14_1 =>
    lv (max most10_L13h y14_1.Area) fun x54 =>
    ar (y47_L13h + 1) fun x55 =>
    some (Sum.inl (x54, x55))
  else
    some (Sum.inr most10_L13h)
def P_floor_Plan_L19 (layers2 : Int) (need9_L8 : Int) (most10_L13 : Int) (r17_1 : List T_floor_Port) : Int → Option (Int ⊕ (Unit ⊕ (T_floor_Floor × Int))) := fun rows16_L19h =>
  if rows16_L19h ≤ 20 then
    bs (
      ar ((2 : Int) * rows16_L19h) fun x65 =>
      lv (max (max (4 : Int) most10_L13) x65) fun x66 =>
      lv (min (40 : Int) x66) fun x67 =>
      bd (
        if rows16_L19h = 20 then
          some (40 : Int)
        else
          some x67) fun b17_1_c71 =>
      ar (rows16_L19h * b17_1_c71) fun x77 =>
      ar ((2 : Int) * need9_L8) fun x79 =>
      ar (most10_L13 - 1) fun x83 =>
      ar (rows16_L19h * x83) fun x84 =>
      ar (need9_L8 + x84) fun x85 =>
      lv (max x79 x85) fun x86 =>
      if x77 < x86 then
        some (Sum.inl ())
      else
        bd (P_floor_border_2 (T_floor_Floor.mk rows16_L19h b17_1_c71 layers2 [] [] []) r17_1) fun r25_1 =>
        if r25_1.1 = true then
          some (Sum.inr ((T_floor_Floor.mk rows16_L19h b17_1_c71 layers2 [] [] r25_1.2), (0 : Int)))
        else
          some (Sum.inl ())) (fun y => some (Sum.inr (Sum.inr y))) fun _ =>
    ar (rows16_L19h + 1) fun x61 =>
    some (Sum.inl x61)
  else
    some (Sum.inr (Sum.inl ()))
def P_floor_Plan (n0 : T_api_Netlist) (l_1 : List T_api_Cell) (layers2 : Int) : Option (T_floor_Floor × Int) :=
  bd (P_floor_CheckChip n0 l_1) fun r1_2 =>
  if r1_2 ≠ 0 then
    some ((T_floor_Floor.mk 0 0 0 [] [] []), r1_2)
  else
    bd (P_floor_within layers2 2 6) fun r4_1 =>
    if (!r4_1) = true then
      some ((T_floor_Floor.mk 0 0 0 [] [] []), (2 : Int))
    else
      ar ((4 : Int) * (n0.Flops.length : Int)) fun x32 =>
      bd (P_floor_Areas n0 l_1) fun r7_2 =>
      bd (
        lp (P_floor_Plan_L8 r7_2) fuel (x32, 0)) fun need9_L8 =>
      bd (
        lp (P_floor_Plan_L13 l_1) fuel (1, 0)) fun most10_L13 =>
      bd (P_floor_Names n0) fun r17_1 =>
      bs (
        lp (P_floor_Plan_L19 layers2 need9_L8 most10_L13 r17_1) fuel 1) (fun y => some y) fun _ =>
      some ((T_floor_Floor.mk 0 0 0 [] [] []), (14 : Int))
set_option maxHeartbeats 4000000 in
set_option maxRecDepth 100000 in
theorem c_floor_Plan {w0 w : World} {l : List Assn} {ρ : Heap} {A_n0_0 : Option Addr} {n_n0_0 : Nat} {c_n0_0 : Nat} {A_n0_1 : Option Addr} {n_n0_1 : Nat} {c_n0_1 : Nat} {A_n0_2 : Option Addr} {n_n0_2 : Nat} {c_n0_2 : Nat} {A_n0_3 : Option Addr} {n_n0_3 : Nat} {c_n0_3 : Nat} {A_n0_4 : Option Addr} {n_n0_4 : Nat} {c_n0_4 : Nat} {A_l_1 : Option Addr} {n_l_1 : Nat} {c_l_1 : Nat} {n0 : T_api_Netlist} {l_1 : List T_api_Cell} {layers2 : Int} {r : (T_floor_Floor × Int)} (hF : P_floor_Plan n0 l_1 layers2 = some r) (h_n0_0 : RdS RpS ρ A_n0_0 n_n0_0 c_n0_0 n0.In) (h_n0_1 : RdS RpS ρ A_n0_1 n_n0_1 c_n0_1 n0.Out) (h_n0_2 : RdS R_api_Flop ρ A_n0_2 n_n0_2 c_n0_2 n0.Flops) (h_n0_3 : RdS R_api_Gate ρ A_n0_3 n_n0_3 c_n0_3 n0.Gates) (h_n0_4 : RdS (RpI .i64) ρ A_n0_4 n_n0_4 c_n0_4 n0.Outs) (h_l_1 : RdS R_api_Cell ρ A_l_1 n_l_1 c_l_1 l_1) (hS : St w0 w (ro ρ :: l)) :
    Calls Tryd.prog 22 #[.agg #[.slice A_n0_0 n_n0_0 c_n0_0, .slice A_n0_1 n_n0_1 c_n0_1, .slice A_n0_2 n_n0_2 c_n0_2, .slice A_n0_3 n_n0_3 c_n0_3, .slice A_n0_4 n_n0_4 c_n0_4], .slice A_l_1 n_l_1 c_l_1, .int .i64 layers2] w fun e w' => ∃ (A_y0_ret_3 : Option Addr) (n_y0_ret_3 : Nat) (c_y0_ret_3 : Nat) (cs_y0_ret_3 : List Value) (A_y0_ret_4 : Option Addr) (n_y0_ret_4 : Nat) (c_y0_ret_4 : Nat) (cs_y0_ret_4 : List Value) (A_y0_ret_5 : Option Addr) (n_y0_ret_5 : Nat) (c_y0_ret_5 : Nat) (cs_y0_ret_5 : List Value), e = .returned (.tuple #[.agg #[.int .i64 r.1.Rows, .int .i64 r.1.Sites, .int .i64 r.1.Layers, .slice A_y0_ret_3 n_y0_ret_3 c_y0_ret_3, .slice A_y0_ret_4 n_y0_ret_4 c_y0_ret_4, .slice A_y0_ret_5 n_y0_ret_5 c_y0_ret_5], .int .i64 r.2]) ∧ RepL R_floor_Block ρ r.1.Blocks cs_y0_ret_3 ∧ RepL R_floor_Wall ρ r.1.Walls cs_y0_ret_4 ∧ RepL R_floor_Port ρ r.1.Ports cs_y0_ret_5 ∧ St w0 w' (vec 158 R_floor_Block.sz (.slice A_y0_ret_3 n_y0_ret_3 c_y0_ret_3) n_y0_ret_3 cs_y0_ret_3 :: vec 160 R_floor_Wall.sz (.slice A_y0_ret_4 n_y0_ret_4 c_y0_ret_4) n_y0_ret_4 cs_y0_ret_4 :: vec 64 R_floor_Port.sz (.slice A_y0_ret_5 n_y0_ret_5 c_y0_ret_5) n_y0_ret_5 cs_y0_ret_5 :: ro ρ :: l) := by
  have e_ := h_n0_0.n; subst e_
  have e_ := h_n0_1.n; subst e_
  have e_ := h_n0_2.n; subst e_
  have e_ := h_n0_3.n; subst e_
  have e_ := h_n0_4.n; subst e_
  have e_ := h_l_1.n; subst e_
  refine enterC Tryd.func22 rfl 92 rfl (by simp) ?_
  refine x_seq <| x_region <|
    ?_
  refine o_box (cs := [.slice A_n0_0 n0.In.length c_n0_0, .slice A_n0_1 n0.Out.length c_n0_1, .slice A_n0_2 n0.Flops.length c_n0_2, .slice A_n0_3 n0.Gates.length c_n0_3, .slice A_n0_4 n0.Outs.length c_n0_4]) rfl rfl hS (fun b3 w' hS => ?_)
  refine o_alloc zero_55 hS (fun b6 w' hS => ?_)
  replace hF := bd_s hF; obtain ⟨r1_2, hc1_2, hF⟩ := hF
  refine p (yl_assign rfl) <| x_done <| x_seq <| x_seq <|
    x_region <| pa (v := .agg #[.slice A_n0_0 n0.In.length c_n0_0, .slice A_n0_1 n0.Out.length c_n0_1, .slice A_n0_2 n0.Flops.length c_n0_2, .slice A_n0_3 n0.Gates.length c_n0_3, .slice A_n0_4 n0.Outs.length c_n0_4]) (ld_sub agg_30 rfl rfl rfl (hS.pull 1)) <| p (yl_move rfl) <|
    ?_
  have hcall := c_floor_CheckChip hc1_2 h_n0_0 h_n0_1 h_n0_2 h_n0_3 h_n0_4 h_l_1 (hS.pull 2)
  refine o_cc call_57 (args2 rfl rfl) ((Calls.mono hcall (fun e w'' h => And.intro h.1 ((h.2.pull 2).pull 2)))) ?_
  rintro e w' ⟨rfl, hS⟩
  refine ⟨_, rfl, ?_⟩
  refine p (v := .int .i64 r1_2) (yl_assign rfl) <| x_done <| x_seq <| x_region <|
    p (v := .int .i64 r1_2) (yl_move rfl) <| p (yl_neq rfl rfl) <| x_done <|
    x_cond_p (r1_2 ≠ 0) rfl (fun hc22 => ?_) (fun hc22 => ?_)
  · replace hF := it_t hc22 hF
    refine x_seq <| x_region <| p (v := .agg #[.int .i64 0, .int .i64 0, .int .i64 0, .slice none 0 0, .slice none 0 0, .slice none 0 0]) (yl_build bld_55 bldf_55 (parts_eq pt0) (by kernel_rfl)) <| p (v := .int .i64 r1_2) (yl_move rfl) <|
      ?_
    refine o_storeAgg (news := [.int .i64 0, .int .i64 0, .int .i64 0, .slice none 0 0, .slice none 0 0, .slice none 0 0]) agg_55 rfl rfl rfl (by simp [over_length]) hS (fun w' hS => ?_)
    refine p (v := .int .i64 r1_2) (yl_assign rfl) <| x_done <|
      ?_
    replace hS := St.vec_nil hS 158 R_floor_Block.sz
    have hnil_A_y0_ret_3 : RepL R_floor_Block ρ [] [] := rfl
    replace hS := St.vec_nil hS 160 R_floor_Wall.sz
    have hnil_A_y0_ret_4 : RepL R_floor_Wall ρ [] [] := rfl
    replace hS := St.vec_nil hS 64 R_floor_Port.sz
    have hnil_A_y0_ret_5 : RepL R_floor_Port ρ [] [] := rfl
    have e_ := Option.some.inj (show some _ = some _ from hF); subst e_
    exact x_return ⟨_, ⟨_, _, _, rfl, rfl, ldvA agg_55 rfl (fun j v hj => by rw [add0]; exact St.cell (hS.pull 3) hj), _, _, rfl, rfl, rfl⟩, none, 0, 0, [], none, 0, 0, [], none, 0, 0, [], rfl, hnil_A_y0_ret_3, hnil_A_y0_ret_4, hnil_A_y0_ret_5, ((((((hS.pull 3).drop.pull 3).drop.pull 3).pull 1).pull 2).pull 3)⟩
  · replace hF := it_f hc22 hF
    replace hF := bd_s hF; obtain ⟨r4_1, hc4_1, hF⟩ := hF
    refine x_skip <| x_seq <| x_seq <| x_region <|
      p (yl_move rfl) <|
      ?_
    have hcall := c_floor_within hc4_1  (hS.pull 2)
    refine o_cc call_69 (args3 rfl rfl rfl) ((Calls.mono hcall (fun e w'' h => And.intro h.1 ((h.2.pull 2).pull 2)))) ?_
    rintro e w' ⟨rfl, hS⟩
    refine ⟨_, rfl, ?_⟩
    refine p (yl_not rfl) <| x_done <|
      x_cond (t := !r4_1) rfl (fun hc27 => ?_) (fun hc27 => ?_)
    · replace hF := it_t hc27 hF
      refine x_seq <| x_region <| p (v := .agg #[.int .i64 0, .int .i64 0, .int .i64 0, .slice none 0 0, .slice none 0 0, .slice none 0 0]) (yl_build bld_55 bldf_55 (parts_eq pt0) (by kernel_rfl)) <|
        ?_
      refine o_storeAgg (news := [.int .i64 0, .int .i64 0, .int .i64 0, .slice none 0 0, .slice none 0 0, .slice none 0 0]) agg_55 rfl rfl rfl (by simp [over_length]) hS (fun w' hS => ?_)
      refine p (yl_assign rfl) <| x_done <|
        ?_
      replace hS := St.vec_nil hS 158 R_floor_Block.sz
      have hnil_A_y0_ret_3 : RepL R_floor_Block ρ [] [] := rfl
      replace hS := St.vec_nil hS 160 R_floor_Wall.sz
      have hnil_A_y0_ret_4 : RepL R_floor_Wall ρ [] [] := rfl
      replace hS := St.vec_nil hS 64 R_floor_Port.sz
      have hnil_A_y0_ret_5 : RepL R_floor_Port ρ [] [] := rfl
      have e_ := Option.some.inj (show some _ = some _ from hF); subst e_
      exact x_return ⟨_, ⟨_, _, _, rfl, rfl, ldvA agg_55 rfl (fun j v hj => by rw [add0]; exact St.cell (hS.pull 3) hj), _, _, rfl, rfl, rfl⟩, none, 0, 0, [], none, 0, 0, [], none, 0, 0, [], rfl, hnil_A_y0_ret_3, hnil_A_y0_ret_4, hnil_A_y0_ret_5, ((((((hS.pull 3).drop.pull 3).drop.pull 3).pull 1).pull 2).pull 3)⟩
    · replace hF := it_bf hc27 hF
      replace hF := ar_s hF; obtain ⟨x32, hx32, hF⟩ := hF
      replace hF := bd_s hF; obtain ⟨r7_2, hc7_2, hF⟩ := hF
      refine x_skip <| x_seq <| x_region <| p (yl_field0 fld_30_2 rfl) <|
        pa (at_load one_27 rfl ((hS.pull 1).cell rfl)) <| p (yl_len_slice usl_27 rfl) <| p (ymul rfl rfl hx32) <| p (yl_assign rfl) <|
        p (yl_assign rfl) <| x_done <| x_seq <| x_seq <|
        x_region <| pa (v := .agg #[.slice A_n0_0 n0.In.length c_n0_0, .slice A_n0_1 n0.Out.length c_n0_1, .slice A_n0_2 n0.Flops.length c_n0_2, .slice A_n0_3 n0.Gates.length c_n0_3, .slice A_n0_4 n0.Outs.length c_n0_4]) (ld_sub agg_30 rfl rfl rfl (hS.pull 1)) <| p (yl_move rfl) <|
        ?_
      have hcall := c_floor_Areas hc7_2 h_n0_0 h_n0_1 h_n0_2 h_n0_3 h_n0_4 h_l_1 (hS.pull 2)
      refine o_cc call_25 (args2 rfl rfl) hcall ?_
      rintro e w' ⟨A_y0_ret_7_2, n_y0_ret_7_2, c_y0_ret_7_2, cs_y0_ret_7_2, rfl, h_y0_ret_7_2, hS⟩
      refine ⟨_, rfl, ?_⟩
      have e_ := St.vec_n hS h_y0_ret_7_2; subst e_
      refine p (yl_len_slice usl_22 rfl) <| p (yl_move rfl) <| x_done <|
        ?_
      replace hF := bd_s hF; obtain ⟨oL8, hLL8, hF⟩ := hF
      refine x_join (fun E w => ∃ (need9_L8 : Int), need9_L8 = oL8 ∧ E 1 = .slice A_l_1 l_1.length c_l_1 ∧ E 2 = .int .i64 layers2 ∧ E 3 = .pointer (some ⟨b3, 0, none⟩) ∧ E 6 = .pointer (some ⟨b6, 0, none⟩) ∧ E 9 = .int .i64 need9_L8 ∧ E 10 = .int .i64 1 ∧ St w0 w (cells b3 30 [.slice A_n0_0 n0.In.length c_n0_0, .slice A_n0_1 n0.Out.length c_n0_1, .slice A_n0_2 n0.Flops.length c_n0_2, .slice A_n0_3 n0.Gates.length c_n0_3, .slice A_n0_4 n0.Outs.length c_n0_4] :: cells b6 55 [.int .i64 0, .int .i64 0, .int .i64 0, .slice none 0 0, .slice none 0 0, .slice none 0 0] :: ro ρ :: l)) ?_ ?_
      · skip -- L8
        refine x_block ?_
        refine x_loop (fun k_ E w => ∃ (need9_L8h : Int) (y37_L8h : Int), lp (P_floor_Plan_L8 r7_2) k_ (need9_L8h, y37_L8h) = some oL8 ∧ E 1 = .slice A_l_1 l_1.length c_l_1 ∧ E 2 = .int .i64 layers2 ∧ E 3 = .pointer (some ⟨b3, 0, none⟩) ∧ E 6 = .pointer (some ⟨b6, 0, none⟩) ∧ E 9 = .int .i64 need9_L8h ∧ E 10 = .int .i64 1 ∧ E 35 = .slice A_y0_ret_7_2 r7_2.length c_y0_ret_7_2 ∧ E 36 = .int .i64 (r7_2.length : Int) ∧ E 37 = .int .i64 y37_L8h ∧ St w0 w (cells b3 30 [.slice A_n0_0 n0.In.length c_n0_0, .slice A_n0_1 n0.Out.length c_n0_1, .slice A_n0_2 n0.Flops.length c_n0_2, .slice A_n0_3 n0.Gates.length c_n0_3, .slice A_n0_4 n0.Outs.length c_n0_4] :: cells b6 55 [.int .i64 0, .int .i64 0, .int .i64 0, .slice none 0 0, .slice none 0 0, .slice none 0 0] :: vec 3 (RpI .i64).sz (.slice A_y0_ret_7_2 r7_2.length c_y0_ret_7_2) r7_2.length cs_y0_ret_7_2 :: ro ρ :: l)) fuel ⟨x32, 0, hLL8, rfl, rfl, rfl, rfl, rfl, rfl, rfl, rfl, rfl, ((((hS.pull 1).pull 1).pull 2).pull 3)⟩ ?_
        rintro kL8 E w ⟨need9_L8h, y37_L8h, hLL8, eL8h_1, eL8h_2, eL8h_3, eL8h_6, eL8h_9, eL8h_10, eL8h_35, eL8h_36, eL8h_37, hS⟩
        replace hLL8 := lp_s hLL8; obtain ⟨kL8, obL8, rfl, hFL8, hLL8⟩ := hLL8
        refine x_seq <| x_region <| p (yl_lss eL8h_37 eL8h_36) <| x_done <|
          x_seq <|
          x_cond_p (y37_L8h < (r7_2.length : Int)) rfl (fun hc38 => ?_) (fun hc38 => ?_)
        · replace hFL8 := it_t hc38 hFL8
          replace hFL8 := ck_s hFL8; obtain ⟨hk9_0, hFL8⟩ := hFL8
          replace hFL8 := lv_s hFL8; obtain ⟨x40, hx40, hFL8⟩ := hFL8
          replace hFL8 := ar_s hFL8; obtain ⟨x43, hx43, hFL8⟩ := hFL8
          replace hFL8 := ar_s hFL8; obtain ⟨x44, hx44, hFL8⟩ := hFL8
          refine x_skip <| x_seq <| x_block <| x_seq <|
            x_region <| p (yix_o sl_22 eL8h_35 eL8h_37 (hS.pull 2) h_y0_ret_7_2 hk9_0) <| pa (at_load one_3 rfl (RepL.getW h_y0_ret_7_2 (hS.pull 2) hk9_0 hx40)) <| p (yl_assign rfl) <|
            x_done <| x_region <| p (yl_move eL8h_9) <| p (yl_move rfl) <|
            p (yadd rfl rfl hx43) <| p (yl_assign rfl) <| x_done <| x_blk <|
            x_region <| p (yadd eL8h_37 rfl hx44) <| p (yl_move rfl) <| x_done <|
            ?_
          have e_ := Option.some.inj (show some _ = some _ from hFL8); subst e_
          exact x_inv ⟨kL8, Nat.lt_succ_self _, x43, x44, hLL8, eL8h_1, eL8h_2, eL8h_3, eL8h_6, rfl, eL8h_10, eL8h_35, eL8h_36, rfl, ((((hS.pull 3).pull 3).pull 3).pull 3)⟩
        · replace hFL8 := it_f hc38 hFL8
          refine x_exitTo _ rfl <|
            ?_
          have e_ := Option.some.inj (show some _ = some _ from hFL8); subst e_
          exact x_inv ⟨need9_L8h, hLL8, eL8h_1, eL8h_2, eL8h_3, eL8h_6, eL8h_9, eL8h_10, ((((hS.pull 2).drop.pull 2).pull 2).pull 2)⟩
      rintro E w ⟨need9_L8, rfl, eL8_1, eL8_2, eL8_3, eL8_6, eL8_9, eL8_10, hS⟩
      refine x_seq <| x_seq <| x_region <| p (yl_move eL8_1) <|
        p (yl_len_slice usl_31 rfl) <| p (yl_move rfl) <| x_done <|
        ?_
      replace hF := bd_s hF; obtain ⟨oL13, hLL13, hF⟩ := hF
      refine x_join (fun E w => ∃ (most10_L13 : Int), most10_L13 = oL13 ∧ E 2 = .int .i64 layers2 ∧ E 3 = .pointer (some ⟨b3, 0, none⟩) ∧ E 6 = .pointer (some ⟨b6, 0, none⟩) ∧ E 9 = .int .i64 need9_L8 ∧ E 10 = .int .i64 most10_L13 ∧ St w0 w (cells b3 30 [.slice A_n0_0 n0.In.length c_n0_0, .slice A_n0_1 n0.Out.length c_n0_1, .slice A_n0_2 n0.Flops.length c_n0_2, .slice A_n0_3 n0.Gates.length c_n0_3, .slice A_n0_4 n0.Outs.length c_n0_4] :: cells b6 55 [.int .i64 0, .int .i64 0, .int .i64 0, .slice none 0 0, .slice none 0 0, .slice none 0 0] :: ro ρ :: l)) ?_ ?_
      · skip -- L13
        refine x_block ?_
        refine x_loop (fun k_ E w => ∃ (most10_L13h : Int) (y47_L13h : Int), lp (P_floor_Plan_L13 l_1) k_ (most10_L13h, y47_L13h) = some oL13 ∧ E 2 = .int .i64 layers2 ∧ E 3 = .pointer (some ⟨b3, 0, none⟩) ∧ E 6 = .pointer (some ⟨b6, 0, none⟩) ∧ E 9 = .int .i64 need9_L8 ∧ E 10 = .int .i64 most10_L13h ∧ E 45 = .slice A_l_1 l_1.length c_l_1 ∧ E 46 = .int .i64 (l_1.length : Int) ∧ E 47 = .int .i64 y47_L13h ∧ St w0 w (cells b3 30 [.slice A_n0_0 n0.In.length c_n0_0, .slice A_n0_1 n0.Out.length c_n0_1, .slice A_n0_2 n0.Flops.length c_n0_2, .slice A_n0_3 n0.Gates.length c_n0_3, .slice A_n0_4 n0.Outs.length c_n0_4] :: cells b6 55 [.int .i64 0, .int .i64 0, .int .i64 0, .slice none 0 0, .slice none 0 0, .slice none 0 0] :: ro ρ :: l)) fuel ⟨1, 0, hLL13, eL8_2, eL8_3, eL8_6, eL8_9, eL8_10, rfl, rfl, rfl, (((hS.pull 2).pull 2).pull 2)⟩ ?_
        rintro kL13 E w ⟨most10_L13h, y47_L13h, hLL13, eL13h_2, eL13h_3, eL13h_6, eL13h_9, eL13h_10, eL13h_45, eL13h_46, eL13h_47, hS⟩
        replace hLL13 := lp_s hLL13; obtain ⟨kL13, obL13, rfl, hFL13, hLL13⟩ := hLL13
        refine x_seq <| x_region <| p (yl_lss eL13h_47 eL13h_46) <| x_done <|
          x_seq <|
          x_cond_p (y47_L13h < (l_1.length : Int)) rfl (fun hc48 => ?_) (fun hc48 => ?_)
        · replace hFL13 := it_t hc48 hFL13
          replace hFL13 := ck_s hFL13; obtain ⟨hk14_0, hFL13⟩ := hFL13
          replace hFL13 := lv_s hFL13; obtain ⟨y14_1, hy14_1, hFL13⟩ := hFL13
          have q_ := h_l_1.get hk14_0; obtain ⟨el14_1, ek14_1, ee14_1⟩ := q_
          rw [← hy14_1] at ek14_1
          obtain ⟨A14_1_5, n14_1_5, c14_1_5, A14_1_6, n14_1_6, c14_1_6, A14_1_7, n14_1_7, c14_1_7, rfl, f14_1_5, f14_1_6, f14_1_7⟩ := ek14_1
          have e_ := f14_1_5.n; subst e_
          have e_ := f14_1_6.n; subst e_
          have e_ := f14_1_7.n; subst e_
          refine x_skip <| x_seq <| x_block <| x_seq <|
            x_region <| p (yix_f sl_31 eL13h_45 eL13h_47 h_l_1 hk14_0) <| pa (v := .agg #[.string y14_1.Name, .bool y14_1.Flop, .int .i64 y14_1.Ins, .int .u64 y14_1.Table, .int .i64 y14_1.Area, .slice A14_1_5 y14_1.Cap.length c14_1_5, .slice A14_1_6 y14_1.Min.length c14_1_6, .slice A14_1_7 y14_1.Max.length c14_1_7, .int .i64 y14_1.Drive, .int .i64 y14_1.Setup, .int .i64 y14_1.Hold]) (at_loadAgg agg_61 rfl rfl (Elt.every ee14_1 (hS.pull 2))) <|
            ?_
          refine o_alloc zero_61 hS (fun b14 w' hS => ?_)
          refine o_storeAgg (news := [.string y14_1.Name, .bool y14_1.Flop, .int .i64 y14_1.Ins, .int .u64 y14_1.Table, .int .i64 y14_1.Area, .slice A14_1_5 y14_1.Cap.length c14_1_5, .slice A14_1_6 y14_1.Min.length c14_1_6, .slice A14_1_7 y14_1.Max.length c14_1_7, .int .i64 y14_1.Drive, .int .i64 y14_1.Setup, .int .i64 y14_1.Hold]) agg_61 rfl rfl rfl (by simp [over_length]) hS (fun w' hS => ?_)
          replace hFL13 := lv_s hFL13; obtain ⟨x54, hx54, hFL13⟩ := hFL13
          replace hFL13 := ar_s hFL13; obtain ⟨x55, hx55, hFL13⟩ := hFL13
          refine x_done <| x_region <| p (yl_move eL13h_10) <| p (yl_field0 fld_61_4 rfl) <|
            pa (at_load one_3 rfl (hS.cell rfl)) <| p (ymax' rfl rfl hx54) <| p (yl_assign rfl) <| x_done <|
            x_blk <| x_region <| p (yadd eL13h_47 rfl hx55) <| p (yl_move rfl) <|
            x_done <|
            ?_
          have e_ := Option.some.inj (show some _ = some _ from hFL13); subst e_
          exact x_inv ⟨kL13, Nat.lt_succ_self _, x54, x55, hLL13, eL13h_2, eL13h_3, eL13h_6, eL13h_9, rfl, eL13h_45, eL13h_46, rfl, (((hS.drop.pull 2).pull 2).pull 2)⟩
        · replace hFL13 := it_f hc48 hFL13
          refine x_exitTo _ rfl <|
            ?_
          have e_ := Option.some.inj (show some _ = some _ from hFL13); subst e_
          exact x_inv ⟨most10_L13h, hLL13, eL13h_2, eL13h_3, eL13h_6, eL13h_9, eL13h_10, (((hS.pull 2).pull 2).pull 2)⟩
      rintro E w ⟨most10_L13, rfl, eL13_2, eL13_3, eL13_6, eL13_9, eL13_10, hS⟩
      replace hF := bd_s hF; obtain ⟨r17_1, hc17_1, hF⟩ := hF
      refine x_seq <| x_region <| pa (v := .agg #[.slice A_n0_0 n0.In.length c_n0_0, .slice A_n0_1 n0.Out.length c_n0_1, .slice A_n0_2 n0.Flops.length c_n0_2, .slice A_n0_3 n0.Gates.length c_n0_3, .slice A_n0_4 n0.Outs.length c_n0_4]) (ld_sub agg_30 eL13_3 rfl rfl hS) <|
        ?_
      have hcall := c_floor_Names hc17_1 h_n0_0 h_n0_1 h_n0_2 h_n0_3 h_n0_4 (hS.pull 2)
      refine o_cc call_26 (args1 rfl) hcall ?_
      rintro e w' ⟨A_y0_ret_17_1, n_y0_ret_17_1, c_y0_ret_17_1, cs_y0_ret_17_1, rfl, h_y0_ret_17_1, hS⟩
      refine ⟨_, rfl, ?_⟩
      have e_ := St.vec_n hS h_y0_ret_17_1; subst e_
      refine p (yl_assign rfl) <| x_done <| x_seq <| x_seq <|
        x_region <| p (yl_assign rfl) <| x_done <|
        ?_
      replace hF := bs_s hF; obtain ⟨oL19, hLL19, hF⟩ := hF
      refine x_join (fun E w => (Sum.inl (())) = oL19 ∧ E 6 = .pointer (some ⟨b6, 0, none⟩) ∧ St w0 w (cells b6 55 [.int .i64 0, .int .i64 0, .int .i64 0, .slice none 0 0, .slice none 0 0, .slice none 0 0] :: ro ρ :: l)) ?_ ?_
      · skip -- L19
        refine x_block ?_
        refine x_loop (fun k_ E w => ∃ (rows16_L19h : Int), lp (P_floor_Plan_L19 layers2 need9_L8 most10_L13 r17_1) k_ rows16_L19h = some oL19 ∧ E 2 = .int .i64 layers2 ∧ E 6 = .pointer (some ⟨b6, 0, none⟩) ∧ E 9 = .int .i64 need9_L8 ∧ E 10 = .int .i64 most10_L13 ∧ E 15 = .slice A_y0_ret_17_1 r17_1.length c_y0_ret_17_1 ∧ E 16 = .int .i64 rows16_L19h ∧ St w0 w (cells b6 55 [.int .i64 0, .int .i64 0, .int .i64 0, .slice none 0 0, .slice none 0 0, .slice none 0 0] :: vec 64 R_floor_Port.sz (.slice A_y0_ret_17_1 r17_1.length c_y0_ret_17_1) r17_1.length cs_y0_ret_17_1 :: ro ρ :: l)) fuel ⟨1, hLL19, eL13_2, eL13_6, eL13_9, eL13_10, rfl, rfl, ((((hS.pull 2).drop.pull 1).pull 1).pull 2)⟩ ?_
        rintro kL19 E w ⟨rows16_L19h, hLL19, eL19h_2, eL19h_6, eL19h_9, eL19h_10, eL19h_15, eL19h_16, hS⟩
        replace hLL19 := lp_s hLL19; obtain ⟨kL19, obL19, rfl, hFL19, hLL19⟩ := hLL19
        refine x_seq <| x_seq <| x_region <| p (yl_move eL19h_16) <|
          p (yl_leq rfl rfl) <| x_done <|
          x_cond_p (rows16_L19h ≤ 20) rfl (fun hc59 => ?_) (fun hc59 => ?_)
        · replace hFL19 := it_t hc59 hFL19
          refine x_skip <| x_seq <|
            ?_
          replace hFL19 := bs_s hFL19; obtain ⟨ob5, hFb5, hFL19⟩ := hFL19
          refine x_join (fun E w => (Sum.inl (())) = ob5 ∧ E 2 = .int .i64 layers2 ∧ E 6 = .pointer (some ⟨b6, 0, none⟩) ∧ E 9 = .int .i64 need9_L8 ∧ E 10 = .int .i64 most10_L13 ∧ E 15 = .slice A_y0_ret_17_1 r17_1.length c_y0_ret_17_1 ∧ E 16 = .int .i64 rows16_L19h ∧ St w0 w (cells b6 55 [.int .i64 0, .int .i64 0, .int .i64 0, .slice none 0 0, .slice none 0 0, .slice none 0 0] :: vec 64 R_floor_Port.sz (.slice A_y0_ret_17_1 r17_1.length c_y0_ret_17_1) r17_1.length cs_y0_ret_17_1 :: ro ρ :: l)) ?_ ?_
          · skip -- b5
            replace hFb5 := ar_s hFb5; obtain ⟨x65, hx65, hFb5⟩ := hFb5
            replace hFb5 := lv_s hFb5; obtain ⟨x66, hx66, hFb5⟩ := hFb5
            replace hFb5 := lv_s hFb5; obtain ⟨x67, hx67, hFb5⟩ := hFb5
            refine x_block <| x_seq <| x_region <| p (yl_move eL19h_16) <|
              p (yl_move eL19h_10) <| p (yl_move eL19h_16) <| p (ymul rfl rfl hx65) <| p (ymax3 rfl rfl rfl hx66) <|
              p (ymin' rfl rfl hx67) <| p (yl_move eL19h_2) <| p (v := .agg #[.int .i64 rows16_L19h, .int .i64 x67, .int .i64 layers2, .slice none 0 0, .slice none 0 0, .slice none 0 0]) (yl_build bld_55 bldf_55 (parts_eq (pt (va := .int .i64 rows16_L19h) rfl (pt (va := .int .i64 x67) rfl (pt (va := .int .i64 layers2) rfl pt0)))) (by kernel_rfl)) <|
              ?_
            refine o_alloc zero_55 hS (fun b17 w' hS => ?_)
            refine o_storeAgg (news := [.int .i64 rows16_L19h, .int .i64 x67, .int .i64 layers2, .slice none 0 0, .slice none 0 0, .slice none 0 0]) agg_55 rfl rfl rfl (by simp [over_length]) hS (fun w' hS => ?_)
            refine x_done <| x_seq <| x_seq <| x_region <|
              p (yl_move eL19h_16) <| p (yl_eql rfl rfl) <| x_done <|
              ?_
            replace hFb5 := bd_s hFb5; obtain ⟨oc71, hFc71, hFb5⟩ := hFb5
            refine x_join (fun E w => ∃ (b17_1_c71 : Int), b17_1_c71 = oc71 ∧ E 2 = .int .i64 layers2 ∧ E 6 = .pointer (some ⟨b6, 0, none⟩) ∧ E 9 = .int .i64 need9_L8 ∧ E 10 = .int .i64 most10_L13 ∧ E 15 = .slice A_y0_ret_17_1 r17_1.length c_y0_ret_17_1 ∧ E 16 = .int .i64 rows16_L19h ∧ E 17 = .pointer (some ⟨b17, 0, none⟩) ∧ St w0 w (cells b6 55 [.int .i64 0, .int .i64 0, .int .i64 0, .slice none 0 0, .slice none 0 0, .slice none 0 0] :: vec 64 R_floor_Port.sz (.slice A_y0_ret_17_1 r17_1.length c_y0_ret_17_1) r17_1.length cs_y0_ret_17_1 :: cells b17 55 [.int .i64 rows16_L19h, .int .i64 b17_1_c71, .int .i64 layers2, .slice none 0 0, .slice none 0 0, .slice none 0 0] :: ro ρ :: l)) ?_ ?_
            · skip -- c71
              refine x_cond_p (rows16_L19h = 20) rfl (fun hc71 => ?_) (fun hc71 => ?_)
              · replace hFc71 := it_t hc71 hFc71
                refine x_region <| p (yl_field0 fld_55_1 rfl) <|
                  ?_
                refine o_store1 (v := .int .i64 40) one_3 rfl rfl rfl rfl hS (fun w' hS => ?_)
                refine x_done <|
                  ?_
                exact x_inv ⟨40, (Option.some.inj (show some _ = some _ from hFc71)), eL19h_2, eL19h_6, eL19h_9, eL19h_10, eL19h_15, eL19h_16, rfl, ((((hS.pull 3).pull 1).pull 3).pull 3)⟩
              · replace hFc71 := it_f hc71 hFc71
                refine x_skip <|
                  ?_
                exact x_inv ⟨x67, (Option.some.inj (show some _ = some _ from hFc71)), eL19h_2, eL19h_6, eL19h_9, eL19h_10, eL19h_15, eL19h_16, rfl, ((((hS.pull 3).pull 1).pull 3).pull 3)⟩
            rintro E w ⟨b17_1_c71, rfl, ec71_2, ec71_6, ec71_9, ec71_10, ec71_15, ec71_16, ec71_17, hS⟩
            replace hFb5 := ar_s hFb5; obtain ⟨x77, hx77, hFb5⟩ := hFb5
            replace hFb5 := ar_s hFb5; obtain ⟨x79, hx79, hFb5⟩ := hFb5
            replace hFb5 := ar_s hFb5; obtain ⟨x83, hx83, hFb5⟩ := hFb5
            replace hFb5 := ar_s hFb5; obtain ⟨x84, hx84, hFb5⟩ := hFb5
            replace hFb5 := ar_s hFb5; obtain ⟨x85, hx85, hFb5⟩ := hFb5
            replace hFb5 := lv_s hFb5; obtain ⟨x86, hx86, hFb5⟩ := hFb5
            refine x_seq <| x_seq <| x_region <| p (yl_field0 fld_55_0 ec71_17) <|
              pa (at_load one_3 rfl ((hS.pull 2).cell rfl)) <| p (yl_field0 fld_55_1 ec71_17) <| pa (at_load one_3 rfl ((hS.pull 2).cell rfl)) <| p (ymul rfl rfl hx77) <|
              p (yl_move ec71_9) <| p (ymul rfl rfl hx79) <| p (yl_move ec71_9) <| p (yl_move ec71_16) <|
              p (yl_move ec71_10) <| p (ysub rfl rfl hx83) <| p (ymul rfl rfl hx84) <| p (yadd rfl rfl hx85) <|
              p (ymax' rfl rfl hx86) <| p (yl_lss rfl rfl) <| x_done <|
              x_cond_p (x77 < x86) rfl (fun hc87 => ?_) (fun hc87 => ?_)
            · replace hFb5 := it_t hc87 hFb5
              refine x_exitTo _ rfl <|
                ?_
              exact x_inv ⟨(Option.some.inj (show some _ = some _ from hFb5)), ec71_2, ec71_6, ec71_9, ec71_10, ec71_15, ec71_16, ((((hS.pull 2).drop.pull 2).pull 2).pull 2)⟩
            · replace hFb5 := it_f hc87 hFb5
              replace hFb5 := bd_s hFb5; obtain ⟨r25_1, hc25_1, hFb5⟩ := hFb5
              refine x_skip <| x_seq <| x_region <| p (yl_move ec71_15) <|
                ?_
              replace hS := St.vec_nil hS 64 R_floor_Port.sz
              have hnl25_1 : RepL R_floor_Port ρ [] [] := rfl
              have q_ := St.lend ((hS.pull 4).pull 3) h_y0_ret_17_1; obtain ⟨ρl0, hll0, hlf0, hS0, back0⟩ := q_
              have hcall := c_floor_border_2 hc25_1 (RdS.nil (A := none) (c := 0)) (RdS.nil (A := none) (c := 0)) (hnl25_1.le hll0) hlf0 ((hS0.pull 1).pull 3)
              refine o_cc call_70 (args2 ec71_17 rfl) hcall ?_
              rintro e w' ⟨A_b_f0_5_ret_25_1, n_b_f0_5_ret_25_1, c_b_f0_5_ret_25_1, cs_b_f0_5_ret_25_1, rfl, h_b_f0_5_ret_25_1, hS⟩
              refine ⟨_, rfl, ?_⟩
              replace hS := back0 (hS.pull 2)
              replace h_b_f0_5_ret_25_1 : RepL R_floor_Port ρ r25_1.2 cs_b_f0_5_ret_25_1 := RepL.flat (fun h => h) h_b_f0_5_ret_25_1
              have e_ := St.vec_n (hS.pull 3) h_b_f0_5_ret_25_1; subst e_
              refine x_done <|
                x_cond (t := r25_1.1) rfl (fun hc89 => ?_) (fun hc89 => ?_)
              · replace hFb5 := it_t hc89 hFb5
                refine x_seq <| x_region <| pa (v := .agg #[.int .i64 rows16_L19h, .int .i64 b17_1_c71, .int .i64 layers2, .slice none 0 0, .slice none 0 0, .slice A_b_f0_5_ret_25_1 r25_1.2.length c_b_f0_5_ret_25_1]) (ld_sub agg_55 ec71_17 rfl rfl (hS.pull 2)) <|
                  ?_
                refine o_storeAgg (news := [.int .i64 rows16_L19h, .int .i64 b17_1_c71, .int .i64 layers2, .slice none 0 0, .slice none 0 0, .slice A_b_f0_5_ret_25_1 r25_1.2.length c_b_f0_5_ret_25_1]) agg_55 ec71_6 rfl rfl (by simp [over_length]) (hS.pull 4) (fun w' hS => ?_)
                refine p (yl_assign rfl) <| x_done <|
                  ?_
                replace hS := St.vec_nil hS 158 R_floor_Block.sz
                have hnil_A_y0_ret_3 : RepL R_floor_Block ρ [] [] := rfl
                replace hS := St.vec_nil hS 160 R_floor_Wall.sz
                have hnil_A_y0_ret_4 : RepL R_floor_Wall ρ [] [] := rfl
                have e_ := Option.some.inj (show some _ = some _ from hFb5); subst e_
                have e_ := Option.some.inj (show some _ = some _ from hFL19); subst e_
                have e_ := (show _ = oL19 from hLL19); subst e_
                have e_ := Option.some.inj (show some _ = some _ from hF); subst e_
                exact x_return ⟨_, ⟨_, _, _, rfl, ec71_6, ldvA agg_55 rfl (fun j v hj => by rw [add0]; exact St.cell (hS.pull 2) hj), _, _, rfl, rfl, rfl⟩, none, 0, 0, [], none, 0, 0, [], A_b_f0_5_ret_25_1, r25_1.2.length, c_b_f0_5_ret_25_1, cs_b_f0_5_ret_25_1, rfl, hnil_A_y0_ret_3, hnil_A_y0_ret_4, h_b_f0_5_ret_25_1, (((((((hS.pull 2).drop.pull 2).drop.pull 3).drop.pull 2).pull 3).pull 2).pull 3)⟩
              · replace hFb5 := it_bf hc89 hFb5
                refine x_skip <| x_blk <|
                  ?_
                exact x_inv ⟨(Option.some.inj (show some _ = some _ from hFb5)), ec71_2, ec71_6, ec71_9, ec71_10, ec71_15, ec71_16, (((((hS.pull 2).drop.pull 2).drop.pull 1).pull 1).pull 2)⟩
          rintro E w ⟨rfl, eb5_2, eb5_6, eb5_9, eb5_10, eb5_15, eb5_16, hS⟩
          replace hFL19 := ar_s hFL19; obtain ⟨x61, hx61, hFL19⟩ := hFL19
          refine x_region <| p (yl_move eb5_16) <| p (yadd rfl rfl hx61) <| p (yl_assign rfl) <|
            x_done <|
            ?_
          have e_ := Option.some.inj (show some _ = some _ from hFL19); subst e_
          exact x_inv ⟨kL19, Nat.lt_succ_self _, x61, hLL19, eb5_2, eb5_6, eb5_9, eb5_10, eb5_15, rfl, (((hS.pull 2).pull 2).pull 2)⟩
        · replace hFL19 := it_f hc59 hFL19
          refine x_exitTo _ rfl <|
            ?_
          have e_ := Option.some.inj (show some _ = some _ from hFL19); subst e_
          exact x_inv ⟨hLL19, eL19h_6, (((hS.pull 1).drop.pull 1).pull 1)⟩
      rintro E w ⟨rfl, eL19_6, hS⟩
      refine x_seq <| x_region <| p (v := .agg #[.int .i64 0, .int .i64 0, .int .i64 0, .slice none 0 0, .slice none 0 0, .slice none 0 0]) (yl_build bld_55 bldf_55 (parts_eq pt0) (by kernel_rfl)) <|
        ?_
      refine o_storeAgg (news := [.int .i64 0, .int .i64 0, .int .i64 0, .slice none 0 0, .slice none 0 0, .slice none 0 0]) agg_55 eL19_6 rfl rfl (by simp [over_length]) hS (fun w' hS => ?_)
      refine p (yl_assign rfl) <| x_done <|
        ?_
      replace hS := St.vec_nil hS 158 R_floor_Block.sz
      have hnil_A_y0_ret_3 : RepL R_floor_Block ρ [] [] := rfl
      replace hS := St.vec_nil hS 160 R_floor_Wall.sz
      have hnil_A_y0_ret_4 : RepL R_floor_Wall ρ [] [] := rfl
      replace hS := St.vec_nil hS 64 R_floor_Port.sz
      have hnil_A_y0_ret_5 : RepL R_floor_Port ρ [] [] := rfl
      have e_ := Option.some.inj (show some _ = some _ from hF); subst e_
      exact x_return ⟨_, ⟨_, _, _, rfl, eL19_6, ldvA agg_55 rfl (fun j v hj => by rw [add0]; exact St.cell (hS.pull 3) hj), _, _, rfl, rfl, rfl⟩, none, 0, 0, [], none, 0, 0, [], none, 0, 0, [], rfl, hnil_A_y0_ret_3, hnil_A_y0_ret_4, hnil_A_y0_ret_5, (((((hS.pull 3).drop.pull 3).pull 1).pull 2).pull 3)⟩
attribute [irreducible] P_floor_Plan


end Go.Proofs.YtclhfemcinibmaaDoor.X
