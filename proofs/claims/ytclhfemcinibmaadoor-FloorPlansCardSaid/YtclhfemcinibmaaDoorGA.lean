/- Printed by gen.py: plain functions, and that the Go code computes them. -/
import Derived.Test.YtclhfemcinibmaaDoorYJ
import Derived.Test.YtclhfemcinibmaaDoorXT
import Derived.Test.YtclhfemcinibmaaDoorXI
import Derived.Test.YtclhfemcinibmaaDoorGAp0
import Derived.Test.YtclhfemcinibmaaDoorGAp1
namespace Go.Proofs.YtclhfemcinibmaaDoor.X
open Go Go.RowKit
set_option linter.unusedVariables false
set_option linter.unusedSimpArgs false

def P_floor_validName_L2 (s0 : ByteArray) : Int → Option (Int ⊕ (Unit ⊕ Bool)) := fun y6_L2h =>
  if y6_L2h < (s0.size : Int) then
    ck (inb y6_L2h s0.size) <|
    lv (byteAt s0 y6_L2h) fun x11 =>
    ck ((!(decide (x11 < 33))) = true → inb y6_L2h s0.size) <|
    lv (byteAt s0 y6_L2h) fun x16 =>
    lv ((decide (x11 < 33)) || (decide (126 < x16))) fun x18 =>
    if x18 = true then
      some (Sum.inr (Sum.inr false))
    else
      ar (y6_L2h + 1) fun x19 =>
      some (Sum.inl x19)
  else
    some (Sum.inr (Sum.inl ()))
def P_floor_validName (s0 : ByteArray) : Option Bool :=
  bs (
    lp (P_floor_validName_L2 s0) fuel 0) (fun y => some y) fun _ =>
  some (decide ((s0.size : Int) ≤ 128))
set_option maxHeartbeats 4000000 in
set_option maxRecDepth 100000 in
theorem c_floor_validName {w0 w : World} {l : List Assn} {ρ : Heap} {s0 : ByteArray} {r : Bool} (hF : P_floor_validName s0 = some r) (hS : St w0 w (ro ρ :: l)) :
    Calls Tryd.prog 130 #[.string s0] w fun e w' => e = .returned (.bool r) ∧ St w0 w' (ro ρ :: l) := by
  refine enterC Tryd.func130 rfl 23 rfl (by simp) ?_
  refine x_seq <| x_region <| p (yl_assign rfl) <| x_done <|
    x_seq <| x_seq <| x_region <| p (yl_move rfl) <|
    p (yl_len_string us_9 rfl) <| p (yl_move rfl) <| x_done <|
    ?_
  replace hF := bs_s hF; obtain ⟨oL2, hLL2, hF⟩ := hF
  refine x_join (fun E w => (Sum.inl (())) = oL2 ∧ E 0 = .string s0 ∧ St w0 w (ro ρ :: l)) ?_ ?_
  · skip -- L2
    refine x_block ?_
    refine x_loop (fun k_ E w => ∃ (y6_L2h : Int), lp (P_floor_validName_L2 s0) k_ y6_L2h = some oL2 ∧ E 0 = .string s0 ∧ E 5 = .int .i64 (s0.size : Int) ∧ E 6 = .int .i64 y6_L2h ∧ St w0 w (ro ρ :: l)) fuel ⟨0, hLL2, rfl, rfl, rfl, hS⟩ ?_
    rintro kL2 E w ⟨y6_L2h, hLL2, eL2h_0, eL2h_5, eL2h_6, hS⟩
    replace hLL2 := lp_s hLL2; obtain ⟨kL2, obL2, rfl, hFL2, hLL2⟩ := hLL2
    refine x_seq <| x_region <| p (yl_lss eL2h_6 eL2h_5) <| x_done <|
      x_seq <|
      x_cond_p (y6_L2h < (s0.size : Int)) rfl (fun hc7 => ?_) (fun hc7 => ?_)
    · replace hFL2 := it_t hc7 hFL2
      replace hFL2 := ck_s hFL2; obtain ⟨hk4_2, hFL2⟩ := hFL2
      replace hFL2 := lv_s hFL2; obtain ⟨x11, hx11, hFL2⟩ := hFL2
      replace hFL2 := ck_s hFL2; obtain ⟨hk4_7, hFL2⟩ := hFL2
      replace hFL2 := lv_s hFL2; obtain ⟨x16, hx16, hFL2⟩ := hFL2
      replace hFL2 := lv_s hFL2; obtain ⟨x18, hx18, hFL2⟩ := hFL2
      refine x_skip <| x_seq <| x_block <| x_seq <|
        x_region <| p (yl_move eL2h_6) <| p (yl_assign rfl) <| x_done <|
        x_seq <| x_region <| p (yl_move eL2h_0) <| p (yl_move rfl) <|
        p (ystr us_9 rfl rfl hk4_2 hx11) <| p (yl_lss rfl rfl) <| p (yl_move rfl) <| pg (v := .string s0) 13 (c := !(decide (x11 < 33))) (says_f _) (fun hq => Yl.at (yl_move eL2h_0)) <|
        pg (v := .int .i64 y6_L2h) 13 (c := !(decide (x11 < 33))) (says_f _) (fun hq => Yl.at (yl_move rfl)) <| pg (v := .int .u8 x16) 13 (c := !(decide (x11 < 33))) (says_f _) (fun hq => Yl.at (ystr us_9 (cv hq) (cv hq) (hk4_7 hq) hx16)) <| pg (v := .bool (decide (126 < x16))) 13 (c := !(decide (x11 < 33))) (says_f _) (fun hq => Yl.at (yl_gtr (cv hq) rfl)) <| p (yor' rfl rfl (fun hc => (cv (t_not hc))) hx18) <|
        x_done <|
        x_cond (t := x18) rfl (fun hc18 => ?_) (fun hc18 => ?_)
      · replace hFL2 := it_t hc18 hFL2
        refine x_seq <| x_region <| p (yl_assign rfl) <| x_done <|
          ?_
        have e_ := Option.some.inj (show some _ = some _ from hFL2); subst e_
        have e_ := (show _ = oL2 from hLL2); subst e_
        have e_ := Option.some.inj (show some _ = some _ from hF); subst e_
        exact x_return ⟨_, ⟨_, _, rfl, rfl, rfl⟩, rfl, hS⟩
      · replace hFL2 := it_bf hc18 hFL2
        replace hFL2 := ar_s hFL2; obtain ⟨x19, hx19, hFL2⟩ := hFL2
        refine x_skip <| x_blk <| x_region <| p (yadd eL2h_6 rfl hx19) <|
          p (yl_move rfl) <| x_done <|
          ?_
        have e_ := Option.some.inj (show some _ = some _ from hFL2); subst e_
        exact x_inv ⟨kL2, Nat.lt_succ_self _, x19, hLL2, eL2h_0, eL2h_5, rfl, hS⟩
    · replace hFL2 := it_f hc7 hFL2
      refine x_exitTo _ rfl <|
        ?_
      have e_ := Option.some.inj (show some _ = some _ from hFL2); subst e_
      exact x_inv ⟨hLL2, eL2h_0, hS⟩
  rintro E w ⟨rfl, eL2_0, hS⟩
  refine x_seq <| x_region <| p (yl_move eL2_0) <| p (yl_len_string us_9 rfl) <|
    p (yl_leq rfl rfl) <| p (yl_assign rfl) <| x_done <|
    ?_
  have e_ := Option.some.inj (show some _ = some _ from hF); subst e_
  exact x_return ⟨_, ⟨_, _, rfl, rfl, rfl⟩, rfl, hS⟩
attribute [irreducible] P_floor_validName

def P_floor_checkPort_L10 (y1_4 : T_floor_Port) (x77 : List T_floor_Port) : Int → Option (Int ⊕ (Unit ⊕ Int)) := fun y79_L10h =>
  if y79_L10h < (x77.length : Int) then
    ck (inb y79_L10h x77.length) <|
    lv (gt x77 y79_L10h) fun y11_1 =>
    lv ((decide (y11_1.Name = y1_4.Name)) && (y11_1.Out == y1_4.Out)) fun x94 =>
    if x94 = true then
      some (Sum.inr (Sum.inr (6 : Int)))
    else
      ar (y1_4.X - y11_1.X) fun x99 =>
      ar (y11_1.X - y1_4.X) fun x104 =>
      ar (y1_4.Y - y11_1.Y) fun x109 =>
      ar (y11_1.Y - y1_4.Y) fun x114 =>
      lv (max (max (max x99 x104) x109) x114) fun x115 =>
      if x115 < 2 then
        some (Sum.inr (Sum.inr (15 : Int)))
      else
        ar (y79_L10h + 1) fun x117 =>
        some (Sum.inl x117)
  else
    some (Sum.inr (Sum.inl ()))
def P_floor_checkPort_L18 (f0 : T_floor_Floor) (y1_4 : T_floor_Port) : Int → Option (Int ⊕ (Unit ⊕ Int)) := fun y121_L18h =>
  if y121_L18h < (f0.Walls.length : Int) then
    ck (inb y121_L18h f0.Walls.length) <|
    lv (gt f0.Walls y121_L18h) fun y19_1 =>
    bd (gd (decide (y19_1.Layer = 0)) (P_floor_within y1_4.X y19_1.X0 y19_1.X1)) fun r20_10 =>
    lv ((decide (y19_1.Layer = 0)) && r20_10) fun x136 =>
    bd (gd (x136) (P_floor_within y1_4.Y y19_1.Y0 y19_1.Y1)) fun r20_19 =>
    lv (x136 && r20_19) fun x145 =>
    if x145 = true then
      some (Sum.inr (Sum.inr (15 : Int)))
    else
      ar (y121_L18h + 1) fun x146 =>
      some (Sum.inl x146)
  else
    some (Sum.inr (Sum.inl ()))
def P_floor_checkPort (f0 : T_floor_Floor) (i1 : Int) : Option Int :=
  ck (inb i1 f0.Ports.length) <|
  lv (gt f0.Ports i1) fun y1_4 =>
  bd (P_floor_Size f0) fun r2_1 =>
  bd (P_floor_validName y1_4.Name) fun r3_2 =>
  if (!r3_2) = true then
    some (9 : Int)
  else
    lv ((decide (y1_4.Name = (⟨#[]⟩ : ByteArray))) && y1_4.Out) fun x34 =>
    if x34 = true then
      some (4 : Int)
    else
      ar (r2_1.1 - 1) fun x39 =>
      bd (P_floor_within y1_4.X 0 x39) fun r7_4 =>
      ck ((!(!r7_4)) = true → I64 (r2_1.2 - 1)) <|
      lv (r2_1.2 - 1) fun x46 =>
      bd (gd (!(!r7_4)) (P_floor_within y1_4.Y 0 x46)) fun r7_11 =>
      lv ((!r7_4) || (!r7_11)) fun x49 =>
      ck (((!x49) && (decide (0 < y1_4.X))) = true → I64 (r2_1.1 - 1)) <|
      lv (r2_1.1 - 1) fun x58 =>
      lv ((decide (0 < y1_4.X)) && (decide (y1_4.X < x58))) fun x60 =>
      lv (x60 && (decide (0 < y1_4.Y))) fun x65 =>
      ck (((!x49) && x65) = true → I64 (r2_1.2 - 1)) <|
      lv (r2_1.2 - 1) fun x70 =>
      lv (x65 && (decide (y1_4.Y < x70))) fun x72 =>
      lv (x49 || x72) fun x73 =>
      if x73 = true then
        some (2 : Int)
      else
        ck (0 ≤ (0 : Int) ∧ (0 : Int) ≤ i1 ∧ i1 ≤ f0.Ports.length) <|
        lv (sub f0.Ports 0 i1) fun x77 =>
        bs (
          lp (P_floor_checkPort_L10 y1_4 x77) fuel 0) (fun y => some y) fun _ =>
        bs (
          lp (P_floor_checkPort_L18 f0 y1_4) fuel 0) (fun y => some y) fun _ =>
        some (0 : Int)
set_option maxHeartbeats 4000000 in
set_option maxRecDepth 100000 in
theorem c_floor_checkPort {w0 w : World} {l : List Assn} {ρ : Heap} {A_f0_3 : Option Addr} {n_f0_3 : Nat} {c_f0_3 : Nat} {A_f0_4 : Option Addr} {n_f0_4 : Nat} {c_f0_4 : Nat} {A_f0_5 : Option Addr} {n_f0_5 : Nat} {c_f0_5 : Nat} {f0 : T_floor_Floor} {i1 : Int} {r : Int} (hF : P_floor_checkPort f0 i1 = some r) (h_f0_3 : RdS R_floor_Block ρ A_f0_3 n_f0_3 c_f0_3 f0.Blocks) (h_f0_4 : RdS R_floor_Wall ρ A_f0_4 n_f0_4 c_f0_4 f0.Walls) (h_f0_5 : RdS R_floor_Port ρ A_f0_5 n_f0_5 c_f0_5 f0.Ports) (hS : St w0 w (ro ρ :: l)) :
    Calls Tryd.prog 71 #[.agg #[.int .i64 f0.Rows, .int .i64 f0.Sites, .int .i64 f0.Layers, .slice A_f0_3 n_f0_3 c_f0_3, .slice A_f0_4 n_f0_4 c_f0_4, .slice A_f0_5 n_f0_5 c_f0_5], .int .i64 i1] w fun e w' => e = .returned (.int .i64 r) ∧ St w0 w' (ro ρ :: l) := by
  have e_ := h_f0_3.n; subst e_
  have e_ := h_f0_4.n; subst e_
  have e_ := h_f0_5.n; subst e_
  refine enterC Tryd.func71 rfl 147 rfl (by simp) ?_
  refine x_seq <| x_region <|
    ?_
  refine o_box (cs := [.int .i64 f0.Rows, .int .i64 f0.Sites, .int .i64 f0.Layers, .slice A_f0_3 f0.Blocks.length c_f0_3, .slice A_f0_4 f0.Walls.length c_f0_4, .slice A_f0_5 f0.Ports.length c_f0_5]) rfl rfl hS (fun b2 w' hS => ?_)
  replace hF := ck_s hF; obtain ⟨hk1_3, hF⟩ := hF
  replace hF := lv_s hF; obtain ⟨y1_4, hy1_4, hF⟩ := hF
  have q_ := h_f0_5.get hk1_3; obtain ⟨el1_4, ek1_4, ee1_4⟩ := q_
  rw [← hy1_4] at ek1_4
  have e_ := ek1_4; subst e_
  refine p (yl_assign rfl) <| x_done <| x_seq <| x_region <|
    p (yl_field0 fld_55_5 rfl) <| pa (at_load one_53 rfl (hS.cell rfl)) <| p (yl_move rfl) <| p (yix_f sl_53 rfl rfl h_f0_5 hk1_3) <|
    pa (v := .agg #[.string y1_4.Name, .bool y1_4.Out, .int .i64 y1_4.X, .int .i64 y1_4.Y]) (at_loadAgg agg_64 rfl rfl (Elt.every ee1_4 (hS.pull 1))) <|
    ?_
  refine o_alloc zero_64 hS (fun b5 w' hS => ?_)
  refine o_storeAgg (news := [.string y1_4.Name, .bool y1_4.Out, .int .i64 y1_4.X, .int .i64 y1_4.Y]) agg_64 rfl rfl rfl (by simp [over_length]) hS (fun w' hS => ?_)
  replace hF := bd_s hF; obtain ⟨r2_1, hc2_1, hF⟩ := hF
  refine x_done <| x_seq <| x_region <| pa (v := .agg #[.int .i64 f0.Rows, .int .i64 f0.Sites, .int .i64 f0.Layers, .slice A_f0_3 f0.Blocks.length c_f0_3, .slice A_f0_4 f0.Walls.length c_f0_4, .slice A_f0_5 f0.Ports.length c_f0_5]) (ld_sub agg_55 rfl rfl rfl (hS.pull 1)) <|
    ?_
  have hcall := c_floor_Size hc2_1 h_f0_3 h_f0_4 h_f0_5 (hS.pull 2)
  refine o_cc call_35 (args1 rfl) ((Calls.mono hcall (fun e w'' h => And.intro h.1 ((h.2.pull 2).pull 2)))) ?_
  rintro e w' ⟨rfl, hS⟩
  refine ⟨_, rfl, ?_⟩
  replace hF := bd_s hF; obtain ⟨r3_2, hc3_2, hF⟩ := hF
  refine p (v := .tuple #[.int .i64 r2_1.1, .int .i64 r2_1.2]) (yl_move rfl) <| p (yl_extract rfl rfl) <| p (yl_extract rfl rfl) <| p (yl_assign rfl) <|
    p (yl_assign rfl) <| x_done <| x_seq <| x_block <|
    x_seq <| x_region <| p (yl_field0 fld_64_0 rfl) <| pa (at_load one_9 rfl (hS.cell rfl)) <|
    ?_
  have hcall := c_floor_validName hc3_2  (hS.pull 2)
  refine o_cc call_130 (args1 rfl) ((Calls.mono hcall (fun e w'' h => And.intro h.1 ((h.2.pull 2).pull 2)))) ?_
  rintro e w' ⟨rfl, hS⟩
  refine ⟨_, rfl, ?_⟩
  refine p (yl_not rfl) <| p (yl_assign rfl) <| x_done <|
    x_cond (t := !r3_2) rfl (fun hc22 => ?_) (fun hc22 => ?_)
  · replace hF := it_t hc22 hF
    refine x_seq <| x_region <| p (yl_assign rfl) <| x_done <|
      ?_
    have e_ := Option.some.inj (show some _ = some _ from hF); subst e_
    exact x_return ⟨_, ⟨_, _, rfl, rfl, rfl⟩, rfl, hS.drop.drop⟩
  · replace hF := it_bf hc22 hF
    replace hF := lv_s hF; obtain ⟨x34, hx34, hF⟩ := hF
    refine x_seq <| x_region <| p (yl_field0 fld_64_0 rfl) <| pa (at_load one_9 rfl (hS.cell rfl)) <|
      p (yl_eql_string rfl rfl) <| p (yl_move rfl) <| pg (v := .pointer (some ⟨b5, 1, none⟩)) 31 (c := decide (y1_4.Name = (⟨#[]⟩ : ByteArray))) (says_t _) (fun hq => Yl.at (yl_field0 fld_64_1 rfl)) <| pg (v := .bool y1_4.Out) 31 (c := decide (y1_4.Name = (⟨#[]⟩ : ByteArray))) (says_t _) (fun hq => at_load one_4 (cv hq) (hS.cell rfl)) <|
      p (yand' rfl (fun hc => (cv hc)) rfl hx34) <| p (yl_assign rfl) <| x_done <|
      x_cond (t := x34) rfl (fun hc27 => ?_) (fun hc27 => ?_)
    · replace hF := it_t hc27 hF
      refine x_seq <| x_region <| p (yl_assign rfl) <| x_done <|
        ?_
      have e_ := Option.some.inj (show some _ = some _ from hF); subst e_
      exact x_return ⟨_, ⟨_, _, rfl, rfl, rfl⟩, rfl, hS.drop.drop⟩
    · replace hF := it_bf hc27 hF
      replace hF := ar_s hF; obtain ⟨x39, hx39, hF⟩ := hF
      replace hF := bd_s hF; obtain ⟨r7_4, hc7_4, hF⟩ := hF
      refine x_seq <| x_region <| p (yl_field0 fld_64_2 rfl) <| pa (at_load one_3 rfl (hS.cell rfl)) <|
        p (yl_move rfl) <| p (ysub rfl rfl hx39) <|
        ?_
      have hcall := c_floor_within hc7_4  (hS.pull 2)
      refine o_cc call_69 (args3 rfl rfl rfl) ((Calls.mono hcall (fun e w'' h => And.intro h.1 ((h.2.pull 2).pull 2)))) ?_
      rintro e w' ⟨rfl, hS⟩
      refine ⟨_, rfl, ?_⟩
      replace hF := ck_s hF; obtain ⟨hk7_10, hF⟩ := hF
      replace hF := lv_s hF; obtain ⟨x46, hx46, hF⟩ := hF
      replace hF := bd_s hF; obtain ⟨r7_11, hc7_11, hF⟩ := hF
      refine p (yl_not rfl) <| p (yl_move rfl) <| pg (v := .pointer (some ⟨b5, 3, none⟩)) 42 (c := !(!r7_4)) (says_f _) (fun hq => Yl.at (yl_field0 fld_64_3 rfl)) <| pg (v := .int .i64 y1_4.Y) 42 (c := !(!r7_4)) (says_f _) (fun hq => at_load one_3 (cv hq) (hS.cell rfl)) <|
        pg (v := .int .i64 r2_1.2) 42 (c := !(!r7_4)) (says_f _) (fun hq => Yl.at (yl_move rfl)) <| pg (v := .int .i64 x46) 42 (c := !(!r7_4)) (says_f _) (fun hq => Yl.at (ysub (cv hq) rfl ⟨hx46, (hk7_10 hq)⟩)) <|
        pccg (v := .bool r7_11) 42 (c := !(!r7_4)) (says_f _) call_69 (fun hq => (args3 (cv hq) rfl (cv hq))) hS (fun hq => by
          have hcall := c_floor_within (gd_t hc7_11 hq)  (hS.pull 2)
          exact (Calls.mono hcall (fun e w'' h => And.intro h.1 ((h.2.pull 2).pull 2)))) (fun w' hS => ?_)
      replace hF := lv_s hF; obtain ⟨x49, hx49, hF⟩ := hF
      replace hF := ck_s hF; obtain ⟨hk7_22, hF⟩ := hF
      replace hF := lv_s hF; obtain ⟨x58, hx58, hF⟩ := hF
      replace hF := lv_s hF; obtain ⟨x60, hx60, hF⟩ := hF
      replace hF := lv_s hF; obtain ⟨x65, hx65, hF⟩ := hF
      replace hF := ck_s hF; obtain ⟨hk7_34, hF⟩ := hF
      replace hF := lv_s hF; obtain ⟨x70, hx70, hF⟩ := hF
      replace hF := lv_s hF; obtain ⟨x72, hx72, hF⟩ := hF
      replace hF := lv_s hF; obtain ⟨x73, hx73, hF⟩ := hF
      refine pg (v := .bool (!r7_11)) 42 (c := !(!r7_4)) (says_f _) (fun hq => Yl.at (yl_not (cv hq))) <| p (yor' rfl rfl (fun hc => (cv (t_not hc))) hx49) <| p (yl_move rfl) <| pg (v := .pointer (some ⟨b5, 2, none⟩)) 50 (c := !x49) (says_f _) (fun hq => Yl.at (yl_field0 fld_64_2 rfl)) <|
        pg (v := .int .i64 y1_4.X) 50 (c := !x49) (says_f _) (fun hq => at_load one_3 (cv hq) (hS.cell rfl)) <| pg (v := .bool (decide (0 < y1_4.X))) 50 (c := !x49) (says_f _) (fun hq => Yl.at (yl_gtr (cv hq) rfl)) <| pg (v := .bool (decide (0 < y1_4.X))) 50 (c := !x49) (says_f _) (fun hq => Yl.at (yl_move (cv hq))) <| pg (v := .pointer (some ⟨b5, 2, none⟩)) 54 (c := (!x49) && (decide (0 < y1_4.X))) (says_ift _ _) (fun hq => Yl.at (yl_field0 fld_64_2 rfl)) <|
        pg (v := .int .i64 y1_4.X) 54 (c := (!x49) && (decide (0 < y1_4.X))) (says_ift _ _) (fun hq => at_load one_3 (cv hq) (hS.cell rfl)) <| pg (v := .int .i64 r2_1.1) 54 (c := (!x49) && (decide (0 < y1_4.X))) (says_ift _ _) (fun hq => Yl.at (yl_move rfl)) <| pg (v := .int .i64 x58) 54 (c := (!x49) && (decide (0 < y1_4.X))) (says_ift _ _) (fun hq => Yl.at (ysub (cv hq) rfl ⟨hx58, (hk7_22 hq)⟩)) <| pg (v := .bool (decide (y1_4.X < x58))) 54 (c := (!x49) && (decide (0 < y1_4.X))) (says_ift _ _) (fun hq => Yl.at (yl_lss (cv hq) (cv hq))) <|
        pg (v := .bool x60) 50 (c := !x49) (says_f _) (fun hq => Yl.at (yand' (cv hq) (fun hc => (cv (and_i hq hc))) rfl hx60)) <| pg (v := .bool x60) 50 (c := !x49) (says_f _) (fun hq => Yl.at (yl_move (cv hq))) <| pg (v := .pointer (some ⟨b5, 3, none⟩)) 61 (c := (!x49) && x60) (says_ift _ _) (fun hq => Yl.at (yl_field0 fld_64_3 rfl)) <| pg (v := .int .i64 y1_4.Y) 61 (c := (!x49) && x60) (says_ift _ _) (fun hq => at_load one_3 (cv hq) (hS.cell rfl)) <|
        pg (v := .bool (decide (0 < y1_4.Y))) 61 (c := (!x49) && x60) (says_ift _ _) (fun hq => Yl.at (yl_gtr (cv hq) rfl)) <| pg (v := .bool x65) 50 (c := !x49) (says_f _) (fun hq => Yl.at (yand' (cv hq) (fun hc => (cv (and_i hq hc))) rfl hx65)) <| pg (v := .bool x65) 50 (c := !x49) (says_f _) (fun hq => Yl.at (yl_move (cv hq))) <| pg (v := .pointer (some ⟨b5, 3, none⟩)) 66 (c := (!x49) && x65) (says_ift _ _) (fun hq => Yl.at (yl_field0 fld_64_3 rfl)) <|
        pg (v := .int .i64 y1_4.Y) 66 (c := (!x49) && x65) (says_ift _ _) (fun hq => at_load one_3 (cv hq) (hS.cell rfl)) <| pg (v := .int .i64 r2_1.2) 66 (c := (!x49) && x65) (says_ift _ _) (fun hq => Yl.at (yl_move rfl)) <| pg (v := .int .i64 x70) 66 (c := (!x49) && x65) (says_ift _ _) (fun hq => Yl.at (ysub (cv hq) rfl ⟨hx70, (hk7_34 hq)⟩)) <| pg (v := .bool (decide (y1_4.Y < x70))) 66 (c := (!x49) && x65) (says_ift _ _) (fun hq => Yl.at (yl_lss (cv hq) (cv hq))) <|
        pg (v := .bool x72) 50 (c := !x49) (says_f _) (fun hq => Yl.at (yand' (cv hq) (fun hc => (cv (and_i hq hc))) rfl hx72)) <| p (yor' rfl rfl (fun hc => (cv (t_not hc))) hx73) <| p (yl_assign rfl) <| x_done <|
        x_cond (t := x73) rfl (fun hc35 => ?_) (fun hc35 => ?_)
      · replace hF := it_t hc35 hF
        refine x_seq <| x_region <| p (yl_assign rfl) <| x_done <|
          ?_
        have e_ := Option.some.inj (show some _ = some _ from hF); subst e_
        exact x_return ⟨_, ⟨_, _, rfl, rfl, rfl⟩, rfl, hS.drop.drop⟩
      · replace hF := it_bf hc35 hF
        replace hF := ck_s hF; obtain ⟨hk9_3, hF⟩ := hF
        replace hF := lv_s hF; obtain ⟨x77, hx77, hF⟩ := hF
        refine x_skip <| x_blk <| x_seq <| x_seq <|
          x_region <| p (yl_field0 fld_55_5 rfl) <| pa (at_load one_53 rfl ((hS.pull 1).cell rfl)) <| p (yl_move rfl) <|
          ?_
        have q_ := RdS.sub h_f0_5 hk9_3 hx77; obtain ⟨A77, n77, c77, hd77, f77⟩ := q_
        refine p (ysub_h sl_53 rfl rfl hk9_3 hd77) <|
          ?_
        have e_ := f77.n; subst e_
        refine p (yl_len_slice usl_53 rfl) <| p (yl_move rfl) <| x_done <|
          ?_
        replace hF := bs_s hF; obtain ⟨oL10, hLL10, hF⟩ := hF
        refine x_join (fun E w => (Sum.inl (())) = oL10 ∧ E 2 = .pointer (some ⟨b2, 0, none⟩) ∧ E 5 = .pointer (some ⟨b5, 0, none⟩) ∧ St w0 w (cells b2 55 [.int .i64 f0.Rows, .int .i64 f0.Sites, .int .i64 f0.Layers, .slice A_f0_3 f0.Blocks.length c_f0_3, .slice A_f0_4 f0.Walls.length c_f0_4, .slice A_f0_5 f0.Ports.length c_f0_5] :: cells b5 64 [.string y1_4.Name, .bool y1_4.Out, .int .i64 y1_4.X, .int .i64 y1_4.Y] :: ro ρ :: l)) ?_ ?_
        · skip -- L10
          refine x_block ?_
          refine x_loop (fun k_ E w => ∃ (y79_L10h : Int), lp (P_floor_checkPort_L10 y1_4 x77) k_ y79_L10h = some oL10 ∧ E 2 = .pointer (some ⟨b2, 0, none⟩) ∧ E 5 = .pointer (some ⟨b5, 0, none⟩) ∧ E 77 = .slice A77 x77.length c77 ∧ E 78 = .int .i64 (x77.length : Int) ∧ E 79 = .int .i64 y79_L10h ∧ St w0 w (cells b2 55 [.int .i64 f0.Rows, .int .i64 f0.Sites, .int .i64 f0.Layers, .slice A_f0_3 f0.Blocks.length c_f0_3, .slice A_f0_4 f0.Walls.length c_f0_4, .slice A_f0_5 f0.Ports.length c_f0_5] :: cells b5 64 [.string y1_4.Name, .bool y1_4.Out, .int .i64 y1_4.X, .int .i64 y1_4.Y] :: ro ρ :: l)) fuel ⟨0, hLL10, rfl, rfl, rfl, rfl, rfl, (((hS.pull 2).pull 1).pull 2)⟩ ?_
          rintro kL10 E w ⟨y79_L10h, hLL10, eL10h_2, eL10h_5, eL10h_77, eL10h_78, eL10h_79, hS⟩
          replace hLL10 := lp_s hLL10; obtain ⟨kL10, obL10, rfl, hFL10, hLL10⟩ := hLL10
          refine x_seq <| x_region <| p (yl_lss eL10h_79 eL10h_78) <| x_done <|
            x_seq <|
            x_cond_p (y79_L10h < (x77.length : Int)) rfl (fun hc80 => ?_) (fun hc80 => ?_)
          · replace hFL10 := it_t hc80 hFL10
            replace hFL10 := ck_s hFL10; obtain ⟨hk11_0, hFL10⟩ := hFL10
            replace hFL10 := lv_s hFL10; obtain ⟨y11_1, hy11_1, hFL10⟩ := hFL10
            have q_ := f77.get hk11_0; obtain ⟨el11_1, ek11_1, ee11_1⟩ := q_
            rw [← hy11_1] at ek11_1
            have e_ := ek11_1; subst e_
            refine x_skip <| x_seq <| x_block <| x_seq <|
              x_region <| p (yix_f sl_53 eL10h_77 eL10h_79 f77 hk11_0) <| pa (v := .agg #[.string y11_1.Name, .bool y11_1.Out, .int .i64 y11_1.X, .int .i64 y11_1.Y]) (at_loadAgg agg_64 rfl rfl (Elt.every ee11_1 (hS.pull 2))) <|
              ?_
            refine o_alloc zero_64 hS (fun b9 w' hS => ?_)
            refine o_storeAgg (news := [.string y11_1.Name, .bool y11_1.Out, .int .i64 y11_1.X, .int .i64 y11_1.Y]) agg_64 rfl rfl rfl (by simp [over_length]) hS (fun w' hS => ?_)
            replace hFL10 := lv_s hFL10; obtain ⟨x94, hx94, hFL10⟩ := hFL10
            refine x_done <| x_seq <| x_seq <| x_region <|
              p (yl_field0 fld_64_0 rfl) <| pa (at_load one_9 rfl (hS.cell rfl)) <| p (yl_field0 fld_64_0 eL10h_5) <| pa (at_load one_9 rfl ((hS.pull 2).cell rfl)) <|
              p (yl_eql_string rfl rfl) <| p (yl_move rfl) <| pg (v := .pointer (some ⟨b9, 1, none⟩)) 88 (c := decide (y11_1.Name = y1_4.Name)) (says_t _) (fun hq => Yl.at (yl_field0 fld_64_1 rfl)) <| pg (v := .bool y11_1.Out) 88 (c := decide (y11_1.Name = y1_4.Name)) (says_t _) (fun hq => at_load one_4 (cv hq) (hS.cell rfl)) <|
              pg (v := .pointer (some ⟨b5, 1, none⟩)) 88 (c := decide (y11_1.Name = y1_4.Name)) (says_t _) (fun hq => Yl.at (yl_field0 fld_64_1 eL10h_5)) <| pg (v := .bool y1_4.Out) 88 (c := decide (y11_1.Name = y1_4.Name)) (says_t _) (fun hq => at_load one_4 (cv hq) ((hS.pull 2).cell rfl)) <| pg (v := .bool (y11_1.Out == y1_4.Out)) 88 (c := decide (y11_1.Name = y1_4.Name)) (says_t _) (fun hq => Yl.at (yeqb ub_4 (cv hq) (cv hq))) <| p (yand' rfl (fun hc => (cv hc)) rfl hx94) <|
              x_done <|
              x_cond (t := x94) rfl (fun hc94 => ?_) (fun hc94 => ?_)
            · replace hFL10 := it_t hc94 hFL10
              refine x_seq <| x_region <| p (yl_assign rfl) <| x_done <|
                ?_
              have e_ := Option.some.inj (show some _ = some _ from hFL10); subst e_
              have e_ := (show _ = oL10 from hLL10); subst e_
              have e_ := Option.some.inj (show some _ = some _ from hF); subst e_
              exact x_return ⟨_, ⟨_, _, rfl, rfl, rfl⟩, rfl, hS.drop.drop.drop⟩
            · replace hFL10 := it_bf hc94 hFL10
              replace hFL10 := ar_s hFL10; obtain ⟨x99, hx99, hFL10⟩ := hFL10
              replace hFL10 := ar_s hFL10; obtain ⟨x104, hx104, hFL10⟩ := hFL10
              replace hFL10 := ar_s hFL10; obtain ⟨x109, hx109, hFL10⟩ := hFL10
              replace hFL10 := ar_s hFL10; obtain ⟨x114, hx114, hFL10⟩ := hFL10
              replace hFL10 := lv_s hFL10; obtain ⟨x115, hx115, hFL10⟩ := hFL10
              refine x_skip <| x_seq <| x_region <| p (yl_field0 fld_64_2 eL10h_5) <|
                pa (at_load one_3 rfl ((hS.pull 2).cell rfl)) <| p (yl_field0 fld_64_2 rfl) <| pa (at_load one_3 rfl (hS.cell rfl)) <| p (ysub rfl rfl hx99) <|
                p (yl_field0 fld_64_2 rfl) <| pa (at_load one_3 rfl (hS.cell rfl)) <| p (yl_field0 fld_64_2 eL10h_5) <| pa (at_load one_3 rfl ((hS.pull 2).cell rfl)) <|
                p (ysub rfl rfl hx104) <| p (yl_field0 fld_64_3 eL10h_5) <| pa (at_load one_3 rfl ((hS.pull 2).cell rfl)) <| p (yl_field0 fld_64_3 rfl) <|
                pa (at_load one_3 rfl (hS.cell rfl)) <| p (ysub rfl rfl hx109) <| p (yl_field0 fld_64_3 rfl) <| pa (at_load one_3 rfl (hS.cell rfl)) <|
                p (yl_field0 fld_64_3 eL10h_5) <| pa (at_load one_3 rfl ((hS.pull 2).cell rfl)) <| p (ysub rfl rfl hx114) <| p (ymax4 rfl rfl rfl rfl hx115) <|
                p (yl_lss rfl rfl) <| x_done <|
                x_cond_p (x115 < 2) rfl (fun hc116 => ?_) (fun hc116 => ?_)
              · replace hFL10 := it_t hc116 hFL10
                refine x_seq <| x_region <| p (yl_assign rfl) <| x_done <|
                  ?_
                have e_ := Option.some.inj (show some _ = some _ from hFL10); subst e_
                have e_ := (show _ = oL10 from hLL10); subst e_
                have e_ := Option.some.inj (show some _ = some _ from hF); subst e_
                exact x_return ⟨_, ⟨_, _, rfl, rfl, rfl⟩, rfl, hS.drop.drop.drop⟩
              · replace hFL10 := it_f hc116 hFL10
                replace hFL10 := ar_s hFL10; obtain ⟨x117, hx117, hFL10⟩ := hFL10
                refine x_skip <| x_blk <| x_region <| p (yadd eL10h_79 rfl hx117) <|
                  p (yl_move rfl) <| x_done <|
                  ?_
                have e_ := Option.some.inj (show some _ = some _ from hFL10); subst e_
                exact x_inv ⟨kL10, Nat.lt_succ_self _, x117, hLL10, eL10h_2, eL10h_5, eL10h_77, eL10h_78, rfl, (((hS.drop.pull 2).pull 2).pull 2)⟩
          · replace hFL10 := it_f hc80 hFL10
            refine x_exitTo _ rfl <|
              ?_
            have e_ := Option.some.inj (show some _ = some _ from hFL10); subst e_
            exact x_inv ⟨hLL10, eL10h_2, eL10h_5, (((hS.pull 2).pull 2).pull 2)⟩
        rintro E w ⟨rfl, eL10_2, eL10_5, hS⟩
        refine x_seq <| x_seq <| x_region <| p (yl_field0 fld_55_4 eL10_2) <|
          pa (at_load one_52 rfl (hS.cell rfl)) <| p (yl_len_slice usl_52 rfl) <| p (yl_move rfl) <| x_done <|
          ?_
        replace hF := bs_s hF; obtain ⟨oL18, hLL18, hF⟩ := hF
        refine x_join (fun E w => (Sum.inl (())) = oL18 ∧ St w0 w (ro ρ :: l)) ?_ ?_
        · skip -- L18
          refine x_block ?_
          refine x_loop (fun k_ E w => ∃ (y121_L18h : Int), lp (P_floor_checkPort_L18 f0 y1_4) k_ y121_L18h = some oL18 ∧ E 5 = .pointer (some ⟨b5, 0, none⟩) ∧ E 119 = .slice A_f0_4 f0.Walls.length c_f0_4 ∧ E 120 = .int .i64 (f0.Walls.length : Int) ∧ E 121 = .int .i64 y121_L18h ∧ St w0 w (cells b5 64 [.string y1_4.Name, .bool y1_4.Out, .int .i64 y1_4.X, .int .i64 y1_4.Y] :: ro ρ :: l)) fuel ⟨0, hLL18, eL10_5, rfl, rfl, rfl, ((hS.drop.pull 1).pull 1)⟩ ?_
          rintro kL18 E w ⟨y121_L18h, hLL18, eL18h_5, eL18h_119, eL18h_120, eL18h_121, hS⟩
          replace hLL18 := lp_s hLL18; obtain ⟨kL18, obL18, rfl, hFL18, hLL18⟩ := hLL18
          refine x_seq <| x_region <| p (yl_lss eL18h_121 eL18h_120) <| x_done <|
            x_seq <|
            x_cond_p (y121_L18h < (f0.Walls.length : Int)) rfl (fun hc122 => ?_) (fun hc122 => ?_)
          · replace hFL18 := it_t hc122 hFL18
            replace hFL18 := ck_s hFL18; obtain ⟨hk19_0, hFL18⟩ := hFL18
            replace hFL18 := lv_s hFL18; obtain ⟨y19_1, hy19_1, hFL18⟩ := hFL18
            have q_ := h_f0_4.get hk19_0; obtain ⟨el19_1, ek19_1, ee19_1⟩ := q_
            rw [← hy19_1] at ek19_1
            have e_ := ek19_1; subst e_
            refine x_skip <| x_seq <| x_block <| x_seq <|
              x_region <| p (yix_f sl_52 eL18h_119 eL18h_121 h_f0_4 hk19_0) <| pa (v := .agg #[.int .i64 y19_1.Layer, .int .i64 y19_1.X0, .int .i64 y19_1.Y0, .int .i64 y19_1.X1, .int .i64 y19_1.Y1]) (at_loadAgg agg_160 rfl rfl (Elt.every ee19_1 (hS.pull 1))) <|
              ?_
            refine o_alloc zero_160 hS (fun b11 w' hS => ?_)
            refine o_storeAgg (news := [.int .i64 y19_1.Layer, .int .i64 y19_1.X0, .int .i64 y19_1.Y0, .int .i64 y19_1.X1, .int .i64 y19_1.Y1]) agg_160 rfl rfl rfl (by simp [over_length]) hS (fun w' hS => ?_)
            replace hFL18 := bd_s hFL18; obtain ⟨r20_10, hc20_10, hFL18⟩ := hFL18
            refine x_done <| x_seq <| x_region <| p (yl_field0 fld_160_0 rfl) <|
              pa (at_load one_3 rfl (hS.cell rfl)) <| p (yl_eql rfl rfl) <| p (yl_move rfl) <| pg (v := .pointer (some ⟨b5, 2, none⟩)) 128 (c := decide (y19_1.Layer = 0)) (says_t _) (fun hq => Yl.at (yl_field0 fld_64_2 eL18h_5)) <|
              pg (v := .int .i64 y1_4.X) 128 (c := decide (y19_1.Layer = 0)) (says_t _) (fun hq => at_load one_3 (cv hq) ((hS.pull 1).cell rfl)) <| pg (v := .pointer (some ⟨b11, 1, none⟩)) 128 (c := decide (y19_1.Layer = 0)) (says_t _) (fun hq => Yl.at (yl_field0 fld_160_1 rfl)) <| pg (v := .int .i64 y19_1.X0) 128 (c := decide (y19_1.Layer = 0)) (says_t _) (fun hq => at_load one_3 (cv hq) (hS.cell rfl)) <| pg (v := .pointer (some ⟨b11, 3, none⟩)) 128 (c := decide (y19_1.Layer = 0)) (says_t _) (fun hq => Yl.at (yl_field0 fld_160_3 rfl)) <|
              pg (v := .int .i64 y19_1.X1) 128 (c := decide (y19_1.Layer = 0)) (says_t _) (fun hq => at_load one_3 (cv hq) (hS.cell rfl)) <|
              pccg (v := .bool r20_10) 128 (c := decide (y19_1.Layer = 0)) (says_t _) call_69 (fun hq => (args3 (cv hq) (cv hq) (cv hq))) hS (fun hq => by
                have hcall := c_floor_within (gd_t hc20_10 hq)  (hS.pull 2)
                exact (Calls.mono hcall (fun e w'' h => And.intro h.1 ((h.2.pull 2).pull 2)))) (fun w' hS => ?_)
            replace hFL18 := lv_s hFL18; obtain ⟨x136, hx136, hFL18⟩ := hFL18
            replace hFL18 := bd_s hFL18; obtain ⟨r20_19, hc20_19, hFL18⟩ := hFL18
            refine p (yand' rfl (fun hc => (cv hc)) rfl hx136) <| p (yl_move rfl) <| pg (v := .pointer (some ⟨b5, 3, none⟩)) 137 (c := x136) (says_t _) (fun hq => Yl.at (yl_field0 fld_64_3 eL18h_5)) <| pg (v := .int .i64 y1_4.Y) 137 (c := x136) (says_t _) (fun hq => at_load one_3 (cv hq) ((hS.pull 1).cell rfl)) <|
              pg (v := .pointer (some ⟨b11, 2, none⟩)) 137 (c := x136) (says_t _) (fun hq => Yl.at (yl_field0 fld_160_2 rfl)) <| pg (v := .int .i64 y19_1.Y0) 137 (c := x136) (says_t _) (fun hq => at_load one_3 (cv hq) (hS.cell rfl)) <| pg (v := .pointer (some ⟨b11, 4, none⟩)) 137 (c := x136) (says_t _) (fun hq => Yl.at (yl_field0 fld_160_4 rfl)) <| pg (v := .int .i64 y19_1.Y1) 137 (c := x136) (says_t _) (fun hq => at_load one_3 (cv hq) (hS.cell rfl)) <|
              pccg (v := .bool r20_19) 137 (c := x136) (says_t _) call_69 (fun hq => (args3 (cv hq) (cv hq) (cv hq))) hS (fun hq => by
                have hcall := c_floor_within (gd_t hc20_19 hq)  (hS.pull 2)
                exact (Calls.mono hcall (fun e w'' h => And.intro h.1 ((h.2.pull 2).pull 2)))) (fun w' hS => ?_)
            replace hFL18 := lv_s hFL18; obtain ⟨x145, hx145, hFL18⟩ := hFL18
            refine p (yand' rfl (fun hc => (cv hc)) rfl hx145) <| x_done <|
              x_cond (t := x145) rfl (fun hc145 => ?_) (fun hc145 => ?_)
            · replace hFL18 := it_t hc145 hFL18
              refine x_seq <| x_region <| p (yl_assign rfl) <| x_done <|
                ?_
              have e_ := Option.some.inj (show some _ = some _ from hFL18); subst e_
              have e_ := (show _ = oL18 from hLL18); subst e_
              have e_ := Option.some.inj (show some _ = some _ from hF); subst e_
              exact x_return ⟨_, ⟨_, _, rfl, rfl, rfl⟩, rfl, hS.drop.drop⟩
            · replace hFL18 := it_bf hc145 hFL18
              replace hFL18 := ar_s hFL18; obtain ⟨x146, hx146, hFL18⟩ := hFL18
              refine x_skip <| x_blk <| x_region <| p (yadd eL18h_121 rfl hx146) <|
                p (yl_move rfl) <| x_done <|
                ?_
              have e_ := Option.some.inj (show some _ = some _ from hFL18); subst e_
              exact x_inv ⟨kL18, Nat.lt_succ_self _, x146, hLL18, eL18h_5, eL18h_119, eL18h_120, rfl, ((hS.drop.pull 1).pull 1)⟩
          · replace hFL18 := it_f hc122 hFL18
            refine x_exitTo _ rfl <|
              ?_
            have e_ := Option.some.inj (show some _ = some _ from hFL18); subst e_
            exact x_inv ⟨hLL18, hS.drop⟩
        rintro E w ⟨rfl, hS⟩
        refine x_seq <| x_region <| p (yl_assign rfl) <| x_done <|
          ?_
        have e_ := Option.some.inj (show some _ = some _ from hF); subst e_
        exact x_return ⟨_, ⟨_, _, rfl, rfl, rfl⟩, rfl, hS⟩
attribute [irreducible] P_floor_checkPort

def P_floor_Check_L6 (f0 : T_floor_Floor) : Int → Option (Int ⊕ (Unit ⊕ Int)) := fun y46_L6h =>
  if y46_L6h < (f0.Blocks.length : Int) then
    ck (inb y46_L6h f0.Blocks.length) <|
    lv (gt f0.Blocks y46_L6h) fun y7_1 =>
    ar (f0.Rows - 1) fun x54 =>
    bd (P_floor_within y7_1.Row 0 x54) fun r8_5 =>
    ck ((!(!r8_5)) = true → I64 (f0.Sites - 1)) <|
    lv (f0.Sites - 1) fun x62 =>
    bd (gd (!(!r8_5)) (P_floor_within y7_1.From 0 x62)) fun r8_13 =>
    lv ((!r8_5) || (!r8_13)) fun x65 =>
    ck ((!x65) = true → I64 (y7_1.From + 1)) <|
    lv (y7_1.From + 1) fun x71 =>
    bd (gd (!x65) (P_floor_within y7_1.To x71 f0.Sites)) fun r8_24 =>
    lv (x65 || (!r8_24)) fun x76 =>
    if x76 = true then
      some (Sum.inr (Sum.inr (2 : Int)))
    else
      ar (y46_L6h + 1) fun x77 =>
      some (Sum.inl x77)
  else
    some (Sum.inr (Sum.inl ()))
def P_floor_Check_L13 (f0 : T_floor_Floor) (r11_1 : (Int × Int)) : Int → Option (Int ⊕ (Unit ⊕ Int)) := fun y86_L13h =>
  if y86_L13h < (f0.Walls.length : Int) then
    ck (inb y86_L13h f0.Walls.length) <|
    lv (gt f0.Walls y86_L13h) fun y14_1 =>
    ar (f0.Layers - 1) fun x94 =>
    bd (P_floor_within y14_1.Layer 0 x94) fun r15_5 =>
    ck ((!(!r15_5)) = true → I64 (r11_1.1 - 1)) <|
    lv (r11_1.1 - 1) fun x101 =>
    bd (gd (!(!r15_5)) (P_floor_within y14_1.X0 0 x101)) fun r15_12 =>
    lv ((!r15_5) || (!r15_12)) fun x104 =>
    ck ((!x104) = true → I64 (r11_1.2 - 1)) <|
    lv (r11_1.2 - 1) fun x109 =>
    bd (gd (!x104) (P_floor_within y14_1.Y0 0 x109)) fun r15_20 =>
    lv (x104 || (!r15_20)) fun x112 =>
    ck ((!x112) = true → I64 (r11_1.1 - 1)) <|
    lv (r11_1.1 - 1) fun x119 =>
    bd (gd (!x112) (P_floor_within y14_1.X1 y14_1.X0 x119)) fun r15_30 =>
    lv (x112 || (!r15_30)) fun x122 =>
    ck ((!x122) = true → I64 (r11_1.2 - 1)) <|
    lv (r11_1.2 - 1) fun x129 =>
    bd (gd (!x122) (P_floor_within y14_1.Y1 y14_1.Y0 x129)) fun r15_40 =>
    lv (x122 || (!r15_40)) fun x132 =>
    if x132 = true then
      some (Sum.inr (Sum.inr (2 : Int)))
    else
      ar (y86_L13h + 1) fun x133 =>
      some (Sum.inl x133)
  else
    some (Sum.inr (Sum.inl ()))
def P_floor_Check_L19 (f0 : T_floor_Floor) : Int → Option (Int ⊕ (Unit ⊕ Int)) := fun y137_L19h =>
  if y137_L19h < (f0.Ports.length : Int) then
    bd (P_floor_checkPort f0 y137_L19h) fun r21_2 =>
    if r21_2 ≠ 0 then
      some (Sum.inr (Sum.inr r21_2))
    else
      ar (y137_L19h + 1) fun x146 =>
      some (Sum.inl x146)
  else
    some (Sum.inr (Sum.inl ()))
def P_floor_Check (f0 : T_floor_Floor) : Option Int :=
  bd (P_floor_within f0.Rows 1 20) fun r1_2 =>
  bd (gd (!(!r1_2)) (P_floor_within f0.Sites 1 40)) fun r1_7 =>
  lv ((!r1_2) || (!r1_7)) fun x20 =>
  bd (gd (!x20) (P_floor_within f0.Layers 2 6)) fun r1_13 =>
  lv (x20 || (!r1_13)) fun x26 =>
  if x26 = true then
    some (2 : Int)
  else
    lv ((decide (32 < (f0.Blocks.length : Int))) || (decide (32 < (f0.Walls.length : Int)))) fun x36 =>
    lv (x36 || (decide (200 < (f0.Ports.length : Int)))) fun x42 =>
    if x42 = true then
      some (3 : Int)
    else
      bs (
        lp (P_floor_Check_L6 f0) fuel 0) (fun y => some y) fun _ =>
      bd (P_floor_Size f0) fun r11_1 =>
      bs (
        lp (P_floor_Check_L13 f0 r11_1) fuel 0) (fun y => some y) fun _ =>
      bs (
        lp (P_floor_Check_L19 f0) fuel 0) (fun y => some y) fun _ =>
      some (0 : Int)
set_option maxHeartbeats 4000000 in
set_option maxRecDepth 100000 in
theorem c_floor_Check {w0 w : World} {l : List Assn} {ρ : Heap} {A_f0_3 : Option Addr} {n_f0_3 : Nat} {c_f0_3 : Nat} {A_f0_4 : Option Addr} {n_f0_4 : Nat} {c_f0_4 : Nat} {A_f0_5 : Option Addr} {n_f0_5 : Nat} {c_f0_5 : Nat} {f0 : T_floor_Floor} {r : Int} (hF : P_floor_Check f0 = some r) (h_f0_3 : RdS R_floor_Block ρ A_f0_3 n_f0_3 c_f0_3 f0.Blocks) (h_f0_4 : RdS R_floor_Wall ρ A_f0_4 n_f0_4 c_f0_4 f0.Walls) (h_f0_5 : RdS R_floor_Port ρ A_f0_5 n_f0_5 c_f0_5 f0.Ports) (hS : St w0 w (ro ρ :: l)) :
    Calls Tryd.prog 24 #[.agg #[.int .i64 f0.Rows, .int .i64 f0.Sites, .int .i64 f0.Layers, .slice A_f0_3 n_f0_3 c_f0_3, .slice A_f0_4 n_f0_4 c_f0_4, .slice A_f0_5 n_f0_5 c_f0_5]] w fun e w' => e = .returned (.int .i64 r) ∧ St w0 w' (ro ρ :: l) := by
  have e_ := h_f0_3.n; subst e_
  have e_ := h_f0_4.n; subst e_
  have e_ := h_f0_5.n; subst e_
  refine enterC Tryd.func24 rfl 147 rfl (by simp) ?_
  refine x_seq <| x_region <|
    ?_
  refine o_box (cs := [.int .i64 f0.Rows, .int .i64 f0.Sites, .int .i64 f0.Layers, .slice A_f0_3 f0.Blocks.length c_f0_3, .slice A_f0_4 f0.Walls.length c_f0_4, .slice A_f0_5 f0.Ports.length c_f0_5]) rfl rfl hS (fun b1 w' hS => ?_)
  replace hF := bd_s hF; obtain ⟨r1_2, hc1_2, hF⟩ := hF
  refine p (yl_assign rfl) <| x_done <| x_seq <| x_seq <|
    x_region <| p (yl_field0 fld_55_0 rfl) <| pa (at_load one_3 rfl (hS.cell rfl)) <|
    ?_
  have hcall := c_floor_within hc1_2  (hS.pull 1)
  refine o_cc call_69 (args3 rfl rfl rfl) ((Calls.mono hcall (fun e w'' h => And.intro h.1 (h.2.pull 1)))) ?_
  rintro e w' ⟨rfl, hS⟩
  refine ⟨_, rfl, ?_⟩
  replace hF := bd_s hF; obtain ⟨r1_7, hc1_7, hF⟩ := hF
  refine p (yl_not rfl) <| p (yl_move rfl) <| pg (v := .pointer (some ⟨b1, 1, none⟩)) 15 (c := !(!r1_2)) (says_f _) (fun hq => Yl.at (yl_field0 fld_55_1 rfl)) <| pg (v := .int .i64 f0.Sites) 15 (c := !(!r1_2)) (says_f _) (fun hq => at_load one_3 (cv hq) (hS.cell rfl)) <|
    pccg (v := .bool r1_7) 15 (c := !(!r1_2)) (says_f _) call_69 (fun hq => (args3 (cv hq) rfl rfl)) hS (fun hq => by
      have hcall := c_floor_within (gd_t hc1_7 hq)  (hS.pull 1)
      exact (Calls.mono hcall (fun e w'' h => And.intro h.1 (h.2.pull 1)))) (fun w' hS => ?_)
  replace hF := lv_s hF; obtain ⟨x20, hx20, hF⟩ := hF
  replace hF := bd_s hF; obtain ⟨r1_13, hc1_13, hF⟩ := hF
  refine pg (v := .bool (!r1_7)) 15 (c := !(!r1_2)) (says_f _) (fun hq => Yl.at (yl_not (cv hq))) <| p (yor' rfl rfl (fun hc => (cv (t_not hc))) hx20) <| p (yl_move rfl) <| pg (v := .pointer (some ⟨b1, 2, none⟩)) 21 (c := !x20) (says_f _) (fun hq => Yl.at (yl_field0 fld_55_2 rfl)) <|
    pg (v := .int .i64 f0.Layers) 21 (c := !x20) (says_f _) (fun hq => at_load one_3 (cv hq) (hS.cell rfl)) <|
    pccg (v := .bool r1_13) 21 (c := !x20) (says_f _) call_69 (fun hq => (args3 (cv hq) rfl rfl)) hS (fun hq => by
      have hcall := c_floor_within (gd_t hc1_13 hq)  (hS.pull 1)
      exact (Calls.mono hcall (fun e w'' h => And.intro h.1 (h.2.pull 1)))) (fun w' hS => ?_)
  replace hF := lv_s hF; obtain ⟨x26, hx26, hF⟩ := hF
  refine pg (v := .bool (!r1_13)) 21 (c := !x20) (says_f _) (fun hq => Yl.at (yl_not (cv hq))) <| p (yor' rfl rfl (fun hc => (cv (t_not hc))) hx26) <| x_done <|
    x_cond (t := x26) rfl (fun hc26 => ?_) (fun hc26 => ?_)
  · replace hF := it_t hc26 hF
    refine x_seq <| x_region <| p (yl_assign rfl) <| x_done <|
      ?_
    have e_ := Option.some.inj (show some _ = some _ from hF); subst e_
    exact x_return ⟨_, ⟨_, _, rfl, rfl, rfl⟩, rfl, hS.drop⟩
  · replace hF := it_bf hc26 hF
    replace hF := lv_s hF; obtain ⟨x36, hx36, hF⟩ := hF
    replace hF := lv_s hF; obtain ⟨x42, hx42, hF⟩ := hF
    refine x_skip <| x_seq <| x_seq <| x_region <|
      p (yl_field0 fld_55_3 rfl) <| pa (at_load one_51 rfl (hS.cell rfl)) <| p (yl_len_slice usl_51 rfl) <| p (yl_gtr rfl rfl) <|
      p (yl_move rfl) <| pg (v := .pointer (some ⟨b1, 4, none⟩)) 31 (c := !(decide (32 < (f0.Blocks.length : Int)))) (says_f _) (fun hq => Yl.at (yl_field0 fld_55_4 rfl)) <| pg (v := .slice A_f0_4 f0.Walls.length c_f0_4) 31 (c := !(decide (32 < (f0.Blocks.length : Int)))) (says_f _) (fun hq => at_load one_52 (cv hq) (hS.cell rfl)) <| pg (v := .int .i64 (f0.Walls.length : Int)) 31 (c := !(decide (32 < (f0.Blocks.length : Int)))) (says_f _) (fun hq => Yl.at (yl_len_slice usl_52 (cv hq))) <|
      pg (v := .bool (decide (32 < (f0.Walls.length : Int)))) 31 (c := !(decide (32 < (f0.Blocks.length : Int)))) (says_f _) (fun hq => Yl.at (yl_gtr (cv hq) rfl)) <| p (yor' rfl rfl (fun hc => (cv (t_not hc))) hx36) <| p (yl_move rfl) <| pg (v := .pointer (some ⟨b1, 5, none⟩)) 37 (c := !x36) (says_f _) (fun hq => Yl.at (yl_field0 fld_55_5 rfl)) <|
      pg (v := .slice A_f0_5 f0.Ports.length c_f0_5) 37 (c := !x36) (says_f _) (fun hq => at_load one_53 (cv hq) (hS.cell rfl)) <| pg (v := .int .i64 (f0.Ports.length : Int)) 37 (c := !x36) (says_f _) (fun hq => Yl.at (yl_len_slice usl_53 (cv hq))) <| pg (v := .bool (decide (200 < (f0.Ports.length : Int)))) 37 (c := !x36) (says_f _) (fun hq => Yl.at (yl_gtr (cv hq) rfl)) <| p (yor' rfl rfl (fun hc => (cv (t_not hc))) hx42) <|
      x_done <|
      x_cond (t := x42) rfl (fun hc42 => ?_) (fun hc42 => ?_)
    · replace hF := it_t hc42 hF
      refine x_seq <| x_region <| p (yl_assign rfl) <| x_done <|
        ?_
      have e_ := Option.some.inj (show some _ = some _ from hF); subst e_
      exact x_return ⟨_, ⟨_, _, rfl, rfl, rfl⟩, rfl, hS.drop⟩
    · replace hF := it_bf hc42 hF
      refine x_skip <| x_seq <| x_seq <| x_region <|
        p (yl_field0 fld_55_3 rfl) <| pa (at_load one_51 rfl (hS.cell rfl)) <| p (yl_len_slice usl_51 rfl) <| p (yl_move rfl) <|
        x_done <|
        ?_
      replace hF := bs_s hF; obtain ⟨oL6, hLL6, hF⟩ := hF
      refine x_join (fun E w => (Sum.inl (())) = oL6 ∧ E 1 = .pointer (some ⟨b1, 0, none⟩) ∧ St w0 w (cells b1 55 [.int .i64 f0.Rows, .int .i64 f0.Sites, .int .i64 f0.Layers, .slice A_f0_3 f0.Blocks.length c_f0_3, .slice A_f0_4 f0.Walls.length c_f0_4, .slice A_f0_5 f0.Ports.length c_f0_5] :: ro ρ :: l)) ?_ ?_
      · skip -- L6
        refine x_block ?_
        refine x_loop (fun k_ E w => ∃ (y46_L6h : Int), lp (P_floor_Check_L6 f0) k_ y46_L6h = some oL6 ∧ E 1 = .pointer (some ⟨b1, 0, none⟩) ∧ E 44 = .slice A_f0_3 f0.Blocks.length c_f0_3 ∧ E 45 = .int .i64 (f0.Blocks.length : Int) ∧ E 46 = .int .i64 y46_L6h ∧ St w0 w (cells b1 55 [.int .i64 f0.Rows, .int .i64 f0.Sites, .int .i64 f0.Layers, .slice A_f0_3 f0.Blocks.length c_f0_3, .slice A_f0_4 f0.Walls.length c_f0_4, .slice A_f0_5 f0.Ports.length c_f0_5] :: ro ρ :: l)) fuel ⟨0, hLL6, rfl, rfl, rfl, rfl, ((hS.pull 1).pull 1)⟩ ?_
        rintro kL6 E w ⟨y46_L6h, hLL6, eL6h_1, eL6h_44, eL6h_45, eL6h_46, hS⟩
        replace hLL6 := lp_s hLL6; obtain ⟨kL6, obL6, rfl, hFL6, hLL6⟩ := hLL6
        refine x_seq <| x_region <| p (yl_lss eL6h_46 eL6h_45) <| x_done <|
          x_seq <|
          x_cond_p (y46_L6h < (f0.Blocks.length : Int)) rfl (fun hc47 => ?_) (fun hc47 => ?_)
        · replace hFL6 := it_t hc47 hFL6
          replace hFL6 := ck_s hFL6; obtain ⟨hk7_0, hFL6⟩ := hFL6
          replace hFL6 := lv_s hFL6; obtain ⟨y7_1, hy7_1, hFL6⟩ := hFL6
          have q_ := h_f0_3.get hk7_0; obtain ⟨el7_1, ek7_1, ee7_1⟩ := q_
          rw [← hy7_1] at ek7_1
          have e_ := ek7_1; subst e_
          refine x_skip <| x_seq <| x_block <| x_seq <|
            x_region <| p (yix_f sl_51 eL6h_44 eL6h_46 h_f0_3 hk7_0) <| pa (v := .agg #[.int .i64 y7_1.Row, .int .i64 y7_1.From, .int .i64 y7_1.To]) (at_loadAgg agg_158 rfl rfl (Elt.every ee7_1 (hS.pull 1))) <|
            ?_
          refine o_alloc zero_158 hS (fun b4 w' hS => ?_)
          refine o_storeAgg (news := [.int .i64 y7_1.Row, .int .i64 y7_1.From, .int .i64 y7_1.To]) agg_158 rfl rfl rfl (by simp [over_length]) hS (fun w' hS => ?_)
          replace hFL6 := ar_s hFL6; obtain ⟨x54, hx54, hFL6⟩ := hFL6
          replace hFL6 := bd_s hFL6; obtain ⟨r8_5, hc8_5, hFL6⟩ := hFL6
          refine x_done <| x_seq <| x_region <| p (yl_field0 fld_158_0 rfl) <|
            pa (at_load one_3 rfl (hS.cell rfl)) <| p (yl_field0 fld_55_0 eL6h_1) <| pa (at_load one_3 rfl ((hS.pull 1).cell rfl)) <| p (ysub rfl rfl hx54) <|
            ?_
          have hcall := c_floor_within hc8_5  (hS.pull 2)
          refine o_cc call_69 (args3 rfl rfl rfl) ((Calls.mono hcall (fun e w'' h => And.intro h.1 ((h.2.pull 2).pull 2)))) ?_
          rintro e w' ⟨rfl, hS⟩
          refine ⟨_, rfl, ?_⟩
          replace hFL6 := ck_s hFL6; obtain ⟨hk8_12, hFL6⟩ := hFL6
          replace hFL6 := lv_s hFL6; obtain ⟨x62, hx62, hFL6⟩ := hFL6
          replace hFL6 := bd_s hFL6; obtain ⟨r8_13, hc8_13, hFL6⟩ := hFL6
          refine p (yl_not rfl) <| p (yl_move rfl) <| pg (v := .pointer (some ⟨b4, 1, none⟩)) 57 (c := !(!r8_5)) (says_f _) (fun hq => Yl.at (yl_field0 fld_158_1 rfl)) <| pg (v := .int .i64 y7_1.From) 57 (c := !(!r8_5)) (says_f _) (fun hq => at_load one_3 (cv hq) (hS.cell rfl)) <|
            pg (v := .pointer (some ⟨b1, 1, none⟩)) 57 (c := !(!r8_5)) (says_f _) (fun hq => Yl.at (yl_field0 fld_55_1 eL6h_1)) <| pg (v := .int .i64 f0.Sites) 57 (c := !(!r8_5)) (says_f _) (fun hq => at_load one_3 (cv hq) ((hS.pull 1).cell rfl)) <| pg (v := .int .i64 x62) 57 (c := !(!r8_5)) (says_f _) (fun hq => Yl.at (ysub (cv hq) rfl ⟨hx62, (hk8_12 hq)⟩)) <|
            pccg (v := .bool r8_13) 57 (c := !(!r8_5)) (says_f _) call_69 (fun hq => (args3 (cv hq) rfl (cv hq))) hS (fun hq => by
              have hcall := c_floor_within (gd_t hc8_13 hq)  (hS.pull 2)
              exact (Calls.mono hcall (fun e w'' h => And.intro h.1 ((h.2.pull 2).pull 2)))) (fun w' hS => ?_)
          replace hFL6 := lv_s hFL6; obtain ⟨x65, hx65, hFL6⟩ := hFL6
          replace hFL6 := ck_s hFL6; obtain ⟨hk8_21, hFL6⟩ := hFL6
          replace hFL6 := lv_s hFL6; obtain ⟨x71, hx71, hFL6⟩ := hFL6
          replace hFL6 := bd_s hFL6; obtain ⟨r8_24, hc8_24, hFL6⟩ := hFL6
          refine pg (v := .bool (!r8_13)) 57 (c := !(!r8_5)) (says_f _) (fun hq => Yl.at (yl_not (cv hq))) <| p (yor' rfl rfl (fun hc => (cv (t_not hc))) hx65) <| p (yl_move rfl) <| pg (v := .pointer (some ⟨b4, 2, none⟩)) 66 (c := !x65) (says_f _) (fun hq => Yl.at (yl_field0 fld_158_2 rfl)) <|
            pg (v := .int .i64 y7_1.To) 66 (c := !x65) (says_f _) (fun hq => at_load one_3 (cv hq) (hS.cell rfl)) <| pg (v := .pointer (some ⟨b4, 1, none⟩)) 66 (c := !x65) (says_f _) (fun hq => Yl.at (yl_field0 fld_158_1 rfl)) <| pg (v := .int .i64 y7_1.From) 66 (c := !x65) (says_f _) (fun hq => at_load one_3 (cv hq) (hS.cell rfl)) <| pg (v := .int .i64 x71) 66 (c := !x65) (says_f _) (fun hq => Yl.at (yadd (cv hq) rfl ⟨hx71, (hk8_21 hq)⟩)) <|
            pg (v := .pointer (some ⟨b1, 1, none⟩)) 66 (c := !x65) (says_f _) (fun hq => Yl.at (yl_field0 fld_55_1 eL6h_1)) <| pg (v := .int .i64 f0.Sites) 66 (c := !x65) (says_f _) (fun hq => at_load one_3 (cv hq) ((hS.pull 1).cell rfl)) <|
            pccg (v := .bool r8_24) 66 (c := !x65) (says_f _) call_69 (fun hq => (args3 (cv hq) (cv hq) (cv hq))) hS (fun hq => by
              have hcall := c_floor_within (gd_t hc8_24 hq)  (hS.pull 2)
              exact (Calls.mono hcall (fun e w'' h => And.intro h.1 ((h.2.pull 2).pull 2)))) (fun w' hS => ?_)
          replace hFL6 := lv_s hFL6; obtain ⟨x76, hx76, hFL6⟩ := hFL6
          refine pg (v := .bool (!r8_24)) 66 (c := !x65) (says_f _) (fun hq => Yl.at (yl_not (cv hq))) <| p (yor' rfl rfl (fun hc => (cv (t_not hc))) hx76) <| x_done <|
            x_cond (t := x76) rfl (fun hc76 => ?_) (fun hc76 => ?_)
          · replace hFL6 := it_t hc76 hFL6
            refine x_seq <| x_region <| p (yl_assign rfl) <| x_done <|
              ?_
            have e_ := Option.some.inj (show some _ = some _ from hFL6); subst e_
            have e_ := (show _ = oL6 from hLL6); subst e_
            have e_ := Option.some.inj (show some _ = some _ from hF); subst e_
            exact x_return ⟨_, ⟨_, _, rfl, rfl, rfl⟩, rfl, hS.drop.drop⟩
          · replace hFL6 := it_bf hc76 hFL6
            replace hFL6 := ar_s hFL6; obtain ⟨x77, hx77, hFL6⟩ := hFL6
            refine x_skip <| x_blk <| x_region <| p (yadd eL6h_46 rfl hx77) <|
              p (yl_move rfl) <| x_done <|
              ?_
            have e_ := Option.some.inj (show some _ = some _ from hFL6); subst e_
            exact x_inv ⟨kL6, Nat.lt_succ_self _, x77, hLL6, eL6h_1, eL6h_44, eL6h_45, rfl, ((hS.drop.pull 1).pull 1)⟩
        · replace hFL6 := it_f hc47 hFL6
          refine x_exitTo _ rfl <|
            ?_
          have e_ := Option.some.inj (show some _ = some _ from hFL6); subst e_
          exact x_inv ⟨hLL6, eL6h_1, ((hS.pull 1).pull 1)⟩
      rintro E w ⟨rfl, eL6_1, hS⟩
      replace hF := bd_s hF; obtain ⟨r11_1, hc11_1, hF⟩ := hF
      refine x_seq <| x_region <| pa (v := .agg #[.int .i64 f0.Rows, .int .i64 f0.Sites, .int .i64 f0.Layers, .slice A_f0_3 f0.Blocks.length c_f0_3, .slice A_f0_4 f0.Walls.length c_f0_4, .slice A_f0_5 f0.Ports.length c_f0_5]) (ld_sub agg_55 eL6_1 rfl rfl hS) <|
        ?_
      have hcall := c_floor_Size hc11_1 h_f0_3 h_f0_4 h_f0_5 (hS.pull 1)
      refine o_cc call_35 (args1 rfl) ((Calls.mono hcall (fun e w'' h => And.intro h.1 (h.2.pull 1)))) ?_
      rintro e w' ⟨rfl, hS⟩
      refine ⟨_, rfl, ?_⟩
      refine p (v := .tuple #[.int .i64 r11_1.1, .int .i64 r11_1.2]) (yl_move rfl) <| p (yl_extract rfl rfl) <| p (yl_extract rfl rfl) <| p (yl_assign rfl) <|
        p (yl_assign rfl) <| x_done <| x_seq <| x_seq <|
        x_region <| p (yl_field0 fld_55_4 eL6_1) <| pa (at_load one_52 rfl (hS.cell rfl)) <| p (yl_len_slice usl_52 rfl) <|
        p (yl_move rfl) <| x_done <|
        ?_
      replace hF := bs_s hF; obtain ⟨oL13, hLL13, hF⟩ := hF
      refine x_join (fun E w => (Sum.inl (())) = oL13 ∧ E 1 = .pointer (some ⟨b1, 0, none⟩) ∧ St w0 w (cells b1 55 [.int .i64 f0.Rows, .int .i64 f0.Sites, .int .i64 f0.Layers, .slice A_f0_3 f0.Blocks.length c_f0_3, .slice A_f0_4 f0.Walls.length c_f0_4, .slice A_f0_5 f0.Ports.length c_f0_5] :: ro ρ :: l)) ?_ ?_
      · skip -- L13
        refine x_block ?_
        refine x_loop (fun k_ E w => ∃ (y86_L13h : Int), lp (P_floor_Check_L13 f0 r11_1) k_ y86_L13h = some oL13 ∧ E 1 = .pointer (some ⟨b1, 0, none⟩) ∧ E 5 = .int .i64 r11_1.1 ∧ E 6 = .int .i64 r11_1.2 ∧ E 84 = .slice A_f0_4 f0.Walls.length c_f0_4 ∧ E 85 = .int .i64 (f0.Walls.length : Int) ∧ E 86 = .int .i64 y86_L13h ∧ St w0 w (cells b1 55 [.int .i64 f0.Rows, .int .i64 f0.Sites, .int .i64 f0.Layers, .slice A_f0_3 f0.Blocks.length c_f0_3, .slice A_f0_4 f0.Walls.length c_f0_4, .slice A_f0_5 f0.Ports.length c_f0_5] :: ro ρ :: l)) fuel ⟨0, hLL13, eL6_1, rfl, rfl, rfl, rfl, rfl, ((hS.pull 1).pull 1)⟩ ?_
        rintro kL13 E w ⟨y86_L13h, hLL13, eL13h_1, eL13h_5, eL13h_6, eL13h_84, eL13h_85, eL13h_86, hS⟩
        replace hLL13 := lp_s hLL13; obtain ⟨kL13, obL13, rfl, hFL13, hLL13⟩ := hLL13
        refine x_seq <| x_region <| p (yl_lss eL13h_86 eL13h_85) <| x_done <|
          x_seq <|
          x_cond_p (y86_L13h < (f0.Walls.length : Int)) rfl (fun hc87 => ?_) (fun hc87 => ?_)
        · replace hFL13 := it_t hc87 hFL13
          replace hFL13 := ck_s hFL13; obtain ⟨hk14_0, hFL13⟩ := hFL13
          replace hFL13 := lv_s hFL13; obtain ⟨y14_1, hy14_1, hFL13⟩ := hFL13
          have q_ := h_f0_4.get hk14_0; obtain ⟨el14_1, ek14_1, ee14_1⟩ := q_
          rw [← hy14_1] at ek14_1
          have e_ := ek14_1; subst e_
          refine x_skip <| x_seq <| x_block <| x_seq <|
            x_region <| p (yix_f sl_52 eL13h_84 eL13h_86 h_f0_4 hk14_0) <| pa (v := .agg #[.int .i64 y14_1.Layer, .int .i64 y14_1.X0, .int .i64 y14_1.Y0, .int .i64 y14_1.X1, .int .i64 y14_1.Y1]) (at_loadAgg agg_160 rfl rfl (Elt.every ee14_1 (hS.pull 1))) <|
            ?_
          refine o_alloc zero_160 hS (fun b8 w' hS => ?_)
          refine o_storeAgg (news := [.int .i64 y14_1.Layer, .int .i64 y14_1.X0, .int .i64 y14_1.Y0, .int .i64 y14_1.X1, .int .i64 y14_1.Y1]) agg_160 rfl rfl rfl (by simp [over_length]) hS (fun w' hS => ?_)
          replace hFL13 := ar_s hFL13; obtain ⟨x94, hx94, hFL13⟩ := hFL13
          replace hFL13 := bd_s hFL13; obtain ⟨r15_5, hc15_5, hFL13⟩ := hFL13
          refine x_done <| x_seq <| x_region <| p (yl_field0 fld_160_0 rfl) <|
            pa (at_load one_3 rfl (hS.cell rfl)) <| p (yl_field0 fld_55_2 eL13h_1) <| pa (at_load one_3 rfl ((hS.pull 1).cell rfl)) <| p (ysub rfl rfl hx94) <|
            ?_
          have hcall := c_floor_within hc15_5  (hS.pull 2)
          refine o_cc call_69 (args3 rfl rfl rfl) ((Calls.mono hcall (fun e w'' h => And.intro h.1 ((h.2.pull 2).pull 2)))) ?_
          rintro e w' ⟨rfl, hS⟩
          refine ⟨_, rfl, ?_⟩
          replace hFL13 := ck_s hFL13; obtain ⟨hk15_11, hFL13⟩ := hFL13
          replace hFL13 := lv_s hFL13; obtain ⟨x101, hx101, hFL13⟩ := hFL13
          replace hFL13 := bd_s hFL13; obtain ⟨r15_12, hc15_12, hFL13⟩ := hFL13
          refine p (yl_not rfl) <| p (yl_move rfl) <| pg (v := .pointer (some ⟨b8, 1, none⟩)) 97 (c := !(!r15_5)) (says_f _) (fun hq => Yl.at (yl_field0 fld_160_1 rfl)) <| pg (v := .int .i64 y14_1.X0) 97 (c := !(!r15_5)) (says_f _) (fun hq => at_load one_3 (cv hq) (hS.cell rfl)) <|
            pg (v := .int .i64 r11_1.1) 97 (c := !(!r15_5)) (says_f _) (fun hq => Yl.at (yl_move eL13h_5)) <| pg (v := .int .i64 x101) 97 (c := !(!r15_5)) (says_f _) (fun hq => Yl.at (ysub (cv hq) rfl ⟨hx101, (hk15_11 hq)⟩)) <|
            pccg (v := .bool r15_12) 97 (c := !(!r15_5)) (says_f _) call_69 (fun hq => (args3 (cv hq) rfl (cv hq))) hS (fun hq => by
              have hcall := c_floor_within (gd_t hc15_12 hq)  (hS.pull 2)
              exact (Calls.mono hcall (fun e w'' h => And.intro h.1 ((h.2.pull 2).pull 2)))) (fun w' hS => ?_)
          replace hFL13 := lv_s hFL13; obtain ⟨x104, hx104, hFL13⟩ := hFL13
          replace hFL13 := ck_s hFL13; obtain ⟨hk15_19, hFL13⟩ := hFL13
          replace hFL13 := lv_s hFL13; obtain ⟨x109, hx109, hFL13⟩ := hFL13
          replace hFL13 := bd_s hFL13; obtain ⟨r15_20, hc15_20, hFL13⟩ := hFL13
          refine pg (v := .bool (!r15_12)) 97 (c := !(!r15_5)) (says_f _) (fun hq => Yl.at (yl_not (cv hq))) <| p (yor' rfl rfl (fun hc => (cv (t_not hc))) hx104) <| p (yl_move rfl) <| pg (v := .pointer (some ⟨b8, 2, none⟩)) 105 (c := !x104) (says_f _) (fun hq => Yl.at (yl_field0 fld_160_2 rfl)) <|
            pg (v := .int .i64 y14_1.Y0) 105 (c := !x104) (says_f _) (fun hq => at_load one_3 (cv hq) (hS.cell rfl)) <| pg (v := .int .i64 r11_1.2) 105 (c := !x104) (says_f _) (fun hq => Yl.at (yl_move eL13h_6)) <| pg (v := .int .i64 x109) 105 (c := !x104) (says_f _) (fun hq => Yl.at (ysub (cv hq) rfl ⟨hx109, (hk15_19 hq)⟩)) <|
            pccg (v := .bool r15_20) 105 (c := !x104) (says_f _) call_69 (fun hq => (args3 (cv hq) rfl (cv hq))) hS (fun hq => by
              have hcall := c_floor_within (gd_t hc15_20 hq)  (hS.pull 2)
              exact (Calls.mono hcall (fun e w'' h => And.intro h.1 ((h.2.pull 2).pull 2)))) (fun w' hS => ?_)
          replace hFL13 := lv_s hFL13; obtain ⟨x112, hx112, hFL13⟩ := hFL13
          replace hFL13 := ck_s hFL13; obtain ⟨hk15_29, hFL13⟩ := hFL13
          replace hFL13 := lv_s hFL13; obtain ⟨x119, hx119, hFL13⟩ := hFL13
          replace hFL13 := bd_s hFL13; obtain ⟨r15_30, hc15_30, hFL13⟩ := hFL13
          refine pg (v := .bool (!r15_20)) 105 (c := !x104) (says_f _) (fun hq => Yl.at (yl_not (cv hq))) <| p (yor' rfl rfl (fun hc => (cv (t_not hc))) hx112) <| p (yl_move rfl) <| pg (v := .pointer (some ⟨b8, 3, none⟩)) 113 (c := !x112) (says_f _) (fun hq => Yl.at (yl_field0 fld_160_3 rfl)) <|
            pg (v := .int .i64 y14_1.X1) 113 (c := !x112) (says_f _) (fun hq => at_load one_3 (cv hq) (hS.cell rfl)) <| pg (v := .pointer (some ⟨b8, 1, none⟩)) 113 (c := !x112) (says_f _) (fun hq => Yl.at (yl_field0 fld_160_1 rfl)) <| pg (v := .int .i64 y14_1.X0) 113 (c := !x112) (says_f _) (fun hq => at_load one_3 (cv hq) (hS.cell rfl)) <| pg (v := .int .i64 r11_1.1) 113 (c := !x112) (says_f _) (fun hq => Yl.at (yl_move eL13h_5)) <|
            pg (v := .int .i64 x119) 113 (c := !x112) (says_f _) (fun hq => Yl.at (ysub (cv hq) rfl ⟨hx119, (hk15_29 hq)⟩)) <|
            pccg (v := .bool r15_30) 113 (c := !x112) (says_f _) call_69 (fun hq => (args3 (cv hq) (cv hq) (cv hq))) hS (fun hq => by
              have hcall := c_floor_within (gd_t hc15_30 hq)  (hS.pull 2)
              exact (Calls.mono hcall (fun e w'' h => And.intro h.1 ((h.2.pull 2).pull 2)))) (fun w' hS => ?_)
          replace hFL13 := lv_s hFL13; obtain ⟨x122, hx122, hFL13⟩ := hFL13
          replace hFL13 := ck_s hFL13; obtain ⟨hk15_39, hFL13⟩ := hFL13
          replace hFL13 := lv_s hFL13; obtain ⟨x129, hx129, hFL13⟩ := hFL13
          replace hFL13 := bd_s hFL13; obtain ⟨r15_40, hc15_40, hFL13⟩ := hFL13
          refine pg (v := .bool (!r15_30)) 113 (c := !x112) (says_f _) (fun hq => Yl.at (yl_not (cv hq))) <| p (yor' rfl rfl (fun hc => (cv (t_not hc))) hx122) <| p (yl_move rfl) <| pg (v := .pointer (some ⟨b8, 4, none⟩)) 123 (c := !x122) (says_f _) (fun hq => Yl.at (yl_field0 fld_160_4 rfl)) <|
            pg (v := .int .i64 y14_1.Y1) 123 (c := !x122) (says_f _) (fun hq => at_load one_3 (cv hq) (hS.cell rfl)) <| pg (v := .pointer (some ⟨b8, 2, none⟩)) 123 (c := !x122) (says_f _) (fun hq => Yl.at (yl_field0 fld_160_2 rfl)) <| pg (v := .int .i64 y14_1.Y0) 123 (c := !x122) (says_f _) (fun hq => at_load one_3 (cv hq) (hS.cell rfl)) <| pg (v := .int .i64 r11_1.2) 123 (c := !x122) (says_f _) (fun hq => Yl.at (yl_move eL13h_6)) <|
            pg (v := .int .i64 x129) 123 (c := !x122) (says_f _) (fun hq => Yl.at (ysub (cv hq) rfl ⟨hx129, (hk15_39 hq)⟩)) <|
            pccg (v := .bool r15_40) 123 (c := !x122) (says_f _) call_69 (fun hq => (args3 (cv hq) (cv hq) (cv hq))) hS (fun hq => by
              have hcall := c_floor_within (gd_t hc15_40 hq)  (hS.pull 2)
              exact (Calls.mono hcall (fun e w'' h => And.intro h.1 ((h.2.pull 2).pull 2)))) (fun w' hS => ?_)
          replace hFL13 := lv_s hFL13; obtain ⟨x132, hx132, hFL13⟩ := hFL13
          refine pg (v := .bool (!r15_40)) 123 (c := !x122) (says_f _) (fun hq => Yl.at (yl_not (cv hq))) <| p (yor' rfl rfl (fun hc => (cv (t_not hc))) hx132) <| x_done <|
            x_cond (t := x132) rfl (fun hc132 => ?_) (fun hc132 => ?_)
          · replace hFL13 := it_t hc132 hFL13
            refine x_seq <| x_region <| p (yl_assign rfl) <| x_done <|
              ?_
            have e_ := Option.some.inj (show some _ = some _ from hFL13); subst e_
            have e_ := (show _ = oL13 from hLL13); subst e_
            have e_ := Option.some.inj (show some _ = some _ from hF); subst e_
            exact x_return ⟨_, ⟨_, _, rfl, rfl, rfl⟩, rfl, hS.drop.drop⟩
          · replace hFL13 := it_bf hc132 hFL13
            replace hFL13 := ar_s hFL13; obtain ⟨x133, hx133, hFL13⟩ := hFL13
            refine x_skip <| x_blk <| x_region <| p (yadd eL13h_86 rfl hx133) <|
              p (yl_move rfl) <| x_done <|
              ?_
            have e_ := Option.some.inj (show some _ = some _ from hFL13); subst e_
            exact x_inv ⟨kL13, Nat.lt_succ_self _, x133, hLL13, eL13h_1, eL13h_5, eL13h_6, eL13h_84, eL13h_85, rfl, ((hS.drop.pull 1).pull 1)⟩
        · replace hFL13 := it_f hc87 hFL13
          refine x_exitTo _ rfl <|
            ?_
          have e_ := Option.some.inj (show some _ = some _ from hFL13); subst e_
          exact x_inv ⟨hLL13, eL13h_1, ((hS.pull 1).pull 1)⟩
      rintro E w ⟨rfl, eL13_1, hS⟩
      refine x_seq <| x_seq <| x_region <| p (yl_field0 fld_55_5 eL13_1) <|
        pa (at_load one_53 rfl (hS.cell rfl)) <| p (yl_len_slice usl_53 rfl) <| p (yl_move rfl) <| x_done <|
        ?_
      replace hF := bs_s hF; obtain ⟨oL19, hLL19, hF⟩ := hF
      refine x_join (fun E w => (Sum.inl (())) = oL19 ∧ St w0 w (ro ρ :: l)) ?_ ?_
      · skip -- L19
        refine x_block ?_
        refine x_loop (fun k_ E w => ∃ (y137_L19h : Int), lp (P_floor_Check_L19 f0) k_ y137_L19h = some oL19 ∧ E 1 = .pointer (some ⟨b1, 0, none⟩) ∧ E 136 = .int .i64 (f0.Ports.length : Int) ∧ E 137 = .int .i64 y137_L19h ∧ St w0 w (cells b1 55 [.int .i64 f0.Rows, .int .i64 f0.Sites, .int .i64 f0.Layers, .slice A_f0_3 f0.Blocks.length c_f0_3, .slice A_f0_4 f0.Walls.length c_f0_4, .slice A_f0_5 f0.Ports.length c_f0_5] :: ro ρ :: l)) fuel ⟨0, hLL19, eL13_1, rfl, rfl, ((hS.pull 1).pull 1)⟩ ?_
        rintro kL19 E w ⟨y137_L19h, hLL19, eL19h_1, eL19h_136, eL19h_137, hS⟩
        replace hLL19 := lp_s hLL19; obtain ⟨kL19, obL19, rfl, hFL19, hLL19⟩ := hLL19
        refine x_seq <| x_region <| p (yl_lss eL19h_137 eL19h_136) <| x_done <|
          x_seq <|
          x_cond_p (y137_L19h < (f0.Ports.length : Int)) rfl (fun hc138 => ?_) (fun hc138 => ?_)
        · replace hFL19 := it_t hc138 hFL19
          replace hFL19 := bd_s hFL19; obtain ⟨r21_2, hc21_2, hFL19⟩ := hFL19
          refine x_skip <| x_seq <| x_block <| x_seq <|
            x_region <| p (yl_move eL19h_137) <| p (yl_assign rfl) <| x_done <|
            x_seq <| x_region <| pa (v := .agg #[.int .i64 f0.Rows, .int .i64 f0.Sites, .int .i64 f0.Layers, .slice A_f0_3 f0.Blocks.length c_f0_3, .slice A_f0_4 f0.Walls.length c_f0_4, .slice A_f0_5 f0.Ports.length c_f0_5]) (ld_sub agg_55 eL19h_1 rfl rfl hS) <| p (yl_move rfl) <|
            ?_
          have hcall := c_floor_checkPort hc21_2 h_f0_3 h_f0_4 h_f0_5 (hS.pull 1)
          refine o_cc call_71 (args2 rfl rfl) ((Calls.mono hcall (fun e w'' h => And.intro h.1 (h.2.pull 1)))) ?_
          rintro e w' ⟨rfl, hS⟩
          refine ⟨_, rfl, ?_⟩
          refine p (v := .int .i64 r21_2) (yl_assign rfl) <| x_done <| x_seq <| x_region <|
            p (v := .int .i64 r21_2) (yl_move rfl) <| p (yl_neq rfl rfl) <| x_done <|
            x_cond_p (r21_2 ≠ 0) rfl (fun hc144 => ?_) (fun hc144 => ?_)
          · replace hFL19 := it_t hc144 hFL19
            refine x_seq <| x_region <| p (v := .int .i64 r21_2) (yl_move rfl) <| p (v := .int .i64 r21_2) (yl_assign rfl) <|
              x_done <|
              ?_
            have e_ := Option.some.inj (show some _ = some _ from hFL19); subst e_
            have e_ := (show _ = oL19 from hLL19); subst e_
            have e_ := Option.some.inj (show some _ = some _ from hF); subst e_
            exact x_return ⟨_, ⟨_, _, rfl, rfl, rfl⟩, rfl, hS.drop⟩
          · replace hFL19 := it_f hc144 hFL19
            replace hFL19 := ar_s hFL19; obtain ⟨x146, hx146, hFL19⟩ := hFL19
            refine x_skip <| x_blk <| x_region <| p (yadd eL19h_137 rfl hx146) <|
              p (yl_move rfl) <| x_done <|
              ?_
            have e_ := Option.some.inj (show some _ = some _ from hFL19); subst e_
            exact x_inv ⟨kL19, Nat.lt_succ_self _, x146, hLL19, eL19h_1, eL19h_136, rfl, ((hS.pull 1).pull 1)⟩
        · replace hFL19 := it_f hc138 hFL19
          refine x_exitTo _ rfl <|
            ?_
          have e_ := Option.some.inj (show some _ = some _ from hFL19); subst e_
          exact x_inv ⟨hLL19, hS.drop⟩
      rintro E w ⟨rfl, hS⟩
      refine x_seq <| x_region <| p (yl_assign rfl) <| x_done <|
        ?_
      have e_ := Option.some.inj (show some _ = some _ from hF); subst e_
      exact x_return ⟨_, ⟨_, _, rfl, rfl, rfl⟩, rfl, hS⟩
attribute [irreducible] P_floor_Check

def P_maskkeep4_floors : Option Bool :=
  bd (P_floor_Size (T_floor_Floor.mk 1 2 2 [] [] [])) fun r2_1 =>
  lv ((decide (r2_1.1 = 16)) && (decide (r2_1.2 = 12))) fun x15 =>
  bd (gd (x15) (P_floor_Check (T_floor_Floor.mk 1 2 2 [] [] []))) fun r3_8 =>
  lv (x15 && (decide (r3_8 = 0))) fun x20 =>
  bd (gd (x20) (P_floor_Check (T_floor_Floor.mk 0 0 0 [] [] []))) fun r3_13 =>
  lv (x20 && (decide (r3_13 = 2))) fun x25 =>
  some x25
set_option maxHeartbeats 4000000 in
set_option maxRecDepth 100000 in
theorem c_maskkeep4_floors {w0 w : World} {l : List Assn} {ρ : Heap} {r : Bool} (hF : P_maskkeep4_floors = some r) (hS : St w0 w (ro ρ :: l)) :
    Calls Tryd.prog 23 #[] w fun e w' => e = .returned (.bool r) ∧ St w0 w' (ro ρ :: l) := by
  refine enterC Tryd.func23 rfl 26 rfl (by simp) ?_
  refine x_seq <| x_region <| p (yl_assign rfl) <| x_done <|
    x_seq <| x_region <| p (v := .agg #[.int .i64 1, .int .i64 2, .int .i64 2, .slice none 0 0, .slice none 0 0, .slice none 0 0]) (yl_build bld_55 bldf_55 (parts_eq (pt (va := .int .i64 1) rfl (pt (va := .int .i64 2) rfl (pt (va := .int .i64 2) rfl pt0)))) (by kernel_rfl)) <|
    ?_
  refine o_alloc zero_55 hS (fun b1 w' hS => ?_)
  refine o_storeAgg (news := [.int .i64 1, .int .i64 2, .int .i64 2, .slice none 0 0, .slice none 0 0, .slice none 0 0]) agg_55 rfl rfl rfl (by simp [over_length]) hS (fun w' hS => ?_)
  replace hF := bd_s hF; obtain ⟨r2_1, hc2_1, hF⟩ := hF
  refine x_done <| x_seq <| x_region <| pa (v := .agg #[.int .i64 1, .int .i64 2, .int .i64 2, .slice none 0 0, .slice none 0 0, .slice none 0 0]) (ld_sub agg_55 rfl rfl rfl hS) <|
    ?_
  have hcall := c_floor_Size hc2_1 (RdS.nil (A := none) (c := 0)) (RdS.nil (A := none) (c := 0)) (RdS.nil (A := none) (c := 0)) (hS.pull 1)
  refine o_cc call_35 (args1 rfl) ((Calls.mono hcall (fun e w'' h => And.intro h.1 (h.2.pull 1)))) ?_
  rintro e w' ⟨rfl, hS⟩
  refine ⟨_, rfl, ?_⟩
  replace hF := lv_s hF; obtain ⟨x15, hx15, hF⟩ := hF
  replace hF := bd_s hF; obtain ⟨r3_8, hc3_8, hF⟩ := hF
  refine p (v := .tuple #[.int .i64 r2_1.1, .int .i64 r2_1.2]) (yl_move rfl) <| p (yl_extract rfl rfl) <| p (yl_extract rfl rfl) <| p (yl_assign rfl) <|
    p (yl_assign rfl) <| x_done <| x_seq <| x_region <|
    p (yl_move rfl) <| p (yl_eql rfl rfl) <| p (yl_move rfl) <| pg (v := .int .i64 r2_1.2) 12 (c := decide (r2_1.1 = 16)) (says_t _) (fun hq => Yl.at (yl_move rfl)) <|
    pg (v := .bool (decide (r2_1.2 = 12))) 12 (c := decide (r2_1.1 = 16)) (says_t _) (fun hq => Yl.at (yl_eql (cv hq) rfl)) <| p (yand' rfl (fun hc => (cv hc)) rfl hx15) <| p (yl_move rfl) <| pg (v := .agg #[.int .i64 1, .int .i64 2, .int .i64 2, .slice none 0 0, .slice none 0 0, .slice none 0 0]) 16 (c := x15) (says_t _) (fun hq => ld_sub agg_55 rfl rfl rfl hS) <|
    pccg (v := .int .i64 r3_8) 16 (c := x15) (says_t _) call_24 (fun hq => (args1 (cv hq))) hS (fun hq => by
      have hcall := c_floor_Check (gd_t hc3_8 hq) (RdS.nil (A := none) (c := 0)) (RdS.nil (A := none) (c := 0)) (RdS.nil (A := none) (c := 0)) (hS.pull 1)
      exact (Calls.mono hcall (fun e w'' h => And.intro h.1 (h.2.pull 1)))) (fun w' hS => ?_)
  replace hF := lv_s hF; obtain ⟨x20, hx20, hF⟩ := hF
  replace hF := bd_s hF; obtain ⟨r3_13, hc3_13, hF⟩ := hF
  refine pg (v := .bool (decide (r3_8 = 0))) 16 (c := x15) (says_t _) (fun hq => Yl.at (yl_eql (cv hq) rfl)) <| p (yand' rfl (fun hc => (cv hc)) rfl hx20) <| p (yl_move rfl) <| pg (v := .agg #[.int .i64 0, .int .i64 0, .int .i64 0, .slice none 0 0, .slice none 0 0, .slice none 0 0]) 21 (c := x20) (says_t _) (fun hq => Yl.at (yl_build bld_55 bldf_55 (parts_eq pt0) (by kernel_rfl))) <|
    pccg (v := .int .i64 r3_13) 21 (c := x20) (says_t _) call_24 (fun hq => (args1 (cv hq))) hS (fun hq => by
      have hcall := c_floor_Check (gd_t hc3_13 hq) (RdS.nil (A := none) (c := 0)) (RdS.nil (A := none) (c := 0)) (RdS.nil (A := none) (c := 0)) (hS.pull 1)
      exact (Calls.mono hcall (fun e w'' h => And.intro h.1 (h.2.pull 1)))) (fun w' hS => ?_)
  replace hF := lv_s hF; obtain ⟨x25, hx25, hF⟩ := hF
  refine pg (v := .bool (decide (r3_13 = 2))) 21 (c := x20) (says_t _) (fun hq => Yl.at (yl_eql (cv hq) rfl)) <| p (yand' rfl (fun hc => (cv hc)) rfl hx25) <| p (yl_assign rfl) <| x_done <|
    ?_
  have e_ := Option.some.inj (show some _ = some _ from hF); subst e_
  exact x_return ⟨_, ⟨_, _, rfl, rfl, rfl⟩, rfl, hS.drop⟩
attribute [irreducible] P_maskkeep4_floors

def P_maskkeep4_FloorPlans_L10 (r9_2 : List Int) : (Int × Int) → Option ((Int × Int) ⊕ Int) := fun (need11_L10h, y83_L10h) =>
  if y83_L10h < (r9_2.length : Int) then
    ck (inb y83_L10h r9_2.length) <|
    lv (gt r9_2 y83_L10h) fun x86 =>
    ar (need11_L10h + x86) fun x89 =>
    ar (y83_L10h + 1) fun x90 =>
    some (Sum.inl (x89, x90))
  else
    some (Sum.inr need11_L10h)
def P_maskkeep4_FloorPlans_L15 (r2_1 : (List T_api_Cell × Int)) : (Int × Int) → Option ((Int × Int) ⊕ Int) := fun (most12_L15h, y93_L15h) =>
  if y93_L15h < (r2_1.1.length : Int) then
    ck (inb y93_L15h r2_1.1.length) <|
    lv (gt r2_1.1 y93_L15h) fun y16_1 =>
    lv (max most12_L15h y16_1.Area) fun x100 =>
    ar (y93_L15h + 1) fun x101 =>
    some (Sum.inl (x100, x101))
  else
    some (Sum.inr most12_L15h)
def P_maskkeep4_FloorPlans_L23 (r5_3 : (T_floor_Floor × Int)) (r19_1 : List T_floor_Port) : Int → Option (Int ⊕ (Unit ⊕ Bool)) := fun y130_L23h =>
  if y130_L23h < (r19_1.length : Int) then
    ck (inb y130_L23h r19_1.length) <|
    lv (gt r19_1 y130_L23h) fun y24_2 =>
    ck (inb y130_L23h r5_3.1.Ports.length) <|
    lv (gt r5_3.1.Ports y130_L23h) fun y25_5 =>
    ck ((!(decide (y25_5.Name ≠ y24_2.Name))) = true → inb y130_L23h r5_3.1.Ports.length) <|
    lv ((decide (y25_5.Name ≠ y24_2.Name)) || (!(((gt r5_3.1.Ports y130_L23h).Out) == y24_2.Out))) fun x154 =>
    if x154 = true then
      some (Sum.inr (Sum.inr false))
    else
      ar (y130_L23h + 1) fun x155 =>
      some (Sum.inl x155)
  else
    some (Sum.inr (Sum.inl ()))
def P_maskkeep4_FloorPlans (l_0 : List Int) (layers1 : Int) : Option Bool :=
  bd (P_maskmake_Stream_LayLib (T_maskmake_Stream.mk l_0 0)) fun r2_1 =>
  bd (P_maskmake_Stream_Range (T_maskmake_Stream.mk l_0 r2_1.2) 1 9) fun r3_3 =>
  bd (P_maskmake_Stream_Next (T_maskmake_Stream.mk l_0 r3_3.2) 12) fun r3_5 =>
  bd (P_maskmake_Stream_Next (T_maskmake_Stream.mk l_0 r3_5.2) 60) fun r3_7 =>
  bd (P_maskmake_Stream_Range (T_maskmake_Stream.mk l_0 r3_7.2) 1 9) fun r3_9 =>
  bd (P_maskmake_Stream_Placed (T_maskmake_Stream.mk l_0 r3_9.2) r2_1.1 r3_3.1 r3_5.1 r3_7.1 r3_9.1) fun r3_10 =>
  bd (P_maskmake_Below layers1 5) fun r4_1 =>
  ar ((2 : Int) + r4_1) fun x40 =>
  bd (P_floor_Plan r3_10.1 r2_1.1 x40) fun r5_3 =>
  bd (P_maskkeep4_floors) fun r6_0 =>
  lv ((!r6_0) || (decide (r5_3.2 ≠ 0))) fun x53 =>
  bd (gd (!x53) (P_floor_Check r5_3.1)) fun r6_8 =>
  lv (x53 || (decide (r6_8 ≠ 0))) fun x58 =>
  lv (x58 || (decide (r5_3.1.Layers ≠ x40))) fun x64 =>
  ck ((!x64) = true → I64 ((r5_3.1.Blocks.length : Int) + (r5_3.1.Walls.length : Int))) <|
  lv ((r5_3.1.Blocks.length : Int) + (r5_3.1.Walls.length : Int)) fun x72 =>
  lv (x64 || (decide (0 < x72))) fun x74 =>
  if x74 = true then
    some false
  else
    ar ((4 : Int) * (r3_10.1.Flops.length : Int)) fun x78 =>
    bd (P_floor_Areas r3_10.1 r2_1.1) fun r9_2 =>
    bd (
      lp (P_maskkeep4_FloorPlans_L10 r9_2) fuel (x78, 0)) fun need11_L10 =>
    bd (
      lp (P_maskkeep4_FloorPlans_L15 r2_1) fuel (1, 0)) fun most12_L15 =>
    bd (P_floor_Names r3_10.1) fun r19_1 =>
    ar (r5_3.1.Rows * r5_3.1.Sites) fun x108 =>
    ar ((2 : Int) * need11_L10) fun x110 =>
    ar (most12_L15 - 1) fun x115 =>
    ar (r5_3.1.Rows * x115) fun x116 =>
    ar (need11_L10 + x116) fun x117 =>
    lv (max x110 x117) fun x118 =>
    lv ((decide (x108 < x118)) || (decide ((r5_3.1.Ports.length : Int) ≠ (r19_1.length : Int)))) fun x127 =>
    if x127 = true then
      some false
    else
      bs (
        lp (P_maskkeep4_FloorPlans_L23 r5_3 r19_1) fuel 0) (fun y => some y) fun _ =>
      bd (P_floor_Plan r3_10.1 r2_1.1 1) fun r28_2 =>
      some (decide (r28_2.2 = 2))
set_option maxHeartbeats 4000000 in
set_option maxRecDepth 100000 in
theorem c_maskkeep4_FloorPlans {w0 w : World} {l : List Assn} {ρ : Heap} {A_l_0 : Option Addr} {n_l_0 : Nat} {c_l_0 : Nat} {l_0 : List Int} {layers1 : Int} {r : Bool} (hF : P_maskkeep4_FloorPlans l_0 layers1 = some r) (h_l_0 : RdS (RpI .i64) ρ A_l_0 n_l_0 c_l_0 l_0) (hS : St w0 w (ro ρ :: l)) :
    Calls Tryd.prog 4 #[.slice A_l_0 n_l_0 c_l_0, .int .i64 layers1] w fun e w' => e = .returned (.bool r) ∧ St w0 w' (ro ρ :: l) := by
  have e_ := h_l_0.n; subst e_
  refine enterC Tryd.func4 rfl 164 rfl (by simp) ?_
  refine x_seq <| x_region <| p (yl_assign rfl) <| x_done <|
    x_seq <| x_region <| p (yl_move rfl) <| p (v := .agg #[.slice A_l_0 l_0.length c_l_0, .int .i64 0]) (yl_build bld_25 bldf_25 (parts_eq (pt (va := .slice A_l_0 l_0.length c_l_0) rfl pt0)) (by kernel_rfl)) <|
    ?_
  refine o_box (cs := [.slice A_l_0 l_0.length c_l_0, .int .i64 0]) rfl rfl hS (fun b24 w' hS => ?_)
  replace hF := bd_s hF; obtain ⟨r2_1, hc2_1, hF⟩ := hF
  refine p (yl_assign rfl) <| x_done <| x_seq <| x_region <|
    p (yl_move rfl) <|
    ?_
  have hcall := c_maskmake_Stream_LayLib hc2_1 h_l_0 ((hS.pull 1).pull 1)
  refine o_cc call_18 (args1 rfl) hcall ?_
  rintro e w' ⟨ρ'_2_1, A_y0_ret_2_1, n_y0_ret_2_1, c_y0_ret_2_1, cs_y0_ret_2_1, rfl, hle2_1, h_y0_ret_2_1, hS⟩
  refine ⟨_, rfl, ?_⟩
  have e_ := St.vec_n hS h_y0_ret_2_1; subst e_
  replace hF := bd_s hF; obtain ⟨r3_3, hc3_3, hF⟩ := hF
  refine p (yl_assign rfl) <| x_done <| x_seq <| x_region <|
    p (yl_move rfl) <| p (yl_move rfl) <| p (yl_move rfl) <|
    ?_
  have hcall := c_maskmake_Stream_Range hc3_3 (h_l_0.le hle2_1) ((hS.pull 2).pull 2)
  refine o_cc call_20 (args3 rfl rfl rfl) hcall ?_
  rintro e w' ⟨rfl, hS⟩
  refine ⟨_, rfl, ?_⟩
  replace hF := bd_s hF; obtain ⟨r3_5, hc3_5, hF⟩ := hF
  refine p (yl_move rfl) <|
    ?_
  have hcall := c_maskmake_Stream_Next hc3_5 (h_l_0.le hle2_1) ((hS.pull 1).pull 1)
  refine o_cc call_14 (args2 rfl rfl) hcall ?_
  rintro e w' ⟨rfl, hS⟩
  refine ⟨_, rfl, ?_⟩
  replace hF := bd_s hF; obtain ⟨r3_7, hc3_7, hF⟩ := hF
  refine p (yl_move rfl) <|
    ?_
  have hcall := c_maskmake_Stream_Next hc3_7 (h_l_0.le hle2_1) ((hS.pull 1).pull 1)
  refine o_cc call_14 (args2 rfl rfl) hcall ?_
  rintro e w' ⟨rfl, hS⟩
  refine ⟨_, rfl, ?_⟩
  replace hF := bd_s hF; obtain ⟨r3_9, hc3_9, hF⟩ := hF
  refine p (yl_move rfl) <|
    ?_
  have hcall := c_maskmake_Stream_Range hc3_9 (h_l_0.le hle2_1) ((hS.pull 1).pull 1)
  refine o_cc call_20 (args3 rfl rfl rfl) hcall ?_
  rintro e w' ⟨rfl, hS⟩
  refine ⟨_, rfl, ?_⟩
  have q_ := St.vec_fz ((hS.pull 1).pull 2) h_y0_ret_2_1; obtain ⟨ρz3_10, hlez3_10, fz3_10, hS⟩ := q_
  replace hF := bd_s hF; obtain ⟨r3_10, hc3_10, hF⟩ := hF
  have hcall := c_maskmake_Stream_Placed hc3_10 (h_l_0.le (hle2_1.trans hlez3_10)) fz3_10 (hS.pull 1)
  refine o_cc call_19 (args6 rfl rfl rfl rfl rfl rfl) hcall ?_
  rintro e w' ⟨ρ'_3_10, A_y0_ret_0_3_10, n_y0_ret_0_3_10, c_y0_ret_0_3_10, cs_y0_ret_0_3_10, A_y0_ret_1_3_10, n_y0_ret_1_3_10, c_y0_ret_1_3_10, cs_y0_ret_1_3_10, A_y0_ret_2_3_10, n_y0_ret_2_3_10, c_y0_ret_2_3_10, cs_y0_ret_2_3_10, A_y0_ret_3_3_10, n_y0_ret_3_3_10, c_y0_ret_3_3_10, cs_y0_ret_3_3_10, A_y0_ret_4_3_10, n_y0_ret_4_3_10, c_y0_ret_4_3_10, cs_y0_ret_4_3_10, rfl, hle3_10, h_y0_ret_0_3_10, h_y0_ret_1_3_10, h_y0_ret_2_3_10, h_y0_ret_3_3_10, h_y0_ret_4_3_10, hS⟩
  refine ⟨_, rfl, ?_⟩
  have e_ := St.vec_n hS h_y0_ret_0_3_10; subst e_
  have e_ := St.vec_n (hS.pull 1) h_y0_ret_1_3_10; subst e_
  have e_ := St.vec_n (hS.pull 2) h_y0_ret_2_3_10; subst e_
  have e_ := St.vec_n (hS.pull 3) h_y0_ret_3_3_10; subst e_
  have e_ := St.vec_n (hS.pull 4) h_y0_ret_4_3_10; subst e_
  refine o_alloc zero_30 hS (fun b7 w' hS => ?_)
  refine o_storeAgg (news := [.slice A_y0_ret_0_3_10 r3_10.1.In.length c_y0_ret_0_3_10, .slice A_y0_ret_1_3_10 r3_10.1.Out.length c_y0_ret_1_3_10, .slice A_y0_ret_2_3_10 r3_10.1.Flops.length c_y0_ret_2_3_10, .slice A_y0_ret_3_3_10 r3_10.1.Gates.length c_y0_ret_3_3_10, .slice A_y0_ret_4_3_10 r3_10.1.Outs.length c_y0_ret_4_3_10]) agg_30 rfl rfl rfl (by simp [over_length]) hS (fun w' hS => ?_)
  replace hF := bd_s hF; obtain ⟨r4_1, hc4_1, hF⟩ := hF
  refine x_done <| x_seq <| x_region <| p (yl_move rfl) <|
    ?_
  have hcall := c_maskmake_Below hc4_1  (hS.pull 7)
  refine o_cc call_21 (args2 rfl rfl) ((Calls.mono hcall (fun e w'' h => And.intro h.1 (((((((h.2.pull 7).pull 7).pull 7).pull 7).pull 7).pull 7).pull 7)))) ?_
  rintro e w' ⟨rfl, hS⟩
  refine ⟨_, rfl, ?_⟩
  replace hF := ar_s hF; obtain ⟨x40, hx40, hF⟩ := hF
  replace hF := bd_s hF; obtain ⟨r5_3, hc5_3, hF⟩ := hF
  refine p (yadd rfl rfl hx40) <| p (yl_assign rfl) <| x_done <| x_seq <|
    x_region <| pa (v := .agg #[.slice A_y0_ret_0_3_10 r3_10.1.In.length c_y0_ret_0_3_10, .slice A_y0_ret_1_3_10 r3_10.1.Out.length c_y0_ret_1_3_10, .slice A_y0_ret_2_3_10 r3_10.1.Flops.length c_y0_ret_2_3_10, .slice A_y0_ret_3_3_10 r3_10.1.Gates.length c_y0_ret_3_3_10, .slice A_y0_ret_4_3_10 r3_10.1.Outs.length c_y0_ret_4_3_10]) (ld_sub agg_30 rfl rfl rfl hS) <| p (yl_move rfl) <| p (yl_move rfl) <|
    ?_
  have q_ := St.lend ((hS.pull 7).pull 2) h_y0_ret_0_3_10; obtain ⟨ρl0, hll0, hlf0, hS0, back0⟩ := q_
  have q_ := St.lend (hS0.pull 2) (h_y0_ret_1_3_10.le hll0); obtain ⟨ρl1, hll1, hlf1, hS1, back1⟩ := q_
  have q_ := St.lend (hS1.pull 2) (h_y0_ret_2_3_10.le (hll0.trans hll1)); obtain ⟨ρl2, hll2, hlf2, hS2, back2⟩ := q_
  have q_ := St.lend (hS2.pull 2) (h_y0_ret_3_3_10.le ((hll0.trans hll1).trans hll2)); obtain ⟨ρl3, hll3, hlf3, hS3, back3⟩ := q_
  have q_ := St.lend (hS3.pull 2) (h_y0_ret_4_3_10.le (((hll0.trans hll1).trans hll2).trans hll3)); obtain ⟨ρl4, hll4, hlf4, hS4, back4⟩ := q_
  have hcall := c_floor_Plan hc5_3 (hlf0.le (((hll1.trans hll2).trans hll3).trans hll4)) (hlf1.le ((hll2.trans hll3).trans hll4)) (hlf2.le (hll3.trans hll4)) (hlf3.le hll4) hlf4 ((fz3_10.le hle3_10).le ((((hll0.trans hll1).trans hll2).trans hll3).trans hll4)) hS4
  refine o_cc call_22 (args3 rfl rfl rfl) hcall ?_
  rintro e w' ⟨A_y0_ret_3_5_3, n_y0_ret_3_5_3, c_y0_ret_3_5_3, cs_y0_ret_3_5_3, A_y0_ret_4_5_3, n_y0_ret_4_5_3, c_y0_ret_4_5_3, cs_y0_ret_4_5_3, A_y0_ret_5_5_3, n_y0_ret_5_5_3, c_y0_ret_5_5_3, cs_y0_ret_5_5_3, rfl, h_y0_ret_3_5_3, h_y0_ret_4_5_3, h_y0_ret_5_5_3, hS⟩
  refine ⟨_, rfl, ?_⟩
  replace hS := back4 (hS.pull 3)
  replace hS := back3 (hS.pull 1)
  replace hS := back2 (hS.pull 1)
  replace hS := back1 (hS.pull 1)
  replace hS := back0 (hS.pull 1)
  replace h_y0_ret_3_5_3 : RepL R_floor_Block ρ'_3_10 r5_3.1.Blocks cs_y0_ret_3_5_3 := RepL.flat (fun h => h) h_y0_ret_3_5_3
  have e_ := St.vec_n (hS.pull 6) h_y0_ret_3_5_3; subst e_
  replace h_y0_ret_4_5_3 : RepL R_floor_Wall ρ'_3_10 r5_3.1.Walls cs_y0_ret_4_5_3 := RepL.flat (fun h => h) h_y0_ret_4_5_3
  have e_ := St.vec_n (hS.pull 7) h_y0_ret_4_5_3; subst e_
  replace h_y0_ret_5_5_3 : RepL R_floor_Port ρ'_3_10 r5_3.1.Ports cs_y0_ret_5_5_3 := RepL.flat (fun h => h) h_y0_ret_5_5_3
  have e_ := St.vec_n (hS.pull 8) h_y0_ret_5_5_3; subst e_
  refine p (yl_move rfl) <| p (yl_extract rfl rfl) <| p (yl_extract rfl rfl) <|
    ?_
  refine o_alloc zero_55 hS (fun b9 w' hS => ?_)
  refine o_storeAgg (news := [.int .i64 r5_3.1.Rows, .int .i64 r5_3.1.Sites, .int .i64 r5_3.1.Layers, .slice A_y0_ret_3_5_3 r5_3.1.Blocks.length c_y0_ret_3_5_3, .slice A_y0_ret_4_5_3 r5_3.1.Walls.length c_y0_ret_4_5_3, .slice A_y0_ret_5_5_3 r5_3.1.Ports.length c_y0_ret_5_5_3]) agg_55 rfl rfl rfl (by simp [over_length]) hS (fun w' hS => ?_)
  replace hF := bd_s hF; obtain ⟨r6_0, hc6_0, hF⟩ := hF
  refine p (yl_assign rfl) <| x_done <| x_seq <| x_seq <|
    x_region <|
    ?_
  have hcall := c_maskkeep4_floors hc6_0  (hS.pull 2)
  refine o_cc call_23 args0 ((Calls.mono hcall (fun e w'' h => And.intro h.1 ((((((((((((h.2.pull 11).pull 11).pull 11).pull 11).pull 11).pull 11).pull 11).pull 11).pull 11).pull 9).pull 11).pull 11)))) ?_
  rintro e w' ⟨rfl, hS⟩
  refine ⟨_, rfl, ?_⟩
  replace hF := lv_s hF; obtain ⟨x53, hx53, hF⟩ := hF
  replace hF := bd_s hF; obtain ⟨r6_8, hc6_8, hF⟩ := hF
  refine p (yl_not rfl) <| p (yl_move rfl) <| pg (v := .int .i64 r5_3.2) 50 (c := !(!r6_0)) (says_f _) (fun hq => Yl.at (yl_move rfl)) <| pg (v := .bool (decide (r5_3.2 ≠ 0))) 50 (c := !(!r6_0)) (says_f _) (fun hq => Yl.at (yl_neq (cv hq) rfl)) <|
    p (yor' rfl rfl (fun hc => (cv (t_not hc))) hx53) <| p (yl_move rfl) <| pg (v := .agg #[.int .i64 r5_3.1.Rows, .int .i64 r5_3.1.Sites, .int .i64 r5_3.1.Layers, .slice A_y0_ret_3_5_3 r5_3.1.Blocks.length c_y0_ret_3_5_3, .slice A_y0_ret_4_5_3 r5_3.1.Walls.length c_y0_ret_4_5_3, .slice A_y0_ret_5_5_3 r5_3.1.Ports.length c_y0_ret_5_5_3]) 54 (c := !x53) (says_f _) (fun hq => ld_sub agg_55 rfl rfl rfl hS) <|
    pccg (v := .int .i64 r6_8) 54 (c := !x53) (says_f _) call_24 (fun hq => (args1 (cv hq))) hS (fun hq => by
      obtain ⟨ρl0, hll0, hlf0, hS0, back0⟩ := St.lend ((hS.pull 2).pull 7) h_y0_ret_3_5_3
      obtain ⟨ρl1, hll1, hlf1, hS1, back1⟩ := St.lend (hS0.pull 7) (h_y0_ret_4_5_3.le hll0)
      obtain ⟨ρl2, hll2, hlf2, hS2, back2⟩ := St.lend (hS1.pull 7) (h_y0_ret_5_5_3.le (hll0.trans hll1))
      have hcall := c_floor_Check (gd_t hc6_8 hq) (hlf0.le (hll1.trans hll2)) (hlf1.le hll2) hlf2 hS2
      exact (Calls.mono hcall (fun e w'' h => And.intro h.1 (((((((((((((back0 ((back1 ((back2 h.2).pull 1)).pull 1)).pull 11).pull 11).pull 5).pull 5).pull 4).pull 11).pull 11).pull 11).pull 11).pull 9).pull 11).pull 11)))) (fun w' hS => ?_)
  replace hF := lv_s hF; obtain ⟨x58, hx58, hF⟩ := hF
  replace hF := lv_s hF; obtain ⟨x64, hx64, hF⟩ := hF
  replace hF := ck_s hF; obtain ⟨hk6_24, hF⟩ := hF
  replace hF := lv_s hF; obtain ⟨x72, hx72, hF⟩ := hF
  replace hF := lv_s hF; obtain ⟨x74, hx74, hF⟩ := hF
  refine pg (v := .bool (decide (r6_8 ≠ 0))) 54 (c := !x53) (says_f _) (fun hq => Yl.at (yl_neq (cv hq) rfl)) <| p (yor' rfl rfl (fun hc => (cv (t_not hc))) hx58) <| p (yl_move rfl) <| pg (v := .pointer (some ⟨b9, 2, none⟩)) 59 (c := !x58) (says_f _) (fun hq => Yl.at (yl_field0 fld_55_2 rfl)) <|
    pg (v := .int .i64 r5_3.1.Layers) 59 (c := !x58) (says_f _) (fun hq => at_load one_3 (cv hq) (hS.cell rfl)) <| pg (v := .int .i64 x40) 59 (c := !x58) (says_f _) (fun hq => Yl.at (yl_move rfl)) <| pg (v := .bool (decide (r5_3.1.Layers ≠ x40))) 59 (c := !x58) (says_f _) (fun hq => Yl.at (yl_neq (cv hq) (cv hq))) <| p (yor' rfl rfl (fun hc => (cv (t_not hc))) hx64) <|
    p (yl_move rfl) <| pg (v := .pointer (some ⟨b9, 3, none⟩)) 65 (c := !x64) (says_f _) (fun hq => Yl.at (yl_field0 fld_55_3 rfl)) <| pg (v := .slice A_y0_ret_3_5_3 r5_3.1.Blocks.length c_y0_ret_3_5_3) 65 (c := !x64) (says_f _) (fun hq => at_load one_51 (cv hq) (hS.cell rfl)) <| pg (v := .int .i64 (r5_3.1.Blocks.length : Int)) 65 (c := !x64) (says_f _) (fun hq => Yl.at (yl_len_slice usl_51 (cv hq))) <|
    pg (v := .pointer (some ⟨b9, 4, none⟩)) 65 (c := !x64) (says_f _) (fun hq => Yl.at (yl_field0 fld_55_4 rfl)) <| pg (v := .slice A_y0_ret_4_5_3 r5_3.1.Walls.length c_y0_ret_4_5_3) 65 (c := !x64) (says_f _) (fun hq => at_load one_52 (cv hq) (hS.cell rfl)) <| pg (v := .int .i64 (r5_3.1.Walls.length : Int)) 65 (c := !x64) (says_f _) (fun hq => Yl.at (yl_len_slice usl_52 (cv hq))) <| pg (v := .int .i64 x72) 65 (c := !x64) (says_f _) (fun hq => Yl.at (yadd (cv hq) (cv hq) ⟨hx72, (hk6_24 hq)⟩)) <|
    pg (v := .bool (decide (0 < x72))) 65 (c := !x64) (says_f _) (fun hq => Yl.at (yl_gtr (cv hq) rfl)) <| p (yor' rfl rfl (fun hc => (cv (t_not hc))) hx74) <| x_done <|
    x_cond (t := x74) rfl (fun hc74 => ?_) (fun hc74 => ?_)
  · replace hF := it_t hc74 hF
    refine x_seq <| x_region <| p (yl_assign rfl) <| x_done <|
      ?_
    have e_ := Option.some.inj (show some _ = some _ from hF); subst e_
    exact x_return ⟨_, ⟨_, _, rfl, rfl, rfl⟩, rfl, (ro_back0 ((hle2_1.trans hlez3_10).trans hle3_10) ((((((((((hS.drop.drop.pull 1).drop.pull 1).drop.pull 1).drop.pull 1).drop.pull 1).drop.pull 1).drop.pull 1).drop.pull 1).drop.pull 1).drop))⟩
  · replace hF := it_bf hc74 hF
    replace hF := ar_s hF; obtain ⟨x78, hx78, hF⟩ := hF
    replace hF := bd_s hF; obtain ⟨r9_2, hc9_2, hF⟩ := hF
    refine x_skip <| x_seq <| x_region <| p (yl_field0 fld_30_2 rfl) <|
      pa (at_load one_27 rfl ((hS.pull 10).cell rfl)) <| p (yl_len_slice usl_27 rfl) <| p (ymul rfl rfl hx78) <| p (yl_assign rfl) <|
      p (yl_assign rfl) <| x_done <| x_seq <| x_seq <|
      x_region <| pa (v := .agg #[.slice A_y0_ret_0_3_10 r3_10.1.In.length c_y0_ret_0_3_10, .slice A_y0_ret_1_3_10 r3_10.1.Out.length c_y0_ret_1_3_10, .slice A_y0_ret_2_3_10 r3_10.1.Flops.length c_y0_ret_2_3_10, .slice A_y0_ret_3_3_10 r3_10.1.Gates.length c_y0_ret_3_3_10, .slice A_y0_ret_4_3_10 r3_10.1.Outs.length c_y0_ret_4_3_10]) (ld_sub agg_30 rfl rfl rfl (hS.pull 10)) <| p (yl_move rfl) <|
      ?_
    have q_ := St.lend ((hS.pull 2).pull 2) h_y0_ret_0_3_10; obtain ⟨ρl0, hll0, hlf0, hS0, back0⟩ := q_
    have q_ := St.lend (hS0.pull 2) (h_y0_ret_1_3_10.le hll0); obtain ⟨ρl1, hll1, hlf1, hS1, back1⟩ := q_
    have q_ := St.lend (hS1.pull 2) (h_y0_ret_2_3_10.le (hll0.trans hll1)); obtain ⟨ρl2, hll2, hlf2, hS2, back2⟩ := q_
    have q_ := St.lend (hS2.pull 2) (h_y0_ret_3_3_10.le ((hll0.trans hll1).trans hll2)); obtain ⟨ρl3, hll3, hlf3, hS3, back3⟩ := q_
    have q_ := St.lend (hS3.pull 2) (h_y0_ret_4_3_10.le (((hll0.trans hll1).trans hll2).trans hll3)); obtain ⟨ρl4, hll4, hlf4, hS4, back4⟩ := q_
    have hcall := c_floor_Areas hc9_2 (hlf0.le (((hll1.trans hll2).trans hll3).trans hll4)) (hlf1.le ((hll2.trans hll3).trans hll4)) (hlf2.le (hll3.trans hll4)) (hlf3.le hll4) hlf4 ((fz3_10.le hle3_10).le ((((hll0.trans hll1).trans hll2).trans hll3).trans hll4)) hS4
    refine o_cc call_25 (args2 rfl rfl) hcall ?_
    rintro e w' ⟨A_y0_ret_9_2, n_y0_ret_9_2, c_y0_ret_9_2, cs_y0_ret_9_2, rfl, h_y0_ret_9_2, hS⟩
    refine ⟨_, rfl, ?_⟩
    replace hS := back4 (hS.pull 1)
    replace hS := back3 (hS.pull 1)
    replace hS := back2 (hS.pull 1)
    replace hS := back1 (hS.pull 1)
    replace hS := back0 (hS.pull 1)
    replace h_y0_ret_9_2 : RepL (RpI .i64) ρ'_3_10 r9_2 cs_y0_ret_9_2 := RepL.flat (fun h => h) h_y0_ret_9_2
    have e_ := St.vec_n (hS.pull 6) h_y0_ret_9_2; subst e_
    refine p (yl_len_slice usl_22 rfl) <| p (yl_move rfl) <| x_done <|
      ?_
    replace hF := bd_s hF; obtain ⟨oL10, hLL10, hF⟩ := hF
    refine x_join (fun E w => ∃ (need11_L10 : Int), need11_L10 = oL10 ∧ E 6 = .slice A_y0_ret_2_1 r2_1.1.length c_y0_ret_2_1 ∧ E 7 = .pointer (some ⟨b7, 0, none⟩) ∧ E 9 = .pointer (some ⟨b9, 0, none⟩) ∧ E 11 = .int .i64 need11_L10 ∧ E 12 = .int .i64 1 ∧ St w0 w (cells b7 30 [.slice A_y0_ret_0_3_10 r3_10.1.In.length c_y0_ret_0_3_10, .slice A_y0_ret_1_3_10 r3_10.1.Out.length c_y0_ret_1_3_10, .slice A_y0_ret_2_3_10 r3_10.1.Flops.length c_y0_ret_2_3_10, .slice A_y0_ret_3_3_10 r3_10.1.Gates.length c_y0_ret_3_3_10, .slice A_y0_ret_4_3_10 r3_10.1.Outs.length c_y0_ret_4_3_10] :: cells b9 55 [.int .i64 r5_3.1.Rows, .int .i64 r5_3.1.Sites, .int .i64 r5_3.1.Layers, .slice A_y0_ret_3_5_3 r5_3.1.Blocks.length c_y0_ret_3_5_3, .slice A_y0_ret_4_5_3 r5_3.1.Walls.length c_y0_ret_4_5_3, .slice A_y0_ret_5_5_3 r5_3.1.Ports.length c_y0_ret_5_5_3] :: vec 9 RpS.sz (.slice A_y0_ret_0_3_10 r3_10.1.In.length c_y0_ret_0_3_10) r3_10.1.In.length cs_y0_ret_0_3_10 :: vec 9 RpS.sz (.slice A_y0_ret_1_3_10 r3_10.1.Out.length c_y0_ret_1_3_10) r3_10.1.Out.length cs_y0_ret_1_3_10 :: vec 149 R_api_Flop.sz (.slice A_y0_ret_2_3_10 r3_10.1.Flops.length c_y0_ret_2_3_10) r3_10.1.Flops.length cs_y0_ret_2_3_10 :: vec 38 R_api_Gate.sz (.slice A_y0_ret_3_3_10 r3_10.1.Gates.length c_y0_ret_3_3_10) r3_10.1.Gates.length cs_y0_ret_3_3_10 :: vec 3 (RpI .i64).sz (.slice A_y0_ret_4_3_10 r3_10.1.Outs.length c_y0_ret_4_3_10) r3_10.1.Outs.length cs_y0_ret_4_3_10 :: vec 158 R_floor_Block.sz (.slice A_y0_ret_3_5_3 r5_3.1.Blocks.length c_y0_ret_3_5_3) r5_3.1.Blocks.length cs_y0_ret_3_5_3 :: vec 160 R_floor_Wall.sz (.slice A_y0_ret_4_5_3 r5_3.1.Walls.length c_y0_ret_4_5_3) r5_3.1.Walls.length cs_y0_ret_4_5_3 :: vec 64 R_floor_Port.sz (.slice A_y0_ret_5_5_3 r5_3.1.Ports.length c_y0_ret_5_5_3) r5_3.1.Ports.length cs_y0_ret_5_5_3 :: ro ρ'_3_10 :: l)) ?_ ?_
    · skip -- L10
      refine x_block ?_
      refine x_loop (fun k_ E w => ∃ (need11_L10h : Int) (y83_L10h : Int), lp (P_maskkeep4_FloorPlans_L10 r9_2) k_ (need11_L10h, y83_L10h) = some oL10 ∧ E 6 = .slice A_y0_ret_2_1 r2_1.1.length c_y0_ret_2_1 ∧ E 7 = .pointer (some ⟨b7, 0, none⟩) ∧ E 9 = .pointer (some ⟨b9, 0, none⟩) ∧ E 11 = .int .i64 need11_L10h ∧ E 12 = .int .i64 1 ∧ E 81 = .slice A_y0_ret_9_2 r9_2.length c_y0_ret_9_2 ∧ E 82 = .int .i64 (r9_2.length : Int) ∧ E 83 = .int .i64 y83_L10h ∧ St w0 w (cells b7 30 [.slice A_y0_ret_0_3_10 r3_10.1.In.length c_y0_ret_0_3_10, .slice A_y0_ret_1_3_10 r3_10.1.Out.length c_y0_ret_1_3_10, .slice A_y0_ret_2_3_10 r3_10.1.Flops.length c_y0_ret_2_3_10, .slice A_y0_ret_3_3_10 r3_10.1.Gates.length c_y0_ret_3_3_10, .slice A_y0_ret_4_3_10 r3_10.1.Outs.length c_y0_ret_4_3_10] :: cells b9 55 [.int .i64 r5_3.1.Rows, .int .i64 r5_3.1.Sites, .int .i64 r5_3.1.Layers, .slice A_y0_ret_3_5_3 r5_3.1.Blocks.length c_y0_ret_3_5_3, .slice A_y0_ret_4_5_3 r5_3.1.Walls.length c_y0_ret_4_5_3, .slice A_y0_ret_5_5_3 r5_3.1.Ports.length c_y0_ret_5_5_3] :: vec 3 (RpI .i64).sz (.slice A_y0_ret_9_2 r9_2.length c_y0_ret_9_2) r9_2.length cs_y0_ret_9_2 :: vec 9 RpS.sz (.slice A_y0_ret_0_3_10 r3_10.1.In.length c_y0_ret_0_3_10) r3_10.1.In.length cs_y0_ret_0_3_10 :: vec 9 RpS.sz (.slice A_y0_ret_1_3_10 r3_10.1.Out.length c_y0_ret_1_3_10) r3_10.1.Out.length cs_y0_ret_1_3_10 :: vec 149 R_api_Flop.sz (.slice A_y0_ret_2_3_10 r3_10.1.Flops.length c_y0_ret_2_3_10) r3_10.1.Flops.length cs_y0_ret_2_3_10 :: vec 38 R_api_Gate.sz (.slice A_y0_ret_3_3_10 r3_10.1.Gates.length c_y0_ret_3_3_10) r3_10.1.Gates.length cs_y0_ret_3_3_10 :: vec 3 (RpI .i64).sz (.slice A_y0_ret_4_3_10 r3_10.1.Outs.length c_y0_ret_4_3_10) r3_10.1.Outs.length cs_y0_ret_4_3_10 :: vec 158 R_floor_Block.sz (.slice A_y0_ret_3_5_3 r5_3.1.Blocks.length c_y0_ret_3_5_3) r5_3.1.Blocks.length cs_y0_ret_3_5_3 :: vec 160 R_floor_Wall.sz (.slice A_y0_ret_4_5_3 r5_3.1.Walls.length c_y0_ret_4_5_3) r5_3.1.Walls.length cs_y0_ret_4_5_3 :: vec 64 R_floor_Port.sz (.slice A_y0_ret_5_5_3 r5_3.1.Ports.length c_y0_ret_5_5_3) r5_3.1.Ports.length cs_y0_ret_5_5_3 :: ro ρ'_3_10 :: l)) fuel ⟨x78, 0, hLL10, rfl, rfl, rfl, rfl, rfl, rfl, rfl, rfl, (((((((((((((hS.pull 12).drop.pull 1).pull 10).pull 10).pull 10).pull 8).pull 8).pull 8).pull 8).pull 8).pull 9).pull 10).pull 11)⟩ ?_
      rintro kL10 E w ⟨need11_L10h, y83_L10h, hLL10, eL10h_6, eL10h_7, eL10h_9, eL10h_11, eL10h_12, eL10h_81, eL10h_82, eL10h_83, hS⟩
      replace hLL10 := lp_s hLL10; obtain ⟨kL10, obL10, rfl, hFL10, hLL10⟩ := hLL10
      refine x_seq <| x_region <| p (yl_lss eL10h_83 eL10h_82) <| x_done <|
        x_seq <|
        x_cond_p (y83_L10h < (r9_2.length : Int)) rfl (fun hc84 => ?_) (fun hc84 => ?_)
      · replace hFL10 := it_t hc84 hFL10
        replace hFL10 := ck_s hFL10; obtain ⟨hk11_0, hFL10⟩ := hFL10
        replace hFL10 := lv_s hFL10; obtain ⟨x86, hx86, hFL10⟩ := hFL10
        replace hFL10 := ar_s hFL10; obtain ⟨x89, hx89, hFL10⟩ := hFL10
        replace hFL10 := ar_s hFL10; obtain ⟨x90, hx90, hFL10⟩ := hFL10
        refine x_skip <| x_seq <| x_block <| x_seq <|
          x_region <| p (yix_o sl_22 eL10h_81 eL10h_83 (hS.pull 2) h_y0_ret_9_2 hk11_0) <| pa (at_load one_3 rfl (RepL.getW h_y0_ret_9_2 (hS.pull 2) hk11_0 hx86)) <| p (yl_assign rfl) <|
          x_done <| x_region <| p (yl_move eL10h_11) <| p (yl_move rfl) <|
          p (yadd rfl rfl hx89) <| p (yl_assign rfl) <| x_done <| x_blk <|
          x_region <| p (yadd eL10h_83 rfl hx90) <| p (yl_move rfl) <| x_done <|
          ?_
        have e_ := Option.some.inj (show some _ = some _ from hFL10); subst e_
        exact x_inv ⟨kL10, Nat.lt_succ_self _, x89, x90, hLL10, eL10h_6, eL10h_7, eL10h_9, rfl, eL10h_12, eL10h_81, eL10h_82, rfl, ((((((((((((hS.pull 11).pull 11).pull 11).pull 11).pull 11).pull 11).pull 11).pull 11).pull 11).pull 11).pull 11).pull 11)⟩
      · replace hFL10 := it_f hc84 hFL10
        refine x_exitTo _ rfl <|
          ?_
        have e_ := Option.some.inj (show some _ = some _ from hFL10); subst e_
        exact x_inv ⟨need11_L10h, hLL10, eL10h_6, eL10h_7, eL10h_9, eL10h_11, eL10h_12, ((((((((((((hS.pull 2).drop.pull 10).pull 10).pull 10).pull 10).pull 10).pull 10).pull 10).pull 10).pull 10).pull 10).pull 10)⟩
    rintro E w ⟨need11_L10, rfl, eL10_6, eL10_7, eL10_9, eL10_11, eL10_12, hS⟩
    refine x_seq <| x_seq <| x_region <| p (yl_move eL10_6) <|
      p (yl_len_slice usl_31 rfl) <| p (yl_move rfl) <| x_done <|
      ?_
    replace hF := bd_s hF; obtain ⟨oL15, hLL15, hF⟩ := hF
    refine x_join (fun E w => ∃ (most12_L15 : Int), most12_L15 = oL15 ∧ E 6 = .slice A_y0_ret_2_1 r2_1.1.length c_y0_ret_2_1 ∧ E 7 = .pointer (some ⟨b7, 0, none⟩) ∧ E 9 = .pointer (some ⟨b9, 0, none⟩) ∧ E 11 = .int .i64 need11_L10 ∧ E 12 = .int .i64 most12_L15 ∧ St w0 w (cells b7 30 [.slice A_y0_ret_0_3_10 r3_10.1.In.length c_y0_ret_0_3_10, .slice A_y0_ret_1_3_10 r3_10.1.Out.length c_y0_ret_1_3_10, .slice A_y0_ret_2_3_10 r3_10.1.Flops.length c_y0_ret_2_3_10, .slice A_y0_ret_3_3_10 r3_10.1.Gates.length c_y0_ret_3_3_10, .slice A_y0_ret_4_3_10 r3_10.1.Outs.length c_y0_ret_4_3_10] :: cells b9 55 [.int .i64 r5_3.1.Rows, .int .i64 r5_3.1.Sites, .int .i64 r5_3.1.Layers, .slice A_y0_ret_3_5_3 r5_3.1.Blocks.length c_y0_ret_3_5_3, .slice A_y0_ret_4_5_3 r5_3.1.Walls.length c_y0_ret_4_5_3, .slice A_y0_ret_5_5_3 r5_3.1.Ports.length c_y0_ret_5_5_3] :: vec 9 RpS.sz (.slice A_y0_ret_0_3_10 r3_10.1.In.length c_y0_ret_0_3_10) r3_10.1.In.length cs_y0_ret_0_3_10 :: vec 9 RpS.sz (.slice A_y0_ret_1_3_10 r3_10.1.Out.length c_y0_ret_1_3_10) r3_10.1.Out.length cs_y0_ret_1_3_10 :: vec 149 R_api_Flop.sz (.slice A_y0_ret_2_3_10 r3_10.1.Flops.length c_y0_ret_2_3_10) r3_10.1.Flops.length cs_y0_ret_2_3_10 :: vec 38 R_api_Gate.sz (.slice A_y0_ret_3_3_10 r3_10.1.Gates.length c_y0_ret_3_3_10) r3_10.1.Gates.length cs_y0_ret_3_3_10 :: vec 3 (RpI .i64).sz (.slice A_y0_ret_4_3_10 r3_10.1.Outs.length c_y0_ret_4_3_10) r3_10.1.Outs.length cs_y0_ret_4_3_10 :: vec 158 R_floor_Block.sz (.slice A_y0_ret_3_5_3 r5_3.1.Blocks.length c_y0_ret_3_5_3) r5_3.1.Blocks.length cs_y0_ret_3_5_3 :: vec 160 R_floor_Wall.sz (.slice A_y0_ret_4_5_3 r5_3.1.Walls.length c_y0_ret_4_5_3) r5_3.1.Walls.length cs_y0_ret_4_5_3 :: vec 64 R_floor_Port.sz (.slice A_y0_ret_5_5_3 r5_3.1.Ports.length c_y0_ret_5_5_3) r5_3.1.Ports.length cs_y0_ret_5_5_3 :: ro ρ'_3_10 :: l)) ?_ ?_
    · skip -- L15
      refine x_block ?_
      refine x_loop (fun k_ E w => ∃ (most12_L15h : Int) (y93_L15h : Int), lp (P_maskkeep4_FloorPlans_L15 r2_1) k_ (most12_L15h, y93_L15h) = some oL15 ∧ E 6 = .slice A_y0_ret_2_1 r2_1.1.length c_y0_ret_2_1 ∧ E 7 = .pointer (some ⟨b7, 0, none⟩) ∧ E 9 = .pointer (some ⟨b9, 0, none⟩) ∧ E 11 = .int .i64 need11_L10 ∧ E 12 = .int .i64 most12_L15h ∧ E 91 = .slice A_y0_ret_2_1 r2_1.1.length c_y0_ret_2_1 ∧ E 92 = .int .i64 (r2_1.1.length : Int) ∧ E 93 = .int .i64 y93_L15h ∧ St w0 w (cells b7 30 [.slice A_y0_ret_0_3_10 r3_10.1.In.length c_y0_ret_0_3_10, .slice A_y0_ret_1_3_10 r3_10.1.Out.length c_y0_ret_1_3_10, .slice A_y0_ret_2_3_10 r3_10.1.Flops.length c_y0_ret_2_3_10, .slice A_y0_ret_3_3_10 r3_10.1.Gates.length c_y0_ret_3_3_10, .slice A_y0_ret_4_3_10 r3_10.1.Outs.length c_y0_ret_4_3_10] :: cells b9 55 [.int .i64 r5_3.1.Rows, .int .i64 r5_3.1.Sites, .int .i64 r5_3.1.Layers, .slice A_y0_ret_3_5_3 r5_3.1.Blocks.length c_y0_ret_3_5_3, .slice A_y0_ret_4_5_3 r5_3.1.Walls.length c_y0_ret_4_5_3, .slice A_y0_ret_5_5_3 r5_3.1.Ports.length c_y0_ret_5_5_3] :: vec 9 RpS.sz (.slice A_y0_ret_0_3_10 r3_10.1.In.length c_y0_ret_0_3_10) r3_10.1.In.length cs_y0_ret_0_3_10 :: vec 9 RpS.sz (.slice A_y0_ret_1_3_10 r3_10.1.Out.length c_y0_ret_1_3_10) r3_10.1.Out.length cs_y0_ret_1_3_10 :: vec 149 R_api_Flop.sz (.slice A_y0_ret_2_3_10 r3_10.1.Flops.length c_y0_ret_2_3_10) r3_10.1.Flops.length cs_y0_ret_2_3_10 :: vec 38 R_api_Gate.sz (.slice A_y0_ret_3_3_10 r3_10.1.Gates.length c_y0_ret_3_3_10) r3_10.1.Gates.length cs_y0_ret_3_3_10 :: vec 3 (RpI .i64).sz (.slice A_y0_ret_4_3_10 r3_10.1.Outs.length c_y0_ret_4_3_10) r3_10.1.Outs.length cs_y0_ret_4_3_10 :: vec 158 R_floor_Block.sz (.slice A_y0_ret_3_5_3 r5_3.1.Blocks.length c_y0_ret_3_5_3) r5_3.1.Blocks.length cs_y0_ret_3_5_3 :: vec 160 R_floor_Wall.sz (.slice A_y0_ret_4_5_3 r5_3.1.Walls.length c_y0_ret_4_5_3) r5_3.1.Walls.length cs_y0_ret_4_5_3 :: vec 64 R_floor_Port.sz (.slice A_y0_ret_5_5_3 r5_3.1.Ports.length c_y0_ret_5_5_3) r5_3.1.Ports.length cs_y0_ret_5_5_3 :: ro ρ'_3_10 :: l)) fuel ⟨1, 0, hLL15, eL10_6, eL10_7, eL10_9, eL10_11, eL10_12, rfl, rfl, rfl, (((((((((((hS.pull 10).pull 10).pull 10).pull 10).pull 10).pull 10).pull 10).pull 10).pull 10).pull 10).pull 10)⟩ ?_
      rintro kL15 E w ⟨most12_L15h, y93_L15h, hLL15, eL15h_6, eL15h_7, eL15h_9, eL15h_11, eL15h_12, eL15h_91, eL15h_92, eL15h_93, hS⟩
      replace hLL15 := lp_s hLL15; obtain ⟨kL15, obL15, rfl, hFL15, hLL15⟩ := hLL15
      refine x_seq <| x_region <| p (yl_lss eL15h_93 eL15h_92) <| x_done <|
        x_seq <|
        x_cond_p (y93_L15h < (r2_1.1.length : Int)) rfl (fun hc94 => ?_) (fun hc94 => ?_)
      · replace hFL15 := it_t hc94 hFL15
        replace hFL15 := ck_s hFL15; obtain ⟨hk16_0, hFL15⟩ := hFL15
        replace hFL15 := lv_s hFL15; obtain ⟨y16_1, hy16_1, hFL15⟩ := hFL15
        have q_ := fz3_10.get hk16_0; obtain ⟨el16_1, ek16_1, ee16_1⟩ := q_
        rw [← hy16_1] at ek16_1
        obtain ⟨A16_1_5, n16_1_5, c16_1_5, A16_1_6, n16_1_6, c16_1_6, A16_1_7, n16_1_7, c16_1_7, rfl, f16_1_5, f16_1_6, f16_1_7⟩ := ek16_1
        have e_ := f16_1_5.n; subst e_
        have e_ := f16_1_6.n; subst e_
        have e_ := f16_1_7.n; subst e_
        refine x_skip <| x_seq <| x_block <| x_seq <|
          x_region <| p (yix_f sl_31 eL15h_91 eL15h_93 (fz3_10.le hle3_10) hk16_0) <| pa (v := .agg #[.string y16_1.Name, .bool y16_1.Flop, .int .i64 y16_1.Ins, .int .u64 y16_1.Table, .int .i64 y16_1.Area, .slice A16_1_5 y16_1.Cap.length c16_1_5, .slice A16_1_6 y16_1.Min.length c16_1_6, .slice A16_1_7 y16_1.Max.length c16_1_7, .int .i64 y16_1.Drive, .int .i64 y16_1.Setup, .int .i64 y16_1.Hold]) (at_loadAgg agg_61 rfl rfl (Elt.every (Elt.le ee16_1 hle3_10) (hS.pull 10))) <|
          ?_
        refine o_alloc zero_61 hS (fun b16 w' hS => ?_)
        refine o_storeAgg (news := [.string y16_1.Name, .bool y16_1.Flop, .int .i64 y16_1.Ins, .int .u64 y16_1.Table, .int .i64 y16_1.Area, .slice A16_1_5 y16_1.Cap.length c16_1_5, .slice A16_1_6 y16_1.Min.length c16_1_6, .slice A16_1_7 y16_1.Max.length c16_1_7, .int .i64 y16_1.Drive, .int .i64 y16_1.Setup, .int .i64 y16_1.Hold]) agg_61 rfl rfl rfl (by simp [over_length]) hS (fun w' hS => ?_)
        replace hFL15 := lv_s hFL15; obtain ⟨x100, hx100, hFL15⟩ := hFL15
        replace hFL15 := ar_s hFL15; obtain ⟨x101, hx101, hFL15⟩ := hFL15
        refine x_done <| x_region <| p (yl_move eL15h_12) <| p (yl_field0 fld_61_4 rfl) <|
          pa (at_load one_3 rfl (hS.cell rfl)) <| p (ymax' rfl rfl hx100) <| p (yl_assign rfl) <| x_done <|
          x_blk <| x_region <| p (yadd eL15h_93 rfl hx101) <| p (yl_move rfl) <|
          x_done <|
          ?_
        have e_ := Option.some.inj (show some _ = some _ from hFL15); subst e_
        exact x_inv ⟨kL15, Nat.lt_succ_self _, x100, x101, hLL15, eL15h_6, eL15h_7, eL15h_9, eL15h_11, rfl, eL15h_91, eL15h_92, rfl, (((((((((((hS.drop.pull 10).pull 10).pull 10).pull 10).pull 10).pull 10).pull 10).pull 10).pull 10).pull 10).pull 10)⟩
      · replace hFL15 := it_f hc94 hFL15
        refine x_exitTo _ rfl <|
          ?_
        have e_ := Option.some.inj (show some _ = some _ from hFL15); subst e_
        exact x_inv ⟨most12_L15h, hLL15, eL15h_6, eL15h_7, eL15h_9, eL15h_11, eL15h_12, (((((((((((hS.pull 10).pull 10).pull 10).pull 10).pull 10).pull 10).pull 10).pull 10).pull 10).pull 10).pull 10)⟩
    rintro E w ⟨most12_L15, rfl, eL15_6, eL15_7, eL15_9, eL15_11, eL15_12, hS⟩
    replace hF := bd_s hF; obtain ⟨r19_1, hc19_1, hF⟩ := hF
    refine x_seq <| x_region <| pa (v := .agg #[.slice A_y0_ret_0_3_10 r3_10.1.In.length c_y0_ret_0_3_10, .slice A_y0_ret_1_3_10 r3_10.1.Out.length c_y0_ret_1_3_10, .slice A_y0_ret_2_3_10 r3_10.1.Flops.length c_y0_ret_2_3_10, .slice A_y0_ret_3_3_10 r3_10.1.Gates.length c_y0_ret_3_3_10, .slice A_y0_ret_4_3_10 r3_10.1.Outs.length c_y0_ret_4_3_10]) (ld_sub agg_30 eL15_7 rfl rfl hS) <|
      ?_
    have q_ := St.lend ((hS.pull 10).pull 3) h_y0_ret_0_3_10; obtain ⟨ρl0, hll0, hlf0, hS0, back0⟩ := q_
    have q_ := St.lend (hS0.pull 3) (h_y0_ret_1_3_10.le hll0); obtain ⟨ρl1, hll1, hlf1, hS1, back1⟩ := q_
    have q_ := St.lend (hS1.pull 3) (h_y0_ret_2_3_10.le (hll0.trans hll1)); obtain ⟨ρl2, hll2, hlf2, hS2, back2⟩ := q_
    have q_ := St.lend (hS2.pull 3) (h_y0_ret_3_3_10.le ((hll0.trans hll1).trans hll2)); obtain ⟨ρl3, hll3, hlf3, hS3, back3⟩ := q_
    have q_ := St.lend (hS3.pull 3) (h_y0_ret_4_3_10.le (((hll0.trans hll1).trans hll2).trans hll3)); obtain ⟨ρl4, hll4, hlf4, hS4, back4⟩ := q_
    have hcall := c_floor_Names hc19_1 (hlf0.le (((hll1.trans hll2).trans hll3).trans hll4)) (hlf1.le ((hll2.trans hll3).trans hll4)) (hlf2.le (hll3.trans hll4)) (hlf3.le hll4) hlf4 hS4
    refine o_cc call_26 (args1 rfl) hcall ?_
    rintro e w' ⟨A_y0_ret_19_1, n_y0_ret_19_1, c_y0_ret_19_1, cs_y0_ret_19_1, rfl, h_y0_ret_19_1, hS⟩
    refine ⟨_, rfl, ?_⟩
    replace hS := back4 (hS.pull 1)
    replace hS := back3 (hS.pull 1)
    replace hS := back2 (hS.pull 1)
    replace hS := back1 (hS.pull 1)
    replace hS := back0 (hS.pull 1)
    replace h_y0_ret_19_1 : RepL R_floor_Port ρ'_3_10 r19_1 cs_y0_ret_19_1 := RepL.flat (fun h => h) h_y0_ret_19_1
    have e_ := St.vec_n (hS.pull 6) h_y0_ret_19_1; subst e_
    replace hF := ar_s hF; obtain ⟨x108, hx108, hF⟩ := hF
    replace hF := ar_s hF; obtain ⟨x110, hx110, hF⟩ := hF
    replace hF := ar_s hF; obtain ⟨x115, hx115, hF⟩ := hF
    replace hF := ar_s hF; obtain ⟨x116, hx116, hF⟩ := hF
    replace hF := ar_s hF; obtain ⟨x117, hx117, hF⟩ := hF
    replace hF := lv_s hF; obtain ⟨x118, hx118, hF⟩ := hF
    replace hF := lv_s hF; obtain ⟨x127, hx127, hF⟩ := hF
    refine p (yl_assign rfl) <| x_done <| x_seq <| x_seq <|
      x_region <| p (yl_field0 fld_55_0 eL15_9) <| pa (at_load one_3 rfl ((hS.pull 8).cell rfl)) <| p (yl_field0 fld_55_1 eL15_9) <|
      pa (at_load one_3 rfl ((hS.pull 8).cell rfl)) <| p (ymul rfl rfl hx108) <| p (yl_move eL15_11) <| p (ymul rfl rfl hx110) <|
      p (yl_move eL15_11) <| p (yl_field0 fld_55_0 eL15_9) <| pa (at_load one_3 rfl ((hS.pull 8).cell rfl)) <| p (yl_move eL15_12) <|
      p (ysub rfl rfl hx115) <| p (ymul rfl rfl hx116) <| p (yadd rfl rfl hx117) <| p (ymax' rfl rfl hx118) <|
      p (yl_lss rfl rfl) <| p (yl_move rfl) <| pg (v := .pointer (some ⟨b9, 5, none⟩)) 120 (c := !(decide (x108 < x118))) (says_f _) (fun hq => Yl.at (yl_field0 fld_55_5 eL15_9)) <| pg (v := .slice A_y0_ret_5_5_3 r5_3.1.Ports.length c_y0_ret_5_5_3) 120 (c := !(decide (x108 < x118))) (says_f _) (fun hq => at_load one_53 (cv hq) ((hS.pull 8).cell rfl)) <|
      pg (v := .int .i64 (r5_3.1.Ports.length : Int)) 120 (c := !(decide (x108 < x118))) (says_f _) (fun hq => Yl.at (yl_len_slice usl_53 (cv hq))) <| pg (v := .slice A_y0_ret_19_1 r19_1.length c_y0_ret_19_1) 120 (c := !(decide (x108 < x118))) (says_f _) (fun hq => Yl.at (yl_move rfl)) <| pg (v := .int .i64 (r19_1.length : Int)) 120 (c := !(decide (x108 < x118))) (says_f _) (fun hq => Yl.at (yl_len_slice usl_53 (cv hq))) <| pg (v := .bool (decide ((r5_3.1.Ports.length : Int) ≠ (r19_1.length : Int)))) 120 (c := !(decide (x108 < x118))) (says_f _) (fun hq => Yl.at (yl_neq (cv hq) (cv hq))) <|
      p (yor' rfl rfl (fun hc => (cv (t_not hc))) hx127) <| x_done <|
      x_cond (t := x127) rfl (fun hc127 => ?_) (fun hc127 => ?_)
    · replace hF := it_t hc127 hF
      refine x_seq <| x_region <| p (yl_assign rfl) <| x_done <|
        ?_
      have e_ := Option.some.inj (show some _ = some _ from hF); subst e_
      exact x_return ⟨_, ⟨_, _, rfl, rfl, rfl⟩, rfl, (ro_back0 ((hle2_1.trans hlez3_10).trans hle3_10) (((((((((((hS.drop.pull 1).drop.pull 1).drop.pull 1).drop.pull 1).drop.pull 1).drop.pull 1).drop.pull 1).drop.pull 1).drop.pull 1).drop.pull 1).drop))⟩
    · replace hF := it_bf hc127 hF
      refine x_skip <| x_seq <| x_seq <| x_region <|
        p (yl_move rfl) <| p (yl_len_slice usl_53 rfl) <| p (yl_move rfl) <| x_done <|
        ?_
      replace hF := bs_s hF; obtain ⟨oL23, hLL23, hF⟩ := hF
      refine x_join (fun E w => (Sum.inl (())) = oL23 ∧ E 6 = .slice A_y0_ret_2_1 r2_1.1.length c_y0_ret_2_1 ∧ E 7 = .pointer (some ⟨b7, 0, none⟩) ∧ St w0 w (cells b7 30 [.slice A_y0_ret_0_3_10 r3_10.1.In.length c_y0_ret_0_3_10, .slice A_y0_ret_1_3_10 r3_10.1.Out.length c_y0_ret_1_3_10, .slice A_y0_ret_2_3_10 r3_10.1.Flops.length c_y0_ret_2_3_10, .slice A_y0_ret_3_3_10 r3_10.1.Gates.length c_y0_ret_3_3_10, .slice A_y0_ret_4_3_10 r3_10.1.Outs.length c_y0_ret_4_3_10] :: vec 9 RpS.sz (.slice A_y0_ret_0_3_10 r3_10.1.In.length c_y0_ret_0_3_10) r3_10.1.In.length cs_y0_ret_0_3_10 :: vec 9 RpS.sz (.slice A_y0_ret_1_3_10 r3_10.1.Out.length c_y0_ret_1_3_10) r3_10.1.Out.length cs_y0_ret_1_3_10 :: vec 149 R_api_Flop.sz (.slice A_y0_ret_2_3_10 r3_10.1.Flops.length c_y0_ret_2_3_10) r3_10.1.Flops.length cs_y0_ret_2_3_10 :: vec 38 R_api_Gate.sz (.slice A_y0_ret_3_3_10 r3_10.1.Gates.length c_y0_ret_3_3_10) r3_10.1.Gates.length cs_y0_ret_3_3_10 :: vec 3 (RpI .i64).sz (.slice A_y0_ret_4_3_10 r3_10.1.Outs.length c_y0_ret_4_3_10) r3_10.1.Outs.length cs_y0_ret_4_3_10 :: ro ρ'_3_10 :: l)) ?_ ?_
      · skip -- L23
        refine x_block ?_
        refine x_loop (fun k_ E w => ∃ (y130_L23h : Int), lp (P_maskkeep4_FloorPlans_L23 r5_3 r19_1) k_ y130_L23h = some oL23 ∧ E 6 = .slice A_y0_ret_2_1 r2_1.1.length c_y0_ret_2_1 ∧ E 7 = .pointer (some ⟨b7, 0, none⟩) ∧ E 9 = .pointer (some ⟨b9, 0, none⟩) ∧ E 128 = .slice A_y0_ret_19_1 r19_1.length c_y0_ret_19_1 ∧ E 129 = .int .i64 (r19_1.length : Int) ∧ E 130 = .int .i64 y130_L23h ∧ St w0 w (cells b7 30 [.slice A_y0_ret_0_3_10 r3_10.1.In.length c_y0_ret_0_3_10, .slice A_y0_ret_1_3_10 r3_10.1.Out.length c_y0_ret_1_3_10, .slice A_y0_ret_2_3_10 r3_10.1.Flops.length c_y0_ret_2_3_10, .slice A_y0_ret_3_3_10 r3_10.1.Gates.length c_y0_ret_3_3_10, .slice A_y0_ret_4_3_10 r3_10.1.Outs.length c_y0_ret_4_3_10] :: cells b9 55 [.int .i64 r5_3.1.Rows, .int .i64 r5_3.1.Sites, .int .i64 r5_3.1.Layers, .slice A_y0_ret_3_5_3 r5_3.1.Blocks.length c_y0_ret_3_5_3, .slice A_y0_ret_4_5_3 r5_3.1.Walls.length c_y0_ret_4_5_3, .slice A_y0_ret_5_5_3 r5_3.1.Ports.length c_y0_ret_5_5_3] :: vec 64 R_floor_Port.sz (.slice A_y0_ret_19_1 r19_1.length c_y0_ret_19_1) r19_1.length cs_y0_ret_19_1 :: vec 9 RpS.sz (.slice A_y0_ret_0_3_10 r3_10.1.In.length c_y0_ret_0_3_10) r3_10.1.In.length cs_y0_ret_0_3_10 :: vec 9 RpS.sz (.slice A_y0_ret_1_3_10 r3_10.1.Out.length c_y0_ret_1_3_10) r3_10.1.Out.length cs_y0_ret_1_3_10 :: vec 149 R_api_Flop.sz (.slice A_y0_ret_2_3_10 r3_10.1.Flops.length c_y0_ret_2_3_10) r3_10.1.Flops.length cs_y0_ret_2_3_10 :: vec 38 R_api_Gate.sz (.slice A_y0_ret_3_3_10 r3_10.1.Gates.length c_y0_ret_3_3_10) r3_10.1.Gates.length cs_y0_ret_3_3_10 :: vec 3 (RpI .i64).sz (.slice A_y0_ret_4_3_10 r3_10.1.Outs.length c_y0_ret_4_3_10) r3_10.1.Outs.length cs_y0_ret_4_3_10 :: vec 158 R_floor_Block.sz (.slice A_y0_ret_3_5_3 r5_3.1.Blocks.length c_y0_ret_3_5_3) r5_3.1.Blocks.length cs_y0_ret_3_5_3 :: vec 160 R_floor_Wall.sz (.slice A_y0_ret_4_5_3 r5_3.1.Walls.length c_y0_ret_4_5_3) r5_3.1.Walls.length cs_y0_ret_4_5_3 :: vec 64 R_floor_Port.sz (.slice A_y0_ret_5_5_3 r5_3.1.Ports.length c_y0_ret_5_5_3) r5_3.1.Ports.length cs_y0_ret_5_5_3 :: ro ρ'_3_10 :: l)) fuel ⟨0, hLL23, eL15_6, eL15_7, eL15_9, rfl, rfl, rfl, ((((((((((((hS.pull 1).pull 11).pull 11).pull 11).pull 8).pull 8).pull 8).pull 8).pull 8).pull 9).pull 11).pull 11)⟩ ?_
        rintro kL23 E w ⟨y130_L23h, hLL23, eL23h_6, eL23h_7, eL23h_9, eL23h_128, eL23h_129, eL23h_130, hS⟩
        replace hLL23 := lp_s hLL23; obtain ⟨kL23, obL23, rfl, hFL23, hLL23⟩ := hLL23
        refine x_seq <| x_region <| p (yl_lss eL23h_130 eL23h_129) <| x_done <|
          x_seq <|
          x_cond_p (y130_L23h < (r19_1.length : Int)) rfl (fun hc131 => ?_) (fun hc131 => ?_)
        · replace hFL23 := it_t hc131 hFL23
          replace hFL23 := ck_s hFL23; obtain ⟨hk24_1, hFL23⟩ := hFL23
          replace hFL23 := lv_s hFL23; obtain ⟨y24_2, hy24_2, hFL23⟩ := hFL23
          have q_ := h_y0_ret_19_1.get hk24_1; obtain ⟨el24_2, ek24_2, ee24_2⟩ := q_
          rw [← hy24_2] at ek24_2
          have e_ := ek24_2; subst e_
          refine x_skip <| x_seq <| x_block <| x_seq <|
            x_region <| p (yl_move eL23h_130) <| p (yix_o sl_53 eL23h_128 eL23h_130 (hS.pull 2) h_y0_ret_19_1 hk24_1) <| pa (v := .agg #[.string y24_2.Name, .bool y24_2.Out, .int .i64 y24_2.X, .int .i64 y24_2.Y]) (at_loadAgg agg_64 rfl rfl (EltV.every ee24_2 (hS.pull 2))) <|
            ?_
          refine o_alloc zero_64 hS (fun b19 w' hS => ?_)
          refine p (yl_assign rfl) <|
            ?_
          refine o_storeAgg (news := [.string y24_2.Name, .bool y24_2.Out, .int .i64 y24_2.X, .int .i64 y24_2.Y]) agg_64 rfl rfl rfl (by simp [over_length]) hS (fun w' hS => ?_)
          replace hFL23 := ck_s hFL23; obtain ⟨hk25_3, hFL23⟩ := hFL23
          replace hFL23 := lv_s hFL23; obtain ⟨y25_5, hy25_5, hFL23⟩ := hFL23
          have q_ := h_y0_ret_5_5_3.get hk25_3; obtain ⟨el25_5, ek25_5, ee25_5⟩ := q_
          rw [← hy25_5] at ek25_5
          have e_ := ek25_5; subst e_
          replace hFL23 := ck_s hFL23; obtain ⟨hk25_13, hFL23⟩ := hFL23
          replace hFL23 := lv_s hFL23; obtain ⟨x154, hx154, hFL23⟩ := hFL23
          refine x_done <| x_seq <| x_still mixed (by kernel_rfl) hS <| q (yl_field0 fld_55_5 eL23h_9) <|
            qa (fun w' hS => at_load one_53 rfl ((hS.pull 2).cell rfl)) <| q (yl_move rfl) <| q (yix_o sl_53 rfl rfl (hS.pull 11) h_y0_ret_5_5_3 hk25_3) <| q (yl_fieldAddr fld_64_0 rfl) <|
            qa (fun w' hS => at_load one_9 rfl (EltV.ld (m := 0) ee25_5 (hS.pull 11) rfl)) <| q (yl_field0 fld_64_0 rfl) <| qa (fun w' hS => at_load one_9 rfl (hS.cell rfl)) <| q (ynes rfl rfl) <|
            q (yl_move rfl) <| qg (v := .pointer (some ⟨b9, 5, none⟩)) 144 (c := !(decide (y25_5.Name ≠ y24_2.Name))) (says_f _) (fun hq w' hS => Yl.at (yl_field0 fld_55_5 eL23h_9)) <| qg (v := .slice A_y0_ret_5_5_3 r5_3.1.Ports.length c_y0_ret_5_5_3) 144 (c := !(decide (y25_5.Name ≠ y24_2.Name))) (says_f _) (fun hq w' hS => at_load one_53 (cv hq) ((hS.pull 2).cell rfl)) <| qg (v := .int .i64 y130_L23h) 144 (c := !(decide (y25_5.Name ≠ y24_2.Name))) (says_f _) (fun hq w' hS => Yl.at (yl_move rfl)) <|
            qg (v := .pointer (some ((adr A_y0_ret_5_5_3).add (y130_L23h.toNat * R_floor_Port.sz)))) 144 (c := !(decide (y25_5.Name ≠ y24_2.Name))) (says_f _) (fun hq w' hS => Yl.at (yix_o sl_53 (cv hq) (cv hq) (hS.pull 11) h_y0_ret_5_5_3 (hk25_13 hq))) <| qg (v := .pointer (some (((adr A_y0_ret_5_5_3).add (y130_L23h.toNat * R_floor_Port.sz)).add 1))) 144 (c := !(decide (y25_5.Name ≠ y24_2.Name))) (says_f _) (fun hq w' hS => Yl.at (yl_fieldAddr fld_64_1 (cv hq))) <| qg (v := .bool ((gt r5_3.1.Ports y130_L23h).Out)) 144 (c := !(decide (y25_5.Name ≠ y24_2.Name))) (says_f _) (fun hq w' hS => (by obtain ⟨el, ek, ee⟩ := h_y0_ret_5_5_3.get (hk25_13 hq); obtain rfl := ek; exact at_load one_4 (cv hq) (EltV.ld (m := 1) ee (hS.pull 11) rfl))) <| qg (v := .pointer (some ⟨b19, 1, none⟩)) 144 (c := !(decide (y25_5.Name ≠ y24_2.Name))) (says_f _) (fun hq w' hS => Yl.at (yl_field0 fld_64_1 rfl)) <|
            qg (v := .bool y24_2.Out) 144 (c := !(decide (y25_5.Name ≠ y24_2.Name))) (says_f _) (fun hq w' hS => at_load one_4 (cv hq) (hS.cell rfl)) <| qg (v := .bool (!(((gt r5_3.1.Ports y130_L23h).Out) == y24_2.Out))) 144 (c := !(decide (y25_5.Name ≠ y24_2.Name))) (says_f _) (fun hq w' hS => Yl.at (yneb ub_4 (cv hq) (cv hq))) <| q (yor' rfl rfl (fun hc => (cv (t_not hc))) hx154) <|
            q_done fun w' hS => ?_
          refine x_cond (t := x154) rfl (fun hc154 => ?_) (fun hc154 => ?_)
          · replace hFL23 := it_t hc154 hFL23
            refine x_seq <| x_region <| p (yl_assign rfl) <| x_done <|
              ?_
            have e_ := Option.some.inj (show some _ = some _ from hFL23); subst e_
            have e_ := (show _ = oL23 from hLL23); subst e_
            have e_ := Option.some.inj (show some _ = some _ from hF); subst e_
            exact x_return ⟨_, ⟨_, _, rfl, rfl, rfl⟩, rfl, (ro_back0 ((hle2_1.trans hlez3_10).trans hle3_10) hS.drop.drop.drop.drop.drop.drop.drop.drop.drop.drop.drop.drop)⟩
          · replace hFL23 := it_bf hc154 hFL23
            replace hFL23 := ar_s hFL23; obtain ⟨x155, hx155, hFL23⟩ := hFL23
            refine x_skip <| x_blk <| x_region <| p (yadd eL23h_130 rfl hx155) <|
              p (yl_move rfl) <| x_done <|
              ?_
            have e_ := Option.some.inj (show some _ = some _ from hFL23); subst e_
            exact x_inv ⟨kL23, Nat.lt_succ_self _, x155, hLL23, eL23h_6, eL23h_7, eL23h_9, eL23h_128, eL23h_129, rfl, ((((((((((((hS.drop.pull 11).pull 11).pull 11).pull 11).pull 11).pull 11).pull 11).pull 11).pull 11).pull 11).pull 11).pull 11)⟩
        · replace hFL23 := it_f hc131 hFL23
          refine x_exitTo _ rfl <|
            ?_
          have e_ := Option.some.inj (show some _ = some _ from hFL23); subst e_
          exact x_inv ⟨hLL23, eL23h_6, eL23h_7, ((((((((((((hS.pull 1).drop.pull 1).drop.pull 6).drop.pull 6).drop.pull 6).drop.pull 6).pull 6).pull 6).pull 6).pull 6).pull 6).pull 6)⟩
      rintro E w ⟨rfl, eL23_6, eL23_7, hS⟩
      replace hF := bd_s hF; obtain ⟨r28_2, hc28_2, hF⟩ := hF
      refine x_seq <| x_region <| pa (v := .agg #[.slice A_y0_ret_0_3_10 r3_10.1.In.length c_y0_ret_0_3_10, .slice A_y0_ret_1_3_10 r3_10.1.Out.length c_y0_ret_1_3_10, .slice A_y0_ret_2_3_10 r3_10.1.Flops.length c_y0_ret_2_3_10, .slice A_y0_ret_3_3_10 r3_10.1.Gates.length c_y0_ret_3_3_10, .slice A_y0_ret_4_3_10 r3_10.1.Outs.length c_y0_ret_4_3_10]) (ld_sub agg_30 eL23_7 rfl rfl hS) <| p (yl_move eL23_6) <|
        ?_
      have q_ := St.lend ((hS.pull 6).pull 2) h_y0_ret_0_3_10; obtain ⟨ρl0, hll0, hlf0, hS0, back0⟩ := q_
      have q_ := St.lend (hS0.pull 2) (h_y0_ret_1_3_10.le hll0); obtain ⟨ρl1, hll1, hlf1, hS1, back1⟩ := q_
      have q_ := St.lend (hS1.pull 2) (h_y0_ret_2_3_10.le (hll0.trans hll1)); obtain ⟨ρl2, hll2, hlf2, hS2, back2⟩ := q_
      have q_ := St.lend (hS2.pull 2) (h_y0_ret_3_3_10.le ((hll0.trans hll1).trans hll2)); obtain ⟨ρl3, hll3, hlf3, hS3, back3⟩ := q_
      have q_ := St.lend (hS3.pull 2) (h_y0_ret_4_3_10.le (((hll0.trans hll1).trans hll2).trans hll3)); obtain ⟨ρl4, hll4, hlf4, hS4, back4⟩ := q_
      have hcall := c_floor_Plan hc28_2 (hlf0.le (((hll1.trans hll2).trans hll3).trans hll4)) (hlf1.le ((hll2.trans hll3).trans hll4)) (hlf2.le (hll3.trans hll4)) (hlf3.le hll4) hlf4 ((fz3_10.le hle3_10).le ((((hll0.trans hll1).trans hll2).trans hll3).trans hll4)) hS4
      refine o_cc call_22 (args3 rfl rfl rfl) hcall ?_
      rintro e w' ⟨A_y0_ret_3_28_2, n_y0_ret_3_28_2, c_y0_ret_3_28_2, cs_y0_ret_3_28_2, A_y0_ret_4_28_2, n_y0_ret_4_28_2, c_y0_ret_4_28_2, cs_y0_ret_4_28_2, A_y0_ret_5_28_2, n_y0_ret_5_28_2, c_y0_ret_5_28_2, cs_y0_ret_5_28_2, rfl, h_y0_ret_3_28_2, h_y0_ret_4_28_2, h_y0_ret_5_28_2, hS⟩
      refine ⟨_, rfl, ?_⟩
      replace hS := back4 (hS.pull 3)
      replace hS := back3 (hS.pull 1)
      replace hS := back2 (hS.pull 1)
      replace hS := back1 (hS.pull 1)
      replace hS := back0 (hS.pull 1)
      replace h_y0_ret_3_28_2 : RepL R_floor_Block ρ'_3_10 r28_2.1.Blocks cs_y0_ret_3_28_2 := RepL.flat (fun h => h) h_y0_ret_3_28_2
      have e_ := St.vec_n (hS.pull 6) h_y0_ret_3_28_2; subst e_
      replace h_y0_ret_4_28_2 : RepL R_floor_Wall ρ'_3_10 r28_2.1.Walls cs_y0_ret_4_28_2 := RepL.flat (fun h => h) h_y0_ret_4_28_2
      have e_ := St.vec_n (hS.pull 7) h_y0_ret_4_28_2; subst e_
      replace h_y0_ret_5_28_2 : RepL R_floor_Port ρ'_3_10 r28_2.1.Ports cs_y0_ret_5_28_2 := RepL.flat (fun h => h) h_y0_ret_5_28_2
      have e_ := St.vec_n (hS.pull 8) h_y0_ret_5_28_2; subst e_
      refine p (yl_move rfl) <| p (yl_extract rfl rfl) <| p (yl_extract rfl rfl) <|
        ?_
      refine o_alloc zero_55 hS (fun b20 w' hS => ?_)
      refine o_storeAgg (news := [.int .i64 r28_2.1.Rows, .int .i64 r28_2.1.Sites, .int .i64 r28_2.1.Layers, .slice A_y0_ret_3_28_2 r28_2.1.Blocks.length c_y0_ret_3_28_2, .slice A_y0_ret_4_28_2 r28_2.1.Walls.length c_y0_ret_4_28_2, .slice A_y0_ret_5_28_2 r28_2.1.Ports.length c_y0_ret_5_28_2]) agg_55 rfl rfl rfl (by simp [over_length]) hS (fun w' hS => ?_)
      refine p (yl_assign rfl) <| x_done <| x_seq <| x_region <|
        p (yl_move rfl) <| p (yl_eql rfl rfl) <| p (yl_assign rfl) <| x_done <|
        ?_
      have e_ := Option.some.inj (show some _ = some _ from hF); subst e_
      exact x_return ⟨_, ⟨_, _, rfl, rfl, rfl⟩, rfl, (ro_back0 ((hle2_1.trans hlez3_10).trans hle3_10) (((((((((hS.drop.drop.pull 1).drop.pull 1).drop.pull 1).drop.pull 1).drop.pull 1).drop.pull 1).drop.pull 1).drop.pull 1).drop))⟩
attribute [irreducible] P_maskkeep4_FloorPlans


end Go.Proofs.YtclhfemcinibmaaDoor.X
