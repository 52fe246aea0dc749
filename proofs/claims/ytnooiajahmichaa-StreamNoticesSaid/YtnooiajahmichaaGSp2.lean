/- Printed by gen.py: plain functions, and that the Go code computes them. -/
import Derived.Test.YtnooiajahmichaaYJ
import Derived.Test.YtnooiajahmichaaXTS
import Derived.Test.YtnooiajahmichaaGSp0
import Derived.Test.YtnooiajahmichaaGSp1
namespace Go.Proofs.Ytnooiajahmichaa.X
open Go Go.RowKit
set_option linter.unusedVariables false
set_option linter.unusedSimpArgs false

def P_slices_Index_array_Pad_array_Pad_L2 (s0 : List T_array_Pad) (v1 : T_array_Pad) : Int → Option (Int ⊕ (Unit ⊕ Int)) := fun y8_L2h =>
  if y8_L2h < (s0.length : Int) then
    ck (inb y8_L2h s0.length) <|
    lv (gt s0 y8_L2h) fun y4_4 =>
    lv ((v1.Row == y4_4.Row) && ((v1.Col == y4_4.Col) && ((v1.Side == y4_4.Side) && ((v1.Track == y4_4.Track) && true)))) fun x16 =>
    if x16 = true then
      some (Sum.inr (Sum.inr y8_L2h))
    else
      ar (y8_L2h + 1) fun x18 =>
      some (Sum.inl x18)
  else
    some (Sum.inr (Sum.inl ()))
def P_slices_Index_array_Pad_array_Pad (s0 : List T_array_Pad) (v1 : T_array_Pad) : Option Int :=
  bs (
    lp (P_slices_Index_array_Pad_array_Pad_L2 s0 v1) fuel 0) (fun y => some y) fun _ =>
  some (-1 : Int)
set_option maxHeartbeats 4000000 in
set_option maxRecDepth 100000 in
theorem c_slices_Index_array_Pad_array_Pad {w0 w : World} {l : List Assn} {ρ : Heap} {A_s0 : Option Addr} {n_s0 : Nat} {c_s0 : Nat} {s0 : List T_array_Pad} {v1 : T_array_Pad} {r : Int} (hF : P_slices_Index_array_Pad_array_Pad s0 v1 = some r) (h_s0 : RdS R_array_Pad ρ A_s0 n_s0 c_s0 s0) (hS : St w0 w (ro ρ :: l)) :
    Calls Try.prog 169 #[.slice A_s0 n_s0 c_s0, .agg #[.int .i64 v1.Row, .int .i64 v1.Col, .int .i64 v1.Side, .int .i64 v1.Track]] w fun e w' => e = .returned (.int .i64 r) ∧ St w0 w' (ro ρ :: l) := by
  have e_ := h_s0.n; subst e_
  refine enterC Try.func169 rfl 19 rfl (by simp) ?_
  refine x_seq <| x_region <|
    ?_
  refine o_box (cs := [.int .i64 v1.Row, .int .i64 v1.Col, .int .i64 v1.Side, .int .i64 v1.Track]) rfl rfl hS (fun b3 w' hS => ?_)
  refine p (yl_assign rfl) <| x_done <| x_seq <| x_seq <|
    x_region <| p (yl_move rfl) <| p (yl_len_slice usl_79 rfl) <| p (yl_move rfl) <|
    x_done <|
    ?_
  replace hF := bs_s hF; obtain ⟨oL2, hLL2, hF⟩ := hF
  refine x_join (fun E w => (Sum.inl (())) = oL2 ∧ St w0 w (ro ρ :: l)) ?_ ?_
  · skip -- L2
    refine x_block ?_
    refine x_loop (fun k_ E w => ∃ (y8_L2h : Int), lp (P_slices_Index_array_Pad_array_Pad_L2 s0 v1) k_ y8_L2h = some oL2 ∧ E 0 = .slice A_s0 s0.length c_s0 ∧ E 3 = .pointer (some ⟨b3, 0, none⟩) ∧ E 7 = .int .i64 (s0.length : Int) ∧ E 8 = .int .i64 y8_L2h ∧ St w0 w (cells b3 187 [.int .i64 v1.Row, .int .i64 v1.Col, .int .i64 v1.Side, .int .i64 v1.Track] :: ro ρ :: l)) fuel ⟨0, hLL2, rfl, rfl, rfl, rfl, ((hS.pull 1).pull 1)⟩ ?_
    rintro kL2 E w ⟨y8_L2h, hLL2, eL2h_0, eL2h_3, eL2h_7, eL2h_8, hS⟩
    replace hLL2 := lp_s hLL2; obtain ⟨kL2, obL2, rfl, hFL2, hLL2⟩ := hLL2
    refine x_seq <| x_region <| p (yl_lss eL2h_8 eL2h_7) <| x_done <|
      x_seq <|
      x_cond_p (y8_L2h < (s0.length : Int)) rfl (fun hc9 => ?_) (fun hc9 => ?_)
    · replace hFL2 := it_t hc9 hFL2
      replace hFL2 := ck_s hFL2; obtain ⟨hk4_3, hFL2⟩ := hFL2
      replace hFL2 := lv_s hFL2; obtain ⟨y4_4, hy4_4, hFL2⟩ := hFL2
      have q_ := h_s0.get hk4_3; obtain ⟨el4_4, ek4_4, ee4_4⟩ := q_
      rw [← hy4_4] at ek4_4
      have e_ := ek4_4; subst e_
      replace hFL2 := lv_s hFL2; obtain ⟨x16, hx16, hFL2⟩ := hFL2
      refine x_skip <| x_seq <| x_block <| x_seq <|
        x_region <| p (yl_move eL2h_8) <| p (yl_assign rfl) <| x_done <|
        x_seq <| x_still mixed (by kernel_rfl) hS <| qa (v := .agg #[.int .i64 v1.Row, .int .i64 v1.Col, .int .i64 v1.Side, .int .i64 v1.Track]) (fun w' hS => ld_sub agg_187 eL2h_3 rfl rfl hS) <| q (yl_move eL2h_0) <|
        q (yl_move rfl) <| q (yix_f sl_79 rfl rfl h_s0 hk4_3) <| qa (v := .agg #[.int .i64 y4_4.Row, .int .i64 y4_4.Col, .int .i64 y4_4.Side, .int .i64 y4_4.Track]) (fun w' hS => at_loadAgg agg_187 rfl rfl (Elt.every ee4_4 (hS.pull 1))) <| q (yeqs eqs_187 rfl rfl rfl hx16) <|
        q_done fun w' hS => ?_
      refine x_cond (t := x16) rfl (fun hc16 => ?_) (fun hc16 => ?_)
      · replace hFL2 := it_t hc16 hFL2
        refine x_seq <| x_region <| p (yl_move rfl) <| p (yl_assign rfl) <|
          x_done <|
          ?_
        have e_ := Option.some.inj (show some _ = some _ from hFL2); subst e_
        have e_ := (show _ = oL2 from hLL2); subst e_
        have e_ := Option.some.inj (show some _ = some _ from hF); subst e_
        exact x_return ⟨_, ⟨_, _, rfl, rfl, rfl⟩, rfl, hS.drop⟩
      · replace hFL2 := it_bf hc16 hFL2
        replace hFL2 := ar_s hFL2; obtain ⟨x18, hx18, hFL2⟩ := hFL2
        refine x_skip <| x_blk <| x_region <| p (yadd eL2h_8 rfl hx18) <|
          p (yl_move rfl) <| x_done <|
          ?_
        have e_ := Option.some.inj (show some _ = some _ from hFL2); subst e_
        exact x_inv ⟨kL2, Nat.lt_succ_self _, x18, hLL2, eL2h_0, eL2h_3, eL2h_7, rfl, ((hS.pull 1).pull 1)⟩
    · replace hFL2 := it_f hc9 hFL2
      refine x_exitTo _ rfl <|
        ?_
      have e_ := Option.some.inj (show some _ = some _ from hFL2); subst e_
      exact x_inv ⟨hLL2, hS.drop⟩
  rintro E w ⟨rfl, hS⟩
  refine x_seq <| x_region <| p (yl_assign rfl) <| x_done <|
    ?_
  have e_ := Option.some.inj (show some _ = some _ from hF); subst e_
  exact x_return ⟨_, ⟨_, _, rfl, rfl, rfl⟩, rfl, hS⟩
attribute [irreducible] P_slices_Index_array_Pad_array_Pad

def P_slices_Contains_array_Pad_array_Pad (s0 : List T_array_Pad) (v1 : T_array_Pad) : Option Bool :=
  bd (P_slices_Index_array_Pad_array_Pad s0 v1) fun r1_2 =>
  some (decide (0 ≤ r1_2))
set_option maxHeartbeats 4000000 in
set_option maxRecDepth 100000 in
theorem c_slices_Contains_array_Pad_array_Pad {w0 w : World} {l : List Assn} {ρ : Heap} {A_s0 : Option Addr} {n_s0 : Nat} {c_s0 : Nat} {s0 : List T_array_Pad} {v1 : T_array_Pad} {r : Bool} (hF : P_slices_Contains_array_Pad_array_Pad s0 v1 = some r) (h_s0 : RdS R_array_Pad ρ A_s0 n_s0 c_s0 s0) (hS : St w0 w (ro ρ :: l)) :
    Calls Try.prog 154 #[.slice A_s0 n_s0 c_s0, .agg #[.int .i64 v1.Row, .int .i64 v1.Col, .int .i64 v1.Side, .int .i64 v1.Track]] w fun e w' => e = .returned (.bool r) ∧ St w0 w' (ro ρ :: l) := by
  have e_ := h_s0.n; subst e_
  refine enterC Try.func154 rfl 9 rfl (by simp) ?_
  refine x_seq <| x_region <|
    ?_
  refine o_box (cs := [.int .i64 v1.Row, .int .i64 v1.Col, .int .i64 v1.Side, .int .i64 v1.Track]) rfl rfl hS (fun b3 w' hS => ?_)
  replace hF := bd_s hF; obtain ⟨r1_2, hc1_2, hF⟩ := hF
  refine p (yl_assign rfl) <| x_done <| x_seq <| x_region <|
    p (yl_move rfl) <| pa (v := .agg #[.int .i64 v1.Row, .int .i64 v1.Col, .int .i64 v1.Side, .int .i64 v1.Track]) (ld_sub agg_187 rfl rfl rfl hS) <|
    ?_
  have hcall := c_slices_Index_array_Pad_array_Pad hc1_2 h_s0 (hS.pull 1)
  refine o_cc call_169 (args2 rfl rfl) ((Calls.mono hcall (fun e w'' h => And.intro h.1 (h.2.pull 1)))) ?_
  rintro e w' ⟨rfl, hS⟩
  refine ⟨_, rfl, ?_⟩
  refine p (yl_geq rfl rfl) <| p (yl_assign rfl) <| x_done <|
    ?_
  have e_ := Option.some.inj (show some _ = some _ from hF); subst e_
  exact x_return ⟨_, ⟨_, _, rfl, rfl, rfl⟩, rfl, hS.drop⟩
attribute [irreducible] P_slices_Contains_array_Pad_array_Pad

def P_array_pads_L2 (c0 : T_array_Config) (l_1 : List T_array_Pad) : Int → Option (Int ⊕ (Unit ⊕ Int)) := fun y9_L2h =>
  if y9_L2h < (l_1.length : Int) then
    ck (inb y9_L2h l_1.length) <|
    lv (gt l_1 y9_L2h) fun y3_2 =>
    bd (P_array_border c0 y3_2) fun r4_2 =>
    if (!r4_2) = true then
      some (Sum.inr (Sum.inr (2 : Int)))
    else
      ck (0 ≤ (0 : Int) ∧ (0 : Int) ≤ y9_L2h ∧ y9_L2h ≤ l_1.length) <|
      lv (sub l_1 0 y9_L2h) fun x20 =>
      bd (P_slices_Contains_array_Pad_array_Pad x20 y3_2) fun r6_4 =>
      if r6_4 = true then
        some (Sum.inr (Sum.inr (6 : Int)))
      else
        ar (y9_L2h + 1) fun x23 =>
        some (Sum.inl x23)
  else
    some (Sum.inr (Sum.inl ()))
def P_array_pads (c0 : T_array_Config) (l_1 : List T_array_Pad) : Option Int :=
  bs (
    lp (P_array_pads_L2 c0 l_1) fuel 0) (fun y => some y) fun _ =>
  some (0 : Int)
set_option maxHeartbeats 4000000 in
set_option maxRecDepth 100000 in
theorem c_array_pads {w0 w : World} {l : List Assn} {ρ : Heap} {A_c0_3 : Option Addr} {n_c0_3 : Nat} {c_c0_3 : Nat} {A_c0_4 : Option Addr} {n_c0_4 : Nat} {c_c0_4 : Nat} {A_c0_5 : Option Addr} {n_c0_5 : Nat} {c_c0_5 : Nat} {A_l_1 : Option Addr} {n_l_1 : Nat} {c_l_1 : Nat} {c0 : T_array_Config} {l_1 : List T_array_Pad} {r : Int} (hF : P_array_pads c0 l_1 = some r) (h_c0_3 : RdS R_array_Tile ρ A_c0_3 n_c0_3 c_c0_3 c0.Tiles) (h_c0_4 : RdS R_array_Pad ρ A_c0_4 n_c0_4 c_c0_4 c0.In) (h_c0_5 : RdS R_array_Pad ρ A_c0_5 n_c0_5 c_c0_5 c0.Out) (h_l_1 : RdS R_array_Pad ρ A_l_1 n_l_1 c_l_1 l_1) (hS : St w0 w (ro ρ :: l)) :
    Calls Try.prog 131 #[.agg #[.int .i64 c0.Rows, .int .i64 c0.Cols, .int .i64 c0.Tracks, .slice A_c0_3 n_c0_3 c_c0_3, .slice A_c0_4 n_c0_4 c_c0_4, .slice A_c0_5 n_c0_5 c_c0_5], .slice A_l_1 n_l_1 c_l_1] w fun e w' => e = .returned (.int .i64 r) ∧ St w0 w' (ro ρ :: l) := by
  have e_ := h_c0_3.n; subst e_
  have e_ := h_c0_4.n; subst e_
  have e_ := h_c0_5.n; subst e_
  have e_ := h_l_1.n; subst e_
  refine enterC Try.func131 rfl 24 rfl (by simp) ?_
  refine x_seq <| x_region <|
    ?_
  refine o_box (cs := [.int .i64 c0.Rows, .int .i64 c0.Cols, .int .i64 c0.Tracks, .slice A_c0_3 c0.Tiles.length c_c0_3, .slice A_c0_4 c0.In.length c_c0_4, .slice A_c0_5 c0.Out.length c_c0_5]) rfl rfl hS (fun b2 w' hS => ?_)
  refine p (yl_assign rfl) <| x_done <| x_seq <| x_seq <|
    x_region <| p (yl_move rfl) <| p (yl_len_slice usl_79 rfl) <| p (yl_move rfl) <|
    x_done <|
    ?_
  replace hF := bs_s hF; obtain ⟨oL2, hLL2, hF⟩ := hF
  refine x_join (fun E w => (Sum.inl (())) = oL2 ∧ St w0 w (ro ρ :: l)) ?_ ?_
  · skip -- L2
    refine x_block ?_
    refine x_loop (fun k_ E w => ∃ (y9_L2h : Int), lp (P_array_pads_L2 c0 l_1) k_ y9_L2h = some oL2 ∧ E 1 = .slice A_l_1 l_1.length c_l_1 ∧ E 2 = .pointer (some ⟨b2, 0, none⟩) ∧ E 7 = .slice A_l_1 l_1.length c_l_1 ∧ E 8 = .int .i64 (l_1.length : Int) ∧ E 9 = .int .i64 y9_L2h ∧ St w0 w (cells b2 81 [.int .i64 c0.Rows, .int .i64 c0.Cols, .int .i64 c0.Tracks, .slice A_c0_3 c0.Tiles.length c_c0_3, .slice A_c0_4 c0.In.length c_c0_4, .slice A_c0_5 c0.Out.length c_c0_5] :: ro ρ :: l)) fuel ⟨0, hLL2, rfl, rfl, rfl, rfl, rfl, ((hS.pull 1).pull 1)⟩ ?_
    rintro kL2 E w ⟨y9_L2h, hLL2, eL2h_1, eL2h_2, eL2h_7, eL2h_8, eL2h_9, hS⟩
    replace hLL2 := lp_s hLL2; obtain ⟨kL2, obL2, rfl, hFL2, hLL2⟩ := hLL2
    refine x_seq <| x_region <| p (yl_lss eL2h_9 eL2h_8) <| x_done <|
      x_seq <|
      x_cond_p (y9_L2h < (l_1.length : Int)) rfl (fun hc10 => ?_) (fun hc10 => ?_)
    · replace hFL2 := it_t hc10 hFL2
      replace hFL2 := ck_s hFL2; obtain ⟨hk3_1, hFL2⟩ := hFL2
      replace hFL2 := lv_s hFL2; obtain ⟨y3_2, hy3_2, hFL2⟩ := hFL2
      have q_ := h_l_1.get hk3_1; obtain ⟨el3_2, ek3_2, ee3_2⟩ := q_
      rw [← hy3_2] at ek3_2
      have e_ := ek3_2; subst e_
      refine x_skip <| x_seq <| x_block <| x_seq <|
        x_region <| p (yl_move eL2h_9) <| p (yix_f sl_79 eL2h_7 eL2h_9 h_l_1 hk3_1) <| pa (v := .agg #[.int .i64 y3_2.Row, .int .i64 y3_2.Col, .int .i64 y3_2.Side, .int .i64 y3_2.Track]) (at_loadAgg agg_187 rfl rfl (Elt.every ee3_2 (hS.pull 1))) <|
        ?_
      refine o_alloc zero_187 hS (fun b6 w' hS => ?_)
      refine p (yl_assign rfl) <|
        ?_
      refine o_storeAgg (news := [.int .i64 y3_2.Row, .int .i64 y3_2.Col, .int .i64 y3_2.Side, .int .i64 y3_2.Track]) agg_187 rfl rfl rfl (by simp [over_length]) hS (fun w' hS => ?_)
      replace hFL2 := bd_s hFL2; obtain ⟨r4_2, hc4_2, hFL2⟩ := hFL2
      refine x_done <| x_seq <| x_seq <| x_region <|
        pa (v := .agg #[.int .i64 c0.Rows, .int .i64 c0.Cols, .int .i64 c0.Tracks, .slice A_c0_3 c0.Tiles.length c_c0_3, .slice A_c0_4 c0.In.length c_c0_4, .slice A_c0_5 c0.Out.length c_c0_5]) (ld_sub agg_81 eL2h_2 rfl rfl (hS.pull 1)) <| pa (v := .agg #[.int .i64 y3_2.Row, .int .i64 y3_2.Col, .int .i64 y3_2.Side, .int .i64 y3_2.Track]) (ld_sub agg_187 rfl rfl rfl hS) <|
        ?_
      have hcall := c_array_border hc4_2 h_c0_3 h_c0_4 h_c0_5 (hS.pull 2)
      refine o_cc call_153 (args2 rfl rfl) ((Calls.mono hcall (fun e w'' h => And.intro h.1 ((h.2.pull 2).pull 2)))) ?_
      rintro e w' ⟨rfl, hS⟩
      refine ⟨_, rfl, ?_⟩
      refine p (yl_not rfl) <| x_done <|
        x_cond (t := !r4_2) rfl (fun hc17 => ?_) (fun hc17 => ?_)
      · replace hFL2 := it_t hc17 hFL2
        refine x_seq <| x_region <| p (yl_assign rfl) <| x_done <|
          ?_
        have e_ := Option.some.inj (show some _ = some _ from hFL2); subst e_
        have e_ := (show _ = oL2 from hLL2); subst e_
        have e_ := Option.some.inj (show some _ = some _ from hF); subst e_
        exact x_return ⟨_, ⟨_, _, rfl, rfl, rfl⟩, rfl, hS.drop.drop⟩
      · replace hFL2 := it_bf hc17 hFL2
        refine x_skip <| x_seq <|
          ?_
        replace hFL2 := ck_s hFL2; obtain ⟨hk6_2, hFL2⟩ := hFL2
        replace hFL2 := lv_s hFL2; obtain ⟨x20, hx20, hFL2⟩ := hFL2
        replace hFL2 := bd_s hFL2; obtain ⟨r6_4, hc6_4, hFL2⟩ := hFL2
        refine x_par (w0 := w0) [⟨[], [], [18], [], [], []⟩, ⟨[], [], [19], [], [], []⟩, ⟨[0, 1], [0, 1], [20], [0], [], []⟩, ⟨[], [], [21], [1], [], []⟩, ⟨[0, 1, 2, 3], [2, 3], [22], [0], [], []⟩] [⟨none, none, []⟩, ⟨none, none, []⟩] [18, 19, 20, 21, 22] [0, 1] [0, 1] [0, 1, 2, 3, 4] [fun Ep6 => Ep6 18 = .slice A_l_1 l_1.length c_l_1, fun Ep6 => Ep6 19 = .int .i64 y9_L2h, fun Ep6 => Ep6 20 = .slice (adOf (Ep6 20)) x20.length (capOf (Ep6 20)) ∧ RdS R_array_Pad ρ (adOf (Ep6 20)) x20.length (capOf (Ep6 20)) x20, fun Ep6 => Ep6 21 = .agg #[.int .i64 y3_2.Row, .int .i64 y3_2.Col, .int .i64 y3_2.Side, .int .i64 y3_2.Track], fun Ep6 => Ep6 22 = .bool r6_4] [fun Ep6 => ro ρ, fun Ep6 => cells b6 187 [.int .i64 y3_2.Row, .int .i64 y3_2.Col, .int .i64 y3_2.Side, .int .i64 y3_2.Track]] mixed (by kernel_rfl) (hS.pull 2) ?_ ?_
        · refine ⟨?_, ?_, ?_, ?_, ?_, trivial⟩
          · intro Ep6 w l' hE6 hO6 hF_ hS
            refine p (yl_move ((hE6 1 rfl).trans eL2h_1)) <| x_done <|
              ?_
            refine x_fin ⟨⟨_, rfl⟩, rfl, ?_⟩
            exact Eq.mp (by kernel_rfl) hS
          · intro Ep6 w l' hE6 hO6 hF_ hS
            refine p (yl_move (hE6 5 rfl)) <| x_done <|
              ?_
            refine x_fin ⟨⟨_, rfl⟩, rfl, ?_⟩
            exact Eq.mp (by kernel_rfl) hS
          · intro Ep6 w l' hE6 hO6 hF_ hS
            obtain ⟨f6_0, f6_1, -⟩ := hF_
            replace f6_0 : Ep6 18 = .slice A_l_1 l_1.length c_l_1 := Eq.mp (by kernel_rfl) f6_0
            replace f6_1 : Ep6 19 = .int .i64 y9_L2h := Eq.mp (by kernel_rfl) f6_1
            replace hS : St w0 w (ro ρ :: l') := Eq.mp (by kernel_rfl) hS
            have q_ := RdS.sub h_l_1 hk6_2 hx20; obtain ⟨A20, n20, c20, hd20, f20⟩ := q_
            refine p (ysub_h sl_79 f6_0 f6_1 hk6_2 hd20) <|
              ?_
            have e_ := f20.n; subst e_
            refine x_done <|
              ?_
            refine x_fin ⟨⟨_, rfl⟩, ⟨rfl, f20⟩, ?_⟩
            exact Eq.mp (by kernel_rfl) hS
          · intro Ep6 w l' hE6 hO6 hF_ hS
            replace hS : St w0 w (cells b6 187 [.int .i64 y3_2.Row, .int .i64 y3_2.Col, .int .i64 y3_2.Side, .int .i64 y3_2.Track] :: l') := Eq.mp (by kernel_rfl) hS
            refine pa (v := .agg #[.int .i64 y3_2.Row, .int .i64 y3_2.Col, .int .i64 y3_2.Side, .int .i64 y3_2.Track]) (ld_sub agg_187 (hE6 6 rfl) rfl rfl hS) <| x_done <|
              ?_
            refine x_fin ⟨⟨_, rfl⟩, rfl, ?_⟩
            exact Eq.mp (by kernel_rfl) hS
          · intro Ep6 w l' hE6 hO6 hF_ hS
            obtain ⟨f6_2, f6_3, -⟩ := hF_
            replace f6_2 : Ep6 20 = .slice (adOf (Ep6 20)) x20.length (capOf (Ep6 20)) ∧ RdS R_array_Pad ρ (adOf (Ep6 20)) x20.length (capOf (Ep6 20)) x20 := Eq.mp (by kernel_rfl) f6_2
            have q_ := id f6_2; obtain ⟨-, f6_2a⟩ := q_
            replace f6_3 : Ep6 21 = .agg #[.int .i64 y3_2.Row, .int .i64 y3_2.Col, .int .i64 y3_2.Side, .int .i64 y3_2.Track] := Eq.mp (by kernel_rfl) f6_3
            replace hS : St w0 w (ro ρ :: l') := Eq.mp (by kernel_rfl) hS
            have hcall := c_slices_Contains_array_Pad_array_Pad hc6_4 f6_2a hS
            refine o_cc call_154 (args2 f6_2.1 f6_3) (hcall) ?_
            rintro e w' ⟨rfl, hS⟩
            refine ⟨_, rfl, ?_⟩
            refine x_done <|
              ?_
            refine x_fin ⟨⟨_, rfl⟩, rfl, ?_⟩
            exact Eq.mp (by kernel_rfl) hS
        intro Ep6 w' hE6 hF_ hS
        obtain ⟨f6_0, f6_1, f6_2, f6_3, f6_4, -⟩ := hF_
        replace f6_0 : Ep6 18 = .slice A_l_1 l_1.length c_l_1 := Eq.mp (by kernel_rfl) f6_0
        replace f6_1 : Ep6 19 = .int .i64 y9_L2h := Eq.mp (by kernel_rfl) f6_1
        replace f6_2 : Ep6 20 = .slice (adOf (Ep6 20)) x20.length (capOf (Ep6 20)) ∧ RdS R_array_Pad ρ (adOf (Ep6 20)) x20.length (capOf (Ep6 20)) x20 := Eq.mp (by kernel_rfl) f6_2
        have q_ := id f6_2; obtain ⟨-, f6_2a⟩ := q_
        replace f6_3 : Ep6 21 = .agg #[.int .i64 y3_2.Row, .int .i64 y3_2.Col, .int .i64 y3_2.Side, .int .i64 y3_2.Track] := Eq.mp (by kernel_rfl) f6_3
        replace f6_4 : Ep6 22 = .bool r6_4 := Eq.mp (by kernel_rfl) f6_4
        replace hS : St w0 w' (ro ρ :: cells b6 187 [.int .i64 y3_2.Row, .int .i64 y3_2.Col, .int .i64 y3_2.Side, .int .i64 y3_2.Track] :: (cells b2 81 [.int .i64 c0.Rows, .int .i64 c0.Cols, .int .i64 c0.Tracks, .slice A_c0_3 c0.Tiles.length c_c0_3, .slice A_c0_4 c0.In.length c_c0_4, .slice A_c0_5 c0.Out.length c_c0_5] :: l)) := Eq.mp (by kernel_rfl) hS
        refine x_cond (t := r6_4) f6_4 (fun hc22 => ?_) (fun hc22 => ?_)
        · replace hFL2 := it_t hc22 hFL2
          refine x_seq <| x_region <| p (yl_assign rfl) <| x_done <|
            ?_
          have e_ := Option.some.inj (show some _ = some _ from hFL2); subst e_
          have e_ := (show _ = oL2 from hLL2); subst e_
          have e_ := Option.some.inj (show some _ = some _ from hF); subst e_
          exact x_return ⟨_, ⟨_, _, rfl, rfl, rfl⟩, rfl, (((hS.pull 1).drop.pull 1).drop)⟩
        · replace hFL2 := it_bf hc22 hFL2
          replace hFL2 := ar_s hFL2; obtain ⟨x23, hx23, hFL2⟩ := hFL2
          refine x_skip <| x_blk <| x_region <| p (yadd ((hE6 9 rfl).trans eL2h_9) rfl hx23) <|
            p (yl_move rfl) <| x_done <|
            ?_
          have e_ := Option.some.inj (show some _ = some _ from hFL2); subst e_
          exact x_inv ⟨kL2, Nat.lt_succ_self _, x23, hLL2, ((hE6 1 rfl).trans eL2h_1), ((hE6 2 rfl).trans eL2h_2), ((hE6 7 rfl).trans eL2h_7), ((hE6 8 rfl).trans eL2h_8), rfl, ((hS.pull 1).drop.pull 1)⟩
    · replace hFL2 := it_f hc10 hFL2
      refine x_exitTo _ rfl <|
        ?_
      have e_ := Option.some.inj (show some _ = some _ from hFL2); subst e_
      exact x_inv ⟨hLL2, hS.drop⟩
  rintro E w ⟨rfl, hS⟩
  refine x_seq <| x_region <| p (yl_assign rfl) <| x_done <|
    ?_
  have e_ := Option.some.inj (show some _ = some _ from hF); subst e_
  exact x_return ⟨_, ⟨_, _, rfl, rfl, rfl⟩, rfl, hS⟩
attribute [irreducible] P_array_pads

def P_array_Config_beside (c0 : T_array_Config) (tile1 : Int) (side2 : Int) : Option Int :=
  ck (c0.Cols ≠ 0) <|
  ar (Int.tdiv tile1 c0.Cols) fun x12 =>
  ck (c0.Cols ≠ 0) <|
  lv (Int.tmod tile1 c0.Cols) fun x16 =>
  lv ((decide (side2 = 0)) && (decide (0 < x12))) fun x23 =>
  if x23 = true then
    ar (tile1 - c0.Cols) fun x27 =>
    some x27
  else
    ck ((decide (side2 = 1)) = true → I64 (c0.Cols - 1)) <|
    lv (c0.Cols - 1) fun x35 =>
    lv ((decide (side2 = 1)) && (decide (x16 < x35))) fun x37 =>
    if x37 = true then
      ar (tile1 + 1) fun x39 =>
      some x39
    else
      ck ((decide (side2 = 2)) = true → I64 (c0.Rows - 1)) <|
      lv (c0.Rows - 1) fun x47 =>
      lv ((decide (side2 = 2)) && (decide (x12 < x47))) fun x49 =>
      if x49 = true then
        ar (tile1 + c0.Cols) fun x53 =>
        some x53
      else
        lv ((decide (side2 = 3)) && (decide (0 < x16))) fun x60 =>
        if x60 = true then
          ar (tile1 - 1) fun x62 =>
          some x62
        else
          some (-1 : Int)
set_option maxHeartbeats 4000000 in
set_option maxRecDepth 100000 in
theorem c_array_Config_beside {w0 w : World} {l : List Assn} {ρ : Heap} {A_c0_3 : Option Addr} {n_c0_3 : Nat} {c_c0_3 : Nat} {A_c0_4 : Option Addr} {n_c0_4 : Nat} {c_c0_4 : Nat} {A_c0_5 : Option Addr} {n_c0_5 : Nat} {c_c0_5 : Nat} {c0 : T_array_Config} {tile1 : Int} {side2 : Int} {r : Int} (hF : P_array_Config_beside c0 tile1 side2 = some r) (h_c0_3 : RdS R_array_Tile ρ A_c0_3 n_c0_3 c_c0_3 c0.Tiles) (h_c0_4 : RdS R_array_Pad ρ A_c0_4 n_c0_4 c_c0_4 c0.In) (h_c0_5 : RdS R_array_Pad ρ A_c0_5 n_c0_5 c_c0_5 c0.Out) (hS : St w0 w (ro ρ :: l)) :
    Calls Try.prog 170 #[.agg #[.int .i64 c0.Rows, .int .i64 c0.Cols, .int .i64 c0.Tracks, .slice A_c0_3 n_c0_3 c_c0_3, .slice A_c0_4 n_c0_4 c_c0_4, .slice A_c0_5 n_c0_5 c_c0_5], .int .i64 tile1, .int .i64 side2] w fun e w' => e = .returned (.int .i64 r) ∧ St w0 w' (ro ρ :: l) := by
  have e_ := h_c0_3.n; subst e_
  have e_ := h_c0_4.n; subst e_
  have e_ := h_c0_5.n; subst e_
  refine enterC Try.func170 rfl 63 rfl (by simp) ?_
  refine x_seq <| x_region <|
    ?_
  refine o_box (cs := [.int .i64 c0.Rows, .int .i64 c0.Cols, .int .i64 c0.Tracks, .slice A_c0_3 c0.Tiles.length c_c0_3, .slice A_c0_4 c0.In.length c_c0_4, .slice A_c0_5 c0.Out.length c_c0_5]) rfl rfl hS (fun b3 w' hS => ?_)
  replace hF := ck_s hF; obtain ⟨hk1_3, hF⟩ := hF
  replace hF := ar_s hF; obtain ⟨x12, hx12, hF⟩ := hF
  replace hF := ck_s hF; obtain ⟨hk1_7, hF⟩ := hF
  replace hF := lv_s hF; obtain ⟨x16, hx16, hF⟩ := hF
  refine p (yl_assign rfl) <| x_done <| x_seq <| x_still mixed (by kernel_rfl) hS <|
    q (yl_move rfl) <| q (yl_field0 fld_81_1 rfl) <| qa (fun w' hS => at_load one_3 rfl (hS.cell rfl)) <| q (yquo rfl rfl hk1_3 hx12) <|
    q (yl_move rfl) <| q (yl_field0 fld_81_1 rfl) <| qa (fun w' hS => at_load one_3 rfl (hS.cell rfl)) <| q (yrem rfl rfl hk1_7 hx16) <|
    q (yl_assign rfl) <| q (yl_assign rfl) <|
    q_done fun w' hS => ?_
  replace hF := lv_s hF; obtain ⟨x23, hx23, hF⟩ := hF
  refine x_seq <| x_block <| x_seq <| x_region <|
    p (yl_move rfl) <| p (yl_eql rfl rfl) <| p (yl_move rfl) <| pg (v := .int .i64 x12) 20 (c := decide (side2 = 0)) (says_t _) (fun hq => Yl.at (yl_move rfl)) <|
    pg (v := .bool (decide (0 < x12))) 20 (c := decide (side2 = 0)) (says_t _) (fun hq => Yl.at (yl_gtr (cv hq) rfl)) <| p (yand' rfl (fun hc => (cv hc)) rfl hx23) <| p (yl_assign rfl) <| x_done <|
    x_cond (t := x23) rfl (fun hc17 => ?_) (fun hc17 => ?_)
  · replace hF := it_t hc17 hF
    replace hF := ar_s hF; obtain ⟨x27, hx27, hF⟩ := hF
    refine x_seq <| x_region <| p (yl_move rfl) <| p (yl_field0 fld_81_1 rfl) <|
      pa (at_load one_3 rfl (hS.cell rfl)) <| p (ysub rfl rfl hx27) <| p (yl_assign rfl) <| x_done <|
      ?_
    have e_ := Option.some.inj (show some _ = some _ from hF); subst e_
    exact x_return ⟨_, ⟨_, _, rfl, rfl, rfl⟩, rfl, hS.drop⟩
  · replace hF := it_bf hc17 hF
    replace hF := ck_s hF; obtain ⟨hk4_6, hF⟩ := hF
    replace hF := lv_s hF; obtain ⟨x35, hx35, hF⟩ := hF
    replace hF := lv_s hF; obtain ⟨x37, hx37, hF⟩ := hF
    refine x_seq <| x_region <| p (yl_move rfl) <| p (yl_eql rfl rfl) <|
      p (yl_move rfl) <| pg (v := .int .i64 x16) 31 (c := decide (side2 = 1)) (says_t _) (fun hq => Yl.at (yl_move rfl)) <| pg (v := .pointer (some ⟨b3, 1, none⟩)) 31 (c := decide (side2 = 1)) (says_t _) (fun hq => Yl.at (yl_field0 fld_81_1 rfl)) <| pg (v := .int .i64 c0.Cols) 31 (c := decide (side2 = 1)) (says_t _) (fun hq => at_load one_3 (cv hq) (hS.cell rfl)) <|
      pg (v := .int .i64 x35) 31 (c := decide (side2 = 1)) (says_t _) (fun hq => Yl.at (ysub (cv hq) rfl ⟨hx35, (hk4_6 hq)⟩)) <| pg (v := .bool (decide (x16 < x35))) 31 (c := decide (side2 = 1)) (says_t _) (fun hq => Yl.at (yl_lss (cv hq) (cv hq))) <| p (yand' rfl (fun hc => (cv hc)) rfl hx37) <| p (yl_assign rfl) <|
      x_done <|
      x_cond (t := x37) rfl (fun hc28 => ?_) (fun hc28 => ?_)
    · replace hF := it_t hc28 hF
      replace hF := ar_s hF; obtain ⟨x39, hx39, hF⟩ := hF
      refine x_seq <| x_region <| p (yl_move rfl) <| p (yadd rfl rfl hx39) <|
        p (yl_assign rfl) <| x_done <|
        ?_
      have e_ := Option.some.inj (show some _ = some _ from hF); subst e_
      exact x_return ⟨_, ⟨_, _, rfl, rfl, rfl⟩, rfl, hS.drop⟩
    · replace hF := it_bf hc28 hF
      replace hF := ck_s hF; obtain ⟨hk6_6, hF⟩ := hF
      replace hF := lv_s hF; obtain ⟨x47, hx47, hF⟩ := hF
      replace hF := lv_s hF; obtain ⟨x49, hx49, hF⟩ := hF
      refine x_seq <| x_region <| p (yl_move rfl) <| p (yl_eql rfl rfl) <|
        p (yl_move rfl) <| pg (v := .int .i64 x12) 43 (c := decide (side2 = 2)) (says_t _) (fun hq => Yl.at (yl_move rfl)) <| pg (v := .pointer (some ⟨b3, 0, none⟩)) 43 (c := decide (side2 = 2)) (says_t _) (fun hq => Yl.at (yl_field0 fld_81_0 rfl)) <| pg (v := .int .i64 c0.Rows) 43 (c := decide (side2 = 2)) (says_t _) (fun hq => at_load one_3 (cv hq) (hS.cell rfl)) <|
        pg (v := .int .i64 x47) 43 (c := decide (side2 = 2)) (says_t _) (fun hq => Yl.at (ysub (cv hq) rfl ⟨hx47, (hk6_6 hq)⟩)) <| pg (v := .bool (decide (x12 < x47))) 43 (c := decide (side2 = 2)) (says_t _) (fun hq => Yl.at (yl_lss (cv hq) (cv hq))) <| p (yand' rfl (fun hc => (cv hc)) rfl hx49) <| p (yl_assign rfl) <|
        x_done <|
        x_cond (t := x49) rfl (fun hc40 => ?_) (fun hc40 => ?_)
      · replace hF := it_t hc40 hF
        replace hF := ar_s hF; obtain ⟨x53, hx53, hF⟩ := hF
        refine x_seq <| x_region <| p (yl_move rfl) <| p (yl_field0 fld_81_1 rfl) <|
          pa (at_load one_3 rfl (hS.cell rfl)) <| p (yadd rfl rfl hx53) <| p (yl_assign rfl) <| x_done <|
          ?_
        have e_ := Option.some.inj (show some _ = some _ from hF); subst e_
        exact x_return ⟨_, ⟨_, _, rfl, rfl, rfl⟩, rfl, hS.drop⟩
      · replace hF := it_bf hc40 hF
        replace hF := lv_s hF; obtain ⟨x60, hx60, hF⟩ := hF
        refine x_seq <| x_region <| p (yl_move rfl) <| p (yl_eql rfl rfl) <|
          p (yl_move rfl) <| pg (v := .int .i64 x16) 57 (c := decide (side2 = 3)) (says_t _) (fun hq => Yl.at (yl_move rfl)) <| pg (v := .bool (decide (0 < x16))) 57 (c := decide (side2 = 3)) (says_t _) (fun hq => Yl.at (yl_gtr (cv hq) rfl)) <| p (yand' rfl (fun hc => (cv hc)) rfl hx60) <|
          p (yl_assign rfl) <| x_done <|
          x_cond (t := x60) rfl (fun hc54 => ?_) (fun hc54 => ?_)
        · replace hF := it_t hc54 hF
          replace hF := ar_s hF; obtain ⟨x62, hx62, hF⟩ := hF
          refine x_seq <| x_region <| p (yl_move rfl) <| p (ysub rfl rfl hx62) <|
            p (yl_assign rfl) <| x_done <|
            ?_
          have e_ := Option.some.inj (show some _ = some _ from hF); subst e_
          exact x_return ⟨_, ⟨_, _, rfl, rfl, rfl⟩, rfl, hS.drop⟩
        · replace hF := it_bf hc54 hF
          refine x_skip <| x_blk <| x_seq <| x_region <|
            p (yl_assign rfl) <| x_done <|
            ?_
          have e_ := Option.some.inj (show some _ = some _ from hF); subst e_
          exact x_return ⟨_, ⟨_, _, rfl, rfl, rfl⟩, rfl, hS.drop⟩
attribute [irreducible] P_array_Config_beside

def P_array_Config_wire (c0 : T_array_Config) (tile1 : Int) (side2 : Int) (track3 : Int) : Option Int :=
  ar (tile1 * 4) fun x10 =>
  ar (x10 + side2) fun x12 =>
  ar (x12 * c0.Tracks) fun x15 =>
  ar (x15 + track3) fun x17 =>
  some x17
set_option maxHeartbeats 4000000 in
set_option maxRecDepth 100000 in
theorem c_array_Config_wire {w0 w : World} {l : List Assn} {ρ : Heap} {A_c0_3 : Option Addr} {n_c0_3 : Nat} {c_c0_3 : Nat} {A_c0_4 : Option Addr} {n_c0_4 : Nat} {c_c0_4 : Nat} {A_c0_5 : Option Addr} {n_c0_5 : Nat} {c_c0_5 : Nat} {c0 : T_array_Config} {tile1 : Int} {side2 : Int} {track3 : Int} {r : Int} (hF : P_array_Config_wire c0 tile1 side2 track3 = some r) (h_c0_3 : RdS R_array_Tile ρ A_c0_3 n_c0_3 c_c0_3 c0.Tiles) (h_c0_4 : RdS R_array_Pad ρ A_c0_4 n_c0_4 c_c0_4 c0.In) (h_c0_5 : RdS R_array_Pad ρ A_c0_5 n_c0_5 c_c0_5 c0.Out) (hS : St w0 w (ro ρ :: l)) :
    Calls Try.prog 146 #[.agg #[.int .i64 c0.Rows, .int .i64 c0.Cols, .int .i64 c0.Tracks, .slice A_c0_3 n_c0_3 c_c0_3, .slice A_c0_4 n_c0_4 c_c0_4, .slice A_c0_5 n_c0_5 c_c0_5], .int .i64 tile1, .int .i64 side2, .int .i64 track3] w fun e w' => e = .returned (.int .i64 r) ∧ St w0 w' (ro ρ :: l) := by
  have e_ := h_c0_3.n; subst e_
  have e_ := h_c0_4.n; subst e_
  have e_ := h_c0_5.n; subst e_
  refine enterC Try.func146 rfl 18 rfl (by simp) ?_
  refine x_seq <| x_region <|
    ?_
  refine o_box (cs := [.int .i64 c0.Rows, .int .i64 c0.Cols, .int .i64 c0.Tracks, .slice A_c0_3 c0.Tiles.length c_c0_3, .slice A_c0_4 c0.In.length c_c0_4, .slice A_c0_5 c0.Out.length c_c0_5]) rfl rfl hS (fun b4 w' hS => ?_)
  replace hF := ar_s hF; obtain ⟨x10, hx10, hF⟩ := hF
  replace hF := ar_s hF; obtain ⟨x12, hx12, hF⟩ := hF
  replace hF := ar_s hF; obtain ⟨x15, hx15, hF⟩ := hF
  replace hF := ar_s hF; obtain ⟨x17, hx17, hF⟩ := hF
  refine p (yl_assign rfl) <| x_done <| x_seq <| x_region <|
    p (yl_move rfl) <| p (ymul rfl rfl hx10) <| p (yl_move rfl) <| p (yadd rfl rfl hx12) <|
    p (yl_field0 fld_81_2 rfl) <| pa (at_load one_3 rfl (hS.cell rfl)) <| p (ymul rfl rfl hx15) <| p (yl_move rfl) <|
    p (yadd rfl rfl hx17) <| p (yl_assign rfl) <| x_done <|
    ?_
  have e_ := Option.some.inj (show some _ = some _ from hF); subst e_
  exact x_return ⟨_, ⟨_, _, rfl, rfl, rfl⟩, rfl, hS.drop⟩
attribute [irreducible] P_array_Config_wire

def P_array_Config_into (c0 : T_array_Config) (tile1 : Int) (side2 : Int) (track3 : Int) : Option Int :=
  bd (P_array_Config_beside c0 tile1 side2) fun r1_3 =>
  if 0 ≤ r1_3 then
    ar (side2 + 2) fun x20 =>
    ck ((4 : Int) ≠ 0) <|
    lv (Int.tmod x20 4) fun x21 =>
    bd (P_array_Config_wire c0 r1_3 x21 track3) fun r3_6 =>
    some r3_6
  else
    ck (c0.Cols ≠ 0) <|
    ar (Int.tdiv tile1 c0.Cols) fun x29 =>
    ck (c0.Cols ≠ 0) <|
    lv (Int.tmod tile1 c0.Cols) fun x33 =>
    bd (P_slices_Index_array_Pad_array_Pad c0.In (T_array_Pad.mk x29 x33 side2 track3)) fun r4_13 =>
    bd (
      if r4_13 < 0 then
        some (c0.In.length : Int)
      else
        some r4_13) fun k10_c39 =>
    ar ((-1 : Int) - k10_c39) fun x44 =>
    some x44
set_option maxHeartbeats 4000000 in
set_option maxRecDepth 100000 in
theorem c_array_Config_into {w0 w : World} {l : List Assn} {ρ : Heap} {A_c0_3 : Option Addr} {n_c0_3 : Nat} {c_c0_3 : Nat} {A_c0_4 : Option Addr} {n_c0_4 : Nat} {c_c0_4 : Nat} {A_c0_5 : Option Addr} {n_c0_5 : Nat} {c_c0_5 : Nat} {c0 : T_array_Config} {tile1 : Int} {side2 : Int} {track3 : Int} {r : Int} (hF : P_array_Config_into c0 tile1 side2 track3 = some r) (h_c0_3 : RdS R_array_Tile ρ A_c0_3 n_c0_3 c_c0_3 c0.Tiles) (h_c0_4 : RdS R_array_Pad ρ A_c0_4 n_c0_4 c_c0_4 c0.In) (h_c0_5 : RdS R_array_Pad ρ A_c0_5 n_c0_5 c_c0_5 c0.Out) (hS : St w0 w (ro ρ :: l)) :
    Calls Try.prog 157 #[.agg #[.int .i64 c0.Rows, .int .i64 c0.Cols, .int .i64 c0.Tracks, .slice A_c0_3 n_c0_3 c_c0_3, .slice A_c0_4 n_c0_4 c_c0_4, .slice A_c0_5 n_c0_5 c_c0_5], .int .i64 tile1, .int .i64 side2, .int .i64 track3] w fun e w' => e = .returned (.int .i64 r) ∧ St w0 w' (ro ρ :: l) := by
  have e_ := h_c0_3.n; subst e_
  have e_ := h_c0_4.n; subst e_
  have e_ := h_c0_5.n; subst e_
  refine enterC Try.func157 rfl 45 rfl (by simp) ?_
  refine x_seq <| x_region <|
    ?_
  refine o_box (cs := [.int .i64 c0.Rows, .int .i64 c0.Cols, .int .i64 c0.Tracks, .slice A_c0_3 c0.Tiles.length c_c0_3, .slice A_c0_4 c0.In.length c_c0_4, .slice A_c0_5 c0.Out.length c_c0_5]) rfl rfl hS (fun b4 w' hS => ?_)
  replace hF := bd_s hF; obtain ⟨r1_3, hc1_3, hF⟩ := hF
  refine p (yl_assign rfl) <| x_done <| x_seq <| x_seq <|
    x_region <| pa (v := .agg #[.int .i64 c0.Rows, .int .i64 c0.Cols, .int .i64 c0.Tracks, .slice A_c0_3 c0.Tiles.length c_c0_3, .slice A_c0_4 c0.In.length c_c0_4, .slice A_c0_5 c0.Out.length c_c0_5]) (ld_sub agg_81 rfl rfl rfl hS) <| p (yl_move rfl) <| p (yl_move rfl) <|
    ?_
  have hcall := c_array_Config_beside hc1_3 h_c0_3 h_c0_4 h_c0_5 (hS.pull 1)
  refine o_cc call_170 (args3 rfl rfl rfl) ((Calls.mono hcall (fun e w'' h => And.intro h.1 (h.2.pull 1)))) ?_
  rintro e w' ⟨rfl, hS⟩
  refine ⟨_, rfl, ?_⟩
  refine p (v := .int .i64 r1_3) (yl_assign rfl) <| x_done <| x_seq <| x_region <|
    p (v := .int .i64 r1_3) (yl_move rfl) <| p (yl_geq rfl rfl) <| x_done <|
    x_cond_p (0 ≤ r1_3) rfl (fun hc16 => ?_) (fun hc16 => ?_)
  · replace hF := it_t hc16 hF
    replace hF := ar_s hF; obtain ⟨x20, hx20, hF⟩ := hF
    replace hF := ck_s hF; obtain ⟨hk3_4, hF⟩ := hF
    replace hF := lv_s hF; obtain ⟨x21, hx21, hF⟩ := hF
    replace hF := bd_s hF; obtain ⟨r3_6, hc3_6, hF⟩ := hF
    refine x_seq <| x_region <| pa (v := .agg #[.int .i64 c0.Rows, .int .i64 c0.Cols, .int .i64 c0.Tracks, .slice A_c0_3 c0.Tiles.length c_c0_3, .slice A_c0_4 c0.In.length c_c0_4, .slice A_c0_5 c0.Out.length c_c0_5]) (ld_sub agg_81 rfl rfl rfl hS) <| p (v := .int .i64 r1_3) (yl_move rfl) <|
      p (yl_move rfl) <| p (yadd rfl rfl hx20) <| p (yrem rfl rfl hk3_4 hx21) <| p (yl_move rfl) <|
      ?_
    have hcall := c_array_Config_wire hc3_6 h_c0_3 h_c0_4 h_c0_5 (hS.pull 1)
    refine o_cc call_146 (args4 rfl rfl rfl rfl) ((Calls.mono hcall (fun e w'' h => And.intro h.1 (h.2.pull 1)))) ?_
    rintro e w' ⟨rfl, hS⟩
    refine ⟨_, rfl, ?_⟩
    refine p (v := .int .i64 r3_6) (yl_assign rfl) <| x_done <|
      ?_
    have e_ := Option.some.inj (show some _ = some _ from hF); subst e_
    exact x_return ⟨_, ⟨_, _, rfl, rfl, rfl⟩, rfl, hS.drop⟩
  · replace hF := it_f hc16 hF
    replace hF := ck_s hF; obtain ⟨hk4_5, hF⟩ := hF
    replace hF := ar_s hF; obtain ⟨x29, hx29, hF⟩ := hF
    replace hF := ck_s hF; obtain ⟨hk4_9, hF⟩ := hF
    replace hF := lv_s hF; obtain ⟨x33, hx33, hF⟩ := hF
    replace hF := bd_s hF; obtain ⟨r4_13, hc4_13, hF⟩ := hF
    refine x_skip <| x_seq <| x_still mixed (by kernel_rfl) hS <| q (yl_field0 fld_81_4 rfl) <|
      qa (fun w' hS => at_load one_79 rfl (hS.cell rfl)) <| q (yl_move rfl) <| q (yl_field0 fld_81_1 rfl) <| qa (fun w' hS => at_load one_3 rfl (hS.cell rfl)) <|
      q (yquo rfl rfl hk4_5 hx29) <| q (yl_move rfl) <| q (yl_field0 fld_81_1 rfl) <| qa (fun w' hS => at_load one_3 rfl (hS.cell rfl)) <|
      q (yrem rfl rfl hk4_9 hx33) <| q (yl_move rfl) <| q (yl_move rfl) <| q (v := .agg #[.int .i64 x29, .int .i64 x33, .int .i64 side2, .int .i64 track3]) (yl_build bld_187 bldf_187 (parts_eq (pt (va := .int .i64 x29) rfl (pt (va := .int .i64 x33) rfl (pt (va := .int .i64 side2) rfl (pt (va := .int .i64 track3) rfl pt0))))) (by kernel_rfl)) <|
      qcc (v := .int .i64 r4_13) call_169 (args2 rfl rfl) (fun w' hS => by
        have hcall := c_slices_Index_array_Pad_array_Pad hc4_13 h_c0_4 (hS.pull 1)
        exact (Calls.mono hcall (fun e w'' h => And.intro h.1 (h.2.pull 1)))) <| q (v := .int .i64 r4_13) (yl_assign rfl) <|
      q_done fun w' hS => ?_
    refine x_seq <| x_seq <| x_region <| p (v := .int .i64 r4_13) (yl_move rfl) <|
      p (yl_lss rfl rfl) <| x_done <|
      ?_
    replace hF := bd_s hF; obtain ⟨oc39, hFc39, hF⟩ := hF
    refine x_join (fun E w => ∃ (k10_c39 : Int), k10_c39 = oc39 ∧ E 10 = .int .i64 k10_c39 ∧ St w0 w (ro ρ :: l)) ?_ ?_
    · skip -- c39
      refine x_cond_p (r4_13 < 0) rfl (fun hc39 => ?_) (fun hc39 => ?_)
      · replace hFc39 := it_t hc39 hFc39
        refine x_region <| p (yl_field0 fld_81_4 rfl) <| pa (at_load one_79 rfl (hS.cell rfl)) <| p (yl_len_slice usl_79 rfl) <|
          p (yl_assign rfl) <| x_done <|
          ?_
        exact x_inv ⟨(c0.In.length : Int), (Option.some.inj (show some _ = some _ from hFc39)), rfl, hS.drop⟩
      · replace hFc39 := it_f hc39 hFc39
        refine x_skip <|
          ?_
        exact x_inv ⟨r4_13, (Option.some.inj (show some _ = some _ from hFc39)), rfl, hS.drop⟩
    rintro E w ⟨k10_c39, rfl, ec39_10, hS⟩
    replace hF := ar_s hF; obtain ⟨x44, hx44, hF⟩ := hF
    refine x_seq <| x_region <| p (yl_move ec39_10) <| p (ysub rfl rfl hx44) <|
      p (yl_assign rfl) <| x_done <|
      ?_
    have e_ := Option.some.inj (show some _ = some _ from hF); subst e_
    exact x_return ⟨_, ⟨_, _, rfl, rfl, rfl⟩, rfl, hS⟩
attribute [irreducible] P_array_Config_into

def P_array_Config_sources (c0 : T_array_Config) (tile1 : Int) : Option (List Int) :=
  ck (inb tile1 c0.Tiles.length) <|
  lv (gt c0.Tiles tile1) fun y2_5 =>
  ck ((decide (0 < y2_5.In.fe0)) = true → I64 ((4 : Int) * c0.Tracks)) <|
  lv ((4 : Int) * c0.Tracks) fun x23u4 =>
  lv ((decide (0 < y2_5.In.fe0)) && (decide (y2_5.In.fe0 ≤ x23u4))) fun x25u4 =>
  bd (
    if x25u4 = true then
      ar (y2_5.In.fe0 - 1) fun x30u4 =>
      ck (c0.Tracks ≠ 0) <|
      ar (Int.tdiv x30u4 c0.Tracks) fun x33u4 =>
      ar (y2_5.In.fe0 - 1) fun x35u4 =>
      ck (c0.Tracks ≠ 0) <|
      lv (Int.tmod x35u4 c0.Tracks) fun x38u4 =>
      bd (P_array_Config_into c0 tile1 x33u4 x38u4) fun r6u4_13 =>
      lv ([r6u4_13]) fun z6u4_15 =>
      ck (apOk 8 z6u4_15.length) <|
      some z6u4_15
    else
      some []) fun out5_c25u4 =>
  ck ((decide (0 < y2_5.In.fe1)) = true → I64 ((4 : Int) * c0.Tracks)) <|
  lv ((4 : Int) * c0.Tracks) fun x23u3 =>
  lv ((decide (0 < y2_5.In.fe1)) && (decide (y2_5.In.fe1 ≤ x23u3))) fun x25u3 =>
  bd (
    if x25u3 = true then
      ar (y2_5.In.fe1 - 1) fun x30u3 =>
      ck (c0.Tracks ≠ 0) <|
      ar (Int.tdiv x30u3 c0.Tracks) fun x33u3 =>
      ar (y2_5.In.fe1 - 1) fun x35u3 =>
      ck (c0.Tracks ≠ 0) <|
      lv (Int.tmod x35u3 c0.Tracks) fun x38u3 =>
      bd (P_array_Config_into c0 tile1 x33u3 x38u3) fun r6u3_13 =>
      lv (out5_c25u4 ++ [r6u3_13]) fun z6u3_15 =>
      ck (apOk 8 z6u3_15.length) <|
      some z6u3_15
    else
      some out5_c25u4) fun out5_c25u3 =>
  ck ((decide (0 < y2_5.In.fe2)) = true → I64 ((4 : Int) * c0.Tracks)) <|
  lv ((4 : Int) * c0.Tracks) fun x23u2 =>
  lv ((decide (0 < y2_5.In.fe2)) && (decide (y2_5.In.fe2 ≤ x23u2))) fun x25u2 =>
  bd (
    if x25u2 = true then
      ar (y2_5.In.fe2 - 1) fun x30u2 =>
      ck (c0.Tracks ≠ 0) <|
      ar (Int.tdiv x30u2 c0.Tracks) fun x33u2 =>
      ar (y2_5.In.fe2 - 1) fun x35u2 =>
      ck (c0.Tracks ≠ 0) <|
      lv (Int.tmod x35u2 c0.Tracks) fun x38u2 =>
      bd (P_array_Config_into c0 tile1 x33u2 x38u2) fun r6u2_13 =>
      lv (out5_c25u3 ++ [r6u2_13]) fun z6u2_15 =>
      ck (apOk 8 z6u2_15.length) <|
      some z6u2_15
    else
      some out5_c25u3) fun out5_c25u2 =>
  ck ((decide (0 < y2_5.In.fe3)) = true → I64 ((4 : Int) * c0.Tracks)) <|
  lv ((4 : Int) * c0.Tracks) fun x23u1 =>
  lv ((decide (0 < y2_5.In.fe3)) && (decide (y2_5.In.fe3 ≤ x23u1))) fun x25u1 =>
  bd (
    if x25u1 = true then
      ar (y2_5.In.fe3 - 1) fun x30u1 =>
      ck (c0.Tracks ≠ 0) <|
      ar (Int.tdiv x30u1 c0.Tracks) fun x33u1 =>
      ar (y2_5.In.fe3 - 1) fun x35u1 =>
      ck (c0.Tracks ≠ 0) <|
      lv (Int.tmod x35u1 c0.Tracks) fun x38u1 =>
      bd (P_array_Config_into c0 tile1 x33u1 x38u1) fun r6u1_13 =>
      lv (out5_c25u2 ++ [r6u1_13]) fun z6u1_15 =>
      ck (apOk 8 z6u1_15.length) <|
      some z6u1_15
    else
      some out5_c25u2) fun out5_c25u1 =>
  some out5_c25u1
set_option maxHeartbeats 4000000 in
set_option maxRecDepth 100000 in
theorem c_array_Config_sources {w0 w : World} {l : List Assn} {ρ : Heap} {A_c0_3 : Option Addr} {n_c0_3 : Nat} {c_c0_3 : Nat} {A_c0_4 : Option Addr} {n_c0_4 : Nat} {c_c0_4 : Nat} {A_c0_5 : Option Addr} {n_c0_5 : Nat} {c_c0_5 : Nat} {c0 : T_array_Config} {tile1 : Int} {r : List Int} (hF : P_array_Config_sources c0 tile1 = some r) (h_c0_3 : RdS R_array_Tile ρ A_c0_3 n_c0_3 c_c0_3 c0.Tiles) (h_c0_4 : RdS R_array_Pad ρ A_c0_4 n_c0_4 c_c0_4 c0.In) (h_c0_5 : RdS R_array_Pad ρ A_c0_5 n_c0_5 c_c0_5 c0.Out) (hS : St w0 w (ro ρ :: l)) :
    Calls Try.prog 156 #[.agg #[.int .i64 c0.Rows, .int .i64 c0.Cols, .int .i64 c0.Tracks, .slice A_c0_3 n_c0_3 c_c0_3, .slice A_c0_4 n_c0_4 c_c0_4, .slice A_c0_5 n_c0_5 c_c0_5], .int .i64 tile1] w fun e w' => ∃ (A_y0_ret : Option Addr) (n_y0_ret : Nat) (c_y0_ret : Nat) (cs_y0_ret : List Value), e = .returned (.slice A_y0_ret n_y0_ret c_y0_ret) ∧ RepL (RpI .i64) ρ r cs_y0_ret ∧ St w0 w' (vec 3 (RpI .i64).sz (.slice A_y0_ret n_y0_ret c_y0_ret) n_y0_ret cs_y0_ret :: ro ρ :: l) := by
  have e_ := h_c0_3.n; subst e_
  have e_ := h_c0_4.n; subst e_
  have e_ := h_c0_5.n; subst e_
  refine enterC Try.func156 rfl 44 rfl (by simp) ?_
  refine x_seq <| x_region <|
    ?_
  refine o_box (cs := [.int .i64 c0.Rows, .int .i64 c0.Cols, .int .i64 c0.Tracks, .slice A_c0_3 c0.Tiles.length c_c0_3, .slice A_c0_4 c0.In.length c_c0_4, .slice A_c0_5 c0.Out.length c_c0_5]) rfl rfl hS (fun b2 w' hS => ?_)
  replace hF := ck_s hF; obtain ⟨hk2_3, hF⟩ := hF
  replace hF := lv_s hF; obtain ⟨y2_5, hy2_5, hF⟩ := hF
  have q_ := h_c0_3.get hk2_3; obtain ⟨el2_5, ek2_5, ee2_5⟩ := q_
  rw [← hy2_5] at ek2_5
  obtain ⟨A2_5_6, n2_5_6, c2_5_6, A2_5_7, n2_5_7, c2_5_7, A2_5_8, n2_5_8, c2_5_8, A2_5_9, n2_5_9, c2_5_9, rfl, f2_5_6, f2_5_7, f2_5_8, f2_5_9⟩ := ek2_5
  have e_ := f2_5_6.n; subst e_
  have e_ := f2_5_7.n; subst e_
  have e_ := f2_5_8.n; subst e_
  have e_ := f2_5_9.n; subst e_
  replace hF := ck_s hF; obtain ⟨hk5_6u4, hF⟩ := hF
  replace hF := lv_s hF; obtain ⟨x23u4, hx23u4, hF⟩ := hF
  replace hF := lv_s hF; obtain ⟨x25u4, hx25u4, hF⟩ := hF
  refine p (yl_assign rfl) <| x_done <| x_seq <| x_region <|
    p (yl_assign rfl) <| x_done <| x_seq <| x_seq <|
    x_region <| p (yl_field0 fld_81_3 rfl) <| pa (at_load one_78 rfl (hS.cell rfl)) <| p (yl_move rfl) <|
    p (yix_f sl_78 rfl rfl h_c0_3 hk2_3) <| p (yl_fieldAddr fld_183_2 rfl) <| pa (at_loadAgg (cs := [.int .i64 y2_5.In.fe0, .int .i64 y2_5.In.fe1, .int .i64 y2_5.In.fe2, .int .i64 y2_5.In.fe3]) agg_180 rfl rfl (sub_every (m := 4) (Elt.every ee2_5 (hS.pull 1)) rfl)) <| p (yl_move rfl) <|
    x_done <| x_block <| x_unroll 4 <| x_seq <|
    x_region <| p (ylss_l (t := true) rfl rfl (by decide)) <| x_done <| x_seq <|
    x_cond_t (show ev _ _ = .bool true from rfl) <| x_skip <| x_seq <| x_block <|
    x_seq <| x_region <| p (yl_ixv (x := .tmp 13) (y := .tmp 14) (v := .int .i64 y2_5.In.fe0) arr_180 one_3 rfl rfl (by decide) rfl) <| p (yl_assign rfl) <|
    x_done <| x_seq <| x_region <| p (yl_move rfl) <|
    p (yl_gtr rfl rfl) <| p (yl_move rfl) <| pg (v := .int .i64 y2_5.In.fe0) 19 (c := decide (0 < y2_5.In.fe0)) (says_t _) (fun hq => Yl.at (yl_move rfl)) <| pg (v := .pointer (some ⟨b2, 2, none⟩)) 19 (c := decide (0 < y2_5.In.fe0)) (says_t _) (fun hq => Yl.at (yl_field0 fld_81_2 rfl)) <|
    pg (v := .int .i64 c0.Tracks) 19 (c := decide (0 < y2_5.In.fe0)) (says_t _) (fun hq => at_load one_3 (cv hq) (hS.cell rfl)) <| pg (v := .int .i64 x23u4) 19 (c := decide (0 < y2_5.In.fe0)) (says_t _) (fun hq => Yl.at (ymul rfl (cv hq) ⟨hx23u4, (hk5_6u4 hq)⟩)) <| pg (v := .bool (decide (y2_5.In.fe0 ≤ x23u4))) 19 (c := decide (0 < y2_5.In.fe0)) (says_t _) (fun hq => Yl.at (yl_leq (cv hq) (cv hq))) <| p (yand' rfl (fun hc => (cv hc)) rfl hx25u4) <|
    x_done <|
    ?_
  replace hF := bd_s hF; obtain ⟨oc25u4, hFc25u4, hF⟩ := hF
  refine x_join (fun E w => ∃ (A_out5_c25u4 : Option Addr) (n_out5_c25u4 : Nat) (c_out5_c25u4 : Nat) (cs_out5_c25u4 : List Value) (out5_c25u4 : List Int), out5_c25u4 = oc25u4 ∧ E 1 = .int .i64 tile1 ∧ E 2 = .pointer (some ⟨b2, 0, none⟩) ∧ E 5 = .slice A_out5_c25u4 n_out5_c25u4 c_out5_c25u4 ∧ E 13 = .agg #[.int .i64 y2_5.In.fe0, .int .i64 y2_5.In.fe1, .int .i64 y2_5.In.fe2, .int .i64 y2_5.In.fe3] ∧ E 14 = .int .i64 0 ∧ RepL (RpI .i64) ρ out5_c25u4 cs_out5_c25u4 ∧ St w0 w (cells b2 81 [.int .i64 c0.Rows, .int .i64 c0.Cols, .int .i64 c0.Tracks, .slice A_c0_3 c0.Tiles.length c_c0_3, .slice A_c0_4 c0.In.length c_c0_4, .slice A_c0_5 c0.Out.length c_c0_5] :: vec 3 (RpI .i64).sz (.slice A_out5_c25u4 n_out5_c25u4 c_out5_c25u4) n_out5_c25u4 cs_out5_c25u4 :: ro ρ :: l)) ?_ ?_
  · skip -- c25u4
    refine x_cond (t := x25u4) rfl (fun hc25u4 => ?_) (fun hc25u4 => ?_)
    · replace hFc25u4 := it_t hc25u4 hFc25u4
      replace hFc25u4 := ar_s hFc25u4; obtain ⟨x30u4, hx30u4, hFc25u4⟩ := hFc25u4
      replace hFc25u4 := ck_s hFc25u4; obtain ⟨hk6u4_7, hFc25u4⟩ := hFc25u4
      replace hFc25u4 := ar_s hFc25u4; obtain ⟨x33u4, hx33u4, hFc25u4⟩ := hFc25u4
      replace hFc25u4 := ar_s hFc25u4; obtain ⟨x35u4, hx35u4, hFc25u4⟩ := hFc25u4
      replace hFc25u4 := ck_s hFc25u4; obtain ⟨hk6u4_12, hFc25u4⟩ := hFc25u4
      replace hFc25u4 := lv_s hFc25u4; obtain ⟨x38u4, hx38u4, hFc25u4⟩ := hFc25u4
      replace hFc25u4 := bd_s hFc25u4; obtain ⟨r6u4_13, hc6u4_13, hFc25u4⟩ := hFc25u4
      replace hFc25u4 := lv_s hFc25u4; obtain ⟨z6u4_15, hz6u4_15, hFc25u4⟩ := hFc25u4
      replace hFc25u4 := ck_s hFc25u4; obtain ⟨hk6u4_15, hFc25u4⟩ := hFc25u4
      refine x_par (w0 := w0) [⟨[], [], [26], [], [], []⟩, ⟨[], [], [27], [0], [], []⟩, ⟨[], [], [28], [], [], []⟩, ⟨[], [], [29], [], [], []⟩, ⟨[3], [3], [30], [], [], []⟩, ⟨[], [], [31], [], [], []⟩, ⟨[5], [5], [32], [0], [], []⟩, ⟨[3, 4, 5, 6], [4, 6], [33], [], [], []⟩, ⟨[], [], [34], [], [], []⟩, ⟨[8], [8], [35], [], [], []⟩, ⟨[], [], [36], [], [], []⟩, ⟨[10], [10], [37], [0], [], []⟩, ⟨[8, 9, 10, 11], [9, 11], [38], [], [], []⟩, ⟨[1, 2, 3, 4, 5, 6, 7, 8, 9, 10, 11, 12], [1, 2, 7, 12], [39], [1], [], []⟩, ⟨[1, 2, 3, 4, 5, 6, 7, 8, 9, 10, 11, 12, 13], [13], [40], [], [], [2]⟩, ⟨[0, 1, 2, 3, 4, 5, 6, 7, 8, 9, 10, 11, 12, 13, 14], [0, 14], [41], [2, 1], [], [3]⟩, ⟨[0, 1, 2, 3, 4, 5, 6, 7, 8, 9, 10, 11, 12, 13, 14, 15], [15], [5, 41], [], [], []⟩] [⟨none, none, []⟩, ⟨none, none, []⟩, ⟨(some 14), none, [40]⟩, ⟨(some 15), none, [41]⟩] [5, 26, 27, 28, 29, 30, 31, 32, 33, 34, 35, 36, 37, 38, 39, 40, 41] [0, 1] [0, 1, 2, 3] [0, 1, 2, 3, 4, 5, 6, 7, 8, 9, 10, 11, 12, 13, 14, 15, 16] [fun Ep6u4 => Ep6u4 26 = .slice none 0 0, fun Ep6u4 => Ep6u4 27 = .agg #[.int .i64 c0.Rows, .int .i64 c0.Cols, .int .i64 c0.Tracks, .slice A_c0_3 c0.Tiles.length c_c0_3, .slice A_c0_4 c0.In.length c_c0_4, .slice A_c0_5 c0.Out.length c_c0_5], fun Ep6u4 => Ep6u4 28 = .int .i64 tile1, fun Ep6u4 => Ep6u4 29 = .int .i64 y2_5.In.fe0, fun Ep6u4 => Ep6u4 30 = .int .i64 x30u4, fun Ep6u4 => Ep6u4 31 = .pointer (some ⟨b2, 2, none⟩), fun Ep6u4 => Ep6u4 32 = .int .i64 c0.Tracks, fun Ep6u4 => Ep6u4 33 = .int .i64 x33u4, fun Ep6u4 => Ep6u4 34 = .int .i64 y2_5.In.fe0, fun Ep6u4 => Ep6u4 35 = .int .i64 x35u4, fun Ep6u4 => Ep6u4 36 = .pointer (some ⟨b2, 2, none⟩), fun Ep6u4 => Ep6u4 37 = .int .i64 c0.Tracks, fun Ep6u4 => Ep6u4 38 = .int .i64 x38u4, fun Ep6u4 => Ep6u4 39 = .int .i64 r6u4_13, fun Ep6u4 => Ep6u4 40 = .slice (some ⟨(blkOf (Ep6u4 40)), 0, none⟩) 1 1, fun Ep6u4 => Ep6u4 41 = .slice (adOf (Ep6u4 41)) z6u4_15.length (capOf (Ep6u4 41)), fun Ep6u4 => Ep6u4 5 = .slice (adOf (Ep6u4 41)) z6u4_15.length (capOf (Ep6u4 41))] [fun Ep6u4 => cells b2 81 [.int .i64 c0.Rows, .int .i64 c0.Cols, .int .i64 c0.Tracks, .slice A_c0_3 c0.Tiles.length c_c0_3, .slice A_c0_4 c0.In.length c_c0_4, .slice A_c0_5 c0.Out.length c_c0_5], fun Ep6u4 => ro ρ, fun Ep6u4 => cells (blkOf (Ep6u4 40)) 3 [.int .i64 r6u4_13], fun Ep6u4 => bunA (fun (cs41u4 : List Value) => RepL (RpI .i64) ρ z6u4_15 cs41u4) (fun (cs41u4 : List Value) => [vec 3 (RpI .i64).sz (.slice (adOf (Ep6u4 41)) z6u4_15.length (capOf (Ep6u4 41))) z6u4_15.length cs41u4])] mixed (by kernel_rfl) ((hS.pull 1).pull 1) ?_ ?_
      · refine ⟨?_, ?_, ?_, ?_, ?_, ?_, ?_, ?_, ?_, ?_, ?_, ?_, ?_, ?_, ?_, ?_, ?_, trivial⟩
        · intro Ep6u4 w l' hE6u4 hO6u4 hF_ hS
          refine p (yl_move (hO6u4 5 rfl)) <| x_done <|
            ?_
          refine x_fin ⟨⟨_, rfl⟩, rfl, ?_⟩
          exact Eq.mp (by kernel_rfl) hS
        · intro Ep6u4 w l' hE6u4 hO6u4 hF_ hS
          replace hS : St w0 w (cells b2 81 [.int .i64 c0.Rows, .int .i64 c0.Cols, .int .i64 c0.Tracks, .slice A_c0_3 c0.Tiles.length c_c0_3, .slice A_c0_4 c0.In.length c_c0_4, .slice A_c0_5 c0.Out.length c_c0_5] :: l') := Eq.mp (by kernel_rfl) hS
          refine pa (v := .agg #[.int .i64 c0.Rows, .int .i64 c0.Cols, .int .i64 c0.Tracks, .slice A_c0_3 c0.Tiles.length c_c0_3, .slice A_c0_4 c0.In.length c_c0_4, .slice A_c0_5 c0.Out.length c_c0_5]) (ld_sub agg_81 (hE6u4 2 rfl) rfl rfl hS) <| x_done <|
            ?_
          refine x_fin ⟨⟨_, rfl⟩, rfl, ?_⟩
          exact Eq.mp (by kernel_rfl) hS
        · intro Ep6u4 w l' hE6u4 hO6u4 hF_ hS
          refine p (yl_move (hE6u4 1 rfl)) <| x_done <|
            ?_
          refine x_fin ⟨⟨_, rfl⟩, rfl, ?_⟩
          exact Eq.mp (by kernel_rfl) hS
        · intro Ep6u4 w l' hE6u4 hO6u4 hF_ hS
          refine p (yl_move (hE6u4 7 rfl)) <| x_done <|
            ?_
          refine x_fin ⟨⟨_, rfl⟩, rfl, ?_⟩
          exact Eq.mp (by kernel_rfl) hS
        · intro Ep6u4 w l' hE6u4 hO6u4 hF_ hS
          obtain ⟨f6u4_3, -⟩ := hF_
          replace f6u4_3 : Ep6u4 29 = .int .i64 y2_5.In.fe0 := Eq.mp (by kernel_rfl) f6u4_3
          refine p (ysub f6u4_3 rfl hx30u4) <| x_done <|
            ?_
          refine x_fin ⟨⟨_, rfl⟩, rfl, ?_⟩
          exact Eq.mp (by kernel_rfl) hS
        · intro Ep6u4 w l' hE6u4 hO6u4 hF_ hS
          refine p (yl_field0 fld_81_2 (hE6u4 2 rfl)) <| x_done <|
            ?_
          refine x_fin ⟨⟨_, rfl⟩, rfl, ?_⟩
          exact Eq.mp (by kernel_rfl) hS
        · intro Ep6u4 w l' hE6u4 hO6u4 hF_ hS
          obtain ⟨f6u4_5, -⟩ := hF_
          replace f6u4_5 : Ep6u4 31 = .pointer (some ⟨b2, 2, none⟩) := Eq.mp (by kernel_rfl) f6u4_5
          replace hS : St w0 w (cells b2 81 [.int .i64 c0.Rows, .int .i64 c0.Cols, .int .i64 c0.Tracks, .slice A_c0_3 c0.Tiles.length c_c0_3, .slice A_c0_4 c0.In.length c_c0_4, .slice A_c0_5 c0.Out.length c_c0_5] :: l') := Eq.mp (by kernel_rfl) hS
          refine pa (at_load one_3 f6u4_5 (hS.cell rfl)) <| x_done <|
            ?_
          refine x_fin ⟨⟨_, rfl⟩, rfl, ?_⟩
          exact Eq.mp (by kernel_rfl) hS
        · intro Ep6u4 w l' hE6u4 hO6u4 hF_ hS
          obtain ⟨f6u4_4, f6u4_6, -⟩ := hF_
          replace f6u4_4 : Ep6u4 30 = .int .i64 x30u4 := Eq.mp (by kernel_rfl) f6u4_4
          replace f6u4_6 : Ep6u4 32 = .int .i64 c0.Tracks := Eq.mp (by kernel_rfl) f6u4_6
          refine p (yquo f6u4_4 f6u4_6 hk6u4_7 hx33u4) <| x_done <|
            ?_
          refine x_fin ⟨⟨_, rfl⟩, rfl, ?_⟩
          exact Eq.mp (by kernel_rfl) hS
        · intro Ep6u4 w l' hE6u4 hO6u4 hF_ hS
          refine p (yl_move (hE6u4 7 rfl)) <| x_done <|
            ?_
          refine x_fin ⟨⟨_, rfl⟩, rfl, ?_⟩
          exact Eq.mp (by kernel_rfl) hS
        · intro Ep6u4 w l' hE6u4 hO6u4 hF_ hS
          obtain ⟨f6u4_8, -⟩ := hF_
          replace f6u4_8 : Ep6u4 34 = .int .i64 y2_5.In.fe0 := Eq.mp (by kernel_rfl) f6u4_8
          refine p (ysub f6u4_8 rfl hx35u4) <| x_done <|
            ?_
          refine x_fin ⟨⟨_, rfl⟩, rfl, ?_⟩
          exact Eq.mp (by kernel_rfl) hS
        · intro Ep6u4 w l' hE6u4 hO6u4 hF_ hS
          refine p (yl_field0 fld_81_2 (hE6u4 2 rfl)) <| x_done <|
            ?_
          refine x_fin ⟨⟨_, rfl⟩, rfl, ?_⟩
          exact Eq.mp (by kernel_rfl) hS
        · intro Ep6u4 w l' hE6u4 hO6u4 hF_ hS
          obtain ⟨f6u4_10, -⟩ := hF_
          replace f6u4_10 : Ep6u4 36 = .pointer (some ⟨b2, 2, none⟩) := Eq.mp (by kernel_rfl) f6u4_10
          replace hS : St w0 w (cells b2 81 [.int .i64 c0.Rows, .int .i64 c0.Cols, .int .i64 c0.Tracks, .slice A_c0_3 c0.Tiles.length c_c0_3, .slice A_c0_4 c0.In.length c_c0_4, .slice A_c0_5 c0.Out.length c_c0_5] :: l') := Eq.mp (by kernel_rfl) hS
          refine pa (at_load one_3 f6u4_10 (hS.cell rfl)) <| x_done <|
            ?_
          refine x_fin ⟨⟨_, rfl⟩, rfl, ?_⟩
          exact Eq.mp (by kernel_rfl) hS
        · intro Ep6u4 w l' hE6u4 hO6u4 hF_ hS
          obtain ⟨f6u4_9, f6u4_11, -⟩ := hF_
          replace f6u4_9 : Ep6u4 35 = .int .i64 x35u4 := Eq.mp (by kernel_rfl) f6u4_9
          replace f6u4_11 : Ep6u4 37 = .int .i64 c0.Tracks := Eq.mp (by kernel_rfl) f6u4_11
          refine p (yrem f6u4_9 f6u4_11 hk6u4_12 hx38u4) <| x_done <|
            ?_
          refine x_fin ⟨⟨_, rfl⟩, rfl, ?_⟩
          exact Eq.mp (by kernel_rfl) hS
        · intro Ep6u4 w l' hE6u4 hO6u4 hF_ hS
          obtain ⟨f6u4_1, f6u4_2, f6u4_7, f6u4_12, -⟩ := hF_
          replace f6u4_1 : Ep6u4 27 = .agg #[.int .i64 c0.Rows, .int .i64 c0.Cols, .int .i64 c0.Tracks, .slice A_c0_3 c0.Tiles.length c_c0_3, .slice A_c0_4 c0.In.length c_c0_4, .slice A_c0_5 c0.Out.length c_c0_5] := Eq.mp (by kernel_rfl) f6u4_1
          replace f6u4_2 : Ep6u4 28 = .int .i64 tile1 := Eq.mp (by kernel_rfl) f6u4_2
          replace f6u4_7 : Ep6u4 33 = .int .i64 x33u4 := Eq.mp (by kernel_rfl) f6u4_7
          replace f6u4_12 : Ep6u4 38 = .int .i64 x38u4 := Eq.mp (by kernel_rfl) f6u4_12
          replace hS : St w0 w (ro ρ :: l') := Eq.mp (by kernel_rfl) hS
          have hcall := c_array_Config_into hc6u4_13 h_c0_3 h_c0_4 h_c0_5 hS
          refine o_cc call_157 (args4 f6u4_1 f6u4_2 f6u4_7 f6u4_12) (hcall) ?_
          rintro e w' ⟨rfl, hS⟩
          refine ⟨_, rfl, ?_⟩
          refine x_done <|
            ?_
          refine x_fin ⟨⟨_, rfl⟩, rfl, ?_⟩
          exact Eq.mp (by kernel_rfl) hS
        · intro Ep6u4 w l' hE6u4 hO6u4 hF_ hS
          obtain ⟨f6u4_13, -⟩ := hF_
          replace f6u4_13 : Ep6u4 39 = .int .i64 r6u4_13 := Eq.mp (by kernel_rfl) f6u4_13
          refine o_buildSlice (vs := [.int .i64 r6u4_13]) (cs := [.int .i64 r6u4_13]) sl_22 zero_3 (parts_eq (pt (va := .int .i64 r6u4_13) f6u4_13 pt0)) rfl (by intro v hv; simp only [List.mem_cons, List.not_mem_nil, or_false] at hv; first | (subst hv; rfl) | (rcases hv with rfl <;> rfl)) (by decide) rfl hS (fun b40u4 w' hS => ?_)
          refine x_done <|
            ?_
          refine x_fin ⟨⟨_, rfl⟩, rfl, ?_⟩
          exact Eq.mp (by kernel_rfl) hS
        · intro Ep6u4 w l' hE6u4 hO6u4 hF_ hS
          obtain ⟨f6u4_0, f6u4_14, -⟩ := hF_
          replace f6u4_0 : Ep6u4 26 = .slice none 0 0 := Eq.mp (by kernel_rfl) f6u4_0
          replace f6u4_14 : Ep6u4 40 = .slice (some ⟨(blkOf (Ep6u4 40)), 0, none⟩) 1 1 := Eq.mp (by kernel_rfl) f6u4_14
          replace hS : St w0 w (cells (blkOf (Ep6u4 40)) 3 [.int .i64 r6u4_13] :: ro ρ :: l') := Eq.mp (by kernel_rfl) hS
          replace hS := St.vec_nil hS 3 (RpI .i64).sz
          have hn41u4 : RepL (RpI .i64) ρ [] [] := rfl
          refine o_ap sl_22 zero_3 rfl (by decide) f6u4_0 f6u4_14 hS hn41u4 (src_blk usl_22 (hS.pull 1) rfl rfl) (RepL.cons (R := (RpI .i64)) (ρ := ρ) (x := r6u4_13) (cs := [.int .i64 r6u4_13]) rfl RepL.nil) (hz6u4_15 : z6u4_15 = [] ++ _) hk6u4_15 (fun A41u4 c41u4 cs41u4 w' hr41u4 hS => ?_)
          refine x_done <|
            ?_
          refine x_fin ⟨⟨_, rfl⟩, rfl, ?_⟩
          replace hS := St.bun (Φ := (fun (cs41u4 : List Value) => RepL (RpI .i64) ρ z6u4_15 cs41u4)) (L := (fun (cs41u4 : List Value) => [vec 3 (RpI .i64).sz (.slice A41u4 z6u4_15.length c41u4) z6u4_15.length cs41u4])) cs41u4 hr41u4 hS
          exact Eq.mp (by kernel_rfl) ((hS.pull 2).pull 2)
        · intro Ep6u4 w l' hE6u4 hO6u4 hF_ hS
          obtain ⟨f6u4_15, -⟩ := hF_
          replace f6u4_15 : Ep6u4 41 = .slice (adOf (Ep6u4 41)) z6u4_15.length (capOf (Ep6u4 41)) := Eq.mp (by kernel_rfl) f6u4_15
          refine p (yl_assign f6u4_15) <| x_done <|
            ?_
          refine x_fin ⟨⟨_, rfl⟩, rfl, ?_⟩
          exact Eq.mp (by kernel_rfl) hS
      intro Ep6u4 w' hE6u4 hF_ hS
      obtain ⟨f6u4_0, f6u4_1, f6u4_2, f6u4_3, f6u4_4, f6u4_5, f6u4_6, f6u4_7, f6u4_8, f6u4_9, f6u4_10, f6u4_11, f6u4_12, f6u4_13, f6u4_14, f6u4_15, f6u4_16, -⟩ := hF_
      replace f6u4_0 : Ep6u4 26 = .slice none 0 0 := Eq.mp (by kernel_rfl) f6u4_0
      replace f6u4_1 : Ep6u4 27 = .agg #[.int .i64 c0.Rows, .int .i64 c0.Cols, .int .i64 c0.Tracks, .slice A_c0_3 c0.Tiles.length c_c0_3, .slice A_c0_4 c0.In.length c_c0_4, .slice A_c0_5 c0.Out.length c_c0_5] := Eq.mp (by kernel_rfl) f6u4_1
      replace f6u4_2 : Ep6u4 28 = .int .i64 tile1 := Eq.mp (by kernel_rfl) f6u4_2
      replace f6u4_3 : Ep6u4 29 = .int .i64 y2_5.In.fe0 := Eq.mp (by kernel_rfl) f6u4_3
      replace f6u4_4 : Ep6u4 30 = .int .i64 x30u4 := Eq.mp (by kernel_rfl) f6u4_4
      replace f6u4_5 : Ep6u4 31 = .pointer (some ⟨b2, 2, none⟩) := Eq.mp (by kernel_rfl) f6u4_5
      replace f6u4_6 : Ep6u4 32 = .int .i64 c0.Tracks := Eq.mp (by kernel_rfl) f6u4_6
      replace f6u4_7 : Ep6u4 33 = .int .i64 x33u4 := Eq.mp (by kernel_rfl) f6u4_7
      replace f6u4_8 : Ep6u4 34 = .int .i64 y2_5.In.fe0 := Eq.mp (by kernel_rfl) f6u4_8
      replace f6u4_9 : Ep6u4 35 = .int .i64 x35u4 := Eq.mp (by kernel_rfl) f6u4_9
      replace f6u4_10 : Ep6u4 36 = .pointer (some ⟨b2, 2, none⟩) := Eq.mp (by kernel_rfl) f6u4_10
      replace f6u4_11 : Ep6u4 37 = .int .i64 c0.Tracks := Eq.mp (by kernel_rfl) f6u4_11
      replace f6u4_12 : Ep6u4 38 = .int .i64 x38u4 := Eq.mp (by kernel_rfl) f6u4_12
      replace f6u4_13 : Ep6u4 39 = .int .i64 r6u4_13 := Eq.mp (by kernel_rfl) f6u4_13
      replace f6u4_14 : Ep6u4 40 = .slice (some ⟨(blkOf (Ep6u4 40)), 0, none⟩) 1 1 := Eq.mp (by kernel_rfl) f6u4_14
      replace f6u4_15 : Ep6u4 41 = .slice (adOf (Ep6u4 41)) z6u4_15.length (capOf (Ep6u4 41)) := Eq.mp (by kernel_rfl) f6u4_15
      replace f6u4_16 : Ep6u4 5 = .slice (adOf (Ep6u4 41)) z6u4_15.length (capOf (Ep6u4 41)) := Eq.mp (by kernel_rfl) f6u4_16
      replace hS : St w0 w' (cells b2 81 [.int .i64 c0.Rows, .int .i64 c0.Cols, .int .i64 c0.Tracks, .slice A_c0_3 c0.Tiles.length c_c0_3, .slice A_c0_4 c0.In.length c_c0_4, .slice A_c0_5 c0.Out.length c_c0_5] :: ro ρ :: cells (blkOf (Ep6u4 40)) 3 [.int .i64 r6u4_13] :: bunA (fun (cs41u4 : List Value) => RepL (RpI .i64) ρ z6u4_15 cs41u4) (fun (cs41u4 : List Value) => [vec 3 (RpI .i64).sz (.slice (adOf (Ep6u4 41)) z6u4_15.length (capOf (Ep6u4 41))) z6u4_15.length cs41u4]) :: (l)) := Eq.mp (by kernel_rfl) hS
      have q_ := St.unbun (hS.pull 3); obtain ⟨cs41u4, hr41u4, hS⟩ := q_
      exact x_inv ⟨(adOf (Ep6u4 41)), z6u4_15.length, (capOf (Ep6u4 41)), cs41u4, z6u4_15, (Option.some.inj (show some _ = some _ from hFc25u4)), (hE6u4 1 rfl), (hE6u4 2 rfl), f6u4_16, (hE6u4 13 rfl), (hE6u4 14 rfl), hr41u4, ((((hS.pull 3).drop.pull 2).pull 1).pull 2)⟩
    · replace hFc25u4 := it_bf hc25u4 hFc25u4
      refine x_skip <|
        ?_
      replace hS := St.vec_nil hS 3 (RpI .i64).sz
      have hnil_A_out5_c25u4 : RepL (RpI .i64) ρ [] [] := rfl
      exact x_inv ⟨none, 0, 0, [], [], (Option.some.inj (show some _ = some _ from hFc25u4)), rfl, rfl, rfl, rfl, rfl, hnil_A_out5_c25u4, (((hS.pull 2).pull 1).pull 2)⟩
  rintro E w ⟨A_out5_c25u4, n_out5_c25u4, c_out5_c25u4, cs_out5_c25u4, out5_c25u4, rfl, ec25u4_1, ec25u4_2, ec25u4_5, ec25u4_13, ec25u4_14, h_out5_c25u4, hS⟩
  have e_ := St.vec_n (hS.pull 1) h_out5_c25u4; subst e_
  replace hF := ck_s hF; obtain ⟨hk5_6u3, hF⟩ := hF
  replace hF := lv_s hF; obtain ⟨x23u3, hx23u3, hF⟩ := hF
  replace hF := lv_s hF; obtain ⟨x25u3, hx25u3, hF⟩ := hF
  refine x_blk <| x_region <| p (yadd (c := 1) ec25u4_14 rfl ⟨rfl, by decide⟩) <| p (yl_move rfl) <|
    x_done <| x_un 3 <| x_seq <| x_region <|
    p (ylss_l (t := true) rfl rfl (by decide)) <| x_done <| x_seq <| x_cond_t (show ev _ _ = .bool true from rfl) <|
    x_skip <| x_seq <| x_block <| x_seq <|
    x_region <| p (yl_ixv (x := .tmp 13) (y := .tmp 14) (v := .int .i64 y2_5.In.fe1) arr_180 one_3 ec25u4_13 rfl (by decide) rfl) <| p (yl_assign rfl) <| x_done <|
    x_seq <| x_region <| p (yl_move rfl) <| p (yl_gtr rfl rfl) <|
    p (yl_move rfl) <| pg (v := .int .i64 y2_5.In.fe1) 19 (c := decide (0 < y2_5.In.fe1)) (says_t _) (fun hq => Yl.at (yl_move rfl)) <| pg (v := .pointer (some ⟨b2, 2, none⟩)) 19 (c := decide (0 < y2_5.In.fe1)) (says_t _) (fun hq => Yl.at (yl_field0 fld_81_2 ec25u4_2)) <| pg (v := .int .i64 c0.Tracks) 19 (c := decide (0 < y2_5.In.fe1)) (says_t _) (fun hq => at_load one_3 (cv hq) (hS.cell rfl)) <|
    pg (v := .int .i64 x23u3) 19 (c := decide (0 < y2_5.In.fe1)) (says_t _) (fun hq => Yl.at (ymul rfl (cv hq) ⟨hx23u3, (hk5_6u3 hq)⟩)) <| pg (v := .bool (decide (y2_5.In.fe1 ≤ x23u3))) 19 (c := decide (0 < y2_5.In.fe1)) (says_t _) (fun hq => Yl.at (yl_leq (cv hq) (cv hq))) <| p (yand' rfl (fun hc => (cv hc)) rfl hx25u3) <| x_done <|
    ?_
  replace hF := bd_s hF; obtain ⟨oc25u3, hFc25u3, hF⟩ := hF
  refine x_join (fun E w => ∃ (A_out5_c25u3 : Option Addr) (n_out5_c25u3 : Nat) (c_out5_c25u3 : Nat) (cs_out5_c25u3 : List Value) (out5_c25u3 : List Int), out5_c25u3 = oc25u3 ∧ E 1 = .int .i64 tile1 ∧ E 2 = .pointer (some ⟨b2, 0, none⟩) ∧ E 5 = .slice A_out5_c25u3 n_out5_c25u3 c_out5_c25u3 ∧ E 13 = .agg #[.int .i64 y2_5.In.fe0, .int .i64 y2_5.In.fe1, .int .i64 y2_5.In.fe2, .int .i64 y2_5.In.fe3] ∧ E 14 = .int .i64 1 ∧ RepL (RpI .i64) ρ out5_c25u3 cs_out5_c25u3 ∧ St w0 w (cells b2 81 [.int .i64 c0.Rows, .int .i64 c0.Cols, .int .i64 c0.Tracks, .slice A_c0_3 c0.Tiles.length c_c0_3, .slice A_c0_4 c0.In.length c_c0_4, .slice A_c0_5 c0.Out.length c_c0_5] :: vec 3 (RpI .i64).sz (.slice A_out5_c25u3 n_out5_c25u3 c_out5_c25u3) n_out5_c25u3 cs_out5_c25u3 :: ro ρ :: l)) ?_ ?_
  · skip -- c25u3
    refine x_cond (t := x25u3) rfl (fun hc25u3 => ?_) (fun hc25u3 => ?_)
    · replace hFc25u3 := it_t hc25u3 hFc25u3
      replace hFc25u3 := ar_s hFc25u3; obtain ⟨x30u3, hx30u3, hFc25u3⟩ := hFc25u3
      replace hFc25u3 := ck_s hFc25u3; obtain ⟨hk6u3_7, hFc25u3⟩ := hFc25u3
      replace hFc25u3 := ar_s hFc25u3; obtain ⟨x33u3, hx33u3, hFc25u3⟩ := hFc25u3
      replace hFc25u3 := ar_s hFc25u3; obtain ⟨x35u3, hx35u3, hFc25u3⟩ := hFc25u3
      replace hFc25u3 := ck_s hFc25u3; obtain ⟨hk6u3_12, hFc25u3⟩ := hFc25u3
      replace hFc25u3 := lv_s hFc25u3; obtain ⟨x38u3, hx38u3, hFc25u3⟩ := hFc25u3
      replace hFc25u3 := bd_s hFc25u3; obtain ⟨r6u3_13, hc6u3_13, hFc25u3⟩ := hFc25u3
      replace hFc25u3 := lv_s hFc25u3; obtain ⟨z6u3_15, hz6u3_15, hFc25u3⟩ := hFc25u3
      replace hFc25u3 := ck_s hFc25u3; obtain ⟨hk6u3_15, hFc25u3⟩ := hFc25u3
      refine x_par (w0 := w0) [⟨[], [], [26], [], [], []⟩, ⟨[], [], [27], [0], [], []⟩, ⟨[], [], [28], [], [], []⟩, ⟨[], [], [29], [], [], []⟩, ⟨[3], [3], [30], [], [], []⟩, ⟨[], [], [31], [], [], []⟩, ⟨[5], [5], [32], [0], [], []⟩, ⟨[3, 4, 5, 6], [4, 6], [33], [], [], []⟩, ⟨[], [], [34], [], [], []⟩, ⟨[8], [8], [35], [], [], []⟩, ⟨[], [], [36], [], [], []⟩, ⟨[10], [10], [37], [0], [], []⟩, ⟨[8, 9, 10, 11], [9, 11], [38], [], [], []⟩, ⟨[1, 2, 3, 4, 5, 6, 7, 8, 9, 10, 11, 12], [1, 2, 7, 12], [39], [1], [], []⟩, ⟨[1, 2, 3, 4, 5, 6, 7, 8, 9, 10, 11, 12, 13], [13], [40], [], [], [2]⟩, ⟨[0, 1, 2, 3, 4, 5, 6, 7, 8, 9, 10, 11, 12, 13, 14], [0, 14], [41], [2, 1], [3], [4]⟩, ⟨[0, 1, 2, 3, 4, 5, 6, 7, 8, 9, 10, 11, 12, 13, 14, 15], [15], [5, 41], [], [], []⟩] [⟨none, none, []⟩, ⟨none, none, []⟩, ⟨(some 14), none, [40]⟩, ⟨none, (some 15), []⟩, ⟨(some 15), none, [41]⟩] [5, 26, 27, 28, 29, 30, 31, 32, 33, 34, 35, 36, 37, 38, 39, 40, 41] [0, 1, 3] [0, 1, 2, 4] [0, 1, 2, 3, 4, 5, 6, 7, 8, 9, 10, 11, 12, 13, 14, 15, 16] [fun Ep6u3 => Ep6u3 26 = .slice A_out5_c25u4 out5_c25u4.length c_out5_c25u4, fun Ep6u3 => Ep6u3 27 = .agg #[.int .i64 c0.Rows, .int .i64 c0.Cols, .int .i64 c0.Tracks, .slice A_c0_3 c0.Tiles.length c_c0_3, .slice A_c0_4 c0.In.length c_c0_4, .slice A_c0_5 c0.Out.length c_c0_5], fun Ep6u3 => Ep6u3 28 = .int .i64 tile1, fun Ep6u3 => Ep6u3 29 = .int .i64 y2_5.In.fe1, fun Ep6u3 => Ep6u3 30 = .int .i64 x30u3, fun Ep6u3 => Ep6u3 31 = .pointer (some ⟨b2, 2, none⟩), fun Ep6u3 => Ep6u3 32 = .int .i64 c0.Tracks, fun Ep6u3 => Ep6u3 33 = .int .i64 x33u3, fun Ep6u3 => Ep6u3 34 = .int .i64 y2_5.In.fe1, fun Ep6u3 => Ep6u3 35 = .int .i64 x35u3, fun Ep6u3 => Ep6u3 36 = .pointer (some ⟨b2, 2, none⟩), fun Ep6u3 => Ep6u3 37 = .int .i64 c0.Tracks, fun Ep6u3 => Ep6u3 38 = .int .i64 x38u3, fun Ep6u3 => Ep6u3 39 = .int .i64 r6u3_13, fun Ep6u3 => Ep6u3 40 = .slice (some ⟨(blkOf (Ep6u3 40)), 0, none⟩) 1 1, fun Ep6u3 => Ep6u3 41 = .slice (adOf (Ep6u3 41)) z6u3_15.length (capOf (Ep6u3 41)), fun Ep6u3 => Ep6u3 5 = .slice (adOf (Ep6u3 41)) z6u3_15.length (capOf (Ep6u3 41))] [fun Ep6u3 => cells b2 81 [.int .i64 c0.Rows, .int .i64 c0.Cols, .int .i64 c0.Tracks, .slice A_c0_3 c0.Tiles.length c_c0_3, .slice A_c0_4 c0.In.length c_c0_4, .slice A_c0_5 c0.Out.length c_c0_5], fun Ep6u3 => ro ρ, fun Ep6u3 => cells (blkOf (Ep6u3 40)) 3 [.int .i64 r6u3_13], fun Ep6u3 => vec 3 (RpI .i64).sz (.slice A_out5_c25u4 out5_c25u4.length c_out5_c25u4) out5_c25u4.length cs_out5_c25u4, fun Ep6u3 => bunA (fun (cs41u3 : List Value) => RepL (RpI .i64) ρ z6u3_15 cs41u3) (fun (cs41u3 : List Value) => [vec 3 (RpI .i64).sz (.slice (adOf (Ep6u3 41)) z6u3_15.length (capOf (Ep6u3 41))) z6u3_15.length cs41u3])] mixed (by kernel_rfl) (((hS.pull 1).pull 2).pull 2) ?_ ?_
      · refine ⟨?_, ?_, ?_, ?_, ?_, ?_, ?_, ?_, ?_, ?_, ?_, ?_, ?_, ?_, ?_, ?_, ?_, trivial⟩
        · intro Ep6u3 w l' hE6u3 hO6u3 hF_ hS
          refine p (yl_move ((hO6u3 5 rfl).trans ec25u4_5)) <| x_done <|
            ?_
          refine x_fin ⟨⟨_, rfl⟩, rfl, ?_⟩
          exact Eq.mp (by kernel_rfl) hS
        · intro Ep6u3 w l' hE6u3 hO6u3 hF_ hS
          replace hS : St w0 w (cells b2 81 [.int .i64 c0.Rows, .int .i64 c0.Cols, .int .i64 c0.Tracks, .slice A_c0_3 c0.Tiles.length c_c0_3, .slice A_c0_4 c0.In.length c_c0_4, .slice A_c0_5 c0.Out.length c_c0_5] :: l') := Eq.mp (by kernel_rfl) hS
          refine pa (v := .agg #[.int .i64 c0.Rows, .int .i64 c0.Cols, .int .i64 c0.Tracks, .slice A_c0_3 c0.Tiles.length c_c0_3, .slice A_c0_4 c0.In.length c_c0_4, .slice A_c0_5 c0.Out.length c_c0_5]) (ld_sub agg_81 ((hE6u3 2 rfl).trans ec25u4_2) rfl rfl hS) <| x_done <|
            ?_
          refine x_fin ⟨⟨_, rfl⟩, rfl, ?_⟩
          exact Eq.mp (by kernel_rfl) hS
        · intro Ep6u3 w l' hE6u3 hO6u3 hF_ hS
          refine p (yl_move ((hE6u3 1 rfl).trans ec25u4_1)) <| x_done <|
            ?_
          refine x_fin ⟨⟨_, rfl⟩, rfl, ?_⟩
          exact Eq.mp (by kernel_rfl) hS
        · intro Ep6u3 w l' hE6u3 hO6u3 hF_ hS
          refine p (yl_move (hE6u3 7 rfl)) <| x_done <|
            ?_
          refine x_fin ⟨⟨_, rfl⟩, rfl, ?_⟩
          exact Eq.mp (by kernel_rfl) hS
        · intro Ep6u3 w l' hE6u3 hO6u3 hF_ hS
          obtain ⟨f6u3_3, -⟩ := hF_
          replace f6u3_3 : Ep6u3 29 = .int .i64 y2_5.In.fe1 := Eq.mp (by kernel_rfl) f6u3_3
          refine p (ysub f6u3_3 rfl hx30u3) <| x_done <|
            ?_
          refine x_fin ⟨⟨_, rfl⟩, rfl, ?_⟩
          exact Eq.mp (by kernel_rfl) hS
        · intro Ep6u3 w l' hE6u3 hO6u3 hF_ hS
          refine p (yl_field0 fld_81_2 ((hE6u3 2 rfl).trans ec25u4_2)) <| x_done <|
            ?_
          refine x_fin ⟨⟨_, rfl⟩, rfl, ?_⟩
          exact Eq.mp (by kernel_rfl) hS
        · intro Ep6u3 w l' hE6u3 hO6u3 hF_ hS
          obtain ⟨f6u3_5, -⟩ := hF_
          replace f6u3_5 : Ep6u3 31 = .pointer (some ⟨b2, 2, none⟩) := Eq.mp (by kernel_rfl) f6u3_5
          replace hS : St w0 w (cells b2 81 [.int .i64 c0.Rows, .int .i64 c0.Cols, .int .i64 c0.Tracks, .slice A_c0_3 c0.Tiles.length c_c0_3, .slice A_c0_4 c0.In.length c_c0_4, .slice A_c0_5 c0.Out.length c_c0_5] :: l') := Eq.mp (by kernel_rfl) hS
          refine pa (at_load one_3 f6u3_5 (hS.cell rfl)) <| x_done <|
            ?_
          refine x_fin ⟨⟨_, rfl⟩, rfl, ?_⟩
          exact Eq.mp (by kernel_rfl) hS
        · intro Ep6u3 w l' hE6u3 hO6u3 hF_ hS
          obtain ⟨f6u3_4, f6u3_6, -⟩ := hF_
          replace f6u3_4 : Ep6u3 30 = .int .i64 x30u3 := Eq.mp (by kernel_rfl) f6u3_4
          replace f6u3_6 : Ep6u3 32 = .int .i64 c0.Tracks := Eq.mp (by kernel_rfl) f6u3_6
          refine p (yquo f6u3_4 f6u3_6 hk6u3_7 hx33u3) <| x_done <|
            ?_
          refine x_fin ⟨⟨_, rfl⟩, rfl, ?_⟩
          exact Eq.mp (by kernel_rfl) hS
        · intro Ep6u3 w l' hE6u3 hO6u3 hF_ hS
          refine p (yl_move (hE6u3 7 rfl)) <| x_done <|
            ?_
          refine x_fin ⟨⟨_, rfl⟩, rfl, ?_⟩
          exact Eq.mp (by kernel_rfl) hS
        · intro Ep6u3 w l' hE6u3 hO6u3 hF_ hS
          obtain ⟨f6u3_8, -⟩ := hF_
          replace f6u3_8 : Ep6u3 34 = .int .i64 y2_5.In.fe1 := Eq.mp (by kernel_rfl) f6u3_8
          refine p (ysub f6u3_8 rfl hx35u3) <| x_done <|
            ?_
          refine x_fin ⟨⟨_, rfl⟩, rfl, ?_⟩
          exact Eq.mp (by kernel_rfl) hS
        · intro Ep6u3 w l' hE6u3 hO6u3 hF_ hS
          refine p (yl_field0 fld_81_2 ((hE6u3 2 rfl).trans ec25u4_2)) <| x_done <|
            ?_
          refine x_fin ⟨⟨_, rfl⟩, rfl, ?_⟩
          exact Eq.mp (by kernel_rfl) hS
        · intro Ep6u3 w l' hE6u3 hO6u3 hF_ hS
          obtain ⟨f6u3_10, -⟩ := hF_
          replace f6u3_10 : Ep6u3 36 = .pointer (some ⟨b2, 2, none⟩) := Eq.mp (by kernel_rfl) f6u3_10
          replace hS : St w0 w (cells b2 81 [.int .i64 c0.Rows, .int .i64 c0.Cols, .int .i64 c0.Tracks, .slice A_c0_3 c0.Tiles.length c_c0_3, .slice A_c0_4 c0.In.length c_c0_4, .slice A_c0_5 c0.Out.length c_c0_5] :: l') := Eq.mp (by kernel_rfl) hS
          refine pa (at_load one_3 f6u3_10 (hS.cell rfl)) <| x_done <|
            ?_
          refine x_fin ⟨⟨_, rfl⟩, rfl, ?_⟩
          exact Eq.mp (by kernel_rfl) hS
        · intro Ep6u3 w l' hE6u3 hO6u3 hF_ hS
          obtain ⟨f6u3_9, f6u3_11, -⟩ := hF_
          replace f6u3_9 : Ep6u3 35 = .int .i64 x35u3 := Eq.mp (by kernel_rfl) f6u3_9
          replace f6u3_11 : Ep6u3 37 = .int .i64 c0.Tracks := Eq.mp (by kernel_rfl) f6u3_11
          refine p (yrem f6u3_9 f6u3_11 hk6u3_12 hx38u3) <| x_done <|
            ?_
          refine x_fin ⟨⟨_, rfl⟩, rfl, ?_⟩
          exact Eq.mp (by kernel_rfl) hS
        · intro Ep6u3 w l' hE6u3 hO6u3 hF_ hS
          obtain ⟨f6u3_1, f6u3_2, f6u3_7, f6u3_12, -⟩ := hF_
          replace f6u3_1 : Ep6u3 27 = .agg #[.int .i64 c0.Rows, .int .i64 c0.Cols, .int .i64 c0.Tracks, .slice A_c0_3 c0.Tiles.length c_c0_3, .slice A_c0_4 c0.In.length c_c0_4, .slice A_c0_5 c0.Out.length c_c0_5] := Eq.mp (by kernel_rfl) f6u3_1
          replace f6u3_2 : Ep6u3 28 = .int .i64 tile1 := Eq.mp (by kernel_rfl) f6u3_2
          replace f6u3_7 : Ep6u3 33 = .int .i64 x33u3 := Eq.mp (by kernel_rfl) f6u3_7
          replace f6u3_12 : Ep6u3 38 = .int .i64 x38u3 := Eq.mp (by kernel_rfl) f6u3_12
          replace hS : St w0 w (ro ρ :: l') := Eq.mp (by kernel_rfl) hS
          have hcall := c_array_Config_into hc6u3_13 h_c0_3 h_c0_4 h_c0_5 hS
          refine o_cc call_157 (args4 f6u3_1 f6u3_2 f6u3_7 f6u3_12) (hcall) ?_
          rintro e w' ⟨rfl, hS⟩
          refine ⟨_, rfl, ?_⟩
          refine x_done <|
            ?_
          refine x_fin ⟨⟨_, rfl⟩, rfl, ?_⟩
          exact Eq.mp (by kernel_rfl) hS
        · intro Ep6u3 w l' hE6u3 hO6u3 hF_ hS
          obtain ⟨f6u3_13, -⟩ := hF_
          replace f6u3_13 : Ep6u3 39 = .int .i64 r6u3_13 := Eq.mp (by kernel_rfl) f6u3_13
          refine o_buildSlice (vs := [.int .i64 r6u3_13]) (cs := [.int .i64 r6u3_13]) sl_22 zero_3 (parts_eq (pt (va := .int .i64 r6u3_13) f6u3_13 pt0)) rfl (by intro v hv; simp only [List.mem_cons, List.not_mem_nil, or_false] at hv; first | (subst hv; rfl) | (rcases hv with rfl <;> rfl)) (by decide) rfl hS (fun b40u3 w' hS => ?_)
          refine x_done <|
            ?_
          refine x_fin ⟨⟨_, rfl⟩, rfl, ?_⟩
          exact Eq.mp (by kernel_rfl) hS
        · intro Ep6u3 w l' hE6u3 hO6u3 hF_ hS
          obtain ⟨f6u3_0, f6u3_14, -⟩ := hF_
          replace f6u3_0 : Ep6u3 26 = .slice A_out5_c25u4 out5_c25u4.length c_out5_c25u4 := Eq.mp (by kernel_rfl) f6u3_0
          replace f6u3_14 : Ep6u3 40 = .slice (some ⟨(blkOf (Ep6u3 40)), 0, none⟩) 1 1 := Eq.mp (by kernel_rfl) f6u3_14
          replace hS : St w0 w (cells (blkOf (Ep6u3 40)) 3 [.int .i64 r6u3_13] :: ro ρ :: vec 3 (RpI .i64).sz (.slice A_out5_c25u4 out5_c25u4.length c_out5_c25u4) out5_c25u4.length cs_out5_c25u4 :: l') := Eq.mp (by kernel_rfl) hS
          refine o_ap sl_22 zero_3 rfl (by decide) f6u3_0 f6u3_14 (hS.pull 2) h_out5_c25u4 (src_blk usl_22 hS rfl rfl) (RepL.cons (R := (RpI .i64)) (ρ := ρ) (x := r6u3_13) (cs := [.int .i64 r6u3_13]) rfl RepL.nil) hz6u3_15 hk6u3_15 (fun A41u3 c41u3 cs41u3 w' hr41u3 hS => ?_)
          refine x_done <|
            ?_
          refine x_fin ⟨⟨_, rfl⟩, rfl, ?_⟩
          replace hS := St.bun (Φ := (fun (cs41u3 : List Value) => RepL (RpI .i64) ρ z6u3_15 cs41u3)) (L := (fun (cs41u3 : List Value) => [vec 3 (RpI .i64).sz (.slice A41u3 z6u3_15.length c41u3) z6u3_15.length cs41u3])) cs41u3 hr41u3 hS
          exact Eq.mp (by kernel_rfl) ((hS.pull 2).pull 2)
        · intro Ep6u3 w l' hE6u3 hO6u3 hF_ hS
          obtain ⟨f6u3_15, -⟩ := hF_
          replace f6u3_15 : Ep6u3 41 = .slice (adOf (Ep6u3 41)) z6u3_15.length (capOf (Ep6u3 41)) := Eq.mp (by kernel_rfl) f6u3_15
          refine p (yl_assign f6u3_15) <| x_done <|
            ?_
          refine x_fin ⟨⟨_, rfl⟩, rfl, ?_⟩
          exact Eq.mp (by kernel_rfl) hS
      intro Ep6u3 w' hE6u3 hF_ hS
      obtain ⟨f6u3_0, f6u3_1, f6u3_2, f6u3_3, f6u3_4, f6u3_5, f6u3_6, f6u3_7, f6u3_8, f6u3_9, f6u3_10, f6u3_11, f6u3_12, f6u3_13, f6u3_14, f6u3_15, f6u3_16, -⟩ := hF_
      replace f6u3_0 : Ep6u3 26 = .slice A_out5_c25u4 out5_c25u4.length c_out5_c25u4 := Eq.mp (by kernel_rfl) f6u3_0
      replace f6u3_1 : Ep6u3 27 = .agg #[.int .i64 c0.Rows, .int .i64 c0.Cols, .int .i64 c0.Tracks, .slice A_c0_3 c0.Tiles.length c_c0_3, .slice A_c0_4 c0.In.length c_c0_4, .slice A_c0_5 c0.Out.length c_c0_5] := Eq.mp (by kernel_rfl) f6u3_1
      replace f6u3_2 : Ep6u3 28 = .int .i64 tile1 := Eq.mp (by kernel_rfl) f6u3_2
      replace f6u3_3 : Ep6u3 29 = .int .i64 y2_5.In.fe1 := Eq.mp (by kernel_rfl) f6u3_3
      replace f6u3_4 : Ep6u3 30 = .int .i64 x30u3 := Eq.mp (by kernel_rfl) f6u3_4
      replace f6u3_5 : Ep6u3 31 = .pointer (some ⟨b2, 2, none⟩) := Eq.mp (by kernel_rfl) f6u3_5
      replace f6u3_6 : Ep6u3 32 = .int .i64 c0.Tracks := Eq.mp (by kernel_rfl) f6u3_6
      replace f6u3_7 : Ep6u3 33 = .int .i64 x33u3 := Eq.mp (by kernel_rfl) f6u3_7
      replace f6u3_8 : Ep6u3 34 = .int .i64 y2_5.In.fe1 := Eq.mp (by kernel_rfl) f6u3_8
      replace f6u3_9 : Ep6u3 35 = .int .i64 x35u3 := Eq.mp (by kernel_rfl) f6u3_9
      replace f6u3_10 : Ep6u3 36 = .pointer (some ⟨b2, 2, none⟩) := Eq.mp (by kernel_rfl) f6u3_10
      replace f6u3_11 : Ep6u3 37 = .int .i64 c0.Tracks := Eq.mp (by kernel_rfl) f6u3_11
      replace f6u3_12 : Ep6u3 38 = .int .i64 x38u3 := Eq.mp (by kernel_rfl) f6u3_12
      replace f6u3_13 : Ep6u3 39 = .int .i64 r6u3_13 := Eq.mp (by kernel_rfl) f6u3_13
      replace f6u3_14 : Ep6u3 40 = .slice (some ⟨(blkOf (Ep6u3 40)), 0, none⟩) 1 1 := Eq.mp (by kernel_rfl) f6u3_14
      replace f6u3_15 : Ep6u3 41 = .slice (adOf (Ep6u3 41)) z6u3_15.length (capOf (Ep6u3 41)) := Eq.mp (by kernel_rfl) f6u3_15
      replace f6u3_16 : Ep6u3 5 = .slice (adOf (Ep6u3 41)) z6u3_15.length (capOf (Ep6u3 41)) := Eq.mp (by kernel_rfl) f6u3_16
      replace hS : St w0 w' (cells b2 81 [.int .i64 c0.Rows, .int .i64 c0.Cols, .int .i64 c0.Tracks, .slice A_c0_3 c0.Tiles.length c_c0_3, .slice A_c0_4 c0.In.length c_c0_4, .slice A_c0_5 c0.Out.length c_c0_5] :: ro ρ :: cells (blkOf (Ep6u3 40)) 3 [.int .i64 r6u3_13] :: bunA (fun (cs41u3 : List Value) => RepL (RpI .i64) ρ z6u3_15 cs41u3) (fun (cs41u3 : List Value) => [vec 3 (RpI .i64).sz (.slice (adOf (Ep6u3 41)) z6u3_15.length (capOf (Ep6u3 41))) z6u3_15.length cs41u3]) :: (l)) := Eq.mp (by kernel_rfl) hS
      have q_ := St.unbun (hS.pull 3); obtain ⟨cs41u3, hr41u3, hS⟩ := q_
      exact x_inv ⟨(adOf (Ep6u3 41)), z6u3_15.length, (capOf (Ep6u3 41)), cs41u3, z6u3_15, (Option.some.inj (show some _ = some _ from hFc25u3)), ((hE6u3 1 rfl).trans ec25u4_1), ((hE6u3 2 rfl).trans ec25u4_2), f6u3_16, ((hE6u3 13 rfl).trans ec25u4_13), (hE6u3 14 rfl), hr41u3, ((((hS.pull 3).drop.pull 2).pull 1).pull 2)⟩
    · replace hFc25u3 := it_bf hc25u3 hFc25u3
      refine x_skip <|
        ?_
      exact x_inv ⟨A_out5_c25u4, out5_c25u4.length, c_out5_c25u4, cs_out5_c25u4, out5_c25u4, (Option.some.inj (show some _ = some _ from hFc25u3)), ec25u4_1, ec25u4_2, ec25u4_5, ec25u4_13, rfl, h_out5_c25u4, (((hS.pull 2).pull 2).pull 2)⟩
  rintro E w ⟨A_out5_c25u3, n_out5_c25u3, c_out5_c25u3, cs_out5_c25u3, out5_c25u3, rfl, ec25u3_1, ec25u3_2, ec25u3_5, ec25u3_13, ec25u3_14, h_out5_c25u3, hS⟩
  have e_ := St.vec_n (hS.pull 1) h_out5_c25u3; subst e_
  replace hF := ck_s hF; obtain ⟨hk5_6u2, hF⟩ := hF
  replace hF := lv_s hF; obtain ⟨x23u2, hx23u2, hF⟩ := hF
  replace hF := lv_s hF; obtain ⟨x25u2, hx25u2, hF⟩ := hF
  refine x_blk <| x_region <| p (yadd (c := 2) ec25u3_14 rfl ⟨rfl, by decide⟩) <| p (yl_move rfl) <|
    x_done <| x_un 2 <| x_seq <| x_region <|
    p (ylss_l (t := true) rfl rfl (by decide)) <| x_done <| x_seq <| x_cond_t (show ev _ _ = .bool true from rfl) <|
    x_skip <| x_seq <| x_block <| x_seq <|
    x_region <| p (yl_ixv (x := .tmp 13) (y := .tmp 14) (v := .int .i64 y2_5.In.fe2) arr_180 one_3 ec25u3_13 rfl (by decide) rfl) <| p (yl_assign rfl) <| x_done <|
    x_seq <| x_region <| p (yl_move rfl) <| p (yl_gtr rfl rfl) <|
    p (yl_move rfl) <| pg (v := .int .i64 y2_5.In.fe2) 19 (c := decide (0 < y2_5.In.fe2)) (says_t _) (fun hq => Yl.at (yl_move rfl)) <| pg (v := .pointer (some ⟨b2, 2, none⟩)) 19 (c := decide (0 < y2_5.In.fe2)) (says_t _) (fun hq => Yl.at (yl_field0 fld_81_2 ec25u3_2)) <| pg (v := .int .i64 c0.Tracks) 19 (c := decide (0 < y2_5.In.fe2)) (says_t _) (fun hq => at_load one_3 (cv hq) (hS.cell rfl)) <|
    pg (v := .int .i64 x23u2) 19 (c := decide (0 < y2_5.In.fe2)) (says_t _) (fun hq => Yl.at (ymul rfl (cv hq) ⟨hx23u2, (hk5_6u2 hq)⟩)) <| pg (v := .bool (decide (y2_5.In.fe2 ≤ x23u2))) 19 (c := decide (0 < y2_5.In.fe2)) (says_t _) (fun hq => Yl.at (yl_leq (cv hq) (cv hq))) <| p (yand' rfl (fun hc => (cv hc)) rfl hx25u2) <| x_done <|
    ?_
  replace hF := bd_s hF; obtain ⟨oc25u2, hFc25u2, hF⟩ := hF
  refine x_join (fun E w => ∃ (A_out5_c25u2 : Option Addr) (n_out5_c25u2 : Nat) (c_out5_c25u2 : Nat) (cs_out5_c25u2 : List Value) (out5_c25u2 : List Int), out5_c25u2 = oc25u2 ∧ E 1 = .int .i64 tile1 ∧ E 2 = .pointer (some ⟨b2, 0, none⟩) ∧ E 5 = .slice A_out5_c25u2 n_out5_c25u2 c_out5_c25u2 ∧ E 13 = .agg #[.int .i64 y2_5.In.fe0, .int .i64 y2_5.In.fe1, .int .i64 y2_5.In.fe2, .int .i64 y2_5.In.fe3] ∧ E 14 = .int .i64 2 ∧ RepL (RpI .i64) ρ out5_c25u2 cs_out5_c25u2 ∧ St w0 w (cells b2 81 [.int .i64 c0.Rows, .int .i64 c0.Cols, .int .i64 c0.Tracks, .slice A_c0_3 c0.Tiles.length c_c0_3, .slice A_c0_4 c0.In.length c_c0_4, .slice A_c0_5 c0.Out.length c_c0_5] :: vec 3 (RpI .i64).sz (.slice A_out5_c25u2 n_out5_c25u2 c_out5_c25u2) n_out5_c25u2 cs_out5_c25u2 :: ro ρ :: l)) ?_ ?_
  · skip -- c25u2
    refine x_cond (t := x25u2) rfl (fun hc25u2 => ?_) (fun hc25u2 => ?_)
    · replace hFc25u2 := it_t hc25u2 hFc25u2
      replace hFc25u2 := ar_s hFc25u2; obtain ⟨x30u2, hx30u2, hFc25u2⟩ := hFc25u2
      replace hFc25u2 := ck_s hFc25u2; obtain ⟨hk6u2_7, hFc25u2⟩ := hFc25u2
      replace hFc25u2 := ar_s hFc25u2; obtain ⟨x33u2, hx33u2, hFc25u2⟩ := hFc25u2
      replace hFc25u2 := ar_s hFc25u2; obtain ⟨x35u2, hx35u2, hFc25u2⟩ := hFc25u2
      replace hFc25u2 := ck_s hFc25u2; obtain ⟨hk6u2_12, hFc25u2⟩ := hFc25u2
      replace hFc25u2 := lv_s hFc25u2; obtain ⟨x38u2, hx38u2, hFc25u2⟩ := hFc25u2
      replace hFc25u2 := bd_s hFc25u2; obtain ⟨r6u2_13, hc6u2_13, hFc25u2⟩ := hFc25u2
      replace hFc25u2 := lv_s hFc25u2; obtain ⟨z6u2_15, hz6u2_15, hFc25u2⟩ := hFc25u2
      replace hFc25u2 := ck_s hFc25u2; obtain ⟨hk6u2_15, hFc25u2⟩ := hFc25u2
      refine x_par (w0 := w0) [⟨[], [], [26], [], [], []⟩, ⟨[], [], [27], [0], [], []⟩, ⟨[], [], [28], [], [], []⟩, ⟨[], [], [29], [], [], []⟩, ⟨[3], [3], [30], [], [], []⟩, ⟨[], [], [31], [], [], []⟩, ⟨[5], [5], [32], [0], [], []⟩, ⟨[3, 4, 5, 6], [4, 6], [33], [], [], []⟩, ⟨[], [], [34], [], [], []⟩, ⟨[8], [8], [35], [], [], []⟩, ⟨[], [], [36], [], [], []⟩, ⟨[10], [10], [37], [0], [], []⟩, ⟨[8, 9, 10, 11], [9, 11], [38], [], [], []⟩, ⟨[1, 2, 3, 4, 5, 6, 7, 8, 9, 10, 11, 12], [1, 2, 7, 12], [39], [1], [], []⟩, ⟨[1, 2, 3, 4, 5, 6, 7, 8, 9, 10, 11, 12, 13], [13], [40], [], [], [2]⟩, ⟨[0, 1, 2, 3, 4, 5, 6, 7, 8, 9, 10, 11, 12, 13, 14], [0, 14], [41], [2, 1], [3], [4]⟩, ⟨[0, 1, 2, 3, 4, 5, 6, 7, 8, 9, 10, 11, 12, 13, 14, 15], [15], [5, 41], [], [], []⟩] [⟨none, none, []⟩, ⟨none, none, []⟩, ⟨(some 14), none, [40]⟩, ⟨none, (some 15), []⟩, ⟨(some 15), none, [41]⟩] [5, 26, 27, 28, 29, 30, 31, 32, 33, 34, 35, 36, 37, 38, 39, 40, 41] [0, 1, 3] [0, 1, 2, 4] [0, 1, 2, 3, 4, 5, 6, 7, 8, 9, 10, 11, 12, 13, 14, 15, 16] [fun Ep6u2 => Ep6u2 26 = .slice A_out5_c25u3 out5_c25u3.length c_out5_c25u3, fun Ep6u2 => Ep6u2 27 = .agg #[.int .i64 c0.Rows, .int .i64 c0.Cols, .int .i64 c0.Tracks, .slice A_c0_3 c0.Tiles.length c_c0_3, .slice A_c0_4 c0.In.length c_c0_4, .slice A_c0_5 c0.Out.length c_c0_5], fun Ep6u2 => Ep6u2 28 = .int .i64 tile1, fun Ep6u2 => Ep6u2 29 = .int .i64 y2_5.In.fe2, fun Ep6u2 => Ep6u2 30 = .int .i64 x30u2, fun Ep6u2 => Ep6u2 31 = .pointer (some ⟨b2, 2, none⟩), fun Ep6u2 => Ep6u2 32 = .int .i64 c0.Tracks, fun Ep6u2 => Ep6u2 33 = .int .i64 x33u2, fun Ep6u2 => Ep6u2 34 = .int .i64 y2_5.In.fe2, fun Ep6u2 => Ep6u2 35 = .int .i64 x35u2, fun Ep6u2 => Ep6u2 36 = .pointer (some ⟨b2, 2, none⟩), fun Ep6u2 => Ep6u2 37 = .int .i64 c0.Tracks, fun Ep6u2 => Ep6u2 38 = .int .i64 x38u2, fun Ep6u2 => Ep6u2 39 = .int .i64 r6u2_13, fun Ep6u2 => Ep6u2 40 = .slice (some ⟨(blkOf (Ep6u2 40)), 0, none⟩) 1 1, fun Ep6u2 => Ep6u2 41 = .slice (adOf (Ep6u2 41)) z6u2_15.length (capOf (Ep6u2 41)), fun Ep6u2 => Ep6u2 5 = .slice (adOf (Ep6u2 41)) z6u2_15.length (capOf (Ep6u2 41))] [fun Ep6u2 => cells b2 81 [.int .i64 c0.Rows, .int .i64 c0.Cols, .int .i64 c0.Tracks, .slice A_c0_3 c0.Tiles.length c_c0_3, .slice A_c0_4 c0.In.length c_c0_4, .slice A_c0_5 c0.Out.length c_c0_5], fun Ep6u2 => ro ρ, fun Ep6u2 => cells (blkOf (Ep6u2 40)) 3 [.int .i64 r6u2_13], fun Ep6u2 => vec 3 (RpI .i64).sz (.slice A_out5_c25u3 out5_c25u3.length c_out5_c25u3) out5_c25u3.length cs_out5_c25u3, fun Ep6u2 => bunA (fun (cs41u2 : List Value) => RepL (RpI .i64) ρ z6u2_15 cs41u2) (fun (cs41u2 : List Value) => [vec 3 (RpI .i64).sz (.slice (adOf (Ep6u2 41)) z6u2_15.length (capOf (Ep6u2 41))) z6u2_15.length cs41u2])] mixed (by kernel_rfl) (((hS.pull 1).pull 2).pull 2) ?_ ?_
      · refine ⟨?_, ?_, ?_, ?_, ?_, ?_, ?_, ?_, ?_, ?_, ?_, ?_, ?_, ?_, ?_, ?_, ?_, trivial⟩
        · intro Ep6u2 w l' hE6u2 hO6u2 hF_ hS
          refine p (yl_move ((hO6u2 5 rfl).trans ec25u3_5)) <| x_done <|
            ?_
          refine x_fin ⟨⟨_, rfl⟩, rfl, ?_⟩
          exact Eq.mp (by kernel_rfl) hS
        · intro Ep6u2 w l' hE6u2 hO6u2 hF_ hS
          replace hS : St w0 w (cells b2 81 [.int .i64 c0.Rows, .int .i64 c0.Cols, .int .i64 c0.Tracks, .slice A_c0_3 c0.Tiles.length c_c0_3, .slice A_c0_4 c0.In.length c_c0_4, .slice A_c0_5 c0.Out.length c_c0_5] :: l') := Eq.mp (by kernel_rfl) hS
          refine pa (v := .agg #[.int .i64 c0.Rows, .int .i64 c0.Cols, .int .i64 c0.Tracks, .slice A_c0_3 c0.Tiles.length c_c0_3, .slice A_c0_4 c0.In.length c_c0_4, .slice A_c0_5 c0.Out.length c_c0_5]) (ld_sub agg_81 ((hE6u2 2 rfl).trans ec25u3_2) rfl rfl hS) <| x_done <|
            ?_
          refine x_fin ⟨⟨_, rfl⟩, rfl, ?_⟩
          exact Eq.mp (by kernel_rfl) hS
        · intro Ep6u2 w l' hE6u2 hO6u2 hF_ hS
          refine p (yl_move ((hE6u2 1 rfl).trans ec25u3_1)) <| x_done <|
            ?_
          refine x_fin ⟨⟨_, rfl⟩, rfl, ?_⟩
          exact Eq.mp (by kernel_rfl) hS
        · intro Ep6u2 w l' hE6u2 hO6u2 hF_ hS
          refine p (yl_move (hE6u2 7 rfl)) <| x_done <|
            ?_
          refine x_fin ⟨⟨_, rfl⟩, rfl, ?_⟩
          exact Eq.mp (by kernel_rfl) hS
        · intro Ep6u2 w l' hE6u2 hO6u2 hF_ hS
          obtain ⟨f6u2_3, -⟩ := hF_
          replace f6u2_3 : Ep6u2 29 = .int .i64 y2_5.In.fe2 := Eq.mp (by kernel_rfl) f6u2_3
          refine p (ysub f6u2_3 rfl hx30u2) <| x_done <|
            ?_
          refine x_fin ⟨⟨_, rfl⟩, rfl, ?_⟩
          exact Eq.mp (by kernel_rfl) hS
        · intro Ep6u2 w l' hE6u2 hO6u2 hF_ hS
          refine p (yl_field0 fld_81_2 ((hE6u2 2 rfl).trans ec25u3_2)) <| x_done <|
            ?_
          refine x_fin ⟨⟨_, rfl⟩, rfl, ?_⟩
          exact Eq.mp (by kernel_rfl) hS
        · intro Ep6u2 w l' hE6u2 hO6u2 hF_ hS
          obtain ⟨f6u2_5, -⟩ := hF_
          replace f6u2_5 : Ep6u2 31 = .pointer (some ⟨b2, 2, none⟩) := Eq.mp (by kernel_rfl) f6u2_5
          replace hS : St w0 w (cells b2 81 [.int .i64 c0.Rows, .int .i64 c0.Cols, .int .i64 c0.Tracks, .slice A_c0_3 c0.Tiles.length c_c0_3, .slice A_c0_4 c0.In.length c_c0_4, .slice A_c0_5 c0.Out.length c_c0_5] :: l') := Eq.mp (by kernel_rfl) hS
          refine pa (at_load one_3 f6u2_5 (hS.cell rfl)) <| x_done <|
            ?_
          refine x_fin ⟨⟨_, rfl⟩, rfl, ?_⟩
          exact Eq.mp (by kernel_rfl) hS
        · intro Ep6u2 w l' hE6u2 hO6u2 hF_ hS
          obtain ⟨f6u2_4, f6u2_6, -⟩ := hF_
          replace f6u2_4 : Ep6u2 30 = .int .i64 x30u2 := Eq.mp (by kernel_rfl) f6u2_4
          replace f6u2_6 : Ep6u2 32 = .int .i64 c0.Tracks := Eq.mp (by kernel_rfl) f6u2_6
          refine p (yquo f6u2_4 f6u2_6 hk6u2_7 hx33u2) <| x_done <|
            ?_
          refine x_fin ⟨⟨_, rfl⟩, rfl, ?_⟩
          exact Eq.mp (by kernel_rfl) hS
        · intro Ep6u2 w l' hE6u2 hO6u2 hF_ hS
          refine p (yl_move (hE6u2 7 rfl)) <| x_done <|
            ?_
          refine x_fin ⟨⟨_, rfl⟩, rfl, ?_⟩
          exact Eq.mp (by kernel_rfl) hS
        · intro Ep6u2 w l' hE6u2 hO6u2 hF_ hS
          obtain ⟨f6u2_8, -⟩ := hF_
          replace f6u2_8 : Ep6u2 34 = .int .i64 y2_5.In.fe2 := Eq.mp (by kernel_rfl) f6u2_8
          refine p (ysub f6u2_8 rfl hx35u2) <| x_done <|
            ?_
          refine x_fin ⟨⟨_, rfl⟩, rfl, ?_⟩
          exact Eq.mp (by kernel_rfl) hS
        · intro Ep6u2 w l' hE6u2 hO6u2 hF_ hS
          refine p (yl_field0 fld_81_2 ((hE6u2 2 rfl).trans ec25u3_2)) <| x_done <|
            ?_
          refine x_fin ⟨⟨_, rfl⟩, rfl, ?_⟩
          exact Eq.mp (by kernel_rfl) hS
        · intro Ep6u2 w l' hE6u2 hO6u2 hF_ hS
          obtain ⟨f6u2_10, -⟩ := hF_
          replace f6u2_10 : Ep6u2 36 = .pointer (some ⟨b2, 2, none⟩) := Eq.mp (by kernel_rfl) f6u2_10
          replace hS : St w0 w (cells b2 81 [.int .i64 c0.Rows, .int .i64 c0.Cols, .int .i64 c0.Tracks, .slice A_c0_3 c0.Tiles.length c_c0_3, .slice A_c0_4 c0.In.length c_c0_4, .slice A_c0_5 c0.Out.length c_c0_5] :: l') := Eq.mp (by kernel_rfl) hS
          refine pa (at_load one_3 f6u2_10 (hS.cell rfl)) <| x_done <|
            ?_
          refine x_fin ⟨⟨_, rfl⟩, rfl, ?_⟩
          exact Eq.mp (by kernel_rfl) hS
        · intro Ep6u2 w l' hE6u2 hO6u2 hF_ hS
          obtain ⟨f6u2_9, f6u2_11, -⟩ := hF_
          replace f6u2_9 : Ep6u2 35 = .int .i64 x35u2 := Eq.mp (by kernel_rfl) f6u2_9
          replace f6u2_11 : Ep6u2 37 = .int .i64 c0.Tracks := Eq.mp (by kernel_rfl) f6u2_11
          refine p (yrem f6u2_9 f6u2_11 hk6u2_12 hx38u2) <| x_done <|
            ?_
          refine x_fin ⟨⟨_, rfl⟩, rfl, ?_⟩
          exact Eq.mp (by kernel_rfl) hS
        · intro Ep6u2 w l' hE6u2 hO6u2 hF_ hS
          obtain ⟨f6u2_1, f6u2_2, f6u2_7, f6u2_12, -⟩ := hF_
          replace f6u2_1 : Ep6u2 27 = .agg #[.int .i64 c0.Rows, .int .i64 c0.Cols, .int .i64 c0.Tracks, .slice A_c0_3 c0.Tiles.length c_c0_3, .slice A_c0_4 c0.In.length c_c0_4, .slice A_c0_5 c0.Out.length c_c0_5] := Eq.mp (by kernel_rfl) f6u2_1
          replace f6u2_2 : Ep6u2 28 = .int .i64 tile1 := Eq.mp (by kernel_rfl) f6u2_2
          replace f6u2_7 : Ep6u2 33 = .int .i64 x33u2 := Eq.mp (by kernel_rfl) f6u2_7
          replace f6u2_12 : Ep6u2 38 = .int .i64 x38u2 := Eq.mp (by kernel_rfl) f6u2_12
          replace hS : St w0 w (ro ρ :: l') := Eq.mp (by kernel_rfl) hS
          have hcall := c_array_Config_into hc6u2_13 h_c0_3 h_c0_4 h_c0_5 hS
          refine o_cc call_157 (args4 f6u2_1 f6u2_2 f6u2_7 f6u2_12) (hcall) ?_
          rintro e w' ⟨rfl, hS⟩
          refine ⟨_, rfl, ?_⟩
          refine x_done <|
            ?_
          refine x_fin ⟨⟨_, rfl⟩, rfl, ?_⟩
          exact Eq.mp (by kernel_rfl) hS
        · intro Ep6u2 w l' hE6u2 hO6u2 hF_ hS
          obtain ⟨f6u2_13, -⟩ := hF_
          replace f6u2_13 : Ep6u2 39 = .int .i64 r6u2_13 := Eq.mp (by kernel_rfl) f6u2_13
          refine o_buildSlice (vs := [.int .i64 r6u2_13]) (cs := [.int .i64 r6u2_13]) sl_22 zero_3 (parts_eq (pt (va := .int .i64 r6u2_13) f6u2_13 pt0)) rfl (by intro v hv; simp only [List.mem_cons, List.not_mem_nil, or_false] at hv; first | (subst hv; rfl) | (rcases hv with rfl <;> rfl)) (by decide) rfl hS (fun b40u2 w' hS => ?_)
          refine x_done <|
            ?_
          refine x_fin ⟨⟨_, rfl⟩, rfl, ?_⟩
          exact Eq.mp (by kernel_rfl) hS
        · intro Ep6u2 w l' hE6u2 hO6u2 hF_ hS
          obtain ⟨f6u2_0, f6u2_14, -⟩ := hF_
          replace f6u2_0 : Ep6u2 26 = .slice A_out5_c25u3 out5_c25u3.length c_out5_c25u3 := Eq.mp (by kernel_rfl) f6u2_0
          replace f6u2_14 : Ep6u2 40 = .slice (some ⟨(blkOf (Ep6u2 40)), 0, none⟩) 1 1 := Eq.mp (by kernel_rfl) f6u2_14
          replace hS : St w0 w (cells (blkOf (Ep6u2 40)) 3 [.int .i64 r6u2_13] :: ro ρ :: vec 3 (RpI .i64).sz (.slice A_out5_c25u3 out5_c25u3.length c_out5_c25u3) out5_c25u3.length cs_out5_c25u3 :: l') := Eq.mp (by kernel_rfl) hS
          refine o_ap sl_22 zero_3 rfl (by decide) f6u2_0 f6u2_14 (hS.pull 2) h_out5_c25u3 (src_blk usl_22 hS rfl rfl) (RepL.cons (R := (RpI .i64)) (ρ := ρ) (x := r6u2_13) (cs := [.int .i64 r6u2_13]) rfl RepL.nil) hz6u2_15 hk6u2_15 (fun A41u2 c41u2 cs41u2 w' hr41u2 hS => ?_)
          refine x_done <|
            ?_
          refine x_fin ⟨⟨_, rfl⟩, rfl, ?_⟩
          replace hS := St.bun (Φ := (fun (cs41u2 : List Value) => RepL (RpI .i64) ρ z6u2_15 cs41u2)) (L := (fun (cs41u2 : List Value) => [vec 3 (RpI .i64).sz (.slice A41u2 z6u2_15.length c41u2) z6u2_15.length cs41u2])) cs41u2 hr41u2 hS
          exact Eq.mp (by kernel_rfl) ((hS.pull 2).pull 2)
        · intro Ep6u2 w l' hE6u2 hO6u2 hF_ hS
          obtain ⟨f6u2_15, -⟩ := hF_
          replace f6u2_15 : Ep6u2 41 = .slice (adOf (Ep6u2 41)) z6u2_15.length (capOf (Ep6u2 41)) := Eq.mp (by kernel_rfl) f6u2_15
          refine p (yl_assign f6u2_15) <| x_done <|
            ?_
          refine x_fin ⟨⟨_, rfl⟩, rfl, ?_⟩
          exact Eq.mp (by kernel_rfl) hS
      intro Ep6u2 w' hE6u2 hF_ hS
      obtain ⟨f6u2_0, f6u2_1, f6u2_2, f6u2_3, f6u2_4, f6u2_5, f6u2_6, f6u2_7, f6u2_8, f6u2_9, f6u2_10, f6u2_11, f6u2_12, f6u2_13, f6u2_14, f6u2_15, f6u2_16, -⟩ := hF_
      replace f6u2_0 : Ep6u2 26 = .slice A_out5_c25u3 out5_c25u3.length c_out5_c25u3 := Eq.mp (by kernel_rfl) f6u2_0
      replace f6u2_1 : Ep6u2 27 = .agg #[.int .i64 c0.Rows, .int .i64 c0.Cols, .int .i64 c0.Tracks, .slice A_c0_3 c0.Tiles.length c_c0_3, .slice A_c0_4 c0.In.length c_c0_4, .slice A_c0_5 c0.Out.length c_c0_5] := Eq.mp (by kernel_rfl) f6u2_1
      replace f6u2_2 : Ep6u2 28 = .int .i64 tile1 := Eq.mp (by kernel_rfl) f6u2_2
      replace f6u2_3 : Ep6u2 29 = .int .i64 y2_5.In.fe2 := Eq.mp (by kernel_rfl) f6u2_3
      replace f6u2_4 : Ep6u2 30 = .int .i64 x30u2 := Eq.mp (by kernel_rfl) f6u2_4
      replace f6u2_5 : Ep6u2 31 = .pointer (some ⟨b2, 2, none⟩) := Eq.mp (by kernel_rfl) f6u2_5
      replace f6u2_6 : Ep6u2 32 = .int .i64 c0.Tracks := Eq.mp (by kernel_rfl) f6u2_6
      replace f6u2_7 : Ep6u2 33 = .int .i64 x33u2 := Eq.mp (by kernel_rfl) f6u2_7
      replace f6u2_8 : Ep6u2 34 = .int .i64 y2_5.In.fe2 := Eq.mp (by kernel_rfl) f6u2_8
      replace f6u2_9 : Ep6u2 35 = .int .i64 x35u2 := Eq.mp (by kernel_rfl) f6u2_9
      replace f6u2_10 : Ep6u2 36 = .pointer (some ⟨b2, 2, none⟩) := Eq.mp (by kernel_rfl) f6u2_10
      replace f6u2_11 : Ep6u2 37 = .int .i64 c0.Tracks := Eq.mp (by kernel_rfl) f6u2_11
      replace f6u2_12 : Ep6u2 38 = .int .i64 x38u2 := Eq.mp (by kernel_rfl) f6u2_12
      replace f6u2_13 : Ep6u2 39 = .int .i64 r6u2_13 := Eq.mp (by kernel_rfl) f6u2_13
      replace f6u2_14 : Ep6u2 40 = .slice (some ⟨(blkOf (Ep6u2 40)), 0, none⟩) 1 1 := Eq.mp (by kernel_rfl) f6u2_14
      replace f6u2_15 : Ep6u2 41 = .slice (adOf (Ep6u2 41)) z6u2_15.length (capOf (Ep6u2 41)) := Eq.mp (by kernel_rfl) f6u2_15
      replace f6u2_16 : Ep6u2 5 = .slice (adOf (Ep6u2 41)) z6u2_15.length (capOf (Ep6u2 41)) := Eq.mp (by kernel_rfl) f6u2_16
      replace hS : St w0 w' (cells b2 81 [.int .i64 c0.Rows, .int .i64 c0.Cols, .int .i64 c0.Tracks, .slice A_c0_3 c0.Tiles.length c_c0_3, .slice A_c0_4 c0.In.length c_c0_4, .slice A_c0_5 c0.Out.length c_c0_5] :: ro ρ :: cells (blkOf (Ep6u2 40)) 3 [.int .i64 r6u2_13] :: bunA (fun (cs41u2 : List Value) => RepL (RpI .i64) ρ z6u2_15 cs41u2) (fun (cs41u2 : List Value) => [vec 3 (RpI .i64).sz (.slice (adOf (Ep6u2 41)) z6u2_15.length (capOf (Ep6u2 41))) z6u2_15.length cs41u2]) :: (l)) := Eq.mp (by kernel_rfl) hS
      have q_ := St.unbun (hS.pull 3); obtain ⟨cs41u2, hr41u2, hS⟩ := q_
      exact x_inv ⟨(adOf (Ep6u2 41)), z6u2_15.length, (capOf (Ep6u2 41)), cs41u2, z6u2_15, (Option.some.inj (show some _ = some _ from hFc25u2)), ((hE6u2 1 rfl).trans ec25u3_1), ((hE6u2 2 rfl).trans ec25u3_2), f6u2_16, ((hE6u2 13 rfl).trans ec25u3_13), (hE6u2 14 rfl), hr41u2, ((((hS.pull 3).drop.pull 2).pull 1).pull 2)⟩
    · replace hFc25u2 := it_bf hc25u2 hFc25u2
      refine x_skip <|
        ?_
      exact x_inv ⟨A_out5_c25u3, out5_c25u3.length, c_out5_c25u3, cs_out5_c25u3, out5_c25u3, (Option.some.inj (show some _ = some _ from hFc25u2)), ec25u3_1, ec25u3_2, ec25u3_5, ec25u3_13, rfl, h_out5_c25u3, (((hS.pull 2).pull 2).pull 2)⟩
  rintro E w ⟨A_out5_c25u2, n_out5_c25u2, c_out5_c25u2, cs_out5_c25u2, out5_c25u2, rfl, ec25u2_1, ec25u2_2, ec25u2_5, ec25u2_13, ec25u2_14, h_out5_c25u2, hS⟩
  have e_ := St.vec_n (hS.pull 1) h_out5_c25u2; subst e_
  replace hF := ck_s hF; obtain ⟨hk5_6u1, hF⟩ := hF
  replace hF := lv_s hF; obtain ⟨x23u1, hx23u1, hF⟩ := hF
  replace hF := lv_s hF; obtain ⟨x25u1, hx25u1, hF⟩ := hF
  refine x_blk <| x_region <| p (yadd (c := 3) ec25u2_14 rfl ⟨rfl, by decide⟩) <| p (yl_move rfl) <|
    x_done <| x_un 1 <| x_seq <| x_region <|
    p (ylss_l (t := true) rfl rfl (by decide)) <| x_done <| x_seq <| x_cond_t (show ev _ _ = .bool true from rfl) <|
    x_skip <| x_seq <| x_block <| x_seq <|
    x_region <| p (yl_ixv (x := .tmp 13) (y := .tmp 14) (v := .int .i64 y2_5.In.fe3) arr_180 one_3 ec25u2_13 rfl (by decide) rfl) <| p (yl_assign rfl) <| x_done <|
    x_seq <| x_region <| p (yl_move rfl) <| p (yl_gtr rfl rfl) <|
    p (yl_move rfl) <| pg (v := .int .i64 y2_5.In.fe3) 19 (c := decide (0 < y2_5.In.fe3)) (says_t _) (fun hq => Yl.at (yl_move rfl)) <| pg (v := .pointer (some ⟨b2, 2, none⟩)) 19 (c := decide (0 < y2_5.In.fe3)) (says_t _) (fun hq => Yl.at (yl_field0 fld_81_2 ec25u2_2)) <| pg (v := .int .i64 c0.Tracks) 19 (c := decide (0 < y2_5.In.fe3)) (says_t _) (fun hq => at_load one_3 (cv hq) (hS.cell rfl)) <|
    pg (v := .int .i64 x23u1) 19 (c := decide (0 < y2_5.In.fe3)) (says_t _) (fun hq => Yl.at (ymul rfl (cv hq) ⟨hx23u1, (hk5_6u1 hq)⟩)) <| pg (v := .bool (decide (y2_5.In.fe3 ≤ x23u1))) 19 (c := decide (0 < y2_5.In.fe3)) (says_t _) (fun hq => Yl.at (yl_leq (cv hq) (cv hq))) <| p (yand' rfl (fun hc => (cv hc)) rfl hx25u1) <| x_done <|
    ?_
  replace hF := bd_s hF; obtain ⟨oc25u1, hFc25u1, hF⟩ := hF
  refine x_join (fun E w => ∃ (A_out5_c25u1 : Option Addr) (n_out5_c25u1 : Nat) (c_out5_c25u1 : Nat) (cs_out5_c25u1 : List Value) (out5_c25u1 : List Int), out5_c25u1 = oc25u1 ∧ E 1 = .int .i64 tile1 ∧ E 2 = .pointer (some ⟨b2, 0, none⟩) ∧ E 5 = .slice A_out5_c25u1 n_out5_c25u1 c_out5_c25u1 ∧ E 13 = .agg #[.int .i64 y2_5.In.fe0, .int .i64 y2_5.In.fe1, .int .i64 y2_5.In.fe2, .int .i64 y2_5.In.fe3] ∧ E 14 = .int .i64 3 ∧ RepL (RpI .i64) ρ out5_c25u1 cs_out5_c25u1 ∧ St w0 w (cells b2 81 [.int .i64 c0.Rows, .int .i64 c0.Cols, .int .i64 c0.Tracks, .slice A_c0_3 c0.Tiles.length c_c0_3, .slice A_c0_4 c0.In.length c_c0_4, .slice A_c0_5 c0.Out.length c_c0_5] :: vec 3 (RpI .i64).sz (.slice A_out5_c25u1 n_out5_c25u1 c_out5_c25u1) n_out5_c25u1 cs_out5_c25u1 :: ro ρ :: l)) ?_ ?_
  · skip -- c25u1
    refine x_cond (t := x25u1) rfl (fun hc25u1 => ?_) (fun hc25u1 => ?_)
    · replace hFc25u1 := it_t hc25u1 hFc25u1
      replace hFc25u1 := ar_s hFc25u1; obtain ⟨x30u1, hx30u1, hFc25u1⟩ := hFc25u1
      replace hFc25u1 := ck_s hFc25u1; obtain ⟨hk6u1_7, hFc25u1⟩ := hFc25u1
      replace hFc25u1 := ar_s hFc25u1; obtain ⟨x33u1, hx33u1, hFc25u1⟩ := hFc25u1
      replace hFc25u1 := ar_s hFc25u1; obtain ⟨x35u1, hx35u1, hFc25u1⟩ := hFc25u1
      replace hFc25u1 := ck_s hFc25u1; obtain ⟨hk6u1_12, hFc25u1⟩ := hFc25u1
      replace hFc25u1 := lv_s hFc25u1; obtain ⟨x38u1, hx38u1, hFc25u1⟩ := hFc25u1
      replace hFc25u1 := bd_s hFc25u1; obtain ⟨r6u1_13, hc6u1_13, hFc25u1⟩ := hFc25u1
      replace hFc25u1 := lv_s hFc25u1; obtain ⟨z6u1_15, hz6u1_15, hFc25u1⟩ := hFc25u1
      replace hFc25u1 := ck_s hFc25u1; obtain ⟨hk6u1_15, hFc25u1⟩ := hFc25u1
      refine x_par (w0 := w0) [⟨[], [], [26], [], [], []⟩, ⟨[], [], [27], [0], [], []⟩, ⟨[], [], [28], [], [], []⟩, ⟨[], [], [29], [], [], []⟩, ⟨[3], [3], [30], [], [], []⟩, ⟨[], [], [31], [], [], []⟩, ⟨[5], [5], [32], [0], [], []⟩, ⟨[3, 4, 5, 6], [4, 6], [33], [], [], []⟩, ⟨[], [], [34], [], [], []⟩, ⟨[8], [8], [35], [], [], []⟩, ⟨[], [], [36], [], [], []⟩, ⟨[10], [10], [37], [0], [], []⟩, ⟨[8, 9, 10, 11], [9, 11], [38], [], [], []⟩, ⟨[1, 2, 3, 4, 5, 6, 7, 8, 9, 10, 11, 12], [1, 2, 7, 12], [39], [1], [], []⟩, ⟨[1, 2, 3, 4, 5, 6, 7, 8, 9, 10, 11, 12, 13], [13], [40], [], [], [2]⟩, ⟨[0, 1, 2, 3, 4, 5, 6, 7, 8, 9, 10, 11, 12, 13, 14], [0, 14], [41], [2, 1], [3], [4]⟩, ⟨[0, 1, 2, 3, 4, 5, 6, 7, 8, 9, 10, 11, 12, 13, 14, 15], [15], [5, 41], [], [], []⟩] [⟨none, none, []⟩, ⟨none, none, []⟩, ⟨(some 14), none, [40]⟩, ⟨none, (some 15), []⟩, ⟨(some 15), none, [41]⟩] [5, 26, 27, 28, 29, 30, 31, 32, 33, 34, 35, 36, 37, 38, 39, 40, 41] [0, 1, 3] [0, 1, 2, 4] [0, 1, 2, 3, 4, 5, 6, 7, 8, 9, 10, 11, 12, 13, 14, 15, 16] [fun Ep6u1 => Ep6u1 26 = .slice A_out5_c25u2 out5_c25u2.length c_out5_c25u2, fun Ep6u1 => Ep6u1 27 = .agg #[.int .i64 c0.Rows, .int .i64 c0.Cols, .int .i64 c0.Tracks, .slice A_c0_3 c0.Tiles.length c_c0_3, .slice A_c0_4 c0.In.length c_c0_4, .slice A_c0_5 c0.Out.length c_c0_5], fun Ep6u1 => Ep6u1 28 = .int .i64 tile1, fun Ep6u1 => Ep6u1 29 = .int .i64 y2_5.In.fe3, fun Ep6u1 => Ep6u1 30 = .int .i64 x30u1, fun Ep6u1 => Ep6u1 31 = .pointer (some ⟨b2, 2, none⟩), fun Ep6u1 => Ep6u1 32 = .int .i64 c0.Tracks, fun Ep6u1 => Ep6u1 33 = .int .i64 x33u1, fun Ep6u1 => Ep6u1 34 = .int .i64 y2_5.In.fe3, fun Ep6u1 => Ep6u1 35 = .int .i64 x35u1, fun Ep6u1 => Ep6u1 36 = .pointer (some ⟨b2, 2, none⟩), fun Ep6u1 => Ep6u1 37 = .int .i64 c0.Tracks, fun Ep6u1 => Ep6u1 38 = .int .i64 x38u1, fun Ep6u1 => Ep6u1 39 = .int .i64 r6u1_13, fun Ep6u1 => Ep6u1 40 = .slice (some ⟨(blkOf (Ep6u1 40)), 0, none⟩) 1 1, fun Ep6u1 => Ep6u1 41 = .slice (adOf (Ep6u1 41)) z6u1_15.length (capOf (Ep6u1 41)), fun Ep6u1 => Ep6u1 5 = .slice (adOf (Ep6u1 41)) z6u1_15.length (capOf (Ep6u1 41))] [fun Ep6u1 => cells b2 81 [.int .i64 c0.Rows, .int .i64 c0.Cols, .int .i64 c0.Tracks, .slice A_c0_3 c0.Tiles.length c_c0_3, .slice A_c0_4 c0.In.length c_c0_4, .slice A_c0_5 c0.Out.length c_c0_5], fun Ep6u1 => ro ρ, fun Ep6u1 => cells (blkOf (Ep6u1 40)) 3 [.int .i64 r6u1_13], fun Ep6u1 => vec 3 (RpI .i64).sz (.slice A_out5_c25u2 out5_c25u2.length c_out5_c25u2) out5_c25u2.length cs_out5_c25u2, fun Ep6u1 => bunA (fun (cs41u1 : List Value) => RepL (RpI .i64) ρ z6u1_15 cs41u1) (fun (cs41u1 : List Value) => [vec 3 (RpI .i64).sz (.slice (adOf (Ep6u1 41)) z6u1_15.length (capOf (Ep6u1 41))) z6u1_15.length cs41u1])] mixed (by kernel_rfl) (((hS.pull 1).pull 2).pull 2) ?_ ?_
      · refine ⟨?_, ?_, ?_, ?_, ?_, ?_, ?_, ?_, ?_, ?_, ?_, ?_, ?_, ?_, ?_, ?_, ?_, trivial⟩
        · intro Ep6u1 w l' hE6u1 hO6u1 hF_ hS
          refine p (yl_move ((hO6u1 5 rfl).trans ec25u2_5)) <| x_done <|
            ?_
          refine x_fin ⟨⟨_, rfl⟩, rfl, ?_⟩
          exact Eq.mp (by kernel_rfl) hS
        · intro Ep6u1 w l' hE6u1 hO6u1 hF_ hS
          replace hS : St w0 w (cells b2 81 [.int .i64 c0.Rows, .int .i64 c0.Cols, .int .i64 c0.Tracks, .slice A_c0_3 c0.Tiles.length c_c0_3, .slice A_c0_4 c0.In.length c_c0_4, .slice A_c0_5 c0.Out.length c_c0_5] :: l') := Eq.mp (by kernel_rfl) hS
          refine pa (v := .agg #[.int .i64 c0.Rows, .int .i64 c0.Cols, .int .i64 c0.Tracks, .slice A_c0_3 c0.Tiles.length c_c0_3, .slice A_c0_4 c0.In.length c_c0_4, .slice A_c0_5 c0.Out.length c_c0_5]) (ld_sub agg_81 ((hE6u1 2 rfl).trans ec25u2_2) rfl rfl hS) <| x_done <|
            ?_
          refine x_fin ⟨⟨_, rfl⟩, rfl, ?_⟩
          exact Eq.mp (by kernel_rfl) hS
        · intro Ep6u1 w l' hE6u1 hO6u1 hF_ hS
          refine p (yl_move ((hE6u1 1 rfl).trans ec25u2_1)) <| x_done <|
            ?_
          refine x_fin ⟨⟨_, rfl⟩, rfl, ?_⟩
          exact Eq.mp (by kernel_rfl) hS
        · intro Ep6u1 w l' hE6u1 hO6u1 hF_ hS
          refine p (yl_move (hE6u1 7 rfl)) <| x_done <|
            ?_
          refine x_fin ⟨⟨_, rfl⟩, rfl, ?_⟩
          exact Eq.mp (by kernel_rfl) hS
        · intro Ep6u1 w l' hE6u1 hO6u1 hF_ hS
          obtain ⟨f6u1_3, -⟩ := hF_
          replace f6u1_3 : Ep6u1 29 = .int .i64 y2_5.In.fe3 := Eq.mp (by kernel_rfl) f6u1_3
          refine p (ysub f6u1_3 rfl hx30u1) <| x_done <|
            ?_
          refine x_fin ⟨⟨_, rfl⟩, rfl, ?_⟩
          exact Eq.mp (by kernel_rfl) hS
        · intro Ep6u1 w l' hE6u1 hO6u1 hF_ hS
          refine p (yl_field0 fld_81_2 ((hE6u1 2 rfl).trans ec25u2_2)) <| x_done <|
            ?_
          refine x_fin ⟨⟨_, rfl⟩, rfl, ?_⟩
          exact Eq.mp (by kernel_rfl) hS
        · intro Ep6u1 w l' hE6u1 hO6u1 hF_ hS
          obtain ⟨f6u1_5, -⟩ := hF_
          replace f6u1_5 : Ep6u1 31 = .pointer (some ⟨b2, 2, none⟩) := Eq.mp (by kernel_rfl) f6u1_5
          replace hS : St w0 w (cells b2 81 [.int .i64 c0.Rows, .int .i64 c0.Cols, .int .i64 c0.Tracks, .slice A_c0_3 c0.Tiles.length c_c0_3, .slice A_c0_4 c0.In.length c_c0_4, .slice A_c0_5 c0.Out.length c_c0_5] :: l') := Eq.mp (by kernel_rfl) hS
          refine pa (at_load one_3 f6u1_5 (hS.cell rfl)) <| x_done <|
            ?_
          refine x_fin ⟨⟨_, rfl⟩, rfl, ?_⟩
          exact Eq.mp (by kernel_rfl) hS
        · intro Ep6u1 w l' hE6u1 hO6u1 hF_ hS
          obtain ⟨f6u1_4, f6u1_6, -⟩ := hF_
          replace f6u1_4 : Ep6u1 30 = .int .i64 x30u1 := Eq.mp (by kernel_rfl) f6u1_4
          replace f6u1_6 : Ep6u1 32 = .int .i64 c0.Tracks := Eq.mp (by kernel_rfl) f6u1_6
          refine p (yquo f6u1_4 f6u1_6 hk6u1_7 hx33u1) <| x_done <|
            ?_
          refine x_fin ⟨⟨_, rfl⟩, rfl, ?_⟩
          exact Eq.mp (by kernel_rfl) hS
        · intro Ep6u1 w l' hE6u1 hO6u1 hF_ hS
          refine p (yl_move (hE6u1 7 rfl)) <| x_done <|
            ?_
          refine x_fin ⟨⟨_, rfl⟩, rfl, ?_⟩
          exact Eq.mp (by kernel_rfl) hS
        · intro Ep6u1 w l' hE6u1 hO6u1 hF_ hS
          obtain ⟨f6u1_8, -⟩ := hF_
          replace f6u1_8 : Ep6u1 34 = .int .i64 y2_5.In.fe3 := Eq.mp (by kernel_rfl) f6u1_8
          refine p (ysub f6u1_8 rfl hx35u1) <| x_done <|
            ?_
          refine x_fin ⟨⟨_, rfl⟩, rfl, ?_⟩
          exact Eq.mp (by kernel_rfl) hS
        · intro Ep6u1 w l' hE6u1 hO6u1 hF_ hS
          refine p (yl_field0 fld_81_2 ((hE6u1 2 rfl).trans ec25u2_2)) <| x_done <|
            ?_
          refine x_fin ⟨⟨_, rfl⟩, rfl, ?_⟩
          exact Eq.mp (by kernel_rfl) hS
        · intro Ep6u1 w l' hE6u1 hO6u1 hF_ hS
          obtain ⟨f6u1_10, -⟩ := hF_
          replace f6u1_10 : Ep6u1 36 = .pointer (some ⟨b2, 2, none⟩) := Eq.mp (by kernel_rfl) f6u1_10
          replace hS : St w0 w (cells b2 81 [.int .i64 c0.Rows, .int .i64 c0.Cols, .int .i64 c0.Tracks, .slice A_c0_3 c0.Tiles.length c_c0_3, .slice A_c0_4 c0.In.length c_c0_4, .slice A_c0_5 c0.Out.length c_c0_5] :: l') := Eq.mp (by kernel_rfl) hS
          refine pa (at_load one_3 f6u1_10 (hS.cell rfl)) <| x_done <|
            ?_
          refine x_fin ⟨⟨_, rfl⟩, rfl, ?_⟩
          exact Eq.mp (by kernel_rfl) hS
        · intro Ep6u1 w l' hE6u1 hO6u1 hF_ hS
          obtain ⟨f6u1_9, f6u1_11, -⟩ := hF_
          replace f6u1_9 : Ep6u1 35 = .int .i64 x35u1 := Eq.mp (by kernel_rfl) f6u1_9
          replace f6u1_11 : Ep6u1 37 = .int .i64 c0.Tracks := Eq.mp (by kernel_rfl) f6u1_11
          refine p (yrem f6u1_9 f6u1_11 hk6u1_12 hx38u1) <| x_done <|
            ?_
          refine x_fin ⟨⟨_, rfl⟩, rfl, ?_⟩
          exact Eq.mp (by kernel_rfl) hS
        · intro Ep6u1 w l' hE6u1 hO6u1 hF_ hS
          obtain ⟨f6u1_1, f6u1_2, f6u1_7, f6u1_12, -⟩ := hF_
          replace f6u1_1 : Ep6u1 27 = .agg #[.int .i64 c0.Rows, .int .i64 c0.Cols, .int .i64 c0.Tracks, .slice A_c0_3 c0.Tiles.length c_c0_3, .slice A_c0_4 c0.In.length c_c0_4, .slice A_c0_5 c0.Out.length c_c0_5] := Eq.mp (by kernel_rfl) f6u1_1
          replace f6u1_2 : Ep6u1 28 = .int .i64 tile1 := Eq.mp (by kernel_rfl) f6u1_2
          replace f6u1_7 : Ep6u1 33 = .int .i64 x33u1 := Eq.mp (by kernel_rfl) f6u1_7
          replace f6u1_12 : Ep6u1 38 = .int .i64 x38u1 := Eq.mp (by kernel_rfl) f6u1_12
          replace hS : St w0 w (ro ρ :: l') := Eq.mp (by kernel_rfl) hS
          have hcall := c_array_Config_into hc6u1_13 h_c0_3 h_c0_4 h_c0_5 hS
          refine o_cc call_157 (args4 f6u1_1 f6u1_2 f6u1_7 f6u1_12) (hcall) ?_
          rintro e w' ⟨rfl, hS⟩
          refine ⟨_, rfl, ?_⟩
          refine x_done <|
            ?_
          refine x_fin ⟨⟨_, rfl⟩, rfl, ?_⟩
          exact Eq.mp (by kernel_rfl) hS
        · intro Ep6u1 w l' hE6u1 hO6u1 hF_ hS
          obtain ⟨f6u1_13, -⟩ := hF_
          replace f6u1_13 : Ep6u1 39 = .int .i64 r6u1_13 := Eq.mp (by kernel_rfl) f6u1_13
          refine o_buildSlice (vs := [.int .i64 r6u1_13]) (cs := [.int .i64 r6u1_13]) sl_22 zero_3 (parts_eq (pt (va := .int .i64 r6u1_13) f6u1_13 pt0)) rfl (by intro v hv; simp only [List.mem_cons, List.not_mem_nil, or_false] at hv; first | (subst hv; rfl) | (rcases hv with rfl <;> rfl)) (by decide) rfl hS (fun b40u1 w' hS => ?_)
          refine x_done <|
            ?_
          refine x_fin ⟨⟨_, rfl⟩, rfl, ?_⟩
          exact Eq.mp (by kernel_rfl) hS
        · intro Ep6u1 w l' hE6u1 hO6u1 hF_ hS
          obtain ⟨f6u1_0, f6u1_14, -⟩ := hF_
          replace f6u1_0 : Ep6u1 26 = .slice A_out5_c25u2 out5_c25u2.length c_out5_c25u2 := Eq.mp (by kernel_rfl) f6u1_0
          replace f6u1_14 : Ep6u1 40 = .slice (some ⟨(blkOf (Ep6u1 40)), 0, none⟩) 1 1 := Eq.mp (by kernel_rfl) f6u1_14
          replace hS : St w0 w (cells (blkOf (Ep6u1 40)) 3 [.int .i64 r6u1_13] :: ro ρ :: vec 3 (RpI .i64).sz (.slice A_out5_c25u2 out5_c25u2.length c_out5_c25u2) out5_c25u2.length cs_out5_c25u2 :: l') := Eq.mp (by kernel_rfl) hS
          refine o_ap sl_22 zero_3 rfl (by decide) f6u1_0 f6u1_14 (hS.pull 2) h_out5_c25u2 (src_blk usl_22 hS rfl rfl) (RepL.cons (R := (RpI .i64)) (ρ := ρ) (x := r6u1_13) (cs := [.int .i64 r6u1_13]) rfl RepL.nil) hz6u1_15 hk6u1_15 (fun A41u1 c41u1 cs41u1 w' hr41u1 hS => ?_)
          refine x_done <|
            ?_
          refine x_fin ⟨⟨_, rfl⟩, rfl, ?_⟩
          replace hS := St.bun (Φ := (fun (cs41u1 : List Value) => RepL (RpI .i64) ρ z6u1_15 cs41u1)) (L := (fun (cs41u1 : List Value) => [vec 3 (RpI .i64).sz (.slice A41u1 z6u1_15.length c41u1) z6u1_15.length cs41u1])) cs41u1 hr41u1 hS
          exact Eq.mp (by kernel_rfl) ((hS.pull 2).pull 2)
        · intro Ep6u1 w l' hE6u1 hO6u1 hF_ hS
          obtain ⟨f6u1_15, -⟩ := hF_
          replace f6u1_15 : Ep6u1 41 = .slice (adOf (Ep6u1 41)) z6u1_15.length (capOf (Ep6u1 41)) := Eq.mp (by kernel_rfl) f6u1_15
          refine p (yl_assign f6u1_15) <| x_done <|
            ?_
          refine x_fin ⟨⟨_, rfl⟩, rfl, ?_⟩
          exact Eq.mp (by kernel_rfl) hS
      intro Ep6u1 w' hE6u1 hF_ hS
      obtain ⟨f6u1_0, f6u1_1, f6u1_2, f6u1_3, f6u1_4, f6u1_5, f6u1_6, f6u1_7, f6u1_8, f6u1_9, f6u1_10, f6u1_11, f6u1_12, f6u1_13, f6u1_14, f6u1_15, f6u1_16, -⟩ := hF_
      replace f6u1_0 : Ep6u1 26 = .slice A_out5_c25u2 out5_c25u2.length c_out5_c25u2 := Eq.mp (by kernel_rfl) f6u1_0
      replace f6u1_1 : Ep6u1 27 = .agg #[.int .i64 c0.Rows, .int .i64 c0.Cols, .int .i64 c0.Tracks, .slice A_c0_3 c0.Tiles.length c_c0_3, .slice A_c0_4 c0.In.length c_c0_4, .slice A_c0_5 c0.Out.length c_c0_5] := Eq.mp (by kernel_rfl) f6u1_1
      replace f6u1_2 : Ep6u1 28 = .int .i64 tile1 := Eq.mp (by kernel_rfl) f6u1_2
      replace f6u1_3 : Ep6u1 29 = .int .i64 y2_5.In.fe3 := Eq.mp (by kernel_rfl) f6u1_3
      replace f6u1_4 : Ep6u1 30 = .int .i64 x30u1 := Eq.mp (by kernel_rfl) f6u1_4
      replace f6u1_5 : Ep6u1 31 = .pointer (some ⟨b2, 2, none⟩) := Eq.mp (by kernel_rfl) f6u1_5
      replace f6u1_6 : Ep6u1 32 = .int .i64 c0.Tracks := Eq.mp (by kernel_rfl) f6u1_6
      replace f6u1_7 : Ep6u1 33 = .int .i64 x33u1 := Eq.mp (by kernel_rfl) f6u1_7
      replace f6u1_8 : Ep6u1 34 = .int .i64 y2_5.In.fe3 := Eq.mp (by kernel_rfl) f6u1_8
      replace f6u1_9 : Ep6u1 35 = .int .i64 x35u1 := Eq.mp (by kernel_rfl) f6u1_9
      replace f6u1_10 : Ep6u1 36 = .pointer (some ⟨b2, 2, none⟩) := Eq.mp (by kernel_rfl) f6u1_10
      replace f6u1_11 : Ep6u1 37 = .int .i64 c0.Tracks := Eq.mp (by kernel_rfl) f6u1_11
      replace f6u1_12 : Ep6u1 38 = .int .i64 x38u1 := Eq.mp (by kernel_rfl) f6u1_12
      replace f6u1_13 : Ep6u1 39 = .int .i64 r6u1_13 := Eq.mp (by kernel_rfl) f6u1_13
      replace f6u1_14 : Ep6u1 40 = .slice (some ⟨(blkOf (Ep6u1 40)), 0, none⟩) 1 1 := Eq.mp (by kernel_rfl) f6u1_14
      replace f6u1_15 : Ep6u1 41 = .slice (adOf (Ep6u1 41)) z6u1_15.length (capOf (Ep6u1 41)) := Eq.mp (by kernel_rfl) f6u1_15
      replace f6u1_16 : Ep6u1 5 = .slice (adOf (Ep6u1 41)) z6u1_15.length (capOf (Ep6u1 41)) := Eq.mp (by kernel_rfl) f6u1_16
      replace hS : St w0 w' (cells b2 81 [.int .i64 c0.Rows, .int .i64 c0.Cols, .int .i64 c0.Tracks, .slice A_c0_3 c0.Tiles.length c_c0_3, .slice A_c0_4 c0.In.length c_c0_4, .slice A_c0_5 c0.Out.length c_c0_5] :: ro ρ :: cells (blkOf (Ep6u1 40)) 3 [.int .i64 r6u1_13] :: bunA (fun (cs41u1 : List Value) => RepL (RpI .i64) ρ z6u1_15 cs41u1) (fun (cs41u1 : List Value) => [vec 3 (RpI .i64).sz (.slice (adOf (Ep6u1 41)) z6u1_15.length (capOf (Ep6u1 41))) z6u1_15.length cs41u1]) :: (l)) := Eq.mp (by kernel_rfl) hS
      have q_ := St.unbun (hS.pull 3); obtain ⟨cs41u1, hr41u1, hS⟩ := q_
      exact x_inv ⟨(adOf (Ep6u1 41)), z6u1_15.length, (capOf (Ep6u1 41)), cs41u1, z6u1_15, (Option.some.inj (show some _ = some _ from hFc25u1)), ((hE6u1 1 rfl).trans ec25u2_1), ((hE6u1 2 rfl).trans ec25u2_2), f6u1_16, ((hE6u1 13 rfl).trans ec25u2_13), (hE6u1 14 rfl), hr41u1, ((((hS.pull 3).drop.pull 2).pull 1).pull 2)⟩
    · replace hFc25u1 := it_bf hc25u1 hFc25u1
      refine x_skip <|
        ?_
      exact x_inv ⟨A_out5_c25u2, out5_c25u2.length, c_out5_c25u2, cs_out5_c25u2, out5_c25u2, (Option.some.inj (show some _ = some _ from hFc25u1)), ec25u2_1, ec25u2_2, ec25u2_5, ec25u2_13, rfl, h_out5_c25u2, (((hS.pull 2).pull 2).pull 2)⟩
  rintro E w ⟨A_out5_c25u1, n_out5_c25u1, c_out5_c25u1, cs_out5_c25u1, out5_c25u1, rfl, ec25u1_1, ec25u1_2, ec25u1_5, ec25u1_13, ec25u1_14, h_out5_c25u1, hS⟩
  have e_ := St.vec_n (hS.pull 1) h_out5_c25u1; subst e_
  refine x_blk <| x_region <| p (yadd (c := 4) ec25u1_14 rfl ⟨rfl, by decide⟩) <| p (yl_move rfl) <|
    x_done <| x_un 0 <| x_seq <| x_region <|
    p (ylss_l (t := false) rfl rfl (by decide)) <| x_done <| x_seq <| x_cond_f (show ev _ _ = .bool false from rfl) <|
    x_exitTo _ rfl <| x_seq <| x_region <| p (yl_move ec25u1_5) <|
    p (yl_assign rfl) <| x_done <|
    ?_
  have e_ := Option.some.inj (show some _ = some _ from hF); subst e_
  exact x_return ⟨_, ⟨_, _, rfl, rfl, rfl⟩, A_out5_c25u1, out5_c25u1.length, c_out5_c25u1, cs_out5_c25u1, rfl, h_out5_c25u1, ((hS.drop.pull 1).pull 1)⟩
attribute [irreducible] P_array_Config_sources

def P_array_order_1_3_L14 (v2_0 : Int) (v3 : T_array_Config) (l8_c30 : List Int) (rc_ : (Int × List Int × Int × T_array_Config × List Int) → Option (Bool × List Int × List Int)) : (Int × List Int × List Int) → Option ((Int × List Int × List Int) ⊕ ((List Int × List Int) ⊕ (Bool × List Int × List Int))) := fun (y84_L14h, zA_v1_0_L14h, b_v4_0_4_0_L14h) =>
  if y84_L14h < (l8_c30.length : Int) then
    ck (inb y84_L14h l8_c30.length) <|
    lv (gt l8_c30 y84_L14h) fun x87 =>
    bd (
      if (decide (0 ≤ x87)) = true then
        bd (rc_ (x87, zA_v1_0_L14h, v2_0, v3, b_v4_0_4_0_L14h)) fun r16_5 =>
        some (!r16_5.1, r16_5.2.1, r16_5.2.2)
      else
        some (false, zA_v1_0_L14h, b_v4_0_4_0_L14h)) fun (y95_g16_5, zA_v1_0_g16_5, b_v4_0_4_0_g16_5) =>
    if y95_g16_5 = true then
      some (Sum.inr (Sum.inr (false, zA_v1_0_g16_5, b_v4_0_4_0_g16_5)))
    else
      ar (y84_L14h + 1) fun x96 =>
      some (Sum.inl (x96, zA_v1_0_g16_5, b_v4_0_4_0_g16_5))
  else
    some (Sum.inr (Sum.inl (zA_v1_0_L14h, b_v4_0_4_0_L14h)))
def P_array_order_1_3_B (rc_ : (Int × List Int × Int × T_array_Config × List Int) → Option (Bool × List Int × List Int)) : (Int × List Int × Int × T_array_Config × List Int) → Option (Bool × List Int × List Int) := fun (k0, v1_0, v2_0, v3, v4_0_4_0) =>
  ck (inb k0 v1_0.length) <|
  lv (gt v1_0 k0) fun x18 =>
  if 0 < x18 then
    ck (inb k0 v1_0.length) <|
    lv (gt v1_0 k0) fun x23 =>
    some (decide (x23 = 2), v1_0, v4_0_4_0)
  else
    ck (inb k0 v1_0.length) <|
    lv (stt v1_0 k0 1) fun z3_3 =>
    bd (
      if v2_0 ≤ k0 then
        ar (k0 - v2_0) fun x34 =>
        bd (P_array_Config_sources v3 x34) fun r6_4 =>
        some r6_4
      else
        ck (v3.Tracks ≠ 0) <|
        ar (Int.tdiv k0 v3.Tracks) fun x39 =>
        ck ((4 : Int) ≠ 0) <|
        ar (Int.tdiv x39 4) fun x40 =>
        ck (v3.Tracks ≠ 0) <|
        ar (Int.tdiv k0 v3.Tracks) fun x44 =>
        ck ((4 : Int) ≠ 0) <|
        lv (Int.tmod x44 4) fun x45 =>
        ck (v3.Tracks ≠ 0) <|
        lv (Int.tmod k0 v3.Tracks) fun x49 =>
        ck (inb x40 v3.Tiles.length) <|
        ck (inb x45 4) <|
        lv (gt v3.Tiles x40) fun y8_7 =>
        lv (sel4 x45 y8_7.Out.fe0 y8_7.Out.fe1 y8_7.Out.fe2 y8_7.Out.fe3) fun z8_7 =>
        ck (inb x49 z8_7.length) <|
        lv (gt z8_7 x49) fun x60 =>
        bd (
          if x60 = 1 then
            ar (v2_0 + x40) fun x67 =>
            lv ([x67]) fun z10_5 =>
            ck (apOk 8 z10_5.length) <|
            some z10_5
          else
            bd (
              if 3 ≤ x60 then
                ar (x60 - 3) fun x77 =>
                bd (P_array_Config_into v3 x40 x77 x49) fun r12_6 =>
                lv ([r12_6]) fun z12_8 =>
                ck (apOk 8 z12_8.length) <|
                some z12_8
              else
                some []) fun l8_c70 =>
            some l8_c70) fun l8_c61 =>
        some l8_c61) fun l8_c30 =>
    bs (
      lp (P_array_order_1_3_L14 v2_0 v3 l8_c30 rc_) fuel (0, z3_3, v4_0_4_0)) (fun y => some y) fun (zA_v1_0_L14, b_v4_0_4_0_L14) =>
    ck (inb k0 zA_v1_0_L14.length) <|
    lv (stt zA_v1_0_L14 k0 2) fun z19_3 =>
    bd (
      if v2_0 ≤ k0 then
        ar (k0 - v2_0) fun x106 =>
        ar ((-1 : Int) - x106) fun x107 =>
        lv (b_v4_0_4_0_L14 ++ [x107]) fun z21_6 =>
        ck (apOk 8 z21_6.length) <|
        some z21_6
      else
        lv (b_v4_0_4_0_L14 ++ [k0]) fun z22_3 =>
        ck (apOk 8 z22_3.length) <|
        some z22_3) fun b_v4_0_4_0_c102 =>
    some (true, z19_3, b_v4_0_4_0_c102)
def P_array_order_1_3 (k0 : Int) (v1_0 : List Int) (v2_0 : Int) (v3 : T_array_Config) (v4_0_4_0 : List Int) : Option (Bool × List Int × List Int) := rcf P_array_order_1_3_B fuel (k0, v1_0, v2_0, v3, v4_0_4_0)
set_option maxHeartbeats 4000000 in
set_option maxRecDepth 100000 in
theorem c_array_order_1_3_s (rc_ : (Int × List Int × Int × T_array_Config × List Int) → Option (Bool × List Int × List Int)) (ih : ∀ {w0 w : World} {l : List Assn} {ρ : Heap} {b_v1 : Nat} {A_v1_0 : Option Addr} {n_v1_0 : Nat} {c_v1_0 : Nat} {cs_v1_0 : List Value} {b_v2 : Nat} {b_v3 : Nat} {A_v3_3 : Option Addr} {n_v3_3 : Nat} {c_v3_3 : Nat} {A_v3_4 : Option Addr} {n_v3_4 : Nat} {c_v3_4 : Nat} {A_v3_5 : Option Addr} {n_v3_5 : Nat} {c_v3_5 : Nat} {b_v4 : Nat} {b_v4_0_4 : Nat} {A_v4_0_4_0 : Option Addr} {n_v4_0_4_0 : Nat} {c_v4_0_4_0 : Nat} {cs_v4_0_4_0 : List Value} {k0 : Int} {v1_0 : List Int} {v2_0 : Int} {v3 : T_array_Config} {v4_0_4_0 : List Int} {r : (Bool × List Int × List Int)} (hF : rc_ (k0, v1_0, v2_0, v3, v4_0_4_0) = some r) (h_v1_0 : RepL (RpI .i64) ρ v1_0 cs_v1_0) (h_v3_3 : RdS R_array_Tile ρ A_v3_3 n_v3_3 c_v3_3 v3.Tiles) (h_v3_4 : RdS R_array_Pad ρ A_v3_4 n_v3_4 c_v3_4 v3.In) (h_v3_5 : RdS R_array_Pad ρ A_v3_5 n_v3_5 c_v3_5 v3.Out) (h_v4_0_4_0 : RepL (RpI .i64) ρ v4_0_4_0 cs_v4_0_4_0) (hS : St w0 w (cells b_v1 22 [.slice A_v1_0 n_v1_0 c_v1_0] :: vec 3 (RpI .i64).sz (.slice A_v1_0 n_v1_0 c_v1_0) n_v1_0 cs_v1_0 :: cells b_v2 3 [.int .i64 v2_0] :: cells b_v3 81 [.int .i64 v3.Rows, .int .i64 v3.Cols, .int .i64 v3.Tracks, .slice A_v3_3 n_v3_3 c_v3_3, .slice A_v3_4 n_v3_4 c_v3_4, .slice A_v3_5 n_v3_5 c_v3_5] :: cells b_v4 147 [.func (.func 155) #[] #[.pointer (some ⟨b_v1, 0, none⟩), .pointer (some ⟨b_v2, 0, none⟩), .pointer (some ⟨b_v3, 0, none⟩), .pointer (some ⟨b_v4, 0, none⟩), .pointer (some ⟨b_v4_0_4, 0, none⟩)]] :: cells b_v4_0_4 22 [.slice A_v4_0_4_0 n_v4_0_4_0 c_v4_0_4_0] :: vec 3 (RpI .i64).sz (.slice A_v4_0_4_0 n_v4_0_4_0 c_v4_0_4_0) n_v4_0_4_0 cs_v4_0_4_0 :: ro ρ :: l)),
    Calls Try.prog 155 #[.int .i64 k0, .pointer (some ⟨b_v1, 0, none⟩), .pointer (some ⟨b_v2, 0, none⟩), .pointer (some ⟨b_v3, 0, none⟩), .pointer (some ⟨b_v4, 0, none⟩), .pointer (some ⟨b_v4_0_4, 0, none⟩)] w fun e w' => ∃ (cs_zA_v1_0_ret : List Value) (A_b_v4_0_4_0_ret : Option Addr) (n_b_v4_0_4_0_ret : Nat) (c_b_v4_0_4_0_ret : Nat) (cs_b_v4_0_4_0_ret : List Value), e = .returned (.bool r.1) ∧ RepL (RpI .i64) ρ r.2.1 cs_zA_v1_0_ret ∧ RepL (RpI .i64) ρ r.2.2 cs_b_v4_0_4_0_ret ∧ St w0 w' (cells b_v1 22 [.slice A_v1_0 n_v1_0 c_v1_0] :: cells b_v2 3 [.int .i64 v2_0] :: cells b_v3 81 [.int .i64 v3.Rows, .int .i64 v3.Cols, .int .i64 v3.Tracks, .slice A_v3_3 n_v3_3 c_v3_3, .slice A_v3_4 n_v3_4 c_v3_4, .slice A_v3_5 n_v3_5 c_v3_5] :: cells b_v4_0_4 22 [.slice A_b_v4_0_4_0_ret n_b_v4_0_4_0_ret c_b_v4_0_4_0_ret] :: cells b_v4 147 [.func (.func 155) #[] #[.pointer (some ⟨b_v1, 0, none⟩), .pointer (some ⟨b_v2, 0, none⟩), .pointer (some ⟨b_v3, 0, none⟩), .pointer (some ⟨b_v4, 0, none⟩), .pointer (some ⟨b_v4_0_4, 0, none⟩)]] :: vec 3 (RpI .i64).sz (.slice A_v1_0 n_v1_0 c_v1_0) n_v1_0 cs_zA_v1_0_ret :: vec 3 (RpI .i64).sz (.slice A_b_v4_0_4_0_ret n_b_v4_0_4_0_ret c_b_v4_0_4_0_ret) n_b_v4_0_4_0_ret cs_b_v4_0_4_0_ret :: ro ρ :: l)) {w0 w : World} {l : List Assn} {ρ : Heap} {b_v1 : Nat} {A_v1_0 : Option Addr} {n_v1_0 : Nat} {c_v1_0 : Nat} {cs_v1_0 : List Value} {b_v2 : Nat} {b_v3 : Nat} {A_v3_3 : Option Addr} {n_v3_3 : Nat} {c_v3_3 : Nat} {A_v3_4 : Option Addr} {n_v3_4 : Nat} {c_v3_4 : Nat} {A_v3_5 : Option Addr} {n_v3_5 : Nat} {c_v3_5 : Nat} {b_v4 : Nat} {b_v4_0_4 : Nat} {A_v4_0_4_0 : Option Addr} {n_v4_0_4_0 : Nat} {c_v4_0_4_0 : Nat} {cs_v4_0_4_0 : List Value} {k0 : Int} {v1_0 : List Int} {v2_0 : Int} {v3 : T_array_Config} {v4_0_4_0 : List Int} {r : (Bool × List Int × List Int)} (hF : P_array_order_1_3_B rc_ (k0, v1_0, v2_0, v3, v4_0_4_0) = some r) (h_v1_0 : RepL (RpI .i64) ρ v1_0 cs_v1_0) (h_v3_3 : RdS R_array_Tile ρ A_v3_3 n_v3_3 c_v3_3 v3.Tiles) (h_v3_4 : RdS R_array_Pad ρ A_v3_4 n_v3_4 c_v3_4 v3.In) (h_v3_5 : RdS R_array_Pad ρ A_v3_5 n_v3_5 c_v3_5 v3.Out) (h_v4_0_4_0 : RepL (RpI .i64) ρ v4_0_4_0 cs_v4_0_4_0) (hS : St w0 w (cells b_v1 22 [.slice A_v1_0 n_v1_0 c_v1_0] :: vec 3 (RpI .i64).sz (.slice A_v1_0 n_v1_0 c_v1_0) n_v1_0 cs_v1_0 :: cells b_v2 3 [.int .i64 v2_0] :: cells b_v3 81 [.int .i64 v3.Rows, .int .i64 v3.Cols, .int .i64 v3.Tracks, .slice A_v3_3 n_v3_3 c_v3_3, .slice A_v3_4 n_v3_4 c_v3_4, .slice A_v3_5 n_v3_5 c_v3_5] :: cells b_v4 147 [.func (.func 155) #[] #[.pointer (some ⟨b_v1, 0, none⟩), .pointer (some ⟨b_v2, 0, none⟩), .pointer (some ⟨b_v3, 0, none⟩), .pointer (some ⟨b_v4, 0, none⟩), .pointer (some ⟨b_v4_0_4, 0, none⟩)]] :: cells b_v4_0_4 22 [.slice A_v4_0_4_0 n_v4_0_4_0 c_v4_0_4_0] :: vec 3 (RpI .i64).sz (.slice A_v4_0_4_0 n_v4_0_4_0 c_v4_0_4_0) n_v4_0_4_0 cs_v4_0_4_0 :: ro ρ :: l)) :
    Calls Try.prog 155 #[.int .i64 k0, .pointer (some ⟨b_v1, 0, none⟩), .pointer (some ⟨b_v2, 0, none⟩), .pointer (some ⟨b_v3, 0, none⟩), .pointer (some ⟨b_v4, 0, none⟩), .pointer (some ⟨b_v4_0_4, 0, none⟩)] w fun e w' => ∃ (cs_zA_v1_0_ret : List Value) (A_b_v4_0_4_0_ret : Option Addr) (n_b_v4_0_4_0_ret : Nat) (c_b_v4_0_4_0_ret : Nat) (cs_b_v4_0_4_0_ret : List Value), e = .returned (.bool r.1) ∧ RepL (RpI .i64) ρ r.2.1 cs_zA_v1_0_ret ∧ RepL (RpI .i64) ρ r.2.2 cs_b_v4_0_4_0_ret ∧ St w0 w' (cells b_v1 22 [.slice A_v1_0 n_v1_0 c_v1_0] :: cells b_v2 3 [.int .i64 v2_0] :: cells b_v3 81 [.int .i64 v3.Rows, .int .i64 v3.Cols, .int .i64 v3.Tracks, .slice A_v3_3 n_v3_3 c_v3_3, .slice A_v3_4 n_v3_4 c_v3_4, .slice A_v3_5 n_v3_5 c_v3_5] :: cells b_v4_0_4 22 [.slice A_b_v4_0_4_0_ret n_b_v4_0_4_0_ret c_b_v4_0_4_0_ret] :: cells b_v4 147 [.func (.func 155) #[] #[.pointer (some ⟨b_v1, 0, none⟩), .pointer (some ⟨b_v2, 0, none⟩), .pointer (some ⟨b_v3, 0, none⟩), .pointer (some ⟨b_v4, 0, none⟩), .pointer (some ⟨b_v4_0_4, 0, none⟩)]] :: vec 3 (RpI .i64).sz (.slice A_v1_0 n_v1_0 c_v1_0) n_v1_0 cs_zA_v1_0_ret :: vec 3 (RpI .i64).sz (.slice A_b_v4_0_4_0_ret n_b_v4_0_4_0_ret c_b_v4_0_4_0_ret) n_b_v4_0_4_0_ret cs_b_v4_0_4_0_ret :: ro ρ :: l) := by
  unfold P_array_order_1_3_B at hF; dsimp only at hF
  have e_ := St.vec_n (hS.pull 1) h_v1_0; subst e_
  have e_ := h_v3_3.n; subst e_
  have e_ := h_v3_4.n; subst e_
  have e_ := h_v3_5.n; subst e_
  have e_ := St.vec_n (hS.pull 6) h_v4_0_4_0; subst e_
  refine enterC Try.func155 rfl 114 rfl (by simp) ?_
  replace hF := ck_s hF; obtain ⟨hk1_2, hF⟩ := hF
  replace hF := lv_s hF; obtain ⟨x18, hx18, hF⟩ := hF
  refine x_seq <| x_region <| p (yl_assign rfl) <| x_done <|
    x_seq <| x_seq <| x_region <| pa (at_load one_22 rfl (hS.cell rfl)) <|
    p (yl_move rfl) <| p (yix_o sl_22 rfl rfl (hS.pull 1) h_v1_0 hk1_2) <| pa (at_load one_3 rfl (RepL.getW h_v1_0 (hS.pull 1) hk1_2 hx18)) <| p (yl_gtr rfl rfl) <|
    x_done <|
    x_cond_p (0 < x18) rfl (fun hc19 => ?_) (fun hc19 => ?_)
  · replace hF := it_t hc19 hF
    replace hF := ck_s hF; obtain ⟨hk2_2, hF⟩ := hF
    replace hF := lv_s hF; obtain ⟨x23, hx23, hF⟩ := hF
    refine x_seq <| x_region <| pa (at_load one_22 rfl (hS.cell rfl)) <| p (yl_move rfl) <|
      p (yix_o sl_22 rfl rfl (hS.pull 1) h_v1_0 hk2_2) <| pa (at_load one_3 rfl (RepL.getW h_v1_0 (hS.pull 1) hk2_2 hx23)) <| p (yl_eql rfl rfl) <| p (yl_assign rfl) <|
      x_done <|
      ?_
    have e_ := Option.some.inj (show some _ = some _ from hF); subst e_
    exact x_return ⟨_, ⟨_, _, rfl, rfl, rfl⟩, cs_v1_0, A_v4_0_4_0, v4_0_4_0.length, c_v4_0_4_0, cs_v4_0_4_0, rfl, h_v1_0, h_v4_0_4_0, ((((((((hS.pull 7).pull 7).pull 3).pull 6).pull 7).pull 7).pull 7).pull 7)⟩
  · replace hF := it_f hc19 hF
    replace hF := ck_s hF; obtain ⟨hk3_2, hF⟩ := hF
    refine x_skip <| x_seq <| x_region <| pa (at_load one_22 rfl (hS.cell rfl)) <|
      p (yl_move rfl) <| p (yix_o sl_22 rfl rfl (hS.pull 1) h_v1_0 hk3_2) <|
      ?_
    replace hF := lv_s hF; obtain ⟨z3_3, hz3_3, hF⟩ := hF
    refine o_put' (news := [.int .i64 1]) sz_3 rfl rfl rfl rfl (o := 0) rfl hk3_2 rfl (hS.pull 1) h_v1_0 (Le.refl _) (fun c hc => ok_all hc (show (RpI .i64).ok ρ [.int .i64 1] 1 from rfl)) hz3_3 (fun cs3_3 w' hr3_3 hS => ?_)
    refine x_done <| x_seq <| x_region <| p (yl_assign rfl) <|
      x_done <| x_seq <| x_seq <| x_region <|
      p (yl_move rfl) <| pa (at_load one_3 rfl ((hS.pull 2).cell rfl)) <| p (yl_geq rfl rfl) <| x_done <|
      ?_
    replace hF := bd_s hF; obtain ⟨oc30, hFc30, hF⟩ := hF
    refine x_join (fun E w => ∃ (A_l8_c30 : Option Addr) (n_l8_c30 : Nat) (c_l8_c30 : Nat) (cs_l8_c30 : List Value) (l8_c30 : List Int), l8_c30 = oc30 ∧ E 0 = .int .i64 k0 ∧ E 1 = .pointer (some ⟨b_v1, 0, none⟩) ∧ E 2 = .pointer (some ⟨b_v2, 0, none⟩) ∧ E 4 = .pointer (some ⟨b_v4, 0, none⟩) ∧ E 5 = .pointer (some ⟨b_v4_0_4, 0, none⟩) ∧ E 8 = .slice A_l8_c30 n_l8_c30 c_l8_c30 ∧ RepL (RpI .i64) ρ l8_c30 cs_l8_c30 ∧ St w0 w (cells b_v1 22 [.slice A_v1_0 v1_0.length c_v1_0] :: cells b_v2 3 [.int .i64 v2_0] :: cells b_v4 147 [.func (.func 155) #[] #[.pointer (some ⟨b_v1, 0, none⟩), .pointer (some ⟨b_v2, 0, none⟩), .pointer (some ⟨b_v3, 0, none⟩), .pointer (some ⟨b_v4, 0, none⟩), .pointer (some ⟨b_v4_0_4, 0, none⟩)]] :: cells b_v4_0_4 22 [.slice A_v4_0_4_0 v4_0_4_0.length c_v4_0_4_0] :: vec 3 (RpI .i64).sz (.slice A_l8_c30 n_l8_c30 c_l8_c30) n_l8_c30 cs_l8_c30 :: cells b_v3 81 [.int .i64 v3.Rows, .int .i64 v3.Cols, .int .i64 v3.Tracks, .slice A_v3_3 v3.Tiles.length c_v3_3, .slice A_v3_4 v3.In.length c_v3_4, .slice A_v3_5 v3.Out.length c_v3_5] :: vec 3 (RpI .i64).sz (.slice A_v1_0 v1_0.length c_v1_0) v1_0.length cs3_3 :: vec 3 (RpI .i64).sz (.slice A_v4_0_4_0 v4_0_4_0.length c_v4_0_4_0) v4_0_4_0.length cs_v4_0_4_0 :: ro ρ :: l)) ?_ ?_
    · skip -- c30
      refine x_cond_p (v2_0 ≤ k0) rfl (fun hc30 => ?_) (fun hc30 => ?_)
      · replace hFc30 := it_t hc30 hFc30
        replace hFc30 := ar_s hFc30; obtain ⟨x34, hx34, hFc30⟩ := hFc30
        replace hFc30 := bd_s hFc30; obtain ⟨r6_4, hc6_4, hFc30⟩ := hFc30
        refine x_region <| pa (v := .agg #[.int .i64 v3.Rows, .int .i64 v3.Cols, .int .i64 v3.Tracks, .slice A_v3_3 v3.Tiles.length c_v3_3, .slice A_v3_4 v3.In.length c_v3_4, .slice A_v3_5 v3.Out.length c_v3_5]) (ld_sub agg_81 rfl rfl rfl (hS.pull 3)) <| p (yl_move rfl) <| pa (at_load one_3 rfl ((hS.pull 2).cell rfl)) <|
          p (ysub rfl rfl hx34) <|
          ?_
        have hcall := c_array_Config_sources hc6_4 h_v3_3 h_v3_4 h_v3_5 (hS.pull 7)
        refine o_cc call_156 (args2 rfl rfl) hcall ?_
        rintro e w' ⟨A_y0_ret_6_4, n_y0_ret_6_4, c_y0_ret_6_4, cs_y0_ret_6_4, rfl, h_y0_ret_6_4, hS⟩
        refine ⟨_, rfl, ?_⟩
        have e_ := St.vec_n hS h_y0_ret_6_4; subst e_
        refine p (yl_assign rfl) <| x_done <|
          ?_
        exact x_inv ⟨A_y0_ret_6_4, r6_4.length, c_y0_ret_6_4, cs_y0_ret_6_4, r6_4, (Option.some.inj (show some _ = some _ from hFc30)), rfl, rfl, rfl, rfl, rfl, rfl, h_y0_ret_6_4, (((((((((hS.pull 1).pull 8).pull 3).pull 6).pull 4).pull 8).pull 8).pull 8).pull 8)⟩
      · replace hFc30 := it_f hc30 hFc30
        replace hFc30 := ck_s hFc30; obtain ⟨hk7_3, hFc30⟩ := hFc30
        replace hFc30 := ar_s hFc30; obtain ⟨x39, hx39, hFc30⟩ := hFc30
        replace hFc30 := ck_s hFc30; obtain ⟨hk7_4, hFc30⟩ := hFc30
        replace hFc30 := ar_s hFc30; obtain ⟨x40, hx40, hFc30⟩ := hFc30
        replace hFc30 := ck_s hFc30; obtain ⟨hk7_8, hFc30⟩ := hFc30
        replace hFc30 := ar_s hFc30; obtain ⟨x44, hx44, hFc30⟩ := hFc30
        replace hFc30 := ck_s hFc30; obtain ⟨hk7_9, hFc30⟩ := hFc30
        replace hFc30 := lv_s hFc30; obtain ⟨x45, hx45, hFc30⟩ := hFc30
        replace hFc30 := ck_s hFc30; obtain ⟨hk7_13, hFc30⟩ := hFc30
        replace hFc30 := lv_s hFc30; obtain ⟨x49, hx49, hFc30⟩ := hFc30
        refine x_seq <| x_still mixed (by kernel_rfl) hS <| q (yl_move rfl) <| q (yl_field0 fld_81_2 rfl) <|
          qa (fun w' hS => at_load one_3 rfl ((hS.pull 3).cell rfl)) <| q (yquo rfl rfl hk7_3 hx39) <| q (yquo rfl rfl hk7_4 hx40) <| q (yl_move rfl) <|
          q (yl_field0 fld_81_2 rfl) <| qa (fun w' hS => at_load one_3 rfl ((hS.pull 3).cell rfl)) <| q (yquo rfl rfl hk7_8 hx44) <| q (yrem rfl rfl hk7_9 hx45) <|
          q (yl_move rfl) <| q (yl_field0 fld_81_2 rfl) <| qa (fun w' hS => at_load one_3 rfl ((hS.pull 3).cell rfl)) <| q (yrem rfl rfl hk7_13 hx49) <|
          q (yl_assign rfl) <| q (yl_assign rfl) <| q (yl_assign rfl) <|
          q_done fun w' hS => ?_
        replace hFc30 := ck_s hFc30; obtain ⟨hk8_4, hFc30⟩ := hFc30
        replace hFc30 := ck_s hFc30; obtain ⟨hk8_6, hFc30⟩ := hFc30
        replace hFc30 := lv_s hFc30; obtain ⟨y8_7, hy8_7, hFc30⟩ := hFc30
        have q_ := h_v3_3.get hk8_4; obtain ⟨el8_7, ek8_7, ee8_7⟩ := q_
        rw [← hy8_7] at ek8_7
        obtain ⟨A8_7_6, n8_7_6, c8_7_6, A8_7_7, n8_7_7, c8_7_7, A8_7_8, n8_7_8, c8_7_8, A8_7_9, n8_7_9, c8_7_9, rfl, f8_7_6, f8_7_7, f8_7_8, f8_7_9⟩ := ek8_7
        have e_ := f8_7_6.n; subst e_
        have e_ := f8_7_7.n; subst e_
        have e_ := f8_7_8.n; subst e_
        have e_ := f8_7_9.n; subst e_
        replace hFc30 := lv_s hFc30; obtain ⟨z8_7, hz8_7, hFc30⟩ := hFc30
        have q_ := sel4_sl hk8_6 f8_7_6 f8_7_7 f8_7_8 f8_7_9; obtain ⟨A8_7, n8_7, c8_7, hs8_7, f8_7⟩ := q_
        rw [← hz8_7] at f8_7
        have e_ := f8_7.n; subst e_
        replace hFc30 := ck_s hFc30; obtain ⟨hk8_9, hFc30⟩ := hFc30
        replace hFc30 := lv_s hFc30; obtain ⟨x60, hx60, hFc30⟩ := hFc30
        refine x_seq <| x_region <| p (yl_field0 fld_81_3 rfl) <| pa (at_load one_78 rfl ((hS.pull 3).cell rfl)) <|
          p (yl_move rfl) <| p (yl_move rfl) <| p (yix_f sl_78 rfl rfl h_v3_3 hk8_4) <| p (yl_fieldAddr fld_183_3 rfl) <|
          p (yl_ixE arr_181 rfl rfl hk8_6 rfl) <| pa (at_load one_22 rfl (Elt.ld (j := 6 + x45.toNat * 1) ee8_7 (hS.pull 7) ((sel4_get hk8_6 rfl rfl rfl rfl).trans (congrArg some hs8_7)))) <| p (yl_move rfl) <| p (yix_f sl_22 rfl rfl f8_7 hk8_9) <|
          pa (at_load one_3 rfl (RdS.getW f8_7 (hS.pull 7) hk8_9 hx60)) <| p (yl_assign rfl) <| x_done <| x_block <|
          x_seq <| x_region <| p (yl_move rfl) <| p (yl_eql rfl rfl) <|
          p (yl_assign rfl) <| x_done <|
          ?_
        replace hFc30 := bd_s hFc30; obtain ⟨oc61, hFc61, hFc30⟩ := hFc30
        refine x_join (fun E w => ∃ (A_l8_c61 : Option Addr) (n_l8_c61 : Nat) (c_l8_c61 : Nat) (cs_l8_c61 : List Value) (l8_c61 : List Int), l8_c61 = oc61 ∧ E 0 = .int .i64 k0 ∧ E 1 = .pointer (some ⟨b_v1, 0, none⟩) ∧ E 2 = .pointer (some ⟨b_v2, 0, none⟩) ∧ E 4 = .pointer (some ⟨b_v4, 0, none⟩) ∧ E 5 = .pointer (some ⟨b_v4_0_4, 0, none⟩) ∧ E 8 = .slice A_l8_c61 n_l8_c61 c_l8_c61 ∧ RepL (RpI .i64) ρ l8_c61 cs_l8_c61 ∧ St w0 w (cells b_v1 22 [.slice A_v1_0 v1_0.length c_v1_0] :: cells b_v2 3 [.int .i64 v2_0] :: cells b_v4 147 [.func (.func 155) #[] #[.pointer (some ⟨b_v1, 0, none⟩), .pointer (some ⟨b_v2, 0, none⟩), .pointer (some ⟨b_v3, 0, none⟩), .pointer (some ⟨b_v4, 0, none⟩), .pointer (some ⟨b_v4_0_4, 0, none⟩)]] :: cells b_v4_0_4 22 [.slice A_v4_0_4_0 v4_0_4_0.length c_v4_0_4_0] :: vec 3 (RpI .i64).sz (.slice A_l8_c61 n_l8_c61 c_l8_c61) n_l8_c61 cs_l8_c61 :: cells b_v3 81 [.int .i64 v3.Rows, .int .i64 v3.Cols, .int .i64 v3.Tracks, .slice A_v3_3 v3.Tiles.length c_v3_3, .slice A_v3_4 v3.In.length c_v3_4, .slice A_v3_5 v3.Out.length c_v3_5] :: vec 3 (RpI .i64).sz (.slice A_v1_0 v1_0.length c_v1_0) v1_0.length cs3_3 :: vec 3 (RpI .i64).sz (.slice A_v4_0_4_0 v4_0_4_0.length c_v4_0_4_0) v4_0_4_0.length cs_v4_0_4_0 :: ro ρ :: l)) ?_ ?_
        · skip -- c61
          refine x_cond_p (x60 = 1) rfl (fun hc61 => ?_) (fun hc61 => ?_)
          · replace hFc61 := it_t hc61 hFc61
            replace hFc61 := ar_s hFc61; obtain ⟨x67, hx67, hFc61⟩ := hFc61
            refine x_region <| p (yl_move rfl) <| pa (at_load one_3 rfl ((hS.pull 2).cell rfl)) <| p (yl_move rfl) <|
              p (yadd rfl rfl hx67) <|
              ?_
            refine o_buildSlice (vs := [.int .i64 x67]) (cs := [.int .i64 x67]) sl_22 zero_3 (parts_eq (pt (va := .int .i64 x67) rfl pt0)) rfl (by intro v hv; simp only [List.mem_cons, List.not_mem_nil, or_false] at hv; first | (subst hv; rfl) | (rcases hv with rfl <;> rfl)) (by decide) rfl hS (fun b68 w' hS => ?_)
            replace hS := St.vec_nil hS 3 (RpI .i64).sz
            have hn69 : RepL (RpI .i64) ρ [] [] := rfl
            replace hFc61 := lv_s hFc61; obtain ⟨z10_5, hz10_5, hFc61⟩ := hFc61
            replace hFc61 := ck_s hFc61; obtain ⟨hk10_5, hFc61⟩ := hFc61
            refine o_ap sl_22 zero_3 rfl (by decide) rfl rfl hS hn69 (src_blk usl_22 (hS.pull 1) rfl rfl) (RepL.cons (R := (RpI .i64)) (ρ := ρ) (x := x67) (cs := [.int .i64 x67]) rfl RepL.nil) (hz10_5 : z10_5 = [] ++ _) hk10_5 (fun A69 c69 cs69 w' hr69 hS => ?_)
            refine p (yl_assign rfl) <| x_done <|
              ?_
            exact x_inv ⟨A69, z10_5.length, c69, cs69, z10_5, (Option.some.inj (show some _ = some _ from hFc61)), rfl, rfl, rfl, rfl, rfl, rfl, hr69, ((((((((((hS.pull 1).drop.pull 8).pull 8).pull 3).pull 6).pull 4).pull 8).pull 8).pull 8).pull 8)⟩
          · replace hFc61 := it_f hc61 hFc61
            refine x_seq <| x_region <| p (yl_move rfl) <| p (yl_geq rfl rfl) <|
              p (yl_assign rfl) <| x_done <|
              ?_
            replace hFc61 := bd_s hFc61; obtain ⟨oc70, hFc70, hFc61⟩ := hFc61
            refine x_join (fun E w => ∃ (A_l8_c70 : Option Addr) (n_l8_c70 : Nat) (c_l8_c70 : Nat) (cs_l8_c70 : List Value) (l8_c70 : List Int), l8_c70 = oc70 ∧ E 0 = .int .i64 k0 ∧ E 1 = .pointer (some ⟨b_v1, 0, none⟩) ∧ E 2 = .pointer (some ⟨b_v2, 0, none⟩) ∧ E 4 = .pointer (some ⟨b_v4, 0, none⟩) ∧ E 5 = .pointer (some ⟨b_v4_0_4, 0, none⟩) ∧ E 8 = .slice A_l8_c70 n_l8_c70 c_l8_c70 ∧ RepL (RpI .i64) ρ l8_c70 cs_l8_c70 ∧ St w0 w (cells b_v1 22 [.slice A_v1_0 v1_0.length c_v1_0] :: cells b_v2 3 [.int .i64 v2_0] :: cells b_v4 147 [.func (.func 155) #[] #[.pointer (some ⟨b_v1, 0, none⟩), .pointer (some ⟨b_v2, 0, none⟩), .pointer (some ⟨b_v3, 0, none⟩), .pointer (some ⟨b_v4, 0, none⟩), .pointer (some ⟨b_v4_0_4, 0, none⟩)]] :: cells b_v4_0_4 22 [.slice A_v4_0_4_0 v4_0_4_0.length c_v4_0_4_0] :: vec 3 (RpI .i64).sz (.slice A_l8_c70 n_l8_c70 c_l8_c70) n_l8_c70 cs_l8_c70 :: cells b_v3 81 [.int .i64 v3.Rows, .int .i64 v3.Cols, .int .i64 v3.Tracks, .slice A_v3_3 v3.Tiles.length c_v3_3, .slice A_v3_4 v3.In.length c_v3_4, .slice A_v3_5 v3.Out.length c_v3_5] :: vec 3 (RpI .i64).sz (.slice A_v1_0 v1_0.length c_v1_0) v1_0.length cs3_3 :: vec 3 (RpI .i64).sz (.slice A_v4_0_4_0 v4_0_4_0.length c_v4_0_4_0) v4_0_4_0.length cs_v4_0_4_0 :: ro ρ :: l)) ?_ ?_
            · skip -- c70
              refine x_cond_p (3 ≤ x60) rfl (fun hc70 => ?_) (fun hc70 => ?_)
              · replace hFc70 := it_t hc70 hFc70
                replace hFc70 := ar_s hFc70; obtain ⟨x77, hx77, hFc70⟩ := hFc70
                replace hFc70 := bd_s hFc70; obtain ⟨r12_6, hc12_6, hFc70⟩ := hFc70
                refine x_region <| p (yl_move rfl) <| pa (v := .agg #[.int .i64 v3.Rows, .int .i64 v3.Cols, .int .i64 v3.Tracks, .slice A_v3_3 v3.Tiles.length c_v3_3, .slice A_v3_4 v3.In.length c_v3_4, .slice A_v3_5 v3.Out.length c_v3_5]) (ld_sub agg_81 rfl rfl rfl (hS.pull 3)) <| p (yl_move rfl) <|
                  p (yl_move rfl) <| p (ysub rfl rfl hx77) <| p (yl_move rfl) <|
                  ?_
                have hcall := c_array_Config_into hc12_6 h_v3_3 h_v3_4 h_v3_5 (hS.pull 7)
                refine o_cc call_157 (args4 rfl rfl rfl rfl) ((Calls.mono hcall (fun e w'' h => And.intro h.1 (((((((h.2.pull 7).pull 7).pull 7).pull 7).pull 7).pull 7).pull 7)))) ?_
                rintro e w' ⟨rfl, hS⟩
                refine ⟨_, rfl, ?_⟩
                refine o_buildSlice (vs := [.int .i64 r12_6]) (cs := [.int .i64 r12_6]) sl_22 zero_3 (parts_eq (pt (va := .int .i64 r12_6) rfl pt0)) rfl (by intro v hv; simp only [List.mem_cons, List.not_mem_nil, or_false] at hv; first | (subst hv; rfl) | (rcases hv with rfl <;> rfl)) (by decide) rfl hS (fun b80 w' hS => ?_)
                replace hS := St.vec_nil hS 3 (RpI .i64).sz
                have hn81 : RepL (RpI .i64) ρ [] [] := rfl
                replace hFc70 := lv_s hFc70; obtain ⟨z12_8, hz12_8, hFc70⟩ := hFc70
                replace hFc70 := ck_s hFc70; obtain ⟨hk12_8, hFc70⟩ := hFc70
                refine o_ap sl_22 zero_3 rfl (by decide) rfl rfl hS hn81 (src_blk usl_22 (hS.pull 1) rfl rfl) (RepL.cons (R := (RpI .i64)) (ρ := ρ) (x := r12_6) (cs := [.int .i64 r12_6]) rfl RepL.nil) (hz12_8 : z12_8 = [] ++ _) hk12_8 (fun A81 c81 cs81 w' hr81 hS => ?_)
                refine p (yl_assign rfl) <| x_done <|
                  ?_
                exact x_inv ⟨A81, z12_8.length, c81, cs81, z12_8, (Option.some.inj (show some _ = some _ from hFc70)), rfl, rfl, rfl, rfl, rfl, rfl, hr81, ((((((((((hS.pull 1).drop.pull 8).pull 8).pull 3).pull 6).pull 4).pull 8).pull 8).pull 8).pull 8)⟩
              · replace hFc70 := it_f hc70 hFc70
                refine x_skip <|
                  ?_
                replace hS := St.vec_nil hS 3 (RpI .i64).sz
                have hnil_A_l8_c70 : RepL (RpI .i64) ρ [] [] := rfl
                exact x_inv ⟨none, 0, 0, [], [], (Option.some.inj (show some _ = some _ from hFc70)), rfl, rfl, rfl, rfl, rfl, rfl, hnil_A_l8_c70, (((((((((hS.pull 8).pull 8).pull 3).pull 6).pull 4).pull 8).pull 8).pull 8).pull 8)⟩
            rintro E w ⟨A_l8_c70, n_l8_c70, c_l8_c70, cs_l8_c70, l8_c70, rfl, ec70_0, ec70_1, ec70_2, ec70_4, ec70_5, ec70_8, h_l8_c70, hS⟩
            have e_ := St.vec_n (hS.pull 4) h_l8_c70; subst e_
            exact x_inv ⟨A_l8_c70, l8_c70.length, c_l8_c70, cs_l8_c70, l8_c70, (Option.some.inj (show some _ = some _ from hFc61)), ec70_0, ec70_1, ec70_2, ec70_4, ec70_5, ec70_8, h_l8_c70, (((((((((hS.pull 8).pull 8).pull 8).pull 8).pull 8).pull 8).pull 8).pull 8).pull 8)⟩
        rintro E w ⟨A_l8_c61, n_l8_c61, c_l8_c61, cs_l8_c61, l8_c61, rfl, ec61_0, ec61_1, ec61_2, ec61_4, ec61_5, ec61_8, h_l8_c61, hS⟩
        have e_ := St.vec_n (hS.pull 4) h_l8_c61; subst e_
        refine x_blk <|
          ?_
        exact x_inv ⟨A_l8_c61, l8_c61.length, c_l8_c61, cs_l8_c61, l8_c61, (Option.some.inj (show some _ = some _ from hFc30)), ec61_0, ec61_1, ec61_2, ec61_4, ec61_5, ec61_8, h_l8_c61, (((((((((hS.pull 8).pull 8).pull 8).pull 8).pull 8).pull 8).pull 8).pull 8).pull 8)⟩
    rintro E w ⟨A_l8_c30, n_l8_c30, c_l8_c30, cs_l8_c30, l8_c30, rfl, ec30_0, ec30_1, ec30_2, ec30_4, ec30_5, ec30_8, h_l8_c30, hS⟩
    have e_ := St.vec_n (hS.pull 4) h_l8_c30; subst e_
    refine x_seq <| x_seq <| x_region <| p (yl_move ec30_8) <|
      p (yl_len_slice usl_22 rfl) <| p (yl_move rfl) <| x_done <|
      ?_
    replace hF := bs_s hF; obtain ⟨oL14, hLL14, hF⟩ := hF
    refine x_join (fun E w => ∃ (cs_zA_v1_0_L14 : List Value) (A_b_v4_0_4_0_L14 : Option Addr) (n_b_v4_0_4_0_L14 : Nat) (c_b_v4_0_4_0_L14 : Nat) (cs_b_v4_0_4_0_L14 : List Value) (zA_v1_0_L14 : List Int) (b_v4_0_4_0_L14 : List Int), (Sum.inl (zA_v1_0_L14, b_v4_0_4_0_L14)) = oL14 ∧ E 0 = .int .i64 k0 ∧ E 1 = .pointer (some ⟨b_v1, 0, none⟩) ∧ E 2 = .pointer (some ⟨b_v2, 0, none⟩) ∧ E 5 = .pointer (some ⟨b_v4_0_4, 0, none⟩) ∧ RepL (RpI .i64) ρ zA_v1_0_L14 cs_zA_v1_0_L14 ∧ RepL (RpI .i64) ρ b_v4_0_4_0_L14 cs_b_v4_0_4_0_L14 ∧ St w0 w (cells b_v1 22 [.slice A_v1_0 v1_0.length c_v1_0] :: cells b_v2 3 [.int .i64 v2_0] :: cells b_v4_0_4 22 [.slice A_b_v4_0_4_0_L14 n_b_v4_0_4_0_L14 c_b_v4_0_4_0_L14] :: cells b_v3 81 [.int .i64 v3.Rows, .int .i64 v3.Cols, .int .i64 v3.Tracks, .slice A_v3_3 v3.Tiles.length c_v3_3, .slice A_v3_4 v3.In.length c_v3_4, .slice A_v3_5 v3.Out.length c_v3_5] :: cells b_v4 147 [.func (.func 155) #[] #[.pointer (some ⟨b_v1, 0, none⟩), .pointer (some ⟨b_v2, 0, none⟩), .pointer (some ⟨b_v3, 0, none⟩), .pointer (some ⟨b_v4, 0, none⟩), .pointer (some ⟨b_v4_0_4, 0, none⟩)]] :: vec 3 (RpI .i64).sz (.slice A_v1_0 v1_0.length c_v1_0) v1_0.length cs_zA_v1_0_L14 :: vec 3 (RpI .i64).sz (.slice A_b_v4_0_4_0_L14 n_b_v4_0_4_0_L14 c_b_v4_0_4_0_L14) n_b_v4_0_4_0_L14 cs_b_v4_0_4_0_L14 :: ro ρ :: l)) ?_ ?_
    · skip -- L14
      refine x_block ?_
      refine x_loop (fun k_ E w => ∃ (cs_zA_v1_0_L14h : List Value) (A_b_v4_0_4_0_L14h : Option Addr) (n_b_v4_0_4_0_L14h : Nat) (c_b_v4_0_4_0_L14h : Nat) (cs_b_v4_0_4_0_L14h : List Value) (y84_L14h : Int) (zA_v1_0_L14h : List Int) (b_v4_0_4_0_L14h : List Int), lp (P_array_order_1_3_L14 v2_0 v3 l8_c30 rc_) k_ (y84_L14h, zA_v1_0_L14h, b_v4_0_4_0_L14h) = some oL14 ∧ E 0 = .int .i64 k0 ∧ E 1 = .pointer (some ⟨b_v1, 0, none⟩) ∧ E 2 = .pointer (some ⟨b_v2, 0, none⟩) ∧ E 4 = .pointer (some ⟨b_v4, 0, none⟩) ∧ E 5 = .pointer (some ⟨b_v4_0_4, 0, none⟩) ∧ E 82 = .slice A_l8_c30 l8_c30.length c_l8_c30 ∧ E 83 = .int .i64 (l8_c30.length : Int) ∧ E 84 = .int .i64 y84_L14h ∧ RepL (RpI .i64) ρ zA_v1_0_L14h cs_zA_v1_0_L14h ∧ RepL (RpI .i64) ρ b_v4_0_4_0_L14h cs_b_v4_0_4_0_L14h ∧ St w0 w (cells b_v1 22 [.slice A_v1_0 v1_0.length c_v1_0] :: cells b_v2 3 [.int .i64 v2_0] :: cells b_v4 147 [.func (.func 155) #[] #[.pointer (some ⟨b_v1, 0, none⟩), .pointer (some ⟨b_v2, 0, none⟩), .pointer (some ⟨b_v3, 0, none⟩), .pointer (some ⟨b_v4, 0, none⟩), .pointer (some ⟨b_v4_0_4, 0, none⟩)]] :: cells b_v4_0_4 22 [.slice A_b_v4_0_4_0_L14h n_b_v4_0_4_0_L14h c_b_v4_0_4_0_L14h] :: vec 3 (RpI .i64).sz (.slice A_l8_c30 l8_c30.length c_l8_c30) l8_c30.length cs_l8_c30 :: cells b_v3 81 [.int .i64 v3.Rows, .int .i64 v3.Cols, .int .i64 v3.Tracks, .slice A_v3_3 v3.Tiles.length c_v3_3, .slice A_v3_4 v3.In.length c_v3_4, .slice A_v3_5 v3.Out.length c_v3_5] :: vec 3 (RpI .i64).sz (.slice A_v1_0 v1_0.length c_v1_0) v1_0.length cs_zA_v1_0_L14h :: vec 3 (RpI .i64).sz (.slice A_b_v4_0_4_0_L14h n_b_v4_0_4_0_L14h c_b_v4_0_4_0_L14h) n_b_v4_0_4_0_L14h cs_b_v4_0_4_0_L14h :: ro ρ :: l)) fuel ⟨cs3_3, A_v4_0_4_0, v4_0_4_0.length, c_v4_0_4_0, cs_v4_0_4_0, 0, z3_3, v4_0_4_0, hLL14, ec30_0, ec30_1, ec30_2, ec30_4, ec30_5, rfl, rfl, rfl, hr3_3, h_v4_0_4_0, (((((((((hS.pull 8).pull 8).pull 8).pull 8).pull 8).pull 8).pull 8).pull 8).pull 8)⟩ ?_
      rintro kL14 E w ⟨cs_zA_v1_0_L14h, A_b_v4_0_4_0_L14h, n_b_v4_0_4_0_L14h, c_b_v4_0_4_0_L14h, cs_b_v4_0_4_0_L14h, y84_L14h, zA_v1_0_L14h, b_v4_0_4_0_L14h, hLL14, eL14h_0, eL14h_1, eL14h_2, eL14h_4, eL14h_5, eL14h_82, eL14h_83, eL14h_84, h_zA_v1_0_L14h, h_b_v4_0_4_0_L14h, hS⟩
      have e_ := St.vec_n (hS.pull 7) h_b_v4_0_4_0_L14h; subst e_
      replace hLL14 := lp_s hLL14; obtain ⟨kL14, obL14, rfl, hFL14, hLL14⟩ := hLL14
      refine x_seq <| x_region <| p (yl_lss eL14h_84 eL14h_83) <| x_done <|
        x_seq <|
        x_cond_p (y84_L14h < (l8_c30.length : Int)) rfl (fun hc85 => ?_) (fun hc85 => ?_)
      · replace hFL14 := it_t hc85 hFL14
        replace hFL14 := ck_s hFL14; obtain ⟨hk15_0, hFL14⟩ := hFL14
        replace hFL14 := lv_s hFL14; obtain ⟨x87, hx87, hFL14⟩ := hFL14
        refine x_skip <| x_seq <| x_block <| x_seq <|
          x_region <| p (yix_o sl_22 eL14h_82 eL14h_84 (hS.pull 4) h_l8_c30 hk15_0) <| pa (at_load one_3 rfl (RepL.getW h_l8_c30 (hS.pull 4) hk15_0 hx87)) <| p (yl_assign rfl) <|
          x_done <| x_seq <| x_region <| p (yl_move rfl) <|
          p (yl_geq rfl rfl) <| p (yl_move rfl) <| pg (v := .func (.func 155) #[] #[.pointer (some ⟨b_v1, 0, none⟩), .pointer (some ⟨b_v2, 0, none⟩), .pointer (some ⟨b_v3, 0, none⟩), .pointer (some ⟨b_v4, 0, none⟩), .pointer (some ⟨b_v4_0_4, 0, none⟩)]) 90 (c := decide (0 ≤ x87)) (says_t _) (fun hq => at_load one_147 eL14h_4 ((hS.pull 2).cell rfl)) <| pg (v := .int .i64 x87) 90 (c := decide (0 ≤ x87)) (says_t _) (fun hq => Yl.at (yl_move rfl)) <|
          ?_
        replace hFL14 := bd_s hFL14; obtain ⟨og16_5, hFg16_5, hFL14⟩ := hFL14
        refine x_join_ops (fun E w => ∃ (cs_zA_v1_0_g16_5 : List Value) (A_b_v4_0_4_0_g16_5 : Option Addr) (n_b_v4_0_4_0_g16_5 : Nat) (c_b_v4_0_4_0_g16_5 : Nat) (cs_b_v4_0_4_0_g16_5 : List Value) (y95_g16_5 : Bool) (zA_v1_0_g16_5 : List Int) (b_v4_0_4_0_g16_5 : List Int), (y95_g16_5, zA_v1_0_g16_5, b_v4_0_4_0_g16_5) = og16_5 ∧ E 0 = .int .i64 k0 ∧ E 1 = .pointer (some ⟨b_v1, 0, none⟩) ∧ E 2 = .pointer (some ⟨b_v2, 0, none⟩) ∧ E 4 = .pointer (some ⟨b_v4, 0, none⟩) ∧ E 5 = .pointer (some ⟨b_v4_0_4, 0, none⟩) ∧ E 82 = .slice A_l8_c30 l8_c30.length c_l8_c30 ∧ E 83 = .int .i64 (l8_c30.length : Int) ∧ E 84 = .int .i64 y84_L14h ∧ E 95 = .bool y95_g16_5 ∧ RepL (RpI .i64) ρ zA_v1_0_g16_5 cs_zA_v1_0_g16_5 ∧ RepL (RpI .i64) ρ b_v4_0_4_0_g16_5 cs_b_v4_0_4_0_g16_5 ∧ St w0 w (cells b_v1 22 [.slice A_v1_0 v1_0.length c_v1_0] :: cells b_v2 3 [.int .i64 v2_0] :: cells b_v4 147 [.func (.func 155) #[] #[.pointer (some ⟨b_v1, 0, none⟩), .pointer (some ⟨b_v2, 0, none⟩), .pointer (some ⟨b_v3, 0, none⟩), .pointer (some ⟨b_v4, 0, none⟩), .pointer (some ⟨b_v4_0_4, 0, none⟩)]] :: cells b_v4_0_4 22 [.slice A_b_v4_0_4_0_g16_5 n_b_v4_0_4_0_g16_5 c_b_v4_0_4_0_g16_5] :: vec 3 (RpI .i64).sz (.slice A_l8_c30 l8_c30.length c_l8_c30) l8_c30.length cs_l8_c30 :: cells b_v3 81 [.int .i64 v3.Rows, .int .i64 v3.Cols, .int .i64 v3.Tracks, .slice A_v3_3 v3.Tiles.length c_v3_3, .slice A_v3_4 v3.In.length c_v3_4, .slice A_v3_5 v3.Out.length c_v3_5] :: vec 3 (RpI .i64).sz (.slice A_v1_0 v1_0.length c_v1_0) v1_0.length cs_zA_v1_0_g16_5 :: vec 3 (RpI .i64).sz (.slice A_b_v4_0_4_0_g16_5 n_b_v4_0_4_0_g16_5 c_b_v4_0_4_0_g16_5) n_b_v4_0_4_0_g16_5 cs_b_v4_0_4_0_g16_5 :: ro ρ :: l)) ?_ ?_
        · skip -- g16_5
          refine x_split (decide (0 ≤ x87)) (fun hg16_5 => ?_) (fun hg16_5 => ?_)
          · replace hFg16_5 := it_t hg16_5 hFg16_5
            replace hFg16_5 := bd_s hFg16_5; obtain ⟨r16_5, hc16_5, hFg16_5⟩ := hFg16_5
            refine o_strip 90 true (says_lit (c := true) (Eq.trans (show _ = Value.bool (decide (0 ≤ x87)) from rfl) (congrArg Value.bool hg16_5)) rfl) <|
              ?_
            have hcall := ih hc16_5 h_zA_v1_0_L14h h_v3_3 h_v3_4 h_v3_5 h_b_v4_0_4_0_L14h ((((((((hS.pull 8).pull 8).pull 5).pull 5).pull 7).pull 6).pull 8).pull 7)
            refine o_ccv (Eq.trans (show _ = (bif decide (0 ≤ x87) then .func (.func 155) #[] #[.pointer (some ⟨b_v1, 0, none⟩), .pointer (some ⟨b_v2, 0, none⟩), .pointer (some ⟨b_v3, 0, none⟩), .pointer (some ⟨b_v4, 0, none⟩), .pointer (some ⟨b_v4_0_4, 0, none⟩)] else undef) from rfl) (cv hg16_5)) call_155 (capargs (args1 (Eq.trans (show _ = (bif decide (0 ≤ x87) then .int .i64 x87 else undef) from rfl) (cv hg16_5)))) hcall ?_
            rintro e w' ⟨cs_zA_v1_0_ret_16_5, A_b_v4_0_4_0_ret_16_5, n_b_v4_0_4_0_ret_16_5, c_b_v4_0_4_0_ret_16_5, cs_b_v4_0_4_0_ret_16_5, rfl, h_zA_v1_0_ret_16_5, h_b_v4_0_4_0_ret_16_5, hS⟩
            refine ⟨_, rfl, ?_⟩
            have e_ := St.vec_n (hS.pull 6) h_b_v4_0_4_0_ret_16_5; subst e_
            refine o_strip 90 true (says_lit (c := true) (Eq.trans (show _ = Value.bool (decide (0 ≤ x87)) from rfl) (congrArg Value.bool hg16_5)) rfl) <| p (yl_not rfl) <| p (yl_pick (b := true) (Eq.trans (show _ = Value.bool (decide (0 ≤ x87)) from rfl) (congrArg Value.bool hg16_5)) (fun h => rfl) (fun h => nomatch h)) <| x_done <|
              ?_
            exact x_inv ⟨cs_zA_v1_0_ret_16_5, A_b_v4_0_4_0_ret_16_5, r16_5.2.2.length, c_b_v4_0_4_0_ret_16_5, cs_b_v4_0_4_0_ret_16_5, !r16_5.1, r16_5.2.1, r16_5.2.2, (Option.some.inj (show some _ = some _ from hFg16_5)), eL14h_0, eL14h_1, eL14h_2, eL14h_4, eL14h_5, eL14h_82, eL14h_83, eL14h_84, rfl, h_zA_v1_0_ret_16_5, h_b_v4_0_4_0_ret_16_5, (((((((((hS.pull 7).pull 7).pull 7).pull 5).pull 8).pull 7).pull 8).pull 8).pull 8)⟩
          · replace hFg16_5 := it_bf hg16_5 hFg16_5
            refine o_pass 93 90 true (says_lit (c := false) (Eq.trans (show _ = Value.bool (decide (0 ≤ x87)) from rfl) (congrArg Value.bool hg16_5)) rfl) <| o_pass 94 90 true (says_lit (c := false) (Eq.trans (show _ = Value.bool (decide (0 ≤ x87)) from rfl) (congrArg Value.bool hg16_5)) rfl) <| p (yl_pick (b := false) (Eq.trans (show _ = Value.bool (decide (0 ≤ x87)) from rfl) (congrArg Value.bool hg16_5)) (fun h => nomatch h) (fun h => rfl)) <| x_done <|
              ?_
            exact x_inv ⟨cs_zA_v1_0_L14h, A_b_v4_0_4_0_L14h, b_v4_0_4_0_L14h.length, c_b_v4_0_4_0_L14h, cs_b_v4_0_4_0_L14h, false, zA_v1_0_L14h, b_v4_0_4_0_L14h, (Option.some.inj (show some _ = some _ from hFg16_5)), eL14h_0, eL14h_1, eL14h_2, eL14h_4, eL14h_5, eL14h_82, eL14h_83, eL14h_84, rfl, h_zA_v1_0_L14h, h_b_v4_0_4_0_L14h, (((((((((hS.pull 8).pull 8).pull 8).pull 8).pull 8).pull 8).pull 8).pull 8).pull 8)⟩
        rintro E w ⟨cs_zA_v1_0_g16_5, A_b_v4_0_4_0_g16_5, n_b_v4_0_4_0_g16_5, c_b_v4_0_4_0_g16_5, cs_b_v4_0_4_0_g16_5, y95_g16_5, zA_v1_0_g16_5, b_v4_0_4_0_g16_5, rfl, eg16_5_0, eg16_5_1, eg16_5_2, eg16_5_4, eg16_5_5, eg16_5_82, eg16_5_83, eg16_5_84, eg16_5_95, h_zA_v1_0_g16_5, h_b_v4_0_4_0_g16_5, hS⟩
        have e_ := St.vec_n (hS.pull 7) h_b_v4_0_4_0_g16_5; subst e_
        refine x_cond (t := y95_g16_5) eg16_5_95 (fun hc95 => ?_) (fun hc95 => ?_)
        · replace hFL14 := it_t hc95 hFL14
          refine x_seq <| x_region <| p (yl_assign rfl) <| x_done <|
            ?_
          have e_ := Option.some.inj (show some _ = some _ from hFL14); subst e_
          have e_ := (show _ = oL14 from hLL14); subst e_
          have e_ := Option.some.inj (show some _ = some _ from hF); subst e_
          exact x_return ⟨_, ⟨_, _, rfl, rfl, rfl⟩, cs_zA_v1_0_g16_5, A_b_v4_0_4_0_g16_5, b_v4_0_4_0_g16_5.length, c_b_v4_0_4_0_g16_5, cs_b_v4_0_4_0_g16_5, rfl, h_zA_v1_0_g16_5, h_b_v4_0_4_0_g16_5, (((((((((hS.pull 4).drop.pull 7).pull 7).pull 7).pull 5).pull 6).pull 7).pull 7).pull 7)⟩
        · replace hFL14 := it_bf hc95 hFL14
          replace hFL14 := ar_s hFL14; obtain ⟨x96, hx96, hFL14⟩ := hFL14
          refine x_skip <| x_blk <| x_region <| p (yadd eg16_5_84 rfl hx96) <|
            p (yl_move rfl) <| x_done <|
            ?_
          have e_ := Option.some.inj (show some _ = some _ from hFL14); subst e_
          exact x_inv ⟨kL14, Nat.lt_succ_self _, cs_zA_v1_0_g16_5, A_b_v4_0_4_0_g16_5, b_v4_0_4_0_g16_5.length, c_b_v4_0_4_0_g16_5, cs_b_v4_0_4_0_g16_5, x96, zA_v1_0_g16_5, b_v4_0_4_0_g16_5, hLL14, eg16_5_0, eg16_5_1, eg16_5_2, eg16_5_4, eg16_5_5, eg16_5_82, eg16_5_83, rfl, h_zA_v1_0_g16_5, h_b_v4_0_4_0_g16_5, (((((((((hS.pull 8).pull 8).pull 8).pull 8).pull 8).pull 8).pull 8).pull 8).pull 8)⟩
      · replace hFL14 := it_f hc85 hFL14
        refine x_exitTo _ rfl <|
          ?_
        have e_ := Option.some.inj (show some _ = some _ from hFL14); subst e_
        exact x_inv ⟨cs_zA_v1_0_L14h, A_b_v4_0_4_0_L14h, b_v4_0_4_0_L14h.length, c_b_v4_0_4_0_L14h, cs_b_v4_0_4_0_L14h, zA_v1_0_L14h, b_v4_0_4_0_L14h, hLL14, eL14h_0, eL14h_1, eL14h_2, eL14h_5, h_zA_v1_0_L14h, h_b_v4_0_4_0_L14h, (((((((((hS.pull 4).drop.pull 7).pull 7).pull 7).pull 5).pull 7).pull 7).pull 7).pull 7)⟩
    rintro E w ⟨cs_zA_v1_0_L14, A_b_v4_0_4_0_L14, n_b_v4_0_4_0_L14, c_b_v4_0_4_0_L14, cs_b_v4_0_4_0_L14, zA_v1_0_L14, b_v4_0_4_0_L14, rfl, eL14_0, eL14_1, eL14_2, eL14_5, h_zA_v1_0_L14, h_b_v4_0_4_0_L14, hS⟩
    have e_ := St.vec_n (hS.pull 6) h_b_v4_0_4_0_L14; subst e_
    replace hF := ck_s hF; obtain ⟨hk19_2, hF⟩ := hF
    refine x_seq <| x_region <| pa (at_load one_22 eL14_1 (hS.cell rfl)) <| p (yl_move eL14_0) <|
      p (yix_o sl_22 rfl rfl (hS.pull 5) h_zA_v1_0_L14 hk19_2) <|
      ?_
    replace hF := lv_s hF; obtain ⟨z19_3, hz19_3, hF⟩ := hF
    refine o_put' (news := [.int .i64 2]) sz_3 rfl rfl rfl rfl (o := 0) rfl hk19_2 rfl (hS.pull 5) h_zA_v1_0_L14 (Le.refl _) (fun c hc => ok_all hc (show (RpI .i64).ok ρ [.int .i64 2] 2 from rfl)) hz19_3 (fun cs19_3 w' hr19_3 hS => ?_)
    refine x_done <| x_seq <| x_seq <| x_region <|
      p (yl_move eL14_0) <| pa (at_load one_3 eL14_2 ((hS.pull 2).cell rfl)) <| p (yl_geq rfl rfl) <| x_done <|
      ?_
    replace hF := bd_s hF; obtain ⟨oc102, hFc102, hF⟩ := hF
    refine x_join (fun E w => ∃ (A_b_v4_0_4_0_c102 : Option Addr) (n_b_v4_0_4_0_c102 : Nat) (c_b_v4_0_4_0_c102 : Nat) (cs_b_v4_0_4_0_c102 : List Value) (b_v4_0_4_0_c102 : List Int), b_v4_0_4_0_c102 = oc102 ∧ RepL (RpI .i64) ρ b_v4_0_4_0_c102 cs_b_v4_0_4_0_c102 ∧ St w0 w (cells b_v1 22 [.slice A_v1_0 v1_0.length c_v1_0] :: cells b_v2 3 [.int .i64 v2_0] :: cells b_v3 81 [.int .i64 v3.Rows, .int .i64 v3.Cols, .int .i64 v3.Tracks, .slice A_v3_3 v3.Tiles.length c_v3_3, .slice A_v3_4 v3.In.length c_v3_4, .slice A_v3_5 v3.Out.length c_v3_5] :: cells b_v4_0_4 22 [.slice A_b_v4_0_4_0_c102 n_b_v4_0_4_0_c102 c_b_v4_0_4_0_c102] :: cells b_v4 147 [.func (.func 155) #[] #[.pointer (some ⟨b_v1, 0, none⟩), .pointer (some ⟨b_v2, 0, none⟩), .pointer (some ⟨b_v3, 0, none⟩), .pointer (some ⟨b_v4, 0, none⟩), .pointer (some ⟨b_v4_0_4, 0, none⟩)]] :: vec 3 (RpI .i64).sz (.slice A_v1_0 v1_0.length c_v1_0) v1_0.length cs19_3 :: vec 3 (RpI .i64).sz (.slice A_b_v4_0_4_0_c102 n_b_v4_0_4_0_c102 c_b_v4_0_4_0_c102) n_b_v4_0_4_0_c102 cs_b_v4_0_4_0_c102 :: ro ρ :: l)) ?_ ?_
    · skip -- c102
      refine x_cond_p (v2_0 ≤ k0) rfl (fun hc102 => ?_) (fun hc102 => ?_)
      · replace hFc102 := it_t hc102 hFc102
        replace hFc102 := ar_s hFc102; obtain ⟨x106, hx106, hFc102⟩ := hFc102
        replace hFc102 := ar_s hFc102; obtain ⟨x107, hx107, hFc102⟩ := hFc102
        refine x_region <| pa (at_load one_22 eL14_5 ((hS.pull 3).cell rfl)) <| p (yl_move eL14_0) <| pa (at_load one_3 eL14_2 ((hS.pull 2).cell rfl)) <|
          p (ysub rfl rfl hx106) <| p (ysub rfl rfl hx107) <|
          ?_
        refine o_buildSlice (vs := [.int .i64 x107]) (cs := [.int .i64 x107]) sl_22 zero_3 (parts_eq (pt (va := .int .i64 x107) rfl pt0)) rfl (by intro v hv; simp only [List.mem_cons, List.not_mem_nil, or_false] at hv; first | (subst hv; rfl) | (rcases hv with rfl <;> rfl)) (by decide) rfl hS (fun b108 w' hS => ?_)
        replace hFc102 := lv_s hFc102; obtain ⟨z21_6, hz21_6, hFc102⟩ := hFc102
        replace hFc102 := ck_s hFc102; obtain ⟨hk21_6, hFc102⟩ := hFc102
        refine o_ap sl_22 zero_3 rfl (by decide) rfl rfl (hS.pull 7) h_b_v4_0_4_0_L14 (src_blk usl_22 hS rfl rfl) (RepL.cons (R := (RpI .i64)) (ρ := ρ) (x := x107) (cs := [.int .i64 x107]) rfl RepL.nil) hz21_6 hk21_6 (fun A109 c109 cs109 w' hr109 hS => ?_)
        refine o_store1 (v := .slice A109 z21_6.length c109) one_22 eL14_5 rfl rfl rfl (hS.pull 5) (fun w' hS => ?_)
        refine x_done <|
          ?_
        exact x_inv ⟨A109, z21_6.length, c109, cs109, z21_6, (Option.some.inj (show some _ = some _ from hFc102)), hr109, (((((((((hS.pull 2).drop.pull 7).pull 2).pull 3).pull 7).pull 4).pull 7).pull 7).pull 7)⟩
      · replace hFc102 := it_f hc102 hFc102
        refine x_region <| pa (at_load one_22 eL14_5 ((hS.pull 3).cell rfl)) <| p (yl_move eL14_0) <|
          ?_
        refine o_buildSlice (vs := [.int .i64 k0]) (cs := [.int .i64 k0]) sl_22 zero_3 (parts_eq (pt (va := .int .i64 k0) rfl pt0)) rfl (by intro v hv; simp only [List.mem_cons, List.not_mem_nil, or_false] at hv; first | (subst hv; rfl) | (rcases hv with rfl <;> rfl)) (by decide) rfl hS (fun b112 w' hS => ?_)
        replace hFc102 := lv_s hFc102; obtain ⟨z22_3, hz22_3, hFc102⟩ := hFc102
        replace hFc102 := ck_s hFc102; obtain ⟨hk22_3, hFc102⟩ := hFc102
        refine o_ap sl_22 zero_3 rfl (by decide) rfl rfl (hS.pull 7) h_b_v4_0_4_0_L14 (src_blk usl_22 hS rfl rfl) (RepL.cons (R := (RpI .i64)) (ρ := ρ) (x := k0) (cs := [.int .i64 k0]) rfl RepL.nil) hz22_3 hk22_3 (fun A113 c113 cs113 w' hr113 hS => ?_)
        refine o_store1 (v := .slice A113 z22_3.length c113) one_22 eL14_5 rfl rfl rfl (hS.pull 5) (fun w' hS => ?_)
        refine x_done <|
          ?_
        exact x_inv ⟨A113, z22_3.length, c113, cs113, z22_3, (Option.some.inj (show some _ = some _ from hFc102)), hr113, (((((((((hS.pull 2).drop.pull 7).pull 2).pull 3).pull 7).pull 4).pull 7).pull 7).pull 7)⟩
    rintro E w ⟨A_b_v4_0_4_0_c102, n_b_v4_0_4_0_c102, c_b_v4_0_4_0_c102, cs_b_v4_0_4_0_c102, b_v4_0_4_0_c102, rfl, h_b_v4_0_4_0_c102, hS⟩
    have e_ := St.vec_n (hS.pull 6) h_b_v4_0_4_0_c102; subst e_
    refine x_seq <| x_region <| p (yl_assign rfl) <| x_done <|
      ?_
    have e_ := Option.some.inj (show some _ = some _ from hF); subst e_
    exact x_return ⟨_, ⟨_, _, rfl, rfl, rfl⟩, cs19_3, A_b_v4_0_4_0_c102, b_v4_0_4_0_c102.length, c_b_v4_0_4_0_c102, cs_b_v4_0_4_0_c102, rfl, hr19_3, h_b_v4_0_4_0_c102, ((((((((hS.pull 7).pull 7).pull 7).pull 7).pull 7).pull 7).pull 7).pull 7)⟩
theorem c_array_order_1_3_n : ∀ (n : Nat), ∀ {w0 w : World} {l : List Assn} {ρ : Heap} {b_v1 : Nat} {A_v1_0 : Option Addr} {n_v1_0 : Nat} {c_v1_0 : Nat} {cs_v1_0 : List Value} {b_v2 : Nat} {b_v3 : Nat} {A_v3_3 : Option Addr} {n_v3_3 : Nat} {c_v3_3 : Nat} {A_v3_4 : Option Addr} {n_v3_4 : Nat} {c_v3_4 : Nat} {A_v3_5 : Option Addr} {n_v3_5 : Nat} {c_v3_5 : Nat} {b_v4 : Nat} {b_v4_0_4 : Nat} {A_v4_0_4_0 : Option Addr} {n_v4_0_4_0 : Nat} {c_v4_0_4_0 : Nat} {cs_v4_0_4_0 : List Value} {k0 : Int} {v1_0 : List Int} {v2_0 : Int} {v3 : T_array_Config} {v4_0_4_0 : List Int} {r : (Bool × List Int × List Int)} (hF : rcf P_array_order_1_3_B n (k0, v1_0, v2_0, v3, v4_0_4_0) = some r) (h_v1_0 : RepL (RpI .i64) ρ v1_0 cs_v1_0) (h_v3_3 : RdS R_array_Tile ρ A_v3_3 n_v3_3 c_v3_3 v3.Tiles) (h_v3_4 : RdS R_array_Pad ρ A_v3_4 n_v3_4 c_v3_4 v3.In) (h_v3_5 : RdS R_array_Pad ρ A_v3_5 n_v3_5 c_v3_5 v3.Out) (h_v4_0_4_0 : RepL (RpI .i64) ρ v4_0_4_0 cs_v4_0_4_0) (hS : St w0 w (cells b_v1 22 [.slice A_v1_0 n_v1_0 c_v1_0] :: vec 3 (RpI .i64).sz (.slice A_v1_0 n_v1_0 c_v1_0) n_v1_0 cs_v1_0 :: cells b_v2 3 [.int .i64 v2_0] :: cells b_v3 81 [.int .i64 v3.Rows, .int .i64 v3.Cols, .int .i64 v3.Tracks, .slice A_v3_3 n_v3_3 c_v3_3, .slice A_v3_4 n_v3_4 c_v3_4, .slice A_v3_5 n_v3_5 c_v3_5] :: cells b_v4 147 [.func (.func 155) #[] #[.pointer (some ⟨b_v1, 0, none⟩), .pointer (some ⟨b_v2, 0, none⟩), .pointer (some ⟨b_v3, 0, none⟩), .pointer (some ⟨b_v4, 0, none⟩), .pointer (some ⟨b_v4_0_4, 0, none⟩)]] :: cells b_v4_0_4 22 [.slice A_v4_0_4_0 n_v4_0_4_0 c_v4_0_4_0] :: vec 3 (RpI .i64).sz (.slice A_v4_0_4_0 n_v4_0_4_0 c_v4_0_4_0) n_v4_0_4_0 cs_v4_0_4_0 :: ro ρ :: l)),
    Calls Try.prog 155 #[.int .i64 k0, .pointer (some ⟨b_v1, 0, none⟩), .pointer (some ⟨b_v2, 0, none⟩), .pointer (some ⟨b_v3, 0, none⟩), .pointer (some ⟨b_v4, 0, none⟩), .pointer (some ⟨b_v4_0_4, 0, none⟩)] w fun e w' => ∃ (cs_zA_v1_0_ret : List Value) (A_b_v4_0_4_0_ret : Option Addr) (n_b_v4_0_4_0_ret : Nat) (c_b_v4_0_4_0_ret : Nat) (cs_b_v4_0_4_0_ret : List Value), e = .returned (.bool r.1) ∧ RepL (RpI .i64) ρ r.2.1 cs_zA_v1_0_ret ∧ RepL (RpI .i64) ρ r.2.2 cs_b_v4_0_4_0_ret ∧ St w0 w' (cells b_v1 22 [.slice A_v1_0 n_v1_0 c_v1_0] :: cells b_v2 3 [.int .i64 v2_0] :: cells b_v3 81 [.int .i64 v3.Rows, .int .i64 v3.Cols, .int .i64 v3.Tracks, .slice A_v3_3 n_v3_3 c_v3_3, .slice A_v3_4 n_v3_4 c_v3_4, .slice A_v3_5 n_v3_5 c_v3_5] :: cells b_v4_0_4 22 [.slice A_b_v4_0_4_0_ret n_b_v4_0_4_0_ret c_b_v4_0_4_0_ret] :: cells b_v4 147 [.func (.func 155) #[] #[.pointer (some ⟨b_v1, 0, none⟩), .pointer (some ⟨b_v2, 0, none⟩), .pointer (some ⟨b_v3, 0, none⟩), .pointer (some ⟨b_v4, 0, none⟩), .pointer (some ⟨b_v4_0_4, 0, none⟩)]] :: vec 3 (RpI .i64).sz (.slice A_v1_0 n_v1_0 c_v1_0) n_v1_0 cs_zA_v1_0_ret :: vec 3 (RpI .i64).sz (.slice A_b_v4_0_4_0_ret n_b_v4_0_4_0_ret c_b_v4_0_4_0_ret) n_b_v4_0_4_0_ret cs_b_v4_0_4_0_ret :: ro ρ :: l)
  | 0 => by intros; rename_i hF _; cases (show none = some _ from by first | exact hF | assumption)
  | n + 1 => c_array_order_1_3_s (rcf P_array_order_1_3_B n) (c_array_order_1_3_n n)
theorem c_array_order_1_3 {w0 w : World} {l : List Assn} {ρ : Heap} {b_v1 : Nat} {A_v1_0 : Option Addr} {n_v1_0 : Nat} {c_v1_0 : Nat} {cs_v1_0 : List Value} {b_v2 : Nat} {b_v3 : Nat} {A_v3_3 : Option Addr} {n_v3_3 : Nat} {c_v3_3 : Nat} {A_v3_4 : Option Addr} {n_v3_4 : Nat} {c_v3_4 : Nat} {A_v3_5 : Option Addr} {n_v3_5 : Nat} {c_v3_5 : Nat} {b_v4 : Nat} {b_v4_0_4 : Nat} {A_v4_0_4_0 : Option Addr} {n_v4_0_4_0 : Nat} {c_v4_0_4_0 : Nat} {cs_v4_0_4_0 : List Value} {k0 : Int} {v1_0 : List Int} {v2_0 : Int} {v3 : T_array_Config} {v4_0_4_0 : List Int} {r : (Bool × List Int × List Int)} (hF : P_array_order_1_3 k0 v1_0 v2_0 v3 v4_0_4_0 = some r) (h_v1_0 : RepL (RpI .i64) ρ v1_0 cs_v1_0) (h_v3_3 : RdS R_array_Tile ρ A_v3_3 n_v3_3 c_v3_3 v3.Tiles) (h_v3_4 : RdS R_array_Pad ρ A_v3_4 n_v3_4 c_v3_4 v3.In) (h_v3_5 : RdS R_array_Pad ρ A_v3_5 n_v3_5 c_v3_5 v3.Out) (h_v4_0_4_0 : RepL (RpI .i64) ρ v4_0_4_0 cs_v4_0_4_0) (hS : St w0 w (cells b_v1 22 [.slice A_v1_0 n_v1_0 c_v1_0] :: vec 3 (RpI .i64).sz (.slice A_v1_0 n_v1_0 c_v1_0) n_v1_0 cs_v1_0 :: cells b_v2 3 [.int .i64 v2_0] :: cells b_v3 81 [.int .i64 v3.Rows, .int .i64 v3.Cols, .int .i64 v3.Tracks, .slice A_v3_3 n_v3_3 c_v3_3, .slice A_v3_4 n_v3_4 c_v3_4, .slice A_v3_5 n_v3_5 c_v3_5] :: cells b_v4 147 [.func (.func 155) #[] #[.pointer (some ⟨b_v1, 0, none⟩), .pointer (some ⟨b_v2, 0, none⟩), .pointer (some ⟨b_v3, 0, none⟩), .pointer (some ⟨b_v4, 0, none⟩), .pointer (some ⟨b_v4_0_4, 0, none⟩)]] :: cells b_v4_0_4 22 [.slice A_v4_0_4_0 n_v4_0_4_0 c_v4_0_4_0] :: vec 3 (RpI .i64).sz (.slice A_v4_0_4_0 n_v4_0_4_0 c_v4_0_4_0) n_v4_0_4_0 cs_v4_0_4_0 :: ro ρ :: l)) :
    Calls Try.prog 155 #[.int .i64 k0, .pointer (some ⟨b_v1, 0, none⟩), .pointer (some ⟨b_v2, 0, none⟩), .pointer (some ⟨b_v3, 0, none⟩), .pointer (some ⟨b_v4, 0, none⟩), .pointer (some ⟨b_v4_0_4, 0, none⟩)] w fun e w' => ∃ (cs_zA_v1_0_ret : List Value) (A_b_v4_0_4_0_ret : Option Addr) (n_b_v4_0_4_0_ret : Nat) (c_b_v4_0_4_0_ret : Nat) (cs_b_v4_0_4_0_ret : List Value), e = .returned (.bool r.1) ∧ RepL (RpI .i64) ρ r.2.1 cs_zA_v1_0_ret ∧ RepL (RpI .i64) ρ r.2.2 cs_b_v4_0_4_0_ret ∧ St w0 w' (cells b_v1 22 [.slice A_v1_0 n_v1_0 c_v1_0] :: cells b_v2 3 [.int .i64 v2_0] :: cells b_v3 81 [.int .i64 v3.Rows, .int .i64 v3.Cols, .int .i64 v3.Tracks, .slice A_v3_3 n_v3_3 c_v3_3, .slice A_v3_4 n_v3_4 c_v3_4, .slice A_v3_5 n_v3_5 c_v3_5] :: cells b_v4_0_4 22 [.slice A_b_v4_0_4_0_ret n_b_v4_0_4_0_ret c_b_v4_0_4_0_ret] :: cells b_v4 147 [.func (.func 155) #[] #[.pointer (some ⟨b_v1, 0, none⟩), .pointer (some ⟨b_v2, 0, none⟩), .pointer (some ⟨b_v3, 0, none⟩), .pointer (some ⟨b_v4, 0, none⟩), .pointer (some ⟨b_v4_0_4, 0, none⟩)]] :: vec 3 (RpI .i64).sz (.slice A_v1_0 n_v1_0 c_v1_0) n_v1_0 cs_zA_v1_0_ret :: vec 3 (RpI .i64).sz (.slice A_b_v4_0_4_0_ret n_b_v4_0_4_0_ret c_b_v4_0_4_0_ret) n_b_v4_0_4_0_ret cs_b_v4_0_4_0_ret :: ro ρ :: l) := c_array_order_1_3_n fuel hF h_v1_0 h_v3_3 h_v3_4 h_v3_5 h_v4_0_4_0 hS
attribute [irreducible] P_array_order_1_3

def P_array_order_L7 (c0 : T_array_Config) (x15 : Int) (z2_5 : List Int) : (Int × List Int × List Int) → Option ((Int × List Int × List Int) ⊕ (List Int ⊕ (List Int × Bool))) := fun (y25_L7h, b6_0_L7h, b5_0_L7h) =>
  if y25_L7h < (z2_5.length : Int) then
    bd (P_array_order_1_3 y25_L7h b5_0_L7h x15 c0 b6_0_L7h) fun r9_2 =>
    if (!r9_2.1) = true then
      some (Sum.inr (Sum.inr ([], false)))
    else
      ar (y25_L7h + 1) fun x32 =>
      some (Sum.inl (x32, r9_2.2.2, r9_2.2.1))
  else
    some (Sum.inr (Sum.inl b6_0_L7h))
def P_array_order (c0 : T_array_Config) : Option (List Int × Bool) :=
  ar ((c0.Tiles.length : Int) * 4) fun x12 =>
  ar (x12 * c0.Tracks) fun x15 =>
  ar (x15 + (c0.Tiles.length : Int)) fun x20 =>
  ck (mkOk 8 x20) <|
  lv ((List.replicate (x20 : Int).toNat 0 : List Int)) fun z2_5 =>
  bs (
    lp (P_array_order_L7 c0 x15 z2_5) fuel (0, [], z2_5)) (fun y => some y) fun b6_0_L7 =>
  some (b6_0_L7, true)
set_option maxHeartbeats 4000000 in
set_option maxRecDepth 100000 in
theorem c_array_order {w0 w : World} {l : List Assn} {ρ : Heap} {A_c0_3 : Option Addr} {n_c0_3 : Nat} {c_c0_3 : Nat} {A_c0_4 : Option Addr} {n_c0_4 : Nat} {c_c0_4 : Nat} {A_c0_5 : Option Addr} {n_c0_5 : Nat} {c_c0_5 : Nat} {c0 : T_array_Config} {r : (List Int × Bool)} (hF : P_array_order c0 = some r) (h_c0_3 : RdS R_array_Tile ρ A_c0_3 n_c0_3 c_c0_3 c0.Tiles) (h_c0_4 : RdS R_array_Pad ρ A_c0_4 n_c0_4 c_c0_4 c0.In) (h_c0_5 : RdS R_array_Pad ρ A_c0_5 n_c0_5 c_c0_5 c0.Out) (hS : St w0 w (ro ρ :: l)) :
    Calls Try.prog 132 #[.agg #[.int .i64 c0.Rows, .int .i64 c0.Cols, .int .i64 c0.Tracks, .slice A_c0_3 n_c0_3 c_c0_3, .slice A_c0_4 n_c0_4 c_c0_4, .slice A_c0_5 n_c0_5 c_c0_5]] w fun e w' => ∃ (A_y0_ret : Option Addr) (n_y0_ret : Nat) (c_y0_ret : Nat) (cs_y0_ret : List Value), e = .returned (.tuple #[.slice A_y0_ret n_y0_ret c_y0_ret, .bool r.2]) ∧ RepL (RpI .i64) ρ r.1 cs_y0_ret ∧ St w0 w' (vec 3 (RpI .i64).sz (.slice A_y0_ret n_y0_ret c_y0_ret) n_y0_ret cs_y0_ret :: ro ρ :: l) := by
  have e_ := h_c0_3.n; subst e_
  have e_ := h_c0_4.n; subst e_
  have e_ := h_c0_5.n; subst e_
  refine enterC Try.func132 rfl 34 rfl (by simp) ?_
  refine x_seq <| x_region <|
    ?_
  refine o_box (cs := [.int .i64 c0.Rows, .int .i64 c0.Cols, .int .i64 c0.Tracks, .slice A_c0_3 c0.Tiles.length c_c0_3, .slice A_c0_4 c0.In.length c_c0_4, .slice A_c0_5 c0.Out.length c_c0_5]) rfl rfl hS (fun b1 w' hS => ?_)
  replace hF := ar_s hF; obtain ⟨x12, hx12, hF⟩ := hF
  replace hF := ar_s hF; obtain ⟨x15, hx15, hF⟩ := hF
  refine p (yl_assign rfl) <| p (yl_assign rfl) <| x_done <| x_seq <|
    x_region <| p (yl_field0 fld_81_3 rfl) <| pa (at_load one_78 rfl (hS.cell rfl)) <| p (yl_len_slice usl_78 rfl) <|
    p (ymul rfl rfl hx12) <| p (yl_field0 fld_81_2 rfl) <| pa (at_load one_3 rfl (hS.cell rfl)) <| p (ymul rfl rfl hx15) <|
    ?_
  refine o_alloc zero_3 hS (fun b4 w' hS => ?_)
  refine o_store1 (v := .int .i64 x15) one_3 rfl rfl rfl rfl hS (fun w' hS => ?_)
  replace hF := ar_s hF; obtain ⟨x20, hx20, hF⟩ := hF
  refine x_done <| x_seq <| x_region <| pa (at_load one_3 rfl (hS.cell rfl)) <|
    p (yl_field0 fld_81_3 rfl) <| pa (at_load one_78 rfl ((hS.pull 1).cell rfl)) <| p (yl_len_slice usl_78 rfl) <| p (yadd rfl rfl hx20) <|
    ?_
  replace hF := ck_s hF; obtain ⟨hk2_5, hF⟩ := hF
  replace hF := lv_s hF; obtain ⟨z2_5, hz2_5, hF⟩ := hF
  refine o_mk sl_22 zero_3 (show (RpI .i64).ok ρ _ 0 from rfl) rfl rfl hk2_5 (by decide) hz2_5 hS (fun A21 cs21 w' hr21 hS => ?_)
  refine o_alloc zero_22 hS (fun b5 w' hS => ?_)
  refine o_store1 (v := .slice A21 z2_5.length z2_5.length) one_22 rfl rfl rfl rfl hS (fun w' hS => ?_)
  refine x_done <| x_seq <| x_region <|
    ?_
  refine o_alloc zero_22 hS (fun b6 w' hS => ?_)
  refine x_done <| x_seq <| x_region <|
    ?_
  refine o_alloc zero_147 hS (fun b7 w' hS => ?_)
  refine x_done <| x_seq <| x_region <| p (v := .func (.func 155) #[] #[.pointer (some ⟨b5, 0, none⟩), .pointer (some ⟨b4, 0, none⟩), .pointer (some ⟨b1, 0, none⟩), .pointer (some ⟨b7, 0, none⟩), .pointer (some ⟨b6, 0, none⟩)]) (yl_makeFunc (by simp only [List.map_toArray, List.map_nil]) (by simp only [List.map_toArray, List.map_cons, List.map_nil]; rfl)) <|
    ?_
  refine o_store1 (v := .func (.func 155) #[] #[.pointer (some ⟨b5, 0, none⟩), .pointer (some ⟨b4, 0, none⟩), .pointer (some ⟨b1, 0, none⟩), .pointer (some ⟨b7, 0, none⟩), .pointer (some ⟨b6, 0, none⟩)]) one_147 rfl rfl rfl rfl hS (fun w' hS => ?_)
  refine x_done <| x_seq <| x_seq <| x_region <|
    pa (at_load one_22 rfl ((hS.pull 2).cell rfl)) <| p (yl_len_slice usl_22 rfl) <| p (yl_move rfl) <| x_done <|
    ?_
  replace hF := bs_s hF; obtain ⟨oL7, hLL7, hF⟩ := hF
  refine x_join (fun E w => ∃ (A_b6_0_L7 : Option Addr) (n_b6_0_L7 : Nat) (c_b6_0_L7 : Nat) (cs_b6_0_L7 : List Value) (b6_0_L7 : List Int), (Sum.inl b6_0_L7) = oL7 ∧ E 6 = .pointer (some ⟨b6, 0, none⟩) ∧ RepL (RpI .i64) ρ b6_0_L7 cs_b6_0_L7 ∧ St w0 w (cells b6 22 [.slice A_b6_0_L7 n_b6_0_L7 c_b6_0_L7] :: vec 3 (RpI .i64).sz (.slice A_b6_0_L7 n_b6_0_L7 c_b6_0_L7) n_b6_0_L7 cs_b6_0_L7 :: ro ρ :: l)) ?_ ?_
  · skip -- L7
    refine x_block ?_
    replace hS := St.vec_nil hS 3 (RpI .i64).sz
    have hnil_A_b6_0_L7h : RepL (RpI .i64) ρ [] [] := rfl
    refine x_loop (fun k_ E w => ∃ (A_b6_0_L7h : Option Addr) (n_b6_0_L7h : Nat) (c_b6_0_L7h : Nat) (cs_b6_0_L7h : List Value) (cs_b5_0_L7h : List Value) (y25_L7h : Int) (b6_0_L7h : List Int) (b5_0_L7h : List Int), lp (P_array_order_L7 c0 x15 z2_5) k_ (y25_L7h, b6_0_L7h, b5_0_L7h) = some oL7 ∧ E 6 = .pointer (some ⟨b6, 0, none⟩) ∧ E 7 = .pointer (some ⟨b7, 0, none⟩) ∧ E 24 = .int .i64 (z2_5.length : Int) ∧ E 25 = .int .i64 y25_L7h ∧ RepL (RpI .i64) ρ b6_0_L7h cs_b6_0_L7h ∧ RepL (RpI .i64) ρ b5_0_L7h cs_b5_0_L7h ∧ St w0 w (cells b6 22 [.slice A_b6_0_L7h n_b6_0_L7h c_b6_0_L7h] :: cells b7 147 [.func (.func 155) #[] #[.pointer (some ⟨b5, 0, none⟩), .pointer (some ⟨b4, 0, none⟩), .pointer (some ⟨b1, 0, none⟩), .pointer (some ⟨b7, 0, none⟩), .pointer (some ⟨b6, 0, none⟩)]] :: vec 3 (RpI .i64).sz (.slice A_b6_0_L7h n_b6_0_L7h c_b6_0_L7h) n_b6_0_L7h cs_b6_0_L7h :: cells b5 22 [.slice A21 z2_5.length z2_5.length] :: cells b4 3 [.int .i64 x15] :: cells b1 81 [.int .i64 c0.Rows, .int .i64 c0.Cols, .int .i64 c0.Tracks, .slice A_c0_3 c0.Tiles.length c_c0_3, .slice A_c0_4 c0.In.length c_c0_4, .slice A_c0_5 c0.Out.length c_c0_5] :: vec 3 (RpI .i64).sz (.slice A21 z2_5.length z2_5.length) z2_5.length cs_b5_0_L7h :: ro ρ :: l)) fuel ⟨none, 0, 0, [], cs21, 0, [], z2_5, hLL7, rfl, rfl, rfl, rfl, hnil_A_b6_0_L7h, hr21, ((((((((hS.pull 7).pull 5).pull 7).pull 7).pull 7).pull 5).pull 6).pull 7)⟩ ?_
    rintro kL7 E w ⟨A_b6_0_L7h, n_b6_0_L7h, c_b6_0_L7h, cs_b6_0_L7h, cs_b5_0_L7h, y25_L7h, b6_0_L7h, b5_0_L7h, hLL7, eL7h_6, eL7h_7, eL7h_24, eL7h_25, h_b6_0_L7h, h_b5_0_L7h, hS⟩
    have e_ := St.vec_n (hS.pull 2) h_b6_0_L7h; subst e_
    replace hLL7 := lp_s hLL7; obtain ⟨kL7, obL7, rfl, hFL7, hLL7⟩ := hLL7
    refine x_seq <| x_region <| p (yl_lss eL7h_25 eL7h_24) <| x_done <|
      x_seq <|
      x_cond_p (y25_L7h < (z2_5.length : Int)) rfl (fun hc26 => ?_) (fun hc26 => ?_)
    · replace hFL7 := it_t hc26 hFL7
      replace hFL7 := bd_s hFL7; obtain ⟨r9_2, hc9_2, hFL7⟩ := hFL7
      refine x_skip <| x_seq <| x_block <| x_seq <|
        x_region <| p (yl_move eL7h_25) <| p (yl_assign rfl) <| x_done <|
        x_seq <| x_region <| pa (at_load one_147 eL7h_7 ((hS.pull 1).cell rfl)) <| p (yl_move rfl) <|
        ?_
      have hcall := c_array_order_1_3 hc9_2 h_b5_0_L7h h_c0_3 h_c0_4 h_c0_5 h_b6_0_L7h ((((((((hS.pull 7).pull 3).pull 2).pull 3).pull 6).pull 6).pull 7).pull 7)
      refine o_ccv rfl call_155 (capargs (args1 rfl)) hcall ?_
      rintro e w' ⟨cs_zA_v1_0_ret_9_2, A_b_v4_0_4_0_ret_9_2, n_b_v4_0_4_0_ret_9_2, c_b_v4_0_4_0_ret_9_2, cs_b_v4_0_4_0_ret_9_2, rfl, h_zA_v1_0_ret_9_2, h_b_v4_0_4_0_ret_9_2, hS⟩
      refine ⟨_, rfl, ?_⟩
      have e_ := St.vec_n (hS.pull 6) h_b_v4_0_4_0_ret_9_2; subst e_
      refine p (yl_not rfl) <| x_done <|
        x_cond (t := !r9_2.1) rfl (fun hc31 => ?_) (fun hc31 => ?_)
      · replace hFL7 := it_t hc31 hFL7
        refine x_seq <| x_region <| p (yl_assign rfl) <| p (yl_assign rfl) <|
          x_done <|
          ?_
        replace hS := St.vec_nil hS 3 (RpI .i64).sz
        have hnil_A_y0_ret : RepL (RpI .i64) ρ [] [] := rfl
        have e_ := Option.some.inj (show some _ = some _ from hFL7); subst e_
        have e_ := (show _ = oL7 from hLL7); subst e_
        have e_ := Option.some.inj (show some _ = some _ from hF); subst e_
        exact x_return ⟨_, ⟨_, _, rfl, rfl, _, _, rfl, rfl, rfl⟩, none, 0, 0, [], rfl, hnil_A_y0_ret, (((((((((hS.pull 1).drop.pull 1).drop.pull 1).drop.pull 1).drop.pull 1).drop.pull 1).drop.pull 1).drop.pull 1).pull 1)⟩
      · replace hFL7 := it_bf hc31 hFL7
        replace hFL7 := ar_s hFL7; obtain ⟨x32, hx32, hFL7⟩ := hFL7
        refine x_skip <| x_blk <| x_region <| p (yadd eL7h_25 rfl hx32) <|
          p (yl_move rfl) <| x_done <|
          ?_
        have e_ := Option.some.inj (show some _ = some _ from hFL7); subst e_
        exact x_inv ⟨kL7, Nat.lt_succ_self _, A_b_v4_0_4_0_ret_9_2, r9_2.2.2.length, c_b_v4_0_4_0_ret_9_2, cs_b_v4_0_4_0_ret_9_2, cs_zA_v1_0_ret_9_2, x32, r9_2.2.2, r9_2.2.1, hLL7, eL7h_6, eL7h_7, eL7h_24, rfl, h_b_v4_0_4_0_ret_9_2, h_zA_v1_0_ret_9_2, ((((((((hS.pull 7).pull 6).pull 4).pull 4).pull 4).pull 7).pull 7).pull 7)⟩
    · replace hFL7 := it_f hc26 hFL7
      refine x_exitTo _ rfl <|
        ?_
      have e_ := Option.some.inj (show some _ = some _ from hFL7); subst e_
      exact x_inv ⟨A_b6_0_L7h, b6_0_L7h.length, c_b6_0_L7h, cs_b6_0_L7h, b6_0_L7h, hLL7, eL7h_6, h_b6_0_L7h, ((((((((hS.pull 1).drop.pull 2).drop.pull 2).drop.pull 2).drop.pull 2).drop.pull 2).pull 2).pull 2)⟩
  rintro E w ⟨A_b6_0_L7, n_b6_0_L7, c_b6_0_L7, cs_b6_0_L7, b6_0_L7, rfl, eL7_6, h_b6_0_L7, hS⟩
  have e_ := St.vec_n (hS.pull 1) h_b6_0_L7; subst e_
  refine x_seq <| x_region <| pa (at_load one_22 eL7_6 (hS.cell rfl)) <| p (yl_assign rfl) <|
    p (yl_assign rfl) <| x_done <|
    ?_
  have e_ := Option.some.inj (show some _ = some _ from hF); subst e_
  exact x_return ⟨_, ⟨_, _, rfl, rfl, _, _, rfl, rfl, rfl⟩, A_b6_0_L7, b6_0_L7.length, c_b6_0_L7, cs_b6_0_L7, rfl, h_b6_0_L7, ((hS.drop.pull 1).pull 1)⟩
attribute [irreducible] P_array_order

def P_array_Check_L24u4 (y7_1 : T_array_Tile) : Int → Option (Int ⊕ (Unit ⊕ Int)) := fun y81_L24u4h =>
  if y81_L24u4h < (y7_1.Out.fe0.length : Int) then
    ck (inb y81_L24u4h y7_1.Out.fe0.length) <|
    lv (gt y7_1.Out.fe0 y81_L24u4h) fun x84u4 =>
    bd (P_array_within x84u4 0 6) fun r26_1u4 =>
    lv ((!r26_1u4) || (decide (x84u4 = 3))) fun x93u4 =>
    if x93u4 = true then
      some (Sum.inr (Sum.inr (2 : Int)))
    else
      ar (y81_L24u4h + 1) fun x94u4 =>
      some (Sum.inl x94u4)
  else
    some (Sum.inr (Sum.inl ()))
def P_array_Check_L24u3 (y7_1 : T_array_Tile) : Int → Option (Int ⊕ (Unit ⊕ Int)) := fun y81_L24u3h =>
  if y81_L24u3h < (y7_1.Out.fe1.length : Int) then
    ck (inb y81_L24u3h y7_1.Out.fe1.length) <|
    lv (gt y7_1.Out.fe1 y81_L24u3h) fun x84u3 =>
    bd (P_array_within x84u3 0 6) fun r26_1u3 =>
    lv ((!r26_1u3) || (decide (x84u3 = 4))) fun x93u3 =>
    if x93u3 = true then
      some (Sum.inr (Sum.inr (2 : Int)))
    else
      ar (y81_L24u3h + 1) fun x94u3 =>
      some (Sum.inl x94u3)
  else
    some (Sum.inr (Sum.inl ()))
def P_array_Check_L24u2 (y7_1 : T_array_Tile) : Int → Option (Int ⊕ (Unit ⊕ Int)) := fun y81_L24u2h =>
  if y81_L24u2h < (y7_1.Out.fe2.length : Int) then
    ck (inb y81_L24u2h y7_1.Out.fe2.length) <|
    lv (gt y7_1.Out.fe2 y81_L24u2h) fun x84u2 =>
    bd (P_array_within x84u2 0 6) fun r26_1u2 =>
    lv ((!r26_1u2) || (decide (x84u2 = 5))) fun x93u2 =>
    if x93u2 = true then
      some (Sum.inr (Sum.inr (2 : Int)))
    else
      ar (y81_L24u2h + 1) fun x94u2 =>
      some (Sum.inl x94u2)
  else
    some (Sum.inr (Sum.inl ()))
def P_array_Check_L24u1 (y7_1 : T_array_Tile) : Int → Option (Int ⊕ (Unit ⊕ Int)) := fun y81_L24u1h =>
  if y81_L24u1h < (y7_1.Out.fe3.length : Int) then
    ck (inb y81_L24u1h y7_1.Out.fe3.length) <|
    lv (gt y7_1.Out.fe3 y81_L24u1h) fun x84u1 =>
    bd (P_array_within x84u1 0 6) fun r26_1u1 =>
    lv ((!r26_1u1) || (decide (x84u1 = 6))) fun x93u1 =>
    if x93u1 = true then
      some (Sum.inr (Sum.inr (2 : Int)))
    else
      ar (y81_L24u1h + 1) fun x94u1 =>
      some (Sum.inl x94u1)
  else
    some (Sum.inr (Sum.inl ()))
def P_array_Check_L6 (c0 : T_array_Config) : Int → Option (Int ⊕ (Unit ⊕ Int)) := fun y45_L6h =>
  if y45_L6h < (c0.Tiles.length : Int) then
    ck (inb y45_L6h c0.Tiles.length) <|
    lv (gt c0.Tiles y45_L6h) fun y7_1 =>
    if (y7_1.Out.fe0.length : Int) ≠ c0.Tracks then
      some (Sum.inr (Sum.inr (4 : Int)))
    else
      if (y7_1.Out.fe1.length : Int) ≠ c0.Tracks then
        some (Sum.inr (Sum.inr (4 : Int)))
      else
        if (y7_1.Out.fe2.length : Int) ≠ c0.Tracks then
          some (Sum.inr (Sum.inr (4 : Int)))
        else
          if (y7_1.Out.fe3.length : Int) ≠ c0.Tracks then
            some (Sum.inr (Sum.inr (4 : Int)))
          else
            ar ((4 : Int) * c0.Tracks) fun x68u4 =>
            ar ((1 : Int) + x68u4) fun x69u4 =>
            bd (P_array_within y7_1.In.fe0 0 x69u4) fun r17_5u4 =>
            if (!r17_5u4) = true then
              some (Sum.inr (Sum.inr (2 : Int)))
            else
              ar ((4 : Int) * c0.Tracks) fun x68u3 =>
              ar ((1 : Int) + x68u3) fun x69u3 =>
              bd (P_array_within y7_1.In.fe1 0 x69u3) fun r17_5u3 =>
              if (!r17_5u3) = true then
                some (Sum.inr (Sum.inr (2 : Int)))
              else
                ar ((4 : Int) * c0.Tracks) fun x68u2 =>
                ar ((1 : Int) + x68u2) fun x69u2 =>
                bd (P_array_within y7_1.In.fe2 0 x69u2) fun r17_5u2 =>
                if (!r17_5u2) = true then
                  some (Sum.inr (Sum.inr (2 : Int)))
                else
                  ar ((4 : Int) * c0.Tracks) fun x68u1 =>
                  ar ((1 : Int) + x68u1) fun x69u1 =>
                  bd (P_array_within y7_1.In.fe3 0 x69u1) fun r17_5u1 =>
                  if (!r17_5u1) = true then
                    some (Sum.inr (Sum.inr (2 : Int)))
                  else
                    bs (
                      lp (P_array_Check_L24u4 y7_1) fuel 0) (fun y => some (Sum.inr (Sum.inr y))) fun _ =>
                    bs (
                      lp (P_array_Check_L24u3 y7_1) fuel 0) (fun y => some (Sum.inr (Sum.inr y))) fun _ =>
                    bs (
                      lp (P_array_Check_L24u2 y7_1) fuel 0) (fun y => some (Sum.inr (Sum.inr y))) fun _ =>
                    bs (
                      lp (P_array_Check_L24u1 y7_1) fuel 0) (fun y => some (Sum.inr (Sum.inr y))) fun _ =>
                    ar (y45_L6h + 1) fun x96 =>
                    some (Sum.inl x96)
  else
    some (Sum.inr (Sum.inl ()))
def P_array_Check (c0 : T_array_Config) : Option Int :=
  bd (P_array_within c0.Rows 1 16) fun r1_2 =>
  bd (gd (!(!r1_2)) (P_array_within c0.Cols 1 16)) fun r1_7 =>
  lv ((!r1_2) || (!r1_7)) fun x26 =>
  bd (gd (!x26) (P_array_within c0.Tracks 2 8)) fun r1_13 =>
  lv (x26 || (!r1_13)) fun x32 =>
  if x32 = true then
    some (2 : Int)
  else
    ar (c0.Rows * c0.Cols) fun x40 =>
    if (c0.Tiles.length : Int) ≠ x40 then
      some (4 : Int)
    else
      bs (
        lp (P_array_Check_L6 c0) fuel 0) (fun y => some y) fun _ =>
      lv ((decide (128 < (c0.In.length : Int))) || (decide (128 < (c0.Out.length : Int)))) fun x106 =>
      if x106 = true then
        some (3 : Int)
      else
        bd (P_array_pads c0 c0.In) fun r33_3 =>
        if r33_3 ≠ 0 then
          some r33_3
        else
          bd (P_array_pads c0 c0.Out) fun r36_3 =>
          if r36_3 ≠ 0 then
            some r36_3
          else
            bd (P_array_order c0) fun r39_1 =>
            if (!r39_1.2) = true then
              some (17 : Int)
            else
              some (0 : Int)
set_option maxHeartbeats 4000000 in
set_option maxRecDepth 100000 in
theorem c_array_Check {w0 w : World} {l : List Assn} {ρ : Heap} {A_c0_3 : Option Addr} {n_c0_3 : Nat} {c_c0_3 : Nat} {A_c0_4 : Option Addr} {n_c0_4 : Nat} {c_c0_4 : Nat} {A_c0_5 : Option Addr} {n_c0_5 : Nat} {c_c0_5 : Nat} {c0 : T_array_Config} {r : Int} (hF : P_array_Check c0 = some r) (h_c0_3 : RdS R_array_Tile ρ A_c0_3 n_c0_3 c_c0_3 c0.Tiles) (h_c0_4 : RdS R_array_Pad ρ A_c0_4 n_c0_4 c_c0_4 c0.In) (h_c0_5 : RdS R_array_Pad ρ A_c0_5 n_c0_5 c_c0_5 c0.Out) (hS : St w0 w (ro ρ :: l)) :
    Calls Try.prog 87 #[.agg #[.int .i64 c0.Rows, .int .i64 c0.Cols, .int .i64 c0.Tracks, .slice A_c0_3 n_c0_3 c_c0_3, .slice A_c0_4 n_c0_4 c_c0_4, .slice A_c0_5 n_c0_5 c_c0_5]] w fun e w' => e = .returned (.int .i64 r) ∧ St w0 w' (ro ρ :: l) := by
  have e_ := h_c0_3.n; subst e_
  have e_ := h_c0_4.n; subst e_
  have e_ := h_c0_5.n; subst e_
  refine enterC Try.func87 rfl 128 rfl (by simp) ?_
  refine x_seq <| x_region <|
    ?_
  refine o_box (cs := [.int .i64 c0.Rows, .int .i64 c0.Cols, .int .i64 c0.Tracks, .slice A_c0_3 c0.Tiles.length c_c0_3, .slice A_c0_4 c0.In.length c_c0_4, .slice A_c0_5 c0.Out.length c_c0_5]) rfl rfl hS (fun b1 w' hS => ?_)
  replace hF := bd_s hF; obtain ⟨r1_2, hc1_2, hF⟩ := hF
  refine p (yl_assign rfl) <| x_done <| x_seq <| x_seq <|
    x_region <| p (yl_field0 fld_81_0 rfl) <| pa (at_load one_3 rfl (hS.cell rfl)) <|
    ?_
  have hcall := c_array_within hc1_2  (hS.pull 1)
  refine o_cc call_130 (args3 rfl rfl rfl) ((Calls.mono hcall (fun e w'' h => And.intro h.1 (h.2.pull 1)))) ?_
  rintro e w' ⟨rfl, hS⟩
  refine ⟨_, rfl, ?_⟩
  replace hF := bd_s hF; obtain ⟨r1_7, hc1_7, hF⟩ := hF
  refine p (yl_not rfl) <| p (yl_move rfl) <| pg (v := .pointer (some ⟨b1, 1, none⟩)) 21 (c := !(!r1_2)) (says_f _) (fun hq => Yl.at (yl_field0 fld_81_1 rfl)) <| pg (v := .int .i64 c0.Cols) 21 (c := !(!r1_2)) (says_f _) (fun hq => at_load one_3 (cv hq) (hS.cell rfl)) <|
    pccg (v := .bool r1_7) 21 (c := !(!r1_2)) (says_f _) call_130 (fun hq => (args3 (cv hq) rfl rfl)) hS (fun hq => by
      have hcall := c_array_within (gd_t hc1_7 hq)  (hS.pull 1)
      exact (Calls.mono hcall (fun e w'' h => And.intro h.1 (h.2.pull 1)))) (fun w' hS => ?_)
  replace hF := lv_s hF; obtain ⟨x26, hx26, hF⟩ := hF
  replace hF := bd_s hF; obtain ⟨r1_13, hc1_13, hF⟩ := hF
  refine pg (v := .bool (!r1_7)) 21 (c := !(!r1_2)) (says_f _) (fun hq => Yl.at (yl_not (cv hq))) <| p (yor' rfl rfl (fun hc => (cv (t_not hc))) hx26) <| p (yl_move rfl) <| pg (v := .pointer (some ⟨b1, 2, none⟩)) 27 (c := !x26) (says_f _) (fun hq => Yl.at (yl_field0 fld_81_2 rfl)) <|
    pg (v := .int .i64 c0.Tracks) 27 (c := !x26) (says_f _) (fun hq => at_load one_3 (cv hq) (hS.cell rfl)) <|
    pccg (v := .bool r1_13) 27 (c := !x26) (says_f _) call_130 (fun hq => (args3 (cv hq) rfl rfl)) hS (fun hq => by
      have hcall := c_array_within (gd_t hc1_13 hq)  (hS.pull 1)
      exact (Calls.mono hcall (fun e w'' h => And.intro h.1 (h.2.pull 1)))) (fun w' hS => ?_)
  replace hF := lv_s hF; obtain ⟨x32, hx32, hF⟩ := hF
  refine pg (v := .bool (!r1_13)) 27 (c := !x26) (says_f _) (fun hq => Yl.at (yl_not (cv hq))) <| p (yor' rfl rfl (fun hc => (cv (t_not hc))) hx32) <| x_done <|
    x_cond (t := x32) rfl (fun hc32 => ?_) (fun hc32 => ?_)
  · replace hF := it_t hc32 hF
    refine x_seq <| x_region <| p (yl_assign rfl) <| x_done <|
      ?_
    have e_ := Option.some.inj (show some _ = some _ from hF); subst e_
    exact x_return ⟨_, ⟨_, _, rfl, rfl, rfl⟩, rfl, hS.drop⟩
  · replace hF := it_bf hc32 hF
    replace hF := ar_s hF; obtain ⟨x40, hx40, hF⟩ := hF
    refine x_skip <| x_seq <| x_seq <| x_region <|
      p (yl_field0 fld_81_3 rfl) <| pa (at_load one_78 rfl (hS.cell rfl)) <| p (yl_len_slice usl_78 rfl) <| p (yl_field0 fld_81_0 rfl) <|
      pa (at_load one_3 rfl (hS.cell rfl)) <| p (yl_field0 fld_81_1 rfl) <| pa (at_load one_3 rfl (hS.cell rfl)) <| p (ymul rfl rfl hx40) <|
      p (yl_neq rfl rfl) <| x_done <|
      x_cond_p ((c0.Tiles.length : Int) ≠ x40) rfl (fun hc41 => ?_) (fun hc41 => ?_)
    · replace hF := it_t hc41 hF
      refine x_seq <| x_region <| p (yl_assign rfl) <| x_done <|
        ?_
      have e_ := Option.some.inj (show some _ = some _ from hF); subst e_
      exact x_return ⟨_, ⟨_, _, rfl, rfl, rfl⟩, rfl, hS.drop⟩
    · replace hF := it_f hc41 hF
      refine x_skip <| x_seq <| x_seq <| x_region <|
        p (yl_field0 fld_81_3 rfl) <| pa (at_load one_78 rfl (hS.cell rfl)) <| p (yl_len_slice usl_78 rfl) <| p (yl_move rfl) <|
        x_done <|
        ?_
      replace hF := bs_s hF; obtain ⟨oL6, hLL6, hF⟩ := hF
      refine x_join (fun E w => (Sum.inl (())) = oL6 ∧ E 1 = .pointer (some ⟨b1, 0, none⟩) ∧ St w0 w (cells b1 81 [.int .i64 c0.Rows, .int .i64 c0.Cols, .int .i64 c0.Tracks, .slice A_c0_3 c0.Tiles.length c_c0_3, .slice A_c0_4 c0.In.length c_c0_4, .slice A_c0_5 c0.Out.length c_c0_5] :: ro ρ :: l)) ?_ ?_
      · skip -- L6
        refine x_block ?_
        refine x_loop (fun k_ E w => ∃ (y45_L6h : Int), lp (P_array_Check_L6 c0) k_ y45_L6h = some oL6 ∧ E 1 = .pointer (some ⟨b1, 0, none⟩) ∧ E 43 = .slice A_c0_3 c0.Tiles.length c_c0_3 ∧ E 44 = .int .i64 (c0.Tiles.length : Int) ∧ E 45 = .int .i64 y45_L6h ∧ St w0 w (cells b1 81 [.int .i64 c0.Rows, .int .i64 c0.Cols, .int .i64 c0.Tracks, .slice A_c0_3 c0.Tiles.length c_c0_3, .slice A_c0_4 c0.In.length c_c0_4, .slice A_c0_5 c0.Out.length c_c0_5] :: ro ρ :: l)) fuel ⟨0, hLL6, rfl, rfl, rfl, rfl, ((hS.pull 1).pull 1)⟩ ?_
        rintro kL6 E w ⟨y45_L6h, hLL6, eL6h_1, eL6h_43, eL6h_44, eL6h_45, hS⟩
        replace hLL6 := lp_s hLL6; obtain ⟨kL6, obL6, rfl, hFL6, hLL6⟩ := hLL6
        refine x_seq <| x_region <| p (yl_lss eL6h_45 eL6h_44) <| x_done <|
          x_seq <|
          x_cond_p (y45_L6h < (c0.Tiles.length : Int)) rfl (fun hc46 => ?_) (fun hc46 => ?_)
        · replace hFL6 := it_t hc46 hFL6
          replace hFL6 := ck_s hFL6; obtain ⟨hk7_0, hFL6⟩ := hFL6
          replace hFL6 := lv_s hFL6; obtain ⟨y7_1, hy7_1, hFL6⟩ := hFL6
          have q_ := h_c0_3.get hk7_0; obtain ⟨el7_1, ek7_1, ee7_1⟩ := q_
          rw [← hy7_1] at ek7_1
          obtain ⟨A7_1_6, n7_1_6, c7_1_6, A7_1_7, n7_1_7, c7_1_7, A7_1_8, n7_1_8, c7_1_8, A7_1_9, n7_1_9, c7_1_9, rfl, f7_1_6, f7_1_7, f7_1_8, f7_1_9⟩ := ek7_1
          have e_ := f7_1_6.n; subst e_
          have e_ := f7_1_7.n; subst e_
          have e_ := f7_1_8.n; subst e_
          have e_ := f7_1_9.n; subst e_
          refine x_skip <| x_seq <| x_block <| x_seq <|
            x_region <| p (yix_f sl_78 eL6h_43 eL6h_45 h_c0_3 hk7_0) <| pa (v := .agg #[.int .u16 y7_1.Table, .bool y7_1.Init, .int .i64 y7_1.In.fe0, .int .i64 y7_1.In.fe1, .int .i64 y7_1.In.fe2, .int .i64 y7_1.In.fe3, .slice A7_1_6 y7_1.Out.fe0.length c7_1_6, .slice A7_1_7 y7_1.Out.fe1.length c7_1_7, .slice A7_1_8 y7_1.Out.fe2.length c7_1_8, .slice A7_1_9 y7_1.Out.fe3.length c7_1_9]) (at_loadAgg agg_183 rfl rfl (Elt.every ee7_1 (hS.pull 1))) <|
            ?_
          refine o_alloc zero_183 hS (fun b4 w' hS => ?_)
          refine o_storeAgg (news := [.int .u16 y7_1.Table, .bool y7_1.Init, .int .i64 y7_1.In.fe0, .int .i64 y7_1.In.fe1, .int .i64 y7_1.In.fe2, .int .i64 y7_1.In.fe3, .slice A7_1_6 y7_1.Out.fe0.length c7_1_6, .slice A7_1_7 y7_1.Out.fe1.length c7_1_7, .slice A7_1_8 y7_1.Out.fe2.length c7_1_8, .slice A7_1_9 y7_1.Out.fe3.length c7_1_9]) agg_183 rfl rfl rfl (by simp [over_length]) hS (fun w' hS => ?_)
          refine x_done <| x_seq <| x_seq <| x_region <|
            p (yl_field0 fld_183_3 rfl) <| pa (v := .agg #[.slice A7_1_6 y7_1.Out.fe0.length c7_1_6, .slice A7_1_7 y7_1.Out.fe1.length c7_1_7, .slice A7_1_8 y7_1.Out.fe2.length c7_1_8, .slice A7_1_9 y7_1.Out.fe3.length c7_1_9]) (ld_sub agg_181 rfl rfl rfl hS) <| p (yl_move rfl) <| x_done <|
            x_block <| x_unroll 4 <| x_seq <| x_region <|
            p (ylss_l (t := true) rfl rfl (by decide)) <| x_done <| x_seq <| x_cond_t (show ev _ _ = .bool true from rfl) <|
            x_skip <| x_seq <| x_block <| x_seq <|
            x_region <| p (yl_ixv (x := .tmp 50) (y := .tmp 51) (v := .slice A7_1_6 y7_1.Out.fe0.length c7_1_6) arr_181 one_22 rfl rfl (by decide) rfl) <| p (yl_assign rfl) <| x_done <|
            x_seq <| x_region <| p (yl_move rfl) <| p (yl_len_slice usl_22 rfl) <|
            p (yl_field0 fld_81_2 eL6h_1) <| pa (at_load one_3 rfl ((hS.pull 1).cell rfl)) <| p (yl_neq rfl rfl) <| x_done <|
            x_cond_p ((y7_1.Out.fe0.length : Int) ≠ c0.Tracks) rfl (fun hc58u4 => ?_) (fun hc58u4 => ?_)
          · replace hFL6 := it_t hc58u4 hFL6
            refine x_seq <| x_region <| p (yl_assign rfl) <| x_done <|
              ?_
            have e_ := Option.some.inj (show some _ = some _ from hFL6); subst e_
            have e_ := (show _ = oL6 from hLL6); subst e_
            have e_ := Option.some.inj (show some _ = some _ from hF); subst e_
            exact x_return ⟨_, ⟨_, _, rfl, rfl, rfl⟩, rfl, hS.drop.drop⟩
          · replace hFL6 := it_f hc58u4 hFL6
            refine x_skip <| x_blk <| x_region <| p (yadd (c := 1) rfl rfl ⟨rfl, by decide⟩) <|
              p (yl_move rfl) <| x_done <| x_un 3 <| x_seq <|
              x_region <| p (ylss_l (t := true) rfl rfl (by decide)) <| x_done <| x_seq <|
              x_cond_t (show ev _ _ = .bool true from rfl) <| x_skip <| x_seq <| x_block <|
              x_seq <| x_region <| p (yl_ixv (x := .tmp 50) (y := .tmp 51) (v := .slice A7_1_7 y7_1.Out.fe1.length c7_1_7) arr_181 one_22 rfl rfl (by decide) rfl) <| p (yl_assign rfl) <|
              x_done <| x_seq <| x_region <| p (yl_move rfl) <|
              p (yl_len_slice usl_22 rfl) <| p (yl_field0 fld_81_2 eL6h_1) <| pa (at_load one_3 rfl ((hS.pull 1).cell rfl)) <| p (yl_neq rfl rfl) <|
              x_done <|
              x_cond_p ((y7_1.Out.fe1.length : Int) ≠ c0.Tracks) rfl (fun hc58u3 => ?_) (fun hc58u3 => ?_)
            · replace hFL6 := it_t hc58u3 hFL6
              refine x_seq <| x_region <| p (yl_assign rfl) <| x_done <|
                ?_
              have e_ := Option.some.inj (show some _ = some _ from hFL6); subst e_
              have e_ := (show _ = oL6 from hLL6); subst e_
              have e_ := Option.some.inj (show some _ = some _ from hF); subst e_
              exact x_return ⟨_, ⟨_, _, rfl, rfl, rfl⟩, rfl, hS.drop.drop⟩
            · replace hFL6 := it_f hc58u3 hFL6
              refine x_skip <| x_blk <| x_region <| p (yadd (c := 2) rfl rfl ⟨rfl, by decide⟩) <|
                p (yl_move rfl) <| x_done <| x_un 2 <| x_seq <|
                x_region <| p (ylss_l (t := true) rfl rfl (by decide)) <| x_done <| x_seq <|
                x_cond_t (show ev _ _ = .bool true from rfl) <| x_skip <| x_seq <| x_block <|
                x_seq <| x_region <| p (yl_ixv (x := .tmp 50) (y := .tmp 51) (v := .slice A7_1_8 y7_1.Out.fe2.length c7_1_8) arr_181 one_22 rfl rfl (by decide) rfl) <| p (yl_assign rfl) <|
                x_done <| x_seq <| x_region <| p (yl_move rfl) <|
                p (yl_len_slice usl_22 rfl) <| p (yl_field0 fld_81_2 eL6h_1) <| pa (at_load one_3 rfl ((hS.pull 1).cell rfl)) <| p (yl_neq rfl rfl) <|
                x_done <|
                x_cond_p ((y7_1.Out.fe2.length : Int) ≠ c0.Tracks) rfl (fun hc58u2 => ?_) (fun hc58u2 => ?_)
              · replace hFL6 := it_t hc58u2 hFL6
                refine x_seq <| x_region <| p (yl_assign rfl) <| x_done <|
                  ?_
                have e_ := Option.some.inj (show some _ = some _ from hFL6); subst e_
                have e_ := (show _ = oL6 from hLL6); subst e_
                have e_ := Option.some.inj (show some _ = some _ from hF); subst e_
                exact x_return ⟨_, ⟨_, _, rfl, rfl, rfl⟩, rfl, hS.drop.drop⟩
              · replace hFL6 := it_f hc58u2 hFL6
                refine x_skip <| x_blk <| x_region <| p (yadd (c := 3) rfl rfl ⟨rfl, by decide⟩) <|
                  p (yl_move rfl) <| x_done <| x_un 1 <| x_seq <|
                  x_region <| p (ylss_l (t := true) rfl rfl (by decide)) <| x_done <| x_seq <|
                  x_cond_t (show ev _ _ = .bool true from rfl) <| x_skip <| x_seq <| x_block <|
                  x_seq <| x_region <| p (yl_ixv (x := .tmp 50) (y := .tmp 51) (v := .slice A7_1_9 y7_1.Out.fe3.length c7_1_9) arr_181 one_22 rfl rfl (by decide) rfl) <| p (yl_assign rfl) <|
                  x_done <| x_seq <| x_region <| p (yl_move rfl) <|
                  p (yl_len_slice usl_22 rfl) <| p (yl_field0 fld_81_2 eL6h_1) <| pa (at_load one_3 rfl ((hS.pull 1).cell rfl)) <| p (yl_neq rfl rfl) <|
                  x_done <|
                  x_cond_p ((y7_1.Out.fe3.length : Int) ≠ c0.Tracks) rfl (fun hc58u1 => ?_) (fun hc58u1 => ?_)
                · replace hFL6 := it_t hc58u1 hFL6
                  refine x_seq <| x_region <| p (yl_assign rfl) <| x_done <|
                    ?_
                  have e_ := Option.some.inj (show some _ = some _ from hFL6); subst e_
                  have e_ := (show _ = oL6 from hLL6); subst e_
                  have e_ := Option.some.inj (show some _ = some _ from hF); subst e_
                  exact x_return ⟨_, ⟨_, _, rfl, rfl, rfl⟩, rfl, hS.drop.drop⟩
                · replace hFL6 := it_f hc58u1 hFL6
                  replace hFL6 := ar_s hFL6; obtain ⟨x68u4, hx68u4, hFL6⟩ := hFL6
                  replace hFL6 := ar_s hFL6; obtain ⟨x69u4, hx69u4, hFL6⟩ := hFL6
                  replace hFL6 := bd_s hFL6; obtain ⟨r17_5u4, hc17_5u4, hFL6⟩ := hFL6
                  refine x_skip <| x_blk <| x_region <| p (yadd (c := 4) rfl rfl ⟨rfl, by decide⟩) <|
                    p (yl_move rfl) <| x_done <| x_un 0 <| x_seq <|
                    x_region <| p (ylss_l (t := false) rfl rfl (by decide)) <| x_done <| x_seq <|
                    x_cond_f (show ev _ _ = .bool false from rfl) <| x_exitTo _ rfl <| x_seq <| x_seq <|
                    x_region <| p (yl_field0 fld_183_2 rfl) <| pa (v := .agg #[.int .i64 y7_1.In.fe0, .int .i64 y7_1.In.fe1, .int .i64 y7_1.In.fe2, .int .i64 y7_1.In.fe3]) (ld_sub agg_180 rfl rfl rfl hS) <| p (yl_move rfl) <|
                    x_done <| x_block <| x_unroll 4 <| x_seq <|
                    x_region <| p (ylss_l (t := true) rfl rfl (by decide)) <| x_done <| x_seq <|
                    x_cond_t (show ev _ _ = .bool true from rfl) <| x_skip <| x_seq <| x_block <|
                    x_seq <| x_region <| p (yl_ixv (x := .tmp 61) (y := .tmp 62) (v := .int .i64 y7_1.In.fe0) arr_180 one_3 rfl rfl (by decide) rfl) <| p (yl_assign rfl) <|
                    x_done <| x_seq <| x_region <| p (yl_move rfl) <|
                    p (yl_field0 fld_81_2 eL6h_1) <| pa (at_load one_3 rfl ((hS.pull 1).cell rfl)) <| p (ymul rfl rfl hx68u4) <| p (yadd rfl rfl hx69u4) <|
                    ?_
                  have hcall := c_array_within hc17_5u4  (hS.pull 2)
                  refine o_cc call_130 (args3 rfl rfl rfl) ((Calls.mono hcall (fun e w'' h => And.intro h.1 ((h.2.pull 2).pull 2)))) ?_
                  rintro e w' ⟨rfl, hS⟩
                  refine ⟨_, rfl, ?_⟩
                  refine p (yl_not rfl) <| x_done <|
                    x_cond (t := !r17_5u4) rfl (fun hc71u4 => ?_) (fun hc71u4 => ?_)
                  · replace hFL6 := it_t hc71u4 hFL6
                    refine x_seq <| x_region <| p (yl_assign rfl) <| x_done <|
                      ?_
                    have e_ := Option.some.inj (show some _ = some _ from hFL6); subst e_
                    have e_ := (show _ = oL6 from hLL6); subst e_
                    have e_ := Option.some.inj (show some _ = some _ from hF); subst e_
                    exact x_return ⟨_, ⟨_, _, rfl, rfl, rfl⟩, rfl, hS.drop.drop⟩
                  · replace hFL6 := it_bf hc71u4 hFL6
                    replace hFL6 := ar_s hFL6; obtain ⟨x68u3, hx68u3, hFL6⟩ := hFL6
                    replace hFL6 := ar_s hFL6; obtain ⟨x69u3, hx69u3, hFL6⟩ := hFL6
                    replace hFL6 := bd_s hFL6; obtain ⟨r17_5u3, hc17_5u3, hFL6⟩ := hFL6
                    refine x_skip <| x_blk <| x_region <| p (yadd (c := 1) rfl rfl ⟨rfl, by decide⟩) <|
                      p (yl_move rfl) <| x_done <| x_un 3 <| x_seq <|
                      x_region <| p (ylss_l (t := true) rfl rfl (by decide)) <| x_done <| x_seq <|
                      x_cond_t (show ev _ _ = .bool true from rfl) <| x_skip <| x_seq <| x_block <|
                      x_seq <| x_region <| p (yl_ixv (x := .tmp 61) (y := .tmp 62) (v := .int .i64 y7_1.In.fe1) arr_180 one_3 rfl rfl (by decide) rfl) <| p (yl_assign rfl) <|
                      x_done <| x_seq <| x_region <| p (yl_move rfl) <|
                      p (yl_field0 fld_81_2 eL6h_1) <| pa (at_load one_3 rfl ((hS.pull 1).cell rfl)) <| p (ymul rfl rfl hx68u3) <| p (yadd rfl rfl hx69u3) <|
                      ?_
                    have hcall := c_array_within hc17_5u3  (hS.pull 2)
                    refine o_cc call_130 (args3 rfl rfl rfl) ((Calls.mono hcall (fun e w'' h => And.intro h.1 ((h.2.pull 2).pull 2)))) ?_
                    rintro e w' ⟨rfl, hS⟩
                    refine ⟨_, rfl, ?_⟩
                    refine p (yl_not rfl) <| x_done <|
                      x_cond (t := !r17_5u3) rfl (fun hc71u3 => ?_) (fun hc71u3 => ?_)
                    · replace hFL6 := it_t hc71u3 hFL6
                      refine x_seq <| x_region <| p (yl_assign rfl) <| x_done <|
                        ?_
                      have e_ := Option.some.inj (show some _ = some _ from hFL6); subst e_
                      have e_ := (show _ = oL6 from hLL6); subst e_
                      have e_ := Option.some.inj (show some _ = some _ from hF); subst e_
                      exact x_return ⟨_, ⟨_, _, rfl, rfl, rfl⟩, rfl, hS.drop.drop⟩
                    · replace hFL6 := it_bf hc71u3 hFL6
                      replace hFL6 := ar_s hFL6; obtain ⟨x68u2, hx68u2, hFL6⟩ := hFL6
                      replace hFL6 := ar_s hFL6; obtain ⟨x69u2, hx69u2, hFL6⟩ := hFL6
                      replace hFL6 := bd_s hFL6; obtain ⟨r17_5u2, hc17_5u2, hFL6⟩ := hFL6
                      refine x_skip <| x_blk <| x_region <| p (yadd (c := 2) rfl rfl ⟨rfl, by decide⟩) <|
                        p (yl_move rfl) <| x_done <| x_un 2 <| x_seq <|
                        x_region <| p (ylss_l (t := true) rfl rfl (by decide)) <| x_done <| x_seq <|
                        x_cond_t (show ev _ _ = .bool true from rfl) <| x_skip <| x_seq <| x_block <|
                        x_seq <| x_region <| p (yl_ixv (x := .tmp 61) (y := .tmp 62) (v := .int .i64 y7_1.In.fe2) arr_180 one_3 rfl rfl (by decide) rfl) <| p (yl_assign rfl) <|
                        x_done <| x_seq <| x_region <| p (yl_move rfl) <|
                        p (yl_field0 fld_81_2 eL6h_1) <| pa (at_load one_3 rfl ((hS.pull 1).cell rfl)) <| p (ymul rfl rfl hx68u2) <| p (yadd rfl rfl hx69u2) <|
                        ?_
                      have hcall := c_array_within hc17_5u2  (hS.pull 2)
                      refine o_cc call_130 (args3 rfl rfl rfl) ((Calls.mono hcall (fun e w'' h => And.intro h.1 ((h.2.pull 2).pull 2)))) ?_
                      rintro e w' ⟨rfl, hS⟩
                      refine ⟨_, rfl, ?_⟩
                      refine p (yl_not rfl) <| x_done <|
                        x_cond (t := !r17_5u2) rfl (fun hc71u2 => ?_) (fun hc71u2 => ?_)
                      · replace hFL6 := it_t hc71u2 hFL6
                        refine x_seq <| x_region <| p (yl_assign rfl) <| x_done <|
                          ?_
                        have e_ := Option.some.inj (show some _ = some _ from hFL6); subst e_
                        have e_ := (show _ = oL6 from hLL6); subst e_
                        have e_ := Option.some.inj (show some _ = some _ from hF); subst e_
                        exact x_return ⟨_, ⟨_, _, rfl, rfl, rfl⟩, rfl, hS.drop.drop⟩
                      · replace hFL6 := it_bf hc71u2 hFL6
                        replace hFL6 := ar_s hFL6; obtain ⟨x68u1, hx68u1, hFL6⟩ := hFL6
                        replace hFL6 := ar_s hFL6; obtain ⟨x69u1, hx69u1, hFL6⟩ := hFL6
                        replace hFL6 := bd_s hFL6; obtain ⟨r17_5u1, hc17_5u1, hFL6⟩ := hFL6
                        refine x_skip <| x_blk <| x_region <| p (yadd (c := 3) rfl rfl ⟨rfl, by decide⟩) <|
                          p (yl_move rfl) <| x_done <| x_un 1 <| x_seq <|
                          x_region <| p (ylss_l (t := true) rfl rfl (by decide)) <| x_done <| x_seq <|
                          x_cond_t (show ev _ _ = .bool true from rfl) <| x_skip <| x_seq <| x_block <|
                          x_seq <| x_region <| p (yl_ixv (x := .tmp 61) (y := .tmp 62) (v := .int .i64 y7_1.In.fe3) arr_180 one_3 rfl rfl (by decide) rfl) <| p (yl_assign rfl) <|
                          x_done <| x_seq <| x_region <| p (yl_move rfl) <|
                          p (yl_field0 fld_81_2 eL6h_1) <| pa (at_load one_3 rfl ((hS.pull 1).cell rfl)) <| p (ymul rfl rfl hx68u1) <| p (yadd rfl rfl hx69u1) <|
                          ?_
                        have hcall := c_array_within hc17_5u1  (hS.pull 2)
                        refine o_cc call_130 (args3 rfl rfl rfl) ((Calls.mono hcall (fun e w'' h => And.intro h.1 ((h.2.pull 2).pull 2)))) ?_
                        rintro e w' ⟨rfl, hS⟩
                        refine ⟨_, rfl, ?_⟩
                        refine p (yl_not rfl) <| x_done <|
                          x_cond (t := !r17_5u1) rfl (fun hc71u1 => ?_) (fun hc71u1 => ?_)
                        · replace hFL6 := it_t hc71u1 hFL6
                          refine x_seq <| x_region <| p (yl_assign rfl) <| x_done <|
                            ?_
                          have e_ := Option.some.inj (show some _ = some _ from hFL6); subst e_
                          have e_ := (show _ = oL6 from hLL6); subst e_
                          have e_ := Option.some.inj (show some _ = some _ from hF); subst e_
                          exact x_return ⟨_, ⟨_, _, rfl, rfl, rfl⟩, rfl, hS.drop.drop⟩
                        · replace hFL6 := it_bf hc71u1 hFL6
                          refine x_skip <| x_blk <| x_region <| p (yadd (c := 4) rfl rfl ⟨rfl, by decide⟩) <|
                            p (yl_move rfl) <| x_done <| x_un 0 <| x_seq <|
                            x_region <| p (ylss_l (t := false) rfl rfl (by decide)) <| x_done <| x_seq <|
                            x_cond_f (show ev _ _ = .bool false from rfl) <| x_exitTo _ rfl <| x_seq <| x_region <|
                            p (yl_field0 fld_183_3 rfl) <| pa (v := .agg #[.slice A7_1_6 y7_1.Out.fe0.length c7_1_6, .slice A7_1_7 y7_1.Out.fe1.length c7_1_7, .slice A7_1_8 y7_1.Out.fe2.length c7_1_8, .slice A7_1_9 y7_1.Out.fe3.length c7_1_9]) (ld_sub agg_181 rfl rfl rfl hS) <| p (yl_move rfl) <| x_done <|
                            x_block <| x_unroll 4 <| x_seq <| x_region <|
                            p (ylss_l (t := true) rfl rfl (by decide)) <| x_done <| x_seq <| x_cond_t (show ev _ _ = .bool true from rfl) <|
                            x_skip <| x_seq <| x_block <| x_seq <|
                            x_region <| p (yl_move rfl) <| p (yl_ixv (x := .tmp 74) (y := .tmp 75) (v := .slice A7_1_6 y7_1.Out.fe0.length c7_1_6) arr_181 one_22 rfl rfl (by decide) rfl) <| p (yl_assign rfl) <|
                            p (yl_assign rfl) <| x_done <| x_seq <| x_region <|
                            p (yl_move rfl) <| p (yl_len_slice usl_22 rfl) <| p (yl_move rfl) <| x_done <|
                            ?_
                          replace hFL6 := bs_s hFL6; obtain ⟨oL24u4, hLL24u4, hFL6⟩ := hFL6
                          refine x_join (fun E w => (Sum.inl (())) = oL24u4 ∧ E 1 = .pointer (some ⟨b1, 0, none⟩) ∧ E 43 = .slice A_c0_3 c0.Tiles.length c_c0_3 ∧ E 44 = .int .i64 (c0.Tiles.length : Int) ∧ E 45 = .int .i64 y45_L6h ∧ E 74 = .agg #[.slice A7_1_6 y7_1.Out.fe0.length c7_1_6, .slice A7_1_7 y7_1.Out.fe1.length c7_1_7, .slice A7_1_8 y7_1.Out.fe2.length c7_1_8, .slice A7_1_9 y7_1.Out.fe3.length c7_1_9] ∧ E 75 = .int .i64 0 ∧ St w0 w (cells b1 81 [.int .i64 c0.Rows, .int .i64 c0.Cols, .int .i64 c0.Tracks, .slice A_c0_3 c0.Tiles.length c_c0_3, .slice A_c0_4 c0.In.length c_c0_4, .slice A_c0_5 c0.Out.length c_c0_5] :: ro ρ :: l)) ?_ ?_
                          · skip -- L24u4
                            refine x_block ?_
                            refine x_loop (fun k_ E w => ∃ (y81_L24u4h : Int), lp (P_array_Check_L24u4 y7_1) k_ y81_L24u4h = some oL24u4 ∧ E 1 = .pointer (some ⟨b1, 0, none⟩) ∧ E 9 = .int .i64 0 ∧ E 43 = .slice A_c0_3 c0.Tiles.length c_c0_3 ∧ E 44 = .int .i64 (c0.Tiles.length : Int) ∧ E 45 = .int .i64 y45_L6h ∧ E 74 = .agg #[.slice A7_1_6 y7_1.Out.fe0.length c7_1_6, .slice A7_1_7 y7_1.Out.fe1.length c7_1_7, .slice A7_1_8 y7_1.Out.fe2.length c7_1_8, .slice A7_1_9 y7_1.Out.fe3.length c7_1_9] ∧ E 75 = .int .i64 0 ∧ E 79 = .slice A7_1_6 y7_1.Out.fe0.length c7_1_6 ∧ E 80 = .int .i64 (y7_1.Out.fe0.length : Int) ∧ E 81 = .int .i64 y81_L24u4h ∧ St w0 w (cells b1 81 [.int .i64 c0.Rows, .int .i64 c0.Cols, .int .i64 c0.Tracks, .slice A_c0_3 c0.Tiles.length c_c0_3, .slice A_c0_4 c0.In.length c_c0_4, .slice A_c0_5 c0.Out.length c_c0_5] :: ro ρ :: l)) fuel ⟨0, hLL24u4, eL6h_1, rfl, eL6h_43, eL6h_44, eL6h_45, rfl, rfl, rfl, rfl, rfl, ((hS.drop.pull 1).pull 1)⟩ ?_
                            rintro kL24u4 E w ⟨y81_L24u4h, hLL24u4, eL24u4h_1, eL24u4h_9, eL24u4h_43, eL24u4h_44, eL24u4h_45, eL24u4h_74, eL24u4h_75, eL24u4h_79, eL24u4h_80, eL24u4h_81, hS⟩
                            replace hLL24u4 := lp_s hLL24u4; obtain ⟨kL24u4, obL24u4, rfl, hFL24u4, hLL24u4⟩ := hLL24u4
                            refine x_seq <| x_region <| p (yl_lss eL24u4h_81 eL24u4h_80) <| x_done <|
                              x_seq <|
                              x_cond_p (y81_L24u4h < (y7_1.Out.fe0.length : Int)) rfl (fun hc82u4 => ?_) (fun hc82u4 => ?_)
                            · replace hFL24u4 := it_t hc82u4 hFL24u4
                              replace hFL24u4 := ck_s hFL24u4; obtain ⟨hk25_0u4, hFL24u4⟩ := hFL24u4
                              replace hFL24u4 := lv_s hFL24u4; obtain ⟨x84u4, hx84u4, hFL24u4⟩ := hFL24u4
                              replace hFL24u4 := bd_s hFL24u4; obtain ⟨r26_1u4, hc26_1u4, hFL24u4⟩ := hFL24u4
                              refine x_skip <| x_seq <| x_block <| x_seq <|
                                x_region <| p (yix_f sl_22 eL24u4h_79 eL24u4h_81 f7_1_6 hk25_0u4) <| pa (at_load one_3 rfl (RdS.getW f7_1_6 (hS.pull 1) hk25_0u4 hx84u4)) <| p (yl_assign rfl) <|
                                x_done <| x_seq <| x_region <| p (yl_move rfl) <|
                                ?_
                              have hcall := c_array_within hc26_1u4  (hS.pull 1)
                              refine o_cc call_130 (args3 rfl rfl rfl) ((Calls.mono hcall (fun e w'' h => And.intro h.1 (h.2.pull 1)))) ?_
                              rintro e w' ⟨rfl, hS⟩
                              refine ⟨_, rfl, ?_⟩
                              replace hFL24u4 := lv_s hFL24u4; obtain ⟨x93u4, hx93u4, hFL24u4⟩ := hFL24u4
                              refine p (yl_not rfl) <| p (yl_move rfl) <| pg (v := .int .i64 x84u4) 88 (c := !(!r26_1u4)) (says_f _) (fun hq => Yl.at (yl_move rfl)) <| pg (v := .int .i64 0) 88 (c := !(!r26_1u4)) (says_f _) (fun hq => Yl.at (yl_move eL24u4h_9)) <|
                                pg (v := .int .i64 3) 88 (c := !(!r26_1u4)) (says_f _) (fun hq => Yl.at (yadd (c := 3) rfl (cv hq) ⟨rfl, by decide⟩)) <| pg (v := .bool (decide (x84u4 = 3))) 88 (c := !(!r26_1u4)) (says_f _) (fun hq => Yl.at (yl_eql (cv hq) (cv hq))) <| p (yor' rfl rfl (fun hc => (cv (t_not hc))) hx93u4) <| x_done <|
                                x_cond (t := x93u4) rfl (fun hc93u4 => ?_) (fun hc93u4 => ?_)
                              · replace hFL24u4 := it_t hc93u4 hFL24u4
                                refine x_seq <| x_region <| p (yl_assign rfl) <| x_done <|
                                  ?_
                                have e_ := Option.some.inj (show some _ = some _ from hFL24u4); subst e_
                                have e_ := (show _ = oL24u4 from hLL24u4); subst e_
                                have e_ := Option.some.inj (show some _ = some _ from hFL6); subst e_
                                have e_ := (show _ = oL6 from hLL6); subst e_
                                have e_ := Option.some.inj (show some _ = some _ from hF); subst e_
                                exact x_return ⟨_, ⟨_, _, rfl, rfl, rfl⟩, rfl, hS.drop⟩
                              · replace hFL24u4 := it_bf hc93u4 hFL24u4
                                replace hFL24u4 := ar_s hFL24u4; obtain ⟨x94u4, hx94u4, hFL24u4⟩ := hFL24u4
                                refine x_skip <| x_blk <| x_region <| p (yadd eL24u4h_81 rfl hx94u4) <|
                                  p (yl_move rfl) <| x_done <|
                                  ?_
                                have e_ := Option.some.inj (show some _ = some _ from hFL24u4); subst e_
                                exact x_inv ⟨kL24u4, Nat.lt_succ_self _, x94u4, hLL24u4, eL24u4h_1, eL24u4h_9, eL24u4h_43, eL24u4h_44, eL24u4h_45, eL24u4h_74, eL24u4h_75, eL24u4h_79, eL24u4h_80, rfl, ((hS.pull 1).pull 1)⟩
                            · replace hFL24u4 := it_f hc82u4 hFL24u4
                              refine x_exitTo _ rfl <|
                                ?_
                              have e_ := Option.some.inj (show some _ = some _ from hFL24u4); subst e_
                              exact x_inv ⟨hLL24u4, eL24u4h_1, eL24u4h_43, eL24u4h_44, eL24u4h_45, eL24u4h_74, eL24u4h_75, ((hS.pull 1).pull 1)⟩
                          rintro E w ⟨rfl, eL24u4_1, eL24u4_43, eL24u4_44, eL24u4_45, eL24u4_74, eL24u4_75, hS⟩
                          refine x_blk <| x_region <| p (yadd (c := 1) eL24u4_75 rfl ⟨rfl, by decide⟩) <| p (yl_move rfl) <|
                            x_done <| x_un 3 <| x_seq <| x_region <|
                            p (ylss_l (t := true) rfl rfl (by decide)) <| x_done <| x_seq <| x_cond_t (show ev _ _ = .bool true from rfl) <|
                            x_skip <| x_seq <| x_block <| x_seq <|
                            x_region <| p (yl_move rfl) <| p (yl_ixv (x := .tmp 74) (y := .tmp 75) (v := .slice A7_1_7 y7_1.Out.fe1.length c7_1_7) arr_181 one_22 eL24u4_74 rfl (by decide) rfl) <| p (yl_assign rfl) <|
                            p (yl_assign rfl) <| x_done <| x_seq <| x_region <|
                            p (yl_move rfl) <| p (yl_len_slice usl_22 rfl) <| p (yl_move rfl) <| x_done <|
                            ?_
                          replace hFL6 := bs_s hFL6; obtain ⟨oL24u3, hLL24u3, hFL6⟩ := hFL6
                          refine x_join (fun E w => (Sum.inl (())) = oL24u3 ∧ E 1 = .pointer (some ⟨b1, 0, none⟩) ∧ E 43 = .slice A_c0_3 c0.Tiles.length c_c0_3 ∧ E 44 = .int .i64 (c0.Tiles.length : Int) ∧ E 45 = .int .i64 y45_L6h ∧ E 74 = .agg #[.slice A7_1_6 y7_1.Out.fe0.length c7_1_6, .slice A7_1_7 y7_1.Out.fe1.length c7_1_7, .slice A7_1_8 y7_1.Out.fe2.length c7_1_8, .slice A7_1_9 y7_1.Out.fe3.length c7_1_9] ∧ E 75 = .int .i64 1 ∧ St w0 w (cells b1 81 [.int .i64 c0.Rows, .int .i64 c0.Cols, .int .i64 c0.Tracks, .slice A_c0_3 c0.Tiles.length c_c0_3, .slice A_c0_4 c0.In.length c_c0_4, .slice A_c0_5 c0.Out.length c_c0_5] :: ro ρ :: l)) ?_ ?_
                          · skip -- L24u3
                            refine x_block ?_
                            refine x_loop (fun k_ E w => ∃ (y81_L24u3h : Int), lp (P_array_Check_L24u3 y7_1) k_ y81_L24u3h = some oL24u3 ∧ E 1 = .pointer (some ⟨b1, 0, none⟩) ∧ E 9 = .int .i64 1 ∧ E 43 = .slice A_c0_3 c0.Tiles.length c_c0_3 ∧ E 44 = .int .i64 (c0.Tiles.length : Int) ∧ E 45 = .int .i64 y45_L6h ∧ E 74 = .agg #[.slice A7_1_6 y7_1.Out.fe0.length c7_1_6, .slice A7_1_7 y7_1.Out.fe1.length c7_1_7, .slice A7_1_8 y7_1.Out.fe2.length c7_1_8, .slice A7_1_9 y7_1.Out.fe3.length c7_1_9] ∧ E 75 = .int .i64 1 ∧ E 79 = .slice A7_1_7 y7_1.Out.fe1.length c7_1_7 ∧ E 80 = .int .i64 (y7_1.Out.fe1.length : Int) ∧ E 81 = .int .i64 y81_L24u3h ∧ St w0 w (cells b1 81 [.int .i64 c0.Rows, .int .i64 c0.Cols, .int .i64 c0.Tracks, .slice A_c0_3 c0.Tiles.length c_c0_3, .slice A_c0_4 c0.In.length c_c0_4, .slice A_c0_5 c0.Out.length c_c0_5] :: ro ρ :: l)) fuel ⟨0, hLL24u3, eL24u4_1, rfl, eL24u4_43, eL24u4_44, eL24u4_45, eL24u4_74, rfl, rfl, rfl, rfl, ((hS.pull 1).pull 1)⟩ ?_
                            rintro kL24u3 E w ⟨y81_L24u3h, hLL24u3, eL24u3h_1, eL24u3h_9, eL24u3h_43, eL24u3h_44, eL24u3h_45, eL24u3h_74, eL24u3h_75, eL24u3h_79, eL24u3h_80, eL24u3h_81, hS⟩
                            replace hLL24u3 := lp_s hLL24u3; obtain ⟨kL24u3, obL24u3, rfl, hFL24u3, hLL24u3⟩ := hLL24u3
                            refine x_seq <| x_region <| p (yl_lss eL24u3h_81 eL24u3h_80) <| x_done <|
                              x_seq <|
                              x_cond_p (y81_L24u3h < (y7_1.Out.fe1.length : Int)) rfl (fun hc82u3 => ?_) (fun hc82u3 => ?_)
                            · replace hFL24u3 := it_t hc82u3 hFL24u3
                              replace hFL24u3 := ck_s hFL24u3; obtain ⟨hk25_0u3, hFL24u3⟩ := hFL24u3
                              replace hFL24u3 := lv_s hFL24u3; obtain ⟨x84u3, hx84u3, hFL24u3⟩ := hFL24u3
                              replace hFL24u3 := bd_s hFL24u3; obtain ⟨r26_1u3, hc26_1u3, hFL24u3⟩ := hFL24u3
                              refine x_skip <| x_seq <| x_block <| x_seq <|
                                x_region <| p (yix_f sl_22 eL24u3h_79 eL24u3h_81 f7_1_7 hk25_0u3) <| pa (at_load one_3 rfl (RdS.getW f7_1_7 (hS.pull 1) hk25_0u3 hx84u3)) <| p (yl_assign rfl) <|
                                x_done <| x_seq <| x_region <| p (yl_move rfl) <|
                                ?_
                              have hcall := c_array_within hc26_1u3  (hS.pull 1)
                              refine o_cc call_130 (args3 rfl rfl rfl) ((Calls.mono hcall (fun e w'' h => And.intro h.1 (h.2.pull 1)))) ?_
                              rintro e w' ⟨rfl, hS⟩
                              refine ⟨_, rfl, ?_⟩
                              replace hFL24u3 := lv_s hFL24u3; obtain ⟨x93u3, hx93u3, hFL24u3⟩ := hFL24u3
                              refine p (yl_not rfl) <| p (yl_move rfl) <| pg (v := .int .i64 x84u3) 88 (c := !(!r26_1u3)) (says_f _) (fun hq => Yl.at (yl_move rfl)) <| pg (v := .int .i64 1) 88 (c := !(!r26_1u3)) (says_f _) (fun hq => Yl.at (yl_move eL24u3h_9)) <|
                                pg (v := .int .i64 4) 88 (c := !(!r26_1u3)) (says_f _) (fun hq => Yl.at (yadd (c := 4) rfl (cv hq) ⟨rfl, by decide⟩)) <| pg (v := .bool (decide (x84u3 = 4))) 88 (c := !(!r26_1u3)) (says_f _) (fun hq => Yl.at (yl_eql (cv hq) (cv hq))) <| p (yor' rfl rfl (fun hc => (cv (t_not hc))) hx93u3) <| x_done <|
                                x_cond (t := x93u3) rfl (fun hc93u3 => ?_) (fun hc93u3 => ?_)
                              · replace hFL24u3 := it_t hc93u3 hFL24u3
                                refine x_seq <| x_region <| p (yl_assign rfl) <| x_done <|
                                  ?_
                                have e_ := Option.some.inj (show some _ = some _ from hFL24u3); subst e_
                                have e_ := (show _ = oL24u3 from hLL24u3); subst e_
                                have e_ := Option.some.inj (show some _ = some _ from hFL6); subst e_
                                have e_ := (show _ = oL6 from hLL6); subst e_
                                have e_ := Option.some.inj (show some _ = some _ from hF); subst e_
                                exact x_return ⟨_, ⟨_, _, rfl, rfl, rfl⟩, rfl, hS.drop⟩
                              · replace hFL24u3 := it_bf hc93u3 hFL24u3
                                replace hFL24u3 := ar_s hFL24u3; obtain ⟨x94u3, hx94u3, hFL24u3⟩ := hFL24u3
                                refine x_skip <| x_blk <| x_region <| p (yadd eL24u3h_81 rfl hx94u3) <|
                                  p (yl_move rfl) <| x_done <|
                                  ?_
                                have e_ := Option.some.inj (show some _ = some _ from hFL24u3); subst e_
                                exact x_inv ⟨kL24u3, Nat.lt_succ_self _, x94u3, hLL24u3, eL24u3h_1, eL24u3h_9, eL24u3h_43, eL24u3h_44, eL24u3h_45, eL24u3h_74, eL24u3h_75, eL24u3h_79, eL24u3h_80, rfl, ((hS.pull 1).pull 1)⟩
                            · replace hFL24u3 := it_f hc82u3 hFL24u3
                              refine x_exitTo _ rfl <|
                                ?_
                              have e_ := Option.some.inj (show some _ = some _ from hFL24u3); subst e_
                              exact x_inv ⟨hLL24u3, eL24u3h_1, eL24u3h_43, eL24u3h_44, eL24u3h_45, eL24u3h_74, eL24u3h_75, ((hS.pull 1).pull 1)⟩
                          rintro E w ⟨rfl, eL24u3_1, eL24u3_43, eL24u3_44, eL24u3_45, eL24u3_74, eL24u3_75, hS⟩
                          refine x_blk <| x_region <| p (yadd (c := 2) eL24u3_75 rfl ⟨rfl, by decide⟩) <| p (yl_move rfl) <|
                            x_done <| x_un 2 <| x_seq <| x_region <|
                            p (ylss_l (t := true) rfl rfl (by decide)) <| x_done <| x_seq <| x_cond_t (show ev _ _ = .bool true from rfl) <|
                            x_skip <| x_seq <| x_block <| x_seq <|
                            x_region <| p (yl_move rfl) <| p (yl_ixv (x := .tmp 74) (y := .tmp 75) (v := .slice A7_1_8 y7_1.Out.fe2.length c7_1_8) arr_181 one_22 eL24u3_74 rfl (by decide) rfl) <| p (yl_assign rfl) <|
                            p (yl_assign rfl) <| x_done <| x_seq <| x_region <|
                            p (yl_move rfl) <| p (yl_len_slice usl_22 rfl) <| p (yl_move rfl) <| x_done <|
                            ?_
                          replace hFL6 := bs_s hFL6; obtain ⟨oL24u2, hLL24u2, hFL6⟩ := hFL6
                          refine x_join (fun E w => (Sum.inl (())) = oL24u2 ∧ E 1 = .pointer (some ⟨b1, 0, none⟩) ∧ E 43 = .slice A_c0_3 c0.Tiles.length c_c0_3 ∧ E 44 = .int .i64 (c0.Tiles.length : Int) ∧ E 45 = .int .i64 y45_L6h ∧ E 74 = .agg #[.slice A7_1_6 y7_1.Out.fe0.length c7_1_6, .slice A7_1_7 y7_1.Out.fe1.length c7_1_7, .slice A7_1_8 y7_1.Out.fe2.length c7_1_8, .slice A7_1_9 y7_1.Out.fe3.length c7_1_9] ∧ E 75 = .int .i64 2 ∧ St w0 w (cells b1 81 [.int .i64 c0.Rows, .int .i64 c0.Cols, .int .i64 c0.Tracks, .slice A_c0_3 c0.Tiles.length c_c0_3, .slice A_c0_4 c0.In.length c_c0_4, .slice A_c0_5 c0.Out.length c_c0_5] :: ro ρ :: l)) ?_ ?_
                          · skip -- L24u2
                            refine x_block ?_
                            refine x_loop (fun k_ E w => ∃ (y81_L24u2h : Int), lp (P_array_Check_L24u2 y7_1) k_ y81_L24u2h = some oL24u2 ∧ E 1 = .pointer (some ⟨b1, 0, none⟩) ∧ E 9 = .int .i64 2 ∧ E 43 = .slice A_c0_3 c0.Tiles.length c_c0_3 ∧ E 44 = .int .i64 (c0.Tiles.length : Int) ∧ E 45 = .int .i64 y45_L6h ∧ E 74 = .agg #[.slice A7_1_6 y7_1.Out.fe0.length c7_1_6, .slice A7_1_7 y7_1.Out.fe1.length c7_1_7, .slice A7_1_8 y7_1.Out.fe2.length c7_1_8, .slice A7_1_9 y7_1.Out.fe3.length c7_1_9] ∧ E 75 = .int .i64 2 ∧ E 79 = .slice A7_1_8 y7_1.Out.fe2.length c7_1_8 ∧ E 80 = .int .i64 (y7_1.Out.fe2.length : Int) ∧ E 81 = .int .i64 y81_L24u2h ∧ St w0 w (cells b1 81 [.int .i64 c0.Rows, .int .i64 c0.Cols, .int .i64 c0.Tracks, .slice A_c0_3 c0.Tiles.length c_c0_3, .slice A_c0_4 c0.In.length c_c0_4, .slice A_c0_5 c0.Out.length c_c0_5] :: ro ρ :: l)) fuel ⟨0, hLL24u2, eL24u3_1, rfl, eL24u3_43, eL24u3_44, eL24u3_45, eL24u3_74, rfl, rfl, rfl, rfl, ((hS.pull 1).pull 1)⟩ ?_
                            rintro kL24u2 E w ⟨y81_L24u2h, hLL24u2, eL24u2h_1, eL24u2h_9, eL24u2h_43, eL24u2h_44, eL24u2h_45, eL24u2h_74, eL24u2h_75, eL24u2h_79, eL24u2h_80, eL24u2h_81, hS⟩
                            replace hLL24u2 := lp_s hLL24u2; obtain ⟨kL24u2, obL24u2, rfl, hFL24u2, hLL24u2⟩ := hLL24u2
                            refine x_seq <| x_region <| p (yl_lss eL24u2h_81 eL24u2h_80) <| x_done <|
                              x_seq <|
                              x_cond_p (y81_L24u2h < (y7_1.Out.fe2.length : Int)) rfl (fun hc82u2 => ?_) (fun hc82u2 => ?_)
                            · replace hFL24u2 := it_t hc82u2 hFL24u2
                              replace hFL24u2 := ck_s hFL24u2; obtain ⟨hk25_0u2, hFL24u2⟩ := hFL24u2
                              replace hFL24u2 := lv_s hFL24u2; obtain ⟨x84u2, hx84u2, hFL24u2⟩ := hFL24u2
                              replace hFL24u2 := bd_s hFL24u2; obtain ⟨r26_1u2, hc26_1u2, hFL24u2⟩ := hFL24u2
                              refine x_skip <| x_seq <| x_block <| x_seq <|
                                x_region <| p (yix_f sl_22 eL24u2h_79 eL24u2h_81 f7_1_8 hk25_0u2) <| pa (at_load one_3 rfl (RdS.getW f7_1_8 (hS.pull 1) hk25_0u2 hx84u2)) <| p (yl_assign rfl) <|
                                x_done <| x_seq <| x_region <| p (yl_move rfl) <|
                                ?_
                              have hcall := c_array_within hc26_1u2  (hS.pull 1)
                              refine o_cc call_130 (args3 rfl rfl rfl) ((Calls.mono hcall (fun e w'' h => And.intro h.1 (h.2.pull 1)))) ?_
                              rintro e w' ⟨rfl, hS⟩
                              refine ⟨_, rfl, ?_⟩
                              replace hFL24u2 := lv_s hFL24u2; obtain ⟨x93u2, hx93u2, hFL24u2⟩ := hFL24u2
                              refine p (yl_not rfl) <| p (yl_move rfl) <| pg (v := .int .i64 x84u2) 88 (c := !(!r26_1u2)) (says_f _) (fun hq => Yl.at (yl_move rfl)) <| pg (v := .int .i64 2) 88 (c := !(!r26_1u2)) (says_f _) (fun hq => Yl.at (yl_move eL24u2h_9)) <|
                                pg (v := .int .i64 5) 88 (c := !(!r26_1u2)) (says_f _) (fun hq => Yl.at (yadd (c := 5) rfl (cv hq) ⟨rfl, by decide⟩)) <| pg (v := .bool (decide (x84u2 = 5))) 88 (c := !(!r26_1u2)) (says_f _) (fun hq => Yl.at (yl_eql (cv hq) (cv hq))) <| p (yor' rfl rfl (fun hc => (cv (t_not hc))) hx93u2) <| x_done <|
                                x_cond (t := x93u2) rfl (fun hc93u2 => ?_) (fun hc93u2 => ?_)
                              · replace hFL24u2 := it_t hc93u2 hFL24u2
                                refine x_seq <| x_region <| p (yl_assign rfl) <| x_done <|
                                  ?_
                                have e_ := Option.some.inj (show some _ = some _ from hFL24u2); subst e_
                                have e_ := (show _ = oL24u2 from hLL24u2); subst e_
                                have e_ := Option.some.inj (show some _ = some _ from hFL6); subst e_
                                have e_ := (show _ = oL6 from hLL6); subst e_
                                have e_ := Option.some.inj (show some _ = some _ from hF); subst e_
                                exact x_return ⟨_, ⟨_, _, rfl, rfl, rfl⟩, rfl, hS.drop⟩
                              · replace hFL24u2 := it_bf hc93u2 hFL24u2
                                replace hFL24u2 := ar_s hFL24u2; obtain ⟨x94u2, hx94u2, hFL24u2⟩ := hFL24u2
                                refine x_skip <| x_blk <| x_region <| p (yadd eL24u2h_81 rfl hx94u2) <|
                                  p (yl_move rfl) <| x_done <|
                                  ?_
                                have e_ := Option.some.inj (show some _ = some _ from hFL24u2); subst e_
                                exact x_inv ⟨kL24u2, Nat.lt_succ_self _, x94u2, hLL24u2, eL24u2h_1, eL24u2h_9, eL24u2h_43, eL24u2h_44, eL24u2h_45, eL24u2h_74, eL24u2h_75, eL24u2h_79, eL24u2h_80, rfl, ((hS.pull 1).pull 1)⟩
                            · replace hFL24u2 := it_f hc82u2 hFL24u2
                              refine x_exitTo _ rfl <|
                                ?_
                              have e_ := Option.some.inj (show some _ = some _ from hFL24u2); subst e_
                              exact x_inv ⟨hLL24u2, eL24u2h_1, eL24u2h_43, eL24u2h_44, eL24u2h_45, eL24u2h_74, eL24u2h_75, ((hS.pull 1).pull 1)⟩
                          rintro E w ⟨rfl, eL24u2_1, eL24u2_43, eL24u2_44, eL24u2_45, eL24u2_74, eL24u2_75, hS⟩
                          refine x_blk <| x_region <| p (yadd (c := 3) eL24u2_75 rfl ⟨rfl, by decide⟩) <| p (yl_move rfl) <|
                            x_done <| x_un 1 <| x_seq <| x_region <|
                            p (ylss_l (t := true) rfl rfl (by decide)) <| x_done <| x_seq <| x_cond_t (show ev _ _ = .bool true from rfl) <|
                            x_skip <| x_seq <| x_block <| x_seq <|
                            x_region <| p (yl_move rfl) <| p (yl_ixv (x := .tmp 74) (y := .tmp 75) (v := .slice A7_1_9 y7_1.Out.fe3.length c7_1_9) arr_181 one_22 eL24u2_74 rfl (by decide) rfl) <| p (yl_assign rfl) <|
                            p (yl_assign rfl) <| x_done <| x_seq <| x_region <|
                            p (yl_move rfl) <| p (yl_len_slice usl_22 rfl) <| p (yl_move rfl) <| x_done <|
                            ?_
                          replace hFL6 := bs_s hFL6; obtain ⟨oL24u1, hLL24u1, hFL6⟩ := hFL6
                          refine x_join (fun E w => (Sum.inl (())) = oL24u1 ∧ E 1 = .pointer (some ⟨b1, 0, none⟩) ∧ E 43 = .slice A_c0_3 c0.Tiles.length c_c0_3 ∧ E 44 = .int .i64 (c0.Tiles.length : Int) ∧ E 45 = .int .i64 y45_L6h ∧ E 74 = .agg #[.slice A7_1_6 y7_1.Out.fe0.length c7_1_6, .slice A7_1_7 y7_1.Out.fe1.length c7_1_7, .slice A7_1_8 y7_1.Out.fe2.length c7_1_8, .slice A7_1_9 y7_1.Out.fe3.length c7_1_9] ∧ E 75 = .int .i64 3 ∧ St w0 w (cells b1 81 [.int .i64 c0.Rows, .int .i64 c0.Cols, .int .i64 c0.Tracks, .slice A_c0_3 c0.Tiles.length c_c0_3, .slice A_c0_4 c0.In.length c_c0_4, .slice A_c0_5 c0.Out.length c_c0_5] :: ro ρ :: l)) ?_ ?_
                          · skip -- L24u1
                            refine x_block ?_
                            refine x_loop (fun k_ E w => ∃ (y81_L24u1h : Int), lp (P_array_Check_L24u1 y7_1) k_ y81_L24u1h = some oL24u1 ∧ E 1 = .pointer (some ⟨b1, 0, none⟩) ∧ E 9 = .int .i64 3 ∧ E 43 = .slice A_c0_3 c0.Tiles.length c_c0_3 ∧ E 44 = .int .i64 (c0.Tiles.length : Int) ∧ E 45 = .int .i64 y45_L6h ∧ E 74 = .agg #[.slice A7_1_6 y7_1.Out.fe0.length c7_1_6, .slice A7_1_7 y7_1.Out.fe1.length c7_1_7, .slice A7_1_8 y7_1.Out.fe2.length c7_1_8, .slice A7_1_9 y7_1.Out.fe3.length c7_1_9] ∧ E 75 = .int .i64 3 ∧ E 79 = .slice A7_1_9 y7_1.Out.fe3.length c7_1_9 ∧ E 80 = .int .i64 (y7_1.Out.fe3.length : Int) ∧ E 81 = .int .i64 y81_L24u1h ∧ St w0 w (cells b1 81 [.int .i64 c0.Rows, .int .i64 c0.Cols, .int .i64 c0.Tracks, .slice A_c0_3 c0.Tiles.length c_c0_3, .slice A_c0_4 c0.In.length c_c0_4, .slice A_c0_5 c0.Out.length c_c0_5] :: ro ρ :: l)) fuel ⟨0, hLL24u1, eL24u2_1, rfl, eL24u2_43, eL24u2_44, eL24u2_45, eL24u2_74, rfl, rfl, rfl, rfl, ((hS.pull 1).pull 1)⟩ ?_
                            rintro kL24u1 E w ⟨y81_L24u1h, hLL24u1, eL24u1h_1, eL24u1h_9, eL24u1h_43, eL24u1h_44, eL24u1h_45, eL24u1h_74, eL24u1h_75, eL24u1h_79, eL24u1h_80, eL24u1h_81, hS⟩
                            replace hLL24u1 := lp_s hLL24u1; obtain ⟨kL24u1, obL24u1, rfl, hFL24u1, hLL24u1⟩ := hLL24u1
                            refine x_seq <| x_region <| p (yl_lss eL24u1h_81 eL24u1h_80) <| x_done <|
                              x_seq <|
                              x_cond_p (y81_L24u1h < (y7_1.Out.fe3.length : Int)) rfl (fun hc82u1 => ?_) (fun hc82u1 => ?_)
                            · replace hFL24u1 := it_t hc82u1 hFL24u1
                              replace hFL24u1 := ck_s hFL24u1; obtain ⟨hk25_0u1, hFL24u1⟩ := hFL24u1
                              replace hFL24u1 := lv_s hFL24u1; obtain ⟨x84u1, hx84u1, hFL24u1⟩ := hFL24u1
                              replace hFL24u1 := bd_s hFL24u1; obtain ⟨r26_1u1, hc26_1u1, hFL24u1⟩ := hFL24u1
                              refine x_skip <| x_seq <| x_block <| x_seq <|
                                x_region <| p (yix_f sl_22 eL24u1h_79 eL24u1h_81 f7_1_9 hk25_0u1) <| pa (at_load one_3 rfl (RdS.getW f7_1_9 (hS.pull 1) hk25_0u1 hx84u1)) <| p (yl_assign rfl) <|
                                x_done <| x_seq <| x_region <| p (yl_move rfl) <|
                                ?_
                              have hcall := c_array_within hc26_1u1  (hS.pull 1)
                              refine o_cc call_130 (args3 rfl rfl rfl) ((Calls.mono hcall (fun e w'' h => And.intro h.1 (h.2.pull 1)))) ?_
                              rintro e w' ⟨rfl, hS⟩
                              refine ⟨_, rfl, ?_⟩
                              replace hFL24u1 := lv_s hFL24u1; obtain ⟨x93u1, hx93u1, hFL24u1⟩ := hFL24u1
                              refine p (yl_not rfl) <| p (yl_move rfl) <| pg (v := .int .i64 x84u1) 88 (c := !(!r26_1u1)) (says_f _) (fun hq => Yl.at (yl_move rfl)) <| pg (v := .int .i64 3) 88 (c := !(!r26_1u1)) (says_f _) (fun hq => Yl.at (yl_move eL24u1h_9)) <|
                                pg (v := .int .i64 6) 88 (c := !(!r26_1u1)) (says_f _) (fun hq => Yl.at (yadd (c := 6) rfl (cv hq) ⟨rfl, by decide⟩)) <| pg (v := .bool (decide (x84u1 = 6))) 88 (c := !(!r26_1u1)) (says_f _) (fun hq => Yl.at (yl_eql (cv hq) (cv hq))) <| p (yor' rfl rfl (fun hc => (cv (t_not hc))) hx93u1) <| x_done <|
                                x_cond (t := x93u1) rfl (fun hc93u1 => ?_) (fun hc93u1 => ?_)
                              · replace hFL24u1 := it_t hc93u1 hFL24u1
                                refine x_seq <| x_region <| p (yl_assign rfl) <| x_done <|
                                  ?_
                                have e_ := Option.some.inj (show some _ = some _ from hFL24u1); subst e_
                                have e_ := (show _ = oL24u1 from hLL24u1); subst e_
                                have e_ := Option.some.inj (show some _ = some _ from hFL6); subst e_
                                have e_ := (show _ = oL6 from hLL6); subst e_
                                have e_ := Option.some.inj (show some _ = some _ from hF); subst e_
                                exact x_return ⟨_, ⟨_, _, rfl, rfl, rfl⟩, rfl, hS.drop⟩
                              · replace hFL24u1 := it_bf hc93u1 hFL24u1
                                replace hFL24u1 := ar_s hFL24u1; obtain ⟨x94u1, hx94u1, hFL24u1⟩ := hFL24u1
                                refine x_skip <| x_blk <| x_region <| p (yadd eL24u1h_81 rfl hx94u1) <|
                                  p (yl_move rfl) <| x_done <|
                                  ?_
                                have e_ := Option.some.inj (show some _ = some _ from hFL24u1); subst e_
                                exact x_inv ⟨kL24u1, Nat.lt_succ_self _, x94u1, hLL24u1, eL24u1h_1, eL24u1h_9, eL24u1h_43, eL24u1h_44, eL24u1h_45, eL24u1h_74, eL24u1h_75, eL24u1h_79, eL24u1h_80, rfl, ((hS.pull 1).pull 1)⟩
                            · replace hFL24u1 := it_f hc82u1 hFL24u1
                              refine x_exitTo _ rfl <|
                                ?_
                              have e_ := Option.some.inj (show some _ = some _ from hFL24u1); subst e_
                              exact x_inv ⟨hLL24u1, eL24u1h_1, eL24u1h_43, eL24u1h_44, eL24u1h_45, eL24u1h_74, eL24u1h_75, ((hS.pull 1).pull 1)⟩
                          rintro E w ⟨rfl, eL24u1_1, eL24u1_43, eL24u1_44, eL24u1_45, eL24u1_74, eL24u1_75, hS⟩
                          replace hFL6 := ar_s hFL6; obtain ⟨x96, hx96, hFL6⟩ := hFL6
                          refine x_blk <| x_region <| p (yadd (c := 4) eL24u1_75 rfl ⟨rfl, by decide⟩) <| p (yl_move rfl) <|
                            x_done <| x_un 0 <| x_seq <| x_region <|
                            p (ylss_l (t := false) rfl rfl (by decide)) <| x_done <| x_seq <| x_cond_f (show ev _ _ = .bool false from rfl) <|
                            x_exitTo _ rfl <| x_blk <| x_region <| p (yadd eL24u1_45 rfl hx96) <|
                            p (yl_move rfl) <| x_done <|
                            ?_
                          have e_ := Option.some.inj (show some _ = some _ from hFL6); subst e_
                          exact x_inv ⟨kL6, Nat.lt_succ_self _, x96, hLL6, eL24u1_1, eL24u1_43, eL24u1_44, rfl, ((hS.pull 1).pull 1)⟩
        · replace hFL6 := it_f hc46 hFL6
          refine x_exitTo _ rfl <|
            ?_
          have e_ := Option.some.inj (show some _ = some _ from hFL6); subst e_
          exact x_inv ⟨hLL6, eL6h_1, ((hS.pull 1).pull 1)⟩
      rintro E w ⟨rfl, eL6_1, hS⟩
      replace hF := lv_s hF; obtain ⟨x106, hx106, hF⟩ := hF
      refine x_seq <| x_seq <| x_region <| p (yl_field0 fld_81_4 eL6_1) <|
        pa (at_load one_79 rfl (hS.cell rfl)) <| p (yl_len_slice usl_79 rfl) <| p (yl_gtr rfl rfl) <| p (yl_move rfl) <|
        pg (v := .pointer (some ⟨b1, 5, none⟩)) 101 (c := !(decide (128 < (c0.In.length : Int)))) (says_f _) (fun hq => Yl.at (yl_field0 fld_81_5 eL6_1)) <| pg (v := .slice A_c0_5 c0.Out.length c_c0_5) 101 (c := !(decide (128 < (c0.In.length : Int)))) (says_f _) (fun hq => at_load one_79 (cv hq) (hS.cell rfl)) <| pg (v := .int .i64 (c0.Out.length : Int)) 101 (c := !(decide (128 < (c0.In.length : Int)))) (says_f _) (fun hq => Yl.at (yl_len_slice usl_79 (cv hq))) <| pg (v := .bool (decide (128 < (c0.Out.length : Int)))) 101 (c := !(decide (128 < (c0.In.length : Int)))) (says_f _) (fun hq => Yl.at (yl_gtr (cv hq) rfl)) <|
        p (yor' rfl rfl (fun hc => (cv (t_not hc))) hx106) <| x_done <|
        x_cond (t := x106) rfl (fun hc106 => ?_) (fun hc106 => ?_)
      · replace hF := it_t hc106 hF
        refine x_seq <| x_region <| p (yl_assign rfl) <| x_done <|
          ?_
        have e_ := Option.some.inj (show some _ = some _ from hF); subst e_
        exact x_return ⟨_, ⟨_, _, rfl, rfl, rfl⟩, rfl, hS.drop⟩
      · replace hF := it_bf hc106 hF
        replace hF := bd_s hF; obtain ⟨r33_3, hc33_3, hF⟩ := hF
        refine x_skip <| x_seq <| x_seq <| x_region <|
          pa (v := .agg #[.int .i64 c0.Rows, .int .i64 c0.Cols, .int .i64 c0.Tracks, .slice A_c0_3 c0.Tiles.length c_c0_3, .slice A_c0_4 c0.In.length c_c0_4, .slice A_c0_5 c0.Out.length c_c0_5]) (ld_sub agg_81 eL6_1 rfl rfl hS) <| p (yl_field0 fld_81_4 eL6_1) <| pa (at_load one_79 rfl (hS.cell rfl)) <|
          ?_
        have hcall := c_array_pads hc33_3 h_c0_3 h_c0_4 h_c0_5 h_c0_4 (hS.pull 1)
        refine o_cc call_131 (args2 rfl rfl) ((Calls.mono hcall (fun e w'' h => And.intro h.1 (h.2.pull 1)))) ?_
        rintro e w' ⟨rfl, hS⟩
        refine ⟨_, rfl, ?_⟩
        refine p (v := .int .i64 r33_3) (yl_assign rfl) <| x_done <| x_seq <| x_region <|
          p (v := .int .i64 r33_3) (yl_move rfl) <| p (yl_neq rfl rfl) <| x_done <|
          x_cond_p (r33_3 ≠ 0) rfl (fun hc112 => ?_) (fun hc112 => ?_)
        · replace hF := it_t hc112 hF
          refine x_seq <| x_region <| p (v := .int .i64 r33_3) (yl_move rfl) <| p (v := .int .i64 r33_3) (yl_assign rfl) <|
            x_done <|
            ?_
          have e_ := Option.some.inj (show some _ = some _ from hF); subst e_
          exact x_return ⟨_, ⟨_, _, rfl, rfl, rfl⟩, rfl, hS.drop⟩
        · replace hF := it_f hc112 hF
          replace hF := bd_s hF; obtain ⟨r36_3, hc36_3, hF⟩ := hF
          refine x_skip <| x_seq <| x_seq <| x_region <|
            pa (v := .agg #[.int .i64 c0.Rows, .int .i64 c0.Cols, .int .i64 c0.Tracks, .slice A_c0_3 c0.Tiles.length c_c0_3, .slice A_c0_4 c0.In.length c_c0_4, .slice A_c0_5 c0.Out.length c_c0_5]) (ld_sub agg_81 eL6_1 rfl rfl hS) <| p (yl_field0 fld_81_5 eL6_1) <| pa (at_load one_79 rfl (hS.cell rfl)) <|
            ?_
          have hcall := c_array_pads hc36_3 h_c0_3 h_c0_4 h_c0_5 h_c0_5 (hS.pull 1)
          refine o_cc call_131 (args2 rfl rfl) ((Calls.mono hcall (fun e w'' h => And.intro h.1 (h.2.pull 1)))) ?_
          rintro e w' ⟨rfl, hS⟩
          refine ⟨_, rfl, ?_⟩
          refine p (v := .int .i64 r36_3) (yl_assign rfl) <| x_done <| x_seq <| x_region <|
            p (v := .int .i64 r36_3) (yl_move rfl) <| p (yl_neq rfl rfl) <| x_done <|
            x_cond_p (r36_3 ≠ 0) rfl (fun hc119 => ?_) (fun hc119 => ?_)
          · replace hF := it_t hc119 hF
            refine x_seq <| x_region <| p (v := .int .i64 r36_3) (yl_move rfl) <| p (v := .int .i64 r36_3) (yl_assign rfl) <|
              x_done <|
              ?_
            have e_ := Option.some.inj (show some _ = some _ from hF); subst e_
            exact x_return ⟨_, ⟨_, _, rfl, rfl, rfl⟩, rfl, hS.drop⟩
          · replace hF := it_f hc119 hF
            replace hF := bd_s hF; obtain ⟨r39_1, hc39_1, hF⟩ := hF
            refine x_skip <| x_seq <| x_seq <| x_region <|
              pa (v := .agg #[.int .i64 c0.Rows, .int .i64 c0.Cols, .int .i64 c0.Tracks, .slice A_c0_3 c0.Tiles.length c_c0_3, .slice A_c0_4 c0.In.length c_c0_4, .slice A_c0_5 c0.Out.length c_c0_5]) (ld_sub agg_81 eL6_1 rfl rfl hS) <|
              ?_
            have hcall := c_array_order hc39_1 h_c0_3 h_c0_4 h_c0_5 (hS.pull 1)
            refine o_cc call_132 (args1 rfl) hcall ?_
            rintro e w' ⟨A_y0_ret_39_1, n_y0_ret_39_1, c_y0_ret_39_1, cs_y0_ret_39_1, rfl, h_y0_ret_39_1, hS⟩
            refine ⟨_, rfl, ?_⟩
            have e_ := St.vec_n hS h_y0_ret_39_1; subst e_
            refine p (yl_move rfl) <| p (yl_extract rfl rfl) <| p (yl_extract rfl rfl) <| p (yl_assign rfl) <|
              p (yl_assign rfl) <| x_done <| x_seq <| x_region <|
              p (yl_move rfl) <| p (yl_not rfl) <| x_done <|
              x_cond (t := !r39_1.2) rfl (fun hc127 => ?_) (fun hc127 => ?_)
            · replace hF := it_t hc127 hF
              refine x_seq <| x_region <| p (yl_assign rfl) <| x_done <|
                ?_
              have e_ := Option.some.inj (show some _ = some _ from hF); subst e_
              exact x_return ⟨_, ⟨_, _, rfl, rfl, rfl⟩, rfl, ((hS.drop.pull 1).drop)⟩
            · replace hF := it_bf hc127 hF
              refine x_skip <| x_seq <| x_region <| p (yl_assign rfl) <|
                x_done <|
                ?_
              have e_ := Option.some.inj (show some _ = some _ from hF); subst e_
              exact x_return ⟨_, ⟨_, _, rfl, rfl, rfl⟩, rfl, ((hS.drop.pull 1).drop)⟩
attribute [irreducible] P_array_Check

def P_stream_writer_bits_2_L1 (n1 : Int) : (Int × List Int × Int) → Option ((Int × List Int × Int) ⊕ (List Int × Int)) := fun (i6_L1h, b_w_0_0_L1h, b_w_0_1_L1h) =>
  if 0 ≤ i6_L1h then
    bd (
      if b_w_0_1_L1h = 0 then
        lv (b_w_0_0_L1h ++ [0]) fun z4_7 =>
        ck (apOk 1 z4_7.length) <|
        some (z4_7, (8 : Int))
      else
        some (b_w_0_0_L1h, b_w_0_1_L1h)) fun (b_w_0_0_c17, b_w_0_1_c17) =>
    ar (b_w_0_1_c17 - 1) fun x34 =>
    ar ((b_w_0_0_c17.length : Int) - 1) fun x46 =>
    ck (inb x46 b_w_0_0_c17.length) <|
    lv (gt b_w_0_0_c17 x46) fun x48 =>
    ck (0 ≤ i6_L1h) <|
    lv (shr .u64 n1 i6_L1h) fun x51 =>
    lv (bAnd .u64 x51 1) fun x52 =>
    lv (x52 % 256) fun x53 =>
    ck (0 ≤ x34) <|
    lv (shl .u8 x53 x34) fun x58 =>
    lv (bOr .u8 x48 x58) fun x59 =>
    ck (inb x46 b_w_0_0_c17.length) <|
    lv (stt b_w_0_0_c17 x46 x59) fun z6_24 =>
    ar (i6_L1h - 1) fun x12 =>
    some (Sum.inl (x12, z6_24, x34))
  else
    some (Sum.inr (b_w_0_0_L1h, b_w_0_1_L1h))
def P_stream_writer_bits_2 (w_0 : T_stream_writer) (n1 : Int) (many2 : Int) : Option (List Int × Int) :=
  ar (many2 - 1) fun x8 =>
  bd (
    lp (P_stream_writer_bits_2_L1 n1) fuel (x8, w_0.fb, w_0.fleft)) fun (b_w_0_0_L1, b_w_0_1_L1) =>
  some (b_w_0_0_L1, b_w_0_1_L1)
set_option maxHeartbeats 4000000 in
set_option maxRecDepth 100000 in
theorem c_stream_writer_bits_2 {w0 w : World} {l : List Assn} {ρ : Heap} {b_w_0 : Nat} {A_w_0_0 : Option Addr} {n_w_0_0 : Nat} {c_w_0_0 : Nat} {cs_w_0_0 : List Value} {w_0 : T_stream_writer} {n1 : Int} {many2 : Int} {r : (List Int × Int)} (hF : P_stream_writer_bits_2 w_0 n1 many2 = some r) (h_w_0_0 : RepL (RpI .u8) ρ w_0.fb cs_w_0_0) (hS : St w0 w (cells b_w_0 175 [.slice A_w_0_0 n_w_0_0 c_w_0_0, .int .i64 w_0.fleft] :: vec 5 (RpI .u8).sz (.slice A_w_0_0 n_w_0_0 c_w_0_0) n_w_0_0 cs_w_0_0 :: ro ρ :: l)) :
    Calls Try.prog 88 #[.pointer (some ⟨b_w_0, 0, none⟩), .int .u64 n1, .int .i64 many2] w fun e w' => ∃ (A_b_w_0_0_ret : Option Addr) (n_b_w_0_0_ret : Nat) (c_b_w_0_0_ret : Nat) (cs_b_w_0_0_ret : List Value), e = .returned (.tuple #[]) ∧ RepL (RpI .u8) ρ r.1 cs_b_w_0_0_ret ∧ St w0 w' (cells b_w_0 175 [.slice A_b_w_0_0_ret n_b_w_0_0_ret c_b_w_0_0_ret, .int .i64 r.2] :: vec 5 (RpI .u8).sz (.slice A_b_w_0_0_ret n_b_w_0_0_ret c_b_w_0_0_ret) n_b_w_0_0_ret cs_b_w_0_0_ret :: ro ρ :: l) := by
  have e_ := St.vec_n (hS.pull 1) h_w_0_0; subst e_
  refine enterC Try.func88 rfl 61 rfl (by simp) ?_
  replace hF := ar_s hF; obtain ⟨x8, hx8, hF⟩ := hF
  refine x_seq <| x_region <| p (yl_move rfl) <| p (ysub rfl rfl hx8) <|
    p (yl_assign rfl) <| x_done <|
    ?_
  replace hF := bd_s hF; obtain ⟨oL1, hLL1, hF⟩ := hF
  refine x_join (fun E w => ∃ (A_b_w_0_0_L1 : Option Addr) (n_b_w_0_0_L1 : Nat) (c_b_w_0_0_L1 : Nat) (cs_b_w_0_0_L1 : List Value) (b_w_0_0_L1 : List Int) (b_w_0_1_L1 : Int), (b_w_0_0_L1, b_w_0_1_L1) = oL1 ∧ RepL (RpI .u8) ρ b_w_0_0_L1 cs_b_w_0_0_L1 ∧ St w0 w (cells b_w_0 175 [.slice A_b_w_0_0_L1 n_b_w_0_0_L1 c_b_w_0_0_L1, .int .i64 b_w_0_1_L1] :: vec 5 (RpI .u8).sz (.slice A_b_w_0_0_L1 n_b_w_0_0_L1 c_b_w_0_0_L1) n_b_w_0_0_L1 cs_b_w_0_0_L1 :: ro ρ :: l)) ?_ ?_
  · skip -- L1
    refine x_block ?_
    refine x_loop (fun k_ E w => ∃ (A_b_w_0_0_L1h : Option Addr) (n_b_w_0_0_L1h : Nat) (c_b_w_0_0_L1h : Nat) (cs_b_w_0_0_L1h : List Value) (i6_L1h : Int) (b_w_0_0_L1h : List Int) (b_w_0_1_L1h : Int), lp (P_stream_writer_bits_2_L1 n1) k_ (i6_L1h, b_w_0_0_L1h, b_w_0_1_L1h) = some oL1 ∧ E 0 = .pointer (some ⟨b_w_0, 0, none⟩) ∧ E 1 = .int .u64 n1 ∧ E 6 = .int .i64 i6_L1h ∧ RepL (RpI .u8) ρ b_w_0_0_L1h cs_b_w_0_0_L1h ∧ St w0 w (cells b_w_0 175 [.slice A_b_w_0_0_L1h n_b_w_0_0_L1h c_b_w_0_0_L1h, .int .i64 b_w_0_1_L1h] :: vec 5 (RpI .u8).sz (.slice A_b_w_0_0_L1h n_b_w_0_0_L1h c_b_w_0_0_L1h) n_b_w_0_0_L1h cs_b_w_0_0_L1h :: ro ρ :: l)) fuel ⟨A_w_0_0, w_0.fb.length, c_w_0_0, cs_w_0_0, x8, w_0.fb, w_0.fleft, hLL1, rfl, rfl, rfl, h_w_0_0, (((hS.pull 2).pull 2).pull 2)⟩ ?_
    rintro kL1 E w ⟨A_b_w_0_0_L1h, n_b_w_0_0_L1h, c_b_w_0_0_L1h, cs_b_w_0_0_L1h, i6_L1h, b_w_0_0_L1h, b_w_0_1_L1h, hLL1, eL1h_0, eL1h_1, eL1h_6, h_b_w_0_0_L1h, hS⟩
    have e_ := St.vec_n (hS.pull 1) h_b_w_0_0_L1h; subst e_
    replace hLL1 := lp_s hLL1; obtain ⟨kL1, obL1, rfl, hFL1, hLL1⟩ := hLL1
    refine x_seq <| x_seq <| x_region <| p (yl_move eL1h_6) <|
      p (yl_geq rfl rfl) <| x_done <|
      x_cond_p (0 ≤ i6_L1h) rfl (fun hc10 => ?_) (fun hc10 => ?_)
    · replace hFL1 := it_t hc10 hFL1
      refine x_skip <| x_seq <| x_block <| x_seq <|
        x_seq <| x_region <| p (yl_move eL1h_0) <| p (yl_nilCheck rfl) <|
        p (yl_field0 fld_175_1 rfl) <| pa (at_load one_3 rfl (hS.cell rfl)) <| p (yl_eql rfl rfl) <| x_done <|
        ?_
      replace hFL1 := bd_s hFL1; obtain ⟨oc17, hFc17, hFL1⟩ := hFL1
      refine x_join (fun E w => ∃ (A_b_w_0_0_c17 : Option Addr) (n_b_w_0_0_c17 : Nat) (c_b_w_0_0_c17 : Nat) (cs_b_w_0_0_c17 : List Value) (b_w_0_0_c17 : List Int) (b_w_0_1_c17 : Int), (b_w_0_0_c17, b_w_0_1_c17) = oc17 ∧ E 0 = .pointer (some ⟨b_w_0, 0, none⟩) ∧ E 1 = .int .u64 n1 ∧ E 6 = .int .i64 i6_L1h ∧ RepL (RpI .u8) ρ b_w_0_0_c17 cs_b_w_0_0_c17 ∧ St w0 w (cells b_w_0 175 [.slice A_b_w_0_0_c17 n_b_w_0_0_c17 c_b_w_0_0_c17, .int .i64 b_w_0_1_c17] :: vec 5 (RpI .u8).sz (.slice A_b_w_0_0_c17 n_b_w_0_0_c17 c_b_w_0_0_c17) n_b_w_0_0_c17 cs_b_w_0_0_c17 :: ro ρ :: l)) ?_ ?_
      · skip -- c17
        refine x_cond_p (b_w_0_1_L1h = 0) rfl (fun hc17 => ?_) (fun hc17 => ?_)
        · replace hFc17 := it_t hc17 hFc17
          refine x_region <| p (yl_move eL1h_0) <| p (yl_move eL1h_0) <| p (yl_move eL1h_0) <|
            p (yl_nilCheck rfl) <| p (yl_field0 fld_175_0 rfl) <| pa (at_load one_75 rfl (hS.cell rfl)) <|
            ?_
          refine o_buildSlice (vs := [.int .u8 0]) (cs := [.int .u8 0]) sl_75 zero_5 (parts_eq (pt (va := .int .u8 0) rfl pt0)) rfl (by intro v hv; simp only [List.mem_cons, List.not_mem_nil, or_false] at hv; first | (subst hv; rfl) | (rcases hv with rfl <;> rfl)) (by decide) rfl hS (fun b24 w' hS => ?_)
          replace hFc17 := lv_s hFc17; obtain ⟨z4_7, hz4_7, hFc17⟩ := hFc17
          replace hFc17 := ck_s hFc17; obtain ⟨hk4_7, hFc17⟩ := hFc17
          refine o_ap sl_75 zero_5 rfl (by decide) rfl rfl (hS.pull 2) h_b_w_0_0_L1h (src_blk usl_75 hS rfl rfl) (RepL.cons (R := (RpI .u8)) (ρ := ρ) (x := 0) (cs := [.int .u8 0]) rfl RepL.nil) hz4_7 hk4_7 (fun A25 c25 cs25 w' hr25 hS => ?_)
          refine p (yl_nilCheck rfl) <| p (yl_field0 fld_175_0 rfl) <|
            ?_
          refine o_store1 (v := .slice A25 z4_7.length c25) one_75 rfl rfl rfl rfl (hS.pull 2) (fun w' hS => ?_)
          refine p (yl_nilCheck rfl) <| p (yl_field0 fld_175_1 rfl) <|
            ?_
          refine o_store1 (v := .int .i64 8) one_3 rfl rfl rfl rfl hS (fun w' hS => ?_)
          refine x_done <|
            ?_
          exact x_inv ⟨A25, z4_7.length, c25, cs25, z4_7, 8, (Option.some.inj (show some _ = some _ from hFc17)), eL1h_0, eL1h_1, eL1h_6, hr25, ((((hS.pull 2).drop.pull 2).pull 2).pull 2)⟩
        · replace hFc17 := it_f hc17 hFc17
          refine x_skip <|
            ?_
          exact x_inv ⟨A_b_w_0_0_L1h, b_w_0_0_L1h.length, c_b_w_0_0_L1h, cs_b_w_0_0_L1h, b_w_0_0_L1h, b_w_0_1_L1h, (Option.some.inj (show some _ = some _ from hFc17)), eL1h_0, eL1h_1, eL1h_6, h_b_w_0_0_L1h, (((hS.pull 2).pull 2).pull 2)⟩
      rintro E w ⟨A_b_w_0_0_c17, n_b_w_0_0_c17, c_b_w_0_0_c17, cs_b_w_0_0_c17, b_w_0_0_c17, b_w_0_1_c17, rfl, ec17_0, ec17_1, ec17_6, h_b_w_0_0_c17, hS⟩
      have e_ := St.vec_n (hS.pull 1) h_b_w_0_0_c17; subst e_
      replace hFL1 := ar_s hFL1; obtain ⟨x34, hx34, hFL1⟩ := hFL1
      refine x_seq <| x_region <| p (yl_move ec17_0) <| p (yl_nilCheck rfl) <|
        p (yl_field0 fld_175_1 rfl) <| pa (at_load one_3 rfl (hS.cell rfl)) <| p (ysub rfl rfl hx34) <| p (yl_nilCheck rfl) <|
        p (yl_field0 fld_175_1 rfl) <|
        ?_
      refine o_store1 (v := .int .i64 x34) one_3 rfl rfl rfl rfl hS (fun w' hS => ?_)
      replace hFL1 := ar_s hFL1; obtain ⟨x46, hx46, hFL1⟩ := hFL1
      replace hFL1 := ck_s hFL1; obtain ⟨hk6_10, hFL1⟩ := hFL1
      replace hFL1 := lv_s hFL1; obtain ⟨x48, hx48, hFL1⟩ := hFL1
      replace hFL1 := ck_s hFL1; obtain ⟨hk6_14, hFL1⟩ := hFL1
      replace hFL1 := lv_s hFL1; obtain ⟨x51, hx51, hFL1⟩ := hFL1
      replace hFL1 := lv_s hFL1; obtain ⟨x52, hx52, hFL1⟩ := hFL1
      replace hFL1 := lv_s hFL1; obtain ⟨x53, hx53, hFL1⟩ := hFL1
      replace hFL1 := ck_s hFL1; obtain ⟨hk6_21, hFL1⟩ := hFL1
      replace hFL1 := lv_s hFL1; obtain ⟨x58, hx58, hFL1⟩ := hFL1
      replace hFL1 := lv_s hFL1; obtain ⟨x59, hx59, hFL1⟩ := hFL1
      replace hFL1 := ck_s hFL1; obtain ⟨hk6_23, hFL1⟩ := hFL1
      refine x_done <| x_head 24 mixed (by kernel_rfl) hS _ _ rfl rfl <| q (yl_move ec17_0) <| q (yl_nilCheck rfl) <|
        q (yl_field0 fld_175_0 rfl) <| qa (fun w' hS => at_load one_75 rfl (hS.cell rfl)) <| q (yl_move ec17_0) <| q (yl_nilCheck rfl) <|
        q (yl_field0 fld_175_0 rfl) <| qa (fun w' hS => at_load one_75 rfl (hS.cell rfl)) <| q (yl_len_slice usl_75 rfl) <| q (ysub rfl rfl hx46) <|
        q (yix_o sl_75 rfl rfl (hS.pull 1) h_b_w_0_0_c17 hk6_10) <| qa (fun w' hS => at_load one_5 rfl (RepL.getW h_b_w_0_0_c17 (hS.pull 1) hk6_10 hx48)) <| q (yl_move ec17_1) <| q (yl_move ec17_6) <|
        q (yshr rfl rfl hk6_14 hx51) <| q (yand rfl rfl hx52) <| q (yconvu wm_u8 uk_44 ik_5 rfl hx53) <| q (yl_move ec17_0) <|
        q (yl_nilCheck rfl) <| q (yl_field0 fld_175_1 rfl) <| qa (fun w' hS => at_load one_3 rfl (hS.cell rfl)) <| q (yshl rfl rfl hk6_21 hx58) <|
        q (yor rfl rfl hx59) <| q (yix_o sl_75 rfl rfl (hS.pull 1) h_b_w_0_0_c17 hk6_23) <|
        q_done fun w' hS => ?_
      replace hFL1 := lv_s hFL1; obtain ⟨z6_24, hz6_24, hFL1⟩ := hFL1
      refine o_put' (news := [.int .u8 x59]) sz_5 rfl rfl rfl rfl (o := 0) rfl hk6_23 rfl (hS.pull 1) h_b_w_0_0_c17 (Le.refl _) (fun c hc => ok_all hc (show (RpI .u8).ok ρ [.int .u8 x59] x59 from rfl)) hz6_24 (fun cs6_24 w' hr6_24 hS => ?_)
      replace hFL1 := ar_s hFL1; obtain ⟨x12, hx12, hFL1⟩ := hFL1
      refine x_done <| x_blk <| x_region <| p (yl_move ec17_6) <|
        p (ysub rfl rfl hx12) <| p (yl_assign rfl) <| x_done <|
        ?_
      have e_ := Option.some.inj (show some _ = some _ from hFL1); subst e_
      exact x_inv ⟨kL1, Nat.lt_succ_self _, A_b_w_0_0_c17, b_w_0_0_c17.length, c_b_w_0_0_c17, cs6_24, x12, z6_24, x34, hLL1, ec17_0, ec17_1, rfl, hr6_24, (((hS.pull 2).pull 1).pull 2)⟩
    · replace hFL1 := it_f hc10 hFL1
      refine x_exitTo _ rfl <|
        ?_
      have e_ := Option.some.inj (show some _ = some _ from hFL1); subst e_
      exact x_inv ⟨A_b_w_0_0_L1h, b_w_0_0_L1h.length, c_b_w_0_0_L1h, cs_b_w_0_0_L1h, b_w_0_0_L1h, b_w_0_1_L1h, hLL1, h_b_w_0_0_L1h, (((hS.pull 2).pull 2).pull 2)⟩
  rintro E w ⟨A_b_w_0_0_L1, n_b_w_0_0_L1, c_b_w_0_0_L1, cs_b_w_0_0_L1, b_w_0_0_L1, b_w_0_1_L1, rfl, h_b_w_0_0_L1, hS⟩
  have e_ := St.vec_n (hS.pull 1) h_b_w_0_0_L1; subst e_
  have e_ := Option.some.inj (show some _ = some _ from hF); subst e_
  exact x_fin ⟨_, rfl, A_b_w_0_0_L1, b_w_0_0_L1.length, c_b_w_0_0_L1, cs_b_w_0_0_L1, rfl, h_b_w_0_0_L1, (((hS.pull 2).pull 2).pull 2)⟩
attribute [irreducible] P_stream_writer_bits_2

def P_stream_Sum_L7 : (Int × Int) → Option ((Int × Int) ⊕ Int) := fun (r3_L7h, y17_L7h) =>
  if y17_L7h < 8 then
    lv (bAnd .u16 r3_L7h 32768) fun x20 =>
    bd (
      if x20 ≠ 0 then
        ck (0 ≤ (1 : Int)) <|
        lv (shl .u16 r3_L7h 1) fun x23 =>
        lv (bXor .u16 x23 4129) fun x24 =>
        some x24
      else
        ck (0 ≤ (1 : Int)) <|
        lv (shl .u16 r3_L7h 1) fun x26 =>
        some x26) fun r3_c21 =>
    ar (y17_L7h + 1) fun x27 =>
    some (Sum.inl (r3_c21, x27))
  else
    some (Sum.inr r3_L7h)
def P_stream_Sum_L3 (b0 : List Int) : (Int × Int) → Option ((Int × Int) ⊕ Int) := fun (r3_L3h, y8_L3h) =>
  if y8_L3h < (b0.length : Int) then
    ck (inb y8_L3h b0.length) <|
    lv (gt b0 y8_L3h) fun x11 =>
    lv (x11 % 65536) fun x14 =>
    ck (0 ≤ (8 : Int)) <|
    lv (shl .u16 x14 8) fun x15 =>
    lv (bXor .u16 r3_L3h x15) fun x16 =>
    bd (
      lp P_stream_Sum_L7 fuel (x16, 0)) fun r3_L7 =>
    ar (y8_L3h + 1) fun x28 =>
    some (Sum.inl (r3_L7, x28))
  else
    some (Sum.inr r3_L3h)
def P_stream_Sum (b0 : List Int) : Option Int :=
  bd (
    lp (P_stream_Sum_L3 b0) fuel (65535, 0)) fun r3_L3 =>
  some r3_L3
set_option maxHeartbeats 4000000 in
set_option maxRecDepth 100000 in
theorem c_stream_Sum {w0 w : World} {l : List Assn} {ρ : Heap} {A_b0 : Option Addr} {n_b0 : Nat} {c_b0 : Nat} {b0 : List Int} {r : Int} (hF : P_stream_Sum b0 = some r) (h_b0 : RdS (RpI .u8) ρ A_b0 n_b0 c_b0 b0) (hS : St w0 w (ro ρ :: l)) :
    Calls Try.prog 93 #[.slice A_b0 n_b0 c_b0] w fun e w' => e = .returned (.int .u16 r) ∧ St w0 w' (ro ρ :: l) := by
  have e_ := h_b0.n; subst e_
  refine enterC Try.func93 rfl 30 rfl (by simp) ?_
  refine x_seq <| x_region <| p (yl_assign rfl) <| x_done <|
    x_seq <| x_region <| p (yl_assign rfl) <| x_done <|
    x_seq <| x_seq <| x_region <| p (yl_move rfl) <|
    p (yl_len_slice usl_75 rfl) <| p (yl_move rfl) <| x_done <|
    ?_
  replace hF := bd_s hF; obtain ⟨oL3, hLL3, hF⟩ := hF
  refine x_join (fun E w => ∃ (r3_L3 : Int), r3_L3 = oL3 ∧ E 3 = .int .u16 r3_L3 ∧ St w0 w (ro ρ :: l)) ?_ ?_
  · skip -- L3
    refine x_block ?_
    refine x_loop (fun k_ E w => ∃ (r3_L3h : Int) (y8_L3h : Int), lp (P_stream_Sum_L3 b0) k_ (r3_L3h, y8_L3h) = some oL3 ∧ E 3 = .int .u16 r3_L3h ∧ E 6 = .slice A_b0 b0.length c_b0 ∧ E 7 = .int .i64 (b0.length : Int) ∧ E 8 = .int .i64 y8_L3h ∧ St w0 w (ro ρ :: l)) fuel ⟨65535, 0, hLL3, rfl, rfl, rfl, rfl, hS⟩ ?_
    rintro kL3 E w ⟨r3_L3h, y8_L3h, hLL3, eL3h_3, eL3h_6, eL3h_7, eL3h_8, hS⟩
    replace hLL3 := lp_s hLL3; obtain ⟨kL3, obL3, rfl, hFL3, hLL3⟩ := hLL3
    refine x_seq <| x_region <| p (yl_lss eL3h_8 eL3h_7) <| x_done <|
      x_seq <|
      x_cond_p (y8_L3h < (b0.length : Int)) rfl (fun hc9 => ?_) (fun hc9 => ?_)
    · replace hFL3 := it_t hc9 hFL3
      replace hFL3 := ck_s hFL3; obtain ⟨hk4_0, hFL3⟩ := hFL3
      replace hFL3 := lv_s hFL3; obtain ⟨x11, hx11, hFL3⟩ := hFL3
      replace hFL3 := lv_s hFL3; obtain ⟨x14, hx14, hFL3⟩ := hFL3
      replace hFL3 := ck_s hFL3; obtain ⟨hk5_3, hFL3⟩ := hFL3
      replace hFL3 := lv_s hFL3; obtain ⟨x15, hx15, hFL3⟩ := hFL3
      replace hFL3 := lv_s hFL3; obtain ⟨x16, hx16, hFL3⟩ := hFL3
      refine x_skip <| x_seq <| x_block <| x_seq <|
        x_region <| p (yix_f sl_75 eL3h_6 eL3h_8 h_b0 hk4_0) <| pa (at_load one_5 rfl (RdS.getW h_b0 hS hk4_0 hx11)) <| p (yl_assign rfl) <|
        x_done <| x_seq <| x_region <| p (yl_move eL3h_3) <|
        p (yl_move rfl) <| p (yconvu wm_u16 uk_5 ik_179 rfl hx14) <| p (yshl rfl rfl hk5_3 hx15) <| p (yxor rfl rfl hx16) <|
        p (yl_assign rfl) <| x_done <| x_seq <| x_region <|
        p (yl_move rfl) <| x_done <|
        ?_
      replace hFL3 := bd_s hFL3; obtain ⟨oL7, hLL7, hFL3⟩ := hFL3
      refine x_join (fun E w => ∃ (r3_L7 : Int), r3_L7 = oL7 ∧ E 3 = .int .u16 r3_L7 ∧ E 6 = .slice A_b0 b0.length c_b0 ∧ E 7 = .int .i64 (b0.length : Int) ∧ E 8 = .int .i64 y8_L3h ∧ St w0 w (ro ρ :: l)) ?_ ?_
      · skip -- L7
        refine x_block ?_
        refine x_loop (fun k_ E w => ∃ (r3_L7h : Int) (y17_L7h : Int), lp P_stream_Sum_L7 k_ (r3_L7h, y17_L7h) = some oL7 ∧ E 3 = .int .u16 r3_L7h ∧ E 6 = .slice A_b0 b0.length c_b0 ∧ E 7 = .int .i64 (b0.length : Int) ∧ E 8 = .int .i64 y8_L3h ∧ E 17 = .int .i64 y17_L7h ∧ St w0 w (ro ρ :: l)) fuel ⟨x16, 0, hLL7, rfl, eL3h_6, eL3h_7, eL3h_8, rfl, hS⟩ ?_
        rintro kL7 E w ⟨r3_L7h, y17_L7h, hLL7, eL7h_3, eL7h_6, eL7h_7, eL7h_8, eL7h_17, hS⟩
        replace hLL7 := lp_s hLL7; obtain ⟨kL7, obL7, rfl, hFL7, hLL7⟩ := hLL7
        refine x_seq <| x_region <| p (yl_lss eL7h_17 rfl) <| x_done <|
          x_seq <|
          x_cond_p (y17_L7h < 8) rfl (fun hc18 => ?_) (fun hc18 => ?_)
        · replace hFL7 := it_t hc18 hFL7
          replace hFL7 := lv_s hFL7; obtain ⟨x20, hx20, hFL7⟩ := hFL7
          refine x_skip <| x_seq <| x_block <| x_seq <|
            x_region <| p (yl_move eL7h_3) <| p (yand rfl rfl hx20) <| p (yl_neq rfl rfl) <|
            x_done <|
            ?_
          replace hFL7 := bd_s hFL7; obtain ⟨oc21, hFc21, hFL7⟩ := hFL7
          refine x_join (fun E w => ∃ (r3_c21 : Int), r3_c21 = oc21 ∧ E 3 = .int .u16 r3_c21 ∧ E 6 = .slice A_b0 b0.length c_b0 ∧ E 7 = .int .i64 (b0.length : Int) ∧ E 8 = .int .i64 y8_L3h ∧ E 17 = .int .i64 y17_L7h ∧ St w0 w (ro ρ :: l)) ?_ ?_
          · skip -- c21
            refine x_cond_p (x20 ≠ 0) rfl (fun hc21 => ?_) (fun hc21 => ?_)
            · replace hFc21 := it_t hc21 hFc21
              replace hFc21 := ck_s hFc21; obtain ⟨hk9_1, hFc21⟩ := hFc21
              replace hFc21 := lv_s hFc21; obtain ⟨x23, hx23, hFc21⟩ := hFc21
              replace hFc21 := lv_s hFc21; obtain ⟨x24, hx24, hFc21⟩ := hFc21
              refine x_region <| p (yl_move eL7h_3) <| p (yshl rfl rfl hk9_1 hx23) <| p (yxor rfl rfl hx24) <|
                p (yl_assign rfl) <| x_done <|
                ?_
              exact x_inv ⟨x24, (Option.some.inj (show some _ = some _ from hFc21)), rfl, eL7h_6, eL7h_7, eL7h_8, eL7h_17, hS⟩
            · replace hFc21 := it_f hc21 hFc21
              replace hFc21 := ck_s hFc21; obtain ⟨hk10_1, hFc21⟩ := hFc21
              replace hFc21 := lv_s hFc21; obtain ⟨x26, hx26, hFc21⟩ := hFc21
              refine x_region <| p (yl_move eL7h_3) <| p (yshl rfl rfl hk10_1 hx26) <| p (yl_assign rfl) <|
                x_done <|
                ?_
              exact x_inv ⟨x26, (Option.some.inj (show some _ = some _ from hFc21)), rfl, eL7h_6, eL7h_7, eL7h_8, eL7h_17, hS⟩
          rintro E w ⟨r3_c21, rfl, ec21_3, ec21_6, ec21_7, ec21_8, ec21_17, hS⟩
          replace hFL7 := ar_s hFL7; obtain ⟨x27, hx27, hFL7⟩ := hFL7
          refine x_blk <| x_region <| p (yadd ec21_17 rfl hx27) <| p (yl_move rfl) <|
            x_done <|
            ?_
          have e_ := Option.some.inj (show some _ = some _ from hFL7); subst e_
          exact x_inv ⟨kL7, Nat.lt_succ_self _, r3_c21, x27, hLL7, ec21_3, ec21_6, ec21_7, ec21_8, rfl, hS⟩
        · replace hFL7 := it_f hc18 hFL7
          refine x_exitTo _ rfl <|
            ?_
          have e_ := Option.some.inj (show some _ = some _ from hFL7); subst e_
          exact x_inv ⟨r3_L7h, hLL7, eL7h_3, eL7h_6, eL7h_7, eL7h_8, hS⟩
      rintro E w ⟨r3_L7, rfl, eL7_3, eL7_6, eL7_7, eL7_8, hS⟩
      replace hFL3 := ar_s hFL3; obtain ⟨x28, hx28, hFL3⟩ := hFL3
      refine x_blk <| x_region <| p (yadd eL7_8 rfl hx28) <| p (yl_move rfl) <|
        x_done <|
        ?_
      have e_ := Option.some.inj (show some _ = some _ from hFL3); subst e_
      exact x_inv ⟨kL3, Nat.lt_succ_self _, r3_L7, x28, hLL3, eL7_3, eL7_6, eL7_7, rfl, hS⟩
    · replace hFL3 := it_f hc9 hFL3
      refine x_exitTo _ rfl <|
        ?_
      have e_ := Option.some.inj (show some _ = some _ from hFL3); subst e_
      exact x_inv ⟨r3_L3h, hLL3, eL3h_3, hS⟩
  rintro E w ⟨r3_L3, rfl, eL3_3, hS⟩
  refine x_seq <| x_region <| p (yl_move eL3_3) <| p (yl_assign rfl) <|
    x_done <|
    ?_
  have e_ := Option.some.inj (show some _ = some _ from hF); subst e_
  exact x_return ⟨_, ⟨_, _, rfl, rfl, rfl⟩, rfl, hS⟩
attribute [irreducible] P_stream_Sum

def P_stream_closed (number0 : Int) (w_1 : T_stream_writer) : Option (List Int) :=
  ck (0 ≤ (8 : Int)) <|
  lv (shr .i64 number0 8) fun x7 =>
  lv (x7 % 256) fun x8 =>
  lv (number0 % 256) fun x10 =>
  lv (([x8, x10] : List Int) ++ w_1.fb) fun z1_10 =>
  ck (apOk 1 z1_10.length) <|
  bd (P_stream_Sum z1_10) fun r1_11 =>
  ck (0 ≤ (8 : Int)) <|
  lv (shr .u16 r1_11 8) fun x23 =>
  lv (x23 % 256) fun x24 =>
  lv (r1_11 % 256) fun x26 =>
  lv (w_1.fb ++ [x24, x26]) fun z2_10 =>
  ck (apOk 1 z2_10.length) <|
  some z2_10
set_option maxHeartbeats 4000000 in
set_option maxRecDepth 100000 in
theorem c_stream_closed {w0 w : World} {l : List Assn} {ρ : Heap} {b_w_1 : Nat} {A_w_1_0 : Option Addr} {n_w_1_0 : Nat} {c_w_1_0 : Nat} {cs_w_1_0 : List Value} {number0 : Int} {w_1 : T_stream_writer} {r : List Int} (hF : P_stream_closed number0 w_1 = some r) (h_w_1_0 : RepL (RpI .u8) ρ w_1.fb cs_w_1_0) (hS : St w0 w (cells b_w_1 175 [.slice A_w_1_0 n_w_1_0 c_w_1_0, .int .i64 w_1.fleft] :: vec 5 (RpI .u8).sz (.slice A_w_1_0 n_w_1_0 c_w_1_0) n_w_1_0 cs_w_1_0 :: ro ρ :: l)) :
    Calls Try.prog 89 #[.int .i64 number0, .pointer (some ⟨b_w_1, 0, none⟩)] w fun e w' => ∃ (A_y0_ret : Option Addr) (n_y0_ret : Nat) (c_y0_ret : Nat) (cs_y0_ret : List Value) (dvb_w_1_0_ret : Value), e = .returned (.slice A_y0_ret n_y0_ret c_y0_ret) ∧ RepL (RpI .u8) ρ r cs_y0_ret ∧ St w0 w' (vec 5 (RpI .u8).sz (.slice A_y0_ret n_y0_ret c_y0_ret) n_y0_ret cs_y0_ret :: cells b_w_1 175 [dvb_w_1_0_ret, .int .i64 w_1.fleft] :: ro ρ :: l) := by
  have e_ := St.vec_n (hS.pull 1) h_w_1_0; subst e_
  refine enterC Try.func89 rfl 29 rfl (by simp) ?_
  replace hF := ck_s hF; obtain ⟨hk1_1, hF⟩ := hF
  replace hF := lv_s hF; obtain ⟨x7, hx7, hF⟩ := hF
  replace hF := lv_s hF; obtain ⟨x8, hx8, hF⟩ := hF
  replace hF := lv_s hF; obtain ⟨x10, hx10, hF⟩ := hF
  refine x_seq <| x_region <| p (yl_assign rfl) <| x_done <|
    x_seq <| x_region <| p (yl_move rfl) <| p (yshr rfl rfl hk1_1 hx7) <|
    p (yconvu wm_u8 uk_3 ik_5 rfl hx8) <| p (yl_move rfl) <| p (yconvu wm_u8 uk_3 ik_5 rfl hx10) <|
    ?_
  refine o_buildSlice (vs := [.int .u8 x8, .int .u8 x10]) (cs := [.int .u8 x8, .int .u8 x10]) sl_75 zero_5 (parts_eq (pt (va := .int .u8 x8) rfl (pt (va := .int .u8 x10) rfl pt0))) rfl (by intro v hv; simp only [List.mem_cons, List.not_mem_nil, or_false] at hv; first | (subst hv; rfl) | (rcases hv with rfl | rfl <;> rfl)) (by decide) rfl hS (fun b11 w' hS => ?_)
  refine p (yl_move rfl) <| p (yl_nilCheck rfl) <| p (yl_field0 fld_175_0 rfl) <| pa (at_load one_75 rfl ((hS.pull 1).cell rfl)) <|
    ?_
  have hl1_10 : RepL (RpI .u8) ρ ([x8, x10] : List Int) [.int .u8 x8, .int .u8 x10] := (RepL.cons (cs := [.int .u8 x8]) rfl (RepL.cons (cs := [.int .u8 x10]) rfl RepL.nil))
  replace hS := St.vec_of (n := 2) (sz := (RpI .u8).sz) hS rfl (by decide)
  replace hF := lv_s hF; obtain ⟨z1_10, hz1_10, hF⟩ := hF
  replace hF := ck_s hF; obtain ⟨hk1_10, hF⟩ := hF
  refine o_ap sl_75 zero_5 rfl (by decide) rfl rfl hS hl1_10 (src_o usl_75 (hS.pull 2) h_w_1_0) h_w_1_0 hz1_10 hk1_10 (fun A16 c16 cs16 w' hr16 hS => ?_)
  replace hF := bd_s hF; obtain ⟨r1_11, hc1_11, hF⟩ := hF
  have q_ := St.lend ((hS.pull 3).pull 1) hr16; obtain ⟨ρl0, hll0, hlf0, hS0, back0⟩ := q_
  have hcall := c_stream_Sum hc1_11 hlf0 hS0
  refine o_cc call_93 (args1 rfl) ((Calls.mono hcall (fun e w'' h => And.intro h.1 (((((back0 h.2).pull 1).pull 3).pull 3).pull 3)))) ?_
  rintro e w' ⟨rfl, hS⟩
  refine ⟨_, rfl, ?_⟩
  replace hF := ck_s hF; obtain ⟨hk2_5, hF⟩ := hF
  replace hF := lv_s hF; obtain ⟨x23, hx23, hF⟩ := hF
  replace hF := lv_s hF; obtain ⟨x24, hx24, hF⟩ := hF
  replace hF := lv_s hF; obtain ⟨x26, hx26, hF⟩ := hF
  refine p (v := .int .u16 r1_11) (yl_assign rfl) <| x_done <| x_seq <| x_region <|
    p (yl_move rfl) <| p (yl_nilCheck rfl) <| p (yl_field0 fld_175_0 rfl) <| pa (at_load one_75 rfl ((hS.pull 1).cell rfl)) <|
    p (v := .int .u16 r1_11) (yl_move rfl) <| p (yshr rfl rfl hk2_5 hx23) <| p (yconvu wm_u8 uk_179 ik_5 rfl hx24) <| p (v := .int .u16 r1_11) (yl_move rfl) <|
    p (yconvu wm_u8 uk_179 ik_5 rfl hx26) <|
    ?_
  refine o_buildSlice (vs := [.int .u8 x24, .int .u8 x26]) (cs := [.int .u8 x24, .int .u8 x26]) sl_75 zero_5 (parts_eq (pt (va := .int .u8 x24) rfl (pt (va := .int .u8 x26) rfl pt0))) rfl (by intro v hv; simp only [List.mem_cons, List.not_mem_nil, or_false] at hv; first | (subst hv; rfl) | (rcases hv with rfl | rfl <;> rfl)) (by decide) rfl hS (fun b27 w' hS => ?_)
  replace hF := lv_s hF; obtain ⟨z2_10, hz2_10, hF⟩ := hF
  replace hF := ck_s hF; obtain ⟨hk2_10, hF⟩ := hF
  refine o_ap sl_75 zero_5 rfl (by decide) rfl rfl (hS.pull 3) h_w_1_0 (src_blk usl_75 hS rfl rfl) (RepL.cons (R := (RpI .u8)) (ρ := ρ) (x := x24) (cs := [.int .u8 x24]) rfl (RepL.cons (R := (RpI .u8)) (ρ := ρ) (x := x26) (cs := [.int .u8 x26]) rfl RepL.nil)) hz2_10 hk2_10 (fun A28 c28 cs28 w' hr28 hS => ?_)
  refine p (yl_assign rfl) <| x_done <|
    ?_
  have e_ := Option.some.inj (show some _ = some _ from hF); subst e_
  exact x_return ⟨_, ⟨_, _, rfl, rfl, rfl⟩, A28, z2_10.length, c28, cs28, .slice A_w_1_0 w_1.fb.length c_w_1_0, rfl, hr28, (((((hS.pull 1).drop.pull 1).drop.pull 2).pull 2).pull 2)⟩
attribute [irreducible] P_stream_closed

def P_stream_size_L2 (most0 : Int) : Int → Option (Int ⊕ Int) := fun n3_L2h =>
  ck (0 ≤ n3_L2h) <|
  lv (shr .i64 most0 n3_L2h) fun x6 =>
  if 0 < x6 then
    ar (n3_L2h + 1) fun x9 =>
    some (Sum.inl x9)
  else
    some (Sum.inr n3_L2h)
def P_stream_size (most0 : Int) : Option Int :=
  bd (
    lp (P_stream_size_L2 most0) fuel 0) fun n3_L2 =>
  some n3_L2
set_option maxHeartbeats 4000000 in
set_option maxRecDepth 100000 in
theorem c_stream_size {w0 w : World} {l : List Assn} {ρ : Heap} {most0 : Int} {r : Int} (hF : P_stream_size most0 = some r) (hS : St w0 w (ro ρ :: l)) :
    Calls Try.prog 133 #[.int .i64 most0] w fun e w' => e = .returned (.int .i64 r) ∧ St w0 w' (ro ρ :: l) := by
  refine enterC Try.func133 rfl 11 rfl (by simp) ?_
  refine x_seq <| x_region <| p (yl_assign rfl) <| x_done <|
    x_seq <| x_region <| p (yl_assign rfl) <| x_done <|
    x_seq <|
    ?_
  replace hF := bd_s hF; obtain ⟨oL2, hLL2, hF⟩ := hF
  refine x_join (fun E w => ∃ (n3_L2 : Int), n3_L2 = oL2 ∧ E 3 = .int .i64 n3_L2 ∧ St w0 w (ro ρ :: l)) ?_ ?_
  · skip -- L2
    refine x_block ?_
    refine x_loop (fun k_ E w => ∃ (n3_L2h : Int), lp (P_stream_size_L2 most0) k_ n3_L2h = some oL2 ∧ E 0 = .int .i64 most0 ∧ E 3 = .int .i64 n3_L2h ∧ St w0 w (ro ρ :: l)) fuel ⟨0, hLL2, rfl, rfl, hS⟩ ?_
    rintro kL2 E w ⟨n3_L2h, hLL2, eL2h_0, eL2h_3, hS⟩
    replace hLL2 := lp_s hLL2; obtain ⟨kL2, obL2, rfl, hFL2, hLL2⟩ := hLL2
    replace hFL2 := ck_s hFL2; obtain ⟨hk2_2, hFL2⟩ := hFL2
    replace hFL2 := lv_s hFL2; obtain ⟨x6, hx6, hFL2⟩ := hFL2
    refine x_seq <| x_seq <| x_region <| p (yl_move eL2h_0) <|
      p (yl_move eL2h_3) <| p (yshr rfl rfl hk2_2 hx6) <| p (yl_gtr rfl rfl) <| x_done <|
      x_cond_p (0 < x6) rfl (fun hc7 => ?_) (fun hc7 => ?_)
    · replace hFL2 := it_t hc7 hFL2
      replace hFL2 := ar_s hFL2; obtain ⟨x9, hx9, hFL2⟩ := hFL2
      refine x_skip <| x_block <| x_region <| p (yl_move eL2h_3) <|
        p (yadd rfl rfl hx9) <| p (yl_assign rfl) <| x_done <| x_blk <|
        ?_
      have e_ := Option.some.inj (show some _ = some _ from hFL2); subst e_
      exact x_inv ⟨kL2, Nat.lt_succ_self _, x9, hLL2, eL2h_0, rfl, hS⟩
    · replace hFL2 := it_f hc7 hFL2
      refine x_exitTo _ rfl <|
        ?_
      have e_ := Option.some.inj (show some _ = some _ from hFL2); subst e_
      exact x_inv ⟨n3_L2h, hLL2, eL2h_3, hS⟩
  rintro E w ⟨n3_L2, rfl, eL2_3, hS⟩
  refine x_seq <| x_region <| p (yl_move eL2_3) <| p (yl_assign rfl) <|
    x_done <|
    ?_
  have e_ := Option.some.inj (show some _ = some _ from hF); subst e_
  exact x_return ⟨_, ⟨_, _, rfl, rfl, rfl⟩, rfl, hS⟩
attribute [irreducible] P_stream_size


end Go.Proofs.Ytnooiajahmichaa.X
