/- Printed by gen.py: plain functions, and that the Go code computes them. -/
import Derived.Test.YtnooiajahmichaaYR
import Derived.Test.YtnooiajahmichaaXTS
import Derived.Test.YtnooiajahmichaaGSp0
import Derived.Test.YtnooiajahmichaaGSp1
namespace Go.Proofs.Ytnooiajahmichaa.X
open Go Go.RowKit
set_option linter.unusedVariables false
set_option linter.unusedSimpArgs false

def P_slices_Index_array_Pad_array_Pad_L2 (s0 : List T_array_Pad) (v1 : T_array_Pad) : Int → Option (Int ⊕ (Unit ⊕ Int)) := fun q2 =>
  if q2 < (s0.length : Int) then
    ck (inb q2 s0.length) <|
    lv (gt s0 q2) fun q3 =>
    lv ((v1.Row == q3.Row) && ((v1.Col == q3.Col) && ((v1.Side == q3.Side) && ((v1.Track == q3.Track) && true)))) fun x16 =>
    if x16 = true then
      some (Sum.inr (Sum.inr q2))
    else
      ar (q2 + 1) fun x18 =>
      some (Sum.inl x18)
  else
    some (Sum.inr (Sum.inl ()))
def P_slices_Index_array_Pad_array_Pad (s0 : List T_array_Pad) (v1 : T_array_Pad) : Option Int :=
  bs (
    lp (P_slices_Index_array_Pad_array_Pad_L2 s0 v1) fuel 0) (fun y => some y) fun _ =>
  some (-1 : Int)
set_option maxHeartbeats 4000000 in
set_option maxRecDepth 100000 in
theorem c_slices_Index_array_Pad_array_Pad {w0 w : World} {l : List Assn} {ρ : Heap} {q8 : Option Addr} {q0c : Nat} {c_s0 : Nat} {s0 : List T_array_Pad} {v1 : T_array_Pad} {r : Int} (hF : P_slices_Index_array_Pad_array_Pad s0 v1 = some r) (q9 : RdS R_array_Pad ρ q8 q0c c_s0 s0) (hS : St w0 w (ro ρ :: l)) :
    Calls Try.prog 169 #[.slice q8 q0c c_s0, .agg #[.int .i64 v1.Row, .int .i64 v1.Col, .int .i64 v1.Side, .int .i64 v1.Track]] w fun e w' => e = .returned (.int .i64 r) ∧ St w0 w' (ro ρ :: l) := by
  have e_ := q9.n; subst e_
  refine enterC Try.func169 rfl 19 rfl (by simp) ?_
  refine x_seq <| x_region <|
    ?_
  refine o_box (cs := [.int .i64 v1.Row, .int .i64 v1.Col, .int .i64 v1.Side, .int .i64 v1.Track]) rfl rfl hS (fun b3 w' hS => ?_)
  refine p (yl_assign rfl) <| x_done <| x_seq <| x_seq <|
    x_region <| p (yl_move rfl) <| p (yl_len_slice usl_79 rfl) <| p (yl_move rfl) <|
    x_done <|
    ?_
  replace hF := bs_s hF; obtain ⟨oL2, hLL2, hF⟩ := hF
  refine x_join (fun E w => (Sum.inl (())) = oL2 ∧ St w0 w (ro ρ :: l)) ?_ ?_
  · skip -- L2
    refine x_block ?_
    refine x_loop (fun k_ E w => ∃ (q2 : Int), lp (P_slices_Index_array_Pad_array_Pad_L2 s0 v1) k_ q2 = some oL2 ∧ E 0 = .slice q8 s0.length c_s0 ∧ E 3 = .pointer (some ⟨b3, 0, none⟩) ∧ E 7 = .int .i64 (s0.length : Int) ∧ E 8 = .int .i64 q2 ∧ St w0 w (cells b3 187 [.int .i64 v1.Row, .int .i64 v1.Col, .int .i64 v1.Side, .int .i64 v1.Track] :: ro ρ :: l)) fuel ⟨0, hLL2, rfl, rfl, rfl, rfl, ((hS.pull 1).pull 1)⟩ ?_
    rintro kL2 E w ⟨q2, hLL2, q5, q6, q7, q3, hS⟩
    replace hLL2 := lp_s hLL2; obtain ⟨kL2, obL2, rfl, hFL2, hLL2⟩ := hLL2
    refine x_seq <| x_region <| p (yl_lss q3 q7) <| x_done <|
      x_seq <|
      x_cond_p (q2 < (s0.length : Int)) rfl (fun hc9 => ?_) (fun hc9 => ?_)
    · replace hFL2 := it_t hc9 hFL2
      replace hFL2 := ck_s hFL2; obtain ⟨q0a, hFL2⟩ := hFL2
      replace hFL2 := lv_s hFL2; obtain ⟨q4, q0d, hFL2⟩ := hFL2
      have q_ := q9.get q0a; obtain ⟨q0f, q0b, q0e⟩ := q_
      rw [← q0d] at q0b
      have e_ := q0b; subst e_
      replace hFL2 := lv_s hFL2; obtain ⟨x16, hx16, hFL2⟩ := hFL2
      refine x_skip <| x_seq <| x_block <| x_seq <|
        x_region <| p (yl_move q3) <| p (yl_assign rfl) <| x_done <|
        x_seq <| x_still mixed (by kernel_rfl) hS <| qa (v := .agg #[.int .i64 v1.Row, .int .i64 v1.Col, .int .i64 v1.Side, .int .i64 v1.Track]) (fun w' hS => ld_sub agg_187 q6 rfl rfl hS) <| q (yl_move q5) <|
        q (yl_move rfl) <| q (yix_f sl_79 rfl rfl q9 q0a) <| qa (v := .agg #[.int .i64 q4.Row, .int .i64 q4.Col, .int .i64 q4.Side, .int .i64 q4.Track]) (fun w' hS => at_loadAgg agg_187 rfl rfl (Elt.every q0e (hS.pull 1))) <| q (yeqs eqs_187 rfl rfl rfl hx16) <|
        q_done fun w' hS => ?_
      refine x_cond (t := x16) rfl (fun hc16 => ?_) (fun hc16 => ?_)
      · replace hFL2 := it_t hc16 hFL2
        refine x_seq <| x_region <| p (yl_move rfl) <| p (yl_assign rfl) <|
          x_done <|
          ?_
        have e_ := Option.some.inj (show some _ = some _ from hFL2); subst e_
        have e_ := (show _ = oL2 from hLL2); subst e_
        have e_ := Option.some.inj (show some _ = some _ from hF); subst e_
        exact x_return ⟨_, ⟨_, _, rfl, rfl, rfl⟩, rfl, hS.drop⟩
      · replace hFL2 := it_bf hc16 hFL2
        replace hFL2 := ar_s hFL2; obtain ⟨x18, hx18, hFL2⟩ := hFL2
        refine x_skip <| x_blk <| x_region <| p (yadd q3 rfl hx18) <|
          p (yl_move rfl) <| x_done <|
          ?_
        have e_ := Option.some.inj (show some _ = some _ from hFL2); subst e_
        exact x_inv ⟨kL2, Nat.lt_succ_self _, x18, hLL2, q5, q6, q7, rfl, ((hS.pull 1).pull 1)⟩
    · replace hFL2 := it_f hc9 hFL2
      refine x_exitTo _ rfl <|
        ?_
      have e_ := Option.some.inj (show some _ = some _ from hFL2); subst e_
      exact x_inv ⟨hLL2, hS.drop⟩
  rintro E w ⟨rfl, hS⟩
  refine x_seq <| x_region <| p (yl_assign rfl) <| x_done <|
    ?_
  have e_ := Option.some.inj (show some _ = some _ from hF); subst e_
  exact x_return ⟨_, ⟨_, _, rfl, rfl, rfl⟩, rfl, hS⟩
attribute [irreducible] P_slices_Index_array_Pad_array_Pad

def P_slices_Contains_array_Pad_array_Pad (s0 : List T_array_Pad) (v1 : T_array_Pad) : Option Bool :=
  bd (P_slices_Index_array_Pad_array_Pad s0 v1) fun q2 =>
  some (decide (0 ≤ q2))
set_option maxHeartbeats 4000000 in
set_option maxRecDepth 100000 in
theorem c_slices_Contains_array_Pad_array_Pad {w0 w : World} {l : List Assn} {ρ : Heap} {q2 : Option Addr} {q3 : Nat} {c_s0 : Nat} {s0 : List T_array_Pad} {v1 : T_array_Pad} {r : Bool} (hF : P_slices_Contains_array_Pad_array_Pad s0 v1 = some r) (q4 : RdS R_array_Pad ρ q2 q3 c_s0 s0) (hS : St w0 w (ro ρ :: l)) :
    Calls Try.prog 154 #[.slice q2 q3 c_s0, .agg #[.int .i64 v1.Row, .int .i64 v1.Col, .int .i64 v1.Side, .int .i64 v1.Track]] w fun e w' => e = .returned (.bool r) ∧ St w0 w' (ro ρ :: l) := by
  have e_ := q4.n; subst e_
  refine enterC Try.func154 rfl 9 rfl (by simp) ?_
  refine x_seq <| x_region <|
    ?_
  refine o_box (cs := [.int .i64 v1.Row, .int .i64 v1.Col, .int .i64 v1.Side, .int .i64 v1.Track]) rfl rfl hS (fun b3 w' hS => ?_)
  replace hF := bd_s hF; obtain ⟨q6, q5, hF⟩ := hF
  refine p (yl_assign rfl) <| x_done <| x_seq <| x_region <|
    p (yl_move rfl) <| pa (v := .agg #[.int .i64 v1.Row, .int .i64 v1.Col, .int .i64 v1.Side, .int .i64 v1.Track]) (ld_sub agg_187 rfl rfl rfl hS) <|
    ?_
  have hcall := c_slices_Index_array_Pad_array_Pad q5 q4 (hS.pull 1)
  refine o_cc call_169 (args2 rfl rfl) ((Calls.mono hcall (fun e w'' h => And.intro h.1 (h.2.pull 1)))) ?_
  rintro e w' ⟨rfl, hS⟩
  refine ⟨_, rfl, ?_⟩
  refine p (yl_geq rfl rfl) <| p (yl_assign rfl) <| x_done <|
    ?_
  have e_ := Option.some.inj (show some _ = some _ from hF); subst e_
  exact x_return ⟨_, ⟨_, _, rfl, rfl, rfl⟩, rfl, hS.drop⟩
attribute [irreducible] P_slices_Contains_array_Pad_array_Pad

def P_array_pads_L2 (c0 : T_array_Config) (l_1 : List T_array_Pad) : Int → Option (Int ⊕ (Unit ⊕ Int)) := fun q2 =>
  if q2 < (l_1.length : Int) then
    ck (inb q2 l_1.length) <|
    lv (gt l_1 q2) fun q3 =>
    bd (P_array_border c0 q3) fun q4 =>
    if (!q4) = true then
      some (Sum.inr (Sum.inr (2 : Int)))
    else
      ck (0 ≤ (0 : Int) ∧ (0 : Int) ≤ q2 ∧ q2 ≤ l_1.length) <|
      lv (sub l_1 0 q2) fun x20 =>
      bd (P_slices_Contains_array_Pad_array_Pad x20 q3) fun q5 =>
      if q5 = true then
        some (Sum.inr (Sum.inr (6 : Int)))
      else
        ar (q2 + 1) fun x23 =>
        some (Sum.inl x23)
  else
    some (Sum.inr (Sum.inl ()))
def P_array_pads (c0 : T_array_Config) (l_1 : List T_array_Pad) : Option Int :=
  bs (
    lp (P_array_pads_L2 c0 l_1) fuel 0) (fun y => some y) fun _ =>
  some (0 : Int)
set_option maxHeartbeats 4000000 in
set_option maxRecDepth 100000 in
theorem c_array_pads {w0 w : World} {l : List Assn} {ρ : Heap} {q4 : Option Addr} {q0e : Nat} {c_c0_3 : Nat} {q5 : Option Addr} {q0f : Nat} {c_c0_4 : Nat} {q6 : Option Addr} {q0g : Nat} {c_c0_5 : Nat} {q7 : Option Addr} {q0q : Nat} {c_l_1 : Nat} {c0 : T_array_Config} {l_1 : List T_array_Pad} {r : Int} (hF : P_array_pads c0 l_1 = some r) (q0h : RdS R_array_Tile ρ q4 q0e c_c0_3 c0.Tiles) (q0i : RdS R_array_Pad ρ q5 q0f c_c0_4 c0.In) (q0j : RdS R_array_Pad ρ q6 q0g c_c0_5 c0.Out) (q0d : RdS R_array_Pad ρ q7 q0q c_l_1 l_1) (hS : St w0 w (ro ρ :: l)) :
    Calls Try.prog 131 #[.agg #[.int .i64 c0.Rows, .int .i64 c0.Cols, .int .i64 c0.Tracks, .slice q4 q0e c_c0_3, .slice q5 q0f c_c0_4, .slice q6 q0g c_c0_5], .slice q7 q0q c_l_1] w fun e w' => e = .returned (.int .i64 r) ∧ St w0 w' (ro ρ :: l) := by
  have e_ := q0h.n; subst e_
  have e_ := q0i.n; subst e_
  have e_ := q0j.n; subst e_
  have e_ := q0d.n; subst e_
  refine enterC Try.func131 rfl 24 rfl (by simp) ?_
  refine x_seq <| x_region <|
    ?_
  refine o_box (cs := [.int .i64 c0.Rows, .int .i64 c0.Cols, .int .i64 c0.Tracks, .slice q4 c0.Tiles.length c_c0_3, .slice q5 c0.In.length c_c0_4, .slice q6 c0.Out.length c_c0_5]) rfl rfl hS (fun b2 w' hS => ?_)
  refine p (yl_assign rfl) <| x_done <| x_seq <| x_seq <|
    x_region <| p (yl_move rfl) <| p (yl_len_slice usl_79 rfl) <| p (yl_move rfl) <|
    x_done <|
    ?_
  replace hF := bs_s hF; obtain ⟨oL2, hLL2, hF⟩ := hF
  refine x_join (fun E w => (Sum.inl (())) = oL2 ∧ St w0 w (ro ρ :: l)) ?_ ?_
  · skip -- L2
    refine x_block ?_
    refine x_loop (fun k_ E w => ∃ (q3 : Int), lp (P_array_pads_L2 c0 l_1) k_ q3 = some oL2 ∧ E 1 = .slice q7 l_1.length c_l_1 ∧ E 2 = .pointer (some ⟨b2, 0, none⟩) ∧ E 7 = .slice q7 l_1.length c_l_1 ∧ E 8 = .int .i64 (l_1.length : Int) ∧ E 9 = .int .i64 q3 ∧ St w0 w (cells b2 81 [.int .i64 c0.Rows, .int .i64 c0.Cols, .int .i64 c0.Tracks, .slice q4 c0.Tiles.length c_c0_3, .slice q5 c0.In.length c_c0_4, .slice q6 c0.Out.length c_c0_5] :: ro ρ :: l)) fuel ⟨0, hLL2, rfl, rfl, rfl, rfl, rfl, ((hS.pull 1).pull 1)⟩ ?_
    rintro kL2 E w ⟨q3, hLL2, q0k, q0l, q0m, q0n, q9, hS⟩
    replace hLL2 := lp_s hLL2; obtain ⟨kL2, obL2, rfl, hFL2, hLL2⟩ := hLL2
    refine x_seq <| x_region <| p (yl_lss q9 q0n) <| x_done <|
      x_seq <|
      x_cond_p (q3 < (l_1.length : Int)) rfl (fun hc10 => ?_) (fun hc10 => ?_)
    · replace hFL2 := it_t hc10 hFL2
      replace hFL2 := ck_s hFL2; obtain ⟨q0r, hFL2⟩ := hFL2
      replace hFL2 := lv_s hFL2; obtain ⟨q2, q0v, hFL2⟩ := hFL2
      have q_ := q0d.get q0r; obtain ⟨q10, q0s, q0w⟩ := q_
      rw [← q0v] at q0s
      have e_ := q0s; subst e_
      refine x_skip <| x_seq <| x_block <| x_seq <|
        x_region <| p (yl_move q9) <| p (yix_f sl_79 q0m q9 q0d q0r) <| pa (v := .agg #[.int .i64 q2.Row, .int .i64 q2.Col, .int .i64 q2.Side, .int .i64 q2.Track]) (at_loadAgg agg_187 rfl rfl (Elt.every q0w (hS.pull 1))) <|
        ?_
      refine o_alloc zero_187 hS (fun b6 w' hS => ?_)
      refine p (yl_assign rfl) <|
        ?_
      refine o_storeAgg (news := [.int .i64 q2.Row, .int .i64 q2.Col, .int .i64 q2.Side, .int .i64 q2.Track]) agg_187 rfl rfl rfl (by simp [over_length]) hS (fun w' hS => ?_)
      replace hFL2 := bd_s hFL2; obtain ⟨q0z, q0x, hFL2⟩ := hFL2
      refine x_done <| x_seq <| x_seq <| x_region <|
        pa (v := .agg #[.int .i64 c0.Rows, .int .i64 c0.Cols, .int .i64 c0.Tracks, .slice q4 c0.Tiles.length c_c0_3, .slice q5 c0.In.length c_c0_4, .slice q6 c0.Out.length c_c0_5]) (ld_sub agg_81 q0l rfl rfl (hS.pull 1)) <| pa (v := .agg #[.int .i64 q2.Row, .int .i64 q2.Col, .int .i64 q2.Side, .int .i64 q2.Track]) (ld_sub agg_187 rfl rfl rfl hS) <|
        ?_
      have hcall := c_array_border q0x q0h q0i q0j (hS.pull 2)
      refine o_cc call_153 (args2 rfl rfl) ((Calls.mono hcall (fun e w'' h => And.intro h.1 ((h.2.pull 2).pull 2)))) ?_
      rintro e w' ⟨rfl, hS⟩
      refine ⟨_, rfl, ?_⟩
      refine p (yl_not rfl) <| x_done <|
        x_cond (t := !q0z) rfl (fun hc17 => ?_) (fun hc17 => ?_)
      · replace hFL2 := it_t hc17 hFL2
        refine x_seq <| x_region <| p (yl_assign rfl) <| x_done <|
          ?_
        have e_ := Option.some.inj (show some _ = some _ from hFL2); subst e_
        have e_ := (show _ = oL2 from hLL2); subst e_
        have e_ := Option.some.inj (show some _ = some _ from hF); subst e_
        exact x_return ⟨_, ⟨_, _, rfl, rfl, rfl⟩, rfl, hS.drop.drop⟩
      · replace hFL2 := it_bf hc17 hFL2
        refine x_skip <| x_seq <|
          ?_
        replace hFL2 := ck_s hFL2; obtain ⟨q0t, hFL2⟩ := hFL2
        replace hFL2 := lv_s hFL2; obtain ⟨x20, hx20, hFL2⟩ := hFL2
        replace hFL2 := bd_s hFL2; obtain ⟨q0o, q0y, hFL2⟩ := hFL2
        refine x_par (w0 := w0) [⟨[], [], [18], [], [], []⟩, ⟨[], [], [19], [], [], []⟩, ⟨[0, 1], [0, 1], [20], [0], [], []⟩, ⟨[], [], [21], [1], [], []⟩, ⟨[0, 1, 2, 3], [2, 3], [22], [0], [], []⟩] [⟨none, none, []⟩, ⟨none, none, []⟩] [18, 19, 20, 21, 22] [0, 1] [0, 1] [0, 1, 2, 3, 4] [fun Ep6 => Ep6 18 = .slice q7 l_1.length c_l_1, fun Ep6 => Ep6 19 = .int .i64 q3, fun Ep6 => Ep6 20 = .slice (adOf (Ep6 20)) x20.length (capOf (Ep6 20)) ∧ RdS R_array_Pad ρ (adOf (Ep6 20)) x20.length (capOf (Ep6 20)) x20, fun Ep6 => Ep6 21 = .agg #[.int .i64 q2.Row, .int .i64 q2.Col, .int .i64 q2.Side, .int .i64 q2.Track], fun Ep6 => Ep6 22 = .bool q0o] [fun Ep6 => ro ρ, fun Ep6 => cells b6 187 [.int .i64 q2.Row, .int .i64 q2.Col, .int .i64 q2.Side, .int .i64 q2.Track]] mixed (by kernel_rfl) (hS.pull 2) ?_ ?_
        · refine ⟨?_, ?_, ?_, ?_, ?_, trivial⟩
          · intro Ep6 w l' hE6 hO6 hF_ hS
            refine p (yl_move ((hE6 1 rfl).trans q0k)) <| x_done <|
              ?_
            refine x_fin ⟨⟨_, rfl⟩, rfl, ?_⟩
            exact Eq.mp (by kernel_rfl) hS
          · intro Ep6 w l' hE6 hO6 hF_ hS
            refine p (yl_move (hE6 5 rfl)) <| x_done <|
              ?_
            refine x_fin ⟨⟨_, rfl⟩, rfl, ?_⟩
            exact Eq.mp (by kernel_rfl) hS
          · intro Ep6 w l' hE6 hO6 hF_ hS
            obtain ⟨q0a, q0b, -⟩ := hF_
            replace q0a : Ep6 18 = .slice q7 l_1.length c_l_1 := Eq.mp (by kernel_rfl) q0a
            replace q0b : Ep6 19 = .int .i64 q3 := Eq.mp (by kernel_rfl) q0b
            replace hS : St w0 w (ro ρ :: l') := Eq.mp (by kernel_rfl) hS
            have q_ := RdS.sub q0d q0t hx20; obtain ⟨A20, n20, c20, hd20, f20⟩ := q_
            refine p (ysub_h sl_79 q0a q0b q0t hd20) <|
              ?_
            have e_ := f20.n; subst e_
            refine x_done <|
              ?_
            refine x_fin ⟨⟨_, rfl⟩, ⟨rfl, f20⟩, ?_⟩
            exact Eq.mp (by kernel_rfl) hS
          · intro Ep6 w l' hE6 hO6 hF_ hS
            replace hS : St w0 w (cells b6 187 [.int .i64 q2.Row, .int .i64 q2.Col, .int .i64 q2.Side, .int .i64 q2.Track] :: l') := Eq.mp (by kernel_rfl) hS
            refine pa (v := .agg #[.int .i64 q2.Row, .int .i64 q2.Col, .int .i64 q2.Side, .int .i64 q2.Track]) (ld_sub agg_187 (hE6 6 rfl) rfl rfl hS) <| x_done <|
              ?_
            refine x_fin ⟨⟨_, rfl⟩, rfl, ?_⟩
            exact Eq.mp (by kernel_rfl) hS
          · intro Ep6 w l' hE6 hO6 hF_ hS
            obtain ⟨q8, q0c, -⟩ := hF_
            replace q8 : Ep6 20 = .slice (adOf (Ep6 20)) x20.length (capOf (Ep6 20)) ∧ RdS R_array_Pad ρ (adOf (Ep6 20)) x20.length (capOf (Ep6 20)) x20 := Eq.mp (by kernel_rfl) q8
            have q_ := id q8; obtain ⟨-, q0u⟩ := q_
            replace q0c : Ep6 21 = .agg #[.int .i64 q2.Row, .int .i64 q2.Col, .int .i64 q2.Side, .int .i64 q2.Track] := Eq.mp (by kernel_rfl) q0c
            replace hS : St w0 w (ro ρ :: l') := Eq.mp (by kernel_rfl) hS
            have hcall := c_slices_Contains_array_Pad_array_Pad q0y q0u hS
            refine o_cc call_154 (args2 q8.1 q0c) (hcall) ?_
            rintro e w' ⟨rfl, hS⟩
            refine ⟨_, rfl, ?_⟩
            refine x_done <|
              ?_
            refine x_fin ⟨⟨_, rfl⟩, rfl, ?_⟩
            exact Eq.mp (by kernel_rfl) hS
        intro Ep6 w' hE6 hF_ hS
        obtain ⟨q0a, q0b, q8, q0c, q0p, -⟩ := hF_
        replace q0a : Ep6 18 = .slice q7 l_1.length c_l_1 := Eq.mp (by kernel_rfl) q0a
        replace q0b : Ep6 19 = .int .i64 q3 := Eq.mp (by kernel_rfl) q0b
        replace q8 : Ep6 20 = .slice (adOf (Ep6 20)) x20.length (capOf (Ep6 20)) ∧ RdS R_array_Pad ρ (adOf (Ep6 20)) x20.length (capOf (Ep6 20)) x20 := Eq.mp (by kernel_rfl) q8
        have q_ := id q8; obtain ⟨-, q0u⟩ := q_
        replace q0c : Ep6 21 = .agg #[.int .i64 q2.Row, .int .i64 q2.Col, .int .i64 q2.Side, .int .i64 q2.Track] := Eq.mp (by kernel_rfl) q0c
        replace q0p : Ep6 22 = .bool q0o := Eq.mp (by kernel_rfl) q0p
        replace hS : St w0 w' (ro ρ :: cells b6 187 [.int .i64 q2.Row, .int .i64 q2.Col, .int .i64 q2.Side, .int .i64 q2.Track] :: (cells b2 81 [.int .i64 c0.Rows, .int .i64 c0.Cols, .int .i64 c0.Tracks, .slice q4 c0.Tiles.length c_c0_3, .slice q5 c0.In.length c_c0_4, .slice q6 c0.Out.length c_c0_5] :: l)) := Eq.mp (by kernel_rfl) hS
        refine x_cond (t := q0o) q0p (fun hc22 => ?_) (fun hc22 => ?_)
        · replace hFL2 := it_t hc22 hFL2
          refine x_seq <| x_region <| p (yl_assign rfl) <| x_done <|
            ?_
          have e_ := Option.some.inj (show some _ = some _ from hFL2); subst e_
          have e_ := (show _ = oL2 from hLL2); subst e_
          have e_ := Option.some.inj (show some _ = some _ from hF); subst e_
          exact x_return ⟨_, ⟨_, _, rfl, rfl, rfl⟩, rfl, (((hS.pull 1).drop.pull 1).drop)⟩
        · replace hFL2 := it_bf hc22 hFL2
          replace hFL2 := ar_s hFL2; obtain ⟨x23, hx23, hFL2⟩ := hFL2
          refine x_skip <| x_blk <| x_region <| p (yadd ((hE6 9 rfl).trans q9) rfl hx23) <|
            p (yl_move rfl) <| x_done <|
            ?_
          have e_ := Option.some.inj (show some _ = some _ from hFL2); subst e_
          exact x_inv ⟨kL2, Nat.lt_succ_self _, x23, hLL2, ((hE6 1 rfl).trans q0k), ((hE6 2 rfl).trans q0l), ((hE6 7 rfl).trans q0m), ((hE6 8 rfl).trans q0n), rfl, ((hS.pull 1).drop.pull 1)⟩
    · replace hFL2 := it_f hc10 hFL2
      refine x_exitTo _ rfl <|
        ?_
      have e_ := Option.some.inj (show some _ = some _ from hFL2); subst e_
      exact x_inv ⟨hLL2, hS.drop⟩
  rintro E w ⟨rfl, hS⟩
  refine x_seq <| x_region <| p (yl_assign rfl) <| x_done <|
    ?_
  have e_ := Option.some.inj (show some _ = some _ from hF); subst e_
  exact x_return ⟨_, ⟨_, _, rfl, rfl, rfl⟩, rfl, hS⟩
attribute [irreducible] P_array_pads

def P_array_Config_beside (c0 : T_array_Config) (tile1 : Int) (side2 : Int) : Option Int :=
  ck (c0.Cols ≠ 0) <|
  ar (Int.tdiv tile1 c0.Cols) fun x12 =>
  ck (c0.Cols ≠ 0) <|
  lv (Int.tmod tile1 c0.Cols) fun x16 =>
  lv ((decide (side2 = 0)) && (decide (0 < x12))) fun x23 =>
  if x23 = true then
    ar (tile1 - c0.Cols) fun x27 =>
    some x27
  else
    ck ((decide (side2 = 1)) = true → I64 (c0.Cols - 1)) <|
    lv (c0.Cols - 1) fun x35 =>
    lv ((decide (side2 = 1)) && (decide (x16 < x35))) fun x37 =>
    if x37 = true then
      ar (tile1 + 1) fun x39 =>
      some x39
    else
      ck ((decide (side2 = 2)) = true → I64 (c0.Rows - 1)) <|
      lv (c0.Rows - 1) fun x47 =>
      lv ((decide (side2 = 2)) && (decide (x12 < x47))) fun x49 =>
      if x49 = true then
        ar (tile1 + c0.Cols) fun x53 =>
        some x53
      else
        lv ((decide (side2 = 3)) && (decide (0 < x16))) fun x60 =>
        if x60 = true then
          ar (tile1 - 1) fun x62 =>
          some x62
        else
          some (-1 : Int)
set_option maxHeartbeats 4000000 in
set_option maxRecDepth 100000 in
theorem c_array_Config_beside {w0 w : World} {l : List Assn} {ρ : Heap} {q2 : Option Addr} {q5 : Nat} {c_c0_3 : Nat} {q3 : Option Addr} {q6 : Nat} {c_c0_4 : Nat} {q4 : Option Addr} {q7 : Nat} {c_c0_5 : Nat} {c0 : T_array_Config} {tile1 : Int} {side2 : Int} {r : Int} (hF : P_array_Config_beside c0 tile1 side2 = some r) (q8 : RdS R_array_Tile ρ q2 q5 c_c0_3 c0.Tiles) (q9 : RdS R_array_Pad ρ q3 q6 c_c0_4 c0.In) (q0a : RdS R_array_Pad ρ q4 q7 c_c0_5 c0.Out) (hS : St w0 w (ro ρ :: l)) :
    Calls Try.prog 170 #[.agg #[.int .i64 c0.Rows, .int .i64 c0.Cols, .int .i64 c0.Tracks, .slice q2 q5 c_c0_3, .slice q3 q6 c_c0_4, .slice q4 q7 c_c0_5], .int .i64 tile1, .int .i64 side2] w fun e w' => e = .returned (.int .i64 r) ∧ St w0 w' (ro ρ :: l) := by
  have e_ := q8.n; subst e_
  have e_ := q9.n; subst e_
  have e_ := q0a.n; subst e_
  refine enterC Try.func170 rfl 63 rfl (by simp) ?_
  refine x_seq <| x_region <|
    ?_
  refine o_box (cs := [.int .i64 c0.Rows, .int .i64 c0.Cols, .int .i64 c0.Tracks, .slice q2 c0.Tiles.length c_c0_3, .slice q3 c0.In.length c_c0_4, .slice q4 c0.Out.length c_c0_5]) rfl rfl hS (fun b3 w' hS => ?_)
  replace hF := ck_s hF; obtain ⟨q0b, hF⟩ := hF
  replace hF := ar_s hF; obtain ⟨x12, hx12, hF⟩ := hF
  replace hF := ck_s hF; obtain ⟨q0c, hF⟩ := hF
  replace hF := lv_s hF; obtain ⟨x16, hx16, hF⟩ := hF
  refine p (yl_assign rfl) <| x_done <| x_seq <| x_still mixed (by kernel_rfl) hS <|
    q (yl_move rfl) <| q (yl_field0 fld_81_1 rfl) <| qa (fun w' hS => at_load one_3 rfl (hS.cell rfl)) <| q (yquo rfl rfl q0b hx12) <|
    q (yl_move rfl) <| q (yl_field0 fld_81_1 rfl) <| qa (fun w' hS => at_load one_3 rfl (hS.cell rfl)) <| q (yrem rfl rfl q0c hx16) <|
    q (yl_assign rfl) <| q (yl_assign rfl) <|
    q_done fun w' hS => ?_
  replace hF := lv_s hF; obtain ⟨x23, hx23, hF⟩ := hF
  refine x_seq <| x_block <| x_seq <| x_region <|
    p (yl_move rfl) <| p (yl_eql rfl rfl) <| p (yl_move rfl) <| pg (v := .int .i64 x12) 20 (c := decide (side2 = 0)) (says_t _) (fun hq => Yl.at (yl_move rfl)) <|
    pg (v := .bool (decide (0 < x12))) 20 (c := decide (side2 = 0)) (says_t _) (fun hq => Yl.at (yl_gtr (cv hq) rfl)) <| p (yand' rfl (fun hc => (cv hc)) rfl hx23) <| p (yl_assign rfl) <| x_done <|
    x_cond (t := x23) rfl (fun hc17 => ?_) (fun hc17 => ?_)
  · replace hF := it_t hc17 hF
    replace hF := ar_s hF; obtain ⟨x27, hx27, hF⟩ := hF
    refine x_seq <| x_region <| p (yl_move rfl) <| p (yl_field0 fld_81_1 rfl) <|
      pa (at_load one_3 rfl (hS.cell rfl)) <| p (ysub rfl rfl hx27) <| p (yl_assign rfl) <| x_done <|
      ?_
    have e_ := Option.some.inj (show some _ = some _ from hF); subst e_
    exact x_return ⟨_, ⟨_, _, rfl, rfl, rfl⟩, rfl, hS.drop⟩
  · replace hF := it_bf hc17 hF
    replace hF := ck_s hF; obtain ⟨q0d, hF⟩ := hF
    replace hF := lv_s hF; obtain ⟨x35, hx35, hF⟩ := hF
    replace hF := lv_s hF; obtain ⟨x37, hx37, hF⟩ := hF
    refine x_seq <| x_region <| p (yl_move rfl) <| p (yl_eql rfl rfl) <|
      p (yl_move rfl) <| pg (v := .int .i64 x16) 31 (c := decide (side2 = 1)) (says_t _) (fun hq => Yl.at (yl_move rfl)) <| pg (v := .pointer (some ⟨b3, 1, none⟩)) 31 (c := decide (side2 = 1)) (says_t _) (fun hq => Yl.at (yl_field0 fld_81_1 rfl)) <| pg (v := .int .i64 c0.Cols) 31 (c := decide (side2 = 1)) (says_t _) (fun hq => at_load one_3 (cv hq) (hS.cell rfl)) <|
      pg (v := .int .i64 x35) 31 (c := decide (side2 = 1)) (says_t _) (fun hq => Yl.at (ysub (cv hq) rfl ⟨hx35, (q0d hq)⟩)) <| pg (v := .bool (decide (x16 < x35))) 31 (c := decide (side2 = 1)) (says_t _) (fun hq => Yl.at (yl_lss (cv hq) (cv hq))) <| p (yand' rfl (fun hc => (cv hc)) rfl hx37) <| p (yl_assign rfl) <|
      x_done <|
      x_cond (t := x37) rfl (fun hc28 => ?_) (fun hc28 => ?_)
    · replace hF := it_t hc28 hF
      replace hF := ar_s hF; obtain ⟨x39, hx39, hF⟩ := hF
      refine x_seq <| x_region <| p (yl_move rfl) <| p (yadd rfl rfl hx39) <|
        p (yl_assign rfl) <| x_done <|
        ?_
      have e_ := Option.some.inj (show some _ = some _ from hF); subst e_
      exact x_return ⟨_, ⟨_, _, rfl, rfl, rfl⟩, rfl, hS.drop⟩
    · replace hF := it_bf hc28 hF
      replace hF := ck_s hF; obtain ⟨q0e, hF⟩ := hF
      replace hF := lv_s hF; obtain ⟨x47, hx47, hF⟩ := hF
      replace hF := lv_s hF; obtain ⟨x49, hx49, hF⟩ := hF
      refine x_seq <| x_region <| p (yl_move rfl) <| p (yl_eql rfl rfl) <|
        p (yl_move rfl) <| pg (v := .int .i64 x12) 43 (c := decide (side2 = 2)) (says_t _) (fun hq => Yl.at (yl_move rfl)) <| pg (v := .pointer (some ⟨b3, 0, none⟩)) 43 (c := decide (side2 = 2)) (says_t _) (fun hq => Yl.at (yl_field0 fld_81_0 rfl)) <| pg (v := .int .i64 c0.Rows) 43 (c := decide (side2 = 2)) (says_t _) (fun hq => at_load one_3 (cv hq) (hS.cell rfl)) <|
        pg (v := .int .i64 x47) 43 (c := decide (side2 = 2)) (says_t _) (fun hq => Yl.at (ysub (cv hq) rfl ⟨hx47, (q0e hq)⟩)) <| pg (v := .bool (decide (x12 < x47))) 43 (c := decide (side2 = 2)) (says_t _) (fun hq => Yl.at (yl_lss (cv hq) (cv hq))) <| p (yand' rfl (fun hc => (cv hc)) rfl hx49) <| p (yl_assign rfl) <|
        x_done <|
        x_cond (t := x49) rfl (fun hc40 => ?_) (fun hc40 => ?_)
      · replace hF := it_t hc40 hF
        replace hF := ar_s hF; obtain ⟨x53, hx53, hF⟩ := hF
        refine x_seq <| x_region <| p (yl_move rfl) <| p (yl_field0 fld_81_1 rfl) <|
          pa (at_load one_3 rfl (hS.cell rfl)) <| p (yadd rfl rfl hx53) <| p (yl_assign rfl) <| x_done <|
          ?_
        have e_ := Option.some.inj (show some _ = some _ from hF); subst e_
        exact x_return ⟨_, ⟨_, _, rfl, rfl, rfl⟩, rfl, hS.drop⟩
      · replace hF := it_bf hc40 hF
        replace hF := lv_s hF; obtain ⟨x60, hx60, hF⟩ := hF
        refine x_seq <| x_region <| p (yl_move rfl) <| p (yl_eql rfl rfl) <|
          p (yl_move rfl) <| pg (v := .int .i64 x16) 57 (c := decide (side2 = 3)) (says_t _) (fun hq => Yl.at (yl_move rfl)) <| pg (v := .bool (decide (0 < x16))) 57 (c := decide (side2 = 3)) (says_t _) (fun hq => Yl.at (yl_gtr (cv hq) rfl)) <| p (yand' rfl (fun hc => (cv hc)) rfl hx60) <|
          p (yl_assign rfl) <| x_done <|
          x_cond (t := x60) rfl (fun hc54 => ?_) (fun hc54 => ?_)
        · replace hF := it_t hc54 hF
          replace hF := ar_s hF; obtain ⟨x62, hx62, hF⟩ := hF
          refine x_seq <| x_region <| p (yl_move rfl) <| p (ysub rfl rfl hx62) <|
            p (yl_assign rfl) <| x_done <|
            ?_
          have e_ := Option.some.inj (show some _ = some _ from hF); subst e_
          exact x_return ⟨_, ⟨_, _, rfl, rfl, rfl⟩, rfl, hS.drop⟩
        · replace hF := it_bf hc54 hF
          refine x_skip <| x_blk <| x_seq <| x_region <|
            p (yl_assign rfl) <| x_done <|
            ?_
          have e_ := Option.some.inj (show some _ = some _ from hF); subst e_
          exact x_return ⟨_, ⟨_, _, rfl, rfl, rfl⟩, rfl, hS.drop⟩
attribute [irreducible] P_array_Config_beside

def P_array_Config_wire (c0 : T_array_Config) (tile1 : Int) (side2 : Int) (track3 : Int) : Option Int :=
  ar (tile1 * 4) fun x10 =>
  ar (x10 + side2) fun x12 =>
  ar (x12 * c0.Tracks) fun x15 =>
  ar (x15 + track3) fun x17 =>
  some x17
set_option maxHeartbeats 4000000 in
set_option maxRecDepth 100000 in
theorem c_array_Config_wire {w0 w : World} {l : List Assn} {ρ : Heap} {q2 : Option Addr} {q5 : Nat} {c_c0_3 : Nat} {q3 : Option Addr} {q6 : Nat} {c_c0_4 : Nat} {q4 : Option Addr} {q7 : Nat} {c_c0_5 : Nat} {c0 : T_array_Config} {tile1 : Int} {side2 : Int} {track3 : Int} {r : Int} (hF : P_array_Config_wire c0 tile1 side2 track3 = some r) (q8 : RdS R_array_Tile ρ q2 q5 c_c0_3 c0.Tiles) (q9 : RdS R_array_Pad ρ q3 q6 c_c0_4 c0.In) (q0a : RdS R_array_Pad ρ q4 q7 c_c0_5 c0.Out) (hS : St w0 w (ro ρ :: l)) :
    Calls Try.prog 146 #[.agg #[.int .i64 c0.Rows, .int .i64 c0.Cols, .int .i64 c0.Tracks, .slice q2 q5 c_c0_3, .slice q3 q6 c_c0_4, .slice q4 q7 c_c0_5], .int .i64 tile1, .int .i64 side2, .int .i64 track3] w fun e w' => e = .returned (.int .i64 r) ∧ St w0 w' (ro ρ :: l) := by
  have e_ := q8.n; subst e_
  have e_ := q9.n; subst e_
  have e_ := q0a.n; subst e_
  refine enterC Try.func146 rfl 18 rfl (by simp) ?_
  refine x_seq <| x_region <|
    ?_
  refine o_box (cs := [.int .i64 c0.Rows, .int .i64 c0.Cols, .int .i64 c0.Tracks, .slice q2 c0.Tiles.length c_c0_3, .slice q3 c0.In.length c_c0_4, .slice q4 c0.Out.length c_c0_5]) rfl rfl hS (fun b4 w' hS => ?_)
  replace hF := ar_s hF; obtain ⟨x10, hx10, hF⟩ := hF
  replace hF := ar_s hF; obtain ⟨x12, hx12, hF⟩ := hF
  replace hF := ar_s hF; obtain ⟨x15, hx15, hF⟩ := hF
  replace hF := ar_s hF; obtain ⟨x17, hx17, hF⟩ := hF
  refine p (yl_assign rfl) <| x_done <| x_seq <| x_region <|
    p (yl_move rfl) <| p (ymul rfl rfl hx10) <| p (yl_move rfl) <| p (yadd rfl rfl hx12) <|
    p (yl_field0 fld_81_2 rfl) <| pa (at_load one_3 rfl (hS.cell rfl)) <| p (ymul rfl rfl hx15) <| p (yl_move rfl) <|
    p (yadd rfl rfl hx17) <| p (yl_assign rfl) <| x_done <|
    ?_
  have e_ := Option.some.inj (show some _ = some _ from hF); subst e_
  exact x_return ⟨_, ⟨_, _, rfl, rfl, rfl⟩, rfl, hS.drop⟩
attribute [irreducible] P_array_Config_wire

def P_array_Config_into (c0 : T_array_Config) (tile1 : Int) (side2 : Int) (track3 : Int) : Option Int :=
  bd (P_array_Config_beside c0 tile1 side2) fun q4 =>
  if 0 ≤ q4 then
    ar (side2 + 2) fun x20 =>
    ck ((4 : Int) ≠ 0) <|
    lv (Int.tmod x20 4) fun x21 =>
    bd (P_array_Config_wire c0 q4 x21 track3) fun q5 =>
    some q5
  else
    ck (c0.Cols ≠ 0) <|
    ar (Int.tdiv tile1 c0.Cols) fun x29 =>
    ck (c0.Cols ≠ 0) <|
    lv (Int.tmod tile1 c0.Cols) fun x33 =>
    bd (P_slices_Index_array_Pad_array_Pad c0.In (T_array_Pad.mk x29 x33 side2 track3)) fun q2 =>
    bd (
      if q2 < 0 then
        some (c0.In.length : Int)
      else
        some q2) fun q3 =>
    ar ((-1 : Int) - q3) fun x44 =>
    some x44
set_option maxHeartbeats 4000000 in
set_option maxRecDepth 100000 in
theorem c_array_Config_into {w0 w : World} {l : List Assn} {ρ : Heap} {q2 : Option Addr} {q0b : Nat} {c_c0_3 : Nat} {q3 : Option Addr} {q0c : Nat} {c_c0_4 : Nat} {q4 : Option Addr} {q0d : Nat} {c_c0_5 : Nat} {c0 : T_array_Config} {tile1 : Int} {side2 : Int} {track3 : Int} {r : Int} (hF : P_array_Config_into c0 tile1 side2 track3 = some r) (q8 : RdS R_array_Tile ρ q2 q0b c_c0_3 c0.Tiles) (q5 : RdS R_array_Pad ρ q3 q0c c_c0_4 c0.In) (q9 : RdS R_array_Pad ρ q4 q0d c_c0_5 c0.Out) (hS : St w0 w (ro ρ :: l)) :
    Calls Try.prog 157 #[.agg #[.int .i64 c0.Rows, .int .i64 c0.Cols, .int .i64 c0.Tracks, .slice q2 q0b c_c0_3, .slice q3 q0c c_c0_4, .slice q4 q0d c_c0_5], .int .i64 tile1, .int .i64 side2, .int .i64 track3] w fun e w' => e = .returned (.int .i64 r) ∧ St w0 w' (ro ρ :: l) := by
  have e_ := q8.n; subst e_
  have e_ := q5.n; subst e_
  have e_ := q9.n; subst e_
  refine enterC Try.func157 rfl 45 rfl (by simp) ?_
  refine x_seq <| x_region <|
    ?_
  refine o_box (cs := [.int .i64 c0.Rows, .int .i64 c0.Cols, .int .i64 c0.Tracks, .slice q2 c0.Tiles.length c_c0_3, .slice q3 c0.In.length c_c0_4, .slice q4 c0.Out.length c_c0_5]) rfl rfl hS (fun b4 w' hS => ?_)
  replace hF := bd_s hF; obtain ⟨q0a, q0g, hF⟩ := hF
  refine p (yl_assign rfl) <| x_done <| x_seq <| x_seq <|
    x_region <| pa (v := .agg #[.int .i64 c0.Rows, .int .i64 c0.Cols, .int .i64 c0.Tracks, .slice q2 c0.Tiles.length c_c0_3, .slice q3 c0.In.length c_c0_4, .slice q4 c0.Out.length c_c0_5]) (ld_sub agg_81 rfl rfl rfl hS) <| p (yl_move rfl) <| p (yl_move rfl) <|
    ?_
  have hcall := c_array_Config_beside q0g q8 q5 q9 (hS.pull 1)
  refine o_cc call_170 (args3 rfl rfl rfl) ((Calls.mono hcall (fun e w'' h => And.intro h.1 (h.2.pull 1)))) ?_
  rintro e w' ⟨rfl, hS⟩
  refine ⟨_, rfl, ?_⟩
  refine p (v := .int .i64 q0a) (yl_assign rfl) <| x_done <| x_seq <| x_region <|
    p (v := .int .i64 q0a) (yl_move rfl) <| p (yl_geq rfl rfl) <| x_done <|
    x_cond_p (0 ≤ q0a) rfl (fun hc16 => ?_) (fun hc16 => ?_)
  · replace hF := it_t hc16 hF
    replace hF := ar_s hF; obtain ⟨x20, hx20, hF⟩ := hF
    replace hF := ck_s hF; obtain ⟨q0h, hF⟩ := hF
    replace hF := lv_s hF; obtain ⟨x21, hx21, hF⟩ := hF
    replace hF := bd_s hF; obtain ⟨q0l, q0i, hF⟩ := hF
    refine x_seq <| x_region <| pa (v := .agg #[.int .i64 c0.Rows, .int .i64 c0.Cols, .int .i64 c0.Tracks, .slice q2 c0.Tiles.length c_c0_3, .slice q3 c0.In.length c_c0_4, .slice q4 c0.Out.length c_c0_5]) (ld_sub agg_81 rfl rfl rfl hS) <| p (v := .int .i64 q0a) (yl_move rfl) <|
      p (yl_move rfl) <| p (yadd rfl rfl hx20) <| p (yrem rfl rfl q0h hx21) <| p (yl_move rfl) <|
      ?_
    have hcall := c_array_Config_wire q0i q8 q5 q9 (hS.pull 1)
    refine o_cc call_146 (args4 rfl rfl rfl rfl) ((Calls.mono hcall (fun e w'' h => And.intro h.1 (h.2.pull 1)))) ?_
    rintro e w' ⟨rfl, hS⟩
    refine ⟨_, rfl, ?_⟩
    refine p (v := .int .i64 q0l) (yl_assign rfl) <| x_done <|
      ?_
    have e_ := Option.some.inj (show some _ = some _ from hF); subst e_
    exact x_return ⟨_, ⟨_, _, rfl, rfl, rfl⟩, rfl, hS.drop⟩
  · replace hF := it_f hc16 hF
    replace hF := ck_s hF; obtain ⟨q0j, hF⟩ := hF
    replace hF := ar_s hF; obtain ⟨x29, hx29, hF⟩ := hF
    replace hF := ck_s hF; obtain ⟨q0k, hF⟩ := hF
    replace hF := lv_s hF; obtain ⟨x33, hx33, hF⟩ := hF
    replace hF := bd_s hF; obtain ⟨q6, q0f, hF⟩ := hF
    refine x_skip <| x_seq <| x_still mixed (by kernel_rfl) hS <| q (yl_field0 fld_81_4 rfl) <|
      qa (fun w' hS => at_load one_79 rfl (hS.cell rfl)) <| q (yl_move rfl) <| q (yl_field0 fld_81_1 rfl) <| qa (fun w' hS => at_load one_3 rfl (hS.cell rfl)) <|
      q (yquo rfl rfl q0j hx29) <| q (yl_move rfl) <| q (yl_field0 fld_81_1 rfl) <| qa (fun w' hS => at_load one_3 rfl (hS.cell rfl)) <|
      q (yrem rfl rfl q0k hx33) <| q (yl_move rfl) <| q (yl_move rfl) <| q (v := .agg #[.int .i64 x29, .int .i64 x33, .int .i64 side2, .int .i64 track3]) (yl_build bld_187 bldf_187 (parts_eq (pt (va := .int .i64 x29) rfl (pt (va := .int .i64 x33) rfl (pt (va := .int .i64 side2) rfl (pt (va := .int .i64 track3) rfl pt0))))) (by kernel_rfl)) <|
      qcc (v := .int .i64 q6) call_169 (args2 rfl rfl) (fun w' hS => by
        have hcall := c_slices_Index_array_Pad_array_Pad q0f q5 (hS.pull 1)
        exact (Calls.mono hcall (fun e w'' h => And.intro h.1 (h.2.pull 1)))) <| q (v := .int .i64 q6) (yl_assign rfl) <|
      q_done fun w' hS => ?_
    refine x_seq <| x_seq <| x_region <| p (v := .int .i64 q6) (yl_move rfl) <|
      p (yl_lss rfl rfl) <| x_done <|
      ?_
    replace hF := bd_s hF; obtain ⟨oc39, hFc39, hF⟩ := hF
    refine x_join (fun E w => ∃ (q7 : Int), q7 = oc39 ∧ E 10 = .int .i64 q7 ∧ St w0 w (ro ρ :: l)) ?_ ?_
    · skip -- c39
      refine x_cond_p (q6 < 0) rfl (fun hc39 => ?_) (fun hc39 => ?_)
      · replace hFc39 := it_t hc39 hFc39
        refine x_region <| p (yl_field0 fld_81_4 rfl) <| pa (at_load one_79 rfl (hS.cell rfl)) <| p (yl_len_slice usl_79 rfl) <|
          p (yl_assign rfl) <| x_done <|
          ?_
        exact x_inv ⟨(c0.In.length : Int), (Option.some.inj (show some _ = some _ from hFc39)), rfl, hS.drop⟩
      · replace hFc39 := it_f hc39 hFc39
        refine x_skip <|
          ?_
        exact x_inv ⟨q6, (Option.some.inj (show some _ = some _ from hFc39)), rfl, hS.drop⟩
    rintro E w ⟨q7, rfl, q0e, hS⟩
    replace hF := ar_s hF; obtain ⟨x44, hx44, hF⟩ := hF
    refine x_seq <| x_region <| p (yl_move q0e) <| p (ysub rfl rfl hx44) <|
      p (yl_assign rfl) <| x_done <|
      ?_
    have e_ := Option.some.inj (show some _ = some _ from hF); subst e_
    exact x_return ⟨_, ⟨_, _, rfl, rfl, rfl⟩, rfl, hS⟩
attribute [irreducible] P_array_Config_into

def P_array_Config_sources (c0 : T_array_Config) (tile1 : Int) : Option (List Int) :=
  ck (inb tile1 c0.Tiles.length) <|
  lv (gt c0.Tiles tile1) fun q2 =>
  ck ((decide (0 < q2.In.fe0)) = true → I64 ((4 : Int) * c0.Tracks)) <|
  lv ((4 : Int) * c0.Tracks) fun x23u4 =>
  lv ((decide (0 < q2.In.fe0)) && (decide (q2.In.fe0 ≤ x23u4))) fun x25u4 =>
  bd (
    if x25u4 = true then
      ar (q2.In.fe0 - 1) fun x30u4 =>
      ck (c0.Tracks ≠ 0) <|
      ar (Int.tdiv x30u4 c0.Tracks) fun x33u4 =>
      ar (q2.In.fe0 - 1) fun x35u4 =>
      ck (c0.Tracks ≠ 0) <|
      lv (Int.tmod x35u4 c0.Tracks) fun x38u4 =>
      bd (P_array_Config_into c0 tile1 x33u4 x38u4) fun q0b =>
      lv ([q0b]) fun q6 =>
      ck (apOk 8 q6.length) <|
      some q6
    else
      some []) fun q3 =>
  ck ((decide (0 < q2.In.fe1)) = true → I64 ((4 : Int) * c0.Tracks)) <|
  lv ((4 : Int) * c0.Tracks) fun x23u3 =>
  lv ((decide (0 < q2.In.fe1)) && (decide (q2.In.fe1 ≤ x23u3))) fun x25u3 =>
  bd (
    if x25u3 = true then
      ar (q2.In.fe1 - 1) fun x30u3 =>
      ck (c0.Tracks ≠ 0) <|
      ar (Int.tdiv x30u3 c0.Tracks) fun x33u3 =>
      ar (q2.In.fe1 - 1) fun x35u3 =>
      ck (c0.Tracks ≠ 0) <|
      lv (Int.tmod x35u3 c0.Tracks) fun x38u3 =>
      bd (P_array_Config_into c0 tile1 x33u3 x38u3) fun q0c =>
      lv (q3 ++ [q0c]) fun q7 =>
      ck (apOk 8 q7.length) <|
      some q7
    else
      some q3) fun q4 =>
  ck ((decide (0 < q2.In.fe2)) = true → I64 ((4 : Int) * c0.Tracks)) <|
  lv ((4 : Int) * c0.Tracks) fun x23u2 =>
  lv ((decide (0 < q2.In.fe2)) && (decide (q2.In.fe2 ≤ x23u2))) fun x25u2 =>
  bd (
    if x25u2 = true then
      ar (q2.In.fe2 - 1) fun x30u2 =>
      ck (c0.Tracks ≠ 0) <|
      ar (Int.tdiv x30u2 c0.Tracks) fun x33u2 =>
      ar (q2.In.fe2 - 1) fun x35u2 =>
      ck (c0.Tracks ≠ 0) <|
      lv (Int.tmod x35u2 c0.Tracks) fun x38u2 =>
      bd (P_array_Config_into c0 tile1 x33u2 x38u2) fun q0d =>
      lv (q4 ++ [q0d]) fun q8 =>
      ck (apOk 8 q8.length) <|
      some q8
    else
      some q4) fun q5 =>
  ck ((decide (0 < q2.In.fe3)) = true → I64 ((4 : Int) * c0.Tracks)) <|
  lv ((4 : Int) * c0.Tracks) fun x23u1 =>
  lv ((decide (0 < q2.In.fe3)) && (decide (q2.In.fe3 ≤ x23u1))) fun x25u1 =>
  bd (
    if x25u1 = true then
      ar (q2.In.fe3 - 1) fun x30u1 =>
      ck (c0.Tracks ≠ 0) <|
      ar (Int.tdiv x30u1 c0.Tracks) fun x33u1 =>
      ar (q2.In.fe3 - 1) fun x35u1 =>
      ck (c0.Tracks ≠ 0) <|
      lv (Int.tmod x35u1 c0.Tracks) fun x38u1 =>
      bd (P_array_Config_into c0 tile1 x33u1 x38u1) fun q0e =>
      lv (q5 ++ [q0e]) fun q9 =>
      ck (apOk 8 q9.length) <|
      some q9
    else
      some q5) fun q0a =>
  some q0a
set_option maxHeartbeats 4000000 in
set_option maxRecDepth 100000 in
theorem c_array_Config_sources {w0 w : World} {l : List Assn} {ρ : Heap} {q3 : Option Addr} {q3d : Nat} {c_c0_3 : Nat} {q4 : Option Addr} {q3e : Nat} {c_c0_4 : Nat} {q5 : Option Addr} {q3f : Nat} {c_c0_5 : Nat} {c0 : T_array_Config} {tile1 : Int} {r : List Int} (hF : P_array_Config_sources c0 tile1 = some r) (q1l : RdS R_array_Tile ρ q3 q3d c_c0_3 c0.Tiles) (q2t : RdS R_array_Pad ρ q4 q3e c_c0_4 c0.In) (q2u : RdS R_array_Pad ρ q5 q3f c_c0_5 c0.Out) (hS : St w0 w (ro ρ :: l)) :
    Calls Try.prog 156 #[.agg #[.int .i64 c0.Rows, .int .i64 c0.Cols, .int .i64 c0.Tracks, .slice q3 q3d c_c0_3, .slice q4 q3e c_c0_4, .slice q5 q3f c_c0_5], .int .i64 tile1] w fun e w' => ∃ (q39 : Option Addr) (q30 : Nat) (c_y0_ret : Nat) (q38 : List Value), e = .returned (.slice q39 q30 c_y0_ret) ∧ RepL (RpI .i64) ρ r q38 ∧ St w0 w' (vec 3 (RpI .i64).sz (.slice q39 q30 c_y0_ret) q30 q38 :: ro ρ :: l) := by
  have e_ := q1l.n; subst e_
  have e_ := q2t.n; subst e_
  have e_ := q2u.n; subst e_
  refine enterC Try.func156 rfl 44 rfl (by simp) ?_
  refine x_seq <| x_region <|
    ?_
  refine o_box (cs := [.int .i64 c0.Rows, .int .i64 c0.Cols, .int .i64 c0.Tracks, .slice q3 c0.Tiles.length c_c0_3, .slice q4 c0.In.length c_c0_4, .slice q5 c0.Out.length c_c0_5]) rfl rfl hS (fun b2 w' hS => ?_)
  replace hF := ck_s hF; obtain ⟨q41, hF⟩ := hF
  replace hF := lv_s hF; obtain ⟨q2, q4f, hF⟩ := hF
  have q_ := q1l.get q41; obtain ⟨q4w, q42, q4g⟩ := q_
  rw [← q4f] at q42
  obtain ⟨q4k, q4l, q4m, q4n, q4o, q4p, q4q, q4r, q4s, q4t, q4u, q4v, rfl, q4b, q4c, q4d, q4e⟩ := q42
  have e_ := q4b.n; subst e_
  have e_ := q4c.n; subst e_
  have e_ := q4d.n; subst e_
  have e_ := q4e.n; subst e_
  replace hF := ck_s hF; obtain ⟨q43, hF⟩ := hF
  replace hF := lv_s hF; obtain ⟨x23u4, hx23u4, hF⟩ := hF
  replace hF := lv_s hF; obtain ⟨x25u4, hx25u4, hF⟩ := hF
  refine p (yl_assign rfl) <| x_done <| x_seq <| x_region <|
    p (yl_assign rfl) <| x_done <| x_seq <| x_seq <|
    x_region <| p (yl_field0 fld_81_3 rfl) <| pa (at_load one_78 rfl (hS.cell rfl)) <| p (yl_move rfl) <|
    p (yix_f sl_78 rfl rfl q1l q41) <| p (yl_fieldAddr fld_183_2 rfl) <| pa (at_loadAgg (cs := [.int .i64 q2.In.fe0, .int .i64 q2.In.fe1, .int .i64 q2.In.fe2, .int .i64 q2.In.fe3]) agg_180 rfl rfl (sub_every (m := 4) (Elt.every q4g (hS.pull 1)) rfl)) <| p (yl_move rfl) <|
    x_done <| x_block <| x_unroll 4 <| x_seq <|
    x_region <| p (ylss_l (t := true) rfl rfl (by decide)) <| x_done <| x_seq <|
    x_cond_t (show ev _ _ = .bool true from rfl) <| x_skip <| x_seq <| x_block <|
    x_seq <| x_region <| p (yl_ixv (x := .tmp 13) (y := .tmp 14) (v := .int .i64 q2.In.fe0) arr_180 one_3 rfl rfl (by decide) rfl) <| p (yl_assign rfl) <|
    x_done <| x_seq <| x_region <| p (yl_move rfl) <|
    p (yl_gtr rfl rfl) <| p (yl_move rfl) <| pg (v := .int .i64 q2.In.fe0) 19 (c := decide (0 < q2.In.fe0)) (says_t _) (fun hq => Yl.at (yl_move rfl)) <| pg (v := .pointer (some ⟨b2, 2, none⟩)) 19 (c := decide (0 < q2.In.fe0)) (says_t _) (fun hq => Yl.at (yl_field0 fld_81_2 rfl)) <|
    pg (v := .int .i64 c0.Tracks) 19 (c := decide (0 < q2.In.fe0)) (says_t _) (fun hq => at_load one_3 (cv hq) (hS.cell rfl)) <| pg (v := .int .i64 x23u4) 19 (c := decide (0 < q2.In.fe0)) (says_t _) (fun hq => Yl.at (ymul rfl (cv hq) ⟨hx23u4, (q43 hq)⟩)) <| pg (v := .bool (decide (q2.In.fe0 ≤ x23u4))) 19 (c := decide (0 < q2.In.fe0)) (says_t _) (fun hq => Yl.at (yl_leq (cv hq) (cv hq))) <| p (yand' rfl (fun hc => (cv hc)) rfl hx25u4) <|
    x_done <|
    ?_
  replace hF := bd_s hF; obtain ⟨oc25u4, hFc25u4, hF⟩ := hF
  refine x_join (fun E w => ∃ (q0a : Option Addr) (q0o : Nat) (c_out5_c25u4 : Nat) (q0g : List Value) (q6 : List Int), q6 = oc25u4 ∧ E 1 = .int .i64 tile1 ∧ E 2 = .pointer (some ⟨b2, 0, none⟩) ∧ E 5 = .slice q0a q0o c_out5_c25u4 ∧ E 13 = .agg #[.int .i64 q2.In.fe0, .int .i64 q2.In.fe1, .int .i64 q2.In.fe2, .int .i64 q2.In.fe3] ∧ E 14 = .int .i64 0 ∧ RepL (RpI .i64) ρ q6 q0g ∧ St w0 w (cells b2 81 [.int .i64 c0.Rows, .int .i64 c0.Cols, .int .i64 c0.Tracks, .slice q3 c0.Tiles.length c_c0_3, .slice q4 c0.In.length c_c0_4, .slice q5 c0.Out.length c_c0_5] :: vec 3 (RpI .i64).sz (.slice q0a q0o c_out5_c25u4) q0o q0g :: ro ρ :: l)) ?_ ?_
  · skip -- c25u4
    refine x_cond (t := x25u4) rfl (fun hc25u4 => ?_) (fun hc25u4 => ?_)
    · replace hFc25u4 := it_t hc25u4 hFc25u4
      replace hFc25u4 := ar_s hFc25u4; obtain ⟨x30u4, hx30u4, hFc25u4⟩ := hFc25u4
      replace hFc25u4 := ck_s hFc25u4; obtain ⟨q44, hFc25u4⟩ := hFc25u4
      replace hFc25u4 := ar_s hFc25u4; obtain ⟨x33u4, hx33u4, hFc25u4⟩ := hFc25u4
      replace hFc25u4 := ar_s hFc25u4; obtain ⟨x35u4, hx35u4, hFc25u4⟩ := hFc25u4
      replace hFc25u4 := ck_s hFc25u4; obtain ⟨q3k, hFc25u4⟩ := hFc25u4
      replace hFc25u4 := lv_s hFc25u4; obtain ⟨x38u4, hx38u4, hFc25u4⟩ := hFc25u4
      replace hFc25u4 := bd_s hFc25u4; obtain ⟨q0j, q3l, hFc25u4⟩ := hFc25u4
      replace hFc25u4 := lv_s hFc25u4; obtain ⟨q9, q3m, hFc25u4⟩ := hFc25u4
      replace hFc25u4 := ck_s hFc25u4; obtain ⟨q3n, hFc25u4⟩ := hFc25u4
      refine x_par (w0 := w0) [⟨[], [], [26], [], [], []⟩, ⟨[], [], [27], [0], [], []⟩, ⟨[], [], [28], [], [], []⟩, ⟨[], [], [29], [], [], []⟩, ⟨[3], [3], [30], [], [], []⟩, ⟨[], [], [31], [], [], []⟩, ⟨[5], [5], [32], [0], [], []⟩, ⟨[3, 4, 5, 6], [4, 6], [33], [], [], []⟩, ⟨[], [], [34], [], [], []⟩, ⟨[8], [8], [35], [], [], []⟩, ⟨[], [], [36], [], [], []⟩, ⟨[10], [10], [37], [0], [], []⟩, ⟨[8, 9, 10, 11], [9, 11], [38], [], [], []⟩, ⟨[1, 2, 3, 4, 5, 6, 7, 8, 9, 10, 11, 12], [1, 2, 7, 12], [39], [1], [], []⟩, ⟨[1, 2, 3, 4, 5, 6, 7, 8, 9, 10, 11, 12, 13], [13], [40], [], [], [2]⟩, ⟨[0, 1, 2, 3, 4, 5, 6, 7, 8, 9, 10, 11, 12, 13, 14], [0, 14], [41], [2, 1], [], [3]⟩, ⟨[0, 1, 2, 3, 4, 5, 6, 7, 8, 9, 10, 11, 12, 13, 14, 15], [15], [5, 41], [], [], []⟩] [⟨none, none, []⟩, ⟨none, none, []⟩, ⟨(some 14), none, [40]⟩, ⟨(some 15), none, [41]⟩] [5, 26, 27, 28, 29, 30, 31, 32, 33, 34, 35, 36, 37, 38, 39, 40, 41] [0, 1] [0, 1, 2, 3] [0, 1, 2, 3, 4, 5, 6, 7, 8, 9, 10, 11, 12, 13, 14, 15, 16] [fun Ep6u4 => Ep6u4 26 = .slice none 0 0, fun Ep6u4 => Ep6u4 27 = .agg #[.int .i64 c0.Rows, .int .i64 c0.Cols, .int .i64 c0.Tracks, .slice q3 c0.Tiles.length c_c0_3, .slice q4 c0.In.length c_c0_4, .slice q5 c0.Out.length c_c0_5], fun Ep6u4 => Ep6u4 28 = .int .i64 tile1, fun Ep6u4 => Ep6u4 29 = .int .i64 q2.In.fe0, fun Ep6u4 => Ep6u4 30 = .int .i64 x30u4, fun Ep6u4 => Ep6u4 31 = .pointer (some ⟨b2, 2, none⟩), fun Ep6u4 => Ep6u4 32 = .int .i64 c0.Tracks, fun Ep6u4 => Ep6u4 33 = .int .i64 x33u4, fun Ep6u4 => Ep6u4 34 = .int .i64 q2.In.fe0, fun Ep6u4 => Ep6u4 35 = .int .i64 x35u4, fun Ep6u4 => Ep6u4 36 = .pointer (some ⟨b2, 2, none⟩), fun Ep6u4 => Ep6u4 37 = .int .i64 c0.Tracks, fun Ep6u4 => Ep6u4 38 = .int .i64 x38u4, fun Ep6u4 => Ep6u4 39 = .int .i64 q0j, fun Ep6u4 => Ep6u4 40 = .slice (some ⟨(blkOf (Ep6u4 40)), 0, none⟩) 1 1, fun Ep6u4 => Ep6u4 41 = .slice (adOf (Ep6u4 41)) q9.length (capOf (Ep6u4 41)), fun Ep6u4 => Ep6u4 5 = .slice (adOf (Ep6u4 41)) q9.length (capOf (Ep6u4 41))] [fun Ep6u4 => cells b2 81 [.int .i64 c0.Rows, .int .i64 c0.Cols, .int .i64 c0.Tracks, .slice q3 c0.Tiles.length c_c0_3, .slice q4 c0.In.length c_c0_4, .slice q5 c0.Out.length c_c0_5], fun Ep6u4 => ro ρ, fun Ep6u4 => cells (blkOf (Ep6u4 40)) 3 [.int .i64 q0j], fun Ep6u4 => bunA (fun (cs41u4 : List Value) => RepL (RpI .i64) ρ q9 cs41u4) (fun (cs41u4 : List Value) => [vec 3 (RpI .i64).sz (.slice (adOf (Ep6u4 41)) q9.length (capOf (Ep6u4 41))) q9.length cs41u4])] mixed (by kernel_rfl) ((hS.pull 1).pull 1) ?_ ?_
      · refine ⟨?_, ?_, ?_, ?_, ?_, ?_, ?_, ?_, ?_, ?_, ?_, ?_, ?_, ?_, ?_, ?_, ?_, trivial⟩
        · intro Ep6u4 w l' hE6u4 hO6u4 hF_ hS
          refine p (yl_move (hO6u4 5 rfl)) <| x_done <|
            ?_
          refine x_fin ⟨⟨_, rfl⟩, rfl, ?_⟩
          exact Eq.mp (by kernel_rfl) hS
        · intro Ep6u4 w l' hE6u4 hO6u4 hF_ hS
          replace hS : St w0 w (cells b2 81 [.int .i64 c0.Rows, .int .i64 c0.Cols, .int .i64 c0.Tracks, .slice q3 c0.Tiles.length c_c0_3, .slice q4 c0.In.length c_c0_4, .slice q5 c0.Out.length c_c0_5] :: l') := Eq.mp (by kernel_rfl) hS
          refine pa (v := .agg #[.int .i64 c0.Rows, .int .i64 c0.Cols, .int .i64 c0.Tracks, .slice q3 c0.Tiles.length c_c0_3, .slice q4 c0.In.length c_c0_4, .slice q5 c0.Out.length c_c0_5]) (ld_sub agg_81 (hE6u4 2 rfl) rfl rfl hS) <| x_done <|
            ?_
          refine x_fin ⟨⟨_, rfl⟩, rfl, ?_⟩
          exact Eq.mp (by kernel_rfl) hS
        · intro Ep6u4 w l' hE6u4 hO6u4 hF_ hS
          refine p (yl_move (hE6u4 1 rfl)) <| x_done <|
            ?_
          refine x_fin ⟨⟨_, rfl⟩, rfl, ?_⟩
          exact Eq.mp (by kernel_rfl) hS
        · intro Ep6u4 w l' hE6u4 hO6u4 hF_ hS
          refine p (yl_move (hE6u4 7 rfl)) <| x_done <|
            ?_
          refine x_fin ⟨⟨_, rfl⟩, rfl, ?_⟩
          exact Eq.mp (by kernel_rfl) hS
        · intro Ep6u4 w l' hE6u4 hO6u4 hF_ hS
          obtain ⟨q1p, -⟩ := hF_
          replace q1p : Ep6u4 29 = .int .i64 q2.In.fe0 := Eq.mp (by kernel_rfl) q1p
          refine p (ysub q1p rfl hx30u4) <| x_done <|
            ?_
          refine x_fin ⟨⟨_, rfl⟩, rfl, ?_⟩
          exact Eq.mp (by kernel_rfl) hS
        · intro Ep6u4 w l' hE6u4 hO6u4 hF_ hS
          refine p (yl_field0 fld_81_2 (hE6u4 2 rfl)) <| x_done <|
            ?_
          refine x_fin ⟨⟨_, rfl⟩, rfl, ?_⟩
          exact Eq.mp (by kernel_rfl) hS
        · intro Ep6u4 w l' hE6u4 hO6u4 hF_ hS
          obtain ⟨q1q, -⟩ := hF_
          replace q1q : Ep6u4 31 = .pointer (some ⟨b2, 2, none⟩) := Eq.mp (by kernel_rfl) q1q
          replace hS : St w0 w (cells b2 81 [.int .i64 c0.Rows, .int .i64 c0.Cols, .int .i64 c0.Tracks, .slice q3 c0.Tiles.length c_c0_3, .slice q4 c0.In.length c_c0_4, .slice q5 c0.Out.length c_c0_5] :: l') := Eq.mp (by kernel_rfl) hS
          refine pa (at_load one_3 q1q (hS.cell rfl)) <| x_done <|
            ?_
          refine x_fin ⟨⟨_, rfl⟩, rfl, ?_⟩
          exact Eq.mp (by kernel_rfl) hS
        · intro Ep6u4 w l' hE6u4 hO6u4 hF_ hS
          obtain ⟨q1r, q1s, -⟩ := hF_
          replace q1r : Ep6u4 30 = .int .i64 x30u4 := Eq.mp (by kernel_rfl) q1r
          replace q1s : Ep6u4 32 = .int .i64 c0.Tracks := Eq.mp (by kernel_rfl) q1s
          refine p (yquo q1r q1s q44 hx33u4) <| x_done <|
            ?_
          refine x_fin ⟨⟨_, rfl⟩, rfl, ?_⟩
          exact Eq.mp (by kernel_rfl) hS
        · intro Ep6u4 w l' hE6u4 hO6u4 hF_ hS
          refine p (yl_move (hE6u4 7 rfl)) <| x_done <|
            ?_
          refine x_fin ⟨⟨_, rfl⟩, rfl, ?_⟩
          exact Eq.mp (by kernel_rfl) hS
        · intro Ep6u4 w l' hE6u4 hO6u4 hF_ hS
          obtain ⟨q1t, -⟩ := hF_
          replace q1t : Ep6u4 34 = .int .i64 q2.In.fe0 := Eq.mp (by kernel_rfl) q1t
          refine p (ysub q1t rfl hx35u4) <| x_done <|
            ?_
          refine x_fin ⟨⟨_, rfl⟩, rfl, ?_⟩
          exact Eq.mp (by kernel_rfl) hS
        · intro Ep6u4 w l' hE6u4 hO6u4 hF_ hS
          refine p (yl_field0 fld_81_2 (hE6u4 2 rfl)) <| x_done <|
            ?_
          refine x_fin ⟨⟨_, rfl⟩, rfl, ?_⟩
          exact Eq.mp (by kernel_rfl) hS
        · intro Ep6u4 w l' hE6u4 hO6u4 hF_ hS
          obtain ⟨q0x, -⟩ := hF_
          replace q0x : Ep6u4 36 = .pointer (some ⟨b2, 2, none⟩) := Eq.mp (by kernel_rfl) q0x
          replace hS : St w0 w (cells b2 81 [.int .i64 c0.Rows, .int .i64 c0.Cols, .int .i64 c0.Tracks, .slice q3 c0.Tiles.length c_c0_3, .slice q4 c0.In.length c_c0_4, .slice q5 c0.Out.length c_c0_5] :: l') := Eq.mp (by kernel_rfl) hS
          refine pa (at_load one_3 q0x (hS.cell rfl)) <| x_done <|
            ?_
          refine x_fin ⟨⟨_, rfl⟩, rfl, ?_⟩
          exact Eq.mp (by kernel_rfl) hS
        · intro Ep6u4 w l' hE6u4 hO6u4 hF_ hS
          obtain ⟨q1u, q0y, -⟩ := hF_
          replace q1u : Ep6u4 35 = .int .i64 x35u4 := Eq.mp (by kernel_rfl) q1u
          replace q0y : Ep6u4 37 = .int .i64 c0.Tracks := Eq.mp (by kernel_rfl) q0y
          refine p (yrem q1u q0y q3k hx38u4) <| x_done <|
            ?_
          refine x_fin ⟨⟨_, rfl⟩, rfl, ?_⟩
          exact Eq.mp (by kernel_rfl) hS
        · intro Ep6u4 w l' hE6u4 hO6u4 hF_ hS
          obtain ⟨q1v, q1w, q1x, q0z, -⟩ := hF_
          replace q1v : Ep6u4 27 = .agg #[.int .i64 c0.Rows, .int .i64 c0.Cols, .int .i64 c0.Tracks, .slice q3 c0.Tiles.length c_c0_3, .slice q4 c0.In.length c_c0_4, .slice q5 c0.Out.length c_c0_5] := Eq.mp (by kernel_rfl) q1v
          replace q1w : Ep6u4 28 = .int .i64 tile1 := Eq.mp (by kernel_rfl) q1w
          replace q1x : Ep6u4 33 = .int .i64 x33u4 := Eq.mp (by kernel_rfl) q1x
          replace q0z : Ep6u4 38 = .int .i64 x38u4 := Eq.mp (by kernel_rfl) q0z
          replace hS : St w0 w (ro ρ :: l') := Eq.mp (by kernel_rfl) hS
          have hcall := c_array_Config_into q3l q1l q2t q2u hS
          refine o_cc call_157 (args4 q1v q1w q1x q0z) (hcall) ?_
          rintro e w' ⟨rfl, hS⟩
          refine ⟨_, rfl, ?_⟩
          refine x_done <|
            ?_
          refine x_fin ⟨⟨_, rfl⟩, rfl, ?_⟩
          exact Eq.mp (by kernel_rfl) hS
        · intro Ep6u4 w l' hE6u4 hO6u4 hF_ hS
          obtain ⟨q10, -⟩ := hF_
          replace q10 : Ep6u4 39 = .int .i64 q0j := Eq.mp (by kernel_rfl) q10
          refine o_buildSlice (vs := [.int .i64 q0j]) (cs := [.int .i64 q0j]) sl_22 zero_3 (parts_eq (pt (va := .int .i64 q0j) q10 pt0)) rfl (by intro v hv; simp only [List.mem_cons, List.not_mem_nil, or_false] at hv; first | (subst hv; rfl) | (rcases hv with rfl <;> rfl)) (by decide) rfl hS (fun b40u4 w' hS => ?_)
          refine x_done <|
            ?_
          refine x_fin ⟨⟨_, rfl⟩, rfl, ?_⟩
          exact Eq.mp (by kernel_rfl) hS
        · intro Ep6u4 w l' hE6u4 hO6u4 hF_ hS
          obtain ⟨q1y, q11, -⟩ := hF_
          replace q1y : Ep6u4 26 = .slice none 0 0 := Eq.mp (by kernel_rfl) q1y
          replace q11 : Ep6u4 40 = .slice (some ⟨(blkOf (Ep6u4 40)), 0, none⟩) 1 1 := Eq.mp (by kernel_rfl) q11
          replace hS : St w0 w (cells (blkOf (Ep6u4 40)) 3 [.int .i64 q0j] :: ro ρ :: l') := Eq.mp (by kernel_rfl) hS
          replace hS := St.vec_nil hS 3 (RpI .i64).sz
          have hn41u4 : RepL (RpI .i64) ρ [] [] := rfl
          refine o_ap sl_22 zero_3 rfl (by decide) q1y q11 hS hn41u4 (src_blk usl_22 (hS.pull 1) rfl rfl) (RepL.cons (R := (RpI .i64)) (ρ := ρ) (x := q0j) (cs := [.int .i64 q0j]) rfl RepL.nil) (q3m : q9 = [] ++ _) q3n (fun A41u4 c41u4 cs41u4 w' hr41u4 hS => ?_)
          refine x_done <|
            ?_
          refine x_fin ⟨⟨_, rfl⟩, rfl, ?_⟩
          replace hS := St.bun (Φ := (fun (cs41u4 : List Value) => RepL (RpI .i64) ρ q9 cs41u4)) (L := (fun (cs41u4 : List Value) => [vec 3 (RpI .i64).sz (.slice A41u4 q9.length c41u4) q9.length cs41u4])) cs41u4 hr41u4 hS
          exact Eq.mp (by kernel_rfl) ((hS.pull 2).pull 2)
        · intro Ep6u4 w l' hE6u4 hO6u4 hF_ hS
          obtain ⟨q12, -⟩ := hF_
          replace q12 : Ep6u4 41 = .slice (adOf (Ep6u4 41)) q9.length (capOf (Ep6u4 41)) := Eq.mp (by kernel_rfl) q12
          refine p (yl_assign q12) <| x_done <|
            ?_
          refine x_fin ⟨⟨_, rfl⟩, rfl, ?_⟩
          exact Eq.mp (by kernel_rfl) hS
      intro Ep6u4 w' hE6u4 hF_ hS
      obtain ⟨q1y, q1v, q1w, q1p, q1r, q1q, q1s, q1x, q1t, q1u, q0x, q0y, q0z, q10, q11, q12, q34, -⟩ := hF_
      replace q1y : Ep6u4 26 = .slice none 0 0 := Eq.mp (by kernel_rfl) q1y
      replace q1v : Ep6u4 27 = .agg #[.int .i64 c0.Rows, .int .i64 c0.Cols, .int .i64 c0.Tracks, .slice q3 c0.Tiles.length c_c0_3, .slice q4 c0.In.length c_c0_4, .slice q5 c0.Out.length c_c0_5] := Eq.mp (by kernel_rfl) q1v
      replace q1w : Ep6u4 28 = .int .i64 tile1 := Eq.mp (by kernel_rfl) q1w
      replace q1p : Ep6u4 29 = .int .i64 q2.In.fe0 := Eq.mp (by kernel_rfl) q1p
      replace q1r : Ep6u4 30 = .int .i64 x30u4 := Eq.mp (by kernel_rfl) q1r
      replace q1q : Ep6u4 31 = .pointer (some ⟨b2, 2, none⟩) := Eq.mp (by kernel_rfl) q1q
      replace q1s : Ep6u4 32 = .int .i64 c0.Tracks := Eq.mp (by kernel_rfl) q1s
      replace q1x : Ep6u4 33 = .int .i64 x33u4 := Eq.mp (by kernel_rfl) q1x
      replace q1t : Ep6u4 34 = .int .i64 q2.In.fe0 := Eq.mp (by kernel_rfl) q1t
      replace q1u : Ep6u4 35 = .int .i64 x35u4 := Eq.mp (by kernel_rfl) q1u
      replace q0x : Ep6u4 36 = .pointer (some ⟨b2, 2, none⟩) := Eq.mp (by kernel_rfl) q0x
      replace q0y : Ep6u4 37 = .int .i64 c0.Tracks := Eq.mp (by kernel_rfl) q0y
      replace q0z : Ep6u4 38 = .int .i64 x38u4 := Eq.mp (by kernel_rfl) q0z
      replace q10 : Ep6u4 39 = .int .i64 q0j := Eq.mp (by kernel_rfl) q10
      replace q11 : Ep6u4 40 = .slice (some ⟨(blkOf (Ep6u4 40)), 0, none⟩) 1 1 := Eq.mp (by kernel_rfl) q11
      replace q12 : Ep6u4 41 = .slice (adOf (Ep6u4 41)) q9.length (capOf (Ep6u4 41)) := Eq.mp (by kernel_rfl) q12
      replace q34 : Ep6u4 5 = .slice (adOf (Ep6u4 41)) q9.length (capOf (Ep6u4 41)) := Eq.mp (by kernel_rfl) q34
      replace hS : St w0 w' (cells b2 81 [.int .i64 c0.Rows, .int .i64 c0.Cols, .int .i64 c0.Tracks, .slice q3 c0.Tiles.length c_c0_3, .slice q4 c0.In.length c_c0_4, .slice q5 c0.Out.length c_c0_5] :: ro ρ :: cells (blkOf (Ep6u4 40)) 3 [.int .i64 q0j] :: bunA (fun (cs41u4 : List Value) => RepL (RpI .i64) ρ q9 cs41u4) (fun (cs41u4 : List Value) => [vec 3 (RpI .i64).sz (.slice (adOf (Ep6u4 41)) q9.length (capOf (Ep6u4 41))) q9.length cs41u4]) :: (l)) := Eq.mp (by kernel_rfl) hS
      have q_ := St.unbun (hS.pull 3); obtain ⟨cs41u4, hr41u4, hS⟩ := q_
      exact x_inv ⟨(adOf (Ep6u4 41)), q9.length, (capOf (Ep6u4 41)), cs41u4, q9, (Option.some.inj (show some _ = some _ from hFc25u4)), (hE6u4 1 rfl), (hE6u4 2 rfl), q34, (hE6u4 13 rfl), (hE6u4 14 rfl), hr41u4, ((((hS.pull 3).drop.pull 2).pull 1).pull 2)⟩
    · replace hFc25u4 := it_bf hc25u4 hFc25u4
      refine x_skip <|
        ?_
      replace hS := St.vec_nil hS 3 (RpI .i64).sz
      have q2z : RepL (RpI .i64) ρ [] [] := rfl
      exact x_inv ⟨none, 0, 0, [], [], (Option.some.inj (show some _ = some _ from hFc25u4)), rfl, rfl, rfl, rfl, rfl, q2z, (((hS.pull 2).pull 1).pull 2)⟩
  rintro E w ⟨q0a, q0o, c_out5_c25u4, q0g, q6, rfl, q31, q0t, q3a, q2v, q3g, q1m, hS⟩
  have e_ := St.vec_n (hS.pull 1) q1m; subst e_
  replace hF := ck_s hF; obtain ⟨q45, hF⟩ := hF
  replace hF := lv_s hF; obtain ⟨x23u3, hx23u3, hF⟩ := hF
  replace hF := lv_s hF; obtain ⟨x25u3, hx25u3, hF⟩ := hF
  refine x_blk <| x_region <| p (yadd (c := 1) q3g rfl ⟨rfl, by decide⟩) <| p (yl_move rfl) <|
    x_done <| x_un 3 <| x_seq <| x_region <|
    p (ylss_l (t := true) rfl rfl (by decide)) <| x_done <| x_seq <| x_cond_t (show ev _ _ = .bool true from rfl) <|
    x_skip <| x_seq <| x_block <| x_seq <|
    x_region <| p (yl_ixv (x := .tmp 13) (y := .tmp 14) (v := .int .i64 q2.In.fe1) arr_180 one_3 q2v rfl (by decide) rfl) <| p (yl_assign rfl) <| x_done <|
    x_seq <| x_region <| p (yl_move rfl) <| p (yl_gtr rfl rfl) <|
    p (yl_move rfl) <| pg (v := .int .i64 q2.In.fe1) 19 (c := decide (0 < q2.In.fe1)) (says_t _) (fun hq => Yl.at (yl_move rfl)) <| pg (v := .pointer (some ⟨b2, 2, none⟩)) 19 (c := decide (0 < q2.In.fe1)) (says_t _) (fun hq => Yl.at (yl_field0 fld_81_2 q0t)) <| pg (v := .int .i64 c0.Tracks) 19 (c := decide (0 < q2.In.fe1)) (says_t _) (fun hq => at_load one_3 (cv hq) (hS.cell rfl)) <|
    pg (v := .int .i64 x23u3) 19 (c := decide (0 < q2.In.fe1)) (says_t _) (fun hq => Yl.at (ymul rfl (cv hq) ⟨hx23u3, (q45 hq)⟩)) <| pg (v := .bool (decide (q2.In.fe1 ≤ x23u3))) 19 (c := decide (0 < q2.In.fe1)) (says_t _) (fun hq => Yl.at (yl_leq (cv hq) (cv hq))) <| p (yand' rfl (fun hc => (cv hc)) rfl hx25u3) <| x_done <|
    ?_
  replace hF := bd_s hF; obtain ⟨oc25u3, hFc25u3, hF⟩ := hF
  refine x_join (fun E w => ∃ (q0b : Option Addr) (q0p : Nat) (c_out5_c25u3 : Nat) (q0h : List Value) (q7 : List Int), q7 = oc25u3 ∧ E 1 = .int .i64 tile1 ∧ E 2 = .pointer (some ⟨b2, 0, none⟩) ∧ E 5 = .slice q0b q0p c_out5_c25u3 ∧ E 13 = .agg #[.int .i64 q2.In.fe0, .int .i64 q2.In.fe1, .int .i64 q2.In.fe2, .int .i64 q2.In.fe3] ∧ E 14 = .int .i64 1 ∧ RepL (RpI .i64) ρ q7 q0h ∧ St w0 w (cells b2 81 [.int .i64 c0.Rows, .int .i64 c0.Cols, .int .i64 c0.Tracks, .slice q3 c0.Tiles.length c_c0_3, .slice q4 c0.In.length c_c0_4, .slice q5 c0.Out.length c_c0_5] :: vec 3 (RpI .i64).sz (.slice q0b q0p c_out5_c25u3) q0p q0h :: ro ρ :: l)) ?_ ?_
  · skip -- c25u3
    refine x_cond (t := x25u3) rfl (fun hc25u3 => ?_) (fun hc25u3 => ?_)
    · replace hFc25u3 := it_t hc25u3 hFc25u3
      replace hFc25u3 := ar_s hFc25u3; obtain ⟨x30u3, hx30u3, hFc25u3⟩ := hFc25u3
      replace hFc25u3 := ck_s hFc25u3; obtain ⟨q46, hFc25u3⟩ := hFc25u3
      replace hFc25u3 := ar_s hFc25u3; obtain ⟨x33u3, hx33u3, hFc25u3⟩ := hFc25u3
      replace hFc25u3 := ar_s hFc25u3; obtain ⟨x35u3, hx35u3, hFc25u3⟩ := hFc25u3
      replace hFc25u3 := ck_s hFc25u3; obtain ⟨q3o, hFc25u3⟩ := hFc25u3
      replace hFc25u3 := lv_s hFc25u3; obtain ⟨x38u3, hx38u3, hFc25u3⟩ := hFc25u3
      replace hFc25u3 := bd_s hFc25u3; obtain ⟨q0k, q3p, hFc25u3⟩ := hFc25u3
      replace hFc25u3 := lv_s hFc25u3; obtain ⟨q0d, q3q, hFc25u3⟩ := hFc25u3
      replace hFc25u3 := ck_s hFc25u3; obtain ⟨q3r, hFc25u3⟩ := hFc25u3
      refine x_par (w0 := w0) [⟨[], [], [26], [], [], []⟩, ⟨[], [], [27], [0], [], []⟩, ⟨[], [], [28], [], [], []⟩, ⟨[], [], [29], [], [], []⟩, ⟨[3], [3], [30], [], [], []⟩, ⟨[], [], [31], [], [], []⟩, ⟨[5], [5], [32], [0], [], []⟩, ⟨[3, 4, 5, 6], [4, 6], [33], [], [], []⟩, ⟨[], [], [34], [], [], []⟩, ⟨[8], [8], [35], [], [], []⟩, ⟨[], [], [36], [], [], []⟩, ⟨[10], [10], [37], [0], [], []⟩, ⟨[8, 9, 10, 11], [9, 11], [38], [], [], []⟩, ⟨[1, 2, 3, 4, 5, 6, 7, 8, 9, 10, 11, 12], [1, 2, 7, 12], [39], [1], [], []⟩, ⟨[1, 2, 3, 4, 5, 6, 7, 8, 9, 10, 11, 12, 13], [13], [40], [], [], [2]⟩, ⟨[0, 1, 2, 3, 4, 5, 6, 7, 8, 9, 10, 11, 12, 13, 14], [0, 14], [41], [2, 1], [3], [4]⟩, ⟨[0, 1, 2, 3, 4, 5, 6, 7, 8, 9, 10, 11, 12, 13, 14, 15], [15], [5, 41], [], [], []⟩] [⟨none, none, []⟩, ⟨none, none, []⟩, ⟨(some 14), none, [40]⟩, ⟨none, (some 15), []⟩, ⟨(some 15), none, [41]⟩] [5, 26, 27, 28, 29, 30, 31, 32, 33, 34, 35, 36, 37, 38, 39, 40, 41] [0, 1, 3] [0, 1, 2, 4] [0, 1, 2, 3, 4, 5, 6, 7, 8, 9, 10, 11, 12, 13, 14, 15, 16] [fun Ep6u3 => Ep6u3 26 = .slice q0a q6.length c_out5_c25u4, fun Ep6u3 => Ep6u3 27 = .agg #[.int .i64 c0.Rows, .int .i64 c0.Cols, .int .i64 c0.Tracks, .slice q3 c0.Tiles.length c_c0_3, .slice q4 c0.In.length c_c0_4, .slice q5 c0.Out.length c_c0_5], fun Ep6u3 => Ep6u3 28 = .int .i64 tile1, fun Ep6u3 => Ep6u3 29 = .int .i64 q2.In.fe1, fun Ep6u3 => Ep6u3 30 = .int .i64 x30u3, fun Ep6u3 => Ep6u3 31 = .pointer (some ⟨b2, 2, none⟩), fun Ep6u3 => Ep6u3 32 = .int .i64 c0.Tracks, fun Ep6u3 => Ep6u3 33 = .int .i64 x33u3, fun Ep6u3 => Ep6u3 34 = .int .i64 q2.In.fe1, fun Ep6u3 => Ep6u3 35 = .int .i64 x35u3, fun Ep6u3 => Ep6u3 36 = .pointer (some ⟨b2, 2, none⟩), fun Ep6u3 => Ep6u3 37 = .int .i64 c0.Tracks, fun Ep6u3 => Ep6u3 38 = .int .i64 x38u3, fun Ep6u3 => Ep6u3 39 = .int .i64 q0k, fun Ep6u3 => Ep6u3 40 = .slice (some ⟨(blkOf (Ep6u3 40)), 0, none⟩) 1 1, fun Ep6u3 => Ep6u3 41 = .slice (adOf (Ep6u3 41)) q0d.length (capOf (Ep6u3 41)), fun Ep6u3 => Ep6u3 5 = .slice (adOf (Ep6u3 41)) q0d.length (capOf (Ep6u3 41))] [fun Ep6u3 => cells b2 81 [.int .i64 c0.Rows, .int .i64 c0.Cols, .int .i64 c0.Tracks, .slice q3 c0.Tiles.length c_c0_3, .slice q4 c0.In.length c_c0_4, .slice q5 c0.Out.length c_c0_5], fun Ep6u3 => ro ρ, fun Ep6u3 => cells (blkOf (Ep6u3 40)) 3 [.int .i64 q0k], fun Ep6u3 => vec 3 (RpI .i64).sz (.slice q0a q6.length c_out5_c25u4) q6.length q0g, fun Ep6u3 => bunA (fun (cs41u3 : List Value) => RepL (RpI .i64) ρ q0d cs41u3) (fun (cs41u3 : List Value) => [vec 3 (RpI .i64).sz (.slice (adOf (Ep6u3 41)) q0d.length (capOf (Ep6u3 41))) q0d.length cs41u3])] mixed (by kernel_rfl) (((hS.pull 1).pull 2).pull 2) ?_ ?_
      · refine ⟨?_, ?_, ?_, ?_, ?_, ?_, ?_, ?_, ?_, ?_, ?_, ?_, ?_, ?_, ?_, ?_, ?_, trivial⟩
        · intro Ep6u3 w l' hE6u3 hO6u3 hF_ hS
          refine p (yl_move ((hO6u3 5 rfl).trans q3a)) <| x_done <|
            ?_
          refine x_fin ⟨⟨_, rfl⟩, rfl, ?_⟩
          exact Eq.mp (by kernel_rfl) hS
        · intro Ep6u3 w l' hE6u3 hO6u3 hF_ hS
          replace hS : St w0 w (cells b2 81 [.int .i64 c0.Rows, .int .i64 c0.Cols, .int .i64 c0.Tracks, .slice q3 c0.Tiles.length c_c0_3, .slice q4 c0.In.length c_c0_4, .slice q5 c0.Out.length c_c0_5] :: l') := Eq.mp (by kernel_rfl) hS
          refine pa (v := .agg #[.int .i64 c0.Rows, .int .i64 c0.Cols, .int .i64 c0.Tracks, .slice q3 c0.Tiles.length c_c0_3, .slice q4 c0.In.length c_c0_4, .slice q5 c0.Out.length c_c0_5]) (ld_sub agg_81 ((hE6u3 2 rfl).trans q0t) rfl rfl hS) <| x_done <|
            ?_
          refine x_fin ⟨⟨_, rfl⟩, rfl, ?_⟩
          exact Eq.mp (by kernel_rfl) hS
        · intro Ep6u3 w l' hE6u3 hO6u3 hF_ hS
          refine p (yl_move ((hE6u3 1 rfl).trans q31)) <| x_done <|
            ?_
          refine x_fin ⟨⟨_, rfl⟩, rfl, ?_⟩
          exact Eq.mp (by kernel_rfl) hS
        · intro Ep6u3 w l' hE6u3 hO6u3 hF_ hS
          refine p (yl_move (hE6u3 7 rfl)) <| x_done <|
            ?_
          refine x_fin ⟨⟨_, rfl⟩, rfl, ?_⟩
          exact Eq.mp (by kernel_rfl) hS
        · intro Ep6u3 w l' hE6u3 hO6u3 hF_ hS
          obtain ⟨q1z, -⟩ := hF_
          replace q1z : Ep6u3 29 = .int .i64 q2.In.fe1 := Eq.mp (by kernel_rfl) q1z
          refine p (ysub q1z rfl hx30u3) <| x_done <|
            ?_
          refine x_fin ⟨⟨_, rfl⟩, rfl, ?_⟩
          exact Eq.mp (by kernel_rfl) hS
        · intro Ep6u3 w l' hE6u3 hO6u3 hF_ hS
          refine p (yl_field0 fld_81_2 ((hE6u3 2 rfl).trans q0t)) <| x_done <|
            ?_
          refine x_fin ⟨⟨_, rfl⟩, rfl, ?_⟩
          exact Eq.mp (by kernel_rfl) hS
        · intro Ep6u3 w l' hE6u3 hO6u3 hF_ hS
          obtain ⟨q20, -⟩ := hF_
          replace q20 : Ep6u3 31 = .pointer (some ⟨b2, 2, none⟩) := Eq.mp (by kernel_rfl) q20
          replace hS : St w0 w (cells b2 81 [.int .i64 c0.Rows, .int .i64 c0.Cols, .int .i64 c0.Tracks, .slice q3 c0.Tiles.length c_c0_3, .slice q4 c0.In.length c_c0_4, .slice q5 c0.Out.length c_c0_5] :: l') := Eq.mp (by kernel_rfl) hS
          refine pa (at_load one_3 q20 (hS.cell rfl)) <| x_done <|
            ?_
          refine x_fin ⟨⟨_, rfl⟩, rfl, ?_⟩
          exact Eq.mp (by kernel_rfl) hS
        · intro Ep6u3 w l' hE6u3 hO6u3 hF_ hS
          obtain ⟨q21, q22, -⟩ := hF_
          replace q21 : Ep6u3 30 = .int .i64 x30u3 := Eq.mp (by kernel_rfl) q21
          replace q22 : Ep6u3 32 = .int .i64 c0.Tracks := Eq.mp (by kernel_rfl) q22
          refine p (yquo q21 q22 q46 hx33u3) <| x_done <|
            ?_
          refine x_fin ⟨⟨_, rfl⟩, rfl, ?_⟩
          exact Eq.mp (by kernel_rfl) hS
        · intro Ep6u3 w l' hE6u3 hO6u3 hF_ hS
          refine p (yl_move (hE6u3 7 rfl)) <| x_done <|
            ?_
          refine x_fin ⟨⟨_, rfl⟩, rfl, ?_⟩
          exact Eq.mp (by kernel_rfl) hS
        · intro Ep6u3 w l' hE6u3 hO6u3 hF_ hS
          obtain ⟨q23, -⟩ := hF_
          replace q23 : Ep6u3 34 = .int .i64 q2.In.fe1 := Eq.mp (by kernel_rfl) q23
          refine p (ysub q23 rfl hx35u3) <| x_done <|
            ?_
          refine x_fin ⟨⟨_, rfl⟩, rfl, ?_⟩
          exact Eq.mp (by kernel_rfl) hS
        · intro Ep6u3 w l' hE6u3 hO6u3 hF_ hS
          refine p (yl_field0 fld_81_2 ((hE6u3 2 rfl).trans q0t)) <| x_done <|
            ?_
          refine x_fin ⟨⟨_, rfl⟩, rfl, ?_⟩
          exact Eq.mp (by kernel_rfl) hS
        · intro Ep6u3 w l' hE6u3 hO6u3 hF_ hS
          obtain ⟨q13, -⟩ := hF_
          replace q13 : Ep6u3 36 = .pointer (some ⟨b2, 2, none⟩) := Eq.mp (by kernel_rfl) q13
          replace hS : St w0 w (cells b2 81 [.int .i64 c0.Rows, .int .i64 c0.Cols, .int .i64 c0.Tracks, .slice q3 c0.Tiles.length c_c0_3, .slice q4 c0.In.length c_c0_4, .slice q5 c0.Out.length c_c0_5] :: l') := Eq.mp (by kernel_rfl) hS
          refine pa (at_load one_3 q13 (hS.cell rfl)) <| x_done <|
            ?_
          refine x_fin ⟨⟨_, rfl⟩, rfl, ?_⟩
          exact Eq.mp (by kernel_rfl) hS
        · intro Ep6u3 w l' hE6u3 hO6u3 hF_ hS
          obtain ⟨q24, q14, -⟩ := hF_
          replace q24 : Ep6u3 35 = .int .i64 x35u3 := Eq.mp (by kernel_rfl) q24
          replace q14 : Ep6u3 37 = .int .i64 c0.Tracks := Eq.mp (by kernel_rfl) q14
          refine p (yrem q24 q14 q3o hx38u3) <| x_done <|
            ?_
          refine x_fin ⟨⟨_, rfl⟩, rfl, ?_⟩
          exact Eq.mp (by kernel_rfl) hS
        · intro Ep6u3 w l' hE6u3 hO6u3 hF_ hS
          obtain ⟨q25, q26, q27, q15, -⟩ := hF_
          replace q25 : Ep6u3 27 = .agg #[.int .i64 c0.Rows, .int .i64 c0.Cols, .int .i64 c0.Tracks, .slice q3 c0.Tiles.length c_c0_3, .slice q4 c0.In.length c_c0_4, .slice q5 c0.Out.length c_c0_5] := Eq.mp (by kernel_rfl) q25
          replace q26 : Ep6u3 28 = .int .i64 tile1 := Eq.mp (by kernel_rfl) q26
          replace q27 : Ep6u3 33 = .int .i64 x33u3 := Eq.mp (by kernel_rfl) q27
          replace q15 : Ep6u3 38 = .int .i64 x38u3 := Eq.mp (by kernel_rfl) q15
          replace hS : St w0 w (ro ρ :: l') := Eq.mp (by kernel_rfl) hS
          have hcall := c_array_Config_into q3p q1l q2t q2u hS
          refine o_cc call_157 (args4 q25 q26 q27 q15) (hcall) ?_
          rintro e w' ⟨rfl, hS⟩
          refine ⟨_, rfl, ?_⟩
          refine x_done <|
            ?_
          refine x_fin ⟨⟨_, rfl⟩, rfl, ?_⟩
          exact Eq.mp (by kernel_rfl) hS
        · intro Ep6u3 w l' hE6u3 hO6u3 hF_ hS
          obtain ⟨q16, -⟩ := hF_
          replace q16 : Ep6u3 39 = .int .i64 q0k := Eq.mp (by kernel_rfl) q16
          refine o_buildSlice (vs := [.int .i64 q0k]) (cs := [.int .i64 q0k]) sl_22 zero_3 (parts_eq (pt (va := .int .i64 q0k) q16 pt0)) rfl (by intro v hv; simp only [List.mem_cons, List.not_mem_nil, or_false] at hv; first | (subst hv; rfl) | (rcases hv with rfl <;> rfl)) (by decide) rfl hS (fun b40u3 w' hS => ?_)
          refine x_done <|
            ?_
          refine x_fin ⟨⟨_, rfl⟩, rfl, ?_⟩
          exact Eq.mp (by kernel_rfl) hS
        · intro Ep6u3 w l' hE6u3 hO6u3 hF_ hS
          obtain ⟨q28, q17, -⟩ := hF_
          replace q28 : Ep6u3 26 = .slice q0a q6.length c_out5_c25u4 := Eq.mp (by kernel_rfl) q28
          replace q17 : Ep6u3 40 = .slice (some ⟨(blkOf (Ep6u3 40)), 0, none⟩) 1 1 := Eq.mp (by kernel_rfl) q17
          replace hS : St w0 w (cells (blkOf (Ep6u3 40)) 3 [.int .i64 q0k] :: ro ρ :: vec 3 (RpI .i64).sz (.slice q0a q6.length c_out5_c25u4) q6.length q0g :: l') := Eq.mp (by kernel_rfl) hS
          refine o_ap sl_22 zero_3 rfl (by decide) q28 q17 (hS.pull 2) q1m (src_blk usl_22 hS rfl rfl) (RepL.cons (R := (RpI .i64)) (ρ := ρ) (x := q0k) (cs := [.int .i64 q0k]) rfl RepL.nil) q3q q3r (fun A41u3 c41u3 cs41u3 w' hr41u3 hS => ?_)
          refine x_done <|
            ?_
          refine x_fin ⟨⟨_, rfl⟩, rfl, ?_⟩
          replace hS := St.bun (Φ := (fun (cs41u3 : List Value) => RepL (RpI .i64) ρ q0d cs41u3)) (L := (fun (cs41u3 : List Value) => [vec 3 (RpI .i64).sz (.slice A41u3 q0d.length c41u3) q0d.length cs41u3])) cs41u3 hr41u3 hS
          exact Eq.mp (by kernel_rfl) ((hS.pull 2).pull 2)
        · intro Ep6u3 w l' hE6u3 hO6u3 hF_ hS
          obtain ⟨q18, -⟩ := hF_
          replace q18 : Ep6u3 41 = .slice (adOf (Ep6u3 41)) q0d.length (capOf (Ep6u3 41)) := Eq.mp (by kernel_rfl) q18
          refine p (yl_assign q18) <| x_done <|
            ?_
          refine x_fin ⟨⟨_, rfl⟩, rfl, ?_⟩
          exact Eq.mp (by kernel_rfl) hS
      intro Ep6u3 w' hE6u3 hF_ hS
      obtain ⟨q28, q25, q26, q1z, q21, q20, q22, q27, q23, q24, q13, q14, q15, q16, q17, q18, q35, -⟩ := hF_
      replace q28 : Ep6u3 26 = .slice q0a q6.length c_out5_c25u4 := Eq.mp (by kernel_rfl) q28
      replace q25 : Ep6u3 27 = .agg #[.int .i64 c0.Rows, .int .i64 c0.Cols, .int .i64 c0.Tracks, .slice q3 c0.Tiles.length c_c0_3, .slice q4 c0.In.length c_c0_4, .slice q5 c0.Out.length c_c0_5] := Eq.mp (by kernel_rfl) q25
      replace q26 : Ep6u3 28 = .int .i64 tile1 := Eq.mp (by kernel_rfl) q26
      replace q1z : Ep6u3 29 = .int .i64 q2.In.fe1 := Eq.mp (by kernel_rfl) q1z
      replace q21 : Ep6u3 30 = .int .i64 x30u3 := Eq.mp (by kernel_rfl) q21
      replace q20 : Ep6u3 31 = .pointer (some ⟨b2, 2, none⟩) := Eq.mp (by kernel_rfl) q20
      replace q22 : Ep6u3 32 = .int .i64 c0.Tracks := Eq.mp (by kernel_rfl) q22
      replace q27 : Ep6u3 33 = .int .i64 x33u3 := Eq.mp (by kernel_rfl) q27
      replace q23 : Ep6u3 34 = .int .i64 q2.In.fe1 := Eq.mp (by kernel_rfl) q23
      replace q24 : Ep6u3 35 = .int .i64 x35u3 := Eq.mp (by kernel_rfl) q24
      replace q13 : Ep6u3 36 = .pointer (some ⟨b2, 2, none⟩) := Eq.mp (by kernel_rfl) q13
      replace q14 : Ep6u3 37 = .int .i64 c0.Tracks := Eq.mp (by kernel_rfl) q14
      replace q15 : Ep6u3 38 = .int .i64 x38u3 := Eq.mp (by kernel_rfl) q15
      replace q16 : Ep6u3 39 = .int .i64 q0k := Eq.mp (by kernel_rfl) q16
      replace q17 : Ep6u3 40 = .slice (some ⟨(blkOf (Ep6u3 40)), 0, none⟩) 1 1 := Eq.mp (by kernel_rfl) q17
      replace q18 : Ep6u3 41 = .slice (adOf (Ep6u3 41)) q0d.length (capOf (Ep6u3 41)) := Eq.mp (by kernel_rfl) q18
      replace q35 : Ep6u3 5 = .slice (adOf (Ep6u3 41)) q0d.length (capOf (Ep6u3 41)) := Eq.mp (by kernel_rfl) q35
      replace hS : St w0 w' (cells b2 81 [.int .i64 c0.Rows, .int .i64 c0.Cols, .int .i64 c0.Tracks, .slice q3 c0.Tiles.length c_c0_3, .slice q4 c0.In.length c_c0_4, .slice q5 c0.Out.length c_c0_5] :: ro ρ :: cells (blkOf (Ep6u3 40)) 3 [.int .i64 q0k] :: bunA (fun (cs41u3 : List Value) => RepL (RpI .i64) ρ q0d cs41u3) (fun (cs41u3 : List Value) => [vec 3 (RpI .i64).sz (.slice (adOf (Ep6u3 41)) q0d.length (capOf (Ep6u3 41))) q0d.length cs41u3]) :: (l)) := Eq.mp (by kernel_rfl) hS
      have q_ := St.unbun (hS.pull 3); obtain ⟨cs41u3, hr41u3, hS⟩ := q_
      exact x_inv ⟨(adOf (Ep6u3 41)), q0d.length, (capOf (Ep6u3 41)), cs41u3, q0d, (Option.some.inj (show some _ = some _ from hFc25u3)), ((hE6u3 1 rfl).trans q31), ((hE6u3 2 rfl).trans q0t), q35, ((hE6u3 13 rfl).trans q2v), (hE6u3 14 rfl), hr41u3, ((((hS.pull 3).drop.pull 2).pull 1).pull 2)⟩
    · replace hFc25u3 := it_bf hc25u3 hFc25u3
      refine x_skip <|
        ?_
      exact x_inv ⟨q0a, q6.length, c_out5_c25u4, q0g, q6, (Option.some.inj (show some _ = some _ from hFc25u3)), q31, q0t, q3a, q2v, rfl, q1m, (((hS.pull 2).pull 2).pull 2)⟩
  rintro E w ⟨q0b, q0p, c_out5_c25u3, q0h, q7, rfl, q32, q0u, q3b, q2w, q3h, q1n, hS⟩
  have e_ := St.vec_n (hS.pull 1) q1n; subst e_
  replace hF := ck_s hF; obtain ⟨q47, hF⟩ := hF
  replace hF := lv_s hF; obtain ⟨x23u2, hx23u2, hF⟩ := hF
  replace hF := lv_s hF; obtain ⟨x25u2, hx25u2, hF⟩ := hF
  refine x_blk <| x_region <| p (yadd (c := 2) q3h rfl ⟨rfl, by decide⟩) <| p (yl_move rfl) <|
    x_done <| x_un 2 <| x_seq <| x_region <|
    p (ylss_l (t := true) rfl rfl (by decide)) <| x_done <| x_seq <| x_cond_t (show ev _ _ = .bool true from rfl) <|
    x_skip <| x_seq <| x_block <| x_seq <|
    x_region <| p (yl_ixv (x := .tmp 13) (y := .tmp 14) (v := .int .i64 q2.In.fe2) arr_180 one_3 q2w rfl (by decide) rfl) <| p (yl_assign rfl) <| x_done <|
    x_seq <| x_region <| p (yl_move rfl) <| p (yl_gtr rfl rfl) <|
    p (yl_move rfl) <| pg (v := .int .i64 q2.In.fe2) 19 (c := decide (0 < q2.In.fe2)) (says_t _) (fun hq => Yl.at (yl_move rfl)) <| pg (v := .pointer (some ⟨b2, 2, none⟩)) 19 (c := decide (0 < q2.In.fe2)) (says_t _) (fun hq => Yl.at (yl_field0 fld_81_2 q0u)) <| pg (v := .int .i64 c0.Tracks) 19 (c := decide (0 < q2.In.fe2)) (says_t _) (fun hq => at_load one_3 (cv hq) (hS.cell rfl)) <|
    pg (v := .int .i64 x23u2) 19 (c := decide (0 < q2.In.fe2)) (says_t _) (fun hq => Yl.at (ymul rfl (cv hq) ⟨hx23u2, (q47 hq)⟩)) <| pg (v := .bool (decide (q2.In.fe2 ≤ x23u2))) 19 (c := decide (0 < q2.In.fe2)) (says_t _) (fun hq => Yl.at (yl_leq (cv hq) (cv hq))) <| p (yand' rfl (fun hc => (cv hc)) rfl hx25u2) <| x_done <|
    ?_
  replace hF := bd_s hF; obtain ⟨oc25u2, hFc25u2, hF⟩ := hF
  refine x_join (fun E w => ∃ (q0c : Option Addr) (q0q : Nat) (c_out5_c25u2 : Nat) (q0i : List Value) (q8 : List Int), q8 = oc25u2 ∧ E 1 = .int .i64 tile1 ∧ E 2 = .pointer (some ⟨b2, 0, none⟩) ∧ E 5 = .slice q0c q0q c_out5_c25u2 ∧ E 13 = .agg #[.int .i64 q2.In.fe0, .int .i64 q2.In.fe1, .int .i64 q2.In.fe2, .int .i64 q2.In.fe3] ∧ E 14 = .int .i64 2 ∧ RepL (RpI .i64) ρ q8 q0i ∧ St w0 w (cells b2 81 [.int .i64 c0.Rows, .int .i64 c0.Cols, .int .i64 c0.Tracks, .slice q3 c0.Tiles.length c_c0_3, .slice q4 c0.In.length c_c0_4, .slice q5 c0.Out.length c_c0_5] :: vec 3 (RpI .i64).sz (.slice q0c q0q c_out5_c25u2) q0q q0i :: ro ρ :: l)) ?_ ?_
  · skip -- c25u2
    refine x_cond (t := x25u2) rfl (fun hc25u2 => ?_) (fun hc25u2 => ?_)
    · replace hFc25u2 := it_t hc25u2 hFc25u2
      replace hFc25u2 := ar_s hFc25u2; obtain ⟨x30u2, hx30u2, hFc25u2⟩ := hFc25u2
      replace hFc25u2 := ck_s hFc25u2; obtain ⟨q48, hFc25u2⟩ := hFc25u2
      replace hFc25u2 := ar_s hFc25u2; obtain ⟨x33u2, hx33u2, hFc25u2⟩ := hFc25u2
      replace hFc25u2 := ar_s hFc25u2; obtain ⟨x35u2, hx35u2, hFc25u2⟩ := hFc25u2
      replace hFc25u2 := ck_s hFc25u2; obtain ⟨q3s, hFc25u2⟩ := hFc25u2
      replace hFc25u2 := lv_s hFc25u2; obtain ⟨x38u2, hx38u2, hFc25u2⟩ := hFc25u2
      replace hFc25u2 := bd_s hFc25u2; obtain ⟨q0l, q3t, hFc25u2⟩ := hFc25u2
      replace hFc25u2 := lv_s hFc25u2; obtain ⟨q0e, q3u, hFc25u2⟩ := hFc25u2
      replace hFc25u2 := ck_s hFc25u2; obtain ⟨q3v, hFc25u2⟩ := hFc25u2
      refine x_par (w0 := w0) [⟨[], [], [26], [], [], []⟩, ⟨[], [], [27], [0], [], []⟩, ⟨[], [], [28], [], [], []⟩, ⟨[], [], [29], [], [], []⟩, ⟨[3], [3], [30], [], [], []⟩, ⟨[], [], [31], [], [], []⟩, ⟨[5], [5], [32], [0], [], []⟩, ⟨[3, 4, 5, 6], [4, 6], [33], [], [], []⟩, ⟨[], [], [34], [], [], []⟩, ⟨[8], [8], [35], [], [], []⟩, ⟨[], [], [36], [], [], []⟩, ⟨[10], [10], [37], [0], [], []⟩, ⟨[8, 9, 10, 11], [9, 11], [38], [], [], []⟩, ⟨[1, 2, 3, 4, 5, 6, 7, 8, 9, 10, 11, 12], [1, 2, 7, 12], [39], [1], [], []⟩, ⟨[1, 2, 3, 4, 5, 6, 7, 8, 9, 10, 11, 12, 13], [13], [40], [], [], [2]⟩, ⟨[0, 1, 2, 3, 4, 5, 6, 7, 8, 9, 10, 11, 12, 13, 14], [0, 14], [41], [2, 1], [3], [4]⟩, ⟨[0, 1, 2, 3, 4, 5, 6, 7, 8, 9, 10, 11, 12, 13, 14, 15], [15], [5, 41], [], [], []⟩] [⟨none, none, []⟩, ⟨none, none, []⟩, ⟨(some 14), none, [40]⟩, ⟨none, (some 15), []⟩, ⟨(some 15), none, [41]⟩] [5, 26, 27, 28, 29, 30, 31, 32, 33, 34, 35, 36, 37, 38, 39, 40, 41] [0, 1, 3] [0, 1, 2, 4] [0, 1, 2, 3, 4, 5, 6, 7, 8, 9, 10, 11, 12, 13, 14, 15, 16] [fun Ep6u2 => Ep6u2 26 = .slice q0b q7.length c_out5_c25u3, fun Ep6u2 => Ep6u2 27 = .agg #[.int .i64 c0.Rows, .int .i64 c0.Cols, .int .i64 c0.Tracks, .slice q3 c0.Tiles.length c_c0_3, .slice q4 c0.In.length c_c0_4, .slice q5 c0.Out.length c_c0_5], fun Ep6u2 => Ep6u2 28 = .int .i64 tile1, fun Ep6u2 => Ep6u2 29 = .int .i64 q2.In.fe2, fun Ep6u2 => Ep6u2 30 = .int .i64 x30u2, fun Ep6u2 => Ep6u2 31 = .pointer (some ⟨b2, 2, none⟩), fun Ep6u2 => Ep6u2 32 = .int .i64 c0.Tracks, fun Ep6u2 => Ep6u2 33 = .int .i64 x33u2, fun Ep6u2 => Ep6u2 34 = .int .i64 q2.In.fe2, fun Ep6u2 => Ep6u2 35 = .int .i64 x35u2, fun Ep6u2 => Ep6u2 36 = .pointer (some ⟨b2, 2, none⟩), fun Ep6u2 => Ep6u2 37 = .int .i64 c0.Tracks, fun Ep6u2 => Ep6u2 38 = .int .i64 x38u2, fun Ep6u2 => Ep6u2 39 = .int .i64 q0l, fun Ep6u2 => Ep6u2 40 = .slice (some ⟨(blkOf (Ep6u2 40)), 0, none⟩) 1 1, fun Ep6u2 => Ep6u2 41 = .slice (adOf (Ep6u2 41)) q0e.length (capOf (Ep6u2 41)), fun Ep6u2 => Ep6u2 5 = .slice (adOf (Ep6u2 41)) q0e.length (capOf (Ep6u2 41))] [fun Ep6u2 => cells b2 81 [.int .i64 c0.Rows, .int .i64 c0.Cols, .int .i64 c0.Tracks, .slice q3 c0.Tiles.length c_c0_3, .slice q4 c0.In.length c_c0_4, .slice q5 c0.Out.length c_c0_5], fun Ep6u2 => ro ρ, fun Ep6u2 => cells (blkOf (Ep6u2 40)) 3 [.int .i64 q0l], fun Ep6u2 => vec 3 (RpI .i64).sz (.slice q0b q7.length c_out5_c25u3) q7.length q0h, fun Ep6u2 => bunA (fun (cs41u2 : List Value) => RepL (RpI .i64) ρ q0e cs41u2) (fun (cs41u2 : List Value) => [vec 3 (RpI .i64).sz (.slice (adOf (Ep6u2 41)) q0e.length (capOf (Ep6u2 41))) q0e.length cs41u2])] mixed (by kernel_rfl) (((hS.pull 1).pull 2).pull 2) ?_ ?_
      · refine ⟨?_, ?_, ?_, ?_, ?_, ?_, ?_, ?_, ?_, ?_, ?_, ?_, ?_, ?_, ?_, ?_, ?_, trivial⟩
        · intro Ep6u2 w l' hE6u2 hO6u2 hF_ hS
          refine p (yl_move ((hO6u2 5 rfl).trans q3b)) <| x_done <|
            ?_
          refine x_fin ⟨⟨_, rfl⟩, rfl, ?_⟩
          exact Eq.mp (by kernel_rfl) hS
        · intro Ep6u2 w l' hE6u2 hO6u2 hF_ hS
          replace hS : St w0 w (cells b2 81 [.int .i64 c0.Rows, .int .i64 c0.Cols, .int .i64 c0.Tracks, .slice q3 c0.Tiles.length c_c0_3, .slice q4 c0.In.length c_c0_4, .slice q5 c0.Out.length c_c0_5] :: l') := Eq.mp (by kernel_rfl) hS
          refine pa (v := .agg #[.int .i64 c0.Rows, .int .i64 c0.Cols, .int .i64 c0.Tracks, .slice q3 c0.Tiles.length c_c0_3, .slice q4 c0.In.length c_c0_4, .slice q5 c0.Out.length c_c0_5]) (ld_sub agg_81 ((hE6u2 2 rfl).trans q0u) rfl rfl hS) <| x_done <|
            ?_
          refine x_fin ⟨⟨_, rfl⟩, rfl, ?_⟩
          exact Eq.mp (by kernel_rfl) hS
        · intro Ep6u2 w l' hE6u2 hO6u2 hF_ hS
          refine p (yl_move ((hE6u2 1 rfl).trans q32)) <| x_done <|
            ?_
          refine x_fin ⟨⟨_, rfl⟩, rfl, ?_⟩
          exact Eq.mp (by kernel_rfl) hS
        · intro Ep6u2 w l' hE6u2 hO6u2 hF_ hS
          refine p (yl_move (hE6u2 7 rfl)) <| x_done <|
            ?_
          refine x_fin ⟨⟨_, rfl⟩, rfl, ?_⟩
          exact Eq.mp (by kernel_rfl) hS
        · intro Ep6u2 w l' hE6u2 hO6u2 hF_ hS
          obtain ⟨q29, -⟩ := hF_
          replace q29 : Ep6u2 29 = .int .i64 q2.In.fe2 := Eq.mp (by kernel_rfl) q29
          refine p (ysub q29 rfl hx30u2) <| x_done <|
            ?_
          refine x_fin ⟨⟨_, rfl⟩, rfl, ?_⟩
          exact Eq.mp (by kernel_rfl) hS
        · intro Ep6u2 w l' hE6u2 hO6u2 hF_ hS
          refine p (yl_field0 fld_81_2 ((hE6u2 2 rfl).trans q0u)) <| x_done <|
            ?_
          refine x_fin ⟨⟨_, rfl⟩, rfl, ?_⟩
          exact Eq.mp (by kernel_rfl) hS
        · intro Ep6u2 w l' hE6u2 hO6u2 hF_ hS
          obtain ⟨q2a, -⟩ := hF_
          replace q2a : Ep6u2 31 = .pointer (some ⟨b2, 2, none⟩) := Eq.mp (by kernel_rfl) q2a
          replace hS : St w0 w (cells b2 81 [.int .i64 c0.Rows, .int .i64 c0.Cols, .int .i64 c0.Tracks, .slice q3 c0.Tiles.length c_c0_3, .slice q4 c0.In.length c_c0_4, .slice q5 c0.Out.length c_c0_5] :: l') := Eq.mp (by kernel_rfl) hS
          refine pa (at_load one_3 q2a (hS.cell rfl)) <| x_done <|
            ?_
          refine x_fin ⟨⟨_, rfl⟩, rfl, ?_⟩
          exact Eq.mp (by kernel_rfl) hS
        · intro Ep6u2 w l' hE6u2 hO6u2 hF_ hS
          obtain ⟨q2b, q2c, -⟩ := hF_
          replace q2b : Ep6u2 30 = .int .i64 x30u2 := Eq.mp (by kernel_rfl) q2b
          replace q2c : Ep6u2 32 = .int .i64 c0.Tracks := Eq.mp (by kernel_rfl) q2c
          refine p (yquo q2b q2c q48 hx33u2) <| x_done <|
            ?_
          refine x_fin ⟨⟨_, rfl⟩, rfl, ?_⟩
          exact Eq.mp (by kernel_rfl) hS
        · intro Ep6u2 w l' hE6u2 hO6u2 hF_ hS
          refine p (yl_move (hE6u2 7 rfl)) <| x_done <|
            ?_
          refine x_fin ⟨⟨_, rfl⟩, rfl, ?_⟩
          exact Eq.mp (by kernel_rfl) hS
        · intro Ep6u2 w l' hE6u2 hO6u2 hF_ hS
          obtain ⟨q2d, -⟩ := hF_
          replace q2d : Ep6u2 34 = .int .i64 q2.In.fe2 := Eq.mp (by kernel_rfl) q2d
          refine p (ysub q2d rfl hx35u2) <| x_done <|
            ?_
          refine x_fin ⟨⟨_, rfl⟩, rfl, ?_⟩
          exact Eq.mp (by kernel_rfl) hS
        · intro Ep6u2 w l' hE6u2 hO6u2 hF_ hS
          refine p (yl_field0 fld_81_2 ((hE6u2 2 rfl).trans q0u)) <| x_done <|
            ?_
          refine x_fin ⟨⟨_, rfl⟩, rfl, ?_⟩
          exact Eq.mp (by kernel_rfl) hS
        · intro Ep6u2 w l' hE6u2 hO6u2 hF_ hS
          obtain ⟨q19, -⟩ := hF_
          replace q19 : Ep6u2 36 = .pointer (some ⟨b2, 2, none⟩) := Eq.mp (by kernel_rfl) q19
          replace hS : St w0 w (cells b2 81 [.int .i64 c0.Rows, .int .i64 c0.Cols, .int .i64 c0.Tracks, .slice q3 c0.Tiles.length c_c0_3, .slice q4 c0.In.length c_c0_4, .slice q5 c0.Out.length c_c0_5] :: l') := Eq.mp (by kernel_rfl) hS
          refine pa (at_load one_3 q19 (hS.cell rfl)) <| x_done <|
            ?_
          refine x_fin ⟨⟨_, rfl⟩, rfl, ?_⟩
          exact Eq.mp (by kernel_rfl) hS
        · intro Ep6u2 w l' hE6u2 hO6u2 hF_ hS
          obtain ⟨q2e, q1a, -⟩ := hF_
          replace q2e : Ep6u2 35 = .int .i64 x35u2 := Eq.mp (by kernel_rfl) q2e
          replace q1a : Ep6u2 37 = .int .i64 c0.Tracks := Eq.mp (by kernel_rfl) q1a
          refine p (yrem q2e q1a q3s hx38u2) <| x_done <|
            ?_
          refine x_fin ⟨⟨_, rfl⟩, rfl, ?_⟩
          exact Eq.mp (by kernel_rfl) hS
        · intro Ep6u2 w l' hE6u2 hO6u2 hF_ hS
          obtain ⟨q2f, q2g, q2h, q1b, -⟩ := hF_
          replace q2f : Ep6u2 27 = .agg #[.int .i64 c0.Rows, .int .i64 c0.Cols, .int .i64 c0.Tracks, .slice q3 c0.Tiles.length c_c0_3, .slice q4 c0.In.length c_c0_4, .slice q5 c0.Out.length c_c0_5] := Eq.mp (by kernel_rfl) q2f
          replace q2g : Ep6u2 28 = .int .i64 tile1 := Eq.mp (by kernel_rfl) q2g
          replace q2h : Ep6u2 33 = .int .i64 x33u2 := Eq.mp (by kernel_rfl) q2h
          replace q1b : Ep6u2 38 = .int .i64 x38u2 := Eq.mp (by kernel_rfl) q1b
          replace hS : St w0 w (ro ρ :: l') := Eq.mp (by kernel_rfl) hS
          have hcall := c_array_Config_into q3t q1l q2t q2u hS
          refine o_cc call_157 (args4 q2f q2g q2h q1b) (hcall) ?_
          rintro e w' ⟨rfl, hS⟩
          refine ⟨_, rfl, ?_⟩
          refine x_done <|
            ?_
          refine x_fin ⟨⟨_, rfl⟩, rfl, ?_⟩
          exact Eq.mp (by kernel_rfl) hS
        · intro Ep6u2 w l' hE6u2 hO6u2 hF_ hS
          obtain ⟨q1c, -⟩ := hF_
          replace q1c : Ep6u2 39 = .int .i64 q0l := Eq.mp (by kernel_rfl) q1c
          refine o_buildSlice (vs := [.int .i64 q0l]) (cs := [.int .i64 q0l]) sl_22 zero_3 (parts_eq (pt (va := .int .i64 q0l) q1c pt0)) rfl (by intro v hv; simp only [List.mem_cons, List.not_mem_nil, or_false] at hv; first | (subst hv; rfl) | (rcases hv with rfl <;> rfl)) (by decide) rfl hS (fun b40u2 w' hS => ?_)
          refine x_done <|
            ?_
          refine x_fin ⟨⟨_, rfl⟩, rfl, ?_⟩
          exact Eq.mp (by kernel_rfl) hS
        · intro Ep6u2 w l' hE6u2 hO6u2 hF_ hS
          obtain ⟨q2i, q1d, -⟩ := hF_
          replace q2i : Ep6u2 26 = .slice q0b q7.length c_out5_c25u3 := Eq.mp (by kernel_rfl) q2i
          replace q1d : Ep6u2 40 = .slice (some ⟨(blkOf (Ep6u2 40)), 0, none⟩) 1 1 := Eq.mp (by kernel_rfl) q1d
          replace hS : St w0 w (cells (blkOf (Ep6u2 40)) 3 [.int .i64 q0l] :: ro ρ :: vec 3 (RpI .i64).sz (.slice q0b q7.length c_out5_c25u3) q7.length q0h :: l') := Eq.mp (by kernel_rfl) hS
          refine o_ap sl_22 zero_3 rfl (by decide) q2i q1d (hS.pull 2) q1n (src_blk usl_22 hS rfl rfl) (RepL.cons (R := (RpI .i64)) (ρ := ρ) (x := q0l) (cs := [.int .i64 q0l]) rfl RepL.nil) q3u q3v (fun A41u2 c41u2 cs41u2 w' hr41u2 hS => ?_)
          refine x_done <|
            ?_
          refine x_fin ⟨⟨_, rfl⟩, rfl, ?_⟩
          replace hS := St.bun (Φ := (fun (cs41u2 : List Value) => RepL (RpI .i64) ρ q0e cs41u2)) (L := (fun (cs41u2 : List Value) => [vec 3 (RpI .i64).sz (.slice A41u2 q0e.length c41u2) q0e.length cs41u2])) cs41u2 hr41u2 hS
          exact Eq.mp (by kernel_rfl) ((hS.pull 2).pull 2)
        · intro Ep6u2 w l' hE6u2 hO6u2 hF_ hS
          obtain ⟨q1e, -⟩ := hF_
          replace q1e : Ep6u2 41 = .slice (adOf (Ep6u2 41)) q0e.length (capOf (Ep6u2 41)) := Eq.mp (by kernel_rfl) q1e
          refine p (yl_assign q1e) <| x_done <|
            ?_
          refine x_fin ⟨⟨_, rfl⟩, rfl, ?_⟩
          exact Eq.mp (by kernel_rfl) hS
      intro Ep6u2 w' hE6u2 hF_ hS
      obtain ⟨q2i, q2f, q2g, q29, q2b, q2a, q2c, q2h, q2d, q2e, q19, q1a, q1b, q1c, q1d, q1e, q36, -⟩ := hF_
      replace q2i : Ep6u2 26 = .slice q0b q7.length c_out5_c25u3 := Eq.mp (by kernel_rfl) q2i
      replace q2f : Ep6u2 27 = .agg #[.int .i64 c0.Rows, .int .i64 c0.Cols, .int .i64 c0.Tracks, .slice q3 c0.Tiles.length c_c0_3, .slice q4 c0.In.length c_c0_4, .slice q5 c0.Out.length c_c0_5] := Eq.mp (by kernel_rfl) q2f
      replace q2g : Ep6u2 28 = .int .i64 tile1 := Eq.mp (by kernel_rfl) q2g
      replace q29 : Ep6u2 29 = .int .i64 q2.In.fe2 := Eq.mp (by kernel_rfl) q29
      replace q2b : Ep6u2 30 = .int .i64 x30u2 := Eq.mp (by kernel_rfl) q2b
      replace q2a : Ep6u2 31 = .pointer (some ⟨b2, 2, none⟩) := Eq.mp (by kernel_rfl) q2a
      replace q2c : Ep6u2 32 = .int .i64 c0.Tracks := Eq.mp (by kernel_rfl) q2c
      replace q2h : Ep6u2 33 = .int .i64 x33u2 := Eq.mp (by kernel_rfl) q2h
      replace q2d : Ep6u2 34 = .int .i64 q2.In.fe2 := Eq.mp (by kernel_rfl) q2d
      replace q2e : Ep6u2 35 = .int .i64 x35u2 := Eq.mp (by kernel_rfl) q2e
      replace q19 : Ep6u2 36 = .pointer (some ⟨b2, 2, none⟩) := Eq.mp (by kernel_rfl) q19
      replace q1a : Ep6u2 37 = .int .i64 c0.Tracks := Eq.mp (by kernel_rfl) q1a
      replace q1b : Ep6u2 38 = .int .i64 x38u2 := Eq.mp (by kernel_rfl) q1b
      replace q1c : Ep6u2 39 = .int .i64 q0l := Eq.mp (by kernel_rfl) q1c
      replace q1d : Ep6u2 40 = .slice (some ⟨(blkOf (Ep6u2 40)), 0, none⟩) 1 1 := Eq.mp (by kernel_rfl) q1d
      replace q1e : Ep6u2 41 = .slice (adOf (Ep6u2 41)) q0e.length (capOf (Ep6u2 41)) := Eq.mp (by kernel_rfl) q1e
      replace q36 : Ep6u2 5 = .slice (adOf (Ep6u2 41)) q0e.length (capOf (Ep6u2 41)) := Eq.mp (by kernel_rfl) q36
      replace hS : St w0 w' (cells b2 81 [.int .i64 c0.Rows, .int .i64 c0.Cols, .int .i64 c0.Tracks, .slice q3 c0.Tiles.length c_c0_3, .slice q4 c0.In.length c_c0_4, .slice q5 c0.Out.length c_c0_5] :: ro ρ :: cells (blkOf (Ep6u2 40)) 3 [.int .i64 q0l] :: bunA (fun (cs41u2 : List Value) => RepL (RpI .i64) ρ q0e cs41u2) (fun (cs41u2 : List Value) => [vec 3 (RpI .i64).sz (.slice (adOf (Ep6u2 41)) q0e.length (capOf (Ep6u2 41))) q0e.length cs41u2]) :: (l)) := Eq.mp (by kernel_rfl) hS
      have q_ := St.unbun (hS.pull 3); obtain ⟨cs41u2, hr41u2, hS⟩ := q_
      exact x_inv ⟨(adOf (Ep6u2 41)), q0e.length, (capOf (Ep6u2 41)), cs41u2, q0e, (Option.some.inj (show some _ = some _ from hFc25u2)), ((hE6u2 1 rfl).trans q32), ((hE6u2 2 rfl).trans q0u), q36, ((hE6u2 13 rfl).trans q2w), (hE6u2 14 rfl), hr41u2, ((((hS.pull 3).drop.pull 2).pull 1).pull 2)⟩
    · replace hFc25u2 := it_bf hc25u2 hFc25u2
      refine x_skip <|
        ?_
      exact x_inv ⟨q0b, q7.length, c_out5_c25u3, q0h, q7, (Option.some.inj (show some _ = some _ from hFc25u2)), q32, q0u, q3b, q2w, rfl, q1n, (((hS.pull 2).pull 2).pull 2)⟩
  rintro E w ⟨q0c, q0q, c_out5_c25u2, q0i, q8, rfl, q33, q0v, q3c, q2x, q3i, q1o, hS⟩
  have e_ := St.vec_n (hS.pull 1) q1o; subst e_
  replace hF := ck_s hF; obtain ⟨q49, hF⟩ := hF
  replace hF := lv_s hF; obtain ⟨x23u1, hx23u1, hF⟩ := hF
  replace hF := lv_s hF; obtain ⟨x25u1, hx25u1, hF⟩ := hF
  refine x_blk <| x_region <| p (yadd (c := 3) q3i rfl ⟨rfl, by decide⟩) <| p (yl_move rfl) <|
    x_done <| x_un 1 <| x_seq <| x_region <|
    p (ylss_l (t := true) rfl rfl (by decide)) <| x_done <| x_seq <| x_cond_t (show ev _ _ = .bool true from rfl) <|
    x_skip <| x_seq <| x_block <| x_seq <|
    x_region <| p (yl_ixv (x := .tmp 13) (y := .tmp 14) (v := .int .i64 q2.In.fe3) arr_180 one_3 q2x rfl (by decide) rfl) <| p (yl_assign rfl) <| x_done <|
    x_seq <| x_region <| p (yl_move rfl) <| p (yl_gtr rfl rfl) <|
    p (yl_move rfl) <| pg (v := .int .i64 q2.In.fe3) 19 (c := decide (0 < q2.In.fe3)) (says_t _) (fun hq => Yl.at (yl_move rfl)) <| pg (v := .pointer (some ⟨b2, 2, none⟩)) 19 (c := decide (0 < q2.In.fe3)) (says_t _) (fun hq => Yl.at (yl_field0 fld_81_2 q0v)) <| pg (v := .int .i64 c0.Tracks) 19 (c := decide (0 < q2.In.fe3)) (says_t _) (fun hq => at_load one_3 (cv hq) (hS.cell rfl)) <|
    pg (v := .int .i64 x23u1) 19 (c := decide (0 < q2.In.fe3)) (says_t _) (fun hq => Yl.at (ymul rfl (cv hq) ⟨hx23u1, (q49 hq)⟩)) <| pg (v := .bool (decide (q2.In.fe3 ≤ x23u1))) 19 (c := decide (0 < q2.In.fe3)) (says_t _) (fun hq => Yl.at (yl_leq (cv hq) (cv hq))) <| p (yand' rfl (fun hc => (cv hc)) rfl hx25u1) <| x_done <|
    ?_
  replace hF := bd_s hF; obtain ⟨oc25u1, hFc25u1, hF⟩ := hF
  refine x_join (fun E w => ∃ (q0r : Option Addr) (q0s : Nat) (c_out5_c25u1 : Nat) (q0n : List Value) (q0w : List Int), q0w = oc25u1 ∧ E 1 = .int .i64 tile1 ∧ E 2 = .pointer (some ⟨b2, 0, none⟩) ∧ E 5 = .slice q0r q0s c_out5_c25u1 ∧ E 13 = .agg #[.int .i64 q2.In.fe0, .int .i64 q2.In.fe1, .int .i64 q2.In.fe2, .int .i64 q2.In.fe3] ∧ E 14 = .int .i64 3 ∧ RepL (RpI .i64) ρ q0w q0n ∧ St w0 w (cells b2 81 [.int .i64 c0.Rows, .int .i64 c0.Cols, .int .i64 c0.Tracks, .slice q3 c0.Tiles.length c_c0_3, .slice q4 c0.In.length c_c0_4, .slice q5 c0.Out.length c_c0_5] :: vec 3 (RpI .i64).sz (.slice q0r q0s c_out5_c25u1) q0s q0n :: ro ρ :: l)) ?_ ?_
  · skip -- c25u1
    refine x_cond (t := x25u1) rfl (fun hc25u1 => ?_) (fun hc25u1 => ?_)
    · replace hFc25u1 := it_t hc25u1 hFc25u1
      replace hFc25u1 := ar_s hFc25u1; obtain ⟨x30u1, hx30u1, hFc25u1⟩ := hFc25u1
      replace hFc25u1 := ck_s hFc25u1; obtain ⟨q4a, hFc25u1⟩ := hFc25u1
      replace hFc25u1 := ar_s hFc25u1; obtain ⟨x33u1, hx33u1, hFc25u1⟩ := hFc25u1
      replace hFc25u1 := ar_s hFc25u1; obtain ⟨x35u1, hx35u1, hFc25u1⟩ := hFc25u1
      replace hFc25u1 := ck_s hFc25u1; obtain ⟨q3w, hFc25u1⟩ := hFc25u1
      replace hFc25u1 := lv_s hFc25u1; obtain ⟨x38u1, hx38u1, hFc25u1⟩ := hFc25u1
      replace hFc25u1 := bd_s hFc25u1; obtain ⟨q0m, q3x, hFc25u1⟩ := hFc25u1
      replace hFc25u1 := lv_s hFc25u1; obtain ⟨q0f, q3y, hFc25u1⟩ := hFc25u1
      replace hFc25u1 := ck_s hFc25u1; obtain ⟨q3z, hFc25u1⟩ := hFc25u1
      refine x_par (w0 := w0) [⟨[], [], [26], [], [], []⟩, ⟨[], [], [27], [0], [], []⟩, ⟨[], [], [28], [], [], []⟩, ⟨[], [], [29], [], [], []⟩, ⟨[3], [3], [30], [], [], []⟩, ⟨[], [], [31], [], [], []⟩, ⟨[5], [5], [32], [0], [], []⟩, ⟨[3, 4, 5, 6], [4, 6], [33], [], [], []⟩, ⟨[], [], [34], [], [], []⟩, ⟨[8], [8], [35], [], [], []⟩, ⟨[], [], [36], [], [], []⟩, ⟨[10], [10], [37], [0], [], []⟩, ⟨[8, 9, 10, 11], [9, 11], [38], [], [], []⟩, ⟨[1, 2, 3, 4, 5, 6, 7, 8, 9, 10, 11, 12], [1, 2, 7, 12], [39], [1], [], []⟩, ⟨[1, 2, 3, 4, 5, 6, 7, 8, 9, 10, 11, 12, 13], [13], [40], [], [], [2]⟩, ⟨[0, 1, 2, 3, 4, 5, 6, 7, 8, 9, 10, 11, 12, 13, 14], [0, 14], [41], [2, 1], [3], [4]⟩, ⟨[0, 1, 2, 3, 4, 5, 6, 7, 8, 9, 10, 11, 12, 13, 14, 15], [15], [5, 41], [], [], []⟩] [⟨none, none, []⟩, ⟨none, none, []⟩, ⟨(some 14), none, [40]⟩, ⟨none, (some 15), []⟩, ⟨(some 15), none, [41]⟩] [5, 26, 27, 28, 29, 30, 31, 32, 33, 34, 35, 36, 37, 38, 39, 40, 41] [0, 1, 3] [0, 1, 2, 4] [0, 1, 2, 3, 4, 5, 6, 7, 8, 9, 10, 11, 12, 13, 14, 15, 16] [fun Ep6u1 => Ep6u1 26 = .slice q0c q8.length c_out5_c25u2, fun Ep6u1 => Ep6u1 27 = .agg #[.int .i64 c0.Rows, .int .i64 c0.Cols, .int .i64 c0.Tracks, .slice q3 c0.Tiles.length c_c0_3, .slice q4 c0.In.length c_c0_4, .slice q5 c0.Out.length c_c0_5], fun Ep6u1 => Ep6u1 28 = .int .i64 tile1, fun Ep6u1 => Ep6u1 29 = .int .i64 q2.In.fe3, fun Ep6u1 => Ep6u1 30 = .int .i64 x30u1, fun Ep6u1 => Ep6u1 31 = .pointer (some ⟨b2, 2, none⟩), fun Ep6u1 => Ep6u1 32 = .int .i64 c0.Tracks, fun Ep6u1 => Ep6u1 33 = .int .i64 x33u1, fun Ep6u1 => Ep6u1 34 = .int .i64 q2.In.fe3, fun Ep6u1 => Ep6u1 35 = .int .i64 x35u1, fun Ep6u1 => Ep6u1 36 = .pointer (some ⟨b2, 2, none⟩), fun Ep6u1 => Ep6u1 37 = .int .i64 c0.Tracks, fun Ep6u1 => Ep6u1 38 = .int .i64 x38u1, fun Ep6u1 => Ep6u1 39 = .int .i64 q0m, fun Ep6u1 => Ep6u1 40 = .slice (some ⟨(blkOf (Ep6u1 40)), 0, none⟩) 1 1, fun Ep6u1 => Ep6u1 41 = .slice (adOf (Ep6u1 41)) q0f.length (capOf (Ep6u1 41)), fun Ep6u1 => Ep6u1 5 = .slice (adOf (Ep6u1 41)) q0f.length (capOf (Ep6u1 41))] [fun Ep6u1 => cells b2 81 [.int .i64 c0.Rows, .int .i64 c0.Cols, .int .i64 c0.Tracks, .slice q3 c0.Tiles.length c_c0_3, .slice q4 c0.In.length c_c0_4, .slice q5 c0.Out.length c_c0_5], fun Ep6u1 => ro ρ, fun Ep6u1 => cells (blkOf (Ep6u1 40)) 3 [.int .i64 q0m], fun Ep6u1 => vec 3 (RpI .i64).sz (.slice q0c q8.length c_out5_c25u2) q8.length q0i, fun Ep6u1 => bunA (fun (cs41u1 : List Value) => RepL (RpI .i64) ρ q0f cs41u1) (fun (cs41u1 : List Value) => [vec 3 (RpI .i64).sz (.slice (adOf (Ep6u1 41)) q0f.length (capOf (Ep6u1 41))) q0f.length cs41u1])] mixed (by kernel_rfl) (((hS.pull 1).pull 2).pull 2) ?_ ?_
      · refine ⟨?_, ?_, ?_, ?_, ?_, ?_, ?_, ?_, ?_, ?_, ?_, ?_, ?_, ?_, ?_, ?_, ?_, trivial⟩
        · intro Ep6u1 w l' hE6u1 hO6u1 hF_ hS
          refine p (yl_move ((hO6u1 5 rfl).trans q3c)) <| x_done <|
            ?_
          refine x_fin ⟨⟨_, rfl⟩, rfl, ?_⟩
          exact Eq.mp (by kernel_rfl) hS
        · intro Ep6u1 w l' hE6u1 hO6u1 hF_ hS
          replace hS : St w0 w (cells b2 81 [.int .i64 c0.Rows, .int .i64 c0.Cols, .int .i64 c0.Tracks, .slice q3 c0.Tiles.length c_c0_3, .slice q4 c0.In.length c_c0_4, .slice q5 c0.Out.length c_c0_5] :: l') := Eq.mp (by kernel_rfl) hS
          refine pa (v := .agg #[.int .i64 c0.Rows, .int .i64 c0.Cols, .int .i64 c0.Tracks, .slice q3 c0.Tiles.length c_c0_3, .slice q4 c0.In.length c_c0_4, .slice q5 c0.Out.length c_c0_5]) (ld_sub agg_81 ((hE6u1 2 rfl).trans q0v) rfl rfl hS) <| x_done <|
            ?_
          refine x_fin ⟨⟨_, rfl⟩, rfl, ?_⟩
          exact Eq.mp (by kernel_rfl) hS
        · intro Ep6u1 w l' hE6u1 hO6u1 hF_ hS
          refine p (yl_move ((hE6u1 1 rfl).trans q33)) <| x_done <|
            ?_
          refine x_fin ⟨⟨_, rfl⟩, rfl, ?_⟩
          exact Eq.mp (by kernel_rfl) hS
        · intro Ep6u1 w l' hE6u1 hO6u1 hF_ hS
          refine p (yl_move (hE6u1 7 rfl)) <| x_done <|
            ?_
          refine x_fin ⟨⟨_, rfl⟩, rfl, ?_⟩
          exact Eq.mp (by kernel_rfl) hS
        · intro Ep6u1 w l' hE6u1 hO6u1 hF_ hS
          obtain ⟨q2j, -⟩ := hF_
          replace q2j : Ep6u1 29 = .int .i64 q2.In.fe3 := Eq.mp (by kernel_rfl) q2j
          refine p (ysub q2j rfl hx30u1) <| x_done <|
            ?_
          refine x_fin ⟨⟨_, rfl⟩, rfl, ?_⟩
          exact Eq.mp (by kernel_rfl) hS
        · intro Ep6u1 w l' hE6u1 hO6u1 hF_ hS
          refine p (yl_field0 fld_81_2 ((hE6u1 2 rfl).trans q0v)) <| x_done <|
            ?_
          refine x_fin ⟨⟨_, rfl⟩, rfl, ?_⟩
          exact Eq.mp (by kernel_rfl) hS
        · intro Ep6u1 w l' hE6u1 hO6u1 hF_ hS
          obtain ⟨q2k, -⟩ := hF_
          replace q2k : Ep6u1 31 = .pointer (some ⟨b2, 2, none⟩) := Eq.mp (by kernel_rfl) q2k
          replace hS : St w0 w (cells b2 81 [.int .i64 c0.Rows, .int .i64 c0.Cols, .int .i64 c0.Tracks, .slice q3 c0.Tiles.length c_c0_3, .slice q4 c0.In.length c_c0_4, .slice q5 c0.Out.length c_c0_5] :: l') := Eq.mp (by kernel_rfl) hS
          refine pa (at_load one_3 q2k (hS.cell rfl)) <| x_done <|
            ?_
          refine x_fin ⟨⟨_, rfl⟩, rfl, ?_⟩
          exact Eq.mp (by kernel_rfl) hS
        · intro Ep6u1 w l' hE6u1 hO6u1 hF_ hS
          obtain ⟨q2l, q2m, -⟩ := hF_
          replace q2l : Ep6u1 30 = .int .i64 x30u1 := Eq.mp (by kernel_rfl) q2l
          replace q2m : Ep6u1 32 = .int .i64 c0.Tracks := Eq.mp (by kernel_rfl) q2m
          refine p (yquo q2l q2m q4a hx33u1) <| x_done <|
            ?_
          refine x_fin ⟨⟨_, rfl⟩, rfl, ?_⟩
          exact Eq.mp (by kernel_rfl) hS
        · intro Ep6u1 w l' hE6u1 hO6u1 hF_ hS
          refine p (yl_move (hE6u1 7 rfl)) <| x_done <|
            ?_
          refine x_fin ⟨⟨_, rfl⟩, rfl, ?_⟩
          exact Eq.mp (by kernel_rfl) hS
        · intro Ep6u1 w l' hE6u1 hO6u1 hF_ hS
          obtain ⟨q2n, -⟩ := hF_
          replace q2n : Ep6u1 34 = .int .i64 q2.In.fe3 := Eq.mp (by kernel_rfl) q2n
          refine p (ysub q2n rfl hx35u1) <| x_done <|
            ?_
          refine x_fin ⟨⟨_, rfl⟩, rfl, ?_⟩
          exact Eq.mp (by kernel_rfl) hS
        · intro Ep6u1 w l' hE6u1 hO6u1 hF_ hS
          refine p (yl_field0 fld_81_2 ((hE6u1 2 rfl).trans q0v)) <| x_done <|
            ?_
          refine x_fin ⟨⟨_, rfl⟩, rfl, ?_⟩
          exact Eq.mp (by kernel_rfl) hS
        · intro Ep6u1 w l' hE6u1 hO6u1 hF_ hS
          obtain ⟨q1f, -⟩ := hF_
          replace q1f : Ep6u1 36 = .pointer (some ⟨b2, 2, none⟩) := Eq.mp (by kernel_rfl) q1f
          replace hS : St w0 w (cells b2 81 [.int .i64 c0.Rows, .int .i64 c0.Cols, .int .i64 c0.Tracks, .slice q3 c0.Tiles.length c_c0_3, .slice q4 c0.In.length c_c0_4, .slice q5 c0.Out.length c_c0_5] :: l') := Eq.mp (by kernel_rfl) hS
          refine pa (at_load one_3 q1f (hS.cell rfl)) <| x_done <|
            ?_
          refine x_fin ⟨⟨_, rfl⟩, rfl, ?_⟩
          exact Eq.mp (by kernel_rfl) hS
        · intro Ep6u1 w l' hE6u1 hO6u1 hF_ hS
          obtain ⟨q2o, q1g, -⟩ := hF_
          replace q2o : Ep6u1 35 = .int .i64 x35u1 := Eq.mp (by kernel_rfl) q2o
          replace q1g : Ep6u1 37 = .int .i64 c0.Tracks := Eq.mp (by kernel_rfl) q1g
          refine p (yrem q2o q1g q3w hx38u1) <| x_done <|
            ?_
          refine x_fin ⟨⟨_, rfl⟩, rfl, ?_⟩
          exact Eq.mp (by kernel_rfl) hS
        · intro Ep6u1 w l' hE6u1 hO6u1 hF_ hS
          obtain ⟨q2p, q2q, q2r, q1h, -⟩ := hF_
          replace q2p : Ep6u1 27 = .agg #[.int .i64 c0.Rows, .int .i64 c0.Cols, .int .i64 c0.Tracks, .slice q3 c0.Tiles.length c_c0_3, .slice q4 c0.In.length c_c0_4, .slice q5 c0.Out.length c_c0_5] := Eq.mp (by kernel_rfl) q2p
          replace q2q : Ep6u1 28 = .int .i64 tile1 := Eq.mp (by kernel_rfl) q2q
          replace q2r : Ep6u1 33 = .int .i64 x33u1 := Eq.mp (by kernel_rfl) q2r
          replace q1h : Ep6u1 38 = .int .i64 x38u1 := Eq.mp (by kernel_rfl) q1h
          replace hS : St w0 w (ro ρ :: l') := Eq.mp (by kernel_rfl) hS
          have hcall := c_array_Config_into q3x q1l q2t q2u hS
          refine o_cc call_157 (args4 q2p q2q q2r q1h) (hcall) ?_
          rintro e w' ⟨rfl, hS⟩
          refine ⟨_, rfl, ?_⟩
          refine x_done <|
            ?_
          refine x_fin ⟨⟨_, rfl⟩, rfl, ?_⟩
          exact Eq.mp (by kernel_rfl) hS
        · intro Ep6u1 w l' hE6u1 hO6u1 hF_ hS
          obtain ⟨q1i, -⟩ := hF_
          replace q1i : Ep6u1 39 = .int .i64 q0m := Eq.mp (by kernel_rfl) q1i
          refine o_buildSlice (vs := [.int .i64 q0m]) (cs := [.int .i64 q0m]) sl_22 zero_3 (parts_eq (pt (va := .int .i64 q0m) q1i pt0)) rfl (by intro v hv; simp only [List.mem_cons, List.not_mem_nil, or_false] at hv; first | (subst hv; rfl) | (rcases hv with rfl <;> rfl)) (by decide) rfl hS (fun b40u1 w' hS => ?_)
          refine x_done <|
            ?_
          refine x_fin ⟨⟨_, rfl⟩, rfl, ?_⟩
          exact Eq.mp (by kernel_rfl) hS
        · intro Ep6u1 w l' hE6u1 hO6u1 hF_ hS
          obtain ⟨q2s, q1j, -⟩ := hF_
          replace q2s : Ep6u1 26 = .slice q0c q8.length c_out5_c25u2 := Eq.mp (by kernel_rfl) q2s
          replace q1j : Ep6u1 40 = .slice (some ⟨(blkOf (Ep6u1 40)), 0, none⟩) 1 1 := Eq.mp (by kernel_rfl) q1j
          replace hS : St w0 w (cells (blkOf (Ep6u1 40)) 3 [.int .i64 q0m] :: ro ρ :: vec 3 (RpI .i64).sz (.slice q0c q8.length c_out5_c25u2) q8.length q0i :: l') := Eq.mp (by kernel_rfl) hS
          refine o_ap sl_22 zero_3 rfl (by decide) q2s q1j (hS.pull 2) q1o (src_blk usl_22 hS rfl rfl) (RepL.cons (R := (RpI .i64)) (ρ := ρ) (x := q0m) (cs := [.int .i64 q0m]) rfl RepL.nil) q3y q3z (fun A41u1 c41u1 cs41u1 w' hr41u1 hS => ?_)
          refine x_done <|
            ?_
          refine x_fin ⟨⟨_, rfl⟩, rfl, ?_⟩
          replace hS := St.bun (Φ := (fun (cs41u1 : List Value) => RepL (RpI .i64) ρ q0f cs41u1)) (L := (fun (cs41u1 : List Value) => [vec 3 (RpI .i64).sz (.slice A41u1 q0f.length c41u1) q0f.length cs41u1])) cs41u1 hr41u1 hS
          exact Eq.mp (by kernel_rfl) ((hS.pull 2).pull 2)
        · intro Ep6u1 w l' hE6u1 hO6u1 hF_ hS
          obtain ⟨q1k, -⟩ := hF_
          replace q1k : Ep6u1 41 = .slice (adOf (Ep6u1 41)) q0f.length (capOf (Ep6u1 41)) := Eq.mp (by kernel_rfl) q1k
          refine p (yl_assign q1k) <| x_done <|
            ?_
          refine x_fin ⟨⟨_, rfl⟩, rfl, ?_⟩
          exact Eq.mp (by kernel_rfl) hS
      intro Ep6u1 w' hE6u1 hF_ hS
      obtain ⟨q2s, q2p, q2q, q2j, q2l, q2k, q2m, q2r, q2n, q2o, q1f, q1g, q1h, q1i, q1j, q1k, q37, -⟩ := hF_
      replace q2s : Ep6u1 26 = .slice q0c q8.length c_out5_c25u2 := Eq.mp (by kernel_rfl) q2s
      replace q2p : Ep6u1 27 = .agg #[.int .i64 c0.Rows, .int .i64 c0.Cols, .int .i64 c0.Tracks, .slice q3 c0.Tiles.length c_c0_3, .slice q4 c0.In.length c_c0_4, .slice q5 c0.Out.length c_c0_5] := Eq.mp (by kernel_rfl) q2p
      replace q2q : Ep6u1 28 = .int .i64 tile1 := Eq.mp (by kernel_rfl) q2q
      replace q2j : Ep6u1 29 = .int .i64 q2.In.fe3 := Eq.mp (by kernel_rfl) q2j
      replace q2l : Ep6u1 30 = .int .i64 x30u1 := Eq.mp (by kernel_rfl) q2l
      replace q2k : Ep6u1 31 = .pointer (some ⟨b2, 2, none⟩) := Eq.mp (by kernel_rfl) q2k
      replace q2m : Ep6u1 32 = .int .i64 c0.Tracks := Eq.mp (by kernel_rfl) q2m
      replace q2r : Ep6u1 33 = .int .i64 x33u1 := Eq.mp (by kernel_rfl) q2r
      replace q2n : Ep6u1 34 = .int .i64 q2.In.fe3 := Eq.mp (by kernel_rfl) q2n
      replace q2o : Ep6u1 35 = .int .i64 x35u1 := Eq.mp (by kernel_rfl) q2o
      replace q1f : Ep6u1 36 = .pointer (some ⟨b2, 2, none⟩) := Eq.mp (by kernel_rfl) q1f
      replace q1g : Ep6u1 37 = .int .i64 c0.Tracks := Eq.mp (by kernel_rfl) q1g
      replace q1h : Ep6u1 38 = .int .i64 x38u1 := Eq.mp (by kernel_rfl) q1h
      replace q1i : Ep6u1 39 = .int .i64 q0m := Eq.mp (by kernel_rfl) q1i
      replace q1j : Ep6u1 40 = .slice (some ⟨(blkOf (Ep6u1 40)), 0, none⟩) 1 1 := Eq.mp (by kernel_rfl) q1j
      replace q1k : Ep6u1 41 = .slice (adOf (Ep6u1 41)) q0f.length (capOf (Ep6u1 41)) := Eq.mp (by kernel_rfl) q1k
      replace q37 : Ep6u1 5 = .slice (adOf (Ep6u1 41)) q0f.length (capOf (Ep6u1 41)) := Eq.mp (by kernel_rfl) q37
      replace hS : St w0 w' (cells b2 81 [.int .i64 c0.Rows, .int .i64 c0.Cols, .int .i64 c0.Tracks, .slice q3 c0.Tiles.length c_c0_3, .slice q4 c0.In.length c_c0_4, .slice q5 c0.Out.length c_c0_5] :: ro ρ :: cells (blkOf (Ep6u1 40)) 3 [.int .i64 q0m] :: bunA (fun (cs41u1 : List Value) => RepL (RpI .i64) ρ q0f cs41u1) (fun (cs41u1 : List Value) => [vec 3 (RpI .i64).sz (.slice (adOf (Ep6u1 41)) q0f.length (capOf (Ep6u1 41))) q0f.length cs41u1]) :: (l)) := Eq.mp (by kernel_rfl) hS
      have q_ := St.unbun (hS.pull 3); obtain ⟨cs41u1, hr41u1, hS⟩ := q_
      exact x_inv ⟨(adOf (Ep6u1 41)), q0f.length, (capOf (Ep6u1 41)), cs41u1, q0f, (Option.some.inj (show some _ = some _ from hFc25u1)), ((hE6u1 1 rfl).trans q33), ((hE6u1 2 rfl).trans q0v), q37, ((hE6u1 13 rfl).trans q2x), (hE6u1 14 rfl), hr41u1, ((((hS.pull 3).drop.pull 2).pull 1).pull 2)⟩
    · replace hFc25u1 := it_bf hc25u1 hFc25u1
      refine x_skip <|
        ?_
      exact x_inv ⟨q0c, q8.length, c_out5_c25u2, q0i, q8, (Option.some.inj (show some _ = some _ from hFc25u1)), q33, q0v, q3c, q2x, rfl, q1o, (((hS.pull 2).pull 2).pull 2)⟩
  rintro E w ⟨q0r, q0s, c_out5_c25u1, q0n, q0w, rfl, q4i, q4j, q40, q4h, q3j, q2y, hS⟩
  have e_ := St.vec_n (hS.pull 1) q2y; subst e_
  refine x_blk <| x_region <| p (yadd (c := 4) q3j rfl ⟨rfl, by decide⟩) <| p (yl_move rfl) <|
    x_done <| x_un 0 <| x_seq <| x_region <|
    p (ylss_l (t := false) rfl rfl (by decide)) <| x_done <| x_seq <| x_cond_f (show ev _ _ = .bool false from rfl) <|
    x_exitTo _ rfl <| x_seq <| x_region <| p (yl_move q40) <|
    p (yl_assign rfl) <| x_done <|
    ?_
  have e_ := Option.some.inj (show some _ = some _ from hF); subst e_
  exact x_return ⟨_, ⟨_, _, rfl, rfl, rfl⟩, q0r, q0w.length, c_out5_c25u1, q0n, rfl, q2y, ((hS.drop.pull 1).pull 1)⟩
attribute [irreducible] P_array_Config_sources

def P_array_order_1_3_L14 (q0a : Int) (v3 : T_array_Config) (q7 : List Int) (rc_ : (Int × List Int × Int × T_array_Config × List Int) → Option (Bool × List Int × List Int)) : (Int × List Int × List Int) → Option ((Int × List Int × List Int) ⊕ ((List Int × List Int) ⊕ (Bool × List Int × List Int))) := fun (q5, q3, q2) =>
  if q5 < (q7.length : Int) then
    ck (inb q5 q7.length) <|
    lv (gt q7 q5) fun x87 =>
    bd (
      if (decide (0 ≤ x87)) = true then
        bd (rc_ (x87, q3, q0a, v3, q2)) fun q8 =>
        some (!q8.1, q8.2.1, q8.2.2)
      else
        some (false, q3, q2)) fun (q9, q6, q4) =>
    if q9 = true then
      some (Sum.inr (Sum.inr (false, q6, q4)))
    else
      ar (q5 + 1) fun x96 =>
      some (Sum.inl (x96, q6, q4))
  else
    some (Sum.inr (Sum.inl (q3, q2)))
def P_array_order_1_3_B (rc_ : (Int × List Int × Int × T_array_Config × List Int) → Option (Bool × List Int × List Int)) : (Int × List Int × Int × T_array_Config × List Int) → Option (Bool × List Int × List Int) := fun (k0, q4, q6, v3, q7) =>
  ck (inb k0 q4.length) <|
  lv (gt q4 k0) fun x18 =>
  if 0 < x18 then
    ck (inb k0 q4.length) <|
    lv (gt q4 k0) fun x23 =>
    some (decide (x23 = 2), q4, q7)
  else
    ck (inb k0 q4.length) <|
    lv (stt q4 k0 1) fun q0j =>
    bd (
      if q6 ≤ k0 then
        ar (k0 - q6) fun x34 =>
        bd (P_array_Config_sources v3 x34) fun q0k =>
        some q0k
      else
        ck (v3.Tracks ≠ 0) <|
        ar (Int.tdiv k0 v3.Tracks) fun x39 =>
        ck ((4 : Int) ≠ 0) <|
        ar (Int.tdiv x39 4) fun x40 =>
        ck (v3.Tracks ≠ 0) <|
        ar (Int.tdiv k0 v3.Tracks) fun x44 =>
        ck ((4 : Int) ≠ 0) <|
        lv (Int.tmod x44 4) fun x45 =>
        ck (v3.Tracks ≠ 0) <|
        lv (Int.tmod k0 v3.Tracks) fun x49 =>
        ck (inb x40 v3.Tiles.length) <|
        ck (inb x45 4) <|
        lv (gt v3.Tiles x40) fun q8 =>
        lv (sel4 x45 q8.Out.fe0 q8.Out.fe1 q8.Out.fe2 q8.Out.fe3) fun q0d =>
        ck (inb x49 q0d.length) <|
        lv (gt q0d x49) fun x60 =>
        bd (
          if x60 = 1 then
            ar (q6 + x40) fun x67 =>
            lv ([x67]) fun q9 =>
            ck (apOk 8 q9.length) <|
            some q9
          else
            bd (
              if 3 ≤ x60 then
                ar (x60 - 3) fun x77 =>
                bd (P_array_Config_into v3 x40 x77 x49) fun q0h =>
                lv ([q0h]) fun q0a =>
                ck (apOk 8 q0a.length) <|
                some q0a
              else
                some []) fun q0e =>
            some q0e) fun q0f =>
        some q0f) fun q0g =>
    bs (
      lp (P_array_order_1_3_L14 q6 v3 q0g rc_) fuel (0, q0j, q7)) (fun y => some y) fun (q3, q2) =>
    ck (inb k0 q3.length) <|
    lv (stt q3 k0 2) fun q0i =>
    bd (
      if q6 ≤ k0 then
        ar (k0 - q6) fun x106 =>
        ar ((-1 : Int) - x106) fun x107 =>
        lv (q2 ++ [x107]) fun q0b =>
        ck (apOk 8 q0b.length) <|
        some q0b
      else
        lv (q2 ++ [k0]) fun q0c =>
        ck (apOk 8 q0c.length) <|
        some q0c) fun q5 =>
    some (true, q0i, q5)
def P_array_order_1_3 (k0 : Int) (q3 : List Int) (q4 : Int) (v3 : T_array_Config) (q2 : List Int) : Option (Bool × List Int × List Int) := rcf P_array_order_1_3_B fuel (k0, q3, q4, v3, q2)
set_option maxHeartbeats 4000000 in
set_option maxRecDepth 100000 in
theorem c_array_order_1_3_s (rc_ : (Int × List Int × Int × T_array_Config × List Int) → Option (Bool × List Int × List Int)) (ih : ∀ {w0 w : World} {l : List Assn} {ρ : Heap} {q6 : Nat} {q3 : Option Addr} {q0w : Nat} {c_v1_0 : Nat} {q1k : List Value} {q7 : Nat} {q0d : Nat} {q0i : Option Addr} {q1l : Nat} {c_v3_3 : Nat} {q0j : Option Addr} {q1m : Nat} {c_v3_4 : Nat} {q0k : Option Addr} {q1n : Nat} {c_v3_5 : Nat} {q8 : Nat} {q2 : Nat} {q5 : Option Addr} {q0z : Nat} {c_v4_0_4_0 : Nat} {q0a : List Value} {k0 : Int} {q0f : List Int} {q13 : Int} {v3 : T_array_Config} {q4 : List Int} {r : (Bool × List Int × List Int)} (hF : rc_ (k0, q0f, q13, v3, q4) = some r) (q1d : RepL (RpI .i64) ρ q0f q1k) (q1o : RdS R_array_Tile ρ q0i q1l c_v3_3 v3.Tiles) (q25 : RdS R_array_Pad ρ q0j q1m c_v3_4 v3.In) (q26 : RdS R_array_Pad ρ q0k q1n c_v3_5 v3.Out) (q1j : RepL (RpI .i64) ρ q4 q0a) (hS : St w0 w (cells q6 22 [.slice q3 q0w c_v1_0] :: vec 3 (RpI .i64).sz (.slice q3 q0w c_v1_0) q0w q1k :: cells q7 3 [.int .i64 q13] :: cells q0d 81 [.int .i64 v3.Rows, .int .i64 v3.Cols, .int .i64 v3.Tracks, .slice q0i q1l c_v3_3, .slice q0j q1m c_v3_4, .slice q0k q1n c_v3_5] :: cells q8 147 [.func (.func 155) #[] #[.pointer (some ⟨q6, 0, none⟩), .pointer (some ⟨q7, 0, none⟩), .pointer (some ⟨q0d, 0, none⟩), .pointer (some ⟨q8, 0, none⟩), .pointer (some ⟨q2, 0, none⟩)]] :: cells q2 22 [.slice q5 q0z c_v4_0_4_0] :: vec 3 (RpI .i64).sz (.slice q5 q0z c_v4_0_4_0) q0z q0a :: ro ρ :: l)),
    Calls Try.prog 155 #[.int .i64 k0, .pointer (some ⟨q6, 0, none⟩), .pointer (some ⟨q7, 0, none⟩), .pointer (some ⟨q0d, 0, none⟩), .pointer (some ⟨q8, 0, none⟩), .pointer (some ⟨q2, 0, none⟩)] w fun e w' => ∃ (q0x : List Value) (q0n : Option Addr) (q9 : Nat) (c_b_v4_0_4_0_ret : Nat) (q0l : List Value), e = .returned (.bool r.1) ∧ RepL (RpI .i64) ρ r.2.1 q0x ∧ RepL (RpI .i64) ρ r.2.2 q0l ∧ St w0 w' (cells q6 22 [.slice q3 q0w c_v1_0] :: cells q7 3 [.int .i64 q13] :: cells q0d 81 [.int .i64 v3.Rows, .int .i64 v3.Cols, .int .i64 v3.Tracks, .slice q0i q1l c_v3_3, .slice q0j q1m c_v3_4, .slice q0k q1n c_v3_5] :: cells q2 22 [.slice q0n q9 c_b_v4_0_4_0_ret] :: cells q8 147 [.func (.func 155) #[] #[.pointer (some ⟨q6, 0, none⟩), .pointer (some ⟨q7, 0, none⟩), .pointer (some ⟨q0d, 0, none⟩), .pointer (some ⟨q8, 0, none⟩), .pointer (some ⟨q2, 0, none⟩)]] :: vec 3 (RpI .i64).sz (.slice q3 q0w c_v1_0) q0w q0x :: vec 3 (RpI .i64).sz (.slice q0n q9 c_b_v4_0_4_0_ret) q9 q0l :: ro ρ :: l)) {w0 w : World} {l : List Assn} {ρ : Heap} {q6 : Nat} {q3 : Option Addr} {q0w : Nat} {c_v1_0 : Nat} {q1k : List Value} {q7 : Nat} {q0d : Nat} {q0i : Option Addr} {q1l : Nat} {c_v3_3 : Nat} {q0j : Option Addr} {q1m : Nat} {c_v3_4 : Nat} {q0k : Option Addr} {q1n : Nat} {c_v3_5 : Nat} {q8 : Nat} {q2 : Nat} {q5 : Option Addr} {q0z : Nat} {c_v4_0_4_0 : Nat} {q0a : List Value} {k0 : Int} {q0f : List Int} {q13 : Int} {v3 : T_array_Config} {q4 : List Int} {r : (Bool × List Int × List Int)} (hF : P_array_order_1_3_B rc_ (k0, q0f, q13, v3, q4) = some r) (q1d : RepL (RpI .i64) ρ q0f q1k) (q1o : RdS R_array_Tile ρ q0i q1l c_v3_3 v3.Tiles) (q25 : RdS R_array_Pad ρ q0j q1m c_v3_4 v3.In) (q26 : RdS R_array_Pad ρ q0k q1n c_v3_5 v3.Out) (q1j : RepL (RpI .i64) ρ q4 q0a) (hS : St w0 w (cells q6 22 [.slice q3 q0w c_v1_0] :: vec 3 (RpI .i64).sz (.slice q3 q0w c_v1_0) q0w q1k :: cells q7 3 [.int .i64 q13] :: cells q0d 81 [.int .i64 v3.Rows, .int .i64 v3.Cols, .int .i64 v3.Tracks, .slice q0i q1l c_v3_3, .slice q0j q1m c_v3_4, .slice q0k q1n c_v3_5] :: cells q8 147 [.func (.func 155) #[] #[.pointer (some ⟨q6, 0, none⟩), .pointer (some ⟨q7, 0, none⟩), .pointer (some ⟨q0d, 0, none⟩), .pointer (some ⟨q8, 0, none⟩), .pointer (some ⟨q2, 0, none⟩)]] :: cells q2 22 [.slice q5 q0z c_v4_0_4_0] :: vec 3 (RpI .i64).sz (.slice q5 q0z c_v4_0_4_0) q0z q0a :: ro ρ :: l)) :
    Calls Try.prog 155 #[.int .i64 k0, .pointer (some ⟨q6, 0, none⟩), .pointer (some ⟨q7, 0, none⟩), .pointer (some ⟨q0d, 0, none⟩), .pointer (some ⟨q8, 0, none⟩), .pointer (some ⟨q2, 0, none⟩)] w fun e w' => ∃ (q0x : List Value) (q0n : Option Addr) (q9 : Nat) (c_b_v4_0_4_0_ret : Nat) (q0l : List Value), e = .returned (.bool r.1) ∧ RepL (RpI .i64) ρ r.2.1 q0x ∧ RepL (RpI .i64) ρ r.2.2 q0l ∧ St w0 w' (cells q6 22 [.slice q3 q0w c_v1_0] :: cells q7 3 [.int .i64 q13] :: cells q0d 81 [.int .i64 v3.Rows, .int .i64 v3.Cols, .int .i64 v3.Tracks, .slice q0i q1l c_v3_3, .slice q0j q1m c_v3_4, .slice q0k q1n c_v3_5] :: cells q2 22 [.slice q0n q9 c_b_v4_0_4_0_ret] :: cells q8 147 [.func (.func 155) #[] #[.pointer (some ⟨q6, 0, none⟩), .pointer (some ⟨q7, 0, none⟩), .pointer (some ⟨q0d, 0, none⟩), .pointer (some ⟨q8, 0, none⟩), .pointer (some ⟨q2, 0, none⟩)]] :: vec 3 (RpI .i64).sz (.slice q3 q0w c_v1_0) q0w q0x :: vec 3 (RpI .i64).sz (.slice q0n q9 c_b_v4_0_4_0_ret) q9 q0l :: ro ρ :: l) := by
  unfold P_array_order_1_3_B at hF; dsimp only at hF
  have e_ := St.vec_n (hS.pull 1) q1d; subst e_
  have e_ := q1o.n; subst e_
  have e_ := q25.n; subst e_
  have e_ := q26.n; subst e_
  have e_ := St.vec_n (hS.pull 6) q1j; subst e_
  refine enterC Try.func155 rfl 114 rfl (by simp) ?_
  replace hF := ck_s hF; obtain ⟨q3h, hF⟩ := hF
  replace hF := lv_s hF; obtain ⟨x18, hx18, hF⟩ := hF
  refine x_seq <| x_region <| p (yl_assign rfl) <| x_done <|
    x_seq <| x_seq <| x_region <| pa (at_load one_22 rfl (hS.cell rfl)) <|
    p (yl_move rfl) <| p (yix_o sl_22 rfl rfl (hS.pull 1) q1d q3h) <| pa (at_load one_3 rfl (RepL.getW q1d (hS.pull 1) q3h hx18)) <| p (yl_gtr rfl rfl) <|
    x_done <|
    x_cond_p (0 < x18) rfl (fun hc19 => ?_) (fun hc19 => ?_)
  · replace hF := it_t hc19 hF
    replace hF := ck_s hF; obtain ⟨q3i, hF⟩ := hF
    replace hF := lv_s hF; obtain ⟨x23, hx23, hF⟩ := hF
    refine x_seq <| x_region <| pa (at_load one_22 rfl (hS.cell rfl)) <| p (yl_move rfl) <|
      p (yix_o sl_22 rfl rfl (hS.pull 1) q1d q3i) <| pa (at_load one_3 rfl (RepL.getW q1d (hS.pull 1) q3i hx23)) <| p (yl_eql rfl rfl) <| p (yl_assign rfl) <|
      x_done <|
      ?_
    have e_ := Option.some.inj (show some _ = some _ from hF); subst e_
    exact x_return ⟨_, ⟨_, _, rfl, rfl, rfl⟩, q1k, q5, q4.length, c_v4_0_4_0, q0a, rfl, q1d, q1j, ((((((((hS.pull 7).pull 7).pull 3).pull 6).pull 7).pull 7).pull 7).pull 7)⟩
  · replace hF := it_f hc19 hF
    replace hF := ck_s hF; obtain ⟨q3j, hF⟩ := hF
    refine x_skip <| x_seq <| x_region <| pa (at_load one_22 rfl (hS.cell rfl)) <|
      p (yl_move rfl) <| p (yix_o sl_22 rfl rfl (hS.pull 1) q1d q3j) <|
      ?_
    replace hF := lv_s hF; obtain ⟨q4x, q4m, hF⟩ := hF
    refine o_put' (news := [.int .i64 1]) sz_3 rfl rfl rfl rfl (o := 0) rfl q3j rfl (hS.pull 1) q1d (Le.refl _) (fun c hc => ok_all hc (show (RpI .i64).ok ρ [.int .i64 1] 1 from rfl)) q4m (fun q2o w' q4n hS => ?_)
    refine x_done <| x_seq <| x_region <| p (yl_assign rfl) <|
      x_done <| x_seq <| x_seq <| x_region <|
      p (yl_move rfl) <| pa (at_load one_3 rfl ((hS.pull 2).cell rfl)) <| p (yl_geq rfl rfl) <| x_done <|
      ?_
    replace hF := bd_s hF; obtain ⟨oc30, hFc30, hF⟩ := hF
    refine x_join (fun E w => ∃ (q19 : Option Addr) (q1x : Nat) (c_l8_c30 : Nat) (q1h : List Value) (q0y : List Int), q0y = oc30 ∧ E 0 = .int .i64 k0 ∧ E 1 = .pointer (some ⟨q6, 0, none⟩) ∧ E 2 = .pointer (some ⟨q7, 0, none⟩) ∧ E 4 = .pointer (some ⟨q8, 0, none⟩) ∧ E 5 = .pointer (some ⟨q2, 0, none⟩) ∧ E 8 = .slice q19 q1x c_l8_c30 ∧ RepL (RpI .i64) ρ q0y q1h ∧ St w0 w (cells q6 22 [.slice q3 q0f.length c_v1_0] :: cells q7 3 [.int .i64 q13] :: cells q8 147 [.func (.func 155) #[] #[.pointer (some ⟨q6, 0, none⟩), .pointer (some ⟨q7, 0, none⟩), .pointer (some ⟨q0d, 0, none⟩), .pointer (some ⟨q8, 0, none⟩), .pointer (some ⟨q2, 0, none⟩)]] :: cells q2 22 [.slice q5 q4.length c_v4_0_4_0] :: vec 3 (RpI .i64).sz (.slice q19 q1x c_l8_c30) q1x q1h :: cells q0d 81 [.int .i64 v3.Rows, .int .i64 v3.Cols, .int .i64 v3.Tracks, .slice q0i v3.Tiles.length c_v3_3, .slice q0j v3.In.length c_v3_4, .slice q0k v3.Out.length c_v3_5] :: vec 3 (RpI .i64).sz (.slice q3 q0f.length c_v1_0) q0f.length q2o :: vec 3 (RpI .i64).sz (.slice q5 q4.length c_v4_0_4_0) q4.length q0a :: ro ρ :: l)) ?_ ?_
    · skip -- c30
      refine x_cond_p (q13 ≤ k0) rfl (fun hc30 => ?_) (fun hc30 => ?_)
      · replace hFc30 := it_t hc30 hFc30
        replace hFc30 := ar_s hFc30; obtain ⟨x34, hx34, hFc30⟩ := hFc30
        replace hFc30 := bd_s hFc30; obtain ⟨q3n, q4o, hFc30⟩ := hFc30
        refine x_region <| pa (v := .agg #[.int .i64 v3.Rows, .int .i64 v3.Cols, .int .i64 v3.Tracks, .slice q0i v3.Tiles.length c_v3_3, .slice q0j v3.In.length c_v3_4, .slice q0k v3.Out.length c_v3_5]) (ld_sub agg_81 rfl rfl rfl (hS.pull 3)) <| p (yl_move rfl) <| pa (at_load one_3 rfl ((hS.pull 2).cell rfl)) <|
          p (ysub rfl rfl hx34) <|
          ?_
        have hcall := c_array_Config_sources q4o q1o q25 q26 (hS.pull 7)
        refine o_cc call_156 (args2 rfl rfl) hcall ?_
        rintro e w' ⟨q2q, q3o, c_y0_ret_6_4, q2m, rfl, q27, hS⟩
        refine ⟨_, rfl, ?_⟩
        have e_ := St.vec_n hS q27; subst e_
        refine p (yl_assign rfl) <| x_done <|
          ?_
        exact x_inv ⟨q2q, q3n.length, c_y0_ret_6_4, q2m, q3n, (Option.some.inj (show some _ = some _ from hFc30)), rfl, rfl, rfl, rfl, rfl, rfl, q27, (((((((((hS.pull 1).pull 8).pull 3).pull 6).pull 4).pull 8).pull 8).pull 8).pull 8)⟩
      · replace hFc30 := it_f hc30 hFc30
        replace hFc30 := ck_s hFc30; obtain ⟨q4p, hFc30⟩ := hFc30
        replace hFc30 := ar_s hFc30; obtain ⟨x39, hx39, hFc30⟩ := hFc30
        replace hFc30 := ck_s hFc30; obtain ⟨q4q, hFc30⟩ := hFc30
        replace hFc30 := ar_s hFc30; obtain ⟨x40, hx40, hFc30⟩ := hFc30
        replace hFc30 := ck_s hFc30; obtain ⟨q4r, hFc30⟩ := hFc30
        replace hFc30 := ar_s hFc30; obtain ⟨x44, hx44, hFc30⟩ := hFc30
        replace hFc30 := ck_s hFc30; obtain ⟨q4s, hFc30⟩ := hFc30
        replace hFc30 := lv_s hFc30; obtain ⟨x45, hx45, hFc30⟩ := hFc30
        replace hFc30 := ck_s hFc30; obtain ⟨q3p, hFc30⟩ := hFc30
        replace hFc30 := lv_s hFc30; obtain ⟨x49, hx49, hFc30⟩ := hFc30
        refine x_seq <| x_still mixed (by kernel_rfl) hS <| q (yl_move rfl) <| q (yl_field0 fld_81_2 rfl) <|
          qa (fun w' hS => at_load one_3 rfl ((hS.pull 3).cell rfl)) <| q (yquo rfl rfl q4p hx39) <| q (yquo rfl rfl q4q hx40) <| q (yl_move rfl) <|
          q (yl_field0 fld_81_2 rfl) <| qa (fun w' hS => at_load one_3 rfl ((hS.pull 3).cell rfl)) <| q (yquo rfl rfl q4r hx44) <| q (yrem rfl rfl q4s hx45) <|
          q (yl_move rfl) <| q (yl_field0 fld_81_2 rfl) <| qa (fun w' hS => at_load one_3 rfl ((hS.pull 3).cell rfl)) <| q (yrem rfl rfl q3p hx49) <|
          q (yl_assign rfl) <| q (yl_assign rfl) <| q (yl_assign rfl) <|
          q_done fun w' hS => ?_
        replace hFc30 := ck_s hFc30; obtain ⟨q3k, hFc30⟩ := hFc30
        replace hFc30 := ck_s hFc30; obtain ⟨q2u, hFc30⟩ := hFc30
        replace hFc30 := lv_s hFc30; obtain ⟨q5d, q4t, hFc30⟩ := hFc30
        have q_ := q1o.get q3k; obtain ⟨q5a, q3l, q4u⟩ := q_
        rw [← q4t] at q3l
        obtain ⟨q4y, q4z, q50, q51, q52, q53, q54, q55, q56, q57, q58, q59, rfl, q30, q31, q32, q33⟩ := q3l
        have e_ := q30.n; subst e_
        have e_ := q31.n; subst e_
        have e_ := q32.n; subst e_
        have e_ := q33.n; subst e_
        replace hFc30 := lv_s hFc30; obtain ⟨q5e, q4v, hFc30⟩ := hFc30
        have q_ := sel4_sl q2u q30 q31 q32 q33; obtain ⟨q5f, q5g, q5h, q4w, q2v⟩ := q_
        rw [← q4v] at q2v
        have e_ := q2v.n; subst e_
        replace hFc30 := ck_s hFc30; obtain ⟨q3m, hFc30⟩ := hFc30
        replace hFc30 := lv_s hFc30; obtain ⟨x60, hx60, hFc30⟩ := hFc30
        refine x_seq <| x_region <| p (yl_field0 fld_81_3 rfl) <| pa (at_load one_78 rfl ((hS.pull 3).cell rfl)) <|
          p (yl_move rfl) <| p (yl_move rfl) <| p (yix_f sl_78 rfl rfl q1o q3k) <| p (yl_fieldAddr fld_183_3 rfl) <|
          p (yl_ixE arr_181 rfl rfl q2u rfl) <| pa (at_load one_22 rfl (Elt.ld (j := 6 + x45.toNat * 1) q4u (hS.pull 7) ((sel4_get q2u rfl rfl rfl rfl).trans (congrArg some q4w)))) <| p (yl_move rfl) <| p (yix_f sl_22 rfl rfl q2v q3m) <|
          pa (at_load one_3 rfl (RdS.getW q2v (hS.pull 7) q3m hx60)) <| p (yl_assign rfl) <| x_done <| x_block <|
          x_seq <| x_region <| p (yl_move rfl) <| p (yl_eql rfl rfl) <|
          p (yl_assign rfl) <| x_done <|
          ?_
        replace hFc30 := bd_s hFc30; obtain ⟨oc61, hFc61, hFc30⟩ := hFc30
        refine x_join (fun E w => ∃ (q1y : Option Addr) (q1z : Nat) (c_l8_c61 : Nat) (q1q : List Value) (q28 : List Int), q28 = oc61 ∧ E 0 = .int .i64 k0 ∧ E 1 = .pointer (some ⟨q6, 0, none⟩) ∧ E 2 = .pointer (some ⟨q7, 0, none⟩) ∧ E 4 = .pointer (some ⟨q8, 0, none⟩) ∧ E 5 = .pointer (some ⟨q2, 0, none⟩) ∧ E 8 = .slice q1y q1z c_l8_c61 ∧ RepL (RpI .i64) ρ q28 q1q ∧ St w0 w (cells q6 22 [.slice q3 q0f.length c_v1_0] :: cells q7 3 [.int .i64 q13] :: cells q8 147 [.func (.func 155) #[] #[.pointer (some ⟨q6, 0, none⟩), .pointer (some ⟨q7, 0, none⟩), .pointer (some ⟨q0d, 0, none⟩), .pointer (some ⟨q8, 0, none⟩), .pointer (some ⟨q2, 0, none⟩)]] :: cells q2 22 [.slice q5 q4.length c_v4_0_4_0] :: vec 3 (RpI .i64).sz (.slice q1y q1z c_l8_c61) q1z q1q :: cells q0d 81 [.int .i64 v3.Rows, .int .i64 v3.Cols, .int .i64 v3.Tracks, .slice q0i v3.Tiles.length c_v3_3, .slice q0j v3.In.length c_v3_4, .slice q0k v3.Out.length c_v3_5] :: vec 3 (RpI .i64).sz (.slice q3 q0f.length c_v1_0) q0f.length q2o :: vec 3 (RpI .i64).sz (.slice q5 q4.length c_v4_0_4_0) q4.length q0a :: ro ρ :: l)) ?_ ?_
        · skip -- c61
          refine x_cond_p (x60 = 1) rfl (fun hc61 => ?_) (fun hc61 => ?_)
          · replace hFc61 := it_t hc61 hFc61
            replace hFc61 := ar_s hFc61; obtain ⟨x67, hx67, hFc61⟩ := hFc61
            refine x_region <| p (yl_move rfl) <| pa (at_load one_3 rfl ((hS.pull 2).cell rfl)) <| p (yl_move rfl) <|
              p (yadd rfl rfl hx67) <|
              ?_
            refine o_buildSlice (vs := [.int .i64 x67]) (cs := [.int .i64 x67]) sl_22 zero_3 (parts_eq (pt (va := .int .i64 x67) rfl pt0)) rfl (by intro v hv; simp only [List.mem_cons, List.not_mem_nil, or_false] at hv; first | (subst hv; rfl) | (rcases hv with rfl <;> rfl)) (by decide) rfl hS (fun b68 w' hS => ?_)
            replace hS := St.vec_nil hS 3 (RpI .i64).sz
            have hn69 : RepL (RpI .i64) ρ [] [] := rfl
            replace hFc61 := lv_s hFc61; obtain ⟨q2w, q3q, hFc61⟩ := hFc61
            replace hFc61 := ck_s hFc61; obtain ⟨q3r, hFc61⟩ := hFc61
            refine o_ap sl_22 zero_3 rfl (by decide) rfl rfl hS hn69 (src_blk usl_22 (hS.pull 1) rfl rfl) (RepL.cons (R := (RpI .i64)) (ρ := ρ) (x := x67) (cs := [.int .i64 x67]) rfl RepL.nil) (q3q : q2w = [] ++ _) q3r (fun A69 c69 cs69 w' hr69 hS => ?_)
            refine p (yl_assign rfl) <| x_done <|
              ?_
            exact x_inv ⟨A69, q2w.length, c69, cs69, q2w, (Option.some.inj (show some _ = some _ from hFc61)), rfl, rfl, rfl, rfl, rfl, rfl, hr69, ((((((((((hS.pull 1).drop.pull 8).pull 8).pull 3).pull 6).pull 4).pull 8).pull 8).pull 8).pull 8)⟩
          · replace hFc61 := it_f hc61 hFc61
            refine x_seq <| x_region <| p (yl_move rfl) <| p (yl_geq rfl rfl) <|
              p (yl_assign rfl) <| x_done <|
              ?_
            replace hFc61 := bd_s hFc61; obtain ⟨oc70, hFc70, hFc61⟩ := hFc61
            refine x_join (fun E w => ∃ (q20 : Option Addr) (q21 : Nat) (c_l8_c70 : Nat) (q1r : List Value) (q29 : List Int), q29 = oc70 ∧ E 0 = .int .i64 k0 ∧ E 1 = .pointer (some ⟨q6, 0, none⟩) ∧ E 2 = .pointer (some ⟨q7, 0, none⟩) ∧ E 4 = .pointer (some ⟨q8, 0, none⟩) ∧ E 5 = .pointer (some ⟨q2, 0, none⟩) ∧ E 8 = .slice q20 q21 c_l8_c70 ∧ RepL (RpI .i64) ρ q29 q1r ∧ St w0 w (cells q6 22 [.slice q3 q0f.length c_v1_0] :: cells q7 3 [.int .i64 q13] :: cells q8 147 [.func (.func 155) #[] #[.pointer (some ⟨q6, 0, none⟩), .pointer (some ⟨q7, 0, none⟩), .pointer (some ⟨q0d, 0, none⟩), .pointer (some ⟨q8, 0, none⟩), .pointer (some ⟨q2, 0, none⟩)]] :: cells q2 22 [.slice q5 q4.length c_v4_0_4_0] :: vec 3 (RpI .i64).sz (.slice q20 q21 c_l8_c70) q21 q1r :: cells q0d 81 [.int .i64 v3.Rows, .int .i64 v3.Cols, .int .i64 v3.Tracks, .slice q0i v3.Tiles.length c_v3_3, .slice q0j v3.In.length c_v3_4, .slice q0k v3.Out.length c_v3_5] :: vec 3 (RpI .i64).sz (.slice q3 q0f.length c_v1_0) q0f.length q2o :: vec 3 (RpI .i64).sz (.slice q5 q4.length c_v4_0_4_0) q4.length q0a :: ro ρ :: l)) ?_ ?_
            · skip -- c70
              refine x_cond_p (3 ≤ x60) rfl (fun hc70 => ?_) (fun hc70 => ?_)
              · replace hFc70 := it_t hc70 hFc70
                replace hFc70 := ar_s hFc70; obtain ⟨x77, hx77, hFc70⟩ := hFc70
                replace hFc70 := bd_s hFc70; obtain ⟨q2e, q3s, hFc70⟩ := hFc70
                refine x_region <| p (yl_move rfl) <| pa (v := .agg #[.int .i64 v3.Rows, .int .i64 v3.Cols, .int .i64 v3.Tracks, .slice q0i v3.Tiles.length c_v3_3, .slice q0j v3.In.length c_v3_4, .slice q0k v3.Out.length c_v3_5]) (ld_sub agg_81 rfl rfl rfl (hS.pull 3)) <| p (yl_move rfl) <|
                  p (yl_move rfl) <| p (ysub rfl rfl hx77) <| p (yl_move rfl) <|
                  ?_
                have hcall := c_array_Config_into q3s q1o q25 q26 (hS.pull 7)
                refine o_cc call_157 (args4 rfl rfl rfl rfl) ((Calls.mono hcall (fun e w'' h => And.intro h.1 (((((((h.2.pull 7).pull 7).pull 7).pull 7).pull 7).pull 7).pull 7)))) ?_
                rintro e w' ⟨rfl, hS⟩
                refine ⟨_, rfl, ?_⟩
                refine o_buildSlice (vs := [.int .i64 q2e]) (cs := [.int .i64 q2e]) sl_22 zero_3 (parts_eq (pt (va := .int .i64 q2e) rfl pt0)) rfl (by intro v hv; simp only [List.mem_cons, List.not_mem_nil, or_false] at hv; first | (subst hv; rfl) | (rcases hv with rfl <;> rfl)) (by decide) rfl hS (fun b80 w' hS => ?_)
                replace hS := St.vec_nil hS 3 (RpI .i64).sz
                have hn81 : RepL (RpI .i64) ρ [] [] := rfl
                replace hFc70 := lv_s hFc70; obtain ⟨q2x, q3t, hFc70⟩ := hFc70
                replace hFc70 := ck_s hFc70; obtain ⟨q3u, hFc70⟩ := hFc70
                refine o_ap sl_22 zero_3 rfl (by decide) rfl rfl hS hn81 (src_blk usl_22 (hS.pull 1) rfl rfl) (RepL.cons (R := (RpI .i64)) (ρ := ρ) (x := q2e) (cs := [.int .i64 q2e]) rfl RepL.nil) (q3t : q2x = [] ++ _) q3u (fun A81 c81 cs81 w' hr81 hS => ?_)
                refine p (yl_assign rfl) <| x_done <|
                  ?_
                exact x_inv ⟨A81, q2x.length, c81, cs81, q2x, (Option.some.inj (show some _ = some _ from hFc70)), rfl, rfl, rfl, rfl, rfl, rfl, hr81, ((((((((((hS.pull 1).drop.pull 8).pull 8).pull 3).pull 6).pull 4).pull 8).pull 8).pull 8).pull 8)⟩
              · replace hFc70 := it_f hc70 hFc70
                refine x_skip <|
                  ?_
                replace hS := St.vec_nil hS 3 (RpI .i64).sz
                have q2n : RepL (RpI .i64) ρ [] [] := rfl
                exact x_inv ⟨none, 0, 0, [], [], (Option.some.inj (show some _ = some _ from hFc70)), rfl, rfl, rfl, rfl, rfl, rfl, q2n, (((((((((hS.pull 8).pull 8).pull 3).pull 6).pull 4).pull 8).pull 8).pull 8).pull 8)⟩
            rintro E w ⟨q20, q21, c_l8_c70, q1r, q29, rfl, q3v, q3w, q3x, q3y, q3z, q40, q2r, hS⟩
            have e_ := St.vec_n (hS.pull 4) q2r; subst e_
            exact x_inv ⟨q20, q29.length, c_l8_c70, q1r, q29, (Option.some.inj (show some _ = some _ from hFc61)), q3v, q3w, q3x, q3y, q3z, q40, q2r, (((((((((hS.pull 8).pull 8).pull 8).pull 8).pull 8).pull 8).pull 8).pull 8).pull 8)⟩
        rintro E w ⟨q1y, q1z, c_l8_c61, q1q, q28, rfl, q41, q42, q43, q44, q45, q46, q2s, hS⟩
        have e_ := St.vec_n (hS.pull 4) q2s; subst e_
        refine x_blk <|
          ?_
        exact x_inv ⟨q1y, q28.length, c_l8_c61, q1q, q28, (Option.some.inj (show some _ = some _ from hFc30)), q41, q42, q43, q44, q45, q46, q2s, (((((((((hS.pull 8).pull 8).pull 8).pull 8).pull 8).pull 8).pull 8).pull 8).pull 8)⟩
    rintro E w ⟨q19, q1x, c_l8_c30, q1h, q0y, rfl, q47, q48, q49, q4a, q4b, q4c, q2b, hS⟩
    have e_ := St.vec_n (hS.pull 4) q2b; subst e_
    refine x_seq <| x_seq <| x_region <| p (yl_move q4c) <|
      p (yl_len_slice usl_22 rfl) <| p (yl_move rfl) <| x_done <|
      ?_
    replace hF := bs_s hF; obtain ⟨oL14, hLL14, hF⟩ := hF
    refine x_join (fun E w => ∃ (q1e : List Value) (q1a : Option Addr) (q10 : Nat) (c_b_v4_0_4_0_L14 : Nat) (q17 : List Value) (q1u : List Int) (q1f : List Int), (Sum.inl (q1u, q1f)) = oL14 ∧ E 0 = .int .i64 k0 ∧ E 1 = .pointer (some ⟨q6, 0, none⟩) ∧ E 2 = .pointer (some ⟨q7, 0, none⟩) ∧ E 5 = .pointer (some ⟨q2, 0, none⟩) ∧ RepL (RpI .i64) ρ q1u q1e ∧ RepL (RpI .i64) ρ q1f q17 ∧ St w0 w (cells q6 22 [.slice q3 q0f.length c_v1_0] :: cells q7 3 [.int .i64 q13] :: cells q2 22 [.slice q1a q10 c_b_v4_0_4_0_L14] :: cells q0d 81 [.int .i64 v3.Rows, .int .i64 v3.Cols, .int .i64 v3.Tracks, .slice q0i v3.Tiles.length c_v3_3, .slice q0j v3.In.length c_v3_4, .slice q0k v3.Out.length c_v3_5] :: cells q8 147 [.func (.func 155) #[] #[.pointer (some ⟨q6, 0, none⟩), .pointer (some ⟨q7, 0, none⟩), .pointer (some ⟨q0d, 0, none⟩), .pointer (some ⟨q8, 0, none⟩), .pointer (some ⟨q2, 0, none⟩)]] :: vec 3 (RpI .i64).sz (.slice q3 q0f.length c_v1_0) q0f.length q1e :: vec 3 (RpI .i64).sz (.slice q1a q10 c_b_v4_0_4_0_L14) q10 q17 :: ro ρ :: l)) ?_ ?_
    · skip -- L14
      refine x_block ?_
      refine x_loop (fun k_ E w => ∃ (q0p : List Value) (q0m : Option Addr) (q0s : Nat) (c_b_v4_0_4_0_L14h : Nat) (q0g : List Value) (q1p : Int) (q14 : List Int) (q0b : List Int), lp (P_array_order_1_3_L14 q13 v3 q0y rc_) k_ (q1p, q14, q0b) = some oL14 ∧ E 0 = .int .i64 k0 ∧ E 1 = .pointer (some ⟨q6, 0, none⟩) ∧ E 2 = .pointer (some ⟨q7, 0, none⟩) ∧ E 4 = .pointer (some ⟨q8, 0, none⟩) ∧ E 5 = .pointer (some ⟨q2, 0, none⟩) ∧ E 82 = .slice q19 q0y.length c_l8_c30 ∧ E 83 = .int .i64 (q0y.length : Int) ∧ E 84 = .int .i64 q1p ∧ RepL (RpI .i64) ρ q14 q0p ∧ RepL (RpI .i64) ρ q0b q0g ∧ St w0 w (cells q6 22 [.slice q3 q0f.length c_v1_0] :: cells q7 3 [.int .i64 q13] :: cells q8 147 [.func (.func 155) #[] #[.pointer (some ⟨q6, 0, none⟩), .pointer (some ⟨q7, 0, none⟩), .pointer (some ⟨q0d, 0, none⟩), .pointer (some ⟨q8, 0, none⟩), .pointer (some ⟨q2, 0, none⟩)]] :: cells q2 22 [.slice q0m q0s c_b_v4_0_4_0_L14h] :: vec 3 (RpI .i64).sz (.slice q19 q0y.length c_l8_c30) q0y.length q1h :: cells q0d 81 [.int .i64 v3.Rows, .int .i64 v3.Cols, .int .i64 v3.Tracks, .slice q0i v3.Tiles.length c_v3_3, .slice q0j v3.In.length c_v3_4, .slice q0k v3.Out.length c_v3_5] :: vec 3 (RpI .i64).sz (.slice q3 q0f.length c_v1_0) q0f.length q0p :: vec 3 (RpI .i64).sz (.slice q0m q0s c_b_v4_0_4_0_L14h) q0s q0g :: ro ρ :: l)) fuel ⟨q2o, q5, q4.length, c_v4_0_4_0, q0a, 0, q4x, q4, hLL14, q47, q48, q49, q4a, q4b, rfl, rfl, rfl, q4n, q1j, (((((((((hS.pull 8).pull 8).pull 8).pull 8).pull 8).pull 8).pull 8).pull 8).pull 8)⟩ ?_
      rintro kL14 E w ⟨q0p, q0m, q0s, c_b_v4_0_4_0_L14h, q0g, q1p, q14, q0b, hLL14, q2h, q2i, q2j, q2k, q2l, q2c, q2d, q22, q1g, q0t, hS⟩
      have e_ := St.vec_n (hS.pull 7) q0t; subst e_
      replace hLL14 := lp_s hLL14; obtain ⟨kL14, obL14, rfl, hFL14, hLL14⟩ := hLL14
      refine x_seq <| x_region <| p (yl_lss q22 q2d) <| x_done <|
        x_seq <|
        x_cond_p (q1p < (q0y.length : Int)) rfl (fun hc85 => ?_) (fun hc85 => ?_)
      · replace hFL14 := it_t hc85 hFL14
        replace hFL14 := ck_s hFL14; obtain ⟨q34, hFL14⟩ := hFL14
        replace hFL14 := lv_s hFL14; obtain ⟨x87, hx87, hFL14⟩ := hFL14
        refine x_skip <| x_seq <| x_block <| x_seq <|
          x_region <| p (yix_o sl_22 q2c q22 (hS.pull 4) q2b q34) <| pa (at_load one_3 rfl (RepL.getW q2b (hS.pull 4) q34 hx87)) <| p (yl_assign rfl) <|
          x_done <| x_seq <| x_region <| p (yl_move rfl) <|
          p (yl_geq rfl rfl) <| p (yl_move rfl) <| pg (v := .func (.func 155) #[] #[.pointer (some ⟨q6, 0, none⟩), .pointer (some ⟨q7, 0, none⟩), .pointer (some ⟨q0d, 0, none⟩), .pointer (some ⟨q8, 0, none⟩), .pointer (some ⟨q2, 0, none⟩)]) 90 (c := decide (0 ≤ x87)) (says_t _) (fun hq => at_load one_147 q2k ((hS.pull 2).cell rfl)) <| pg (v := .int .i64 x87) 90 (c := decide (0 ≤ x87)) (says_t _) (fun hq => Yl.at (yl_move rfl)) <|
          ?_
        replace hFL14 := bd_s hFL14; obtain ⟨q4d, q11, hFL14⟩ := hFL14
        refine x_join_ops (fun E w => ∃ (q0o : List Value) (q0h : Option Addr) (q0q : Nat) (c_b_v4_0_4_0_g16_5 : Nat) (q0c : List Value) (q1s : Bool) (q18 : List Int) (q0e : List Int), (q1s, q18, q0e) = q4d ∧ E 0 = .int .i64 k0 ∧ E 1 = .pointer (some ⟨q6, 0, none⟩) ∧ E 2 = .pointer (some ⟨q7, 0, none⟩) ∧ E 4 = .pointer (some ⟨q8, 0, none⟩) ∧ E 5 = .pointer (some ⟨q2, 0, none⟩) ∧ E 82 = .slice q19 q0y.length c_l8_c30 ∧ E 83 = .int .i64 (q0y.length : Int) ∧ E 84 = .int .i64 q1p ∧ E 95 = .bool q1s ∧ RepL (RpI .i64) ρ q18 q0o ∧ RepL (RpI .i64) ρ q0e q0c ∧ St w0 w (cells q6 22 [.slice q3 q0f.length c_v1_0] :: cells q7 3 [.int .i64 q13] :: cells q8 147 [.func (.func 155) #[] #[.pointer (some ⟨q6, 0, none⟩), .pointer (some ⟨q7, 0, none⟩), .pointer (some ⟨q0d, 0, none⟩), .pointer (some ⟨q8, 0, none⟩), .pointer (some ⟨q2, 0, none⟩)]] :: cells q2 22 [.slice q0h q0q c_b_v4_0_4_0_g16_5] :: vec 3 (RpI .i64).sz (.slice q19 q0y.length c_l8_c30) q0y.length q1h :: cells q0d 81 [.int .i64 v3.Rows, .int .i64 v3.Cols, .int .i64 v3.Tracks, .slice q0i v3.Tiles.length c_v3_3, .slice q0j v3.In.length c_v3_4, .slice q0k v3.Out.length c_v3_5] :: vec 3 (RpI .i64).sz (.slice q3 q0f.length c_v1_0) q0f.length q0o :: vec 3 (RpI .i64).sz (.slice q0h q0q c_b_v4_0_4_0_g16_5) q0q q0c :: ro ρ :: l)) ?_ ?_
        · skip -- q5b
          refine x_split (decide (0 ≤ x87)) (fun q15 => ?_) (fun q15 => ?_)
          · replace q11 := it_t q15 q11
            replace q11 := bd_s q11; obtain ⟨q2p, q4e, q11⟩ := q11
            refine o_strip 90 true (says_lit (c := true) (Eq.trans (show _ = Value.bool (decide (0 ≤ x87)) from rfl) (congrArg Value.bool q15)) rfl) <|
              ?_
            have hcall := ih q4e q1g q1o q25 q26 q0t ((((((((hS.pull 8).pull 8).pull 5).pull 5).pull 7).pull 6).pull 8).pull 7)
            refine o_ccv (Eq.trans (show _ = (bif decide (0 ≤ x87) then .func (.func 155) #[] #[.pointer (some ⟨q6, 0, none⟩), .pointer (some ⟨q7, 0, none⟩), .pointer (some ⟨q0d, 0, none⟩), .pointer (some ⟨q8, 0, none⟩), .pointer (some ⟨q2, 0, none⟩)] else undef) from rfl) (cv q15)) call_155 (capargs (args1 (Eq.trans (show _ = (bif decide (0 ≤ x87) then .int .i64 x87 else undef) from rfl) (cv q15)))) hcall ?_
            rintro e w' ⟨q24, q1w, q2t, c_b_v4_0_4_0_ret_16_5, q1v, rfl, q2a, q1c, hS⟩
            refine ⟨_, rfl, ?_⟩
            have e_ := St.vec_n (hS.pull 6) q1c; subst e_
            refine o_strip 90 true (says_lit (c := true) (Eq.trans (show _ = Value.bool (decide (0 ≤ x87)) from rfl) (congrArg Value.bool q15)) rfl) <| p (yl_not rfl) <| p (yl_pick (b := true) (Eq.trans (show _ = Value.bool (decide (0 ≤ x87)) from rfl) (congrArg Value.bool q15)) (fun h => rfl) (fun h => nomatch h)) <| x_done <|
              ?_
            exact x_inv ⟨q24, q1w, q2p.2.2.length, c_b_v4_0_4_0_ret_16_5, q1v, !q2p.1, q2p.2.1, q2p.2.2, (Option.some.inj (show some _ = some _ from q11)), q2h, q2i, q2j, q2k, q2l, q2c, q2d, q22, rfl, q2a, q1c, (((((((((hS.pull 7).pull 7).pull 7).pull 5).pull 8).pull 7).pull 8).pull 8).pull 8)⟩
          · replace q11 := it_bf q15 q11
            refine o_pass 93 90 true (says_lit (c := false) (Eq.trans (show _ = Value.bool (decide (0 ≤ x87)) from rfl) (congrArg Value.bool q15)) rfl) <| o_pass 94 90 true (says_lit (c := false) (Eq.trans (show _ = Value.bool (decide (0 ≤ x87)) from rfl) (congrArg Value.bool q15)) rfl) <| p (yl_pick (b := false) (Eq.trans (show _ = Value.bool (decide (0 ≤ x87)) from rfl) (congrArg Value.bool q15)) (fun h => nomatch h) (fun h => rfl)) <| x_done <|
              ?_
            exact x_inv ⟨q0p, q0m, q0b.length, c_b_v4_0_4_0_L14h, q0g, false, q14, q0b, (Option.some.inj (show some _ = some _ from q11)), q2h, q2i, q2j, q2k, q2l, q2c, q2d, q22, rfl, q1g, q0t, (((((((((hS.pull 8).pull 8).pull 8).pull 8).pull 8).pull 8).pull 8).pull 8).pull 8)⟩
        rintro E w ⟨q0o, q0h, q0q, c_b_v4_0_4_0_g16_5, q0c, q1s, q18, q0e, rfl, q3c, q3d, q3e, q3f, q3g, q35, q36, q37, q38, q1t, q16, hS⟩
        have e_ := St.vec_n (hS.pull 7) q16; subst e_
        refine x_cond (t := q1s) q38 (fun hc95 => ?_) (fun hc95 => ?_)
        · replace hFL14 := it_t hc95 hFL14
          refine x_seq <| x_region <| p (yl_assign rfl) <| x_done <|
            ?_
          have e_ := Option.some.inj (show some _ = some _ from hFL14); subst e_
          have e_ := (show _ = oL14 from hLL14); subst e_
          have e_ := Option.some.inj (show some _ = some _ from hF); subst e_
          exact x_return ⟨_, ⟨_, _, rfl, rfl, rfl⟩, q0o, q0h, q0e.length, c_b_v4_0_4_0_g16_5, q0c, rfl, q1t, q16, (((((((((hS.pull 4).drop.pull 7).pull 7).pull 7).pull 5).pull 6).pull 7).pull 7).pull 7)⟩
        · replace hFL14 := it_bf hc95 hFL14
          replace hFL14 := ar_s hFL14; obtain ⟨x96, hx96, hFL14⟩ := hFL14
          refine x_skip <| x_blk <| x_region <| p (yadd q37 rfl hx96) <|
            p (yl_move rfl) <| x_done <|
            ?_
          have e_ := Option.some.inj (show some _ = some _ from hFL14); subst e_
          exact x_inv ⟨kL14, Nat.lt_succ_self _, q0o, q0h, q0e.length, c_b_v4_0_4_0_g16_5, q0c, x96, q18, q0e, hLL14, q3c, q3d, q3e, q3f, q3g, q35, q36, rfl, q1t, q16, (((((((((hS.pull 8).pull 8).pull 8).pull 8).pull 8).pull 8).pull 8).pull 8).pull 8)⟩
      · replace hFL14 := it_f hc85 hFL14
        refine x_exitTo _ rfl <|
          ?_
        have e_ := Option.some.inj (show some _ = some _ from hFL14); subst e_
        exact x_inv ⟨q0p, q0m, q0b.length, c_b_v4_0_4_0_L14h, q0g, q14, q0b, hLL14, q2h, q2i, q2j, q2l, q1g, q0t, (((((((((hS.pull 4).drop.pull 7).pull 7).pull 7).pull 5).pull 7).pull 7).pull 7).pull 7)⟩
    rintro E w ⟨q1e, q1a, q10, c_b_v4_0_4_0_L14, q17, q1u, q1f, rfl, q2f, q4f, q39, q2g, q23, q1b, hS⟩
    have e_ := St.vec_n (hS.pull 6) q1b; subst e_
    replace hF := ck_s hF; obtain ⟨q3a, hF⟩ := hF
    refine x_seq <| x_region <| pa (at_load one_22 q4f (hS.cell rfl)) <| p (yl_move q2f) <|
      p (yix_o sl_22 rfl rfl (hS.pull 5) q23 q3a) <|
      ?_
    replace hF := lv_s hF; obtain ⟨q5c, q4g, hF⟩ := hF
    refine o_put' (news := [.int .i64 2]) sz_3 rfl rfl rfl rfl (o := 0) rfl q3a rfl (hS.pull 5) q23 (Le.refl _) (fun c hc => ok_all hc (show (RpI .i64).ok ρ [.int .i64 2] 2 from rfl)) q4g (fun q3b w' q4h hS => ?_)
    refine x_done <| x_seq <| x_seq <| x_region <|
      p (yl_move q2f) <| pa (at_load one_3 q39 ((hS.pull 2).cell rfl)) <| p (yl_geq rfl rfl) <| x_done <|
      ?_
    replace hF := bd_s hF; obtain ⟨oc102, hFc102, hF⟩ := hF
    refine x_join (fun E w => ∃ (q0u : Option Addr) (q0v : Nat) (c_b_v4_0_4_0_c102 : Nat) (q0r : List Value) (q12 : List Int), q12 = oc102 ∧ RepL (RpI .i64) ρ q12 q0r ∧ St w0 w (cells q6 22 [.slice q3 q0f.length c_v1_0] :: cells q7 3 [.int .i64 q13] :: cells q0d 81 [.int .i64 v3.Rows, .int .i64 v3.Cols, .int .i64 v3.Tracks, .slice q0i v3.Tiles.length c_v3_3, .slice q0j v3.In.length c_v3_4, .slice q0k v3.Out.length c_v3_5] :: cells q2 22 [.slice q0u q0v c_b_v4_0_4_0_c102] :: cells q8 147 [.func (.func 155) #[] #[.pointer (some ⟨q6, 0, none⟩), .pointer (some ⟨q7, 0, none⟩), .pointer (some ⟨q0d, 0, none⟩), .pointer (some ⟨q8, 0, none⟩), .pointer (some ⟨q2, 0, none⟩)]] :: vec 3 (RpI .i64).sz (.slice q3 q0f.length c_v1_0) q0f.length q3b :: vec 3 (RpI .i64).sz (.slice q0u q0v c_b_v4_0_4_0_c102) q0v q0r :: ro ρ :: l)) ?_ ?_
    · skip -- c102
      refine x_cond_p (q13 ≤ k0) rfl (fun hc102 => ?_) (fun hc102 => ?_)
      · replace hFc102 := it_t hc102 hFc102
        replace hFc102 := ar_s hFc102; obtain ⟨x106, hx106, hFc102⟩ := hFc102
        replace hFc102 := ar_s hFc102; obtain ⟨x107, hx107, hFc102⟩ := hFc102
        refine x_region <| pa (at_load one_22 q2g ((hS.pull 3).cell rfl)) <| p (yl_move q2f) <| pa (at_load one_3 q39 ((hS.pull 2).cell rfl)) <|
          p (ysub rfl rfl hx106) <| p (ysub rfl rfl hx107) <|
          ?_
        refine o_buildSlice (vs := [.int .i64 x107]) (cs := [.int .i64 x107]) sl_22 zero_3 (parts_eq (pt (va := .int .i64 x107) rfl pt0)) rfl (by intro v hv; simp only [List.mem_cons, List.not_mem_nil, or_false] at hv; first | (subst hv; rfl) | (rcases hv with rfl <;> rfl)) (by decide) rfl hS (fun b108 w' hS => ?_)
        replace hFc102 := lv_s hFc102; obtain ⟨q2y, q4i, hFc102⟩ := hFc102
        replace hFc102 := ck_s hFc102; obtain ⟨q4j, hFc102⟩ := hFc102
        refine o_ap sl_22 zero_3 rfl (by decide) rfl rfl (hS.pull 7) q1b (src_blk usl_22 hS rfl rfl) (RepL.cons (R := (RpI .i64)) (ρ := ρ) (x := x107) (cs := [.int .i64 x107]) rfl RepL.nil) q4i q4j (fun A109 c109 cs109 w' hr109 hS => ?_)
        refine o_store1 (v := .slice A109 q2y.length c109) one_22 q2g rfl rfl rfl (hS.pull 5) (fun w' hS => ?_)
        refine x_done <|
          ?_
        exact x_inv ⟨A109, q2y.length, c109, cs109, q2y, (Option.some.inj (show some _ = some _ from hFc102)), hr109, (((((((((hS.pull 2).drop.pull 7).pull 2).pull 3).pull 7).pull 4).pull 7).pull 7).pull 7)⟩
      · replace hFc102 := it_f hc102 hFc102
        refine x_region <| pa (at_load one_22 q2g ((hS.pull 3).cell rfl)) <| p (yl_move q2f) <|
          ?_
        refine o_buildSlice (vs := [.int .i64 k0]) (cs := [.int .i64 k0]) sl_22 zero_3 (parts_eq (pt (va := .int .i64 k0) rfl pt0)) rfl (by intro v hv; simp only [List.mem_cons, List.not_mem_nil, or_false] at hv; first | (subst hv; rfl) | (rcases hv with rfl <;> rfl)) (by decide) rfl hS (fun b112 w' hS => ?_)
        replace hFc102 := lv_s hFc102; obtain ⟨q2z, q4k, hFc102⟩ := hFc102
        replace hFc102 := ck_s hFc102; obtain ⟨q4l, hFc102⟩ := hFc102
        refine o_ap sl_22 zero_3 rfl (by decide) rfl rfl (hS.pull 7) q1b (src_blk usl_22 hS rfl rfl) (RepL.cons (R := (RpI .i64)) (ρ := ρ) (x := k0) (cs := [.int .i64 k0]) rfl RepL.nil) q4k q4l (fun A113 c113 cs113 w' hr113 hS => ?_)
        refine o_store1 (v := .slice A113 q2z.length c113) one_22 q2g rfl rfl rfl (hS.pull 5) (fun w' hS => ?_)
        refine x_done <|
          ?_
        exact x_inv ⟨A113, q2z.length, c113, cs113, q2z, (Option.some.inj (show some _ = some _ from hFc102)), hr113, (((((((((hS.pull 2).drop.pull 7).pull 2).pull 3).pull 7).pull 4).pull 7).pull 7).pull 7)⟩
    rintro E w ⟨q0u, q0v, c_b_v4_0_4_0_c102, q0r, q12, rfl, q1i, hS⟩
    have e_ := St.vec_n (hS.pull 6) q1i; subst e_
    refine x_seq <| x_region <| p (yl_assign rfl) <| x_done <|
      ?_
    have e_ := Option.some.inj (show some _ = some _ from hF); subst e_
    exact x_return ⟨_, ⟨_, _, rfl, rfl, rfl⟩, q3b, q0u, q12.length, c_b_v4_0_4_0_c102, q0r, rfl, q4h, q1i, ((((((((hS.pull 7).pull 7).pull 7).pull 7).pull 7).pull 7).pull 7).pull 7)⟩
theorem c_array_order_1_3_n : ∀ (n : Nat), ∀ {w0 w : World} {l : List Assn} {ρ : Heap} {q0c : Nat} {q0a : Option Addr} {q6 : Nat} {c_v1_0 : Nat} {q0n : List Value} {q0d : Nat} {q0e : Nat} {q0f : Option Addr} {q0g : Nat} {c_v3_3 : Nat} {q0h : Option Addr} {q0i : Nat} {c_v3_4 : Nat} {q0j : Option Addr} {q0k : Nat} {c_v3_5 : Nat} {q0l : Nat} {q4 : Nat} {q0b : Option Addr} {q8 : Nat} {c_v4_0_4_0 : Nat} {q9 : List Value} {k0 : Int} {q0p : List Int} {q0o : Int} {v3 : T_array_Config} {q0m : List Int} {r : (Bool × List Int × List Int)} (hF : rcf P_array_order_1_3_B n (k0, q0p, q0o, v3, q0m) = some r) (q0r : RepL (RpI .i64) ρ q0p q0n) (q0s : RdS R_array_Tile ρ q0f q0g c_v3_3 v3.Tiles) (q0t : RdS R_array_Pad ρ q0h q0i c_v3_4 v3.In) (q0u : RdS R_array_Pad ρ q0j q0k c_v3_5 v3.Out) (q0q : RepL (RpI .i64) ρ q0m q9) (hS : St w0 w (cells q0c 22 [.slice q0a q6 c_v1_0] :: vec 3 (RpI .i64).sz (.slice q0a q6 c_v1_0) q6 q0n :: cells q0d 3 [.int .i64 q0o] :: cells q0e 81 [.int .i64 v3.Rows, .int .i64 v3.Cols, .int .i64 v3.Tracks, .slice q0f q0g c_v3_3, .slice q0h q0i c_v3_4, .slice q0j q0k c_v3_5] :: cells q0l 147 [.func (.func 155) #[] #[.pointer (some ⟨q0c, 0, none⟩), .pointer (some ⟨q0d, 0, none⟩), .pointer (some ⟨q0e, 0, none⟩), .pointer (some ⟨q0l, 0, none⟩), .pointer (some ⟨q4, 0, none⟩)]] :: cells q4 22 [.slice q0b q8 c_v4_0_4_0] :: vec 3 (RpI .i64).sz (.slice q0b q8 c_v4_0_4_0) q8 q9 :: ro ρ :: l)),
    Calls Try.prog 155 #[.int .i64 k0, .pointer (some ⟨q0c, 0, none⟩), .pointer (some ⟨q0d, 0, none⟩), .pointer (some ⟨q0e, 0, none⟩), .pointer (some ⟨q0l, 0, none⟩), .pointer (some ⟨q4, 0, none⟩)] w fun e w' => ∃ (q7 : List Value) (q5 : Option Addr) (q2 : Nat) (c_b_v4_0_4_0_ret : Nat) (q3 : List Value), e = .returned (.bool r.1) ∧ RepL (RpI .i64) ρ r.2.1 q7 ∧ RepL (RpI .i64) ρ r.2.2 q3 ∧ St w0 w' (cells q0c 22 [.slice q0a q6 c_v1_0] :: cells q0d 3 [.int .i64 q0o] :: cells q0e 81 [.int .i64 v3.Rows, .int .i64 v3.Cols, .int .i64 v3.Tracks, .slice q0f q0g c_v3_3, .slice q0h q0i c_v3_4, .slice q0j q0k c_v3_5] :: cells q4 22 [.slice q5 q2 c_b_v4_0_4_0_ret] :: cells q0l 147 [.func (.func 155) #[] #[.pointer (some ⟨q0c, 0, none⟩), .pointer (some ⟨q0d, 0, none⟩), .pointer (some ⟨q0e, 0, none⟩), .pointer (some ⟨q0l, 0, none⟩), .pointer (some ⟨q4, 0, none⟩)]] :: vec 3 (RpI .i64).sz (.slice q0a q6 c_v1_0) q6 q7 :: vec 3 (RpI .i64).sz (.slice q5 q2 c_b_v4_0_4_0_ret) q2 q3 :: ro ρ :: l)
  | 0 => by intros; rename_i hF _; cases (show none = some _ from by first | exact hF | assumption)
  | n + 1 => c_array_order_1_3_s (rcf P_array_order_1_3_B n) (c_array_order_1_3_n n)
theorem c_array_order_1_3 {w0 w : World} {l : List Assn} {ρ : Heap} {q0c : Nat} {q0a : Option Addr} {q6 : Nat} {c_v1_0 : Nat} {q0n : List Value} {q0d : Nat} {q0e : Nat} {q0f : Option Addr} {q0g : Nat} {c_v3_3 : Nat} {q0h : Option Addr} {q0i : Nat} {c_v3_4 : Nat} {q0j : Option Addr} {q0k : Nat} {c_v3_5 : Nat} {q0l : Nat} {q4 : Nat} {q0b : Option Addr} {q8 : Nat} {c_v4_0_4_0 : Nat} {q9 : List Value} {k0 : Int} {q0q : List Int} {q0p : Int} {v3 : T_array_Config} {q0m : List Int} {r : (Bool × List Int × List Int)} (hF : P_array_order_1_3 k0 q0q q0p v3 q0m = some r) (q0r : RepL (RpI .i64) ρ q0q q0n) (q0s : RdS R_array_Tile ρ q0f q0g c_v3_3 v3.Tiles) (q0t : RdS R_array_Pad ρ q0h q0i c_v3_4 v3.In) (q0u : RdS R_array_Pad ρ q0j q0k c_v3_5 v3.Out) (q0o : RepL (RpI .i64) ρ q0m q9) (hS : St w0 w (cells q0c 22 [.slice q0a q6 c_v1_0] :: vec 3 (RpI .i64).sz (.slice q0a q6 c_v1_0) q6 q0n :: cells q0d 3 [.int .i64 q0p] :: cells q0e 81 [.int .i64 v3.Rows, .int .i64 v3.Cols, .int .i64 v3.Tracks, .slice q0f q0g c_v3_3, .slice q0h q0i c_v3_4, .slice q0j q0k c_v3_5] :: cells q0l 147 [.func (.func 155) #[] #[.pointer (some ⟨q0c, 0, none⟩), .pointer (some ⟨q0d, 0, none⟩), .pointer (some ⟨q0e, 0, none⟩), .pointer (some ⟨q0l, 0, none⟩), .pointer (some ⟨q4, 0, none⟩)]] :: cells q4 22 [.slice q0b q8 c_v4_0_4_0] :: vec 3 (RpI .i64).sz (.slice q0b q8 c_v4_0_4_0) q8 q9 :: ro ρ :: l)) :
    Calls Try.prog 155 #[.int .i64 k0, .pointer (some ⟨q0c, 0, none⟩), .pointer (some ⟨q0d, 0, none⟩), .pointer (some ⟨q0e, 0, none⟩), .pointer (some ⟨q0l, 0, none⟩), .pointer (some ⟨q4, 0, none⟩)] w fun e w' => ∃ (q7 : List Value) (q5 : Option Addr) (q2 : Nat) (c_b_v4_0_4_0_ret : Nat) (q3 : List Value), e = .returned (.bool r.1) ∧ RepL (RpI .i64) ρ r.2.1 q7 ∧ RepL (RpI .i64) ρ r.2.2 q3 ∧ St w0 w' (cells q0c 22 [.slice q0a q6 c_v1_0] :: cells q0d 3 [.int .i64 q0p] :: cells q0e 81 [.int .i64 v3.Rows, .int .i64 v3.Cols, .int .i64 v3.Tracks, .slice q0f q0g c_v3_3, .slice q0h q0i c_v3_4, .slice q0j q0k c_v3_5] :: cells q4 22 [.slice q5 q2 c_b_v4_0_4_0_ret] :: cells q0l 147 [.func (.func 155) #[] #[.pointer (some ⟨q0c, 0, none⟩), .pointer (some ⟨q0d, 0, none⟩), .pointer (some ⟨q0e, 0, none⟩), .pointer (some ⟨q0l, 0, none⟩), .pointer (some ⟨q4, 0, none⟩)]] :: vec 3 (RpI .i64).sz (.slice q0a q6 c_v1_0) q6 q7 :: vec 3 (RpI .i64).sz (.slice q5 q2 c_b_v4_0_4_0_ret) q2 q3 :: ro ρ :: l) := c_array_order_1_3_n fuel hF q0r q0s q0t q0u q0o hS
attribute [irreducible] P_array_order_1_3

def P_array_order_L7 (c0 : T_array_Config) (x15 : Int) (q6 : List Int) : (Int × List Int × List Int) → Option ((Int × List Int × List Int) ⊕ (List Int ⊕ (List Int × Bool))) := fun (q2, q3, q4) =>
  if q2 < (q6.length : Int) then
    bd (P_array_order_1_3 q2 q4 x15 c0 q3) fun q5 =>
    if (!q5.1) = true then
      some (Sum.inr (Sum.inr ([], false)))
    else
      ar (q2 + 1) fun x32 =>
      some (Sum.inl (x32, q5.2.2, q5.2.1))
  else
    some (Sum.inr (Sum.inl q3))
def P_array_order (c0 : T_array_Config) : Option (List Int × Bool) :=
  ar ((c0.Tiles.length : Int) * 4) fun x12 =>
  ar (x12 * c0.Tracks) fun x15 =>
  ar (x15 + (c0.Tiles.length : Int)) fun x20 =>
  ck (mkOk 8 x20) <|
  lv ((List.replicate (x20 : Int).toNat 0 : List Int)) fun q3 =>
  bs (
    lp (P_array_order_L7 c0 x15 q3) fuel (0, [], q3)) (fun y => some y) fun q2 =>
  some (q2, true)
set_option maxHeartbeats 4000000 in
set_option maxRecDepth 100000 in
theorem c_array_order {w0 w : World} {l : List Assn} {ρ : Heap} {q0l : Option Addr} {q0y : Nat} {c_c0_3 : Nat} {q0m : Option Addr} {q0z : Nat} {c_c0_4 : Nat} {q0n : Option Addr} {q10 : Nat} {c_c0_5 : Nat} {c0 : T_array_Config} {r : (List Int × Bool)} (hF : P_array_order c0 = some r) (q11 : RdS R_array_Tile ρ q0l q0y c_c0_3 c0.Tiles) (q12 : RdS R_array_Pad ρ q0m q0z c_c0_4 c0.In) (q13 : RdS R_array_Pad ρ q0n q10 c_c0_5 c0.Out) (hS : St w0 w (ro ρ :: l)) :
    Calls Try.prog 132 #[.agg #[.int .i64 c0.Rows, .int .i64 c0.Cols, .int .i64 c0.Tracks, .slice q0l q0y c_c0_3, .slice q0m q0z c_c0_4, .slice q0n q10 c_c0_5]] w fun e w' => ∃ (q0t : Option Addr) (q0j : Nat) (c_y0_ret : Nat) (q0q : List Value), e = .returned (.tuple #[.slice q0t q0j c_y0_ret, .bool r.2]) ∧ RepL (RpI .i64) ρ r.1 q0q ∧ St w0 w' (vec 3 (RpI .i64).sz (.slice q0t q0j c_y0_ret) q0j q0q :: ro ρ :: l) := by
  have e_ := q11.n; subst e_
  have e_ := q12.n; subst e_
  have e_ := q13.n; subst e_
  refine enterC Try.func132 rfl 34 rfl (by simp) ?_
  refine x_seq <| x_region <|
    ?_
  refine o_box (cs := [.int .i64 c0.Rows, .int .i64 c0.Cols, .int .i64 c0.Tracks, .slice q0l c0.Tiles.length c_c0_3, .slice q0m c0.In.length c_c0_4, .slice q0n c0.Out.length c_c0_5]) rfl rfl hS (fun b1 w' hS => ?_)
  replace hF := ar_s hF; obtain ⟨x12, hx12, hF⟩ := hF
  replace hF := ar_s hF; obtain ⟨x15, hx15, hF⟩ := hF
  refine p (yl_assign rfl) <| p (yl_assign rfl) <| x_done <| x_seq <|
    x_region <| p (yl_field0 fld_81_3 rfl) <| pa (at_load one_78 rfl (hS.cell rfl)) <| p (yl_len_slice usl_78 rfl) <|
    p (ymul rfl rfl hx12) <| p (yl_field0 fld_81_2 rfl) <| pa (at_load one_3 rfl (hS.cell rfl)) <| p (ymul rfl rfl hx15) <|
    ?_
  refine o_alloc zero_3 hS (fun b4 w' hS => ?_)
  refine o_store1 (v := .int .i64 x15) one_3 rfl rfl rfl rfl hS (fun w' hS => ?_)
  replace hF := ar_s hF; obtain ⟨x20, hx20, hF⟩ := hF
  refine x_done <| x_seq <| x_region <| pa (at_load one_3 rfl (hS.cell rfl)) <|
    p (yl_field0 fld_81_3 rfl) <| pa (at_load one_78 rfl ((hS.pull 1).cell rfl)) <| p (yl_len_slice usl_78 rfl) <| p (yadd rfl rfl hx20) <|
    ?_
  replace hF := ck_s hF; obtain ⟨q16, hF⟩ := hF
  replace hF := lv_s hF; obtain ⟨q7, q17, hF⟩ := hF
  refine o_mk sl_22 zero_3 (show (RpI .i64).ok ρ _ 0 from rfl) rfl rfl q16 (by decide) q17 hS (fun A21 cs21 w' hr21 hS => ?_)
  refine o_alloc zero_22 hS (fun b5 w' hS => ?_)
  refine o_store1 (v := .slice A21 q7.length q7.length) one_22 rfl rfl rfl rfl hS (fun w' hS => ?_)
  refine x_done <| x_seq <| x_region <|
    ?_
  refine o_alloc zero_22 hS (fun b6 w' hS => ?_)
  refine x_done <| x_seq <| x_region <|
    ?_
  refine o_alloc zero_147 hS (fun b7 w' hS => ?_)
  refine x_done <| x_seq <| x_region <| p (v := .func (.func 155) #[] #[.pointer (some ⟨b5, 0, none⟩), .pointer (some ⟨b4, 0, none⟩), .pointer (some ⟨b1, 0, none⟩), .pointer (some ⟨b7, 0, none⟩), .pointer (some ⟨b6, 0, none⟩)]) (yl_makeFunc (by simp only [List.map_toArray, List.map_nil]) (by simp only [List.map_toArray, List.map_cons, List.map_nil]; rfl)) <|
    ?_
  refine o_store1 (v := .func (.func 155) #[] #[.pointer (some ⟨b5, 0, none⟩), .pointer (some ⟨b4, 0, none⟩), .pointer (some ⟨b1, 0, none⟩), .pointer (some ⟨b7, 0, none⟩), .pointer (some ⟨b6, 0, none⟩)]) one_147 rfl rfl rfl rfl hS (fun w' hS => ?_)
  refine x_done <| x_seq <| x_seq <| x_region <|
    pa (at_load one_22 rfl ((hS.pull 2).cell rfl)) <| p (yl_len_slice usl_22 rfl) <| p (yl_move rfl) <| x_done <|
    ?_
  replace hF := bs_s hF; obtain ⟨oL7, hLL7, hF⟩ := hF
  refine x_join (fun E w => ∃ (q9 : Option Addr) (q0a : Nat) (c_b6_0_L7 : Nat) (q4 : List Value) (q0g : List Int), (Sum.inl q0g) = oL7 ∧ E 6 = .pointer (some ⟨b6, 0, none⟩) ∧ RepL (RpI .i64) ρ q0g q4 ∧ St w0 w (cells b6 22 [.slice q9 q0a c_b6_0_L7] :: vec 3 (RpI .i64).sz (.slice q9 q0a c_b6_0_L7) q0a q4 :: ro ρ :: l)) ?_ ?_
  · skip -- L7
    refine x_block ?_
    replace hS := St.vec_nil hS 3 (RpI .i64).sz
    have q0o : RepL (RpI .i64) ρ [] [] := rfl
    refine x_loop (fun k_ E w => ∃ (q5 : Option Addr) (q6 : Nat) (c_b6_0_L7h : Nat) (q3 : List Value) (q0b : List Value) (q0h : Int) (q8 : List Int) (q0k : List Int), lp (P_array_order_L7 c0 x15 q7) k_ (q0h, q8, q0k) = some oL7 ∧ E 6 = .pointer (some ⟨b6, 0, none⟩) ∧ E 7 = .pointer (some ⟨b7, 0, none⟩) ∧ E 24 = .int .i64 (q7.length : Int) ∧ E 25 = .int .i64 q0h ∧ RepL (RpI .i64) ρ q8 q3 ∧ RepL (RpI .i64) ρ q0k q0b ∧ St w0 w (cells b6 22 [.slice q5 q6 c_b6_0_L7h] :: cells b7 147 [.func (.func 155) #[] #[.pointer (some ⟨b5, 0, none⟩), .pointer (some ⟨b4, 0, none⟩), .pointer (some ⟨b1, 0, none⟩), .pointer (some ⟨b7, 0, none⟩), .pointer (some ⟨b6, 0, none⟩)]] :: vec 3 (RpI .i64).sz (.slice q5 q6 c_b6_0_L7h) q6 q3 :: cells b5 22 [.slice A21 q7.length q7.length] :: cells b4 3 [.int .i64 x15] :: cells b1 81 [.int .i64 c0.Rows, .int .i64 c0.Cols, .int .i64 c0.Tracks, .slice q0l c0.Tiles.length c_c0_3, .slice q0m c0.In.length c_c0_4, .slice q0n c0.Out.length c_c0_5] :: vec 3 (RpI .i64).sz (.slice A21 q7.length q7.length) q7.length q0b :: ro ρ :: l)) fuel ⟨none, 0, 0, [], cs21, 0, [], q7, hLL7, rfl, rfl, rfl, rfl, q0o, hr21, ((((((((hS.pull 7).pull 5).pull 7).pull 7).pull 7).pull 5).pull 6).pull 7)⟩ ?_
    rintro kL7 E w ⟨q5, q6, c_b6_0_L7h, q3, q0b, q0h, q8, q0k, hLL7, q14, q15, q0u, q0p, q0d, q0v, hS⟩
    have e_ := St.vec_n (hS.pull 2) q0d; subst e_
    replace hLL7 := lp_s hLL7; obtain ⟨kL7, obL7, rfl, hFL7, hLL7⟩ := hLL7
    refine x_seq <| x_region <| p (yl_lss q0p q0u) <| x_done <|
      x_seq <|
      x_cond_p (q0h < (q7.length : Int)) rfl (fun hc26 => ?_) (fun hc26 => ?_)
    · replace hFL7 := it_t hc26 hFL7
      replace hFL7 := bd_s hFL7; obtain ⟨q0w, q18, hFL7⟩ := hFL7
      refine x_skip <| x_seq <| x_block <| x_seq <|
        x_region <| p (yl_move q0p) <| p (yl_assign rfl) <| x_done <|
        x_seq <| x_region <| pa (at_load one_147 q15 ((hS.pull 1).cell rfl)) <| p (yl_move rfl) <|
        ?_
      have hcall := c_array_order_1_3 q18 q0v q11 q12 q13 q0d ((((((((hS.pull 7).pull 3).pull 2).pull 3).pull 6).pull 6).pull 7).pull 7)
      refine o_ccv rfl call_155 (capargs (args1 rfl)) hcall ?_
      rintro e w' ⟨q0f, q0e, q0x, c_b_v4_0_4_0_ret_9_2, q0c, rfl, q0i, q2, hS⟩
      refine ⟨_, rfl, ?_⟩
      have e_ := St.vec_n (hS.pull 6) q2; subst e_
      refine p (yl_not rfl) <| x_done <|
        x_cond (t := !q0w.1) rfl (fun hc31 => ?_) (fun hc31 => ?_)
      · replace hFL7 := it_t hc31 hFL7
        refine x_seq <| x_region <| p (yl_assign rfl) <| p (yl_assign rfl) <|
          x_done <|
          ?_
        replace hS := St.vec_nil hS 3 (RpI .i64).sz
        have q0s : RepL (RpI .i64) ρ [] [] := rfl
        have e_ := Option.some.inj (show some _ = some _ from hFL7); subst e_
        have e_ := (show _ = oL7 from hLL7); subst e_
        have e_ := Option.some.inj (show some _ = some _ from hF); subst e_
        exact x_return ⟨_, ⟨_, _, rfl, rfl, _, _, rfl, rfl, rfl⟩, none, 0, 0, [], rfl, q0s, (((((((((hS.pull 1).drop.pull 1).drop.pull 1).drop.pull 1).drop.pull 1).drop.pull 1).drop.pull 1).drop.pull 1).pull 1)⟩
      · replace hFL7 := it_bf hc31 hFL7
        replace hFL7 := ar_s hFL7; obtain ⟨x32, hx32, hFL7⟩ := hFL7
        refine x_skip <| x_blk <| x_region <| p (yadd q0p rfl hx32) <|
          p (yl_move rfl) <| x_done <|
          ?_
        have e_ := Option.some.inj (show some _ = some _ from hFL7); subst e_
        exact x_inv ⟨kL7, Nat.lt_succ_self _, q0e, q0w.2.2.length, c_b_v4_0_4_0_ret_9_2, q0c, q0f, x32, q0w.2.2, q0w.2.1, hLL7, q14, q15, q0u, rfl, q2, q0i, ((((((((hS.pull 7).pull 6).pull 4).pull 4).pull 4).pull 7).pull 7).pull 7)⟩
    · replace hFL7 := it_f hc26 hFL7
      refine x_exitTo _ rfl <|
        ?_
      have e_ := Option.some.inj (show some _ = some _ from hFL7); subst e_
      exact x_inv ⟨q5, q8.length, c_b6_0_L7h, q3, q8, hLL7, q14, q0d, ((((((((hS.pull 1).drop.pull 2).drop.pull 2).drop.pull 2).drop.pull 2).drop.pull 2).pull 2).pull 2)⟩
  rintro E w ⟨q9, q0a, c_b6_0_L7, q4, q0g, rfl, q19, q0r, hS⟩
  have e_ := St.vec_n (hS.pull 1) q0r; subst e_
  refine x_seq <| x_region <| pa (at_load one_22 q19 (hS.cell rfl)) <| p (yl_assign rfl) <|
    p (yl_assign rfl) <| x_done <|
    ?_
  have e_ := Option.some.inj (show some _ = some _ from hF); subst e_
  exact x_return ⟨_, ⟨_, _, rfl, rfl, _, _, rfl, rfl, rfl⟩, q9, q0g.length, c_b6_0_L7, q4, rfl, q0r, ((hS.drop.pull 1).pull 1)⟩
attribute [irreducible] P_array_order

def P_array_Check_L24u4 (q3 : T_array_Tile) : Int → Option (Int ⊕ (Unit ⊕ Int)) := fun q2 =>
  if q2 < (q3.Out.fe0.length : Int) then
    ck (inb q2 q3.Out.fe0.length) <|
    lv (gt q3.Out.fe0 q2) fun x84u4 =>
    bd (P_array_within x84u4 0 6) fun q4 =>
    lv ((!q4) || (decide (x84u4 = 3))) fun x93u4 =>
    if x93u4 = true then
      some (Sum.inr (Sum.inr (2 : Int)))
    else
      ar (q2 + 1) fun x94u4 =>
      some (Sum.inl x94u4)
  else
    some (Sum.inr (Sum.inl ()))
def P_array_Check_L24u3 (q3 : T_array_Tile) : Int → Option (Int ⊕ (Unit ⊕ Int)) := fun q2 =>
  if q2 < (q3.Out.fe1.length : Int) then
    ck (inb q2 q3.Out.fe1.length) <|
    lv (gt q3.Out.fe1 q2) fun x84u3 =>
    bd (P_array_within x84u3 0 6) fun q4 =>
    lv ((!q4) || (decide (x84u3 = 4))) fun x93u3 =>
    if x93u3 = true then
      some (Sum.inr (Sum.inr (2 : Int)))
    else
      ar (q2 + 1) fun x94u3 =>
      some (Sum.inl x94u3)
  else
    some (Sum.inr (Sum.inl ()))
def P_array_Check_L24u2 (q3 : T_array_Tile) : Int → Option (Int ⊕ (Unit ⊕ Int)) := fun q2 =>
  if q2 < (q3.Out.fe2.length : Int) then
    ck (inb q2 q3.Out.fe2.length) <|
    lv (gt q3.Out.fe2 q2) fun x84u2 =>
    bd (P_array_within x84u2 0 6) fun q4 =>
    lv ((!q4) || (decide (x84u2 = 5))) fun x93u2 =>
    if x93u2 = true then
      some (Sum.inr (Sum.inr (2 : Int)))
    else
      ar (q2 + 1) fun x94u2 =>
      some (Sum.inl x94u2)
  else
    some (Sum.inr (Sum.inl ()))
def P_array_Check_L24u1 (q3 : T_array_Tile) : Int → Option (Int ⊕ (Unit ⊕ Int)) := fun q2 =>
  if q2 < (q3.Out.fe3.length : Int) then
    ck (inb q2 q3.Out.fe3.length) <|
    lv (gt q3.Out.fe3 q2) fun x84u1 =>
    bd (P_array_within x84u1 0 6) fun q4 =>
    lv ((!q4) || (decide (x84u1 = 6))) fun x93u1 =>
    if x93u1 = true then
      some (Sum.inr (Sum.inr (2 : Int)))
    else
      ar (q2 + 1) fun x94u1 =>
      some (Sum.inl x94u1)
  else
    some (Sum.inr (Sum.inl ()))
def P_array_Check_L6 (c0 : T_array_Config) : Int → Option (Int ⊕ (Unit ⊕ Int)) := fun q3 =>
  if q3 < (c0.Tiles.length : Int) then
    ck (inb q3 c0.Tiles.length) <|
    lv (gt c0.Tiles q3) fun q2 =>
    if (q2.Out.fe0.length : Int) ≠ c0.Tracks then
      some (Sum.inr (Sum.inr (4 : Int)))
    else
      if (q2.Out.fe1.length : Int) ≠ c0.Tracks then
        some (Sum.inr (Sum.inr (4 : Int)))
      else
        if (q2.Out.fe2.length : Int) ≠ c0.Tracks then
          some (Sum.inr (Sum.inr (4 : Int)))
        else
          if (q2.Out.fe3.length : Int) ≠ c0.Tracks then
            some (Sum.inr (Sum.inr (4 : Int)))
          else
            ar ((4 : Int) * c0.Tracks) fun x68u4 =>
            ar ((1 : Int) + x68u4) fun x69u4 =>
            bd (P_array_within q2.In.fe0 0 x69u4) fun q4 =>
            if (!q4) = true then
              some (Sum.inr (Sum.inr (2 : Int)))
            else
              ar ((4 : Int) * c0.Tracks) fun x68u3 =>
              ar ((1 : Int) + x68u3) fun x69u3 =>
              bd (P_array_within q2.In.fe1 0 x69u3) fun q5 =>
              if (!q5) = true then
                some (Sum.inr (Sum.inr (2 : Int)))
              else
                ar ((4 : Int) * c0.Tracks) fun x68u2 =>
                ar ((1 : Int) + x68u2) fun x69u2 =>
                bd (P_array_within q2.In.fe2 0 x69u2) fun q6 =>
                if (!q6) = true then
                  some (Sum.inr (Sum.inr (2 : Int)))
                else
                  ar ((4 : Int) * c0.Tracks) fun x68u1 =>
                  ar ((1 : Int) + x68u1) fun x69u1 =>
                  bd (P_array_within q2.In.fe3 0 x69u1) fun q7 =>
                  if (!q7) = true then
                    some (Sum.inr (Sum.inr (2 : Int)))
                  else
                    bs (
                      lp (P_array_Check_L24u4 q2) fuel 0) (fun y => some (Sum.inr (Sum.inr y))) fun _ =>
                    bs (
                      lp (P_array_Check_L24u3 q2) fuel 0) (fun y => some (Sum.inr (Sum.inr y))) fun _ =>
                    bs (
                      lp (P_array_Check_L24u2 q2) fuel 0) (fun y => some (Sum.inr (Sum.inr y))) fun _ =>
                    bs (
                      lp (P_array_Check_L24u1 q2) fuel 0) (fun y => some (Sum.inr (Sum.inr y))) fun _ =>
                    ar (q3 + 1) fun x96 =>
                    some (Sum.inl x96)
  else
    some (Sum.inr (Sum.inl ()))
def P_array_Check (c0 : T_array_Config) : Option Int :=
  bd (P_array_within c0.Rows 1 16) fun q4 =>
  bd (gd (!(!q4)) (P_array_within c0.Cols 1 16)) fun q7 =>
  lv ((!q4) || (!q7)) fun x26 =>
  bd (gd (!x26) (P_array_within c0.Tracks 2 8)) fun q5 =>
  lv (x26 || (!q5)) fun x32 =>
  if x32 = true then
    some (2 : Int)
  else
    ar (c0.Rows * c0.Cols) fun x40 =>
    if (c0.Tiles.length : Int) ≠ x40 then
      some (4 : Int)
    else
      bs (
        lp (P_array_Check_L6 c0) fuel 0) (fun y => some y) fun _ =>
      lv ((decide (128 < (c0.In.length : Int))) || (decide (128 < (c0.Out.length : Int)))) fun x106 =>
      if x106 = true then
        some (3 : Int)
      else
        bd (P_array_pads c0 c0.In) fun q2 =>
        if q2 ≠ 0 then
          some q2
        else
          bd (P_array_pads c0 c0.Out) fun q3 =>
          if q3 ≠ 0 then
            some q3
          else
            bd (P_array_order c0) fun q6 =>
            if (!q6.2) = true then
              some (17 : Int)
            else
              some (0 : Int)
set_option maxHeartbeats 4000000 in
set_option maxRecDepth 100000 in
theorem c_array_Check {w0 w : World} {l : List Assn} {ρ : Heap} {q3 : Option Addr} {q2e : Nat} {c_c0_3 : Nat} {q5 : Option Addr} {q2f : Nat} {c_c0_4 : Nat} {q4 : Option Addr} {q2g : Nat} {c_c0_5 : Nat} {c0 : T_array_Config} {r : Int} (hF : P_array_Check c0 = some r) (q0k : RdS R_array_Tile ρ q3 q2e c_c0_3 c0.Tiles) (q0q : RdS R_array_Pad ρ q5 q2f c_c0_4 c0.In) (q0r : RdS R_array_Pad ρ q4 q2g c_c0_5 c0.Out) (hS : St w0 w (ro ρ :: l)) :
    Calls Try.prog 87 #[.agg #[.int .i64 c0.Rows, .int .i64 c0.Cols, .int .i64 c0.Tracks, .slice q3 q2e c_c0_3, .slice q5 q2f c_c0_4, .slice q4 q2g c_c0_5]] w fun e w' => e = .returned (.int .i64 r) ∧ St w0 w' (ro ρ :: l) := by
  have e_ := q0k.n; subst e_
  have e_ := q0q.n; subst e_
  have e_ := q0r.n; subst e_
  refine enterC Try.func87 rfl 128 rfl (by simp) ?_
  refine x_seq <| x_region <|
    ?_
  refine o_box (cs := [.int .i64 c0.Rows, .int .i64 c0.Cols, .int .i64 c0.Tracks, .slice q3 c0.Tiles.length c_c0_3, .slice q5 c0.In.length c_c0_4, .slice q4 c0.Out.length c_c0_5]) rfl rfl hS (fun b1 w' hS => ?_)
  replace hF := bd_s hF; obtain ⟨q2d, q3o, hF⟩ := hF
  refine p (yl_assign rfl) <| x_done <| x_seq <| x_seq <|
    x_region <| p (yl_field0 fld_81_0 rfl) <| pa (at_load one_3 rfl (hS.cell rfl)) <|
    ?_
  have hcall := c_array_within q3o  (hS.pull 1)
  refine o_cc call_130 (args3 rfl rfl rfl) ((Calls.mono hcall (fun e w'' h => And.intro h.1 (h.2.pull 1)))) ?_
  rintro e w' ⟨rfl, hS⟩
  refine ⟨_, rfl, ?_⟩
  replace hF := bd_s hF; obtain ⟨q3j, q3p, hF⟩ := hF
  refine p (yl_not rfl) <| p (yl_move rfl) <| pg (v := .pointer (some ⟨b1, 1, none⟩)) 21 (c := !(!q2d)) (says_f _) (fun hq => Yl.at (yl_field0 fld_81_1 rfl)) <| pg (v := .int .i64 c0.Cols) 21 (c := !(!q2d)) (says_f _) (fun hq => at_load one_3 (cv hq) (hS.cell rfl)) <|
    pccg (v := .bool q3j) 21 (c := !(!q2d)) (says_f _) call_130 (fun hq => (args3 (cv hq) rfl rfl)) hS (fun hq => by
      have hcall := c_array_within (gd_t q3p hq)  (hS.pull 1)
      exact (Calls.mono hcall (fun e w'' h => And.intro h.1 (h.2.pull 1)))) (fun w' hS => ?_)
  replace hF := lv_s hF; obtain ⟨x26, hx26, hF⟩ := hF
  replace hF := bd_s hF; obtain ⟨q39, q3k, hF⟩ := hF
  refine pg (v := .bool (!q3j)) 21 (c := !(!q2d)) (says_f _) (fun hq => Yl.at (yl_not (cv hq))) <| p (yor' rfl rfl (fun hc => (cv (t_not hc))) hx26) <| p (yl_move rfl) <| pg (v := .pointer (some ⟨b1, 2, none⟩)) 27 (c := !x26) (says_f _) (fun hq => Yl.at (yl_field0 fld_81_2 rfl)) <|
    pg (v := .int .i64 c0.Tracks) 27 (c := !x26) (says_f _) (fun hq => at_load one_3 (cv hq) (hS.cell rfl)) <|
    pccg (v := .bool q39) 27 (c := !x26) (says_f _) call_130 (fun hq => (args3 (cv hq) rfl rfl)) hS (fun hq => by
      have hcall := c_array_within (gd_t q3k hq)  (hS.pull 1)
      exact (Calls.mono hcall (fun e w'' h => And.intro h.1 (h.2.pull 1)))) (fun w' hS => ?_)
  replace hF := lv_s hF; obtain ⟨x32, hx32, hF⟩ := hF
  refine pg (v := .bool (!q39)) 27 (c := !x26) (says_f _) (fun hq => Yl.at (yl_not (cv hq))) <| p (yor' rfl rfl (fun hc => (cv (t_not hc))) hx32) <| x_done <|
    x_cond (t := x32) rfl (fun hc32 => ?_) (fun hc32 => ?_)
  · replace hF := it_t hc32 hF
    refine x_seq <| x_region <| p (yl_assign rfl) <| x_done <|
      ?_
    have e_ := Option.some.inj (show some _ = some _ from hF); subst e_
    exact x_return ⟨_, ⟨_, _, rfl, rfl, rfl⟩, rfl, hS.drop⟩
  · replace hF := it_bf hc32 hF
    replace hF := ar_s hF; obtain ⟨x40, hx40, hF⟩ := hF
    refine x_skip <| x_seq <| x_seq <| x_region <|
      p (yl_field0 fld_81_3 rfl) <| pa (at_load one_78 rfl (hS.cell rfl)) <| p (yl_len_slice usl_78 rfl) <| p (yl_field0 fld_81_0 rfl) <|
      pa (at_load one_3 rfl (hS.cell rfl)) <| p (yl_field0 fld_81_1 rfl) <| pa (at_load one_3 rfl (hS.cell rfl)) <| p (ymul rfl rfl hx40) <|
      p (yl_neq rfl rfl) <| x_done <|
      x_cond_p ((c0.Tiles.length : Int) ≠ x40) rfl (fun hc41 => ?_) (fun hc41 => ?_)
    · replace hF := it_t hc41 hF
      refine x_seq <| x_region <| p (yl_assign rfl) <| x_done <|
        ?_
      have e_ := Option.some.inj (show some _ = some _ from hF); subst e_
      exact x_return ⟨_, ⟨_, _, rfl, rfl, rfl⟩, rfl, hS.drop⟩
    · replace hF := it_f hc41 hF
      refine x_skip <| x_seq <| x_seq <| x_region <|
        p (yl_field0 fld_81_3 rfl) <| pa (at_load one_78 rfl (hS.cell rfl)) <| p (yl_len_slice usl_78 rfl) <| p (yl_move rfl) <|
        x_done <|
        ?_
      replace hF := bs_s hF; obtain ⟨oL6, hLL6, hF⟩ := hF
      refine x_join (fun E w => (Sum.inl (())) = oL6 ∧ E 1 = .pointer (some ⟨b1, 0, none⟩) ∧ St w0 w (cells b1 81 [.int .i64 c0.Rows, .int .i64 c0.Cols, .int .i64 c0.Tracks, .slice q3 c0.Tiles.length c_c0_3, .slice q5 c0.In.length c_c0_4, .slice q4 c0.Out.length c_c0_5] :: ro ρ :: l)) ?_ ?_
      · skip -- L6
        refine x_block ?_
        refine x_loop (fun k_ E w => ∃ (q0e : Int), lp (P_array_Check_L6 c0) k_ q0e = some oL6 ∧ E 1 = .pointer (some ⟨b1, 0, none⟩) ∧ E 43 = .slice q3 c0.Tiles.length c_c0_3 ∧ E 44 = .int .i64 (c0.Tiles.length : Int) ∧ E 45 = .int .i64 q0e ∧ St w0 w (cells b1 81 [.int .i64 c0.Rows, .int .i64 c0.Cols, .int .i64 c0.Tracks, .slice q3 c0.Tiles.length c_c0_3, .slice q5 c0.In.length c_c0_4, .slice q4 c0.Out.length c_c0_5] :: ro ρ :: l)) fuel ⟨0, hLL6, rfl, rfl, rfl, rfl, ((hS.pull 1).pull 1)⟩ ?_
        rintro kL6 E w ⟨q0e, hLL6, q0f, q2b, q2c, q1q, hS⟩
        replace hLL6 := lp_s hLL6; obtain ⟨kL6, obL6, rfl, hFL6, hLL6⟩ := hLL6
        refine x_seq <| x_region <| p (yl_lss q1q q2c) <| x_done <|
          x_seq <|
          x_cond_p (q0e < (c0.Tiles.length : Int)) rfl (fun hc46 => ?_) (fun hc46 => ?_)
        · replace hFL6 := it_t hc46 hFL6
          replace hFL6 := ck_s hFL6; obtain ⟨q3a, hFL6⟩ := hFL6
          replace hFL6 := lv_s hFL6; obtain ⟨q2, q3q, hFL6⟩ := hFL6
          have q_ := q0k.get q3a; obtain ⟨q3y, q3b, q3r⟩ := q_
          rw [← q3q] at q3b
          obtain ⟨q6, q3u, q7, q8, q3v, q9, q0a, q3w, q0b, q0c, q3x, q0d, rfl, q23, q24, q25, q26⟩ := q3b
          have e_ := q23.n; subst e_
          have e_ := q24.n; subst e_
          have e_ := q25.n; subst e_
          have e_ := q26.n; subst e_
          refine x_skip <| x_seq <| x_block <| x_seq <|
            x_region <| p (yix_f sl_78 q2b q1q q0k q3a) <| pa (v := .agg #[.int .u16 q2.Table, .bool q2.Init, .int .i64 q2.In.fe0, .int .i64 q2.In.fe1, .int .i64 q2.In.fe2, .int .i64 q2.In.fe3, .slice q6 q2.Out.fe0.length q7, .slice q8 q2.Out.fe1.length q9, .slice q0a q2.Out.fe2.length q0b, .slice q0c q2.Out.fe3.length q0d]) (at_loadAgg agg_183 rfl rfl (Elt.every q3r (hS.pull 1))) <|
            ?_
          refine o_alloc zero_183 hS (fun b4 w' hS => ?_)
          refine o_storeAgg (news := [.int .u16 q2.Table, .bool q2.Init, .int .i64 q2.In.fe0, .int .i64 q2.In.fe1, .int .i64 q2.In.fe2, .int .i64 q2.In.fe3, .slice q6 q2.Out.fe0.length q7, .slice q8 q2.Out.fe1.length q9, .slice q0a q2.Out.fe2.length q0b, .slice q0c q2.Out.fe3.length q0d]) agg_183 rfl rfl rfl (by simp [over_length]) hS (fun w' hS => ?_)
          refine x_done <| x_seq <| x_seq <| x_region <|
            p (yl_field0 fld_183_3 rfl) <| pa (v := .agg #[.slice q6 q2.Out.fe0.length q7, .slice q8 q2.Out.fe1.length q9, .slice q0a q2.Out.fe2.length q0b, .slice q0c q2.Out.fe3.length q0d]) (ld_sub agg_181 rfl rfl rfl hS) <| p (yl_move rfl) <| x_done <|
            x_block <| x_unroll 4 <| x_seq <| x_region <|
            p (ylss_l (t := true) rfl rfl (by decide)) <| x_done <| x_seq <| x_cond_t (show ev _ _ = .bool true from rfl) <|
            x_skip <| x_seq <| x_block <| x_seq <|
            x_region <| p (yl_ixv (x := .tmp 50) (y := .tmp 51) (v := .slice q6 q2.Out.fe0.length q7) arr_181 one_22 rfl rfl (by decide) rfl) <| p (yl_assign rfl) <| x_done <|
            x_seq <| x_region <| p (yl_move rfl) <| p (yl_len_slice usl_22 rfl) <|
            p (yl_field0 fld_81_2 q0f) <| pa (at_load one_3 rfl ((hS.pull 1).cell rfl)) <| p (yl_neq rfl rfl) <| x_done <|
            x_cond_p ((q2.Out.fe0.length : Int) ≠ c0.Tracks) rfl (fun hc58u4 => ?_) (fun hc58u4 => ?_)
          · replace hFL6 := it_t hc58u4 hFL6
            refine x_seq <| x_region <| p (yl_assign rfl) <| x_done <|
              ?_
            have e_ := Option.some.inj (show some _ = some _ from hFL6); subst e_
            have e_ := (show _ = oL6 from hLL6); subst e_
            have e_ := Option.some.inj (show some _ = some _ from hF); subst e_
            exact x_return ⟨_, ⟨_, _, rfl, rfl, rfl⟩, rfl, hS.drop.drop⟩
          · replace hFL6 := it_f hc58u4 hFL6
            refine x_skip <| x_blk <| x_region <| p (yadd (c := 1) rfl rfl ⟨rfl, by decide⟩) <|
              p (yl_move rfl) <| x_done <| x_un 3 <| x_seq <|
              x_region <| p (ylss_l (t := true) rfl rfl (by decide)) <| x_done <| x_seq <|
              x_cond_t (show ev _ _ = .bool true from rfl) <| x_skip <| x_seq <| x_block <|
              x_seq <| x_region <| p (yl_ixv (x := .tmp 50) (y := .tmp 51) (v := .slice q8 q2.Out.fe1.length q9) arr_181 one_22 rfl rfl (by decide) rfl) <| p (yl_assign rfl) <|
              x_done <| x_seq <| x_region <| p (yl_move rfl) <|
              p (yl_len_slice usl_22 rfl) <| p (yl_field0 fld_81_2 q0f) <| pa (at_load one_3 rfl ((hS.pull 1).cell rfl)) <| p (yl_neq rfl rfl) <|
              x_done <|
              x_cond_p ((q2.Out.fe1.length : Int) ≠ c0.Tracks) rfl (fun hc58u3 => ?_) (fun hc58u3 => ?_)
            · replace hFL6 := it_t hc58u3 hFL6
              refine x_seq <| x_region <| p (yl_assign rfl) <| x_done <|
                ?_
              have e_ := Option.some.inj (show some _ = some _ from hFL6); subst e_
              have e_ := (show _ = oL6 from hLL6); subst e_
              have e_ := Option.some.inj (show some _ = some _ from hF); subst e_
              exact x_return ⟨_, ⟨_, _, rfl, rfl, rfl⟩, rfl, hS.drop.drop⟩
            · replace hFL6 := it_f hc58u3 hFL6
              refine x_skip <| x_blk <| x_region <| p (yadd (c := 2) rfl rfl ⟨rfl, by decide⟩) <|
                p (yl_move rfl) <| x_done <| x_un 2 <| x_seq <|
                x_region <| p (ylss_l (t := true) rfl rfl (by decide)) <| x_done <| x_seq <|
                x_cond_t (show ev _ _ = .bool true from rfl) <| x_skip <| x_seq <| x_block <|
                x_seq <| x_region <| p (yl_ixv (x := .tmp 50) (y := .tmp 51) (v := .slice q0a q2.Out.fe2.length q0b) arr_181 one_22 rfl rfl (by decide) rfl) <| p (yl_assign rfl) <|
                x_done <| x_seq <| x_region <| p (yl_move rfl) <|
                p (yl_len_slice usl_22 rfl) <| p (yl_field0 fld_81_2 q0f) <| pa (at_load one_3 rfl ((hS.pull 1).cell rfl)) <| p (yl_neq rfl rfl) <|
                x_done <|
                x_cond_p ((q2.Out.fe2.length : Int) ≠ c0.Tracks) rfl (fun hc58u2 => ?_) (fun hc58u2 => ?_)
              · replace hFL6 := it_t hc58u2 hFL6
                refine x_seq <| x_region <| p (yl_assign rfl) <| x_done <|
                  ?_
                have e_ := Option.some.inj (show some _ = some _ from hFL6); subst e_
                have e_ := (show _ = oL6 from hLL6); subst e_
                have e_ := Option.some.inj (show some _ = some _ from hF); subst e_
                exact x_return ⟨_, ⟨_, _, rfl, rfl, rfl⟩, rfl, hS.drop.drop⟩
              · replace hFL6 := it_f hc58u2 hFL6
                refine x_skip <| x_blk <| x_region <| p (yadd (c := 3) rfl rfl ⟨rfl, by decide⟩) <|
                  p (yl_move rfl) <| x_done <| x_un 1 <| x_seq <|
                  x_region <| p (ylss_l (t := true) rfl rfl (by decide)) <| x_done <| x_seq <|
                  x_cond_t (show ev _ _ = .bool true from rfl) <| x_skip <| x_seq <| x_block <|
                  x_seq <| x_region <| p (yl_ixv (x := .tmp 50) (y := .tmp 51) (v := .slice q0c q2.Out.fe3.length q0d) arr_181 one_22 rfl rfl (by decide) rfl) <| p (yl_assign rfl) <|
                  x_done <| x_seq <| x_region <| p (yl_move rfl) <|
                  p (yl_len_slice usl_22 rfl) <| p (yl_field0 fld_81_2 q0f) <| pa (at_load one_3 rfl ((hS.pull 1).cell rfl)) <| p (yl_neq rfl rfl) <|
                  x_done <|
                  x_cond_p ((q2.Out.fe3.length : Int) ≠ c0.Tracks) rfl (fun hc58u1 => ?_) (fun hc58u1 => ?_)
                · replace hFL6 := it_t hc58u1 hFL6
                  refine x_seq <| x_region <| p (yl_assign rfl) <| x_done <|
                    ?_
                  have e_ := Option.some.inj (show some _ = some _ from hFL6); subst e_
                  have e_ := (show _ = oL6 from hLL6); subst e_
                  have e_ := Option.some.inj (show some _ = some _ from hF); subst e_
                  exact x_return ⟨_, ⟨_, _, rfl, rfl, rfl⟩, rfl, hS.drop.drop⟩
                · replace hFL6 := it_f hc58u1 hFL6
                  replace hFL6 := ar_s hFL6; obtain ⟨x68u4, hx68u4, hFL6⟩ := hFL6
                  replace hFL6 := ar_s hFL6; obtain ⟨x69u4, hx69u4, hFL6⟩ := hFL6
                  replace hFL6 := bd_s hFL6; obtain ⟨q3c, q2x, hFL6⟩ := hFL6
                  refine x_skip <| x_blk <| x_region <| p (yadd (c := 4) rfl rfl ⟨rfl, by decide⟩) <|
                    p (yl_move rfl) <| x_done <| x_un 0 <| x_seq <|
                    x_region <| p (ylss_l (t := false) rfl rfl (by decide)) <| x_done <| x_seq <|
                    x_cond_f (show ev _ _ = .bool false from rfl) <| x_exitTo _ rfl <| x_seq <| x_seq <|
                    x_region <| p (yl_field0 fld_183_2 rfl) <| pa (v := .agg #[.int .i64 q2.In.fe0, .int .i64 q2.In.fe1, .int .i64 q2.In.fe2, .int .i64 q2.In.fe3]) (ld_sub agg_180 rfl rfl rfl hS) <| p (yl_move rfl) <|
                    x_done <| x_block <| x_unroll 4 <| x_seq <|
                    x_region <| p (ylss_l (t := true) rfl rfl (by decide)) <| x_done <| x_seq <|
                    x_cond_t (show ev _ _ = .bool true from rfl) <| x_skip <| x_seq <| x_block <|
                    x_seq <| x_region <| p (yl_ixv (x := .tmp 61) (y := .tmp 62) (v := .int .i64 q2.In.fe0) arr_180 one_3 rfl rfl (by decide) rfl) <| p (yl_assign rfl) <|
                    x_done <| x_seq <| x_region <| p (yl_move rfl) <|
                    p (yl_field0 fld_81_2 q0f) <| pa (at_load one_3 rfl ((hS.pull 1).cell rfl)) <| p (ymul rfl rfl hx68u4) <| p (yadd rfl rfl hx69u4) <|
                    ?_
                  have hcall := c_array_within q2x  (hS.pull 2)
                  refine o_cc call_130 (args3 rfl rfl rfl) ((Calls.mono hcall (fun e w'' h => And.intro h.1 ((h.2.pull 2).pull 2)))) ?_
                  rintro e w' ⟨rfl, hS⟩
                  refine ⟨_, rfl, ?_⟩
                  refine p (yl_not rfl) <| x_done <|
                    x_cond (t := !q3c) rfl (fun hc71u4 => ?_) (fun hc71u4 => ?_)
                  · replace hFL6 := it_t hc71u4 hFL6
                    refine x_seq <| x_region <| p (yl_assign rfl) <| x_done <|
                      ?_
                    have e_ := Option.some.inj (show some _ = some _ from hFL6); subst e_
                    have e_ := (show _ = oL6 from hLL6); subst e_
                    have e_ := Option.some.inj (show some _ = some _ from hF); subst e_
                    exact x_return ⟨_, ⟨_, _, rfl, rfl, rfl⟩, rfl, hS.drop.drop⟩
                  · replace hFL6 := it_bf hc71u4 hFL6
                    replace hFL6 := ar_s hFL6; obtain ⟨x68u3, hx68u3, hFL6⟩ := hFL6
                    replace hFL6 := ar_s hFL6; obtain ⟨x69u3, hx69u3, hFL6⟩ := hFL6
                    replace hFL6 := bd_s hFL6; obtain ⟨q3d, q2y, hFL6⟩ := hFL6
                    refine x_skip <| x_blk <| x_region <| p (yadd (c := 1) rfl rfl ⟨rfl, by decide⟩) <|
                      p (yl_move rfl) <| x_done <| x_un 3 <| x_seq <|
                      x_region <| p (ylss_l (t := true) rfl rfl (by decide)) <| x_done <| x_seq <|
                      x_cond_t (show ev _ _ = .bool true from rfl) <| x_skip <| x_seq <| x_block <|
                      x_seq <| x_region <| p (yl_ixv (x := .tmp 61) (y := .tmp 62) (v := .int .i64 q2.In.fe1) arr_180 one_3 rfl rfl (by decide) rfl) <| p (yl_assign rfl) <|
                      x_done <| x_seq <| x_region <| p (yl_move rfl) <|
                      p (yl_field0 fld_81_2 q0f) <| pa (at_load one_3 rfl ((hS.pull 1).cell rfl)) <| p (ymul rfl rfl hx68u3) <| p (yadd rfl rfl hx69u3) <|
                      ?_
                    have hcall := c_array_within q2y  (hS.pull 2)
                    refine o_cc call_130 (args3 rfl rfl rfl) ((Calls.mono hcall (fun e w'' h => And.intro h.1 ((h.2.pull 2).pull 2)))) ?_
                    rintro e w' ⟨rfl, hS⟩
                    refine ⟨_, rfl, ?_⟩
                    refine p (yl_not rfl) <| x_done <|
                      x_cond (t := !q3d) rfl (fun hc71u3 => ?_) (fun hc71u3 => ?_)
                    · replace hFL6 := it_t hc71u3 hFL6
                      refine x_seq <| x_region <| p (yl_assign rfl) <| x_done <|
                        ?_
                      have e_ := Option.some.inj (show some _ = some _ from hFL6); subst e_
                      have e_ := (show _ = oL6 from hLL6); subst e_
                      have e_ := Option.some.inj (show some _ = some _ from hF); subst e_
                      exact x_return ⟨_, ⟨_, _, rfl, rfl, rfl⟩, rfl, hS.drop.drop⟩
                    · replace hFL6 := it_bf hc71u3 hFL6
                      replace hFL6 := ar_s hFL6; obtain ⟨x68u2, hx68u2, hFL6⟩ := hFL6
                      replace hFL6 := ar_s hFL6; obtain ⟨x69u2, hx69u2, hFL6⟩ := hFL6
                      replace hFL6 := bd_s hFL6; obtain ⟨q3e, q2z, hFL6⟩ := hFL6
                      refine x_skip <| x_blk <| x_region <| p (yadd (c := 2) rfl rfl ⟨rfl, by decide⟩) <|
                        p (yl_move rfl) <| x_done <| x_un 2 <| x_seq <|
                        x_region <| p (ylss_l (t := true) rfl rfl (by decide)) <| x_done <| x_seq <|
                        x_cond_t (show ev _ _ = .bool true from rfl) <| x_skip <| x_seq <| x_block <|
                        x_seq <| x_region <| p (yl_ixv (x := .tmp 61) (y := .tmp 62) (v := .int .i64 q2.In.fe2) arr_180 one_3 rfl rfl (by decide) rfl) <| p (yl_assign rfl) <|
                        x_done <| x_seq <| x_region <| p (yl_move rfl) <|
                        p (yl_field0 fld_81_2 q0f) <| pa (at_load one_3 rfl ((hS.pull 1).cell rfl)) <| p (ymul rfl rfl hx68u2) <| p (yadd rfl rfl hx69u2) <|
                        ?_
                      have hcall := c_array_within q2z  (hS.pull 2)
                      refine o_cc call_130 (args3 rfl rfl rfl) ((Calls.mono hcall (fun e w'' h => And.intro h.1 ((h.2.pull 2).pull 2)))) ?_
                      rintro e w' ⟨rfl, hS⟩
                      refine ⟨_, rfl, ?_⟩
                      refine p (yl_not rfl) <| x_done <|
                        x_cond (t := !q3e) rfl (fun hc71u2 => ?_) (fun hc71u2 => ?_)
                      · replace hFL6 := it_t hc71u2 hFL6
                        refine x_seq <| x_region <| p (yl_assign rfl) <| x_done <|
                          ?_
                        have e_ := Option.some.inj (show some _ = some _ from hFL6); subst e_
                        have e_ := (show _ = oL6 from hLL6); subst e_
                        have e_ := Option.some.inj (show some _ = some _ from hF); subst e_
                        exact x_return ⟨_, ⟨_, _, rfl, rfl, rfl⟩, rfl, hS.drop.drop⟩
                      · replace hFL6 := it_bf hc71u2 hFL6
                        replace hFL6 := ar_s hFL6; obtain ⟨x68u1, hx68u1, hFL6⟩ := hFL6
                        replace hFL6 := ar_s hFL6; obtain ⟨x69u1, hx69u1, hFL6⟩ := hFL6
                        replace hFL6 := bd_s hFL6; obtain ⟨q3f, q30, hFL6⟩ := hFL6
                        refine x_skip <| x_blk <| x_region <| p (yadd (c := 3) rfl rfl ⟨rfl, by decide⟩) <|
                          p (yl_move rfl) <| x_done <| x_un 1 <| x_seq <|
                          x_region <| p (ylss_l (t := true) rfl rfl (by decide)) <| x_done <| x_seq <|
                          x_cond_t (show ev _ _ = .bool true from rfl) <| x_skip <| x_seq <| x_block <|
                          x_seq <| x_region <| p (yl_ixv (x := .tmp 61) (y := .tmp 62) (v := .int .i64 q2.In.fe3) arr_180 one_3 rfl rfl (by decide) rfl) <| p (yl_assign rfl) <|
                          x_done <| x_seq <| x_region <| p (yl_move rfl) <|
                          p (yl_field0 fld_81_2 q0f) <| pa (at_load one_3 rfl ((hS.pull 1).cell rfl)) <| p (ymul rfl rfl hx68u1) <| p (yadd rfl rfl hx69u1) <|
                          ?_
                        have hcall := c_array_within q30  (hS.pull 2)
                        refine o_cc call_130 (args3 rfl rfl rfl) ((Calls.mono hcall (fun e w'' h => And.intro h.1 ((h.2.pull 2).pull 2)))) ?_
                        rintro e w' ⟨rfl, hS⟩
                        refine ⟨_, rfl, ?_⟩
                        refine p (yl_not rfl) <| x_done <|
                          x_cond (t := !q3f) rfl (fun hc71u1 => ?_) (fun hc71u1 => ?_)
                        · replace hFL6 := it_t hc71u1 hFL6
                          refine x_seq <| x_region <| p (yl_assign rfl) <| x_done <|
                            ?_
                          have e_ := Option.some.inj (show some _ = some _ from hFL6); subst e_
                          have e_ := (show _ = oL6 from hLL6); subst e_
                          have e_ := Option.some.inj (show some _ = some _ from hF); subst e_
                          exact x_return ⟨_, ⟨_, _, rfl, rfl, rfl⟩, rfl, hS.drop.drop⟩
                        · replace hFL6 := it_bf hc71u1 hFL6
                          refine x_skip <| x_blk <| x_region <| p (yadd (c := 4) rfl rfl ⟨rfl, by decide⟩) <|
                            p (yl_move rfl) <| x_done <| x_un 0 <| x_seq <|
                            x_region <| p (ylss_l (t := false) rfl rfl (by decide)) <| x_done <| x_seq <|
                            x_cond_f (show ev _ _ = .bool false from rfl) <| x_exitTo _ rfl <| x_seq <| x_region <|
                            p (yl_field0 fld_183_3 rfl) <| pa (v := .agg #[.slice q6 q2.Out.fe0.length q7, .slice q8 q2.Out.fe1.length q9, .slice q0a q2.Out.fe2.length q0b, .slice q0c q2.Out.fe3.length q0d]) (ld_sub agg_181 rfl rfl rfl hS) <| p (yl_move rfl) <| x_done <|
                            x_block <| x_unroll 4 <| x_seq <| x_region <|
                            p (ylss_l (t := true) rfl rfl (by decide)) <| x_done <| x_seq <| x_cond_t (show ev _ _ = .bool true from rfl) <|
                            x_skip <| x_seq <| x_block <| x_seq <|
                            x_region <| p (yl_move rfl) <| p (yl_ixv (x := .tmp 74) (y := .tmp 75) (v := .slice q6 q2.Out.fe0.length q7) arr_181 one_22 rfl rfl (by decide) rfl) <| p (yl_assign rfl) <|
                            p (yl_assign rfl) <| x_done <| x_seq <| x_region <|
                            p (yl_move rfl) <| p (yl_len_slice usl_22 rfl) <| p (yl_move rfl) <| x_done <|
                            ?_
                          replace hFL6 := bs_s hFL6; obtain ⟨oL24u4, hLL24u4, hFL6⟩ := hFL6
                          refine x_join (fun E w => (Sum.inl (())) = oL24u4 ∧ E 1 = .pointer (some ⟨b1, 0, none⟩) ∧ E 43 = .slice q3 c0.Tiles.length c_c0_3 ∧ E 44 = .int .i64 (c0.Tiles.length : Int) ∧ E 45 = .int .i64 q0e ∧ E 74 = .agg #[.slice q6 q2.Out.fe0.length q7, .slice q8 q2.Out.fe1.length q9, .slice q0a q2.Out.fe2.length q0b, .slice q0c q2.Out.fe3.length q0d] ∧ E 75 = .int .i64 0 ∧ St w0 w (cells b1 81 [.int .i64 c0.Rows, .int .i64 c0.Cols, .int .i64 c0.Tracks, .slice q3 c0.Tiles.length c_c0_3, .slice q5 c0.In.length c_c0_4, .slice q4 c0.Out.length c_c0_5] :: ro ρ :: l)) ?_ ?_
                          · skip -- L24u4
                            refine x_block ?_
                            refine x_loop (fun k_ E w => ∃ (q0g : Int), lp (P_array_Check_L24u4 q2) k_ q0g = some oL24u4 ∧ E 1 = .pointer (some ⟨b1, 0, none⟩) ∧ E 9 = .int .i64 0 ∧ E 43 = .slice q3 c0.Tiles.length c_c0_3 ∧ E 44 = .int .i64 (c0.Tiles.length : Int) ∧ E 45 = .int .i64 q0e ∧ E 74 = .agg #[.slice q6 q2.Out.fe0.length q7, .slice q8 q2.Out.fe1.length q9, .slice q0a q2.Out.fe2.length q0b, .slice q0c q2.Out.fe3.length q0d] ∧ E 75 = .int .i64 0 ∧ E 79 = .slice q6 q2.Out.fe0.length q7 ∧ E 80 = .int .i64 (q2.Out.fe0.length : Int) ∧ E 81 = .int .i64 q0g ∧ St w0 w (cells b1 81 [.int .i64 c0.Rows, .int .i64 c0.Cols, .int .i64 c0.Tracks, .slice q3 c0.Tiles.length c_c0_3, .slice q5 c0.In.length c_c0_4, .slice q4 c0.Out.length c_c0_5] :: ro ρ :: l)) fuel ⟨0, hLL24u4, q0f, rfl, q2b, q2c, q1q, rfl, rfl, rfl, rfl, rfl, ((hS.drop.pull 1).pull 1)⟩ ?_
                            rintro kL24u4 E w ⟨q0g, hLL24u4, q1r, q1s, q0w, q0x, q0y, q0z, q10, q11, q12, q0l, hS⟩
                            replace hLL24u4 := lp_s hLL24u4; obtain ⟨kL24u4, obL24u4, rfl, hFL24u4, hLL24u4⟩ := hLL24u4
                            refine x_seq <| x_region <| p (yl_lss q0l q12) <| x_done <|
                              x_seq <|
                              x_cond_p (q0g < (q2.Out.fe0.length : Int)) rfl (fun hc82u4 => ?_) (fun hc82u4 => ?_)
                            · replace hFL24u4 := it_t hc82u4 hFL24u4
                              replace hFL24u4 := ck_s hFL24u4; obtain ⟨q27, hFL24u4⟩ := hFL24u4
                              replace hFL24u4 := lv_s hFL24u4; obtain ⟨x84u4, hx84u4, hFL24u4⟩ := hFL24u4
                              replace hFL24u4 := bd_s hFL24u4; obtain ⟨q0s, q31, hFL24u4⟩ := hFL24u4
                              refine x_skip <| x_seq <| x_block <| x_seq <|
                                x_region <| p (yix_f sl_22 q11 q0l q23 q27) <| pa (at_load one_3 rfl (RdS.getW q23 (hS.pull 1) q27 hx84u4)) <| p (yl_assign rfl) <|
                                x_done <| x_seq <| x_region <| p (yl_move rfl) <|
                                ?_
                              have hcall := c_array_within q31  (hS.pull 1)
                              refine o_cc call_130 (args3 rfl rfl rfl) ((Calls.mono hcall (fun e w'' h => And.intro h.1 (h.2.pull 1)))) ?_
                              rintro e w' ⟨rfl, hS⟩
                              refine ⟨_, rfl, ?_⟩
                              replace hFL24u4 := lv_s hFL24u4; obtain ⟨x93u4, hx93u4, hFL24u4⟩ := hFL24u4
                              refine p (yl_not rfl) <| p (yl_move rfl) <| pg (v := .int .i64 x84u4) 88 (c := !(!q0s)) (says_f _) (fun hq => Yl.at (yl_move rfl)) <| pg (v := .int .i64 0) 88 (c := !(!q0s)) (says_f _) (fun hq => Yl.at (yl_move q1s)) <|
                                pg (v := .int .i64 3) 88 (c := !(!q0s)) (says_f _) (fun hq => Yl.at (yadd (c := 3) rfl (cv hq) ⟨rfl, by decide⟩)) <| pg (v := .bool (decide (x84u4 = 3))) 88 (c := !(!q0s)) (says_f _) (fun hq => Yl.at (yl_eql (cv hq) (cv hq))) <| p (yor' rfl rfl (fun hc => (cv (t_not hc))) hx93u4) <| x_done <|
                                x_cond (t := x93u4) rfl (fun hc93u4 => ?_) (fun hc93u4 => ?_)
                              · replace hFL24u4 := it_t hc93u4 hFL24u4
                                refine x_seq <| x_region <| p (yl_assign rfl) <| x_done <|
                                  ?_
                                have e_ := Option.some.inj (show some _ = some _ from hFL24u4); subst e_
                                have e_ := (show _ = oL24u4 from hLL24u4); subst e_
                                have e_ := Option.some.inj (show some _ = some _ from hFL6); subst e_
                                have e_ := (show _ = oL6 from hLL6); subst e_
                                have e_ := Option.some.inj (show some _ = some _ from hF); subst e_
                                exact x_return ⟨_, ⟨_, _, rfl, rfl, rfl⟩, rfl, hS.drop⟩
                              · replace hFL24u4 := it_bf hc93u4 hFL24u4
                                replace hFL24u4 := ar_s hFL24u4; obtain ⟨x94u4, hx94u4, hFL24u4⟩ := hFL24u4
                                refine x_skip <| x_blk <| x_region <| p (yadd q0l rfl hx94u4) <|
                                  p (yl_move rfl) <| x_done <|
                                  ?_
                                have e_ := Option.some.inj (show some _ = some _ from hFL24u4); subst e_
                                exact x_inv ⟨kL24u4, Nat.lt_succ_self _, x94u4, hLL24u4, q1r, q1s, q0w, q0x, q0y, q0z, q10, q11, q12, rfl, ((hS.pull 1).pull 1)⟩
                            · replace hFL24u4 := it_f hc82u4 hFL24u4
                              refine x_exitTo _ rfl <|
                                ?_
                              have e_ := Option.some.inj (show some _ = some _ from hFL24u4); subst e_
                              exact x_inv ⟨hLL24u4, q1r, q0w, q0x, q0y, q0z, q10, ((hS.pull 1).pull 1)⟩
                          rintro E w ⟨rfl, q32, q2h, q2i, q2j, q1t, q2k, hS⟩
                          refine x_blk <| x_region <| p (yadd (c := 1) q2k rfl ⟨rfl, by decide⟩) <| p (yl_move rfl) <|
                            x_done <| x_un 3 <| x_seq <| x_region <|
                            p (ylss_l (t := true) rfl rfl (by decide)) <| x_done <| x_seq <| x_cond_t (show ev _ _ = .bool true from rfl) <|
                            x_skip <| x_seq <| x_block <| x_seq <|
                            x_region <| p (yl_move rfl) <| p (yl_ixv (x := .tmp 74) (y := .tmp 75) (v := .slice q8 q2.Out.fe1.length q9) arr_181 one_22 q1t rfl (by decide) rfl) <| p (yl_assign rfl) <|
                            p (yl_assign rfl) <| x_done <| x_seq <| x_region <|
                            p (yl_move rfl) <| p (yl_len_slice usl_22 rfl) <| p (yl_move rfl) <| x_done <|
                            ?_
                          replace hFL6 := bs_s hFL6; obtain ⟨oL24u3, hLL24u3, hFL6⟩ := hFL6
                          refine x_join (fun E w => (Sum.inl (())) = oL24u3 ∧ E 1 = .pointer (some ⟨b1, 0, none⟩) ∧ E 43 = .slice q3 c0.Tiles.length c_c0_3 ∧ E 44 = .int .i64 (c0.Tiles.length : Int) ∧ E 45 = .int .i64 q0e ∧ E 74 = .agg #[.slice q6 q2.Out.fe0.length q7, .slice q8 q2.Out.fe1.length q9, .slice q0a q2.Out.fe2.length q0b, .slice q0c q2.Out.fe3.length q0d] ∧ E 75 = .int .i64 1 ∧ St w0 w (cells b1 81 [.int .i64 c0.Rows, .int .i64 c0.Cols, .int .i64 c0.Tracks, .slice q3 c0.Tiles.length c_c0_3, .slice q5 c0.In.length c_c0_4, .slice q4 c0.Out.length c_c0_5] :: ro ρ :: l)) ?_ ?_
                          · skip -- L24u3
                            refine x_block ?_
                            refine x_loop (fun k_ E w => ∃ (q0h : Int), lp (P_array_Check_L24u3 q2) k_ q0h = some oL24u3 ∧ E 1 = .pointer (some ⟨b1, 0, none⟩) ∧ E 9 = .int .i64 1 ∧ E 43 = .slice q3 c0.Tiles.length c_c0_3 ∧ E 44 = .int .i64 (c0.Tiles.length : Int) ∧ E 45 = .int .i64 q0e ∧ E 74 = .agg #[.slice q6 q2.Out.fe0.length q7, .slice q8 q2.Out.fe1.length q9, .slice q0a q2.Out.fe2.length q0b, .slice q0c q2.Out.fe3.length q0d] ∧ E 75 = .int .i64 1 ∧ E 79 = .slice q8 q2.Out.fe1.length q9 ∧ E 80 = .int .i64 (q2.Out.fe1.length : Int) ∧ E 81 = .int .i64 q0h ∧ St w0 w (cells b1 81 [.int .i64 c0.Rows, .int .i64 c0.Cols, .int .i64 c0.Tracks, .slice q3 c0.Tiles.length c_c0_3, .slice q5 c0.In.length c_c0_4, .slice q4 c0.Out.length c_c0_5] :: ro ρ :: l)) fuel ⟨0, hLL24u3, q32, rfl, q2h, q2i, q2j, q1t, rfl, rfl, rfl, rfl, ((hS.pull 1).pull 1)⟩ ?_
                            rintro kL24u3 E w ⟨q0h, hLL24u3, q1u, q1v, q13, q14, q15, q16, q17, q18, q19, q0m, hS⟩
                            replace hLL24u3 := lp_s hLL24u3; obtain ⟨kL24u3, obL24u3, rfl, hFL24u3, hLL24u3⟩ := hLL24u3
                            refine x_seq <| x_region <| p (yl_lss q0m q19) <| x_done <|
                              x_seq <|
                              x_cond_p (q0h < (q2.Out.fe1.length : Int)) rfl (fun hc82u3 => ?_) (fun hc82u3 => ?_)
                            · replace hFL24u3 := it_t hc82u3 hFL24u3
                              replace hFL24u3 := ck_s hFL24u3; obtain ⟨q28, hFL24u3⟩ := hFL24u3
                              replace hFL24u3 := lv_s hFL24u3; obtain ⟨x84u3, hx84u3, hFL24u3⟩ := hFL24u3
                              replace hFL24u3 := bd_s hFL24u3; obtain ⟨q0t, q33, hFL24u3⟩ := hFL24u3
                              refine x_skip <| x_seq <| x_block <| x_seq <|
                                x_region <| p (yix_f sl_22 q18 q0m q24 q28) <| pa (at_load one_3 rfl (RdS.getW q24 (hS.pull 1) q28 hx84u3)) <| p (yl_assign rfl) <|
                                x_done <| x_seq <| x_region <| p (yl_move rfl) <|
                                ?_
                              have hcall := c_array_within q33  (hS.pull 1)
                              refine o_cc call_130 (args3 rfl rfl rfl) ((Calls.mono hcall (fun e w'' h => And.intro h.1 (h.2.pull 1)))) ?_
                              rintro e w' ⟨rfl, hS⟩
                              refine ⟨_, rfl, ?_⟩
                              replace hFL24u3 := lv_s hFL24u3; obtain ⟨x93u3, hx93u3, hFL24u3⟩ := hFL24u3
                              refine p (yl_not rfl) <| p (yl_move rfl) <| pg (v := .int .i64 x84u3) 88 (c := !(!q0t)) (says_f _) (fun hq => Yl.at (yl_move rfl)) <| pg (v := .int .i64 1) 88 (c := !(!q0t)) (says_f _) (fun hq => Yl.at (yl_move q1v)) <|
                                pg (v := .int .i64 4) 88 (c := !(!q0t)) (says_f _) (fun hq => Yl.at (yadd (c := 4) rfl (cv hq) ⟨rfl, by decide⟩)) <| pg (v := .bool (decide (x84u3 = 4))) 88 (c := !(!q0t)) (says_f _) (fun hq => Yl.at (yl_eql (cv hq) (cv hq))) <| p (yor' rfl rfl (fun hc => (cv (t_not hc))) hx93u3) <| x_done <|
                                x_cond (t := x93u3) rfl (fun hc93u3 => ?_) (fun hc93u3 => ?_)
                              · replace hFL24u3 := it_t hc93u3 hFL24u3
                                refine x_seq <| x_region <| p (yl_assign rfl) <| x_done <|
                                  ?_
                                have e_ := Option.some.inj (show some _ = some _ from hFL24u3); subst e_
                                have e_ := (show _ = oL24u3 from hLL24u3); subst e_
                                have e_ := Option.some.inj (show some _ = some _ from hFL6); subst e_
                                have e_ := (show _ = oL6 from hLL6); subst e_
                                have e_ := Option.some.inj (show some _ = some _ from hF); subst e_
                                exact x_return ⟨_, ⟨_, _, rfl, rfl, rfl⟩, rfl, hS.drop⟩
                              · replace hFL24u3 := it_bf hc93u3 hFL24u3
                                replace hFL24u3 := ar_s hFL24u3; obtain ⟨x94u3, hx94u3, hFL24u3⟩ := hFL24u3
                                refine x_skip <| x_blk <| x_region <| p (yadd q0m rfl hx94u3) <|
                                  p (yl_move rfl) <| x_done <|
                                  ?_
                                have e_ := Option.some.inj (show some _ = some _ from hFL24u3); subst e_
                                exact x_inv ⟨kL24u3, Nat.lt_succ_self _, x94u3, hLL24u3, q1u, q1v, q13, q14, q15, q16, q17, q18, q19, rfl, ((hS.pull 1).pull 1)⟩
                            · replace hFL24u3 := it_f hc82u3 hFL24u3
                              refine x_exitTo _ rfl <|
                                ?_
                              have e_ := Option.some.inj (show some _ = some _ from hFL24u3); subst e_
                              exact x_inv ⟨hLL24u3, q1u, q13, q14, q15, q16, q17, ((hS.pull 1).pull 1)⟩
                          rintro E w ⟨rfl, q34, q2l, q2m, q2n, q1w, q2o, hS⟩
                          refine x_blk <| x_region <| p (yadd (c := 2) q2o rfl ⟨rfl, by decide⟩) <| p (yl_move rfl) <|
                            x_done <| x_un 2 <| x_seq <| x_region <|
                            p (ylss_l (t := true) rfl rfl (by decide)) <| x_done <| x_seq <| x_cond_t (show ev _ _ = .bool true from rfl) <|
                            x_skip <| x_seq <| x_block <| x_seq <|
                            x_region <| p (yl_move rfl) <| p (yl_ixv (x := .tmp 74) (y := .tmp 75) (v := .slice q0a q2.Out.fe2.length q0b) arr_181 one_22 q1w rfl (by decide) rfl) <| p (yl_assign rfl) <|
                            p (yl_assign rfl) <| x_done <| x_seq <| x_region <|
                            p (yl_move rfl) <| p (yl_len_slice usl_22 rfl) <| p (yl_move rfl) <| x_done <|
                            ?_
                          replace hFL6 := bs_s hFL6; obtain ⟨oL24u2, hLL24u2, hFL6⟩ := hFL6
                          refine x_join (fun E w => (Sum.inl (())) = oL24u2 ∧ E 1 = .pointer (some ⟨b1, 0, none⟩) ∧ E 43 = .slice q3 c0.Tiles.length c_c0_3 ∧ E 44 = .int .i64 (c0.Tiles.length : Int) ∧ E 45 = .int .i64 q0e ∧ E 74 = .agg #[.slice q6 q2.Out.fe0.length q7, .slice q8 q2.Out.fe1.length q9, .slice q0a q2.Out.fe2.length q0b, .slice q0c q2.Out.fe3.length q0d] ∧ E 75 = .int .i64 2 ∧ St w0 w (cells b1 81 [.int .i64 c0.Rows, .int .i64 c0.Cols, .int .i64 c0.Tracks, .slice q3 c0.Tiles.length c_c0_3, .slice q5 c0.In.length c_c0_4, .slice q4 c0.Out.length c_c0_5] :: ro ρ :: l)) ?_ ?_
                          · skip -- L24u2
                            refine x_block ?_
                            refine x_loop (fun k_ E w => ∃ (q0i : Int), lp (P_array_Check_L24u2 q2) k_ q0i = some oL24u2 ∧ E 1 = .pointer (some ⟨b1, 0, none⟩) ∧ E 9 = .int .i64 2 ∧ E 43 = .slice q3 c0.Tiles.length c_c0_3 ∧ E 44 = .int .i64 (c0.Tiles.length : Int) ∧ E 45 = .int .i64 q0e ∧ E 74 = .agg #[.slice q6 q2.Out.fe0.length q7, .slice q8 q2.Out.fe1.length q9, .slice q0a q2.Out.fe2.length q0b, .slice q0c q2.Out.fe3.length q0d] ∧ E 75 = .int .i64 2 ∧ E 79 = .slice q0a q2.Out.fe2.length q0b ∧ E 80 = .int .i64 (q2.Out.fe2.length : Int) ∧ E 81 = .int .i64 q0i ∧ St w0 w (cells b1 81 [.int .i64 c0.Rows, .int .i64 c0.Cols, .int .i64 c0.Tracks, .slice q3 c0.Tiles.length c_c0_3, .slice q5 c0.In.length c_c0_4, .slice q4 c0.Out.length c_c0_5] :: ro ρ :: l)) fuel ⟨0, hLL24u2, q34, rfl, q2l, q2m, q2n, q1w, rfl, rfl, rfl, rfl, ((hS.pull 1).pull 1)⟩ ?_
                            rintro kL24u2 E w ⟨q0i, hLL24u2, q1x, q1y, q1a, q1b, q1c, q1d, q1e, q1f, q1g, q0n, hS⟩
                            replace hLL24u2 := lp_s hLL24u2; obtain ⟨kL24u2, obL24u2, rfl, hFL24u2, hLL24u2⟩ := hLL24u2
                            refine x_seq <| x_region <| p (yl_lss q0n q1g) <| x_done <|
                              x_seq <|
                              x_cond_p (q0i < (q2.Out.fe2.length : Int)) rfl (fun hc82u2 => ?_) (fun hc82u2 => ?_)
                            · replace hFL24u2 := it_t hc82u2 hFL24u2
                              replace hFL24u2 := ck_s hFL24u2; obtain ⟨q29, hFL24u2⟩ := hFL24u2
                              replace hFL24u2 := lv_s hFL24u2; obtain ⟨x84u2, hx84u2, hFL24u2⟩ := hFL24u2
                              replace hFL24u2 := bd_s hFL24u2; obtain ⟨q0u, q35, hFL24u2⟩ := hFL24u2
                              refine x_skip <| x_seq <| x_block <| x_seq <|
                                x_region <| p (yix_f sl_22 q1f q0n q25 q29) <| pa (at_load one_3 rfl (RdS.getW q25 (hS.pull 1) q29 hx84u2)) <| p (yl_assign rfl) <|
                                x_done <| x_seq <| x_region <| p (yl_move rfl) <|
                                ?_
                              have hcall := c_array_within q35  (hS.pull 1)
                              refine o_cc call_130 (args3 rfl rfl rfl) ((Calls.mono hcall (fun e w'' h => And.intro h.1 (h.2.pull 1)))) ?_
                              rintro e w' ⟨rfl, hS⟩
                              refine ⟨_, rfl, ?_⟩
                              replace hFL24u2 := lv_s hFL24u2; obtain ⟨x93u2, hx93u2, hFL24u2⟩ := hFL24u2
                              refine p (yl_not rfl) <| p (yl_move rfl) <| pg (v := .int .i64 x84u2) 88 (c := !(!q0u)) (says_f _) (fun hq => Yl.at (yl_move rfl)) <| pg (v := .int .i64 2) 88 (c := !(!q0u)) (says_f _) (fun hq => Yl.at (yl_move q1y)) <|
                                pg (v := .int .i64 5) 88 (c := !(!q0u)) (says_f _) (fun hq => Yl.at (yadd (c := 5) rfl (cv hq) ⟨rfl, by decide⟩)) <| pg (v := .bool (decide (x84u2 = 5))) 88 (c := !(!q0u)) (says_f _) (fun hq => Yl.at (yl_eql (cv hq) (cv hq))) <| p (yor' rfl rfl (fun hc => (cv (t_not hc))) hx93u2) <| x_done <|
                                x_cond (t := x93u2) rfl (fun hc93u2 => ?_) (fun hc93u2 => ?_)
                              · replace hFL24u2 := it_t hc93u2 hFL24u2
                                refine x_seq <| x_region <| p (yl_assign rfl) <| x_done <|
                                  ?_
                                have e_ := Option.some.inj (show some _ = some _ from hFL24u2); subst e_
                                have e_ := (show _ = oL24u2 from hLL24u2); subst e_
                                have e_ := Option.some.inj (show some _ = some _ from hFL6); subst e_
                                have e_ := (show _ = oL6 from hLL6); subst e_
                                have e_ := Option.some.inj (show some _ = some _ from hF); subst e_
                                exact x_return ⟨_, ⟨_, _, rfl, rfl, rfl⟩, rfl, hS.drop⟩
                              · replace hFL24u2 := it_bf hc93u2 hFL24u2
                                replace hFL24u2 := ar_s hFL24u2; obtain ⟨x94u2, hx94u2, hFL24u2⟩ := hFL24u2
                                refine x_skip <| x_blk <| x_region <| p (yadd q0n rfl hx94u2) <|
                                  p (yl_move rfl) <| x_done <|
                                  ?_
                                have e_ := Option.some.inj (show some _ = some _ from hFL24u2); subst e_
                                exact x_inv ⟨kL24u2, Nat.lt_succ_self _, x94u2, hLL24u2, q1x, q1y, q1a, q1b, q1c, q1d, q1e, q1f, q1g, rfl, ((hS.pull 1).pull 1)⟩
                            · replace hFL24u2 := it_f hc82u2 hFL24u2
                              refine x_exitTo _ rfl <|
                                ?_
                              have e_ := Option.some.inj (show some _ = some _ from hFL24u2); subst e_
                              exact x_inv ⟨hLL24u2, q1x, q1a, q1b, q1c, q1d, q1e, ((hS.pull 1).pull 1)⟩
                          rintro E w ⟨rfl, q36, q2p, q2q, q2r, q1z, q2s, hS⟩
                          refine x_blk <| x_region <| p (yadd (c := 3) q2s rfl ⟨rfl, by decide⟩) <| p (yl_move rfl) <|
                            x_done <| x_un 1 <| x_seq <| x_region <|
                            p (ylss_l (t := true) rfl rfl (by decide)) <| x_done <| x_seq <| x_cond_t (show ev _ _ = .bool true from rfl) <|
                            x_skip <| x_seq <| x_block <| x_seq <|
                            x_region <| p (yl_move rfl) <| p (yl_ixv (x := .tmp 74) (y := .tmp 75) (v := .slice q0c q2.Out.fe3.length q0d) arr_181 one_22 q1z rfl (by decide) rfl) <| p (yl_assign rfl) <|
                            p (yl_assign rfl) <| x_done <| x_seq <| x_region <|
                            p (yl_move rfl) <| p (yl_len_slice usl_22 rfl) <| p (yl_move rfl) <| x_done <|
                            ?_
                          replace hFL6 := bs_s hFL6; obtain ⟨oL24u1, hLL24u1, hFL6⟩ := hFL6
                          refine x_join (fun E w => (Sum.inl (())) = oL24u1 ∧ E 1 = .pointer (some ⟨b1, 0, none⟩) ∧ E 43 = .slice q3 c0.Tiles.length c_c0_3 ∧ E 44 = .int .i64 (c0.Tiles.length : Int) ∧ E 45 = .int .i64 q0e ∧ E 74 = .agg #[.slice q6 q2.Out.fe0.length q7, .slice q8 q2.Out.fe1.length q9, .slice q0a q2.Out.fe2.length q0b, .slice q0c q2.Out.fe3.length q0d] ∧ E 75 = .int .i64 3 ∧ St w0 w (cells b1 81 [.int .i64 c0.Rows, .int .i64 c0.Cols, .int .i64 c0.Tracks, .slice q3 c0.Tiles.length c_c0_3, .slice q5 c0.In.length c_c0_4, .slice q4 c0.Out.length c_c0_5] :: ro ρ :: l)) ?_ ?_
                          · skip -- L24u1
                            refine x_block ?_
                            refine x_loop (fun k_ E w => ∃ (q0j : Int), lp (P_array_Check_L24u1 q2) k_ q0j = some oL24u1 ∧ E 1 = .pointer (some ⟨b1, 0, none⟩) ∧ E 9 = .int .i64 3 ∧ E 43 = .slice q3 c0.Tiles.length c_c0_3 ∧ E 44 = .int .i64 (c0.Tiles.length : Int) ∧ E 45 = .int .i64 q0e ∧ E 74 = .agg #[.slice q6 q2.Out.fe0.length q7, .slice q8 q2.Out.fe1.length q9, .slice q0a q2.Out.fe2.length q0b, .slice q0c q2.Out.fe3.length q0d] ∧ E 75 = .int .i64 3 ∧ E 79 = .slice q0c q2.Out.fe3.length q0d ∧ E 80 = .int .i64 (q2.Out.fe3.length : Int) ∧ E 81 = .int .i64 q0j ∧ St w0 w (cells b1 81 [.int .i64 c0.Rows, .int .i64 c0.Cols, .int .i64 c0.Tracks, .slice q3 c0.Tiles.length c_c0_3, .slice q5 c0.In.length c_c0_4, .slice q4 c0.Out.length c_c0_5] :: ro ρ :: l)) fuel ⟨0, hLL24u1, q36, rfl, q2p, q2q, q2r, q1z, rfl, rfl, rfl, rfl, ((hS.pull 1).pull 1)⟩ ?_
                            rintro kL24u1 E w ⟨q0j, hLL24u1, q20, q21, q1h, q1i, q1j, q1k, q1l, q1m, q1n, q0o, hS⟩
                            replace hLL24u1 := lp_s hLL24u1; obtain ⟨kL24u1, obL24u1, rfl, hFL24u1, hLL24u1⟩ := hLL24u1
                            refine x_seq <| x_region <| p (yl_lss q0o q1n) <| x_done <|
                              x_seq <|
                              x_cond_p (q0j < (q2.Out.fe3.length : Int)) rfl (fun hc82u1 => ?_) (fun hc82u1 => ?_)
                            · replace hFL24u1 := it_t hc82u1 hFL24u1
                              replace hFL24u1 := ck_s hFL24u1; obtain ⟨q2a, hFL24u1⟩ := hFL24u1
                              replace hFL24u1 := lv_s hFL24u1; obtain ⟨x84u1, hx84u1, hFL24u1⟩ := hFL24u1
                              replace hFL24u1 := bd_s hFL24u1; obtain ⟨q0v, q37, hFL24u1⟩ := hFL24u1
                              refine x_skip <| x_seq <| x_block <| x_seq <|
                                x_region <| p (yix_f sl_22 q1m q0o q26 q2a) <| pa (at_load one_3 rfl (RdS.getW q26 (hS.pull 1) q2a hx84u1)) <| p (yl_assign rfl) <|
                                x_done <| x_seq <| x_region <| p (yl_move rfl) <|
                                ?_
                              have hcall := c_array_within q37  (hS.pull 1)
                              refine o_cc call_130 (args3 rfl rfl rfl) ((Calls.mono hcall (fun e w'' h => And.intro h.1 (h.2.pull 1)))) ?_
                              rintro e w' ⟨rfl, hS⟩
                              refine ⟨_, rfl, ?_⟩
                              replace hFL24u1 := lv_s hFL24u1; obtain ⟨x93u1, hx93u1, hFL24u1⟩ := hFL24u1
                              refine p (yl_not rfl) <| p (yl_move rfl) <| pg (v := .int .i64 x84u1) 88 (c := !(!q0v)) (says_f _) (fun hq => Yl.at (yl_move rfl)) <| pg (v := .int .i64 3) 88 (c := !(!q0v)) (says_f _) (fun hq => Yl.at (yl_move q21)) <|
                                pg (v := .int .i64 6) 88 (c := !(!q0v)) (says_f _) (fun hq => Yl.at (yadd (c := 6) rfl (cv hq) ⟨rfl, by decide⟩)) <| pg (v := .bool (decide (x84u1 = 6))) 88 (c := !(!q0v)) (says_f _) (fun hq => Yl.at (yl_eql (cv hq) (cv hq))) <| p (yor' rfl rfl (fun hc => (cv (t_not hc))) hx93u1) <| x_done <|
                                x_cond (t := x93u1) rfl (fun hc93u1 => ?_) (fun hc93u1 => ?_)
                              · replace hFL24u1 := it_t hc93u1 hFL24u1
                                refine x_seq <| x_region <| p (yl_assign rfl) <| x_done <|
                                  ?_
                                have e_ := Option.some.inj (show some _ = some _ from hFL24u1); subst e_
                                have e_ := (show _ = oL24u1 from hLL24u1); subst e_
                                have e_ := Option.some.inj (show some _ = some _ from hFL6); subst e_
                                have e_ := (show _ = oL6 from hLL6); subst e_
                                have e_ := Option.some.inj (show some _ = some _ from hF); subst e_
                                exact x_return ⟨_, ⟨_, _, rfl, rfl, rfl⟩, rfl, hS.drop⟩
                              · replace hFL24u1 := it_bf hc93u1 hFL24u1
                                replace hFL24u1 := ar_s hFL24u1; obtain ⟨x94u1, hx94u1, hFL24u1⟩ := hFL24u1
                                refine x_skip <| x_blk <| x_region <| p (yadd q0o rfl hx94u1) <|
                                  p (yl_move rfl) <| x_done <|
                                  ?_
                                have e_ := Option.some.inj (show some _ = some _ from hFL24u1); subst e_
                                exact x_inv ⟨kL24u1, Nat.lt_succ_self _, x94u1, hLL24u1, q20, q21, q1h, q1i, q1j, q1k, q1l, q1m, q1n, rfl, ((hS.pull 1).pull 1)⟩
                            · replace hFL24u1 := it_f hc82u1 hFL24u1
                              refine x_exitTo _ rfl <|
                                ?_
                              have e_ := Option.some.inj (show some _ = some _ from hFL24u1); subst e_
                              exact x_inv ⟨hLL24u1, q20, q1h, q1i, q1j, q1k, q1l, ((hS.pull 1).pull 1)⟩
                          rintro E w ⟨rfl, q38, q2t, q2u, q2v, q3t, q2w, hS⟩
                          replace hFL6 := ar_s hFL6; obtain ⟨x96, hx96, hFL6⟩ := hFL6
                          refine x_blk <| x_region <| p (yadd (c := 4) q2w rfl ⟨rfl, by decide⟩) <| p (yl_move rfl) <|
                            x_done <| x_un 0 <| x_seq <| x_region <|
                            p (ylss_l (t := false) rfl rfl (by decide)) <| x_done <| x_seq <| x_cond_f (show ev _ _ = .bool false from rfl) <|
                            x_exitTo _ rfl <| x_blk <| x_region <| p (yadd q2v rfl hx96) <|
                            p (yl_move rfl) <| x_done <|
                            ?_
                          have e_ := Option.some.inj (show some _ = some _ from hFL6); subst e_
                          exact x_inv ⟨kL6, Nat.lt_succ_self _, x96, hLL6, q38, q2t, q2u, rfl, ((hS.pull 1).pull 1)⟩
        · replace hFL6 := it_f hc46 hFL6
          refine x_exitTo _ rfl <|
            ?_
          have e_ := Option.some.inj (show some _ = some _ from hFL6); subst e_
          exact x_inv ⟨hLL6, q0f, ((hS.pull 1).pull 1)⟩
      rintro E w ⟨rfl, q0p, hS⟩
      replace hF := lv_s hF; obtain ⟨x106, hx106, hF⟩ := hF
      refine x_seq <| x_seq <| x_region <| p (yl_field0 fld_81_4 q0p) <|
        pa (at_load one_79 rfl (hS.cell rfl)) <| p (yl_len_slice usl_79 rfl) <| p (yl_gtr rfl rfl) <| p (yl_move rfl) <|
        pg (v := .pointer (some ⟨b1, 5, none⟩)) 101 (c := !(decide (128 < (c0.In.length : Int)))) (says_f _) (fun hq => Yl.at (yl_field0 fld_81_5 q0p)) <| pg (v := .slice q4 c0.Out.length c_c0_5) 101 (c := !(decide (128 < (c0.In.length : Int)))) (says_f _) (fun hq => at_load one_79 (cv hq) (hS.cell rfl)) <| pg (v := .int .i64 (c0.Out.length : Int)) 101 (c := !(decide (128 < (c0.In.length : Int)))) (says_f _) (fun hq => Yl.at (yl_len_slice usl_79 (cv hq))) <| pg (v := .bool (decide (128 < (c0.Out.length : Int)))) 101 (c := !(decide (128 < (c0.In.length : Int)))) (says_f _) (fun hq => Yl.at (yl_gtr (cv hq) rfl)) <|
        p (yor' rfl rfl (fun hc => (cv (t_not hc))) hx106) <| x_done <|
        x_cond (t := x106) rfl (fun hc106 => ?_) (fun hc106 => ?_)
      · replace hF := it_t hc106 hF
        refine x_seq <| x_region <| p (yl_assign rfl) <| x_done <|
          ?_
        have e_ := Option.some.inj (show some _ = some _ from hF); subst e_
        exact x_return ⟨_, ⟨_, _, rfl, rfl, rfl⟩, rfl, hS.drop⟩
      · replace hF := it_bf hc106 hF
        replace hF := bd_s hF; obtain ⟨q1o, q3l, hF⟩ := hF
        refine x_skip <| x_seq <| x_seq <| x_region <|
          pa (v := .agg #[.int .i64 c0.Rows, .int .i64 c0.Cols, .int .i64 c0.Tracks, .slice q3 c0.Tiles.length c_c0_3, .slice q5 c0.In.length c_c0_4, .slice q4 c0.Out.length c_c0_5]) (ld_sub agg_81 q0p rfl rfl hS) <| p (yl_field0 fld_81_4 q0p) <| pa (at_load one_79 rfl (hS.cell rfl)) <|
          ?_
        have hcall := c_array_pads q3l q0k q0q q0r q0q (hS.pull 1)
        refine o_cc call_131 (args2 rfl rfl) ((Calls.mono hcall (fun e w'' h => And.intro h.1 (h.2.pull 1)))) ?_
        rintro e w' ⟨rfl, hS⟩
        refine ⟨_, rfl, ?_⟩
        refine p (v := .int .i64 q1o) (yl_assign rfl) <| x_done <| x_seq <| x_region <|
          p (v := .int .i64 q1o) (yl_move rfl) <| p (yl_neq rfl rfl) <| x_done <|
          x_cond_p (q1o ≠ 0) rfl (fun hc112 => ?_) (fun hc112 => ?_)
        · replace hF := it_t hc112 hF
          refine x_seq <| x_region <| p (v := .int .i64 q1o) (yl_move rfl) <| p (v := .int .i64 q1o) (yl_assign rfl) <|
            x_done <|
            ?_
          have e_ := Option.some.inj (show some _ = some _ from hF); subst e_
          exact x_return ⟨_, ⟨_, _, rfl, rfl, rfl⟩, rfl, hS.drop⟩
        · replace hF := it_f hc112 hF
          replace hF := bd_s hF; obtain ⟨q1p, q3m, hF⟩ := hF
          refine x_skip <| x_seq <| x_seq <| x_region <|
            pa (v := .agg #[.int .i64 c0.Rows, .int .i64 c0.Cols, .int .i64 c0.Tracks, .slice q3 c0.Tiles.length c_c0_3, .slice q5 c0.In.length c_c0_4, .slice q4 c0.Out.length c_c0_5]) (ld_sub agg_81 q0p rfl rfl hS) <| p (yl_field0 fld_81_5 q0p) <| pa (at_load one_79 rfl (hS.cell rfl)) <|
            ?_
          have hcall := c_array_pads q3m q0k q0q q0r q0r (hS.pull 1)
          refine o_cc call_131 (args2 rfl rfl) ((Calls.mono hcall (fun e w'' h => And.intro h.1 (h.2.pull 1)))) ?_
          rintro e w' ⟨rfl, hS⟩
          refine ⟨_, rfl, ?_⟩
          refine p (v := .int .i64 q1p) (yl_assign rfl) <| x_done <| x_seq <| x_region <|
            p (v := .int .i64 q1p) (yl_move rfl) <| p (yl_neq rfl rfl) <| x_done <|
            x_cond_p (q1p ≠ 0) rfl (fun hc119 => ?_) (fun hc119 => ?_)
          · replace hF := it_t hc119 hF
            refine x_seq <| x_region <| p (v := .int .i64 q1p) (yl_move rfl) <| p (v := .int .i64 q1p) (yl_assign rfl) <|
              x_done <|
              ?_
            have e_ := Option.some.inj (show some _ = some _ from hF); subst e_
            exact x_return ⟨_, ⟨_, _, rfl, rfl, rfl⟩, rfl, hS.drop⟩
          · replace hF := it_f hc119 hF
            replace hF := bd_s hF; obtain ⟨q3s, q3n, hF⟩ := hF
            refine x_skip <| x_seq <| x_seq <| x_region <|
              pa (v := .agg #[.int .i64 c0.Rows, .int .i64 c0.Cols, .int .i64 c0.Tracks, .slice q3 c0.Tiles.length c_c0_3, .slice q5 c0.In.length c_c0_4, .slice q4 c0.Out.length c_c0_5]) (ld_sub agg_81 q0p rfl rfl hS) <|
              ?_
            have hcall := c_array_order q3n q0k q0q q0r (hS.pull 1)
            refine o_cc call_132 (args1 rfl) hcall ?_
            rintro e w' ⟨q3h, q3i, c_y0_ret_39_1, q3g, rfl, q22, hS⟩
            refine ⟨_, rfl, ?_⟩
            have e_ := St.vec_n hS q22; subst e_
            refine p (yl_move rfl) <| p (yl_extract rfl rfl) <| p (yl_extract rfl rfl) <| p (yl_assign rfl) <|
              p (yl_assign rfl) <| x_done <| x_seq <| x_region <|
              p (yl_move rfl) <| p (yl_not rfl) <| x_done <|
              x_cond (t := !q3s.2) rfl (fun hc127 => ?_) (fun hc127 => ?_)
            · replace hF := it_t hc127 hF
              refine x_seq <| x_region <| p (yl_assign rfl) <| x_done <|
                ?_
              have e_ := Option.some.inj (show some _ = some _ from hF); subst e_
              exact x_return ⟨_, ⟨_, _, rfl, rfl, rfl⟩, rfl, ((hS.drop.pull 1).drop)⟩
            · replace hF := it_bf hc127 hF
              refine x_skip <| x_seq <| x_region <| p (yl_assign rfl) <|
                x_done <|
                ?_
              have e_ := Option.some.inj (show some _ = some _ from hF); subst e_
              exact x_return ⟨_, ⟨_, _, rfl, rfl, rfl⟩, rfl, ((hS.drop.pull 1).drop)⟩
attribute [irreducible] P_array_Check

def P_stream_writer_bits_2_L1 (n1 : Int) : (Int × List Int × Int) → Option ((Int × List Int × Int) ⊕ (List Int × Int)) := fun (q5, q3, q4) =>
  if 0 ≤ q5 then
    bd (
      if q4 = 0 then
        lv (q3 ++ [0]) fun q7 =>
        ck (apOk 1 q7.length) <|
        some (q7, (8 : Int))
      else
        some (q3, q4)) fun (q2, q6) =>
    ar (q6 - 1) fun x34 =>
    ar ((q2.length : Int) - 1) fun x46 =>
    ck (inb x46 q2.length) <|
    lv (gt q2 x46) fun x48 =>
    ck (0 ≤ q5) <|
    lv (shr .u64 n1 q5) fun x51 =>
    lv (bAnd .u64 x51 1) fun x52 =>
    lv (x52 % 256) fun x53 =>
    ck (0 ≤ x34) <|
    lv (shl .u8 x53 x34) fun x58 =>
    lv (bOr .u8 x48 x58) fun x59 =>
    ck (inb x46 q2.length) <|
    lv (stt q2 x46 x59) fun q8 =>
    ar (q5 - 1) fun x12 =>
    some (Sum.inl (x12, q8, x34))
  else
    some (Sum.inr (q3, q4))
def P_stream_writer_bits_2 (w_0 : T_stream_writer) (n1 : Int) (many2 : Int) : Option (List Int × Int) :=
  ar (many2 - 1) fun x8 =>
  bd (
    lp (P_stream_writer_bits_2_L1 n1) fuel (x8, w_0.fb, w_0.fleft)) fun (q2, q3) =>
  some (q2, q3)
set_option maxHeartbeats 4000000 in
set_option maxRecDepth 100000 in
theorem c_stream_writer_bits_2 {w0 w : World} {l : List Assn} {ρ : Heap} {q0i : Nat} {q0s : Option Addr} {q0t : Nat} {c_w_0_0 : Nat} {q0r : List Value} {w_0 : T_stream_writer} {n1 : Int} {many2 : Int} {r : (List Int × Int)} (hF : P_stream_writer_bits_2 w_0 n1 many2 = some r) (q0v : RepL (RpI .u8) ρ w_0.fb q0r) (hS : St w0 w (cells q0i 175 [.slice q0s q0t c_w_0_0, .int .i64 w_0.fleft] :: vec 5 (RpI .u8).sz (.slice q0s q0t c_w_0_0) q0t q0r :: ro ρ :: l)) :
    Calls Try.prog 88 #[.pointer (some ⟨q0i, 0, none⟩), .int .u64 n1, .int .i64 many2] w fun e w' => ∃ (q0n : Option Addr) (q0g : Nat) (c_b_w_0_0_ret : Nat) (q0k : List Value), e = .returned (.tuple #[]) ∧ RepL (RpI .u8) ρ r.1 q0k ∧ St w0 w' (cells q0i 175 [.slice q0n q0g c_b_w_0_0_ret, .int .i64 r.2] :: vec 5 (RpI .u8).sz (.slice q0n q0g c_b_w_0_0_ret) q0g q0k :: ro ρ :: l) := by
  have e_ := St.vec_n (hS.pull 1) q0v; subst e_
  refine enterC Try.func88 rfl 61 rfl (by simp) ?_
  replace hF := ar_s hF; obtain ⟨x8, hx8, hF⟩ := hF
  refine x_seq <| x_region <| p (yl_move rfl) <| p (ysub rfl rfl hx8) <|
    p (yl_assign rfl) <| x_done <|
    ?_
  replace hF := bd_s hF; obtain ⟨oL1, hLL1, hF⟩ := hF
  refine x_join (fun E w => ∃ (q0c : Option Addr) (q0d : Nat) (c_b_w_0_0_L1 : Nat) (q7 : List Value) (q0h : List Int) (q0m : Int), (q0h, q0m) = oL1 ∧ RepL (RpI .u8) ρ q0h q7 ∧ St w0 w (cells q0i 175 [.slice q0c q0d c_b_w_0_0_L1, .int .i64 q0m] :: vec 5 (RpI .u8).sz (.slice q0c q0d c_b_w_0_0_L1) q0d q7 :: ro ρ :: l)) ?_ ?_
  · skip -- L1
    refine x_block ?_
    refine x_loop (fun k_ E w => ∃ (q4 : Option Addr) (q8 : Nat) (c_b_w_0_0_L1h : Nat) (q3 : List Value) (q0o : Int) (q2 : List Int) (q6 : Int), lp (P_stream_writer_bits_2_L1 n1) k_ (q0o, q2, q6) = some oL1 ∧ E 0 = .pointer (some ⟨q0i, 0, none⟩) ∧ E 1 = .int .u64 n1 ∧ E 6 = .int .i64 q0o ∧ RepL (RpI .u8) ρ q2 q3 ∧ St w0 w (cells q0i 175 [.slice q4 q8 c_b_w_0_0_L1h, .int .i64 q6] :: vec 5 (RpI .u8).sz (.slice q4 q8 c_b_w_0_0_L1h) q8 q3 :: ro ρ :: l)) fuel ⟨q0s, w_0.fb.length, c_w_0_0, q0r, x8, w_0.fb, w_0.fleft, hLL1, rfl, rfl, rfl, q0v, (((hS.pull 2).pull 2).pull 2)⟩ ?_
    rintro kL1 E w ⟨q4, q8, c_b_w_0_0_L1h, q3, q0o, q2, q6, hLL1, q0l, q0w, q0u, q9, hS⟩
    have e_ := St.vec_n (hS.pull 1) q9; subst e_
    replace hLL1 := lp_s hLL1; obtain ⟨kL1, obL1, rfl, hFL1, hLL1⟩ := hLL1
    refine x_seq <| x_seq <| x_region <| p (yl_move q0u) <|
      p (yl_geq rfl rfl) <| x_done <|
      x_cond_p (0 ≤ q0o) rfl (fun hc10 => ?_) (fun hc10 => ?_)
    · replace hFL1 := it_t hc10 hFL1
      refine x_skip <| x_seq <| x_block <| x_seq <|
        x_seq <| x_region <| p (yl_move q0l) <| p (yl_nilCheck rfl) <|
        p (yl_field0 fld_175_1 rfl) <| pa (at_load one_3 rfl (hS.cell rfl)) <| p (yl_eql rfl rfl) <| x_done <|
        ?_
      replace hFL1 := bd_s hFL1; obtain ⟨oc17, hFc17, hFL1⟩ := hFL1
      refine x_join (fun E w => ∃ (q0a : Option Addr) (q0b : Nat) (c_b_w_0_0_c17 : Nat) (q0e : List Value) (q0f : List Int) (q0j : Int), (q0f, q0j) = oc17 ∧ E 0 = .pointer (some ⟨q0i, 0, none⟩) ∧ E 1 = .int .u64 n1 ∧ E 6 = .int .i64 q0o ∧ RepL (RpI .u8) ρ q0f q0e ∧ St w0 w (cells q0i 175 [.slice q0a q0b c_b_w_0_0_c17, .int .i64 q0j] :: vec 5 (RpI .u8).sz (.slice q0a q0b c_b_w_0_0_c17) q0b q0e :: ro ρ :: l)) ?_ ?_
      · skip -- c17
        refine x_cond_p (q6 = 0) rfl (fun hc17 => ?_) (fun hc17 => ?_)
        · replace hFc17 := it_t hc17 hFc17
          refine x_region <| p (yl_move q0l) <| p (yl_move q0l) <| p (yl_move q0l) <|
            p (yl_nilCheck rfl) <| p (yl_field0 fld_175_0 rfl) <| pa (at_load one_75 rfl (hS.cell rfl)) <|
            ?_
          refine o_buildSlice (vs := [.int .u8 0]) (cs := [.int .u8 0]) sl_75 zero_5 (parts_eq (pt (va := .int .u8 0) rfl pt0)) rfl (by intro v hv; simp only [List.mem_cons, List.not_mem_nil, or_false] at hv; first | (subst hv; rfl) | (rcases hv with rfl <;> rfl)) (by decide) rfl hS (fun b24 w' hS => ?_)
          replace hFc17 := lv_s hFc17; obtain ⟨q11, q17, hFc17⟩ := hFc17
          replace hFc17 := ck_s hFc17; obtain ⟨q18, hFc17⟩ := hFc17
          refine o_ap sl_75 zero_5 rfl (by decide) rfl rfl (hS.pull 2) q9 (src_blk usl_75 hS rfl rfl) (RepL.cons (R := (RpI .u8)) (ρ := ρ) (x := 0) (cs := [.int .u8 0]) rfl RepL.nil) q17 q18 (fun A25 c25 cs25 w' hr25 hS => ?_)
          refine p (yl_nilCheck rfl) <| p (yl_field0 fld_175_0 rfl) <|
            ?_
          refine o_store1 (v := .slice A25 q11.length c25) one_75 rfl rfl rfl rfl (hS.pull 2) (fun w' hS => ?_)
          refine p (yl_nilCheck rfl) <| p (yl_field0 fld_175_1 rfl) <|
            ?_
          refine o_store1 (v := .int .i64 8) one_3 rfl rfl rfl rfl hS (fun w' hS => ?_)
          refine x_done <|
            ?_
          exact x_inv ⟨A25, q11.length, c25, cs25, q11, 8, (Option.some.inj (show some _ = some _ from hFc17)), q0l, q0w, q0u, hr25, ((((hS.pull 2).drop.pull 2).pull 2).pull 2)⟩
        · replace hFc17 := it_f hc17 hFc17
          refine x_skip <|
            ?_
          exact x_inv ⟨q4, q2.length, c_b_w_0_0_L1h, q3, q2, q6, (Option.some.inj (show some _ = some _ from hFc17)), q0l, q0w, q0u, q9, (((hS.pull 2).pull 2).pull 2)⟩
      rintro E w ⟨q0a, q0b, c_b_w_0_0_c17, q0e, q0f, q0j, rfl, q0p, q0x, q0y, q5, hS⟩
      have e_ := St.vec_n (hS.pull 1) q5; subst e_
      replace hFL1 := ar_s hFL1; obtain ⟨x34, hx34, hFL1⟩ := hFL1
      refine x_seq <| x_region <| p (yl_move q0p) <| p (yl_nilCheck rfl) <|
        p (yl_field0 fld_175_1 rfl) <| pa (at_load one_3 rfl (hS.cell rfl)) <| p (ysub rfl rfl hx34) <| p (yl_nilCheck rfl) <|
        p (yl_field0 fld_175_1 rfl) <|
        ?_
      refine o_store1 (v := .int .i64 x34) one_3 rfl rfl rfl rfl hS (fun w' hS => ?_)
      replace hFL1 := ar_s hFL1; obtain ⟨x46, hx46, hFL1⟩ := hFL1
      replace hFL1 := ck_s hFL1; obtain ⟨q0z, hFL1⟩ := hFL1
      replace hFL1 := lv_s hFL1; obtain ⟨x48, hx48, hFL1⟩ := hFL1
      replace hFL1 := ck_s hFL1; obtain ⟨q12, hFL1⟩ := hFL1
      replace hFL1 := lv_s hFL1; obtain ⟨x51, hx51, hFL1⟩ := hFL1
      replace hFL1 := lv_s hFL1; obtain ⟨x52, hx52, hFL1⟩ := hFL1
      replace hFL1 := lv_s hFL1; obtain ⟨x53, hx53, hFL1⟩ := hFL1
      replace hFL1 := ck_s hFL1; obtain ⟨q13, hFL1⟩ := hFL1
      replace hFL1 := lv_s hFL1; obtain ⟨x58, hx58, hFL1⟩ := hFL1
      replace hFL1 := lv_s hFL1; obtain ⟨x59, hx59, hFL1⟩ := hFL1
      replace hFL1 := ck_s hFL1; obtain ⟨q10, hFL1⟩ := hFL1
      refine x_done <| x_head 24 mixed (by kernel_rfl) hS _ _ rfl rfl <| q (yl_move q0p) <| q (yl_nilCheck rfl) <|
        q (yl_field0 fld_175_0 rfl) <| qa (fun w' hS => at_load one_75 rfl (hS.cell rfl)) <| q (yl_move q0p) <| q (yl_nilCheck rfl) <|
        q (yl_field0 fld_175_0 rfl) <| qa (fun w' hS => at_load one_75 rfl (hS.cell rfl)) <| q (yl_len_slice usl_75 rfl) <| q (ysub rfl rfl hx46) <|
        q (yix_o sl_75 rfl rfl (hS.pull 1) q5 q0z) <| qa (fun w' hS => at_load one_5 rfl (RepL.getW q5 (hS.pull 1) q0z hx48)) <| q (yl_move q0x) <| q (yl_move q0y) <|
        q (yshr rfl rfl q12 hx51) <| q (yand rfl rfl hx52) <| q (yconvu wm_u8 uk_44 ik_5 rfl hx53) <| q (yl_move q0p) <|
        q (yl_nilCheck rfl) <| q (yl_field0 fld_175_1 rfl) <| qa (fun w' hS => at_load one_3 rfl (hS.cell rfl)) <| q (yshl rfl rfl q13 hx58) <|
        q (yor rfl rfl hx59) <| q (yix_o sl_75 rfl rfl (hS.pull 1) q5 q10) <|
        q_done fun w' hS => ?_
      replace hFL1 := lv_s hFL1; obtain ⟨q19, q14, hFL1⟩ := hFL1
      refine o_put' (news := [.int .u8 x59]) sz_5 rfl rfl rfl rfl (o := 0) rfl q10 rfl (hS.pull 1) q5 (Le.refl _) (fun c hc => ok_all hc (show (RpI .u8).ok ρ [.int .u8 x59] x59 from rfl)) q14 (fun q15 w' q16 hS => ?_)
      replace hFL1 := ar_s hFL1; obtain ⟨x12, hx12, hFL1⟩ := hFL1
      refine x_done <| x_blk <| x_region <| p (yl_move q0y) <|
        p (ysub rfl rfl hx12) <| p (yl_assign rfl) <| x_done <|
        ?_
      have e_ := Option.some.inj (show some _ = some _ from hFL1); subst e_
      exact x_inv ⟨kL1, Nat.lt_succ_self _, q0a, q0f.length, c_b_w_0_0_c17, q15, x12, q19, x34, hLL1, q0p, q0x, rfl, q16, (((hS.pull 2).pull 1).pull 2)⟩
    · replace hFL1 := it_f hc10 hFL1
      refine x_exitTo _ rfl <|
        ?_
      have e_ := Option.some.inj (show some _ = some _ from hFL1); subst e_
      exact x_inv ⟨q4, q2.length, c_b_w_0_0_L1h, q3, q2, q6, hLL1, q9, (((hS.pull 2).pull 2).pull 2)⟩
  rintro E w ⟨q0c, q0d, c_b_w_0_0_L1, q7, q0h, q0m, rfl, q0q, hS⟩
  have e_ := St.vec_n (hS.pull 1) q0q; subst e_
  have e_ := Option.some.inj (show some _ = some _ from hF); subst e_
  exact x_fin ⟨_, rfl, q0c, q0h.length, c_b_w_0_0_L1, q7, rfl, q0q, (((hS.pull 2).pull 2).pull 2)⟩
attribute [irreducible] P_stream_writer_bits_2

def P_stream_Sum_L7 : (Int × Int) → Option ((Int × Int) ⊕ Int) := fun (q2, q3) =>
  if q3 < 8 then
    lv (bAnd .u16 q2 32768) fun x20 =>
    bd (
      if x20 ≠ 0 then
        ck (0 ≤ (1 : Int)) <|
        lv (shl .u16 q2 1) fun x23 =>
        lv (bXor .u16 x23 4129) fun x24 =>
        some x24
      else
        ck (0 ≤ (1 : Int)) <|
        lv (shl .u16 q2 1) fun x26 =>
        some x26) fun q4 =>
    ar (q3 + 1) fun x27 =>
    some (Sum.inl (q4, x27))
  else
    some (Sum.inr q2)
def P_stream_Sum_L3 (b0 : List Int) : (Int × Int) → Option ((Int × Int) ⊕ Int) := fun (q3, q2) =>
  if q2 < (b0.length : Int) then
    ck (inb q2 b0.length) <|
    lv (gt b0 q2) fun x11 =>
    lv (x11 % 65536) fun x14 =>
    ck (0 ≤ (8 : Int)) <|
    lv (shl .u16 x14 8) fun x15 =>
    lv (bXor .u16 q3 x15) fun x16 =>
    bd (
      lp P_stream_Sum_L7 fuel (x16, 0)) fun q4 =>
    ar (q2 + 1) fun x28 =>
    some (Sum.inl (q4, x28))
  else
    some (Sum.inr q3)
def P_stream_Sum (b0 : List Int) : Option Int :=
  bd (
    lp (P_stream_Sum_L3 b0) fuel (65535, 0)) fun q2 =>
  some q2
set_option maxHeartbeats 4000000 in
set_option maxRecDepth 100000 in
theorem c_stream_Sum {w0 w : World} {l : List Assn} {ρ : Heap} {q8 : Option Addr} {q0m : Nat} {c_b0 : Nat} {b0 : List Int} {r : Int} (hF : P_stream_Sum b0 = some r) (q0j : RdS (RpI .u8) ρ q8 q0m c_b0 b0) (hS : St w0 w (ro ρ :: l)) :
    Calls Try.prog 93 #[.slice q8 q0m c_b0] w fun e w' => e = .returned (.int .u16 r) ∧ St w0 w' (ro ρ :: l) := by
  have e_ := q0j.n; subst e_
  refine enterC Try.func93 rfl 30 rfl (by simp) ?_
  refine x_seq <| x_region <| p (yl_assign rfl) <| x_done <|
    x_seq <| x_region <| p (yl_assign rfl) <| x_done <|
    x_seq <| x_seq <| x_region <| p (yl_move rfl) <|
    p (yl_len_slice usl_75 rfl) <| p (yl_move rfl) <| x_done <|
    ?_
  replace hF := bd_s hF; obtain ⟨oL3, hLL3, hF⟩ := hF
  refine x_join (fun E w => ∃ (q0f : Int), q0f = oL3 ∧ E 3 = .int .u16 q0f ∧ St w0 w (ro ρ :: l)) ?_ ?_
  · skip -- L3
    refine x_block ?_
    refine x_loop (fun k_ E w => ∃ (q4 : Int) (q2 : Int), lp (P_stream_Sum_L3 b0) k_ (q4, q2) = some oL3 ∧ E 3 = .int .u16 q4 ∧ E 6 = .slice q8 b0.length c_b0 ∧ E 7 = .int .i64 (b0.length : Int) ∧ E 8 = .int .i64 q2 ∧ St w0 w (ro ρ :: l)) fuel ⟨65535, 0, hLL3, rfl, rfl, rfl, rfl, hS⟩ ?_
    rintro kL3 E w ⟨q4, q2, hLL3, q0g, q0h, q0i, q0b, hS⟩
    replace hLL3 := lp_s hLL3; obtain ⟨kL3, obL3, rfl, hFL3, hLL3⟩ := hLL3
    refine x_seq <| x_region <| p (yl_lss q0b q0i) <| x_done <|
      x_seq <|
      x_cond_p (q2 < (b0.length : Int)) rfl (fun hc9 => ?_) (fun hc9 => ?_)
    · replace hFL3 := it_t hc9 hFL3
      replace hFL3 := ck_s hFL3; obtain ⟨q0k, hFL3⟩ := hFL3
      replace hFL3 := lv_s hFL3; obtain ⟨x11, hx11, hFL3⟩ := hFL3
      replace hFL3 := lv_s hFL3; obtain ⟨x14, hx14, hFL3⟩ := hFL3
      replace hFL3 := ck_s hFL3; obtain ⟨q0s, hFL3⟩ := hFL3
      replace hFL3 := lv_s hFL3; obtain ⟨x15, hx15, hFL3⟩ := hFL3
      replace hFL3 := lv_s hFL3; obtain ⟨x16, hx16, hFL3⟩ := hFL3
      refine x_skip <| x_seq <| x_block <| x_seq <|
        x_region <| p (yix_f sl_75 q0h q0b q0j q0k) <| pa (at_load one_5 rfl (RdS.getW q0j hS q0k hx11)) <| p (yl_assign rfl) <|
        x_done <| x_seq <| x_region <| p (yl_move q0g) <|
        p (yl_move rfl) <| p (yconvu wm_u16 uk_5 ik_179 rfl hx14) <| p (yshl rfl rfl q0s hx15) <| p (yxor rfl rfl hx16) <|
        p (yl_assign rfl) <| x_done <| x_seq <| x_region <|
        p (yl_move rfl) <| x_done <|
        ?_
      replace hFL3 := bd_s hFL3; obtain ⟨oL7, hLL7, hFL3⟩ := hFL3
      refine x_join (fun E w => ∃ (q0a : Int), q0a = oL7 ∧ E 3 = .int .u16 q0a ∧ E 6 = .slice q8 b0.length c_b0 ∧ E 7 = .int .i64 (b0.length : Int) ∧ E 8 = .int .i64 q2 ∧ St w0 w (ro ρ :: l)) ?_ ?_
      · skip -- L7
        refine x_block ?_
        refine x_loop (fun k_ E w => ∃ (q5 : Int) (q3 : Int), lp P_stream_Sum_L7 k_ (q5, q3) = some oL7 ∧ E 3 = .int .u16 q5 ∧ E 6 = .slice q8 b0.length c_b0 ∧ E 7 = .int .i64 (b0.length : Int) ∧ E 8 = .int .i64 q2 ∧ E 17 = .int .i64 q3 ∧ St w0 w (ro ρ :: l)) fuel ⟨x16, 0, hLL7, rfl, q0h, q0i, q0b, rfl, hS⟩ ?_
        rintro kL7 E w ⟨q5, q3, hLL7, q6, q0c, q0d, q0e, q9, hS⟩
        replace hLL7 := lp_s hLL7; obtain ⟨kL7, obL7, rfl, hFL7, hLL7⟩ := hLL7
        refine x_seq <| x_region <| p (yl_lss q9 rfl) <| x_done <|
          x_seq <|
          x_cond_p (q3 < 8) rfl (fun hc18 => ?_) (fun hc18 => ?_)
        · replace hFL7 := it_t hc18 hFL7
          replace hFL7 := lv_s hFL7; obtain ⟨x20, hx20, hFL7⟩ := hFL7
          refine x_skip <| x_seq <| x_block <| x_seq <|
            x_region <| p (yl_move q6) <| p (yand rfl rfl hx20) <| p (yl_neq rfl rfl) <|
            x_done <|
            ?_
          replace hFL7 := bd_s hFL7; obtain ⟨oc21, hFc21, hFL7⟩ := hFL7
          refine x_join (fun E w => ∃ (q7 : Int), q7 = oc21 ∧ E 3 = .int .u16 q7 ∧ E 6 = .slice q8 b0.length c_b0 ∧ E 7 = .int .i64 (b0.length : Int) ∧ E 8 = .int .i64 q2 ∧ E 17 = .int .i64 q3 ∧ St w0 w (ro ρ :: l)) ?_ ?_
          · skip -- c21
            refine x_cond_p (x20 ≠ 0) rfl (fun hc21 => ?_) (fun hc21 => ?_)
            · replace hFc21 := it_t hc21 hFc21
              replace hFc21 := ck_s hFc21; obtain ⟨q0t, hFc21⟩ := hFc21
              replace hFc21 := lv_s hFc21; obtain ⟨x23, hx23, hFc21⟩ := hFc21
              replace hFc21 := lv_s hFc21; obtain ⟨x24, hx24, hFc21⟩ := hFc21
              refine x_region <| p (yl_move q6) <| p (yshl rfl rfl q0t hx23) <| p (yxor rfl rfl hx24) <|
                p (yl_assign rfl) <| x_done <|
                ?_
              exact x_inv ⟨x24, (Option.some.inj (show some _ = some _ from hFc21)), rfl, q0c, q0d, q0e, q9, hS⟩
            · replace hFc21 := it_f hc21 hFc21
              replace hFc21 := ck_s hFc21; obtain ⟨q0n, hFc21⟩ := hFc21
              replace hFc21 := lv_s hFc21; obtain ⟨x26, hx26, hFc21⟩ := hFc21
              refine x_region <| p (yl_move q6) <| p (yshl rfl rfl q0n hx26) <| p (yl_assign rfl) <|
                x_done <|
                ?_
              exact x_inv ⟨x26, (Option.some.inj (show some _ = some _ from hFc21)), rfl, q0c, q0d, q0e, q9, hS⟩
          rintro E w ⟨q7, rfl, q0o, q0p, q0q, q0r, q0l, hS⟩
          replace hFL7 := ar_s hFL7; obtain ⟨x27, hx27, hFL7⟩ := hFL7
          refine x_blk <| x_region <| p (yadd q0l rfl hx27) <| p (yl_move rfl) <|
            x_done <|
            ?_
          have e_ := Option.some.inj (show some _ = some _ from hFL7); subst e_
          exact x_inv ⟨kL7, Nat.lt_succ_self _, q7, x27, hLL7, q0o, q0p, q0q, q0r, rfl, hS⟩
        · replace hFL7 := it_f hc18 hFL7
          refine x_exitTo _ rfl <|
            ?_
          have e_ := Option.some.inj (show some _ = some _ from hFL7); subst e_
          exact x_inv ⟨q5, hLL7, q6, q0c, q0d, q0e, hS⟩
      rintro E w ⟨q0a, rfl, q0u, q0v, q0w, q0x, hS⟩
      replace hFL3 := ar_s hFL3; obtain ⟨x28, hx28, hFL3⟩ := hFL3
      refine x_blk <| x_region <| p (yadd q0x rfl hx28) <| p (yl_move rfl) <|
        x_done <|
        ?_
      have e_ := Option.some.inj (show some _ = some _ from hFL3); subst e_
      exact x_inv ⟨kL3, Nat.lt_succ_self _, q0a, x28, hLL3, q0u, q0v, q0w, rfl, hS⟩
    · replace hFL3 := it_f hc9 hFL3
      refine x_exitTo _ rfl <|
        ?_
      have e_ := Option.some.inj (show some _ = some _ from hFL3); subst e_
      exact x_inv ⟨q4, hLL3, q0g, hS⟩
  rintro E w ⟨q0f, rfl, q0y, hS⟩
  refine x_seq <| x_region <| p (yl_move q0y) <| p (yl_assign rfl) <|
    x_done <|
    ?_
  have e_ := Option.some.inj (show some _ = some _ from hF); subst e_
  exact x_return ⟨_, ⟨_, _, rfl, rfl, rfl⟩, rfl, hS⟩
attribute [irreducible] P_stream_Sum

def P_stream_closed (number0 : Int) (w_1 : T_stream_writer) : Option (List Int) :=
  ck (0 ≤ (8 : Int)) <|
  lv (shr .i64 number0 8) fun x7 =>
  lv (x7 % 256) fun x8 =>
  lv (number0 % 256) fun x10 =>
  lv (([x8, x10] : List Int) ++ w_1.fb) fun q2 =>
  ck (apOk 1 q2.length) <|
  bd (P_stream_Sum q2) fun q3 =>
  ck (0 ≤ (8 : Int)) <|
  lv (shr .u16 q3 8) fun x23 =>
  lv (x23 % 256) fun x24 =>
  lv (q3 % 256) fun x26 =>
  lv (w_1.fb ++ [x24, x26]) fun q4 =>
  ck (apOk 1 q4.length) <|
  some q4
set_option maxHeartbeats 4000000 in
set_option maxRecDepth 100000 in
theorem c_stream_closed {w0 w : World} {l : List Assn} {ρ : Heap} {q0a : Nat} {q4 : Option Addr} {q5 : Nat} {c_w_1_0 : Nat} {q8 : List Value} {number0 : Int} {w_1 : T_stream_writer} {r : List Int} (hF : P_stream_closed number0 w_1 = some r) (q2 : RepL (RpI .u8) ρ w_1.fb q8) (hS : St w0 w (cells q0a 175 [.slice q4 q5 c_w_1_0, .int .i64 w_1.fleft] :: vec 5 (RpI .u8).sz (.slice q4 q5 c_w_1_0) q5 q8 :: ro ρ :: l)) :
    Calls Try.prog 89 #[.int .i64 number0, .pointer (some ⟨q0a, 0, none⟩)] w fun e w' => ∃ (q9 : Option Addr) (q3 : Nat) (c_y0_ret : Nat) (q6 : List Value) (q7 : Value), e = .returned (.slice q9 q3 c_y0_ret) ∧ RepL (RpI .u8) ρ r q6 ∧ St w0 w' (vec 5 (RpI .u8).sz (.slice q9 q3 c_y0_ret) q3 q6 :: cells q0a 175 [q7, .int .i64 w_1.fleft] :: ro ρ :: l) := by
  have e_ := St.vec_n (hS.pull 1) q2; subst e_
  refine enterC Try.func89 rfl 29 rfl (by simp) ?_
  replace hF := ck_s hF; obtain ⟨q0i, hF⟩ := hF
  replace hF := lv_s hF; obtain ⟨x7, hx7, hF⟩ := hF
  replace hF := lv_s hF; obtain ⟨x8, hx8, hF⟩ := hF
  replace hF := lv_s hF; obtain ⟨x10, hx10, hF⟩ := hF
  refine x_seq <| x_region <| p (yl_assign rfl) <| x_done <|
    x_seq <| x_region <| p (yl_move rfl) <| p (yshr rfl rfl q0i hx7) <|
    p (yconvu wm_u8 uk_3 ik_5 rfl hx8) <| p (yl_move rfl) <| p (yconvu wm_u8 uk_3 ik_5 rfl hx10) <|
    ?_
  refine o_buildSlice (vs := [.int .u8 x8, .int .u8 x10]) (cs := [.int .u8 x8, .int .u8 x10]) sl_75 zero_5 (parts_eq (pt (va := .int .u8 x8) rfl (pt (va := .int .u8 x10) rfl pt0))) rfl (by intro v hv; simp only [List.mem_cons, List.not_mem_nil, or_false] at hv; first | (subst hv; rfl) | (rcases hv with rfl | rfl <;> rfl)) (by decide) rfl hS (fun b11 w' hS => ?_)
  refine p (yl_move rfl) <| p (yl_nilCheck rfl) <| p (yl_field0 fld_175_0 rfl) <| pa (at_load one_75 rfl ((hS.pull 1).cell rfl)) <|
    ?_
  have q0c : RepL (RpI .u8) ρ ([x8, x10] : List Int) [.int .u8 x8, .int .u8 x10] := (RepL.cons (cs := [.int .u8 x8]) rfl (RepL.cons (cs := [.int .u8 x10]) rfl RepL.nil))
  replace hS := St.vec_of (n := 2) (sz := (RpI .u8).sz) hS rfl (by decide)
  replace hF := lv_s hF; obtain ⟨q0l, q0d, hF⟩ := hF
  replace hF := ck_s hF; obtain ⟨q0e, hF⟩ := hF
  refine o_ap sl_75 zero_5 rfl (by decide) rfl rfl hS q0c (src_o usl_75 (hS.pull 2) q2) q2 q0d q0e (fun A16 c16 cs16 w' hr16 hS => ?_)
  replace hF := bd_s hF; obtain ⟨q0b, q0f, hF⟩ := hF
  have q_ := St.lend ((hS.pull 3).pull 1) hr16; obtain ⟨ρl0, hll0, hlf0, hS0, back0⟩ := q_
  have hcall := c_stream_Sum q0f hlf0 hS0
  refine o_cc call_93 (args1 rfl) ((Calls.mono hcall (fun e w'' h => And.intro h.1 (((((back0 h.2).pull 1).pull 3).pull 3).pull 3)))) ?_
  rintro e w' ⟨rfl, hS⟩
  refine ⟨_, rfl, ?_⟩
  replace hF := ck_s hF; obtain ⟨q0j, hF⟩ := hF
  replace hF := lv_s hF; obtain ⟨x23, hx23, hF⟩ := hF
  replace hF := lv_s hF; obtain ⟨x24, hx24, hF⟩ := hF
  replace hF := lv_s hF; obtain ⟨x26, hx26, hF⟩ := hF
  refine p (v := .int .u16 q0b) (yl_assign rfl) <| x_done <| x_seq <| x_region <|
    p (yl_move rfl) <| p (yl_nilCheck rfl) <| p (yl_field0 fld_175_0 rfl) <| pa (at_load one_75 rfl ((hS.pull 1).cell rfl)) <|
    p (v := .int .u16 q0b) (yl_move rfl) <| p (yshr rfl rfl q0j hx23) <| p (yconvu wm_u8 uk_179 ik_5 rfl hx24) <| p (v := .int .u16 q0b) (yl_move rfl) <|
    p (yconvu wm_u8 uk_179 ik_5 rfl hx26) <|
    ?_
  refine o_buildSlice (vs := [.int .u8 x24, .int .u8 x26]) (cs := [.int .u8 x24, .int .u8 x26]) sl_75 zero_5 (parts_eq (pt (va := .int .u8 x24) rfl (pt (va := .int .u8 x26) rfl pt0))) rfl (by intro v hv; simp only [List.mem_cons, List.not_mem_nil, or_false] at hv; first | (subst hv; rfl) | (rcases hv with rfl | rfl <;> rfl)) (by decide) rfl hS (fun b27 w' hS => ?_)
  replace hF := lv_s hF; obtain ⟨q0k, q0g, hF⟩ := hF
  replace hF := ck_s hF; obtain ⟨q0h, hF⟩ := hF
  refine o_ap sl_75 zero_5 rfl (by decide) rfl rfl (hS.pull 3) q2 (src_blk usl_75 hS rfl rfl) (RepL.cons (R := (RpI .u8)) (ρ := ρ) (x := x24) (cs := [.int .u8 x24]) rfl (RepL.cons (R := (RpI .u8)) (ρ := ρ) (x := x26) (cs := [.int .u8 x26]) rfl RepL.nil)) q0g q0h (fun A28 c28 cs28 w' hr28 hS => ?_)
  refine p (yl_assign rfl) <| x_done <|
    ?_
  have e_ := Option.some.inj (show some _ = some _ from hF); subst e_
  exact x_return ⟨_, ⟨_, _, rfl, rfl, rfl⟩, A28, q0k.length, c28, cs28, .slice q4 w_1.fb.length c_w_1_0, rfl, hr28, (((((hS.pull 1).drop.pull 1).drop.pull 2).pull 2).pull 2)⟩
attribute [irreducible] P_stream_closed

def P_stream_size_L2 (most0 : Int) : Int → Option (Int ⊕ Int) := fun q2 =>
  ck (0 ≤ q2) <|
  lv (shr .i64 most0 q2) fun x6 =>
  if 0 < x6 then
    ar (q2 + 1) fun x9 =>
    some (Sum.inl x9)
  else
    some (Sum.inr q2)
def P_stream_size (most0 : Int) : Option Int :=
  bd (
    lp (P_stream_size_L2 most0) fuel 0) fun q2 =>
  some q2
set_option maxHeartbeats 4000000 in
set_option maxRecDepth 100000 in
theorem c_stream_size {w0 w : World} {l : List Assn} {ρ : Heap} {most0 : Int} {r : Int} (hF : P_stream_size most0 = some r) (hS : St w0 w (ro ρ :: l)) :
    Calls Try.prog 133 #[.int .i64 most0] w fun e w' => e = .returned (.int .i64 r) ∧ St w0 w' (ro ρ :: l) := by
  refine enterC Try.func133 rfl 11 rfl (by simp) ?_
  refine x_seq <| x_region <| p (yl_assign rfl) <| x_done <|
    x_seq <| x_region <| p (yl_assign rfl) <| x_done <|
    x_seq <|
    ?_
  replace hF := bd_s hF; obtain ⟨oL2, hLL2, hF⟩ := hF
  refine x_join (fun E w => ∃ (q4 : Int), q4 = oL2 ∧ E 3 = .int .i64 q4 ∧ St w0 w (ro ρ :: l)) ?_ ?_
  · skip -- L2
    refine x_block ?_
    refine x_loop (fun k_ E w => ∃ (q2 : Int), lp (P_stream_size_L2 most0) k_ q2 = some oL2 ∧ E 0 = .int .i64 most0 ∧ E 3 = .int .i64 q2 ∧ St w0 w (ro ρ :: l)) fuel ⟨0, hLL2, rfl, rfl, hS⟩ ?_
    rintro kL2 E w ⟨q2, hLL2, q5, q3, hS⟩
    replace hLL2 := lp_s hLL2; obtain ⟨kL2, obL2, rfl, hFL2, hLL2⟩ := hLL2
    replace hFL2 := ck_s hFL2; obtain ⟨q6, hFL2⟩ := hFL2
    replace hFL2 := lv_s hFL2; obtain ⟨x6, hx6, hFL2⟩ := hFL2
    refine x_seq <| x_seq <| x_region <| p (yl_move q5) <|
      p (yl_move q3) <| p (yshr rfl rfl q6 hx6) <| p (yl_gtr rfl rfl) <| x_done <|
      x_cond_p (0 < x6) rfl (fun hc7 => ?_) (fun hc7 => ?_)
    · replace hFL2 := it_t hc7 hFL2
      replace hFL2 := ar_s hFL2; obtain ⟨x9, hx9, hFL2⟩ := hFL2
      refine x_skip <| x_block <| x_region <| p (yl_move q3) <|
        p (yadd rfl rfl hx9) <| p (yl_assign rfl) <| x_done <| x_blk <|
        ?_
      have e_ := Option.some.inj (show some _ = some _ from hFL2); subst e_
      exact x_inv ⟨kL2, Nat.lt_succ_self _, x9, hLL2, q5, rfl, hS⟩
    · replace hFL2 := it_f hc7 hFL2
      refine x_exitTo _ rfl <|
        ?_
      have e_ := Option.some.inj (show some _ = some _ from hFL2); subst e_
      exact x_inv ⟨q2, hLL2, q3, hS⟩
  rintro E w ⟨q4, rfl, q7, hS⟩
  refine x_seq <| x_region <| p (yl_move q7) <| p (yl_assign rfl) <|
    x_done <|
    ?_
  have e_ := Option.some.inj (show some _ = some _ from hF); subst e_
  exact x_return ⟨_, ⟨_, _, rfl, rfl, rfl⟩, rfl, hS⟩
attribute [irreducible] P_stream_size


end Go.Proofs.Ytnooiajahmichaa.X
