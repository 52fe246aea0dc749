/- Printed by gen.py: plain functions, and that the Go code computes them. -/
import Derived.Test.YtnooiajahmichaaYI
import Derived.Test.YtnooiajahmichaaXT
import Derived.Test.YtnooiajahmichaaGAp0
namespace Go.Proofs.Ytnooiajahmichaa.X
open Go Go.RowKit
set_option linter.unusedVariables false
set_option linter.unusedSimpArgs false

def P_tree_Load_L4 (t0 : T_tree_Tree) (l_2 : List T_api_Cell) (r1_2 : (List Int × List Int)) : (Int × Int) → Option ((Int × Int) ⊕ Int) := fun (n11_L4h, y23_L4h) =>
  if y23_L4h < (r1_2.1.length : Int) then
    ck (inb t0.Cell l_2.length) <|
    lv (gt l_2 t0.Cell) fun y5_6 =>
    ck (inb 0 y5_6.Cap.length) <|
    lv (gt y5_6.Cap (0 : Int)) fun x33 =>
    ar (n11_L4h + x33) fun x34 =>
    ar (y23_L4h + 1) fun x35 =>
    some (Sum.inl (x34, x35))
  else
    some (Sum.inr n11_L4h)
def P_tree_Load_L8 (l_2 : List T_api_Cell) (cells3 : List Int) (r1_2 : (List Int × List Int)) : (Int × Int) → Option ((Int × Int) ⊕ Int) := fun (n11_L8h, y38_L8h) =>
  if y38_L8h < (r1_2.2.length : Int) then
    ck (inb y38_L8h r1_2.2.length) <|
    lv (gt r1_2.2 y38_L8h) fun x41 =>
    ck (inb x41 cells3.length) <|
    lv (gt cells3 x41) fun x46 =>
    ck (inb x46 l_2.length) <|
    lv (gt l_2 x46) fun y10_6 =>
    ck (inb y10_6.Ins y10_6.Cap.length) <|
    lv (gt y10_6.Cap y10_6.Ins) fun x55 =>
    ar (n11_L8h + x55) fun x56 =>
    ar (y38_L8h + 1) fun x57 =>
    some (Sum.inl (x56, x57))
  else
    some (Sum.inr n11_L8h)
def P_tree_Load (t0 : T_tree_Tree) (b1 : Int) (l_2 : List T_api_Cell) (cells3 : List Int) : Option Int :=
  bd (P_tree_Kids t0 b1) fun r1_2 =>
  bd (
    lp (P_tree_Load_L4 t0 l_2 r1_2) fuel (0, 0)) fun n11_L4 =>
  bd (
    lp (P_tree_Load_L8 l_2 cells3 r1_2) fuel (n11_L4, 0)) fun n11_L8 =>
  some n11_L8
set_option maxHeartbeats 4000000 in
set_option maxRecDepth 100000 in
theorem c_tree_Load {w0 w : World} {l : List Assn} {ρ : Heap} {A_t0_1 : Option Addr} {n_t0_1 : Nat} {c_t0_1 : Nat} {A_t0_2 : Option Addr} {n_t0_2 : Nat} {c_t0_2 : Nat} {A_l_2 : Option Addr} {n_l_2 : Nat} {c_l_2 : Nat} {A_cells3 : Option Addr} {n_cells3 : Nat} {c_cells3 : Nat} {t0 : T_tree_Tree} {b1 : Int} {l_2 : List T_api_Cell} {cells3 : List Int} {r : Int} (hF : P_tree_Load t0 b1 l_2 cells3 = some r) (h_t0_1 : RdS (RpI .i64) ρ A_t0_1 n_t0_1 c_t0_1 t0.Up) (h_t0_2 : RdS (RpI .i64) ρ A_t0_2 n_t0_2 c_t0_2 t0.Leaf) (h_l_2 : RdS R_api_Cell ρ A_l_2 n_l_2 c_l_2 l_2) (h_cells3 : RdS (RpI .i64) ρ A_cells3 n_cells3 c_cells3 cells3) (hS : St w0 w (ro ρ :: l)) :
    Calls Try.prog 22 #[.agg #[.int .i64 t0.Cell, .slice A_t0_1 n_t0_1 c_t0_1, .slice A_t0_2 n_t0_2 c_t0_2], .int .i64 b1, .slice A_l_2 n_l_2 c_l_2, .slice A_cells3 n_cells3 c_cells3] w fun e w' => e = .returned (.int .i64 r) ∧ St w0 w' (ro ρ :: l) := by
  obtain rfl := h_t0_1.n
  obtain rfl := h_t0_2.n
  obtain rfl := h_l_2.n
  obtain rfl := h_cells3.n
  refine enterC Try.func22 rfl 59 rfl (by simp) ?_
  refine x_seq <| x_region <|
    ?_
  refine o_box (cs := [.int .i64 t0.Cell, .slice A_t0_1 t0.Up.length c_t0_1, .slice A_t0_2 t0.Leaf.length c_t0_2]) rfl rfl hS (fun b4 w' hS => ?_)
  obtain ⟨r1_2, hc1_2, hF⟩ := bd_s hF
  refine p (yl_assign rfl) <| x_done <| x_seq <| x_region <|
    pa (v := .agg #[.int .i64 t0.Cell, .slice A_t0_1 t0.Up.length c_t0_1, .slice A_t0_2 t0.Leaf.length c_t0_2]) (ld_sub agg_38 rfl rfl rfl hS) <| p (yl_move rfl) <|
    ?_
  have hcall := c_tree_Kids hc1_2 h_t0_1 h_t0_2 (hS.pull 1)
  refine o_cc call_76 (args2 rfl rfl) hcall ?_
  rintro e w' ⟨A_y0_ret_1_2, n_y0_ret_1_2, c_y0_ret_1_2, cs_y0_ret_1_2, A_y1_ret_1_2, n_y1_ret_1_2, c_y1_ret_1_2, cs_y1_ret_1_2, rfl, h_y0_ret_1_2, h_y1_ret_1_2, hS⟩
  refine ⟨_, rfl, ?_⟩
  obtain rfl := St.vec_n hS h_y0_ret_1_2
  obtain rfl := St.vec_n (hS.pull 1) h_y1_ret_1_2
  refine p (yl_move rfl) <| p (yl_extract rfl rfl) <| p (yl_extract rfl rfl) <| p (yl_assign rfl) <|
    p (yl_assign rfl) <| x_done <| x_seq <| x_region <|
    p (yl_assign rfl) <| x_done <| x_seq <| x_seq <|
    x_region <| p (yl_move rfl) <| p (yl_len_slice usl_22 rfl) <| p (yl_move rfl) <|
    x_done <|
    ?_
  obtain ⟨oL4, hLL4, hF⟩ := bd_s hF
  refine x_join (fun E w => ∃ (n11_L4 : Int), n11_L4 = oL4 ∧ E 2 = .slice A_l_2 l_2.length c_l_2 ∧ E 3 = .slice A_cells3 cells3.length c_cells3 ∧ E 10 = .slice A_y1_ret_1_2 r1_2.2.length c_y1_ret_1_2 ∧ E 11 = .int .i64 n11_L4 ∧ St w0 w (vec 3 (RpI .i64).sz (.slice A_y1_ret_1_2 r1_2.2.length c_y1_ret_1_2) r1_2.2.length cs_y1_ret_1_2 :: ro ρ :: l)) ?_ ?_
  · skip -- L4
    refine x_block ?_
    refine x_loop (fun k_ E w => ∃ (n11_L4h : Int) (y23_L4h : Int), lp (P_tree_Load_L4 t0 l_2 r1_2) k_ (n11_L4h, y23_L4h) = some oL4 ∧ E 2 = .slice A_l_2 l_2.length c_l_2 ∧ E 3 = .slice A_cells3 cells3.length c_cells3 ∧ E 4 = .pointer (some ⟨b4, 0, none⟩) ∧ E 10 = .slice A_y1_ret_1_2 r1_2.2.length c_y1_ret_1_2 ∧ E 11 = .int .i64 n11_L4h ∧ E 22 = .int .i64 (r1_2.1.length : Int) ∧ E 23 = .int .i64 y23_L4h ∧ St w0 w (cells b4 38 [.int .i64 t0.Cell, .slice A_t0_1 t0.Up.length c_t0_1, .slice A_t0_2 t0.Leaf.length c_t0_2] :: vec 3 (RpI .i64).sz (.slice A_y1_ret_1_2 r1_2.2.length c_y1_ret_1_2) r1_2.2.length cs_y1_ret_1_2 :: ro ρ :: l)) fuel ⟨0, 0, hLL4, rfl, rfl, rfl, rfl, rfl, rfl, rfl, (((hS.drop.pull 1).pull 1).pull 2)⟩ ?_
    rintro kL4 E w ⟨n11_L4h, y23_L4h, hLL4, eL4h_2, eL4h_3, eL4h_4, eL4h_10, eL4h_11, eL4h_22, eL4h_23, hS⟩
    obtain ⟨kL4, obL4, rfl, hFL4, hLL4⟩ := lp_s hLL4
    refine x_seq <| x_region <| p (yl_lss eL4h_23 eL4h_22) <| x_done <|
      x_seq <|
      x_cond_p (y23_L4h < (r1_2.1.length : Int)) rfl (fun hc24 => ?_) (fun hc24 => ?_)
    · replace hFL4 := it_t hc24 hFL4
      obtain ⟨hk5_4, hFL4⟩ := ck_s hFL4
      obtain ⟨y5_6, hy5_6, hFL4⟩ := lv_s hFL4
      obtain ⟨el5_6, ek5_6, ee5_6⟩ := h_l_2.get hk5_4
      rw [← hy5_6] at ek5_6
      obtain ⟨A5_6_5, n5_6_5, c5_6_5, A5_6_6, n5_6_6, c5_6_6, A5_6_7, n5_6_7, c5_6_7, rfl, f5_6_5, f5_6_6, f5_6_7⟩ := ek5_6
      obtain rfl := f5_6_5.n
      obtain rfl := f5_6_6.n
      obtain rfl := f5_6_7.n
      obtain ⟨hk5_7, hFL4⟩ := ck_s hFL4
      obtain ⟨x33, hx33, hFL4⟩ := lv_s hFL4
      obtain ⟨x34, hx34, hFL4⟩ := ar_s hFL4
      obtain ⟨x35, hx35, hFL4⟩ := ar_s hFL4
      refine x_skip <| x_seq <| x_block <| x_region <|
        p (yl_move eL4h_11) <| p (yl_move eL4h_2) <| p (yl_field0 fld_38_0 eL4h_4) <| pa (at_load one_3 rfl (hS.cell rfl)) <|
        p (yix_f sl_35 rfl rfl h_l_2 hk5_4) <| p (yl_fieldAddr fld_46_5 rfl) <| pa (at_load one_22 rfl (Elt.ld (j := 5) ee5_6 (hS.pull 2) rfl)) <| p (yix_f sl_22 rfl rfl f5_6_5 hk5_7) <|
        pa (at_load one_3 rfl (RdS.getW f5_6_5 (hS.pull 2) hk5_7 hx33)) <| p (yadd rfl rfl hx34) <| p (yl_assign rfl) <| x_done <|
        x_blk <| x_region <| p (yadd eL4h_23 rfl hx35) <| p (yl_move rfl) <|
        x_done <|
        ?_
      obtain rfl := Option.some.inj (show some _ = some _ from hFL4)
      exact x_inv ⟨kL4, Nat.lt_succ_self _, x34, x35, hLL4, eL4h_2, eL4h_3, eL4h_4, eL4h_10, rfl, eL4h_22, rfl, (((hS.pull 2).pull 2).pull 2)⟩
    · replace hFL4 := it_f hc24 hFL4
      refine x_exitTo _ rfl <|
        ?_
      obtain rfl := Option.some.inj (show some _ = some _ from hFL4)
      exact x_inv ⟨n11_L4h, hLL4, eL4h_2, eL4h_3, eL4h_10, eL4h_11, ((hS.drop.pull 1).pull 1)⟩
  rintro E w ⟨n11_L4, rfl, eL4_2, eL4_3, eL4_10, eL4_11, hS⟩
  refine x_seq <| x_seq <| x_region <| p (yl_move eL4_10) <|
    p (yl_len_slice usl_22 rfl) <| p (yl_move rfl) <| x_done <|
    ?_
  obtain ⟨oL8, hLL8, hF⟩ := bd_s hF
  refine x_join (fun E w => ∃ (n11_L8 : Int), n11_L8 = oL8 ∧ E 11 = .int .i64 n11_L8 ∧ St w0 w (ro ρ :: l)) ?_ ?_
  · skip -- L8
    refine x_block ?_
    refine x_loop (fun k_ E w => ∃ (n11_L8h : Int) (y38_L8h : Int), lp (P_tree_Load_L8 l_2 cells3 r1_2) k_ (n11_L8h, y38_L8h) = some oL8 ∧ E 2 = .slice A_l_2 l_2.length c_l_2 ∧ E 3 = .slice A_cells3 cells3.length c_cells3 ∧ E 11 = .int .i64 n11_L8h ∧ E 36 = .slice A_y1_ret_1_2 r1_2.2.length c_y1_ret_1_2 ∧ E 37 = .int .i64 (r1_2.2.length : Int) ∧ E 38 = .int .i64 y38_L8h ∧ St w0 w (vec 3 (RpI .i64).sz (.slice A_y1_ret_1_2 r1_2.2.length c_y1_ret_1_2) r1_2.2.length cs_y1_ret_1_2 :: ro ρ :: l)) fuel ⟨n11_L4, 0, hLL8, eL4_2, eL4_3, eL4_11, rfl, rfl, rfl, ((hS.pull 1).pull 1)⟩ ?_
    rintro kL8 E w ⟨n11_L8h, y38_L8h, hLL8, eL8h_2, eL8h_3, eL8h_11, eL8h_36, eL8h_37, eL8h_38, hS⟩
    obtain ⟨kL8, obL8, rfl, hFL8, hLL8⟩ := lp_s hLL8
    refine x_seq <| x_region <| p (yl_lss eL8h_38 eL8h_37) <| x_done <|
      x_seq <|
      x_cond_p (y38_L8h < (r1_2.2.length : Int)) rfl (fun hc39 => ?_) (fun hc39 => ?_)
    · replace hFL8 := it_t hc39 hFL8
      obtain ⟨hk9_0, hFL8⟩ := ck_s hFL8
      obtain ⟨x41, hx41, hFL8⟩ := lv_s hFL8
      obtain ⟨hk10_3, hFL8⟩ := ck_s hFL8
      obtain ⟨x46, hx46, hFL8⟩ := lv_s hFL8
      obtain ⟨hk10_5, hFL8⟩ := ck_s hFL8
      obtain ⟨y10_6, hy10_6, hFL8⟩ := lv_s hFL8
      obtain ⟨el10_6, ek10_6, ee10_6⟩ := h_l_2.get hk10_5
      rw [← hy10_6] at ek10_6
      obtain ⟨A10_6_5, n10_6_5, c10_6_5, A10_6_6, n10_6_6, c10_6_6, A10_6_7, n10_6_7, c10_6_7, rfl, f10_6_5, f10_6_6, f10_6_7⟩ := ek10_6
      obtain rfl := f10_6_5.n
      obtain rfl := f10_6_6.n
      obtain rfl := f10_6_7.n
      refine x_skip <| x_seq <| x_block <| x_seq <|
        x_region <| p (yix_o sl_22 eL8h_36 eL8h_38 hS h_y1_ret_1_2 hk9_0) <| pa (at_load one_3 rfl (RepL.getW h_y1_ret_1_2 hS hk9_0 hx41)) <| p (yl_assign rfl) <|
        x_done <| x_seq <| x_region <| p (yl_move eL8h_2) <|
        p (yl_move eL8h_3) <| p (yl_move rfl) <| p (yix_f sl_22 rfl rfl h_cells3 hk10_3) <| pa (at_load one_3 rfl (RdS.getW h_cells3 (hS.pull 1) hk10_3 hx46)) <|
        p (yix_f sl_35 rfl rfl h_l_2 hk10_5) <| pa (v := .agg #[.string y10_6.Name, .bool y10_6.Flop, .int .i64 y10_6.Ins, .int .u64 y10_6.Table, .int .i64 y10_6.Area, .slice A10_6_5 y10_6.Cap.length c10_6_5, .slice A10_6_6 y10_6.Min.length c10_6_6, .slice A10_6_7 y10_6.Max.length c10_6_7, .int .i64 y10_6.Drive, .int .i64 y10_6.Setup, .int .i64 y10_6.Hold]) (at_loadAgg agg_46 rfl rfl (Elt.every ee10_6 (hS.pull 1))) <|
        ?_
      refine o_alloc zero_46 hS (fun b14 w' hS => ?_)
      refine o_storeAgg (news := [.string y10_6.Name, .bool y10_6.Flop, .int .i64 y10_6.Ins, .int .u64 y10_6.Table, .int .i64 y10_6.Area, .slice A10_6_5 y10_6.Cap.length c10_6_5, .slice A10_6_6 y10_6.Min.length c10_6_6, .slice A10_6_7 y10_6.Max.length c10_6_7, .int .i64 y10_6.Drive, .int .i64 y10_6.Setup, .int .i64 y10_6.Hold]) agg_46 rfl rfl rfl (by simp [over_length]) hS (fun w' hS => ?_)
      obtain ⟨hk11_5, hFL8⟩ := ck_s hFL8
      obtain ⟨x55, hx55, hFL8⟩ := lv_s hFL8
      obtain ⟨x56, hx56, hFL8⟩ := ar_s hFL8
      obtain ⟨x57, hx57, hFL8⟩ := ar_s hFL8
      refine x_done <| x_region <| p (yl_move eL8h_11) <| p (yl_field0 fld_46_5 rfl) <|
        pa (at_load one_22 rfl (hS.cell rfl)) <| p (yl_field0 fld_46_2 rfl) <| pa (at_load one_3 rfl (hS.cell rfl)) <| p (yix_f sl_22 rfl rfl f10_6_5 hk11_5) <|
        pa (at_load one_3 rfl (RdS.getW f10_6_5 (hS.pull 2) hk11_5 hx55)) <| p (yadd rfl rfl hx56) <| p (yl_assign rfl) <| x_done <|
        x_blk <| x_region <| p (yadd eL8h_38 rfl hx57) <| p (yl_move rfl) <|
        x_done <|
        ?_
      obtain rfl := Option.some.inj (show some _ = some _ from hFL8)
      exact x_inv ⟨kL8, Nat.lt_succ_self _, x56, x57, hLL8, eL8h_2, eL8h_3, rfl, eL8h_36, eL8h_37, rfl, ((hS.drop.pull 1).pull 1)⟩
    · replace hFL8 := it_f hc39 hFL8
      refine x_exitTo _ rfl <|
        ?_
      obtain rfl := Option.some.inj (show some _ = some _ from hFL8)
      exact x_inv ⟨n11_L8h, hLL8, eL8h_11, hS.drop⟩
  rintro E w ⟨n11_L8, rfl, eL8_11, hS⟩
  refine x_seq <| x_region <| p (yl_move eL8_11) <| p (yl_assign rfl) <|
    x_done <|
    ?_
  obtain rfl := Option.some.inj (show some _ = some _ from hF)
  exact x_return ⟨_, ⟨_, _, rfl, rfl, rfl⟩, rfl, hS⟩
attribute [irreducible] P_tree_Load

def P_tree_Arrivals_L5 (l_1 : List T_api_Cell) (cells2 : List Int) : Int → Option (Int ⊕ (Unit ⊕ (List T_tree_Window × Int))) := fun y29_L5h =>
  if y29_L5h < (cells2.length : Int) then
    ck (inb y29_L5h cells2.length) <|
    lv (gt cells2 y29_L5h) fun x32 =>
    lv ((decide (x32 < 0)) || (decide ((l_1.length : Int) ≤ x32))) fun x40 =>
    ck ((!x40) = true → inb x32 l_1.length) <|
    lv (x40 || (!((gt l_1 x32).Flop))) fun x48 =>
    if x48 = true then
      some (Sum.inr (Sum.inr ([], 8)))
    else
      ar (y29_L5h + 1) fun x49 =>
      some (Sum.inl x49)
  else
    some (Sum.inr (Sum.inl ()))
def P_tree_Arrivals_L12 (t0 : T_tree_Tree) (l_1 : List T_api_Cell) (cells2 : List Int) : (List T_tree_Window × Int) → Option ((List T_tree_Window × Int) ⊕ List T_tree_Window) := fun (at11_L12h, y57_L12h) =>
  if y57_L12h < (t0.Up.length : Int) then
    ck (inb y57_L12h t0.Up.length) <|
    lv (gt t0.Up y57_L12h) fun x61 =>
    ck (inb t0.Cell l_1.length) <|
    lv (gt l_1 t0.Cell) fun y14_4 =>
    bd (P_tree_Load t0 y57_L12h l_1 cells2) fun r14_9 =>
    ck (inb 0 y14_4.Min.length) <|
    lv (gt y14_4.Min (0 : Int)) fun x77 =>
    ar (y14_4.Drive * r14_9) fun x81 =>
    ar (x77 + x81) fun x82 =>
    ck (inb 0 y14_4.Max.length) <|
    lv (gt y14_4.Max (0 : Int)) fun x86 =>
    ar (y14_4.Drive * r14_9) fun x90 =>
    ar (x86 + x90) fun x91 =>
    ck (inb y57_L12h at11_L12h.length) <|
    lv (stt at11_L12h y57_L12h (T_tree_Window.mk x82 x91)) fun z15_22 =>
    bd (
      if 0 ≤ x61 then
        ck (inb y57_L12h z15_22.length) <|
        lv (gt z15_22 y57_L12h) fun y17_8 =>
        ck (inb x61 z15_22.length) <|
        lv (gt z15_22 x61) fun y17_13 =>
        ar (y17_8.Lo + y17_13.Lo) fun x110 =>
        ck (inb y57_L12h z15_22.length) <|
        lv (gt z15_22 y57_L12h) fun y17_19 =>
        ck (inb x61 z15_22.length) <|
        lv (gt z15_22 x61) fun y17_24 =>
        ar (y17_19.Hi + y17_24.Hi) fun x121 =>
        ck (inb y57_L12h z15_22.length) <|
        lv (stt z15_22 y57_L12h { (gt z15_22 y57_L12h) with Lo := x110 }) fun z17_28 =>
        ck (inb y57_L12h z17_28.length) <|
        lv (stt z17_28 y57_L12h { (gt z17_28 y57_L12h) with Hi := x121 }) fun z17_31 =>
        some z17_31
      else
        some z15_22) fun at11_c95 =>
    ar (y57_L12h + 1) fun x126 =>
    some (Sum.inl (at11_c95, x126))
  else
    some (Sum.inr at11_L12h)
def P_tree_Arrivals_L21 (t0 : T_tree_Tree) (at11_L12 : List T_tree_Window) : (List T_tree_Window × Int) → Option ((List T_tree_Window × Int) ⊕ List T_tree_Window) := fun (out16_L21h, y130_L21h) =>
  if y130_L21h < (t0.Leaf.length : Int) then
    ck (inb y130_L21h t0.Leaf.length) <|
    lv (gt t0.Leaf y130_L21h) fun x133 =>
    bd (
      if x133 < 0 then
        lv (out16_L21h ++ [(T_tree_Window.mk 0 0)]) fun z24_3 =>
        ck (apOk 16 z24_3.length) <|
        some z24_3
      else
        ck (inb x133 at11_L12.length) <|
        lv (gt at11_L12 x133) fun y25_4 =>
        lv (out16_L21h ++ [y25_4]) fun z25_6 =>
        ck (apOk 16 z25_6.length) <|
        some z25_6) fun out16_c135 =>
    ar (y130_L21h + 1) fun x147 =>
    some (Sum.inl (out16_c135, x147))
  else
    some (Sum.inr out16_L21h)
def P_tree_Arrivals (t0 : T_tree_Tree) (l_1 : List T_api_Cell) (cells2 : List Int) : Option (List T_tree_Window × Int) :=
  bd (P_tree_Check t0 (cells2.length : Int) l_1) fun r1_4 =>
  if r1_4 ≠ 0 then
    some ([], r1_4)
  else
    bs (
      lp (P_tree_Arrivals_L5 l_1 cells2) fuel 0) (fun y => some y) fun _ =>
    ck (mkOk 16 (t0.Up.length : Int)) <|
    lv ((List.replicate ((t0.Up.length : Int) : Int).toNat (T_tree_Window.mk 0 0) : List T_tree_Window)) fun z10_3 =>
    bd (
      lp (P_tree_Arrivals_L12 t0 l_1 cells2) fuel (z10_3, 0)) fun at11_L12 =>
    bd (
      lp (P_tree_Arrivals_L21 t0 at11_L12) fuel ([], 0)) fun out16_L21 =>
    some (out16_L21, 0)
set_option maxHeartbeats 4000000 in
set_option maxRecDepth 100000 in
theorem c_tree_Arrivals {w0 w : World} {l : List Assn} {ρ : Heap} {A_t0_1 : Option Addr} {n_t0_1 : Nat} {c_t0_1 : Nat} {A_t0_2 : Option Addr} {n_t0_2 : Nat} {c_t0_2 : Nat} {A_l_1 : Option Addr} {n_l_1 : Nat} {c_l_1 : Nat} {A_cells2 : Option Addr} {n_cells2 : Nat} {c_cells2 : Nat} {t0 : T_tree_Tree} {l_1 : List T_api_Cell} {cells2 : List Int} {r : (List T_tree_Window × Int)} (hF : P_tree_Arrivals t0 l_1 cells2 = some r) (h_t0_1 : RdS (RpI .i64) ρ A_t0_1 n_t0_1 c_t0_1 t0.Up) (h_t0_2 : RdS (RpI .i64) ρ A_t0_2 n_t0_2 c_t0_2 t0.Leaf) (h_l_1 : RdS R_api_Cell ρ A_l_1 n_l_1 c_l_1 l_1) (h_cells2 : RdS (RpI .i64) ρ A_cells2 n_cells2 c_cells2 cells2) (hS : St w0 w (ro ρ :: l)) :
    Calls Try.prog 20 #[.agg #[.int .i64 t0.Cell, .slice A_t0_1 n_t0_1 c_t0_1, .slice A_t0_2 n_t0_2 c_t0_2], .slice A_l_1 n_l_1 c_l_1, .slice A_cells2 n_cells2 c_cells2] w fun e w' => ∃ (A_y0_ret : Option Addr) (n_y0_ret : Nat) (c_y0_ret : Nat) (cs_y0_ret : List Value), e = .returned (.tuple #[.slice A_y0_ret n_y0_ret c_y0_ret, .int .i64 r.2]) ∧ RepL R_tree_Window ρ r.1 cs_y0_ret ∧ St w0 w' (vec 48 R_tree_Window.sz (.slice A_y0_ret n_y0_ret c_y0_ret) n_y0_ret cs_y0_ret :: ro ρ :: l) := by
  obtain rfl := h_t0_1.n
  obtain rfl := h_t0_2.n
  obtain rfl := h_l_1.n
  obtain rfl := h_cells2.n
  refine enterC Try.func20 rfl 149 rfl (by simp) ?_
  refine x_seq <| x_region <|
    ?_
  refine o_box (cs := [.int .i64 t0.Cell, .slice A_t0_1 t0.Up.length c_t0_1, .slice A_t0_2 t0.Leaf.length c_t0_2]) rfl rfl hS (fun b3 w' hS => ?_)
  obtain ⟨r1_4, hc1_4, hF⟩ := bd_s hF
  refine p (yl_assign rfl) <| p (yl_assign rfl) <| x_done <| x_seq <|
    x_seq <| x_region <| pa (v := .agg #[.int .i64 t0.Cell, .slice A_t0_1 t0.Up.length c_t0_1, .slice A_t0_2 t0.Leaf.length c_t0_2]) (ld_sub agg_38 rfl rfl rfl hS) <| p (yl_move rfl) <|
    p (yl_len_slice usl_22 rfl) <| p (yl_move rfl) <|
    ?_
  have hcall := c_tree_Check hc1_4 h_t0_1 h_t0_2 h_l_1 (hS.pull 1)
  refine o_cc call_42 (args3 rfl rfl rfl) ((Calls.mono hcall (fun e w'' h => And.intro h.1 (h.2.pull 1)))) ?_
  rintro e w' ⟨rfl, hS⟩
  refine ⟨_, rfl, ?_⟩
  refine p (v := .int .i64 r1_4) (yl_assign rfl) <| x_done <| x_seq <| x_region <|
    p (v := .int .i64 r1_4) (yl_move rfl) <| p (yl_neq rfl rfl) <| x_done <|
    x_cond_p (r1_4 ≠ 0) rfl (fun hc25 => ?_) (fun hc25 => ?_)
  · replace hF := it_t hc25 hF
    refine x_seq <| x_region <| p (v := .int .i64 r1_4) (yl_move rfl) <| p (yl_assign rfl) <|
      p (v := .int .i64 r1_4) (yl_assign rfl) <| x_done <|
      ?_
    replace hS := St.vec_nil hS 48 R_tree_Window.sz
    have hnil_A_y0_ret : RepL R_tree_Window ρ [] [] := rfl
    obtain rfl := Option.some.inj (show some _ = some _ from hF)
    exact x_return ⟨_, ⟨_, _, rfl, rfl, _, _, rfl, rfl, rfl⟩, none, 0, 0, [], rfl, hnil_A_y0_ret, (((hS.pull 1).drop.pull 1).pull 1)⟩
  · replace hF := it_f hc25 hF
    refine x_skip <| x_seq <| x_seq <| x_region <|
      p (yl_move rfl) <| p (yl_len_slice usl_22 rfl) <| p (yl_move rfl) <| x_done <|
      ?_
    obtain ⟨oL5, hLL5, hF⟩ := bs_s hF
    refine x_join (fun E w => (Sum.inl (())) = oL5 ∧ E 1 = .slice A_l_1 l_1.length c_l_1 ∧ E 2 = .slice A_cells2 cells2.length c_cells2 ∧ E 3 = .pointer (some ⟨b3, 0, none⟩) ∧ St w0 w (cells b3 38 [.int .i64 t0.Cell, .slice A_t0_1 t0.Up.length c_t0_1, .slice A_t0_2 t0.Leaf.length c_t0_2] :: ro ρ :: l)) ?_ ?_
    · skip -- L5
      refine x_block ?_
      refine x_loop (fun k_ E w => ∃ (y29_L5h : Int), lp (P_tree_Arrivals_L5 l_1 cells2) k_ y29_L5h = some oL5 ∧ E 1 = .slice A_l_1 l_1.length c_l_1 ∧ E 2 = .slice A_cells2 cells2.length c_cells2 ∧ E 3 = .pointer (some ⟨b3, 0, none⟩) ∧ E 27 = .slice A_cells2 cells2.length c_cells2 ∧ E 28 = .int .i64 (cells2.length : Int) ∧ E 29 = .int .i64 y29_L5h ∧ St w0 w (cells b3 38 [.int .i64 t0.Cell, .slice A_t0_1 t0.Up.length c_t0_1, .slice A_t0_2 t0.Leaf.length c_t0_2] :: ro ρ :: l)) fuel ⟨0, hLL5, rfl, rfl, rfl, rfl, rfl, rfl, ((hS.pull 1).pull 1)⟩ ?_
      rintro kL5 E w ⟨y29_L5h, hLL5, eL5h_1, eL5h_2, eL5h_3, eL5h_27, eL5h_28, eL5h_29, hS⟩
      obtain ⟨kL5, obL5, rfl, hFL5, hLL5⟩ := lp_s hLL5
      refine x_seq <| x_region <| p (yl_lss eL5h_29 eL5h_28) <| x_done <|
        x_seq <|
        x_cond_p (y29_L5h < (cells2.length : Int)) rfl (fun hc30 => ?_) (fun hc30 => ?_)
      · replace hFL5 := it_t hc30 hFL5
        obtain ⟨hk6_0, hFL5⟩ := ck_s hFL5
        obtain ⟨x32, hx32, hFL5⟩ := lv_s hFL5
        obtain ⟨x40, hx40, hFL5⟩ := lv_s hFL5
        obtain ⟨hk7_11, hFL5⟩ := ck_s hFL5
        obtain ⟨x48, hx48, hFL5⟩ := lv_s hFL5
        refine x_skip <| x_seq <| x_block <| x_seq <|
          x_region <| p (yix_f sl_22 eL5h_27 eL5h_29 h_cells2 hk6_0) <| pa (at_load one_3 rfl (RdS.getW h_cells2 (hS.pull 1) hk6_0 hx32)) <| p (yl_assign rfl) <|
          x_done <| x_seq <| x_region <| p (yl_move rfl) <|
          p (yl_lss rfl rfl) <| p (yl_move rfl) <| pg (v := .int .i64 x32) 35 (c := !(decide (x32 < 0))) (says_f _) (fun hq => Yl.at (yl_move rfl)) <| pg (v := .slice A_l_1 l_1.length c_l_1) 35 (c := !(decide (x32 < 0))) (says_f _) (fun hq => Yl.at (yl_move eL5h_1)) <|
          pg (v := .int .i64 (l_1.length : Int)) 35 (c := !(decide (x32 < 0))) (says_f _) (fun hq => Yl.at (yl_len_slice usl_35 (cv hq))) <| pg (v := .bool (decide ((l_1.length : Int) ≤ x32))) 35 (c := !(decide (x32 < 0))) (says_f _) (fun hq => Yl.at (yl_geq (cv hq) (cv hq))) <| p (yor' rfl rfl (fun hc => (cv (t_not hc))) hx40) <| p (yl_move rfl) <|
          pg (v := .slice A_l_1 l_1.length c_l_1) 41 (c := !x40) (says_f _) (fun hq => Yl.at (yl_move eL5h_1)) <| pg (v := .int .i64 x32) 41 (c := !x40) (says_f _) (fun hq => Yl.at (yl_move rfl)) <| pg (v := .pointer (some ((adr A_l_1).add (x32.toNat * R_api_Cell.sz)))) 41 (c := !x40) (says_f _) (fun hq => Yl.at (yix_f sl_35 (cv hq) (cv hq) h_l_1 (hk7_11 hq))) <| pg (v := .pointer (some (((adr A_l_1).add (x32.toNat * R_api_Cell.sz)).add 1))) 41 (c := !x40) (says_f _) (fun hq => Yl.at (yl_fieldAddr fld_46_1 (cv hq))) <|
          pg (v := .bool ((gt l_1 x32).Flop)) 41 (c := !x40) (says_f _) (fun hq => (by obtain ⟨el, ek, ee⟩ := h_l_1.get (hk7_11 hq); obtain ⟨_q0, _q1, _q2, _q3, _q4, _q5, _q6, _q7, _q8, rfl, -⟩ := ek; exact at_load one_4 (cv hq) (Elt.ld (j := 1) ee (hS.pull 1) rfl))) <| pg (v := .bool (!((gt l_1 x32).Flop))) 41 (c := !x40) (says_f _) (fun hq => Yl.at (yl_not (cv hq))) <| p (yor' rfl rfl (fun hc => (cv (t_not hc))) hx48) <| x_done <|
          x_cond (t := x48) rfl (fun hc48 => ?_) (fun hc48 => ?_)
        · replace hFL5 := it_t hc48 hFL5
          refine x_seq <| x_region <| p (yl_assign rfl) <| p (yl_assign rfl) <|
            x_done <|
            ?_
          replace hS := St.vec_nil hS 48 R_tree_Window.sz
          have hnil_A_y0_ret : RepL R_tree_Window ρ [] [] := rfl
          obtain rfl := Option.some.inj (show some _ = some _ from hFL5)
          obtain rfl := (show _ = oL5 from hLL5)
          obtain rfl := Option.some.inj (show some _ = some _ from hF)
          exact x_return ⟨_, ⟨_, _, rfl, rfl, _, _, rfl, rfl, rfl⟩, none, 0, 0, [], rfl, hnil_A_y0_ret, (((hS.pull 1).drop.pull 1).pull 1)⟩
        · replace hFL5 := it_bf hc48 hFL5
          obtain ⟨x49, hx49, hFL5⟩ := ar_s hFL5
          refine x_skip <| x_blk <| x_region <| p (yadd eL5h_29 rfl hx49) <|
            p (yl_move rfl) <| x_done <|
            ?_
          obtain rfl := Option.some.inj (show some _ = some _ from hFL5)
          exact x_inv ⟨kL5, Nat.lt_succ_self _, x49, hLL5, eL5h_1, eL5h_2, eL5h_3, eL5h_27, eL5h_28, rfl, ((hS.pull 1).pull 1)⟩
      · replace hFL5 := it_f hc30 hFL5
        refine x_exitTo _ rfl <|
          ?_
        obtain rfl := Option.some.inj (show some _ = some _ from hFL5)
        exact x_inv ⟨hLL5, eL5h_1, eL5h_2, eL5h_3, ((hS.pull 1).pull 1)⟩
    rintro E w ⟨rfl, eL5_1, eL5_2, eL5_3, hS⟩
    refine x_seq <| x_region <| p (yl_field0 fld_38_1 eL5_3) <| pa (at_load one_22 rfl (hS.cell rfl)) <|
      p (yl_len_slice usl_22 rfl) <|
      ?_
    obtain ⟨hk10_3, hF⟩ := ck_s hF
    obtain ⟨z10_3, hz10_3, hF⟩ := lv_s hF
    refine o_mk sl_40 zero_48 (show R_tree_Window.ok ρ _ (T_tree_Window.mk 0 0) from rfl) rfl rfl hk10_3 (by decide) hz10_3 hS (fun A53 cs53 w' hr53 hS => ?_)
    refine p (yl_assign rfl) <| x_done <| x_seq <| x_seq <|
      x_region <| p (yl_field0 fld_38_1 eL5_3) <| pa (at_load one_22 rfl ((hS.pull 1).cell rfl)) <| p (yl_len_slice usl_22 rfl) <|
      p (yl_move rfl) <| x_done <|
      ?_
    obtain ⟨oL12, hLL12, hF⟩ := bd_s hF
    refine x_join (fun E w => ∃ (cs_at11_L12 : List Value) (at11_L12 : List T_tree_Window), at11_L12 = oL12 ∧ E 3 = .pointer (some ⟨b3, 0, none⟩) ∧ E 11 = .slice A53 z10_3.length z10_3.length ∧ RepL R_tree_Window ρ at11_L12 cs_at11_L12 ∧ St w0 w (cells b3 38 [.int .i64 t0.Cell, .slice A_t0_1 t0.Up.length c_t0_1, .slice A_t0_2 t0.Leaf.length c_t0_2] :: vec 48 R_tree_Window.sz (.slice A53 z10_3.length z10_3.length) z10_3.length cs_at11_L12 :: ro ρ :: l)) ?_ ?_
    · skip -- L12
      refine x_block ?_
      refine x_loop (fun k_ E w => ∃ (cs_at11_L12h : List Value) (at11_L12h : List T_tree_Window) (y57_L12h : Int), lp (P_tree_Arrivals_L12 t0 l_1 cells2) k_ (at11_L12h, y57_L12h) = some oL12 ∧ E 1 = .slice A_l_1 l_1.length c_l_1 ∧ E 2 = .slice A_cells2 cells2.length c_cells2 ∧ E 3 = .pointer (some ⟨b3, 0, none⟩) ∧ E 11 = .slice A53 z10_3.length z10_3.length ∧ E 55 = .slice A_t0_1 t0.Up.length c_t0_1 ∧ E 56 = .int .i64 (t0.Up.length : Int) ∧ E 57 = .int .i64 y57_L12h ∧ RepL R_tree_Window ρ at11_L12h cs_at11_L12h ∧ St w0 w (cells b3 38 [.int .i64 t0.Cell, .slice A_t0_1 t0.Up.length c_t0_1, .slice A_t0_2 t0.Leaf.length c_t0_2] :: vec 48 R_tree_Window.sz (.slice A53 z10_3.length z10_3.length) z10_3.length cs_at11_L12h :: ro ρ :: l)) fuel ⟨cs53, z10_3, 0, hLL12, eL5_1, eL5_2, eL5_3, rfl, rfl, rfl, rfl, hr53, (((hS.pull 2).pull 1).pull 2)⟩ ?_
      rintro kL12 E w ⟨cs_at11_L12h, at11_L12h, y57_L12h, hLL12, eL12h_1, eL12h_2, eL12h_3, eL12h_11, eL12h_55, eL12h_56, eL12h_57, h_at11_L12h, hS⟩
      obtain ⟨kL12, obL12, rfl, hFL12, hLL12⟩ := lp_s hLL12
      refine x_seq <| x_region <| p (yl_lss eL12h_57 eL12h_56) <| x_done <|
        x_seq <|
        x_cond_p (y57_L12h < (t0.Up.length : Int)) rfl (fun hc58 => ?_) (fun hc58 => ?_)
      · replace hFL12 := it_t hc58 hFL12
        obtain ⟨hk13_1, hFL12⟩ := ck_s hFL12
        obtain ⟨x61, hx61, hFL12⟩ := lv_s hFL12
        refine x_skip <| x_seq <| x_block <| x_seq <|
          x_region <| p (yl_move eL12h_57) <| p (yix_f sl_22 eL12h_55 eL12h_57 h_t0_1 hk13_1) <| pa (at_load one_3 rfl (RdS.getW h_t0_1 (hS.pull 2) hk13_1 hx61)) <|
          p (yl_assign rfl) <| p (yl_assign rfl) <| x_done <| x_seq <|
          ?_
        obtain ⟨hk14_3, hFL12⟩ := ck_s hFL12
        obtain ⟨y14_4, hy14_4, hFL12⟩ := lv_s hFL12
        obtain ⟨r14_9, hc14_9, hFL12⟩ := bd_s hFL12
        refine x_par (w0 := w0) [⟨[], [], [62], [], [], []⟩, ⟨[], [], [63], [], [], []⟩, ⟨[1], [1], [64], [0], [], []⟩, ⟨[0, 1, 2], [0, 2], [65], [1], [], []⟩, ⟨[0, 1, 2, 3], [3], [66], [1], [], []⟩, ⟨[], [], [67], [0], [], []⟩, ⟨[], [], [68], [], [], []⟩, ⟨[], [], [69], [], [], []⟩, ⟨[], [], [70], [], [], []⟩, ⟨[5, 6, 7, 8], [5, 6, 7, 8], [71], [1], [], []⟩, ⟨[], [], [14], [], [], [2]⟩, ⟨[0, 1, 2, 3, 4, 5, 6, 7, 8, 9, 10], [4, 10], [], [], [2], [3]⟩, ⟨[0, 1, 2, 3, 4, 5, 6, 7, 8, 9, 10, 11], [9], [15], [], [], []⟩] [⟨none, none, []⟩, ⟨none, none, []⟩, ⟨(some 10), (some 11), [14]⟩, ⟨(some 11), none, [14, 66]⟩] [14, 15, 62, 63, 64, 65, 66, 67, 68, 69, 70, 71] [0, 1] [0, 1, 3] [0, 1, 2, 3, 4, 5, 6, 7, 8, 9, 10, 12] [fun Ep14 => Ep14 62 = .slice A_l_1 l_1.length c_l_1, fun Ep14 => Ep14 63 = .pointer (some ⟨b3, 0, none⟩), fun Ep14 => Ep14 64 = .int .i64 t0.Cell, fun Ep14 => Ep14 65 = .pointer (some ((adr A_l_1).add (t0.Cell.toNat * R_api_Cell.sz))), fun Ep14 => Ep14 66 = .agg #[.string y14_4.Name, .bool y14_4.Flop, .int .i64 y14_4.Ins, .int .u64 y14_4.Table, .int .i64 y14_4.Area, .slice (adOf (partOf 5 (Ep14 66))) y14_4.Cap.length (capOf (partOf 5 (Ep14 66))), .slice (adOf (partOf 6 (Ep14 66))) y14_4.Min.length (capOf (partOf 6 (Ep14 66))), .slice (adOf (partOf 7 (Ep14 66))) y14_4.Max.length (capOf (partOf 7 (Ep14 66))), .int .i64 y14_4.Drive, .int .i64 y14_4.Setup, .int .i64 y14_4.Hold] ∧ RdS (RpI .i64) ρ (adOf (partOf 5 (Ep14 66))) y14_4.Cap.length (capOf (partOf 5 (Ep14 66))) y14_4.Cap ∧ RdS (RpI .i64) ρ (adOf (partOf 6 (Ep14 66))) y14_4.Min.length (capOf (partOf 6 (Ep14 66))) y14_4.Min ∧ RdS (RpI .i64) ρ (adOf (partOf 7 (Ep14 66))) y14_4.Max.length (capOf (partOf 7 (Ep14 66))) y14_4.Max, fun Ep14 => Ep14 67 = .agg #[.int .i64 t0.Cell, .slice A_t0_1 t0.Up.length c_t0_1, .slice A_t0_2 t0.Leaf.length c_t0_2], fun Ep14 => Ep14 68 = .int .i64 y57_L12h, fun Ep14 => Ep14 69 = .slice A_l_1 l_1.length c_l_1, fun Ep14 => Ep14 70 = .slice A_cells2 cells2.length c_cells2, fun Ep14 => Ep14 71 = .int .i64 r14_9, fun Ep14 => Ep14 14 = .pointer (some ⟨(blkOf (Ep14 14)), 0, none⟩), fun Ep14 => True, fun Ep14 => Ep14 15 = .int .i64 r14_9] [fun Ep14 => cells b3 38 [.int .i64 t0.Cell, .slice A_t0_1 t0.Up.length c_t0_1, .slice A_t0_2 t0.Leaf.length c_t0_2], fun Ep14 => ro ρ, fun Ep14 => cells (blkOf (Ep14 14)) 46 [.string (⟨#[]⟩ : ByteArray), .bool false, .int .i64 0, .int .u64 0, .int .i64 0, .slice none 0 0, .slice none 0 0, .slice none 0 0, .int .i64 0, .int .i64 0, .int .i64 0], fun Ep14 => cells (blkOf (Ep14 14)) 46 [.string y14_4.Name, .bool y14_4.Flop, .int .i64 y14_4.Ins, .int .u64 y14_4.Table, .int .i64 y14_4.Area, .slice (adOf (partOf 5 (Ep14 66))) y14_4.Cap.length (capOf (partOf 5 (Ep14 66))), .slice (adOf (partOf 6 (Ep14 66))) y14_4.Min.length (capOf (partOf 6 (Ep14 66))), .slice (adOf (partOf 7 (Ep14 66))) y14_4.Max.length (capOf (partOf 7 (Ep14 66))), .int .i64 y14_4.Drive, .int .i64 y14_4.Setup, .int .i64 y14_4.Hold]] mixed (by kernel_rfl) ((hS.pull 2).pull 1) ?_ ?_
        · refine ⟨?_, ?_, ?_, ?_, ?_, ?_, ?_, ?_, ?_, ?_, ?_, ?_, ?_, trivial⟩
          · intro Ep14 w l' hE14 hO14 hF_ hS
            refine p (yl_move ((hE14 1 rfl).trans eL12h_1)) <| x_done <|
              ?_
            refine x_fin ⟨⟨_, rfl⟩, rfl, ?_⟩
            exact Eq.mp (by kernel_rfl) hS
          · intro Ep14 w l' hE14 hO14 hF_ hS
            refine p (yl_field0 fld_38_0 ((hE14 3 rfl).trans eL12h_3)) <| x_done <|
              ?_
            refine x_fin ⟨⟨_, rfl⟩, rfl, ?_⟩
            exact Eq.mp (by kernel_rfl) hS
          · intro Ep14 w l' hE14 hO14 hF_ hS
            obtain ⟨f14_1, -⟩ := hF_
            replace f14_1 : Ep14 63 = .pointer (some ⟨b3, 0, none⟩) := Eq.mp (by kernel_rfl) f14_1
            replace hS : St w0 w (cells b3 38 [.int .i64 t0.Cell, .slice A_t0_1 t0.Up.length c_t0_1, .slice A_t0_2 t0.Leaf.length c_t0_2] :: l') := Eq.mp (by kernel_rfl) hS
            refine pa (at_load one_3 f14_1 (hS.cell rfl)) <| x_done <|
              ?_
            refine x_fin ⟨⟨_, rfl⟩, rfl, ?_⟩
            exact Eq.mp (by kernel_rfl) hS
          · intro Ep14 w l' hE14 hO14 hF_ hS
            obtain ⟨f14_0, f14_2, -⟩ := hF_
            replace f14_0 : Ep14 62 = .slice A_l_1 l_1.length c_l_1 := Eq.mp (by kernel_rfl) f14_0
            replace f14_2 : Ep14 64 = .int .i64 t0.Cell := Eq.mp (by kernel_rfl) f14_2
            replace hS : St w0 w (ro ρ :: l') := Eq.mp (by kernel_rfl) hS
            refine p (yix_f sl_35 f14_0 f14_2 h_l_1 hk14_3) <| x_done <|
              ?_
            refine x_fin ⟨⟨_, rfl⟩, rfl, ?_⟩
            exact Eq.mp (by kernel_rfl) hS
          · intro Ep14 w l' hE14 hO14 hF_ hS
            obtain ⟨f14_3, -⟩ := hF_
            replace f14_3 : Ep14 65 = .pointer (some ((adr A_l_1).add (t0.Cell.toNat * R_api_Cell.sz))) := Eq.mp (by kernel_rfl) f14_3
            replace hS : St w0 w (ro ρ :: l') := Eq.mp (by kernel_rfl) hS
            obtain ⟨el14_4, ek14_4, ee14_4⟩ := h_l_1.get hk14_3
            rw [← hy14_4] at ek14_4
            obtain ⟨A14_4_5, n14_4_5, c14_4_5, A14_4_6, n14_4_6, c14_4_6, A14_4_7, n14_4_7, c14_4_7, rfl, f14_4_5, f14_4_6, f14_4_7⟩ := ek14_4
            obtain rfl := f14_4_5.n
            obtain rfl := f14_4_6.n
            obtain rfl := f14_4_7.n
            refine pa (v := .agg #[.string y14_4.Name, .bool y14_4.Flop, .int .i64 y14_4.Ins, .int .u64 y14_4.Table, .int .i64 y14_4.Area, .slice A14_4_5 y14_4.Cap.length c14_4_5, .slice A14_4_6 y14_4.Min.length c14_4_6, .slice A14_4_7 y14_4.Max.length c14_4_7, .int .i64 y14_4.Drive, .int .i64 y14_4.Setup, .int .i64 y14_4.Hold]) (at_loadAgg agg_46 f14_3 rfl (Elt.every ee14_4 hS)) <| x_done <|
              ?_
            refine x_fin ⟨⟨_, rfl⟩, ⟨rfl, f14_4_5, f14_4_6, f14_4_7⟩, ?_⟩
            exact Eq.mp (by kernel_rfl) hS
          · intro Ep14 w l' hE14 hO14 hF_ hS
            replace hS : St w0 w (cells b3 38 [.int .i64 t0.Cell, .slice A_t0_1 t0.Up.length c_t0_1, .slice A_t0_2 t0.Leaf.length c_t0_2] :: l') := Eq.mp (by kernel_rfl) hS
            refine pa (v := .agg #[.int .i64 t0.Cell, .slice A_t0_1 t0.Up.length c_t0_1, .slice A_t0_2 t0.Leaf.length c_t0_2]) (ld_sub agg_38 ((hE14 3 rfl).trans eL12h_3) rfl rfl hS) <| x_done <|
              ?_
            refine x_fin ⟨⟨_, rfl⟩, rfl, ?_⟩
            exact Eq.mp (by kernel_rfl) hS
          · intro Ep14 w l' hE14 hO14 hF_ hS
            refine p (yl_move (hE14 12 rfl)) <| x_done <|
              ?_
            refine x_fin ⟨⟨_, rfl⟩, rfl, ?_⟩
            exact Eq.mp (by kernel_rfl) hS
          · intro Ep14 w l' hE14 hO14 hF_ hS
            refine p (yl_move ((hE14 1 rfl).trans eL12h_1)) <| x_done <|
              ?_
            refine x_fin ⟨⟨_, rfl⟩, rfl, ?_⟩
            exact Eq.mp (by kernel_rfl) hS
          · intro Ep14 w l' hE14 hO14 hF_ hS
            refine p (yl_move ((hE14 2 rfl).trans eL12h_2)) <| x_done <|
              ?_
            refine x_fin ⟨⟨_, rfl⟩, rfl, ?_⟩
            exact Eq.mp (by kernel_rfl) hS
          · intro Ep14 w l' hE14 hO14 hF_ hS
            obtain ⟨f14_5, f14_6, f14_7, f14_8, -⟩ := hF_
            replace f14_5 : Ep14 67 = .agg #[.int .i64 t0.Cell, .slice A_t0_1 t0.Up.length c_t0_1, .slice A_t0_2 t0.Leaf.length c_t0_2] := Eq.mp (by kernel_rfl) f14_5
            replace f14_6 : Ep14 68 = .int .i64 y57_L12h := Eq.mp (by kernel_rfl) f14_6
            replace f14_7 : Ep14 69 = .slice A_l_1 l_1.length c_l_1 := Eq.mp (by kernel_rfl) f14_7
            replace f14_8 : Ep14 70 = .slice A_cells2 cells2.length c_cells2 := Eq.mp (by kernel_rfl) f14_8
            replace hS : St w0 w (ro ρ :: l') := Eq.mp (by kernel_rfl) hS
            have hcall := c_tree_Load hc14_9 h_t0_1 h_t0_2 h_l_1 h_cells2 hS
            refine o_cc call_22 (args4 f14_5 f14_6 f14_7 f14_8) (hcall) ?_
            rintro e w' ⟨rfl, hS⟩
            refine ⟨_, rfl, ?_⟩
            refine x_done <|
              ?_
            refine x_fin ⟨⟨_, rfl⟩, rfl, ?_⟩
            exact Eq.mp (by kernel_rfl) hS
          · intro Ep14 w l' hE14 hO14 hF_ hS
            refine o_alloc zero_46 hS (fun b14 w' hS => ?_)
            refine x_done <|
              ?_
            refine x_fin ⟨⟨_, rfl⟩, rfl, ?_⟩
            exact Eq.mp (by kernel_rfl) hS
          · intro Ep14 w l' hE14 hO14 hF_ hS
            obtain ⟨f14_4, f14_10, -⟩ := hF_
            replace f14_4 : Ep14 66 = .agg #[.string y14_4.Name, .bool y14_4.Flop, .int .i64 y14_4.Ins, .int .u64 y14_4.Table, .int .i64 y14_4.Area, .slice (adOf (partOf 5 (Ep14 66))) y14_4.Cap.length (capOf (partOf 5 (Ep14 66))), .slice (adOf (partOf 6 (Ep14 66))) y14_4.Min.length (capOf (partOf 6 (Ep14 66))), .slice (adOf (partOf 7 (Ep14 66))) y14_4.Max.length (capOf (partOf 7 (Ep14 66))), .int .i64 y14_4.Drive, .int .i64 y14_4.Setup, .int .i64 y14_4.Hold] ∧ RdS (RpI .i64) ρ (adOf (partOf 5 (Ep14 66))) y14_4.Cap.length (capOf (partOf 5 (Ep14 66))) y14_4.Cap ∧ RdS (RpI .i64) ρ (adOf (partOf 6 (Ep14 66))) y14_4.Min.length (capOf (partOf 6 (Ep14 66))) y14_4.Min ∧ RdS (RpI .i64) ρ (adOf (partOf 7 (Ep14 66))) y14_4.Max.length (capOf (partOf 7 (Ep14 66))) y14_4.Max := Eq.mp (by kernel_rfl) f14_4
            obtain ⟨-, f14_4a, f14_4b, f14_4c⟩ := id f14_4
            replace f14_10 : Ep14 14 = .pointer (some ⟨(blkOf (Ep14 14)), 0, none⟩) := Eq.mp (by kernel_rfl) f14_10
            replace hS : St w0 w (cells (blkOf (Ep14 14)) 46 [.string (⟨#[]⟩ : ByteArray), .bool false, .int .i64 0, .int .u64 0, .int .i64 0, .slice none 0 0, .slice none 0 0, .slice none 0 0, .int .i64 0, .int .i64 0, .int .i64 0] :: l') := Eq.mp (by kernel_rfl) hS
            refine o_storeAgg (news := [.string y14_4.Name, .bool y14_4.Flop, .int .i64 y14_4.Ins, .int .u64 y14_4.Table, .int .i64 y14_4.Area, .slice (adOf (partOf 5 (Ep14 66))) y14_4.Cap.length (capOf (partOf 5 (Ep14 66))), .slice (adOf (partOf 6 (Ep14 66))) y14_4.Min.length (capOf (partOf 6 (Ep14 66))), .slice (adOf (partOf 7 (Ep14 66))) y14_4.Max.length (capOf (partOf 7 (Ep14 66))), .int .i64 y14_4.Drive, .int .i64 y14_4.Setup, .int .i64 y14_4.Hold]) agg_46 f14_10 f14_4.1 rfl (by simp [over_length]) hS (fun w' hS => ?_)
            refine x_done <|
              ?_
            refine x_fin ⟨⟨undef, rfl⟩, trivial, ?_⟩
            exact Eq.mp (by kernel_rfl) hS
          · intro Ep14 w l' hE14 hO14 hF_ hS
            obtain ⟨f14_9, -⟩ := hF_
            replace f14_9 : Ep14 71 = .int .i64 r14_9 := Eq.mp (by kernel_rfl) f14_9
            refine p (v := .int .i64 r14_9) (yl_assign f14_9) <| x_done <|
              ?_
            refine x_fin ⟨⟨_, rfl⟩, rfl, ?_⟩
            exact Eq.mp (by kernel_rfl) hS
        intro Ep14 w' hE14 hF_ hS
        obtain ⟨f14_0, f14_1, f14_2, f14_3, f14_4, f14_5, f14_6, f14_7, f14_8, f14_9, f14_10, f14_12, -⟩ := hF_
        replace f14_0 : Ep14 62 = .slice A_l_1 l_1.length c_l_1 := Eq.mp (by kernel_rfl) f14_0
        replace f14_1 : Ep14 63 = .pointer (some ⟨b3, 0, none⟩) := Eq.mp (by kernel_rfl) f14_1
        replace f14_2 : Ep14 64 = .int .i64 t0.Cell := Eq.mp (by kernel_rfl) f14_2
        replace f14_3 : Ep14 65 = .pointer (some ((adr A_l_1).add (t0.Cell.toNat * R_api_Cell.sz))) := Eq.mp (by kernel_rfl) f14_3
        replace f14_4 : Ep14 66 = .agg #[.string y14_4.Name, .bool y14_4.Flop, .int .i64 y14_4.Ins, .int .u64 y14_4.Table, .int .i64 y14_4.Area, .slice (adOf (partOf 5 (Ep14 66))) y14_4.Cap.length (capOf (partOf 5 (Ep14 66))), .slice (adOf (partOf 6 (Ep14 66))) y14_4.Min.length (capOf (partOf 6 (Ep14 66))), .slice (adOf (partOf 7 (Ep14 66))) y14_4.Max.length (capOf (partOf 7 (Ep14 66))), .int .i64 y14_4.Drive, .int .i64 y14_4.Setup, .int .i64 y14_4.Hold] ∧ RdS (RpI .i64) ρ (adOf (partOf 5 (Ep14 66))) y14_4.Cap.length (capOf (partOf 5 (Ep14 66))) y14_4.Cap ∧ RdS (RpI .i64) ρ (adOf (partOf 6 (Ep14 66))) y14_4.Min.length (capOf (partOf 6 (Ep14 66))) y14_4.Min ∧ RdS (RpI .i64) ρ (adOf (partOf 7 (Ep14 66))) y14_4.Max.length (capOf (partOf 7 (Ep14 66))) y14_4.Max := Eq.mp (by kernel_rfl) f14_4
        obtain ⟨-, f14_4a, f14_4b, f14_4c⟩ := id f14_4
        replace f14_5 : Ep14 67 = .agg #[.int .i64 t0.Cell, .slice A_t0_1 t0.Up.length c_t0_1, .slice A_t0_2 t0.Leaf.length c_t0_2] := Eq.mp (by kernel_rfl) f14_5
        replace f14_6 : Ep14 68 = .int .i64 y57_L12h := Eq.mp (by kernel_rfl) f14_6
        replace f14_7 : Ep14 69 = .slice A_l_1 l_1.length c_l_1 := Eq.mp (by kernel_rfl) f14_7
        replace f14_8 : Ep14 70 = .slice A_cells2 cells2.length c_cells2 := Eq.mp (by kernel_rfl) f14_8
        replace f14_9 : Ep14 71 = .int .i64 r14_9 := Eq.mp (by kernel_rfl) f14_9
        replace f14_10 : Ep14 14 = .pointer (some ⟨(blkOf (Ep14 14)), 0, none⟩) := Eq.mp (by kernel_rfl) f14_10
        replace f14_12 : Ep14 15 = .int .i64 r14_9 := Eq.mp (by kernel_rfl) f14_12
        replace hS : St w0 w' (cells b3 38 [.int .i64 t0.Cell, .slice A_t0_1 t0.Up.length c_t0_1, .slice A_t0_2 t0.Leaf.length c_t0_2] :: ro ρ :: cells (blkOf (Ep14 14)) 46 [.string y14_4.Name, .bool y14_4.Flop, .int .i64 y14_4.Ins, .int .u64 y14_4.Table, .int .i64 y14_4.Area, .slice (adOf (partOf 5 (Ep14 66))) y14_4.Cap.length (capOf (partOf 5 (Ep14 66))), .slice (adOf (partOf 6 (Ep14 66))) y14_4.Min.length (capOf (partOf 6 (Ep14 66))), .slice (adOf (partOf 7 (Ep14 66))) y14_4.Max.length (capOf (partOf 7 (Ep14 66))), .int .i64 y14_4.Drive, .int .i64 y14_4.Setup, .int .i64 y14_4.Hold] :: (vec 48 R_tree_Window.sz (.slice A53 z10_3.length z10_3.length) z10_3.length cs_at11_L12h :: l)) := Eq.mp (by kernel_rfl) hS
        obtain ⟨hk15_4, hFL12⟩ := ck_s hFL12
        obtain ⟨x77, hx77, hFL12⟩ := lv_s hFL12
        obtain ⟨x81, hx81, hFL12⟩ := ar_s hFL12
        obtain ⟨x82, hx82, hFL12⟩ := ar_s hFL12
        obtain ⟨hk15_13, hFL12⟩ := ck_s hFL12
        obtain ⟨x86, hx86, hFL12⟩ := lv_s hFL12
        obtain ⟨x90, hx90, hFL12⟩ := ar_s hFL12
        obtain ⟨x91, hx91, hFL12⟩ := ar_s hFL12
        obtain ⟨hk15_21, hFL12⟩ := ck_s hFL12
        refine x_seq <| x_head 22 mixed (by kernel_rfl) hS _ _ rfl rfl <| q (yl_move ((hE14 11 rfl).trans eL12h_11)) <| q (yl_move (hE14 12 rfl)) <|
          q (yl_field0 fld_46_6 f14_10) <| qa (fun w' hS => at_load one_22 rfl ((hS.pull 2).cell rfl)) <| q (yix_f sl_22 rfl rfl f14_4b hk15_4) <| qa (fun w' hS => at_load one_3 rfl (RdS.getW f14_4b (hS.pull 1) hk15_4 hx77)) <|
          q (yl_field0 fld_46_8 f14_10) <| qa (fun w' hS => at_load one_3 rfl ((hS.pull 2).cell rfl)) <| q (v := .int .i64 r14_9) (yl_move f14_12) <| q (ymul rfl rfl hx81) <|
          q (yadd rfl rfl hx82) <| q (yl_field0 fld_46_7 f14_10) <| qa (fun w' hS => at_load one_22 rfl ((hS.pull 2).cell rfl)) <| q (yix_f sl_22 rfl rfl f14_4c hk15_13) <|
          qa (fun w' hS => at_load one_3 rfl (RdS.getW f14_4c (hS.pull 1) hk15_13 hx86)) <| q (yl_field0 fld_46_8 f14_10) <| qa (fun w' hS => at_load one_3 rfl ((hS.pull 2).cell rfl)) <| q (v := .int .i64 r14_9) (yl_move f14_12) <|
          q (ymul rfl rfl hx90) <| q (yadd rfl rfl hx91) <| q (v := .agg #[.int .i64 x82, .int .i64 x91]) (yl_build bld_48 bldf_48 (parts_eq (pt (va := .int .i64 x82) rfl (pt (va := .int .i64 x91) rfl pt0))) (by kernel_rfl)) <| q (yix_o sl_40 rfl rfl (hS.pull 3) h_at11_L12h hk15_21) <|
          q_done fun w' hS => ?_
        obtain ⟨z15_22, hz15_22, hFL12⟩ := lv_s hFL12
        refine o_put' (news := [.int .i64 x82, .int .i64 x91]) sz_48 rfl rfl rfl rfl (o := 0) rfl hk15_21 rfl (hS.pull 3) h_at11_L12h (Le.refl _) (fun c hc => ok_all hc (show R_tree_Window.ok ρ [.int .i64 x82, .int .i64 x91] (T_tree_Window.mk x82 x91) from rfl)) hz15_22 (fun cs15_22 w' hr15_22 hS => ?_)
        refine x_done <| x_seq <| x_region <| p (yl_move (hE14 13 rfl)) <|
          p (yl_geq rfl rfl) <| x_done <|
          ?_
        obtain ⟨oc95, hFc95, hFL12⟩ := bd_s hFL12
        refine x_join (fun E w => ∃ (cs_at11_c95 : List Value) (at11_c95 : List T_tree_Window), at11_c95 = oc95 ∧ E 1 = .slice A_l_1 l_1.length c_l_1 ∧ E 2 = .slice A_cells2 cells2.length c_cells2 ∧ E 3 = .pointer (some ⟨b3, 0, none⟩) ∧ E 11 = .slice A53 z10_3.length z10_3.length ∧ E 55 = .slice A_t0_1 t0.Up.length c_t0_1 ∧ E 56 = .int .i64 (t0.Up.length : Int) ∧ E 57 = .int .i64 y57_L12h ∧ RepL R_tree_Window ρ at11_c95 cs_at11_c95 ∧ St w0 w (cells b3 38 [.int .i64 t0.Cell, .slice A_t0_1 t0.Up.length c_t0_1, .slice A_t0_2 t0.Leaf.length c_t0_2] :: vec 48 R_tree_Window.sz (.slice A53 z10_3.length z10_3.length) z10_3.length cs_at11_c95 :: ro ρ :: l)) ?_ ?_
        · skip -- c95
          refine x_cond_p (0 ≤ x61) rfl (fun hc95 => ?_) (fun hc95 => ?_)
          · replace hFc95 := it_t hc95 hFc95
            obtain ⟨hk17_6, hFc95⟩ := ck_s hFc95
            obtain ⟨y17_8, hy17_8, hFc95⟩ := lv_s hFc95
            obtain ⟨hk17_11, hFc95⟩ := ck_s hFc95
            obtain ⟨y17_13, hy17_13, hFc95⟩ := lv_s hFc95
            obtain ⟨x110, hx110, hFc95⟩ := ar_s hFc95
            obtain ⟨hk17_17, hFc95⟩ := ck_s hFc95
            obtain ⟨y17_19, hy17_19, hFc95⟩ := lv_s hFc95
            obtain ⟨hk17_22, hFc95⟩ := ck_s hFc95
            obtain ⟨y17_24, hy17_24, hFc95⟩ := lv_s hFc95
            obtain ⟨x121, hx121, hFc95⟩ := ar_s hFc95
            obtain ⟨hk17_26, hFc95⟩ := ck_s hFc95
            obtain ⟨z17_28, hz17_28, hFc95⟩ := lv_s hFc95
            obtain ⟨hk17_29, hFc95⟩ := ck_s hFc95
            obtain ⟨z17_31, hz17_31, hFc95⟩ := lv_s hFc95
            refine x_par (w0 := w0) [⟨[], [], [96], [], [], []⟩, ⟨[], [], [97], [], [], []⟩, ⟨[], [], [98], [], [], []⟩, ⟨[], [], [99], [], [], []⟩, ⟨[], [], [100], [], [], []⟩, ⟨[], [], [101], [], [], []⟩, ⟨[4, 5], [4, 5], [102], [0], [], []⟩, ⟨[4, 5, 6], [6], [103], [], [], []⟩, ⟨[4, 5, 6, 7], [7], [104], [0], [], []⟩, ⟨[], [], [105], [], [], []⟩, ⟨[], [], [106], [], [], []⟩, ⟨[9, 10], [9, 10], [107], [0], [], []⟩, ⟨[9, 10, 11], [11], [108], [], [], []⟩, ⟨[9, 10, 11, 12], [12], [109], [0], [], []⟩, ⟨[4, 5, 6, 7, 8, 9, 10, 11, 12, 13], [8, 13], [110], [], [], []⟩, ⟨[], [], [111], [], [], []⟩, ⟨[], [], [112], [], [], []⟩, ⟨[15, 16], [15, 16], [113], [0], [], []⟩, ⟨[15, 16, 17], [17], [114], [], [], []⟩, ⟨[15, 16, 17, 18], [18], [115], [0], [], []⟩, ⟨[], [], [116], [], [], []⟩, ⟨[], [], [117], [], [], []⟩, ⟨[20, 21], [20, 21], [118], [0], [], []⟩, ⟨[20, 21, 22], [22], [119], [], [], []⟩, ⟨[20, 21, 22, 23], [23], [120], [0], [], []⟩, ⟨[15, 16, 17, 18, 19, 20, 21, 22, 23, 24], [19, 24], [121], [], [], []⟩, ⟨[0, 1, 4, 5, 6, 7, 8, 9, 10, 11, 12, 13, 14, 15, 16, 17, 18, 19, 20, 21, 22, 23, 24], [0, 1], [122], [0], [], []⟩, ⟨[0, 1, 4, 5, 6, 7, 8, 9, 10, 11, 12, 13, 14, 15, 16, 17, 18, 19, 20, 21, 22, 23, 24, 26], [26], [123], [], [], []⟩, ⟨[0, 1, 4, 5, 6, 7, 8, 9, 10, 11, 12, 13, 14, 15, 16, 17, 18, 19, 20, 21, 22, 23, 24, 26, 27], [14, 27], [], [], [0], [1]⟩, ⟨[0, 1, 2, 3, 4, 5, 6, 7, 8, 9, 10, 11, 12, 13, 14, 15, 16, 17, 18, 19, 20, 21, 22, 23, 24, 25, 26, 27, 28], [2, 3], [124], [2, 1], [], []⟩, ⟨[0, 1, 2, 3, 4, 5, 6, 7, 8, 9, 10, 11, 12, 13, 14, 15, 16, 17, 18, 19, 20, 21, 22, 23, 24, 25, 26, 27, 28, 29], [29], [125], [], [], []⟩, ⟨[0, 1, 2, 3, 4, 5, 6, 7, 8, 9, 10, 11, 12, 13, 14, 15, 16, 17, 18, 19, 20, 21, 22, 23, 24, 25, 26, 27, 28, 29, 30], [25, 30], [], [2], [1], [3]⟩] [⟨none, (some 28), []⟩, ⟨(some 28), (some 31), []⟩, ⟨none, none, []⟩, ⟨(some 31), none, []⟩] [96, 97, 98, 99, 100, 101, 102, 103, 104, 105, 106, 107, 108, 109, 110, 111, 112, 113, 114, 115, 116, 117, 118, 119, 120, 121, 122, 123, 124, 125] [0, 2] [2, 3] [0, 1, 2, 3, 4, 5, 6, 7, 8, 9, 10, 11, 12, 13, 14, 15, 16, 17, 18, 19, 20, 21, 22, 23, 24, 25, 26, 27, 29, 30] [fun Ep17 => Ep17 96 = .slice A53 z10_3.length z10_3.length, fun Ep17 => Ep17 97 = .int .i64 y57_L12h, fun Ep17 => Ep17 98 = .slice A53 z10_3.length z10_3.length, fun Ep17 => Ep17 99 = .int .i64 y57_L12h, fun Ep17 => Ep17 100 = .slice A53 z10_3.length z10_3.length, fun Ep17 => Ep17 101 = .int .i64 y57_L12h, fun Ep17 => Ep17 102 = .pointer (some ((adr A53).add (y57_L12h.toNat * R_tree_Window.sz))), fun Ep17 => Ep17 103 = .pointer (some (((adr A53).add (y57_L12h.toNat * R_tree_Window.sz)).add 0)), fun Ep17 => Ep17 104 = .int .i64 y17_8.Lo, fun Ep17 => Ep17 105 = .slice A53 z10_3.length z10_3.length, fun Ep17 => Ep17 106 = .int .i64 x61, fun Ep17 => Ep17 107 = .pointer (some ((adr A53).add (x61.toNat * R_tree_Window.sz))), fun Ep17 => Ep17 108 = .pointer (some (((adr A53).add (x61.toNat * R_tree_Window.sz)).add 0)), fun Ep17 => Ep17 109 = .int .i64 y17_13.Lo, fun Ep17 => Ep17 110 = .int .i64 x110, fun Ep17 => Ep17 111 = .slice A53 z10_3.length z10_3.length, fun Ep17 => Ep17 112 = .int .i64 y57_L12h, fun Ep17 => Ep17 113 = .pointer (some ((adr A53).add (y57_L12h.toNat * R_tree_Window.sz))), fun Ep17 => Ep17 114 = .pointer (some (((adr A53).add (y57_L12h.toNat * R_tree_Window.sz)).add 1)), fun Ep17 => Ep17 115 = .int .i64 y17_19.Hi, fun Ep17 => Ep17 116 = .slice A53 z10_3.length z10_3.length, fun Ep17 => Ep17 117 = .int .i64 x61, fun Ep17 => Ep17 118 = .pointer (some ((adr A53).add (x61.toNat * R_tree_Window.sz))), fun Ep17 => Ep17 119 = .pointer (some (((adr A53).add (x61.toNat * R_tree_Window.sz)).add 1)), fun Ep17 => Ep17 120 = .int .i64 y17_24.Hi, fun Ep17 => Ep17 121 = .int .i64 x121, fun Ep17 => Ep17 122 = .pointer (some ((adr A53).add (y57_L12h.toNat * R_tree_Window.sz))), fun Ep17 => Ep17 123 = .pointer (some (((adr A53).add (y57_L12h.toNat * R_tree_Window.sz)).add 0)), fun Ep17 => True, fun Ep17 => Ep17 124 = .pointer (some ((adr A53).add (y57_L12h.toNat * R_tree_Window.sz))), fun Ep17 => Ep17 125 = .pointer (some (((adr A53).add (y57_L12h.toNat * R_tree_Window.sz)).add 1)), fun Ep17 => True] [fun Ep17 => vec 48 R_tree_Window.sz (.slice A53 z10_3.length z10_3.length) z10_3.length cs15_22, fun Ep17 => bunA (fun (cs17_28 : List Value) => RepL R_tree_Window ρ z17_28 cs17_28) (fun (cs17_28 : List Value) => [vec 48 R_tree_Window.sz (.slice A53 z10_3.length z10_3.length) z10_3.length cs17_28]), fun Ep17 => ro ρ, fun Ep17 => bunA (fun (cs17_31 : List Value) => RepL R_tree_Window ρ z17_31 cs17_31) (fun (cs17_31 : List Value) => [vec 48 R_tree_Window.sz (.slice A53 z10_3.length z10_3.length) z10_3.length cs17_31])] mixed (by kernel_rfl) ((hS.pull 2).pull 1) ?_ ?_
            · refine ⟨?_, ?_, ?_, ?_, ?_, ?_, ?_, ?_, ?_, ?_, ?_, ?_, ?_, ?_, ?_, ?_, ?_, ?_, ?_, ?_, ?_, ?_, ?_, ?_, ?_, ?_, ?_, ?_, ?_, ?_, ?_, ?_, trivial⟩
              · intro Ep17 w l' hE17 hO17 hF_ hS
                refine p (yl_move ((hE17 11 rfl).trans ((hE14 11 rfl).trans eL12h_11))) <| x_done <|
                  ?_
                refine x_fin ⟨⟨_, rfl⟩, rfl, ?_⟩
                exact Eq.mp (by kernel_rfl) hS
              · intro Ep17 w l' hE17 hO17 hF_ hS
                refine p (yl_move ((hE17 12 rfl).trans (hE14 12 rfl))) <| x_done <|
                  ?_
                refine x_fin ⟨⟨_, rfl⟩, rfl, ?_⟩
                exact Eq.mp (by kernel_rfl) hS
              · intro Ep17 w l' hE17 hO17 hF_ hS
                refine p (yl_move ((hE17 11 rfl).trans ((hE14 11 rfl).trans eL12h_11))) <| x_done <|
                  ?_
                refine x_fin ⟨⟨_, rfl⟩, rfl, ?_⟩
                exact Eq.mp (by kernel_rfl) hS
              · intro Ep17 w l' hE17 hO17 hF_ hS
                refine p (yl_move ((hE17 12 rfl).trans (hE14 12 rfl))) <| x_done <|
                  ?_
                refine x_fin ⟨⟨_, rfl⟩, rfl, ?_⟩
                exact Eq.mp (by kernel_rfl) hS
              · intro Ep17 w l' hE17 hO17 hF_ hS
                refine p (yl_move ((hE17 11 rfl).trans ((hE14 11 rfl).trans eL12h_11))) <| x_done <|
                  ?_
                refine x_fin ⟨⟨_, rfl⟩, rfl, ?_⟩
                exact Eq.mp (by kernel_rfl) hS
              · intro Ep17 w l' hE17 hO17 hF_ hS
                refine p (yl_move ((hE17 12 rfl).trans (hE14 12 rfl))) <| x_done <|
                  ?_
                refine x_fin ⟨⟨_, rfl⟩, rfl, ?_⟩
                exact Eq.mp (by kernel_rfl) hS
              · intro Ep17 w l' hE17 hO17 hF_ hS
                obtain ⟨f17_4, f17_5, -⟩ := hF_
                replace f17_4 : Ep17 100 = .slice A53 z10_3.length z10_3.length := Eq.mp (by kernel_rfl) f17_4
                replace f17_5 : Ep17 101 = .int .i64 y57_L12h := Eq.mp (by kernel_rfl) f17_5
                replace hS : St w0 w (vec 48 R_tree_Window.sz (.slice A53 z10_3.length z10_3.length) z10_3.length cs15_22 :: l') := Eq.mp (by kernel_rfl) hS
                refine p (yix_o sl_40 f17_4 f17_5 hS hr15_22 hk17_6) <| x_done <|
                  ?_
                refine x_fin ⟨⟨_, rfl⟩, rfl, ?_⟩
                exact Eq.mp (by kernel_rfl) hS
              · intro Ep17 w l' hE17 hO17 hF_ hS
                obtain ⟨f17_6, -⟩ := hF_
                replace f17_6 : Ep17 102 = .pointer (some ((adr A53).add (y57_L12h.toNat * R_tree_Window.sz))) := Eq.mp (by kernel_rfl) f17_6
                refine p (yl_fieldAddr fld_48_0 f17_6) <| x_done <|
                  ?_
                refine x_fin ⟨⟨_, rfl⟩, rfl, ?_⟩
                exact Eq.mp (by kernel_rfl) hS
              · intro Ep17 w l' hE17 hO17 hF_ hS
                obtain ⟨f17_7, -⟩ := hF_
                replace f17_7 : Ep17 103 = .pointer (some (((adr A53).add (y57_L12h.toNat * R_tree_Window.sz)).add 0)) := Eq.mp (by kernel_rfl) f17_7
                replace hS : St w0 w (vec 48 R_tree_Window.sz (.slice A53 z10_3.length z10_3.length) z10_3.length cs15_22 :: l') := Eq.mp (by kernel_rfl) hS
                obtain ⟨el17_8, ek17_8, ee17_8⟩ := hr15_22.get hk17_6
                rw [← hy17_8] at ek17_8
                obtain rfl := ek17_8
                refine pa (at_load one_3 f17_7 (EltV.ld (m := 0) ee17_8 hS rfl)) <| x_done <|
                  ?_
                refine x_fin ⟨⟨_, rfl⟩, rfl, ?_⟩
                exact Eq.mp (by kernel_rfl) hS
              · intro Ep17 w l' hE17 hO17 hF_ hS
                refine p (yl_move ((hE17 11 rfl).trans ((hE14 11 rfl).trans eL12h_11))) <| x_done <|
                  ?_
                refine x_fin ⟨⟨_, rfl⟩, rfl, ?_⟩
                exact Eq.mp (by kernel_rfl) hS
              · intro Ep17 w l' hE17 hO17 hF_ hS
                refine p (yl_move ((hE17 13 rfl).trans (hE14 13 rfl))) <| x_done <|
                  ?_
                refine x_fin ⟨⟨_, rfl⟩, rfl, ?_⟩
                exact Eq.mp (by kernel_rfl) hS
              · intro Ep17 w l' hE17 hO17 hF_ hS
                obtain ⟨f17_9, f17_10, -⟩ := hF_
                replace f17_9 : Ep17 105 = .slice A53 z10_3.length z10_3.length := Eq.mp (by kernel_rfl) f17_9
                replace f17_10 : Ep17 106 = .int .i64 x61 := Eq.mp (by kernel_rfl) f17_10
                replace hS : St w0 w (vec 48 R_tree_Window.sz (.slice A53 z10_3.length z10_3.length) z10_3.length cs15_22 :: l') := Eq.mp (by kernel_rfl) hS
                refine p (yix_o sl_40 f17_9 f17_10 hS hr15_22 hk17_11) <| x_done <|
                  ?_
                refine x_fin ⟨⟨_, rfl⟩, rfl, ?_⟩
                exact Eq.mp (by kernel_rfl) hS
              · intro Ep17 w l' hE17 hO17 hF_ hS
                obtain ⟨f17_11, -⟩ := hF_
                replace f17_11 : Ep17 107 = .pointer (some ((adr A53).add (x61.toNat * R_tree_Window.sz))) := Eq.mp (by kernel_rfl) f17_11
                refine p (yl_fieldAddr fld_48_0 f17_11) <| x_done <|
                  ?_
                refine x_fin ⟨⟨_, rfl⟩, rfl, ?_⟩
                exact Eq.mp (by kernel_rfl) hS
              · intro Ep17 w l' hE17 hO17 hF_ hS
                obtain ⟨f17_12, -⟩ := hF_
                replace f17_12 : Ep17 108 = .pointer (some (((adr A53).add (x61.toNat * R_tree_Window.sz)).add 0)) := Eq.mp (by kernel_rfl) f17_12
                replace hS : St w0 w (vec 48 R_tree_Window.sz (.slice A53 z10_3.length z10_3.length) z10_3.length cs15_22 :: l') := Eq.mp (by kernel_rfl) hS
                obtain ⟨el17_13, ek17_13, ee17_13⟩ := hr15_22.get hk17_11
                rw [← hy17_13] at ek17_13
                obtain rfl := ek17_13
                refine pa (at_load one_3 f17_12 (EltV.ld (m := 0) ee17_13 hS rfl)) <| x_done <|
                  ?_
                refine x_fin ⟨⟨_, rfl⟩, rfl, ?_⟩
                exact Eq.mp (by kernel_rfl) hS
              · intro Ep17 w l' hE17 hO17 hF_ hS
                obtain ⟨f17_8, f17_13, -⟩ := hF_
                replace f17_8 : Ep17 104 = .int .i64 y17_8.Lo := Eq.mp (by kernel_rfl) f17_8
                replace f17_13 : Ep17 109 = .int .i64 y17_13.Lo := Eq.mp (by kernel_rfl) f17_13
                refine p (yadd f17_8 f17_13 hx110) <| x_done <|
                  ?_
                refine x_fin ⟨⟨_, rfl⟩, rfl, ?_⟩
                exact Eq.mp (by kernel_rfl) hS
              · intro Ep17 w l' hE17 hO17 hF_ hS
                refine p (yl_move ((hE17 11 rfl).trans ((hE14 11 rfl).trans eL12h_11))) <| x_done <|
                  ?_
                refine x_fin ⟨⟨_, rfl⟩, rfl, ?_⟩
                exact Eq.mp (by kernel_rfl) hS
              · intro Ep17 w l' hE17 hO17 hF_ hS
                refine p (yl_move ((hE17 12 rfl).trans (hE14 12 rfl))) <| x_done <|
                  ?_
                refine x_fin ⟨⟨_, rfl⟩, rfl, ?_⟩
                exact Eq.mp (by kernel_rfl) hS
              · intro Ep17 w l' hE17 hO17 hF_ hS
                obtain ⟨f17_15, f17_16, -⟩ := hF_
                replace f17_15 : Ep17 111 = .slice A53 z10_3.length z10_3.length := Eq.mp (by kernel_rfl) f17_15
                replace f17_16 : Ep17 112 = .int .i64 y57_L12h := Eq.mp (by kernel_rfl) f17_16
                replace hS : St w0 w (vec 48 R_tree_Window.sz (.slice A53 z10_3.length z10_3.length) z10_3.length cs15_22 :: l') := Eq.mp (by kernel_rfl) hS
                refine p (yix_o sl_40 f17_15 f17_16 hS hr15_22 hk17_17) <| x_done <|
                  ?_
                refine x_fin ⟨⟨_, rfl⟩, rfl, ?_⟩
                exact Eq.mp (by kernel_rfl) hS
              · intro Ep17 w l' hE17 hO17 hF_ hS
                obtain ⟨f17_17, -⟩ := hF_
                replace f17_17 : Ep17 113 = .pointer (some ((adr A53).add (y57_L12h.toNat * R_tree_Window.sz))) := Eq.mp (by kernel_rfl) f17_17
                refine p (yl_fieldAddr fld_48_1 f17_17) <| x_done <|
                  ?_
                refine x_fin ⟨⟨_, rfl⟩, rfl, ?_⟩
                exact Eq.mp (by kernel_rfl) hS
              · intro Ep17 w l' hE17 hO17 hF_ hS
                obtain ⟨f17_18, -⟩ := hF_
                replace f17_18 : Ep17 114 = .pointer (some (((adr A53).add (y57_L12h.toNat * R_tree_Window.sz)).add 1)) := Eq.mp (by kernel_rfl) f17_18
                replace hS : St w0 w (vec 48 R_tree_Window.sz (.slice A53 z10_3.length z10_3.length) z10_3.length cs15_22 :: l') := Eq.mp (by kernel_rfl) hS
                obtain ⟨el17_19, ek17_19, ee17_19⟩ := hr15_22.get hk17_17
                rw [← hy17_19] at ek17_19
                obtain rfl := ek17_19
                refine pa (at_load one_3 f17_18 (EltV.ld (m := 1) ee17_19 hS rfl)) <| x_done <|
                  ?_
                refine x_fin ⟨⟨_, rfl⟩, rfl, ?_⟩
                exact Eq.mp (by kernel_rfl) hS
              · intro Ep17 w l' hE17 hO17 hF_ hS
                refine p (yl_move ((hE17 11 rfl).trans ((hE14 11 rfl).trans eL12h_11))) <| x_done <|
                  ?_
                refine x_fin ⟨⟨_, rfl⟩, rfl, ?_⟩
                exact Eq.mp (by kernel_rfl) hS
              · intro Ep17 w l' hE17 hO17 hF_ hS
                refine p (yl_move ((hE17 13 rfl).trans (hE14 13 rfl))) <| x_done <|
                  ?_
                refine x_fin ⟨⟨_, rfl⟩, rfl, ?_⟩
                exact Eq.mp (by kernel_rfl) hS
              · intro Ep17 w l' hE17 hO17 hF_ hS
                obtain ⟨f17_20, f17_21, -⟩ := hF_
                replace f17_20 : Ep17 116 = .slice A53 z10_3.length z10_3.length := Eq.mp (by kernel_rfl) f17_20
                replace f17_21 : Ep17 117 = .int .i64 x61 := Eq.mp (by kernel_rfl) f17_21
                replace hS : St w0 w (vec 48 R_tree_Window.sz (.slice A53 z10_3.length z10_3.length) z10_3.length cs15_22 :: l') := Eq.mp (by kernel_rfl) hS
                refine p (yix_o sl_40 f17_20 f17_21 hS hr15_22 hk17_22) <| x_done <|
                  ?_
                refine x_fin ⟨⟨_, rfl⟩, rfl, ?_⟩
                exact Eq.mp (by kernel_rfl) hS
              · intro Ep17 w l' hE17 hO17 hF_ hS
                obtain ⟨f17_22, -⟩ := hF_
                replace f17_22 : Ep17 118 = .pointer (some ((adr A53).add (x61.toNat * R_tree_Window.sz))) := Eq.mp (by kernel_rfl) f17_22
                refine p (yl_fieldAddr fld_48_1 f17_22) <| x_done <|
                  ?_
                refine x_fin ⟨⟨_, rfl⟩, rfl, ?_⟩
                exact Eq.mp (by kernel_rfl) hS
              · intro Ep17 w l' hE17 hO17 hF_ hS
                obtain ⟨f17_23, -⟩ := hF_
                replace f17_23 : Ep17 119 = .pointer (some (((adr A53).add (x61.toNat * R_tree_Window.sz)).add 1)) := Eq.mp (by kernel_rfl) f17_23
                replace hS : St w0 w (vec 48 R_tree_Window.sz (.slice A53 z10_3.length z10_3.length) z10_3.length cs15_22 :: l') := Eq.mp (by kernel_rfl) hS
                obtain ⟨el17_24, ek17_24, ee17_24⟩ := hr15_22.get hk17_22
                rw [← hy17_24] at ek17_24
                obtain rfl := ek17_24
                refine pa (at_load one_3 f17_23 (EltV.ld (m := 1) ee17_24 hS rfl)) <| x_done <|
                  ?_
                refine x_fin ⟨⟨_, rfl⟩, rfl, ?_⟩
                exact Eq.mp (by kernel_rfl) hS
              · intro Ep17 w l' hE17 hO17 hF_ hS
                obtain ⟨f17_19, f17_24, -⟩ := hF_
                replace f17_19 : Ep17 115 = .int .i64 y17_19.Hi := Eq.mp (by kernel_rfl) f17_19
                replace f17_24 : Ep17 120 = .int .i64 y17_24.Hi := Eq.mp (by kernel_rfl) f17_24
                refine p (yadd f17_19 f17_24 hx121) <| x_done <|
                  ?_
                refine x_fin ⟨⟨_, rfl⟩, rfl, ?_⟩
                exact Eq.mp (by kernel_rfl) hS
              · intro Ep17 w l' hE17 hO17 hF_ hS
                obtain ⟨f17_0, f17_1, -⟩ := hF_
                replace f17_0 : Ep17 96 = .slice A53 z10_3.length z10_3.length := Eq.mp (by kernel_rfl) f17_0
                replace f17_1 : Ep17 97 = .int .i64 y57_L12h := Eq.mp (by kernel_rfl) f17_1
                replace hS : St w0 w (vec 48 R_tree_Window.sz (.slice A53 z10_3.length z10_3.length) z10_3.length cs15_22 :: l') := Eq.mp (by kernel_rfl) hS
                refine p (yix_o sl_40 f17_0 f17_1 hS hr15_22 hk17_26) <| x_done <|
                  ?_
                refine x_fin ⟨⟨_, rfl⟩, rfl, ?_⟩
                exact Eq.mp (by kernel_rfl) hS
              · intro Ep17 w l' hE17 hO17 hF_ hS
                obtain ⟨f17_26, -⟩ := hF_
                replace f17_26 : Ep17 122 = .pointer (some ((adr A53).add (y57_L12h.toNat * R_tree_Window.sz))) := Eq.mp (by kernel_rfl) f17_26
                refine p (yl_fieldAddr fld_48_0 f17_26) <| x_done <|
                  ?_
                refine x_fin ⟨⟨_, rfl⟩, rfl, ?_⟩
                exact Eq.mp (by kernel_rfl) hS
              · intro Ep17 w l' hE17 hO17 hF_ hS
                obtain ⟨f17_14, f17_27, -⟩ := hF_
                replace f17_14 : Ep17 110 = .int .i64 x110 := Eq.mp (by kernel_rfl) f17_14
                replace f17_27 : Ep17 123 = .pointer (some (((adr A53).add (y57_L12h.toNat * R_tree_Window.sz)).add 0)) := Eq.mp (by kernel_rfl) f17_27
                replace hS : St w0 w (vec 48 R_tree_Window.sz (.slice A53 z10_3.length z10_3.length) z10_3.length cs15_22 :: l') := Eq.mp (by kernel_rfl) hS
                refine o_put' (news := [.int .i64 x110]) sz_3 f17_27 f17_14 rfl rfl (o := 0) rfl hk17_26 rfl hS hr15_22 (Le.refl _) (fun c hc => by obtain rfl := hc; rfl) hz17_28 (fun cs17_28 w' hr17_28 hS => ?_)
                refine x_done <|
                  ?_
                refine x_fin ⟨⟨undef, rfl⟩, trivial, ?_⟩
                replace hS := St.bun (Φ := (fun (cs17_28 : List Value) => RepL R_tree_Window ρ z17_28 cs17_28)) (L := (fun (cs17_28 : List Value) => [vec 48 R_tree_Window.sz (.slice A53 z10_3.length z10_3.length) z10_3.length cs17_28])) cs17_28 hr17_28 hS
                exact Eq.mp (by kernel_rfl) hS
              · intro Ep17 w l' hE17 hO17 hF_ hS
                obtain ⟨f17_2, f17_3, -⟩ := hF_
                replace f17_2 : Ep17 98 = .slice A53 z10_3.length z10_3.length := Eq.mp (by kernel_rfl) f17_2
                replace f17_3 : Ep17 99 = .int .i64 y57_L12h := Eq.mp (by kernel_rfl) f17_3
                replace hS : St w0 w (ro ρ :: bunA (fun (cs17_28 : List Value) => RepL R_tree_Window ρ z17_28 cs17_28) (fun (cs17_28 : List Value) => [vec 48 R_tree_Window.sz (.slice A53 z10_3.length z10_3.length) z10_3.length cs17_28]) :: l') := Eq.mp (by kernel_rfl) hS
                obtain ⟨cs17_28, hr17_28, hS⟩ := St.unbun (hS.pull 1)
                refine p (yix_o sl_40 f17_2 f17_3 hS hr17_28 hk17_29) <| x_done <|
                  ?_
                refine x_fin ⟨⟨_, rfl⟩, rfl, ?_⟩
                replace hS := St.bun (Φ := (fun (cs17_28 : List Value) => RepL R_tree_Window ρ z17_28 cs17_28)) (L := (fun (cs17_28 : List Value) => [vec 48 R_tree_Window.sz (.slice A53 z10_3.length z10_3.length) z10_3.length cs17_28])) cs17_28 hr17_28 hS
                exact Eq.mp (by kernel_rfl) (hS.pull 1)
              · intro Ep17 w l' hE17 hO17 hF_ hS
                obtain ⟨f17_29, -⟩ := hF_
                replace f17_29 : Ep17 124 = .pointer (some ((adr A53).add (y57_L12h.toNat * R_tree_Window.sz))) := Eq.mp (by kernel_rfl) f17_29
                refine p (yl_fieldAddr fld_48_1 f17_29) <| x_done <|
                  ?_
                refine x_fin ⟨⟨_, rfl⟩, rfl, ?_⟩
                exact Eq.mp (by kernel_rfl) hS
              · intro Ep17 w l' hE17 hO17 hF_ hS
                obtain ⟨f17_25, f17_30, -⟩ := hF_
                replace f17_25 : Ep17 121 = .int .i64 x121 := Eq.mp (by kernel_rfl) f17_25
                replace f17_30 : Ep17 125 = .pointer (some (((adr A53).add (y57_L12h.toNat * R_tree_Window.sz)).add 1)) := Eq.mp (by kernel_rfl) f17_30
                replace hS : St w0 w (ro ρ :: bunA (fun (cs17_28 : List Value) => RepL R_tree_Window ρ z17_28 cs17_28) (fun (cs17_28 : List Value) => [vec 48 R_tree_Window.sz (.slice A53 z10_3.length z10_3.length) z10_3.length cs17_28]) :: l') := Eq.mp (by kernel_rfl) hS
                obtain ⟨cs17_28, hr17_28, hS⟩ := St.unbun (hS.pull 1)
                refine o_put' (news := [.int .i64 x121]) sz_3 f17_30 f17_25 rfl rfl (o := 1) rfl hk17_29 rfl hS hr17_28 (Le.refl _) (fun c hc => by obtain rfl := hc; rfl) hz17_31 (fun cs17_31 w' hr17_31 hS => ?_)
                refine x_done <|
                  ?_
                refine x_fin ⟨⟨undef, rfl⟩, trivial, ?_⟩
                replace hS := St.bun (Φ := (fun (cs17_31 : List Value) => RepL R_tree_Window ρ z17_31 cs17_31)) (L := (fun (cs17_31 : List Value) => [vec 48 R_tree_Window.sz (.slice A53 z10_3.length z10_3.length) z10_3.length cs17_31])) cs17_31 hr17_31 hS
                exact Eq.mp (by kernel_rfl) (hS.pull 1)
            intro Ep17 w' hE17 hF_ hS
            obtain ⟨f17_0, f17_1, f17_2, f17_3, f17_4, f17_5, f17_6, f17_7, f17_8, f17_9, f17_10, f17_11, f17_12, f17_13, f17_14, f17_15, f17_16, f17_17, f17_18, f17_19, f17_20, f17_21, f17_22, f17_23, f17_24, f17_25, f17_26, f17_27, f17_29, f17_30, -⟩ := hF_
            replace f17_0 : Ep17 96 = .slice A53 z10_3.length z10_3.length := Eq.mp (by kernel_rfl) f17_0
            replace f17_1 : Ep17 97 = .int .i64 y57_L12h := Eq.mp (by kernel_rfl) f17_1
            replace f17_2 : Ep17 98 = .slice A53 z10_3.length z10_3.length := Eq.mp (by kernel_rfl) f17_2
            replace f17_3 : Ep17 99 = .int .i64 y57_L12h := Eq.mp (by kernel_rfl) f17_3
            replace f17_4 : Ep17 100 = .slice A53 z10_3.length z10_3.length := Eq.mp (by kernel_rfl) f17_4
            replace f17_5 : Ep17 101 = .int .i64 y57_L12h := Eq.mp (by kernel_rfl) f17_5
            replace f17_6 : Ep17 102 = .pointer (some ((adr A53).add (y57_L12h.toNat * R_tree_Window.sz))) := Eq.mp (by kernel_rfl) f17_6
            replace f17_7 : Ep17 103 = .pointer (some (((adr A53).add (y57_L12h.toNat * R_tree_Window.sz)).add 0)) := Eq.mp (by kernel_rfl) f17_7
            replace f17_8 : Ep17 104 = .int .i64 y17_8.Lo := Eq.mp (by kernel_rfl) f17_8
            replace f17_9 : Ep17 105 = .slice A53 z10_3.length z10_3.length := Eq.mp (by kernel_rfl) f17_9
            replace f17_10 : Ep17 106 = .int .i64 x61 := Eq.mp (by kernel_rfl) f17_10
            replace f17_11 : Ep17 107 = .pointer (some ((adr A53).add (x61.toNat * R_tree_Window.sz))) := Eq.mp (by kernel_rfl) f17_11
            replace f17_12 : Ep17 108 = .pointer (some (((adr A53).add (x61.toNat * R_tree_Window.sz)).add 0)) := Eq.mp (by kernel_rfl) f17_12
            replace f17_13 : Ep17 109 = .int .i64 y17_13.Lo := Eq.mp (by kernel_rfl) f17_13
            replace f17_14 : Ep17 110 = .int .i64 x110 := Eq.mp (by kernel_rfl) f17_14
            replace f17_15 : Ep17 111 = .slice A53 z10_3.length z10_3.length := Eq.mp (by kernel_rfl) f17_15
            replace f17_16 : Ep17 112 = .int .i64 y57_L12h := Eq.mp (by kernel_rfl) f17_16
            replace f17_17 : Ep17 113 = .pointer (some ((adr A53).add (y57_L12h.toNat * R_tree_Window.sz))) := Eq.mp (by kernel_rfl) f17_17
            replace f17_18 : Ep17 114 = .pointer (some (((adr A53).add (y57_L12h.toNat * R_tree_Window.sz)).add 1)) := Eq.mp (by kernel_rfl) f17_18
            replace f17_19 : Ep17 115 = .int .i64 y17_19.Hi := Eq.mp (by kernel_rfl) f17_19
            replace f17_20 : Ep17 116 = .slice A53 z10_3.length z10_3.length := Eq.mp (by kernel_rfl) f17_20
            replace f17_21 : Ep17 117 = .int .i64 x61 := Eq.mp (by kernel_rfl) f17_21
            replace f17_22 : Ep17 118 = .pointer (some ((adr A53).add (x61.toNat * R_tree_Window.sz))) := Eq.mp (by kernel_rfl) f17_22
            replace f17_23 : Ep17 119 = .pointer (some (((adr A53).add (x61.toNat * R_tree_Window.sz)).add 1)) := Eq.mp (by kernel_rfl) f17_23
            replace f17_24 : Ep17 120 = .int .i64 y17_24.Hi := Eq.mp (by kernel_rfl) f17_24
            replace f17_25 : Ep17 121 = .int .i64 x121 := Eq.mp (by kernel_rfl) f17_25
            replace f17_26 : Ep17 122 = .pointer (some ((adr A53).add (y57_L12h.toNat * R_tree_Window.sz))) := Eq.mp (by kernel_rfl) f17_26
            replace f17_27 : Ep17 123 = .pointer (some (((adr A53).add (y57_L12h.toNat * R_tree_Window.sz)).add 0)) := Eq.mp (by kernel_rfl) f17_27
            replace f17_29 : Ep17 124 = .pointer (some ((adr A53).add (y57_L12h.toNat * R_tree_Window.sz))) := Eq.mp (by kernel_rfl) f17_29
            replace f17_30 : Ep17 125 = .pointer (some (((adr A53).add (y57_L12h.toNat * R_tree_Window.sz)).add 1)) := Eq.mp (by kernel_rfl) f17_30
            replace hS : St w0 w' (ro ρ :: bunA (fun (cs17_31 : List Value) => RepL R_tree_Window ρ z17_31 cs17_31) (fun (cs17_31 : List Value) => [vec 48 R_tree_Window.sz (.slice A53 z10_3.length z10_3.length) z10_3.length cs17_31]) :: (cells b3 38 [.int .i64 t0.Cell, .slice A_t0_1 t0.Up.length c_t0_1, .slice A_t0_2 t0.Leaf.length c_t0_2] :: cells (blkOf (Ep14 14)) 46 [.string y14_4.Name, .bool y14_4.Flop, .int .i64 y14_4.Ins, .int .u64 y14_4.Table, .int .i64 y14_4.Area, .slice (adOf (partOf 5 (Ep14 66))) y14_4.Cap.length (capOf (partOf 5 (Ep14 66))), .slice (adOf (partOf 6 (Ep14 66))) y14_4.Min.length (capOf (partOf 6 (Ep14 66))), .slice (adOf (partOf 7 (Ep14 66))) y14_4.Max.length (capOf (partOf 7 (Ep14 66))), .int .i64 y14_4.Drive, .int .i64 y14_4.Setup, .int .i64 y14_4.Hold] :: l)) := Eq.mp (by kernel_rfl) hS
            obtain ⟨cs17_31, hr17_31, hS⟩ := St.unbun (hS.pull 1)
            exact x_inv ⟨cs17_31, z17_31, (Option.some.inj (show some _ = some _ from hFc95)), ((hE17 1 rfl).trans ((hE14 1 rfl).trans eL12h_1)), ((hE17 2 rfl).trans ((hE14 2 rfl).trans eL12h_2)), ((hE17 3 rfl).trans ((hE14 3 rfl).trans eL12h_3)), ((hE17 11 rfl).trans ((hE14 11 rfl).trans eL12h_11)), ((hE17 55 rfl).trans ((hE14 55 rfl).trans eL12h_55)), ((hE17 56 rfl).trans ((hE14 56 rfl).trans eL12h_56)), ((hE17 57 rfl).trans ((hE14 57 rfl).trans eL12h_57)), hr17_31, ((((hS.pull 3).drop.pull 1).pull 1).pull 2)⟩
          · replace hFc95 := it_f hc95 hFc95
            refine x_skip <|
              ?_
            exact x_inv ⟨cs15_22, z15_22, (Option.some.inj (show some _ = some _ from hFc95)), ((hE14 1 rfl).trans eL12h_1), ((hE14 2 rfl).trans eL12h_2), ((hE14 3 rfl).trans eL12h_3), ((hE14 11 rfl).trans eL12h_11), ((hE14 55 rfl).trans eL12h_55), ((hE14 56 rfl).trans eL12h_56), ((hE14 57 rfl).trans eL12h_57), hr15_22, ((((hS.pull 3).drop.pull 2).pull 1).pull 2)⟩
        rintro E w ⟨cs_at11_c95, at11_c95, rfl, ec95_1, ec95_2, ec95_3, ec95_11, ec95_55, ec95_56, ec95_57, h_at11_c95, hS⟩
        obtain ⟨x126, hx126, hFL12⟩ := ar_s hFL12
        refine x_blk <| x_region <| p (yadd ec95_57 rfl hx126) <| p (yl_move rfl) <|
          x_done <|
          ?_
        obtain rfl := Option.some.inj (show some _ = some _ from hFL12)
        exact x_inv ⟨kL12, Nat.lt_succ_self _, cs_at11_c95, at11_c95, x126, hLL12, ec95_1, ec95_2, ec95_3, ec95_11, ec95_55, ec95_56, rfl, h_at11_c95, (((hS.pull 2).pull 2).pull 2)⟩
      · replace hFL12 := it_f hc58 hFL12
        refine x_exitTo _ rfl <|
          ?_
        obtain rfl := Option.some.inj (show some _ = some _ from hFL12)
        exact x_inv ⟨cs_at11_L12h, at11_L12h, hLL12, eL12h_3, eL12h_11, h_at11_L12h, (((hS.pull 2).pull 2).pull 2)⟩
    rintro E w ⟨cs_at11_L12, at11_L12, rfl, eL12_3, eL12_11, h_at11_L12, hS⟩
    refine x_seq <| x_region <| p (yl_assign rfl) <| x_done <|
      x_seq <| x_seq <| x_region <| p (yl_field0 fld_38_2 eL12_3) <|
      pa (at_load one_22 rfl (hS.cell rfl)) <| p (yl_len_slice usl_22 rfl) <| p (yl_move rfl) <| x_done <|
      ?_
    obtain ⟨oL21, hLL21, hF⟩ := bd_s hF
    refine x_join (fun E w => ∃ (A_out16_L21 : Option Addr) (n_out16_L21 : Nat) (c_out16_L21 : Nat) (cs_out16_L21 : List Value) (out16_L21 : List T_tree_Window), out16_L21 = oL21 ∧ E 16 = .slice A_out16_L21 n_out16_L21 c_out16_L21 ∧ RepL R_tree_Window ρ out16_L21 cs_out16_L21 ∧ St w0 w (vec 48 R_tree_Window.sz (.slice A_out16_L21 n_out16_L21 c_out16_L21) n_out16_L21 cs_out16_L21 :: ro ρ :: l)) ?_ ?_
    · skip -- L21
      refine x_block ?_
      replace hS := St.vec_nil hS 48 R_tree_Window.sz
      have hnil_A_out16_L21h : RepL R_tree_Window ρ [] [] := rfl
      refine x_loop (fun k_ E w => ∃ (A_out16_L21h : Option Addr) (n_out16_L21h : Nat) (c_out16_L21h : Nat) (cs_out16_L21h : List Value) (out16_L21h : List T_tree_Window) (y130_L21h : Int), lp (P_tree_Arrivals_L21 t0 at11_L12) k_ (out16_L21h, y130_L21h) = some oL21 ∧ E 11 = .slice A53 z10_3.length z10_3.length ∧ E 16 = .slice A_out16_L21h n_out16_L21h c_out16_L21h ∧ E 128 = .slice A_t0_2 t0.Leaf.length c_t0_2 ∧ E 129 = .int .i64 (t0.Leaf.length : Int) ∧ E 130 = .int .i64 y130_L21h ∧ RepL R_tree_Window ρ out16_L21h cs_out16_L21h ∧ St w0 w (vec 48 R_tree_Window.sz (.slice A53 z10_3.length z10_3.length) z10_3.length cs_at11_L12 :: vec 48 R_tree_Window.sz (.slice A_out16_L21h n_out16_L21h c_out16_L21h) n_out16_L21h cs_out16_L21h :: ro ρ :: l)) fuel ⟨none, 0, 0, [], [], 0, hLL21, eL12_11, rfl, rfl, rfl, rfl, hnil_A_out16_L21h, ((((hS.pull 1).drop.pull 2).pull 1).pull 2)⟩ ?_
      rintro kL21 E w ⟨A_out16_L21h, n_out16_L21h, c_out16_L21h, cs_out16_L21h, out16_L21h, y130_L21h, hLL21, eL21h_11, eL21h_16, eL21h_128, eL21h_129, eL21h_130, h_out16_L21h, hS⟩
      obtain rfl := St.vec_n (hS.pull 1) h_out16_L21h
      obtain ⟨kL21, obL21, rfl, hFL21, hLL21⟩ := lp_s hLL21
      refine x_seq <| x_region <| p (yl_lss eL21h_130 eL21h_129) <| x_done <|
        x_seq <|
        x_cond_p (y130_L21h < (t0.Leaf.length : Int)) rfl (fun hc131 => ?_) (fun hc131 => ?_)
      · replace hFL21 := it_t hc131 hFL21
        obtain ⟨hk22_0, hFL21⟩ := ck_s hFL21
        obtain ⟨x133, hx133, hFL21⟩ := lv_s hFL21
        refine x_skip <| x_seq <| x_block <| x_seq <|
          x_region <| p (yix_f sl_22 eL21h_128 eL21h_130 h_t0_2 hk22_0) <| pa (at_load one_3 rfl (RdS.getW h_t0_2 (hS.pull 2) hk22_0 hx133)) <| p (yl_assign rfl) <|
          x_done <| x_seq <| x_region <| p (yl_move rfl) <|
          p (yl_lss rfl rfl) <| x_done <|
          ?_
        obtain ⟨oc135, hFc135, hFL21⟩ := bd_s hFL21
        refine x_join (fun E w => ∃ (A_out16_c135 : Option Addr) (n_out16_c135 : Nat) (c_out16_c135 : Nat) (cs_out16_c135 : List Value) (out16_c135 : List T_tree_Window), out16_c135 = oc135 ∧ E 11 = .slice A53 z10_3.length z10_3.length ∧ E 16 = .slice A_out16_c135 n_out16_c135 c_out16_c135 ∧ E 128 = .slice A_t0_2 t0.Leaf.length c_t0_2 ∧ E 129 = .int .i64 (t0.Leaf.length : Int) ∧ E 130 = .int .i64 y130_L21h ∧ RepL R_tree_Window ρ out16_c135 cs_out16_c135 ∧ St w0 w (vec 48 R_tree_Window.sz (.slice A53 z10_3.length z10_3.length) z10_3.length cs_at11_L12 :: vec 48 R_tree_Window.sz (.slice A_out16_c135 n_out16_c135 c_out16_c135) n_out16_c135 cs_out16_c135 :: ro ρ :: l)) ?_ ?_
        · skip -- c135
          refine x_cond_p (x133 < 0) rfl (fun hc135 => ?_) (fun hc135 => ?_)
          · replace hFc135 := it_t hc135 hFc135
            refine x_region <| p (yl_move eL21h_16) <| p (v := .agg #[.int .i64 0, .int .i64 0]) (yl_build bld_48 bldf_48 (parts_eq pt0) (by kernel_rfl)) <|
              ?_
            refine o_buildSlice (vs := [.agg #[.int .i64 0, .int .i64 0]]) (cs := [.int .i64 0, .int .i64 0]) sl_40 zero_48 (parts_eq (pt (va := .agg #[.int .i64 0, .int .i64 0]) rfl pt0)) rfl (by intro v hv; simp only [List.mem_cons, List.not_mem_nil, or_false] at hv; first | (subst hv; rfl) | (rcases hv with rfl <;> rfl)) (by decide) rfl hS (fun b138 w' hS => ?_)
            obtain ⟨z24_3, hz24_3, hFc135⟩ := lv_s hFc135
            obtain ⟨hk24_3, hFc135⟩ := ck_s hFc135
            refine o_ap sl_40 zero_48 rfl (by decide) rfl rfl (hS.pull 2) h_out16_L21h (src_blk usl_40 hS rfl rfl) (RepL.cons (R := R_tree_Window) (ρ := ρ) (x := (T_tree_Window.mk 0 0)) (cs := [.int .i64 0, .int .i64 0]) rfl RepL.nil) hz24_3 hk24_3 (fun A139 c139 cs139 w' hr139 hS => ?_)
            refine p (yl_assign rfl) <| x_done <|
              ?_
            exact x_inv ⟨A139, z24_3.length, c139, cs139, z24_3, (Option.some.inj (show some _ = some _ from hFc135)), eL21h_11, rfl, eL21h_128, eL21h_129, eL21h_130, hr139, ((((hS.pull 1).drop.pull 2).pull 1).pull 2)⟩
          · replace hFc135 := it_f hc135 hFc135
            obtain ⟨hk25_3, hFc135⟩ := ck_s hFc135
            obtain ⟨y25_4, hy25_4, hFc135⟩ := lv_s hFc135
            obtain ⟨el25_4, ek25_4, ee25_4⟩ := h_at11_L12.get hk25_3
            rw [← hy25_4] at ek25_4
            obtain rfl := ek25_4
            refine x_region <| p (yl_move eL21h_16) <| p (yl_move eL21h_11) <| p (yl_move rfl) <|
              p (yix_o sl_40 rfl rfl hS h_at11_L12 hk25_3) <| pa (v := .agg #[.int .i64 y25_4.Lo, .int .i64 y25_4.Hi]) (at_loadAgg agg_48 rfl rfl (EltV.every ee25_4 hS)) <|
              ?_
            refine o_buildSlice (vs := [.agg #[.int .i64 y25_4.Lo, .int .i64 y25_4.Hi]]) (cs := [.int .i64 y25_4.Lo, .int .i64 y25_4.Hi]) sl_40 zero_48 (parts_eq (pt (va := .agg #[.int .i64 y25_4.Lo, .int .i64 y25_4.Hi]) rfl pt0)) rfl (by intro v hv; simp only [List.mem_cons, List.not_mem_nil, or_false] at hv; first | (subst hv; rfl) | (rcases hv with rfl <;> rfl)) (by decide) rfl hS (fun b145 w' hS => ?_)
            obtain ⟨z25_6, hz25_6, hFc135⟩ := lv_s hFc135
            obtain ⟨hk25_6, hFc135⟩ := ck_s hFc135
            refine o_ap sl_40 zero_48 rfl (by decide) rfl rfl (hS.pull 2) h_out16_L21h (src_blk usl_40 hS rfl rfl) (RepL.cons (R := R_tree_Window) (ρ := ρ) (x := y25_4) (cs := [.int .i64 y25_4.Lo, .int .i64 y25_4.Hi]) rfl RepL.nil) hz25_6 hk25_6 (fun A146 c146 cs146 w' hr146 hS => ?_)
            refine p (yl_assign rfl) <| x_done <|
              ?_
            exact x_inv ⟨A146, z25_6.length, c146, cs146, z25_6, (Option.some.inj (show some _ = some _ from hFc135)), eL21h_11, rfl, eL21h_128, eL21h_129, eL21h_130, hr146, ((((hS.pull 1).drop.pull 2).pull 1).pull 2)⟩
        rintro E w ⟨A_out16_c135, n_out16_c135, c_out16_c135, cs_out16_c135, out16_c135, rfl, ec135_11, ec135_16, ec135_128, ec135_129, ec135_130, h_out16_c135, hS⟩
        obtain rfl := St.vec_n (hS.pull 1) h_out16_c135
        obtain ⟨x147, hx147, hFL21⟩ := ar_s hFL21
        refine x_blk <| x_region <| p (yadd ec135_130 rfl hx147) <| p (yl_move rfl) <|
          x_done <|
          ?_
        obtain rfl := Option.some.inj (show some _ = some _ from hFL21)
        exact x_inv ⟨kL21, Nat.lt_succ_self _, A_out16_c135, out16_c135.length, c_out16_c135, cs_out16_c135, out16_c135, x147, hLL21, ec135_11, ec135_16, ec135_128, ec135_129, rfl, h_out16_c135, (((hS.pull 2).pull 2).pull 2)⟩
      · replace hFL21 := it_f hc131 hFL21
        refine x_exitTo _ rfl <|
          ?_
        obtain rfl := Option.some.inj (show some _ = some _ from hFL21)
        exact x_inv ⟨A_out16_L21h, out16_L21h.length, c_out16_L21h, cs_out16_L21h, out16_L21h, hLL21, eL21h_16, h_out16_L21h, ((hS.drop.pull 1).pull 1)⟩
    rintro E w ⟨A_out16_L21, n_out16_L21, c_out16_L21, cs_out16_L21, out16_L21, rfl, eL21_16, h_out16_L21, hS⟩
    obtain rfl := St.vec_n hS h_out16_L21
    refine x_seq <| x_region <| p (yl_move eL21_16) <| p (yl_assign rfl) <|
      p (yl_assign rfl) <| x_done <|
      ?_
    obtain rfl := Option.some.inj (show some _ = some _ from hF)
    exact x_return ⟨_, ⟨_, _, rfl, rfl, _, _, rfl, rfl, rfl⟩, A_out16_L21, out16_L21.length, c_out16_L21, cs_out16_L21, rfl, h_out16_L21, ((hS.pull 1).pull 1)⟩
attribute [irreducible] P_tree_Arrivals

def P_tree_Depth_L5 (t0 : T_tree_Tree) : (Int × Int) → Option ((Int × Int) ⊕ ((Int × Int) ⊕ Int)) := fun (n5_L5h, b6_L5h) =>
  if 0 ≤ b6_L5h then
    ck ((!(decide ((t0.Up.length : Int) ≤ b6_L5h))) = true → inb b6_L5h t0.Up.length) <|
    lv (gt t0.Up b6_L5h) fun x33 =>
    lv ((decide ((t0.Up.length : Int) ≤ b6_L5h)) || (decide (b6_L5h ≤ x33))) fun x36 =>
    if x36 = true then
      some (Sum.inr (Sum.inr (-1)))
    else
      ar (n5_L5h + 1) fun x38 =>
      ck (inb b6_L5h t0.Up.length) <|
      lv (gt t0.Up b6_L5h) fun x43 =>
      some (Sum.inl (x38, x43))
  else
    some (Sum.inr (Sum.inl (n5_L5h, b6_L5h)))
def P_tree_Depth (t0 : T_tree_Tree) (leaf1 : Int) : Option Int :=
  lv ((decide (leaf1 < 0)) || (decide ((t0.Leaf.length : Int) ≤ leaf1))) fun x15 =>
  if x15 = true then
    some (-1)
  else
    ck (inb leaf1 t0.Leaf.length) <|
    lv (gt t0.Leaf leaf1) fun x20 =>
    bs (
      lp (P_tree_Depth_L5 t0) fuel (0, x20)) (fun y => some y) fun (n5_L5, b6_L5) =>
    if b6_L5 < (-1) then
      some (-1)
    else
      some n5_L5
set_option maxHeartbeats 4000000 in
set_option maxRecDepth 100000 in
theorem c_tree_Depth {w0 w : World} {l : List Assn} {ρ : Heap} {A_t0_1 : Option Addr} {n_t0_1 : Nat} {c_t0_1 : Nat} {A_t0_2 : Option Addr} {n_t0_2 : Nat} {c_t0_2 : Nat} {t0 : T_tree_Tree} {leaf1 : Int} {r : Int} (hF : P_tree_Depth t0 leaf1 = some r) (h_t0_1 : RdS (RpI .i64) ρ A_t0_1 n_t0_1 c_t0_1 t0.Up) (h_t0_2 : RdS (RpI .i64) ρ A_t0_2 n_t0_2 c_t0_2 t0.Leaf) (hS : St w0 w (ro ρ :: l)) :
    Calls Try.prog 23 #[.agg #[.int .i64 t0.Cell, .slice A_t0_1 n_t0_1 c_t0_1, .slice A_t0_2 n_t0_2 c_t0_2], .int .i64 leaf1] w fun e w' => e = .returned (.int .i64 r) ∧ St w0 w' (ro ρ :: l) := by
  obtain rfl := h_t0_1.n
  obtain rfl := h_t0_2.n
  refine enterC Try.func23 rfl 47 rfl (by simp) ?_
  refine x_seq <| x_region <|
    ?_
  refine o_box (cs := [.int .i64 t0.Cell, .slice A_t0_1 t0.Up.length c_t0_1, .slice A_t0_2 t0.Leaf.length c_t0_2]) rfl rfl hS (fun b2 w' hS => ?_)
  obtain ⟨x15, hx15, hF⟩ := lv_s hF
  refine p (yl_assign rfl) <| x_done <| x_seq <| x_seq <|
    x_region <| p (yl_move rfl) <| p (yl_lss rfl rfl) <| p (yl_move rfl) <|
    pg (v := .int .i64 leaf1) 9 (c := !(decide (leaf1 < 0))) (says_f _) (fun hq => Yl.at (yl_move rfl)) <| pg (v := .pointer (some ⟨b2, 2, none⟩)) 9 (c := !(decide (leaf1 < 0))) (says_f _) (fun hq => Yl.at (yl_field0 fld_38_2 rfl)) <| pg (v := .slice A_t0_2 t0.Leaf.length c_t0_2) 9 (c := !(decide (leaf1 < 0))) (says_f _) (fun hq => at_load one_22 (cv hq) (hS.cell rfl)) <| pg (v := .int .i64 (t0.Leaf.length : Int)) 9 (c := !(decide (leaf1 < 0))) (says_f _) (fun hq => Yl.at (yl_len_slice usl_22 (cv hq))) <|
    pg (v := .bool (decide ((t0.Leaf.length : Int) ≤ leaf1))) 9 (c := !(decide (leaf1 < 0))) (says_f _) (fun hq => Yl.at (yl_geq (cv hq) (cv hq))) <| p (yor' rfl rfl (fun hc => (cv (t_not hc))) hx15) <| x_done <|
    x_cond (t := x15) rfl (fun hc15 => ?_) (fun hc15 => ?_)
  · replace hF := it_t hc15 hF
    refine x_seq <| x_region <| p (yl_assign rfl) <| x_done <|
      ?_
    obtain rfl := Option.some.inj (show some _ = some _ from hF)
    exact x_return ⟨_, ⟨_, _, rfl, rfl, rfl⟩, rfl, hS.drop⟩
  · replace hF := it_bf hc15 hF
    obtain ⟨hk4_3, hF⟩ := ck_s hF
    obtain ⟨x20, hx20, hF⟩ := lv_s hF
    refine x_skip <| x_seq <| x_region <| p (yl_assign rfl) <|
      x_done <| x_seq <| x_region <| p (yl_field0 fld_38_2 rfl) <|
      pa (at_load one_22 rfl (hS.cell rfl)) <| p (yl_move rfl) <| p (yix_f sl_22 rfl rfl h_t0_2 hk4_3) <| pa (at_load one_3 rfl (RdS.getW h_t0_2 (hS.pull 1) hk4_3 hx20)) <|
      p (yl_assign rfl) <| x_done <| x_seq <|
      ?_
    obtain ⟨oL5, hLL5, hF⟩ := bs_s hF
    refine x_join (fun E w => ∃ (n5_L5 : Int) (b6_L5 : Int), (Sum.inl (n5_L5, b6_L5)) = oL5 ∧ E 5 = .int .i64 n5_L5 ∧ E 6 = .int .i64 b6_L5 ∧ St w0 w (ro ρ :: l)) ?_ ?_
    · skip -- L5
      refine x_block ?_
      refine x_loop (fun k_ E w => ∃ (n5_L5h : Int) (b6_L5h : Int), lp (P_tree_Depth_L5 t0) k_ (n5_L5h, b6_L5h) = some oL5 ∧ E 2 = .pointer (some ⟨b2, 0, none⟩) ∧ E 5 = .int .i64 n5_L5h ∧ E 6 = .int .i64 b6_L5h ∧ St w0 w (cells b2 38 [.int .i64 t0.Cell, .slice A_t0_1 t0.Up.length c_t0_1, .slice A_t0_2 t0.Leaf.length c_t0_2] :: ro ρ :: l)) fuel ⟨0, x20, hLL5, rfl, rfl, rfl, ((hS.pull 1).pull 1)⟩ ?_
      rintro kL5 E w ⟨n5_L5h, b6_L5h, hLL5, eL5h_2, eL5h_5, eL5h_6, hS⟩
      obtain ⟨kL5, obL5, rfl, hFL5, hLL5⟩ := lp_s hLL5
      refine x_seq <| x_seq <| x_region <| p (yl_move eL5h_6) <|
        p (yl_geq rfl rfl) <| x_done <|
        x_cond_p (0 ≤ b6_L5h) rfl (fun hc22 => ?_) (fun hc22 => ?_)
      · replace hFL5 := it_t hc22 hFL5
        obtain ⟨hk6_9, hFL5⟩ := ck_s hFL5
        obtain ⟨x33, hx33, hFL5⟩ := lv_s hFL5
        obtain ⟨x36, hx36, hFL5⟩ := lv_s hFL5
        refine x_skip <| x_block <| x_seq <| x_seq <|
          x_region <| p (yl_move eL5h_6) <| p (yl_field0 fld_38_1 eL5h_2) <| pa (at_load one_22 rfl (hS.cell rfl)) <|
          p (yl_len_slice usl_22 rfl) <| p (yl_geq rfl rfl) <| p (yl_move rfl) <| pg (v := .pointer (some ⟨b2, 1, none⟩)) 28 (c := !(decide ((t0.Up.length : Int) ≤ b6_L5h))) (says_f _) (fun hq => Yl.at (yl_field0 fld_38_1 eL5h_2)) <|
          pg (v := .slice A_t0_1 t0.Up.length c_t0_1) 28 (c := !(decide ((t0.Up.length : Int) ≤ b6_L5h))) (says_f _) (fun hq => at_load one_22 (cv hq) (hS.cell rfl)) <| pg (v := .int .i64 b6_L5h) 28 (c := !(decide ((t0.Up.length : Int) ≤ b6_L5h))) (says_f _) (fun hq => Yl.at (yl_move eL5h_6)) <| pg (v := .pointer (some ((adr A_t0_1).add (b6_L5h.toNat * (RpI .i64).sz)))) 28 (c := !(decide ((t0.Up.length : Int) ≤ b6_L5h))) (says_f _) (fun hq => Yl.at (yix_f sl_22 (cv hq) (cv hq) h_t0_1 (hk6_9 hq))) <| pg (v := .int .i64 x33) 28 (c := !(decide ((t0.Up.length : Int) ≤ b6_L5h))) (says_f _) (fun hq => at_load one_3 (cv hq) (RdS.getW h_t0_1 (hS.pull 1) (hk6_9 hq) hx33)) <|
          pg (v := .int .i64 b6_L5h) 28 (c := !(decide ((t0.Up.length : Int) ≤ b6_L5h))) (says_f _) (fun hq => Yl.at (yl_move eL5h_6)) <| pg (v := .bool (decide (b6_L5h ≤ x33))) 28 (c := !(decide ((t0.Up.length : Int) ≤ b6_L5h))) (says_f _) (fun hq => Yl.at (yl_geq (cv hq) (cv hq))) <| p (yor' rfl rfl (fun hc => (cv (t_not hc))) hx36) <| x_done <|
          x_cond (t := x36) rfl (fun hc36 => ?_) (fun hc36 => ?_)
        · replace hFL5 := it_t hc36 hFL5
          refine x_seq <| x_region <| p (yl_assign rfl) <| x_done <|
            ?_
          obtain rfl := Option.some.inj (show some _ = some _ from hFL5)
          obtain rfl := (show _ = oL5 from hLL5)
          obtain rfl := Option.some.inj (show some _ = some _ from hF)
          exact x_return ⟨_, ⟨_, _, rfl, rfl, rfl⟩, rfl, hS.drop⟩
        · replace hFL5 := it_bf hc36 hFL5
          obtain ⟨x38, hx38, hFL5⟩ := ar_s hFL5
          obtain ⟨hk8_5, hFL5⟩ := ck_s hFL5
          obtain ⟨x43, hx43, hFL5⟩ := lv_s hFL5
          refine x_skip <| x_still mixed (by kernel_rfl) hS <| q (yl_move eL5h_5) <| q (yadd rfl rfl hx38) <|
            q (yl_field0 fld_38_1 eL5h_2) <| qa (fun w' hS => at_load one_22 rfl (hS.cell rfl)) <| q (yl_move eL5h_6) <| q (yix_f sl_22 rfl rfl h_t0_1 hk8_5) <|
            qa (fun w' hS => at_load one_3 rfl (RdS.getW h_t0_1 (hS.pull 1) hk8_5 hx43)) <| q (yl_assign rfl) <| q (yl_assign rfl) <|
            q_done fun w' hS => ?_
          refine x_blk <|
            ?_
          obtain rfl := Option.some.inj (show some _ = some _ from hFL5)
          exact x_inv ⟨kL5, Nat.lt_succ_self _, x38, x43, hLL5, eL5h_2, rfl, rfl, ((hS.pull 1).pull 1)⟩
      · replace hFL5 := it_f hc22 hFL5
        refine x_exitTo _ rfl <|
          ?_
        obtain rfl := Option.some.inj (show some _ = some _ from hFL5)
        exact x_inv ⟨n5_L5h, b6_L5h, hLL5, eL5h_5, eL5h_6, hS.drop⟩
    rintro E w ⟨n5_L5, b6_L5, rfl, eL5_5, eL5_6, hS⟩
    refine x_seq <| x_seq <| x_region <| p (yl_move eL5_6) <|
      p (yl_lss rfl rfl) <| x_done <|
      x_cond_p (b6_L5 < (-1)) rfl (fun hc45 => ?_) (fun hc45 => ?_)
    · replace hF := it_t hc45 hF
      refine x_seq <| x_region <| p (yl_assign rfl) <| x_done <|
        ?_
      obtain rfl := Option.some.inj (show some _ = some _ from hF)
      exact x_return ⟨_, ⟨_, _, rfl, rfl, rfl⟩, rfl, hS⟩
    · replace hF := it_f hc45 hF
      refine x_skip <| x_seq <| x_region <| p (yl_move eL5_5) <|
        p (yl_assign rfl) <| x_done <|
        ?_
      obtain rfl := Option.some.inj (show some _ = some _ from hF)
      exact x_return ⟨_, ⟨_, _, rfl, rfl, rfl⟩, rfl, hS⟩
attribute [irreducible] P_tree_Depth

def P_maskkeep4_trees : Option Bool :=
  bd (P_tree_Depth (T_tree_Tree.mk 0 ([(-1), 0] : List Int) ([1, 1] : List Int)) 0) fun r2_1 =>
  bd (gd (decide (r2_1 = 2)) (P_tree_Depth (T_tree_Tree.mk 0 ([(-1), 0] : List Int) ([1, 1] : List Int)) 5)) fun r2_5 =>
  lv ((decide (r2_1 = 2)) && (decide (r2_5 = (-1)))) fun x12 =>
  some x12
set_option maxHeartbeats 4000000 in
set_option maxRecDepth 100000 in
theorem c_maskkeep4_trees {w0 w : World} {l : List Assn} {ρ : Heap} {r : Bool} (hF : P_maskkeep4_trees = some r) (hS : St w0 w (ro ρ :: l)) :
    Calls Try.prog 21 #[] w fun e w' => e = .returned (.bool r) ∧ St w0 w' (ro ρ :: l) := by
  refine enterC Try.func21 rfl 13 rfl (by simp) ?_
  refine x_seq <| x_region <| p (yl_assign rfl) <| x_done <|
    x_seq <| x_region <|
    ?_
  refine o_buildSlice (vs := [.int .i64 (-1), .int .i64 0]) (cs := [.int .i64 (-1), .int .i64 0]) sl_22 zero_3 (parts_eq (pt (va := .int .i64 (-1)) rfl (pt (va := .int .i64 0) rfl pt0))) rfl (by intro v hv; simp only [List.mem_cons, List.not_mem_nil, or_false] at hv; first | (subst hv; rfl) | (rcases hv with rfl | rfl <;> rfl)) (by decide) rfl hS (fun b2 w' hS => ?_)
  refine o_buildSlice (vs := [.int .i64 1, .int .i64 1]) (cs := [.int .i64 1, .int .i64 1]) sl_22 zero_3 (parts_eq (pt (va := .int .i64 1) rfl (pt (va := .int .i64 1) rfl pt0))) rfl (by intro v hv; simp only [List.mem_cons, List.not_mem_nil, or_false] at hv; first | (subst hv; rfl) | (rcases hv with rfl | rfl <;> rfl)) (by decide) rfl hS (fun b3 w' hS => ?_)
  refine p (v := .agg #[.int .i64 0, .slice (some ⟨b2, 0, none⟩) 2 2, .slice (some ⟨b3, 0, none⟩) 2 2]) (yl_build bld_38 bldf_38 (parts_eq (pt (va := .slice (some ⟨b2, 0, none⟩) 2 2) rfl (pt (va := .slice (some ⟨b3, 0, none⟩) 2 2) rfl pt0))) (by kernel_rfl)) <|
    ?_
  refine o_alloc zero_38 hS (fun b1 w' hS => ?_)
  refine o_storeAgg (news := [.int .i64 0, .slice (some ⟨b2, 0, none⟩) 2 2, .slice (some ⟨b3, 0, none⟩) 2 2]) agg_38 rfl rfl rfl (by simp [over_length]) hS (fun w' hS => ?_)
  refine x_done <| x_seq <| x_region <| pa (v := .agg #[.int .i64 0, .slice (some ⟨b2, 0, none⟩) 2 2, .slice (some ⟨b3, 0, none⟩) 2 2]) (ld_sub agg_38 rfl rfl rfl hS) <|
    ?_
  have hl2_1 : RepL (RpI .i64) ρ ([(-1), 0] : List Int) [.int .i64 (-1), .int .i64 0] := (RepL.cons (cs := [.int .i64 (-1)]) rfl (RepL.cons (cs := [.int .i64 0]) rfl RepL.nil))
  replace hS := St.vec_of (n := 2) (sz := (RpI .i64).sz) (hS.pull 2) rfl (by decide)
  have hl2_1a : RepL (RpI .i64) ρ ([1, 1] : List Int) [.int .i64 1, .int .i64 1] := (RepL.cons (cs := [.int .i64 1]) rfl (RepL.cons (cs := [.int .i64 1]) rfl RepL.nil))
  replace hS := St.vec_of (n := 2) (sz := (RpI .i64).sz) (hS.pull 2) rfl (by decide)
  obtain ⟨r2_1, hc2_1, hF⟩ := bd_s hF
  obtain ⟨ρl0, hll0, hlf0, hS0, back0⟩ := St.lend ((hS.pull 3).pull 2) hl2_1
  obtain ⟨ρl1, hll1, hlf1, hS1, back1⟩ := St.lend (hS0.pull 1) (hl2_1a.le hll0)
  have hcall := c_tree_Depth hc2_1 (hlf0.le hll1) hlf1 hS1
  refine o_cc call_23 (args2 rfl rfl) ((Calls.mono hcall (fun e w'' h => And.intro h.1 (((((back0 ((back1 h.2).pull 1)).pull 1).pull 3).pull 2).pull 3)))) ?_
  rintro e w' ⟨rfl, hS⟩
  refine ⟨_, rfl, ?_⟩
  obtain ⟨r2_5, hc2_5, hF⟩ := bd_s hF
  refine p (yl_eql rfl rfl) <| p (yl_move rfl) <| pg (v := .agg #[.int .i64 0, .slice (some ⟨b2, 0, none⟩) 2 2, .slice (some ⟨b3, 0, none⟩) 2 2]) 8 (c := decide (r2_1 = 2)) (says_t _) (fun hq => ld_sub agg_38 rfl rfl rfl (hS.pull 2)) <|
    pccg (v := .int .i64 r2_5) 8 (c := decide (r2_1 = 2)) (says_t _) call_23 (fun hq => (args2 (cv hq) rfl)) hS (fun hq => by
      obtain ⟨ρl0, hll0, hlf0, hS0, back0⟩ := St.lend ((hS.pull 3).pull 2) hl2_1
      obtain ⟨ρl1, hll1, hlf1, hS1, back1⟩ := St.lend (hS0.pull 1) (hl2_1a.le hll0)
      have hcall := c_tree_Depth (gd_t hc2_5 hq) (hlf0.le hll1) hlf1 hS1
      exact (Calls.mono hcall (fun e w'' h => And.intro h.1 (((((back0 ((back1 h.2).pull 1)).pull 1).pull 3).pull 2).pull 3)))) (fun w' hS => ?_)
  obtain ⟨x12, hx12, hF⟩ := lv_s hF
  refine pg (v := .bool (decide (r2_5 = (-1)))) 8 (c := decide (r2_1 = 2)) (says_t _) (fun hq => Yl.at (yl_eql (cv hq) rfl)) <| p (yand' rfl (fun hc => (cv hc)) rfl hx12) <| p (yl_assign rfl) <| x_done <|
    ?_
  obtain rfl := Option.some.inj (show some _ = some _ from hF)
  exact x_return ⟨_, ⟨_, _, rfl, rfl, rfl⟩, rfl, hS.drop.drop.drop⟩
attribute [irreducible] P_maskkeep4_trees

def P_slices_Clone_tree_Window_tree_Window (s0 : List T_tree_Window) : Option (List T_tree_Window) :=
  lv (([] : List T_tree_Window) ++ s0) fun z3_2 =>
  ck (apOk 16 z3_2.length) <|
  some z3_2
set_option maxHeartbeats 4000000 in
set_option maxRecDepth 100000 in
theorem c_slices_Clone_tree_Window_tree_Window {w0 w : World} {l : List Assn} {ρ : Heap} {A_s0 : Option Addr} {n_s0 : Nat} {c_s0 : Nat} {s0 : List T_tree_Window} {r : List T_tree_Window} (hF : P_slices_Clone_tree_Window_tree_Window s0 = some r) (h_s0 : RdS R_tree_Window ρ A_s0 n_s0 c_s0 s0) (hS : St w0 w (ro ρ :: l)) :
    Calls Try.prog 77 #[.slice A_s0 n_s0 c_s0] w fun e w' => ∃ (A_y0_ret : Option Addr) (n_y0_ret : Nat) (c_y0_ret : Nat) (cs_y0_ret : List Value), e = .returned (.slice A_y0_ret n_y0_ret c_y0_ret) ∧ RepL R_tree_Window ρ r cs_y0_ret ∧ St w0 w' (vec 48 R_tree_Window.sz (.slice A_y0_ret n_y0_ret c_y0_ret) n_y0_ret cs_y0_ret :: ro ρ :: l) := by
  obtain rfl := h_s0.n
  refine enterC Try.func77 rfl 8 rfl (by simp) ?_
  refine x_seq <| x_region <| p (yl_assign rfl) <| x_done <|
    x_seq <| x_seq <| x_region <| p (yl_move rfl) <|
    p (yeq_nil usl_40 rfl rfl) <| x_done <|
    x_cond (t := Option.isNone A_s0) rfl (fun hc4 => ?_) (fun hc4 => ?_)
  · have hx0 : s0 = [] := RdS.nil_of h_s0 hc4
    have hF : some ([] : List T_tree_Window) = some r := by rw [hx0] at hF; unfold P_slices_Clone_tree_Window_tree_Window at hF; simpa [lv, ck, apOk] using hF
    refine x_seq <| x_region <| p (yl_assign rfl) <| x_done <|
      ?_
    replace hS := St.vec_nil hS 48 R_tree_Window.sz
    have hnil_A_y0_ret : RepL R_tree_Window ρ [] [] := rfl
    obtain rfl := Option.some.inj (show some _ = some _ from hF)
    exact x_return ⟨_, ⟨_, _, rfl, rfl, rfl⟩, none, 0, 0, [], rfl, hnil_A_y0_ret, ((hS.pull 1).pull 1)⟩
  · skip
    refine x_skip <| x_seq <| x_region <|
      ?_
    refine o_buildSlice (vs := []) (cs := []) sl_40 zero_48 (parts_eq pt0) rfl (by intro v hv; cases hv) (by decide) rfl hS (fun b5 w' hS => ?_)
    refine p (yl_move rfl) <|
      ?_
    have hl3_2 : RepL R_tree_Window ρ ([] : List T_tree_Window) [] := RepL.nil
    replace hS := St.vec_of (n := 0) (sz := R_tree_Window.sz) hS rfl (by decide)
    obtain ⟨nw7, hnw7, src7⟩ := src_f usl_40 (hS.pull 1) h_s0
    obtain ⟨z3_2, hz3_2, hF⟩ := lv_s hF
    obtain ⟨hk3_2, hF⟩ := ck_s hF
    refine o_ap sl_40 zero_48 rfl (by decide) rfl rfl hS hl3_2 src7 hnw7 hz3_2 hk3_2 (fun A7 c7 cs7 w' hr7 hS => ?_)
    refine p (yl_assign rfl) <| x_done <|
      ?_
    obtain rfl := Option.some.inj (show some _ = some _ from hF)
    exact x_return ⟨_, ⟨_, _, rfl, rfl, rfl⟩, A7, z3_2.length, c7, cs7, rfl, hr7, ((hS.pull 1).pull 1)⟩
attribute [irreducible] P_slices_Clone_tree_Window_tree_Window

def P_tree_Skew_L6 : (List T_tree_Window × Int) → Option ((List T_tree_Window × Int) ⊕ List T_tree_Window) := fun (after4_L6h, i5_L6h) =>
  if 0 ≤ i5_L6h then
    ck (inb i5_L6h after4_L6h.length) <|
    lv (gt after4_L6h i5_L6h) fun y8_6 =>
    ar (i5_L6h + 1) fun x30 =>
    ck (inb x30 after4_L6h.length) <|
    lv (gt after4_L6h x30) fun y8_12 =>
    lv (min y8_6.Lo y8_12.Lo) fun x34 =>
    ck (inb i5_L6h after4_L6h.length) <|
    lv (stt after4_L6h i5_L6h { (gt after4_L6h i5_L6h) with Lo := x34 }) fun z8_16 =>
    ar (i5_L6h - 1) fun x20 =>
    some (Sum.inl (z8_16, x20))
  else
    some (Sum.inr after4_L6h)
def P_tree_Skew_L11 (l_0 : List T_tree_Window) (after4_L6 : List T_tree_Window) : (Int × Int × Int) → Option ((Int × Int × Int) ⊕ Int) := fun (most3_L11h, before6_L11h, y43_L11h) =>
  if y43_L11h < (l_0.length : Int) then
    ck (inb y43_L11h l_0.length) <|
    lv (gt l_0 y43_L11h) fun y12_2 =>
    bd (
      if 0 < y43_L11h then
        ar (y12_2.Hi - before6_L11h) fun x54 =>
        lv (max most3_L11h x54) fun x55 =>
        lv (min before6_L11h y12_2.Lo) fun x59 =>
        some (x55, x59)
      else
        some (most3_L11h, before6_L11h)) fun (most3_c49, before6_c49) =>
    ar (y43_L11h + 1) fun x61 =>
    bd (
      if x61 < (l_0.length : Int) then
        ar (y43_L11h + 1) fun x70 =>
        ck (inb x70 after4_L6.length) <|
        lv (gt after4_L6 x70) fun y17_8 =>
        ar (y12_2.Hi - y17_8.Lo) fun x74 =>
        lv (max most3_c49 x74) fun x75 =>
        some x75
      else
        some most3_c49) fun most3_c64 =>
    ar (y43_L11h + 1) fun x76 =>
    some (Sum.inl (most3_c64, before6_c49, x76))
  else
    some (Sum.inr most3_L11h)
def P_tree_Skew (l_0 : List T_tree_Window) : Option Int :=
  if (l_0.length : Int) < 2 then
    some 0
  else
    bd (P_slices_Clone_tree_Window_tree_Window l_0) fun r4_1 =>
    ar ((l_0.length : Int) - 2) fun x16 =>
    bd (
      lp P_tree_Skew_L6 fuel (r4_1, x16)) fun after4_L6 =>
    ck (inb 0 l_0.length) <|
    lv (gt l_0 (0 : Int)) fun y9_3 =>
    bd (
      lp (P_tree_Skew_L11 l_0 after4_L6) fuel (0, y9_3.Lo, 0)) fun most3_L11 =>
    some most3_L11
set_option maxHeartbeats 4000000 in
set_option maxRecDepth 100000 in
theorem c_tree_Skew {w0 w : World} {l : List Assn} {ρ : Heap} {A_l_0 : Option Addr} {n_l_0 : Nat} {c_l_0 : Nat} {l_0 : List T_tree_Window} {r : Int} (hF : P_tree_Skew l_0 = some r) (h_l_0 : RdS R_tree_Window ρ A_l_0 n_l_0 c_l_0 l_0) (hS : St w0 w (ro ρ :: l)) :
    Calls Try.prog 24 #[.slice A_l_0 n_l_0 c_l_0] w fun e w' => e = .returned (.int .i64 r) ∧ St w0 w' (ro ρ :: l) := by
  obtain rfl := h_l_0.n
  refine enterC Try.func24 rfl 78 rfl (by simp) ?_
  refine x_seq <| x_region <| p (yl_assign rfl) <| x_done <|
    x_seq <| x_seq <| x_region <| p (yl_move rfl) <|
    p (yl_len_slice usl_40 rfl) <| p (yl_lss rfl rfl) <| x_done <|
    x_cond_p ((l_0.length : Int) < 2) rfl (fun hc11 => ?_) (fun hc11 => ?_)
  · replace hF := it_t hc11 hF
    refine x_seq <| x_region <| p (yl_assign rfl) <| x_done <|
      ?_
    obtain rfl := Option.some.inj (show some _ = some _ from hF)
    exact x_return ⟨_, ⟨_, _, rfl, rfl, rfl⟩, rfl, hS⟩
  · replace hF := it_f hc11 hF
    obtain ⟨r4_1, hc4_1, hF⟩ := bd_s hF
    refine x_skip <| x_seq <| x_region <| p (yl_assign rfl) <|
      x_done <| x_seq <| x_region <| p (yl_move rfl) <|
      ?_
    have hcall := c_slices_Clone_tree_Window_tree_Window hc4_1 h_l_0 hS
    refine o_cc call_77 (args1 rfl) hcall ?_
    rintro e w' ⟨A_y0_ret_4_1, n_y0_ret_4_1, c_y0_ret_4_1, cs_y0_ret_4_1, rfl, h_y0_ret_4_1, hS⟩
    refine ⟨_, rfl, ?_⟩
    obtain rfl := St.vec_n hS h_y0_ret_4_1
    obtain ⟨x16, hx16, hF⟩ := ar_s hF
    refine p (yl_assign rfl) <| x_done <| x_seq <| x_seq <|
      x_region <| p (yl_move rfl) <| p (yl_len_slice usl_40 rfl) <| p (ysub rfl rfl hx16) <|
      p (yl_assign rfl) <| x_done <|
      ?_
    obtain ⟨oL6, hLL6, hF⟩ := bd_s hF
    refine x_join (fun E w => ∃ (cs_after4_L6 : List Value) (after4_L6 : List T_tree_Window), after4_L6 = oL6 ∧ E 0 = .slice A_l_0 l_0.length c_l_0 ∧ E 3 = .int .i64 0 ∧ E 4 = .slice A_y0_ret_4_1 r4_1.length c_y0_ret_4_1 ∧ RepL R_tree_Window ρ after4_L6 cs_after4_L6 ∧ St w0 w (vec 48 R_tree_Window.sz (.slice A_y0_ret_4_1 r4_1.length c_y0_ret_4_1) r4_1.length cs_after4_L6 :: ro ρ :: l)) ?_ ?_
    · skip -- L6
      refine x_block ?_
      refine x_loop (fun k_ E w => ∃ (cs_after4_L6h : List Value) (after4_L6h : List T_tree_Window) (i5_L6h : Int), lp P_tree_Skew_L6 k_ (after4_L6h, i5_L6h) = some oL6 ∧ E 0 = .slice A_l_0 l_0.length c_l_0 ∧ E 3 = .int .i64 0 ∧ E 4 = .slice A_y0_ret_4_1 r4_1.length c_y0_ret_4_1 ∧ E 5 = .int .i64 i5_L6h ∧ RepL R_tree_Window ρ after4_L6h cs_after4_L6h ∧ St w0 w (vec 48 R_tree_Window.sz (.slice A_y0_ret_4_1 r4_1.length c_y0_ret_4_1) r4_1.length cs_after4_L6h :: ro ρ :: l)) fuel ⟨cs_y0_ret_4_1, r4_1, x16, hLL6, rfl, rfl, rfl, rfl, h_y0_ret_4_1, ((hS.pull 1).pull 1)⟩ ?_
      rintro kL6 E w ⟨cs_after4_L6h, after4_L6h, i5_L6h, hLL6, eL6h_0, eL6h_3, eL6h_4, eL6h_5, h_after4_L6h, hS⟩
      obtain ⟨kL6, obL6, rfl, hFL6, hLL6⟩ := lp_s hLL6
      refine x_seq <| x_seq <| x_region <| p (yl_move eL6h_5) <|
        p (yl_geq rfl rfl) <| x_done <|
        x_cond_p (0 ≤ i5_L6h) rfl (fun hc18 => ?_) (fun hc18 => ?_)
      · replace hFL6 := it_t hc18 hFL6
        obtain ⟨hk8_4, hFL6⟩ := ck_s hFL6
        obtain ⟨y8_6, hy8_6, hFL6⟩ := lv_s hFL6
        obtain ⟨el8_6, ek8_6, ee8_6⟩ := h_after4_L6h.get hk8_4
        rw [← hy8_6] at ek8_6
        obtain rfl := ek8_6
        obtain ⟨x30, hx30, hFL6⟩ := ar_s hFL6
        obtain ⟨hk8_10, hFL6⟩ := ck_s hFL6
        obtain ⟨y8_12, hy8_12, hFL6⟩ := lv_s hFL6
        obtain ⟨el8_12, ek8_12, ee8_12⟩ := h_after4_L6h.get hk8_10
        rw [← hy8_12] at ek8_12
        obtain rfl := ek8_12
        obtain ⟨x34, hx34, hFL6⟩ := lv_s hFL6
        obtain ⟨hk8_14, hFL6⟩ := ck_s hFL6
        refine x_skip <| x_seq <| x_block <| x_head 16 mixed (by kernel_rfl) hS _ _ rfl rfl <|
          q (yl_move eL6h_4) <| q (yl_move eL6h_5) <| q (yl_move eL6h_4) <| q (yl_move eL6h_5) <|
          q (yix_o sl_40 rfl rfl hS h_after4_L6h hk8_4) <| q (yl_fieldAddr fld_48_0 rfl) <| qa (fun w' hS => at_load one_3 rfl (EltV.ld (m := 0) ee8_6 hS rfl)) <| q (yl_move eL6h_4) <|
          q (yl_move eL6h_5) <| q (yadd rfl rfl hx30) <| q (yix_o sl_40 rfl rfl hS h_after4_L6h hk8_10) <| q (yl_fieldAddr fld_48_0 rfl) <|
          qa (fun w' hS => at_load one_3 rfl (EltV.ld (m := 0) ee8_12 hS rfl)) <| q (ymin' rfl rfl hx34) <| q (yix_o sl_40 rfl rfl hS h_after4_L6h hk8_14) <| q (yl_fieldAddr fld_48_0 rfl) <|
          q_done fun w' hS => ?_
        obtain ⟨z8_16, hz8_16, hFL6⟩ := lv_s hFL6
        refine o_put' (news := [.int .i64 x34]) sz_3 rfl rfl rfl rfl (o := 0) rfl hk8_14 rfl hS h_after4_L6h (Le.refl _) (fun c hc => by obtain rfl := hc; rfl) hz8_16 (fun cs8_16 w' hr8_16 hS => ?_)
        obtain ⟨x20, hx20, hFL6⟩ := ar_s hFL6
        refine x_done <| x_blk <| x_region <| p (yl_move eL6h_5) <|
          p (ysub rfl rfl hx20) <| p (yl_assign rfl) <| x_done <|
          ?_
        obtain rfl := Option.some.inj (show some _ = some _ from hFL6)
        exact x_inv ⟨kL6, Nat.lt_succ_self _, cs8_16, z8_16, x20, hLL6, eL6h_0, eL6h_3, eL6h_4, rfl, hr8_16, ((hS.pull 1).pull 1)⟩
      · replace hFL6 := it_f hc18 hFL6
        refine x_exitTo _ rfl <|
          ?_
        obtain rfl := Option.some.inj (show some _ = some _ from hFL6)
        exact x_inv ⟨cs_after4_L6h, after4_L6h, hLL6, eL6h_0, eL6h_3, eL6h_4, h_after4_L6h, ((hS.pull 1).pull 1)⟩
    rintro E w ⟨cs_after4_L6, after4_L6, rfl, eL6_0, eL6_3, eL6_4, h_after4_L6, hS⟩
    obtain ⟨hk9_1, hF⟩ := ck_s hF
    obtain ⟨y9_3, hy9_3, hF⟩ := lv_s hF
    obtain ⟨el9_3, ek9_3, ee9_3⟩ := h_l_0.get hk9_1
    rw [← hy9_3] at ek9_3
    obtain rfl := ek9_3
    refine x_seq <| x_region <| p (yl_move eL6_0) <| p (yix_f sl_40 rfl rfl h_l_0 hk9_1) <|
      p (yl_fieldAddr fld_48_0 rfl) <| pa (at_load one_3 rfl (Elt.ld (j := 0) ee9_3 (hS.pull 1) rfl)) <| p (yl_assign rfl) <| x_done <|
      x_seq <| x_seq <| x_region <| p (yl_move eL6_0) <|
      p (yl_len_slice usl_40 rfl) <| p (yl_move rfl) <| x_done <|
      ?_
    obtain ⟨oL11, hLL11, hF⟩ := bd_s hF
    refine x_join (fun E w => ∃ (most3_L11 : Int), most3_L11 = oL11 ∧ E 3 = .int .i64 most3_L11 ∧ St w0 w (ro ρ :: l)) ?_ ?_
    · skip -- L11
      refine x_block ?_
      refine x_loop (fun k_ E w => ∃ (most3_L11h : Int) (before6_L11h : Int) (y43_L11h : Int), lp (P_tree_Skew_L11 l_0 after4_L6) k_ (most3_L11h, before6_L11h, y43_L11h) = some oL11 ∧ E 0 = .slice A_l_0 l_0.length c_l_0 ∧ E 3 = .int .i64 most3_L11h ∧ E 4 = .slice A_y0_ret_4_1 r4_1.length c_y0_ret_4_1 ∧ E 6 = .int .i64 before6_L11h ∧ E 41 = .slice A_l_0 l_0.length c_l_0 ∧ E 42 = .int .i64 (l_0.length : Int) ∧ E 43 = .int .i64 y43_L11h ∧ St w0 w (vec 48 R_tree_Window.sz (.slice A_y0_ret_4_1 r4_1.length c_y0_ret_4_1) r4_1.length cs_after4_L6 :: ro ρ :: l)) fuel ⟨0, y9_3.Lo, 0, hLL11, eL6_0, eL6_3, eL6_4, rfl, rfl, rfl, rfl, ((hS.pull 1).pull 1)⟩ ?_
      rintro kL11 E w ⟨most3_L11h, before6_L11h, y43_L11h, hLL11, eL11h_0, eL11h_3, eL11h_4, eL11h_6, eL11h_41, eL11h_42, eL11h_43, hS⟩
      obtain ⟨kL11, obL11, rfl, hFL11, hLL11⟩ := lp_s hLL11
      refine x_seq <| x_region <| p (yl_lss eL11h_43 eL11h_42) <| x_done <|
        x_seq <|
        x_cond_p (y43_L11h < (l_0.length : Int)) rfl (fun hc44 => ?_) (fun hc44 => ?_)
      · replace hFL11 := it_t hc44 hFL11
        obtain ⟨hk12_1, hFL11⟩ := ck_s hFL11
        obtain ⟨y12_2, hy12_2, hFL11⟩ := lv_s hFL11
        obtain ⟨el12_2, ek12_2, ee12_2⟩ := h_l_0.get hk12_1
        rw [← hy12_2] at ek12_2
        obtain rfl := ek12_2
        refine x_skip <| x_seq <| x_block <| x_seq <|
          x_region <| p (yl_move eL11h_43) <| p (yix_f sl_40 eL11h_41 eL11h_43 h_l_0 hk12_1) <| pa (v := .agg #[.int .i64 y12_2.Lo, .int .i64 y12_2.Hi]) (at_loadAgg agg_48 rfl rfl (Elt.every ee12_2 (hS.pull 1))) <|
          ?_
        refine o_alloc zero_48 hS (fun b8 w' hS => ?_)
        refine p (yl_assign rfl) <|
          ?_
        refine o_storeAgg (news := [.int .i64 y12_2.Lo, .int .i64 y12_2.Hi]) agg_48 rfl rfl rfl (by simp [over_length]) hS (fun w' hS => ?_)
        refine x_done <| x_seq <| x_seq <| x_region <|
          p (yl_move rfl) <| p (yl_gtr rfl rfl) <| x_done <|
          ?_
        obtain ⟨oc49, hFc49, hFL11⟩ := bd_s hFL11
        refine x_join (fun E w => ∃ (most3_c49 : Int) (before6_c49 : Int), (most3_c49, before6_c49) = oc49 ∧ E 0 = .slice A_l_0 l_0.length c_l_0 ∧ E 3 = .int .i64 most3_c49 ∧ E 4 = .slice A_y0_ret_4_1 r4_1.length c_y0_ret_4_1 ∧ E 6 = .int .i64 before6_c49 ∧ E 7 = .int .i64 y43_L11h ∧ E 8 = .pointer (some ⟨b8, 0, none⟩) ∧ E 41 = .slice A_l_0 l_0.length c_l_0 ∧ E 42 = .int .i64 (l_0.length : Int) ∧ E 43 = .int .i64 y43_L11h ∧ St w0 w (vec 48 R_tree_Window.sz (.slice A_y0_ret_4_1 r4_1.length c_y0_ret_4_1) r4_1.length cs_after4_L6 :: cells b8 48 [.int .i64 y12_2.Lo, .int .i64 y12_2.Hi] :: ro ρ :: l)) ?_ ?_
        · skip -- c49
          refine x_cond_p (0 < y43_L11h) rfl (fun hc49 => ?_) (fun hc49 => ?_)
          · replace hFc49 := it_t hc49 hFc49
            obtain ⟨x54, hx54, hFc49⟩ := ar_s hFc49
            obtain ⟨x55, hx55, hFc49⟩ := lv_s hFc49
            obtain ⟨x59, hx59, hFc49⟩ := lv_s hFc49
            refine x_seq <| x_region <| p (yl_move eL11h_3) <| p (yl_field0 fld_48_1 rfl) <|
              pa (at_load one_3 rfl (hS.cell rfl)) <| p (yl_move eL11h_6) <| p (ysub rfl rfl hx54) <| p (ymax' rfl rfl hx55) <|
              p (yl_assign rfl) <| x_done <| x_region <| p (yl_move eL11h_6) <|
              p (yl_field0 fld_48_0 rfl) <| pa (at_load one_3 rfl (hS.cell rfl)) <| p (ymin' rfl rfl hx59) <| p (yl_assign rfl) <|
              x_done <|
              ?_
            exact x_inv ⟨x55, x59, (Option.some.inj (show some _ = some _ from hFc49)), eL11h_0, rfl, eL11h_4, rfl, rfl, rfl, eL11h_41, eL11h_42, eL11h_43, (((hS.pull 2).pull 1).pull 2)⟩
          · replace hFc49 := it_f hc49 hFc49
            refine x_skip <|
              ?_
            exact x_inv ⟨most3_L11h, before6_L11h, (Option.some.inj (show some _ = some _ from hFc49)), eL11h_0, eL11h_3, eL11h_4, eL11h_6, rfl, rfl, eL11h_41, eL11h_42, eL11h_43, (((hS.pull 2).pull 1).pull 2)⟩
        rintro E w ⟨most3_c49, before6_c49, rfl, ec49_0, ec49_3, ec49_4, ec49_6, ec49_7, ec49_8, ec49_41, ec49_42, ec49_43, hS⟩
        obtain ⟨x61, hx61, hFL11⟩ := ar_s hFL11
        refine x_seq <| x_region <| p (yl_move ec49_7) <| p (yadd rfl rfl hx61) <|
          p (yl_move ec49_0) <| p (yl_len_slice usl_40 rfl) <| p (yl_lss rfl rfl) <| x_done <|
          ?_
        obtain ⟨oc64, hFc64, hFL11⟩ := bd_s hFL11
        refine x_join (fun E w => ∃ (most3_c64 : Int), most3_c64 = oc64 ∧ E 0 = .slice A_l_0 l_0.length c_l_0 ∧ E 3 = .int .i64 most3_c64 ∧ E 4 = .slice A_y0_ret_4_1 r4_1.length c_y0_ret_4_1 ∧ E 6 = .int .i64 before6_c49 ∧ E 41 = .slice A_l_0 l_0.length c_l_0 ∧ E 42 = .int .i64 (l_0.length : Int) ∧ E 43 = .int .i64 y43_L11h ∧ St w0 w (vec 48 R_tree_Window.sz (.slice A_y0_ret_4_1 r4_1.length c_y0_ret_4_1) r4_1.length cs_after4_L6 :: ro ρ :: l)) ?_ ?_
        · skip -- c64
          refine x_cond_p (x61 < (l_0.length : Int)) rfl (fun hc64 => ?_) (fun hc64 => ?_)
          · replace hFc64 := it_t hc64 hFc64
            obtain ⟨x70, hx70, hFc64⟩ := ar_s hFc64
            obtain ⟨hk17_6, hFc64⟩ := ck_s hFc64
            obtain ⟨y17_8, hy17_8, hFc64⟩ := lv_s hFc64
            obtain ⟨el17_8, ek17_8, ee17_8⟩ := h_after4_L6.get hk17_6
            rw [← hy17_8] at ek17_8
            obtain rfl := ek17_8
            obtain ⟨x74, hx74, hFc64⟩ := ar_s hFc64
            obtain ⟨x75, hx75, hFc64⟩ := lv_s hFc64
            refine x_still mixed (by kernel_rfl) hS <| q (yl_move ec49_3) <| q (yl_field0 fld_48_1 ec49_8) <| qa (fun w' hS => at_load one_3 rfl ((hS.pull 1).cell rfl)) <|
              q (yl_move ec49_4) <| q (yl_move ec49_7) <| q (yadd rfl rfl hx70) <| q (yix_o sl_40 rfl rfl hS h_after4_L6 hk17_6) <|
              q (yl_fieldAddr fld_48_0 rfl) <| qa (fun w' hS => at_load one_3 rfl (EltV.ld (m := 0) ee17_8 hS rfl)) <| q (ysub rfl rfl hx74) <| q (ymax' rfl rfl hx75) <|
              q (yl_assign rfl) <|
              q_done fun w' hS => ?_
            exact x_inv ⟨x75, (Option.some.inj (show some _ = some _ from hFc64)), ec49_0, rfl, ec49_4, ec49_6, ec49_41, ec49_42, ec49_43, (((hS.pull 1).drop.pull 1).pull 1)⟩
          · replace hFc64 := it_f hc64 hFc64
            refine x_skip <|
              ?_
            exact x_inv ⟨most3_c49, (Option.some.inj (show some _ = some _ from hFc64)), ec49_0, ec49_3, ec49_4, ec49_6, ec49_41, ec49_42, ec49_43, (((hS.pull 1).drop.pull 1).pull 1)⟩
        rintro E w ⟨most3_c64, rfl, ec64_0, ec64_3, ec64_4, ec64_6, ec64_41, ec64_42, ec64_43, hS⟩
        obtain ⟨x76, hx76, hFL11⟩ := ar_s hFL11
        refine x_blk <| x_region <| p (yadd ec64_43 rfl hx76) <| p (yl_move rfl) <|
          x_done <|
          ?_
        obtain rfl := Option.some.inj (show some _ = some _ from hFL11)
        exact x_inv ⟨kL11, Nat.lt_succ_self _, most3_c64, before6_c49, x76, hLL11, ec64_0, ec64_3, ec64_4, ec64_6, ec64_41, ec64_42, rfl, ((hS.pull 1).pull 1)⟩
      · replace hFL11 := it_f hc44 hFL11
        refine x_exitTo _ rfl <|
          ?_
        obtain rfl := Option.some.inj (show some _ = some _ from hFL11)
        exact x_inv ⟨most3_L11h, hLL11, eL11h_3, hS.drop⟩
    rintro E w ⟨most3_L11, rfl, eL11_3, hS⟩
    refine x_seq <| x_region <| p (yl_move eL11_3) <| p (yl_assign rfl) <|
      x_done <|
      ?_
    obtain rfl := Option.some.inj (show some _ = some _ from hF)
    exact x_return ⟨_, ⟨_, _, rfl, rfl, rfl⟩, rfl, hS⟩
attribute [irreducible] P_tree_Skew

def P_maskkeep4_TreeWithin_L7 (l_0 : List Int) (z5_1 : List Int) : (List Int × Int × Int) → Option ((List Int × Int × Int) ⊕ List Int) := fun (cells7_L7h, y31_L7h, b19_1_L7h) =>
  if y31_L7h < (z5_1.length : Int) then
    bd (P_maskmake_Stream_Next (T_maskmake_Stream.mk l_0 b19_1_L7h) 2) fun r9_3 =>
    ar ((6 : Int) + r9_3.1) fun x38 =>
    ck (inb y31_L7h cells7_L7h.length) <|
    lv (stt cells7_L7h y31_L7h x38) fun z9_6 =>
    ar (y31_L7h + 1) fun x40 =>
    some (Sum.inl (z9_6, x40, r9_3.2))
  else
    some (Sum.inr cells7_L7h)
def P_maskkeep4_TreeWithin_L16 (r2_1 : (List T_api_Cell × Int)) (r4_2 : (T_tree_Tree × Int)) (cells7_L7 : List Int) : (Int × Int) → Option ((Int × Int) ⊕ Int) := fun (load11_L16h, b12_L16h) =>
  if b12_L16h < (r4_2.1.Up.length : Int) then
    bd (P_tree_Load r4_2.1 b12_L16h r2_1.1 cells7_L7) fun r18_5 =>
    ar (load11_L16h + r18_5) fun x73 =>
    ar (b12_L16h + 1) fun x66 =>
    some (Sum.inl (x73, x66))
  else
    some (Sum.inr load11_L16h)
def P_maskkeep4_TreeWithin_L21 (r4_2 : (T_tree_Tree × Int)) (r11_3 : (List T_tree_Window × Int)) (load11_L16 : Int) (y19_4 : T_api_Cell) : Int → Option (Int ⊕ (Unit ⊕ Bool)) := fun y81_L21h =>
  if y81_L21h < (r11_3.1.length : Int) then
    ck (inb y81_L21h r11_3.1.length) <|
    lv (gt r11_3.1 y81_L21h) fun y22_2 =>
    bd (P_tree_Depth r4_2.1 y81_L21h) fun r23_2 =>
    ck (inb 0 y19_4.Min.length) <|
    lv (gt y19_4.Min (0 : Int)) fun x95 =>
    ar (r23_2 * x95) fun x96 =>
    ck ((!(decide (y22_2.Lo < x96))) = true → inb 0 y19_4.Max.length) <|
    lv (gt y19_4.Max (0 : Int)) fun x105 =>
    ck ((!(decide (y22_2.Lo < x96))) = true → I64 (y19_4.Drive * load11_L16)) <|
    lv (y19_4.Drive * load11_L16) fun x109 =>
    ck ((!(decide (y22_2.Lo < x96))) = true → I64 (x105 + x109)) <|
    lv (x105 + x109) fun x110 =>
    ck ((!(decide (y22_2.Lo < x96))) = true → I64 (r23_2 * x110)) <|
    lv (r23_2 * x110) fun x111 =>
    lv ((decide (y22_2.Lo < x96)) || (decide (x111 < y22_2.Hi))) fun x113 =>
    lv (x113 || (decide (y22_2.Hi < y22_2.Lo))) fun x120 =>
    if x120 = true then
      some (Sum.inr (Sum.inr false))
    else
      ar (y81_L21h + 1) fun x121 =>
      some (Sum.inl x121)
  else
    some (Sum.inr (Sum.inl ()))
def P_maskkeep4_TreeWithin (l_0 : List Int) : Option Bool :=
  bd (P_maskmake_Stream_LayLib (T_maskmake_Stream.mk l_0 0)) fun r2_1 =>
  bd (P_maskmake_Stream_Range (T_maskmake_Stream.mk l_0 r2_1.2) 1 40) fun r3_1 =>
  bd (P_maskmake_Stream_Tree (T_maskmake_Stream.mk l_0 r3_1.2) r3_1.1) fun r4_2 =>
  ck (mkOk 8 r3_1.1) <|
  lv ((List.replicate (r3_1.1 : Int).toNat 0 : List Int)) fun z5_1 =>
  bd (
    lp (P_maskkeep4_TreeWithin_L7 l_0 z5_1) fuel (z5_1, 0, r4_2.2)) fun cells7_L7 =>
  bd (P_tree_Arrivals r4_2.1 r2_1.1 cells7_L7) fun r11_3 =>
  bd (P_maskkeep4_trees) fun r12_0 =>
  lv ((!r12_0) || (decide (r11_3.2 ≠ 0))) fun x53 =>
  lv (x53 || (decide ((r11_3.1.length : Int) ≠ r3_1.1))) fun x59 =>
  if x59 = true then
    some false
  else
    bd (
      lp (P_maskkeep4_TreeWithin_L16 r2_1 r4_2 cells7_L7) fuel (0, (-1))) fun load11_L16 =>
    ck (inb r4_2.1.Cell r2_1.1.length) <|
    lv (gt r2_1.1 r4_2.1.Cell) fun y19_4 =>
    bs (
      lp (P_maskkeep4_TreeWithin_L21 r4_2 r11_3 load11_L16 y19_4) fuel 0) (fun y => some y) fun _ =>
    bd (P_tree_Skew r11_3.1) fun r27_1 =>
    some (decide (0 ≤ r27_1))
set_option maxHeartbeats 4000000 in
set_option maxRecDepth 100000 in
theorem c_maskkeep4_TreeWithin {w0 w : World} {l : List Assn} {ρ : Heap} {A_l_0 : Option Addr} {n_l_0 : Nat} {c_l_0 : Nat} {l_0 : List Int} {r : Bool} (hF : P_maskkeep4_TreeWithin l_0 = some r) (h_l_0 : RdS (RpI .i64) ρ A_l_0 n_l_0 c_l_0 l_0) (hS : St w0 w (ro ρ :: l)) :
    Calls Try.prog 4 #[.slice A_l_0 n_l_0 c_l_0] w fun e w' => e = .returned (.bool r) ∧ St w0 w' (ro ρ :: l) := by
  obtain rfl := h_l_0.n
  refine enterC Try.func4 rfl 125 rfl (by simp) ?_
  refine x_seq <| x_region <| p (yl_assign rfl) <| x_done <|
    x_seq <| x_region <| p (yl_move rfl) <| p (v := .agg #[.slice A_l_0 l_0.length c_l_0, .int .i64 0]) (yl_build bld_25 bldf_25 (parts_eq (pt (va := .slice A_l_0 l_0.length c_l_0) rfl pt0)) (by kernel_rfl)) <|
    ?_
  refine o_box (cs := [.slice A_l_0 l_0.length c_l_0, .int .i64 0]) rfl rfl hS (fun b19 w' hS => ?_)
  obtain ⟨r2_1, hc2_1, hF⟩ := bd_s hF
  refine p (yl_assign rfl) <| x_done <| x_seq <| x_region <|
    p (yl_move rfl) <|
    ?_
  have hcall := c_maskmake_Stream_LayLib hc2_1 h_l_0 ((hS.pull 1).pull 1)
  refine o_cc call_18 (args1 rfl) hcall ?_
  rintro e w' ⟨ρ'_2_1, A_y0_ret_2_1, n_y0_ret_2_1, c_y0_ret_2_1, cs_y0_ret_2_1, rfl, hle2_1, h_y0_ret_2_1, hS⟩
  refine ⟨_, rfl, ?_⟩
  obtain rfl := St.vec_n hS h_y0_ret_2_1
  obtain ⟨r3_1, hc3_1, hF⟩ := bd_s hF
  refine p (yl_assign rfl) <| x_done <| x_seq <| x_region <|
    p (yl_move rfl) <|
    ?_
  have hcall := c_maskmake_Stream_Range hc3_1 (h_l_0.le hle2_1) ((hS.pull 2).pull 2)
  refine o_cc call_14 (args3 rfl rfl rfl) hcall ?_
  rintro e w' ⟨rfl, hS⟩
  refine ⟨_, rfl, ?_⟩
  obtain ⟨r4_2, hc4_2, hF⟩ := bd_s hF
  refine p (yl_assign rfl) <| x_done <| x_seq <| x_region <|
    p (yl_move rfl) <| p (yl_move rfl) <|
    ?_
  have hcall := c_maskmake_Stream_Tree hc4_2 (h_l_0.le hle2_1) ((hS.pull 1).pull 1)
  refine o_cc call_19 (args2 rfl rfl) hcall ?_
  rintro e w' ⟨A_y0_ret_1_4_2, n_y0_ret_1_4_2, c_y0_ret_1_4_2, cs_y0_ret_1_4_2, A_y0_ret_2_4_2, n_y0_ret_2_4_2, c_y0_ret_2_4_2, cs_y0_ret_2_4_2, rfl, h_y0_ret_1_4_2, h_y0_ret_2_4_2, hS⟩
  refine ⟨_, rfl, ?_⟩
  obtain rfl := St.vec_n hS h_y0_ret_1_4_2
  obtain rfl := St.vec_n (hS.pull 1) h_y0_ret_2_4_2
  refine o_alloc zero_38 hS (fun b6 w' hS => ?_)
  refine o_storeAgg (news := [.int .i64 r4_2.1.Cell, .slice A_y0_ret_1_4_2 r4_2.1.Up.length c_y0_ret_1_4_2, .slice A_y0_ret_2_4_2 r4_2.1.Leaf.length c_y0_ret_2_4_2]) agg_38 rfl rfl rfl (by simp [over_length]) hS (fun w' hS => ?_)
  refine x_done <| x_seq <| x_region <| p (yl_move rfl) <|
    ?_
  obtain ⟨hk5_1, hF⟩ := ck_s hF
  obtain ⟨z5_1, hz5_1, hF⟩ := lv_s hF
  refine o_mk sl_22 zero_3 (show (RpI .i64).ok ρ'_2_1 _ 0 from rfl) rfl rfl hk5_1 (by decide) hz5_1 hS (fun A28 cs28 w' hr28 hS => ?_)
  refine p (yl_assign rfl) <| x_done <| x_seq <| x_seq <|
    x_region <| p (yl_move rfl) <| p (yl_len_slice usl_22 rfl) <| p (yl_move rfl) <|
    x_done <|
    ?_
  obtain ⟨oL7, hLL7, hF⟩ := bd_s hF
  refine x_join (fun E w => ∃ (cs_cells7_L7 : List Value) (cells7_L7 : List Int), cells7_L7 = oL7 ∧ E 4 = .slice A_y0_ret_2_1 r2_1.1.length c_y0_ret_2_1 ∧ E 5 = .int .i64 r3_1.1 ∧ E 6 = .pointer (some ⟨b6, 0, none⟩) ∧ E 7 = .slice A28 z5_1.length z5_1.length ∧ RepL (RpI .i64) ρ'_2_1 cells7_L7 cs_cells7_L7 ∧ St w0 w (vec 46 R_api_Cell.sz (.slice A_y0_ret_2_1 r2_1.1.length c_y0_ret_2_1) r2_1.1.length cs_y0_ret_2_1 :: cells b6 38 [.int .i64 r4_2.1.Cell, .slice A_y0_ret_1_4_2 r4_2.1.Up.length c_y0_ret_1_4_2, .slice A_y0_ret_2_4_2 r4_2.1.Leaf.length c_y0_ret_2_4_2] :: vec 3 (RpI .i64).sz (.slice A28 z5_1.length z5_1.length) z5_1.length cs_cells7_L7 :: vec 3 (RpI .i64).sz (.slice A_y0_ret_1_4_2 r4_2.1.Up.length c_y0_ret_1_4_2) r4_2.1.Up.length cs_y0_ret_1_4_2 :: vec 3 (RpI .i64).sz (.slice A_y0_ret_2_4_2 r4_2.1.Leaf.length c_y0_ret_2_4_2) r4_2.1.Leaf.length cs_y0_ret_2_4_2 :: ro ρ'_2_1 :: l)) ?_ ?_
  · skip -- L7
    refine x_block ?_
    refine x_loop (fun k_ E w => ∃ (cs_cells7_L7h : List Value) (cells7_L7h : List Int) (y31_L7h : Int) (b19_1_L7h : Int), lp (P_maskkeep4_TreeWithin_L7 l_0 z5_1) k_ (cells7_L7h, y31_L7h, b19_1_L7h) = some oL7 ∧ E 3 = .pointer (some ⟨b19, 0, none⟩) ∧ E 4 = .slice A_y0_ret_2_1 r2_1.1.length c_y0_ret_2_1 ∧ E 5 = .int .i64 r3_1.1 ∧ E 6 = .pointer (some ⟨b6, 0, none⟩) ∧ E 7 = .slice A28 z5_1.length z5_1.length ∧ E 30 = .int .i64 (z5_1.length : Int) ∧ E 31 = .int .i64 y31_L7h ∧ RepL (RpI .i64) ρ'_2_1 cells7_L7h cs_cells7_L7h ∧ St w0 w (cells b19 25 [.slice A_l_0 l_0.length c_l_0, .int .i64 b19_1_L7h] :: vec 46 R_api_Cell.sz (.slice A_y0_ret_2_1 r2_1.1.length c_y0_ret_2_1) r2_1.1.length cs_y0_ret_2_1 :: cells b6 38 [.int .i64 r4_2.1.Cell, .slice A_y0_ret_1_4_2 r4_2.1.Up.length c_y0_ret_1_4_2, .slice A_y0_ret_2_4_2 r4_2.1.Leaf.length c_y0_ret_2_4_2] :: vec 3 (RpI .i64).sz (.slice A28 z5_1.length z5_1.length) z5_1.length cs_cells7_L7h :: vec 3 (RpI .i64).sz (.slice A_y0_ret_1_4_2 r4_2.1.Up.length c_y0_ret_1_4_2) r4_2.1.Up.length cs_y0_ret_1_4_2 :: vec 3 (RpI .i64).sz (.slice A_y0_ret_2_4_2 r4_2.1.Leaf.length c_y0_ret_2_4_2) r4_2.1.Leaf.length cs_y0_ret_2_4_2 :: ro ρ'_2_1 :: l)) fuel ⟨cs28, z5_1, 0, r4_2.2, hLL7, rfl, rfl, rfl, rfl, rfl, rfl, rfl, hr28, (((((((hS.pull 5).pull 4).pull 4).pull 3).pull 4).pull 6).pull 6)⟩ ?_
    rintro kL7 E w ⟨cs_cells7_L7h, cells7_L7h, y31_L7h, b19_1_L7h, hLL7, eL7h_3, eL7h_4, eL7h_5, eL7h_6, eL7h_7, eL7h_30, eL7h_31, h_cells7_L7h, hS⟩
    obtain ⟨kL7, obL7, rfl, hFL7, hLL7⟩ := lp_s hLL7
    refine x_seq <| x_region <| p (yl_lss eL7h_31 eL7h_30) <| x_done <|
      x_seq <|
      x_cond_p (y31_L7h < (z5_1.length : Int)) rfl (fun hc32 => ?_) (fun hc32 => ?_)
    · replace hFL7 := it_t hc32 hFL7
      obtain ⟨r9_3, hc9_3, hFL7⟩ := bd_s hFL7
      refine x_skip <| x_seq <| x_block <| x_seq <|
        x_region <| p (yl_move eL7h_31) <| p (yl_assign rfl) <| x_done <|
        x_region <| p (yl_move eL7h_7) <| p (yl_move rfl) <| p (yl_move eL7h_3) <|
        ?_
      have hcall := c_maskmake_Stream_Next hc9_3 (h_l_0.le hle2_1) ((hS.pull 6).pull 1)
      refine o_cc call_15 (args2 rfl rfl) hcall ?_
      rintro e w' ⟨rfl, hS⟩
      refine ⟨_, rfl, ?_⟩
      obtain ⟨x38, hx38, hFL7⟩ := ar_s hFL7
      obtain ⟨hk9_5, hFL7⟩ := ck_s hFL7
      refine p (yadd rfl rfl hx38) <| p (yix_o sl_22 rfl rfl (hS.pull 4) h_cells7_L7h hk9_5) <|
        ?_
      obtain ⟨z9_6, hz9_6, hFL7⟩ := lv_s hFL7
      refine o_put' (news := [.int .i64 x38]) sz_3 rfl rfl rfl rfl (o := 0) rfl hk9_5 rfl (hS.pull 4) h_cells7_L7h (Le.refl _) (fun c hc => ok_all hc (show (RpI .i64).ok ρ'_2_1 [.int .i64 x38] x38 from rfl)) hz9_6 (fun cs9_6 w' hr9_6 hS => ?_)
      obtain ⟨x40, hx40, hFL7⟩ := ar_s hFL7
      refine x_done <| x_blk <| x_region <| p (yadd eL7h_31 rfl hx40) <|
        p (yl_move rfl) <| x_done <|
        ?_
      obtain rfl := Option.some.inj (show some _ = some _ from hFL7)
      exact x_inv ⟨kL7, Nat.lt_succ_self _, cs9_6, z9_6, x40, r9_3.2, hLL7, eL7h_3, eL7h_4, eL7h_5, eL7h_6, eL7h_7, eL7h_30, rfl, hr9_6, (((((((hS.pull 2).pull 6).pull 6).pull 3).pull 6).pull 6).pull 6)⟩
    · replace hFL7 := it_f hc32 hFL7
      refine x_exitTo _ rfl <|
        ?_
      obtain rfl := Option.some.inj (show some _ = some _ from hFL7)
      exact x_inv ⟨cs_cells7_L7h, cells7_L7h, hLL7, eL7h_4, eL7h_5, eL7h_6, eL7h_7, h_cells7_L7h, ((((((hS.drop.pull 5).pull 5).pull 5).pull 5).pull 5).pull 5)⟩
  rintro E w ⟨cs_cells7_L7, cells7_L7, rfl, eL7_4, eL7_5, eL7_6, eL7_7, h_cells7_L7, hS⟩
  obtain ⟨r11_3, hc11_3, hF⟩ := bd_s hF
  refine x_seq <| x_region <| pa (v := .agg #[.int .i64 r4_2.1.Cell, .slice A_y0_ret_1_4_2 r4_2.1.Up.length c_y0_ret_1_4_2, .slice A_y0_ret_2_4_2 r4_2.1.Leaf.length c_y0_ret_2_4_2]) (ld_sub agg_38 eL7_6 rfl rfl (hS.pull 1)) <| p (yl_move eL7_4) <|
    p (yl_move eL7_7) <|
    ?_
  obtain ⟨ρl0, hll0, hlf0, hS0, back0⟩ := St.lend ((hS.pull 5).pull 4) h_y0_ret_1_4_2
  obtain ⟨ρl1, hll1, hlf1, hS1, back1⟩ := St.lend (hS0.pull 4) (h_y0_ret_2_4_2.le hll0)
  obtain ⟨ρl2, hll2, hlf2, hS2, back2⟩ := St.lend (hS1.pull 1) (h_y0_ret_2_1.le (hll0.trans hll1))
  obtain ⟨ρl3, hll3, hlf3, hS3, back3⟩ := St.lend (hS2.pull 2) (h_cells7_L7.le ((hll0.trans hll1).trans hll2))
  have hcall := c_tree_Arrivals hc11_3 (hlf0.le ((hll1.trans hll2).trans hll3)) (hlf1.le (hll2.trans hll3)) (hlf2.le hll3) hlf3 hS3
  refine o_cc call_20 (args3 rfl rfl rfl) hcall ?_
  rintro e w' ⟨A_y0_ret_11_3, n_y0_ret_11_3, c_y0_ret_11_3, cs_y0_ret_11_3, rfl, h_y0_ret_11_3, hS⟩
  refine ⟨_, rfl, ?_⟩
  replace hS := back3 (hS.pull 1)
  replace hS := back2 (hS.pull 1)
  replace hS := back1 (hS.pull 1)
  replace hS := back0 (hS.pull 1)
  replace h_y0_ret_11_3 : RepL R_tree_Window ρ'_2_1 r11_3.1 cs_y0_ret_11_3 := RepL.flat (fun h => h) h_y0_ret_11_3
  obtain rfl := St.vec_n (hS.pull 5) h_y0_ret_11_3
  obtain ⟨r12_0, hc12_0, hF⟩ := bd_s hF
  refine p (yl_move rfl) <| p (yl_extract rfl rfl) <| p (yl_extract rfl rfl) <| p (yl_assign rfl) <|
    p (yl_assign rfl) <| x_done <| x_seq <| x_seq <|
    x_region <|
    ?_
  have hcall := c_maskkeep4_trees hc12_0  (hS.pull 1)
  refine o_cc call_21 args0 ((Calls.mono hcall (fun e w'' h => And.intro h.1 (((((((h.2.pull 6).pull 6).pull 6).pull 6).pull 6).pull 5).pull 6)))) ?_
  rintro e w' ⟨rfl, hS⟩
  refine ⟨_, rfl, ?_⟩
  obtain ⟨x53, hx53, hF⟩ := lv_s hF
  obtain ⟨x59, hx59, hF⟩ := lv_s hF
  refine p (yl_not rfl) <| p (yl_move rfl) <| pg (v := .int .i64 r11_3.2) 50 (c := !(!r12_0)) (says_f _) (fun hq => Yl.at (yl_move rfl)) <| pg (v := .bool (decide (r11_3.2 ≠ 0))) 50 (c := !(!r12_0)) (says_f _) (fun hq => Yl.at (yl_neq (cv hq) rfl)) <|
    p (yor' rfl rfl (fun hc => (cv (t_not hc))) hx53) <| p (yl_move rfl) <| pg (v := .slice A_y0_ret_11_3 r11_3.1.length c_y0_ret_11_3) 54 (c := !x53) (says_f _) (fun hq => Yl.at (yl_move rfl)) <| pg (v := .int .i64 (r11_3.1.length : Int)) 54 (c := !x53) (says_f _) (fun hq => Yl.at (yl_len_slice usl_40 (cv hq))) <|
    pg (v := .int .i64 r3_1.1) 54 (c := !x53) (says_f _) (fun hq => Yl.at (yl_move eL7_5)) <| pg (v := .bool (decide ((r11_3.1.length : Int) ≠ r3_1.1))) 54 (c := !x53) (says_f _) (fun hq => Yl.at (yl_neq (cv hq) (cv hq))) <| p (yor' rfl rfl (fun hc => (cv (t_not hc))) hx59) <| x_done <|
    x_cond (t := x59) rfl (fun hc59 => ?_) (fun hc59 => ?_)
  · replace hF := it_t hc59 hF
    refine x_seq <| x_region <| p (yl_assign rfl) <| x_done <|
      ?_
    obtain rfl := Option.some.inj (show some _ = some _ from hF)
    exact x_return ⟨_, ⟨_, _, rfl, rfl, rfl⟩, rfl, (ro_back0 hle2_1 ((((((hS.drop.pull 1).drop.pull 1).drop.pull 1).drop.pull 1).drop.pull 1).drop))⟩
  · replace hF := it_bf hc59 hF
    refine x_skip <| x_seq <| x_region <| p (yl_assign rfl) <|
      x_done <| x_seq <| x_seq <| x_region <|
      p (yl_assign rfl) <| x_done <|
      ?_
    obtain ⟨oL16, hLL16, hF⟩ := bd_s hF
    refine x_join (fun E w => ∃ (load11_L16 : Int), load11_L16 = oL16 ∧ E 4 = .slice A_y0_ret_2_1 r2_1.1.length c_y0_ret_2_1 ∧ E 6 = .pointer (some ⟨b6, 0, none⟩) ∧ E 9 = .slice A_y0_ret_11_3 r11_3.1.length c_y0_ret_11_3 ∧ E 11 = .int .i64 load11_L16 ∧ St w0 w (vec 46 R_api_Cell.sz (.slice A_y0_ret_2_1 r2_1.1.length c_y0_ret_2_1) r2_1.1.length cs_y0_ret_2_1 :: cells b6 38 [.int .i64 r4_2.1.Cell, .slice A_y0_ret_1_4_2 r4_2.1.Up.length c_y0_ret_1_4_2, .slice A_y0_ret_2_4_2 r4_2.1.Leaf.length c_y0_ret_2_4_2] :: vec 48 R_tree_Window.sz (.slice A_y0_ret_11_3 r11_3.1.length c_y0_ret_11_3) r11_3.1.length cs_y0_ret_11_3 :: vec 3 (RpI .i64).sz (.slice A_y0_ret_1_4_2 r4_2.1.Up.length c_y0_ret_1_4_2) r4_2.1.Up.length cs_y0_ret_1_4_2 :: vec 3 (RpI .i64).sz (.slice A_y0_ret_2_4_2 r4_2.1.Leaf.length c_y0_ret_2_4_2) r4_2.1.Leaf.length cs_y0_ret_2_4_2 :: ro ρ'_2_1 :: l)) ?_ ?_
    · skip -- L16
      refine x_block ?_
      refine x_loop (fun k_ E w => ∃ (load11_L16h : Int) (b12_L16h : Int), lp (P_maskkeep4_TreeWithin_L16 r2_1 r4_2 cells7_L7) k_ (load11_L16h, b12_L16h) = some oL16 ∧ E 4 = .slice A_y0_ret_2_1 r2_1.1.length c_y0_ret_2_1 ∧ E 6 = .pointer (some ⟨b6, 0, none⟩) ∧ E 7 = .slice A28 z5_1.length z5_1.length ∧ E 9 = .slice A_y0_ret_11_3 r11_3.1.length c_y0_ret_11_3 ∧ E 11 = .int .i64 load11_L16h ∧ E 12 = .int .i64 b12_L16h ∧ St w0 w (vec 46 R_api_Cell.sz (.slice A_y0_ret_2_1 r2_1.1.length c_y0_ret_2_1) r2_1.1.length cs_y0_ret_2_1 :: cells b6 38 [.int .i64 r4_2.1.Cell, .slice A_y0_ret_1_4_2 r4_2.1.Up.length c_y0_ret_1_4_2, .slice A_y0_ret_2_4_2 r4_2.1.Leaf.length c_y0_ret_2_4_2] :: vec 3 (RpI .i64).sz (.slice A28 z5_1.length z5_1.length) z5_1.length cs_cells7_L7 :: vec 48 R_tree_Window.sz (.slice A_y0_ret_11_3 r11_3.1.length c_y0_ret_11_3) r11_3.1.length cs_y0_ret_11_3 :: vec 3 (RpI .i64).sz (.slice A_y0_ret_1_4_2 r4_2.1.Up.length c_y0_ret_1_4_2) r4_2.1.Up.length cs_y0_ret_1_4_2 :: vec 3 (RpI .i64).sz (.slice A_y0_ret_2_4_2 r4_2.1.Leaf.length c_y0_ret_2_4_2) r4_2.1.Leaf.length cs_y0_ret_2_4_2 :: ro ρ'_2_1 :: l)) fuel ⟨0, (-1), hLL16, eL7_4, eL7_6, eL7_7, rfl, rfl, rfl, (((((((hS.pull 1).pull 2).pull 2).pull 5).pull 5).pull 6).pull 6)⟩ ?_
      rintro kL16 E w ⟨load11_L16h, b12_L16h, hLL16, eL16h_4, eL16h_6, eL16h_7, eL16h_9, eL16h_11, eL16h_12, hS⟩
      obtain ⟨kL16, obL16, rfl, hFL16, hLL16⟩ := lp_s hLL16
      refine x_seq <| x_seq <| x_region <| p (yl_move eL16h_12) <|
        p (yl_field0 fld_38_1 eL16h_6) <| pa (at_load one_22 rfl ((hS.pull 1).cell rfl)) <| p (yl_len_slice usl_22 rfl) <| p (yl_lss rfl rfl) <|
        x_done <|
        x_cond_p (b12_L16h < (r4_2.1.Up.length : Int)) rfl (fun hc64 => ?_) (fun hc64 => ?_)
      · replace hFL16 := it_t hc64 hFL16
        obtain ⟨r18_5, hc18_5, hFL16⟩ := bd_s hFL16
        refine x_skip <| x_seq <| x_block <| x_region <|
          p (yl_move eL16h_11) <| pa (v := .agg #[.int .i64 r4_2.1.Cell, .slice A_y0_ret_1_4_2 r4_2.1.Up.length c_y0_ret_1_4_2, .slice A_y0_ret_2_4_2 r4_2.1.Leaf.length c_y0_ret_2_4_2]) (ld_sub agg_38 eL16h_6 rfl rfl (hS.pull 1)) <| p (yl_move eL16h_12) <| p (yl_move eL16h_4) <|
          p (yl_move eL16h_7) <|
          ?_
        obtain ⟨ρl0, hll0, hlf0, hS0, back0⟩ := St.lend ((hS.pull 6).pull 5) h_y0_ret_1_4_2
        obtain ⟨ρl1, hll1, hlf1, hS1, back1⟩ := St.lend (hS0.pull 5) (h_y0_ret_2_4_2.le hll0)
        obtain ⟨ρl2, hll2, hlf2, hS2, back2⟩ := St.lend (hS1.pull 1) (h_y0_ret_2_1.le (hll0.trans hll1))
        obtain ⟨ρl3, hll3, hlf3, hS3, back3⟩ := St.lend (hS2.pull 2) (h_cells7_L7.le ((hll0.trans hll1).trans hll2))
        have hcall := c_tree_Load hc18_5 (hlf0.le ((hll1.trans hll2).trans hll3)) (hlf1.le (hll2.trans hll3)) (hlf2.le hll3) hlf3 hS3
        refine o_cc call_22 (args4 rfl rfl rfl rfl) ((Calls.mono hcall (fun e w'' h => And.intro h.1 ((((((((back0 ((back1 ((back2 ((back3 h.2).pull 1)).pull 1)).pull 1)).pull 1).pull 2).pull 2).pull 6).pull 5).pull 6).pull 6)))) ?_
        rintro e w' ⟨rfl, hS⟩
        refine ⟨_, rfl, ?_⟩
        obtain ⟨x73, hx73, hFL16⟩ := ar_s hFL16
        obtain ⟨x66, hx66, hFL16⟩ := ar_s hFL16
        refine p (yadd rfl rfl hx73) <| p (yl_assign rfl) <| x_done <| x_blk <|
          x_region <| p (yl_move eL16h_12) <| p (yadd rfl rfl hx66) <| p (yl_assign rfl) <|
          x_done <|
          ?_
        obtain rfl := Option.some.inj (show some _ = some _ from hFL16)
        exact x_inv ⟨kL16, Nat.lt_succ_self _, x73, x66, hLL16, eL16h_4, eL16h_6, eL16h_7, eL16h_9, rfl, rfl, (((((((hS.pull 6).pull 6).pull 6).pull 6).pull 6).pull 6).pull 6)⟩
      · replace hFL16 := it_f hc64 hFL16
        refine x_exitTo _ rfl <|
          ?_
        obtain rfl := Option.some.inj (show some _ = some _ from hFL16)
        exact x_inv ⟨load11_L16h, hLL16, eL16h_4, eL16h_6, eL16h_9, eL16h_11, (((((((hS.pull 2).drop.pull 5).pull 5).pull 5).pull 5).pull 5).pull 5)⟩
    rintro E w ⟨load11_L16, rfl, eL16_4, eL16_6, eL16_9, eL16_11, hS⟩
    obtain ⟨hk19_3, hF⟩ := ck_s hF
    obtain ⟨y19_4, hy19_4, hF⟩ := lv_s hF
    obtain ⟨el19_4, ek19_4, ee19_4⟩ := h_y0_ret_2_1.get hk19_3
    rw [← hy19_4] at ek19_4
    obtain ⟨A19_4_5, n19_4_5, c19_4_5, A19_4_6, n19_4_6, c19_4_6, A19_4_7, n19_4_7, c19_4_7, rfl, f19_4_5, f19_4_6, f19_4_7⟩ := ek19_4
    obtain rfl := f19_4_5.n
    obtain rfl := f19_4_6.n
    obtain rfl := f19_4_7.n
    refine x_seq <| x_region <| p (yl_move eL16_4) <| p (yl_field0 fld_38_0 eL16_6) <|
      pa (at_load one_3 rfl ((hS.pull 1).cell rfl)) <| p (yix_o sl_35 rfl rfl hS h_y0_ret_2_1 hk19_3) <| pa (v := .agg #[.string y19_4.Name, .bool y19_4.Flop, .int .i64 y19_4.Ins, .int .u64 y19_4.Table, .int .i64 y19_4.Area, .slice A19_4_5 y19_4.Cap.length c19_4_5, .slice A19_4_6 y19_4.Min.length c19_4_6, .slice A19_4_7 y19_4.Max.length c19_4_7, .int .i64 y19_4.Drive, .int .i64 y19_4.Setup, .int .i64 y19_4.Hold]) (at_loadAgg agg_46 rfl rfl (EltV.every ee19_4 hS)) <|
      ?_
    refine o_alloc zero_46 hS (fun b13 w' hS => ?_)
    refine o_storeAgg (news := [.string y19_4.Name, .bool y19_4.Flop, .int .i64 y19_4.Ins, .int .u64 y19_4.Table, .int .i64 y19_4.Area, .slice A19_4_5 y19_4.Cap.length c19_4_5, .slice A19_4_6 y19_4.Min.length c19_4_6, .slice A19_4_7 y19_4.Max.length c19_4_7, .int .i64 y19_4.Drive, .int .i64 y19_4.Setup, .int .i64 y19_4.Hold]) agg_46 rfl rfl rfl (by simp [over_length]) hS (fun w' hS => ?_)
    refine x_done <| x_seq <| x_seq <| x_region <|
      p (yl_move eL16_9) <| p (yl_len_slice usl_40 rfl) <| p (yl_move rfl) <| x_done <|
      ?_
    obtain ⟨oL21, hLL21, hF⟩ := bs_s hF
    refine x_join (fun E w => (Sum.inl (())) = oL21 ∧ E 9 = .slice A_y0_ret_11_3 r11_3.1.length c_y0_ret_11_3 ∧ St w0 w (vec 48 R_tree_Window.sz (.slice A_y0_ret_11_3 r11_3.1.length c_y0_ret_11_3) r11_3.1.length cs_y0_ret_11_3 :: ro ρ'_2_1 :: l)) ?_ ?_
    · skip -- L21
      refine x_block ?_
      refine x_loop (fun k_ E w => ∃ (y81_L21h : Int), lp (P_maskkeep4_TreeWithin_L21 r4_2 r11_3 load11_L16 y19_4) k_ y81_L21h = some oL21 ∧ E 6 = .pointer (some ⟨b6, 0, none⟩) ∧ E 9 = .slice A_y0_ret_11_3 r11_3.1.length c_y0_ret_11_3 ∧ E 11 = .int .i64 load11_L16 ∧ E 13 = .pointer (some ⟨b13, 0, none⟩) ∧ E 79 = .slice A_y0_ret_11_3 r11_3.1.length c_y0_ret_11_3 ∧ E 80 = .int .i64 (r11_3.1.length : Int) ∧ E 81 = .int .i64 y81_L21h ∧ St w0 w (cells b6 38 [.int .i64 r4_2.1.Cell, .slice A_y0_ret_1_4_2 r4_2.1.Up.length c_y0_ret_1_4_2, .slice A_y0_ret_2_4_2 r4_2.1.Leaf.length c_y0_ret_2_4_2] :: vec 48 R_tree_Window.sz (.slice A_y0_ret_11_3 r11_3.1.length c_y0_ret_11_3) r11_3.1.length cs_y0_ret_11_3 :: cells b13 46 [.string y19_4.Name, .bool y19_4.Flop, .int .i64 y19_4.Ins, .int .u64 y19_4.Table, .int .i64 y19_4.Area, .slice A19_4_5 y19_4.Cap.length c19_4_5, .slice A19_4_6 y19_4.Min.length c19_4_6, .slice A19_4_7 y19_4.Max.length c19_4_7, .int .i64 y19_4.Drive, .int .i64 y19_4.Setup, .int .i64 y19_4.Hold] :: vec 3 (RpI .i64).sz (.slice A_y0_ret_1_4_2 r4_2.1.Up.length c_y0_ret_1_4_2) r4_2.1.Up.length cs_y0_ret_1_4_2 :: vec 3 (RpI .i64).sz (.slice A_y0_ret_2_4_2 r4_2.1.Leaf.length c_y0_ret_2_4_2) r4_2.1.Leaf.length cs_y0_ret_2_4_2 :: ro ρ'_2_1 :: l)) fuel ⟨0, hLL21, eL16_6, eL16_9, eL16_11, rfl, rfl, rfl, rfl, (((((((hS.pull 1).drop.pull 5).pull 5).pull 5).pull 3).pull 5).pull 5)⟩ ?_
      rintro kL21 E w ⟨y81_L21h, hLL21, eL21h_6, eL21h_9, eL21h_11, eL21h_13, eL21h_79, eL21h_80, eL21h_81, hS⟩
      obtain ⟨kL21, obL21, rfl, hFL21, hLL21⟩ := lp_s hLL21
      refine x_seq <| x_region <| p (yl_lss eL21h_81 eL21h_80) <| x_done <|
        x_seq <|
        x_cond_p (y81_L21h < (r11_3.1.length : Int)) rfl (fun hc82 => ?_) (fun hc82 => ?_)
      · replace hFL21 := it_t hc82 hFL21
        obtain ⟨hk22_1, hFL21⟩ := ck_s hFL21
        obtain ⟨y22_2, hy22_2, hFL21⟩ := lv_s hFL21
        obtain ⟨el22_2, ek22_2, ee22_2⟩ := h_y0_ret_11_3.get hk22_1
        rw [← hy22_2] at ek22_2
        obtain rfl := ek22_2
        refine x_skip <| x_seq <| x_block <| x_seq <|
          x_region <| p (yl_move eL21h_81) <| p (yix_o sl_40 eL21h_79 eL21h_81 (hS.pull 1) h_y0_ret_11_3 hk22_1) <| pa (v := .agg #[.int .i64 y22_2.Lo, .int .i64 y22_2.Hi]) (at_loadAgg agg_48 rfl rfl (EltV.every ee22_2 (hS.pull 1))) <|
          ?_
        refine o_alloc zero_48 hS (fun b15 w' hS => ?_)
        refine p (yl_assign rfl) <|
          ?_
        refine o_storeAgg (news := [.int .i64 y22_2.Lo, .int .i64 y22_2.Hi]) agg_48 rfl rfl rfl (by simp [over_length]) hS (fun w' hS => ?_)
        obtain ⟨r23_2, hc23_2, hFL21⟩ := bd_s hFL21
        refine x_done <| x_seq <| x_region <| pa (v := .agg #[.int .i64 r4_2.1.Cell, .slice A_y0_ret_1_4_2 r4_2.1.Up.length c_y0_ret_1_4_2, .slice A_y0_ret_2_4_2 r4_2.1.Leaf.length c_y0_ret_2_4_2]) (ld_sub agg_38 eL21h_6 rfl rfl (hS.pull 1)) <|
          p (yl_move rfl) <|
          ?_
        obtain ⟨ρl0, hll0, hlf0, hS0, back0⟩ := St.lend ((hS.pull 6).pull 5) h_y0_ret_1_4_2
        obtain ⟨ρl1, hll1, hlf1, hS1, back1⟩ := St.lend (hS0.pull 5) (h_y0_ret_2_4_2.le hll0)
        have hcall := c_tree_Depth hc23_2 (hlf0.le hll1) hlf1 hS1
        refine o_cc call_23 (args2 rfl rfl) ((Calls.mono hcall (fun e w'' h => And.intro h.1 ((((((((back0 ((back1 h.2).pull 1)).pull 1).pull 2).pull 2).pull 6).pull 6).pull 6).pull 6)))) ?_
        rintro e w' ⟨rfl, hS⟩
        refine ⟨_, rfl, ?_⟩
        obtain ⟨hk24_5, hFL21⟩ := ck_s hFL21
        obtain ⟨x95, hx95, hFL21⟩ := lv_s hFL21
        obtain ⟨x96, hx96, hFL21⟩ := ar_s hFL21
        obtain ⟨hk24_15, hFL21⟩ := ck_s hFL21
        obtain ⟨x105, hx105, hFL21⟩ := lv_s hFL21
        obtain ⟨hk24_20, hFL21⟩ := ck_s hFL21
        obtain ⟨x109, hx109, hFL21⟩ := lv_s hFL21
        obtain ⟨hk24_21, hFL21⟩ := ck_s hFL21
        obtain ⟨x110, hx110, hFL21⟩ := lv_s hFL21
        obtain ⟨hk24_22, hFL21⟩ := ck_s hFL21
        obtain ⟨x111, hx111, hFL21⟩ := lv_s hFL21
        obtain ⟨x113, hx113, hFL21⟩ := lv_s hFL21
        obtain ⟨x120, hx120, hFL21⟩ := lv_s hFL21
        refine p (v := .int .i64 r23_2) (yl_assign rfl) <| x_done <| x_seq <| x_still mixed (by kernel_rfl) hS <|
          q (yl_field0 fld_48_0 rfl) <| qa (fun w' hS => at_load one_3 rfl (hS.cell rfl)) <| q (v := .int .i64 r23_2) (yl_move rfl) <| q (yl_field0 fld_46_6 eL21h_13) <|
          qa (fun w' hS => at_load one_22 rfl ((hS.pull 3).cell rfl)) <| q (yix_f sl_22 rfl rfl f19_4_6 hk24_5) <| qa (fun w' hS => at_load one_3 rfl (RdS.getW f19_4_6 (hS.pull 6) hk24_5 hx95)) <| q (ymul rfl rfl hx96) <|
          q (yl_lss rfl rfl) <| q (yl_move rfl) <| qg (v := .pointer (some ⟨b15, 1, none⟩)) 98 (c := !(decide (y22_2.Lo < x96))) (says_f _) (fun hq w' hS => Yl.at (yl_field0 fld_48_1 rfl)) <| qg (v := .int .i64 y22_2.Hi) 98 (c := !(decide (y22_2.Lo < x96))) (says_f _) (fun hq w' hS => at_load one_3 (cv hq) (hS.cell rfl)) <|
          qg (v := .int .i64 r23_2) 98 (c := !(decide (y22_2.Lo < x96))) (says_f _) (fun hq w' hS => Yl.at (yl_move rfl)) <| qg (v := .pointer (some ⟨b13, 7, none⟩)) 98 (c := !(decide (y22_2.Lo < x96))) (says_f _) (fun hq w' hS => Yl.at (yl_field0 fld_46_7 eL21h_13)) <| qg (v := .slice A19_4_7 y19_4.Max.length c19_4_7) 98 (c := !(decide (y22_2.Lo < x96))) (says_f _) (fun hq w' hS => at_load one_22 (cv hq) ((hS.pull 3).cell rfl)) <| qg (v := .pointer (some ((adr A19_4_7).add ((0 : Int).toNat * (RpI .i64).sz)))) 98 (c := !(decide (y22_2.Lo < x96))) (says_f _) (fun hq w' hS => Yl.at (yix_f sl_22 (cv hq) rfl f19_4_7 (hk24_15 hq))) <|
          qg (v := .int .i64 x105) 98 (c := !(decide (y22_2.Lo < x96))) (says_f _) (fun hq w' hS => at_load one_3 (cv hq) (RdS.getW f19_4_7 (hS.pull 6) (hk24_15 hq) hx105)) <| qg (v := .pointer (some ⟨b13, 8, none⟩)) 98 (c := !(decide (y22_2.Lo < x96))) (says_f _) (fun hq w' hS => Yl.at (yl_field0 fld_46_8 eL21h_13)) <| qg (v := .int .i64 y19_4.Drive) 98 (c := !(decide (y22_2.Lo < x96))) (says_f _) (fun hq w' hS => at_load one_3 (cv hq) ((hS.pull 3).cell rfl)) <| qg (v := .int .i64 load11_L16) 98 (c := !(decide (y22_2.Lo < x96))) (says_f _) (fun hq w' hS => Yl.at (yl_move eL21h_11)) <|
          qg (v := .int .i64 x109) 98 (c := !(decide (y22_2.Lo < x96))) (says_f _) (fun hq w' hS => Yl.at (ymul (cv hq) (cv hq) ⟨hx109, (hk24_20 hq)⟩)) <| qg (v := .int .i64 x110) 98 (c := !(decide (y22_2.Lo < x96))) (says_f _) (fun hq w' hS => Yl.at (yadd (cv hq) (cv hq) ⟨hx110, (hk24_21 hq)⟩)) <| qg (v := .int .i64 x111) 98 (c := !(decide (y22_2.Lo < x96))) (says_f _) (fun hq w' hS => Yl.at (ymul (cv hq) (cv hq) ⟨hx111, (hk24_22 hq)⟩)) <| qg (v := .bool (decide (x111 < y22_2.Hi))) 98 (c := !(decide (y22_2.Lo < x96))) (says_f _) (fun hq w' hS => Yl.at (yl_gtr (cv hq) (cv hq))) <|
          q (yor' rfl rfl (fun hc => (cv (t_not hc))) hx113) <| q (yl_move rfl) <| qg (v := .pointer (some ⟨b15, 0, none⟩)) 114 (c := !x113) (says_f _) (fun hq w' hS => Yl.at (yl_field0 fld_48_0 rfl)) <| qg (v := .int .i64 y22_2.Lo) 114 (c := !x113) (says_f _) (fun hq w' hS => at_load one_3 (cv hq) (hS.cell rfl)) <|
          qg (v := .pointer (some ⟨b15, 1, none⟩)) 114 (c := !x113) (says_f _) (fun hq w' hS => Yl.at (yl_field0 fld_48_1 rfl)) <| qg (v := .int .i64 y22_2.Hi) 114 (c := !x113) (says_f _) (fun hq w' hS => at_load one_3 (cv hq) (hS.cell rfl)) <| qg (v := .bool (decide (y22_2.Hi < y22_2.Lo))) 114 (c := !x113) (says_f _) (fun hq w' hS => Yl.at (yl_gtr (cv hq) (cv hq))) <| q (yor' rfl rfl (fun hc => (cv (t_not hc))) hx120) <|
          q_done fun w' hS => ?_
        refine x_cond (t := x120) rfl (fun hc120 => ?_) (fun hc120 => ?_)
        · replace hFL21 := it_t hc120 hFL21
          refine x_seq <| x_region <| p (yl_assign rfl) <| x_done <|
            ?_
          obtain rfl := Option.some.inj (show some _ = some _ from hFL21)
          obtain rfl := (show _ = oL21 from hLL21)
          obtain rfl := Option.some.inj (show some _ = some _ from hF)
          exact x_return ⟨_, ⟨_, _, rfl, rfl, rfl⟩, rfl, (ro_back0 hle2_1 hS.drop.drop.drop.drop.drop.drop)⟩
        · replace hFL21 := it_bf hc120 hFL21
          obtain ⟨x121, hx121, hFL21⟩ := ar_s hFL21
          refine x_skip <| x_blk <| x_region <| p (yadd eL21h_81 rfl hx121) <|
            p (yl_move rfl) <| x_done <|
            ?_
          obtain rfl := Option.some.inj (show some _ = some _ from hFL21)
          exact x_inv ⟨kL21, Nat.lt_succ_self _, x121, hLL21, eL21h_6, eL21h_9, eL21h_11, eL21h_13, eL21h_79, eL21h_80, rfl, ((((((hS.drop.pull 5).pull 5).pull 5).pull 5).pull 5).pull 5)⟩
      · replace hFL21 := it_f hc82 hFL21
        refine x_exitTo _ rfl <|
          ?_
        obtain rfl := Option.some.inj (show some _ = some _ from hFL21)
        exact x_inv ⟨hLL21, eL21h_9, (((((hS.drop.pull 1).drop.pull 1).drop.pull 1).drop.pull 1).pull 1)⟩
    rintro E w ⟨rfl, eL21_9, hS⟩
    obtain ⟨r27_1, hc27_1, hF⟩ := bd_s hF
    refine x_seq <| x_region <| p (yl_move eL21_9) <|
      ?_
    obtain ⟨ρl0, hll0, hlf0, hS0, back0⟩ := St.lend ((hS.pull 1).pull 1) h_y0_ret_11_3
    have hcall := c_tree_Skew hc27_1 hlf0 hS0
    refine o_cc call_24 (args1 rfl) ((Calls.mono hcall (fun e w'' h => And.intro h.1 (((back0 h.2).pull 1).pull 1)))) ?_
    rintro e w' ⟨rfl, hS⟩
    refine ⟨_, rfl, ?_⟩
    refine p (yl_geq rfl rfl) <| p (yl_assign rfl) <| x_done <|
      ?_
    obtain rfl := Option.some.inj (show some _ = some _ from hF)
    exact x_return ⟨_, ⟨_, _, rfl, rfl, rfl⟩, rfl, (ro_back0 hle2_1 hS.drop)⟩
attribute [irreducible] P_maskkeep4_TreeWithin

def P_slices_IndexFunc_api_Cell_api_Cell_2_L2 (s0 : List T_api_Cell) : Int → Option (Int ⊕ (Unit ⊕ Int)) := fun y8_L2h =>
  if y8_L2h < (s0.length : Int) then
    ck (inb y8_L2h s0.length) <|
    lv (gt s0 y8_L2h) fun y4_4 =>
    bd (P_tree_IsBuffer y4_4) fun r4_5 =>
    if r4_5 = true then
      some (Sum.inr (Sum.inr y8_L2h))
    else
      ar (y8_L2h + 1) fun x18 =>
      some (Sum.inl x18)
  else
    some (Sum.inr (Sum.inl ()))
def P_slices_IndexFunc_api_Cell_api_Cell_2 (s0 : List T_api_Cell) : Option Int :=
  bs (
    lp (P_slices_IndexFunc_api_Cell_api_Cell_2_L2 s0) fuel 0) (fun y => some y) fun _ =>
  some (-1)
set_option maxHeartbeats 4000000 in
set_option maxRecDepth 100000 in
theorem c_slices_IndexFunc_api_Cell_api_Cell_2 {w0 w : World} {l : List Assn} {ρ : Heap} {A_s0 : Option Addr} {n_s0 : Nat} {c_s0 : Nat} {s0 : List T_api_Cell} {r : Int} (hF : P_slices_IndexFunc_api_Cell_api_Cell_2 s0 = some r) (h_s0 : RdS R_api_Cell ρ A_s0 n_s0 c_s0 s0) (hS : St w0 w (ro ρ :: l)) :
    Calls Try.prog 99 #[.slice A_s0 n_s0 c_s0, .func (.func 100) #[] #[]] w fun e w' => e = .returned (.int .i64 r) ∧ St w0 w' (ro ρ :: l) := by
  obtain rfl := h_s0.n
  refine enterC Try.func99 rfl 19 rfl (by simp) ?_
  refine x_seq <| x_region <| p (yl_assign rfl) <| x_done <|
    x_seq <| x_seq <| x_region <| p (yl_move rfl) <|
    p (yl_len_slice usl_35 rfl) <| p (yl_move rfl) <| x_done <|
    ?_
  obtain ⟨oL2, hLL2, hF⟩ := bs_s hF
  refine x_join (fun E w => (Sum.inl (())) = oL2 ∧ St w0 w (ro ρ :: l)) ?_ ?_
  · skip -- L2
    refine x_block ?_
    refine x_loop (fun k_ E w => ∃ (y8_L2h : Int), lp (P_slices_IndexFunc_api_Cell_api_Cell_2_L2 s0) k_ y8_L2h = some oL2 ∧ E 0 = .slice A_s0 s0.length c_s0 ∧ E 1 = .func (.func 100) #[] #[] ∧ E 7 = .int .i64 (s0.length : Int) ∧ E 8 = .int .i64 y8_L2h ∧ St w0 w (ro ρ :: l)) fuel ⟨0, hLL2, rfl, rfl, rfl, rfl, hS⟩ ?_
    rintro kL2 E w ⟨y8_L2h, hLL2, eL2h_0, eL2h_1, eL2h_7, eL2h_8, hS⟩
    obtain ⟨kL2, obL2, rfl, hFL2, hLL2⟩ := lp_s hLL2
    refine x_seq <| x_region <| p (yl_lss eL2h_8 eL2h_7) <| x_done <|
      x_seq <|
      x_cond_p (y8_L2h < (s0.length : Int)) rfl (fun hc9 => ?_) (fun hc9 => ?_)
    · replace hFL2 := it_t hc9 hFL2
      obtain ⟨hk4_3, hFL2⟩ := ck_s hFL2
      obtain ⟨y4_4, hy4_4, hFL2⟩ := lv_s hFL2
      obtain ⟨el4_4, ek4_4, ee4_4⟩ := h_s0.get hk4_3
      rw [← hy4_4] at ek4_4
      obtain ⟨A4_4_5, n4_4_5, c4_4_5, A4_4_6, n4_4_6, c4_4_6, A4_4_7, n4_4_7, c4_4_7, rfl, f4_4_5, f4_4_6, f4_4_7⟩ := ek4_4
      obtain rfl := f4_4_5.n
      obtain rfl := f4_4_6.n
      obtain rfl := f4_4_7.n
      obtain ⟨r4_5, hc4_5, hFL2⟩ := bd_s hFL2
      refine x_skip <| x_seq <| x_block <| x_seq <|
        x_region <| p (yl_move eL2h_8) <| p (yl_assign rfl) <| x_done <|
        x_seq <| x_region <| p (yl_move eL2h_1) <| p (yl_move eL2h_0) <|
        p (yl_move rfl) <| p (yix_f sl_35 rfl rfl h_s0 hk4_3) <| pa (v := .agg #[.string y4_4.Name, .bool y4_4.Flop, .int .i64 y4_4.Ins, .int .u64 y4_4.Table, .int .i64 y4_4.Area, .slice A4_4_5 y4_4.Cap.length c4_4_5, .slice A4_4_6 y4_4.Min.length c4_4_6, .slice A4_4_7 y4_4.Max.length c4_4_7, .int .i64 y4_4.Drive, .int .i64 y4_4.Setup, .int .i64 y4_4.Hold]) (at_loadAgg agg_46 rfl rfl (Elt.every ee4_4 hS)) <|
        ?_
      have hcall := c_tree_IsBuffer hc4_5 f4_4_5 f4_4_6 f4_4_7 hS
      refine o_ccv rfl call_100 (args1 rfl) (hcall) ?_
      rintro e w' ⟨rfl, hS⟩
      refine ⟨_, rfl, ?_⟩
      refine x_done <|
        x_cond (t := r4_5) rfl (fun hc16 => ?_) (fun hc16 => ?_)
      · replace hFL2 := it_t hc16 hFL2
        refine x_seq <| x_region <| p (yl_move rfl) <| p (yl_assign rfl) <|
          x_done <|
          ?_
        obtain rfl := Option.some.inj (show some _ = some _ from hFL2)
        obtain rfl := (show _ = oL2 from hLL2)
        obtain rfl := Option.some.inj (show some _ = some _ from hF)
        exact x_return ⟨_, ⟨_, _, rfl, rfl, rfl⟩, rfl, hS⟩
      · replace hFL2 := it_bf hc16 hFL2
        obtain ⟨x18, hx18, hFL2⟩ := ar_s hFL2
        refine x_skip <| x_blk <| x_region <| p (yadd eL2h_8 rfl hx18) <|
          p (yl_move rfl) <| x_done <|
          ?_
        obtain rfl := Option.some.inj (show some _ = some _ from hFL2)
        exact x_inv ⟨kL2, Nat.lt_succ_self _, x18, hLL2, eL2h_0, eL2h_1, eL2h_7, rfl, hS⟩
    · replace hFL2 := it_f hc9 hFL2
      refine x_exitTo _ rfl <|
        ?_
      obtain rfl := Option.some.inj (show some _ = some _ from hFL2)
      exact x_inv ⟨hLL2, hS⟩
  rintro E w ⟨rfl, hS⟩
  refine x_seq <| x_region <| p (yl_assign rfl) <| x_done <|
    ?_
  obtain rfl := Option.some.inj (show some _ = some _ from hF)
  exact x_return ⟨_, ⟨_, _, rfl, rfl, rfl⟩, rfl, hS⟩
attribute [irreducible] P_slices_IndexFunc_api_Cell_api_Cell_2

def P_tree_inOrder_1 (a0 : Int) (b1 : Int) (v2_0 : List T_floor_Point) : Option Int :=
  ck (inb a0 v2_0.length) <|
  lv (gt v2_0 a0) fun y1_4 =>
  ck ((16 : Int) ≠ 0) <|
  ar (Int.tdiv y1_4.X 16) fun x12 =>
  ck (inb b1 v2_0.length) <|
  lv (gt v2_0 b1) fun y1_10 =>
  ck ((16 : Int) ≠ 0) <|
  ar (Int.tdiv y1_10.X 16) fun x18 =>
  ar (x12 - x18) fun x19 =>
  if x19 ≠ 0 then
    some x19
  else
    ck (inb a0 v2_0.length) <|
    lv (gt v2_0 a0) fun y4_4 =>
    ck (inb b1 v2_0.length) <|
    lv (gt v2_0 b1) fun y4_9 =>
    ar (y4_4.Y - y4_9.Y) fun x33 =>
    some x33
set_option maxHeartbeats 4000000 in
set_option maxRecDepth 100000 in
theorem c_tree_inOrder_1 {w0 w : World} {l : List Assn} {ρ : Heap} {b_v2 : Nat} {A_v2_0 : Option Addr} {n_v2_0 : Nat} {c_v2_0 : Nat} {a0 : Int} {b1 : Int} {v2_0 : List T_floor_Point} {r : Int} (hF : P_tree_inOrder_1 a0 b1 v2_0 = some r) (h_v2_0 : RdS R_floor_Point ρ A_v2_0 n_v2_0 c_v2_0 v2_0) (hS : St w0 w (cells b_v2 87 [.slice A_v2_0 n_v2_0 c_v2_0] :: ro ρ :: l)) :
    Calls Try.prog 138 #[.int .i64 a0, .int .i64 b1, .pointer (some ⟨b_v2, 0, none⟩)] w fun e w' => e = .returned (.int .i64 r) ∧ St w0 w' (cells b_v2 87 [.slice A_v2_0 n_v2_0 c_v2_0] :: ro ρ :: l) := by
  obtain rfl := h_v2_0.n
  refine enterC Try.func138 rfl 34 rfl (by simp) ?_
  obtain ⟨hk1_2, hF⟩ := ck_s hF
  obtain ⟨y1_4, hy1_4, hF⟩ := lv_s hF
  obtain ⟨el1_4, ek1_4, ee1_4⟩ := h_v2_0.get hk1_2
  rw [← hy1_4] at ek1_4
  obtain rfl := ek1_4
  obtain ⟨hk1_5, hF⟩ := ck_s hF
  obtain ⟨x12, hx12, hF⟩ := ar_s hF
  obtain ⟨hk1_8, hF⟩ := ck_s hF
  obtain ⟨y1_10, hy1_10, hF⟩ := lv_s hF
  obtain ⟨el1_10, ek1_10, ee1_10⟩ := h_v2_0.get hk1_8
  rw [← hy1_10] at ek1_10
  obtain rfl := ek1_10
  obtain ⟨hk1_11, hF⟩ := ck_s hF
  obtain ⟨x18, hx18, hF⟩ := ar_s hF
  obtain ⟨x19, hx19, hF⟩ := ar_s hF
  refine x_seq <| x_region <| p (yl_assign rfl) <| x_done <|
    x_seq <| x_seq <| x_still mixed (by kernel_rfl) hS <| qa (fun w' hS => at_load one_87 rfl (hS.cell rfl)) <|
    q (yl_move rfl) <| q (yix_f sl_87 rfl rfl h_v2_0 hk1_2) <| q (yl_fieldAddr fld_89_0 rfl) <| qa (fun w' hS => at_load one_3 rfl (Elt.ld (j := 0) ee1_4 (hS.pull 1) rfl)) <|
    q (yquo rfl rfl hk1_5 hx12) <| qa (fun w' hS => at_load one_87 rfl (hS.cell rfl)) <| q (yl_move rfl) <| q (yix_f sl_87 rfl rfl h_v2_0 hk1_8) <|
    q (yl_fieldAddr fld_89_0 rfl) <| qa (fun w' hS => at_load one_3 rfl (Elt.ld (j := 0) ee1_10 (hS.pull 1) rfl)) <| q (yquo rfl rfl hk1_11 hx18) <| q (ysub rfl rfl hx19) <|
    q (yl_assign rfl) <|
    q_done fun w' hS => ?_
  refine x_seq <| x_region <| p (yl_move rfl) <| p (yl_neq rfl rfl) <|
    x_done <|
    x_cond_p (x19 ≠ 0) rfl (fun hc21 => ?_) (fun hc21 => ?_)
  · replace hF := it_t hc21 hF
    refine x_seq <| x_region <| p (yl_move rfl) <| p (yl_assign rfl) <|
      x_done <|
      ?_
    obtain rfl := Option.some.inj (show some _ = some _ from hF)
    exact x_return ⟨_, ⟨_, _, rfl, rfl, rfl⟩, rfl, ((hS.pull 1).pull 1)⟩
  · replace hF := it_f hc21 hF
    obtain ⟨hk4_2, hF⟩ := ck_s hF
    obtain ⟨y4_4, hy4_4, hF⟩ := lv_s hF
    obtain ⟨el4_4, ek4_4, ee4_4⟩ := h_v2_0.get hk4_2
    rw [← hy4_4] at ek4_4
    obtain rfl := ek4_4
    obtain ⟨hk4_7, hF⟩ := ck_s hF
    obtain ⟨y4_9, hy4_9, hF⟩ := lv_s hF
    obtain ⟨el4_9, ek4_9, ee4_9⟩ := h_v2_0.get hk4_7
    rw [← hy4_9] at ek4_9
    obtain rfl := ek4_9
    obtain ⟨x33, hx33, hF⟩ := ar_s hF
    refine x_skip <| x_seq <| x_still mixed (by kernel_rfl) hS <| qa (fun w' hS => at_load one_87 rfl (hS.cell rfl)) <|
      q (yl_move rfl) <| q (yix_f sl_87 rfl rfl h_v2_0 hk4_2) <| q (yl_fieldAddr fld_89_1 rfl) <| qa (fun w' hS => at_load one_3 rfl (Elt.ld (j := 1) ee4_4 (hS.pull 1) rfl)) <|
      qa (fun w' hS => at_load one_87 rfl (hS.cell rfl)) <| q (yl_move rfl) <| q (yix_f sl_87 rfl rfl h_v2_0 hk4_7) <| q (yl_fieldAddr fld_89_1 rfl) <|
      qa (fun w' hS => at_load one_3 rfl (Elt.ld (j := 1) ee4_9 (hS.pull 1) rfl)) <| q (ysub rfl rfl hx33) <| q (yl_assign rfl) <|
      q_done fun w' hS => ?_
    obtain rfl := Option.some.inj (show some _ = some _ from hF)
    exact x_return ⟨_, ⟨_, _, rfl, rfl, rfl⟩, rfl, ((hS.pull 1).pull 1)⟩
attribute [irreducible] P_tree_inOrder_1

def P_slices_insertionSortCmpFunc_int_2_L4 (a1 : Int) (cmp3_0_0 : List T_floor_Point) : (List Int × Int) → Option ((List Int × Int) ⊕ List Int) := fun (data0_L4h, j9_L4h) =>
  ck ((decide (a1 < j9_L4h)) = true → inb j9_L4h data0_L4h.length) <|
  lv (gt data0_L4h j9_L4h) fun x26 =>
  ck ((decide (a1 < j9_L4h)) = true → I64 (j9_L4h - 1)) <|
  lv (j9_L4h - 1) fun x29 =>
  ck ((decide (a1 < j9_L4h)) = true → inb x29 data0_L4h.length) <|
  lv (gt data0_L4h x29) fun x31 =>
  bd (gd (decide (a1 < j9_L4h)) (P_tree_inOrder_1 x26 x31 cmp3_0_0)) fun r4_14 =>
  lv ((decide (a1 < j9_L4h)) && (decide (r4_14 < 0))) fun x34 =>
  if x34 = true then
    ar (j9_L4h - 1) fun x41 =>
    ar (j9_L4h - 1) fun x44 =>
    ck (inb x44 data0_L4h.length) <|
    lv (gt data0_L4h x44) fun x46 =>
    ck (inb j9_L4h data0_L4h.length) <|
    lv (gt data0_L4h j9_L4h) fun x50 =>
    ck (inb j9_L4h data0_L4h.length) <|
    lv (stt data0_L4h j9_L4h x46) fun z6_15 =>
    ck (inb x41 z6_15.length) <|
    lv (stt z6_15 x41 x50) fun z6_17 =>
    ar (j9_L4h - 1) fun x36 =>
    some (Sum.inl (z6_17, x36))
  else
    some (Sum.inr data0_L4h)
def P_slices_insertionSortCmpFunc_int_2_L1 (a1 : Int) (b2 : Int) (cmp3_0_0 : List T_floor_Point) : (List Int × Int) → Option ((List Int × Int) ⊕ List Int) := fun (data0_L1h, i8_L1h) =>
  if i8_L1h < b2 then
    bd (
      lp (P_slices_insertionSortCmpFunc_int_2_L4 a1 cmp3_0_0) fuel (data0_L1h, i8_L1h)) fun data0_L4 =>
    ar (i8_L1h + 1) fun x16 =>
    some (Sum.inl (data0_L4, x16))
  else
    some (Sum.inr data0_L1h)
def P_slices_insertionSortCmpFunc_int_2 (data0 : List Int) (a1 : Int) (b2 : Int) (cmp3_0_0 : List T_floor_Point) : Option (List Int) :=
  ar (a1 + 1) fun x11 =>
  bd (
    lp (P_slices_insertionSortCmpFunc_int_2_L1 a1 b2 cmp3_0_0) fuel (data0, x11)) fun zA_data0_L1 =>
  some zA_data0_L1
set_option maxHeartbeats 4000000 in
set_option maxRecDepth 100000 in
theorem c_slices_insertionSortCmpFunc_int_2 {w0 w : World} {l : List Assn} {ρ : Heap} {A_data0 : Option Addr} {n_data0 : Nat} {c_data0 : Nat} {cs_data0 : List Value} {b_cmp3_0 : Nat} {A_cmp3_0_0 : Option Addr} {n_cmp3_0_0 : Nat} {c_cmp3_0_0 : Nat} {data0 : List Int} {a1 : Int} {b2 : Int} {cmp3_0_0 : List T_floor_Point} {r : List Int} (hF : P_slices_insertionSortCmpFunc_int_2 data0 a1 b2 cmp3_0_0 = some r) (h_data0 : RepL (RpI .i64) ρ data0 cs_data0) (h_cmp3_0_0 : RdS R_floor_Point ρ A_cmp3_0_0 n_cmp3_0_0 c_cmp3_0_0 cmp3_0_0) (hS : St w0 w (vec 3 (RpI .i64).sz (.slice A_data0 n_data0 c_data0) n_data0 cs_data0 :: cells b_cmp3_0 87 [.slice A_cmp3_0_0 n_cmp3_0_0 c_cmp3_0_0] :: ro ρ :: l)) :
    Calls Try.prog 171 #[.slice A_data0 n_data0 c_data0, .int .i64 a1, .int .i64 b2, .func (.func 138) #[] #[.pointer (some ⟨b_cmp3_0, 0, none⟩)]] w fun e w' => ∃ (cs_zA_data0_ret : List Value), e = .returned (.tuple #[]) ∧ RepL (RpI .i64) ρ r cs_zA_data0_ret ∧ St w0 w' (cells b_cmp3_0 87 [.slice A_cmp3_0_0 n_cmp3_0_0 c_cmp3_0_0] :: vec 3 (RpI .i64).sz (.slice A_data0 n_data0 c_data0) n_data0 cs_zA_data0_ret :: ro ρ :: l) := by
  obtain rfl := St.vec_n hS h_data0
  obtain rfl := h_cmp3_0_0.n
  refine enterC Try.func171 rfl 53 rfl (by simp) ?_
  obtain ⟨x11, hx11, hF⟩ := ar_s hF
  refine x_seq <| x_region <| p (yl_move rfl) <| p (yadd rfl rfl hx11) <|
    p (yl_assign rfl) <| x_done <|
    ?_
  obtain ⟨oL1, hLL1, hF⟩ := bd_s hF
  refine x_join (fun E w => ∃ (cs_zA_data0_L1 : List Value) (zA_data0_L1 : List Int), zA_data0_L1 = oL1 ∧ RepL (RpI .i64) ρ zA_data0_L1 cs_zA_data0_L1 ∧ St w0 w (cells b_cmp3_0 87 [.slice A_cmp3_0_0 cmp3_0_0.length c_cmp3_0_0] :: vec 3 (RpI .i64).sz (.slice A_data0 data0.length c_data0) data0.length cs_zA_data0_L1 :: ro ρ :: l)) ?_ ?_
  · skip -- L1
    refine x_block ?_
    refine x_loop (fun k_ E w => ∃ (cs_data0_L1h : List Value) (data0_L1h : List Int) (i8_L1h : Int), lp (P_slices_insertionSortCmpFunc_int_2_L1 a1 b2 cmp3_0_0) k_ (data0_L1h, i8_L1h) = some oL1 ∧ E 0 = .slice A_data0 data0.length c_data0 ∧ E 1 = .int .i64 a1 ∧ E 2 = .int .i64 b2 ∧ E 3 = .func (.func 138) #[] #[.pointer (some ⟨b_cmp3_0, 0, none⟩)] ∧ E 8 = .int .i64 i8_L1h ∧ RepL (RpI .i64) ρ data0_L1h cs_data0_L1h ∧ St w0 w (vec 3 (RpI .i64).sz (.slice A_data0 data0.length c_data0) data0.length cs_data0_L1h :: cells b_cmp3_0 87 [.slice A_cmp3_0_0 cmp3_0_0.length c_cmp3_0_0] :: ro ρ :: l)) fuel ⟨cs_data0, data0, x11, hLL1, rfl, rfl, rfl, rfl, rfl, h_data0, (((hS.pull 2).pull 2).pull 2)⟩ ?_
    rintro kL1 E w ⟨cs_data0_L1h, data0_L1h, i8_L1h, hLL1, eL1h_0, eL1h_1, eL1h_2, eL1h_3, eL1h_8, h_data0_L1h, hS⟩
    obtain ⟨kL1, obL1, rfl, hFL1, hLL1⟩ := lp_s hLL1
    refine x_seq <| x_seq <| x_region <| p (yl_move eL1h_8) <|
      p (yl_move eL1h_2) <| p (yl_lss rfl rfl) <| x_done <|
      x_cond_p (i8_L1h < b2) rfl (fun hc14 => ?_) (fun hc14 => ?_)
    · replace hFL1 := it_t hc14 hFL1
      refine x_skip <| x_seq <| x_block <| x_seq <|
        x_region <| p (yl_move eL1h_8) <| p (yl_assign rfl) <| x_done <|
        ?_
      obtain ⟨oL4, hLL4, hFL1⟩ := bd_s hFL1
      refine x_join (fun E w => ∃ (cs_data0_L4 : List Value) (data0_L4 : List Int), data0_L4 = oL4 ∧ E 0 = .slice A_data0 data0.length c_data0 ∧ E 1 = .int .i64 a1 ∧ E 2 = .int .i64 b2 ∧ E 3 = .func (.func 138) #[] #[.pointer (some ⟨b_cmp3_0, 0, none⟩)] ∧ E 8 = .int .i64 i8_L1h ∧ RepL (RpI .i64) ρ data0_L4 cs_data0_L4 ∧ St w0 w (vec 3 (RpI .i64).sz (.slice A_data0 data0.length c_data0) data0.length cs_data0_L4 :: cells b_cmp3_0 87 [.slice A_cmp3_0_0 cmp3_0_0.length c_cmp3_0_0] :: ro ρ :: l)) ?_ ?_
      · skip -- L4
        refine x_block ?_
        refine x_loop (fun k_ E w => ∃ (cs_data0_L4h : List Value) (data0_L4h : List Int) (j9_L4h : Int), lp (P_slices_insertionSortCmpFunc_int_2_L4 a1 cmp3_0_0) k_ (data0_L4h, j9_L4h) = some oL4 ∧ E 0 = .slice A_data0 data0.length c_data0 ∧ E 1 = .int .i64 a1 ∧ E 2 = .int .i64 b2 ∧ E 3 = .func (.func 138) #[] #[.pointer (some ⟨b_cmp3_0, 0, none⟩)] ∧ E 8 = .int .i64 i8_L1h ∧ E 9 = .int .i64 j9_L4h ∧ RepL (RpI .i64) ρ data0_L4h cs_data0_L4h ∧ St w0 w (vec 3 (RpI .i64).sz (.slice A_data0 data0.length c_data0) data0.length cs_data0_L4h :: cells b_cmp3_0 87 [.slice A_cmp3_0_0 cmp3_0_0.length c_cmp3_0_0] :: ro ρ :: l)) fuel ⟨cs_data0_L1h, data0_L1h, i8_L1h, hLL4, eL1h_0, eL1h_1, eL1h_2, eL1h_3, eL1h_8, rfl, h_data0_L1h, (((hS.pull 2).pull 2).pull 2)⟩ ?_
        rintro kL4 E w ⟨cs_data0_L4h, data0_L4h, j9_L4h, hLL4, eL4h_0, eL4h_1, eL4h_2, eL4h_3, eL4h_8, eL4h_9, h_data0_L4h, hS⟩
        obtain ⟨kL4, obL4, rfl, hFL4, hLL4⟩ := lp_s hLL4
        obtain ⟨hk4_7, hFL4⟩ := ck_s hFL4
        obtain ⟨x26, hx26, hFL4⟩ := lv_s hFL4
        obtain ⟨hk4_11, hFL4⟩ := ck_s hFL4
        obtain ⟨x29, hx29, hFL4⟩ := lv_s hFL4
        obtain ⟨hk4_12, hFL4⟩ := ck_s hFL4
        obtain ⟨x31, hx31, hFL4⟩ := lv_s hFL4
        refine x_seq <| x_seq <| x_head 14 mixed (by kernel_rfl) hS _ _ rfl rfl <| q (yl_move eL4h_9) <|
          q (yl_move eL4h_1) <| q (yl_gtr rfl rfl) <| q (yl_move rfl) <| qg (v := .func (.func 138) #[] #[.pointer (some ⟨b_cmp3_0, 0, none⟩)]) 21 (c := decide (a1 < j9_L4h)) (says_t _) (fun hq w' hS => Yl.at (yl_move eL4h_3)) <|
          qg (v := .slice A_data0 data0.length c_data0) 21 (c := decide (a1 < j9_L4h)) (says_t _) (fun hq w' hS => Yl.at (yl_move eL4h_0)) <| qg (v := .int .i64 j9_L4h) 21 (c := decide (a1 < j9_L4h)) (says_t _) (fun hq w' hS => Yl.at (yl_move eL4h_9)) <| qg (v := .pointer (some ((adr A_data0).add (j9_L4h.toNat * (RpI .i64).sz)))) 21 (c := decide (a1 < j9_L4h)) (says_t _) (fun hq w' hS => Yl.at (yix_o sl_22 (cv hq) (cv hq) hS h_data0_L4h (hk4_7 hq))) <| qg (v := .int .i64 x26) 21 (c := decide (a1 < j9_L4h)) (says_t _) (fun hq w' hS => at_load one_3 (cv hq) (RepL.getW h_data0_L4h hS (hk4_7 hq) hx26)) <|
          qg (v := .slice A_data0 data0.length c_data0) 21 (c := decide (a1 < j9_L4h)) (says_t _) (fun hq w' hS => Yl.at (yl_move eL4h_0)) <| qg (v := .int .i64 j9_L4h) 21 (c := decide (a1 < j9_L4h)) (says_t _) (fun hq w' hS => Yl.at (yl_move eL4h_9)) <| qg (v := .int .i64 x29) 21 (c := decide (a1 < j9_L4h)) (says_t _) (fun hq w' hS => Yl.at (ysub (cv hq) rfl ⟨hx29, (hk4_11 hq)⟩)) <| qg (v := .pointer (some ((adr A_data0).add (x29.toNat * (RpI .i64).sz)))) 21 (c := decide (a1 < j9_L4h)) (says_t _) (fun hq w' hS => Yl.at (yix_o sl_22 (cv hq) (cv hq) hS h_data0_L4h (hk4_12 hq))) <|
          qg (v := .int .i64 x31) 21 (c := decide (a1 < j9_L4h)) (says_t _) (fun hq w' hS => at_load one_3 (cv hq) (RepL.getW h_data0_L4h hS (hk4_12 hq) hx31)) <|
          q_done fun w' hS => ?_
        obtain ⟨r4_14, hc4_14, hFL4⟩ := bd_s hFL4
        refine pccvg (v := .int .i64 r4_14) 21 (c := decide (a1 < j9_L4h)) (says_t _) (fun hq => (cv hq)) call_138 (fun hq => (capargs (args2 (cv hq) (cv hq)))) hS (fun hq => by
            have hcall := c_tree_inOrder_1 (gd_t hc4_14 hq) h_cmp3_0_0 ((hS.pull 2).pull 2)
            exact (Calls.mono hcall (fun e w'' h => And.intro h.1 (((h.2.pull 1).pull 1).pull 2)))) (fun w' hS => ?_)
        obtain ⟨x34, hx34, hFL4⟩ := lv_s hFL4
        refine pg (v := .bool (decide (r4_14 < 0))) 21 (c := decide (a1 < j9_L4h)) (says_t _) (fun hq => Yl.at (yl_lss (cv hq) rfl)) <| p (yand' rfl (fun hc => (cv hc)) rfl hx34) <| x_done <|
          x_cond (t := x34) rfl (fun hc34 => ?_) (fun hc34 => ?_)
        · replace hFL4 := it_t hc34 hFL4
          refine x_skip <| x_seq <| x_block <|
            ?_
          obtain ⟨x41, hx41, hFL4⟩ := ar_s hFL4
          obtain ⟨x44, hx44, hFL4⟩ := ar_s hFL4
          obtain ⟨hk6_8, hFL4⟩ := ck_s hFL4
          obtain ⟨x46, hx46, hFL4⟩ := lv_s hFL4
          obtain ⟨hk6_12, hFL4⟩ := ck_s hFL4
          obtain ⟨x50, hx50, hFL4⟩ := lv_s hFL4
          obtain ⟨hk6_14, hFL4⟩ := ck_s hFL4
          obtain ⟨z6_15, hz6_15, hFL4⟩ := lv_s hFL4
          obtain ⟨hk6_16, hFL4⟩ := ck_s hFL4
          obtain ⟨z6_17, hz6_17, hFL4⟩ := lv_s hFL4
          refine x_par (w0 := w0) [⟨[], [], [37], [], [], []⟩, ⟨[], [], [38], [], [], []⟩, ⟨[], [], [39], [], [], []⟩, ⟨[], [], [40], [], [], []⟩, ⟨[3], [3], [41], [], [], []⟩, ⟨[], [], [42], [], [], []⟩, ⟨[], [], [43], [], [], []⟩, ⟨[6], [6], [44], [], [], []⟩, ⟨[5, 6, 7], [5, 7], [45], [0], [], []⟩, ⟨[5, 6, 7, 8], [8], [46], [0], [], []⟩, ⟨[], [], [47], [], [], []⟩, ⟨[], [], [48], [], [], []⟩, ⟨[10, 11], [10, 11], [49], [0], [], []⟩, ⟨[10, 11, 12], [12], [50], [0], [], []⟩, ⟨[0, 1, 5, 6, 7, 8, 9, 10, 11, 12, 13], [0, 1], [51], [0], [], []⟩, ⟨[0, 1, 5, 6, 7, 8, 9, 10, 11, 12, 13, 14], [9, 14], [], [], [0], [1]⟩, ⟨[0, 1, 2, 3, 4, 5, 6, 7, 8, 9, 10, 11, 12, 13, 14, 15], [2, 4], [52], [2, 1], [], []⟩, ⟨[0, 1, 2, 3, 4, 5, 6, 7, 8, 9, 10, 11, 12, 13, 14, 15, 16], [13, 16], [], [2], [1], [3]⟩] [⟨none, (some 15), []⟩, ⟨(some 15), (some 17), []⟩, ⟨none, none, []⟩, ⟨(some 17), none, []⟩] [37, 38, 39, 40, 41, 42, 43, 44, 45, 46, 47, 48, 49, 50, 51, 52] [0, 2] [2, 3] [0, 1, 2, 3, 4, 5, 6, 7, 8, 9, 10, 11, 12, 13, 14, 16] [fun Ep6 => Ep6 37 = .slice A_data0 data0.length c_data0, fun Ep6 => Ep6 38 = .int .i64 j9_L4h, fun Ep6 => Ep6 39 = .slice A_data0 data0.length c_data0, fun Ep6 => Ep6 40 = .int .i64 j9_L4h, fun Ep6 => Ep6 41 = .int .i64 x41, fun Ep6 => Ep6 42 = .slice A_data0 data0.length c_data0, fun Ep6 => Ep6 43 = .int .i64 j9_L4h, fun Ep6 => Ep6 44 = .int .i64 x44, fun Ep6 => Ep6 45 = .pointer (some ((adr A_data0).add (x44.toNat * (RpI .i64).sz))), fun Ep6 => Ep6 46 = .int .i64 x46, fun Ep6 => Ep6 47 = .slice A_data0 data0.length c_data0, fun Ep6 => Ep6 48 = .int .i64 j9_L4h, fun Ep6 => Ep6 49 = .pointer (some ((adr A_data0).add (j9_L4h.toNat * (RpI .i64).sz))), fun Ep6 => Ep6 50 = .int .i64 x50, fun Ep6 => Ep6 51 = .pointer (some ((adr A_data0).add (j9_L4h.toNat * (RpI .i64).sz))), fun Ep6 => True, fun Ep6 => Ep6 52 = .pointer (some ((adr A_data0).add (x41.toNat * (RpI .i64).sz))), fun Ep6 => True] [fun Ep6 => vec 3 (RpI .i64).sz (.slice A_data0 data0.length c_data0) data0.length cs_data0_L4h, fun Ep6 => bunA (fun (cs6_15 : List Value) => RepL (RpI .i64) ρ z6_15 cs6_15) (fun (cs6_15 : List Value) => [vec 3 (RpI .i64).sz (.slice A_data0 data0.length c_data0) data0.length cs6_15]), fun Ep6 => ro ρ, fun Ep6 => bunA (fun (cs6_17 : List Value) => RepL (RpI .i64) ρ z6_17 cs6_17) (fun (cs6_17 : List Value) => [vec 3 (RpI .i64).sz (.slice A_data0 data0.length c_data0) data0.length cs6_17])] mixed (by kernel_rfl) ((hS.pull 2).pull 1) ?_ ?_
          · refine ⟨?_, ?_, ?_, ?_, ?_, ?_, ?_, ?_, ?_, ?_, ?_, ?_, ?_, ?_, ?_, ?_, ?_, ?_, trivial⟩
            · intro Ep6 w l' hE6 hO6 hF_ hS
              refine p (yl_move ((hE6 0 rfl).trans eL4h_0)) <| x_done <|
                ?_
              refine x_fin ⟨⟨_, rfl⟩, rfl, ?_⟩
              exact Eq.mp (by kernel_rfl) hS
            · intro Ep6 w l' hE6 hO6 hF_ hS
              refine p (yl_move ((hE6 9 rfl).trans eL4h_9)) <| x_done <|
                ?_
              refine x_fin ⟨⟨_, rfl⟩, rfl, ?_⟩
              exact Eq.mp (by kernel_rfl) hS
            · intro Ep6 w l' hE6 hO6 hF_ hS
              refine p (yl_move ((hE6 0 rfl).trans eL4h_0)) <| x_done <|
                ?_
              refine x_fin ⟨⟨_, rfl⟩, rfl, ?_⟩
              exact Eq.mp (by kernel_rfl) hS
            · intro Ep6 w l' hE6 hO6 hF_ hS
              refine p (yl_move ((hE6 9 rfl).trans eL4h_9)) <| x_done <|
                ?_
              refine x_fin ⟨⟨_, rfl⟩, rfl, ?_⟩
              exact Eq.mp (by kernel_rfl) hS
            · intro Ep6 w l' hE6 hO6 hF_ hS
              obtain ⟨f6_3, -⟩ := hF_
              replace f6_3 : Ep6 40 = .int .i64 j9_L4h := Eq.mp (by kernel_rfl) f6_3
              refine p (ysub f6_3 rfl hx41) <| x_done <|
                ?_
              refine x_fin ⟨⟨_, rfl⟩, rfl, ?_⟩
              exact Eq.mp (by kernel_rfl) hS
            · intro Ep6 w l' hE6 hO6 hF_ hS
              refine p (yl_move ((hE6 0 rfl).trans eL4h_0)) <| x_done <|
                ?_
              refine x_fin ⟨⟨_, rfl⟩, rfl, ?_⟩
              exact Eq.mp (by kernel_rfl) hS
            · intro Ep6 w l' hE6 hO6 hF_ hS
              refine p (yl_move ((hE6 9 rfl).trans eL4h_9)) <| x_done <|
                ?_
              refine x_fin ⟨⟨_, rfl⟩, rfl, ?_⟩
              exact Eq.mp (by kernel_rfl) hS
            · intro Ep6 w l' hE6 hO6 hF_ hS
              obtain ⟨f6_6, -⟩ := hF_
              replace f6_6 : Ep6 43 = .int .i64 j9_L4h := Eq.mp (by kernel_rfl) f6_6
              refine p (ysub f6_6 rfl hx44) <| x_done <|
                ?_
              refine x_fin ⟨⟨_, rfl⟩, rfl, ?_⟩
              exact Eq.mp (by kernel_rfl) hS
            · intro Ep6 w l' hE6 hO6 hF_ hS
              obtain ⟨f6_5, f6_7, -⟩ := hF_
              replace f6_5 : Ep6 42 = .slice A_data0 data0.length c_data0 := Eq.mp (by kernel_rfl) f6_5
              replace f6_7 : Ep6 44 = .int .i64 x44 := Eq.mp (by kernel_rfl) f6_7
              replace hS : St w0 w (vec 3 (RpI .i64).sz (.slice A_data0 data0.length c_data0) data0.length cs_data0_L4h :: l') := Eq.mp (by kernel_rfl) hS
              refine p (yix_o sl_22 f6_5 f6_7 hS h_data0_L4h hk6_8) <| x_done <|
                ?_
              refine x_fin ⟨⟨_, rfl⟩, rfl, ?_⟩
              exact Eq.mp (by kernel_rfl) hS
            · intro Ep6 w l' hE6 hO6 hF_ hS
              obtain ⟨f6_8, -⟩ := hF_
              replace f6_8 : Ep6 45 = .pointer (some ((adr A_data0).add (x44.toNat * (RpI .i64).sz))) := Eq.mp (by kernel_rfl) f6_8
              replace hS : St w0 w (vec 3 (RpI .i64).sz (.slice A_data0 data0.length c_data0) data0.length cs_data0_L4h :: l') := Eq.mp (by kernel_rfl) hS
              refine pa (at_load one_3 f6_8 (RepL.getW h_data0_L4h hS hk6_8 hx46)) <| x_done <|
                ?_
              refine x_fin ⟨⟨_, rfl⟩, rfl, ?_⟩
              exact Eq.mp (by kernel_rfl) hS
            · intro Ep6 w l' hE6 hO6 hF_ hS
              refine p (yl_move ((hE6 0 rfl).trans eL4h_0)) <| x_done <|
                ?_
              refine x_fin ⟨⟨_, rfl⟩, rfl, ?_⟩
              exact Eq.mp (by kernel_rfl) hS
            · intro Ep6 w l' hE6 hO6 hF_ hS
              refine p (yl_move ((hE6 9 rfl).trans eL4h_9)) <| x_done <|
                ?_
              refine x_fin ⟨⟨_, rfl⟩, rfl, ?_⟩
              exact Eq.mp (by kernel_rfl) hS
            · intro Ep6 w l' hE6 hO6 hF_ hS
              obtain ⟨f6_10, f6_11, -⟩ := hF_
              replace f6_10 : Ep6 47 = .slice A_data0 data0.length c_data0 := Eq.mp (by kernel_rfl) f6_10
              replace f6_11 : Ep6 48 = .int .i64 j9_L4h := Eq.mp (by kernel_rfl) f6_11
              replace hS : St w0 w (vec 3 (RpI .i64).sz (.slice A_data0 data0.length c_data0) data0.length cs_data0_L4h :: l') := Eq.mp (by kernel_rfl) hS
              refine p (yix_o sl_22 f6_10 f6_11 hS h_data0_L4h hk6_12) <| x_done <|
                ?_
              refine x_fin ⟨⟨_, rfl⟩, rfl, ?_⟩
              exact Eq.mp (by kernel_rfl) hS
            · intro Ep6 w l' hE6 hO6 hF_ hS
              obtain ⟨f6_12, -⟩ := hF_
              replace f6_12 : Ep6 49 = .pointer (some ((adr A_data0).add (j9_L4h.toNat * (RpI .i64).sz))) := Eq.mp (by kernel_rfl) f6_12
              replace hS : St w0 w (vec 3 (RpI .i64).sz (.slice A_data0 data0.length c_data0) data0.length cs_data0_L4h :: l') := Eq.mp (by kernel_rfl) hS
              refine pa (at_load one_3 f6_12 (RepL.getW h_data0_L4h hS hk6_12 hx50)) <| x_done <|
                ?_
              refine x_fin ⟨⟨_, rfl⟩, rfl, ?_⟩
              exact Eq.mp (by kernel_rfl) hS
            · intro Ep6 w l' hE6 hO6 hF_ hS
              obtain ⟨f6_0, f6_1, -⟩ := hF_
              replace f6_0 : Ep6 37 = .slice A_data0 data0.length c_data0 := Eq.mp (by kernel_rfl) f6_0
              replace f6_1 : Ep6 38 = .int .i64 j9_L4h := Eq.mp (by kernel_rfl) f6_1
              replace hS : St w0 w (vec 3 (RpI .i64).sz (.slice A_data0 data0.length c_data0) data0.length cs_data0_L4h :: l') := Eq.mp (by kernel_rfl) hS
              refine p (yix_o sl_22 f6_0 f6_1 hS h_data0_L4h hk6_14) <| x_done <|
                ?_
              refine x_fin ⟨⟨_, rfl⟩, rfl, ?_⟩
              exact Eq.mp (by kernel_rfl) hS
            · intro Ep6 w l' hE6 hO6 hF_ hS
              obtain ⟨f6_9, f6_14, -⟩ := hF_
              replace f6_9 : Ep6 46 = .int .i64 x46 := Eq.mp (by kernel_rfl) f6_9
              replace f6_14 : Ep6 51 = .pointer (some ((adr A_data0).add (j9_L4h.toNat * (RpI .i64).sz))) := Eq.mp (by kernel_rfl) f6_14
              replace hS : St w0 w (vec 3 (RpI .i64).sz (.slice A_data0 data0.length c_data0) data0.length cs_data0_L4h :: l') := Eq.mp (by kernel_rfl) hS
              refine o_put' (news := [.int .i64 x46]) sz_3 f6_14 f6_9 rfl rfl (o := 0) rfl hk6_14 rfl hS h_data0_L4h (Le.refl _) (fun c hc => ok_all hc (show (RpI .i64).ok ρ [.int .i64 x46] x46 from rfl)) hz6_15 (fun cs6_15 w' hr6_15 hS => ?_)
              refine x_done <|
                ?_
              refine x_fin ⟨⟨undef, rfl⟩, trivial, ?_⟩
              replace hS := St.bun (Φ := (fun (cs6_15 : List Value) => RepL (RpI .i64) ρ z6_15 cs6_15)) (L := (fun (cs6_15 : List Value) => [vec 3 (RpI .i64).sz (.slice A_data0 data0.length c_data0) data0.length cs6_15])) cs6_15 hr6_15 hS
              exact Eq.mp (by kernel_rfl) hS
            · intro Ep6 w l' hE6 hO6 hF_ hS
              obtain ⟨f6_2, f6_4, -⟩ := hF_
              replace f6_2 : Ep6 39 = .slice A_data0 data0.length c_data0 := Eq.mp (by kernel_rfl) f6_2
              replace f6_4 : Ep6 41 = .int .i64 x41 := Eq.mp (by kernel_rfl) f6_4
              replace hS : St w0 w (ro ρ :: bunA (fun (cs6_15 : List Value) => RepL (RpI .i64) ρ z6_15 cs6_15) (fun (cs6_15 : List Value) => [vec 3 (RpI .i64).sz (.slice A_data0 data0.length c_data0) data0.length cs6_15]) :: l') := Eq.mp (by kernel_rfl) hS
              obtain ⟨cs6_15, hr6_15, hS⟩ := St.unbun (hS.pull 1)
              refine p (yix_o sl_22 f6_2 f6_4 hS hr6_15 hk6_16) <| x_done <|
                ?_
              refine x_fin ⟨⟨_, rfl⟩, rfl, ?_⟩
              replace hS := St.bun (Φ := (fun (cs6_15 : List Value) => RepL (RpI .i64) ρ z6_15 cs6_15)) (L := (fun (cs6_15 : List Value) => [vec 3 (RpI .i64).sz (.slice A_data0 data0.length c_data0) data0.length cs6_15])) cs6_15 hr6_15 hS
              exact Eq.mp (by kernel_rfl) (hS.pull 1)
            · intro Ep6 w l' hE6 hO6 hF_ hS
              obtain ⟨f6_13, f6_16, -⟩ := hF_
              replace f6_13 : Ep6 50 = .int .i64 x50 := Eq.mp (by kernel_rfl) f6_13
              replace f6_16 : Ep6 52 = .pointer (some ((adr A_data0).add (x41.toNat * (RpI .i64).sz))) := Eq.mp (by kernel_rfl) f6_16
              replace hS : St w0 w (ro ρ :: bunA (fun (cs6_15 : List Value) => RepL (RpI .i64) ρ z6_15 cs6_15) (fun (cs6_15 : List Value) => [vec 3 (RpI .i64).sz (.slice A_data0 data0.length c_data0) data0.length cs6_15]) :: l') := Eq.mp (by kernel_rfl) hS
              obtain ⟨cs6_15, hr6_15, hS⟩ := St.unbun (hS.pull 1)
              refine o_put' (news := [.int .i64 x50]) sz_3 f6_16 f6_13 rfl rfl (o := 0) rfl hk6_16 rfl hS hr6_15 (Le.refl _) (fun c hc => ok_all hc (show (RpI .i64).ok ρ [.int .i64 x50] x50 from rfl)) hz6_17 (fun cs6_17 w' hr6_17 hS => ?_)
              refine x_done <|
                ?_
              refine x_fin ⟨⟨undef, rfl⟩, trivial, ?_⟩
              replace hS := St.bun (Φ := (fun (cs6_17 : List Value) => RepL (RpI .i64) ρ z6_17 cs6_17)) (L := (fun (cs6_17 : List Value) => [vec 3 (RpI .i64).sz (.slice A_data0 data0.length c_data0) data0.length cs6_17])) cs6_17 hr6_17 hS
              exact Eq.mp (by kernel_rfl) (hS.pull 1)
          intro Ep6 w' hE6 hF_ hS
          obtain ⟨f6_0, f6_1, f6_2, f6_3, f6_4, f6_5, f6_6, f6_7, f6_8, f6_9, f6_10, f6_11, f6_12, f6_13, f6_14, f6_16, -⟩ := hF_
          replace f6_0 : Ep6 37 = .slice A_data0 data0.length c_data0 := Eq.mp (by kernel_rfl) f6_0
          replace f6_1 : Ep6 38 = .int .i64 j9_L4h := Eq.mp (by kernel_rfl) f6_1
          replace f6_2 : Ep6 39 = .slice A_data0 data0.length c_data0 := Eq.mp (by kernel_rfl) f6_2
          replace f6_3 : Ep6 40 = .int .i64 j9_L4h := Eq.mp (by kernel_rfl) f6_3
          replace f6_4 : Ep6 41 = .int .i64 x41 := Eq.mp (by kernel_rfl) f6_4
          replace f6_5 : Ep6 42 = .slice A_data0 data0.length c_data0 := Eq.mp (by kernel_rfl) f6_5
          replace f6_6 : Ep6 43 = .int .i64 j9_L4h := Eq.mp (by kernel_rfl) f6_6
          replace f6_7 : Ep6 44 = .int .i64 x44 := Eq.mp (by kernel_rfl) f6_7
          replace f6_8 : Ep6 45 = .pointer (some ((adr A_data0).add (x44.toNat * (RpI .i64).sz))) := Eq.mp (by kernel_rfl) f6_8
          replace f6_9 : Ep6 46 = .int .i64 x46 := Eq.mp (by kernel_rfl) f6_9
          replace f6_10 : Ep6 47 = .slice A_data0 data0.length c_data0 := Eq.mp (by kernel_rfl) f6_10
          replace f6_11 : Ep6 48 = .int .i64 j9_L4h := Eq.mp (by kernel_rfl) f6_11
          replace f6_12 : Ep6 49 = .pointer (some ((adr A_data0).add (j9_L4h.toNat * (RpI .i64).sz))) := Eq.mp (by kernel_rfl) f6_12
          replace f6_13 : Ep6 50 = .int .i64 x50 := Eq.mp (by kernel_rfl) f6_13
          replace f6_14 : Ep6 51 = .pointer (some ((adr A_data0).add (j9_L4h.toNat * (RpI .i64).sz))) := Eq.mp (by kernel_rfl) f6_14
          replace f6_16 : Ep6 52 = .pointer (some ((adr A_data0).add (x41.toNat * (RpI .i64).sz))) := Eq.mp (by kernel_rfl) f6_16
          replace hS : St w0 w' (ro ρ :: bunA (fun (cs6_17 : List Value) => RepL (RpI .i64) ρ z6_17 cs6_17) (fun (cs6_17 : List Value) => [vec 3 (RpI .i64).sz (.slice A_data0 data0.length c_data0) data0.length cs6_17]) :: (cells b_cmp3_0 87 [.slice A_cmp3_0_0 cmp3_0_0.length c_cmp3_0_0] :: l)) := Eq.mp (by kernel_rfl) hS
          obtain ⟨cs6_17, hr6_17, hS⟩ := St.unbun (hS.pull 1)
          obtain ⟨x36, hx36, hFL4⟩ := ar_s hFL4
          refine x_blk <| x_region <| p (yl_move ((hE6 9 rfl).trans eL4h_9)) <| p (ysub rfl rfl hx36) <|
            p (yl_assign rfl) <| x_done <|
            ?_
          obtain rfl := Option.some.inj (show some _ = some _ from hFL4)
          exact x_inv ⟨kL4, Nat.lt_succ_self _, cs6_17, z6_17, x36, hLL4, ((hE6 0 rfl).trans eL4h_0), ((hE6 1 rfl).trans eL4h_1), ((hE6 2 rfl).trans eL4h_2), ((hE6 3 rfl).trans eL4h_3), ((hE6 8 rfl).trans eL4h_8), rfl, hr6_17, (((hS.pull 1).pull 2).pull 2)⟩
        · replace hFL4 := it_bf hc34 hFL4
          refine x_exitTo _ rfl <|
            ?_
          obtain rfl := Option.some.inj (show some _ = some _ from hFL4)
          exact x_inv ⟨cs_data0_L4h, data0_L4h, hLL4, eL4h_0, eL4h_1, eL4h_2, eL4h_3, eL4h_8, h_data0_L4h, (((hS.pull 2).pull 2).pull 2)⟩
      rintro E w ⟨cs_data0_L4, data0_L4, rfl, eL4_0, eL4_1, eL4_2, eL4_3, eL4_8, h_data0_L4, hS⟩
      obtain ⟨x16, hx16, hFL1⟩ := ar_s hFL1
      refine x_blk <| x_region <| p (yl_move eL4_8) <| p (yadd rfl rfl hx16) <|
        p (yl_assign rfl) <| x_done <|
        ?_
      obtain rfl := Option.some.inj (show some _ = some _ from hFL1)
      exact x_inv ⟨kL1, Nat.lt_succ_self _, cs_data0_L4, data0_L4, x16, hLL1, eL4_0, eL4_1, eL4_2, eL4_3, rfl, h_data0_L4, (((hS.pull 2).pull 2).pull 2)⟩
    · replace hFL1 := it_f hc14 hFL1
      refine x_exitTo _ rfl <|
        ?_
      obtain rfl := Option.some.inj (show some _ = some _ from hFL1)
      exact x_inv ⟨cs_data0_L1h, data0_L1h, hLL1, h_data0_L1h, (((hS.pull 2).pull 1).pull 2)⟩
  rintro E w ⟨cs_zA_data0_L1, zA_data0_L1, rfl, h_zA_data0_L1, hS⟩
  obtain rfl := Option.some.inj (show some _ = some _ from hF)
  exact x_fin ⟨_, rfl, cs_zA_data0_L1, rfl, h_zA_data0_L1, (((hS.pull 2).pull 2).pull 2)⟩
attribute [irreducible] P_slices_insertionSortCmpFunc_int_2

def P_slices_swapRangeCmpFunc_int_2_L1 (a1 : Int) (b2 : Int) (n3 : Int) : (List Int × Int) → Option ((List Int × Int) ⊕ List Int) := fun (data0_L1h, i10_L1h) =>
  if i10_L1h < n3 then
    ar (a1 + i10_L1h) fun x19 =>
    ar (b2 + i10_L1h) fun x23 =>
    ar (b2 + i10_L1h) fun x27 =>
    ck (inb x27 data0_L1h.length) <|
    lv (gt data0_L1h x27) fun x29 =>
    ar (a1 + i10_L1h) fun x33 =>
    ck (inb x33 data0_L1h.length) <|
    lv (gt data0_L1h x33) fun x35 =>
    ck (inb x19 data0_L1h.length) <|
    lv (stt data0_L1h x19 x29) fun z3_21 =>
    ck (inb x23 z3_21.length) <|
    lv (stt z3_21 x23 x35) fun z3_23 =>
    ar (i10_L1h + 1) fun x15 =>
    some (Sum.inl (z3_23, x15))
  else
    some (Sum.inr data0_L1h)
def P_slices_swapRangeCmpFunc_int_2 (data0 : List Int) (a1 : Int) (b2 : Int) (n3 : Int) (cmp4_0_0 : List T_floor_Point) : Option (List Int) :=
  bd (
    lp (P_slices_swapRangeCmpFunc_int_2_L1 a1 b2 n3) fuel (data0, 0)) fun zA_data0_L1 =>
  some zA_data0_L1
set_option maxHeartbeats 4000000 in
set_option maxRecDepth 100000 in
theorem c_slices_swapRangeCmpFunc_int_2 {w0 w : World} {l : List Assn} {ρ : Heap} {A_data0 : Option Addr} {n_data0 : Nat} {c_data0 : Nat} {cs_data0 : List Value} {b_cmp4_0 : Nat} {A_cmp4_0_0 : Option Addr} {n_cmp4_0_0 : Nat} {c_cmp4_0_0 : Nat} {data0 : List Int} {a1 : Int} {b2 : Int} {n3 : Int} {cmp4_0_0 : List T_floor_Point} {r : List Int} (hF : P_slices_swapRangeCmpFunc_int_2 data0 a1 b2 n3 cmp4_0_0 = some r) (h_data0 : RepL (RpI .i64) ρ data0 cs_data0) (h_cmp4_0_0 : RdS R_floor_Point ρ A_cmp4_0_0 n_cmp4_0_0 c_cmp4_0_0 cmp4_0_0) (hS : St w0 w (vec 3 (RpI .i64).sz (.slice A_data0 n_data0 c_data0) n_data0 cs_data0 :: cells b_cmp4_0 87 [.slice A_cmp4_0_0 n_cmp4_0_0 c_cmp4_0_0] :: ro ρ :: l)) :
    Calls Try.prog 174 #[.slice A_data0 n_data0 c_data0, .int .i64 a1, .int .i64 b2, .int .i64 n3, .func (.func 138) #[] #[.pointer (some ⟨b_cmp4_0, 0, none⟩)]] w fun e w' => ∃ (cs_zA_data0_ret : List Value), e = .returned (.tuple #[]) ∧ RepL (RpI .i64) ρ r cs_zA_data0_ret ∧ St w0 w' (cells b_cmp4_0 87 [.slice A_cmp4_0_0 n_cmp4_0_0 c_cmp4_0_0] :: vec 3 (RpI .i64).sz (.slice A_data0 n_data0 c_data0) n_data0 cs_zA_data0_ret :: ro ρ :: l) := by
  obtain rfl := St.vec_n hS h_data0
  obtain rfl := h_cmp4_0_0.n
  refine enterC Try.func174 rfl 38 rfl (by simp) ?_
  refine x_seq <| x_region <| p (yl_assign rfl) <| x_done <|
    ?_
  obtain ⟨oL1, hLL1, hF⟩ := bd_s hF
  refine x_join (fun E w => ∃ (cs_zA_data0_L1 : List Value) (zA_data0_L1 : List Int), zA_data0_L1 = oL1 ∧ RepL (RpI .i64) ρ zA_data0_L1 cs_zA_data0_L1 ∧ St w0 w (cells b_cmp4_0 87 [.slice A_cmp4_0_0 cmp4_0_0.length c_cmp4_0_0] :: vec 3 (RpI .i64).sz (.slice A_data0 data0.length c_data0) data0.length cs_zA_data0_L1 :: ro ρ :: l)) ?_ ?_
  · skip -- L1
    refine x_block ?_
    refine x_loop (fun k_ E w => ∃ (cs_data0_L1h : List Value) (data0_L1h : List Int) (i10_L1h : Int), lp (P_slices_swapRangeCmpFunc_int_2_L1 a1 b2 n3) k_ (data0_L1h, i10_L1h) = some oL1 ∧ E 0 = .slice A_data0 data0.length c_data0 ∧ E 1 = .int .i64 a1 ∧ E 2 = .int .i64 b2 ∧ E 3 = .int .i64 n3 ∧ E 10 = .int .i64 i10_L1h ∧ RepL (RpI .i64) ρ data0_L1h cs_data0_L1h ∧ St w0 w (vec 3 (RpI .i64).sz (.slice A_data0 data0.length c_data0) data0.length cs_data0_L1h :: cells b_cmp4_0 87 [.slice A_cmp4_0_0 cmp4_0_0.length c_cmp4_0_0] :: ro ρ :: l)) fuel ⟨cs_data0, data0, 0, hLL1, rfl, rfl, rfl, rfl, rfl, h_data0, (((hS.pull 2).pull 2).pull 2)⟩ ?_
    rintro kL1 E w ⟨cs_data0_L1h, data0_L1h, i10_L1h, hLL1, eL1h_0, eL1h_1, eL1h_2, eL1h_3, eL1h_10, h_data0_L1h, hS⟩
    obtain ⟨kL1, obL1, rfl, hFL1, hLL1⟩ := lp_s hLL1
    refine x_seq <| x_seq <| x_region <| p (yl_move eL1h_10) <|
      p (yl_move eL1h_3) <| p (yl_lss rfl rfl) <| x_done <|
      x_cond_p (i10_L1h < n3) rfl (fun hc13 => ?_) (fun hc13 => ?_)
    · replace hFL1 := it_t hc13 hFL1
      refine x_skip <| x_seq <| x_block <|
        ?_
      obtain ⟨x19, hx19, hFL1⟩ := ar_s hFL1
      obtain ⟨x23, hx23, hFL1⟩ := ar_s hFL1
      obtain ⟨x27, hx27, hFL1⟩ := ar_s hFL1
      obtain ⟨hk3_12, hFL1⟩ := ck_s hFL1
      obtain ⟨x29, hx29, hFL1⟩ := lv_s hFL1
      obtain ⟨x33, hx33, hFL1⟩ := ar_s hFL1
      obtain ⟨hk3_18, hFL1⟩ := ck_s hFL1
      obtain ⟨x35, hx35, hFL1⟩ := lv_s hFL1
      obtain ⟨hk3_20, hFL1⟩ := ck_s hFL1
      obtain ⟨z3_21, hz3_21, hFL1⟩ := lv_s hFL1
      obtain ⟨hk3_22, hFL1⟩ := ck_s hFL1
      obtain ⟨z3_23, hz3_23, hFL1⟩ := lv_s hFL1
      refine x_par (w0 := w0) [⟨[], [], [16], [], [], []⟩, ⟨[], [], [17], [], [], []⟩, ⟨[], [], [18], [], [], []⟩, ⟨[1, 2], [1, 2], [19], [], [], []⟩, ⟨[], [], [20], [], [], []⟩, ⟨[], [], [21], [], [], []⟩, ⟨[], [], [22], [], [], []⟩, ⟨[5, 6], [5, 6], [23], [], [], []⟩, ⟨[], [], [24], [], [], []⟩, ⟨[], [], [25], [], [], []⟩, ⟨[], [], [26], [], [], []⟩, ⟨[9, 10], [9, 10], [27], [], [], []⟩, ⟨[8, 9, 10, 11], [8, 11], [28], [0], [], []⟩, ⟨[8, 9, 10, 11, 12], [12], [29], [0], [], []⟩, ⟨[], [], [30], [], [], []⟩, ⟨[], [], [31], [], [], []⟩, ⟨[], [], [32], [], [], []⟩, ⟨[15, 16], [15, 16], [33], [], [], []⟩, ⟨[14, 15, 16, 17], [14, 17], [34], [0], [], []⟩, ⟨[14, 15, 16, 17, 18], [18], [35], [0], [], []⟩, ⟨[0, 1, 2, 3, 8, 9, 10, 11, 12, 13, 14, 15, 16, 17, 18, 19], [0, 3], [36], [0], [], []⟩, ⟨[0, 1, 2, 3, 8, 9, 10, 11, 12, 13, 14, 15, 16, 17, 18, 19, 20], [13, 20], [], [], [0], [1]⟩, ⟨[0, 1, 2, 3, 4, 5, 6, 7, 8, 9, 10, 11, 12, 13, 14, 15, 16, 17, 18, 19, 20, 21], [4, 7], [37], [2, 1], [], []⟩, ⟨[0, 1, 2, 3, 4, 5, 6, 7, 8, 9, 10, 11, 12, 13, 14, 15, 16, 17, 18, 19, 20, 21, 22], [19, 22], [], [2], [1], [3]⟩] [⟨none, (some 21), []⟩, ⟨(some 21), (some 23), []⟩, ⟨none, none, []⟩, ⟨(some 23), none, []⟩] [16, 17, 18, 19, 20, 21, 22, 23, 24, 25, 26, 27, 28, 29, 30, 31, 32, 33, 34, 35, 36, 37] [0, 2] [2, 3] [0, 1, 2, 3, 4, 5, 6, 7, 8, 9, 10, 11, 12, 13, 14, 15, 16, 17, 18, 19, 20, 22] [fun Ep3 => Ep3 16 = .slice A_data0 data0.length c_data0, fun Ep3 => Ep3 17 = .int .i64 a1, fun Ep3 => Ep3 18 = .int .i64 i10_L1h, fun Ep3 => Ep3 19 = .int .i64 x19, fun Ep3 => Ep3 20 = .slice A_data0 data0.length c_data0, fun Ep3 => Ep3 21 = .int .i64 b2, fun Ep3 => Ep3 22 = .int .i64 i10_L1h, fun Ep3 => Ep3 23 = .int .i64 x23, fun Ep3 => Ep3 24 = .slice A_data0 data0.length c_data0, fun Ep3 => Ep3 25 = .int .i64 b2, fun Ep3 => Ep3 26 = .int .i64 i10_L1h, fun Ep3 => Ep3 27 = .int .i64 x27, fun Ep3 => Ep3 28 = .pointer (some ((adr A_data0).add (x27.toNat * (RpI .i64).sz))), fun Ep3 => Ep3 29 = .int .i64 x29, fun Ep3 => Ep3 30 = .slice A_data0 data0.length c_data0, fun Ep3 => Ep3 31 = .int .i64 a1, fun Ep3 => Ep3 32 = .int .i64 i10_L1h, fun Ep3 => Ep3 33 = .int .i64 x33, fun Ep3 => Ep3 34 = .pointer (some ((adr A_data0).add (x33.toNat * (RpI .i64).sz))), fun Ep3 => Ep3 35 = .int .i64 x35, fun Ep3 => Ep3 36 = .pointer (some ((adr A_data0).add (x19.toNat * (RpI .i64).sz))), fun Ep3 => True, fun Ep3 => Ep3 37 = .pointer (some ((adr A_data0).add (x23.toNat * (RpI .i64).sz))), fun Ep3 => True] [fun Ep3 => vec 3 (RpI .i64).sz (.slice A_data0 data0.length c_data0) data0.length cs_data0_L1h, fun Ep3 => bunA (fun (cs3_21 : List Value) => RepL (RpI .i64) ρ z3_21 cs3_21) (fun (cs3_21 : List Value) => [vec 3 (RpI .i64).sz (.slice A_data0 data0.length c_data0) data0.length cs3_21]), fun Ep3 => ro ρ, fun Ep3 => bunA (fun (cs3_23 : List Value) => RepL (RpI .i64) ρ z3_23 cs3_23) (fun (cs3_23 : List Value) => [vec 3 (RpI .i64).sz (.slice A_data0 data0.length c_data0) data0.length cs3_23])] mixed (by kernel_rfl) ((hS.pull 2).pull 1) ?_ ?_
      · refine ⟨?_, ?_, ?_, ?_, ?_, ?_, ?_, ?_, ?_, ?_, ?_, ?_, ?_, ?_, ?_, ?_, ?_, ?_, ?_, ?_, ?_, ?_, ?_, ?_, trivial⟩
        · intro Ep3 w l' hE3 hO3 hF_ hS
          refine p (yl_move ((hE3 0 rfl).trans eL1h_0)) <| x_done <|
            ?_
          refine x_fin ⟨⟨_, rfl⟩, rfl, ?_⟩
          exact Eq.mp (by kernel_rfl) hS
        · intro Ep3 w l' hE3 hO3 hF_ hS
          refine p (yl_move ((hE3 1 rfl).trans eL1h_1)) <| x_done <|
            ?_
          refine x_fin ⟨⟨_, rfl⟩, rfl, ?_⟩
          exact Eq.mp (by kernel_rfl) hS
        · intro Ep3 w l' hE3 hO3 hF_ hS
          refine p (yl_move ((hE3 10 rfl).trans eL1h_10)) <| x_done <|
            ?_
          refine x_fin ⟨⟨_, rfl⟩, rfl, ?_⟩
          exact Eq.mp (by kernel_rfl) hS
        · intro Ep3 w l' hE3 hO3 hF_ hS
          obtain ⟨f3_1, f3_2, -⟩ := hF_
          replace f3_1 : Ep3 17 = .int .i64 a1 := Eq.mp (by kernel_rfl) f3_1
          replace f3_2 : Ep3 18 = .int .i64 i10_L1h := Eq.mp (by kernel_rfl) f3_2
          refine p (yadd f3_1 f3_2 hx19) <| x_done <|
            ?_
          refine x_fin ⟨⟨_, rfl⟩, rfl, ?_⟩
          exact Eq.mp (by kernel_rfl) hS
        · intro Ep3 w l' hE3 hO3 hF_ hS
          refine p (yl_move ((hE3 0 rfl).trans eL1h_0)) <| x_done <|
            ?_
          refine x_fin ⟨⟨_, rfl⟩, rfl, ?_⟩
          exact Eq.mp (by kernel_rfl) hS
        · intro Ep3 w l' hE3 hO3 hF_ hS
          refine p (yl_move ((hE3 2 rfl).trans eL1h_2)) <| x_done <|
            ?_
          refine x_fin ⟨⟨_, rfl⟩, rfl, ?_⟩
          exact Eq.mp (by kernel_rfl) hS
        · intro Ep3 w l' hE3 hO3 hF_ hS
          refine p (yl_move ((hE3 10 rfl).trans eL1h_10)) <| x_done <|
            ?_
          refine x_fin ⟨⟨_, rfl⟩, rfl, ?_⟩
          exact Eq.mp (by kernel_rfl) hS
        · intro Ep3 w l' hE3 hO3 hF_ hS
          obtain ⟨f3_5, f3_6, -⟩ := hF_
          replace f3_5 : Ep3 21 = .int .i64 b2 := Eq.mp (by kernel_rfl) f3_5
          replace f3_6 : Ep3 22 = .int .i64 i10_L1h := Eq.mp (by kernel_rfl) f3_6
          refine p (yadd f3_5 f3_6 hx23) <| x_done <|
            ?_
          refine x_fin ⟨⟨_, rfl⟩, rfl, ?_⟩
          exact Eq.mp (by kernel_rfl) hS
        · intro Ep3 w l' hE3 hO3 hF_ hS
          refine p (yl_move ((hE3 0 rfl).trans eL1h_0)) <| x_done <|
            ?_
          refine x_fin ⟨⟨_, rfl⟩, rfl, ?_⟩
          exact Eq.mp (by kernel_rfl) hS
        · intro Ep3 w l' hE3 hO3 hF_ hS
          refine p (yl_move ((hE3 2 rfl).trans eL1h_2)) <| x_done <|
            ?_
          refine x_fin ⟨⟨_, rfl⟩, rfl, ?_⟩
          exact Eq.mp (by kernel_rfl) hS
        · intro Ep3 w l' hE3 hO3 hF_ hS
          refine p (yl_move ((hE3 10 rfl).trans eL1h_10)) <| x_done <|
            ?_
          refine x_fin ⟨⟨_, rfl⟩, rfl, ?_⟩
          exact Eq.mp (by kernel_rfl) hS
        · intro Ep3 w l' hE3 hO3 hF_ hS
          obtain ⟨f3_9, f3_10, -⟩ := hF_
          replace f3_9 : Ep3 25 = .int .i64 b2 := Eq.mp (by kernel_rfl) f3_9
          replace f3_10 : Ep3 26 = .int .i64 i10_L1h := Eq.mp (by kernel_rfl) f3_10
          refine p (yadd f3_9 f3_10 hx27) <| x_done <|
            ?_
          refine x_fin ⟨⟨_, rfl⟩, rfl, ?_⟩
          exact Eq.mp (by kernel_rfl) hS
        · intro Ep3 w l' hE3 hO3 hF_ hS
          obtain ⟨f3_8, f3_11, -⟩ := hF_
          replace f3_8 : Ep3 24 = .slice A_data0 data0.length c_data0 := Eq.mp (by kernel_rfl) f3_8
          replace f3_11 : Ep3 27 = .int .i64 x27 := Eq.mp (by kernel_rfl) f3_11
          replace hS : St w0 w (vec 3 (RpI .i64).sz (.slice A_data0 data0.length c_data0) data0.length cs_data0_L1h :: l') := Eq.mp (by kernel_rfl) hS
          refine p (yix_o sl_22 f3_8 f3_11 hS h_data0_L1h hk3_12) <| x_done <|
            ?_
          refine x_fin ⟨⟨_, rfl⟩, rfl, ?_⟩
          exact Eq.mp (by kernel_rfl) hS
        · intro Ep3 w l' hE3 hO3 hF_ hS
          obtain ⟨f3_12, -⟩ := hF_
          replace f3_12 : Ep3 28 = .pointer (some ((adr A_data0).add (x27.toNat * (RpI .i64).sz))) := Eq.mp (by kernel_rfl) f3_12
          replace hS : St w0 w (vec 3 (RpI .i64).sz (.slice A_data0 data0.length c_data0) data0.length cs_data0_L1h :: l') := Eq.mp (by kernel_rfl) hS
          refine pa (at_load one_3 f3_12 (RepL.getW h_data0_L1h hS hk3_12 hx29)) <| x_done <|
            ?_
          refine x_fin ⟨⟨_, rfl⟩, rfl, ?_⟩
          exact Eq.mp (by kernel_rfl) hS
        · intro Ep3 w l' hE3 hO3 hF_ hS
          refine p (yl_move ((hE3 0 rfl).trans eL1h_0)) <| x_done <|
            ?_
          refine x_fin ⟨⟨_, rfl⟩, rfl, ?_⟩
          exact Eq.mp (by kernel_rfl) hS
        · intro Ep3 w l' hE3 hO3 hF_ hS
          refine p (yl_move ((hE3 1 rfl).trans eL1h_1)) <| x_done <|
            ?_
          refine x_fin ⟨⟨_, rfl⟩, rfl, ?_⟩
          exact Eq.mp (by kernel_rfl) hS
        · intro Ep3 w l' hE3 hO3 hF_ hS
          refine p (yl_move ((hE3 10 rfl).trans eL1h_10)) <| x_done <|
            ?_
          refine x_fin ⟨⟨_, rfl⟩, rfl, ?_⟩
          exact Eq.mp (by kernel_rfl) hS
        · intro Ep3 w l' hE3 hO3 hF_ hS
          obtain ⟨f3_15, f3_16, -⟩ := hF_
          replace f3_15 : Ep3 31 = .int .i64 a1 := Eq.mp (by kernel_rfl) f3_15
          replace f3_16 : Ep3 32 = .int .i64 i10_L1h := Eq.mp (by kernel_rfl) f3_16
          refine p (yadd f3_15 f3_16 hx33) <| x_done <|
            ?_
          refine x_fin ⟨⟨_, rfl⟩, rfl, ?_⟩
          exact Eq.mp (by kernel_rfl) hS
        · intro Ep3 w l' hE3 hO3 hF_ hS
          obtain ⟨f3_14, f3_17, -⟩ := hF_
          replace f3_14 : Ep3 30 = .slice A_data0 data0.length c_data0 := Eq.mp (by kernel_rfl) f3_14
          replace f3_17 : Ep3 33 = .int .i64 x33 := Eq.mp (by kernel_rfl) f3_17
          replace hS : St w0 w (vec 3 (RpI .i64).sz (.slice A_data0 data0.length c_data0) data0.length cs_data0_L1h :: l') := Eq.mp (by kernel_rfl) hS
          refine p (yix_o sl_22 f3_14 f3_17 hS h_data0_L1h hk3_18) <| x_done <|
            ?_
          refine x_fin ⟨⟨_, rfl⟩, rfl, ?_⟩
          exact Eq.mp (by kernel_rfl) hS
        · intro Ep3 w l' hE3 hO3 hF_ hS
          obtain ⟨f3_18, -⟩ := hF_
          replace f3_18 : Ep3 34 = .pointer (some ((adr A_data0).add (x33.toNat * (RpI .i64).sz))) := Eq.mp (by kernel_rfl) f3_18
          replace hS : St w0 w (vec 3 (RpI .i64).sz (.slice A_data0 data0.length c_data0) data0.length cs_data0_L1h :: l') := Eq.mp (by kernel_rfl) hS
          refine pa (at_load one_3 f3_18 (RepL.getW h_data0_L1h hS hk3_18 hx35)) <| x_done <|
            ?_
          refine x_fin ⟨⟨_, rfl⟩, rfl, ?_⟩
          exact Eq.mp (by kernel_rfl) hS
        · intro Ep3 w l' hE3 hO3 hF_ hS
          obtain ⟨f3_0, f3_3, -⟩ := hF_
          replace f3_0 : Ep3 16 = .slice A_data0 data0.length c_data0 := Eq.mp (by kernel_rfl) f3_0
          replace f3_3 : Ep3 19 = .int .i64 x19 := Eq.mp (by kernel_rfl) f3_3
          replace hS : St w0 w (vec 3 (RpI .i64).sz (.slice A_data0 data0.length c_data0) data0.length cs_data0_L1h :: l') := Eq.mp (by kernel_rfl) hS
          refine p (yix_o sl_22 f3_0 f3_3 hS h_data0_L1h hk3_20) <| x_done <|
            ?_
          refine x_fin ⟨⟨_, rfl⟩, rfl, ?_⟩
          exact Eq.mp (by kernel_rfl) hS
        · intro Ep3 w l' hE3 hO3 hF_ hS
          obtain ⟨f3_13, f3_20, -⟩ := hF_
          replace f3_13 : Ep3 29 = .int .i64 x29 := Eq.mp (by kernel_rfl) f3_13
          replace f3_20 : Ep3 36 = .pointer (some ((adr A_data0).add (x19.toNat * (RpI .i64).sz))) := Eq.mp (by kernel_rfl) f3_20
          replace hS : St w0 w (vec 3 (RpI .i64).sz (.slice A_data0 data0.length c_data0) data0.length cs_data0_L1h :: l') := Eq.mp (by kernel_rfl) hS
          refine o_put' (news := [.int .i64 x29]) sz_3 f3_20 f3_13 rfl rfl (o := 0) rfl hk3_20 rfl hS h_data0_L1h (Le.refl _) (fun c hc => ok_all hc (show (RpI .i64).ok ρ [.int .i64 x29] x29 from rfl)) hz3_21 (fun cs3_21 w' hr3_21 hS => ?_)
          refine x_done <|
            ?_
          refine x_fin ⟨⟨undef, rfl⟩, trivial, ?_⟩
          replace hS := St.bun (Φ := (fun (cs3_21 : List Value) => RepL (RpI .i64) ρ z3_21 cs3_21)) (L := (fun (cs3_21 : List Value) => [vec 3 (RpI .i64).sz (.slice A_data0 data0.length c_data0) data0.length cs3_21])) cs3_21 hr3_21 hS
          exact Eq.mp (by kernel_rfl) hS
        · intro Ep3 w l' hE3 hO3 hF_ hS
          obtain ⟨f3_4, f3_7, -⟩ := hF_
          replace f3_4 : Ep3 20 = .slice A_data0 data0.length c_data0 := Eq.mp (by kernel_rfl) f3_4
          replace f3_7 : Ep3 23 = .int .i64 x23 := Eq.mp (by kernel_rfl) f3_7
          replace hS : St w0 w (ro ρ :: bunA (fun (cs3_21 : List Value) => RepL (RpI .i64) ρ z3_21 cs3_21) (fun (cs3_21 : List Value) => [vec 3 (RpI .i64).sz (.slice A_data0 data0.length c_data0) data0.length cs3_21]) :: l') := Eq.mp (by kernel_rfl) hS
          obtain ⟨cs3_21, hr3_21, hS⟩ := St.unbun (hS.pull 1)
          refine p (yix_o sl_22 f3_4 f3_7 hS hr3_21 hk3_22) <| x_done <|
            ?_
          refine x_fin ⟨⟨_, rfl⟩, rfl, ?_⟩
          replace hS := St.bun (Φ := (fun (cs3_21 : List Value) => RepL (RpI .i64) ρ z3_21 cs3_21)) (L := (fun (cs3_21 : List Value) => [vec 3 (RpI .i64).sz (.slice A_data0 data0.length c_data0) data0.length cs3_21])) cs3_21 hr3_21 hS
          exact Eq.mp (by kernel_rfl) (hS.pull 1)
        · intro Ep3 w l' hE3 hO3 hF_ hS
          obtain ⟨f3_19, f3_22, -⟩ := hF_
          replace f3_19 : Ep3 35 = .int .i64 x35 := Eq.mp (by kernel_rfl) f3_19
          replace f3_22 : Ep3 37 = .pointer (some ((adr A_data0).add (x23.toNat * (RpI .i64).sz))) := Eq.mp (by kernel_rfl) f3_22
          replace hS : St w0 w (ro ρ :: bunA (fun (cs3_21 : List Value) => RepL (RpI .i64) ρ z3_21 cs3_21) (fun (cs3_21 : List Value) => [vec 3 (RpI .i64).sz (.slice A_data0 data0.length c_data0) data0.length cs3_21]) :: l') := Eq.mp (by kernel_rfl) hS
          obtain ⟨cs3_21, hr3_21, hS⟩ := St.unbun (hS.pull 1)
          refine o_put' (news := [.int .i64 x35]) sz_3 f3_22 f3_19 rfl rfl (o := 0) rfl hk3_22 rfl hS hr3_21 (Le.refl _) (fun c hc => ok_all hc (show (RpI .i64).ok ρ [.int .i64 x35] x35 from rfl)) hz3_23 (fun cs3_23 w' hr3_23 hS => ?_)
          refine x_done <|
            ?_
          refine x_fin ⟨⟨undef, rfl⟩, trivial, ?_⟩
          replace hS := St.bun (Φ := (fun (cs3_23 : List Value) => RepL (RpI .i64) ρ z3_23 cs3_23)) (L := (fun (cs3_23 : List Value) => [vec 3 (RpI .i64).sz (.slice A_data0 data0.length c_data0) data0.length cs3_23])) cs3_23 hr3_23 hS
          exact Eq.mp (by kernel_rfl) (hS.pull 1)
      intro Ep3 w' hE3 hF_ hS
      obtain ⟨f3_0, f3_1, f3_2, f3_3, f3_4, f3_5, f3_6, f3_7, f3_8, f3_9, f3_10, f3_11, f3_12, f3_13, f3_14, f3_15, f3_16, f3_17, f3_18, f3_19, f3_20, f3_22, -⟩ := hF_
      replace f3_0 : Ep3 16 = .slice A_data0 data0.length c_data0 := Eq.mp (by kernel_rfl) f3_0
      replace f3_1 : Ep3 17 = .int .i64 a1 := Eq.mp (by kernel_rfl) f3_1
      replace f3_2 : Ep3 18 = .int .i64 i10_L1h := Eq.mp (by kernel_rfl) f3_2
      replace f3_3 : Ep3 19 = .int .i64 x19 := Eq.mp (by kernel_rfl) f3_3
      replace f3_4 : Ep3 20 = .slice A_data0 data0.length c_data0 := Eq.mp (by kernel_rfl) f3_4
      replace f3_5 : Ep3 21 = .int .i64 b2 := Eq.mp (by kernel_rfl) f3_5
      replace f3_6 : Ep3 22 = .int .i64 i10_L1h := Eq.mp (by kernel_rfl) f3_6
      replace f3_7 : Ep3 23 = .int .i64 x23 := Eq.mp (by kernel_rfl) f3_7
      replace f3_8 : Ep3 24 = .slice A_data0 data0.length c_data0 := Eq.mp (by kernel_rfl) f3_8
      replace f3_9 : Ep3 25 = .int .i64 b2 := Eq.mp (by kernel_rfl) f3_9
      replace f3_10 : Ep3 26 = .int .i64 i10_L1h := Eq.mp (by kernel_rfl) f3_10
      replace f3_11 : Ep3 27 = .int .i64 x27 := Eq.mp (by kernel_rfl) f3_11
      replace f3_12 : Ep3 28 = .pointer (some ((adr A_data0).add (x27.toNat * (RpI .i64).sz))) := Eq.mp (by kernel_rfl) f3_12
      replace f3_13 : Ep3 29 = .int .i64 x29 := Eq.mp (by kernel_rfl) f3_13
      replace f3_14 : Ep3 30 = .slice A_data0 data0.length c_data0 := Eq.mp (by kernel_rfl) f3_14
      replace f3_15 : Ep3 31 = .int .i64 a1 := Eq.mp (by kernel_rfl) f3_15
      replace f3_16 : Ep3 32 = .int .i64 i10_L1h := Eq.mp (by kernel_rfl) f3_16
      replace f3_17 : Ep3 33 = .int .i64 x33 := Eq.mp (by kernel_rfl) f3_17
      replace f3_18 : Ep3 34 = .pointer (some ((adr A_data0).add (x33.toNat * (RpI .i64).sz))) := Eq.mp (by kernel_rfl) f3_18
      replace f3_19 : Ep3 35 = .int .i64 x35 := Eq.mp (by kernel_rfl) f3_19
      replace f3_20 : Ep3 36 = .pointer (some ((adr A_data0).add (x19.toNat * (RpI .i64).sz))) := Eq.mp (by kernel_rfl) f3_20
      replace f3_22 : Ep3 37 = .pointer (some ((adr A_data0).add (x23.toNat * (RpI .i64).sz))) := Eq.mp (by kernel_rfl) f3_22
      replace hS : St w0 w' (ro ρ :: bunA (fun (cs3_23 : List Value) => RepL (RpI .i64) ρ z3_23 cs3_23) (fun (cs3_23 : List Value) => [vec 3 (RpI .i64).sz (.slice A_data0 data0.length c_data0) data0.length cs3_23]) :: (cells b_cmp4_0 87 [.slice A_cmp4_0_0 cmp4_0_0.length c_cmp4_0_0] :: l)) := Eq.mp (by kernel_rfl) hS
      obtain ⟨cs3_23, hr3_23, hS⟩ := St.unbun (hS.pull 1)
      obtain ⟨x15, hx15, hFL1⟩ := ar_s hFL1
      refine x_blk <| x_region <| p (yl_move ((hE3 10 rfl).trans eL1h_10)) <| p (yadd rfl rfl hx15) <|
        p (yl_assign rfl) <| x_done <|
        ?_
      obtain rfl := Option.some.inj (show some _ = some _ from hFL1)
      exact x_inv ⟨kL1, Nat.lt_succ_self _, cs3_23, z3_23, x15, hLL1, ((hE3 0 rfl).trans eL1h_0), ((hE3 1 rfl).trans eL1h_1), ((hE3 2 rfl).trans eL1h_2), ((hE3 3 rfl).trans eL1h_3), rfl, hr3_23, (((hS.pull 1).pull 2).pull 2)⟩
    · replace hFL1 := it_f hc13 hFL1
      refine x_exitTo _ rfl <|
        ?_
      obtain rfl := Option.some.inj (show some _ = some _ from hFL1)
      exact x_inv ⟨cs_data0_L1h, data0_L1h, hLL1, h_data0_L1h, (((hS.pull 2).pull 1).pull 2)⟩
  rintro E w ⟨cs_zA_data0_L1, zA_data0_L1, rfl, h_zA_data0_L1, hS⟩
  obtain rfl := Option.some.inj (show some _ = some _ from hF)
  exact x_fin ⟨_, rfl, cs_zA_data0_L1, rfl, h_zA_data0_L1, (((hS.pull 2).pull 2).pull 2)⟩
attribute [irreducible] P_slices_swapRangeCmpFunc_int_2

def P_slices_rotateCmpFunc_int_2_L2 (m2 : Int) (cmp4_0_0 : List T_floor_Point) : (List Int × Int × Int) → Option ((List Int × Int × Int) ⊕ (List Int × Int)) := fun (data0_L2h, i10_L2h, j11_L2h) =>
  if i10_L2h ≠ j11_L2h then
    bd (
      if j11_L2h < i10_L2h then
        ar (m2 - i10_L2h) fun x27 =>
        bd (P_slices_swapRangeCmpFunc_int_2 data0_L2h x27 m2 j11_L2h cmp4_0_0) fun r4_7 =>
        ar (i10_L2h - j11_L2h) fun x34 =>
        some (r4_7, x34, j11_L2h)
      else
        ar (m2 - i10_L2h) fun x38 =>
        ar (m2 + j11_L2h) fun x41 =>
        ar (x41 - i10_L2h) fun x43 =>
        bd (P_slices_swapRangeCmpFunc_int_2 data0_L2h x38 x43 i10_L2h cmp4_0_0) fun r6_11 =>
        ar (j11_L2h - i10_L2h) fun x49 =>
        some (r6_11, i10_L2h, x49)) fun (data0_c23, i10_c23, j11_c23) =>
    some (Sum.inl (data0_c23, i10_c23, j11_c23))
  else
    some (Sum.inr (data0_L2h, i10_L2h))
def P_slices_rotateCmpFunc_int_2 (data0 : List Int) (a1 : Int) (m2 : Int) (b3 : Int) (cmp4_0_0 : List T_floor_Point) : Option (List Int) :=
  ar (m2 - a1) fun x14 =>
  ar (b3 - m2) fun x17 =>
  bd (
    lp (P_slices_rotateCmpFunc_int_2_L2 m2 cmp4_0_0) fuel (data0, x14, x17)) fun (data0_L2, i10_L2) =>
  ar (m2 - i10_L2) fun x53 =>
  bd (P_slices_swapRangeCmpFunc_int_2 data0_L2 x53 m2 i10_L2 cmp4_0_0) fun r8_7 =>
  some r8_7
set_option maxHeartbeats 4000000 in
set_option maxRecDepth 100000 in
theorem c_slices_rotateCmpFunc_int_2 {w0 w : World} {l : List Assn} {ρ : Heap} {A_data0 : Option Addr} {n_data0 : Nat} {c_data0 : Nat} {cs_data0 : List Value} {b_cmp4_0 : Nat} {A_cmp4_0_0 : Option Addr} {n_cmp4_0_0 : Nat} {c_cmp4_0_0 : Nat} {data0 : List Int} {a1 : Int} {m2 : Int} {b3 : Int} {cmp4_0_0 : List T_floor_Point} {r : List Int} (hF : P_slices_rotateCmpFunc_int_2 data0 a1 m2 b3 cmp4_0_0 = some r) (h_data0 : RepL (RpI .i64) ρ data0 cs_data0) (h_cmp4_0_0 : RdS R_floor_Point ρ A_cmp4_0_0 n_cmp4_0_0 c_cmp4_0_0 cmp4_0_0) (hS : St w0 w (vec 3 (RpI .i64).sz (.slice A_data0 n_data0 c_data0) n_data0 cs_data0 :: cells b_cmp4_0 87 [.slice A_cmp4_0_0 n_cmp4_0_0 c_cmp4_0_0] :: ro ρ :: l)) :
    Calls Try.prog 173 #[.slice A_data0 n_data0 c_data0, .int .i64 a1, .int .i64 m2, .int .i64 b3, .func (.func 138) #[] #[.pointer (some ⟨b_cmp4_0, 0, none⟩)]] w fun e w' => ∃ (cs_zA_data0_ret : List Value), e = .returned (.tuple #[]) ∧ RepL (RpI .i64) ρ r cs_zA_data0_ret ∧ St w0 w' (cells b_cmp4_0 87 [.slice A_cmp4_0_0 n_cmp4_0_0 c_cmp4_0_0] :: vec 3 (RpI .i64).sz (.slice A_data0 n_data0 c_data0) n_data0 cs_zA_data0_ret :: ro ρ :: l) := by
  obtain rfl := St.vec_n hS h_data0
  obtain rfl := h_cmp4_0_0.n
  refine enterC Try.func173 rfl 58 rfl (by simp) ?_
  obtain ⟨x14, hx14, hF⟩ := ar_s hF
  obtain ⟨x17, hx17, hF⟩ := ar_s hF
  refine x_seq <| x_region <| p (yl_move rfl) <| p (yl_move rfl) <|
    p (ysub rfl rfl hx14) <| p (yl_assign rfl) <| x_done <| x_seq <|
    x_region <| p (yl_move rfl) <| p (yl_move rfl) <| p (ysub rfl rfl hx17) <|
    p (yl_assign rfl) <| x_done <| x_seq <|
    ?_
  obtain ⟨oL2, hLL2, hF⟩ := bd_s hF
  refine x_join (fun E w => ∃ (cs_data0_L2 : List Value) (data0_L2 : List Int) (i10_L2 : Int), (data0_L2, i10_L2) = oL2 ∧ E 0 = .slice A_data0 data0.length c_data0 ∧ E 2 = .int .i64 m2 ∧ E 4 = .func (.func 138) #[] #[.pointer (some ⟨b_cmp4_0, 0, none⟩)] ∧ E 10 = .int .i64 i10_L2 ∧ RepL (RpI .i64) ρ data0_L2 cs_data0_L2 ∧ St w0 w (vec 3 (RpI .i64).sz (.slice A_data0 data0.length c_data0) data0.length cs_data0_L2 :: cells b_cmp4_0 87 [.slice A_cmp4_0_0 cmp4_0_0.length c_cmp4_0_0] :: ro ρ :: l)) ?_ ?_
  · skip -- L2
    refine x_block ?_
    refine x_loop (fun k_ E w => ∃ (cs_data0_L2h : List Value) (data0_L2h : List Int) (i10_L2h : Int) (j11_L2h : Int), lp (P_slices_rotateCmpFunc_int_2_L2 m2 cmp4_0_0) k_ (data0_L2h, i10_L2h, j11_L2h) = some oL2 ∧ E 0 = .slice A_data0 data0.length c_data0 ∧ E 2 = .int .i64 m2 ∧ E 4 = .func (.func 138) #[] #[.pointer (some ⟨b_cmp4_0, 0, none⟩)] ∧ E 10 = .int .i64 i10_L2h ∧ E 11 = .int .i64 j11_L2h ∧ RepL (RpI .i64) ρ data0_L2h cs_data0_L2h ∧ St w0 w (vec 3 (RpI .i64).sz (.slice A_data0 data0.length c_data0) data0.length cs_data0_L2h :: cells b_cmp4_0 87 [.slice A_cmp4_0_0 cmp4_0_0.length c_cmp4_0_0] :: ro ρ :: l)) fuel ⟨cs_data0, data0, x14, x17, hLL2, rfl, rfl, rfl, rfl, rfl, h_data0, (((hS.pull 2).pull 2).pull 2)⟩ ?_
    rintro kL2 E w ⟨cs_data0_L2h, data0_L2h, i10_L2h, j11_L2h, hLL2, eL2h_0, eL2h_2, eL2h_4, eL2h_10, eL2h_11, h_data0_L2h, hS⟩
    obtain ⟨kL2, obL2, rfl, hFL2, hLL2⟩ := lp_s hLL2
    refine x_seq <| x_seq <| x_region <| p (yl_move eL2h_10) <|
      p (yl_move eL2h_11) <| p (yl_neq rfl rfl) <| x_done <|
      x_cond_p (i10_L2h ≠ j11_L2h) rfl (fun hc20 => ?_) (fun hc20 => ?_)
    · replace hFL2 := it_t hc20 hFL2
      refine x_skip <| x_block <| x_seq <| x_region <|
        p (yl_move eL2h_10) <| p (yl_move eL2h_11) <| p (yl_gtr rfl rfl) <| x_done <|
        ?_
      obtain ⟨oc23, hFc23, hFL2⟩ := bd_s hFL2
      refine x_join (fun E w => ∃ (cs_data0_c23 : List Value) (data0_c23 : List Int) (i10_c23 : Int) (j11_c23 : Int), (data0_c23, i10_c23, j11_c23) = oc23 ∧ E 0 = .slice A_data0 data0.length c_data0 ∧ E 2 = .int .i64 m2 ∧ E 4 = .func (.func 138) #[] #[.pointer (some ⟨b_cmp4_0, 0, none⟩)] ∧ E 10 = .int .i64 i10_c23 ∧ E 11 = .int .i64 j11_c23 ∧ RepL (RpI .i64) ρ data0_c23 cs_data0_c23 ∧ St w0 w (vec 3 (RpI .i64).sz (.slice A_data0 data0.length c_data0) data0.length cs_data0_c23 :: cells b_cmp4_0 87 [.slice A_cmp4_0_0 cmp4_0_0.length c_cmp4_0_0] :: ro ρ :: l)) ?_ ?_
      · skip -- c23
        refine x_cond_p (j11_L2h < i10_L2h) rfl (fun hc23 => ?_) (fun hc23 => ?_)
        · replace hFc23 := it_t hc23 hFc23
          obtain ⟨x27, hx27, hFc23⟩ := ar_s hFc23
          obtain ⟨r4_7, hc4_7, hFc23⟩ := bd_s hFc23
          refine x_seq <| x_region <| p (yl_move eL2h_0) <| p (yl_move eL2h_2) <|
            p (yl_move eL2h_10) <| p (ysub rfl rfl hx27) <| p (yl_move eL2h_2) <| p (yl_move eL2h_11) <|
            p (yl_move eL2h_4) <|
            ?_
          have hcall := c_slices_swapRangeCmpFunc_int_2 hc4_7 h_data0_L2h h_cmp4_0_0 (((hS.pull 2).pull 2).pull 2)
          refine o_cc call_174 (args5 rfl rfl rfl rfl rfl) hcall ?_
          rintro e w' ⟨cs_zA_data0_ret_4_7, rfl, h_zA_data0_ret_4_7, hS⟩
          refine ⟨_, rfl, ?_⟩
          obtain ⟨x34, hx34, hFc23⟩ := ar_s hFc23
          refine x_done <| x_region <| p (yl_move eL2h_10) <| p (yl_move eL2h_11) <|
            p (ysub rfl rfl hx34) <| p (yl_assign rfl) <| x_done <|
            ?_
          exact x_inv ⟨cs_zA_data0_ret_4_7, r4_7, x34, j11_L2h, (Option.some.inj (show some _ = some _ from hFc23)), eL2h_0, eL2h_2, eL2h_4, rfl, eL2h_11, h_zA_data0_ret_4_7, (((hS.pull 2).pull 1).pull 2)⟩
        · replace hFc23 := it_f hc23 hFc23
          obtain ⟨x38, hx38, hFc23⟩ := ar_s hFc23
          obtain ⟨x41, hx41, hFc23⟩ := ar_s hFc23
          obtain ⟨x43, hx43, hFc23⟩ := ar_s hFc23
          obtain ⟨r6_11, hc6_11, hFc23⟩ := bd_s hFc23
          refine x_seq <| x_region <| p (yl_move eL2h_0) <| p (yl_move eL2h_2) <|
            p (yl_move eL2h_10) <| p (ysub rfl rfl hx38) <| p (yl_move eL2h_2) <| p (yl_move eL2h_11) <|
            p (yadd rfl rfl hx41) <| p (yl_move eL2h_10) <| p (ysub rfl rfl hx43) <| p (yl_move eL2h_10) <|
            p (yl_move eL2h_4) <|
            ?_
          have hcall := c_slices_swapRangeCmpFunc_int_2 hc6_11 h_data0_L2h h_cmp4_0_0 (((hS.pull 2).pull 2).pull 2)
          refine o_cc call_174 (args5 rfl rfl rfl rfl rfl) hcall ?_
          rintro e w' ⟨cs_zA_data0_ret_6_11, rfl, h_zA_data0_ret_6_11, hS⟩
          refine ⟨_, rfl, ?_⟩
          obtain ⟨x49, hx49, hFc23⟩ := ar_s hFc23
          refine x_done <| x_region <| p (yl_move eL2h_11) <| p (yl_move eL2h_10) <|
            p (ysub rfl rfl hx49) <| p (yl_assign rfl) <| x_done <|
            ?_
          exact x_inv ⟨cs_zA_data0_ret_6_11, r6_11, i10_L2h, x49, (Option.some.inj (show some _ = some _ from hFc23)), eL2h_0, eL2h_2, eL2h_4, eL2h_10, rfl, h_zA_data0_ret_6_11, (((hS.pull 2).pull 1).pull 2)⟩
      rintro E w ⟨cs_data0_c23, data0_c23, i10_c23, j11_c23, rfl, ec23_0, ec23_2, ec23_4, ec23_10, ec23_11, h_data0_c23, hS⟩
      refine x_blk <|
        ?_
      obtain rfl := Option.some.inj (show some _ = some _ from hFL2)
      exact x_inv ⟨kL2, Nat.lt_succ_self _, cs_data0_c23, data0_c23, i10_c23, j11_c23, hLL2, ec23_0, ec23_2, ec23_4, ec23_10, ec23_11, h_data0_c23, (((hS.pull 2).pull 2).pull 2)⟩
    · replace hFL2 := it_f hc20 hFL2
      refine x_exitTo _ rfl <|
        ?_
      obtain rfl := Option.some.inj (show some _ = some _ from hFL2)
      exact x_inv ⟨cs_data0_L2h, data0_L2h, i10_L2h, hLL2, eL2h_0, eL2h_2, eL2h_4, eL2h_10, h_data0_L2h, (((hS.pull 2).pull 2).pull 2)⟩
  rintro E w ⟨cs_data0_L2, data0_L2, i10_L2, rfl, eL2_0, eL2_2, eL2_4, eL2_10, h_data0_L2, hS⟩
  obtain ⟨x53, hx53, hF⟩ := ar_s hF
  obtain ⟨r8_7, hc8_7, hF⟩ := bd_s hF
  refine x_region <| p (yl_move eL2_0) <| p (yl_move eL2_2) <| p (yl_move eL2_10) <|
    p (ysub rfl rfl hx53) <| p (yl_move eL2_2) <| p (yl_move eL2_10) <| p (yl_move eL2_4) <|
    ?_
  have hcall := c_slices_swapRangeCmpFunc_int_2 hc8_7 h_data0_L2 h_cmp4_0_0 (((hS.pull 2).pull 2).pull 2)
  refine o_cc call_174 (args5 rfl rfl rfl rfl rfl) hcall ?_
  rintro e w' ⟨cs_zA_data0_ret_8_7, rfl, h_zA_data0_ret_8_7, hS⟩
  refine ⟨_, rfl, ?_⟩
  refine x_done <|
    ?_
  obtain rfl := Option.some.inj (show some _ = some _ from hF)
  exact x_fin ⟨_, rfl, cs_zA_data0_ret_8_7, rfl, h_zA_data0_ret_8_7, (((hS.pull 2).pull 2).pull 2)⟩
attribute [irreducible] P_slices_rotateCmpFunc_int_2


end Go.Proofs.Ytnooiajahmichaa.X
