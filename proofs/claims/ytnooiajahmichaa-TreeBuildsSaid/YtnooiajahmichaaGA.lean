/- Printed by gen.py: plain functions, and that the Go code computes them. -/
import Derived.Test.YtnooiajahmichaaYI
import Derived.Test.YtnooiajahmichaaXT
import Derived.Test.YtnooiajahmichaaGAp0
import Derived.Test.YtnooiajahmichaaGAp1
namespace Go.Proofs.Ytnooiajahmichaa.X
open Go Go.RowKit
set_option linter.unusedVariables false
set_option linter.unusedSimpArgs false

def P_slices_symMergeCmpFunc_int_2_L3 (data0 : List Int) (a1 : Int) (cmp4_0_0 : List T_floor_Point) : (Int × Int) → Option ((Int × Int) ⊕ Int) := fun (i10_L3h, j11_L3h) =>
  if i10_L3h < j11_L3h then
    ar (i10_L3h + j11_L3h) fun x36 =>
    lv (x36 % 18446744073709551616) fun x37 =>
    ck (0 ≤ (1 : Int)) <|
    lv (shr .u64 x37 1) fun x38 =>
    ar (x38) fun x39 =>
    ck (inb x39 data0.length) <|
    lv (gt data0 x39) fun x44 =>
    ck (inb a1 data0.length) <|
    lv (gt data0 a1) fun x48 =>
    bd (P_tree_inOrder_1 x44 x48 cmp4_0_0) fun r5_9 =>
    bd (
      if r5_9 < 0 then
        ar (x39 + 1) fun x52 =>
        some (x52, j11_L3h)
      else
        some (i10_L3h, x39)) fun (i10_c50, j11_c50) =>
    some (Sum.inl (i10_c50, j11_c50))
  else
    some (Sum.inr i10_L3h)
def P_slices_symMergeCmpFunc_int_2_L9 (i10_L3 : Int) : (List Int × Int) → Option ((List Int × Int) ⊕ List Int) := fun (data0_L9h, k13_L9h) =>
  ar (i10_L3 - 1) fun x57 =>
  if k13_L9h < x57 then
    ar (k13_L9h + 1) fun x65 =>
    ar (k13_L9h + 1) fun x68 =>
    ck (inb x68 data0_L9h.length) <|
    lv (gt data0_L9h x68) fun x70 =>
    ck (inb k13_L9h data0_L9h.length) <|
    lv (gt data0_L9h k13_L9h) fun x74 =>
    ck (inb k13_L9h data0_L9h.length) <|
    lv (stt data0_L9h k13_L9h x70) fun z11_15 =>
    ck (inb x65 z11_15.length) <|
    lv (stt z11_15 x65 x74) fun z11_17 =>
    ar (k13_L9h + 1) fun x60 =>
    some (Sum.inl (z11_17, x60))
  else
    some (Sum.inr data0_L9h)
def P_slices_symMergeCmpFunc_int_2_L15 (data0 : List Int) (m2 : Int) (cmp4_0_0 : List T_floor_Point) : (Int × Int) → Option ((Int × Int) ⊕ Int) := fun (i14_L15h, j15_L15h) =>
  if i14_L15h < j15_L15h then
    ar (i14_L15h + j15_L15h) fun x88 =>
    lv (x88 % 18446744073709551616) fun x89 =>
    ck (0 ≤ (1 : Int)) <|
    lv (shr .u64 x89 1) fun x90 =>
    ar (x90) fun x91 =>
    ck (inb m2 data0.length) <|
    lv (gt data0 m2) fun x96 =>
    ck (inb x91 data0.length) <|
    lv (gt data0 x91) fun x100 =>
    bd (P_tree_inOrder_1 x96 x100 cmp4_0_0) fun r17_9 =>
    bd (
      if (!(decide (r17_9 < 0))) = true then
        ar (x91 + 1) fun x105 =>
        some (x105, j15_L15h)
      else
        some (i14_L15h, x91)) fun (i14_c103, j15_c103) =>
    some (Sum.inl (i14_c103, j15_c103))
  else
    some (Sum.inr i14_L15h)
def P_slices_symMergeCmpFunc_int_2_L21 (i14_L15 : Int) : (List Int × Int) → Option ((List Int × Int) ⊕ List Int) := fun (data0_L21h, k17_L21h) =>
  if i14_L15 < k17_L21h then
    ar (k17_L21h - 1) fun x117 =>
    ar (k17_L21h - 1) fun x120 =>
    ck (inb x120 data0_L21h.length) <|
    lv (gt data0_L21h x120) fun x122 =>
    ck (inb k17_L21h data0_L21h.length) <|
    lv (gt data0_L21h k17_L21h) fun x126 =>
    ck (inb k17_L21h data0_L21h.length) <|
    lv (stt data0_L21h k17_L21h x122) fun z23_15 =>
    ck (inb x117 z23_15.length) <|
    lv (stt z23_15 x117 x126) fun z23_17 =>
    ar (k17_L21h - 1) fun x112 =>
    some (Sum.inl (z23_17, x112))
  else
    some (Sum.inr data0_L21h)
def P_slices_symMergeCmpFunc_int_2_L33 (data0 : List Int) (cmp4_0_0 : List T_floor_Point) (x148 : Int) : (Int × Int) → Option ((Int × Int) ⊕ Int) := fun (start20_L33h, r21_L33h) =>
  if start20_L33h < r21_L33h then
    ar (start20_L33h + r21_L33h) fun x154 =>
    lv (x154 % 18446744073709551616) fun x155 =>
    ck (0 ≤ (1 : Int)) <|
    lv (shr .u64 x155 1) fun x156 =>
    ar (x156) fun x157 =>
    ar (x148 - x157) fun x162 =>
    ck (inb x162 data0.length) <|
    lv (gt data0 x162) fun x164 =>
    ck (inb x157 data0.length) <|
    lv (gt data0 x157) fun x168 =>
    bd (P_tree_inOrder_1 x164 x168 cmp4_0_0) fun r35_11 =>
    bd (
      if (!(decide (r35_11 < 0))) = true then
        ar (x157 + 1) fun x173 =>
        some (x173, r21_L33h)
      else
        some (start20_L33h, x157)) fun (start20_c171, r21_c171) =>
    some (Sum.inl (start20_c171, r21_c171))
  else
    some (Sum.inr start20_L33h)
def P_slices_symMergeCmpFunc_int_2_B (rc_ : (List Int × Int × Int × Int × List T_floor_Point) → Option (List Int)) : (List Int × Int × Int × Int × List T_floor_Point) → Option (List Int) := fun (data0, a1, m2, b3, cmp4_0_0) =>
  ar (m2 - a1) fun x27 =>
  if x27 = 1 then
    bd (
      lp (P_slices_symMergeCmpFunc_int_2_L3 data0 a1 cmp4_0_0) fuel (m2, b3)) fun i10_L3 =>
    bd (
      lp (P_slices_symMergeCmpFunc_int_2_L9 i10_L3) fuel (data0, a1)) fun zA_data0_L9 =>
    some zA_data0_L9
  else
    ar (b3 - m2) fun x79 =>
    if x79 = 1 then
      bd (
        lp (P_slices_symMergeCmpFunc_int_2_L15 data0 m2 cmp4_0_0) fuel (a1, m2)) fun i14_L15 =>
      bd (
        lp (P_slices_symMergeCmpFunc_int_2_L21 i14_L15) fuel (data0, m2)) fun zA_data0_L21 =>
      some zA_data0_L21
    else
      ar (a1 + b3) fun x131 =>
      lv (x131 % 18446744073709551616) fun x132 =>
      ck (0 ≤ (1 : Int)) <|
      lv (shr .u64 x132 1) fun x133 =>
      ar (x133) fun x134 =>
      ar (x134 + m2) fun x137 =>
      bd (
        if x134 < m2 then
          ar (x137 - b3) fun x143 =>
          some (x143, x134)
        else
          some (a1, m2)) fun (start20_c140, r21_c140) =>
      ar (x137 - 1) fun x148 =>
      bd (
        lp (P_slices_symMergeCmpFunc_int_2_L33 data0 cmp4_0_0 x148) fuel (start20_c140, r21_c140)) fun start20_L33 =>
      ar (x137 - start20_L33) fun x177 =>
      lv ((decide (start20_L33 < m2)) && (decide (m2 < x177))) fun x185 =>
      bd (
        if x185 = true then
          bd (P_slices_rotateCmpFunc_int_2 data0 start20_L33 m2 x177 cmp4_0_0) fun r40_5 =>
          some r40_5
        else
          some data0) fun data0_c185 =>
      lv ((decide (a1 < start20_L33)) && (decide (start20_L33 < x134))) fun x199 =>
      bd (
        if x199 = true then
          bd (rc_ (data0_c185, a1, start20_L33, x134, cmp4_0_0)) fun r42_5 =>
          some r42_5
        else
          some data0_c185) fun data0_c199 =>
      lv ((decide (x134 < x177)) && (decide (x177 < b3))) fun x213 =>
      bd (
        if x213 = true then
          bd (rc_ (data0_c199, x134, x177, b3, cmp4_0_0)) fun r44_5 =>
          some r44_5
        else
          some data0_c199) fun zA_data0_c213 =>
      some zA_data0_c213
def P_slices_symMergeCmpFunc_int_2 (data0 : List Int) (a1 : Int) (m2 : Int) (b3 : Int) (cmp4_0_0 : List T_floor_Point) : Option (List Int) := rcf P_slices_symMergeCmpFunc_int_2_B fuel (data0, a1, m2, b3, cmp4_0_0)
set_option maxHeartbeats 4000000 in
set_option maxRecDepth 100000 in
theorem c_slices_symMergeCmpFunc_int_2_s (rc_ : (List Int × Int × Int × Int × List T_floor_Point) → Option (List Int)) (ih : ∀ {w0 w : World} {l : List Assn} {ρ : Heap} {A_data0 : Option Addr} {n_data0 : Nat} {c_data0 : Nat} {cs_data0 : List Value} {b_cmp4_0 : Nat} {A_cmp4_0_0 : Option Addr} {n_cmp4_0_0 : Nat} {c_cmp4_0_0 : Nat} {data0 : List Int} {a1 : Int} {m2 : Int} {b3 : Int} {cmp4_0_0 : List T_floor_Point} {r : List Int} (hF : rc_ (data0, a1, m2, b3, cmp4_0_0) = some r) (h_data0 : RepL (RpI .i64) ρ data0 cs_data0) (h_cmp4_0_0 : RdS R_floor_Point ρ A_cmp4_0_0 n_cmp4_0_0 c_cmp4_0_0 cmp4_0_0) (hS : St w0 w (vec 3 (RpI .i64).sz (.slice A_data0 n_data0 c_data0) n_data0 cs_data0 :: cells b_cmp4_0 87 [.slice A_cmp4_0_0 n_cmp4_0_0 c_cmp4_0_0] :: ro ρ :: l)),
    Calls Try.prog 172 #[.slice A_data0 n_data0 c_data0, .int .i64 a1, .int .i64 m2, .int .i64 b3, .func (.func 138) #[] #[.pointer (some ⟨b_cmp4_0, 0, none⟩)]] w fun e w' => ∃ (cs_zA_data0_ret : List Value), e = .returned (.tuple #[]) ∧ RepL (RpI .i64) ρ r cs_zA_data0_ret ∧ St w0 w' (cells b_cmp4_0 87 [.slice A_cmp4_0_0 n_cmp4_0_0 c_cmp4_0_0] :: vec 3 (RpI .i64).sz (.slice A_data0 n_data0 c_data0) n_data0 cs_zA_data0_ret :: ro ρ :: l)) {w0 w : World} {l : List Assn} {ρ : Heap} {A_data0 : Option Addr} {n_data0 : Nat} {c_data0 : Nat} {cs_data0 : List Value} {b_cmp4_0 : Nat} {A_cmp4_0_0 : Option Addr} {n_cmp4_0_0 : Nat} {c_cmp4_0_0 : Nat} {data0 : List Int} {a1 : Int} {m2 : Int} {b3 : Int} {cmp4_0_0 : List T_floor_Point} {r : List Int} (hF : P_slices_symMergeCmpFunc_int_2_B rc_ (data0, a1, m2, b3, cmp4_0_0) = some r) (h_data0 : RepL (RpI .i64) ρ data0 cs_data0) (h_cmp4_0_0 : RdS R_floor_Point ρ A_cmp4_0_0 n_cmp4_0_0 c_cmp4_0_0 cmp4_0_0) (hS : St w0 w (vec 3 (RpI .i64).sz (.slice A_data0 n_data0 c_data0) n_data0 cs_data0 :: cells b_cmp4_0 87 [.slice A_cmp4_0_0 n_cmp4_0_0 c_cmp4_0_0] :: ro ρ :: l)) :
    Calls Try.prog 172 #[.slice A_data0 n_data0 c_data0, .int .i64 a1, .int .i64 m2, .int .i64 b3, .func (.func 138) #[] #[.pointer (some ⟨b_cmp4_0, 0, none⟩)]] w fun e w' => ∃ (cs_zA_data0_ret : List Value), e = .returned (.tuple #[]) ∧ RepL (RpI .i64) ρ r cs_zA_data0_ret ∧ St w0 w' (cells b_cmp4_0 87 [.slice A_cmp4_0_0 n_cmp4_0_0 c_cmp4_0_0] :: vec 3 (RpI .i64).sz (.slice A_data0 n_data0 c_data0) n_data0 cs_zA_data0_ret :: ro ρ :: l) := by
  unfold P_slices_symMergeCmpFunc_int_2_B at hF; dsimp only at hF
  obtain rfl := St.vec_n hS h_data0
  obtain rfl := h_cmp4_0_0.n
  refine enterC Try.func172 rfl 220 rfl (by simp) ?_
  obtain ⟨x27, hx27, hF⟩ := ar_s hF
  refine x_seq <| x_seq <| x_region <| p (yl_move rfl) <|
    p (yl_move rfl) <| p (ysub rfl rfl hx27) <| p (yl_eql rfl rfl) <| x_done <|
    x_cond_p (x27 = 1) rfl (fun hc28 => ?_) (fun hc28 => ?_)
  · replace hF := it_t hc28 hF
    refine x_seq <| x_region <| p (yl_move rfl) <| p (yl_assign rfl) <|
      x_done <| x_seq <| x_region <| p (yl_move rfl) <|
      p (yl_assign rfl) <| x_done <| x_seq <|
      ?_
    obtain ⟨oL3, hLL3, hF⟩ := bd_s hF
    refine x_join (fun E w => ∃ (i10_L3 : Int), i10_L3 = oL3 ∧ E 0 = .slice A_data0 data0.length c_data0 ∧ E 1 = .int .i64 a1 ∧ E 10 = .int .i64 i10_L3 ∧ St w0 w (vec 3 (RpI .i64).sz (.slice A_data0 data0.length c_data0) data0.length cs_data0 :: cells b_cmp4_0 87 [.slice A_cmp4_0_0 cmp4_0_0.length c_cmp4_0_0] :: ro ρ :: l)) ?_ ?_
    · skip -- L3
      refine x_block ?_
      refine x_loop (fun k_ E w => ∃ (i10_L3h : Int) (j11_L3h : Int), lp (P_slices_symMergeCmpFunc_int_2_L3 data0 a1 cmp4_0_0) k_ (i10_L3h, j11_L3h) = some oL3 ∧ E 0 = .slice A_data0 data0.length c_data0 ∧ E 1 = .int .i64 a1 ∧ E 4 = .func (.func 138) #[] #[.pointer (some ⟨b_cmp4_0, 0, none⟩)] ∧ E 10 = .int .i64 i10_L3h ∧ E 11 = .int .i64 j11_L3h ∧ St w0 w (vec 3 (RpI .i64).sz (.slice A_data0 data0.length c_data0) data0.length cs_data0 :: cells b_cmp4_0 87 [.slice A_cmp4_0_0 cmp4_0_0.length c_cmp4_0_0] :: ro ρ :: l)) fuel ⟨m2, b3, hLL3, rfl, rfl, rfl, rfl, rfl, (((hS.pull 2).pull 2).pull 2)⟩ ?_
      rintro kL3 E w ⟨i10_L3h, j11_L3h, hLL3, eL3h_0, eL3h_1, eL3h_4, eL3h_10, eL3h_11, hS⟩
      obtain ⟨kL3, obL3, rfl, hFL3, hLL3⟩ := lp_s hLL3
      refine x_seq <| x_seq <| x_region <| p (yl_move eL3h_10) <|
        p (yl_move eL3h_11) <| p (yl_lss rfl rfl) <| x_done <|
        x_cond_p (i10_L3h < j11_L3h) rfl (fun hc33 => ?_) (fun hc33 => ?_)
      · replace hFL3 := it_t hc33 hFL3
        obtain ⟨x36, hx36, hFL3⟩ := ar_s hFL3
        obtain ⟨x37, hx37, hFL3⟩ := lv_s hFL3
        obtain ⟨hk4_4, hFL3⟩ := ck_s hFL3
        obtain ⟨x38, hx38, hFL3⟩ := lv_s hFL3
        obtain ⟨x39, hx39, hFL3⟩ := ar_s hFL3
        obtain ⟨hk5_3, hFL3⟩ := ck_s hFL3
        obtain ⟨x44, hx44, hFL3⟩ := lv_s hFL3
        obtain ⟨hk5_7, hFL3⟩ := ck_s hFL3
        obtain ⟨x48, hx48, hFL3⟩ := lv_s hFL3
        refine x_skip <| x_block <| x_seq <| x_region <|
          p (yl_move eL3h_10) <| p (yl_move eL3h_11) <| p (yadd rfl rfl hx36) <| p (yconvu wm_u64 uk_3 ik_222 rfl hx37) <|
          p (yshr rfl rfl hk4_4 hx38) <| p (yconvi uk_222 ik_3 rfl hx39) <| p (yl_assign rfl) <| x_done <|
          x_seq <| x_head 9 mixed (by kernel_rfl) hS _ _ rfl rfl <| q (yl_move eL3h_4) <| q (yl_move eL3h_0) <|
          q (yl_move rfl) <| q (yix_o sl_22 rfl rfl hS h_data0 hk5_3) <| qa (fun w' hS => at_load one_3 rfl (RepL.getW h_data0 hS hk5_3 hx44)) <| q (yl_move eL3h_0) <|
          q (yl_move eL3h_1) <| q (yix_o sl_22 rfl rfl hS h_data0 hk5_7) <| qa (fun w' hS => at_load one_3 rfl (RepL.getW h_data0 hS hk5_7 hx48)) <|
          q_done fun w' hS => ?_
        obtain ⟨r5_9, hc5_9, hFL3⟩ := bd_s hFL3
        have hcall := c_tree_inOrder_1 hc5_9 h_cmp4_0_0 ((hS.pull 2).pull 2)
        refine o_ccv rfl call_138 (capargs (args2 rfl rfl)) ((Calls.mono hcall (fun e w'' h => And.intro h.1 (((h.2.pull 1).pull 1).pull 2)))) ?_
        rintro e w' ⟨rfl, hS⟩
        refine ⟨_, rfl, ?_⟩
        refine p (yl_lss rfl rfl) <| x_done <|
          ?_
        obtain ⟨oc50, hFc50, hFL3⟩ := bd_s hFL3
        refine x_join (fun E w => ∃ (i10_c50 : Int) (j11_c50 : Int), (i10_c50, j11_c50) = oc50 ∧ E 0 = .slice A_data0 data0.length c_data0 ∧ E 1 = .int .i64 a1 ∧ E 4 = .func (.func 138) #[] #[.pointer (some ⟨b_cmp4_0, 0, none⟩)] ∧ E 10 = .int .i64 i10_c50 ∧ E 11 = .int .i64 j11_c50 ∧ St w0 w (vec 3 (RpI .i64).sz (.slice A_data0 data0.length c_data0) data0.length cs_data0 :: cells b_cmp4_0 87 [.slice A_cmp4_0_0 cmp4_0_0.length c_cmp4_0_0] :: ro ρ :: l)) ?_ ?_
        · skip -- c50
          refine x_cond_p (r5_9 < 0) rfl (fun hc50 => ?_) (fun hc50 => ?_)
          · replace hFc50 := it_t hc50 hFc50
            obtain ⟨x52, hx52, hFc50⟩ := ar_s hFc50
            refine x_region <| p (yl_move rfl) <| p (yadd rfl rfl hx52) <| p (yl_assign rfl) <|
              x_done <|
              ?_
            exact x_inv ⟨x52, j11_L3h, (Option.some.inj (show some _ = some _ from hFc50)), eL3h_0, eL3h_1, eL3h_4, rfl, eL3h_11, (((hS.pull 2).pull 2).pull 2)⟩
          · replace hFc50 := it_f hc50 hFc50
            refine x_region <| p (yl_move rfl) <| p (yl_assign rfl) <| x_done <|
              ?_
            exact x_inv ⟨i10_L3h, x39, (Option.some.inj (show some _ = some _ from hFc50)), eL3h_0, eL3h_1, eL3h_4, eL3h_10, rfl, (((hS.pull 2).pull 2).pull 2)⟩
        rintro E w ⟨i10_c50, j11_c50, rfl, ec50_0, ec50_1, ec50_4, ec50_10, ec50_11, hS⟩
        refine x_blk <|
          ?_
        obtain rfl := Option.some.inj (show some _ = some _ from hFL3)
        exact x_inv ⟨kL3, Nat.lt_succ_self _, i10_c50, j11_c50, hLL3, ec50_0, ec50_1, ec50_4, ec50_10, ec50_11, (((hS.pull 2).pull 2).pull 2)⟩
      · replace hFL3 := it_f hc33 hFL3
        refine x_exitTo _ rfl <|
          ?_
        obtain rfl := Option.some.inj (show some _ = some _ from hFL3)
        exact x_inv ⟨i10_L3h, hLL3, eL3h_0, eL3h_1, eL3h_10, (((hS.pull 2).pull 2).pull 2)⟩
    rintro E w ⟨i10_L3, rfl, eL3_0, eL3_1, eL3_10, hS⟩
    refine x_seq <| x_seq <| x_region <| p (yl_move eL3_1) <|
      p (yl_assign rfl) <| x_done <|
      ?_
    obtain ⟨oL9, hLL9, hF⟩ := bd_s hF
    refine x_join (fun E w => ∃ (cs_zA_data0_L9 : List Value) (zA_data0_L9 : List Int), zA_data0_L9 = oL9 ∧ RepL (RpI .i64) ρ zA_data0_L9 cs_zA_data0_L9 ∧ St w0 w (cells b_cmp4_0 87 [.slice A_cmp4_0_0 cmp4_0_0.length c_cmp4_0_0] :: vec 3 (RpI .i64).sz (.slice A_data0 data0.length c_data0) data0.length cs_zA_data0_L9 :: ro ρ :: l)) ?_ ?_
    · skip -- L9
      refine x_block ?_
      refine x_loop (fun k_ E w => ∃ (cs_data0_L9h : List Value) (data0_L9h : List Int) (k13_L9h : Int), lp (P_slices_symMergeCmpFunc_int_2_L9 i10_L3) k_ (data0_L9h, k13_L9h) = some oL9 ∧ E 0 = .slice A_data0 data0.length c_data0 ∧ E 10 = .int .i64 i10_L3 ∧ E 13 = .int .i64 k13_L9h ∧ RepL (RpI .i64) ρ data0_L9h cs_data0_L9h ∧ St w0 w (vec 3 (RpI .i64).sz (.slice A_data0 data0.length c_data0) data0.length cs_data0_L9h :: cells b_cmp4_0 87 [.slice A_cmp4_0_0 cmp4_0_0.length c_cmp4_0_0] :: ro ρ :: l)) fuel ⟨cs_data0, data0, a1, hLL9, eL3_0, eL3_10, rfl, h_data0, (((hS.pull 2).pull 2).pull 2)⟩ ?_
      rintro kL9 E w ⟨cs_data0_L9h, data0_L9h, k13_L9h, hLL9, eL9h_0, eL9h_10, eL9h_13, h_data0_L9h, hS⟩
      obtain ⟨kL9, obL9, rfl, hFL9, hLL9⟩ := lp_s hLL9
      unfold P_slices_symMergeCmpFunc_int_2_L9 at hFL9
      obtain ⟨x57, hx57, hFL9⟩ := ar_s hFL9
      refine x_seq <| x_seq <| x_region <| p (yl_move eL9h_13) <|
        p (yl_move eL9h_10) <| p (ysub rfl rfl hx57) <| p (yl_lss rfl rfl) <| x_done <|
        x_cond_p (k13_L9h < x57) rfl (fun hc58 => ?_) (fun hc58 => ?_)
      · replace hFL9 := it_t hc58 hFL9
        refine x_skip <| x_seq <| x_block <|
          ?_
        obtain ⟨x65, hx65, hFL9⟩ := ar_s hFL9
        obtain ⟨x68, hx68, hFL9⟩ := ar_s hFL9
        obtain ⟨hk11_8, hFL9⟩ := ck_s hFL9
        obtain ⟨x70, hx70, hFL9⟩ := lv_s hFL9
        obtain ⟨hk11_12, hFL9⟩ := ck_s hFL9
        obtain ⟨x74, hx74, hFL9⟩ := lv_s hFL9
        obtain ⟨hk11_14, hFL9⟩ := ck_s hFL9
        obtain ⟨z11_15, hz11_15, hFL9⟩ := lv_s hFL9
        obtain ⟨hk11_16, hFL9⟩ := ck_s hFL9
        obtain ⟨z11_17, hz11_17, hFL9⟩ := lv_s hFL9
        refine x_par (w0 := w0) [⟨[], [], [61], [], [], []⟩, ⟨[], [], [62], [], [], []⟩, ⟨[], [], [63], [], [], []⟩, ⟨[], [], [64], [], [], []⟩, ⟨[3], [3], [65], [], [], []⟩, ⟨[], [], [66], [], [], []⟩, ⟨[], [], [67], [], [], []⟩, ⟨[6], [6], [68], [], [], []⟩, ⟨[5, 6, 7], [5, 7], [69], [0], [], []⟩, ⟨[5, 6, 7, 8], [8], [70], [0], [], []⟩, ⟨[], [], [71], [], [], []⟩, ⟨[], [], [72], [], [], []⟩, ⟨[10, 11], [10, 11], [73], [0], [], []⟩, ⟨[10, 11, 12], [12], [74], [0], [], []⟩, ⟨[0, 1, 5, 6, 7, 8, 9, 10, 11, 12, 13], [0, 1], [75], [0], [], []⟩, ⟨[0, 1, 5, 6, 7, 8, 9, 10, 11, 12, 13, 14], [9, 14], [], [], [0], [1]⟩, ⟨[0, 1, 2, 3, 4, 5, 6, 7, 8, 9, 10, 11, 12, 13, 14, 15], [2, 4], [76], [2, 1], [], []⟩, ⟨[0, 1, 2, 3, 4, 5, 6, 7, 8, 9, 10, 11, 12, 13, 14, 15, 16], [13, 16], [], [2], [1], [3]⟩] [⟨none, (some 15), []⟩, ⟨(some 15), (some 17), []⟩, ⟨none, none, []⟩, ⟨(some 17), none, []⟩] [61, 62, 63, 64, 65, 66, 67, 68, 69, 70, 71, 72, 73, 74, 75, 76] [0, 2] [2, 3] [0, 1, 2, 3, 4, 5, 6, 7, 8, 9, 10, 11, 12, 13, 14, 16] [fun Ep11 => Ep11 61 = .slice A_data0 data0.length c_data0, fun Ep11 => Ep11 62 = .int .i64 k13_L9h, fun Ep11 => Ep11 63 = .slice A_data0 data0.length c_data0, fun Ep11 => Ep11 64 = .int .i64 k13_L9h, fun Ep11 => Ep11 65 = .int .i64 x65, fun Ep11 => Ep11 66 = .slice A_data0 data0.length c_data0, fun Ep11 => Ep11 67 = .int .i64 k13_L9h, fun Ep11 => Ep11 68 = .int .i64 x68, fun Ep11 => Ep11 69 = .pointer (some ((adr A_data0).add (x68.toNat * (RpI .i64).sz))), fun Ep11 => Ep11 70 = .int .i64 x70, fun Ep11 => Ep11 71 = .slice A_data0 data0.length c_data0, fun Ep11 => Ep11 72 = .int .i64 k13_L9h, fun Ep11 => Ep11 73 = .pointer (some ((adr A_data0).add (k13_L9h.toNat * (RpI .i64).sz))), fun Ep11 => Ep11 74 = .int .i64 x74, fun Ep11 => Ep11 75 = .pointer (some ((adr A_data0).add (k13_L9h.toNat * (RpI .i64).sz))), fun Ep11 => True, fun Ep11 => Ep11 76 = .pointer (some ((adr A_data0).add (x65.toNat * (RpI .i64).sz))), fun Ep11 => True] [fun Ep11 => vec 3 (RpI .i64).sz (.slice A_data0 data0.length c_data0) data0.length cs_data0_L9h, fun Ep11 => bunA (fun (cs11_15 : List Value) => RepL (RpI .i64) ρ z11_15 cs11_15) (fun (cs11_15 : List Value) => [vec 3 (RpI .i64).sz (.slice A_data0 data0.length c_data0) data0.length cs11_15]), fun Ep11 => ro ρ, fun Ep11 => bunA (fun (cs11_17 : List Value) => RepL (RpI .i64) ρ z11_17 cs11_17) (fun (cs11_17 : List Value) => [vec 3 (RpI .i64).sz (.slice A_data0 data0.length c_data0) data0.length cs11_17])] mixed (by kernel_rfl) ((hS.pull 2).pull 1) ?_ ?_
        · refine ⟨?_, ?_, ?_, ?_, ?_, ?_, ?_, ?_, ?_, ?_, ?_, ?_, ?_, ?_, ?_, ?_, ?_, ?_, trivial⟩
          · intro Ep11 w l' hE11 hO11 hF_ hS
            refine p (yl_move ((hE11 0 rfl).trans eL9h_0)) <| x_done <|
              ?_
            refine x_fin ⟨⟨_, rfl⟩, rfl, ?_⟩
            exact Eq.mp (by kernel_rfl) hS
          · intro Ep11 w l' hE11 hO11 hF_ hS
            refine p (yl_move ((hE11 13 rfl).trans eL9h_13)) <| x_done <|
              ?_
            refine x_fin ⟨⟨_, rfl⟩, rfl, ?_⟩
            exact Eq.mp (by kernel_rfl) hS
          · intro Ep11 w l' hE11 hO11 hF_ hS
            refine p (yl_move ((hE11 0 rfl).trans eL9h_0)) <| x_done <|
              ?_
            refine x_fin ⟨⟨_, rfl⟩, rfl, ?_⟩
            exact Eq.mp (by kernel_rfl) hS
          · intro Ep11 w l' hE11 hO11 hF_ hS
            refine p (yl_move ((hE11 13 rfl).trans eL9h_13)) <| x_done <|
              ?_
            refine x_fin ⟨⟨_, rfl⟩, rfl, ?_⟩
            exact Eq.mp (by kernel_rfl) hS
          · intro Ep11 w l' hE11 hO11 hF_ hS
            obtain ⟨f11_3, -⟩ := hF_
            replace f11_3 : Ep11 64 = .int .i64 k13_L9h := Eq.mp (by kernel_rfl) f11_3
            refine p (yadd f11_3 rfl hx65) <| x_done <|
              ?_
            refine x_fin ⟨⟨_, rfl⟩, rfl, ?_⟩
            exact Eq.mp (by kernel_rfl) hS
          · intro Ep11 w l' hE11 hO11 hF_ hS
            refine p (yl_move ((hE11 0 rfl).trans eL9h_0)) <| x_done <|
              ?_
            refine x_fin ⟨⟨_, rfl⟩, rfl, ?_⟩
            exact Eq.mp (by kernel_rfl) hS
          · intro Ep11 w l' hE11 hO11 hF_ hS
            refine p (yl_move ((hE11 13 rfl).trans eL9h_13)) <| x_done <|
              ?_
            refine x_fin ⟨⟨_, rfl⟩, rfl, ?_⟩
            exact Eq.mp (by kernel_rfl) hS
          · intro Ep11 w l' hE11 hO11 hF_ hS
            obtain ⟨f11_6, -⟩ := hF_
            replace f11_6 : Ep11 67 = .int .i64 k13_L9h := Eq.mp (by kernel_rfl) f11_6
            refine p (yadd f11_6 rfl hx68) <| x_done <|
              ?_
            refine x_fin ⟨⟨_, rfl⟩, rfl, ?_⟩
            exact Eq.mp (by kernel_rfl) hS
          · intro Ep11 w l' hE11 hO11 hF_ hS
            obtain ⟨f11_5, f11_7, -⟩ := hF_
            replace f11_5 : Ep11 66 = .slice A_data0 data0.length c_data0 := Eq.mp (by kernel_rfl) f11_5
            replace f11_7 : Ep11 68 = .int .i64 x68 := Eq.mp (by kernel_rfl) f11_7
            replace hS : St w0 w (vec 3 (RpI .i64).sz (.slice A_data0 data0.length c_data0) data0.length cs_data0_L9h :: l') := Eq.mp (by kernel_rfl) hS
            refine p (yix_o sl_22 f11_5 f11_7 hS h_data0_L9h hk11_8) <| x_done <|
              ?_
            refine x_fin ⟨⟨_, rfl⟩, rfl, ?_⟩
            exact Eq.mp (by kernel_rfl) hS
          · intro Ep11 w l' hE11 hO11 hF_ hS
            obtain ⟨f11_8, -⟩ := hF_
            replace f11_8 : Ep11 69 = .pointer (some ((adr A_data0).add (x68.toNat * (RpI .i64).sz))) := Eq.mp (by kernel_rfl) f11_8
            replace hS : St w0 w (vec 3 (RpI .i64).sz (.slice A_data0 data0.length c_data0) data0.length cs_data0_L9h :: l') := Eq.mp (by kernel_rfl) hS
            refine pa (at_load one_3 f11_8 (RepL.getW h_data0_L9h hS hk11_8 hx70)) <| x_done <|
              ?_
            refine x_fin ⟨⟨_, rfl⟩, rfl, ?_⟩
            exact Eq.mp (by kernel_rfl) hS
          · intro Ep11 w l' hE11 hO11 hF_ hS
            refine p (yl_move ((hE11 0 rfl).trans eL9h_0)) <| x_done <|
              ?_
            refine x_fin ⟨⟨_, rfl⟩, rfl, ?_⟩
            exact Eq.mp (by kernel_rfl) hS
          · intro Ep11 w l' hE11 hO11 hF_ hS
            refine p (yl_move ((hE11 13 rfl).trans eL9h_13)) <| x_done <|
              ?_
            refine x_fin ⟨⟨_, rfl⟩, rfl, ?_⟩
            exact Eq.mp (by kernel_rfl) hS
          · intro Ep11 w l' hE11 hO11 hF_ hS
            obtain ⟨f11_10, f11_11, -⟩ := hF_
            replace f11_10 : Ep11 71 = .slice A_data0 data0.length c_data0 := Eq.mp (by kernel_rfl) f11_10
            replace f11_11 : Ep11 72 = .int .i64 k13_L9h := Eq.mp (by kernel_rfl) f11_11
            replace hS : St w0 w (vec 3 (RpI .i64).sz (.slice A_data0 data0.length c_data0) data0.length cs_data0_L9h :: l') := Eq.mp (by kernel_rfl) hS
            refine p (yix_o sl_22 f11_10 f11_11 hS h_data0_L9h hk11_12) <| x_done <|
              ?_
            refine x_fin ⟨⟨_, rfl⟩, rfl, ?_⟩
            exact Eq.mp (by kernel_rfl) hS
          · intro Ep11 w l' hE11 hO11 hF_ hS
            obtain ⟨f11_12, -⟩ := hF_
            replace f11_12 : Ep11 73 = .pointer (some ((adr A_data0).add (k13_L9h.toNat * (RpI .i64).sz))) := Eq.mp (by kernel_rfl) f11_12
            replace hS : St w0 w (vec 3 (RpI .i64).sz (.slice A_data0 data0.length c_data0) data0.length cs_data0_L9h :: l') := Eq.mp (by kernel_rfl) hS
            refine pa (at_load one_3 f11_12 (RepL.getW h_data0_L9h hS hk11_12 hx74)) <| x_done <|
              ?_
            refine x_fin ⟨⟨_, rfl⟩, rfl, ?_⟩
            exact Eq.mp (by kernel_rfl) hS
          · intro Ep11 w l' hE11 hO11 hF_ hS
            obtain ⟨f11_0, f11_1, -⟩ := hF_
            replace f11_0 : Ep11 61 = .slice A_data0 data0.length c_data0 := Eq.mp (by kernel_rfl) f11_0
            replace f11_1 : Ep11 62 = .int .i64 k13_L9h := Eq.mp (by kernel_rfl) f11_1
            replace hS : St w0 w (vec 3 (RpI .i64).sz (.slice A_data0 data0.length c_data0) data0.length cs_data0_L9h :: l') := Eq.mp (by kernel_rfl) hS
            refine p (yix_o sl_22 f11_0 f11_1 hS h_data0_L9h hk11_14) <| x_done <|
              ?_
            refine x_fin ⟨⟨_, rfl⟩, rfl, ?_⟩
            exact Eq.mp (by kernel_rfl) hS
          · intro Ep11 w l' hE11 hO11 hF_ hS
            obtain ⟨f11_9, f11_14, -⟩ := hF_
            replace f11_9 : Ep11 70 = .int .i64 x70 := Eq.mp (by kernel_rfl) f11_9
            replace f11_14 : Ep11 75 = .pointer (some ((adr A_data0).add (k13_L9h.toNat * (RpI .i64).sz))) := Eq.mp (by kernel_rfl) f11_14
            replace hS : St w0 w (vec 3 (RpI .i64).sz (.slice A_data0 data0.length c_data0) data0.length cs_data0_L9h :: l') := Eq.mp (by kernel_rfl) hS
            refine o_put' (news := [.int .i64 x70]) sz_3 f11_14 f11_9 rfl rfl (o := 0) rfl hk11_14 rfl hS h_data0_L9h (Le.refl _) (fun c hc => ok_all hc (show (RpI .i64).ok ρ [.int .i64 x70] x70 from rfl)) hz11_15 (fun cs11_15 w' hr11_15 hS => ?_)
            refine x_done <|
              ?_
            refine x_fin ⟨⟨undef, rfl⟩, trivial, ?_⟩
            replace hS := St.bun (Φ := (fun (cs11_15 : List Value) => RepL (RpI .i64) ρ z11_15 cs11_15)) (L := (fun (cs11_15 : List Value) => [vec 3 (RpI .i64).sz (.slice A_data0 data0.length c_data0) data0.length cs11_15])) cs11_15 hr11_15 hS
            exact Eq.mp (by kernel_rfl) hS
          · intro Ep11 w l' hE11 hO11 hF_ hS
            obtain ⟨f11_2, f11_4, -⟩ := hF_
            replace f11_2 : Ep11 63 = .slice A_data0 data0.length c_data0 := Eq.mp (by kernel_rfl) f11_2
            replace f11_4 : Ep11 65 = .int .i64 x65 := Eq.mp (by kernel_rfl) f11_4
            replace hS : St w0 w (ro ρ :: bunA (fun (cs11_15 : List Value) => RepL (RpI .i64) ρ z11_15 cs11_15) (fun (cs11_15 : List Value) => [vec 3 (RpI .i64).sz (.slice A_data0 data0.length c_data0) data0.length cs11_15]) :: l') := Eq.mp (by kernel_rfl) hS
            obtain ⟨cs11_15, hr11_15, hS⟩ := St.unbun (hS.pull 1)
            refine p (yix_o sl_22 f11_2 f11_4 hS hr11_15 hk11_16) <| x_done <|
              ?_
            refine x_fin ⟨⟨_, rfl⟩, rfl, ?_⟩
            replace hS := St.bun (Φ := (fun (cs11_15 : List Value) => RepL (RpI .i64) ρ z11_15 cs11_15)) (L := (fun (cs11_15 : List Value) => [vec 3 (RpI .i64).sz (.slice A_data0 data0.length c_data0) data0.length cs11_15])) cs11_15 hr11_15 hS
            exact Eq.mp (by kernel_rfl) (hS.pull 1)
          · intro Ep11 w l' hE11 hO11 hF_ hS
            obtain ⟨f11_13, f11_16, -⟩ := hF_
            replace f11_13 : Ep11 74 = .int .i64 x74 := Eq.mp (by kernel_rfl) f11_13
            replace f11_16 : Ep11 76 = .pointer (some ((adr A_data0).add (x65.toNat * (RpI .i64).sz))) := Eq.mp (by kernel_rfl) f11_16
            replace hS : St w0 w (ro ρ :: bunA (fun (cs11_15 : List Value) => RepL (RpI .i64) ρ z11_15 cs11_15) (fun (cs11_15 : List Value) => [vec 3 (RpI .i64).sz (.slice A_data0 data0.length c_data0) data0.length cs11_15]) :: l') := Eq.mp (by kernel_rfl) hS
            obtain ⟨cs11_15, hr11_15, hS⟩ := St.unbun (hS.pull 1)
            refine o_put' (news := [.int .i64 x74]) sz_3 f11_16 f11_13 rfl rfl (o := 0) rfl hk11_16 rfl hS hr11_15 (Le.refl _) (fun c hc => ok_all hc (show (RpI .i64).ok ρ [.int .i64 x74] x74 from rfl)) hz11_17 (fun cs11_17 w' hr11_17 hS => ?_)
            refine x_done <|
              ?_
            refine x_fin ⟨⟨undef, rfl⟩, trivial, ?_⟩
            replace hS := St.bun (Φ := (fun (cs11_17 : List Value) => RepL (RpI .i64) ρ z11_17 cs11_17)) (L := (fun (cs11_17 : List Value) => [vec 3 (RpI .i64).sz (.slice A_data0 data0.length c_data0) data0.length cs11_17])) cs11_17 hr11_17 hS
            exact Eq.mp (by kernel_rfl) (hS.pull 1)
        intro Ep11 w' hE11 hF_ hS
        obtain ⟨f11_0, f11_1, f11_2, f11_3, f11_4, f11_5, f11_6, f11_7, f11_8, f11_9, f11_10, f11_11, f11_12, f11_13, f11_14, f11_16, -⟩ := hF_
        replace f11_0 : Ep11 61 = .slice A_data0 data0.length c_data0 := Eq.mp (by kernel_rfl) f11_0
        replace f11_1 : Ep11 62 = .int .i64 k13_L9h := Eq.mp (by kernel_rfl) f11_1
        replace f11_2 : Ep11 63 = .slice A_data0 data0.length c_data0 := Eq.mp (by kernel_rfl) f11_2
        replace f11_3 : Ep11 64 = .int .i64 k13_L9h := Eq.mp (by kernel_rfl) f11_3
        replace f11_4 : Ep11 65 = .int .i64 x65 := Eq.mp (by kernel_rfl) f11_4
        replace f11_5 : Ep11 66 = .slice A_data0 data0.length c_data0 := Eq.mp (by kernel_rfl) f11_5
        replace f11_6 : Ep11 67 = .int .i64 k13_L9h := Eq.mp (by kernel_rfl) f11_6
        replace f11_7 : Ep11 68 = .int .i64 x68 := Eq.mp (by kernel_rfl) f11_7
        replace f11_8 : Ep11 69 = .pointer (some ((adr A_data0).add (x68.toNat * (RpI .i64).sz))) := Eq.mp (by kernel_rfl) f11_8
        replace f11_9 : Ep11 70 = .int .i64 x70 := Eq.mp (by kernel_rfl) f11_9
        replace f11_10 : Ep11 71 = .slice A_data0 data0.length c_data0 := Eq.mp (by kernel_rfl) f11_10
        replace f11_11 : Ep11 72 = .int .i64 k13_L9h := Eq.mp (by kernel_rfl) f11_11
        replace f11_12 : Ep11 73 = .pointer (some ((adr A_data0).add (k13_L9h.toNat * (RpI .i64).sz))) := Eq.mp (by kernel_rfl) f11_12
        replace f11_13 : Ep11 74 = .int .i64 x74 := Eq.mp (by kernel_rfl) f11_13
        replace f11_14 : Ep11 75 = .pointer (some ((adr A_data0).add (k13_L9h.toNat * (RpI .i64).sz))) := Eq.mp (by kernel_rfl) f11_14
        replace f11_16 : Ep11 76 = .pointer (some ((adr A_data0).add (x65.toNat * (RpI .i64).sz))) := Eq.mp (by kernel_rfl) f11_16
        replace hS : St w0 w' (ro ρ :: bunA (fun (cs11_17 : List Value) => RepL (RpI .i64) ρ z11_17 cs11_17) (fun (cs11_17 : List Value) => [vec 3 (RpI .i64).sz (.slice A_data0 data0.length c_data0) data0.length cs11_17]) :: (cells b_cmp4_0 87 [.slice A_cmp4_0_0 cmp4_0_0.length c_cmp4_0_0] :: l)) := Eq.mp (by kernel_rfl) hS
        obtain ⟨cs11_17, hr11_17, hS⟩ := St.unbun (hS.pull 1)
        obtain ⟨x60, hx60, hFL9⟩ := ar_s hFL9
        refine x_blk <| x_region <| p (yl_move ((hE11 13 rfl).trans eL9h_13)) <| p (yadd rfl rfl hx60) <|
          p (yl_assign rfl) <| x_done <|
          ?_
        obtain rfl := Option.some.inj (show some _ = some _ from hFL9)
        exact x_inv ⟨kL9, Nat.lt_succ_self _, cs11_17, z11_17, x60, hLL9, ((hE11 0 rfl).trans eL9h_0), ((hE11 10 rfl).trans eL9h_10), rfl, hr11_17, (((hS.pull 1).pull 2).pull 2)⟩
      · replace hFL9 := it_f hc58 hFL9
        refine x_exitTo _ rfl <|
          ?_
        obtain rfl := Option.some.inj (show some _ = some _ from hFL9)
        exact x_inv ⟨cs_data0_L9h, data0_L9h, hLL9, h_data0_L9h, (((hS.pull 2).pull 1).pull 2)⟩
    rintro E w ⟨cs_zA_data0_L9, zA_data0_L9, rfl, h_zA_data0_L9, hS⟩
    obtain rfl := Option.some.inj (show some _ = some _ from hF)
    exact x_return ⟨_, rfl, cs_zA_data0_L9, rfl, h_zA_data0_L9, (((hS.pull 2).pull 2).pull 2)⟩
  · replace hF := it_f hc28 hF
    obtain ⟨x79, hx79, hF⟩ := ar_s hF
    refine x_skip <| x_seq <| x_seq <| x_region <|
      p (yl_move rfl) <| p (yl_move rfl) <| p (ysub rfl rfl hx79) <| p (yl_eql rfl rfl) <|
      x_done <|
      x_cond_p (x79 = 1) rfl (fun hc80 => ?_) (fun hc80 => ?_)
    · replace hF := it_t hc80 hF
      refine x_seq <| x_region <| p (yl_move rfl) <| p (yl_assign rfl) <|
        x_done <| x_seq <| x_region <| p (yl_move rfl) <|
        p (yl_assign rfl) <| x_done <| x_seq <|
        ?_
      obtain ⟨oL15, hLL15, hF⟩ := bd_s hF
      refine x_join (fun E w => ∃ (i14_L15 : Int), i14_L15 = oL15 ∧ E 0 = .slice A_data0 data0.length c_data0 ∧ E 2 = .int .i64 m2 ∧ E 14 = .int .i64 i14_L15 ∧ St w0 w (vec 3 (RpI .i64).sz (.slice A_data0 data0.length c_data0) data0.length cs_data0 :: cells b_cmp4_0 87 [.slice A_cmp4_0_0 cmp4_0_0.length c_cmp4_0_0] :: ro ρ :: l)) ?_ ?_
      · skip -- L15
        refine x_block ?_
        refine x_loop (fun k_ E w => ∃ (i14_L15h : Int) (j15_L15h : Int), lp (P_slices_symMergeCmpFunc_int_2_L15 data0 m2 cmp4_0_0) k_ (i14_L15h, j15_L15h) = some oL15 ∧ E 0 = .slice A_data0 data0.length c_data0 ∧ E 2 = .int .i64 m2 ∧ E 4 = .func (.func 138) #[] #[.pointer (some ⟨b_cmp4_0, 0, none⟩)] ∧ E 14 = .int .i64 i14_L15h ∧ E 15 = .int .i64 j15_L15h ∧ St w0 w (vec 3 (RpI .i64).sz (.slice A_data0 data0.length c_data0) data0.length cs_data0 :: cells b_cmp4_0 87 [.slice A_cmp4_0_0 cmp4_0_0.length c_cmp4_0_0] :: ro ρ :: l)) fuel ⟨a1, m2, hLL15, rfl, rfl, rfl, rfl, rfl, (((hS.pull 2).pull 2).pull 2)⟩ ?_
        rintro kL15 E w ⟨i14_L15h, j15_L15h, hLL15, eL15h_0, eL15h_2, eL15h_4, eL15h_14, eL15h_15, hS⟩
        obtain ⟨kL15, obL15, rfl, hFL15, hLL15⟩ := lp_s hLL15
        refine x_seq <| x_seq <| x_region <| p (yl_move eL15h_14) <|
          p (yl_move eL15h_15) <| p (yl_lss rfl rfl) <| x_done <|
          x_cond_p (i14_L15h < j15_L15h) rfl (fun hc85 => ?_) (fun hc85 => ?_)
        · replace hFL15 := it_t hc85 hFL15
          obtain ⟨x88, hx88, hFL15⟩ := ar_s hFL15
          obtain ⟨x89, hx89, hFL15⟩ := lv_s hFL15
          obtain ⟨hk16_4, hFL15⟩ := ck_s hFL15
          obtain ⟨x90, hx90, hFL15⟩ := lv_s hFL15
          obtain ⟨x91, hx91, hFL15⟩ := ar_s hFL15
          obtain ⟨hk17_3, hFL15⟩ := ck_s hFL15
          obtain ⟨x96, hx96, hFL15⟩ := lv_s hFL15
          obtain ⟨hk17_7, hFL15⟩ := ck_s hFL15
          obtain ⟨x100, hx100, hFL15⟩ := lv_s hFL15
          refine x_skip <| x_block <| x_seq <| x_region <|
            p (yl_move eL15h_14) <| p (yl_move eL15h_15) <| p (yadd rfl rfl hx88) <| p (yconvu wm_u64 uk_3 ik_222 rfl hx89) <|
            p (yshr rfl rfl hk16_4 hx90) <| p (yconvi uk_222 ik_3 rfl hx91) <| p (yl_assign rfl) <| x_done <|
            x_seq <| x_head 9 mixed (by kernel_rfl) hS _ _ rfl rfl <| q (yl_move eL15h_4) <| q (yl_move eL15h_0) <|
            q (yl_move eL15h_2) <| q (yix_o sl_22 rfl rfl hS h_data0 hk17_3) <| qa (fun w' hS => at_load one_3 rfl (RepL.getW h_data0 hS hk17_3 hx96)) <| q (yl_move eL15h_0) <|
            q (yl_move rfl) <| q (yix_o sl_22 rfl rfl hS h_data0 hk17_7) <| qa (fun w' hS => at_load one_3 rfl (RepL.getW h_data0 hS hk17_7 hx100)) <|
            q_done fun w' hS => ?_
          obtain ⟨r17_9, hc17_9, hFL15⟩ := bd_s hFL15
          have hcall := c_tree_inOrder_1 hc17_9 h_cmp4_0_0 ((hS.pull 2).pull 2)
          refine o_ccv rfl call_138 (capargs (args2 rfl rfl)) ((Calls.mono hcall (fun e w'' h => And.intro h.1 (((h.2.pull 1).pull 1).pull 2)))) ?_
          rintro e w' ⟨rfl, hS⟩
          refine ⟨_, rfl, ?_⟩
          refine p (yl_lss rfl rfl) <| p (yl_not rfl) <| x_done <|
            ?_
          obtain ⟨oc103, hFc103, hFL15⟩ := bd_s hFL15
          refine x_join (fun E w => ∃ (i14_c103 : Int) (j15_c103 : Int), (i14_c103, j15_c103) = oc103 ∧ E 0 = .slice A_data0 data0.length c_data0 ∧ E 2 = .int .i64 m2 ∧ E 4 = .func (.func 138) #[] #[.pointer (some ⟨b_cmp4_0, 0, none⟩)] ∧ E 14 = .int .i64 i14_c103 ∧ E 15 = .int .i64 j15_c103 ∧ St w0 w (vec 3 (RpI .i64).sz (.slice A_data0 data0.length c_data0) data0.length cs_data0 :: cells b_cmp4_0 87 [.slice A_cmp4_0_0 cmp4_0_0.length c_cmp4_0_0] :: ro ρ :: l)) ?_ ?_
          · skip -- c103
            refine x_cond (t := !(decide (r17_9 < 0))) rfl (fun hc103 => ?_) (fun hc103 => ?_)
            · replace hFc103 := it_t hc103 hFc103
              obtain ⟨x105, hx105, hFc103⟩ := ar_s hFc103
              refine x_region <| p (yl_move rfl) <| p (yadd rfl rfl hx105) <| p (yl_assign rfl) <|
                x_done <|
                ?_
              exact x_inv ⟨x105, j15_L15h, (Option.some.inj (show some _ = some _ from hFc103)), eL15h_0, eL15h_2, eL15h_4, rfl, eL15h_15, (((hS.pull 2).pull 2).pull 2)⟩
            · replace hFc103 := it_bf hc103 hFc103
              refine x_region <| p (yl_move rfl) <| p (yl_assign rfl) <| x_done <|
                ?_
              exact x_inv ⟨i14_L15h, x91, (Option.some.inj (show some _ = some _ from hFc103)), eL15h_0, eL15h_2, eL15h_4, eL15h_14, rfl, (((hS.pull 2).pull 2).pull 2)⟩
          rintro E w ⟨i14_c103, j15_c103, rfl, ec103_0, ec103_2, ec103_4, ec103_14, ec103_15, hS⟩
          refine x_blk <|
            ?_
          obtain rfl := Option.some.inj (show some _ = some _ from hFL15)
          exact x_inv ⟨kL15, Nat.lt_succ_self _, i14_c103, j15_c103, hLL15, ec103_0, ec103_2, ec103_4, ec103_14, ec103_15, (((hS.pull 2).pull 2).pull 2)⟩
        · replace hFL15 := it_f hc85 hFL15
          refine x_exitTo _ rfl <|
            ?_
          obtain rfl := Option.some.inj (show some _ = some _ from hFL15)
          exact x_inv ⟨i14_L15h, hLL15, eL15h_0, eL15h_2, eL15h_14, (((hS.pull 2).pull 2).pull 2)⟩
      rintro E w ⟨i14_L15, rfl, eL15_0, eL15_2, eL15_14, hS⟩
      refine x_seq <| x_seq <| x_region <| p (yl_move eL15_2) <|
        p (yl_assign rfl) <| x_done <|
        ?_
      obtain ⟨oL21, hLL21, hF⟩ := bd_s hF
      refine x_join (fun E w => ∃ (cs_zA_data0_L21 : List Value) (zA_data0_L21 : List Int), zA_data0_L21 = oL21 ∧ RepL (RpI .i64) ρ zA_data0_L21 cs_zA_data0_L21 ∧ St w0 w (cells b_cmp4_0 87 [.slice A_cmp4_0_0 cmp4_0_0.length c_cmp4_0_0] :: vec 3 (RpI .i64).sz (.slice A_data0 data0.length c_data0) data0.length cs_zA_data0_L21 :: ro ρ :: l)) ?_ ?_
      · skip -- L21
        refine x_block ?_
        refine x_loop (fun k_ E w => ∃ (cs_data0_L21h : List Value) (data0_L21h : List Int) (k17_L21h : Int), lp (P_slices_symMergeCmpFunc_int_2_L21 i14_L15) k_ (data0_L21h, k17_L21h) = some oL21 ∧ E 0 = .slice A_data0 data0.length c_data0 ∧ E 14 = .int .i64 i14_L15 ∧ E 17 = .int .i64 k17_L21h ∧ RepL (RpI .i64) ρ data0_L21h cs_data0_L21h ∧ St w0 w (vec 3 (RpI .i64).sz (.slice A_data0 data0.length c_data0) data0.length cs_data0_L21h :: cells b_cmp4_0 87 [.slice A_cmp4_0_0 cmp4_0_0.length c_cmp4_0_0] :: ro ρ :: l)) fuel ⟨cs_data0, data0, m2, hLL21, eL15_0, eL15_14, rfl, h_data0, (((hS.pull 2).pull 2).pull 2)⟩ ?_
        rintro kL21 E w ⟨cs_data0_L21h, data0_L21h, k17_L21h, hLL21, eL21h_0, eL21h_14, eL21h_17, h_data0_L21h, hS⟩
        obtain ⟨kL21, obL21, rfl, hFL21, hLL21⟩ := lp_s hLL21
        refine x_seq <| x_seq <| x_region <| p (yl_move eL21h_17) <|
          p (yl_move eL21h_14) <| p (yl_gtr rfl rfl) <| x_done <|
          x_cond_p (i14_L15 < k17_L21h) rfl (fun hc110 => ?_) (fun hc110 => ?_)
        · replace hFL21 := it_t hc110 hFL21
          refine x_skip <| x_seq <| x_block <|
            ?_
          obtain ⟨x117, hx117, hFL21⟩ := ar_s hFL21
          obtain ⟨x120, hx120, hFL21⟩ := ar_s hFL21
          obtain ⟨hk23_8, hFL21⟩ := ck_s hFL21
          obtain ⟨x122, hx122, hFL21⟩ := lv_s hFL21
          obtain ⟨hk23_12, hFL21⟩ := ck_s hFL21
          obtain ⟨x126, hx126, hFL21⟩ := lv_s hFL21
          obtain ⟨hk23_14, hFL21⟩ := ck_s hFL21
          obtain ⟨z23_15, hz23_15, hFL21⟩ := lv_s hFL21
          obtain ⟨hk23_16, hFL21⟩ := ck_s hFL21
          obtain ⟨z23_17, hz23_17, hFL21⟩ := lv_s hFL21
          refine x_par (w0 := w0) [⟨[], [], [113], [], [], []⟩, ⟨[], [], [114], [], [], []⟩, ⟨[], [], [115], [], [], []⟩, ⟨[], [], [116], [], [], []⟩, ⟨[3], [3], [117], [], [], []⟩, ⟨[], [], [118], [], [], []⟩, ⟨[], [], [119], [], [], []⟩, ⟨[6], [6], [120], [], [], []⟩, ⟨[5, 6, 7], [5, 7], [121], [0], [], []⟩, ⟨[5, 6, 7, 8], [8], [122], [0], [], []⟩, ⟨[], [], [123], [], [], []⟩, ⟨[], [], [124], [], [], []⟩, ⟨[10, 11], [10, 11], [125], [0], [], []⟩, ⟨[10, 11, 12], [12], [126], [0], [], []⟩, ⟨[0, 1, 5, 6, 7, 8, 9, 10, 11, 12, 13], [0, 1], [127], [0], [], []⟩, ⟨[0, 1, 5, 6, 7, 8, 9, 10, 11, 12, 13, 14], [9, 14], [], [], [0], [1]⟩, ⟨[0, 1, 2, 3, 4, 5, 6, 7, 8, 9, 10, 11, 12, 13, 14, 15], [2, 4], [128], [2, 1], [], []⟩, ⟨[0, 1, 2, 3, 4, 5, 6, 7, 8, 9, 10, 11, 12, 13, 14, 15, 16], [13, 16], [], [2], [1], [3]⟩] [⟨none, (some 15), []⟩, ⟨(some 15), (some 17), []⟩, ⟨none, none, []⟩, ⟨(some 17), none, []⟩] [113, 114, 115, 116, 117, 118, 119, 120, 121, 122, 123, 124, 125, 126, 127, 128] [0, 2] [2, 3] [0, 1, 2, 3, 4, 5, 6, 7, 8, 9, 10, 11, 12, 13, 14, 16] [fun Ep23 => Ep23 113 = .slice A_data0 data0.length c_data0, fun Ep23 => Ep23 114 = .int .i64 k17_L21h, fun Ep23 => Ep23 115 = .slice A_data0 data0.length c_data0, fun Ep23 => Ep23 116 = .int .i64 k17_L21h, fun Ep23 => Ep23 117 = .int .i64 x117, fun Ep23 => Ep23 118 = .slice A_data0 data0.length c_data0, fun Ep23 => Ep23 119 = .int .i64 k17_L21h, fun Ep23 => Ep23 120 = .int .i64 x120, fun Ep23 => Ep23 121 = .pointer (some ((adr A_data0).add (x120.toNat * (RpI .i64).sz))), fun Ep23 => Ep23 122 = .int .i64 x122, fun Ep23 => Ep23 123 = .slice A_data0 data0.length c_data0, fun Ep23 => Ep23 124 = .int .i64 k17_L21h, fun Ep23 => Ep23 125 = .pointer (some ((adr A_data0).add (k17_L21h.toNat * (RpI .i64).sz))), fun Ep23 => Ep23 126 = .int .i64 x126, fun Ep23 => Ep23 127 = .pointer (some ((adr A_data0).add (k17_L21h.toNat * (RpI .i64).sz))), fun Ep23 => True, fun Ep23 => Ep23 128 = .pointer (some ((adr A_data0).add (x117.toNat * (RpI .i64).sz))), fun Ep23 => True] [fun Ep23 => vec 3 (RpI .i64).sz (.slice A_data0 data0.length c_data0) data0.length cs_data0_L21h, fun Ep23 => bunA (fun (cs23_15 : List Value) => RepL (RpI .i64) ρ z23_15 cs23_15) (fun (cs23_15 : List Value) => [vec 3 (RpI .i64).sz (.slice A_data0 data0.length c_data0) data0.length cs23_15]), fun Ep23 => ro ρ, fun Ep23 => bunA (fun (cs23_17 : List Value) => RepL (RpI .i64) ρ z23_17 cs23_17) (fun (cs23_17 : List Value) => [vec 3 (RpI .i64).sz (.slice A_data0 data0.length c_data0) data0.length cs23_17])] mixed (by kernel_rfl) ((hS.pull 2).pull 1) ?_ ?_
          · refine ⟨?_, ?_, ?_, ?_, ?_, ?_, ?_, ?_, ?_, ?_, ?_, ?_, ?_, ?_, ?_, ?_, ?_, ?_, trivial⟩
            · intro Ep23 w l' hE23 hO23 hF_ hS
              refine p (yl_move ((hE23 0 rfl).trans eL21h_0)) <| x_done <|
                ?_
              refine x_fin ⟨⟨_, rfl⟩, rfl, ?_⟩
              exact Eq.mp (by kernel_rfl) hS
            · intro Ep23 w l' hE23 hO23 hF_ hS
              refine p (yl_move ((hE23 17 rfl).trans eL21h_17)) <| x_done <|
                ?_
              refine x_fin ⟨⟨_, rfl⟩, rfl, ?_⟩
              exact Eq.mp (by kernel_rfl) hS
            · intro Ep23 w l' hE23 hO23 hF_ hS
              refine p (yl_move ((hE23 0 rfl).trans eL21h_0)) <| x_done <|
                ?_
              refine x_fin ⟨⟨_, rfl⟩, rfl, ?_⟩
              exact Eq.mp (by kernel_rfl) hS
            · intro Ep23 w l' hE23 hO23 hF_ hS
              refine p (yl_move ((hE23 17 rfl).trans eL21h_17)) <| x_done <|
                ?_
              refine x_fin ⟨⟨_, rfl⟩, rfl, ?_⟩
              exact Eq.mp (by kernel_rfl) hS
            · intro Ep23 w l' hE23 hO23 hF_ hS
              obtain ⟨f23_3, -⟩ := hF_
              replace f23_3 : Ep23 116 = .int .i64 k17_L21h := Eq.mp (by kernel_rfl) f23_3
              refine p (ysub f23_3 rfl hx117) <| x_done <|
                ?_
              refine x_fin ⟨⟨_, rfl⟩, rfl, ?_⟩
              exact Eq.mp (by kernel_rfl) hS
            · intro Ep23 w l' hE23 hO23 hF_ hS
              refine p (yl_move ((hE23 0 rfl).trans eL21h_0)) <| x_done <|
                ?_
              refine x_fin ⟨⟨_, rfl⟩, rfl, ?_⟩
              exact Eq.mp (by kernel_rfl) hS
            · intro Ep23 w l' hE23 hO23 hF_ hS
              refine p (yl_move ((hE23 17 rfl).trans eL21h_17)) <| x_done <|
                ?_
              refine x_fin ⟨⟨_, rfl⟩, rfl, ?_⟩
              exact Eq.mp (by kernel_rfl) hS
            · intro Ep23 w l' hE23 hO23 hF_ hS
              obtain ⟨f23_6, -⟩ := hF_
              replace f23_6 : Ep23 119 = .int .i64 k17_L21h := Eq.mp (by kernel_rfl) f23_6
              refine p (ysub f23_6 rfl hx120) <| x_done <|
                ?_
              refine x_fin ⟨⟨_, rfl⟩, rfl, ?_⟩
              exact Eq.mp (by kernel_rfl) hS
            · intro Ep23 w l' hE23 hO23 hF_ hS
              obtain ⟨f23_5, f23_7, -⟩ := hF_
              replace f23_5 : Ep23 118 = .slice A_data0 data0.length c_data0 := Eq.mp (by kernel_rfl) f23_5
              replace f23_7 : Ep23 120 = .int .i64 x120 := Eq.mp (by kernel_rfl) f23_7
              replace hS : St w0 w (vec 3 (RpI .i64).sz (.slice A_data0 data0.length c_data0) data0.length cs_data0_L21h :: l') := Eq.mp (by kernel_rfl) hS
              refine p (yix_o sl_22 f23_5 f23_7 hS h_data0_L21h hk23_8) <| x_done <|
                ?_
              refine x_fin ⟨⟨_, rfl⟩, rfl, ?_⟩
              exact Eq.mp (by kernel_rfl) hS
            · intro Ep23 w l' hE23 hO23 hF_ hS
              obtain ⟨f23_8, -⟩ := hF_
              replace f23_8 : Ep23 121 = .pointer (some ((adr A_data0).add (x120.toNat * (RpI .i64).sz))) := Eq.mp (by kernel_rfl) f23_8
              replace hS : St w0 w (vec 3 (RpI .i64).sz (.slice A_data0 data0.length c_data0) data0.length cs_data0_L21h :: l') := Eq.mp (by kernel_rfl) hS
              refine pa (at_load one_3 f23_8 (RepL.getW h_data0_L21h hS hk23_8 hx122)) <| x_done <|
                ?_
              refine x_fin ⟨⟨_, rfl⟩, rfl, ?_⟩
              exact Eq.mp (by kernel_rfl) hS
            · intro Ep23 w l' hE23 hO23 hF_ hS
              refine p (yl_move ((hE23 0 rfl).trans eL21h_0)) <| x_done <|
                ?_
              refine x_fin ⟨⟨_, rfl⟩, rfl, ?_⟩
              exact Eq.mp (by kernel_rfl) hS
            · intro Ep23 w l' hE23 hO23 hF_ hS
              refine p (yl_move ((hE23 17 rfl).trans eL21h_17)) <| x_done <|
                ?_
              refine x_fin ⟨⟨_, rfl⟩, rfl, ?_⟩
              exact Eq.mp (by kernel_rfl) hS
            · intro Ep23 w l' hE23 hO23 hF_ hS
              obtain ⟨f23_10, f23_11, -⟩ := hF_
              replace f23_10 : Ep23 123 = .slice A_data0 data0.length c_data0 := Eq.mp (by kernel_rfl) f23_10
              replace f23_11 : Ep23 124 = .int .i64 k17_L21h := Eq.mp (by kernel_rfl) f23_11
              replace hS : St w0 w (vec 3 (RpI .i64).sz (.slice A_data0 data0.length c_data0) data0.length cs_data0_L21h :: l') := Eq.mp (by kernel_rfl) hS
              refine p (yix_o sl_22 f23_10 f23_11 hS h_data0_L21h hk23_12) <| x_done <|
                ?_
              refine x_fin ⟨⟨_, rfl⟩, rfl, ?_⟩
              exact Eq.mp (by kernel_rfl) hS
            · intro Ep23 w l' hE23 hO23 hF_ hS
              obtain ⟨f23_12, -⟩ := hF_
              replace f23_12 : Ep23 125 = .pointer (some ((adr A_data0).add (k17_L21h.toNat * (RpI .i64).sz))) := Eq.mp (by kernel_rfl) f23_12
              replace hS : St w0 w (vec 3 (RpI .i64).sz (.slice A_data0 data0.length c_data0) data0.length cs_data0_L21h :: l') := Eq.mp (by kernel_rfl) hS
              refine pa (at_load one_3 f23_12 (RepL.getW h_data0_L21h hS hk23_12 hx126)) <| x_done <|
                ?_
              refine x_fin ⟨⟨_, rfl⟩, rfl, ?_⟩
              exact Eq.mp (by kernel_rfl) hS
            · intro Ep23 w l' hE23 hO23 hF_ hS
              obtain ⟨f23_0, f23_1, -⟩ := hF_
              replace f23_0 : Ep23 113 = .slice A_data0 data0.length c_data0 := Eq.mp (by kernel_rfl) f23_0
              replace f23_1 : Ep23 114 = .int .i64 k17_L21h := Eq.mp (by kernel_rfl) f23_1
              replace hS : St w0 w (vec 3 (RpI .i64).sz (.slice A_data0 data0.length c_data0) data0.length cs_data0_L21h :: l') := Eq.mp (by kernel_rfl) hS
              refine p (yix_o sl_22 f23_0 f23_1 hS h_data0_L21h hk23_14) <| x_done <|
                ?_
              refine x_fin ⟨⟨_, rfl⟩, rfl, ?_⟩
              exact Eq.mp (by kernel_rfl) hS
            · intro Ep23 w l' hE23 hO23 hF_ hS
              obtain ⟨f23_9, f23_14, -⟩ := hF_
              replace f23_9 : Ep23 122 = .int .i64 x122 := Eq.mp (by kernel_rfl) f23_9
              replace f23_14 : Ep23 127 = .pointer (some ((adr A_data0).add (k17_L21h.toNat * (RpI .i64).sz))) := Eq.mp (by kernel_rfl) f23_14
              replace hS : St w0 w (vec 3 (RpI .i64).sz (.slice A_data0 data0.length c_data0) data0.length cs_data0_L21h :: l') := Eq.mp (by kernel_rfl) hS
              refine o_put' (news := [.int .i64 x122]) sz_3 f23_14 f23_9 rfl rfl (o := 0) rfl hk23_14 rfl hS h_data0_L21h (Le.refl _) (fun c hc => ok_all hc (show (RpI .i64).ok ρ [.int .i64 x122] x122 from rfl)) hz23_15 (fun cs23_15 w' hr23_15 hS => ?_)
              refine x_done <|
                ?_
              refine x_fin ⟨⟨undef, rfl⟩, trivial, ?_⟩
              replace hS := St.bun (Φ := (fun (cs23_15 : List Value) => RepL (RpI .i64) ρ z23_15 cs23_15)) (L := (fun (cs23_15 : List Value) => [vec 3 (RpI .i64).sz (.slice A_data0 data0.length c_data0) data0.length cs23_15])) cs23_15 hr23_15 hS
              exact Eq.mp (by kernel_rfl) hS
            · intro Ep23 w l' hE23 hO23 hF_ hS
              obtain ⟨f23_2, f23_4, -⟩ := hF_
              replace f23_2 : Ep23 115 = .slice A_data0 data0.length c_data0 := Eq.mp (by kernel_rfl) f23_2
              replace f23_4 : Ep23 117 = .int .i64 x117 := Eq.mp (by kernel_rfl) f23_4
              replace hS : St w0 w (ro ρ :: bunA (fun (cs23_15 : List Value) => RepL (RpI .i64) ρ z23_15 cs23_15) (fun (cs23_15 : List Value) => [vec 3 (RpI .i64).sz (.slice A_data0 data0.length c_data0) data0.length cs23_15]) :: l') := Eq.mp (by kernel_rfl) hS
              obtain ⟨cs23_15, hr23_15, hS⟩ := St.unbun (hS.pull 1)
              refine p (yix_o sl_22 f23_2 f23_4 hS hr23_15 hk23_16) <| x_done <|
                ?_
              refine x_fin ⟨⟨_, rfl⟩, rfl, ?_⟩
              replace hS := St.bun (Φ := (fun (cs23_15 : List Value) => RepL (RpI .i64) ρ z23_15 cs23_15)) (L := (fun (cs23_15 : List Value) => [vec 3 (RpI .i64).sz (.slice A_data0 data0.length c_data0) data0.length cs23_15])) cs23_15 hr23_15 hS
              exact Eq.mp (by kernel_rfl) (hS.pull 1)
            · intro Ep23 w l' hE23 hO23 hF_ hS
              obtain ⟨f23_13, f23_16, -⟩ := hF_
              replace f23_13 : Ep23 126 = .int .i64 x126 := Eq.mp (by kernel_rfl) f23_13
              replace f23_16 : Ep23 128 = .pointer (some ((adr A_data0).add (x117.toNat * (RpI .i64).sz))) := Eq.mp (by kernel_rfl) f23_16
              replace hS : St w0 w (ro ρ :: bunA (fun (cs23_15 : List Value) => RepL (RpI .i64) ρ z23_15 cs23_15) (fun (cs23_15 : List Value) => [vec 3 (RpI .i64).sz (.slice A_data0 data0.length c_data0) data0.length cs23_15]) :: l') := Eq.mp (by kernel_rfl) hS
              obtain ⟨cs23_15, hr23_15, hS⟩ := St.unbun (hS.pull 1)
              refine o_put' (news := [.int .i64 x126]) sz_3 f23_16 f23_13 rfl rfl (o := 0) rfl hk23_16 rfl hS hr23_15 (Le.refl _) (fun c hc => ok_all hc (show (RpI .i64).ok ρ [.int .i64 x126] x126 from rfl)) hz23_17 (fun cs23_17 w' hr23_17 hS => ?_)
              refine x_done <|
                ?_
              refine x_fin ⟨⟨undef, rfl⟩, trivial, ?_⟩
              replace hS := St.bun (Φ := (fun (cs23_17 : List Value) => RepL (RpI .i64) ρ z23_17 cs23_17)) (L := (fun (cs23_17 : List Value) => [vec 3 (RpI .i64).sz (.slice A_data0 data0.length c_data0) data0.length cs23_17])) cs23_17 hr23_17 hS
              exact Eq.mp (by kernel_rfl) (hS.pull 1)
          intro Ep23 w' hE23 hF_ hS
          obtain ⟨f23_0, f23_1, f23_2, f23_3, f23_4, f23_5, f23_6, f23_7, f23_8, f23_9, f23_10, f23_11, f23_12, f23_13, f23_14, f23_16, -⟩ := hF_
          replace f23_0 : Ep23 113 = .slice A_data0 data0.length c_data0 := Eq.mp (by kernel_rfl) f23_0
          replace f23_1 : Ep23 114 = .int .i64 k17_L21h := Eq.mp (by kernel_rfl) f23_1
          replace f23_2 : Ep23 115 = .slice A_data0 data0.length c_data0 := Eq.mp (by kernel_rfl) f23_2
          replace f23_3 : Ep23 116 = .int .i64 k17_L21h := Eq.mp (by kernel_rfl) f23_3
          replace f23_4 : Ep23 117 = .int .i64 x117 := Eq.mp (by kernel_rfl) f23_4
          replace f23_5 : Ep23 118 = .slice A_data0 data0.length c_data0 := Eq.mp (by kernel_rfl) f23_5
          replace f23_6 : Ep23 119 = .int .i64 k17_L21h := Eq.mp (by kernel_rfl) f23_6
          replace f23_7 : Ep23 120 = .int .i64 x120 := Eq.mp (by kernel_rfl) f23_7
          replace f23_8 : Ep23 121 = .pointer (some ((adr A_data0).add (x120.toNat * (RpI .i64).sz))) := Eq.mp (by kernel_rfl) f23_8
          replace f23_9 : Ep23 122 = .int .i64 x122 := Eq.mp (by kernel_rfl) f23_9
          replace f23_10 : Ep23 123 = .slice A_data0 data0.length c_data0 := Eq.mp (by kernel_rfl) f23_10
          replace f23_11 : Ep23 124 = .int .i64 k17_L21h := Eq.mp (by kernel_rfl) f23_11
          replace f23_12 : Ep23 125 = .pointer (some ((adr A_data0).add (k17_L21h.toNat * (RpI .i64).sz))) := Eq.mp (by kernel_rfl) f23_12
          replace f23_13 : Ep23 126 = .int .i64 x126 := Eq.mp (by kernel_rfl) f23_13
          replace f23_14 : Ep23 127 = .pointer (some ((adr A_data0).add (k17_L21h.toNat * (RpI .i64).sz))) := Eq.mp (by kernel_rfl) f23_14
          replace f23_16 : Ep23 128 = .pointer (some ((adr A_data0).add (x117.toNat * (RpI .i64).sz))) := Eq.mp (by kernel_rfl) f23_16
          replace hS : St w0 w' (ro ρ :: bunA (fun (cs23_17 : List Value) => RepL (RpI .i64) ρ z23_17 cs23_17) (fun (cs23_17 : List Value) => [vec 3 (RpI .i64).sz (.slice A_data0 data0.length c_data0) data0.length cs23_17]) :: (cells b_cmp4_0 87 [.slice A_cmp4_0_0 cmp4_0_0.length c_cmp4_0_0] :: l)) := Eq.mp (by kernel_rfl) hS
          obtain ⟨cs23_17, hr23_17, hS⟩ := St.unbun (hS.pull 1)
          obtain ⟨x112, hx112, hFL21⟩ := ar_s hFL21
          refine x_blk <| x_region <| p (yl_move ((hE23 17 rfl).trans eL21h_17)) <| p (ysub rfl rfl hx112) <|
            p (yl_assign rfl) <| x_done <|
            ?_
          obtain rfl := Option.some.inj (show some _ = some _ from hFL21)
          exact x_inv ⟨kL21, Nat.lt_succ_self _, cs23_17, z23_17, x112, hLL21, ((hE23 0 rfl).trans eL21h_0), ((hE23 14 rfl).trans eL21h_14), rfl, hr23_17, (((hS.pull 1).pull 2).pull 2)⟩
        · replace hFL21 := it_f hc110 hFL21
          refine x_exitTo _ rfl <|
            ?_
          obtain rfl := Option.some.inj (show some _ = some _ from hFL21)
          exact x_inv ⟨cs_data0_L21h, data0_L21h, hLL21, h_data0_L21h, (((hS.pull 2).pull 1).pull 2)⟩
      rintro E w ⟨cs_zA_data0_L21, zA_data0_L21, rfl, h_zA_data0_L21, hS⟩
      obtain rfl := Option.some.inj (show some _ = some _ from hF)
      exact x_return ⟨_, rfl, cs_zA_data0_L21, rfl, h_zA_data0_L21, (((hS.pull 2).pull 2).pull 2)⟩
    · replace hF := it_f hc80 hF
      obtain ⟨x131, hx131, hF⟩ := ar_s hF
      obtain ⟨x132, hx132, hF⟩ := lv_s hF
      obtain ⟨hk24_4, hF⟩ := ck_s hF
      obtain ⟨x133, hx133, hF⟩ := lv_s hF
      obtain ⟨x134, hx134, hF⟩ := ar_s hF
      obtain ⟨x137, hx137, hF⟩ := ar_s hF
      refine x_skip <| x_seq <| x_region <| p (yl_move rfl) <|
        p (yl_move rfl) <| p (yadd rfl rfl hx131) <| p (yconvu wm_u64 uk_3 ik_222 rfl hx132) <| p (yshr rfl rfl hk24_4 hx133) <|
        p (yconvi uk_222 ik_3 rfl hx134) <| p (yl_assign rfl) <| x_done <| x_seq <|
        x_region <| p (yl_move rfl) <| p (yl_move rfl) <| p (yadd rfl rfl hx137) <|
        p (yl_assign rfl) <| x_done <| x_seq <| x_region <|
        p (yl_assign rfl) <| p (yl_assign rfl) <| x_done <| x_seq <|
        x_seq <| x_region <| p (yl_move rfl) <| p (yl_move rfl) <|
        p (yl_gtr rfl rfl) <| x_done <|
        ?_
      obtain ⟨oc140, hFc140, hF⟩ := bd_s hF
      refine x_join (fun E w => ∃ (start20_c140 : Int) (r21_c140 : Int), (start20_c140, r21_c140) = oc140 ∧ E 0 = .slice A_data0 data0.length c_data0 ∧ E 1 = .int .i64 a1 ∧ E 2 = .int .i64 m2 ∧ E 3 = .int .i64 b3 ∧ E 4 = .func (.func 138) #[] #[.pointer (some ⟨b_cmp4_0, 0, none⟩)] ∧ E 18 = .int .i64 x134 ∧ E 19 = .int .i64 x137 ∧ E 20 = .int .i64 start20_c140 ∧ E 21 = .int .i64 r21_c140 ∧ St w0 w (vec 3 (RpI .i64).sz (.slice A_data0 data0.length c_data0) data0.length cs_data0 :: cells b_cmp4_0 87 [.slice A_cmp4_0_0 cmp4_0_0.length c_cmp4_0_0] :: ro ρ :: l)) ?_ ?_
      · skip -- c140
        refine x_cond_p (x134 < m2) rfl (fun hc140 => ?_) (fun hc140 => ?_)
        · replace hFc140 := it_t hc140 hFc140
          obtain ⟨x143, hx143, hFc140⟩ := ar_s hFc140
          refine x_seq <| x_region <| p (yl_move rfl) <| p (yl_move rfl) <|
            p (ysub rfl rfl hx143) <| p (yl_assign rfl) <| x_done <| x_region <|
            p (yl_move rfl) <| p (yl_assign rfl) <| x_done <|
            ?_
          exact x_inv ⟨x143, x134, (Option.some.inj (show some _ = some _ from hFc140)), rfl, rfl, rfl, rfl, rfl, rfl, rfl, rfl, rfl, (((hS.pull 2).pull 2).pull 2)⟩
        · replace hFc140 := it_f hc140 hFc140
          refine x_seq <| x_region <| p (yl_move rfl) <| p (yl_assign rfl) <|
            x_done <| x_region <| p (yl_move rfl) <| p (yl_assign rfl) <|
            x_done <|
            ?_
          exact x_inv ⟨a1, m2, (Option.some.inj (show some _ = some _ from hFc140)), rfl, rfl, rfl, rfl, rfl, rfl, rfl, rfl, rfl, (((hS.pull 2).pull 2).pull 2)⟩
      rintro E w ⟨start20_c140, r21_c140, rfl, ec140_0, ec140_1, ec140_2, ec140_3, ec140_4, ec140_18, ec140_19, ec140_20, ec140_21, hS⟩
      obtain ⟨x148, hx148, hF⟩ := ar_s hF
      refine x_seq <| x_region <| p (yl_move ec140_19) <| p (ysub rfl rfl hx148) <|
        p (yl_assign rfl) <| x_done <| x_seq <|
        ?_
      obtain ⟨oL33, hLL33, hF⟩ := bd_s hF
      refine x_join (fun E w => ∃ (start20_L33 : Int), start20_L33 = oL33 ∧ E 0 = .slice A_data0 data0.length c_data0 ∧ E 1 = .int .i64 a1 ∧ E 2 = .int .i64 m2 ∧ E 3 = .int .i64 b3 ∧ E 4 = .func (.func 138) #[] #[.pointer (some ⟨b_cmp4_0, 0, none⟩)] ∧ E 18 = .int .i64 x134 ∧ E 19 = .int .i64 x137 ∧ E 20 = .int .i64 start20_L33 ∧ St w0 w (vec 3 (RpI .i64).sz (.slice A_data0 data0.length c_data0) data0.length cs_data0 :: cells b_cmp4_0 87 [.slice A_cmp4_0_0 cmp4_0_0.length c_cmp4_0_0] :: ro ρ :: l)) ?_ ?_
      · skip -- L33
        refine x_block ?_
        refine x_loop (fun k_ E w => ∃ (start20_L33h : Int) (r21_L33h : Int), lp (P_slices_symMergeCmpFunc_int_2_L33 data0 cmp4_0_0 x148) k_ (start20_L33h, r21_L33h) = some oL33 ∧ E 0 = .slice A_data0 data0.length c_data0 ∧ E 1 = .int .i64 a1 ∧ E 2 = .int .i64 m2 ∧ E 3 = .int .i64 b3 ∧ E 4 = .func (.func 138) #[] #[.pointer (some ⟨b_cmp4_0, 0, none⟩)] ∧ E 18 = .int .i64 x134 ∧ E 19 = .int .i64 x137 ∧ E 20 = .int .i64 start20_L33h ∧ E 21 = .int .i64 r21_L33h ∧ E 22 = .int .i64 x148 ∧ St w0 w (vec 3 (RpI .i64).sz (.slice A_data0 data0.length c_data0) data0.length cs_data0 :: cells b_cmp4_0 87 [.slice A_cmp4_0_0 cmp4_0_0.length c_cmp4_0_0] :: ro ρ :: l)) fuel ⟨start20_c140, r21_c140, hLL33, ec140_0, ec140_1, ec140_2, ec140_3, ec140_4, ec140_18, ec140_19, ec140_20, ec140_21, rfl, (((hS.pull 2).pull 2).pull 2)⟩ ?_
        rintro kL33 E w ⟨start20_L33h, r21_L33h, hLL33, eL33h_0, eL33h_1, eL33h_2, eL33h_3, eL33h_4, eL33h_18, eL33h_19, eL33h_20, eL33h_21, eL33h_22, hS⟩
        obtain ⟨kL33, obL33, rfl, hFL33, hLL33⟩ := lp_s hLL33
        refine x_seq <| x_seq <| x_region <| p (yl_move eL33h_20) <|
          p (yl_move eL33h_21) <| p (yl_lss rfl rfl) <| x_done <|
          x_cond_p (start20_L33h < r21_L33h) rfl (fun hc151 => ?_) (fun hc151 => ?_)
        · replace hFL33 := it_t hc151 hFL33
          obtain ⟨x154, hx154, hFL33⟩ := ar_s hFL33
          obtain ⟨x155, hx155, hFL33⟩ := lv_s hFL33
          obtain ⟨hk34_4, hFL33⟩ := ck_s hFL33
          obtain ⟨x156, hx156, hFL33⟩ := lv_s hFL33
          obtain ⟨x157, hx157, hFL33⟩ := ar_s hFL33
          obtain ⟨x162, hx162, hFL33⟩ := ar_s hFL33
          obtain ⟨hk35_5, hFL33⟩ := ck_s hFL33
          obtain ⟨x164, hx164, hFL33⟩ := lv_s hFL33
          obtain ⟨hk35_9, hFL33⟩ := ck_s hFL33
          obtain ⟨x168, hx168, hFL33⟩ := lv_s hFL33
          refine x_skip <| x_block <| x_seq <| x_region <|
            p (yl_move eL33h_20) <| p (yl_move eL33h_21) <| p (yadd rfl rfl hx154) <| p (yconvu wm_u64 uk_3 ik_222 rfl hx155) <|
            p (yshr rfl rfl hk34_4 hx156) <| p (yconvi uk_222 ik_3 rfl hx157) <| p (yl_assign rfl) <| x_done <|
            x_seq <| x_head 11 mixed (by kernel_rfl) hS _ _ rfl rfl <| q (yl_move eL33h_4) <| q (yl_move eL33h_0) <|
            q (yl_move eL33h_22) <| q (yl_move rfl) <| q (ysub rfl rfl hx162) <| q (yix_o sl_22 rfl rfl hS h_data0 hk35_5) <|
            qa (fun w' hS => at_load one_3 rfl (RepL.getW h_data0 hS hk35_5 hx164)) <| q (yl_move eL33h_0) <| q (yl_move rfl) <| q (yix_o sl_22 rfl rfl hS h_data0 hk35_9) <|
            qa (fun w' hS => at_load one_3 rfl (RepL.getW h_data0 hS hk35_9 hx168)) <|
            q_done fun w' hS => ?_
          obtain ⟨r35_11, hc35_11, hFL33⟩ := bd_s hFL33
          have hcall := c_tree_inOrder_1 hc35_11 h_cmp4_0_0 ((hS.pull 2).pull 2)
          refine o_ccv rfl call_138 (capargs (args2 rfl rfl)) ((Calls.mono hcall (fun e w'' h => And.intro h.1 (((h.2.pull 1).pull 1).pull 2)))) ?_
          rintro e w' ⟨rfl, hS⟩
          refine ⟨_, rfl, ?_⟩
          refine p (yl_lss rfl rfl) <| p (yl_not rfl) <| x_done <|
            ?_
          obtain ⟨oc171, hFc171, hFL33⟩ := bd_s hFL33
          refine x_join (fun E w => ∃ (start20_c171 : Int) (r21_c171 : Int), (start20_c171, r21_c171) = oc171 ∧ E 0 = .slice A_data0 data0.length c_data0 ∧ E 1 = .int .i64 a1 ∧ E 2 = .int .i64 m2 ∧ E 3 = .int .i64 b3 ∧ E 4 = .func (.func 138) #[] #[.pointer (some ⟨b_cmp4_0, 0, none⟩)] ∧ E 18 = .int .i64 x134 ∧ E 19 = .int .i64 x137 ∧ E 20 = .int .i64 start20_c171 ∧ E 21 = .int .i64 r21_c171 ∧ E 22 = .int .i64 x148 ∧ St w0 w (vec 3 (RpI .i64).sz (.slice A_data0 data0.length c_data0) data0.length cs_data0 :: cells b_cmp4_0 87 [.slice A_cmp4_0_0 cmp4_0_0.length c_cmp4_0_0] :: ro ρ :: l)) ?_ ?_
          · skip -- c171
            refine x_cond (t := !(decide (r35_11 < 0))) rfl (fun hc171 => ?_) (fun hc171 => ?_)
            · replace hFc171 := it_t hc171 hFc171
              obtain ⟨x173, hx173, hFc171⟩ := ar_s hFc171
              refine x_region <| p (yl_move rfl) <| p (yadd rfl rfl hx173) <| p (yl_assign rfl) <|
                x_done <|
                ?_
              exact x_inv ⟨x173, r21_L33h, (Option.some.inj (show some _ = some _ from hFc171)), eL33h_0, eL33h_1, eL33h_2, eL33h_3, eL33h_4, eL33h_18, eL33h_19, rfl, eL33h_21, eL33h_22, (((hS.pull 2).pull 2).pull 2)⟩
            · replace hFc171 := it_bf hc171 hFc171
              refine x_region <| p (yl_move rfl) <| p (yl_assign rfl) <| x_done <|
                ?_
              exact x_inv ⟨start20_L33h, x157, (Option.some.inj (show some _ = some _ from hFc171)), eL33h_0, eL33h_1, eL33h_2, eL33h_3, eL33h_4, eL33h_18, eL33h_19, eL33h_20, rfl, eL33h_22, (((hS.pull 2).pull 2).pull 2)⟩
          rintro E w ⟨start20_c171, r21_c171, rfl, ec171_0, ec171_1, ec171_2, ec171_3, ec171_4, ec171_18, ec171_19, ec171_20, ec171_21, ec171_22, hS⟩
          refine x_blk <|
            ?_
          obtain rfl := Option.some.inj (show some _ = some _ from hFL33)
          exact x_inv ⟨kL33, Nat.lt_succ_self _, start20_c171, r21_c171, hLL33, ec171_0, ec171_1, ec171_2, ec171_3, ec171_4, ec171_18, ec171_19, ec171_20, ec171_21, ec171_22, (((hS.pull 2).pull 2).pull 2)⟩
        · replace hFL33 := it_f hc151 hFL33
          refine x_exitTo _ rfl <|
            ?_
          obtain rfl := Option.some.inj (show some _ = some _ from hFL33)
          exact x_inv ⟨start20_L33h, hLL33, eL33h_0, eL33h_1, eL33h_2, eL33h_3, eL33h_4, eL33h_18, eL33h_19, eL33h_20, (((hS.pull 2).pull 2).pull 2)⟩
      rintro E w ⟨start20_L33, rfl, eL33_0, eL33_1, eL33_2, eL33_3, eL33_4, eL33_18, eL33_19, eL33_20, hS⟩
      obtain ⟨x177, hx177, hF⟩ := ar_s hF
      obtain ⟨x185, hx185, hF⟩ := lv_s hF
      refine x_seq <| x_region <| p (yl_move eL33_19) <| p (yl_move eL33_20) <|
        p (ysub rfl rfl hx177) <| p (yl_assign rfl) <| x_done <| x_seq <|
        x_seq <| x_region <| p (yl_move eL33_20) <| p (yl_move eL33_2) <|
        p (yl_lss rfl rfl) <| p (yl_move rfl) <| pg (v := .int .i64 m2) 181 (c := decide (start20_L33 < m2)) (says_t _) (fun hq => Yl.at (yl_move eL33_2)) <| pg (v := .int .i64 x177) 181 (c := decide (start20_L33 < m2)) (says_t _) (fun hq => Yl.at (yl_move rfl)) <|
        pg (v := .bool (decide (m2 < x177))) 181 (c := decide (start20_L33 < m2)) (says_t _) (fun hq => Yl.at (yl_lss (cv hq) (cv hq))) <| p (yand' rfl (fun hc => (cv hc)) rfl hx185) <| x_done <|
        ?_
      obtain ⟨oc185, hFc185, hF⟩ := bd_s hF
      refine x_join (fun E w => ∃ (cs_data0_c185 : List Value) (data0_c185 : List Int), data0_c185 = oc185 ∧ E 0 = .slice A_data0 data0.length c_data0 ∧ E 1 = .int .i64 a1 ∧ E 3 = .int .i64 b3 ∧ E 4 = .func (.func 138) #[] #[.pointer (some ⟨b_cmp4_0, 0, none⟩)] ∧ E 18 = .int .i64 x134 ∧ E 20 = .int .i64 start20_L33 ∧ E 24 = .int .i64 x177 ∧ RepL (RpI .i64) ρ data0_c185 cs_data0_c185 ∧ St w0 w (vec 3 (RpI .i64).sz (.slice A_data0 data0.length c_data0) data0.length cs_data0_c185 :: cells b_cmp4_0 87 [.slice A_cmp4_0_0 cmp4_0_0.length c_cmp4_0_0] :: ro ρ :: l)) ?_ ?_
      · skip -- c185
        refine x_cond (t := x185) rfl (fun hc185 => ?_) (fun hc185 => ?_)
        · replace hFc185 := it_t hc185 hFc185
          obtain ⟨r40_5, hc40_5, hFc185⟩ := bd_s hFc185
          refine x_region <| p (yl_move eL33_0) <| p (yl_move eL33_20) <| p (yl_move eL33_2) <|
            p (yl_move rfl) <| p (yl_move eL33_4) <|
            ?_
          have hcall := c_slices_rotateCmpFunc_int_2 hc40_5 h_data0 h_cmp4_0_0 (((hS.pull 2).pull 2).pull 2)
          refine o_cc call_173 (args5 rfl rfl rfl rfl rfl) hcall ?_
          rintro e w' ⟨cs_zA_data0_ret_40_5, rfl, h_zA_data0_ret_40_5, hS⟩
          refine ⟨_, rfl, ?_⟩
          refine x_done <|
            ?_
          exact x_inv ⟨cs_zA_data0_ret_40_5, r40_5, (Option.some.inj (show some _ = some _ from hFc185)), eL33_0, eL33_1, eL33_3, eL33_4, eL33_18, eL33_20, rfl, h_zA_data0_ret_40_5, (((hS.pull 2).pull 1).pull 2)⟩
        · replace hFc185 := it_bf hc185 hFc185
          refine x_skip <|
            ?_
          exact x_inv ⟨cs_data0, data0, (Option.some.inj (show some _ = some _ from hFc185)), eL33_0, eL33_1, eL33_3, eL33_4, eL33_18, eL33_20, rfl, h_data0, (((hS.pull 2).pull 2).pull 2)⟩
      rintro E w ⟨cs_data0_c185, data0_c185, rfl, ec185_0, ec185_1, ec185_3, ec185_4, ec185_18, ec185_20, ec185_24, h_data0_c185, hS⟩
      obtain ⟨x199, hx199, hF⟩ := lv_s hF
      refine x_seq <| x_seq <| x_region <| p (yl_move ec185_1) <|
        p (yl_move ec185_20) <| p (yl_lss rfl rfl) <| p (yl_move rfl) <| pg (v := .int .i64 start20_L33) 195 (c := decide (a1 < start20_L33)) (says_t _) (fun hq => Yl.at (yl_move ec185_20)) <|
        pg (v := .int .i64 x134) 195 (c := decide (a1 < start20_L33)) (says_t _) (fun hq => Yl.at (yl_move ec185_18)) <| pg (v := .bool (decide (start20_L33 < x134))) 195 (c := decide (a1 < start20_L33)) (says_t _) (fun hq => Yl.at (yl_lss (cv hq) (cv hq))) <| p (yand' rfl (fun hc => (cv hc)) rfl hx199) <| x_done <|
        ?_
      obtain ⟨oc199, hFc199, hF⟩ := bd_s hF
      refine x_join (fun E w => ∃ (cs_data0_c199 : List Value) (data0_c199 : List Int), data0_c199 = oc199 ∧ E 0 = .slice A_data0 data0.length c_data0 ∧ E 3 = .int .i64 b3 ∧ E 4 = .func (.func 138) #[] #[.pointer (some ⟨b_cmp4_0, 0, none⟩)] ∧ E 18 = .int .i64 x134 ∧ E 24 = .int .i64 x177 ∧ RepL (RpI .i64) ρ data0_c199 cs_data0_c199 ∧ St w0 w (vec 3 (RpI .i64).sz (.slice A_data0 data0.length c_data0) data0.length cs_data0_c199 :: cells b_cmp4_0 87 [.slice A_cmp4_0_0 cmp4_0_0.length c_cmp4_0_0] :: ro ρ :: l)) ?_ ?_
      · skip -- c199
        refine x_cond (t := x199) rfl (fun hc199 => ?_) (fun hc199 => ?_)
        · replace hFc199 := it_t hc199 hFc199
          obtain ⟨r42_5, hc42_5, hFc199⟩ := bd_s hFc199
          refine x_region <| p (yl_move ec185_0) <| p (yl_move ec185_1) <| p (yl_move ec185_20) <|
            p (yl_move ec185_18) <| p (yl_move ec185_4) <|
            ?_
          have hcall := ih hc42_5 h_data0_c185 h_cmp4_0_0 (((hS.pull 2).pull 2).pull 2)
          refine o_cc call_172 (args5 rfl rfl rfl rfl rfl) hcall ?_
          rintro e w' ⟨cs_zA_data0_ret_42_5, rfl, h_zA_data0_ret_42_5, hS⟩
          refine ⟨_, rfl, ?_⟩
          refine x_done <|
            ?_
          exact x_inv ⟨cs_zA_data0_ret_42_5, r42_5, (Option.some.inj (show some _ = some _ from hFc199)), ec185_0, ec185_3, ec185_4, ec185_18, ec185_24, h_zA_data0_ret_42_5, (((hS.pull 2).pull 1).pull 2)⟩
        · replace hFc199 := it_bf hc199 hFc199
          refine x_skip <|
            ?_
          exact x_inv ⟨cs_data0_c185, data0_c185, (Option.some.inj (show some _ = some _ from hFc199)), ec185_0, ec185_3, ec185_4, ec185_18, ec185_24, h_data0_c185, (((hS.pull 2).pull 2).pull 2)⟩
      rintro E w ⟨cs_data0_c199, data0_c199, rfl, ec199_0, ec199_3, ec199_4, ec199_18, ec199_24, h_data0_c199, hS⟩
      obtain ⟨x213, hx213, hF⟩ := lv_s hF
      refine x_seq <| x_region <| p (yl_move ec199_18) <| p (yl_move ec199_24) <|
        p (yl_lss rfl rfl) <| p (yl_move rfl) <| pg (v := .int .i64 x177) 209 (c := decide (x134 < x177)) (says_t _) (fun hq => Yl.at (yl_move ec199_24)) <| pg (v := .int .i64 b3) 209 (c := decide (x134 < x177)) (says_t _) (fun hq => Yl.at (yl_move ec199_3)) <|
        pg (v := .bool (decide (x177 < b3))) 209 (c := decide (x134 < x177)) (says_t _) (fun hq => Yl.at (yl_lss (cv hq) (cv hq))) <| p (yand' rfl (fun hc => (cv hc)) rfl hx213) <| x_done <|
        ?_
      obtain ⟨oc213, hFc213, hF⟩ := bd_s hF
      refine x_join (fun E w => ∃ (cs_zA_data0_c213 : List Value) (zA_data0_c213 : List Int), zA_data0_c213 = oc213 ∧ RepL (RpI .i64) ρ zA_data0_c213 cs_zA_data0_c213 ∧ St w0 w (cells b_cmp4_0 87 [.slice A_cmp4_0_0 cmp4_0_0.length c_cmp4_0_0] :: vec 3 (RpI .i64).sz (.slice A_data0 data0.length c_data0) data0.length cs_zA_data0_c213 :: ro ρ :: l)) ?_ ?_
      · skip -- c213
        refine x_cond (t := x213) rfl (fun hc213 => ?_) (fun hc213 => ?_)
        · replace hFc213 := it_t hc213 hFc213
          obtain ⟨r44_5, hc44_5, hFc213⟩ := bd_s hFc213
          refine x_region <| p (yl_move ec199_0) <| p (yl_move ec199_18) <| p (yl_move ec199_24) <|
            p (yl_move ec199_3) <| p (yl_move ec199_4) <|
            ?_
          have hcall := ih hc44_5 h_data0_c199 h_cmp4_0_0 (((hS.pull 2).pull 2).pull 2)
          refine o_cc call_172 (args5 rfl rfl rfl rfl rfl) hcall ?_
          rintro e w' ⟨cs_zA_data0_ret_44_5, rfl, h_zA_data0_ret_44_5, hS⟩
          refine ⟨_, rfl, ?_⟩
          refine x_done <|
            ?_
          exact x_inv ⟨cs_zA_data0_ret_44_5, r44_5, (Option.some.inj (show some _ = some _ from hFc213)), h_zA_data0_ret_44_5, (((hS.pull 2).pull 2).pull 2)⟩
        · replace hFc213 := it_bf hc213 hFc213
          refine x_skip <|
            ?_
          exact x_inv ⟨cs_data0_c199, data0_c199, (Option.some.inj (show some _ = some _ from hFc213)), h_data0_c199, (((hS.pull 2).pull 1).pull 2)⟩
      rintro E w ⟨cs_zA_data0_c213, zA_data0_c213, rfl, h_zA_data0_c213, hS⟩
      obtain rfl := Option.some.inj (show some _ = some _ from hF)
      exact x_fin ⟨_, rfl, cs_zA_data0_c213, rfl, h_zA_data0_c213, (((hS.pull 2).pull 2).pull 2)⟩
theorem c_slices_symMergeCmpFunc_int_2_n : ∀ (n : Nat), ∀ {w0 w : World} {l : List Assn} {ρ : Heap} {A_data0 : Option Addr} {n_data0 : Nat} {c_data0 : Nat} {cs_data0 : List Value} {b_cmp4_0 : Nat} {A_cmp4_0_0 : Option Addr} {n_cmp4_0_0 : Nat} {c_cmp4_0_0 : Nat} {data0 : List Int} {a1 : Int} {m2 : Int} {b3 : Int} {cmp4_0_0 : List T_floor_Point} {r : List Int} (hF : rcf P_slices_symMergeCmpFunc_int_2_B n (data0, a1, m2, b3, cmp4_0_0) = some r) (h_data0 : RepL (RpI .i64) ρ data0 cs_data0) (h_cmp4_0_0 : RdS R_floor_Point ρ A_cmp4_0_0 n_cmp4_0_0 c_cmp4_0_0 cmp4_0_0) (hS : St w0 w (vec 3 (RpI .i64).sz (.slice A_data0 n_data0 c_data0) n_data0 cs_data0 :: cells b_cmp4_0 87 [.slice A_cmp4_0_0 n_cmp4_0_0 c_cmp4_0_0] :: ro ρ :: l)),
    Calls Try.prog 172 #[.slice A_data0 n_data0 c_data0, .int .i64 a1, .int .i64 m2, .int .i64 b3, .func (.func 138) #[] #[.pointer (some ⟨b_cmp4_0, 0, none⟩)]] w fun e w' => ∃ (cs_zA_data0_ret : List Value), e = .returned (.tuple #[]) ∧ RepL (RpI .i64) ρ r cs_zA_data0_ret ∧ St w0 w' (cells b_cmp4_0 87 [.slice A_cmp4_0_0 n_cmp4_0_0 c_cmp4_0_0] :: vec 3 (RpI .i64).sz (.slice A_data0 n_data0 c_data0) n_data0 cs_zA_data0_ret :: ro ρ :: l)
  | 0 => by intros; rename_i hF _; cases (show none = some _ from by first | exact hF | assumption)
  | n + 1 => c_slices_symMergeCmpFunc_int_2_s (rcf P_slices_symMergeCmpFunc_int_2_B n) (c_slices_symMergeCmpFunc_int_2_n n)
theorem c_slices_symMergeCmpFunc_int_2 {w0 w : World} {l : List Assn} {ρ : Heap} {A_data0 : Option Addr} {n_data0 : Nat} {c_data0 : Nat} {cs_data0 : List Value} {b_cmp4_0 : Nat} {A_cmp4_0_0 : Option Addr} {n_cmp4_0_0 : Nat} {c_cmp4_0_0 : Nat} {data0 : List Int} {a1 : Int} {m2 : Int} {b3 : Int} {cmp4_0_0 : List T_floor_Point} {r : List Int} (hF : P_slices_symMergeCmpFunc_int_2 data0 a1 m2 b3 cmp4_0_0 = some r) (h_data0 : RepL (RpI .i64) ρ data0 cs_data0) (h_cmp4_0_0 : RdS R_floor_Point ρ A_cmp4_0_0 n_cmp4_0_0 c_cmp4_0_0 cmp4_0_0) (hS : St w0 w (vec 3 (RpI .i64).sz (.slice A_data0 n_data0 c_data0) n_data0 cs_data0 :: cells b_cmp4_0 87 [.slice A_cmp4_0_0 n_cmp4_0_0 c_cmp4_0_0] :: ro ρ :: l)) :
    Calls Try.prog 172 #[.slice A_data0 n_data0 c_data0, .int .i64 a1, .int .i64 m2, .int .i64 b3, .func (.func 138) #[] #[.pointer (some ⟨b_cmp4_0, 0, none⟩)]] w fun e w' => ∃ (cs_zA_data0_ret : List Value), e = .returned (.tuple #[]) ∧ RepL (RpI .i64) ρ r cs_zA_data0_ret ∧ St w0 w' (cells b_cmp4_0 87 [.slice A_cmp4_0_0 n_cmp4_0_0 c_cmp4_0_0] :: vec 3 (RpI .i64).sz (.slice A_data0 n_data0 c_data0) n_data0 cs_zA_data0_ret :: ro ρ :: l) := c_slices_symMergeCmpFunc_int_2_n fuel hF h_data0 h_cmp4_0_0 hS
attribute [irreducible] P_slices_symMergeCmpFunc_int_2

def P_slices_stableCmpFunc_int_2_L2 (n1 : Int) (cmp2_0_0 : List T_floor_Point) : (List Int × Int × Int) → Option ((List Int × Int × Int) ⊕ (List Int × Int)) := fun (data0_L2h, a7_L2h, b8_L2h) =>
  if b8_L2h ≤ n1 then
    bd (P_slices_insertionSortCmpFunc_int_2 data0_L2h a7_L2h b8_L2h cmp2_0_0) fun r3_4 =>
    ar (b8_L2h + 20) fun x22 =>
    some (Sum.inl (r3_4, b8_L2h, x22))
  else
    some (Sum.inr (data0_L2h, a7_L2h))
def P_slices_stableCmpFunc_int_2_L9 (n1 : Int) (cmp2_0_0 : List T_floor_Point) (blockSize6_L7h : Int) : (List Int × Int × Int) → Option ((List Int × Int × Int) ⊕ (List Int × Int)) := fun (data0_L9h, a7_L9h, b8_L9h) =>
  if b8_L9h ≤ n1 then
    ar (a7_L9h + blockSize6_L7h) fun x40 =>
    bd (P_slices_symMergeCmpFunc_int_2 data0_L9h a7_L9h x40 b8_L9h cmp2_0_0) fun r10_7 =>
    ar ((2 : Int) * blockSize6_L7h) fun x47 =>
    ar (b8_L9h + x47) fun x48 =>
    some (Sum.inl (r10_7, b8_L9h, x48))
  else
    some (Sum.inr (data0_L9h, a7_L9h))
def P_slices_stableCmpFunc_int_2_L7 (n1 : Int) (cmp2_0_0 : List T_floor_Point) : (List Int × Int) → Option ((List Int × Int) ⊕ List Int) := fun (data0_L7h, blockSize6_L7h) =>
  if blockSize6_L7h < n1 then
    ar ((2 : Int) * blockSize6_L7h) fun x32 =>
    bd (
      lp (P_slices_stableCmpFunc_int_2_L9 n1 cmp2_0_0 blockSize6_L7h) fuel (data0_L7h, 0, x32)) fun (data0_L9, a7_L9) =>
    ar (a7_L9 + blockSize6_L7h) fun x51 =>
    bd (
      if x51 < n1 then
        bd (P_slices_symMergeCmpFunc_int_2 data0_L9 a7_L9 x51 n1 cmp2_0_0) fun r15_5 =>
        some r15_5
      else
        some data0_L9) fun data0_c54 =>
    ar (blockSize6_L7h * 2) fun x62 =>
    some (Sum.inl (data0_c54, x62))
  else
    some (Sum.inr data0_L7h)
def P_slices_stableCmpFunc_int_2 (data0 : List Int) (n1 : Int) (cmp2_0_0 : List T_floor_Point) : Option (List Int) :=
  bd (
    lp (P_slices_stableCmpFunc_int_2_L2 n1 cmp2_0_0) fuel (data0, 0, 20)) fun (data0_L2, a7_L2) =>
  bd (P_slices_insertionSortCmpFunc_int_2 data0_L2 a7_L2 n1 cmp2_0_0) fun r6_4 =>
  bd (
    lp (P_slices_stableCmpFunc_int_2_L7 n1 cmp2_0_0) fuel (r6_4, 20)) fun zA_data0_L7 =>
  some zA_data0_L7
set_option maxHeartbeats 4000000 in
set_option maxRecDepth 100000 in
theorem c_slices_stableCmpFunc_int_2 {w0 w : World} {l : List Assn} {ρ : Heap} {A_data0 : Option Addr} {n_data0 : Nat} {c_data0 : Nat} {cs_data0 : List Value} {b_cmp2_0 : Nat} {A_cmp2_0_0 : Option Addr} {n_cmp2_0_0 : Nat} {c_cmp2_0_0 : Nat} {data0 : List Int} {n1 : Int} {cmp2_0_0 : List T_floor_Point} {r : List Int} (hF : P_slices_stableCmpFunc_int_2 data0 n1 cmp2_0_0 = some r) (h_data0 : RepL (RpI .i64) ρ data0 cs_data0) (h_cmp2_0_0 : RdS R_floor_Point ρ A_cmp2_0_0 n_cmp2_0_0 c_cmp2_0_0 cmp2_0_0) (hS : St w0 w (vec 3 (RpI .i64).sz (.slice A_data0 n_data0 c_data0) n_data0 cs_data0 :: cells b_cmp2_0 87 [.slice A_cmp2_0_0 n_cmp2_0_0 c_cmp2_0_0] :: ro ρ :: l)) :
    Calls Try.prog 161 #[.slice A_data0 n_data0 c_data0, .int .i64 n1, .func (.func 138) #[] #[.pointer (some ⟨b_cmp2_0, 0, none⟩)]] w fun e w' => ∃ (cs_zA_data0_ret : List Value), e = .returned (.tuple #[]) ∧ RepL (RpI .i64) ρ r cs_zA_data0_ret ∧ St w0 w' (cells b_cmp2_0 87 [.slice A_cmp2_0_0 n_cmp2_0_0 c_cmp2_0_0] :: vec 3 (RpI .i64).sz (.slice A_data0 n_data0 c_data0) n_data0 cs_zA_data0_ret :: ro ρ :: l) := by
  obtain rfl := St.vec_n hS h_data0
  obtain rfl := h_cmp2_0_0.n
  refine enterC Try.func161 rfl 63 rfl (by simp) ?_
  refine x_seq <| x_region <| p (yl_assign rfl) <| x_done <|
    x_seq <| x_region <| p (yl_move rfl) <| p (yl_assign rfl) <|
    p (yl_assign rfl) <| x_done <| x_seq <|
    ?_
  obtain ⟨oL2, hLL2, hF⟩ := bd_s hF
  refine x_join (fun E w => ∃ (cs_data0_L2 : List Value) (data0_L2 : List Int) (a7_L2 : Int), (data0_L2, a7_L2) = oL2 ∧ E 0 = .slice A_data0 data0.length c_data0 ∧ E 1 = .int .i64 n1 ∧ E 2 = .func (.func 138) #[] #[.pointer (some ⟨b_cmp2_0, 0, none⟩)] ∧ E 6 = .int .i64 20 ∧ E 7 = .int .i64 a7_L2 ∧ RepL (RpI .i64) ρ data0_L2 cs_data0_L2 ∧ St w0 w (vec 3 (RpI .i64).sz (.slice A_data0 data0.length c_data0) data0.length cs_data0_L2 :: cells b_cmp2_0 87 [.slice A_cmp2_0_0 cmp2_0_0.length c_cmp2_0_0] :: ro ρ :: l)) ?_ ?_
  · skip -- L2
    refine x_block ?_
    refine x_loop (fun k_ E w => ∃ (cs_data0_L2h : List Value) (data0_L2h : List Int) (a7_L2h : Int) (b8_L2h : Int), lp (P_slices_stableCmpFunc_int_2_L2 n1 cmp2_0_0) k_ (data0_L2h, a7_L2h, b8_L2h) = some oL2 ∧ E 0 = .slice A_data0 data0.length c_data0 ∧ E 1 = .int .i64 n1 ∧ E 2 = .func (.func 138) #[] #[.pointer (some ⟨b_cmp2_0, 0, none⟩)] ∧ E 6 = .int .i64 20 ∧ E 7 = .int .i64 a7_L2h ∧ E 8 = .int .i64 b8_L2h ∧ RepL (RpI .i64) ρ data0_L2h cs_data0_L2h ∧ St w0 w (vec 3 (RpI .i64).sz (.slice A_data0 data0.length c_data0) data0.length cs_data0_L2h :: cells b_cmp2_0 87 [.slice A_cmp2_0_0 cmp2_0_0.length c_cmp2_0_0] :: ro ρ :: l)) fuel ⟨cs_data0, data0, 0, 20, hLL2, rfl, rfl, rfl, rfl, rfl, rfl, h_data0, (((hS.pull 2).pull 2).pull 2)⟩ ?_
    rintro kL2 E w ⟨cs_data0_L2h, data0_L2h, a7_L2h, b8_L2h, hLL2, eL2h_0, eL2h_1, eL2h_2, eL2h_6, eL2h_7, eL2h_8, h_data0_L2h, hS⟩
    obtain ⟨kL2, obL2, rfl, hFL2, hLL2⟩ := lp_s hLL2
    refine x_seq <| x_seq <| x_region <| p (yl_move eL2h_8) <|
      p (yl_move eL2h_1) <| p (yl_leq rfl rfl) <| x_done <|
      x_cond_p (b8_L2h ≤ n1) rfl (fun hc13 => ?_) (fun hc13 => ?_)
    · replace hFL2 := it_t hc13 hFL2
      obtain ⟨r3_4, hc3_4, hFL2⟩ := bd_s hFL2
      refine x_skip <| x_block <| x_seq <| x_region <|
        p (yl_move eL2h_0) <| p (yl_move eL2h_7) <| p (yl_move eL2h_8) <| p (yl_move eL2h_2) <|
        ?_
      have hcall := c_slices_insertionSortCmpFunc_int_2 hc3_4 h_data0_L2h h_cmp2_0_0 (((hS.pull 2).pull 2).pull 2)
      refine o_cc call_171 (args4 rfl rfl rfl rfl) hcall ?_
      rintro e w' ⟨cs_zA_data0_ret_3_4, rfl, h_zA_data0_ret_3_4, hS⟩
      refine ⟨_, rfl, ?_⟩
      obtain ⟨x22, hx22, hFL2⟩ := ar_s hFL2
      refine x_done <| x_seq <| x_region <| p (yl_move eL2h_8) <|
        p (yl_assign rfl) <| x_done <| x_region <| p (yl_move eL2h_8) <|
        p (yl_move eL2h_6) <| p (yadd rfl rfl hx22) <| p (yl_assign rfl) <| x_done <|
        x_blk <|
        ?_
      obtain rfl := Option.some.inj (show some _ = some _ from hFL2)
      exact x_inv ⟨kL2, Nat.lt_succ_self _, cs_zA_data0_ret_3_4, r3_4, b8_L2h, x22, hLL2, eL2h_0, eL2h_1, eL2h_2, eL2h_6, rfl, rfl, h_zA_data0_ret_3_4, (((hS.pull 2).pull 1).pull 2)⟩
    · replace hFL2 := it_f hc13 hFL2
      refine x_exitTo _ rfl <|
        ?_
      obtain rfl := Option.some.inj (show some _ = some _ from hFL2)
      exact x_inv ⟨cs_data0_L2h, data0_L2h, a7_L2h, hLL2, eL2h_0, eL2h_1, eL2h_2, eL2h_6, eL2h_7, h_data0_L2h, (((hS.pull 2).pull 2).pull 2)⟩
  rintro E w ⟨cs_data0_L2, data0_L2, a7_L2, rfl, eL2_0, eL2_1, eL2_2, eL2_6, eL2_7, h_data0_L2, hS⟩
  obtain ⟨r6_4, hc6_4, hF⟩ := bd_s hF
  refine x_seq <| x_region <| p (yl_move eL2_0) <| p (yl_move eL2_7) <|
    p (yl_move eL2_1) <| p (yl_move eL2_2) <|
    ?_
  have hcall := c_slices_insertionSortCmpFunc_int_2 hc6_4 h_data0_L2 h_cmp2_0_0 (((hS.pull 2).pull 2).pull 2)
  refine o_cc call_171 (args4 rfl rfl rfl rfl) hcall ?_
  rintro e w' ⟨cs_zA_data0_ret_6_4, rfl, h_zA_data0_ret_6_4, hS⟩
  refine ⟨_, rfl, ?_⟩
  refine x_done <|
    ?_
  obtain ⟨oL7, hLL7, hF⟩ := bd_s hF
  refine x_join (fun E w => ∃ (cs_zA_data0_L7 : List Value) (zA_data0_L7 : List Int), zA_data0_L7 = oL7 ∧ RepL (RpI .i64) ρ zA_data0_L7 cs_zA_data0_L7 ∧ St w0 w (cells b_cmp2_0 87 [.slice A_cmp2_0_0 cmp2_0_0.length c_cmp2_0_0] :: vec 3 (RpI .i64).sz (.slice A_data0 data0.length c_data0) data0.length cs_zA_data0_L7 :: ro ρ :: l)) ?_ ?_
  · skip -- L7
    refine x_block ?_
    refine x_loop (fun k_ E w => ∃ (cs_data0_L7h : List Value) (data0_L7h : List Int) (blockSize6_L7h : Int), lp (P_slices_stableCmpFunc_int_2_L7 n1 cmp2_0_0) k_ (data0_L7h, blockSize6_L7h) = some oL7 ∧ E 0 = .slice A_data0 data0.length c_data0 ∧ E 1 = .int .i64 n1 ∧ E 2 = .func (.func 138) #[] #[.pointer (some ⟨b_cmp2_0, 0, none⟩)] ∧ E 6 = .int .i64 blockSize6_L7h ∧ RepL (RpI .i64) ρ data0_L7h cs_data0_L7h ∧ St w0 w (vec 3 (RpI .i64).sz (.slice A_data0 data0.length c_data0) data0.length cs_data0_L7h :: cells b_cmp2_0 87 [.slice A_cmp2_0_0 cmp2_0_0.length c_cmp2_0_0] :: ro ρ :: l)) fuel ⟨cs_zA_data0_ret_6_4, r6_4, 20, hLL7, eL2_0, eL2_1, eL2_2, eL2_6, h_zA_data0_ret_6_4, (((hS.pull 2).pull 1).pull 2)⟩ ?_
    rintro kL7 E w ⟨cs_data0_L7h, data0_L7h, blockSize6_L7h, hLL7, eL7h_0, eL7h_1, eL7h_2, eL7h_6, h_data0_L7h, hS⟩
    obtain ⟨kL7, obL7, rfl, hFL7, hLL7⟩ := lp_s hLL7
    refine x_seq <| x_seq <| x_region <| p (yl_move eL7h_6) <|
      p (yl_move eL7h_1) <| p (yl_lss rfl rfl) <| x_done <|
      x_cond_p (blockSize6_L7h < n1) rfl (fun hc30 => ?_) (fun hc30 => ?_)
    · replace hFL7 := it_t hc30 hFL7
      obtain ⟨x32, hx32, hFL7⟩ := ar_s hFL7
      refine x_skip <| x_block <| x_seq <| x_region <|
        p (yl_move eL7h_6) <| p (ymul rfl rfl hx32) <| p (yl_assign rfl) <| p (yl_assign rfl) <|
        x_done <| x_seq <|
        ?_
      obtain ⟨oL9, hLL9, hFL7⟩ := bd_s hFL7
      refine x_join (fun E w => ∃ (cs_data0_L9 : List Value) (data0_L9 : List Int) (a7_L9 : Int), (data0_L9, a7_L9) = oL9 ∧ E 0 = .slice A_data0 data0.length c_data0 ∧ E 1 = .int .i64 n1 ∧ E 2 = .func (.func 138) #[] #[.pointer (some ⟨b_cmp2_0, 0, none⟩)] ∧ E 6 = .int .i64 blockSize6_L7h ∧ E 7 = .int .i64 a7_L9 ∧ RepL (RpI .i64) ρ data0_L9 cs_data0_L9 ∧ St w0 w (vec 3 (RpI .i64).sz (.slice A_data0 data0.length c_data0) data0.length cs_data0_L9 :: cells b_cmp2_0 87 [.slice A_cmp2_0_0 cmp2_0_0.length c_cmp2_0_0] :: ro ρ :: l)) ?_ ?_
      · skip -- L9
        refine x_block ?_
        refine x_loop (fun k_ E w => ∃ (cs_data0_L9h : List Value) (data0_L9h : List Int) (a7_L9h : Int) (b8_L9h : Int), lp (P_slices_stableCmpFunc_int_2_L9 n1 cmp2_0_0 blockSize6_L7h) k_ (data0_L9h, a7_L9h, b8_L9h) = some oL9 ∧ E 0 = .slice A_data0 data0.length c_data0 ∧ E 1 = .int .i64 n1 ∧ E 2 = .func (.func 138) #[] #[.pointer (some ⟨b_cmp2_0, 0, none⟩)] ∧ E 6 = .int .i64 blockSize6_L7h ∧ E 7 = .int .i64 a7_L9h ∧ E 8 = .int .i64 b8_L9h ∧ RepL (RpI .i64) ρ data0_L9h cs_data0_L9h ∧ St w0 w (vec 3 (RpI .i64).sz (.slice A_data0 data0.length c_data0) data0.length cs_data0_L9h :: cells b_cmp2_0 87 [.slice A_cmp2_0_0 cmp2_0_0.length c_cmp2_0_0] :: ro ρ :: l)) fuel ⟨cs_data0_L7h, data0_L7h, 0, x32, hLL9, eL7h_0, eL7h_1, eL7h_2, eL7h_6, rfl, rfl, h_data0_L7h, (((hS.pull 2).pull 2).pull 2)⟩ ?_
        rintro kL9 E w ⟨cs_data0_L9h, data0_L9h, a7_L9h, b8_L9h, hLL9, eL9h_0, eL9h_1, eL9h_2, eL9h_6, eL9h_7, eL9h_8, h_data0_L9h, hS⟩
        obtain ⟨kL9, obL9, rfl, hFL9, hLL9⟩ := lp_s hLL9
        refine x_seq <| x_seq <| x_region <| p (yl_move eL9h_8) <|
          p (yl_move eL9h_1) <| p (yl_leq rfl rfl) <| x_done <|
          x_cond_p (b8_L9h ≤ n1) rfl (fun hc35 => ?_) (fun hc35 => ?_)
        · replace hFL9 := it_t hc35 hFL9
          obtain ⟨x40, hx40, hFL9⟩ := ar_s hFL9
          obtain ⟨r10_7, hc10_7, hFL9⟩ := bd_s hFL9
          refine x_skip <| x_block <| x_seq <| x_region <|
            p (yl_move eL9h_0) <| p (yl_move eL9h_7) <| p (yl_move eL9h_7) <| p (yl_move eL9h_6) <|
            p (yadd rfl rfl hx40) <| p (yl_move eL9h_8) <| p (yl_move eL9h_2) <|
            ?_
          have hcall := c_slices_symMergeCmpFunc_int_2 hc10_7 h_data0_L9h h_cmp2_0_0 (((hS.pull 2).pull 2).pull 2)
          refine o_cc call_172 (args5 rfl rfl rfl rfl rfl) hcall ?_
          rintro e w' ⟨cs_zA_data0_ret_10_7, rfl, h_zA_data0_ret_10_7, hS⟩
          refine ⟨_, rfl, ?_⟩
          obtain ⟨x47, hx47, hFL9⟩ := ar_s hFL9
          obtain ⟨x48, hx48, hFL9⟩ := ar_s hFL9
          refine x_done <| x_seq <| x_region <| p (yl_move eL9h_8) <|
            p (yl_assign rfl) <| x_done <| x_region <| p (yl_move eL9h_8) <|
            p (yl_move eL9h_6) <| p (ymul rfl rfl hx47) <| p (yadd rfl rfl hx48) <| p (yl_assign rfl) <|
            x_done <| x_blk <|
            ?_
          obtain rfl := Option.some.inj (show some _ = some _ from hFL9)
          exact x_inv ⟨kL9, Nat.lt_succ_self _, cs_zA_data0_ret_10_7, r10_7, b8_L9h, x48, hLL9, eL9h_0, eL9h_1, eL9h_2, eL9h_6, rfl, rfl, h_zA_data0_ret_10_7, (((hS.pull 2).pull 1).pull 2)⟩
        · replace hFL9 := it_f hc35 hFL9
          refine x_exitTo _ rfl <|
            ?_
          obtain rfl := Option.some.inj (show some _ = some _ from hFL9)
          exact x_inv ⟨cs_data0_L9h, data0_L9h, a7_L9h, hLL9, eL9h_0, eL9h_1, eL9h_2, eL9h_6, eL9h_7, h_data0_L9h, (((hS.pull 2).pull 2).pull 2)⟩
      rintro E w ⟨cs_data0_L9, data0_L9, a7_L9, rfl, eL9_0, eL9_1, eL9_2, eL9_6, eL9_7, h_data0_L9, hS⟩
      obtain ⟨x51, hx51, hFL7⟩ := ar_s hFL7
      refine x_seq <| x_seq <| x_region <| p (yl_move eL9_7) <|
        p (yl_move eL9_6) <| p (yadd rfl rfl hx51) <| p (yl_assign rfl) <| x_done <|
        x_seq <| x_region <| p (yl_move rfl) <| p (yl_move eL9_1) <|
        p (yl_lss rfl rfl) <| x_done <|
        ?_
      obtain ⟨oc54, hFc54, hFL7⟩ := bd_s hFL7
      refine x_join (fun E w => ∃ (cs_data0_c54 : List Value) (data0_c54 : List Int), data0_c54 = oc54 ∧ E 0 = .slice A_data0 data0.length c_data0 ∧ E 1 = .int .i64 n1 ∧ E 2 = .func (.func 138) #[] #[.pointer (some ⟨b_cmp2_0, 0, none⟩)] ∧ E 6 = .int .i64 blockSize6_L7h ∧ RepL (RpI .i64) ρ data0_c54 cs_data0_c54 ∧ St w0 w (vec 3 (RpI .i64).sz (.slice A_data0 data0.length c_data0) data0.length cs_data0_c54 :: cells b_cmp2_0 87 [.slice A_cmp2_0_0 cmp2_0_0.length c_cmp2_0_0] :: ro ρ :: l)) ?_ ?_
      · skip -- c54
        refine x_cond_p (x51 < n1) rfl (fun hc54 => ?_) (fun hc54 => ?_)
        · replace hFc54 := it_t hc54 hFc54
          obtain ⟨r15_5, hc15_5, hFc54⟩ := bd_s hFc54
          refine x_region <| p (yl_move eL9_0) <| p (yl_move eL9_7) <| p (yl_move rfl) <|
            p (yl_move eL9_1) <| p (yl_move eL9_2) <|
            ?_
          have hcall := c_slices_symMergeCmpFunc_int_2 hc15_5 h_data0_L9 h_cmp2_0_0 (((hS.pull 2).pull 2).pull 2)
          refine o_cc call_172 (args5 rfl rfl rfl rfl rfl) hcall ?_
          rintro e w' ⟨cs_zA_data0_ret_15_5, rfl, h_zA_data0_ret_15_5, hS⟩
          refine ⟨_, rfl, ?_⟩
          refine x_done <|
            ?_
          exact x_inv ⟨cs_zA_data0_ret_15_5, r15_5, (Option.some.inj (show some _ = some _ from hFc54)), eL9_0, eL9_1, eL9_2, eL9_6, h_zA_data0_ret_15_5, (((hS.pull 2).pull 1).pull 2)⟩
        · replace hFc54 := it_f hc54 hFc54
          refine x_skip <|
            ?_
          exact x_inv ⟨cs_data0_L9, data0_L9, (Option.some.inj (show some _ = some _ from hFc54)), eL9_0, eL9_1, eL9_2, eL9_6, h_data0_L9, (((hS.pull 2).pull 2).pull 2)⟩
      rintro E w ⟨cs_data0_c54, data0_c54, rfl, ec54_0, ec54_1, ec54_2, ec54_6, h_data0_c54, hS⟩
      obtain ⟨x62, hx62, hFL7⟩ := ar_s hFL7
      refine x_region <| p (yl_move ec54_6) <| p (ymul rfl rfl hx62) <| p (yl_assign rfl) <|
        x_done <| x_blk <|
        ?_
      obtain rfl := Option.some.inj (show some _ = some _ from hFL7)
      exact x_inv ⟨kL7, Nat.lt_succ_self _, cs_data0_c54, data0_c54, x62, hLL7, ec54_0, ec54_1, ec54_2, rfl, h_data0_c54, (((hS.pull 2).pull 2).pull 2)⟩
    · replace hFL7 := it_f hc30 hFL7
      refine x_exitTo _ rfl <|
        ?_
      obtain rfl := Option.some.inj (show some _ = some _ from hFL7)
      exact x_inv ⟨cs_data0_L7h, data0_L7h, hLL7, h_data0_L7h, (((hS.pull 2).pull 1).pull 2)⟩
  rintro E w ⟨cs_zA_data0_L7, zA_data0_L7, rfl, h_zA_data0_L7, hS⟩
  obtain rfl := Option.some.inj (show some _ = some _ from hF)
  exact x_fin ⟨_, rfl, cs_zA_data0_L7, rfl, h_zA_data0_L7, (((hS.pull 2).pull 2).pull 2)⟩
attribute [irreducible] P_slices_stableCmpFunc_int_2

def P_slices_SortStableFunc_int_int_2 (x0 : List Int) (cmp1_0_0 : List T_floor_Point) : Option (List Int) :=
  bd (P_slices_stableCmpFunc_int_2 x0 (x0.length : Int) cmp1_0_0) fun r0_4 =>
  some r0_4
set_option maxHeartbeats 4000000 in
set_option maxRecDepth 100000 in
theorem c_slices_SortStableFunc_int_int_2 {w0 w : World} {l : List Assn} {ρ : Heap} {A_x0 : Option Addr} {n_x0 : Nat} {c_x0 : Nat} {cs_x0 : List Value} {b_cmp1_0 : Nat} {A_cmp1_0_0 : Option Addr} {n_cmp1_0_0 : Nat} {c_cmp1_0_0 : Nat} {x0 : List Int} {cmp1_0_0 : List T_floor_Point} {r : List Int} (hF : P_slices_SortStableFunc_int_int_2 x0 cmp1_0_0 = some r) (h_x0 : RepL (RpI .i64) ρ x0 cs_x0) (h_cmp1_0_0 : RdS R_floor_Point ρ A_cmp1_0_0 n_cmp1_0_0 c_cmp1_0_0 cmp1_0_0) (hS : St w0 w (vec 3 (RpI .i64).sz (.slice A_x0 n_x0 c_x0) n_x0 cs_x0 :: cells b_cmp1_0 87 [.slice A_cmp1_0_0 n_cmp1_0_0 c_cmp1_0_0] :: ro ρ :: l)) :
    Calls Try.prog 137 #[.slice A_x0 n_x0 c_x0, .func (.func 138) #[] #[.pointer (some ⟨b_cmp1_0, 0, none⟩)]] w fun e w' => ∃ (cs_zA_x0_ret : List Value), e = .returned (.tuple #[]) ∧ RepL (RpI .i64) ρ r cs_zA_x0_ret ∧ St w0 w' (cells b_cmp1_0 87 [.slice A_cmp1_0_0 n_cmp1_0_0 c_cmp1_0_0] :: vec 3 (RpI .i64).sz (.slice A_x0 n_x0 c_x0) n_x0 cs_zA_x0_ret :: ro ρ :: l) := by
  obtain rfl := St.vec_n hS h_x0
  obtain rfl := h_cmp1_0_0.n
  refine enterC Try.func137 rfl 9 rfl (by simp) ?_
  obtain ⟨r0_4, hc0_4, hF⟩ := bd_s hF
  refine x_region <| p (yl_move rfl) <| p (yl_move rfl) <| p (yl_len_slice usl_22 rfl) <|
    p (yl_move rfl) <|
    ?_
  have hcall := c_slices_stableCmpFunc_int_2 hc0_4 h_x0 h_cmp1_0_0 (((hS.pull 2).pull 2).pull 2)
  refine o_cc call_161 (args3 rfl rfl rfl) hcall ?_
  rintro e w' ⟨cs_zA_data0_ret_0_4, rfl, h_zA_data0_ret_0_4, hS⟩
  refine ⟨_, rfl, ?_⟩
  refine x_done <|
    ?_
  obtain rfl := Option.some.inj (show some _ = some _ from hF)
  exact x_fin ⟨_, rfl, cs_zA_data0_ret_0_4, rfl, h_zA_data0_ret_0_4, (((hS.pull 2).pull 2).pull 2)⟩
attribute [irreducible] P_slices_SortStableFunc_int_int_2

def P_tree_inOrder_L3 (at_0 : List T_floor_Point) : (List Int × Int) → Option ((List Int × Int) ⊕ List Int) := fun (out3_L3h, y7_L3h) =>
  if y7_L3h < (at_0.length : Int) then
    lv (out3_L3h ++ [y7_L3h]) fun z5_3 =>
    ck (apOk 8 z5_3.length) <|
    ar (y7_L3h + 1) fun x14 =>
    some (Sum.inl (z5_3, x14))
  else
    some (Sum.inr out3_L3h)
def P_tree_inOrder (at_0 : List T_floor_Point) : Option (List Int) :=
  bd (
    lp (P_tree_inOrder_L3 at_0) fuel ([], 0)) fun out3_L3 =>
  bd (P_slices_SortStableFunc_int_int_2 out3_L3 at_0) fun r7_2 =>
  some r7_2
set_option maxHeartbeats 4000000 in
set_option maxRecDepth 100000 in
theorem c_tree_inOrder {w0 w : World} {l : List Assn} {ρ : Heap} {A_at_0 : Option Addr} {n_at_0 : Nat} {c_at_0 : Nat} {at_0 : List T_floor_Point} {r : List Int} (hF : P_tree_inOrder at_0 = some r) (h_at_0 : RdS R_floor_Point ρ A_at_0 n_at_0 c_at_0 at_0) (hS : St w0 w (ro ρ :: l)) :
    Calls Try.prog 101 #[.slice A_at_0 n_at_0 c_at_0] w fun e w' => ∃ (A_y0_ret : Option Addr) (n_y0_ret : Nat) (c_y0_ret : Nat) (cs_y0_ret : List Value), e = .returned (.slice A_y0_ret n_y0_ret c_y0_ret) ∧ RepL (RpI .i64) ρ r cs_y0_ret ∧ St w0 w' (vec 3 (RpI .i64).sz (.slice A_y0_ret n_y0_ret c_y0_ret) n_y0_ret cs_y0_ret :: ro ρ :: l) := by
  obtain rfl := h_at_0.n
  refine enterC Try.func101 rfl 19 rfl (by simp) ?_
  refine x_seq <| x_region <|
    ?_
  refine o_box (cs := [.slice A_at_0 at_0.length c_at_0]) rfl rfl hS (fun b1 w' hS => ?_)
  refine p (yl_assign rfl) <| x_done <| x_seq <| x_region <|
    p (yl_assign rfl) <| x_done <| x_seq <| x_seq <|
    x_region <| pa (at_load one_87 rfl (hS.cell rfl)) <| p (yl_len_slice usl_87 rfl) <| p (yl_move rfl) <|
    x_done <|
    ?_
  obtain ⟨oL3, hLL3, hF⟩ := bd_s hF
  refine x_join (fun E w => ∃ (A_out3_L3 : Option Addr) (n_out3_L3 : Nat) (c_out3_L3 : Nat) (cs_out3_L3 : List Value) (out3_L3 : List Int), out3_L3 = oL3 ∧ E 1 = .pointer (some ⟨b1, 0, none⟩) ∧ E 3 = .slice A_out3_L3 n_out3_L3 c_out3_L3 ∧ RepL (RpI .i64) ρ out3_L3 cs_out3_L3 ∧ St w0 w (cells b1 87 [.slice A_at_0 at_0.length c_at_0] :: vec 3 (RpI .i64).sz (.slice A_out3_L3 n_out3_L3 c_out3_L3) n_out3_L3 cs_out3_L3 :: ro ρ :: l)) ?_ ?_
  · skip -- L3
    refine x_block ?_
    replace hS := St.vec_nil hS 3 (RpI .i64).sz
    have hnil_A_out3_L3h : RepL (RpI .i64) ρ [] [] := rfl
    refine x_loop (fun k_ E w => ∃ (A_out3_L3h : Option Addr) (n_out3_L3h : Nat) (c_out3_L3h : Nat) (cs_out3_L3h : List Value) (out3_L3h : List Int) (y7_L3h : Int), lp (P_tree_inOrder_L3 at_0) k_ (out3_L3h, y7_L3h) = some oL3 ∧ E 1 = .pointer (some ⟨b1, 0, none⟩) ∧ E 3 = .slice A_out3_L3h n_out3_L3h c_out3_L3h ∧ E 6 = .int .i64 (at_0.length : Int) ∧ E 7 = .int .i64 y7_L3h ∧ RepL (RpI .i64) ρ out3_L3h cs_out3_L3h ∧ St w0 w (cells b1 87 [.slice A_at_0 at_0.length c_at_0] :: vec 3 (RpI .i64).sz (.slice A_out3_L3h n_out3_L3h c_out3_L3h) n_out3_L3h cs_out3_L3h :: ro ρ :: l)) fuel ⟨none, 0, 0, [], [], 0, hLL3, rfl, rfl, rfl, rfl, hnil_A_out3_L3h, (((hS.pull 2).pull 1).pull 2)⟩ ?_
    rintro kL3 E w ⟨A_out3_L3h, n_out3_L3h, c_out3_L3h, cs_out3_L3h, out3_L3h, y7_L3h, hLL3, eL3h_1, eL3h_3, eL3h_6, eL3h_7, h_out3_L3h, hS⟩
    obtain rfl := St.vec_n (hS.pull 1) h_out3_L3h
    obtain ⟨kL3, obL3, rfl, hFL3, hLL3⟩ := lp_s hLL3
    refine x_seq <| x_region <| p (yl_lss eL3h_7 eL3h_6) <| x_done <|
      x_seq <|
      x_cond_p (y7_L3h < (at_0.length : Int)) rfl (fun hc8 => ?_) (fun hc8 => ?_)
    · replace hFL3 := it_t hc8 hFL3
      refine x_skip <| x_seq <| x_block <| x_seq <|
        x_region <| p (yl_move eL3h_7) <| p (yl_assign rfl) <| x_done <|
        x_region <| p (yl_move eL3h_3) <| p (yl_move rfl) <|
        ?_
      refine o_buildSlice (vs := [.int .i64 y7_L3h]) (cs := [.int .i64 y7_L3h]) sl_22 zero_3 (parts_eq (pt (va := .int .i64 y7_L3h) rfl pt0)) rfl (by intro v hv; simp only [List.mem_cons, List.not_mem_nil, or_false] at hv; first | (subst hv; rfl) | (rcases hv with rfl <;> rfl)) (by decide) rfl hS (fun b12 w' hS => ?_)
      obtain ⟨z5_3, hz5_3, hFL3⟩ := lv_s hFL3
      obtain ⟨hk5_3, hFL3⟩ := ck_s hFL3
      refine o_ap sl_22 zero_3 rfl (by decide) rfl rfl (hS.pull 2) h_out3_L3h (src_blk usl_22 hS rfl rfl) (RepL.cons (R := (RpI .i64)) (ρ := ρ) (x := y7_L3h) (cs := [.int .i64 y7_L3h]) rfl RepL.nil) hz5_3 hk5_3 (fun A13 c13 cs13 w' hr13 hS => ?_)
      obtain ⟨x14, hx14, hFL3⟩ := ar_s hFL3
      refine p (yl_assign rfl) <| x_done <| x_blk <| x_region <|
        p (yadd eL3h_7 rfl hx14) <| p (yl_move rfl) <| x_done <|
        ?_
      obtain rfl := Option.some.inj (show some _ = some _ from hFL3)
      exact x_inv ⟨kL3, Nat.lt_succ_self _, A13, z5_3.length, c13, cs13, z5_3, x14, hLL3, eL3h_1, rfl, eL3h_6, rfl, hr13, ((((hS.pull 1).drop.pull 2).pull 1).pull 2)⟩
    · replace hFL3 := it_f hc8 hFL3
      refine x_exitTo _ rfl <|
        ?_
      obtain rfl := Option.some.inj (show some _ = some _ from hFL3)
      exact x_inv ⟨A_out3_L3h, out3_L3h.length, c_out3_L3h, cs_out3_L3h, out3_L3h, hLL3, eL3h_1, eL3h_3, h_out3_L3h, (((hS.pull 2).pull 2).pull 2)⟩
  rintro E w ⟨A_out3_L3, n_out3_L3, c_out3_L3, cs_out3_L3, out3_L3, rfl, eL3_1, eL3_3, h_out3_L3, hS⟩
  obtain rfl := St.vec_n (hS.pull 1) h_out3_L3
  obtain ⟨r7_2, hc7_2, hF⟩ := bd_s hF
  refine x_seq <| x_region <| p (yl_move eL3_3) <| p (v := .func (.func 138) #[] #[.pointer (some ⟨b1, 0, none⟩)]) (yl_makeFunc (by simp only [List.map_toArray, List.map_nil]) (by simp only [List.map_toArray, List.map_cons, List.map_nil]; exact arr1 eL3_1)) <|
    ?_
  have hcall := c_slices_SortStableFunc_int_int_2 hc7_2 h_out3_L3 h_at_0 (((hS.pull 2).pull 1).pull 2)
  refine o_cc call_137 (args2 rfl rfl) hcall ?_
  rintro e w' ⟨cs_zA_x0_ret_7_2, rfl, h_zA_x0_ret_7_2, hS⟩
  refine ⟨_, rfl, ?_⟩
  refine x_done <| x_seq <| x_region <| p (yl_move eL3_3) <|
    p (yl_assign rfl) <| x_done <|
    ?_
  obtain rfl := Option.some.inj (show some _ = some _ from hF)
  exact x_return ⟨_, ⟨_, _, rfl, rfl, rfl⟩, A_out3_L3, out3_L3.length, c_out3_L3, cs_zA_x0_ret_7_2, rfl, h_zA_x0_ret_7_2, ((hS.drop.pull 1).pull 1)⟩
attribute [irreducible] P_tree_inOrder

def P_tree_chunks_2_L4 (n0 : Int) (x9 : Int) : (List (List Int) × Int) → Option ((List (List Int) × Int) ⊕ List (List Int)) := fun (out4_L4h, y13_L4h) =>
  if y13_L4h < n0 then
    ar (y13_L4h * x9) fun x19 =>
    ck (n0 ≠ 0) <|
    ar (Int.tdiv x19 n0) fun x21 =>
    ck (n0 ≠ 0) <|
    ck (inb x21 out4_L4h.length) <|
    lv (gt out4_L4h x21) fun y26_13 =>
    lv (y26_13 ++ [y13_L4h]) fun z6_16 =>
    ck (apOk 8 z6_16.length) <|
    ck (inb x21 out4_L4h.length) <|
    lv (stt out4_L4h x21 z6_16) fun zr1 =>
    ar (y13_L4h + 1) fun x34 =>
    some (Sum.inl (zr1, x34))
  else
    some (Sum.inr out4_L4h)
def P_tree_chunks_2 (n0 : Int) : Option (List (List Int)) :=
  ar (n0 + 8) fun x7 =>
  ar (x7 - 1) fun x8 =>
  ck ((8 : Int) ≠ 0) <|
  ar (Int.tdiv x8 8) fun x9 =>
  ck (mkOk 24 x9) <|
  lv ((List.replicate (x9 : Int).toNat [] : List (List Int))) fun z2_1 =>
  bd (
    lp (P_tree_chunks_2_L4 n0 x9) fuel (z2_1, 0)) fun out4_L4 =>
  some out4_L4
set_option maxHeartbeats 4000000 in
set_option maxRecDepth 100000 in
theorem c_tree_chunks_2 {w0 w : World} {l : List Assn} {ρ : Heap} {n0 : Int} {r : List (List Int)} (hF : P_tree_chunks_2 n0 = some r) (hS : St w0 w (ro ρ :: l)) :
    Calls Try.prog 102 #[.int .i64 n0] w fun e w' => ∃ (A_y0_ret : Option Addr) (n_y0_ret : Nat) (c_y0_ret : Nat), e = .returned (.slice A_y0_ret n_y0_ret c_y0_ret) ∧ True ∧ St w0 w' (vec2 22 3 (RpI .i64) A_y0_ret n_y0_ret c_y0_ret r :: ro ρ :: l) := by
  refine enterC Try.func102 rfl 36 rfl (by simp) ?_
  obtain ⟨x7, hx7, hF⟩ := ar_s hF
  obtain ⟨x8, hx8, hF⟩ := ar_s hF
  obtain ⟨hk1_3, hF⟩ := ck_s hF
  obtain ⟨x9, hx9, hF⟩ := ar_s hF
  refine x_seq <| x_region <| p (yl_assign rfl) <| x_done <|
    x_seq <| x_region <| p (yl_move rfl) <| p (yadd rfl rfl hx7) <|
    p (ysub rfl rfl hx8) <| p (yquo rfl rfl hk1_3 hx9) <| p (yl_assign rfl) <| x_done <|
    x_seq <| x_region <| p (yl_move rfl) <|
    ?_
  obtain ⟨hk2_1, hF⟩ := ck_s hF
  obtain ⟨z2_1, hz2_1, hF⟩ := lv_s hF
  refine o_mk2 (ei := 3) (R := (RpI .i64)) sl_142 zero_22 (by decide) rfl rfl hk2_1 hz2_1 hS (fun A11 w' hS => ?_)
  refine p (yl_assign rfl) <| x_done <| x_seq <| x_seq <|
    x_region <| p (yl_move rfl) <| p (yl_move rfl) <| x_done <|
    ?_
  obtain ⟨oL4, hLL4, hF⟩ := bd_s hF
  refine x_join (fun E w => ∃ (out4_L4 : List (List Int)), out4_L4 = oL4 ∧ E 4 = .slice A11 z2_1.length z2_1.length ∧ True ∧ St w0 w (vec2 22 3 (RpI .i64) A11 z2_1.length z2_1.length out4_L4 :: ro ρ :: l)) ?_ ?_
  · skip -- L4
    refine x_block ?_
    refine x_loop (fun k_ E w => ∃ (out4_L4h : List (List Int)) (y13_L4h : Int), lp (P_tree_chunks_2_L4 n0 x9) k_ (out4_L4h, y13_L4h) = some oL4 ∧ E 0 = .int .i64 n0 ∧ E 3 = .int .i64 x9 ∧ E 4 = .slice A11 z2_1.length z2_1.length ∧ E 12 = .int .i64 n0 ∧ E 13 = .int .i64 y13_L4h ∧ True ∧ St w0 w (vec2 22 3 (RpI .i64) A11 z2_1.length z2_1.length out4_L4h :: ro ρ :: l)) fuel ⟨z2_1, 0, hLL4, rfl, rfl, rfl, rfl, rfl, trivial, ((hS.pull 1).pull 1)⟩ ?_
    rintro kL4 E w ⟨out4_L4h, y13_L4h, hLL4, eL4h_0, eL4h_3, eL4h_4, eL4h_12, eL4h_13, h_out4_L4h, hS⟩
    obtain ⟨kL4, obL4, rfl, hFL4, hLL4⟩ := lp_s hLL4
    refine x_seq <| x_region <| p (yl_lss eL4h_13 eL4h_12) <| x_done <|
      x_seq <|
      x_cond_p (y13_L4h < n0) rfl (fun hc14 => ?_) (fun hc14 => ?_)
    · replace hFL4 := it_t hc14 hFL4
      refine x_skip <| x_seq <| x_block <| x_seq <|
        x_region <| p (yl_move eL4h_13) <| p (yl_assign rfl) <| x_done <|
        ?_
      obtain ⟨x19, hx19, hFL4⟩ := ar_s hFL4
      obtain ⟨hk6_5, hFL4⟩ := ck_s hFL4
      obtain ⟨x21, hx21, hFL4⟩ := ar_s hFL4
      obtain ⟨hk6_11, hFL4⟩ := ck_s hFL4
      obtain ⟨hk6_12, hFL4⟩ := ck_s hFL4
      obtain ⟨y26_13, hy26_13, hFL4⟩ := lv_s hFL4
      obtain ⟨z6_16, hz6_16, hFL4⟩ := lv_s hFL4
      obtain ⟨hk6_16, hFL4⟩ := ck_s hFL4
      obtain ⟨hk6_17, hFL4⟩ := ck_s hFL4
      obtain ⟨zr1, hzr1, hFL4⟩ := lv_s hFL4
      refine x_par (w0 := w0) [⟨[], [], [16], [], [], []⟩, ⟨[], [], [17], [], [], []⟩, ⟨[], [], [18], [], [], []⟩, ⟨[1, 2], [1, 2], [19], [], [], []⟩, ⟨[], [], [20], [], [], []⟩, ⟨[1, 2, 3, 4], [3, 4], [21], [], [], []⟩, ⟨[], [], [22], [], [], []⟩, ⟨[], [], [23], [], [], []⟩, ⟨[], [], [24], [], [], []⟩, ⟨[7, 8], [7, 8], [25], [], [], []⟩, ⟨[], [], [26], [], [], []⟩, ⟨[7, 8, 9, 10], [9, 10], [27], [], [], []⟩, ⟨[6, 7, 8, 9, 10, 11], [6, 11], [28], [0], [], []⟩, ⟨[6, 7, 8, 9, 10, 11, 12], [12], [29], [], [0], [1]⟩, ⟨[], [], [30], [], [], []⟩, ⟨[14], [14], [31], [], [], [2]⟩, ⟨[6, 7, 8, 9, 10, 11, 12, 13, 14, 15], [13, 15], [32], [2, 3], [1], [4]⟩, ⟨[0, 1, 2, 3, 4, 5, 6, 7, 8, 9, 10, 11, 12, 13, 14, 15, 16], [0, 5, 13, 16], [33], [3, 4], [], []⟩, ⟨[0, 1, 2, 3, 4, 5, 6, 7, 8, 9, 10, 11, 12, 13, 14, 15, 16, 17], [13, 16, 17], [], [3], [4], [5]⟩] [⟨none, (some 13), []⟩, ⟨(some 13), (some 16), [29]⟩, ⟨(some 15), none, [31]⟩, ⟨none, none, []⟩, ⟨(some 16), (some 18), [29, 32]⟩, ⟨(some 18), none, []⟩] [16, 17, 18, 19, 20, 21, 22, 23, 24, 25, 26, 27, 28, 29, 30, 31, 32, 33] [0, 3] [2, 3, 5] [0, 1, 2, 3, 4, 5, 6, 7, 8, 9, 10, 11, 12, 13, 14, 15, 16, 17] [fun Ep6 => Ep6 16 = .slice A11 z2_1.length z2_1.length, fun Ep6 => Ep6 17 = .int .i64 y13_L4h, fun Ep6 => Ep6 18 = .int .i64 x9, fun Ep6 => Ep6 19 = .int .i64 x19, fun Ep6 => Ep6 20 = .int .i64 n0, fun Ep6 => Ep6 21 = .int .i64 x21, fun Ep6 => Ep6 22 = .slice A11 z2_1.length z2_1.length, fun Ep6 => Ep6 23 = .int .i64 y13_L4h, fun Ep6 => Ep6 24 = .int .i64 x9, fun Ep6 => Ep6 25 = .int .i64 x19, fun Ep6 => Ep6 26 = .int .i64 n0, fun Ep6 => Ep6 27 = .int .i64 x21, fun Ep6 => Ep6 28 = .pointer (some ((adr A11).add (x21.toNat * 1))), fun Ep6 => Ep6 29 = .slice (adOf (Ep6 29)) y26_13.length (capOf (Ep6 29)), fun Ep6 => Ep6 30 = .int .i64 y13_L4h, fun Ep6 => Ep6 31 = .slice (some ⟨(blkOf (Ep6 31)), 0, none⟩) 1 1, fun Ep6 => Ep6 32 = .slice (adOf (Ep6 32)) z6_16.length (capOf (Ep6 32)), fun Ep6 => Ep6 33 = .pointer (some ((adr A11).add (x21.toNat * 1))), fun Ep6 => True] [fun Ep6 => vec2 22 3 (RpI .i64) A11 z2_1.length z2_1.length out4_L4h, fun Ep6 => bunA (fun (csr6_13 : List Value) => RepL (RpI .i64) ρ y26_13 csr6_13 ∧ True) (fun (csr6_13 : List Value) => [vec 3 (RpI .i64).sz (.slice (adOf (Ep6 29)) y26_13.length (capOf (Ep6 29))) y26_13.length csr6_13, hole 22 3 (RpI .i64) A11 z2_1.length z2_1.length out4_L4h x21.toNat ⟨(adOf (Ep6 29)), y26_13.length, (capOf (Ep6 29))⟩]), fun Ep6 => cells (blkOf (Ep6 31)) 3 [.int .i64 y13_L4h], fun Ep6 => ro ρ, fun Ep6 => bunA (fun (cs32 : List Value) => True ∧ RepL (RpI .i64) ρ z6_16 cs32) (fun (cs32 : List Value) => [hole 22 3 (RpI .i64) A11 z2_1.length z2_1.length out4_L4h x21.toNat ⟨(adOf (Ep6 29)), y26_13.length, (capOf (Ep6 29))⟩, vec 3 (RpI .i64).sz (.slice (adOf (Ep6 32)) z6_16.length (capOf (Ep6 32))) z6_16.length cs32]), fun Ep6 => bunA (fun (x : Unit) => True) (fun (x : Unit) => [vec2 22 3 (RpI .i64) A11 z2_1.length z2_1.length zr1])] mixed (by kernel_rfl) ((hS.pull 1).pull 1) ?_ ?_
      · refine ⟨?_, ?_, ?_, ?_, ?_, ?_, ?_, ?_, ?_, ?_, ?_, ?_, ?_, ?_, ?_, ?_, ?_, ?_, ?_, trivial⟩
        · intro Ep6 w l' hE6 hO6 hF_ hS
          refine p (yl_move ((hE6 4 rfl).trans eL4h_4)) <| x_done <|
            ?_
          refine x_fin ⟨⟨_, rfl⟩, rfl, ?_⟩
          exact Eq.mp (by kernel_rfl) hS
        · intro Ep6 w l' hE6 hO6 hF_ hS
          refine p (yl_move (hE6 5 rfl)) <| x_done <|
            ?_
          refine x_fin ⟨⟨_, rfl⟩, rfl, ?_⟩
          exact Eq.mp (by kernel_rfl) hS
        · intro Ep6 w l' hE6 hO6 hF_ hS
          refine p (yl_move ((hE6 3 rfl).trans eL4h_3)) <| x_done <|
            ?_
          refine x_fin ⟨⟨_, rfl⟩, rfl, ?_⟩
          exact Eq.mp (by kernel_rfl) hS
        · intro Ep6 w l' hE6 hO6 hF_ hS
          obtain ⟨f6_1, f6_2, -⟩ := hF_
          replace f6_1 : Ep6 17 = .int .i64 y13_L4h := Eq.mp (by kernel_rfl) f6_1
          replace f6_2 : Ep6 18 = .int .i64 x9 := Eq.mp (by kernel_rfl) f6_2
          refine p (ymul f6_1 f6_2 hx19) <| x_done <|
            ?_
          refine x_fin ⟨⟨_, rfl⟩, rfl, ?_⟩
          exact Eq.mp (by kernel_rfl) hS
        · intro Ep6 w l' hE6 hO6 hF_ hS
          refine p (yl_move ((hE6 0 rfl).trans eL4h_0)) <| x_done <|
            ?_
          refine x_fin ⟨⟨_, rfl⟩, rfl, ?_⟩
          exact Eq.mp (by kernel_rfl) hS
        · intro Ep6 w l' hE6 hO6 hF_ hS
          obtain ⟨f6_3, f6_4, -⟩ := hF_
          replace f6_3 : Ep6 19 = .int .i64 x19 := Eq.mp (by kernel_rfl) f6_3
          replace f6_4 : Ep6 20 = .int .i64 n0 := Eq.mp (by kernel_rfl) f6_4
          refine p (yquo f6_3 f6_4 hk6_5 hx21) <| x_done <|
            ?_
          refine x_fin ⟨⟨_, rfl⟩, rfl, ?_⟩
          exact Eq.mp (by kernel_rfl) hS
        · intro Ep6 w l' hE6 hO6 hF_ hS
          refine p (yl_move ((hE6 4 rfl).trans eL4h_4)) <| x_done <|
            ?_
          refine x_fin ⟨⟨_, rfl⟩, rfl, ?_⟩
          exact Eq.mp (by kernel_rfl) hS
        · intro Ep6 w l' hE6 hO6 hF_ hS
          refine p (yl_move (hE6 5 rfl)) <| x_done <|
            ?_
          refine x_fin ⟨⟨_, rfl⟩, rfl, ?_⟩
          exact Eq.mp (by kernel_rfl) hS
        · intro Ep6 w l' hE6 hO6 hF_ hS
          refine p (yl_move ((hE6 3 rfl).trans eL4h_3)) <| x_done <|
            ?_
          refine x_fin ⟨⟨_, rfl⟩, rfl, ?_⟩
          exact Eq.mp (by kernel_rfl) hS
        · intro Ep6 w l' hE6 hO6 hF_ hS
          obtain ⟨f6_7, f6_8, -⟩ := hF_
          replace f6_7 : Ep6 23 = .int .i64 y13_L4h := Eq.mp (by kernel_rfl) f6_7
          replace f6_8 : Ep6 24 = .int .i64 x9 := Eq.mp (by kernel_rfl) f6_8
          refine p (ymul f6_7 f6_8 hx19) <| x_done <|
            ?_
          refine x_fin ⟨⟨_, rfl⟩, rfl, ?_⟩
          exact Eq.mp (by kernel_rfl) hS
        · intro Ep6 w l' hE6 hO6 hF_ hS
          refine p (yl_move ((hE6 0 rfl).trans eL4h_0)) <| x_done <|
            ?_
          refine x_fin ⟨⟨_, rfl⟩, rfl, ?_⟩
          exact Eq.mp (by kernel_rfl) hS
        · intro Ep6 w l' hE6 hO6 hF_ hS
          obtain ⟨f6_9, f6_10, -⟩ := hF_
          replace f6_9 : Ep6 25 = .int .i64 x19 := Eq.mp (by kernel_rfl) f6_9
          replace f6_10 : Ep6 26 = .int .i64 n0 := Eq.mp (by kernel_rfl) f6_10
          refine p (yquo f6_9 f6_10 hk6_11 hx21) <| x_done <|
            ?_
          refine x_fin ⟨⟨_, rfl⟩, rfl, ?_⟩
          exact Eq.mp (by kernel_rfl) hS
        · intro Ep6 w l' hE6 hO6 hF_ hS
          obtain ⟨f6_6, f6_11, -⟩ := hF_
          replace f6_6 : Ep6 22 = .slice A11 z2_1.length z2_1.length := Eq.mp (by kernel_rfl) f6_6
          replace f6_11 : Ep6 27 = .int .i64 x21 := Eq.mp (by kernel_rfl) f6_11
          replace hS : St w0 w (vec2 22 3 (RpI .i64) A11 z2_1.length z2_1.length out4_L4h :: l') := Eq.mp (by kernel_rfl) hS
          refine p (yix2 sl_142 f6_6 f6_11 hS hk6_12) <| x_done <|
            ?_
          refine x_fin ⟨⟨_, rfl⟩, rfl, ?_⟩
          exact Eq.mp (by kernel_rfl) hS
        · intro Ep6 w l' hE6 hO6 hF_ hS
          obtain ⟨f6_12, -⟩ := hF_
          replace f6_12 : Ep6 28 = .pointer (some ((adr A11).add (x21.toNat * 1))) := Eq.mp (by kernel_rfl) f6_12
          replace hS : St w0 w (vec2 22 3 (RpI .i64) A11 z2_1.length z2_1.length out4_L4h :: l') := Eq.mp (by kernel_rfl) hS
          obtain ⟨Ar6_13, nr6_13, cr6_13, csr6_13, hrr6_13, hS⟩ := St.open2 hk6_12 hS
          rw [← hy26_13] at hrr6_13
          replace hrr6_13 := hrr6_13 ρ
          obtain rfl := St.vec_n hS hrr6_13
          refine pa (at_load one_22 f6_12 (hole_cell (hS.pull 1))) <| x_done <|
            ?_
          refine x_fin ⟨⟨_, rfl⟩, rfl, ?_⟩
          replace hS := St.bun (Φ := (fun (csr6_13 : List Value) => RepL (RpI .i64) ρ y26_13 csr6_13 ∧ True)) (L := (fun (csr6_13 : List Value) => [vec 3 (RpI .i64).sz (.slice Ar6_13 y26_13.length cr6_13) y26_13.length csr6_13, hole 22 3 (RpI .i64) A11 z2_1.length z2_1.length out4_L4h x21.toNat ⟨Ar6_13, y26_13.length, cr6_13⟩])) csr6_13 ⟨hrr6_13, trivial⟩ ((hS.pull 1).pull 1)
          exact Eq.mp (by kernel_rfl) hS
        · intro Ep6 w l' hE6 hO6 hF_ hS
          refine p (yl_move (hE6 5 rfl)) <| x_done <|
            ?_
          refine x_fin ⟨⟨_, rfl⟩, rfl, ?_⟩
          exact Eq.mp (by kernel_rfl) hS
        · intro Ep6 w l' hE6 hO6 hF_ hS
          obtain ⟨f6_14, -⟩ := hF_
          replace f6_14 : Ep6 30 = .int .i64 y13_L4h := Eq.mp (by kernel_rfl) f6_14
          refine o_buildSlice (vs := [.int .i64 y13_L4h]) (cs := [.int .i64 y13_L4h]) sl_22 zero_3 (parts_eq (pt (va := .int .i64 y13_L4h) f6_14 pt0)) rfl (by intro v hv; simp only [List.mem_cons, List.not_mem_nil, or_false] at hv; first | (subst hv; rfl) | (rcases hv with rfl <;> rfl)) (by decide) rfl hS (fun b31 w' hS => ?_)
          refine x_done <|
            ?_
          refine x_fin ⟨⟨_, rfl⟩, rfl, ?_⟩
          exact Eq.mp (by kernel_rfl) hS
        · intro Ep6 w l' hE6 hO6 hF_ hS
          obtain ⟨f6_13, f6_15, -⟩ := hF_
          replace f6_13 : Ep6 29 = .slice (adOf (Ep6 29)) y26_13.length (capOf (Ep6 29)) := Eq.mp (by kernel_rfl) f6_13
          replace f6_15 : Ep6 31 = .slice (some ⟨(blkOf (Ep6 31)), 0, none⟩) 1 1 := Eq.mp (by kernel_rfl) f6_15
          replace hS : St w0 w (cells (blkOf (Ep6 31)) 3 [.int .i64 y13_L4h] :: ro ρ :: bunA (fun (csr6_13 : List Value) => RepL (RpI .i64) ρ y26_13 csr6_13 ∧ True) (fun (csr6_13 : List Value) => [vec 3 (RpI .i64).sz (.slice (adOf (Ep6 29)) y26_13.length (capOf (Ep6 29))) y26_13.length csr6_13, hole 22 3 (RpI .i64) A11 z2_1.length z2_1.length out4_L4h x21.toNat ⟨(adOf (Ep6 29)), y26_13.length, (capOf (Ep6 29))⟩]) :: l') := Eq.mp (by kernel_rfl) hS
          obtain ⟨csr6_13, ⟨hrr6_13, h_out4_L4h⟩, hS⟩ := St.unbun (hS.pull 2)
          refine o_ap sl_22 zero_3 rfl (by decide) f6_13 f6_15 hS hrr6_13 (src_blk usl_22 (hS.pull 2) rfl rfl) (RepL.cons (R := (RpI .i64)) (ρ := ρ) (x := y13_L4h) (cs := [.int .i64 y13_L4h]) rfl RepL.nil) hz6_16 hk6_16 (fun A32 c32 cs32 w' hr32 hS => ?_)
          refine x_done <|
            ?_
          refine x_fin ⟨⟨_, rfl⟩, rfl, ?_⟩
          replace hS := St.bun (Φ := (fun (cs32 : List Value) => True ∧ RepL (RpI .i64) ρ z6_16 cs32)) (L := (fun (cs32 : List Value) => [hole 22 3 (RpI .i64) A11 z2_1.length z2_1.length out4_L4h x21.toNat ⟨(adOf (Ep6 29)), y26_13.length, (capOf (Ep6 29))⟩, vec 3 (RpI .i64).sz (.slice A32 z6_16.length c32) z6_16.length cs32])) cs32 ⟨trivial, hr32⟩ (hS.pull 1)
          exact Eq.mp (by kernel_rfl) ((hS.pull 2).pull 2)
        · intro Ep6 w l' hE6 hO6 hF_ hS
          obtain ⟨f6_0, f6_5, f6_13, f6_16, -⟩ := hF_
          replace f6_0 : Ep6 16 = .slice A11 z2_1.length z2_1.length := Eq.mp (by kernel_rfl) f6_0
          replace f6_5 : Ep6 21 = .int .i64 x21 := Eq.mp (by kernel_rfl) f6_5
          replace f6_13 : Ep6 29 = .slice (adOf (Ep6 29)) y26_13.length (capOf (Ep6 29)) := Eq.mp (by kernel_rfl) f6_13
          replace f6_16 : Ep6 32 = .slice (adOf (Ep6 32)) z6_16.length (capOf (Ep6 32)) := Eq.mp (by kernel_rfl) f6_16
          replace hS : St w0 w (ro ρ :: bunA (fun (cs32 : List Value) => True ∧ RepL (RpI .i64) ρ z6_16 cs32) (fun (cs32 : List Value) => [hole 22 3 (RpI .i64) A11 z2_1.length z2_1.length out4_L4h x21.toNat ⟨(adOf (Ep6 29)), y26_13.length, (capOf (Ep6 29))⟩, vec 3 (RpI .i64).sz (.slice (adOf (Ep6 32)) z6_16.length (capOf (Ep6 32))) z6_16.length cs32]) :: l') := Eq.mp (by kernel_rfl) hS
          obtain ⟨cs32, ⟨h_out4_L4h, hr32⟩, hS⟩ := St.unbun (hS.pull 1)
          refine p (yix2h sl_142 f6_0 f6_5 hS hk6_17) <| x_done <|
            ?_
          refine x_fin ⟨⟨_, rfl⟩, rfl, ?_⟩
          replace hS := St.bun (Φ := (fun (cs32 : List Value) => True ∧ RepL (RpI .i64) ρ z6_16 cs32)) (L := (fun (cs32 : List Value) => [hole 22 3 (RpI .i64) A11 z2_1.length z2_1.length out4_L4h x21.toNat ⟨(adOf (Ep6 29)), y26_13.length, (capOf (Ep6 29))⟩, vec 3 (RpI .i64).sz (.slice (adOf (Ep6 32)) z6_16.length (capOf (Ep6 32))) z6_16.length cs32])) cs32 ⟨h_out4_L4h, hr32⟩ ((hS.pull 1).pull 1)
          exact Eq.mp (by kernel_rfl) (hS.pull 1)
        · intro Ep6 w l' hE6 hO6 hF_ hS
          obtain ⟨f6_13, f6_16, f6_17, -⟩ := hF_
          replace f6_13 : Ep6 29 = .slice (adOf (Ep6 29)) y26_13.length (capOf (Ep6 29)) := Eq.mp (by kernel_rfl) f6_13
          replace f6_16 : Ep6 32 = .slice (adOf (Ep6 32)) z6_16.length (capOf (Ep6 32)) := Eq.mp (by kernel_rfl) f6_16
          replace f6_17 : Ep6 33 = .pointer (some ((adr A11).add (x21.toNat * 1))) := Eq.mp (by kernel_rfl) f6_17
          replace hS : St w0 w (ro ρ :: bunA (fun (cs32 : List Value) => True ∧ RepL (RpI .i64) ρ z6_16 cs32) (fun (cs32 : List Value) => [hole 22 3 (RpI .i64) A11 z2_1.length z2_1.length out4_L4h x21.toNat ⟨(adOf (Ep6 29)), y26_13.length, (capOf (Ep6 29))⟩, vec 3 (RpI .i64).sz (.slice (adOf (Ep6 32)) z6_16.length (capOf (Ep6 32))) z6_16.length cs32]) :: l') := Eq.mp (by kernel_rfl) hS
          obtain ⟨cs32, ⟨h_out4_L4h, hr32⟩, hS⟩ := St.unbun (hS.pull 1)
          refine o_put2 sz_22 f6_17 f6_16 rfl hk6_12 hS (fun w' hS => ?_)
          replace hS := St.close2 hk6_12 (fun _ => RepL.flat (fun h => h) hr32) (hS.pull 1)
          rw [← hzr1] at hS
          refine x_done <|
            ?_
          refine x_fin ⟨⟨undef, rfl⟩, trivial, ?_⟩
          replace hS := St.bun (Φ := (fun (x : Unit) => True)) (L := (fun (x : Unit) => [vec2 22 3 (RpI .i64) A11 z2_1.length z2_1.length zr1])) () trivial hS
          exact Eq.mp (by kernel_rfl) (hS.pull 1)
      intro Ep6 w' hE6 hF_ hS
      obtain ⟨f6_0, f6_1, f6_2, f6_3, f6_4, f6_5, f6_6, f6_7, f6_8, f6_9, f6_10, f6_11, f6_12, f6_13, f6_14, f6_15, f6_16, f6_17, -⟩ := hF_
      replace f6_0 : Ep6 16 = .slice A11 z2_1.length z2_1.length := Eq.mp (by kernel_rfl) f6_0
      replace f6_1 : Ep6 17 = .int .i64 y13_L4h := Eq.mp (by kernel_rfl) f6_1
      replace f6_2 : Ep6 18 = .int .i64 x9 := Eq.mp (by kernel_rfl) f6_2
      replace f6_3 : Ep6 19 = .int .i64 x19 := Eq.mp (by kernel_rfl) f6_3
      replace f6_4 : Ep6 20 = .int .i64 n0 := Eq.mp (by kernel_rfl) f6_4
      replace f6_5 : Ep6 21 = .int .i64 x21 := Eq.mp (by kernel_rfl) f6_5
      replace f6_6 : Ep6 22 = .slice A11 z2_1.length z2_1.length := Eq.mp (by kernel_rfl) f6_6
      replace f6_7 : Ep6 23 = .int .i64 y13_L4h := Eq.mp (by kernel_rfl) f6_7
      replace f6_8 : Ep6 24 = .int .i64 x9 := Eq.mp (by kernel_rfl) f6_8
      replace f6_9 : Ep6 25 = .int .i64 x19 := Eq.mp (by kernel_rfl) f6_9
      replace f6_10 : Ep6 26 = .int .i64 n0 := Eq.mp (by kernel_rfl) f6_10
      replace f6_11 : Ep6 27 = .int .i64 x21 := Eq.mp (by kernel_rfl) f6_11
      replace f6_12 : Ep6 28 = .pointer (some ((adr A11).add (x21.toNat * 1))) := Eq.mp (by kernel_rfl) f6_12
      replace f6_13 : Ep6 29 = .slice (adOf (Ep6 29)) y26_13.length (capOf (Ep6 29)) := Eq.mp (by kernel_rfl) f6_13
      replace f6_14 : Ep6 30 = .int .i64 y13_L4h := Eq.mp (by kernel_rfl) f6_14
      replace f6_15 : Ep6 31 = .slice (some ⟨(blkOf (Ep6 31)), 0, none⟩) 1 1 := Eq.mp (by kernel_rfl) f6_15
      replace f6_16 : Ep6 32 = .slice (adOf (Ep6 32)) z6_16.length (capOf (Ep6 32)) := Eq.mp (by kernel_rfl) f6_16
      replace f6_17 : Ep6 33 = .pointer (some ((adr A11).add (x21.toNat * 1))) := Eq.mp (by kernel_rfl) f6_17
      replace hS : St w0 w' (cells (blkOf (Ep6 31)) 3 [.int .i64 y13_L4h] :: ro ρ :: bunA (fun (x : Unit) => True) (fun (x : Unit) => [vec2 22 3 (RpI .i64) A11 z2_1.length z2_1.length zr1]) :: (l)) := Eq.mp (by kernel_rfl) hS
      obtain ⟨⟨⟩, h_out4_L4h, hS⟩ := St.unbun (hS.pull 2)
      obtain ⟨x34, hx34, hFL4⟩ := ar_s hFL4
      refine x_blk <| x_region <| p (yadd ((hE6 13 rfl).trans eL4h_13) rfl hx34) <| p (yl_move rfl) <|
        x_done <|
        ?_
      obtain rfl := Option.some.inj (show some _ = some _ from hFL4)
      exact x_inv ⟨kL4, Nat.lt_succ_self _, zr1, x34, hLL4, ((hE6 0 rfl).trans eL4h_0), ((hE6 3 rfl).trans eL4h_3), ((hE6 4 rfl).trans eL4h_4), ((hE6 12 rfl).trans eL4h_12), rfl, trivial, (((hS.pull 1).drop.pull 1).pull 1)⟩
    · replace hFL4 := it_f hc14 hFL4
      refine x_exitTo _ rfl <|
        ?_
      obtain rfl := Option.some.inj (show some _ = some _ from hFL4)
      exact x_inv ⟨out4_L4h, hLL4, eL4h_4, trivial, ((hS.pull 1).pull 1)⟩
  rintro E w ⟨out4_L4, rfl, eL4_4, h_out4_L4, hS⟩
  refine x_seq <| x_region <| p (yl_move eL4_4) <| p (yl_assign rfl) <|
    x_done <|
    ?_
  obtain rfl := Option.some.inj (show some _ = some _ from hF)
  exact x_return ⟨_, ⟨_, _, rfl, rfl, rfl⟩, A11, z2_1.length, z2_1.length, rfl, trivial, ((hS.pull 1).pull 1)⟩
attribute [irreducible] P_tree_chunks_2

def P_tree_grow_2_L0 (b1 : Int) : List Int → Option (List Int ⊕ List Int) := fun b_t0_1_L0h =>
  if (b_t0_1_L0h.length : Int) ≤ b1 then
    lv (b_t0_1_L0h ++ [(-1)]) fun z1_6 =>
    ck (apOk 8 z1_6.length) <|
    some (Sum.inl z1_6)
  else
    some (Sum.inr b_t0_1_L0h)
def P_tree_grow_2 (t0 : T_tree_Tree) (b1 : Int) (up2 : Int) : Option (List Int) :=
  bd (
    lp (P_tree_grow_2_L0 b1) fuel t0.Up) fun b_t0_1_L0 =>
  bd (
    if 0 ≤ up2 then
      ck (inb b1 b_t0_1_L0.length) <|
      lv (stt b_t0_1_L0 b1 up2) fun z3_7 =>
      some z3_7
    else
      some b_t0_1_L0) fun b_t0_1_c23 =>
  some b_t0_1_c23
set_option maxHeartbeats 4000000 in
set_option maxRecDepth 100000 in
theorem c_tree_grow_2 {w0 w : World} {l : List Assn} {ρ : Heap} {b_t0 : Nat} {A_t0_1 : Option Addr} {n_t0_1 : Nat} {c_t0_1 : Nat} {cs_t0_1 : List Value} {A_t0_2 : Option Addr} {n_t0_2 : Nat} {c_t0_2 : Nat} {cs_t0_2 : List Value} {t0 : T_tree_Tree} {b1 : Int} {up2 : Int} {r : List Int} (hF : P_tree_grow_2 t0 b1 up2 = some r) (h_t0_1 : RepL (RpI .i64) ρ t0.Up cs_t0_1) (h_t0_2 : RepL (RpI .i64) ρ t0.Leaf cs_t0_2) (hS : St w0 w (cells b_t0 38 [.int .i64 t0.Cell, .slice A_t0_1 n_t0_1 c_t0_1, .slice A_t0_2 n_t0_2 c_t0_2] :: vec 3 (RpI .i64).sz (.slice A_t0_1 n_t0_1 c_t0_1) n_t0_1 cs_t0_1 :: vec 3 (RpI .i64).sz (.slice A_t0_2 n_t0_2 c_t0_2) n_t0_2 cs_t0_2 :: ro ρ :: l)) :
    Calls Try.prog 103 #[.pointer (some ⟨b_t0, 0, none⟩), .int .i64 b1, .int .i64 up2] w fun e w' => ∃ (A_b_t0_1_ret : Option Addr) (n_b_t0_1_ret : Nat) (c_b_t0_1_ret : Nat) (cs_b_t0_1_ret : List Value), e = .returned (.tuple #[]) ∧ RepL (RpI .i64) ρ r cs_b_t0_1_ret ∧ St w0 w' (cells b_t0 38 [.int .i64 t0.Cell, .slice A_b_t0_1_ret n_b_t0_1_ret c_b_t0_1_ret, .slice A_t0_2 n_t0_2 c_t0_2] :: vec 3 (RpI .i64).sz (.slice A_t0_2 n_t0_2 c_t0_2) n_t0_2 cs_t0_2 :: vec 3 (RpI .i64).sz (.slice A_b_t0_1_ret n_b_t0_1_ret c_b_t0_1_ret) n_b_t0_1_ret cs_b_t0_1_ret :: ro ρ :: l) := by
  obtain rfl := St.vec_n (hS.pull 1) h_t0_1
  obtain rfl := St.vec_n (hS.pull 2) h_t0_2
  refine enterC Try.func103 rfl 31 rfl (by simp) ?_
  refine x_seq <|
    ?_
  obtain ⟨oL0, hLL0, hF⟩ := bd_s hF
  refine x_join (fun E w => ∃ (A_b_t0_1_L0 : Option Addr) (n_b_t0_1_L0 : Nat) (c_b_t0_1_L0 : Nat) (cs_b_t0_1_L0 : List Value) (b_t0_1_L0 : List Int), b_t0_1_L0 = oL0 ∧ E 0 = .pointer (some ⟨b_t0, 0, none⟩) ∧ E 1 = .int .i64 b1 ∧ E 2 = .int .i64 up2 ∧ RepL (RpI .i64) ρ b_t0_1_L0 cs_b_t0_1_L0 ∧ St w0 w (cells b_t0 38 [.int .i64 t0.Cell, .slice A_b_t0_1_L0 n_b_t0_1_L0 c_b_t0_1_L0, .slice A_t0_2 t0.Leaf.length c_t0_2] :: vec 3 (RpI .i64).sz (.slice A_t0_2 t0.Leaf.length c_t0_2) t0.Leaf.length cs_t0_2 :: vec 3 (RpI .i64).sz (.slice A_b_t0_1_L0 n_b_t0_1_L0 c_b_t0_1_L0) n_b_t0_1_L0 cs_b_t0_1_L0 :: ro ρ :: l)) ?_ ?_
  · skip -- L0
    refine x_block ?_
    refine x_loop (fun k_ E w => ∃ (A_b_t0_1_L0h : Option Addr) (n_b_t0_1_L0h : Nat) (c_b_t0_1_L0h : Nat) (cs_b_t0_1_L0h : List Value) (b_t0_1_L0h : List Int), lp (P_tree_grow_2_L0 b1) k_ b_t0_1_L0h = some oL0 ∧ E 0 = .pointer (some ⟨b_t0, 0, none⟩) ∧ E 1 = .int .i64 b1 ∧ E 2 = .int .i64 up2 ∧ RepL (RpI .i64) ρ b_t0_1_L0h cs_b_t0_1_L0h ∧ St w0 w (cells b_t0 38 [.int .i64 t0.Cell, .slice A_b_t0_1_L0h n_b_t0_1_L0h c_b_t0_1_L0h, .slice A_t0_2 t0.Leaf.length c_t0_2] :: vec 3 (RpI .i64).sz (.slice A_t0_2 t0.Leaf.length c_t0_2) t0.Leaf.length cs_t0_2 :: vec 3 (RpI .i64).sz (.slice A_b_t0_1_L0h n_b_t0_1_L0h c_b_t0_1_L0h) n_b_t0_1_L0h cs_b_t0_1_L0h :: ro ρ :: l)) fuel ⟨A_t0_1, t0.Up.length, c_t0_1, cs_t0_1, t0.Up, hLL0, rfl, rfl, rfl, h_t0_1, ((((hS.pull 3).pull 2).pull 3).pull 3)⟩ ?_
    rintro kL0 E w ⟨A_b_t0_1_L0h, n_b_t0_1_L0h, c_b_t0_1_L0h, cs_b_t0_1_L0h, b_t0_1_L0h, hLL0, eL0h_0, eL0h_1, eL0h_2, h_b_t0_1_L0h, hS⟩
    obtain rfl := St.vec_n (hS.pull 2) h_b_t0_1_L0h
    obtain ⟨kL0, obL0, rfl, hFL0, hLL0⟩ := lp_s hLL0
    refine x_seq <| x_seq <| x_region <| p (yl_move eL0h_0) <|
      p (yl_nilCheck rfl) <| p (yl_field0 fld_38_1 rfl) <| pa (at_load one_22 rfl (hS.cell rfl)) <| p (yl_len_slice usl_22 rfl) <|
      p (yl_move eL0h_1) <| p (yl_leq rfl rfl) <| x_done <|
      x_cond_p ((b_t0_1_L0h.length : Int) ≤ b1) rfl (fun hc12 => ?_) (fun hc12 => ?_)
    · replace hFL0 := it_t hc12 hFL0
      refine x_skip <| x_block <| x_region <| p (yl_move eL0h_0) <|
        p (yl_move eL0h_0) <| p (yl_nilCheck rfl) <| p (yl_field0 fld_38_1 rfl) <| pa (at_load one_22 rfl (hS.cell rfl)) <|
        ?_
      refine o_buildSlice (vs := [.int .i64 (-1)]) (cs := [.int .i64 (-1)]) sl_22 zero_3 (parts_eq (pt (va := .int .i64 (-1)) rfl pt0)) rfl (by intro v hv; simp only [List.mem_cons, List.not_mem_nil, or_false] at hv; first | (subst hv; rfl) | (rcases hv with rfl <;> rfl)) (by decide) rfl hS (fun b18 w' hS => ?_)
      obtain ⟨z1_6, hz1_6, hFL0⟩ := lv_s hFL0
      obtain ⟨hk1_6, hFL0⟩ := ck_s hFL0
      refine o_ap sl_22 zero_3 rfl (by decide) rfl rfl (hS.pull 3) h_b_t0_1_L0h (src_blk usl_22 hS rfl rfl) (RepL.cons (R := (RpI .i64)) (ρ := ρ) (x := (-1)) (cs := [.int .i64 (-1)]) rfl RepL.nil) hz1_6 hk1_6 (fun A19 c19 cs19 w' hr19 hS => ?_)
      refine p (yl_nilCheck rfl) <| p (yl_field0 fld_38_1 rfl) <|
        ?_
      refine o_store1 (v := .slice A19 z1_6.length c19) one_22 rfl rfl rfl rfl (hS.pull 2) (fun w' hS => ?_)
      refine x_done <| x_blk <|
        ?_
      obtain rfl := Option.some.inj (show some _ = some _ from hFL0)
      exact x_inv ⟨kL0, Nat.lt_succ_self _, A19, z1_6.length, c19, cs19, z1_6, hLL0, eL0h_0, eL0h_1, eL0h_2, hr19, (((((hS.pull 2).drop.pull 3).pull 2).pull 3).pull 3)⟩
    · replace hFL0 := it_f hc12 hFL0
      refine x_exitTo _ rfl <|
        ?_
      obtain rfl := Option.some.inj (show some _ = some _ from hFL0)
      exact x_inv ⟨A_b_t0_1_L0h, b_t0_1_L0h.length, c_b_t0_1_L0h, cs_b_t0_1_L0h, b_t0_1_L0h, hLL0, eL0h_0, eL0h_1, eL0h_2, h_b_t0_1_L0h, ((((hS.pull 3).pull 3).pull 3).pull 3)⟩
  rintro E w ⟨A_b_t0_1_L0, n_b_t0_1_L0, c_b_t0_1_L0, cs_b_t0_1_L0, b_t0_1_L0, rfl, eL0_0, eL0_1, eL0_2, h_b_t0_1_L0, hS⟩
  obtain rfl := St.vec_n (hS.pull 2) h_b_t0_1_L0
  refine x_seq <| x_region <| p (yl_move eL0_2) <| p (yl_geq rfl rfl) <|
    x_done <|
    ?_
  obtain ⟨oc23, hFc23, hF⟩ := bd_s hF
  refine x_join (fun E w => ∃ (cs_b_t0_1_c23 : List Value) (b_t0_1_c23 : List Int), b_t0_1_c23 = oc23 ∧ RepL (RpI .i64) ρ b_t0_1_c23 cs_b_t0_1_c23 ∧ St w0 w (cells b_t0 38 [.int .i64 t0.Cell, .slice A_b_t0_1_L0 b_t0_1_L0.length c_b_t0_1_L0, .slice A_t0_2 t0.Leaf.length c_t0_2] :: vec 3 (RpI .i64).sz (.slice A_t0_2 t0.Leaf.length c_t0_2) t0.Leaf.length cs_t0_2 :: vec 3 (RpI .i64).sz (.slice A_b_t0_1_L0 b_t0_1_L0.length c_b_t0_1_L0) b_t0_1_L0.length cs_b_t0_1_c23 :: ro ρ :: l)) ?_ ?_
  · skip -- c23
    refine x_cond_p (0 ≤ up2) rfl (fun hc23 => ?_) (fun hc23 => ?_)
    · replace hFc23 := it_t hc23 hFc23
      obtain ⟨hk3_6, hFc23⟩ := ck_s hFc23
      refine x_region <| p (yl_move eL0_0) <| p (yl_nilCheck rfl) <| p (yl_field0 fld_38_1 rfl) <|
        pa (at_load one_22 rfl (hS.cell rfl)) <| p (yl_move eL0_1) <| p (yl_move eL0_2) <| p (yix_o sl_22 rfl rfl (hS.pull 2) h_b_t0_1_L0 hk3_6) <|
        ?_
      obtain ⟨z3_7, hz3_7, hFc23⟩ := lv_s hFc23
      refine o_put' (news := [.int .i64 up2]) sz_3 rfl rfl rfl rfl (o := 0) rfl hk3_6 rfl (hS.pull 2) h_b_t0_1_L0 (Le.refl _) (fun c hc => ok_all hc (show (RpI .i64).ok ρ [.int .i64 up2] up2 from rfl)) hz3_7 (fun cs3_7 w' hr3_7 hS => ?_)
      refine x_done <|
        ?_
      exact x_inv ⟨cs3_7, z3_7, (Option.some.inj (show some _ = some _ from hFc23)), hr3_7, ((((hS.pull 3).pull 1).pull 3).pull 3)⟩
    · replace hFc23 := it_f hc23 hFc23
      refine x_skip <|
        ?_
      exact x_inv ⟨cs_b_t0_1_L0, b_t0_1_L0, (Option.some.inj (show some _ = some _ from hFc23)), h_b_t0_1_L0, ((((hS.pull 3).pull 3).pull 3).pull 3)⟩
  rintro E w ⟨cs_b_t0_1_c23, b_t0_1_c23, rfl, h_b_t0_1_c23, hS⟩
  obtain rfl := Option.some.inj (show some _ = some _ from hF)
  exact x_fin ⟨_, rfl, A_b_t0_1_L0, b_t0_1_L0.length, c_b_t0_1_L0, cs_b_t0_1_c23, rfl, h_b_t0_1_c23, ((((hS.pull 3).pull 3).pull 3).pull 3)⟩
attribute [irreducible] P_tree_grow_2

def P_tree_Build_L11 (z6_2 : List Int) : (Int × List Int) → Option ((Int × List Int) ⊕ List Int) := fun (y44_L11h, b7_2_L11h) =>
  if y44_L11h < (z6_2.length : Int) then
    ck (inb y44_L11h b7_2_L11h.length) <|
    lv (stt b7_2_L11h y44_L11h (-1)) fun z13_4 =>
    ar (y44_L11h + 1) fun x51 =>
    some (Sum.inl (x51, z13_4))
  else
    some (Sum.inr b7_2_L11h)
def P_tree_Build_L22 : (List (List (List Int)) × Int) → Option ((List (List (List Int)) × Int) ⊕ List (List (List Int))) := fun (levels12_L22h, many13_L22h) =>
  if 8 < many13_L22h then
    bd (P_tree_chunks_2 many13_L22h) fun r24_1 =>
    lv (levels12_L22h ++ [r24_1]) fun z25_3 =>
    ck (apOk 24 z25_3.length) <|
    some (Sum.inl (z25_3, (r24_1.length : Int)))
  else
    some (Sum.inr levels12_L22h)
def P_tree_Build_L35 (r7_1 : Int) (r8_1 : List Int) (levels12_L22 : List (List (List Int))) (y33_2 : List Int) (y94_L32h : Int) (first14_L28h : Int) (k15_L28h : Int) : (Int × List Int × List Int) → Option ((Int × List Int × List Int) ⊕ (List Int × List Int)) := fun (y101_L35h, b7_1_L35h, b7_2_L35h) =>
  if y101_L35h < (y33_2.length : Int) then
    ck (inb y101_L35h y33_2.length) <|
    lv (gt y33_2 y101_L35h) fun x104 =>
    bd (
      if k15_L28h = 0 then
        ck (inb x104 r8_1.length) <|
        lv (gt r8_1 x104) fun x112 =>
        ar (first14_L28h + y94_L32h) fun x115 =>
        ck (inb x112 b7_2_L35h.length) <|
        lv (stt b7_2_L35h x112 x115) fun z38_10 =>
        some (b7_1_L35h, z38_10)
      else
        ck (inb k15_L28h levels12_L22.length) <|
        lv (gt levels12_L22 k15_L28h) fun y39_4 =>
        ar (first14_L28h + (y39_4.length : Int)) fun x123 =>
        ar (x123 + x104) fun x126 =>
        ar (first14_L28h + y94_L32h) fun x129 =>
        bd (P_tree_grow_2 (T_tree_Tree.mk r7_1 b7_1_L35h b7_2_L35h) x126 x129) fun r40_6 =>
        some (r40_6, b7_2_L35h)) fun (b7_1_c106, b7_2_c106) =>
    ar (y101_L35h + 1) fun x131 =>
    some (Sum.inl (x131, b7_1_c106, b7_2_c106))
  else
    some (Sum.inr (b7_1_L35h, b7_2_L35h))
def P_tree_Build_L32 (r7_1 : Int) (r8_1 : List Int) (levels12_L22 : List (List (List Int))) (y31_3 : List (List Int)) (first14_L28h : Int) (k15_L28h : Int) : (Int × List Int × List Int) → Option ((Int × List Int × List Int) ⊕ (List Int × List Int)) := fun (y94_L32h, b7_1_L32h, b7_2_L32h) =>
  if y94_L32h < (y31_3.length : Int) then
    ck (inb y94_L32h y31_3.length) <|
    lv (gt y31_3 y94_L32h) fun y33_2 =>
    bd (
      lp (P_tree_Build_L35 r7_1 r8_1 levels12_L22 y33_2 y94_L32h first14_L28h k15_L28h) fuel (0, b7_1_L32h, b7_2_L32h)) fun (b7_1_L35, b7_2_L35) =>
    ar (y94_L32h + 1) fun x132 =>
    some (Sum.inl (x132, b7_1_L35, b7_2_L35))
  else
    some (Sum.inr (b7_1_L32h, b7_2_L32h))
def P_tree_Build_L28 (r7_1 : Int) (r8_1 : List Int) (levels12_L22 : List (List (List Int))) : (Int × Int × List Int × List Int) → Option ((Int × Int × List Int × List Int) ⊕ (List Int × List Int)) := fun (first14_L28h, k15_L28h, b7_1_L28h, b7_2_L28h) =>
  if 0 ≤ k15_L28h then
    ck (inb k15_L28h levels12_L22.length) <|
    lv (gt levels12_L22 k15_L28h) fun y30_4 =>
    ar (first14_L28h + (y30_4.length : Int)) fun x86 =>
    ar (x86 - 1) fun x87 =>
    bd (P_tree_grow_2 (T_tree_Tree.mk r7_1 b7_1_L28h b7_2_L28h) x87 (-1)) fun r30_8 =>
    ck (inb k15_L28h levels12_L22.length) <|
    lv (gt levels12_L22 k15_L28h) fun y31_3 =>
    bd (
      lp (P_tree_Build_L32 r7_1 r8_1 levels12_L22 y31_3 first14_L28h k15_L28h) fuel (0, r30_8, b7_2_L28h)) fun (b7_1_L32, b7_2_L32) =>
    ck (inb k15_L28h levels12_L22.length) <|
    lv (gt levels12_L22 k15_L28h) fun y43_4 =>
    ar (first14_L28h + (y43_4.length : Int)) fun x139 =>
    ar (k15_L28h - 1) fun x79 =>
    some (Sum.inl (x139, x79, b7_1_L32, b7_2_L32))
  else
    some (Sum.inr (b7_1_L28h, b7_2_L28h))
def P_tree_Build (at_0 : List T_floor_Point) (l_1 : List T_api_Cell) : Option (T_tree_Tree × Int) :=
  bd (P_lib_Check l_1) fun r1_1 =>
  if r1_1 ≠ 0 then
    some ((T_tree_Tree.mk 0 [] []), r1_1)
  else
    if 288 < (at_0.length : Int) then
      some ((T_tree_Tree.mk 0 [] []), 3)
    else
      ck (mkOk 8 (at_0.length : Int)) <|
      lv ((List.replicate ((at_0.length : Int) : Int).toNat 0 : List Int)) fun z6_2 =>
      bd (P_slices_IndexFunc_api_Cell_api_Cell_2 l_1) fun r7_1 =>
      bd (P_tree_inOrder at_0) fun r8_1 =>
      bd (
        lp (P_tree_Build_L11 z6_2) fuel (0, z6_2)) fun b7_2_L11 =>
      if (at_0.length : Int) ≤ 8 then
        some ((T_tree_Tree.mk 0 [] b7_2_L11), 0)
      else
        if r7_1 < 0 then
          some ((T_tree_Tree.mk 0 [] []), 7)
        else
          bd (
            lp P_tree_Build_L22 fuel ([], (at_0.length : Int))) fun levels12_L22 =>
          ar ((levels12_L22.length : Int) - 1) fun x75 =>
          bd (
            lp (P_tree_Build_L28 r7_1 r8_1 levels12_L22) fuel (0, x75, [], b7_2_L11)) fun (b7_1_L28, b7_2_L28) =>
          some ((T_tree_Tree.mk r7_1 b7_1_L28 b7_2_L28), 0)
set_option maxHeartbeats 4000000 in
set_option maxRecDepth 100000 in
theorem c_tree_Build {w0 w : World} {l : List Assn} {ρ : Heap} {A_at_0 : Option Addr} {n_at_0 : Nat} {c_at_0 : Nat} {A_l_1 : Option Addr} {n_l_1 : Nat} {c_l_1 : Nat} {at_0 : List T_floor_Point} {l_1 : List T_api_Cell} {r : (T_tree_Tree × Int)} (hF : P_tree_Build at_0 l_1 = some r) (h_at_0 : RdS R_floor_Point ρ A_at_0 n_at_0 c_at_0 at_0) (h_l_1 : RdS R_api_Cell ρ A_l_1 n_l_1 c_l_1 l_1) (hS : St w0 w (ro ρ :: l)) :
    Calls Try.prog 41 #[.slice A_at_0 n_at_0 c_at_0, .slice A_l_1 n_l_1 c_l_1] w fun e w' => ∃ (A_y0_ret_1 : Option Addr) (n_y0_ret_1 : Nat) (c_y0_ret_1 : Nat) (cs_y0_ret_1 : List Value) (A_y0_ret_2 : Option Addr) (n_y0_ret_2 : Nat) (c_y0_ret_2 : Nat) (cs_y0_ret_2 : List Value), e = .returned (.tuple #[.agg #[.int .i64 r.1.Cell, .slice A_y0_ret_1 n_y0_ret_1 c_y0_ret_1, .slice A_y0_ret_2 n_y0_ret_2 c_y0_ret_2], .int .i64 r.2]) ∧ RepL (RpI .i64) ρ r.1.Up cs_y0_ret_1 ∧ RepL (RpI .i64) ρ r.1.Leaf cs_y0_ret_2 ∧ St w0 w' (vec 3 (RpI .i64).sz (.slice A_y0_ret_1 n_y0_ret_1 c_y0_ret_1) n_y0_ret_1 cs_y0_ret_1 :: vec 3 (RpI .i64).sz (.slice A_y0_ret_2 n_y0_ret_2 c_y0_ret_2) n_y0_ret_2 cs_y0_ret_2 :: ro ρ :: l) := by
  obtain rfl := h_at_0.n
  obtain rfl := h_l_1.n
  refine enterC Try.func41 rfl 141 rfl (by simp) ?_
  refine x_seq <| x_region <|
    ?_
  refine o_alloc zero_38 hS (fun b4 w' hS => ?_)
  obtain ⟨r1_1, hc1_1, hF⟩ := bd_s hF
  refine p (yl_assign rfl) <| x_done <| x_seq <| x_seq <|
    x_region <| p (yl_move rfl) <|
    ?_
  have hcall := c_lib_Check hc1_1 h_l_1 (hS.pull 1)
  refine o_cc call_98 (args1 rfl) ((Calls.mono hcall (fun e w'' h => And.intro h.1 (h.2.pull 1)))) ?_
  rintro e w' ⟨rfl, hS⟩
  refine ⟨_, rfl, ?_⟩
  refine p (v := .int .i64 r1_1) (yl_assign rfl) <| x_done <| x_seq <| x_region <|
    p (v := .int .i64 r1_1) (yl_move rfl) <| p (yl_neq rfl rfl) <| x_done <|
    x_cond_p (r1_1 ≠ 0) rfl (fun hc24 => ?_) (fun hc24 => ?_)
  · replace hF := it_t hc24 hF
    refine x_seq <| x_region <| p (v := .agg #[.int .i64 0, .slice none 0 0, .slice none 0 0]) (yl_build bld_38 bldf_38 (parts_eq pt0) (by kernel_rfl)) <| p (v := .int .i64 r1_1) (yl_move rfl) <|
      ?_
    refine o_storeAgg (news := [.int .i64 0, .slice none 0 0, .slice none 0 0]) agg_38 rfl rfl rfl (by simp [over_length]) hS (fun w' hS => ?_)
    refine p (v := .int .i64 r1_1) (yl_assign rfl) <| x_done <|
      ?_
    replace hS := St.vec_nil hS 3 (RpI .i64).sz
    have hnil_A_y0_ret_1 : RepL (RpI .i64) ρ [] [] := rfl
    replace hS := St.vec_nil hS 3 (RpI .i64).sz
    have hnil_A_y0_ret_2 : RepL (RpI .i64) ρ [] [] := rfl
    obtain rfl := Option.some.inj (show some _ = some _ from hF)
    exact x_return ⟨_, ⟨_, _, _, rfl, rfl, ldvA agg_38 rfl (fun j v hj => by rw [add0]; exact St.cell (hS.pull 2) hj), _, _, rfl, rfl, rfl⟩, none, 0, 0, [], none, 0, 0, [], rfl, hnil_A_y0_ret_1, hnil_A_y0_ret_2, ((((hS.pull 2).drop.pull 2).pull 1).pull 2)⟩
  · replace hF := it_f hc24 hF
    refine x_skip <| x_seq <| x_seq <| x_region <|
      p (yl_move rfl) <| p (yl_len_slice usl_87 rfl) <| p (yl_gtr rfl rfl) <| x_done <|
      x_cond_p (288 < (at_0.length : Int)) rfl (fun hc29 => ?_) (fun hc29 => ?_)
    · replace hF := it_t hc29 hF
      refine x_seq <| x_region <| p (v := .agg #[.int .i64 0, .slice none 0 0, .slice none 0 0]) (yl_build bld_38 bldf_38 (parts_eq pt0) (by kernel_rfl)) <|
        ?_
      refine o_storeAgg (news := [.int .i64 0, .slice none 0 0, .slice none 0 0]) agg_38 rfl rfl rfl (by simp [over_length]) hS (fun w' hS => ?_)
      refine p (yl_assign rfl) <| x_done <|
        ?_
      replace hS := St.vec_nil hS 3 (RpI .i64).sz
      have hnil_A_y0_ret_1 : RepL (RpI .i64) ρ [] [] := rfl
      replace hS := St.vec_nil hS 3 (RpI .i64).sz
      have hnil_A_y0_ret_2 : RepL (RpI .i64) ρ [] [] := rfl
      obtain rfl := Option.some.inj (show some _ = some _ from hF)
      exact x_return ⟨_, ⟨_, _, _, rfl, rfl, ldvA agg_38 rfl (fun j v hj => by rw [add0]; exact St.cell (hS.pull 2) hj), _, _, rfl, rfl, rfl⟩, none, 0, 0, [], none, 0, 0, [], rfl, hnil_A_y0_ret_1, hnil_A_y0_ret_2, ((((hS.pull 2).drop.pull 2).pull 1).pull 2)⟩
    · replace hF := it_f hc29 hF
      refine x_skip <| x_seq <| x_region <| p (yl_move rfl) <|
        p (yl_len_slice usl_87 rfl) <|
        ?_
      obtain ⟨hk6_2, hF⟩ := ck_s hF
      obtain ⟨z6_2, hz6_2, hF⟩ := lv_s hF
      refine o_mk sl_22 zero_3 (show (RpI .i64).ok ρ _ 0 from rfl) rfl rfl hk6_2 (by decide) hz6_2 hS (fun A33 cs33 w' hr33 hS => ?_)
      refine p (v := .agg #[.int .i64 0, .slice none 0 0, .slice A33 z6_2.length z6_2.length]) (yl_build bld_38 bldf_38 (parts_eq (pt (va := .slice A33 z6_2.length z6_2.length) rfl pt0)) (by kernel_rfl)) <|
        ?_
      refine o_alloc zero_38 hS (fun b7 w' hS => ?_)
      refine o_storeAgg (news := [.int .i64 0, .slice none 0 0, .slice A33 z6_2.length z6_2.length]) agg_38 rfl rfl rfl (by simp [over_length]) hS (fun w' hS => ?_)
      obtain ⟨r7_1, hc7_1, hF⟩ := bd_s hF
      refine x_done <| x_seq <| x_region <| p (yl_move rfl) <|
        ?_
      have hcall := c_slices_IndexFunc_api_Cell_api_Cell_2 hc7_1 h_l_1 (hS.pull 3)
      refine o_cc call_99 (args2 rfl rfl) ((Calls.mono hcall (fun e w'' h => And.intro h.1 (((h.2.pull 3).pull 3).pull 3)))) ?_
      rintro e w' ⟨rfl, hS⟩
      refine ⟨_, rfl, ?_⟩
      obtain ⟨r8_1, hc8_1, hF⟩ := bd_s hF
      refine p (v := .int .i64 r7_1) (yl_assign rfl) <| x_done <| x_seq <| x_region <|
        p (yl_move rfl) <|
        ?_
      have hcall := c_tree_inOrder hc8_1 h_at_0 (hS.pull 3)
      refine o_cc call_101 (args1 rfl) hcall ?_
      rintro e w' ⟨A_y0_ret_8_1, n_y0_ret_8_1, c_y0_ret_8_1, cs_y0_ret_8_1, rfl, h_y0_ret_8_1, hS⟩
      refine ⟨_, rfl, ?_⟩
      obtain rfl := St.vec_n hS h_y0_ret_8_1
      refine p (yl_assign rfl) <| x_done <| x_seq <| x_region <|
        p (yl_move rfl) <|
        ?_
      obtain ⟨ρ9_1, hle9_1, fz9_1, hS⟩ := St.vec_fz ((hS.pull 1).pull 1) h_y0_ret_8_1
      refine o_buildSlice (vs := [.slice A_y0_ret_8_1 r8_1.length c_y0_ret_8_1]) (cs := [.slice A_y0_ret_8_1 r8_1.length c_y0_ret_8_1]) sl_142 zero_22 (parts_eq (pt (va := .slice A_y0_ret_8_1 r8_1.length c_y0_ret_8_1) rfl pt0)) rfl (by intro v hv; simp only [List.mem_cons, List.not_mem_nil, or_false] at hv; first | (subst hv; rfl) | (rcases hv with rfl <;> rfl)) (by decide) rfl hS (fun b40 w' hS => ?_)
      refine p (yl_assign rfl) <| x_done <| x_seq <| x_seq <|
        x_region <| p (yl_field0 fld_38_2 rfl) <| pa (at_load one_22 rfl ((hS.pull 2).cell rfl)) <| p (yl_len_slice usl_22 rfl) <|
        p (yl_move rfl) <| x_done <|
        ?_
      obtain ⟨oL11, hLL11, hF⟩ := bd_s hF
      refine x_join (fun E w => ∃ (cs_b7_2_L11 : List Value) (b7_2_L11 : List Int), b7_2_L11 = oL11 ∧ E 0 = .slice A_at_0 at_0.length c_at_0 ∧ E 4 = .pointer (some ⟨b4, 0, none⟩) ∧ E 7 = .pointer (some ⟨b7, 0, none⟩) ∧ E 8 = .int .i64 r7_1 ∧ E 9 = .slice A_y0_ret_8_1 r8_1.length c_y0_ret_8_1 ∧ RepL (RpI .i64) ρ9_1 b7_2_L11 cs_b7_2_L11 ∧ St w0 w (cells b4 38 [.int .i64 0, .slice none 0 0, .slice none 0 0] :: cells b7 38 [.int .i64 0, .slice none 0 0, .slice A33 z6_2.length z6_2.length] :: vec 3 (RpI .i64).sz (.slice A33 z6_2.length z6_2.length) z6_2.length cs_b7_2_L11 :: ro ρ9_1 :: l)) ?_ ?_
      · skip -- L11
        refine x_block ?_
        refine x_loop (fun k_ E w => ∃ (cs_b7_2_L11h : List Value) (y44_L11h : Int) (b7_2_L11h : List Int), lp (P_tree_Build_L11 z6_2) k_ (y44_L11h, b7_2_L11h) = some oL11 ∧ E 0 = .slice A_at_0 at_0.length c_at_0 ∧ E 4 = .pointer (some ⟨b4, 0, none⟩) ∧ E 7 = .pointer (some ⟨b7, 0, none⟩) ∧ E 8 = .int .i64 r7_1 ∧ E 9 = .slice A_y0_ret_8_1 r8_1.length c_y0_ret_8_1 ∧ E 43 = .int .i64 (z6_2.length : Int) ∧ E 44 = .int .i64 y44_L11h ∧ RepL (RpI .i64) ρ9_1 b7_2_L11h cs_b7_2_L11h ∧ St w0 w (cells b4 38 [.int .i64 0, .slice none 0 0, .slice none 0 0] :: cells b7 38 [.int .i64 0, .slice none 0 0, .slice A33 z6_2.length z6_2.length] :: vec 3 (RpI .i64).sz (.slice A33 z6_2.length z6_2.length) z6_2.length cs_b7_2_L11h :: ro ρ9_1 :: l)) fuel ⟨cs33, 0, z6_2, hLL11, rfl, rfl, rfl, rfl, rfl, rfl, rfl, (hr33.le hle9_1), (((hS.drop.pull 2).pull 2).pull 3)⟩ ?_
        rintro kL11 E w ⟨cs_b7_2_L11h, y44_L11h, b7_2_L11h, hLL11, eL11h_0, eL11h_4, eL11h_7, eL11h_8, eL11h_9, eL11h_43, eL11h_44, h_b7_2_L11h, hS⟩
        obtain ⟨kL11, obL11, rfl, hFL11, hLL11⟩ := lp_s hLL11
        refine x_seq <| x_region <| p (yl_lss eL11h_44 eL11h_43) <| x_done <|
          x_seq <|
          x_cond_p (y44_L11h < (z6_2.length : Int)) rfl (fun hc45 => ?_) (fun hc45 => ?_)
        · replace hFL11 := it_t hc45 hFL11
          obtain ⟨hk13_3, hFL11⟩ := ck_s hFL11
          refine x_skip <| x_seq <| x_block <| x_seq <|
            x_region <| p (yl_move eL11h_44) <| p (yl_assign rfl) <| x_done <|
            x_region <| p (yl_field0 fld_38_2 eL11h_7) <| pa (at_load one_22 rfl ((hS.pull 1).cell rfl)) <| p (yl_move rfl) <|
            p (yix_o sl_22 rfl rfl (hS.pull 2) h_b7_2_L11h hk13_3) <|
            ?_
          obtain ⟨z13_4, hz13_4, hFL11⟩ := lv_s hFL11
          refine o_put' (news := [.int .i64 (-1)]) sz_3 rfl rfl rfl rfl (o := 0) rfl hk13_3 rfl (hS.pull 2) h_b7_2_L11h (Le.refl _) (fun c hc => ok_all hc (show (RpI .i64).ok ρ9_1 [.int .i64 (-1)] (-1) from rfl)) hz13_4 (fun cs13_4 w' hr13_4 hS => ?_)
          obtain ⟨x51, hx51, hFL11⟩ := ar_s hFL11
          refine x_done <| x_blk <| x_region <| p (yadd eL11h_44 rfl hx51) <|
            p (yl_move rfl) <| x_done <|
            ?_
          obtain rfl := Option.some.inj (show some _ = some _ from hFL11)
          exact x_inv ⟨kL11, Nat.lt_succ_self _, cs13_4, x51, z13_4, hLL11, eL11h_0, eL11h_4, eL11h_7, eL11h_8, eL11h_9, eL11h_43, rfl, hr13_4, ((((hS.pull 3).pull 1).pull 3).pull 3)⟩
        · replace hFL11 := it_f hc45 hFL11
          refine x_exitTo _ rfl <|
            ?_
          obtain rfl := Option.some.inj (show some _ = some _ from hFL11)
          exact x_inv ⟨cs_b7_2_L11h, b7_2_L11h, hLL11, eL11h_0, eL11h_4, eL11h_7, eL11h_8, eL11h_9, h_b7_2_L11h, ((((hS.pull 3).pull 3).pull 3).pull 3)⟩
      rintro E w ⟨cs_b7_2_L11, b7_2_L11, rfl, eL11_0, eL11_4, eL11_7, eL11_8, eL11_9, h_b7_2_L11, hS⟩
      refine x_seq <| x_seq <| x_region <| p (yl_move eL11_0) <|
        p (yl_len_slice usl_87 rfl) <| p (yl_leq rfl rfl) <| x_done <|
        x_cond_p ((at_0.length : Int) ≤ 8) rfl (fun hc54 => ?_) (fun hc54 => ?_)
      · replace hF := it_t hc54 hF
        refine x_seq <| x_region <| pa (v := .agg #[.int .i64 0, .slice none 0 0, .slice A33 z6_2.length z6_2.length]) (ld_sub agg_38 eL11_7 rfl rfl (hS.pull 1)) <|
          ?_
        refine o_storeAgg (news := [.int .i64 0, .slice none 0 0, .slice A33 z6_2.length z6_2.length]) agg_38 eL11_4 rfl rfl (by simp [over_length]) hS (fun w' hS => ?_)
        refine p (yl_assign rfl) <| x_done <|
          ?_
        replace hS := St.vec_nil hS 3 (RpI .i64).sz
        have hnil_A_y0_ret_1 : RepL (RpI .i64) ρ9_1 [] [] := rfl
        obtain rfl := Option.some.inj (show some _ = some _ from hF)
        exact x_return ⟨_, ⟨_, _, _, rfl, eL11_4, ldvA agg_38 rfl (fun j v hj => by rw [add0]; exact St.cell (hS.pull 1) hj), _, _, rfl, rfl, rfl⟩, none, 0, 0, [], A33, z6_2.length, z6_2.length, cs_b7_2_L11, rfl, (RepL.flat (fun h => h) hnil_A_y0_ret_1), (RepL.flat (fun h => h) h_b7_2_L11), (ro_back2 hle9_1 (((((hS.pull 1).drop.pull 1).drop.pull 2).pull 2).pull 2))⟩
      · replace hF := it_f hc54 hF
        refine x_skip <| x_seq <| x_seq <| x_region <|
          p (v := .int .i64 r7_1) (yl_move eL11_8) <| p (yl_lss rfl rfl) <| x_done <|
          x_cond_p (r7_1 < 0) rfl (fun hc57 => ?_) (fun hc57 => ?_)
        · replace hF := it_t hc57 hF
          refine x_seq <| x_region <| p (v := .agg #[.int .i64 0, .slice none 0 0, .slice none 0 0]) (yl_build bld_38 bldf_38 (parts_eq pt0) (by kernel_rfl)) <|
            ?_
          refine o_storeAgg (news := [.int .i64 0, .slice none 0 0, .slice none 0 0]) agg_38 eL11_4 rfl rfl (by simp [over_length]) hS (fun w' hS => ?_)
          refine p (yl_assign rfl) <| x_done <|
            ?_
          replace hS := St.vec_nil hS 3 (RpI .i64).sz
          have hnil_A_y0_ret_1 : RepL (RpI .i64) ρ9_1 [] [] := rfl
          replace hS := St.vec_nil hS 3 (RpI .i64).sz
          have hnil_A_y0_ret_2 : RepL (RpI .i64) ρ9_1 [] [] := rfl
          obtain rfl := Option.some.inj (show some _ = some _ from hF)
          exact x_return ⟨_, ⟨_, _, _, rfl, eL11_4, ldvA agg_38 rfl (fun j v hj => by rw [add0]; exact St.cell (hS.pull 2) hj), _, _, rfl, rfl, rfl⟩, none, 0, 0, [], none, 0, 0, [], rfl, (RepL.flat (fun h => h) hnil_A_y0_ret_1), (RepL.flat (fun h => h) hnil_A_y0_ret_2), (ro_back2 hle9_1 ((((((hS.pull 2).drop.pull 2).drop.pull 2).drop.pull 2).pull 1).pull 2))⟩
        · replace hF := it_f hc57 hF
          refine x_skip <| x_seq <| x_region <| p (v := .int .i64 r7_1) (yl_move eL11_8) <|
            p (yl_field0 fld_38_0 eL11_7) <|
            ?_
          refine o_store1 (v := .int .i64 r7_1) one_3 rfl rfl rfl rfl (hS.pull 1) (fun w' hS => ?_)
          refine x_done <| x_seq <| x_region <| p (yl_assign rfl) <|
            x_done <| x_seq <| x_seq <| x_region <|
            p (yl_move eL11_0) <| p (yl_len_slice usl_87 rfl) <| p (yl_assign rfl) <| x_done <|
            ?_
          obtain ⟨oL22, hLL22, hF⟩ := bd_s hF
          refine x_join (fun E w => ∃ (ρ_L22 : Heap) (A_levels12_L22 : Option Addr) (n_levels12_L22 : Nat) (c_levels12_L22 : Nat) (cs_levels12_L22 : List Value) (levels12_L22 : List (List (List Int))), levels12_L22 = oL22 ∧ Le ρ9_1 ρ_L22 ∧ E 4 = .pointer (some ⟨b4, 0, none⟩) ∧ E 7 = .pointer (some ⟨b7, 0, none⟩) ∧ E 9 = .slice A_y0_ret_8_1 r8_1.length c_y0_ret_8_1 ∧ E 12 = .slice A_levels12_L22 n_levels12_L22 c_levels12_L22 ∧ RepL (RpSl (RpSl (RpI .i64))) ρ_L22 levels12_L22 cs_levels12_L22 ∧ St w0 w (cells b4 38 [.int .i64 0, .slice none 0 0, .slice none 0 0] :: cells b7 38 [.int .i64 r7_1, .slice none 0 0, .slice A33 z6_2.length z6_2.length] :: vec 142 (RpSl (RpSl (RpI .i64))).sz (.slice A_levels12_L22 n_levels12_L22 c_levels12_L22) n_levels12_L22 cs_levels12_L22 :: vec 3 (RpI .i64).sz (.slice A33 z6_2.length z6_2.length) z6_2.length cs_b7_2_L11 :: ro ρ_L22 :: l)) ?_ ?_
          · skip -- L22
            refine x_block ?_
            replace hS := St.vec_nil hS 142 (RpSl (RpSl (RpI .i64))).sz
            have hnil_A_levels12_L22h : RepL (RpSl (RpSl (RpI .i64))) ρ9_1 [] [] := rfl
            refine x_loop (fun k_ E w => ∃ (ρ_L22h : Heap) (A_levels12_L22h : Option Addr) (n_levels12_L22h : Nat) (c_levels12_L22h : Nat) (cs_levels12_L22h : List Value) (levels12_L22h : List (List (List Int))) (many13_L22h : Int), lp P_tree_Build_L22 k_ (levels12_L22h, many13_L22h) = some oL22 ∧ Le ρ9_1 ρ_L22h ∧ E 4 = .pointer (some ⟨b4, 0, none⟩) ∧ E 7 = .pointer (some ⟨b7, 0, none⟩) ∧ E 9 = .slice A_y0_ret_8_1 r8_1.length c_y0_ret_8_1 ∧ E 12 = .slice A_levels12_L22h n_levels12_L22h c_levels12_L22h ∧ E 13 = .int .i64 many13_L22h ∧ RepL (RpSl (RpSl (RpI .i64))) ρ_L22h levels12_L22h cs_levels12_L22h ∧ St w0 w (cells b4 38 [.int .i64 0, .slice none 0 0, .slice none 0 0] :: cells b7 38 [.int .i64 r7_1, .slice none 0 0, .slice A33 z6_2.length z6_2.length] :: vec 142 (RpSl (RpSl (RpI .i64))).sz (.slice A_levels12_L22h n_levels12_L22h c_levels12_L22h) n_levels12_L22h cs_levels12_L22h :: vec 3 (RpI .i64).sz (.slice A33 z6_2.length z6_2.length) z6_2.length cs_b7_2_L11 :: ro ρ_L22h :: l)) fuel ⟨ρ9_1, none, 0, 0, [], [], (at_0.length : Int), hLL22, (Le.refl _), eL11_4, eL11_7, eL11_9, rfl, rfl, hnil_A_levels12_L22h, (((((hS.pull 4).pull 4).pull 2).pull 3).pull 4)⟩ ?_
            rintro kL22 E w ⟨ρ_L22h, A_levels12_L22h, n_levels12_L22h, c_levels12_L22h, cs_levels12_L22h, levels12_L22h, many13_L22h, hLL22, hleρ_L22h, eL22h_4, eL22h_7, eL22h_9, eL22h_12, eL22h_13, h_levels12_L22h, hS⟩
            obtain rfl := St.vec_n (hS.pull 2) h_levels12_L22h
            obtain ⟨kL22, obL22, rfl, hFL22, hLL22⟩ := lp_s hLL22
            refine x_seq <| x_seq <| x_region <| p (yl_move eL22h_13) <|
              p (yl_gtr rfl rfl) <| x_done <|
              x_cond_p (8 < many13_L22h) rfl (fun hc64 => ?_) (fun hc64 => ?_)
            · replace hFL22 := it_t hc64 hFL22
              obtain ⟨r24_1, hc24_1, hFL22⟩ := bd_s hFL22
              refine x_skip <| x_seq <| x_block <| x_seq <|
                x_region <| p (yl_move eL22h_13) <|
                ?_
              have hcall := c_tree_chunks_2 hc24_1  (hS.pull 4)
              refine o_cc call_102 (args1 rfl) hcall ?_
              rintro e w' ⟨A_y0_ret_24_1, n_y0_ret_24_1, c_y0_ret_24_1, rfl, h_y0_ret_24_1, hS⟩
              refine ⟨_, rfl, ?_⟩
              obtain rfl := vec2_len hS
              refine p (yl_assign rfl) <| x_done <| x_region <| p (yl_move eL22h_12) <|
                p (yl_move rfl) <|
                ?_
              obtain ⟨ρ25_2, hle25_2, fz25_2, hS⟩ := St.vec2_fz ((hS.pull 1).pull 1)
              refine o_buildSlice (vs := [.slice A_y0_ret_24_1 r24_1.length c_y0_ret_24_1]) (cs := [.slice A_y0_ret_24_1 r24_1.length c_y0_ret_24_1]) sl_199 zero_142 (parts_eq (pt (va := .slice A_y0_ret_24_1 r24_1.length c_y0_ret_24_1) rfl pt0)) rfl (by intro v hv; simp only [List.mem_cons, List.not_mem_nil, or_false] at hv; first | (subst hv; rfl) | (rcases hv with rfl <;> rfl)) (by decide) rfl hS (fun b71 w' hS => ?_)
              obtain ⟨z25_3, hz25_3, hFL22⟩ := lv_s hFL22
              obtain ⟨hk25_3, hFL22⟩ := ck_s hFL22
              refine o_ap sl_199 zero_142 rfl (by decide) rfl rfl (hS.pull 4) (h_levels12_L22h.le hle25_2) (src_blk usl_199 hS rfl rfl) (RepL.cons (R := (RpSl (RpSl (RpI .i64)))) (ρ := ρ25_2) (x := r24_1) (cs := [.slice A_y0_ret_24_1 r24_1.length c_y0_ret_24_1]) ⟨_, _, _, rfl, fz25_2⟩ RepL.nil) hz25_3 hk25_3 (fun A72 c72 cs72 w' hr72 hS => ?_)
              refine p (yl_assign rfl) <| x_done <| x_blk <| x_region <|
                p (yl_move rfl) <| p (yl_len_slice usl_142 rfl) <| p (yl_assign rfl) <| x_done <|
                ?_
              obtain rfl := Option.some.inj (show some _ = some _ from hFL22)
              exact x_inv ⟨kL22, Nat.lt_succ_self _, ρ25_2, A72, z25_3.length, c72, cs72, z25_3, (r24_1.length : Int), hLL22, (hleρ_L22h.trans hle25_2), eL22h_4, eL22h_7, eL22h_9, rfl, rfl, hr72, ((((((hS.pull 1).drop.pull 1).pull 4).pull 2).pull 4).pull 4)⟩
            · replace hFL22 := it_f hc64 hFL22
              refine x_exitTo _ rfl <|
                ?_
              obtain rfl := Option.some.inj (show some _ = some _ from hFL22)
              exact x_inv ⟨ρ_L22h, A_levels12_L22h, levels12_L22h.length, c_levels12_L22h, cs_levels12_L22h, levels12_L22h, hLL22, hleρ_L22h, eL22h_4, eL22h_7, eL22h_9, eL22h_12, h_levels12_L22h, (((((hS.pull 4).pull 4).pull 4).pull 4).pull 4)⟩
          rintro E w ⟨ρ_L22, A_levels12_L22, n_levels12_L22, c_levels12_L22, cs_levels12_L22, levels12_L22, rfl, hleρ_L22, eL22_4, eL22_7, eL22_9, eL22_12, h_levels12_L22, hS⟩
          obtain rfl := St.vec_n (hS.pull 2) h_levels12_L22
          obtain ⟨x75, hx75, hF⟩ := ar_s hF
          refine x_seq <| x_region <| p (yl_assign rfl) <| x_done <|
            x_seq <| x_seq <| x_region <| p (yl_move eL22_12) <|
            p (yl_len_slice usl_199 rfl) <| p (ysub rfl rfl hx75) <| p (yl_assign rfl) <| x_done <|
            ?_
          obtain ⟨oL28, hLL28, hF⟩ := bd_s hF
          refine x_join (fun E w => ∃ (A_b7_1_L28 : Option Addr) (n_b7_1_L28 : Nat) (c_b7_1_L28 : Nat) (cs_b7_1_L28 : List Value) (cs_b7_2_L28 : List Value) (b7_1_L28 : List Int) (b7_2_L28 : List Int), (b7_1_L28, b7_2_L28) = oL28 ∧ E 4 = .pointer (some ⟨b4, 0, none⟩) ∧ E 7 = .pointer (some ⟨b7, 0, none⟩) ∧ RepL (RpI .i64) ρ_L22 b7_1_L28 cs_b7_1_L28 ∧ RepL (RpI .i64) ρ_L22 b7_2_L28 cs_b7_2_L28 ∧ St w0 w (cells b4 38 [.int .i64 0, .slice none 0 0, .slice none 0 0] :: cells b7 38 [.int .i64 r7_1, .slice A_b7_1_L28 n_b7_1_L28 c_b7_1_L28, .slice A33 z6_2.length z6_2.length] :: vec 3 (RpI .i64).sz (.slice A_b7_1_L28 n_b7_1_L28 c_b7_1_L28) n_b7_1_L28 cs_b7_1_L28 :: vec 3 (RpI .i64).sz (.slice A33 z6_2.length z6_2.length) z6_2.length cs_b7_2_L28 :: ro ρ_L22 :: l)) ?_ ?_
          · skip -- L28
            refine x_block ?_
            replace hS := St.vec_nil hS 3 (RpI .i64).sz
            have hnil_A_b7_1_L28h : RepL (RpI .i64) ρ_L22 [] [] := rfl
            refine x_loop (fun k_ E w => ∃ (A_b7_1_L28h : Option Addr) (n_b7_1_L28h : Nat) (c_b7_1_L28h : Nat) (cs_b7_1_L28h : List Value) (cs_b7_2_L28h : List Value) (first14_L28h : Int) (k15_L28h : Int) (b7_1_L28h : List Int) (b7_2_L28h : List Int), lp (P_tree_Build_L28 r7_1 r8_1 levels12_L22) k_ (first14_L28h, k15_L28h, b7_1_L28h, b7_2_L28h) = some oL28 ∧ E 4 = .pointer (some ⟨b4, 0, none⟩) ∧ E 7 = .pointer (some ⟨b7, 0, none⟩) ∧ E 9 = .slice A_y0_ret_8_1 r8_1.length c_y0_ret_8_1 ∧ E 12 = .slice A_levels12_L22 levels12_L22.length c_levels12_L22 ∧ E 14 = .int .i64 first14_L28h ∧ E 15 = .int .i64 k15_L28h ∧ RepL (RpI .i64) ρ_L22 b7_1_L28h cs_b7_1_L28h ∧ RepL (RpI .i64) ρ_L22 b7_2_L28h cs_b7_2_L28h ∧ St w0 w (cells b4 38 [.int .i64 0, .slice none 0 0, .slice none 0 0] :: cells b7 38 [.int .i64 r7_1, .slice A_b7_1_L28h n_b7_1_L28h c_b7_1_L28h, .slice A33 z6_2.length z6_2.length] :: vec 142 (RpSl (RpSl (RpI .i64))).sz (.slice A_levels12_L22 levels12_L22.length c_levels12_L22) levels12_L22.length cs_levels12_L22 :: vec 3 (RpI .i64).sz (.slice A_b7_1_L28h n_b7_1_L28h c_b7_1_L28h) n_b7_1_L28h cs_b7_1_L28h :: vec 3 (RpI .i64).sz (.slice A33 z6_2.length z6_2.length) z6_2.length cs_b7_2_L28h :: ro ρ_L22 :: l)) fuel ⟨none, 0, 0, [], cs_b7_2_L11, 0, x75, [], b7_2_L11, hLL28, eL22_4, eL22_7, eL22_9, eL22_12, rfl, rfl, hnil_A_b7_1_L28h, (h_b7_2_L11.le hleρ_L22), ((((((hS.pull 5).pull 5).pull 2).pull 5).pull 5).pull 5)⟩ ?_
            rintro kL28 E w ⟨A_b7_1_L28h, n_b7_1_L28h, c_b7_1_L28h, cs_b7_1_L28h, cs_b7_2_L28h, first14_L28h, k15_L28h, b7_1_L28h, b7_2_L28h, hLL28, eL28h_4, eL28h_7, eL28h_9, eL28h_12, eL28h_14, eL28h_15, h_b7_1_L28h, h_b7_2_L28h, hS⟩
            obtain rfl := St.vec_n (hS.pull 3) h_b7_1_L28h
            obtain ⟨kL28, obL28, rfl, hFL28, hLL28⟩ := lp_s hLL28
            refine x_seq <| x_seq <| x_region <| p (yl_move eL28h_15) <|
              p (yl_geq rfl rfl) <| x_done <|
              x_cond_p (0 ≤ k15_L28h) rfl (fun hc77 => ?_) (fun hc77 => ?_)
            · replace hFL28 := it_t hc77 hFL28
              obtain ⟨hk30_3, hFL28⟩ := ck_s hFL28
              obtain ⟨y30_4, hy30_4, hFL28⟩ := lv_s hFL28
              obtain ⟨el30_4, ek30_4, ee30_4⟩ := h_levels12_L22.get hk30_3
              rw [← hy30_4] at ek30_4
              obtain ⟨A30_4, n30_4, c30_4, rfl, f30_4⟩ := ek30_4
              obtain rfl := f30_4.n
              obtain ⟨x86, hx86, hFL28⟩ := ar_s hFL28
              obtain ⟨x87, hx87, hFL28⟩ := ar_s hFL28
              obtain ⟨r30_8, hc30_8, hFL28⟩ := bd_s hFL28
              refine x_skip <| x_seq <| x_block <| x_seq <|
                x_region <| p (yl_move eL28h_14) <| p (yl_move eL28h_12) <| p (yl_move eL28h_15) <|
                p (yix_o sl_199 rfl rfl (hS.pull 2) h_levels12_L22 hk30_3) <| pa (at_load one_142 rfl (EltV.ld (m := 0) ee30_4 (hS.pull 2) rfl)) <| p (yl_len_slice usl_142 rfl) <| p (yadd rfl rfl hx86) <|
                p (ysub rfl rfl hx87) <|
                ?_
              have hcall := c_tree_grow_2 hc30_8 h_b7_1_L28h h_b7_2_L28h ((((hS.pull 5).pull 5).pull 5).pull 4)
              refine o_cc call_103 (args3 eL28h_7 rfl rfl) hcall ?_
              rintro e w' ⟨A_b_t0_1_ret_30_8, n_b_t0_1_ret_30_8, c_b_t0_1_ret_30_8, cs_b_t0_1_ret_30_8, rfl, h_b_t0_1_ret_30_8, hS⟩
              refine ⟨_, rfl, ?_⟩
              obtain rfl := St.vec_n (hS.pull 2) h_b_t0_1_ret_30_8
              obtain ⟨hk31_2, hFL28⟩ := ck_s hFL28
              obtain ⟨y31_3, hy31_3, hFL28⟩ := lv_s hFL28
              obtain ⟨el31_3, ek31_3, ee31_3⟩ := h_levels12_L22.get hk31_2
              rw [← hy31_3] at ek31_3
              obtain ⟨A31_3, n31_3, c31_3, rfl, f31_3⟩ := ek31_3
              obtain rfl := f31_3.n
              refine x_done <| x_seq <| x_seq <| x_region <|
                p (yl_move eL28h_12) <| p (yl_move eL28h_15) <| p (yix_o sl_199 rfl rfl (hS.pull 5) h_levels12_L22 hk31_2) <| pa (at_load one_142 rfl (EltV.ld (m := 0) ee31_3 (hS.pull 5) rfl)) <|
                p (yl_len_slice usl_142 rfl) <| p (yl_move rfl) <| x_done <|
                ?_
              obtain ⟨oL32, hLL32, hFL28⟩ := bd_s hFL28
              refine x_join (fun E w => ∃ (A_b7_1_L32 : Option Addr) (n_b7_1_L32 : Nat) (c_b7_1_L32 : Nat) (cs_b7_1_L32 : List Value) (cs_b7_2_L32 : List Value) (b7_1_L32 : List Int) (b7_2_L32 : List Int), (b7_1_L32, b7_2_L32) = oL32 ∧ E 4 = .pointer (some ⟨b4, 0, none⟩) ∧ E 7 = .pointer (some ⟨b7, 0, none⟩) ∧ E 9 = .slice A_y0_ret_8_1 r8_1.length c_y0_ret_8_1 ∧ E 12 = .slice A_levels12_L22 levels12_L22.length c_levels12_L22 ∧ E 14 = .int .i64 first14_L28h ∧ E 15 = .int .i64 k15_L28h ∧ RepL (RpI .i64) ρ_L22 b7_1_L32 cs_b7_1_L32 ∧ RepL (RpI .i64) ρ_L22 b7_2_L32 cs_b7_2_L32 ∧ St w0 w (cells b4 38 [.int .i64 0, .slice none 0 0, .slice none 0 0] :: cells b7 38 [.int .i64 r7_1, .slice A_b7_1_L32 n_b7_1_L32 c_b7_1_L32, .slice A33 z6_2.length z6_2.length] :: vec 142 (RpSl (RpSl (RpI .i64))).sz (.slice A_levels12_L22 levels12_L22.length c_levels12_L22) levels12_L22.length cs_levels12_L22 :: vec 3 (RpI .i64).sz (.slice A_b7_1_L32 n_b7_1_L32 c_b7_1_L32) n_b7_1_L32 cs_b7_1_L32 :: vec 3 (RpI .i64).sz (.slice A33 z6_2.length z6_2.length) z6_2.length cs_b7_2_L32 :: ro ρ_L22 :: l)) ?_ ?_
              · skip -- L32
                refine x_block ?_
                refine x_loop (fun k_ E w => ∃ (A_b7_1_L32h : Option Addr) (n_b7_1_L32h : Nat) (c_b7_1_L32h : Nat) (cs_b7_1_L32h : List Value) (cs_b7_2_L32h : List Value) (y94_L32h : Int) (b7_1_L32h : List Int) (b7_2_L32h : List Int), lp (P_tree_Build_L32 r7_1 r8_1 levels12_L22 y31_3 first14_L28h k15_L28h) k_ (y94_L32h, b7_1_L32h, b7_2_L32h) = some oL32 ∧ E 4 = .pointer (some ⟨b4, 0, none⟩) ∧ E 7 = .pointer (some ⟨b7, 0, none⟩) ∧ E 9 = .slice A_y0_ret_8_1 r8_1.length c_y0_ret_8_1 ∧ E 12 = .slice A_levels12_L22 levels12_L22.length c_levels12_L22 ∧ E 14 = .int .i64 first14_L28h ∧ E 15 = .int .i64 k15_L28h ∧ E 92 = .slice A31_3 y31_3.length c31_3 ∧ E 93 = .int .i64 (y31_3.length : Int) ∧ E 94 = .int .i64 y94_L32h ∧ RepL (RpI .i64) ρ_L22 b7_1_L32h cs_b7_1_L32h ∧ RepL (RpI .i64) ρ_L22 b7_2_L32h cs_b7_2_L32h ∧ St w0 w (cells b4 38 [.int .i64 0, .slice none 0 0, .slice none 0 0] :: cells b7 38 [.int .i64 r7_1, .slice A_b7_1_L32h n_b7_1_L32h c_b7_1_L32h, .slice A33 z6_2.length z6_2.length] :: vec 142 (RpSl (RpSl (RpI .i64))).sz (.slice A_levels12_L22 levels12_L22.length c_levels12_L22) levels12_L22.length cs_levels12_L22 :: vec 3 (RpI .i64).sz (.slice A_b7_1_L32h n_b7_1_L32h c_b7_1_L32h) n_b7_1_L32h cs_b7_1_L32h :: vec 3 (RpI .i64).sz (.slice A33 z6_2.length z6_2.length) z6_2.length cs_b7_2_L32h :: ro ρ_L22 :: l)) fuel ⟨A_b_t0_1_ret_30_8, r30_8.length, c_b_t0_1_ret_30_8, cs_b_t0_1_ret_30_8, cs_b7_2_L28h, 0, r30_8, b7_2_L28h, hLL32, eL28h_4, eL28h_7, eL28h_9, eL28h_12, eL28h_14, eL28h_15, rfl, rfl, rfl, h_b_t0_1_ret_30_8, h_b7_2_L28h, ((((((hS.pull 3).pull 2).pull 3).pull 5).pull 4).pull 5)⟩ ?_
                rintro kL32 E w ⟨A_b7_1_L32h, n_b7_1_L32h, c_b7_1_L32h, cs_b7_1_L32h, cs_b7_2_L32h, y94_L32h, b7_1_L32h, b7_2_L32h, hLL32, eL32h_4, eL32h_7, eL32h_9, eL32h_12, eL32h_14, eL32h_15, eL32h_92, eL32h_93, eL32h_94, h_b7_1_L32h, h_b7_2_L32h, hS⟩
                obtain rfl := St.vec_n (hS.pull 3) h_b7_1_L32h
                obtain ⟨kL32, obL32, rfl, hFL32, hLL32⟩ := lp_s hLL32
                refine x_seq <| x_region <| p (yl_lss eL32h_94 eL32h_93) <| x_done <|
                  x_seq <|
                  x_cond_p (y94_L32h < (y31_3.length : Int)) rfl (fun hc95 => ?_) (fun hc95 => ?_)
                · replace hFL32 := it_t hc95 hFL32
                  obtain ⟨hk33_1, hFL32⟩ := ck_s hFL32
                  obtain ⟨y33_2, hy33_2, hFL32⟩ := lv_s hFL32
                  obtain ⟨el33_2, ek33_2, ee33_2⟩ := f31_3.get hk33_1
                  rw [← hy33_2] at ek33_2
                  obtain ⟨A33_2, n33_2, c33_2, rfl, f33_2⟩ := ek33_2
                  obtain rfl := f33_2.n
                  refine x_skip <| x_seq <| x_block <| x_seq <|
                    x_region <| p (yl_move eL32h_94) <| p (yix_f sl_142 eL32h_92 eL32h_94 f31_3 hk33_1) <| pa (at_load one_22 rfl (Elt.ld (j := 0) ee33_2 (hS.pull 5) rfl)) <|
                    p (yl_assign rfl) <| p (yl_assign rfl) <| x_done <| x_seq <|
                    x_region <| p (yl_move rfl) <| p (yl_len_slice usl_22 rfl) <| p (yl_move rfl) <|
                    x_done <|
                    ?_
                  obtain ⟨oL35, hLL35, hFL32⟩ := bd_s hFL32
                  refine x_join (fun E w => ∃ (A_b7_1_L35 : Option Addr) (n_b7_1_L35 : Nat) (c_b7_1_L35 : Nat) (cs_b7_1_L35 : List Value) (cs_b7_2_L35 : List Value) (b7_1_L35 : List Int) (b7_2_L35 : List Int), (b7_1_L35, b7_2_L35) = oL35 ∧ E 4 = .pointer (some ⟨b4, 0, none⟩) ∧ E 7 = .pointer (some ⟨b7, 0, none⟩) ∧ E 9 = .slice A_y0_ret_8_1 r8_1.length c_y0_ret_8_1 ∧ E 12 = .slice A_levels12_L22 levels12_L22.length c_levels12_L22 ∧ E 14 = .int .i64 first14_L28h ∧ E 15 = .int .i64 k15_L28h ∧ E 92 = .slice A31_3 y31_3.length c31_3 ∧ E 93 = .int .i64 (y31_3.length : Int) ∧ E 94 = .int .i64 y94_L32h ∧ RepL (RpI .i64) ρ_L22 b7_1_L35 cs_b7_1_L35 ∧ RepL (RpI .i64) ρ_L22 b7_2_L35 cs_b7_2_L35 ∧ St w0 w (cells b4 38 [.int .i64 0, .slice none 0 0, .slice none 0 0] :: cells b7 38 [.int .i64 r7_1, .slice A_b7_1_L35 n_b7_1_L35 c_b7_1_L35, .slice A33 z6_2.length z6_2.length] :: vec 142 (RpSl (RpSl (RpI .i64))).sz (.slice A_levels12_L22 levels12_L22.length c_levels12_L22) levels12_L22.length cs_levels12_L22 :: vec 3 (RpI .i64).sz (.slice A_b7_1_L35 n_b7_1_L35 c_b7_1_L35) n_b7_1_L35 cs_b7_1_L35 :: vec 3 (RpI .i64).sz (.slice A33 z6_2.length z6_2.length) z6_2.length cs_b7_2_L35 :: ro ρ_L22 :: l)) ?_ ?_
                  · skip -- L35
                    refine x_block ?_
                    refine x_loop (fun k_ E w => ∃ (A_b7_1_L35h : Option Addr) (n_b7_1_L35h : Nat) (c_b7_1_L35h : Nat) (cs_b7_1_L35h : List Value) (cs_b7_2_L35h : List Value) (y101_L35h : Int) (b7_1_L35h : List Int) (b7_2_L35h : List Int), lp (P_tree_Build_L35 r7_1 r8_1 levels12_L22 y33_2 y94_L32h first14_L28h k15_L28h) k_ (y101_L35h, b7_1_L35h, b7_2_L35h) = some oL35 ∧ E 4 = .pointer (some ⟨b4, 0, none⟩) ∧ E 7 = .pointer (some ⟨b7, 0, none⟩) ∧ E 9 = .slice A_y0_ret_8_1 r8_1.length c_y0_ret_8_1 ∧ E 12 = .slice A_levels12_L22 levels12_L22.length c_levels12_L22 ∧ E 14 = .int .i64 first14_L28h ∧ E 15 = .int .i64 k15_L28h ∧ E 16 = .int .i64 y94_L32h ∧ E 92 = .slice A31_3 y31_3.length c31_3 ∧ E 93 = .int .i64 (y31_3.length : Int) ∧ E 94 = .int .i64 y94_L32h ∧ E 99 = .slice A33_2 y33_2.length c33_2 ∧ E 100 = .int .i64 (y33_2.length : Int) ∧ E 101 = .int .i64 y101_L35h ∧ RepL (RpI .i64) ρ_L22 b7_1_L35h cs_b7_1_L35h ∧ RepL (RpI .i64) ρ_L22 b7_2_L35h cs_b7_2_L35h ∧ St w0 w (cells b4 38 [.int .i64 0, .slice none 0 0, .slice none 0 0] :: cells b7 38 [.int .i64 r7_1, .slice A_b7_1_L35h n_b7_1_L35h c_b7_1_L35h, .slice A33 z6_2.length z6_2.length] :: vec 142 (RpSl (RpSl (RpI .i64))).sz (.slice A_levels12_L22 levels12_L22.length c_levels12_L22) levels12_L22.length cs_levels12_L22 :: vec 3 (RpI .i64).sz (.slice A_b7_1_L35h n_b7_1_L35h c_b7_1_L35h) n_b7_1_L35h cs_b7_1_L35h :: vec 3 (RpI .i64).sz (.slice A33 z6_2.length z6_2.length) z6_2.length cs_b7_2_L35h :: ro ρ_L22 :: l)) fuel ⟨A_b7_1_L32h, b7_1_L32h.length, c_b7_1_L32h, cs_b7_1_L32h, cs_b7_2_L32h, 0, b7_1_L32h, b7_2_L32h, hLL35, eL32h_4, eL32h_7, eL32h_9, eL32h_12, eL32h_14, eL32h_15, rfl, eL32h_92, eL32h_93, eL32h_94, rfl, rfl, rfl, h_b7_1_L32h, h_b7_2_L32h, ((((((hS.pull 5).pull 5).pull 5).pull 5).pull 5).pull 5)⟩ ?_
                    rintro kL35 E w ⟨A_b7_1_L35h, n_b7_1_L35h, c_b7_1_L35h, cs_b7_1_L35h, cs_b7_2_L35h, y101_L35h, b7_1_L35h, b7_2_L35h, hLL35, eL35h_4, eL35h_7, eL35h_9, eL35h_12, eL35h_14, eL35h_15, eL35h_16, eL35h_92, eL35h_93, eL35h_94, eL35h_99, eL35h_100, eL35h_101, h_b7_1_L35h, h_b7_2_L35h, hS⟩
                    obtain rfl := St.vec_n (hS.pull 3) h_b7_1_L35h
                    obtain ⟨kL35, obL35, rfl, hFL35, hLL35⟩ := lp_s hLL35
                    refine x_seq <| x_region <| p (yl_lss eL35h_101 eL35h_100) <| x_done <|
                      x_seq <|
                      x_cond_p (y101_L35h < (y33_2.length : Int)) rfl (fun hc102 => ?_) (fun hc102 => ?_)
                    · replace hFL35 := it_t hc102 hFL35
                      obtain ⟨hk36_0, hFL35⟩ := ck_s hFL35
                      obtain ⟨x104, hx104, hFL35⟩ := lv_s hFL35
                      refine x_skip <| x_seq <| x_block <| x_seq <|
                        x_region <| p (yix_f sl_22 eL35h_99 eL35h_101 f33_2 hk36_0) <| pa (at_load one_3 rfl (RdS.getW f33_2 (hS.pull 5) hk36_0 hx104)) <| p (yl_assign rfl) <|
                        x_done <| x_seq <| x_region <| p (yl_move eL35h_15) <|
                        p (yl_eql rfl rfl) <| x_done <|
                        ?_
                      obtain ⟨oc106, hFc106, hFL35⟩ := bd_s hFL35
                      refine x_join (fun E w => ∃ (A_b7_1_c106 : Option Addr) (n_b7_1_c106 : Nat) (c_b7_1_c106 : Nat) (cs_b7_1_c106 : List Value) (cs_b7_2_c106 : List Value) (b7_1_c106 : List Int) (b7_2_c106 : List Int), (b7_1_c106, b7_2_c106) = oc106 ∧ E 4 = .pointer (some ⟨b4, 0, none⟩) ∧ E 7 = .pointer (some ⟨b7, 0, none⟩) ∧ E 9 = .slice A_y0_ret_8_1 r8_1.length c_y0_ret_8_1 ∧ E 12 = .slice A_levels12_L22 levels12_L22.length c_levels12_L22 ∧ E 14 = .int .i64 first14_L28h ∧ E 15 = .int .i64 k15_L28h ∧ E 16 = .int .i64 y94_L32h ∧ E 92 = .slice A31_3 y31_3.length c31_3 ∧ E 93 = .int .i64 (y31_3.length : Int) ∧ E 94 = .int .i64 y94_L32h ∧ E 99 = .slice A33_2 y33_2.length c33_2 ∧ E 100 = .int .i64 (y33_2.length : Int) ∧ E 101 = .int .i64 y101_L35h ∧ RepL (RpI .i64) ρ_L22 b7_1_c106 cs_b7_1_c106 ∧ RepL (RpI .i64) ρ_L22 b7_2_c106 cs_b7_2_c106 ∧ St w0 w (cells b4 38 [.int .i64 0, .slice none 0 0, .slice none 0 0] :: cells b7 38 [.int .i64 r7_1, .slice A_b7_1_c106 n_b7_1_c106 c_b7_1_c106, .slice A33 z6_2.length z6_2.length] :: vec 142 (RpSl (RpSl (RpI .i64))).sz (.slice A_levels12_L22 levels12_L22.length c_levels12_L22) levels12_L22.length cs_levels12_L22 :: vec 3 (RpI .i64).sz (.slice A_b7_1_c106 n_b7_1_c106 c_b7_1_c106) n_b7_1_c106 cs_b7_1_c106 :: vec 3 (RpI .i64).sz (.slice A33 z6_2.length z6_2.length) z6_2.length cs_b7_2_c106 :: ro ρ_L22 :: l)) ?_ ?_
                      · skip -- c106
                        refine x_cond_p (k15_L28h = 0) rfl (fun hc106 => ?_) (fun hc106 => ?_)
                        · replace hFc106 := it_t hc106 hFc106
                          obtain ⟨hk38_4, hFc106⟩ := ck_s hFc106
                          obtain ⟨x112, hx112, hFc106⟩ := lv_s hFc106
                          obtain ⟨x115, hx115, hFc106⟩ := ar_s hFc106
                          obtain ⟨hk38_9, hFc106⟩ := ck_s hFc106
                          refine x_head 10 mixed (by kernel_rfl) hS _ _ rfl rfl <| q (yl_field0 fld_38_2 eL35h_7) <| qa (fun w' hS => at_load one_22 rfl ((hS.pull 1).cell rfl)) <| q (yl_move eL35h_9) <|
                            q (yl_move rfl) <| q (yix_f sl_22 rfl rfl (fz9_1.le hleρ_L22) hk38_4) <| qa (fun w' hS => at_load one_3 rfl (RdS.getW (fz9_1.le hleρ_L22) (hS.pull 5) hk38_4 hx112)) <| q (yl_move eL35h_14) <|
                            q (yl_move eL35h_16) <| q (yadd rfl rfl hx115) <| q (yix_o sl_22 rfl rfl (hS.pull 4) h_b7_2_L35h hk38_9) <|
                            q_done fun w' hS => ?_
                          obtain ⟨z38_10, hz38_10, hFc106⟩ := lv_s hFc106
                          refine o_put' (news := [.int .i64 x115]) sz_3 rfl rfl rfl rfl (o := 0) rfl hk38_9 rfl (hS.pull 4) h_b7_2_L35h (Le.refl _) (fun c hc => ok_all hc (show (RpI .i64).ok ρ_L22 [.int .i64 x115] x115 from rfl)) hz38_10 (fun cs38_10 w' hr38_10 hS => ?_)
                          refine x_done <|
                            ?_
                          exact x_inv ⟨A_b7_1_L35h, b7_1_L35h.length, c_b7_1_L35h, cs_b7_1_L35h, cs38_10, b7_1_L35h, z38_10, (Option.some.inj (show some _ = some _ from hFc106)), eL35h_4, eL35h_7, eL35h_9, eL35h_12, eL35h_14, eL35h_15, eL35h_16, eL35h_92, eL35h_93, eL35h_94, eL35h_99, eL35h_100, eL35h_101, h_b7_1_L35h, hr38_10, ((((((hS.pull 5).pull 1).pull 5).pull 5).pull 5).pull 5)⟩
                        · replace hFc106 := it_f hc106 hFc106
                          obtain ⟨hk39_3, hFc106⟩ := ck_s hFc106
                          obtain ⟨y39_4, hy39_4, hFc106⟩ := lv_s hFc106
                          obtain ⟨el39_4, ek39_4, ee39_4⟩ := h_levels12_L22.get hk39_3
                          rw [← hy39_4] at ek39_4
                          obtain ⟨A39_4, n39_4, c39_4, rfl, f39_4⟩ := ek39_4
                          obtain rfl := f39_4.n
                          obtain ⟨x123, hx123, hFc106⟩ := ar_s hFc106
                          obtain ⟨x126, hx126, hFc106⟩ := ar_s hFc106
                          obtain ⟨x129, hx129, hFc106⟩ := ar_s hFc106
                          obtain ⟨r40_6, hc40_6, hFc106⟩ := bd_s hFc106
                          refine x_seq <| x_region <| p (yl_move eL35h_14) <| p (yl_move eL35h_12) <|
                            p (yl_move eL35h_15) <| p (yix_o sl_199 rfl rfl (hS.pull 2) h_levels12_L22 hk39_3) <| pa (at_load one_142 rfl (EltV.ld (m := 0) ee39_4 (hS.pull 2) rfl)) <| p (yl_len_slice usl_142 rfl) <|
                            p (yadd rfl rfl hx123) <| p (yl_assign rfl) <| x_done <| x_region <|
                            p (yl_move rfl) <| p (yl_move rfl) <| p (yadd rfl rfl hx126) <| p (yl_move eL35h_14) <|
                            p (yl_move eL35h_16) <| p (yadd rfl rfl hx129) <|
                            ?_
                          have hcall := c_tree_grow_2 hc40_6 h_b7_1_L35h h_b7_2_L35h ((((hS.pull 5).pull 5).pull 5).pull 4)
                          refine o_cc call_103 (args3 eL35h_7 rfl rfl) hcall ?_
                          rintro e w' ⟨A_b_t0_1_ret_40_6, n_b_t0_1_ret_40_6, c_b_t0_1_ret_40_6, cs_b_t0_1_ret_40_6, rfl, h_b_t0_1_ret_40_6, hS⟩
                          refine ⟨_, rfl, ?_⟩
                          obtain rfl := St.vec_n (hS.pull 2) h_b_t0_1_ret_40_6
                          refine x_done <|
                            ?_
                          exact x_inv ⟨A_b_t0_1_ret_40_6, r40_6.length, c_b_t0_1_ret_40_6, cs_b_t0_1_ret_40_6, cs_b7_2_L35h, r40_6, b7_2_L35h, (Option.some.inj (show some _ = some _ from hFc106)), eL35h_4, eL35h_7, eL35h_9, eL35h_12, eL35h_14, eL35h_15, eL35h_16, eL35h_92, eL35h_93, eL35h_94, eL35h_99, eL35h_100, eL35h_101, h_b_t0_1_ret_40_6, h_b7_2_L35h, ((((((hS.pull 3).pull 2).pull 3).pull 5).pull 4).pull 5)⟩
                      rintro E w ⟨A_b7_1_c106, n_b7_1_c106, c_b7_1_c106, cs_b7_1_c106, cs_b7_2_c106, b7_1_c106, b7_2_c106, rfl, ec106_4, ec106_7, ec106_9, ec106_12, ec106_14, ec106_15, ec106_16, ec106_92, ec106_93, ec106_94, ec106_99, ec106_100, ec106_101, h_b7_1_c106, h_b7_2_c106, hS⟩
                      obtain rfl := St.vec_n (hS.pull 3) h_b7_1_c106
                      obtain ⟨x131, hx131, hFL35⟩ := ar_s hFL35
                      refine x_blk <| x_region <| p (yadd ec106_101 rfl hx131) <| p (yl_move rfl) <|
                        x_done <|
                        ?_
                      obtain rfl := Option.some.inj (show some _ = some _ from hFL35)
                      exact x_inv ⟨kL35, Nat.lt_succ_self _, A_b7_1_c106, b7_1_c106.length, c_b7_1_c106, cs_b7_1_c106, cs_b7_2_c106, x131, b7_1_c106, b7_2_c106, hLL35, ec106_4, ec106_7, ec106_9, ec106_12, ec106_14, ec106_15, ec106_16, ec106_92, ec106_93, ec106_94, ec106_99, ec106_100, rfl, h_b7_1_c106, h_b7_2_c106, ((((((hS.pull 5).pull 5).pull 5).pull 5).pull 5).pull 5)⟩
                    · replace hFL35 := it_f hc102 hFL35
                      refine x_exitTo _ rfl <|
                        ?_
                      obtain rfl := Option.some.inj (show some _ = some _ from hFL35)
                      exact x_inv ⟨A_b7_1_L35h, b7_1_L35h.length, c_b7_1_L35h, cs_b7_1_L35h, cs_b7_2_L35h, b7_1_L35h, b7_2_L35h, hLL35, eL35h_4, eL35h_7, eL35h_9, eL35h_12, eL35h_14, eL35h_15, eL35h_92, eL35h_93, eL35h_94, h_b7_1_L35h, h_b7_2_L35h, ((((((hS.pull 5).pull 5).pull 5).pull 5).pull 5).pull 5)⟩
                  rintro E w ⟨A_b7_1_L35, n_b7_1_L35, c_b7_1_L35, cs_b7_1_L35, cs_b7_2_L35, b7_1_L35, b7_2_L35, rfl, eL35_4, eL35_7, eL35_9, eL35_12, eL35_14, eL35_15, eL35_92, eL35_93, eL35_94, h_b7_1_L35, h_b7_2_L35, hS⟩
                  obtain rfl := St.vec_n (hS.pull 3) h_b7_1_L35
                  obtain ⟨x132, hx132, hFL32⟩ := ar_s hFL32
                  refine x_blk <| x_region <| p (yadd eL35_94 rfl hx132) <| p (yl_move rfl) <|
                    x_done <|
                    ?_
                  obtain rfl := Option.some.inj (show some _ = some _ from hFL32)
                  exact x_inv ⟨kL32, Nat.lt_succ_self _, A_b7_1_L35, b7_1_L35.length, c_b7_1_L35, cs_b7_1_L35, cs_b7_2_L35, x132, b7_1_L35, b7_2_L35, hLL32, eL35_4, eL35_7, eL35_9, eL35_12, eL35_14, eL35_15, eL35_92, eL35_93, rfl, h_b7_1_L35, h_b7_2_L35, ((((((hS.pull 5).pull 5).pull 5).pull 5).pull 5).pull 5)⟩
                · replace hFL32 := it_f hc95 hFL32
                  refine x_exitTo _ rfl <|
                    ?_
                  obtain rfl := Option.some.inj (show some _ = some _ from hFL32)
                  exact x_inv ⟨A_b7_1_L32h, b7_1_L32h.length, c_b7_1_L32h, cs_b7_1_L32h, cs_b7_2_L32h, b7_1_L32h, b7_2_L32h, hLL32, eL32h_4, eL32h_7, eL32h_9, eL32h_12, eL32h_14, eL32h_15, h_b7_1_L32h, h_b7_2_L32h, ((((((hS.pull 5).pull 5).pull 5).pull 5).pull 5).pull 5)⟩
              rintro E w ⟨A_b7_1_L32, n_b7_1_L32, c_b7_1_L32, cs_b7_1_L32, cs_b7_2_L32, b7_1_L32, b7_2_L32, rfl, eL32_4, eL32_7, eL32_9, eL32_12, eL32_14, eL32_15, h_b7_1_L32, h_b7_2_L32, hS⟩
              obtain rfl := St.vec_n (hS.pull 3) h_b7_1_L32
              obtain ⟨hk43_3, hFL28⟩ := ck_s hFL28
              obtain ⟨y43_4, hy43_4, hFL28⟩ := lv_s hFL28
              obtain ⟨el43_4, ek43_4, ee43_4⟩ := h_levels12_L22.get hk43_3
              rw [← hy43_4] at ek43_4
              obtain ⟨A43_4, n43_4, c43_4, rfl, f43_4⟩ := ek43_4
              obtain rfl := f43_4.n
              obtain ⟨x139, hx139, hFL28⟩ := ar_s hFL28
              obtain ⟨x79, hx79, hFL28⟩ := ar_s hFL28
              refine x_region <| p (yl_move eL32_14) <| p (yl_move eL32_12) <| p (yl_move eL32_15) <|
                p (yix_o sl_199 rfl rfl (hS.pull 2) h_levels12_L22 hk43_3) <| pa (at_load one_142 rfl (EltV.ld (m := 0) ee43_4 (hS.pull 2) rfl)) <| p (yl_len_slice usl_142 rfl) <| p (yadd rfl rfl hx139) <|
                p (yl_assign rfl) <| x_done <| x_blk <| x_region <|
                p (yl_move eL32_15) <| p (ysub rfl rfl hx79) <| p (yl_assign rfl) <| x_done <|
                ?_
              obtain rfl := Option.some.inj (show some _ = some _ from hFL28)
              exact x_inv ⟨kL28, Nat.lt_succ_self _, A_b7_1_L32, b7_1_L32.length, c_b7_1_L32, cs_b7_1_L32, cs_b7_2_L32, x139, x79, b7_1_L32, b7_2_L32, hLL28, eL32_4, eL32_7, eL32_9, eL32_12, rfl, rfl, h_b7_1_L32, h_b7_2_L32, ((((((hS.pull 5).pull 5).pull 5).pull 5).pull 5).pull 5)⟩
            · replace hFL28 := it_f hc77 hFL28
              refine x_exitTo _ rfl <|
                ?_
              obtain rfl := Option.some.inj (show some _ = some _ from hFL28)
              exact x_inv ⟨A_b7_1_L28h, b7_1_L28h.length, c_b7_1_L28h, cs_b7_1_L28h, cs_b7_2_L28h, b7_1_L28h, b7_2_L28h, hLL28, eL28h_4, eL28h_7, h_b7_1_L28h, h_b7_2_L28h, ((((((hS.pull 2).drop.pull 4).pull 4).pull 4).pull 4).pull 4)⟩
          rintro E w ⟨A_b7_1_L28, n_b7_1_L28, c_b7_1_L28, cs_b7_1_L28, cs_b7_2_L28, b7_1_L28, b7_2_L28, rfl, eL28_4, eL28_7, h_b7_1_L28, h_b7_2_L28, hS⟩
          obtain rfl := St.vec_n (hS.pull 2) h_b7_1_L28
          refine x_seq <| x_region <| pa (v := .agg #[.int .i64 r7_1, .slice A_b7_1_L28 b7_1_L28.length c_b7_1_L28, .slice A33 z6_2.length z6_2.length]) (ld_sub agg_38 eL28_7 rfl rfl (hS.pull 1)) <|
            ?_
          refine o_storeAgg (news := [.int .i64 r7_1, .slice A_b7_1_L28 b7_1_L28.length c_b7_1_L28, .slice A33 z6_2.length z6_2.length]) agg_38 eL28_4 rfl rfl (by simp [over_length]) hS (fun w' hS => ?_)
          refine p (yl_assign rfl) <| x_done <|
            ?_
          obtain rfl := Option.some.inj (show some _ = some _ from hF)
          exact x_return ⟨_, ⟨_, _, _, rfl, eL28_4, ldvA agg_38 rfl (fun j v hj => by rw [add0]; exact St.cell hS hj), _, _, rfl, rfl, rfl⟩, A_b7_1_L28, b7_1_L28.length, c_b7_1_L28, cs_b7_1_L28, A33, z6_2.length, z6_2.length, cs_b7_2_L28, rfl, (RepL.flat (fun h => h) h_b7_1_L28), (RepL.flat (fun h => h) h_b7_2_L28), (ro_back2 (hle9_1.trans hleρ_L22) (((hS.drop.drop.pull 2).pull 2).pull 2))⟩
attribute [irreducible] P_tree_Build

def P_maskkeep4_TreeBuilds_L6 (l_0 : List Int) (r3_1 : Int) : (List T_floor_Point × Int × Int) → Option ((List T_floor_Point × Int × Int) ⊕ List T_floor_Point) := fun (at8_L6h, y20_L6h, b14_1_L6h) =>
  if y20_L6h < r3_1 then
    bd (P_maskmake_Stream_Next (T_maskmake_Stream.mk l_0 b14_1_L6h) 170) fun r7_2 =>
    bd (P_maskmake_Stream_Next (T_maskmake_Stream.mk l_0 r7_2.2) 90) fun r7_4 =>
    lv (at8_L6h ++ [(T_floor_Point.mk r7_2.1 r7_4.1)]) fun z7_7 =>
    ck (apOk 16 z7_7.length) <|
    ar (y20_L6h + 1) fun x30 =>
    some (Sum.inl (z7_7, x30, r7_4.2))
  else
    some (Sum.inr at8_L6h)
def P_maskkeep4_TreeBuilds_L13 (r3_1 : Int) (r9_2 : (T_tree_Tree × Int)) : Int → Option (Int ⊕ (Unit ⊕ Bool)) := fun y69_L13h =>
  if y69_L13h < r3_1 then
    bd (P_tree_Depth r9_2.1 y69_L13h) fun r15_2 =>
    bd (P_tree_Depth r9_2.1 0) fun r15_4 =>
    if r15_2 ≠ r15_4 then
      some (Sum.inr (Sum.inr false))
    else
      ar (y69_L13h + 1) fun x78 =>
      some (Sum.inl x78)
  else
    some (Sum.inr (Sum.inl ()))
def P_maskkeep4_TreeBuilds (l_0 : List Int) (flops1 : Int) : Option Bool :=
  bd (P_maskmake_Stream_LayLib (T_maskmake_Stream.mk l_0 0)) fun r2_1 =>
  bd (P_maskmake_Below flops1 289) fun r3_1 =>
  bd (
    lp (P_maskkeep4_TreeBuilds_L6 l_0 r3_1) fuel ([], 0, r2_1.2)) fun at8_L6 =>
  bd (P_tree_Build at8_L6 r2_1.1) fun r9_2 =>
  bd (P_maskkeep4_trees) fun r10_0 =>
  lv ((!r10_0) || (decide (r9_2.2 ≠ 0))) fun x42 =>
  bd (gd (!x42) (P_tree_Check r9_2.1 r3_1 r2_1.1)) fun r10_10 =>
  lv (x42 || (decide (r10_10 ≠ 0))) fun x49 =>
  lv ((decide (r3_1 ≤ 8)) && (decide (0 < (r9_2.1.Up.length : Int)))) fun x58 =>
  lv (x49 || x58) fun x59 =>
  ck ((!x59) = true → I64 ((2 : Int) * (r9_2.1.Up.length : Int))) <|
  lv ((2 : Int) * (r9_2.1.Up.length : Int)) fun x64 =>
  lv (x59 || (decide (r3_1 < x64))) fun x67 =>
  if x67 = true then
    some false
  else
    bs (
      lp (P_maskkeep4_TreeBuilds_L13 r3_1 r9_2) fuel 0) (fun y => some y) fun _ =>
    bd (P_tree_Build at8_L6 []) fun r18_1 =>
    some ((decide (r18_1.2 = 7)) == (decide (8 < r3_1)))
set_option maxHeartbeats 4000000 in
set_option maxRecDepth 100000 in
theorem c_maskkeep4_TreeBuilds {w0 w : World} {l : List Assn} {ρ : Heap} {A_l_0 : Option Addr} {n_l_0 : Nat} {c_l_0 : Nat} {l_0 : List Int} {flops1 : Int} {r : Bool} (hF : P_maskkeep4_TreeBuilds l_0 flops1 = some r) (h_l_0 : RdS (RpI .i64) ρ A_l_0 n_l_0 c_l_0 l_0) (hS : St w0 w (ro ρ :: l)) :
    Calls Try.prog 8 #[.slice A_l_0 n_l_0 c_l_0, .int .i64 flops1] w fun e w' => e = .returned (.bool r) ∧ St w0 w' (ro ρ :: l) := by
  obtain rfl := h_l_0.n
  refine enterC Try.func8 rfl 89 rfl (by simp) ?_
  refine x_seq <| x_region <| p (yl_assign rfl) <| x_done <|
    x_seq <| x_region <| p (yl_move rfl) <| p (v := .agg #[.slice A_l_0 l_0.length c_l_0, .int .i64 0]) (yl_build bld_25 bldf_25 (parts_eq (pt (va := .slice A_l_0 l_0.length c_l_0) rfl pt0)) (by kernel_rfl)) <|
    ?_
  refine o_box (cs := [.slice A_l_0 l_0.length c_l_0, .int .i64 0]) rfl rfl hS (fun b14 w' hS => ?_)
  obtain ⟨r2_1, hc2_1, hF⟩ := bd_s hF
  refine p (yl_assign rfl) <| x_done <| x_seq <| x_region <|
    p (yl_move rfl) <|
    ?_
  have hcall := c_maskmake_Stream_LayLib hc2_1 h_l_0 ((hS.pull 1).pull 1)
  refine o_cc call_18 (args1 rfl) hcall ?_
  rintro e w' ⟨ρ'_2_1, A_y0_ret_2_1, n_y0_ret_2_1, c_y0_ret_2_1, cs_y0_ret_2_1, rfl, hle2_1, h_y0_ret_2_1, hS⟩
  refine ⟨_, rfl, ?_⟩
  obtain rfl := St.vec_n hS h_y0_ret_2_1
  obtain ⟨r3_1, hc3_1, hF⟩ := bd_s hF
  refine p (yl_assign rfl) <| x_done <| x_seq <| x_region <|
    p (yl_move rfl) <|
    ?_
  have hcall := c_maskmake_Below hc3_1  (hS.pull 2)
  refine o_cc call_38 (args2 rfl rfl) ((Calls.mono hcall (fun e w'' h => And.intro h.1 ((h.2.pull 2).pull 2)))) ?_
  rintro e w' ⟨rfl, hS⟩
  refine ⟨_, rfl, ?_⟩
  refine p (v := .int .i64 r3_1) (yl_assign rfl) <| x_done <| x_seq <| x_region <|
    p (yl_assign rfl) <| x_done <| x_seq <| x_seq <|
    x_region <| p (v := .int .i64 r3_1) (yl_move rfl) <| p (yl_move rfl) <| x_done <|
    ?_
  obtain ⟨oL6, hLL6, hF⟩ := bd_s hF
  refine x_join (fun E w => ∃ (A_at8_L6 : Option Addr) (n_at8_L6 : Nat) (c_at8_L6 : Nat) (cs_at8_L6 : List Value) (at8_L6 : List T_floor_Point), at8_L6 = oL6 ∧ E 6 = .slice A_y0_ret_2_1 r2_1.1.length c_y0_ret_2_1 ∧ E 7 = .int .i64 r3_1 ∧ E 8 = .slice A_at8_L6 n_at8_L6 c_at8_L6 ∧ RepL R_floor_Point ρ'_2_1 at8_L6 cs_at8_L6 ∧ St w0 w (vec 46 R_api_Cell.sz (.slice A_y0_ret_2_1 r2_1.1.length c_y0_ret_2_1) r2_1.1.length cs_y0_ret_2_1 :: vec 89 R_floor_Point.sz (.slice A_at8_L6 n_at8_L6 c_at8_L6) n_at8_L6 cs_at8_L6 :: ro ρ'_2_1 :: l)) ?_ ?_
  · skip -- L6
    refine x_block ?_
    replace hS := St.vec_nil hS 89 R_floor_Point.sz
    have hnil_A_at8_L6h : RepL R_floor_Point ρ'_2_1 [] [] := rfl
    refine x_loop (fun k_ E w => ∃ (A_at8_L6h : Option Addr) (n_at8_L6h : Nat) (c_at8_L6h : Nat) (cs_at8_L6h : List Value) (at8_L6h : List T_floor_Point) (y20_L6h : Int) (b14_1_L6h : Int), lp (P_maskkeep4_TreeBuilds_L6 l_0 r3_1) k_ (at8_L6h, y20_L6h, b14_1_L6h) = some oL6 ∧ E 5 = .pointer (some ⟨b14, 0, none⟩) ∧ E 6 = .slice A_y0_ret_2_1 r2_1.1.length c_y0_ret_2_1 ∧ E 7 = .int .i64 r3_1 ∧ E 8 = .slice A_at8_L6h n_at8_L6h c_at8_L6h ∧ E 19 = .int .i64 r3_1 ∧ E 20 = .int .i64 y20_L6h ∧ RepL R_floor_Point ρ'_2_1 at8_L6h cs_at8_L6h ∧ St w0 w (cells b14 25 [.slice A_l_0 l_0.length c_l_0, .int .i64 b14_1_L6h] :: vec 46 R_api_Cell.sz (.slice A_y0_ret_2_1 r2_1.1.length c_y0_ret_2_1) r2_1.1.length cs_y0_ret_2_1 :: vec 89 R_floor_Point.sz (.slice A_at8_L6h n_at8_L6h c_at8_L6h) n_at8_L6h cs_at8_L6h :: ro ρ'_2_1 :: l)) fuel ⟨none, 0, 0, [], [], 0, r2_1.2, hLL6, rfl, rfl, rfl, rfl, rfl, rfl, hnil_A_at8_L6h, ((((hS.pull 3).pull 1).pull 2).pull 3)⟩ ?_
    rintro kL6 E w ⟨A_at8_L6h, n_at8_L6h, c_at8_L6h, cs_at8_L6h, at8_L6h, y20_L6h, b14_1_L6h, hLL6, eL6h_5, eL6h_6, eL6h_7, eL6h_8, eL6h_19, eL6h_20, h_at8_L6h, hS⟩
    obtain rfl := St.vec_n (hS.pull 2) h_at8_L6h
    obtain ⟨kL6, obL6, rfl, hFL6, hLL6⟩ := lp_s hLL6
    refine x_seq <| x_region <| p (yl_lss eL6h_20 eL6h_19) <| x_done <|
      x_seq <|
      x_cond_p (y20_L6h < r3_1) rfl (fun hc21 => ?_) (fun hc21 => ?_)
    · replace hFL6 := it_t hc21 hFL6
      obtain ⟨r7_2, hc7_2, hFL6⟩ := bd_s hFL6
      refine x_skip <| x_seq <| x_block <| x_region <|
        p (yl_move eL6h_8) <| p (yl_move eL6h_5) <|
        ?_
      have hcall := c_maskmake_Stream_Next hc7_2 (h_l_0.le hle2_1) ((hS.pull 3).pull 1)
      refine o_cc call_15 (args2 rfl rfl) hcall ?_
      rintro e w' ⟨rfl, hS⟩
      refine ⟨_, rfl, ?_⟩
      obtain ⟨r7_4, hc7_4, hFL6⟩ := bd_s hFL6
      refine p (yl_move eL6h_5) <|
        ?_
      have hcall := c_maskmake_Stream_Next hc7_4 (h_l_0.le hle2_1) ((hS.pull 1).pull 1)
      refine o_cc call_15 (args2 rfl rfl) hcall ?_
      rintro e w' ⟨rfl, hS⟩
      refine ⟨_, rfl, ?_⟩
      refine p (v := .agg #[.int .i64 r7_2.1, .int .i64 r7_4.1]) (yl_build bld_89 bldf_89 (parts_eq (pt (va := .int .i64 r7_2.1) rfl (pt (va := .int .i64 r7_4.1) rfl pt0))) (by kernel_rfl)) <|
        ?_
      refine o_buildSlice (vs := [.agg #[.int .i64 r7_2.1, .int .i64 r7_4.1]]) (cs := [.int .i64 r7_2.1, .int .i64 r7_4.1]) sl_87 zero_89 (parts_eq (pt (va := .agg #[.int .i64 r7_2.1, .int .i64 r7_4.1]) rfl pt0)) rfl (by intro v hv; simp only [List.mem_cons, List.not_mem_nil, or_false] at hv; first | (subst hv; rfl) | (rcases hv with rfl <;> rfl)) (by decide) rfl hS (fun b28 w' hS => ?_)
      obtain ⟨z7_7, hz7_7, hFL6⟩ := lv_s hFL6
      obtain ⟨hk7_7, hFL6⟩ := ck_s hFL6
      refine o_ap sl_87 zero_89 rfl (by decide) rfl rfl (hS.pull 4) h_at8_L6h (src_blk usl_87 hS rfl rfl) (RepL.cons (R := R_floor_Point) (ρ := ρ'_2_1) (x := (T_floor_Point.mk r7_2.1 r7_4.1)) (cs := [.int .i64 r7_2.1, .int .i64 r7_4.1]) rfl RepL.nil) hz7_7 hk7_7 (fun A29 c29 cs29 w' hr29 hS => ?_)
      obtain ⟨x30, hx30, hFL6⟩ := ar_s hFL6
      refine p (yl_assign rfl) <| x_done <| x_blk <| x_region <|
        p (yadd eL6h_20 rfl hx30) <| p (yl_move rfl) <| x_done <|
        ?_
      obtain rfl := Option.some.inj (show some _ = some _ from hFL6)
      exact x_inv ⟨kL6, Nat.lt_succ_self _, A29, z7_7.length, c29, cs29, z7_7, x30, r7_4.2, hLL6, eL6h_5, eL6h_6, eL6h_7, rfl, eL6h_19, rfl, hr29, (((((hS.pull 1).drop.pull 2).pull 1).pull 3).pull 3)⟩
    · replace hFL6 := it_f hc21 hFL6
      refine x_exitTo _ rfl <|
        ?_
      obtain rfl := Option.some.inj (show some _ = some _ from hFL6)
      exact x_inv ⟨A_at8_L6h, at8_L6h.length, c_at8_L6h, cs_at8_L6h, at8_L6h, hLL6, eL6h_6, eL6h_7, eL6h_8, h_at8_L6h, (((hS.drop.pull 2).pull 2).pull 2)⟩
  rintro E w ⟨A_at8_L6, n_at8_L6, c_at8_L6, cs_at8_L6, at8_L6, rfl, eL6_6, eL6_7, eL6_8, h_at8_L6, hS⟩
  obtain rfl := St.vec_n (hS.pull 1) h_at8_L6
  obtain ⟨r9_2, hc9_2, hF⟩ := bd_s hF
  refine x_seq <| x_region <| p (yl_move eL6_8) <| p (yl_move eL6_6) <|
    ?_
  obtain ⟨ρl0, hll0, hlf0, hS0, back0⟩ := St.lend ((hS.pull 2).pull 2) h_at8_L6
  obtain ⟨ρl1, hll1, hlf1, hS1, back1⟩ := St.lend (hS0.pull 1) (h_y0_ret_2_1.le hll0)
  have hcall := c_tree_Build hc9_2 (hlf0.le hll1) hlf1 hS1
  refine o_cc call_41 (args2 rfl rfl) hcall ?_
  rintro e w' ⟨A_y0_ret_1_9_2, n_y0_ret_1_9_2, c_y0_ret_1_9_2, cs_y0_ret_1_9_2, A_y0_ret_2_9_2, n_y0_ret_2_9_2, c_y0_ret_2_9_2, cs_y0_ret_2_9_2, rfl, h_y0_ret_1_9_2, h_y0_ret_2_9_2, hS⟩
  refine ⟨_, rfl, ?_⟩
  replace hS := back1 (hS.pull 2)
  replace hS := back0 (hS.pull 1)
  replace h_y0_ret_1_9_2 : RepL (RpI .i64) ρ'_2_1 r9_2.1.Up cs_y0_ret_1_9_2 := RepL.flat (fun h => h) h_y0_ret_1_9_2
  obtain rfl := St.vec_n (hS.pull 3) h_y0_ret_1_9_2
  replace h_y0_ret_2_9_2 : RepL (RpI .i64) ρ'_2_1 r9_2.1.Leaf cs_y0_ret_2_9_2 := RepL.flat (fun h => h) h_y0_ret_2_9_2
  obtain rfl := St.vec_n (hS.pull 4) h_y0_ret_2_9_2
  refine p (yl_move rfl) <| p (yl_extract rfl rfl) <| p (yl_extract rfl rfl) <|
    ?_
  refine o_alloc zero_38 hS (fun b9 w' hS => ?_)
  refine o_storeAgg (news := [.int .i64 r9_2.1.Cell, .slice A_y0_ret_1_9_2 r9_2.1.Up.length c_y0_ret_1_9_2, .slice A_y0_ret_2_9_2 r9_2.1.Leaf.length c_y0_ret_2_9_2]) agg_38 rfl rfl rfl (by simp [over_length]) hS (fun w' hS => ?_)
  obtain ⟨r10_0, hc10_0, hF⟩ := bd_s hF
  refine p (yl_assign rfl) <| x_done <| x_seq <| x_seq <|
    x_region <|
    ?_
  have hcall := c_maskkeep4_trees hc10_0  (hS.pull 2)
  refine o_cc call_21 args0 ((Calls.mono hcall (fun e w'' h => And.intro h.1 ((((((h.2.pull 5).pull 5).pull 5).pull 3).pull 5).pull 5)))) ?_
  rintro e w' ⟨rfl, hS⟩
  refine ⟨_, rfl, ?_⟩
  obtain ⟨x42, hx42, hF⟩ := lv_s hF
  obtain ⟨r10_10, hc10_10, hF⟩ := bd_s hF
  refine p (yl_not rfl) <| p (yl_move rfl) <| pg (v := .int .i64 r9_2.2) 39 (c := !(!r10_0)) (says_f _) (fun hq => Yl.at (yl_move rfl)) <| pg (v := .bool (decide (r9_2.2 ≠ 0))) 39 (c := !(!r10_0)) (says_f _) (fun hq => Yl.at (yl_neq (cv hq) rfl)) <|
    p (yor' rfl rfl (fun hc => (cv (t_not hc))) hx42) <| p (yl_move rfl) <| pg (v := .agg #[.int .i64 r9_2.1.Cell, .slice A_y0_ret_1_9_2 r9_2.1.Up.length c_y0_ret_1_9_2, .slice A_y0_ret_2_9_2 r9_2.1.Leaf.length c_y0_ret_2_9_2]) 43 (c := !x42) (says_f _) (fun hq => ld_sub agg_38 rfl rfl rfl hS) <| pg (v := .int .i64 r3_1) 43 (c := !x42) (says_f _) (fun hq => Yl.at (yl_move eL6_7)) <|
    pg (v := .slice A_y0_ret_2_1 r2_1.1.length c_y0_ret_2_1) 43 (c := !x42) (says_f _) (fun hq => Yl.at (yl_move eL6_6)) <|
    pccg (v := .int .i64 r10_10) 43 (c := !x42) (says_f _) call_42 (fun hq => (args3 (cv hq) (cv hq) (cv hq))) hS (fun hq => by
      obtain ⟨ρl0, hll0, hlf0, hS0, back0⟩ := St.lend ((hS.pull 2).pull 4) h_y0_ret_1_9_2
      obtain ⟨ρl1, hll1, hlf1, hS1, back1⟩ := St.lend (hS0.pull 4) (h_y0_ret_2_9_2.le hll0)
      obtain ⟨ρl2, hll2, hlf2, hS2, back2⟩ := St.lend (hS1.pull 3) (h_y0_ret_2_1.le (hll0.trans hll1))
      have hcall := c_tree_Check (gd_t hc10_10 hq) (hlf0.le (hll1.trans hll2)) (hlf1.le hll2) hlf2 hS2
      exact (Calls.mono hcall (fun e w'' h => And.intro h.1 (((((((back0 ((back1 ((back2 h.2).pull 1)).pull 1)).pull 2).pull 1).pull 3).pull 3).pull 5).pull 5)))) (fun w' hS => ?_)
  obtain ⟨x49, hx49, hF⟩ := lv_s hF
  obtain ⟨x58, hx58, hF⟩ := lv_s hF
  obtain ⟨x59, hx59, hF⟩ := lv_s hF
  obtain ⟨hk10_27, hF⟩ := ck_s hF
  obtain ⟨x64, hx64, hF⟩ := lv_s hF
  obtain ⟨x67, hx67, hF⟩ := lv_s hF
  refine pg (v := .bool (decide (r10_10 ≠ 0))) 43 (c := !x42) (says_f _) (fun hq => Yl.at (yl_neq (cv hq) rfl)) <| p (yor' rfl rfl (fun hc => (cv (t_not hc))) hx49) <| p (yl_move rfl) <| pg (v := .int .i64 r3_1) 50 (c := !x49) (says_f _) (fun hq => Yl.at (yl_move eL6_7)) <|
    pg (v := .bool (decide (r3_1 ≤ 8))) 50 (c := !x49) (says_f _) (fun hq => Yl.at (yl_leq (cv hq) rfl)) <| pg (v := .bool (decide (r3_1 ≤ 8))) 50 (c := !x49) (says_f _) (fun hq => Yl.at (yl_move (cv hq))) <| pg (v := .pointer (some ⟨b9, 1, none⟩)) 53 (c := (!x49) && (decide (r3_1 ≤ 8))) (says_ift _ _) (fun hq => Yl.at (yl_field0 fld_38_1 rfl)) <| pg (v := .slice A_y0_ret_1_9_2 r9_2.1.Up.length c_y0_ret_1_9_2) 53 (c := (!x49) && (decide (r3_1 ≤ 8))) (says_ift _ _) (fun hq => at_load one_22 (cv hq) (hS.cell rfl)) <|
    pg (v := .int .i64 (r9_2.1.Up.length : Int)) 53 (c := (!x49) && (decide (r3_1 ≤ 8))) (says_ift _ _) (fun hq => Yl.at (yl_len_slice usl_22 (cv hq))) <| pg (v := .bool (decide (0 < (r9_2.1.Up.length : Int)))) 53 (c := (!x49) && (decide (r3_1 ≤ 8))) (says_ift _ _) (fun hq => Yl.at (yl_gtr (cv hq) rfl)) <| pg (v := .bool x58) 50 (c := !x49) (says_f _) (fun hq => Yl.at (yand' (cv hq) (fun hc => (cv (and_i hq hc))) rfl hx58)) <| p (yor' rfl rfl (fun hc => (cv (t_not hc))) hx59) <|
    p (yl_move rfl) <| pg (v := .pointer (some ⟨b9, 1, none⟩)) 60 (c := !x59) (says_f _) (fun hq => Yl.at (yl_field0 fld_38_1 rfl)) <| pg (v := .slice A_y0_ret_1_9_2 r9_2.1.Up.length c_y0_ret_1_9_2) 60 (c := !x59) (says_f _) (fun hq => at_load one_22 (cv hq) (hS.cell rfl)) <| pg (v := .int .i64 (r9_2.1.Up.length : Int)) 60 (c := !x59) (says_f _) (fun hq => Yl.at (yl_len_slice usl_22 (cv hq))) <|
    pg (v := .int .i64 x64) 60 (c := !x59) (says_f _) (fun hq => Yl.at (ymul rfl (cv hq) ⟨hx64, (hk10_27 hq)⟩)) <| pg (v := .int .i64 r3_1) 60 (c := !x59) (says_f _) (fun hq => Yl.at (yl_move eL6_7)) <| pg (v := .bool (decide (r3_1 < x64))) 60 (c := !x59) (says_f _) (fun hq => Yl.at (yl_gtr (cv hq) (cv hq))) <| p (yor' rfl rfl (fun hc => (cv (t_not hc))) hx67) <|
    x_done <|
    x_cond (t := x67) rfl (fun hc67 => ?_) (fun hc67 => ?_)
  · replace hF := it_t hc67 hF
    refine x_seq <| x_region <| p (yl_assign rfl) <| x_done <|
      ?_
    obtain rfl := Option.some.inj (show some _ = some _ from hF)
    exact x_return ⟨_, ⟨_, _, rfl, rfl, rfl⟩, rfl, (ro_back0 hle2_1 ((((hS.drop.drop.pull 1).drop.pull 1).drop.pull 1).drop))⟩
  · replace hF := it_bf hc67 hF
    refine x_skip <| x_seq <| x_seq <| x_region <|
      p (v := .int .i64 r3_1) (yl_move eL6_7) <| p (yl_move rfl) <| x_done <|
      ?_
    obtain ⟨oL13, hLL13, hF⟩ := bs_s hF
    refine x_join (fun E w => (Sum.inl (())) = oL13 ∧ E 7 = .int .i64 r3_1 ∧ E 8 = .slice A_at8_L6 at8_L6.length c_at8_L6 ∧ St w0 w (vec 89 R_floor_Point.sz (.slice A_at8_L6 at8_L6.length c_at8_L6) at8_L6.length cs_at8_L6 :: ro ρ'_2_1 :: l)) ?_ ?_
    · skip -- L13
      refine x_block ?_
      refine x_loop (fun k_ E w => ∃ (y69_L13h : Int), lp (P_maskkeep4_TreeBuilds_L13 r3_1 r9_2) k_ y69_L13h = some oL13 ∧ E 7 = .int .i64 r3_1 ∧ E 8 = .slice A_at8_L6 at8_L6.length c_at8_L6 ∧ E 9 = .pointer (some ⟨b9, 0, none⟩) ∧ E 68 = .int .i64 r3_1 ∧ E 69 = .int .i64 y69_L13h ∧ St w0 w (vec 89 R_floor_Point.sz (.slice A_at8_L6 at8_L6.length c_at8_L6) at8_L6.length cs_at8_L6 :: cells b9 38 [.int .i64 r9_2.1.Cell, .slice A_y0_ret_1_9_2 r9_2.1.Up.length c_y0_ret_1_9_2, .slice A_y0_ret_2_9_2 r9_2.1.Leaf.length c_y0_ret_2_9_2] :: vec 3 (RpI .i64).sz (.slice A_y0_ret_1_9_2 r9_2.1.Up.length c_y0_ret_1_9_2) r9_2.1.Up.length cs_y0_ret_1_9_2 :: vec 3 (RpI .i64).sz (.slice A_y0_ret_2_9_2 r9_2.1.Leaf.length c_y0_ret_2_9_2) r9_2.1.Leaf.length cs_y0_ret_2_9_2 :: ro ρ'_2_1 :: l)) fuel ⟨0, hLL13, eL6_7, eL6_8, rfl, rfl, rfl, ((((((hS.pull 3).drop.pull 2).pull 4).pull 4).pull 3).pull 4)⟩ ?_
      rintro kL13 E w ⟨y69_L13h, hLL13, eL13h_7, eL13h_8, eL13h_9, eL13h_68, eL13h_69, hS⟩
      obtain ⟨kL13, obL13, rfl, hFL13, hLL13⟩ := lp_s hLL13
      refine x_seq <| x_region <| p (yl_lss eL13h_69 eL13h_68) <| x_done <|
        x_seq <|
        x_cond_p (y69_L13h < r3_1) rfl (fun hc70 => ?_) (fun hc70 => ?_)
      · replace hFL13 := it_t hc70 hFL13
        obtain ⟨r15_2, hc15_2, hFL13⟩ := bd_s hFL13
        obtain ⟨r15_4, hc15_4, hFL13⟩ := bd_s hFL13
        refine x_skip <| x_seq <| x_block <| x_seq <|
          x_region <| p (yl_move eL13h_69) <| p (yl_assign rfl) <| x_done <|
          x_seq <| x_still mixed (by kernel_rfl) hS <| qa (v := .agg #[.int .i64 r9_2.1.Cell, .slice A_y0_ret_1_9_2 r9_2.1.Up.length c_y0_ret_1_9_2, .slice A_y0_ret_2_9_2 r9_2.1.Leaf.length c_y0_ret_2_9_2]) (fun w' hS => ld_sub agg_38 eL13h_9 rfl rfl (hS.pull 1)) <| q (yl_move rfl) <|
          qcc (v := .int .i64 r15_2) call_23 (args2 rfl rfl) (fun w' hS => by
            obtain ⟨ρl0, hll0, hlf0, hS0, back0⟩ := St.lend ((hS.pull 4).pull 3) h_y0_ret_1_9_2
            obtain ⟨ρl1, hll1, hlf1, hS1, back1⟩ := St.lend (hS0.pull 3) (h_y0_ret_2_9_2.le hll0)
            have hcall := c_tree_Depth hc15_2 (hlf0.le hll1) hlf1 hS1
            exact (Calls.mono hcall (fun e w'' h => And.intro h.1 ((((((back0 ((back1 h.2).pull 1)).pull 1).pull 2).pull 2).pull 4).pull 4)))) <| qa (v := .agg #[.int .i64 r9_2.1.Cell, .slice A_y0_ret_1_9_2 r9_2.1.Up.length c_y0_ret_1_9_2, .slice A_y0_ret_2_9_2 r9_2.1.Leaf.length c_y0_ret_2_9_2]) (fun w' hS => ld_sub agg_38 eL13h_9 rfl rfl (hS.pull 1)) <| qcc (v := .int .i64 r15_4) call_23 (args2 rfl rfl) (fun w' hS => by
            obtain ⟨ρl0, hll0, hlf0, hS0, back0⟩ := St.lend ((hS.pull 4).pull 3) h_y0_ret_1_9_2
            obtain ⟨ρl1, hll1, hlf1, hS1, back1⟩ := St.lend (hS0.pull 3) (h_y0_ret_2_9_2.le hll0)
            have hcall := c_tree_Depth hc15_4 (hlf0.le hll1) hlf1 hS1
            exact (Calls.mono hcall (fun e w'' h => And.intro h.1 ((((((back0 ((back1 h.2).pull 1)).pull 1).pull 2).pull 2).pull 4).pull 4)))) <| q (yl_neq rfl rfl) <|
          q_done fun w' hS => ?_
        refine x_cond_p (r15_2 ≠ r15_4) rfl (fun hc77 => ?_) (fun hc77 => ?_)
        · replace hFL13 := it_t hc77 hFL13
          refine x_seq <| x_region <| p (yl_assign rfl) <| x_done <|
            ?_
          obtain rfl := Option.some.inj (show some _ = some _ from hFL13)
          obtain rfl := (show _ = oL13 from hLL13)
          obtain rfl := Option.some.inj (show some _ = some _ from hF)
          exact x_return ⟨_, ⟨_, _, rfl, rfl, rfl⟩, rfl, (ro_back0 hle2_1 hS.drop.drop.drop.drop)⟩
        · replace hFL13 := it_f hc77 hFL13
          obtain ⟨x78, hx78, hFL13⟩ := ar_s hFL13
          refine x_skip <| x_blk <| x_region <| p (yadd eL13h_69 rfl hx78) <|
            p (yl_move rfl) <| x_done <|
            ?_
          obtain rfl := Option.some.inj (show some _ = some _ from hFL13)
          exact x_inv ⟨kL13, Nat.lt_succ_self _, x78, hLL13, eL13h_7, eL13h_8, eL13h_9, eL13h_68, rfl, (((((hS.pull 4).pull 4).pull 4).pull 4).pull 4)⟩
      · replace hFL13 := it_f hc70 hFL13
        refine x_exitTo _ rfl <|
          ?_
        obtain rfl := Option.some.inj (show some _ = some _ from hFL13)
        exact x_inv ⟨hLL13, eL13h_7, eL13h_8, (((((hS.pull 1).drop.pull 1).drop.pull 1).drop.pull 1).pull 1)⟩
    rintro E w ⟨rfl, eL13_7, eL13_8, hS⟩
    obtain ⟨r18_1, hc18_1, hF⟩ := bd_s hF
    refine x_seq <| x_region <| p (yl_move eL13_8) <|
      ?_
    obtain ⟨ρl0, hll0, hlf0, hS0, back0⟩ := St.lend ((hS.pull 1).pull 1) h_at8_L6
    have hcall := c_tree_Build hc18_1 hlf0 (RdS.nil (A := none) (c := 0)) hS0
    refine o_cc call_41 (args2 rfl rfl) hcall ?_
    rintro e w' ⟨A_y0_ret_1_18_1, n_y0_ret_1_18_1, c_y0_ret_1_18_1, cs_y0_ret_1_18_1, A_y0_ret_2_18_1, n_y0_ret_2_18_1, c_y0_ret_2_18_1, cs_y0_ret_2_18_1, rfl, h_y0_ret_1_18_1, h_y0_ret_2_18_1, hS⟩
    refine ⟨_, rfl, ?_⟩
    replace hS := back0 (hS.pull 2)
    replace h_y0_ret_1_18_1 : RepL (RpI .i64) ρ'_2_1 r18_1.1.Up cs_y0_ret_1_18_1 := RepL.flat (fun h => h) h_y0_ret_1_18_1
    obtain rfl := St.vec_n (hS.pull 2) h_y0_ret_1_18_1
    replace h_y0_ret_2_18_1 : RepL (RpI .i64) ρ'_2_1 r18_1.1.Leaf cs_y0_ret_2_18_1 := RepL.flat (fun h => h) h_y0_ret_2_18_1
    obtain rfl := St.vec_n (hS.pull 3) h_y0_ret_2_18_1
    refine p (yl_move rfl) <| p (yl_extract rfl rfl) <| p (yl_extract rfl rfl) <| p (yl_assign rfl) <|
      x_done <| x_seq <| x_region <| p (yl_move rfl) <|
      p (yl_eql rfl rfl) <| p (v := .int .i64 r3_1) (yl_move eL13_7) <| p (yl_gtr rfl rfl) <| p (yeqb ub_4 rfl rfl) <|
      p (yl_assign rfl) <| x_done <|
      ?_
    obtain rfl := Option.some.inj (show some _ = some _ from hF)
    exact x_return ⟨_, ⟨_, _, rfl, rfl, rfl⟩, rfl, (ro_back0 hle2_1 (((hS.drop.pull 1).drop.pull 1).drop))⟩
attribute [irreducible] P_maskkeep4_TreeBuilds


end Go.Proofs.Ytnooiajahmichaa.X
