/- Printed by gen.py: plain functions, and that the Go code computes them. -/
import Derived.Test.YtnooiajahmichaaYI
import Derived.Test.YtnooiajahmichaaXT
namespace Go.Proofs.Ytnooiajahmichaa.X
open Go Go.RowKit
set_option linter.unusedVariables false
set_option linter.unusedSimpArgs false

structure T_maskmake_Stream where
  L : List Int
  fat : Int
  deriving DecidableEq, Inhabited
def R_maskmake_Stream : Rp T_maskmake_Stream where
  sz := 2
  ok ρ cs x := ∃ A0 n0 c0, cs = [.slice A0 n0 c0, .int .i64 x.fat] ∧ RdS (RpI .i64) ρ A0 n0 c0 x.L
  pos := by decide
  len := by rintro ρ cs x ⟨A0, n0, c0, rfl, _⟩; rfl
  le := by rintro ρ ρ' cs x ⟨A0, n0, c0, rfl, h0⟩ hle; exact ⟨_, _, _, rfl, h0.le hle⟩
  one := by rintro ρ cs x ⟨A0, n0, c0, rfl, _⟩ v hv; exact allOne_spec rfl v hv
theorem R_maskmake_Stream_d : ∃ cs, ∀ ρ, R_maskmake_Stream.ok ρ cs default := ⟨[.slice none 0 0, .int .i64 0], fun ρ => ⟨_, _, _, rfl, RdS.nil⟩⟩

structure T_api_Cell where
  Name : ByteArray
  Flop : Bool
  Ins : Int
  Table : Int
  Area : Int
  Cap : List Int
  Min : List Int
  Max : List Int
  Drive : Int
  Setup : Int
  Hold : Int
  deriving DecidableEq, Inhabited
def R_api_Cell : Rp T_api_Cell where
  sz := 11
  ok ρ cs x := ∃ A5 n5 c5 A6 n6 c6 A7 n7 c7, cs = [.string x.Name, .bool x.Flop, .int .i64 x.Ins, .int .u64 x.Table, .int .i64 x.Area, .slice A5 n5 c5, .slice A6 n6 c6, .slice A7 n7 c7, .int .i64 x.Drive, .int .i64 x.Setup, .int .i64 x.Hold] ∧ RdS (RpI .i64) ρ A5 n5 c5 x.Cap ∧ RdS (RpI .i64) ρ A6 n6 c6 x.Min ∧ RdS (RpI .i64) ρ A7 n7 c7 x.Max
  pos := by decide
  len := by rintro ρ cs x ⟨A5, n5, c5, A6, n6, c6, A7, n7, c7, rfl, _⟩; rfl
  le := by rintro ρ ρ' cs x ⟨A5, n5, c5, A6, n6, c6, A7, n7, c7, rfl, h0, h1, h2⟩ hle; exact ⟨_, _, _, _, _, _, _, _, _, rfl, h0.le hle, h1.le hle, h2.le hle⟩
  one := by rintro ρ cs x ⟨A5, n5, c5, A6, n6, c6, A7, n7, c7, rfl, _⟩ v hv; exact allOne_spec rfl v hv
theorem R_api_Cell_d : ∃ cs, ∀ ρ, R_api_Cell.ok ρ cs default := ⟨[.string ByteArray.empty, .bool false, .int .i64 0, .int .u64 0, .int .i64 0, .slice none 0 0, .slice none 0 0, .slice none 0 0, .int .i64 0, .int .i64 0, .int .i64 0], fun ρ => ⟨_, _, _, _, _, _, _, _, _, rfl, RdS.nil, RdS.nil, RdS.nil⟩⟩

structure T_tree_Tree where
  Cell : Int
  Up : List Int
  Leaf : List Int
  deriving DecidableEq, Inhabited
def R_tree_Tree : Rp T_tree_Tree where
  sz := 3
  ok ρ cs x := ∃ A1 n1 c1 A2 n2 c2, cs = [.int .i64 x.Cell, .slice A1 n1 c1, .slice A2 n2 c2] ∧ RdS (RpI .i64) ρ A1 n1 c1 x.Up ∧ RdS (RpI .i64) ρ A2 n2 c2 x.Leaf
  pos := by decide
  len := by rintro ρ cs x ⟨A1, n1, c1, A2, n2, c2, rfl, _⟩; rfl
  le := by rintro ρ ρ' cs x ⟨A1, n1, c1, A2, n2, c2, rfl, h0, h1⟩ hle; exact ⟨_, _, _, _, _, _, rfl, h0.le hle, h1.le hle⟩
  one := by rintro ρ cs x ⟨A1, n1, c1, A2, n2, c2, rfl, _⟩ v hv; exact allOne_spec rfl v hv
theorem R_tree_Tree_d : ∃ cs, ∀ ρ, R_tree_Tree.ok ρ cs default := ⟨[.int .i64 0, .slice none 0 0, .slice none 0 0], fun ρ => ⟨_, _, _, _, _, _, rfl, RdS.nil, RdS.nil⟩⟩

structure T_tree_Window where
  Lo : Int
  Hi : Int
  deriving DecidableEq, Inhabited
def R_tree_Window : Rp T_tree_Window where
  sz := 2
  ok _ cs x := cs = [.int .i64 x.Lo, .int .i64 x.Hi]
  pos := by decide
  len := by rintro ρ cs x rfl; rfl
  le := by rintro ρ ρ' cs x rfl hle; rfl
  one := by rintro ρ cs x rfl v hv; exact allOne_spec rfl v hv
theorem R_tree_Window_d : ∃ cs, ∀ ρ, R_tree_Window.ok ρ cs default := ⟨[.int .i64 0, .int .i64 0], fun ρ => rfl⟩

structure T_floor_Point where
  X : Int
  Y : Int
  deriving DecidableEq, Inhabited
def R_floor_Point : Rp T_floor_Point where
  sz := 2
  ok _ cs x := cs = [.int .i64 x.X, .int .i64 x.Y]
  pos := by decide
  len := by rintro ρ cs x rfl; rfl
  le := by rintro ρ ρ' cs x rfl hle; rfl
  one := by rintro ρ cs x rfl v hv; exact allOne_spec rfl v hv
theorem R_floor_Point_d : ∃ cs, ∀ ρ, R_floor_Point.ok ρ cs default := ⟨[.int .i64 0, .int .i64 0], fun ρ => rfl⟩

def P_maskmake_Below (x0 : Int) (n1 : Int) : Option Int :=
  if n1 < 1 then
    some 0
  else
    ck (n1 ≠ 0) <|
    lv (Int.tmod x0 n1) fun x9 =>
    bd (
      if x9 < 0 then
        ar (x9 + n1) fun x14 =>
        some x14
      else
        some x9) fun x0_c11 =>
    some x0_c11
set_option maxHeartbeats 4000000 in
set_option maxRecDepth 100000 in
theorem c_maskmake_Below {w0 w : World} {l : List Assn} {ρ : Heap} {x0 : Int} {n1 : Int} {r : Int} (hF : P_maskmake_Below x0 n1 = some r) (hS : St w0 w (ro ρ :: l)) :
    Calls Try.prog 38 #[.int .i64 x0, .int .i64 n1] w fun e w' => e = .returned (.int .i64 r) ∧ St w0 w' (ro ρ :: l) := by
  refine enterC Try.func38 rfl 16 rfl (by simp) ?_
  refine x_seq <| x_region <| p (yl_assign rfl) <| x_done <|
    x_seq <| x_seq <| x_region <| p (yl_move rfl) <|
    p (yl_lss rfl rfl) <| x_done <|
    x_cond_p (n1 < 1) rfl (fun hc6 => ?_) (fun hc6 => ?_)
  · replace hF := it_t hc6 hF
    refine x_seq <| x_region <| p (yl_assign rfl) <| x_done <|
      ?_
    obtain rfl := Option.some.inj (show some _ = some _ from hF)
    exact x_return ⟨_, ⟨_, _, rfl, rfl, rfl⟩, rfl, hS⟩
  · replace hF := it_f hc6 hF
    obtain ⟨hk3_2, hF⟩ := ck_s hF
    obtain ⟨x9, hx9, hF⟩ := lv_s hF
    refine x_skip <| x_seq <| x_region <| p (yl_move rfl) <|
      p (yl_move rfl) <| p (yrem rfl rfl hk3_2 hx9) <| p (yl_assign rfl) <| x_done <|
      x_seq <| x_seq <| x_region <| p (yl_move rfl) <|
      p (yl_lss rfl rfl) <| x_done <|
      ?_
    obtain ⟨oc11, hFc11, hF⟩ := bd_s hF
    refine x_join (fun E w => ∃ (x0_c11 : Int), x0_c11 = oc11 ∧ E 0 = .int .i64 x0_c11 ∧ St w0 w (ro ρ :: l)) ?_ ?_
    · skip -- c11
      refine x_cond_p (x9 < 0) rfl (fun hc11 => ?_) (fun hc11 => ?_)
      · replace hFc11 := it_t hc11 hFc11
        obtain ⟨x14, hx14, hFc11⟩ := ar_s hFc11
        refine x_region <| p (yl_move rfl) <| p (yl_move rfl) <| p (yadd rfl rfl hx14) <|
          p (yl_assign rfl) <| x_done <|
          ?_
        exact x_inv ⟨x14, (Option.some.inj (show some _ = some _ from hFc11)), rfl, hS⟩
      · replace hFc11 := it_f hc11 hFc11
        refine x_skip <|
          ?_
        exact x_inv ⟨x9, (Option.some.inj (show some _ = some _ from hFc11)), rfl, hS⟩
    rintro E w ⟨x0_c11, rfl, ec11_0, hS⟩
    refine x_seq <| x_region <| p (yl_move ec11_0) <| p (yl_assign rfl) <|
      x_done <|
      ?_
    obtain rfl := Option.some.inj (show some _ = some _ from hF)
    exact x_return ⟨_, ⟨_, _, rfl, rfl, rfl⟩, rfl, hS⟩
attribute [irreducible] P_maskmake_Below

def P_maskmake_Stream_Next (s0 : T_maskmake_Stream) (n1 : Int) : Option (Int × Int) :=
  ar (s0.fat + 1) fun x11 =>
  if (s0.L.length : Int) = 0 then
    ar (x11 * 7919) fun x24 =>
    bd (P_maskmake_Below x24 n1) fun r3_6 =>
    some (r3_6, x11)
  else
    ar (x11 - 1) fun x31 =>
    ck ((s0.L.length : Int) ≠ 0) <|
    lv (Int.tmod x31 (s0.L.length : Int)) fun x37 =>
    ar (x11 - 1) fun x42 =>
    ck ((s0.L.length : Int) ≠ 0) <|
    ar (Int.tdiv x42 (s0.L.length : Int)) fun x48 =>
    ck (inb x37 s0.L.length) <|
    lv (gt s0.L x37) fun x55 =>
    bd (P_maskmake_Below x55 1073741824) fun r6_7 =>
    ar ((7919 : Int) + x37) fun x59 =>
    ar (x48 * x59) fun x60 =>
    ar (r6_7 + x60) fun x61 =>
    bd (P_maskmake_Below x61 n1) fun r6_14 =>
    some (r6_14, x11)
set_option maxHeartbeats 4000000 in
set_option maxRecDepth 100000 in
theorem c_maskmake_Stream_Next {w0 w : World} {l : List Assn} {ρ : Heap} {b_s0 : Nat} {A_s0_0 : Option Addr} {n_s0_0 : Nat} {c_s0_0 : Nat} {s0 : T_maskmake_Stream} {n1 : Int} {r : (Int × Int)} (hF : P_maskmake_Stream_Next s0 n1 = some r) (h_s0_0 : RdS (RpI .i64) ρ A_s0_0 n_s0_0 c_s0_0 s0.L) (hS : St w0 w (cells b_s0 25 [.slice A_s0_0 n_s0_0 c_s0_0, .int .i64 s0.fat] :: ro ρ :: l)) :
    Calls Try.prog 15 #[.pointer (some ⟨b_s0, 0, none⟩), .int .i64 n1] w fun e w' => e = .returned (.int .i64 r.1) ∧ St w0 w' (cells b_s0 25 [.slice A_s0_0 n_s0_0 c_s0_0, .int .i64 r.2] :: ro ρ :: l) := by
  obtain rfl := h_s0_0.n
  refine enterC Try.func15 rfl 64 rfl (by simp) ?_
  obtain ⟨x11, hx11, hF⟩ := ar_s hF
  refine x_seq <| x_region <| p (yl_assign rfl) <| x_done <|
    x_seq <| x_region <| p (yl_move rfl) <| p (yl_nilCheck rfl) <|
    p (yl_field0 fld_25_1 rfl) <| pa (at_load one_3 rfl (hS.cell rfl)) <| p (yadd rfl rfl hx11) <| p (yl_nilCheck rfl) <|
    p (yl_field0 fld_25_1 rfl) <|
    ?_
  refine o_store1 (v := .int .i64 x11) one_3 rfl rfl rfl rfl hS (fun w' hS => ?_)
  refine x_done <| x_seq <| x_seq <| x_region <|
    p (yl_move rfl) <| p (yl_nilCheck rfl) <| p (yl_field0 fld_25_0 rfl) <| pa (at_load one_22 rfl (hS.cell rfl)) <|
    p (yl_len_slice usl_22 rfl) <| p (yl_eql rfl rfl) <| x_done <|
    x_cond_p ((s0.L.length : Int) = 0) rfl (fun hc19 => ?_) (fun hc19 => ?_)
  · replace hF := it_t hc19 hF
    obtain ⟨x24, hx24, hF⟩ := ar_s hF
    obtain ⟨r3_6, hc3_6, hF⟩ := bd_s hF
    refine x_seq <| x_region <| p (yl_move rfl) <| p (yl_nilCheck rfl) <|
      p (yl_field0 fld_25_1 rfl) <| pa (at_load one_3 rfl (hS.cell rfl)) <| p (ymul rfl rfl hx24) <| p (yl_move rfl) <|
      ?_
    have hcall := c_maskmake_Below hc3_6  (hS.pull 1)
    refine o_cc call_38 (args2 rfl rfl) ((Calls.mono hcall (fun e w'' h => And.intro h.1 (h.2.pull 1)))) ?_
    rintro e w' ⟨rfl, hS⟩
    refine ⟨_, rfl, ?_⟩
    refine p (v := .int .i64 r3_6) (yl_assign rfl) <| x_done <|
      ?_
    obtain rfl := Option.some.inj (show some _ = some _ from hF)
    exact x_return ⟨_, ⟨_, _, rfl, rfl, rfl⟩, rfl, ((hS.pull 1).pull 1)⟩
  · replace hF := it_f hc19 hF
    obtain ⟨x31, hx31, hF⟩ := ar_s hF
    obtain ⟨hk4_10, hF⟩ := ck_s hF
    obtain ⟨x37, hx37, hF⟩ := lv_s hF
    refine x_skip <| x_seq <| x_still mixed (by kernel_rfl) hS <| q (yl_move rfl) <|
      q (yl_nilCheck rfl) <| q (yl_field0 fld_25_1 rfl) <| qa (fun w' hS => at_load one_3 rfl (hS.cell rfl)) <| q (ysub rfl rfl hx31) <|
      q (yl_move rfl) <| q (yl_nilCheck rfl) <| q (yl_field0 fld_25_0 rfl) <| qa (fun w' hS => at_load one_22 rfl (hS.cell rfl)) <|
      q (yl_len_slice usl_22 rfl) <| q (yrem rfl rfl hk4_10 hx37) <| q (yl_assign rfl) <|
      q_done fun w' hS => ?_
    obtain ⟨x42, hx42, hF⟩ := ar_s hF
    obtain ⟨hk5_10, hF⟩ := ck_s hF
    obtain ⟨x48, hx48, hF⟩ := ar_s hF
    refine x_seq <| x_still mixed (by kernel_rfl) hS <| q (yl_move rfl) <| q (yl_nilCheck rfl) <|
      q (yl_field0 fld_25_1 rfl) <| qa (fun w' hS => at_load one_3 rfl (hS.cell rfl)) <| q (ysub rfl rfl hx42) <| q (yl_move rfl) <|
      q (yl_nilCheck rfl) <| q (yl_field0 fld_25_0 rfl) <| qa (fun w' hS => at_load one_22 rfl (hS.cell rfl)) <| q (yl_len_slice usl_22 rfl) <|
      q (yquo rfl rfl hk5_10 hx48) <| q (yl_assign rfl) <|
      q_done fun w' hS => ?_
    obtain ⟨hk6_5, hF⟩ := ck_s hF
    obtain ⟨x55, hx55, hF⟩ := lv_s hF
    obtain ⟨r6_7, hc6_7, hF⟩ := bd_s hF
    refine x_seq <| x_region <| p (yl_move rfl) <| p (yl_nilCheck rfl) <|
      p (yl_field0 fld_25_0 rfl) <| pa (at_load one_22 rfl (hS.cell rfl)) <| p (yl_move rfl) <| p (yix_f sl_22 rfl rfl h_s0_0 hk6_5) <|
      pa (at_load one_3 rfl (RdS.getW h_s0_0 (hS.pull 1) hk6_5 hx55)) <|
      ?_
    have hcall := c_maskmake_Below hc6_7  (hS.pull 1)
    refine o_cc call_38 (args2 rfl rfl) ((Calls.mono hcall (fun e w'' h => And.intro h.1 (h.2.pull 1)))) ?_
    rintro e w' ⟨rfl, hS⟩
    refine ⟨_, rfl, ?_⟩
    obtain ⟨x59, hx59, hF⟩ := ar_s hF
    obtain ⟨x60, hx60, hF⟩ := ar_s hF
    obtain ⟨x61, hx61, hF⟩ := ar_s hF
    obtain ⟨r6_14, hc6_14, hF⟩ := bd_s hF
    refine p (yl_move rfl) <| p (yl_move rfl) <| p (yadd rfl rfl hx59) <| p (ymul rfl rfl hx60) <|
      p (yadd rfl rfl hx61) <| p (yl_move rfl) <|
      ?_
    have hcall := c_maskmake_Below hc6_14  (hS.pull 1)
    refine o_cc call_38 (args2 rfl rfl) ((Calls.mono hcall (fun e w'' h => And.intro h.1 (h.2.pull 1)))) ?_
    rintro e w' ⟨rfl, hS⟩
    refine ⟨_, rfl, ?_⟩
    refine p (v := .int .i64 r6_14) (yl_assign rfl) <| x_done <|
      ?_
    obtain rfl := Option.some.inj (show some _ = some _ from hF)
    exact x_return ⟨_, ⟨_, _, rfl, rfl, rfl⟩, rfl, ((hS.pull 1).pull 1)⟩
attribute [irreducible] P_maskmake_Stream_Next

def P_maskmake_Stream_Range (s0 : T_maskmake_Stream) (low1 : Int) (high2 : Int) : Option (Int × Int) :=
  if high2 < low1 then
    some (low1, s0.fat)
  else
    ar (high2 - low1) fun x15 =>
    ar (x15 + 1) fun x16 =>
    bd (P_maskmake_Stream_Next s0 x16) fun r3_6 =>
    ar (low1 + r3_6.1) fun x18 =>
    some (x18, r3_6.2)
set_option maxHeartbeats 4000000 in
set_option maxRecDepth 100000 in
theorem c_maskmake_Stream_Range {w0 w : World} {l : List Assn} {ρ : Heap} {b_s0 : Nat} {A_s0_0 : Option Addr} {n_s0_0 : Nat} {c_s0_0 : Nat} {s0 : T_maskmake_Stream} {low1 : Int} {high2 : Int} {r : (Int × Int)} (hF : P_maskmake_Stream_Range s0 low1 high2 = some r) (h_s0_0 : RdS (RpI .i64) ρ A_s0_0 n_s0_0 c_s0_0 s0.L) (hS : St w0 w (cells b_s0 25 [.slice A_s0_0 n_s0_0 c_s0_0, .int .i64 s0.fat] :: ro ρ :: l)) :
    Calls Try.prog 14 #[.pointer (some ⟨b_s0, 0, none⟩), .int .i64 low1, .int .i64 high2] w fun e w' => e = .returned (.int .i64 r.1) ∧ St w0 w' (cells b_s0 25 [.slice A_s0_0 n_s0_0 c_s0_0, .int .i64 r.2] :: ro ρ :: l) := by
  obtain rfl := h_s0_0.n
  refine enterC Try.func14 rfl 19 rfl (by simp) ?_
  refine x_seq <| x_region <| p (yl_assign rfl) <| x_done <|
    x_seq <| x_seq <| x_region <| p (yl_move rfl) <|
    p (yl_move rfl) <| p (yl_lss rfl rfl) <| x_done <|
    x_cond_p (high2 < low1) rfl (fun hc9 => ?_) (fun hc9 => ?_)
  · replace hF := it_t hc9 hF
    refine x_seq <| x_region <| p (yl_move rfl) <| p (yl_assign rfl) <|
      x_done <|
      ?_
    obtain rfl := Option.some.inj (show some _ = some _ from hF)
    exact x_return ⟨_, ⟨_, _, rfl, rfl, rfl⟩, rfl, ((hS.pull 1).pull 1)⟩
  · replace hF := it_f hc9 hF
    obtain ⟨x15, hx15, hF⟩ := ar_s hF
    obtain ⟨x16, hx16, hF⟩ := ar_s hF
    obtain ⟨r3_6, hc3_6, hF⟩ := bd_s hF
    refine x_skip <| x_seq <| x_region <| p (yl_move rfl) <|
      p (yl_move rfl) <| p (yl_move rfl) <| p (yl_move rfl) <| p (ysub rfl rfl hx15) <|
      p (yadd rfl rfl hx16) <|
      ?_
    have hcall := c_maskmake_Stream_Next hc3_6 h_s0_0 ((hS.pull 1).pull 1)
    refine o_cc call_15 (args2 rfl rfl) hcall ?_
    rintro e w' ⟨rfl, hS⟩
    refine ⟨_, rfl, ?_⟩
    obtain ⟨x18, hx18, hF⟩ := ar_s hF
    refine p (yadd rfl rfl hx18) <| p (yl_assign rfl) <| x_done <|
      ?_
    obtain rfl := Option.some.inj (show some _ = some _ from hF)
    exact x_return ⟨_, ⟨_, _, rfl, rfl, rfl⟩, rfl, ((hS.pull 1).pull 1)⟩
attribute [irreducible] P_maskmake_Stream_Range

def P_maskmake_Stream_LayLib_1_2_L2 (ins1 : Int) (v3_0 : T_maskmake_Stream) : (Int × List Int × List Int × List Int × Int) → Option ((Int × List Int × List Int × List Int × Int) ⊕ (List Int × List Int × List Int × Int)) := fun (y23_L2h, b_c8_L2h_5_L2h, b_c8_L2h_6_L2h, b_c8_L2h_7_L2h, b_v3_0_1_L2h) =>
  if y23_L2h < ins1 then
    bd (P_maskmake_Stream_Next (T_maskmake_Stream.mk v3_0.L b_v3_0_1_L2h) 6) fun r3_1 =>
    bd (P_maskmake_Stream_Range (T_maskmake_Stream.mk v3_0.L r3_1.2) 2 5) fun r4_3 =>
    lv (b_c8_L2h_5_L2h ++ [r4_3.1]) fun z4_5 =>
    ck (apOk 8 z4_5.length) <|
    lv (b_c8_L2h_6_L2h ++ [r3_1.1]) fun z4_10 =>
    ck (apOk 8 z4_10.length) <|
    bd (P_maskmake_Stream_Next (T_maskmake_Stream.mk v3_0.L r4_3.2) 5) fun r4_15 =>
    ar (r3_1.1 + r4_15.1) fun x43 =>
    lv (b_c8_L2h_7_L2h ++ [x43]) fun z4_18 =>
    ck (apOk 8 z4_18.length) <|
    ar (y23_L2h + 1) fun x49 =>
    some (Sum.inl (x49, z4_5, z4_10, z4_18, r4_15.2))
  else
    some (Sum.inr (b_c8_L2h_5_L2h, b_c8_L2h_6_L2h, b_c8_L2h_7_L2h, b_v3_0_1_L2h))
def P_maskmake_Stream_LayLib_1_2 (name0 : ByteArray) (ins1 : Int) (table2 : Int) (v3_0 : T_maskmake_Stream) (v4_0 : List T_api_Cell) : Option (Int × List T_api_Cell) :=
  ar (ins1 + 1) fun x14 =>
  ck ((2 : Int) ≠ 0) <|
  ar (Int.tdiv x14 2) fun x15 =>
  bd (P_maskmake_Stream_Next v3_0 2) fun r0_7 =>
  ar (x15 + r0_7.1) fun x18 =>
  bd (P_maskmake_Stream_Next (T_maskmake_Stream.mk v3_0.L r0_7.2) 3) fun r0_10 =>
  bd (
    lp (P_maskmake_Stream_LayLib_1_2_L2 ins1 v3_0) fuel (0, [], [], [], r0_10.2)) fun (b_c8_L2_5_L2, b_c8_L2_6_L2, b_c8_L2_7_L2, b_v3_0_1_L2) =>
  lv (v4_0 ++ [(T_api_Cell.mk name0 false ins1 table2 x18 b_c8_L2_5_L2 b_c8_L2_6_L2 b_c8_L2_7_L2 r0_10.1 0 0)]) fun z6_3 =>
  ck (apOk 144 z6_3.length) <|
  some (b_v3_0_1_L2, z6_3)
set_option maxHeartbeats 4000000 in
set_option maxRecDepth 100000 in
theorem c_maskmake_Stream_LayLib_1_2 {w0 w : World} {l : List Assn} {ρ : Heap} {b_v3 : Nat} {b_v3_0 : Nat} {A_v3_0_0 : Option Addr} {n_v3_0_0 : Nat} {c_v3_0_0 : Nat} {b_v4 : Nat} {A_v4_0 : Option Addr} {n_v4_0 : Nat} {c_v4_0 : Nat} {cs_v4_0 : List Value} {name0 : ByteArray} {ins1 : Int} {table2 : Int} {v3_0 : T_maskmake_Stream} {v4_0 : List T_api_Cell} {r : (Int × List T_api_Cell)} (hF : P_maskmake_Stream_LayLib_1_2 name0 ins1 table2 v3_0 v4_0 = some r) (h_v3_0_0 : RdS (RpI .i64) ρ A_v3_0_0 n_v3_0_0 c_v3_0_0 v3_0.L) (h_v4_0 : RepL R_api_Cell ρ v4_0 cs_v4_0) (hS : St w0 w (cells b_v3 23 [.pointer (some ⟨b_v3_0, 0, none⟩)] :: cells b_v3_0 25 [.slice A_v3_0_0 n_v3_0_0 c_v3_0_0, .int .i64 v3_0.fat] :: cells b_v4 35 [.slice A_v4_0 n_v4_0 c_v4_0] :: vec 46 R_api_Cell.sz (.slice A_v4_0 n_v4_0 c_v4_0) n_v4_0 cs_v4_0 :: ro ρ :: l)) :
    Calls Try.prog 74 #[.string name0, .int .i64 ins1, .int .u64 table2, .pointer (some ⟨b_v3, 0, none⟩), .pointer (some ⟨b_v4, 0, none⟩)] w fun e w' => ∃ (ρ' : Heap) (A_b_v4_0_ret : Option Addr) (n_b_v4_0_ret : Nat) (c_b_v4_0_ret : Nat) (cs_b_v4_0_ret : List Value), e = .returned (.tuple #[]) ∧ Le ρ ρ' ∧ RepL R_api_Cell ρ' r.2 cs_b_v4_0_ret ∧ St w0 w' (cells b_v3_0 25 [.slice A_v3_0_0 n_v3_0_0 c_v3_0_0, .int .i64 r.1] :: cells b_v3 23 [.pointer (some ⟨b_v3_0, 0, none⟩)] :: cells b_v4 35 [.slice A_b_v4_0_ret n_b_v4_0_ret c_b_v4_0_ret] :: vec 46 R_api_Cell.sz (.slice A_b_v4_0_ret n_b_v4_0_ret c_b_v4_0_ret) n_b_v4_0_ret cs_b_v4_0_ret :: ro ρ' :: l) := by
  obtain rfl := h_v3_0_0.n
  obtain rfl := St.vec_n (hS.pull 3) h_v4_0
  refine enterC Try.func74 rfl 54 rfl (by simp) ?_
  refine x_seq <|
    ?_
  obtain ⟨x14, hx14, hF⟩ := ar_s hF
  obtain ⟨hk0_5, hF⟩ := ck_s hF
  obtain ⟨x15, hx15, hF⟩ := ar_s hF
  obtain ⟨r0_7, hc0_7, hF⟩ := bd_s hF
  obtain ⟨x18, hx18, hF⟩ := ar_s hF
  obtain ⟨r0_10, hc0_10, hF⟩ := bd_s hF
  refine x_par (w0 := w0) [⟨[], [], [10], [], [], []⟩, ⟨[], [], [11], [], [], []⟩, ⟨[], [], [12], [], [], []⟩, ⟨[], [], [13], [], [], []⟩, ⟨[3], [3], [14], [], [], []⟩, ⟨[3, 4], [4], [15], [], [], []⟩, ⟨[], [], [16], [0], [], []⟩, ⟨[6], [6], [17], [2], [1], [3]⟩, ⟨[3, 4, 5, 6, 7], [5, 7], [18], [], [], []⟩, ⟨[], [], [19], [0], [], []⟩, ⟨[6, 7, 9], [9], [20], [2], [3], [4]⟩, ⟨[0, 1, 2, 3, 4, 5, 6, 7, 8, 9, 10], [0, 1, 2, 8, 10], [21], [], [], []⟩, ⟨[], [], [8], [], [], [5]⟩, ⟨[0, 1, 2, 3, 4, 5, 6, 7, 8, 9, 10, 11, 12], [11, 12], [], [], [5], [6]⟩] [⟨none, none, []⟩, ⟨none, (some 7), []⟩, ⟨none, none, []⟩, ⟨(some 7), (some 10), []⟩, ⟨(some 10), none, []⟩, ⟨(some 12), (some 13), [8]⟩, ⟨(some 13), none, [8]⟩] [8, 10, 11, 12, 13, 14, 15, 16, 17, 18, 19, 20, 21] [0, 1, 2] [0, 2, 4, 6] [0, 1, 2, 3, 4, 5, 6, 7, 8, 9, 10, 11, 12] [fun Ep0 => Ep0 10 = .string name0, fun Ep0 => Ep0 11 = .int .i64 ins1, fun Ep0 => Ep0 12 = .int .u64 table2, fun Ep0 => Ep0 13 = .int .i64 ins1, fun Ep0 => Ep0 14 = .int .i64 x14, fun Ep0 => Ep0 15 = .int .i64 x15, fun Ep0 => Ep0 16 = .pointer (some ⟨b_v3_0, 0, none⟩), fun Ep0 => Ep0 17 = .int .i64 r0_7.1, fun Ep0 => Ep0 18 = .int .i64 x18, fun Ep0 => Ep0 19 = .pointer (some ⟨b_v3_0, 0, none⟩), fun Ep0 => Ep0 20 = .int .i64 r0_10.1, fun Ep0 => Ep0 21 = .agg #[.string name0, .bool false, .int .i64 ins1, .int .u64 table2, .int .i64 x18, .slice none 0 0, .slice none 0 0, .slice none 0 0, .int .i64 r0_10.1, .int .i64 0, .int .i64 0], fun Ep0 => Ep0 8 = .pointer (some ⟨(blkOf (Ep0 8)), 0, none⟩), fun Ep0 => True] [fun Ep0 => cells b_v3 23 [.pointer (some ⟨b_v3_0, 0, none⟩)], fun Ep0 => cells b_v3_0 25 [.slice A_v3_0_0 v3_0.L.length c_v3_0_0, .int .i64 v3_0.fat], fun Ep0 => ro ρ, fun Ep0 => cells b_v3_0 25 [.slice A_v3_0_0 v3_0.L.length c_v3_0_0, .int .i64 r0_7.2], fun Ep0 => cells b_v3_0 25 [.slice A_v3_0_0 v3_0.L.length c_v3_0_0, .int .i64 r0_10.2], fun Ep0 => cells (blkOf (Ep0 8)) 46 [.string (⟨#[]⟩ : ByteArray), .bool false, .int .i64 0, .int .u64 0, .int .i64 0, .slice none 0 0, .slice none 0 0, .slice none 0 0, .int .i64 0, .int .i64 0, .int .i64 0], fun Ep0 => cells (blkOf (Ep0 8)) 46 [.string name0, .bool false, .int .i64 ins1, .int .u64 table2, .int .i64 x18, .slice none 0 0, .slice none 0 0, .slice none 0 0, .int .i64 r0_10.1, .int .i64 0, .int .i64 0]] mixed (by kernel_rfl) (((hS.pull 4).pull 2).pull 2) ?_ ?_
  · refine ⟨?_, ?_, ?_, ?_, ?_, ?_, ?_, ?_, ?_, ?_, ?_, ?_, ?_, ?_, trivial⟩
    · intro Ep0 w l' hE0 hO0 hF_ hS
      refine p (yl_move (hE0 0 rfl)) <| x_done <|
        ?_
      refine x_fin ⟨⟨_, rfl⟩, rfl, ?_⟩
      exact Eq.mp (by kernel_rfl) hS
    · intro Ep0 w l' hE0 hO0 hF_ hS
      refine p (yl_move (hE0 1 rfl)) <| x_done <|
        ?_
      refine x_fin ⟨⟨_, rfl⟩, rfl, ?_⟩
      exact Eq.mp (by kernel_rfl) hS
    · intro Ep0 w l' hE0 hO0 hF_ hS
      refine p (yl_move (hE0 2 rfl)) <| x_done <|
        ?_
      refine x_fin ⟨⟨_, rfl⟩, rfl, ?_⟩
      exact Eq.mp (by kernel_rfl) hS
    · intro Ep0 w l' hE0 hO0 hF_ hS
      refine p (yl_move (hE0 1 rfl)) <| x_done <|
        ?_
      refine x_fin ⟨⟨_, rfl⟩, rfl, ?_⟩
      exact Eq.mp (by kernel_rfl) hS
    · intro Ep0 w l' hE0 hO0 hF_ hS
      obtain ⟨f0_3, -⟩ := hF_
      replace f0_3 : Ep0 13 = .int .i64 ins1 := Eq.mp (by kernel_rfl) f0_3
      refine p (yadd f0_3 rfl hx14) <| x_done <|
        ?_
      refine x_fin ⟨⟨_, rfl⟩, rfl, ?_⟩
      exact Eq.mp (by kernel_rfl) hS
    · intro Ep0 w l' hE0 hO0 hF_ hS
      obtain ⟨f0_4, -⟩ := hF_
      replace f0_4 : Ep0 14 = .int .i64 x14 := Eq.mp (by kernel_rfl) f0_4
      refine p (yquo f0_4 rfl hk0_5 hx15) <| x_done <|
        ?_
      refine x_fin ⟨⟨_, rfl⟩, rfl, ?_⟩
      exact Eq.mp (by kernel_rfl) hS
    · intro Ep0 w l' hE0 hO0 hF_ hS
      replace hS : St w0 w (cells b_v3 23 [.pointer (some ⟨b_v3_0, 0, none⟩)] :: l') := Eq.mp (by kernel_rfl) hS
      refine pa (at_load one_23 (hE0 3 rfl) (hS.cell rfl)) <| x_done <|
        ?_
      refine x_fin ⟨⟨_, rfl⟩, rfl, ?_⟩
      exact Eq.mp (by kernel_rfl) hS
    · intro Ep0 w l' hE0 hO0 hF_ hS
      obtain ⟨f0_6, -⟩ := hF_
      replace f0_6 : Ep0 16 = .pointer (some ⟨b_v3_0, 0, none⟩) := Eq.mp (by kernel_rfl) f0_6
      replace hS : St w0 w (ro ρ :: cells b_v3_0 25 [.slice A_v3_0_0 v3_0.L.length c_v3_0_0, .int .i64 v3_0.fat] :: l') := Eq.mp (by kernel_rfl) hS
      have hcall := c_maskmake_Stream_Next hc0_7 h_v3_0_0 (hS.pull 1)
      refine o_cc call_15 (args2 f0_6 rfl) hcall ?_
      rintro e w' ⟨rfl, hS⟩
      refine ⟨_, rfl, ?_⟩
      refine x_done <|
        ?_
      refine x_fin ⟨⟨_, rfl⟩, rfl, ?_⟩
      exact Eq.mp (by kernel_rfl) (hS.pull 1)
    · intro Ep0 w l' hE0 hO0 hF_ hS
      obtain ⟨f0_5, f0_7, -⟩ := hF_
      replace f0_5 : Ep0 15 = .int .i64 x15 := Eq.mp (by kernel_rfl) f0_5
      replace f0_7 : Ep0 17 = .int .i64 r0_7.1 := Eq.mp (by kernel_rfl) f0_7
      refine p (yadd f0_5 f0_7 hx18) <| x_done <|
        ?_
      refine x_fin ⟨⟨_, rfl⟩, rfl, ?_⟩
      exact Eq.mp (by kernel_rfl) hS
    · intro Ep0 w l' hE0 hO0 hF_ hS
      replace hS : St w0 w (cells b_v3 23 [.pointer (some ⟨b_v3_0, 0, none⟩)] :: l') := Eq.mp (by kernel_rfl) hS
      refine pa (at_load one_23 (hE0 3 rfl) (hS.cell rfl)) <| x_done <|
        ?_
      refine x_fin ⟨⟨_, rfl⟩, rfl, ?_⟩
      exact Eq.mp (by kernel_rfl) hS
    · intro Ep0 w l' hE0 hO0 hF_ hS
      obtain ⟨f0_9, -⟩ := hF_
      replace f0_9 : Ep0 19 = .pointer (some ⟨b_v3_0, 0, none⟩) := Eq.mp (by kernel_rfl) f0_9
      replace hS : St w0 w (ro ρ :: cells b_v3_0 25 [.slice A_v3_0_0 v3_0.L.length c_v3_0_0, .int .i64 r0_7.2] :: l') := Eq.mp (by kernel_rfl) hS
      have hcall := c_maskmake_Stream_Next hc0_10 h_v3_0_0 (hS.pull 1)
      refine o_cc call_15 (args2 f0_9 rfl) hcall ?_
      rintro e w' ⟨rfl, hS⟩
      refine ⟨_, rfl, ?_⟩
      refine x_done <|
        ?_
      refine x_fin ⟨⟨_, rfl⟩, rfl, ?_⟩
      exact Eq.mp (by kernel_rfl) (hS.pull 1)
    · intro Ep0 w l' hE0 hO0 hF_ hS
      obtain ⟨f0_0, f0_1, f0_2, f0_8, f0_10, -⟩ := hF_
      replace f0_0 : Ep0 10 = .string name0 := Eq.mp (by kernel_rfl) f0_0
      replace f0_1 : Ep0 11 = .int .i64 ins1 := Eq.mp (by kernel_rfl) f0_1
      replace f0_2 : Ep0 12 = .int .u64 table2 := Eq.mp (by kernel_rfl) f0_2
      replace f0_8 : Ep0 18 = .int .i64 x18 := Eq.mp (by kernel_rfl) f0_8
      replace f0_10 : Ep0 20 = .int .i64 r0_10.1 := Eq.mp (by kernel_rfl) f0_10
      refine p (v := .agg #[.string name0, .bool false, .int .i64 ins1, .int .u64 table2, .int .i64 x18, .slice none 0 0, .slice none 0 0, .slice none 0 0, .int .i64 r0_10.1, .int .i64 0, .int .i64 0]) (yl_build bld_46 bldf_46 (parts_eq (pt (va := .string name0) f0_0 (pt (va := .int .i64 ins1) f0_1 (pt (va := .int .u64 table2) f0_2 (pt (va := .int .i64 x18) f0_8 (pt (va := .int .i64 r0_10.1) f0_10 pt0)))))) (by kernel_rfl)) <| x_done <|
        ?_
      refine x_fin ⟨⟨_, rfl⟩, rfl, ?_⟩
      exact Eq.mp (by kernel_rfl) hS
    · intro Ep0 w l' hE0 hO0 hF_ hS
      refine o_alloc zero_46 hS (fun b8 w' hS => ?_)
      refine x_done <|
        ?_
      refine x_fin ⟨⟨_, rfl⟩, rfl, ?_⟩
      exact Eq.mp (by kernel_rfl) hS
    · intro Ep0 w l' hE0 hO0 hF_ hS
      obtain ⟨f0_11, f0_12, -⟩ := hF_
      replace f0_11 : Ep0 21 = .agg #[.string name0, .bool false, .int .i64 ins1, .int .u64 table2, .int .i64 x18, .slice none 0 0, .slice none 0 0, .slice none 0 0, .int .i64 r0_10.1, .int .i64 0, .int .i64 0] := Eq.mp (by kernel_rfl) f0_11
      replace f0_12 : Ep0 8 = .pointer (some ⟨(blkOf (Ep0 8)), 0, none⟩) := Eq.mp (by kernel_rfl) f0_12
      replace hS : St w0 w (cells (blkOf (Ep0 8)) 46 [.string (⟨#[]⟩ : ByteArray), .bool false, .int .i64 0, .int .u64 0, .int .i64 0, .slice none 0 0, .slice none 0 0, .slice none 0 0, .int .i64 0, .int .i64 0, .int .i64 0] :: l') := Eq.mp (by kernel_rfl) hS
      refine o_storeAgg (news := [.string name0, .bool false, .int .i64 ins1, .int .u64 table2, .int .i64 x18, .slice none 0 0, .slice none 0 0, .slice none 0 0, .int .i64 r0_10.1, .int .i64 0, .int .i64 0]) agg_46 f0_12 f0_11 rfl (by simp [over_length]) hS (fun w' hS => ?_)
      refine x_done <|
        ?_
      refine x_fin ⟨⟨undef, rfl⟩, trivial, ?_⟩
      exact Eq.mp (by kernel_rfl) hS
  intro Ep0 w' hE0 hF_ hS
  obtain ⟨f0_0, f0_1, f0_2, f0_3, f0_4, f0_5, f0_6, f0_7, f0_8, f0_9, f0_10, f0_11, f0_12, -⟩ := hF_
  replace f0_0 : Ep0 10 = .string name0 := Eq.mp (by kernel_rfl) f0_0
  replace f0_1 : Ep0 11 = .int .i64 ins1 := Eq.mp (by kernel_rfl) f0_1
  replace f0_2 : Ep0 12 = .int .u64 table2 := Eq.mp (by kernel_rfl) f0_2
  replace f0_3 : Ep0 13 = .int .i64 ins1 := Eq.mp (by kernel_rfl) f0_3
  replace f0_4 : Ep0 14 = .int .i64 x14 := Eq.mp (by kernel_rfl) f0_4
  replace f0_5 : Ep0 15 = .int .i64 x15 := Eq.mp (by kernel_rfl) f0_5
  replace f0_6 : Ep0 16 = .pointer (some ⟨b_v3_0, 0, none⟩) := Eq.mp (by kernel_rfl) f0_6
  replace f0_7 : Ep0 17 = .int .i64 r0_7.1 := Eq.mp (by kernel_rfl) f0_7
  replace f0_8 : Ep0 18 = .int .i64 x18 := Eq.mp (by kernel_rfl) f0_8
  replace f0_9 : Ep0 19 = .pointer (some ⟨b_v3_0, 0, none⟩) := Eq.mp (by kernel_rfl) f0_9
  replace f0_10 : Ep0 20 = .int .i64 r0_10.1 := Eq.mp (by kernel_rfl) f0_10
  replace f0_11 : Ep0 21 = .agg #[.string name0, .bool false, .int .i64 ins1, .int .u64 table2, .int .i64 x18, .slice none 0 0, .slice none 0 0, .slice none 0 0, .int .i64 r0_10.1, .int .i64 0, .int .i64 0] := Eq.mp (by kernel_rfl) f0_11
  replace f0_12 : Ep0 8 = .pointer (some ⟨(blkOf (Ep0 8)), 0, none⟩) := Eq.mp (by kernel_rfl) f0_12
  replace hS : St w0 w' (cells b_v3 23 [.pointer (some ⟨b_v3_0, 0, none⟩)] :: ro ρ :: cells b_v3_0 25 [.slice A_v3_0_0 v3_0.L.length c_v3_0_0, .int .i64 r0_10.2] :: cells (blkOf (Ep0 8)) 46 [.string name0, .bool false, .int .i64 ins1, .int .u64 table2, .int .i64 x18, .slice none 0 0, .slice none 0 0, .slice none 0 0, .int .i64 r0_10.1, .int .i64 0, .int .i64 0] :: (cells b_v4 35 [.slice A_v4_0 v4_0.length c_v4_0] :: vec 46 R_api_Cell.sz (.slice A_v4_0 v4_0.length c_v4_0) v4_0.length cs_v4_0 :: l)) := Eq.mp (by kernel_rfl) hS
  refine x_seq <| x_seq <| x_region <| p (yl_move (hE0 1 rfl)) <|
    p (yl_move rfl) <| x_done <|
    ?_
  obtain ⟨oL2, hLL2, hF⟩ := bd_s hF
  refine x_join (fun E w => ∃ (b_c8_L2 : Nat) (A_b_c8_L2_5_L2 : Option Addr) (n_b_c8_L2_5_L2 : Nat) (c_b_c8_L2_5_L2 : Nat) (cs_b_c8_L2_5_L2 : List Value) (A_b_c8_L2_6_L2 : Option Addr) (n_b_c8_L2_6_L2 : Nat) (c_b_c8_L2_6_L2 : Nat) (cs_b_c8_L2_6_L2 : List Value) (A_b_c8_L2_7_L2 : Option Addr) (n_b_c8_L2_7_L2 : Nat) (c_b_c8_L2_7_L2 : Nat) (cs_b_c8_L2_7_L2 : List Value) (b_c8_L2_5_L2 : List Int) (b_c8_L2_6_L2 : List Int) (b_c8_L2_7_L2 : List Int) (b_v3_0_1_L2 : Int), (b_c8_L2_5_L2, b_c8_L2_6_L2, b_c8_L2_7_L2, b_v3_0_1_L2) = oL2 ∧ E 4 = .pointer (some ⟨b_v4, 0, none⟩) ∧ E 8 = .pointer (some ⟨b_c8_L2, 0, none⟩) ∧ RepL (RpI .i64) ρ b_c8_L2_5_L2 cs_b_c8_L2_5_L2 ∧ RepL (RpI .i64) ρ b_c8_L2_6_L2 cs_b_c8_L2_6_L2 ∧ RepL (RpI .i64) ρ b_c8_L2_7_L2 cs_b_c8_L2_7_L2 ∧ St w0 w (cells b_v4 35 [.slice A_v4_0 v4_0.length c_v4_0] :: cells b_c8_L2 46 [.string name0, .bool false, .int .i64 ins1, .int .u64 table2, .int .i64 x18, .slice A_b_c8_L2_5_L2 n_b_c8_L2_5_L2 c_b_c8_L2_5_L2, .slice A_b_c8_L2_6_L2 n_b_c8_L2_6_L2 c_b_c8_L2_6_L2, .slice A_b_c8_L2_7_L2 n_b_c8_L2_7_L2 c_b_c8_L2_7_L2, .int .i64 r0_10.1, .int .i64 0, .int .i64 0] :: cells b_v3_0 25 [.slice A_v3_0_0 v3_0.L.length c_v3_0_0, .int .i64 b_v3_0_1_L2] :: cells b_v3 23 [.pointer (some ⟨b_v3_0, 0, none⟩)] :: vec 46 R_api_Cell.sz (.slice A_v4_0 v4_0.length c_v4_0) v4_0.length cs_v4_0 :: vec 3 (RpI .i64).sz (.slice A_b_c8_L2_5_L2 n_b_c8_L2_5_L2 c_b_c8_L2_5_L2) n_b_c8_L2_5_L2 cs_b_c8_L2_5_L2 :: vec 3 (RpI .i64).sz (.slice A_b_c8_L2_6_L2 n_b_c8_L2_6_L2 c_b_c8_L2_6_L2) n_b_c8_L2_6_L2 cs_b_c8_L2_6_L2 :: vec 3 (RpI .i64).sz (.slice A_b_c8_L2_7_L2 n_b_c8_L2_7_L2 c_b_c8_L2_7_L2) n_b_c8_L2_7_L2 cs_b_c8_L2_7_L2 :: ro ρ :: l)) ?_ ?_
  · skip -- L2
    refine x_block ?_
    replace hS := St.vec_nil hS 3 (RpI .i64).sz
    have hnil_A_b_c8_L2h_5_L2h : RepL (RpI .i64) ρ [] [] := rfl
    replace hS := St.vec_nil hS 3 (RpI .i64).sz
    have hnil_A_b_c8_L2h_6_L2h : RepL (RpI .i64) ρ [] [] := rfl
    replace hS := St.vec_nil hS 3 (RpI .i64).sz
    have hnil_A_b_c8_L2h_7_L2h : RepL (RpI .i64) ρ [] [] := rfl
    refine x_loop (fun k_ E w => ∃ (b_c8_L2h : Nat) (A_b_c8_L2h_5_L2h : Option Addr) (n_b_c8_L2h_5_L2h : Nat) (c_b_c8_L2h_5_L2h : Nat) (cs_b_c8_L2h_5_L2h : List Value) (A_b_c8_L2h_6_L2h : Option Addr) (n_b_c8_L2h_6_L2h : Nat) (c_b_c8_L2h_6_L2h : Nat) (cs_b_c8_L2h_6_L2h : List Value) (A_b_c8_L2h_7_L2h : Option Addr) (n_b_c8_L2h_7_L2h : Nat) (c_b_c8_L2h_7_L2h : Nat) (cs_b_c8_L2h_7_L2h : List Value) (y23_L2h : Int) (b_c8_L2h_5_L2h : List Int) (b_c8_L2h_6_L2h : List Int) (b_c8_L2h_7_L2h : List Int) (b_v3_0_1_L2h : Int), lp (P_maskmake_Stream_LayLib_1_2_L2 ins1 v3_0) k_ (y23_L2h, b_c8_L2h_5_L2h, b_c8_L2h_6_L2h, b_c8_L2h_7_L2h, b_v3_0_1_L2h) = some oL2 ∧ E 3 = .pointer (some ⟨b_v3, 0, none⟩) ∧ E 4 = .pointer (some ⟨b_v4, 0, none⟩) ∧ E 8 = .pointer (some ⟨b_c8_L2h, 0, none⟩) ∧ E 22 = .int .i64 ins1 ∧ E 23 = .int .i64 y23_L2h ∧ RepL (RpI .i64) ρ b_c8_L2h_5_L2h cs_b_c8_L2h_5_L2h ∧ RepL (RpI .i64) ρ b_c8_L2h_6_L2h cs_b_c8_L2h_6_L2h ∧ RepL (RpI .i64) ρ b_c8_L2h_7_L2h cs_b_c8_L2h_7_L2h ∧ St w0 w (cells b_v3 23 [.pointer (some ⟨b_v3_0, 0, none⟩)] :: cells b_v4 35 [.slice A_v4_0 v4_0.length c_v4_0] :: cells b_c8_L2h 46 [.string name0, .bool false, .int .i64 ins1, .int .u64 table2, .int .i64 x18, .slice A_b_c8_L2h_5_L2h n_b_c8_L2h_5_L2h c_b_c8_L2h_5_L2h, .slice A_b_c8_L2h_6_L2h n_b_c8_L2h_6_L2h c_b_c8_L2h_6_L2h, .slice A_b_c8_L2h_7_L2h n_b_c8_L2h_7_L2h c_b_c8_L2h_7_L2h, .int .i64 r0_10.1, .int .i64 0, .int .i64 0] :: cells b_v3_0 25 [.slice A_v3_0_0 v3_0.L.length c_v3_0_0, .int .i64 b_v3_0_1_L2h] :: vec 46 R_api_Cell.sz (.slice A_v4_0 v4_0.length c_v4_0) v4_0.length cs_v4_0 :: vec 3 (RpI .i64).sz (.slice A_b_c8_L2h_5_L2h n_b_c8_L2h_5_L2h c_b_c8_L2h_5_L2h) n_b_c8_L2h_5_L2h cs_b_c8_L2h_5_L2h :: vec 3 (RpI .i64).sz (.slice A_b_c8_L2h_6_L2h n_b_c8_L2h_6_L2h c_b_c8_L2h_6_L2h) n_b_c8_L2h_6_L2h cs_b_c8_L2h_6_L2h :: vec 3 (RpI .i64).sz (.slice A_b_c8_L2h_7_L2h n_b_c8_L2h_7_L2h c_b_c8_L2h_7_L2h) n_b_c8_L2h_7_L2h cs_b_c8_L2h_7_L2h :: ro ρ :: l)) fuel ⟨(blkOf (Ep0 8)), none, 0, 0, [], none, 0, 0, [], none, 0, 0, [], 0, [], [], [], r0_10.2, hLL2, (hE0 3 rfl), (hE0 4 rfl), f0_12, rfl, rfl, hnil_A_b_c8_L2h_5_L2h, hnil_A_b_c8_L2h_6_L2h, hnil_A_b_c8_L2h_7_L2h, (((((((((hS.pull 4).pull 1).pull 2).pull 3).pull 8).pull 6).pull 7).pull 8).pull 8)⟩ ?_
    rintro kL2 E w ⟨b_c8_L2h, A_b_c8_L2h_5_L2h, n_b_c8_L2h_5_L2h, c_b_c8_L2h_5_L2h, cs_b_c8_L2h_5_L2h, A_b_c8_L2h_6_L2h, n_b_c8_L2h_6_L2h, c_b_c8_L2h_6_L2h, cs_b_c8_L2h_6_L2h, A_b_c8_L2h_7_L2h, n_b_c8_L2h_7_L2h, c_b_c8_L2h_7_L2h, cs_b_c8_L2h_7_L2h, y23_L2h, b_c8_L2h_5_L2h, b_c8_L2h_6_L2h, b_c8_L2h_7_L2h, b_v3_0_1_L2h, hLL2, eL2h_3, eL2h_4, eL2h_8, eL2h_22, eL2h_23, h_b_c8_L2h_5_L2h, h_b_c8_L2h_6_L2h, h_b_c8_L2h_7_L2h, hS⟩
    obtain rfl := St.vec_n (hS.pull 5) h_b_c8_L2h_5_L2h
    obtain rfl := St.vec_n (hS.pull 6) h_b_c8_L2h_6_L2h
    obtain rfl := St.vec_n (hS.pull 7) h_b_c8_L2h_7_L2h
    obtain ⟨kL2, obL2, rfl, hFL2, hLL2⟩ := lp_s hLL2
    refine x_seq <| x_region <| p (yl_lss eL2h_23 eL2h_22) <| x_done <|
      x_seq <|
      x_cond_p (y23_L2h < ins1) rfl (fun hc24 => ?_) (fun hc24 => ?_)
    · replace hFL2 := it_t hc24 hFL2
      obtain ⟨r3_1, hc3_1, hFL2⟩ := bd_s hFL2
      refine x_skip <| x_seq <| x_block <| x_seq <|
        x_region <| pa (at_load one_23 eL2h_3 (hS.cell rfl)) <|
        ?_
      have hcall := c_maskmake_Stream_Next hc3_1 h_v3_0_0 ((hS.pull 8).pull 4)
      refine o_cc call_15 (args2 rfl rfl) hcall ?_
      rintro e w' ⟨rfl, hS⟩
      refine ⟨_, rfl, ?_⟩
      refine p (yl_assign rfl) <| x_done <|
        ?_
      obtain ⟨r4_3, hc4_3, hFL2⟩ := bd_s hFL2
      obtain ⟨z4_5, hz4_5, hFL2⟩ := lv_s hFL2
      obtain ⟨hk4_5, hFL2⟩ := ck_s hFL2
      obtain ⟨z4_10, hz4_10, hFL2⟩ := lv_s hFL2
      obtain ⟨hk4_10, hFL2⟩ := ck_s hFL2
      obtain ⟨r4_15, hc4_15, hFL2⟩ := bd_s hFL2
      obtain ⟨x43, hx43, hFL2⟩ := ar_s hFL2
      obtain ⟨z4_18, hz4_18, hFL2⟩ := lv_s hFL2
      obtain ⟨hk4_18, hFL2⟩ := ck_s hFL2
      refine x_par (w0 := w0) [⟨[], [], [27], [], [], []⟩, ⟨[0], [0], [28], [0], [], []⟩, ⟨[], [], [29], [1], [], []⟩, ⟨[2], [2], [30], [3], [2], [4]⟩, ⟨[2, 3], [3], [31], [], [], [5]⟩, ⟨[0, 1, 2, 3, 4], [1, 4], [32], [5, 3], [6], [7]⟩, ⟨[], [], [33], [], [], []⟩, ⟨[6], [6], [34], [0], [], []⟩, ⟨[], [], [35], [], [], []⟩, ⟨[8], [8], [36], [], [], [8]⟩, ⟨[0, 1, 2, 3, 4, 5, 6, 7, 8, 9], [7, 9], [37], [8, 3], [9], [10]⟩, ⟨[], [], [38], [], [], []⟩, ⟨[11], [11], [39], [0], [], []⟩, ⟨[], [], [40], [], [], []⟩, ⟨[], [], [41], [1], [], []⟩, ⟨[0, 1, 2, 3, 4, 5, 6, 7, 8, 9, 10, 14], [14], [42], [3], [4], [11]⟩, ⟨[0, 1, 2, 3, 4, 5, 6, 7, 8, 9, 10, 13, 14, 15], [13, 15], [43], [], [], []⟩, ⟨[0, 1, 2, 3, 4, 5, 6, 7, 8, 9, 10, 13, 14, 15, 16], [16], [44], [], [], [12]⟩, ⟨[0, 1, 2, 3, 4, 5, 6, 7, 8, 9, 10, 11, 12, 13, 14, 15, 16, 17], [12, 17], [45], [12, 3], [13], [14]⟩, ⟨[0, 1, 2, 3, 4, 5, 6, 7, 11, 12], [], [46], [], [], []⟩, ⟨[0, 1, 2, 3, 4, 5, 6, 7, 8, 9, 10, 11, 12, 13, 14, 15, 16, 17, 18, 19], [5, 19], [], [], [0], [15]⟩, ⟨[0, 1, 2, 3, 4, 5, 6, 7, 8, 9, 10, 11, 12, 13, 14, 15, 16, 17, 18, 19, 20], [], [47], [], [], []⟩, ⟨[0, 1, 2, 3, 4, 5, 6, 7, 8, 9, 10, 11, 12, 13, 14, 15, 16, 17, 18, 19, 20, 21], [5, 10, 21], [], [], [15], [16]⟩, ⟨[0, 1, 2, 3, 4, 5, 6, 7, 8, 9, 10, 11, 12, 13, 14, 15, 16, 17, 18, 19, 20, 21, 22], [], [48], [], [], []⟩, ⟨[0, 1, 2, 3, 4, 5, 6, 7, 8, 9, 10, 11, 12, 13, 14, 15, 16, 17, 18, 19, 20, 21, 22, 23], [5, 10, 18, 23], [], [], [16], [17]⟩] [⟨none, (some 20), []⟩, ⟨none, none, []⟩, ⟨none, (some 3), []⟩, ⟨none, none, []⟩, ⟨(some 3), (some 15), []⟩, ⟨(some 4), none, [31]⟩, ⟨none, (some 5), []⟩, ⟨(some 5), none, [32]⟩, ⟨(some 9), none, [36]⟩, ⟨none, (some 10), []⟩, ⟨(some 10), none, [37]⟩, ⟨(some 15), none, []⟩, ⟨(some 17), none, [44]⟩, ⟨none, (some 18), []⟩, ⟨(some 18), none, [45]⟩, ⟨(some 20), (some 22), [32]⟩, ⟨(some 22), (some 24), [32, 37]⟩, ⟨(some 24), none, [32, 37, 45]⟩] [27, 28, 29, 30, 31, 32, 33, 34, 35, 36, 37, 38, 39, 40, 41, 42, 43, 44, 45, 46, 47, 48] [0, 1, 2, 3, 6, 9, 13] [1, 3, 5, 7, 8, 10, 11, 12, 14, 17] [0, 1, 2, 3, 4, 5, 6, 7, 8, 9, 10, 11, 12, 13, 14, 15, 16, 17, 18, 19, 21, 23] [fun Ep4 => Ep4 27 = .pointer (some ⟨b_c8_L2h, 5, none⟩), fun Ep4 => Ep4 28 = .slice A_b_c8_L2h_5_L2h b_c8_L2h_5_L2h.length c_b_c8_L2h_5_L2h, fun Ep4 => Ep4 29 = .pointer (some ⟨b_v3_0, 0, none⟩), fun Ep4 => Ep4 30 = .int .i64 r4_3.1, fun Ep4 => Ep4 31 = .slice (some ⟨(blkOf (Ep4 31)), 0, none⟩) 1 1, fun Ep4 => Ep4 32 = .slice (adOf (Ep4 32)) z4_5.length (capOf (Ep4 32)), fun Ep4 => Ep4 33 = .pointer (some ⟨b_c8_L2h, 6, none⟩), fun Ep4 => Ep4 34 = .slice A_b_c8_L2h_6_L2h b_c8_L2h_6_L2h.length c_b_c8_L2h_6_L2h, fun Ep4 => Ep4 35 = .int .i64 r3_1.1, fun Ep4 => Ep4 36 = .slice (some ⟨(blkOf (Ep4 36)), 0, none⟩) 1 1, fun Ep4 => Ep4 37 = .slice (adOf (Ep4 37)) z4_10.length (capOf (Ep4 37)), fun Ep4 => Ep4 38 = .pointer (some ⟨b_c8_L2h, 7, none⟩), fun Ep4 => Ep4 39 = .slice A_b_c8_L2h_7_L2h b_c8_L2h_7_L2h.length c_b_c8_L2h_7_L2h, fun Ep4 => Ep4 40 = .int .i64 r3_1.1, fun Ep4 => Ep4 41 = .pointer (some ⟨b_v3_0, 0, none⟩), fun Ep4 => Ep4 42 = .int .i64 r4_15.1, fun Ep4 => Ep4 43 = .int .i64 x43, fun Ep4 => Ep4 44 = .slice (some ⟨(blkOf (Ep4 44)), 0, none⟩) 1 1, fun Ep4 => Ep4 45 = .slice (adOf (Ep4 45)) z4_18.length (capOf (Ep4 45)), fun Ep4 => Ep4 46 = .pointer (some ⟨b_c8_L2h, 5, none⟩), fun Ep4 => True, fun Ep4 => Ep4 47 = .pointer (some ⟨b_c8_L2h, 6, none⟩), fun Ep4 => True, fun Ep4 => Ep4 48 = .pointer (some ⟨b_c8_L2h, 7, none⟩), fun Ep4 => True] [fun Ep4 => cells b_c8_L2h 46 [.string name0, .bool false, .int .i64 ins1, .int .u64 table2, .int .i64 x18, .slice A_b_c8_L2h_5_L2h b_c8_L2h_5_L2h.length c_b_c8_L2h_5_L2h, .slice A_b_c8_L2h_6_L2h b_c8_L2h_6_L2h.length c_b_c8_L2h_6_L2h, .slice A_b_c8_L2h_7_L2h b_c8_L2h_7_L2h.length c_b_c8_L2h_7_L2h, .int .i64 r0_10.1, .int .i64 0, .int .i64 0], fun Ep4 => cells b_v3 23 [.pointer (some ⟨b_v3_0, 0, none⟩)], fun Ep4 => cells b_v3_0 25 [.slice A_v3_0_0 v3_0.L.length c_v3_0_0, .int .i64 r3_1.2], fun Ep4 => ro ρ, fun Ep4 => cells b_v3_0 25 [.slice A_v3_0_0 v3_0.L.length c_v3_0_0, .int .i64 r4_3.2], fun Ep4 => cells (blkOf (Ep4 31)) 3 [.int .i64 r4_3.1], fun Ep4 => vec 3 (RpI .i64).sz (.slice A_b_c8_L2h_5_L2h b_c8_L2h_5_L2h.length c_b_c8_L2h_5_L2h) b_c8_L2h_5_L2h.length cs_b_c8_L2h_5_L2h, fun Ep4 => bunA (fun (cs32 : List Value) => RepL (RpI .i64) ρ z4_5 cs32) (fun (cs32 : List Value) => [vec 3 (RpI .i64).sz (.slice (adOf (Ep4 32)) z4_5.length (capOf (Ep4 32))) z4_5.length cs32]), fun Ep4 => cells (blkOf (Ep4 36)) 3 [.int .i64 r3_1.1], fun Ep4 => vec 3 (RpI .i64).sz (.slice A_b_c8_L2h_6_L2h b_c8_L2h_6_L2h.length c_b_c8_L2h_6_L2h) b_c8_L2h_6_L2h.length cs_b_c8_L2h_6_L2h, fun Ep4 => bunA (fun (cs37 : List Value) => RepL (RpI .i64) ρ z4_10 cs37) (fun (cs37 : List Value) => [vec 3 (RpI .i64).sz (.slice (adOf (Ep4 37)) z4_10.length (capOf (Ep4 37))) z4_10.length cs37]), fun Ep4 => cells b_v3_0 25 [.slice A_v3_0_0 v3_0.L.length c_v3_0_0, .int .i64 r4_15.2], fun Ep4 => cells (blkOf (Ep4 44)) 3 [.int .i64 x43], fun Ep4 => vec 3 (RpI .i64).sz (.slice A_b_c8_L2h_7_L2h b_c8_L2h_7_L2h.length c_b_c8_L2h_7_L2h) b_c8_L2h_7_L2h.length cs_b_c8_L2h_7_L2h, fun Ep4 => bunA (fun (cs45 : List Value) => RepL (RpI .i64) ρ z4_18 cs45) (fun (cs45 : List Value) => [vec 3 (RpI .i64).sz (.slice (adOf (Ep4 45)) z4_18.length (capOf (Ep4 45))) z4_18.length cs45]), fun Ep4 => cells b_c8_L2h 46 [.string name0, .bool false, .int .i64 ins1, .int .u64 table2, .int .i64 x18, .slice (adOf (Ep4 32)) z4_5.length (capOf (Ep4 32)), .slice A_b_c8_L2h_6_L2h b_c8_L2h_6_L2h.length c_b_c8_L2h_6_L2h, .slice A_b_c8_L2h_7_L2h b_c8_L2h_7_L2h.length c_b_c8_L2h_7_L2h, .int .i64 r0_10.1, .int .i64 0, .int .i64 0], fun Ep4 => cells b_c8_L2h 46 [.string name0, .bool false, .int .i64 ins1, .int .u64 table2, .int .i64 x18, .slice (adOf (Ep4 32)) z4_5.length (capOf (Ep4 32)), .slice (adOf (Ep4 37)) z4_10.length (capOf (Ep4 37)), .slice A_b_c8_L2h_7_L2h b_c8_L2h_7_L2h.length c_b_c8_L2h_7_L2h, .int .i64 r0_10.1, .int .i64 0, .int .i64 0], fun Ep4 => cells b_c8_L2h 46 [.string name0, .bool false, .int .i64 ins1, .int .u64 table2, .int .i64 x18, .slice (adOf (Ep4 32)) z4_5.length (capOf (Ep4 32)), .slice (adOf (Ep4 37)) z4_10.length (capOf (Ep4 37)), .slice (adOf (Ep4 45)) z4_18.length (capOf (Ep4 45)), .int .i64 r0_10.1, .int .i64 0, .int .i64 0]] mixed (by kernel_rfl) (((((((hS.pull 8).pull 8).pull 8).pull 4).pull 4).pull 5).pull 7) ?_ ?_
      · refine ⟨?_, ?_, ?_, ?_, ?_, ?_, ?_, ?_, ?_, ?_, ?_, ?_, ?_, ?_, ?_, ?_, ?_, ?_, ?_, ?_, ?_, ?_, ?_, ?_, ?_, trivial⟩
        · intro Ep4 w l' hE4 hO4 hF_ hS
          refine p (yl_field0 fld_46_5 ((hE4 8 rfl).trans eL2h_8)) <| x_done <|
            ?_
          refine x_fin ⟨⟨_, rfl⟩, rfl, ?_⟩
          exact Eq.mp (by kernel_rfl) hS
        · intro Ep4 w l' hE4 hO4 hF_ hS
          obtain ⟨f4_0, -⟩ := hF_
          replace f4_0 : Ep4 27 = .pointer (some ⟨b_c8_L2h, 5, none⟩) := Eq.mp (by kernel_rfl) f4_0
          replace hS : St w0 w (cells b_c8_L2h 46 [.string name0, .bool false, .int .i64 ins1, .int .u64 table2, .int .i64 x18, .slice A_b_c8_L2h_5_L2h b_c8_L2h_5_L2h.length c_b_c8_L2h_5_L2h, .slice A_b_c8_L2h_6_L2h b_c8_L2h_6_L2h.length c_b_c8_L2h_6_L2h, .slice A_b_c8_L2h_7_L2h b_c8_L2h_7_L2h.length c_b_c8_L2h_7_L2h, .int .i64 r0_10.1, .int .i64 0, .int .i64 0] :: l') := Eq.mp (by kernel_rfl) hS
          refine pa (at_load one_22 f4_0 (hS.cell rfl)) <| x_done <|
            ?_
          refine x_fin ⟨⟨_, rfl⟩, rfl, ?_⟩
          exact Eq.mp (by kernel_rfl) hS
        · intro Ep4 w l' hE4 hO4 hF_ hS
          replace hS : St w0 w (cells b_v3 23 [.pointer (some ⟨b_v3_0, 0, none⟩)] :: l') := Eq.mp (by kernel_rfl) hS
          refine pa (at_load one_23 ((hE4 3 rfl).trans eL2h_3) (hS.cell rfl)) <| x_done <|
            ?_
          refine x_fin ⟨⟨_, rfl⟩, rfl, ?_⟩
          exact Eq.mp (by kernel_rfl) hS
        · intro Ep4 w l' hE4 hO4 hF_ hS
          obtain ⟨f4_2, -⟩ := hF_
          replace f4_2 : Ep4 29 = .pointer (some ⟨b_v3_0, 0, none⟩) := Eq.mp (by kernel_rfl) f4_2
          replace hS : St w0 w (ro ρ :: cells b_v3_0 25 [.slice A_v3_0_0 v3_0.L.length c_v3_0_0, .int .i64 r3_1.2] :: l') := Eq.mp (by kernel_rfl) hS
          have hcall := c_maskmake_Stream_Range hc4_3 h_v3_0_0 (hS.pull 1)
          refine o_cc call_14 (args3 f4_2 rfl rfl) hcall ?_
          rintro e w' ⟨rfl, hS⟩
          refine ⟨_, rfl, ?_⟩
          refine x_done <|
            ?_
          refine x_fin ⟨⟨_, rfl⟩, rfl, ?_⟩
          exact Eq.mp (by kernel_rfl) (hS.pull 1)
        · intro Ep4 w l' hE4 hO4 hF_ hS
          obtain ⟨f4_3, -⟩ := hF_
          replace f4_3 : Ep4 30 = .int .i64 r4_3.1 := Eq.mp (by kernel_rfl) f4_3
          refine o_buildSlice (vs := [.int .i64 r4_3.1]) (cs := [.int .i64 r4_3.1]) sl_22 zero_3 (parts_eq (pt (va := .int .i64 r4_3.1) f4_3 pt0)) rfl (by intro v hv; simp only [List.mem_cons, List.not_mem_nil, or_false] at hv; first | (subst hv; rfl) | (rcases hv with rfl <;> rfl)) (by decide) rfl hS (fun b31 w' hS => ?_)
          refine x_done <|
            ?_
          refine x_fin ⟨⟨_, rfl⟩, rfl, ?_⟩
          exact Eq.mp (by kernel_rfl) hS
        · intro Ep4 w l' hE4 hO4 hF_ hS
          obtain ⟨f4_1, f4_4, -⟩ := hF_
          replace f4_1 : Ep4 28 = .slice A_b_c8_L2h_5_L2h b_c8_L2h_5_L2h.length c_b_c8_L2h_5_L2h := Eq.mp (by kernel_rfl) f4_1
          replace f4_4 : Ep4 31 = .slice (some ⟨(blkOf (Ep4 31)), 0, none⟩) 1 1 := Eq.mp (by kernel_rfl) f4_4
          replace hS : St w0 w (cells (blkOf (Ep4 31)) 3 [.int .i64 r4_3.1] :: ro ρ :: vec 3 (RpI .i64).sz (.slice A_b_c8_L2h_5_L2h b_c8_L2h_5_L2h.length c_b_c8_L2h_5_L2h) b_c8_L2h_5_L2h.length cs_b_c8_L2h_5_L2h :: l') := Eq.mp (by kernel_rfl) hS
          refine o_ap sl_22 zero_3 rfl (by decide) f4_1 f4_4 (hS.pull 2) h_b_c8_L2h_5_L2h (src_blk usl_22 hS rfl rfl) (RepL.cons (R := (RpI .i64)) (ρ := ρ) (x := r4_3.1) (cs := [.int .i64 r4_3.1]) rfl RepL.nil) hz4_5 hk4_5 (fun A32 c32 cs32 w' hr32 hS => ?_)
          refine x_done <|
            ?_
          refine x_fin ⟨⟨_, rfl⟩, rfl, ?_⟩
          replace hS := St.bun (Φ := (fun (cs32 : List Value) => RepL (RpI .i64) ρ z4_5 cs32)) (L := (fun (cs32 : List Value) => [vec 3 (RpI .i64).sz (.slice A32 z4_5.length c32) z4_5.length cs32])) cs32 hr32 hS
          exact Eq.mp (by kernel_rfl) ((hS.pull 2).pull 2)
        · intro Ep4 w l' hE4 hO4 hF_ hS
          refine p (yl_field0 fld_46_6 ((hE4 8 rfl).trans eL2h_8)) <| x_done <|
            ?_
          refine x_fin ⟨⟨_, rfl⟩, rfl, ?_⟩
          exact Eq.mp (by kernel_rfl) hS
        · intro Ep4 w l' hE4 hO4 hF_ hS
          obtain ⟨f4_6, -⟩ := hF_
          replace f4_6 : Ep4 33 = .pointer (some ⟨b_c8_L2h, 6, none⟩) := Eq.mp (by kernel_rfl) f4_6
          replace hS : St w0 w (cells b_c8_L2h 46 [.string name0, .bool false, .int .i64 ins1, .int .u64 table2, .int .i64 x18, .slice A_b_c8_L2h_5_L2h b_c8_L2h_5_L2h.length c_b_c8_L2h_5_L2h, .slice A_b_c8_L2h_6_L2h b_c8_L2h_6_L2h.length c_b_c8_L2h_6_L2h, .slice A_b_c8_L2h_7_L2h b_c8_L2h_7_L2h.length c_b_c8_L2h_7_L2h, .int .i64 r0_10.1, .int .i64 0, .int .i64 0] :: l') := Eq.mp (by kernel_rfl) hS
          refine pa (at_load one_22 f4_6 (hS.cell rfl)) <| x_done <|
            ?_
          refine x_fin ⟨⟨_, rfl⟩, rfl, ?_⟩
          exact Eq.mp (by kernel_rfl) hS
        · intro Ep4 w l' hE4 hO4 hF_ hS
          refine p (yl_move (hE4 9 rfl)) <| x_done <|
            ?_
          refine x_fin ⟨⟨_, rfl⟩, rfl, ?_⟩
          exact Eq.mp (by kernel_rfl) hS
        · intro Ep4 w l' hE4 hO4 hF_ hS
          obtain ⟨f4_8, -⟩ := hF_
          replace f4_8 : Ep4 35 = .int .i64 r3_1.1 := Eq.mp (by kernel_rfl) f4_8
          refine o_buildSlice (vs := [.int .i64 r3_1.1]) (cs := [.int .i64 r3_1.1]) sl_22 zero_3 (parts_eq (pt (va := .int .i64 r3_1.1) f4_8 pt0)) rfl (by intro v hv; simp only [List.mem_cons, List.not_mem_nil, or_false] at hv; first | (subst hv; rfl) | (rcases hv with rfl <;> rfl)) (by decide) rfl hS (fun b36 w' hS => ?_)
          refine x_done <|
            ?_
          refine x_fin ⟨⟨_, rfl⟩, rfl, ?_⟩
          exact Eq.mp (by kernel_rfl) hS
        · intro Ep4 w l' hE4 hO4 hF_ hS
          obtain ⟨f4_7, f4_9, -⟩ := hF_
          replace f4_7 : Ep4 34 = .slice A_b_c8_L2h_6_L2h b_c8_L2h_6_L2h.length c_b_c8_L2h_6_L2h := Eq.mp (by kernel_rfl) f4_7
          replace f4_9 : Ep4 36 = .slice (some ⟨(blkOf (Ep4 36)), 0, none⟩) 1 1 := Eq.mp (by kernel_rfl) f4_9
          replace hS : St w0 w (cells (blkOf (Ep4 36)) 3 [.int .i64 r3_1.1] :: ro ρ :: vec 3 (RpI .i64).sz (.slice A_b_c8_L2h_6_L2h b_c8_L2h_6_L2h.length c_b_c8_L2h_6_L2h) b_c8_L2h_6_L2h.length cs_b_c8_L2h_6_L2h :: l') := Eq.mp (by kernel_rfl) hS
          refine o_ap sl_22 zero_3 rfl (by decide) f4_7 f4_9 (hS.pull 2) h_b_c8_L2h_6_L2h (src_blk usl_22 hS rfl rfl) (RepL.cons (R := (RpI .i64)) (ρ := ρ) (x := r3_1.1) (cs := [.int .i64 r3_1.1]) rfl RepL.nil) hz4_10 hk4_10 (fun A37 c37 cs37 w' hr37 hS => ?_)
          refine x_done <|
            ?_
          refine x_fin ⟨⟨_, rfl⟩, rfl, ?_⟩
          replace hS := St.bun (Φ := (fun (cs37 : List Value) => RepL (RpI .i64) ρ z4_10 cs37)) (L := (fun (cs37 : List Value) => [vec 3 (RpI .i64).sz (.slice A37 z4_10.length c37) z4_10.length cs37])) cs37 hr37 hS
          exact Eq.mp (by kernel_rfl) ((hS.pull 2).pull 2)
        · intro Ep4 w l' hE4 hO4 hF_ hS
          refine p (yl_field0 fld_46_7 ((hE4 8 rfl).trans eL2h_8)) <| x_done <|
            ?_
          refine x_fin ⟨⟨_, rfl⟩, rfl, ?_⟩
          exact Eq.mp (by kernel_rfl) hS
        · intro Ep4 w l' hE4 hO4 hF_ hS
          obtain ⟨f4_11, -⟩ := hF_
          replace f4_11 : Ep4 38 = .pointer (some ⟨b_c8_L2h, 7, none⟩) := Eq.mp (by kernel_rfl) f4_11
          replace hS : St w0 w (cells b_c8_L2h 46 [.string name0, .bool false, .int .i64 ins1, .int .u64 table2, .int .i64 x18, .slice A_b_c8_L2h_5_L2h b_c8_L2h_5_L2h.length c_b_c8_L2h_5_L2h, .slice A_b_c8_L2h_6_L2h b_c8_L2h_6_L2h.length c_b_c8_L2h_6_L2h, .slice A_b_c8_L2h_7_L2h b_c8_L2h_7_L2h.length c_b_c8_L2h_7_L2h, .int .i64 r0_10.1, .int .i64 0, .int .i64 0] :: l') := Eq.mp (by kernel_rfl) hS
          refine pa (at_load one_22 f4_11 (hS.cell rfl)) <| x_done <|
            ?_
          refine x_fin ⟨⟨_, rfl⟩, rfl, ?_⟩
          exact Eq.mp (by kernel_rfl) hS
        · intro Ep4 w l' hE4 hO4 hF_ hS
          refine p (yl_move (hE4 9 rfl)) <| x_done <|
            ?_
          refine x_fin ⟨⟨_, rfl⟩, rfl, ?_⟩
          exact Eq.mp (by kernel_rfl) hS
        · intro Ep4 w l' hE4 hO4 hF_ hS
          replace hS : St w0 w (cells b_v3 23 [.pointer (some ⟨b_v3_0, 0, none⟩)] :: l') := Eq.mp (by kernel_rfl) hS
          refine pa (at_load one_23 ((hE4 3 rfl).trans eL2h_3) (hS.cell rfl)) <| x_done <|
            ?_
          refine x_fin ⟨⟨_, rfl⟩, rfl, ?_⟩
          exact Eq.mp (by kernel_rfl) hS
        · intro Ep4 w l' hE4 hO4 hF_ hS
          obtain ⟨f4_14, -⟩ := hF_
          replace f4_14 : Ep4 41 = .pointer (some ⟨b_v3_0, 0, none⟩) := Eq.mp (by kernel_rfl) f4_14
          replace hS : St w0 w (ro ρ :: cells b_v3_0 25 [.slice A_v3_0_0 v3_0.L.length c_v3_0_0, .int .i64 r4_3.2] :: l') := Eq.mp (by kernel_rfl) hS
          have hcall := c_maskmake_Stream_Next hc4_15 h_v3_0_0 (hS.pull 1)
          refine o_cc call_15 (args2 f4_14 rfl) hcall ?_
          rintro e w' ⟨rfl, hS⟩
          refine ⟨_, rfl, ?_⟩
          refine x_done <|
            ?_
          refine x_fin ⟨⟨_, rfl⟩, rfl, ?_⟩
          exact Eq.mp (by kernel_rfl) (hS.pull 1)
        · intro Ep4 w l' hE4 hO4 hF_ hS
          obtain ⟨f4_13, f4_15, -⟩ := hF_
          replace f4_13 : Ep4 40 = .int .i64 r3_1.1 := Eq.mp (by kernel_rfl) f4_13
          replace f4_15 : Ep4 42 = .int .i64 r4_15.1 := Eq.mp (by kernel_rfl) f4_15
          refine p (yadd f4_13 f4_15 hx43) <| x_done <|
            ?_
          refine x_fin ⟨⟨_, rfl⟩, rfl, ?_⟩
          exact Eq.mp (by kernel_rfl) hS
        · intro Ep4 w l' hE4 hO4 hF_ hS
          obtain ⟨f4_16, -⟩ := hF_
          replace f4_16 : Ep4 43 = .int .i64 x43 := Eq.mp (by kernel_rfl) f4_16
          refine o_buildSlice (vs := [.int .i64 x43]) (cs := [.int .i64 x43]) sl_22 zero_3 (parts_eq (pt (va := .int .i64 x43) f4_16 pt0)) rfl (by intro v hv; simp only [List.mem_cons, List.not_mem_nil, or_false] at hv; first | (subst hv; rfl) | (rcases hv with rfl <;> rfl)) (by decide) rfl hS (fun b44 w' hS => ?_)
          refine x_done <|
            ?_
          refine x_fin ⟨⟨_, rfl⟩, rfl, ?_⟩
          exact Eq.mp (by kernel_rfl) hS
        · intro Ep4 w l' hE4 hO4 hF_ hS
          obtain ⟨f4_12, f4_17, -⟩ := hF_
          replace f4_12 : Ep4 39 = .slice A_b_c8_L2h_7_L2h b_c8_L2h_7_L2h.length c_b_c8_L2h_7_L2h := Eq.mp (by kernel_rfl) f4_12
          replace f4_17 : Ep4 44 = .slice (some ⟨(blkOf (Ep4 44)), 0, none⟩) 1 1 := Eq.mp (by kernel_rfl) f4_17
          replace hS : St w0 w (cells (blkOf (Ep4 44)) 3 [.int .i64 x43] :: ro ρ :: vec 3 (RpI .i64).sz (.slice A_b_c8_L2h_7_L2h b_c8_L2h_7_L2h.length c_b_c8_L2h_7_L2h) b_c8_L2h_7_L2h.length cs_b_c8_L2h_7_L2h :: l') := Eq.mp (by kernel_rfl) hS
          refine o_ap sl_22 zero_3 rfl (by decide) f4_12 f4_17 (hS.pull 2) h_b_c8_L2h_7_L2h (src_blk usl_22 hS rfl rfl) (RepL.cons (R := (RpI .i64)) (ρ := ρ) (x := x43) (cs := [.int .i64 x43]) rfl RepL.nil) hz4_18 hk4_18 (fun A45 c45 cs45 w' hr45 hS => ?_)
          refine x_done <|
            ?_
          refine x_fin ⟨⟨_, rfl⟩, rfl, ?_⟩
          replace hS := St.bun (Φ := (fun (cs45 : List Value) => RepL (RpI .i64) ρ z4_18 cs45)) (L := (fun (cs45 : List Value) => [vec 3 (RpI .i64).sz (.slice A45 z4_18.length c45) z4_18.length cs45])) cs45 hr45 hS
          exact Eq.mp (by kernel_rfl) ((hS.pull 2).pull 2)
        · intro Ep4 w l' hE4 hO4 hF_ hS
          refine p (yl_field0 fld_46_5 ((hE4 8 rfl).trans eL2h_8)) <| x_done <|
            ?_
          refine x_fin ⟨⟨_, rfl⟩, rfl, ?_⟩
          exact Eq.mp (by kernel_rfl) hS
        · intro Ep4 w l' hE4 hO4 hF_ hS
          obtain ⟨f4_5, f4_19, -⟩ := hF_
          replace f4_5 : Ep4 32 = .slice (adOf (Ep4 32)) z4_5.length (capOf (Ep4 32)) := Eq.mp (by kernel_rfl) f4_5
          replace f4_19 : Ep4 46 = .pointer (some ⟨b_c8_L2h, 5, none⟩) := Eq.mp (by kernel_rfl) f4_19
          replace hS : St w0 w (cells b_c8_L2h 46 [.string name0, .bool false, .int .i64 ins1, .int .u64 table2, .int .i64 x18, .slice A_b_c8_L2h_5_L2h b_c8_L2h_5_L2h.length c_b_c8_L2h_5_L2h, .slice A_b_c8_L2h_6_L2h b_c8_L2h_6_L2h.length c_b_c8_L2h_6_L2h, .slice A_b_c8_L2h_7_L2h b_c8_L2h_7_L2h.length c_b_c8_L2h_7_L2h, .int .i64 r0_10.1, .int .i64 0, .int .i64 0] :: l') := Eq.mp (by kernel_rfl) hS
          refine o_store1 (v := .slice (adOf (Ep4 32)) z4_5.length (capOf (Ep4 32))) one_22 f4_19 f4_5 rfl rfl hS (fun w' hS => ?_)
          refine x_done <|
            ?_
          refine x_fin ⟨⟨undef, rfl⟩, trivial, ?_⟩
          exact Eq.mp (by kernel_rfl) hS
        · intro Ep4 w l' hE4 hO4 hF_ hS
          refine p (yl_field0 fld_46_6 ((hE4 8 rfl).trans eL2h_8)) <| x_done <|
            ?_
          refine x_fin ⟨⟨_, rfl⟩, rfl, ?_⟩
          exact Eq.mp (by kernel_rfl) hS
        · intro Ep4 w l' hE4 hO4 hF_ hS
          obtain ⟨f4_5, f4_10, f4_21, -⟩ := hF_
          replace f4_5 : Ep4 32 = .slice (adOf (Ep4 32)) z4_5.length (capOf (Ep4 32)) := Eq.mp (by kernel_rfl) f4_5
          replace f4_10 : Ep4 37 = .slice (adOf (Ep4 37)) z4_10.length (capOf (Ep4 37)) := Eq.mp (by kernel_rfl) f4_10
          replace f4_21 : Ep4 47 = .pointer (some ⟨b_c8_L2h, 6, none⟩) := Eq.mp (by kernel_rfl) f4_21
          replace hS : St w0 w (cells b_c8_L2h 46 [.string name0, .bool false, .int .i64 ins1, .int .u64 table2, .int .i64 x18, .slice (adOf (Ep4 32)) z4_5.length (capOf (Ep4 32)), .slice A_b_c8_L2h_6_L2h b_c8_L2h_6_L2h.length c_b_c8_L2h_6_L2h, .slice A_b_c8_L2h_7_L2h b_c8_L2h_7_L2h.length c_b_c8_L2h_7_L2h, .int .i64 r0_10.1, .int .i64 0, .int .i64 0] :: l') := Eq.mp (by kernel_rfl) hS
          refine o_store1 (v := .slice (adOf (Ep4 37)) z4_10.length (capOf (Ep4 37))) one_22 f4_21 f4_10 rfl rfl hS (fun w' hS => ?_)
          refine x_done <|
            ?_
          refine x_fin ⟨⟨undef, rfl⟩, trivial, ?_⟩
          exact Eq.mp (by kernel_rfl) hS
        · intro Ep4 w l' hE4 hO4 hF_ hS
          refine p (yl_field0 fld_46_7 ((hE4 8 rfl).trans eL2h_8)) <| x_done <|
            ?_
          refine x_fin ⟨⟨_, rfl⟩, rfl, ?_⟩
          exact Eq.mp (by kernel_rfl) hS
        · intro Ep4 w l' hE4 hO4 hF_ hS
          obtain ⟨f4_5, f4_10, f4_18, f4_23, -⟩ := hF_
          replace f4_5 : Ep4 32 = .slice (adOf (Ep4 32)) z4_5.length (capOf (Ep4 32)) := Eq.mp (by kernel_rfl) f4_5
          replace f4_10 : Ep4 37 = .slice (adOf (Ep4 37)) z4_10.length (capOf (Ep4 37)) := Eq.mp (by kernel_rfl) f4_10
          replace f4_18 : Ep4 45 = .slice (adOf (Ep4 45)) z4_18.length (capOf (Ep4 45)) := Eq.mp (by kernel_rfl) f4_18
          replace f4_23 : Ep4 48 = .pointer (some ⟨b_c8_L2h, 7, none⟩) := Eq.mp (by kernel_rfl) f4_23
          replace hS : St w0 w (cells b_c8_L2h 46 [.string name0, .bool false, .int .i64 ins1, .int .u64 table2, .int .i64 x18, .slice (adOf (Ep4 32)) z4_5.length (capOf (Ep4 32)), .slice (adOf (Ep4 37)) z4_10.length (capOf (Ep4 37)), .slice A_b_c8_L2h_7_L2h b_c8_L2h_7_L2h.length c_b_c8_L2h_7_L2h, .int .i64 r0_10.1, .int .i64 0, .int .i64 0] :: l') := Eq.mp (by kernel_rfl) hS
          refine o_store1 (v := .slice (adOf (Ep4 45)) z4_18.length (capOf (Ep4 45))) one_22 f4_23 f4_18 rfl rfl hS (fun w' hS => ?_)
          refine x_done <|
            ?_
          refine x_fin ⟨⟨undef, rfl⟩, trivial, ?_⟩
          exact Eq.mp (by kernel_rfl) hS
      intro Ep4 w' hE4 hF_ hS
      obtain ⟨f4_0, f4_1, f4_2, f4_3, f4_4, f4_5, f4_6, f4_7, f4_8, f4_9, f4_10, f4_11, f4_12, f4_13, f4_14, f4_15, f4_16, f4_17, f4_18, f4_19, f4_21, f4_23, -⟩ := hF_
      replace f4_0 : Ep4 27 = .pointer (some ⟨b_c8_L2h, 5, none⟩) := Eq.mp (by kernel_rfl) f4_0
      replace f4_1 : Ep4 28 = .slice A_b_c8_L2h_5_L2h b_c8_L2h_5_L2h.length c_b_c8_L2h_5_L2h := Eq.mp (by kernel_rfl) f4_1
      replace f4_2 : Ep4 29 = .pointer (some ⟨b_v3_0, 0, none⟩) := Eq.mp (by kernel_rfl) f4_2
      replace f4_3 : Ep4 30 = .int .i64 r4_3.1 := Eq.mp (by kernel_rfl) f4_3
      replace f4_4 : Ep4 31 = .slice (some ⟨(blkOf (Ep4 31)), 0, none⟩) 1 1 := Eq.mp (by kernel_rfl) f4_4
      replace f4_5 : Ep4 32 = .slice (adOf (Ep4 32)) z4_5.length (capOf (Ep4 32)) := Eq.mp (by kernel_rfl) f4_5
      replace f4_6 : Ep4 33 = .pointer (some ⟨b_c8_L2h, 6, none⟩) := Eq.mp (by kernel_rfl) f4_6
      replace f4_7 : Ep4 34 = .slice A_b_c8_L2h_6_L2h b_c8_L2h_6_L2h.length c_b_c8_L2h_6_L2h := Eq.mp (by kernel_rfl) f4_7
      replace f4_8 : Ep4 35 = .int .i64 r3_1.1 := Eq.mp (by kernel_rfl) f4_8
      replace f4_9 : Ep4 36 = .slice (some ⟨(blkOf (Ep4 36)), 0, none⟩) 1 1 := Eq.mp (by kernel_rfl) f4_9
      replace f4_10 : Ep4 37 = .slice (adOf (Ep4 37)) z4_10.length (capOf (Ep4 37)) := Eq.mp (by kernel_rfl) f4_10
      replace f4_11 : Ep4 38 = .pointer (some ⟨b_c8_L2h, 7, none⟩) := Eq.mp (by kernel_rfl) f4_11
      replace f4_12 : Ep4 39 = .slice A_b_c8_L2h_7_L2h b_c8_L2h_7_L2h.length c_b_c8_L2h_7_L2h := Eq.mp (by kernel_rfl) f4_12
      replace f4_13 : Ep4 40 = .int .i64 r3_1.1 := Eq.mp (by kernel_rfl) f4_13
      replace f4_14 : Ep4 41 = .pointer (some ⟨b_v3_0, 0, none⟩) := Eq.mp (by kernel_rfl) f4_14
      replace f4_15 : Ep4 42 = .int .i64 r4_15.1 := Eq.mp (by kernel_rfl) f4_15
      replace f4_16 : Ep4 43 = .int .i64 x43 := Eq.mp (by kernel_rfl) f4_16
      replace f4_17 : Ep4 44 = .slice (some ⟨(blkOf (Ep4 44)), 0, none⟩) 1 1 := Eq.mp (by kernel_rfl) f4_17
      replace f4_18 : Ep4 45 = .slice (adOf (Ep4 45)) z4_18.length (capOf (Ep4 45)) := Eq.mp (by kernel_rfl) f4_18
      replace f4_19 : Ep4 46 = .pointer (some ⟨b_c8_L2h, 5, none⟩) := Eq.mp (by kernel_rfl) f4_19
      replace f4_21 : Ep4 47 = .pointer (some ⟨b_c8_L2h, 6, none⟩) := Eq.mp (by kernel_rfl) f4_21
      replace f4_23 : Ep4 48 = .pointer (some ⟨b_c8_L2h, 7, none⟩) := Eq.mp (by kernel_rfl) f4_23
      replace hS : St w0 w' (cells b_v3 23 [.pointer (some ⟨b_v3_0, 0, none⟩)] :: ro ρ :: cells (blkOf (Ep4 31)) 3 [.int .i64 r4_3.1] :: bunA (fun (cs32 : List Value) => RepL (RpI .i64) ρ z4_5 cs32) (fun (cs32 : List Value) => [vec 3 (RpI .i64).sz (.slice (adOf (Ep4 32)) z4_5.length (capOf (Ep4 32))) z4_5.length cs32]) :: cells (blkOf (Ep4 36)) 3 [.int .i64 r3_1.1] :: bunA (fun (cs37 : List Value) => RepL (RpI .i64) ρ z4_10 cs37) (fun (cs37 : List Value) => [vec 3 (RpI .i64).sz (.slice (adOf (Ep4 37)) z4_10.length (capOf (Ep4 37))) z4_10.length cs37]) :: cells b_v3_0 25 [.slice A_v3_0_0 v3_0.L.length c_v3_0_0, .int .i64 r4_15.2] :: cells (blkOf (Ep4 44)) 3 [.int .i64 x43] :: bunA (fun (cs45 : List Value) => RepL (RpI .i64) ρ z4_18 cs45) (fun (cs45 : List Value) => [vec 3 (RpI .i64).sz (.slice (adOf (Ep4 45)) z4_18.length (capOf (Ep4 45))) z4_18.length cs45]) :: cells b_c8_L2h 46 [.string name0, .bool false, .int .i64 ins1, .int .u64 table2, .int .i64 x18, .slice (adOf (Ep4 32)) z4_5.length (capOf (Ep4 32)), .slice (adOf (Ep4 37)) z4_10.length (capOf (Ep4 37)), .slice (adOf (Ep4 45)) z4_18.length (capOf (Ep4 45)), .int .i64 r0_10.1, .int .i64 0, .int .i64 0] :: (cells b_v4 35 [.slice A_v4_0 v4_0.length c_v4_0] :: vec 46 R_api_Cell.sz (.slice A_v4_0 v4_0.length c_v4_0) v4_0.length cs_v4_0 :: l)) := Eq.mp (by kernel_rfl) hS
      obtain ⟨cs32, hr32, hS⟩ := St.unbun (hS.pull 3)
      obtain ⟨cs37, hr37, hS⟩ := St.unbun (hS.pull 5)
      obtain ⟨cs45, hr45, hS⟩ := St.unbun (hS.pull 8)
      obtain ⟨x49, hx49, hFL2⟩ := ar_s hFL2
      refine x_blk <| x_region <| p (yadd ((hE4 23 rfl).trans eL2h_23) rfl hx49) <| p (yl_move rfl) <|
        x_done <|
        ?_
      obtain rfl := Option.some.inj (show some _ = some _ from hFL2)
      exact x_inv ⟨kL2, Nat.lt_succ_self _, b_c8_L2h, (adOf (Ep4 32)), z4_5.length, (capOf (Ep4 32)), cs32, (adOf (Ep4 37)), z4_10.length, (capOf (Ep4 37)), cs37, (adOf (Ep4 45)), z4_18.length, (capOf (Ep4 45)), cs45, x49, z4_5, z4_10, z4_18, r4_15.2, hLL2, ((hE4 3 rfl).trans eL2h_3), ((hE4 4 rfl).trans eL2h_4), ((hE4 8 rfl).trans eL2h_8), ((hE4 22 rfl).trans eL2h_22), rfl, hr32, hr37, hr45, ((((((((((((hS.pull 5).drop.pull 5).drop.pull 6).drop.pull 4).pull 1).pull 2).pull 3).pull 8).pull 6).pull 7).pull 8).pull 8)⟩
    · replace hFL2 := it_f hc24 hFL2
      refine x_exitTo _ rfl <|
        ?_
      obtain rfl := Option.some.inj (show some _ = some _ from hFL2)
      exact x_inv ⟨b_c8_L2h, A_b_c8_L2h_5_L2h, b_c8_L2h_5_L2h.length, c_b_c8_L2h_5_L2h, cs_b_c8_L2h_5_L2h, A_b_c8_L2h_6_L2h, b_c8_L2h_6_L2h.length, c_b_c8_L2h_6_L2h, cs_b_c8_L2h_6_L2h, A_b_c8_L2h_7_L2h, b_c8_L2h_7_L2h.length, c_b_c8_L2h_7_L2h, cs_b_c8_L2h_7_L2h, b_c8_L2h_5_L2h, b_c8_L2h_6_L2h, b_c8_L2h_7_L2h, b_v3_0_1_L2h, hLL2, eL2h_4, eL2h_8, h_b_c8_L2h_5_L2h, h_b_c8_L2h_6_L2h, h_b_c8_L2h_7_L2h, (((((((((hS.pull 8).pull 8).pull 8).pull 8).pull 8).pull 5).pull 8).pull 8).pull 8)⟩
  rintro E w ⟨b_c8_L2, A_b_c8_L2_5_L2, n_b_c8_L2_5_L2, c_b_c8_L2_5_L2, cs_b_c8_L2_5_L2, A_b_c8_L2_6_L2, n_b_c8_L2_6_L2, c_b_c8_L2_6_L2, cs_b_c8_L2_6_L2, A_b_c8_L2_7_L2, n_b_c8_L2_7_L2, c_b_c8_L2_7_L2, cs_b_c8_L2_7_L2, b_c8_L2_5_L2, b_c8_L2_6_L2, b_c8_L2_7_L2, b_v3_0_1_L2, rfl, eL2_4, eL2_8, h_b_c8_L2_5_L2, h_b_c8_L2_6_L2, h_b_c8_L2_7_L2, hS⟩
  obtain rfl := St.vec_n (hS.pull 5) h_b_c8_L2_5_L2
  obtain rfl := St.vec_n (hS.pull 6) h_b_c8_L2_6_L2
  obtain rfl := St.vec_n (hS.pull 7) h_b_c8_L2_7_L2
  refine x_region <| pa (at_load one_35 eL2_4 (hS.cell rfl)) <| pa (v := .agg #[.string name0, .bool false, .int .i64 ins1, .int .u64 table2, .int .i64 x18, .slice A_b_c8_L2_5_L2 b_c8_L2_5_L2.length c_b_c8_L2_5_L2, .slice A_b_c8_L2_6_L2 b_c8_L2_6_L2.length c_b_c8_L2_6_L2, .slice A_b_c8_L2_7_L2 b_c8_L2_7_L2.length c_b_c8_L2_7_L2, .int .i64 r0_10.1, .int .i64 0, .int .i64 0]) (ld_sub agg_46 eL2_8 rfl rfl (hS.pull 1)) <|
    ?_
  obtain ⟨ρ6_2, hle6_2, fz6_2, hS⟩ := St.vec_fz ((hS.pull 8).pull 6) h_b_c8_L2_5_L2
  obtain ⟨ρ6_2a, hle6_2a, fz6_2a, hS⟩ := St.vec_fz (hS.pull 6) (h_b_c8_L2_6_L2.le hle6_2)
  obtain ⟨ρ6_2b, hle6_2b, fz6_2b, hS⟩ := St.vec_fz (hS.pull 6) (h_b_c8_L2_7_L2.le (hle6_2.trans hle6_2a))
  refine o_buildSlice (vs := [.agg #[.string name0, .bool false, .int .i64 ins1, .int .u64 table2, .int .i64 x18, .slice A_b_c8_L2_5_L2 b_c8_L2_5_L2.length c_b_c8_L2_5_L2, .slice A_b_c8_L2_6_L2 b_c8_L2_6_L2.length c_b_c8_L2_6_L2, .slice A_b_c8_L2_7_L2 b_c8_L2_7_L2.length c_b_c8_L2_7_L2, .int .i64 r0_10.1, .int .i64 0, .int .i64 0]]) (cs := [.string name0, .bool false, .int .i64 ins1, .int .u64 table2, .int .i64 x18, .slice A_b_c8_L2_5_L2 b_c8_L2_5_L2.length c_b_c8_L2_5_L2, .slice A_b_c8_L2_6_L2 b_c8_L2_6_L2.length c_b_c8_L2_6_L2, .slice A_b_c8_L2_7_L2 b_c8_L2_7_L2.length c_b_c8_L2_7_L2, .int .i64 r0_10.1, .int .i64 0, .int .i64 0]) sl_35 zero_46 (parts_eq (pt (va := .agg #[.string name0, .bool false, .int .i64 ins1, .int .u64 table2, .int .i64 x18, .slice A_b_c8_L2_5_L2 b_c8_L2_5_L2.length c_b_c8_L2_5_L2, .slice A_b_c8_L2_6_L2 b_c8_L2_6_L2.length c_b_c8_L2_6_L2, .slice A_b_c8_L2_7_L2 b_c8_L2_7_L2.length c_b_c8_L2_7_L2, .int .i64 r0_10.1, .int .i64 0, .int .i64 0]) rfl pt0)) rfl (by intro v hv; simp only [List.mem_cons, List.not_mem_nil, or_false] at hv; first | (subst hv; rfl) | (rcases hv with rfl <;> rfl)) (by decide) rfl hS (fun b52 w' hS => ?_)
  obtain ⟨z6_3, hz6_3, hF⟩ := lv_s hF
  obtain ⟨hk6_3, hF⟩ := ck_s hF
  refine o_ap sl_35 zero_46 rfl (by decide) rfl rfl (hS.pull 6) (h_v4_0.le ((hle6_2.trans hle6_2a).trans hle6_2b)) (src_blk usl_35 hS rfl rfl) (RepL.cons (R := R_api_Cell) (ρ := ρ6_2b) (x := (T_api_Cell.mk name0 false ins1 table2 x18 b_c8_L2_5_L2 b_c8_L2_6_L2 b_c8_L2_7_L2 r0_10.1 0 0)) (cs := [.string name0, .bool false, .int .i64 ins1, .int .u64 table2, .int .i64 x18, .slice A_b_c8_L2_5_L2 b_c8_L2_5_L2.length c_b_c8_L2_5_L2, .slice A_b_c8_L2_6_L2 b_c8_L2_6_L2.length c_b_c8_L2_6_L2, .slice A_b_c8_L2_7_L2 b_c8_L2_7_L2.length c_b_c8_L2_7_L2, .int .i64 r0_10.1, .int .i64 0, .int .i64 0]) ⟨_, _, _, _, _, _, _, _, _, rfl, (fz6_2.le (hle6_2a.trans hle6_2b)), (fz6_2a.le hle6_2b), fz6_2b⟩ RepL.nil) hz6_3 hk6_3 (fun A53 c53 cs53 w' hr53 hS => ?_)
  refine o_store1 (v := .slice A53 z6_3.length c53) one_35 eL2_4 rfl rfl rfl (hS.pull 3) (fun w' hS => ?_)
  refine x_done <|
    ?_
  obtain rfl := Option.some.inj (show some _ = some _ from hF)
  exact x_fin ⟨_, rfl, ρ6_2b, A53, z6_3.length, c53, cs53, rfl, ((hle6_2.trans hle6_2a).trans hle6_2b), hr53, (((((((hS.pull 2).drop.pull 3).drop.pull 2).pull 2).pull 2).pull 4).pull 4)⟩
attribute [irreducible] P_maskmake_Stream_LayLib_1_2

def P_maskmake_Stream_LayLib_L15 (s0 : T_maskmake_Stream) (x53 : Int) : (Int × List Int × List Int × List Int × Int) → Option ((Int × List Int × List Int × List Int × Int) ⊕ (List Int × List Int × List Int × Int)) := fun (y54_L15h, b_c8_L15h_5_L15h, b_c8_L15h_6_L15h, b_c8_L15h_7_L15h, b_s0_1_L15h) =>
  if y54_L15h < x53 then
    bd (P_maskmake_Stream_Range (T_maskmake_Stream.mk s0.L b_s0_1_L15h) 2 5) fun r16_3 =>
    lv (b_c8_L15h_5_L15h ++ [r16_3.1]) fun z16_5 =>
    ck (apOk 8 z16_5.length) <|
    ar (y54_L15h + 1) fun x63 =>
    some (Sum.inl (x63, z16_5, b_c8_L15h_6_L15h, b_c8_L15h_7_L15h, r16_3.2))
  else
    some (Sum.inr (b_c8_L15h_5_L15h, b_c8_L15h_6_L15h, b_c8_L15h_7_L15h, b_s0_1_L15h))
def P_maskmake_Stream_LayLib_L10 (s0 : T_maskmake_Stream) : (List ByteArray × Int × List T_api_Cell × Int) → Option ((List ByteArray × Int × List T_api_Cell × Int) ⊕ (List T_api_Cell × Int)) := fun (y22_L10h, y24_L10h, b3_0_L10h, b_s0_1_L10h) =>
  if y24_L10h < 2 then
    ck (inb y24_L10h y22_L10h.length) <|
    lv (gt y22_L10h y24_L10h) fun x28 =>
    bd (P_maskmake_Stream_Range (T_maskmake_Stream.mk s0.L b_s0_1_L10h) 1 6) fun r12_1 =>
    ar ((1 : Int) + y24_L10h) fun x33 =>
    bd (P_maskmake_Stream_Next (T_maskmake_Stream.mk s0.L r12_1.2) 2) fun r13_4 =>
    ar ((1 : Int) + r13_4.1) fun x36 =>
    bd (P_maskmake_Stream_Next (T_maskmake_Stream.mk s0.L r13_4.2) 5) fun r13_10 =>
    ar (r12_1.1 + r13_10.1) fun x42 =>
    bd (P_maskmake_Stream_Next (T_maskmake_Stream.mk s0.L r13_10.2) 3) fun r13_14 =>
    bd (P_maskmake_Stream_Next (T_maskmake_Stream.mk s0.L r13_14.2) 4) fun r13_16 =>
    bd (P_maskmake_Stream_Next (T_maskmake_Stream.mk s0.L r13_16.2) 4) fun r13_18 =>
    ar (x33 + 1) fun x53 =>
    bd (
      lp (P_maskmake_Stream_LayLib_L15 s0 x53) fuel (0, [], ([r12_1.1] : List Int), ([x42] : List Int), r13_18.2)) fun (b_c8_L15_5_L15, b_c8_L15_6_L15, b_c8_L15_7_L15, b_s0_1_L15) =>
    lv (b3_0_L10h ++ [(T_api_Cell.mk x28 true x33 0 x36 b_c8_L15_5_L15 b_c8_L15_6_L15 b_c8_L15_7_L15 r13_14.1 r13_16.1 r13_18.1)]) fun z18_3 =>
    ck (apOk 144 z18_3.length) <|
    ar (y24_L10h + 1) fun x68 =>
    some (Sum.inl (y22_L10h, x68, z18_3, b_s0_1_L15))
  else
    some (Sum.inr (b3_0_L10h, b_s0_1_L10h))
def P_maskmake_Stream_LayLib (s0 : T_maskmake_Stream) : Option (List T_api_Cell × Int) :=
  bd (P_maskmake_Stream_LayLib_1_2 (⟨#[98, 117, 102]⟩ : ByteArray) 1 2 s0 []) fun r3_1 =>
  bd (P_maskmake_Stream_LayLib_1_2 (⟨#[105, 110, 118]⟩ : ByteArray) 1 1 (T_maskmake_Stream.mk s0.L r3_1.1) r3_1.2) fun r4_1 =>
  bd (P_maskmake_Stream_LayLib_1_2 (⟨#[110, 97, 110, 100]⟩ : ByteArray) 2 7 (T_maskmake_Stream.mk s0.L r4_1.1) r4_1.2) fun r5_1 =>
  bd (P_maskmake_Stream_LayLib_1_2 (⟨#[111, 114]⟩ : ByteArray) 2 14 (T_maskmake_Stream.mk s0.L r5_1.1) r5_1.2) fun r6_1 =>
  bd (P_maskmake_Stream_LayLib_1_2 (⟨#[120, 111, 114]⟩ : ByteArray) 2 6 (T_maskmake_Stream.mk s0.L r6_1.1) r6_1.2) fun r7_1 =>
  bd (P_maskmake_Stream_LayLib_1_2 (⟨#[109, 117, 120]⟩ : ByteArray) 3 202 (T_maskmake_Stream.mk s0.L r7_1.1) r7_1.2) fun r8_1 =>
  bd (
    lp (P_maskmake_Stream_LayLib_L10 s0) fuel (([(⟨#[100, 102, 102]⟩ : ByteArray), (⟨#[100, 102, 102, 101]⟩ : ByteArray)] : List ByteArray), 0, r8_1.2, r8_1.1)) fun (b3_0_L10, b_s0_1_L10) =>
  some (b3_0_L10, b_s0_1_L10)
set_option maxHeartbeats 4000000 in
set_option maxRecDepth 100000 in
theorem c_maskmake_Stream_LayLib {w0 w : World} {l : List Assn} {ρ : Heap} {b_s0 : Nat} {A_s0_0 : Option Addr} {n_s0_0 : Nat} {c_s0_0 : Nat} {s0 : T_maskmake_Stream} {r : (List T_api_Cell × Int)} (hF : P_maskmake_Stream_LayLib s0 = some r) (h_s0_0 : RdS (RpI .i64) ρ A_s0_0 n_s0_0 c_s0_0 s0.L) (hS : St w0 w (cells b_s0 25 [.slice A_s0_0 n_s0_0 c_s0_0, .int .i64 s0.fat] :: ro ρ :: l)) :
    Calls Try.prog 18 #[.pointer (some ⟨b_s0, 0, none⟩)] w fun e w' => ∃ (ρ' : Heap) (A_y0_ret : Option Addr) (n_y0_ret : Nat) (c_y0_ret : Nat) (cs_y0_ret : List Value), e = .returned (.slice A_y0_ret n_y0_ret c_y0_ret) ∧ Le ρ ρ' ∧ RepL R_api_Cell ρ' r.1 cs_y0_ret ∧ St w0 w' (vec 46 R_api_Cell.sz (.slice A_y0_ret n_y0_ret c_y0_ret) n_y0_ret cs_y0_ret :: cells b_s0 25 [.slice A_s0_0 n_s0_0 c_s0_0, .int .i64 r.2] :: ro ρ' :: l) := by
  obtain rfl := h_s0_0.n
  refine enterC Try.func18 rfl 70 rfl (by simp) ?_
  refine x_seq <| x_region <|
    ?_
  refine o_box (cs := [.pointer (some ⟨b_s0, 0, none⟩)]) rfl rfl hS (fun b1 w' hS => ?_)
  refine p (yl_assign rfl) <| x_done <| x_seq <| x_region <|
    ?_
  refine o_alloc zero_35 hS (fun b3 w' hS => ?_)
  obtain ⟨r3_1, hc3_1, hF⟩ := bd_s hF
  refine x_done <| x_seq <| x_region <| p (v := .func (.func 74) #[] #[.pointer (some ⟨b1, 0, none⟩), .pointer (some ⟨b3, 0, none⟩)]) (yl_makeFunc (by simp only [List.map_toArray, List.map_nil]) (by simp only [List.map_toArray, List.map_cons, List.map_nil]; rfl)) <|
    p (v := .func (.func 74) #[] #[.pointer (some ⟨b1, 0, none⟩), .pointer (some ⟨b3, 0, none⟩)]) (yl_assign rfl) <| x_done <| x_seq <| x_region <|
    p (v := .func (.func 74) #[] #[.pointer (some ⟨b1, 0, none⟩), .pointer (some ⟨b3, 0, none⟩)]) (yl_move rfl) <|
    ?_
  replace hS := St.vec_nil hS 46 R_api_Cell.sz
  have hnl3_1 : RepL R_api_Cell ρ [] [] := rfl
  have hcall := c_maskmake_Stream_LayLib_1_2 hc3_1 h_s0_0 hnl3_1 (((((hS.pull 4).pull 1).pull 2).pull 4).pull 4)
  refine o_ccv rfl call_74 (capargs (args3 rfl rfl rfl)) hcall ?_
  rintro e w' ⟨ρ'_3_1, A_b_v4_0_ret_3_1, n_b_v4_0_ret_3_1, c_b_v4_0_ret_3_1, cs_b_v4_0_ret_3_1, rfl, hle3_1, h_b_v4_0_ret_3_1, hS⟩
  refine ⟨_, rfl, ?_⟩
  obtain rfl := St.vec_n (hS.pull 3) h_b_v4_0_ret_3_1
  obtain ⟨r4_1, hc4_1, hF⟩ := bd_s hF
  refine x_done <| x_seq <| x_region <| p (v := .func (.func 74) #[] #[.pointer (some ⟨b1, 0, none⟩), .pointer (some ⟨b3, 0, none⟩)]) (yl_move rfl) <|
    ?_
  have hcall := c_maskmake_Stream_LayLib_1_2 hc4_1 (h_s0_0.le hle3_1) h_b_v4_0_ret_3_1 (((((hS.pull 4).pull 4).pull 4).pull 3).pull 4)
  refine o_ccv rfl call_74 (capargs (args3 rfl rfl rfl)) hcall ?_
  rintro e w' ⟨ρ'_4_1, A_b_v4_0_ret_4_1, n_b_v4_0_ret_4_1, c_b_v4_0_ret_4_1, cs_b_v4_0_ret_4_1, rfl, hle4_1, h_b_v4_0_ret_4_1, hS⟩
  refine ⟨_, rfl, ?_⟩
  obtain rfl := St.vec_n (hS.pull 3) h_b_v4_0_ret_4_1
  obtain ⟨r5_1, hc5_1, hF⟩ := bd_s hF
  refine x_done <| x_seq <| x_region <| p (v := .func (.func 74) #[] #[.pointer (some ⟨b1, 0, none⟩), .pointer (some ⟨b3, 0, none⟩)]) (yl_move rfl) <|
    ?_
  have hcall := c_maskmake_Stream_LayLib_1_2 hc5_1 (h_s0_0.le (hle3_1.trans hle4_1)) h_b_v4_0_ret_4_1 (((((hS.pull 4).pull 4).pull 4).pull 3).pull 4)
  refine o_ccv rfl call_74 (capargs (args3 rfl rfl rfl)) hcall ?_
  rintro e w' ⟨ρ'_5_1, A_b_v4_0_ret_5_1, n_b_v4_0_ret_5_1, c_b_v4_0_ret_5_1, cs_b_v4_0_ret_5_1, rfl, hle5_1, h_b_v4_0_ret_5_1, hS⟩
  refine ⟨_, rfl, ?_⟩
  obtain rfl := St.vec_n (hS.pull 3) h_b_v4_0_ret_5_1
  obtain ⟨r6_1, hc6_1, hF⟩ := bd_s hF
  refine x_done <| x_seq <| x_region <| p (v := .func (.func 74) #[] #[.pointer (some ⟨b1, 0, none⟩), .pointer (some ⟨b3, 0, none⟩)]) (yl_move rfl) <|
    ?_
  have hcall := c_maskmake_Stream_LayLib_1_2 hc6_1 (h_s0_0.le ((hle3_1.trans hle4_1).trans hle5_1)) h_b_v4_0_ret_5_1 (((((hS.pull 4).pull 4).pull 4).pull 3).pull 4)
  refine o_ccv rfl call_74 (capargs (args3 rfl rfl rfl)) hcall ?_
  rintro e w' ⟨ρ'_6_1, A_b_v4_0_ret_6_1, n_b_v4_0_ret_6_1, c_b_v4_0_ret_6_1, cs_b_v4_0_ret_6_1, rfl, hle6_1, h_b_v4_0_ret_6_1, hS⟩
  refine ⟨_, rfl, ?_⟩
  obtain rfl := St.vec_n (hS.pull 3) h_b_v4_0_ret_6_1
  obtain ⟨r7_1, hc7_1, hF⟩ := bd_s hF
  refine x_done <| x_seq <| x_region <| p (v := .func (.func 74) #[] #[.pointer (some ⟨b1, 0, none⟩), .pointer (some ⟨b3, 0, none⟩)]) (yl_move rfl) <|
    ?_
  have hcall := c_maskmake_Stream_LayLib_1_2 hc7_1 (h_s0_0.le (((hle3_1.trans hle4_1).trans hle5_1).trans hle6_1)) h_b_v4_0_ret_6_1 (((((hS.pull 4).pull 4).pull 4).pull 3).pull 4)
  refine o_ccv rfl call_74 (capargs (args3 rfl rfl rfl)) hcall ?_
  rintro e w' ⟨ρ'_7_1, A_b_v4_0_ret_7_1, n_b_v4_0_ret_7_1, c_b_v4_0_ret_7_1, cs_b_v4_0_ret_7_1, rfl, hle7_1, h_b_v4_0_ret_7_1, hS⟩
  refine ⟨_, rfl, ?_⟩
  obtain rfl := St.vec_n (hS.pull 3) h_b_v4_0_ret_7_1
  obtain ⟨r8_1, hc8_1, hF⟩ := bd_s hF
  refine x_done <| x_seq <| x_region <| p (v := .func (.func 74) #[] #[.pointer (some ⟨b1, 0, none⟩), .pointer (some ⟨b3, 0, none⟩)]) (yl_move rfl) <|
    ?_
  have hcall := c_maskmake_Stream_LayLib_1_2 hc8_1 (h_s0_0.le ((((hle3_1.trans hle4_1).trans hle5_1).trans hle6_1).trans hle7_1)) h_b_v4_0_ret_7_1 (((((hS.pull 4).pull 4).pull 4).pull 3).pull 4)
  refine o_ccv rfl call_74 (capargs (args3 rfl rfl rfl)) hcall ?_
  rintro e w' ⟨ρ'_8_1, A_b_v4_0_ret_8_1, n_b_v4_0_ret_8_1, c_b_v4_0_ret_8_1, cs_b_v4_0_ret_8_1, rfl, hle8_1, h_b_v4_0_ret_8_1, hS⟩
  refine ⟨_, rfl, ?_⟩
  obtain rfl := St.vec_n (hS.pull 3) h_b_v4_0_ret_8_1
  refine x_done <| x_seq <| x_seq <| x_region <|
    ?_
  refine o_buildSlice (vs := [.string (⟨#[100, 102, 102]⟩ : ByteArray), .string (⟨#[100, 102, 102, 101]⟩ : ByteArray)]) (cs := [.string (⟨#[100, 102, 102]⟩ : ByteArray), .string (⟨#[100, 102, 102, 101]⟩ : ByteArray)]) sl_146 zero_9 (parts_eq (pt (va := .string (⟨#[100, 102, 102]⟩ : ByteArray)) rfl (pt (va := .string (⟨#[100, 102, 102, 101]⟩ : ByteArray)) rfl pt0))) rfl (by intro v hv; simp only [List.mem_cons, List.not_mem_nil, or_false] at hv; first | (subst hv; rfl) | (rcases hv with rfl | rfl <;> rfl)) (by decide) rfl hS (fun b22 w' hS => ?_)
  refine p (yl_len_slice usl_146 rfl) <| p (yl_move rfl) <| x_done <|
    ?_
  obtain ⟨oL10, hLL10, hF⟩ := bd_s hF
  refine x_join (fun E w => ∃ (ρ_L10 : Heap) (A_b3_0_L10 : Option Addr) (n_b3_0_L10 : Nat) (c_b3_0_L10 : Nat) (cs_b3_0_L10 : List Value) (b3_0_L10 : List T_api_Cell) (b_s0_1_L10 : Int), (b3_0_L10, b_s0_1_L10) = oL10 ∧ Le ρ'_8_1 ρ_L10 ∧ E 3 = .pointer (some ⟨b3, 0, none⟩) ∧ RepL R_api_Cell ρ_L10 b3_0_L10 cs_b3_0_L10 ∧ St w0 w (cells b3 35 [.slice A_b3_0_L10 n_b3_0_L10 c_b3_0_L10] :: cells b_s0 25 [.slice A_s0_0 s0.L.length c_s0_0, .int .i64 b_s0_1_L10] :: vec 46 R_api_Cell.sz (.slice A_b3_0_L10 n_b3_0_L10 c_b3_0_L10) n_b3_0_L10 cs_b3_0_L10 :: ro ρ_L10 :: l)) ?_ ?_
  · skip -- L10
    refine x_block ?_
    have hl_L10h_6 : RepL RpS ρ'_8_1 ([(⟨#[100, 102, 102]⟩ : ByteArray), (⟨#[100, 102, 102, 101]⟩ : ByteArray)] : List ByteArray) [.string (⟨#[100, 102, 102]⟩ : ByteArray), .string (⟨#[100, 102, 102, 101]⟩ : ByteArray)] := (RepL.cons (cs := [.string (⟨#[100, 102, 102]⟩ : ByteArray)]) rfl (RepL.cons (cs := [.string (⟨#[100, 102, 102, 101]⟩ : ByteArray)]) rfl RepL.nil))
    replace hS := St.vec_of (n := 2) (sz := RpS.sz) hS rfl (by decide)
    refine x_loop (fun k_ E w => ∃ (ρ_L10h : Heap) (A_y22_L10h : Option Addr) (n_y22_L10h : Nat) (c_y22_L10h : Nat) (cs_y22_L10h : List Value) (A_b3_0_L10h : Option Addr) (n_b3_0_L10h : Nat) (c_b3_0_L10h : Nat) (cs_b3_0_L10h : List Value) (y22_L10h : List ByteArray) (y24_L10h : Int) (b3_0_L10h : List T_api_Cell) (b_s0_1_L10h : Int), lp (P_maskmake_Stream_LayLib_L10 s0) k_ (y22_L10h, y24_L10h, b3_0_L10h, b_s0_1_L10h) = some oL10 ∧ Le ρ'_8_1 ρ_L10h ∧ E 1 = .pointer (some ⟨b1, 0, none⟩) ∧ E 3 = .pointer (some ⟨b3, 0, none⟩) ∧ E 22 = .slice A_y22_L10h n_y22_L10h c_y22_L10h ∧ E 23 = .int .i64 2 ∧ E 24 = .int .i64 y24_L10h ∧ RepL RpS ρ_L10h y22_L10h cs_y22_L10h ∧ RepL R_api_Cell ρ_L10h b3_0_L10h cs_b3_0_L10h ∧ St w0 w (cells b1 23 [.pointer (some ⟨b_s0, 0, none⟩)] :: cells b3 35 [.slice A_b3_0_L10h n_b3_0_L10h c_b3_0_L10h] :: vec 9 RpS.sz (.slice A_y22_L10h n_y22_L10h c_y22_L10h) n_y22_L10h cs_y22_L10h :: cells b_s0 25 [.slice A_s0_0 s0.L.length c_s0_0, .int .i64 b_s0_1_L10h] :: vec 46 R_api_Cell.sz (.slice A_b3_0_L10h n_b3_0_L10h c_b3_0_L10h) n_b3_0_L10h cs_b3_0_L10h :: ro ρ_L10h :: l)) fuel ⟨ρ'_8_1, (some ⟨b22, 0, none⟩), 2, 2, [.string (⟨#[100, 102, 102]⟩ : ByteArray), .string (⟨#[100, 102, 102, 101]⟩ : ByteArray)], A_b_v4_0_ret_8_1, r8_1.2.length, c_b_v4_0_ret_8_1, cs_b_v4_0_ret_8_1, ([(⟨#[100, 102, 102]⟩ : ByteArray), (⟨#[100, 102, 102, 101]⟩ : ByteArray)] : List ByteArray), 0, r8_1.2, r8_1.1, hLL10, (Le.refl _), rfl, rfl, rfl, rfl, rfl, hl_L10h_6, h_b_v4_0_ret_8_1, ((((((hS.pull 5).pull 5).pull 3).pull 3).pull 5).pull 5)⟩ ?_
    rintro kL10 E w ⟨ρ_L10h, A_y22_L10h, n_y22_L10h, c_y22_L10h, cs_y22_L10h, A_b3_0_L10h, n_b3_0_L10h, c_b3_0_L10h, cs_b3_0_L10h, y22_L10h, y24_L10h, b3_0_L10h, b_s0_1_L10h, hLL10, hleρ_L10h, eL10h_1, eL10h_3, eL10h_22, eL10h_23, eL10h_24, h_y22_L10h, h_b3_0_L10h, hS⟩
    obtain rfl := St.vec_n (hS.pull 2) h_y22_L10h
    obtain rfl := St.vec_n (hS.pull 4) h_b3_0_L10h
    obtain ⟨kL10, obL10, rfl, hFL10, hLL10⟩ := lp_s hLL10
    refine x_seq <| x_region <| p (yl_lss eL10h_24 eL10h_23) <| x_done <|
      x_seq <|
      x_cond_p (y24_L10h < 2) rfl (fun hc25 => ?_) (fun hc25 => ?_)
    · replace hFL10 := it_t hc25 hFL10
      obtain ⟨hk11_1, hFL10⟩ := ck_s hFL10
      obtain ⟨x28, hx28, hFL10⟩ := lv_s hFL10
      obtain ⟨r12_1, hc12_1, hFL10⟩ := bd_s hFL10
      refine x_skip <| x_seq <| x_block <| x_seq <|
        x_region <| p (yl_move eL10h_24) <| p (yix_o sl_146 eL10h_22 eL10h_24 (hS.pull 2) h_y22_L10h hk11_1) <| pa (at_load one_9 rfl (RepL.getW h_y22_L10h (hS.pull 2) hk11_1 hx28)) <|
        p (yl_assign rfl) <| p (yl_assign rfl) <| x_done <| x_seq <|
        x_region <| pa (at_load one_23 eL10h_1 (hS.cell rfl)) <|
        ?_
      have hcall := c_maskmake_Stream_Range hc12_1 (h_s0_0.le ((((((hle3_1.trans hle4_1).trans hle5_1).trans hle6_1).trans hle7_1).trans hle8_1).trans hleρ_L10h)) ((hS.pull 5).pull 4)
      refine o_cc call_14 (args3 rfl rfl rfl) hcall ?_
      rintro e w' ⟨rfl, hS⟩
      refine ⟨_, rfl, ?_⟩
      refine p (yl_assign rfl) <| x_done <| x_seq <|
        ?_
      obtain ⟨x33, hx33, hFL10⟩ := ar_s hFL10
      obtain ⟨r13_4, hc13_4, hFL10⟩ := bd_s hFL10
      obtain ⟨x36, hx36, hFL10⟩ := ar_s hFL10
      obtain ⟨r13_10, hc13_10, hFL10⟩ := bd_s hFL10
      obtain ⟨x42, hx42, hFL10⟩ := ar_s hFL10
      obtain ⟨r13_14, hc13_14, hFL10⟩ := bd_s hFL10
      obtain ⟨r13_16, hc13_16, hFL10⟩ := bd_s hFL10
      obtain ⟨r13_18, hc13_18, hFL10⟩ := bd_s hFL10
      refine x_par (w0 := w0) [⟨[], [], [31], [], [], []⟩, ⟨[], [], [32], [], [], []⟩, ⟨[1], [1], [33], [], [], []⟩, ⟨[], [], [34], [0], [], []⟩, ⟨[3], [3], [35], [2], [1], [3]⟩, ⟨[3, 4], [4], [36], [], [], []⟩, ⟨[], [], [37], [], [], []⟩, ⟨[6], [6], [38], [], [], [4]⟩, ⟨[], [], [39], [], [], []⟩, ⟨[], [], [40], [0], [], []⟩, ⟨[3, 4, 9], [9], [41], [2], [3], [5]⟩, ⟨[3, 4, 8, 9, 10], [8, 10], [42], [], [], []⟩, ⟨[3, 4, 8, 9, 10, 11], [11], [43], [], [], [6]⟩, ⟨[], [], [44], [0], [], []⟩, ⟨[3, 4, 9, 10, 13], [13], [45], [2], [5], [7]⟩, ⟨[], [], [46], [0], [], []⟩, ⟨[3, 4, 9, 10, 13, 14, 15], [15], [47], [2], [7], [8]⟩, ⟨[], [], [48], [0], [], []⟩, ⟨[3, 4, 9, 10, 13, 14, 15, 16, 17], [17], [49], [2], [8], [9]⟩, ⟨[0, 1, 2, 3, 4, 5, 6, 7, 8, 9, 10, 11, 12, 13, 14, 15, 16, 17, 18], [0, 2, 5, 7, 12, 14, 16, 18], [38, 43, 50], [], [], []⟩, ⟨[], [], [8], [], [], [10]⟩, ⟨[0, 1, 2, 3, 4, 5, 6, 7, 8, 9, 10, 11, 12, 13, 14, 15, 16, 17, 18, 19, 20], [7, 12, 19, 20], [], [], [10], [11]⟩] [⟨none, none, []⟩, ⟨none, (some 4), []⟩, ⟨none, none, []⟩, ⟨(some 4), (some 10), []⟩, ⟨(some 7), none, [38]⟩, ⟨(some 10), (some 14), []⟩, ⟨(some 12), none, [43]⟩, ⟨(some 14), (some 16), []⟩, ⟨(some 16), (some 18), []⟩, ⟨(some 18), none, []⟩, ⟨(some 20), (some 21), [8]⟩, ⟨(some 21), none, [8, 38, 43]⟩] [8, 31, 32, 33, 34, 35, 36, 37, 38, 39, 40, 41, 42, 43, 44, 45, 46, 47, 48, 49, 50] [0, 1, 2] [0, 2, 4, 6, 9, 11] [0, 1, 2, 3, 4, 5, 6, 7, 8, 9, 10, 11, 12, 13, 14, 15, 16, 17, 18, 19, 20] [fun Ep13 => Ep13 31 = .string x28, fun Ep13 => Ep13 32 = .int .i64 y24_L10h, fun Ep13 => Ep13 33 = .int .i64 x33, fun Ep13 => Ep13 34 = .pointer (some ⟨b_s0, 0, none⟩), fun Ep13 => Ep13 35 = .int .i64 r13_4.1, fun Ep13 => Ep13 36 = .int .i64 x36, fun Ep13 => Ep13 37 = .int .i64 r12_1.1, fun Ep13 => Ep13 38 = .slice (some ⟨(blkOf (Ep13 38)), 0, none⟩) 1 1, fun Ep13 => Ep13 39 = .int .i64 r12_1.1, fun Ep13 => Ep13 40 = .pointer (some ⟨b_s0, 0, none⟩), fun Ep13 => Ep13 41 = .int .i64 r13_10.1, fun Ep13 => Ep13 42 = .int .i64 x42, fun Ep13 => Ep13 43 = .slice (some ⟨(blkOf (Ep13 43)), 0, none⟩) 1 1, fun Ep13 => Ep13 44 = .pointer (some ⟨b_s0, 0, none⟩), fun Ep13 => Ep13 45 = .int .i64 r13_14.1, fun Ep13 => Ep13 46 = .pointer (some ⟨b_s0, 0, none⟩), fun Ep13 => Ep13 47 = .int .i64 r13_16.1, fun Ep13 => Ep13 48 = .pointer (some ⟨b_s0, 0, none⟩), fun Ep13 => Ep13 49 = .int .i64 r13_18.1, fun Ep13 => Ep13 50 = .agg #[.string x28, .bool true, .int .i64 x33, .int .u64 0, .int .i64 x36, .slice none 0 0, .slice (some ⟨(blkOf (Ep13 38)), 0, none⟩) 1 1, .slice (some ⟨(blkOf (Ep13 43)), 0, none⟩) 1 1, .int .i64 r13_14.1, .int .i64 r13_16.1, .int .i64 r13_18.1], fun Ep13 => Ep13 8 = .pointer (some ⟨(blkOf (Ep13 8)), 0, none⟩), fun Ep13 => True] [fun Ep13 => cells b1 23 [.pointer (some ⟨b_s0, 0, none⟩)], fun Ep13 => cells b_s0 25 [.slice A_s0_0 s0.L.length c_s0_0, .int .i64 r12_1.2], fun Ep13 => ro ρ_L10h, fun Ep13 => cells b_s0 25 [.slice A_s0_0 s0.L.length c_s0_0, .int .i64 r13_4.2], fun Ep13 => cells (blkOf (Ep13 38)) 3 [.int .i64 r12_1.1], fun Ep13 => cells b_s0 25 [.slice A_s0_0 s0.L.length c_s0_0, .int .i64 r13_10.2], fun Ep13 => cells (blkOf (Ep13 43)) 3 [.int .i64 x42], fun Ep13 => cells b_s0 25 [.slice A_s0_0 s0.L.length c_s0_0, .int .i64 r13_14.2], fun Ep13 => cells b_s0 25 [.slice A_s0_0 s0.L.length c_s0_0, .int .i64 r13_16.2], fun Ep13 => cells b_s0 25 [.slice A_s0_0 s0.L.length c_s0_0, .int .i64 r13_18.2], fun Ep13 => cells (blkOf (Ep13 8)) 46 [.string (⟨#[]⟩ : ByteArray), .bool false, .int .i64 0, .int .u64 0, .int .i64 0, .slice none 0 0, .slice none 0 0, .slice none 0 0, .int .i64 0, .int .i64 0, .int .i64 0], fun Ep13 => cells (blkOf (Ep13 8)) 46 [.string x28, .bool true, .int .i64 x33, .int .u64 0, .int .i64 x36, .slice none 0 0, .slice (some ⟨(blkOf (Ep13 38)), 0, none⟩) 1 1, .slice (some ⟨(blkOf (Ep13 43)), 0, none⟩) 1 1, .int .i64 r13_14.1, .int .i64 r13_16.1, .int .i64 r13_18.1]] mixed (by kernel_rfl) (((hS.pull 1).pull 1).pull 2) ?_ ?_
      · refine ⟨?_, ?_, ?_, ?_, ?_, ?_, ?_, ?_, ?_, ?_, ?_, ?_, ?_, ?_, ?_, ?_, ?_, ?_, ?_, ?_, ?_, ?_, trivial⟩
        · intro Ep13 w l' hE13 hO13 hF_ hS
          refine p (yl_move (hE13 6 rfl)) <| x_done <|
            ?_
          refine x_fin ⟨⟨_, rfl⟩, rfl, ?_⟩
          exact Eq.mp (by kernel_rfl) hS
        · intro Ep13 w l' hE13 hO13 hF_ hS
          refine p (yl_move (hE13 5 rfl)) <| x_done <|
            ?_
          refine x_fin ⟨⟨_, rfl⟩, rfl, ?_⟩
          exact Eq.mp (by kernel_rfl) hS
        · intro Ep13 w l' hE13 hO13 hF_ hS
          obtain ⟨f13_1, -⟩ := hF_
          replace f13_1 : Ep13 32 = .int .i64 y24_L10h := Eq.mp (by kernel_rfl) f13_1
          refine p (yadd rfl f13_1 hx33) <| x_done <|
            ?_
          refine x_fin ⟨⟨_, rfl⟩, rfl, ?_⟩
          exact Eq.mp (by kernel_rfl) hS
        · intro Ep13 w l' hE13 hO13 hF_ hS
          replace hS : St w0 w (cells b1 23 [.pointer (some ⟨b_s0, 0, none⟩)] :: l') := Eq.mp (by kernel_rfl) hS
          refine pa (at_load one_23 ((hE13 1 rfl).trans eL10h_1) (hS.cell rfl)) <| x_done <|
            ?_
          refine x_fin ⟨⟨_, rfl⟩, rfl, ?_⟩
          exact Eq.mp (by kernel_rfl) hS
        · intro Ep13 w l' hE13 hO13 hF_ hS
          obtain ⟨f13_3, -⟩ := hF_
          replace f13_3 : Ep13 34 = .pointer (some ⟨b_s0, 0, none⟩) := Eq.mp (by kernel_rfl) f13_3
          replace hS : St w0 w (ro ρ_L10h :: cells b_s0 25 [.slice A_s0_0 s0.L.length c_s0_0, .int .i64 r12_1.2] :: l') := Eq.mp (by kernel_rfl) hS
          have hcall := c_maskmake_Stream_Next hc13_4 (h_s0_0.le ((((((hle3_1.trans hle4_1).trans hle5_1).trans hle6_1).trans hle7_1).trans hle8_1).trans hleρ_L10h)) (hS.pull 1)
          refine o_cc call_15 (args2 f13_3 rfl) hcall ?_
          rintro e w' ⟨rfl, hS⟩
          refine ⟨_, rfl, ?_⟩
          refine x_done <|
            ?_
          refine x_fin ⟨⟨_, rfl⟩, rfl, ?_⟩
          exact Eq.mp (by kernel_rfl) (hS.pull 1)
        · intro Ep13 w l' hE13 hO13 hF_ hS
          obtain ⟨f13_4, -⟩ := hF_
          replace f13_4 : Ep13 35 = .int .i64 r13_4.1 := Eq.mp (by kernel_rfl) f13_4
          refine p (yadd rfl f13_4 hx36) <| x_done <|
            ?_
          refine x_fin ⟨⟨_, rfl⟩, rfl, ?_⟩
          exact Eq.mp (by kernel_rfl) hS
        · intro Ep13 w l' hE13 hO13 hF_ hS
          refine p (yl_move (hE13 7 rfl)) <| x_done <|
            ?_
          refine x_fin ⟨⟨_, rfl⟩, rfl, ?_⟩
          exact Eq.mp (by kernel_rfl) hS
        · intro Ep13 w l' hE13 hO13 hF_ hS
          obtain ⟨f13_6, -⟩ := hF_
          replace f13_6 : Ep13 37 = .int .i64 r12_1.1 := Eq.mp (by kernel_rfl) f13_6
          refine o_buildSlice (vs := [.int .i64 r12_1.1]) (cs := [.int .i64 r12_1.1]) sl_22 zero_3 (parts_eq (pt (va := .int .i64 r12_1.1) f13_6 pt0)) rfl (by intro v hv; simp only [List.mem_cons, List.not_mem_nil, or_false] at hv; first | (subst hv; rfl) | (rcases hv with rfl <;> rfl)) (by decide) rfl hS (fun b38 w' hS => ?_)
          refine x_done <|
            ?_
          refine x_fin ⟨⟨_, rfl⟩, rfl, ?_⟩
          exact Eq.mp (by kernel_rfl) hS
        · intro Ep13 w l' hE13 hO13 hF_ hS
          refine p (yl_move (hE13 7 rfl)) <| x_done <|
            ?_
          refine x_fin ⟨⟨_, rfl⟩, rfl, ?_⟩
          exact Eq.mp (by kernel_rfl) hS
        · intro Ep13 w l' hE13 hO13 hF_ hS
          replace hS : St w0 w (cells b1 23 [.pointer (some ⟨b_s0, 0, none⟩)] :: l') := Eq.mp (by kernel_rfl) hS
          refine pa (at_load one_23 ((hE13 1 rfl).trans eL10h_1) (hS.cell rfl)) <| x_done <|
            ?_
          refine x_fin ⟨⟨_, rfl⟩, rfl, ?_⟩
          exact Eq.mp (by kernel_rfl) hS
        · intro Ep13 w l' hE13 hO13 hF_ hS
          obtain ⟨f13_9, -⟩ := hF_
          replace f13_9 : Ep13 40 = .pointer (some ⟨b_s0, 0, none⟩) := Eq.mp (by kernel_rfl) f13_9
          replace hS : St w0 w (ro ρ_L10h :: cells b_s0 25 [.slice A_s0_0 s0.L.length c_s0_0, .int .i64 r13_4.2] :: l') := Eq.mp (by kernel_rfl) hS
          have hcall := c_maskmake_Stream_Next hc13_10 (h_s0_0.le ((((((hle3_1.trans hle4_1).trans hle5_1).trans hle6_1).trans hle7_1).trans hle8_1).trans hleρ_L10h)) (hS.pull 1)
          refine o_cc call_15 (args2 f13_9 rfl) hcall ?_
          rintro e w' ⟨rfl, hS⟩
          refine ⟨_, rfl, ?_⟩
          refine x_done <|
            ?_
          refine x_fin ⟨⟨_, rfl⟩, rfl, ?_⟩
          exact Eq.mp (by kernel_rfl) (hS.pull 1)
        · intro Ep13 w l' hE13 hO13 hF_ hS
          obtain ⟨f13_8, f13_10, -⟩ := hF_
          replace f13_8 : Ep13 39 = .int .i64 r12_1.1 := Eq.mp (by kernel_rfl) f13_8
          replace f13_10 : Ep13 41 = .int .i64 r13_10.1 := Eq.mp (by kernel_rfl) f13_10
          refine p (yadd f13_8 f13_10 hx42) <| x_done <|
            ?_
          refine x_fin ⟨⟨_, rfl⟩, rfl, ?_⟩
          exact Eq.mp (by kernel_rfl) hS
        · intro Ep13 w l' hE13 hO13 hF_ hS
          obtain ⟨f13_11, -⟩ := hF_
          replace f13_11 : Ep13 42 = .int .i64 x42 := Eq.mp (by kernel_rfl) f13_11
          refine o_buildSlice (vs := [.int .i64 x42]) (cs := [.int .i64 x42]) sl_22 zero_3 (parts_eq (pt (va := .int .i64 x42) f13_11 pt0)) rfl (by intro v hv; simp only [List.mem_cons, List.not_mem_nil, or_false] at hv; first | (subst hv; rfl) | (rcases hv with rfl <;> rfl)) (by decide) rfl hS (fun b43 w' hS => ?_)
          refine x_done <|
            ?_
          refine x_fin ⟨⟨_, rfl⟩, rfl, ?_⟩
          exact Eq.mp (by kernel_rfl) hS
        · intro Ep13 w l' hE13 hO13 hF_ hS
          replace hS : St w0 w (cells b1 23 [.pointer (some ⟨b_s0, 0, none⟩)] :: l') := Eq.mp (by kernel_rfl) hS
          refine pa (at_load one_23 ((hE13 1 rfl).trans eL10h_1) (hS.cell rfl)) <| x_done <|
            ?_
          refine x_fin ⟨⟨_, rfl⟩, rfl, ?_⟩
          exact Eq.mp (by kernel_rfl) hS
        · intro Ep13 w l' hE13 hO13 hF_ hS
          obtain ⟨f13_13, -⟩ := hF_
          replace f13_13 : Ep13 44 = .pointer (some ⟨b_s0, 0, none⟩) := Eq.mp (by kernel_rfl) f13_13
          replace hS : St w0 w (ro ρ_L10h :: cells b_s0 25 [.slice A_s0_0 s0.L.length c_s0_0, .int .i64 r13_10.2] :: l') := Eq.mp (by kernel_rfl) hS
          have hcall := c_maskmake_Stream_Next hc13_14 (h_s0_0.le ((((((hle3_1.trans hle4_1).trans hle5_1).trans hle6_1).trans hle7_1).trans hle8_1).trans hleρ_L10h)) (hS.pull 1)
          refine o_cc call_15 (args2 f13_13 rfl) hcall ?_
          rintro e w' ⟨rfl, hS⟩
          refine ⟨_, rfl, ?_⟩
          refine x_done <|
            ?_
          refine x_fin ⟨⟨_, rfl⟩, rfl, ?_⟩
          exact Eq.mp (by kernel_rfl) (hS.pull 1)
        · intro Ep13 w l' hE13 hO13 hF_ hS
          replace hS : St w0 w (cells b1 23 [.pointer (some ⟨b_s0, 0, none⟩)] :: l') := Eq.mp (by kernel_rfl) hS
          refine pa (at_load one_23 ((hE13 1 rfl).trans eL10h_1) (hS.cell rfl)) <| x_done <|
            ?_
          refine x_fin ⟨⟨_, rfl⟩, rfl, ?_⟩
          exact Eq.mp (by kernel_rfl) hS
        · intro Ep13 w l' hE13 hO13 hF_ hS
          obtain ⟨f13_15, -⟩ := hF_
          replace f13_15 : Ep13 46 = .pointer (some ⟨b_s0, 0, none⟩) := Eq.mp (by kernel_rfl) f13_15
          replace hS : St w0 w (ro ρ_L10h :: cells b_s0 25 [.slice A_s0_0 s0.L.length c_s0_0, .int .i64 r13_14.2] :: l') := Eq.mp (by kernel_rfl) hS
          have hcall := c_maskmake_Stream_Next hc13_16 (h_s0_0.le ((((((hle3_1.trans hle4_1).trans hle5_1).trans hle6_1).trans hle7_1).trans hle8_1).trans hleρ_L10h)) (hS.pull 1)
          refine o_cc call_15 (args2 f13_15 rfl) hcall ?_
          rintro e w' ⟨rfl, hS⟩
          refine ⟨_, rfl, ?_⟩
          refine x_done <|
            ?_
          refine x_fin ⟨⟨_, rfl⟩, rfl, ?_⟩
          exact Eq.mp (by kernel_rfl) (hS.pull 1)
        · intro Ep13 w l' hE13 hO13 hF_ hS
          replace hS : St w0 w (cells b1 23 [.pointer (some ⟨b_s0, 0, none⟩)] :: l') := Eq.mp (by kernel_rfl) hS
          refine pa (at_load one_23 ((hE13 1 rfl).trans eL10h_1) (hS.cell rfl)) <| x_done <|
            ?_
          refine x_fin ⟨⟨_, rfl⟩, rfl, ?_⟩
          exact Eq.mp (by kernel_rfl) hS
        · intro Ep13 w l' hE13 hO13 hF_ hS
          obtain ⟨f13_17, -⟩ := hF_
          replace f13_17 : Ep13 48 = .pointer (some ⟨b_s0, 0, none⟩) := Eq.mp (by kernel_rfl) f13_17
          replace hS : St w0 w (ro ρ_L10h :: cells b_s0 25 [.slice A_s0_0 s0.L.length c_s0_0, .int .i64 r13_16.2] :: l') := Eq.mp (by kernel_rfl) hS
          have hcall := c_maskmake_Stream_Next hc13_18 (h_s0_0.le ((((((hle3_1.trans hle4_1).trans hle5_1).trans hle6_1).trans hle7_1).trans hle8_1).trans hleρ_L10h)) (hS.pull 1)
          refine o_cc call_15 (args2 f13_17 rfl) hcall ?_
          rintro e w' ⟨rfl, hS⟩
          refine ⟨_, rfl, ?_⟩
          refine x_done <|
            ?_
          refine x_fin ⟨⟨_, rfl⟩, rfl, ?_⟩
          exact Eq.mp (by kernel_rfl) (hS.pull 1)
        · intro Ep13 w l' hE13 hO13 hF_ hS
          obtain ⟨f13_0, f13_2, f13_5, f13_7, f13_12, f13_14, f13_16, f13_18, -⟩ := hF_
          replace f13_0 : Ep13 31 = .string x28 := Eq.mp (by kernel_rfl) f13_0
          replace f13_2 : Ep13 33 = .int .i64 x33 := Eq.mp (by kernel_rfl) f13_2
          replace f13_5 : Ep13 36 = .int .i64 x36 := Eq.mp (by kernel_rfl) f13_5
          replace f13_7 : Ep13 38 = .slice (some ⟨(blkOf (Ep13 38)), 0, none⟩) 1 1 := Eq.mp (by kernel_rfl) f13_7
          replace f13_12 : Ep13 43 = .slice (some ⟨(blkOf (Ep13 43)), 0, none⟩) 1 1 := Eq.mp (by kernel_rfl) f13_12
          replace f13_14 : Ep13 45 = .int .i64 r13_14.1 := Eq.mp (by kernel_rfl) f13_14
          replace f13_16 : Ep13 47 = .int .i64 r13_16.1 := Eq.mp (by kernel_rfl) f13_16
          replace f13_18 : Ep13 49 = .int .i64 r13_18.1 := Eq.mp (by kernel_rfl) f13_18
          refine p (v := .agg #[.string x28, .bool true, .int .i64 x33, .int .u64 0, .int .i64 x36, .slice none 0 0, .slice (some ⟨(blkOf (Ep13 38)), 0, none⟩) 1 1, .slice (some ⟨(blkOf (Ep13 43)), 0, none⟩) 1 1, .int .i64 r13_14.1, .int .i64 r13_16.1, .int .i64 r13_18.1]) (yl_build bld_46 bldf_46 (parts_eq (pt (va := .string x28) f13_0 (pt (va := .bool true) rfl (pt (va := .int .i64 x33) f13_2 (pt (va := .int .i64 x36) f13_5 (pt (va := .slice (some ⟨(blkOf (Ep13 38)), 0, none⟩) 1 1) f13_7 (pt (va := .slice (some ⟨(blkOf (Ep13 43)), 0, none⟩) 1 1) f13_12 (pt (va := .int .i64 r13_14.1) f13_14 (pt (va := .int .i64 r13_16.1) f13_16 (pt (va := .int .i64 r13_18.1) f13_18 pt0)))))))))) (by kernel_rfl)) <| x_done <|
            ?_
          refine x_fin ⟨⟨_, rfl⟩, rfl, ?_⟩
          exact Eq.mp (by kernel_rfl) hS
        · intro Ep13 w l' hE13 hO13 hF_ hS
          refine o_alloc zero_46 hS (fun b8 w' hS => ?_)
          refine x_done <|
            ?_
          refine x_fin ⟨⟨_, rfl⟩, rfl, ?_⟩
          exact Eq.mp (by kernel_rfl) hS
        · intro Ep13 w l' hE13 hO13 hF_ hS
          obtain ⟨f13_7, f13_12, f13_19, f13_20, -⟩ := hF_
          replace f13_7 : Ep13 38 = .slice (some ⟨(blkOf (Ep13 38)), 0, none⟩) 1 1 := Eq.mp (by kernel_rfl) f13_7
          replace f13_12 : Ep13 43 = .slice (some ⟨(blkOf (Ep13 43)), 0, none⟩) 1 1 := Eq.mp (by kernel_rfl) f13_12
          replace f13_19 : Ep13 50 = .agg #[.string x28, .bool true, .int .i64 x33, .int .u64 0, .int .i64 x36, .slice none 0 0, .slice (some ⟨(blkOf (Ep13 38)), 0, none⟩) 1 1, .slice (some ⟨(blkOf (Ep13 43)), 0, none⟩) 1 1, .int .i64 r13_14.1, .int .i64 r13_16.1, .int .i64 r13_18.1] := Eq.mp (by kernel_rfl) f13_19
          replace f13_20 : Ep13 8 = .pointer (some ⟨(blkOf (Ep13 8)), 0, none⟩) := Eq.mp (by kernel_rfl) f13_20
          replace hS : St w0 w (cells (blkOf (Ep13 8)) 46 [.string (⟨#[]⟩ : ByteArray), .bool false, .int .i64 0, .int .u64 0, .int .i64 0, .slice none 0 0, .slice none 0 0, .slice none 0 0, .int .i64 0, .int .i64 0, .int .i64 0] :: l') := Eq.mp (by kernel_rfl) hS
          refine o_storeAgg (news := [.string x28, .bool true, .int .i64 x33, .int .u64 0, .int .i64 x36, .slice none 0 0, .slice (some ⟨(blkOf (Ep13 38)), 0, none⟩) 1 1, .slice (some ⟨(blkOf (Ep13 43)), 0, none⟩) 1 1, .int .i64 r13_14.1, .int .i64 r13_16.1, .int .i64 r13_18.1]) agg_46 f13_20 f13_19 rfl (by simp [over_length]) hS (fun w' hS => ?_)
          refine x_done <|
            ?_
          refine x_fin ⟨⟨undef, rfl⟩, trivial, ?_⟩
          exact Eq.mp (by kernel_rfl) hS
      intro Ep13 w' hE13 hF_ hS
      obtain ⟨f13_0, f13_1, f13_2, f13_3, f13_4, f13_5, f13_6, f13_7, f13_8, f13_9, f13_10, f13_11, f13_12, f13_13, f13_14, f13_15, f13_16, f13_17, f13_18, f13_19, f13_20, -⟩ := hF_
      replace f13_0 : Ep13 31 = .string x28 := Eq.mp (by kernel_rfl) f13_0
      replace f13_1 : Ep13 32 = .int .i64 y24_L10h := Eq.mp (by kernel_rfl) f13_1
      replace f13_2 : Ep13 33 = .int .i64 x33 := Eq.mp (by kernel_rfl) f13_2
      replace f13_3 : Ep13 34 = .pointer (some ⟨b_s0, 0, none⟩) := Eq.mp (by kernel_rfl) f13_3
      replace f13_4 : Ep13 35 = .int .i64 r13_4.1 := Eq.mp (by kernel_rfl) f13_4
      replace f13_5 : Ep13 36 = .int .i64 x36 := Eq.mp (by kernel_rfl) f13_5
      replace f13_6 : Ep13 37 = .int .i64 r12_1.1 := Eq.mp (by kernel_rfl) f13_6
      replace f13_7 : Ep13 38 = .slice (some ⟨(blkOf (Ep13 38)), 0, none⟩) 1 1 := Eq.mp (by kernel_rfl) f13_7
      replace f13_8 : Ep13 39 = .int .i64 r12_1.1 := Eq.mp (by kernel_rfl) f13_8
      replace f13_9 : Ep13 40 = .pointer (some ⟨b_s0, 0, none⟩) := Eq.mp (by kernel_rfl) f13_9
      replace f13_10 : Ep13 41 = .int .i64 r13_10.1 := Eq.mp (by kernel_rfl) f13_10
      replace f13_11 : Ep13 42 = .int .i64 x42 := Eq.mp (by kernel_rfl) f13_11
      replace f13_12 : Ep13 43 = .slice (some ⟨(blkOf (Ep13 43)), 0, none⟩) 1 1 := Eq.mp (by kernel_rfl) f13_12
      replace f13_13 : Ep13 44 = .pointer (some ⟨b_s0, 0, none⟩) := Eq.mp (by kernel_rfl) f13_13
      replace f13_14 : Ep13 45 = .int .i64 r13_14.1 := Eq.mp (by kernel_rfl) f13_14
      replace f13_15 : Ep13 46 = .pointer (some ⟨b_s0, 0, none⟩) := Eq.mp (by kernel_rfl) f13_15
      replace f13_16 : Ep13 47 = .int .i64 r13_16.1 := Eq.mp (by kernel_rfl) f13_16
      replace f13_17 : Ep13 48 = .pointer (some ⟨b_s0, 0, none⟩) := Eq.mp (by kernel_rfl) f13_17
      replace f13_18 : Ep13 49 = .int .i64 r13_18.1 := Eq.mp (by kernel_rfl) f13_18
      replace f13_19 : Ep13 50 = .agg #[.string x28, .bool true, .int .i64 x33, .int .u64 0, .int .i64 x36, .slice none 0 0, .slice (some ⟨(blkOf (Ep13 38)), 0, none⟩) 1 1, .slice (some ⟨(blkOf (Ep13 43)), 0, none⟩) 1 1, .int .i64 r13_14.1, .int .i64 r13_16.1, .int .i64 r13_18.1] := Eq.mp (by kernel_rfl) f13_19
      replace f13_20 : Ep13 8 = .pointer (some ⟨(blkOf (Ep13 8)), 0, none⟩) := Eq.mp (by kernel_rfl) f13_20
      replace hS : St w0 w' (cells b1 23 [.pointer (some ⟨b_s0, 0, none⟩)] :: ro ρ_L10h :: cells (blkOf (Ep13 38)) 3 [.int .i64 r12_1.1] :: cells (blkOf (Ep13 43)) 3 [.int .i64 x42] :: cells b_s0 25 [.slice A_s0_0 s0.L.length c_s0_0, .int .i64 r13_18.2] :: cells (blkOf (Ep13 8)) 46 [.string x28, .bool true, .int .i64 x33, .int .u64 0, .int .i64 x36, .slice none 0 0, .slice (some ⟨(blkOf (Ep13 38)), 0, none⟩) 1 1, .slice (some ⟨(blkOf (Ep13 43)), 0, none⟩) 1 1, .int .i64 r13_14.1, .int .i64 r13_16.1, .int .i64 r13_18.1] :: (cells b3 35 [.slice A_b3_0_L10h b3_0_L10h.length c_b3_0_L10h] :: vec 9 RpS.sz (.slice A_y22_L10h y22_L10h.length c_y22_L10h) y22_L10h.length cs_y22_L10h :: vec 46 R_api_Cell.sz (.slice A_b3_0_L10h b3_0_L10h.length c_b3_0_L10h) b3_0_L10h.length cs_b3_0_L10h :: l)) := Eq.mp (by kernel_rfl) hS
      obtain ⟨x53, hx53, hFL10⟩ := ar_s hFL10
      refine x_seq <| x_seq <| x_region <| p (yl_field0 fld_46_2 f13_20) <|
        pa (at_load one_3 rfl ((hS.pull 5).cell rfl)) <| p (yadd rfl rfl hx53) <| p (yl_move rfl) <| x_done <|
        ?_
      obtain ⟨oL15, hLL15, hFL10⟩ := bd_s hFL10
      refine x_join (fun E w => ∃ (b_c8_L15 : Nat) (A_b_c8_L15_5_L15 : Option Addr) (n_b_c8_L15_5_L15 : Nat) (c_b_c8_L15_5_L15 : Nat) (cs_b_c8_L15_5_L15 : List Value) (A_b_c8_L15_6_L15 : Option Addr) (n_b_c8_L15_6_L15 : Nat) (c_b_c8_L15_6_L15 : Nat) (cs_b_c8_L15_6_L15 : List Value) (A_b_c8_L15_7_L15 : Option Addr) (n_b_c8_L15_7_L15 : Nat) (c_b_c8_L15_7_L15 : Nat) (cs_b_c8_L15_7_L15 : List Value) (b_c8_L15_5_L15 : List Int) (b_c8_L15_6_L15 : List Int) (b_c8_L15_7_L15 : List Int) (b_s0_1_L15 : Int), (b_c8_L15_5_L15, b_c8_L15_6_L15, b_c8_L15_7_L15, b_s0_1_L15) = oL15 ∧ E 1 = .pointer (some ⟨b1, 0, none⟩) ∧ E 3 = .pointer (some ⟨b3, 0, none⟩) ∧ E 8 = .pointer (some ⟨b_c8_L15, 0, none⟩) ∧ E 22 = .slice A_y22_L10h y22_L10h.length c_y22_L10h ∧ E 23 = .int .i64 2 ∧ E 24 = .int .i64 y24_L10h ∧ RepL (RpI .i64) ρ_L10h b_c8_L15_5_L15 cs_b_c8_L15_5_L15 ∧ RepL (RpI .i64) ρ_L10h b_c8_L15_6_L15 cs_b_c8_L15_6_L15 ∧ RepL (RpI .i64) ρ_L10h b_c8_L15_7_L15 cs_b_c8_L15_7_L15 ∧ St w0 w (cells b1 23 [.pointer (some ⟨b_s0, 0, none⟩)] :: cells b3 35 [.slice A_b3_0_L10h b3_0_L10h.length c_b3_0_L10h] :: cells b_c8_L15 46 [.string x28, .bool true, .int .i64 x33, .int .u64 0, .int .i64 x36, .slice A_b_c8_L15_5_L15 n_b_c8_L15_5_L15 c_b_c8_L15_5_L15, .slice A_b_c8_L15_6_L15 n_b_c8_L15_6_L15 c_b_c8_L15_6_L15, .slice A_b_c8_L15_7_L15 n_b_c8_L15_7_L15 c_b_c8_L15_7_L15, .int .i64 r13_14.1, .int .i64 r13_16.1, .int .i64 r13_18.1] :: vec 9 RpS.sz (.slice A_y22_L10h y22_L10h.length c_y22_L10h) y22_L10h.length cs_y22_L10h :: cells b_s0 25 [.slice A_s0_0 s0.L.length c_s0_0, .int .i64 b_s0_1_L15] :: vec 46 R_api_Cell.sz (.slice A_b3_0_L10h b3_0_L10h.length c_b3_0_L10h) b3_0_L10h.length cs_b3_0_L10h :: vec 3 (RpI .i64).sz (.slice A_b_c8_L15_5_L15 n_b_c8_L15_5_L15 c_b_c8_L15_5_L15) n_b_c8_L15_5_L15 cs_b_c8_L15_5_L15 :: vec 3 (RpI .i64).sz (.slice A_b_c8_L15_6_L15 n_b_c8_L15_6_L15 c_b_c8_L15_6_L15) n_b_c8_L15_6_L15 cs_b_c8_L15_6_L15 :: vec 3 (RpI .i64).sz (.slice A_b_c8_L15_7_L15 n_b_c8_L15_7_L15 c_b_c8_L15_7_L15) n_b_c8_L15_7_L15 cs_b_c8_L15_7_L15 :: ro ρ_L10h :: l)) ?_ ?_
      · skip -- L15
        refine x_block ?_
        replace hS := St.vec_nil hS 3 (RpI .i64).sz
        have hnil_A_b_c8_L15h_5_L15h : RepL (RpI .i64) ρ_L10h [] [] := rfl
        have hl_L15h_3 : RepL (RpI .i64) ρ_L10h ([r12_1.1] : List Int) [.int .i64 r12_1.1] := (RepL.cons (cs := [.int .i64 r12_1.1]) rfl RepL.nil)
        replace hS := St.vec_of (n := 1) (sz := (RpI .i64).sz) (hS.pull 3) rfl (by decide)
        have hl_L15h_3a : RepL (RpI .i64) ρ_L10h ([x42] : List Int) [.int .i64 x42] := (RepL.cons (cs := [.int .i64 x42]) rfl RepL.nil)
        replace hS := St.vec_of (n := 1) (sz := (RpI .i64).sz) (hS.pull 4) rfl (by decide)
        refine x_loop (fun k_ E w => ∃ (b_c8_L15h : Nat) (A_b_c8_L15h_5_L15h : Option Addr) (n_b_c8_L15h_5_L15h : Nat) (c_b_c8_L15h_5_L15h : Nat) (cs_b_c8_L15h_5_L15h : List Value) (A_b_c8_L15h_6_L15h : Option Addr) (n_b_c8_L15h_6_L15h : Nat) (c_b_c8_L15h_6_L15h : Nat) (cs_b_c8_L15h_6_L15h : List Value) (A_b_c8_L15h_7_L15h : Option Addr) (n_b_c8_L15h_7_L15h : Nat) (c_b_c8_L15h_7_L15h : Nat) (cs_b_c8_L15h_7_L15h : List Value) (y54_L15h : Int) (b_c8_L15h_5_L15h : List Int) (b_c8_L15h_6_L15h : List Int) (b_c8_L15h_7_L15h : List Int) (b_s0_1_L15h : Int), lp (P_maskmake_Stream_LayLib_L15 s0 x53) k_ (y54_L15h, b_c8_L15h_5_L15h, b_c8_L15h_6_L15h, b_c8_L15h_7_L15h, b_s0_1_L15h) = some oL15 ∧ E 1 = .pointer (some ⟨b1, 0, none⟩) ∧ E 3 = .pointer (some ⟨b3, 0, none⟩) ∧ E 8 = .pointer (some ⟨b_c8_L15h, 0, none⟩) ∧ E 22 = .slice A_y22_L10h y22_L10h.length c_y22_L10h ∧ E 23 = .int .i64 2 ∧ E 24 = .int .i64 y24_L10h ∧ E 53 = .int .i64 x53 ∧ E 54 = .int .i64 y54_L15h ∧ RepL (RpI .i64) ρ_L10h b_c8_L15h_5_L15h cs_b_c8_L15h_5_L15h ∧ RepL (RpI .i64) ρ_L10h b_c8_L15h_6_L15h cs_b_c8_L15h_6_L15h ∧ RepL (RpI .i64) ρ_L10h b_c8_L15h_7_L15h cs_b_c8_L15h_7_L15h ∧ St w0 w (cells b1 23 [.pointer (some ⟨b_s0, 0, none⟩)] :: cells b3 35 [.slice A_b3_0_L10h b3_0_L10h.length c_b3_0_L10h] :: cells b_c8_L15h 46 [.string x28, .bool true, .int .i64 x33, .int .u64 0, .int .i64 x36, .slice A_b_c8_L15h_5_L15h n_b_c8_L15h_5_L15h c_b_c8_L15h_5_L15h, .slice A_b_c8_L15h_6_L15h n_b_c8_L15h_6_L15h c_b_c8_L15h_6_L15h, .slice A_b_c8_L15h_7_L15h n_b_c8_L15h_7_L15h c_b_c8_L15h_7_L15h, .int .i64 r13_14.1, .int .i64 r13_16.1, .int .i64 r13_18.1] :: vec 9 RpS.sz (.slice A_y22_L10h y22_L10h.length c_y22_L10h) y22_L10h.length cs_y22_L10h :: cells b_s0 25 [.slice A_s0_0 s0.L.length c_s0_0, .int .i64 b_s0_1_L15h] :: vec 46 R_api_Cell.sz (.slice A_b3_0_L10h b3_0_L10h.length c_b3_0_L10h) b3_0_L10h.length cs_b3_0_L10h :: vec 3 (RpI .i64).sz (.slice A_b_c8_L15h_5_L15h n_b_c8_L15h_5_L15h c_b_c8_L15h_5_L15h) n_b_c8_L15h_5_L15h cs_b_c8_L15h_5_L15h :: vec 3 (RpI .i64).sz (.slice A_b_c8_L15h_6_L15h n_b_c8_L15h_6_L15h c_b_c8_L15h_6_L15h) n_b_c8_L15h_6_L15h cs_b_c8_L15h_6_L15h :: vec 3 (RpI .i64).sz (.slice A_b_c8_L15h_7_L15h n_b_c8_L15h_7_L15h c_b_c8_L15h_7_L15h) n_b_c8_L15h_7_L15h cs_b_c8_L15h_7_L15h :: ro ρ_L10h :: l)) fuel ⟨(blkOf (Ep13 8)), none, 0, 0, [], (some ⟨(blkOf (Ep13 38)), 0, none⟩), 1, 1, [.int .i64 r12_1.1], (some ⟨(blkOf (Ep13 43)), 0, none⟩), 1, 1, [.int .i64 x42], 0, [], ([r12_1.1] : List Int), ([x42] : List Int), r13_18.2, hLL15, ((hE13 1 rfl).trans eL10h_1), ((hE13 3 rfl).trans eL10h_3), f13_20, ((hE13 22 rfl).trans eL10h_22), ((hE13 23 rfl).trans eL10h_23), ((hE13 24 rfl).trans eL10h_24), rfl, rfl, hnil_A_b_c8_L15h_5_L15h, hl_L15h_3, hl_L15h_3a, ((((((((((hS.pull 4).pull 1).pull 2).pull 3).pull 9).pull 6).pull 9).pull 8).pull 9).pull 9)⟩ ?_
        rintro kL15 E w ⟨b_c8_L15h, A_b_c8_L15h_5_L15h, n_b_c8_L15h_5_L15h, c_b_c8_L15h_5_L15h, cs_b_c8_L15h_5_L15h, A_b_c8_L15h_6_L15h, n_b_c8_L15h_6_L15h, c_b_c8_L15h_6_L15h, cs_b_c8_L15h_6_L15h, A_b_c8_L15h_7_L15h, n_b_c8_L15h_7_L15h, c_b_c8_L15h_7_L15h, cs_b_c8_L15h_7_L15h, y54_L15h, b_c8_L15h_5_L15h, b_c8_L15h_6_L15h, b_c8_L15h_7_L15h, b_s0_1_L15h, hLL15, eL15h_1, eL15h_3, eL15h_8, eL15h_22, eL15h_23, eL15h_24, eL15h_53, eL15h_54, h_b_c8_L15h_5_L15h, h_b_c8_L15h_6_L15h, h_b_c8_L15h_7_L15h, hS⟩
        obtain rfl := St.vec_n (hS.pull 6) h_b_c8_L15h_5_L15h
        obtain rfl := St.vec_n (hS.pull 7) h_b_c8_L15h_6_L15h
        obtain rfl := St.vec_n (hS.pull 8) h_b_c8_L15h_7_L15h
        obtain ⟨kL15, obL15, rfl, hFL15, hLL15⟩ := lp_s hLL15
        refine x_seq <| x_region <| p (yl_lss eL15h_54 eL15h_53) <| x_done <|
          x_seq <|
          x_cond_p (y54_L15h < x53) rfl (fun hc55 => ?_) (fun hc55 => ?_)
        · replace hFL15 := it_t hc55 hFL15
          refine x_skip <| x_seq <| x_block <|
            ?_
          obtain ⟨r16_3, hc16_3, hFL15⟩ := bd_s hFL15
          obtain ⟨z16_5, hz16_5, hFL15⟩ := lv_s hFL15
          obtain ⟨hk16_5, hFL15⟩ := ck_s hFL15
          refine x_par (w0 := w0) [⟨[], [], [56], [], [], []⟩, ⟨[0], [0], [57], [0], [], []⟩, ⟨[], [], [58], [1], [], []⟩, ⟨[2], [2], [59], [3], [2], [4]⟩, ⟨[2, 3], [3], [60], [], [], [5]⟩, ⟨[0, 1, 2, 3, 4], [1, 4], [61], [5, 3], [6], [7]⟩, ⟨[0, 1, 2, 3, 4, 5], [], [62], [], [], []⟩, ⟨[0, 1, 2, 3, 4, 5, 6], [5, 6], [], [], [0], [8]⟩] [⟨none, (some 7), []⟩, ⟨none, none, []⟩, ⟨none, (some 3), []⟩, ⟨none, none, []⟩, ⟨(some 3), none, []⟩, ⟨(some 4), none, [60]⟩, ⟨none, (some 5), []⟩, ⟨(some 5), none, [61]⟩, ⟨(some 7), none, [61]⟩] [56, 57, 58, 59, 60, 61, 62] [0, 1, 2, 3, 6] [1, 3, 4, 5, 7, 8] [0, 1, 2, 3, 4, 5, 6] [fun Ep16 => Ep16 56 = .pointer (some ⟨b_c8_L15h, 5, none⟩), fun Ep16 => Ep16 57 = .slice A_b_c8_L15h_5_L15h b_c8_L15h_5_L15h.length c_b_c8_L15h_5_L15h, fun Ep16 => Ep16 58 = .pointer (some ⟨b_s0, 0, none⟩), fun Ep16 => Ep16 59 = .int .i64 r16_3.1, fun Ep16 => Ep16 60 = .slice (some ⟨(blkOf (Ep16 60)), 0, none⟩) 1 1, fun Ep16 => Ep16 61 = .slice (adOf (Ep16 61)) z16_5.length (capOf (Ep16 61)), fun Ep16 => Ep16 62 = .pointer (some ⟨b_c8_L15h, 5, none⟩), fun Ep16 => True] [fun Ep16 => cells b_c8_L15h 46 [.string x28, .bool true, .int .i64 x33, .int .u64 0, .int .i64 x36, .slice A_b_c8_L15h_5_L15h b_c8_L15h_5_L15h.length c_b_c8_L15h_5_L15h, .slice A_b_c8_L15h_6_L15h b_c8_L15h_6_L15h.length c_b_c8_L15h_6_L15h, .slice A_b_c8_L15h_7_L15h b_c8_L15h_7_L15h.length c_b_c8_L15h_7_L15h, .int .i64 r13_14.1, .int .i64 r13_16.1, .int .i64 r13_18.1], fun Ep16 => cells b1 23 [.pointer (some ⟨b_s0, 0, none⟩)], fun Ep16 => cells b_s0 25 [.slice A_s0_0 s0.L.length c_s0_0, .int .i64 b_s0_1_L15h], fun Ep16 => ro ρ_L10h, fun Ep16 => cells b_s0 25 [.slice A_s0_0 s0.L.length c_s0_0, .int .i64 r16_3.2], fun Ep16 => cells (blkOf (Ep16 60)) 3 [.int .i64 r16_3.1], fun Ep16 => vec 3 (RpI .i64).sz (.slice A_b_c8_L15h_5_L15h b_c8_L15h_5_L15h.length c_b_c8_L15h_5_L15h) b_c8_L15h_5_L15h.length cs_b_c8_L15h_5_L15h, fun Ep16 => bunA (fun (cs61 : List Value) => RepL (RpI .i64) ρ_L10h z16_5 cs61) (fun (cs61 : List Value) => [vec 3 (RpI .i64).sz (.slice (adOf (Ep16 61)) z16_5.length (capOf (Ep16 61))) z16_5.length cs61]), fun Ep16 => cells b_c8_L15h 46 [.string x28, .bool true, .int .i64 x33, .int .u64 0, .int .i64 x36, .slice (adOf (Ep16 61)) z16_5.length (capOf (Ep16 61)), .slice A_b_c8_L15h_6_L15h b_c8_L15h_6_L15h.length c_b_c8_L15h_6_L15h, .slice A_b_c8_L15h_7_L15h b_c8_L15h_7_L15h.length c_b_c8_L15h_7_L15h, .int .i64 r13_14.1, .int .i64 r13_16.1, .int .i64 r13_18.1]] mixed (by kernel_rfl) (((((hS.pull 6).pull 9).pull 6).pull 3).pull 5) ?_ ?_
          · refine ⟨?_, ?_, ?_, ?_, ?_, ?_, ?_, ?_, trivial⟩
            · intro Ep16 w l' hE16 hO16 hF_ hS
              refine p (yl_field0 fld_46_5 ((hE16 8 rfl).trans eL15h_8)) <| x_done <|
                ?_
              refine x_fin ⟨⟨_, rfl⟩, rfl, ?_⟩
              exact Eq.mp (by kernel_rfl) hS
            · intro Ep16 w l' hE16 hO16 hF_ hS
              obtain ⟨f16_0, -⟩ := hF_
              replace f16_0 : Ep16 56 = .pointer (some ⟨b_c8_L15h, 5, none⟩) := Eq.mp (by kernel_rfl) f16_0
              replace hS : St w0 w (cells b_c8_L15h 46 [.string x28, .bool true, .int .i64 x33, .int .u64 0, .int .i64 x36, .slice A_b_c8_L15h_5_L15h b_c8_L15h_5_L15h.length c_b_c8_L15h_5_L15h, .slice A_b_c8_L15h_6_L15h b_c8_L15h_6_L15h.length c_b_c8_L15h_6_L15h, .slice A_b_c8_L15h_7_L15h b_c8_L15h_7_L15h.length c_b_c8_L15h_7_L15h, .int .i64 r13_14.1, .int .i64 r13_16.1, .int .i64 r13_18.1] :: l') := Eq.mp (by kernel_rfl) hS
              refine pa (at_load one_22 f16_0 (hS.cell rfl)) <| x_done <|
                ?_
              refine x_fin ⟨⟨_, rfl⟩, rfl, ?_⟩
              exact Eq.mp (by kernel_rfl) hS
            · intro Ep16 w l' hE16 hO16 hF_ hS
              replace hS : St w0 w (cells b1 23 [.pointer (some ⟨b_s0, 0, none⟩)] :: l') := Eq.mp (by kernel_rfl) hS
              refine pa (at_load one_23 ((hE16 1 rfl).trans eL15h_1) (hS.cell rfl)) <| x_done <|
                ?_
              refine x_fin ⟨⟨_, rfl⟩, rfl, ?_⟩
              exact Eq.mp (by kernel_rfl) hS
            · intro Ep16 w l' hE16 hO16 hF_ hS
              obtain ⟨f16_2, -⟩ := hF_
              replace f16_2 : Ep16 58 = .pointer (some ⟨b_s0, 0, none⟩) := Eq.mp (by kernel_rfl) f16_2
              replace hS : St w0 w (ro ρ_L10h :: cells b_s0 25 [.slice A_s0_0 s0.L.length c_s0_0, .int .i64 b_s0_1_L15h] :: l') := Eq.mp (by kernel_rfl) hS
              have hcall := c_maskmake_Stream_Range hc16_3 (h_s0_0.le ((((((hle3_1.trans hle4_1).trans hle5_1).trans hle6_1).trans hle7_1).trans hle8_1).trans hleρ_L10h)) (hS.pull 1)
              refine o_cc call_14 (args3 f16_2 rfl rfl) hcall ?_
              rintro e w' ⟨rfl, hS⟩
              refine ⟨_, rfl, ?_⟩
              refine x_done <|
                ?_
              refine x_fin ⟨⟨_, rfl⟩, rfl, ?_⟩
              exact Eq.mp (by kernel_rfl) (hS.pull 1)
            · intro Ep16 w l' hE16 hO16 hF_ hS
              obtain ⟨f16_3, -⟩ := hF_
              replace f16_3 : Ep16 59 = .int .i64 r16_3.1 := Eq.mp (by kernel_rfl) f16_3
              refine o_buildSlice (vs := [.int .i64 r16_3.1]) (cs := [.int .i64 r16_3.1]) sl_22 zero_3 (parts_eq (pt (va := .int .i64 r16_3.1) f16_3 pt0)) rfl (by intro v hv; simp only [List.mem_cons, List.not_mem_nil, or_false] at hv; first | (subst hv; rfl) | (rcases hv with rfl <;> rfl)) (by decide) rfl hS (fun b60 w' hS => ?_)
              refine x_done <|
                ?_
              refine x_fin ⟨⟨_, rfl⟩, rfl, ?_⟩
              exact Eq.mp (by kernel_rfl) hS
            · intro Ep16 w l' hE16 hO16 hF_ hS
              obtain ⟨f16_1, f16_4, -⟩ := hF_
              replace f16_1 : Ep16 57 = .slice A_b_c8_L15h_5_L15h b_c8_L15h_5_L15h.length c_b_c8_L15h_5_L15h := Eq.mp (by kernel_rfl) f16_1
              replace f16_4 : Ep16 60 = .slice (some ⟨(blkOf (Ep16 60)), 0, none⟩) 1 1 := Eq.mp (by kernel_rfl) f16_4
              replace hS : St w0 w (cells (blkOf (Ep16 60)) 3 [.int .i64 r16_3.1] :: ro ρ_L10h :: vec 3 (RpI .i64).sz (.slice A_b_c8_L15h_5_L15h b_c8_L15h_5_L15h.length c_b_c8_L15h_5_L15h) b_c8_L15h_5_L15h.length cs_b_c8_L15h_5_L15h :: l') := Eq.mp (by kernel_rfl) hS
              refine o_ap sl_22 zero_3 rfl (by decide) f16_1 f16_4 (hS.pull 2) h_b_c8_L15h_5_L15h (src_blk usl_22 hS rfl rfl) (RepL.cons (R := (RpI .i64)) (ρ := ρ_L10h) (x := r16_3.1) (cs := [.int .i64 r16_3.1]) rfl RepL.nil) hz16_5 hk16_5 (fun A61 c61 cs61 w' hr61 hS => ?_)
              refine x_done <|
                ?_
              refine x_fin ⟨⟨_, rfl⟩, rfl, ?_⟩
              replace hS := St.bun (Φ := (fun (cs61 : List Value) => RepL (RpI .i64) ρ_L10h z16_5 cs61)) (L := (fun (cs61 : List Value) => [vec 3 (RpI .i64).sz (.slice A61 z16_5.length c61) z16_5.length cs61])) cs61 hr61 hS
              exact Eq.mp (by kernel_rfl) ((hS.pull 2).pull 2)
            · intro Ep16 w l' hE16 hO16 hF_ hS
              refine p (yl_field0 fld_46_5 ((hE16 8 rfl).trans eL15h_8)) <| x_done <|
                ?_
              refine x_fin ⟨⟨_, rfl⟩, rfl, ?_⟩
              exact Eq.mp (by kernel_rfl) hS
            · intro Ep16 w l' hE16 hO16 hF_ hS
              obtain ⟨f16_5, f16_6, -⟩ := hF_
              replace f16_5 : Ep16 61 = .slice (adOf (Ep16 61)) z16_5.length (capOf (Ep16 61)) := Eq.mp (by kernel_rfl) f16_5
              replace f16_6 : Ep16 62 = .pointer (some ⟨b_c8_L15h, 5, none⟩) := Eq.mp (by kernel_rfl) f16_6
              replace hS : St w0 w (cells b_c8_L15h 46 [.string x28, .bool true, .int .i64 x33, .int .u64 0, .int .i64 x36, .slice A_b_c8_L15h_5_L15h b_c8_L15h_5_L15h.length c_b_c8_L15h_5_L15h, .slice A_b_c8_L15h_6_L15h b_c8_L15h_6_L15h.length c_b_c8_L15h_6_L15h, .slice A_b_c8_L15h_7_L15h b_c8_L15h_7_L15h.length c_b_c8_L15h_7_L15h, .int .i64 r13_14.1, .int .i64 r13_16.1, .int .i64 r13_18.1] :: l') := Eq.mp (by kernel_rfl) hS
              refine o_store1 (v := .slice (adOf (Ep16 61)) z16_5.length (capOf (Ep16 61))) one_22 f16_6 f16_5 rfl rfl hS (fun w' hS => ?_)
              refine x_done <|
                ?_
              refine x_fin ⟨⟨undef, rfl⟩, trivial, ?_⟩
              exact Eq.mp (by kernel_rfl) hS
          intro Ep16 w' hE16 hF_ hS
          obtain ⟨f16_0, f16_1, f16_2, f16_3, f16_4, f16_5, f16_6, -⟩ := hF_
          replace f16_0 : Ep16 56 = .pointer (some ⟨b_c8_L15h, 5, none⟩) := Eq.mp (by kernel_rfl) f16_0
          replace f16_1 : Ep16 57 = .slice A_b_c8_L15h_5_L15h b_c8_L15h_5_L15h.length c_b_c8_L15h_5_L15h := Eq.mp (by kernel_rfl) f16_1
          replace f16_2 : Ep16 58 = .pointer (some ⟨b_s0, 0, none⟩) := Eq.mp (by kernel_rfl) f16_2
          replace f16_3 : Ep16 59 = .int .i64 r16_3.1 := Eq.mp (by kernel_rfl) f16_3
          replace f16_4 : Ep16 60 = .slice (some ⟨(blkOf (Ep16 60)), 0, none⟩) 1 1 := Eq.mp (by kernel_rfl) f16_4
          replace f16_5 : Ep16 61 = .slice (adOf (Ep16 61)) z16_5.length (capOf (Ep16 61)) := Eq.mp (by kernel_rfl) f16_5
          replace f16_6 : Ep16 62 = .pointer (some ⟨b_c8_L15h, 5, none⟩) := Eq.mp (by kernel_rfl) f16_6
          replace hS : St w0 w' (cells b1 23 [.pointer (some ⟨b_s0, 0, none⟩)] :: ro ρ_L10h :: cells b_s0 25 [.slice A_s0_0 s0.L.length c_s0_0, .int .i64 r16_3.2] :: cells (blkOf (Ep16 60)) 3 [.int .i64 r16_3.1] :: bunA (fun (cs61 : List Value) => RepL (RpI .i64) ρ_L10h z16_5 cs61) (fun (cs61 : List Value) => [vec 3 (RpI .i64).sz (.slice (adOf (Ep16 61)) z16_5.length (capOf (Ep16 61))) z16_5.length cs61]) :: cells b_c8_L15h 46 [.string x28, .bool true, .int .i64 x33, .int .u64 0, .int .i64 x36, .slice (adOf (Ep16 61)) z16_5.length (capOf (Ep16 61)), .slice A_b_c8_L15h_6_L15h b_c8_L15h_6_L15h.length c_b_c8_L15h_6_L15h, .slice A_b_c8_L15h_7_L15h b_c8_L15h_7_L15h.length c_b_c8_L15h_7_L15h, .int .i64 r13_14.1, .int .i64 r13_16.1, .int .i64 r13_18.1] :: (cells b3 35 [.slice A_b3_0_L10h b3_0_L10h.length c_b3_0_L10h] :: vec 9 RpS.sz (.slice A_y22_L10h y22_L10h.length c_y22_L10h) y22_L10h.length cs_y22_L10h :: vec 46 R_api_Cell.sz (.slice A_b3_0_L10h b3_0_L10h.length c_b3_0_L10h) b3_0_L10h.length cs_b3_0_L10h :: vec 3 (RpI .i64).sz (.slice A_b_c8_L15h_6_L15h b_c8_L15h_6_L15h.length c_b_c8_L15h_6_L15h) b_c8_L15h_6_L15h.length cs_b_c8_L15h_6_L15h :: vec 3 (RpI .i64).sz (.slice A_b_c8_L15h_7_L15h b_c8_L15h_7_L15h.length c_b_c8_L15h_7_L15h) b_c8_L15h_7_L15h.length cs_b_c8_L15h_7_L15h :: l)) := Eq.mp (by kernel_rfl) hS
          obtain ⟨cs61, hr61, hS⟩ := St.unbun (hS.pull 4)
          obtain ⟨x63, hx63, hFL15⟩ := ar_s hFL15
          refine x_blk <| x_region <| p (yadd ((hE16 54 rfl).trans eL15h_54) rfl hx63) <| p (yl_move rfl) <|
            x_done <|
            ?_
          obtain rfl := Option.some.inj (show some _ = some _ from hFL15)
          exact x_inv ⟨kL15, Nat.lt_succ_self _, b_c8_L15h, (adOf (Ep16 61)), z16_5.length, (capOf (Ep16 61)), cs61, A_b_c8_L15h_6_L15h, b_c8_L15h_6_L15h.length, c_b_c8_L15h_6_L15h, cs_b_c8_L15h_6_L15h, A_b_c8_L15h_7_L15h, b_c8_L15h_7_L15h.length, c_b_c8_L15h_7_L15h, cs_b_c8_L15h_7_L15h, x63, z16_5, b_c8_L15h_6_L15h, b_c8_L15h_7_L15h, r16_3.2, hLL15, ((hE16 1 rfl).trans eL15h_1), ((hE16 3 rfl).trans eL15h_3), ((hE16 8 rfl).trans eL15h_8), ((hE16 22 rfl).trans eL15h_22), ((hE16 23 rfl).trans eL15h_23), ((hE16 24 rfl).trans eL15h_24), ((hE16 53 rfl).trans eL15h_53), rfl, hr61, h_b_c8_L15h_6_L15h, h_b_c8_L15h_7_L15h, (((((((((((hS.pull 4).drop.pull 2).pull 9).pull 9).pull 3).pull 9).pull 6).pull 9).pull 8).pull 9).pull 9)⟩
        · replace hFL15 := it_f hc55 hFL15
          refine x_exitTo _ rfl <|
            ?_
          obtain rfl := Option.some.inj (show some _ = some _ from hFL15)
          exact x_inv ⟨b_c8_L15h, A_b_c8_L15h_5_L15h, b_c8_L15h_5_L15h.length, c_b_c8_L15h_5_L15h, cs_b_c8_L15h_5_L15h, A_b_c8_L15h_6_L15h, b_c8_L15h_6_L15h.length, c_b_c8_L15h_6_L15h, cs_b_c8_L15h_6_L15h, A_b_c8_L15h_7_L15h, b_c8_L15h_7_L15h.length, c_b_c8_L15h_7_L15h, cs_b_c8_L15h_7_L15h, b_c8_L15h_5_L15h, b_c8_L15h_6_L15h, b_c8_L15h_7_L15h, b_s0_1_L15h, hLL15, eL15h_1, eL15h_3, eL15h_8, eL15h_22, eL15h_23, eL15h_24, h_b_c8_L15h_5_L15h, h_b_c8_L15h_6_L15h, h_b_c8_L15h_7_L15h, ((((((((((hS.pull 9).pull 9).pull 9).pull 9).pull 9).pull 9).pull 9).pull 9).pull 9).pull 9)⟩
      rintro E w ⟨b_c8_L15, A_b_c8_L15_5_L15, n_b_c8_L15_5_L15, c_b_c8_L15_5_L15, cs_b_c8_L15_5_L15, A_b_c8_L15_6_L15, n_b_c8_L15_6_L15, c_b_c8_L15_6_L15, cs_b_c8_L15_6_L15, A_b_c8_L15_7_L15, n_b_c8_L15_7_L15, c_b_c8_L15_7_L15, cs_b_c8_L15_7_L15, b_c8_L15_5_L15, b_c8_L15_6_L15, b_c8_L15_7_L15, b_s0_1_L15, rfl, eL15_1, eL15_3, eL15_8, eL15_22, eL15_23, eL15_24, h_b_c8_L15_5_L15, h_b_c8_L15_6_L15, h_b_c8_L15_7_L15, hS⟩
      obtain rfl := St.vec_n (hS.pull 6) h_b_c8_L15_5_L15
      obtain rfl := St.vec_n (hS.pull 7) h_b_c8_L15_6_L15
      obtain rfl := St.vec_n (hS.pull 8) h_b_c8_L15_7_L15
      refine x_region <| pa (at_load one_35 eL15_3 ((hS.pull 1).cell rfl)) <| pa (v := .agg #[.string x28, .bool true, .int .i64 x33, .int .u64 0, .int .i64 x36, .slice A_b_c8_L15_5_L15 b_c8_L15_5_L15.length c_b_c8_L15_5_L15, .slice A_b_c8_L15_6_L15 b_c8_L15_6_L15.length c_b_c8_L15_6_L15, .slice A_b_c8_L15_7_L15 b_c8_L15_7_L15.length c_b_c8_L15_7_L15, .int .i64 r13_14.1, .int .i64 r13_16.1, .int .i64 r13_18.1]) (ld_sub agg_46 eL15_8 rfl rfl (hS.pull 2)) <|
        ?_
      obtain ⟨ρ18_2, hle18_2, fz18_2, hS⟩ := St.vec_fz ((hS.pull 9).pull 7) h_b_c8_L15_5_L15
      obtain ⟨ρ18_2a, hle18_2a, fz18_2a, hS⟩ := St.vec_fz (hS.pull 7) (h_b_c8_L15_6_L15.le hle18_2)
      obtain ⟨ρ18_2b, hle18_2b, fz18_2b, hS⟩ := St.vec_fz (hS.pull 7) (h_b_c8_L15_7_L15.le (hle18_2.trans hle18_2a))
      refine o_buildSlice (vs := [.agg #[.string x28, .bool true, .int .i64 x33, .int .u64 0, .int .i64 x36, .slice A_b_c8_L15_5_L15 b_c8_L15_5_L15.length c_b_c8_L15_5_L15, .slice A_b_c8_L15_6_L15 b_c8_L15_6_L15.length c_b_c8_L15_6_L15, .slice A_b_c8_L15_7_L15 b_c8_L15_7_L15.length c_b_c8_L15_7_L15, .int .i64 r13_14.1, .int .i64 r13_16.1, .int .i64 r13_18.1]]) (cs := [.string x28, .bool true, .int .i64 x33, .int .u64 0, .int .i64 x36, .slice A_b_c8_L15_5_L15 b_c8_L15_5_L15.length c_b_c8_L15_5_L15, .slice A_b_c8_L15_6_L15 b_c8_L15_6_L15.length c_b_c8_L15_6_L15, .slice A_b_c8_L15_7_L15 b_c8_L15_7_L15.length c_b_c8_L15_7_L15, .int .i64 r13_14.1, .int .i64 r13_16.1, .int .i64 r13_18.1]) sl_35 zero_46 (parts_eq (pt (va := .agg #[.string x28, .bool true, .int .i64 x33, .int .u64 0, .int .i64 x36, .slice A_b_c8_L15_5_L15 b_c8_L15_5_L15.length c_b_c8_L15_5_L15, .slice A_b_c8_L15_6_L15 b_c8_L15_6_L15.length c_b_c8_L15_6_L15, .slice A_b_c8_L15_7_L15 b_c8_L15_7_L15.length c_b_c8_L15_7_L15, .int .i64 r13_14.1, .int .i64 r13_16.1, .int .i64 r13_18.1]) rfl pt0)) rfl (by intro v hv; simp only [List.mem_cons, List.not_mem_nil, or_false] at hv; first | (subst hv; rfl) | (rcases hv with rfl <;> rfl)) (by decide) rfl hS (fun b66 w' hS => ?_)
      obtain ⟨z18_3, hz18_3, hFL10⟩ := lv_s hFL10
      obtain ⟨hk18_3, hFL10⟩ := ck_s hFL10
      refine o_ap sl_35 zero_46 rfl (by decide) rfl rfl (hS.pull 7) (h_b3_0_L10h.le ((hle18_2.trans hle18_2a).trans hle18_2b)) (src_blk usl_35 hS rfl rfl) (RepL.cons (R := R_api_Cell) (ρ := ρ18_2b) (x := (T_api_Cell.mk x28 true x33 0 x36 b_c8_L15_5_L15 b_c8_L15_6_L15 b_c8_L15_7_L15 r13_14.1 r13_16.1 r13_18.1)) (cs := [.string x28, .bool true, .int .i64 x33, .int .u64 0, .int .i64 x36, .slice A_b_c8_L15_5_L15 b_c8_L15_5_L15.length c_b_c8_L15_5_L15, .slice A_b_c8_L15_6_L15 b_c8_L15_6_L15.length c_b_c8_L15_6_L15, .slice A_b_c8_L15_7_L15 b_c8_L15_7_L15.length c_b_c8_L15_7_L15, .int .i64 r13_14.1, .int .i64 r13_16.1, .int .i64 r13_18.1]) ⟨_, _, _, _, _, _, _, _, _, rfl, (fz18_2.le (hle18_2a.trans hle18_2b)), (fz18_2a.le hle18_2b), fz18_2b⟩ RepL.nil) hz18_3 hk18_3 (fun A67 c67 cs67 w' hr67 hS => ?_)
      refine o_store1 (v := .slice A67 z18_3.length c67) one_35 eL15_3 rfl rfl rfl (hS.pull 4) (fun w' hS => ?_)
      obtain ⟨x68, hx68, hFL10⟩ := ar_s hFL10
      refine x_done <| x_blk <| x_region <| p (yadd eL15_24 rfl hx68) <|
        p (yl_move rfl) <| x_done <|
        ?_
      obtain rfl := Option.some.inj (show some _ = some _ from hFL10)
      exact x_inv ⟨kL10, Nat.lt_succ_self _, ρ18_2b, A_y22_L10h, y22_L10h.length, c_y22_L10h, cs_y22_L10h, A67, z18_3.length, c67, cs67, y22_L10h, x68, z18_3, b_s0_1_L15, hLL10, (((hleρ_L10h.trans hle18_2).trans hle18_2a).trans hle18_2b), eL15_1, eL15_3, eL15_22, eL15_23, rfl, (h_y22_L10h.le ((hle18_2.trans hle18_2a).trans hle18_2b)), hr67, ((((((((hS.pull 2).drop.pull 4).drop.pull 2).pull 2).pull 5).pull 5).pull 4).pull 5)⟩
    · replace hFL10 := it_f hc25 hFL10
      refine x_exitTo _ rfl <|
        ?_
      obtain rfl := Option.some.inj (show some _ = some _ from hFL10)
      exact x_inv ⟨ρ_L10h, A_b3_0_L10h, b3_0_L10h.length, c_b3_0_L10h, cs_b3_0_L10h, b3_0_L10h, b_s0_1_L10h, hLL10, hleρ_L10h, eL10h_3, h_b3_0_L10h, (((((hS.drop.pull 1).drop.pull 3).pull 3).pull 3).pull 3)⟩
  rintro E w ⟨ρ_L10, A_b3_0_L10, n_b3_0_L10, c_b3_0_L10, cs_b3_0_L10, b3_0_L10, b_s0_1_L10, rfl, hleρ_L10, eL10_3, h_b3_0_L10, hS⟩
  obtain rfl := St.vec_n (hS.pull 2) h_b3_0_L10
  refine x_seq <| x_region <| pa (at_load one_35 eL10_3 (hS.cell rfl)) <| p (yl_assign rfl) <|
    x_done <|
    ?_
  obtain rfl := Option.some.inj (show some _ = some _ from hF)
  exact x_return ⟨_, ⟨_, _, rfl, rfl, rfl⟩, ρ_L10, A_b3_0_L10, b3_0_L10.length, c_b3_0_L10, cs_b3_0_L10, rfl, ((((((hle3_1.trans hle4_1).trans hle5_1).trans hle6_1).trans hle7_1).trans hle8_1).trans hleρ_L10), h_b3_0_L10, (((hS.drop.pull 2).pull 1).pull 2)⟩
attribute [irreducible] P_maskmake_Stream_LayLib

def P_maskmake_Stream_Flip (s0 : T_maskmake_Stream) (n1 : Int) : Option (Bool × Int) :=
  bd (P_maskmake_Stream_Next s0 n1) fun r1_2 =>
  some (decide (r1_2.1 = 0), r1_2.2)
set_option maxHeartbeats 4000000 in
set_option maxRecDepth 100000 in
theorem c_maskmake_Stream_Flip {w0 w : World} {l : List Assn} {ρ : Heap} {b_s0 : Nat} {A_s0_0 : Option Addr} {n_s0_0 : Nat} {c_s0_0 : Nat} {s0 : T_maskmake_Stream} {n1 : Int} {r : (Bool × Int)} (hF : P_maskmake_Stream_Flip s0 n1 = some r) (h_s0_0 : RdS (RpI .i64) ρ A_s0_0 n_s0_0 c_s0_0 s0.L) (hS : St w0 w (cells b_s0 25 [.slice A_s0_0 n_s0_0 c_s0_0, .int .i64 s0.fat] :: ro ρ :: l)) :
    Calls Try.prog 75 #[.pointer (some ⟨b_s0, 0, none⟩), .int .i64 n1] w fun e w' => e = .returned (.bool r.1) ∧ St w0 w' (cells b_s0 25 [.slice A_s0_0 n_s0_0 c_s0_0, .int .i64 r.2] :: ro ρ :: l) := by
  obtain rfl := h_s0_0.n
  refine enterC Try.func75 rfl 9 rfl (by simp) ?_
  obtain ⟨r1_2, hc1_2, hF⟩ := bd_s hF
  refine x_seq <| x_region <| p (yl_assign rfl) <| x_done <|
    x_seq <| x_region <| p (yl_move rfl) <| p (yl_move rfl) <|
    ?_
  have hcall := c_maskmake_Stream_Next hc1_2 h_s0_0 ((hS.pull 1).pull 1)
  refine o_cc call_15 (args2 rfl rfl) hcall ?_
  rintro e w' ⟨rfl, hS⟩
  refine ⟨_, rfl, ?_⟩
  refine p (yl_eql rfl rfl) <| p (yl_assign rfl) <| x_done <|
    ?_
  obtain rfl := Option.some.inj (show some _ = some _ from hF)
  exact x_return ⟨_, ⟨_, _, rfl, rfl, rfl⟩, rfl, ((hS.pull 1).pull 1)⟩
attribute [irreducible] P_maskmake_Stream_Flip

def P_maskmake_Stream_Tree_L8 (bufs6_c25 : Int) : (Int × List Int) → Option ((Int × List Int) ⊕ List Int) := fun (y30_L8h, b5_1_L8h) =>
  if y30_L8h < bufs6_c25 then
    lv (b5_1_L8h ++ [(-1)]) fun z9_3 =>
    ck (apOk 8 z9_3.length) <|
    ar (y30_L8h + 1) fun x37 =>
    some (Sum.inl (x37, z9_3))
  else
    some (Sum.inr b5_1_L8h)
def P_maskmake_Stream_Tree_L12 (z1_1 : List Int) (bufs6_c25 : Int) : (Int × List Int) → Option ((Int × List Int) ⊕ List Int) := fun (y41_L12h, b5_2_L12h) =>
  if y41_L12h < (z1_1.length : Int) then
    ck (inb y41_L12h b5_2_L12h.length) <|
    lv (stt b5_2_L12h y41_L12h (-1)) fun z14_4 =>
    bd (
      if 0 < bufs6_c25 then
        ck (bufs6_c25 ≠ 0) <|
        lv (Int.tmod y41_L12h bufs6_c25) fun x55 =>
        ck (inb y41_L12h z14_4.length) <|
        lv (stt z14_4 y41_L12h x55) fun z16_7 =>
        some z16_7
      else
        some z14_4) fun b5_2_c49 =>
    ar (y41_L12h + 1) fun x57 =>
    some (Sum.inl (x57, b5_2_c49))
  else
    some (Sum.inr b5_2_L12h)
def P_maskmake_Stream_Tree (s0 : T_maskmake_Stream) (flops1 : Int) : Option (T_tree_Tree × Int) :=
  ck (mkOk 8 flops1) <|
  lv ((List.replicate (flops1 : Int).toNat 0 : List Int)) fun z1_1 =>
  bd (
    if (decide (8 < flops1)) = true then
      some (true, s0.fat)
    else
      bd (
        if (decide (0 < flops1)) = true then
          bd (P_maskmake_Stream_Flip s0 2) fun r3_7 =>
          some (r3_7.1, r3_7.2)
        else
          some (false, s0.fat)) fun (y20_g3_7, b_s0_1_g3_7) =>
      some (y20_g3_7, b_s0_1_g3_7)) fun (y20_g3_7q, b_s0_1_g3_7q) =>
  bd (
    if y20_g3_7q = true then
      ar (flops1 + 3) fun x22 =>
      ck ((4 : Int) ≠ 0) <|
      ar (Int.tdiv x22 4) fun x23 =>
      some x23
    else
      some 0) fun bufs6_c20 =>
  bd (
    if 8 < bufs6_c20 then
      ar (flops1 + 7) fun x27 =>
      ck ((8 : Int) ≠ 0) <|
      ar (Int.tdiv x27 8) fun x28 =>
      some x28
    else
      some bufs6_c20) fun bufs6_c25 =>
  bd (
    lp (P_maskmake_Stream_Tree_L8 bufs6_c25) fuel (0, [])) fun b5_1_L8 =>
  bd (
    lp (P_maskmake_Stream_Tree_L12 z1_1 bufs6_c25) fuel (0, z1_1)) fun b5_2_L12 =>
  some ((T_tree_Tree.mk 0 b5_1_L8 b5_2_L12), b_s0_1_g3_7q)
set_option maxHeartbeats 4000000 in
set_option maxRecDepth 100000 in
theorem c_maskmake_Stream_Tree {w0 w : World} {l : List Assn} {ρ : Heap} {b_s0 : Nat} {A_s0_0 : Option Addr} {n_s0_0 : Nat} {c_s0_0 : Nat} {s0 : T_maskmake_Stream} {flops1 : Int} {r : (T_tree_Tree × Int)} (hF : P_maskmake_Stream_Tree s0 flops1 = some r) (h_s0_0 : RdS (RpI .i64) ρ A_s0_0 n_s0_0 c_s0_0 s0.L) (hS : St w0 w (cells b_s0 25 [.slice A_s0_0 n_s0_0 c_s0_0, .int .i64 s0.fat] :: ro ρ :: l)) :
    Calls Try.prog 19 #[.pointer (some ⟨b_s0, 0, none⟩), .int .i64 flops1] w fun e w' => ∃ (A_y0_ret_1 : Option Addr) (n_y0_ret_1 : Nat) (c_y0_ret_1 : Nat) (cs_y0_ret_1 : List Value) (A_y0_ret_2 : Option Addr) (n_y0_ret_2 : Nat) (c_y0_ret_2 : Nat) (cs_y0_ret_2 : List Value), e = .returned (.agg #[.int .i64 r.1.Cell, .slice A_y0_ret_1 n_y0_ret_1 c_y0_ret_1, .slice A_y0_ret_2 n_y0_ret_2 c_y0_ret_2]) ∧ RepL (RpI .i64) ρ r.1.Up cs_y0_ret_1 ∧ RepL (RpI .i64) ρ r.1.Leaf cs_y0_ret_2 ∧ St w0 w' (vec 3 (RpI .i64).sz (.slice A_y0_ret_1 n_y0_ret_1 c_y0_ret_1) n_y0_ret_1 cs_y0_ret_1 :: vec 3 (RpI .i64).sz (.slice A_y0_ret_2 n_y0_ret_2 c_y0_ret_2) n_y0_ret_2 cs_y0_ret_2 :: cells b_s0 25 [.slice A_s0_0 n_s0_0 c_s0_0, .int .i64 r.2] :: ro ρ :: l) := by
  obtain rfl := h_s0_0.n
  refine enterC Try.func19 rfl 59 rfl (by simp) ?_
  refine x_seq <| x_region <|
    ?_
  refine o_alloc zero_38 hS (fun b4 w' hS => ?_)
  refine x_done <| x_seq <| x_region <| p (yl_move rfl) <|
    ?_
  obtain ⟨hk1_1, hF⟩ := ck_s hF
  obtain ⟨z1_1, hz1_1, hF⟩ := lv_s hF
  refine o_mk sl_22 zero_3 (show (RpI .i64).ok ρ _ 0 from rfl) rfl rfl hk1_1 (by decide) hz1_1 hS (fun A9 cs9 w' hr9 hS => ?_)
  refine p (v := .agg #[.int .i64 0, .slice none 0 0, .slice A9 z1_1.length z1_1.length]) (yl_build bld_38 bldf_38 (parts_eq (pt (va := .slice A9 z1_1.length z1_1.length) rfl pt0)) (by kernel_rfl)) <|
    ?_
  refine o_alloc zero_38 hS (fun b5 w' hS => ?_)
  refine o_storeAgg (news := [.int .i64 0, .slice none 0 0, .slice A9 z1_1.length z1_1.length]) agg_38 rfl rfl rfl (by simp [over_length]) hS (fun w' hS => ?_)
  refine x_done <| x_seq <| x_region <| p (yl_assign rfl) <|
    x_done <| x_seq <| x_seq <| x_region <|
    p (yl_move rfl) <| p (yl_gtr rfl rfl) <| p (yl_move rfl) <| pg (v := .int .i64 flops1) 13 (c := !(decide (8 < flops1))) (says_f _) (fun hq => Yl.at (yl_move rfl)) <|
    pg (v := .bool (decide (0 < flops1))) 13 (c := !(decide (8 < flops1))) (says_f _) (fun hq => Yl.at (yl_gtr (cv hq) rfl)) <| pg (v := .bool (decide (0 < flops1))) 13 (c := !(decide (8 < flops1))) (says_f _) (fun hq => Yl.at (yl_move (cv hq))) <| pg (v := .pointer (some ⟨b_s0, 0, none⟩)) 16 (c := (!(decide (8 < flops1))) && (decide (0 < flops1))) (says_ift _ _) (fun hq => Yl.at (yl_move rfl)) <|
    ?_
  obtain ⟨og3_7q, hFg3_7q, hF⟩ := bd_s hF
  refine x_join_ops (fun E w => ∃ (y20_g3_7q : Bool) (b_s0_1_g3_7q : Int), (y20_g3_7q, b_s0_1_g3_7q) = og3_7q ∧ E 1 = .int .i64 flops1 ∧ E 4 = .pointer (some ⟨b4, 0, none⟩) ∧ E 5 = .pointer (some ⟨b5, 0, none⟩) ∧ E 6 = .int .i64 0 ∧ E 20 = .bool y20_g3_7q ∧ St w0 w (cells b4 38 [.int .i64 0, .slice none 0 0, .slice none 0 0] :: cells b5 38 [.int .i64 0, .slice none 0 0, .slice A9 z1_1.length z1_1.length] :: cells b_s0 25 [.slice A_s0_0 s0.L.length c_s0_0, .int .i64 b_s0_1_g3_7q] :: vec 3 (RpI .i64).sz (.slice A9 z1_1.length z1_1.length) z1_1.length cs9 :: ro ρ :: l)) ?_ ?_
  · skip -- g3_7q
    refine x_split (decide (8 < flops1)) (fun hg3_7q => ?_) (fun hg3_7q => ?_)
    · replace hFg3_7q := it_t hg3_7q hFg3_7q
      refine o_pass 18 16 true (says_undef (show _ = undef from (Eq.trans (show _ = (bif !(decide (8 < flops1)) then .bool (decide (0 < flops1)) else undef) from rfl) (cvf (f_not hg3_7q))))) <| o_pass 19 13 false (says_lit (c := true) (Eq.trans (show _ = Value.bool (decide (8 < flops1)) from rfl) (congrArg Value.bool hg3_7q)) rfl) <| p (yl_pick (b := true) (Eq.trans (show _ = Value.bool (decide (8 < flops1)) from rfl) (congrArg Value.bool hg3_7q)) (fun h => rfl) (fun h => nomatch h)) <| x_done <|
        ?_
      exact x_inv ⟨true, s0.fat, (Option.some.inj (show some _ = some _ from hFg3_7q)), rfl, rfl, rfl, rfl, rfl, (((((hS.pull 4).pull 2).pull 4).pull 3).pull 4)⟩
    · replace hFg3_7q := it_bf hg3_7q hFg3_7q
      obtain ⟨og3_7, hFg3_7, hFg3_7q⟩ := bd_s hFg3_7q
      refine x_join_ops (fun E w => ∃ (y20_g3_7 : Bool) (b_s0_1_g3_7 : Int), (y20_g3_7, b_s0_1_g3_7) = og3_7 ∧ E 1 = .int .i64 flops1 ∧ E 4 = .pointer (some ⟨b4, 0, none⟩) ∧ E 5 = .pointer (some ⟨b5, 0, none⟩) ∧ E 6 = .int .i64 0 ∧ E 20 = .bool y20_g3_7 ∧ St w0 w (cells b4 38 [.int .i64 0, .slice none 0 0, .slice none 0 0] :: cells b5 38 [.int .i64 0, .slice none 0 0, .slice A9 z1_1.length z1_1.length] :: cells b_s0 25 [.slice A_s0_0 s0.L.length c_s0_0, .int .i64 b_s0_1_g3_7] :: vec 3 (RpI .i64).sz (.slice A9 z1_1.length z1_1.length) z1_1.length cs9 :: ro ρ :: l)) ?_ ?_
      · skip -- g3_7
        refine x_split (decide (0 < flops1)) (fun hg3_7 => ?_) (fun hg3_7 => ?_)
        · replace hFg3_7 := it_t hg3_7 hFg3_7
          obtain ⟨r3_7, hc3_7, hFg3_7⟩ := bd_s hFg3_7
          refine o_strip 16 true (says_lit (c := true) (Eq.trans (show _ = Value.bool (decide (0 < flops1)) from (Eq.trans (show _ = (bif !(decide (8 < flops1)) then .bool (decide (0 < flops1)) else undef) from rfl) (cv (t_not hg3_7q)))) (congrArg Value.bool hg3_7)) rfl) <|
            ?_
          have hcall := c_maskmake_Stream_Flip hc3_7 h_s0_0 ((hS.pull 4).pull 4)
          refine o_cc call_75 (args2 (Eq.trans (show _ = (bif (!(decide (8 < flops1))) && (decide (0 < flops1)) then .pointer (some ⟨b_s0, 0, none⟩) else undef) from rfl) (cv (and_i (t_not hg3_7q) hg3_7))) rfl) hcall ?_
          rintro e w' ⟨rfl, hS⟩
          refine ⟨_, rfl, ?_⟩
          refine o_strip 13 false (says_lit (c := false) (Eq.trans (show _ = Value.bool (decide (8 < flops1)) from rfl) (congrArg Value.bool hg3_7q)) rfl) <| p (yl_pick (b := true) (Eq.trans (show _ = Value.bool (decide (0 < flops1)) from (Eq.trans (show _ = (bif !(decide (8 < flops1)) then .bool (decide (0 < flops1)) else undef) from rfl) (cv (t_not hg3_7q)))) (congrArg Value.bool hg3_7)) (fun h => rfl) (fun h => nomatch h)) <| p (yl_pick (b := false) (Eq.trans (show _ = Value.bool (decide (8 < flops1)) from rfl) (congrArg Value.bool hg3_7q)) (fun h => nomatch h) (fun h => rfl)) <| x_done <|
            ?_
          exact x_inv ⟨r3_7.1, r3_7.2, (Option.some.inj (show some _ = some _ from hFg3_7)), rfl, rfl, rfl, rfl, rfl, (((((hS.pull 1).pull 3).pull 2).pull 3).pull 4)⟩
        · replace hFg3_7 := it_bf hg3_7 hFg3_7
          refine o_pass 18 16 true (says_lit (c := false) (Eq.trans (show _ = Value.bool (decide (0 < flops1)) from (Eq.trans (show _ = (bif !(decide (8 < flops1)) then .bool (decide (0 < flops1)) else undef) from rfl) (cv (t_not hg3_7q)))) (congrArg Value.bool hg3_7)) rfl) <| o_strip 13 false (says_lit (c := false) (Eq.trans (show _ = Value.bool (decide (8 < flops1)) from rfl) (congrArg Value.bool hg3_7q)) rfl) <| p (yl_pick (b := false) (Eq.trans (show _ = Value.bool (decide (0 < flops1)) from (Eq.trans (show _ = (bif !(decide (8 < flops1)) then .bool (decide (0 < flops1)) else undef) from rfl) (cv (t_not hg3_7q)))) (congrArg Value.bool hg3_7)) (fun h => nomatch h) (fun h => rfl)) <| p (yl_pick (b := false) (Eq.trans (show _ = Value.bool (decide (8 < flops1)) from rfl) (congrArg Value.bool hg3_7q)) (fun h => nomatch h) (fun h => rfl)) <|
            x_done <|
            ?_
          exact x_inv ⟨false, s0.fat, (Option.some.inj (show some _ = some _ from hFg3_7)), rfl, rfl, rfl, rfl, rfl, (((((hS.pull 4).pull 2).pull 4).pull 3).pull 4)⟩
      rintro E w ⟨y20_g3_7, b_s0_1_g3_7, rfl, eg3_7_1, eg3_7_4, eg3_7_5, eg3_7_6, eg3_7_20, hS⟩
      exact x_inv ⟨y20_g3_7, b_s0_1_g3_7, (Option.some.inj (show some _ = some _ from hFg3_7q)), eg3_7_1, eg3_7_4, eg3_7_5, eg3_7_6, eg3_7_20, (((((hS.pull 4).pull 4).pull 4).pull 4).pull 4)⟩
  rintro E w ⟨y20_g3_7q, b_s0_1_g3_7q, rfl, eg3_7q_1, eg3_7q_4, eg3_7q_5, eg3_7q_6, eg3_7q_20, hS⟩
  obtain ⟨oc20, hFc20, hF⟩ := bd_s hF
  refine x_join (fun E w => ∃ (bufs6_c20 : Int), bufs6_c20 = oc20 ∧ E 1 = .int .i64 flops1 ∧ E 4 = .pointer (some ⟨b4, 0, none⟩) ∧ E 5 = .pointer (some ⟨b5, 0, none⟩) ∧ E 6 = .int .i64 bufs6_c20 ∧ St w0 w (cells b4 38 [.int .i64 0, .slice none 0 0, .slice none 0 0] :: cells b5 38 [.int .i64 0, .slice none 0 0, .slice A9 z1_1.length z1_1.length] :: cells b_s0 25 [.slice A_s0_0 s0.L.length c_s0_0, .int .i64 b_s0_1_g3_7q] :: vec 3 (RpI .i64).sz (.slice A9 z1_1.length z1_1.length) z1_1.length cs9 :: ro ρ :: l)) ?_ ?_
  · skip -- c20
    refine x_cond (t := y20_g3_7q) eg3_7q_20 (fun hc20 => ?_) (fun hc20 => ?_)
    · replace hFc20 := it_t hc20 hFc20
      obtain ⟨x22, hx22, hFc20⟩ := ar_s hFc20
      obtain ⟨hk4_2, hFc20⟩ := ck_s hFc20
      obtain ⟨x23, hx23, hFc20⟩ := ar_s hFc20
      refine x_region <| p (yl_move eg3_7q_1) <| p (yadd rfl rfl hx22) <| p (yquo rfl rfl hk4_2 hx23) <|
        p (yl_assign rfl) <| x_done <|
        ?_
      exact x_inv ⟨x23, (Option.some.inj (show some _ = some _ from hFc20)), eg3_7q_1, eg3_7q_4, eg3_7q_5, rfl, (((((hS.pull 4).pull 4).pull 4).pull 4).pull 4)⟩
    · replace hFc20 := it_bf hc20 hFc20
      refine x_skip <|
        ?_
      exact x_inv ⟨0, (Option.some.inj (show some _ = some _ from hFc20)), eg3_7q_1, eg3_7q_4, eg3_7q_5, eg3_7q_6, (((((hS.pull 4).pull 4).pull 4).pull 4).pull 4)⟩
  rintro E w ⟨bufs6_c20, rfl, ec20_1, ec20_4, ec20_5, ec20_6, hS⟩
  refine x_seq <| x_seq <| x_region <| p (yl_move ec20_6) <|
    p (yl_gtr rfl rfl) <| x_done <|
    ?_
  obtain ⟨oc25, hFc25, hF⟩ := bd_s hF
  refine x_join (fun E w => ∃ (bufs6_c25 : Int), bufs6_c25 = oc25 ∧ E 4 = .pointer (some ⟨b4, 0, none⟩) ∧ E 5 = .pointer (some ⟨b5, 0, none⟩) ∧ E 6 = .int .i64 bufs6_c25 ∧ St w0 w (cells b4 38 [.int .i64 0, .slice none 0 0, .slice none 0 0] :: cells b5 38 [.int .i64 0, .slice none 0 0, .slice A9 z1_1.length z1_1.length] :: cells b_s0 25 [.slice A_s0_0 s0.L.length c_s0_0, .int .i64 b_s0_1_g3_7q] :: vec 3 (RpI .i64).sz (.slice A9 z1_1.length z1_1.length) z1_1.length cs9 :: ro ρ :: l)) ?_ ?_
  · skip -- c25
    refine x_cond_p (8 < bufs6_c20) rfl (fun hc25 => ?_) (fun hc25 => ?_)
    · replace hFc25 := it_t hc25 hFc25
      obtain ⟨x27, hx27, hFc25⟩ := ar_s hFc25
      obtain ⟨hk6_2, hFc25⟩ := ck_s hFc25
      obtain ⟨x28, hx28, hFc25⟩ := ar_s hFc25
      refine x_region <| p (yl_move ec20_1) <| p (yadd rfl rfl hx27) <| p (yquo rfl rfl hk6_2 hx28) <|
        p (yl_assign rfl) <| x_done <|
        ?_
      exact x_inv ⟨x28, (Option.some.inj (show some _ = some _ from hFc25)), ec20_4, ec20_5, rfl, (((((hS.pull 4).pull 4).pull 4).pull 4).pull 4)⟩
    · replace hFc25 := it_f hc25 hFc25
      refine x_skip <|
        ?_
      exact x_inv ⟨bufs6_c20, (Option.some.inj (show some _ = some _ from hFc25)), ec20_4, ec20_5, ec20_6, (((((hS.pull 4).pull 4).pull 4).pull 4).pull 4)⟩
  rintro E w ⟨bufs6_c25, rfl, ec25_4, ec25_5, ec25_6, hS⟩
  refine x_seq <| x_seq <| x_region <| p (yl_move ec25_6) <|
    p (yl_move rfl) <| x_done <|
    ?_
  obtain ⟨oL8, hLL8, hF⟩ := bd_s hF
  refine x_join (fun E w => ∃ (A_b5_1_L8 : Option Addr) (n_b5_1_L8 : Nat) (c_b5_1_L8 : Nat) (cs_b5_1_L8 : List Value) (b5_1_L8 : List Int), b5_1_L8 = oL8 ∧ E 4 = .pointer (some ⟨b4, 0, none⟩) ∧ E 5 = .pointer (some ⟨b5, 0, none⟩) ∧ E 6 = .int .i64 bufs6_c25 ∧ RepL (RpI .i64) ρ b5_1_L8 cs_b5_1_L8 ∧ St w0 w (cells b4 38 [.int .i64 0, .slice none 0 0, .slice none 0 0] :: cells b5 38 [.int .i64 0, .slice A_b5_1_L8 n_b5_1_L8 c_b5_1_L8, .slice A9 z1_1.length z1_1.length] :: cells b_s0 25 [.slice A_s0_0 s0.L.length c_s0_0, .int .i64 b_s0_1_g3_7q] :: vec 3 (RpI .i64).sz (.slice A_b5_1_L8 n_b5_1_L8 c_b5_1_L8) n_b5_1_L8 cs_b5_1_L8 :: vec 3 (RpI .i64).sz (.slice A9 z1_1.length z1_1.length) z1_1.length cs9 :: ro ρ :: l)) ?_ ?_
  · skip -- L8
    refine x_block ?_
    replace hS := St.vec_nil hS 3 (RpI .i64).sz
    have hnil_A_b5_1_L8h : RepL (RpI .i64) ρ [] [] := rfl
    refine x_loop (fun k_ E w => ∃ (A_b5_1_L8h : Option Addr) (n_b5_1_L8h : Nat) (c_b5_1_L8h : Nat) (cs_b5_1_L8h : List Value) (y30_L8h : Int) (b5_1_L8h : List Int), lp (P_maskmake_Stream_Tree_L8 bufs6_c25) k_ (y30_L8h, b5_1_L8h) = some oL8 ∧ E 4 = .pointer (some ⟨b4, 0, none⟩) ∧ E 5 = .pointer (some ⟨b5, 0, none⟩) ∧ E 6 = .int .i64 bufs6_c25 ∧ E 29 = .int .i64 bufs6_c25 ∧ E 30 = .int .i64 y30_L8h ∧ RepL (RpI .i64) ρ b5_1_L8h cs_b5_1_L8h ∧ St w0 w (cells b4 38 [.int .i64 0, .slice none 0 0, .slice none 0 0] :: cells b5 38 [.int .i64 0, .slice A_b5_1_L8h n_b5_1_L8h c_b5_1_L8h, .slice A9 z1_1.length z1_1.length] :: cells b_s0 25 [.slice A_s0_0 s0.L.length c_s0_0, .int .i64 b_s0_1_g3_7q] :: vec 3 (RpI .i64).sz (.slice A_b5_1_L8h n_b5_1_L8h c_b5_1_L8h) n_b5_1_L8h cs_b5_1_L8h :: vec 3 (RpI .i64).sz (.slice A9 z1_1.length z1_1.length) z1_1.length cs9 :: ro ρ :: l)) fuel ⟨none, 0, 0, [], 0, [], hLL8, ec25_4, ec25_5, ec25_6, rfl, rfl, hnil_A_b5_1_L8h, ((((((hS.pull 5).pull 5).pull 2).pull 5).pull 5).pull 5)⟩ ?_
    rintro kL8 E w ⟨A_b5_1_L8h, n_b5_1_L8h, c_b5_1_L8h, cs_b5_1_L8h, y30_L8h, b5_1_L8h, hLL8, eL8h_4, eL8h_5, eL8h_6, eL8h_29, eL8h_30, h_b5_1_L8h, hS⟩
    obtain rfl := St.vec_n (hS.pull 3) h_b5_1_L8h
    obtain ⟨kL8, obL8, rfl, hFL8, hLL8⟩ := lp_s hLL8
    refine x_seq <| x_region <| p (yl_lss eL8h_30 eL8h_29) <| x_done <|
      x_seq <|
      x_cond_p (y30_L8h < bufs6_c25) rfl (fun hc31 => ?_) (fun hc31 => ?_)
    · replace hFL8 := it_t hc31 hFL8
      refine x_skip <| x_seq <| x_block <| x_region <|
        p (yl_field0 fld_38_1 eL8h_5) <| pa (at_load one_22 rfl ((hS.pull 1).cell rfl)) <|
        ?_
      refine o_buildSlice (vs := [.int .i64 (-1)]) (cs := [.int .i64 (-1)]) sl_22 zero_3 (parts_eq (pt (va := .int .i64 (-1)) rfl pt0)) rfl (by intro v hv; simp only [List.mem_cons, List.not_mem_nil, or_false] at hv; first | (subst hv; rfl) | (rcases hv with rfl <;> rfl)) (by decide) rfl hS (fun b34 w' hS => ?_)
      obtain ⟨z9_3, hz9_3, hFL8⟩ := lv_s hFL8
      obtain ⟨hk9_3, hFL8⟩ := ck_s hFL8
      refine o_ap sl_22 zero_3 rfl (by decide) rfl rfl (hS.pull 4) h_b5_1_L8h (src_blk usl_22 hS rfl rfl) (RepL.cons (R := (RpI .i64)) (ρ := ρ) (x := (-1)) (cs := [.int .i64 (-1)]) rfl RepL.nil) hz9_3 hk9_3 (fun A35 c35 cs35 w' hr35 hS => ?_)
      refine p (yl_field0 fld_38_1 eL8h_5) <|
        ?_
      refine o_store1 (v := .slice A35 z9_3.length c35) one_22 rfl rfl rfl rfl (hS.pull 3) (fun w' hS => ?_)
      obtain ⟨x37, hx37, hFL8⟩ := ar_s hFL8
      refine x_done <| x_blk <| x_region <| p (yadd eL8h_30 rfl hx37) <|
        p (yl_move rfl) <| x_done <|
        ?_
      obtain rfl := Option.some.inj (show some _ = some _ from hFL8)
      exact x_inv ⟨kL8, Nat.lt_succ_self _, A35, z9_3.length, c35, cs35, x37, z9_3, hLL8, eL8h_4, eL8h_5, eL8h_6, eL8h_29, rfl, hr35, (((((((hS.pull 2).drop.pull 5).pull 5).pull 3).pull 5).pull 4).pull 5)⟩
    · replace hFL8 := it_f hc31 hFL8
      refine x_exitTo _ rfl <|
        ?_
      obtain rfl := Option.some.inj (show some _ = some _ from hFL8)
      exact x_inv ⟨A_b5_1_L8h, b5_1_L8h.length, c_b5_1_L8h, cs_b5_1_L8h, b5_1_L8h, hLL8, eL8h_4, eL8h_5, eL8h_6, h_b5_1_L8h, ((((((hS.pull 5).pull 5).pull 5).pull 5).pull 5).pull 5)⟩
  rintro E w ⟨A_b5_1_L8, n_b5_1_L8, c_b5_1_L8, cs_b5_1_L8, b5_1_L8, rfl, eL8_4, eL8_5, eL8_6, h_b5_1_L8, hS⟩
  obtain rfl := St.vec_n (hS.pull 3) h_b5_1_L8
  refine x_seq <| x_seq <| x_region <| p (yl_field0 fld_38_2 eL8_5) <|
    pa (at_load one_22 rfl ((hS.pull 1).cell rfl)) <| p (yl_len_slice usl_22 rfl) <| p (yl_move rfl) <| x_done <|
    ?_
  obtain ⟨oL12, hLL12, hF⟩ := bd_s hF
  refine x_join (fun E w => ∃ (cs_b5_2_L12 : List Value) (b5_2_L12 : List Int), b5_2_L12 = oL12 ∧ E 4 = .pointer (some ⟨b4, 0, none⟩) ∧ E 5 = .pointer (some ⟨b5, 0, none⟩) ∧ RepL (RpI .i64) ρ b5_2_L12 cs_b5_2_L12 ∧ St w0 w (cells b4 38 [.int .i64 0, .slice none 0 0, .slice none 0 0] :: cells b5 38 [.int .i64 0, .slice A_b5_1_L8 b5_1_L8.length c_b5_1_L8, .slice A9 z1_1.length z1_1.length] :: cells b_s0 25 [.slice A_s0_0 s0.L.length c_s0_0, .int .i64 b_s0_1_g3_7q] :: vec 3 (RpI .i64).sz (.slice A_b5_1_L8 b5_1_L8.length c_b5_1_L8) b5_1_L8.length cs_b5_1_L8 :: vec 3 (RpI .i64).sz (.slice A9 z1_1.length z1_1.length) z1_1.length cs_b5_2_L12 :: ro ρ :: l)) ?_ ?_
  · skip -- L12
    refine x_block ?_
    refine x_loop (fun k_ E w => ∃ (cs_b5_2_L12h : List Value) (y41_L12h : Int) (b5_2_L12h : List Int), lp (P_maskmake_Stream_Tree_L12 z1_1 bufs6_c25) k_ (y41_L12h, b5_2_L12h) = some oL12 ∧ E 4 = .pointer (some ⟨b4, 0, none⟩) ∧ E 5 = .pointer (some ⟨b5, 0, none⟩) ∧ E 6 = .int .i64 bufs6_c25 ∧ E 40 = .int .i64 (z1_1.length : Int) ∧ E 41 = .int .i64 y41_L12h ∧ RepL (RpI .i64) ρ b5_2_L12h cs_b5_2_L12h ∧ St w0 w (cells b4 38 [.int .i64 0, .slice none 0 0, .slice none 0 0] :: cells b5 38 [.int .i64 0, .slice A_b5_1_L8 b5_1_L8.length c_b5_1_L8, .slice A9 z1_1.length z1_1.length] :: cells b_s0 25 [.slice A_s0_0 s0.L.length c_s0_0, .int .i64 b_s0_1_g3_7q] :: vec 3 (RpI .i64).sz (.slice A_b5_1_L8 b5_1_L8.length c_b5_1_L8) b5_1_L8.length cs_b5_1_L8 :: vec 3 (RpI .i64).sz (.slice A9 z1_1.length z1_1.length) z1_1.length cs_b5_2_L12h :: ro ρ :: l)) fuel ⟨cs9, 0, z1_1, hLL12, eL8_4, eL8_5, eL8_6, rfl, rfl, hr9, ((((((hS.pull 5).pull 5).pull 5).pull 5).pull 5).pull 5)⟩ ?_
    rintro kL12 E w ⟨cs_b5_2_L12h, y41_L12h, b5_2_L12h, hLL12, eL12h_4, eL12h_5, eL12h_6, eL12h_40, eL12h_41, h_b5_2_L12h, hS⟩
    obtain ⟨kL12, obL12, rfl, hFL12, hLL12⟩ := lp_s hLL12
    refine x_seq <| x_region <| p (yl_lss eL12h_41 eL12h_40) <| x_done <|
      x_seq <|
      x_cond_p (y41_L12h < (z1_1.length : Int)) rfl (fun hc42 => ?_) (fun hc42 => ?_)
    · replace hFL12 := it_t hc42 hFL12
      obtain ⟨hk14_3, hFL12⟩ := ck_s hFL12
      refine x_skip <| x_seq <| x_block <| x_seq <|
        x_region <| p (yl_move eL12h_41) <| p (yl_assign rfl) <| x_done <|
        x_seq <| x_region <| p (yl_field0 fld_38_2 eL12h_5) <| pa (at_load one_22 rfl ((hS.pull 1).cell rfl)) <|
        p (yl_move rfl) <| p (yix_o sl_22 rfl rfl (hS.pull 4) h_b5_2_L12h hk14_3) <|
        ?_
      obtain ⟨z14_4, hz14_4, hFL12⟩ := lv_s hFL12
      refine o_put' (news := [.int .i64 (-1)]) sz_3 rfl rfl rfl rfl (o := 0) rfl hk14_3 rfl (hS.pull 4) h_b5_2_L12h (Le.refl _) (fun c hc => ok_all hc (show (RpI .i64).ok ρ [.int .i64 (-1)] (-1) from rfl)) hz14_4 (fun cs14_4 w' hr14_4 hS => ?_)
      refine x_done <| x_seq <| x_region <| p (yl_move eL12h_6) <|
        p (yl_gtr rfl rfl) <| x_done <|
        ?_
      obtain ⟨oc49, hFc49, hFL12⟩ := bd_s hFL12
      refine x_join (fun E w => ∃ (cs_b5_2_c49 : List Value) (b5_2_c49 : List Int), b5_2_c49 = oc49 ∧ E 4 = .pointer (some ⟨b4, 0, none⟩) ∧ E 5 = .pointer (some ⟨b5, 0, none⟩) ∧ E 6 = .int .i64 bufs6_c25 ∧ E 40 = .int .i64 (z1_1.length : Int) ∧ E 41 = .int .i64 y41_L12h ∧ RepL (RpI .i64) ρ b5_2_c49 cs_b5_2_c49 ∧ St w0 w (cells b4 38 [.int .i64 0, .slice none 0 0, .slice none 0 0] :: cells b5 38 [.int .i64 0, .slice A_b5_1_L8 b5_1_L8.length c_b5_1_L8, .slice A9 z1_1.length z1_1.length] :: cells b_s0 25 [.slice A_s0_0 s0.L.length c_s0_0, .int .i64 b_s0_1_g3_7q] :: vec 3 (RpI .i64).sz (.slice A_b5_1_L8 b5_1_L8.length c_b5_1_L8) b5_1_L8.length cs_b5_1_L8 :: vec 3 (RpI .i64).sz (.slice A9 z1_1.length z1_1.length) z1_1.length cs_b5_2_c49 :: ro ρ :: l)) ?_ ?_
      · skip -- c49
        refine x_cond_p (0 < bufs6_c25) rfl (fun hc49 => ?_) (fun hc49 => ?_)
        · replace hFc49 := it_t hc49 hFc49
          obtain ⟨hk16_5, hFc49⟩ := ck_s hFc49
          obtain ⟨x55, hx55, hFc49⟩ := lv_s hFc49
          obtain ⟨hk16_6, hFc49⟩ := ck_s hFc49
          refine x_head 7 mixed (by kernel_rfl) hS _ _ rfl rfl <| q (yl_field0 fld_38_2 eL12h_5) <| qa (fun w' hS => at_load one_22 rfl ((hS.pull 2).cell rfl)) <| q (yl_move rfl) <|
            q (yl_move rfl) <| q (yl_move eL12h_6) <| q (yrem rfl rfl hk16_5 hx55) <| q (yix_o sl_22 rfl rfl hS hr14_4 hk16_6) <|
            q_done fun w' hS => ?_
          obtain ⟨z16_7, hz16_7, hFc49⟩ := lv_s hFc49
          refine o_put' (news := [.int .i64 x55]) sz_3 rfl rfl rfl rfl (o := 0) rfl hk16_6 rfl hS hr14_4 (Le.refl _) (fun c hc => ok_all hc (show (RpI .i64).ok ρ [.int .i64 x55] x55 from rfl)) hz16_7 (fun cs16_7 w' hr16_7 hS => ?_)
          refine x_done <|
            ?_
          exact x_inv ⟨cs16_7, z16_7, (Option.some.inj (show some _ = some _ from hFc49)), eL12h_4, eL12h_5, eL12h_6, eL12h_40, eL12h_41, hr16_7, ((((((hS.pull 5).pull 1).pull 5).pull 5).pull 5).pull 5)⟩
        · replace hFc49 := it_f hc49 hFc49
          refine x_skip <|
            ?_
          exact x_inv ⟨cs14_4, z14_4, (Option.some.inj (show some _ = some _ from hFc49)), eL12h_4, eL12h_5, eL12h_6, eL12h_40, eL12h_41, hr14_4, ((((((hS.pull 5).pull 1).pull 5).pull 5).pull 5).pull 5)⟩
      rintro E w ⟨cs_b5_2_c49, b5_2_c49, rfl, ec49_4, ec49_5, ec49_6, ec49_40, ec49_41, h_b5_2_c49, hS⟩
      obtain ⟨x57, hx57, hFL12⟩ := ar_s hFL12
      refine x_blk <| x_region <| p (yadd ec49_41 rfl hx57) <| p (yl_move rfl) <|
        x_done <|
        ?_
      obtain rfl := Option.some.inj (show some _ = some _ from hFL12)
      exact x_inv ⟨kL12, Nat.lt_succ_self _, cs_b5_2_c49, x57, b5_2_c49, hLL12, ec49_4, ec49_5, ec49_6, ec49_40, rfl, h_b5_2_c49, ((((((hS.pull 5).pull 5).pull 5).pull 5).pull 5).pull 5)⟩
    · replace hFL12 := it_f hc42 hFL12
      refine x_exitTo _ rfl <|
        ?_
      obtain rfl := Option.some.inj (show some _ = some _ from hFL12)
      exact x_inv ⟨cs_b5_2_L12h, b5_2_L12h, hLL12, eL12h_4, eL12h_5, h_b5_2_L12h, ((((((hS.pull 5).pull 5).pull 5).pull 5).pull 5).pull 5)⟩
  rintro E w ⟨cs_b5_2_L12, b5_2_L12, rfl, eL12_4, eL12_5, h_b5_2_L12, hS⟩
  refine x_seq <| x_region <| pa (v := .agg #[.int .i64 0, .slice A_b5_1_L8 b5_1_L8.length c_b5_1_L8, .slice A9 z1_1.length z1_1.length]) (ld_sub agg_38 eL12_5 rfl rfl (hS.pull 1)) <|
    ?_
  refine o_storeAgg (news := [.int .i64 0, .slice A_b5_1_L8 b5_1_L8.length c_b5_1_L8, .slice A9 z1_1.length z1_1.length]) agg_38 eL12_4 rfl rfl (by simp [over_length]) hS (fun w' hS => ?_)
  refine x_done <|
    ?_
  obtain rfl := Option.some.inj (show some _ = some _ from hF)
  exact x_return ⟨_, ⟨_, _, _, rfl, eL12_4, ldvA agg_38 rfl (fun j v hj => by rw [add0]; exact St.cell hS hj), rfl⟩, A_b5_1_L8, b5_1_L8.length, c_b5_1_L8, cs_b5_1_L8, A9, z1_1.length, z1_1.length, cs_b5_2_L12, rfl, h_b5_1_L8, h_b5_2_L12, ((((hS.drop.drop.pull 3).pull 1).pull 3).pull 3)⟩
attribute [irreducible] P_maskmake_Stream_Tree

def P_lib_Name_L4 (z3_1 : List Int) : Int → Option (Int ⊕ (Unit ⊕ Bool)) := fun y26_L4h =>
  if y26_L4h < (z3_1.length : Int) then
    ck (inb y26_L4h z3_1.length) <|
    lv (gt z3_1 y26_L4h) fun x29 =>
    lv ((decide (x29 < 97)) || (decide (122 < x29))) fun x35 =>
    lv ((decide (x29 < 48)) || (decide (57 < x29))) fun x42 =>
    lv (x35 && x42) fun x43 =>
    lv (x43 && (decide (x29 ≠ 95))) fun x47 =>
    if x47 = true then
      some (Sum.inr (Sum.inr false))
    else
      ar (y26_L4h + 1) fun x48 =>
      some (Sum.inl x48)
  else
    some (Sum.inr (Sum.inl ()))
def P_lib_Name (s0 : ByteArray) : Option Bool :=
  lv ((decide ((s0.size : Int) < 1)) || (decide (40 < (s0.size : Int)))) fun x12 =>
  ck ((!x12) = true → inb 0 s0.size) <|
  lv (byteAt s0 0) fun x15 =>
  lv (x12 || (decide (x15 < 97))) fun x17 =>
  ck ((!x17) = true → inb 0 s0.size) <|
  lv (byteAt s0 0) fun x20 =>
  lv (x17 || (decide (122 < x20))) fun x22 =>
  if x22 = true then
    some false
  else
    lv (bytesL s0) fun z3_1 =>
    bs (
      lp (P_lib_Name_L4 z3_1) fuel 0) (fun y => some y) fun _ =>
    some true
set_option maxHeartbeats 4000000 in
set_option maxRecDepth 100000 in
theorem c_lib_Name {w0 w : World} {l : List Assn} {ρ : Heap} {s0 : ByteArray} {r : Bool} (hF : P_lib_Name s0 = some r) (hS : St w0 w (ro ρ :: l)) :
    Calls Try.prog 158 #[.string s0] w fun e w' => e = .returned (.bool r) ∧ St w0 w' (ro ρ :: l) := by
  refine enterC Try.func158 rfl 49 rfl (by simp) ?_
  obtain ⟨x12, hx12, hF⟩ := lv_s hF
  obtain ⟨hk1_10, hF⟩ := ck_s hF
  obtain ⟨x15, hx15, hF⟩ := lv_s hF
  obtain ⟨x17, hx17, hF⟩ := lv_s hF
  obtain ⟨hk1_15, hF⟩ := ck_s hF
  obtain ⟨x20, hx20, hF⟩ := lv_s hF
  obtain ⟨x22, hx22, hF⟩ := lv_s hF
  refine x_seq <| x_region <| p (yl_assign rfl) <| x_done <|
    x_seq <| x_seq <| x_region <| p (yl_move rfl) <|
    p (yl_len_string us_9 rfl) <| p (yl_lss rfl rfl) <| p (yl_move rfl) <| pg (v := .string s0) 8 (c := !(decide ((s0.size : Int) < 1))) (says_f _) (fun hq => Yl.at (yl_move rfl)) <|
    pg (v := .int .i64 (s0.size : Int)) 8 (c := !(decide ((s0.size : Int) < 1))) (says_f _) (fun hq => Yl.at (yl_len_string us_9 (cv hq))) <| pg (v := .bool (decide (40 < (s0.size : Int)))) 8 (c := !(decide ((s0.size : Int) < 1))) (says_f _) (fun hq => Yl.at (yl_gtr (cv hq) rfl)) <| p (yor' rfl rfl (fun hc => (cv (t_not hc))) hx12) <| p (yl_move rfl) <|
    pg (v := .string s0) 13 (c := !x12) (says_f _) (fun hq => Yl.at (yl_move rfl)) <| pg (v := .int .u8 x15) 13 (c := !x12) (says_f _) (fun hq => Yl.at (ystr us_9 (cv hq) rfl (hk1_10 hq) hx15)) <| pg (v := .bool (decide (x15 < 97))) 13 (c := !x12) (says_f _) (fun hq => Yl.at (yl_lss (cv hq) rfl)) <| p (yor' rfl rfl (fun hc => (cv (t_not hc))) hx17) <|
    p (yl_move rfl) <| pg (v := .string s0) 18 (c := !x17) (says_f _) (fun hq => Yl.at (yl_move rfl)) <| pg (v := .int .u8 x20) 18 (c := !x17) (says_f _) (fun hq => Yl.at (ystr us_9 (cv hq) rfl (hk1_15 hq) hx20)) <| pg (v := .bool (decide (122 < x20))) 18 (c := !x17) (says_f _) (fun hq => Yl.at (yl_gtr (cv hq) rfl)) <|
    p (yor' rfl rfl (fun hc => (cv (t_not hc))) hx22) <| x_done <|
    x_cond (t := x22) rfl (fun hc22 => ?_) (fun hc22 => ?_)
  · replace hF := it_t hc22 hF
    refine x_seq <| x_region <| p (yl_assign rfl) <| x_done <|
      ?_
    obtain rfl := Option.some.inj (show some _ = some _ from hF)
    exact x_return ⟨_, ⟨_, _, rfl, rfl, rfl⟩, rfl, hS⟩
  · replace hF := it_bf hc22 hF
    refine x_skip <| x_seq <| x_seq <| x_region <|
      p (yl_move rfl) <|
      ?_
    obtain ⟨z3_1, hz3_1, hF⟩ := lv_s hF
    refine o_byt us_9 usl_75 ui_5 rfl hz3_1 hS (fun ρ3_1 A24 c24 w' hle3_1 f24 hS => ?_)
    refine p (yl_len_slice usl_75 rfl) <| p (yl_move rfl) <| x_done <|
      ?_
    obtain ⟨oL4, hLL4, hF⟩ := bs_s hF
    refine x_join (fun E w => (Sum.inl (())) = oL4 ∧ St w0 w (ro ρ3_1 :: l)) ?_ ?_
    · skip -- L4
      refine x_block ?_
      refine x_loop (fun k_ E w => ∃ (y26_L4h : Int), lp (P_lib_Name_L4 z3_1) k_ y26_L4h = some oL4 ∧ E 24 = .slice A24 z3_1.length c24 ∧ E 25 = .int .i64 (z3_1.length : Int) ∧ E 26 = .int .i64 y26_L4h ∧ St w0 w (ro ρ3_1 :: l)) fuel ⟨0, hLL4, rfl, rfl, rfl, hS⟩ ?_
      rintro kL4 E w ⟨y26_L4h, hLL4, eL4h_24, eL4h_25, eL4h_26, hS⟩
      obtain ⟨kL4, obL4, rfl, hFL4, hLL4⟩ := lp_s hLL4
      refine x_seq <| x_region <| p (yl_lss eL4h_26 eL4h_25) <| x_done <|
        x_seq <|
        x_cond_p (y26_L4h < (z3_1.length : Int)) rfl (fun hc27 => ?_) (fun hc27 => ?_)
      · replace hFL4 := it_t hc27 hFL4
        obtain ⟨hk5_0, hFL4⟩ := ck_s hFL4
        obtain ⟨x29, hx29, hFL4⟩ := lv_s hFL4
        obtain ⟨x35, hx35, hFL4⟩ := lv_s hFL4
        obtain ⟨x42, hx42, hFL4⟩ := lv_s hFL4
        obtain ⟨x43, hx43, hFL4⟩ := lv_s hFL4
        obtain ⟨x47, hx47, hFL4⟩ := lv_s hFL4
        refine x_skip <| x_seq <| x_block <| x_seq <|
          x_region <| p (yix_f sl_75 eL4h_24 eL4h_26 f24 hk5_0) <| pa (at_load one_5 rfl (RdS.getW f24 hS hk5_0 hx29)) <| p (yl_assign rfl) <|
          x_done <| x_seq <| x_region <| p (yl_move rfl) <|
          p (yl_lss rfl rfl) <| p (yl_move rfl) <| pg (v := .int .u8 x29) 32 (c := !(decide (x29 < 97))) (says_f _) (fun hq => Yl.at (yl_move rfl)) <| pg (v := .bool (decide (122 < x29))) 32 (c := !(decide (x29 < 97))) (says_f _) (fun hq => Yl.at (yl_gtr (cv hq) rfl)) <|
          p (yor' rfl rfl (fun hc => (cv (t_not hc))) hx35) <| p (yl_move rfl) <| pg (v := .int .u8 x29) 36 (c := x35) (says_t _) (fun hq => Yl.at (yl_move rfl)) <| pg (v := .bool (decide (x29 < 48))) 36 (c := x35) (says_t _) (fun hq => Yl.at (yl_lss (cv hq) rfl)) <|
          pg (v := .bool (decide (x29 < 48))) 36 (c := x35) (says_t _) (fun hq => Yl.at (yl_move (cv hq))) <| pg (v := .int .u8 x29) 39 (c := x35 && !(decide (x29 < 48))) (says_iff _ _) (fun hq => Yl.at (yl_move rfl)) <| pg (v := .bool (decide (57 < x29))) 39 (c := x35 && !(decide (x29 < 48))) (says_iff _ _) (fun hq => Yl.at (yl_gtr (cv hq) rfl)) <| pg (v := .bool x42) 36 (c := x35) (says_t _) (fun hq => Yl.at (yor' (cv hq) rfl (fun hc => (cv (and_i hq (t_not hc)))) hx42)) <|
          p (yand' rfl (fun hc => (cv hc)) rfl hx43) <| p (yl_move rfl) <| pg (v := .int .u8 x29) 44 (c := x43) (says_t _) (fun hq => Yl.at (yl_move rfl)) <| pg (v := .bool (decide (x29 ≠ 95))) 44 (c := x43) (says_t _) (fun hq => Yl.at (yl_neq (cv hq) rfl)) <|
          p (yand' rfl (fun hc => (cv hc)) rfl hx47) <| x_done <|
          x_cond (t := x47) rfl (fun hc47 => ?_) (fun hc47 => ?_)
        · replace hFL4 := it_t hc47 hFL4
          refine x_seq <| x_region <| p (yl_assign rfl) <| x_done <|
            ?_
          obtain rfl := Option.some.inj (show some _ = some _ from hFL4)
          obtain rfl := (show _ = oL4 from hLL4)
          obtain rfl := Option.some.inj (show some _ = some _ from hF)
          exact x_return ⟨_, ⟨_, _, rfl, rfl, rfl⟩, rfl, (ro_back0 hle3_1 hS)⟩
        · replace hFL4 := it_bf hc47 hFL4
          obtain ⟨x48, hx48, hFL4⟩ := ar_s hFL4
          refine x_skip <| x_blk <| x_region <| p (yadd eL4h_26 rfl hx48) <|
            p (yl_move rfl) <| x_done <|
            ?_
          obtain rfl := Option.some.inj (show some _ = some _ from hFL4)
          exact x_inv ⟨kL4, Nat.lt_succ_self _, x48, hLL4, eL4h_24, eL4h_25, rfl, hS⟩
      · replace hFL4 := it_f hc27 hFL4
        refine x_exitTo _ rfl <|
          ?_
        obtain rfl := Option.some.inj (show some _ = some _ from hFL4)
        exact x_inv ⟨hLL4, hS⟩
    rintro E w ⟨rfl, hS⟩
    refine x_seq <| x_region <| p (yl_assign rfl) <| x_done <|
      ?_
    obtain rfl := Option.some.inj (show some _ = some _ from hF)
    exact x_return ⟨_, ⟨_, _, rfl, rfl, rfl⟩, rfl, (ro_back0 hle3_1 hS)⟩
attribute [irreducible] P_lib_Name

def P_netlist_Mask (ins0 : Int) : Option Int :=
  lv ((decide (ins0 < 0)) || (decide (6 < ins0))) fun x9 =>
  if x9 = true then
    some 0
  else
    if ins0 = 6 then
      some 18446744073709551615
    else
      ck (0 ≤ ins0) <|
      lv (shl .u64 (1 : Int) ins0) fun x14 =>
      ck (0 ≤ x14) <|
      lv (shl .u64 (1 : Int) x14) fun x15 =>
      lv ((x15 - 1) % 18446744073709551616) fun x16 =>
      some x16
set_option maxHeartbeats 4000000 in
set_option maxRecDepth 100000 in
theorem c_netlist_Mask {w0 w : World} {l : List Assn} {ρ : Heap} {ins0 : Int} {r : Int} (hF : P_netlist_Mask ins0 = some r) (hS : St w0 w (ro ρ :: l)) :
    Calls Try.prog 159 #[.int .i64 ins0] w fun e w' => e = .returned (.int .u64 r) ∧ St w0 w' (ro ρ :: l) := by
  refine enterC Try.func159 rfl 17 rfl (by simp) ?_
  obtain ⟨x9, hx9, hF⟩ := lv_s hF
  refine x_seq <| x_region <| p (yl_assign rfl) <| x_done <|
    x_seq <| x_block <| x_seq <| x_region <|
    p (yl_move rfl) <| p (yl_lss rfl rfl) <| p (yl_move rfl) <| pg (v := .int .i64 ins0) 6 (c := !(decide (ins0 < 0))) (says_f _) (fun hq => Yl.at (yl_move rfl)) <|
    pg (v := .bool (decide (6 < ins0))) 6 (c := !(decide (ins0 < 0))) (says_f _) (fun hq => Yl.at (yl_gtr (cv hq) rfl)) <| p (yor' rfl rfl (fun hc => (cv (t_not hc))) hx9) <| p (yl_assign rfl) <| x_done <|
    x_cond (t := x9) rfl (fun hc3 => ?_) (fun hc3 => ?_)
  · replace hF := it_t hc3 hF
    refine x_seq <| x_region <| p (yl_assign rfl) <| x_done <|
      ?_
    obtain rfl := Option.some.inj (show some _ = some _ from hF)
    exact x_return ⟨_, ⟨_, _, rfl, rfl, rfl⟩, rfl, hS⟩
  · replace hF := it_bf hc3 hF
    refine x_seq <| x_region <| p (yl_move rfl) <| p (yl_eql rfl rfl) <|
      p (yl_assign rfl) <| x_done <|
      x_cond_p (ins0 = 6) rfl (fun hc10 => ?_) (fun hc10 => ?_)
    · replace hF := it_t hc10 hF
      refine x_seq <| x_region <| p (yl_assign rfl) <| x_done <|
        ?_
      obtain rfl := Option.some.inj (show some _ = some _ from hF)
      exact x_return ⟨_, ⟨_, _, rfl, rfl, rfl⟩, rfl, hS⟩
    · replace hF := it_f hc10 hF
      obtain ⟨hk5_1, hF⟩ := ck_s hF
      obtain ⟨x14, hx14, hF⟩ := lv_s hF
      obtain ⟨hk5_2, hF⟩ := ck_s hF
      obtain ⟨x15, hx15, hF⟩ := lv_s hF
      obtain ⟨x16, hx16, hF⟩ := lv_s hF
      refine x_skip <| x_blk <| x_seq <| x_region <|
        p (yl_move rfl) <| p (yshl rfl rfl hk5_1 hx14) <| p (yshl rfl rfl hk5_2 hx15) <| p (ysubu wm_u64 rfl rfl hx16) <|
        p (yl_assign rfl) <| x_done <|
        ?_
      obtain rfl := Option.some.inj (show some _ = some _ from hF)
      exact x_return ⟨_, ⟨_, _, rfl, rfl, rfl⟩, rfl, hS⟩
attribute [irreducible] P_netlist_Mask

def P_lib_in_L2 (most0 : Int) (l_1 : List Int) : Int → Option (Int ⊕ (Unit ⊕ Bool)) := fun y9_L2h =>
  if y9_L2h < (l_1.length : Int) then
    ck (inb y9_L2h l_1.length) <|
    lv (gt l_1 y9_L2h) fun x12 =>
    lv ((decide (x12 < 0)) || (decide (most0 < x12))) fun x19 =>
    if x19 = true then
      some (Sum.inr (Sum.inr false))
    else
      ar (y9_L2h + 1) fun x20 =>
      some (Sum.inl x20)
  else
    some (Sum.inr (Sum.inl ()))
def P_lib_in (most0 : Int) (l_1 : List Int) : Option Bool :=
  bs (
    lp (P_lib_in_L2 most0 l_1) fuel 0) (fun y => some y) fun _ =>
  some true
set_option maxHeartbeats 4000000 in
set_option maxRecDepth 100000 in
theorem c_lib_in {w0 w : World} {l : List Assn} {ρ : Heap} {A_l_1 : Option Addr} {n_l_1 : Nat} {c_l_1 : Nat} {most0 : Int} {l_1 : List Int} {r : Bool} (hF : P_lib_in most0 l_1 = some r) (h_l_1 : RdS (RpI .i64) ρ A_l_1 n_l_1 c_l_1 l_1) (hS : St w0 w (ro ρ :: l)) :
    Calls Try.prog 160 #[.int .i64 most0, .slice A_l_1 n_l_1 c_l_1] w fun e w' => e = .returned (.bool r) ∧ St w0 w' (ro ρ :: l) := by
  obtain rfl := h_l_1.n
  refine enterC Try.func160 rfl 21 rfl (by simp) ?_
  refine x_seq <| x_region <| p (yl_assign rfl) <| x_done <|
    x_seq <| x_seq <| x_region <| p (yl_move rfl) <|
    p (yl_len_slice usl_22 rfl) <| p (yl_move rfl) <| x_done <|
    ?_
  obtain ⟨oL2, hLL2, hF⟩ := bs_s hF
  refine x_join (fun E w => (Sum.inl (())) = oL2 ∧ St w0 w (ro ρ :: l)) ?_ ?_
  · skip -- L2
    refine x_block ?_
    refine x_loop (fun k_ E w => ∃ (y9_L2h : Int), lp (P_lib_in_L2 most0 l_1) k_ y9_L2h = some oL2 ∧ E 0 = .int .i64 most0 ∧ E 7 = .slice A_l_1 l_1.length c_l_1 ∧ E 8 = .int .i64 (l_1.length : Int) ∧ E 9 = .int .i64 y9_L2h ∧ St w0 w (ro ρ :: l)) fuel ⟨0, hLL2, rfl, rfl, rfl, rfl, hS⟩ ?_
    rintro kL2 E w ⟨y9_L2h, hLL2, eL2h_0, eL2h_7, eL2h_8, eL2h_9, hS⟩
    obtain ⟨kL2, obL2, rfl, hFL2, hLL2⟩ := lp_s hLL2
    refine x_seq <| x_region <| p (yl_lss eL2h_9 eL2h_8) <| x_done <|
      x_seq <|
      x_cond_p (y9_L2h < (l_1.length : Int)) rfl (fun hc10 => ?_) (fun hc10 => ?_)
    · replace hFL2 := it_t hc10 hFL2
      obtain ⟨hk3_0, hFL2⟩ := ck_s hFL2
      obtain ⟨x12, hx12, hFL2⟩ := lv_s hFL2
      obtain ⟨x19, hx19, hFL2⟩ := lv_s hFL2
      refine x_skip <| x_seq <| x_block <| x_seq <|
        x_region <| p (yix_f sl_22 eL2h_7 eL2h_9 h_l_1 hk3_0) <| pa (at_load one_3 rfl (RdS.getW h_l_1 hS hk3_0 hx12)) <| p (yl_assign rfl) <|
        x_done <| x_seq <| x_region <| p (yl_move rfl) <|
        p (yl_lss rfl rfl) <| p (yl_move rfl) <| pg (v := .int .i64 x12) 15 (c := !(decide (x12 < 0))) (says_f _) (fun hq => Yl.at (yl_move rfl)) <| pg (v := .int .i64 most0) 15 (c := !(decide (x12 < 0))) (says_f _) (fun hq => Yl.at (yl_move eL2h_0)) <|
        pg (v := .bool (decide (most0 < x12))) 15 (c := !(decide (x12 < 0))) (says_f _) (fun hq => Yl.at (yl_gtr (cv hq) (cv hq))) <| p (yor' rfl rfl (fun hc => (cv (t_not hc))) hx19) <| x_done <|
        x_cond (t := x19) rfl (fun hc19 => ?_) (fun hc19 => ?_)
      · replace hFL2 := it_t hc19 hFL2
        refine x_seq <| x_region <| p (yl_assign rfl) <| x_done <|
          ?_
        obtain rfl := Option.some.inj (show some _ = some _ from hFL2)
        obtain rfl := (show _ = oL2 from hLL2)
        obtain rfl := Option.some.inj (show some _ = some _ from hF)
        exact x_return ⟨_, ⟨_, _, rfl, rfl, rfl⟩, rfl, hS⟩
      · replace hFL2 := it_bf hc19 hFL2
        obtain ⟨x20, hx20, hFL2⟩ := ar_s hFL2
        refine x_skip <| x_blk <| x_region <| p (yadd eL2h_9 rfl hx20) <|
          p (yl_move rfl) <| x_done <|
          ?_
        obtain rfl := Option.some.inj (show some _ = some _ from hFL2)
        exact x_inv ⟨kL2, Nat.lt_succ_self _, x20, hLL2, eL2h_0, eL2h_7, eL2h_8, rfl, hS⟩
    · replace hFL2 := it_f hc10 hFL2
      refine x_exitTo _ rfl <|
        ?_
      obtain rfl := Option.some.inj (show some _ = some _ from hFL2)
      exact x_inv ⟨hLL2, hS⟩
  rintro E w ⟨rfl, hS⟩
  refine x_seq <| x_region <| p (yl_assign rfl) <| x_done <|
    ?_
  obtain rfl := Option.some.inj (show some _ = some _ from hF)
  exact x_return ⟨_, ⟨_, _, rfl, rfl, rfl⟩, rfl, hS⟩
attribute [irreducible] P_lib_in

def P_lib_CheckCell_L19 (c0 : T_api_Cell) : Int → Option (Int ⊕ (Unit ⊕ Int)) := fun y137_L19h =>
  if y137_L19h < (c0.Min.length : Int) then
    ck (inb y137_L19h c0.Min.length) <|
    lv (gt c0.Min y137_L19h) fun x144 =>
    ck (inb y137_L19h c0.Max.length) <|
    lv (gt c0.Max y137_L19h) fun x149 =>
    if x149 < x144 then
      some (Sum.inr (Sum.inr 5))
    else
      ar (y137_L19h + 1) fun x151 =>
      some (Sum.inl x151)
  else
    some (Sum.inr (Sum.inl ()))
def P_lib_CheckCell (c0 : T_api_Cell) : Option Int :=
  bd (P_lib_Name c0.Name) fun r1_2 =>
  if (!r1_2) = true then
    some 9
  else
    bd (
      if c0.Flop = true then
        ar (c0.Ins + 1) fun x19 =>
        some (1, x19, 1)
      else
        some (0, c0.Ins, c0.Ins)) fun (low3_c16, caps4_c16, ends5_c16) =>
    lv ((decide (c0.Ins < low3_c16)) || (decide (6 < c0.Ins))) fun x29 =>
    lv (c0.Flop && (decide (2 < c0.Ins))) fun x37 =>
    lv (x29 || x37) fun x38 =>
    if x38 = true then
      some 2
    else
      lv ((decide ((c0.Cap.length : Int) ≠ caps4_c16)) || (decide ((c0.Min.length : Int) ≠ ends5_c16))) fun x51 =>
      lv (x51 || (decide ((c0.Max.length : Int) ≠ ends5_c16))) fun x58 =>
      if x58 = true then
        some 4
      else
        lv (c0.Flop && (decide (c0.Table ≠ 0))) fun x66 =>
        bd (gd (!x66) (P_netlist_Mask c0.Ins)) fun r10_12 =>
        lv (bAndNot .u64 c0.Table r10_12) fun x73 =>
        lv (x66 || (decide (x73 ≠ 0))) fun x75 =>
        if x75 = true then
          some 4
        else
          bd (P_lib_in 64 ([c0.Area] : List Int)) fun r12_3 =>
          lv ((!r12_3) || (decide (c0.Area = 0))) fun x86 =>
          bd (
            if x86 = true then
              some true
            else
              bd (P_lib_in 1000 c0.Cap) fun r12_13 =>
              bd (
                if r12_13 = true then
                  bd (P_lib_in 1000 ([c0.Drive] : List Int)) fun r12_20 =>
                  some (!r12_20)
                else
                  some true) fun y76_g12_19 =>
              some y76_g12_19) fun y76_g12_13 =>
          if y76_g12_13 = true then
            some 2
          else
            bd (P_lib_in 10000 c0.Min) fun r14_2 =>
            bd (
              if r14_2 = true then
                bd (P_lib_in 10000 c0.Max) fun r14_7 =>
                bd (
                  if r14_7 = true then
                    bd (P_lib_in 10000 ([c0.Setup, c0.Hold] : List Int)) fun r14_16 =>
                    some (!r14_16)
                  else
                    some true) fun y100_g14_15 =>
                some y100_g14_15
              else
                some true) fun y100_g14_7 =>
            if y100_g14_7 = true then
              some 2
            else
              lv ((decide (c0.Setup ≠ 0)) || (decide (c0.Hold ≠ 0))) fun x132 =>
              lv ((!c0.Flop) && x132) fun x133 =>
              if x133 = true then
                some 4
              else
                bs (
                  lp (P_lib_CheckCell_L19 c0) fuel 0) (fun y => some y) fun _ =>
                some 0
set_option maxHeartbeats 4000000 in
set_option maxRecDepth 100000 in
theorem c_lib_CheckCell {w0 w : World} {l : List Assn} {ρ : Heap} {A_c0_5 : Option Addr} {n_c0_5 : Nat} {c_c0_5 : Nat} {A_c0_6 : Option Addr} {n_c0_6 : Nat} {c_c0_6 : Nat} {A_c0_7 : Option Addr} {n_c0_7 : Nat} {c_c0_7 : Nat} {c0 : T_api_Cell} {r : Int} (hF : P_lib_CheckCell c0 = some r) (h_c0_5 : RdS (RpI .i64) ρ A_c0_5 n_c0_5 c_c0_5 c0.Cap) (h_c0_6 : RdS (RpI .i64) ρ A_c0_6 n_c0_6 c_c0_6 c0.Min) (h_c0_7 : RdS (RpI .i64) ρ A_c0_7 n_c0_7 c_c0_7 c0.Max) (hS : St w0 w (ro ρ :: l)) :
    Calls Try.prog 134 #[.agg #[.string c0.Name, .bool c0.Flop, .int .i64 c0.Ins, .int .u64 c0.Table, .int .i64 c0.Area, .slice A_c0_5 n_c0_5 c_c0_5, .slice A_c0_6 n_c0_6 c_c0_6, .slice A_c0_7 n_c0_7 c_c0_7, .int .i64 c0.Drive, .int .i64 c0.Setup, .int .i64 c0.Hold]] w fun e w' => e = .returned (.int .i64 r) ∧ St w0 w' (ro ρ :: l) := by
  obtain rfl := h_c0_5.n
  obtain rfl := h_c0_6.n
  obtain rfl := h_c0_7.n
  refine enterC Try.func134 rfl 152 rfl (by simp) ?_
  refine x_seq <| x_region <|
    ?_
  refine o_box (cs := [.string c0.Name, .bool c0.Flop, .int .i64 c0.Ins, .int .u64 c0.Table, .int .i64 c0.Area, .slice A_c0_5 c0.Cap.length c_c0_5, .slice A_c0_6 c0.Min.length c_c0_6, .slice A_c0_7 c0.Max.length c_c0_7, .int .i64 c0.Drive, .int .i64 c0.Setup, .int .i64 c0.Hold]) rfl rfl hS (fun b1 w' hS => ?_)
  obtain ⟨r1_2, hc1_2, hF⟩ := bd_s hF
  refine p (yl_assign rfl) <| x_done <| x_seq <| x_seq <|
    x_region <| p (yl_field0 fld_46_0 rfl) <| pa (at_load one_9 rfl (hS.cell rfl)) <|
    ?_
  have hcall := c_lib_Name hc1_2  (hS.pull 1)
  refine o_cc call_158 (args1 rfl) ((Calls.mono hcall (fun e w'' h => And.intro h.1 (h.2.pull 1)))) ?_
  rintro e w' ⟨rfl, hS⟩
  refine ⟨_, rfl, ?_⟩
  refine p (yl_not rfl) <| x_done <|
    x_cond (t := !r1_2) rfl (fun hc10 => ?_) (fun hc10 => ?_)
  · replace hF := it_t hc10 hF
    refine x_seq <| x_region <| p (yl_assign rfl) <| x_done <|
      ?_
    obtain rfl := Option.some.inj (show some _ = some _ from hF)
    exact x_return ⟨_, ⟨_, _, rfl, rfl, rfl⟩, rfl, hS.drop⟩
  · replace hF := it_bf hc10 hF
    refine x_skip <| x_seq <| x_still mixed (by kernel_rfl) hS <| q (yl_field0 fld_46_2 rfl) <|
      qa (fun w' hS => at_load one_3 rfl (hS.cell rfl)) <| q (yl_field0 fld_46_2 rfl) <| qa (fun w' hS => at_load one_3 rfl (hS.cell rfl)) <| q (yl_assign rfl) <|
      q (yl_assign rfl) <| q (yl_assign rfl) <|
      q_done fun w' hS => ?_
    refine x_seq <| x_seq <| x_region <| p (yl_field0 fld_46_1 rfl) <|
      pa (at_load one_4 rfl (hS.cell rfl)) <| x_done <|
      ?_
    obtain ⟨oc16, hFc16, hF⟩ := bd_s hF
    refine x_join (fun E w => ∃ (low3_c16 : Int) (caps4_c16 : Int) (ends5_c16 : Int), (low3_c16, caps4_c16, ends5_c16) = oc16 ∧ E 1 = .pointer (some ⟨b1, 0, none⟩) ∧ E 3 = .int .i64 low3_c16 ∧ E 4 = .int .i64 caps4_c16 ∧ E 5 = .int .i64 ends5_c16 ∧ St w0 w (cells b1 46 [.string c0.Name, .bool c0.Flop, .int .i64 c0.Ins, .int .u64 c0.Table, .int .i64 c0.Area, .slice A_c0_5 c0.Cap.length c_c0_5, .slice A_c0_6 c0.Min.length c_c0_6, .slice A_c0_7 c0.Max.length c_c0_7, .int .i64 c0.Drive, .int .i64 c0.Setup, .int .i64 c0.Hold] :: ro ρ :: l)) ?_ ?_
    · skip -- c16
      refine x_cond (t := c0.Flop) rfl (fun hc16 => ?_) (fun hc16 => ?_)
      · replace hFc16 := it_t hc16 hFc16
        obtain ⟨x19, hx19, hFc16⟩ := ar_s hFc16
        refine x_still mixed (by kernel_rfl) hS <| q (yl_field0 fld_46_2 rfl) <| qa (fun w' hS => at_load one_3 rfl (hS.cell rfl)) <| q (yadd rfl rfl hx19) <|
          q (yl_assign rfl) <| q (yl_assign rfl) <| q (yl_assign rfl) <|
          q_done fun w' hS => ?_
        exact x_inv ⟨1, x19, 1, (Option.some.inj (show some _ = some _ from hFc16)), rfl, rfl, rfl, rfl, ((hS.pull 1).pull 1)⟩
      · replace hFc16 := it_bf hc16 hFc16
        refine x_skip <|
          ?_
        exact x_inv ⟨0, c0.Ins, c0.Ins, (Option.some.inj (show some _ = some _ from hFc16)), rfl, rfl, rfl, rfl, ((hS.pull 1).pull 1)⟩
    rintro E w ⟨low3_c16, caps4_c16, ends5_c16, rfl, ec16_1, ec16_3, ec16_4, ec16_5, hS⟩
    obtain ⟨x29, hx29, hF⟩ := lv_s hF
    obtain ⟨x37, hx37, hF⟩ := lv_s hF
    obtain ⟨x38, hx38, hF⟩ := lv_s hF
    refine x_seq <| x_block <| x_seq <| x_region <|
      p (yl_field0 fld_46_2 ec16_1) <| pa (at_load one_3 rfl (hS.cell rfl)) <| p (yl_move ec16_3) <| p (yl_lss rfl rfl) <|
      p (yl_move rfl) <| pg (v := .pointer (some ⟨b1, 2, none⟩)) 25 (c := !(decide (c0.Ins < low3_c16))) (says_f _) (fun hq => Yl.at (yl_field0 fld_46_2 ec16_1)) <| pg (v := .int .i64 c0.Ins) 25 (c := !(decide (c0.Ins < low3_c16))) (says_f _) (fun hq => at_load one_3 (cv hq) (hS.cell rfl)) <| pg (v := .bool (decide (6 < c0.Ins))) 25 (c := !(decide (c0.Ins < low3_c16))) (says_f _) (fun hq => Yl.at (yl_gtr (cv hq) rfl)) <|
      p (yor' rfl rfl (fun hc => (cv (t_not hc))) hx29) <| p (yl_move rfl) <| pg (v := .pointer (some ⟨b1, 1, none⟩)) 30 (c := !x29) (says_f _) (fun hq => Yl.at (yl_field0 fld_46_1 ec16_1)) <| pg (v := .bool c0.Flop) 30 (c := !x29) (says_f _) (fun hq => at_load one_4 (cv hq) (hS.cell rfl)) <|
      pg (v := .bool c0.Flop) 30 (c := !x29) (says_f _) (fun hq => Yl.at (yl_move (cv hq))) <| pg (v := .pointer (some ⟨b1, 2, none⟩)) 33 (c := (!x29) && c0.Flop) (says_ift _ _) (fun hq => Yl.at (yl_field0 fld_46_2 ec16_1)) <| pg (v := .int .i64 c0.Ins) 33 (c := (!x29) && c0.Flop) (says_ift _ _) (fun hq => at_load one_3 (cv hq) (hS.cell rfl)) <| pg (v := .bool (decide (2 < c0.Ins))) 33 (c := (!x29) && c0.Flop) (says_ift _ _) (fun hq => Yl.at (yl_gtr (cv hq) rfl)) <|
      pg (v := .bool x37) 30 (c := !x29) (says_f _) (fun hq => Yl.at (yand' (cv hq) (fun hc => (cv (and_i hq hc))) rfl hx37)) <| p (yor' rfl rfl (fun hc => (cv (t_not hc))) hx38) <| p (yl_assign rfl) <| x_done <|
      x_cond (t := x38) rfl (fun hc20 => ?_) (fun hc20 => ?_)
    · replace hF := it_t hc20 hF
      refine x_seq <| x_region <| p (yl_assign rfl) <| x_done <|
        ?_
      obtain rfl := Option.some.inj (show some _ = some _ from hF)
      exact x_return ⟨_, ⟨_, _, rfl, rfl, rfl⟩, rfl, hS.drop⟩
    · replace hF := it_bf hc20 hF
      obtain ⟨x51, hx51, hF⟩ := lv_s hF
      obtain ⟨x58, hx58, hF⟩ := lv_s hF
      refine x_seq <| x_region <| p (yl_field0 fld_46_5 ec16_1) <| pa (at_load one_22 rfl (hS.cell rfl)) <|
        p (yl_len_slice usl_22 rfl) <| p (yl_move ec16_4) <| p (yl_neq rfl rfl) <| p (yl_move rfl) <|
        pg (v := .pointer (some ⟨b1, 6, none⟩)) 45 (c := !(decide ((c0.Cap.length : Int) ≠ caps4_c16))) (says_f _) (fun hq => Yl.at (yl_field0 fld_46_6 ec16_1)) <| pg (v := .slice A_c0_6 c0.Min.length c_c0_6) 45 (c := !(decide ((c0.Cap.length : Int) ≠ caps4_c16))) (says_f _) (fun hq => at_load one_22 (cv hq) (hS.cell rfl)) <| pg (v := .int .i64 (c0.Min.length : Int)) 45 (c := !(decide ((c0.Cap.length : Int) ≠ caps4_c16))) (says_f _) (fun hq => Yl.at (yl_len_slice usl_22 (cv hq))) <| pg (v := .int .i64 ends5_c16) 45 (c := !(decide ((c0.Cap.length : Int) ≠ caps4_c16))) (says_f _) (fun hq => Yl.at (yl_move ec16_5)) <|
        pg (v := .bool (decide ((c0.Min.length : Int) ≠ ends5_c16))) 45 (c := !(decide ((c0.Cap.length : Int) ≠ caps4_c16))) (says_f _) (fun hq => Yl.at (yl_neq (cv hq) (cv hq))) <| p (yor' rfl rfl (fun hc => (cv (t_not hc))) hx51) <| p (yl_move rfl) <| pg (v := .pointer (some ⟨b1, 7, none⟩)) 52 (c := !x51) (says_f _) (fun hq => Yl.at (yl_field0 fld_46_7 ec16_1)) <|
        pg (v := .slice A_c0_7 c0.Max.length c_c0_7) 52 (c := !x51) (says_f _) (fun hq => at_load one_22 (cv hq) (hS.cell rfl)) <| pg (v := .int .i64 (c0.Max.length : Int)) 52 (c := !x51) (says_f _) (fun hq => Yl.at (yl_len_slice usl_22 (cv hq))) <| pg (v := .int .i64 ends5_c16) 52 (c := !x51) (says_f _) (fun hq => Yl.at (yl_move ec16_5)) <| pg (v := .bool (decide ((c0.Max.length : Int) ≠ ends5_c16))) 52 (c := !x51) (says_f _) (fun hq => Yl.at (yl_neq (cv hq) (cv hq))) <|
        p (yor' rfl rfl (fun hc => (cv (t_not hc))) hx58) <| p (yl_assign rfl) <| x_done <|
        x_cond (t := x58) rfl (fun hc39 => ?_) (fun hc39 => ?_)
      · replace hF := it_t hc39 hF
        refine x_seq <| x_region <| p (yl_assign rfl) <| x_done <|
          ?_
        obtain rfl := Option.some.inj (show some _ = some _ from hF)
        exact x_return ⟨_, ⟨_, _, rfl, rfl, rfl⟩, rfl, hS.drop⟩
      · replace hF := it_bf hc39 hF
        obtain ⟨x66, hx66, hF⟩ := lv_s hF
        obtain ⟨r10_12, hc10_12, hF⟩ := bd_s hF
        obtain ⟨x73, hx73, hF⟩ := lv_s hF
        obtain ⟨x75, hx75, hF⟩ := lv_s hF
        refine x_seq <| x_still mixed (by kernel_rfl) hS <| q (yl_field0 fld_46_1 ec16_1) <| qa (fun w' hS => at_load one_4 rfl (hS.cell rfl)) <|
          q (yl_move rfl) <| qg (v := .pointer (some ⟨b1, 3, none⟩)) 62 (c := c0.Flop) (says_t _) (fun hq w' hS => Yl.at (yl_field0 fld_46_3 ec16_1)) <| qg (v := .int .u64 c0.Table) 62 (c := c0.Flop) (says_t _) (fun hq w' hS => at_load one_44 (cv hq) (hS.cell rfl)) <| qg (v := .bool (decide (c0.Table ≠ 0))) 62 (c := c0.Flop) (says_t _) (fun hq w' hS => Yl.at (yl_neq (cv hq) rfl)) <|
          q (yand' rfl (fun hc => (cv hc)) rfl hx66) <| q (yl_move rfl) <| qg (v := .pointer (some ⟨b1, 3, none⟩)) 67 (c := !x66) (says_f _) (fun hq w' hS => Yl.at (yl_field0 fld_46_3 ec16_1)) <| qg (v := .int .u64 c0.Table) 67 (c := !x66) (says_f _) (fun hq w' hS => at_load one_44 (cv hq) (hS.cell rfl)) <|
          qg (v := .pointer (some ⟨b1, 2, none⟩)) 67 (c := !x66) (says_f _) (fun hq w' hS => Yl.at (yl_field0 fld_46_2 ec16_1)) <| qg (v := .int .i64 c0.Ins) 67 (c := !x66) (says_f _) (fun hq w' hS => at_load one_3 (cv hq) (hS.cell rfl)) <| qccg (v := .int .u64 r10_12) 67 (c := !x66) (says_f _) call_159 (fun hq => (args1 (cv hq))) (fun hq w' hS => by
            have hcall := c_netlist_Mask (gd_t hc10_12 hq)  (hS.pull 1)
            exact (Calls.mono hcall (fun e w'' h => And.intro h.1 (h.2.pull 1)))) <| qg (v := .int .u64 x73) 67 (c := !x66) (says_f _) (fun hq w' hS => Yl.at (yandNot (cv hq) (cv hq) hx73)) <|
          qg (v := .bool (decide (x73 ≠ 0))) 67 (c := !x66) (says_f _) (fun hq w' hS => Yl.at (yl_neq (cv hq) rfl)) <| q (yor' rfl rfl (fun hc => (cv (t_not hc))) hx75) <| q (yl_assign rfl) <|
          q_done fun w' hS => ?_
        refine x_cond (t := x75) rfl (fun hc59 => ?_) (fun hc59 => ?_)
        · replace hF := it_t hc59 hF
          refine x_seq <| x_region <| p (yl_assign rfl) <| x_done <|
            ?_
          obtain rfl := Option.some.inj (show some _ = some _ from hF)
          exact x_return ⟨_, ⟨_, _, rfl, rfl, rfl⟩, rfl, hS.drop⟩
        · replace hF := it_bf hc59 hF
          refine x_seq <| x_region <| p (yl_field0 fld_46_4 ec16_1) <| pa (at_load one_3 rfl (hS.cell rfl)) <|
            ?_
          refine o_buildSlice (vs := [.int .i64 c0.Area]) (cs := [.int .i64 c0.Area]) sl_22 zero_3 (parts_eq (pt (va := .int .i64 c0.Area) rfl pt0)) rfl (by intro v hv; simp only [List.mem_cons, List.not_mem_nil, or_false] at hv; first | (subst hv; rfl) | (rcases hv with rfl <;> rfl)) (by decide) rfl hS (fun b79 w' hS => ?_)
          have hl12_3 : RepL (RpI .i64) ρ ([c0.Area] : List Int) [.int .i64 c0.Area] := (RepL.cons (cs := [.int .i64 c0.Area]) rfl RepL.nil)
          replace hS := St.vec_of (n := 1) (sz := (RpI .i64).sz) hS rfl (by decide)
          obtain ⟨r12_3, hc12_3, hF⟩ := bd_s hF
          obtain ⟨ρl0, hll0, hlf0, hS0, back0⟩ := St.lend ((hS.pull 2).pull 1) hl12_3
          have hcall := c_lib_in hc12_3 hlf0 hS0
          refine o_cc call_160 (args2 rfl rfl) ((Calls.mono hcall (fun e w'' h => And.intro h.1 ((((back0 h.2).pull 1).pull 2).pull 2)))) ?_
          rintro e w' ⟨rfl, hS⟩
          refine ⟨_, rfl, ?_⟩
          obtain ⟨x86, hx86, hF⟩ := lv_s hF
          refine p (yl_not rfl) <| p (yl_move rfl) <| pg (v := .pointer (some ⟨b1, 4, none⟩)) 82 (c := !(!r12_3)) (says_f _) (fun hq => Yl.at (yl_field0 fld_46_4 ec16_1)) <| pg (v := .int .i64 c0.Area) 82 (c := !(!r12_3)) (says_f _) (fun hq => at_load one_3 (cv hq) ((hS.pull 1).cell rfl)) <|
            pg (v := .bool (decide (c0.Area = 0))) 82 (c := !(!r12_3)) (says_f _) (fun hq => Yl.at (yl_eql (cv hq) rfl)) <| p (yor' rfl rfl (fun hc => (cv (t_not hc))) hx86) <| p (yl_move rfl) <| pg (v := .pointer (some ⟨b1, 5, none⟩)) 87 (c := !x86) (says_f _) (fun hq => Yl.at (yl_field0 fld_46_5 ec16_1)) <|
            pg (v := .slice A_c0_5 c0.Cap.length c_c0_5) 87 (c := !x86) (says_f _) (fun hq => at_load one_22 (cv hq) ((hS.pull 1).cell rfl)) <|
            ?_
          obtain ⟨og12_13, hFg12_13, hF⟩ := bd_s hF
          refine x_join_ops (fun E w => ∃ (y76_g12_13 : Bool), y76_g12_13 = og12_13 ∧ E 1 = .pointer (some ⟨b1, 0, none⟩) ∧ E 76 = .bool y76_g12_13 ∧ St w0 w (cells b1 46 [.string c0.Name, .bool c0.Flop, .int .i64 c0.Ins, .int .u64 c0.Table, .int .i64 c0.Area, .slice A_c0_5 c0.Cap.length c_c0_5, .slice A_c0_6 c0.Min.length c_c0_6, .slice A_c0_7 c0.Max.length c_c0_7, .int .i64 c0.Drive, .int .i64 c0.Setup, .int .i64 c0.Hold] :: ro ρ :: l)) ?_ ?_
          · skip -- g12_13
            refine x_split x86 (fun hg12_13 => ?_) (fun hg12_13 => ?_)
            · replace hFg12_13 := it_t hg12_13 hFg12_13
              refine o_pass 90 87 false (says_lit (c := true) (Eq.trans (show _ = Value.bool x86 from rfl) (congrArg Value.bool hg12_13)) rfl) <| o_pass 91 87 false (says_lit (c := true) (Eq.trans (show _ = Value.bool x86 from rfl) (congrArg Value.bool hg12_13)) rfl) <| p (yl_pick (b := true) (Eq.trans (show _ = Value.bool x86 from rfl) (congrArg Value.bool hg12_13)) (fun h => rfl) (fun h => nomatch h)) <| p (yl_move rfl) <|
                o_pass 94 93 false (says_lit (c := true) rfl rfl) <| o_pass 95 93 false (says_lit (c := true) rfl rfl) <| o_pass 96 93 false (says_lit (c := true) rfl rfl) <| o_pass 97 93 false (says_lit (c := true) rfl rfl) <|
                o_pass 98 93 false (says_lit (c := true) rfl rfl) <| p (yl_pick (b := true) rfl (fun h => rfl) (fun h => nomatch h)) <| p (yl_assign rfl) <| x_done <|
                ?_
              exact x_inv ⟨true, (Option.some.inj (show some _ = some _ from hFg12_13)), ec16_1, rfl, ((hS.drop.pull 1).pull 1)⟩
            · replace hFg12_13 := it_bf hg12_13 hFg12_13
              obtain ⟨r12_13, hc12_13, hFg12_13⟩ := bd_s hFg12_13
              refine o_strip 87 false (says_lit (c := false) (Eq.trans (show _ = Value.bool x86 from rfl) (congrArg Value.bool hg12_13)) rfl) <|
                ?_
              have hcall := c_lib_in hc12_13 h_c0_5 (hS.pull 2)
              refine o_cc call_160 (args2 rfl (Eq.trans (show _ = (bif !x86 then .slice A_c0_5 c0.Cap.length c_c0_5 else undef) from rfl) (cv (t_not hg12_13)))) ((Calls.mono hcall (fun e w'' h => And.intro h.1 ((h.2.pull 2).pull 2)))) ?_
              rintro e w' ⟨rfl, hS⟩
              refine ⟨_, rfl, ?_⟩
              refine o_strip 87 false (says_lit (c := false) (Eq.trans (show _ = Value.bool x86 from rfl) (congrArg Value.bool hg12_13)) rfl) <| p (yl_not rfl) <| p (yl_pick (b := false) (Eq.trans (show _ = Value.bool x86 from rfl) (congrArg Value.bool hg12_13)) (fun h => nomatch h) (fun h => rfl)) <| p (yl_move rfl) <|
                pg (v := .pointer (some ⟨b1, 8, none⟩)) 93 (c := !(!r12_13)) (says_f _) (fun hq => Yl.at (yl_field0 fld_46_8 ec16_1)) <| pg (v := .int .i64 c0.Drive) 93 (c := !(!r12_13)) (says_f _) (fun hq => at_load one_3 (cv hq) ((hS.pull 1).cell rfl)) <|
                ?_
              obtain ⟨og12_19, hFg12_19, hFg12_13⟩ := bd_s hFg12_13
              refine x_join_ops (fun E w => ∃ (y76_g12_19 : Bool), y76_g12_19 = og12_19 ∧ E 1 = .pointer (some ⟨b1, 0, none⟩) ∧ E 76 = .bool y76_g12_19 ∧ St w0 w (cells b1 46 [.string c0.Name, .bool c0.Flop, .int .i64 c0.Ins, .int .u64 c0.Table, .int .i64 c0.Area, .slice A_c0_5 c0.Cap.length c_c0_5, .slice A_c0_6 c0.Min.length c_c0_6, .slice A_c0_7 c0.Max.length c_c0_7, .int .i64 c0.Drive, .int .i64 c0.Setup, .int .i64 c0.Hold] :: ro ρ :: l)) ?_ ?_
              · skip -- g12_19
                refine x_split r12_13 (fun hg12_19 => ?_) (fun hg12_19 => ?_)
                · replace hFg12_19 := it_t hg12_19 hFg12_19
                  refine o_strip 93 false (says_lit (c := false) (Eq.trans (show _ = Value.bool (!r12_13) from rfl) (congrArg Value.bool (f_not hg12_19))) rfl) <|
                    ?_
                  refine o_buildSlice (vs := [.int .i64 c0.Drive]) (cs := [.int .i64 c0.Drive]) sl_22 zero_3 (parts_eq (pt (va := .int .i64 c0.Drive) (Eq.trans (show _ = (bif !(!r12_13) then .int .i64 c0.Drive else undef) from rfl) (cv (t_not (f_not hg12_19)))) pt0)) rfl (by intro v hv; simp only [List.mem_cons, List.not_mem_nil, or_false] at hv; first | (subst hv; rfl) | (rcases hv with rfl <;> rfl)) (by decide) rfl hS (fun b96 w' hS => ?_)
                  refine o_strip 93 false (says_lit (c := false) (Eq.trans (show _ = Value.bool (!r12_13) from rfl) (congrArg Value.bool (f_not hg12_19))) rfl) <|
                    ?_
                  have hl12_20 : RepL (RpI .i64) ρ ([c0.Drive] : List Int) [.int .i64 c0.Drive] := (RepL.cons (cs := [.int .i64 c0.Drive]) rfl RepL.nil)
                  replace hS := St.vec_of (n := 1) (sz := (RpI .i64).sz) hS rfl (by decide)
                  obtain ⟨r12_20, hc12_20, hFg12_19⟩ := bd_s hFg12_19
                  obtain ⟨ρl0, hll0, hlf0, hS0, back0⟩ := St.lend ((hS.pull 3).pull 1) hl12_20
                  have hcall := c_lib_in hc12_20 hlf0 hS0
                  refine o_cc call_160 (args2 rfl rfl) ((Calls.mono hcall (fun e w'' h => And.intro h.1 (((((back0 h.2).pull 1).pull 3).pull 3).pull 3)))) ?_
                  rintro e w' ⟨rfl, hS⟩
                  refine ⟨_, rfl, ?_⟩
                  refine o_strip 93 false (says_lit (c := false) (Eq.trans (show _ = Value.bool (!r12_13) from rfl) (congrArg Value.bool (f_not hg12_19))) rfl) <| p (yl_not rfl) <| p (yl_pick (b := false) (Eq.trans (show _ = Value.bool (!r12_13) from rfl) (congrArg Value.bool (f_not hg12_19))) (fun h => nomatch h) (fun h => rfl)) <| p (yl_assign rfl) <|
                    x_done <|
                    ?_
                  exact x_inv ⟨!r12_20, (Option.some.inj (show some _ = some _ from hFg12_19)), ec16_1, rfl, ((hS.drop.drop.pull 1).pull 1)⟩
                · replace hFg12_19 := it_bf hg12_19 hFg12_19
                  refine o_pass 96 93 false (says_lit (c := true) (Eq.trans (show _ = Value.bool (!r12_13) from rfl) (congrArg Value.bool (t_not hg12_19))) rfl) <| o_pass 97 93 false (says_lit (c := true) (Eq.trans (show _ = Value.bool (!r12_13) from rfl) (congrArg Value.bool (t_not hg12_19))) rfl) <| o_pass 98 93 false (says_lit (c := true) (Eq.trans (show _ = Value.bool (!r12_13) from rfl) (congrArg Value.bool (t_not hg12_19))) rfl) <| p (yl_pick (b := true) (Eq.trans (show _ = Value.bool (!r12_13) from rfl) (congrArg Value.bool (t_not hg12_19))) (fun h => rfl) (fun h => nomatch h)) <|
                    p (yl_assign rfl) <| x_done <|
                    ?_
                  exact x_inv ⟨true, (Option.some.inj (show some _ = some _ from hFg12_19)), ec16_1, rfl, ((hS.drop.pull 1).pull 1)⟩
              rintro E w ⟨y76_g12_19, rfl, eg12_19_1, eg12_19_76, hS⟩
              exact x_inv ⟨y76_g12_19, (Option.some.inj (show some _ = some _ from hFg12_13)), eg12_19_1, eg12_19_76, ((hS.pull 1).pull 1)⟩
          rintro E w ⟨y76_g12_13, rfl, eg12_13_1, eg12_13_76, hS⟩
          refine x_cond (t := y76_g12_13) eg12_13_76 (fun hc76 => ?_) (fun hc76 => ?_)
          · replace hF := it_t hc76 hF
            refine x_seq <| x_region <| p (yl_assign rfl) <| x_done <|
              ?_
            obtain rfl := Option.some.inj (show some _ = some _ from hF)
            exact x_return ⟨_, ⟨_, _, rfl, rfl, rfl⟩, rfl, hS.drop⟩
          · replace hF := it_bf hc76 hF
            obtain ⟨r14_2, hc14_2, hF⟩ := bd_s hF
            refine x_seq <| x_region <| p (yl_field0 fld_46_6 eg12_13_1) <| pa (at_load one_22 rfl (hS.cell rfl)) <|
              ?_
            have hcall := c_lib_in hc14_2 h_c0_6 (hS.pull 1)
            refine o_cc call_160 (args2 rfl rfl) ((Calls.mono hcall (fun e w'' h => And.intro h.1 (h.2.pull 1)))) ?_
            rintro e w' ⟨rfl, hS⟩
            refine ⟨_, rfl, ?_⟩
            refine p (yl_not rfl) <| p (yl_move rfl) <| pg (v := .pointer (some ⟨b1, 7, none⟩)) 105 (c := !(!r14_2)) (says_f _) (fun hq => Yl.at (yl_field0 fld_46_7 eg12_13_1)) <| pg (v := .slice A_c0_7 c0.Max.length c_c0_7) 105 (c := !(!r14_2)) (says_f _) (fun hq => at_load one_22 (cv hq) (hS.cell rfl)) <|
              ?_
            obtain ⟨og14_7, hFg14_7, hF⟩ := bd_s hF
            refine x_join_ops (fun E w => ∃ (y100_g14_7 : Bool), y100_g14_7 = og14_7 ∧ E 1 = .pointer (some ⟨b1, 0, none⟩) ∧ E 100 = .bool y100_g14_7 ∧ St w0 w (cells b1 46 [.string c0.Name, .bool c0.Flop, .int .i64 c0.Ins, .int .u64 c0.Table, .int .i64 c0.Area, .slice A_c0_5 c0.Cap.length c_c0_5, .slice A_c0_6 c0.Min.length c_c0_6, .slice A_c0_7 c0.Max.length c_c0_7, .int .i64 c0.Drive, .int .i64 c0.Setup, .int .i64 c0.Hold] :: ro ρ :: l)) ?_ ?_
            · skip -- g14_7
              refine x_split r14_2 (fun hg14_7 => ?_) (fun hg14_7 => ?_)
              · replace hFg14_7 := it_t hg14_7 hFg14_7
                obtain ⟨r14_7, hc14_7, hFg14_7⟩ := bd_s hFg14_7
                refine o_strip 105 false (says_lit (c := false) (Eq.trans (show _ = Value.bool (!r14_2) from rfl) (congrArg Value.bool (f_not hg14_7))) rfl) <|
                  ?_
                have hcall := c_lib_in hc14_7 h_c0_7 (hS.pull 1)
                refine o_cc call_160 (args2 rfl (Eq.trans (show _ = (bif !(!r14_2) then .slice A_c0_7 c0.Max.length c_c0_7 else undef) from rfl) (cv (t_not (f_not hg14_7))))) ((Calls.mono hcall (fun e w'' h => And.intro h.1 (h.2.pull 1)))) ?_
                rintro e w' ⟨rfl, hS⟩
                refine ⟨_, rfl, ?_⟩
                refine o_strip 105 false (says_lit (c := false) (Eq.trans (show _ = Value.bool (!r14_2) from rfl) (congrArg Value.bool (f_not hg14_7))) rfl) <| p (yl_not rfl) <| p (yl_pick (b := false) (Eq.trans (show _ = Value.bool (!r14_2) from rfl) (congrArg Value.bool (f_not hg14_7))) (fun h => nomatch h) (fun h => rfl)) <| p (yl_move rfl) <|
                  pg (v := .pointer (some ⟨b1, 9, none⟩)) 111 (c := !(!r14_7)) (says_f _) (fun hq => Yl.at (yl_field0 fld_46_9 eg12_13_1)) <| pg (v := .int .i64 c0.Setup) 111 (c := !(!r14_7)) (says_f _) (fun hq => at_load one_3 (cv hq) (hS.cell rfl)) <| pg (v := .pointer (some ⟨b1, 10, none⟩)) 111 (c := !(!r14_7)) (says_f _) (fun hq => Yl.at (yl_field0 fld_46_10 eg12_13_1)) <| pg (v := .int .i64 c0.Hold) 111 (c := !(!r14_7)) (says_f _) (fun hq => at_load one_3 (cv hq) (hS.cell rfl)) <|
                  ?_
                obtain ⟨og14_15, hFg14_15, hFg14_7⟩ := bd_s hFg14_7
                refine x_join_ops (fun E w => ∃ (y100_g14_15 : Bool), y100_g14_15 = og14_15 ∧ E 1 = .pointer (some ⟨b1, 0, none⟩) ∧ E 100 = .bool y100_g14_15 ∧ St w0 w (cells b1 46 [.string c0.Name, .bool c0.Flop, .int .i64 c0.Ins, .int .u64 c0.Table, .int .i64 c0.Area, .slice A_c0_5 c0.Cap.length c_c0_5, .slice A_c0_6 c0.Min.length c_c0_6, .slice A_c0_7 c0.Max.length c_c0_7, .int .i64 c0.Drive, .int .i64 c0.Setup, .int .i64 c0.Hold] :: ro ρ :: l)) ?_ ?_
                · skip -- g14_15
                  refine x_split r14_7 (fun hg14_15 => ?_) (fun hg14_15 => ?_)
                  · replace hFg14_15 := it_t hg14_15 hFg14_15
                    refine o_strip 111 false (says_lit (c := false) (Eq.trans (show _ = Value.bool (!r14_7) from rfl) (congrArg Value.bool (f_not hg14_15))) rfl) <|
                      ?_
                    refine o_buildSlice (vs := [.int .i64 c0.Setup, .int .i64 c0.Hold]) (cs := [.int .i64 c0.Setup, .int .i64 c0.Hold]) sl_22 zero_3 (parts_eq (pt (va := .int .i64 c0.Setup) (Eq.trans (show _ = (bif !(!r14_7) then .int .i64 c0.Setup else undef) from rfl) (cv (t_not (f_not hg14_15)))) (pt (va := .int .i64 c0.Hold) (Eq.trans (show _ = (bif !(!r14_7) then .int .i64 c0.Hold else undef) from rfl) (cv (t_not (f_not hg14_15)))) pt0))) rfl (by intro v hv; simp only [List.mem_cons, List.not_mem_nil, or_false] at hv; first | (subst hv; rfl) | (rcases hv with rfl | rfl <;> rfl)) (by decide) rfl hS (fun b116 w' hS => ?_)
                    refine o_strip 111 false (says_lit (c := false) (Eq.trans (show _ = Value.bool (!r14_7) from rfl) (congrArg Value.bool (f_not hg14_15))) rfl) <|
                      ?_
                    have hl14_16 : RepL (RpI .i64) ρ ([c0.Setup, c0.Hold] : List Int) [.int .i64 c0.Setup, .int .i64 c0.Hold] := (RepL.cons (cs := [.int .i64 c0.Setup]) rfl (RepL.cons (cs := [.int .i64 c0.Hold]) rfl RepL.nil))
                    replace hS := St.vec_of (n := 2) (sz := (RpI .i64).sz) hS rfl (by decide)
                    obtain ⟨r14_16, hc14_16, hFg14_15⟩ := bd_s hFg14_15
                    obtain ⟨ρl0, hll0, hlf0, hS0, back0⟩ := St.lend ((hS.pull 2).pull 1) hl14_16
                    have hcall := c_lib_in hc14_16 hlf0 hS0
                    refine o_cc call_160 (args2 rfl rfl) ((Calls.mono hcall (fun e w'' h => And.intro h.1 ((((back0 h.2).pull 1).pull 2).pull 2)))) ?_
                    rintro e w' ⟨rfl, hS⟩
                    refine ⟨_, rfl, ?_⟩
                    refine o_strip 111 false (says_lit (c := false) (Eq.trans (show _ = Value.bool (!r14_7) from rfl) (congrArg Value.bool (f_not hg14_15))) rfl) <| p (yl_not rfl) <| p (yl_pick (b := false) (Eq.trans (show _ = Value.bool (!r14_7) from rfl) (congrArg Value.bool (f_not hg14_15))) (fun h => nomatch h) (fun h => rfl)) <| p (yl_assign rfl) <|
                      x_done <|
                      ?_
                    exact x_inv ⟨!r14_16, (Option.some.inj (show some _ = some _ from hFg14_15)), eg12_13_1, rfl, ((hS.drop.pull 1).pull 1)⟩
                  · replace hFg14_15 := it_bf hg14_15 hFg14_15
                    refine o_pass 116 111 false (says_lit (c := true) (Eq.trans (show _ = Value.bool (!r14_7) from rfl) (congrArg Value.bool (t_not hg14_15))) rfl) <| o_pass 117 111 false (says_lit (c := true) (Eq.trans (show _ = Value.bool (!r14_7) from rfl) (congrArg Value.bool (t_not hg14_15))) rfl) <| o_pass 118 111 false (says_lit (c := true) (Eq.trans (show _ = Value.bool (!r14_7) from rfl) (congrArg Value.bool (t_not hg14_15))) rfl) <| p (yl_pick (b := true) (Eq.trans (show _ = Value.bool (!r14_7) from rfl) (congrArg Value.bool (t_not hg14_15))) (fun h => rfl) (fun h => nomatch h)) <|
                      p (yl_assign rfl) <| x_done <|
                      ?_
                    exact x_inv ⟨true, (Option.some.inj (show some _ = some _ from hFg14_15)), eg12_13_1, rfl, ((hS.pull 1).pull 1)⟩
                rintro E w ⟨y100_g14_15, rfl, eg14_15_1, eg14_15_100, hS⟩
                exact x_inv ⟨y100_g14_15, (Option.some.inj (show some _ = some _ from hFg14_7)), eg14_15_1, eg14_15_100, ((hS.pull 1).pull 1)⟩
              · replace hFg14_7 := it_bf hg14_7 hFg14_7
                refine o_pass 108 105 false (says_lit (c := true) (Eq.trans (show _ = Value.bool (!r14_2) from rfl) (congrArg Value.bool (t_not hg14_7))) rfl) <| o_pass 109 105 false (says_lit (c := true) (Eq.trans (show _ = Value.bool (!r14_2) from rfl) (congrArg Value.bool (t_not hg14_7))) rfl) <| p (yl_pick (b := true) (Eq.trans (show _ = Value.bool (!r14_2) from rfl) (congrArg Value.bool (t_not hg14_7))) (fun h => rfl) (fun h => nomatch h)) <| p (yl_move rfl) <|
                  o_pass 112 111 false (says_lit (c := true) rfl rfl) <| o_pass 113 111 false (says_lit (c := true) rfl rfl) <| o_pass 114 111 false (says_lit (c := true) rfl rfl) <| o_pass 115 111 false (says_lit (c := true) rfl rfl) <|
                  o_pass 116 111 false (says_lit (c := true) rfl rfl) <| o_pass 117 111 false (says_lit (c := true) rfl rfl) <| o_pass 118 111 false (says_lit (c := true) rfl rfl) <| p (yl_pick (b := true) rfl (fun h => rfl) (fun h => nomatch h)) <|
                  p (yl_assign rfl) <| x_done <|
                  ?_
                exact x_inv ⟨true, (Option.some.inj (show some _ = some _ from hFg14_7)), eg12_13_1, rfl, ((hS.pull 1).pull 1)⟩
            rintro E w ⟨y100_g14_7, rfl, eg14_7_1, eg14_7_100, hS⟩
            refine x_cond (t := y100_g14_7) eg14_7_100 (fun hc100 => ?_) (fun hc100 => ?_)
            · replace hF := it_t hc100 hF
              refine x_seq <| x_region <| p (yl_assign rfl) <| x_done <|
                ?_
              obtain rfl := Option.some.inj (show some _ = some _ from hF)
              exact x_return ⟨_, ⟨_, _, rfl, rfl, rfl⟩, rfl, hS.drop⟩
            · replace hF := it_bf hc100 hF
              obtain ⟨x132, hx132, hF⟩ := lv_s hF
              obtain ⟨x133, hx133, hF⟩ := lv_s hF
              refine x_seq <| x_region <| p (yl_field0 fld_46_1 eg14_7_1) <| pa (at_load one_4 rfl (hS.cell rfl)) <|
                p (yl_not rfl) <| p (yl_move rfl) <| pg (v := .pointer (some ⟨b1, 9, none⟩)) 124 (c := !c0.Flop) (says_t _) (fun hq => Yl.at (yl_field0 fld_46_9 eg14_7_1)) <| pg (v := .int .i64 c0.Setup) 124 (c := !c0.Flop) (says_t _) (fun hq => at_load one_3 (cv hq) (hS.cell rfl)) <|
                pg (v := .bool (decide (c0.Setup ≠ 0))) 124 (c := !c0.Flop) (says_t _) (fun hq => Yl.at (yl_neq (cv hq) rfl)) <| pg (v := .bool (decide (c0.Setup ≠ 0))) 124 (c := !c0.Flop) (says_t _) (fun hq => Yl.at (yl_move (cv hq))) <| pg (v := .pointer (some ⟨b1, 10, none⟩)) 128 (c := (!c0.Flop) && !(decide (c0.Setup ≠ 0))) (says_iff _ _) (fun hq => Yl.at (yl_field0 fld_46_10 eg14_7_1)) <| pg (v := .int .i64 c0.Hold) 128 (c := (!c0.Flop) && !(decide (c0.Setup ≠ 0))) (says_iff _ _) (fun hq => at_load one_3 (cv hq) (hS.cell rfl)) <|
                pg (v := .bool (decide (c0.Hold ≠ 0))) 128 (c := (!c0.Flop) && !(decide (c0.Setup ≠ 0))) (says_iff _ _) (fun hq => Yl.at (yl_neq (cv hq) rfl)) <| pg (v := .bool x132) 124 (c := !c0.Flop) (says_t _) (fun hq => Yl.at (yor' (cv hq) rfl (fun hc => (cv (and_i hq (t_not hc)))) hx132)) <| p (yand' rfl (fun hc => (cv hc)) rfl hx133) <| p (yl_assign rfl) <|
                x_done <|
                x_cond (t := x133) rfl (fun hc120 => ?_) (fun hc120 => ?_)
              · replace hF := it_t hc120 hF
                refine x_seq <| x_region <| p (yl_assign rfl) <| x_done <|
                  ?_
                obtain rfl := Option.some.inj (show some _ = some _ from hF)
                exact x_return ⟨_, ⟨_, _, rfl, rfl, rfl⟩, rfl, hS.drop⟩
              · replace hF := it_bf hc120 hF
                refine x_skip <| x_blk <| x_seq <| x_seq <|
                  x_region <| p (yl_field0 fld_46_6 eg14_7_1) <| pa (at_load one_22 rfl (hS.cell rfl)) <| p (yl_len_slice usl_22 rfl) <|
                  p (yl_move rfl) <| x_done <|
                  ?_
                obtain ⟨oL19, hLL19, hF⟩ := bs_s hF
                refine x_join (fun E w => (Sum.inl (())) = oL19 ∧ St w0 w (ro ρ :: l)) ?_ ?_
                · skip -- L19
                  refine x_block ?_
                  refine x_loop (fun k_ E w => ∃ (y137_L19h : Int), lp (P_lib_CheckCell_L19 c0) k_ y137_L19h = some oL19 ∧ E 1 = .pointer (some ⟨b1, 0, none⟩) ∧ E 136 = .int .i64 (c0.Min.length : Int) ∧ E 137 = .int .i64 y137_L19h ∧ St w0 w (cells b1 46 [.string c0.Name, .bool c0.Flop, .int .i64 c0.Ins, .int .u64 c0.Table, .int .i64 c0.Area, .slice A_c0_5 c0.Cap.length c_c0_5, .slice A_c0_6 c0.Min.length c_c0_6, .slice A_c0_7 c0.Max.length c_c0_7, .int .i64 c0.Drive, .int .i64 c0.Setup, .int .i64 c0.Hold] :: ro ρ :: l)) fuel ⟨0, hLL19, eg14_7_1, rfl, rfl, ((hS.pull 1).pull 1)⟩ ?_
                  rintro kL19 E w ⟨y137_L19h, hLL19, eL19h_1, eL19h_136, eL19h_137, hS⟩
                  obtain ⟨kL19, obL19, rfl, hFL19, hLL19⟩ := lp_s hLL19
                  refine x_seq <| x_region <| p (yl_lss eL19h_137 eL19h_136) <| x_done <|
                    x_seq <|
                    x_cond_p (y137_L19h < (c0.Min.length : Int)) rfl (fun hc138 => ?_) (fun hc138 => ?_)
                  · replace hFL19 := it_t hc138 hFL19
                    obtain ⟨hk21_3, hFL19⟩ := ck_s hFL19
                    obtain ⟨x144, hx144, hFL19⟩ := lv_s hFL19
                    obtain ⟨hk21_8, hFL19⟩ := ck_s hFL19
                    obtain ⟨x149, hx149, hFL19⟩ := lv_s hFL19
                    refine x_skip <| x_seq <| x_block <| x_seq <|
                      x_region <| p (yl_move eL19h_137) <| p (yl_assign rfl) <| x_done <|
                      x_seq <| x_still mixed (by kernel_rfl) hS <| q (yl_field0 fld_46_6 eL19h_1) <| qa (fun w' hS => at_load one_22 rfl (hS.cell rfl)) <|
                      q (yl_move rfl) <| q (yix_f sl_22 rfl rfl h_c0_6 hk21_3) <| qa (fun w' hS => at_load one_3 rfl (RdS.getW h_c0_6 (hS.pull 1) hk21_3 hx144)) <| q (yl_field0 fld_46_7 eL19h_1) <|
                      qa (fun w' hS => at_load one_22 rfl (hS.cell rfl)) <| q (yl_move rfl) <| q (yix_f sl_22 rfl rfl h_c0_7 hk21_8) <| qa (fun w' hS => at_load one_3 rfl (RdS.getW h_c0_7 (hS.pull 1) hk21_8 hx149)) <|
                      q (yl_gtr rfl rfl) <|
                      q_done fun w' hS => ?_
                    refine x_cond_p (x149 < x144) rfl (fun hc150 => ?_) (fun hc150 => ?_)
                    · replace hFL19 := it_t hc150 hFL19
                      refine x_seq <| x_region <| p (yl_assign rfl) <| x_done <|
                        ?_
                      obtain rfl := Option.some.inj (show some _ = some _ from hFL19)
                      obtain rfl := (show _ = oL19 from hLL19)
                      obtain rfl := Option.some.inj (show some _ = some _ from hF)
                      exact x_return ⟨_, ⟨_, _, rfl, rfl, rfl⟩, rfl, hS.drop⟩
                    · replace hFL19 := it_f hc150 hFL19
                      obtain ⟨x151, hx151, hFL19⟩ := ar_s hFL19
                      refine x_skip <| x_blk <| x_region <| p (yadd eL19h_137 rfl hx151) <|
                        p (yl_move rfl) <| x_done <|
                        ?_
                      obtain rfl := Option.some.inj (show some _ = some _ from hFL19)
                      exact x_inv ⟨kL19, Nat.lt_succ_self _, x151, hLL19, eL19h_1, eL19h_136, rfl, ((hS.pull 1).pull 1)⟩
                  · replace hFL19 := it_f hc138 hFL19
                    refine x_exitTo _ rfl <|
                      ?_
                    obtain rfl := Option.some.inj (show some _ = some _ from hFL19)
                    exact x_inv ⟨hLL19, hS.drop⟩
                rintro E w ⟨rfl, hS⟩
                refine x_seq <| x_region <| p (yl_assign rfl) <| x_done <|
                  ?_
                obtain rfl := Option.some.inj (show some _ = some _ from hF)
                exact x_return ⟨_, ⟨_, _, rfl, rfl, rfl⟩, rfl, hS⟩
attribute [irreducible] P_lib_CheckCell

def P_lib_Check_1 (d0 : T_api_Cell) (v1 : T_api_Cell) : Option Unit :=
  some ()
set_option maxHeartbeats 4000000 in
set_option maxRecDepth 100000 in
theorem c_lib_Check_1 {w0 w : World} {l : List Assn} {ρ : Heap} {A_d0_5 : Option Addr} {n_d0_5 : Nat} {c_d0_5 : Nat} {A_d0_6 : Option Addr} {n_d0_6 : Nat} {c_d0_6 : Nat} {A_d0_7 : Option Addr} {n_d0_7 : Nat} {c_d0_7 : Nat} {b_v1 : Nat} {A_v1_5 : Option Addr} {n_v1_5 : Nat} {c_v1_5 : Nat} {A_v1_6 : Option Addr} {n_v1_6 : Nat} {c_v1_6 : Nat} {A_v1_7 : Option Addr} {n_v1_7 : Nat} {c_v1_7 : Nat} {d0 : T_api_Cell} {v1 : T_api_Cell} {r : Unit} (hF : P_lib_Check_1 d0 v1 = some r) (h_d0_5 : RdS (RpI .i64) ρ A_d0_5 n_d0_5 c_d0_5 d0.Cap) (h_d0_6 : RdS (RpI .i64) ρ A_d0_6 n_d0_6 c_d0_6 d0.Min) (h_d0_7 : RdS (RpI .i64) ρ A_d0_7 n_d0_7 c_d0_7 d0.Max) (h_v1_5 : RdS (RpI .i64) ρ A_v1_5 n_v1_5 c_v1_5 v1.Cap) (h_v1_6 : RdS (RpI .i64) ρ A_v1_6 n_v1_6 c_v1_6 v1.Min) (h_v1_7 : RdS (RpI .i64) ρ A_v1_7 n_v1_7 c_v1_7 v1.Max) (hS : St w0 w (cells b_v1 46 [.string v1.Name, .bool v1.Flop, .int .i64 v1.Ins, .int .u64 v1.Table, .int .i64 v1.Area, .slice A_v1_5 n_v1_5 c_v1_5, .slice A_v1_6 n_v1_6 c_v1_6, .slice A_v1_7 n_v1_7 c_v1_7, .int .i64 v1.Drive, .int .i64 v1.Setup, .int .i64 v1.Hold] :: ro ρ :: l)) :
    Calls Try.prog 136 #[.agg #[.string d0.Name, .bool d0.Flop, .int .i64 d0.Ins, .int .u64 d0.Table, .int .i64 d0.Area, .slice A_d0_5 n_d0_5 c_d0_5, .slice A_d0_6 n_d0_6 c_d0_6, .slice A_d0_7 n_d0_7 c_d0_7, .int .i64 d0.Drive, .int .i64 d0.Setup, .int .i64 d0.Hold], .pointer (some ⟨b_v1, 0, none⟩)] w fun e w' => e = .returned (.bool (decide (d0.Name = v1.Name))) ∧ St w0 w' (cells b_v1 46 [.string v1.Name, .bool v1.Flop, .int .i64 v1.Ins, .int .u64 v1.Table, .int .i64 v1.Area, .slice A_v1_5 n_v1_5 c_v1_5, .slice A_v1_6 n_v1_6 c_v1_6, .slice A_v1_7 n_v1_7 c_v1_7, .int .i64 v1.Drive, .int .i64 v1.Setup, .int .i64 v1.Hold] :: ro ρ :: l) := by
  obtain rfl := h_d0_5.n
  obtain rfl := h_d0_6.n
  obtain rfl := h_d0_7.n
  obtain rfl := h_v1_5.n
  obtain rfl := h_v1_6.n
  obtain rfl := h_v1_7.n
  refine enterC Try.func136 rfl 9 rfl (by simp) ?_
  refine x_seq <| x_region <|
    ?_
  refine o_box (cs := [.string d0.Name, .bool d0.Flop, .int .i64 d0.Ins, .int .u64 d0.Table, .int .i64 d0.Area, .slice A_d0_5 d0.Cap.length c_d0_5, .slice A_d0_6 d0.Min.length c_d0_6, .slice A_d0_7 d0.Max.length c_d0_7, .int .i64 d0.Drive, .int .i64 d0.Setup, .int .i64 d0.Hold]) rfl rfl hS (fun b2 w' hS => ?_)
  refine p (yl_assign rfl) <| x_done <| x_seq <| x_region <|
    p (yl_field0 fld_46_0 rfl) <| pa (at_load one_9 rfl (hS.cell rfl)) <| p (yl_field0 fld_46_0 rfl) <| pa (at_load one_9 rfl ((hS.pull 1).cell rfl)) <|
    p (yl_eql_string rfl rfl) <| p (yl_assign rfl) <| x_done <|
    ?_
  obtain rfl := Option.some.inj (show some _ = some _ from hF)
  exact x_return ⟨_, ⟨_, _, rfl, rfl, rfl⟩, rfl, ((hS.drop.pull 1).pull 1)⟩
attribute [irreducible] P_lib_Check_1

def P_slices_IndexFunc_api_Cell_api_Cell_L2 (s0 : List T_api_Cell) (f1_0 : T_api_Cell) : Int → Option (Int ⊕ (Unit ⊕ Int)) := fun y8_L2h =>
  if y8_L2h < (s0.length : Int) then
    ck (inb y8_L2h s0.length) <|
    lv (gt s0 y8_L2h) fun y4_4 =>
    bd (P_lib_Check_1 y4_4 f1_0) fun r4_5 =>
    if y4_4.Name = f1_0.Name then
      some (Sum.inr (Sum.inr y8_L2h))
    else
      ar (y8_L2h + 1) fun x18 =>
      some (Sum.inl x18)
  else
    some (Sum.inr (Sum.inl ()))
def P_slices_IndexFunc_api_Cell_api_Cell (s0 : List T_api_Cell) (f1_0 : T_api_Cell) : Option Int :=
  bs (
    lp (P_slices_IndexFunc_api_Cell_api_Cell_L2 s0 f1_0) fuel 0) (fun y => some y) fun _ =>
  some (-1)
set_option maxHeartbeats 4000000 in
set_option maxRecDepth 100000 in
theorem c_slices_IndexFunc_api_Cell_api_Cell {w0 w : World} {l : List Assn} {ρ : Heap} {A_s0 : Option Addr} {n_s0 : Nat} {c_s0 : Nat} {b_f1_0 : Nat} {A_f1_0_5 : Option Addr} {n_f1_0_5 : Nat} {c_f1_0_5 : Nat} {A_f1_0_6 : Option Addr} {n_f1_0_6 : Nat} {c_f1_0_6 : Nat} {A_f1_0_7 : Option Addr} {n_f1_0_7 : Nat} {c_f1_0_7 : Nat} {s0 : List T_api_Cell} {f1_0 : T_api_Cell} {r : Int} (hF : P_slices_IndexFunc_api_Cell_api_Cell s0 f1_0 = some r) (h_s0 : RdS R_api_Cell ρ A_s0 n_s0 c_s0 s0) (h_f1_0_5 : RdS (RpI .i64) ρ A_f1_0_5 n_f1_0_5 c_f1_0_5 f1_0.Cap) (h_f1_0_6 : RdS (RpI .i64) ρ A_f1_0_6 n_f1_0_6 c_f1_0_6 f1_0.Min) (h_f1_0_7 : RdS (RpI .i64) ρ A_f1_0_7 n_f1_0_7 c_f1_0_7 f1_0.Max) (hS : St w0 w (cells b_f1_0 46 [.string f1_0.Name, .bool f1_0.Flop, .int .i64 f1_0.Ins, .int .u64 f1_0.Table, .int .i64 f1_0.Area, .slice A_f1_0_5 n_f1_0_5 c_f1_0_5, .slice A_f1_0_6 n_f1_0_6 c_f1_0_6, .slice A_f1_0_7 n_f1_0_7 c_f1_0_7, .int .i64 f1_0.Drive, .int .i64 f1_0.Setup, .int .i64 f1_0.Hold] :: ro ρ :: l)) :
    Calls Try.prog 99 #[.slice A_s0 n_s0 c_s0, .func (.func 136) #[] #[.pointer (some ⟨b_f1_0, 0, none⟩)]] w fun e w' => e = .returned (.int .i64 r) ∧ St w0 w' (cells b_f1_0 46 [.string f1_0.Name, .bool f1_0.Flop, .int .i64 f1_0.Ins, .int .u64 f1_0.Table, .int .i64 f1_0.Area, .slice A_f1_0_5 n_f1_0_5 c_f1_0_5, .slice A_f1_0_6 n_f1_0_6 c_f1_0_6, .slice A_f1_0_7 n_f1_0_7 c_f1_0_7, .int .i64 f1_0.Drive, .int .i64 f1_0.Setup, .int .i64 f1_0.Hold] :: ro ρ :: l) := by
  obtain rfl := h_s0.n
  obtain rfl := h_f1_0_5.n
  obtain rfl := h_f1_0_6.n
  obtain rfl := h_f1_0_7.n
  refine enterC Try.func99 rfl 19 rfl (by simp) ?_
  refine x_seq <| x_region <| p (yl_assign rfl) <| x_done <|
    x_seq <| x_seq <| x_region <| p (yl_move rfl) <|
    p (yl_len_slice usl_35 rfl) <| p (yl_move rfl) <| x_done <|
    ?_
  obtain ⟨oL2, hLL2, hF⟩ := bs_s hF
  refine x_join (fun E w => (Sum.inl (())) = oL2 ∧ St w0 w (cells b_f1_0 46 [.string f1_0.Name, .bool f1_0.Flop, .int .i64 f1_0.Ins, .int .u64 f1_0.Table, .int .i64 f1_0.Area, .slice A_f1_0_5 f1_0.Cap.length c_f1_0_5, .slice A_f1_0_6 f1_0.Min.length c_f1_0_6, .slice A_f1_0_7 f1_0.Max.length c_f1_0_7, .int .i64 f1_0.Drive, .int .i64 f1_0.Setup, .int .i64 f1_0.Hold] :: ro ρ :: l)) ?_ ?_
  · skip -- L2
    refine x_block ?_
    refine x_loop (fun k_ E w => ∃ (y8_L2h : Int), lp (P_slices_IndexFunc_api_Cell_api_Cell_L2 s0 f1_0) k_ y8_L2h = some oL2 ∧ E 0 = .slice A_s0 s0.length c_s0 ∧ E 1 = .func (.func 136) #[] #[.pointer (some ⟨b_f1_0, 0, none⟩)] ∧ E 7 = .int .i64 (s0.length : Int) ∧ E 8 = .int .i64 y8_L2h ∧ St w0 w (cells b_f1_0 46 [.string f1_0.Name, .bool f1_0.Flop, .int .i64 f1_0.Ins, .int .u64 f1_0.Table, .int .i64 f1_0.Area, .slice A_f1_0_5 f1_0.Cap.length c_f1_0_5, .slice A_f1_0_6 f1_0.Min.length c_f1_0_6, .slice A_f1_0_7 f1_0.Max.length c_f1_0_7, .int .i64 f1_0.Drive, .int .i64 f1_0.Setup, .int .i64 f1_0.Hold] :: ro ρ :: l)) fuel ⟨0, hLL2, rfl, rfl, rfl, rfl, ((hS.pull 1).pull 1)⟩ ?_
    rintro kL2 E w ⟨y8_L2h, hLL2, eL2h_0, eL2h_1, eL2h_7, eL2h_8, hS⟩
    obtain ⟨kL2, obL2, rfl, hFL2, hLL2⟩ := lp_s hLL2
    refine x_seq <| x_region <| p (yl_lss eL2h_8 eL2h_7) <| x_done <|
      x_seq <|
      x_cond_p (y8_L2h < (s0.length : Int)) rfl (fun hc9 => ?_) (fun hc9 => ?_)
    · replace hFL2 := it_t hc9 hFL2
      obtain ⟨hk4_3, hFL2⟩ := ck_s hFL2
      obtain ⟨y4_4, hy4_4, hFL2⟩ := lv_s hFL2
      obtain ⟨el4_4, ek4_4, ee4_4⟩ := h_s0.get hk4_3
      rw [← hy4_4] at ek4_4
      obtain ⟨A4_4_5, n4_4_5, c4_4_5, A4_4_6, n4_4_6, c4_4_6, A4_4_7, n4_4_7, c4_4_7, rfl, f4_4_5, f4_4_6, f4_4_7⟩ := ek4_4
      obtain rfl := f4_4_5.n
      obtain rfl := f4_4_6.n
      obtain rfl := f4_4_7.n
      obtain ⟨r4_5, hc4_5, hFL2⟩ := bd_s hFL2
      refine x_skip <| x_seq <| x_block <| x_seq <|
        x_region <| p (yl_move eL2h_8) <| p (yl_assign rfl) <| x_done <|
        x_seq <| x_region <| p (yl_move eL2h_1) <| p (yl_move eL2h_0) <|
        p (yl_move rfl) <| p (yix_f sl_35 rfl rfl h_s0 hk4_3) <| pa (v := .agg #[.string y4_4.Name, .bool y4_4.Flop, .int .i64 y4_4.Ins, .int .u64 y4_4.Table, .int .i64 y4_4.Area, .slice A4_4_5 y4_4.Cap.length c4_4_5, .slice A4_4_6 y4_4.Min.length c4_4_6, .slice A4_4_7 y4_4.Max.length c4_4_7, .int .i64 y4_4.Drive, .int .i64 y4_4.Setup, .int .i64 y4_4.Hold]) (at_loadAgg agg_46 rfl rfl (Elt.every ee4_4 (hS.pull 1))) <|
        ?_
      have hcall := c_lib_Check_1 hc4_5 f4_4_5 f4_4_6 f4_4_7 h_f1_0_5 h_f1_0_6 h_f1_0_7 hS
      refine o_ccv rfl call_136 (capargs (args1 rfl)) (hcall) ?_
      rintro e w' ⟨rfl, hS⟩
      refine ⟨_, rfl, ?_⟩
      refine x_done <|
        x_cond_p (y4_4.Name = f1_0.Name) rfl (fun hc16 => ?_) (fun hc16 => ?_)
      · replace hFL2 := it_t hc16 hFL2
        refine x_seq <| x_region <| p (yl_move rfl) <| p (yl_assign rfl) <|
          x_done <|
          ?_
        obtain rfl := Option.some.inj (show some _ = some _ from hFL2)
        obtain rfl := (show _ = oL2 from hLL2)
        obtain rfl := Option.some.inj (show some _ = some _ from hF)
        exact x_return ⟨_, ⟨_, _, rfl, rfl, rfl⟩, rfl, ((hS.pull 1).pull 1)⟩
      · replace hFL2 := it_f hc16 hFL2
        obtain ⟨x18, hx18, hFL2⟩ := ar_s hFL2
        refine x_skip <| x_blk <| x_region <| p (yadd eL2h_8 rfl hx18) <|
          p (yl_move rfl) <| x_done <|
          ?_
        obtain rfl := Option.some.inj (show some _ = some _ from hFL2)
        exact x_inv ⟨kL2, Nat.lt_succ_self _, x18, hLL2, eL2h_0, eL2h_1, eL2h_7, rfl, ((hS.pull 1).pull 1)⟩
    · replace hFL2 := it_f hc9 hFL2
      refine x_exitTo _ rfl <|
        ?_
      obtain rfl := Option.some.inj (show some _ = some _ from hFL2)
      exact x_inv ⟨hLL2, ((hS.pull 1).pull 1)⟩
  rintro E w ⟨rfl, hS⟩
  refine x_seq <| x_region <| p (yl_assign rfl) <| x_done <|
    ?_
  obtain rfl := Option.some.inj (show some _ = some _ from hF)
  exact x_return ⟨_, ⟨_, _, rfl, rfl, rfl⟩, rfl, ((hS.pull 1).pull 1)⟩
attribute [irreducible] P_slices_IndexFunc_api_Cell_api_Cell

def P_slices_ContainsFunc_api_Cell_api_Cell (s0 : List T_api_Cell) (f1_0 : T_api_Cell) : Option Bool :=
  bd (P_slices_IndexFunc_api_Cell_api_Cell s0 f1_0) fun r1_2 =>
  some (decide (0 ≤ r1_2))
set_option maxHeartbeats 4000000 in
set_option maxRecDepth 100000 in
theorem c_slices_ContainsFunc_api_Cell_api_Cell {w0 w : World} {l : List Assn} {ρ : Heap} {A_s0 : Option Addr} {n_s0 : Nat} {c_s0 : Nat} {b_f1_0 : Nat} {A_f1_0_5 : Option Addr} {n_f1_0_5 : Nat} {c_f1_0_5 : Nat} {A_f1_0_6 : Option Addr} {n_f1_0_6 : Nat} {c_f1_0_6 : Nat} {A_f1_0_7 : Option Addr} {n_f1_0_7 : Nat} {c_f1_0_7 : Nat} {s0 : List T_api_Cell} {f1_0 : T_api_Cell} {r : Bool} (hF : P_slices_ContainsFunc_api_Cell_api_Cell s0 f1_0 = some r) (h_s0 : RdS R_api_Cell ρ A_s0 n_s0 c_s0 s0) (h_f1_0_5 : RdS (RpI .i64) ρ A_f1_0_5 n_f1_0_5 c_f1_0_5 f1_0.Cap) (h_f1_0_6 : RdS (RpI .i64) ρ A_f1_0_6 n_f1_0_6 c_f1_0_6 f1_0.Min) (h_f1_0_7 : RdS (RpI .i64) ρ A_f1_0_7 n_f1_0_7 c_f1_0_7 f1_0.Max) (hS : St w0 w (cells b_f1_0 46 [.string f1_0.Name, .bool f1_0.Flop, .int .i64 f1_0.Ins, .int .u64 f1_0.Table, .int .i64 f1_0.Area, .slice A_f1_0_5 n_f1_0_5 c_f1_0_5, .slice A_f1_0_6 n_f1_0_6 c_f1_0_6, .slice A_f1_0_7 n_f1_0_7 c_f1_0_7, .int .i64 f1_0.Drive, .int .i64 f1_0.Setup, .int .i64 f1_0.Hold] :: ro ρ :: l)) :
    Calls Try.prog 135 #[.slice A_s0 n_s0 c_s0, .func (.func 136) #[] #[.pointer (some ⟨b_f1_0, 0, none⟩)]] w fun e w' => e = .returned (.bool r) ∧ St w0 w' (cells b_f1_0 46 [.string f1_0.Name, .bool f1_0.Flop, .int .i64 f1_0.Ins, .int .u64 f1_0.Table, .int .i64 f1_0.Area, .slice A_f1_0_5 n_f1_0_5 c_f1_0_5, .slice A_f1_0_6 n_f1_0_6 c_f1_0_6, .slice A_f1_0_7 n_f1_0_7 c_f1_0_7, .int .i64 f1_0.Drive, .int .i64 f1_0.Setup, .int .i64 f1_0.Hold] :: ro ρ :: l) := by
  obtain rfl := h_s0.n
  obtain rfl := h_f1_0_5.n
  obtain rfl := h_f1_0_6.n
  obtain rfl := h_f1_0_7.n
  refine enterC Try.func135 rfl 9 rfl (by simp) ?_
  obtain ⟨r1_2, hc1_2, hF⟩ := bd_s hF
  refine x_seq <| x_region <| p (yl_assign rfl) <| x_done <|
    x_seq <| x_region <| p (yl_move rfl) <| p (yl_move rfl) <|
    ?_
  have hcall := c_slices_IndexFunc_api_Cell_api_Cell hc1_2 h_s0 h_f1_0_5 h_f1_0_6 h_f1_0_7 hS
  refine o_cc call_99 (args2 rfl rfl) (hcall) ?_
  rintro e w' ⟨rfl, hS⟩
  refine ⟨_, rfl, ?_⟩
  refine p (yl_geq rfl rfl) <| p (yl_assign rfl) <| x_done <|
    ?_
  obtain rfl := Option.some.inj (show some _ = some _ from hF)
  exact x_return ⟨_, ⟨_, _, rfl, rfl, rfl⟩, rfl, ((hS.pull 1).pull 1)⟩
attribute [irreducible] P_slices_ContainsFunc_api_Cell_api_Cell

def P_lib_Check_L4 (l_0 : List T_api_Cell) : Int → Option (Int ⊕ (Unit ⊕ Int)) := fun y11_L4h =>
  if y11_L4h < (l_0.length : Int) then
    ck (inb y11_L4h l_0.length) <|
    lv (gt l_0 y11_L4h) fun y5_2 =>
    bd (P_lib_CheckCell y5_2) fun r6_1 =>
    if r6_1 ≠ 0 then
      some (Sum.inr (Sum.inr r6_1))
    else
      ck (0 ≤ (0 : Int) ∧ (0 : Int) ≤ y11_L4h ∧ y11_L4h ≤ l_0.length) <|
      lv (sub l_0 0 y11_L4h) fun x23 =>
      bd (P_slices_ContainsFunc_api_Cell_api_Cell x23 y5_2) fun r9_4 =>
      if r9_4 = true then
        some (Sum.inr (Sum.inr 6))
      else
        ar (y11_L4h + 1) fun x26 =>
        some (Sum.inl x26)
  else
    some (Sum.inr (Sum.inl ()))
def P_lib_Check (l_0 : List T_api_Cell) : Option Int :=
  if 64 < (l_0.length : Int) then
    some 3
  else
    bs (
      lp (P_lib_Check_L4 l_0) fuel 0) (fun y => some y) fun _ =>
    some 0
set_option maxHeartbeats 4000000 in
set_option maxRecDepth 100000 in
theorem c_lib_Check {w0 w : World} {l : List Assn} {ρ : Heap} {A_l_0 : Option Addr} {n_l_0 : Nat} {c_l_0 : Nat} {l_0 : List T_api_Cell} {r : Int} (hF : P_lib_Check l_0 = some r) (h_l_0 : RdS R_api_Cell ρ A_l_0 n_l_0 c_l_0 l_0) (hS : St w0 w (ro ρ :: l)) :
    Calls Try.prog 98 #[.slice A_l_0 n_l_0 c_l_0] w fun e w' => e = .returned (.int .i64 r) ∧ St w0 w' (ro ρ :: l) := by
  obtain rfl := h_l_0.n
  refine enterC Try.func98 rfl 27 rfl (by simp) ?_
  refine x_seq <| x_region <| p (yl_assign rfl) <| x_done <|
    x_seq <| x_seq <| x_region <| p (yl_move rfl) <|
    p (yl_len_slice usl_35 rfl) <| p (yl_gtr rfl rfl) <| x_done <|
    x_cond_p (64 < (l_0.length : Int)) rfl (fun hc8 => ?_) (fun hc8 => ?_)
  · replace hF := it_t hc8 hF
    refine x_seq <| x_region <| p (yl_assign rfl) <| x_done <|
      ?_
    obtain rfl := Option.some.inj (show some _ = some _ from hF)
    exact x_return ⟨_, ⟨_, _, rfl, rfl, rfl⟩, rfl, hS⟩
  · replace hF := it_f hc8 hF
    refine x_skip <| x_seq <| x_seq <| x_region <|
      p (yl_move rfl) <| p (yl_len_slice usl_35 rfl) <| p (yl_move rfl) <| x_done <|
      ?_
    obtain ⟨oL4, hLL4, hF⟩ := bs_s hF
    refine x_join (fun E w => (Sum.inl (())) = oL4 ∧ St w0 w (ro ρ :: l)) ?_ ?_
    · skip -- L4
      refine x_block ?_
      refine x_loop (fun k_ E w => ∃ (y11_L4h : Int), lp (P_lib_Check_L4 l_0) k_ y11_L4h = some oL4 ∧ E 0 = .slice A_l_0 l_0.length c_l_0 ∧ E 9 = .slice A_l_0 l_0.length c_l_0 ∧ E 10 = .int .i64 (l_0.length : Int) ∧ E 11 = .int .i64 y11_L4h ∧ St w0 w (ro ρ :: l)) fuel ⟨0, hLL4, rfl, rfl, rfl, rfl, hS⟩ ?_
      rintro kL4 E w ⟨y11_L4h, hLL4, eL4h_0, eL4h_9, eL4h_10, eL4h_11, hS⟩
      obtain ⟨kL4, obL4, rfl, hFL4, hLL4⟩ := lp_s hLL4
      refine x_seq <| x_region <| p (yl_lss eL4h_11 eL4h_10) <| x_done <|
        x_seq <|
        x_cond_p (y11_L4h < (l_0.length : Int)) rfl (fun hc12 => ?_) (fun hc12 => ?_)
      · replace hFL4 := it_t hc12 hFL4
        obtain ⟨hk5_1, hFL4⟩ := ck_s hFL4
        obtain ⟨y5_2, hy5_2, hFL4⟩ := lv_s hFL4
        obtain ⟨el5_2, ek5_2, ee5_2⟩ := h_l_0.get hk5_1
        rw [← hy5_2] at ek5_2
        obtain ⟨A5_2_5, n5_2_5, c5_2_5, A5_2_6, n5_2_6, c5_2_6, A5_2_7, n5_2_7, c5_2_7, rfl, f5_2_5, f5_2_6, f5_2_7⟩ := ek5_2
        obtain rfl := f5_2_5.n
        obtain rfl := f5_2_6.n
        obtain rfl := f5_2_7.n
        refine x_skip <| x_seq <| x_block <| x_seq <|
          x_region <| p (yl_move eL4h_11) <| p (yix_f sl_35 eL4h_9 eL4h_11 h_l_0 hk5_1) <| pa (v := .agg #[.string y5_2.Name, .bool y5_2.Flop, .int .i64 y5_2.Ins, .int .u64 y5_2.Table, .int .i64 y5_2.Area, .slice A5_2_5 y5_2.Cap.length c5_2_5, .slice A5_2_6 y5_2.Min.length c5_2_6, .slice A5_2_7 y5_2.Max.length c5_2_7, .int .i64 y5_2.Drive, .int .i64 y5_2.Setup, .int .i64 y5_2.Hold]) (at_loadAgg agg_46 rfl rfl (Elt.every ee5_2 hS)) <|
          ?_
        refine o_alloc zero_46 hS (fun b4 w' hS => ?_)
        refine p (yl_assign rfl) <|
          ?_
        refine o_storeAgg (news := [.string y5_2.Name, .bool y5_2.Flop, .int .i64 y5_2.Ins, .int .u64 y5_2.Table, .int .i64 y5_2.Area, .slice A5_2_5 y5_2.Cap.length c5_2_5, .slice A5_2_6 y5_2.Min.length c5_2_6, .slice A5_2_7 y5_2.Max.length c5_2_7, .int .i64 y5_2.Drive, .int .i64 y5_2.Setup, .int .i64 y5_2.Hold]) agg_46 rfl rfl rfl (by simp [over_length]) hS (fun w' hS => ?_)
        obtain ⟨r6_1, hc6_1, hFL4⟩ := bd_s hFL4
        refine x_done <| x_seq <| x_seq <| x_region <|
          pa (v := .agg #[.string y5_2.Name, .bool y5_2.Flop, .int .i64 y5_2.Ins, .int .u64 y5_2.Table, .int .i64 y5_2.Area, .slice A5_2_5 y5_2.Cap.length c5_2_5, .slice A5_2_6 y5_2.Min.length c5_2_6, .slice A5_2_7 y5_2.Max.length c5_2_7, .int .i64 y5_2.Drive, .int .i64 y5_2.Setup, .int .i64 y5_2.Hold]) (ld_sub agg_46 rfl rfl rfl hS) <|
          ?_
        have hcall := c_lib_CheckCell hc6_1 f5_2_5 f5_2_6 f5_2_7 (hS.pull 1)
        refine o_cc call_134 (args1 rfl) ((Calls.mono hcall (fun e w'' h => And.intro h.1 (h.2.pull 1)))) ?_
        rintro e w' ⟨rfl, hS⟩
        refine ⟨_, rfl, ?_⟩
        refine p (v := .int .i64 r6_1) (yl_assign rfl) <| x_done <| x_seq <| x_region <|
          p (v := .int .i64 r6_1) (yl_move rfl) <| p (yl_neq rfl rfl) <| x_done <|
          x_cond_p (r6_1 ≠ 0) rfl (fun hc19 => ?_) (fun hc19 => ?_)
        · replace hFL4 := it_t hc19 hFL4
          refine x_seq <| x_region <| p (v := .int .i64 r6_1) (yl_move rfl) <| p (v := .int .i64 r6_1) (yl_assign rfl) <|
            x_done <|
            ?_
          obtain rfl := Option.some.inj (show some _ = some _ from hFL4)
          obtain rfl := (show _ = oL4 from hLL4)
          obtain rfl := Option.some.inj (show some _ = some _ from hF)
          exact x_return ⟨_, ⟨_, _, rfl, rfl, rfl⟩, rfl, hS.drop⟩
        · replace hFL4 := it_f hc19 hFL4
          obtain ⟨hk9_2, hFL4⟩ := ck_s hFL4
          obtain ⟨x23, hx23, hFL4⟩ := lv_s hFL4
          refine x_skip <| x_seq <| x_region <| p (yl_move eL4h_0) <|
            p (yl_move rfl) <|
            ?_
          obtain ⟨A23, n23, c23, hd23, f23⟩ := RdS.sub h_l_0 hk9_2 hx23
          refine p (ysub_h sl_35 rfl rfl hk9_2 hd23) <|
            ?_
          obtain rfl := f23.n
          obtain ⟨r9_4, hc9_4, hFL4⟩ := bd_s hFL4
          refine p (v := .func (.func 136) #[] #[.pointer (some ⟨b4, 0, none⟩)]) (yl_makeFunc (by simp only [List.map_toArray, List.map_nil]) (by simp only [List.map_toArray, List.map_cons, List.map_nil]; rfl)) <|
            ?_
          have hcall := c_slices_ContainsFunc_api_Cell_api_Cell hc9_4 f23 f5_2_5 f5_2_6 f5_2_7 hS
          refine o_cc call_135 (args2 rfl rfl) (hcall) ?_
          rintro e w' ⟨rfl, hS⟩
          refine ⟨_, rfl, ?_⟩
          refine x_done <|
            x_cond (t := r9_4) rfl (fun hc25 => ?_) (fun hc25 => ?_)
          · replace hFL4 := it_t hc25 hFL4
            refine x_seq <| x_region <| p (yl_assign rfl) <| x_done <|
              ?_
            obtain rfl := Option.some.inj (show some _ = some _ from hFL4)
            obtain rfl := (show _ = oL4 from hLL4)
            obtain rfl := Option.some.inj (show some _ = some _ from hF)
            exact x_return ⟨_, ⟨_, _, rfl, rfl, rfl⟩, rfl, hS.drop⟩
          · replace hFL4 := it_bf hc25 hFL4
            obtain ⟨x26, hx26, hFL4⟩ := ar_s hFL4
            refine x_skip <| x_blk <| x_region <| p (yadd eL4h_11 rfl hx26) <|
              p (yl_move rfl) <| x_done <|
              ?_
            obtain rfl := Option.some.inj (show some _ = some _ from hFL4)
            exact x_inv ⟨kL4, Nat.lt_succ_self _, x26, hLL4, eL4h_0, eL4h_9, eL4h_10, rfl, hS.drop⟩
      · replace hFL4 := it_f hc12 hFL4
        refine x_exitTo _ rfl <|
          ?_
        obtain rfl := Option.some.inj (show some _ = some _ from hFL4)
        exact x_inv ⟨hLL4, hS⟩
    rintro E w ⟨rfl, hS⟩
    refine x_seq <| x_region <| p (yl_assign rfl) <| x_done <|
      ?_
    obtain rfl := Option.some.inj (show some _ = some _ from hF)
    exact x_return ⟨_, ⟨_, _, rfl, rfl, rfl⟩, rfl, hS⟩
attribute [irreducible] P_lib_Check

def P_tree_IsBuffer (c0 : T_api_Cell) : Option Bool :=
  lv ((!c0.Flop) && (decide (c0.Ins = 1))) fun x10 =>
  lv (x10 && (decide (c0.Table = 2))) fun x15 =>
  some x15
set_option maxHeartbeats 4000000 in
set_option maxRecDepth 100000 in
theorem c_tree_IsBuffer {w0 w : World} {l : List Assn} {ρ : Heap} {A_c0_5 : Option Addr} {n_c0_5 : Nat} {c_c0_5 : Nat} {A_c0_6 : Option Addr} {n_c0_6 : Nat} {c_c0_6 : Nat} {A_c0_7 : Option Addr} {n_c0_7 : Nat} {c_c0_7 : Nat} {c0 : T_api_Cell} {r : Bool} (hF : P_tree_IsBuffer c0 = some r) (h_c0_5 : RdS (RpI .i64) ρ A_c0_5 n_c0_5 c_c0_5 c0.Cap) (h_c0_6 : RdS (RpI .i64) ρ A_c0_6 n_c0_6 c_c0_6 c0.Min) (h_c0_7 : RdS (RpI .i64) ρ A_c0_7 n_c0_7 c_c0_7 c0.Max) (hS : St w0 w (ro ρ :: l)) :
    Calls Try.prog 100 #[.agg #[.string c0.Name, .bool c0.Flop, .int .i64 c0.Ins, .int .u64 c0.Table, .int .i64 c0.Area, .slice A_c0_5 n_c0_5 c_c0_5, .slice A_c0_6 n_c0_6 c_c0_6, .slice A_c0_7 n_c0_7 c_c0_7, .int .i64 c0.Drive, .int .i64 c0.Setup, .int .i64 c0.Hold]] w fun e w' => e = .returned (.bool r) ∧ St w0 w' (ro ρ :: l) := by
  obtain rfl := h_c0_5.n
  obtain rfl := h_c0_6.n
  obtain rfl := h_c0_7.n
  refine enterC Try.func100 rfl 16 rfl (by simp) ?_
  refine x_seq <| x_region <|
    ?_
  refine o_box (cs := [.string c0.Name, .bool c0.Flop, .int .i64 c0.Ins, .int .u64 c0.Table, .int .i64 c0.Area, .slice A_c0_5 c0.Cap.length c_c0_5, .slice A_c0_6 c0.Min.length c_c0_6, .slice A_c0_7 c0.Max.length c_c0_7, .int .i64 c0.Drive, .int .i64 c0.Setup, .int .i64 c0.Hold]) rfl rfl hS (fun b1 w' hS => ?_)
  obtain ⟨x10, hx10, hF⟩ := lv_s hF
  obtain ⟨x15, hx15, hF⟩ := lv_s hF
  refine p (yl_assign rfl) <| x_done <| x_seq <| x_region <|
    p (yl_field0 fld_46_1 rfl) <| pa (at_load one_4 rfl (hS.cell rfl)) <| p (yl_not rfl) <| p (yl_move rfl) <|
    pg (v := .pointer (some ⟨b1, 2, none⟩)) 6 (c := !c0.Flop) (says_t _) (fun hq => Yl.at (yl_field0 fld_46_2 rfl)) <| pg (v := .int .i64 c0.Ins) 6 (c := !c0.Flop) (says_t _) (fun hq => at_load one_3 (cv hq) (hS.cell rfl)) <| pg (v := .bool (decide (c0.Ins = 1))) 6 (c := !c0.Flop) (says_t _) (fun hq => Yl.at (yl_eql (cv hq) rfl)) <| p (yand' rfl (fun hc => (cv hc)) rfl hx10) <|
    p (yl_move rfl) <| pg (v := .pointer (some ⟨b1, 3, none⟩)) 11 (c := x10) (says_t _) (fun hq => Yl.at (yl_field0 fld_46_3 rfl)) <| pg (v := .int .u64 c0.Table) 11 (c := x10) (says_t _) (fun hq => at_load one_44 (cv hq) (hS.cell rfl)) <| pg (v := .bool (decide (c0.Table = 2))) 11 (c := x10) (says_t _) (fun hq => Yl.at (yl_eql (cv hq) rfl)) <|
    p (yand' rfl (fun hc => (cv hc)) rfl hx15) <| p (yl_assign rfl) <| x_done <|
    ?_
  obtain rfl := Option.some.inj (show some _ = some _ from hF)
  exact x_return ⟨_, ⟨_, _, rfl, rfl, rfl⟩, rfl, hS.drop⟩
attribute [irreducible] P_tree_IsBuffer

def P_tree_Kids_L2 (t0 : T_tree_Tree) (b1 : Int) : (List Int × Int) → Option ((List Int × Int) ⊕ List Int) := fun (bufs4_L2h, y13_L2h) =>
  if y13_L2h < (t0.Up.length : Int) then
    ck (inb y13_L2h t0.Up.length) <|
    lv (gt t0.Up y13_L2h) fun x17 =>
    bd (
      if x17 = b1 then
        lv (bufs4_L2h ++ [y13_L2h]) fun z5_3 =>
        ck (apOk 8 z5_3.length) <|
        some z5_3
      else
        some bufs4_L2h) fun bufs4_c20 =>
    ar (y13_L2h + 1) fun x25 =>
    some (Sum.inl (bufs4_c20, x25))
  else
    some (Sum.inr bufs4_L2h)
def P_tree_Kids_L8 (t0 : T_tree_Tree) (b1 : Int) : (List Int × Int) → Option ((List Int × Int) ⊕ List Int) := fun (leaves5_L8h, y29_L8h) =>
  if y29_L8h < (t0.Leaf.length : Int) then
    ck (inb y29_L8h t0.Leaf.length) <|
    lv (gt t0.Leaf y29_L8h) fun x33 =>
    bd (
      if x33 = b1 then
        lv (leaves5_L8h ++ [y29_L8h]) fun z11_3 =>
        ck (apOk 8 z11_3.length) <|
        some z11_3
      else
        some leaves5_L8h) fun leaves5_c36 =>
    ar (y29_L8h + 1) fun x41 =>
    some (Sum.inl (leaves5_c36, x41))
  else
    some (Sum.inr leaves5_L8h)
def P_tree_Kids (t0 : T_tree_Tree) (b1 : Int) : Option (List Int × List Int) :=
  bd (
    lp (P_tree_Kids_L2 t0 b1) fuel ([], 0)) fun bufs4_L2 =>
  bd (
    lp (P_tree_Kids_L8 t0 b1) fuel ([], 0)) fun leaves5_L8 =>
  some (bufs4_L2, leaves5_L8)
set_option maxHeartbeats 4000000 in
set_option maxRecDepth 100000 in
theorem c_tree_Kids {w0 w : World} {l : List Assn} {ρ : Heap} {A_t0_1 : Option Addr} {n_t0_1 : Nat} {c_t0_1 : Nat} {A_t0_2 : Option Addr} {n_t0_2 : Nat} {c_t0_2 : Nat} {t0 : T_tree_Tree} {b1 : Int} {r : (List Int × List Int)} (hF : P_tree_Kids t0 b1 = some r) (h_t0_1 : RdS (RpI .i64) ρ A_t0_1 n_t0_1 c_t0_1 t0.Up) (h_t0_2 : RdS (RpI .i64) ρ A_t0_2 n_t0_2 c_t0_2 t0.Leaf) (hS : St w0 w (ro ρ :: l)) :
    Calls Try.prog 76 #[.agg #[.int .i64 t0.Cell, .slice A_t0_1 n_t0_1 c_t0_1, .slice A_t0_2 n_t0_2 c_t0_2], .int .i64 b1] w fun e w' => ∃ (A_y0_ret : Option Addr) (n_y0_ret : Nat) (c_y0_ret : Nat) (cs_y0_ret : List Value) (A_y1_ret : Option Addr) (n_y1_ret : Nat) (c_y1_ret : Nat) (cs_y1_ret : List Value), e = .returned (.tuple #[.slice A_y0_ret n_y0_ret c_y0_ret, .slice A_y1_ret n_y1_ret c_y1_ret]) ∧ RepL (RpI .i64) ρ r.1 cs_y0_ret ∧ RepL (RpI .i64) ρ r.2 cs_y1_ret ∧ St w0 w' (vec 3 (RpI .i64).sz (.slice A_y0_ret n_y0_ret c_y0_ret) n_y0_ret cs_y0_ret :: vec 3 (RpI .i64).sz (.slice A_y1_ret n_y1_ret c_y1_ret) n_y1_ret cs_y1_ret :: ro ρ :: l) := by
  obtain rfl := h_t0_1.n
  obtain rfl := h_t0_2.n
  refine enterC Try.func76 rfl 44 rfl (by simp) ?_
  refine x_seq <| x_region <|
    ?_
  refine o_box (cs := [.int .i64 t0.Cell, .slice A_t0_1 t0.Up.length c_t0_1, .slice A_t0_2 t0.Leaf.length c_t0_2]) rfl rfl hS (fun b2 w' hS => ?_)
  refine p (yl_assign rfl) <| p (yl_assign rfl) <| x_done <| x_seq <|
    x_seq <| x_region <| p (yl_field0 fld_38_1 rfl) <| pa (at_load one_22 rfl (hS.cell rfl)) <|
    p (yl_len_slice usl_22 rfl) <| p (yl_move rfl) <| x_done <|
    ?_
  obtain ⟨oL2, hLL2, hF⟩ := bd_s hF
  refine x_join (fun E w => ∃ (A_bufs4_L2 : Option Addr) (n_bufs4_L2 : Nat) (c_bufs4_L2 : Nat) (cs_bufs4_L2 : List Value) (bufs4_L2 : List Int), bufs4_L2 = oL2 ∧ E 1 = .int .i64 b1 ∧ E 2 = .pointer (some ⟨b2, 0, none⟩) ∧ E 4 = .slice A_bufs4_L2 n_bufs4_L2 c_bufs4_L2 ∧ E 5 = .slice none 0 0 ∧ RepL (RpI .i64) ρ bufs4_L2 cs_bufs4_L2 ∧ St w0 w (cells b2 38 [.int .i64 t0.Cell, .slice A_t0_1 t0.Up.length c_t0_1, .slice A_t0_2 t0.Leaf.length c_t0_2] :: vec 3 (RpI .i64).sz (.slice A_bufs4_L2 n_bufs4_L2 c_bufs4_L2) n_bufs4_L2 cs_bufs4_L2 :: ro ρ :: l)) ?_ ?_
  · skip -- L2
    refine x_block ?_
    replace hS := St.vec_nil hS 3 (RpI .i64).sz
    have hnil_A_bufs4_L2h : RepL (RpI .i64) ρ [] [] := rfl
    refine x_loop (fun k_ E w => ∃ (A_bufs4_L2h : Option Addr) (n_bufs4_L2h : Nat) (c_bufs4_L2h : Nat) (cs_bufs4_L2h : List Value) (bufs4_L2h : List Int) (y13_L2h : Int), lp (P_tree_Kids_L2 t0 b1) k_ (bufs4_L2h, y13_L2h) = some oL2 ∧ E 1 = .int .i64 b1 ∧ E 2 = .pointer (some ⟨b2, 0, none⟩) ∧ E 4 = .slice A_bufs4_L2h n_bufs4_L2h c_bufs4_L2h ∧ E 5 = .slice none 0 0 ∧ E 11 = .slice A_t0_1 t0.Up.length c_t0_1 ∧ E 12 = .int .i64 (t0.Up.length : Int) ∧ E 13 = .int .i64 y13_L2h ∧ RepL (RpI .i64) ρ bufs4_L2h cs_bufs4_L2h ∧ St w0 w (cells b2 38 [.int .i64 t0.Cell, .slice A_t0_1 t0.Up.length c_t0_1, .slice A_t0_2 t0.Leaf.length c_t0_2] :: vec 3 (RpI .i64).sz (.slice A_bufs4_L2h n_bufs4_L2h c_bufs4_L2h) n_bufs4_L2h cs_bufs4_L2h :: ro ρ :: l)) fuel ⟨none, 0, 0, [], [], 0, hLL2, rfl, rfl, rfl, rfl, rfl, rfl, rfl, hnil_A_bufs4_L2h, (((hS.pull 2).pull 1).pull 2)⟩ ?_
    rintro kL2 E w ⟨A_bufs4_L2h, n_bufs4_L2h, c_bufs4_L2h, cs_bufs4_L2h, bufs4_L2h, y13_L2h, hLL2, eL2h_1, eL2h_2, eL2h_4, eL2h_5, eL2h_11, eL2h_12, eL2h_13, h_bufs4_L2h, hS⟩
    obtain rfl := St.vec_n (hS.pull 1) h_bufs4_L2h
    obtain ⟨kL2, obL2, rfl, hFL2, hLL2⟩ := lp_s hLL2
    refine x_seq <| x_region <| p (yl_lss eL2h_13 eL2h_12) <| x_done <|
      x_seq <|
      x_cond_p (y13_L2h < (t0.Up.length : Int)) rfl (fun hc14 => ?_) (fun hc14 => ?_)
    · replace hFL2 := it_t hc14 hFL2
      obtain ⟨hk3_1, hFL2⟩ := ck_s hFL2
      obtain ⟨x17, hx17, hFL2⟩ := lv_s hFL2
      refine x_skip <| x_seq <| x_block <| x_seq <|
        x_region <| p (yl_move eL2h_13) <| p (yix_f sl_22 eL2h_11 eL2h_13 h_t0_1 hk3_1) <| pa (at_load one_3 rfl (RdS.getW h_t0_1 (hS.pull 2) hk3_1 hx17)) <|
        p (yl_assign rfl) <| p (yl_assign rfl) <| x_done <| x_seq <|
        x_region <| p (yl_move rfl) <| p (yl_move eL2h_1) <| p (yl_eql rfl rfl) <|
        x_done <|
        ?_
      obtain ⟨oc20, hFc20, hFL2⟩ := bd_s hFL2
      refine x_join (fun E w => ∃ (A_bufs4_c20 : Option Addr) (n_bufs4_c20 : Nat) (c_bufs4_c20 : Nat) (cs_bufs4_c20 : List Value) (bufs4_c20 : List Int), bufs4_c20 = oc20 ∧ E 1 = .int .i64 b1 ∧ E 2 = .pointer (some ⟨b2, 0, none⟩) ∧ E 4 = .slice A_bufs4_c20 n_bufs4_c20 c_bufs4_c20 ∧ E 5 = .slice none 0 0 ∧ E 11 = .slice A_t0_1 t0.Up.length c_t0_1 ∧ E 12 = .int .i64 (t0.Up.length : Int) ∧ E 13 = .int .i64 y13_L2h ∧ RepL (RpI .i64) ρ bufs4_c20 cs_bufs4_c20 ∧ St w0 w (cells b2 38 [.int .i64 t0.Cell, .slice A_t0_1 t0.Up.length c_t0_1, .slice A_t0_2 t0.Leaf.length c_t0_2] :: vec 3 (RpI .i64).sz (.slice A_bufs4_c20 n_bufs4_c20 c_bufs4_c20) n_bufs4_c20 cs_bufs4_c20 :: ro ρ :: l)) ?_ ?_
      · skip -- c20
        refine x_cond_p (x17 = b1) rfl (fun hc20 => ?_) (fun hc20 => ?_)
        · replace hFc20 := it_t hc20 hFc20
          refine x_region <| p (yl_move eL2h_4) <| p (yl_move rfl) <|
            ?_
          refine o_buildSlice (vs := [.int .i64 y13_L2h]) (cs := [.int .i64 y13_L2h]) sl_22 zero_3 (parts_eq (pt (va := .int .i64 y13_L2h) rfl pt0)) rfl (by intro v hv; simp only [List.mem_cons, List.not_mem_nil, or_false] at hv; first | (subst hv; rfl) | (rcases hv with rfl <;> rfl)) (by decide) rfl hS (fun b23 w' hS => ?_)
          obtain ⟨z5_3, hz5_3, hFc20⟩ := lv_s hFc20
          obtain ⟨hk5_3, hFc20⟩ := ck_s hFc20
          refine o_ap sl_22 zero_3 rfl (by decide) rfl rfl (hS.pull 2) h_bufs4_L2h (src_blk usl_22 hS rfl rfl) (RepL.cons (R := (RpI .i64)) (ρ := ρ) (x := y13_L2h) (cs := [.int .i64 y13_L2h]) rfl RepL.nil) hz5_3 hk5_3 (fun A24 c24 cs24 w' hr24 hS => ?_)
          refine p (yl_assign rfl) <| x_done <|
            ?_
          exact x_inv ⟨A24, z5_3.length, c24, cs24, z5_3, (Option.some.inj (show some _ = some _ from hFc20)), eL2h_1, eL2h_2, rfl, eL2h_5, eL2h_11, eL2h_12, eL2h_13, hr24, ((((hS.pull 1).drop.pull 2).pull 1).pull 2)⟩
        · replace hFc20 := it_f hc20 hFc20
          refine x_skip <|
            ?_
          exact x_inv ⟨A_bufs4_L2h, bufs4_L2h.length, c_bufs4_L2h, cs_bufs4_L2h, bufs4_L2h, (Option.some.inj (show some _ = some _ from hFc20)), eL2h_1, eL2h_2, eL2h_4, eL2h_5, eL2h_11, eL2h_12, eL2h_13, h_bufs4_L2h, (((hS.pull 2).pull 2).pull 2)⟩
      rintro E w ⟨A_bufs4_c20, n_bufs4_c20, c_bufs4_c20, cs_bufs4_c20, bufs4_c20, rfl, ec20_1, ec20_2, ec20_4, ec20_5, ec20_11, ec20_12, ec20_13, h_bufs4_c20, hS⟩
      obtain rfl := St.vec_n (hS.pull 1) h_bufs4_c20
      obtain ⟨x25, hx25, hFL2⟩ := ar_s hFL2
      refine x_blk <| x_region <| p (yadd ec20_13 rfl hx25) <| p (yl_move rfl) <|
        x_done <|
        ?_
      obtain rfl := Option.some.inj (show some _ = some _ from hFL2)
      exact x_inv ⟨kL2, Nat.lt_succ_self _, A_bufs4_c20, bufs4_c20.length, c_bufs4_c20, cs_bufs4_c20, bufs4_c20, x25, hLL2, ec20_1, ec20_2, ec20_4, ec20_5, ec20_11, ec20_12, rfl, h_bufs4_c20, (((hS.pull 2).pull 2).pull 2)⟩
    · replace hFL2 := it_f hc14 hFL2
      refine x_exitTo _ rfl <|
        ?_
      obtain rfl := Option.some.inj (show some _ = some _ from hFL2)
      exact x_inv ⟨A_bufs4_L2h, bufs4_L2h.length, c_bufs4_L2h, cs_bufs4_L2h, bufs4_L2h, hLL2, eL2h_1, eL2h_2, eL2h_4, eL2h_5, h_bufs4_L2h, (((hS.pull 2).pull 2).pull 2)⟩
  rintro E w ⟨A_bufs4_L2, n_bufs4_L2, c_bufs4_L2, cs_bufs4_L2, bufs4_L2, rfl, eL2_1, eL2_2, eL2_4, eL2_5, h_bufs4_L2, hS⟩
  obtain rfl := St.vec_n (hS.pull 1) h_bufs4_L2
  refine x_seq <| x_seq <| x_region <| p (yl_field0 fld_38_2 eL2_2) <|
    pa (at_load one_22 rfl (hS.cell rfl)) <| p (yl_len_slice usl_22 rfl) <| p (yl_move rfl) <| x_done <|
    ?_
  obtain ⟨oL8, hLL8, hF⟩ := bd_s hF
  refine x_join (fun E w => ∃ (A_leaves5_L8 : Option Addr) (n_leaves5_L8 : Nat) (c_leaves5_L8 : Nat) (cs_leaves5_L8 : List Value) (leaves5_L8 : List Int), leaves5_L8 = oL8 ∧ E 4 = .slice A_bufs4_L2 bufs4_L2.length c_bufs4_L2 ∧ E 5 = .slice A_leaves5_L8 n_leaves5_L8 c_leaves5_L8 ∧ RepL (RpI .i64) ρ leaves5_L8 cs_leaves5_L8 ∧ St w0 w (vec 3 (RpI .i64).sz (.slice A_bufs4_L2 bufs4_L2.length c_bufs4_L2) bufs4_L2.length cs_bufs4_L2 :: vec 3 (RpI .i64).sz (.slice A_leaves5_L8 n_leaves5_L8 c_leaves5_L8) n_leaves5_L8 cs_leaves5_L8 :: ro ρ :: l)) ?_ ?_
  · skip -- L8
    refine x_block ?_
    replace hS := St.vec_nil hS 3 (RpI .i64).sz
    have hnil_A_leaves5_L8h : RepL (RpI .i64) ρ [] [] := rfl
    refine x_loop (fun k_ E w => ∃ (A_leaves5_L8h : Option Addr) (n_leaves5_L8h : Nat) (c_leaves5_L8h : Nat) (cs_leaves5_L8h : List Value) (leaves5_L8h : List Int) (y29_L8h : Int), lp (P_tree_Kids_L8 t0 b1) k_ (leaves5_L8h, y29_L8h) = some oL8 ∧ E 1 = .int .i64 b1 ∧ E 4 = .slice A_bufs4_L2 bufs4_L2.length c_bufs4_L2 ∧ E 5 = .slice A_leaves5_L8h n_leaves5_L8h c_leaves5_L8h ∧ E 27 = .slice A_t0_2 t0.Leaf.length c_t0_2 ∧ E 28 = .int .i64 (t0.Leaf.length : Int) ∧ E 29 = .int .i64 y29_L8h ∧ RepL (RpI .i64) ρ leaves5_L8h cs_leaves5_L8h ∧ St w0 w (vec 3 (RpI .i64).sz (.slice A_bufs4_L2 bufs4_L2.length c_bufs4_L2) bufs4_L2.length cs_bufs4_L2 :: vec 3 (RpI .i64).sz (.slice A_leaves5_L8h n_leaves5_L8h c_leaves5_L8h) n_leaves5_L8h cs_leaves5_L8h :: ro ρ :: l)) fuel ⟨none, 0, 0, [], [], 0, hLL8, eL2_1, eL2_4, eL2_5, rfl, rfl, rfl, hnil_A_leaves5_L8h, ((((hS.pull 1).drop.pull 2).pull 1).pull 2)⟩ ?_
    rintro kL8 E w ⟨A_leaves5_L8h, n_leaves5_L8h, c_leaves5_L8h, cs_leaves5_L8h, leaves5_L8h, y29_L8h, hLL8, eL8h_1, eL8h_4, eL8h_5, eL8h_27, eL8h_28, eL8h_29, h_leaves5_L8h, hS⟩
    obtain rfl := St.vec_n (hS.pull 1) h_leaves5_L8h
    obtain ⟨kL8, obL8, rfl, hFL8, hLL8⟩ := lp_s hLL8
    refine x_seq <| x_region <| p (yl_lss eL8h_29 eL8h_28) <| x_done <|
      x_seq <|
      x_cond_p (y29_L8h < (t0.Leaf.length : Int)) rfl (fun hc30 => ?_) (fun hc30 => ?_)
    · replace hFL8 := it_t hc30 hFL8
      obtain ⟨hk9_1, hFL8⟩ := ck_s hFL8
      obtain ⟨x33, hx33, hFL8⟩ := lv_s hFL8
      refine x_skip <| x_seq <| x_block <| x_seq <|
        x_region <| p (yl_move eL8h_29) <| p (yix_f sl_22 eL8h_27 eL8h_29 h_t0_2 hk9_1) <| pa (at_load one_3 rfl (RdS.getW h_t0_2 (hS.pull 2) hk9_1 hx33)) <|
        p (yl_assign rfl) <| p (yl_assign rfl) <| x_done <| x_seq <|
        x_region <| p (yl_move rfl) <| p (yl_move eL8h_1) <| p (yl_eql rfl rfl) <|
        x_done <|
        ?_
      obtain ⟨oc36, hFc36, hFL8⟩ := bd_s hFL8
      refine x_join (fun E w => ∃ (A_leaves5_c36 : Option Addr) (n_leaves5_c36 : Nat) (c_leaves5_c36 : Nat) (cs_leaves5_c36 : List Value) (leaves5_c36 : List Int), leaves5_c36 = oc36 ∧ E 1 = .int .i64 b1 ∧ E 4 = .slice A_bufs4_L2 bufs4_L2.length c_bufs4_L2 ∧ E 5 = .slice A_leaves5_c36 n_leaves5_c36 c_leaves5_c36 ∧ E 27 = .slice A_t0_2 t0.Leaf.length c_t0_2 ∧ E 28 = .int .i64 (t0.Leaf.length : Int) ∧ E 29 = .int .i64 y29_L8h ∧ RepL (RpI .i64) ρ leaves5_c36 cs_leaves5_c36 ∧ St w0 w (vec 3 (RpI .i64).sz (.slice A_bufs4_L2 bufs4_L2.length c_bufs4_L2) bufs4_L2.length cs_bufs4_L2 :: vec 3 (RpI .i64).sz (.slice A_leaves5_c36 n_leaves5_c36 c_leaves5_c36) n_leaves5_c36 cs_leaves5_c36 :: ro ρ :: l)) ?_ ?_
      · skip -- c36
        refine x_cond_p (x33 = b1) rfl (fun hc36 => ?_) (fun hc36 => ?_)
        · replace hFc36 := it_t hc36 hFc36
          refine x_region <| p (yl_move eL8h_5) <| p (yl_move rfl) <|
            ?_
          refine o_buildSlice (vs := [.int .i64 y29_L8h]) (cs := [.int .i64 y29_L8h]) sl_22 zero_3 (parts_eq (pt (va := .int .i64 y29_L8h) rfl pt0)) rfl (by intro v hv; simp only [List.mem_cons, List.not_mem_nil, or_false] at hv; first | (subst hv; rfl) | (rcases hv with rfl <;> rfl)) (by decide) rfl hS (fun b39 w' hS => ?_)
          obtain ⟨z11_3, hz11_3, hFc36⟩ := lv_s hFc36
          obtain ⟨hk11_3, hFc36⟩ := ck_s hFc36
          refine o_ap sl_22 zero_3 rfl (by decide) rfl rfl (hS.pull 2) h_leaves5_L8h (src_blk usl_22 hS rfl rfl) (RepL.cons (R := (RpI .i64)) (ρ := ρ) (x := y29_L8h) (cs := [.int .i64 y29_L8h]) rfl RepL.nil) hz11_3 hk11_3 (fun A40 c40 cs40 w' hr40 hS => ?_)
          refine p (yl_assign rfl) <| x_done <|
            ?_
          exact x_inv ⟨A40, z11_3.length, c40, cs40, z11_3, (Option.some.inj (show some _ = some _ from hFc36)), eL8h_1, eL8h_4, rfl, eL8h_27, eL8h_28, eL8h_29, hr40, ((((hS.pull 1).drop.pull 2).pull 1).pull 2)⟩
        · replace hFc36 := it_f hc36 hFc36
          refine x_skip <|
            ?_
          exact x_inv ⟨A_leaves5_L8h, leaves5_L8h.length, c_leaves5_L8h, cs_leaves5_L8h, leaves5_L8h, (Option.some.inj (show some _ = some _ from hFc36)), eL8h_1, eL8h_4, eL8h_5, eL8h_27, eL8h_28, eL8h_29, h_leaves5_L8h, (((hS.pull 2).pull 2).pull 2)⟩
      rintro E w ⟨A_leaves5_c36, n_leaves5_c36, c_leaves5_c36, cs_leaves5_c36, leaves5_c36, rfl, ec36_1, ec36_4, ec36_5, ec36_27, ec36_28, ec36_29, h_leaves5_c36, hS⟩
      obtain rfl := St.vec_n (hS.pull 1) h_leaves5_c36
      obtain ⟨x41, hx41, hFL8⟩ := ar_s hFL8
      refine x_blk <| x_region <| p (yadd ec36_29 rfl hx41) <| p (yl_move rfl) <|
        x_done <|
        ?_
      obtain rfl := Option.some.inj (show some _ = some _ from hFL8)
      exact x_inv ⟨kL8, Nat.lt_succ_self _, A_leaves5_c36, leaves5_c36.length, c_leaves5_c36, cs_leaves5_c36, leaves5_c36, x41, hLL8, ec36_1, ec36_4, ec36_5, ec36_27, ec36_28, rfl, h_leaves5_c36, (((hS.pull 2).pull 2).pull 2)⟩
    · replace hFL8 := it_f hc30 hFL8
      refine x_exitTo _ rfl <|
        ?_
      obtain rfl := Option.some.inj (show some _ = some _ from hFL8)
      exact x_inv ⟨A_leaves5_L8h, leaves5_L8h.length, c_leaves5_L8h, cs_leaves5_L8h, leaves5_L8h, hLL8, eL8h_4, eL8h_5, h_leaves5_L8h, (((hS.pull 2).pull 2).pull 2)⟩
  rintro E w ⟨A_leaves5_L8, n_leaves5_L8, c_leaves5_L8, cs_leaves5_L8, leaves5_L8, rfl, eL8_4, eL8_5, h_leaves5_L8, hS⟩
  obtain rfl := St.vec_n (hS.pull 1) h_leaves5_L8
  refine x_seq <| x_region <| p (yl_move eL8_4) <| p (yl_move eL8_5) <|
    p (yl_assign rfl) <| p (yl_assign rfl) <| x_done <|
    ?_
  obtain rfl := Option.some.inj (show some _ = some _ from hF)
  exact x_return ⟨_, ⟨_, _, rfl, rfl, _, _, rfl, rfl, rfl⟩, A_bufs4_L2, bufs4_L2.length, c_bufs4_L2, cs_bufs4_L2, A_leaves5_L8, leaves5_L8.length, c_leaves5_L8, cs_leaves5_L8, rfl, h_bufs4_L2, h_leaves5_L8, (((hS.pull 2).pull 2).pull 2)⟩
attribute [irreducible] P_tree_Kids

def P_tree_Check_L15 (t0 : T_tree_Tree) : Int → Option (Int ⊕ (Unit ⊕ Int)) := fun y77_L15h =>
  if y77_L15h < (t0.Up.length : Int) then
    ck (inb y77_L15h t0.Up.length) <|
    lv (gt t0.Up y77_L15h) fun x81 =>
    lv ((decide (x81 < (-1))) || (decide (y77_L15h ≤ x81))) fun x88 =>
    if x88 = true then
      some (Sum.inr (Sum.inr 5))
    else
      ar (y77_L15h + 1) fun x89 =>
      some (Sum.inl x89)
  else
    some (Sum.inr (Sum.inl ()))
def P_tree_Check_L21 (t0 : T_tree_Tree) : Int → Option (Int ⊕ (Unit ⊕ Int)) := fun y93_L21h =>
  if y93_L21h < (t0.Leaf.length : Int) then
    ck (inb y93_L21h t0.Leaf.length) <|
    lv (gt t0.Leaf y93_L21h) fun x96 =>
    lv ((decide (x96 < (-1))) || (decide ((t0.Up.length : Int) ≤ x96))) fun x105 =>
    if x105 = true then
      some (Sum.inr (Sum.inr 7))
    else
      ar (y93_L21h + 1) fun x106 =>
      some (Sum.inl x106)
  else
    some (Sum.inr (Sum.inl ()))
def P_tree_Check_L27 (t0 : T_tree_Tree) : Int → Option (Int ⊕ (Unit ⊕ Int)) := fun b12_L27h =>
  if b12_L27h < (t0.Up.length : Int) then
    bd (P_tree_Kids t0 b12_L27h) fun r29_2 =>
    ar ((r29_2.1.length : Int) + (r29_2.2.length : Int)) fun x124 =>
    if 8 < x124 then
      some (Sum.inr (Sum.inr 14))
    else
      lv ((decide (x124 = 0)) && (decide (0 ≤ b12_L27h))) fun x134 =>
      if x134 = true then
        some (Sum.inr (Sum.inr 18))
      else
        ar (b12_L27h + 1) fun x113 =>
        some (Sum.inl x113)
  else
    some (Sum.inr (Sum.inl ()))
def P_tree_Check (t0 : T_tree_Tree) (leaves1 : Int) (l_2 : List T_api_Cell) : Option Int :=
  bd (P_lib_Check l_2) fun r1_1 =>
  if r1_1 ≠ 0 then
    some r1_1
  else
    lv ((decide (64 < (t0.Up.length : Int))) || (decide (288 < (t0.Leaf.length : Int)))) fun x30 =>
    if x30 = true then
      some 3
    else
      if (t0.Leaf.length : Int) ≠ leaves1 then
        some 4
      else
        lv ((decide ((t0.Up.length : Int) = 0)) && (decide (t0.Cell ≠ 0))) fun x45 =>
        bd (
          if x45 = true then
            some x45
          else
            bd (
              if t0.Cell < 0 then
                some (decide (t0.Cell < 0))
              else
                lv ((decide (0 < (t0.Up.length : Int))) && (decide ((l_2.length : Int) ≤ t0.Cell))) fun x59 =>
                some x59) fun y36_c36_2 =>
            some y36_c36_2) fun y36_c36 =>
        if y36_c36 = true then
          some 2
        else
          ck ((decide (0 < (t0.Up.length : Int))) = true → inb t0.Cell l_2.length) <|
          lv (gt l_2 t0.Cell) fun y12_9 =>
          bd (gd (decide (0 < (t0.Up.length : Int))) (P_tree_IsBuffer y12_9)) fun r12_10 =>
          lv ((decide (0 < (t0.Up.length : Int))) && (!r12_10)) fun x73 =>
          if x73 = true then
            some 8
          else
            bs (
              lp (P_tree_Check_L15 t0) fuel 0) (fun y => some y) fun _ =>
            bs (
              lp (P_tree_Check_L21 t0) fuel 0) (fun y => some y) fun _ =>
            bs (
              lp (P_tree_Check_L27 t0) fuel (-1)) (fun y => some y) fun _ =>
            some 0
set_option maxHeartbeats 4000000 in
set_option maxRecDepth 100000 in
theorem c_tree_Check {w0 w : World} {l : List Assn} {ρ : Heap} {A_t0_1 : Option Addr} {n_t0_1 : Nat} {c_t0_1 : Nat} {A_t0_2 : Option Addr} {n_t0_2 : Nat} {c_t0_2 : Nat} {A_l_2 : Option Addr} {n_l_2 : Nat} {c_l_2 : Nat} {t0 : T_tree_Tree} {leaves1 : Int} {l_2 : List T_api_Cell} {r : Int} (hF : P_tree_Check t0 leaves1 l_2 = some r) (h_t0_1 : RdS (RpI .i64) ρ A_t0_1 n_t0_1 c_t0_1 t0.Up) (h_t0_2 : RdS (RpI .i64) ρ A_t0_2 n_t0_2 c_t0_2 t0.Leaf) (h_l_2 : RdS R_api_Cell ρ A_l_2 n_l_2 c_l_2 l_2) (hS : St w0 w (ro ρ :: l)) :
    Calls Try.prog 42 #[.agg #[.int .i64 t0.Cell, .slice A_t0_1 n_t0_1 c_t0_1, .slice A_t0_2 n_t0_2 c_t0_2], .int .i64 leaves1, .slice A_l_2 n_l_2 c_l_2] w fun e w' => e = .returned (.int .i64 r) ∧ St w0 w' (ro ρ :: l) := by
  obtain rfl := h_t0_1.n
  obtain rfl := h_t0_2.n
  obtain rfl := h_l_2.n
  refine enterC Try.func42 rfl 135 rfl (by simp) ?_
  refine x_seq <| x_region <|
    ?_
  refine o_box (cs := [.int .i64 t0.Cell, .slice A_t0_1 t0.Up.length c_t0_1, .slice A_t0_2 t0.Leaf.length c_t0_2]) rfl rfl hS (fun b3 w' hS => ?_)
  obtain ⟨r1_1, hc1_1, hF⟩ := bd_s hF
  refine p (yl_assign rfl) <| x_done <| x_seq <| x_seq <|
    x_region <| p (yl_move rfl) <|
    ?_
  have hcall := c_lib_Check hc1_1 h_l_2 (hS.pull 1)
  refine o_cc call_98 (args1 rfl) ((Calls.mono hcall (fun e w'' h => And.intro h.1 (h.2.pull 1)))) ?_
  rintro e w' ⟨rfl, hS⟩
  refine ⟨_, rfl, ?_⟩
  refine p (v := .int .i64 r1_1) (yl_assign rfl) <| x_done <| x_seq <| x_region <|
    p (v := .int .i64 r1_1) (yl_move rfl) <| p (yl_neq rfl rfl) <| x_done <|
    x_cond_p (r1_1 ≠ 0) rfl (fun hc19 => ?_) (fun hc19 => ?_)
  · replace hF := it_t hc19 hF
    refine x_seq <| x_region <| p (v := .int .i64 r1_1) (yl_move rfl) <| p (v := .int .i64 r1_1) (yl_assign rfl) <|
      x_done <|
      ?_
    obtain rfl := Option.some.inj (show some _ = some _ from hF)
    exact x_return ⟨_, ⟨_, _, rfl, rfl, rfl⟩, rfl, hS.drop⟩
  · replace hF := it_f hc19 hF
    obtain ⟨x30, hx30, hF⟩ := lv_s hF
    refine x_skip <| x_seq <| x_seq <| x_region <|
      p (yl_field0 fld_38_1 rfl) <| pa (at_load one_22 rfl (hS.cell rfl)) <| p (yl_len_slice usl_22 rfl) <| p (yl_gtr rfl rfl) <|
      p (yl_move rfl) <| pg (v := .pointer (some ⟨b3, 2, none⟩)) 25 (c := !(decide (64 < (t0.Up.length : Int)))) (says_f _) (fun hq => Yl.at (yl_field0 fld_38_2 rfl)) <| pg (v := .slice A_t0_2 t0.Leaf.length c_t0_2) 25 (c := !(decide (64 < (t0.Up.length : Int)))) (says_f _) (fun hq => at_load one_22 (cv hq) (hS.cell rfl)) <| pg (v := .int .i64 (t0.Leaf.length : Int)) 25 (c := !(decide (64 < (t0.Up.length : Int)))) (says_f _) (fun hq => Yl.at (yl_len_slice usl_22 (cv hq))) <|
      pg (v := .bool (decide (288 < (t0.Leaf.length : Int)))) 25 (c := !(decide (64 < (t0.Up.length : Int)))) (says_f _) (fun hq => Yl.at (yl_gtr (cv hq) rfl)) <| p (yor' rfl rfl (fun hc => (cv (t_not hc))) hx30) <| x_done <|
      x_cond (t := x30) rfl (fun hc30 => ?_) (fun hc30 => ?_)
    · replace hF := it_t hc30 hF
      refine x_seq <| x_region <| p (yl_assign rfl) <| x_done <|
        ?_
      obtain rfl := Option.some.inj (show some _ = some _ from hF)
      exact x_return ⟨_, ⟨_, _, rfl, rfl, rfl⟩, rfl, hS.drop⟩
    · replace hF := it_bf hc30 hF
      refine x_skip <| x_seq <| x_seq <| x_region <|
        p (yl_field0 fld_38_2 rfl) <| pa (at_load one_22 rfl (hS.cell rfl)) <| p (yl_len_slice usl_22 rfl) <| p (yl_move rfl) <|
        p (yl_neq rfl rfl) <| x_done <|
        x_cond_p ((t0.Leaf.length : Int) ≠ leaves1) rfl (fun hc35 => ?_) (fun hc35 => ?_)
      · replace hF := it_t hc35 hF
        refine x_seq <| x_region <| p (yl_assign rfl) <| x_done <|
          ?_
        obtain rfl := Option.some.inj (show some _ = some _ from hF)
        exact x_return ⟨_, ⟨_, _, rfl, rfl, rfl⟩, rfl, hS.drop⟩
      · replace hF := it_f hc35 hF
        obtain ⟨x45, hx45, hF⟩ := lv_s hF
        refine x_skip <| x_seq <| x_block <| x_seq <|
          x_seq <| x_region <| p (yl_field0 fld_38_1 rfl) <| pa (at_load one_22 rfl (hS.cell rfl)) <|
          p (yl_len_slice usl_22 rfl) <| p (yl_eql rfl rfl) <| p (yl_move rfl) <| pg (v := .pointer (some ⟨b3, 0, none⟩)) 41 (c := decide ((t0.Up.length : Int) = 0)) (says_t _) (fun hq => Yl.at (yl_field0 fld_38_0 rfl)) <|
          pg (v := .int .i64 t0.Cell) 41 (c := decide ((t0.Up.length : Int) = 0)) (says_t _) (fun hq => at_load one_3 (cv hq) (hS.cell rfl)) <| pg (v := .bool (decide (t0.Cell ≠ 0))) 41 (c := decide ((t0.Up.length : Int) = 0)) (says_t _) (fun hq => Yl.at (yl_neq (cv hq) rfl)) <| p (yand' rfl (fun hc => (cv hc)) rfl hx45) <| p (yl_assign rfl) <|
          x_done <|
          ?_
        obtain ⟨oc36, hFc36, hF⟩ := bd_s hF
        refine x_join (fun E w => ∃ (y36_c36 : Bool), y36_c36 = oc36 ∧ E 2 = .slice A_l_2 l_2.length c_l_2 ∧ E 3 = .pointer (some ⟨b3, 0, none⟩) ∧ E 36 = .bool y36_c36 ∧ St w0 w (cells b3 38 [.int .i64 t0.Cell, .slice A_t0_1 t0.Up.length c_t0_1, .slice A_t0_2 t0.Leaf.length c_t0_2] :: ro ρ :: l)) ?_ ?_
        · skip -- c36
          refine x_cond (t := x45) rfl (fun hc36 => ?_) (fun hc36 => ?_)
          · replace hFc36 := it_t hc36 hFc36
            refine x_skip <|
              ?_
            exact x_inv ⟨x45, (Option.some.inj (show some _ = some _ from hFc36)), rfl, rfl, rfl, ((hS.pull 1).pull 1)⟩
          · replace hFc36 := it_bf hc36 hFc36
            refine x_seq <| x_region <| p (yl_field0 fld_38_0 rfl) <| pa (at_load one_3 rfl (hS.cell rfl)) <|
              p (yl_lss rfl rfl) <| p (yl_assign rfl) <| x_done <|
              ?_
            obtain ⟨oc36_2, hFc36_2, hFc36⟩ := bd_s hFc36
            refine x_join (fun E w => ∃ (y36_c36_2 : Bool), y36_c36_2 = oc36_2 ∧ E 2 = .slice A_l_2 l_2.length c_l_2 ∧ E 3 = .pointer (some ⟨b3, 0, none⟩) ∧ E 36 = .bool y36_c36_2 ∧ St w0 w (cells b3 38 [.int .i64 t0.Cell, .slice A_t0_1 t0.Up.length c_t0_1, .slice A_t0_2 t0.Leaf.length c_t0_2] :: ro ρ :: l)) ?_ ?_
            · skip -- c36_2
              refine x_cond_p (t0.Cell < 0) rfl (fun hc36 => ?_) (fun hc36 => ?_)
              · replace hFc36_2 := it_t hc36 hFc36_2
                refine x_skip <|
                  ?_
                exact x_inv ⟨decide (t0.Cell < 0), (Option.some.inj (show some _ = some _ from hFc36_2)), rfl, rfl, rfl, ((hS.pull 1).pull 1)⟩
              · replace hFc36_2 := it_f hc36 hFc36_2
                obtain ⟨x59, hx59, hFc36_2⟩ := lv_s hFc36_2
                refine x_region <| p (yl_field0 fld_38_1 rfl) <| pa (at_load one_22 rfl (hS.cell rfl)) <| p (yl_len_slice usl_22 rfl) <|
                  p (yl_gtr rfl rfl) <| p (yl_move rfl) <| pg (v := .pointer (some ⟨b3, 0, none⟩)) 53 (c := decide (0 < (t0.Up.length : Int))) (says_t _) (fun hq => Yl.at (yl_field0 fld_38_0 rfl)) <| pg (v := .int .i64 t0.Cell) 53 (c := decide (0 < (t0.Up.length : Int))) (says_t _) (fun hq => at_load one_3 (cv hq) (hS.cell rfl)) <|
                  pg (v := .slice A_l_2 l_2.length c_l_2) 53 (c := decide (0 < (t0.Up.length : Int))) (says_t _) (fun hq => Yl.at (yl_move rfl)) <| pg (v := .int .i64 (l_2.length : Int)) 53 (c := decide (0 < (t0.Up.length : Int))) (says_t _) (fun hq => Yl.at (yl_len_slice usl_35 (cv hq))) <| pg (v := .bool (decide ((l_2.length : Int) ≤ t0.Cell))) 53 (c := decide (0 < (t0.Up.length : Int))) (says_t _) (fun hq => Yl.at (yl_geq (cv hq) (cv hq))) <| p (yand' rfl (fun hc => (cv hc)) rfl hx59) <|
                  p (yl_assign rfl) <| x_done <|
                  ?_
                exact x_inv ⟨x59, (Option.some.inj (show some _ = some _ from hFc36_2)), rfl, rfl, rfl, ((hS.pull 1).pull 1)⟩
            rintro E w ⟨y36_c36_2, rfl, ec36_2_2, ec36_2_3, ec36_2_36, hS⟩
            exact x_inv ⟨y36_c36_2, (Option.some.inj (show some _ = some _ from hFc36)), ec36_2_2, ec36_2_3, ec36_2_36, ((hS.pull 1).pull 1)⟩
        rintro E w ⟨y36_c36, rfl, ec36_2, ec36_3, ec36_36, hS⟩
        refine x_cond (t := y36_c36) ec36_36 (fun hc36 => ?_) (fun hc36 => ?_)
        · replace hF := it_t hc36 hF
          refine x_seq <| x_region <| p (yl_assign rfl) <| x_done <|
            ?_
          obtain rfl := Option.some.inj (show some _ = some _ from hF)
          exact x_return ⟨_, ⟨_, _, rfl, rfl, rfl⟩, rfl, hS.drop⟩
        · replace hF := it_bf hc36 hF
          obtain ⟨hk12_8, hF⟩ := ck_s hF
          obtain ⟨y12_9, hy12_9, hF⟩ := lv_s hF
          obtain ⟨el12_9, ek12_9, ee12_9⟩ := RdS.getD R_api_Cell_d h_l_2 t0.Cell
          rw [← hy12_9] at ek12_9
          obtain ⟨A12_9_5, n12_9_5, c12_9_5, A12_9_6, n12_9_6, c12_9_6, A12_9_7, n12_9_7, c12_9_7, rfl, f12_9_5, f12_9_6, f12_9_7⟩ := ek12_9
          obtain rfl := f12_9_5.n
          obtain rfl := f12_9_6.n
          obtain rfl := f12_9_7.n
          obtain ⟨r12_10, hc12_10, hF⟩ := bd_s hF
          refine x_seq <| x_region <| p (yl_field0 fld_38_1 ec36_3) <| pa (at_load one_22 rfl (hS.cell rfl)) <|
            p (yl_len_slice usl_22 rfl) <| p (yl_gtr rfl rfl) <| p (yl_move rfl) <| pg (v := .slice A_l_2 l_2.length c_l_2) 65 (c := decide (0 < (t0.Up.length : Int))) (says_t _) (fun hq => Yl.at (yl_move ec36_2)) <|
            pg (v := .pointer (some ⟨b3, 0, none⟩)) 65 (c := decide (0 < (t0.Up.length : Int))) (says_t _) (fun hq => Yl.at (yl_field0 fld_38_0 ec36_3)) <| pg (v := .int .i64 t0.Cell) 65 (c := decide (0 < (t0.Up.length : Int))) (says_t _) (fun hq => at_load one_3 (cv hq) (hS.cell rfl)) <| pg (v := .pointer (some ((adr A_l_2).add (t0.Cell.toNat * R_api_Cell.sz)))) 65 (c := decide (0 < (t0.Up.length : Int))) (says_t _) (fun hq => Yl.at (yix_f sl_35 (cv hq) (cv hq) h_l_2 (hk12_8 hq))) <| pg (v := .agg #[.string y12_9.Name, .bool y12_9.Flop, .int .i64 y12_9.Ins, .int .u64 y12_9.Table, .int .i64 y12_9.Area, .slice A12_9_5 y12_9.Cap.length c12_9_5, .slice A12_9_6 y12_9.Min.length c12_9_6, .slice A12_9_7 y12_9.Max.length c12_9_7, .int .i64 y12_9.Drive, .int .i64 y12_9.Setup, .int .i64 y12_9.Hold]) 65 (c := decide (0 < (t0.Up.length : Int))) (says_t _) (fun hq => at_loadAgg agg_46 (cv hq) rfl (Elt.every (ee12_9 (hk12_8 hq)) (hS.pull 1))) <|
            pccg (v := .bool r12_10) 65 (c := decide (0 < (t0.Up.length : Int))) (says_t _) call_100 (fun hq => (args1 (cv hq))) hS (fun hq => by
              have hcall := c_tree_IsBuffer (gd_t hc12_10 hq) f12_9_5 f12_9_6 f12_9_7 (hS.pull 1)
              exact (Calls.mono hcall (fun e w'' h => And.intro h.1 (h.2.pull 1)))) (fun w' hS => ?_)
          obtain ⟨x73, hx73, hF⟩ := lv_s hF
          refine pg (v := .bool (!r12_10)) 65 (c := decide (0 < (t0.Up.length : Int))) (says_t _) (fun hq => Yl.at (yl_not (cv hq))) <| p (yand' rfl (fun hc => (cv hc)) rfl hx73) <| p (yl_assign rfl) <| x_done <|
            x_cond (t := x73) rfl (fun hc60 => ?_) (fun hc60 => ?_)
          · replace hF := it_t hc60 hF
            refine x_seq <| x_region <| p (yl_assign rfl) <| x_done <|
              ?_
            obtain rfl := Option.some.inj (show some _ = some _ from hF)
            exact x_return ⟨_, ⟨_, _, rfl, rfl, rfl⟩, rfl, hS.drop⟩
          · replace hF := it_bf hc60 hF
            refine x_skip <| x_blk <| x_seq <| x_seq <|
              x_region <| p (yl_field0 fld_38_1 ec36_3) <| pa (at_load one_22 rfl (hS.cell rfl)) <| p (yl_len_slice usl_22 rfl) <|
              p (yl_move rfl) <| x_done <|
              ?_
            obtain ⟨oL15, hLL15, hF⟩ := bs_s hF
            refine x_join (fun E w => (Sum.inl (())) = oL15 ∧ E 3 = .pointer (some ⟨b3, 0, none⟩) ∧ St w0 w (cells b3 38 [.int .i64 t0.Cell, .slice A_t0_1 t0.Up.length c_t0_1, .slice A_t0_2 t0.Leaf.length c_t0_2] :: ro ρ :: l)) ?_ ?_
            · skip -- L15
              refine x_block ?_
              refine x_loop (fun k_ E w => ∃ (y77_L15h : Int), lp (P_tree_Check_L15 t0) k_ y77_L15h = some oL15 ∧ E 3 = .pointer (some ⟨b3, 0, none⟩) ∧ E 75 = .slice A_t0_1 t0.Up.length c_t0_1 ∧ E 76 = .int .i64 (t0.Up.length : Int) ∧ E 77 = .int .i64 y77_L15h ∧ St w0 w (cells b3 38 [.int .i64 t0.Cell, .slice A_t0_1 t0.Up.length c_t0_1, .slice A_t0_2 t0.Leaf.length c_t0_2] :: ro ρ :: l)) fuel ⟨0, hLL15, ec36_3, rfl, rfl, rfl, ((hS.pull 1).pull 1)⟩ ?_
              rintro kL15 E w ⟨y77_L15h, hLL15, eL15h_3, eL15h_75, eL15h_76, eL15h_77, hS⟩
              obtain ⟨kL15, obL15, rfl, hFL15, hLL15⟩ := lp_s hLL15
              refine x_seq <| x_region <| p (yl_lss eL15h_77 eL15h_76) <| x_done <|
                x_seq <|
                x_cond_p (y77_L15h < (t0.Up.length : Int)) rfl (fun hc78 => ?_) (fun hc78 => ?_)
              · replace hFL15 := it_t hc78 hFL15
                obtain ⟨hk16_1, hFL15⟩ := ck_s hFL15
                obtain ⟨x81, hx81, hFL15⟩ := lv_s hFL15
                obtain ⟨x88, hx88, hFL15⟩ := lv_s hFL15
                refine x_skip <| x_seq <| x_block <| x_seq <|
                  x_region <| p (yl_move eL15h_77) <| p (yix_f sl_22 eL15h_75 eL15h_77 h_t0_1 hk16_1) <| pa (at_load one_3 rfl (RdS.getW h_t0_1 (hS.pull 1) hk16_1 hx81)) <|
                  p (yl_assign rfl) <| p (yl_assign rfl) <| x_done <| x_seq <|
                  x_region <| p (yl_move rfl) <| p (yl_lss rfl rfl) <| p (yl_move rfl) <|
                  pg (v := .int .i64 x81) 84 (c := !(decide (x81 < (-1)))) (says_f _) (fun hq => Yl.at (yl_move rfl)) <| pg (v := .int .i64 y77_L15h) 84 (c := !(decide (x81 < (-1)))) (says_f _) (fun hq => Yl.at (yl_move rfl)) <| pg (v := .bool (decide (y77_L15h ≤ x81))) 84 (c := !(decide (x81 < (-1)))) (says_f _) (fun hq => Yl.at (yl_geq (cv hq) (cv hq))) <| p (yor' rfl rfl (fun hc => (cv (t_not hc))) hx88) <|
                  x_done <|
                  x_cond (t := x88) rfl (fun hc88 => ?_) (fun hc88 => ?_)
                · replace hFL15 := it_t hc88 hFL15
                  refine x_seq <| x_region <| p (yl_assign rfl) <| x_done <|
                    ?_
                  obtain rfl := Option.some.inj (show some _ = some _ from hFL15)
                  obtain rfl := (show _ = oL15 from hLL15)
                  obtain rfl := Option.some.inj (show some _ = some _ from hF)
                  exact x_return ⟨_, ⟨_, _, rfl, rfl, rfl⟩, rfl, hS.drop⟩
                · replace hFL15 := it_bf hc88 hFL15
                  obtain ⟨x89, hx89, hFL15⟩ := ar_s hFL15
                  refine x_skip <| x_blk <| x_region <| p (yadd eL15h_77 rfl hx89) <|
                    p (yl_move rfl) <| x_done <|
                    ?_
                  obtain rfl := Option.some.inj (show some _ = some _ from hFL15)
                  exact x_inv ⟨kL15, Nat.lt_succ_self _, x89, hLL15, eL15h_3, eL15h_75, eL15h_76, rfl, ((hS.pull 1).pull 1)⟩
              · replace hFL15 := it_f hc78 hFL15
                refine x_exitTo _ rfl <|
                  ?_
                obtain rfl := Option.some.inj (show some _ = some _ from hFL15)
                exact x_inv ⟨hLL15, eL15h_3, ((hS.pull 1).pull 1)⟩
            rintro E w ⟨rfl, eL15_3, hS⟩
            refine x_seq <| x_seq <| x_region <| p (yl_field0 fld_38_2 eL15_3) <|
              pa (at_load one_22 rfl (hS.cell rfl)) <| p (yl_len_slice usl_22 rfl) <| p (yl_move rfl) <| x_done <|
              ?_
            obtain ⟨oL21, hLL21, hF⟩ := bs_s hF
            refine x_join (fun E w => (Sum.inl (())) = oL21 ∧ E 3 = .pointer (some ⟨b3, 0, none⟩) ∧ St w0 w (cells b3 38 [.int .i64 t0.Cell, .slice A_t0_1 t0.Up.length c_t0_1, .slice A_t0_2 t0.Leaf.length c_t0_2] :: ro ρ :: l)) ?_ ?_
            · skip -- L21
              refine x_block ?_
              refine x_loop (fun k_ E w => ∃ (y93_L21h : Int), lp (P_tree_Check_L21 t0) k_ y93_L21h = some oL21 ∧ E 3 = .pointer (some ⟨b3, 0, none⟩) ∧ E 91 = .slice A_t0_2 t0.Leaf.length c_t0_2 ∧ E 92 = .int .i64 (t0.Leaf.length : Int) ∧ E 93 = .int .i64 y93_L21h ∧ St w0 w (cells b3 38 [.int .i64 t0.Cell, .slice A_t0_1 t0.Up.length c_t0_1, .slice A_t0_2 t0.Leaf.length c_t0_2] :: ro ρ :: l)) fuel ⟨0, hLL21, eL15_3, rfl, rfl, rfl, ((hS.pull 1).pull 1)⟩ ?_
              rintro kL21 E w ⟨y93_L21h, hLL21, eL21h_3, eL21h_91, eL21h_92, eL21h_93, hS⟩
              obtain ⟨kL21, obL21, rfl, hFL21, hLL21⟩ := lp_s hLL21
              refine x_seq <| x_region <| p (yl_lss eL21h_93 eL21h_92) <| x_done <|
                x_seq <|
                x_cond_p (y93_L21h < (t0.Leaf.length : Int)) rfl (fun hc94 => ?_) (fun hc94 => ?_)
              · replace hFL21 := it_t hc94 hFL21
                obtain ⟨hk22_0, hFL21⟩ := ck_s hFL21
                obtain ⟨x96, hx96, hFL21⟩ := lv_s hFL21
                obtain ⟨x105, hx105, hFL21⟩ := lv_s hFL21
                refine x_skip <| x_seq <| x_block <| x_seq <|
                  x_region <| p (yix_f sl_22 eL21h_91 eL21h_93 h_t0_2 hk22_0) <| pa (at_load one_3 rfl (RdS.getW h_t0_2 (hS.pull 1) hk22_0 hx96)) <| p (yl_assign rfl) <|
                  x_done <| x_seq <| x_region <| p (yl_move rfl) <|
                  p (yl_lss rfl rfl) <| p (yl_move rfl) <| pg (v := .int .i64 x96) 99 (c := !(decide (x96 < (-1)))) (says_f _) (fun hq => Yl.at (yl_move rfl)) <| pg (v := .pointer (some ⟨b3, 1, none⟩)) 99 (c := !(decide (x96 < (-1)))) (says_f _) (fun hq => Yl.at (yl_field0 fld_38_1 eL21h_3)) <|
                  pg (v := .slice A_t0_1 t0.Up.length c_t0_1) 99 (c := !(decide (x96 < (-1)))) (says_f _) (fun hq => at_load one_22 (cv hq) (hS.cell rfl)) <| pg (v := .int .i64 (t0.Up.length : Int)) 99 (c := !(decide (x96 < (-1)))) (says_f _) (fun hq => Yl.at (yl_len_slice usl_22 (cv hq))) <| pg (v := .bool (decide ((t0.Up.length : Int) ≤ x96))) 99 (c := !(decide (x96 < (-1)))) (says_f _) (fun hq => Yl.at (yl_geq (cv hq) (cv hq))) <| p (yor' rfl rfl (fun hc => (cv (t_not hc))) hx105) <|
                  x_done <|
                  x_cond (t := x105) rfl (fun hc105 => ?_) (fun hc105 => ?_)
                · replace hFL21 := it_t hc105 hFL21
                  refine x_seq <| x_region <| p (yl_assign rfl) <| x_done <|
                    ?_
                  obtain rfl := Option.some.inj (show some _ = some _ from hFL21)
                  obtain rfl := (show _ = oL21 from hLL21)
                  obtain rfl := Option.some.inj (show some _ = some _ from hF)
                  exact x_return ⟨_, ⟨_, _, rfl, rfl, rfl⟩, rfl, hS.drop⟩
                · replace hFL21 := it_bf hc105 hFL21
                  obtain ⟨x106, hx106, hFL21⟩ := ar_s hFL21
                  refine x_skip <| x_blk <| x_region <| p (yadd eL21h_93 rfl hx106) <|
                    p (yl_move rfl) <| x_done <|
                    ?_
                  obtain rfl := Option.some.inj (show some _ = some _ from hFL21)
                  exact x_inv ⟨kL21, Nat.lt_succ_self _, x106, hLL21, eL21h_3, eL21h_91, eL21h_92, rfl, ((hS.pull 1).pull 1)⟩
              · replace hFL21 := it_f hc94 hFL21
                refine x_exitTo _ rfl <|
                  ?_
                obtain rfl := Option.some.inj (show some _ = some _ from hFL21)
                exact x_inv ⟨hLL21, eL21h_3, ((hS.pull 1).pull 1)⟩
            rintro E w ⟨rfl, eL21_3, hS⟩
            refine x_seq <| x_seq <| x_region <| p (yl_assign rfl) <|
              x_done <|
              ?_
            obtain ⟨oL27, hLL27, hF⟩ := bs_s hF
            refine x_join (fun E w => (Sum.inl (())) = oL27 ∧ St w0 w (ro ρ :: l)) ?_ ?_
            · skip -- L27
              refine x_block ?_
              refine x_loop (fun k_ E w => ∃ (b12_L27h : Int), lp (P_tree_Check_L27 t0) k_ b12_L27h = some oL27 ∧ E 3 = .pointer (some ⟨b3, 0, none⟩) ∧ E 12 = .int .i64 b12_L27h ∧ St w0 w (cells b3 38 [.int .i64 t0.Cell, .slice A_t0_1 t0.Up.length c_t0_1, .slice A_t0_2 t0.Leaf.length c_t0_2] :: ro ρ :: l)) fuel ⟨(-1), hLL27, eL21_3, rfl, ((hS.pull 1).pull 1)⟩ ?_
              rintro kL27 E w ⟨b12_L27h, hLL27, eL27h_3, eL27h_12, hS⟩
              obtain ⟨kL27, obL27, rfl, hFL27, hLL27⟩ := lp_s hLL27
              refine x_seq <| x_seq <| x_region <| p (yl_move eL27h_12) <|
                p (yl_field0 fld_38_1 eL27h_3) <| pa (at_load one_22 rfl (hS.cell rfl)) <| p (yl_len_slice usl_22 rfl) <| p (yl_lss rfl rfl) <|
                x_done <|
                x_cond_p (b12_L27h < (t0.Up.length : Int)) rfl (fun hc111 => ?_) (fun hc111 => ?_)
              · replace hFL27 := it_t hc111 hFL27
                obtain ⟨r29_2, hc29_2, hFL27⟩ := bd_s hFL27
                refine x_skip <| x_seq <| x_block <| x_seq <|
                  x_region <| pa (v := .agg #[.int .i64 t0.Cell, .slice A_t0_1 t0.Up.length c_t0_1, .slice A_t0_2 t0.Leaf.length c_t0_2]) (ld_sub agg_38 eL27h_3 rfl rfl hS) <| p (yl_move eL27h_12) <|
                  ?_
                have hcall := c_tree_Kids hc29_2 h_t0_1 h_t0_2 (hS.pull 1)
                refine o_cc call_76 (args2 rfl rfl) hcall ?_
                rintro e w' ⟨A_y0_ret_29_2, n_y0_ret_29_2, c_y0_ret_29_2, cs_y0_ret_29_2, A_y1_ret_29_2, n_y1_ret_29_2, c_y1_ret_29_2, cs_y1_ret_29_2, rfl, h_y0_ret_29_2, h_y1_ret_29_2, hS⟩
                refine ⟨_, rfl, ?_⟩
                obtain rfl := St.vec_n hS h_y0_ret_29_2
                obtain rfl := St.vec_n (hS.pull 1) h_y1_ret_29_2
                obtain ⟨x124, hx124, hFL27⟩ := ar_s hFL27
                refine p (yl_move rfl) <| p (yl_extract rfl rfl) <| p (yl_extract rfl rfl) <| p (yl_assign rfl) <|
                  p (yl_assign rfl) <| x_done <| x_seq <| x_region <|
                  p (yl_move rfl) <| p (yl_len_slice usl_22 rfl) <| p (yl_move rfl) <| p (yl_len_slice usl_22 rfl) <|
                  p (yadd rfl rfl hx124) <| p (yl_assign rfl) <| x_done <| x_block <|
                  x_seq <| x_region <| p (yl_move rfl) <| p (yl_gtr rfl rfl) <|
                  p (yl_assign rfl) <| x_done <|
                  x_cond_p (8 < x124) rfl (fun hc125 => ?_) (fun hc125 => ?_)
                · replace hFL27 := it_t hc125 hFL27
                  refine x_seq <| x_region <| p (yl_assign rfl) <| x_done <|
                    ?_
                  obtain rfl := Option.some.inj (show some _ = some _ from hFL27)
                  obtain rfl := (show _ = oL27 from hLL27)
                  obtain rfl := Option.some.inj (show some _ = some _ from hF)
                  exact x_return ⟨_, ⟨_, _, rfl, rfl, rfl⟩, rfl, ((hS.drop.drop.pull 1).drop)⟩
                · replace hFL27 := it_f hc125 hFL27
                  obtain ⟨x134, hx134, hFL27⟩ := lv_s hFL27
                  refine x_seq <| x_region <| p (yl_move rfl) <| p (yl_eql rfl rfl) <|
                    p (yl_move rfl) <| pg (v := .int .i64 b12_L27h) 131 (c := decide (x124 = 0)) (says_t _) (fun hq => Yl.at (yl_move eL27h_12)) <| pg (v := .bool (decide (0 ≤ b12_L27h))) 131 (c := decide (x124 = 0)) (says_t _) (fun hq => Yl.at (yl_geq (cv hq) rfl)) <| p (yand' rfl (fun hc => (cv hc)) rfl hx134) <|
                    p (yl_assign rfl) <| x_done <|
                    x_cond (t := x134) rfl (fun hc128 => ?_) (fun hc128 => ?_)
                  · replace hFL27 := it_t hc128 hFL27
                    refine x_seq <| x_region <| p (yl_assign rfl) <| x_done <|
                      ?_
                    obtain rfl := Option.some.inj (show some _ = some _ from hFL27)
                    obtain rfl := (show _ = oL27 from hLL27)
                    obtain rfl := Option.some.inj (show some _ = some _ from hF)
                    exact x_return ⟨_, ⟨_, _, rfl, rfl, rfl⟩, rfl, ((hS.drop.drop.pull 1).drop)⟩
                  · replace hFL27 := it_bf hc128 hFL27
                    obtain ⟨x113, hx113, hFL27⟩ := ar_s hFL27
                    refine x_skip <| x_blk <| x_blk <| x_region <|
                      p (yl_move eL27h_12) <| p (yadd rfl rfl hx113) <| p (yl_assign rfl) <| x_done <|
                      ?_
                    obtain rfl := Option.some.inj (show some _ = some _ from hFL27)
                    exact x_inv ⟨kL27, Nat.lt_succ_self _, x113, hLL27, eL27h_3, rfl, (hS.drop.drop.pull 1)⟩
              · replace hFL27 := it_f hc111 hFL27
                refine x_exitTo _ rfl <|
                  ?_
                obtain rfl := Option.some.inj (show some _ = some _ from hFL27)
                exact x_inv ⟨hLL27, hS.drop⟩
            rintro E w ⟨rfl, hS⟩
            refine x_seq <| x_region <| p (yl_assign rfl) <| x_done <|
              ?_
            obtain rfl := Option.some.inj (show some _ = some _ from hF)
            exact x_return ⟨_, ⟨_, _, rfl, rfl, rfl⟩, rfl, hS⟩
attribute [irreducible] P_tree_Check


end Go.Proofs.Ytnooiajahmichaa.X
