/- Printed by gen.py: plain functions, and that the Go code computes them. -/
import Derived.Test.YtclhfemcinibmaaDoorYJ
import Derived.Test.YtclhfemcinibmaaDoorXT
import Derived.Test.YtclhfemcinibmaaDoorXI
namespace Go.Proofs.YtclhfemcinibmaaDoor.X
open Go Go.RowKit
set_option linter.unusedVariables false
set_option linter.unusedSimpArgs false

structure T_maskmake_Stream where
  L : List Int
  fat : Int
  deriving DecidableEq, Inhabited
def R_maskmake_Stream : Rp T_maskmake_Stream where
  sz := 2
  ok ρ cs x := ∃ A0 n0 c0, cs = [.slice A0 n0 c0, .int .i64 x.fat] ∧ RdS (RpI .i64) ρ A0 n0 c0 x.L
  pos := by decide
  len := by rintro ρ cs x ⟨A0, n0, c0, rfl, _⟩; rfl
  le := by rintro ρ ρ' cs x ⟨A0, n0, c0, rfl, h0⟩ hle; exact ⟨_, _, _, rfl, h0.le hle⟩
  one := by rintro ρ cs x ⟨A0, n0, c0, rfl, _⟩ v hv; exact allOne_spec rfl v hv
theorem R_maskmake_Stream_d : ∃ cs, ∀ ρ, R_maskmake_Stream.ok ρ cs default := ⟨[.slice none 0 0, .int .i64 0], fun ρ => ⟨_, _, _, rfl, RdS.nil⟩⟩

structure T_api_Cell where
  Name : ByteArray
  Flop : Bool
  Ins : Int
  Table : Int
  Area : Int
  Cap : List Int
  Min : List Int
  Max : List Int
  Drive : Int
  Setup : Int
  Hold : Int
  deriving DecidableEq, Inhabited
def R_api_Cell : Rp T_api_Cell where
  sz := 11
  ok ρ cs x := ∃ A5 n5 c5 A6 n6 c6 A7 n7 c7, cs = [.string x.Name, .bool x.Flop, .int .i64 x.Ins, .int .u64 x.Table, .int .i64 x.Area, .slice A5 n5 c5, .slice A6 n6 c6, .slice A7 n7 c7, .int .i64 x.Drive, .int .i64 x.Setup, .int .i64 x.Hold] ∧ RdS (RpI .i64) ρ A5 n5 c5 x.Cap ∧ RdS (RpI .i64) ρ A6 n6 c6 x.Min ∧ RdS (RpI .i64) ρ A7 n7 c7 x.Max
  pos := by decide
  len := by rintro ρ cs x ⟨A5, n5, c5, A6, n6, c6, A7, n7, c7, rfl, _⟩; rfl
  le := by rintro ρ ρ' cs x ⟨A5, n5, c5, A6, n6, c6, A7, n7, c7, rfl, h0, h1, h2⟩ hle; exact ⟨_, _, _, _, _, _, _, _, _, rfl, h0.le hle, h1.le hle, h2.le hle⟩
  one := by rintro ρ cs x ⟨A5, n5, c5, A6, n6, c6, A7, n7, c7, rfl, _⟩ v hv; exact allOne_spec rfl v hv
theorem R_api_Cell_d : ∃ cs, ∀ ρ, R_api_Cell.ok ρ cs default := ⟨[.string ByteArray.empty, .bool false, .int .i64 0, .int .u64 0, .int .i64 0, .slice none 0 0, .slice none 0 0, .slice none 0 0, .int .i64 0, .int .i64 0, .int .i64 0], fun ρ => ⟨_, _, _, _, _, _, _, _, _, rfl, RdS.nil, RdS.nil, RdS.nil⟩⟩

structure T_api_Gate where
  Cell : Int
  Table : Int
  Ins : List Int
  deriving DecidableEq, Inhabited
def R_api_Gate : Rp T_api_Gate where
  sz := 3
  ok ρ cs x := ∃ A2 n2 c2, cs = [.int .i64 x.Cell, .int .u64 x.Table, .slice A2 n2 c2] ∧ RdS (RpI .i64) ρ A2 n2 c2 x.Ins
  pos := by decide
  len := by rintro ρ cs x ⟨A2, n2, c2, rfl, _⟩; rfl
  le := by rintro ρ ρ' cs x ⟨A2, n2, c2, rfl, h0⟩ hle; exact ⟨_, _, _, rfl, h0.le hle⟩
  one := by rintro ρ cs x ⟨A2, n2, c2, rfl, _⟩ v hv; exact allOne_spec rfl v hv
theorem R_api_Gate_d : ∃ cs, ∀ ρ, R_api_Gate.ok ρ cs default := ⟨[.int .i64 0, .int .u64 0, .slice none 0 0], fun ρ => ⟨_, _, _, rfl, RdS.nil⟩⟩

structure T_api_Flop where
  Name : ByteArray
  Cell : Int
  D : Int
  En : Int
  Init : Bool
  deriving DecidableEq, Inhabited
def R_api_Flop : Rp T_api_Flop where
  sz := 5
  ok _ cs x := cs = [.string x.Name, .int .i64 x.Cell, .int .i64 x.D, .int .i64 x.En, .bool x.Init]
  pos := by decide
  len := by rintro ρ cs x rfl; rfl
  le := by rintro ρ ρ' cs x rfl hle; rfl
  one := by rintro ρ cs x rfl v hv; exact allOne_spec rfl v hv
theorem R_api_Flop_d : ∃ cs, ∀ ρ, R_api_Flop.ok ρ cs default := ⟨[.string ByteArray.empty, .int .i64 0, .int .i64 0, .int .i64 0, .bool false], fun ρ => rfl⟩

structure T_api_Netlist where
  In : List ByteArray
  Out : List ByteArray
  Flops : List T_api_Flop
  Gates : List T_api_Gate
  Outs : List Int
  deriving DecidableEq, Inhabited
def R_api_Netlist : Rp T_api_Netlist where
  sz := 5
  ok ρ cs x := ∃ A0 n0 c0 A1 n1 c1 A2 n2 c2 A3 n3 c3 A4 n4 c4, cs = [.slice A0 n0 c0, .slice A1 n1 c1, .slice A2 n2 c2, .slice A3 n3 c3, .slice A4 n4 c4] ∧ RdS RpS ρ A0 n0 c0 x.In ∧ RdS RpS ρ A1 n1 c1 x.Out ∧ RdS R_api_Flop ρ A2 n2 c2 x.Flops ∧ RdS R_api_Gate ρ A3 n3 c3 x.Gates ∧ RdS (RpI .i64) ρ A4 n4 c4 x.Outs
  pos := by decide
  len := by rintro ρ cs x ⟨A0, n0, c0, A1, n1, c1, A2, n2, c2, A3, n3, c3, A4, n4, c4, rfl, _⟩; rfl
  le := by rintro ρ ρ' cs x ⟨A0, n0, c0, A1, n1, c1, A2, n2, c2, A3, n3, c3, A4, n4, c4, rfl, h0, h1, h2, h3, h4⟩ hle; exact ⟨_, _, _, _, _, _, _, _, _, _, _, _, _, _, _, rfl, h0.le hle, h1.le hle, h2.le hle, h3.le hle, h4.le hle⟩
  one := by rintro ρ cs x ⟨A0, n0, c0, A1, n1, c1, A2, n2, c2, A3, n3, c3, A4, n4, c4, rfl, _⟩ v hv; exact allOne_spec rfl v hv
theorem R_api_Netlist_d : ∃ cs, ∀ ρ, R_api_Netlist.ok ρ cs default := ⟨[.slice none 0 0, .slice none 0 0, .slice none 0 0, .slice none 0 0, .slice none 0 0], fun ρ => ⟨_, _, _, _, _, _, _, _, _, _, _, _, _, _, _, rfl, RdS.nil, RdS.nil, RdS.nil, RdS.nil, RdS.nil⟩⟩

structure T_floor_Port where
  Name : ByteArray
  Out : Bool
  X : Int
  Y : Int
  deriving DecidableEq, Inhabited
def R_floor_Port : Rp T_floor_Port where
  sz := 4
  ok _ cs x := cs = [.string x.Name, .bool x.Out, .int .i64 x.X, .int .i64 x.Y]
  pos := by decide
  len := by rintro ρ cs x rfl; rfl
  le := by rintro ρ ρ' cs x rfl hle; rfl
  one := by rintro ρ cs x rfl v hv; exact allOne_spec rfl v hv
theorem R_floor_Port_d : ∃ cs, ∀ ρ, R_floor_Port.ok ρ cs default := ⟨[.string ByteArray.empty, .bool false, .int .i64 0, .int .i64 0], fun ρ => rfl⟩

structure T_floor_Block where
  Row : Int
  From : Int
  To : Int
  deriving DecidableEq, Inhabited
def R_floor_Block : Rp T_floor_Block where
  sz := 3
  ok _ cs x := cs = [.int .i64 x.Row, .int .i64 x.From, .int .i64 x.To]
  pos := by decide
  len := by rintro ρ cs x rfl; rfl
  le := by rintro ρ ρ' cs x rfl hle; rfl
  one := by rintro ρ cs x rfl v hv; exact allOne_spec rfl v hv
theorem R_floor_Block_d : ∃ cs, ∀ ρ, R_floor_Block.ok ρ cs default := ⟨[.int .i64 0, .int .i64 0, .int .i64 0], fun ρ => rfl⟩

structure T_floor_Wall where
  Layer : Int
  X0 : Int
  Y0 : Int
  X1 : Int
  Y1 : Int
  deriving DecidableEq, Inhabited
def R_floor_Wall : Rp T_floor_Wall where
  sz := 5
  ok _ cs x := cs = [.int .i64 x.Layer, .int .i64 x.X0, .int .i64 x.Y0, .int .i64 x.X1, .int .i64 x.Y1]
  pos := by decide
  len := by rintro ρ cs x rfl; rfl
  le := by rintro ρ ρ' cs x rfl hle; rfl
  one := by rintro ρ cs x rfl v hv; exact allOne_spec rfl v hv
theorem R_floor_Wall_d : ∃ cs, ∀ ρ, R_floor_Wall.ok ρ cs default := ⟨[.int .i64 0, .int .i64 0, .int .i64 0, .int .i64 0, .int .i64 0], fun ρ => rfl⟩

structure T_floor_Floor where
  Rows : Int
  Sites : Int
  Layers : Int
  Blocks : List T_floor_Block
  Walls : List T_floor_Wall
  Ports : List T_floor_Port
  deriving DecidableEq, Inhabited
def R_floor_Floor : Rp T_floor_Floor where
  sz := 6
  ok ρ cs x := ∃ A3 n3 c3 A4 n4 c4 A5 n5 c5, cs = [.int .i64 x.Rows, .int .i64 x.Sites, .int .i64 x.Layers, .slice A3 n3 c3, .slice A4 n4 c4, .slice A5 n5 c5] ∧ RdS R_floor_Block ρ A3 n3 c3 x.Blocks ∧ RdS R_floor_Wall ρ A4 n4 c4 x.Walls ∧ RdS R_floor_Port ρ A5 n5 c5 x.Ports
  pos := by decide
  len := by rintro ρ cs x ⟨A3, n3, c3, A4, n4, c4, A5, n5, c5, rfl, _⟩; rfl
  le := by rintro ρ ρ' cs x ⟨A3, n3, c3, A4, n4, c4, A5, n5, c5, rfl, h0, h1, h2⟩ hle; exact ⟨_, _, _, _, _, _, _, _, _, rfl, h0.le hle, h1.le hle, h2.le hle⟩
  one := by rintro ρ cs x ⟨A3, n3, c3, A4, n4, c4, A5, n5, c5, rfl, _⟩ v hv; exact allOne_spec rfl v hv
theorem R_floor_Floor_d : ∃ cs, ∀ ρ, R_floor_Floor.ok ρ cs default := ⟨[.int .i64 0, .int .i64 0, .int .i64 0, .slice none 0 0, .slice none 0 0, .slice none 0 0], fun ρ => ⟨_, _, _, _, _, _, _, _, _, rfl, RdS.nil, RdS.nil, RdS.nil⟩⟩

def P_maskmake_Below (x0 : Int) (n1 : Int) : Option Int :=
  if n1 < 1 then
    some (0 : Int)
  else
    ck (n1 ≠ 0) <|
    lv (Int.tmod x0 n1) fun x9 =>
    bd (
      if x9 < 0 then
        ar (x9 + n1) fun x14 =>
        some x14
      else
        some x9) fun x0_c11 =>
    some x0_c11
set_option maxHeartbeats 4000000 in
set_option maxRecDepth 100000 in
theorem c_maskmake_Below {w0 w : World} {l : List Assn} {ρ : Heap} {x0 : Int} {n1 : Int} {r : Int} (hF : P_maskmake_Below x0 n1 = some r) (hS : St w0 w (ro ρ :: l)) :
    Calls Tryd.prog 21 #[.int .i64 x0, .int .i64 n1] w fun e w' => e = .returned (.int .i64 r) ∧ St w0 w' (ro ρ :: l) := by
  refine enterC Tryd.func21 rfl 16 rfl (by simp) ?_
  refine x_seq <| x_region <| p (yl_assign rfl) <| x_done <|
    x_seq <| x_seq <| x_region <| p (yl_move rfl) <|
    p (yl_lss rfl rfl) <| x_done <|
    x_cond_p (n1 < 1) rfl (fun hc6 => ?_) (fun hc6 => ?_)
  · replace hF := it_t hc6 hF
    refine x_seq <| x_region <| p (yl_assign rfl) <| x_done <|
      ?_
    have e_ := Option.some.inj (show some _ = some _ from hF); subst e_
    exact x_return ⟨_, ⟨_, _, rfl, rfl, rfl⟩, rfl, hS⟩
  · replace hF := it_f hc6 hF
    replace hF := ck_s hF; obtain ⟨hk3_2, hF⟩ := hF
    replace hF := lv_s hF; obtain ⟨x9, hx9, hF⟩ := hF
    refine x_skip <| x_seq <| x_region <| p (yl_move rfl) <|
      p (yl_move rfl) <| p (yrem rfl rfl hk3_2 hx9) <| p (yl_assign rfl) <| x_done <|
      x_seq <| x_seq <| x_region <| p (yl_move rfl) <|
      p (yl_lss rfl rfl) <| x_done <|
      ?_
    replace hF := bd_s hF; obtain ⟨oc11, hFc11, hF⟩ := hF
    refine x_join (fun E w => ∃ (x0_c11 : Int), x0_c11 = oc11 ∧ E 0 = .int .i64 x0_c11 ∧ St w0 w (ro ρ :: l)) ?_ ?_
    · skip -- c11
      refine x_cond_p (x9 < 0) rfl (fun hc11 => ?_) (fun hc11 => ?_)
      · replace hFc11 := it_t hc11 hFc11
        replace hFc11 := ar_s hFc11; obtain ⟨x14, hx14, hFc11⟩ := hFc11
        refine x_region <| p (yl_move rfl) <| p (yl_move rfl) <| p (yadd rfl rfl hx14) <|
          p (yl_assign rfl) <| x_done <|
          ?_
        exact x_inv ⟨x14, (Option.some.inj (show some _ = some _ from hFc11)), rfl, hS⟩
      · replace hFc11 := it_f hc11 hFc11
        refine x_skip <|
          ?_
        exact x_inv ⟨x9, (Option.some.inj (show some _ = some _ from hFc11)), rfl, hS⟩
    rintro E w ⟨x0_c11, rfl, ec11_0, hS⟩
    refine x_seq <| x_region <| p (yl_move ec11_0) <| p (yl_assign rfl) <|
      x_done <|
      ?_
    have e_ := Option.some.inj (show some _ = some _ from hF); subst e_
    exact x_return ⟨_, ⟨_, _, rfl, rfl, rfl⟩, rfl, hS⟩
attribute [irreducible] P_maskmake_Below

def P_maskmake_Stream_Next (s0 : T_maskmake_Stream) (n1 : Int) : Option (Int × Int) :=
  ar (s0.fat + 1) fun x11 =>
  if (s0.L.length : Int) = 0 then
    ar (x11 * 7919) fun x24 =>
    bd (P_maskmake_Below x24 n1) fun r3_6 =>
    some (r3_6, x11)
  else
    ar (x11 - 1) fun x31 =>
    ck ((s0.L.length : Int) ≠ 0) <|
    lv (Int.tmod x31 (s0.L.length : Int)) fun x37 =>
    ar (x11 - 1) fun x42 =>
    ck ((s0.L.length : Int) ≠ 0) <|
    ar (Int.tdiv x42 (s0.L.length : Int)) fun x48 =>
    ck (inb x37 s0.L.length) <|
    lv (gt s0.L x37) fun x55 =>
    bd (P_maskmake_Below x55 1073741824) fun r6_7 =>
    ar ((7919 : Int) + x37) fun x59 =>
    ar (x48 * x59) fun x60 =>
    ar (r6_7 + x60) fun x61 =>
    bd (P_maskmake_Below x61 n1) fun r6_14 =>
    some (r6_14, x11)
set_option maxHeartbeats 4000000 in
set_option maxRecDepth 100000 in
theorem c_maskmake_Stream_Next {w0 w : World} {l : List Assn} {ρ : Heap} {b_s0 : Nat} {A_s0_0 : Option Addr} {n_s0_0 : Nat} {c_s0_0 : Nat} {s0 : T_maskmake_Stream} {n1 : Int} {r : (Int × Int)} (hF : P_maskmake_Stream_Next s0 n1 = some r) (h_s0_0 : RdS (RpI .i64) ρ A_s0_0 n_s0_0 c_s0_0 s0.L) (hS : St w0 w (cells b_s0 25 [.slice A_s0_0 n_s0_0 c_s0_0, .int .i64 s0.fat] :: ro ρ :: l)) :
    Calls Tryd.prog 14 #[.pointer (some ⟨b_s0, 0, none⟩), .int .i64 n1] w fun e w' => e = .returned (.int .i64 r.1) ∧ St w0 w' (cells b_s0 25 [.slice A_s0_0 n_s0_0 c_s0_0, .int .i64 r.2] :: ro ρ :: l) := by
  have e_ := h_s0_0.n; subst e_
  refine enterC Tryd.func14 rfl 64 rfl (by simp) ?_
  replace hF := ar_s hF; obtain ⟨x11, hx11, hF⟩ := hF
  refine x_seq <| x_region <| p (yl_assign rfl) <| x_done <|
    x_seq <| x_region <| p (yl_move rfl) <| p (yl_nilCheck rfl) <|
    p (yl_field0 fld_25_1 rfl) <| pa (at_load one_3 rfl (hS.cell rfl)) <| p (yadd rfl rfl hx11) <| p (yl_nilCheck rfl) <|
    p (yl_field0 fld_25_1 rfl) <|
    ?_
  refine o_store1 (v := .int .i64 x11) one_3 rfl rfl rfl rfl hS (fun w' hS => ?_)
  refine x_done <| x_seq <| x_seq <| x_region <|
    p (yl_move rfl) <| p (yl_nilCheck rfl) <| p (yl_field0 fld_25_0 rfl) <| pa (at_load one_22 rfl (hS.cell rfl)) <|
    p (yl_len_slice usl_22 rfl) <| p (yl_eql rfl rfl) <| x_done <|
    x_cond_p ((s0.L.length : Int) = 0) rfl (fun hc19 => ?_) (fun hc19 => ?_)
  · replace hF := it_t hc19 hF
    replace hF := ar_s hF; obtain ⟨x24, hx24, hF⟩ := hF
    replace hF := bd_s hF; obtain ⟨r3_6, hc3_6, hF⟩ := hF
    refine x_seq <| x_region <| p (yl_move rfl) <| p (yl_nilCheck rfl) <|
      p (yl_field0 fld_25_1 rfl) <| pa (at_load one_3 rfl (hS.cell rfl)) <| p (ymul rfl rfl hx24) <| p (yl_move rfl) <|
      ?_
    have hcall := c_maskmake_Below hc3_6  (hS.pull 1)
    refine o_cc call_21 (args2 rfl rfl) ((Calls.mono hcall (fun e w'' h => And.intro h.1 (h.2.pull 1)))) ?_
    rintro e w' ⟨rfl, hS⟩
    refine ⟨_, rfl, ?_⟩
    refine p (v := .int .i64 r3_6) (yl_assign rfl) <| x_done <|
      ?_
    have e_ := Option.some.inj (show some _ = some _ from hF); subst e_
    exact x_return ⟨_, ⟨_, _, rfl, rfl, rfl⟩, rfl, ((hS.pull 1).pull 1)⟩
  · replace hF := it_f hc19 hF
    replace hF := ar_s hF; obtain ⟨x31, hx31, hF⟩ := hF
    replace hF := ck_s hF; obtain ⟨hk4_10, hF⟩ := hF
    replace hF := lv_s hF; obtain ⟨x37, hx37, hF⟩ := hF
    refine x_skip <| x_seq <| x_still mixed (by kernel_rfl) hS <| q (yl_move rfl) <|
      q (yl_nilCheck rfl) <| q (yl_field0 fld_25_1 rfl) <| qa (fun w' hS => at_load one_3 rfl (hS.cell rfl)) <| q (ysub rfl rfl hx31) <|
      q (yl_move rfl) <| q (yl_nilCheck rfl) <| q (yl_field0 fld_25_0 rfl) <| qa (fun w' hS => at_load one_22 rfl (hS.cell rfl)) <|
      q (yl_len_slice usl_22 rfl) <| q (yrem rfl rfl hk4_10 hx37) <| q (yl_assign rfl) <|
      q_done fun w' hS => ?_
    replace hF := ar_s hF; obtain ⟨x42, hx42, hF⟩ := hF
    replace hF := ck_s hF; obtain ⟨hk5_10, hF⟩ := hF
    replace hF := ar_s hF; obtain ⟨x48, hx48, hF⟩ := hF
    refine x_seq <| x_still mixed (by kernel_rfl) hS <| q (yl_move rfl) <| q (yl_nilCheck rfl) <|
      q (yl_field0 fld_25_1 rfl) <| qa (fun w' hS => at_load one_3 rfl (hS.cell rfl)) <| q (ysub rfl rfl hx42) <| q (yl_move rfl) <|
      q (yl_nilCheck rfl) <| q (yl_field0 fld_25_0 rfl) <| qa (fun w' hS => at_load one_22 rfl (hS.cell rfl)) <| q (yl_len_slice usl_22 rfl) <|
      q (yquo rfl rfl hk5_10 hx48) <| q (yl_assign rfl) <|
      q_done fun w' hS => ?_
    replace hF := ck_s hF; obtain ⟨hk6_5, hF⟩ := hF
    replace hF := lv_s hF; obtain ⟨x55, hx55, hF⟩ := hF
    replace hF := bd_s hF; obtain ⟨r6_7, hc6_7, hF⟩ := hF
    refine x_seq <| x_region <| p (yl_move rfl) <| p (yl_nilCheck rfl) <|
      p (yl_field0 fld_25_0 rfl) <| pa (at_load one_22 rfl (hS.cell rfl)) <| p (yl_move rfl) <| p (yix_f sl_22 rfl rfl h_s0_0 hk6_5) <|
      pa (at_load one_3 rfl (RdS.getW h_s0_0 (hS.pull 1) hk6_5 hx55)) <|
      ?_
    have hcall := c_maskmake_Below hc6_7  (hS.pull 1)
    refine o_cc call_21 (args2 rfl rfl) ((Calls.mono hcall (fun e w'' h => And.intro h.1 (h.2.pull 1)))) ?_
    rintro e w' ⟨rfl, hS⟩
    refine ⟨_, rfl, ?_⟩
    replace hF := ar_s hF; obtain ⟨x59, hx59, hF⟩ := hF
    replace hF := ar_s hF; obtain ⟨x60, hx60, hF⟩ := hF
    replace hF := ar_s hF; obtain ⟨x61, hx61, hF⟩ := hF
    replace hF := bd_s hF; obtain ⟨r6_14, hc6_14, hF⟩ := hF
    refine p (yl_move rfl) <| p (yl_move rfl) <| p (yadd rfl rfl hx59) <| p (ymul rfl rfl hx60) <|
      p (yadd rfl rfl hx61) <| p (yl_move rfl) <|
      ?_
    have hcall := c_maskmake_Below hc6_14  (hS.pull 1)
    refine o_cc call_21 (args2 rfl rfl) ((Calls.mono hcall (fun e w'' h => And.intro h.1 (h.2.pull 1)))) ?_
    rintro e w' ⟨rfl, hS⟩
    refine ⟨_, rfl, ?_⟩
    refine p (v := .int .i64 r6_14) (yl_assign rfl) <| x_done <|
      ?_
    have e_ := Option.some.inj (show some _ = some _ from hF); subst e_
    exact x_return ⟨_, ⟨_, _, rfl, rfl, rfl⟩, rfl, ((hS.pull 1).pull 1)⟩
attribute [irreducible] P_maskmake_Stream_Next

def P_maskmake_Stream_Range (s0 : T_maskmake_Stream) (low1 : Int) (high2 : Int) : Option (Int × Int) :=
  if high2 < low1 then
    some (low1, s0.fat)
  else
    ar (high2 - low1) fun x15 =>
    ar (x15 + 1) fun x16 =>
    bd (P_maskmake_Stream_Next s0 x16) fun r3_6 =>
    ar (low1 + r3_6.1) fun x18 =>
    some (x18, r3_6.2)
set_option maxHeartbeats 4000000 in
set_option maxRecDepth 100000 in
theorem c_maskmake_Stream_Range {w0 w : World} {l : List Assn} {ρ : Heap} {b_s0 : Nat} {A_s0_0 : Option Addr} {n_s0_0 : Nat} {c_s0_0 : Nat} {s0 : T_maskmake_Stream} {low1 : Int} {high2 : Int} {r : (Int × Int)} (hF : P_maskmake_Stream_Range s0 low1 high2 = some r) (h_s0_0 : RdS (RpI .i64) ρ A_s0_0 n_s0_0 c_s0_0 s0.L) (hS : St w0 w (cells b_s0 25 [.slice A_s0_0 n_s0_0 c_s0_0, .int .i64 s0.fat] :: ro ρ :: l)) :
    Calls Tryd.prog 20 #[.pointer (some ⟨b_s0, 0, none⟩), .int .i64 low1, .int .i64 high2] w fun e w' => e = .returned (.int .i64 r.1) ∧ St w0 w' (cells b_s0 25 [.slice A_s0_0 n_s0_0 c_s0_0, .int .i64 r.2] :: ro ρ :: l) := by
  have e_ := h_s0_0.n; subst e_
  refine enterC Tryd.func20 rfl 19 rfl (by simp) ?_
  refine x_seq <| x_region <| p (yl_assign rfl) <| x_done <|
    x_seq <| x_seq <| x_region <| p (yl_move rfl) <|
    p (yl_move rfl) <| p (yl_lss rfl rfl) <| x_done <|
    x_cond_p (high2 < low1) rfl (fun hc9 => ?_) (fun hc9 => ?_)
  · replace hF := it_t hc9 hF
    refine x_seq <| x_region <| p (yl_move rfl) <| p (yl_assign rfl) <|
      x_done <|
      ?_
    have e_ := Option.some.inj (show some _ = some _ from hF); subst e_
    exact x_return ⟨_, ⟨_, _, rfl, rfl, rfl⟩, rfl, ((hS.pull 1).pull 1)⟩
  · replace hF := it_f hc9 hF
    replace hF := ar_s hF; obtain ⟨x15, hx15, hF⟩ := hF
    replace hF := ar_s hF; obtain ⟨x16, hx16, hF⟩ := hF
    replace hF := bd_s hF; obtain ⟨r3_6, hc3_6, hF⟩ := hF
    refine x_skip <| x_seq <| x_region <| p (yl_move rfl) <|
      p (yl_move rfl) <| p (yl_move rfl) <| p (yl_move rfl) <| p (ysub rfl rfl hx15) <|
      p (yadd rfl rfl hx16) <|
      ?_
    have hcall := c_maskmake_Stream_Next hc3_6 h_s0_0 ((hS.pull 1).pull 1)
    refine o_cc call_14 (args2 rfl rfl) hcall ?_
    rintro e w' ⟨rfl, hS⟩
    refine ⟨_, rfl, ?_⟩
    replace hF := ar_s hF; obtain ⟨x18, hx18, hF⟩ := hF
    refine p (yadd rfl rfl hx18) <| p (yl_assign rfl) <| x_done <|
      ?_
    have e_ := Option.some.inj (show some _ = some _ from hF); subst e_
    exact x_return ⟨_, ⟨_, _, rfl, rfl, rfl⟩, rfl, ((hS.pull 1).pull 1)⟩
attribute [irreducible] P_maskmake_Stream_Range

def P_maskmake_Stream_LayLib_1_2_L2 (ins1 : Int) (v3_0 : T_maskmake_Stream) : (Int × List Int × List Int × List Int × Int) → Option ((Int × List Int × List Int × List Int × Int) ⊕ (List Int × List Int × List Int × Int)) := fun (y23_L2h, b_c8_L2h_5_L2h, b_c8_L2h_6_L2h, b_c8_L2h_7_L2h, b_v3_0_1_L2h) =>
  if y23_L2h < ins1 then
    bd (P_maskmake_Stream_Next (T_maskmake_Stream.mk v3_0.L b_v3_0_1_L2h) 6) fun r3_1 =>
    bd (P_maskmake_Stream_Range (T_maskmake_Stream.mk v3_0.L r3_1.2) 2 5) fun r4_3 =>
    lv (b_c8_L2h_5_L2h ++ [r4_3.1]) fun z4_5 =>
    ck (apOk 8 z4_5.length) <|
    lv (b_c8_L2h_6_L2h ++ [r3_1.1]) fun z4_10 =>
    ck (apOk 8 z4_10.length) <|
    bd (P_maskmake_Stream_Next (T_maskmake_Stream.mk v3_0.L r4_3.2) 5) fun r4_15 =>
    ar (r3_1.1 + r4_15.1) fun x43 =>
    lv (b_c8_L2h_7_L2h ++ [x43]) fun z4_18 =>
    ck (apOk 8 z4_18.length) <|
    ar (y23_L2h + 1) fun x49 =>
    some (Sum.inl (x49, z4_5, z4_10, z4_18, r4_15.2))
  else
    some (Sum.inr (b_c8_L2h_5_L2h, b_c8_L2h_6_L2h, b_c8_L2h_7_L2h, b_v3_0_1_L2h))
def P_maskmake_Stream_LayLib_1_2 (name0 : ByteArray) (ins1 : Int) (table2 : Int) (v3_0 : T_maskmake_Stream) (v4_0 : List T_api_Cell) : Option (Int × List T_api_Cell) :=
  ar (ins1 + 1) fun x14 =>
  ck ((2 : Int) ≠ 0) <|
  ar (Int.tdiv x14 2) fun x15 =>
  bd (P_maskmake_Stream_Next v3_0 2) fun r0_7 =>
  ar (x15 + r0_7.1) fun x18 =>
  bd (P_maskmake_Stream_Next (T_maskmake_Stream.mk v3_0.L r0_7.2) 3) fun r0_10 =>
  bd (
    lp (P_maskmake_Stream_LayLib_1_2_L2 ins1 v3_0) fuel (0, [], [], [], r0_10.2)) fun (b_c8_L2_5_L2, b_c8_L2_6_L2, b_c8_L2_7_L2, b_v3_0_1_L2) =>
  lv (v4_0 ++ [(T_api_Cell.mk name0 false ins1 table2 x18 b_c8_L2_5_L2 b_c8_L2_6_L2 b_c8_L2_7_L2 r0_10.1 0 0)]) fun z6_3 =>
  ck (apOk 144 z6_3.length) <|
  some (b_v3_0_1_L2, z6_3)
set_option maxHeartbeats 4000000 in
set_option maxRecDepth 100000 in
theorem c_maskmake_Stream_LayLib_1_2 {w0 w : World} {l : List Assn} {ρ : Heap} {b_v3 : Nat} {b_v3_0 : Nat} {A_v3_0_0 : Option Addr} {n_v3_0_0 : Nat} {c_v3_0_0 : Nat} {b_v4 : Nat} {A_v4_0 : Option Addr} {n_v4_0 : Nat} {c_v4_0 : Nat} {cs_v4_0 : List Value} {name0 : ByteArray} {ins1 : Int} {table2 : Int} {v3_0 : T_maskmake_Stream} {v4_0 : List T_api_Cell} {r : (Int × List T_api_Cell)} (hF : P_maskmake_Stream_LayLib_1_2 name0 ins1 table2 v3_0 v4_0 = some r) (h_v3_0_0 : RdS (RpI .i64) ρ A_v3_0_0 n_v3_0_0 c_v3_0_0 v3_0.L) (h_v4_0 : RepL R_api_Cell ρ v4_0 cs_v4_0) (hS : St w0 w (cells b_v3 23 [.pointer (some ⟨b_v3_0, 0, none⟩)] :: cells b_v3_0 25 [.slice A_v3_0_0 n_v3_0_0 c_v3_0_0, .int .i64 v3_0.fat] :: cells b_v4 31 [.slice A_v4_0 n_v4_0 c_v4_0] :: vec 61 R_api_Cell.sz (.slice A_v4_0 n_v4_0 c_v4_0) n_v4_0 cs_v4_0 :: ro ρ :: l)) :
    Calls Tryd.prog 65 #[.string name0, .int .i64 ins1, .int .u64 table2, .pointer (some ⟨b_v3, 0, none⟩), .pointer (some ⟨b_v4, 0, none⟩)] w fun e w' => ∃ (ρ' : Heap) (A_b_v4_0_ret : Option Addr) (n_b_v4_0_ret : Nat) (c_b_v4_0_ret : Nat) (cs_b_v4_0_ret : List Value), e = .returned (.tuple #[]) ∧ Le ρ ρ' ∧ RepL R_api_Cell ρ' r.2 cs_b_v4_0_ret ∧ St w0 w' (cells b_v3_0 25 [.slice A_v3_0_0 n_v3_0_0 c_v3_0_0, .int .i64 r.1] :: cells b_v3 23 [.pointer (some ⟨b_v3_0, 0, none⟩)] :: cells b_v4 31 [.slice A_b_v4_0_ret n_b_v4_0_ret c_b_v4_0_ret] :: vec 61 R_api_Cell.sz (.slice A_b_v4_0_ret n_b_v4_0_ret c_b_v4_0_ret) n_b_v4_0_ret cs_b_v4_0_ret :: ro ρ' :: l) := by
  have e_ := h_v3_0_0.n; subst e_
  have e_ := St.vec_n (hS.pull 3) h_v4_0; subst e_
  refine enterC Tryd.func65 rfl 54 rfl (by simp) ?_
  refine x_seq <|
    ?_
  replace hF := ar_s hF; obtain ⟨x14, hx14, hF⟩ := hF
  replace hF := ck_s hF; obtain ⟨hk0_5, hF⟩ := hF
  replace hF := ar_s hF; obtain ⟨x15, hx15, hF⟩ := hF
  replace hF := bd_s hF; obtain ⟨r0_7, hc0_7, hF⟩ := hF
  replace hF := ar_s hF; obtain ⟨x18, hx18, hF⟩ := hF
  replace hF := bd_s hF; obtain ⟨r0_10, hc0_10, hF⟩ := hF
  refine x_par (w0 := w0) [⟨[], [], [10], [], [], []⟩, ⟨[], [], [11], [], [], []⟩, ⟨[], [], [12], [], [], []⟩, ⟨[], [], [13], [], [], []⟩, ⟨[3], [3], [14], [], [], []⟩, ⟨[3, 4], [4], [15], [], [], []⟩, ⟨[], [], [16], [0], [], []⟩, ⟨[6], [6], [17], [2], [1], [3]⟩, ⟨[3, 4, 5, 6, 7], [5, 7], [18], [], [], []⟩, ⟨[], [], [19], [0], [], []⟩, ⟨[6, 7, 9], [9], [20], [2], [3], [4]⟩, ⟨[0, 1, 2, 3, 4, 5, 6, 7, 8, 9, 10], [0, 1, 2, 8, 10], [21], [], [], []⟩, ⟨[], [], [8], [], [], [5]⟩, ⟨[0, 1, 2, 3, 4, 5, 6, 7, 8, 9, 10, 11, 12], [11, 12], [], [], [5], [6]⟩] [⟨none, none, []⟩, ⟨none, (some 7), []⟩, ⟨none, none, []⟩, ⟨(some 7), (some 10), []⟩, ⟨(some 10), none, []⟩, ⟨(some 12), (some 13), [8]⟩, ⟨(some 13), none, [8]⟩] [8, 10, 11, 12, 13, 14, 15, 16, 17, 18, 19, 20, 21] [0, 1, 2] [0, 2, 4, 6] [0, 1, 2, 3, 4, 5, 6, 7, 8, 9, 10, 11, 12] [fun Ep0 => Ep0 10 = .string name0, fun Ep0 => Ep0 11 = .int .i64 ins1, fun Ep0 => Ep0 12 = .int .u64 table2, fun Ep0 => Ep0 13 = .int .i64 ins1, fun Ep0 => Ep0 14 = .int .i64 x14, fun Ep0 => Ep0 15 = .int .i64 x15, fun Ep0 => Ep0 16 = .pointer (some ⟨b_v3_0, 0, none⟩), fun Ep0 => Ep0 17 = .int .i64 r0_7.1, fun Ep0 => Ep0 18 = .int .i64 x18, fun Ep0 => Ep0 19 = .pointer (some ⟨b_v3_0, 0, none⟩), fun Ep0 => Ep0 20 = .int .i64 r0_10.1, fun Ep0 => Ep0 21 = .agg #[.string name0, .bool false, .int .i64 ins1, .int .u64 table2, .int .i64 x18, .slice none 0 0, .slice none 0 0, .slice none 0 0, .int .i64 r0_10.1, .int .i64 0, .int .i64 0], fun Ep0 => Ep0 8 = .pointer (some ⟨(blkOf (Ep0 8)), 0, none⟩), fun Ep0 => True] [fun Ep0 => cells b_v3 23 [.pointer (some ⟨b_v3_0, 0, none⟩)], fun Ep0 => cells b_v3_0 25 [.slice A_v3_0_0 v3_0.L.length c_v3_0_0, .int .i64 v3_0.fat], fun Ep0 => ro ρ, fun Ep0 => cells b_v3_0 25 [.slice A_v3_0_0 v3_0.L.length c_v3_0_0, .int .i64 r0_7.2], fun Ep0 => cells b_v3_0 25 [.slice A_v3_0_0 v3_0.L.length c_v3_0_0, .int .i64 r0_10.2], fun Ep0 => cells (blkOf (Ep0 8)) 61 [.string (⟨#[]⟩ : ByteArray), .bool false, .int .i64 0, .int .u64 0, .int .i64 0, .slice none 0 0, .slice none 0 0, .slice none 0 0, .int .i64 0, .int .i64 0, .int .i64 0], fun Ep0 => cells (blkOf (Ep0 8)) 61 [.string name0, .bool false, .int .i64 ins1, .int .u64 table2, .int .i64 x18, .slice none 0 0, .slice none 0 0, .slice none 0 0, .int .i64 r0_10.1, .int .i64 0, .int .i64 0]] mixed (by kernel_rfl) (((hS.pull 4).pull 2).pull 2) ?_ ?_
  · refine ⟨?_, ?_, ?_, ?_, ?_, ?_, ?_, ?_, ?_, ?_, ?_, ?_, ?_, ?_, trivial⟩
    · intro Ep0 w l' hE0 hO0 hF_ hS
      refine p (yl_move (hE0 0 rfl)) <| x_done <|
        ?_
      refine x_fin ⟨⟨_, rfl⟩, rfl, ?_⟩
      exact Eq.mp (by kernel_rfl) hS
    · intro Ep0 w l' hE0 hO0 hF_ hS
      refine p (yl_move (hE0 1 rfl)) <| x_done <|
        ?_
      refine x_fin ⟨⟨_, rfl⟩, rfl, ?_⟩
      exact Eq.mp (by kernel_rfl) hS
    · intro Ep0 w l' hE0 hO0 hF_ hS
      refine p (yl_move (hE0 2 rfl)) <| x_done <|
        ?_
      refine x_fin ⟨⟨_, rfl⟩, rfl, ?_⟩
      exact Eq.mp (by kernel_rfl) hS
    · intro Ep0 w l' hE0 hO0 hF_ hS
      refine p (yl_move (hE0 1 rfl)) <| x_done <|
        ?_
      refine x_fin ⟨⟨_, rfl⟩, rfl, ?_⟩
      exact Eq.mp (by kernel_rfl) hS
    · intro Ep0 w l' hE0 hO0 hF_ hS
      obtain ⟨f0_3, -⟩ := hF_
      replace f0_3 : Ep0 13 = .int .i64 ins1 := Eq.mp (by kernel_rfl) f0_3
      refine p (yadd f0_3 rfl hx14) <| x_done <|
        ?_
      refine x_fin ⟨⟨_, rfl⟩, rfl, ?_⟩
      exact Eq.mp (by kernel_rfl) hS
    · intro Ep0 w l' hE0 hO0 hF_ hS
      obtain ⟨f0_4, -⟩ := hF_
      replace f0_4 : Ep0 14 = .int .i64 x14 := Eq.mp (by kernel_rfl) f0_4
      refine p (yquo f0_4 rfl hk0_5 hx15) <| x_done <|
        ?_
      refine x_fin ⟨⟨_, rfl⟩, rfl, ?_⟩
      exact Eq.mp (by kernel_rfl) hS
    · intro Ep0 w l' hE0 hO0 hF_ hS
      replace hS : St w0 w (cells b_v3 23 [.pointer (some ⟨b_v3_0, 0, none⟩)] :: l') := Eq.mp (by kernel_rfl) hS
      refine pa (at_load one_23 (hE0 3 rfl) (hS.cell rfl)) <| x_done <|
        ?_
      refine x_fin ⟨⟨_, rfl⟩, rfl, ?_⟩
      exact Eq.mp (by kernel_rfl) hS
    · intro Ep0 w l' hE0 hO0 hF_ hS
      obtain ⟨f0_6, -⟩ := hF_
      replace f0_6 : Ep0 16 = .pointer (some ⟨b_v3_0, 0, none⟩) := Eq.mp (by kernel_rfl) f0_6
      replace hS : St w0 w (ro ρ :: cells b_v3_0 25 [.slice A_v3_0_0 v3_0.L.length c_v3_0_0, .int .i64 v3_0.fat] :: l') := Eq.mp (by kernel_rfl) hS
      have hcall := c_maskmake_Stream_Next hc0_7 h_v3_0_0 (hS.pull 1)
      refine o_cc call_14 (args2 f0_6 rfl) hcall ?_
      rintro e w' ⟨rfl, hS⟩
      refine ⟨_, rfl, ?_⟩
      refine x_done <|
        ?_
      refine x_fin ⟨⟨_, rfl⟩, rfl, ?_⟩
      exact Eq.mp (by kernel_rfl) (hS.pull 1)
    · intro Ep0 w l' hE0 hO0 hF_ hS
      obtain ⟨f0_5, f0_7, -⟩ := hF_
      replace f0_5 : Ep0 15 = .int .i64 x15 := Eq.mp (by kernel_rfl) f0_5
      replace f0_7 : Ep0 17 = .int .i64 r0_7.1 := Eq.mp (by kernel_rfl) f0_7
      refine p (yadd f0_5 f0_7 hx18) <| x_done <|
        ?_
      refine x_fin ⟨⟨_, rfl⟩, rfl, ?_⟩
      exact Eq.mp (by kernel_rfl) hS
    · intro Ep0 w l' hE0 hO0 hF_ hS
      replace hS : St w0 w (cells b_v3 23 [.pointer (some ⟨b_v3_0, 0, none⟩)] :: l') := Eq.mp (by kernel_rfl) hS
      refine pa (at_load one_23 (hE0 3 rfl) (hS.cell rfl)) <| x_done <|
        ?_
      refine x_fin ⟨⟨_, rfl⟩, rfl, ?_⟩
      exact Eq.mp (by kernel_rfl) hS
    · intro Ep0 w l' hE0 hO0 hF_ hS
      obtain ⟨f0_9, -⟩ := hF_
      replace f0_9 : Ep0 19 = .pointer (some ⟨b_v3_0, 0, none⟩) := Eq.mp (by kernel_rfl) f0_9
      replace hS : St w0 w (ro ρ :: cells b_v3_0 25 [.slice A_v3_0_0 v3_0.L.length c_v3_0_0, .int .i64 r0_7.2] :: l') := Eq.mp (by kernel_rfl) hS
      have hcall := c_maskmake_Stream_Next hc0_10 h_v3_0_0 (hS.pull 1)
      refine o_cc call_14 (args2 f0_9 rfl) hcall ?_
      rintro e w' ⟨rfl, hS⟩
      refine ⟨_, rfl, ?_⟩
      refine x_done <|
        ?_
      refine x_fin ⟨⟨_, rfl⟩, rfl, ?_⟩
      exact Eq.mp (by kernel_rfl) (hS.pull 1)
    · intro Ep0 w l' hE0 hO0 hF_ hS
      obtain ⟨f0_0, f0_1, f0_2, f0_8, f0_10, -⟩ := hF_
      replace f0_0 : Ep0 10 = .string name0 := Eq.mp (by kernel_rfl) f0_0
      replace f0_1 : Ep0 11 = .int .i64 ins1 := Eq.mp (by kernel_rfl) f0_1
      replace f0_2 : Ep0 12 = .int .u64 table2 := Eq.mp (by kernel_rfl) f0_2
      replace f0_8 : Ep0 18 = .int .i64 x18 := Eq.mp (by kernel_rfl) f0_8
      replace f0_10 : Ep0 20 = .int .i64 r0_10.1 := Eq.mp (by kernel_rfl) f0_10
      refine p (v := .agg #[.string name0, .bool false, .int .i64 ins1, .int .u64 table2, .int .i64 x18, .slice none 0 0, .slice none 0 0, .slice none 0 0, .int .i64 r0_10.1, .int .i64 0, .int .i64 0]) (yl_build bld_61 bldf_61 (parts_eq (pt (va := .string name0) f0_0 (pt (va := .int .i64 ins1) f0_1 (pt (va := .int .u64 table2) f0_2 (pt (va := .int .i64 x18) f0_8 (pt (va := .int .i64 r0_10.1) f0_10 pt0)))))) (by kernel_rfl)) <| x_done <|
        ?_
      refine x_fin ⟨⟨_, rfl⟩, rfl, ?_⟩
      exact Eq.mp (by kernel_rfl) hS
    · intro Ep0 w l' hE0 hO0 hF_ hS
      refine o_alloc zero_61 hS (fun b8 w' hS => ?_)
      refine x_done <|
        ?_
      refine x_fin ⟨⟨_, rfl⟩, rfl, ?_⟩
      exact Eq.mp (by kernel_rfl) hS
    · intro Ep0 w l' hE0 hO0 hF_ hS
      obtain ⟨f0_11, f0_12, -⟩ := hF_
      replace f0_11 : Ep0 21 = .agg #[.string name0, .bool false, .int .i64 ins1, .int .u64 table2, .int .i64 x18, .slice none 0 0, .slice none 0 0, .slice none 0 0, .int .i64 r0_10.1, .int .i64 0, .int .i64 0] := Eq.mp (by kernel_rfl) f0_11
      replace f0_12 : Ep0 8 = .pointer (some ⟨(blkOf (Ep0 8)), 0, none⟩) := Eq.mp (by kernel_rfl) f0_12
      replace hS : St w0 w (cells (blkOf (Ep0 8)) 61 [.string (⟨#[]⟩ : ByteArray), .bool false, .int .i64 0, .int .u64 0, .int .i64 0, .slice none 0 0, .slice none 0 0, .slice none 0 0, .int .i64 0, .int .i64 0, .int .i64 0] :: l') := Eq.mp (by kernel_rfl) hS
      refine o_storeAgg (news := [.string name0, .bool false, .int .i64 ins1, .int .u64 table2, .int .i64 x18, .slice none 0 0, .slice none 0 0, .slice none 0 0, .int .i64 r0_10.1, .int .i64 0, .int .i64 0]) agg_61 f0_12 f0_11 rfl (by simp [over_length]) hS (fun w' hS => ?_)
      refine x_done <|
        ?_
      refine x_fin ⟨⟨undef, rfl⟩, trivial, ?_⟩
      exact Eq.mp (by kernel_rfl) hS
  intro Ep0 w' hE0 hF_ hS
  obtain ⟨f0_0, f0_1, f0_2, f0_3, f0_4, f0_5, f0_6, f0_7, f0_8, f0_9, f0_10, f0_11, f0_12, -⟩ := hF_
  replace f0_0 : Ep0 10 = .string name0 := Eq.mp (by kernel_rfl) f0_0
  replace f0_1 : Ep0 11 = .int .i64 ins1 := Eq.mp (by kernel_rfl) f0_1
  replace f0_2 : Ep0 12 = .int .u64 table2 := Eq.mp (by kernel_rfl) f0_2
  replace f0_3 : Ep0 13 = .int .i64 ins1 := Eq.mp (by kernel_rfl) f0_3
  replace f0_4 : Ep0 14 = .int .i64 x14 := Eq.mp (by kernel_rfl) f0_4
  replace f0_5 : Ep0 15 = .int .i64 x15 := Eq.mp (by kernel_rfl) f0_5
  replace f0_6 : Ep0 16 = .pointer (some ⟨b_v3_0, 0, none⟩) := Eq.mp (by kernel_rfl) f0_6
  replace f0_7 : Ep0 17 = .int .i64 r0_7.1 := Eq.mp (by kernel_rfl) f0_7
  replace f0_8 : Ep0 18 = .int .i64 x18 := Eq.mp (by kernel_rfl) f0_8
  replace f0_9 : Ep0 19 = .pointer (some ⟨b_v3_0, 0, none⟩) := Eq.mp (by kernel_rfl) f0_9
  replace f0_10 : Ep0 20 = .int .i64 r0_10.1 := Eq.mp (by kernel_rfl) f0_10
  replace f0_11 : Ep0 21 = .agg #[.string name0, .bool false, .int .i64 ins1, .int .u64 table2, .int .i64 x18, .slice none 0 0, .slice none 0 0, .slice none 0 0, .int .i64 r0_10.1, .int .i64 0, .int .i64 0] := Eq.mp (by kernel_rfl) f0_11
  replace f0_12 : Ep0 8 = .pointer (some ⟨(blkOf (Ep0 8)), 0, none⟩) := Eq.mp (by kernel_rfl) f0_12
  replace hS : St w0 w' (cells b_v3 23 [.pointer (some ⟨b_v3_0, 0, none⟩)] :: ro ρ :: cells b_v3_0 25 [.slice A_v3_0_0 v3_0.L.length c_v3_0_0, .int .i64 r0_10.2] :: cells (blkOf (Ep0 8)) 61 [.string name0, .bool false, .int .i64 ins1, .int .u64 table2, .int .i64 x18, .slice none 0 0, .slice none 0 0, .slice none 0 0, .int .i64 r0_10.1, .int .i64 0, .int .i64 0] :: (cells b_v4 31 [.slice A_v4_0 v4_0.length c_v4_0] :: vec 61 R_api_Cell.sz (.slice A_v4_0 v4_0.length c_v4_0) v4_0.length cs_v4_0 :: l)) := Eq.mp (by kernel_rfl) hS
  refine x_seq <| x_seq <| x_region <| p (yl_move (hE0 1 rfl)) <|
    p (yl_move rfl) <| x_done <|
    ?_
  replace hF := bd_s hF; obtain ⟨oL2, hLL2, hF⟩ := hF
  refine x_join (fun E w => ∃ (b_c8_L2 : Nat) (A_b_c8_L2_5_L2 : Option Addr) (n_b_c8_L2_5_L2 : Nat) (c_b_c8_L2_5_L2 : Nat) (cs_b_c8_L2_5_L2 : List Value) (A_b_c8_L2_6_L2 : Option Addr) (n_b_c8_L2_6_L2 : Nat) (c_b_c8_L2_6_L2 : Nat) (cs_b_c8_L2_6_L2 : List Value) (A_b_c8_L2_7_L2 : Option Addr) (n_b_c8_L2_7_L2 : Nat) (c_b_c8_L2_7_L2 : Nat) (cs_b_c8_L2_7_L2 : List Value) (b_c8_L2_5_L2 : List Int) (b_c8_L2_6_L2 : List Int) (b_c8_L2_7_L2 : List Int) (b_v3_0_1_L2 : Int), (b_c8_L2_5_L2, b_c8_L2_6_L2, b_c8_L2_7_L2, b_v3_0_1_L2) = oL2 ∧ E 4 = .pointer (some ⟨b_v4, 0, none⟩) ∧ E 8 = .pointer (some ⟨b_c8_L2, 0, none⟩) ∧ RepL (RpI .i64) ρ b_c8_L2_5_L2 cs_b_c8_L2_5_L2 ∧ RepL (RpI .i64) ρ b_c8_L2_6_L2 cs_b_c8_L2_6_L2 ∧ RepL (RpI .i64) ρ b_c8_L2_7_L2 cs_b_c8_L2_7_L2 ∧ St w0 w (cells b_v4 31 [.slice A_v4_0 v4_0.length c_v4_0] :: cells b_c8_L2 61 [.string name0, .bool false, .int .i64 ins1, .int .u64 table2, .int .i64 x18, .slice A_b_c8_L2_5_L2 n_b_c8_L2_5_L2 c_b_c8_L2_5_L2, .slice A_b_c8_L2_6_L2 n_b_c8_L2_6_L2 c_b_c8_L2_6_L2, .slice A_b_c8_L2_7_L2 n_b_c8_L2_7_L2 c_b_c8_L2_7_L2, .int .i64 r0_10.1, .int .i64 0, .int .i64 0] :: cells b_v3_0 25 [.slice A_v3_0_0 v3_0.L.length c_v3_0_0, .int .i64 b_v3_0_1_L2] :: cells b_v3 23 [.pointer (some ⟨b_v3_0, 0, none⟩)] :: vec 61 R_api_Cell.sz (.slice A_v4_0 v4_0.length c_v4_0) v4_0.length cs_v4_0 :: vec 3 (RpI .i64).sz (.slice A_b_c8_L2_5_L2 n_b_c8_L2_5_L2 c_b_c8_L2_5_L2) n_b_c8_L2_5_L2 cs_b_c8_L2_5_L2 :: vec 3 (RpI .i64).sz (.slice A_b_c8_L2_6_L2 n_b_c8_L2_6_L2 c_b_c8_L2_6_L2) n_b_c8_L2_6_L2 cs_b_c8_L2_6_L2 :: vec 3 (RpI .i64).sz (.slice A_b_c8_L2_7_L2 n_b_c8_L2_7_L2 c_b_c8_L2_7_L2) n_b_c8_L2_7_L2 cs_b_c8_L2_7_L2 :: ro ρ :: l)) ?_ ?_
  · skip -- L2
    refine x_block ?_
    replace hS := St.vec_nil hS 3 (RpI .i64).sz
    have hnil_A_b_c8_L2h_5_L2h : RepL (RpI .i64) ρ [] [] := rfl
    replace hS := St.vec_nil hS 3 (RpI .i64).sz
    have hnil_A_b_c8_L2h_6_L2h : RepL (RpI .i64) ρ [] [] := rfl
    replace hS := St.vec_nil hS 3 (RpI .i64).sz
    have hnil_A_b_c8_L2h_7_L2h : RepL (RpI .i64) ρ [] [] := rfl
    refine x_loop (fun k_ E w => ∃ (b_c8_L2h : Nat) (A_b_c8_L2h_5_L2h : Option Addr) (n_b_c8_L2h_5_L2h : Nat) (c_b_c8_L2h_5_L2h : Nat) (cs_b_c8_L2h_5_L2h : List Value) (A_b_c8_L2h_6_L2h : Option Addr) (n_b_c8_L2h_6_L2h : Nat) (c_b_c8_L2h_6_L2h : Nat) (cs_b_c8_L2h_6_L2h : List Value) (A_b_c8_L2h_7_L2h : Option Addr) (n_b_c8_L2h_7_L2h : Nat) (c_b_c8_L2h_7_L2h : Nat) (cs_b_c8_L2h_7_L2h : List Value) (y23_L2h : Int) (b_c8_L2h_5_L2h : List Int) (b_c8_L2h_6_L2h : List Int) (b_c8_L2h_7_L2h : List Int) (b_v3_0_1_L2h : Int), lp (P_maskmake_Stream_LayLib_1_2_L2 ins1 v3_0) k_ (y23_L2h, b_c8_L2h_5_L2h, b_c8_L2h_6_L2h, b_c8_L2h_7_L2h, b_v3_0_1_L2h) = some oL2 ∧ E 3 = .pointer (some ⟨b_v3, 0, none⟩) ∧ E 4 = .pointer (some ⟨b_v4, 0, none⟩) ∧ E 8 = .pointer (some ⟨b_c8_L2h, 0, none⟩) ∧ E 22 = .int .i64 ins1 ∧ E 23 = .int .i64 y23_L2h ∧ RepL (RpI .i64) ρ b_c8_L2h_5_L2h cs_b_c8_L2h_5_L2h ∧ RepL (RpI .i64) ρ b_c8_L2h_6_L2h cs_b_c8_L2h_6_L2h ∧ RepL (RpI .i64) ρ b_c8_L2h_7_L2h cs_b_c8_L2h_7_L2h ∧ St w0 w (cells b_v3 23 [.pointer (some ⟨b_v3_0, 0, none⟩)] :: cells b_v4 31 [.slice A_v4_0 v4_0.length c_v4_0] :: cells b_c8_L2h 61 [.string name0, .bool false, .int .i64 ins1, .int .u64 table2, .int .i64 x18, .slice A_b_c8_L2h_5_L2h n_b_c8_L2h_5_L2h c_b_c8_L2h_5_L2h, .slice A_b_c8_L2h_6_L2h n_b_c8_L2h_6_L2h c_b_c8_L2h_6_L2h, .slice A_b_c8_L2h_7_L2h n_b_c8_L2h_7_L2h c_b_c8_L2h_7_L2h, .int .i64 r0_10.1, .int .i64 0, .int .i64 0] :: cells b_v3_0 25 [.slice A_v3_0_0 v3_0.L.length c_v3_0_0, .int .i64 b_v3_0_1_L2h] :: vec 61 R_api_Cell.sz (.slice A_v4_0 v4_0.length c_v4_0) v4_0.length cs_v4_0 :: vec 3 (RpI .i64).sz (.slice A_b_c8_L2h_5_L2h n_b_c8_L2h_5_L2h c_b_c8_L2h_5_L2h) n_b_c8_L2h_5_L2h cs_b_c8_L2h_5_L2h :: vec 3 (RpI .i64).sz (.slice A_b_c8_L2h_6_L2h n_b_c8_L2h_6_L2h c_b_c8_L2h_6_L2h) n_b_c8_L2h_6_L2h cs_b_c8_L2h_6_L2h :: vec 3 (RpI .i64).sz (.slice A_b_c8_L2h_7_L2h n_b_c8_L2h_7_L2h c_b_c8_L2h_7_L2h) n_b_c8_L2h_7_L2h cs_b_c8_L2h_7_L2h :: ro ρ :: l)) fuel ⟨(blkOf (Ep0 8)), none, 0, 0, [], none, 0, 0, [], none, 0, 0, [], 0, [], [], [], r0_10.2, hLL2, (hE0 3 rfl), (hE0 4 rfl), f0_12, rfl, rfl, hnil_A_b_c8_L2h_5_L2h, hnil_A_b_c8_L2h_6_L2h, hnil_A_b_c8_L2h_7_L2h, (((((((((hS.pull 4).pull 1).pull 2).pull 3).pull 8).pull 6).pull 7).pull 8).pull 8)⟩ ?_
    rintro kL2 E w ⟨b_c8_L2h, A_b_c8_L2h_5_L2h, n_b_c8_L2h_5_L2h, c_b_c8_L2h_5_L2h, cs_b_c8_L2h_5_L2h, A_b_c8_L2h_6_L2h, n_b_c8_L2h_6_L2h, c_b_c8_L2h_6_L2h, cs_b_c8_L2h_6_L2h, A_b_c8_L2h_7_L2h, n_b_c8_L2h_7_L2h, c_b_c8_L2h_7_L2h, cs_b_c8_L2h_7_L2h, y23_L2h, b_c8_L2h_5_L2h, b_c8_L2h_6_L2h, b_c8_L2h_7_L2h, b_v3_0_1_L2h, hLL2, eL2h_3, eL2h_4, eL2h_8, eL2h_22, eL2h_23, h_b_c8_L2h_5_L2h, h_b_c8_L2h_6_L2h, h_b_c8_L2h_7_L2h, hS⟩
    have e_ := St.vec_n (hS.pull 5) h_b_c8_L2h_5_L2h; subst e_
    have e_ := St.vec_n (hS.pull 6) h_b_c8_L2h_6_L2h; subst e_
    have e_ := St.vec_n (hS.pull 7) h_b_c8_L2h_7_L2h; subst e_
    replace hLL2 := lp_s hLL2; obtain ⟨kL2, obL2, rfl, hFL2, hLL2⟩ := hLL2
    refine x_seq <| x_region <| p (yl_lss eL2h_23 eL2h_22) <| x_done <|
      x_seq <|
      x_cond_p (y23_L2h < ins1) rfl (fun hc24 => ?_) (fun hc24 => ?_)
    · replace hFL2 := it_t hc24 hFL2
      replace hFL2 := bd_s hFL2; obtain ⟨r3_1, hc3_1, hFL2⟩ := hFL2
      refine x_skip <| x_seq <| x_block <| x_seq <|
        x_region <| pa (at_load one_23 eL2h_3 (hS.cell rfl)) <|
        ?_
      have hcall := c_maskmake_Stream_Next hc3_1 h_v3_0_0 ((hS.pull 8).pull 4)
      refine o_cc call_14 (args2 rfl rfl) hcall ?_
      rintro e w' ⟨rfl, hS⟩
      refine ⟨_, rfl, ?_⟩
      refine p (yl_assign rfl) <| x_done <|
        ?_
      replace hFL2 := bd_s hFL2; obtain ⟨r4_3, hc4_3, hFL2⟩ := hFL2
      replace hFL2 := lv_s hFL2; obtain ⟨z4_5, hz4_5, hFL2⟩ := hFL2
      replace hFL2 := ck_s hFL2; obtain ⟨hk4_5, hFL2⟩ := hFL2
      replace hFL2 := lv_s hFL2; obtain ⟨z4_10, hz4_10, hFL2⟩ := hFL2
      replace hFL2 := ck_s hFL2; obtain ⟨hk4_10, hFL2⟩ := hFL2
      replace hFL2 := bd_s hFL2; obtain ⟨r4_15, hc4_15, hFL2⟩ := hFL2
      replace hFL2 := ar_s hFL2; obtain ⟨x43, hx43, hFL2⟩ := hFL2
      replace hFL2 := lv_s hFL2; obtain ⟨z4_18, hz4_18, hFL2⟩ := hFL2
      replace hFL2 := ck_s hFL2; obtain ⟨hk4_18, hFL2⟩ := hFL2
      refine x_par (w0 := w0) [⟨[], [], [27], [], [], []⟩, ⟨[0], [0], [28], [0], [], []⟩, ⟨[], [], [29], [1], [], []⟩, ⟨[2], [2], [30], [3], [2], [4]⟩, ⟨[2, 3], [3], [31], [], [], [5]⟩, ⟨[0, 1, 2, 3, 4], [1, 4], [32], [5, 3], [6], [7]⟩, ⟨[], [], [33], [], [], []⟩, ⟨[6], [6], [34], [0], [], []⟩, ⟨[], [], [35], [], [], []⟩, ⟨[8], [8], [36], [], [], [8]⟩, ⟨[0, 1, 2, 3, 4, 5, 6, 7, 8, 9], [7, 9], [37], [8, 3], [9], [10]⟩, ⟨[], [], [38], [], [], []⟩, ⟨[11], [11], [39], [0], [], []⟩, ⟨[], [], [40], [], [], []⟩, ⟨[], [], [41], [1], [], []⟩, ⟨[0, 1, 2, 3, 4, 5, 6, 7, 8, 9, 10, 14], [14], [42], [3], [4], [11]⟩, ⟨[0, 1, 2, 3, 4, 5, 6, 7, 8, 9, 10, 13, 14, 15], [13, 15], [43], [], [], []⟩, ⟨[0, 1, 2, 3, 4, 5, 6, 7, 8, 9, 10, 13, 14, 15, 16], [16], [44], [], [], [12]⟩, ⟨[0, 1, 2, 3, 4, 5, 6, 7, 8, 9, 10, 11, 12, 13, 14, 15, 16, 17], [12, 17], [45], [12, 3], [13], [14]⟩, ⟨[0, 1, 2, 3, 4, 5, 6, 7, 11, 12], [], [46], [], [], []⟩, ⟨[0, 1, 2, 3, 4, 5, 6, 7, 8, 9, 10, 11, 12, 13, 14, 15, 16, 17, 18, 19], [5, 19], [], [], [0], [15]⟩, ⟨[0, 1, 2, 3, 4, 5, 6, 7, 8, 9, 10, 11, 12, 13, 14, 15, 16, 17, 18, 19, 20], [], [47], [], [], []⟩, ⟨[0, 1, 2, 3, 4, 5, 6, 7, 8, 9, 10, 11, 12, 13, 14, 15, 16, 17, 18, 19, 20, 21], [5, 10, 21], [], [], [15], [16]⟩, ⟨[0, 1, 2, 3, 4, 5, 6, 7, 8, 9, 10, 11, 12, 13, 14, 15, 16, 17, 18, 19, 20, 21, 22], [], [48], [], [], []⟩, ⟨[0, 1, 2, 3, 4, 5, 6, 7, 8, 9, 10, 11, 12, 13, 14, 15, 16, 17, 18, 19, 20, 21, 22, 23], [5, 10, 18, 23], [], [], [16], [17]⟩] [⟨none, (some 20), []⟩, ⟨none, none, []⟩, ⟨none, (some 3), []⟩, ⟨none, none, []⟩, ⟨(some 3), (some 15), []⟩, ⟨(some 4), none, [31]⟩, ⟨none, (some 5), []⟩, ⟨(some 5), none, [32]⟩, ⟨(some 9), none, [36]⟩, ⟨none, (some 10), []⟩, ⟨(some 10), none, [37]⟩, ⟨(some 15), none, []⟩, ⟨(some 17), none, [44]⟩, ⟨none, (some 18), []⟩, ⟨(some 18), none, [45]⟩, ⟨(some 20), (some 22), [32]⟩, ⟨(some 22), (some 24), [32, 37]⟩, ⟨(some 24), none, [32, 37, 45]⟩] [27, 28, 29, 30, 31, 32, 33, 34, 35, 36, 37, 38, 39, 40, 41, 42, 43, 44, 45, 46, 47, 48] [0, 1, 2, 3, 6, 9, 13] [1, 3, 5, 7, 8, 10, 11, 12, 14, 17] [0, 1, 2, 3, 4, 5, 6, 7, 8, 9, 10, 11, 12, 13, 14, 15, 16, 17, 18, 19, 21, 23] [fun Ep4 => Ep4 27 = .pointer (some ⟨b_c8_L2h, 5, none⟩), fun Ep4 => Ep4 28 = .slice A_b_c8_L2h_5_L2h b_c8_L2h_5_L2h.length c_b_c8_L2h_5_L2h, fun Ep4 => Ep4 29 = .pointer (some ⟨b_v3_0, 0, none⟩), fun Ep4 => Ep4 30 = .int .i64 r4_3.1, fun Ep4 => Ep4 31 = .slice (some ⟨(blkOf (Ep4 31)), 0, none⟩) 1 1, fun Ep4 => Ep4 32 = .slice (adOf (Ep4 32)) z4_5.length (capOf (Ep4 32)), fun Ep4 => Ep4 33 = .pointer (some ⟨b_c8_L2h, 6, none⟩), fun Ep4 => Ep4 34 = .slice A_b_c8_L2h_6_L2h b_c8_L2h_6_L2h.length c_b_c8_L2h_6_L2h, fun Ep4 => Ep4 35 = .int .i64 r3_1.1, fun Ep4 => Ep4 36 = .slice (some ⟨(blkOf (Ep4 36)), 0, none⟩) 1 1, fun Ep4 => Ep4 37 = .slice (adOf (Ep4 37)) z4_10.length (capOf (Ep4 37)), fun Ep4 => Ep4 38 = .pointer (some ⟨b_c8_L2h, 7, none⟩), fun Ep4 => Ep4 39 = .slice A_b_c8_L2h_7_L2h b_c8_L2h_7_L2h.length c_b_c8_L2h_7_L2h, fun Ep4 => Ep4 40 = .int .i64 r3_1.1, fun Ep4 => Ep4 41 = .pointer (some ⟨b_v3_0, 0, none⟩), fun Ep4 => Ep4 42 = .int .i64 r4_15.1, fun Ep4 => Ep4 43 = .int .i64 x43, fun Ep4 => Ep4 44 = .slice (some ⟨(blkOf (Ep4 44)), 0, none⟩) 1 1, fun Ep4 => Ep4 45 = .slice (adOf (Ep4 45)) z4_18.length (capOf (Ep4 45)), fun Ep4 => Ep4 46 = .pointer (some ⟨b_c8_L2h, 5, none⟩), fun Ep4 => True, fun Ep4 => Ep4 47 = .pointer (some ⟨b_c8_L2h, 6, none⟩), fun Ep4 => True, fun Ep4 => Ep4 48 = .pointer (some ⟨b_c8_L2h, 7, none⟩), fun Ep4 => True] [fun Ep4 => cells b_c8_L2h 61 [.string name0, .bool false, .int .i64 ins1, .int .u64 table2, .int .i64 x18, .slice A_b_c8_L2h_5_L2h b_c8_L2h_5_L2h.length c_b_c8_L2h_5_L2h, .slice A_b_c8_L2h_6_L2h b_c8_L2h_6_L2h.length c_b_c8_L2h_6_L2h, .slice A_b_c8_L2h_7_L2h b_c8_L2h_7_L2h.length c_b_c8_L2h_7_L2h, .int .i64 r0_10.1, .int .i64 0, .int .i64 0], fun Ep4 => cells b_v3 23 [.pointer (some ⟨b_v3_0, 0, none⟩)], fun Ep4 => cells b_v3_0 25 [.slice A_v3_0_0 v3_0.L.length c_v3_0_0, .int .i64 r3_1.2], fun Ep4 => ro ρ, fun Ep4 => cells b_v3_0 25 [.slice A_v3_0_0 v3_0.L.length c_v3_0_0, .int .i64 r4_3.2], fun Ep4 => cells (blkOf (Ep4 31)) 3 [.int .i64 r4_3.1], fun Ep4 => vec 3 (RpI .i64).sz (.slice A_b_c8_L2h_5_L2h b_c8_L2h_5_L2h.length c_b_c8_L2h_5_L2h) b_c8_L2h_5_L2h.length cs_b_c8_L2h_5_L2h, fun Ep4 => bunA (fun (cs32 : List Value) => RepL (RpI .i64) ρ z4_5 cs32) (fun (cs32 : List Value) => [vec 3 (RpI .i64).sz (.slice (adOf (Ep4 32)) z4_5.length (capOf (Ep4 32))) z4_5.length cs32]), fun Ep4 => cells (blkOf (Ep4 36)) 3 [.int .i64 r3_1.1], fun Ep4 => vec 3 (RpI .i64).sz (.slice A_b_c8_L2h_6_L2h b_c8_L2h_6_L2h.length c_b_c8_L2h_6_L2h) b_c8_L2h_6_L2h.length cs_b_c8_L2h_6_L2h, fun Ep4 => bunA (fun (cs37 : List Value) => RepL (RpI .i64) ρ z4_10 cs37) (fun (cs37 : List Value) => [vec 3 (RpI .i64).sz (.slice (adOf (Ep4 37)) z4_10.length (capOf (Ep4 37))) z4_10.length cs37]), fun Ep4 => cells b_v3_0 25 [.slice A_v3_0_0 v3_0.L.length c_v3_0_0, .int .i64 r4_15.2], fun Ep4 => cells (blkOf (Ep4 44)) 3 [.int .i64 x43], fun Ep4 => vec 3 (RpI .i64).sz (.slice A_b_c8_L2h_7_L2h b_c8_L2h_7_L2h.length c_b_c8_L2h_7_L2h) b_c8_L2h_7_L2h.length cs_b_c8_L2h_7_L2h, fun Ep4 => bunA (fun (cs45 : List Value) => RepL (RpI .i64) ρ z4_18 cs45) (fun (cs45 : List Value) => [vec 3 (RpI .i64).sz (.slice (adOf (Ep4 45)) z4_18.length (capOf (Ep4 45))) z4_18.length cs45]), fun Ep4 => cells b_c8_L2h 61 [.string name0, .bool false, .int .i64 ins1, .int .u64 table2, .int .i64 x18, .slice (adOf (Ep4 32)) z4_5.length (capOf (Ep4 32)), .slice A_b_c8_L2h_6_L2h b_c8_L2h_6_L2h.length c_b_c8_L2h_6_L2h, .slice A_b_c8_L2h_7_L2h b_c8_L2h_7_L2h.length c_b_c8_L2h_7_L2h, .int .i64 r0_10.1, .int .i64 0, .int .i64 0], fun Ep4 => cells b_c8_L2h 61 [.string name0, .bool false, .int .i64 ins1, .int .u64 table2, .int .i64 x18, .slice (adOf (Ep4 32)) z4_5.length (capOf (Ep4 32)), .slice (adOf (Ep4 37)) z4_10.length (capOf (Ep4 37)), .slice A_b_c8_L2h_7_L2h b_c8_L2h_7_L2h.length c_b_c8_L2h_7_L2h, .int .i64 r0_10.1, .int .i64 0, .int .i64 0], fun Ep4 => cells b_c8_L2h 61 [.string name0, .bool false, .int .i64 ins1, .int .u64 table2, .int .i64 x18, .slice (adOf (Ep4 32)) z4_5.length (capOf (Ep4 32)), .slice (adOf (Ep4 37)) z4_10.length (capOf (Ep4 37)), .slice (adOf (Ep4 45)) z4_18.length (capOf (Ep4 45)), .int .i64 r0_10.1, .int .i64 0, .int .i64 0]] mixed (by kernel_rfl) (((((((hS.pull 8).pull 8).pull 8).pull 4).pull 4).pull 5).pull 7) ?_ ?_
      · refine ⟨?_, ?_, ?_, ?_, ?_, ?_, ?_, ?_, ?_, ?_, ?_, ?_, ?_, ?_, ?_, ?_, ?_, ?_, ?_, ?_, ?_, ?_, ?_, ?_, ?_, trivial⟩
        · intro Ep4 w l' hE4 hO4 hF_ hS
          refine p (yl_field0 fld_61_5 ((hE4 8 rfl).trans eL2h_8)) <| x_done <|
            ?_
          refine x_fin ⟨⟨_, rfl⟩, rfl, ?_⟩
          exact Eq.mp (by kernel_rfl) hS
        · intro Ep4 w l' hE4 hO4 hF_ hS
          obtain ⟨f4_0, -⟩ := hF_
          replace f4_0 : Ep4 27 = .pointer (some ⟨b_c8_L2h, 5, none⟩) := Eq.mp (by kernel_rfl) f4_0
          replace hS : St w0 w (cells b_c8_L2h 61 [.string name0, .bool false, .int .i64 ins1, .int .u64 table2, .int .i64 x18, .slice A_b_c8_L2h_5_L2h b_c8_L2h_5_L2h.length c_b_c8_L2h_5_L2h, .slice A_b_c8_L2h_6_L2h b_c8_L2h_6_L2h.length c_b_c8_L2h_6_L2h, .slice A_b_c8_L2h_7_L2h b_c8_L2h_7_L2h.length c_b_c8_L2h_7_L2h, .int .i64 r0_10.1, .int .i64 0, .int .i64 0] :: l') := Eq.mp (by kernel_rfl) hS
          refine pa (at_load one_22 f4_0 (hS.cell rfl)) <| x_done <|
            ?_
          refine x_fin ⟨⟨_, rfl⟩, rfl, ?_⟩
          exact Eq.mp (by kernel_rfl) hS
        · intro Ep4 w l' hE4 hO4 hF_ hS
          replace hS : St w0 w (cells b_v3 23 [.pointer (some ⟨b_v3_0, 0, none⟩)] :: l') := Eq.mp (by kernel_rfl) hS
          refine pa (at_load one_23 ((hE4 3 rfl).trans eL2h_3) (hS.cell rfl)) <| x_done <|
            ?_
          refine x_fin ⟨⟨_, rfl⟩, rfl, ?_⟩
          exact Eq.mp (by kernel_rfl) hS
        · intro Ep4 w l' hE4 hO4 hF_ hS
          obtain ⟨f4_2, -⟩ := hF_
          replace f4_2 : Ep4 29 = .pointer (some ⟨b_v3_0, 0, none⟩) := Eq.mp (by kernel_rfl) f4_2
          replace hS : St w0 w (ro ρ :: cells b_v3_0 25 [.slice A_v3_0_0 v3_0.L.length c_v3_0_0, .int .i64 r3_1.2] :: l') := Eq.mp (by kernel_rfl) hS
          have hcall := c_maskmake_Stream_Range hc4_3 h_v3_0_0 (hS.pull 1)
          refine o_cc call_20 (args3 f4_2 rfl rfl) hcall ?_
          rintro e w' ⟨rfl, hS⟩
          refine ⟨_, rfl, ?_⟩
          refine x_done <|
            ?_
          refine x_fin ⟨⟨_, rfl⟩, rfl, ?_⟩
          exact Eq.mp (by kernel_rfl) (hS.pull 1)
        · intro Ep4 w l' hE4 hO4 hF_ hS
          obtain ⟨f4_3, -⟩ := hF_
          replace f4_3 : Ep4 30 = .int .i64 r4_3.1 := Eq.mp (by kernel_rfl) f4_3
          refine o_buildSlice (vs := [.int .i64 r4_3.1]) (cs := [.int .i64 r4_3.1]) sl_22 zero_3 (parts_eq (pt (va := .int .i64 r4_3.1) f4_3 pt0)) rfl (by intro v hv; simp only [List.mem_cons, List.not_mem_nil, or_false] at hv; first | (subst hv; rfl) | (rcases hv with rfl <;> rfl)) (by decide) rfl hS (fun b31 w' hS => ?_)
          refine x_done <|
            ?_
          refine x_fin ⟨⟨_, rfl⟩, rfl, ?_⟩
          exact Eq.mp (by kernel_rfl) hS
        · intro Ep4 w l' hE4 hO4 hF_ hS
          obtain ⟨f4_1, f4_4, -⟩ := hF_
          replace f4_1 : Ep4 28 = .slice A_b_c8_L2h_5_L2h b_c8_L2h_5_L2h.length c_b_c8_L2h_5_L2h := Eq.mp (by kernel_rfl) f4_1
          replace f4_4 : Ep4 31 = .slice (some ⟨(blkOf (Ep4 31)), 0, none⟩) 1 1 := Eq.mp (by kernel_rfl) f4_4
          replace hS : St w0 w (cells (blkOf (Ep4 31)) 3 [.int .i64 r4_3.1] :: ro ρ :: vec 3 (RpI .i64).sz (.slice A_b_c8_L2h_5_L2h b_c8_L2h_5_L2h.length c_b_c8_L2h_5_L2h) b_c8_L2h_5_L2h.length cs_b_c8_L2h_5_L2h :: l') := Eq.mp (by kernel_rfl) hS
          refine o_ap sl_22 zero_3 rfl (by decide) f4_1 f4_4 (hS.pull 2) h_b_c8_L2h_5_L2h (src_blk usl_22 hS rfl rfl) (RepL.cons (R := (RpI .i64)) (ρ := ρ) (x := r4_3.1) (cs := [.int .i64 r4_3.1]) rfl RepL.nil) hz4_5 hk4_5 (fun A32 c32 cs32 w' hr32 hS => ?_)
          refine x_done <|
            ?_
          refine x_fin ⟨⟨_, rfl⟩, rfl, ?_⟩
          replace hS := St.bun (Φ := (fun (cs32 : List Value) => RepL (RpI .i64) ρ z4_5 cs32)) (L := (fun (cs32 : List Value) => [vec 3 (RpI .i64).sz (.slice A32 z4_5.length c32) z4_5.length cs32])) cs32 hr32 hS
          exact Eq.mp (by kernel_rfl) ((hS.pull 2).pull 2)
        · intro Ep4 w l' hE4 hO4 hF_ hS
          refine p (yl_field0 fld_61_6 ((hE4 8 rfl).trans eL2h_8)) <| x_done <|
            ?_
          refine x_fin ⟨⟨_, rfl⟩, rfl, ?_⟩
          exact Eq.mp (by kernel_rfl) hS
        · intro Ep4 w l' hE4 hO4 hF_ hS
          obtain ⟨f4_6, -⟩ := hF_
          replace f4_6 : Ep4 33 = .pointer (some ⟨b_c8_L2h, 6, none⟩) := Eq.mp (by kernel_rfl) f4_6
          replace hS : St w0 w (cells b_c8_L2h 61 [.string name0, .bool false, .int .i64 ins1, .int .u64 table2, .int .i64 x18, .slice A_b_c8_L2h_5_L2h b_c8_L2h_5_L2h.length c_b_c8_L2h_5_L2h, .slice A_b_c8_L2h_6_L2h b_c8_L2h_6_L2h.length c_b_c8_L2h_6_L2h, .slice A_b_c8_L2h_7_L2h b_c8_L2h_7_L2h.length c_b_c8_L2h_7_L2h, .int .i64 r0_10.1, .int .i64 0, .int .i64 0] :: l') := Eq.mp (by kernel_rfl) hS
          refine pa (at_load one_22 f4_6 (hS.cell rfl)) <| x_done <|
            ?_
          refine x_fin ⟨⟨_, rfl⟩, rfl, ?_⟩
          exact Eq.mp (by kernel_rfl) hS
        · intro Ep4 w l' hE4 hO4 hF_ hS
          refine p (yl_move (hE4 9 rfl)) <| x_done <|
            ?_
          refine x_fin ⟨⟨_, rfl⟩, rfl, ?_⟩
          exact Eq.mp (by kernel_rfl) hS
        · intro Ep4 w l' hE4 hO4 hF_ hS
          obtain ⟨f4_8, -⟩ := hF_
          replace f4_8 : Ep4 35 = .int .i64 r3_1.1 := Eq.mp (by kernel_rfl) f4_8
          refine o_buildSlice (vs := [.int .i64 r3_1.1]) (cs := [.int .i64 r3_1.1]) sl_22 zero_3 (parts_eq (pt (va := .int .i64 r3_1.1) f4_8 pt0)) rfl (by intro v hv; simp only [List.mem_cons, List.not_mem_nil, or_false] at hv; first | (subst hv; rfl) | (rcases hv with rfl <;> rfl)) (by decide) rfl hS (fun b36 w' hS => ?_)
          refine x_done <|
            ?_
          refine x_fin ⟨⟨_, rfl⟩, rfl, ?_⟩
          exact Eq.mp (by kernel_rfl) hS
        · intro Ep4 w l' hE4 hO4 hF_ hS
          obtain ⟨f4_7, f4_9, -⟩ := hF_
          replace f4_7 : Ep4 34 = .slice A_b_c8_L2h_6_L2h b_c8_L2h_6_L2h.length c_b_c8_L2h_6_L2h := Eq.mp (by kernel_rfl) f4_7
          replace f4_9 : Ep4 36 = .slice (some ⟨(blkOf (Ep4 36)), 0, none⟩) 1 1 := Eq.mp (by kernel_rfl) f4_9
          replace hS : St w0 w (cells (blkOf (Ep4 36)) 3 [.int .i64 r3_1.1] :: ro ρ :: vec 3 (RpI .i64).sz (.slice A_b_c8_L2h_6_L2h b_c8_L2h_6_L2h.length c_b_c8_L2h_6_L2h) b_c8_L2h_6_L2h.length cs_b_c8_L2h_6_L2h :: l') := Eq.mp (by kernel_rfl) hS
          refine o_ap sl_22 zero_3 rfl (by decide) f4_7 f4_9 (hS.pull 2) h_b_c8_L2h_6_L2h (src_blk usl_22 hS rfl rfl) (RepL.cons (R := (RpI .i64)) (ρ := ρ) (x := r3_1.1) (cs := [.int .i64 r3_1.1]) rfl RepL.nil) hz4_10 hk4_10 (fun A37 c37 cs37 w' hr37 hS => ?_)
          refine x_done <|
            ?_
          refine x_fin ⟨⟨_, rfl⟩, rfl, ?_⟩
          replace hS := St.bun (Φ := (fun (cs37 : List Value) => RepL (RpI .i64) ρ z4_10 cs37)) (L := (fun (cs37 : List Value) => [vec 3 (RpI .i64).sz (.slice A37 z4_10.length c37) z4_10.length cs37])) cs37 hr37 hS
          exact Eq.mp (by kernel_rfl) ((hS.pull 2).pull 2)
        · intro Ep4 w l' hE4 hO4 hF_ hS
          refine p (yl_field0 fld_61_7 ((hE4 8 rfl).trans eL2h_8)) <| x_done <|
            ?_
          refine x_fin ⟨⟨_, rfl⟩, rfl, ?_⟩
          exact Eq.mp (by kernel_rfl) hS
        · intro Ep4 w l' hE4 hO4 hF_ hS
          obtain ⟨f4_11, -⟩ := hF_
          replace f4_11 : Ep4 38 = .pointer (some ⟨b_c8_L2h, 7, none⟩) := Eq.mp (by kernel_rfl) f4_11
          replace hS : St w0 w (cells b_c8_L2h 61 [.string name0, .bool false, .int .i64 ins1, .int .u64 table2, .int .i64 x18, .slice A_b_c8_L2h_5_L2h b_c8_L2h_5_L2h.length c_b_c8_L2h_5_L2h, .slice A_b_c8_L2h_6_L2h b_c8_L2h_6_L2h.length c_b_c8_L2h_6_L2h, .slice A_b_c8_L2h_7_L2h b_c8_L2h_7_L2h.length c_b_c8_L2h_7_L2h, .int .i64 r0_10.1, .int .i64 0, .int .i64 0] :: l') := Eq.mp (by kernel_rfl) hS
          refine pa (at_load one_22 f4_11 (hS.cell rfl)) <| x_done <|
            ?_
          refine x_fin ⟨⟨_, rfl⟩, rfl, ?_⟩
          exact Eq.mp (by kernel_rfl) hS
        · intro Ep4 w l' hE4 hO4 hF_ hS
          refine p (yl_move (hE4 9 rfl)) <| x_done <|
            ?_
          refine x_fin ⟨⟨_, rfl⟩, rfl, ?_⟩
          exact Eq.mp (by kernel_rfl) hS
        · intro Ep4 w l' hE4 hO4 hF_ hS
          replace hS : St w0 w (cells b_v3 23 [.pointer (some ⟨b_v3_0, 0, none⟩)] :: l') := Eq.mp (by kernel_rfl) hS
          refine pa (at_load one_23 ((hE4 3 rfl).trans eL2h_3) (hS.cell rfl)) <| x_done <|
            ?_
          refine x_fin ⟨⟨_, rfl⟩, rfl, ?_⟩
          exact Eq.mp (by kernel_rfl) hS
        · intro Ep4 w l' hE4 hO4 hF_ hS
          obtain ⟨f4_14, -⟩ := hF_
          replace f4_14 : Ep4 41 = .pointer (some ⟨b_v3_0, 0, none⟩) := Eq.mp (by kernel_rfl) f4_14
          replace hS : St w0 w (ro ρ :: cells b_v3_0 25 [.slice A_v3_0_0 v3_0.L.length c_v3_0_0, .int .i64 r4_3.2] :: l') := Eq.mp (by kernel_rfl) hS
          have hcall := c_maskmake_Stream_Next hc4_15 h_v3_0_0 (hS.pull 1)
          refine o_cc call_14 (args2 f4_14 rfl) hcall ?_
          rintro e w' ⟨rfl, hS⟩
          refine ⟨_, rfl, ?_⟩
          refine x_done <|
            ?_
          refine x_fin ⟨⟨_, rfl⟩, rfl, ?_⟩
          exact Eq.mp (by kernel_rfl) (hS.pull 1)
        · intro Ep4 w l' hE4 hO4 hF_ hS
          obtain ⟨f4_13, f4_15, -⟩ := hF_
          replace f4_13 : Ep4 40 = .int .i64 r3_1.1 := Eq.mp (by kernel_rfl) f4_13
          replace f4_15 : Ep4 42 = .int .i64 r4_15.1 := Eq.mp (by kernel_rfl) f4_15
          refine p (yadd f4_13 f4_15 hx43) <| x_done <|
            ?_
          refine x_fin ⟨⟨_, rfl⟩, rfl, ?_⟩
          exact Eq.mp (by kernel_rfl) hS
        · intro Ep4 w l' hE4 hO4 hF_ hS
          obtain ⟨f4_16, -⟩ := hF_
          replace f4_16 : Ep4 43 = .int .i64 x43 := Eq.mp (by kernel_rfl) f4_16
          refine o_buildSlice (vs := [.int .i64 x43]) (cs := [.int .i64 x43]) sl_22 zero_3 (parts_eq (pt (va := .int .i64 x43) f4_16 pt0)) rfl (by intro v hv; simp only [List.mem_cons, List.not_mem_nil, or_false] at hv; first | (subst hv; rfl) | (rcases hv with rfl <;> rfl)) (by decide) rfl hS (fun b44 w' hS => ?_)
          refine x_done <|
            ?_
          refine x_fin ⟨⟨_, rfl⟩, rfl, ?_⟩
          exact Eq.mp (by kernel_rfl) hS
        · intro Ep4 w l' hE4 hO4 hF_ hS
          obtain ⟨f4_12, f4_17, -⟩ := hF_
          replace f4_12 : Ep4 39 = .slice A_b_c8_L2h_7_L2h b_c8_L2h_7_L2h.length c_b_c8_L2h_7_L2h := Eq.mp (by kernel_rfl) f4_12
          replace f4_17 : Ep4 44 = .slice (some ⟨(blkOf (Ep4 44)), 0, none⟩) 1 1 := Eq.mp (by kernel_rfl) f4_17
          replace hS : St w0 w (cells (blkOf (Ep4 44)) 3 [.int .i64 x43] :: ro ρ :: vec 3 (RpI .i64).sz (.slice A_b_c8_L2h_7_L2h b_c8_L2h_7_L2h.length c_b_c8_L2h_7_L2h) b_c8_L2h_7_L2h.length cs_b_c8_L2h_7_L2h :: l') := Eq.mp (by kernel_rfl) hS
          refine o_ap sl_22 zero_3 rfl (by decide) f4_12 f4_17 (hS.pull 2) h_b_c8_L2h_7_L2h (src_blk usl_22 hS rfl rfl) (RepL.cons (R := (RpI .i64)) (ρ := ρ) (x := x43) (cs := [.int .i64 x43]) rfl RepL.nil) hz4_18 hk4_18 (fun A45 c45 cs45 w' hr45 hS => ?_)
          refine x_done <|
            ?_
          refine x_fin ⟨⟨_, rfl⟩, rfl, ?_⟩
          replace hS := St.bun (Φ := (fun (cs45 : List Value) => RepL (RpI .i64) ρ z4_18 cs45)) (L := (fun (cs45 : List Value) => [vec 3 (RpI .i64).sz (.slice A45 z4_18.length c45) z4_18.length cs45])) cs45 hr45 hS
          exact Eq.mp (by kernel_rfl) ((hS.pull 2).pull 2)
        · intro Ep4 w l' hE4 hO4 hF_ hS
          refine p (yl_field0 fld_61_5 ((hE4 8 rfl).trans eL2h_8)) <| x_done <|
            ?_
          refine x_fin ⟨⟨_, rfl⟩, rfl, ?_⟩
          exact Eq.mp (by kernel_rfl) hS
        · intro Ep4 w l' hE4 hO4 hF_ hS
          obtain ⟨f4_5, f4_19, -⟩ := hF_
          replace f4_5 : Ep4 32 = .slice (adOf (Ep4 32)) z4_5.length (capOf (Ep4 32)) := Eq.mp (by kernel_rfl) f4_5
          replace f4_19 : Ep4 46 = .pointer (some ⟨b_c8_L2h, 5, none⟩) := Eq.mp (by kernel_rfl) f4_19
          replace hS : St w0 w (cells b_c8_L2h 61 [.string name0, .bool false, .int .i64 ins1, .int .u64 table2, .int .i64 x18, .slice A_b_c8_L2h_5_L2h b_c8_L2h_5_L2h.length c_b_c8_L2h_5_L2h, .slice A_b_c8_L2h_6_L2h b_c8_L2h_6_L2h.length c_b_c8_L2h_6_L2h, .slice A_b_c8_L2h_7_L2h b_c8_L2h_7_L2h.length c_b_c8_L2h_7_L2h, .int .i64 r0_10.1, .int .i64 0, .int .i64 0] :: l') := Eq.mp (by kernel_rfl) hS
          refine o_store1 (v := .slice (adOf (Ep4 32)) z4_5.length (capOf (Ep4 32))) one_22 f4_19 f4_5 rfl rfl hS (fun w' hS => ?_)
          refine x_done <|
            ?_
          refine x_fin ⟨⟨undef, rfl⟩, trivial, ?_⟩
          exact Eq.mp (by kernel_rfl) hS
        · intro Ep4 w l' hE4 hO4 hF_ hS
          refine p (yl_field0 fld_61_6 ((hE4 8 rfl).trans eL2h_8)) <| x_done <|
            ?_
          refine x_fin ⟨⟨_, rfl⟩, rfl, ?_⟩
          exact Eq.mp (by kernel_rfl) hS
        · intro Ep4 w l' hE4 hO4 hF_ hS
          obtain ⟨f4_5, f4_10, f4_21, -⟩ := hF_
          replace f4_5 : Ep4 32 = .slice (adOf (Ep4 32)) z4_5.length (capOf (Ep4 32)) := Eq.mp (by kernel_rfl) f4_5
          replace f4_10 : Ep4 37 = .slice (adOf (Ep4 37)) z4_10.length (capOf (Ep4 37)) := Eq.mp (by kernel_rfl) f4_10
          replace f4_21 : Ep4 47 = .pointer (some ⟨b_c8_L2h, 6, none⟩) := Eq.mp (by kernel_rfl) f4_21
          replace hS : St w0 w (cells b_c8_L2h 61 [.string name0, .bool false, .int .i64 ins1, .int .u64 table2, .int .i64 x18, .slice (adOf (Ep4 32)) z4_5.length (capOf (Ep4 32)), .slice A_b_c8_L2h_6_L2h b_c8_L2h_6_L2h.length c_b_c8_L2h_6_L2h, .slice A_b_c8_L2h_7_L2h b_c8_L2h_7_L2h.length c_b_c8_L2h_7_L2h, .int .i64 r0_10.1, .int .i64 0, .int .i64 0] :: l') := Eq.mp (by kernel_rfl) hS
          refine o_store1 (v := .slice (adOf (Ep4 37)) z4_10.length (capOf (Ep4 37))) one_22 f4_21 f4_10 rfl rfl hS (fun w' hS => ?_)
          refine x_done <|
            ?_
          refine x_fin ⟨⟨undef, rfl⟩, trivial, ?_⟩
          exact Eq.mp (by kernel_rfl) hS
        · intro Ep4 w l' hE4 hO4 hF_ hS
          refine p (yl_field0 fld_61_7 ((hE4 8 rfl).trans eL2h_8)) <| x_done <|
            ?_
          refine x_fin ⟨⟨_, rfl⟩, rfl, ?_⟩
          exact Eq.mp (by kernel_rfl) hS
        · intro Ep4 w l' hE4 hO4 hF_ hS
          obtain ⟨f4_5, f4_10, f4_18, f4_23, -⟩ := hF_
          replace f4_5 : Ep4 32 = .slice (adOf (Ep4 32)) z4_5.length (capOf (Ep4 32)) := Eq.mp (by kernel_rfl) f4_5
          replace f4_10 : Ep4 37 = .slice (adOf (Ep4 37)) z4_10.length (capOf (Ep4 37)) := Eq.mp (by kernel_rfl) f4_10
          replace f4_18 : Ep4 45 = .slice (adOf (Ep4 45)) z4_18.length (capOf (Ep4 45)) := Eq.mp (by kernel_rfl) f4_18
          replace f4_23 : Ep4 48 = .pointer (some ⟨b_c8_L2h, 7, none⟩) := Eq.mp (by kernel_rfl) f4_23
          replace hS : St w0 w (cells b_c8_L2h 61 [.string name0, .bool false, .int .i64 ins1, .int .u64 table2, .int .i64 x18, .slice (adOf (Ep4 32)) z4_5.length (capOf (Ep4 32)), .slice (adOf (Ep4 37)) z4_10.length (capOf (Ep4 37)), .slice A_b_c8_L2h_7_L2h b_c8_L2h_7_L2h.length c_b_c8_L2h_7_L2h, .int .i64 r0_10.1, .int .i64 0, .int .i64 0] :: l') := Eq.mp (by kernel_rfl) hS
          refine o_store1 (v := .slice (adOf (Ep4 45)) z4_18.length (capOf (Ep4 45))) one_22 f4_23 f4_18 rfl rfl hS (fun w' hS => ?_)
          refine x_done <|
            ?_
          refine x_fin ⟨⟨undef, rfl⟩, trivial, ?_⟩
          exact Eq.mp (by kernel_rfl) hS
      intro Ep4 w' hE4 hF_ hS
      obtain ⟨f4_0, f4_1, f4_2, f4_3, f4_4, f4_5, f4_6, f4_7, f4_8, f4_9, f4_10, f4_11, f4_12, f4_13, f4_14, f4_15, f4_16, f4_17, f4_18, f4_19, f4_21, f4_23, -⟩ := hF_
      replace f4_0 : Ep4 27 = .pointer (some ⟨b_c8_L2h, 5, none⟩) := Eq.mp (by kernel_rfl) f4_0
      replace f4_1 : Ep4 28 = .slice A_b_c8_L2h_5_L2h b_c8_L2h_5_L2h.length c_b_c8_L2h_5_L2h := Eq.mp (by kernel_rfl) f4_1
      replace f4_2 : Ep4 29 = .pointer (some ⟨b_v3_0, 0, none⟩) := Eq.mp (by kernel_rfl) f4_2
      replace f4_3 : Ep4 30 = .int .i64 r4_3.1 := Eq.mp (by kernel_rfl) f4_3
      replace f4_4 : Ep4 31 = .slice (some ⟨(blkOf (Ep4 31)), 0, none⟩) 1 1 := Eq.mp (by kernel_rfl) f4_4
      replace f4_5 : Ep4 32 = .slice (adOf (Ep4 32)) z4_5.length (capOf (Ep4 32)) := Eq.mp (by kernel_rfl) f4_5
      replace f4_6 : Ep4 33 = .pointer (some ⟨b_c8_L2h, 6, none⟩) := Eq.mp (by kernel_rfl) f4_6
      replace f4_7 : Ep4 34 = .slice A_b_c8_L2h_6_L2h b_c8_L2h_6_L2h.length c_b_c8_L2h_6_L2h := Eq.mp (by kernel_rfl) f4_7
      replace f4_8 : Ep4 35 = .int .i64 r3_1.1 := Eq.mp (by kernel_rfl) f4_8
      replace f4_9 : Ep4 36 = .slice (some ⟨(blkOf (Ep4 36)), 0, none⟩) 1 1 := Eq.mp (by kernel_rfl) f4_9
      replace f4_10 : Ep4 37 = .slice (adOf (Ep4 37)) z4_10.length (capOf (Ep4 37)) := Eq.mp (by kernel_rfl) f4_10
      replace f4_11 : Ep4 38 = .pointer (some ⟨b_c8_L2h, 7, none⟩) := Eq.mp (by kernel_rfl) f4_11
      replace f4_12 : Ep4 39 = .slice A_b_c8_L2h_7_L2h b_c8_L2h_7_L2h.length c_b_c8_L2h_7_L2h := Eq.mp (by kernel_rfl) f4_12
      replace f4_13 : Ep4 40 = .int .i64 r3_1.1 := Eq.mp (by kernel_rfl) f4_13
      replace f4_14 : Ep4 41 = .pointer (some ⟨b_v3_0, 0, none⟩) := Eq.mp (by kernel_rfl) f4_14
      replace f4_15 : Ep4 42 = .int .i64 r4_15.1 := Eq.mp (by kernel_rfl) f4_15
      replace f4_16 : Ep4 43 = .int .i64 x43 := Eq.mp (by kernel_rfl) f4_16
      replace f4_17 : Ep4 44 = .slice (some ⟨(blkOf (Ep4 44)), 0, none⟩) 1 1 := Eq.mp (by kernel_rfl) f4_17
      replace f4_18 : Ep4 45 = .slice (adOf (Ep4 45)) z4_18.length (capOf (Ep4 45)) := Eq.mp (by kernel_rfl) f4_18
      replace f4_19 : Ep4 46 = .pointer (some ⟨b_c8_L2h, 5, none⟩) := Eq.mp (by kernel_rfl) f4_19
      replace f4_21 : Ep4 47 = .pointer (some ⟨b_c8_L2h, 6, none⟩) := Eq.mp (by kernel_rfl) f4_21
      replace f4_23 : Ep4 48 = .pointer (some ⟨b_c8_L2h, 7, none⟩) := Eq.mp (by kernel_rfl) f4_23
      replace hS : St w0 w' (cells b_v3 23 [.pointer (some ⟨b_v3_0, 0, none⟩)] :: ro ρ :: cells (blkOf (Ep4 31)) 3 [.int .i64 r4_3.1] :: bunA (fun (cs32 : List Value) => RepL (RpI .i64) ρ z4_5 cs32) (fun (cs32 : List Value) => [vec 3 (RpI .i64).sz (.slice (adOf (Ep4 32)) z4_5.length (capOf (Ep4 32))) z4_5.length cs32]) :: cells (blkOf (Ep4 36)) 3 [.int .i64 r3_1.1] :: bunA (fun (cs37 : List Value) => RepL (RpI .i64) ρ z4_10 cs37) (fun (cs37 : List Value) => [vec 3 (RpI .i64).sz (.slice (adOf (Ep4 37)) z4_10.length (capOf (Ep4 37))) z4_10.length cs37]) :: cells b_v3_0 25 [.slice A_v3_0_0 v3_0.L.length c_v3_0_0, .int .i64 r4_15.2] :: cells (blkOf (Ep4 44)) 3 [.int .i64 x43] :: bunA (fun (cs45 : List Value) => RepL (RpI .i64) ρ z4_18 cs45) (fun (cs45 : List Value) => [vec 3 (RpI .i64).sz (.slice (adOf (Ep4 45)) z4_18.length (capOf (Ep4 45))) z4_18.length cs45]) :: cells b_c8_L2h 61 [.string name0, .bool false, .int .i64 ins1, .int .u64 table2, .int .i64 x18, .slice (adOf (Ep4 32)) z4_5.length (capOf (Ep4 32)), .slice (adOf (Ep4 37)) z4_10.length (capOf (Ep4 37)), .slice (adOf (Ep4 45)) z4_18.length (capOf (Ep4 45)), .int .i64 r0_10.1, .int .i64 0, .int .i64 0] :: (cells b_v4 31 [.slice A_v4_0 v4_0.length c_v4_0] :: vec 61 R_api_Cell.sz (.slice A_v4_0 v4_0.length c_v4_0) v4_0.length cs_v4_0 :: l)) := Eq.mp (by kernel_rfl) hS
      have q_ := St.unbun (hS.pull 3); obtain ⟨cs32, hr32, hS⟩ := q_
      have q_ := St.unbun (hS.pull 5); obtain ⟨cs37, hr37, hS⟩ := q_
      have q_ := St.unbun (hS.pull 8); obtain ⟨cs45, hr45, hS⟩ := q_
      replace hFL2 := ar_s hFL2; obtain ⟨x49, hx49, hFL2⟩ := hFL2
      refine x_blk <| x_region <| p (yadd ((hE4 23 rfl).trans eL2h_23) rfl hx49) <| p (yl_move rfl) <|
        x_done <|
        ?_
      have e_ := Option.some.inj (show some _ = some _ from hFL2); subst e_
      exact x_inv ⟨kL2, Nat.lt_succ_self _, b_c8_L2h, (adOf (Ep4 32)), z4_5.length, (capOf (Ep4 32)), cs32, (adOf (Ep4 37)), z4_10.length, (capOf (Ep4 37)), cs37, (adOf (Ep4 45)), z4_18.length, (capOf (Ep4 45)), cs45, x49, z4_5, z4_10, z4_18, r4_15.2, hLL2, ((hE4 3 rfl).trans eL2h_3), ((hE4 4 rfl).trans eL2h_4), ((hE4 8 rfl).trans eL2h_8), ((hE4 22 rfl).trans eL2h_22), rfl, hr32, hr37, hr45, ((((((((((((hS.pull 5).drop.pull 5).drop.pull 6).drop.pull 4).pull 1).pull 2).pull 3).pull 8).pull 6).pull 7).pull 8).pull 8)⟩
    · replace hFL2 := it_f hc24 hFL2
      refine x_exitTo _ rfl <|
        ?_
      have e_ := Option.some.inj (show some _ = some _ from hFL2); subst e_
      exact x_inv ⟨b_c8_L2h, A_b_c8_L2h_5_L2h, b_c8_L2h_5_L2h.length, c_b_c8_L2h_5_L2h, cs_b_c8_L2h_5_L2h, A_b_c8_L2h_6_L2h, b_c8_L2h_6_L2h.length, c_b_c8_L2h_6_L2h, cs_b_c8_L2h_6_L2h, A_b_c8_L2h_7_L2h, b_c8_L2h_7_L2h.length, c_b_c8_L2h_7_L2h, cs_b_c8_L2h_7_L2h, b_c8_L2h_5_L2h, b_c8_L2h_6_L2h, b_c8_L2h_7_L2h, b_v3_0_1_L2h, hLL2, eL2h_4, eL2h_8, h_b_c8_L2h_5_L2h, h_b_c8_L2h_6_L2h, h_b_c8_L2h_7_L2h, (((((((((hS.pull 8).pull 8).pull 8).pull 8).pull 8).pull 5).pull 8).pull 8).pull 8)⟩
  rintro E w ⟨b_c8_L2, A_b_c8_L2_5_L2, n_b_c8_L2_5_L2, c_b_c8_L2_5_L2, cs_b_c8_L2_5_L2, A_b_c8_L2_6_L2, n_b_c8_L2_6_L2, c_b_c8_L2_6_L2, cs_b_c8_L2_6_L2, A_b_c8_L2_7_L2, n_b_c8_L2_7_L2, c_b_c8_L2_7_L2, cs_b_c8_L2_7_L2, b_c8_L2_5_L2, b_c8_L2_6_L2, b_c8_L2_7_L2, b_v3_0_1_L2, rfl, eL2_4, eL2_8, h_b_c8_L2_5_L2, h_b_c8_L2_6_L2, h_b_c8_L2_7_L2, hS⟩
  have e_ := St.vec_n (hS.pull 5) h_b_c8_L2_5_L2; subst e_
  have e_ := St.vec_n (hS.pull 6) h_b_c8_L2_6_L2; subst e_
  have e_ := St.vec_n (hS.pull 7) h_b_c8_L2_7_L2; subst e_
  refine x_region <| pa (at_load one_31 eL2_4 (hS.cell rfl)) <| pa (v := .agg #[.string name0, .bool false, .int .i64 ins1, .int .u64 table2, .int .i64 x18, .slice A_b_c8_L2_5_L2 b_c8_L2_5_L2.length c_b_c8_L2_5_L2, .slice A_b_c8_L2_6_L2 b_c8_L2_6_L2.length c_b_c8_L2_6_L2, .slice A_b_c8_L2_7_L2 b_c8_L2_7_L2.length c_b_c8_L2_7_L2, .int .i64 r0_10.1, .int .i64 0, .int .i64 0]) (ld_sub agg_61 eL2_8 rfl rfl (hS.pull 1)) <|
    ?_
  have q_ := St.vec_fz ((hS.pull 8).pull 6) h_b_c8_L2_5_L2; obtain ⟨ρz6_2, hlez6_2, fz6_2, hS⟩ := q_
  have q_ := St.vec_fz (hS.pull 6) (h_b_c8_L2_6_L2.le hlez6_2); obtain ⟨ρz6_2a, hlez6_2a, fz6_2a, hS⟩ := q_
  have q_ := St.vec_fz (hS.pull 6) (h_b_c8_L2_7_L2.le (hlez6_2.trans hlez6_2a)); obtain ⟨ρz6_2b, hlez6_2b, fz6_2b, hS⟩ := q_
  refine o_buildSlice (vs := [.agg #[.string name0, .bool false, .int .i64 ins1, .int .u64 table2, .int .i64 x18, .slice A_b_c8_L2_5_L2 b_c8_L2_5_L2.length c_b_c8_L2_5_L2, .slice A_b_c8_L2_6_L2 b_c8_L2_6_L2.length c_b_c8_L2_6_L2, .slice A_b_c8_L2_7_L2 b_c8_L2_7_L2.length c_b_c8_L2_7_L2, .int .i64 r0_10.1, .int .i64 0, .int .i64 0]]) (cs := [.string name0, .bool false, .int .i64 ins1, .int .u64 table2, .int .i64 x18, .slice A_b_c8_L2_5_L2 b_c8_L2_5_L2.length c_b_c8_L2_5_L2, .slice A_b_c8_L2_6_L2 b_c8_L2_6_L2.length c_b_c8_L2_6_L2, .slice A_b_c8_L2_7_L2 b_c8_L2_7_L2.length c_b_c8_L2_7_L2, .int .i64 r0_10.1, .int .i64 0, .int .i64 0]) sl_31 zero_61 (parts_eq (pt (va := .agg #[.string name0, .bool false, .int .i64 ins1, .int .u64 table2, .int .i64 x18, .slice A_b_c8_L2_5_L2 b_c8_L2_5_L2.length c_b_c8_L2_5_L2, .slice A_b_c8_L2_6_L2 b_c8_L2_6_L2.length c_b_c8_L2_6_L2, .slice A_b_c8_L2_7_L2 b_c8_L2_7_L2.length c_b_c8_L2_7_L2, .int .i64 r0_10.1, .int .i64 0, .int .i64 0]) rfl pt0)) rfl (by intro v hv; simp only [List.mem_cons, List.not_mem_nil, or_false] at hv; first | (subst hv; rfl) | (rcases hv with rfl <;> rfl)) (by decide) rfl hS (fun b52 w' hS => ?_)
  replace hF := lv_s hF; obtain ⟨z6_3, hz6_3, hF⟩ := hF
  replace hF := ck_s hF; obtain ⟨hk6_3, hF⟩ := hF
  refine o_ap sl_31 zero_61 rfl (by decide) rfl rfl (hS.pull 6) (h_v4_0.le ((hlez6_2.trans hlez6_2a).trans hlez6_2b)) (src_blk usl_31 hS rfl rfl) (RepL.cons (R := R_api_Cell) (ρ := ρz6_2b) (x := (T_api_Cell.mk name0 false ins1 table2 x18 b_c8_L2_5_L2 b_c8_L2_6_L2 b_c8_L2_7_L2 r0_10.1 0 0)) (cs := [.string name0, .bool false, .int .i64 ins1, .int .u64 table2, .int .i64 x18, .slice A_b_c8_L2_5_L2 b_c8_L2_5_L2.length c_b_c8_L2_5_L2, .slice A_b_c8_L2_6_L2 b_c8_L2_6_L2.length c_b_c8_L2_6_L2, .slice A_b_c8_L2_7_L2 b_c8_L2_7_L2.length c_b_c8_L2_7_L2, .int .i64 r0_10.1, .int .i64 0, .int .i64 0]) ⟨_, _, _, _, _, _, _, _, _, rfl, (fz6_2.le (hlez6_2a.trans hlez6_2b)), (fz6_2a.le hlez6_2b), fz6_2b⟩ RepL.nil) hz6_3 hk6_3 (fun A53 c53 cs53 w' hr53 hS => ?_)
  refine o_store1 (v := .slice A53 z6_3.length c53) one_31 eL2_4 rfl rfl rfl (hS.pull 3) (fun w' hS => ?_)
  refine x_done <|
    ?_
  have e_ := Option.some.inj (show some _ = some _ from hF); subst e_
  exact x_fin ⟨_, rfl, ρz6_2b, A53, z6_3.length, c53, cs53, rfl, ((hlez6_2.trans hlez6_2a).trans hlez6_2b), hr53, (((((((hS.pull 2).drop.pull 3).drop.pull 2).pull 2).pull 2).pull 4).pull 4)⟩
attribute [irreducible] P_maskmake_Stream_LayLib_1_2

def P_maskmake_Stream_LayLib_L15 (s0 : T_maskmake_Stream) (x53 : Int) : (Int × List Int × List Int × List Int × Int) → Option ((Int × List Int × List Int × List Int × Int) ⊕ (List Int × List Int × List Int × Int)) := fun (y54_L15h, b_c8_L15h_5_L15h, b_c8_L15h_6_L15h, b_c8_L15h_7_L15h, b_s0_1_L15h) =>
  if y54_L15h < x53 then
    bd (P_maskmake_Stream_Range (T_maskmake_Stream.mk s0.L b_s0_1_L15h) 2 5) fun r16_3 =>
    lv (b_c8_L15h_5_L15h ++ [r16_3.1]) fun z16_5 =>
    ck (apOk 8 z16_5.length) <|
    ar (y54_L15h + 1) fun x63 =>
    some (Sum.inl (x63, z16_5, b_c8_L15h_6_L15h, b_c8_L15h_7_L15h, r16_3.2))
  else
    some (Sum.inr (b_c8_L15h_5_L15h, b_c8_L15h_6_L15h, b_c8_L15h_7_L15h, b_s0_1_L15h))
def P_maskmake_Stream_LayLib_L10 (s0 : T_maskmake_Stream) : (List ByteArray × Int × List T_api_Cell × Int) → Option ((List ByteArray × Int × List T_api_Cell × Int) ⊕ (List T_api_Cell × Int)) := fun (y22_L10h, y24_L10h, b3_0_L10h, b_s0_1_L10h) =>
  if y24_L10h < 2 then
    ck (inb y24_L10h y22_L10h.length) <|
    lv (gt y22_L10h y24_L10h) fun x28 =>
    bd (P_maskmake_Stream_Range (T_maskmake_Stream.mk s0.L b_s0_1_L10h) 1 6) fun r12_1 =>
    ar ((1 : Int) + y24_L10h) fun x33 =>
    bd (P_maskmake_Stream_Next (T_maskmake_Stream.mk s0.L r12_1.2) 2) fun r13_4 =>
    ar ((1 : Int) + r13_4.1) fun x36 =>
    bd (P_maskmake_Stream_Next (T_maskmake_Stream.mk s0.L r13_4.2) 5) fun r13_10 =>
    ar (r12_1.1 + r13_10.1) fun x42 =>
    bd (P_maskmake_Stream_Next (T_maskmake_Stream.mk s0.L r13_10.2) 3) fun r13_14 =>
    bd (P_maskmake_Stream_Next (T_maskmake_Stream.mk s0.L r13_14.2) 4) fun r13_16 =>
    bd (P_maskmake_Stream_Next (T_maskmake_Stream.mk s0.L r13_16.2) 4) fun r13_18 =>
    ar (x33 + 1) fun x53 =>
    bd (
      lp (P_maskmake_Stream_LayLib_L15 s0 x53) fuel (0, [], ([r12_1.1] : List Int), ([x42] : List Int), r13_18.2)) fun (b_c8_L15_5_L15, b_c8_L15_6_L15, b_c8_L15_7_L15, b_s0_1_L15) =>
    lv (b3_0_L10h ++ [(T_api_Cell.mk x28 true x33 0 x36 b_c8_L15_5_L15 b_c8_L15_6_L15 b_c8_L15_7_L15 r13_14.1 r13_16.1 r13_18.1)]) fun z18_3 =>
    ck (apOk 144 z18_3.length) <|
    ar (y24_L10h + 1) fun x68 =>
    some (Sum.inl (y22_L10h, x68, z18_3, b_s0_1_L15))
  else
    some (Sum.inr (b3_0_L10h, b_s0_1_L10h))
def P_maskmake_Stream_LayLib (s0 : T_maskmake_Stream) : Option (List T_api_Cell × Int) :=
  bd (P_maskmake_Stream_LayLib_1_2 (⟨#[98, 117, 102]⟩ : ByteArray) 1 2 s0 []) fun r3_1 =>
  bd (P_maskmake_Stream_LayLib_1_2 (⟨#[105, 110, 118]⟩ : ByteArray) 1 1 (T_maskmake_Stream.mk s0.L r3_1.1) r3_1.2) fun r4_1 =>
  bd (P_maskmake_Stream_LayLib_1_2 (⟨#[110, 97, 110, 100]⟩ : ByteArray) 2 7 (T_maskmake_Stream.mk s0.L r4_1.1) r4_1.2) fun r5_1 =>
  bd (P_maskmake_Stream_LayLib_1_2 (⟨#[111, 114]⟩ : ByteArray) 2 14 (T_maskmake_Stream.mk s0.L r5_1.1) r5_1.2) fun r6_1 =>
  bd (P_maskmake_Stream_LayLib_1_2 (⟨#[120, 111, 114]⟩ : ByteArray) 2 6 (T_maskmake_Stream.mk s0.L r6_1.1) r6_1.2) fun r7_1 =>
  bd (P_maskmake_Stream_LayLib_1_2 (⟨#[109, 117, 120]⟩ : ByteArray) 3 202 (T_maskmake_Stream.mk s0.L r7_1.1) r7_1.2) fun r8_1 =>
  bd (
    lp (P_maskmake_Stream_LayLib_L10 s0) fuel (([(⟨#[100, 102, 102]⟩ : ByteArray), (⟨#[100, 102, 102, 101]⟩ : ByteArray)] : List ByteArray), 0, r8_1.2, r8_1.1)) fun (b3_0_L10, b_s0_1_L10) =>
  some (b3_0_L10, b_s0_1_L10)
set_option maxHeartbeats 4000000 in
set_option maxRecDepth 100000 in
theorem c_maskmake_Stream_LayLib {w0 w : World} {l : List Assn} {ρ : Heap} {b_s0 : Nat} {A_s0_0 : Option Addr} {n_s0_0 : Nat} {c_s0_0 : Nat} {s0 : T_maskmake_Stream} {r : (List T_api_Cell × Int)} (hF : P_maskmake_Stream_LayLib s0 = some r) (h_s0_0 : RdS (RpI .i64) ρ A_s0_0 n_s0_0 c_s0_0 s0.L) (hS : St w0 w (cells b_s0 25 [.slice A_s0_0 n_s0_0 c_s0_0, .int .i64 s0.fat] :: ro ρ :: l)) :
    Calls Tryd.prog 18 #[.pointer (some ⟨b_s0, 0, none⟩)] w fun e w' => ∃ (ρ' : Heap) (A_y0_ret : Option Addr) (n_y0_ret : Nat) (c_y0_ret : Nat) (cs_y0_ret : List Value), e = .returned (.slice A_y0_ret n_y0_ret c_y0_ret) ∧ Le ρ ρ' ∧ RepL R_api_Cell ρ' r.1 cs_y0_ret ∧ St w0 w' (vec 61 R_api_Cell.sz (.slice A_y0_ret n_y0_ret c_y0_ret) n_y0_ret cs_y0_ret :: cells b_s0 25 [.slice A_s0_0 n_s0_0 c_s0_0, .int .i64 r.2] :: ro ρ' :: l) := by
  have e_ := h_s0_0.n; subst e_
  refine enterC Tryd.func18 rfl 70 rfl (by simp) ?_
  refine x_seq <| x_region <|
    ?_
  refine o_box (cs := [.pointer (some ⟨b_s0, 0, none⟩)]) rfl rfl hS (fun b1 w' hS => ?_)
  refine p (yl_assign rfl) <| x_done <| x_seq <| x_region <|
    ?_
  refine o_alloc zero_31 hS (fun b3 w' hS => ?_)
  replace hF := bd_s hF; obtain ⟨r3_1, hc3_1, hF⟩ := hF
  refine x_done <| x_seq <| x_region <| p (v := .func (.func 65) #[] #[.pointer (some ⟨b1, 0, none⟩), .pointer (some ⟨b3, 0, none⟩)]) (yl_makeFunc (by simp only [List.map_toArray, List.map_nil]) (by simp only [List.map_toArray, List.map_cons, List.map_nil]; rfl)) <|
    p (v := .func (.func 65) #[] #[.pointer (some ⟨b1, 0, none⟩), .pointer (some ⟨b3, 0, none⟩)]) (yl_assign rfl) <| x_done <| x_seq <| x_region <|
    p (v := .func (.func 65) #[] #[.pointer (some ⟨b1, 0, none⟩), .pointer (some ⟨b3, 0, none⟩)]) (yl_move rfl) <|
    ?_
  replace hS := St.vec_nil hS 61 R_api_Cell.sz
  have hnl3_1 : RepL R_api_Cell ρ [] [] := rfl
  have hcall := c_maskmake_Stream_LayLib_1_2 hc3_1 h_s0_0 hnl3_1 (((((hS.pull 4).pull 1).pull 2).pull 4).pull 4)
  refine o_ccv rfl call_65 (capargs (args3 rfl rfl rfl)) hcall ?_
  rintro e w' ⟨ρ'_3_1, A_b_v4_0_ret_3_1, n_b_v4_0_ret_3_1, c_b_v4_0_ret_3_1, cs_b_v4_0_ret_3_1, rfl, hle3_1, h_b_v4_0_ret_3_1, hS⟩
  refine ⟨_, rfl, ?_⟩
  have e_ := St.vec_n (hS.pull 3) h_b_v4_0_ret_3_1; subst e_
  replace hF := bd_s hF; obtain ⟨r4_1, hc4_1, hF⟩ := hF
  refine x_done <| x_seq <| x_region <| p (v := .func (.func 65) #[] #[.pointer (some ⟨b1, 0, none⟩), .pointer (some ⟨b3, 0, none⟩)]) (yl_move rfl) <|
    ?_
  have hcall := c_maskmake_Stream_LayLib_1_2 hc4_1 (h_s0_0.le hle3_1) h_b_v4_0_ret_3_1 (((((hS.pull 4).pull 4).pull 4).pull 3).pull 4)
  refine o_ccv rfl call_65 (capargs (args3 rfl rfl rfl)) hcall ?_
  rintro e w' ⟨ρ'_4_1, A_b_v4_0_ret_4_1, n_b_v4_0_ret_4_1, c_b_v4_0_ret_4_1, cs_b_v4_0_ret_4_1, rfl, hle4_1, h_b_v4_0_ret_4_1, hS⟩
  refine ⟨_, rfl, ?_⟩
  have e_ := St.vec_n (hS.pull 3) h_b_v4_0_ret_4_1; subst e_
  replace hF := bd_s hF; obtain ⟨r5_1, hc5_1, hF⟩ := hF
  refine x_done <| x_seq <| x_region <| p (v := .func (.func 65) #[] #[.pointer (some ⟨b1, 0, none⟩), .pointer (some ⟨b3, 0, none⟩)]) (yl_move rfl) <|
    ?_
  have hcall := c_maskmake_Stream_LayLib_1_2 hc5_1 (h_s0_0.le (hle3_1.trans hle4_1)) h_b_v4_0_ret_4_1 (((((hS.pull 4).pull 4).pull 4).pull 3).pull 4)
  refine o_ccv rfl call_65 (capargs (args3 rfl rfl rfl)) hcall ?_
  rintro e w' ⟨ρ'_5_1, A_b_v4_0_ret_5_1, n_b_v4_0_ret_5_1, c_b_v4_0_ret_5_1, cs_b_v4_0_ret_5_1, rfl, hle5_1, h_b_v4_0_ret_5_1, hS⟩
  refine ⟨_, rfl, ?_⟩
  have e_ := St.vec_n (hS.pull 3) h_b_v4_0_ret_5_1; subst e_
  replace hF := bd_s hF; obtain ⟨r6_1, hc6_1, hF⟩ := hF
  refine x_done <| x_seq <| x_region <| p (v := .func (.func 65) #[] #[.pointer (some ⟨b1, 0, none⟩), .pointer (some ⟨b3, 0, none⟩)]) (yl_move rfl) <|
    ?_
  have hcall := c_maskmake_Stream_LayLib_1_2 hc6_1 (h_s0_0.le ((hle3_1.trans hle4_1).trans hle5_1)) h_b_v4_0_ret_5_1 (((((hS.pull 4).pull 4).pull 4).pull 3).pull 4)
  refine o_ccv rfl call_65 (capargs (args3 rfl rfl rfl)) hcall ?_
  rintro e w' ⟨ρ'_6_1, A_b_v4_0_ret_6_1, n_b_v4_0_ret_6_1, c_b_v4_0_ret_6_1, cs_b_v4_0_ret_6_1, rfl, hle6_1, h_b_v4_0_ret_6_1, hS⟩
  refine ⟨_, rfl, ?_⟩
  have e_ := St.vec_n (hS.pull 3) h_b_v4_0_ret_6_1; subst e_
  replace hF := bd_s hF; obtain ⟨r7_1, hc7_1, hF⟩ := hF
  refine x_done <| x_seq <| x_region <| p (v := .func (.func 65) #[] #[.pointer (some ⟨b1, 0, none⟩), .pointer (some ⟨b3, 0, none⟩)]) (yl_move rfl) <|
    ?_
  have hcall := c_maskmake_Stream_LayLib_1_2 hc7_1 (h_s0_0.le (((hle3_1.trans hle4_1).trans hle5_1).trans hle6_1)) h_b_v4_0_ret_6_1 (((((hS.pull 4).pull 4).pull 4).pull 3).pull 4)
  refine o_ccv rfl call_65 (capargs (args3 rfl rfl rfl)) hcall ?_
  rintro e w' ⟨ρ'_7_1, A_b_v4_0_ret_7_1, n_b_v4_0_ret_7_1, c_b_v4_0_ret_7_1, cs_b_v4_0_ret_7_1, rfl, hle7_1, h_b_v4_0_ret_7_1, hS⟩
  refine ⟨_, rfl, ?_⟩
  have e_ := St.vec_n (hS.pull 3) h_b_v4_0_ret_7_1; subst e_
  replace hF := bd_s hF; obtain ⟨r8_1, hc8_1, hF⟩ := hF
  refine x_done <| x_seq <| x_region <| p (v := .func (.func 65) #[] #[.pointer (some ⟨b1, 0, none⟩), .pointer (some ⟨b3, 0, none⟩)]) (yl_move rfl) <|
    ?_
  have hcall := c_maskmake_Stream_LayLib_1_2 hc8_1 (h_s0_0.le ((((hle3_1.trans hle4_1).trans hle5_1).trans hle6_1).trans hle7_1)) h_b_v4_0_ret_7_1 (((((hS.pull 4).pull 4).pull 4).pull 3).pull 4)
  refine o_ccv rfl call_65 (capargs (args3 rfl rfl rfl)) hcall ?_
  rintro e w' ⟨ρ'_8_1, A_b_v4_0_ret_8_1, n_b_v4_0_ret_8_1, c_b_v4_0_ret_8_1, cs_b_v4_0_ret_8_1, rfl, hle8_1, h_b_v4_0_ret_8_1, hS⟩
  refine ⟨_, rfl, ?_⟩
  have e_ := St.vec_n (hS.pull 3) h_b_v4_0_ret_8_1; subst e_
  refine x_done <| x_seq <| x_seq <| x_region <|
    ?_
  refine o_buildSlice (vs := [.string (⟨#[100, 102, 102]⟩ : ByteArray), .string (⟨#[100, 102, 102, 101]⟩ : ByteArray)]) (cs := [.string (⟨#[100, 102, 102]⟩ : ByteArray), .string (⟨#[100, 102, 102, 101]⟩ : ByteArray)]) sl_26 zero_9 (parts_eq (pt (va := .string (⟨#[100, 102, 102]⟩ : ByteArray)) rfl (pt (va := .string (⟨#[100, 102, 102, 101]⟩ : ByteArray)) rfl pt0))) rfl (by intro v hv; simp only [List.mem_cons, List.not_mem_nil, or_false] at hv; first | (subst hv; rfl) | (rcases hv with rfl | rfl <;> rfl)) (by decide) rfl hS (fun b22 w' hS => ?_)
  refine p (yl_len_slice usl_26 rfl) <| p (yl_move rfl) <| x_done <|
    ?_
  replace hF := bd_s hF; obtain ⟨oL10, hLL10, hF⟩ := hF
  refine x_join (fun E w => ∃ (ρ_L10 : Heap) (A_b3_0_L10 : Option Addr) (n_b3_0_L10 : Nat) (c_b3_0_L10 : Nat) (cs_b3_0_L10 : List Value) (b3_0_L10 : List T_api_Cell) (b_s0_1_L10 : Int), (b3_0_L10, b_s0_1_L10) = oL10 ∧ Le ρ'_8_1 ρ_L10 ∧ E 3 = .pointer (some ⟨b3, 0, none⟩) ∧ RepL R_api_Cell ρ_L10 b3_0_L10 cs_b3_0_L10 ∧ St w0 w (cells b3 31 [.slice A_b3_0_L10 n_b3_0_L10 c_b3_0_L10] :: cells b_s0 25 [.slice A_s0_0 s0.L.length c_s0_0, .int .i64 b_s0_1_L10] :: vec 61 R_api_Cell.sz (.slice A_b3_0_L10 n_b3_0_L10 c_b3_0_L10) n_b3_0_L10 cs_b3_0_L10 :: ro ρ_L10 :: l)) ?_ ?_
  · skip -- L10
    refine x_block ?_
    have hl_L10h_6 : RepL RpS ρ'_8_1 ([(⟨#[100, 102, 102]⟩ : ByteArray), (⟨#[100, 102, 102, 101]⟩ : ByteArray)] : List ByteArray) [.string (⟨#[100, 102, 102]⟩ : ByteArray), .string (⟨#[100, 102, 102, 101]⟩ : ByteArray)] := (RepL.cons (cs := [.string (⟨#[100, 102, 102]⟩ : ByteArray)]) rfl (RepL.cons (cs := [.string (⟨#[100, 102, 102, 101]⟩ : ByteArray)]) rfl RepL.nil))
    replace hS := St.vec_of (n := 2) (sz := RpS.sz) hS rfl (by decide)
    refine x_loop (fun k_ E w => ∃ (ρ_L10h : Heap) (A_y22_L10h : Option Addr) (n_y22_L10h : Nat) (c_y22_L10h : Nat) (cs_y22_L10h : List Value) (A_b3_0_L10h : Option Addr) (n_b3_0_L10h : Nat) (c_b3_0_L10h : Nat) (cs_b3_0_L10h : List Value) (y22_L10h : List ByteArray) (y24_L10h : Int) (b3_0_L10h : List T_api_Cell) (b_s0_1_L10h : Int), lp (P_maskmake_Stream_LayLib_L10 s0) k_ (y22_L10h, y24_L10h, b3_0_L10h, b_s0_1_L10h) = some oL10 ∧ Le ρ'_8_1 ρ_L10h ∧ E 1 = .pointer (some ⟨b1, 0, none⟩) ∧ E 3 = .pointer (some ⟨b3, 0, none⟩) ∧ E 22 = .slice A_y22_L10h n_y22_L10h c_y22_L10h ∧ E 23 = .int .i64 2 ∧ E 24 = .int .i64 y24_L10h ∧ RepL RpS ρ_L10h y22_L10h cs_y22_L10h ∧ RepL R_api_Cell ρ_L10h b3_0_L10h cs_b3_0_L10h ∧ St w0 w (cells b1 23 [.pointer (some ⟨b_s0, 0, none⟩)] :: cells b3 31 [.slice A_b3_0_L10h n_b3_0_L10h c_b3_0_L10h] :: vec 9 RpS.sz (.slice A_y22_L10h n_y22_L10h c_y22_L10h) n_y22_L10h cs_y22_L10h :: cells b_s0 25 [.slice A_s0_0 s0.L.length c_s0_0, .int .i64 b_s0_1_L10h] :: vec 61 R_api_Cell.sz (.slice A_b3_0_L10h n_b3_0_L10h c_b3_0_L10h) n_b3_0_L10h cs_b3_0_L10h :: ro ρ_L10h :: l)) fuel ⟨ρ'_8_1, (some ⟨b22, 0, none⟩), 2, 2, [.string (⟨#[100, 102, 102]⟩ : ByteArray), .string (⟨#[100, 102, 102, 101]⟩ : ByteArray)], A_b_v4_0_ret_8_1, r8_1.2.length, c_b_v4_0_ret_8_1, cs_b_v4_0_ret_8_1, ([(⟨#[100, 102, 102]⟩ : ByteArray), (⟨#[100, 102, 102, 101]⟩ : ByteArray)] : List ByteArray), 0, r8_1.2, r8_1.1, hLL10, (Le.refl _), rfl, rfl, rfl, rfl, rfl, hl_L10h_6, h_b_v4_0_ret_8_1, ((((((hS.pull 5).pull 5).pull 3).pull 3).pull 5).pull 5)⟩ ?_
    rintro kL10 E w ⟨ρ_L10h, A_y22_L10h, n_y22_L10h, c_y22_L10h, cs_y22_L10h, A_b3_0_L10h, n_b3_0_L10h, c_b3_0_L10h, cs_b3_0_L10h, y22_L10h, y24_L10h, b3_0_L10h, b_s0_1_L10h, hLL10, hleρ_L10h, eL10h_1, eL10h_3, eL10h_22, eL10h_23, eL10h_24, h_y22_L10h, h_b3_0_L10h, hS⟩
    have e_ := St.vec_n (hS.pull 2) h_y22_L10h; subst e_
    have e_ := St.vec_n (hS.pull 4) h_b3_0_L10h; subst e_
    replace hLL10 := lp_s hLL10; obtain ⟨kL10, obL10, rfl, hFL10, hLL10⟩ := hLL10
    refine x_seq <| x_region <| p (yl_lss eL10h_24 eL10h_23) <| x_done <|
      x_seq <|
      x_cond_p (y24_L10h < 2) rfl (fun hc25 => ?_) (fun hc25 => ?_)
    · replace hFL10 := it_t hc25 hFL10
      replace hFL10 := ck_s hFL10; obtain ⟨hk11_1, hFL10⟩ := hFL10
      replace hFL10 := lv_s hFL10; obtain ⟨x28, hx28, hFL10⟩ := hFL10
      replace hFL10 := bd_s hFL10; obtain ⟨r12_1, hc12_1, hFL10⟩ := hFL10
      refine x_skip <| x_seq <| x_block <| x_seq <|
        x_region <| p (yl_move eL10h_24) <| p (yix_o sl_26 eL10h_22 eL10h_24 (hS.pull 2) h_y22_L10h hk11_1) <| pa (at_load one_9 rfl (RepL.getW h_y22_L10h (hS.pull 2) hk11_1 hx28)) <|
        p (yl_assign rfl) <| p (yl_assign rfl) <| x_done <| x_seq <|
        x_region <| pa (at_load one_23 eL10h_1 (hS.cell rfl)) <|
        ?_
      have hcall := c_maskmake_Stream_Range hc12_1 (h_s0_0.le ((((((hle3_1.trans hle4_1).trans hle5_1).trans hle6_1).trans hle7_1).trans hle8_1).trans hleρ_L10h)) ((hS.pull 5).pull 4)
      refine o_cc call_20 (args3 rfl rfl rfl) hcall ?_
      rintro e w' ⟨rfl, hS⟩
      refine ⟨_, rfl, ?_⟩
      refine p (yl_assign rfl) <| x_done <| x_seq <|
        ?_
      replace hFL10 := ar_s hFL10; obtain ⟨x33, hx33, hFL10⟩ := hFL10
      replace hFL10 := bd_s hFL10; obtain ⟨r13_4, hc13_4, hFL10⟩ := hFL10
      replace hFL10 := ar_s hFL10; obtain ⟨x36, hx36, hFL10⟩ := hFL10
      replace hFL10 := bd_s hFL10; obtain ⟨r13_10, hc13_10, hFL10⟩ := hFL10
      replace hFL10 := ar_s hFL10; obtain ⟨x42, hx42, hFL10⟩ := hFL10
      replace hFL10 := bd_s hFL10; obtain ⟨r13_14, hc13_14, hFL10⟩ := hFL10
      replace hFL10 := bd_s hFL10; obtain ⟨r13_16, hc13_16, hFL10⟩ := hFL10
      replace hFL10 := bd_s hFL10; obtain ⟨r13_18, hc13_18, hFL10⟩ := hFL10
      refine x_par (w0 := w0) [⟨[], [], [31], [], [], []⟩, ⟨[], [], [32], [], [], []⟩, ⟨[1], [1], [33], [], [], []⟩, ⟨[], [], [34], [0], [], []⟩, ⟨[3], [3], [35], [2], [1], [3]⟩, ⟨[3, 4], [4], [36], [], [], []⟩, ⟨[], [], [37], [], [], []⟩, ⟨[6], [6], [38], [], [], [4]⟩, ⟨[], [], [39], [], [], []⟩, ⟨[], [], [40], [0], [], []⟩, ⟨[3, 4, 9], [9], [41], [2], [3], [5]⟩, ⟨[3, 4, 8, 9, 10], [8, 10], [42], [], [], []⟩, ⟨[3, 4, 8, 9, 10, 11], [11], [43], [], [], [6]⟩, ⟨[], [], [44], [0], [], []⟩, ⟨[3, 4, 9, 10, 13], [13], [45], [2], [5], [7]⟩, ⟨[], [], [46], [0], [], []⟩, ⟨[3, 4, 9, 10, 13, 14, 15], [15], [47], [2], [7], [8]⟩, ⟨[], [], [48], [0], [], []⟩, ⟨[3, 4, 9, 10, 13, 14, 15, 16, 17], [17], [49], [2], [8], [9]⟩, ⟨[0, 1, 2, 3, 4, 5, 6, 7, 8, 9, 10, 11, 12, 13, 14, 15, 16, 17, 18], [0, 2, 5, 7, 12, 14, 16, 18], [38, 43, 50], [], [], []⟩, ⟨[], [], [8], [], [], [10]⟩, ⟨[0, 1, 2, 3, 4, 5, 6, 7, 8, 9, 10, 11, 12, 13, 14, 15, 16, 17, 18, 19, 20], [7, 12, 19, 20], [], [], [10], [11]⟩] [⟨none, none, []⟩, ⟨none, (some 4), []⟩, ⟨none, none, []⟩, ⟨(some 4), (some 10), []⟩, ⟨(some 7), none, [38]⟩, ⟨(some 10), (some 14), []⟩, ⟨(some 12), none, [43]⟩, ⟨(some 14), (some 16), []⟩, ⟨(some 16), (some 18), []⟩, ⟨(some 18), none, []⟩, ⟨(some 20), (some 21), [8]⟩, ⟨(some 21), none, [8, 38, 43]⟩] [8, 31, 32, 33, 34, 35, 36, 37, 38, 39, 40, 41, 42, 43, 44, 45, 46, 47, 48, 49, 50] [0, 1, 2] [0, 2, 4, 6, 9, 11] [0, 1, 2, 3, 4, 5, 6, 7, 8, 9, 10, 11, 12, 13, 14, 15, 16, 17, 18, 19, 20] [fun Ep13 => Ep13 31 = .string x28, fun Ep13 => Ep13 32 = .int .i64 y24_L10h, fun Ep13 => Ep13 33 = .int .i64 x33, fun Ep13 => Ep13 34 = .pointer (some ⟨b_s0, 0, none⟩), fun Ep13 => Ep13 35 = .int .i64 r13_4.1, fun Ep13 => Ep13 36 = .int .i64 x36, fun Ep13 => Ep13 37 = .int .i64 r12_1.1, fun Ep13 => Ep13 38 = .slice (some ⟨(blkOf (Ep13 38)), 0, none⟩) 1 1, fun Ep13 => Ep13 39 = .int .i64 r12_1.1, fun Ep13 => Ep13 40 = .pointer (some ⟨b_s0, 0, none⟩), fun Ep13 => Ep13 41 = .int .i64 r13_10.1, fun Ep13 => Ep13 42 = .int .i64 x42, fun Ep13 => Ep13 43 = .slice (some ⟨(blkOf (Ep13 43)), 0, none⟩) 1 1, fun Ep13 => Ep13 44 = .pointer (some ⟨b_s0, 0, none⟩), fun Ep13 => Ep13 45 = .int .i64 r13_14.1, fun Ep13 => Ep13 46 = .pointer (some ⟨b_s0, 0, none⟩), fun Ep13 => Ep13 47 = .int .i64 r13_16.1, fun Ep13 => Ep13 48 = .pointer (some ⟨b_s0, 0, none⟩), fun Ep13 => Ep13 49 = .int .i64 r13_18.1, fun Ep13 => Ep13 50 = .agg #[.string x28, .bool true, .int .i64 x33, .int .u64 0, .int .i64 x36, .slice none 0 0, .slice (some ⟨(blkOf (Ep13 38)), 0, none⟩) 1 1, .slice (some ⟨(blkOf (Ep13 43)), 0, none⟩) 1 1, .int .i64 r13_14.1, .int .i64 r13_16.1, .int .i64 r13_18.1], fun Ep13 => Ep13 8 = .pointer (some ⟨(blkOf (Ep13 8)), 0, none⟩), fun Ep13 => True] [fun Ep13 => cells b1 23 [.pointer (some ⟨b_s0, 0, none⟩)], fun Ep13 => cells b_s0 25 [.slice A_s0_0 s0.L.length c_s0_0, .int .i64 r12_1.2], fun Ep13 => ro ρ_L10h, fun Ep13 => cells b_s0 25 [.slice A_s0_0 s0.L.length c_s0_0, .int .i64 r13_4.2], fun Ep13 => cells (blkOf (Ep13 38)) 3 [.int .i64 r12_1.1], fun Ep13 => cells b_s0 25 [.slice A_s0_0 s0.L.length c_s0_0, .int .i64 r13_10.2], fun Ep13 => cells (blkOf (Ep13 43)) 3 [.int .i64 x42], fun Ep13 => cells b_s0 25 [.slice A_s0_0 s0.L.length c_s0_0, .int .i64 r13_14.2], fun Ep13 => cells b_s0 25 [.slice A_s0_0 s0.L.length c_s0_0, .int .i64 r13_16.2], fun Ep13 => cells b_s0 25 [.slice A_s0_0 s0.L.length c_s0_0, .int .i64 r13_18.2], fun Ep13 => cells (blkOf (Ep13 8)) 61 [.string (⟨#[]⟩ : ByteArray), .bool false, .int .i64 0, .int .u64 0, .int .i64 0, .slice none 0 0, .slice none 0 0, .slice none 0 0, .int .i64 0, .int .i64 0, .int .i64 0], fun Ep13 => cells (blkOf (Ep13 8)) 61 [.string x28, .bool true, .int .i64 x33, .int .u64 0, .int .i64 x36, .slice none 0 0, .slice (some ⟨(blkOf (Ep13 38)), 0, none⟩) 1 1, .slice (some ⟨(blkOf (Ep13 43)), 0, none⟩) 1 1, .int .i64 r13_14.1, .int .i64 r13_16.1, .int .i64 r13_18.1]] mixed (by kernel_rfl) (((hS.pull 1).pull 1).pull 2) ?_ ?_
      · refine ⟨?_, ?_, ?_, ?_, ?_, ?_, ?_, ?_, ?_, ?_, ?_, ?_, ?_, ?_, ?_, ?_, ?_, ?_, ?_, ?_, ?_, ?_, trivial⟩
        · intro Ep13 w l' hE13 hO13 hF_ hS
          refine p (yl_move (hE13 6 rfl)) <| x_done <|
            ?_
          refine x_fin ⟨⟨_, rfl⟩, rfl, ?_⟩
          exact Eq.mp (by kernel_rfl) hS
        · intro Ep13 w l' hE13 hO13 hF_ hS
          refine p (yl_move (hE13 5 rfl)) <| x_done <|
            ?_
          refine x_fin ⟨⟨_, rfl⟩, rfl, ?_⟩
          exact Eq.mp (by kernel_rfl) hS
        · intro Ep13 w l' hE13 hO13 hF_ hS
          obtain ⟨f13_1, -⟩ := hF_
          replace f13_1 : Ep13 32 = .int .i64 y24_L10h := Eq.mp (by kernel_rfl) f13_1
          refine p (yadd rfl f13_1 hx33) <| x_done <|
            ?_
          refine x_fin ⟨⟨_, rfl⟩, rfl, ?_⟩
          exact Eq.mp (by kernel_rfl) hS
        · intro Ep13 w l' hE13 hO13 hF_ hS
          replace hS : St w0 w (cells b1 23 [.pointer (some ⟨b_s0, 0, none⟩)] :: l') := Eq.mp (by kernel_rfl) hS
          refine pa (at_load one_23 ((hE13 1 rfl).trans eL10h_1) (hS.cell rfl)) <| x_done <|
            ?_
          refine x_fin ⟨⟨_, rfl⟩, rfl, ?_⟩
          exact Eq.mp (by kernel_rfl) hS
        · intro Ep13 w l' hE13 hO13 hF_ hS
          obtain ⟨f13_3, -⟩ := hF_
          replace f13_3 : Ep13 34 = .pointer (some ⟨b_s0, 0, none⟩) := Eq.mp (by kernel_rfl) f13_3
          replace hS : St w0 w (ro ρ_L10h :: cells b_s0 25 [.slice A_s0_0 s0.L.length c_s0_0, .int .i64 r12_1.2] :: l') := Eq.mp (by kernel_rfl) hS
          have hcall := c_maskmake_Stream_Next hc13_4 (h_s0_0.le ((((((hle3_1.trans hle4_1).trans hle5_1).trans hle6_1).trans hle7_1).trans hle8_1).trans hleρ_L10h)) (hS.pull 1)
          refine o_cc call_14 (args2 f13_3 rfl) hcall ?_
          rintro e w' ⟨rfl, hS⟩
          refine ⟨_, rfl, ?_⟩
          refine x_done <|
            ?_
          refine x_fin ⟨⟨_, rfl⟩, rfl, ?_⟩
          exact Eq.mp (by kernel_rfl) (hS.pull 1)
        · intro Ep13 w l' hE13 hO13 hF_ hS
          obtain ⟨f13_4, -⟩ := hF_
          replace f13_4 : Ep13 35 = .int .i64 r13_4.1 := Eq.mp (by kernel_rfl) f13_4
          refine p (yadd rfl f13_4 hx36) <| x_done <|
            ?_
          refine x_fin ⟨⟨_, rfl⟩, rfl, ?_⟩
          exact Eq.mp (by kernel_rfl) hS
        · intro Ep13 w l' hE13 hO13 hF_ hS
          refine p (yl_move (hE13 7 rfl)) <| x_done <|
            ?_
          refine x_fin ⟨⟨_, rfl⟩, rfl, ?_⟩
          exact Eq.mp (by kernel_rfl) hS
        · intro Ep13 w l' hE13 hO13 hF_ hS
          obtain ⟨f13_6, -⟩ := hF_
          replace f13_6 : Ep13 37 = .int .i64 r12_1.1 := Eq.mp (by kernel_rfl) f13_6
          refine o_buildSlice (vs := [.int .i64 r12_1.1]) (cs := [.int .i64 r12_1.1]) sl_22 zero_3 (parts_eq (pt (va := .int .i64 r12_1.1) f13_6 pt0)) rfl (by intro v hv; simp only [List.mem_cons, List.not_mem_nil, or_false] at hv; first | (subst hv; rfl) | (rcases hv with rfl <;> rfl)) (by decide) rfl hS (fun b38 w' hS => ?_)
          refine x_done <|
            ?_
          refine x_fin ⟨⟨_, rfl⟩, rfl, ?_⟩
          exact Eq.mp (by kernel_rfl) hS
        · intro Ep13 w l' hE13 hO13 hF_ hS
          refine p (yl_move (hE13 7 rfl)) <| x_done <|
            ?_
          refine x_fin ⟨⟨_, rfl⟩, rfl, ?_⟩
          exact Eq.mp (by kernel_rfl) hS
        · intro Ep13 w l' hE13 hO13 hF_ hS
          replace hS : St w0 w (cells b1 23 [.pointer (some ⟨b_s0, 0, none⟩)] :: l') := Eq.mp (by kernel_rfl) hS
          refine pa (at_load one_23 ((hE13 1 rfl).trans eL10h_1) (hS.cell rfl)) <| x_done <|
            ?_
          refine x_fin ⟨⟨_, rfl⟩, rfl, ?_⟩
          exact Eq.mp (by kernel_rfl) hS
        · intro Ep13 w l' hE13 hO13 hF_ hS
          obtain ⟨f13_9, -⟩ := hF_
          replace f13_9 : Ep13 40 = .pointer (some ⟨b_s0, 0, none⟩) := Eq.mp (by kernel_rfl) f13_9
          replace hS : St w0 w (ro ρ_L10h :: cells b_s0 25 [.slice A_s0_0 s0.L.length c_s0_0, .int .i64 r13_4.2] :: l') := Eq.mp (by kernel_rfl) hS
          have hcall := c_maskmake_Stream_Next hc13_10 (h_s0_0.le ((((((hle3_1.trans hle4_1).trans hle5_1).trans hle6_1).trans hle7_1).trans hle8_1).trans hleρ_L10h)) (hS.pull 1)
          refine o_cc call_14 (args2 f13_9 rfl) hcall ?_
          rintro e w' ⟨rfl, hS⟩
          refine ⟨_, rfl, ?_⟩
          refine x_done <|
            ?_
          refine x_fin ⟨⟨_, rfl⟩, rfl, ?_⟩
          exact Eq.mp (by kernel_rfl) (hS.pull 1)
        · intro Ep13 w l' hE13 hO13 hF_ hS
          obtain ⟨f13_8, f13_10, -⟩ := hF_
          replace f13_8 : Ep13 39 = .int .i64 r12_1.1 := Eq.mp (by kernel_rfl) f13_8
          replace f13_10 : Ep13 41 = .int .i64 r13_10.1 := Eq.mp (by kernel_rfl) f13_10
          refine p (yadd f13_8 f13_10 hx42) <| x_done <|
            ?_
          refine x_fin ⟨⟨_, rfl⟩, rfl, ?_⟩
          exact Eq.mp (by kernel_rfl) hS
        · intro Ep13 w l' hE13 hO13 hF_ hS
          obtain ⟨f13_11, -⟩ := hF_
          replace f13_11 : Ep13 42 = .int .i64 x42 := Eq.mp (by kernel_rfl) f13_11
          refine o_buildSlice (vs := [.int .i64 x42]) (cs := [.int .i64 x42]) sl_22 zero_3 (parts_eq (pt (va := .int .i64 x42) f13_11 pt0)) rfl (by intro v hv; simp only [List.mem_cons, List.not_mem_nil, or_false] at hv; first | (subst hv; rfl) | (rcases hv with rfl <;> rfl)) (by decide) rfl hS (fun b43 w' hS => ?_)
          refine x_done <|
            ?_
          refine x_fin ⟨⟨_, rfl⟩, rfl, ?_⟩
          exact Eq.mp (by kernel_rfl) hS
        · intro Ep13 w l' hE13 hO13 hF_ hS
          replace hS : St w0 w (cells b1 23 [.pointer (some ⟨b_s0, 0, none⟩)] :: l') := Eq.mp (by kernel_rfl) hS
          refine pa (at_load one_23 ((hE13 1 rfl).trans eL10h_1) (hS.cell rfl)) <| x_done <|
            ?_
          refine x_fin ⟨⟨_, rfl⟩, rfl, ?_⟩
          exact Eq.mp (by kernel_rfl) hS
        · intro Ep13 w l' hE13 hO13 hF_ hS
          obtain ⟨f13_13, -⟩ := hF_
          replace f13_13 : Ep13 44 = .pointer (some ⟨b_s0, 0, none⟩) := Eq.mp (by kernel_rfl) f13_13
          replace hS : St w0 w (ro ρ_L10h :: cells b_s0 25 [.slice A_s0_0 s0.L.length c_s0_0, .int .i64 r13_10.2] :: l') := Eq.mp (by kernel_rfl) hS
          have hcall := c_maskmake_Stream_Next hc13_14 (h_s0_0.le ((((((hle3_1.trans hle4_1).trans hle5_1).trans hle6_1).trans hle7_1).trans hle8_1).trans hleρ_L10h)) (hS.pull 1)
          refine o_cc call_14 (args2 f13_13 rfl) hcall ?_
          rintro e w' ⟨rfl, hS⟩
          refine ⟨_, rfl, ?_⟩
          refine x_done <|
            ?_
          refine x_fin ⟨⟨_, rfl⟩, rfl, ?_⟩
          exact Eq.mp (by kernel_rfl) (hS.pull 1)
        · intro Ep13 w l' hE13 hO13 hF_ hS
          replace hS : St w0 w (cells b1 23 [.pointer (some ⟨b_s0, 0, none⟩)] :: l') := Eq.mp (by kernel_rfl) hS
          refine pa (at_load one_23 ((hE13 1 rfl).trans eL10h_1) (hS.cell rfl)) <| x_done <|
            ?_
          refine x_fin ⟨⟨_, rfl⟩, rfl, ?_⟩
          exact Eq.mp (by kernel_rfl) hS
        · intro Ep13 w l' hE13 hO13 hF_ hS
          obtain ⟨f13_15, -⟩ := hF_
          replace f13_15 : Ep13 46 = .pointer (some ⟨b_s0, 0, none⟩) := Eq.mp (by kernel_rfl) f13_15
          replace hS : St w0 w (ro ρ_L10h :: cells b_s0 25 [.slice A_s0_0 s0.L.length c_s0_0, .int .i64 r13_14.2] :: l') := Eq.mp (by kernel_rfl) hS
          have hcall := c_maskmake_Stream_Next hc13_16 (h_s0_0.le ((((((hle3_1.trans hle4_1).trans hle5_1).trans hle6_1).trans hle7_1).trans hle8_1).trans hleρ_L10h)) (hS.pull 1)
          refine o_cc call_14 (args2 f13_15 rfl) hcall ?_
          rintro e w' ⟨rfl, hS⟩
          refine ⟨_, rfl, ?_⟩
          refine x_done <|
            ?_
          refine x_fin ⟨⟨_, rfl⟩, rfl, ?_⟩
          exact Eq.mp (by kernel_rfl) (hS.pull 1)
        · intro Ep13 w l' hE13 hO13 hF_ hS
          replace hS : St w0 w (cells b1 23 [.pointer (some ⟨b_s0, 0, none⟩)] :: l') := Eq.mp (by kernel_rfl) hS
          refine pa (at_load one_23 ((hE13 1 rfl).trans eL10h_1) (hS.cell rfl)) <| x_done <|
            ?_
          refine x_fin ⟨⟨_, rfl⟩, rfl, ?_⟩
          exact Eq.mp (by kernel_rfl) hS
        · intro Ep13 w l' hE13 hO13 hF_ hS
          obtain ⟨f13_17, -⟩ := hF_
          replace f13_17 : Ep13 48 = .pointer (some ⟨b_s0, 0, none⟩) := Eq.mp (by kernel_rfl) f13_17
          replace hS : St w0 w (ro ρ_L10h :: cells b_s0 25 [.slice A_s0_0 s0.L.length c_s0_0, .int .i64 r13_16.2] :: l') := Eq.mp (by kernel_rfl) hS
          have hcall := c_maskmake_Stream_Next hc13_18 (h_s0_0.le ((((((hle3_1.trans hle4_1).trans hle5_1).trans hle6_1).trans hle7_1).trans hle8_1).trans hleρ_L10h)) (hS.pull 1)
          refine o_cc call_14 (args2 f13_17 rfl) hcall ?_
          rintro e w' ⟨rfl, hS⟩
          refine ⟨_, rfl, ?_⟩
          refine x_done <|
            ?_
          refine x_fin ⟨⟨_, rfl⟩, rfl, ?_⟩
          exact Eq.mp (by kernel_rfl) (hS.pull 1)
        · intro Ep13 w l' hE13 hO13 hF_ hS
          obtain ⟨f13_0, f13_2, f13_5, f13_7, f13_12, f13_14, f13_16, f13_18, -⟩ := hF_
          replace f13_0 : Ep13 31 = .string x28 := Eq.mp (by kernel_rfl) f13_0
          replace f13_2 : Ep13 33 = .int .i64 x33 := Eq.mp (by kernel_rfl) f13_2
          replace f13_5 : Ep13 36 = .int .i64 x36 := Eq.mp (by kernel_rfl) f13_5
          replace f13_7 : Ep13 38 = .slice (some ⟨(blkOf (Ep13 38)), 0, none⟩) 1 1 := Eq.mp (by kernel_rfl) f13_7
          replace f13_12 : Ep13 43 = .slice (some ⟨(blkOf (Ep13 43)), 0, none⟩) 1 1 := Eq.mp (by kernel_rfl) f13_12
          replace f13_14 : Ep13 45 = .int .i64 r13_14.1 := Eq.mp (by kernel_rfl) f13_14
          replace f13_16 : Ep13 47 = .int .i64 r13_16.1 := Eq.mp (by kernel_rfl) f13_16
          replace f13_18 : Ep13 49 = .int .i64 r13_18.1 := Eq.mp (by kernel_rfl) f13_18
          refine p (v := .agg #[.string x28, .bool true, .int .i64 x33, .int .u64 0, .int .i64 x36, .slice none 0 0, .slice (some ⟨(blkOf (Ep13 38)), 0, none⟩) 1 1, .slice (some ⟨(blkOf (Ep13 43)), 0, none⟩) 1 1, .int .i64 r13_14.1, .int .i64 r13_16.1, .int .i64 r13_18.1]) (yl_build bld_61 bldf_61 (parts_eq (pt (va := .string x28) f13_0 (pt (va := .bool true) rfl (pt (va := .int .i64 x33) f13_2 (pt (va := .int .i64 x36) f13_5 (pt (va := .slice (some ⟨(blkOf (Ep13 38)), 0, none⟩) 1 1) f13_7 (pt (va := .slice (some ⟨(blkOf (Ep13 43)), 0, none⟩) 1 1) f13_12 (pt (va := .int .i64 r13_14.1) f13_14 (pt (va := .int .i64 r13_16.1) f13_16 (pt (va := .int .i64 r13_18.1) f13_18 pt0)))))))))) (by kernel_rfl)) <| x_done <|
            ?_
          refine x_fin ⟨⟨_, rfl⟩, rfl, ?_⟩
          exact Eq.mp (by kernel_rfl) hS
        · intro Ep13 w l' hE13 hO13 hF_ hS
          refine o_alloc zero_61 hS (fun b8 w' hS => ?_)
          refine x_done <|
            ?_
          refine x_fin ⟨⟨_, rfl⟩, rfl, ?_⟩
          exact Eq.mp (by kernel_rfl) hS
        · intro Ep13 w l' hE13 hO13 hF_ hS
          obtain ⟨f13_7, f13_12, f13_19, f13_20, -⟩ := hF_
          replace f13_7 : Ep13 38 = .slice (some ⟨(blkOf (Ep13 38)), 0, none⟩) 1 1 := Eq.mp (by kernel_rfl) f13_7
          replace f13_12 : Ep13 43 = .slice (some ⟨(blkOf (Ep13 43)), 0, none⟩) 1 1 := Eq.mp (by kernel_rfl) f13_12
          replace f13_19 : Ep13 50 = .agg #[.string x28, .bool true, .int .i64 x33, .int .u64 0, .int .i64 x36, .slice none 0 0, .slice (some ⟨(blkOf (Ep13 38)), 0, none⟩) 1 1, .slice (some ⟨(blkOf (Ep13 43)), 0, none⟩) 1 1, .int .i64 r13_14.1, .int .i64 r13_16.1, .int .i64 r13_18.1] := Eq.mp (by kernel_rfl) f13_19
          replace f13_20 : Ep13 8 = .pointer (some ⟨(blkOf (Ep13 8)), 0, none⟩) := Eq.mp (by kernel_rfl) f13_20
          replace hS : St w0 w (cells (blkOf (Ep13 8)) 61 [.string (⟨#[]⟩ : ByteArray), .bool false, .int .i64 0, .int .u64 0, .int .i64 0, .slice none 0 0, .slice none 0 0, .slice none 0 0, .int .i64 0, .int .i64 0, .int .i64 0] :: l') := Eq.mp (by kernel_rfl) hS
          refine o_storeAgg (news := [.string x28, .bool true, .int .i64 x33, .int .u64 0, .int .i64 x36, .slice none 0 0, .slice (some ⟨(blkOf (Ep13 38)), 0, none⟩) 1 1, .slice (some ⟨(blkOf (Ep13 43)), 0, none⟩) 1 1, .int .i64 r13_14.1, .int .i64 r13_16.1, .int .i64 r13_18.1]) agg_61 f13_20 f13_19 rfl (by simp [over_length]) hS (fun w' hS => ?_)
          refine x_done <|
            ?_
          refine x_fin ⟨⟨undef, rfl⟩, trivial, ?_⟩
          exact Eq.mp (by kernel_rfl) hS
      intro Ep13 w' hE13 hF_ hS
      obtain ⟨f13_0, f13_1, f13_2, f13_3, f13_4, f13_5, f13_6, f13_7, f13_8, f13_9, f13_10, f13_11, f13_12, f13_13, f13_14, f13_15, f13_16, f13_17, f13_18, f13_19, f13_20, -⟩ := hF_
      replace f13_0 : Ep13 31 = .string x28 := Eq.mp (by kernel_rfl) f13_0
      replace f13_1 : Ep13 32 = .int .i64 y24_L10h := Eq.mp (by kernel_rfl) f13_1
      replace f13_2 : Ep13 33 = .int .i64 x33 := Eq.mp (by kernel_rfl) f13_2
      replace f13_3 : Ep13 34 = .pointer (some ⟨b_s0, 0, none⟩) := Eq.mp (by kernel_rfl) f13_3
      replace f13_4 : Ep13 35 = .int .i64 r13_4.1 := Eq.mp (by kernel_rfl) f13_4
      replace f13_5 : Ep13 36 = .int .i64 x36 := Eq.mp (by kernel_rfl) f13_5
      replace f13_6 : Ep13 37 = .int .i64 r12_1.1 := Eq.mp (by kernel_rfl) f13_6
      replace f13_7 : Ep13 38 = .slice (some ⟨(blkOf (Ep13 38)), 0, none⟩) 1 1 := Eq.mp (by kernel_rfl) f13_7
      replace f13_8 : Ep13 39 = .int .i64 r12_1.1 := Eq.mp (by kernel_rfl) f13_8
      replace f13_9 : Ep13 40 = .pointer (some ⟨b_s0, 0, none⟩) := Eq.mp (by kernel_rfl) f13_9
      replace f13_10 : Ep13 41 = .int .i64 r13_10.1 := Eq.mp (by kernel_rfl) f13_10
      replace f13_11 : Ep13 42 = .int .i64 x42 := Eq.mp (by kernel_rfl) f13_11
      replace f13_12 : Ep13 43 = .slice (some ⟨(blkOf (Ep13 43)), 0, none⟩) 1 1 := Eq.mp (by kernel_rfl) f13_12
      replace f13_13 : Ep13 44 = .pointer (some ⟨b_s0, 0, none⟩) := Eq.mp (by kernel_rfl) f13_13
      replace f13_14 : Ep13 45 = .int .i64 r13_14.1 := Eq.mp (by kernel_rfl) f13_14
      replace f13_15 : Ep13 46 = .pointer (some ⟨b_s0, 0, none⟩) := Eq.mp (by kernel_rfl) f13_15
      replace f13_16 : Ep13 47 = .int .i64 r13_16.1 := Eq.mp (by kernel_rfl) f13_16
      replace f13_17 : Ep13 48 = .pointer (some ⟨b_s0, 0, none⟩) := Eq.mp (by kernel_rfl) f13_17
      replace f13_18 : Ep13 49 = .int .i64 r13_18.1 := Eq.mp (by kernel_rfl) f13_18
      replace f13_19 : Ep13 50 = .agg #[.string x28, .bool true, .int .i64 x33, .int .u64 0, .int .i64 x36, .slice none 0 0, .slice (some ⟨(blkOf (Ep13 38)), 0, none⟩) 1 1, .slice (some ⟨(blkOf (Ep13 43)), 0, none⟩) 1 1, .int .i64 r13_14.1, .int .i64 r13_16.1, .int .i64 r13_18.1] := Eq.mp (by kernel_rfl) f13_19
      replace f13_20 : Ep13 8 = .pointer (some ⟨(blkOf (Ep13 8)), 0, none⟩) := Eq.mp (by kernel_rfl) f13_20
      replace hS : St w0 w' (cells b1 23 [.pointer (some ⟨b_s0, 0, none⟩)] :: ro ρ_L10h :: cells (blkOf (Ep13 38)) 3 [.int .i64 r12_1.1] :: cells (blkOf (Ep13 43)) 3 [.int .i64 x42] :: cells b_s0 25 [.slice A_s0_0 s0.L.length c_s0_0, .int .i64 r13_18.2] :: cells (blkOf (Ep13 8)) 61 [.string x28, .bool true, .int .i64 x33, .int .u64 0, .int .i64 x36, .slice none 0 0, .slice (some ⟨(blkOf (Ep13 38)), 0, none⟩) 1 1, .slice (some ⟨(blkOf (Ep13 43)), 0, none⟩) 1 1, .int .i64 r13_14.1, .int .i64 r13_16.1, .int .i64 r13_18.1] :: (cells b3 31 [.slice A_b3_0_L10h b3_0_L10h.length c_b3_0_L10h] :: vec 9 RpS.sz (.slice A_y22_L10h y22_L10h.length c_y22_L10h) y22_L10h.length cs_y22_L10h :: vec 61 R_api_Cell.sz (.slice A_b3_0_L10h b3_0_L10h.length c_b3_0_L10h) b3_0_L10h.length cs_b3_0_L10h :: l)) := Eq.mp (by kernel_rfl) hS
      replace hFL10 := ar_s hFL10; obtain ⟨x53, hx53, hFL10⟩ := hFL10
      refine x_seq <| x_seq <| x_region <| p (yl_field0 fld_61_2 f13_20) <|
        pa (at_load one_3 rfl ((hS.pull 5).cell rfl)) <| p (yadd rfl rfl hx53) <| p (yl_move rfl) <| x_done <|
        ?_
      replace hFL10 := bd_s hFL10; obtain ⟨oL15, hLL15, hFL10⟩ := hFL10
      refine x_join (fun E w => ∃ (b_c8_L15 : Nat) (A_b_c8_L15_5_L15 : Option Addr) (n_b_c8_L15_5_L15 : Nat) (c_b_c8_L15_5_L15 : Nat) (cs_b_c8_L15_5_L15 : List Value) (A_b_c8_L15_6_L15 : Option Addr) (n_b_c8_L15_6_L15 : Nat) (c_b_c8_L15_6_L15 : Nat) (cs_b_c8_L15_6_L15 : List Value) (A_b_c8_L15_7_L15 : Option Addr) (n_b_c8_L15_7_L15 : Nat) (c_b_c8_L15_7_L15 : Nat) (cs_b_c8_L15_7_L15 : List Value) (b_c8_L15_5_L15 : List Int) (b_c8_L15_6_L15 : List Int) (b_c8_L15_7_L15 : List Int) (b_s0_1_L15 : Int), (b_c8_L15_5_L15, b_c8_L15_6_L15, b_c8_L15_7_L15, b_s0_1_L15) = oL15 ∧ E 1 = .pointer (some ⟨b1, 0, none⟩) ∧ E 3 = .pointer (some ⟨b3, 0, none⟩) ∧ E 8 = .pointer (some ⟨b_c8_L15, 0, none⟩) ∧ E 22 = .slice A_y22_L10h y22_L10h.length c_y22_L10h ∧ E 23 = .int .i64 2 ∧ E 24 = .int .i64 y24_L10h ∧ RepL (RpI .i64) ρ_L10h b_c8_L15_5_L15 cs_b_c8_L15_5_L15 ∧ RepL (RpI .i64) ρ_L10h b_c8_L15_6_L15 cs_b_c8_L15_6_L15 ∧ RepL (RpI .i64) ρ_L10h b_c8_L15_7_L15 cs_b_c8_L15_7_L15 ∧ St w0 w (cells b1 23 [.pointer (some ⟨b_s0, 0, none⟩)] :: cells b3 31 [.slice A_b3_0_L10h b3_0_L10h.length c_b3_0_L10h] :: cells b_c8_L15 61 [.string x28, .bool true, .int .i64 x33, .int .u64 0, .int .i64 x36, .slice A_b_c8_L15_5_L15 n_b_c8_L15_5_L15 c_b_c8_L15_5_L15, .slice A_b_c8_L15_6_L15 n_b_c8_L15_6_L15 c_b_c8_L15_6_L15, .slice A_b_c8_L15_7_L15 n_b_c8_L15_7_L15 c_b_c8_L15_7_L15, .int .i64 r13_14.1, .int .i64 r13_16.1, .int .i64 r13_18.1] :: vec 9 RpS.sz (.slice A_y22_L10h y22_L10h.length c_y22_L10h) y22_L10h.length cs_y22_L10h :: cells b_s0 25 [.slice A_s0_0 s0.L.length c_s0_0, .int .i64 b_s0_1_L15] :: vec 61 R_api_Cell.sz (.slice A_b3_0_L10h b3_0_L10h.length c_b3_0_L10h) b3_0_L10h.length cs_b3_0_L10h :: vec 3 (RpI .i64).sz (.slice A_b_c8_L15_5_L15 n_b_c8_L15_5_L15 c_b_c8_L15_5_L15) n_b_c8_L15_5_L15 cs_b_c8_L15_5_L15 :: vec 3 (RpI .i64).sz (.slice A_b_c8_L15_6_L15 n_b_c8_L15_6_L15 c_b_c8_L15_6_L15) n_b_c8_L15_6_L15 cs_b_c8_L15_6_L15 :: vec 3 (RpI .i64).sz (.slice A_b_c8_L15_7_L15 n_b_c8_L15_7_L15 c_b_c8_L15_7_L15) n_b_c8_L15_7_L15 cs_b_c8_L15_7_L15 :: ro ρ_L10h :: l)) ?_ ?_
      · skip -- L15
        refine x_block ?_
        replace hS := St.vec_nil hS 3 (RpI .i64).sz
        have hnil_A_b_c8_L15h_5_L15h : RepL (RpI .i64) ρ_L10h [] [] := rfl
        have hl_L15h_3 : RepL (RpI .i64) ρ_L10h ([r12_1.1] : List Int) [.int .i64 r12_1.1] := (RepL.cons (cs := [.int .i64 r12_1.1]) rfl RepL.nil)
        replace hS := St.vec_of (n := 1) (sz := (RpI .i64).sz) (hS.pull 3) rfl (by decide)
        have hl_L15h_3a : RepL (RpI .i64) ρ_L10h ([x42] : List Int) [.int .i64 x42] := (RepL.cons (cs := [.int .i64 x42]) rfl RepL.nil)
        replace hS := St.vec_of (n := 1) (sz := (RpI .i64).sz) (hS.pull 4) rfl (by decide)
        refine x_loop (fun k_ E w => ∃ (b_c8_L15h : Nat) (A_b_c8_L15h_5_L15h : Option Addr) (n_b_c8_L15h_5_L15h : Nat) (c_b_c8_L15h_5_L15h : Nat) (cs_b_c8_L15h_5_L15h : List Value) (A_b_c8_L15h_6_L15h : Option Addr) (n_b_c8_L15h_6_L15h : Nat) (c_b_c8_L15h_6_L15h : Nat) (cs_b_c8_L15h_6_L15h : List Value) (A_b_c8_L15h_7_L15h : Option Addr) (n_b_c8_L15h_7_L15h : Nat) (c_b_c8_L15h_7_L15h : Nat) (cs_b_c8_L15h_7_L15h : List Value) (y54_L15h : Int) (b_c8_L15h_5_L15h : List Int) (b_c8_L15h_6_L15h : List Int) (b_c8_L15h_7_L15h : List Int) (b_s0_1_L15h : Int), lp (P_maskmake_Stream_LayLib_L15 s0 x53) k_ (y54_L15h, b_c8_L15h_5_L15h, b_c8_L15h_6_L15h, b_c8_L15h_7_L15h, b_s0_1_L15h) = some oL15 ∧ E 1 = .pointer (some ⟨b1, 0, none⟩) ∧ E 3 = .pointer (some ⟨b3, 0, none⟩) ∧ E 8 = .pointer (some ⟨b_c8_L15h, 0, none⟩) ∧ E 22 = .slice A_y22_L10h y22_L10h.length c_y22_L10h ∧ E 23 = .int .i64 2 ∧ E 24 = .int .i64 y24_L10h ∧ E 53 = .int .i64 x53 ∧ E 54 = .int .i64 y54_L15h ∧ RepL (RpI .i64) ρ_L10h b_c8_L15h_5_L15h cs_b_c8_L15h_5_L15h ∧ RepL (RpI .i64) ρ_L10h b_c8_L15h_6_L15h cs_b_c8_L15h_6_L15h ∧ RepL (RpI .i64) ρ_L10h b_c8_L15h_7_L15h cs_b_c8_L15h_7_L15h ∧ St w0 w (cells b1 23 [.pointer (some ⟨b_s0, 0, none⟩)] :: cells b3 31 [.slice A_b3_0_L10h b3_0_L10h.length c_b3_0_L10h] :: cells b_c8_L15h 61 [.string x28, .bool true, .int .i64 x33, .int .u64 0, .int .i64 x36, .slice A_b_c8_L15h_5_L15h n_b_c8_L15h_5_L15h c_b_c8_L15h_5_L15h, .slice A_b_c8_L15h_6_L15h n_b_c8_L15h_6_L15h c_b_c8_L15h_6_L15h, .slice A_b_c8_L15h_7_L15h n_b_c8_L15h_7_L15h c_b_c8_L15h_7_L15h, .int .i64 r13_14.1, .int .i64 r13_16.1, .int .i64 r13_18.1] :: vec 9 RpS.sz (.slice A_y22_L10h y22_L10h.length c_y22_L10h) y22_L10h.length cs_y22_L10h :: cells b_s0 25 [.slice A_s0_0 s0.L.length c_s0_0, .int .i64 b_s0_1_L15h] :: vec 61 R_api_Cell.sz (.slice A_b3_0_L10h b3_0_L10h.length c_b3_0_L10h) b3_0_L10h.length cs_b3_0_L10h :: vec 3 (RpI .i64).sz (.slice A_b_c8_L15h_5_L15h n_b_c8_L15h_5_L15h c_b_c8_L15h_5_L15h) n_b_c8_L15h_5_L15h cs_b_c8_L15h_5_L15h :: vec 3 (RpI .i64).sz (.slice A_b_c8_L15h_6_L15h n_b_c8_L15h_6_L15h c_b_c8_L15h_6_L15h) n_b_c8_L15h_6_L15h cs_b_c8_L15h_6_L15h :: vec 3 (RpI .i64).sz (.slice A_b_c8_L15h_7_L15h n_b_c8_L15h_7_L15h c_b_c8_L15h_7_L15h) n_b_c8_L15h_7_L15h cs_b_c8_L15h_7_L15h :: ro ρ_L10h :: l)) fuel ⟨(blkOf (Ep13 8)), none, 0, 0, [], (some ⟨(blkOf (Ep13 38)), 0, none⟩), 1, 1, [.int .i64 r12_1.1], (some ⟨(blkOf (Ep13 43)), 0, none⟩), 1, 1, [.int .i64 x42], 0, [], ([r12_1.1] : List Int), ([x42] : List Int), r13_18.2, hLL15, ((hE13 1 rfl).trans eL10h_1), ((hE13 3 rfl).trans eL10h_3), f13_20, ((hE13 22 rfl).trans eL10h_22), ((hE13 23 rfl).trans eL10h_23), ((hE13 24 rfl).trans eL10h_24), rfl, rfl, hnil_A_b_c8_L15h_5_L15h, hl_L15h_3, hl_L15h_3a, ((((((((((hS.pull 4).pull 1).pull 2).pull 3).pull 9).pull 6).pull 9).pull 8).pull 9).pull 9)⟩ ?_
        rintro kL15 E w ⟨b_c8_L15h, A_b_c8_L15h_5_L15h, n_b_c8_L15h_5_L15h, c_b_c8_L15h_5_L15h, cs_b_c8_L15h_5_L15h, A_b_c8_L15h_6_L15h, n_b_c8_L15h_6_L15h, c_b_c8_L15h_6_L15h, cs_b_c8_L15h_6_L15h, A_b_c8_L15h_7_L15h, n_b_c8_L15h_7_L15h, c_b_c8_L15h_7_L15h, cs_b_c8_L15h_7_L15h, y54_L15h, b_c8_L15h_5_L15h, b_c8_L15h_6_L15h, b_c8_L15h_7_L15h, b_s0_1_L15h, hLL15, eL15h_1, eL15h_3, eL15h_8, eL15h_22, eL15h_23, eL15h_24, eL15h_53, eL15h_54, h_b_c8_L15h_5_L15h, h_b_c8_L15h_6_L15h, h_b_c8_L15h_7_L15h, hS⟩
        have e_ := St.vec_n (hS.pull 6) h_b_c8_L15h_5_L15h; subst e_
        have e_ := St.vec_n (hS.pull 7) h_b_c8_L15h_6_L15h; subst e_
        have e_ := St.vec_n (hS.pull 8) h_b_c8_L15h_7_L15h; subst e_
        replace hLL15 := lp_s hLL15; obtain ⟨kL15, obL15, rfl, hFL15, hLL15⟩ := hLL15
        refine x_seq <| x_region <| p (yl_lss eL15h_54 eL15h_53) <| x_done <|
          x_seq <|
          x_cond_p (y54_L15h < x53) rfl (fun hc55 => ?_) (fun hc55 => ?_)
        · replace hFL15 := it_t hc55 hFL15
          refine x_skip <| x_seq <| x_block <|
            ?_
          replace hFL15 := bd_s hFL15; obtain ⟨r16_3, hc16_3, hFL15⟩ := hFL15
          replace hFL15 := lv_s hFL15; obtain ⟨z16_5, hz16_5, hFL15⟩ := hFL15
          replace hFL15 := ck_s hFL15; obtain ⟨hk16_5, hFL15⟩ := hFL15
          refine x_par (w0 := w0) [⟨[], [], [56], [], [], []⟩, ⟨[0], [0], [57], [0], [], []⟩, ⟨[], [], [58], [1], [], []⟩, ⟨[2], [2], [59], [3], [2], [4]⟩, ⟨[2, 3], [3], [60], [], [], [5]⟩, ⟨[0, 1, 2, 3, 4], [1, 4], [61], [5, 3], [6], [7]⟩, ⟨[0, 1, 2, 3, 4, 5], [], [62], [], [], []⟩, ⟨[0, 1, 2, 3, 4, 5, 6], [5, 6], [], [], [0], [8]⟩] [⟨none, (some 7), []⟩, ⟨none, none, []⟩, ⟨none, (some 3), []⟩, ⟨none, none, []⟩, ⟨(some 3), none, []⟩, ⟨(some 4), none, [60]⟩, ⟨none, (some 5), []⟩, ⟨(some 5), none, [61]⟩, ⟨(some 7), none, [61]⟩] [56, 57, 58, 59, 60, 61, 62] [0, 1, 2, 3, 6] [1, 3, 4, 5, 7, 8] [0, 1, 2, 3, 4, 5, 6] [fun Ep16 => Ep16 56 = .pointer (some ⟨b_c8_L15h, 5, none⟩), fun Ep16 => Ep16 57 = .slice A_b_c8_L15h_5_L15h b_c8_L15h_5_L15h.length c_b_c8_L15h_5_L15h, fun Ep16 => Ep16 58 = .pointer (some ⟨b_s0, 0, none⟩), fun Ep16 => Ep16 59 = .int .i64 r16_3.1, fun Ep16 => Ep16 60 = .slice (some ⟨(blkOf (Ep16 60)), 0, none⟩) 1 1, fun Ep16 => Ep16 61 = .slice (adOf (Ep16 61)) z16_5.length (capOf (Ep16 61)), fun Ep16 => Ep16 62 = .pointer (some ⟨b_c8_L15h, 5, none⟩), fun Ep16 => True] [fun Ep16 => cells b_c8_L15h 61 [.string x28, .bool true, .int .i64 x33, .int .u64 0, .int .i64 x36, .slice A_b_c8_L15h_5_L15h b_c8_L15h_5_L15h.length c_b_c8_L15h_5_L15h, .slice A_b_c8_L15h_6_L15h b_c8_L15h_6_L15h.length c_b_c8_L15h_6_L15h, .slice A_b_c8_L15h_7_L15h b_c8_L15h_7_L15h.length c_b_c8_L15h_7_L15h, .int .i64 r13_14.1, .int .i64 r13_16.1, .int .i64 r13_18.1], fun Ep16 => cells b1 23 [.pointer (some ⟨b_s0, 0, none⟩)], fun Ep16 => cells b_s0 25 [.slice A_s0_0 s0.L.length c_s0_0, .int .i64 b_s0_1_L15h], fun Ep16 => ro ρ_L10h, fun Ep16 => cells b_s0 25 [.slice A_s0_0 s0.L.length c_s0_0, .int .i64 r16_3.2], fun Ep16 => cells (blkOf (Ep16 60)) 3 [.int .i64 r16_3.1], fun Ep16 => vec 3 (RpI .i64).sz (.slice A_b_c8_L15h_5_L15h b_c8_L15h_5_L15h.length c_b_c8_L15h_5_L15h) b_c8_L15h_5_L15h.length cs_b_c8_L15h_5_L15h, fun Ep16 => bunA (fun (cs61 : List Value) => RepL (RpI .i64) ρ_L10h z16_5 cs61) (fun (cs61 : List Value) => [vec 3 (RpI .i64).sz (.slice (adOf (Ep16 61)) z16_5.length (capOf (Ep16 61))) z16_5.length cs61]), fun Ep16 => cells b_c8_L15h 61 [.string x28, .bool true, .int .i64 x33, .int .u64 0, .int .i64 x36, .slice (adOf (Ep16 61)) z16_5.length (capOf (Ep16 61)), .slice A_b_c8_L15h_6_L15h b_c8_L15h_6_L15h.length c_b_c8_L15h_6_L15h, .slice A_b_c8_L15h_7_L15h b_c8_L15h_7_L15h.length c_b_c8_L15h_7_L15h, .int .i64 r13_14.1, .int .i64 r13_16.1, .int .i64 r13_18.1]] mixed (by kernel_rfl) (((((hS.pull 6).pull 9).pull 6).pull 3).pull 5) ?_ ?_
          · refine ⟨?_, ?_, ?_, ?_, ?_, ?_, ?_, ?_, trivial⟩
            · intro Ep16 w l' hE16 hO16 hF_ hS
              refine p (yl_field0 fld_61_5 ((hE16 8 rfl).trans eL15h_8)) <| x_done <|
                ?_
              refine x_fin ⟨⟨_, rfl⟩, rfl, ?_⟩
              exact Eq.mp (by kernel_rfl) hS
            · intro Ep16 w l' hE16 hO16 hF_ hS
              obtain ⟨f16_0, -⟩ := hF_
              replace f16_0 : Ep16 56 = .pointer (some ⟨b_c8_L15h, 5, none⟩) := Eq.mp (by kernel_rfl) f16_0
              replace hS : St w0 w (cells b_c8_L15h 61 [.string x28, .bool true, .int .i64 x33, .int .u64 0, .int .i64 x36, .slice A_b_c8_L15h_5_L15h b_c8_L15h_5_L15h.length c_b_c8_L15h_5_L15h, .slice A_b_c8_L15h_6_L15h b_c8_L15h_6_L15h.length c_b_c8_L15h_6_L15h, .slice A_b_c8_L15h_7_L15h b_c8_L15h_7_L15h.length c_b_c8_L15h_7_L15h, .int .i64 r13_14.1, .int .i64 r13_16.1, .int .i64 r13_18.1] :: l') := Eq.mp (by kernel_rfl) hS
              refine pa (at_load one_22 f16_0 (hS.cell rfl)) <| x_done <|
                ?_
              refine x_fin ⟨⟨_, rfl⟩, rfl, ?_⟩
              exact Eq.mp (by kernel_rfl) hS
            · intro Ep16 w l' hE16 hO16 hF_ hS
              replace hS : St w0 w (cells b1 23 [.pointer (some ⟨b_s0, 0, none⟩)] :: l') := Eq.mp (by kernel_rfl) hS
              refine pa (at_load one_23 ((hE16 1 rfl).trans eL15h_1) (hS.cell rfl)) <| x_done <|
                ?_
              refine x_fin ⟨⟨_, rfl⟩, rfl, ?_⟩
              exact Eq.mp (by kernel_rfl) hS
            · intro Ep16 w l' hE16 hO16 hF_ hS
              obtain ⟨f16_2, -⟩ := hF_
              replace f16_2 : Ep16 58 = .pointer (some ⟨b_s0, 0, none⟩) := Eq.mp (by kernel_rfl) f16_2
              replace hS : St w0 w (ro ρ_L10h :: cells b_s0 25 [.slice A_s0_0 s0.L.length c_s0_0, .int .i64 b_s0_1_L15h] :: l') := Eq.mp (by kernel_rfl) hS
              have hcall := c_maskmake_Stream_Range hc16_3 (h_s0_0.le ((((((hle3_1.trans hle4_1).trans hle5_1).trans hle6_1).trans hle7_1).trans hle8_1).trans hleρ_L10h)) (hS.pull 1)
              refine o_cc call_20 (args3 f16_2 rfl rfl) hcall ?_
              rintro e w' ⟨rfl, hS⟩
              refine ⟨_, rfl, ?_⟩
              refine x_done <|
                ?_
              refine x_fin ⟨⟨_, rfl⟩, rfl, ?_⟩
              exact Eq.mp (by kernel_rfl) (hS.pull 1)
            · intro Ep16 w l' hE16 hO16 hF_ hS
              obtain ⟨f16_3, -⟩ := hF_
              replace f16_3 : Ep16 59 = .int .i64 r16_3.1 := Eq.mp (by kernel_rfl) f16_3
              refine o_buildSlice (vs := [.int .i64 r16_3.1]) (cs := [.int .i64 r16_3.1]) sl_22 zero_3 (parts_eq (pt (va := .int .i64 r16_3.1) f16_3 pt0)) rfl (by intro v hv; simp only [List.mem_cons, List.not_mem_nil, or_false] at hv; first | (subst hv; rfl) | (rcases hv with rfl <;> rfl)) (by decide) rfl hS (fun b60 w' hS => ?_)
              refine x_done <|
                ?_
              refine x_fin ⟨⟨_, rfl⟩, rfl, ?_⟩
              exact Eq.mp (by kernel_rfl) hS
            · intro Ep16 w l' hE16 hO16 hF_ hS
              obtain ⟨f16_1, f16_4, -⟩ := hF_
              replace f16_1 : Ep16 57 = .slice A_b_c8_L15h_5_L15h b_c8_L15h_5_L15h.length c_b_c8_L15h_5_L15h := Eq.mp (by kernel_rfl) f16_1
              replace f16_4 : Ep16 60 = .slice (some ⟨(blkOf (Ep16 60)), 0, none⟩) 1 1 := Eq.mp (by kernel_rfl) f16_4
              replace hS : St w0 w (cells (blkOf (Ep16 60)) 3 [.int .i64 r16_3.1] :: ro ρ_L10h :: vec 3 (RpI .i64).sz (.slice A_b_c8_L15h_5_L15h b_c8_L15h_5_L15h.length c_b_c8_L15h_5_L15h) b_c8_L15h_5_L15h.length cs_b_c8_L15h_5_L15h :: l') := Eq.mp (by kernel_rfl) hS
              refine o_ap sl_22 zero_3 rfl (by decide) f16_1 f16_4 (hS.pull 2) h_b_c8_L15h_5_L15h (src_blk usl_22 hS rfl rfl) (RepL.cons (R := (RpI .i64)) (ρ := ρ_L10h) (x := r16_3.1) (cs := [.int .i64 r16_3.1]) rfl RepL.nil) hz16_5 hk16_5 (fun A61 c61 cs61 w' hr61 hS => ?_)
              refine x_done <|
                ?_
              refine x_fin ⟨⟨_, rfl⟩, rfl, ?_⟩
              replace hS := St.bun (Φ := (fun (cs61 : List Value) => RepL (RpI .i64) ρ_L10h z16_5 cs61)) (L := (fun (cs61 : List Value) => [vec 3 (RpI .i64).sz (.slice A61 z16_5.length c61) z16_5.length cs61])) cs61 hr61 hS
              exact Eq.mp (by kernel_rfl) ((hS.pull 2).pull 2)
            · intro Ep16 w l' hE16 hO16 hF_ hS
              refine p (yl_field0 fld_61_5 ((hE16 8 rfl).trans eL15h_8)) <| x_done <|
                ?_
              refine x_fin ⟨⟨_, rfl⟩, rfl, ?_⟩
              exact Eq.mp (by kernel_rfl) hS
            · intro Ep16 w l' hE16 hO16 hF_ hS
              obtain ⟨f16_5, f16_6, -⟩ := hF_
              replace f16_5 : Ep16 61 = .slice (adOf (Ep16 61)) z16_5.length (capOf (Ep16 61)) := Eq.mp (by kernel_rfl) f16_5
              replace f16_6 : Ep16 62 = .pointer (some ⟨b_c8_L15h, 5, none⟩) := Eq.mp (by kernel_rfl) f16_6
              replace hS : St w0 w (cells b_c8_L15h 61 [.string x28, .bool true, .int .i64 x33, .int .u64 0, .int .i64 x36, .slice A_b_c8_L15h_5_L15h b_c8_L15h_5_L15h.length c_b_c8_L15h_5_L15h, .slice A_b_c8_L15h_6_L15h b_c8_L15h_6_L15h.length c_b_c8_L15h_6_L15h, .slice A_b_c8_L15h_7_L15h b_c8_L15h_7_L15h.length c_b_c8_L15h_7_L15h, .int .i64 r13_14.1, .int .i64 r13_16.1, .int .i64 r13_18.1] :: l') := Eq.mp (by kernel_rfl) hS
              refine o_store1 (v := .slice (adOf (Ep16 61)) z16_5.length (capOf (Ep16 61))) one_22 f16_6 f16_5 rfl rfl hS (fun w' hS => ?_)
              refine x_done <|
                ?_
              refine x_fin ⟨⟨undef, rfl⟩, trivial, ?_⟩
              exact Eq.mp (by kernel_rfl) hS
          intro Ep16 w' hE16 hF_ hS
          obtain ⟨f16_0, f16_1, f16_2, f16_3, f16_4, f16_5, f16_6, -⟩ := hF_
          replace f16_0 : Ep16 56 = .pointer (some ⟨b_c8_L15h, 5, none⟩) := Eq.mp (by kernel_rfl) f16_0
          replace f16_1 : Ep16 57 = .slice A_b_c8_L15h_5_L15h b_c8_L15h_5_L15h.length c_b_c8_L15h_5_L15h := Eq.mp (by kernel_rfl) f16_1
          replace f16_2 : Ep16 58 = .pointer (some ⟨b_s0, 0, none⟩) := Eq.mp (by kernel_rfl) f16_2
          replace f16_3 : Ep16 59 = .int .i64 r16_3.1 := Eq.mp (by kernel_rfl) f16_3
          replace f16_4 : Ep16 60 = .slice (some ⟨(blkOf (Ep16 60)), 0, none⟩) 1 1 := Eq.mp (by kernel_rfl) f16_4
          replace f16_5 : Ep16 61 = .slice (adOf (Ep16 61)) z16_5.length (capOf (Ep16 61)) := Eq.mp (by kernel_rfl) f16_5
          replace f16_6 : Ep16 62 = .pointer (some ⟨b_c8_L15h, 5, none⟩) := Eq.mp (by kernel_rfl) f16_6
          replace hS : St w0 w' (cells b1 23 [.pointer (some ⟨b_s0, 0, none⟩)] :: ro ρ_L10h :: cells b_s0 25 [.slice A_s0_0 s0.L.length c_s0_0, .int .i64 r16_3.2] :: cells (blkOf (Ep16 60)) 3 [.int .i64 r16_3.1] :: bunA (fun (cs61 : List Value) => RepL (RpI .i64) ρ_L10h z16_5 cs61) (fun (cs61 : List Value) => [vec 3 (RpI .i64).sz (.slice (adOf (Ep16 61)) z16_5.length (capOf (Ep16 61))) z16_5.length cs61]) :: cells b_c8_L15h 61 [.string x28, .bool true, .int .i64 x33, .int .u64 0, .int .i64 x36, .slice (adOf (Ep16 61)) z16_5.length (capOf (Ep16 61)), .slice A_b_c8_L15h_6_L15h b_c8_L15h_6_L15h.length c_b_c8_L15h_6_L15h, .slice A_b_c8_L15h_7_L15h b_c8_L15h_7_L15h.length c_b_c8_L15h_7_L15h, .int .i64 r13_14.1, .int .i64 r13_16.1, .int .i64 r13_18.1] :: (cells b3 31 [.slice A_b3_0_L10h b3_0_L10h.length c_b3_0_L10h] :: vec 9 RpS.sz (.slice A_y22_L10h y22_L10h.length c_y22_L10h) y22_L10h.length cs_y22_L10h :: vec 61 R_api_Cell.sz (.slice A_b3_0_L10h b3_0_L10h.length c_b3_0_L10h) b3_0_L10h.length cs_b3_0_L10h :: vec 3 (RpI .i64).sz (.slice A_b_c8_L15h_6_L15h b_c8_L15h_6_L15h.length c_b_c8_L15h_6_L15h) b_c8_L15h_6_L15h.length cs_b_c8_L15h_6_L15h :: vec 3 (RpI .i64).sz (.slice A_b_c8_L15h_7_L15h b_c8_L15h_7_L15h.length c_b_c8_L15h_7_L15h) b_c8_L15h_7_L15h.length cs_b_c8_L15h_7_L15h :: l)) := Eq.mp (by kernel_rfl) hS
          have q_ := St.unbun (hS.pull 4); obtain ⟨cs61, hr61, hS⟩ := q_
          replace hFL15 := ar_s hFL15; obtain ⟨x63, hx63, hFL15⟩ := hFL15
          refine x_blk <| x_region <| p (yadd ((hE16 54 rfl).trans eL15h_54) rfl hx63) <| p (yl_move rfl) <|
            x_done <|
            ?_
          have e_ := Option.some.inj (show some _ = some _ from hFL15); subst e_
          exact x_inv ⟨kL15, Nat.lt_succ_self _, b_c8_L15h, (adOf (Ep16 61)), z16_5.length, (capOf (Ep16 61)), cs61, A_b_c8_L15h_6_L15h, b_c8_L15h_6_L15h.length, c_b_c8_L15h_6_L15h, cs_b_c8_L15h_6_L15h, A_b_c8_L15h_7_L15h, b_c8_L15h_7_L15h.length, c_b_c8_L15h_7_L15h, cs_b_c8_L15h_7_L15h, x63, z16_5, b_c8_L15h_6_L15h, b_c8_L15h_7_L15h, r16_3.2, hLL15, ((hE16 1 rfl).trans eL15h_1), ((hE16 3 rfl).trans eL15h_3), ((hE16 8 rfl).trans eL15h_8), ((hE16 22 rfl).trans eL15h_22), ((hE16 23 rfl).trans eL15h_23), ((hE16 24 rfl).trans eL15h_24), ((hE16 53 rfl).trans eL15h_53), rfl, hr61, h_b_c8_L15h_6_L15h, h_b_c8_L15h_7_L15h, (((((((((((hS.pull 4).drop.pull 2).pull 9).pull 9).pull 3).pull 9).pull 6).pull 9).pull 8).pull 9).pull 9)⟩
        · replace hFL15 := it_f hc55 hFL15
          refine x_exitTo _ rfl <|
            ?_
          have e_ := Option.some.inj (show some _ = some _ from hFL15); subst e_
          exact x_inv ⟨b_c8_L15h, A_b_c8_L15h_5_L15h, b_c8_L15h_5_L15h.length, c_b_c8_L15h_5_L15h, cs_b_c8_L15h_5_L15h, A_b_c8_L15h_6_L15h, b_c8_L15h_6_L15h.length, c_b_c8_L15h_6_L15h, cs_b_c8_L15h_6_L15h, A_b_c8_L15h_7_L15h, b_c8_L15h_7_L15h.length, c_b_c8_L15h_7_L15h, cs_b_c8_L15h_7_L15h, b_c8_L15h_5_L15h, b_c8_L15h_6_L15h, b_c8_L15h_7_L15h, b_s0_1_L15h, hLL15, eL15h_1, eL15h_3, eL15h_8, eL15h_22, eL15h_23, eL15h_24, h_b_c8_L15h_5_L15h, h_b_c8_L15h_6_L15h, h_b_c8_L15h_7_L15h, ((((((((((hS.pull 9).pull 9).pull 9).pull 9).pull 9).pull 9).pull 9).pull 9).pull 9).pull 9)⟩
      rintro E w ⟨b_c8_L15, A_b_c8_L15_5_L15, n_b_c8_L15_5_L15, c_b_c8_L15_5_L15, cs_b_c8_L15_5_L15, A_b_c8_L15_6_L15, n_b_c8_L15_6_L15, c_b_c8_L15_6_L15, cs_b_c8_L15_6_L15, A_b_c8_L15_7_L15, n_b_c8_L15_7_L15, c_b_c8_L15_7_L15, cs_b_c8_L15_7_L15, b_c8_L15_5_L15, b_c8_L15_6_L15, b_c8_L15_7_L15, b_s0_1_L15, rfl, eL15_1, eL15_3, eL15_8, eL15_22, eL15_23, eL15_24, h_b_c8_L15_5_L15, h_b_c8_L15_6_L15, h_b_c8_L15_7_L15, hS⟩
      have e_ := St.vec_n (hS.pull 6) h_b_c8_L15_5_L15; subst e_
      have e_ := St.vec_n (hS.pull 7) h_b_c8_L15_6_L15; subst e_
      have e_ := St.vec_n (hS.pull 8) h_b_c8_L15_7_L15; subst e_
      refine x_region <| pa (at_load one_31 eL15_3 ((hS.pull 1).cell rfl)) <| pa (v := .agg #[.string x28, .bool true, .int .i64 x33, .int .u64 0, .int .i64 x36, .slice A_b_c8_L15_5_L15 b_c8_L15_5_L15.length c_b_c8_L15_5_L15, .slice A_b_c8_L15_6_L15 b_c8_L15_6_L15.length c_b_c8_L15_6_L15, .slice A_b_c8_L15_7_L15 b_c8_L15_7_L15.length c_b_c8_L15_7_L15, .int .i64 r13_14.1, .int .i64 r13_16.1, .int .i64 r13_18.1]) (ld_sub agg_61 eL15_8 rfl rfl (hS.pull 2)) <|
        ?_
      have q_ := St.vec_fz ((hS.pull 9).pull 7) h_b_c8_L15_5_L15; obtain ⟨ρz18_2, hlez18_2, fz18_2, hS⟩ := q_
      have q_ := St.vec_fz (hS.pull 7) (h_b_c8_L15_6_L15.le hlez18_2); obtain ⟨ρz18_2a, hlez18_2a, fz18_2a, hS⟩ := q_
      have q_ := St.vec_fz (hS.pull 7) (h_b_c8_L15_7_L15.le (hlez18_2.trans hlez18_2a)); obtain ⟨ρz18_2b, hlez18_2b, fz18_2b, hS⟩ := q_
      refine o_buildSlice (vs := [.agg #[.string x28, .bool true, .int .i64 x33, .int .u64 0, .int .i64 x36, .slice A_b_c8_L15_5_L15 b_c8_L15_5_L15.length c_b_c8_L15_5_L15, .slice A_b_c8_L15_6_L15 b_c8_L15_6_L15.length c_b_c8_L15_6_L15, .slice A_b_c8_L15_7_L15 b_c8_L15_7_L15.length c_b_c8_L15_7_L15, .int .i64 r13_14.1, .int .i64 r13_16.1, .int .i64 r13_18.1]]) (cs := [.string x28, .bool true, .int .i64 x33, .int .u64 0, .int .i64 x36, .slice A_b_c8_L15_5_L15 b_c8_L15_5_L15.length c_b_c8_L15_5_L15, .slice A_b_c8_L15_6_L15 b_c8_L15_6_L15.length c_b_c8_L15_6_L15, .slice A_b_c8_L15_7_L15 b_c8_L15_7_L15.length c_b_c8_L15_7_L15, .int .i64 r13_14.1, .int .i64 r13_16.1, .int .i64 r13_18.1]) sl_31 zero_61 (parts_eq (pt (va := .agg #[.string x28, .bool true, .int .i64 x33, .int .u64 0, .int .i64 x36, .slice A_b_c8_L15_5_L15 b_c8_L15_5_L15.length c_b_c8_L15_5_L15, .slice A_b_c8_L15_6_L15 b_c8_L15_6_L15.length c_b_c8_L15_6_L15, .slice A_b_c8_L15_7_L15 b_c8_L15_7_L15.length c_b_c8_L15_7_L15, .int .i64 r13_14.1, .int .i64 r13_16.1, .int .i64 r13_18.1]) rfl pt0)) rfl (by intro v hv; simp only [List.mem_cons, List.not_mem_nil, or_false] at hv; first | (subst hv; rfl) | (rcases hv with rfl <;> rfl)) (by decide) rfl hS (fun b66 w' hS => ?_)
      replace hFL10 := lv_s hFL10; obtain ⟨z18_3, hz18_3, hFL10⟩ := hFL10
      replace hFL10 := ck_s hFL10; obtain ⟨hk18_3, hFL10⟩ := hFL10
      refine o_ap sl_31 zero_61 rfl (by decide) rfl rfl (hS.pull 7) (h_b3_0_L10h.le ((hlez18_2.trans hlez18_2a).trans hlez18_2b)) (src_blk usl_31 hS rfl rfl) (RepL.cons (R := R_api_Cell) (ρ := ρz18_2b) (x := (T_api_Cell.mk x28 true x33 0 x36 b_c8_L15_5_L15 b_c8_L15_6_L15 b_c8_L15_7_L15 r13_14.1 r13_16.1 r13_18.1)) (cs := [.string x28, .bool true, .int .i64 x33, .int .u64 0, .int .i64 x36, .slice A_b_c8_L15_5_L15 b_c8_L15_5_L15.length c_b_c8_L15_5_L15, .slice A_b_c8_L15_6_L15 b_c8_L15_6_L15.length c_b_c8_L15_6_L15, .slice A_b_c8_L15_7_L15 b_c8_L15_7_L15.length c_b_c8_L15_7_L15, .int .i64 r13_14.1, .int .i64 r13_16.1, .int .i64 r13_18.1]) ⟨_, _, _, _, _, _, _, _, _, rfl, (fz18_2.le (hlez18_2a.trans hlez18_2b)), (fz18_2a.le hlez18_2b), fz18_2b⟩ RepL.nil) hz18_3 hk18_3 (fun A67 c67 cs67 w' hr67 hS => ?_)
      refine o_store1 (v := .slice A67 z18_3.length c67) one_31 eL15_3 rfl rfl rfl (hS.pull 4) (fun w' hS => ?_)
      replace hFL10 := ar_s hFL10; obtain ⟨x68, hx68, hFL10⟩ := hFL10
      refine x_done <| x_blk <| x_region <| p (yadd eL15_24 rfl hx68) <|
        p (yl_move rfl) <| x_done <|
        ?_
      have e_ := Option.some.inj (show some _ = some _ from hFL10); subst e_
      exact x_inv ⟨kL10, Nat.lt_succ_self _, ρz18_2b, A_y22_L10h, y22_L10h.length, c_y22_L10h, cs_y22_L10h, A67, z18_3.length, c67, cs67, y22_L10h, x68, z18_3, b_s0_1_L15, hLL10, (((hleρ_L10h.trans hlez18_2).trans hlez18_2a).trans hlez18_2b), eL15_1, eL15_3, eL15_22, eL15_23, rfl, (h_y22_L10h.le ((hlez18_2.trans hlez18_2a).trans hlez18_2b)), hr67, ((((((((hS.pull 2).drop.pull 4).drop.pull 2).pull 2).pull 5).pull 5).pull 4).pull 5)⟩
    · replace hFL10 := it_f hc25 hFL10
      refine x_exitTo _ rfl <|
        ?_
      have e_ := Option.some.inj (show some _ = some _ from hFL10); subst e_
      exact x_inv ⟨ρ_L10h, A_b3_0_L10h, b3_0_L10h.length, c_b3_0_L10h, cs_b3_0_L10h, b3_0_L10h, b_s0_1_L10h, hLL10, hleρ_L10h, eL10h_3, h_b3_0_L10h, (((((hS.drop.pull 1).drop.pull 3).pull 3).pull 3).pull 3)⟩
  rintro E w ⟨ρ_L10, A_b3_0_L10, n_b3_0_L10, c_b3_0_L10, cs_b3_0_L10, b3_0_L10, b_s0_1_L10, rfl, hleρ_L10, eL10_3, h_b3_0_L10, hS⟩
  have e_ := St.vec_n (hS.pull 2) h_b3_0_L10; subst e_
  refine x_seq <| x_region <| pa (at_load one_31 eL10_3 (hS.cell rfl)) <| p (yl_assign rfl) <|
    x_done <|
    ?_
  have e_ := Option.some.inj (show some _ = some _ from hF); subst e_
  exact x_return ⟨_, ⟨_, _, rfl, rfl, rfl⟩, ρ_L10, A_b3_0_L10, b3_0_L10.length, c_b3_0_L10, cs_b3_0_L10, rfl, ((((((hle3_1.trans hle4_1).trans hle5_1).trans hle6_1).trans hle7_1).trans hle8_1).trans hleρ_L10), h_b3_0_L10, (((hS.drop.pull 2).pull 1).pull 2)⟩
attribute [irreducible] P_maskmake_Stream_LayLib

def P_strconv_Itoa (i0 : Int) : Option ByteArray := ck (0 ≤ i0 ∧ i0 < 100) <| some (itoa i0)
theorem c_strconv_Itoa {w0 w : World} {l : List Assn} {ρ : Heap} {i0 : Int} {r : ByteArray} (hF : P_strconv_Itoa i0 = some r) (hS : St w0 w (ro ρ :: l)) :
    Calls Tryd.prog 66 #[.int .i64 i0] w fun e w' => e = .returned (.string r) ∧ St w0 w' (ro ρ :: l) := by
  obtain ⟨h, hF⟩ := ck_s hF
  cases hF
  obtain ⟨k, rfl⟩ := Int.eq_ofNat_of_zero_le h.1
  refine (Tryd.strconv_Itoa_small k (by omega) w).mono ?_
  rintro e w' ⟨rfl, rfl⟩
  exact ⟨rfl, hS⟩
attribute [irreducible] P_strconv_Itoa

def P_maskmake_Stream_Placed_1 (most0 : Int) (v1_0 : T_maskmake_Stream) : Option (Int × Int) :=
  bd (P_maskmake_Stream_Next v1_0 3) fun r1_1 =>
  if 0 < r1_1.1 then
    ar (most0 - 1) fun x8 =>
    lv (min most0 4) fun x11 =>
    bd (P_maskmake_Stream_Next (T_maskmake_Stream.mk v1_0.L r1_1.2) x11) fun r2_5 =>
    ar (x8 - r2_5.1) fun x13 =>
    some (x13, r2_5.2)
  else
    bd (P_maskmake_Stream_Next (T_maskmake_Stream.mk v1_0.L r1_1.2) most0) fun r3_2 =>
    some (r3_2.1, r3_2.2)
set_option maxHeartbeats 4000000 in
set_option maxRecDepth 100000 in
theorem c_maskmake_Stream_Placed_1 {w0 w : World} {l : List Assn} {ρ : Heap} {b_v1 : Nat} {b_v1_0 : Nat} {A_v1_0_0 : Option Addr} {n_v1_0_0 : Nat} {c_v1_0_0 : Nat} {most0 : Int} {v1_0 : T_maskmake_Stream} {r : (Int × Int)} (hF : P_maskmake_Stream_Placed_1 most0 v1_0 = some r) (h_v1_0_0 : RdS (RpI .i64) ρ A_v1_0_0 n_v1_0_0 c_v1_0_0 v1_0.L) (hS : St w0 w (cells b_v1 23 [.pointer (some ⟨b_v1_0, 0, none⟩)] :: cells b_v1_0 25 [.slice A_v1_0_0 n_v1_0_0 c_v1_0_0, .int .i64 v1_0.fat] :: ro ρ :: l)) :
    Calls Tryd.prog 67 #[.int .i64 most0, .pointer (some ⟨b_v1, 0, none⟩)] w fun e w' => e = .returned (.int .i64 r.1) ∧ St w0 w' (cells b_v1_0 25 [.slice A_v1_0_0 n_v1_0_0 c_v1_0_0, .int .i64 r.2] :: cells b_v1 23 [.pointer (some ⟨b_v1_0, 0, none⟩)] :: ro ρ :: l) := by
  have e_ := h_v1_0_0.n; subst e_
  refine enterC Tryd.func67 rfl 17 rfl (by simp) ?_
  replace hF := bd_s hF; obtain ⟨r1_1, hc1_1, hF⟩ := hF
  refine x_seq <| x_region <| p (yl_assign rfl) <| x_done <|
    x_seq <| x_seq <| x_region <| pa (at_load one_23 rfl (hS.cell rfl)) <|
    ?_
  have hcall := c_maskmake_Stream_Next hc1_1 h_v1_0_0 ((hS.pull 2).pull 2)
  refine o_cc call_14 (args2 rfl rfl) hcall ?_
  rintro e w' ⟨rfl, hS⟩
  refine ⟨_, rfl, ?_⟩
  refine p (yl_gtr rfl rfl) <| x_done <|
    x_cond_p (0 < r1_1.1) rfl (fun hc6 => ?_) (fun hc6 => ?_)
  · replace hF := it_t hc6 hF
    replace hF := ar_s hF; obtain ⟨x8, hx8, hF⟩ := hF
    replace hF := lv_s hF; obtain ⟨x11, hx11, hF⟩ := hF
    replace hF := bd_s hF; obtain ⟨r2_5, hc2_5, hF⟩ := hF
    refine x_seq <| x_region <| p (yl_move rfl) <| p (ysub rfl rfl hx8) <|
      pa (at_load one_23 rfl ((hS.pull 2).cell rfl)) <| p (yl_move rfl) <| p (ymin' rfl rfl hx11) <|
      ?_
    have hcall := c_maskmake_Stream_Next hc2_5 h_v1_0_0 ((hS.pull 1).pull 1)
    refine o_cc call_14 (args2 rfl rfl) hcall ?_
    rintro e w' ⟨rfl, hS⟩
    refine ⟨_, rfl, ?_⟩
    replace hF := ar_s hF; obtain ⟨x13, hx13, hF⟩ := hF
    refine p (ysub rfl rfl hx13) <| p (yl_assign rfl) <| x_done <|
      ?_
    have e_ := Option.some.inj (show some _ = some _ from hF); subst e_
    exact x_return ⟨_, ⟨_, _, rfl, rfl, rfl⟩, rfl, (((hS.pull 1).pull 2).pull 2)⟩
  · replace hF := it_f hc6 hF
    replace hF := bd_s hF; obtain ⟨r3_2, hc3_2, hF⟩ := hF
    refine x_skip <| x_seq <| x_region <| pa (at_load one_23 rfl ((hS.pull 2).cell rfl)) <|
      p (yl_move rfl) <|
      ?_
    have hcall := c_maskmake_Stream_Next hc3_2 h_v1_0_0 ((hS.pull 1).pull 1)
    refine o_cc call_14 (args2 rfl rfl) hcall ?_
    rintro e w' ⟨rfl, hS⟩
    refine ⟨_, rfl, ?_⟩
    refine p (yl_assign rfl) <| x_done <|
      ?_
    have e_ := Option.some.inj (show some _ = some _ from hF); subst e_
    exact x_return ⟨_, ⟨_, _, rfl, rfl, rfl⟩, rfl, (((hS.pull 1).pull 2).pull 2)⟩
attribute [irreducible] P_maskmake_Stream_Placed_1

def P_maskmake_Stream_Flip (s0 : T_maskmake_Stream) (n1 : Int) : Option (Bool × Int) :=
  bd (P_maskmake_Stream_Next s0 n1) fun r1_2 =>
  some (decide (r1_2.1 = 0), r1_2.2)
set_option maxHeartbeats 4000000 in
set_option maxRecDepth 100000 in
theorem c_maskmake_Stream_Flip {w0 w : World} {l : List Assn} {ρ : Heap} {b_s0 : Nat} {A_s0_0 : Option Addr} {n_s0_0 : Nat} {c_s0_0 : Nat} {s0 : T_maskmake_Stream} {n1 : Int} {r : (Bool × Int)} (hF : P_maskmake_Stream_Flip s0 n1 = some r) (h_s0_0 : RdS (RpI .i64) ρ A_s0_0 n_s0_0 c_s0_0 s0.L) (hS : St w0 w (cells b_s0 25 [.slice A_s0_0 n_s0_0 c_s0_0, .int .i64 s0.fat] :: ro ρ :: l)) :
    Calls Tryd.prog 68 #[.pointer (some ⟨b_s0, 0, none⟩), .int .i64 n1] w fun e w' => e = .returned (.bool r.1) ∧ St w0 w' (cells b_s0 25 [.slice A_s0_0 n_s0_0 c_s0_0, .int .i64 r.2] :: ro ρ :: l) := by
  have e_ := h_s0_0.n; subst e_
  refine enterC Tryd.func68 rfl 9 rfl (by simp) ?_
  replace hF := bd_s hF; obtain ⟨r1_2, hc1_2, hF⟩ := hF
  refine x_seq <| x_region <| p (yl_assign rfl) <| x_done <|
    x_seq <| x_region <| p (yl_move rfl) <| p (yl_move rfl) <|
    ?_
  have hcall := c_maskmake_Stream_Next hc1_2 h_s0_0 ((hS.pull 1).pull 1)
  refine o_cc call_14 (args2 rfl rfl) hcall ?_
  rintro e w' ⟨rfl, hS⟩
  refine ⟨_, rfl, ?_⟩
  refine p (yl_eql rfl rfl) <| p (yl_assign rfl) <| x_done <|
    ?_
  have e_ := Option.some.inj (show some _ = some _ from hF); subst e_
  exact x_return ⟨_, ⟨_, _, rfl, rfl, rfl⟩, rfl, ((hS.pull 1).pull 1)⟩
attribute [irreducible] P_maskmake_Stream_Flip

def P_maskmake_Stream_Placed_L3 (ins2 : Int) : (Int × List ByteArray) → Option ((Int × List ByteArray) ⊕ List ByteArray) := fun (y24_L3h, b13_0_L3h) =>
  if y24_L3h < ins2 then
    bd (P_strconv_Itoa y24_L3h) fun r5_3 =>
    ck ((⟨#[105]⟩ : ByteArray).size + r5_3.size ≤ 140737488355328) <|
    lv (b13_0_L3h ++ [(⟨#[105]⟩ : ByteArray) ++ r5_3]) fun z5_6 =>
    ck (apOk 16 z5_6.length) <|
    ar (y24_L3h + 1) fun x35 =>
    some (Sum.inl (x35, z5_6))
  else
    some (Sum.inr b13_0_L3h)
def P_maskmake_Stream_Placed_L15 (s0 : T_maskmake_Stream) (x39 : Int) (y14_4 : T_api_Cell) (y42_L10h : Int) : (Int × List Int × Int) → Option ((Int × List Int × Int) ⊕ (List Int × Int)) := fun (y59_L15h, b19_2_L15h, b_s0_1_L15h) =>
  if y59_L15h < y14_4.Ins then
    ar (x39 + y42_L10h) fun x66 =>
    bd (P_maskmake_Stream_Placed_1 x66 (T_maskmake_Stream.mk s0.L b_s0_1_L15h)) fun r16_6 =>
    lv (b19_2_L15h ++ [r16_6.1]) fun z16_8 =>
    ck (apOk 8 z16_8.length) <|
    ar (y59_L15h + 1) fun x71 =>
    some (Sum.inl (x71, z16_8, r16_6.2))
  else
    some (Sum.inr (b19_2_L15h, b_s0_1_L15h))
def P_maskmake_Stream_Placed_L10 (s0 : T_maskmake_Stream) (l_1 : List T_api_Cell) (gates4 : Int) (x39 : Int) : (Int × List T_api_Gate × Int) → Option ((Int × List T_api_Gate × Int) ⊕ (List T_api_Gate × Int)) := fun (y42_L10h, b13_3_L10h, b_s0_1_L10h) =>
  if y42_L10h < gates4 then
    bd (P_maskmake_Stream_Next (T_maskmake_Stream.mk s0.L b_s0_1_L10h) 6) fun r12_1 =>
    ck (inb r12_1.1 l_1.length) <|
    lv (gt l_1 r12_1.1) fun y13_5 =>
    ck (inb r12_1.1 l_1.length) <|
    lv (gt l_1 r12_1.1) fun y14_4 =>
    bd (
      lp (P_maskmake_Stream_Placed_L15 s0 x39 y14_4 y42_L10h) fuel (0, [], r12_1.2)) fun (b19_2_L15, b_s0_1_L15) =>
    lv (b13_3_L10h ++ [(T_api_Gate.mk r12_1.1 y13_5.Table b19_2_L15)]) fun z18_4 =>
    ck (apOk 40 z18_4.length) <|
    ar (y42_L10h + 1) fun x78 =>
    some (Sum.inl (x78, z18_4, b_s0_1_L15))
  else
    some (Sum.inr (b13_3_L10h, b_s0_1_L10h))
def P_maskmake_Stream_Placed_L21 (s0 : T_maskmake_Stream) (flops3 : Int) (gates4 : Int) (x39 : Int) : (Int × List T_api_Flop × Int) → Option ((Int × List T_api_Flop × Int) ⊕ (List T_api_Flop × Int)) := fun (y80_L21h, b13_2_L21h, b_s0_1_L21h) =>
  if y80_L21h < flops3 then
    bd (P_strconv_Itoa y80_L21h) fun r23_1 =>
    ck ((⟨#[102]⟩ : ByteArray).size + r23_1.size ≤ 140737488355328) <|
    ar (x39 + gates4) fun x89 =>
    bd (P_maskmake_Stream_Placed_1 x89 (T_maskmake_Stream.mk s0.L b_s0_1_L21h)) fun r23_7 =>
    bd (P_maskmake_Stream_Flip (T_maskmake_Stream.mk s0.L r23_7.2) 2) fun r23_9 =>
    bd (P_maskmake_Stream_Flip (T_maskmake_Stream.mk s0.L r23_9.2) 2) fun r24_1 =>
    bd (
      if r24_1.1 = true then
        bd (P_maskmake_Stream_Next (T_maskmake_Stream.mk s0.L r24_1.2) 4) fun r26_1 =>
        bd (
          if 0 < r26_1.1 then
            ar (x39 + gates4) fun x103 =>
            bd (P_maskmake_Stream_Placed_1 x103 (T_maskmake_Stream.mk s0.L r26_1.2)) fun r27_4 =>
            some (r27_4.1, r27_4.2)
          else
            some ((1 : Int), r26_1.2)) fun (b_f21_c99_3_c99, b_s0_1_c99) =>
        some ((7 : Int), b_f21_c99_3_c99, b_s0_1_c99)
      else
        some ((6 : Int), (1 : Int), r24_1.2)) fun (b_f21_c95_1_c95, b_f21_c95_3_c95, b_s0_1_c95) =>
    lv (b13_2_L21h ++ [(T_api_Flop.mk ((⟨#[102]⟩ : ByteArray) ++ r23_1) b_f21_c95_1_c95 r23_7.1 b_f21_c95_3_c95 r23_9.1)]) fun z28_4 =>
    ck (apOk 48 z28_4.length) <|
    ar (y80_L21h + 1) fun x112 =>
    some (Sum.inl (x112, z28_4, b_s0_1_c95))
  else
    some (Sum.inr (b13_2_L21h, b_s0_1_L21h))
def P_maskmake_Stream_Placed_L31 (s0 : T_maskmake_Stream) (gates4 : Int) (outs5 : Int) (x39 : Int) : (Int × List ByteArray × List Int × Int) → Option ((Int × List ByteArray × List Int × Int) ⊕ (List ByteArray × List Int × Int)) := fun (y114_L31h, b13_1_L31h, b13_4_L31h, b_s0_1_L31h) =>
  if y114_L31h < outs5 then
    bd (P_strconv_Itoa y114_L31h) fun r33_3 =>
    ck ((⟨#[111]⟩ : ByteArray).size + r33_3.size ≤ 140737488355328) <|
    lv (b13_1_L31h ++ [(⟨#[111]⟩ : ByteArray) ++ r33_3]) fun z33_6 =>
    ck (apOk 16 z33_6.length) <|
    ar (x39 + gates4) fun x129 =>
    bd (P_maskmake_Stream_Placed_1 x129 (T_maskmake_Stream.mk s0.L b_s0_1_L31h)) fun r33_13 =>
    lv (b13_4_L31h ++ [r33_13.1]) fun z33_15 =>
    ck (apOk 8 z33_15.length) <|
    ar (y114_L31h + 1) fun x135 =>
    some (Sum.inl (x135, z33_6, z33_15, r33_13.2))
  else
    some (Sum.inr (b13_1_L31h, b13_4_L31h, b_s0_1_L31h))
def P_maskmake_Stream_Placed (s0 : T_maskmake_Stream) (l_1 : List T_api_Cell) (ins2 : Int) (flops3 : Int) (gates4 : Int) (outs5 : Int) : Option (T_api_Netlist × Int) :=
  bd (
    lp (P_maskmake_Stream_Placed_L3 ins2) fuel (0, [])) fun b13_0_L3 =>
  ar ((2 : Int) + ins2) fun x37 =>
  ar (x37 + flops3) fun x39 =>
  bd (
    lp (P_maskmake_Stream_Placed_L10 s0 l_1 gates4 x39) fuel (0, [], s0.fat)) fun (b13_3_L10, b_s0_1_L10) =>
  bd (
    lp (P_maskmake_Stream_Placed_L21 s0 flops3 gates4 x39) fuel (0, [], b_s0_1_L10)) fun (b13_2_L21, b_s0_1_L21) =>
  bd (
    lp (P_maskmake_Stream_Placed_L31 s0 gates4 outs5 x39) fuel (0, [], [], b_s0_1_L21)) fun (b13_1_L31, b13_4_L31, b_s0_1_L31) =>
  some ((T_api_Netlist.mk b13_0_L3 b13_1_L31 b13_2_L21 b13_3_L10 b13_4_L31), b_s0_1_L31)
set_option maxHeartbeats 4000000 in
set_option maxRecDepth 100000 in
theorem c_maskmake_Stream_Placed {w0 w : World} {l : List Assn} {ρ : Heap} {b_s0 : Nat} {A_s0_0 : Option Addr} {n_s0_0 : Nat} {c_s0_0 : Nat} {A_l_1 : Option Addr} {n_l_1 : Nat} {c_l_1 : Nat} {s0 : T_maskmake_Stream} {l_1 : List T_api_Cell} {ins2 : Int} {flops3 : Int} {gates4 : Int} {outs5 : Int} {r : (T_api_Netlist × Int)} (hF : P_maskmake_Stream_Placed s0 l_1 ins2 flops3 gates4 outs5 = some r) (h_s0_0 : RdS (RpI .i64) ρ A_s0_0 n_s0_0 c_s0_0 s0.L) (h_l_1 : RdS R_api_Cell ρ A_l_1 n_l_1 c_l_1 l_1) (hS : St w0 w (cells b_s0 25 [.slice A_s0_0 n_s0_0 c_s0_0, .int .i64 s0.fat] :: ro ρ :: l)) :
    Calls Tryd.prog 19 #[.pointer (some ⟨b_s0, 0, none⟩), .slice A_l_1 n_l_1 c_l_1, .int .i64 ins2, .int .i64 flops3, .int .i64 gates4, .int .i64 outs5] w fun e w' => ∃ (ρ' : Heap) (A_y0_ret_0 : Option Addr) (n_y0_ret_0 : Nat) (c_y0_ret_0 : Nat) (cs_y0_ret_0 : List Value) (A_y0_ret_1 : Option Addr) (n_y0_ret_1 : Nat) (c_y0_ret_1 : Nat) (cs_y0_ret_1 : List Value) (A_y0_ret_2 : Option Addr) (n_y0_ret_2 : Nat) (c_y0_ret_2 : Nat) (cs_y0_ret_2 : List Value) (A_y0_ret_3 : Option Addr) (n_y0_ret_3 : Nat) (c_y0_ret_3 : Nat) (cs_y0_ret_3 : List Value) (A_y0_ret_4 : Option Addr) (n_y0_ret_4 : Nat) (c_y0_ret_4 : Nat) (cs_y0_ret_4 : List Value), e = .returned (.agg #[.slice A_y0_ret_0 n_y0_ret_0 c_y0_ret_0, .slice A_y0_ret_1 n_y0_ret_1 c_y0_ret_1, .slice A_y0_ret_2 n_y0_ret_2 c_y0_ret_2, .slice A_y0_ret_3 n_y0_ret_3 c_y0_ret_3, .slice A_y0_ret_4 n_y0_ret_4 c_y0_ret_4]) ∧ Le ρ ρ' ∧ RepL RpS ρ' r.1.In cs_y0_ret_0 ∧ RepL RpS ρ' r.1.Out cs_y0_ret_1 ∧ RepL R_api_Flop ρ' r.1.Flops cs_y0_ret_2 ∧ RepL R_api_Gate ρ' r.1.Gates cs_y0_ret_3 ∧ RepL (RpI .i64) ρ' r.1.Outs cs_y0_ret_4 ∧ St w0 w' (vec 9 RpS.sz (.slice A_y0_ret_0 n_y0_ret_0 c_y0_ret_0) n_y0_ret_0 cs_y0_ret_0 :: vec 9 RpS.sz (.slice A_y0_ret_1 n_y0_ret_1 c_y0_ret_1) n_y0_ret_1 cs_y0_ret_1 :: vec 149 R_api_Flop.sz (.slice A_y0_ret_2 n_y0_ret_2 c_y0_ret_2) n_y0_ret_2 cs_y0_ret_2 :: vec 38 R_api_Gate.sz (.slice A_y0_ret_3 n_y0_ret_3 c_y0_ret_3) n_y0_ret_3 cs_y0_ret_3 :: vec 3 (RpI .i64).sz (.slice A_y0_ret_4 n_y0_ret_4 c_y0_ret_4) n_y0_ret_4 cs_y0_ret_4 :: cells b_s0 25 [.slice A_s0_0 n_s0_0 c_s0_0, .int .i64 r.2] :: ro ρ' :: l) := by
  have e_ := h_s0_0.n; subst e_
  have e_ := h_l_1.n; subst e_
  refine enterC Tryd.func19 rfl 137 rfl (by simp) ?_
  refine x_seq <| x_region <|
    ?_
  refine o_box (cs := [.pointer (some ⟨b_s0, 0, none⟩)]) rfl rfl hS (fun b6 w' hS => ?_)
  refine o_alloc zero_30 hS (fun b12 w' hS => ?_)
  refine x_done <| x_seq <| x_region <|
    ?_
  refine o_alloc zero_30 hS (fun b13 w' hS => ?_)
  refine x_done <| x_seq <| x_seq <| x_region <|
    p (yl_move rfl) <| p (yl_move rfl) <| x_done <|
    ?_
  replace hF := bd_s hF; obtain ⟨oL3, hLL3, hF⟩ := hF
  refine x_join (fun E w => ∃ (A_b13_0_L3 : Option Addr) (n_b13_0_L3 : Nat) (c_b13_0_L3 : Nat) (cs_b13_0_L3 : List Value) (b13_0_L3 : List ByteArray), b13_0_L3 = oL3 ∧ E 1 = .slice A_l_1 l_1.length c_l_1 ∧ E 2 = .int .i64 ins2 ∧ E 3 = .int .i64 flops3 ∧ E 4 = .int .i64 gates4 ∧ E 5 = .int .i64 outs5 ∧ E 6 = .pointer (some ⟨b6, 0, none⟩) ∧ E 12 = .pointer (some ⟨b12, 0, none⟩) ∧ E 13 = .pointer (some ⟨b13, 0, none⟩) ∧ RepL RpS ρ b13_0_L3 cs_b13_0_L3 ∧ St w0 w (cells b6 23 [.pointer (some ⟨b_s0, 0, none⟩)] :: cells b12 30 [.slice none 0 0, .slice none 0 0, .slice none 0 0, .slice none 0 0, .slice none 0 0] :: cells b13 30 [.slice A_b13_0_L3 n_b13_0_L3 c_b13_0_L3, .slice none 0 0, .slice none 0 0, .slice none 0 0, .slice none 0 0] :: cells b_s0 25 [.slice A_s0_0 s0.L.length c_s0_0, .int .i64 s0.fat] :: vec 9 RpS.sz (.slice A_b13_0_L3 n_b13_0_L3 c_b13_0_L3) n_b13_0_L3 cs_b13_0_L3 :: ro ρ :: l)) ?_ ?_
  · skip -- L3
    refine x_block ?_
    replace hS := St.vec_nil hS 9 RpS.sz
    have hnil_A_b13_0_L3h : RepL RpS ρ [] [] := rfl
    refine x_loop (fun k_ E w => ∃ (A_b13_0_L3h : Option Addr) (n_b13_0_L3h : Nat) (c_b13_0_L3h : Nat) (cs_b13_0_L3h : List Value) (y24_L3h : Int) (b13_0_L3h : List ByteArray), lp (P_maskmake_Stream_Placed_L3 ins2) k_ (y24_L3h, b13_0_L3h) = some oL3 ∧ E 1 = .slice A_l_1 l_1.length c_l_1 ∧ E 2 = .int .i64 ins2 ∧ E 3 = .int .i64 flops3 ∧ E 4 = .int .i64 gates4 ∧ E 5 = .int .i64 outs5 ∧ E 6 = .pointer (some ⟨b6, 0, none⟩) ∧ E 12 = .pointer (some ⟨b12, 0, none⟩) ∧ E 13 = .pointer (some ⟨b13, 0, none⟩) ∧ E 23 = .int .i64 ins2 ∧ E 24 = .int .i64 y24_L3h ∧ RepL RpS ρ b13_0_L3h cs_b13_0_L3h ∧ St w0 w (cells b6 23 [.pointer (some ⟨b_s0, 0, none⟩)] :: cells b12 30 [.slice none 0 0, .slice none 0 0, .slice none 0 0, .slice none 0 0, .slice none 0 0] :: cells b13 30 [.slice A_b13_0_L3h n_b13_0_L3h c_b13_0_L3h, .slice none 0 0, .slice none 0 0, .slice none 0 0, .slice none 0 0] :: cells b_s0 25 [.slice A_s0_0 s0.L.length c_s0_0, .int .i64 s0.fat] :: vec 9 RpS.sz (.slice A_b13_0_L3h n_b13_0_L3h c_b13_0_L3h) n_b13_0_L3h cs_b13_0_L3h :: ro ρ :: l)) fuel ⟨none, 0, 0, [], 0, [], hLL3, rfl, rfl, rfl, rfl, rfl, rfl, rfl, rfl, rfl, rfl, hnil_A_b13_0_L3h, ((((((hS.pull 5).pull 1).pull 5).pull 3).pull 4).pull 5)⟩ ?_
    rintro kL3 E w ⟨A_b13_0_L3h, n_b13_0_L3h, c_b13_0_L3h, cs_b13_0_L3h, y24_L3h, b13_0_L3h, hLL3, eL3h_1, eL3h_2, eL3h_3, eL3h_4, eL3h_5, eL3h_6, eL3h_12, eL3h_13, eL3h_23, eL3h_24, h_b13_0_L3h, hS⟩
    have e_ := St.vec_n (hS.pull 4) h_b13_0_L3h; subst e_
    replace hLL3 := lp_s hLL3; obtain ⟨kL3, obL3, rfl, hFL3, hLL3⟩ := hLL3
    refine x_seq <| x_region <| p (yl_lss eL3h_24 eL3h_23) <| x_done <|
      x_seq <|
      x_cond_p (y24_L3h < ins2) rfl (fun hc25 => ?_) (fun hc25 => ?_)
    · replace hFL3 := it_t hc25 hFL3
      refine x_skip <| x_seq <| x_block <| x_seq <|
        x_region <| p (yl_move eL3h_24) <| p (yl_assign rfl) <| x_done <|
        ?_
      replace hFL3 := bd_s hFL3; obtain ⟨r5_3, hc5_3, hFL3⟩ := hFL3
      replace hFL3 := ck_s hFL3; obtain ⟨hk5_4, hFL3⟩ := hFL3
      replace hFL3 := lv_s hFL3; obtain ⟨z5_6, hz5_6, hFL3⟩ := hFL3
      replace hFL3 := ck_s hFL3; obtain ⟨hk5_6, hFL3⟩ := hFL3
      refine x_par (w0 := w0) [⟨[], [], [27], [], [], []⟩, ⟨[0], [0], [28], [0], [], []⟩, ⟨[], [], [29], [], [], []⟩, ⟨[2], [2], [30], [1], [], []⟩, ⟨[2, 3], [3], [31], [], [], []⟩, ⟨[2, 3, 4], [4], [32], [], [], [2]⟩, ⟨[0, 1, 2, 3, 4, 5], [1, 5], [33], [2, 1], [3], [4]⟩, ⟨[0, 1, 2, 3, 4, 5, 6], [], [34], [], [], []⟩, ⟨[0, 1, 2, 3, 4, 5, 6, 7], [6, 7], [], [], [0], [5]⟩] [⟨none, (some 8), []⟩, ⟨none, none, []⟩, ⟨(some 5), none, [32]⟩, ⟨none, (some 6), []⟩, ⟨(some 6), none, [33]⟩, ⟨(some 8), none, [33]⟩] [27, 28, 29, 30, 31, 32, 33, 34] [0, 1, 3] [1, 2, 4, 5] [0, 1, 2, 3, 4, 5, 6, 7] [fun Ep5 => Ep5 27 = .pointer (some ⟨b13, 0, none⟩), fun Ep5 => Ep5 28 = .slice A_b13_0_L3h b13_0_L3h.length c_b13_0_L3h, fun Ep5 => Ep5 29 = .int .i64 y24_L3h, fun Ep5 => Ep5 30 = .string r5_3, fun Ep5 => Ep5 31 = .string ((⟨#[105]⟩ : ByteArray) ++ r5_3), fun Ep5 => Ep5 32 = .slice (some ⟨(blkOf (Ep5 32)), 0, none⟩) 1 1, fun Ep5 => Ep5 33 = .slice (adOf (Ep5 33)) z5_6.length (capOf (Ep5 33)), fun Ep5 => Ep5 34 = .pointer (some ⟨b13, 0, none⟩), fun Ep5 => True] [fun Ep5 => cells b13 30 [.slice A_b13_0_L3h b13_0_L3h.length c_b13_0_L3h, .slice none 0 0, .slice none 0 0, .slice none 0 0, .slice none 0 0], fun Ep5 => ro ρ, fun Ep5 => cells (blkOf (Ep5 32)) 9 [.string ((⟨#[105]⟩ : ByteArray) ++ r5_3)], fun Ep5 => vec 9 RpS.sz (.slice A_b13_0_L3h b13_0_L3h.length c_b13_0_L3h) b13_0_L3h.length cs_b13_0_L3h, fun Ep5 => bunA (fun (cs33 : List Value) => RepL RpS ρ z5_6 cs33) (fun (cs33 : List Value) => [vec 9 RpS.sz (.slice (adOf (Ep5 33)) z5_6.length (capOf (Ep5 33))) z5_6.length cs33]), fun Ep5 => cells b13 30 [.slice (adOf (Ep5 33)) z5_6.length (capOf (Ep5 33)), .slice none 0 0, .slice none 0 0, .slice none 0 0, .slice none 0 0]] mixed (by kernel_rfl) (((hS.pull 4).pull 5).pull 4) ?_ ?_
      · refine ⟨?_, ?_, ?_, ?_, ?_, ?_, ?_, ?_, ?_, trivial⟩
        · intro Ep5 w l' hE5 hO5 hF_ hS
          refine p (yl_field0 fld_30_0 ((hE5 13 rfl).trans eL3h_13)) <| x_done <|
            ?_
          refine x_fin ⟨⟨_, rfl⟩, rfl, ?_⟩
          exact Eq.mp (by kernel_rfl) hS
        · intro Ep5 w l' hE5 hO5 hF_ hS
          obtain ⟨f5_0, -⟩ := hF_
          replace f5_0 : Ep5 27 = .pointer (some ⟨b13, 0, none⟩) := Eq.mp (by kernel_rfl) f5_0
          replace hS : St w0 w (cells b13 30 [.slice A_b13_0_L3h b13_0_L3h.length c_b13_0_L3h, .slice none 0 0, .slice none 0 0, .slice none 0 0, .slice none 0 0] :: l') := Eq.mp (by kernel_rfl) hS
          refine pa (at_load one_26 f5_0 (hS.cell rfl)) <| x_done <|
            ?_
          refine x_fin ⟨⟨_, rfl⟩, rfl, ?_⟩
          exact Eq.mp (by kernel_rfl) hS
        · intro Ep5 w l' hE5 hO5 hF_ hS
          refine p (yl_move (hE5 14 rfl)) <| x_done <|
            ?_
          refine x_fin ⟨⟨_, rfl⟩, rfl, ?_⟩
          exact Eq.mp (by kernel_rfl) hS
        · intro Ep5 w l' hE5 hO5 hF_ hS
          obtain ⟨f5_2, -⟩ := hF_
          replace f5_2 : Ep5 29 = .int .i64 y24_L3h := Eq.mp (by kernel_rfl) f5_2
          replace hS : St w0 w (ro ρ :: l') := Eq.mp (by kernel_rfl) hS
          have hcall := c_strconv_Itoa hc5_3  hS
          refine o_cc call_66 (args1 f5_2) (hcall) ?_
          rintro e w' ⟨rfl, hS⟩
          refine ⟨_, rfl, ?_⟩
          refine x_done <|
            ?_
          refine x_fin ⟨⟨_, rfl⟩, rfl, ?_⟩
          exact Eq.mp (by kernel_rfl) hS
        · intro Ep5 w l' hE5 hO5 hF_ hS
          obtain ⟨f5_3, -⟩ := hF_
          replace f5_3 : Ep5 30 = .string r5_3 := Eq.mp (by kernel_rfl) f5_3
          refine p (yadds rfl f5_3 hk5_4) <| x_done <|
            ?_
          refine x_fin ⟨⟨_, rfl⟩, rfl, ?_⟩
          exact Eq.mp (by kernel_rfl) hS
        · intro Ep5 w l' hE5 hO5 hF_ hS
          obtain ⟨f5_4, -⟩ := hF_
          replace f5_4 : Ep5 31 = .string ((⟨#[105]⟩ : ByteArray) ++ r5_3) := Eq.mp (by kernel_rfl) f5_4
          refine o_buildSlice (vs := [.string ((⟨#[105]⟩ : ByteArray) ++ r5_3)]) (cs := [.string ((⟨#[105]⟩ : ByteArray) ++ r5_3)]) sl_26 zero_9 (parts_eq (pt (va := .string ((⟨#[105]⟩ : ByteArray) ++ r5_3)) f5_4 pt0)) rfl (by intro v hv; simp only [List.mem_cons, List.not_mem_nil, or_false] at hv; first | (subst hv; rfl) | (rcases hv with rfl <;> rfl)) (by decide) rfl hS (fun b32 w' hS => ?_)
          refine x_done <|
            ?_
          refine x_fin ⟨⟨_, rfl⟩, rfl, ?_⟩
          exact Eq.mp (by kernel_rfl) hS
        · intro Ep5 w l' hE5 hO5 hF_ hS
          obtain ⟨f5_1, f5_5, -⟩ := hF_
          replace f5_1 : Ep5 28 = .slice A_b13_0_L3h b13_0_L3h.length c_b13_0_L3h := Eq.mp (by kernel_rfl) f5_1
          replace f5_5 : Ep5 32 = .slice (some ⟨(blkOf (Ep5 32)), 0, none⟩) 1 1 := Eq.mp (by kernel_rfl) f5_5
          replace hS : St w0 w (cells (blkOf (Ep5 32)) 9 [.string ((⟨#[105]⟩ : ByteArray) ++ r5_3)] :: ro ρ :: vec 9 RpS.sz (.slice A_b13_0_L3h b13_0_L3h.length c_b13_0_L3h) b13_0_L3h.length cs_b13_0_L3h :: l') := Eq.mp (by kernel_rfl) hS
          refine o_ap sl_26 zero_9 rfl (by decide) f5_1 f5_5 (hS.pull 2) h_b13_0_L3h (src_blk usl_26 hS rfl rfl) (RepL.cons (R := RpS) (ρ := ρ) (x := (⟨#[105]⟩ : ByteArray) ++ r5_3) (cs := [.string ((⟨#[105]⟩ : ByteArray) ++ r5_3)]) rfl RepL.nil) hz5_6 hk5_6 (fun A33 c33 cs33 w' hr33 hS => ?_)
          refine x_done <|
            ?_
          refine x_fin ⟨⟨_, rfl⟩, rfl, ?_⟩
          replace hS := St.bun (Φ := (fun (cs33 : List Value) => RepL RpS ρ z5_6 cs33)) (L := (fun (cs33 : List Value) => [vec 9 RpS.sz (.slice A33 z5_6.length c33) z5_6.length cs33])) cs33 hr33 hS
          exact Eq.mp (by kernel_rfl) ((hS.pull 2).pull 2)
        · intro Ep5 w l' hE5 hO5 hF_ hS
          refine p (yl_field0 fld_30_0 ((hE5 13 rfl).trans eL3h_13)) <| x_done <|
            ?_
          refine x_fin ⟨⟨_, rfl⟩, rfl, ?_⟩
          exact Eq.mp (by kernel_rfl) hS
        · intro Ep5 w l' hE5 hO5 hF_ hS
          obtain ⟨f5_6, f5_7, -⟩ := hF_
          replace f5_6 : Ep5 33 = .slice (adOf (Ep5 33)) z5_6.length (capOf (Ep5 33)) := Eq.mp (by kernel_rfl) f5_6
          replace f5_7 : Ep5 34 = .pointer (some ⟨b13, 0, none⟩) := Eq.mp (by kernel_rfl) f5_7
          replace hS : St w0 w (cells b13 30 [.slice A_b13_0_L3h b13_0_L3h.length c_b13_0_L3h, .slice none 0 0, .slice none 0 0, .slice none 0 0, .slice none 0 0] :: l') := Eq.mp (by kernel_rfl) hS
          refine o_store1 (v := .slice (adOf (Ep5 33)) z5_6.length (capOf (Ep5 33))) one_26 f5_7 f5_6 rfl rfl hS (fun w' hS => ?_)
          refine x_done <|
            ?_
          refine x_fin ⟨⟨undef, rfl⟩, trivial, ?_⟩
          exact Eq.mp (by kernel_rfl) hS
      intro Ep5 w' hE5 hF_ hS
      obtain ⟨f5_0, f5_1, f5_2, f5_3, f5_4, f5_5, f5_6, f5_7, -⟩ := hF_
      replace f5_0 : Ep5 27 = .pointer (some ⟨b13, 0, none⟩) := Eq.mp (by kernel_rfl) f5_0
      replace f5_1 : Ep5 28 = .slice A_b13_0_L3h b13_0_L3h.length c_b13_0_L3h := Eq.mp (by kernel_rfl) f5_1
      replace f5_2 : Ep5 29 = .int .i64 y24_L3h := Eq.mp (by kernel_rfl) f5_2
      replace f5_3 : Ep5 30 = .string r5_3 := Eq.mp (by kernel_rfl) f5_3
      replace f5_4 : Ep5 31 = .string ((⟨#[105]⟩ : ByteArray) ++ r5_3) := Eq.mp (by kernel_rfl) f5_4
      replace f5_5 : Ep5 32 = .slice (some ⟨(blkOf (Ep5 32)), 0, none⟩) 1 1 := Eq.mp (by kernel_rfl) f5_5
      replace f5_6 : Ep5 33 = .slice (adOf (Ep5 33)) z5_6.length (capOf (Ep5 33)) := Eq.mp (by kernel_rfl) f5_6
      replace f5_7 : Ep5 34 = .pointer (some ⟨b13, 0, none⟩) := Eq.mp (by kernel_rfl) f5_7
      replace hS : St w0 w' (ro ρ :: cells (blkOf (Ep5 32)) 9 [.string ((⟨#[105]⟩ : ByteArray) ++ r5_3)] :: bunA (fun (cs33 : List Value) => RepL RpS ρ z5_6 cs33) (fun (cs33 : List Value) => [vec 9 RpS.sz (.slice (adOf (Ep5 33)) z5_6.length (capOf (Ep5 33))) z5_6.length cs33]) :: cells b13 30 [.slice (adOf (Ep5 33)) z5_6.length (capOf (Ep5 33)), .slice none 0 0, .slice none 0 0, .slice none 0 0, .slice none 0 0] :: (cells b6 23 [.pointer (some ⟨b_s0, 0, none⟩)] :: cells b12 30 [.slice none 0 0, .slice none 0 0, .slice none 0 0, .slice none 0 0, .slice none 0 0] :: cells b_s0 25 [.slice A_s0_0 s0.L.length c_s0_0, .int .i64 s0.fat] :: l)) := Eq.mp (by kernel_rfl) hS
      have q_ := St.unbun (hS.pull 2); obtain ⟨cs33, hr33, hS⟩ := q_
      replace hFL3 := ar_s hFL3; obtain ⟨x35, hx35, hFL3⟩ := hFL3
      refine x_blk <| x_region <| p (yadd ((hE5 24 rfl).trans eL3h_24) rfl hx35) <| p (yl_move rfl) <|
        x_done <|
        ?_
      have e_ := Option.some.inj (show some _ = some _ from hFL3); subst e_
      exact x_inv ⟨kL3, Nat.lt_succ_self _, (adOf (Ep5 33)), z5_6.length, (capOf (Ep5 33)), cs33, x35, z5_6, hLL3, ((hE5 1 rfl).trans eL3h_1), ((hE5 2 rfl).trans eL3h_2), ((hE5 3 rfl).trans eL3h_3), ((hE5 4 rfl).trans eL3h_4), ((hE5 5 rfl).trans eL3h_5), ((hE5 6 rfl).trans eL3h_6), ((hE5 12 rfl).trans eL3h_12), ((hE5 13 rfl).trans eL3h_13), ((hE5 23 rfl).trans eL3h_23), rfl, hr33, (((((((hS.pull 2).drop.pull 1).pull 1).pull 5).pull 3).pull 5).pull 5)⟩
    · replace hFL3 := it_f hc25 hFL3
      refine x_exitTo _ rfl <|
        ?_
      have e_ := Option.some.inj (show some _ = some _ from hFL3); subst e_
      exact x_inv ⟨A_b13_0_L3h, b13_0_L3h.length, c_b13_0_L3h, cs_b13_0_L3h, b13_0_L3h, hLL3, eL3h_1, eL3h_2, eL3h_3, eL3h_4, eL3h_5, eL3h_6, eL3h_12, eL3h_13, h_b13_0_L3h, ((((((hS.pull 5).pull 5).pull 5).pull 5).pull 5).pull 5)⟩
  rintro E w ⟨A_b13_0_L3, n_b13_0_L3, c_b13_0_L3, cs_b13_0_L3, b13_0_L3, rfl, eL3_1, eL3_2, eL3_3, eL3_4, eL3_5, eL3_6, eL3_12, eL3_13, h_b13_0_L3, hS⟩
  have e_ := St.vec_n (hS.pull 4) h_b13_0_L3; subst e_
  replace hF := ar_s hF; obtain ⟨x37, hx37, hF⟩ := hF
  replace hF := ar_s hF; obtain ⟨x39, hx39, hF⟩ := hF
  refine x_seq <| x_region <| p (yl_move eL3_2) <| p (yadd rfl rfl hx37) <|
    p (yl_move eL3_3) <| p (yadd rfl rfl hx39) <| p (yl_assign rfl) <| x_done <|
    x_seq <| x_region <| p (v := .func (.func 67) #[] #[.pointer (some ⟨b6, 0, none⟩)]) (yl_makeFunc (by simp only [List.map_toArray, List.map_nil]) (by simp only [List.map_toArray, List.map_cons, List.map_nil]; exact arr1 eL3_6)) <| p (v := .func (.func 67) #[] #[.pointer (some ⟨b6, 0, none⟩)]) (yl_assign rfl) <|
    x_done <| x_seq <| x_seq <| x_region <|
    p (yl_move eL3_4) <| p (yl_move rfl) <| x_done <|
    ?_
  replace hF := bd_s hF; obtain ⟨oL10, hLL10, hF⟩ := hF
  refine x_join (fun E w => ∃ (ρ_L10 : Heap) (A_b13_3_L10 : Option Addr) (n_b13_3_L10 : Nat) (c_b13_3_L10 : Nat) (cs_b13_3_L10 : List Value) (b13_3_L10 : List T_api_Gate) (b_s0_1_L10 : Int), (b13_3_L10, b_s0_1_L10) = oL10 ∧ Le ρ ρ_L10 ∧ E 3 = .int .i64 flops3 ∧ E 4 = .int .i64 gates4 ∧ E 5 = .int .i64 outs5 ∧ E 6 = .pointer (some ⟨b6, 0, none⟩) ∧ E 12 = .pointer (some ⟨b12, 0, none⟩) ∧ E 13 = .pointer (some ⟨b13, 0, none⟩) ∧ E 15 = .int .i64 x39 ∧ E 16 = .func (.func 67) #[] #[.pointer (some ⟨b6, 0, none⟩)] ∧ RepL R_api_Gate ρ_L10 b13_3_L10 cs_b13_3_L10 ∧ St w0 w (cells b6 23 [.pointer (some ⟨b_s0, 0, none⟩)] :: cells b12 30 [.slice none 0 0, .slice none 0 0, .slice none 0 0, .slice none 0 0, .slice none 0 0] :: cells b13 30 [.slice A_b13_0_L3 b13_0_L3.length c_b13_0_L3, .slice none 0 0, .slice none 0 0, .slice A_b13_3_L10 n_b13_3_L10 c_b13_3_L10, .slice none 0 0] :: cells b_s0 25 [.slice A_s0_0 s0.L.length c_s0_0, .int .i64 b_s0_1_L10] :: vec 9 RpS.sz (.slice A_b13_0_L3 b13_0_L3.length c_b13_0_L3) b13_0_L3.length cs_b13_0_L3 :: vec 38 R_api_Gate.sz (.slice A_b13_3_L10 n_b13_3_L10 c_b13_3_L10) n_b13_3_L10 cs_b13_3_L10 :: ro ρ_L10 :: l)) ?_ ?_
  · skip -- L10
    refine x_block ?_
    replace hS := St.vec_nil hS 38 R_api_Gate.sz
    have hnil_A_b13_3_L10h : RepL R_api_Gate ρ [] [] := rfl
    refine x_loop (fun k_ E w => ∃ (ρ_L10h : Heap) (A_b13_3_L10h : Option Addr) (n_b13_3_L10h : Nat) (c_b13_3_L10h : Nat) (cs_b13_3_L10h : List Value) (y42_L10h : Int) (b13_3_L10h : List T_api_Gate) (b_s0_1_L10h : Int), lp (P_maskmake_Stream_Placed_L10 s0 l_1 gates4 x39) k_ (y42_L10h, b13_3_L10h, b_s0_1_L10h) = some oL10 ∧ Le ρ ρ_L10h ∧ E 1 = .slice A_l_1 l_1.length c_l_1 ∧ E 3 = .int .i64 flops3 ∧ E 4 = .int .i64 gates4 ∧ E 5 = .int .i64 outs5 ∧ E 6 = .pointer (some ⟨b6, 0, none⟩) ∧ E 12 = .pointer (some ⟨b12, 0, none⟩) ∧ E 13 = .pointer (some ⟨b13, 0, none⟩) ∧ E 15 = .int .i64 x39 ∧ E 16 = .func (.func 67) #[] #[.pointer (some ⟨b6, 0, none⟩)] ∧ E 41 = .int .i64 gates4 ∧ E 42 = .int .i64 y42_L10h ∧ RepL R_api_Gate ρ_L10h b13_3_L10h cs_b13_3_L10h ∧ St w0 w (cells b6 23 [.pointer (some ⟨b_s0, 0, none⟩)] :: cells b12 30 [.slice none 0 0, .slice none 0 0, .slice none 0 0, .slice none 0 0, .slice none 0 0] :: cells b13 30 [.slice A_b13_0_L3 b13_0_L3.length c_b13_0_L3, .slice none 0 0, .slice none 0 0, .slice A_b13_3_L10h n_b13_3_L10h c_b13_3_L10h, .slice none 0 0] :: cells b_s0 25 [.slice A_s0_0 s0.L.length c_s0_0, .int .i64 b_s0_1_L10h] :: vec 9 RpS.sz (.slice A_b13_0_L3 b13_0_L3.length c_b13_0_L3) b13_0_L3.length cs_b13_0_L3 :: vec 38 R_api_Gate.sz (.slice A_b13_3_L10h n_b13_3_L10h c_b13_3_L10h) n_b13_3_L10h cs_b13_3_L10h :: ro ρ_L10h :: l)) fuel ⟨ρ, none, 0, 0, [], 0, [], s0.fat, hLL10, (Le.refl _), eL3_1, eL3_3, eL3_4, eL3_5, eL3_6, eL3_12, eL3_13, rfl, rfl, rfl, rfl, hnil_A_b13_3_L10h, (((((((hS.pull 6).pull 1).pull 6).pull 6).pull 6).pull 6).pull 6)⟩ ?_
    rintro kL10 E w ⟨ρ_L10h, A_b13_3_L10h, n_b13_3_L10h, c_b13_3_L10h, cs_b13_3_L10h, y42_L10h, b13_3_L10h, b_s0_1_L10h, hLL10, hleρ_L10h, eL10h_1, eL10h_3, eL10h_4, eL10h_5, eL10h_6, eL10h_12, eL10h_13, eL10h_15, eL10h_16, eL10h_41, eL10h_42, h_b13_3_L10h, hS⟩
    have e_ := St.vec_n (hS.pull 5) h_b13_3_L10h; subst e_
    replace hLL10 := lp_s hLL10; obtain ⟨kL10, obL10, rfl, hFL10, hLL10⟩ := hLL10
    refine x_seq <| x_region <| p (yl_lss eL10h_42 eL10h_41) <| x_done <|
      x_seq <|
      x_cond_p (y42_L10h < gates4) rfl (fun hc43 => ?_) (fun hc43 => ?_)
    · replace hFL10 := it_t hc43 hFL10
      replace hFL10 := bd_s hFL10; obtain ⟨r12_1, hc12_1, hFL10⟩ := hFL10
      refine x_skip <| x_seq <| x_block <| x_seq <|
        x_region <| p (yl_move eL10h_42) <| p (yl_assign rfl) <| x_done <|
        x_seq <| x_region <| pa (at_load one_23 eL10h_6 (hS.cell rfl)) <|
        ?_
      have hcall := c_maskmake_Stream_Next hc12_1 (h_s0_0.le hleρ_L10h) ((hS.pull 6).pull 4)
      refine o_cc call_14 (args2 rfl rfl) hcall ?_
      rintro e w' ⟨rfl, hS⟩
      refine ⟨_, rfl, ?_⟩
      replace hFL10 := ck_s hFL10; obtain ⟨hk13_3, hFL10⟩ := hFL10
      replace hFL10 := lv_s hFL10; obtain ⟨y13_5, hy13_5, hFL10⟩ := hFL10
      have q_ := h_l_1.get hk13_3; obtain ⟨el13_5, ek13_5, ee13_5⟩ := q_
      rw [← hy13_5] at ek13_5
      obtain ⟨A13_5_5, n13_5_5, c13_5_5, A13_5_6, n13_5_6, c13_5_6, A13_5_7, n13_5_7, c13_5_7, rfl, f13_5_5, f13_5_6, f13_5_7⟩ := ek13_5
      have e_ := f13_5_5.n; subst e_
      have e_ := f13_5_6.n; subst e_
      have e_ := f13_5_7.n; subst e_
      refine p (yl_assign rfl) <| x_done <| x_seq <| x_region <|
        p (yl_move rfl) <| p (yl_move eL10h_1) <| p (yl_move rfl) <| p (yix_f sl_31 rfl rfl (h_l_1.le hleρ_L10h) hk13_3) <|
        p (yl_fieldAddr fld_61_3 rfl) <| pa (at_load one_35 rfl (Elt.ld (j := 3) (Elt.le ee13_5 hleρ_L10h) (hS.pull 1) rfl)) <| p (v := .agg #[.int .i64 r12_1.1, .int .u64 y13_5.Table, .slice none 0 0]) (yl_build bld_38 bldf_38 (parts_eq (pt (va := .int .i64 r12_1.1) rfl (pt (va := .int .u64 y13_5.Table) rfl pt0))) (by kernel_rfl)) <|
        ?_
      refine o_alloc zero_38 hS (fun b19 w' hS => ?_)
      refine o_storeAgg (news := [.int .i64 r12_1.1, .int .u64 y13_5.Table, .slice none 0 0]) agg_38 rfl rfl rfl (by simp [over_length]) hS (fun w' hS => ?_)
      replace hFL10 := ck_s hFL10; obtain ⟨hk14_2, hFL10⟩ := hFL10
      replace hFL10 := lv_s hFL10; obtain ⟨y14_4, hy14_4, hFL10⟩ := hFL10
      have q_ := h_l_1.get hk14_2; obtain ⟨el14_4, ek14_4, ee14_4⟩ := q_
      rw [← hy14_4] at ek14_4
      obtain ⟨A14_4_5, n14_4_5, c14_4_5, A14_4_6, n14_4_6, c14_4_6, A14_4_7, n14_4_7, c14_4_7, rfl, f14_4_5, f14_4_6, f14_4_7⟩ := ek14_4
      have e_ := f14_4_5.n; subst e_
      have e_ := f14_4_6.n; subst e_
      have e_ := f14_4_7.n; subst e_
      refine x_done <| x_seq <| x_seq <| x_region <|
        p (yl_move eL10h_1) <| p (yl_move rfl) <| p (yix_f sl_31 rfl rfl (h_l_1.le hleρ_L10h) hk14_2) <| p (yl_fieldAddr fld_61_2 rfl) <|
        pa (at_load one_3 rfl (Elt.ld (j := 2) (Elt.le ee14_4 hleρ_L10h) (hS.pull 2) rfl)) <| p (yl_move rfl) <| x_done <|
        ?_
      replace hFL10 := bd_s hFL10; obtain ⟨oL15, hLL15, hFL10⟩ := hFL10
      refine x_join (fun E w => ∃ (A_b19_2_L15 : Option Addr) (n_b19_2_L15 : Nat) (c_b19_2_L15 : Nat) (cs_b19_2_L15 : List Value) (b19_2_L15 : List Int) (b_s0_1_L15 : Int), (b19_2_L15, b_s0_1_L15) = oL15 ∧ E 1 = .slice A_l_1 l_1.length c_l_1 ∧ E 3 = .int .i64 flops3 ∧ E 4 = .int .i64 gates4 ∧ E 5 = .int .i64 outs5 ∧ E 6 = .pointer (some ⟨b6, 0, none⟩) ∧ E 12 = .pointer (some ⟨b12, 0, none⟩) ∧ E 13 = .pointer (some ⟨b13, 0, none⟩) ∧ E 15 = .int .i64 x39 ∧ E 16 = .func (.func 67) #[] #[.pointer (some ⟨b6, 0, none⟩)] ∧ E 19 = .pointer (some ⟨b19, 0, none⟩) ∧ E 41 = .int .i64 gates4 ∧ E 42 = .int .i64 y42_L10h ∧ RepL (RpI .i64) ρ_L10h b19_2_L15 cs_b19_2_L15 ∧ St w0 w (cells b6 23 [.pointer (some ⟨b_s0, 0, none⟩)] :: cells b12 30 [.slice none 0 0, .slice none 0 0, .slice none 0 0, .slice none 0 0, .slice none 0 0] :: cells b13 30 [.slice A_b13_0_L3 b13_0_L3.length c_b13_0_L3, .slice none 0 0, .slice none 0 0, .slice A_b13_3_L10h b13_3_L10h.length c_b13_3_L10h, .slice none 0 0] :: cells b19 38 [.int .i64 r12_1.1, .int .u64 y13_5.Table, .slice A_b19_2_L15 n_b19_2_L15 c_b19_2_L15] :: cells b_s0 25 [.slice A_s0_0 s0.L.length c_s0_0, .int .i64 b_s0_1_L15] :: vec 9 RpS.sz (.slice A_b13_0_L3 b13_0_L3.length c_b13_0_L3) b13_0_L3.length cs_b13_0_L3 :: vec 38 R_api_Gate.sz (.slice A_b13_3_L10h b13_3_L10h.length c_b13_3_L10h) b13_3_L10h.length cs_b13_3_L10h :: vec 3 (RpI .i64).sz (.slice A_b19_2_L15 n_b19_2_L15 c_b19_2_L15) n_b19_2_L15 cs_b19_2_L15 :: ro ρ_L10h :: l)) ?_ ?_
      · skip -- L15
        refine x_block ?_
        replace hS := St.vec_nil hS 3 (RpI .i64).sz
        have hnil_A_b19_2_L15h : RepL (RpI .i64) ρ_L10h [] [] := rfl
        refine x_loop (fun k_ E w => ∃ (A_b19_2_L15h : Option Addr) (n_b19_2_L15h : Nat) (c_b19_2_L15h : Nat) (cs_b19_2_L15h : List Value) (y59_L15h : Int) (b19_2_L15h : List Int) (b_s0_1_L15h : Int), lp (P_maskmake_Stream_Placed_L15 s0 x39 y14_4 y42_L10h) k_ (y59_L15h, b19_2_L15h, b_s0_1_L15h) = some oL15 ∧ E 1 = .slice A_l_1 l_1.length c_l_1 ∧ E 3 = .int .i64 flops3 ∧ E 4 = .int .i64 gates4 ∧ E 5 = .int .i64 outs5 ∧ E 6 = .pointer (some ⟨b6, 0, none⟩) ∧ E 12 = .pointer (some ⟨b12, 0, none⟩) ∧ E 13 = .pointer (some ⟨b13, 0, none⟩) ∧ E 15 = .int .i64 x39 ∧ E 16 = .func (.func 67) #[] #[.pointer (some ⟨b6, 0, none⟩)] ∧ E 17 = .int .i64 y42_L10h ∧ E 19 = .pointer (some ⟨b19, 0, none⟩) ∧ E 41 = .int .i64 gates4 ∧ E 42 = .int .i64 y42_L10h ∧ E 58 = .int .i64 y14_4.Ins ∧ E 59 = .int .i64 y59_L15h ∧ RepL (RpI .i64) ρ_L10h b19_2_L15h cs_b19_2_L15h ∧ St w0 w (cells b6 23 [.pointer (some ⟨b_s0, 0, none⟩)] :: cells b12 30 [.slice none 0 0, .slice none 0 0, .slice none 0 0, .slice none 0 0, .slice none 0 0] :: cells b13 30 [.slice A_b13_0_L3 b13_0_L3.length c_b13_0_L3, .slice none 0 0, .slice none 0 0, .slice A_b13_3_L10h b13_3_L10h.length c_b13_3_L10h, .slice none 0 0] :: cells b19 38 [.int .i64 r12_1.1, .int .u64 y13_5.Table, .slice A_b19_2_L15h n_b19_2_L15h c_b19_2_L15h] :: cells b_s0 25 [.slice A_s0_0 s0.L.length c_s0_0, .int .i64 b_s0_1_L15h] :: vec 9 RpS.sz (.slice A_b13_0_L3 b13_0_L3.length c_b13_0_L3) b13_0_L3.length cs_b13_0_L3 :: vec 38 R_api_Gate.sz (.slice A_b13_3_L10h b13_3_L10h.length c_b13_3_L10h) b13_3_L10h.length cs_b13_3_L10h :: vec 3 (RpI .i64).sz (.slice A_b19_2_L15h n_b19_2_L15h c_b19_2_L15h) n_b19_2_L15h cs_b19_2_L15h :: ro ρ_L10h :: l)) fuel ⟨none, 0, 0, [], 0, [], r12_1.2, hLL15, eL10h_1, eL10h_3, eL10h_4, eL10h_5, eL10h_6, eL10h_12, eL10h_13, eL10h_15, eL10h_16, rfl, rfl, eL10h_41, eL10h_42, rfl, rfl, hnil_A_b19_2_L15h, (((((((((hS.pull 3).pull 1).pull 8).pull 8).pull 5).pull 5).pull 8).pull 8).pull 8)⟩ ?_
        rintro kL15 E w ⟨A_b19_2_L15h, n_b19_2_L15h, c_b19_2_L15h, cs_b19_2_L15h, y59_L15h, b19_2_L15h, b_s0_1_L15h, hLL15, eL15h_1, eL15h_3, eL15h_4, eL15h_5, eL15h_6, eL15h_12, eL15h_13, eL15h_15, eL15h_16, eL15h_17, eL15h_19, eL15h_41, eL15h_42, eL15h_58, eL15h_59, h_b19_2_L15h, hS⟩
        have e_ := St.vec_n (hS.pull 7) h_b19_2_L15h; subst e_
        replace hLL15 := lp_s hLL15; obtain ⟨kL15, obL15, rfl, hFL15, hLL15⟩ := hLL15
        refine x_seq <| x_region <| p (yl_lss eL15h_59 eL15h_58) <| x_done <|
          x_seq <|
          x_cond_p (y59_L15h < y14_4.Ins) rfl (fun hc60 => ?_) (fun hc60 => ?_)
        · replace hFL15 := it_t hc60 hFL15
          refine x_skip <| x_seq <| x_block <|
            ?_
          replace hFL15 := ar_s hFL15; obtain ⟨x66, hx66, hFL15⟩ := hFL15
          replace hFL15 := bd_s hFL15; obtain ⟨r16_6, hc16_6, hFL15⟩ := hFL15
          replace hFL15 := lv_s hFL15; obtain ⟨z16_8, hz16_8, hFL15⟩ := hFL15
          replace hFL15 := ck_s hFL15; obtain ⟨hk16_8, hFL15⟩ := hFL15
          refine x_par (w0 := w0) [⟨[], [], [61], [], [], []⟩, ⟨[0], [0], [62], [0], [], []⟩, ⟨[], [], [63], [], [], []⟩, ⟨[], [], [64], [], [], []⟩, ⟨[], [], [65], [], [], []⟩, ⟨[3, 4], [3, 4], [66], [], [], []⟩, ⟨[2, 3, 4, 5], [2, 5], [67], [1, 3], [2], [4]⟩, ⟨[2, 3, 4, 5, 6], [6], [68], [], [], [5]⟩, ⟨[0, 1, 2, 3, 4, 5, 6, 7], [1, 7], [69], [5, 3], [6], [7]⟩, ⟨[0, 1, 2, 3, 4, 5, 6, 7, 8], [], [70], [], [], []⟩, ⟨[0, 1, 2, 3, 4, 5, 6, 7, 8, 9], [8, 9], [], [], [0], [8]⟩] [⟨none, (some 10), []⟩, ⟨none, none, []⟩, ⟨none, (some 6), []⟩, ⟨none, none, []⟩, ⟨(some 6), none, []⟩, ⟨(some 7), none, [68]⟩, ⟨none, (some 8), []⟩, ⟨(some 8), none, [69]⟩, ⟨(some 10), none, [69]⟩] [61, 62, 63, 64, 65, 66, 67, 68, 69, 70] [0, 1, 2, 3, 6] [1, 3, 4, 5, 7, 8] [0, 1, 2, 3, 4, 5, 6, 7, 8, 9] [fun Ep16 => Ep16 61 = .pointer (some ⟨b19, 2, none⟩), fun Ep16 => Ep16 62 = .slice A_b19_2_L15h b19_2_L15h.length c_b19_2_L15h, fun Ep16 => Ep16 63 = .func (.func 67) #[] #[.pointer (some ⟨b6, 0, none⟩)], fun Ep16 => Ep16 64 = .int .i64 x39, fun Ep16 => Ep16 65 = .int .i64 y42_L10h, fun Ep16 => Ep16 66 = .int .i64 x66, fun Ep16 => Ep16 67 = .int .i64 r16_6.1, fun Ep16 => Ep16 68 = .slice (some ⟨(blkOf (Ep16 68)), 0, none⟩) 1 1, fun Ep16 => Ep16 69 = .slice (adOf (Ep16 69)) z16_8.length (capOf (Ep16 69)), fun Ep16 => Ep16 70 = .pointer (some ⟨b19, 2, none⟩), fun Ep16 => True] [fun Ep16 => cells b19 38 [.int .i64 r12_1.1, .int .u64 y13_5.Table, .slice A_b19_2_L15h b19_2_L15h.length c_b19_2_L15h], fun Ep16 => cells b6 23 [.pointer (some ⟨b_s0, 0, none⟩)], fun Ep16 => cells b_s0 25 [.slice A_s0_0 s0.L.length c_s0_0, .int .i64 b_s0_1_L15h], fun Ep16 => ro ρ_L10h, fun Ep16 => cells b_s0 25 [.slice A_s0_0 s0.L.length c_s0_0, .int .i64 r16_6.2], fun Ep16 => cells (blkOf (Ep16 68)) 3 [.int .i64 r16_6.1], fun Ep16 => vec 3 (RpI .i64).sz (.slice A_b19_2_L15h b19_2_L15h.length c_b19_2_L15h) b19_2_L15h.length cs_b19_2_L15h, fun Ep16 => bunA (fun (cs69 : List Value) => RepL (RpI .i64) ρ_L10h z16_8 cs69) (fun (cs69 : List Value) => [vec 3 (RpI .i64).sz (.slice (adOf (Ep16 69)) z16_8.length (capOf (Ep16 69))) z16_8.length cs69]), fun Ep16 => cells b19 38 [.int .i64 r12_1.1, .int .u64 y13_5.Table, .slice (adOf (Ep16 69)) z16_8.length (capOf (Ep16 69))]] mixed (by kernel_rfl) (((((hS.pull 7).pull 8).pull 6).pull 3).pull 6) ?_ ?_
          · refine ⟨?_, ?_, ?_, ?_, ?_, ?_, ?_, ?_, ?_, ?_, ?_, trivial⟩
            · intro Ep16 w l' hE16 hO16 hF_ hS
              refine p (yl_field0 fld_38_2 ((hE16 19 rfl).trans eL15h_19)) <| x_done <|
                ?_
              refine x_fin ⟨⟨_, rfl⟩, rfl, ?_⟩
              exact Eq.mp (by kernel_rfl) hS
            · intro Ep16 w l' hE16 hO16 hF_ hS
              obtain ⟨f16_0, -⟩ := hF_
              replace f16_0 : Ep16 61 = .pointer (some ⟨b19, 2, none⟩) := Eq.mp (by kernel_rfl) f16_0
              replace hS : St w0 w (cells b19 38 [.int .i64 r12_1.1, .int .u64 y13_5.Table, .slice A_b19_2_L15h b19_2_L15h.length c_b19_2_L15h] :: l') := Eq.mp (by kernel_rfl) hS
              refine pa (at_load one_22 f16_0 (hS.cell rfl)) <| x_done <|
                ?_
              refine x_fin ⟨⟨_, rfl⟩, rfl, ?_⟩
              exact Eq.mp (by kernel_rfl) hS
            · intro Ep16 w l' hE16 hO16 hF_ hS
              refine p (yl_move ((hE16 16 rfl).trans eL15h_16)) <| x_done <|
                ?_
              refine x_fin ⟨⟨_, rfl⟩, rfl, ?_⟩
              exact Eq.mp (by kernel_rfl) hS
            · intro Ep16 w l' hE16 hO16 hF_ hS
              refine p (yl_move ((hE16 15 rfl).trans eL15h_15)) <| x_done <|
                ?_
              refine x_fin ⟨⟨_, rfl⟩, rfl, ?_⟩
              exact Eq.mp (by kernel_rfl) hS
            · intro Ep16 w l' hE16 hO16 hF_ hS
              refine p (yl_move ((hE16 17 rfl).trans eL15h_17)) <| x_done <|
                ?_
              refine x_fin ⟨⟨_, rfl⟩, rfl, ?_⟩
              exact Eq.mp (by kernel_rfl) hS
            · intro Ep16 w l' hE16 hO16 hF_ hS
              obtain ⟨f16_3, f16_4, -⟩ := hF_
              replace f16_3 : Ep16 64 = .int .i64 x39 := Eq.mp (by kernel_rfl) f16_3
              replace f16_4 : Ep16 65 = .int .i64 y42_L10h := Eq.mp (by kernel_rfl) f16_4
              refine p (yadd f16_3 f16_4 hx66) <| x_done <|
                ?_
              refine x_fin ⟨⟨_, rfl⟩, rfl, ?_⟩
              exact Eq.mp (by kernel_rfl) hS
            · intro Ep16 w l' hE16 hO16 hF_ hS
              obtain ⟨f16_2, f16_5, -⟩ := hF_
              replace f16_2 : Ep16 63 = .func (.func 67) #[] #[.pointer (some ⟨b6, 0, none⟩)] := Eq.mp (by kernel_rfl) f16_2
              replace f16_5 : Ep16 66 = .int .i64 x66 := Eq.mp (by kernel_rfl) f16_5
              replace hS : St w0 w (cells b6 23 [.pointer (some ⟨b_s0, 0, none⟩)] :: ro ρ_L10h :: cells b_s0 25 [.slice A_s0_0 s0.L.length c_s0_0, .int .i64 b_s0_1_L15h] :: l') := Eq.mp (by kernel_rfl) hS
              have hcall := c_maskmake_Stream_Placed_1 hc16_6 (h_s0_0.le hleρ_L10h) (((hS.pull 1).pull 2).pull 2)
              refine o_ccv f16_2 call_67 (capargs (args1 f16_5)) hcall ?_
              rintro e w' ⟨rfl, hS⟩
              refine ⟨_, rfl, ?_⟩
              refine x_done <|
                ?_
              refine x_fin ⟨⟨_, rfl⟩, rfl, ?_⟩
              exact Eq.mp (by kernel_rfl) ((hS.pull 2).pull 2)
            · intro Ep16 w l' hE16 hO16 hF_ hS
              obtain ⟨f16_6, -⟩ := hF_
              replace f16_6 : Ep16 67 = .int .i64 r16_6.1 := Eq.mp (by kernel_rfl) f16_6
              refine o_buildSlice (vs := [.int .i64 r16_6.1]) (cs := [.int .i64 r16_6.1]) sl_22 zero_3 (parts_eq (pt (va := .int .i64 r16_6.1) f16_6 pt0)) rfl (by intro v hv; simp only [List.mem_cons, List.not_mem_nil, or_false] at hv; first | (subst hv; rfl) | (rcases hv with rfl <;> rfl)) (by decide) rfl hS (fun b68 w' hS => ?_)
              refine x_done <|
                ?_
              refine x_fin ⟨⟨_, rfl⟩, rfl, ?_⟩
              exact Eq.mp (by kernel_rfl) hS
            · intro Ep16 w l' hE16 hO16 hF_ hS
              obtain ⟨f16_1, f16_7, -⟩ := hF_
              replace f16_1 : Ep16 62 = .slice A_b19_2_L15h b19_2_L15h.length c_b19_2_L15h := Eq.mp (by kernel_rfl) f16_1
              replace f16_7 : Ep16 68 = .slice (some ⟨(blkOf (Ep16 68)), 0, none⟩) 1 1 := Eq.mp (by kernel_rfl) f16_7
              replace hS : St w0 w (cells (blkOf (Ep16 68)) 3 [.int .i64 r16_6.1] :: ro ρ_L10h :: vec 3 (RpI .i64).sz (.slice A_b19_2_L15h b19_2_L15h.length c_b19_2_L15h) b19_2_L15h.length cs_b19_2_L15h :: l') := Eq.mp (by kernel_rfl) hS
              refine o_ap sl_22 zero_3 rfl (by decide) f16_1 f16_7 (hS.pull 2) h_b19_2_L15h (src_blk usl_22 hS rfl rfl) (RepL.cons (R := (RpI .i64)) (ρ := ρ_L10h) (x := r16_6.1) (cs := [.int .i64 r16_6.1]) rfl RepL.nil) hz16_8 hk16_8 (fun A69 c69 cs69 w' hr69 hS => ?_)
              refine x_done <|
                ?_
              refine x_fin ⟨⟨_, rfl⟩, rfl, ?_⟩
              replace hS := St.bun (Φ := (fun (cs69 : List Value) => RepL (RpI .i64) ρ_L10h z16_8 cs69)) (L := (fun (cs69 : List Value) => [vec 3 (RpI .i64).sz (.slice A69 z16_8.length c69) z16_8.length cs69])) cs69 hr69 hS
              exact Eq.mp (by kernel_rfl) ((hS.pull 2).pull 2)
            · intro Ep16 w l' hE16 hO16 hF_ hS
              refine p (yl_field0 fld_38_2 ((hE16 19 rfl).trans eL15h_19)) <| x_done <|
                ?_
              refine x_fin ⟨⟨_, rfl⟩, rfl, ?_⟩
              exact Eq.mp (by kernel_rfl) hS
            · intro Ep16 w l' hE16 hO16 hF_ hS
              obtain ⟨f16_8, f16_9, -⟩ := hF_
              replace f16_8 : Ep16 69 = .slice (adOf (Ep16 69)) z16_8.length (capOf (Ep16 69)) := Eq.mp (by kernel_rfl) f16_8
              replace f16_9 : Ep16 70 = .pointer (some ⟨b19, 2, none⟩) := Eq.mp (by kernel_rfl) f16_9
              replace hS : St w0 w (cells b19 38 [.int .i64 r12_1.1, .int .u64 y13_5.Table, .slice A_b19_2_L15h b19_2_L15h.length c_b19_2_L15h] :: l') := Eq.mp (by kernel_rfl) hS
              refine o_store1 (v := .slice (adOf (Ep16 69)) z16_8.length (capOf (Ep16 69))) one_22 f16_9 f16_8 rfl rfl hS (fun w' hS => ?_)
              refine x_done <|
                ?_
              refine x_fin ⟨⟨undef, rfl⟩, trivial, ?_⟩
              exact Eq.mp (by kernel_rfl) hS
          intro Ep16 w' hE16 hF_ hS
          obtain ⟨f16_0, f16_1, f16_2, f16_3, f16_4, f16_5, f16_6, f16_7, f16_8, f16_9, -⟩ := hF_
          replace f16_0 : Ep16 61 = .pointer (some ⟨b19, 2, none⟩) := Eq.mp (by kernel_rfl) f16_0
          replace f16_1 : Ep16 62 = .slice A_b19_2_L15h b19_2_L15h.length c_b19_2_L15h := Eq.mp (by kernel_rfl) f16_1
          replace f16_2 : Ep16 63 = .func (.func 67) #[] #[.pointer (some ⟨b6, 0, none⟩)] := Eq.mp (by kernel_rfl) f16_2
          replace f16_3 : Ep16 64 = .int .i64 x39 := Eq.mp (by kernel_rfl) f16_3
          replace f16_4 : Ep16 65 = .int .i64 y42_L10h := Eq.mp (by kernel_rfl) f16_4
          replace f16_5 : Ep16 66 = .int .i64 x66 := Eq.mp (by kernel_rfl) f16_5
          replace f16_6 : Ep16 67 = .int .i64 r16_6.1 := Eq.mp (by kernel_rfl) f16_6
          replace f16_7 : Ep16 68 = .slice (some ⟨(blkOf (Ep16 68)), 0, none⟩) 1 1 := Eq.mp (by kernel_rfl) f16_7
          replace f16_8 : Ep16 69 = .slice (adOf (Ep16 69)) z16_8.length (capOf (Ep16 69)) := Eq.mp (by kernel_rfl) f16_8
          replace f16_9 : Ep16 70 = .pointer (some ⟨b19, 2, none⟩) := Eq.mp (by kernel_rfl) f16_9
          replace hS : St w0 w' (cells b6 23 [.pointer (some ⟨b_s0, 0, none⟩)] :: ro ρ_L10h :: cells b_s0 25 [.slice A_s0_0 s0.L.length c_s0_0, .int .i64 r16_6.2] :: cells (blkOf (Ep16 68)) 3 [.int .i64 r16_6.1] :: bunA (fun (cs69 : List Value) => RepL (RpI .i64) ρ_L10h z16_8 cs69) (fun (cs69 : List Value) => [vec 3 (RpI .i64).sz (.slice (adOf (Ep16 69)) z16_8.length (capOf (Ep16 69))) z16_8.length cs69]) :: cells b19 38 [.int .i64 r12_1.1, .int .u64 y13_5.Table, .slice (adOf (Ep16 69)) z16_8.length (capOf (Ep16 69))] :: (cells b12 30 [.slice none 0 0, .slice none 0 0, .slice none 0 0, .slice none 0 0, .slice none 0 0] :: cells b13 30 [.slice A_b13_0_L3 b13_0_L3.length c_b13_0_L3, .slice none 0 0, .slice none 0 0, .slice A_b13_3_L10h b13_3_L10h.length c_b13_3_L10h, .slice none 0 0] :: vec 9 RpS.sz (.slice A_b13_0_L3 b13_0_L3.length c_b13_0_L3) b13_0_L3.length cs_b13_0_L3 :: vec 38 R_api_Gate.sz (.slice A_b13_3_L10h b13_3_L10h.length c_b13_3_L10h) b13_3_L10h.length cs_b13_3_L10h :: l)) := Eq.mp (by kernel_rfl) hS
          have q_ := St.unbun (hS.pull 4); obtain ⟨cs69, hr69, hS⟩ := q_
          replace hFL15 := ar_s hFL15; obtain ⟨x71, hx71, hFL15⟩ := hFL15
          refine x_blk <| x_region <| p (yadd ((hE16 59 rfl).trans eL15h_59) rfl hx71) <| p (yl_move rfl) <|
            x_done <|
            ?_
          have e_ := Option.some.inj (show some _ = some _ from hFL15); subst e_
          exact x_inv ⟨kL15, Nat.lt_succ_self _, (adOf (Ep16 69)), z16_8.length, (capOf (Ep16 69)), cs69, x71, z16_8, r16_6.2, hLL15, ((hE16 1 rfl).trans eL15h_1), ((hE16 3 rfl).trans eL15h_3), ((hE16 4 rfl).trans eL15h_4), ((hE16 5 rfl).trans eL15h_5), ((hE16 6 rfl).trans eL15h_6), ((hE16 12 rfl).trans eL15h_12), ((hE16 13 rfl).trans eL15h_13), ((hE16 15 rfl).trans eL15h_15), ((hE16 16 rfl).trans eL15h_16), ((hE16 17 rfl).trans eL15h_17), ((hE16 19 rfl).trans eL15h_19), ((hE16 41 rfl).trans eL15h_41), ((hE16 42 rfl).trans eL15h_42), ((hE16 58 rfl).trans eL15h_58), rfl, hr69, ((((((((((hS.pull 4).drop.pull 2).pull 1).pull 8).pull 8).pull 5).pull 6).pull 8).pull 8).pull 8)⟩
        · replace hFL15 := it_f hc60 hFL15
          refine x_exitTo _ rfl <|
            ?_
          have e_ := Option.some.inj (show some _ = some _ from hFL15); subst e_
          exact x_inv ⟨A_b19_2_L15h, b19_2_L15h.length, c_b19_2_L15h, cs_b19_2_L15h, b19_2_L15h, b_s0_1_L15h, hLL15, eL15h_1, eL15h_3, eL15h_4, eL15h_5, eL15h_6, eL15h_12, eL15h_13, eL15h_15, eL15h_16, eL15h_19, eL15h_41, eL15h_42, h_b19_2_L15h, (((((((((hS.pull 8).pull 8).pull 8).pull 8).pull 8).pull 8).pull 8).pull 8).pull 8)⟩
      rintro E w ⟨A_b19_2_L15, n_b19_2_L15, c_b19_2_L15, cs_b19_2_L15, b19_2_L15, b_s0_1_L15, rfl, eL15_1, eL15_3, eL15_4, eL15_5, eL15_6, eL15_12, eL15_13, eL15_15, eL15_16, eL15_19, eL15_41, eL15_42, h_b19_2_L15, hS⟩
      have e_ := St.vec_n (hS.pull 7) h_b19_2_L15; subst e_
      refine x_region <| p (yl_field0 fld_30_3 eL15_13) <| pa (at_load one_28 rfl ((hS.pull 2).cell rfl)) <| pa (v := .agg #[.int .i64 r12_1.1, .int .u64 y13_5.Table, .slice A_b19_2_L15 b19_2_L15.length c_b19_2_L15]) (ld_sub agg_38 eL15_19 rfl rfl (hS.pull 3)) <|
        ?_
      have q_ := St.vec_fz ((hS.pull 8).pull 8) h_b19_2_L15; obtain ⟨ρz18_3, hlez18_3, fz18_3, hS⟩ := q_
      refine o_buildSlice (vs := [.agg #[.int .i64 r12_1.1, .int .u64 y13_5.Table, .slice A_b19_2_L15 b19_2_L15.length c_b19_2_L15]]) (cs := [.int .i64 r12_1.1, .int .u64 y13_5.Table, .slice A_b19_2_L15 b19_2_L15.length c_b19_2_L15]) sl_28 zero_38 (parts_eq (pt (va := .agg #[.int .i64 r12_1.1, .int .u64 y13_5.Table, .slice A_b19_2_L15 b19_2_L15.length c_b19_2_L15]) rfl pt0)) rfl (by intro v hv; simp only [List.mem_cons, List.not_mem_nil, or_false] at hv; first | (subst hv; rfl) | (rcases hv with rfl <;> rfl)) (by decide) rfl hS (fun b75 w' hS => ?_)
      replace hFL10 := lv_s hFL10; obtain ⟨z18_4, hz18_4, hFL10⟩ := hFL10
      replace hFL10 := ck_s hFL10; obtain ⟨hk18_4, hFL10⟩ := hFL10
      refine o_ap sl_28 zero_38 rfl (by decide) rfl rfl (hS.pull 8) (h_b13_3_L10h.le hlez18_3) (src_blk usl_28 hS rfl rfl) (RepL.cons (R := R_api_Gate) (ρ := ρz18_3) (x := (T_api_Gate.mk r12_1.1 y13_5.Table b19_2_L15)) (cs := [.int .i64 r12_1.1, .int .u64 y13_5.Table, .slice A_b19_2_L15 b19_2_L15.length c_b19_2_L15]) ⟨_, _, _, rfl, fz18_3⟩ RepL.nil) hz18_4 hk18_4 (fun A76 c76 cs76 w' hr76 hS => ?_)
      refine p (yl_field0 fld_30_3 eL15_13) <|
        ?_
      refine o_store1 (v := .slice A76 z18_4.length c76) one_28 rfl rfl rfl rfl (hS.pull 5) (fun w' hS => ?_)
      replace hFL10 := ar_s hFL10; obtain ⟨x78, hx78, hFL10⟩ := hFL10
      refine x_done <| x_blk <| x_region <| p (yadd eL15_42 rfl hx78) <|
        p (yl_move rfl) <| x_done <|
        ?_
      have e_ := Option.some.inj (show some _ = some _ from hFL10); subst e_
      exact x_inv ⟨kL10, Nat.lt_succ_self _, ρz18_3, A76, z18_4.length, c76, cs76, x78, z18_4, b_s0_1_L15, hLL10, (hleρ_L10h.trans hlez18_3), eL15_1, eL15_3, eL15_4, eL15_5, eL15_6, eL15_12, eL15_13, eL15_15, eL15_16, eL15_41, rfl, hr76, (((((((((hS.pull 2).drop.pull 5).drop.pull 2).pull 2).pull 6).pull 6).pull 4).pull 6).pull 6)⟩
    · replace hFL10 := it_f hc43 hFL10
      refine x_exitTo _ rfl <|
        ?_
      have e_ := Option.some.inj (show some _ = some _ from hFL10); subst e_
      exact x_inv ⟨ρ_L10h, A_b13_3_L10h, b13_3_L10h.length, c_b13_3_L10h, cs_b13_3_L10h, b13_3_L10h, b_s0_1_L10h, hLL10, hleρ_L10h, eL10h_3, eL10h_4, eL10h_5, eL10h_6, eL10h_12, eL10h_13, eL10h_15, eL10h_16, h_b13_3_L10h, (((((((hS.pull 6).pull 6).pull 6).pull 6).pull 6).pull 6).pull 6)⟩
  rintro E w ⟨ρ_L10, A_b13_3_L10, n_b13_3_L10, c_b13_3_L10, cs_b13_3_L10, b13_3_L10, b_s0_1_L10, rfl, hleρ_L10, eL10_3, eL10_4, eL10_5, eL10_6, eL10_12, eL10_13, eL10_15, eL10_16, h_b13_3_L10, hS⟩
  have e_ := St.vec_n (hS.pull 5) h_b13_3_L10; subst e_
  refine x_seq <| x_seq <| x_region <| p (yl_move eL10_3) <|
    p (yl_move rfl) <| x_done <|
    ?_
  replace hF := bd_s hF; obtain ⟨oL21, hLL21, hF⟩ := hF
  refine x_join (fun E w => ∃ (A_b13_2_L21 : Option Addr) (n_b13_2_L21 : Nat) (c_b13_2_L21 : Nat) (cs_b13_2_L21 : List Value) (b13_2_L21 : List T_api_Flop) (b_s0_1_L21 : Int), (b13_2_L21, b_s0_1_L21) = oL21 ∧ E 4 = .int .i64 gates4 ∧ E 5 = .int .i64 outs5 ∧ E 12 = .pointer (some ⟨b12, 0, none⟩) ∧ E 13 = .pointer (some ⟨b13, 0, none⟩) ∧ E 15 = .int .i64 x39 ∧ E 16 = .func (.func 67) #[] #[.pointer (some ⟨b6, 0, none⟩)] ∧ RepL R_api_Flop ρ_L10 b13_2_L21 cs_b13_2_L21 ∧ St w0 w (cells b12 30 [.slice none 0 0, .slice none 0 0, .slice none 0 0, .slice none 0 0, .slice none 0 0] :: cells b13 30 [.slice A_b13_0_L3 b13_0_L3.length c_b13_0_L3, .slice none 0 0, .slice A_b13_2_L21 n_b13_2_L21 c_b13_2_L21, .slice A_b13_3_L10 b13_3_L10.length c_b13_3_L10, .slice none 0 0] :: cells b6 23 [.pointer (some ⟨b_s0, 0, none⟩)] :: cells b_s0 25 [.slice A_s0_0 s0.L.length c_s0_0, .int .i64 b_s0_1_L21] :: vec 9 RpS.sz (.slice A_b13_0_L3 b13_0_L3.length c_b13_0_L3) b13_0_L3.length cs_b13_0_L3 :: vec 149 R_api_Flop.sz (.slice A_b13_2_L21 n_b13_2_L21 c_b13_2_L21) n_b13_2_L21 cs_b13_2_L21 :: vec 38 R_api_Gate.sz (.slice A_b13_3_L10 b13_3_L10.length c_b13_3_L10) b13_3_L10.length cs_b13_3_L10 :: ro ρ_L10 :: l)) ?_ ?_
  · skip -- L21
    refine x_block ?_
    replace hS := St.vec_nil hS 149 R_api_Flop.sz
    have hnil_A_b13_2_L21h : RepL R_api_Flop ρ_L10 [] [] := rfl
    refine x_loop (fun k_ E w => ∃ (A_b13_2_L21h : Option Addr) (n_b13_2_L21h : Nat) (c_b13_2_L21h : Nat) (cs_b13_2_L21h : List Value) (y80_L21h : Int) (b13_2_L21h : List T_api_Flop) (b_s0_1_L21h : Int), lp (P_maskmake_Stream_Placed_L21 s0 flops3 gates4 x39) k_ (y80_L21h, b13_2_L21h, b_s0_1_L21h) = some oL21 ∧ E 4 = .int .i64 gates4 ∧ E 5 = .int .i64 outs5 ∧ E 6 = .pointer (some ⟨b6, 0, none⟩) ∧ E 12 = .pointer (some ⟨b12, 0, none⟩) ∧ E 13 = .pointer (some ⟨b13, 0, none⟩) ∧ E 15 = .int .i64 x39 ∧ E 16 = .func (.func 67) #[] #[.pointer (some ⟨b6, 0, none⟩)] ∧ E 79 = .int .i64 flops3 ∧ E 80 = .int .i64 y80_L21h ∧ RepL R_api_Flop ρ_L10 b13_2_L21h cs_b13_2_L21h ∧ St w0 w (cells b6 23 [.pointer (some ⟨b_s0, 0, none⟩)] :: cells b12 30 [.slice none 0 0, .slice none 0 0, .slice none 0 0, .slice none 0 0, .slice none 0 0] :: cells b13 30 [.slice A_b13_0_L3 b13_0_L3.length c_b13_0_L3, .slice none 0 0, .slice A_b13_2_L21h n_b13_2_L21h c_b13_2_L21h, .slice A_b13_3_L10 b13_3_L10.length c_b13_3_L10, .slice none 0 0] :: cells b_s0 25 [.slice A_s0_0 s0.L.length c_s0_0, .int .i64 b_s0_1_L21h] :: vec 9 RpS.sz (.slice A_b13_0_L3 b13_0_L3.length c_b13_0_L3) b13_0_L3.length cs_b13_0_L3 :: vec 149 R_api_Flop.sz (.slice A_b13_2_L21h n_b13_2_L21h c_b13_2_L21h) n_b13_2_L21h cs_b13_2_L21h :: vec 38 R_api_Gate.sz (.slice A_b13_3_L10 b13_3_L10.length c_b13_3_L10) b13_3_L10.length cs_b13_3_L10 :: ro ρ_L10 :: l)) fuel ⟨none, 0, 0, [], 0, [], b_s0_1_L10, hLL21, eL10_4, eL10_5, eL10_6, eL10_12, eL10_13, eL10_15, eL10_16, rfl, rfl, hnil_A_b13_2_L21h, ((((((((hS.pull 7).pull 7).pull 2).pull 7).pull 7).pull 7).pull 7).pull 7)⟩ ?_
    rintro kL21 E w ⟨A_b13_2_L21h, n_b13_2_L21h, c_b13_2_L21h, cs_b13_2_L21h, y80_L21h, b13_2_L21h, b_s0_1_L21h, hLL21, eL21h_4, eL21h_5, eL21h_6, eL21h_12, eL21h_13, eL21h_15, eL21h_16, eL21h_79, eL21h_80, h_b13_2_L21h, hS⟩
    have e_ := St.vec_n (hS.pull 5) h_b13_2_L21h; subst e_
    replace hLL21 := lp_s hLL21; obtain ⟨kL21, obL21, rfl, hFL21, hLL21⟩ := hLL21
    refine x_seq <| x_region <| p (yl_lss eL21h_80 eL21h_79) <| x_done <|
      x_seq <|
      x_cond_p (y80_L21h < flops3) rfl (fun hc81 => ?_) (fun hc81 => ?_)
    · replace hFL21 := it_t hc81 hFL21
      refine x_skip <| x_seq <| x_block <| x_seq <|
        x_region <| p (yl_move eL21h_80) <| p (yl_assign rfl) <| x_done <|
        x_seq <|
        ?_
      replace hFL21 := bd_s hFL21; obtain ⟨r23_1, hc23_1, hFL21⟩ := hFL21
      replace hFL21 := ck_s hFL21; obtain ⟨hk23_2, hFL21⟩ := hFL21
      replace hFL21 := ar_s hFL21; obtain ⟨x89, hx89, hFL21⟩ := hFL21
      replace hFL21 := bd_s hFL21; obtain ⟨r23_7, hc23_7, hFL21⟩ := hFL21
      replace hFL21 := bd_s hFL21; obtain ⟨r23_9, hc23_9, hFL21⟩ := hFL21
      refine x_par (w0 := w0) [⟨[], [], [83], [], [], []⟩, ⟨[0], [0], [84], [0], [], []⟩, ⟨[0, 1], [1], [85], [], [], []⟩, ⟨[], [], [86], [], [], []⟩, ⟨[], [], [87], [], [], []⟩, ⟨[], [], [88], [], [], []⟩, ⟨[4, 5], [4, 5], [89], [], [], []⟩, ⟨[0, 1, 3, 4, 5, 6], [3, 6], [90], [1, 0], [2], [3]⟩, ⟨[], [], [91], [1], [], []⟩, ⟨[0, 1, 3, 4, 5, 6, 7, 8], [8], [92], [0], [3], [4]⟩, ⟨[0, 1, 2, 3, 4, 5, 6, 7, 8, 9], [2, 7, 9], [93], [], [], []⟩, ⟨[], [], [21], [], [], [5]⟩, ⟨[0, 1, 2, 3, 4, 5, 6, 7, 8, 9, 10, 11], [10, 11], [], [], [5], [6]⟩] [⟨none, none, []⟩, ⟨none, none, []⟩, ⟨none, (some 7), []⟩, ⟨(some 7), (some 9), []⟩, ⟨(some 9), none, []⟩, ⟨(some 11), (some 12), [21]⟩, ⟨(some 12), none, [21]⟩] [21, 83, 84, 85, 86, 87, 88, 89, 90, 91, 92, 93] [0, 1, 2] [0, 1, 4, 6] [0, 1, 2, 3, 4, 5, 6, 7, 8, 9, 10, 11] [fun Ep23 => Ep23 83 = .int .i64 y80_L21h, fun Ep23 => Ep23 84 = .string r23_1, fun Ep23 => Ep23 85 = .string ((⟨#[102]⟩ : ByteArray) ++ r23_1), fun Ep23 => Ep23 86 = .func (.func 67) #[] #[.pointer (some ⟨b6, 0, none⟩)], fun Ep23 => Ep23 87 = .int .i64 x39, fun Ep23 => Ep23 88 = .int .i64 gates4, fun Ep23 => Ep23 89 = .int .i64 x89, fun Ep23 => Ep23 90 = .int .i64 r23_7.1, fun Ep23 => Ep23 91 = .pointer (some ⟨b_s0, 0, none⟩), fun Ep23 => Ep23 92 = .bool r23_9.1, fun Ep23 => Ep23 93 = .agg #[.string ((⟨#[102]⟩ : ByteArray) ++ r23_1), .int .i64 6, .int .i64 r23_7.1, .int .i64 1, .bool r23_9.1], fun Ep23 => Ep23 21 = .pointer (some ⟨(blkOf (Ep23 21)), 0, none⟩), fun Ep23 => True] [fun Ep23 => ro ρ_L10, fun Ep23 => cells b6 23 [.pointer (some ⟨b_s0, 0, none⟩)], fun Ep23 => cells b_s0 25 [.slice A_s0_0 s0.L.length c_s0_0, .int .i64 b_s0_1_L21h], fun Ep23 => cells b_s0 25 [.slice A_s0_0 s0.L.length c_s0_0, .int .i64 r23_7.2], fun Ep23 => cells b_s0 25 [.slice A_s0_0 s0.L.length c_s0_0, .int .i64 r23_9.2], fun Ep23 => cells (blkOf (Ep23 21)) 149 [.string (⟨#[]⟩ : ByteArray), .int .i64 0, .int .i64 0, .int .i64 0, .bool false], fun Ep23 => cells (blkOf (Ep23 21)) 149 [.string ((⟨#[102]⟩ : ByteArray) ++ r23_1), .int .i64 6, .int .i64 r23_7.1, .int .i64 1, .bool r23_9.1]] mixed (by kernel_rfl) (((hS.pull 3).pull 1).pull 7) ?_ ?_
      · refine ⟨?_, ?_, ?_, ?_, ?_, ?_, ?_, ?_, ?_, ?_, ?_, ?_, ?_, trivial⟩
        · intro Ep23 w l' hE23 hO23 hF_ hS
          refine p (yl_move (hE23 20 rfl)) <| x_done <|
            ?_
          refine x_fin ⟨⟨_, rfl⟩, rfl, ?_⟩
          exact Eq.mp (by kernel_rfl) hS
        · intro Ep23 w l' hE23 hO23 hF_ hS
          obtain ⟨f23_0, -⟩ := hF_
          replace f23_0 : Ep23 83 = .int .i64 y80_L21h := Eq.mp (by kernel_rfl) f23_0
          replace hS : St w0 w (ro ρ_L10 :: l') := Eq.mp (by kernel_rfl) hS
          have hcall := c_strconv_Itoa hc23_1  hS
          refine o_cc call_66 (args1 f23_0) (hcall) ?_
          rintro e w' ⟨rfl, hS⟩
          refine ⟨_, rfl, ?_⟩
          refine x_done <|
            ?_
          refine x_fin ⟨⟨_, rfl⟩, rfl, ?_⟩
          exact Eq.mp (by kernel_rfl) hS
        · intro Ep23 w l' hE23 hO23 hF_ hS
          obtain ⟨f23_1, -⟩ := hF_
          replace f23_1 : Ep23 84 = .string r23_1 := Eq.mp (by kernel_rfl) f23_1
          refine p (yadds rfl f23_1 hk23_2) <| x_done <|
            ?_
          refine x_fin ⟨⟨_, rfl⟩, rfl, ?_⟩
          exact Eq.mp (by kernel_rfl) hS
        · intro Ep23 w l' hE23 hO23 hF_ hS
          refine p (yl_move ((hE23 16 rfl).trans eL21h_16)) <| x_done <|
            ?_
          refine x_fin ⟨⟨_, rfl⟩, rfl, ?_⟩
          exact Eq.mp (by kernel_rfl) hS
        · intro Ep23 w l' hE23 hO23 hF_ hS
          refine p (yl_move ((hE23 15 rfl).trans eL21h_15)) <| x_done <|
            ?_
          refine x_fin ⟨⟨_, rfl⟩, rfl, ?_⟩
          exact Eq.mp (by kernel_rfl) hS
        · intro Ep23 w l' hE23 hO23 hF_ hS
          refine p (yl_move ((hE23 4 rfl).trans eL21h_4)) <| x_done <|
            ?_
          refine x_fin ⟨⟨_, rfl⟩, rfl, ?_⟩
          exact Eq.mp (by kernel_rfl) hS
        · intro Ep23 w l' hE23 hO23 hF_ hS
          obtain ⟨f23_4, f23_5, -⟩ := hF_
          replace f23_4 : Ep23 87 = .int .i64 x39 := Eq.mp (by kernel_rfl) f23_4
          replace f23_5 : Ep23 88 = .int .i64 gates4 := Eq.mp (by kernel_rfl) f23_5
          refine p (yadd f23_4 f23_5 hx89) <| x_done <|
            ?_
          refine x_fin ⟨⟨_, rfl⟩, rfl, ?_⟩
          exact Eq.mp (by kernel_rfl) hS
        · intro Ep23 w l' hE23 hO23 hF_ hS
          obtain ⟨f23_3, f23_6, -⟩ := hF_
          replace f23_3 : Ep23 86 = .func (.func 67) #[] #[.pointer (some ⟨b6, 0, none⟩)] := Eq.mp (by kernel_rfl) f23_3
          replace f23_6 : Ep23 89 = .int .i64 x89 := Eq.mp (by kernel_rfl) f23_6
          replace hS : St w0 w (cells b6 23 [.pointer (some ⟨b_s0, 0, none⟩)] :: ro ρ_L10 :: cells b_s0 25 [.slice A_s0_0 s0.L.length c_s0_0, .int .i64 b_s0_1_L21h] :: l') := Eq.mp (by kernel_rfl) hS
          have hcall := c_maskmake_Stream_Placed_1 hc23_7 (h_s0_0.le hleρ_L10) (((hS.pull 1).pull 2).pull 2)
          refine o_ccv f23_3 call_67 (capargs (args1 f23_6)) hcall ?_
          rintro e w' ⟨rfl, hS⟩
          refine ⟨_, rfl, ?_⟩
          refine x_done <|
            ?_
          refine x_fin ⟨⟨_, rfl⟩, rfl, ?_⟩
          exact Eq.mp (by kernel_rfl) ((hS.pull 2).pull 2)
        · intro Ep23 w l' hE23 hO23 hF_ hS
          replace hS : St w0 w (cells b6 23 [.pointer (some ⟨b_s0, 0, none⟩)] :: l') := Eq.mp (by kernel_rfl) hS
          refine pa (at_load one_23 ((hE23 6 rfl).trans eL21h_6) (hS.cell rfl)) <| x_done <|
            ?_
          refine x_fin ⟨⟨_, rfl⟩, rfl, ?_⟩
          exact Eq.mp (by kernel_rfl) hS
        · intro Ep23 w l' hE23 hO23 hF_ hS
          obtain ⟨f23_8, -⟩ := hF_
          replace f23_8 : Ep23 91 = .pointer (some ⟨b_s0, 0, none⟩) := Eq.mp (by kernel_rfl) f23_8
          replace hS : St w0 w (ro ρ_L10 :: cells b_s0 25 [.slice A_s0_0 s0.L.length c_s0_0, .int .i64 r23_7.2] :: l') := Eq.mp (by kernel_rfl) hS
          have hcall := c_maskmake_Stream_Flip hc23_9 (h_s0_0.le hleρ_L10) (hS.pull 1)
          refine o_cc call_68 (args2 f23_8 rfl) hcall ?_
          rintro e w' ⟨rfl, hS⟩
          refine ⟨_, rfl, ?_⟩
          refine x_done <|
            ?_
          refine x_fin ⟨⟨_, rfl⟩, rfl, ?_⟩
          exact Eq.mp (by kernel_rfl) (hS.pull 1)
        · intro Ep23 w l' hE23 hO23 hF_ hS
          obtain ⟨f23_2, f23_7, f23_9, -⟩ := hF_
          replace f23_2 : Ep23 85 = .string ((⟨#[102]⟩ : ByteArray) ++ r23_1) := Eq.mp (by kernel_rfl) f23_2
          replace f23_7 : Ep23 90 = .int .i64 r23_7.1 := Eq.mp (by kernel_rfl) f23_7
          replace f23_9 : Ep23 92 = .bool r23_9.1 := Eq.mp (by kernel_rfl) f23_9
          refine p (v := .agg #[.string ((⟨#[102]⟩ : ByteArray) ++ r23_1), .int .i64 6, .int .i64 r23_7.1, .int .i64 1, .bool r23_9.1]) (yl_build bld_149 bldf_149 (parts_eq (pt (va := .string ((⟨#[102]⟩ : ByteArray) ++ r23_1)) f23_2 (pt (va := .int .i64 6) rfl (pt (va := .int .i64 r23_7.1) f23_7 (pt (va := .int .i64 1) rfl (pt (va := .bool r23_9.1) f23_9 pt0)))))) (by kernel_rfl)) <| x_done <|
            ?_
          refine x_fin ⟨⟨_, rfl⟩, rfl, ?_⟩
          exact Eq.mp (by kernel_rfl) hS
        · intro Ep23 w l' hE23 hO23 hF_ hS
          refine o_alloc zero_149 hS (fun b21 w' hS => ?_)
          refine x_done <|
            ?_
          refine x_fin ⟨⟨_, rfl⟩, rfl, ?_⟩
          exact Eq.mp (by kernel_rfl) hS
        · intro Ep23 w l' hE23 hO23 hF_ hS
          obtain ⟨f23_10, f23_11, -⟩ := hF_
          replace f23_10 : Ep23 93 = .agg #[.string ((⟨#[102]⟩ : ByteArray) ++ r23_1), .int .i64 6, .int .i64 r23_7.1, .int .i64 1, .bool r23_9.1] := Eq.mp (by kernel_rfl) f23_10
          replace f23_11 : Ep23 21 = .pointer (some ⟨(blkOf (Ep23 21)), 0, none⟩) := Eq.mp (by kernel_rfl) f23_11
          replace hS : St w0 w (cells (blkOf (Ep23 21)) 149 [.string (⟨#[]⟩ : ByteArray), .int .i64 0, .int .i64 0, .int .i64 0, .bool false] :: l') := Eq.mp (by kernel_rfl) hS
          refine o_storeAgg (news := [.string ((⟨#[102]⟩ : ByteArray) ++ r23_1), .int .i64 6, .int .i64 r23_7.1, .int .i64 1, .bool r23_9.1]) agg_149 f23_11 f23_10 rfl (by simp [over_length]) hS (fun w' hS => ?_)
          refine x_done <|
            ?_
          refine x_fin ⟨⟨undef, rfl⟩, trivial, ?_⟩
          exact Eq.mp (by kernel_rfl) hS
      intro Ep23 w' hE23 hF_ hS
      obtain ⟨f23_0, f23_1, f23_2, f23_3, f23_4, f23_5, f23_6, f23_7, f23_8, f23_9, f23_10, f23_11, -⟩ := hF_
      replace f23_0 : Ep23 83 = .int .i64 y80_L21h := Eq.mp (by kernel_rfl) f23_0
      replace f23_1 : Ep23 84 = .string r23_1 := Eq.mp (by kernel_rfl) f23_1
      replace f23_2 : Ep23 85 = .string ((⟨#[102]⟩ : ByteArray) ++ r23_1) := Eq.mp (by kernel_rfl) f23_2
      replace f23_3 : Ep23 86 = .func (.func 67) #[] #[.pointer (some ⟨b6, 0, none⟩)] := Eq.mp (by kernel_rfl) f23_3
      replace f23_4 : Ep23 87 = .int .i64 x39 := Eq.mp (by kernel_rfl) f23_4
      replace f23_5 : Ep23 88 = .int .i64 gates4 := Eq.mp (by kernel_rfl) f23_5
      replace f23_6 : Ep23 89 = .int .i64 x89 := Eq.mp (by kernel_rfl) f23_6
      replace f23_7 : Ep23 90 = .int .i64 r23_7.1 := Eq.mp (by kernel_rfl) f23_7
      replace f23_8 : Ep23 91 = .pointer (some ⟨b_s0, 0, none⟩) := Eq.mp (by kernel_rfl) f23_8
      replace f23_9 : Ep23 92 = .bool r23_9.1 := Eq.mp (by kernel_rfl) f23_9
      replace f23_10 : Ep23 93 = .agg #[.string ((⟨#[102]⟩ : ByteArray) ++ r23_1), .int .i64 6, .int .i64 r23_7.1, .int .i64 1, .bool r23_9.1] := Eq.mp (by kernel_rfl) f23_10
      replace f23_11 : Ep23 21 = .pointer (some ⟨(blkOf (Ep23 21)), 0, none⟩) := Eq.mp (by kernel_rfl) f23_11
      replace hS : St w0 w' (ro ρ_L10 :: cells b6 23 [.pointer (some ⟨b_s0, 0, none⟩)] :: cells b_s0 25 [.slice A_s0_0 s0.L.length c_s0_0, .int .i64 r23_9.2] :: cells (blkOf (Ep23 21)) 149 [.string ((⟨#[102]⟩ : ByteArray) ++ r23_1), .int .i64 6, .int .i64 r23_7.1, .int .i64 1, .bool r23_9.1] :: (cells b12 30 [.slice none 0 0, .slice none 0 0, .slice none 0 0, .slice none 0 0, .slice none 0 0] :: cells b13 30 [.slice A_b13_0_L3 b13_0_L3.length c_b13_0_L3, .slice none 0 0, .slice A_b13_2_L21h b13_2_L21h.length c_b13_2_L21h, .slice A_b13_3_L10 b13_3_L10.length c_b13_3_L10, .slice none 0 0] :: vec 9 RpS.sz (.slice A_b13_0_L3 b13_0_L3.length c_b13_0_L3) b13_0_L3.length cs_b13_0_L3 :: vec 149 R_api_Flop.sz (.slice A_b13_2_L21h b13_2_L21h.length c_b13_2_L21h) b13_2_L21h.length cs_b13_2_L21h :: vec 38 R_api_Gate.sz (.slice A_b13_3_L10 b13_3_L10.length c_b13_3_L10) b13_3_L10.length cs_b13_3_L10 :: l)) := Eq.mp (by kernel_rfl) hS
      replace hFL21 := bd_s hFL21; obtain ⟨r24_1, hc24_1, hFL21⟩ := hFL21
      refine x_seq <| x_seq <| x_region <| pa (at_load one_23 ((hE23 6 rfl).trans eL21h_6) ((hS.pull 1).cell rfl)) <|
        ?_
      have hcall := c_maskmake_Stream_Flip hc24_1 (h_s0_0.le hleρ_L10) (hS.pull 2)
      refine o_cc call_68 (args2 rfl rfl) hcall ?_
      rintro e w' ⟨rfl, hS⟩
      refine ⟨_, rfl, ?_⟩
      refine x_done <|
        ?_
      replace hFL21 := bd_s hFL21; obtain ⟨oc95, hFc95, hFL21⟩ := hFL21
      refine x_join (fun E w => ∃ (b_f21_c95 : Nat) (b_f21_c95_1_c95 : Int) (b_f21_c95_3_c95 : Int) (b_s0_1_c95 : Int), (b_f21_c95_1_c95, b_f21_c95_3_c95, b_s0_1_c95) = oc95 ∧ E 4 = .int .i64 gates4 ∧ E 5 = .int .i64 outs5 ∧ E 6 = .pointer (some ⟨b6, 0, none⟩) ∧ E 12 = .pointer (some ⟨b12, 0, none⟩) ∧ E 13 = .pointer (some ⟨b13, 0, none⟩) ∧ E 15 = .int .i64 x39 ∧ E 16 = .func (.func 67) #[] #[.pointer (some ⟨b6, 0, none⟩)] ∧ E 21 = .pointer (some ⟨b_f21_c95, 0, none⟩) ∧ E 79 = .int .i64 flops3 ∧ E 80 = .int .i64 y80_L21h ∧ St w0 w (cells b6 23 [.pointer (some ⟨b_s0, 0, none⟩)] :: cells b12 30 [.slice none 0 0, .slice none 0 0, .slice none 0 0, .slice none 0 0, .slice none 0 0] :: cells b13 30 [.slice A_b13_0_L3 b13_0_L3.length c_b13_0_L3, .slice none 0 0, .slice A_b13_2_L21h b13_2_L21h.length c_b13_2_L21h, .slice A_b13_3_L10 b13_3_L10.length c_b13_3_L10, .slice none 0 0] :: cells b_f21_c95 149 [.string ((⟨#[102]⟩ : ByteArray) ++ r23_1), .int .i64 b_f21_c95_1_c95, .int .i64 r23_7.1, .int .i64 b_f21_c95_3_c95, .bool r23_9.1] :: cells b_s0 25 [.slice A_s0_0 s0.L.length c_s0_0, .int .i64 b_s0_1_c95] :: vec 9 RpS.sz (.slice A_b13_0_L3 b13_0_L3.length c_b13_0_L3) b13_0_L3.length cs_b13_0_L3 :: vec 149 R_api_Flop.sz (.slice A_b13_2_L21h b13_2_L21h.length c_b13_2_L21h) b13_2_L21h.length cs_b13_2_L21h :: vec 38 R_api_Gate.sz (.slice A_b13_3_L10 b13_3_L10.length c_b13_3_L10) b13_3_L10.length cs_b13_3_L10 :: ro ρ_L10 :: l)) ?_ ?_
      · skip -- c95
        refine x_cond (t := r24_1.1) rfl (fun hc95 => ?_) (fun hc95 => ?_)
        · replace hFc95 := it_t hc95 hFc95
          refine x_seq <| x_region <| p (yl_field0 fld_149_1 f23_11) <|
            ?_
          refine o_store1 (v := .int .i64 7) one_3 rfl rfl rfl rfl (hS.pull 3) (fun w' hS => ?_)
          replace hFc95 := bd_s hFc95; obtain ⟨r26_1, hc26_1, hFc95⟩ := hFc95
          refine x_done <| x_seq <| x_region <| pa (at_load one_23 ((hE23 6 rfl).trans eL21h_6) ((hS.pull 3).cell rfl)) <|
            ?_
          have hcall := c_maskmake_Stream_Next hc26_1 (h_s0_0.le hleρ_L10) ((hS.pull 2).pull 2)
          refine o_cc call_14 (args2 rfl rfl) hcall ?_
          rintro e w' ⟨rfl, hS⟩
          refine ⟨_, rfl, ?_⟩
          refine p (yl_gtr rfl rfl) <| x_done <|
            ?_
          replace hFc95 := bd_s hFc95; obtain ⟨oc99, hFc99, hFc95⟩ := hFc95
          refine x_join (fun E w => ∃ (b_f21_c99 : Nat) (b_f21_c99_3_c99 : Int) (b_s0_1_c99 : Int), (b_f21_c99_3_c99, b_s0_1_c99) = oc99 ∧ E 4 = .int .i64 gates4 ∧ E 5 = .int .i64 outs5 ∧ E 6 = .pointer (some ⟨b6, 0, none⟩) ∧ E 12 = .pointer (some ⟨b12, 0, none⟩) ∧ E 13 = .pointer (some ⟨b13, 0, none⟩) ∧ E 15 = .int .i64 x39 ∧ E 16 = .func (.func 67) #[] #[.pointer (some ⟨b6, 0, none⟩)] ∧ E 21 = .pointer (some ⟨b_f21_c99, 0, none⟩) ∧ E 79 = .int .i64 flops3 ∧ E 80 = .int .i64 y80_L21h ∧ St w0 w (cells b6 23 [.pointer (some ⟨b_s0, 0, none⟩)] :: cells b12 30 [.slice none 0 0, .slice none 0 0, .slice none 0 0, .slice none 0 0, .slice none 0 0] :: cells b13 30 [.slice A_b13_0_L3 b13_0_L3.length c_b13_0_L3, .slice none 0 0, .slice A_b13_2_L21h b13_2_L21h.length c_b13_2_L21h, .slice A_b13_3_L10 b13_3_L10.length c_b13_3_L10, .slice none 0 0] :: cells b_f21_c99 149 [.string ((⟨#[102]⟩ : ByteArray) ++ r23_1), .int .i64 7, .int .i64 r23_7.1, .int .i64 b_f21_c99_3_c99, .bool r23_9.1] :: cells b_s0 25 [.slice A_s0_0 s0.L.length c_s0_0, .int .i64 b_s0_1_c99] :: vec 9 RpS.sz (.slice A_b13_0_L3 b13_0_L3.length c_b13_0_L3) b13_0_L3.length cs_b13_0_L3 :: vec 149 R_api_Flop.sz (.slice A_b13_2_L21h b13_2_L21h.length c_b13_2_L21h) b13_2_L21h.length cs_b13_2_L21h :: vec 38 R_api_Gate.sz (.slice A_b13_3_L10 b13_3_L10.length c_b13_3_L10) b13_3_L10.length cs_b13_3_L10 :: ro ρ_L10 :: l)) ?_ ?_
          · skip -- c99
            refine x_cond_p (0 < r26_1.1) rfl (fun hc99 => ?_) (fun hc99 => ?_)
            · replace hFc99 := it_t hc99 hFc99
              replace hFc99 := ar_s hFc99; obtain ⟨x103, hx103, hFc99⟩ := hFc99
              replace hFc99 := bd_s hFc99; obtain ⟨r27_4, hc27_4, hFc99⟩ := hFc99
              refine x_region <| p (yl_move ((hE23 16 rfl).trans eL21h_16)) <| p (yl_move ((hE23 15 rfl).trans eL21h_15)) <| p (yl_move ((hE23 4 rfl).trans eL21h_4)) <|
                p (yadd rfl rfl hx103) <|
                ?_
              have hcall := c_maskmake_Stream_Placed_1 hc27_4 (h_s0_0.le hleρ_L10) (((hS.pull 1).pull 1).pull 3)
              refine o_ccv rfl call_67 (capargs (args1 rfl)) hcall ?_
              rintro e w' ⟨rfl, hS⟩
              refine ⟨_, rfl, ?_⟩
              refine p (yl_field0 fld_149_3 f23_11) <|
                ?_
              refine o_store1 (v := .int .i64 r27_4.1) one_3 rfl rfl rfl rfl (hS.pull 3) (fun w' hS => ?_)
              refine x_done <|
                ?_
              exact x_inv ⟨(blkOf (Ep23 21)), r27_4.1, r27_4.2, (Option.some.inj (show some _ = some _ from hFc99)), ((hE23 4 rfl).trans eL21h_4), ((hE23 5 rfl).trans eL21h_5), ((hE23 6 rfl).trans eL21h_6), ((hE23 12 rfl).trans eL21h_12), ((hE23 13 rfl).trans eL21h_13), ((hE23 15 rfl).trans eL21h_15), ((hE23 16 rfl).trans eL21h_16), f23_11, ((hE23 79 rfl).trans eL21h_79), ((hE23 80 rfl).trans eL21h_80), (((((((((hS.pull 3).pull 8).pull 8).pull 8).pull 5).pull 5).pull 8).pull 8).pull 8)⟩
            · replace hFc99 := it_f hc99 hFc99
              refine x_skip <|
                ?_
              exact x_inv ⟨(blkOf (Ep23 21)), 1, r26_1.2, (Option.some.inj (show some _ = some _ from hFc99)), ((hE23 4 rfl).trans eL21h_4), ((hE23 5 rfl).trans eL21h_5), ((hE23 6 rfl).trans eL21h_6), ((hE23 12 rfl).trans eL21h_12), ((hE23 13 rfl).trans eL21h_13), ((hE23 15 rfl).trans eL21h_15), ((hE23 16 rfl).trans eL21h_16), f23_11, ((hE23 79 rfl).trans eL21h_79), ((hE23 80 rfl).trans eL21h_80), (((((((((hS.pull 1).pull 8).pull 8).pull 8).pull 4).pull 5).pull 8).pull 8).pull 8)⟩
          rintro E w ⟨b_f21_c99, b_f21_c99_3_c99, b_s0_1_c99, rfl, ec99_4, ec99_5, ec99_6, ec99_12, ec99_13, ec99_15, ec99_16, ec99_21, ec99_79, ec99_80, hS⟩
          exact x_inv ⟨b_f21_c99, 7, b_f21_c99_3_c99, b_s0_1_c99, (Option.some.inj (show some _ = some _ from hFc95)), ec99_4, ec99_5, ec99_6, ec99_12, ec99_13, ec99_15, ec99_16, ec99_21, ec99_79, ec99_80, (((((((((hS.pull 8).pull 8).pull 8).pull 8).pull 8).pull 8).pull 8).pull 8).pull 8)⟩
        · replace hFc95 := it_bf hc95 hFc95
          refine x_skip <|
            ?_
          exact x_inv ⟨(blkOf (Ep23 21)), 6, 1, r24_1.2, (Option.some.inj (show some _ = some _ from hFc95)), ((hE23 4 rfl).trans eL21h_4), ((hE23 5 rfl).trans eL21h_5), ((hE23 6 rfl).trans eL21h_6), ((hE23 12 rfl).trans eL21h_12), ((hE23 13 rfl).trans eL21h_13), ((hE23 15 rfl).trans eL21h_15), ((hE23 16 rfl).trans eL21h_16), f23_11, ((hE23 79 rfl).trans eL21h_79), ((hE23 80 rfl).trans eL21h_80), (((((((((hS.pull 1).pull 8).pull 8).pull 8).pull 4).pull 6).pull 8).pull 8).pull 8)⟩
      rintro E w ⟨b_f21_c95, b_f21_c95_1_c95, b_f21_c95_3_c95, b_s0_1_c95, rfl, ec95_4, ec95_5, ec95_6, ec95_12, ec95_13, ec95_15, ec95_16, ec95_21, ec95_79, ec95_80, hS⟩
      refine x_region <| p (yl_field0 fld_30_2 ec95_13) <| pa (at_load one_27 rfl ((hS.pull 2).cell rfl)) <| pa (v := .agg #[.string ((⟨#[102]⟩ : ByteArray) ++ r23_1), .int .i64 b_f21_c95_1_c95, .int .i64 r23_7.1, .int .i64 b_f21_c95_3_c95, .bool r23_9.1]) (ld_sub agg_149 ec95_21 rfl rfl (hS.pull 3)) <|
        ?_
      refine o_buildSlice (vs := [.agg #[.string ((⟨#[102]⟩ : ByteArray) ++ r23_1), .int .i64 b_f21_c95_1_c95, .int .i64 r23_7.1, .int .i64 b_f21_c95_3_c95, .bool r23_9.1]]) (cs := [.string ((⟨#[102]⟩ : ByteArray) ++ r23_1), .int .i64 b_f21_c95_1_c95, .int .i64 r23_7.1, .int .i64 b_f21_c95_3_c95, .bool r23_9.1]) sl_27 zero_149 (parts_eq (pt (va := .agg #[.string ((⟨#[102]⟩ : ByteArray) ++ r23_1), .int .i64 b_f21_c95_1_c95, .int .i64 r23_7.1, .int .i64 b_f21_c95_3_c95, .bool r23_9.1]) rfl pt0)) rfl (by intro v hv; simp only [List.mem_cons, List.not_mem_nil, or_false] at hv; first | (subst hv; rfl) | (rcases hv with rfl <;> rfl)) (by decide) rfl hS (fun b109 w' hS => ?_)
      replace hFL21 := lv_s hFL21; obtain ⟨z28_4, hz28_4, hFL21⟩ := hFL21
      replace hFL21 := ck_s hFL21; obtain ⟨hk28_4, hFL21⟩ := hFL21
      refine o_ap sl_27 zero_149 rfl (by decide) rfl rfl (hS.pull 7) h_b13_2_L21h (src_blk usl_27 hS rfl rfl) (RepL.cons (R := R_api_Flop) (ρ := ρ_L10) (x := (T_api_Flop.mk ((⟨#[102]⟩ : ByteArray) ++ r23_1) b_f21_c95_1_c95 r23_7.1 b_f21_c95_3_c95 r23_9.1)) (cs := [.string ((⟨#[102]⟩ : ByteArray) ++ r23_1), .int .i64 b_f21_c95_1_c95, .int .i64 r23_7.1, .int .i64 b_f21_c95_3_c95, .bool r23_9.1]) rfl RepL.nil) hz28_4 hk28_4 (fun A110 c110 cs110 w' hr110 hS => ?_)
      refine p (yl_field0 fld_30_2 ec95_13) <|
        ?_
      refine o_store1 (v := .slice A110 z28_4.length c110) one_27 rfl rfl rfl rfl (hS.pull 4) (fun w' hS => ?_)
      replace hFL21 := ar_s hFL21; obtain ⟨x112, hx112, hFL21⟩ := hFL21
      refine x_done <| x_blk <| x_region <| p (yadd ec95_80 rfl hx112) <|
        p (yl_move rfl) <| x_done <|
        ?_
      have e_ := Option.some.inj (show some _ = some _ from hFL21); subst e_
      exact x_inv ⟨kL21, Nat.lt_succ_self _, A110, z28_4.length, c110, cs110, x112, z28_4, b_s0_1_c95, hLL21, ec95_4, ec95_5, ec95_6, ec95_12, ec95_13, ec95_15, ec95_16, ec95_79, rfl, hr110, ((((((((((hS.pull 2).drop.pull 4).drop.pull 7).pull 7).pull 3).pull 7).pull 7).pull 5).pull 7).pull 7)⟩
    · replace hFL21 := it_f hc81 hFL21
      refine x_exitTo _ rfl <|
        ?_
      have e_ := Option.some.inj (show some _ = some _ from hFL21); subst e_
      exact x_inv ⟨A_b13_2_L21h, b13_2_L21h.length, c_b13_2_L21h, cs_b13_2_L21h, b13_2_L21h, b_s0_1_L21h, hLL21, eL21h_4, eL21h_5, eL21h_12, eL21h_13, eL21h_15, eL21h_16, h_b13_2_L21h, ((((((((hS.pull 7).pull 7).pull 7).pull 7).pull 7).pull 5).pull 7).pull 7)⟩
  rintro E w ⟨A_b13_2_L21, n_b13_2_L21, c_b13_2_L21, cs_b13_2_L21, b13_2_L21, b_s0_1_L21, rfl, eL21_4, eL21_5, eL21_12, eL21_13, eL21_15, eL21_16, h_b13_2_L21, hS⟩
  have e_ := St.vec_n (hS.pull 5) h_b13_2_L21; subst e_
  refine x_seq <| x_seq <| x_region <| p (yl_move eL21_5) <|
    p (yl_move rfl) <| x_done <|
    ?_
  replace hF := bd_s hF; obtain ⟨oL31, hLL31, hF⟩ := hF
  refine x_join (fun E w => ∃ (A_b13_1_L31 : Option Addr) (n_b13_1_L31 : Nat) (c_b13_1_L31 : Nat) (cs_b13_1_L31 : List Value) (A_b13_4_L31 : Option Addr) (n_b13_4_L31 : Nat) (c_b13_4_L31 : Nat) (cs_b13_4_L31 : List Value) (b13_1_L31 : List ByteArray) (b13_4_L31 : List Int) (b_s0_1_L31 : Int), (b13_1_L31, b13_4_L31, b_s0_1_L31) = oL31 ∧ E 12 = .pointer (some ⟨b12, 0, none⟩) ∧ E 13 = .pointer (some ⟨b13, 0, none⟩) ∧ RepL RpS ρ_L10 b13_1_L31 cs_b13_1_L31 ∧ RepL (RpI .i64) ρ_L10 b13_4_L31 cs_b13_4_L31 ∧ St w0 w (cells b12 30 [.slice none 0 0, .slice none 0 0, .slice none 0 0, .slice none 0 0, .slice none 0 0] :: cells b13 30 [.slice A_b13_0_L3 b13_0_L3.length c_b13_0_L3, .slice A_b13_1_L31 n_b13_1_L31 c_b13_1_L31, .slice A_b13_2_L21 b13_2_L21.length c_b13_2_L21, .slice A_b13_3_L10 b13_3_L10.length c_b13_3_L10, .slice A_b13_4_L31 n_b13_4_L31 c_b13_4_L31] :: cells b_s0 25 [.slice A_s0_0 s0.L.length c_s0_0, .int .i64 b_s0_1_L31] :: vec 9 RpS.sz (.slice A_b13_0_L3 b13_0_L3.length c_b13_0_L3) b13_0_L3.length cs_b13_0_L3 :: vec 9 RpS.sz (.slice A_b13_1_L31 n_b13_1_L31 c_b13_1_L31) n_b13_1_L31 cs_b13_1_L31 :: vec 149 R_api_Flop.sz (.slice A_b13_2_L21 b13_2_L21.length c_b13_2_L21) b13_2_L21.length cs_b13_2_L21 :: vec 38 R_api_Gate.sz (.slice A_b13_3_L10 b13_3_L10.length c_b13_3_L10) b13_3_L10.length cs_b13_3_L10 :: vec 3 (RpI .i64).sz (.slice A_b13_4_L31 n_b13_4_L31 c_b13_4_L31) n_b13_4_L31 cs_b13_4_L31 :: ro ρ_L10 :: l)) ?_ ?_
  · skip -- L31
    refine x_block ?_
    replace hS := St.vec_nil hS 9 RpS.sz
    have hnil_A_b13_1_L31h : RepL RpS ρ_L10 [] [] := rfl
    replace hS := St.vec_nil hS 3 (RpI .i64).sz
    have hnil_A_b13_4_L31h : RepL (RpI .i64) ρ_L10 [] [] := rfl
    refine x_loop (fun k_ E w => ∃ (A_b13_1_L31h : Option Addr) (n_b13_1_L31h : Nat) (c_b13_1_L31h : Nat) (cs_b13_1_L31h : List Value) (A_b13_4_L31h : Option Addr) (n_b13_4_L31h : Nat) (c_b13_4_L31h : Nat) (cs_b13_4_L31h : List Value) (y114_L31h : Int) (b13_1_L31h : List ByteArray) (b13_4_L31h : List Int) (b_s0_1_L31h : Int), lp (P_maskmake_Stream_Placed_L31 s0 gates4 outs5 x39) k_ (y114_L31h, b13_1_L31h, b13_4_L31h, b_s0_1_L31h) = some oL31 ∧ E 4 = .int .i64 gates4 ∧ E 12 = .pointer (some ⟨b12, 0, none⟩) ∧ E 13 = .pointer (some ⟨b13, 0, none⟩) ∧ E 15 = .int .i64 x39 ∧ E 16 = .func (.func 67) #[] #[.pointer (some ⟨b6, 0, none⟩)] ∧ E 113 = .int .i64 outs5 ∧ E 114 = .int .i64 y114_L31h ∧ RepL RpS ρ_L10 b13_1_L31h cs_b13_1_L31h ∧ RepL (RpI .i64) ρ_L10 b13_4_L31h cs_b13_4_L31h ∧ St w0 w (cells b12 30 [.slice none 0 0, .slice none 0 0, .slice none 0 0, .slice none 0 0, .slice none 0 0] :: cells b13 30 [.slice A_b13_0_L3 b13_0_L3.length c_b13_0_L3, .slice A_b13_1_L31h n_b13_1_L31h c_b13_1_L31h, .slice A_b13_2_L21 b13_2_L21.length c_b13_2_L21, .slice A_b13_3_L10 b13_3_L10.length c_b13_3_L10, .slice A_b13_4_L31h n_b13_4_L31h c_b13_4_L31h] :: cells b6 23 [.pointer (some ⟨b_s0, 0, none⟩)] :: cells b_s0 25 [.slice A_s0_0 s0.L.length c_s0_0, .int .i64 b_s0_1_L31h] :: vec 9 RpS.sz (.slice A_b13_0_L3 b13_0_L3.length c_b13_0_L3) b13_0_L3.length cs_b13_0_L3 :: vec 9 RpS.sz (.slice A_b13_1_L31h n_b13_1_L31h c_b13_1_L31h) n_b13_1_L31h cs_b13_1_L31h :: vec 149 R_api_Flop.sz (.slice A_b13_2_L21 b13_2_L21.length c_b13_2_L21) b13_2_L21.length cs_b13_2_L21 :: vec 38 R_api_Gate.sz (.slice A_b13_3_L10 b13_3_L10.length c_b13_3_L10) b13_3_L10.length cs_b13_3_L10 :: vec 3 (RpI .i64).sz (.slice A_b13_4_L31h n_b13_4_L31h c_b13_4_L31h) n_b13_4_L31h cs_b13_4_L31h :: ro ρ_L10 :: l)) fuel ⟨none, 0, 0, [], none, 0, 0, [], 0, [], [], b_s0_1_L21, hLL31, eL21_4, eL21_12, eL21_13, eL21_15, eL21_16, rfl, rfl, hnil_A_b13_1_L31h, hnil_A_b13_4_L31h, ((((((((((hS.pull 9).pull 1).pull 9).pull 9).pull 4).pull 9).pull 9).pull 9).pull 9).pull 9)⟩ ?_
    rintro kL31 E w ⟨A_b13_1_L31h, n_b13_1_L31h, c_b13_1_L31h, cs_b13_1_L31h, A_b13_4_L31h, n_b13_4_L31h, c_b13_4_L31h, cs_b13_4_L31h, y114_L31h, b13_1_L31h, b13_4_L31h, b_s0_1_L31h, hLL31, eL31h_4, eL31h_12, eL31h_13, eL31h_15, eL31h_16, eL31h_113, eL31h_114, h_b13_1_L31h, h_b13_4_L31h, hS⟩
    have e_ := St.vec_n (hS.pull 5) h_b13_1_L31h; subst e_
    have e_ := St.vec_n (hS.pull 8) h_b13_4_L31h; subst e_
    replace hLL31 := lp_s hLL31; obtain ⟨kL31, obL31, rfl, hFL31, hLL31⟩ := hLL31
    refine x_seq <| x_region <| p (yl_lss eL31h_114 eL31h_113) <| x_done <|
      x_seq <|
      x_cond_p (y114_L31h < outs5) rfl (fun hc115 => ?_) (fun hc115 => ?_)
    · replace hFL31 := it_t hc115 hFL31
      refine x_skip <| x_seq <| x_block <| x_seq <|
        x_region <| p (yl_move eL31h_114) <| p (yl_assign rfl) <| x_done <|
        ?_
      replace hFL31 := bd_s hFL31; obtain ⟨r33_3, hc33_3, hFL31⟩ := hFL31
      replace hFL31 := ck_s hFL31; obtain ⟨hk33_4, hFL31⟩ := hFL31
      replace hFL31 := lv_s hFL31; obtain ⟨z33_6, hz33_6, hFL31⟩ := hFL31
      replace hFL31 := ck_s hFL31; obtain ⟨hk33_6, hFL31⟩ := hFL31
      replace hFL31 := ar_s hFL31; obtain ⟨x129, hx129, hFL31⟩ := hFL31
      replace hFL31 := bd_s hFL31; obtain ⟨r33_13, hc33_13, hFL31⟩ := hFL31
      replace hFL31 := lv_s hFL31; obtain ⟨z33_15, hz33_15, hFL31⟩ := hFL31
      replace hFL31 := ck_s hFL31; obtain ⟨hk33_15, hFL31⟩ := hFL31
      refine x_par (w0 := w0) [⟨[], [], [117], [], [], []⟩, ⟨[0], [0], [118], [0], [], []⟩, ⟨[], [], [119], [], [], []⟩, ⟨[2], [2], [120], [1], [], []⟩, ⟨[2, 3], [3], [121], [], [], []⟩, ⟨[2, 3, 4], [4], [122], [], [], [2]⟩, ⟨[0, 1, 2, 3, 4, 5], [1, 5], [123], [2, 1], [3], [4]⟩, ⟨[], [], [124], [], [], []⟩, ⟨[7], [7], [125], [0], [], []⟩, ⟨[], [], [126], [], [], []⟩, ⟨[], [], [127], [], [], []⟩, ⟨[], [], [128], [], [], []⟩, ⟨[10, 11], [10, 11], [129], [], [], []⟩, ⟨[0, 1, 2, 3, 4, 5, 6, 9, 10, 11, 12], [9, 12], [130], [5, 1], [6], [7]⟩, ⟨[0, 1, 2, 3, 4, 5, 6, 9, 10, 11, 12, 13], [13], [131], [], [], [8]⟩, ⟨[0, 1, 2, 3, 4, 5, 6, 7, 8, 9, 10, 11, 12, 13, 14], [8, 14], [132], [8, 1], [9], [10]⟩, ⟨[0, 1, 2, 3, 4, 5, 6, 7, 8], [], [133], [], [], []⟩, ⟨[0, 1, 2, 3, 4, 5, 6, 7, 8, 9, 10, 11, 12, 13, 14, 15, 16], [6, 16], [], [], [0], [11]⟩, ⟨[0, 1, 2, 3, 4, 5, 6, 7, 8, 9, 10, 11, 12, 13, 14, 15, 16, 17], [], [134], [], [], []⟩, ⟨[0, 1, 2, 3, 4, 5, 6, 7, 8, 9, 10, 11, 12, 13, 14, 15, 16, 17, 18], [6, 15, 18], [], [], [11], [12]⟩] [⟨none, (some 17), []⟩, ⟨none, none, []⟩, ⟨(some 5), none, [122]⟩, ⟨none, (some 6), []⟩, ⟨(some 6), none, [123]⟩, ⟨none, none, []⟩, ⟨none, (some 13), []⟩, ⟨(some 13), none, []⟩, ⟨(some 14), none, [131]⟩, ⟨none, (some 15), []⟩, ⟨(some 15), none, [132]⟩, ⟨(some 17), (some 19), [123]⟩, ⟨(some 19), none, [123, 132]⟩] [117, 118, 119, 120, 121, 122, 123, 124, 125, 126, 127, 128, 129, 130, 131, 132, 133, 134] [0, 1, 3, 5, 6, 9] [1, 2, 4, 5, 7, 8, 10, 12] [0, 1, 2, 3, 4, 5, 6, 7, 8, 9, 10, 11, 12, 13, 14, 15, 16, 18] [fun Ep33 => Ep33 117 = .pointer (some ⟨b13, 1, none⟩), fun Ep33 => Ep33 118 = .slice A_b13_1_L31h b13_1_L31h.length c_b13_1_L31h, fun Ep33 => Ep33 119 = .int .i64 y114_L31h, fun Ep33 => Ep33 120 = .string r33_3, fun Ep33 => Ep33 121 = .string ((⟨#[111]⟩ : ByteArray) ++ r33_3), fun Ep33 => Ep33 122 = .slice (some ⟨(blkOf (Ep33 122)), 0, none⟩) 1 1, fun Ep33 => Ep33 123 = .slice (adOf (Ep33 123)) z33_6.length (capOf (Ep33 123)), fun Ep33 => Ep33 124 = .pointer (some ⟨b13, 4, none⟩), fun Ep33 => Ep33 125 = .slice A_b13_4_L31h b13_4_L31h.length c_b13_4_L31h, fun Ep33 => Ep33 126 = .func (.func 67) #[] #[.pointer (some ⟨b6, 0, none⟩)], fun Ep33 => Ep33 127 = .int .i64 x39, fun Ep33 => Ep33 128 = .int .i64 gates4, fun Ep33 => Ep33 129 = .int .i64 x129, fun Ep33 => Ep33 130 = .int .i64 r33_13.1, fun Ep33 => Ep33 131 = .slice (some ⟨(blkOf (Ep33 131)), 0, none⟩) 1 1, fun Ep33 => Ep33 132 = .slice (adOf (Ep33 132)) z33_15.length (capOf (Ep33 132)), fun Ep33 => Ep33 133 = .pointer (some ⟨b13, 1, none⟩), fun Ep33 => True, fun Ep33 => Ep33 134 = .pointer (some ⟨b13, 4, none⟩), fun Ep33 => True] [fun Ep33 => cells b13 30 [.slice A_b13_0_L3 b13_0_L3.length c_b13_0_L3, .slice A_b13_1_L31h b13_1_L31h.length c_b13_1_L31h, .slice A_b13_2_L21 b13_2_L21.length c_b13_2_L21, .slice A_b13_3_L10 b13_3_L10.length c_b13_3_L10, .slice A_b13_4_L31h b13_4_L31h.length c_b13_4_L31h], fun Ep33 => ro ρ_L10, fun Ep33 => cells (blkOf (Ep33 122)) 9 [.string ((⟨#[111]⟩ : ByteArray) ++ r33_3)], fun Ep33 => vec 9 RpS.sz (.slice A_b13_1_L31h b13_1_L31h.length c_b13_1_L31h) b13_1_L31h.length cs_b13_1_L31h, fun Ep33 => bunA (fun (cs123 : List Value) => RepL RpS ρ_L10 z33_6 cs123) (fun (cs123 : List Value) => [vec 9 RpS.sz (.slice (adOf (Ep33 123)) z33_6.length (capOf (Ep33 123))) z33_6.length cs123]), fun Ep33 => cells b6 23 [.pointer (some ⟨b_s0, 0, none⟩)], fun Ep33 => cells b_s0 25 [.slice A_s0_0 s0.L.length c_s0_0, .int .i64 b_s0_1_L31h], fun Ep33 => cells b_s0 25 [.slice A_s0_0 s0.L.length c_s0_0, .int .i64 r33_13.2], fun Ep33 => cells (blkOf (Ep33 131)) 3 [.int .i64 r33_13.1], fun Ep33 => vec 3 (RpI .i64).sz (.slice A_b13_4_L31h b13_4_L31h.length c_b13_4_L31h) b13_4_L31h.length cs_b13_4_L31h, fun Ep33 => bunA (fun (cs132 : List Value) => RepL (RpI .i64) ρ_L10 z33_15 cs132) (fun (cs132 : List Value) => [vec 3 (RpI .i64).sz (.slice (adOf (Ep33 132)) z33_15.length (capOf (Ep33 132))) z33_15.length cs132]), fun Ep33 => cells b13 30 [.slice A_b13_0_L3 b13_0_L3.length c_b13_0_L3, .slice (adOf (Ep33 123)) z33_6.length (capOf (Ep33 123)), .slice A_b13_2_L21 b13_2_L21.length c_b13_2_L21, .slice A_b13_3_L10 b13_3_L10.length c_b13_3_L10, .slice A_b13_4_L31h b13_4_L31h.length c_b13_4_L31h], fun Ep33 => cells b13 30 [.slice A_b13_0_L3 b13_0_L3.length c_b13_0_L3, .slice (adOf (Ep33 123)) z33_6.length (capOf (Ep33 123)), .slice A_b13_2_L21 b13_2_L21.length c_b13_2_L21, .slice A_b13_3_L10 b13_3_L10.length c_b13_3_L10, .slice (adOf (Ep33 132)) z33_15.length (capOf (Ep33 132))]] mixed (by kernel_rfl) ((((((hS.pull 8).pull 4).pull 4).pull 6).pull 9).pull 6) ?_ ?_
      · refine ⟨?_, ?_, ?_, ?_, ?_, ?_, ?_, ?_, ?_, ?_, ?_, ?_, ?_, ?_, ?_, ?_, ?_, ?_, ?_, ?_, trivial⟩
        · intro Ep33 w l' hE33 hO33 hF_ hS
          refine p (yl_field0 fld_30_1 ((hE33 13 rfl).trans eL31h_13)) <| x_done <|
            ?_
          refine x_fin ⟨⟨_, rfl⟩, rfl, ?_⟩
          exact Eq.mp (by kernel_rfl) hS
        · intro Ep33 w l' hE33 hO33 hF_ hS
          obtain ⟨f33_0, -⟩ := hF_
          replace f33_0 : Ep33 117 = .pointer (some ⟨b13, 1, none⟩) := Eq.mp (by kernel_rfl) f33_0
          replace hS : St w0 w (cells b13 30 [.slice A_b13_0_L3 b13_0_L3.length c_b13_0_L3, .slice A_b13_1_L31h b13_1_L31h.length c_b13_1_L31h, .slice A_b13_2_L21 b13_2_L21.length c_b13_2_L21, .slice A_b13_3_L10 b13_3_L10.length c_b13_3_L10, .slice A_b13_4_L31h b13_4_L31h.length c_b13_4_L31h] :: l') := Eq.mp (by kernel_rfl) hS
          refine pa (at_load one_26 f33_0 (hS.cell rfl)) <| x_done <|
            ?_
          refine x_fin ⟨⟨_, rfl⟩, rfl, ?_⟩
          exact Eq.mp (by kernel_rfl) hS
        · intro Ep33 w l' hE33 hO33 hF_ hS
          refine p (yl_move (hE33 22 rfl)) <| x_done <|
            ?_
          refine x_fin ⟨⟨_, rfl⟩, rfl, ?_⟩
          exact Eq.mp (by kernel_rfl) hS
        · intro Ep33 w l' hE33 hO33 hF_ hS
          obtain ⟨f33_2, -⟩ := hF_
          replace f33_2 : Ep33 119 = .int .i64 y114_L31h := Eq.mp (by kernel_rfl) f33_2
          replace hS : St w0 w (ro ρ_L10 :: l') := Eq.mp (by kernel_rfl) hS
          have hcall := c_strconv_Itoa hc33_3  hS
          refine o_cc call_66 (args1 f33_2) (hcall) ?_
          rintro e w' ⟨rfl, hS⟩
          refine ⟨_, rfl, ?_⟩
          refine x_done <|
            ?_
          refine x_fin ⟨⟨_, rfl⟩, rfl, ?_⟩
          exact Eq.mp (by kernel_rfl) hS
        · intro Ep33 w l' hE33 hO33 hF_ hS
          obtain ⟨f33_3, -⟩ := hF_
          replace f33_3 : Ep33 120 = .string r33_3 := Eq.mp (by kernel_rfl) f33_3
          refine p (yadds rfl f33_3 hk33_4) <| x_done <|
            ?_
          refine x_fin ⟨⟨_, rfl⟩, rfl, ?_⟩
          exact Eq.mp (by kernel_rfl) hS
        · intro Ep33 w l' hE33 hO33 hF_ hS
          obtain ⟨f33_4, -⟩ := hF_
          replace f33_4 : Ep33 121 = .string ((⟨#[111]⟩ : ByteArray) ++ r33_3) := Eq.mp (by kernel_rfl) f33_4
          refine o_buildSlice (vs := [.string ((⟨#[111]⟩ : ByteArray) ++ r33_3)]) (cs := [.string ((⟨#[111]⟩ : ByteArray) ++ r33_3)]) sl_26 zero_9 (parts_eq (pt (va := .string ((⟨#[111]⟩ : ByteArray) ++ r33_3)) f33_4 pt0)) rfl (by intro v hv; simp only [List.mem_cons, List.not_mem_nil, or_false] at hv; first | (subst hv; rfl) | (rcases hv with rfl <;> rfl)) (by decide) rfl hS (fun b122 w' hS => ?_)
          refine x_done <|
            ?_
          refine x_fin ⟨⟨_, rfl⟩, rfl, ?_⟩
          exact Eq.mp (by kernel_rfl) hS
        · intro Ep33 w l' hE33 hO33 hF_ hS
          obtain ⟨f33_1, f33_5, -⟩ := hF_
          replace f33_1 : Ep33 118 = .slice A_b13_1_L31h b13_1_L31h.length c_b13_1_L31h := Eq.mp (by kernel_rfl) f33_1
          replace f33_5 : Ep33 122 = .slice (some ⟨(blkOf (Ep33 122)), 0, none⟩) 1 1 := Eq.mp (by kernel_rfl) f33_5
          replace hS : St w0 w (cells (blkOf (Ep33 122)) 9 [.string ((⟨#[111]⟩ : ByteArray) ++ r33_3)] :: ro ρ_L10 :: vec 9 RpS.sz (.slice A_b13_1_L31h b13_1_L31h.length c_b13_1_L31h) b13_1_L31h.length cs_b13_1_L31h :: l') := Eq.mp (by kernel_rfl) hS
          refine o_ap sl_26 zero_9 rfl (by decide) f33_1 f33_5 (hS.pull 2) h_b13_1_L31h (src_blk usl_26 hS rfl rfl) (RepL.cons (R := RpS) (ρ := ρ_L10) (x := (⟨#[111]⟩ : ByteArray) ++ r33_3) (cs := [.string ((⟨#[111]⟩ : ByteArray) ++ r33_3)]) rfl RepL.nil) hz33_6 hk33_6 (fun A123 c123 cs123 w' hr123 hS => ?_)
          refine x_done <|
            ?_
          refine x_fin ⟨⟨_, rfl⟩, rfl, ?_⟩
          replace hS := St.bun (Φ := (fun (cs123 : List Value) => RepL RpS ρ_L10 z33_6 cs123)) (L := (fun (cs123 : List Value) => [vec 9 RpS.sz (.slice A123 z33_6.length c123) z33_6.length cs123])) cs123 hr123 hS
          exact Eq.mp (by kernel_rfl) ((hS.pull 2).pull 2)
        · intro Ep33 w l' hE33 hO33 hF_ hS
          refine p (yl_field0 fld_30_4 ((hE33 13 rfl).trans eL31h_13)) <| x_done <|
            ?_
          refine x_fin ⟨⟨_, rfl⟩, rfl, ?_⟩
          exact Eq.mp (by kernel_rfl) hS
        · intro Ep33 w l' hE33 hO33 hF_ hS
          obtain ⟨f33_7, -⟩ := hF_
          replace f33_7 : Ep33 124 = .pointer (some ⟨b13, 4, none⟩) := Eq.mp (by kernel_rfl) f33_7
          replace hS : St w0 w (cells b13 30 [.slice A_b13_0_L3 b13_0_L3.length c_b13_0_L3, .slice A_b13_1_L31h b13_1_L31h.length c_b13_1_L31h, .slice A_b13_2_L21 b13_2_L21.length c_b13_2_L21, .slice A_b13_3_L10 b13_3_L10.length c_b13_3_L10, .slice A_b13_4_L31h b13_4_L31h.length c_b13_4_L31h] :: l') := Eq.mp (by kernel_rfl) hS
          refine pa (at_load one_22 f33_7 (hS.cell rfl)) <| x_done <|
            ?_
          refine x_fin ⟨⟨_, rfl⟩, rfl, ?_⟩
          exact Eq.mp (by kernel_rfl) hS
        · intro Ep33 w l' hE33 hO33 hF_ hS
          refine p (yl_move ((hE33 16 rfl).trans eL31h_16)) <| x_done <|
            ?_
          refine x_fin ⟨⟨_, rfl⟩, rfl, ?_⟩
          exact Eq.mp (by kernel_rfl) hS
        · intro Ep33 w l' hE33 hO33 hF_ hS
          refine p (yl_move ((hE33 15 rfl).trans eL31h_15)) <| x_done <|
            ?_
          refine x_fin ⟨⟨_, rfl⟩, rfl, ?_⟩
          exact Eq.mp (by kernel_rfl) hS
        · intro Ep33 w l' hE33 hO33 hF_ hS
          refine p (yl_move ((hE33 4 rfl).trans eL31h_4)) <| x_done <|
            ?_
          refine x_fin ⟨⟨_, rfl⟩, rfl, ?_⟩
          exact Eq.mp (by kernel_rfl) hS
        · intro Ep33 w l' hE33 hO33 hF_ hS
          obtain ⟨f33_10, f33_11, -⟩ := hF_
          replace f33_10 : Ep33 127 = .int .i64 x39 := Eq.mp (by kernel_rfl) f33_10
          replace f33_11 : Ep33 128 = .int .i64 gates4 := Eq.mp (by kernel_rfl) f33_11
          refine p (yadd f33_10 f33_11 hx129) <| x_done <|
            ?_
          refine x_fin ⟨⟨_, rfl⟩, rfl, ?_⟩
          exact Eq.mp (by kernel_rfl) hS
        · intro Ep33 w l' hE33 hO33 hF_ hS
          obtain ⟨f33_9, f33_12, -⟩ := hF_
          replace f33_9 : Ep33 126 = .func (.func 67) #[] #[.pointer (some ⟨b6, 0, none⟩)] := Eq.mp (by kernel_rfl) f33_9
          replace f33_12 : Ep33 129 = .int .i64 x129 := Eq.mp (by kernel_rfl) f33_12
          replace hS : St w0 w (cells b6 23 [.pointer (some ⟨b_s0, 0, none⟩)] :: ro ρ_L10 :: cells b_s0 25 [.slice A_s0_0 s0.L.length c_s0_0, .int .i64 b_s0_1_L31h] :: l') := Eq.mp (by kernel_rfl) hS
          have hcall := c_maskmake_Stream_Placed_1 hc33_13 (h_s0_0.le hleρ_L10) (((hS.pull 1).pull 2).pull 2)
          refine o_ccv f33_9 call_67 (capargs (args1 f33_12)) hcall ?_
          rintro e w' ⟨rfl, hS⟩
          refine ⟨_, rfl, ?_⟩
          refine x_done <|
            ?_
          refine x_fin ⟨⟨_, rfl⟩, rfl, ?_⟩
          exact Eq.mp (by kernel_rfl) ((hS.pull 2).pull 2)
        · intro Ep33 w l' hE33 hO33 hF_ hS
          obtain ⟨f33_13, -⟩ := hF_
          replace f33_13 : Ep33 130 = .int .i64 r33_13.1 := Eq.mp (by kernel_rfl) f33_13
          refine o_buildSlice (vs := [.int .i64 r33_13.1]) (cs := [.int .i64 r33_13.1]) sl_22 zero_3 (parts_eq (pt (va := .int .i64 r33_13.1) f33_13 pt0)) rfl (by intro v hv; simp only [List.mem_cons, List.not_mem_nil, or_false] at hv; first | (subst hv; rfl) | (rcases hv with rfl <;> rfl)) (by decide) rfl hS (fun b131 w' hS => ?_)
          refine x_done <|
            ?_
          refine x_fin ⟨⟨_, rfl⟩, rfl, ?_⟩
          exact Eq.mp (by kernel_rfl) hS
        · intro Ep33 w l' hE33 hO33 hF_ hS
          obtain ⟨f33_8, f33_14, -⟩ := hF_
          replace f33_8 : Ep33 125 = .slice A_b13_4_L31h b13_4_L31h.length c_b13_4_L31h := Eq.mp (by kernel_rfl) f33_8
          replace f33_14 : Ep33 131 = .slice (some ⟨(blkOf (Ep33 131)), 0, none⟩) 1 1 := Eq.mp (by kernel_rfl) f33_14
          replace hS : St w0 w (cells (blkOf (Ep33 131)) 3 [.int .i64 r33_13.1] :: ro ρ_L10 :: vec 3 (RpI .i64).sz (.slice A_b13_4_L31h b13_4_L31h.length c_b13_4_L31h) b13_4_L31h.length cs_b13_4_L31h :: l') := Eq.mp (by kernel_rfl) hS
          refine o_ap sl_22 zero_3 rfl (by decide) f33_8 f33_14 (hS.pull 2) h_b13_4_L31h (src_blk usl_22 hS rfl rfl) (RepL.cons (R := (RpI .i64)) (ρ := ρ_L10) (x := r33_13.1) (cs := [.int .i64 r33_13.1]) rfl RepL.nil) hz33_15 hk33_15 (fun A132 c132 cs132 w' hr132 hS => ?_)
          refine x_done <|
            ?_
          refine x_fin ⟨⟨_, rfl⟩, rfl, ?_⟩
          replace hS := St.bun (Φ := (fun (cs132 : List Value) => RepL (RpI .i64) ρ_L10 z33_15 cs132)) (L := (fun (cs132 : List Value) => [vec 3 (RpI .i64).sz (.slice A132 z33_15.length c132) z33_15.length cs132])) cs132 hr132 hS
          exact Eq.mp (by kernel_rfl) ((hS.pull 2).pull 2)
        · intro Ep33 w l' hE33 hO33 hF_ hS
          refine p (yl_field0 fld_30_1 ((hE33 13 rfl).trans eL31h_13)) <| x_done <|
            ?_
          refine x_fin ⟨⟨_, rfl⟩, rfl, ?_⟩
          exact Eq.mp (by kernel_rfl) hS
        · intro Ep33 w l' hE33 hO33 hF_ hS
          obtain ⟨f33_6, f33_16, -⟩ := hF_
          replace f33_6 : Ep33 123 = .slice (adOf (Ep33 123)) z33_6.length (capOf (Ep33 123)) := Eq.mp (by kernel_rfl) f33_6
          replace f33_16 : Ep33 133 = .pointer (some ⟨b13, 1, none⟩) := Eq.mp (by kernel_rfl) f33_16
          replace hS : St w0 w (cells b13 30 [.slice A_b13_0_L3 b13_0_L3.length c_b13_0_L3, .slice A_b13_1_L31h b13_1_L31h.length c_b13_1_L31h, .slice A_b13_2_L21 b13_2_L21.length c_b13_2_L21, .slice A_b13_3_L10 b13_3_L10.length c_b13_3_L10, .slice A_b13_4_L31h b13_4_L31h.length c_b13_4_L31h] :: l') := Eq.mp (by kernel_rfl) hS
          refine o_store1 (v := .slice (adOf (Ep33 123)) z33_6.length (capOf (Ep33 123))) one_26 f33_16 f33_6 rfl rfl hS (fun w' hS => ?_)
          refine x_done <|
            ?_
          refine x_fin ⟨⟨undef, rfl⟩, trivial, ?_⟩
          exact Eq.mp (by kernel_rfl) hS
        · intro Ep33 w l' hE33 hO33 hF_ hS
          refine p (yl_field0 fld_30_4 ((hE33 13 rfl).trans eL31h_13)) <| x_done <|
            ?_
          refine x_fin ⟨⟨_, rfl⟩, rfl, ?_⟩
          exact Eq.mp (by kernel_rfl) hS
        · intro Ep33 w l' hE33 hO33 hF_ hS
          obtain ⟨f33_6, f33_15, f33_18, -⟩ := hF_
          replace f33_6 : Ep33 123 = .slice (adOf (Ep33 123)) z33_6.length (capOf (Ep33 123)) := Eq.mp (by kernel_rfl) f33_6
          replace f33_15 : Ep33 132 = .slice (adOf (Ep33 132)) z33_15.length (capOf (Ep33 132)) := Eq.mp (by kernel_rfl) f33_15
          replace f33_18 : Ep33 134 = .pointer (some ⟨b13, 4, none⟩) := Eq.mp (by kernel_rfl) f33_18
          replace hS : St w0 w (cells b13 30 [.slice A_b13_0_L3 b13_0_L3.length c_b13_0_L3, .slice (adOf (Ep33 123)) z33_6.length (capOf (Ep33 123)), .slice A_b13_2_L21 b13_2_L21.length c_b13_2_L21, .slice A_b13_3_L10 b13_3_L10.length c_b13_3_L10, .slice A_b13_4_L31h b13_4_L31h.length c_b13_4_L31h] :: l') := Eq.mp (by kernel_rfl) hS
          refine o_store1 (v := .slice (adOf (Ep33 132)) z33_15.length (capOf (Ep33 132))) one_22 f33_18 f33_15 rfl rfl hS (fun w' hS => ?_)
          refine x_done <|
            ?_
          refine x_fin ⟨⟨undef, rfl⟩, trivial, ?_⟩
          exact Eq.mp (by kernel_rfl) hS
      intro Ep33 w' hE33 hF_ hS
      obtain ⟨f33_0, f33_1, f33_2, f33_3, f33_4, f33_5, f33_6, f33_7, f33_8, f33_9, f33_10, f33_11, f33_12, f33_13, f33_14, f33_15, f33_16, f33_18, -⟩ := hF_
      replace f33_0 : Ep33 117 = .pointer (some ⟨b13, 1, none⟩) := Eq.mp (by kernel_rfl) f33_0
      replace f33_1 : Ep33 118 = .slice A_b13_1_L31h b13_1_L31h.length c_b13_1_L31h := Eq.mp (by kernel_rfl) f33_1
      replace f33_2 : Ep33 119 = .int .i64 y114_L31h := Eq.mp (by kernel_rfl) f33_2
      replace f33_3 : Ep33 120 = .string r33_3 := Eq.mp (by kernel_rfl) f33_3
      replace f33_4 : Ep33 121 = .string ((⟨#[111]⟩ : ByteArray) ++ r33_3) := Eq.mp (by kernel_rfl) f33_4
      replace f33_5 : Ep33 122 = .slice (some ⟨(blkOf (Ep33 122)), 0, none⟩) 1 1 := Eq.mp (by kernel_rfl) f33_5
      replace f33_6 : Ep33 123 = .slice (adOf (Ep33 123)) z33_6.length (capOf (Ep33 123)) := Eq.mp (by kernel_rfl) f33_6
      replace f33_7 : Ep33 124 = .pointer (some ⟨b13, 4, none⟩) := Eq.mp (by kernel_rfl) f33_7
      replace f33_8 : Ep33 125 = .slice A_b13_4_L31h b13_4_L31h.length c_b13_4_L31h := Eq.mp (by kernel_rfl) f33_8
      replace f33_9 : Ep33 126 = .func (.func 67) #[] #[.pointer (some ⟨b6, 0, none⟩)] := Eq.mp (by kernel_rfl) f33_9
      replace f33_10 : Ep33 127 = .int .i64 x39 := Eq.mp (by kernel_rfl) f33_10
      replace f33_11 : Ep33 128 = .int .i64 gates4 := Eq.mp (by kernel_rfl) f33_11
      replace f33_12 : Ep33 129 = .int .i64 x129 := Eq.mp (by kernel_rfl) f33_12
      replace f33_13 : Ep33 130 = .int .i64 r33_13.1 := Eq.mp (by kernel_rfl) f33_13
      replace f33_14 : Ep33 131 = .slice (some ⟨(blkOf (Ep33 131)), 0, none⟩) 1 1 := Eq.mp (by kernel_rfl) f33_14
      replace f33_15 : Ep33 132 = .slice (adOf (Ep33 132)) z33_15.length (capOf (Ep33 132)) := Eq.mp (by kernel_rfl) f33_15
      replace f33_16 : Ep33 133 = .pointer (some ⟨b13, 1, none⟩) := Eq.mp (by kernel_rfl) f33_16
      replace f33_18 : Ep33 134 = .pointer (some ⟨b13, 4, none⟩) := Eq.mp (by kernel_rfl) f33_18
      replace hS : St w0 w' (ro ρ_L10 :: cells (blkOf (Ep33 122)) 9 [.string ((⟨#[111]⟩ : ByteArray) ++ r33_3)] :: bunA (fun (cs123 : List Value) => RepL RpS ρ_L10 z33_6 cs123) (fun (cs123 : List Value) => [vec 9 RpS.sz (.slice (adOf (Ep33 123)) z33_6.length (capOf (Ep33 123))) z33_6.length cs123]) :: cells b6 23 [.pointer (some ⟨b_s0, 0, none⟩)] :: cells b_s0 25 [.slice A_s0_0 s0.L.length c_s0_0, .int .i64 r33_13.2] :: cells (blkOf (Ep33 131)) 3 [.int .i64 r33_13.1] :: bunA (fun (cs132 : List Value) => RepL (RpI .i64) ρ_L10 z33_15 cs132) (fun (cs132 : List Value) => [vec 3 (RpI .i64).sz (.slice (adOf (Ep33 132)) z33_15.length (capOf (Ep33 132))) z33_15.length cs132]) :: cells b13 30 [.slice A_b13_0_L3 b13_0_L3.length c_b13_0_L3, .slice (adOf (Ep33 123)) z33_6.length (capOf (Ep33 123)), .slice A_b13_2_L21 b13_2_L21.length c_b13_2_L21, .slice A_b13_3_L10 b13_3_L10.length c_b13_3_L10, .slice (adOf (Ep33 132)) z33_15.length (capOf (Ep33 132))] :: (cells b12 30 [.slice none 0 0, .slice none 0 0, .slice none 0 0, .slice none 0 0, .slice none 0 0] :: vec 9 RpS.sz (.slice A_b13_0_L3 b13_0_L3.length c_b13_0_L3) b13_0_L3.length cs_b13_0_L3 :: vec 149 R_api_Flop.sz (.slice A_b13_2_L21 b13_2_L21.length c_b13_2_L21) b13_2_L21.length cs_b13_2_L21 :: vec 38 R_api_Gate.sz (.slice A_b13_3_L10 b13_3_L10.length c_b13_3_L10) b13_3_L10.length cs_b13_3_L10 :: l)) := Eq.mp (by kernel_rfl) hS
      have q_ := St.unbun (hS.pull 2); obtain ⟨cs123, hr123, hS⟩ := q_
      have q_ := St.unbun (hS.pull 6); obtain ⟨cs132, hr132, hS⟩ := q_
      replace hFL31 := ar_s hFL31; obtain ⟨x135, hx135, hFL31⟩ := hFL31
      refine x_blk <| x_region <| p (yadd ((hE33 114 rfl).trans eL31h_114) rfl hx135) <| p (yl_move rfl) <|
        x_done <|
        ?_
      have e_ := Option.some.inj (show some _ = some _ from hFL31); subst e_
      exact x_inv ⟨kL31, Nat.lt_succ_self _, (adOf (Ep33 123)), z33_6.length, (capOf (Ep33 123)), cs123, (adOf (Ep33 132)), z33_15.length, (capOf (Ep33 132)), cs132, x135, z33_6, z33_15, r33_13.2, hLL31, ((hE33 4 rfl).trans eL31h_4), ((hE33 12 rfl).trans eL31h_12), ((hE33 13 rfl).trans eL31h_13), ((hE33 15 rfl).trans eL31h_15), ((hE33 16 rfl).trans eL31h_16), ((hE33 113 rfl).trans eL31h_113), rfl, hr123, hr132, ((((((((((((hS.pull 3).drop.pull 5).drop.pull 2).pull 1).pull 9).pull 9).pull 4).pull 9).pull 7).pull 7).pull 8).pull 9)⟩
    · replace hFL31 := it_f hc115 hFL31
      refine x_exitTo _ rfl <|
        ?_
      have e_ := Option.some.inj (show some _ = some _ from hFL31); subst e_
      exact x_inv ⟨A_b13_1_L31h, b13_1_L31h.length, c_b13_1_L31h, cs_b13_1_L31h, A_b13_4_L31h, b13_4_L31h.length, c_b13_4_L31h, cs_b13_4_L31h, b13_1_L31h, b13_4_L31h, b_s0_1_L31h, hLL31, eL31h_12, eL31h_13, h_b13_1_L31h, h_b13_4_L31h, ((((((((((hS.pull 2).drop.pull 8).pull 8).pull 8).pull 8).pull 8).pull 8).pull 8).pull 8).pull 8)⟩
  rintro E w ⟨A_b13_1_L31, n_b13_1_L31, c_b13_1_L31, cs_b13_1_L31, A_b13_4_L31, n_b13_4_L31, c_b13_4_L31, cs_b13_4_L31, b13_1_L31, b13_4_L31, b_s0_1_L31, rfl, eL31_12, eL31_13, h_b13_1_L31, h_b13_4_L31, hS⟩
  have e_ := St.vec_n (hS.pull 4) h_b13_1_L31; subst e_
  have e_ := St.vec_n (hS.pull 7) h_b13_4_L31; subst e_
  refine x_seq <| x_region <| pa (v := .agg #[.slice A_b13_0_L3 b13_0_L3.length c_b13_0_L3, .slice A_b13_1_L31 b13_1_L31.length c_b13_1_L31, .slice A_b13_2_L21 b13_2_L21.length c_b13_2_L21, .slice A_b13_3_L10 b13_3_L10.length c_b13_3_L10, .slice A_b13_4_L31 b13_4_L31.length c_b13_4_L31]) (ld_sub agg_30 eL31_13 rfl rfl (hS.pull 1)) <|
    ?_
  refine o_storeAgg (news := [.slice A_b13_0_L3 b13_0_L3.length c_b13_0_L3, .slice A_b13_1_L31 b13_1_L31.length c_b13_1_L31, .slice A_b13_2_L21 b13_2_L21.length c_b13_2_L21, .slice A_b13_3_L10 b13_3_L10.length c_b13_3_L10, .slice A_b13_4_L31 b13_4_L31.length c_b13_4_L31]) agg_30 eL31_12 rfl rfl (by simp [over_length]) hS (fun w' hS => ?_)
  refine x_done <|
    ?_
  have e_ := Option.some.inj (show some _ = some _ from hF); subst e_
  exact x_return ⟨_, ⟨_, _, _, rfl, eL31_12, ldvA agg_30 rfl (fun j v hj => by rw [add0]; exact St.cell hS hj), rfl⟩, ρ_L10, A_b13_0_L3, b13_0_L3.length, c_b13_0_L3, cs_b13_0_L3, A_b13_1_L31, b13_1_L31.length, c_b13_1_L31, cs_b13_1_L31, A_b13_2_L21, b13_2_L21.length, c_b13_2_L21, cs_b13_2_L21, A_b13_3_L10, b13_3_L10.length, c_b13_3_L10, cs_b13_3_L10, A_b13_4_L31, b13_4_L31.length, c_b13_4_L31, cs_b13_4_L31, rfl, hleρ_L10, (h_b13_0_L3.le hleρ_L10), h_b13_1_L31, h_b13_2_L21, h_b13_3_L10, h_b13_4_L31, (((((((hS.drop.drop.pull 6).pull 1).pull 6).pull 6).pull 6).pull 6).pull 6)⟩
attribute [irreducible] P_maskmake_Stream_Placed

def P_lib_Name_L4 (z3_1 : List Int) : Int → Option (Int ⊕ (Unit ⊕ Bool)) := fun y26_L4h =>
  if y26_L4h < (z3_1.length : Int) then
    ck (inb y26_L4h z3_1.length) <|
    lv (gt z3_1 y26_L4h) fun x29 =>
    lv ((decide (x29 < 97)) || (decide (122 < x29))) fun x35 =>
    lv ((decide (x29 < 48)) || (decide (57 < x29))) fun x42 =>
    lv (x35 && x42) fun x43 =>
    lv (x43 && (decide (x29 ≠ 95))) fun x47 =>
    if x47 = true then
      some (Sum.inr (Sum.inr false))
    else
      ar (y26_L4h + 1) fun x48 =>
      some (Sum.inl x48)
  else
    some (Sum.inr (Sum.inl ()))
def P_lib_Name (s0 : ByteArray) : Option Bool :=
  lv ((decide ((s0.size : Int) < 1)) || (decide (40 < (s0.size : Int)))) fun x12 =>
  ck ((!x12) = true → inb 0 s0.size) <|
  lv (byteAt s0 0) fun x15 =>
  lv (x12 || (decide (x15 < 97))) fun x17 =>
  ck ((!x17) = true → inb 0 s0.size) <|
  lv (byteAt s0 0) fun x20 =>
  lv (x17 || (decide (122 < x20))) fun x22 =>
  if x22 = true then
    some false
  else
    lv (bytesL s0) fun z3_1 =>
    bs (
      lp (P_lib_Name_L4 z3_1) fuel 0) (fun y => some y) fun _ =>
    some true
set_option maxHeartbeats 4000000 in
set_option maxRecDepth 100000 in
theorem c_lib_Name {w0 w : World} {l : List Assn} {ρ : Heap} {s0 : ByteArray} {r : Bool} (hF : P_lib_Name s0 = some r) (hS : St w0 w (ro ρ :: l)) :
    Calls Tryd.prog 228 #[.string s0] w fun e w' => e = .returned (.bool r) ∧ St w0 w' (ro ρ :: l) := by
  refine enterC Tryd.func228 rfl 49 rfl (by simp) ?_
  replace hF := lv_s hF; obtain ⟨x12, hx12, hF⟩ := hF
  replace hF := ck_s hF; obtain ⟨hk1_10, hF⟩ := hF
  replace hF := lv_s hF; obtain ⟨x15, hx15, hF⟩ := hF
  replace hF := lv_s hF; obtain ⟨x17, hx17, hF⟩ := hF
  replace hF := ck_s hF; obtain ⟨hk1_15, hF⟩ := hF
  replace hF := lv_s hF; obtain ⟨x20, hx20, hF⟩ := hF
  replace hF := lv_s hF; obtain ⟨x22, hx22, hF⟩ := hF
  refine x_seq <| x_region <| p (yl_assign rfl) <| x_done <|
    x_seq <| x_seq <| x_region <| p (yl_move rfl) <|
    p (yl_len_string us_9 rfl) <| p (yl_lss rfl rfl) <| p (yl_move rfl) <| pg (v := .string s0) 8 (c := !(decide ((s0.size : Int) < 1))) (says_f _) (fun hq => Yl.at (yl_move rfl)) <|
    pg (v := .int .i64 (s0.size : Int)) 8 (c := !(decide ((s0.size : Int) < 1))) (says_f _) (fun hq => Yl.at (yl_len_string us_9 (cv hq))) <| pg (v := .bool (decide (40 < (s0.size : Int)))) 8 (c := !(decide ((s0.size : Int) < 1))) (says_f _) (fun hq => Yl.at (yl_gtr (cv hq) rfl)) <| p (yor' rfl rfl (fun hc => (cv (t_not hc))) hx12) <| p (yl_move rfl) <|
    pg (v := .string s0) 13 (c := !x12) (says_f _) (fun hq => Yl.at (yl_move rfl)) <| pg (v := .int .u8 x15) 13 (c := !x12) (says_f _) (fun hq => Yl.at (ystr us_9 (cv hq) rfl (hk1_10 hq) hx15)) <| pg (v := .bool (decide (x15 < 97))) 13 (c := !x12) (says_f _) (fun hq => Yl.at (yl_lss (cv hq) rfl)) <| p (yor' rfl rfl (fun hc => (cv (t_not hc))) hx17) <|
    p (yl_move rfl) <| pg (v := .string s0) 18 (c := !x17) (says_f _) (fun hq => Yl.at (yl_move rfl)) <| pg (v := .int .u8 x20) 18 (c := !x17) (says_f _) (fun hq => Yl.at (ystr us_9 (cv hq) rfl (hk1_15 hq) hx20)) <| pg (v := .bool (decide (122 < x20))) 18 (c := !x17) (says_f _) (fun hq => Yl.at (yl_gtr (cv hq) rfl)) <|
    p (yor' rfl rfl (fun hc => (cv (t_not hc))) hx22) <| x_done <|
    x_cond (t := x22) rfl (fun hc22 => ?_) (fun hc22 => ?_)
  · replace hF := it_t hc22 hF
    refine x_seq <| x_region <| p (yl_assign rfl) <| x_done <|
      ?_
    have e_ := Option.some.inj (show some _ = some _ from hF); subst e_
    exact x_return ⟨_, ⟨_, _, rfl, rfl, rfl⟩, rfl, hS⟩
  · replace hF := it_bf hc22 hF
    refine x_skip <| x_seq <| x_seq <| x_region <|
      p (yl_move rfl) <|
      ?_
    replace hF := lv_s hF; obtain ⟨z3_1, hz3_1, hF⟩ := hF
    refine o_byt us_9 usl_217 ui_5 rfl hz3_1 hS (fun ρ3_1 A24 c24 w' hle3_1 f24 hS => ?_)
    refine p (yl_len_slice usl_217 rfl) <| p (yl_move rfl) <| x_done <|
      ?_
    replace hF := bs_s hF; obtain ⟨oL4, hLL4, hF⟩ := hF
    refine x_join (fun E w => (Sum.inl (())) = oL4 ∧ St w0 w (ro ρ3_1 :: l)) ?_ ?_
    · skip -- L4
      refine x_block ?_
      refine x_loop (fun k_ E w => ∃ (y26_L4h : Int), lp (P_lib_Name_L4 z3_1) k_ y26_L4h = some oL4 ∧ E 24 = .slice A24 z3_1.length c24 ∧ E 25 = .int .i64 (z3_1.length : Int) ∧ E 26 = .int .i64 y26_L4h ∧ St w0 w (ro ρ3_1 :: l)) fuel ⟨0, hLL4, rfl, rfl, rfl, hS⟩ ?_
      rintro kL4 E w ⟨y26_L4h, hLL4, eL4h_24, eL4h_25, eL4h_26, hS⟩
      replace hLL4 := lp_s hLL4; obtain ⟨kL4, obL4, rfl, hFL4, hLL4⟩ := hLL4
      refine x_seq <| x_region <| p (yl_lss eL4h_26 eL4h_25) <| x_done <|
        x_seq <|
        x_cond_p (y26_L4h < (z3_1.length : Int)) rfl (fun hc27 => ?_) (fun hc27 => ?_)
      · replace hFL4 := it_t hc27 hFL4
        replace hFL4 := ck_s hFL4; obtain ⟨hk5_0, hFL4⟩ := hFL4
        replace hFL4 := lv_s hFL4; obtain ⟨x29, hx29, hFL4⟩ := hFL4
        replace hFL4 := lv_s hFL4; obtain ⟨x35, hx35, hFL4⟩ := hFL4
        replace hFL4 := lv_s hFL4; obtain ⟨x42, hx42, hFL4⟩ := hFL4
        replace hFL4 := lv_s hFL4; obtain ⟨x43, hx43, hFL4⟩ := hFL4
        replace hFL4 := lv_s hFL4; obtain ⟨x47, hx47, hFL4⟩ := hFL4
        refine x_skip <| x_seq <| x_block <| x_seq <|
          x_region <| p (yix_f sl_217 eL4h_24 eL4h_26 f24 hk5_0) <| pa (at_load one_5 rfl (RdS.getW f24 hS hk5_0 hx29)) <| p (yl_assign rfl) <|
          x_done <| x_seq <| x_region <| p (yl_move rfl) <|
          p (yl_lss rfl rfl) <| p (yl_move rfl) <| pg (v := .int .u8 x29) 32 (c := !(decide (x29 < 97))) (says_f _) (fun hq => Yl.at (yl_move rfl)) <| pg (v := .bool (decide (122 < x29))) 32 (c := !(decide (x29 < 97))) (says_f _) (fun hq => Yl.at (yl_gtr (cv hq) rfl)) <|
          p (yor' rfl rfl (fun hc => (cv (t_not hc))) hx35) <| p (yl_move rfl) <| pg (v := .int .u8 x29) 36 (c := x35) (says_t _) (fun hq => Yl.at (yl_move rfl)) <| pg (v := .bool (decide (x29 < 48))) 36 (c := x35) (says_t _) (fun hq => Yl.at (yl_lss (cv hq) rfl)) <|
          pg (v := .bool (decide (x29 < 48))) 36 (c := x35) (says_t _) (fun hq => Yl.at (yl_move (cv hq))) <| pg (v := .int .u8 x29) 39 (c := x35 && !(decide (x29 < 48))) (says_iff _ _) (fun hq => Yl.at (yl_move rfl)) <| pg (v := .bool (decide (57 < x29))) 39 (c := x35 && !(decide (x29 < 48))) (says_iff _ _) (fun hq => Yl.at (yl_gtr (cv hq) rfl)) <| pg (v := .bool x42) 36 (c := x35) (says_t _) (fun hq => Yl.at (yor' (cv hq) rfl (fun hc => (cv (and_i hq (t_not hc)))) hx42)) <|
          p (yand' rfl (fun hc => (cv hc)) rfl hx43) <| p (yl_move rfl) <| pg (v := .int .u8 x29) 44 (c := x43) (says_t _) (fun hq => Yl.at (yl_move rfl)) <| pg (v := .bool (decide (x29 ≠ 95))) 44 (c := x43) (says_t _) (fun hq => Yl.at (yl_neq (cv hq) rfl)) <|
          p (yand' rfl (fun hc => (cv hc)) rfl hx47) <| x_done <|
          x_cond (t := x47) rfl (fun hc47 => ?_) (fun hc47 => ?_)
        · replace hFL4 := it_t hc47 hFL4
          refine x_seq <| x_region <| p (yl_assign rfl) <| x_done <|
            ?_
          have e_ := Option.some.inj (show some _ = some _ from hFL4); subst e_
          have e_ := (show _ = oL4 from hLL4); subst e_
          have e_ := Option.some.inj (show some _ = some _ from hF); subst e_
          exact x_return ⟨_, ⟨_, _, rfl, rfl, rfl⟩, rfl, (ro_back0 hle3_1 hS)⟩
        · replace hFL4 := it_bf hc47 hFL4
          replace hFL4 := ar_s hFL4; obtain ⟨x48, hx48, hFL4⟩ := hFL4
          refine x_skip <| x_blk <| x_region <| p (yadd eL4h_26 rfl hx48) <|
            p (yl_move rfl) <| x_done <|
            ?_
          have e_ := Option.some.inj (show some _ = some _ from hFL4); subst e_
          exact x_inv ⟨kL4, Nat.lt_succ_self _, x48, hLL4, eL4h_24, eL4h_25, rfl, hS⟩
      · replace hFL4 := it_f hc27 hFL4
        refine x_exitTo _ rfl <|
          ?_
        have e_ := Option.some.inj (show some _ = some _ from hFL4); subst e_
        exact x_inv ⟨hLL4, hS⟩
    rintro E w ⟨rfl, hS⟩
    refine x_seq <| x_region <| p (yl_assign rfl) <| x_done <|
      ?_
    have e_ := Option.some.inj (show some _ = some _ from hF); subst e_
    exact x_return ⟨_, ⟨_, _, rfl, rfl, rfl⟩, rfl, (ro_back0 hle3_1 hS)⟩
attribute [irreducible] P_lib_Name

def P_netlist_Mask (ins0 : Int) : Option Int :=
  lv ((decide (ins0 < 0)) || (decide (6 < ins0))) fun x9 =>
  if x9 = true then
    some (0 : Int)
  else
    if ins0 = 6 then
      some (18446744073709551615 : Int)
    else
      ck (0 ≤ ins0) <|
      lv (shl .u64 (1 : Int) ins0) fun x14 =>
      ck (0 ≤ x14) <|
      lv (shl .u64 (1 : Int) x14) fun x15 =>
      lv ((x15 - 1) % 18446744073709551616) fun x16 =>
      some x16
set_option maxHeartbeats 4000000 in
set_option maxRecDepth 100000 in
theorem c_netlist_Mask {w0 w : World} {l : List Assn} {ρ : Heap} {ins0 : Int} {r : Int} (hF : P_netlist_Mask ins0 = some r) (hS : St w0 w (ro ρ :: l)) :
    Calls Tryd.prog 206 #[.int .i64 ins0] w fun e w' => e = .returned (.int .u64 r) ∧ St w0 w' (ro ρ :: l) := by
  refine enterC Tryd.func206 rfl 17 rfl (by simp) ?_
  replace hF := lv_s hF; obtain ⟨x9, hx9, hF⟩ := hF
  refine x_seq <| x_region <| p (yl_assign rfl) <| x_done <|
    x_seq <| x_block <| x_seq <| x_region <|
    p (yl_move rfl) <| p (yl_lss rfl rfl) <| p (yl_move rfl) <| pg (v := .int .i64 ins0) 6 (c := !(decide (ins0 < 0))) (says_f _) (fun hq => Yl.at (yl_move rfl)) <|
    pg (v := .bool (decide (6 < ins0))) 6 (c := !(decide (ins0 < 0))) (says_f _) (fun hq => Yl.at (yl_gtr (cv hq) rfl)) <| p (yor' rfl rfl (fun hc => (cv (t_not hc))) hx9) <| p (yl_assign rfl) <| x_done <|
    x_cond (t := x9) rfl (fun hc3 => ?_) (fun hc3 => ?_)
  · replace hF := it_t hc3 hF
    refine x_seq <| x_region <| p (yl_assign rfl) <| x_done <|
      ?_
    have e_ := Option.some.inj (show some _ = some _ from hF); subst e_
    exact x_return ⟨_, ⟨_, _, rfl, rfl, rfl⟩, rfl, hS⟩
  · replace hF := it_bf hc3 hF
    refine x_seq <| x_region <| p (yl_move rfl) <| p (yl_eql rfl rfl) <|
      p (yl_assign rfl) <| x_done <|
      x_cond_p (ins0 = 6) rfl (fun hc10 => ?_) (fun hc10 => ?_)
    · replace hF := it_t hc10 hF
      refine x_seq <| x_region <| p (yl_assign rfl) <| x_done <|
        ?_
      have e_ := Option.some.inj (show some _ = some _ from hF); subst e_
      exact x_return ⟨_, ⟨_, _, rfl, rfl, rfl⟩, rfl, hS⟩
    · replace hF := it_f hc10 hF
      replace hF := ck_s hF; obtain ⟨hk5_1, hF⟩ := hF
      replace hF := lv_s hF; obtain ⟨x14, hx14, hF⟩ := hF
      replace hF := ck_s hF; obtain ⟨hk5_2, hF⟩ := hF
      replace hF := lv_s hF; obtain ⟨x15, hx15, hF⟩ := hF
      replace hF := lv_s hF; obtain ⟨x16, hx16, hF⟩ := hF
      refine x_skip <| x_blk <| x_seq <| x_region <|
        p (yl_move rfl) <| p (yshl rfl rfl hk5_1 hx14) <| p (yshl rfl rfl hk5_2 hx15) <| p (ysubu wm_u64 rfl rfl hx16) <|
        p (yl_assign rfl) <| x_done <|
        ?_
      have e_ := Option.some.inj (show some _ = some _ from hF); subst e_
      exact x_return ⟨_, ⟨_, _, rfl, rfl, rfl⟩, rfl, hS⟩
attribute [irreducible] P_netlist_Mask

def P_lib_in_L2 (most0 : Int) (l_1 : List Int) : Int → Option (Int ⊕ (Unit ⊕ Bool)) := fun y9_L2h =>
  if y9_L2h < (l_1.length : Int) then
    ck (inb y9_L2h l_1.length) <|
    lv (gt l_1 y9_L2h) fun x12 =>
    lv ((decide (x12 < 0)) || (decide (most0 < x12))) fun x19 =>
    if x19 = true then
      some (Sum.inr (Sum.inr false))
    else
      ar (y9_L2h + 1) fun x20 =>
      some (Sum.inl x20)
  else
    some (Sum.inr (Sum.inl ()))
def P_lib_in (most0 : Int) (l_1 : List Int) : Option Bool :=
  bs (
    lp (P_lib_in_L2 most0 l_1) fuel 0) (fun y => some y) fun _ =>
  some true
set_option maxHeartbeats 4000000 in
set_option maxRecDepth 100000 in
theorem c_lib_in {w0 w : World} {l : List Assn} {ρ : Heap} {A_l_1 : Option Addr} {n_l_1 : Nat} {c_l_1 : Nat} {most0 : Int} {l_1 : List Int} {r : Bool} (hF : P_lib_in most0 l_1 = some r) (h_l_1 : RdS (RpI .i64) ρ A_l_1 n_l_1 c_l_1 l_1) (hS : St w0 w (ro ρ :: l)) :
    Calls Tryd.prog 229 #[.int .i64 most0, .slice A_l_1 n_l_1 c_l_1] w fun e w' => e = .returned (.bool r) ∧ St w0 w' (ro ρ :: l) := by
  have e_ := h_l_1.n; subst e_
  refine enterC Tryd.func229 rfl 21 rfl (by simp) ?_
  refine x_seq <| x_region <| p (yl_assign rfl) <| x_done <|
    x_seq <| x_seq <| x_region <| p (yl_move rfl) <|
    p (yl_len_slice usl_22 rfl) <| p (yl_move rfl) <| x_done <|
    ?_
  replace hF := bs_s hF; obtain ⟨oL2, hLL2, hF⟩ := hF
  refine x_join (fun E w => (Sum.inl (())) = oL2 ∧ St w0 w (ro ρ :: l)) ?_ ?_
  · skip -- L2
    refine x_block ?_
    refine x_loop (fun k_ E w => ∃ (y9_L2h : Int), lp (P_lib_in_L2 most0 l_1) k_ y9_L2h = some oL2 ∧ E 0 = .int .i64 most0 ∧ E 7 = .slice A_l_1 l_1.length c_l_1 ∧ E 8 = .int .i64 (l_1.length : Int) ∧ E 9 = .int .i64 y9_L2h ∧ St w0 w (ro ρ :: l)) fuel ⟨0, hLL2, rfl, rfl, rfl, rfl, hS⟩ ?_
    rintro kL2 E w ⟨y9_L2h, hLL2, eL2h_0, eL2h_7, eL2h_8, eL2h_9, hS⟩
    replace hLL2 := lp_s hLL2; obtain ⟨kL2, obL2, rfl, hFL2, hLL2⟩ := hLL2
    refine x_seq <| x_region <| p (yl_lss eL2h_9 eL2h_8) <| x_done <|
      x_seq <|
      x_cond_p (y9_L2h < (l_1.length : Int)) rfl (fun hc10 => ?_) (fun hc10 => ?_)
    · replace hFL2 := it_t hc10 hFL2
      replace hFL2 := ck_s hFL2; obtain ⟨hk3_0, hFL2⟩ := hFL2
      replace hFL2 := lv_s hFL2; obtain ⟨x12, hx12, hFL2⟩ := hFL2
      replace hFL2 := lv_s hFL2; obtain ⟨x19, hx19, hFL2⟩ := hFL2
      refine x_skip <| x_seq <| x_block <| x_seq <|
        x_region <| p (yix_f sl_22 eL2h_7 eL2h_9 h_l_1 hk3_0) <| pa (at_load one_3 rfl (RdS.getW h_l_1 hS hk3_0 hx12)) <| p (yl_assign rfl) <|
        x_done <| x_seq <| x_region <| p (yl_move rfl) <|
        p (yl_lss rfl rfl) <| p (yl_move rfl) <| pg (v := .int .i64 x12) 15 (c := !(decide (x12 < 0))) (says_f _) (fun hq => Yl.at (yl_move rfl)) <| pg (v := .int .i64 most0) 15 (c := !(decide (x12 < 0))) (says_f _) (fun hq => Yl.at (yl_move eL2h_0)) <|
        pg (v := .bool (decide (most0 < x12))) 15 (c := !(decide (x12 < 0))) (says_f _) (fun hq => Yl.at (yl_gtr (cv hq) (cv hq))) <| p (yor' rfl rfl (fun hc => (cv (t_not hc))) hx19) <| x_done <|
        x_cond (t := x19) rfl (fun hc19 => ?_) (fun hc19 => ?_)
      · replace hFL2 := it_t hc19 hFL2
        refine x_seq <| x_region <| p (yl_assign rfl) <| x_done <|
          ?_
        have e_ := Option.some.inj (show some _ = some _ from hFL2); subst e_
        have e_ := (show _ = oL2 from hLL2); subst e_
        have e_ := Option.some.inj (show some _ = some _ from hF); subst e_
        exact x_return ⟨_, ⟨_, _, rfl, rfl, rfl⟩, rfl, hS⟩
      · replace hFL2 := it_bf hc19 hFL2
        replace hFL2 := ar_s hFL2; obtain ⟨x20, hx20, hFL2⟩ := hFL2
        refine x_skip <| x_blk <| x_region <| p (yadd eL2h_9 rfl hx20) <|
          p (yl_move rfl) <| x_done <|
          ?_
        have e_ := Option.some.inj (show some _ = some _ from hFL2); subst e_
        exact x_inv ⟨kL2, Nat.lt_succ_self _, x20, hLL2, eL2h_0, eL2h_7, eL2h_8, rfl, hS⟩
    · replace hFL2 := it_f hc10 hFL2
      refine x_exitTo _ rfl <|
        ?_
      have e_ := Option.some.inj (show some _ = some _ from hFL2); subst e_
      exact x_inv ⟨hLL2, hS⟩
  rintro E w ⟨rfl, hS⟩
  refine x_seq <| x_region <| p (yl_assign rfl) <| x_done <|
    ?_
  have e_ := Option.some.inj (show some _ = some _ from hF); subst e_
  exact x_return ⟨_, ⟨_, _, rfl, rfl, rfl⟩, rfl, hS⟩
attribute [irreducible] P_lib_in


end Go.Proofs.YtclhfemcinibmaaDoor.X
