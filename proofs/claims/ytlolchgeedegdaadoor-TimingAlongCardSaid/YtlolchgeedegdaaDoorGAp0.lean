/- Printed by gen.py: plain functions, and that the Go code computes them. -/
import Derived.Test.YtlolchgeedegdaaDoorXI
import Derived.Test.YtlolchgeedegdaaDoorXT
namespace Go.Proofs.YtlolchgeedegdaaDoor.X
open Go Go.RowKit
set_option linter.unusedVariables false
set_option linter.unusedSimpArgs false

structure T_maskmake_Stream where
 L : List Int
 fat : Int
 deriving DecidableEq, Inhabited
structure T_api_Cell where
 Name : ByteArray
 Flop : Bool
 Ins : Int
 Table : Int
 Area : Int
 Cap : List Int
 Min : List Int
 Max : List Int
 Drive : Int
 Setup : Int
 Hold : Int
 deriving DecidableEq, Inhabited
def R_api_Cell : Rp T_api_Cell where
 sz := 11
 ok ρ cs x := ∃ A5 n5 c5 A6 n6 c6 A7 n7 c7, cs = [.string x.Name, .bool x.Flop, .int .i64 x.Ins, .int .u64 x.Table, .int .i64 x.Area, .slice A5 n5 c5, .slice A6 n6 c6, .slice A7 n7 c7, .int .i64 x.Drive, .int .i64 x.Setup, .int .i64 x.Hold] ∧ RdS (RpI .i64) ρ A5 n5 c5 x.Cap ∧ RdS (RpI .i64) ρ A6 n6 c6 x.Min ∧ RdS (RpI .i64) ρ A7 n7 c7 x.Max
 pos := by decide
 len := by rintro ρ cs x ⟨A5, n5, c5, A6, n6, c6, A7, n7, c7, rfl, _⟩; rfl
 le := by rintro ρ ρ' cs x ⟨A5, n5, c5, A6, n6, c6, A7, n7, c7, rfl, h0, h1, h2⟩ hle; exact ⟨_, _, _, _, _, _, _, _, _, rfl, h0.le hle, h1.le hle, h2.le hle⟩
 one := by rintro ρ cs x ⟨A5, n5, c5, A6, n6, c6, A7, n7, c7, rfl, _⟩ v hv; exact allOne_spec rfl v hv
structure T_api_Gate where
 Cell : Int
 Table : Int
 Ins : List Int
 deriving DecidableEq, Inhabited
def R_api_Gate : Rp T_api_Gate where
 sz := 3
 ok ρ cs x := ∃ A2 n2 c2, cs = [.int .i64 x.Cell, .int .u64 x.Table, .slice A2 n2 c2] ∧ RdS (RpI .i64) ρ A2 n2 c2 x.Ins
 pos := by decide
 len := by rintro ρ cs x ⟨A2, n2, c2, rfl, _⟩; rfl
 le := by rintro ρ ρ' cs x ⟨A2, n2, c2, rfl, h0⟩ hle; exact ⟨_, _, _, rfl, h0.le hle⟩
 one := by rintro ρ cs x ⟨A2, n2, c2, rfl, _⟩ v hv; exact allOne_spec rfl v hv
structure T_api_Flop where
 Name : ByteArray
 Cell : Int
 D : Int
 En : Int
 Init : Bool
 deriving DecidableEq, Inhabited
def R_api_Flop : Rp T_api_Flop where
 sz := 5
 ok _ cs x := cs = [.string x.Name, .int .i64 x.Cell, .int .i64 x.D, .int .i64 x.En, .bool x.Init]
 pos := by decide
 len := by rintro ρ cs x rfl; rfl
 le := by rintro ρ ρ' cs x rfl hle; rfl
 one := by rintro ρ cs x rfl v hv; exact allOne_spec rfl v hv
theorem R_api_Flop_d : ∃ cs, ∀ ρ, R_api_Flop.ok ρ cs default := ⟨[.string ByteArray.empty, .int .i64 0, .int .i64 0, .int .i64 0, .bool false], fun ρ => rfl⟩

structure T_api_Netlist where
 In : List ByteArray
 Out : List ByteArray
 Flops : List T_api_Flop
 Gates : List T_api_Gate
 Outs : List Int
 deriving DecidableEq, Inhabited
structure T_tree_Window where
 Lo : Int
 Hi : Int
 deriving DecidableEq, Inhabited
def R_tree_Window : Rp T_tree_Window where
 sz := 2
 ok _ cs x := cs = [.int .i64 x.Lo, .int .i64 x.Hi]
 pos := by decide
 len := by rintro ρ cs x rfl; rfl
 le := by rintro ρ ρ' cs x rfl hle; rfl
 one := by rintro ρ cs x rfl v hv; exact allOne_spec rfl v hv
structure T_delay_Delays where
 Gates : List (List T_tree_Window)
 Data : List (List T_tree_Window)
 Outs : List T_tree_Window
 Clock : List T_tree_Window
 Launch : List T_tree_Window
 deriving DecidableEq, Inhabited
structure T_clocks_Input where
 Name : ByteArray
 At : T_tree_Window
 deriving DecidableEq, Inhabited
def R_clocks_Input : Rp T_clocks_Input where
 sz := 3
 ok _ cs x := cs = [.string x.Name, .int .i64 x.At.Lo, .int .i64 x.At.Hi]
 pos := by decide
 len := by rintro ρ cs x rfl; rfl
 le := by rintro ρ ρ' cs x rfl hle; rfl
 one := by rintro ρ cs x rfl v hv; exact allOne_spec rfl v hv
structure T_clocks_Output where
 Name : ByteArray
 Before : Int
 deriving DecidableEq, Inhabited
def R_clocks_Output : Rp T_clocks_Output where
 sz := 2
 ok _ cs x := cs = [.string x.Name, .int .i64 x.Before]
 pos := by decide
 len := by rintro ρ cs x rfl; rfl
 le := by rintro ρ ρ' cs x rfl hle; rfl
 one := by rintro ρ cs x rfl v hv; exact allOne_spec rfl v hv
structure T_clocks_Path where
 From : ByteArray
 To : ByteArray
 Cycles : Int
 deriving DecidableEq, Inhabited
def R_clocks_Path : Rp T_clocks_Path where
 sz := 3
 ok _ cs x := cs = [.string x.From, .string x.To, .int .i64 x.Cycles]
 pos := by decide
 len := by rintro ρ cs x rfl; rfl
 le := by rintro ρ ρ' cs x rfl hle; rfl
 one := by rintro ρ cs x rfl v hv; exact allOne_spec rfl v hv
structure T_clocks_Limits where
 Period : Int
 Inputs : List T_clocks_Input
 Outputs : List T_clocks_Output
 Paths : List T_clocks_Path
 deriving DecidableEq, Inhabited
structure T_timing_Job where
 Net : T_api_Netlist
 Lib : List T_api_Cell
 Delays : T_delay_Delays
 Limits : T_clocks_Limits
 deriving DecidableEq, Inhabited
structure T_timing_Slack where
 Known : Bool
 Value : Int
 From : Int
 deriving DecidableEq, Inhabited
structure T_timing_End where
 Flop : Int
 Input : Int
 Setup : T_timing_Slack
 Hold : T_timing_Slack
 deriving DecidableEq, Inhabited
def R_timing_End : Rp T_timing_End where
 sz := 8
 ok _ cs x := cs = [.int .i64 x.Flop, .int .i64 x.Input, .bool x.Setup.Known, .int .i64 x.Setup.Value, .int .i64 x.Setup.From, .bool x.Hold.Known, .int .i64 x.Hold.Value, .int .i64 x.Hold.From]
 pos := by decide
 len := by rintro ρ cs x rfl; rfl
 le := by rintro ρ ρ' cs x rfl hle; rfl
 one := by rintro ρ cs x rfl v hv; exact allOne_spec rfl v hv
structure T_timing_Arrival where
 Known : Bool
 Early : Int
 Late : Int
 deriving DecidableEq, Inhabited
def R_timing_Arrival : Rp T_timing_Arrival where
 sz := 3
 ok _ cs x := cs = [.bool x.Known, .int .i64 x.Early, .int .i64 x.Late]
 pos := by decide
 len := by rintro ρ cs x rfl; rfl
 le := by rintro ρ ρ' cs x rfl hle; rfl
 one := by rintro ρ cs x rfl v hv; exact allOne_spec rfl v hv
structure T_timing_Step where
 Net : Int
 At : Int
 deriving DecidableEq, Inhabited
def R_timing_Step : Rp T_timing_Step where
 sz := 2
 ok _ cs x := cs = [.int .i64 x.Net, .int .i64 x.At]
 pos := by decide
 len := by rintro ρ cs x rfl; rfl
 le := by rintro ρ ρ' cs x rfl hle; rfl
 one := by rintro ρ cs x rfl v hv; exact allOne_spec rfl v hv
def P_maskmake_Below (x0 : Int) (n1 : Int) : Option Int :=
 if n1 < 1 then
  some (0 : Int)
 else
  ck (n1 ≠ 0) <|
  lv (Int.tmod x0 n1) fun x9 =>
  bd (
   if x9 < 0 then
    ar (x9 + n1) fun x14 =>
    some x14
   else
    some x9) fun q2 =>
  some q2
set_option maxHeartbeats 4000000 in
set_option maxRecDepth 100000 in
theorem c_maskmake_Below {w0 w : World} {l : List Assn} {ρ : Heap} {x0 : Int} {n1 : Int} {r : Int} (hF : P_maskmake_Below x0 n1 = some r) (hS : St w0 w (ro ρ :: l)) :
  Calls Tryd.prog 18 #[.int .i64 x0, .int .i64 n1] w fun e w' => e = .returned (.int .i64 r) ∧ St w0 w' (ro ρ :: l) := by
 refine enterC Tryd.func18 rfl 16 rfl (by simp) ?_
 refine x_seq <| x_region <| p (yl_assign rfl) <| x_done <|
  x_seq <| x_seq <| x_region <| p (yl_move rfl) <|
  p (yl_lss rfl rfl) <| x_done <|
  x_cond_p (n1 < 1) rfl (fun hc6 => ?_) (fun hc6 => ?_)
 ·replace hF := it_t hc6 hF
  refine x_seq <| x_region <| p (yl_assign rfl) <| x_done <| ?_
  have e_ := Option.some.inj (show some _ = some _ from hF); subst e_
  exact x_return ⟨_, ⟨_, _, rfl, rfl, rfl⟩, rfl, hS⟩
 ·replace hF := it_f hc6 hF
  replace hF := ck_s hF; obtain ⟨q4, hF⟩ := hF
  replace hF := lv_s hF; obtain ⟨x9, hx9, hF⟩ := hF
  refine x_skip <| x_seq <| x_region <| p (yl_move rfl) <|
   p (yl_move rfl) <| p (yrem rfl rfl q4 hx9) <| p (yl_assign rfl) <| x_done <|
   x_seq <| x_seq <| x_region <| p (yl_move rfl) <|
   p (yl_lss rfl rfl) <| x_done <| ?_
  replace hF := bd_s hF; obtain ⟨oc11, hFc11, hF⟩ := hF
  refine x_join (fun E w => ∃ (q2 : Int), q2 = oc11 ∧ E 0 = .int .i64 q2 ∧ St w0 w (ro ρ :: l)) ?_ ?_
  ·refine x_cond_p (x9 < 0) rfl (fun hc11 => ?_) (fun hc11 => ?_)
   ·replace hFc11 := it_t hc11 hFc11
    replace hFc11 := ar_s hFc11; obtain ⟨x14, hx14, hFc11⟩ := hFc11
    refine x_region <| p (yl_move rfl) <| p (yl_move rfl) <| p (yadd rfl rfl hx14) <|
     p (yl_assign rfl) <| x_done <| ?_
    exact x_inv ⟨x14, (Option.some.inj (show some _ = some _ from hFc11)), rfl, hS⟩
   ·replace hFc11 := it_f hc11 hFc11
    refine x_skip <| ?_
    exact x_inv ⟨x9, (Option.some.inj (show some _ = some _ from hFc11)), rfl, hS⟩
  rintro E w ⟨q2, rfl, q3, hS⟩
  refine x_seq <| x_region <| p (yl_move q3) <| p (yl_assign rfl) <|
   x_done <| ?_
  have e_ := Option.some.inj (show some _ = some _ from hF); subst e_
  exact x_return ⟨_, ⟨_, _, rfl, rfl, rfl⟩, rfl, hS⟩
attribute [irreducible] P_maskmake_Below

def P_maskmake_Stream_Next (s0 : T_maskmake_Stream) (n1 : Int) : Option (Int × Int) :=
 ar (s0.fat + 1) fun x11 =>
 if (s0.L.length : Int) = 0 then
  ar (x11 * 7919) fun x24 =>
  bd (P_maskmake_Below x24 n1) fun q3 =>
  some (q3, x11)
 else
  ar (x11 - 1) fun x31 =>
  ck ((s0.L.length : Int) ≠ 0) <|
  lv (Int.tmod x31 (s0.L.length : Int)) fun x37 =>
  ar (x11 - 1) fun x42 =>
  ck ((s0.L.length : Int) ≠ 0) <|
  ar (Int.tdiv x42 (s0.L.length : Int)) fun x48 =>
  ck (inb x37 s0.L.length) <|
  lv (gt s0.L x37) fun x55 =>
  bd (P_maskmake_Below x55 1073741824) fun q4 =>
  ar ((7919 : Int) + x37) fun x59 =>
  ar (x48 * x59) fun x60 =>
  ar (q4 + x60) fun x61 =>
  bd (P_maskmake_Below x61 n1) fun q2 =>
  some (q2, x11)
set_option maxHeartbeats 4000000 in
set_option maxRecDepth 100000 in
theorem c_maskmake_Stream_Next {w0 w : World} {l : List Assn} {ρ : Heap} {q5 : Nat} {q2 : Option Addr} {q3 : Nat} {c_s0_0 : Nat} {s0 : T_maskmake_Stream} {n1 : Int} {r : (Int × Int)} (hF : P_maskmake_Stream_Next s0 n1 = some r) (q4 : RdS (RpI .i64) ρ q2 q3 c_s0_0 s0.L) (hS : St w0 w (cells q5 25 [.slice q2 q3 c_s0_0, .int .i64 s0.fat] :: ro ρ :: l)) :
  Calls Tryd.prog 13 #[.pointer (some ⟨q5, 0, none⟩), .int .i64 n1] w fun e w' => e = .returned (.int .i64 r.1) ∧ St w0 w' (cells q5 25 [.slice q2 q3 c_s0_0, .int .i64 r.2] :: ro ρ :: l) := by
 have e_ := q4.n; subst e_
 refine enterC Tryd.func13 rfl 64 rfl (by simp) ?_
 replace hF := ar_s hF; obtain ⟨x11, hx11, hF⟩ := hF
 refine x_seq <| x_region <| p (yl_assign rfl) <| x_done <|
  x_seq <| x_region <| p (yl_move rfl) <| p (yl_nilCheck rfl) <|
  p (yl_field0 fld_25_1 rfl) <| pa (at_load one_3 rfl (hS.cell rfl)) <| p (yadd rfl rfl hx11) <| p (yl_nilCheck rfl) <|
  p (yl_field0 fld_25_1 rfl) <| ?_
 refine o_store1 (v := .int .i64 x11) one_3 rfl rfl rfl rfl hS (fun w' hS => ?_)
 refine x_done <| x_seq <| x_seq <| x_region <|
  p (yl_move rfl) <| p (yl_nilCheck rfl) <| p (yl_field0 fld_25_0 rfl) <| pa (at_load one_22 rfl (hS.cell rfl)) <|
  p (yl_len_slice usl_22 rfl) <| p (yl_eql rfl rfl) <| x_done <|
  x_cond_p ((s0.L.length : Int) = 0) rfl (fun hc19 => ?_) (fun hc19 => ?_)
 ·replace hF := it_t hc19 hF
  replace hF := ar_s hF; obtain ⟨x24, hx24, hF⟩ := hF
  replace hF := bd_s hF; obtain ⟨q0d, q0a, hF⟩ := hF
  refine x_seq <| x_region <| p (yl_move rfl) <| p (yl_nilCheck rfl) <|
   p (yl_field0 fld_25_1 rfl) <| pa (at_load one_3 rfl (hS.cell rfl)) <| p (ymul rfl rfl hx24) <| p (yl_move rfl) <| ?_
  have hcall := c_maskmake_Below q0a  (hS.pull 1)
  refine o_cc call_18 (args2 rfl rfl) ((Calls.mono hcall (fun e w'' h => And.intro h.1 (h.2.pull 1)))) ?_
  rintro e w' ⟨rfl, hS⟩
  refine ⟨_, rfl, ?_⟩
  refine p (v := .int .i64 q0d) (yl_assign rfl) <| x_done <| ?_
  have e_ := Option.some.inj (show some _ = some _ from hF); subst e_
  exact x_return ⟨_, ⟨_, _, rfl, rfl, rfl⟩, rfl, ((hS.pull 1).pull 1)⟩
 ·replace hF := it_f hc19 hF
  replace hF := ar_s hF; obtain ⟨x31, hx31, hF⟩ := hF
  replace hF := ck_s hF; obtain ⟨q7, hF⟩ := hF
  replace hF := lv_s hF; obtain ⟨x37, hx37, hF⟩ := hF
  refine x_skip <| x_seq <| x_still mixed (by kernel_rfl) hS <| q (yl_move rfl) <|
   q (yl_nilCheck rfl) <| q (yl_field0 fld_25_1 rfl) <| qa (fun w' hS => at_load one_3 rfl (hS.cell rfl)) <| q (ysub rfl rfl hx31) <|
   q (yl_move rfl) <| q (yl_nilCheck rfl) <| q (yl_field0 fld_25_0 rfl) <| qa (fun w' hS => at_load one_22 rfl (hS.cell rfl)) <|
   q (yl_len_slice usl_22 rfl) <| q (yrem rfl rfl q7 hx37) <| q (yl_assign rfl) <|
   q_done fun w' hS => ?_
  replace hF := ar_s hF; obtain ⟨x42, hx42, hF⟩ := hF
  replace hF := ck_s hF; obtain ⟨q8, hF⟩ := hF
  replace hF := ar_s hF; obtain ⟨x48, hx48, hF⟩ := hF
  refine x_seq <| x_still mixed (by kernel_rfl) hS <| q (yl_move rfl) <| q (yl_nilCheck rfl) <|
   q (yl_field0 fld_25_1 rfl) <| qa (fun w' hS => at_load one_3 rfl (hS.cell rfl)) <| q (ysub rfl rfl hx42) <| q (yl_move rfl) <|
   q (yl_nilCheck rfl) <| q (yl_field0 fld_25_0 rfl) <| qa (fun w' hS => at_load one_22 rfl (hS.cell rfl)) <| q (yl_len_slice usl_22 rfl) <|
   q (yquo rfl rfl q8 hx48) <| q (yl_assign rfl) <|
   q_done fun w' hS => ?_
  replace hF := ck_s hF; obtain ⟨q6, hF⟩ := hF
  replace hF := lv_s hF; obtain ⟨x55, hx55, hF⟩ := hF
  replace hF := bd_s hF; obtain ⟨q0e, q0b, hF⟩ := hF
  refine x_seq <| x_region <| p (yl_move rfl) <| p (yl_nilCheck rfl) <|
   p (yl_field0 fld_25_0 rfl) <| pa (at_load one_22 rfl (hS.cell rfl)) <| p (yl_move rfl) <| p (yix_f sl_22 rfl rfl q4 q6) <|
   pa (at_load one_3 rfl (RdS.getW q4 (hS.pull 1) q6 hx55)) <| ?_
  have hcall := c_maskmake_Below q0b  (hS.pull 1)
  refine o_cc call_18 (args2 rfl rfl) ((Calls.mono hcall (fun e w'' h => And.intro h.1 (h.2.pull 1)))) ?_
  rintro e w' ⟨rfl, hS⟩
  refine ⟨_, rfl, ?_⟩
  replace hF := ar_s hF; obtain ⟨x59, hx59, hF⟩ := hF
  replace hF := ar_s hF; obtain ⟨x60, hx60, hF⟩ := hF
  replace hF := ar_s hF; obtain ⟨x61, hx61, hF⟩ := hF
  replace hF := bd_s hF; obtain ⟨q0c, q9, hF⟩ := hF
  refine p (yl_move rfl) <| p (yl_move rfl) <| p (yadd rfl rfl hx59) <| p (ymul rfl rfl hx60) <|
   p (yadd rfl rfl hx61) <| p (yl_move rfl) <| ?_
  have hcall := c_maskmake_Below q9  (hS.pull 1)
  refine o_cc call_18 (args2 rfl rfl) ((Calls.mono hcall (fun e w'' h => And.intro h.1 (h.2.pull 1)))) ?_
  rintro e w' ⟨rfl, hS⟩
  refine ⟨_, rfl, ?_⟩
  refine p (v := .int .i64 q0c) (yl_assign rfl) <| x_done <| ?_
  have e_ := Option.some.inj (show some _ = some _ from hF); subst e_
  exact x_return ⟨_, ⟨_, _, rfl, rfl, rfl⟩, rfl, ((hS.pull 1).pull 1)⟩
attribute [irreducible] P_maskmake_Stream_Next

def P_maskmake_Stream_Range (s0 : T_maskmake_Stream) (low1 : Int) (high2 : Int) : Option (Int × Int) :=
 if high2 < low1 then
  some (low1, s0.fat)
 else
  ar (high2 - low1) fun x15 =>
  ar (x15 + 1) fun x16 =>
  bd (P_maskmake_Stream_Next s0 x16) fun q2 =>
  ar (low1 + q2.1) fun x18 =>
  some (x18, q2.2)
set_option maxHeartbeats 4000000 in
set_option maxRecDepth 100000 in
theorem c_maskmake_Stream_Range {w0 w : World} {l : List Assn} {ρ : Heap} {q5 : Nat} {q2 : Option Addr} {q3 : Nat} {c_s0_0 : Nat} {s0 : T_maskmake_Stream} {low1 : Int} {high2 : Int} {r : (Int × Int)} (hF : P_maskmake_Stream_Range s0 low1 high2 = some r) (q4 : RdS (RpI .i64) ρ q2 q3 c_s0_0 s0.L) (hS : St w0 w (cells q5 25 [.slice q2 q3 c_s0_0, .int .i64 s0.fat] :: ro ρ :: l)) :
  Calls Tryd.prog 24 #[.pointer (some ⟨q5, 0, none⟩), .int .i64 low1, .int .i64 high2] w fun e w' => e = .returned (.int .i64 r.1) ∧ St w0 w' (cells q5 25 [.slice q2 q3 c_s0_0, .int .i64 r.2] :: ro ρ :: l) := by
 have e_ := q4.n; subst e_
 refine enterC Tryd.func24 rfl 19 rfl (by simp) ?_
 refine x_seq <| x_region <| p (yl_assign rfl) <| x_done <|
  x_seq <| x_seq <| x_region <| p (yl_move rfl) <|
  p (yl_move rfl) <| p (yl_lss rfl rfl) <| x_done <|
  x_cond_p (high2 < low1) rfl (fun hc9 => ?_) (fun hc9 => ?_)
 ·replace hF := it_t hc9 hF
  refine x_seq <| x_region <| p (yl_move rfl) <| p (yl_assign rfl) <|
   x_done <| ?_
  have e_ := Option.some.inj (show some _ = some _ from hF); subst e_
  exact x_return ⟨_, ⟨_, _, rfl, rfl, rfl⟩, rfl, ((hS.pull 1).pull 1)⟩
 ·replace hF := it_f hc9 hF
  replace hF := ar_s hF; obtain ⟨x15, hx15, hF⟩ := hF
  replace hF := ar_s hF; obtain ⟨x16, hx16, hF⟩ := hF
  replace hF := bd_s hF; obtain ⟨q7, q6, hF⟩ := hF
  refine x_skip <| x_seq <| x_region <| p (yl_move rfl) <|
   p (yl_move rfl) <| p (yl_move rfl) <| p (yl_move rfl) <| p (ysub rfl rfl hx15) <|
   p (yadd rfl rfl hx16) <| ?_
  have hcall := c_maskmake_Stream_Next q6 q4 ((hS.pull 1).pull 1)
  refine o_cc call_13 (args2 rfl rfl) hcall ?_
  rintro e w' ⟨rfl, hS⟩
  refine ⟨_, rfl, ?_⟩
  replace hF := ar_s hF; obtain ⟨x18, hx18, hF⟩ := hF
  refine p (yadd rfl rfl hx18) <| p (yl_assign rfl) <| x_done <| ?_
  have e_ := Option.some.inj (show some _ = some _ from hF); subst e_
  exact x_return ⟨_, ⟨_, _, rfl, rfl, rfl⟩, rfl, ((hS.pull 1).pull 1)⟩
attribute [irreducible] P_maskmake_Stream_Range

def P_maskmake_Stream_LayLib_1_2_L2 (ins1 : Int) (q7 : T_maskmake_Stream) : (Int × List Int × List Int × List Int × Int) → Option ((Int × List Int × List Int × List Int × Int) ⊕ (List Int × List Int × List Int × Int)) := fun (q6, q2, q3, q4, q5) =>
 if q6 < ins1 then
  bd (P_maskmake_Stream_Next (T_maskmake_Stream.mk q7.L q5) 6) fun q8 =>
  bd (P_maskmake_Stream_Range (T_maskmake_Stream.mk q7.L q8.2) 2 5) fun q0c =>
  lv (q2 ++ [q0c.1]) fun q0d =>
  ck (apOk 8 q0d.length) <|
  lv (q3 ++ [q8.1]) fun q9 =>
  ck (apOk 8 q9.length) <|
  bd (P_maskmake_Stream_Next (T_maskmake_Stream.mk q7.L q0c.2) 5) fun q0a =>
  ar (q8.1 + q0a.1) fun x43 =>
  lv (q4 ++ [x43]) fun q0b =>
  ck (apOk 8 q0b.length) <|
  ar (q6 + 1) fun x49 =>
  some (Sum.inl (x49, q0d, q9, q0b, q0a.2))
 else
  some (Sum.inr (q2, q3, q4, q5))
def P_maskmake_Stream_LayLib_1_2 (name0 : ByteArray) (ins1 : Int) (table2 : Int) (q6 : T_maskmake_Stream) (q0a : List T_api_Cell) : Option (Int × List T_api_Cell) :=
 ar (ins1 + 1) fun x14 =>
 ck ((2 : Int) ≠ 0) <|
 ar (Int.tdiv x14 2) fun x15 =>
 bd (P_maskmake_Stream_Next q6 2) fun q8 =>
 ar (x15 + q8.1) fun x18 =>
 bd (P_maskmake_Stream_Next (T_maskmake_Stream.mk q6.L q8.2) 3) fun q7 =>
 bd (
  lp (P_maskmake_Stream_LayLib_1_2_L2 ins1 q6) fuel (0, [], [], [], q7.2)) fun (q2, q3, q4, q5) =>
 lv (q0a ++ [(T_api_Cell.mk name0 false ins1 table2 x18 q2 q3 q4 q7.1 0 0)]) fun q9 =>
 ck (apOk 144 q9.length) <|
 some (q5, q9)
set_option maxHeartbeats 4000000 in
set_option maxRecDepth 100000 in
theorem c_maskmake_Stream_LayLib_1_2 {w0 w : World} {l : List Assn} {ρ : Heap} {q10 : Nat} {q8 : Nat} {q0b : Option Addr} {q26 : Nat} {c_v3_0_0 : Nat} {q1k : Nat} {q0w : Option Addr} {q2s : Nat} {c_v4_0 : Nat} {q1b : List Value} {name0 : ByteArray} {ins1 : Int} {table2 : Int} {q0o : T_maskmake_Stream} {q11 : List T_api_Cell} {r : (Int × List T_api_Cell)} (hF : P_maskmake_Stream_LayLib_1_2 name0 ins1 table2 q0o q11 = some r) (q16 : RdS (RpI .i64) ρ q0b q26 c_v3_0_0 q0o.L) (q2w : RepL R_api_Cell ρ q11 q1b) (hS : St w0 w (cells q10 23 [.pointer (some ⟨q8, 0, none⟩)] :: cells q8 25 [.slice q0b q26 c_v3_0_0, .int .i64 q0o.fat] :: cells q1k 31 [.slice q0w q2s c_v4_0] :: vec 206 R_api_Cell.sz (.slice q0w q2s c_v4_0) q2s q1b :: ro ρ :: l)) :
  Calls Tryd.prog 102 #[.string name0, .int .i64 ins1, .int .u64 table2, .pointer (some ⟨q10, 0, none⟩), .pointer (some ⟨q1k, 0, none⟩)] w fun e w' => ∃ (ρ' : Heap) (q1p : Option Addr) (q1c : Nat) (c_b_v4_0_ret : Nat) (q1o : List Value), e = .returned (.tuple #[]) ∧ Le ρ ρ' ∧ RepL R_api_Cell ρ' r.2 q1o ∧ St w0 w' (cells q8 25 [.slice q0b q26 c_v3_0_0, .int .i64 r.1] :: cells q10 23 [.pointer (some ⟨q8, 0, none⟩)] :: cells q1k 31 [.slice q1p q1c c_b_v4_0_ret] :: vec 206 R_api_Cell.sz (.slice q1p q1c c_b_v4_0_ret) q1c q1o :: ro ρ' :: l) := by
 have e_ := q16.n; subst e_
 have e_ := St.vec_n (hS.pull 3) q2w; subst e_
 refine enterC Tryd.func102 rfl 54 rfl (by simp) ?_
 refine x_seq <| ?_
 replace hF := ar_s hF; obtain ⟨x14, hx14, hF⟩ := hF
 replace hF := ck_s hF; obtain ⟨q39, hF⟩ := hF
 replace hF := ar_s hF; obtain ⟨x15, hx15, hF⟩ := hF
 replace hF := bd_s hF; obtain ⟨q2t, q3a, hF⟩ := hF
 replace hF := ar_s hF; obtain ⟨x18, hx18, hF⟩ := hF
 replace hF := bd_s hF; obtain ⟨q0a, q30, hF⟩ := hF
 refine x_par (w0 := w0) [⟨[], [], [10], [], [], []⟩, ⟨[], [], [11], [], [], []⟩, ⟨[], [], [12], [], [], []⟩, ⟨[], [], [13], [], [], []⟩, ⟨[3], [3], [14], [], [], []⟩, ⟨[3, 4], [4], [15], [], [], []⟩, ⟨[], [], [16], [0], [], []⟩, ⟨[6], [6], [17], [2], [1], [3]⟩, ⟨[3, 4, 5, 6, 7], [5, 7], [18], [], [], []⟩, ⟨[], [], [19], [0], [], []⟩, ⟨[6, 7, 9], [9], [20], [2], [3], [4]⟩, ⟨[0, 1, 2, 3, 4, 5, 6, 7, 8, 9, 10], [0, 1, 2, 8, 10], [21], [], [], []⟩, ⟨[], [], [8], [], [], [5]⟩, ⟨[0, 1, 2, 3, 4, 5, 6, 7, 8, 9, 10, 11, 12], [11, 12], [], [], [5], [6]⟩] [⟨none, none, []⟩, ⟨none, (some 7), []⟩, ⟨none, none, []⟩, ⟨(some 7), (some 10), []⟩, ⟨(some 10), none, []⟩, ⟨(some 12), (some 13), [8]⟩, ⟨(some 13), none, [8]⟩] [8, 10, 11, 12, 13, 14, 15, 16, 17, 18, 19, 20, 21] [0, 1, 2] [0, 2, 4, 6] [0, 1, 2, 3, 4, 5, 6, 7, 8, 9, 10, 11, 12] [fun Ep0 => Ep0 10 = .string name0, fun Ep0 => Ep0 11 = .int .i64 ins1, fun Ep0 => Ep0 12 = .int .u64 table2, fun Ep0 => Ep0 13 = .int .i64 ins1, fun Ep0 => Ep0 14 = .int .i64 x14, fun Ep0 => Ep0 15 = .int .i64 x15, fun Ep0 => Ep0 16 = .pointer (some ⟨q8, 0, none⟩), fun Ep0 => Ep0 17 = .int .i64 q2t.1, fun Ep0 => Ep0 18 = .int .i64 x18, fun Ep0 => Ep0 19 = .pointer (some ⟨q8, 0, none⟩), fun Ep0 => Ep0 20 = .int .i64 q0a.1, fun Ep0 => Ep0 21 = .agg #[.string name0, .bool false, .int .i64 ins1, .int .u64 table2, .int .i64 x18, .slice none 0 0, .slice none 0 0, .slice none 0 0, .int .i64 q0a.1, .int .i64 0, .int .i64 0], fun Ep0 => Ep0 8 = .pointer (some ⟨(blkOf (Ep0 8)), 0, none⟩), fun Ep0 => True] [fun Ep0 => cells q10 23 [.pointer (some ⟨q8, 0, none⟩)], fun Ep0 => cells q8 25 [.slice q0b q0o.L.length c_v3_0_0, .int .i64 q0o.fat], fun Ep0 => ro ρ, fun Ep0 => cells q8 25 [.slice q0b q0o.L.length c_v3_0_0, .int .i64 q2t.2], fun Ep0 => cells q8 25 [.slice q0b q0o.L.length c_v3_0_0, .int .i64 q0a.2], fun Ep0 => cells (blkOf (Ep0 8)) 206 [.string (⟨#[]⟩ : ByteArray), .bool false, .int .i64 0, .int .u64 0, .int .i64 0, .slice none 0 0, .slice none 0 0, .slice none 0 0, .int .i64 0, .int .i64 0, .int .i64 0], fun Ep0 => cells (blkOf (Ep0 8)) 206 [.string name0, .bool false, .int .i64 ins1, .int .u64 table2, .int .i64 x18, .slice none 0 0, .slice none 0 0, .slice none 0 0, .int .i64 q0a.1, .int .i64 0, .int .i64 0]] mixed (by kernel_rfl) (((hS.pull 4).pull 2).pull 2) ?_ ?_
 ·refine ⟨?_, ?_, ?_, ?_, ?_, ?_, ?_, ?_, ?_, ?_, ?_, ?_, ?_, ?_, trivial⟩
  ·intro Ep0 w l' hE0 hO0 hF_ hS
   refine p (yl_move (hE0 0 rfl)) <| x_done <| ?_
   refine x_fin ⟨⟨_, rfl⟩, rfl, ?_⟩
   exact Eq.mp (by kernel_rfl) hS
  ·intro Ep0 w l' hE0 hO0 hF_ hS
   refine p (yl_move (hE0 1 rfl)) <| x_done <| ?_
   refine x_fin ⟨⟨_, rfl⟩, rfl, ?_⟩
   exact Eq.mp (by kernel_rfl) hS
  ·intro Ep0 w l' hE0 hO0 hF_ hS
   refine p (yl_move (hE0 2 rfl)) <| x_done <| ?_
   refine x_fin ⟨⟨_, rfl⟩, rfl, ?_⟩
   exact Eq.mp (by kernel_rfl) hS
  ·intro Ep0 w l' hE0 hO0 hF_ hS
   refine p (yl_move (hE0 1 rfl)) <| x_done <| ?_
   refine x_fin ⟨⟨_, rfl⟩, rfl, ?_⟩
   exact Eq.mp (by kernel_rfl) hS
  ·intro Ep0 w l' hE0 hO0 hF_ hS
   obtain ⟨q28, -⟩ := hF_
   replace q28 : Ep0 13 = .int .i64 ins1 := Eq.mp (by kernel_rfl) q28
   refine p (yadd q28 rfl hx14) <| x_done <| ?_
   refine x_fin ⟨⟨_, rfl⟩, rfl, ?_⟩
   exact Eq.mp (by kernel_rfl) hS
  ·intro Ep0 w l' hE0 hO0 hF_ hS
   obtain ⟨q29, -⟩ := hF_
   replace q29 : Ep0 14 = .int .i64 x14 := Eq.mp (by kernel_rfl) q29
   refine p (yquo q29 rfl q39 hx15) <| x_done <| ?_
   refine x_fin ⟨⟨_, rfl⟩, rfl, ?_⟩
   exact Eq.mp (by kernel_rfl) hS
  ·intro Ep0 w l' hE0 hO0 hF_ hS
   replace hS : St w0 w (cells q10 23 [.pointer (some ⟨q8, 0, none⟩)] :: l') := Eq.mp (by kernel_rfl) hS
   refine pa (at_load one_23 (hE0 3 rfl) (hS.cell rfl)) <| x_done <| ?_
   refine x_fin ⟨⟨_, rfl⟩, rfl, ?_⟩
   exact Eq.mp (by kernel_rfl) hS
  ·intro Ep0 w l' hE0 hO0 hF_ hS
   obtain ⟨q2a, -⟩ := hF_
   replace q2a : Ep0 16 = .pointer (some ⟨q8, 0, none⟩) := Eq.mp (by kernel_rfl) q2a
   replace hS : St w0 w (ro ρ :: cells q8 25 [.slice q0b q0o.L.length c_v3_0_0, .int .i64 q0o.fat] :: l') := Eq.mp (by kernel_rfl) hS
   have hcall := c_maskmake_Stream_Next q3a q16 (hS.pull 1)
   refine o_cc call_13 (args2 q2a rfl) hcall ?_
   rintro e w' ⟨rfl, hS⟩
   refine ⟨_, rfl, ?_⟩
   refine x_done <| ?_
   refine x_fin ⟨⟨_, rfl⟩, rfl, ?_⟩
   exact Eq.mp (by kernel_rfl) (hS.pull 1)
  ·intro Ep0 w l' hE0 hO0 hF_ hS
   obtain ⟨q2b, q2c, -⟩ := hF_
   replace q2b : Ep0 15 = .int .i64 x15 := Eq.mp (by kernel_rfl) q2b
   replace q2c : Ep0 17 = .int .i64 q2t.1 := Eq.mp (by kernel_rfl) q2c
   refine p (yadd q2b q2c hx18) <| x_done <| ?_
   refine x_fin ⟨⟨_, rfl⟩, rfl, ?_⟩
   exact Eq.mp (by kernel_rfl) hS
  ·intro Ep0 w l' hE0 hO0 hF_ hS
   replace hS : St w0 w (cells q10 23 [.pointer (some ⟨q8, 0, none⟩)] :: l') := Eq.mp (by kernel_rfl) hS
   refine pa (at_load one_23 (hE0 3 rfl) (hS.cell rfl)) <| x_done <| ?_
   refine x_fin ⟨⟨_, rfl⟩, rfl, ?_⟩
   exact Eq.mp (by kernel_rfl) hS
  ·intro Ep0 w l' hE0 hO0 hF_ hS
   obtain ⟨q2d, -⟩ := hF_
   replace q2d : Ep0 19 = .pointer (some ⟨q8, 0, none⟩) := Eq.mp (by kernel_rfl) q2d
   replace hS : St w0 w (ro ρ :: cells q8 25 [.slice q0b q0o.L.length c_v3_0_0, .int .i64 q2t.2] :: l') := Eq.mp (by kernel_rfl) hS
   have hcall := c_maskmake_Stream_Next q30 q16 (hS.pull 1)
   refine o_cc call_13 (args2 q2d rfl) hcall ?_
   rintro e w' ⟨rfl, hS⟩
   refine ⟨_, rfl, ?_⟩
   refine x_done <| ?_
   refine x_fin ⟨⟨_, rfl⟩, rfl, ?_⟩
   exact Eq.mp (by kernel_rfl) (hS.pull 1)
  ·intro Ep0 w l' hE0 hO0 hF_ hS
   obtain ⟨q2e, q2f, q2g, q2h, q1q, -⟩ := hF_
   replace q2e : Ep0 10 = .string name0 := Eq.mp (by kernel_rfl) q2e
   replace q2f : Ep0 11 = .int .i64 ins1 := Eq.mp (by kernel_rfl) q2f
   replace q2g : Ep0 12 = .int .u64 table2 := Eq.mp (by kernel_rfl) q2g
   replace q2h : Ep0 18 = .int .i64 x18 := Eq.mp (by kernel_rfl) q2h
   replace q1q : Ep0 20 = .int .i64 q0a.1 := Eq.mp (by kernel_rfl) q1q
   refine p (v := .agg #[.string name0, .bool false, .int .i64 ins1, .int .u64 table2, .int .i64 x18, .slice none 0 0, .slice none 0 0, .slice none 0 0, .int .i64 q0a.1, .int .i64 0, .int .i64 0]) (yl_build bld_206 bldf_206 (parts_eq (pt (va := .string name0) q2e (pt (va := .int .i64 ins1) q2f (pt (va := .int .u64 table2) q2g (pt (va := .int .i64 x18) q2h (pt (va := .int .i64 q0a.1) q1q pt0)))))) (by kernel_rfl)) <| x_done <| ?_
   refine x_fin ⟨⟨_, rfl⟩, rfl, ?_⟩
   exact Eq.mp (by kernel_rfl) hS
  ·intro Ep0 w l' hE0 hO0 hF_ hS
   refine o_alloc zero_206 hS (fun b8 w' hS => ?_)
   refine x_done <| ?_
   refine x_fin ⟨⟨_, rfl⟩, rfl, ?_⟩
   exact Eq.mp (by kernel_rfl) hS
  ·intro Ep0 w l' hE0 hO0 hF_ hS
   obtain ⟨q1r, q1l, -⟩ := hF_
   replace q1r : Ep0 21 = .agg #[.string name0, .bool false, .int .i64 ins1, .int .u64 table2, .int .i64 x18, .slice none 0 0, .slice none 0 0, .slice none 0 0, .int .i64 q0a.1, .int .i64 0, .int .i64 0] := Eq.mp (by kernel_rfl) q1r
   replace q1l : Ep0 8 = .pointer (some ⟨(blkOf (Ep0 8)), 0, none⟩) := Eq.mp (by kernel_rfl) q1l
   replace hS : St w0 w (cells (blkOf (Ep0 8)) 206 [.string (⟨#[]⟩ : ByteArray), .bool false, .int .i64 0, .int .u64 0, .int .i64 0, .slice none 0 0, .slice none 0 0, .slice none 0 0, .int .i64 0, .int .i64 0, .int .i64 0] :: l') := Eq.mp (by kernel_rfl) hS
   refine o_storeAgg (news := [.string name0, .bool false, .int .i64 ins1, .int .u64 table2, .int .i64 x18, .slice none 0 0, .slice none 0 0, .slice none 0 0, .int .i64 q0a.1, .int .i64 0, .int .i64 0]) agg_206 q1l q1r rfl (by simp [over_length]) hS (fun w' hS => ?_)
   refine x_done <| ?_
   refine x_fin ⟨⟨undef, rfl⟩, trivial, ?_⟩
   exact Eq.mp (by kernel_rfl) hS
 intro Ep0 w' hE0 hF_ hS
 obtain ⟨q2e, q2f, q2g, q28, q29, q2b, q2a, q2c, q2h, q2d, q1q, q1r, q1l, -⟩ := hF_
 replace q2e : Ep0 10 = .string name0 := Eq.mp (by kernel_rfl) q2e
 replace q2f : Ep0 11 = .int .i64 ins1 := Eq.mp (by kernel_rfl) q2f
 replace q2g : Ep0 12 = .int .u64 table2 := Eq.mp (by kernel_rfl) q2g
 replace q28 : Ep0 13 = .int .i64 ins1 := Eq.mp (by kernel_rfl) q28
 replace q29 : Ep0 14 = .int .i64 x14 := Eq.mp (by kernel_rfl) q29
 replace q2b : Ep0 15 = .int .i64 x15 := Eq.mp (by kernel_rfl) q2b
 replace q2a : Ep0 16 = .pointer (some ⟨q8, 0, none⟩) := Eq.mp (by kernel_rfl) q2a
 replace q2c : Ep0 17 = .int .i64 q2t.1 := Eq.mp (by kernel_rfl) q2c
 replace q2h : Ep0 18 = .int .i64 x18 := Eq.mp (by kernel_rfl) q2h
 replace q2d : Ep0 19 = .pointer (some ⟨q8, 0, none⟩) := Eq.mp (by kernel_rfl) q2d
 replace q1q : Ep0 20 = .int .i64 q0a.1 := Eq.mp (by kernel_rfl) q1q
 replace q1r : Ep0 21 = .agg #[.string name0, .bool false, .int .i64 ins1, .int .u64 table2, .int .i64 x18, .slice none 0 0, .slice none 0 0, .slice none 0 0, .int .i64 q0a.1, .int .i64 0, .int .i64 0] := Eq.mp (by kernel_rfl) q1r
 replace q1l : Ep0 8 = .pointer (some ⟨(blkOf (Ep0 8)), 0, none⟩) := Eq.mp (by kernel_rfl) q1l
 replace hS : St w0 w' (cells q10 23 [.pointer (some ⟨q8, 0, none⟩)] :: ro ρ :: cells q8 25 [.slice q0b q0o.L.length c_v3_0_0, .int .i64 q0a.2] :: cells (blkOf (Ep0 8)) 206 [.string name0, .bool false, .int .i64 ins1, .int .u64 table2, .int .i64 x18, .slice none 0 0, .slice none 0 0, .slice none 0 0, .int .i64 q0a.1, .int .i64 0, .int .i64 0] :: (cells q1k 31 [.slice q0w q11.length c_v4_0] :: vec 206 R_api_Cell.sz (.slice q0w q11.length c_v4_0) q11.length q1b :: l)) := Eq.mp (by kernel_rfl) hS
 refine x_seq <| x_seq <| x_region <| p (yl_move (hE0 1 rfl)) <|
  p (yl_move rfl) <| x_done <| ?_
 replace hF := bd_s hF; obtain ⟨oL2, hLL2, hF⟩ := hF
 refine x_join (fun E w => ∃ (q2i : Nat) (q0c : Option Addr) (q0s : Nat) (c_b_c8_L2_5_L2 : Nat) (q12 : List Value) (q0d : Option Addr) (q0t : Nat) (c_b_c8_L2_6_L2 : Nat) (q13 : List Value) (q0e : Option Addr) (q0u : Nat) (c_b_c8_L2_7_L2 : Nat) (q14 : List Value) (q0f : List Int) (q0g : List Int) (q0h : List Int) (q1d : Int), (q0f, q0g, q0h, q1d) = oL2 ∧ E 4 = .pointer (some ⟨q1k, 0, none⟩) ∧ E 8 = .pointer (some ⟨q2i, 0, none⟩) ∧ RepL (RpI .i64) ρ q0f q12 ∧ RepL (RpI .i64) ρ q0g q13 ∧ RepL (RpI .i64) ρ q0h q14 ∧ St w0 w (cells q1k 31 [.slice q0w q11.length c_v4_0] :: cells q2i 206 [.string name0, .bool false, .int .i64 ins1, .int .u64 table2, .int .i64 x18, .slice q0c q0s c_b_c8_L2_5_L2, .slice q0d q0t c_b_c8_L2_6_L2, .slice q0e q0u c_b_c8_L2_7_L2, .int .i64 q0a.1, .int .i64 0, .int .i64 0] :: cells q8 25 [.slice q0b q0o.L.length c_v3_0_0, .int .i64 q1d] :: cells q10 23 [.pointer (some ⟨q8, 0, none⟩)] :: vec 206 R_api_Cell.sz (.slice q0w q11.length c_v4_0) q11.length q1b :: vec 3 (RpI .i64).sz (.slice q0c q0s c_b_c8_L2_5_L2) q0s q12 :: vec 3 (RpI .i64).sz (.slice q0d q0t c_b_c8_L2_6_L2) q0t q13 :: vec 3 (RpI .i64).sz (.slice q0e q0u c_b_c8_L2_7_L2) q0u q14 :: ro ρ :: l)) ?_ ?_
 ·refine x_block ?_
  replace hS := St.vec_nil hS 3 (RpI .i64).sz
  have q1e : RepL (RpI .i64) ρ [] [] := rfl
  replace hS := St.vec_nil hS 3 (RpI .i64).sz
  have q1f : RepL (RpI .i64) ρ [] [] := rfl
  replace hS := St.vec_nil hS 3 (RpI .i64).sz
  have q1g : RepL (RpI .i64) ρ [] [] := rfl
  refine x_loop (fun k_ E w => ∃ (q4 : Nat) (q9 : Option Addr) (q0p : Nat) (c_b_c8_L2h_5_L2h : Nat) (q0i : List Value) (q6 : Option Addr) (q0q : Nat) (c_b_c8_L2h_6_L2h : Nat) (q0j : List Value) (q3 : Option Addr) (q0r : Nat) (c_b_c8_L2h_7_L2h : Nat) (q0k : List Value) (q1s : Int) (q7 : List Int) (q5 : List Int) (q2 : List Int) (q15 : Int), lp (P_maskmake_Stream_LayLib_1_2_L2 ins1 q0o) k_ (q1s, q7, q5, q2, q15) = some oL2 ∧ E 3 = .pointer (some ⟨q10, 0, none⟩) ∧ E 4 = .pointer (some ⟨q1k, 0, none⟩) ∧ E 8 = .pointer (some ⟨q4, 0, none⟩) ∧ E 22 = .int .i64 ins1 ∧ E 23 = .int .i64 q1s ∧ RepL (RpI .i64) ρ q7 q0i ∧ RepL (RpI .i64) ρ q5 q0j ∧ RepL (RpI .i64) ρ q2 q0k ∧ St w0 w (cells q10 23 [.pointer (some ⟨q8, 0, none⟩)] :: cells q1k 31 [.slice q0w q11.length c_v4_0] :: cells q4 206 [.string name0, .bool false, .int .i64 ins1, .int .u64 table2, .int .i64 x18, .slice q9 q0p c_b_c8_L2h_5_L2h, .slice q6 q0q c_b_c8_L2h_6_L2h, .slice q3 q0r c_b_c8_L2h_7_L2h, .int .i64 q0a.1, .int .i64 0, .int .i64 0] :: cells q8 25 [.slice q0b q0o.L.length c_v3_0_0, .int .i64 q15] :: vec 206 R_api_Cell.sz (.slice q0w q11.length c_v4_0) q11.length q1b :: vec 3 (RpI .i64).sz (.slice q9 q0p c_b_c8_L2h_5_L2h) q0p q0i :: vec 3 (RpI .i64).sz (.slice q6 q0q c_b_c8_L2h_6_L2h) q0q q0j :: vec 3 (RpI .i64).sz (.slice q3 q0r c_b_c8_L2h_7_L2h) q0r q0k :: ro ρ :: l)) fuel ⟨(blkOf (Ep0 8)), none, 0, 0, [], none, 0, 0, [], none, 0, 0, [], 0, [], [], [], q0a.2, hLL2, (hE0 3 rfl), (hE0 4 rfl), q1l, rfl, rfl, q1e, q1f, q1g, (((((((((hS.pull 4).pull 1).pull 2).pull 3).pull 8).pull 6).pull 7).pull 8).pull 8)⟩ ?_
  rintro kL2 E w ⟨q4, q9, q0p, c_b_c8_L2h_5_L2h, q0i, q6, q0q, c_b_c8_L2h_6_L2h, q0j, q3, q0r, c_b_c8_L2h_7_L2h, q0k, q1s, q7, q5, q2, q15, hLL2, q27, q2x, q18, q2u, q2v, q0x, q0y, q0z, hS⟩
  have e_ := St.vec_n (hS.pull 5) q0x; subst e_
  have e_ := St.vec_n (hS.pull 6) q0y; subst e_
  have e_ := St.vec_n (hS.pull 7) q0z; subst e_
  replace hLL2 := lp_s hLL2; obtain ⟨kL2, obL2, rfl, hFL2, hLL2⟩ := hLL2
  refine x_seq <| x_region <| p (yl_lss q2v q2u) <| x_done <|
   x_seq <|
   x_cond_p (q1s < ins1) rfl (fun hc24 => ?_) (fun hc24 => ?_)
  ·replace hFL2 := it_t hc24 hFL2
   replace hFL2 := bd_s hFL2; obtain ⟨q0v, q3b, hFL2⟩ := hFL2
   refine x_skip <| x_seq <| x_block <| x_seq <|
    x_region <| pa (at_load one_23 q27 (hS.cell rfl)) <| ?_
   have hcall := c_maskmake_Stream_Next q3b q16 ((hS.pull 8).pull 4)
   refine o_cc call_13 (args2 rfl rfl) hcall ?_
   rintro e w' ⟨rfl, hS⟩
   refine ⟨_, rfl, ?_⟩
   refine p (yl_assign rfl) <| x_done <| ?_
   replace hFL2 := bd_s hFL2; obtain ⟨q17, q3c, hFL2⟩ := hFL2
   replace hFL2 := lv_s hFL2; obtain ⟨q0m, q3d, hFL2⟩ := hFL2
   replace hFL2 := ck_s hFL2; obtain ⟨q3e, hFL2⟩ := hFL2
   replace hFL2 := lv_s hFL2; obtain ⟨q0l, q31, hFL2⟩ := hFL2
   replace hFL2 := ck_s hFL2; obtain ⟨q32, hFL2⟩ := hFL2
   replace hFL2 := bd_s hFL2; obtain ⟨q1t, q33, hFL2⟩ := hFL2
   replace hFL2 := ar_s hFL2; obtain ⟨x43, hx43, hFL2⟩ := hFL2
   replace hFL2 := lv_s hFL2; obtain ⟨q0n, q34, hFL2⟩ := hFL2
   replace hFL2 := ck_s hFL2; obtain ⟨q35, hFL2⟩ := hFL2
   refine x_par (w0 := w0) [⟨[], [], [27], [], [], []⟩, ⟨[0], [0], [28], [0], [], []⟩, ⟨[], [], [29], [1], [], []⟩, ⟨[2], [2], [30], [3], [2], [4]⟩, ⟨[2, 3], [3], [31], [], [], [5]⟩, ⟨[0, 1, 2, 3, 4], [1, 4], [32], [5, 3], [6], [7]⟩, ⟨[], [], [33], [], [], []⟩, ⟨[6], [6], [34], [0], [], []⟩, ⟨[], [], [35], [], [], []⟩, ⟨[8], [8], [36], [], [], [8]⟩, ⟨[0, 1, 2, 3, 4, 5, 6, 7, 8, 9], [7, 9], [37], [8, 3], [9], [10]⟩, ⟨[], [], [38], [], [], []⟩, ⟨[11], [11], [39], [0], [], []⟩, ⟨[], [], [40], [], [], []⟩, ⟨[], [], [41], [1], [], []⟩, ⟨[0, 1, 2, 3, 4, 5, 6, 7, 8, 9, 10, 14], [14], [42], [3], [4], [11]⟩, ⟨[0, 1, 2, 3, 4, 5, 6, 7, 8, 9, 10, 13, 14, 15], [13, 15], [43], [], [], []⟩, ⟨[0, 1, 2, 3, 4, 5, 6, 7, 8, 9, 10, 13, 14, 15, 16], [16], [44], [], [], [12]⟩, ⟨[0, 1, 2, 3, 4, 5, 6, 7, 8, 9, 10, 11, 12, 13, 14, 15, 16, 17], [12, 17], [45], [12, 3], [13], [14]⟩, ⟨[0, 1, 2, 3, 4, 5, 6, 7, 11, 12], [], [46], [], [], []⟩, ⟨[0, 1, 2, 3, 4, 5, 6, 7, 8, 9, 10, 11, 12, 13, 14, 15, 16, 17, 18, 19], [5, 19], [], [], [0], [15]⟩, ⟨[0, 1, 2, 3, 4, 5, 6, 7, 8, 9, 10, 11, 12, 13, 14, 15, 16, 17, 18, 19, 20], [], [47], [], [], []⟩, ⟨[0, 1, 2, 3, 4, 5, 6, 7, 8, 9, 10, 11, 12, 13, 14, 15, 16, 17, 18, 19, 20, 21], [5, 10, 21], [], [], [15], [16]⟩, ⟨[0, 1, 2, 3, 4, 5, 6, 7, 8, 9, 10, 11, 12, 13, 14, 15, 16, 17, 18, 19, 20, 21, 22], [], [48], [], [], []⟩, ⟨[0, 1, 2, 3, 4, 5, 6, 7, 8, 9, 10, 11, 12, 13, 14, 15, 16, 17, 18, 19, 20, 21, 22, 23], [5, 10, 18, 23], [], [], [16], [17]⟩] [⟨none, (some 20), []⟩, ⟨none, none, []⟩, ⟨none, (some 3), []⟩, ⟨none, none, []⟩, ⟨(some 3), (some 15), []⟩, ⟨(some 4), none, [31]⟩, ⟨none, (some 5), []⟩, ⟨(some 5), none, [32]⟩, ⟨(some 9), none, [36]⟩, ⟨none, (some 10), []⟩, ⟨(some 10), none, [37]⟩, ⟨(some 15), none, []⟩, ⟨(some 17), none, [44]⟩, ⟨none, (some 18), []⟩, ⟨(some 18), none, [45]⟩, ⟨(some 20), (some 22), [32]⟩, ⟨(some 22), (some 24), [32, 37]⟩, ⟨(some 24), none, [32, 37, 45]⟩] [27, 28, 29, 30, 31, 32, 33, 34, 35, 36, 37, 38, 39, 40, 41, 42, 43, 44, 45, 46, 47, 48] [0, 1, 2, 3, 6, 9, 13] [1, 3, 5, 7, 8, 10, 11, 12, 14, 17] [0, 1, 2, 3, 4, 5, 6, 7, 8, 9, 10, 11, 12, 13, 14, 15, 16, 17, 18, 19, 21, 23] [fun Ep4 => Ep4 27 = .pointer (some ⟨q4, 5, none⟩), fun Ep4 => Ep4 28 = .slice q9 q7.length c_b_c8_L2h_5_L2h, fun Ep4 => Ep4 29 = .pointer (some ⟨q8, 0, none⟩), fun Ep4 => Ep4 30 = .int .i64 q17.1, fun Ep4 => Ep4 31 = .slice (some ⟨(blkOf (Ep4 31)), 0, none⟩) 1 1, fun Ep4 => Ep4 32 = .slice (adOf (Ep4 32)) q0m.length (capOf (Ep4 32)), fun Ep4 => Ep4 33 = .pointer (some ⟨q4, 6, none⟩), fun Ep4 => Ep4 34 = .slice q6 q5.length c_b_c8_L2h_6_L2h, fun Ep4 => Ep4 35 = .int .i64 q0v.1, fun Ep4 => Ep4 36 = .slice (some ⟨(blkOf (Ep4 36)), 0, none⟩) 1 1, fun Ep4 => Ep4 37 = .slice (adOf (Ep4 37)) q0l.length (capOf (Ep4 37)), fun Ep4 => Ep4 38 = .pointer (some ⟨q4, 7, none⟩), fun Ep4 => Ep4 39 = .slice q3 q2.length c_b_c8_L2h_7_L2h, fun Ep4 => Ep4 40 = .int .i64 q0v.1, fun Ep4 => Ep4 41 = .pointer (some ⟨q8, 0, none⟩), fun Ep4 => Ep4 42 = .int .i64 q1t.1, fun Ep4 => Ep4 43 = .int .i64 x43, fun Ep4 => Ep4 44 = .slice (some ⟨(blkOf (Ep4 44)), 0, none⟩) 1 1, fun Ep4 => Ep4 45 = .slice (adOf (Ep4 45)) q0n.length (capOf (Ep4 45)), fun Ep4 => Ep4 46 = .pointer (some ⟨q4, 5, none⟩), fun Ep4 => True, fun Ep4 => Ep4 47 = .pointer (some ⟨q4, 6, none⟩), fun Ep4 => True, fun Ep4 => Ep4 48 = .pointer (some ⟨q4, 7, none⟩), fun Ep4 => True] [fun Ep4 => cells q4 206 [.string name0, .bool false, .int .i64 ins1, .int .u64 table2, .int .i64 x18, .slice q9 q7.length c_b_c8_L2h_5_L2h, .slice q6 q5.length c_b_c8_L2h_6_L2h, .slice q3 q2.length c_b_c8_L2h_7_L2h, .int .i64 q0a.1, .int .i64 0, .int .i64 0], fun Ep4 => cells q10 23 [.pointer (some ⟨q8, 0, none⟩)], fun Ep4 => cells q8 25 [.slice q0b q0o.L.length c_v3_0_0, .int .i64 q0v.2], fun Ep4 => ro ρ, fun Ep4 => cells q8 25 [.slice q0b q0o.L.length c_v3_0_0, .int .i64 q17.2], fun Ep4 => cells (blkOf (Ep4 31)) 3 [.int .i64 q17.1], fun Ep4 => vec 3 (RpI .i64).sz (.slice q9 q7.length c_b_c8_L2h_5_L2h) q7.length q0i, fun Ep4 => bunA (fun (cs32 : List Value) => RepL (RpI .i64) ρ q0m cs32) (fun (cs32 : List Value) => [vec 3 (RpI .i64).sz (.slice (adOf (Ep4 32)) q0m.length (capOf (Ep4 32))) q0m.length cs32]), fun Ep4 => cells (blkOf (Ep4 36)) 3 [.int .i64 q0v.1], fun Ep4 => vec 3 (RpI .i64).sz (.slice q6 q5.length c_b_c8_L2h_6_L2h) q5.length q0j, fun Ep4 => bunA (fun (cs37 : List Value) => RepL (RpI .i64) ρ q0l cs37) (fun (cs37 : List Value) => [vec 3 (RpI .i64).sz (.slice (adOf (Ep4 37)) q0l.length (capOf (Ep4 37))) q0l.length cs37]), fun Ep4 => cells q8 25 [.slice q0b q0o.L.length c_v3_0_0, .int .i64 q1t.2], fun Ep4 => cells (blkOf (Ep4 44)) 3 [.int .i64 x43], fun Ep4 => vec 3 (RpI .i64).sz (.slice q3 q2.length c_b_c8_L2h_7_L2h) q2.length q0k, fun Ep4 => bunA (fun (cs45 : List Value) => RepL (RpI .i64) ρ q0n cs45) (fun (cs45 : List Value) => [vec 3 (RpI .i64).sz (.slice (adOf (Ep4 45)) q0n.length (capOf (Ep4 45))) q0n.length cs45]), fun Ep4 => cells q4 206 [.string name0, .bool false, .int .i64 ins1, .int .u64 table2, .int .i64 x18, .slice (adOf (Ep4 32)) q0m.length (capOf (Ep4 32)), .slice q6 q5.length c_b_c8_L2h_6_L2h, .slice q3 q2.length c_b_c8_L2h_7_L2h, .int .i64 q0a.1, .int .i64 0, .int .i64 0], fun Ep4 => cells q4 206 [.string name0, .bool false, .int .i64 ins1, .int .u64 table2, .int .i64 x18, .slice (adOf (Ep4 32)) q0m.length (capOf (Ep4 32)), .slice (adOf (Ep4 37)) q0l.length (capOf (Ep4 37)), .slice q3 q2.length c_b_c8_L2h_7_L2h, .int .i64 q0a.1, .int .i64 0, .int .i64 0], fun Ep4 => cells q4 206 [.string name0, .bool false, .int .i64 ins1, .int .u64 table2, .int .i64 x18, .slice (adOf (Ep4 32)) q0m.length (capOf (Ep4 32)), .slice (adOf (Ep4 37)) q0l.length (capOf (Ep4 37)), .slice (adOf (Ep4 45)) q0n.length (capOf (Ep4 45)), .int .i64 q0a.1, .int .i64 0, .int .i64 0]] mixed (by kernel_rfl) (((((((hS.pull 8).pull 8).pull 8).pull 4).pull 4).pull 5).pull 7) ?_ ?_
   ·refine ⟨?_, ?_, ?_, ?_, ?_, ?_, ?_, ?_, ?_, ?_, ?_, ?_, ?_, ?_, ?_, ?_, ?_, ?_, ?_, ?_, ?_, ?_, ?_, ?_, ?_, trivial⟩
    ·intro Ep4 w l' hE4 hO4 hF_ hS
     refine p (yl_field0 fld_206_5 ((hE4 8 rfl).trans q18)) <| x_done <| ?_
     refine x_fin ⟨⟨_, rfl⟩, rfl, ?_⟩
     exact Eq.mp (by kernel_rfl) hS
    ·intro Ep4 w l' hE4 hO4 hF_ hS
     obtain ⟨q2j, -⟩ := hF_
     replace q2j : Ep4 27 = .pointer (some ⟨q4, 5, none⟩) := Eq.mp (by kernel_rfl) q2j
     replace hS : St w0 w (cells q4 206 [.string name0, .bool false, .int .i64 ins1, .int .u64 table2, .int .i64 x18, .slice q9 q7.length c_b_c8_L2h_5_L2h, .slice q6 q5.length c_b_c8_L2h_6_L2h, .slice q3 q2.length c_b_c8_L2h_7_L2h, .int .i64 q0a.1, .int .i64 0, .int .i64 0] :: l') := Eq.mp (by kernel_rfl) hS
     refine pa (at_load one_22 q2j (hS.cell rfl)) <| x_done <| ?_
     refine x_fin ⟨⟨_, rfl⟩, rfl, ?_⟩
     exact Eq.mp (by kernel_rfl) hS
    ·intro Ep4 w l' hE4 hO4 hF_ hS
     replace hS : St w0 w (cells q10 23 [.pointer (some ⟨q8, 0, none⟩)] :: l') := Eq.mp (by kernel_rfl) hS
     refine pa (at_load one_23 ((hE4 3 rfl).trans q27) (hS.cell rfl)) <| x_done <| ?_
     refine x_fin ⟨⟨_, rfl⟩, rfl, ?_⟩
     exact Eq.mp (by kernel_rfl) hS
    ·intro Ep4 w l' hE4 hO4 hF_ hS
     obtain ⟨q2k, -⟩ := hF_
     replace q2k : Ep4 29 = .pointer (some ⟨q8, 0, none⟩) := Eq.mp (by kernel_rfl) q2k
     replace hS : St w0 w (ro ρ :: cells q8 25 [.slice q0b q0o.L.length c_v3_0_0, .int .i64 q0v.2] :: l') := Eq.mp (by kernel_rfl) hS
     have hcall := c_maskmake_Stream_Range q3c q16 (hS.pull 1)
     refine o_cc call_24 (args3 q2k rfl rfl) hcall ?_
     rintro e w' ⟨rfl, hS⟩
     refine ⟨_, rfl, ?_⟩
     refine x_done <| ?_
     refine x_fin ⟨⟨_, rfl⟩, rfl, ?_⟩
     exact Eq.mp (by kernel_rfl) (hS.pull 1)
    ·intro Ep4 w l' hE4 hO4 hF_ hS
     obtain ⟨q2l, -⟩ := hF_
     replace q2l : Ep4 30 = .int .i64 q17.1 := Eq.mp (by kernel_rfl) q2l
     refine o_buildSlice (vs := [.int .i64 q17.1]) (cs := [.int .i64 q17.1]) sl_22 zero_3 (parts_eq (pt (va := .int .i64 q17.1) q2l pt0)) rfl (by intro v hv; simp only [List.mem_cons, List.not_mem_nil, or_false] at hv; first | (subst hv; rfl) | (rcases hv with rfl <;> rfl)) (by decide) rfl hS (fun b31 w' hS => ?_)
     refine x_done <| ?_
     refine x_fin ⟨⟨_, rfl⟩, rfl, ?_⟩
     exact Eq.mp (by kernel_rfl) hS
    ·intro Ep4 w l' hE4 hO4 hF_ hS
     obtain ⟨q2m, q2n, -⟩ := hF_
     replace q2m : Ep4 28 = .slice q9 q7.length c_b_c8_L2h_5_L2h := Eq.mp (by kernel_rfl) q2m
     replace q2n : Ep4 31 = .slice (some ⟨(blkOf (Ep4 31)), 0, none⟩) 1 1 := Eq.mp (by kernel_rfl) q2n
     replace hS : St w0 w (cells (blkOf (Ep4 31)) 3 [.int .i64 q17.1] :: ro ρ :: vec 3 (RpI .i64).sz (.slice q9 q7.length c_b_c8_L2h_5_L2h) q7.length q0i :: l') := Eq.mp (by kernel_rfl) hS
     refine o_ap sl_22 zero_3 rfl (by decide) q2m q2n (hS.pull 2) q0x (src_blk usl_22 hS rfl rfl) (RepL.cons (R := (RpI .i64)) (ρ := ρ) (x := q17.1) (cs := [.int .i64 q17.1]) rfl RepL.nil) q3d q3e (fun A32 c32 cs32 w' hr32 hS => ?_)
     refine x_done <| ?_
     refine x_fin ⟨⟨_, rfl⟩, rfl, ?_⟩
     replace hS := St.bun (Φ := (fun (cs32 : List Value) => RepL (RpI .i64) ρ q0m cs32)) (L := (fun (cs32 : List Value) => [vec 3 (RpI .i64).sz (.slice A32 q0m.length c32) q0m.length cs32])) cs32 hr32 hS
     exact Eq.mp (by kernel_rfl) ((hS.pull 2).pull 2)
    ·intro Ep4 w l' hE4 hO4 hF_ hS
     refine p (yl_field0 fld_206_6 ((hE4 8 rfl).trans q18)) <| x_done <| ?_
     refine x_fin ⟨⟨_, rfl⟩, rfl, ?_⟩
     exact Eq.mp (by kernel_rfl) hS
    ·intro Ep4 w l' hE4 hO4 hF_ hS
     obtain ⟨q2o, -⟩ := hF_
     replace q2o : Ep4 33 = .pointer (some ⟨q4, 6, none⟩) := Eq.mp (by kernel_rfl) q2o
     replace hS : St w0 w (cells q4 206 [.string name0, .bool false, .int .i64 ins1, .int .u64 table2, .int .i64 x18, .slice q9 q7.length c_b_c8_L2h_5_L2h, .slice q6 q5.length c_b_c8_L2h_6_L2h, .slice q3 q2.length c_b_c8_L2h_7_L2h, .int .i64 q0a.1, .int .i64 0, .int .i64 0] :: l') := Eq.mp (by kernel_rfl) hS
     refine pa (at_load one_22 q2o (hS.cell rfl)) <| x_done <| ?_
     refine x_fin ⟨⟨_, rfl⟩, rfl, ?_⟩
     exact Eq.mp (by kernel_rfl) hS
    ·intro Ep4 w l' hE4 hO4 hF_ hS
     refine p (yl_move (hE4 9 rfl)) <| x_done <| ?_
     refine x_fin ⟨⟨_, rfl⟩, rfl, ?_⟩
     exact Eq.mp (by kernel_rfl) hS
    ·intro Ep4 w l' hE4 hO4 hF_ hS
     obtain ⟨q2p, -⟩ := hF_
     replace q2p : Ep4 35 = .int .i64 q0v.1 := Eq.mp (by kernel_rfl) q2p
     refine o_buildSlice (vs := [.int .i64 q0v.1]) (cs := [.int .i64 q0v.1]) sl_22 zero_3 (parts_eq (pt (va := .int .i64 q0v.1) q2p pt0)) rfl (by intro v hv; simp only [List.mem_cons, List.not_mem_nil, or_false] at hv; first | (subst hv; rfl) | (rcases hv with rfl <;> rfl)) (by decide) rfl hS (fun b36 w' hS => ?_)
     refine x_done <| ?_
     refine x_fin ⟨⟨_, rfl⟩, rfl, ?_⟩
     exact Eq.mp (by kernel_rfl) hS
    ·intro Ep4 w l' hE4 hO4 hF_ hS
     obtain ⟨q2q, q2r, -⟩ := hF_
     replace q2q : Ep4 34 = .slice q6 q5.length c_b_c8_L2h_6_L2h := Eq.mp (by kernel_rfl) q2q
     replace q2r : Ep4 36 = .slice (some ⟨(blkOf (Ep4 36)), 0, none⟩) 1 1 := Eq.mp (by kernel_rfl) q2r
     replace hS : St w0 w (cells (blkOf (Ep4 36)) 3 [.int .i64 q0v.1] :: ro ρ :: vec 3 (RpI .i64).sz (.slice q6 q5.length c_b_c8_L2h_6_L2h) q5.length q0j :: l') := Eq.mp (by kernel_rfl) hS
     refine o_ap sl_22 zero_3 rfl (by decide) q2q q2r (hS.pull 2) q0y (src_blk usl_22 hS rfl rfl) (RepL.cons (R := (RpI .i64)) (ρ := ρ) (x := q0v.1) (cs := [.int .i64 q0v.1]) rfl RepL.nil) q31 q32 (fun A37 c37 cs37 w' hr37 hS => ?_)
     refine x_done <| ?_
     refine x_fin ⟨⟨_, rfl⟩, rfl, ?_⟩
     replace hS := St.bun (Φ := (fun (cs37 : List Value) => RepL (RpI .i64) ρ q0l cs37)) (L := (fun (cs37 : List Value) => [vec 3 (RpI .i64).sz (.slice A37 q0l.length c37) q0l.length cs37])) cs37 hr37 hS
     exact Eq.mp (by kernel_rfl) ((hS.pull 2).pull 2)
    ·intro Ep4 w l' hE4 hO4 hF_ hS
     refine p (yl_field0 fld_206_7 ((hE4 8 rfl).trans q18)) <| x_done <| ?_
     refine x_fin ⟨⟨_, rfl⟩, rfl, ?_⟩
     exact Eq.mp (by kernel_rfl) hS
    ·intro Ep4 w l' hE4 hO4 hF_ hS
     obtain ⟨q1u, -⟩ := hF_
     replace q1u : Ep4 38 = .pointer (some ⟨q4, 7, none⟩) := Eq.mp (by kernel_rfl) q1u
     replace hS : St w0 w (cells q4 206 [.string name0, .bool false, .int .i64 ins1, .int .u64 table2, .int .i64 x18, .slice q9 q7.length c_b_c8_L2h_5_L2h, .slice q6 q5.length c_b_c8_L2h_6_L2h, .slice q3 q2.length c_b_c8_L2h_7_L2h, .int .i64 q0a.1, .int .i64 0, .int .i64 0] :: l') := Eq.mp (by kernel_rfl) hS
     refine pa (at_load one_22 q1u (hS.cell rfl)) <| x_done <| ?_
     refine x_fin ⟨⟨_, rfl⟩, rfl, ?_⟩
     exact Eq.mp (by kernel_rfl) hS
    ·intro Ep4 w l' hE4 hO4 hF_ hS
     refine p (yl_move (hE4 9 rfl)) <| x_done <| ?_
     refine x_fin ⟨⟨_, rfl⟩, rfl, ?_⟩
     exact Eq.mp (by kernel_rfl) hS
    ·intro Ep4 w l' hE4 hO4 hF_ hS
     replace hS : St w0 w (cells q10 23 [.pointer (some ⟨q8, 0, none⟩)] :: l') := Eq.mp (by kernel_rfl) hS
     refine pa (at_load one_23 ((hE4 3 rfl).trans q27) (hS.cell rfl)) <| x_done <| ?_
     refine x_fin ⟨⟨_, rfl⟩, rfl, ?_⟩
     exact Eq.mp (by kernel_rfl) hS
    ·intro Ep4 w l' hE4 hO4 hF_ hS
     obtain ⟨q1v, -⟩ := hF_
     replace q1v : Ep4 41 = .pointer (some ⟨q8, 0, none⟩) := Eq.mp (by kernel_rfl) q1v
     replace hS : St w0 w (ro ρ :: cells q8 25 [.slice q0b q0o.L.length c_v3_0_0, .int .i64 q17.2] :: l') := Eq.mp (by kernel_rfl) hS
     have hcall := c_maskmake_Stream_Next q33 q16 (hS.pull 1)
     refine o_cc call_13 (args2 q1v rfl) hcall ?_
     rintro e w' ⟨rfl, hS⟩
     refine ⟨_, rfl, ?_⟩
     refine x_done <| ?_
     refine x_fin ⟨⟨_, rfl⟩, rfl, ?_⟩
     exact Eq.mp (by kernel_rfl) (hS.pull 1)
    ·intro Ep4 w l' hE4 hO4 hF_ hS
     obtain ⟨q1w, q1x, -⟩ := hF_
     replace q1w : Ep4 40 = .int .i64 q0v.1 := Eq.mp (by kernel_rfl) q1w
     replace q1x : Ep4 42 = .int .i64 q1t.1 := Eq.mp (by kernel_rfl) q1x
     refine p (yadd q1w q1x hx43) <| x_done <| ?_
     refine x_fin ⟨⟨_, rfl⟩, rfl, ?_⟩
     exact Eq.mp (by kernel_rfl) hS
    ·intro Ep4 w l' hE4 hO4 hF_ hS
     obtain ⟨q1y, -⟩ := hF_
     replace q1y : Ep4 43 = .int .i64 x43 := Eq.mp (by kernel_rfl) q1y
     refine o_buildSlice (vs := [.int .i64 x43]) (cs := [.int .i64 x43]) sl_22 zero_3 (parts_eq (pt (va := .int .i64 x43) q1y pt0)) rfl (by intro v hv; simp only [List.mem_cons, List.not_mem_nil, or_false] at hv; first | (subst hv; rfl) | (rcases hv with rfl <;> rfl)) (by decide) rfl hS (fun b44 w' hS => ?_)
     refine x_done <| ?_
     refine x_fin ⟨⟨_, rfl⟩, rfl, ?_⟩
     exact Eq.mp (by kernel_rfl) hS
    ·intro Ep4 w l' hE4 hO4 hF_ hS
     obtain ⟨q1z, q20, -⟩ := hF_
     replace q1z : Ep4 39 = .slice q3 q2.length c_b_c8_L2h_7_L2h := Eq.mp (by kernel_rfl) q1z
     replace q20 : Ep4 44 = .slice (some ⟨(blkOf (Ep4 44)), 0, none⟩) 1 1 := Eq.mp (by kernel_rfl) q20
     replace hS : St w0 w (cells (blkOf (Ep4 44)) 3 [.int .i64 x43] :: ro ρ :: vec 3 (RpI .i64).sz (.slice q3 q2.length c_b_c8_L2h_7_L2h) q2.length q0k :: l') := Eq.mp (by kernel_rfl) hS
     refine o_ap sl_22 zero_3 rfl (by decide) q1z q20 (hS.pull 2) q0z (src_blk usl_22 hS rfl rfl) (RepL.cons (R := (RpI .i64)) (ρ := ρ) (x := x43) (cs := [.int .i64 x43]) rfl RepL.nil) q34 q35 (fun A45 c45 cs45 w' hr45 hS => ?_)
     refine x_done <| ?_
     refine x_fin ⟨⟨_, rfl⟩, rfl, ?_⟩
     replace hS := St.bun (Φ := (fun (cs45 : List Value) => RepL (RpI .i64) ρ q0n cs45)) (L := (fun (cs45 : List Value) => [vec 3 (RpI .i64).sz (.slice A45 q0n.length c45) q0n.length cs45])) cs45 hr45 hS
     exact Eq.mp (by kernel_rfl) ((hS.pull 2).pull 2)
    ·intro Ep4 w l' hE4 hO4 hF_ hS
     refine p (yl_field0 fld_206_5 ((hE4 8 rfl).trans q18)) <| x_done <| ?_
     refine x_fin ⟨⟨_, rfl⟩, rfl, ?_⟩
     exact Eq.mp (by kernel_rfl) hS
    ·intro Ep4 w l' hE4 hO4 hF_ hS
     obtain ⟨q19, q21, -⟩ := hF_
     replace q19 : Ep4 32 = .slice (adOf (Ep4 32)) q0m.length (capOf (Ep4 32)) := Eq.mp (by kernel_rfl) q19
     replace q21 : Ep4 46 = .pointer (some ⟨q4, 5, none⟩) := Eq.mp (by kernel_rfl) q21
     replace hS : St w0 w (cells q4 206 [.string name0, .bool false, .int .i64 ins1, .int .u64 table2, .int .i64 x18, .slice q9 q7.length c_b_c8_L2h_5_L2h, .slice q6 q5.length c_b_c8_L2h_6_L2h, .slice q3 q2.length c_b_c8_L2h_7_L2h, .int .i64 q0a.1, .int .i64 0, .int .i64 0] :: l') := Eq.mp (by kernel_rfl) hS
     refine o_store1 (v := .slice (adOf (Ep4 32)) q0m.length (capOf (Ep4 32))) one_22 q21 q19 rfl rfl hS (fun w' hS => ?_)
     refine x_done <| ?_
     refine x_fin ⟨⟨undef, rfl⟩, trivial, ?_⟩
     exact Eq.mp (by kernel_rfl) hS
    ·intro Ep4 w l' hE4 hO4 hF_ hS
     refine p (yl_field0 fld_206_6 ((hE4 8 rfl).trans q18)) <| x_done <| ?_
     refine x_fin ⟨⟨_, rfl⟩, rfl, ?_⟩
     exact Eq.mp (by kernel_rfl) hS
    ·intro Ep4 w l' hE4 hO4 hF_ hS
     obtain ⟨q19, q1a, q22, -⟩ := hF_
     replace q19 : Ep4 32 = .slice (adOf (Ep4 32)) q0m.length (capOf (Ep4 32)) := Eq.mp (by kernel_rfl) q19
     replace q1a : Ep4 37 = .slice (adOf (Ep4 37)) q0l.length (capOf (Ep4 37)) := Eq.mp (by kernel_rfl) q1a
     replace q22 : Ep4 47 = .pointer (some ⟨q4, 6, none⟩) := Eq.mp (by kernel_rfl) q22
     replace hS : St w0 w (cells q4 206 [.string name0, .bool false, .int .i64 ins1, .int .u64 table2, .int .i64 x18, .slice (adOf (Ep4 32)) q0m.length (capOf (Ep4 32)), .slice q6 q5.length c_b_c8_L2h_6_L2h, .slice q3 q2.length c_b_c8_L2h_7_L2h, .int .i64 q0a.1, .int .i64 0, .int .i64 0] :: l') := Eq.mp (by kernel_rfl) hS
     refine o_store1 (v := .slice (adOf (Ep4 37)) q0l.length (capOf (Ep4 37))) one_22 q22 q1a rfl rfl hS (fun w' hS => ?_)
     refine x_done <| ?_
     refine x_fin ⟨⟨undef, rfl⟩, trivial, ?_⟩
     exact Eq.mp (by kernel_rfl) hS
    ·intro Ep4 w l' hE4 hO4 hF_ hS
     refine p (yl_field0 fld_206_7 ((hE4 8 rfl).trans q18)) <| x_done <| ?_
     refine x_fin ⟨⟨_, rfl⟩, rfl, ?_⟩
     exact Eq.mp (by kernel_rfl) hS
    ·intro Ep4 w l' hE4 hO4 hF_ hS
     obtain ⟨q19, q1a, q23, q24, -⟩ := hF_
     replace q19 : Ep4 32 = .slice (adOf (Ep4 32)) q0m.length (capOf (Ep4 32)) := Eq.mp (by kernel_rfl) q19
     replace q1a : Ep4 37 = .slice (adOf (Ep4 37)) q0l.length (capOf (Ep4 37)) := Eq.mp (by kernel_rfl) q1a
     replace q23 : Ep4 45 = .slice (adOf (Ep4 45)) q0n.length (capOf (Ep4 45)) := Eq.mp (by kernel_rfl) q23
     replace q24 : Ep4 48 = .pointer (some ⟨q4, 7, none⟩) := Eq.mp (by kernel_rfl) q24
     replace hS : St w0 w (cells q4 206 [.string name0, .bool false, .int .i64 ins1, .int .u64 table2, .int .i64 x18, .slice (adOf (Ep4 32)) q0m.length (capOf (Ep4 32)), .slice (adOf (Ep4 37)) q0l.length (capOf (Ep4 37)), .slice q3 q2.length c_b_c8_L2h_7_L2h, .int .i64 q0a.1, .int .i64 0, .int .i64 0] :: l') := Eq.mp (by kernel_rfl) hS
     refine o_store1 (v := .slice (adOf (Ep4 45)) q0n.length (capOf (Ep4 45))) one_22 q24 q23 rfl rfl hS (fun w' hS => ?_)
     refine x_done <| ?_
     refine x_fin ⟨⟨undef, rfl⟩, trivial, ?_⟩
     exact Eq.mp (by kernel_rfl) hS
   intro Ep4 w' hE4 hF_ hS
   obtain ⟨q2j, q2m, q2k, q2l, q2n, q19, q2o, q2q, q2p, q2r, q1a, q1u, q1z, q1w, q1v, q1x, q1y, q20, q23, q21, q22, q24, -⟩ := hF_
   replace q2j : Ep4 27 = .pointer (some ⟨q4, 5, none⟩) := Eq.mp (by kernel_rfl) q2j
   replace q2m : Ep4 28 = .slice q9 q7.length c_b_c8_L2h_5_L2h := Eq.mp (by kernel_rfl) q2m
   replace q2k : Ep4 29 = .pointer (some ⟨q8, 0, none⟩) := Eq.mp (by kernel_rfl) q2k
   replace q2l : Ep4 30 = .int .i64 q17.1 := Eq.mp (by kernel_rfl) q2l
   replace q2n : Ep4 31 = .slice (some ⟨(blkOf (Ep4 31)), 0, none⟩) 1 1 := Eq.mp (by kernel_rfl) q2n
   replace q19 : Ep4 32 = .slice (adOf (Ep4 32)) q0m.length (capOf (Ep4 32)) := Eq.mp (by kernel_rfl) q19
   replace q2o : Ep4 33 = .pointer (some ⟨q4, 6, none⟩) := Eq.mp (by kernel_rfl) q2o
   replace q2q : Ep4 34 = .slice q6 q5.length c_b_c8_L2h_6_L2h := Eq.mp (by kernel_rfl) q2q
   replace q2p : Ep4 35 = .int .i64 q0v.1 := Eq.mp (by kernel_rfl) q2p
   replace q2r : Ep4 36 = .slice (some ⟨(blkOf (Ep4 36)), 0, none⟩) 1 1 := Eq.mp (by kernel_rfl) q2r
   replace q1a : Ep4 37 = .slice (adOf (Ep4 37)) q0l.length (capOf (Ep4 37)) := Eq.mp (by kernel_rfl) q1a
   replace q1u : Ep4 38 = .pointer (some ⟨q4, 7, none⟩) := Eq.mp (by kernel_rfl) q1u
   replace q1z : Ep4 39 = .slice q3 q2.length c_b_c8_L2h_7_L2h := Eq.mp (by kernel_rfl) q1z
   replace q1w : Ep4 40 = .int .i64 q0v.1 := Eq.mp (by kernel_rfl) q1w
   replace q1v : Ep4 41 = .pointer (some ⟨q8, 0, none⟩) := Eq.mp (by kernel_rfl) q1v
   replace q1x : Ep4 42 = .int .i64 q1t.1 := Eq.mp (by kernel_rfl) q1x
   replace q1y : Ep4 43 = .int .i64 x43 := Eq.mp (by kernel_rfl) q1y
   replace q20 : Ep4 44 = .slice (some ⟨(blkOf (Ep4 44)), 0, none⟩) 1 1 := Eq.mp (by kernel_rfl) q20
   replace q23 : Ep4 45 = .slice (adOf (Ep4 45)) q0n.length (capOf (Ep4 45)) := Eq.mp (by kernel_rfl) q23
   replace q21 : Ep4 46 = .pointer (some ⟨q4, 5, none⟩) := Eq.mp (by kernel_rfl) q21
   replace q22 : Ep4 47 = .pointer (some ⟨q4, 6, none⟩) := Eq.mp (by kernel_rfl) q22
   replace q24 : Ep4 48 = .pointer (some ⟨q4, 7, none⟩) := Eq.mp (by kernel_rfl) q24
   replace hS : St w0 w' (cells q10 23 [.pointer (some ⟨q8, 0, none⟩)] :: ro ρ :: cells (blkOf (Ep4 31)) 3 [.int .i64 q17.1] :: bunA (fun (cs32 : List Value) => RepL (RpI .i64) ρ q0m cs32) (fun (cs32 : List Value) => [vec 3 (RpI .i64).sz (.slice (adOf (Ep4 32)) q0m.length (capOf (Ep4 32))) q0m.length cs32]) :: cells (blkOf (Ep4 36)) 3 [.int .i64 q0v.1] :: bunA (fun (cs37 : List Value) => RepL (RpI .i64) ρ q0l cs37) (fun (cs37 : List Value) => [vec 3 (RpI .i64).sz (.slice (adOf (Ep4 37)) q0l.length (capOf (Ep4 37))) q0l.length cs37]) :: cells q8 25 [.slice q0b q0o.L.length c_v3_0_0, .int .i64 q1t.2] :: cells (blkOf (Ep4 44)) 3 [.int .i64 x43] :: bunA (fun (cs45 : List Value) => RepL (RpI .i64) ρ q0n cs45) (fun (cs45 : List Value) => [vec 3 (RpI .i64).sz (.slice (adOf (Ep4 45)) q0n.length (capOf (Ep4 45))) q0n.length cs45]) :: cells q4 206 [.string name0, .bool false, .int .i64 ins1, .int .u64 table2, .int .i64 x18, .slice (adOf (Ep4 32)) q0m.length (capOf (Ep4 32)), .slice (adOf (Ep4 37)) q0l.length (capOf (Ep4 37)), .slice (adOf (Ep4 45)) q0n.length (capOf (Ep4 45)), .int .i64 q0a.1, .int .i64 0, .int .i64 0] :: (cells q1k 31 [.slice q0w q11.length c_v4_0] :: vec 206 R_api_Cell.sz (.slice q0w q11.length c_v4_0) q11.length q1b :: l)) := Eq.mp (by kernel_rfl) hS
   have q_ := St.unbun (hS.pull 3); obtain ⟨cs32, hr32, hS⟩ := q_
   have q_ := St.unbun (hS.pull 5); obtain ⟨cs37, hr37, hS⟩ := q_
   have q_ := St.unbun (hS.pull 8); obtain ⟨cs45, hr45, hS⟩ := q_
   replace hFL2 := ar_s hFL2; obtain ⟨x49, hx49, hFL2⟩ := hFL2
   refine x_blk <| x_region <| p (yadd ((hE4 23 rfl).trans q2v) rfl hx49) <| p (yl_move rfl) <|
    x_done <| ?_
   have e_ := Option.some.inj (show some _ = some _ from hFL2); subst e_
   exact x_inv ⟨kL2, Nat.lt_succ_self _, q4, (adOf (Ep4 32)), q0m.length, (capOf (Ep4 32)), cs32, (adOf (Ep4 37)), q0l.length, (capOf (Ep4 37)), cs37, (adOf (Ep4 45)), q0n.length, (capOf (Ep4 45)), cs45, x49, q0m, q0l, q0n, q1t.2, hLL2, ((hE4 3 rfl).trans q27), ((hE4 4 rfl).trans q2x), ((hE4 8 rfl).trans q18), ((hE4 22 rfl).trans q2u), rfl, hr32, hr37, hr45, ((((((((((((hS.pull 5).drop.pull 5).drop.pull 6).drop.pull 4).pull 1).pull 2).pull 3).pull 8).pull 6).pull 7).pull 8).pull 8)⟩
  ·replace hFL2 := it_f hc24 hFL2
   refine x_exitTo _ rfl <| ?_
   have e_ := Option.some.inj (show some _ = some _ from hFL2); subst e_
   exact x_inv ⟨q4, q9, q7.length, c_b_c8_L2h_5_L2h, q0i, q6, q5.length, c_b_c8_L2h_6_L2h, q0j, q3, q2.length, c_b_c8_L2h_7_L2h, q0k, q7, q5, q2, q15, hLL2, q2x, q18, q0x, q0y, q0z, (((((((((hS.pull 8).pull 8).pull 8).pull 8).pull 8).pull 5).pull 8).pull 8).pull 8)⟩
 rintro E w ⟨q2i, q0c, q0s, c_b_c8_L2_5_L2, q12, q0d, q0t, c_b_c8_L2_6_L2, q13, q0e, q0u, c_b_c8_L2_7_L2, q14, q0f, q0g, q0h, q1d, rfl, q2z, q3f, q1h, q1i, q1j, hS⟩
 have e_ := St.vec_n (hS.pull 5) q1h; subst e_
 have e_ := St.vec_n (hS.pull 6) q1i; subst e_
 have e_ := St.vec_n (hS.pull 7) q1j; subst e_
 refine x_region <| pa (at_load one_31 q2z (hS.cell rfl)) <| pa (v := .agg #[.string name0, .bool false, .int .i64 ins1, .int .u64 table2, .int .i64 x18, .slice q0c q0f.length c_b_c8_L2_5_L2, .slice q0d q0g.length c_b_c8_L2_6_L2, .slice q0e q0h.length c_b_c8_L2_7_L2, .int .i64 q0a.1, .int .i64 0, .int .i64 0]) (ld_sub agg_206 q3f rfl rfl (hS.pull 1)) <| ?_
 have q_ := St.vec_fz ((hS.pull 8).pull 6) q1h; obtain ⟨q3k, q25, q3g, hS⟩ := q_
 have q_ := St.vec_fz (hS.pull 6) (q1i.le q25); obtain ⟨q3j, q1m, q36, hS⟩ := q_
 have q_ := St.vec_fz (hS.pull 6) (q1j.le (q25.trans q1m)); obtain ⟨q2y, q1n, q37, hS⟩ := q_
 refine o_buildSlice (vs := [.agg #[.string name0, .bool false, .int .i64 ins1, .int .u64 table2, .int .i64 x18, .slice q0c q0f.length c_b_c8_L2_5_L2, .slice q0d q0g.length c_b_c8_L2_6_L2, .slice q0e q0h.length c_b_c8_L2_7_L2, .int .i64 q0a.1, .int .i64 0, .int .i64 0]]) (cs := [.string name0, .bool false, .int .i64 ins1, .int .u64 table2, .int .i64 x18, .slice q0c q0f.length c_b_c8_L2_5_L2, .slice q0d q0g.length c_b_c8_L2_6_L2, .slice q0e q0h.length c_b_c8_L2_7_L2, .int .i64 q0a.1, .int .i64 0, .int .i64 0]) sl_31 zero_206 (parts_eq (pt (va := .agg #[.string name0, .bool false, .int .i64 ins1, .int .u64 table2, .int .i64 x18, .slice q0c q0f.length c_b_c8_L2_5_L2, .slice q0d q0g.length c_b_c8_L2_6_L2, .slice q0e q0h.length c_b_c8_L2_7_L2, .int .i64 q0a.1, .int .i64 0, .int .i64 0]) rfl pt0)) rfl (by intro v hv; simp only [List.mem_cons, List.not_mem_nil, or_false] at hv; first | (subst hv; rfl) | (rcases hv with rfl <;> rfl)) (by decide) rfl hS (fun b52 w' hS => ?_)
 replace hF := lv_s hF; obtain ⟨q38, q3h, hF⟩ := hF
 replace hF := ck_s hF; obtain ⟨q3i, hF⟩ := hF
 refine o_ap sl_31 zero_206 rfl (by decide) rfl rfl (hS.pull 6) (q2w.le ((q25.trans q1m).trans q1n)) (src_blk usl_31 hS rfl rfl) (RepL.cons (R := R_api_Cell) (ρ := q2y) (x := (T_api_Cell.mk name0 false ins1 table2 x18 q0f q0g q0h q0a.1 0 0)) (cs := [.string name0, .bool false, .int .i64 ins1, .int .u64 table2, .int .i64 x18, .slice q0c q0f.length c_b_c8_L2_5_L2, .slice q0d q0g.length c_b_c8_L2_6_L2, .slice q0e q0h.length c_b_c8_L2_7_L2, .int .i64 q0a.1, .int .i64 0, .int .i64 0]) ⟨_, _, _, _, _, _, _, _, _, rfl, (q3g.le (q1m.trans q1n)), (q36.le q1n), q37⟩ RepL.nil) q3h q3i (fun A53 c53 cs53 w' hr53 hS => ?_)
 refine o_store1 (v := .slice A53 q38.length c53) one_31 q2z rfl rfl rfl (hS.pull 3) (fun w' hS => ?_)
 refine x_done <| ?_
 have e_ := Option.some.inj (show some _ = some _ from hF); subst e_
 exact x_fin ⟨_, rfl, q2y, A53, q38.length, c53, cs53, rfl, ((q25.trans q1m).trans q1n), hr53, (((((((hS.pull 2).drop.pull 3).drop.pull 2).pull 2).pull 2).pull 4).pull 4)⟩
attribute [irreducible] P_maskmake_Stream_LayLib_1_2

def P_maskmake_Stream_LayLib_L15 (s0 : T_maskmake_Stream) (x53 : Int) : (Int × List Int × List Int × List Int × Int) → Option ((Int × List Int × List Int × List Int × Int) ⊕ (List Int × List Int × List Int × Int)) := fun (q6, q2, q3, q4, q5) =>
 if q6 < x53 then
  bd (P_maskmake_Stream_Range (T_maskmake_Stream.mk s0.L q5) 2 5) fun q7 =>
  lv (q2 ++ [q7.1]) fun q8 =>
  ck (apOk 8 q8.length) <|
  ar (q6 + 1) fun x63 =>
  some (Sum.inl (x63, q8, q3, q4, q7.2))
 else
  some (Sum.inr (q2, q3, q4, q5))
def P_maskmake_Stream_LayLib_L10 (s0 : T_maskmake_Stream) : (List ByteArray × Int × List T_api_Cell × Int) → Option ((List ByteArray × Int × List T_api_Cell × Int) ⊕ (List T_api_Cell × Int)) := fun (q4, q2, q8, q3) =>
 if q2 < 2 then
  ck (inb q2 q4.length) <|
  lv (gt q4 q2) fun x28 =>
  bd (P_maskmake_Stream_Range (T_maskmake_Stream.mk s0.L q3) 1 6) fun q9 =>
  ar ((1 : Int) + q2) fun x33 =>
  bd (P_maskmake_Stream_Next (T_maskmake_Stream.mk s0.L q9.2) 2) fun q0f =>
  ar ((1 : Int) + q0f.1) fun x36 =>
  bd (P_maskmake_Stream_Next (T_maskmake_Stream.mk s0.L q0f.2) 5) fun q0b =>
  ar (q9.1 + q0b.1) fun x42 =>
  bd (P_maskmake_Stream_Next (T_maskmake_Stream.mk s0.L q0b.2) 3) fun q0c =>
  bd (P_maskmake_Stream_Next (T_maskmake_Stream.mk s0.L q0c.2) 4) fun q0d =>
  bd (P_maskmake_Stream_Next (T_maskmake_Stream.mk s0.L q0d.2) 4) fun q0e =>
  ar (x33 + 1) fun x53 =>
  bd (
   lp (P_maskmake_Stream_LayLib_L15 s0 x53) fuel (0, [], ([q9.1] : List Int), ([x42] : List Int), q0e.2)) fun (q5, q6, q7, q0a) =>
  lv (q8 ++ [(T_api_Cell.mk x28 true x33 0 x36 q5 q6 q7 q0c.1 q0d.1 q0e.1)]) fun q0g =>
  ck (apOk 144 q0g.length) <|
  ar (q2 + 1) fun x68 =>
  some (Sum.inl (q4, x68, q0g, q0a))
 else
  some (Sum.inr (q8, q3))
def P_maskmake_Stream_LayLib (s0 : T_maskmake_Stream) : Option (List T_api_Cell × Int) :=
 bd (P_maskmake_Stream_LayLib_1_2 (⟨#[98, 117, 102]⟩ : ByteArray) 1 2 s0 []) fun q4 =>
 bd (P_maskmake_Stream_LayLib_1_2 (⟨#[105, 110, 118]⟩ : ByteArray) 1 1 (T_maskmake_Stream.mk s0.L q4.1) q4.2) fun q5 =>
 bd (P_maskmake_Stream_LayLib_1_2 (⟨#[110, 97, 110, 100]⟩ : ByteArray) 2 7 (T_maskmake_Stream.mk s0.L q5.1) q5.2) fun q6 =>
 bd (P_maskmake_Stream_LayLib_1_2 (⟨#[111, 114]⟩ : ByteArray) 2 14 (T_maskmake_Stream.mk s0.L q6.1) q6.2) fun q7 =>
 bd (P_maskmake_Stream_LayLib_1_2 (⟨#[120, 111, 114]⟩ : ByteArray) 2 6 (T_maskmake_Stream.mk s0.L q7.1) q7.2) fun q8 =>
 bd (P_maskmake_Stream_LayLib_1_2 (⟨#[109, 117, 120]⟩ : ByteArray) 3 202 (T_maskmake_Stream.mk s0.L q8.1) q8.2) fun q9 =>
 bd (
  lp (P_maskmake_Stream_LayLib_L10 s0) fuel (([(⟨#[100, 102, 102]⟩ : ByteArray), (⟨#[100, 102, 102, 101]⟩ : ByteArray)] : List ByteArray), 0, q9.2, q9.1)) fun (q3, q2) =>
 some (q3, q2)
set_option maxHeartbeats 4000000 in
set_option maxRecDepth 100000 in
theorem c_maskmake_Stream_LayLib {w0 w : World} {l : List Assn} {ρ : Heap} {q6 : Nat} {q0f : Option Addr} {q3e : Nat} {c_s0_0 : Nat} {s0 : T_maskmake_Stream} {r : (List T_api_Cell × Int)} (hF : P_maskmake_Stream_LayLib s0 = some r) (q0v : RdS (RpI .i64) ρ q0f q3e c_s0_0 s0.L) (hS : St w0 w (cells q6 25 [.slice q0f q3e c_s0_0, .int .i64 s0.fat] :: ro ρ :: l)) :
  Calls Tryd.prog 47 #[.pointer (some ⟨q6, 0, none⟩)] w fun e w' => ∃ (ρ' : Heap) (q3f : Option Addr) (q35 : Nat) (c_y0_ret : Nat) (q3d : List Value), e = .returned (.slice q3f q35 c_y0_ret) ∧ Le ρ ρ' ∧ RepL R_api_Cell ρ' r.1 q3d ∧ St w0 w' (vec 206 R_api_Cell.sz (.slice q3f q35 c_y0_ret) q35 q3d :: cells q6 25 [.slice q0f q3e c_s0_0, .int .i64 r.2] :: ro ρ' :: l) := by
 have e_ := q0v.n; subst e_
 refine enterC Tryd.func47 rfl 70 rfl (by simp) ?_
 refine x_seq <| x_region <| ?_
 refine o_box (cs := [.pointer (some ⟨q6, 0, none⟩)]) rfl rfl hS (fun b1 w' hS => ?_)
 refine p (yl_assign rfl) <| x_done <| x_seq <| x_region <| ?_
 refine o_alloc zero_31 hS (fun b3 w' hS => ?_)
 replace hF := bd_s hF; obtain ⟨q5c, q4z, hF⟩ := hF
 refine x_done <| x_seq <| x_region <| p (v := .func (.func 102) #[] #[.pointer (some ⟨b1, 0, none⟩), .pointer (some ⟨b3, 0, none⟩)]) (yl_makeFunc (by simp only [List.map_toArray, List.map_nil]) (by simp only [List.map_toArray, List.map_cons, List.map_nil]; rfl)) <|
  p (v := .func (.func 102) #[] #[.pointer (some ⟨b1, 0, none⟩), .pointer (some ⟨b3, 0, none⟩)]) (yl_assign rfl) <| x_done <| x_seq <| x_region <|
  p (v := .func (.func 102) #[] #[.pointer (some ⟨b1, 0, none⟩), .pointer (some ⟨b3, 0, none⟩)]) (yl_move rfl) <| ?_
 replace hS := St.vec_nil hS 206 R_api_Cell.sz
 have q4n : RepL R_api_Cell ρ [] [] := rfl
 have hcall := c_maskmake_Stream_LayLib_1_2 q4z q0v q4n (((((hS.pull 4).pull 1).pull 2).pull 4).pull 4)
 refine o_ccv rfl call_102 (capargs (args3 rfl rfl rfl)) hcall ?_
 rintro e w' ⟨q56, q41, q42, c_b_v4_0_ret_3_1, q3w, rfl, q11, q1x, hS⟩
 refine ⟨_, rfl, ?_⟩
 have e_ := St.vec_n (hS.pull 3) q1x; subst e_
 replace hF := bd_s hF; obtain ⟨q5d, q50, hF⟩ := hF
 refine x_done <| x_seq <| x_region <| p (v := .func (.func 102) #[] #[.pointer (some ⟨b1, 0, none⟩), .pointer (some ⟨b3, 0, none⟩)]) (yl_move rfl) <| ?_
 have hcall := c_maskmake_Stream_LayLib_1_2 q50 (q0v.le q11) q1x (((((hS.pull 4).pull 4).pull 4).pull 3).pull 4)
 refine o_ccv rfl call_102 (capargs (args3 rfl rfl rfl)) hcall ?_
 rintro e w' ⟨q57, q43, q44, c_b_v4_0_ret_4_1, q3x, rfl, q16, q1y, hS⟩
 refine ⟨_, rfl, ?_⟩
 have e_ := St.vec_n (hS.pull 3) q1y; subst e_
 replace hF := bd_s hF; obtain ⟨q5e, q51, hF⟩ := hF
 refine x_done <| x_seq <| x_region <| p (v := .func (.func 102) #[] #[.pointer (some ⟨b1, 0, none⟩), .pointer (some ⟨b3, 0, none⟩)]) (yl_move rfl) <| ?_
 have hcall := c_maskmake_Stream_LayLib_1_2 q51 (q0v.le (q11.trans q16)) q1y (((((hS.pull 4).pull 4).pull 4).pull 3).pull 4)
 refine o_ccv rfl call_102 (capargs (args3 rfl rfl rfl)) hcall ?_
 rintro e w' ⟨q58, q45, q46, c_b_v4_0_ret_5_1, q3y, rfl, q19, q1z, hS⟩
 refine ⟨_, rfl, ?_⟩
 have e_ := St.vec_n (hS.pull 3) q1z; subst e_
 replace hF := bd_s hF; obtain ⟨q5f, q52, hF⟩ := hF
 refine x_done <| x_seq <| x_region <| p (v := .func (.func 102) #[] #[.pointer (some ⟨b1, 0, none⟩), .pointer (some ⟨b3, 0, none⟩)]) (yl_move rfl) <| ?_
 have hcall := c_maskmake_Stream_LayLib_1_2 q52 (q0v.le ((q11.trans q16).trans q19)) q1z (((((hS.pull 4).pull 4).pull 4).pull 3).pull 4)
 refine o_ccv rfl call_102 (capargs (args3 rfl rfl rfl)) hcall ?_
 rintro e w' ⟨q59, q47, q48, c_b_v4_0_ret_6_1, q3z, rfl, q1g, q20, hS⟩
 refine ⟨_, rfl, ?_⟩
 have e_ := St.vec_n (hS.pull 3) q20; subst e_
 replace hF := bd_s hF; obtain ⟨q5g, q53, hF⟩ := hF
 refine x_done <| x_seq <| x_region <| p (v := .func (.func 102) #[] #[.pointer (some ⟨b1, 0, none⟩), .pointer (some ⟨b3, 0, none⟩)]) (yl_move rfl) <| ?_
 have hcall := c_maskmake_Stream_LayLib_1_2 q53 (q0v.le (((q11.trans q16).trans q19).trans q1g)) q20 (((((hS.pull 4).pull 4).pull 4).pull 3).pull 4)
 refine o_ccv rfl call_102 (capargs (args3 rfl rfl rfl)) hcall ?_
 rintro e w' ⟨q5a, q49, q4a, c_b_v4_0_ret_7_1, q40, rfl, q1h, q21, hS⟩
 refine ⟨_, rfl, ?_⟩
 have e_ := St.vec_n (hS.pull 3) q21; subst e_
 replace hF := bd_s hF; obtain ⟨q4b, q54, hF⟩ := hF
 refine x_done <| x_seq <| x_region <| p (v := .func (.func 102) #[] #[.pointer (some ⟨b1, 0, none⟩), .pointer (some ⟨b3, 0, none⟩)]) (yl_move rfl) <| ?_
 have hcall := c_maskmake_Stream_LayLib_1_2 q54 (q0v.le ((((q11.trans q16).trans q19).trans q1g).trans q1h)) q21 (((((hS.pull 4).pull 4).pull 4).pull 3).pull 4)
 refine o_ccv rfl call_102 (capargs (args3 rfl rfl rfl)) hcall ?_
 rintro e w' ⟨q38, q36, q4c, c_b_v4_0_ret_8_1, q34, rfl, q1n, q22, hS⟩
 refine ⟨_, rfl, ?_⟩
 have e_ := St.vec_n (hS.pull 3) q22; subst e_
 refine x_done <| x_seq <| x_seq <| x_region <| ?_
 refine o_buildSlice (vs := [.string (⟨#[100, 102, 102]⟩ : ByteArray), .string (⟨#[100, 102, 102, 101]⟩ : ByteArray)]) (cs := [.string (⟨#[100, 102, 102]⟩ : ByteArray), .string (⟨#[100, 102, 102, 101]⟩ : ByteArray)]) sl_26 zero_9 (parts_eq (pt (va := .string (⟨#[100, 102, 102]⟩ : ByteArray)) rfl (pt (va := .string (⟨#[100, 102, 102, 101]⟩ : ByteArray)) rfl pt0))) rfl (by intro v hv; simp only [List.mem_cons, List.not_mem_nil, or_false] at hv; first | (subst hv; rfl) | (rcases hv with rfl | rfl <;> rfl)) (by decide) rfl hS (fun b22 w' hS => ?_)
 refine p (yl_len_slice usl_26 rfl) <| p (yl_move rfl) <| x_done <| ?_
 replace hF := bd_s hF; obtain ⟨oL10, hLL10, hF⟩ := hF
 refine x_join (fun E w => ∃ (q39 : Heap) (q1r : Option Addr) (q1s : Nat) (c_b3_0_L10 : Nat) (q1k : List Value) (q2i : List T_api_Cell) (q2j : Int), (q2i, q2j) = oL10 ∧ Le q38 q39 ∧ E 3 = .pointer (some ⟨b3, 0, none⟩) ∧ RepL R_api_Cell q39 q2i q1k ∧ St w0 w (cells b3 31 [.slice q1r q1s c_b3_0_L10] :: cells q6 25 [.slice q0f s0.L.length c_s0_0, .int .i64 q2j] :: vec 206 R_api_Cell.sz (.slice q1r q1s c_b3_0_L10) q1s q1k :: ro q39 :: l)) ?_ ?_
 ·refine x_block ?_
  have q3t : RepL RpS q38 ([(⟨#[100, 102, 102]⟩ : ByteArray), (⟨#[100, 102, 102, 101]⟩ : ByteArray)] : List ByteArray) [.string (⟨#[100, 102, 102]⟩ : ByteArray), .string (⟨#[100, 102, 102, 101]⟩ : ByteArray)] := (RepL.cons (cs := [.string (⟨#[100, 102, 102]⟩ : ByteArray)]) rfl (RepL.cons (cs := [.string (⟨#[100, 102, 102, 101]⟩ : ByteArray)]) rfl RepL.nil))
  replace hS := St.vec_of (n := 2) (sz := RpS.sz) hS rfl (by decide)
  refine x_loop (fun k_ E w => ∃ (q9 : Heap) (q0r : Option Addr) (q1t : Nat) (c_y22_L10h : Nat) (q0t : List Value) (q0j : Option Addr) (q1l : Nat) (c_b3_0_L10h : Nat) (q0s : List Value) (q0q : List ByteArray) (q12 : Int) (q0b : List T_api_Cell) (q1m : Int), lp (P_maskmake_Stream_LayLib_L10 s0) k_ (q0q, q12, q0b, q1m) = some oL10 ∧ Le q38 q9 ∧ E 1 = .pointer (some ⟨b1, 0, none⟩) ∧ E 3 = .pointer (some ⟨b3, 0, none⟩) ∧ E 22 = .slice q0r q1t c_y22_L10h ∧ E 23 = .int .i64 2 ∧ E 24 = .int .i64 q12 ∧ RepL RpS q9 q0q q0t ∧ RepL R_api_Cell q9 q0b q0s ∧ St w0 w (cells b1 23 [.pointer (some ⟨q6, 0, none⟩)] :: cells b3 31 [.slice q0j q1l c_b3_0_L10h] :: vec 9 RpS.sz (.slice q0r q1t c_y22_L10h) q1t q0t :: cells q6 25 [.slice q0f s0.L.length c_s0_0, .int .i64 q1m] :: vec 206 R_api_Cell.sz (.slice q0j q1l c_b3_0_L10h) q1l q0s :: ro q9 :: l)) fuel ⟨q38, (some ⟨b22, 0, none⟩), 2, 2, [.string (⟨#[100, 102, 102]⟩ : ByteArray), .string (⟨#[100, 102, 102, 101]⟩ : ByteArray)], q36, q4b.2.length, c_b_v4_0_ret_8_1, q34, ([(⟨#[100, 102, 102]⟩ : ByteArray), (⟨#[100, 102, 102, 101]⟩ : ByteArray)] : List ByteArray), 0, q4b.2, q4b.1, hLL10, (Le.refl _), rfl, rfl, rfl, rfl, rfl, q3t, q22, ((((((hS.pull 5).pull 5).pull 3).pull 3).pull 5).pull 5)⟩ ?_
  rintro kL10 E w ⟨q9, q0r, q1t, c_y22_L10h, q0t, q0j, q1l, c_b3_0_L10h, q0s, q0q, q12, q0b, q1m, hLL10, q0w, q1j, q3o, q3g, q3h, q2k, q1u, q28, hS⟩
  have e_ := St.vec_n (hS.pull 2) q1u; subst e_
  have e_ := St.vec_n (hS.pull 4) q28; subst e_
  replace hLL10 := lp_s hLL10; obtain ⟨kL10, obL10, rfl, hFL10, hLL10⟩ := hLL10
  refine x_seq <| x_region <| p (yl_lss q2k q3h) <| x_done <|
   x_seq <|
   x_cond_p (q12 < 2) rfl (fun hc25 => ?_) (fun hc25 => ?_)
  ·replace hFL10 := it_t hc25 hFL10
   replace hFL10 := ck_s hFL10; obtain ⟨q3u, hFL10⟩ := hFL10
   replace hFL10 := lv_s hFL10; obtain ⟨x28, hx28, hFL10⟩ := hFL10
   replace hFL10 := bd_s hFL10; obtain ⟨q0u, q4o, hFL10⟩ := hFL10
   refine x_skip <| x_seq <| x_block <| x_seq <|
    x_region <| p (yl_move q2k) <| p (yix_o sl_26 q3g q2k (hS.pull 2) q1u q3u) <| pa (at_load one_9 rfl (RepL.getW q1u (hS.pull 2) q3u hx28)) <|
    p (yl_assign rfl) <| p (yl_assign rfl) <| x_done <| x_seq <|
    x_region <| pa (at_load one_23 q1j (hS.cell rfl)) <| ?_
   have hcall := c_maskmake_Stream_Range q4o (q0v.le ((((((q11.trans q16).trans q19).trans q1g).trans q1h).trans q1n).trans q0w)) ((hS.pull 5).pull 4)
   refine o_cc call_24 (args3 rfl rfl rfl) hcall ?_
   rintro e w' ⟨rfl, hS⟩
   refine ⟨_, rfl, ?_⟩
   refine p (yl_assign rfl) <| x_done <| x_seq <| ?_
   replace hFL10 := ar_s hFL10; obtain ⟨x33, hx33, hFL10⟩ := hFL10
   replace hFL10 := bd_s hFL10; obtain ⟨q3a, q4p, hFL10⟩ := hFL10
   replace hFL10 := ar_s hFL10; obtain ⟨x36, hx36, hFL10⟩ := hFL10
   replace hFL10 := bd_s hFL10; obtain ⟨q2m, q4e, hFL10⟩ := hFL10
   replace hFL10 := ar_s hFL10; obtain ⟨x42, hx42, hFL10⟩ := hFL10
   replace hFL10 := bd_s hFL10; obtain ⟨q0c, q4f, hFL10⟩ := hFL10
   replace hFL10 := bd_s hFL10; obtain ⟨q0d, q4g, hFL10⟩ := hFL10
   replace hFL10 := bd_s hFL10; obtain ⟨q0a, q4h, hFL10⟩ := hFL10
   refine x_par (w0 := w0) [⟨[], [], [31], [], [], []⟩, ⟨[], [], [32], [], [], []⟩, ⟨[1], [1], [33], [], [], []⟩, ⟨[], [], [34], [0], [], []⟩, ⟨[3], [3], [35], [2], [1], [3]⟩, ⟨[3, 4], [4], [36], [], [], []⟩, ⟨[], [], [37], [], [], []⟩, ⟨[6], [6], [38], [], [], [4]⟩, ⟨[], [], [39], [], [], []⟩, ⟨[], [], [40], [0], [], []⟩, ⟨[3, 4, 9], [9], [41], [2], [3], [5]⟩, ⟨[3, 4, 8, 9, 10], [8, 10], [42], [], [], []⟩, ⟨[3, 4, 8, 9, 10, 11], [11], [43], [], [], [6]⟩, ⟨[], [], [44], [0], [], []⟩, ⟨[3, 4, 9, 10, 13], [13], [45], [2], [5], [7]⟩, ⟨[], [], [46], [0], [], []⟩, ⟨[3, 4, 9, 10, 13, 14, 15], [15], [47], [2], [7], [8]⟩, ⟨[], [], [48], [0], [], []⟩, ⟨[3, 4, 9, 10, 13, 14, 15, 16, 17], [17], [49], [2], [8], [9]⟩, ⟨[0, 1, 2, 3, 4, 5, 6, 7, 8, 9, 10, 11, 12, 13, 14, 15, 16, 17, 18], [0, 2, 5, 7, 12, 14, 16, 18], [38, 43, 50], [], [], []⟩, ⟨[], [], [8], [], [], [10]⟩, ⟨[0, 1, 2, 3, 4, 5, 6, 7, 8, 9, 10, 11, 12, 13, 14, 15, 16, 17, 18, 19, 20], [7, 12, 19, 20], [], [], [10], [11]⟩] [⟨none, none, []⟩, ⟨none, (some 4), []⟩, ⟨none, none, []⟩, ⟨(some 4), (some 10), []⟩, ⟨(some 7), none, [38]⟩, ⟨(some 10), (some 14), []⟩, ⟨(some 12), none, [43]⟩, ⟨(some 14), (some 16), []⟩, ⟨(some 16), (some 18), []⟩, ⟨(some 18), none, []⟩, ⟨(some 20), (some 21), [8]⟩, ⟨(some 21), none, [8, 38, 43]⟩] [8, 31, 32, 33, 34, 35, 36, 37, 38, 39, 40, 41, 42, 43, 44, 45, 46, 47, 48, 49, 50] [0, 1, 2] [0, 2, 4, 6, 9, 11] [0, 1, 2, 3, 4, 5, 6, 7, 8, 9, 10, 11, 12, 13, 14, 15, 16, 17, 18, 19, 20] [fun Ep13 => Ep13 31 = .string x28, fun Ep13 => Ep13 32 = .int .i64 q12, fun Ep13 => Ep13 33 = .int .i64 x33, fun Ep13 => Ep13 34 = .pointer (some ⟨q6, 0, none⟩), fun Ep13 => Ep13 35 = .int .i64 q3a.1, fun Ep13 => Ep13 36 = .int .i64 x36, fun Ep13 => Ep13 37 = .int .i64 q0u.1, fun Ep13 => Ep13 38 = .slice (some ⟨(blkOf (Ep13 38)), 0, none⟩) 1 1, fun Ep13 => Ep13 39 = .int .i64 q0u.1, fun Ep13 => Ep13 40 = .pointer (some ⟨q6, 0, none⟩), fun Ep13 => Ep13 41 = .int .i64 q2m.1, fun Ep13 => Ep13 42 = .int .i64 x42, fun Ep13 => Ep13 43 = .slice (some ⟨(blkOf (Ep13 43)), 0, none⟩) 1 1, fun Ep13 => Ep13 44 = .pointer (some ⟨q6, 0, none⟩), fun Ep13 => Ep13 45 = .int .i64 q0c.1, fun Ep13 => Ep13 46 = .pointer (some ⟨q6, 0, none⟩), fun Ep13 => Ep13 47 = .int .i64 q0d.1, fun Ep13 => Ep13 48 = .pointer (some ⟨q6, 0, none⟩), fun Ep13 => Ep13 49 = .int .i64 q0a.1, fun Ep13 => Ep13 50 = .agg #[.string x28, .bool true, .int .i64 x33, .int .u64 0, .int .i64 x36, .slice none 0 0, .slice (some ⟨(blkOf (Ep13 38)), 0, none⟩) 1 1, .slice (some ⟨(blkOf (Ep13 43)), 0, none⟩) 1 1, .int .i64 q0c.1, .int .i64 q0d.1, .int .i64 q0a.1], fun Ep13 => Ep13 8 = .pointer (some ⟨(blkOf (Ep13 8)), 0, none⟩), fun Ep13 => True] [fun Ep13 => cells b1 23 [.pointer (some ⟨q6, 0, none⟩)], fun Ep13 => cells q6 25 [.slice q0f s0.L.length c_s0_0, .int .i64 q0u.2], fun Ep13 => ro q9, fun Ep13 => cells q6 25 [.slice q0f s0.L.length c_s0_0, .int .i64 q3a.2], fun Ep13 => cells (blkOf (Ep13 38)) 3 [.int .i64 q0u.1], fun Ep13 => cells q6 25 [.slice q0f s0.L.length c_s0_0, .int .i64 q2m.2], fun Ep13 => cells (blkOf (Ep13 43)) 3 [.int .i64 x42], fun Ep13 => cells q6 25 [.slice q0f s0.L.length c_s0_0, .int .i64 q0c.2], fun Ep13 => cells q6 25 [.slice q0f s0.L.length c_s0_0, .int .i64 q0d.2], fun Ep13 => cells q6 25 [.slice q0f s0.L.length c_s0_0, .int .i64 q0a.2], fun Ep13 => cells (blkOf (Ep13 8)) 206 [.string (⟨#[]⟩ : ByteArray), .bool false, .int .i64 0, .int .u64 0, .int .i64 0, .slice none 0 0, .slice none 0 0, .slice none 0 0, .int .i64 0, .int .i64 0, .int .i64 0], fun Ep13 => cells (blkOf (Ep13 8)) 206 [.string x28, .bool true, .int .i64 x33, .int .u64 0, .int .i64 x36, .slice none 0 0, .slice (some ⟨(blkOf (Ep13 38)), 0, none⟩) 1 1, .slice (some ⟨(blkOf (Ep13 43)), 0, none⟩) 1 1, .int .i64 q0c.1, .int .i64 q0d.1, .int .i64 q0a.1]] mixed (by kernel_rfl) (((hS.pull 1).pull 1).pull 2) ?_ ?_
   ·refine ⟨?_, ?_, ?_, ?_, ?_, ?_, ?_, ?_, ?_, ?_, ?_, ?_, ?_, ?_, ?_, ?_, ?_, ?_, ?_, ?_, ?_, ?_, trivial⟩
    ·intro Ep13 w l' hE13 hO13 hF_ hS
     refine p (yl_move (hE13 6 rfl)) <| x_done <| ?_
     refine x_fin ⟨⟨_, rfl⟩, rfl, ?_⟩
     exact Eq.mp (by kernel_rfl) hS
    ·intro Ep13 w l' hE13 hO13 hF_ hS
     refine p (yl_move (hE13 5 rfl)) <| x_done <| ?_
     refine x_fin ⟨⟨_, rfl⟩, rfl, ?_⟩
     exact Eq.mp (by kernel_rfl) hS
    ·intro Ep13 w l' hE13 hO13 hF_ hS
     obtain ⟨q2n, -⟩ := hF_
     replace q2n : Ep13 32 = .int .i64 q12 := Eq.mp (by kernel_rfl) q2n
     refine p (yadd rfl q2n hx33) <| x_done <| ?_
     refine x_fin ⟨⟨_, rfl⟩, rfl, ?_⟩
     exact Eq.mp (by kernel_rfl) hS
    ·intro Ep13 w l' hE13 hO13 hF_ hS
     replace hS : St w0 w (cells b1 23 [.pointer (some ⟨q6, 0, none⟩)] :: l') := Eq.mp (by kernel_rfl) hS
     refine pa (at_load one_23 ((hE13 1 rfl).trans q1j) (hS.cell rfl)) <| x_done <| ?_
     refine x_fin ⟨⟨_, rfl⟩, rfl, ?_⟩
     exact Eq.mp (by kernel_rfl) hS
    ·intro Ep13 w l' hE13 hO13 hF_ hS
     obtain ⟨q2o, -⟩ := hF_
     replace q2o : Ep13 34 = .pointer (some ⟨q6, 0, none⟩) := Eq.mp (by kernel_rfl) q2o
     replace hS : St w0 w (ro q9 :: cells q6 25 [.slice q0f s0.L.length c_s0_0, .int .i64 q0u.2] :: l') := Eq.mp (by kernel_rfl) hS
     have hcall := c_maskmake_Stream_Next q4p (q0v.le ((((((q11.trans q16).trans q19).trans q1g).trans q1h).trans q1n).trans q0w)) (hS.pull 1)
     refine o_cc call_13 (args2 q2o rfl) hcall ?_
     rintro e w' ⟨rfl, hS⟩
     refine ⟨_, rfl, ?_⟩
     refine x_done <| ?_
     refine x_fin ⟨⟨_, rfl⟩, rfl, ?_⟩
     exact Eq.mp (by kernel_rfl) (hS.pull 1)
    ·intro Ep13 w l' hE13 hO13 hF_ hS
     obtain ⟨q2p, -⟩ := hF_
     replace q2p : Ep13 35 = .int .i64 q3a.1 := Eq.mp (by kernel_rfl) q2p
     refine p (yadd rfl q2p hx36) <| x_done <| ?_
     refine x_fin ⟨⟨_, rfl⟩, rfl, ?_⟩
     exact Eq.mp (by kernel_rfl) hS
    ·intro Ep13 w l' hE13 hO13 hF_ hS
     refine p (yl_move (hE13 7 rfl)) <| x_done <| ?_
     refine x_fin ⟨⟨_, rfl⟩, rfl, ?_⟩
     exact Eq.mp (by kernel_rfl) hS
    ·intro Ep13 w l' hE13 hO13 hF_ hS
     obtain ⟨q2q, -⟩ := hF_
     replace q2q : Ep13 37 = .int .i64 q0u.1 := Eq.mp (by kernel_rfl) q2q
     refine o_buildSlice (vs := [.int .i64 q0u.1]) (cs := [.int .i64 q0u.1]) sl_22 zero_3 (parts_eq (pt (va := .int .i64 q0u.1) q2q pt0)) rfl (by intro v hv; simp only [List.mem_cons, List.not_mem_nil, or_false] at hv; first | (subst hv; rfl) | (rcases hv with rfl <;> rfl)) (by decide) rfl hS (fun b38 w' hS => ?_)
     refine x_done <| ?_
     refine x_fin ⟨⟨_, rfl⟩, rfl, ?_⟩
     exact Eq.mp (by kernel_rfl) hS
    ·intro Ep13 w l' hE13 hO13 hF_ hS
     refine p (yl_move (hE13 7 rfl)) <| x_done <| ?_
     refine x_fin ⟨⟨_, rfl⟩, rfl, ?_⟩
     exact Eq.mp (by kernel_rfl) hS
    ·intro Ep13 w l' hE13 hO13 hF_ hS
     replace hS : St w0 w (cells b1 23 [.pointer (some ⟨q6, 0, none⟩)] :: l') := Eq.mp (by kernel_rfl) hS
     refine pa (at_load one_23 ((hE13 1 rfl).trans q1j) (hS.cell rfl)) <| x_done <| ?_
     refine x_fin ⟨⟨_, rfl⟩, rfl, ?_⟩
     exact Eq.mp (by kernel_rfl) hS
    ·intro Ep13 w l' hE13 hO13 hF_ hS
     obtain ⟨q2r, -⟩ := hF_
     replace q2r : Ep13 40 = .pointer (some ⟨q6, 0, none⟩) := Eq.mp (by kernel_rfl) q2r
     replace hS : St w0 w (ro q9 :: cells q6 25 [.slice q0f s0.L.length c_s0_0, .int .i64 q3a.2] :: l') := Eq.mp (by kernel_rfl) hS
     have hcall := c_maskmake_Stream_Next q4e (q0v.le ((((((q11.trans q16).trans q19).trans q1g).trans q1h).trans q1n).trans q0w)) (hS.pull 1)
     refine o_cc call_13 (args2 q2r rfl) hcall ?_
     rintro e w' ⟨rfl, hS⟩
     refine ⟨_, rfl, ?_⟩
     refine x_done <| ?_
     refine x_fin ⟨⟨_, rfl⟩, rfl, ?_⟩
     exact Eq.mp (by kernel_rfl) (hS.pull 1)
    ·intro Ep13 w l' hE13 hO13 hF_ hS
     obtain ⟨q2s, q29, -⟩ := hF_
     replace q2s : Ep13 39 = .int .i64 q0u.1 := Eq.mp (by kernel_rfl) q2s
     replace q29 : Ep13 41 = .int .i64 q2m.1 := Eq.mp (by kernel_rfl) q29
     refine p (yadd q2s q29 hx42) <| x_done <| ?_
     refine x_fin ⟨⟨_, rfl⟩, rfl, ?_⟩
     exact Eq.mp (by kernel_rfl) hS
    ·intro Ep13 w l' hE13 hO13 hF_ hS
     obtain ⟨q2a, -⟩ := hF_
     replace q2a : Ep13 42 = .int .i64 x42 := Eq.mp (by kernel_rfl) q2a
     refine o_buildSlice (vs := [.int .i64 x42]) (cs := [.int .i64 x42]) sl_22 zero_3 (parts_eq (pt (va := .int .i64 x42) q2a pt0)) rfl (by intro v hv; simp only [List.mem_cons, List.not_mem_nil, or_false] at hv; first | (subst hv; rfl) | (rcases hv with rfl <;> rfl)) (by decide) rfl hS (fun b43 w' hS => ?_)
     refine x_done <| ?_
     refine x_fin ⟨⟨_, rfl⟩, rfl, ?_⟩
     exact Eq.mp (by kernel_rfl) hS
    ·intro Ep13 w l' hE13 hO13 hF_ hS
     replace hS : St w0 w (cells b1 23 [.pointer (some ⟨q6, 0, none⟩)] :: l') := Eq.mp (by kernel_rfl) hS
     refine pa (at_load one_23 ((hE13 1 rfl).trans q1j) (hS.cell rfl)) <| x_done <| ?_
     refine x_fin ⟨⟨_, rfl⟩, rfl, ?_⟩
     exact Eq.mp (by kernel_rfl) hS
    ·intro Ep13 w l' hE13 hO13 hF_ hS
     obtain ⟨q2b, -⟩ := hF_
     replace q2b : Ep13 44 = .pointer (some ⟨q6, 0, none⟩) := Eq.mp (by kernel_rfl) q2b
     replace hS : St w0 w (ro q9 :: cells q6 25 [.slice q0f s0.L.length c_s0_0, .int .i64 q2m.2] :: l') := Eq.mp (by kernel_rfl) hS
     have hcall := c_maskmake_Stream_Next q4f (q0v.le ((((((q11.trans q16).trans q19).trans q1g).trans q1h).trans q1n).trans q0w)) (hS.pull 1)
     refine o_cc call_13 (args2 q2b rfl) hcall ?_
     rintro e w' ⟨rfl, hS⟩
     refine ⟨_, rfl, ?_⟩
     refine x_done <| ?_
     refine x_fin ⟨⟨_, rfl⟩, rfl, ?_⟩
     exact Eq.mp (by kernel_rfl) (hS.pull 1)
    ·intro Ep13 w l' hE13 hO13 hF_ hS
     replace hS : St w0 w (cells b1 23 [.pointer (some ⟨q6, 0, none⟩)] :: l') := Eq.mp (by kernel_rfl) hS
     refine pa (at_load one_23 ((hE13 1 rfl).trans q1j) (hS.cell rfl)) <| x_done <| ?_
     refine x_fin ⟨⟨_, rfl⟩, rfl, ?_⟩
     exact Eq.mp (by kernel_rfl) hS
    ·intro Ep13 w l' hE13 hO13 hF_ hS
     obtain ⟨q2c, -⟩ := hF_
     replace q2c : Ep13 46 = .pointer (some ⟨q6, 0, none⟩) := Eq.mp (by kernel_rfl) q2c
     replace hS : St w0 w (ro q9 :: cells q6 25 [.slice q0f s0.L.length c_s0_0, .int .i64 q0c.2] :: l') := Eq.mp (by kernel_rfl) hS
     have hcall := c_maskmake_Stream_Next q4g (q0v.le ((((((q11.trans q16).trans q19).trans q1g).trans q1h).trans q1n).trans q0w)) (hS.pull 1)
     refine o_cc call_13 (args2 q2c rfl) hcall ?_
     rintro e w' ⟨rfl, hS⟩
     refine ⟨_, rfl, ?_⟩
     refine x_done <| ?_
     refine x_fin ⟨⟨_, rfl⟩, rfl, ?_⟩
     exact Eq.mp (by kernel_rfl) (hS.pull 1)
    ·intro Ep13 w l' hE13 hO13 hF_ hS
     replace hS : St w0 w (cells b1 23 [.pointer (some ⟨q6, 0, none⟩)] :: l') := Eq.mp (by kernel_rfl) hS
     refine pa (at_load one_23 ((hE13 1 rfl).trans q1j) (hS.cell rfl)) <| x_done <| ?_
     refine x_fin ⟨⟨_, rfl⟩, rfl, ?_⟩
     exact Eq.mp (by kernel_rfl) hS
    ·intro Ep13 w l' hE13 hO13 hF_ hS
     obtain ⟨q2d, -⟩ := hF_
     replace q2d : Ep13 48 = .pointer (some ⟨q6, 0, none⟩) := Eq.mp (by kernel_rfl) q2d
     replace hS : St w0 w (ro q9 :: cells q6 25 [.slice q0f s0.L.length c_s0_0, .int .i64 q0d.2] :: l') := Eq.mp (by kernel_rfl) hS
     have hcall := c_maskmake_Stream_Next q4h (q0v.le ((((((q11.trans q16).trans q19).trans q1g).trans q1h).trans q1n).trans q0w)) (hS.pull 1)
     refine o_cc call_13 (args2 q2d rfl) hcall ?_
     rintro e w' ⟨rfl, hS⟩
     refine ⟨_, rfl, ?_⟩
     refine x_done <| ?_
     refine x_fin ⟨⟨_, rfl⟩, rfl, ?_⟩
     exact Eq.mp (by kernel_rfl) (hS.pull 1)
    ·intro Ep13 w l' hE13 hO13 hF_ hS
     obtain ⟨q2t, q2u, q2v, q1v, q1i, q2e, q2f, q2g, -⟩ := hF_
     replace q2t : Ep13 31 = .string x28 := Eq.mp (by kernel_rfl) q2t
     replace q2u : Ep13 33 = .int .i64 x33 := Eq.mp (by kernel_rfl) q2u
     replace q2v : Ep13 36 = .int .i64 x36 := Eq.mp (by kernel_rfl) q2v
     replace q1v : Ep13 38 = .slice (some ⟨(blkOf (Ep13 38)), 0, none⟩) 1 1 := Eq.mp (by kernel_rfl) q1v
     replace q1i : Ep13 43 = .slice (some ⟨(blkOf (Ep13 43)), 0, none⟩) 1 1 := Eq.mp (by kernel_rfl) q1i
     replace q2e : Ep13 45 = .int .i64 q0c.1 := Eq.mp (by kernel_rfl) q2e
     replace q2f : Ep13 47 = .int .i64 q0d.1 := Eq.mp (by kernel_rfl) q2f
     replace q2g : Ep13 49 = .int .i64 q0a.1 := Eq.mp (by kernel_rfl) q2g
     refine p (v := .agg #[.string x28, .bool true, .int .i64 x33, .int .u64 0, .int .i64 x36, .slice none 0 0, .slice (some ⟨(blkOf (Ep13 38)), 0, none⟩) 1 1, .slice (some ⟨(blkOf (Ep13 43)), 0, none⟩) 1 1, .int .i64 q0c.1, .int .i64 q0d.1, .int .i64 q0a.1]) (yl_build bld_206 bldf_206 (parts_eq (pt (va := .string x28) q2t (pt (va := .bool true) rfl (pt (va := .int .i64 x33) q2u (pt (va := .int .i64 x36) q2v (pt (va := .slice (some ⟨(blkOf (Ep13 38)), 0, none⟩) 1 1) q1v (pt (va := .slice (some ⟨(blkOf (Ep13 43)), 0, none⟩) 1 1) q1i (pt (va := .int .i64 q0c.1) q2e (pt (va := .int .i64 q0d.1) q2f (pt (va := .int .i64 q0a.1) q2g pt0)))))))))) (by kernel_rfl)) <| x_done <| ?_
     refine x_fin ⟨⟨_, rfl⟩, rfl, ?_⟩
     exact Eq.mp (by kernel_rfl) hS
    ·intro Ep13 w l' hE13 hO13 hF_ hS
     refine o_alloc zero_206 hS (fun b8 w' hS => ?_)
     refine x_done <| ?_
     refine x_fin ⟨⟨_, rfl⟩, rfl, ?_⟩
     exact Eq.mp (by kernel_rfl) hS
    ·intro Ep13 w l' hE13 hO13 hF_ hS
     obtain ⟨q1v, q1i, q2h, q1o, -⟩ := hF_
     replace q1v : Ep13 38 = .slice (some ⟨(blkOf (Ep13 38)), 0, none⟩) 1 1 := Eq.mp (by kernel_rfl) q1v
     replace q1i : Ep13 43 = .slice (some ⟨(blkOf (Ep13 43)), 0, none⟩) 1 1 := Eq.mp (by kernel_rfl) q1i
     replace q2h : Ep13 50 = .agg #[.string x28, .bool true, .int .i64 x33, .int .u64 0, .int .i64 x36, .slice none 0 0, .slice (some ⟨(blkOf (Ep13 38)), 0, none⟩) 1 1, .slice (some ⟨(blkOf (Ep13 43)), 0, none⟩) 1 1, .int .i64 q0c.1, .int .i64 q0d.1, .int .i64 q0a.1] := Eq.mp (by kernel_rfl) q2h
     replace q1o : Ep13 8 = .pointer (some ⟨(blkOf (Ep13 8)), 0, none⟩) := Eq.mp (by kernel_rfl) q1o
     replace hS : St w0 w (cells (blkOf (Ep13 8)) 206 [.string (⟨#[]⟩ : ByteArray), .bool false, .int .i64 0, .int .u64 0, .int .i64 0, .slice none 0 0, .slice none 0 0, .slice none 0 0, .int .i64 0, .int .i64 0, .int .i64 0] :: l') := Eq.mp (by kernel_rfl) hS
     refine o_storeAgg (news := [.string x28, .bool true, .int .i64 x33, .int .u64 0, .int .i64 x36, .slice none 0 0, .slice (some ⟨(blkOf (Ep13 38)), 0, none⟩) 1 1, .slice (some ⟨(blkOf (Ep13 43)), 0, none⟩) 1 1, .int .i64 q0c.1, .int .i64 q0d.1, .int .i64 q0a.1]) agg_206 q1o q2h rfl (by simp [over_length]) hS (fun w' hS => ?_)
     refine x_done <| ?_
     refine x_fin ⟨⟨undef, rfl⟩, trivial, ?_⟩
     exact Eq.mp (by kernel_rfl) hS
   intro Ep13 w' hE13 hF_ hS
   obtain ⟨q2t, q2n, q2u, q2o, q2p, q2v, q2q, q1v, q2s, q2r, q29, q2a, q1i, q2b, q2e, q2c, q2f, q2d, q2g, q2h, q1o, -⟩ := hF_
   replace q2t : Ep13 31 = .string x28 := Eq.mp (by kernel_rfl) q2t
   replace q2n : Ep13 32 = .int .i64 q12 := Eq.mp (by kernel_rfl) q2n
   replace q2u : Ep13 33 = .int .i64 x33 := Eq.mp (by kernel_rfl) q2u
   replace q2o : Ep13 34 = .pointer (some ⟨q6, 0, none⟩) := Eq.mp (by kernel_rfl) q2o
   replace q2p : Ep13 35 = .int .i64 q3a.1 := Eq.mp (by kernel_rfl) q2p
   replace q2v : Ep13 36 = .int .i64 x36 := Eq.mp (by kernel_rfl) q2v
   replace q2q : Ep13 37 = .int .i64 q0u.1 := Eq.mp (by kernel_rfl) q2q
   replace q1v : Ep13 38 = .slice (some ⟨(blkOf (Ep13 38)), 0, none⟩) 1 1 := Eq.mp (by kernel_rfl) q1v
   replace q2s : Ep13 39 = .int .i64 q0u.1 := Eq.mp (by kernel_rfl) q2s
   replace q2r : Ep13 40 = .pointer (some ⟨q6, 0, none⟩) := Eq.mp (by kernel_rfl) q2r
   replace q29 : Ep13 41 = .int .i64 q2m.1 := Eq.mp (by kernel_rfl) q29
   replace q2a : Ep13 42 = .int .i64 x42 := Eq.mp (by kernel_rfl) q2a
   replace q1i : Ep13 43 = .slice (some ⟨(blkOf (Ep13 43)), 0, none⟩) 1 1 := Eq.mp (by kernel_rfl) q1i
   replace q2b : Ep13 44 = .pointer (some ⟨q6, 0, none⟩) := Eq.mp (by kernel_rfl) q2b
   replace q2e : Ep13 45 = .int .i64 q0c.1 := Eq.mp (by kernel_rfl) q2e
   replace q2c : Ep13 46 = .pointer (some ⟨q6, 0, none⟩) := Eq.mp (by kernel_rfl) q2c
   replace q2f : Ep13 47 = .int .i64 q0d.1 := Eq.mp (by kernel_rfl) q2f
   replace q2d : Ep13 48 = .pointer (some ⟨q6, 0, none⟩) := Eq.mp (by kernel_rfl) q2d
   replace q2g : Ep13 49 = .int .i64 q0a.1 := Eq.mp (by kernel_rfl) q2g
   replace q2h : Ep13 50 = .agg #[.string x28, .bool true, .int .i64 x33, .int .u64 0, .int .i64 x36, .slice none 0 0, .slice (some ⟨(blkOf (Ep13 38)), 0, none⟩) 1 1, .slice (some ⟨(blkOf (Ep13 43)), 0, none⟩) 1 1, .int .i64 q0c.1, .int .i64 q0d.1, .int .i64 q0a.1] := Eq.mp (by kernel_rfl) q2h
   replace q1o : Ep13 8 = .pointer (some ⟨(blkOf (Ep13 8)), 0, none⟩) := Eq.mp (by kernel_rfl) q1o
   replace hS : St w0 w' (cells b1 23 [.pointer (some ⟨q6, 0, none⟩)] :: ro q9 :: cells (blkOf (Ep13 38)) 3 [.int .i64 q0u.1] :: cells (blkOf (Ep13 43)) 3 [.int .i64 x42] :: cells q6 25 [.slice q0f s0.L.length c_s0_0, .int .i64 q0a.2] :: cells (blkOf (Ep13 8)) 206 [.string x28, .bool true, .int .i64 x33, .int .u64 0, .int .i64 x36, .slice none 0 0, .slice (some ⟨(blkOf (Ep13 38)), 0, none⟩) 1 1, .slice (some ⟨(blkOf (Ep13 43)), 0, none⟩) 1 1, .int .i64 q0c.1, .int .i64 q0d.1, .int .i64 q0a.1] :: (cells b3 31 [.slice q0j q0b.length c_b3_0_L10h] :: vec 9 RpS.sz (.slice q0r q0q.length c_y22_L10h) q0q.length q0t :: vec 206 R_api_Cell.sz (.slice q0j q0b.length c_b3_0_L10h) q0b.length q0s :: l)) := Eq.mp (by kernel_rfl) hS
   replace hFL10 := ar_s hFL10; obtain ⟨x53, hx53, hFL10⟩ := hFL10
   refine x_seq <| x_seq <| x_region <| p (yl_field0 fld_206_2 q1o) <|
    pa (at_load one_3 rfl ((hS.pull 5).cell rfl)) <| p (yadd rfl rfl hx53) <| p (yl_move rfl) <| x_done <| ?_
   replace hFL10 := bd_s hFL10; obtain ⟨oL15, hLL15, hFL10⟩ := hFL10
   refine x_join (fun E w => ∃ (q37 : Nat) (q0g : Option Addr) (q13 : Nat) (c_b_c8_L15_5_L15 : Nat) (q1d : List Value) (q0h : Option Addr) (q14 : Nat) (c_b_c8_L15_6_L15 : Nat) (q1e : List Value) (q0i : Option Addr) (q15 : Nat) (c_b_c8_L15_7_L15 : Nat) (q1f : List Value) (q0k : List Int) (q0l : List Int) (q0m : List Int) (q1w : Int), (q0k, q0l, q0m, q1w) = oL15 ∧ E 1 = .pointer (some ⟨b1, 0, none⟩) ∧ E 3 = .pointer (some ⟨b3, 0, none⟩) ∧ E 8 = .pointer (some ⟨q37, 0, none⟩) ∧ E 22 = .slice q0r q0q.length c_y22_L10h ∧ E 23 = .int .i64 2 ∧ E 24 = .int .i64 q12 ∧ RepL (RpI .i64) q9 q0k q1d ∧ RepL (RpI .i64) q9 q0l q1e ∧ RepL (RpI .i64) q9 q0m q1f ∧ St w0 w (cells b1 23 [.pointer (some ⟨q6, 0, none⟩)] :: cells b3 31 [.slice q0j q0b.length c_b3_0_L10h] :: cells q37 206 [.string x28, .bool true, .int .i64 x33, .int .u64 0, .int .i64 x36, .slice q0g q13 c_b_c8_L15_5_L15, .slice q0h q14 c_b_c8_L15_6_L15, .slice q0i q15 c_b_c8_L15_7_L15, .int .i64 q0c.1, .int .i64 q0d.1, .int .i64 q0a.1] :: vec 9 RpS.sz (.slice q0r q0q.length c_y22_L10h) q0q.length q0t :: cells q6 25 [.slice q0f s0.L.length c_s0_0, .int .i64 q1w] :: vec 206 R_api_Cell.sz (.slice q0j q0b.length c_b3_0_L10h) q0b.length q0s :: vec 3 (RpI .i64).sz (.slice q0g q13 c_b_c8_L15_5_L15) q13 q1d :: vec 3 (RpI .i64).sz (.slice q0h q14 c_b_c8_L15_6_L15) q14 q1e :: vec 3 (RpI .i64).sz (.slice q0i q15 c_b_c8_L15_7_L15) q15 q1f :: ro q9 :: l)) ?_ ?_
   ·refine x_block ?_
    replace hS := St.vec_nil hS 3 (RpI .i64).sz
    have q27 : RepL (RpI .i64) q9 [] [] := rfl
    have q3v : RepL (RpI .i64) q9 ([q0u.1] : List Int) [.int .i64 q0u.1] := (RepL.cons (cs := [.int .i64 q0u.1]) rfl RepL.nil)
    replace hS := St.vec_of (n := 1) (sz := (RpI .i64).sz) (hS.pull 3) rfl (by decide)
    have q3r : RepL (RpI .i64) q9 ([x42] : List Int) [.int .i64 x42] := (RepL.cons (cs := [.int .i64 x42]) rfl RepL.nil)
    replace hS := St.vec_of (n := 1) (sz := (RpI .i64).sz) (hS.pull 4) rfl (by decide)
    refine x_loop (fun k_ E w => ∃ (q0e : Nat) (q5 : Option Addr) (q0x : Nat) (c_b_c8_L15h_5_L15h : Nat) (q0n : List Value) (q7 : Option Addr) (q0y : Nat) (c_b_c8_L15h_6_L15h : Nat) (q0o : List Value) (q8 : Option Addr) (q0z : Nat) (c_b_c8_L15h_7_L15h : Nat) (q0p : List Value) (q2l : Int) (q2 : List Int) (q3 : List Int) (q4 : List Int) (q17 : Int), lp (P_maskmake_Stream_LayLib_L15 s0 x53) k_ (q2l, q2, q3, q4, q17) = some oL15 ∧ E 1 = .pointer (some ⟨b1, 0, none⟩) ∧ E 3 = .pointer (some ⟨b3, 0, none⟩) ∧ E 8 = .pointer (some ⟨q0e, 0, none⟩) ∧ E 22 = .slice q0r q0q.length c_y22_L10h ∧ E 23 = .int .i64 2 ∧ E 24 = .int .i64 q12 ∧ E 53 = .int .i64 x53 ∧ E 54 = .int .i64 q2l ∧ RepL (RpI .i64) q9 q2 q0n ∧ RepL (RpI .i64) q9 q3 q0o ∧ RepL (RpI .i64) q9 q4 q0p ∧ St w0 w (cells b1 23 [.pointer (some ⟨q6, 0, none⟩)] :: cells b3 31 [.slice q0j q0b.length c_b3_0_L10h] :: cells q0e 206 [.string x28, .bool true, .int .i64 x33, .int .u64 0, .int .i64 x36, .slice q5 q0x c_b_c8_L15h_5_L15h, .slice q7 q0y c_b_c8_L15h_6_L15h, .slice q8 q0z c_b_c8_L15h_7_L15h, .int .i64 q0c.1, .int .i64 q0d.1, .int .i64 q0a.1] :: vec 9 RpS.sz (.slice q0r q0q.length c_y22_L10h) q0q.length q0t :: cells q6 25 [.slice q0f s0.L.length c_s0_0, .int .i64 q17] :: vec 206 R_api_Cell.sz (.slice q0j q0b.length c_b3_0_L10h) q0b.length q0s :: vec 3 (RpI .i64).sz (.slice q5 q0x c_b_c8_L15h_5_L15h) q0x q0n :: vec 3 (RpI .i64).sz (.slice q7 q0y c_b_c8_L15h_6_L15h) q0y q0o :: vec 3 (RpI .i64).sz (.slice q8 q0z c_b_c8_L15h_7_L15h) q0z q0p :: ro q9 :: l)) fuel ⟨(blkOf (Ep13 8)), none, 0, 0, [], (some ⟨(blkOf (Ep13 38)), 0, none⟩), 1, 1, [.int .i64 q0u.1], (some ⟨(blkOf (Ep13 43)), 0, none⟩), 1, 1, [.int .i64 x42], 0, [], ([q0u.1] : List Int), ([x42] : List Int), q0a.2, hLL15, ((hE13 1 rfl).trans q1j), ((hE13 3 rfl).trans q3o), q1o, ((hE13 22 rfl).trans q3g), ((hE13 23 rfl).trans q3h), ((hE13 24 rfl).trans q2k), rfl, rfl, q27, q3v, q3r, ((((((((((hS.pull 4).pull 1).pull 2).pull 3).pull 9).pull 6).pull 9).pull 8).pull 9).pull 9)⟩ ?_
    rintro kL15 E w ⟨q0e, q5, q0x, c_b_c8_L15h_5_L15h, q0n, q7, q0y, c_b_c8_L15h_6_L15h, q0o, q8, q0z, c_b_c8_L15h_7_L15h, q0p, q2l, q2, q3, q4, q17, hLL15, q3c, q3p, q2w, q3i, q3j, q3k, q3l, q3m, q1a, q1b, q1c, hS⟩
    have e_ := St.vec_n (hS.pull 6) q1a; subst e_
    have e_ := St.vec_n (hS.pull 7) q1b; subst e_
    have e_ := St.vec_n (hS.pull 8) q1c; subst e_
    replace hLL15 := lp_s hLL15; obtain ⟨kL15, obL15, rfl, hFL15, hLL15⟩ := hLL15
    refine x_seq <| x_region <| p (yl_lss q3m q3l) <| x_done <|
     x_seq <|
     x_cond_p (q2l < x53) rfl (fun hc55 => ?_) (fun hc55 => ?_)
    ·replace hFL15 := it_t hc55 hFL15
     refine x_skip <| x_seq <| x_block <| ?_
     replace hFL15 := bd_s hFL15; obtain ⟨q18, q4q, hFL15⟩ := hFL15
     replace hFL15 := lv_s hFL15; obtain ⟨q10, q4r, hFL15⟩ := hFL15
     replace hFL15 := ck_s hFL15; obtain ⟨q4s, hFL15⟩ := hFL15
     refine x_par (w0 := w0) [⟨[], [], [56], [], [], []⟩, ⟨[0], [0], [57], [0], [], []⟩, ⟨[], [], [58], [1], [], []⟩, ⟨[2], [2], [59], [3], [2], [4]⟩, ⟨[2, 3], [3], [60], [], [], [5]⟩, ⟨[0, 1, 2, 3, 4], [1, 4], [61], [5, 3], [6], [7]⟩, ⟨[0, 1, 2, 3, 4, 5], [], [62], [], [], []⟩, ⟨[0, 1, 2, 3, 4, 5, 6], [5, 6], [], [], [0], [8]⟩] [⟨none, (some 7), []⟩, ⟨none, none, []⟩, ⟨none, (some 3), []⟩, ⟨none, none, []⟩, ⟨(some 3), none, []⟩, ⟨(some 4), none, [60]⟩, ⟨none, (some 5), []⟩, ⟨(some 5), none, [61]⟩, ⟨(some 7), none, [61]⟩] [56, 57, 58, 59, 60, 61, 62] [0, 1, 2, 3, 6] [1, 3, 4, 5, 7, 8] [0, 1, 2, 3, 4, 5, 6] [fun Ep16 => Ep16 56 = .pointer (some ⟨q0e, 5, none⟩), fun Ep16 => Ep16 57 = .slice q5 q2.length c_b_c8_L15h_5_L15h, fun Ep16 => Ep16 58 = .pointer (some ⟨q6, 0, none⟩), fun Ep16 => Ep16 59 = .int .i64 q18.1, fun Ep16 => Ep16 60 = .slice (some ⟨(blkOf (Ep16 60)), 0, none⟩) 1 1, fun Ep16 => Ep16 61 = .slice (adOf (Ep16 61)) q10.length (capOf (Ep16 61)), fun Ep16 => Ep16 62 = .pointer (some ⟨q0e, 5, none⟩), fun Ep16 => True] [fun Ep16 => cells q0e 206 [.string x28, .bool true, .int .i64 x33, .int .u64 0, .int .i64 x36, .slice q5 q2.length c_b_c8_L15h_5_L15h, .slice q7 q3.length c_b_c8_L15h_6_L15h, .slice q8 q4.length c_b_c8_L15h_7_L15h, .int .i64 q0c.1, .int .i64 q0d.1, .int .i64 q0a.1], fun Ep16 => cells b1 23 [.pointer (some ⟨q6, 0, none⟩)], fun Ep16 => cells q6 25 [.slice q0f s0.L.length c_s0_0, .int .i64 q17], fun Ep16 => ro q9, fun Ep16 => cells q6 25 [.slice q0f s0.L.length c_s0_0, .int .i64 q18.2], fun Ep16 => cells (blkOf (Ep16 60)) 3 [.int .i64 q18.1], fun Ep16 => vec 3 (RpI .i64).sz (.slice q5 q2.length c_b_c8_L15h_5_L15h) q2.length q0n, fun Ep16 => bunA (fun (cs61 : List Value) => RepL (RpI .i64) q9 q10 cs61) (fun (cs61 : List Value) => [vec 3 (RpI .i64).sz (.slice (adOf (Ep16 61)) q10.length (capOf (Ep16 61))) q10.length cs61]), fun Ep16 => cells q0e 206 [.string x28, .bool true, .int .i64 x33, .int .u64 0, .int .i64 x36, .slice (adOf (Ep16 61)) q10.length (capOf (Ep16 61)), .slice q7 q3.length c_b_c8_L15h_6_L15h, .slice q8 q4.length c_b_c8_L15h_7_L15h, .int .i64 q0c.1, .int .i64 q0d.1, .int .i64 q0a.1]] mixed (by kernel_rfl) (((((hS.pull 6).pull 9).pull 6).pull 3).pull 5) ?_ ?_
     ·refine ⟨?_, ?_, ?_, ?_, ?_, ?_, ?_, ?_, trivial⟩
      ·intro Ep16 w l' hE16 hO16 hF_ hS
       refine p (yl_field0 fld_206_5 ((hE16 8 rfl).trans q2w)) <| x_done <| ?_
       refine x_fin ⟨⟨_, rfl⟩, rfl, ?_⟩
       exact Eq.mp (by kernel_rfl) hS
      ·intro Ep16 w l' hE16 hO16 hF_ hS
       obtain ⟨q2x, -⟩ := hF_
       replace q2x : Ep16 56 = .pointer (some ⟨q0e, 5, none⟩) := Eq.mp (by kernel_rfl) q2x
       replace hS : St w0 w (cells q0e 206 [.string x28, .bool true, .int .i64 x33, .int .u64 0, .int .i64 x36, .slice q5 q2.length c_b_c8_L15h_5_L15h, .slice q7 q3.length c_b_c8_L15h_6_L15h, .slice q8 q4.length c_b_c8_L15h_7_L15h, .int .i64 q0c.1, .int .i64 q0d.1, .int .i64 q0a.1] :: l') := Eq.mp (by kernel_rfl) hS
       refine pa (at_load one_22 q2x (hS.cell rfl)) <| x_done <| ?_
       refine x_fin ⟨⟨_, rfl⟩, rfl, ?_⟩
       exact Eq.mp (by kernel_rfl) hS
      ·intro Ep16 w l' hE16 hO16 hF_ hS
       replace hS : St w0 w (cells b1 23 [.pointer (some ⟨q6, 0, none⟩)] :: l') := Eq.mp (by kernel_rfl) hS
       refine pa (at_load one_23 ((hE16 1 rfl).trans q3c) (hS.cell rfl)) <| x_done <| ?_
       refine x_fin ⟨⟨_, rfl⟩, rfl, ?_⟩
       exact Eq.mp (by kernel_rfl) hS
      ·intro Ep16 w l' hE16 hO16 hF_ hS
       obtain ⟨q2y, -⟩ := hF_
       replace q2y : Ep16 58 = .pointer (some ⟨q6, 0, none⟩) := Eq.mp (by kernel_rfl) q2y
       replace hS : St w0 w (ro q9 :: cells q6 25 [.slice q0f s0.L.length c_s0_0, .int .i64 q17] :: l') := Eq.mp (by kernel_rfl) hS
       have hcall := c_maskmake_Stream_Range q4q (q0v.le ((((((q11.trans q16).trans q19).trans q1g).trans q1h).trans q1n).trans q0w)) (hS.pull 1)
       refine o_cc call_24 (args3 q2y rfl rfl) hcall ?_
       rintro e w' ⟨rfl, hS⟩
       refine ⟨_, rfl, ?_⟩
       refine x_done <| ?_
       refine x_fin ⟨⟨_, rfl⟩, rfl, ?_⟩
       exact Eq.mp (by kernel_rfl) (hS.pull 1)
      ·intro Ep16 w l' hE16 hO16 hF_ hS
       obtain ⟨q2z, -⟩ := hF_
       replace q2z : Ep16 59 = .int .i64 q18.1 := Eq.mp (by kernel_rfl) q2z
       refine o_buildSlice (vs := [.int .i64 q18.1]) (cs := [.int .i64 q18.1]) sl_22 zero_3 (parts_eq (pt (va := .int .i64 q18.1) q2z pt0)) rfl (by intro v hv; simp only [List.mem_cons, List.not_mem_nil, or_false] at hv; first | (subst hv; rfl) | (rcases hv with rfl <;> rfl)) (by decide) rfl hS (fun b60 w' hS => ?_)
       refine x_done <| ?_
       refine x_fin ⟨⟨_, rfl⟩, rfl, ?_⟩
       exact Eq.mp (by kernel_rfl) hS
      ·intro Ep16 w l' hE16 hO16 hF_ hS
       obtain ⟨q30, q31, -⟩ := hF_
       replace q30 : Ep16 57 = .slice q5 q2.length c_b_c8_L15h_5_L15h := Eq.mp (by kernel_rfl) q30
       replace q31 : Ep16 60 = .slice (some ⟨(blkOf (Ep16 60)), 0, none⟩) 1 1 := Eq.mp (by kernel_rfl) q31
       replace hS : St w0 w (cells (blkOf (Ep16 60)) 3 [.int .i64 q18.1] :: ro q9 :: vec 3 (RpI .i64).sz (.slice q5 q2.length c_b_c8_L15h_5_L15h) q2.length q0n :: l') := Eq.mp (by kernel_rfl) hS
       refine o_ap sl_22 zero_3 rfl (by decide) q30 q31 (hS.pull 2) q1a (src_blk usl_22 hS rfl rfl) (RepL.cons (R := (RpI .i64)) (ρ := q9) (x := q18.1) (cs := [.int .i64 q18.1]) rfl RepL.nil) q4r q4s (fun A61 c61 cs61 w' hr61 hS => ?_)
       refine x_done <| ?_
       refine x_fin ⟨⟨_, rfl⟩, rfl, ?_⟩
       replace hS := St.bun (Φ := (fun (cs61 : List Value) => RepL (RpI .i64) q9 q10 cs61)) (L := (fun (cs61 : List Value) => [vec 3 (RpI .i64).sz (.slice A61 q10.length c61) q10.length cs61])) cs61 hr61 hS
       exact Eq.mp (by kernel_rfl) ((hS.pull 2).pull 2)
      ·intro Ep16 w l' hE16 hO16 hF_ hS
       refine p (yl_field0 fld_206_5 ((hE16 8 rfl).trans q2w)) <| x_done <| ?_
       refine x_fin ⟨⟨_, rfl⟩, rfl, ?_⟩
       exact Eq.mp (by kernel_rfl) hS
      ·intro Ep16 w l' hE16 hO16 hF_ hS
       obtain ⟨q32, q33, -⟩ := hF_
       replace q32 : Ep16 61 = .slice (adOf (Ep16 61)) q10.length (capOf (Ep16 61)) := Eq.mp (by kernel_rfl) q32
       replace q33 : Ep16 62 = .pointer (some ⟨q0e, 5, none⟩) := Eq.mp (by kernel_rfl) q33
       replace hS : St w0 w (cells q0e 206 [.string x28, .bool true, .int .i64 x33, .int .u64 0, .int .i64 x36, .slice q5 q2.length c_b_c8_L15h_5_L15h, .slice q7 q3.length c_b_c8_L15h_6_L15h, .slice q8 q4.length c_b_c8_L15h_7_L15h, .int .i64 q0c.1, .int .i64 q0d.1, .int .i64 q0a.1] :: l') := Eq.mp (by kernel_rfl) hS
       refine o_store1 (v := .slice (adOf (Ep16 61)) q10.length (capOf (Ep16 61))) one_22 q33 q32 rfl rfl hS (fun w' hS => ?_)
       refine x_done <| ?_
       refine x_fin ⟨⟨undef, rfl⟩, trivial, ?_⟩
       exact Eq.mp (by kernel_rfl) hS
     intro Ep16 w' hE16 hF_ hS
     obtain ⟨q2x, q30, q2y, q2z, q31, q32, q33, -⟩ := hF_
     replace q2x : Ep16 56 = .pointer (some ⟨q0e, 5, none⟩) := Eq.mp (by kernel_rfl) q2x
     replace q30 : Ep16 57 = .slice q5 q2.length c_b_c8_L15h_5_L15h := Eq.mp (by kernel_rfl) q30
     replace q2y : Ep16 58 = .pointer (some ⟨q6, 0, none⟩) := Eq.mp (by kernel_rfl) q2y
     replace q2z : Ep16 59 = .int .i64 q18.1 := Eq.mp (by kernel_rfl) q2z
     replace q31 : Ep16 60 = .slice (some ⟨(blkOf (Ep16 60)), 0, none⟩) 1 1 := Eq.mp (by kernel_rfl) q31
     replace q32 : Ep16 61 = .slice (adOf (Ep16 61)) q10.length (capOf (Ep16 61)) := Eq.mp (by kernel_rfl) q32
     replace q33 : Ep16 62 = .pointer (some ⟨q0e, 5, none⟩) := Eq.mp (by kernel_rfl) q33
     replace hS : St w0 w' (cells b1 23 [.pointer (some ⟨q6, 0, none⟩)] :: ro q9 :: cells q6 25 [.slice q0f s0.L.length c_s0_0, .int .i64 q18.2] :: cells (blkOf (Ep16 60)) 3 [.int .i64 q18.1] :: bunA (fun (cs61 : List Value) => RepL (RpI .i64) q9 q10 cs61) (fun (cs61 : List Value) => [vec 3 (RpI .i64).sz (.slice (adOf (Ep16 61)) q10.length (capOf (Ep16 61))) q10.length cs61]) :: cells q0e 206 [.string x28, .bool true, .int .i64 x33, .int .u64 0, .int .i64 x36, .slice (adOf (Ep16 61)) q10.length (capOf (Ep16 61)), .slice q7 q3.length c_b_c8_L15h_6_L15h, .slice q8 q4.length c_b_c8_L15h_7_L15h, .int .i64 q0c.1, .int .i64 q0d.1, .int .i64 q0a.1] :: (cells b3 31 [.slice q0j q0b.length c_b3_0_L10h] :: vec 9 RpS.sz (.slice q0r q0q.length c_y22_L10h) q0q.length q0t :: vec 206 R_api_Cell.sz (.slice q0j q0b.length c_b3_0_L10h) q0b.length q0s :: vec 3 (RpI .i64).sz (.slice q7 q3.length c_b_c8_L15h_6_L15h) q3.length q0o :: vec 3 (RpI .i64).sz (.slice q8 q4.length c_b_c8_L15h_7_L15h) q4.length q0p :: l)) := Eq.mp (by kernel_rfl) hS
     have q_ := St.unbun (hS.pull 4); obtain ⟨cs61, hr61, hS⟩ := q_
     replace hFL15 := ar_s hFL15; obtain ⟨x63, hx63, hFL15⟩ := hFL15
     refine x_blk <| x_region <| p (yadd ((hE16 54 rfl).trans q3m) rfl hx63) <| p (yl_move rfl) <|
      x_done <| ?_
     have e_ := Option.some.inj (show some _ = some _ from hFL15); subst e_
     exact x_inv ⟨kL15, Nat.lt_succ_self _, q0e, (adOf (Ep16 61)), q10.length, (capOf (Ep16 61)), cs61, q7, q3.length, c_b_c8_L15h_6_L15h, q0o, q8, q4.length, c_b_c8_L15h_7_L15h, q0p, x63, q10, q3, q4, q18.2, hLL15, ((hE16 1 rfl).trans q3c), ((hE16 3 rfl).trans q3p), ((hE16 8 rfl).trans q2w), ((hE16 22 rfl).trans q3i), ((hE16 23 rfl).trans q3j), ((hE16 24 rfl).trans q3k), ((hE16 53 rfl).trans q3l), rfl, hr61, q1b, q1c, (((((((((((hS.pull 4).drop.pull 2).pull 9).pull 9).pull 3).pull 9).pull 6).pull 9).pull 8).pull 9).pull 9)⟩
    ·replace hFL15 := it_f hc55 hFL15
     refine x_exitTo _ rfl <| ?_
     have e_ := Option.some.inj (show some _ = some _ from hFL15); subst e_
     exact x_inv ⟨q0e, q5, q2.length, c_b_c8_L15h_5_L15h, q0n, q7, q3.length, c_b_c8_L15h_6_L15h, q0o, q8, q4.length, c_b_c8_L15h_7_L15h, q0p, q2, q3, q4, q17, hLL15, q3c, q3p, q2w, q3i, q3j, q3k, q1a, q1b, q1c, ((((((((((hS.pull 9).pull 9).pull 9).pull 9).pull 9).pull 9).pull 9).pull 9).pull 9).pull 9)⟩
   rintro E w ⟨q37, q0g, q13, c_b_c8_L15_5_L15, q1d, q0h, q14, c_b_c8_L15_6_L15, q1e, q0i, q15, c_b_c8_L15_7_L15, q1f, q0k, q0l, q0m, q1w, rfl, q4t, q3n, q4u, q4i, q4j, q4k, q23, q24, q25, hS⟩
   have e_ := St.vec_n (hS.pull 6) q23; subst e_
   have e_ := St.vec_n (hS.pull 7) q24; subst e_
   have e_ := St.vec_n (hS.pull 8) q25; subst e_
   refine x_region <| pa (at_load one_31 q3n ((hS.pull 1).cell rfl)) <| pa (v := .agg #[.string x28, .bool true, .int .i64 x33, .int .u64 0, .int .i64 x36, .slice q0g q0k.length c_b_c8_L15_5_L15, .slice q0h q0l.length c_b_c8_L15_6_L15, .slice q0i q0m.length c_b_c8_L15_7_L15, .int .i64 q0c.1, .int .i64 q0d.1, .int .i64 q0a.1]) (ld_sub agg_206 q4u rfl rfl (hS.pull 2)) <| ?_
   have q_ := St.vec_fz ((hS.pull 9).pull 7) q23; obtain ⟨q5b, q26, q4v, hS⟩ := q_
   have q_ := St.vec_fz (hS.pull 7) (q24.le q26); obtain ⟨q55, q1p, q4l, hS⟩ := q_
   have q_ := St.vec_fz (hS.pull 7) (q25.le (q26.trans q1p)); obtain ⟨q3q, q1q, q4m, hS⟩ := q_
   refine o_buildSlice (vs := [.agg #[.string x28, .bool true, .int .i64 x33, .int .u64 0, .int .i64 x36, .slice q0g q0k.length c_b_c8_L15_5_L15, .slice q0h q0l.length c_b_c8_L15_6_L15, .slice q0i q0m.length c_b_c8_L15_7_L15, .int .i64 q0c.1, .int .i64 q0d.1, .int .i64 q0a.1]]) (cs := [.string x28, .bool true, .int .i64 x33, .int .u64 0, .int .i64 x36, .slice q0g q0k.length c_b_c8_L15_5_L15, .slice q0h q0l.length c_b_c8_L15_6_L15, .slice q0i q0m.length c_b_c8_L15_7_L15, .int .i64 q0c.1, .int .i64 q0d.1, .int .i64 q0a.1]) sl_31 zero_206 (parts_eq (pt (va := .agg #[.string x28, .bool true, .int .i64 x33, .int .u64 0, .int .i64 x36, .slice q0g q0k.length c_b_c8_L15_5_L15, .slice q0h q0l.length c_b_c8_L15_6_L15, .slice q0i q0m.length c_b_c8_L15_7_L15, .int .i64 q0c.1, .int .i64 q0d.1, .int .i64 q0a.1]) rfl pt0)) rfl (by intro v hv; simp only [List.mem_cons, List.not_mem_nil, or_false] at hv; first | (subst hv; rfl) | (rcases hv with rfl <;> rfl)) (by decide) rfl hS (fun b66 w' hS => ?_)
   replace hFL10 := lv_s hFL10; obtain ⟨q3s, q4w, hFL10⟩ := hFL10
   replace hFL10 := ck_s hFL10; obtain ⟨q4x, hFL10⟩ := hFL10
   refine o_ap sl_31 zero_206 rfl (by decide) rfl rfl (hS.pull 7) (q28.le ((q26.trans q1p).trans q1q)) (src_blk usl_31 hS rfl rfl) (RepL.cons (R := R_api_Cell) (ρ := q3q) (x := (T_api_Cell.mk x28 true x33 0 x36 q0k q0l q0m q0c.1 q0d.1 q0a.1)) (cs := [.string x28, .bool true, .int .i64 x33, .int .u64 0, .int .i64 x36, .slice q0g q0k.length c_b_c8_L15_5_L15, .slice q0h q0l.length c_b_c8_L15_6_L15, .slice q0i q0m.length c_b_c8_L15_7_L15, .int .i64 q0c.1, .int .i64 q0d.1, .int .i64 q0a.1]) ⟨_, _, _, _, _, _, _, _, _, rfl, (q4v.le (q1p.trans q1q)), (q4l.le q1q), q4m⟩ RepL.nil) q4w q4x (fun A67 c67 cs67 w' hr67 hS => ?_)
   refine o_store1 (v := .slice A67 q3s.length c67) one_31 q3n rfl rfl rfl (hS.pull 4) (fun w' hS => ?_)
   replace hFL10 := ar_s hFL10; obtain ⟨x68, hx68, hFL10⟩ := hFL10
   refine x_done <| x_blk <| x_region <| p (yadd q4k rfl hx68) <|
    p (yl_move rfl) <| x_done <| ?_
   have e_ := Option.some.inj (show some _ = some _ from hFL10); subst e_
   exact x_inv ⟨kL10, Nat.lt_succ_self _, q3q, q0r, q0q.length, c_y22_L10h, q0t, A67, q3s.length, c67, cs67, q0q, x68, q3s, q1w, hLL10, (((q0w.trans q26).trans q1p).trans q1q), q4t, q3n, q4i, q4j, rfl, (q1u.le ((q26.trans q1p).trans q1q)), hr67, ((((((((hS.pull 2).drop.pull 4).drop.pull 2).pull 2).pull 5).pull 5).pull 4).pull 5)⟩
  ·replace hFL10 := it_f hc25 hFL10
   refine x_exitTo _ rfl <| ?_
   have e_ := Option.some.inj (show some _ = some _ from hFL10); subst e_
   exact x_inv ⟨q9, q0j, q0b.length, c_b3_0_L10h, q0s, q0b, q1m, hLL10, q0w, q3o, q28, (((((hS.drop.pull 1).drop.pull 3).pull 3).pull 3).pull 3)⟩
 rintro E w ⟨q39, q1r, q1s, c_b3_0_L10, q1k, q2i, q2j, rfl, q4d, q4y, q3b, hS⟩
 have e_ := St.vec_n (hS.pull 2) q3b; subst e_
 refine x_seq <| x_region <| pa (at_load one_31 q4y (hS.cell rfl)) <| p (yl_assign rfl) <|
  x_done <| ?_
 have e_ := Option.some.inj (show some _ = some _ from hF); subst e_
 exact x_return ⟨_, ⟨_, _, rfl, rfl, rfl⟩, q39, q1r, q2i.length, c_b3_0_L10, q1k, rfl, ((((((q11.trans q16).trans q19).trans q1g).trans q1h).trans q1n).trans q4d), q3b, (((hS.drop.pull 2).pull 1).pull 2)⟩
attribute [irreducible] P_maskmake_Stream_LayLib

def P_strconv_Itoa (i0 : Int) : Option ByteArray := ck (0 ≤ i0 ∧ i0 ≤ 9223372036854775807) <| some (itoa i0)
theorem c_strconv_Itoa {w0 w : World} {l : List Assn} {ρ : Heap} {i0 : Int} {r : ByteArray} (hF : P_strconv_Itoa i0 = some r) (hS : St w0 w (ro ρ :: l)) :
  Calls Tryd.prog 93 #[.int .i64 i0] w fun e w' => e = .returned (.string r) ∧ St w0 w' (ro ρ :: l) := by
 obtain ⟨h, hF⟩ := ck_s hF
 cases hF
 exact itoa_at h.1 h.2 hS
attribute [irreducible] P_strconv_Itoa

def P_maskmake_Stream_Placed_1 (most0 : Int) (q2 : T_maskmake_Stream) : Option (Int × Int) :=
 bd (P_maskmake_Stream_Next q2 3) fun q3 =>
 if 0 < q3.1 then
  ar (most0 - 1) fun x8 =>
  lv (min most0 4) fun x11 =>
  bd (P_maskmake_Stream_Next (T_maskmake_Stream.mk q2.L q3.2) x11) fun q4 =>
  ar (x8 - q4.1) fun x13 =>
  some (x13, q4.2)
 else
  bd (P_maskmake_Stream_Next (T_maskmake_Stream.mk q2.L q3.2) most0) fun q5 =>
  some (q5.1, q5.2)
set_option maxHeartbeats 4000000 in
set_option maxRecDepth 100000 in
theorem c_maskmake_Stream_Placed_1 {w0 w : World} {l : List Assn} {ρ : Heap} {q6 : Nat} {q5 : Nat} {q3 : Option Addr} {q4 : Nat} {c_v1_0_0 : Nat} {most0 : Int} {q7 : T_maskmake_Stream} {r : (Int × Int)} (hF : P_maskmake_Stream_Placed_1 most0 q7 = some r) (q2 : RdS (RpI .i64) ρ q3 q4 c_v1_0_0 q7.L) (hS : St w0 w (cells q6 23 [.pointer (some ⟨q5, 0, none⟩)] :: cells q5 25 [.slice q3 q4 c_v1_0_0, .int .i64 q7.fat] :: ro ρ :: l)) :
  Calls Tryd.prog 103 #[.int .i64 most0, .pointer (some ⟨q6, 0, none⟩)] w fun e w' => e = .returned (.int .i64 r.1) ∧ St w0 w' (cells q5 25 [.slice q3 q4 c_v1_0_0, .int .i64 r.2] :: cells q6 23 [.pointer (some ⟨q5, 0, none⟩)] :: ro ρ :: l) := by
 have e_ := q2.n; subst e_
 refine enterC Tryd.func103 rfl 17 rfl (by simp) ?_
 replace hF := bd_s hF; obtain ⟨q0b, q8, hF⟩ := hF
 refine x_seq <| x_region <| p (yl_assign rfl) <| x_done <|
  x_seq <| x_seq <| x_region <| pa (at_load one_23 rfl (hS.cell rfl)) <| ?_
 have hcall := c_maskmake_Stream_Next q8 q2 ((hS.pull 2).pull 2)
 refine o_cc call_13 (args2 rfl rfl) hcall ?_
 rintro e w' ⟨rfl, hS⟩
 refine ⟨_, rfl, ?_⟩
 refine p (yl_gtr rfl rfl) <| x_done <|
  x_cond_p (0 < q0b.1) rfl (fun hc6 => ?_) (fun hc6 => ?_)
 ·replace hF := it_t hc6 hF
  replace hF := ar_s hF; obtain ⟨x8, hx8, hF⟩ := hF
  replace hF := lv_s hF; obtain ⟨x11, hx11, hF⟩ := hF
  replace hF := bd_s hF; obtain ⟨q0c, q9, hF⟩ := hF
  refine x_seq <| x_region <| p (yl_move rfl) <| p (ysub rfl rfl hx8) <|
   pa (at_load one_23 rfl ((hS.pull 2).cell rfl)) <| p (yl_move rfl) <| p (ymin' rfl rfl hx11) <| ?_
  have hcall := c_maskmake_Stream_Next q9 q2 ((hS.pull 1).pull 1)
  refine o_cc call_13 (args2 rfl rfl) hcall ?_
  rintro e w' ⟨rfl, hS⟩
  refine ⟨_, rfl, ?_⟩
  replace hF := ar_s hF; obtain ⟨x13, hx13, hF⟩ := hF
  refine p (ysub rfl rfl hx13) <| p (yl_assign rfl) <| x_done <| ?_
  have e_ := Option.some.inj (show some _ = some _ from hF); subst e_
  exact x_return ⟨_, ⟨_, _, rfl, rfl, rfl⟩, rfl, (((hS.pull 1).pull 2).pull 2)⟩
 ·replace hF := it_f hc6 hF
  replace hF := bd_s hF; obtain ⟨q0d, q0a, hF⟩ := hF
  refine x_skip <| x_seq <| x_region <| pa (at_load one_23 rfl ((hS.pull 2).cell rfl)) <|
   p (yl_move rfl) <| ?_
  have hcall := c_maskmake_Stream_Next q0a q2 ((hS.pull 1).pull 1)
  refine o_cc call_13 (args2 rfl rfl) hcall ?_
  rintro e w' ⟨rfl, hS⟩
  refine ⟨_, rfl, ?_⟩
  refine p (yl_assign rfl) <| x_done <| ?_
  have e_ := Option.some.inj (show some _ = some _ from hF); subst e_
  exact x_return ⟨_, ⟨_, _, rfl, rfl, rfl⟩, rfl, (((hS.pull 1).pull 2).pull 2)⟩
attribute [irreducible] P_maskmake_Stream_Placed_1

def P_maskmake_Stream_Flip (s0 : T_maskmake_Stream) (n1 : Int) : Option (Bool × Int) :=
 bd (P_maskmake_Stream_Next s0 n1) fun q2 =>
 some (decide (q2.1 = 0), q2.2)
set_option maxHeartbeats 4000000 in
set_option maxRecDepth 100000 in
theorem c_maskmake_Stream_Flip {w0 w : World} {l : List Assn} {ρ : Heap} {q5 : Nat} {q2 : Option Addr} {q3 : Nat} {c_s0_0 : Nat} {s0 : T_maskmake_Stream} {n1 : Int} {r : (Bool × Int)} (hF : P_maskmake_Stream_Flip s0 n1 = some r) (q4 : RdS (RpI .i64) ρ q2 q3 c_s0_0 s0.L) (hS : St w0 w (cells q5 25 [.slice q2 q3 c_s0_0, .int .i64 s0.fat] :: ro ρ :: l)) :
  Calls Tryd.prog 71 #[.pointer (some ⟨q5, 0, none⟩), .int .i64 n1] w fun e w' => e = .returned (.bool r.1) ∧ St w0 w' (cells q5 25 [.slice q2 q3 c_s0_0, .int .i64 r.2] :: ro ρ :: l) := by
 have e_ := q4.n; subst e_
 refine enterC Tryd.func71 rfl 9 rfl (by simp) ?_
 replace hF := bd_s hF; obtain ⟨q7, q6, hF⟩ := hF
 refine x_seq <| x_region <| p (yl_assign rfl) <| x_done <|
  x_seq <| x_region <| p (yl_move rfl) <| p (yl_move rfl) <| ?_
 have hcall := c_maskmake_Stream_Next q6 q4 ((hS.pull 1).pull 1)
 refine o_cc call_13 (args2 rfl rfl) hcall ?_
 rintro e w' ⟨rfl, hS⟩
 refine ⟨_, rfl, ?_⟩
 refine p (yl_eql rfl rfl) <| p (yl_assign rfl) <| x_done <| ?_
 have e_ := Option.some.inj (show some _ = some _ from hF); subst e_
 exact x_return ⟨_, ⟨_, _, rfl, rfl, rfl⟩, rfl, ((hS.pull 1).pull 1)⟩
attribute [irreducible] P_maskmake_Stream_Flip

def P_maskmake_Stream_Placed_L3 (ins2 : Int) : (Int × List ByteArray) → Option ((Int × List ByteArray) ⊕ List ByteArray) := fun (q2, q3) =>
 if q2 < ins2 then
  bd (P_strconv_Itoa q2) fun q4 =>
  ck ((⟨#[105]⟩ : ByteArray).size + q4.size ≤ 140737488355328) <|
  lv (q3 ++ [(⟨#[105]⟩ : ByteArray) ++ q4]) fun q5 =>
  ck (apOk 16 q5.length) <|
  ar (q2 + 1) fun x35 =>
  some (Sum.inl (x35, q5))
 else
  some (Sum.inr q3)
def P_maskmake_Stream_Placed_L15 (s0 : T_maskmake_Stream) (x39 : Int) (q8 : T_api_Cell) (q5 : Int) : (Int × List Int × Int) → Option ((Int × List Int × Int) ⊕ (List Int × Int)) := fun (q4, q3, q2) =>
 if q4 < q8.Ins then
  ar (x39 + q5) fun x66 =>
  bd (P_maskmake_Stream_Placed_1 x66 (T_maskmake_Stream.mk s0.L q2)) fun q6 =>
  lv (q3 ++ [q6.1]) fun q7 =>
  ck (apOk 8 q7.length) <|
  ar (q4 + 1) fun x71 =>
  some (Sum.inl (x71, q7, q6.2))
 else
  some (Sum.inr (q3, q2))
def P_maskmake_Stream_Placed_L10 (s0 : T_maskmake_Stream) (l_1 : List T_api_Cell) (gates4 : Int) (x39 : Int) : (Int × List T_api_Gate × Int) → Option ((Int × List T_api_Gate × Int) ⊕ (List T_api_Gate × Int)) := fun (q4, q5, q3) =>
 if q4 < gates4 then
  bd (P_maskmake_Stream_Next (T_maskmake_Stream.mk s0.L q3) 6) fun q2 =>
  ck (inb q2.1 l_1.length) <|
  lv (gt l_1 q2.1) fun q9 =>
  ck (inb q2.1 l_1.length) <|
  lv (gt l_1 q2.1) fun q0a =>
  bd (
   lp (P_maskmake_Stream_Placed_L15 s0 x39 q0a q4) fuel (0, [], q2.2)) fun (q7, q6) =>
  lv (q5 ++ [(T_api_Gate.mk q2.1 q9.Table q7)]) fun q8 =>
  ck (apOk 40 q8.length) <|
  ar (q4 + 1) fun x78 =>
  some (Sum.inl (x78, q8, q6))
 else
  some (Sum.inr (q5, q3))
def P_maskmake_Stream_Placed_L21 (s0 : T_maskmake_Stream) (flops3 : Int) (gates4 : Int) (x39 : Int) : (Int × List T_api_Flop × Int) → Option ((Int × List T_api_Flop × Int) ⊕ (List T_api_Flop × Int)) := fun (q3, q4, q2) =>
 if q3 < flops3 then
  bd (P_strconv_Itoa q3) fun q0c =>
  ck ((⟨#[102]⟩ : ByteArray).size + q0c.size ≤ 140737488355328) <|
  ar (x39 + gates4) fun x89 =>
  bd (P_maskmake_Stream_Placed_1 x89 (T_maskmake_Stream.mk s0.L q2)) fun q0d =>
  bd (P_maskmake_Stream_Flip (T_maskmake_Stream.mk s0.L q0d.2) 2) fun q0e =>
  bd (P_maskmake_Stream_Flip (T_maskmake_Stream.mk s0.L q0e.2) 2) fun q8 =>
  bd (
   if q8.1 = true then
    bd (P_maskmake_Stream_Next (T_maskmake_Stream.mk s0.L q8.2) 4) fun q9 =>
    bd (
     if 0 < q9.1 then
      ar (x39 + gates4) fun x103 =>
      bd (P_maskmake_Stream_Placed_1 x103 (T_maskmake_Stream.mk s0.L q9.2)) fun q0f =>
      some (q0f.1, q0f.2)
     else
      some ((1 : Int), q9.2)) fun (q5, q0a) =>
    some ((7 : Int), q5, q0a)
   else
    some ((6 : Int), (1 : Int), q8.2)) fun (q6, q7, q0b) =>
  lv (q4 ++ [(T_api_Flop.mk ((⟨#[102]⟩ : ByteArray) ++ q0c) q6 q0d.1 q7 q0e.1)]) fun q0g =>
  ck (apOk 48 q0g.length) <|
  ar (q3 + 1) fun x112 =>
  some (Sum.inl (x112, q0g, q0b))
 else
  some (Sum.inr (q4, q2))
def P_maskmake_Stream_Placed_L31 (s0 : T_maskmake_Stream) (gates4 : Int) (outs5 : Int) (x39 : Int) : (Int × List ByteArray × List Int × Int) → Option ((Int × List ByteArray × List Int × Int) ⊕ (List ByteArray × List Int × Int)) := fun (q2, q4, q5, q3) =>
 if q2 < outs5 then
  bd (P_strconv_Itoa q2) fun q8 =>
  ck ((⟨#[111]⟩ : ByteArray).size + q8.size ≤ 140737488355328) <|
  lv (q4 ++ [(⟨#[111]⟩ : ByteArray) ++ q8]) fun q9 =>
  ck (apOk 16 q9.length) <|
  ar (x39 + gates4) fun x129 =>
  bd (P_maskmake_Stream_Placed_1 x129 (T_maskmake_Stream.mk s0.L q3)) fun q6 =>
  lv (q5 ++ [q6.1]) fun q7 =>
  ck (apOk 8 q7.length) <|
  ar (q2 + 1) fun x135 =>
  some (Sum.inl (x135, q9, q7, q6.2))
 else
  some (Sum.inr (q4, q5, q3))
def P_maskmake_Stream_Placed (s0 : T_maskmake_Stream) (l_1 : List T_api_Cell) (ins2 : Int) (flops3 : Int) (gates4 : Int) (outs5 : Int) : Option (T_api_Netlist × Int) :=
 bd (
  lp (P_maskmake_Stream_Placed_L3 ins2) fuel (0, [])) fun q9 =>
 ar ((2 : Int) + ins2) fun x37 =>
 ar (x37 + flops3) fun x39 =>
 bd (
  lp (P_maskmake_Stream_Placed_L10 s0 l_1 gates4 x39) fuel (0, [], s0.fat)) fun (q5, q2) =>
 bd (
  lp (P_maskmake_Stream_Placed_L21 s0 flops3 gates4 x39) fuel (0, [], q2)) fun (q6, q3) =>
 bd (
  lp (P_maskmake_Stream_Placed_L31 s0 gates4 outs5 x39) fuel (0, [], [], q3)) fun (q7, q8, q4) =>
 some ((T_api_Netlist.mk q9 q7 q6 q5 q8), q4)
set_option maxHeartbeats 4000000 in
set_option maxRecDepth 100000 in
theorem c_maskmake_Stream_Placed {w0 w : World} {l : List Assn} {ρ : Heap} {q6 : Nat} {q0d : Option Addr} {q5f : Nat} {c_s0_0 : Nat} {q32 : Option Addr} {q6n : Nat} {c_l_1 : Nat} {s0 : T_maskmake_Stream} {l_1 : List T_api_Cell} {ins2 : Int} {flops3 : Int} {gates4 : Int} {outs5 : Int} {r : (T_api_Netlist × Int)} (hF : P_maskmake_Stream_Placed s0 l_1 ins2 flops3 gates4 outs5 = some r) (q1r : RdS (RpI .i64) ρ q0d q5f c_s0_0 s0.L) (q4u : RdS R_api_Cell ρ q32 q6n c_l_1 l_1) (hS : St w0 w (cells q6 25 [.slice q0d q5f c_s0_0, .int .i64 s0.fat] :: ro ρ :: l)) :
  Calls Tryd.prog 48 #[.pointer (some ⟨q6, 0, none⟩), .slice q32 q6n c_l_1, .int .i64 ins2, .int .i64 flops3, .int .i64 gates4, .int .i64 outs5] w fun e w' => ∃ (ρ' : Heap) (q4v : Option Addr) (q33 : Nat) (c_y0_ret_0 : Nat) (q4g : List Value) (q4w : Option Addr) (q34 : Nat) (c_y0_ret_1 : Nat) (q4h : List Value) (q4x : Option Addr) (q35 : Nat) (c_y0_ret_2 : Nat) (q4i : List Value) (q4y : Option Addr) (q36 : Nat) (c_y0_ret_3 : Nat) (q4j : List Value) (q4z : Option Addr) (q37 : Nat) (c_y0_ret_4 : Nat) (q4k : List Value), e = .returned (.agg #[.slice q4v q33 c_y0_ret_0, .slice q4w q34 c_y0_ret_1, .slice q4x q35 c_y0_ret_2, .slice q4y q36 c_y0_ret_3, .slice q4z q37 c_y0_ret_4]) ∧ Le ρ ρ' ∧ RepL RpS ρ' r.1.In q4g ∧ RepL RpS ρ' r.1.Out q4h ∧ RepL R_api_Flop ρ' r.1.Flops q4i ∧ RepL R_api_Gate ρ' r.1.Gates q4j ∧ RepL (RpI .i64) ρ' r.1.Outs q4k ∧ St w0 w' (vec 9 RpS.sz (.slice q4v q33 c_y0_ret_0) q33 q4g :: vec 9 RpS.sz (.slice q4w q34 c_y0_ret_1) q34 q4h :: vec 135 R_api_Flop.sz (.slice q4x q35 c_y0_ret_2) q35 q4i :: vec 38 R_api_Gate.sz (.slice q4y q36 c_y0_ret_3) q36 q4j :: vec 3 (RpI .i64).sz (.slice q4z q37 c_y0_ret_4) q37 q4k :: cells q6 25 [.slice q0d q5f c_s0_0, .int .i64 r.2] :: ro ρ' :: l) := by
 have e_ := q1r.n; subst e_
 have e_ := q4u.n; subst e_
 refine enterC Tryd.func48 rfl 137 rfl (by simp) ?_
 refine x_seq <| x_region <| ?_
 refine o_box (cs := [.pointer (some ⟨q6, 0, none⟩)]) rfl rfl hS (fun b6 w' hS => ?_)
 refine o_alloc zero_30 hS (fun b12 w' hS => ?_)
 refine x_done <| x_seq <| x_region <| ?_
 refine o_alloc zero_30 hS (fun b13 w' hS => ?_)
 refine x_done <| x_seq <| x_seq <| x_region <|
  p (yl_move rfl) <| p (yl_move rfl) <| x_done <| ?_
 replace hF := bd_s hF; obtain ⟨oL3, hLL3, hF⟩ := hF
 refine x_join (fun E w => ∃ (q3 : Option Addr) (q2b : Nat) (c_b13_0_L3 : Nat) (q0a : List Value) (q2 : List ByteArray), q2 = oL3 ∧ E 1 = .slice q32 l_1.length c_l_1 ∧ E 2 = .int .i64 ins2 ∧ E 3 = .int .i64 flops3 ∧ E 4 = .int .i64 gates4 ∧ E 5 = .int .i64 outs5 ∧ E 6 = .pointer (some ⟨b6, 0, none⟩) ∧ E 12 = .pointer (some ⟨b12, 0, none⟩) ∧ E 13 = .pointer (some ⟨b13, 0, none⟩) ∧ RepL RpS ρ q2 q0a ∧ St w0 w (cells b6 23 [.pointer (some ⟨q6, 0, none⟩)] :: cells b12 30 [.slice none 0 0, .slice none 0 0, .slice none 0 0, .slice none 0 0, .slice none 0 0] :: cells b13 30 [.slice q3 q2b c_b13_0_L3, .slice none 0 0, .slice none 0 0, .slice none 0 0, .slice none 0 0] :: cells q6 25 [.slice q0d s0.L.length c_s0_0, .int .i64 s0.fat] :: vec 9 RpS.sz (.slice q3 q2b c_b13_0_L3) q2b q0a :: ro ρ :: l)) ?_ ?_
 ·refine x_block ?_
  replace hS := St.vec_nil hS 9 RpS.sz
  have q4q : RepL RpS ρ [] [] := rfl
  refine x_loop (fun k_ E w => ∃ (q0o : Option Addr) (q24 : Nat) (c_b13_0_L3h : Nat) (q1a : List Value) (q20 : Int) (q0n : List ByteArray), lp (P_maskmake_Stream_Placed_L3 ins2) k_ (q20, q0n) = some oL3 ∧ E 1 = .slice q32 l_1.length c_l_1 ∧ E 2 = .int .i64 ins2 ∧ E 3 = .int .i64 flops3 ∧ E 4 = .int .i64 gates4 ∧ E 5 = .int .i64 outs5 ∧ E 6 = .pointer (some ⟨b6, 0, none⟩) ∧ E 12 = .pointer (some ⟨b12, 0, none⟩) ∧ E 13 = .pointer (some ⟨b13, 0, none⟩) ∧ E 23 = .int .i64 ins2 ∧ E 24 = .int .i64 q20 ∧ RepL RpS ρ q0n q1a ∧ St w0 w (cells b6 23 [.pointer (some ⟨q6, 0, none⟩)] :: cells b12 30 [.slice none 0 0, .slice none 0 0, .slice none 0 0, .slice none 0 0, .slice none 0 0] :: cells b13 30 [.slice q0o q24 c_b13_0_L3h, .slice none 0 0, .slice none 0 0, .slice none 0 0, .slice none 0 0] :: cells q6 25 [.slice q0d s0.L.length c_s0_0, .int .i64 s0.fat] :: vec 9 RpS.sz (.slice q0o q24 c_b13_0_L3h) q24 q1a :: ro ρ :: l)) fuel ⟨none, 0, 0, [], 0, [], hLL3, rfl, rfl, rfl, rfl, rfl, rfl, rfl, rfl, rfl, rfl, q4q, ((((((hS.pull 5).pull 1).pull 5).pull 3).pull 4).pull 5)⟩ ?_
  rintro kL3 E w ⟨q0o, q24, c_b13_0_L3h, q1a, q20, q0n, hLL3, q6c, q6d, q6e, q6f, q6g, q6h, q5w, q3g, q5x, q51, q2s, hS⟩
  have e_ := St.vec_n (hS.pull 4) q2s; subst e_
  replace hLL3 := lp_s hLL3; obtain ⟨kL3, obL3, rfl, hFL3, hLL3⟩ := hLL3
  refine x_seq <| x_region <| p (yl_lss q51 q5x) <| x_done <|
   x_seq <|
   x_cond_p (q20 < ins2) rfl (fun hc25 => ?_) (fun hc25 => ?_)
  ·replace hFL3 := it_t hc25 hFL3
   refine x_skip <| x_seq <| x_block <| x_seq <|
    x_region <| p (yl_move q51) <| p (yl_assign rfl) <| x_done <| ?_
   replace hFL3 := bd_s hFL3; obtain ⟨q1s, q91, hFL3⟩ := hFL3
   replace hFL3 := ck_s hFL3; obtain ⟨q92, hFL3⟩ := hFL3
   replace hFL3 := lv_s hFL3; obtain ⟨q1l, q93, hFL3⟩ := hFL3
   replace hFL3 := ck_s hFL3; obtain ⟨q94, hFL3⟩ := hFL3
   refine x_par (w0 := w0) [⟨[], [], [27], [], [], []⟩, ⟨[0], [0], [28], [0], [], []⟩, ⟨[], [], [29], [], [], []⟩, ⟨[2], [2], [30], [1], [], []⟩, ⟨[2, 3], [3], [31], [], [], []⟩, ⟨[2, 3, 4], [4], [32], [], [], [2]⟩, ⟨[0, 1, 2, 3, 4, 5], [1, 5], [33], [2, 1], [3], [4]⟩, ⟨[0, 1, 2, 3, 4, 5, 6], [], [34], [], [], []⟩, ⟨[0, 1, 2, 3, 4, 5, 6, 7], [6, 7], [], [], [0], [5]⟩] [⟨none, (some 8), []⟩, ⟨none, none, []⟩, ⟨(some 5), none, [32]⟩, ⟨none, (some 6), []⟩, ⟨(some 6), none, [33]⟩, ⟨(some 8), none, [33]⟩] [27, 28, 29, 30, 31, 32, 33, 34] [0, 1, 3] [1, 2, 4, 5] [0, 1, 2, 3, 4, 5, 6, 7] [fun Ep5 => Ep5 27 = .pointer (some ⟨b13, 0, none⟩), fun Ep5 => Ep5 28 = .slice q0o q0n.length c_b13_0_L3h, fun Ep5 => Ep5 29 = .int .i64 q20, fun Ep5 => Ep5 30 = .string q1s, fun Ep5 => Ep5 31 = .string ((⟨#[105]⟩ : ByteArray) ++ q1s), fun Ep5 => Ep5 32 = .slice (some ⟨(blkOf (Ep5 32)), 0, none⟩) 1 1, fun Ep5 => Ep5 33 = .slice (adOf (Ep5 33)) q1l.length (capOf (Ep5 33)), fun Ep5 => Ep5 34 = .pointer (some ⟨b13, 0, none⟩), fun Ep5 => True] [fun Ep5 => cells b13 30 [.slice q0o q0n.length c_b13_0_L3h, .slice none 0 0, .slice none 0 0, .slice none 0 0, .slice none 0 0], fun Ep5 => ro ρ, fun Ep5 => cells (blkOf (Ep5 32)) 9 [.string ((⟨#[105]⟩ : ByteArray) ++ q1s)], fun Ep5 => vec 9 RpS.sz (.slice q0o q0n.length c_b13_0_L3h) q0n.length q1a, fun Ep5 => bunA (fun (cs33 : List Value) => RepL RpS ρ q1l cs33) (fun (cs33 : List Value) => [vec 9 RpS.sz (.slice (adOf (Ep5 33)) q1l.length (capOf (Ep5 33))) q1l.length cs33]), fun Ep5 => cells b13 30 [.slice (adOf (Ep5 33)) q1l.length (capOf (Ep5 33)), .slice none 0 0, .slice none 0 0, .slice none 0 0, .slice none 0 0]] mixed (by kernel_rfl) (((hS.pull 4).pull 5).pull 4) ?_ ?_
   ·refine ⟨?_, ?_, ?_, ?_, ?_, ?_, ?_, ?_, ?_, trivial⟩
    ·intro Ep5 w l' hE5 hO5 hF_ hS
     refine p (yl_field0 fld_30_0 ((hE5 13 rfl).trans q3g)) <| x_done <| ?_
     refine x_fin ⟨⟨_, rfl⟩, rfl, ?_⟩
     exact Eq.mp (by kernel_rfl) hS
    ·intro Ep5 w l' hE5 hO5 hF_ hS
     obtain ⟨q52, -⟩ := hF_
     replace q52 : Ep5 27 = .pointer (some ⟨b13, 0, none⟩) := Eq.mp (by kernel_rfl) q52
     replace hS : St w0 w (cells b13 30 [.slice q0o q0n.length c_b13_0_L3h, .slice none 0 0, .slice none 0 0, .slice none 0 0, .slice none 0 0] :: l') := Eq.mp (by kernel_rfl) hS
     refine pa (at_load one_26 q52 (hS.cell rfl)) <| x_done <| ?_
     refine x_fin ⟨⟨_, rfl⟩, rfl, ?_⟩
     exact Eq.mp (by kernel_rfl) hS
    ·intro Ep5 w l' hE5 hO5 hF_ hS
     refine p (yl_move (hE5 14 rfl)) <| x_done <| ?_
     refine x_fin ⟨⟨_, rfl⟩, rfl, ?_⟩
     exact Eq.mp (by kernel_rfl) hS
    ·intro Ep5 w l' hE5 hO5 hF_ hS
     obtain ⟨q53, -⟩ := hF_
     replace q53 : Ep5 29 = .int .i64 q20 := Eq.mp (by kernel_rfl) q53
     replace hS : St w0 w (ro ρ :: l') := Eq.mp (by kernel_rfl) hS
     have hcall := c_strconv_Itoa q91  hS
     refine o_cc call_93 (args1 q53) (hcall) ?_
     rintro e w' ⟨rfl, hS⟩
     refine ⟨_, rfl, ?_⟩
     refine x_done <| ?_
     refine x_fin ⟨⟨_, rfl⟩, rfl, ?_⟩
     exact Eq.mp (by kernel_rfl) hS
    ·intro Ep5 w l' hE5 hO5 hF_ hS
     obtain ⟨q54, -⟩ := hF_
     replace q54 : Ep5 30 = .string q1s := Eq.mp (by kernel_rfl) q54
     refine p (yadds rfl q54 q92) <| x_done <| ?_
     refine x_fin ⟨⟨_, rfl⟩, rfl, ?_⟩
     exact Eq.mp (by kernel_rfl) hS
    ·intro Ep5 w l' hE5 hO5 hF_ hS
     obtain ⟨q55, -⟩ := hF_
     replace q55 : Ep5 31 = .string ((⟨#[105]⟩ : ByteArray) ++ q1s) := Eq.mp (by kernel_rfl) q55
     refine o_buildSlice (vs := [.string ((⟨#[105]⟩ : ByteArray) ++ q1s)]) (cs := [.string ((⟨#[105]⟩ : ByteArray) ++ q1s)]) sl_26 zero_9 (parts_eq (pt (va := .string ((⟨#[105]⟩ : ByteArray) ++ q1s)) q55 pt0)) rfl (by intro v hv; simp only [List.mem_cons, List.not_mem_nil, or_false] at hv; first | (subst hv; rfl) | (rcases hv with rfl <;> rfl)) (by decide) rfl hS (fun b32 w' hS => ?_)
     refine x_done <| ?_
     refine x_fin ⟨⟨_, rfl⟩, rfl, ?_⟩
     exact Eq.mp (by kernel_rfl) hS
    ·intro Ep5 w l' hE5 hO5 hF_ hS
     obtain ⟨q56, q57, -⟩ := hF_
     replace q56 : Ep5 28 = .slice q0o q0n.length c_b13_0_L3h := Eq.mp (by kernel_rfl) q56
     replace q57 : Ep5 32 = .slice (some ⟨(blkOf (Ep5 32)), 0, none⟩) 1 1 := Eq.mp (by kernel_rfl) q57
     replace hS : St w0 w (cells (blkOf (Ep5 32)) 9 [.string ((⟨#[105]⟩ : ByteArray) ++ q1s)] :: ro ρ :: vec 9 RpS.sz (.slice q0o q0n.length c_b13_0_L3h) q0n.length q1a :: l') := Eq.mp (by kernel_rfl) hS
     refine o_ap sl_26 zero_9 rfl (by decide) q56 q57 (hS.pull 2) q2s (src_blk usl_26 hS rfl rfl) (RepL.cons (R := RpS) (ρ := ρ) (x := (⟨#[105]⟩ : ByteArray) ++ q1s) (cs := [.string ((⟨#[105]⟩ : ByteArray) ++ q1s)]) rfl RepL.nil) q93 q94 (fun A33 c33 cs33 w' hr33 hS => ?_)
     refine x_done <| ?_
     refine x_fin ⟨⟨_, rfl⟩, rfl, ?_⟩
     replace hS := St.bun (Φ := (fun (cs33 : List Value) => RepL RpS ρ q1l cs33)) (L := (fun (cs33 : List Value) => [vec 9 RpS.sz (.slice A33 q1l.length c33) q1l.length cs33])) cs33 hr33 hS
     exact Eq.mp (by kernel_rfl) ((hS.pull 2).pull 2)
    ·intro Ep5 w l' hE5 hO5 hF_ hS
     refine p (yl_field0 fld_30_0 ((hE5 13 rfl).trans q3g)) <| x_done <| ?_
     refine x_fin ⟨⟨_, rfl⟩, rfl, ?_⟩
     exact Eq.mp (by kernel_rfl) hS
    ·intro Ep5 w l' hE5 hO5 hF_ hS
     obtain ⟨q58, q59, -⟩ := hF_
     replace q58 : Ep5 33 = .slice (adOf (Ep5 33)) q1l.length (capOf (Ep5 33)) := Eq.mp (by kernel_rfl) q58
     replace q59 : Ep5 34 = .pointer (some ⟨b13, 0, none⟩) := Eq.mp (by kernel_rfl) q59
     replace hS : St w0 w (cells b13 30 [.slice q0o q0n.length c_b13_0_L3h, .slice none 0 0, .slice none 0 0, .slice none 0 0, .slice none 0 0] :: l') := Eq.mp (by kernel_rfl) hS
     refine o_store1 (v := .slice (adOf (Ep5 33)) q1l.length (capOf (Ep5 33))) one_26 q59 q58 rfl rfl hS (fun w' hS => ?_)
     refine x_done <| ?_
     refine x_fin ⟨⟨undef, rfl⟩, trivial, ?_⟩
     exact Eq.mp (by kernel_rfl) hS
   intro Ep5 w' hE5 hF_ hS
   obtain ⟨q52, q56, q53, q54, q55, q57, q58, q59, -⟩ := hF_
   replace q52 : Ep5 27 = .pointer (some ⟨b13, 0, none⟩) := Eq.mp (by kernel_rfl) q52
   replace q56 : Ep5 28 = .slice q0o q0n.length c_b13_0_L3h := Eq.mp (by kernel_rfl) q56
   replace q53 : Ep5 29 = .int .i64 q20 := Eq.mp (by kernel_rfl) q53
   replace q54 : Ep5 30 = .string q1s := Eq.mp (by kernel_rfl) q54
   replace q55 : Ep5 31 = .string ((⟨#[105]⟩ : ByteArray) ++ q1s) := Eq.mp (by kernel_rfl) q55
   replace q57 : Ep5 32 = .slice (some ⟨(blkOf (Ep5 32)), 0, none⟩) 1 1 := Eq.mp (by kernel_rfl) q57
   replace q58 : Ep5 33 = .slice (adOf (Ep5 33)) q1l.length (capOf (Ep5 33)) := Eq.mp (by kernel_rfl) q58
   replace q59 : Ep5 34 = .pointer (some ⟨b13, 0, none⟩) := Eq.mp (by kernel_rfl) q59
   replace hS : St w0 w' (ro ρ :: cells (blkOf (Ep5 32)) 9 [.string ((⟨#[105]⟩ : ByteArray) ++ q1s)] :: bunA (fun (cs33 : List Value) => RepL RpS ρ q1l cs33) (fun (cs33 : List Value) => [vec 9 RpS.sz (.slice (adOf (Ep5 33)) q1l.length (capOf (Ep5 33))) q1l.length cs33]) :: cells b13 30 [.slice (adOf (Ep5 33)) q1l.length (capOf (Ep5 33)), .slice none 0 0, .slice none 0 0, .slice none 0 0, .slice none 0 0] :: (cells b6 23 [.pointer (some ⟨q6, 0, none⟩)] :: cells b12 30 [.slice none 0 0, .slice none 0 0, .slice none 0 0, .slice none 0 0, .slice none 0 0] :: cells q6 25 [.slice q0d s0.L.length c_s0_0, .int .i64 s0.fat] :: l)) := Eq.mp (by kernel_rfl) hS
   have q_ := St.unbun (hS.pull 2); obtain ⟨cs33, hr33, hS⟩ := q_
   replace hFL3 := ar_s hFL3; obtain ⟨x35, hx35, hFL3⟩ := hFL3
   refine x_blk <| x_region <| p (yadd ((hE5 24 rfl).trans q51) rfl hx35) <| p (yl_move rfl) <|
    x_done <| ?_
   have e_ := Option.some.inj (show some _ = some _ from hFL3); subst e_
   exact x_inv ⟨kL3, Nat.lt_succ_self _, (adOf (Ep5 33)), q1l.length, (capOf (Ep5 33)), cs33, x35, q1l, hLL3, ((hE5 1 rfl).trans q6c), ((hE5 2 rfl).trans q6d), ((hE5 3 rfl).trans q6e), ((hE5 4 rfl).trans q6f), ((hE5 5 rfl).trans q6g), ((hE5 6 rfl).trans q6h), ((hE5 12 rfl).trans q5w), ((hE5 13 rfl).trans q3g), ((hE5 23 rfl).trans q5x), rfl, hr33, (((((((hS.pull 2).drop.pull 1).pull 1).pull 5).pull 3).pull 5).pull 5)⟩
  ·replace hFL3 := it_f hc25 hFL3
   refine x_exitTo _ rfl <| ?_
   have e_ := Option.some.inj (show some _ = some _ from hFL3); subst e_
   exact x_inv ⟨q0o, q0n.length, c_b13_0_L3h, q1a, q0n, hLL3, q6c, q6d, q6e, q6f, q6g, q6h, q5w, q3g, q2s, ((((((hS.pull 5).pull 5).pull 5).pull 5).pull 5).pull 5)⟩
 rintro E w ⟨q3, q2b, c_b13_0_L3, q0a, q2, rfl, q95, q96, q6o, q6p, q97, q6q, q7u, q7v, q50, hS⟩
 have e_ := St.vec_n (hS.pull 4) q50; subst e_
 replace hF := ar_s hF; obtain ⟨x37, hx37, hF⟩ := hF
 replace hF := ar_s hF; obtain ⟨x39, hx39, hF⟩ := hF
 refine x_seq <| x_region <| p (yl_move q96) <| p (yadd rfl rfl hx37) <|
  p (yl_move q6o) <| p (yadd rfl rfl hx39) <| p (yl_assign rfl) <| x_done <|
  x_seq <| x_region <| p (v := .func (.func 103) #[] #[.pointer (some ⟨b6, 0, none⟩)]) (yl_makeFunc (by simp only [List.map_toArray, List.map_nil]) (by simp only [List.map_toArray, List.map_cons, List.map_nil]; exact arr1 q6q)) <| p (v := .func (.func 103) #[] #[.pointer (some ⟨b6, 0, none⟩)]) (yl_assign rfl) <|
  x_done <| x_seq <| x_seq <| x_region <|
  p (yl_move q6p) <| p (yl_move rfl) <| x_done <| ?_
 replace hF := bd_s hF; obtain ⟨oL10, hLL10, hF⟩ := hF
 refine x_join (fun E w => ∃ (q9 : Heap) (q5 : Option Addr) (q25 : Nat) (c_b13_3_L10 : Nat) (q0h : List Value) (q4 : List T_api_Gate) (q2c : Int), (q4, q2c) = oL10 ∧ Le ρ q9 ∧ E 3 = .int .i64 flops3 ∧ E 4 = .int .i64 gates4 ∧ E 5 = .int .i64 outs5 ∧ E 6 = .pointer (some ⟨b6, 0, none⟩) ∧ E 12 = .pointer (some ⟨b12, 0, none⟩) ∧ E 13 = .pointer (some ⟨b13, 0, none⟩) ∧ E 15 = .int .i64 x39 ∧ E 16 = .func (.func 103) #[] #[.pointer (some ⟨b6, 0, none⟩)] ∧ RepL R_api_Gate q9 q4 q0h ∧ St w0 w (cells b6 23 [.pointer (some ⟨q6, 0, none⟩)] :: cells b12 30 [.slice none 0 0, .slice none 0 0, .slice none 0 0, .slice none 0 0, .slice none 0 0] :: cells b13 30 [.slice q3 q2.length c_b13_0_L3, .slice none 0 0, .slice none 0 0, .slice q5 q25 c_b13_3_L10, .slice none 0 0] :: cells q6 25 [.slice q0d s0.L.length c_s0_0, .int .i64 q2c] :: vec 9 RpS.sz (.slice q3 q2.length c_b13_0_L3) q2.length q0a :: vec 38 R_api_Gate.sz (.slice q5 q25 c_b13_3_L10) q25 q0h :: ro q9 :: l)) ?_ ?_
 ·refine x_block ?_
  replace hS := St.vec_nil hS 38 R_api_Gate.sz
  have q4b : RepL R_api_Gate ρ [] [] := rfl
  refine x_loop (fun k_ E w => ∃ (q0s : Heap) (q0p : Option Addr) (q1t : Nat) (c_b13_3_L10h : Nat) (q0x : List Value) (q10 : Int) (q0j : List T_api_Gate) (q26 : Int), lp (P_maskmake_Stream_Placed_L10 s0 l_1 gates4 x39) k_ (q10, q0j, q26) = some oL10 ∧ Le ρ q0s ∧ E 1 = .slice q32 l_1.length c_l_1 ∧ E 3 = .int .i64 flops3 ∧ E 4 = .int .i64 gates4 ∧ E 5 = .int .i64 outs5 ∧ E 6 = .pointer (some ⟨b6, 0, none⟩) ∧ E 12 = .pointer (some ⟨b12, 0, none⟩) ∧ E 13 = .pointer (some ⟨b13, 0, none⟩) ∧ E 15 = .int .i64 x39 ∧ E 16 = .func (.func 103) #[] #[.pointer (some ⟨b6, 0, none⟩)] ∧ E 41 = .int .i64 gates4 ∧ E 42 = .int .i64 q10 ∧ RepL R_api_Gate q0s q0j q0x ∧ St w0 w (cells b6 23 [.pointer (some ⟨q6, 0, none⟩)] :: cells b12 30 [.slice none 0 0, .slice none 0 0, .slice none 0 0, .slice none 0 0, .slice none 0 0] :: cells b13 30 [.slice q3 q2.length c_b13_0_L3, .slice none 0 0, .slice none 0 0, .slice q0p q1t c_b13_3_L10h, .slice none 0 0] :: cells q6 25 [.slice q0d s0.L.length c_s0_0, .int .i64 q26] :: vec 9 RpS.sz (.slice q3 q2.length c_b13_0_L3) q2.length q0a :: vec 38 R_api_Gate.sz (.slice q0p q1t c_b13_3_L10h) q1t q0x :: ro q0s :: l)) fuel ⟨ρ, none, 0, 0, [], 0, [], s0.fat, hLL10, (Le.refl _), q95, q6o, q6p, q97, q6q, q7u, q7v, rfl, rfl, rfl, rfl, q4b, (((((((hS.pull 6).pull 1).pull 6).pull 6).pull 6).pull 6).pull 6)⟩ ?_
  rintro kL10 E w ⟨q0s, q0p, q1t, c_b13_3_L10h, q0x, q10, q0j, q26, hLL10, q1b, q5a, q5y, q5z, q60, q5b, q5g, q5h, q5i, q5j, q5k, q4r, q2k, hS⟩
  have e_ := St.vec_n (hS.pull 5) q2k; subst e_
  replace hLL10 := lp_s hLL10; obtain ⟨kL10, obL10, rfl, hFL10, hLL10⟩ := hLL10
  refine x_seq <| x_region <| p (yl_lss q4r q5k) <| x_done <|
   x_seq <|
   x_cond_p (q10 < gates4) rfl (fun hc43 => ?_) (fun hc43 => ?_)
  ·replace hFL10 := it_t hc43 hFL10
   replace hFL10 := bd_s hFL10; obtain ⟨q15, q7w, hFL10⟩ := hFL10
   refine x_skip <| x_seq <| x_block <| x_seq <|
    x_region <| p (yl_move q4r) <| p (yl_assign rfl) <| x_done <|
    x_seq <| x_region <| pa (at_load one_23 q5b (hS.cell rfl)) <| ?_
   have hcall := c_maskmake_Stream_Next q7w (q1r.le q1b) ((hS.pull 6).pull 4)
   refine o_cc call_13 (args2 rfl rfl) hcall ?_
   rintro e w' ⟨rfl, hS⟩
   refine ⟨_, rfl, ?_⟩
   replace hFL10 := ck_s hFL10; obtain ⟨q6i, hFL10⟩ := hFL10
   replace hFL10 := lv_s hFL10; obtain ⟨q19, q7x, hFL10⟩ := hFL10
   have q_ := q4u.get q6i; obtain ⟨q9q, q6j, q7y⟩ := q_
   rw [← q7x] at q6j
   obtain ⟨q98, q99, q9a, q9b, q9c, q9d, q9e, q9f, q9g, rfl, q6t, q6u, q6v⟩ := q6j
   have e_ := q6t.n; subst e_
   have e_ := q6u.n; subst e_
   have e_ := q6v.n; subst e_
   refine p (yl_assign rfl) <| x_done <| x_seq <| x_region <|
    p (yl_move rfl) <| p (yl_move q5a) <| p (yl_move rfl) <| p (yix_f sl_31 rfl rfl (q4u.le q1b) q6i) <|
    p (yl_fieldAddr fld_206_3 rfl) <| pa (at_load one_35 rfl (Elt.ld (j := 3) (Elt.le q7y q1b) (hS.pull 1) rfl)) <| p (v := .agg #[.int .i64 q15.1, .int .u64 q19.Table, .slice none 0 0]) (yl_build bld_38 bldf_38 (parts_eq (pt (va := .int .i64 q15.1) rfl (pt (va := .int .u64 q19.Table) rfl pt0))) (by kernel_rfl)) <| ?_
   refine o_alloc zero_38 hS (fun b19 w' hS => ?_)
   refine o_storeAgg (news := [.int .i64 q15.1, .int .u64 q19.Table, .slice none 0 0]) agg_38 rfl rfl rfl (by simp [over_length]) hS (fun w' hS => ?_)
   replace hFL10 := ck_s hFL10; obtain ⟨q6k, hFL10⟩ := hFL10
   replace hFL10 := lv_s hFL10; obtain ⟨q68, q7z, hFL10⟩ := hFL10
   have q_ := q4u.get q6k; obtain ⟨q9r, q6l, q80⟩ := q_
   rw [← q7z] at q6l
   obtain ⟨q9h, q9i, q9j, q9k, q9l, q9m, q9n, q9o, q9p, rfl, q6w, q6x, q6y⟩ := q6l
   have e_ := q6w.n; subst e_
   have e_ := q6x.n; subst e_
   have e_ := q6y.n; subst e_
   refine x_done <| x_seq <| x_seq <| x_region <|
    p (yl_move q5a) <| p (yl_move rfl) <| p (yix_f sl_31 rfl rfl (q4u.le q1b) q6k) <| p (yl_fieldAddr fld_206_2 rfl) <|
    pa (at_load one_3 rfl (Elt.ld (j := 2) (Elt.le q80 q1b) (hS.pull 2) rfl)) <| p (yl_move rfl) <| x_done <| ?_
   replace hFL10 := bd_s hFL10; obtain ⟨oL15, hLL15, hFL10⟩ := hFL10
   refine x_join (fun E w => ∃ (q0z : Option Addr) (q27 : Nat) (c_b19_2_L15 : Nat) (q2l : List Value) (q16 : List Int) (q2d : Int), (q16, q2d) = oL15 ∧ E 1 = .slice q32 l_1.length c_l_1 ∧ E 3 = .int .i64 flops3 ∧ E 4 = .int .i64 gates4 ∧ E 5 = .int .i64 outs5 ∧ E 6 = .pointer (some ⟨b6, 0, none⟩) ∧ E 12 = .pointer (some ⟨b12, 0, none⟩) ∧ E 13 = .pointer (some ⟨b13, 0, none⟩) ∧ E 15 = .int .i64 x39 ∧ E 16 = .func (.func 103) #[] #[.pointer (some ⟨b6, 0, none⟩)] ∧ E 19 = .pointer (some ⟨b19, 0, none⟩) ∧ E 41 = .int .i64 gates4 ∧ E 42 = .int .i64 q10 ∧ RepL (RpI .i64) q0s q16 q2l ∧ St w0 w (cells b6 23 [.pointer (some ⟨q6, 0, none⟩)] :: cells b12 30 [.slice none 0 0, .slice none 0 0, .slice none 0 0, .slice none 0 0, .slice none 0 0] :: cells b13 30 [.slice q3 q2.length c_b13_0_L3, .slice none 0 0, .slice none 0 0, .slice q0p q0j.length c_b13_3_L10h, .slice none 0 0] :: cells b19 38 [.int .i64 q15.1, .int .u64 q19.Table, .slice q0z q27 c_b19_2_L15] :: cells q6 25 [.slice q0d s0.L.length c_s0_0, .int .i64 q2d] :: vec 9 RpS.sz (.slice q3 q2.length c_b13_0_L3) q2.length q0a :: vec 38 R_api_Gate.sz (.slice q0p q0j.length c_b13_3_L10h) q0j.length q0x :: vec 3 (RpI .i64).sz (.slice q0z q27 c_b19_2_L15) q27 q2l :: ro q0s :: l)) ?_ ?_
   ·refine x_block ?_
    replace hS := St.vec_nil hS 3 (RpI .i64).sz
    have q4c : RepL (RpI .i64) q0s [] [] := rfl
    refine x_loop (fun k_ E w => ∃ (q0i : Option Addr) (q1u : Nat) (c_b19_2_L15h : Nat) (q12 : List Value) (q38 : Int) (q0g : List Int) (q1d : Int), lp (P_maskmake_Stream_Placed_L15 s0 x39 q68 q10) k_ (q38, q0g, q1d) = some oL15 ∧ E 1 = .slice q32 l_1.length c_l_1 ∧ E 3 = .int .i64 flops3 ∧ E 4 = .int .i64 gates4 ∧ E 5 = .int .i64 outs5 ∧ E 6 = .pointer (some ⟨b6, 0, none⟩) ∧ E 12 = .pointer (some ⟨b12, 0, none⟩) ∧ E 13 = .pointer (some ⟨b13, 0, none⟩) ∧ E 15 = .int .i64 x39 ∧ E 16 = .func (.func 103) #[] #[.pointer (some ⟨b6, 0, none⟩)] ∧ E 17 = .int .i64 q10 ∧ E 19 = .pointer (some ⟨b19, 0, none⟩) ∧ E 41 = .int .i64 gates4 ∧ E 42 = .int .i64 q10 ∧ E 58 = .int .i64 q68.Ins ∧ E 59 = .int .i64 q38 ∧ RepL (RpI .i64) q0s q0g q12 ∧ St w0 w (cells b6 23 [.pointer (some ⟨q6, 0, none⟩)] :: cells b12 30 [.slice none 0 0, .slice none 0 0, .slice none 0 0, .slice none 0 0, .slice none 0 0] :: cells b13 30 [.slice q3 q2.length c_b13_0_L3, .slice none 0 0, .slice none 0 0, .slice q0p q0j.length c_b13_3_L10h, .slice none 0 0] :: cells b19 38 [.int .i64 q15.1, .int .u64 q19.Table, .slice q0i q1u c_b19_2_L15h] :: cells q6 25 [.slice q0d s0.L.length c_s0_0, .int .i64 q1d] :: vec 9 RpS.sz (.slice q3 q2.length c_b13_0_L3) q2.length q0a :: vec 38 R_api_Gate.sz (.slice q0p q0j.length c_b13_3_L10h) q0j.length q0x :: vec 3 (RpI .i64).sz (.slice q0i q1u c_b19_2_L15h) q1u q12 :: ro q0s :: l)) fuel ⟨none, 0, 0, [], 0, [], q15.2, hLL15, q5a, q5y, q5z, q60, q5b, q5g, q5h, q5i, q5j, rfl, rfl, q5k, q4r, rfl, rfl, q4c, (((((((((hS.pull 3).pull 1).pull 8).pull 8).pull 5).pull 5).pull 8).pull 8).pull 8)⟩ ?_
    rintro kL15 E w ⟨q0i, q1u, c_b19_2_L15h, q12, q38, q0g, q1d, hLL15, q61, q62, q63, q64, q65, q5l, q5m, q4s, q4t, q5n, q39, q5o, q5p, q5q, q5r, q2m, hS⟩
    have e_ := St.vec_n (hS.pull 7) q2m; subst e_
    replace hLL15 := lp_s hLL15; obtain ⟨kL15, obL15, rfl, hFL15, hLL15⟩ := hLL15
    refine x_seq <| x_region <| p (yl_lss q5r q5q) <| x_done <|
     x_seq <|
     x_cond_p (q38 < q68.Ins) rfl (fun hc60 => ?_) (fun hc60 => ?_)
    ·replace hFL15 := it_t hc60 hFL15
     refine x_skip <| x_seq <| x_block <| ?_
     replace hFL15 := ar_s hFL15; obtain ⟨x66, hx66, hFL15⟩ := hFL15
     replace hFL15 := bd_s hFL15; obtain ⟨q1i, q81, hFL15⟩ := hFL15
     replace hFL15 := lv_s hFL15; obtain ⟨q17, q82, hFL15⟩ := hFL15
     replace hFL15 := ck_s hFL15; obtain ⟨q83, hFL15⟩ := hFL15
     refine x_par (w0 := w0) [⟨[], [], [61], [], [], []⟩, ⟨[0], [0], [62], [0], [], []⟩, ⟨[], [], [63], [], [], []⟩, ⟨[], [], [64], [], [], []⟩, ⟨[], [], [65], [], [], []⟩, ⟨[3, 4], [3, 4], [66], [], [], []⟩, ⟨[2, 3, 4, 5], [2, 5], [67], [1, 3], [2], [4]⟩, ⟨[2, 3, 4, 5, 6], [6], [68], [], [], [5]⟩, ⟨[0, 1, 2, 3, 4, 5, 6, 7], [1, 7], [69], [5, 3], [6], [7]⟩, ⟨[0, 1, 2, 3, 4, 5, 6, 7, 8], [], [70], [], [], []⟩, ⟨[0, 1, 2, 3, 4, 5, 6, 7, 8, 9], [8, 9], [], [], [0], [8]⟩] [⟨none, (some 10), []⟩, ⟨none, none, []⟩, ⟨none, (some 6), []⟩, ⟨none, none, []⟩, ⟨(some 6), none, []⟩, ⟨(some 7), none, [68]⟩, ⟨none, (some 8), []⟩, ⟨(some 8), none, [69]⟩, ⟨(some 10), none, [69]⟩] [61, 62, 63, 64, 65, 66, 67, 68, 69, 70] [0, 1, 2, 3, 6] [1, 3, 4, 5, 7, 8] [0, 1, 2, 3, 4, 5, 6, 7, 8, 9] [fun Ep16 => Ep16 61 = .pointer (some ⟨b19, 2, none⟩), fun Ep16 => Ep16 62 = .slice q0i q0g.length c_b19_2_L15h, fun Ep16 => Ep16 63 = .func (.func 103) #[] #[.pointer (some ⟨b6, 0, none⟩)], fun Ep16 => Ep16 64 = .int .i64 x39, fun Ep16 => Ep16 65 = .int .i64 q10, fun Ep16 => Ep16 66 = .int .i64 x66, fun Ep16 => Ep16 67 = .int .i64 q1i.1, fun Ep16 => Ep16 68 = .slice (some ⟨(blkOf (Ep16 68)), 0, none⟩) 1 1, fun Ep16 => Ep16 69 = .slice (adOf (Ep16 69)) q17.length (capOf (Ep16 69)), fun Ep16 => Ep16 70 = .pointer (some ⟨b19, 2, none⟩), fun Ep16 => True] [fun Ep16 => cells b19 38 [.int .i64 q15.1, .int .u64 q19.Table, .slice q0i q0g.length c_b19_2_L15h], fun Ep16 => cells b6 23 [.pointer (some ⟨q6, 0, none⟩)], fun Ep16 => cells q6 25 [.slice q0d s0.L.length c_s0_0, .int .i64 q1d], fun Ep16 => ro q0s, fun Ep16 => cells q6 25 [.slice q0d s0.L.length c_s0_0, .int .i64 q1i.2], fun Ep16 => cells (blkOf (Ep16 68)) 3 [.int .i64 q1i.1], fun Ep16 => vec 3 (RpI .i64).sz (.slice q0i q0g.length c_b19_2_L15h) q0g.length q12, fun Ep16 => bunA (fun (cs69 : List Value) => RepL (RpI .i64) q0s q17 cs69) (fun (cs69 : List Value) => [vec 3 (RpI .i64).sz (.slice (adOf (Ep16 69)) q17.length (capOf (Ep16 69))) q17.length cs69]), fun Ep16 => cells b19 38 [.int .i64 q15.1, .int .u64 q19.Table, .slice (adOf (Ep16 69)) q17.length (capOf (Ep16 69))]] mixed (by kernel_rfl) (((((hS.pull 7).pull 8).pull 6).pull 3).pull 6) ?_ ?_
     ·refine ⟨?_, ?_, ?_, ?_, ?_, ?_, ?_, ?_, ?_, ?_, ?_, trivial⟩
      ·intro Ep16 w l' hE16 hO16 hF_ hS
       refine p (yl_field0 fld_38_2 ((hE16 19 rfl).trans q39)) <| x_done <| ?_
       refine x_fin ⟨⟨_, rfl⟩, rfl, ?_⟩
       exact Eq.mp (by kernel_rfl) hS
      ·intro Ep16 w l' hE16 hO16 hF_ hS
       obtain ⟨q3h, -⟩ := hF_
       replace q3h : Ep16 61 = .pointer (some ⟨b19, 2, none⟩) := Eq.mp (by kernel_rfl) q3h
       replace hS : St w0 w (cells b19 38 [.int .i64 q15.1, .int .u64 q19.Table, .slice q0i q0g.length c_b19_2_L15h] :: l') := Eq.mp (by kernel_rfl) hS
       refine pa (at_load one_22 q3h (hS.cell rfl)) <| x_done <| ?_
       refine x_fin ⟨⟨_, rfl⟩, rfl, ?_⟩
       exact Eq.mp (by kernel_rfl) hS
      ·intro Ep16 w l' hE16 hO16 hF_ hS
       refine p (yl_move ((hE16 16 rfl).trans q4t)) <| x_done <| ?_
       refine x_fin ⟨⟨_, rfl⟩, rfl, ?_⟩
       exact Eq.mp (by kernel_rfl) hS
      ·intro Ep16 w l' hE16 hO16 hF_ hS
       refine p (yl_move ((hE16 15 rfl).trans q4s)) <| x_done <| ?_
       refine x_fin ⟨⟨_, rfl⟩, rfl, ?_⟩
       exact Eq.mp (by kernel_rfl) hS
      ·intro Ep16 w l' hE16 hO16 hF_ hS
       refine p (yl_move ((hE16 17 rfl).trans q5n)) <| x_done <| ?_
       refine x_fin ⟨⟨_, rfl⟩, rfl, ?_⟩
       exact Eq.mp (by kernel_rfl) hS
      ·intro Ep16 w l' hE16 hO16 hF_ hS
       obtain ⟨q3i, q3j, -⟩ := hF_
       replace q3i : Ep16 64 = .int .i64 x39 := Eq.mp (by kernel_rfl) q3i
       replace q3j : Ep16 65 = .int .i64 q10 := Eq.mp (by kernel_rfl) q3j
       refine p (yadd q3i q3j hx66) <| x_done <| ?_
       refine x_fin ⟨⟨_, rfl⟩, rfl, ?_⟩
       exact Eq.mp (by kernel_rfl) hS
      ·intro Ep16 w l' hE16 hO16 hF_ hS
       obtain ⟨q3k, q3l, -⟩ := hF_
       replace q3k : Ep16 63 = .func (.func 103) #[] #[.pointer (some ⟨b6, 0, none⟩)] := Eq.mp (by kernel_rfl) q3k
       replace q3l : Ep16 66 = .int .i64 x66 := Eq.mp (by kernel_rfl) q3l
       replace hS : St w0 w (cells b6 23 [.pointer (some ⟨q6, 0, none⟩)] :: ro q0s :: cells q6 25 [.slice q0d s0.L.length c_s0_0, .int .i64 q1d] :: l') := Eq.mp (by kernel_rfl) hS
       have hcall := c_maskmake_Stream_Placed_1 q81 (q1r.le q1b) (((hS.pull 1).pull 2).pull 2)
       refine o_ccv q3k call_103 (capargs (args1 q3l)) hcall ?_
       rintro e w' ⟨rfl, hS⟩
       refine ⟨_, rfl, ?_⟩
       refine x_done <| ?_
       refine x_fin ⟨⟨_, rfl⟩, rfl, ?_⟩
       exact Eq.mp (by kernel_rfl) ((hS.pull 2).pull 2)
      ·intro Ep16 w l' hE16 hO16 hF_ hS
       obtain ⟨q3m, -⟩ := hF_
       replace q3m : Ep16 67 = .int .i64 q1i.1 := Eq.mp (by kernel_rfl) q3m
       refine o_buildSlice (vs := [.int .i64 q1i.1]) (cs := [.int .i64 q1i.1]) sl_22 zero_3 (parts_eq (pt (va := .int .i64 q1i.1) q3m pt0)) rfl (by intro v hv; simp only [List.mem_cons, List.not_mem_nil, or_false] at hv; first | (subst hv; rfl) | (rcases hv with rfl <;> rfl)) (by decide) rfl hS (fun b68 w' hS => ?_)
       refine x_done <| ?_
       refine x_fin ⟨⟨_, rfl⟩, rfl, ?_⟩
       exact Eq.mp (by kernel_rfl) hS
      ·intro Ep16 w l' hE16 hO16 hF_ hS
       obtain ⟨q3n, q3o, -⟩ := hF_
       replace q3n : Ep16 62 = .slice q0i q0g.length c_b19_2_L15h := Eq.mp (by kernel_rfl) q3n
       replace q3o : Ep16 68 = .slice (some ⟨(blkOf (Ep16 68)), 0, none⟩) 1 1 := Eq.mp (by kernel_rfl) q3o
       replace hS : St w0 w (cells (blkOf (Ep16 68)) 3 [.int .i64 q1i.1] :: ro q0s :: vec 3 (RpI .i64).sz (.slice q0i q0g.length c_b19_2_L15h) q0g.length q12 :: l') := Eq.mp (by kernel_rfl) hS
       refine o_ap sl_22 zero_3 rfl (by decide) q3n q3o (hS.pull 2) q2m (src_blk usl_22 hS rfl rfl) (RepL.cons (R := (RpI .i64)) (ρ := q0s) (x := q1i.1) (cs := [.int .i64 q1i.1]) rfl RepL.nil) q82 q83 (fun A69 c69 cs69 w' hr69 hS => ?_)
       refine x_done <| ?_
       refine x_fin ⟨⟨_, rfl⟩, rfl, ?_⟩
       replace hS := St.bun (Φ := (fun (cs69 : List Value) => RepL (RpI .i64) q0s q17 cs69)) (L := (fun (cs69 : List Value) => [vec 3 (RpI .i64).sz (.slice A69 q17.length c69) q17.length cs69])) cs69 hr69 hS
       exact Eq.mp (by kernel_rfl) ((hS.pull 2).pull 2)
      ·intro Ep16 w l' hE16 hO16 hF_ hS
       refine p (yl_field0 fld_38_2 ((hE16 19 rfl).trans q39)) <| x_done <| ?_
       refine x_fin ⟨⟨_, rfl⟩, rfl, ?_⟩
       exact Eq.mp (by kernel_rfl) hS
      ·intro Ep16 w l' hE16 hO16 hF_ hS
       obtain ⟨q3p, q3q, -⟩ := hF_
       replace q3p : Ep16 69 = .slice (adOf (Ep16 69)) q17.length (capOf (Ep16 69)) := Eq.mp (by kernel_rfl) q3p
       replace q3q : Ep16 70 = .pointer (some ⟨b19, 2, none⟩) := Eq.mp (by kernel_rfl) q3q
       replace hS : St w0 w (cells b19 38 [.int .i64 q15.1, .int .u64 q19.Table, .slice q0i q0g.length c_b19_2_L15h] :: l') := Eq.mp (by kernel_rfl) hS
       refine o_store1 (v := .slice (adOf (Ep16 69)) q17.length (capOf (Ep16 69))) one_22 q3q q3p rfl rfl hS (fun w' hS => ?_)
       refine x_done <| ?_
       refine x_fin ⟨⟨undef, rfl⟩, trivial, ?_⟩
       exact Eq.mp (by kernel_rfl) hS
     intro Ep16 w' hE16 hF_ hS
     obtain ⟨q3h, q3n, q3k, q3i, q3j, q3l, q3m, q3o, q3p, q3q, -⟩ := hF_
     replace q3h : Ep16 61 = .pointer (some ⟨b19, 2, none⟩) := Eq.mp (by kernel_rfl) q3h
     replace q3n : Ep16 62 = .slice q0i q0g.length c_b19_2_L15h := Eq.mp (by kernel_rfl) q3n
     replace q3k : Ep16 63 = .func (.func 103) #[] #[.pointer (some ⟨b6, 0, none⟩)] := Eq.mp (by kernel_rfl) q3k
     replace q3i : Ep16 64 = .int .i64 x39 := Eq.mp (by kernel_rfl) q3i
     replace q3j : Ep16 65 = .int .i64 q10 := Eq.mp (by kernel_rfl) q3j
     replace q3l : Ep16 66 = .int .i64 x66 := Eq.mp (by kernel_rfl) q3l
     replace q3m : Ep16 67 = .int .i64 q1i.1 := Eq.mp (by kernel_rfl) q3m
     replace q3o : Ep16 68 = .slice (some ⟨(blkOf (Ep16 68)), 0, none⟩) 1 1 := Eq.mp (by kernel_rfl) q3o
     replace q3p : Ep16 69 = .slice (adOf (Ep16 69)) q17.length (capOf (Ep16 69)) := Eq.mp (by kernel_rfl) q3p
     replace q3q : Ep16 70 = .pointer (some ⟨b19, 2, none⟩) := Eq.mp (by kernel_rfl) q3q
     replace hS : St w0 w' (cells b6 23 [.pointer (some ⟨q6, 0, none⟩)] :: ro q0s :: cells q6 25 [.slice q0d s0.L.length c_s0_0, .int .i64 q1i.2] :: cells (blkOf (Ep16 68)) 3 [.int .i64 q1i.1] :: bunA (fun (cs69 : List Value) => RepL (RpI .i64) q0s q17 cs69) (fun (cs69 : List Value) => [vec 3 (RpI .i64).sz (.slice (adOf (Ep16 69)) q17.length (capOf (Ep16 69))) q17.length cs69]) :: cells b19 38 [.int .i64 q15.1, .int .u64 q19.Table, .slice (adOf (Ep16 69)) q17.length (capOf (Ep16 69))] :: (cells b12 30 [.slice none 0 0, .slice none 0 0, .slice none 0 0, .slice none 0 0, .slice none 0 0] :: cells b13 30 [.slice q3 q2.length c_b13_0_L3, .slice none 0 0, .slice none 0 0, .slice q0p q0j.length c_b13_3_L10h, .slice none 0 0] :: vec 9 RpS.sz (.slice q3 q2.length c_b13_0_L3) q2.length q0a :: vec 38 R_api_Gate.sz (.slice q0p q0j.length c_b13_3_L10h) q0j.length q0x :: l)) := Eq.mp (by kernel_rfl) hS
     have q_ := St.unbun (hS.pull 4); obtain ⟨cs69, hr69, hS⟩ := q_
     replace hFL15 := ar_s hFL15; obtain ⟨x71, hx71, hFL15⟩ := hFL15
     refine x_blk <| x_region <| p (yadd ((hE16 59 rfl).trans q5r) rfl hx71) <| p (yl_move rfl) <|
      x_done <| ?_
     have e_ := Option.some.inj (show some _ = some _ from hFL15); subst e_
     exact x_inv ⟨kL15, Nat.lt_succ_self _, (adOf (Ep16 69)), q17.length, (capOf (Ep16 69)), cs69, x71, q17, q1i.2, hLL15, ((hE16 1 rfl).trans q61), ((hE16 3 rfl).trans q62), ((hE16 4 rfl).trans q63), ((hE16 5 rfl).trans q64), ((hE16 6 rfl).trans q65), ((hE16 12 rfl).trans q5l), ((hE16 13 rfl).trans q5m), ((hE16 15 rfl).trans q4s), ((hE16 16 rfl).trans q4t), ((hE16 17 rfl).trans q5n), ((hE16 19 rfl).trans q39), ((hE16 41 rfl).trans q5o), ((hE16 42 rfl).trans q5p), ((hE16 58 rfl).trans q5q), rfl, hr69, ((((((((((hS.pull 4).drop.pull 2).pull 1).pull 8).pull 8).pull 5).pull 6).pull 8).pull 8).pull 8)⟩
    ·replace hFL15 := it_f hc60 hFL15
     refine x_exitTo _ rfl <| ?_
     have e_ := Option.some.inj (show some _ = some _ from hFL15); subst e_
     exact x_inv ⟨q0i, q0g.length, c_b19_2_L15h, q12, q0g, q1d, hLL15, q61, q62, q63, q64, q65, q5l, q5m, q4s, q4t, q39, q5o, q5p, q2m, (((((((((hS.pull 8).pull 8).pull 8).pull 8).pull 8).pull 8).pull 8).pull 8).pull 8)⟩
   rintro E w ⟨q0z, q27, c_b19_2_L15, q2l, q16, q2d, rfl, q84, q85, q86, q87, q88, q6z, q5c, q70, q71, q72, q73, q74, q4l, hS⟩
   have e_ := St.vec_n (hS.pull 7) q4l; subst e_
   refine x_region <| p (yl_field0 fld_30_3 q5c) <| pa (at_load one_28 rfl ((hS.pull 2).cell rfl)) <| pa (v := .agg #[.int .i64 q15.1, .int .u64 q19.Table, .slice q0z q16.length c_b19_2_L15]) (ld_sub agg_38 q72 rfl rfl (hS.pull 3)) <| ?_
   have q_ := St.vec_fz ((hS.pull 8).pull 8) q4l; obtain ⟨q6m, q5s, q89, hS⟩ := q_
   refine o_buildSlice (vs := [.agg #[.int .i64 q15.1, .int .u64 q19.Table, .slice q0z q16.length c_b19_2_L15]]) (cs := [.int .i64 q15.1, .int .u64 q19.Table, .slice q0z q16.length c_b19_2_L15]) sl_28 zero_38 (parts_eq (pt (va := .agg #[.int .i64 q15.1, .int .u64 q19.Table, .slice q0z q16.length c_b19_2_L15]) rfl pt0)) rfl (by intro v hv; simp only [List.mem_cons, List.not_mem_nil, or_false] at hv; first | (subst hv; rfl) | (rcases hv with rfl <;> rfl)) (by decide) rfl hS (fun b75 w' hS => ?_)
   replace hFL10 := lv_s hFL10; obtain ⟨q69, q8a, hFL10⟩ := hFL10
   replace hFL10 := ck_s hFL10; obtain ⟨q8b, hFL10⟩ := hFL10
   refine o_ap sl_28 zero_38 rfl (by decide) rfl rfl (hS.pull 8) (q2k.le q5s) (src_blk usl_28 hS rfl rfl) (RepL.cons (R := R_api_Gate) (ρ := q6m) (x := (T_api_Gate.mk q15.1 q19.Table q16)) (cs := [.int .i64 q15.1, .int .u64 q19.Table, .slice q0z q16.length c_b19_2_L15]) ⟨_, _, _, rfl, q89⟩ RepL.nil) q8a q8b (fun A76 c76 cs76 w' hr76 hS => ?_)
   refine p (yl_field0 fld_30_3 q5c) <| ?_
   refine o_store1 (v := .slice A76 q69.length c76) one_28 rfl rfl rfl rfl (hS.pull 5) (fun w' hS => ?_)
   replace hFL10 := ar_s hFL10; obtain ⟨x78, hx78, hFL10⟩ := hFL10
   refine x_done <| x_blk <| x_region <| p (yadd q74 rfl hx78) <|
    p (yl_move rfl) <| x_done <| ?_
   have e_ := Option.some.inj (show some _ = some _ from hFL10); subst e_
   exact x_inv ⟨kL10, Nat.lt_succ_self _, q6m, A76, q69.length, c76, cs76, x78, q69, q2d, hLL10, (q1b.trans q5s), q84, q85, q86, q87, q88, q6z, q5c, q70, q71, q73, rfl, hr76, (((((((((hS.pull 2).drop.pull 5).drop.pull 2).pull 2).pull 6).pull 6).pull 4).pull 6).pull 6)⟩
  ·replace hFL10 := it_f hc43 hFL10
   refine x_exitTo _ rfl <| ?_
   have e_ := Option.some.inj (show some _ = some _ from hFL10); subst e_
   exact x_inv ⟨q0s, q0p, q0j.length, c_b13_3_L10h, q0x, q0j, q26, hLL10, q1b, q5y, q5z, q60, q5b, q5g, q5h, q5i, q5j, q2k, (((((((hS.pull 6).pull 6).pull 6).pull 6).pull 6).pull 6).pull 6)⟩
 rintro E w ⟨q9, q5, q25, c_b13_3_L10, q0h, q4, q2c, rfl, q1m, q8c, q8d, q8e, q8f, q75, q76, q77, q78, q4m, hS⟩
 have e_ := St.vec_n (hS.pull 5) q4m; subst e_
 refine x_seq <| x_seq <| x_region <| p (yl_move q8c) <|
  p (yl_move rfl) <| x_done <| ?_
 replace hF := bd_s hF; obtain ⟨oL21, hLL21, hF⟩ := hF
 refine x_join (fun E w => ∃ (q7 : Option Addr) (q28 : Nat) (c_b13_2_L21 : Nat) (q11 : List Value) (q8 : List T_api_Flop) (q2e : Int), (q8, q2e) = oL21 ∧ E 4 = .int .i64 gates4 ∧ E 5 = .int .i64 outs5 ∧ E 12 = .pointer (some ⟨b12, 0, none⟩) ∧ E 13 = .pointer (some ⟨b13, 0, none⟩) ∧ E 15 = .int .i64 x39 ∧ E 16 = .func (.func 103) #[] #[.pointer (some ⟨b6, 0, none⟩)] ∧ RepL R_api_Flop q9 q8 q11 ∧ St w0 w (cells b12 30 [.slice none 0 0, .slice none 0 0, .slice none 0 0, .slice none 0 0, .slice none 0 0] :: cells b13 30 [.slice q3 q2.length c_b13_0_L3, .slice none 0 0, .slice q7 q28 c_b13_2_L21, .slice q5 q4.length c_b13_3_L10, .slice none 0 0] :: cells b6 23 [.pointer (some ⟨q6, 0, none⟩)] :: cells q6 25 [.slice q0d s0.L.length c_s0_0, .int .i64 q2e] :: vec 9 RpS.sz (.slice q3 q2.length c_b13_0_L3) q2.length q0a :: vec 135 R_api_Flop.sz (.slice q7 q28 c_b13_2_L21) q28 q11 :: vec 38 R_api_Gate.sz (.slice q5 q4.length c_b13_3_L10) q4.length q0h :: ro q9 :: l)) ?_ ?_
 ·refine x_block ?_
  replace hS := St.vec_nil hS 135 R_api_Flop.sz
  have q4d : RepL R_api_Flop q9 [] [] := rfl
  refine x_loop (fun k_ E w => ∃ (q0q : Option Addr) (q1v : Nat) (c_b13_2_L21h : Nat) (q0y : List Value) (q1c : Int) (q0k : List T_api_Flop) (q1e : Int), lp (P_maskmake_Stream_Placed_L21 s0 flops3 gates4 x39) k_ (q1c, q0k, q1e) = some oL21 ∧ E 4 = .int .i64 gates4 ∧ E 5 = .int .i64 outs5 ∧ E 6 = .pointer (some ⟨b6, 0, none⟩) ∧ E 12 = .pointer (some ⟨b12, 0, none⟩) ∧ E 13 = .pointer (some ⟨b13, 0, none⟩) ∧ E 15 = .int .i64 x39 ∧ E 16 = .func (.func 103) #[] #[.pointer (some ⟨b6, 0, none⟩)] ∧ E 79 = .int .i64 flops3 ∧ E 80 = .int .i64 q1c ∧ RepL R_api_Flop q9 q0k q0y ∧ St w0 w (cells b6 23 [.pointer (some ⟨q6, 0, none⟩)] :: cells b12 30 [.slice none 0 0, .slice none 0 0, .slice none 0 0, .slice none 0 0, .slice none 0 0] :: cells b13 30 [.slice q3 q2.length c_b13_0_L3, .slice none 0 0, .slice q0q q1v c_b13_2_L21h, .slice q5 q4.length c_b13_3_L10, .slice none 0 0] :: cells q6 25 [.slice q0d s0.L.length c_s0_0, .int .i64 q1e] :: vec 9 RpS.sz (.slice q3 q2.length c_b13_0_L3) q2.length q0a :: vec 135 R_api_Flop.sz (.slice q0q q1v c_b13_2_L21h) q1v q0y :: vec 38 R_api_Gate.sz (.slice q5 q4.length c_b13_3_L10) q4.length q0h :: ro q9 :: l)) fuel ⟨none, 0, 0, [], 0, [], q2c, hLL21, q8d, q8e, q8f, q75, q76, q77, q78, rfl, rfl, q4d, ((((((((hS.pull 7).pull 7).pull 2).pull 7).pull 7).pull 7).pull 7).pull 7)⟩ ?_
  rintro kL21 E w ⟨q0q, q1v, c_b13_2_L21h, q0y, q1c, q0k, q1e, hLL21, q2i, q3r, q2j, q3a, q3b, q21, q22, q3c, q2n, q2o, hS⟩
  have e_ := St.vec_n (hS.pull 5) q2o; subst e_
  replace hLL21 := lp_s hLL21; obtain ⟨kL21, obL21, rfl, hFL21, hLL21⟩ := hLL21
  refine x_seq <| x_region <| p (yl_lss q2n q3c) <| x_done <|
   x_seq <|
   x_cond_p (q1c < flops3) rfl (fun hc81 => ?_) (fun hc81 => ?_)
  ·replace hFL21 := it_t hc81 hFL21
   refine x_skip <| x_seq <| x_block <| x_seq <|
    x_region <| p (yl_move q2n) <| p (yl_assign rfl) <| x_done <|
    x_seq <| ?_
   replace hFL21 := bd_s hFL21; obtain ⟨q0r, q8g, hFL21⟩ := hFL21
   replace hFL21 := ck_s hFL21; obtain ⟨q8h, hFL21⟩ := hFL21
   replace hFL21 := ar_s hFL21; obtain ⟨x89, hx89, hFL21⟩ := hFL21
   replace hFL21 := bd_s hFL21; obtain ⟨q0t, q8i, hFL21⟩ := hFL21
   replace hFL21 := bd_s hFL21; obtain ⟨q0u, q8j, hFL21⟩ := hFL21
   refine x_par (w0 := w0) [⟨[], [], [83], [], [], []⟩, ⟨[0], [0], [84], [0], [], []⟩, ⟨[0, 1], [1], [85], [], [], []⟩, ⟨[], [], [86], [], [], []⟩, ⟨[], [], [87], [], [], []⟩, ⟨[], [], [88], [], [], []⟩, ⟨[4, 5], [4, 5], [89], [], [], []⟩, ⟨[0, 1, 3, 4, 5, 6], [3, 6], [90], [1, 0], [2], [3]⟩, ⟨[], [], [91], [1], [], []⟩, ⟨[0, 1, 3, 4, 5, 6, 7, 8], [8], [92], [0], [3], [4]⟩, ⟨[0, 1, 2, 3, 4, 5, 6, 7, 8, 9], [2, 7, 9], [93], [], [], []⟩, ⟨[], [], [21], [], [], [5]⟩, ⟨[0, 1, 2, 3, 4, 5, 6, 7, 8, 9, 10, 11], [10, 11], [], [], [5], [6]⟩] [⟨none, none, []⟩, ⟨none, none, []⟩, ⟨none, (some 7), []⟩, ⟨(some 7), (some 9), []⟩, ⟨(some 9), none, []⟩, ⟨(some 11), (some 12), [21]⟩, ⟨(some 12), none, [21]⟩] [21, 83, 84, 85, 86, 87, 88, 89, 90, 91, 92, 93] [0, 1, 2] [0, 1, 4, 6] [0, 1, 2, 3, 4, 5, 6, 7, 8, 9, 10, 11] [fun Ep23 => Ep23 83 = .int .i64 q1c, fun Ep23 => Ep23 84 = .string q0r, fun Ep23 => Ep23 85 = .string ((⟨#[102]⟩ : ByteArray) ++ q0r), fun Ep23 => Ep23 86 = .func (.func 103) #[] #[.pointer (some ⟨b6, 0, none⟩)], fun Ep23 => Ep23 87 = .int .i64 x39, fun Ep23 => Ep23 88 = .int .i64 gates4, fun Ep23 => Ep23 89 = .int .i64 x89, fun Ep23 => Ep23 90 = .int .i64 q0t.1, fun Ep23 => Ep23 91 = .pointer (some ⟨q6, 0, none⟩), fun Ep23 => Ep23 92 = .bool q0u.1, fun Ep23 => Ep23 93 = .agg #[.string ((⟨#[102]⟩ : ByteArray) ++ q0r), .int .i64 6, .int .i64 q0t.1, .int .i64 1, .bool q0u.1], fun Ep23 => Ep23 21 = .pointer (some ⟨(blkOf (Ep23 21)), 0, none⟩), fun Ep23 => True] [fun Ep23 => ro q9, fun Ep23 => cells b6 23 [.pointer (some ⟨q6, 0, none⟩)], fun Ep23 => cells q6 25 [.slice q0d s0.L.length c_s0_0, .int .i64 q1e], fun Ep23 => cells q6 25 [.slice q0d s0.L.length c_s0_0, .int .i64 q0t.2], fun Ep23 => cells q6 25 [.slice q0d s0.L.length c_s0_0, .int .i64 q0u.2], fun Ep23 => cells (blkOf (Ep23 21)) 135 [.string (⟨#[]⟩ : ByteArray), .int .i64 0, .int .i64 0, .int .i64 0, .bool false], fun Ep23 => cells (blkOf (Ep23 21)) 135 [.string ((⟨#[102]⟩ : ByteArray) ++ q0r), .int .i64 6, .int .i64 q0t.1, .int .i64 1, .bool q0u.1]] mixed (by kernel_rfl) (((hS.pull 3).pull 1).pull 7) ?_ ?_
   ·refine ⟨?_, ?_, ?_, ?_, ?_, ?_, ?_, ?_, ?_, ?_, ?_, ?_, ?_, trivial⟩
    ·intro Ep23 w l' hE23 hO23 hF_ hS
     refine p (yl_move (hE23 20 rfl)) <| x_done <| ?_
     refine x_fin ⟨⟨_, rfl⟩, rfl, ?_⟩
     exact Eq.mp (by kernel_rfl) hS
    ·intro Ep23 w l' hE23 hO23 hF_ hS
     obtain ⟨q3s, -⟩ := hF_
     replace q3s : Ep23 83 = .int .i64 q1c := Eq.mp (by kernel_rfl) q3s
     replace hS : St w0 w (ro q9 :: l') := Eq.mp (by kernel_rfl) hS
     have hcall := c_strconv_Itoa q8g  hS
     refine o_cc call_93 (args1 q3s) (hcall) ?_
     rintro e w' ⟨rfl, hS⟩
     refine ⟨_, rfl, ?_⟩
     refine x_done <| ?_
     refine x_fin ⟨⟨_, rfl⟩, rfl, ?_⟩
     exact Eq.mp (by kernel_rfl) hS
    ·intro Ep23 w l' hE23 hO23 hF_ hS
     obtain ⟨q3t, -⟩ := hF_
     replace q3t : Ep23 84 = .string q0r := Eq.mp (by kernel_rfl) q3t
     refine p (yadds rfl q3t q8h) <| x_done <| ?_
     refine x_fin ⟨⟨_, rfl⟩, rfl, ?_⟩
     exact Eq.mp (by kernel_rfl) hS
    ·intro Ep23 w l' hE23 hO23 hF_ hS
     refine p (yl_move ((hE23 16 rfl).trans q22)) <| x_done <| ?_
     refine x_fin ⟨⟨_, rfl⟩, rfl, ?_⟩
     exact Eq.mp (by kernel_rfl) hS
    ·intro Ep23 w l' hE23 hO23 hF_ hS
     refine p (yl_move ((hE23 15 rfl).trans q21)) <| x_done <| ?_
     refine x_fin ⟨⟨_, rfl⟩, rfl, ?_⟩
     exact Eq.mp (by kernel_rfl) hS
    ·intro Ep23 w l' hE23 hO23 hF_ hS
     refine p (yl_move ((hE23 4 rfl).trans q2i)) <| x_done <| ?_
     refine x_fin ⟨⟨_, rfl⟩, rfl, ?_⟩
     exact Eq.mp (by kernel_rfl) hS
    ·intro Ep23 w l' hE23 hO23 hF_ hS
     obtain ⟨q3u, q3v, -⟩ := hF_
     replace q3u : Ep23 87 = .int .i64 x39 := Eq.mp (by kernel_rfl) q3u
     replace q3v : Ep23 88 = .int .i64 gates4 := Eq.mp (by kernel_rfl) q3v
     refine p (yadd q3u q3v hx89) <| x_done <| ?_
     refine x_fin ⟨⟨_, rfl⟩, rfl, ?_⟩
     exact Eq.mp (by kernel_rfl) hS
    ·intro Ep23 w l' hE23 hO23 hF_ hS
     obtain ⟨q3w, q3x, -⟩ := hF_
     replace q3w : Ep23 86 = .func (.func 103) #[] #[.pointer (some ⟨b6, 0, none⟩)] := Eq.mp (by kernel_rfl) q3w
     replace q3x : Ep23 89 = .int .i64 x89 := Eq.mp (by kernel_rfl) q3x
     replace hS : St w0 w (cells b6 23 [.pointer (some ⟨q6, 0, none⟩)] :: ro q9 :: cells q6 25 [.slice q0d s0.L.length c_s0_0, .int .i64 q1e] :: l') := Eq.mp (by kernel_rfl) hS
     have hcall := c_maskmake_Stream_Placed_1 q8i (q1r.le q1m) (((hS.pull 1).pull 2).pull 2)
     refine o_ccv q3w call_103 (capargs (args1 q3x)) hcall ?_
     rintro e w' ⟨rfl, hS⟩
     refine ⟨_, rfl, ?_⟩
     refine x_done <| ?_
     refine x_fin ⟨⟨_, rfl⟩, rfl, ?_⟩
     exact Eq.mp (by kernel_rfl) ((hS.pull 2).pull 2)
    ·intro Ep23 w l' hE23 hO23 hF_ hS
     replace hS : St w0 w (cells b6 23 [.pointer (some ⟨q6, 0, none⟩)] :: l') := Eq.mp (by kernel_rfl) hS
     refine pa (at_load one_23 ((hE23 6 rfl).trans q2j) (hS.cell rfl)) <| x_done <| ?_
     refine x_fin ⟨⟨_, rfl⟩, rfl, ?_⟩
     exact Eq.mp (by kernel_rfl) hS
    ·intro Ep23 w l' hE23 hO23 hF_ hS
     obtain ⟨q3y, -⟩ := hF_
     replace q3y : Ep23 91 = .pointer (some ⟨q6, 0, none⟩) := Eq.mp (by kernel_rfl) q3y
     replace hS : St w0 w (ro q9 :: cells q6 25 [.slice q0d s0.L.length c_s0_0, .int .i64 q0t.2] :: l') := Eq.mp (by kernel_rfl) hS
     have hcall := c_maskmake_Stream_Flip q8j (q1r.le q1m) (hS.pull 1)
     refine o_cc call_71 (args2 q3y rfl) hcall ?_
     rintro e w' ⟨rfl, hS⟩
     refine ⟨_, rfl, ?_⟩
     refine x_done <| ?_
     refine x_fin ⟨⟨_, rfl⟩, rfl, ?_⟩
     exact Eq.mp (by kernel_rfl) (hS.pull 1)
    ·intro Ep23 w l' hE23 hO23 hF_ hS
     obtain ⟨q3z, q40, q41, -⟩ := hF_
     replace q3z : Ep23 85 = .string ((⟨#[102]⟩ : ByteArray) ++ q0r) := Eq.mp (by kernel_rfl) q3z
     replace q40 : Ep23 90 = .int .i64 q0t.1 := Eq.mp (by kernel_rfl) q40
     replace q41 : Ep23 92 = .bool q0u.1 := Eq.mp (by kernel_rfl) q41
     refine p (v := .agg #[.string ((⟨#[102]⟩ : ByteArray) ++ q0r), .int .i64 6, .int .i64 q0t.1, .int .i64 1, .bool q0u.1]) (yl_build bld_135 bldf_135 (parts_eq (pt (va := .string ((⟨#[102]⟩ : ByteArray) ++ q0r)) q3z (pt (va := .int .i64 6) rfl (pt (va := .int .i64 q0t.1) q40 (pt (va := .int .i64 1) rfl (pt (va := .bool q0u.1) q41 pt0)))))) (by kernel_rfl)) <| x_done <| ?_
     refine x_fin ⟨⟨_, rfl⟩, rfl, ?_⟩
     exact Eq.mp (by kernel_rfl) hS
    ·intro Ep23 w l' hE23 hO23 hF_ hS
     refine o_alloc zero_135 hS (fun b21 w' hS => ?_)
     refine x_done <| ?_
     refine x_fin ⟨⟨_, rfl⟩, rfl, ?_⟩
     exact Eq.mp (by kernel_rfl) hS
    ·intro Ep23 w l' hE23 hO23 hF_ hS
     obtain ⟨q2t, q1n, -⟩ := hF_
     replace q2t : Ep23 93 = .agg #[.string ((⟨#[102]⟩ : ByteArray) ++ q0r), .int .i64 6, .int .i64 q0t.1, .int .i64 1, .bool q0u.1] := Eq.mp (by kernel_rfl) q2t
     replace q1n : Ep23 21 = .pointer (some ⟨(blkOf (Ep23 21)), 0, none⟩) := Eq.mp (by kernel_rfl) q1n
     replace hS : St w0 w (cells (blkOf (Ep23 21)) 135 [.string (⟨#[]⟩ : ByteArray), .int .i64 0, .int .i64 0, .int .i64 0, .bool false] :: l') := Eq.mp (by kernel_rfl) hS
     refine o_storeAgg (news := [.string ((⟨#[102]⟩ : ByteArray) ++ q0r), .int .i64 6, .int .i64 q0t.1, .int .i64 1, .bool q0u.1]) agg_135 q1n q2t rfl (by simp [over_length]) hS (fun w' hS => ?_)
     refine x_done <| ?_
     refine x_fin ⟨⟨undef, rfl⟩, trivial, ?_⟩
     exact Eq.mp (by kernel_rfl) hS
   intro Ep23 w' hE23 hF_ hS
   obtain ⟨q3s, q3t, q3z, q3w, q3u, q3v, q3x, q40, q3y, q41, q2t, q1n, -⟩ := hF_
   replace q3s : Ep23 83 = .int .i64 q1c := Eq.mp (by kernel_rfl) q3s
   replace q3t : Ep23 84 = .string q0r := Eq.mp (by kernel_rfl) q3t
   replace q3z : Ep23 85 = .string ((⟨#[102]⟩ : ByteArray) ++ q0r) := Eq.mp (by kernel_rfl) q3z
   replace q3w : Ep23 86 = .func (.func 103) #[] #[.pointer (some ⟨b6, 0, none⟩)] := Eq.mp (by kernel_rfl) q3w
   replace q3u : Ep23 87 = .int .i64 x39 := Eq.mp (by kernel_rfl) q3u
   replace q3v : Ep23 88 = .int .i64 gates4 := Eq.mp (by kernel_rfl) q3v
   replace q3x : Ep23 89 = .int .i64 x89 := Eq.mp (by kernel_rfl) q3x
   replace q40 : Ep23 90 = .int .i64 q0t.1 := Eq.mp (by kernel_rfl) q40
   replace q3y : Ep23 91 = .pointer (some ⟨q6, 0, none⟩) := Eq.mp (by kernel_rfl) q3y
   replace q41 : Ep23 92 = .bool q0u.1 := Eq.mp (by kernel_rfl) q41
   replace q2t : Ep23 93 = .agg #[.string ((⟨#[102]⟩ : ByteArray) ++ q0r), .int .i64 6, .int .i64 q0t.1, .int .i64 1, .bool q0u.1] := Eq.mp (by kernel_rfl) q2t
   replace q1n : Ep23 21 = .pointer (some ⟨(blkOf (Ep23 21)), 0, none⟩) := Eq.mp (by kernel_rfl) q1n
   replace hS : St w0 w' (ro q9 :: cells b6 23 [.pointer (some ⟨q6, 0, none⟩)] :: cells q6 25 [.slice q0d s0.L.length c_s0_0, .int .i64 q0u.2] :: cells (blkOf (Ep23 21)) 135 [.string ((⟨#[102]⟩ : ByteArray) ++ q0r), .int .i64 6, .int .i64 q0t.1, .int .i64 1, .bool q0u.1] :: (cells b12 30 [.slice none 0 0, .slice none 0 0, .slice none 0 0, .slice none 0 0, .slice none 0 0] :: cells b13 30 [.slice q3 q2.length c_b13_0_L3, .slice none 0 0, .slice q0q q0k.length c_b13_2_L21h, .slice q5 q4.length c_b13_3_L10, .slice none 0 0] :: vec 9 RpS.sz (.slice q3 q2.length c_b13_0_L3) q2.length q0a :: vec 135 R_api_Flop.sz (.slice q0q q0k.length c_b13_2_L21h) q0k.length q0y :: vec 38 R_api_Gate.sz (.slice q5 q4.length c_b13_3_L10) q4.length q0h :: l)) := Eq.mp (by kernel_rfl) hS
   replace hFL21 := bd_s hFL21; obtain ⟨q6r, q8k, hFL21⟩ := hFL21
   refine x_seq <| x_seq <| x_region <| pa (at_load one_23 ((hE23 6 rfl).trans q2j) ((hS.pull 1).cell rfl)) <| ?_
   have hcall := c_maskmake_Stream_Flip q8k (q1r.le q1m) (hS.pull 2)
   refine o_cc call_71 (args2 rfl rfl) hcall ?_
   rintro e w' ⟨rfl, hS⟩
   refine ⟨_, rfl, ?_⟩
   refine x_done <| ?_
   replace hFL21 := bd_s hFL21; obtain ⟨oc95, hFc95, hFL21⟩ := hFL21
   refine x_join (fun E w => ∃ (q3e : Nat) (q0l : Int) (q0m : Int) (q2f : Int), (q0l, q0m, q2f) = oc95 ∧ E 4 = .int .i64 gates4 ∧ E 5 = .int .i64 outs5 ∧ E 6 = .pointer (some ⟨b6, 0, none⟩) ∧ E 12 = .pointer (some ⟨b12, 0, none⟩) ∧ E 13 = .pointer (some ⟨b13, 0, none⟩) ∧ E 15 = .int .i64 x39 ∧ E 16 = .func (.func 103) #[] #[.pointer (some ⟨b6, 0, none⟩)] ∧ E 21 = .pointer (some ⟨q3e, 0, none⟩) ∧ E 79 = .int .i64 flops3 ∧ E 80 = .int .i64 q1c ∧ St w0 w (cells b6 23 [.pointer (some ⟨q6, 0, none⟩)] :: cells b12 30 [.slice none 0 0, .slice none 0 0, .slice none 0 0, .slice none 0 0, .slice none 0 0] :: cells b13 30 [.slice q3 q2.length c_b13_0_L3, .slice none 0 0, .slice q0q q0k.length c_b13_2_L21h, .slice q5 q4.length c_b13_3_L10, .slice none 0 0] :: cells q3e 135 [.string ((⟨#[102]⟩ : ByteArray) ++ q0r), .int .i64 q0l, .int .i64 q0t.1, .int .i64 q0m, .bool q0u.1] :: cells q6 25 [.slice q0d s0.L.length c_s0_0, .int .i64 q2f] :: vec 9 RpS.sz (.slice q3 q2.length c_b13_0_L3) q2.length q0a :: vec 135 R_api_Flop.sz (.slice q0q q0k.length c_b13_2_L21h) q0k.length q0y :: vec 38 R_api_Gate.sz (.slice q5 q4.length c_b13_3_L10) q4.length q0h :: ro q9 :: l)) ?_ ?_
   ·refine x_cond (t := q6r.1) rfl (fun hc95 => ?_) (fun hc95 => ?_)
    ·replace hFc95 := it_t hc95 hFc95
     refine x_seq <| x_region <| p (yl_field0 fld_135_1 q1n) <| ?_
     refine o_store1 (v := .int .i64 7) one_3 rfl rfl rfl rfl (hS.pull 3) (fun w' hS => ?_)
     replace hFc95 := bd_s hFc95; obtain ⟨q6s, q8l, hFc95⟩ := hFc95
     refine x_done <| x_seq <| x_region <| pa (at_load one_23 ((hE23 6 rfl).trans q2j) ((hS.pull 3).cell rfl)) <| ?_
     have hcall := c_maskmake_Stream_Next q8l (q1r.le q1m) ((hS.pull 2).pull 2)
     refine o_cc call_13 (args2 rfl rfl) hcall ?_
     rintro e w' ⟨rfl, hS⟩
     refine ⟨_, rfl, ?_⟩
     refine p (yl_gtr rfl rfl) <| x_done <| ?_
     replace hFc95 := bd_s hFc95; obtain ⟨oc99, hFc99, hFc95⟩ := hFc95
     refine x_join (fun E w => ∃ (q2r : Nat) (q1j : Int) (q2g : Int), (q1j, q2g) = oc99 ∧ E 4 = .int .i64 gates4 ∧ E 5 = .int .i64 outs5 ∧ E 6 = .pointer (some ⟨b6, 0, none⟩) ∧ E 12 = .pointer (some ⟨b12, 0, none⟩) ∧ E 13 = .pointer (some ⟨b13, 0, none⟩) ∧ E 15 = .int .i64 x39 ∧ E 16 = .func (.func 103) #[] #[.pointer (some ⟨b6, 0, none⟩)] ∧ E 21 = .pointer (some ⟨q2r, 0, none⟩) ∧ E 79 = .int .i64 flops3 ∧ E 80 = .int .i64 q1c ∧ St w0 w (cells b6 23 [.pointer (some ⟨q6, 0, none⟩)] :: cells b12 30 [.slice none 0 0, .slice none 0 0, .slice none 0 0, .slice none 0 0, .slice none 0 0] :: cells b13 30 [.slice q3 q2.length c_b13_0_L3, .slice none 0 0, .slice q0q q0k.length c_b13_2_L21h, .slice q5 q4.length c_b13_3_L10, .slice none 0 0] :: cells q2r 135 [.string ((⟨#[102]⟩ : ByteArray) ++ q0r), .int .i64 7, .int .i64 q0t.1, .int .i64 q1j, .bool q0u.1] :: cells q6 25 [.slice q0d s0.L.length c_s0_0, .int .i64 q2g] :: vec 9 RpS.sz (.slice q3 q2.length c_b13_0_L3) q2.length q0a :: vec 135 R_api_Flop.sz (.slice q0q q0k.length c_b13_2_L21h) q0k.length q0y :: vec 38 R_api_Gate.sz (.slice q5 q4.length c_b13_3_L10) q4.length q0h :: ro q9 :: l)) ?_ ?_
     ·refine x_cond_p (0 < q6s.1) rfl (fun hc99 => ?_) (fun hc99 => ?_)
      ·replace hFc99 := it_t hc99 hFc99
       replace hFc99 := ar_s hFc99; obtain ⟨x103, hx103, hFc99⟩ := hFc99
       replace hFc99 := bd_s hFc99; obtain ⟨q6a, q8m, hFc99⟩ := hFc99
       refine x_region <| p (yl_move ((hE23 16 rfl).trans q22)) <| p (yl_move ((hE23 15 rfl).trans q21)) <| p (yl_move ((hE23 4 rfl).trans q2i)) <|
        p (yadd rfl rfl hx103) <| ?_
       have hcall := c_maskmake_Stream_Placed_1 q8m (q1r.le q1m) (((hS.pull 1).pull 1).pull 3)
       refine o_ccv rfl call_103 (capargs (args1 rfl)) hcall ?_
       rintro e w' ⟨rfl, hS⟩
       refine ⟨_, rfl, ?_⟩
       refine p (yl_field0 fld_135_3 q1n) <| ?_
       refine o_store1 (v := .int .i64 q6a.1) one_3 rfl rfl rfl rfl (hS.pull 3) (fun w' hS => ?_)
       refine x_done <| ?_
       exact x_inv ⟨(blkOf (Ep23 21)), q6a.1, q6a.2, (Option.some.inj (show some _ = some _ from hFc99)), ((hE23 4 rfl).trans q2i), ((hE23 5 rfl).trans q3r), ((hE23 6 rfl).trans q2j), ((hE23 12 rfl).trans q3a), ((hE23 13 rfl).trans q3b), ((hE23 15 rfl).trans q21), ((hE23 16 rfl).trans q22), q1n, ((hE23 79 rfl).trans q3c), ((hE23 80 rfl).trans q2n), (((((((((hS.pull 3).pull 8).pull 8).pull 8).pull 5).pull 5).pull 8).pull 8).pull 8)⟩
      ·replace hFc99 := it_f hc99 hFc99
       refine x_skip <| ?_
       exact x_inv ⟨(blkOf (Ep23 21)), 1, q6s.2, (Option.some.inj (show some _ = some _ from hFc99)), ((hE23 4 rfl).trans q2i), ((hE23 5 rfl).trans q3r), ((hE23 6 rfl).trans q2j), ((hE23 12 rfl).trans q3a), ((hE23 13 rfl).trans q3b), ((hE23 15 rfl).trans q21), ((hE23 16 rfl).trans q22), q1n, ((hE23 79 rfl).trans q3c), ((hE23 80 rfl).trans q2n), (((((((((hS.pull 1).pull 8).pull 8).pull 8).pull 4).pull 5).pull 8).pull 8).pull 8)⟩
     rintro E w ⟨q2r, q1j, q2g, rfl, q8n, q8o, q8p, q79, q7a, q7b, q7c, q7d, q7e, q7f, hS⟩
     exact x_inv ⟨q2r, 7, q1j, q2g, (Option.some.inj (show some _ = some _ from hFc95)), q8n, q8o, q8p, q79, q7a, q7b, q7c, q7d, q7e, q7f, (((((((((hS.pull 8).pull 8).pull 8).pull 8).pull 8).pull 8).pull 8).pull 8).pull 8)⟩
    ·replace hFc95 := it_bf hc95 hFc95
     refine x_skip <| ?_
     exact x_inv ⟨(blkOf (Ep23 21)), 6, 1, q6r.2, (Option.some.inj (show some _ = some _ from hFc95)), ((hE23 4 rfl).trans q2i), ((hE23 5 rfl).trans q3r), ((hE23 6 rfl).trans q2j), ((hE23 12 rfl).trans q3a), ((hE23 13 rfl).trans q3b), ((hE23 15 rfl).trans q21), ((hE23 16 rfl).trans q22), q1n, ((hE23 79 rfl).trans q3c), ((hE23 80 rfl).trans q2n), (((((((((hS.pull 1).pull 8).pull 8).pull 8).pull 4).pull 6).pull 8).pull 8).pull 8)⟩
   rintro E w ⟨q3e, q0l, q0m, q2f, rfl, q8q, q8r, q8s, q7g, q5d, q7h, q7i, q7j, q7k, q7l, hS⟩
   refine x_region <| p (yl_field0 fld_30_2 q5d) <| pa (at_load one_27 rfl ((hS.pull 2).cell rfl)) <| pa (v := .agg #[.string ((⟨#[102]⟩ : ByteArray) ++ q0r), .int .i64 q0l, .int .i64 q0t.1, .int .i64 q0m, .bool q0u.1]) (ld_sub agg_135 q7j rfl rfl (hS.pull 3)) <| ?_
   refine o_buildSlice (vs := [.agg #[.string ((⟨#[102]⟩ : ByteArray) ++ q0r), .int .i64 q0l, .int .i64 q0t.1, .int .i64 q0m, .bool q0u.1]]) (cs := [.string ((⟨#[102]⟩ : ByteArray) ++ q0r), .int .i64 q0l, .int .i64 q0t.1, .int .i64 q0m, .bool q0u.1]) sl_27 zero_135 (parts_eq (pt (va := .agg #[.string ((⟨#[102]⟩ : ByteArray) ++ q0r), .int .i64 q0l, .int .i64 q0t.1, .int .i64 q0m, .bool q0u.1]) rfl pt0)) rfl (by intro v hv; simp only [List.mem_cons, List.not_mem_nil, or_false] at hv; first | (subst hv; rfl) | (rcases hv with rfl <;> rfl)) (by decide) rfl hS (fun b109 w' hS => ?_)
   replace hFL21 := lv_s hFL21; obtain ⟨q6b, q8t, hFL21⟩ := hFL21
   replace hFL21 := ck_s hFL21; obtain ⟨q8u, hFL21⟩ := hFL21
   refine o_ap sl_27 zero_135 rfl (by decide) rfl rfl (hS.pull 7) q2o (src_blk usl_27 hS rfl rfl) (RepL.cons (R := R_api_Flop) (ρ := q9) (x := (T_api_Flop.mk ((⟨#[102]⟩ : ByteArray) ++ q0r) q0l q0t.1 q0m q0u.1)) (cs := [.string ((⟨#[102]⟩ : ByteArray) ++ q0r), .int .i64 q0l, .int .i64 q0t.1, .int .i64 q0m, .bool q0u.1]) rfl RepL.nil) q8t q8u (fun A110 c110 cs110 w' hr110 hS => ?_)
   refine p (yl_field0 fld_30_2 q5d) <| ?_
   refine o_store1 (v := .slice A110 q6b.length c110) one_27 rfl rfl rfl rfl (hS.pull 4) (fun w' hS => ?_)
   replace hFL21 := ar_s hFL21; obtain ⟨x112, hx112, hFL21⟩ := hFL21
   refine x_done <| x_blk <| x_region <| p (yadd q7l rfl hx112) <|
    p (yl_move rfl) <| x_done <| ?_
   have e_ := Option.some.inj (show some _ = some _ from hFL21); subst e_
   exact x_inv ⟨kL21, Nat.lt_succ_self _, A110, q6b.length, c110, cs110, x112, q6b, q2f, hLL21, q8q, q8r, q8s, q7g, q5d, q7h, q7i, q7k, rfl, hr110, ((((((((((hS.pull 2).drop.pull 4).drop.pull 7).pull 7).pull 3).pull 7).pull 7).pull 5).pull 7).pull 7)⟩
  ·replace hFL21 := it_f hc81 hFL21
   refine x_exitTo _ rfl <| ?_
   have e_ := Option.some.inj (show some _ = some _ from hFL21); subst e_
   exact x_inv ⟨q0q, q0k.length, c_b13_2_L21h, q0y, q0k, q1e, hLL21, q2i, q3r, q3a, q3b, q21, q22, q2o, ((((((((hS.pull 7).pull 7).pull 7).pull 7).pull 7).pull 5).pull 7).pull 7)⟩
 rintro E w ⟨q7, q28, c_b13_2_L21, q11, q8, q2e, rfl, q8v, q8w, q7m, q7n, q7o, q7p, q4n, hS⟩
 have e_ := St.vec_n (hS.pull 5) q4n; subst e_
 refine x_seq <| x_seq <| x_region <| p (yl_move q8w) <|
  p (yl_move rfl) <| x_done <| ?_
 replace hF := bd_s hF; obtain ⟨oL31, hLL31, hF⟩ := hF
 refine x_join (fun E w => ∃ (q1f : Option Addr) (q29 : Nat) (c_b13_1_L31 : Nat) (q1w : List Value) (q1g : Option Addr) (q2a : Nat) (c_b13_4_L31 : Nat) (q1x : List Value) (q1p : List ByteArray) (q1q : List Int) (q3d : Int), (q1p, q1q, q3d) = oL31 ∧ E 12 = .pointer (some ⟨b12, 0, none⟩) ∧ E 13 = .pointer (some ⟨b13, 0, none⟩) ∧ RepL RpS q9 q1p q1w ∧ RepL (RpI .i64) q9 q1q q1x ∧ St w0 w (cells b12 30 [.slice none 0 0, .slice none 0 0, .slice none 0 0, .slice none 0 0, .slice none 0 0] :: cells b13 30 [.slice q3 q2.length c_b13_0_L3, .slice q1f q29 c_b13_1_L31, .slice q7 q8.length c_b13_2_L21, .slice q5 q4.length c_b13_3_L10, .slice q1g q2a c_b13_4_L31] :: cells q6 25 [.slice q0d s0.L.length c_s0_0, .int .i64 q3d] :: vec 9 RpS.sz (.slice q3 q2.length c_b13_0_L3) q2.length q0a :: vec 9 RpS.sz (.slice q1f q29 c_b13_1_L31) q29 q1w :: vec 135 R_api_Flop.sz (.slice q7 q8.length c_b13_2_L21) q8.length q11 :: vec 38 R_api_Gate.sz (.slice q5 q4.length c_b13_3_L10) q4.length q0h :: vec 3 (RpI .i64).sz (.slice q1g q2a c_b13_4_L31) q2a q1x :: ro q9 :: l)) ?_ ?_
 ·refine x_block ?_
  replace hS := St.vec_nil hS 9 RpS.sz
  have q4e : RepL RpS q9 [] [] := rfl
  replace hS := St.vec_nil hS 3 (RpI .i64).sz
  have q4f : RepL (RpI .i64) q9 [] [] := rfl
  refine x_loop (fun k_ E w => ∃ (q0f : Option Addr) (q1y : Nat) (c_b13_1_L31h : Nat) (q13 : List Value) (q0b : Option Addr) (q1z : Nat) (c_b13_4_L31h : Nat) (q14 : List Value) (q1o : Int) (q0e : List ByteArray) (q0c : List Int) (q1h : Int), lp (P_maskmake_Stream_Placed_L31 s0 gates4 outs5 x39) k_ (q1o, q0e, q0c, q1h) = some oL31 ∧ E 4 = .int .i64 gates4 ∧ E 12 = .pointer (some ⟨b12, 0, none⟩) ∧ E 13 = .pointer (some ⟨b13, 0, none⟩) ∧ E 15 = .int .i64 x39 ∧ E 16 = .func (.func 103) #[] #[.pointer (some ⟨b6, 0, none⟩)] ∧ E 113 = .int .i64 outs5 ∧ E 114 = .int .i64 q1o ∧ RepL RpS q9 q0e q13 ∧ RepL (RpI .i64) q9 q0c q14 ∧ St w0 w (cells b12 30 [.slice none 0 0, .slice none 0 0, .slice none 0 0, .slice none 0 0, .slice none 0 0] :: cells b13 30 [.slice q3 q2.length c_b13_0_L3, .slice q0f q1y c_b13_1_L31h, .slice q7 q8.length c_b13_2_L21, .slice q5 q4.length c_b13_3_L10, .slice q0b q1z c_b13_4_L31h] :: cells b6 23 [.pointer (some ⟨q6, 0, none⟩)] :: cells q6 25 [.slice q0d s0.L.length c_s0_0, .int .i64 q1h] :: vec 9 RpS.sz (.slice q3 q2.length c_b13_0_L3) q2.length q0a :: vec 9 RpS.sz (.slice q0f q1y c_b13_1_L31h) q1y q13 :: vec 135 R_api_Flop.sz (.slice q7 q8.length c_b13_2_L21) q8.length q11 :: vec 38 R_api_Gate.sz (.slice q5 q4.length c_b13_3_L10) q4.length q0h :: vec 3 (RpI .i64).sz (.slice q0b q1z c_b13_4_L31h) q1z q14 :: ro q9 :: l)) fuel ⟨none, 0, 0, [], none, 0, 0, [], 0, [], [], q2e, hLL31, q8v, q7m, q7n, q7o, q7p, rfl, rfl, q4e, q4f, ((((((((((hS.pull 9).pull 1).pull 9).pull 9).pull 4).pull 9).pull 9).pull 9).pull 9).pull 9)⟩ ?_
  rintro kL31 E w ⟨q0f, q1y, c_b13_1_L31h, q13, q0b, q1z, c_b13_4_L31h, q14, q1o, q0e, q0c, q1h, hLL31, q66, q5t, q23, q5u, q5v, q5e, q3f, q2p, q2q, hS⟩
  have e_ := St.vec_n (hS.pull 5) q2p; subst e_
  have e_ := St.vec_n (hS.pull 8) q2q; subst e_
  replace hLL31 := lp_s hLL31; obtain ⟨kL31, obL31, rfl, hFL31, hLL31⟩ := hLL31
  refine x_seq <| x_region <| p (yl_lss q3f q5e) <| x_done <|
   x_seq <|
   x_cond_p (q1o < outs5) rfl (fun hc115 => ?_) (fun hc115 => ?_)
  ·replace hFL31 := it_t hc115 hFL31
   refine x_skip <| x_seq <| x_block <| x_seq <|
    x_region <| p (yl_move q3f) <| p (yl_assign rfl) <| x_done <| ?_
   replace hFL31 := bd_s hFL31; obtain ⟨q1k, q8x, hFL31⟩ := hFL31
   replace hFL31 := ck_s hFL31; obtain ⟨q8y, hFL31⟩ := hFL31
   replace hFL31 := lv_s hFL31; obtain ⟨q0w, q8z, hFL31⟩ := hFL31
   replace hFL31 := ck_s hFL31; obtain ⟨q90, hFL31⟩ := hFL31
   replace hFL31 := ar_s hFL31; obtain ⟨x129, hx129, hFL31⟩ := hFL31
   replace hFL31 := bd_s hFL31; obtain ⟨q18, q7q, hFL31⟩ := hFL31
   replace hFL31 := lv_s hFL31; obtain ⟨q0v, q7r, hFL31⟩ := hFL31
   replace hFL31 := ck_s hFL31; obtain ⟨q7s, hFL31⟩ := hFL31
   refine x_par (w0 := w0) [⟨[], [], [117], [], [], []⟩, ⟨[0], [0], [118], [0], [], []⟩, ⟨[], [], [119], [], [], []⟩, ⟨[2], [2], [120], [1], [], []⟩, ⟨[2, 3], [3], [121], [], [], []⟩, ⟨[2, 3, 4], [4], [122], [], [], [2]⟩, ⟨[0, 1, 2, 3, 4, 5], [1, 5], [123], [2, 1], [3], [4]⟩, ⟨[], [], [124], [], [], []⟩, ⟨[7], [7], [125], [0], [], []⟩, ⟨[], [], [126], [], [], []⟩, ⟨[], [], [127], [], [], []⟩, ⟨[], [], [128], [], [], []⟩, ⟨[10, 11], [10, 11], [129], [], [], []⟩, ⟨[0, 1, 2, 3, 4, 5, 6, 9, 10, 11, 12], [9, 12], [130], [5, 1], [6], [7]⟩, ⟨[0, 1, 2, 3, 4, 5, 6, 9, 10, 11, 12, 13], [13], [131], [], [], [8]⟩, ⟨[0, 1, 2, 3, 4, 5, 6, 7, 8, 9, 10, 11, 12, 13, 14], [8, 14], [132], [8, 1], [9], [10]⟩, ⟨[0, 1, 2, 3, 4, 5, 6, 7, 8], [], [133], [], [], []⟩, ⟨[0, 1, 2, 3, 4, 5, 6, 7, 8, 9, 10, 11, 12, 13, 14, 15, 16], [6, 16], [], [], [0], [11]⟩, ⟨[0, 1, 2, 3, 4, 5, 6, 7, 8, 9, 10, 11, 12, 13, 14, 15, 16, 17], [], [134], [], [], []⟩, ⟨[0, 1, 2, 3, 4, 5, 6, 7, 8, 9, 10, 11, 12, 13, 14, 15, 16, 17, 18], [6, 15, 18], [], [], [11], [12]⟩] [⟨none, (some 17), []⟩, ⟨none, none, []⟩, ⟨(some 5), none, [122]⟩, ⟨none, (some 6), []⟩, ⟨(some 6), none, [123]⟩, ⟨none, none, []⟩, ⟨none, (some 13), []⟩, ⟨(some 13), none, []⟩, ⟨(some 14), none, [131]⟩, ⟨none, (some 15), []⟩, ⟨(some 15), none, [132]⟩, ⟨(some 17), (some 19), [123]⟩, ⟨(some 19), none, [123, 132]⟩] [117, 118, 119, 120, 121, 122, 123, 124, 125, 126, 127, 128, 129, 130, 131, 132, 133, 134] [0, 1, 3, 5, 6, 9] [1, 2, 4, 5, 7, 8, 10, 12] [0, 1, 2, 3, 4, 5, 6, 7, 8, 9, 10, 11, 12, 13, 14, 15, 16, 18] [fun Ep33 => Ep33 117 = .pointer (some ⟨b13, 1, none⟩), fun Ep33 => Ep33 118 = .slice q0f q0e.length c_b13_1_L31h, fun Ep33 => Ep33 119 = .int .i64 q1o, fun Ep33 => Ep33 120 = .string q1k, fun Ep33 => Ep33 121 = .string ((⟨#[111]⟩ : ByteArray) ++ q1k), fun Ep33 => Ep33 122 = .slice (some ⟨(blkOf (Ep33 122)), 0, none⟩) 1 1, fun Ep33 => Ep33 123 = .slice (adOf (Ep33 123)) q0w.length (capOf (Ep33 123)), fun Ep33 => Ep33 124 = .pointer (some ⟨b13, 4, none⟩), fun Ep33 => Ep33 125 = .slice q0b q0c.length c_b13_4_L31h, fun Ep33 => Ep33 126 = .func (.func 103) #[] #[.pointer (some ⟨b6, 0, none⟩)], fun Ep33 => Ep33 127 = .int .i64 x39, fun Ep33 => Ep33 128 = .int .i64 gates4, fun Ep33 => Ep33 129 = .int .i64 x129, fun Ep33 => Ep33 130 = .int .i64 q18.1, fun Ep33 => Ep33 131 = .slice (some ⟨(blkOf (Ep33 131)), 0, none⟩) 1 1, fun Ep33 => Ep33 132 = .slice (adOf (Ep33 132)) q0v.length (capOf (Ep33 132)), fun Ep33 => Ep33 133 = .pointer (some ⟨b13, 1, none⟩), fun Ep33 => True, fun Ep33 => Ep33 134 = .pointer (some ⟨b13, 4, none⟩), fun Ep33 => True] [fun Ep33 => cells b13 30 [.slice q3 q2.length c_b13_0_L3, .slice q0f q0e.length c_b13_1_L31h, .slice q7 q8.length c_b13_2_L21, .slice q5 q4.length c_b13_3_L10, .slice q0b q0c.length c_b13_4_L31h], fun Ep33 => ro q9, fun Ep33 => cells (blkOf (Ep33 122)) 9 [.string ((⟨#[111]⟩ : ByteArray) ++ q1k)], fun Ep33 => vec 9 RpS.sz (.slice q0f q0e.length c_b13_1_L31h) q0e.length q13, fun Ep33 => bunA (fun (cs123 : List Value) => RepL RpS q9 q0w cs123) (fun (cs123 : List Value) => [vec 9 RpS.sz (.slice (adOf (Ep33 123)) q0w.length (capOf (Ep33 123))) q0w.length cs123]), fun Ep33 => cells b6 23 [.pointer (some ⟨q6, 0, none⟩)], fun Ep33 => cells q6 25 [.slice q0d s0.L.length c_s0_0, .int .i64 q1h], fun Ep33 => cells q6 25 [.slice q0d s0.L.length c_s0_0, .int .i64 q18.2], fun Ep33 => cells (blkOf (Ep33 131)) 3 [.int .i64 q18.1], fun Ep33 => vec 3 (RpI .i64).sz (.slice q0b q0c.length c_b13_4_L31h) q0c.length q14, fun Ep33 => bunA (fun (cs132 : List Value) => RepL (RpI .i64) q9 q0v cs132) (fun (cs132 : List Value) => [vec 3 (RpI .i64).sz (.slice (adOf (Ep33 132)) q0v.length (capOf (Ep33 132))) q0v.length cs132]), fun Ep33 => cells b13 30 [.slice q3 q2.length c_b13_0_L3, .slice (adOf (Ep33 123)) q0w.length (capOf (Ep33 123)), .slice q7 q8.length c_b13_2_L21, .slice q5 q4.length c_b13_3_L10, .slice q0b q0c.length c_b13_4_L31h], fun Ep33 => cells b13 30 [.slice q3 q2.length c_b13_0_L3, .slice (adOf (Ep33 123)) q0w.length (capOf (Ep33 123)), .slice q7 q8.length c_b13_2_L21, .slice q5 q4.length c_b13_3_L10, .slice (adOf (Ep33 132)) q0v.length (capOf (Ep33 132))]] mixed (by kernel_rfl) ((((((hS.pull 8).pull 4).pull 4).pull 6).pull 9).pull 6) ?_ ?_
   ·refine ⟨?_, ?_, ?_, ?_, ?_, ?_, ?_, ?_, ?_, ?_, ?_, ?_, ?_, ?_, ?_, ?_, ?_, ?_, ?_, ?_, trivial⟩
    ·intro Ep33 w l' hE33 hO33 hF_ hS
     refine p (yl_field0 fld_30_1 ((hE33 13 rfl).trans q23)) <| x_done <| ?_
     refine x_fin ⟨⟨_, rfl⟩, rfl, ?_⟩
     exact Eq.mp (by kernel_rfl) hS
    ·intro Ep33 w l' hE33 hO33 hF_ hS
     obtain ⟨q42, -⟩ := hF_
     replace q42 : Ep33 117 = .pointer (some ⟨b13, 1, none⟩) := Eq.mp (by kernel_rfl) q42
     replace hS : St w0 w (cells b13 30 [.slice q3 q2.length c_b13_0_L3, .slice q0f q0e.length c_b13_1_L31h, .slice q7 q8.length c_b13_2_L21, .slice q5 q4.length c_b13_3_L10, .slice q0b q0c.length c_b13_4_L31h] :: l') := Eq.mp (by kernel_rfl) hS
     refine pa (at_load one_26 q42 (hS.cell rfl)) <| x_done <| ?_
     refine x_fin ⟨⟨_, rfl⟩, rfl, ?_⟩
     exact Eq.mp (by kernel_rfl) hS
    ·intro Ep33 w l' hE33 hO33 hF_ hS
     refine p (yl_move (hE33 22 rfl)) <| x_done <| ?_
     refine x_fin ⟨⟨_, rfl⟩, rfl, ?_⟩
     exact Eq.mp (by kernel_rfl) hS
    ·intro Ep33 w l' hE33 hO33 hF_ hS
     obtain ⟨q43, -⟩ := hF_
     replace q43 : Ep33 119 = .int .i64 q1o := Eq.mp (by kernel_rfl) q43
     replace hS : St w0 w (ro q9 :: l') := Eq.mp (by kernel_rfl) hS
     have hcall := c_strconv_Itoa q8x  hS
     refine o_cc call_93 (args1 q43) (hcall) ?_
     rintro e w' ⟨rfl, hS⟩
     refine ⟨_, rfl, ?_⟩
     refine x_done <| ?_
     refine x_fin ⟨⟨_, rfl⟩, rfl, ?_⟩
     exact Eq.mp (by kernel_rfl) hS
    ·intro Ep33 w l' hE33 hO33 hF_ hS
     obtain ⟨q44, -⟩ := hF_
     replace q44 : Ep33 120 = .string q1k := Eq.mp (by kernel_rfl) q44
     refine p (yadds rfl q44 q8y) <| x_done <| ?_
     refine x_fin ⟨⟨_, rfl⟩, rfl, ?_⟩
     exact Eq.mp (by kernel_rfl) hS
    ·intro Ep33 w l' hE33 hO33 hF_ hS
     obtain ⟨q45, -⟩ := hF_
     replace q45 : Ep33 121 = .string ((⟨#[111]⟩ : ByteArray) ++ q1k) := Eq.mp (by kernel_rfl) q45
     refine o_buildSlice (vs := [.string ((⟨#[111]⟩ : ByteArray) ++ q1k)]) (cs := [.string ((⟨#[111]⟩ : ByteArray) ++ q1k)]) sl_26 zero_9 (parts_eq (pt (va := .string ((⟨#[111]⟩ : ByteArray) ++ q1k)) q45 pt0)) rfl (by intro v hv; simp only [List.mem_cons, List.not_mem_nil, or_false] at hv; first | (subst hv; rfl) | (rcases hv with rfl <;> rfl)) (by decide) rfl hS (fun b122 w' hS => ?_)
     refine x_done <| ?_
     refine x_fin ⟨⟨_, rfl⟩, rfl, ?_⟩
     exact Eq.mp (by kernel_rfl) hS
    ·intro Ep33 w l' hE33 hO33 hF_ hS
     obtain ⟨q46, q47, -⟩ := hF_
     replace q46 : Ep33 118 = .slice q0f q0e.length c_b13_1_L31h := Eq.mp (by kernel_rfl) q46
     replace q47 : Ep33 122 = .slice (some ⟨(blkOf (Ep33 122)), 0, none⟩) 1 1 := Eq.mp (by kernel_rfl) q47
     replace hS : St w0 w (cells (blkOf (Ep33 122)) 9 [.string ((⟨#[111]⟩ : ByteArray) ++ q1k)] :: ro q9 :: vec 9 RpS.sz (.slice q0f q0e.length c_b13_1_L31h) q0e.length q13 :: l') := Eq.mp (by kernel_rfl) hS
     refine o_ap sl_26 zero_9 rfl (by decide) q46 q47 (hS.pull 2) q2p (src_blk usl_26 hS rfl rfl) (RepL.cons (R := RpS) (ρ := q9) (x := (⟨#[111]⟩ : ByteArray) ++ q1k) (cs := [.string ((⟨#[111]⟩ : ByteArray) ++ q1k)]) rfl RepL.nil) q8z q90 (fun A123 c123 cs123 w' hr123 hS => ?_)
     refine x_done <| ?_
     refine x_fin ⟨⟨_, rfl⟩, rfl, ?_⟩
     replace hS := St.bun (Φ := (fun (cs123 : List Value) => RepL RpS q9 q0w cs123)) (L := (fun (cs123 : List Value) => [vec 9 RpS.sz (.slice A123 q0w.length c123) q0w.length cs123])) cs123 hr123 hS
     exact Eq.mp (by kernel_rfl) ((hS.pull 2).pull 2)
    ·intro Ep33 w l' hE33 hO33 hF_ hS
     refine p (yl_field0 fld_30_4 ((hE33 13 rfl).trans q23)) <| x_done <| ?_
     refine x_fin ⟨⟨_, rfl⟩, rfl, ?_⟩
     exact Eq.mp (by kernel_rfl) hS
    ·intro Ep33 w l' hE33 hO33 hF_ hS
     obtain ⟨q48, -⟩ := hF_
     replace q48 : Ep33 124 = .pointer (some ⟨b13, 4, none⟩) := Eq.mp (by kernel_rfl) q48
     replace hS : St w0 w (cells b13 30 [.slice q3 q2.length c_b13_0_L3, .slice q0f q0e.length c_b13_1_L31h, .slice q7 q8.length c_b13_2_L21, .slice q5 q4.length c_b13_3_L10, .slice q0b q0c.length c_b13_4_L31h] :: l') := Eq.mp (by kernel_rfl) hS
     refine pa (at_load one_22 q48 (hS.cell rfl)) <| x_done <| ?_
     refine x_fin ⟨⟨_, rfl⟩, rfl, ?_⟩
     exact Eq.mp (by kernel_rfl) hS
    ·intro Ep33 w l' hE33 hO33 hF_ hS
     refine p (yl_move ((hE33 16 rfl).trans q5v)) <| x_done <| ?_
     refine x_fin ⟨⟨_, rfl⟩, rfl, ?_⟩
     exact Eq.mp (by kernel_rfl) hS
    ·intro Ep33 w l' hE33 hO33 hF_ hS
     refine p (yl_move ((hE33 15 rfl).trans q5u)) <| x_done <| ?_
     refine x_fin ⟨⟨_, rfl⟩, rfl, ?_⟩
     exact Eq.mp (by kernel_rfl) hS
    ·intro Ep33 w l' hE33 hO33 hF_ hS
     refine p (yl_move ((hE33 4 rfl).trans q66)) <| x_done <| ?_
     refine x_fin ⟨⟨_, rfl⟩, rfl, ?_⟩
     exact Eq.mp (by kernel_rfl) hS
    ·intro Ep33 w l' hE33 hO33 hF_ hS
     obtain ⟨q2u, q2v, -⟩ := hF_
     replace q2u : Ep33 127 = .int .i64 x39 := Eq.mp (by kernel_rfl) q2u
     replace q2v : Ep33 128 = .int .i64 gates4 := Eq.mp (by kernel_rfl) q2v
     refine p (yadd q2u q2v hx129) <| x_done <| ?_
     refine x_fin ⟨⟨_, rfl⟩, rfl, ?_⟩
     exact Eq.mp (by kernel_rfl) hS
    ·intro Ep33 w l' hE33 hO33 hF_ hS
     obtain ⟨q49, q2w, -⟩ := hF_
     replace q49 : Ep33 126 = .func (.func 103) #[] #[.pointer (some ⟨b6, 0, none⟩)] := Eq.mp (by kernel_rfl) q49
     replace q2w : Ep33 129 = .int .i64 x129 := Eq.mp (by kernel_rfl) q2w
     replace hS : St w0 w (cells b6 23 [.pointer (some ⟨q6, 0, none⟩)] :: ro q9 :: cells q6 25 [.slice q0d s0.L.length c_s0_0, .int .i64 q1h] :: l') := Eq.mp (by kernel_rfl) hS
     have hcall := c_maskmake_Stream_Placed_1 q7q (q1r.le q1m) (((hS.pull 1).pull 2).pull 2)
     refine o_ccv q49 call_103 (capargs (args1 q2w)) hcall ?_
     rintro e w' ⟨rfl, hS⟩
     refine ⟨_, rfl, ?_⟩
     refine x_done <| ?_
     refine x_fin ⟨⟨_, rfl⟩, rfl, ?_⟩
     exact Eq.mp (by kernel_rfl) ((hS.pull 2).pull 2)
    ·intro Ep33 w l' hE33 hO33 hF_ hS
     obtain ⟨q2x, -⟩ := hF_
     replace q2x : Ep33 130 = .int .i64 q18.1 := Eq.mp (by kernel_rfl) q2x
     refine o_buildSlice (vs := [.int .i64 q18.1]) (cs := [.int .i64 q18.1]) sl_22 zero_3 (parts_eq (pt (va := .int .i64 q18.1) q2x pt0)) rfl (by intro v hv; simp only [List.mem_cons, List.not_mem_nil, or_false] at hv; first | (subst hv; rfl) | (rcases hv with rfl <;> rfl)) (by decide) rfl hS (fun b131 w' hS => ?_)
     refine x_done <| ?_
     refine x_fin ⟨⟨_, rfl⟩, rfl, ?_⟩
     exact Eq.mp (by kernel_rfl) hS
    ·intro Ep33 w l' hE33 hO33 hF_ hS
     obtain ⟨q4a, q2y, -⟩ := hF_
     replace q4a : Ep33 125 = .slice q0b q0c.length c_b13_4_L31h := Eq.mp (by kernel_rfl) q4a
     replace q2y : Ep33 131 = .slice (some ⟨(blkOf (Ep33 131)), 0, none⟩) 1 1 := Eq.mp (by kernel_rfl) q2y
     replace hS : St w0 w (cells (blkOf (Ep33 131)) 3 [.int .i64 q18.1] :: ro q9 :: vec 3 (RpI .i64).sz (.slice q0b q0c.length c_b13_4_L31h) q0c.length q14 :: l') := Eq.mp (by kernel_rfl) hS
     refine o_ap sl_22 zero_3 rfl (by decide) q4a q2y (hS.pull 2) q2q (src_blk usl_22 hS rfl rfl) (RepL.cons (R := (RpI .i64)) (ρ := q9) (x := q18.1) (cs := [.int .i64 q18.1]) rfl RepL.nil) q7r q7s (fun A132 c132 cs132 w' hr132 hS => ?_)
     refine x_done <| ?_
     refine x_fin ⟨⟨_, rfl⟩, rfl, ?_⟩
     replace hS := St.bun (Φ := (fun (cs132 : List Value) => RepL (RpI .i64) q9 q0v cs132)) (L := (fun (cs132 : List Value) => [vec 3 (RpI .i64).sz (.slice A132 q0v.length c132) q0v.length cs132])) cs132 hr132 hS
     exact Eq.mp (by kernel_rfl) ((hS.pull 2).pull 2)
    ·intro Ep33 w l' hE33 hO33 hF_ hS
     refine p (yl_field0 fld_30_1 ((hE33 13 rfl).trans q23)) <| x_done <| ?_
     refine x_fin ⟨⟨_, rfl⟩, rfl, ?_⟩
     exact Eq.mp (by kernel_rfl) hS
    ·intro Ep33 w l' hE33 hO33 hF_ hS
     obtain ⟨q2h, q2z, -⟩ := hF_
     replace q2h : Ep33 123 = .slice (adOf (Ep33 123)) q0w.length (capOf (Ep33 123)) := Eq.mp (by kernel_rfl) q2h
     replace q2z : Ep33 133 = .pointer (some ⟨b13, 1, none⟩) := Eq.mp (by kernel_rfl) q2z
     replace hS : St w0 w (cells b13 30 [.slice q3 q2.length c_b13_0_L3, .slice q0f q0e.length c_b13_1_L31h, .slice q7 q8.length c_b13_2_L21, .slice q5 q4.length c_b13_3_L10, .slice q0b q0c.length c_b13_4_L31h] :: l') := Eq.mp (by kernel_rfl) hS
     refine o_store1 (v := .slice (adOf (Ep33 123)) q0w.length (capOf (Ep33 123))) one_26 q2z q2h rfl rfl hS (fun w' hS => ?_)
     refine x_done <| ?_
     refine x_fin ⟨⟨undef, rfl⟩, trivial, ?_⟩
     exact Eq.mp (by kernel_rfl) hS
    ·intro Ep33 w l' hE33 hO33 hF_ hS
     refine p (yl_field0 fld_30_4 ((hE33 13 rfl).trans q23)) <| x_done <| ?_
     refine x_fin ⟨⟨_, rfl⟩, rfl, ?_⟩
     exact Eq.mp (by kernel_rfl) hS
    ·intro Ep33 w l' hE33 hO33 hF_ hS
     obtain ⟨q2h, q30, q31, -⟩ := hF_
     replace q2h : Ep33 123 = .slice (adOf (Ep33 123)) q0w.length (capOf (Ep33 123)) := Eq.mp (by kernel_rfl) q2h
     replace q30 : Ep33 132 = .slice (adOf (Ep33 132)) q0v.length (capOf (Ep33 132)) := Eq.mp (by kernel_rfl) q30
     replace q31 : Ep33 134 = .pointer (some ⟨b13, 4, none⟩) := Eq.mp (by kernel_rfl) q31
     replace hS : St w0 w (cells b13 30 [.slice q3 q2.length c_b13_0_L3, .slice (adOf (Ep33 123)) q0w.length (capOf (Ep33 123)), .slice q7 q8.length c_b13_2_L21, .slice q5 q4.length c_b13_3_L10, .slice q0b q0c.length c_b13_4_L31h] :: l') := Eq.mp (by kernel_rfl) hS
     refine o_store1 (v := .slice (adOf (Ep33 132)) q0v.length (capOf (Ep33 132))) one_22 q31 q30 rfl rfl hS (fun w' hS => ?_)
     refine x_done <| ?_
     refine x_fin ⟨⟨undef, rfl⟩, trivial, ?_⟩
     exact Eq.mp (by kernel_rfl) hS
   intro Ep33 w' hE33 hF_ hS
   obtain ⟨q42, q46, q43, q44, q45, q47, q2h, q48, q4a, q49, q2u, q2v, q2w, q2x, q2y, q30, q2z, q31, -⟩ := hF_
   replace q42 : Ep33 117 = .pointer (some ⟨b13, 1, none⟩) := Eq.mp (by kernel_rfl) q42
   replace q46 : Ep33 118 = .slice q0f q0e.length c_b13_1_L31h := Eq.mp (by kernel_rfl) q46
   replace q43 : Ep33 119 = .int .i64 q1o := Eq.mp (by kernel_rfl) q43
   replace q44 : Ep33 120 = .string q1k := Eq.mp (by kernel_rfl) q44
   replace q45 : Ep33 121 = .string ((⟨#[111]⟩ : ByteArray) ++ q1k) := Eq.mp (by kernel_rfl) q45
   replace q47 : Ep33 122 = .slice (some ⟨(blkOf (Ep33 122)), 0, none⟩) 1 1 := Eq.mp (by kernel_rfl) q47
   replace q2h : Ep33 123 = .slice (adOf (Ep33 123)) q0w.length (capOf (Ep33 123)) := Eq.mp (by kernel_rfl) q2h
   replace q48 : Ep33 124 = .pointer (some ⟨b13, 4, none⟩) := Eq.mp (by kernel_rfl) q48
   replace q4a : Ep33 125 = .slice q0b q0c.length c_b13_4_L31h := Eq.mp (by kernel_rfl) q4a
   replace q49 : Ep33 126 = .func (.func 103) #[] #[.pointer (some ⟨b6, 0, none⟩)] := Eq.mp (by kernel_rfl) q49
   replace q2u : Ep33 127 = .int .i64 x39 := Eq.mp (by kernel_rfl) q2u
   replace q2v : Ep33 128 = .int .i64 gates4 := Eq.mp (by kernel_rfl) q2v
   replace q2w : Ep33 129 = .int .i64 x129 := Eq.mp (by kernel_rfl) q2w
   replace q2x : Ep33 130 = .int .i64 q18.1 := Eq.mp (by kernel_rfl) q2x
   replace q2y : Ep33 131 = .slice (some ⟨(blkOf (Ep33 131)), 0, none⟩) 1 1 := Eq.mp (by kernel_rfl) q2y
   replace q30 : Ep33 132 = .slice (adOf (Ep33 132)) q0v.length (capOf (Ep33 132)) := Eq.mp (by kernel_rfl) q30
   replace q2z : Ep33 133 = .pointer (some ⟨b13, 1, none⟩) := Eq.mp (by kernel_rfl) q2z
   replace q31 : Ep33 134 = .pointer (some ⟨b13, 4, none⟩) := Eq.mp (by kernel_rfl) q31
   replace hS : St w0 w' (ro q9 :: cells (blkOf (Ep33 122)) 9 [.string ((⟨#[111]⟩ : ByteArray) ++ q1k)] :: bunA (fun (cs123 : List Value) => RepL RpS q9 q0w cs123) (fun (cs123 : List Value) => [vec 9 RpS.sz (.slice (adOf (Ep33 123)) q0w.length (capOf (Ep33 123))) q0w.length cs123]) :: cells b6 23 [.pointer (some ⟨q6, 0, none⟩)] :: cells q6 25 [.slice q0d s0.L.length c_s0_0, .int .i64 q18.2] :: cells (blkOf (Ep33 131)) 3 [.int .i64 q18.1] :: bunA (fun (cs132 : List Value) => RepL (RpI .i64) q9 q0v cs132) (fun (cs132 : List Value) => [vec 3 (RpI .i64).sz (.slice (adOf (Ep33 132)) q0v.length (capOf (Ep33 132))) q0v.length cs132]) :: cells b13 30 [.slice q3 q2.length c_b13_0_L3, .slice (adOf (Ep33 123)) q0w.length (capOf (Ep33 123)), .slice q7 q8.length c_b13_2_L21, .slice q5 q4.length c_b13_3_L10, .slice (adOf (Ep33 132)) q0v.length (capOf (Ep33 132))] :: (cells b12 30 [.slice none 0 0, .slice none 0 0, .slice none 0 0, .slice none 0 0, .slice none 0 0] :: vec 9 RpS.sz (.slice q3 q2.length c_b13_0_L3) q2.length q0a :: vec 135 R_api_Flop.sz (.slice q7 q8.length c_b13_2_L21) q8.length q11 :: vec 38 R_api_Gate.sz (.slice q5 q4.length c_b13_3_L10) q4.length q0h :: l)) := Eq.mp (by kernel_rfl) hS
   have q_ := St.unbun (hS.pull 2); obtain ⟨cs123, hr123, hS⟩ := q_
   have q_ := St.unbun (hS.pull 6); obtain ⟨cs132, hr132, hS⟩ := q_
   replace hFL31 := ar_s hFL31; obtain ⟨x135, hx135, hFL31⟩ := hFL31
   refine x_blk <| x_region <| p (yadd ((hE33 114 rfl).trans q3f) rfl hx135) <| p (yl_move rfl) <|
    x_done <| ?_
   have e_ := Option.some.inj (show some _ = some _ from hFL31); subst e_
   exact x_inv ⟨kL31, Nat.lt_succ_self _, (adOf (Ep33 123)), q0w.length, (capOf (Ep33 123)), cs123, (adOf (Ep33 132)), q0v.length, (capOf (Ep33 132)), cs132, x135, q0w, q0v, q18.2, hLL31, ((hE33 4 rfl).trans q66), ((hE33 12 rfl).trans q5t), ((hE33 13 rfl).trans q23), ((hE33 15 rfl).trans q5u), ((hE33 16 rfl).trans q5v), ((hE33 113 rfl).trans q5e), rfl, hr123, hr132, ((((((((((((hS.pull 3).drop.pull 5).drop.pull 2).pull 1).pull 9).pull 9).pull 4).pull 9).pull 7).pull 7).pull 8).pull 9)⟩
  ·replace hFL31 := it_f hc115 hFL31
   refine x_exitTo _ rfl <| ?_
   have e_ := Option.some.inj (show some _ = some _ from hFL31); subst e_
   exact x_inv ⟨q0f, q0e.length, c_b13_1_L31h, q13, q0b, q0c.length, c_b13_4_L31h, q14, q0e, q0c, q1h, hLL31, q5t, q23, q2p, q2q, ((((((((((hS.pull 2).drop.pull 8).pull 8).pull 8).pull 8).pull 8).pull 8).pull 8).pull 8).pull 8)⟩
 rintro E w ⟨q1f, q29, c_b13_1_L31, q1w, q1g, q2a, c_b13_4_L31, q1x, q1p, q1q, q3d, rfl, q67, q7t, q4o, q4p, hS⟩
 have e_ := St.vec_n (hS.pull 4) q4o; subst e_
 have e_ := St.vec_n (hS.pull 7) q4p; subst e_
 refine x_seq <| x_region <| pa (v := .agg #[.slice q3 q2.length c_b13_0_L3, .slice q1f q1p.length c_b13_1_L31, .slice q7 q8.length c_b13_2_L21, .slice q5 q4.length c_b13_3_L10, .slice q1g q1q.length c_b13_4_L31]) (ld_sub agg_30 q7t rfl rfl (hS.pull 1)) <| ?_
 refine o_storeAgg (news := [.slice q3 q2.length c_b13_0_L3, .slice q1f q1p.length c_b13_1_L31, .slice q7 q8.length c_b13_2_L21, .slice q5 q4.length c_b13_3_L10, .slice q1g q1q.length c_b13_4_L31]) agg_30 q67 rfl rfl (by simp [over_length]) hS (fun w' hS => ?_)
 refine x_done <| ?_
 have e_ := Option.some.inj (show some _ = some _ from hF); subst e_
 exact x_return ⟨_, ⟨_, _, _, rfl, q67, ldvA agg_30 rfl (fun j v hj => by rw [add0]; exact St.cell hS hj), rfl⟩, q9, q3, q2.length, c_b13_0_L3, q0a, q1f, q1p.length, c_b13_1_L31, q1w, q7, q8.length, c_b13_2_L21, q11, q5, q4.length, c_b13_3_L10, q0h, q1g, q1q.length, c_b13_4_L31, q1x, rfl, q1m, (q50.le q1m), q4o, q4n, q4m, q4p, (((((((hS.drop.drop.pull 6).pull 1).pull 6).pull 6).pull 6).pull 6).pull 6)⟩
attribute [irreducible] P_maskmake_Stream_Placed

def P_maskkeep4_small (s0 : T_maskmake_Stream) : Option (T_api_Netlist × List T_api_Cell × Int) :=
 bd (P_maskmake_Stream_LayLib s0) fun q2 =>
 bd (P_maskmake_Stream_Range (T_maskmake_Stream.mk s0.L q2.2) 1 3) fun q4 =>
 bd (P_maskmake_Stream_Next (T_maskmake_Stream.mk s0.L q4.2) 4) fun q5 =>
 bd (P_maskmake_Stream_Next (T_maskmake_Stream.mk s0.L q5.2) 9) fun q6 =>
 bd (P_maskmake_Stream_Range (T_maskmake_Stream.mk s0.L q6.2) 1 3) fun q7 =>
 bd (P_maskmake_Stream_Placed (T_maskmake_Stream.mk s0.L q7.2) q2.1 q4.1 q5.1 q6.1 q7.1) fun q3 =>
 some (q3.1, q2.1, q3.2)
set_option maxHeartbeats 4000000 in
set_option maxRecDepth 100000 in
theorem c_maskkeep4_small {w0 w : World} {l : List Assn} {ρ : Heap} {q18 : Nat} {q10 : Option Addr} {q11 : Nat} {c_s0_0 : Nat} {s0 : T_maskmake_Stream} {r : (T_api_Netlist × List T_api_Cell × Int)} (hF : P_maskkeep4_small s0 = some r) (q3 : RdS (RpI .i64) ρ q10 q11 c_s0_0 s0.L) (hS : St w0 w (cells q18 25 [.slice q10 q11 c_s0_0, .int .i64 s0.fat] :: ro ρ :: l)) :
  Calls Tryd.prog 11 #[.pointer (some ⟨q18, 0, none⟩)] w fun e w' => ∃ (ρ' : Heap) (q0v : Option Addr) (q0f : Nat) (c_y0_ret_0 : Nat) (q0l : List Value) (q0w : Option Addr) (q0g : Nat) (c_y0_ret_1 : Nat) (q0m : List Value) (q0x : Option Addr) (q0h : Nat) (c_y0_ret_2 : Nat) (q0n : List Value) (q0y : Option Addr) (q0i : Nat) (c_y0_ret_3 : Nat) (q0o : List Value) (q0z : Option Addr) (q0j : Nat) (c_y0_ret_4 : Nat) (q0p : List Value) (q12 : Option Addr) (q13 : Nat) (c_y1_ret : Nat), e = .returned (.tuple #[.agg #[.slice q0v q0f c_y0_ret_0, .slice q0w q0g c_y0_ret_1, .slice q0x q0h c_y0_ret_2, .slice q0y q0i c_y0_ret_3, .slice q0z q0j c_y0_ret_4], .slice q12 q13 c_y1_ret]) ∧ Le ρ ρ' ∧ RepL RpS ρ' r.1.In q0l ∧ RepL RpS ρ' r.1.Out q0m ∧ RepL R_api_Flop ρ' r.1.Flops q0n ∧ RepL R_api_Gate ρ' r.1.Gates q0o ∧ RepL (RpI .i64) ρ' r.1.Outs q0p ∧ RdS R_api_Cell ρ' q12 q13 c_y1_ret r.2.1 ∧ St w0 w' (vec 9 RpS.sz (.slice q0v q0f c_y0_ret_0) q0f q0l :: vec 9 RpS.sz (.slice q0w q0g c_y0_ret_1) q0g q0m :: vec 135 R_api_Flop.sz (.slice q0x q0h c_y0_ret_2) q0h q0n :: vec 38 R_api_Gate.sz (.slice q0y q0i c_y0_ret_3) q0i q0o :: vec 3 (RpI .i64).sz (.slice q0z q0j c_y0_ret_4) q0j q0p :: cells q18 25 [.slice q10 q11 c_s0_0, .int .i64 r.2.2] :: ro ρ' :: l) := by
 have e_ := q3.n; subst e_
 refine enterC Tryd.func11 rfl 19 rfl (by simp) ?_
 refine x_seq <| x_region <| ?_
 refine o_alloc zero_30 hS (fun b2 w' hS => ?_)
 replace hF := bd_s hF; obtain ⟨q1n, q1i, hF⟩ := hF
 refine p (yl_assign rfl) <| x_done <| x_seq <| x_region <|
  p (yl_move rfl) <| ?_
 have hcall := c_maskmake_Stream_LayLib q1i q3 ((hS.pull 2).pull 2)
 refine o_cc call_47 (args1 rfl) hcall ?_
 rintro e w' ⟨q1o, q14, q1g, c_y0_ret_1_1, q1f, rfl, q0e, q0k, hS⟩
 refine ⟨_, rfl, ?_⟩
 have e_ := St.vec_n hS q0k; subst e_
 replace hF := bd_s hF; obtain ⟨q1q, q1j, hF⟩ := hF
 refine p (yl_assign rfl) <| x_done <| x_seq <| x_region <|
  p (yl_move rfl) <| p (yl_move rfl) <| p (yl_move rfl) <| ?_
 have hcall := c_maskmake_Stream_Range q1j (q3.le q0e) ((hS.pull 2).pull 2)
 refine o_cc call_24 (args3 rfl rfl rfl) hcall ?_
 rintro e w' ⟨rfl, hS⟩
 refine ⟨_, rfl, ?_⟩
 replace hF := bd_s hF; obtain ⟨q1r, q1k, hF⟩ := hF
 refine p (yl_move rfl) <| ?_
 have hcall := c_maskmake_Stream_Next q1k (q3.le q0e) ((hS.pull 1).pull 1)
 refine o_cc call_13 (args2 rfl rfl) hcall ?_
 rintro e w' ⟨rfl, hS⟩
 refine ⟨_, rfl, ?_⟩
 replace hF := bd_s hF; obtain ⟨q1s, q1l, hF⟩ := hF
 refine p (yl_move rfl) <| ?_
 have hcall := c_maskmake_Stream_Next q1l (q3.le q0e) ((hS.pull 1).pull 1)
 refine o_cc call_13 (args2 rfl rfl) hcall ?_
 rintro e w' ⟨rfl, hS⟩
 refine ⟨_, rfl, ?_⟩
 replace hF := bd_s hF; obtain ⟨q1t, q1m, hF⟩ := hF
 refine p (yl_move rfl) <| ?_
 have hcall := c_maskmake_Stream_Range q1m (q3.le q0e) ((hS.pull 1).pull 1)
 refine o_cc call_24 (args3 rfl rfl rfl) hcall ?_
 rintro e w' ⟨rfl, hS⟩
 refine ⟨_, rfl, ?_⟩
 have q_ := St.vec_fz ((hS.pull 1).pull 2) q0k; obtain ⟨q1p, q15, q17, hS⟩ := q_
 replace hF := bd_s hF; obtain ⟨q2, q1h, hF⟩ := hF
 have hcall := c_maskmake_Stream_Placed q1h (q3.le (q0e.trans q15)) q17 (hS.pull 1)
 refine o_cc call_48 (args6 rfl rfl rfl rfl rfl rfl) hcall ?_
 rintro e w' ⟨q1e, q4, q19, c_y0_ret_0_2_10, q0q, q5, q1a, c_y0_ret_1_2_10, q0r, q6, q1b, c_y0_ret_2_2_10, q0s, q7, q1c, c_y0_ret_3_2_10, q0t, q8, q1d, c_y0_ret_4_2_10, q0u, rfl, q16, q9, q0a, q0b, q0c, q0d, hS⟩
 refine ⟨_, rfl, ?_⟩
 have e_ := St.vec_n hS q9; subst e_
 have e_ := St.vec_n (hS.pull 1) q0a; subst e_
 have e_ := St.vec_n (hS.pull 2) q0b; subst e_
 have e_ := St.vec_n (hS.pull 3) q0c; subst e_
 have e_ := St.vec_n (hS.pull 4) q0d; subst e_
 refine p (yl_move rfl) <| ?_
 refine o_storeAgg (news := [.slice q4 q2.1.In.length c_y0_ret_0_2_10, .slice q5 q2.1.Out.length c_y0_ret_1_2_10, .slice q6 q2.1.Flops.length c_y0_ret_2_2_10, .slice q7 q2.1.Gates.length c_y0_ret_3_2_10, .slice q8 q2.1.Outs.length c_y0_ret_4_2_10]) agg_30 rfl rfl rfl (by simp [over_length]) (hS.pull 7) (fun w' hS => ?_)
 refine p (yl_assign rfl) <| x_done <| ?_
 have e_ := Option.some.inj (show some _ = some _ from hF); subst e_
 exact x_return ⟨_, ⟨_, _, _, rfl, rfl, ldvA agg_30 rfl (fun j v hj => by rw [add0]; exact St.cell hS hj), _, _, rfl, rfl, rfl⟩, q1e, q4, q2.1.In.length, c_y0_ret_0_2_10, q0q, q5, q2.1.Out.length, c_y0_ret_1_2_10, q0r, q6, q2.1.Flops.length, c_y0_ret_2_2_10, q0s, q7, q2.1.Gates.length, c_y0_ret_3_2_10, q0t, q8, q2.1.Outs.length, c_y0_ret_4_2_10, q0u, q14, q1n.1.length, c_y0_ret_1_1, rfl, ((q0e.trans q15).trans q16), q9, q0a, q0b, q0c, q0d, (q17.le q16), (((((((hS.drop.pull 6).pull 6).pull 6).pull 6).pull 6).pull 6).pull 6)⟩
attribute [irreducible] P_maskkeep4_small

def P_maskmake_Stream_window (s0 : T_maskmake_Stream) (most1 : Int) : Option (T_tree_Window × Int) :=
 bd (P_maskmake_Stream_Next s0 most1) fun q2 =>
 bd (P_maskmake_Stream_Next (T_maskmake_Stream.mk s0.L q2.2) most1) fun q3 =>
 ar (q2.1 + q3.1) fun x14 =>
 some ((T_tree_Window.mk q2.1 x14), q3.2)
set_option maxHeartbeats 4000000 in
set_option maxRecDepth 100000 in
theorem c_maskmake_Stream_window {w0 w : World} {l : List Assn} {ρ : Heap} {q5 : Nat} {q2 : Option Addr} {q3 : Nat} {c_s0_0 : Nat} {s0 : T_maskmake_Stream} {most1 : Int} {r : (T_tree_Window × Int)} (hF : P_maskmake_Stream_window s0 most1 = some r) (q4 : RdS (RpI .i64) ρ q2 q3 c_s0_0 s0.L) (hS : St w0 w (cells q5 25 [.slice q2 q3 c_s0_0, .int .i64 s0.fat] :: ro ρ :: l)) :
  Calls Tryd.prog 72 #[.pointer (some ⟨q5, 0, none⟩), .int .i64 most1] w fun e w' => e = .returned (.agg #[.int .i64 r.1.Lo, .int .i64 r.1.Hi]) ∧ St w0 w' (cells q5 25 [.slice q2 q3 c_s0_0, .int .i64 r.2] :: ro ρ :: l) := by
 have e_ := q4.n; subst e_
 refine enterC Tryd.func72 rfl 16 rfl (by simp) ?_
 refine x_seq <| x_region <| ?_
 refine o_alloc zero_70 hS (fun b4 w' hS => ?_)
 replace hF := bd_s hF; obtain ⟨q6, q7, hF⟩ := hF
 refine x_done <| x_seq <| x_region <| p (yl_move rfl) <|
  p (yl_move rfl) <| ?_
 have hcall := c_maskmake_Stream_Next q7 q4 ((hS.pull 2).pull 2)
 refine o_cc call_13 (args2 rfl rfl) hcall ?_
 rintro e w' ⟨rfl, hS⟩
 refine ⟨_, rfl, ?_⟩
 replace hF := bd_s hF; obtain ⟨q9, q8, hF⟩ := hF
 refine p (yl_assign rfl) <| x_done <| x_seq <| x_region <|
  p (yl_move rfl) <| p (yl_move rfl) <| p (yl_move rfl) <| p (yl_move rfl) <| ?_
 have hcall := c_maskmake_Stream_Next q8 q4 ((hS.pull 1).pull 1)
 refine o_cc call_13 (args2 rfl rfl) hcall ?_
 rintro e w' ⟨rfl, hS⟩
 refine ⟨_, rfl, ?_⟩
 replace hF := ar_s hF; obtain ⟨x14, hx14, hF⟩ := hF
 refine p (yadd rfl rfl hx14) <| p (v := .agg #[.int .i64 q6.1, .int .i64 x14]) (yl_build bld_70 bldf_70 (parts_eq (pt (va := .int .i64 q6.1) rfl (pt (va := .int .i64 x14) rfl pt0))) (by kernel_rfl)) <| ?_
 refine o_storeAgg (news := [.int .i64 q6.1, .int .i64 x14]) agg_70 rfl rfl rfl (by simp [over_length]) (hS.pull 2) (fun w' hS => ?_)
 refine x_done <| ?_
 have e_ := Option.some.inj (show some _ = some _ from hF); subst e_
 exact x_return ⟨_, ⟨_, _, _, rfl, rfl, ldvA agg_70 rfl (fun j v hj => by rw [add0]; exact St.cell hS hj), rfl⟩, rfl, ((hS.drop.pull 1).pull 1)⟩
attribute [irreducible] P_maskmake_Stream_window


end Go.Proofs.YtlolchgeedegdaaDoor.X
