/- Printed by gen.py: plain functions, and that the Go code computes them. -/
import Derived.Test.YtgmjhlpjlggpiaaDoorXI
import Derived.Test.YtgmjhlpjlggpiaaDoorYZ
import Derived.Test.YtgmjhlpjlggpiaaDoorYN
import Derived.Test.YtgmjhlpjlggpiaaDoorXT
namespace Go.Proofs.YtgmjhlpjlggpiaaDoor.X
set_option maxHeartbeats 4000000
set_option maxRecDepth 100000
open Go Go.RowKit
set_option linter.unusedVariables false
set_option linter.unusedSimpArgs false

structure T_maskmake_Stream where
 L : List Int
 fat : Int
 deriving DecidableEq, Inhabited
structure T_floor_Block where
 Row : Int
 From : Int
 To : Int
 deriving DecidableEq, Inhabited
def R_floor_Block : Rp T_floor_Block where
 sz := 3
 ok _ cs x := cs = [.int .i64 x.Row, .int .i64 x.From, .int .i64 x.To]
 pos := by decide
 len := by rintro ρ cs x rfl; rfl
 le := by rintro ρ ρ' cs x rfl hle; rfl
 one := by rintro ρ cs x rfl v hv; exact allOne_spec rfl v hv
structure T_floor_Wall where
 Layer : Int
 X0 : Int
 Y0 : Int
 X1 : Int
 Y1 : Int
 deriving DecidableEq, Inhabited
def R_floor_Wall : Rp T_floor_Wall where
 sz := 5
 ok _ cs x := cs = [.int .i64 x.Layer, .int .i64 x.X0, .int .i64 x.Y0, .int .i64 x.X1, .int .i64 x.Y1]
 pos := by decide
 len := by rintro ρ cs x rfl; rfl
 le := by rintro ρ ρ' cs x rfl hle; rfl
 one := by rintro ρ cs x rfl v hv; exact allOne_spec rfl v hv
structure T_floor_Port where
 Name : ByteArray
 Out : Bool
 X : Int
 Y : Int
 deriving DecidableEq, Inhabited
def R_floor_Port : Rp T_floor_Port where
 sz := 4
 ok _ cs x := cs = [.string x.Name, .bool x.Out, .int .i64 x.X, .int .i64 x.Y]
 pos := by decide
 len := by rintro ρ cs x rfl; rfl
 le := by rintro ρ ρ' cs x rfl hle; rfl
 one := by rintro ρ cs x rfl v hv; exact allOne_spec rfl v hv
structure T_floor_Floor where
 Rows : Int
 Sites : Int
 Layers : Int
 Blocks : List T_floor_Block
 Walls : List T_floor_Wall
 Ports : List T_floor_Port
 deriving DecidableEq, Inhabited
structure T_floor_Point where
 X : Int
 Y : Int
 deriving DecidableEq, Inhabited
structure T_legal_Pin where
 At : T_floor_Point
 Cell : Int
 Input : Int
 Drive : Bool
 Size : Int
 deriving DecidableEq, Inhabited
def R_legal_Pin : Rp T_legal_Pin where
 sz := 6
 ok _ cs x := cs = [.int .i64 x.At.X, .int .i64 x.At.Y, .int .i64 x.Cell, .int .i64 x.Input, .bool x.Drive, .int .i64 x.Size]
 pos := by decide
 len := by rintro ρ cs x rfl; rfl
 le := by rintro ρ ρ' cs x rfl hle; rfl
 one := by rintro ρ cs x rfl v hv; exact allOne_spec rfl v hv
structure T_legal_Net where
 Name : ByteArray
 Pins : List T_legal_Pin
 deriving DecidableEq, Inhabited
def R_legal_Net : Rp T_legal_Net where
 sz := 2
 ok ρ cs x := ∃ A1 n1 c1, cs = [.string x.Name, .slice A1 n1 c1] ∧ RdS R_legal_Pin ρ A1 n1 c1 x.Pins
 pos := by decide
 len := by rintro ρ cs x ⟨A1, n1, c1, rfl, _⟩; rfl
 le := by rintro ρ ρ' cs x ⟨A1, n1, c1, rfl, h0⟩ hle; exact ⟨_, _, _, rfl, h0.le hle⟩
 one := by rintro ρ cs x ⟨A1, n1, c1, rfl, _⟩ v hv; exact allOne_spec rfl v hv
structure T_global_Edge where
 From : Int
 To : Int
 deriving DecidableEq, Inhabited
def R_global_Edge : Rp T_global_Edge where
 sz := 2
 ok _ cs x := cs = [.int .i64 x.From, .int .i64 x.To]
 pos := by decide
 len := by rintro ρ cs x rfl; rfl
 le := by rintro ρ ρ' cs x rfl hle; rfl
 one := by rintro ρ cs x rfl v hv; exact allOne_spec rfl v hv
def kf_53 (x : T_global_Edge) : Value := .agg #[.int .i64 x.From, .int .i64 x.To]
theorem kp_53 : KeyP Tryd.prog 53 kf_53 := KeyP.ints (fun x => [x.From, x.To]) (by kernel_rfl : intsB Tryd.prog 9 53 = some (true, 2)) ⟨Tryd.prog.fieldsOf 53, by kernel_rfl⟩ (fun _ => rfl) (fun _ => rfl) (fun a b h => by
 obtain ⟨a1, a2⟩ := a
 obtain ⟨b1, b2⟩ := b
 simp only [List.cons.injEq, and_true] at h
 obtain ⟨rfl, rfl⟩ := h
 rfl)

structure T_global_step where
 fat : Int
 fcost : Int
 ffrom : Int
 deriving DecidableEq, Inhabited
def R_global_step : Rp T_global_step where
 sz := 3
 ok _ cs x := cs = [.int .i64 x.fat, .int .i64 x.fcost, .int .i64 x.ffrom]
 pos := by decide
 len := by rintro ρ cs x rfl; rfl
 le := by rintro ρ ρ' cs x rfl hle; rfl
 one := by rintro ρ cs x rfl v hv; exact allOne_spec rfl v hv
def P_maskmake_Below (x0 : Int) (n1 : Int) : Option Int :=
 if n1 < 1 then
  some (0 : Int)
 else
  ck (n1 ≠ 0) <|
  lv (Int.tmod x0 n1) fun x9 =>
  bd (
   if x9 < 0 then
    ar (x9 + n1) fun x14 =>
    some x14
   else
    some x9) fun q2 =>
  some q2
theorem c_maskmake_Below {w0 w : World} {l : List Assn} {ρ : Heap} {x0 : Int} {n1 : Int} {r : Int} (hF : P_maskmake_Below x0 n1 = some r) (hS : St w0 w (ro ρ :: l)) :
  Calls Tryd.prog 19 #[.int .i64 x0, .int .i64 n1] w fun e w' => e = .returned (.int .i64 r) ∧ St w0 w' (ro ρ :: l) := by
 refine enterC Tryd.func19 rfl 16 rfl (by simp) ?_
 refine x_seq <| x_region <| p (yl_assign rfl) <| x_done <|
  x_seq <| x_seq <| x_region <| p (yl_move rfl) <|
  p (yl_lss rfl rfl) <| x_done <|
  x_cond_p (n1 < 1) rfl (fun hc6 => ?_) (fun hc6 => ?_)
 ·replace hF := it_t hc6 hF
  refine x_seq <| x_region <| p (yl_assign rfl) <| x_done <| ?_
  have e_ := sinj hF; subst e_
  exact x_return ⟨_, ⟨_, _, rfl, rfl, rfl⟩, rfl, hS⟩
 ·replace hF := it_f hc6 hF
  replace hF := ck_s hF; obtain ⟨q4, hF⟩ := hF
  replace hF := lv_s hF; obtain ⟨x9, hx9, hF⟩ := hF
  refine x_skip <| x_seq <| x_region <| p (yl_move rfl) <|
   p (yl_move rfl) <| p (yrem rfl rfl q4 hx9) <| p (yl_assign rfl) <| x_done <|
   x_seq <| x_seq <| x_region <| p (yl_move rfl) <|
   p (yl_lss rfl rfl) <| x_done <| ?_
  replace hF := bd_s hF; obtain ⟨oc11, hFc11, hF⟩ := hF
  refine x_join (fun E w => ∃ (q2 : Int), q2 = oc11 ∧ E 0 = .int .i64 q2 ∧ St w0 w (ro ρ :: l)) ?_ ?_
  ·refine x_cond_p (x9 < 0) rfl (fun hc11 => ?_) (fun hc11 => ?_)
   ·replace hFc11 := it_t hc11 hFc11
    replace hFc11 := ar_s hFc11; obtain ⟨x14, hx14, hFc11⟩ := hFc11
    refine x_region <| p (yl_move rfl) <| p (yl_move rfl) <| p (yadd rfl rfl hx14) <|
     p (yl_assign rfl) <| x_done <| ?_
    exact x_inv ⟨x14, (sinj hFc11), rfl, hS⟩
   ·replace hFc11 := it_f hc11 hFc11
    refine x_skip <| ?_
    exact x_inv ⟨x9, (sinj hFc11), rfl, hS⟩
  rintro E w ⟨q2, rfl, q3, hS⟩
  refine x_seq <| x_region <| p (yl_move q3) <| p (yl_assign rfl) <|
   x_done <| ?_
  have e_ := sinj hF; subst e_
  exact x_return ⟨_, ⟨_, _, rfl, rfl, rfl⟩, rfl, hS⟩
attribute [irreducible] P_maskmake_Below

def P_maskmake_Stream_Next (s0 : T_maskmake_Stream) (n1 : Int) : Option (Int × Int) :=
 ar (s0.fat + 1) fun x11 =>
 if (s0.L.length : Int) = 0 then
  ar (x11 * 7919) fun x24 =>
  bd (P_maskmake_Below x24 n1) fun q3 =>
  some (q3, x11)
 else
  ar (x11 - 1) fun x31 =>
  ck ((s0.L.length : Int) ≠ 0) <|
  lv (Int.tmod x31 (s0.L.length : Int)) fun x37 =>
  ar (x11 - 1) fun x42 =>
  ck ((s0.L.length : Int) ≠ 0) <|
  ar (Int.tdiv x42 (s0.L.length : Int)) fun x48 =>
  ck (inb x37 s0.L.length) <|
  lv (gt s0.L x37) fun x55 =>
  bd (P_maskmake_Below x55 1073741824) fun q4 =>
  ar ((7919 : Int) + x37) fun x59 =>
  ar (x48 * x59) fun x60 =>
  ar (q4 + x60) fun x61 =>
  bd (P_maskmake_Below x61 n1) fun q2 =>
  some (q2, x11)
theorem c_maskmake_Stream_Next {w0 w : World} {l : List Assn} {ρ : Heap} {q5 : Nat} {q2 : Option Addr} {q3 : Nat} {c_s0_0 : Nat} {s0 : T_maskmake_Stream} {n1 : Int} {r : (Int × Int)} (hF : P_maskmake_Stream_Next s0 n1 = some r) (q4 : RdS (RpI .i64) ρ q2 q3 c_s0_0 s0.L) (hS : St w0 w (cells q5 25 [.slice q2 q3 c_s0_0, .int .i64 s0.fat] :: ro ρ :: l)) :
  Calls Tryd.prog 6 #[.pointer (some ⟨q5, 0, none⟩), .int .i64 n1] w fun e w' => e = .returned (.int .i64 r.1) ∧ St w0 w' (cells q5 25 [.slice q2 q3 c_s0_0, .int .i64 r.2] :: ro ρ :: l) := by
 have e_ := q4.n; subst e_
 refine enterC Tryd.func6 rfl 64 rfl (by simp) ?_
 replace hF := ar_s hF; obtain ⟨x11, hx11, hF⟩ := hF
 refine x_seq <| x_region <| p (yl_assign rfl) <| x_done <|
  x_seq <| x_region <| p (yl_move rfl) <| p (yl_nilCheck rfl) <|
  p (yl_field0 fld_25_1 rfl) <| pa (at_load one_3 rfl (hS.cell rfl)) <| p (yadd rfl rfl hx11) <| p (yl_nilCheck rfl) <|
  p (yl_field0 fld_25_1 rfl) <| ?_
 refine o_store1 (v := .int .i64 x11) one_3 rfl rfl rfl rfl hS (fun w' hS => ?_)
 refine x_done <| x_seq <| x_seq <| x_region <|
  p (yl_move rfl) <| p (yl_nilCheck rfl) <| p (yl_field0 fld_25_0 rfl) <| pa (at_load one_22 rfl (hS.cell rfl)) <|
  p (yl_len_slice usl_22 rfl) <| p (yl_eql rfl rfl) <| x_done <|
  x_cond_p ((s0.L.length : Int) = 0) rfl (fun hc19 => ?_) (fun hc19 => ?_)
 ·replace hF := it_t hc19 hF
  replace hF := ar_s hF; obtain ⟨x24, hx24, hF⟩ := hF
  replace hF := bd_s hF; obtain ⟨q0d, q0a, hF⟩ := hF
  refine x_seq <| x_region <| p (yl_move rfl) <| p (yl_nilCheck rfl) <|
   p (yl_field0 fld_25_1 rfl) <| pa (at_load one_3 rfl (hS.cell rfl)) <| p (ymul rfl rfl hx24) <| p (yl_move rfl) <| ?_
  have hcall := c_maskmake_Below q0a  (hS.pull 1)
  refine o_cc call_19 (args2 rfl rfl) ((Calls.mono hcall (fun e w'' h => And.intro h.1 (h.2.pull 1)))) ?_
  rintro e w' ⟨rfl, hS⟩
  refine ⟨_, rfl, ?_⟩
  refine p (v := .int .i64 q0d) (yl_assign rfl) <| x_done <| ?_
  have e_ := sinj hF; subst e_
  exact x_return ⟨_, ⟨_, _, rfl, rfl, rfl⟩, rfl, ((hS.pull 1).pull 1)⟩
 ·replace hF := it_f hc19 hF
  replace hF := ar_s hF; obtain ⟨x31, hx31, hF⟩ := hF
  replace hF := ck_s hF; obtain ⟨q7, hF⟩ := hF
  replace hF := lv_s hF; obtain ⟨x37, hx37, hF⟩ := hF
  refine x_skip <| x_seq <| x_still mixed (by kernel_rfl) hS <| q (yl_move rfl) <|
   q (yl_nilCheck rfl) <| q (yl_field0 fld_25_1 rfl) <| qa (fun w' hS => at_load one_3 rfl (hS.cell rfl)) <| q (ysub rfl rfl hx31) <|
   q (yl_move rfl) <| q (yl_nilCheck rfl) <| q (yl_field0 fld_25_0 rfl) <| qa (fun w' hS => at_load one_22 rfl (hS.cell rfl)) <|
   q (yl_len_slice usl_22 rfl) <| q (yrem rfl rfl q7 hx37) <| q (yl_assign rfl) <|
   q_done fun w' hS => ?_
  replace hF := ar_s hF; obtain ⟨x42, hx42, hF⟩ := hF
  replace hF := ck_s hF; obtain ⟨q8, hF⟩ := hF
  replace hF := ar_s hF; obtain ⟨x48, hx48, hF⟩ := hF
  refine x_seq <| x_still mixed (by kernel_rfl) hS <| q (yl_move rfl) <| q (yl_nilCheck rfl) <|
   q (yl_field0 fld_25_1 rfl) <| qa (fun w' hS => at_load one_3 rfl (hS.cell rfl)) <| q (ysub rfl rfl hx42) <| q (yl_move rfl) <|
   q (yl_nilCheck rfl) <| q (yl_field0 fld_25_0 rfl) <| qa (fun w' hS => at_load one_22 rfl (hS.cell rfl)) <| q (yl_len_slice usl_22 rfl) <|
   q (yquo rfl rfl q8 hx48) <| q (yl_assign rfl) <|
   q_done fun w' hS => ?_
  replace hF := ck_s hF; obtain ⟨q6, hF⟩ := hF
  replace hF := lv_s hF; obtain ⟨x55, hx55, hF⟩ := hF
  replace hF := bd_s hF; obtain ⟨q0e, q0b, hF⟩ := hF
  refine x_seq <| x_region <| p (yl_move rfl) <| p (yl_nilCheck rfl) <|
   p (yl_field0 fld_25_0 rfl) <| pa (at_load one_22 rfl (hS.cell rfl)) <| p (yl_move rfl) <| p (yix_f sl_22 rfl rfl q4 q6) <|
   pa (at_load one_3 rfl (RdS.getW q4 (hS.pull 1) q6 hx55)) <| ?_
  have hcall := c_maskmake_Below q0b  (hS.pull 1)
  refine o_cc call_19 (args2 rfl rfl) ((Calls.mono hcall (fun e w'' h => And.intro h.1 (h.2.pull 1)))) ?_
  rintro e w' ⟨rfl, hS⟩
  refine ⟨_, rfl, ?_⟩
  replace hF := ar_s hF; obtain ⟨x59, hx59, hF⟩ := hF
  replace hF := ar_s hF; obtain ⟨x60, hx60, hF⟩ := hF
  replace hF := ar_s hF; obtain ⟨x61, hx61, hF⟩ := hF
  replace hF := bd_s hF; obtain ⟨q0c, q9, hF⟩ := hF
  refine p (yl_move rfl) <| p (yl_move rfl) <| p (yadd rfl rfl hx59) <| p (ymul rfl rfl hx60) <|
   p (yadd rfl rfl hx61) <| p (yl_move rfl) <| ?_
  have hcall := c_maskmake_Below q9  (hS.pull 1)
  refine o_cc call_19 (args2 rfl rfl) ((Calls.mono hcall (fun e w'' h => And.intro h.1 (h.2.pull 1)))) ?_
  rintro e w' ⟨rfl, hS⟩
  refine ⟨_, rfl, ?_⟩
  refine p (v := .int .i64 q0c) (yl_assign rfl) <| x_done <| ?_
  have e_ := sinj hF; subst e_
  exact x_return ⟨_, ⟨_, _, rfl, rfl, rfl⟩, rfl, ((hS.pull 1).pull 1)⟩
attribute [irreducible] P_maskmake_Stream_Next

def P_maskmake_Stream_Range (s0 : T_maskmake_Stream) (low1 : Int) (high2 : Int) : Option (Int × Int) :=
 if high2 < low1 then
  some (low1, s0.fat)
 else
  ar (high2 - low1) fun x15 =>
  ar (x15 + 1) fun x16 =>
  bd (P_maskmake_Stream_Next s0 x16) fun q2 =>
  ar (low1 + q2.1) fun x18 =>
  some (x18, q2.2)
theorem c_maskmake_Stream_Range {w0 w : World} {l : List Assn} {ρ : Heap} {q5 : Nat} {q2 : Option Addr} {q3 : Nat} {c_s0_0 : Nat} {s0 : T_maskmake_Stream} {low1 : Int} {high2 : Int} {r : (Int × Int)} (hF : P_maskmake_Stream_Range s0 low1 high2 = some r) (q4 : RdS (RpI .i64) ρ q2 q3 c_s0_0 s0.L) (hS : St w0 w (cells q5 25 [.slice q2 q3 c_s0_0, .int .i64 s0.fat] :: ro ρ :: l)) :
  Calls Tryd.prog 15 #[.pointer (some ⟨q5, 0, none⟩), .int .i64 low1, .int .i64 high2] w fun e w' => e = .returned (.int .i64 r.1) ∧ St w0 w' (cells q5 25 [.slice q2 q3 c_s0_0, .int .i64 r.2] :: ro ρ :: l) := by
 have e_ := q4.n; subst e_
 refine enterC Tryd.func15 rfl 19 rfl (by simp) ?_
 refine x_seq <| x_region <| p (yl_assign rfl) <| x_done <|
  x_seq <| x_seq <| x_region <| p (yl_move rfl) <|
  p (yl_move rfl) <| p (yl_lss rfl rfl) <| x_done <|
  x_cond_p (high2 < low1) rfl (fun hc9 => ?_) (fun hc9 => ?_)
 ·replace hF := it_t hc9 hF
  refine x_seq <| x_region <| p (yl_move rfl) <| p (yl_assign rfl) <|
   x_done <| ?_
  have e_ := sinj hF; subst e_
  exact x_return ⟨_, ⟨_, _, rfl, rfl, rfl⟩, rfl, ((hS.pull 1).pull 1)⟩
 ·replace hF := it_f hc9 hF
  replace hF := ar_s hF; obtain ⟨x15, hx15, hF⟩ := hF
  replace hF := ar_s hF; obtain ⟨x16, hx16, hF⟩ := hF
  replace hF := bd_s hF; obtain ⟨q7, q6, hF⟩ := hF
  refine x_skip <| x_seq <| x_region <| p (yl_move rfl) <|
   p (yl_move rfl) <| p (yl_move rfl) <| p (yl_move rfl) <| p (ysub rfl rfl hx15) <|
   p (yadd rfl rfl hx16) <| ?_
  have hcall := c_maskmake_Stream_Next q6 q4 ((hS.pull 1).pull 1)
  refine o_cc call_6 (args2 rfl rfl) hcall ?_
  rintro e w' ⟨rfl, hS⟩
  refine ⟨_, rfl, ?_⟩
  replace hF := ar_s hF; obtain ⟨x18, hx18, hF⟩ := hF
  refine p (yadd rfl rfl hx18) <| p (yl_assign rfl) <| x_done <| ?_
  have e_ := sinj hF; subst e_
  exact x_return ⟨_, ⟨_, _, rfl, rfl, rfl⟩, rfl, ((hS.pull 1).pull 1)⟩
attribute [irreducible] P_maskmake_Stream_Range

def P_floor_Size (f0 : T_floor_Floor) : Option (Int × Int) :=
 ar ((4 : Int) * f0.Sites) fun x6 =>
 ar (x6 + 8) fun x7 =>
 ar ((4 : Int) * f0.Rows) fun x10 =>
 ar (x10 + 8) fun x11 =>
 some (x7, x11)
theorem c_floor_Size {w0 w : World} {l : List Assn} {ρ : Heap} {q2 : Option Addr} {q5 : Nat} {c_f0_3 : Nat} {q3 : Option Addr} {q6 : Nat} {c_f0_4 : Nat} {q4 : Option Addr} {q7 : Nat} {c_f0_5 : Nat} {f0 : T_floor_Floor} {r : (Int × Int)} (hF : P_floor_Size f0 = some r) (q8 : RdS R_floor_Block ρ q2 q5 c_f0_3 f0.Blocks) (q9 : RdS R_floor_Wall ρ q3 q6 c_f0_4 f0.Walls) (q0a : RdS R_floor_Port ρ q4 q7 c_f0_5 f0.Ports) (hS : St w0 w (ro ρ :: l)) :
  Calls Tryd.prog 5 #[.agg #[.int .i64 f0.Rows, .int .i64 f0.Sites, .int .i64 f0.Layers, .slice q2 q5 c_f0_3, .slice q3 q6 c_f0_4, .slice q4 q7 c_f0_5]] w fun e w' => e = .returned (.tuple #[.int .i64 r.1, .int .i64 r.2]) ∧ St w0 w' (ro ρ :: l) := by
 have e_ := q8.n; subst e_
 have e_ := q9.n; subst e_
 have e_ := q0a.n; subst e_
 refine enterC Tryd.func5 rfl 12 rfl (by simp) ?_
 refine x_seq <| x_region <| ?_
 refine o_box (cs := [.int .i64 f0.Rows, .int .i64 f0.Sites, .int .i64 f0.Layers, .slice q2 f0.Blocks.length c_f0_3, .slice q3 f0.Walls.length c_f0_4, .slice q4 f0.Ports.length c_f0_5]) rfl rfl hS (fun b1 w' hS => ?_)
 replace hF := ar_s hF; obtain ⟨x6, hx6, hF⟩ := hF
 replace hF := ar_s hF; obtain ⟨x7, hx7, hF⟩ := hF
 replace hF := ar_s hF; obtain ⟨x10, hx10, hF⟩ := hF
 replace hF := ar_s hF; obtain ⟨x11, hx11, hF⟩ := hF
 refine p (yl_assign rfl) <| p (yl_assign rfl) <| x_done <| x_seq <|
  x_still mixed (by kernel_rfl) hS <| q (yl_field0 fld_30_1 rfl) <| qa (fun w' hS => at_load one_3 rfl (hS.cell rfl)) <| q (ymul rfl rfl hx6) <|
  q (yadd rfl rfl hx7) <| q (yl_field0 fld_30_0 rfl) <| qa (fun w' hS => at_load one_3 rfl (hS.cell rfl)) <| q (ymul rfl rfl hx10) <|
  q (yadd rfl rfl hx11) <| q (yl_assign rfl) <| q (yl_assign rfl) <|
  q_done fun w' hS => ?_
 have e_ := sinj hF; subst e_
 exact x_return ⟨_, ⟨_, _, rfl, rfl, _, _, rfl, rfl, rfl⟩, rfl, hS.drop⟩
attribute [irreducible] P_floor_Size

def P_strconv_Itoa (i0 : Int) : Option ByteArray := ck (0 ≤ i0 ∧ i0 ≤ 9223372036854775807) <| some (itoa i0)
theorem c_strconv_Itoa {w0 w : World} {l : List Assn} {ρ : Heap} {i0 : Int} {r : ByteArray} (hF : P_strconv_Itoa i0 = some r) (hS : St w0 w (ro ρ :: l)) :
  Calls Tryd.prog 16 #[.int .i64 i0] w fun e w' => e = .returned (.string r) ∧ St w0 w' (ro ρ :: l) := by
 obtain ⟨h, hF⟩ := ck_s hF
 cases hF
 exact itoa_at h.1 h.2 hS
attribute [irreducible] P_strconv_Itoa

def P_maskmake_Stream_Flip (s0 : T_maskmake_Stream) (n1 : Int) : Option (Bool × Int) :=
 bd (P_maskmake_Stream_Next s0 n1) fun q2 =>
 some (decide (q2.1 = 0), q2.2)
theorem c_maskmake_Stream_Flip {w0 w : World} {l : List Assn} {ρ : Heap} {q5 : Nat} {q2 : Option Addr} {q3 : Nat} {c_s0_0 : Nat} {s0 : T_maskmake_Stream} {n1 : Int} {r : (Bool × Int)} (hF : P_maskmake_Stream_Flip s0 n1 = some r) (q4 : RdS (RpI .i64) ρ q2 q3 c_s0_0 s0.L) (hS : St w0 w (cells q5 25 [.slice q2 q3 c_s0_0, .int .i64 s0.fat] :: ro ρ :: l)) :
  Calls Tryd.prog 17 #[.pointer (some ⟨q5, 0, none⟩), .int .i64 n1] w fun e w' => e = .returned (.bool r.1) ∧ St w0 w' (cells q5 25 [.slice q2 q3 c_s0_0, .int .i64 r.2] :: ro ρ :: l) := by
 have e_ := q4.n; subst e_
 refine enterC Tryd.func17 rfl 9 rfl (by simp) ?_
 replace hF := bd_s hF; obtain ⟨q7, q6, hF⟩ := hF
 refine x_seq <| x_region <| p (yl_assign rfl) <| x_done <|
  x_seq <| x_region <| p (yl_move rfl) <| p (yl_move rfl) <| ?_
 have hcall := c_maskmake_Stream_Next q6 q4 ((hS.pull 1).pull 1)
 refine o_cc call_6 (args2 rfl rfl) hcall ?_
 rintro e w' ⟨rfl, hS⟩
 refine ⟨_, rfl, ?_⟩
 refine p (yl_eql rfl rfl) <| p (yl_assign rfl) <| x_done <| ?_
 have e_ := sinj hF; subst e_
 exact x_return ⟨_, ⟨_, _, rfl, rfl, rfl⟩, rfl, ((hS.pull 1).pull 1)⟩
attribute [irreducible] P_maskmake_Stream_Flip

def P_maskmake_Stream_ports_L3 (s0 : T_maskmake_Stream) (l_2 : List T_floor_Port) (q3 : (Int × Int)) : (Int × Int × Int × List T_floor_Port) → Option ((Int × Int × Int × List T_floor_Port) ⊕ (Int × List T_floor_Port)) := fun (q2, q4, q5, q6) =>
 if q4 < (l_2.length : Int) then
  ck (inb q4 l_2.length) <|
  lv (gt l_2 q4) fun q7 =>
  ar (q3.1 + q3.2) fun x29 =>
  ar ((2 : Int) * x29) fun x30 =>
  bd (
   if q2 < q3.1 then
    some (q2, q7.Y)
   else
    ar (q3.1 + q3.2) fun x47 =>
    bd (
     if q2 < x47 then
      ar (q3.1 - 1) fun x50 =>
      ar (q2 - q3.1) fun x53 =>
      some (x50, x53)
     else
      ar ((2 : Int) * q3.1) fun x59 =>
      ar (x59 + q3.2) fun x61 =>
      bd (
       if q2 < x61 then
        ar ((2 : Int) * q3.1) fun x64 =>
        ar (x64 + q3.2) fun x66 =>
        ar (x66 - 1) fun x67 =>
        ar (x67 - q2) fun x69 =>
        ar (q3.2 - 1) fun x71 =>
        some (x69, x71)
       else
        ar (x30 - 1) fun x32 =>
        ar (x32 - q2) fun x34 =>
        lv (max (0 : Int) x34) fun x35 =>
        some (q7.X, x35)) fun (q8, q9) =>
      some (q8, q9)) fun (q0a, q0b) =>
    some (q0a, q0b)) fun (q0c, q0d) =>
  lv (q6 ++ [(T_floor_Port.mk q7.Name q7.Out q0c q0d)]) fun q0e =>
  ck (apOk 40 q0e.length) <|
  ar ((l_2.length : Int) + 1) fun x89 =>
  ck (x89 ≠ 0) <|
  ar (Int.tdiv x30 x89) fun x90 =>
  ar (x90 - 5) fun x91 =>
  lv (max (1 : Int) x91) fun x92 =>
  bd (P_maskmake_Stream_Next (T_maskmake_Stream.mk s0.L q5) x92) fun q0f =>
  ar ((4 : Int) + q0f.1) fun x94 =>
  ar (q2 + x94) fun x95 =>
  ar (q4 + 1) fun x96 =>
  some (Sum.inl (x95, x96, q0f.2, q0e))
 else
  some (Sum.inr (q5, q6))
def P_maskmake_Stream_ports (s0 : T_maskmake_Stream) (f1 : T_floor_Floor) (l_2 : List T_floor_Port) : Option (Int × List T_floor_Port) :=
 bd (P_floor_Size f1) fun q5 =>
 bd (P_maskmake_Stream_Next s0 3) fun q4 =>
 bd (
  lp (P_maskmake_Stream_ports_L3 s0 l_2 q5) fuel (q4.1, 0, q4.2, f1.Ports)) fun (q2, q3) =>
 some (q2, q3)
theorem c_maskmake_Stream_ports {w0 w : World} {l : List Assn} {ρ : Heap} {q0m : Nat} {q0i : Option Addr} {q1n : Nat} {c_s0_0 : Nat} {q7 : Nat} {q8 : Option Addr} {q10 : Nat} {c_f1_3 : Nat} {q0g : List Value} {q9 : Option Addr} {q11 : Nat} {c_f1_4 : Nat} {q0h : List Value} {q1i : Option Addr} {q1o : Nat} {c_f1_5 : Nat} {q1m : List Value} {q0o : Option Addr} {q1x : Nat} {c_l_2 : Nat} {s0 : T_maskmake_Stream} {f1 : T_floor_Floor} {l_2 : List T_floor_Port} {r : (Int × List T_floor_Port)} (hF : P_maskmake_Stream_ports s0 f1 l_2 = some r) (q1p : RdS (RpI .i64) ρ q0i q1n c_s0_0 s0.L) (q1t : RepL R_floor_Block ρ f1.Blocks q0g) (q1u : RepL R_floor_Wall ρ f1.Walls q0h) (q1q : RepL R_floor_Port ρ f1.Ports q1m) (q1s : RdS R_floor_Port ρ q0o q1x c_l_2 l_2) (hS : St w0 w (cells q0m 25 [.slice q0i q1n c_s0_0, .int .i64 s0.fat] :: cells q7 30 [.int .i64 f1.Rows, .int .i64 f1.Sites, .int .i64 f1.Layers, .slice q8 q10 c_f1_3, .slice q9 q11 c_f1_4, .slice q1i q1o c_f1_5] :: vec 60 R_floor_Block.sz (.slice q8 q10 c_f1_3) q10 q0g :: vec 62 R_floor_Wall.sz (.slice q9 q11 c_f1_4) q11 q0h :: vec 65 R_floor_Port.sz (.slice q1i q1o c_f1_5) q1o q1m :: ro ρ :: l)) :
  Calls Tryd.prog 18 #[.pointer (some ⟨q0m, 0, none⟩), .pointer (some ⟨q7, 0, none⟩), .slice q0o q1x c_l_2] w fun e w' => ∃ (q15 : Option Addr) (q0t : Nat) (c_b_f1_5_ret : Nat) (q14 : List Value), e = .returned (.tuple #[]) ∧ RepL R_floor_Port ρ r.2 q14 ∧ St w0 w' (cells q0m 25 [.slice q0i q1n c_s0_0, .int .i64 r.1] :: cells q7 30 [.int .i64 f1.Rows, .int .i64 f1.Sites, .int .i64 f1.Layers, .slice q8 q10 c_f1_3, .slice q9 q11 c_f1_4, .slice q15 q0t c_b_f1_5_ret] :: vec 60 R_floor_Block.sz (.slice q8 q10 c_f1_3) q10 q0g :: vec 62 R_floor_Wall.sz (.slice q9 q11 c_f1_4) q11 q0h :: vec 65 R_floor_Port.sz (.slice q15 q0t c_b_f1_5_ret) q0t q14 :: ro ρ :: l) := by
 have e_ := q1p.n; subst e_
 have e_ := St.vec_n (hS.pull 2) q1t; subst e_
 have e_ := St.vec_n (hS.pull 3) q1u; subst e_
 have e_ := St.vec_n (hS.pull 4) q1q; subst e_
 have e_ := q1s.n; subst e_
 refine enterC Tryd.func18 rfl 97 rfl (by simp) ?_
 replace hF := bd_s hF; obtain ⟨q0r, q2z, hF⟩ := hF
 refine x_seq <| x_region <| p (yl_move rfl) <| p (yl_nilCheck rfl) <|
  pa (v := .agg #[.int .i64 f1.Rows, .int .i64 f1.Sites, .int .i64 f1.Layers, .slice q8 f1.Blocks.length c_f1_3, .slice q9 f1.Walls.length c_f1_4, .slice q1i f1.Ports.length c_f1_5]) (ld_sub agg_30 rfl rfl rfl (hS.pull 1)) <| ?_
 have q_ := St.lend ((hS.pull 5).pull 3) q1t; obtain ⟨ρl0, hll0, hlf0, hS0, back0⟩ := q_
 have q_ := St.lend (hS0.pull 3) (q1u.le hll0); obtain ⟨ρl1, hll1, hlf1, hS1, back1⟩ := q_
 have q_ := St.lend (hS1.pull 3) (q1q.le (hll0.trans hll1)); obtain ⟨ρl2, hll2, hlf2, hS2, back2⟩ := q_
 have hcall := c_floor_Size q2z (hlf0.le (hll1.trans hll2)) (hlf1.le hll2) hlf2 hS2
 refine o_cc call_5 (args1 rfl) ((Calls.mono hcall (fun e w'' h => And.intro h.1 (((((((back0 ((back1 ((back2 h.2).pull 1)).pull 1)).pull 1).pull 3).pull 3).pull 3).pull 5).pull 5)))) ?_
 rintro e w' ⟨rfl, hS⟩
 refine ⟨_, rfl, ?_⟩
 replace hF := bd_s hF; obtain ⟨q2f, q30, hF⟩ := hF
 refine p (v := .tuple #[.int .i64 q0r.1, .int .i64 q0r.2]) (yl_move rfl) <| p (yl_extract rfl rfl) <| p (yl_extract rfl rfl) <| p (yl_assign rfl) <|
  p (yl_assign rfl) <| x_done <| x_seq <| x_region <|
  p (yl_move rfl) <| ?_
 have hcall := c_maskmake_Stream_Next q30 q1p ((hS.pull 5).pull 1)
 refine o_cc call_6 (args2 rfl rfl) hcall ?_
 rintro e w' ⟨rfl, hS⟩
 refine ⟨_, rfl, ?_⟩
 refine p (yl_assign rfl) <| x_done <| x_seq <| x_region <|
  p (yl_move rfl) <| p (yl_len_slice usl_28 rfl) <| p (yl_move rfl) <| x_done <| ?_
 replace hF := bd_s hF; obtain ⟨oL3, hLL3, hF⟩ := hF
 refine x_join (fun E w => ∃ (q0p : Option Addr) (q0q : Nat) (c_b_f1_5_L3 : Nat) (q0j : List Value) (q16 : Int) (q0v : List T_floor_Port), (q16, q0v) = oL3 ∧ RepL R_floor_Port ρ q0v q0j ∧ St w0 w (cells q0m 25 [.slice q0i s0.L.length c_s0_0, .int .i64 q16] :: cells q7 30 [.int .i64 f1.Rows, .int .i64 f1.Sites, .int .i64 f1.Layers, .slice q8 f1.Blocks.length c_f1_3, .slice q9 f1.Walls.length c_f1_4, .slice q0p q0q c_b_f1_5_L3] :: vec 60 R_floor_Block.sz (.slice q8 f1.Blocks.length c_f1_3) f1.Blocks.length q0g :: vec 62 R_floor_Wall.sz (.slice q9 f1.Walls.length c_f1_4) f1.Walls.length q0h :: vec 65 R_floor_Port.sz (.slice q0p q0q c_b_f1_5_L3) q0q q0j :: ro ρ :: l)) ?_ ?_
 ·refine x_block ?_
  refine x_loop (fun k_ E w => ∃ (q3 : Option Addr) (q0k : Nat) (c_b_f1_5_L3h : Nat) (q0a : List Value) (q0d : Int) (q0n : Int) (q0b : Int) (q2 : List T_floor_Port), lp (P_maskmake_Stream_ports_L3 s0 l_2 q0r) k_ (q0d, q0n, q0b, q2) = some oL3 ∧ E 0 = .pointer (some ⟨q0m, 0, none⟩) ∧ E 1 = .pointer (some ⟨q7, 0, none⟩) ∧ E 2 = .slice q0o l_2.length c_l_2 ∧ E 6 = .int .i64 q0r.1 ∧ E 7 = .int .i64 q0r.2 ∧ E 8 = .int .i64 q0d ∧ E 21 = .slice q0o l_2.length c_l_2 ∧ E 22 = .int .i64 (l_2.length : Int) ∧ E 23 = .int .i64 q0n ∧ RepL R_floor_Port ρ q2 q0a ∧ St w0 w (cells q0m 25 [.slice q0i s0.L.length c_s0_0, .int .i64 q0b] :: cells q7 30 [.int .i64 f1.Rows, .int .i64 f1.Sites, .int .i64 f1.Layers, .slice q8 f1.Blocks.length c_f1_3, .slice q9 f1.Walls.length c_f1_4, .slice q3 q0k c_b_f1_5_L3h] :: vec 60 R_floor_Block.sz (.slice q8 f1.Blocks.length c_f1_3) f1.Blocks.length q0g :: vec 62 R_floor_Wall.sz (.slice q9 f1.Walls.length c_f1_4) f1.Walls.length q0h :: vec 65 R_floor_Port.sz (.slice q3 q0k c_b_f1_5_L3h) q0k q0a :: ro ρ :: l)) fuel ⟨q1i, f1.Ports.length, c_f1_5, q1m, q2f.1, 0, q2f.2, f1.Ports, hLL3, rfl, rfl, rfl, rfl, rfl, rfl, rfl, rfl, rfl, q1q, ((((((hS.pull 1).pull 5).pull 5).pull 5).pull 5).pull 5)⟩ ?_
  rintro kL3 E w ⟨q3, q0k, c_b_f1_5_L3h, q0a, q0d, q0n, q0b, q2, hLL3, q1j, q1k, q1l, q0e, q0l, q0f, q12, q13, q0s, q0u, hS⟩
  have e_ := St.vec_n (hS.pull 4) q0u; subst e_
  replace hLL3 := lp_s hLL3; obtain ⟨kL3, obL3, rfl, hFL3, hLL3⟩ := hLL3
  refine x_seq <| x_region <| p (yl_lss q0s q13) <| x_done <|
   x_seq <|
   x_cond_p (q0n < (l_2.length : Int)) rfl (fun hc24 => ?_) (fun hc24 => ?_)
  ·replace hFL3 := it_t hc24 hFL3
   replace hFL3 := ck_s hFL3; obtain ⟨q1y, hFL3⟩ := hFL3
   replace hFL3 := lv_s hFL3; obtain ⟨q4, q31, hFL3⟩ := hFL3
   have q_ := q1s.get q1y; obtain ⟨q34, q1z, q32⟩ := q_
   rw [← q31] at q1z
   have e_ := q1z; subst e_
   refine x_skip <| x_seq <| x_block <| x_seq <|
    x_region <| p (yix_f sl_28 q12 q0s q1s q1y) <| pa (v := .agg #[.string q4.Name, .bool q4.Out, .int .i64 q4.X, .int .i64 q4.Y]) (at_loadAgg agg_65 rfl rfl (Elt.every q32 (hS.pull 5))) <| ?_
   refine o_alloc zero_65 hS (fun b10 w' hS => ?_)
   refine o_storeAgg (news := [.string q4.Name, .bool q4.Out, .int .i64 q4.X, .int .i64 q4.Y]) agg_65 rfl rfl rfl (by simp [over_length]) hS (fun w' hS => ?_)
   replace hFL3 := ar_s hFL3; obtain ⟨x29, hx29, hFL3⟩ := hFL3
   replace hFL3 := ar_s hFL3; obtain ⟨x30, hx30, hFL3⟩ := hFL3
   refine x_done <| x_seq <| x_region <| p (yl_move q0e) <|
    p (yl_move q0l) <| p (yadd rfl rfl hx29) <| p (ymul rfl rfl hx30) <| p (yl_assign rfl) <|
    x_done <| x_seq <| x_block <| x_seq <|
    x_region <| p (yl_move q0f) <| p (yl_move q0e) <| p (yl_lss rfl rfl) <|
    p (yl_assign rfl) <| x_done <| ?_
   replace hFL3 := bd_s hFL3; obtain ⟨oc37, hFc37, hFL3⟩ := hFL3
   refine x_join (fun E w => ∃ (q5 : Int) (q6 : Int), (q5, q6) = oc37 ∧ E 0 = .pointer (some ⟨q0m, 0, none⟩) ∧ E 1 = .pointer (some ⟨q7, 0, none⟩) ∧ E 2 = .slice q0o l_2.length c_l_2 ∧ E 6 = .int .i64 q0r.1 ∧ E 7 = .int .i64 q0r.2 ∧ E 8 = .int .i64 q0d ∧ E 10 = .pointer (some ⟨b10, 0, none⟩) ∧ E 11 = .int .i64 x30 ∧ E 21 = .slice q0o l_2.length c_l_2 ∧ E 22 = .int .i64 (l_2.length : Int) ∧ E 23 = .int .i64 q0n ∧ St w0 w (cells q0m 25 [.slice q0i s0.L.length c_s0_0, .int .i64 q0b] :: cells q7 30 [.int .i64 f1.Rows, .int .i64 f1.Sites, .int .i64 f1.Layers, .slice q8 f1.Blocks.length c_f1_3, .slice q9 f1.Walls.length c_f1_4, .slice q3 q2.length c_b_f1_5_L3h] :: cells b10 65 [.string q4.Name, .bool q4.Out, .int .i64 q5, .int .i64 q6] :: vec 60 R_floor_Block.sz (.slice q8 f1.Blocks.length c_f1_3) f1.Blocks.length q0g :: vec 62 R_floor_Wall.sz (.slice q9 f1.Walls.length c_f1_4) f1.Walls.length q0h :: vec 65 R_floor_Port.sz (.slice q3 q2.length c_b_f1_5_L3h) q2.length q0a :: ro ρ :: l)) ?_ ?_
   ·refine x_cond_p (q0d < q0r.1) rfl (fun hc37 => ?_) (fun hc37 => ?_)
    ·replace hFc37 := it_t hc37 hFc37
     refine x_region <| p (yl_move q0f) <| p (yl_field0 fld_65_2 rfl) <| ?_
     refine o_store1 (v := .int .i64 q0d) one_3 rfl rfl rfl rfl hS (fun w' hS => ?_)
     refine x_done <| ?_
     exact x_inv ⟨q0d, q4.Y, (sinj hFc37), q1j, q1k, q1l, q0e, q0l, q0f, rfl, rfl, q12, q13, q0s, (((((((hS.pull 6).pull 6).pull 6).pull 6).pull 4).pull 6).pull 6)⟩
    ·replace hFc37 := it_f hc37 hFc37
     replace hFc37 := ar_s hFc37; obtain ⟨x47, hx47, hFc37⟩ := hFc37
     refine x_seq <| x_region <| p (yl_move q0f) <| p (yl_move q0e) <|
      p (yl_move q0l) <| p (yadd rfl rfl hx47) <| p (yl_lss rfl rfl) <| p (yl_assign rfl) <|
      x_done <| ?_
     replace hFc37 := bd_s hFc37; obtain ⟨oc43, hFc43, hFc37⟩ := hFc37
     refine x_join (fun E w => ∃ (q0w : Int) (q0x : Int), (q0w, q0x) = oc43 ∧ E 0 = .pointer (some ⟨q0m, 0, none⟩) ∧ E 1 = .pointer (some ⟨q7, 0, none⟩) ∧ E 2 = .slice q0o l_2.length c_l_2 ∧ E 6 = .int .i64 q0r.1 ∧ E 7 = .int .i64 q0r.2 ∧ E 8 = .int .i64 q0d ∧ E 10 = .pointer (some ⟨b10, 0, none⟩) ∧ E 11 = .int .i64 x30 ∧ E 21 = .slice q0o l_2.length c_l_2 ∧ E 22 = .int .i64 (l_2.length : Int) ∧ E 23 = .int .i64 q0n ∧ St w0 w (cells q0m 25 [.slice q0i s0.L.length c_s0_0, .int .i64 q0b] :: cells q7 30 [.int .i64 f1.Rows, .int .i64 f1.Sites, .int .i64 f1.Layers, .slice q8 f1.Blocks.length c_f1_3, .slice q9 f1.Walls.length c_f1_4, .slice q3 q2.length c_b_f1_5_L3h] :: cells b10 65 [.string q4.Name, .bool q4.Out, .int .i64 q0w, .int .i64 q0x] :: vec 60 R_floor_Block.sz (.slice q8 f1.Blocks.length c_f1_3) f1.Blocks.length q0g :: vec 62 R_floor_Wall.sz (.slice q9 f1.Walls.length c_f1_4) f1.Walls.length q0h :: vec 65 R_floor_Port.sz (.slice q3 q2.length c_b_f1_5_L3h) q2.length q0a :: ro ρ :: l)) ?_ ?_
     ·refine x_cond_p (q0d < x47) rfl (fun hc43 => ?_) (fun hc43 => ?_)
      ·replace hFc43 := it_t hc43 hFc43
       replace hFc43 := ar_s hFc43; obtain ⟨x50, hx50, hFc43⟩ := hFc43
       replace hFc43 := ar_s hFc43; obtain ⟨x53, hx53, hFc43⟩ := hFc43
       refine x_region <| p (yl_move q0e) <| p (ysub rfl rfl hx50) <| p (yl_move q0f) <|
        p (yl_move q0e) <| p (ysub rfl rfl hx53) <| p (yl_field0 fld_65_2 rfl) <| ?_
       refine o_store1 (v := .int .i64 x50) one_3 rfl rfl rfl rfl hS (fun w' hS => ?_)
       refine p (yl_field0 fld_65_3 rfl) <| ?_
       refine o_store1 (v := .int .i64 x53) one_3 rfl rfl rfl rfl hS (fun w' hS => ?_)
       refine x_done <| ?_
       exact x_inv ⟨x50, x53, (sinj hFc43), q1j, q1k, q1l, q0e, q0l, q0f, rfl, rfl, q12, q13, q0s, (((((((hS.pull 6).pull 6).pull 6).pull 6).pull 4).pull 6).pull 6)⟩
      ·replace hFc43 := it_f hc43 hFc43
       replace hFc43 := ar_s hFc43; obtain ⟨x59, hx59, hFc43⟩ := hFc43
       replace hFc43 := ar_s hFc43; obtain ⟨x61, hx61, hFc43⟩ := hFc43
       refine x_seq <| x_region <| p (yl_move q0f) <| p (yl_move q0e) <|
        p (ymul rfl rfl hx59) <| p (yl_move q0l) <| p (yadd rfl rfl hx61) <| p (yl_lss rfl rfl) <|
        p (yl_assign rfl) <| x_done <| ?_
       replace hFc43 := bd_s hFc43; obtain ⟨oc56, hFc56, hFc43⟩ := hFc43
       refine x_join (fun E w => ∃ (q0y : Int) (q0z : Int), (q0y, q0z) = oc56 ∧ E 0 = .pointer (some ⟨q0m, 0, none⟩) ∧ E 1 = .pointer (some ⟨q7, 0, none⟩) ∧ E 2 = .slice q0o l_2.length c_l_2 ∧ E 6 = .int .i64 q0r.1 ∧ E 7 = .int .i64 q0r.2 ∧ E 8 = .int .i64 q0d ∧ E 10 = .pointer (some ⟨b10, 0, none⟩) ∧ E 11 = .int .i64 x30 ∧ E 21 = .slice q0o l_2.length c_l_2 ∧ E 22 = .int .i64 (l_2.length : Int) ∧ E 23 = .int .i64 q0n ∧ St w0 w (cells q0m 25 [.slice q0i s0.L.length c_s0_0, .int .i64 q0b] :: cells q7 30 [.int .i64 f1.Rows, .int .i64 f1.Sites, .int .i64 f1.Layers, .slice q8 f1.Blocks.length c_f1_3, .slice q9 f1.Walls.length c_f1_4, .slice q3 q2.length c_b_f1_5_L3h] :: cells b10 65 [.string q4.Name, .bool q4.Out, .int .i64 q0y, .int .i64 q0z] :: vec 60 R_floor_Block.sz (.slice q8 f1.Blocks.length c_f1_3) f1.Blocks.length q0g :: vec 62 R_floor_Wall.sz (.slice q9 f1.Walls.length c_f1_4) f1.Walls.length q0h :: vec 65 R_floor_Port.sz (.slice q3 q2.length c_b_f1_5_L3h) q2.length q0a :: ro ρ :: l)) ?_ ?_
       ·refine x_cond_p (q0d < x61) rfl (fun hc56 => ?_) (fun hc56 => ?_)
        ·replace hFc56 := it_t hc56 hFc56
         replace hFc56 := ar_s hFc56; obtain ⟨x64, hx64, hFc56⟩ := hFc56
         replace hFc56 := ar_s hFc56; obtain ⟨x66, hx66, hFc56⟩ := hFc56
         replace hFc56 := ar_s hFc56; obtain ⟨x67, hx67, hFc56⟩ := hFc56
         replace hFc56 := ar_s hFc56; obtain ⟨x69, hx69, hFc56⟩ := hFc56
         replace hFc56 := ar_s hFc56; obtain ⟨x71, hx71, hFc56⟩ := hFc56
         refine x_region <| p (yl_move q0e) <| p (ymul rfl rfl hx64) <| p (yl_move q0l) <|
          p (yadd rfl rfl hx66) <| p (ysub rfl rfl hx67) <| p (yl_move q0f) <| p (ysub rfl rfl hx69) <|
          p (yl_move q0l) <| p (ysub rfl rfl hx71) <| p (yl_field0 fld_65_2 rfl) <| ?_
         refine o_store1 (v := .int .i64 x69) one_3 rfl rfl rfl rfl hS (fun w' hS => ?_)
         refine p (yl_field0 fld_65_3 rfl) <| ?_
         refine o_store1 (v := .int .i64 x71) one_3 rfl rfl rfl rfl hS (fun w' hS => ?_)
         refine x_done <| ?_
         exact x_inv ⟨x69, x71, (sinj hFc56), q1j, q1k, q1l, q0e, q0l, q0f, rfl, rfl, q12, q13, q0s, (((((((hS.pull 6).pull 6).pull 6).pull 6).pull 4).pull 6).pull 6)⟩
        ·replace hFc56 := it_f hc56 hFc56
         replace hFc56 := ar_s hFc56; obtain ⟨x32, hx32, hFc56⟩ := hFc56
         replace hFc56 := ar_s hFc56; obtain ⟨x34, hx34, hFc56⟩ := hFc56
         replace hFc56 := lv_s hFc56; obtain ⟨x35, hx35, hFc56⟩ := hFc56
         refine x_region <| p (yl_move rfl) <| p (ysub rfl rfl hx32) <| p (yl_move q0f) <|
          p (ysub rfl rfl hx34) <| p (ymax' rfl rfl hx35) <| p (yl_field0 fld_65_3 rfl) <| ?_
         refine o_store1 (v := .int .i64 x35) one_3 rfl rfl rfl rfl hS (fun w' hS => ?_)
         refine x_done <| ?_
         exact x_inv ⟨q4.X, x35, (sinj hFc56), q1j, q1k, q1l, q0e, q0l, q0f, rfl, rfl, q12, q13, q0s, (((((((hS.pull 6).pull 6).pull 6).pull 6).pull 4).pull 6).pull 6)⟩
       rintro E w ⟨q0y, q0z, rfl, q2g, q2h, q2i, q2j, q2k, q2l, q20, q21, q22, q23, q24, hS⟩
       exact x_inv ⟨q0y, q0z, (sinj hFc43), q2g, q2h, q2i, q2j, q2k, q2l, q20, q21, q22, q23, q24, (((((((hS.pull 6).pull 6).pull 6).pull 6).pull 6).pull 6).pull 6)⟩
     rintro E w ⟨q0w, q0x, rfl, q2m, q2n, q2o, q2p, q2q, q2r, q25, q26, q27, q28, q29, hS⟩
     exact x_inv ⟨q0w, q0x, (sinj hFc37), q2m, q2n, q2o, q2p, q2q, q2r, q25, q26, q27, q28, q29, (((((((hS.pull 6).pull 6).pull 6).pull 6).pull 6).pull 6).pull 6)⟩
   rintro E w ⟨q5, q6, rfl, q1v, q1r, q1w, q2s, q2t, q2u, q2a, q2b, q2c, q2d, q2e, hS⟩
   refine x_blk <| x_seq <| ?_
   replace hFL3 := lv_s hFL3; obtain ⟨q0c, q2v, hFL3⟩ := hFL3
   replace hFL3 := ck_s hFL3; obtain ⟨q2w, hFL3⟩ := hFL3
   refine x_par (w0 := w0) [⟨[], [], [74], [], [], [], none⟩, ⟨[], [], [75], [], [], [], none⟩, ⟨[1], [1], [76], [], [], [], none⟩, ⟨[1, 2], [2], [77], [], [], [], none⟩, ⟨[1, 2, 3], [3], [78], [0], [], [], none⟩, ⟨[], [], [79], [1], [], [], none⟩, ⟨[5], [5], [80], [], [], [2], none⟩, ⟨[1, 2, 3, 4, 5, 6], [4, 6], [81], [2, 4], [3], [5], none⟩, ⟨[0, 1, 2, 3, 4, 5, 6, 7], [0], [82], [], [], [], none⟩, ⟨[0, 1, 2, 3, 4, 5, 6, 7, 8], [8], [83], [], [], [], none⟩, ⟨[0, 1, 2, 3, 4, 5, 6, 7, 8, 9], [7, 9], [], [], [0], [6], none⟩] [⟨none, (some 10), []⟩, ⟨none, none, []⟩, ⟨(some 6), none, [80]⟩, ⟨none, (some 7), []⟩, ⟨none, none, []⟩, ⟨(some 7), none, [81]⟩, ⟨(some 10), none, [81]⟩] [74, 75, 76, 77, 78, 79, 80, 81, 82, 83] [0, 1, 3, 4] [1, 2, 4, 5, 6] [0, 1, 2, 3, 4, 5, 6, 7, 8, 9] [fun Ep13 => Ep13 74 = .pointer (some ⟨q7, 0, none⟩), fun Ep13 => Ep13 75 = .pointer (some ⟨q7, 0, none⟩), fun Ep13 => Ep13 76 = .pointer (some ⟨q7, 0, none⟩), fun Ep13 => Ep13 77 = .pointer (some ⟨q7, 5, none⟩), fun Ep13 => Ep13 78 = .slice q3 q2.length c_b_f1_5_L3h, fun Ep13 => Ep13 79 = .agg #[.string q4.Name, .bool q4.Out, .int .i64 q5, .int .i64 q6], fun Ep13 => Ep13 80 = .slice (some ⟨(blkOf (Ep13 80)), 0, none⟩) 1 1, fun Ep13 => Ep13 81 = .slice (adOf (Ep13 81)) q0c.length (capOf (Ep13 81)), fun Ep13 => Ep13 82 = .pointer (some ⟨q7, 0, none⟩), fun Ep13 => Ep13 83 = .pointer (some ⟨q7, 5, none⟩), fun Ep13 => True] [fun Ep13 => cells q7 30 [.int .i64 f1.Rows, .int .i64 f1.Sites, .int .i64 f1.Layers, .slice q8 f1.Blocks.length c_f1_3, .slice q9 f1.Walls.length c_f1_4, .slice q3 q2.length c_b_f1_5_L3h], fun Ep13 => cells b10 65 [.string q4.Name, .bool q4.Out, .int .i64 q5, .int .i64 q6], fun Ep13 => cells (blkOf (Ep13 80)) 65 [.string q4.Name, .bool q4.Out, .int .i64 q5, .int .i64 q6], fun Ep13 => vec 65 R_floor_Port.sz (.slice q3 q2.length c_b_f1_5_L3h) q2.length q0a, fun Ep13 => ro ρ, fun Ep13 => bunA (fun (cs81 : List Value) => RepL R_floor_Port ρ q0c cs81) (fun (cs81 : List Value) => [vec 65 R_floor_Port.sz (.slice (adOf (Ep13 81)) q0c.length (capOf (Ep13 81))) q0c.length cs81]), fun Ep13 => cells q7 30 [.int .i64 f1.Rows, .int .i64 f1.Sites, .int .i64 f1.Layers, .slice q8 f1.Blocks.length c_f1_3, .slice q9 f1.Walls.length c_f1_4, .slice (adOf (Ep13 81)) q0c.length (capOf (Ep13 81))]] mixed (by kernel_rfl) ((((hS.pull 6).pull 6).pull 4).pull 4) ?_ ?_
   ·refine ⟨?_, ?_, ?_, ?_, ?_, ?_, ?_, ?_, ?_, ?_, ?_, trivial⟩
    ·intro Ep13 w l' hE13 hO13 hF_ hS
     refine p (yl_move ((hE13 1 rfl).trans q1r)) <| x_done <| ?_
     refine x_fin ⟨⟨_, rfl⟩, rfl, ?_⟩
     exact emk hS
    ·intro Ep13 w l' hE13 hO13 hF_ hS
     refine p (yl_move ((hE13 1 rfl).trans q1r)) <| x_done <| ?_
     refine x_fin ⟨⟨_, rfl⟩, rfl, ?_⟩
     exact emk hS
    ·intro Ep13 w l' hE13 hO13 hF_ hS
     obtain ⟨q17, -⟩ := hF_
     replace q17 : Ep13 75 = .pointer (some ⟨q7, 0, none⟩) := emk q17
     refine p (yl_nilCheck q17) <| x_done <| ?_
     refine x_fin ⟨⟨_, rfl⟩, rfl, ?_⟩
     exact emk hS
    ·intro Ep13 w l' hE13 hO13 hF_ hS
     obtain ⟨q18, -⟩ := hF_
     replace q18 : Ep13 76 = .pointer (some ⟨q7, 0, none⟩) := emk q18
     refine p (yl_field0 fld_30_5 q18) <| x_done <| ?_
     refine x_fin ⟨⟨_, rfl⟩, rfl, ?_⟩
     exact emk hS
    ·intro Ep13 w l' hE13 hO13 hF_ hS
     obtain ⟨q19, -⟩ := hF_
     replace q19 : Ep13 77 = .pointer (some ⟨q7, 5, none⟩) := emk q19
     replace hS : St w0 w (cells q7 30 [.int .i64 f1.Rows, .int .i64 f1.Sites, .int .i64 f1.Layers, .slice q8 f1.Blocks.length c_f1_3, .slice q9 f1.Walls.length c_f1_4, .slice q3 q2.length c_b_f1_5_L3h] :: l') := emk hS
     refine pa (at_load one_28 q19 (hS.cell rfl)) <| x_done <| ?_
     refine x_fin ⟨⟨_, rfl⟩, rfl, ?_⟩
     exact emk hS
    ·intro Ep13 w l' hE13 hO13 hF_ hS
     replace hS : St w0 w (cells b10 65 [.string q4.Name, .bool q4.Out, .int .i64 q5, .int .i64 q6] :: l') := emk hS
     refine pa (v := .agg #[.string q4.Name, .bool q4.Out, .int .i64 q5, .int .i64 q6]) (ld_sub agg_65 ((hE13 10 rfl).trans q2a) rfl rfl hS) <| x_done <| ?_
     refine x_fin ⟨⟨_, rfl⟩, rfl, ?_⟩
     exact emk hS
    ·intro Ep13 w l' hE13 hO13 hF_ hS
     obtain ⟨q1a, -⟩ := hF_
     replace q1a : Ep13 79 = .agg #[.string q4.Name, .bool q4.Out, .int .i64 q5, .int .i64 q6] := emk q1a
     refine o_buildSlice (vs := [.agg #[.string q4.Name, .bool q4.Out, .int .i64 q5, .int .i64 q6]]) (cs := [.string q4.Name, .bool q4.Out, .int .i64 q5, .int .i64 q6]) sl_28 zero_65 (parts_eq (pt (va := .agg #[.string q4.Name, .bool q4.Out, .int .i64 q5, .int .i64 q6]) q1a pt0)) rfl (by intro v hv; simp only [List.mem_cons, List.not_mem_nil, or_false] at hv; first | (subst hv; rfl) | (rcases hv with rfl <;> rfl)) (by decide) rfl hS (fun b80 w' hS => ?_)
     refine x_done <| ?_
     refine x_fin ⟨⟨_, rfl⟩, rfl, ?_⟩
     exact emk hS
    ·intro Ep13 w l' hE13 hO13 hF_ hS
     obtain ⟨q1b, q1c, -⟩ := hF_
     replace q1b : Ep13 78 = .slice q3 q2.length c_b_f1_5_L3h := emk q1b
     replace q1c : Ep13 80 = .slice (some ⟨(blkOf (Ep13 80)), 0, none⟩) 1 1 := emk q1c
     replace hS : St w0 w (cells (blkOf (Ep13 80)) 65 [.string q4.Name, .bool q4.Out, .int .i64 q5, .int .i64 q6] :: ro ρ :: vec 65 R_floor_Port.sz (.slice q3 q2.length c_b_f1_5_L3h) q2.length q0a :: l') := emk hS
     refine o_ap sl_28 zero_65 rfl (by decide) q1b q1c (hS.pull 2) q0u (src_blk usl_28 hS rfl rfl) (RepL.cons (R := R_floor_Port) (ρ := ρ) (x := (T_floor_Port.mk q4.Name q4.Out q5 q6)) (cs := [.string q4.Name, .bool q4.Out, .int .i64 q5, .int .i64 q6]) rfl RepL.nil) q2v q2w (fun A81 c81 cs81 w' hr81 hS => ?_)
     refine x_done <| ?_
     refine x_fin ⟨⟨_, rfl⟩, rfl, ?_⟩
     replace hS := St.bun (Φ := (fun (cs81 : List Value) => RepL R_floor_Port ρ q0c cs81)) (L := (fun (cs81 : List Value) => [vec 65 R_floor_Port.sz (.slice A81 q0c.length c81) q0c.length cs81])) cs81 hr81 hS
     exact emk ((hS.pull 2).pull 2)
    ·intro Ep13 w l' hE13 hO13 hF_ hS
     obtain ⟨q1d, -⟩ := hF_
     replace q1d : Ep13 74 = .pointer (some ⟨q7, 0, none⟩) := emk q1d
     refine p (yl_nilCheck q1d) <| x_done <| ?_
     refine x_fin ⟨⟨_, rfl⟩, rfl, ?_⟩
     exact emk hS
    ·intro Ep13 w l' hE13 hO13 hF_ hS
     obtain ⟨q1e, -⟩ := hF_
     replace q1e : Ep13 82 = .pointer (some ⟨q7, 0, none⟩) := emk q1e
     refine p (yl_field0 fld_30_5 q1e) <| x_done <| ?_
     refine x_fin ⟨⟨_, rfl⟩, rfl, ?_⟩
     exact emk hS
    ·intro Ep13 w l' hE13 hO13 hF_ hS
     obtain ⟨q1f, q1g, -⟩ := hF_
     replace q1f : Ep13 81 = .slice (adOf (Ep13 81)) q0c.length (capOf (Ep13 81)) := emk q1f
     replace q1g : Ep13 83 = .pointer (some ⟨q7, 5, none⟩) := emk q1g
     replace hS : St w0 w (cells q7 30 [.int .i64 f1.Rows, .int .i64 f1.Sites, .int .i64 f1.Layers, .slice q8 f1.Blocks.length c_f1_3, .slice q9 f1.Walls.length c_f1_4, .slice q3 q2.length c_b_f1_5_L3h] :: l') := emk hS
     refine o_store1 (v := .slice (adOf (Ep13 81)) q0c.length (capOf (Ep13 81))) one_28 q1g q1f rfl rfl hS (fun w' hS => ?_)
     refine x_done <| ?_
     refine x_fin ⟨⟨undef, rfl⟩, trivial, ?_⟩
     exact emk hS
   intro Ep13 w' hE13 hF_ hS
   obtain ⟨q1d, q17, q18, q19, q1b, q1a, q1c, q1f, q1e, q1g, -⟩ := hF_
   replace q1d : Ep13 74 = .pointer (some ⟨q7, 0, none⟩) := emk q1d
   replace q17 : Ep13 75 = .pointer (some ⟨q7, 0, none⟩) := emk q17
   replace q18 : Ep13 76 = .pointer (some ⟨q7, 0, none⟩) := emk q18
   replace q19 : Ep13 77 = .pointer (some ⟨q7, 5, none⟩) := emk q19
   replace q1b : Ep13 78 = .slice q3 q2.length c_b_f1_5_L3h := emk q1b
   replace q1a : Ep13 79 = .agg #[.string q4.Name, .bool q4.Out, .int .i64 q5, .int .i64 q6] := emk q1a
   replace q1c : Ep13 80 = .slice (some ⟨(blkOf (Ep13 80)), 0, none⟩) 1 1 := emk q1c
   replace q1f : Ep13 81 = .slice (adOf (Ep13 81)) q0c.length (capOf (Ep13 81)) := emk q1f
   replace q1e : Ep13 82 = .pointer (some ⟨q7, 0, none⟩) := emk q1e
   replace q1g : Ep13 83 = .pointer (some ⟨q7, 5, none⟩) := emk q1g
   replace hS : St w0 w' (cells b10 65 [.string q4.Name, .bool q4.Out, .int .i64 q5, .int .i64 q6] :: cells (blkOf (Ep13 80)) 65 [.string q4.Name, .bool q4.Out, .int .i64 q5, .int .i64 q6] :: ro ρ :: bunA (fun (cs81 : List Value) => RepL R_floor_Port ρ q0c cs81) (fun (cs81 : List Value) => [vec 65 R_floor_Port.sz (.slice (adOf (Ep13 81)) q0c.length (capOf (Ep13 81))) q0c.length cs81]) :: cells q7 30 [.int .i64 f1.Rows, .int .i64 f1.Sites, .int .i64 f1.Layers, .slice q8 f1.Blocks.length c_f1_3, .slice q9 f1.Walls.length c_f1_4, .slice (adOf (Ep13 81)) q0c.length (capOf (Ep13 81))] :: (cells q0m 25 [.slice q0i s0.L.length c_s0_0, .int .i64 q0b] :: vec 60 R_floor_Block.sz (.slice q8 f1.Blocks.length c_f1_3) f1.Blocks.length q0g :: vec 62 R_floor_Wall.sz (.slice q9 f1.Walls.length c_f1_4) f1.Walls.length q0h :: l)) := emk hS
   have q_ := St.unbun (hS.pull 3); obtain ⟨cs81, hr81, hS⟩ := q_
   replace hFL3 := ar_s hFL3; obtain ⟨x89, hx89, hFL3⟩ := hFL3
   replace hFL3 := ck_s hFL3; obtain ⟨q2x, hFL3⟩ := hFL3
   replace hFL3 := ar_s hFL3; obtain ⟨x90, hx90, hFL3⟩ := hFL3
   replace hFL3 := ar_s hFL3; obtain ⟨x91, hx91, hFL3⟩ := hFL3
   replace hFL3 := lv_s hFL3; obtain ⟨x92, hx92, hFL3⟩ := hFL3
   replace hFL3 := bd_s hFL3; obtain ⟨q33, q2y, hFL3⟩ := hFL3
   refine x_region <| p (yl_move ((hE13 8 rfl).trans q2u)) <| p (yl_move ((hE13 0 rfl).trans q1v)) <| p (yl_move ((hE13 11 rfl).trans q2b)) <|
    p (yl_move ((hE13 2 rfl).trans q1w)) <| p (yl_len_slice usl_28 rfl) <| p (yadd rfl rfl hx89) <| p (yquo rfl rfl q2x hx90) <|
    p (ysub rfl rfl hx91) <| p (ymax' rfl rfl hx92) <| ?_
   have hcall := c_maskmake_Stream_Next q2y q1p ((hS.pull 3).pull 5)
   refine o_cc call_6 (args2 rfl rfl) hcall ?_
   rintro e w' ⟨rfl, hS⟩
   refine ⟨_, rfl, ?_⟩
   replace hFL3 := ar_s hFL3; obtain ⟨x94, hx94, hFL3⟩ := hFL3
   replace hFL3 := ar_s hFL3; obtain ⟨x95, hx95, hFL3⟩ := hFL3
   replace hFL3 := ar_s hFL3; obtain ⟨x96, hx96, hFL3⟩ := hFL3
   refine p (yadd rfl rfl hx94) <| p (yadd rfl rfl hx95) <| p (yl_assign rfl) <| x_done <|
    x_blk <| x_region <| p (yadd ((hE13 23 rfl).trans q2e) rfl hx96) <| p (yl_move rfl) <|
    x_done <| ?_
   have e_ := sinj hFL3; subst e_
   exact x_inv ⟨kL3, Nat.lt_succ_self _, (adOf (Ep13 81)), q0c.length, (capOf (Ep13 81)), cs81, x95, x96, q33.2, q0c, hLL3, ((hE13 0 rfl).trans q1v), ((hE13 1 rfl).trans q1r), ((hE13 2 rfl).trans q1w), ((hE13 6 rfl).trans q2s), ((hE13 7 rfl).trans q2t), rfl, ((hE13 21 rfl).trans q2c), ((hE13 22 rfl).trans q2d), rfl, hr81, ((((((((hS.pull 3).drop.pull 3).drop.pull 1).pull 2).pull 5).pull 5).pull 5).pull 5)⟩
  ·replace hFL3 := it_f hc24 hFL3
   refine x_exitTo _ rfl <| ?_
   have e_ := sinj hFL3; subst e_
   exact x_inv ⟨q3, q2.length, c_b_f1_5_L3h, q0a, q0b, q2, hLL3, q0u, ((((((hS.pull 5).pull 5).pull 5).pull 5).pull 5).pull 5)⟩
 rintro E w ⟨q0p, q0q, c_b_f1_5_L3, q0j, q16, q0v, rfl, q1h, hS⟩
 have e_ := St.vec_n (hS.pull 4) q1h; subst e_
 have e_ := sinj hF; subst e_
 exact x_fin ⟨_, rfl, q0p, q0v.length, c_b_f1_5_L3, q0j, rfl, q1h, ((((((hS.pull 5).pull 5).pull 5).pull 5).pull 5).pull 5)⟩
attribute [irreducible] P_maskmake_Stream_ports

def P_maskmake_Stream_Floor_L4 (s0 : T_maskmake_Stream) (q0a : (Int × Int)) (q8 : (Int × Int)) (q0b : (Int × Int)) : (Int × Int × List T_floor_Block) → Option ((Int × Int × List T_floor_Block) ⊕ (Int × List T_floor_Block)) := fun (q4, q2, q3) =>
 if q4 < q0b.1 then
  bd (P_maskmake_Stream_Next (T_maskmake_Stream.mk s0.L q2) q8.1) fun q5 =>
  bd (P_maskmake_Stream_Next (T_maskmake_Stream.mk s0.L q5.2) q0a.1) fun q9 =>
  ar (q5.1 + 1) fun x40 =>
  bd (P_maskmake_Stream_Range (T_maskmake_Stream.mk s0.L q9.2) x40 q8.1) fun q6 =>
  lv (q3 ++ [(T_floor_Block.mk q9.1 q5.1 q6.1)]) fun q7 =>
  ck (apOk 24 q7.length) <|
  ar (q4 + 1) fun x48 =>
  some (Sum.inl (x48, q6.2, q7))
 else
  some (Sum.inr (q2, q3))
def P_maskmake_Stream_Floor_L9 (s0 : T_maskmake_Stream) (q0c : (Int × Int)) (q5 : (Int × Int)) (q0d : (Int × Int)) : (Int × Int × List T_floor_Wall) → Option ((Int × Int × List T_floor_Wall) ⊕ (Int × List T_floor_Wall)) := fun (q4, q2, q3) =>
 if q4 < q0d.1 then
  bd (P_maskmake_Stream_Next (T_maskmake_Stream.mk s0.L q2) q5.1) fun q6 =>
  bd (P_maskmake_Stream_Next (T_maskmake_Stream.mk s0.L q6.2) q5.2) fun q7 =>
  bd (P_maskmake_Stream_Next (T_maskmake_Stream.mk s0.L q7.2) q0c.1) fun q0b =>
  ar (q5.1 - 1) fun x68 =>
  bd (P_maskmake_Stream_Next (T_maskmake_Stream.mk s0.L q0b.2) 6) fun q8 =>
  ar (q6.1 + q8.1) fun x72 =>
  lv (min x68 x72) fun x73 =>
  ar (q5.2 - 1) fun x75 =>
  bd (P_maskmake_Stream_Next (T_maskmake_Stream.mk s0.L q8.2) 6) fun q9 =>
  ar (q7.1 + q9.1) fun x79 =>
  lv (min x75 x79) fun x80 =>
  lv (q3 ++ [(T_floor_Wall.mk q0b.1 q6.1 q7.1 x73 x80)]) fun q0a =>
  ck (apOk 40 q0a.length) <|
  ar (q4 + 1) fun x85 =>
  some (Sum.inl (x85, q9.2, q0a))
 else
  some (Sum.inr (q2, q3))
def P_maskmake_Stream_Floor_L15 (q6 : (Int × Int)) : (List T_floor_Port × Int) → Option ((List T_floor_Port × Int) ⊕ List T_floor_Port) := fun (q3, q2) =>
 if q2 < q6.1 then
  ck ((2 : Int) ≠ 0) <|
  ar (Int.tdiv q2 2) fun x93 =>
  bd (P_strconv_Itoa x93) fun q5 =>
  ck ((⟨#[112]⟩ : ByteArray).size + q5.size ≤ 140737488355328) <|
  ck ((2 : Int) ≠ 0) <|
  lv (Int.tmod q2 2) fun x97 =>
  lv (q3 ++ [(T_floor_Port.mk ((⟨#[112]⟩ : ByteArray) ++ q5) (decide (x97 = 1)) 0 0)]) fun q4 =>
  ck (apOk 40 q4.length) <|
  ar (q2 + 1) fun x102 =>
  some (Sum.inl (q4, x102))
 else
  some (Sum.inr q3)
def P_maskmake_Stream_Floor (s0 : T_maskmake_Stream) : Option (T_floor_Floor × Int) :=
 bd (P_maskmake_Stream_Range s0 1 5) fun q2 =>
 bd (P_maskmake_Stream_Range (T_maskmake_Stream.mk s0.L q2.2) 1 10) fun q3 =>
 bd (P_maskmake_Stream_Range (T_maskmake_Stream.mk s0.L q3.2) 2 4) fun q4 =>
 bd (P_floor_Size (T_floor_Floor.mk q2.1 q3.1 q4.1 [] [] [])) fun q0h =>
 bd (P_maskmake_Stream_Next (T_maskmake_Stream.mk s0.L q4.2) 4) fun q0f =>
 bd (
  lp (P_maskmake_Stream_Floor_L4 s0 q2 q3 q0f) fuel (0, q0f.2, [])) fun (q7, q5) =>
 bd (P_maskmake_Stream_Next (T_maskmake_Stream.mk s0.L q7) 4) fun q0g =>
 bd (
  lp (P_maskmake_Stream_Floor_L9 s0 q4 q0h q0g) fuel (0, q0g.2, [])) fun (q8, q6) =>
 bd (P_maskmake_Stream_Next (T_maskmake_Stream.mk s0.L q8) 5) fun q0a =>
 bd (
  lp (P_maskmake_Stream_Floor_L15 q0a) fuel ([], 0)) fun q9 =>
 bd (P_maskmake_Stream_Flip (T_maskmake_Stream.mk s0.L q0a.2) 2) fun q0b =>
 bd (
  if q0b.1 = true then
   lv (q9 ++ [(T_floor_Port.mk (⟨#[]⟩ : ByteArray) false 0 0)]) fun q0c =>
   ck (apOk 40 q0c.length) <|
   some q0c
  else
   some q9) fun q0e =>
 bd (P_maskmake_Stream_ports (T_maskmake_Stream.mk s0.L q0b.2) (T_floor_Floor.mk q2.1 q3.1 q4.1 q5 q6 []) q0e) fun q0d =>
 some ((T_floor_Floor.mk q2.1 q3.1 q4.1 q5 q6 q0d.2), q0d.1)
theorem c_maskmake_Stream_Floor {w0 w : World} {l : List Assn} {ρ : Heap} {q4 : Nat} {q5 : Option Addr} {q3j : Nat} {c_s0_0 : Nat} {s0 : T_maskmake_Stream} {r : (T_floor_Floor × Int)} (hF : P_maskmake_Stream_Floor s0 = some r) (q0h : RdS (RpI .i64) ρ q5 q3j c_s0_0 s0.L) (hS : St w0 w (cells q4 25 [.slice q5 q3j c_s0_0, .int .i64 s0.fat] :: ro ρ :: l)) :
  Calls Tryd.prog 4 #[.pointer (some ⟨q4, 0, none⟩)] w fun e w' => ∃ (q2z : Option Addr) (q1r : Nat) (c_y0_ret_3 : Nat) (q2u : List Value) (q30 : Option Addr) (q1s : Nat) (c_y0_ret_4 : Nat) (q2v : List Value) (q31 : Option Addr) (q1t : Nat) (c_y0_ret_5 : Nat) (q2w : List Value), e = .returned (.agg #[.int .i64 r.1.Rows, .int .i64 r.1.Sites, .int .i64 r.1.Layers, .slice q2z q1r c_y0_ret_3, .slice q30 q1s c_y0_ret_4, .slice q31 q1t c_y0_ret_5]) ∧ RepL R_floor_Block ρ r.1.Blocks q2u ∧ RepL R_floor_Wall ρ r.1.Walls q2v ∧ RepL R_floor_Port ρ r.1.Ports q2w ∧ St w0 w' (vec 60 R_floor_Block.sz (.slice q2z q1r c_y0_ret_3) q1r q2u :: vec 62 R_floor_Wall.sz (.slice q30 q1s c_y0_ret_4) q1s q2v :: vec 65 R_floor_Port.sz (.slice q31 q1t c_y0_ret_5) q1t q2w :: cells q4 25 [.slice q5 q3j c_s0_0, .int .i64 r.2] :: ro ρ :: l) := by
 have e_ := q0h.n; subst e_
 refine enterC Tryd.func4 rfl 113 rfl (by simp) ?_
 refine x_seq <| x_region <| ?_
 refine o_alloc zero_30 hS (fun b2 w' hS => ?_)
 replace hF := bd_s hF; obtain ⟨q0a, q51, hF⟩ := hF
 refine x_done <| x_seq <| x_region <| p (yl_move rfl) <| ?_
 have hcall := c_maskmake_Stream_Range q51 q0h ((hS.pull 2).pull 2)
 refine o_cc call_15 (args3 rfl rfl rfl) hcall ?_
 rintro e w' ⟨rfl, hS⟩
 refine ⟨_, rfl, ?_⟩
 replace hF := bd_s hF; obtain ⟨q0b, q52, hF⟩ := hF
 refine p (yl_move rfl) <| ?_
 have hcall := c_maskmake_Stream_Range q52 q0h ((hS.pull 1).pull 1)
 refine o_cc call_15 (args3 rfl rfl rfl) hcall ?_
 rintro e w' ⟨rfl, hS⟩
 refine ⟨_, rfl, ?_⟩
 replace hF := bd_s hF; obtain ⟨q0c, q53, hF⟩ := hF
 refine p (yl_move rfl) <| ?_
 have hcall := c_maskmake_Stream_Range q53 q0h ((hS.pull 1).pull 1)
 refine o_cc call_15 (args3 rfl rfl rfl) hcall ?_
 rintro e w' ⟨rfl, hS⟩
 refine ⟨_, rfl, ?_⟩
 refine p (v := .agg #[.int .i64 q0a.1, .int .i64 q0b.1, .int .i64 q0c.1, .slice none 0 0, .slice none 0 0, .slice none 0 0]) (yl_build bld_30 bldf_30 (parts_eq (pt (va := .int .i64 q0a.1) rfl (pt (va := .int .i64 q0b.1) rfl (pt (va := .int .i64 q0c.1) rfl pt0)))) (by kernel_rfl)) <| ?_
 refine o_alloc zero_30 hS (fun b3 w' hS => ?_)
 refine o_storeAgg (news := [.int .i64 q0a.1, .int .i64 q0b.1, .int .i64 q0c.1, .slice none 0 0, .slice none 0 0, .slice none 0 0]) agg_30 rfl rfl rfl (by simp [over_length]) hS (fun w' hS => ?_)
 replace hF := bd_s hF; obtain ⟨q0u, q54, hF⟩ := hF
 refine x_done <| x_seq <| x_region <| pa (v := .agg #[.int .i64 q0a.1, .int .i64 q0b.1, .int .i64 q0c.1, .slice none 0 0, .slice none 0 0, .slice none 0 0]) (ld_sub agg_30 rfl rfl rfl hS) <| ?_
 have hcall := c_floor_Size q54 (RdS.nil (A := none) (c := 0)) (RdS.nil (A := none) (c := 0)) (RdS.nil (A := none) (c := 0)) (hS.pull 2)
 refine o_cc call_5 (args1 rfl) ((Calls.mono hcall (fun e w'' h => And.intro h.1 ((((h.2.pull 3).pull 1).pull 3).pull 3)))) ?_
 rintro e w' ⟨rfl, hS⟩
 refine ⟨_, rfl, ?_⟩
 replace hF := bd_s hF; obtain ⟨q3y, q55, hF⟩ := hF
 refine p (v := .tuple #[.int .i64 q0u.1, .int .i64 q0u.2]) (yl_move rfl) <| p (yl_extract rfl rfl) <| p (yl_extract rfl rfl) <| p (yl_assign rfl) <|
  p (yl_assign rfl) <| x_done <| x_seq <| x_seq <|
  x_region <| p (yl_move rfl) <| ?_
 have hcall := c_maskmake_Stream_Next q55 q0h ((hS.pull 2).pull 2)
 refine o_cc call_6 (args2 rfl rfl) hcall ?_
 rintro e w' ⟨rfl, hS⟩
 refine ⟨_, rfl, ?_⟩
 refine p (yl_move rfl) <| x_done <| ?_
 replace hF := bd_s hF; obtain ⟨oL4, hLL4, hF⟩ := hF
 refine x_join (fun E w => ∃ (q2 : Option Addr) (q13 : Nat) (c_b3_3_L4 : Nat) (q0f : List Value) (q21 : Int) (q3 : List T_floor_Block), (q21, q3) = oL4 ∧ E 0 = .pointer (some ⟨q4, 0, none⟩) ∧ E 2 = .pointer (some ⟨b2, 0, none⟩) ∧ E 3 = .pointer (some ⟨b3, 0, none⟩) ∧ E 4 = .int .i64 q0u.1 ∧ E 5 = .int .i64 q0u.2 ∧ RepL R_floor_Block ρ q3 q0f ∧ St w0 w (cells q4 25 [.slice q5 s0.L.length c_s0_0, .int .i64 q21] :: cells b2 30 [.int .i64 0, .int .i64 0, .int .i64 0, .slice none 0 0, .slice none 0 0, .slice none 0 0] :: cells b3 30 [.int .i64 q0a.1, .int .i64 q0b.1, .int .i64 q0c.1, .slice q2 q13 c_b3_3_L4, .slice none 0 0, .slice none 0 0] :: vec 60 R_floor_Block.sz (.slice q2 q13 c_b3_3_L4) q13 q0f :: ro ρ :: l)) ?_ ?_
 ·refine x_block ?_
  replace hS := St.vec_nil hS 60 R_floor_Block.sz
  have q32 : RepL R_floor_Block ρ [] [] := rfl
  refine x_loop (fun k_ E w => ∃ (q6 : Option Addr) (q0w : Nat) (c_b3_3_L4h : Nat) (q0q : List Value) (q2b : Int) (q0x : Int) (q7 : List T_floor_Block), lp (P_maskmake_Stream_Floor_L4 s0 q0a q0b q3y) k_ (q2b, q0x, q7) = some oL4 ∧ E 0 = .pointer (some ⟨q4, 0, none⟩) ∧ E 2 = .pointer (some ⟨b2, 0, none⟩) ∧ E 3 = .pointer (some ⟨b3, 0, none⟩) ∧ E 4 = .int .i64 q0u.1 ∧ E 5 = .int .i64 q0u.2 ∧ E 24 = .int .i64 q3y.1 ∧ E 25 = .int .i64 q2b ∧ RepL R_floor_Block ρ q7 q0q ∧ St w0 w (cells q4 25 [.slice q5 s0.L.length c_s0_0, .int .i64 q0x] :: cells b2 30 [.int .i64 0, .int .i64 0, .int .i64 0, .slice none 0 0, .slice none 0 0, .slice none 0 0] :: cells b3 30 [.int .i64 q0a.1, .int .i64 q0b.1, .int .i64 q0c.1, .slice q6 q0w c_b3_3_L4h, .slice none 0 0, .slice none 0 0] :: vec 60 R_floor_Block.sz (.slice q6 q0w c_b3_3_L4h) q0w q0q :: ro ρ :: l)) fuel ⟨none, 0, 0, [], 0, q3y.2, [], hLL4, rfl, rfl, rfl, rfl, rfl, rfl, rfl, q32, (((((hS.pull 2).pull 1).pull 3).pull 4).pull 4)⟩ ?_
  rintro kL4 E w ⟨q6, q0w, c_b3_3_L4h, q0q, q2b, q0x, q7, hLL4, q22, q40, q11, q41, q42, q3o, q3p, q1u, hS⟩
  have e_ := St.vec_n (hS.pull 3) q1u; subst e_
  replace hLL4 := lp_s hLL4; obtain ⟨kL4, obL4, rfl, hFL4, hLL4⟩ := hLL4
  refine x_seq <| x_region <| p (yl_lss q3p q3o) <| x_done <|
   x_seq <|
   x_cond_p (q2b < q3y.1) rfl (fun hc26 => ?_) (fun hc26 => ?_)
  ·replace hFL4 := it_t hc26 hFL4
   replace hFL4 := bd_s hFL4; obtain ⟨q0n, q56, hFL4⟩ := hFL4
   refine x_skip <| x_seq <| x_block <| x_seq <|
    x_region <| p (yl_move q22) <| p (yl_field0 fld_30_1 q11) <| pa (at_load one_3 rfl ((hS.pull 2).cell rfl)) <| ?_
   have hcall := c_maskmake_Stream_Next q56 q0h ((hS.pull 4).pull 1)
   refine o_cc call_6 (args2 rfl rfl) hcall ?_
   rintro e w' ⟨rfl, hS⟩
   refine ⟨_, rfl, ?_⟩
   refine p (yl_assign rfl) <| x_done <| ?_
   replace hFL4 := bd_s hFL4; obtain ⟨q0s, q57, hFL4⟩ := hFL4
   replace hFL4 := ar_s hFL4; obtain ⟨x40, hx40, hFL4⟩ := hFL4
   replace hFL4 := bd_s hFL4; obtain ⟨q0j, q4m, hFL4⟩ := hFL4
   replace hFL4 := lv_s hFL4; obtain ⟨q0m, q4n, hFL4⟩ := hFL4
   replace hFL4 := ck_s hFL4; obtain ⟨q4o, hFL4⟩ := hFL4
   refine x_par (w0 := w0) [⟨[], [], [31], [], [], [], none⟩, ⟨[0], [0], [32], [0], [], [], none⟩, ⟨[], [], [33], [], [], [], none⟩, ⟨[], [], [34], [], [], [], none⟩, ⟨[3], [3], [35], [0], [], [], none⟩, ⟨[2, 3, 4], [2, 4], [36], [2], [1], [3], none⟩, ⟨[], [], [37], [], [], [], none⟩, ⟨[], [], [38], [], [], [], none⟩, ⟨[], [], [39], [], [], [], none⟩, ⟨[8], [8], [40], [], [], [], none⟩, ⟨[], [], [41], [], [], [], none⟩, ⟨[10], [10], [42], [0], [], [], none⟩, ⟨[2, 3, 4, 5, 7, 8, 9, 10, 11], [7, 9, 11], [43], [2], [3], [4], none⟩, ⟨[2, 3, 4, 5, 6, 7, 8, 9, 10, 11, 12], [5, 6, 12], [44], [], [], [], none⟩, ⟨[2, 3, 4, 5, 6, 7, 8, 9, 10, 11, 12, 13], [13], [45], [], [], [5], none⟩, ⟨[0, 1, 2, 3, 4, 5, 6, 7, 8, 9, 10, 11, 12, 13, 14], [1, 14], [46], [5, 2], [6], [7], none⟩, ⟨[0, 1, 2, 3, 4, 5, 6, 7, 8, 9, 10, 11, 12, 13, 14, 15], [], [47], [], [], [], none⟩, ⟨[0, 1, 2, 3, 4, 5, 6, 7, 8, 9, 10, 11, 12, 13, 14, 15, 16], [15, 16], [], [], [0], [8], none⟩] [⟨none, (some 17), []⟩, ⟨none, (some 5), []⟩, ⟨none, none, []⟩, ⟨(some 5), (some 12), []⟩, ⟨(some 12), none, []⟩, ⟨(some 14), none, [45]⟩, ⟨none, (some 15), []⟩, ⟨(some 15), none, [46]⟩, ⟨(some 17), none, [46]⟩] [31, 32, 33, 34, 35, 36, 37, 38, 39, 40, 41, 42, 43, 44, 45, 46, 47] [0, 1, 2, 6] [2, 4, 5, 7, 8] [0, 1, 2, 3, 4, 5, 6, 7, 8, 9, 10, 11, 12, 13, 14, 15, 16] [fun Ep6 => Ep6 31 = .pointer (some ⟨b3, 3, none⟩), fun Ep6 => Ep6 32 = .slice q6 q7.length c_b3_3_L4h, fun Ep6 => Ep6 33 = .pointer (some ⟨q4, 0, none⟩), fun Ep6 => Ep6 34 = .pointer (some ⟨b3, 0, none⟩), fun Ep6 => Ep6 35 = .int .i64 q0a.1, fun Ep6 => Ep6 36 = .int .i64 q0s.1, fun Ep6 => Ep6 37 = .int .i64 q0n.1, fun Ep6 => Ep6 38 = .pointer (some ⟨q4, 0, none⟩), fun Ep6 => Ep6 39 = .int .i64 q0n.1, fun Ep6 => Ep6 40 = .int .i64 x40, fun Ep6 => Ep6 41 = .pointer (some ⟨b3, 1, none⟩), fun Ep6 => Ep6 42 = .int .i64 q0b.1, fun Ep6 => Ep6 43 = .int .i64 q0j.1, fun Ep6 => Ep6 44 = .agg #[.int .i64 q0s.1, .int .i64 q0n.1, .int .i64 q0j.1], fun Ep6 => Ep6 45 = .slice (some ⟨(blkOf (Ep6 45)), 0, none⟩) 1 1, fun Ep6 => Ep6 46 = .slice (adOf (Ep6 46)) q0m.length (capOf (Ep6 46)), fun Ep6 => Ep6 47 = .pointer (some ⟨b3, 3, none⟩), fun Ep6 => True] [fun Ep6 => cells b3 30 [.int .i64 q0a.1, .int .i64 q0b.1, .int .i64 q0c.1, .slice q6 q7.length c_b3_3_L4h, .slice none 0 0, .slice none 0 0], fun Ep6 => cells q4 25 [.slice q5 s0.L.length c_s0_0, .int .i64 q0n.2], fun Ep6 => ro ρ, fun Ep6 => cells q4 25 [.slice q5 s0.L.length c_s0_0, .int .i64 q0s.2], fun Ep6 => cells q4 25 [.slice q5 s0.L.length c_s0_0, .int .i64 q0j.2], fun Ep6 => cells (blkOf (Ep6 45)) 60 [.int .i64 q0s.1, .int .i64 q0n.1, .int .i64 q0j.1], fun Ep6 => vec 60 R_floor_Block.sz (.slice q6 q7.length c_b3_3_L4h) q7.length q0q, fun Ep6 => bunA (fun (cs46 : List Value) => RepL R_floor_Block ρ q0m cs46) (fun (cs46 : List Value) => [vec 60 R_floor_Block.sz (.slice (adOf (Ep6 46)) q0m.length (capOf (Ep6 46))) q0m.length cs46]), fun Ep6 => cells b3 30 [.int .i64 q0a.1, .int .i64 q0b.1, .int .i64 q0c.1, .slice (adOf (Ep6 46)) q0m.length (capOf (Ep6 46)), .slice none 0 0, .slice none 0 0]] mixed (by kernel_rfl) ((((hS.pull 4).pull 2).pull 2).pull 4) ?_ ?_
   ·refine ⟨?_, ?_, ?_, ?_, ?_, ?_, ?_, ?_, ?_, ?_, ?_, ?_, ?_, ?_, ?_, ?_, ?_, ?_, trivial⟩
    ·intro Ep6 w l' hE6 hO6 hF_ hS
     refine p (yl_field0 fld_30_3 ((hE6 3 rfl).trans q11)) <| x_done <| ?_
     refine x_fin ⟨⟨_, rfl⟩, rfl, ?_⟩
     exact emk hS
    ·intro Ep6 w l' hE6 hO6 hF_ hS
     obtain ⟨q35, -⟩ := hF_
     replace q35 : Ep6 31 = .pointer (some ⟨b3, 3, none⟩) := emk q35
     replace hS : St w0 w (cells b3 30 [.int .i64 q0a.1, .int .i64 q0b.1, .int .i64 q0c.1, .slice q6 q7.length c_b3_3_L4h, .slice none 0 0, .slice none 0 0] :: l') := emk hS
     refine pa (at_load one_26 q35 (hS.cell rfl)) <| x_done <| ?_
     refine x_fin ⟨⟨_, rfl⟩, rfl, ?_⟩
     exact emk hS
    ·intro Ep6 w l' hE6 hO6 hF_ hS
     refine p (yl_move ((hE6 0 rfl).trans q22)) <| x_done <| ?_
     refine x_fin ⟨⟨_, rfl⟩, rfl, ?_⟩
     exact emk hS
    ·intro Ep6 w l' hE6 hO6 hF_ hS
     refine p (yl_field0 fld_30_0 ((hE6 3 rfl).trans q11)) <| x_done <| ?_
     refine x_fin ⟨⟨_, rfl⟩, rfl, ?_⟩
     exact emk hS
    ·intro Ep6 w l' hE6 hO6 hF_ hS
     obtain ⟨q36, -⟩ := hF_
     replace q36 : Ep6 34 = .pointer (some ⟨b3, 0, none⟩) := emk q36
     replace hS : St w0 w (cells b3 30 [.int .i64 q0a.1, .int .i64 q0b.1, .int .i64 q0c.1, .slice q6 q7.length c_b3_3_L4h, .slice none 0 0, .slice none 0 0] :: l') := emk hS
     refine pa (at_load one_3 q36 (hS.cell rfl)) <| x_done <| ?_
     refine x_fin ⟨⟨_, rfl⟩, rfl, ?_⟩
     exact emk hS
    ·intro Ep6 w l' hE6 hO6 hF_ hS
     obtain ⟨q37, q38, -⟩ := hF_
     replace q37 : Ep6 33 = .pointer (some ⟨q4, 0, none⟩) := emk q37
     replace q38 : Ep6 35 = .int .i64 q0a.1 := emk q38
     replace hS : St w0 w (ro ρ :: cells q4 25 [.slice q5 s0.L.length c_s0_0, .int .i64 q0n.2] :: l') := emk hS
     have hcall := c_maskmake_Stream_Next q57 q0h (hS.pull 1)
     refine o_cc call_6 (args2 q37 q38) hcall ?_
     rintro e w' ⟨rfl, hS⟩
     refine ⟨_, rfl, ?_⟩
     refine x_done <| ?_
     refine x_fin ⟨⟨_, rfl⟩, rfl, ?_⟩
     exact emk (hS.pull 1)
    ·intro Ep6 w l' hE6 hO6 hF_ hS
     refine p (yl_move (hE6 6 rfl)) <| x_done <| ?_
     refine x_fin ⟨⟨_, rfl⟩, rfl, ?_⟩
     exact emk hS
    ·intro Ep6 w l' hE6 hO6 hF_ hS
     refine p (yl_move ((hE6 0 rfl).trans q22)) <| x_done <| ?_
     refine x_fin ⟨⟨_, rfl⟩, rfl, ?_⟩
     exact emk hS
    ·intro Ep6 w l' hE6 hO6 hF_ hS
     refine p (yl_move (hE6 6 rfl)) <| x_done <| ?_
     refine x_fin ⟨⟨_, rfl⟩, rfl, ?_⟩
     exact emk hS
    ·intro Ep6 w l' hE6 hO6 hF_ hS
     obtain ⟨q39, -⟩ := hF_
     replace q39 : Ep6 39 = .int .i64 q0n.1 := emk q39
     refine p (yadd q39 rfl hx40) <| x_done <| ?_
     refine x_fin ⟨⟨_, rfl⟩, rfl, ?_⟩
     exact emk hS
    ·intro Ep6 w l' hE6 hO6 hF_ hS
     refine p (yl_field0 fld_30_1 ((hE6 3 rfl).trans q11)) <| x_done <| ?_
     refine x_fin ⟨⟨_, rfl⟩, rfl, ?_⟩
     exact emk hS
    ·intro Ep6 w l' hE6 hO6 hF_ hS
     obtain ⟨q2c, -⟩ := hF_
     replace q2c : Ep6 41 = .pointer (some ⟨b3, 1, none⟩) := emk q2c
     replace hS : St w0 w (cells b3 30 [.int .i64 q0a.1, .int .i64 q0b.1, .int .i64 q0c.1, .slice q6 q7.length c_b3_3_L4h, .slice none 0 0, .slice none 0 0] :: l') := emk hS
     refine pa (at_load one_3 q2c (hS.cell rfl)) <| x_done <| ?_
     refine x_fin ⟨⟨_, rfl⟩, rfl, ?_⟩
     exact emk hS
    ·intro Ep6 w l' hE6 hO6 hF_ hS
     obtain ⟨q3a, q3b, q2d, -⟩ := hF_
     replace q3a : Ep6 38 = .pointer (some ⟨q4, 0, none⟩) := emk q3a
     replace q3b : Ep6 40 = .int .i64 x40 := emk q3b
     replace q2d : Ep6 42 = .int .i64 q0b.1 := emk q2d
     replace hS : St w0 w (ro ρ :: cells q4 25 [.slice q5 s0.L.length c_s0_0, .int .i64 q0s.2] :: l') := emk hS
     have hcall := c_maskmake_Stream_Range q4m q0h (hS.pull 1)
     refine o_cc call_15 (args3 q3a q3b q2d) hcall ?_
     rintro e w' ⟨rfl, hS⟩
     refine ⟨_, rfl, ?_⟩
     refine x_done <| ?_
     refine x_fin ⟨⟨_, rfl⟩, rfl, ?_⟩
     exact emk (hS.pull 1)
    ·intro Ep6 w l' hE6 hO6 hF_ hS
     obtain ⟨q3c, q3d, q2e, -⟩ := hF_
     replace q3c : Ep6 36 = .int .i64 q0s.1 := emk q3c
     replace q3d : Ep6 37 = .int .i64 q0n.1 := emk q3d
     replace q2e : Ep6 43 = .int .i64 q0j.1 := emk q2e
     refine p (v := .agg #[.int .i64 q0s.1, .int .i64 q0n.1, .int .i64 q0j.1]) (yl_build bld_60 bldf_60 (parts_eq (pt (va := .int .i64 q0s.1) q3c (pt (va := .int .i64 q0n.1) q3d (pt (va := .int .i64 q0j.1) q2e pt0)))) (by kernel_rfl)) <| x_done <| ?_
     refine x_fin ⟨⟨_, rfl⟩, rfl, ?_⟩
     exact emk hS
    ·intro Ep6 w l' hE6 hO6 hF_ hS
     obtain ⟨q2f, -⟩ := hF_
     replace q2f : Ep6 44 = .agg #[.int .i64 q0s.1, .int .i64 q0n.1, .int .i64 q0j.1] := emk q2f
     refine o_buildSlice (vs := [.agg #[.int .i64 q0s.1, .int .i64 q0n.1, .int .i64 q0j.1]]) (cs := [.int .i64 q0s.1, .int .i64 q0n.1, .int .i64 q0j.1]) sl_26 zero_60 (parts_eq (pt (va := .agg #[.int .i64 q0s.1, .int .i64 q0n.1, .int .i64 q0j.1]) q2f pt0)) rfl (by intro v hv; simp only [List.mem_cons, List.not_mem_nil, or_false] at hv; first | (subst hv; rfl) | (rcases hv with rfl <;> rfl)) (by decide) rfl hS (fun b45 w' hS => ?_)
     refine x_done <| ?_
     refine x_fin ⟨⟨_, rfl⟩, rfl, ?_⟩
     exact emk hS
    ·intro Ep6 w l' hE6 hO6 hF_ hS
     obtain ⟨q3e, q2g, -⟩ := hF_
     replace q3e : Ep6 32 = .slice q6 q7.length c_b3_3_L4h := emk q3e
     replace q2g : Ep6 45 = .slice (some ⟨(blkOf (Ep6 45)), 0, none⟩) 1 1 := emk q2g
     replace hS : St w0 w (cells (blkOf (Ep6 45)) 60 [.int .i64 q0s.1, .int .i64 q0n.1, .int .i64 q0j.1] :: ro ρ :: vec 60 R_floor_Block.sz (.slice q6 q7.length c_b3_3_L4h) q7.length q0q :: l') := emk hS
     refine o_ap sl_26 zero_60 rfl (by decide) q3e q2g (hS.pull 2) q1u (src_blk usl_26 hS rfl rfl) (RepL.cons (R := R_floor_Block) (ρ := ρ) (x := (T_floor_Block.mk q0s.1 q0n.1 q0j.1)) (cs := [.int .i64 q0s.1, .int .i64 q0n.1, .int .i64 q0j.1]) rfl RepL.nil) q4n q4o (fun A46 c46 cs46 w' hr46 hS => ?_)
     refine x_done <| ?_
     refine x_fin ⟨⟨_, rfl⟩, rfl, ?_⟩
     replace hS := St.bun (Φ := (fun (cs46 : List Value) => RepL R_floor_Block ρ q0m cs46)) (L := (fun (cs46 : List Value) => [vec 60 R_floor_Block.sz (.slice A46 q0m.length c46) q0m.length cs46])) cs46 hr46 hS
     exact emk ((hS.pull 2).pull 2)
    ·intro Ep6 w l' hE6 hO6 hF_ hS
     refine p (yl_field0 fld_30_3 ((hE6 3 rfl).trans q11)) <| x_done <| ?_
     refine x_fin ⟨⟨_, rfl⟩, rfl, ?_⟩
     exact emk hS
    ·intro Ep6 w l' hE6 hO6 hF_ hS
     obtain ⟨q2h, q2i, -⟩ := hF_
     replace q2h : Ep6 46 = .slice (adOf (Ep6 46)) q0m.length (capOf (Ep6 46)) := emk q2h
     replace q2i : Ep6 47 = .pointer (some ⟨b3, 3, none⟩) := emk q2i
     replace hS : St w0 w (cells b3 30 [.int .i64 q0a.1, .int .i64 q0b.1, .int .i64 q0c.1, .slice q6 q7.length c_b3_3_L4h, .slice none 0 0, .slice none 0 0] :: l') := emk hS
     refine o_store1 (v := .slice (adOf (Ep6 46)) q0m.length (capOf (Ep6 46))) one_26 q2i q2h rfl rfl hS (fun w' hS => ?_)
     refine x_done <| ?_
     refine x_fin ⟨⟨undef, rfl⟩, trivial, ?_⟩
     exact emk hS
   intro Ep6 w' hE6 hF_ hS
   obtain ⟨q35, q3e, q37, q36, q38, q3c, q3d, q3a, q39, q3b, q2c, q2d, q2e, q2f, q2g, q2h, q2i, -⟩ := hF_
   replace q35 : Ep6 31 = .pointer (some ⟨b3, 3, none⟩) := emk q35
   replace q3e : Ep6 32 = .slice q6 q7.length c_b3_3_L4h := emk q3e
   replace q37 : Ep6 33 = .pointer (some ⟨q4, 0, none⟩) := emk q37
   replace q36 : Ep6 34 = .pointer (some ⟨b3, 0, none⟩) := emk q36
   replace q38 : Ep6 35 = .int .i64 q0a.1 := emk q38
   replace q3c : Ep6 36 = .int .i64 q0s.1 := emk q3c
   replace q3d : Ep6 37 = .int .i64 q0n.1 := emk q3d
   replace q3a : Ep6 38 = .pointer (some ⟨q4, 0, none⟩) := emk q3a
   replace q39 : Ep6 39 = .int .i64 q0n.1 := emk q39
   replace q3b : Ep6 40 = .int .i64 x40 := emk q3b
   replace q2c : Ep6 41 = .pointer (some ⟨b3, 1, none⟩) := emk q2c
   replace q2d : Ep6 42 = .int .i64 q0b.1 := emk q2d
   replace q2e : Ep6 43 = .int .i64 q0j.1 := emk q2e
   replace q2f : Ep6 44 = .agg #[.int .i64 q0s.1, .int .i64 q0n.1, .int .i64 q0j.1] := emk q2f
   replace q2g : Ep6 45 = .slice (some ⟨(blkOf (Ep6 45)), 0, none⟩) 1 1 := emk q2g
   replace q2h : Ep6 46 = .slice (adOf (Ep6 46)) q0m.length (capOf (Ep6 46)) := emk q2h
   replace q2i : Ep6 47 = .pointer (some ⟨b3, 3, none⟩) := emk q2i
   replace hS : St w0 w' (ro ρ :: cells q4 25 [.slice q5 s0.L.length c_s0_0, .int .i64 q0j.2] :: cells (blkOf (Ep6 45)) 60 [.int .i64 q0s.1, .int .i64 q0n.1, .int .i64 q0j.1] :: bunA (fun (cs46 : List Value) => RepL R_floor_Block ρ q0m cs46) (fun (cs46 : List Value) => [vec 60 R_floor_Block.sz (.slice (adOf (Ep6 46)) q0m.length (capOf (Ep6 46))) q0m.length cs46]) :: cells b3 30 [.int .i64 q0a.1, .int .i64 q0b.1, .int .i64 q0c.1, .slice (adOf (Ep6 46)) q0m.length (capOf (Ep6 46)), .slice none 0 0, .slice none 0 0] :: (cells b2 30 [.int .i64 0, .int .i64 0, .int .i64 0, .slice none 0 0, .slice none 0 0, .slice none 0 0] :: l)) := emk hS
   have q_ := St.unbun (hS.pull 3); obtain ⟨cs46, hr46, hS⟩ := q_
   replace hFL4 := ar_s hFL4; obtain ⟨x48, hx48, hFL4⟩ := hFL4
   refine x_blk <| x_region <| p (yadd ((hE6 25 rfl).trans q3p) rfl hx48) <| p (yl_move rfl) <|
    x_done <| ?_
   have e_ := sinj hFL4; subst e_
   exact x_inv ⟨kL4, Nat.lt_succ_self _, (adOf (Ep6 46)), q0m.length, (capOf (Ep6 46)), cs46, x48, q0j.2, q0m, hLL4, ((hE6 0 rfl).trans q22), ((hE6 2 rfl).trans q40), ((hE6 3 rfl).trans q11), ((hE6 4 rfl).trans q41), ((hE6 5 rfl).trans q42), ((hE6 24 rfl).trans q3o), rfl, hr46, ((((((hS.pull 3).drop.pull 1).pull 1).pull 3).pull 4).pull 4)⟩
  ·replace hFL4 := it_f hc26 hFL4
   refine x_exitTo _ rfl <| ?_
   have e_ := sinj hFL4; subst e_
   exact x_inv ⟨q6, q7.length, c_b3_3_L4h, q0q, q0x, q7, hLL4, q22, q40, q11, q41, q42, q1u, (((((hS.pull 4).pull 4).pull 4).pull 4).pull 4)⟩
 rintro E w ⟨q2, q13, c_b3_3_L4, q0f, q21, q3, rfl, q49, q58, q59, q5a, q5b, q23, hS⟩
 have e_ := St.vec_n (hS.pull 3) q23; subst e_
 replace hF := bd_s hF; obtain ⟨q3z, q5c, hF⟩ := hF
 refine x_seq <| x_seq <| x_region <| p (yl_move q49) <| ?_
 have hcall := c_maskmake_Stream_Next q5c q0h ((hS.pull 4).pull 1)
 refine o_cc call_6 (args2 rfl rfl) hcall ?_
 rintro e w' ⟨rfl, hS⟩
 refine ⟨_, rfl, ?_⟩
 refine p (yl_move rfl) <| x_done <| ?_
 replace hF := bd_s hF; obtain ⟨oL9, hLL9, hF⟩ := hF
 refine x_join (fun E w => ∃ (q0d : Option Addr) (q14 : Nat) (c_b3_4_L9 : Nat) (q0p : List Value) (q24 : Int) (q0e : List T_floor_Wall), (q24, q0e) = oL9 ∧ E 0 = .pointer (some ⟨q4, 0, none⟩) ∧ E 2 = .pointer (some ⟨b2, 0, none⟩) ∧ E 3 = .pointer (some ⟨b3, 0, none⟩) ∧ RepL R_floor_Wall ρ q0e q0p ∧ St w0 w (cells q4 25 [.slice q5 s0.L.length c_s0_0, .int .i64 q24] :: cells b2 30 [.int .i64 0, .int .i64 0, .int .i64 0, .slice none 0 0, .slice none 0 0, .slice none 0 0] :: cells b3 30 [.int .i64 q0a.1, .int .i64 q0b.1, .int .i64 q0c.1, .slice q2 q3.length c_b3_3_L4, .slice q0d q14 c_b3_4_L9, .slice none 0 0] :: vec 60 R_floor_Block.sz (.slice q2 q3.length c_b3_3_L4) q3.length q0f :: vec 62 R_floor_Wall.sz (.slice q0d q14 c_b3_4_L9) q14 q0p :: ro ρ :: l)) ?_ ?_
 ·refine x_block ?_
  replace hS := St.vec_nil hS 62 R_floor_Wall.sz
  have q33 : RepL R_floor_Wall ρ [] [] := rfl
  refine x_loop (fun k_ E w => ∃ (q8 : Option Addr) (q0y : Nat) (c_b3_4_L9h : Nat) (q0r : List Value) (q2j : Int) (q0z : Int) (q9 : List T_floor_Wall), lp (P_maskmake_Stream_Floor_L9 s0 q0c q0u q3z) k_ (q2j, q0z, q9) = some oL9 ∧ E 0 = .pointer (some ⟨q4, 0, none⟩) ∧ E 2 = .pointer (some ⟨b2, 0, none⟩) ∧ E 3 = .pointer (some ⟨b3, 0, none⟩) ∧ E 4 = .int .i64 q0u.1 ∧ E 5 = .int .i64 q0u.2 ∧ E 50 = .int .i64 q3z.1 ∧ E 51 = .int .i64 q2j ∧ RepL R_floor_Wall ρ q9 q0r ∧ St w0 w (cells q4 25 [.slice q5 s0.L.length c_s0_0, .int .i64 q0z] :: cells b2 30 [.int .i64 0, .int .i64 0, .int .i64 0, .slice none 0 0, .slice none 0 0, .slice none 0 0] :: cells b3 30 [.int .i64 q0a.1, .int .i64 q0b.1, .int .i64 q0c.1, .slice q2 q3.length c_b3_3_L4, .slice q8 q0y c_b3_4_L9h, .slice none 0 0] :: vec 60 R_floor_Block.sz (.slice q2 q3.length c_b3_3_L4) q3.length q0f :: vec 62 R_floor_Wall.sz (.slice q8 q0y c_b3_4_L9h) q0y q0r :: ro ρ :: l)) fuel ⟨none, 0, 0, [], 0, q3z.2, [], hLL9, q49, q58, q59, q5a, q5b, rfl, rfl, q33, ((((((hS.pull 2).pull 1).pull 5).pull 5).pull 5).pull 5)⟩ ?_
  rintro kL9 E w ⟨q8, q0y, c_b3_4_L9h, q0r, q2j, q0z, q9, hLL9, q12, q43, q25, q3k, q3l, q3q, q3r, q1v, hS⟩
  have e_ := St.vec_n (hS.pull 4) q1v; subst e_
  replace hLL9 := lp_s hLL9; obtain ⟨kL9, obL9, rfl, hFL9, hLL9⟩ := hLL9
  refine x_seq <| x_region <| p (yl_lss q3r q3q) <| x_done <|
   x_seq <|
   x_cond_p (q2j < q3z.1) rfl (fun hc52 => ?_) (fun hc52 => ?_)
  ·replace hFL9 := it_t hc52 hFL9
   replace hFL9 := bd_s hFL9; obtain ⟨q0k, q4p, hFL9⟩ := hFL9
   refine x_skip <| x_seq <| x_block <| x_seq <|
    x_region <| p (yl_move q12) <| p (yl_move q3k) <| ?_
   have hcall := c_maskmake_Stream_Next q4p q0h ((hS.pull 5).pull 1)
   refine o_cc call_6 (args2 rfl rfl) hcall ?_
   rintro e w' ⟨rfl, hS⟩
   refine ⟨_, rfl, ?_⟩
   replace hFL9 := bd_s hFL9; obtain ⟨q0g, q4q, hFL9⟩ := hFL9
   refine p (yl_move q12) <| p (yl_move q3l) <| ?_
   have hcall := c_maskmake_Stream_Next q4q q0h ((hS.pull 1).pull 1)
   refine o_cc call_6 (args2 rfl rfl) hcall ?_
   rintro e w' ⟨rfl, hS⟩
   refine ⟨_, rfl, ?_⟩
   refine p (yl_assign rfl) <| p (yl_assign rfl) <| x_done <| ?_
   replace hFL9 := bd_s hFL9; obtain ⟨q0l, q4r, hFL9⟩ := hFL9
   replace hFL9 := ar_s hFL9; obtain ⟨x68, hx68, hFL9⟩ := hFL9
   replace hFL9 := bd_s hFL9; obtain ⟨q26, q4d, hFL9⟩ := hFL9
   replace hFL9 := ar_s hFL9; obtain ⟨x72, hx72, hFL9⟩ := hFL9
   replace hFL9 := lv_s hFL9; obtain ⟨x73, hx73, hFL9⟩ := hFL9
   replace hFL9 := ar_s hFL9; obtain ⟨x75, hx75, hFL9⟩ := hFL9
   replace hFL9 := bd_s hFL9; obtain ⟨q19, q4e, hFL9⟩ := hFL9
   replace hFL9 := ar_s hFL9; obtain ⟨x79, hx79, hFL9⟩ := hFL9
   replace hFL9 := lv_s hFL9; obtain ⟨x80, hx80, hFL9⟩ := hFL9
   replace hFL9 := lv_s hFL9; obtain ⟨q0i, q4f, hFL9⟩ := hFL9
   replace hFL9 := ck_s hFL9; obtain ⟨q4g, hFL9⟩ := hFL9
   refine x_par (w0 := w0) [⟨[], [], [59], [], [], [], none⟩, ⟨[0], [0], [60], [0], [], [], none⟩, ⟨[], [], [61], [], [], [], none⟩, ⟨[], [], [62], [], [], [], none⟩, ⟨[3], [3], [63], [0], [], [], none⟩, ⟨[2, 3, 4], [2, 4], [64], [2], [1], [3], none⟩, ⟨[], [], [65], [], [], [], none⟩, ⟨[], [], [66], [], [], [], none⟩, ⟨[], [], [67], [], [], [], none⟩, ⟨[8], [8], [68], [], [], [], none⟩, ⟨[], [], [69], [], [], [], none⟩, ⟨[], [], [70], [], [], [], none⟩, ⟨[2, 3, 4, 5, 11], [11], [71], [2], [3], [4], none⟩, ⟨[2, 3, 4, 5, 10, 11, 12], [10, 12], [72], [], [], [], none⟩, ⟨[2, 3, 4, 5, 8, 9, 10, 11, 12, 13], [9, 13], [73], [], [], [], none⟩, ⟨[], [], [74], [], [], [], none⟩, ⟨[15], [15], [75], [], [], [], none⟩, ⟨[], [], [76], [], [], [], none⟩, ⟨[], [], [77], [], [], [], none⟩, ⟨[2, 3, 4, 5, 11, 12, 18], [18], [78], [2], [4], [5], none⟩, ⟨[2, 3, 4, 5, 11, 12, 17, 18, 19], [17, 19], [79], [], [], [], none⟩, ⟨[2, 3, 4, 5, 11, 12, 15, 16, 17, 18, 19, 20], [16, 20], [80], [], [], [], none⟩, ⟨[2, 3, 4, 5, 6, 7, 8, 9, 10, 11, 12, 13, 14, 15, 16, 17, 18, 19, 20, 21], [5, 6, 7, 14, 21], [81], [], [], [], none⟩, ⟨[2, 3, 4, 5, 6, 7, 8, 9, 10, 11, 12, 13, 14, 15, 16, 17, 18, 19, 20, 21, 22], [22], [82], [], [], [6], none⟩, ⟨[0, 1, 2, 3, 4, 5, 6, 7, 8, 9, 10, 11, 12, 13, 14, 15, 16, 17, 18, 19, 20, 21, 22, 23], [1, 23], [83], [6, 2], [7], [8], none⟩, ⟨[0, 1, 2, 3, 4, 5, 6, 7, 8, 9, 10, 11, 12, 13, 14, 15, 16, 17, 18, 19, 20, 21, 22, 23, 24], [], [84], [], [], [], none⟩, ⟨[0, 1, 2, 3, 4, 5, 6, 7, 8, 9, 10, 11, 12, 13, 14, 15, 16, 17, 18, 19, 20, 21, 22, 23, 24, 25], [24, 25], [], [], [0], [9], none⟩] [⟨none, (some 26), []⟩, ⟨none, (some 5), []⟩, ⟨none, none, []⟩, ⟨(some 5), (some 12), []⟩, ⟨(some 12), (some 19), []⟩, ⟨(some 19), none, []⟩, ⟨(some 23), none, [82]⟩, ⟨none, (some 24), []⟩, ⟨(some 24), none, [83]⟩, ⟨(some 26), none, [83]⟩] [59, 60, 61, 62, 63, 64, 65, 66, 67, 68, 69, 70, 71, 72, 73, 74, 75, 76, 77, 78, 79, 80, 81, 82, 83, 84] [0, 1, 2, 7] [2, 5, 6, 8, 9] [0, 1, 2, 3, 4, 5, 6, 7, 8, 9, 10, 11, 12, 13, 14, 15, 16, 17, 18, 19, 20, 21, 22, 23, 24, 25] [fun Ep11 => Ep11 59 = .pointer (some ⟨b3, 4, none⟩), fun Ep11 => Ep11 60 = .slice q8 q9.length c_b3_4_L9h, fun Ep11 => Ep11 61 = .pointer (some ⟨q4, 0, none⟩), fun Ep11 => Ep11 62 = .pointer (some ⟨b3, 2, none⟩), fun Ep11 => Ep11 63 = .int .i64 q0c.1, fun Ep11 => Ep11 64 = .int .i64 q0l.1, fun Ep11 => Ep11 65 = .int .i64 q0k.1, fun Ep11 => Ep11 66 = .int .i64 q0g.1, fun Ep11 => Ep11 67 = .int .i64 q0u.1, fun Ep11 => Ep11 68 = .int .i64 x68, fun Ep11 => Ep11 69 = .int .i64 q0k.1, fun Ep11 => Ep11 70 = .pointer (some ⟨q4, 0, none⟩), fun Ep11 => Ep11 71 = .int .i64 q26.1, fun Ep11 => Ep11 72 = .int .i64 x72, fun Ep11 => Ep11 73 = .int .i64 x73, fun Ep11 => Ep11 74 = .int .i64 q0u.2, fun Ep11 => Ep11 75 = .int .i64 x75, fun Ep11 => Ep11 76 = .int .i64 q0g.1, fun Ep11 => Ep11 77 = .pointer (some ⟨q4, 0, none⟩), fun Ep11 => Ep11 78 = .int .i64 q19.1, fun Ep11 => Ep11 79 = .int .i64 x79, fun Ep11 => Ep11 80 = .int .i64 x80, fun Ep11 => Ep11 81 = .agg #[.int .i64 q0l.1, .int .i64 q0k.1, .int .i64 q0g.1, .int .i64 x73, .int .i64 x80], fun Ep11 => Ep11 82 = .slice (some ⟨(blkOf (Ep11 82)), 0, none⟩) 1 1, fun Ep11 => Ep11 83 = .slice (adOf (Ep11 83)) q0i.length (capOf (Ep11 83)), fun Ep11 => Ep11 84 = .pointer (some ⟨b3, 4, none⟩), fun Ep11 => True] [fun Ep11 => cells b3 30 [.int .i64 q0a.1, .int .i64 q0b.1, .int .i64 q0c.1, .slice q2 q3.length c_b3_3_L4, .slice q8 q9.length c_b3_4_L9h, .slice none 0 0], fun Ep11 => cells q4 25 [.slice q5 s0.L.length c_s0_0, .int .i64 q0g.2], fun Ep11 => ro ρ, fun Ep11 => cells q4 25 [.slice q5 s0.L.length c_s0_0, .int .i64 q0l.2], fun Ep11 => cells q4 25 [.slice q5 s0.L.length c_s0_0, .int .i64 q26.2], fun Ep11 => cells q4 25 [.slice q5 s0.L.length c_s0_0, .int .i64 q19.2], fun Ep11 => cells (blkOf (Ep11 82)) 62 [.int .i64 q0l.1, .int .i64 q0k.1, .int .i64 q0g.1, .int .i64 x73, .int .i64 x80], fun Ep11 => vec 62 R_floor_Wall.sz (.slice q8 q9.length c_b3_4_L9h) q9.length q0r, fun Ep11 => bunA (fun (cs83 : List Value) => RepL R_floor_Wall ρ q0i cs83) (fun (cs83 : List Value) => [vec 62 R_floor_Wall.sz (.slice (adOf (Ep11 83)) q0i.length (capOf (Ep11 83))) q0i.length cs83]), fun Ep11 => cells b3 30 [.int .i64 q0a.1, .int .i64 q0b.1, .int .i64 q0c.1, .slice q2 q3.length c_b3_3_L4, .slice (adOf (Ep11 83)) q0i.length (capOf (Ep11 83)), .slice none 0 0]] mixed (by kernel_rfl) ((((hS.pull 5).pull 2).pull 2).pull 4) ?_ ?_
   ·refine ⟨?_, ?_, ?_, ?_, ?_, ?_, ?_, ?_, ?_, ?_, ?_, ?_, ?_, ?_, ?_, ?_, ?_, ?_, ?_, ?_, ?_, ?_, ?_, ?_, ?_, ?_, ?_, trivial⟩
    ·intro Ep11 w l' hE11 hO11 hF_ hS
     refine p (yl_field0 fld_30_4 ((hE11 3 rfl).trans q25)) <| x_done <| ?_
     refine x_fin ⟨⟨_, rfl⟩, rfl, ?_⟩
     exact emk hS
    ·intro Ep11 w l' hE11 hO11 hF_ hS
     obtain ⟨q2k, -⟩ := hF_
     replace q2k : Ep11 59 = .pointer (some ⟨b3, 4, none⟩) := emk q2k
     replace hS : St w0 w (cells b3 30 [.int .i64 q0a.1, .int .i64 q0b.1, .int .i64 q0c.1, .slice q2 q3.length c_b3_3_L4, .slice q8 q9.length c_b3_4_L9h, .slice none 0 0] :: l') := emk hS
     refine pa (at_load one_27 q2k (hS.cell rfl)) <| x_done <| ?_
     refine x_fin ⟨⟨_, rfl⟩, rfl, ?_⟩
     exact emk hS
    ·intro Ep11 w l' hE11 hO11 hF_ hS
     refine p (yl_move ((hE11 0 rfl).trans q12)) <| x_done <| ?_
     refine x_fin ⟨⟨_, rfl⟩, rfl, ?_⟩
     exact emk hS
    ·intro Ep11 w l' hE11 hO11 hF_ hS
     refine p (yl_field0 fld_30_2 ((hE11 3 rfl).trans q25)) <| x_done <| ?_
     refine x_fin ⟨⟨_, rfl⟩, rfl, ?_⟩
     exact emk hS
    ·intro Ep11 w l' hE11 hO11 hF_ hS
     obtain ⟨q2l, -⟩ := hF_
     replace q2l : Ep11 62 = .pointer (some ⟨b3, 2, none⟩) := emk q2l
     replace hS : St w0 w (cells b3 30 [.int .i64 q0a.1, .int .i64 q0b.1, .int .i64 q0c.1, .slice q2 q3.length c_b3_3_L4, .slice q8 q9.length c_b3_4_L9h, .slice none 0 0] :: l') := emk hS
     refine pa (at_load one_3 q2l (hS.cell rfl)) <| x_done <| ?_
     refine x_fin ⟨⟨_, rfl⟩, rfl, ?_⟩
     exact emk hS
    ·intro Ep11 w l' hE11 hO11 hF_ hS
     obtain ⟨q2m, q2n, -⟩ := hF_
     replace q2m : Ep11 61 = .pointer (some ⟨q4, 0, none⟩) := emk q2m
     replace q2n : Ep11 63 = .int .i64 q0c.1 := emk q2n
     replace hS : St w0 w (ro ρ :: cells q4 25 [.slice q5 s0.L.length c_s0_0, .int .i64 q0g.2] :: l') := emk hS
     have hcall := c_maskmake_Stream_Next q4r q0h (hS.pull 1)
     refine o_cc call_6 (args2 q2m q2n) hcall ?_
     rintro e w' ⟨rfl, hS⟩
     refine ⟨_, rfl, ?_⟩
     refine x_done <| ?_
     refine x_fin ⟨⟨_, rfl⟩, rfl, ?_⟩
     exact emk (hS.pull 1)
    ·intro Ep11 w l' hE11 hO11 hF_ hS
     refine p (yl_move (hE11 7 rfl)) <| x_done <| ?_
     refine x_fin ⟨⟨_, rfl⟩, rfl, ?_⟩
     exact emk hS
    ·intro Ep11 w l' hE11 hO11 hF_ hS
     refine p (yl_move (hE11 8 rfl)) <| x_done <| ?_
     refine x_fin ⟨⟨_, rfl⟩, rfl, ?_⟩
     exact emk hS
    ·intro Ep11 w l' hE11 hO11 hF_ hS
     refine p (yl_move ((hE11 4 rfl).trans q3k)) <| x_done <| ?_
     refine x_fin ⟨⟨_, rfl⟩, rfl, ?_⟩
     exact emk hS
    ·intro Ep11 w l' hE11 hO11 hF_ hS
     obtain ⟨q2o, -⟩ := hF_
     replace q2o : Ep11 67 = .int .i64 q0u.1 := emk q2o
     refine p (ysub q2o rfl hx68) <| x_done <| ?_
     refine x_fin ⟨⟨_, rfl⟩, rfl, ?_⟩
     exact emk hS
    ·intro Ep11 w l' hE11 hO11 hF_ hS
     refine p (yl_move (hE11 7 rfl)) <| x_done <| ?_
     refine x_fin ⟨⟨_, rfl⟩, rfl, ?_⟩
     exact emk hS
    ·intro Ep11 w l' hE11 hO11 hF_ hS
     refine p (yl_move ((hE11 0 rfl).trans q12)) <| x_done <| ?_
     refine x_fin ⟨⟨_, rfl⟩, rfl, ?_⟩
     exact emk hS
    ·intro Ep11 w l' hE11 hO11 hF_ hS
     obtain ⟨q1a, -⟩ := hF_
     replace q1a : Ep11 70 = .pointer (some ⟨q4, 0, none⟩) := emk q1a
     replace hS : St w0 w (ro ρ :: cells q4 25 [.slice q5 s0.L.length c_s0_0, .int .i64 q0l.2] :: l') := emk hS
     have hcall := c_maskmake_Stream_Next q4d q0h (hS.pull 1)
     refine o_cc call_6 (args2 q1a rfl) hcall ?_
     rintro e w' ⟨rfl, hS⟩
     refine ⟨_, rfl, ?_⟩
     refine x_done <| ?_
     refine x_fin ⟨⟨_, rfl⟩, rfl, ?_⟩
     exact emk (hS.pull 1)
    ·intro Ep11 w l' hE11 hO11 hF_ hS
     obtain ⟨q1b, q1c, -⟩ := hF_
     replace q1b : Ep11 69 = .int .i64 q0k.1 := emk q1b
     replace q1c : Ep11 71 = .int .i64 q26.1 := emk q1c
     refine p (yadd q1b q1c hx72) <| x_done <| ?_
     refine x_fin ⟨⟨_, rfl⟩, rfl, ?_⟩
     exact emk hS
    ·intro Ep11 w l' hE11 hO11 hF_ hS
     obtain ⟨q2p, q1d, -⟩ := hF_
     replace q2p : Ep11 68 = .int .i64 x68 := emk q2p
     replace q1d : Ep11 72 = .int .i64 x72 := emk q1d
     refine p (ymin' q2p q1d hx73) <| x_done <| ?_
     refine x_fin ⟨⟨_, rfl⟩, rfl, ?_⟩
     exact emk hS
    ·intro Ep11 w l' hE11 hO11 hF_ hS
     refine p (yl_move ((hE11 5 rfl).trans q3l)) <| x_done <| ?_
     refine x_fin ⟨⟨_, rfl⟩, rfl, ?_⟩
     exact emk hS
    ·intro Ep11 w l' hE11 hO11 hF_ hS
     obtain ⟨q1e, -⟩ := hF_
     replace q1e : Ep11 74 = .int .i64 q0u.2 := emk q1e
     refine p (ysub q1e rfl hx75) <| x_done <| ?_
     refine x_fin ⟨⟨_, rfl⟩, rfl, ?_⟩
     exact emk hS
    ·intro Ep11 w l' hE11 hO11 hF_ hS
     refine p (yl_move (hE11 8 rfl)) <| x_done <| ?_
     refine x_fin ⟨⟨_, rfl⟩, rfl, ?_⟩
     exact emk hS
    ·intro Ep11 w l' hE11 hO11 hF_ hS
     refine p (yl_move ((hE11 0 rfl).trans q12)) <| x_done <| ?_
     refine x_fin ⟨⟨_, rfl⟩, rfl, ?_⟩
     exact emk hS
    ·intro Ep11 w l' hE11 hO11 hF_ hS
     obtain ⟨q1f, -⟩ := hF_
     replace q1f : Ep11 77 = .pointer (some ⟨q4, 0, none⟩) := emk q1f
     replace hS : St w0 w (ro ρ :: cells q4 25 [.slice q5 s0.L.length c_s0_0, .int .i64 q26.2] :: l') := emk hS
     have hcall := c_maskmake_Stream_Next q4e q0h (hS.pull 1)
     refine o_cc call_6 (args2 q1f rfl) hcall ?_
     rintro e w' ⟨rfl, hS⟩
     refine ⟨_, rfl, ?_⟩
     refine x_done <| ?_
     refine x_fin ⟨⟨_, rfl⟩, rfl, ?_⟩
     exact emk (hS.pull 1)
    ·intro Ep11 w l' hE11 hO11 hF_ hS
     obtain ⟨q1g, q1h, -⟩ := hF_
     replace q1g : Ep11 76 = .int .i64 q0g.1 := emk q1g
     replace q1h : Ep11 78 = .int .i64 q19.1 := emk q1h
     refine p (yadd q1g q1h hx79) <| x_done <| ?_
     refine x_fin ⟨⟨_, rfl⟩, rfl, ?_⟩
     exact emk hS
    ·intro Ep11 w l' hE11 hO11 hF_ hS
     obtain ⟨q1i, q1j, -⟩ := hF_
     replace q1i : Ep11 75 = .int .i64 x75 := emk q1i
     replace q1j : Ep11 79 = .int .i64 x79 := emk q1j
     refine p (ymin' q1i q1j hx80) <| x_done <| ?_
     refine x_fin ⟨⟨_, rfl⟩, rfl, ?_⟩
     exact emk hS
    ·intro Ep11 w l' hE11 hO11 hF_ hS
     obtain ⟨q2q, q2r, q2s, q1k, q1l, -⟩ := hF_
     replace q2q : Ep11 64 = .int .i64 q0l.1 := emk q2q
     replace q2r : Ep11 65 = .int .i64 q0k.1 := emk q2r
     replace q2s : Ep11 66 = .int .i64 q0g.1 := emk q2s
     replace q1k : Ep11 73 = .int .i64 x73 := emk q1k
     replace q1l : Ep11 80 = .int .i64 x80 := emk q1l
     refine p (v := .agg #[.int .i64 q0l.1, .int .i64 q0k.1, .int .i64 q0g.1, .int .i64 x73, .int .i64 x80]) (yl_build bld_62 bldf_62 (parts_eq (pt (va := .int .i64 q0l.1) q2q (pt (va := .int .i64 q0k.1) q2r (pt (va := .int .i64 q0g.1) q2s (pt (va := .int .i64 x73) q1k (pt (va := .int .i64 x80) q1l pt0)))))) (by kernel_rfl)) <| x_done <| ?_
     refine x_fin ⟨⟨_, rfl⟩, rfl, ?_⟩
     exact emk hS
    ·intro Ep11 w l' hE11 hO11 hF_ hS
     obtain ⟨q1m, -⟩ := hF_
     replace q1m : Ep11 81 = .agg #[.int .i64 q0l.1, .int .i64 q0k.1, .int .i64 q0g.1, .int .i64 x73, .int .i64 x80] := emk q1m
     refine o_buildSlice (vs := [.agg #[.int .i64 q0l.1, .int .i64 q0k.1, .int .i64 q0g.1, .int .i64 x73, .int .i64 x80]]) (cs := [.int .i64 q0l.1, .int .i64 q0k.1, .int .i64 q0g.1, .int .i64 x73, .int .i64 x80]) sl_27 zero_62 (parts_eq (pt (va := .agg #[.int .i64 q0l.1, .int .i64 q0k.1, .int .i64 q0g.1, .int .i64 x73, .int .i64 x80]) q1m pt0)) rfl (by intro v hv; simp only [List.mem_cons, List.not_mem_nil, or_false] at hv; first | (subst hv; rfl) | (rcases hv with rfl <;> rfl)) (by decide) rfl hS (fun b82 w' hS => ?_)
     refine x_done <| ?_
     refine x_fin ⟨⟨_, rfl⟩, rfl, ?_⟩
     exact emk hS
    ·intro Ep11 w l' hE11 hO11 hF_ hS
     obtain ⟨q2t, q1n, -⟩ := hF_
     replace q2t : Ep11 60 = .slice q8 q9.length c_b3_4_L9h := emk q2t
     replace q1n : Ep11 82 = .slice (some ⟨(blkOf (Ep11 82)), 0, none⟩) 1 1 := emk q1n
     replace hS : St w0 w (cells (blkOf (Ep11 82)) 62 [.int .i64 q0l.1, .int .i64 q0k.1, .int .i64 q0g.1, .int .i64 x73, .int .i64 x80] :: ro ρ :: vec 62 R_floor_Wall.sz (.slice q8 q9.length c_b3_4_L9h) q9.length q0r :: l') := emk hS
     refine o_ap sl_27 zero_62 rfl (by decide) q2t q1n (hS.pull 2) q1v (src_blk usl_27 hS rfl rfl) (RepL.cons (R := R_floor_Wall) (ρ := ρ) (x := (T_floor_Wall.mk q0l.1 q0k.1 q0g.1 x73 x80)) (cs := [.int .i64 q0l.1, .int .i64 q0k.1, .int .i64 q0g.1, .int .i64 x73, .int .i64 x80]) rfl RepL.nil) q4f q4g (fun A83 c83 cs83 w' hr83 hS => ?_)
     refine x_done <| ?_
     refine x_fin ⟨⟨_, rfl⟩, rfl, ?_⟩
     replace hS := St.bun (Φ := (fun (cs83 : List Value) => RepL R_floor_Wall ρ q0i cs83)) (L := (fun (cs83 : List Value) => [vec 62 R_floor_Wall.sz (.slice A83 q0i.length c83) q0i.length cs83])) cs83 hr83 hS
     exact emk ((hS.pull 2).pull 2)
    ·intro Ep11 w l' hE11 hO11 hF_ hS
     refine p (yl_field0 fld_30_4 ((hE11 3 rfl).trans q25)) <| x_done <| ?_
     refine x_fin ⟨⟨_, rfl⟩, rfl, ?_⟩
     exact emk hS
    ·intro Ep11 w l' hE11 hO11 hF_ hS
     obtain ⟨q1o, q1p, -⟩ := hF_
     replace q1o : Ep11 83 = .slice (adOf (Ep11 83)) q0i.length (capOf (Ep11 83)) := emk q1o
     replace q1p : Ep11 84 = .pointer (some ⟨b3, 4, none⟩) := emk q1p
     replace hS : St w0 w (cells b3 30 [.int .i64 q0a.1, .int .i64 q0b.1, .int .i64 q0c.1, .slice q2 q3.length c_b3_3_L4, .slice q8 q9.length c_b3_4_L9h, .slice none 0 0] :: l') := emk hS
     refine o_store1 (v := .slice (adOf (Ep11 83)) q0i.length (capOf (Ep11 83))) one_27 q1p q1o rfl rfl hS (fun w' hS => ?_)
     refine x_done <| ?_
     refine x_fin ⟨⟨undef, rfl⟩, trivial, ?_⟩
     exact emk hS
   intro Ep11 w' hE11 hF_ hS
   obtain ⟨q2k, q2t, q2m, q2l, q2n, q2q, q2r, q2s, q2o, q2p, q1b, q1a, q1c, q1d, q1k, q1e, q1i, q1g, q1f, q1h, q1j, q1l, q1m, q1n, q1o, q1p, -⟩ := hF_
   replace q2k : Ep11 59 = .pointer (some ⟨b3, 4, none⟩) := emk q2k
   replace q2t : Ep11 60 = .slice q8 q9.length c_b3_4_L9h := emk q2t
   replace q2m : Ep11 61 = .pointer (some ⟨q4, 0, none⟩) := emk q2m
   replace q2l : Ep11 62 = .pointer (some ⟨b3, 2, none⟩) := emk q2l
   replace q2n : Ep11 63 = .int .i64 q0c.1 := emk q2n
   replace q2q : Ep11 64 = .int .i64 q0l.1 := emk q2q
   replace q2r : Ep11 65 = .int .i64 q0k.1 := emk q2r
   replace q2s : Ep11 66 = .int .i64 q0g.1 := emk q2s
   replace q2o : Ep11 67 = .int .i64 q0u.1 := emk q2o
   replace q2p : Ep11 68 = .int .i64 x68 := emk q2p
   replace q1b : Ep11 69 = .int .i64 q0k.1 := emk q1b
   replace q1a : Ep11 70 = .pointer (some ⟨q4, 0, none⟩) := emk q1a
   replace q1c : Ep11 71 = .int .i64 q26.1 := emk q1c
   replace q1d : Ep11 72 = .int .i64 x72 := emk q1d
   replace q1k : Ep11 73 = .int .i64 x73 := emk q1k
   replace q1e : Ep11 74 = .int .i64 q0u.2 := emk q1e
   replace q1i : Ep11 75 = .int .i64 x75 := emk q1i
   replace q1g : Ep11 76 = .int .i64 q0g.1 := emk q1g
   replace q1f : Ep11 77 = .pointer (some ⟨q4, 0, none⟩) := emk q1f
   replace q1h : Ep11 78 = .int .i64 q19.1 := emk q1h
   replace q1j : Ep11 79 = .int .i64 x79 := emk q1j
   replace q1l : Ep11 80 = .int .i64 x80 := emk q1l
   replace q1m : Ep11 81 = .agg #[.int .i64 q0l.1, .int .i64 q0k.1, .int .i64 q0g.1, .int .i64 x73, .int .i64 x80] := emk q1m
   replace q1n : Ep11 82 = .slice (some ⟨(blkOf (Ep11 82)), 0, none⟩) 1 1 := emk q1n
   replace q1o : Ep11 83 = .slice (adOf (Ep11 83)) q0i.length (capOf (Ep11 83)) := emk q1o
   replace q1p : Ep11 84 = .pointer (some ⟨b3, 4, none⟩) := emk q1p
   replace hS : St w0 w' (ro ρ :: cells q4 25 [.slice q5 s0.L.length c_s0_0, .int .i64 q19.2] :: cells (blkOf (Ep11 82)) 62 [.int .i64 q0l.1, .int .i64 q0k.1, .int .i64 q0g.1, .int .i64 x73, .int .i64 x80] :: bunA (fun (cs83 : List Value) => RepL R_floor_Wall ρ q0i cs83) (fun (cs83 : List Value) => [vec 62 R_floor_Wall.sz (.slice (adOf (Ep11 83)) q0i.length (capOf (Ep11 83))) q0i.length cs83]) :: cells b3 30 [.int .i64 q0a.1, .int .i64 q0b.1, .int .i64 q0c.1, .slice q2 q3.length c_b3_3_L4, .slice (adOf (Ep11 83)) q0i.length (capOf (Ep11 83)), .slice none 0 0] :: (cells b2 30 [.int .i64 0, .int .i64 0, .int .i64 0, .slice none 0 0, .slice none 0 0, .slice none 0 0] :: vec 60 R_floor_Block.sz (.slice q2 q3.length c_b3_3_L4) q3.length q0f :: l)) := emk hS
   have q_ := St.unbun (hS.pull 3); obtain ⟨cs83, hr83, hS⟩ := q_
   replace hFL9 := ar_s hFL9; obtain ⟨x85, hx85, hFL9⟩ := hFL9
   refine x_blk <| x_region <| p (yadd ((hE11 51 rfl).trans q3r) rfl hx85) <| p (yl_move rfl) <|
    x_done <| ?_
   have e_ := sinj hFL9; subst e_
   exact x_inv ⟨kL9, Nat.lt_succ_self _, (adOf (Ep11 83)), q0i.length, (capOf (Ep11 83)), cs83, x85, q19.2, q0i, hLL9, ((hE11 0 rfl).trans q12), ((hE11 2 rfl).trans q43), ((hE11 3 rfl).trans q25), ((hE11 4 rfl).trans q3k), ((hE11 5 rfl).trans q3l), ((hE11 50 rfl).trans q3q), rfl, hr83, (((((((hS.pull 3).drop.pull 1).pull 1).pull 5).pull 4).pull 5).pull 5)⟩
  ·replace hFL9 := it_f hc52 hFL9
   refine x_exitTo _ rfl <| ?_
   have e_ := sinj hFL9; subst e_
   exact x_inv ⟨q8, q9.length, c_b3_4_L9h, q0r, q0z, q9, hLL9, q12, q43, q25, q1v, ((((((hS.pull 5).pull 5).pull 5).pull 5).pull 5).pull 5)⟩
 rintro E w ⟨q0d, q14, c_b3_4_L9, q0p, q24, q0e, rfl, q4a, q5d, q5e, q27, hS⟩
 have e_ := St.vec_n (hS.pull 4) q27; subst e_
 replace hF := bd_s hF; obtain ⟨q34, q4s, hF⟩ := hF
 refine x_seq <| x_region <| p (yl_assign rfl) <| x_done <|
  x_seq <| x_seq <| x_region <| p (yl_move q4a) <| ?_
 have hcall := c_maskmake_Stream_Next q4s q0h ((hS.pull 5).pull 1)
 refine o_cc call_6 (args2 rfl rfl) hcall ?_
 rintro e w' ⟨rfl, hS⟩
 refine ⟨_, rfl, ?_⟩
 refine p (yl_move rfl) <| x_done <| ?_
 replace hF := bd_s hF; obtain ⟨oL15, hLL15, hF⟩ := hF
 refine x_join (fun E w => ∃ (q1w : Option Addr) (q1x : Nat) (c_l9_L15 : Nat) (q15 : List Value) (q28 : List T_floor_Port), q28 = oL15 ∧ E 0 = .pointer (some ⟨q4, 0, none⟩) ∧ E 2 = .pointer (some ⟨b2, 0, none⟩) ∧ E 3 = .pointer (some ⟨b3, 0, none⟩) ∧ E 9 = .slice q1w q1x c_l9_L15 ∧ RepL R_floor_Port ρ q28 q15 ∧ St w0 w (cells q4 25 [.slice q5 s0.L.length c_s0_0, .int .i64 q34.2] :: cells b2 30 [.int .i64 0, .int .i64 0, .int .i64 0, .slice none 0 0, .slice none 0 0, .slice none 0 0] :: cells b3 30 [.int .i64 q0a.1, .int .i64 q0b.1, .int .i64 q0c.1, .slice q2 q3.length c_b3_3_L4, .slice q0d q0e.length c_b3_4_L9, .slice none 0 0] :: vec 65 R_floor_Port.sz (.slice q1w q1x c_l9_L15) q1x q15 :: vec 60 R_floor_Block.sz (.slice q2 q3.length c_b3_3_L4) q3.length q0f :: vec 62 R_floor_Wall.sz (.slice q0d q0e.length c_b3_4_L9) q0e.length q0p :: ro ρ :: l)) ?_ ?_
 ·refine x_block ?_
  replace hS := St.vec_nil hS 65 R_floor_Port.sz
  have q3f : RepL R_floor_Port ρ [] [] := rfl
  refine x_loop (fun k_ E w => ∃ (q16 : Option Addr) (q17 : Nat) (c_l9_L15h : Nat) (q10 : List Value) (q1q : List T_floor_Port) (q1y : Int), lp (P_maskmake_Stream_Floor_L15 q34) k_ (q1q, q1y) = some oL15 ∧ E 0 = .pointer (some ⟨q4, 0, none⟩) ∧ E 2 = .pointer (some ⟨b2, 0, none⟩) ∧ E 3 = .pointer (some ⟨b3, 0, none⟩) ∧ E 9 = .slice q16 q17 c_l9_L15h ∧ E 87 = .int .i64 q34.1 ∧ E 88 = .int .i64 q1y ∧ RepL R_floor_Port ρ q1q q10 ∧ St w0 w (cells q4 25 [.slice q5 s0.L.length c_s0_0, .int .i64 q34.2] :: cells b2 30 [.int .i64 0, .int .i64 0, .int .i64 0, .slice none 0 0, .slice none 0 0, .slice none 0 0] :: cells b3 30 [.int .i64 q0a.1, .int .i64 q0b.1, .int .i64 q0c.1, .slice q2 q3.length c_b3_3_L4, .slice q0d q0e.length c_b3_4_L9, .slice none 0 0] :: vec 65 R_floor_Port.sz (.slice q16 q17 c_l9_L15h) q17 q10 :: vec 60 R_floor_Block.sz (.slice q2 q3.length c_b3_3_L4) q3.length q0f :: vec 62 R_floor_Wall.sz (.slice q0d q0e.length c_b3_4_L9) q0e.length q0p :: ro ρ :: l)) fuel ⟨none, 0, 0, [], [], 0, hLL15, q4a, q5d, q5e, rfl, rfl, rfl, q3f, (((((((hS.pull 2).pull 6).pull 6).pull 3).pull 6).pull 6).pull 6)⟩ ?_
  rintro kL15 E w ⟨q16, q17, c_l9_L15h, q10, q1q, q1y, hLL15, q3s, q3t, q3u, q3v, q3m, q2x, q29, hS⟩
  have e_ := St.vec_n (hS.pull 3) q29; subst e_
  replace hLL15 := lp_s hLL15; obtain ⟨kL15, obL15, rfl, hFL15, hLL15⟩ := hLL15
  refine x_seq <| x_region <| p (yl_lss q2x q3m) <| x_done <|
   x_seq <|
   x_cond_p (q1y < q34.1) rfl (fun hc89 => ?_) (fun hc89 => ?_)
  ·replace hFL15 := it_t hc89 hFL15
   replace hFL15 := ck_s hFL15; obtain ⟨q4t, hFL15⟩ := hFL15
   replace hFL15 := ar_s hFL15; obtain ⟨x93, hx93, hFL15⟩ := hFL15
   replace hFL15 := bd_s hFL15; obtain ⟨q1z, q4u, hFL15⟩ := hFL15
   refine x_skip <| x_seq <| x_block <| x_seq <|
    x_region <| p (yl_move q2x) <| p (yl_assign rfl) <| x_done <|
    x_region <| p (yl_move q3v) <| p (yl_move rfl) <| p (yquo rfl rfl q4t hx93) <| ?_
   have hcall := c_strconv_Itoa q4u  (hS.pull 6)
   refine o_cc call_16 (args1 rfl) ((Calls.mono hcall (fun e w'' h => And.intro h.1 ((((((h.2.pull 6).pull 6).pull 6).pull 6).pull 6).pull 6)))) ?_
   rintro e w' ⟨rfl, hS⟩
   refine ⟨_, rfl, ?_⟩
   replace hFL15 := ck_s hFL15; obtain ⟨q4v, hFL15⟩ := hFL15
   replace hFL15 := ck_s hFL15; obtain ⟨q4w, hFL15⟩ := hFL15
   replace hFL15 := lv_s hFL15; obtain ⟨x97, hx97, hFL15⟩ := hFL15
   refine p (yadds rfl rfl q4v) <| p (yl_move rfl) <| p (yrem rfl rfl q4w hx97) <| p (yl_eql rfl rfl) <|
    p (v := .agg #[.string ((⟨#[112]⟩ : ByteArray) ++ q1z), .bool (decide (x97 = 1)), .int .i64 0, .int .i64 0]) (yl_build bld_65 bldf_65 (parts_eq (pt (va := .string ((⟨#[112]⟩ : ByteArray) ++ q1z)) rfl (pt (va := .bool (decide (x97 = 1))) rfl pt0))) (by kernel_rfl)) <| ?_
   refine o_buildSlice (vs := [.agg #[.string ((⟨#[112]⟩ : ByteArray) ++ q1z), .bool (decide (x97 = 1)), .int .i64 0, .int .i64 0]]) (cs := [.string ((⟨#[112]⟩ : ByteArray) ++ q1z), .bool (decide (x97 = 1)), .int .i64 0, .int .i64 0]) sl_28 zero_65 (parts_eq (pt (va := .agg #[.string ((⟨#[112]⟩ : ByteArray) ++ q1z), .bool (decide (x97 = 1)), .int .i64 0, .int .i64 0]) rfl pt0)) rfl (by intro v hv; simp only [List.mem_cons, List.not_mem_nil, or_false] at hv; first | (subst hv; rfl) | (rcases hv with rfl <;> rfl)) (by decide) rfl hS (fun b100 w' hS => ?_)
   replace hFL15 := lv_s hFL15; obtain ⟨q44, q4h, hFL15⟩ := hFL15
   replace hFL15 := ck_s hFL15; obtain ⟨q4i, hFL15⟩ := hFL15
   refine o_ap sl_28 zero_65 rfl (by decide) rfl rfl (hS.pull 4) q29 (src_blk usl_28 hS rfl rfl) (RepL.cons (R := R_floor_Port) (ρ := ρ) (x := (T_floor_Port.mk ((⟨#[112]⟩ : ByteArray) ++ q1z) (decide (x97 = 1)) 0 0)) (cs := [.string ((⟨#[112]⟩ : ByteArray) ++ q1z), .bool (decide (x97 = 1)), .int .i64 0, .int .i64 0]) rfl RepL.nil) q4h q4i (fun A101 c101 cs101 w' hr101 hS => ?_)
   replace hFL15 := ar_s hFL15; obtain ⟨x102, hx102, hFL15⟩ := hFL15
   refine p (yl_assign rfl) <| x_done <| x_blk <| x_region <|
    p (yadd q2x rfl hx102) <| p (yl_move rfl) <| x_done <| ?_
   have e_ := sinj hFL15; subst e_
   exact x_inv ⟨kL15, Nat.lt_succ_self _, A101, q44.length, c101, cs101, q44, x102, hLL15, q3s, q3t, q3u, rfl, q3m, rfl, hr101, ((((((((hS.pull 1).drop.pull 6).pull 6).pull 6).pull 3).pull 6).pull 6).pull 6)⟩
  ·replace hFL15 := it_f hc89 hFL15
   refine x_exitTo _ rfl <| ?_
   have e_ := sinj hFL15; subst e_
   exact x_inv ⟨q16, q1q.length, c_l9_L15h, q10, q1q, hLL15, q3s, q3t, q3u, q3v, q29, (((((((hS.pull 6).pull 6).pull 6).pull 6).pull 6).pull 6).pull 6)⟩
 rintro E w ⟨q1w, q1x, c_l9_L15, q15, q28, rfl, q3n, q45, q46, q47, q2y, hS⟩
 have e_ := St.vec_n (hS.pull 3) q2y; subst e_
 replace hF := bd_s hF; obtain ⟨q4b, q4x, hF⟩ := hF
 refine x_seq <| x_seq <| x_region <| p (yl_move q3n) <| ?_
 have hcall := c_maskmake_Stream_Flip q4x q0h ((hS.pull 6).pull 1)
 refine o_cc call_17 (args2 rfl rfl) hcall ?_
 rintro e w' ⟨rfl, hS⟩
 refine ⟨_, rfl, ?_⟩
 refine x_done <| ?_
 replace hF := bd_s hF; obtain ⟨oc104, hFc104, hF⟩ := hF
 refine x_join (fun E w => ∃ (q2a : Option Addr) (q18 : Nat) (c_l9_c104 : Nat) (q20 : List Value) (q3g : List T_floor_Port), q3g = oc104 ∧ E 0 = .pointer (some ⟨q4, 0, none⟩) ∧ E 2 = .pointer (some ⟨b2, 0, none⟩) ∧ E 3 = .pointer (some ⟨b3, 0, none⟩) ∧ E 9 = .slice q2a q18 c_l9_c104 ∧ RepL R_floor_Port ρ q3g q20 ∧ St w0 w (cells q4 25 [.slice q5 s0.L.length c_s0_0, .int .i64 q4b.2] :: cells b2 30 [.int .i64 0, .int .i64 0, .int .i64 0, .slice none 0 0, .slice none 0 0, .slice none 0 0] :: cells b3 30 [.int .i64 q0a.1, .int .i64 q0b.1, .int .i64 q0c.1, .slice q2 q3.length c_b3_3_L4, .slice q0d q0e.length c_b3_4_L9, .slice none 0 0] :: vec 65 R_floor_Port.sz (.slice q2a q18 c_l9_c104) q18 q20 :: vec 60 R_floor_Block.sz (.slice q2 q3.length c_b3_3_L4) q3.length q0f :: vec 62 R_floor_Wall.sz (.slice q0d q0e.length c_b3_4_L9) q0e.length q0p :: ro ρ :: l)) ?_ ?_
 ·refine x_cond (t := q4b.1) rfl (fun hc104 => ?_) (fun hc104 => ?_)
  ·replace hFc104 := it_t hc104 hFc104
   refine x_region <| p (yl_move q47) <| p (v := .agg #[.string (⟨#[]⟩ : ByteArray), .bool false, .int .i64 0, .int .i64 0]) (yl_build bld_65 bldf_65 (parts_eq pt0) (by kernel_rfl)) <| ?_
   refine o_buildSlice (vs := [.agg #[.string (⟨#[]⟩ : ByteArray), .bool false, .int .i64 0, .int .i64 0]]) (cs := [.string (⟨#[]⟩ : ByteArray), .bool false, .int .i64 0, .int .i64 0]) sl_28 zero_65 (parts_eq (pt (va := .agg #[.string (⟨#[]⟩ : ByteArray), .bool false, .int .i64 0, .int .i64 0]) rfl pt0)) rfl (by intro v hv; simp only [List.mem_cons, List.not_mem_nil, or_false] at hv; first | (subst hv; rfl) | (rcases hv with rfl <;> rfl)) (by decide) rfl hS (fun b107 w' hS => ?_)
   replace hFc104 := lv_s hFc104; obtain ⟨q4c, q4y, hFc104⟩ := hFc104
   replace hFc104 := ck_s hFc104; obtain ⟨q4z, hFc104⟩ := hFc104
   refine o_ap sl_28 zero_65 rfl (by decide) rfl rfl (hS.pull 5) q2y (src_blk usl_28 hS rfl rfl) (RepL.cons (R := R_floor_Port) (ρ := ρ) (x := (T_floor_Port.mk (⟨#[]⟩ : ByteArray) false 0 0)) (cs := [.string (⟨#[]⟩ : ByteArray), .bool false, .int .i64 0, .int .i64 0]) rfl RepL.nil) q4y q4z (fun A108 c108 cs108 w' hr108 hS => ?_)
   refine p (yl_assign rfl) <| x_done <| ?_
   exact x_inv ⟨A108, q4c.length, c108, cs108, q4c, (sinj hFc104), q3n, q45, q46, rfl, hr108, ((((((((hS.pull 1).drop.pull 2).pull 6).pull 6).pull 3).pull 6).pull 6).pull 6)⟩
  ·replace hFc104 := it_bf hc104 hFc104
   refine x_skip <| ?_
   exact x_inv ⟨q1w, q28.length, c_l9_L15, q15, q28, (sinj hFc104), q3n, q45, q46, q47, q2y, (((((((hS.pull 1).pull 6).pull 6).pull 6).pull 6).pull 6).pull 6)⟩
 rintro E w ⟨q2a, q18, c_l9_c104, q20, q3g, rfl, q4j, q3w, q3x, q4k, q3h, hS⟩
 have e_ := St.vec_n (hS.pull 3) q3h; subst e_
 replace hF := bd_s hF; obtain ⟨q3i, q50, hF⟩ := hF
 refine x_seq <| x_region <| p (yl_move q4j) <| p (yl_move q4k) <| ?_
 replace hS := St.vec_nil hS 65 R_floor_Port.sz
 have q4l : RepL R_floor_Port ρ [] [] := rfl
 have q_ := St.lend ((hS.pull 7).pull 5) q3h; obtain ⟨ρl0, hll0, hlf0, hS0, back0⟩ := q_
 have hcall := c_maskmake_Stream_ports q50 (q0h.le hll0) (q23.le hll0) (q27.le hll0) (q4l.le hll0) hlf0 (((((hS0.pull 1).pull 6).pull 6).pull 6).pull 5)
 refine o_cc call_18 (args3 rfl q3x rfl) hcall ?_
 rintro e w' ⟨q0t, q48, c_b_f1_5_ret_21_2, q0v, rfl, q0o, hS⟩
 refine ⟨_, rfl, ?_⟩
 replace hS := back0 (hS.pull 5)
 replace q0o : RepL R_floor_Port ρ q3i.2 q0v := RepL.flat (fun h => h) q0o
 have e_ := St.vec_n (hS.pull 6) q0o; subst e_
 refine x_done <| x_seq <| x_region <| pa (v := .agg #[.int .i64 q0a.1, .int .i64 q0b.1, .int .i64 q0c.1, .slice q2 q3.length c_b3_3_L4, .slice q0d q0e.length c_b3_4_L9, .slice q0t q3i.2.length c_b_f1_5_ret_21_2]) (ld_sub agg_30 q3x rfl rfl (hS.pull 3)) <| ?_
 refine o_storeAgg (news := [.int .i64 q0a.1, .int .i64 q0b.1, .int .i64 q0c.1, .slice q2 q3.length c_b3_3_L4, .slice q0d q0e.length c_b3_4_L9, .slice q0t q3i.2.length c_b_f1_5_ret_21_2]) agg_30 q3w rfl rfl (by simp [over_length]) (hS.pull 7) (fun w' hS => ?_)
 refine x_done <| ?_
 have e_ := sinj hF; subst e_
 exact x_return ⟨_, ⟨_, _, _, rfl, q3w, ldvA agg_30 rfl (fun j v hj => by rw [add0]; exact St.cell hS hj), rfl⟩, q2, q3.length, c_b3_3_L4, q0f, q0d, q0e.length, c_b3_4_L9, q0p, q0t, q3i.2.length, c_b_f1_5_ret_21_2, q0v, rfl, q23, q27, q0o, (((((hS.drop.drop.pull 2).drop.pull 1).pull 4).pull 4).pull 4)⟩
attribute [irreducible] P_maskmake_Stream_Floor

def P_floor_Size_2 (f0 : T_floor_Floor) : Option (Int × Int) :=
 ar ((4 : Int) * f0.Sites) fun x6 =>
 ar (x6 + 8) fun x7 =>
 ar ((4 : Int) * f0.Rows) fun x10 =>
 ar (x10 + 8) fun x11 =>
 some (x7, x11)
theorem c_floor_Size_2 {w0 w : World} {l : List Assn} {ρ : Heap} {q2 : Option Addr} {q5 : Nat} {c_f0_3 : Nat} {q3 : Option Addr} {q6 : Nat} {c_f0_4 : Nat} {q4 : Option Addr} {q7 : Nat} {c_f0_5 : Nat} {f0 : T_floor_Floor} {r : (Int × Int)} (hF : P_floor_Size_2 f0 = some r) (q8 : RdS R_floor_Block ρ q2 q5 c_f0_3 f0.Blocks) (q9 : RdS R_floor_Wall ρ q3 q6 c_f0_4 f0.Walls) (q0a : RdS R_floor_Port ρ q4 q7 c_f0_5 f0.Ports) (hS : St w0 w (ro ρ :: l)) :
  Calls Tryd.prog 5 #[.agg #[.int .i64 f0.Rows, .int .i64 f0.Sites, .int .i64 f0.Layers, .slice q2 q5 c_f0_3, .slice q3 q6 c_f0_4, .slice q4 q7 c_f0_5]] w fun e w' => e = .returned (.tuple #[.int .i64 r.1, .int .i64 r.2]) ∧ St w0 w' (ro ρ :: l) := by
 have e_ := q8.n; subst e_
 have e_ := q9.n; subst e_
 have e_ := q0a.n; subst e_
 refine enterC Tryd.func5 rfl 12 rfl (by simp) ?_
 refine x_seq <| x_region <| ?_
 refine o_box (cs := [.int .i64 f0.Rows, .int .i64 f0.Sites, .int .i64 f0.Layers, .slice q2 f0.Blocks.length c_f0_3, .slice q3 f0.Walls.length c_f0_4, .slice q4 f0.Ports.length c_f0_5]) rfl rfl hS (fun b1 w' hS => ?_)
 replace hF := ar_s hF; obtain ⟨x6, hx6, hF⟩ := hF
 replace hF := ar_s hF; obtain ⟨x7, hx7, hF⟩ := hF
 replace hF := ar_s hF; obtain ⟨x10, hx10, hF⟩ := hF
 replace hF := ar_s hF; obtain ⟨x11, hx11, hF⟩ := hF
 refine p (yl_assign rfl) <| p (yl_assign rfl) <| x_done <| x_seq <|
  x_still mixed (by kernel_rfl) hS <| q (yl_field0 fld_30_1 rfl) <| qa (fun w' hS => at_load one_3 rfl (hS.cell rfl)) <| q (ymul rfl rfl hx6) <|
  q (yadd rfl rfl hx7) <| q (yl_field0 fld_30_0 rfl) <| qa (fun w' hS => at_load one_3 rfl (hS.cell rfl)) <| q (ymul rfl rfl hx10) <|
  q (yadd rfl rfl hx11) <| q (yl_assign rfl) <| q (yl_assign rfl) <|
  q_done fun w' hS => ?_
 have e_ := sinj hF; subst e_
 exact x_return ⟨_, ⟨_, _, rfl, rfl, _, _, rfl, rfl, rfl⟩, rfl, hS.drop⟩
attribute [irreducible] P_floor_Size_2

def P_floor_within (n0 : Int) (low1 : Int) (high2 : Int) : Option Bool :=
 lv ((decide (low1 ≤ n0)) && (decide (n0 ≤ high2))) fun x14 =>
 some x14
theorem c_floor_within {w0 w : World} {l : List Assn} {ρ : Heap} {n0 : Int} {low1 : Int} {high2 : Int} {r : Bool} (hF : P_floor_within n0 low1 high2 = some r) (hS : St w0 w (ro ρ :: l)) :
  Calls Tryd.prog 23 #[.int .i64 n0, .int .i64 low1, .int .i64 high2] w fun e w' => e = .returned (.bool r) ∧ St w0 w' (ro ρ :: l) := by
 refine enterC Tryd.func23 rfl 15 rfl (by simp) ?_
 replace hF := lv_s hF; obtain ⟨x14, hx14, hF⟩ := hF
 refine x_seq <| x_region <| p (yl_assign rfl) <| x_done <|
  x_seq <| x_region <| p (yl_move rfl) <| p (yl_move rfl) <|
  p (yl_leq rfl rfl) <| p (yl_move rfl) <| pg (v := .int .i64 n0) 10 (c := decide (low1 ≤ n0)) (says_t _) (fun hq => Yl.at (yl_move rfl)) <| pg (v := .int .i64 high2) 10 (c := decide (low1 ≤ n0)) (says_t _) (fun hq => Yl.at (yl_move rfl)) <|
  pg (v := .bool (decide (n0 ≤ high2))) 10 (c := decide (low1 ≤ n0)) (says_t _) (fun hq => Yl.at (yl_leq (cv hq) (cv hq))) <| p (yand' rfl (fun hc => (cv hc)) rfl hx14) <| p (yl_assign rfl) <| x_done <| ?_
 have e_ := sinj hF; subst e_
 exact x_return ⟨_, ⟨_, _, rfl, rfl, rfl⟩, rfl, hS⟩
attribute [irreducible] P_floor_within

def P_floor_validName_L2 (s0 : ByteArray) : Int → Option (Int ⊕ (Unit ⊕ Bool)) := fun q2 =>
 if q2 < (s0.size : Int) then
  ck (inb q2 s0.size) <|
  lv (byteAt s0 q2) fun x11 =>
  ck ((!(decide (x11 < 33))) = true → inb q2 s0.size) <|
  lv (byteAt s0 q2) fun x16 =>
  lv ((decide (x11 < 33)) || (decide (126 < x16))) fun x18 =>
  if x18 = true then
   some (Sum.inr (Sum.inr false))
  else
   ar (q2 + 1) fun x19 =>
   some (Sum.inl x19)
 else
  some (Sum.inr (Sum.inl ()))
def P_floor_validName (s0 : ByteArray) : Option Bool :=
 bs (
  lp (P_floor_validName_L2 s0) fuel 0) (fun y => some y) fun _ =>
 some (decide ((s0.size : Int) ≤ 128))
theorem c_floor_validName {w0 w : World} {l : List Assn} {ρ : Heap} {s0 : ByteArray} {r : Bool} (hF : P_floor_validName s0 = some r) (hS : St w0 w (ro ρ :: l)) :
  Calls Tryd.prog 35 #[.string s0] w fun e w' => e = .returned (.bool r) ∧ St w0 w' (ro ρ :: l) := by
 refine enterC Tryd.func35 rfl 23 rfl (by simp) ?_
 refine x_seq <| x_region <| p (yl_assign rfl) <| x_done <|
  x_seq <| x_seq <| x_region <| p (yl_move rfl) <|
  p (yl_len_string us_9 rfl) <| p (yl_move rfl) <| x_done <| ?_
 replace hF := bs_s hF; obtain ⟨oL2, hLL2, hF⟩ := hF
 refine x_join (fun E w => (Sum.inl (())) = oL2 ∧ E 0 = .string s0 ∧ St w0 w (ro ρ :: l)) ?_ ?_
 ·refine x_block ?_
  refine x_loop (fun k_ E w => ∃ (q2 : Int), lp (P_floor_validName_L2 s0) k_ q2 = some oL2 ∧ E 0 = .string s0 ∧ E 5 = .int .i64 (s0.size : Int) ∧ E 6 = .int .i64 q2 ∧ St w0 w (ro ρ :: l)) fuel ⟨0, hLL2, rfl, rfl, rfl, hS⟩ ?_
  rintro kL2 E w ⟨q2, hLL2, q3, q5, q4, hS⟩
  replace hLL2 := lp_s hLL2; obtain ⟨kL2, obL2, rfl, hFL2, hLL2⟩ := hLL2
  refine x_seq <| x_region <| p (yl_lss q4 q5) <| x_done <|
   x_seq <|
   x_cond_p (q2 < (s0.size : Int)) rfl (fun hc7 => ?_) (fun hc7 => ?_)
  ·replace hFL2 := it_t hc7 hFL2
   replace hFL2 := ck_s hFL2; obtain ⟨q6, hFL2⟩ := hFL2
   replace hFL2 := lv_s hFL2; obtain ⟨x11, hx11, hFL2⟩ := hFL2
   replace hFL2 := ck_s hFL2; obtain ⟨q7, hFL2⟩ := hFL2
   replace hFL2 := lv_s hFL2; obtain ⟨x16, hx16, hFL2⟩ := hFL2
   replace hFL2 := lv_s hFL2; obtain ⟨x18, hx18, hFL2⟩ := hFL2
   refine x_skip <| x_seq <| x_block <| x_seq <|
    x_region <| p (yl_move q4) <| p (yl_assign rfl) <| x_done <|
    x_seq <| x_region <| p (yl_move q3) <| p (yl_move rfl) <|
    p (ystr us_9 rfl rfl q6 hx11) <| p (yl_lss rfl rfl) <| p (yl_move rfl) <| pg (v := .string s0) 13 (c := !(decide (x11 < 33))) (says_f _) (fun hq => Yl.at (yl_move q3)) <|
    pg (v := .int .i64 q2) 13 (c := !(decide (x11 < 33))) (says_f _) (fun hq => Yl.at (yl_move rfl)) <| pg (v := .int .u8 x16) 13 (c := !(decide (x11 < 33))) (says_f _) (fun hq => Yl.at (ystr us_9 (cv hq) (cv hq) (q7 hq) hx16)) <| pg (v := .bool (decide (126 < x16))) 13 (c := !(decide (x11 < 33))) (says_f _) (fun hq => Yl.at (yl_gtr (cv hq) rfl)) <| p (yor' rfl rfl (fun hc => (cv (t_not hc))) hx18) <|
    x_done <|
    x_cond (t := x18) rfl (fun hc18 => ?_) (fun hc18 => ?_)
   ·replace hFL2 := it_t hc18 hFL2
    refine x_seq <| x_region <| p (yl_assign rfl) <| x_done <| ?_
    have e_ := sinj hFL2; subst e_
    have e_ := (show _ = oL2 from hLL2); subst e_
    have e_ := sinj hF; subst e_
    exact x_return ⟨_, ⟨_, _, rfl, rfl, rfl⟩, rfl, hS⟩
   ·replace hFL2 := it_bf hc18 hFL2
    replace hFL2 := ar_s hFL2; obtain ⟨x19, hx19, hFL2⟩ := hFL2
    refine x_skip <| x_blk <| x_region <| p (yadd q4 rfl hx19) <|
     p (yl_move rfl) <| x_done <| ?_
    have e_ := sinj hFL2; subst e_
    exact x_inv ⟨kL2, Nat.lt_succ_self _, x19, hLL2, q3, q5, rfl, hS⟩
  ·replace hFL2 := it_f hc7 hFL2
   refine x_exitTo _ rfl <| ?_
   have e_ := sinj hFL2; subst e_
   exact x_inv ⟨hLL2, q3, hS⟩
 rintro E w ⟨rfl, q8, hS⟩
 refine x_seq <| x_region <| p (yl_move q8) <| p (yl_len_string us_9 rfl) <|
  p (yl_leq rfl rfl) <| p (yl_assign rfl) <| x_done <| ?_
 have e_ := sinj hF; subst e_
 exact x_return ⟨_, ⟨_, _, rfl, rfl, rfl⟩, rfl, hS⟩
attribute [irreducible] P_floor_validName

def P_floor_checkPort_L10 (q4 : T_floor_Port) (x77 : List T_floor_Port) : Int → Option (Int ⊕ (Unit ⊕ Int)) := fun q2 =>
 if q2 < (x77.length : Int) then
  ck (inb q2 x77.length) <|
  lv (gt x77 q2) fun q3 =>
  lv ((decide (q3.Name = q4.Name)) && (q3.Out == q4.Out)) fun x94 =>
  if x94 = true then
   some (Sum.inr (Sum.inr (6 : Int)))
  else
   ar (q4.X - q3.X) fun x99 =>
   ar (q3.X - q4.X) fun x104 =>
   ar (q4.Y - q3.Y) fun x109 =>
   ar (q3.Y - q4.Y) fun x114 =>
   lv (max (max (max x99 x104) x109) x114) fun x115 =>
   if x115 < 2 then
    some (Sum.inr (Sum.inr (15 : Int)))
   else
    ar (q2 + 1) fun x117 =>
    some (Sum.inl x117)
 else
  some (Sum.inr (Sum.inl ()))
def P_floor_checkPort_L18 (f0 : T_floor_Floor) (q4 : T_floor_Port) : Int → Option (Int ⊕ (Unit ⊕ Int)) := fun q2 =>
 if q2 < (f0.Walls.length : Int) then
  ck (inb q2 f0.Walls.length) <|
  lv (gt f0.Walls q2) fun q3 =>
  bd (gd (decide (q3.Layer = 0)) (P_floor_within q4.X q3.X0 q3.X1)) fun q5 =>
  lv ((decide (q3.Layer = 0)) && q5) fun x136 =>
  bd (gd (x136) (P_floor_within q4.Y q3.Y0 q3.Y1)) fun q6 =>
  lv (x136 && q6) fun x145 =>
  if x145 = true then
   some (Sum.inr (Sum.inr (15 : Int)))
  else
   ar (q2 + 1) fun x146 =>
   some (Sum.inl x146)
 else
  some (Sum.inr (Sum.inl ()))
def P_floor_checkPort (f0 : T_floor_Floor) (i1 : Int) : Option Int :=
 ck (inb i1 f0.Ports.length) <|
 lv (gt f0.Ports i1) fun q2 =>
 bd (P_floor_Size f0) fun q3 =>
 bd (P_floor_validName q2.Name) fun q6 =>
 if (!q6) = true then
  some (9 : Int)
 else
  lv ((decide (q2.Name = (⟨#[]⟩ : ByteArray))) && q2.Out) fun x34 =>
  if x34 = true then
   some (4 : Int)
  else
   ar (q3.1 - 1) fun x39 =>
   bd (P_floor_within q2.X 0 x39) fun q4 =>
   ck ((!(!q4)) = true → I64 (q3.2 - 1)) <|
   lv (q3.2 - 1) fun x46 =>
   bd (gd (!(!q4)) (P_floor_within q2.Y 0 x46)) fun q5 =>
   lv ((!q4) || (!q5)) fun x49 =>
   ck (((!x49) && (decide (0 < q2.X))) = true → I64 (q3.1 - 1)) <|
   lv (q3.1 - 1) fun x58 =>
   lv ((decide (0 < q2.X)) && (decide (q2.X < x58))) fun x60 =>
   lv (x60 && (decide (0 < q2.Y))) fun x65 =>
   ck (((!x49) && x65) = true → I64 (q3.2 - 1)) <|
   lv (q3.2 - 1) fun x70 =>
   lv (x65 && (decide (q2.Y < x70))) fun x72 =>
   lv (x49 || x72) fun x73 =>
   if x73 = true then
    some (2 : Int)
   else
    ck (0 ≤ (0 : Int) ∧ (0 : Int) ≤ i1 ∧ i1 ≤ f0.Ports.length) <|
    lv (sub f0.Ports 0 i1) fun x77 =>
    bs (
     lp (P_floor_checkPort_L10 q2 x77) fuel 0) (fun y => some y) fun _ =>
    bs (
     lp (P_floor_checkPort_L18 f0 q2) fuel 0) (fun y => some y) fun _ =>
    some (0 : Int)
theorem c_floor_checkPort {w0 w : World} {l : List Assn} {ρ : Heap} {q8 : Option Addr} {q0n : Nat} {c_f0_3 : Nat} {q6 : Option Addr} {q0o : Nat} {c_f0_4 : Nat} {q9 : Option Addr} {q0p : Nat} {c_f0_5 : Nat} {f0 : T_floor_Floor} {i1 : Int} {r : Int} (hF : P_floor_checkPort f0 i1 = some r) (q0q : RdS R_floor_Block ρ q8 q0n c_f0_3 f0.Blocks) (q0e : RdS R_floor_Wall ρ q6 q0o c_f0_4 f0.Walls) (q0b : RdS R_floor_Port ρ q9 q0p c_f0_5 f0.Ports) (hS : St w0 w (ro ρ :: l)) :
  Calls Tryd.prog 24 #[.agg #[.int .i64 f0.Rows, .int .i64 f0.Sites, .int .i64 f0.Layers, .slice q8 q0n c_f0_3, .slice q6 q0o c_f0_4, .slice q9 q0p c_f0_5], .int .i64 i1] w fun e w' => e = .returned (.int .i64 r) ∧ St w0 w' (ro ρ :: l) := by
 have e_ := q0q.n; subst e_
 have e_ := q0e.n; subst e_
 have e_ := q0b.n; subst e_
 refine enterC Tryd.func24 rfl 147 rfl (by simp) ?_
 refine x_seq <| x_region <| ?_
 refine o_box (cs := [.int .i64 f0.Rows, .int .i64 f0.Sites, .int .i64 f0.Layers, .slice q8 f0.Blocks.length c_f0_3, .slice q6 f0.Walls.length c_f0_4, .slice q9 f0.Ports.length c_f0_5]) rfl rfl hS (fun b2 w' hS => ?_)
 replace hF := ck_s hF; obtain ⟨q0v, hF⟩ := hF
 replace hF := lv_s hF; obtain ⟨q2, q1d, hF⟩ := hF
 have q_ := q0b.get q0v; obtain ⟨q1l, q0w, q1e⟩ := q_
 rw [← q1d] at q0w
 have e_ := q0w; subst e_
 refine p (yl_assign rfl) <| x_done <| x_seq <| x_region <|
  p (yl_field0 fld_30_5 rfl) <| pa (at_load one_28 rfl (hS.cell rfl)) <| p (yl_move rfl) <| p (yix_f sl_28 rfl rfl q0b q0v) <|
  pa (v := .agg #[.string q2.Name, .bool q2.Out, .int .i64 q2.X, .int .i64 q2.Y]) (at_loadAgg agg_65 rfl rfl (Elt.every q1e (hS.pull 1))) <| ?_
 refine o_alloc zero_65 hS (fun b5 w' hS => ?_)
 refine o_storeAgg (news := [.string q2.Name, .bool q2.Out, .int .i64 q2.X, .int .i64 q2.Y]) agg_65 rfl rfl rfl (by simp [over_length]) hS (fun w' hS => ?_)
 replace hF := bd_s hF; obtain ⟨q0j, q1f, hF⟩ := hF
 refine x_done <| x_seq <| x_region <| pa (v := .agg #[.int .i64 f0.Rows, .int .i64 f0.Sites, .int .i64 f0.Layers, .slice q8 f0.Blocks.length c_f0_3, .slice q6 f0.Walls.length c_f0_4, .slice q9 f0.Ports.length c_f0_5]) (ld_sub agg_30 rfl rfl rfl (hS.pull 1)) <| ?_
 have hcall := c_floor_Size q1f q0q q0e q0b (hS.pull 2)
 refine o_cc call_5 (args1 rfl) ((Calls.mono hcall (fun e w'' h => And.intro h.1 ((h.2.pull 2).pull 2)))) ?_
 rintro e w' ⟨rfl, hS⟩
 refine ⟨_, rfl, ?_⟩
 replace hF := bd_s hF; obtain ⟨q1i, q1g, hF⟩ := hF
 refine p (v := .tuple #[.int .i64 q0j.1, .int .i64 q0j.2]) (yl_move rfl) <| p (yl_extract rfl rfl) <| p (yl_extract rfl rfl) <| p (yl_assign rfl) <|
  p (yl_assign rfl) <| x_done <| x_seq <| x_block <|
  x_seq <| x_region <| p (yl_field0 fld_65_0 rfl) <| pa (at_load one_9 rfl (hS.cell rfl)) <| ?_
 have hcall := c_floor_validName q1g  (hS.pull 2)
 refine o_cc call_35 (args1 rfl) ((Calls.mono hcall (fun e w'' h => And.intro h.1 ((h.2.pull 2).pull 2)))) ?_
 rintro e w' ⟨rfl, hS⟩
 refine ⟨_, rfl, ?_⟩
 refine p (yl_not rfl) <| p (yl_assign rfl) <| x_done <|
  x_cond (t := !q1i) rfl (fun hc22 => ?_) (fun hc22 => ?_)
 ·replace hF := it_t hc22 hF
  refine x_seq <| x_region <| p (yl_assign rfl) <| x_done <| ?_
  have e_ := sinj hF; subst e_
  exact x_return ⟨_, ⟨_, _, rfl, rfl, rfl⟩, rfl, hS.drop.drop⟩
 ·replace hF := it_bf hc22 hF
  replace hF := lv_s hF; obtain ⟨x34, hx34, hF⟩ := hF
  refine x_seq <| x_region <| p (yl_field0 fld_65_0 rfl) <| pa (at_load one_9 rfl (hS.cell rfl)) <|
   p (yl_eql_string rfl rfl) <| p (yl_move rfl) <| pg (v := .pointer (some ⟨b5, 1, none⟩)) 31 (c := decide (q2.Name = (⟨#[]⟩ : ByteArray))) (says_t _) (fun hq => Yl.at (yl_field0 fld_65_1 rfl)) <| pg (v := .bool q2.Out) 31 (c := decide (q2.Name = (⟨#[]⟩ : ByteArray))) (says_t _) (fun hq => at_load one_4 (cv hq) (hS.cell rfl)) <|
   p (yand' rfl (fun hc => (cv hc)) rfl hx34) <| p (yl_assign rfl) <| x_done <|
   x_cond (t := x34) rfl (fun hc27 => ?_) (fun hc27 => ?_)
  ·replace hF := it_t hc27 hF
   refine x_seq <| x_region <| p (yl_assign rfl) <| x_done <| ?_
   have e_ := sinj hF; subst e_
   exact x_return ⟨_, ⟨_, _, rfl, rfl, rfl⟩, rfl, hS.drop.drop⟩
  ·replace hF := it_bf hc27 hF
   replace hF := ar_s hF; obtain ⟨x39, hx39, hF⟩ := hF
   replace hF := bd_s hF; obtain ⟨q0f, q1h, hF⟩ := hF
   refine x_seq <| x_region <| p (yl_field0 fld_65_2 rfl) <| pa (at_load one_3 rfl (hS.cell rfl)) <|
    p (yl_move rfl) <| p (ysub rfl rfl hx39) <| ?_
   have hcall := c_floor_within q1h  (hS.pull 2)
   refine o_cc call_23 (args3 rfl rfl rfl) ((Calls.mono hcall (fun e w'' h => And.intro h.1 ((h.2.pull 2).pull 2)))) ?_
   rintro e w' ⟨rfl, hS⟩
   refine ⟨_, rfl, ?_⟩
   replace hF := ck_s hF; obtain ⟨q11, hF⟩ := hF
   replace hF := lv_s hF; obtain ⟨x46, hx46, hF⟩ := hF
   replace hF := bd_s hF; obtain ⟨q0x, q12, hF⟩ := hF
   refine p (yl_not rfl) <| p (yl_move rfl) <| pg (v := .pointer (some ⟨b5, 3, none⟩)) 42 (c := !(!q0f)) (says_f _) (fun hq => Yl.at (yl_field0 fld_65_3 rfl)) <| pg (v := .int .i64 q2.Y) 42 (c := !(!q0f)) (says_f _) (fun hq => at_load one_3 (cv hq) (hS.cell rfl)) <|
    pg (v := .int .i64 q0j.2) 42 (c := !(!q0f)) (says_f _) (fun hq => Yl.at (yl_move rfl)) <| pg (v := .int .i64 x46) 42 (c := !(!q0f)) (says_f _) (fun hq => Yl.at (ysub (cv hq) rfl ⟨hx46, (q11 hq)⟩)) <|
    pccg (v := .bool q0x) 42 (c := !(!q0f)) (says_f _) call_23 (fun hq => (args3 (cv hq) rfl (cv hq))) hS (fun hq => by
     have hcall := c_floor_within (gd_t q12 hq)  (hS.pull 2)
     exact (Calls.mono hcall (fun e w'' h => And.intro h.1 ((h.2.pull 2).pull 2)))) (fun w' hS => ?_)
   replace hF := lv_s hF; obtain ⟨x49, hx49, hF⟩ := hF
   replace hF := ck_s hF; obtain ⟨q13, hF⟩ := hF
   replace hF := lv_s hF; obtain ⟨x58, hx58, hF⟩ := hF
   replace hF := lv_s hF; obtain ⟨x60, hx60, hF⟩ := hF
   replace hF := lv_s hF; obtain ⟨x65, hx65, hF⟩ := hF
   replace hF := ck_s hF; obtain ⟨q14, hF⟩ := hF
   replace hF := lv_s hF; obtain ⟨x70, hx70, hF⟩ := hF
   replace hF := lv_s hF; obtain ⟨x72, hx72, hF⟩ := hF
   replace hF := lv_s hF; obtain ⟨x73, hx73, hF⟩ := hF
   refine pg (v := .bool (!q0x)) 42 (c := !(!q0f)) (says_f _) (fun hq => Yl.at (yl_not (cv hq))) <| p (yor' rfl rfl (fun hc => (cv (t_not hc))) hx49) <| p (yl_move rfl) <| pg (v := .pointer (some ⟨b5, 2, none⟩)) 50 (c := !x49) (says_f _) (fun hq => Yl.at (yl_field0 fld_65_2 rfl)) <|
    pg (v := .int .i64 q2.X) 50 (c := !x49) (says_f _) (fun hq => at_load one_3 (cv hq) (hS.cell rfl)) <| pg (v := .bool (decide (0 < q2.X))) 50 (c := !x49) (says_f _) (fun hq => Yl.at (yl_gtr (cv hq) rfl)) <| pg (v := .bool (decide (0 < q2.X))) 50 (c := !x49) (says_f _) (fun hq => Yl.at (yl_move (cv hq))) <| pg (v := .pointer (some ⟨b5, 2, none⟩)) 54 (c := (!x49) && (decide (0 < q2.X))) (says_ift _ _) (fun hq => Yl.at (yl_field0 fld_65_2 rfl)) <|
    pg (v := .int .i64 q2.X) 54 (c := (!x49) && (decide (0 < q2.X))) (says_ift _ _) (fun hq => at_load one_3 (cv hq) (hS.cell rfl)) <| pg (v := .int .i64 q0j.1) 54 (c := (!x49) && (decide (0 < q2.X))) (says_ift _ _) (fun hq => Yl.at (yl_move rfl)) <| pg (v := .int .i64 x58) 54 (c := (!x49) && (decide (0 < q2.X))) (says_ift _ _) (fun hq => Yl.at (ysub (cv hq) rfl ⟨hx58, (q13 hq)⟩)) <| pg (v := .bool (decide (q2.X < x58))) 54 (c := (!x49) && (decide (0 < q2.X))) (says_ift _ _) (fun hq => Yl.at (yl_lss (cv hq) (cv hq))) <|
    pg (v := .bool x60) 50 (c := !x49) (says_f _) (fun hq => Yl.at (yand' (cv hq) (fun hc => (cv (and_i hq hc))) rfl hx60)) <| pg (v := .bool x60) 50 (c := !x49) (says_f _) (fun hq => Yl.at (yl_move (cv hq))) <| pg (v := .pointer (some ⟨b5, 3, none⟩)) 61 (c := (!x49) && x60) (says_ift _ _) (fun hq => Yl.at (yl_field0 fld_65_3 rfl)) <| pg (v := .int .i64 q2.Y) 61 (c := (!x49) && x60) (says_ift _ _) (fun hq => at_load one_3 (cv hq) (hS.cell rfl)) <|
    pg (v := .bool (decide (0 < q2.Y))) 61 (c := (!x49) && x60) (says_ift _ _) (fun hq => Yl.at (yl_gtr (cv hq) rfl)) <| pg (v := .bool x65) 50 (c := !x49) (says_f _) (fun hq => Yl.at (yand' (cv hq) (fun hc => (cv (and_i hq hc))) rfl hx65)) <| pg (v := .bool x65) 50 (c := !x49) (says_f _) (fun hq => Yl.at (yl_move (cv hq))) <| pg (v := .pointer (some ⟨b5, 3, none⟩)) 66 (c := (!x49) && x65) (says_ift _ _) (fun hq => Yl.at (yl_field0 fld_65_3 rfl)) <|
    pg (v := .int .i64 q2.Y) 66 (c := (!x49) && x65) (says_ift _ _) (fun hq => at_load one_3 (cv hq) (hS.cell rfl)) <| pg (v := .int .i64 q0j.2) 66 (c := (!x49) && x65) (says_ift _ _) (fun hq => Yl.at (yl_move rfl)) <| pg (v := .int .i64 x70) 66 (c := (!x49) && x65) (says_ift _ _) (fun hq => Yl.at (ysub (cv hq) rfl ⟨hx70, (q14 hq)⟩)) <| pg (v := .bool (decide (q2.Y < x70))) 66 (c := (!x49) && x65) (says_ift _ _) (fun hq => Yl.at (yl_lss (cv hq) (cv hq))) <|
    pg (v := .bool x72) 50 (c := !x49) (says_f _) (fun hq => Yl.at (yand' (cv hq) (fun hc => (cv (and_i hq hc))) rfl hx72)) <| p (yor' rfl rfl (fun hc => (cv (t_not hc))) hx73) <| p (yl_assign rfl) <| x_done <|
    x_cond (t := x73) rfl (fun hc35 => ?_) (fun hc35 => ?_)
   ·replace hF := it_t hc35 hF
    refine x_seq <| x_region <| p (yl_assign rfl) <| x_done <| ?_
    have e_ := sinj hF; subst e_
    exact x_return ⟨_, ⟨_, _, rfl, rfl, rfl⟩, rfl, hS.drop.drop⟩
   ·replace hF := it_bf hc35 hF
    replace hF := ck_s hF; obtain ⟨q0y, hF⟩ := hF
    replace hF := lv_s hF; obtain ⟨x77, hx77, hF⟩ := hF
    refine x_skip <| x_blk <| x_seq <| x_seq <|
     x_region <| p (yl_field0 fld_30_5 rfl) <| pa (at_load one_28 rfl ((hS.pull 1).cell rfl)) <| p (yl_move rfl) <| ?_
    have q_ := RdS.sub q0b q0y hx77; obtain ⟨A77, n77, c77, hd77, f77⟩ := q_
    refine p (ysub_h sl_28 rfl rfl q0y hd77) <| ?_
    have e_ := f77.n; subst e_
    refine p (yl_len_slice usl_28 rfl) <| p (yl_move rfl) <| x_done <| ?_
    replace hF := bs_s hF; obtain ⟨oL10, hLL10, hF⟩ := hF
    refine x_join (fun E w => (Sum.inl (())) = oL10 ∧ E 2 = .pointer (some ⟨b2, 0, none⟩) ∧ E 5 = .pointer (some ⟨b5, 0, none⟩) ∧ St w0 w (cells b2 30 [.int .i64 f0.Rows, .int .i64 f0.Sites, .int .i64 f0.Layers, .slice q8 f0.Blocks.length c_f0_3, .slice q6 f0.Walls.length c_f0_4, .slice q9 f0.Ports.length c_f0_5] :: cells b5 65 [.string q2.Name, .bool q2.Out, .int .i64 q2.X, .int .i64 q2.Y] :: ro ρ :: l)) ?_ ?_
    ·refine x_block ?_
     refine x_loop (fun k_ E w => ∃ (q0a : Int), lp (P_floor_checkPort_L10 q2 x77) k_ q0a = some oL10 ∧ E 2 = .pointer (some ⟨b2, 0, none⟩) ∧ E 5 = .pointer (some ⟨b5, 0, none⟩) ∧ E 77 = .slice A77 x77.length c77 ∧ E 78 = .int .i64 (x77.length : Int) ∧ E 79 = .int .i64 q0a ∧ St w0 w (cells b2 30 [.int .i64 f0.Rows, .int .i64 f0.Sites, .int .i64 f0.Layers, .slice q8 f0.Blocks.length c_f0_3, .slice q6 f0.Walls.length c_f0_4, .slice q9 f0.Ports.length c_f0_5] :: cells b5 65 [.string q2.Name, .bool q2.Out, .int .i64 q2.X, .int .i64 q2.Y] :: ro ρ :: l)) fuel ⟨0, hLL10, rfl, rfl, rfl, rfl, rfl, (((hS.pull 2).pull 1).pull 2)⟩ ?_
     rintro kL10 E w ⟨q0a, hLL10, q0m, q5, q0k, q0l, q0d, hS⟩
     replace hLL10 := lp_s hLL10; obtain ⟨kL10, obL10, rfl, hFL10, hLL10⟩ := hLL10
     refine x_seq <| x_region <| p (yl_lss q0d q0l) <| x_done <|
      x_seq <|
      x_cond_p (q0a < (x77.length : Int)) rfl (fun hc80 => ?_) (fun hc80 => ?_)
     ·replace hFL10 := it_t hc80 hFL10
      replace hFL10 := ck_s hFL10; obtain ⟨q0r, hFL10⟩ := hFL10
      replace hFL10 := lv_s hFL10; obtain ⟨q4, q15, hFL10⟩ := hFL10
      have q_ := f77.get q0r; obtain ⟨q1j, q0s, q16⟩ := q_
      rw [← q15] at q0s
      have e_ := q0s; subst e_
      refine x_skip <| x_seq <| x_block <| x_seq <|
       x_region <| p (yix_f sl_28 q0k q0d f77 q0r) <| pa (v := .agg #[.string q4.Name, .bool q4.Out, .int .i64 q4.X, .int .i64 q4.Y]) (at_loadAgg agg_65 rfl rfl (Elt.every q16 (hS.pull 2))) <| ?_
      refine o_alloc zero_65 hS (fun b9 w' hS => ?_)
      refine o_storeAgg (news := [.string q4.Name, .bool q4.Out, .int .i64 q4.X, .int .i64 q4.Y]) agg_65 rfl rfl rfl (by simp [over_length]) hS (fun w' hS => ?_)
      replace hFL10 := lv_s hFL10; obtain ⟨x94, hx94, hFL10⟩ := hFL10
      refine x_done <| x_seq <| x_seq <| x_region <|
       p (yl_field0 fld_65_0 rfl) <| pa (at_load one_9 rfl (hS.cell rfl)) <| p (yl_field0 fld_65_0 q5) <| pa (at_load one_9 rfl ((hS.pull 2).cell rfl)) <|
       p (yl_eql_string rfl rfl) <| p (yl_move rfl) <| pg (v := .pointer (some ⟨b9, 1, none⟩)) 88 (c := decide (q4.Name = q2.Name)) (says_t _) (fun hq => Yl.at (yl_field0 fld_65_1 rfl)) <| pg (v := .bool q4.Out) 88 (c := decide (q4.Name = q2.Name)) (says_t _) (fun hq => at_load one_4 (cv hq) (hS.cell rfl)) <|
       pg (v := .pointer (some ⟨b5, 1, none⟩)) 88 (c := decide (q4.Name = q2.Name)) (says_t _) (fun hq => Yl.at (yl_field0 fld_65_1 q5)) <| pg (v := .bool q2.Out) 88 (c := decide (q4.Name = q2.Name)) (says_t _) (fun hq => at_load one_4 (cv hq) ((hS.pull 2).cell rfl)) <| pg (v := .bool (q4.Out == q2.Out)) 88 (c := decide (q4.Name = q2.Name)) (says_t _) (fun hq => Yl.at (yeqb ub_4 (cv hq) (cv hq))) <| p (yand' rfl (fun hc => (cv hc)) rfl hx94) <|
       x_done <|
       x_cond (t := x94) rfl (fun hc94 => ?_) (fun hc94 => ?_)
      ·replace hFL10 := it_t hc94 hFL10
       refine x_seq <| x_region <| p (yl_assign rfl) <| x_done <| ?_
       have e_ := sinj hFL10; subst e_
       have e_ := (show _ = oL10 from hLL10); subst e_
       have e_ := sinj hF; subst e_
       exact x_return ⟨_, ⟨_, _, rfl, rfl, rfl⟩, rfl, hS.drop.drop.drop⟩
      ·replace hFL10 := it_bf hc94 hFL10
       replace hFL10 := ar_s hFL10; obtain ⟨x99, hx99, hFL10⟩ := hFL10
       replace hFL10 := ar_s hFL10; obtain ⟨x104, hx104, hFL10⟩ := hFL10
       replace hFL10 := ar_s hFL10; obtain ⟨x109, hx109, hFL10⟩ := hFL10
       replace hFL10 := ar_s hFL10; obtain ⟨x114, hx114, hFL10⟩ := hFL10
       replace hFL10 := lv_s hFL10; obtain ⟨x115, hx115, hFL10⟩ := hFL10
       refine x_skip <| x_seq <| x_region <| p (yl_field0 fld_65_2 q5) <|
        pa (at_load one_3 rfl ((hS.pull 2).cell rfl)) <| p (yl_field0 fld_65_2 rfl) <| pa (at_load one_3 rfl (hS.cell rfl)) <| p (ysub rfl rfl hx99) <|
        p (yl_field0 fld_65_2 rfl) <| pa (at_load one_3 rfl (hS.cell rfl)) <| p (yl_field0 fld_65_2 q5) <| pa (at_load one_3 rfl ((hS.pull 2).cell rfl)) <|
        p (ysub rfl rfl hx104) <| p (yl_field0 fld_65_3 q5) <| pa (at_load one_3 rfl ((hS.pull 2).cell rfl)) <| p (yl_field0 fld_65_3 rfl) <|
        pa (at_load one_3 rfl (hS.cell rfl)) <| p (ysub rfl rfl hx109) <| p (yl_field0 fld_65_3 rfl) <| pa (at_load one_3 rfl (hS.cell rfl)) <|
        p (yl_field0 fld_65_3 q5) <| pa (at_load one_3 rfl ((hS.pull 2).cell rfl)) <| p (ysub rfl rfl hx114) <| p (ymax4 rfl rfl rfl rfl hx115) <|
        p (yl_lss rfl rfl) <| x_done <|
        x_cond_p (x115 < 2) rfl (fun hc116 => ?_) (fun hc116 => ?_)
       ·replace hFL10 := it_t hc116 hFL10
        refine x_seq <| x_region <| p (yl_assign rfl) <| x_done <| ?_
        have e_ := sinj hFL10; subst e_
        have e_ := (show _ = oL10 from hLL10); subst e_
        have e_ := sinj hF; subst e_
        exact x_return ⟨_, ⟨_, _, rfl, rfl, rfl⟩, rfl, hS.drop.drop.drop⟩
       ·replace hFL10 := it_f hc116 hFL10
        replace hFL10 := ar_s hFL10; obtain ⟨x117, hx117, hFL10⟩ := hFL10
        refine x_skip <| x_blk <| x_region <| p (yadd q0d rfl hx117) <|
         p (yl_move rfl) <| x_done <| ?_
        have e_ := sinj hFL10; subst e_
        exact x_inv ⟨kL10, Nat.lt_succ_self _, x117, hLL10, q0m, q5, q0k, q0l, rfl, (((hS.drop.pull 2).pull 2).pull 2)⟩
     ·replace hFL10 := it_f hc80 hFL10
      refine x_exitTo _ rfl <| ?_
      have e_ := sinj hFL10; subst e_
      exact x_inv ⟨hLL10, q0m, q5, (((hS.pull 2).pull 2).pull 2)⟩
    rintro E w ⟨rfl, q17, q18, hS⟩
    refine x_seq <| x_seq <| x_region <| p (yl_field0 fld_30_4 q17) <|
     pa (at_load one_27 rfl (hS.cell rfl)) <| p (yl_len_slice usl_27 rfl) <| p (yl_move rfl) <| x_done <| ?_
    replace hF := bs_s hF; obtain ⟨oL18, hLL18, hF⟩ := hF
    refine x_join (fun E w => (Sum.inl (())) = oL18 ∧ St w0 w (ro ρ :: l)) ?_ ?_
    ·refine x_block ?_
     refine x_loop (fun k_ E w => ∃ (q7 : Int), lp (P_floor_checkPort_L18 f0 q2) k_ q7 = some oL18 ∧ E 5 = .pointer (some ⟨b5, 0, none⟩) ∧ E 119 = .slice q6 f0.Walls.length c_f0_4 ∧ E 120 = .int .i64 (f0.Walls.length : Int) ∧ E 121 = .int .i64 q7 ∧ St w0 w (cells b5 65 [.string q2.Name, .bool q2.Out, .int .i64 q2.X, .int .i64 q2.Y] :: ro ρ :: l)) fuel ⟨0, hLL18, q18, rfl, rfl, rfl, ((hS.drop.pull 1).pull 1)⟩ ?_
     rintro kL18 E w ⟨q7, hLL18, q0g, q0h, q0i, q0c, hS⟩
     replace hLL18 := lp_s hLL18; obtain ⟨kL18, obL18, rfl, hFL18, hLL18⟩ := hLL18
     refine x_seq <| x_region <| p (yl_lss q0c q0i) <| x_done <|
      x_seq <|
      x_cond_p (q7 < (f0.Walls.length : Int)) rfl (fun hc122 => ?_) (fun hc122 => ?_)
     ·replace hFL18 := it_t hc122 hFL18
      replace hFL18 := ck_s hFL18; obtain ⟨q0t, hFL18⟩ := hFL18
      replace hFL18 := lv_s hFL18; obtain ⟨q3, q19, hFL18⟩ := hFL18
      have q_ := q0e.get q0t; obtain ⟨q1k, q0u, q1a⟩ := q_
      rw [← q19] at q0u
      have e_ := q0u; subst e_
      refine x_skip <| x_seq <| x_block <| x_seq <|
       x_region <| p (yix_f sl_27 q0h q0c q0e q0t) <| pa (v := .agg #[.int .i64 q3.Layer, .int .i64 q3.X0, .int .i64 q3.Y0, .int .i64 q3.X1, .int .i64 q3.Y1]) (at_loadAgg agg_62 rfl rfl (Elt.every q1a (hS.pull 1))) <| ?_
      refine o_alloc zero_62 hS (fun b11 w' hS => ?_)
      refine o_storeAgg (news := [.int .i64 q3.Layer, .int .i64 q3.X0, .int .i64 q3.Y0, .int .i64 q3.X1, .int .i64 q3.Y1]) agg_62 rfl rfl rfl (by simp [over_length]) hS (fun w' hS => ?_)
      replace hFL18 := bd_s hFL18; obtain ⟨q1b, q0z, hFL18⟩ := hFL18
      refine x_done <| x_seq <| x_region <| p (yl_field0 fld_62_0 rfl) <|
       pa (at_load one_3 rfl (hS.cell rfl)) <| p (yl_eql rfl rfl) <| p (yl_move rfl) <| pg (v := .pointer (some ⟨b5, 2, none⟩)) 128 (c := decide (q3.Layer = 0)) (says_t _) (fun hq => Yl.at (yl_field0 fld_65_2 q0g)) <|
       pg (v := .int .i64 q2.X) 128 (c := decide (q3.Layer = 0)) (says_t _) (fun hq => at_load one_3 (cv hq) ((hS.pull 1).cell rfl)) <| pg (v := .pointer (some ⟨b11, 1, none⟩)) 128 (c := decide (q3.Layer = 0)) (says_t _) (fun hq => Yl.at (yl_field0 fld_62_1 rfl)) <| pg (v := .int .i64 q3.X0) 128 (c := decide (q3.Layer = 0)) (says_t _) (fun hq => at_load one_3 (cv hq) (hS.cell rfl)) <| pg (v := .pointer (some ⟨b11, 3, none⟩)) 128 (c := decide (q3.Layer = 0)) (says_t _) (fun hq => Yl.at (yl_field0 fld_62_3 rfl)) <|
       pg (v := .int .i64 q3.X1) 128 (c := decide (q3.Layer = 0)) (says_t _) (fun hq => at_load one_3 (cv hq) (hS.cell rfl)) <|
       pccg (v := .bool q1b) 128 (c := decide (q3.Layer = 0)) (says_t _) call_23 (fun hq => (args3 (cv hq) (cv hq) (cv hq))) hS (fun hq => by
        have hcall := c_floor_within (gd_t q0z hq)  (hS.pull 2)
        exact (Calls.mono hcall (fun e w'' h => And.intro h.1 ((h.2.pull 2).pull 2)))) (fun w' hS => ?_)
      replace hFL18 := lv_s hFL18; obtain ⟨x136, hx136, hFL18⟩ := hFL18
      replace hFL18 := bd_s hFL18; obtain ⟨q1c, q10, hFL18⟩ := hFL18
      refine p (yand' rfl (fun hc => (cv hc)) rfl hx136) <| p (yl_move rfl) <| pg (v := .pointer (some ⟨b5, 3, none⟩)) 137 (c := x136) (says_t _) (fun hq => Yl.at (yl_field0 fld_65_3 q0g)) <| pg (v := .int .i64 q2.Y) 137 (c := x136) (says_t _) (fun hq => at_load one_3 (cv hq) ((hS.pull 1).cell rfl)) <|
       pg (v := .pointer (some ⟨b11, 2, none⟩)) 137 (c := x136) (says_t _) (fun hq => Yl.at (yl_field0 fld_62_2 rfl)) <| pg (v := .int .i64 q3.Y0) 137 (c := x136) (says_t _) (fun hq => at_load one_3 (cv hq) (hS.cell rfl)) <| pg (v := .pointer (some ⟨b11, 4, none⟩)) 137 (c := x136) (says_t _) (fun hq => Yl.at (yl_field0 fld_62_4 rfl)) <| pg (v := .int .i64 q3.Y1) 137 (c := x136) (says_t _) (fun hq => at_load one_3 (cv hq) (hS.cell rfl)) <|
       pccg (v := .bool q1c) 137 (c := x136) (says_t _) call_23 (fun hq => (args3 (cv hq) (cv hq) (cv hq))) hS (fun hq => by
        have hcall := c_floor_within (gd_t q10 hq)  (hS.pull 2)
        exact (Calls.mono hcall (fun e w'' h => And.intro h.1 ((h.2.pull 2).pull 2)))) (fun w' hS => ?_)
      replace hFL18 := lv_s hFL18; obtain ⟨x145, hx145, hFL18⟩ := hFL18
      refine p (yand' rfl (fun hc => (cv hc)) rfl hx145) <| x_done <|
       x_cond (t := x145) rfl (fun hc145 => ?_) (fun hc145 => ?_)
      ·replace hFL18 := it_t hc145 hFL18
       refine x_seq <| x_region <| p (yl_assign rfl) <| x_done <| ?_
       have e_ := sinj hFL18; subst e_
       have e_ := (show _ = oL18 from hLL18); subst e_
       have e_ := sinj hF; subst e_
       exact x_return ⟨_, ⟨_, _, rfl, rfl, rfl⟩, rfl, hS.drop.drop⟩
      ·replace hFL18 := it_bf hc145 hFL18
       replace hFL18 := ar_s hFL18; obtain ⟨x146, hx146, hFL18⟩ := hFL18
       refine x_skip <| x_blk <| x_region <| p (yadd q0c rfl hx146) <|
        p (yl_move rfl) <| x_done <| ?_
       have e_ := sinj hFL18; subst e_
       exact x_inv ⟨kL18, Nat.lt_succ_self _, x146, hLL18, q0g, q0h, q0i, rfl, ((hS.drop.pull 1).pull 1)⟩
     ·replace hFL18 := it_f hc122 hFL18
      refine x_exitTo _ rfl <| ?_
      have e_ := sinj hFL18; subst e_
      exact x_inv ⟨hLL18, hS.drop⟩
    rintro E w ⟨rfl, hS⟩
    refine x_seq <| x_region <| p (yl_assign rfl) <| x_done <| ?_
    have e_ := sinj hF; subst e_
    exact x_return ⟨_, ⟨_, _, rfl, rfl, rfl⟩, rfl, hS⟩
attribute [irreducible] P_floor_checkPort

def P_floor_Check_L6 (f0 : T_floor_Floor) : Int → Option (Int ⊕ (Unit ⊕ Int)) := fun q2 =>
 if q2 < (f0.Blocks.length : Int) then
  ck (inb q2 f0.Blocks.length) <|
  lv (gt f0.Blocks q2) fun q3 =>
  ar (f0.Rows - 1) fun x54 =>
  bd (P_floor_within q3.Row 0 x54) fun q4 =>
  ck ((!(!q4)) = true → I64 (f0.Sites - 1)) <|
  lv (f0.Sites - 1) fun x62 =>
  bd (gd (!(!q4)) (P_floor_within q3.From 0 x62)) fun q5 =>
  lv ((!q4) || (!q5)) fun x65 =>
  ck ((!x65) = true → I64 (q3.From + 1)) <|
  lv (q3.From + 1) fun x71 =>
  bd (gd (!x65) (P_floor_within q3.To x71 f0.Sites)) fun q6 =>
  lv (x65 || (!q6)) fun x76 =>
  if x76 = true then
   some (Sum.inr (Sum.inr (2 : Int)))
  else
   ar (q2 + 1) fun x77 =>
   some (Sum.inl x77)
 else
  some (Sum.inr (Sum.inl ()))
def P_floor_Check_L13 (f0 : T_floor_Floor) (q2 : (Int × Int)) : Int → Option (Int ⊕ (Unit ⊕ Int)) := fun q3 =>
 if q3 < (f0.Walls.length : Int) then
  ck (inb q3 f0.Walls.length) <|
  lv (gt f0.Walls q3) fun q4 =>
  ar (f0.Layers - 1) fun x94 =>
  bd (P_floor_within q4.Layer 0 x94) fun q5 =>
  ck ((!(!q5)) = true → I64 (q2.1 - 1)) <|
  lv (q2.1 - 1) fun x101 =>
  bd (gd (!(!q5)) (P_floor_within q4.X0 0 x101)) fun q6 =>
  lv ((!q5) || (!q6)) fun x104 =>
  ck ((!x104) = true → I64 (q2.2 - 1)) <|
  lv (q2.2 - 1) fun x109 =>
  bd (gd (!x104) (P_floor_within q4.Y0 0 x109)) fun q7 =>
  lv (x104 || (!q7)) fun x112 =>
  ck ((!x112) = true → I64 (q2.1 - 1)) <|
  lv (q2.1 - 1) fun x119 =>
  bd (gd (!x112) (P_floor_within q4.X1 q4.X0 x119)) fun q8 =>
  lv (x112 || (!q8)) fun x122 =>
  ck ((!x122) = true → I64 (q2.2 - 1)) <|
  lv (q2.2 - 1) fun x129 =>
  bd (gd (!x122) (P_floor_within q4.Y1 q4.Y0 x129)) fun q9 =>
  lv (x122 || (!q9)) fun x132 =>
  if x132 = true then
   some (Sum.inr (Sum.inr (2 : Int)))
  else
   ar (q3 + 1) fun x133 =>
   some (Sum.inl x133)
 else
  some (Sum.inr (Sum.inl ()))
def P_floor_Check_L19 (f0 : T_floor_Floor) : Int → Option (Int ⊕ (Unit ⊕ Int)) := fun q2 =>
 if q2 < (f0.Ports.length : Int) then
  bd (P_floor_checkPort f0 q2) fun q3 =>
  if q3 ≠ 0 then
   some (Sum.inr (Sum.inr q3))
  else
   ar (q2 + 1) fun x146 =>
   some (Sum.inl x146)
 else
  some (Sum.inr (Sum.inl ()))
def P_floor_Check (f0 : T_floor_Floor) : Option Int :=
 bd (P_floor_within f0.Rows 1 20) fun q2 =>
 bd (gd (!(!q2)) (P_floor_within f0.Sites 1 40)) fun q5 =>
 lv ((!q2) || (!q5)) fun x20 =>
 bd (gd (!x20) (P_floor_within f0.Layers 2 6)) fun q3 =>
 lv (x20 || (!q3)) fun x26 =>
 if x26 = true then
  some (2 : Int)
 else
  lv ((decide (32 < (f0.Blocks.length : Int))) || (decide (32 < (f0.Walls.length : Int)))) fun x36 =>
  lv (x36 || (decide (200 < (f0.Ports.length : Int)))) fun x42 =>
  if x42 = true then
   some (3 : Int)
  else
   bs (
    lp (P_floor_Check_L6 f0) fuel 0) (fun y => some y) fun _ =>
   bd (P_floor_Size f0) fun q4 =>
   bs (
    lp (P_floor_Check_L13 f0 q4) fuel 0) (fun y => some y) fun _ =>
   bs (
    lp (P_floor_Check_L19 f0) fuel 0) (fun y => some y) fun _ =>
   some (0 : Int)
theorem c_floor_Check {w0 w : World} {l : List Assn} {ρ : Heap} {q4 : Option Addr} {q0w : Nat} {c_f0_3 : Nat} {q3 : Option Addr} {q0x : Nat} {c_f0_4 : Nat} {q5 : Option Addr} {q0y : Nat} {c_f0_5 : Nat} {f0 : T_floor_Floor} {r : Int} (hF : P_floor_Check f0 = some r) (q0a : RdS R_floor_Block ρ q4 q0w c_f0_3 f0.Blocks) (q0b : RdS R_floor_Wall ρ q3 q0x c_f0_4 f0.Walls) (q0o : RdS R_floor_Port ρ q5 q0y c_f0_5 f0.Ports) (hS : St w0 w (ro ρ :: l)) :
  Calls Tryd.prog 9 #[.agg #[.int .i64 f0.Rows, .int .i64 f0.Sites, .int .i64 f0.Layers, .slice q4 q0w c_f0_3, .slice q3 q0x c_f0_4, .slice q5 q0y c_f0_5]] w fun e w' => e = .returned (.int .i64 r) ∧ St w0 w' (ro ρ :: l) := by
 have e_ := q0a.n; subst e_
 have e_ := q0b.n; subst e_
 have e_ := q0o.n; subst e_
 refine enterC Tryd.func9 rfl 147 rfl (by simp) ?_
 refine x_seq <| x_region <| ?_
 refine o_box (cs := [.int .i64 f0.Rows, .int .i64 f0.Sites, .int .i64 f0.Layers, .slice q4 f0.Blocks.length c_f0_3, .slice q3 f0.Walls.length c_f0_4, .slice q5 f0.Ports.length c_f0_5]) rfl rfl hS (fun b1 w' hS => ?_)
 replace hF := bd_s hF; obtain ⟨q0u, q1u, hF⟩ := hF
 refine p (yl_assign rfl) <| x_done <| x_seq <| x_seq <|
  x_region <| p (yl_field0 fld_30_0 rfl) <| pa (at_load one_3 rfl (hS.cell rfl)) <| ?_
 have hcall := c_floor_within q1u  (hS.pull 1)
 refine o_cc call_23 (args3 rfl rfl rfl) ((Calls.mono hcall (fun e w'' h => And.intro h.1 (h.2.pull 1)))) ?_
 rintro e w' ⟨rfl, hS⟩
 refine ⟨_, rfl, ?_⟩
 replace hF := bd_s hF; obtain ⟨q1j, q1v, hF⟩ := hF
 refine p (yl_not rfl) <| p (yl_move rfl) <| pg (v := .pointer (some ⟨b1, 1, none⟩)) 15 (c := !(!q0u)) (says_f _) (fun hq => Yl.at (yl_field0 fld_30_1 rfl)) <| pg (v := .int .i64 f0.Sites) 15 (c := !(!q0u)) (says_f _) (fun hq => at_load one_3 (cv hq) (hS.cell rfl)) <|
  pccg (v := .bool q1j) 15 (c := !(!q0u)) (says_f _) call_23 (fun hq => (args3 (cv hq) rfl rfl)) hS (fun hq => by
   have hcall := c_floor_within (gd_t q1v hq)  (hS.pull 1)
   exact (Calls.mono hcall (fun e w'' h => And.intro h.1 (h.2.pull 1)))) (fun w' hS => ?_)
 replace hF := lv_s hF; obtain ⟨x20, hx20, hF⟩ := hF
 replace hF := bd_s hF; obtain ⟨q16, q1k, hF⟩ := hF
 refine pg (v := .bool (!q1j)) 15 (c := !(!q0u)) (says_f _) (fun hq => Yl.at (yl_not (cv hq))) <| p (yor' rfl rfl (fun hc => (cv (t_not hc))) hx20) <| p (yl_move rfl) <| pg (v := .pointer (some ⟨b1, 2, none⟩)) 21 (c := !x20) (says_f _) (fun hq => Yl.at (yl_field0 fld_30_2 rfl)) <|
  pg (v := .int .i64 f0.Layers) 21 (c := !x20) (says_f _) (fun hq => at_load one_3 (cv hq) (hS.cell rfl)) <|
  pccg (v := .bool q16) 21 (c := !x20) (says_f _) call_23 (fun hq => (args3 (cv hq) rfl rfl)) hS (fun hq => by
   have hcall := c_floor_within (gd_t q1k hq)  (hS.pull 1)
   exact (Calls.mono hcall (fun e w'' h => And.intro h.1 (h.2.pull 1)))) (fun w' hS => ?_)
 replace hF := lv_s hF; obtain ⟨x26, hx26, hF⟩ := hF
 refine pg (v := .bool (!q16)) 21 (c := !x20) (says_f _) (fun hq => Yl.at (yl_not (cv hq))) <| p (yor' rfl rfl (fun hc => (cv (t_not hc))) hx26) <| x_done <|
  x_cond (t := x26) rfl (fun hc26 => ?_) (fun hc26 => ?_)
 ·replace hF := it_t hc26 hF
  refine x_seq <| x_region <| p (yl_assign rfl) <| x_done <| ?_
  have e_ := sinj hF; subst e_
  exact x_return ⟨_, ⟨_, _, rfl, rfl, rfl⟩, rfl, hS.drop⟩
 ·replace hF := it_bf hc26 hF
  replace hF := lv_s hF; obtain ⟨x36, hx36, hF⟩ := hF
  replace hF := lv_s hF; obtain ⟨x42, hx42, hF⟩ := hF
  refine x_skip <| x_seq <| x_seq <| x_region <|
   p (yl_field0 fld_30_3 rfl) <| pa (at_load one_26 rfl (hS.cell rfl)) <| p (yl_len_slice usl_26 rfl) <| p (yl_gtr rfl rfl) <|
   p (yl_move rfl) <| pg (v := .pointer (some ⟨b1, 4, none⟩)) 31 (c := !(decide (32 < (f0.Blocks.length : Int)))) (says_f _) (fun hq => Yl.at (yl_field0 fld_30_4 rfl)) <| pg (v := .slice q3 f0.Walls.length c_f0_4) 31 (c := !(decide (32 < (f0.Blocks.length : Int)))) (says_f _) (fun hq => at_load one_27 (cv hq) (hS.cell rfl)) <| pg (v := .int .i64 (f0.Walls.length : Int)) 31 (c := !(decide (32 < (f0.Blocks.length : Int)))) (says_f _) (fun hq => Yl.at (yl_len_slice usl_27 (cv hq))) <|
   pg (v := .bool (decide (32 < (f0.Walls.length : Int)))) 31 (c := !(decide (32 < (f0.Blocks.length : Int)))) (says_f _) (fun hq => Yl.at (yl_gtr (cv hq) rfl)) <| p (yor' rfl rfl (fun hc => (cv (t_not hc))) hx36) <| p (yl_move rfl) <| pg (v := .pointer (some ⟨b1, 5, none⟩)) 37 (c := !x36) (says_f _) (fun hq => Yl.at (yl_field0 fld_30_5 rfl)) <|
   pg (v := .slice q5 f0.Ports.length c_f0_5) 37 (c := !x36) (says_f _) (fun hq => at_load one_28 (cv hq) (hS.cell rfl)) <| pg (v := .int .i64 (f0.Ports.length : Int)) 37 (c := !x36) (says_f _) (fun hq => Yl.at (yl_len_slice usl_28 (cv hq))) <| pg (v := .bool (decide (200 < (f0.Ports.length : Int)))) 37 (c := !x36) (says_f _) (fun hq => Yl.at (yl_gtr (cv hq) rfl)) <| p (yor' rfl rfl (fun hc => (cv (t_not hc))) hx42) <|
   x_done <|
   x_cond (t := x42) rfl (fun hc42 => ?_) (fun hc42 => ?_)
  ·replace hF := it_t hc42 hF
   refine x_seq <| x_region <| p (yl_assign rfl) <| x_done <| ?_
   have e_ := sinj hF; subst e_
   exact x_return ⟨_, ⟨_, _, rfl, rfl, rfl⟩, rfl, hS.drop⟩
  ·replace hF := it_bf hc42 hF
   refine x_skip <| x_seq <| x_seq <| x_region <|
    p (yl_field0 fld_30_3 rfl) <| pa (at_load one_26 rfl (hS.cell rfl)) <| p (yl_len_slice usl_26 rfl) <| p (yl_move rfl) <|
    x_done <| ?_
   replace hF := bs_s hF; obtain ⟨oL6, hLL6, hF⟩ := hF
   refine x_join (fun E w => (Sum.inl (())) = oL6 ∧ E 1 = .pointer (some ⟨b1, 0, none⟩) ∧ St w0 w (cells b1 30 [.int .i64 f0.Rows, .int .i64 f0.Sites, .int .i64 f0.Layers, .slice q4 f0.Blocks.length c_f0_3, .slice q3 f0.Walls.length c_f0_4, .slice q5 f0.Ports.length c_f0_5] :: ro ρ :: l)) ?_ ?_
   ·refine x_block ?_
    refine x_loop (fun k_ E w => ∃ (q0e : Int), lp (P_floor_Check_L6 f0) k_ q0e = some oL6 ∧ E 1 = .pointer (some ⟨b1, 0, none⟩) ∧ E 44 = .slice q4 f0.Blocks.length c_f0_3 ∧ E 45 = .int .i64 (f0.Blocks.length : Int) ∧ E 46 = .int .i64 q0e ∧ St w0 w (cells b1 30 [.int .i64 f0.Rows, .int .i64 f0.Sites, .int .i64 f0.Layers, .slice q4 f0.Blocks.length c_f0_3, .slice q3 f0.Walls.length c_f0_4, .slice q5 f0.Ports.length c_f0_5] :: ro ρ :: l)) fuel ⟨0, hLL6, rfl, rfl, rfl, rfl, ((hS.pull 1).pull 1)⟩ ?_
    rintro kL6 E w ⟨q0e, hLL6, q0c, q0r, q0s, q0j, hS⟩
    replace hLL6 := lp_s hLL6; obtain ⟨kL6, obL6, rfl, hFL6, hLL6⟩ := hLL6
    refine x_seq <| x_region <| p (yl_lss q0j q0s) <| x_done <|
     x_seq <|
     x_cond_p (q0e < (f0.Blocks.length : Int)) rfl (fun hc47 => ?_) (fun hc47 => ?_)
    ·replace hFL6 := it_t hc47 hFL6
     replace hFL6 := ck_s hFL6; obtain ⟨q17, hFL6⟩ := hFL6
     replace hFL6 := lv_s hFL6; obtain ⟨q8, q1w, hFL6⟩ := hFL6
     have q_ := q0a.get q17; obtain ⟨q20, q18, q1x⟩ := q_
     rw [← q1w] at q18
     have e_ := q18; subst e_
     refine x_skip <| x_seq <| x_block <| x_seq <|
      x_region <| p (yix_f sl_26 q0r q0j q0a q17) <| pa (v := .agg #[.int .i64 q8.Row, .int .i64 q8.From, .int .i64 q8.To]) (at_loadAgg agg_60 rfl rfl (Elt.every q1x (hS.pull 1))) <| ?_
     refine o_alloc zero_60 hS (fun b4 w' hS => ?_)
     refine o_storeAgg (news := [.int .i64 q8.Row, .int .i64 q8.From, .int .i64 q8.To]) agg_60 rfl rfl rfl (by simp [over_length]) hS (fun w' hS => ?_)
     replace hFL6 := ar_s hFL6; obtain ⟨x54, hx54, hFL6⟩ := hFL6
     replace hFL6 := bd_s hFL6; obtain ⟨q0g, q1y, hFL6⟩ := hFL6
     refine x_done <| x_seq <| x_region <| p (yl_field0 fld_60_0 rfl) <|
      pa (at_load one_3 rfl (hS.cell rfl)) <| p (yl_field0 fld_30_0 q0c) <| pa (at_load one_3 rfl ((hS.pull 1).cell rfl)) <| p (ysub rfl rfl hx54) <| ?_
     have hcall := c_floor_within q1y  (hS.pull 2)
     refine o_cc call_23 (args3 rfl rfl rfl) ((Calls.mono hcall (fun e w'' h => And.intro h.1 ((h.2.pull 2).pull 2)))) ?_
     rintro e w' ⟨rfl, hS⟩
     refine ⟨_, rfl, ?_⟩
     replace hFL6 := ck_s hFL6; obtain ⟨q1l, hFL6⟩ := hFL6
     replace hFL6 := lv_s hFL6; obtain ⟨x62, hx62, hFL6⟩ := hFL6
     replace hFL6 := bd_s hFL6; obtain ⟨q19, q1m, hFL6⟩ := hFL6
     refine p (yl_not rfl) <| p (yl_move rfl) <| pg (v := .pointer (some ⟨b4, 1, none⟩)) 57 (c := !(!q0g)) (says_f _) (fun hq => Yl.at (yl_field0 fld_60_1 rfl)) <| pg (v := .int .i64 q8.From) 57 (c := !(!q0g)) (says_f _) (fun hq => at_load one_3 (cv hq) (hS.cell rfl)) <|
      pg (v := .pointer (some ⟨b1, 1, none⟩)) 57 (c := !(!q0g)) (says_f _) (fun hq => Yl.at (yl_field0 fld_30_1 q0c)) <| pg (v := .int .i64 f0.Sites) 57 (c := !(!q0g)) (says_f _) (fun hq => at_load one_3 (cv hq) ((hS.pull 1).cell rfl)) <| pg (v := .int .i64 x62) 57 (c := !(!q0g)) (says_f _) (fun hq => Yl.at (ysub (cv hq) rfl ⟨hx62, (q1l hq)⟩)) <|
      pccg (v := .bool q19) 57 (c := !(!q0g)) (says_f _) call_23 (fun hq => (args3 (cv hq) rfl (cv hq))) hS (fun hq => by
       have hcall := c_floor_within (gd_t q1m hq)  (hS.pull 2)
       exact (Calls.mono hcall (fun e w'' h => And.intro h.1 ((h.2.pull 2).pull 2)))) (fun w' hS => ?_)
     replace hFL6 := lv_s hFL6; obtain ⟨x65, hx65, hFL6⟩ := hFL6
     replace hFL6 := ck_s hFL6; obtain ⟨q1n, hFL6⟩ := hFL6
     replace hFL6 := lv_s hFL6; obtain ⟨x71, hx71, hFL6⟩ := hFL6
     replace hFL6 := bd_s hFL6; obtain ⟨q1a, q1o, hFL6⟩ := hFL6
     refine pg (v := .bool (!q19)) 57 (c := !(!q0g)) (says_f _) (fun hq => Yl.at (yl_not (cv hq))) <| p (yor' rfl rfl (fun hc => (cv (t_not hc))) hx65) <| p (yl_move rfl) <| pg (v := .pointer (some ⟨b4, 2, none⟩)) 66 (c := !x65) (says_f _) (fun hq => Yl.at (yl_field0 fld_60_2 rfl)) <|
      pg (v := .int .i64 q8.To) 66 (c := !x65) (says_f _) (fun hq => at_load one_3 (cv hq) (hS.cell rfl)) <| pg (v := .pointer (some ⟨b4, 1, none⟩)) 66 (c := !x65) (says_f _) (fun hq => Yl.at (yl_field0 fld_60_1 rfl)) <| pg (v := .int .i64 q8.From) 66 (c := !x65) (says_f _) (fun hq => at_load one_3 (cv hq) (hS.cell rfl)) <| pg (v := .int .i64 x71) 66 (c := !x65) (says_f _) (fun hq => Yl.at (yadd (cv hq) rfl ⟨hx71, (q1n hq)⟩)) <|
      pg (v := .pointer (some ⟨b1, 1, none⟩)) 66 (c := !x65) (says_f _) (fun hq => Yl.at (yl_field0 fld_30_1 q0c)) <| pg (v := .int .i64 f0.Sites) 66 (c := !x65) (says_f _) (fun hq => at_load one_3 (cv hq) ((hS.pull 1).cell rfl)) <|
      pccg (v := .bool q1a) 66 (c := !x65) (says_f _) call_23 (fun hq => (args3 (cv hq) (cv hq) (cv hq))) hS (fun hq => by
       have hcall := c_floor_within (gd_t q1o hq)  (hS.pull 2)
       exact (Calls.mono hcall (fun e w'' h => And.intro h.1 ((h.2.pull 2).pull 2)))) (fun w' hS => ?_)
     replace hFL6 := lv_s hFL6; obtain ⟨x76, hx76, hFL6⟩ := hFL6
     refine pg (v := .bool (!q1a)) 66 (c := !x65) (says_f _) (fun hq => Yl.at (yl_not (cv hq))) <| p (yor' rfl rfl (fun hc => (cv (t_not hc))) hx76) <| x_done <|
      x_cond (t := x76) rfl (fun hc76 => ?_) (fun hc76 => ?_)
     ·replace hFL6 := it_t hc76 hFL6
      refine x_seq <| x_region <| p (yl_assign rfl) <| x_done <| ?_
      have e_ := sinj hFL6; subst e_
      have e_ := (show _ = oL6 from hLL6); subst e_
      have e_ := sinj hF; subst e_
      exact x_return ⟨_, ⟨_, _, rfl, rfl, rfl⟩, rfl, hS.drop.drop⟩
     ·replace hFL6 := it_bf hc76 hFL6
      replace hFL6 := ar_s hFL6; obtain ⟨x77, hx77, hFL6⟩ := hFL6
      refine x_skip <| x_blk <| x_region <| p (yadd q0j rfl hx77) <|
       p (yl_move rfl) <| x_done <| ?_
      have e_ := sinj hFL6; subst e_
      exact x_inv ⟨kL6, Nat.lt_succ_self _, x77, hLL6, q0c, q0r, q0s, rfl, ((hS.drop.pull 1).pull 1)⟩
    ·replace hFL6 := it_f hc47 hFL6
     refine x_exitTo _ rfl <| ?_
     have e_ := sinj hFL6; subst e_
     exact x_inv ⟨hLL6, q0c, ((hS.pull 1).pull 1)⟩
   rintro E w ⟨rfl, q0v, hS⟩
   replace hF := bd_s hF; obtain ⟨q6, q1p, hF⟩ := hF
   refine x_seq <| x_region <| pa (v := .agg #[.int .i64 f0.Rows, .int .i64 f0.Sites, .int .i64 f0.Layers, .slice q4 f0.Blocks.length c_f0_3, .slice q3 f0.Walls.length c_f0_4, .slice q5 f0.Ports.length c_f0_5]) (ld_sub agg_30 q0v rfl rfl hS) <| ?_
   have hcall := c_floor_Size q1p q0a q0b q0o (hS.pull 1)
   refine o_cc call_5 (args1 rfl) ((Calls.mono hcall (fun e w'' h => And.intro h.1 (h.2.pull 1)))) ?_
   rintro e w' ⟨rfl, hS⟩
   refine ⟨_, rfl, ?_⟩
   refine p (v := .tuple #[.int .i64 q6.1, .int .i64 q6.2]) (yl_move rfl) <| p (yl_extract rfl rfl) <| p (yl_extract rfl rfl) <| p (yl_assign rfl) <|
    p (yl_assign rfl) <| x_done <| x_seq <| x_seq <|
    x_region <| p (yl_field0 fld_30_4 q0v) <| pa (at_load one_27 rfl (hS.cell rfl)) <| p (yl_len_slice usl_27 rfl) <|
    p (yl_move rfl) <| x_done <| ?_
   replace hF := bs_s hF; obtain ⟨oL13, hLL13, hF⟩ := hF
   refine x_join (fun E w => (Sum.inl (())) = oL13 ∧ E 1 = .pointer (some ⟨b1, 0, none⟩) ∧ St w0 w (cells b1 30 [.int .i64 f0.Rows, .int .i64 f0.Sites, .int .i64 f0.Layers, .slice q4 f0.Blocks.length c_f0_3, .slice q3 f0.Walls.length c_f0_4, .slice q5 f0.Ports.length c_f0_5] :: ro ρ :: l)) ?_ ?_
   ·refine x_block ?_
    refine x_loop (fun k_ E w => ∃ (q9 : Int), lp (P_floor_Check_L13 f0 q6) k_ q9 = some oL13 ∧ E 1 = .pointer (some ⟨b1, 0, none⟩) ∧ E 5 = .int .i64 q6.1 ∧ E 6 = .int .i64 q6.2 ∧ E 84 = .slice q3 f0.Walls.length c_f0_4 ∧ E 85 = .int .i64 (f0.Walls.length : Int) ∧ E 86 = .int .i64 q9 ∧ St w0 w (cells b1 30 [.int .i64 f0.Rows, .int .i64 f0.Sites, .int .i64 f0.Layers, .slice q4 f0.Blocks.length c_f0_3, .slice q3 f0.Walls.length c_f0_4, .slice q5 f0.Ports.length c_f0_5] :: ro ρ :: l)) fuel ⟨0, hLL13, q0v, rfl, rfl, rfl, rfl, rfl, ((hS.pull 1).pull 1)⟩ ?_
    rintro kL13 E w ⟨q9, hLL13, q0k, q0l, q0m, q0p, q0q, q0h, hS⟩
    replace hLL13 := lp_s hLL13; obtain ⟨kL13, obL13, rfl, hFL13, hLL13⟩ := hLL13
    refine x_seq <| x_region <| p (yl_lss q0h q0q) <| x_done <|
     x_seq <|
     x_cond_p (q9 < (f0.Walls.length : Int)) rfl (fun hc87 => ?_) (fun hc87 => ?_)
    ·replace hFL13 := it_t hc87 hFL13
     replace hFL13 := ck_s hFL13; obtain ⟨q0z, hFL13⟩ := hFL13
     replace hFL13 := lv_s hFL13; obtain ⟨q2, q1q, hFL13⟩ := hFL13
     have q_ := q0b.get q0z; obtain ⟨q1z, q10, q1r⟩ := q_
     rw [← q1q] at q10
     have e_ := q10; subst e_
     refine x_skip <| x_seq <| x_block <| x_seq <|
      x_region <| p (yix_f sl_27 q0p q0h q0b q0z) <| pa (v := .agg #[.int .i64 q2.Layer, .int .i64 q2.X0, .int .i64 q2.Y0, .int .i64 q2.X1, .int .i64 q2.Y1]) (at_loadAgg agg_62 rfl rfl (Elt.every q1r (hS.pull 1))) <| ?_
     refine o_alloc zero_62 hS (fun b8 w' hS => ?_)
     refine o_storeAgg (news := [.int .i64 q2.Layer, .int .i64 q2.X0, .int .i64 q2.Y0, .int .i64 q2.X1, .int .i64 q2.Y1]) agg_62 rfl rfl rfl (by simp [over_length]) hS (fun w' hS => ?_)
     replace hFL13 := ar_s hFL13; obtain ⟨x94, hx94, hFL13⟩ := hFL13
     replace hFL13 := bd_s hFL13; obtain ⟨q0f, q1s, hFL13⟩ := hFL13
     refine x_done <| x_seq <| x_region <| p (yl_field0 fld_62_0 rfl) <|
      pa (at_load one_3 rfl (hS.cell rfl)) <| p (yl_field0 fld_30_2 q0k) <| pa (at_load one_3 rfl ((hS.pull 1).cell rfl)) <| p (ysub rfl rfl hx94) <| ?_
     have hcall := c_floor_within q1s  (hS.pull 2)
     refine o_cc call_23 (args3 rfl rfl rfl) ((Calls.mono hcall (fun e w'' h => And.intro h.1 ((h.2.pull 2).pull 2)))) ?_
     rintro e w' ⟨rfl, hS⟩
     refine ⟨_, rfl, ?_⟩
     replace hFL13 := ck_s hFL13; obtain ⟨q1b, hFL13⟩ := hFL13
     replace hFL13 := lv_s hFL13; obtain ⟨x101, hx101, hFL13⟩ := hFL13
     replace hFL13 := bd_s hFL13; obtain ⟨q11, q1c, hFL13⟩ := hFL13
     refine p (yl_not rfl) <| p (yl_move rfl) <| pg (v := .pointer (some ⟨b8, 1, none⟩)) 97 (c := !(!q0f)) (says_f _) (fun hq => Yl.at (yl_field0 fld_62_1 rfl)) <| pg (v := .int .i64 q2.X0) 97 (c := !(!q0f)) (says_f _) (fun hq => at_load one_3 (cv hq) (hS.cell rfl)) <|
      pg (v := .int .i64 q6.1) 97 (c := !(!q0f)) (says_f _) (fun hq => Yl.at (yl_move q0l)) <| pg (v := .int .i64 x101) 97 (c := !(!q0f)) (says_f _) (fun hq => Yl.at (ysub (cv hq) rfl ⟨hx101, (q1b hq)⟩)) <|
      pccg (v := .bool q11) 97 (c := !(!q0f)) (says_f _) call_23 (fun hq => (args3 (cv hq) rfl (cv hq))) hS (fun hq => by
       have hcall := c_floor_within (gd_t q1c hq)  (hS.pull 2)
       exact (Calls.mono hcall (fun e w'' h => And.intro h.1 ((h.2.pull 2).pull 2)))) (fun w' hS => ?_)
     replace hFL13 := lv_s hFL13; obtain ⟨x104, hx104, hFL13⟩ := hFL13
     replace hFL13 := ck_s hFL13; obtain ⟨q1d, hFL13⟩ := hFL13
     replace hFL13 := lv_s hFL13; obtain ⟨x109, hx109, hFL13⟩ := hFL13
     replace hFL13 := bd_s hFL13; obtain ⟨q12, q1e, hFL13⟩ := hFL13
     refine pg (v := .bool (!q11)) 97 (c := !(!q0f)) (says_f _) (fun hq => Yl.at (yl_not (cv hq))) <| p (yor' rfl rfl (fun hc => (cv (t_not hc))) hx104) <| p (yl_move rfl) <| pg (v := .pointer (some ⟨b8, 2, none⟩)) 105 (c := !x104) (says_f _) (fun hq => Yl.at (yl_field0 fld_62_2 rfl)) <|
      pg (v := .int .i64 q2.Y0) 105 (c := !x104) (says_f _) (fun hq => at_load one_3 (cv hq) (hS.cell rfl)) <| pg (v := .int .i64 q6.2) 105 (c := !x104) (says_f _) (fun hq => Yl.at (yl_move q0m)) <| pg (v := .int .i64 x109) 105 (c := !x104) (says_f _) (fun hq => Yl.at (ysub (cv hq) rfl ⟨hx109, (q1d hq)⟩)) <|
      pccg (v := .bool q12) 105 (c := !x104) (says_f _) call_23 (fun hq => (args3 (cv hq) rfl (cv hq))) hS (fun hq => by
       have hcall := c_floor_within (gd_t q1e hq)  (hS.pull 2)
       exact (Calls.mono hcall (fun e w'' h => And.intro h.1 ((h.2.pull 2).pull 2)))) (fun w' hS => ?_)
     replace hFL13 := lv_s hFL13; obtain ⟨x112, hx112, hFL13⟩ := hFL13
     replace hFL13 := ck_s hFL13; obtain ⟨q1f, hFL13⟩ := hFL13
     replace hFL13 := lv_s hFL13; obtain ⟨x119, hx119, hFL13⟩ := hFL13
     replace hFL13 := bd_s hFL13; obtain ⟨q13, q1g, hFL13⟩ := hFL13
     refine pg (v := .bool (!q12)) 105 (c := !x104) (says_f _) (fun hq => Yl.at (yl_not (cv hq))) <| p (yor' rfl rfl (fun hc => (cv (t_not hc))) hx112) <| p (yl_move rfl) <| pg (v := .pointer (some ⟨b8, 3, none⟩)) 113 (c := !x112) (says_f _) (fun hq => Yl.at (yl_field0 fld_62_3 rfl)) <|
      pg (v := .int .i64 q2.X1) 113 (c := !x112) (says_f _) (fun hq => at_load one_3 (cv hq) (hS.cell rfl)) <| pg (v := .pointer (some ⟨b8, 1, none⟩)) 113 (c := !x112) (says_f _) (fun hq => Yl.at (yl_field0 fld_62_1 rfl)) <| pg (v := .int .i64 q2.X0) 113 (c := !x112) (says_f _) (fun hq => at_load one_3 (cv hq) (hS.cell rfl)) <| pg (v := .int .i64 q6.1) 113 (c := !x112) (says_f _) (fun hq => Yl.at (yl_move q0l)) <|
      pg (v := .int .i64 x119) 113 (c := !x112) (says_f _) (fun hq => Yl.at (ysub (cv hq) rfl ⟨hx119, (q1f hq)⟩)) <|
      pccg (v := .bool q13) 113 (c := !x112) (says_f _) call_23 (fun hq => (args3 (cv hq) (cv hq) (cv hq))) hS (fun hq => by
       have hcall := c_floor_within (gd_t q1g hq)  (hS.pull 2)
       exact (Calls.mono hcall (fun e w'' h => And.intro h.1 ((h.2.pull 2).pull 2)))) (fun w' hS => ?_)
     replace hFL13 := lv_s hFL13; obtain ⟨x122, hx122, hFL13⟩ := hFL13
     replace hFL13 := ck_s hFL13; obtain ⟨q1h, hFL13⟩ := hFL13
     replace hFL13 := lv_s hFL13; obtain ⟨x129, hx129, hFL13⟩ := hFL13
     replace hFL13 := bd_s hFL13; obtain ⟨q14, q1i, hFL13⟩ := hFL13
     refine pg (v := .bool (!q13)) 113 (c := !x112) (says_f _) (fun hq => Yl.at (yl_not (cv hq))) <| p (yor' rfl rfl (fun hc => (cv (t_not hc))) hx122) <| p (yl_move rfl) <| pg (v := .pointer (some ⟨b8, 4, none⟩)) 123 (c := !x122) (says_f _) (fun hq => Yl.at (yl_field0 fld_62_4 rfl)) <|
      pg (v := .int .i64 q2.Y1) 123 (c := !x122) (says_f _) (fun hq => at_load one_3 (cv hq) (hS.cell rfl)) <| pg (v := .pointer (some ⟨b8, 2, none⟩)) 123 (c := !x122) (says_f _) (fun hq => Yl.at (yl_field0 fld_62_2 rfl)) <| pg (v := .int .i64 q2.Y0) 123 (c := !x122) (says_f _) (fun hq => at_load one_3 (cv hq) (hS.cell rfl)) <| pg (v := .int .i64 q6.2) 123 (c := !x122) (says_f _) (fun hq => Yl.at (yl_move q0m)) <|
      pg (v := .int .i64 x129) 123 (c := !x122) (says_f _) (fun hq => Yl.at (ysub (cv hq) rfl ⟨hx129, (q1h hq)⟩)) <|
      pccg (v := .bool q14) 123 (c := !x122) (says_f _) call_23 (fun hq => (args3 (cv hq) (cv hq) (cv hq))) hS (fun hq => by
       have hcall := c_floor_within (gd_t q1i hq)  (hS.pull 2)
       exact (Calls.mono hcall (fun e w'' h => And.intro h.1 ((h.2.pull 2).pull 2)))) (fun w' hS => ?_)
     replace hFL13 := lv_s hFL13; obtain ⟨x132, hx132, hFL13⟩ := hFL13
     refine pg (v := .bool (!q14)) 123 (c := !x122) (says_f _) (fun hq => Yl.at (yl_not (cv hq))) <| p (yor' rfl rfl (fun hc => (cv (t_not hc))) hx132) <| x_done <|
      x_cond (t := x132) rfl (fun hc132 => ?_) (fun hc132 => ?_)
     ·replace hFL13 := it_t hc132 hFL13
      refine x_seq <| x_region <| p (yl_assign rfl) <| x_done <| ?_
      have e_ := sinj hFL13; subst e_
      have e_ := (show _ = oL13 from hLL13); subst e_
      have e_ := sinj hF; subst e_
      exact x_return ⟨_, ⟨_, _, rfl, rfl, rfl⟩, rfl, hS.drop.drop⟩
     ·replace hFL13 := it_bf hc132 hFL13
      replace hFL13 := ar_s hFL13; obtain ⟨x133, hx133, hFL13⟩ := hFL13
      refine x_skip <| x_blk <| x_region <| p (yadd q0h rfl hx133) <|
       p (yl_move rfl) <| x_done <| ?_
      have e_ := sinj hFL13; subst e_
      exact x_inv ⟨kL13, Nat.lt_succ_self _, x133, hLL13, q0k, q0l, q0m, q0p, q0q, rfl, ((hS.drop.pull 1).pull 1)⟩
    ·replace hFL13 := it_f hc87 hFL13
     refine x_exitTo _ rfl <| ?_
     have e_ := sinj hFL13; subst e_
     exact x_inv ⟨hLL13, q0k, ((hS.pull 1).pull 1)⟩
   rintro E w ⟨rfl, q15, hS⟩
   refine x_seq <| x_seq <| x_region <| p (yl_field0 fld_30_5 q15) <|
    pa (at_load one_28 rfl (hS.cell rfl)) <| p (yl_len_slice usl_28 rfl) <| p (yl_move rfl) <| x_done <| ?_
   replace hF := bs_s hF; obtain ⟨oL19, hLL19, hF⟩ := hF
   refine x_join (fun E w => (Sum.inl (())) = oL19 ∧ St w0 w (ro ρ :: l)) ?_ ?_
   ·refine x_block ?_
    refine x_loop (fun k_ E w => ∃ (q7 : Int), lp (P_floor_Check_L19 f0) k_ q7 = some oL19 ∧ E 1 = .pointer (some ⟨b1, 0, none⟩) ∧ E 136 = .int .i64 (f0.Ports.length : Int) ∧ E 137 = .int .i64 q7 ∧ St w0 w (cells b1 30 [.int .i64 f0.Rows, .int .i64 f0.Sites, .int .i64 f0.Layers, .slice q4 f0.Blocks.length c_f0_3, .slice q3 f0.Walls.length c_f0_4, .slice q5 f0.Ports.length c_f0_5] :: ro ρ :: l)) fuel ⟨0, hLL19, q15, rfl, rfl, ((hS.pull 1).pull 1)⟩ ?_
    rintro kL19 E w ⟨q7, hLL19, q0t, q0n, q0d, hS⟩
    replace hLL19 := lp_s hLL19; obtain ⟨kL19, obL19, rfl, hFL19, hLL19⟩ := hLL19
    refine x_seq <| x_region <| p (yl_lss q0d q0n) <| x_done <|
     x_seq <|
     x_cond_p (q7 < (f0.Ports.length : Int)) rfl (fun hc138 => ?_) (fun hc138 => ?_)
    ·replace hFL19 := it_t hc138 hFL19
     replace hFL19 := bd_s hFL19; obtain ⟨q0i, q1t, hFL19⟩ := hFL19
     refine x_skip <| x_seq <| x_block <| x_seq <|
      x_region <| p (yl_move q0d) <| p (yl_assign rfl) <| x_done <|
      x_seq <| x_region <| pa (v := .agg #[.int .i64 f0.Rows, .int .i64 f0.Sites, .int .i64 f0.Layers, .slice q4 f0.Blocks.length c_f0_3, .slice q3 f0.Walls.length c_f0_4, .slice q5 f0.Ports.length c_f0_5]) (ld_sub agg_30 q0t rfl rfl hS) <| p (yl_move rfl) <| ?_
     have hcall := c_floor_checkPort q1t q0a q0b q0o (hS.pull 1)
     refine o_cc call_24 (args2 rfl rfl) ((Calls.mono hcall (fun e w'' h => And.intro h.1 (h.2.pull 1)))) ?_
     rintro e w' ⟨rfl, hS⟩
     refine ⟨_, rfl, ?_⟩
     refine p (v := .int .i64 q0i) (yl_assign rfl) <| x_done <| x_seq <| x_region <|
      p (v := .int .i64 q0i) (yl_move rfl) <| p (yl_neq rfl rfl) <| x_done <|
      x_cond_p (q0i ≠ 0) rfl (fun hc144 => ?_) (fun hc144 => ?_)
     ·replace hFL19 := it_t hc144 hFL19
      refine x_seq <| x_region <| p (v := .int .i64 q0i) (yl_move rfl) <| p (v := .int .i64 q0i) (yl_assign rfl) <|
       x_done <| ?_
      have e_ := sinj hFL19; subst e_
      have e_ := (show _ = oL19 from hLL19); subst e_
      have e_ := sinj hF; subst e_
      exact x_return ⟨_, ⟨_, _, rfl, rfl, rfl⟩, rfl, hS.drop⟩
     ·replace hFL19 := it_f hc144 hFL19
      replace hFL19 := ar_s hFL19; obtain ⟨x146, hx146, hFL19⟩ := hFL19
      refine x_skip <| x_blk <| x_region <| p (yadd q0d rfl hx146) <|
       p (yl_move rfl) <| x_done <| ?_
      have e_ := sinj hFL19; subst e_
      exact x_inv ⟨kL19, Nat.lt_succ_self _, x146, hLL19, q0t, q0n, rfl, ((hS.pull 1).pull 1)⟩
    ·replace hFL19 := it_f hc138 hFL19
     refine x_exitTo _ rfl <| ?_
     have e_ := sinj hFL19; subst e_
     exact x_inv ⟨hLL19, hS.drop⟩
   rintro E w ⟨rfl, hS⟩
   refine x_seq <| x_region <| p (yl_assign rfl) <| x_done <| ?_
   have e_ := sinj hF; subst e_
   exact x_return ⟨_, ⟨_, _, rfl, rfl, rfl⟩, rfl, hS⟩
attribute [irreducible] P_floor_Check

def P_global_checkNets_L15 (q5 : (Int × Int)) (q4 : T_legal_Net) : Int → Option (Int ⊕ (Unit ⊕ Int)) := fun q2 =>
 if q2 < (q4.Pins.length : Int) then
  ck (inb q2 q4.Pins.length) <|
  lv (gt q4.Pins q2) fun q3 =>
  lv ((decide (q3.At.X < 0)) || (decide (q5.1 ≤ q3.At.X))) fun x56 =>
  lv (x56 || (decide (q3.At.Y < 0))) fun x62 =>
  lv (x62 || (decide (q5.2 ≤ q3.At.Y))) fun x69 =>
  if x69 = true then
   some (Sum.inr (Sum.inr (2 : Int)))
  else
   ar (q2 + 1) fun x70 =>
   some (Sum.inl x70)
 else
  some (Sum.inr (Sum.inl ()))
def P_global_checkNets_L9 (nets1 : List T_legal_Net) (q5 : (Int × Int)) : (Int × Int) → Option ((Int × Int) ⊕ (Unit ⊕ Int)) := fun (q3, q2) =>
 if q2 < (nets1.length : Int) then
  ck (inb q2 nets1.length) <|
  lv (gt nets1 q2) fun q4 =>
  ar (q3 + (q4.Pins.length : Int)) fun x36 =>
  if 4000 < x36 then
   some (Sum.inr (Sum.inr (3 : Int)))
  else
   bs (
    lp (P_global_checkNets_L15 q5 q4) fuel 0) (fun y => some (Sum.inr (Sum.inr y))) fun _ =>
   ar (q2 + 1) fun x71 =>
   some (Sum.inl (x36, x71))
 else
  some (Sum.inr (Sum.inl ()))
def P_global_checkNets (f0 : T_floor_Floor) (nets1 : List T_legal_Net) : Option Int :=
 bd (P_floor_Check f0) fun q2 =>
 if q2 ≠ 0 then
  some q2
 else
  if 700 < (nets1.length : Int) then
   some (3 : Int)
  else
   bd (P_floor_Size f0) fun q3 =>
   bs (
    lp (P_global_checkNets_L9 nets1 q3) fuel (0, 0)) (fun y => some y) fun _ =>
   some (0 : Int)
theorem c_global_checkNets {w0 w : World} {l : List Assn} {ρ : Heap} {q8 : Option Addr} {q0x : Nat} {c_f0_3 : Nat} {q9 : Option Addr} {q0y : Nat} {c_f0_4 : Nat} {q0a : Option Addr} {q0z : Nat} {c_f0_5 : Nat} {q6 : Option Addr} {q0t : Nat} {c_nets1 : Nat} {f0 : T_floor_Floor} {nets1 : List T_legal_Net} {r : Int} (hF : P_global_checkNets f0 nets1 = some r) (q0k : RdS R_floor_Block ρ q8 q0x c_f0_3 f0.Blocks) (q0l : RdS R_floor_Wall ρ q9 q0y c_f0_4 f0.Walls) (q0m : RdS R_floor_Port ρ q0a q0z c_f0_5 f0.Ports) (q0d : RdS R_legal_Net ρ q6 q0t c_nets1 nets1) (hS : St w0 w (ro ρ :: l)) :
  Calls Tryd.prog 20 #[.agg #[.int .i64 f0.Rows, .int .i64 f0.Sites, .int .i64 f0.Layers, .slice q8 q0x c_f0_3, .slice q9 q0y c_f0_4, .slice q0a q0z c_f0_5], .slice q6 q0t c_nets1] w fun e w' => e = .returned (.int .i64 r) ∧ St w0 w' (ro ρ :: l) := by
 have e_ := q0k.n; subst e_
 have e_ := q0l.n; subst e_
 have e_ := q0m.n; subst e_
 have e_ := q0d.n; subst e_
 refine enterC Tryd.func20 rfl 72 rfl (by simp) ?_
 refine x_seq <| x_region <| ?_
 refine o_box (cs := [.int .i64 f0.Rows, .int .i64 f0.Sites, .int .i64 f0.Layers, .slice q8 f0.Blocks.length c_f0_3, .slice q9 f0.Walls.length c_f0_4, .slice q0a f0.Ports.length c_f0_5]) rfl rfl hS (fun b2 w' hS => ?_)
 replace hF := bd_s hF; obtain ⟨q0n, q1h, hF⟩ := hF
 refine p (yl_assign rfl) <| x_done <| x_seq <| x_seq <|
  x_region <| pa (v := .agg #[.int .i64 f0.Rows, .int .i64 f0.Sites, .int .i64 f0.Layers, .slice q8 f0.Blocks.length c_f0_3, .slice q9 f0.Walls.length c_f0_4, .slice q0a f0.Ports.length c_f0_5]) (ld_sub agg_30 rfl rfl rfl hS) <| ?_
 have hcall := c_floor_Check q1h q0k q0l q0m (hS.pull 1)
 refine o_cc call_9 (args1 rfl) ((Calls.mono hcall (fun e w'' h => And.intro h.1 (h.2.pull 1)))) ?_
 rintro e w' ⟨rfl, hS⟩
 refine ⟨_, rfl, ?_⟩
 refine p (v := .int .i64 q0n) (yl_assign rfl) <| x_done <| x_seq <| x_region <|
  p (v := .int .i64 q0n) (yl_move rfl) <| p (yl_neq rfl rfl) <| x_done <|
  x_cond_p (q0n ≠ 0) rfl (fun hc16 => ?_) (fun hc16 => ?_)
 ·replace hF := it_t hc16 hF
  refine x_seq <| x_region <| p (v := .int .i64 q0n) (yl_move rfl) <| p (v := .int .i64 q0n) (yl_assign rfl) <|
   x_done <| ?_
  have e_ := sinj hF; subst e_
  exact x_return ⟨_, ⟨_, _, rfl, rfl, rfl⟩, rfl, hS.drop⟩
 ·replace hF := it_f hc16 hF
  refine x_skip <| x_seq <| x_seq <| x_region <|
   p (yl_move rfl) <| p (yl_len_slice usl_34 rfl) <| p (yl_gtr rfl rfl) <| x_done <|
   x_cond_p (700 < (nets1.length : Int)) rfl (fun hc20 => ?_) (fun hc20 => ?_)
  ·replace hF := it_t hc20 hF
   refine x_seq <| x_region <| p (yl_assign rfl) <| x_done <| ?_
   have e_ := sinj hF; subst e_
   exact x_return ⟨_, ⟨_, _, rfl, rfl, rfl⟩, rfl, hS.drop⟩
  ·replace hF := it_f hc20 hF
   replace hF := bd_s hF; obtain ⟨q3, q1i, hF⟩ := hF
   refine x_skip <| x_seq <| x_region <| pa (v := .agg #[.int .i64 f0.Rows, .int .i64 f0.Sites, .int .i64 f0.Layers, .slice q8 f0.Blocks.length c_f0_3, .slice q9 f0.Walls.length c_f0_4, .slice q0a f0.Ports.length c_f0_5]) (ld_sub agg_30 rfl rfl rfl hS) <| ?_
   have hcall := c_floor_Size q1i q0k q0l q0m (hS.pull 1)
   refine o_cc call_5 (args1 rfl) ((Calls.mono hcall (fun e w'' h => And.intro h.1 (h.2.pull 1)))) ?_
   rintro e w' ⟨rfl, hS⟩
   refine ⟨_, rfl, ?_⟩
   refine p (v := .tuple #[.int .i64 q3.1, .int .i64 q3.2]) (yl_move rfl) <| p (yl_extract rfl rfl) <| p (yl_extract rfl rfl) <| p (yl_assign rfl) <|
    p (yl_assign rfl) <| x_done <| x_seq <| x_region <|
    p (yl_assign rfl) <| x_done <| x_seq <| x_seq <|
    x_region <| p (yl_move rfl) <| p (yl_len_slice usl_34 rfl) <| p (yl_move rfl) <|
    x_done <| ?_
   replace hF := bs_s hF; obtain ⟨oL9, hLL9, hF⟩ := hF
   refine x_join (fun E w => (Sum.inl (())) = oL9 ∧ St w0 w (ro ρ :: l)) ?_ ?_
   ·refine x_block ?_
    refine x_loop (fun k_ E w => ∃ (q0b : Int) (q4 : Int), lp (P_global_checkNets_L9 nets1 q3) k_ (q0b, q4) = some oL9 ∧ E 6 = .int .i64 q3.1 ∧ E 7 = .int .i64 q3.2 ∧ E 8 = .int .i64 q0b ∧ E 26 = .slice q6 nets1.length c_nets1 ∧ E 27 = .int .i64 (nets1.length : Int) ∧ E 28 = .int .i64 q4 ∧ St w0 w (ro ρ :: l)) fuel ⟨0, 0, hLL9, rfl, rfl, rfl, rfl, rfl, rfl, hS.drop⟩ ?_
    rintro kL9 E w ⟨q0b, q4, hLL9, q17, q18, q19, q0u, q0v, q0e, hS⟩
    replace hLL9 := lp_s hLL9; obtain ⟨kL9, obL9, rfl, hFL9, hLL9⟩ := hLL9
    refine x_seq <| x_region <| p (yl_lss q0e q0v) <| x_done <|
     x_seq <|
     x_cond_p (q4 < (nets1.length : Int)) rfl (fun hc29 => ?_) (fun hc29 => ?_)
    ·replace hFL9 := it_t hc29 hFL9
     replace hFL9 := ck_s hFL9; obtain ⟨q10, hFL9⟩ := hFL9
     replace hFL9 := lv_s hFL9; obtain ⟨q5, q1a, hFL9⟩ := hFL9
     have q_ := q0d.get q10; obtain ⟨q1k, q11, q1b⟩ := q_
     rw [← q1a] at q11
     obtain ⟨q0f, q1j, q0g, rfl, q0h⟩ := q11
     have e_ := q0h.n; subst e_
     refine x_skip <| x_seq <| x_block <| x_seq <|
      x_region <| p (yix_f sl_34 q0u q0e q0d q10) <| pa (v := .agg #[.string q5.Name, .slice q0f q5.Pins.length q0g]) (at_loadAgg agg_38 rfl rfl (Elt.every q1b hS)) <| ?_
     refine o_alloc zero_38 hS (fun b10 w' hS => ?_)
     refine o_storeAgg (news := [.string q5.Name, .slice q0f q5.Pins.length q0g]) agg_38 rfl rfl rfl (by simp [over_length]) hS (fun w' hS => ?_)
     replace hFL9 := ar_s hFL9; obtain ⟨x36, hx36, hFL9⟩ := hFL9
     refine x_done <| x_seq <| x_seq <| x_region <|
      p (yl_move q19) <| p (yl_field0 fld_38_1 rfl) <| pa (at_load one_36 rfl (hS.cell rfl)) <| p (yl_len_slice usl_36 rfl) <|
      p (yadd rfl rfl hx36) <| p (yl_assign rfl) <| x_done <| x_seq <|
      x_region <| p (yl_move rfl) <| p (yl_gtr rfl rfl) <| x_done <|
      x_cond_p (4000 < x36) rfl (fun hc38 => ?_) (fun hc38 => ?_)
     ·replace hFL9 := it_t hc38 hFL9
      refine x_seq <| x_region <| p (yl_assign rfl) <| x_done <| ?_
      have e_ := sinj hFL9; subst e_
      have e_ := (show _ = oL9 from hLL9); subst e_
      have e_ := sinj hF; subst e_
      exact x_return ⟨_, ⟨_, _, rfl, rfl, rfl⟩, rfl, hS.drop⟩
     ·replace hFL9 := it_f hc38 hFL9
      refine x_skip <| x_seq <| x_region <| p (yl_field0 fld_38_1 rfl) <|
       pa (at_load one_36 rfl (hS.cell rfl)) <| p (yl_len_slice usl_36 rfl) <| p (yl_move rfl) <| x_done <| ?_
      replace hFL9 := bs_s hFL9; obtain ⟨oL15, hLL15, hFL9⟩ := hFL9
      refine x_join (fun E w => (Sum.inl (())) = oL15 ∧ E 6 = .int .i64 q3.1 ∧ E 7 = .int .i64 q3.2 ∧ E 8 = .int .i64 x36 ∧ E 26 = .slice q6 nets1.length c_nets1 ∧ E 27 = .int .i64 (nets1.length : Int) ∧ E 28 = .int .i64 q4 ∧ St w0 w (ro ρ :: l)) ?_ ?_
      ·refine x_block ?_
       refine x_loop (fun k_ E w => ∃ (q7 : Int), lp (P_global_checkNets_L15 q3 q5) k_ q7 = some oL15 ∧ E 6 = .int .i64 q3.1 ∧ E 7 = .int .i64 q3.2 ∧ E 8 = .int .i64 x36 ∧ E 26 = .slice q6 nets1.length c_nets1 ∧ E 27 = .int .i64 (nets1.length : Int) ∧ E 28 = .int .i64 q4 ∧ E 40 = .slice q0f q5.Pins.length q0g ∧ E 41 = .int .i64 (q5.Pins.length : Int) ∧ E 42 = .int .i64 q7 ∧ St w0 w (ro ρ :: l)) fuel ⟨0, hLL15, q17, q18, rfl, q0u, q0v, q0e, rfl, rfl, rfl, hS.drop⟩ ?_
       rintro kL15 E w ⟨q7, hLL15, q0i, q0j, q0w, q0o, q0p, q0q, q0r, q0s, q0c, hS⟩
       replace hLL15 := lp_s hLL15; obtain ⟨kL15, obL15, rfl, hFL15, hLL15⟩ := hLL15
       refine x_seq <| x_region <| p (yl_lss q0c q0s) <| x_done <|
        x_seq <|
        x_cond_p (q7 < (q5.Pins.length : Int)) rfl (fun hc43 => ?_) (fun hc43 => ?_)
       ·replace hFL15 := it_t hc43 hFL15
        replace hFL15 := ck_s hFL15; obtain ⟨q12, hFL15⟩ := hFL15
        replace hFL15 := lv_s hFL15; obtain ⟨q2, q1c, hFL15⟩ := hFL15
        have q_ := q0h.get q12; obtain ⟨q1l, q13, q1d⟩ := q_
        rw [← q1c] at q13
        have e_ := q13; subst e_
        refine x_skip <| x_seq <| x_block <| x_seq <|
         x_region <| p (yix_f sl_36 q0r q0c q0h q12) <| pa (v := .agg #[.int .i64 q2.At.X, .int .i64 q2.At.Y, .int .i64 q2.Cell, .int .i64 q2.Input, .bool q2.Drive, .int .i64 q2.Size]) (at_loadAgg agg_42 rfl rfl (Elt.every q1d hS)) <| ?_
        refine o_alloc zero_42 hS (fun b12 w' hS => ?_)
        refine o_storeAgg (news := [.int .i64 q2.At.X, .int .i64 q2.At.Y, .int .i64 q2.Cell, .int .i64 q2.Input, .bool q2.Drive, .int .i64 q2.Size]) agg_42 rfl rfl rfl (by simp [over_length]) hS (fun w' hS => ?_)
        replace hFL15 := lv_s hFL15; obtain ⟨x56, hx56, hFL15⟩ := hFL15
        replace hFL15 := lv_s hFL15; obtain ⟨x62, hx62, hFL15⟩ := hFL15
        replace hFL15 := lv_s hFL15; obtain ⟨x69, hx69, hFL15⟩ := hFL15
        refine x_done <| x_seq <| x_region <| p (yl_field0 fld_42_0 rfl) <|
         p (yl_field0 fld_40_0 rfl) <| pa (at_load one_3 rfl (hS.cell rfl)) <| p (yl_lss rfl rfl) <| p (yl_move rfl) <|
         pg (v := .pointer (some ⟨b12, 0, none⟩)) 50 (c := !(decide (q2.At.X < 0))) (says_f _) (fun hq => Yl.at (yl_field0 fld_42_0 rfl)) <| pg (v := .pointer (some ⟨b12, 0, none⟩)) 50 (c := !(decide (q2.At.X < 0))) (says_f _) (fun hq => Yl.at (yl_field0 fld_40_0 (cv hq))) <| pg (v := .int .i64 q2.At.X) 50 (c := !(decide (q2.At.X < 0))) (says_f _) (fun hq => at_load one_3 (cv hq) (hS.cell rfl)) <| pg (v := .int .i64 q3.1) 50 (c := !(decide (q2.At.X < 0))) (says_f _) (fun hq => Yl.at (yl_move q0i)) <|
         pg (v := .bool (decide (q3.1 ≤ q2.At.X))) 50 (c := !(decide (q2.At.X < 0))) (says_f _) (fun hq => Yl.at (yl_geq (cv hq) (cv hq))) <| p (yor' rfl rfl (fun hc => (cv (t_not hc))) hx56) <| p (yl_move rfl) <| pg (v := .pointer (some ⟨b12, 0, none⟩)) 57 (c := !x56) (says_f _) (fun hq => Yl.at (yl_field0 fld_42_0 rfl)) <|
         pg (v := .pointer (some ⟨b12, 1, none⟩)) 57 (c := !x56) (says_f _) (fun hq => Yl.at (yl_field0 fld_40_1 (cv hq))) <| pg (v := .int .i64 q2.At.Y) 57 (c := !x56) (says_f _) (fun hq => at_load one_3 (cv hq) (hS.cell rfl)) <| pg (v := .bool (decide (q2.At.Y < 0))) 57 (c := !x56) (says_f _) (fun hq => Yl.at (yl_lss (cv hq) rfl)) <| p (yor' rfl rfl (fun hc => (cv (t_not hc))) hx62) <|
         p (yl_move rfl) <| pg (v := .pointer (some ⟨b12, 0, none⟩)) 63 (c := !x62) (says_f _) (fun hq => Yl.at (yl_field0 fld_42_0 rfl)) <| pg (v := .pointer (some ⟨b12, 1, none⟩)) 63 (c := !x62) (says_f _) (fun hq => Yl.at (yl_field0 fld_40_1 (cv hq))) <| pg (v := .int .i64 q2.At.Y) 63 (c := !x62) (says_f _) (fun hq => at_load one_3 (cv hq) (hS.cell rfl)) <|
         pg (v := .int .i64 q3.2) 63 (c := !x62) (says_f _) (fun hq => Yl.at (yl_move q0j)) <| pg (v := .bool (decide (q3.2 ≤ q2.At.Y))) 63 (c := !x62) (says_f _) (fun hq => Yl.at (yl_geq (cv hq) (cv hq))) <| p (yor' rfl rfl (fun hc => (cv (t_not hc))) hx69) <| x_done <|
         x_cond (t := x69) rfl (fun hc69 => ?_) (fun hc69 => ?_)
        ·replace hFL15 := it_t hc69 hFL15
         refine x_seq <| x_region <| p (yl_assign rfl) <| x_done <| ?_
         have e_ := sinj hFL15; subst e_
         have e_ := (show _ = oL15 from hLL15); subst e_
         have e_ := sinj hFL9; subst e_
         have e_ := (show _ = oL9 from hLL9); subst e_
         have e_ := sinj hF; subst e_
         exact x_return ⟨_, ⟨_, _, rfl, rfl, rfl⟩, rfl, hS.drop⟩
        ·replace hFL15 := it_bf hc69 hFL15
         replace hFL15 := ar_s hFL15; obtain ⟨x70, hx70, hFL15⟩ := hFL15
         refine x_skip <| x_blk <| x_region <| p (yadd q0c rfl hx70) <|
          p (yl_move rfl) <| x_done <| ?_
         have e_ := sinj hFL15; subst e_
         exact x_inv ⟨kL15, Nat.lt_succ_self _, x70, hLL15, q0i, q0j, q0w, q0o, q0p, q0q, q0r, q0s, rfl, hS.drop⟩
       ·replace hFL15 := it_f hc43 hFL15
        refine x_exitTo _ rfl <| ?_
        have e_ := sinj hFL15; subst e_
        exact x_inv ⟨hLL15, q0i, q0j, q0w, q0o, q0p, q0q, hS⟩
      rintro E w ⟨rfl, q1e, q1f, q1g, q14, q15, q16, hS⟩
      replace hFL9 := ar_s hFL9; obtain ⟨x71, hx71, hFL9⟩ := hFL9
      refine x_blk <| x_region <| p (yadd q16 rfl hx71) <| p (yl_move rfl) <|
       x_done <| ?_
      have e_ := sinj hFL9; subst e_
      exact x_inv ⟨kL9, Nat.lt_succ_self _, x36, x71, hLL9, q1e, q1f, q1g, q14, q15, rfl, hS⟩
    ·replace hFL9 := it_f hc29 hFL9
     refine x_exitTo _ rfl <| ?_
     have e_ := sinj hFL9; subst e_
     exact x_inv ⟨hLL9, hS⟩
   rintro E w ⟨rfl, hS⟩
   refine x_seq <| x_region <| p (yl_assign rfl) <| x_done <| ?_
   have e_ := sinj hF; subst e_
   exact x_return ⟨_, ⟨_, _, rfl, rfl, rfl⟩, rfl, hS⟩
attribute [irreducible] P_global_checkNets

def P_global_Grid (f0 : T_floor_Floor) : Option (Int × Int) :=
 bd (P_floor_Size f0) fun q2 =>
 ar (q2.1 + 8) fun x12 =>
 ar (x12 - 1) fun x13 =>
 ck ((8 : Int) ≠ 0) <|
 ar (Int.tdiv x13 8) fun x14 =>
 ar (q2.2 + 8) fun x16 =>
 ar (x16 - 1) fun x17 =>
 ck ((8 : Int) ≠ 0) <|
 ar (Int.tdiv x17 8) fun x18 =>
 some (x14, x18)
theorem c_global_Grid {w0 w : World} {l : List Assn} {ρ : Heap} {q2 : Option Addr} {q5 : Nat} {c_f0_3 : Nat} {q3 : Option Addr} {q6 : Nat} {c_f0_4 : Nat} {q4 : Option Addr} {q7 : Nat} {c_f0_5 : Nat} {f0 : T_floor_Floor} {r : (Int × Int)} (hF : P_global_Grid f0 = some r) (q8 : RdS R_floor_Block ρ q2 q5 c_f0_3 f0.Blocks) (q9 : RdS R_floor_Wall ρ q3 q6 c_f0_4 f0.Walls) (q0a : RdS R_floor_Port ρ q4 q7 c_f0_5 f0.Ports) (hS : St w0 w (ro ρ :: l)) :
  Calls Tryd.prog 30 #[.agg #[.int .i64 f0.Rows, .int .i64 f0.Sites, .int .i64 f0.Layers, .slice q2 q5 c_f0_3, .slice q3 q6 c_f0_4, .slice q4 q7 c_f0_5]] w fun e w' => e = .returned (.tuple #[.int .i64 r.1, .int .i64 r.2]) ∧ St w0 w' (ro ρ :: l) := by
 have e_ := q8.n; subst e_
 have e_ := q9.n; subst e_
 have e_ := q0a.n; subst e_
 refine enterC Tryd.func30 rfl 19 rfl (by simp) ?_
 refine x_seq <| x_region <| ?_
 refine o_box (cs := [.int .i64 f0.Rows, .int .i64 f0.Sites, .int .i64 f0.Layers, .slice q2 f0.Blocks.length c_f0_3, .slice q3 f0.Walls.length c_f0_4, .slice q4 f0.Ports.length c_f0_5]) rfl rfl hS (fun b1 w' hS => ?_)
 replace hF := bd_s hF; obtain ⟨q0b, q0c, hF⟩ := hF
 refine p (yl_assign rfl) <| p (yl_assign rfl) <| x_done <| x_seq <|
  x_region <| pa (v := .agg #[.int .i64 f0.Rows, .int .i64 f0.Sites, .int .i64 f0.Layers, .slice q2 f0.Blocks.length c_f0_3, .slice q3 f0.Walls.length c_f0_4, .slice q4 f0.Ports.length c_f0_5]) (ld_sub agg_30 rfl rfl rfl hS) <| ?_
 have hcall := c_floor_Size q0c q8 q9 q0a (hS.pull 1)
 refine o_cc call_5 (args1 rfl) ((Calls.mono hcall (fun e w'' h => And.intro h.1 (h.2.pull 1)))) ?_
 rintro e w' ⟨rfl, hS⟩
 refine ⟨_, rfl, ?_⟩
 replace hF := ar_s hF; obtain ⟨x12, hx12, hF⟩ := hF
 replace hF := ar_s hF; obtain ⟨x13, hx13, hF⟩ := hF
 replace hF := ck_s hF; obtain ⟨q0d, hF⟩ := hF
 replace hF := ar_s hF; obtain ⟨x14, hx14, hF⟩ := hF
 replace hF := ar_s hF; obtain ⟨x16, hx16, hF⟩ := hF
 replace hF := ar_s hF; obtain ⟨x17, hx17, hF⟩ := hF
 replace hF := ck_s hF; obtain ⟨q0e, hF⟩ := hF
 replace hF := ar_s hF; obtain ⟨x18, hx18, hF⟩ := hF
 refine p (v := .tuple #[.int .i64 q0b.1, .int .i64 q0b.2]) (yl_move rfl) <| p (yl_extract rfl rfl) <| p (yl_extract rfl rfl) <| p (yl_assign rfl) <|
  p (yl_assign rfl) <| x_done <| x_seq <| x_region <|
  p (yl_move rfl) <| p (yadd rfl rfl hx12) <| p (ysub rfl rfl hx13) <| p (yquo rfl rfl q0d hx14) <|
  p (yl_move rfl) <| p (yadd rfl rfl hx16) <| p (ysub rfl rfl hx17) <| p (yquo rfl rfl q0e hx18) <|
  p (yl_assign rfl) <| p (yl_assign rfl) <| x_done <| ?_
 have e_ := sinj hF; subst e_
 exact x_return ⟨_, ⟨_, _, rfl, rfl, _, _, rfl, rfl, rfl⟩, rfl, hS.drop⟩
attribute [irreducible] P_global_Grid

def P_global_Edges_L9 (q4 : (Int × Int)) (q6 : Int) : (List T_global_Edge × Int) → Option ((List T_global_Edge × Int) ⊕ List T_global_Edge) := fun (q3, q2) =>
 if q2 < q4.1 then
  ar (q6 * q4.1) fun x27 =>
  ar (x27 + q2) fun x29 =>
  ar (q2 + 1) fun x31 =>
  bd (
   if x31 < q4.1 then
    ar (x29 + 1) fun x37 =>
    lv (q3 ++ [(T_global_Edge.mk x29 x37)]) fun q8 =>
    ck (apOk 16 q8.length) <|
    some q8
   else
    some q3) fun q5 =>
  ar (q6 + 1) fun x42 =>
  bd (
   if x42 < q4.2 then
    ar (x29 + q4.1) fun x49 =>
    lv (q5 ++ [(T_global_Edge.mk x29 x49)]) fun q9 =>
    ck (apOk 16 q9.length) <|
    some q9
   else
    some q5) fun q7 =>
  ar (q2 + 1) fun x53 =>
  some (Sum.inl (q7, x53))
 else
  some (Sum.inr q3)
def P_global_Edges_L6 (q5 : (Int × Int)) : (List T_global_Edge × Int) → Option ((List T_global_Edge × Int) ⊕ List T_global_Edge) := fun (q3, q2) =>
 if q2 < q5.2 then
  bd (
   lp (P_global_Edges_L9 q5 q2) fuel (q3, 0)) fun q4 =>
  ar (q2 + 1) fun x54 =>
  some (Sum.inl (q4, x54))
 else
  some (Sum.inr q3)
def P_global_Edges (f0 : T_floor_Floor) : Option (List T_global_Edge) :=
 bd (P_floor_Check f0) fun q3 =>
 if q3 ≠ 0 then
  some []
 else
  bd (P_global_Grid f0) fun q4 =>
  bd (
   lp (P_global_Edges_L6 q4) fuel ([], 0)) fun q2 =>
  some q2
theorem c_global_Edges {w0 w : World} {l : List Assn} {ρ : Heap} {q0v : Option Addr} {q1r : Nat} {c_f0_3 : Nat} {q0w : Option Addr} {q1s : Nat} {c_f0_4 : Nat} {q0x : Option Addr} {q1t : Nat} {c_f0_5 : Nat} {f0 : T_floor_Floor} {r : List T_global_Edge} (hF : P_global_Edges f0 = some r) (q1c : RdS R_floor_Block ρ q0v q1r c_f0_3 f0.Blocks) (q1d : RdS R_floor_Wall ρ q0w q1s c_f0_4 f0.Walls) (q1e : RdS R_floor_Port ρ q0x q1t c_f0_5 f0.Ports) (hS : St w0 w (ro ρ :: l)) :
  Calls Tryd.prog 12 #[.agg #[.int .i64 f0.Rows, .int .i64 f0.Sites, .int .i64 f0.Layers, .slice q0v q1r c_f0_3, .slice q0w q1s c_f0_4, .slice q0x q1t c_f0_5]] w fun e w' => ∃ (q1f : Option Addr) (q11 : Nat) (c_y0_ret : Nat) (q18 : List Value), e = .returned (.slice q1f q11 c_y0_ret) ∧ RepL R_global_Edge ρ r q18 ∧ St w0 w' (vec 53 R_global_Edge.sz (.slice q1f q11 c_y0_ret) q11 q18 :: ro ρ :: l) := by
 have e_ := q1c.n; subst e_
 have e_ := q1d.n; subst e_
 have e_ := q1e.n; subst e_
 refine enterC Tryd.func12 rfl 56 rfl (by simp) ?_
 refine x_seq <| x_region <| ?_
 refine o_box (cs := [.int .i64 f0.Rows, .int .i64 f0.Sites, .int .i64 f0.Layers, .slice q0v f0.Blocks.length c_f0_3, .slice q0w f0.Walls.length c_f0_4, .slice q0x f0.Ports.length c_f0_5]) rfl rfl hS (fun b1 w' hS => ?_)
 replace hF := bd_s hF; obtain ⟨q2l, q2f, hF⟩ := hF
 refine p (yl_assign rfl) <| x_done <| x_seq <| x_seq <|
  x_region <| pa (v := .agg #[.int .i64 f0.Rows, .int .i64 f0.Sites, .int .i64 f0.Layers, .slice q0v f0.Blocks.length c_f0_3, .slice q0w f0.Walls.length c_f0_4, .slice q0x f0.Ports.length c_f0_5]) (ld_sub agg_30 rfl rfl rfl hS) <| ?_
 have hcall := c_floor_Check q2f q1c q1d q1e (hS.pull 1)
 refine o_cc call_9 (args1 rfl) ((Calls.mono hcall (fun e w'' h => And.intro h.1 (h.2.pull 1)))) ?_
 rintro e w' ⟨rfl, hS⟩
 refine ⟨_, rfl, ?_⟩
 refine p (yl_neq rfl rfl) <| x_done <|
  x_cond_p (q2l ≠ 0) rfl (fun hc11 => ?_) (fun hc11 => ?_)
 ·replace hF := it_t hc11 hF
  refine x_seq <| x_region <| p (yl_assign rfl) <| x_done <| ?_
  replace hS := St.vec_nil hS 53 R_global_Edge.sz
  have q1b : RepL R_global_Edge ρ [] [] := rfl
  have e_ := sinj hF; subst e_
  exact x_return ⟨_, ⟨_, _, rfl, rfl, rfl⟩, none, 0, 0, [], rfl, q1b, (((hS.pull 1).drop.pull 1).pull 1)⟩
 ·replace hF := it_f hc11 hF
  replace hF := bd_s hF; obtain ⟨q2, q2g, hF⟩ := hF
  refine x_skip <| x_seq <| x_region <| pa (v := .agg #[.int .i64 f0.Rows, .int .i64 f0.Sites, .int .i64 f0.Layers, .slice q0v f0.Blocks.length c_f0_3, .slice q0w f0.Walls.length c_f0_4, .slice q0x f0.Ports.length c_f0_5]) (ld_sub agg_30 rfl rfl rfl hS) <| ?_
  have hcall := c_global_Grid q2g q1c q1d q1e (hS.pull 1)
  refine o_cc call_30 (args1 rfl) ((Calls.mono hcall (fun e w'' h => And.intro h.1 (h.2.pull 1)))) ?_
  rintro e w' ⟨rfl, hS⟩
  refine ⟨_, rfl, ?_⟩
  refine p (v := .tuple #[.int .i64 q2.1, .int .i64 q2.2]) (yl_move rfl) <| p (yl_extract rfl rfl) <| p (yl_extract rfl rfl) <| p (yl_assign rfl) <|
   p (yl_assign rfl) <| x_done <| x_seq <| x_region <|
   p (yl_assign rfl) <| x_done <| x_seq <| x_seq <|
   x_region <| p (yl_move rfl) <| p (yl_move rfl) <| x_done <| ?_
  replace hF := bd_s hF; obtain ⟨oL6, hLL6, hF⟩ := hF
  refine x_join (fun E w => ∃ (q0o : Option Addr) (q0p : Nat) (c_out5_L6 : Nat) (q0c : List Value) (q0z : List T_global_Edge), q0z = oL6 ∧ E 5 = .slice q0o q0p c_out5_L6 ∧ RepL R_global_Edge ρ q0z q0c ∧ St w0 w (vec 53 R_global_Edge.sz (.slice q0o q0p c_out5_L6) q0p q0c :: ro ρ :: l)) ?_ ?_
  ·refine x_block ?_
   replace hS := St.vec_nil hS 53 R_global_Edge.sz
   have q12 : RepL R_global_Edge ρ [] [] := rfl
   refine x_loop (fun k_ E w => ∃ (q8 : Option Addr) (q0d : Nat) (c_out5_L6h : Nat) (q4 : List Value) (q6 : List T_global_Edge) (q3 : Int), lp (P_global_Edges_L6 q2) k_ (q6, q3) = some oL6 ∧ E 3 = .int .i64 q2.1 ∧ E 4 = .int .i64 q2.2 ∧ E 5 = .slice q8 q0d c_out5_L6h ∧ E 17 = .int .i64 q2.2 ∧ E 18 = .int .i64 q3 ∧ RepL R_global_Edge ρ q6 q4 ∧ St w0 w (vec 53 R_global_Edge.sz (.slice q8 q0d c_out5_L6h) q0d q4 :: ro ρ :: l)) fuel ⟨none, 0, 0, [], [], 0, hLL6, rfl, rfl, rfl, rfl, rfl, q12, (((hS.pull 1).drop.pull 1).pull 1)⟩ ?_
   rintro kL6 E w ⟨q8, q0d, c_out5_L6h, q4, q6, q3, hLL6, q1u, q24, q1v, q1m, q14, q0t, hS⟩
   have e_ := St.vec_n hS q0t; subst e_
   replace hLL6 := lp_s hLL6; obtain ⟨kL6, obL6, rfl, hFL6, hLL6⟩ := hLL6
   refine x_seq <| x_region <| p (yl_lss q14 q1m) <| x_done <|
    x_seq <|
    x_cond_p (q3 < q2.2) rfl (fun hc19 => ?_) (fun hc19 => ?_)
   ·replace hFL6 := it_t hc19 hFL6
    refine x_skip <| x_seq <| x_block <| x_seq <|
     x_region <| p (yl_move q14) <| p (yl_assign rfl) <| x_done <|
     x_seq <| x_region <| p (yl_move q1u) <| p (yl_move rfl) <|
     x_done <| ?_
    replace hFL6 := bd_s hFL6; obtain ⟨oL9, hLL9, hFL6⟩ := hFL6
    refine x_join (fun E w => ∃ (q0q : Option Addr) (q0r : Nat) (c_out5_L9 : Nat) (q0e : List Value) (q0s : List T_global_Edge), q0s = oL9 ∧ E 3 = .int .i64 q2.1 ∧ E 4 = .int .i64 q2.2 ∧ E 5 = .slice q0q q0r c_out5_L9 ∧ E 17 = .int .i64 q2.2 ∧ E 18 = .int .i64 q3 ∧ RepL R_global_Edge ρ q0s q0e ∧ St w0 w (vec 53 R_global_Edge.sz (.slice q0q q0r c_out5_L9) q0r q0e :: ro ρ :: l)) ?_ ?_
    ·refine x_block ?_
     refine x_loop (fun k_ E w => ∃ (q9 : Option Addr) (q0f : Nat) (c_out5_L9h : Nat) (q5 : List Value) (q7 : List T_global_Edge) (q0l : Int), lp (P_global_Edges_L9 q2 q3) k_ (q7, q0l) = some oL9 ∧ E 3 = .int .i64 q2.1 ∧ E 4 = .int .i64 q2.2 ∧ E 5 = .slice q9 q0f c_out5_L9h ∧ E 6 = .int .i64 q3 ∧ E 17 = .int .i64 q2.2 ∧ E 18 = .int .i64 q3 ∧ E 21 = .int .i64 q2.1 ∧ E 22 = .int .i64 q0l ∧ RepL R_global_Edge ρ q7 q5 ∧ St w0 w (vec 53 R_global_Edge.sz (.slice q9 q0f c_out5_L9h) q0f q5 :: ro ρ :: l)) fuel ⟨q8, q6.length, c_out5_L6h, q4, q6, 0, hLL9, q1u, q24, q1v, rfl, q1m, q14, rfl, rfl, q0t, ((hS.pull 1).pull 1)⟩ ?_
     rintro kL9 E w ⟨q9, q0f, c_out5_L9h, q5, q7, q0l, hLL9, q0y, q1g, q1h, q1i, q15, q16, q17, q10, q0g, hS⟩
     have e_ := St.vec_n hS q0g; subst e_
     replace hLL9 := lp_s hLL9; obtain ⟨kL9, obL9, rfl, hFL9, hLL9⟩ := hLL9
     refine x_seq <| x_region <| p (yl_lss q10 q17) <| x_done <|
      x_seq <|
      x_cond_p (q0l < q2.1) rfl (fun hc23 => ?_) (fun hc23 => ?_)
     ·replace hFL9 := it_t hc23 hFL9
      replace hFL9 := ar_s hFL9; obtain ⟨x27, hx27, hFL9⟩ := hFL9
      replace hFL9 := ar_s hFL9; obtain ⟨x29, hx29, hFL9⟩ := hFL9
      replace hFL9 := ar_s hFL9; obtain ⟨x31, hx31, hFL9⟩ := hFL9
      refine x_skip <| x_seq <| x_block <| x_seq <|
       x_region <| p (yl_move q10) <| p (yl_assign rfl) <| x_done <|
       x_seq <| x_region <| p (yl_move q1i) <| p (yl_move q0y) <|
       p (ymul rfl rfl hx27) <| p (yl_move rfl) <| p (yadd rfl rfl hx29) <| p (yl_assign rfl) <|
       x_done <| x_seq <| x_seq <| x_region <|
       p (yl_move rfl) <| p (yadd rfl rfl hx31) <| p (yl_move q0y) <| p (yl_lss rfl rfl) <|
       x_done <| ?_
      replace hFL9 := bd_s hFL9; obtain ⟨oc33, hFc33, hFL9⟩ := hFL9
      refine x_join (fun E w => ∃ (q0h : Option Addr) (q0i : Nat) (c_out5_c33 : Nat) (q0a : List Value) (q0m : List T_global_Edge), q0m = oc33 ∧ E 3 = .int .i64 q2.1 ∧ E 4 = .int .i64 q2.2 ∧ E 5 = .slice q0h q0i c_out5_c33 ∧ E 6 = .int .i64 q3 ∧ E 8 = .int .i64 x29 ∧ E 17 = .int .i64 q2.2 ∧ E 18 = .int .i64 q3 ∧ E 21 = .int .i64 q2.1 ∧ E 22 = .int .i64 q0l ∧ RepL R_global_Edge ρ q0m q0a ∧ St w0 w (vec 53 R_global_Edge.sz (.slice q0h q0i c_out5_c33) q0i q0a :: ro ρ :: l)) ?_ ?_
      ·refine x_cond_p (x31 < q2.1) rfl (fun hc33 => ?_) (fun hc33 => ?_)
       ·replace hFc33 := it_t hc33 hFc33
        replace hFc33 := ar_s hFc33; obtain ⟨x37, hx37, hFc33⟩ := hFc33
        refine x_region <| p (yl_move q1h) <| p (yl_move rfl) <| p (yl_move rfl) <|
         p (yadd rfl rfl hx37) <| p (v := .agg #[.int .i64 x29, .int .i64 x37]) (yl_build bld_53 bldf_53 (parts_eq (pt (va := .int .i64 x29) rfl (pt (va := .int .i64 x37) rfl pt0))) (by kernel_rfl)) <| ?_
        refine o_buildSlice (vs := [.agg #[.int .i64 x29, .int .i64 x37]]) (cs := [.int .i64 x29, .int .i64 x37]) sl_51 zero_53 (parts_eq (pt (va := .agg #[.int .i64 x29, .int .i64 x37]) rfl pt0)) rfl (by intro v hv; simp only [List.mem_cons, List.not_mem_nil, or_false] at hv; first | (subst hv; rfl) | (rcases hv with rfl <;> rfl)) (by decide) rfl hS (fun b39 w' hS => ?_)
        replace hFc33 := lv_s hFc33; obtain ⟨q1y, q25, hFc33⟩ := hFc33
        replace hFc33 := ck_s hFc33; obtain ⟨q26, hFc33⟩ := hFc33
        refine o_ap sl_51 zero_53 rfl (by decide) rfl rfl (hS.pull 1) q0g (src_blk usl_51 hS rfl rfl) (RepL.cons (R := R_global_Edge) (ρ := ρ) (x := (T_global_Edge.mk x29 x37)) (cs := [.int .i64 x29, .int .i64 x37]) rfl RepL.nil) q25 q26 (fun A40 c40 cs40 w' hr40 hS => ?_)
        refine p (yl_assign rfl) <| x_done <| ?_
        exact x_inv ⟨A40, q1y.length, c40, cs40, q1y, (sinj hFc33), q0y, q1g, rfl, q1i, rfl, q15, q16, q17, q10, hr40, (((hS.pull 1).drop.pull 1).pull 1)⟩
       ·replace hFc33 := it_f hc33 hFc33
        refine x_skip <| ?_
        exact x_inv ⟨q9, q7.length, c_out5_L9h, q5, q7, (sinj hFc33), q0y, q1g, q1h, q1i, rfl, q15, q16, q17, q10, q0g, ((hS.pull 1).pull 1)⟩
      rintro E w ⟨q0h, q0i, c_out5_c33, q0a, q0m, rfl, q1j, q1k, q1w, q1l, q1x, q1n, q1o, q1p, q1q, q0u, hS⟩
      have e_ := St.vec_n hS q0u; subst e_
      replace hFL9 := ar_s hFL9; obtain ⟨x42, hx42, hFL9⟩ := hFL9
      refine x_seq <| x_region <| p (yl_move q1l) <| p (yadd rfl rfl hx42) <|
       p (yl_move q1k) <| p (yl_lss rfl rfl) <| x_done <| ?_
      replace hFL9 := bd_s hFL9; obtain ⟨oc44, hFc44, hFL9⟩ := hFL9
      refine x_join (fun E w => ∃ (q0j : Option Addr) (q0k : Nat) (c_out5_c44 : Nat) (q0b : List Value) (q0n : List T_global_Edge), q0n = oc44 ∧ E 3 = .int .i64 q2.1 ∧ E 4 = .int .i64 q2.2 ∧ E 5 = .slice q0j q0k c_out5_c44 ∧ E 6 = .int .i64 q3 ∧ E 17 = .int .i64 q2.2 ∧ E 18 = .int .i64 q3 ∧ E 21 = .int .i64 q2.1 ∧ E 22 = .int .i64 q0l ∧ RepL R_global_Edge ρ q0n q0b ∧ St w0 w (vec 53 R_global_Edge.sz (.slice q0j q0k c_out5_c44) q0k q0b :: ro ρ :: l)) ?_ ?_
      ·refine x_cond_p (x42 < q2.2) rfl (fun hc44 => ?_) (fun hc44 => ?_)
       ·replace hFc44 := it_t hc44 hFc44
        replace hFc44 := ar_s hFc44; obtain ⟨x49, hx49, hFc44⟩ := hFc44
        refine x_region <| p (yl_move q1w) <| p (yl_move q1x) <| p (yl_move q1x) <|
         p (yl_move q1j) <| p (yadd rfl rfl hx49) <| p (v := .agg #[.int .i64 x29, .int .i64 x49]) (yl_build bld_53 bldf_53 (parts_eq (pt (va := .int .i64 x29) rfl (pt (va := .int .i64 x49) rfl pt0))) (by kernel_rfl)) <| ?_
        refine o_buildSlice (vs := [.agg #[.int .i64 x29, .int .i64 x49]]) (cs := [.int .i64 x29, .int .i64 x49]) sl_51 zero_53 (parts_eq (pt (va := .agg #[.int .i64 x29, .int .i64 x49]) rfl pt0)) rfl (by intro v hv; simp only [List.mem_cons, List.not_mem_nil, or_false] at hv; first | (subst hv; rfl) | (rcases hv with rfl <;> rfl)) (by decide) rfl hS (fun b51 w' hS => ?_)
        replace hFc44 := lv_s hFc44; obtain ⟨q1z, q27, hFc44⟩ := hFc44
        replace hFc44 := ck_s hFc44; obtain ⟨q28, hFc44⟩ := hFc44
        refine o_ap sl_51 zero_53 rfl (by decide) rfl rfl (hS.pull 1) q0u (src_blk usl_51 hS rfl rfl) (RepL.cons (R := R_global_Edge) (ρ := ρ) (x := (T_global_Edge.mk x29 x49)) (cs := [.int .i64 x29, .int .i64 x49]) rfl RepL.nil) q27 q28 (fun A52 c52 cs52 w' hr52 hS => ?_)
        refine p (yl_assign rfl) <| x_done <| ?_
        exact x_inv ⟨A52, q1z.length, c52, cs52, q1z, (sinj hFc44), q1j, q1k, rfl, q1l, q1n, q1o, q1p, q1q, hr52, (((hS.pull 1).drop.pull 1).pull 1)⟩
       ·replace hFc44 := it_f hc44 hFc44
        refine x_skip <| ?_
        exact x_inv ⟨q0h, q0m.length, c_out5_c33, q0a, q0m, (sinj hFc44), q1j, q1k, q1w, q1l, q1n, q1o, q1p, q1q, q0u, ((hS.pull 1).pull 1)⟩
      rintro E w ⟨q0j, q0k, c_out5_c44, q0b, q0n, rfl, q29, q2a, q2b, q2c, q20, q21, q22, q23, q13, hS⟩
      have e_ := St.vec_n hS q13; subst e_
      replace hFL9 := ar_s hFL9; obtain ⟨x53, hx53, hFL9⟩ := hFL9
      refine x_blk <| x_region <| p (yadd q23 rfl hx53) <| p (yl_move rfl) <|
       x_done <| ?_
      have e_ := sinj hFL9; subst e_
      exact x_inv ⟨kL9, Nat.lt_succ_self _, q0j, q0n.length, c_out5_c44, q0b, q0n, x53, hLL9, q29, q2a, q2b, q2c, q20, q21, q22, rfl, q13, ((hS.pull 1).pull 1)⟩
     ·replace hFL9 := it_f hc23 hFL9
      refine x_exitTo _ rfl <| ?_
      have e_ := sinj hFL9; subst e_
      exact x_inv ⟨q9, q7.length, c_out5_L9h, q5, q7, hLL9, q0y, q1g, q1h, q15, q16, q0g, ((hS.pull 1).pull 1)⟩
    rintro E w ⟨q0q, q0r, c_out5_L9, q0e, q0s, rfl, q2h, q2i, q2j, q2d, q2e, q19, hS⟩
    have e_ := St.vec_n hS q19; subst e_
    replace hFL6 := ar_s hFL6; obtain ⟨x54, hx54, hFL6⟩ := hFL6
    refine x_blk <| x_region <| p (yadd q2e rfl hx54) <| p (yl_move rfl) <|
     x_done <| ?_
    have e_ := sinj hFL6; subst e_
    exact x_inv ⟨kL6, Nat.lt_succ_self _, q0q, q0s.length, c_out5_L9, q0e, q0s, x54, hLL6, q2h, q2i, q2j, q2d, rfl, q19, ((hS.pull 1).pull 1)⟩
   ·replace hFL6 := it_f hc19 hFL6
    refine x_exitTo _ rfl <| ?_
    have e_ := sinj hFL6; subst e_
    exact x_inv ⟨q8, q6.length, c_out5_L6h, q4, q6, hLL6, q1v, q0t, ((hS.pull 1).pull 1)⟩
  rintro E w ⟨q0o, q0p, c_out5_L6, q0c, q0z, rfl, q2k, q1a, hS⟩
  have e_ := St.vec_n hS q1a; subst e_
  refine x_seq <| x_region <| p (yl_move q2k) <| p (yl_assign rfl) <|
   x_done <| ?_
  have e_ := sinj hF; subst e_
  exact x_return ⟨_, ⟨_, _, rfl, rfl, rfl⟩, q0o, q0z.length, c_out5_L6, q0c, rfl, q1a, ((hS.pull 1).pull 1)⟩
attribute [irreducible] P_global_Edges

def P_global_isEdge (f0 : T_floor_Floor) (e_1 : T_global_Edge) : Option Bool :=
 bd (P_global_Grid f0) fun q2 =>
 ck ((!(decide (e_1.From < 0))) = true → I64 (q2.1 * q2.2)) <|
 lv (q2.1 * q2.2) fun x20 =>
 lv ((decide (e_1.From < 0)) || (decide (x20 ≤ e_1.To))) fun x22 =>
 if x22 = true then
  some false
 else
  ar (e_1.From + q2.1) fun x28 =>
  ck ((!(decide (e_1.To = x28))) = true → I64 (e_1.From + 1)) <|
  lv (e_1.From + 1) fun x35 =>
  ck (((!(decide (e_1.To = x28))) && (decide (e_1.To = x35))) = true → q2.1 ≠ 0) <|
  lv (Int.tmod e_1.To q2.1) fun x41 =>
  lv ((decide (e_1.To = x35)) && (decide (0 < x41))) fun x43 =>
  lv ((decide (e_1.To = x28)) || x43) fun x44 =>
  some x44
theorem c_global_isEdge {w0 w : World} {l : List Assn} {ρ : Heap} {q2 : Option Addr} {q6 : Nat} {c_f0_3 : Nat} {q3 : Option Addr} {q7 : Nat} {c_f0_4 : Nat} {q4 : Option Addr} {q8 : Nat} {c_f0_5 : Nat} {f0 : T_floor_Floor} {e_1 : T_global_Edge} {r : Bool} (hF : P_global_isEdge f0 e_1 = some r) (q9 : RdS R_floor_Block ρ q2 q6 c_f0_3 f0.Blocks) (q0a : RdS R_floor_Wall ρ q3 q7 c_f0_4 f0.Walls) (q0b : RdS R_floor_Port ρ q4 q8 c_f0_5 f0.Ports) (hS : St w0 w (ro ρ :: l)) :
  Calls Tryd.prog 25 #[.agg #[.int .i64 f0.Rows, .int .i64 f0.Sites, .int .i64 f0.Layers, .slice q2 q6 c_f0_3, .slice q3 q7 c_f0_4, .slice q4 q8 c_f0_5], .agg #[.int .i64 e_1.From, .int .i64 e_1.To]] w fun e w' => e = .returned (.bool r) ∧ St w0 w' (ro ρ :: l) := by
 have e_ := q9.n; subst e_
 have e_ := q0a.n; subst e_
 have e_ := q0b.n; subst e_
 refine enterC Tryd.func25 rfl 45 rfl (by simp) ?_
 refine x_seq <| x_region <| ?_
 refine o_box (cs := [.int .i64 f0.Rows, .int .i64 f0.Sites, .int .i64 f0.Layers, .slice q2 f0.Blocks.length c_f0_3, .slice q3 f0.Walls.length c_f0_4, .slice q4 f0.Ports.length c_f0_5]) rfl rfl hS (fun b2 w' hS => ?_)
 refine o_box (cs := [.int .i64 e_1.From, .int .i64 e_1.To]) rfl rfl hS (fun b3 w' hS => ?_)
 replace hF := bd_s hF; obtain ⟨q5, q0e, hF⟩ := hF
 refine p (yl_assign rfl) <| x_done <| x_seq <| x_region <|
  pa (v := .agg #[.int .i64 f0.Rows, .int .i64 f0.Sites, .int .i64 f0.Layers, .slice q2 f0.Blocks.length c_f0_3, .slice q3 f0.Walls.length c_f0_4, .slice q4 f0.Ports.length c_f0_5]) (ld_sub agg_30 rfl rfl rfl (hS.pull 1)) <| ?_
 have hcall := c_global_Grid q0e q9 q0a q0b (hS.pull 2)
 refine o_cc call_30 (args1 rfl) ((Calls.mono hcall (fun e w'' h => And.intro h.1 ((h.2.pull 2).pull 2)))) ?_
 rintro e w' ⟨rfl, hS⟩
 refine ⟨_, rfl, ?_⟩
 replace hF := ck_s hF; obtain ⟨q0f, hF⟩ := hF
 replace hF := lv_s hF; obtain ⟨x20, hx20, hF⟩ := hF
 replace hF := lv_s hF; obtain ⟨x22, hx22, hF⟩ := hF
 refine p (v := .tuple #[.int .i64 q5.1, .int .i64 q5.2]) (yl_move rfl) <| p (yl_extract rfl rfl) <| p (yl_extract rfl rfl) <| p (yl_assign rfl) <|
  p (yl_assign rfl) <| x_done <| x_seq <| x_seq <|
  x_region <| p (yl_field0 fld_53_0 rfl) <| pa (at_load one_3 rfl (hS.cell rfl)) <| p (yl_lss rfl rfl) <|
  p (yl_move rfl) <| pg (v := .pointer (some ⟨b3, 1, none⟩)) 15 (c := !(decide (e_1.From < 0))) (says_f _) (fun hq => Yl.at (yl_field0 fld_53_1 rfl)) <| pg (v := .int .i64 e_1.To) 15 (c := !(decide (e_1.From < 0))) (says_f _) (fun hq => at_load one_3 (cv hq) (hS.cell rfl)) <| pg (v := .int .i64 q5.1) 15 (c := !(decide (e_1.From < 0))) (says_f _) (fun hq => Yl.at (yl_move rfl)) <|
  pg (v := .int .i64 q5.2) 15 (c := !(decide (e_1.From < 0))) (says_f _) (fun hq => Yl.at (yl_move rfl)) <| pg (v := .int .i64 x20) 15 (c := !(decide (e_1.From < 0))) (says_f _) (fun hq => Yl.at (ymul (cv hq) (cv hq) ⟨hx20, (q0f hq)⟩)) <| pg (v := .bool (decide (x20 ≤ e_1.To))) 15 (c := !(decide (e_1.From < 0))) (says_f _) (fun hq => Yl.at (yl_geq (cv hq) (cv hq))) <| p (yor' rfl rfl (fun hc => (cv (t_not hc))) hx22) <|
  x_done <|
  x_cond (t := x22) rfl (fun hc22 => ?_) (fun hc22 => ?_)
 ·replace hF := it_t hc22 hF
  refine x_seq <| x_region <| p (yl_assign rfl) <| x_done <| ?_
  have e_ := sinj hF; subst e_
  exact x_return ⟨_, ⟨_, _, rfl, rfl, rfl⟩, rfl, hS.drop.drop⟩
 ·replace hF := it_bf hc22 hF
  replace hF := ar_s hF; obtain ⟨x28, hx28, hF⟩ := hF
  replace hF := ck_s hF; obtain ⟨q0c, hF⟩ := hF
  replace hF := lv_s hF; obtain ⟨x35, hx35, hF⟩ := hF
  replace hF := ck_s hF; obtain ⟨q0d, hF⟩ := hF
  replace hF := lv_s hF; obtain ⟨x41, hx41, hF⟩ := hF
  replace hF := lv_s hF; obtain ⟨x43, hx43, hF⟩ := hF
  replace hF := lv_s hF; obtain ⟨x44, hx44, hF⟩ := hF
  refine x_skip <| x_seq <| x_region <| p (yl_field0 fld_53_1 rfl) <|
   pa (at_load one_3 rfl (hS.cell rfl)) <| p (yl_field0 fld_53_0 rfl) <| pa (at_load one_3 rfl (hS.cell rfl)) <| p (yl_move rfl) <|
   p (yadd rfl rfl hx28) <| p (yl_eql rfl rfl) <| p (yl_move rfl) <| pg (v := .pointer (some ⟨b3, 1, none⟩)) 30 (c := !(decide (e_1.To = x28))) (says_f _) (fun hq => Yl.at (yl_field0 fld_53_1 rfl)) <|
   pg (v := .int .i64 e_1.To) 30 (c := !(decide (e_1.To = x28))) (says_f _) (fun hq => at_load one_3 (cv hq) (hS.cell rfl)) <| pg (v := .pointer (some ⟨b3, 0, none⟩)) 30 (c := !(decide (e_1.To = x28))) (says_f _) (fun hq => Yl.at (yl_field0 fld_53_0 rfl)) <| pg (v := .int .i64 e_1.From) 30 (c := !(decide (e_1.To = x28))) (says_f _) (fun hq => at_load one_3 (cv hq) (hS.cell rfl)) <| pg (v := .int .i64 x35) 30 (c := !(decide (e_1.To = x28))) (says_f _) (fun hq => Yl.at (yadd (cv hq) rfl ⟨hx35, (q0c hq)⟩)) <|
   pg (v := .bool (decide (e_1.To = x35))) 30 (c := !(decide (e_1.To = x28))) (says_f _) (fun hq => Yl.at (yl_eql (cv hq) (cv hq))) <| pg (v := .bool (decide (e_1.To = x35))) 30 (c := !(decide (e_1.To = x28))) (says_f _) (fun hq => Yl.at (yl_move (cv hq))) <| pg (v := .pointer (some ⟨b3, 1, none⟩)) 37 (c := (!(decide (e_1.To = x28))) && (decide (e_1.To = x35))) (says_ift _ _) (fun hq => Yl.at (yl_field0 fld_53_1 rfl)) <| pg (v := .int .i64 e_1.To) 37 (c := (!(decide (e_1.To = x28))) && (decide (e_1.To = x35))) (says_ift _ _) (fun hq => at_load one_3 (cv hq) (hS.cell rfl)) <|
   pg (v := .int .i64 q5.1) 37 (c := (!(decide (e_1.To = x28))) && (decide (e_1.To = x35))) (says_ift _ _) (fun hq => Yl.at (yl_move rfl)) <| pg (v := .int .i64 x41) 37 (c := (!(decide (e_1.To = x28))) && (decide (e_1.To = x35))) (says_ift _ _) (fun hq => Yl.at (yrem (cv hq) (cv hq) (q0d hq) hx41)) <| pg (v := .bool (decide (0 < x41))) 37 (c := (!(decide (e_1.To = x28))) && (decide (e_1.To = x35))) (says_ift _ _) (fun hq => Yl.at (yl_gtr (cv hq) rfl)) <| pg (v := .bool x43) 30 (c := !(decide (e_1.To = x28))) (says_f _) (fun hq => Yl.at (yand' (cv hq) (fun hc => (cv (and_i hq hc))) rfl hx43)) <|
   p (yor' rfl rfl (fun hc => (cv (t_not hc))) hx44) <| p (yl_assign rfl) <| x_done <| ?_
  have e_ := sinj hF; subst e_
  exact x_return ⟨_, ⟨_, _, rfl, rfl, rfl⟩, rfl, hS.drop.drop⟩
attribute [irreducible] P_global_isEdge

def P_global_walled_L2 (f0 : T_floor_Floor) (layer1 : Int) (x2 : Int) (y3 : Int) : Int → Option (Int ⊕ (Unit ⊕ Bool)) := fun q2 =>
 if q2 < (f0.Walls.length : Int) then
  ck (inb q2 f0.Walls.length) <|
  lv (gt f0.Walls q2) fun q3 =>
  lv ((decide (q3.Layer = layer1)) && (decide (q3.X0 ≤ x2))) fun x27 =>
  lv (x27 && (decide (x2 ≤ q3.X1))) fun x33 =>
  lv (x33 && (decide (q3.Y0 ≤ y3))) fun x39 =>
  lv (x39 && (decide (y3 ≤ q3.Y1))) fun x45 =>
  if x45 = true then
   some (Sum.inr (Sum.inr true))
  else
   ar (q2 + 1) fun x46 =>
   some (Sum.inl x46)
 else
  some (Sum.inr (Sum.inl ()))
def P_global_walled (f0 : T_floor_Floor) (layer1 : Int) (x2 : Int) (y3 : Int) : Option Bool :=
 bs (
  lp (P_global_walled_L2 f0 layer1 x2 y3) fuel 0) (fun y => some y) fun _ =>
 some false
theorem c_global_walled {w0 w : World} {l : List Assn} {ρ : Heap} {q6 : Option Addr} {q0d : Nat} {c_f0_3 : Nat} {q4 : Option Addr} {q0e : Nat} {c_f0_4 : Nat} {q7 : Option Addr} {q0f : Nat} {c_f0_5 : Nat} {f0 : T_floor_Floor} {layer1 : Int} {x2 : Int} {y3 : Int} {r : Bool} (hF : P_global_walled f0 layer1 x2 y3 = some r) (q0j : RdS R_floor_Block ρ q6 q0d c_f0_3 f0.Blocks) (q8 : RdS R_floor_Wall ρ q4 q0e c_f0_4 f0.Walls) (q0k : RdS R_floor_Port ρ q7 q0f c_f0_5 f0.Ports) (hS : St w0 w (ro ρ :: l)) :
  Calls Tryd.prog 31 #[.agg #[.int .i64 f0.Rows, .int .i64 f0.Sites, .int .i64 f0.Layers, .slice q6 q0d c_f0_3, .slice q4 q0e c_f0_4, .slice q7 q0f c_f0_5], .int .i64 layer1, .int .i64 x2, .int .i64 y3] w fun e w' => e = .returned (.bool r) ∧ St w0 w' (ro ρ :: l) := by
 have e_ := q0j.n; subst e_
 have e_ := q8.n; subst e_
 have e_ := q0k.n; subst e_
 refine enterC Tryd.func31 rfl 47 rfl (by simp) ?_
 refine x_seq <| x_region <| ?_
 refine o_box (cs := [.int .i64 f0.Rows, .int .i64 f0.Sites, .int .i64 f0.Layers, .slice q6 f0.Blocks.length c_f0_3, .slice q4 f0.Walls.length c_f0_4, .slice q7 f0.Ports.length c_f0_5]) rfl rfl hS (fun b4 w' hS => ?_)
 refine p (yl_assign rfl) <| x_done <| x_seq <| x_seq <|
  x_region <| p (yl_field0 fld_30_4 rfl) <| pa (at_load one_27 rfl (hS.cell rfl)) <| p (yl_len_slice usl_27 rfl) <|
  p (yl_move rfl) <| x_done <| ?_
 replace hF := bs_s hF; obtain ⟨oL2, hLL2, hF⟩ := hF
 refine x_join (fun E w => (Sum.inl (())) = oL2 ∧ St w0 w (ro ρ :: l)) ?_ ?_
 ·refine x_block ?_
  refine x_loop (fun k_ E w => ∃ (q3 : Int), lp (P_global_walled_L2 f0 layer1 x2 y3) k_ q3 = some oL2 ∧ E 1 = .int .i64 layer1 ∧ E 2 = .int .i64 x2 ∧ E 3 = .int .i64 y3 ∧ E 12 = .slice q4 f0.Walls.length c_f0_4 ∧ E 13 = .int .i64 (f0.Walls.length : Int) ∧ E 14 = .int .i64 q3 ∧ St w0 w (ro ρ :: l)) fuel ⟨0, hLL2, rfl, rfl, rfl, rfl, rfl, rfl, hS.drop⟩ ?_
  rintro kL2 E w ⟨q3, hLL2, q0g, q9, q0a, q0b, q0c, q5, hS⟩
  replace hLL2 := lp_s hLL2; obtain ⟨kL2, obL2, rfl, hFL2, hLL2⟩ := hLL2
  refine x_seq <| x_region <| p (yl_lss q5 q0c) <| x_done <|
   x_seq <|
   x_cond_p (q3 < (f0.Walls.length : Int)) rfl (fun hc15 => ?_) (fun hc15 => ?_)
  ·replace hFL2 := it_t hc15 hFL2
   replace hFL2 := ck_s hFL2; obtain ⟨q0h, hFL2⟩ := hFL2
   replace hFL2 := lv_s hFL2; obtain ⟨q2, q0l, hFL2⟩ := hFL2
   have q_ := q8.get q0h; obtain ⟨q0n, q0i, q0m⟩ := q_
   rw [← q0l] at q0i
   have e_ := q0i; subst e_
   refine x_skip <| x_seq <| x_block <| x_seq <|
    x_region <| p (yix_f sl_27 q0b q5 q8 q0h) <| pa (v := .agg #[.int .i64 q2.Layer, .int .i64 q2.X0, .int .i64 q2.Y0, .int .i64 q2.X1, .int .i64 q2.Y1]) (at_loadAgg agg_62 rfl rfl (Elt.every q0m hS)) <| ?_
   refine o_alloc zero_62 hS (fun b10 w' hS => ?_)
   refine o_storeAgg (news := [.int .i64 q2.Layer, .int .i64 q2.X0, .int .i64 q2.Y0, .int .i64 q2.X1, .int .i64 q2.Y1]) agg_62 rfl rfl rfl (by simp [over_length]) hS (fun w' hS => ?_)
   replace hFL2 := lv_s hFL2; obtain ⟨x27, hx27, hFL2⟩ := hFL2
   replace hFL2 := lv_s hFL2; obtain ⟨x33, hx33, hFL2⟩ := hFL2
   replace hFL2 := lv_s hFL2; obtain ⟨x39, hx39, hFL2⟩ := hFL2
   replace hFL2 := lv_s hFL2; obtain ⟨x45, hx45, hFL2⟩ := hFL2
   refine x_done <| x_seq <| x_region <| p (yl_field0 fld_62_0 rfl) <|
    pa (at_load one_3 rfl (hS.cell rfl)) <| p (yl_move q0g) <| p (yl_eql rfl rfl) <| p (yl_move rfl) <|
    pg (v := .int .i64 x2) 22 (c := decide (q2.Layer = layer1)) (says_t _) (fun hq => Yl.at (yl_move q9)) <| pg (v := .pointer (some ⟨b10, 1, none⟩)) 22 (c := decide (q2.Layer = layer1)) (says_t _) (fun hq => Yl.at (yl_field0 fld_62_1 rfl)) <| pg (v := .int .i64 q2.X0) 22 (c := decide (q2.Layer = layer1)) (says_t _) (fun hq => at_load one_3 (cv hq) (hS.cell rfl)) <| pg (v := .bool (decide (q2.X0 ≤ x2))) 22 (c := decide (q2.Layer = layer1)) (says_t _) (fun hq => Yl.at (yl_geq (cv hq) (cv hq))) <|
    p (yand' rfl (fun hc => (cv hc)) rfl hx27) <| p (yl_move rfl) <| pg (v := .int .i64 x2) 28 (c := x27) (says_t _) (fun hq => Yl.at (yl_move q9)) <| pg (v := .pointer (some ⟨b10, 3, none⟩)) 28 (c := x27) (says_t _) (fun hq => Yl.at (yl_field0 fld_62_3 rfl)) <|
    pg (v := .int .i64 q2.X1) 28 (c := x27) (says_t _) (fun hq => at_load one_3 (cv hq) (hS.cell rfl)) <| pg (v := .bool (decide (x2 ≤ q2.X1))) 28 (c := x27) (says_t _) (fun hq => Yl.at (yl_leq (cv hq) (cv hq))) <| p (yand' rfl (fun hc => (cv hc)) rfl hx33) <| p (yl_move rfl) <|
    pg (v := .int .i64 y3) 34 (c := x33) (says_t _) (fun hq => Yl.at (yl_move q0a)) <| pg (v := .pointer (some ⟨b10, 2, none⟩)) 34 (c := x33) (says_t _) (fun hq => Yl.at (yl_field0 fld_62_2 rfl)) <| pg (v := .int .i64 q2.Y0) 34 (c := x33) (says_t _) (fun hq => at_load one_3 (cv hq) (hS.cell rfl)) <| pg (v := .bool (decide (q2.Y0 ≤ y3))) 34 (c := x33) (says_t _) (fun hq => Yl.at (yl_geq (cv hq) (cv hq))) <|
    p (yand' rfl (fun hc => (cv hc)) rfl hx39) <| p (yl_move rfl) <| pg (v := .int .i64 y3) 40 (c := x39) (says_t _) (fun hq => Yl.at (yl_move q0a)) <| pg (v := .pointer (some ⟨b10, 4, none⟩)) 40 (c := x39) (says_t _) (fun hq => Yl.at (yl_field0 fld_62_4 rfl)) <|
    pg (v := .int .i64 q2.Y1) 40 (c := x39) (says_t _) (fun hq => at_load one_3 (cv hq) (hS.cell rfl)) <| pg (v := .bool (decide (y3 ≤ q2.Y1))) 40 (c := x39) (says_t _) (fun hq => Yl.at (yl_leq (cv hq) (cv hq))) <| p (yand' rfl (fun hc => (cv hc)) rfl hx45) <| x_done <|
    x_cond (t := x45) rfl (fun hc45 => ?_) (fun hc45 => ?_)
   ·replace hFL2 := it_t hc45 hFL2
    refine x_seq <| x_region <| p (yl_assign rfl) <| x_done <| ?_
    have e_ := sinj hFL2; subst e_
    have e_ := (show _ = oL2 from hLL2); subst e_
    have e_ := sinj hF; subst e_
    exact x_return ⟨_, ⟨_, _, rfl, rfl, rfl⟩, rfl, hS.drop⟩
   ·replace hFL2 := it_bf hc45 hFL2
    replace hFL2 := ar_s hFL2; obtain ⟨x46, hx46, hFL2⟩ := hFL2
    refine x_skip <| x_blk <| x_region <| p (yadd q5 rfl hx46) <|
     p (yl_move rfl) <| x_done <| ?_
    have e_ := sinj hFL2; subst e_
    exact x_inv ⟨kL2, Nat.lt_succ_self _, x46, hLL2, q0g, q9, q0a, q0b, q0c, rfl, hS.drop⟩
  ·replace hFL2 := it_f hc15 hFL2
   refine x_exitTo _ rfl <| ?_
   have e_ := sinj hFL2; subst e_
   exact x_inv ⟨hLL2, hS⟩
 rintro E w ⟨rfl, hS⟩
 refine x_seq <| x_region <| p (yl_assign rfl) <| x_done <| ?_
 have e_ := sinj hF; subst e_
 exact x_return ⟨_, ⟨_, _, rfl, rfl, rfl⟩, rfl, hS⟩
attribute [irreducible] P_global_walled

def P_global_Room_L11 (f0 : T_floor_Floor) (e_1 : T_global_Edge) (q9 : (Int × Int)) (x40 : Int) (x44 : Int) (q8 : Int) : (Int × Int) → Option ((Int × Int) ⊕ Int) := fun (q7, q5) =>
 if q5 < 8 then
  bd (
   ar ((8 : Int) * x40) fun x54 =>
   ar (x54 + 8) fun x55 =>
   ar (x55 - 1) fun x56 =>
   ar ((8 : Int) * x44) fun x58 =>
   ar (x58 + q5) fun x60 =>
   ar (e_1.From + 1) fun x65 =>
   bd (
    if e_1.To ≠ x65 then
     ar ((8 : Int) * x40) fun x68 =>
     ar (x68 + q5) fun x70 =>
     ar ((8 : Int) * x44) fun x72 =>
     ar (x72 + 8) fun x73 =>
     ar (x73 - 1) fun x74 =>
     some (x70, x74, (0 : Int), (1 : Int))
    else
     some (x56, x60, (1 : Int), (0 : Int))) fun (q3, q4, q6, q2) =>
   ck ((2 : Int) ≠ 0) <|
   lv (Int.tmod q8 2) fun x76 =>
   ck ((!(decide (x76 ≠ q2))) = true → I64 (q3 + q6)) <|
   lv (q3 + q6) fun x82 =>
   lv ((decide (x76 ≠ q2)) || (decide (q9.1 ≤ x82))) fun x85 =>
   ck ((!x85) = true → I64 (q4 + q2)) <|
   lv (q4 + q2) fun x89 =>
   lv (x85 || (decide (q9.2 ≤ x89))) fun x92 =>
   bd (gd (!x92) (P_global_walled f0 q8 q3 q4)) fun q0a =>
   lv (x92 || q0a) fun x99 =>
   ck ((!x99) = true → I64 (q3 + q6)) <|
   lv (q3 + q6) fun x105 =>
   ck ((!x99) = true → I64 (q4 + q2)) <|
   lv (q4 + q2) fun x108 =>
   bd (gd (!x99) (P_global_walled f0 q8 x105 x108)) fun q0b =>
   lv (x99 || q0b) fun x110 =>
   if x110 = true then
    some q7
   else
    ar (q7 + 1) fun x112 =>
    some x112) fun q0c =>
  ar (q5 + 1) fun x113 =>
  some (Sum.inl (q0c, x113))
 else
  some (Sum.inr q7)
def P_global_Room_L8 (f0 : T_floor_Floor) (e_1 : T_global_Edge) (q5 : (Int × Int)) (x40 : Int) (x44 : Int) : (Int × Int) → Option ((Int × Int) ⊕ Int) := fun (q3, q2) =>
 if q2 < f0.Layers then
  bd (
   lp (P_global_Room_L11 f0 e_1 q5 x40 x44 q2) fuel (q3, 0)) fun q4 =>
  ar (q2 + 1) fun x114 =>
  some (Sum.inl (q4, x114))
 else
  some (Sum.inr q3)
def P_global_Room (f0 : T_floor_Floor) (e_1 : T_global_Edge) : Option Int :=
 bd (P_floor_Check f0) fun q3 =>
 bd (gd (!(decide (q3 ≠ 0))) (P_global_isEdge f0 e_1)) fun q5 =>
 lv ((decide (q3 ≠ 0)) || (!q5)) fun x26 =>
 if x26 = true then
  some (0 : Int)
 else
  bd (P_global_Grid f0) fun q2 =>
  bd (P_floor_Size f0) fun q6 =>
  ck (q2.1 ≠ 0) <|
  lv (Int.tmod e_1.From q2.1) fun x40 =>
  ck (q2.1 ≠ 0) <|
  ar (Int.tdiv e_1.From q2.1) fun x44 =>
  bd (
   lp (P_global_Room_L8 f0 e_1 q6 x40 x44) fuel (0, 0)) fun q4 =>
  some q4
theorem c_global_Room {w0 w : World} {l : List Assn} {ρ : Heap} {q3 : Option Addr} {q1c : Nat} {c_f0_3 : Nat} {q4 : Option Addr} {q1d : Nat} {c_f0_4 : Nat} {q5 : Option Addr} {q1e : Nat} {c_f0_5 : Nat} {f0 : T_floor_Floor} {e_1 : T_global_Edge} {r : Int} (hF : P_global_Room f0 e_1 = some r) (q0c : RdS R_floor_Block ρ q3 q1c c_f0_3 f0.Blocks) (q0d : RdS R_floor_Wall ρ q4 q1d c_f0_4 f0.Walls) (q0e : RdS R_floor_Port ρ q5 q1e c_f0_5 f0.Ports) (hS : St w0 w (ro ρ :: l)) :
  Calls Tryd.prog 14 #[.agg #[.int .i64 f0.Rows, .int .i64 f0.Sites, .int .i64 f0.Layers, .slice q3 q1c c_f0_3, .slice q4 q1d c_f0_4, .slice q5 q1e c_f0_5], .agg #[.int .i64 e_1.From, .int .i64 e_1.To]] w fun e w' => e = .returned (.int .i64 r) ∧ St w0 w' (ro ρ :: l) := by
 have e_ := q0c.n; subst e_
 have e_ := q0d.n; subst e_
 have e_ := q0e.n; subst e_
 refine enterC Tryd.func14 rfl 116 rfl (by simp) ?_
 refine x_seq <| x_region <| ?_
 refine o_box (cs := [.int .i64 f0.Rows, .int .i64 f0.Sites, .int .i64 f0.Layers, .slice q3 f0.Blocks.length c_f0_3, .slice q4 f0.Walls.length c_f0_4, .slice q5 f0.Ports.length c_f0_5]) rfl rfl hS (fun b2 w' hS => ?_)
 refine o_box (cs := [.int .i64 e_1.From, .int .i64 e_1.To]) rfl rfl hS (fun b3 w' hS => ?_)
 replace hF := bd_s hF; obtain ⟨q1b, q2e, hF⟩ := hF
 refine p (yl_assign rfl) <| x_done <| x_seq <| x_seq <|
  x_region <| pa (v := .agg #[.int .i64 f0.Rows, .int .i64 f0.Sites, .int .i64 f0.Layers, .slice q3 f0.Blocks.length c_f0_3, .slice q4 f0.Walls.length c_f0_4, .slice q5 f0.Ports.length c_f0_5]) (ld_sub agg_30 rfl rfl rfl (hS.pull 1)) <| ?_
 have hcall := c_floor_Check q2e q0c q0d q0e (hS.pull 2)
 refine o_cc call_9 (args1 rfl) ((Calls.mono hcall (fun e w'' h => And.intro h.1 ((h.2.pull 2).pull 2)))) ?_
 rintro e w' ⟨rfl, hS⟩
 refine ⟨_, rfl, ?_⟩
 replace hF := bd_s hF; obtain ⟨q1r, q2f, hF⟩ := hF
 refine p (yl_neq rfl rfl) <| p (yl_move rfl) <| pg (v := .agg #[.int .i64 f0.Rows, .int .i64 f0.Sites, .int .i64 f0.Layers, .slice q3 f0.Blocks.length c_f0_3, .slice q4 f0.Walls.length c_f0_4, .slice q5 f0.Ports.length c_f0_5]) 21 (c := !(decide (q1b ≠ 0))) (says_f _) (fun hq => ld_sub agg_30 rfl rfl rfl (hS.pull 1)) <| pg (v := .agg #[.int .i64 e_1.From, .int .i64 e_1.To]) 21 (c := !(decide (q1b ≠ 0))) (says_f _) (fun hq => ld_sub agg_53 rfl rfl rfl hS) <|
  pccg (v := .bool q1r) 21 (c := !(decide (q1b ≠ 0))) (says_f _) call_25 (fun hq => (args2 (cv hq) (cv hq))) hS (fun hq => by
   have hcall := c_global_isEdge (gd_t q2f hq) q0c q0d q0e (hS.pull 2)
   exact (Calls.mono hcall (fun e w'' h => And.intro h.1 ((h.2.pull 2).pull 2)))) (fun w' hS => ?_)
 replace hF := lv_s hF; obtain ⟨x26, hx26, hF⟩ := hF
 refine pg (v := .bool (!q1r)) 21 (c := !(decide (q1b ≠ 0))) (says_f _) (fun hq => Yl.at (yl_not (cv hq))) <| p (yor' rfl rfl (fun hc => (cv (t_not hc))) hx26) <| x_done <|
  x_cond (t := x26) rfl (fun hc26 => ?_) (fun hc26 => ?_)
 ·replace hF := it_t hc26 hF
  refine x_seq <| x_region <| p (yl_assign rfl) <| x_done <| ?_
  have e_ := sinj hF; subst e_
  exact x_return ⟨_, ⟨_, _, rfl, rfl, rfl⟩, rfl, hS.drop.drop⟩
 ·replace hF := it_bf hc26 hF
  replace hF := bd_s hF; obtain ⟨q1s, q2g, hF⟩ := hF
  refine x_skip <| x_seq <| x_region <| pa (v := .agg #[.int .i64 f0.Rows, .int .i64 f0.Sites, .int .i64 f0.Layers, .slice q3 f0.Blocks.length c_f0_3, .slice q4 f0.Walls.length c_f0_4, .slice q5 f0.Ports.length c_f0_5]) (ld_sub agg_30 rfl rfl rfl (hS.pull 1)) <| ?_
  have hcall := c_global_Grid q2g q0c q0d q0e (hS.pull 2)
  refine o_cc call_30 (args1 rfl) ((Calls.mono hcall (fun e w'' h => And.intro h.1 ((h.2.pull 2).pull 2)))) ?_
  rintro e w' ⟨rfl, hS⟩
  refine ⟨_, rfl, ?_⟩
  replace hF := bd_s hF; obtain ⟨q7, q2h, hF⟩ := hF
  refine p (v := .tuple #[.int .i64 q1s.1, .int .i64 q1s.2]) (yl_move rfl) <| p (yl_extract rfl rfl) <| p (yl_extract rfl rfl) <| p (yl_assign rfl) <|
   p (yl_assign rfl) <| x_done <| x_seq <| x_region <|
   pa (v := .agg #[.int .i64 f0.Rows, .int .i64 f0.Sites, .int .i64 f0.Layers, .slice q3 f0.Blocks.length c_f0_3, .slice q4 f0.Walls.length c_f0_4, .slice q5 f0.Ports.length c_f0_5]) (ld_sub agg_30 rfl rfl rfl (hS.pull 1)) <| ?_
  have hcall := c_floor_Size q2h q0c q0d q0e (hS.pull 2)
  refine o_cc call_5 (args1 rfl) ((Calls.mono hcall (fun e w'' h => And.intro h.1 ((h.2.pull 2).pull 2)))) ?_
  rintro e w' ⟨rfl, hS⟩
  refine ⟨_, rfl, ?_⟩
  replace hF := ck_s hF; obtain ⟨q2i, hF⟩ := hF
  replace hF := lv_s hF; obtain ⟨x40, hx40, hF⟩ := hF
  replace hF := ck_s hF; obtain ⟨q2j, hF⟩ := hF
  replace hF := ar_s hF; obtain ⟨x44, hx44, hF⟩ := hF
  refine p (v := .tuple #[.int .i64 q7.1, .int .i64 q7.2]) (yl_move rfl) <| p (yl_extract rfl rfl) <| p (yl_extract rfl rfl) <| p (yl_assign rfl) <|
   p (yl_assign rfl) <| x_done <| x_seq <| x_still mixed (by kernel_rfl) hS <|
   q (yl_field0 fld_53_0 rfl) <| qa (fun w' hS => at_load one_3 rfl (hS.cell rfl)) <| q (yl_move rfl) <| q (yrem rfl rfl q2i hx40) <|
   q (yl_field0 fld_53_0 rfl) <| qa (fun w' hS => at_load one_3 rfl (hS.cell rfl)) <| q (yl_move rfl) <| q (yquo rfl rfl q2j hx44) <|
   q (yl_assign rfl) <| q (yl_assign rfl) <|
   q_done fun w' hS => ?_
  refine x_seq <| x_region <| p (yl_assign rfl) <| x_done <|
   x_seq <| x_seq <| x_region <| p (yl_field0 fld_30_2 rfl) <|
   pa (at_load one_3 rfl ((hS.pull 1).cell rfl)) <| p (yl_move rfl) <| x_done <| ?_
  replace hF := bd_s hF; obtain ⟨oL8, hLL8, hF⟩ := hF
  refine x_join (fun E w => ∃ (q0z : Int), q0z = oL8 ∧ E 11 = .int .i64 q0z ∧ St w0 w (ro ρ :: l)) ?_ ?_
  ·refine x_block ?_
   refine x_loop (fun k_ E w => ∃ (q0h : Int) (q2 : Int), lp (P_global_Room_L8 f0 e_1 q7 x40 x44) k_ (q0h, q2) = some oL8 ∧ E 2 = .pointer (some ⟨b2, 0, none⟩) ∧ E 3 = .pointer (some ⟨b3, 0, none⟩) ∧ E 7 = .int .i64 q7.1 ∧ E 8 = .int .i64 q7.2 ∧ E 9 = .int .i64 x40 ∧ E 10 = .int .i64 x44 ∧ E 11 = .int .i64 q0h ∧ E 46 = .int .i64 f0.Layers ∧ E 47 = .int .i64 q2 ∧ St w0 w (cells b2 30 [.int .i64 f0.Rows, .int .i64 f0.Sites, .int .i64 f0.Layers, .slice q3 f0.Blocks.length c_f0_3, .slice q4 f0.Walls.length c_f0_4, .slice q5 f0.Ports.length c_f0_5] :: cells b3 53 [.int .i64 e_1.From, .int .i64 e_1.To] :: ro ρ :: l)) fuel ⟨0, 0, hLL8, rfl, rfl, rfl, rfl, rfl, rfl, rfl, rfl, rfl, (((hS.pull 2).pull 1).pull 2)⟩ ?_
   rintro kL8 E w ⟨q0h, q2, hLL8, q1t, q1u, q1v, q1w, q1x, q1h, q13, q14, q0s, hS⟩
   replace hLL8 := lp_s hLL8; obtain ⟨kL8, obL8, rfl, hFL8, hLL8⟩ := hLL8
   refine x_seq <| x_region <| p (yl_lss q0s q14) <| x_done <|
    x_seq <|
    x_cond_p (q2 < f0.Layers) rfl (fun hc48 => ?_) (fun hc48 => ?_)
   ·replace hFL8 := it_t hc48 hFL8
    refine x_skip <| x_seq <| x_block <| x_seq <|
     x_region <| p (yl_move q0s) <| p (yl_assign rfl) <| x_done <|
     x_seq <| x_region <| p (yl_move rfl) <| x_done <| ?_
    replace hFL8 := bd_s hFL8; obtain ⟨oL11, hLL11, hFL8⟩ := hFL8
    refine x_join (fun E w => ∃ (q0m : Int), q0m = oL11 ∧ E 2 = .pointer (some ⟨b2, 0, none⟩) ∧ E 3 = .pointer (some ⟨b3, 0, none⟩) ∧ E 7 = .int .i64 q7.1 ∧ E 8 = .int .i64 q7.2 ∧ E 9 = .int .i64 x40 ∧ E 10 = .int .i64 x44 ∧ E 11 = .int .i64 q0m ∧ E 46 = .int .i64 f0.Layers ∧ E 47 = .int .i64 q2 ∧ St w0 w (cells b2 30 [.int .i64 f0.Rows, .int .i64 f0.Sites, .int .i64 f0.Layers, .slice q3 f0.Blocks.length c_f0_3, .slice q4 f0.Walls.length c_f0_4, .slice q5 f0.Ports.length c_f0_5] :: cells b3 53 [.int .i64 e_1.From, .int .i64 e_1.To] :: ro ρ :: l)) ?_ ?_
    ·refine x_block ?_
     refine x_loop (fun k_ E w => ∃ (q8 : Int) (q9 : Int), lp (P_global_Room_L11 f0 e_1 q7 x40 x44 q2) k_ (q8, q9) = some oL11 ∧ E 2 = .pointer (some ⟨b2, 0, none⟩) ∧ E 3 = .pointer (some ⟨b3, 0, none⟩) ∧ E 7 = .int .i64 q7.1 ∧ E 8 = .int .i64 q7.2 ∧ E 9 = .int .i64 x40 ∧ E 10 = .int .i64 x44 ∧ E 11 = .int .i64 q8 ∧ E 12 = .int .i64 q2 ∧ E 46 = .int .i64 f0.Layers ∧ E 47 = .int .i64 q2 ∧ E 50 = .int .i64 q9 ∧ St w0 w (cells b2 30 [.int .i64 f0.Rows, .int .i64 f0.Sites, .int .i64 f0.Layers, .slice q3 f0.Blocks.length c_f0_3, .slice q4 f0.Walls.length c_f0_4, .slice q5 f0.Ports.length c_f0_5] :: cells b3 53 [.int .i64 e_1.From, .int .i64 e_1.To] :: ro ρ :: l)) fuel ⟨q0h, 0, hLL11, q1t, q1u, q1v, q1w, q1x, q1h, q13, rfl, q14, q0s, rfl, (((hS.pull 2).pull 2).pull 2)⟩ ?_
     rintro kL11 E w ⟨q8, q9, hLL11, q0t, q0i, q0u, q0v, q0j, q0f, q0n, q10, q0o, q0p, q0l, hS⟩
     replace hLL11 := lp_s hLL11; obtain ⟨kL11, obL11, rfl, hFL11, hLL11⟩ := hLL11
     refine x_seq <| x_region <| p (yl_lss q0l rfl) <| x_done <|
      x_seq <|
      x_cond_p (q9 < 8) rfl (fun hc51 => ?_) (fun hc51 => ?_)
     ·replace hFL11 := it_t hc51 hFL11
      refine x_skip <| x_seq <| ?_
      replace hFL11 := bd_s hFL11; obtain ⟨ob3, hFb3, hFL11⟩ := hFL11
      refine x_join (fun E w => ∃ (q0q : Int), q0q = ob3 ∧ E 2 = .pointer (some ⟨b2, 0, none⟩) ∧ E 3 = .pointer (some ⟨b3, 0, none⟩) ∧ E 7 = .int .i64 q7.1 ∧ E 8 = .int .i64 q7.2 ∧ E 9 = .int .i64 x40 ∧ E 10 = .int .i64 x44 ∧ E 11 = .int .i64 q0q ∧ E 12 = .int .i64 q2 ∧ E 46 = .int .i64 f0.Layers ∧ E 47 = .int .i64 q2 ∧ E 50 = .int .i64 q9 ∧ St w0 w (cells b2 30 [.int .i64 f0.Rows, .int .i64 f0.Sites, .int .i64 f0.Layers, .slice q3 f0.Blocks.length c_f0_3, .slice q4 f0.Walls.length c_f0_4, .slice q5 f0.Ports.length c_f0_5] :: cells b3 53 [.int .i64 e_1.From, .int .i64 e_1.To] :: ro ρ :: l)) ?_ ?_
      ·replace hFb3 := ar_s hFb3; obtain ⟨x54, hx54, hFb3⟩ := hFb3
       replace hFb3 := ar_s hFb3; obtain ⟨x55, hx55, hFb3⟩ := hFb3
       replace hFb3 := ar_s hFb3; obtain ⟨x56, hx56, hFb3⟩ := hFb3
       replace hFb3 := ar_s hFb3; obtain ⟨x58, hx58, hFb3⟩ := hFb3
       replace hFb3 := ar_s hFb3; obtain ⟨x60, hx60, hFb3⟩ := hFb3
       replace hFb3 := ar_s hFb3; obtain ⟨x65, hx65, hFb3⟩ := hFb3
       refine x_block <| x_seq <| x_region <| p (yl_move q0l) <|
        p (yl_assign rfl) <| x_done <| x_seq <| x_region <|
        p (yl_move q0j) <| p (ymul rfl rfl hx54) <| p (yadd rfl rfl hx55) <| p (ysub rfl rfl hx56) <|
        p (yl_move q0f) <| p (ymul rfl rfl hx58) <| p (yl_move rfl) <| p (yadd rfl rfl hx60) <|
        p (yl_assign rfl) <| p (yl_assign rfl) <| p (yl_assign rfl) <| p (yl_assign rfl) <|
        x_done <| x_seq <| x_seq <| x_region <|
        p (yl_field0 fld_53_1 q0i) <| pa (at_load one_3 rfl ((hS.pull 1).cell rfl)) <| p (yl_field0 fld_53_0 q0i) <| pa (at_load one_3 rfl ((hS.pull 1).cell rfl)) <|
        p (yadd rfl rfl hx65) <| p (yl_neq rfl rfl) <| x_done <| ?_
       replace hFb3 := bd_s hFb3; obtain ⟨oc66, hFc66, hFb3⟩ := hFb3
       refine x_join (fun E w => ∃ (q0a : Int) (q0b : Int) (q0g : Int) (q6 : Int), (q0a, q0b, q0g, q6) = oc66 ∧ E 2 = .pointer (some ⟨b2, 0, none⟩) ∧ E 3 = .pointer (some ⟨b3, 0, none⟩) ∧ E 7 = .int .i64 q7.1 ∧ E 8 = .int .i64 q7.2 ∧ E 9 = .int .i64 x40 ∧ E 10 = .int .i64 x44 ∧ E 11 = .int .i64 q8 ∧ E 12 = .int .i64 q2 ∧ E 14 = .int .i64 q0a ∧ E 15 = .int .i64 q0b ∧ E 16 = .int .i64 q0g ∧ E 17 = .int .i64 q6 ∧ E 46 = .int .i64 f0.Layers ∧ E 47 = .int .i64 q2 ∧ E 50 = .int .i64 q9 ∧ St w0 w (cells b2 30 [.int .i64 f0.Rows, .int .i64 f0.Sites, .int .i64 f0.Layers, .slice q3 f0.Blocks.length c_f0_3, .slice q4 f0.Walls.length c_f0_4, .slice q5 f0.Ports.length c_f0_5] :: cells b3 53 [.int .i64 e_1.From, .int .i64 e_1.To] :: ro ρ :: l)) ?_ ?_
       ·refine x_cond_p (e_1.To ≠ x65) rfl (fun hc66 => ?_) (fun hc66 => ?_)
        ·replace hFc66 := it_t hc66 hFc66
         replace hFc66 := ar_s hFc66; obtain ⟨x68, hx68, hFc66⟩ := hFc66
         replace hFc66 := ar_s hFc66; obtain ⟨x70, hx70, hFc66⟩ := hFc66
         replace hFc66 := ar_s hFc66; obtain ⟨x72, hx72, hFc66⟩ := hFc66
         replace hFc66 := ar_s hFc66; obtain ⟨x73, hx73, hFc66⟩ := hFc66
         replace hFc66 := ar_s hFc66; obtain ⟨x74, hx74, hFc66⟩ := hFc66
         refine x_region <| p (yl_move q0j) <| p (ymul rfl rfl hx68) <| p (yl_move rfl) <|
          p (yadd rfl rfl hx70) <| p (yl_move q0f) <| p (ymul rfl rfl hx72) <| p (yadd rfl rfl hx73) <|
          p (ysub rfl rfl hx74) <| p (yl_assign rfl) <| p (yl_assign rfl) <| p (yl_assign rfl) <|
          p (yl_assign rfl) <| x_done <| ?_
         exact x_inv ⟨x70, x74, 0, 1, (sinj hFc66), q0t, q0i, q0u, q0v, q0j, q0f, q0n, q10, rfl, rfl, rfl, rfl, q0o, q0p, q0l, (((hS.pull 2).pull 2).pull 2)⟩
        ·replace hFc66 := it_f hc66 hFc66
         refine x_skip <| ?_
         exact x_inv ⟨x56, x60, 1, 0, (sinj hFc66), q0t, q0i, q0u, q0v, q0j, q0f, q0n, q10, rfl, rfl, rfl, rfl, q0o, q0p, q0l, (((hS.pull 2).pull 2).pull 2)⟩
       rintro E w ⟨q0a, q0b, q0g, q6, rfl, q0r, q1f, q11, q12, q1g, q15, q16, q0k, q0w, q0x, q17, q0y, q18, q19, q1a, hS⟩
       replace hFb3 := ck_s hFb3; obtain ⟨q1y, hFb3⟩ := hFb3
       replace hFb3 := lv_s hFb3; obtain ⟨x76, hx76, hFb3⟩ := hFb3
       replace hFb3 := ck_s hFb3; obtain ⟨q1z, hFb3⟩ := hFb3
       replace hFb3 := lv_s hFb3; obtain ⟨x82, hx82, hFb3⟩ := hFb3
       replace hFb3 := lv_s hFb3; obtain ⟨x85, hx85, hFb3⟩ := hFb3
       replace hFb3 := ck_s hFb3; obtain ⟨q1i, hFb3⟩ := hFb3
       replace hFb3 := lv_s hFb3; obtain ⟨x89, hx89, hFb3⟩ := hFb3
       replace hFb3 := lv_s hFb3; obtain ⟨x92, hx92, hFb3⟩ := hFb3
       replace hFb3 := bd_s hFb3; obtain ⟨q20, q1j, hFb3⟩ := hFb3
       refine x_seq <| x_seq <| x_region <| p (yl_move q0k) <|
        p (yrem rfl rfl q1y hx76) <| p (yl_move q0y) <| p (yl_neq rfl rfl) <| p (yl_move rfl) <|
        pg (v := .int .i64 q0a) 79 (c := !(decide (x76 ≠ q6))) (says_f _) (fun hq => Yl.at (yl_move q0w)) <| pg (v := .int .i64 q0g) 79 (c := !(decide (x76 ≠ q6))) (says_f _) (fun hq => Yl.at (yl_move q17)) <| pg (v := .int .i64 x82) 79 (c := !(decide (x76 ≠ q6))) (says_f _) (fun hq => Yl.at (yadd (cv hq) (cv hq) ⟨hx82, (q1z hq)⟩)) <| pg (v := .int .i64 q7.1) 79 (c := !(decide (x76 ≠ q6))) (says_f _) (fun hq => Yl.at (yl_move q11)) <|
        pg (v := .bool (decide (q7.1 ≤ x82))) 79 (c := !(decide (x76 ≠ q6))) (says_f _) (fun hq => Yl.at (yl_geq (cv hq) (cv hq))) <| p (yor' rfl rfl (fun hc => (cv (t_not hc))) hx85) <| p (yl_move rfl) <| pg (v := .int .i64 q0b) 86 (c := !x85) (says_f _) (fun hq => Yl.at (yl_move q0x)) <|
        pg (v := .int .i64 q6) 86 (c := !x85) (says_f _) (fun hq => Yl.at (yl_move q0y)) <| pg (v := .int .i64 x89) 86 (c := !x85) (says_f _) (fun hq => Yl.at (yadd (cv hq) (cv hq) ⟨hx89, (q1i hq)⟩)) <| pg (v := .int .i64 q7.2) 86 (c := !x85) (says_f _) (fun hq => Yl.at (yl_move q12)) <| pg (v := .bool (decide (q7.2 ≤ x89))) 86 (c := !x85) (says_f _) (fun hq => Yl.at (yl_geq (cv hq) (cv hq))) <|
        p (yor' rfl rfl (fun hc => (cv (t_not hc))) hx92) <| p (yl_move rfl) <| pg (v := .agg #[.int .i64 f0.Rows, .int .i64 f0.Sites, .int .i64 f0.Layers, .slice q3 f0.Blocks.length c_f0_3, .slice q4 f0.Walls.length c_f0_4, .slice q5 f0.Ports.length c_f0_5]) 93 (c := !x92) (says_f _) (fun hq => ld_sub agg_30 q0r rfl rfl hS) <| pg (v := .int .i64 q2) 93 (c := !x92) (says_f _) (fun hq => Yl.at (yl_move q0k)) <|
        pg (v := .int .i64 q0a) 93 (c := !x92) (says_f _) (fun hq => Yl.at (yl_move q0w)) <| pg (v := .int .i64 q0b) 93 (c := !x92) (says_f _) (fun hq => Yl.at (yl_move q0x)) <|
        pccg (v := .bool q20) 93 (c := !x92) (says_f _) call_31 (fun hq => (args4 (cv hq) (cv hq) (cv hq) (cv hq))) hS (fun hq => by
         have hcall := c_global_walled (gd_t q1j hq) q0c q0d q0e (hS.pull 2)
         exact (Calls.mono hcall (fun e w'' h => And.intro h.1 ((h.2.pull 2).pull 2)))) (fun w' hS => ?_)
       replace hFb3 := lv_s hFb3; obtain ⟨x99, hx99, hFb3⟩ := hFb3
       replace hFb3 := ck_s hFb3; obtain ⟨q1k, hFb3⟩ := hFb3
       replace hFb3 := lv_s hFb3; obtain ⟨x105, hx105, hFb3⟩ := hFb3
       replace hFb3 := ck_s hFb3; obtain ⟨q1l, hFb3⟩ := hFb3
       replace hFb3 := lv_s hFb3; obtain ⟨x108, hx108, hFb3⟩ := hFb3
       replace hFb3 := bd_s hFb3; obtain ⟨q21, q1m, hFb3⟩ := hFb3
       refine p (yor' rfl rfl (fun hc => (cv (t_not hc))) hx99) <| p (yl_move rfl) <| pg (v := .agg #[.int .i64 f0.Rows, .int .i64 f0.Sites, .int .i64 f0.Layers, .slice q3 f0.Blocks.length c_f0_3, .slice q4 f0.Walls.length c_f0_4, .slice q5 f0.Ports.length c_f0_5]) 100 (c := !x99) (says_f _) (fun hq => ld_sub agg_30 q0r rfl rfl hS) <| pg (v := .int .i64 q2) 100 (c := !x99) (says_f _) (fun hq => Yl.at (yl_move q0k)) <|
        pg (v := .int .i64 q0a) 100 (c := !x99) (says_f _) (fun hq => Yl.at (yl_move q0w)) <| pg (v := .int .i64 q0g) 100 (c := !x99) (says_f _) (fun hq => Yl.at (yl_move q17)) <| pg (v := .int .i64 x105) 100 (c := !x99) (says_f _) (fun hq => Yl.at (yadd (cv hq) (cv hq) ⟨hx105, (q1k hq)⟩)) <| pg (v := .int .i64 q0b) 100 (c := !x99) (says_f _) (fun hq => Yl.at (yl_move q0x)) <|
        pg (v := .int .i64 q6) 100 (c := !x99) (says_f _) (fun hq => Yl.at (yl_move q0y)) <| pg (v := .int .i64 x108) 100 (c := !x99) (says_f _) (fun hq => Yl.at (yadd (cv hq) (cv hq) ⟨hx108, (q1l hq)⟩)) <|
        pccg (v := .bool q21) 100 (c := !x99) (says_f _) call_31 (fun hq => (args4 (cv hq) (cv hq) (cv hq) (cv hq))) hS (fun hq => by
         have hcall := c_global_walled (gd_t q1m hq) q0c q0d q0e (hS.pull 2)
         exact (Calls.mono hcall (fun e w'' h => And.intro h.1 ((h.2.pull 2).pull 2)))) (fun w' hS => ?_)
       replace hFb3 := lv_s hFb3; obtain ⟨x110, hx110, hFb3⟩ := hFb3
       refine p (yor' rfl rfl (fun hc => (cv (t_not hc))) hx110) <| x_done <|
        x_cond (t := x110) rfl (fun hc110 => ?_) (fun hc110 => ?_)
       ·replace hFb3 := it_t hc110 hFb3
        refine x_exitTo _ rfl <| ?_
        exact x_inv ⟨q8, (sinj hFb3), q0r, q1f, q11, q12, q1g, q15, q16, q0k, q18, q19, q1a, (((hS.pull 2).pull 2).pull 2)⟩
       ·replace hFb3 := it_bf hc110 hFb3
        replace hFb3 := ar_s hFb3; obtain ⟨x112, hx112, hFb3⟩ := hFb3
        refine x_skip <| x_region <| p (yl_move q16) <| p (yadd rfl rfl hx112) <|
         p (yl_assign rfl) <| x_done <| x_blk <| ?_
        exact x_inv ⟨x112, (sinj hFb3), q0r, q1f, q11, q12, q1g, q15, rfl, q0k, q18, q19, q1a, (((hS.pull 2).pull 2).pull 2)⟩
      rintro E w ⟨q0q, rfl, q2k, q2l, q2m, q2n, q2o, q22, q23, q24, q25, q26, q27, hS⟩
      replace hFL11 := ar_s hFL11; obtain ⟨x113, hx113, hFL11⟩ := hFL11
      refine x_region <| p (yadd q27 rfl hx113) <| p (yl_move rfl) <| x_done <| ?_
      have e_ := sinj hFL11; subst e_
      exact x_inv ⟨kL11, Nat.lt_succ_self _, q0q, x113, hLL11, q2k, q2l, q2m, q2n, q2o, q22, q23, q24, q25, q26, rfl, (((hS.pull 2).pull 2).pull 2)⟩
     ·replace hFL11 := it_f hc51 hFL11
      refine x_exitTo _ rfl <| ?_
      have e_ := sinj hFL11; subst e_
      exact x_inv ⟨q8, hLL11, q0t, q0i, q0u, q0v, q0j, q0f, q0n, q0o, q0p, (((hS.pull 2).pull 2).pull 2)⟩
    rintro E w ⟨q0m, rfl, q28, q29, q2a, q2b, q2c, q1n, q1o, q1p, q1q, hS⟩
    replace hFL8 := ar_s hFL8; obtain ⟨x114, hx114, hFL8⟩ := hFL8
    refine x_blk <| x_region <| p (yadd q1q rfl hx114) <| p (yl_move rfl) <|
     x_done <| ?_
    have e_ := sinj hFL8; subst e_
    exact x_inv ⟨kL8, Nat.lt_succ_self _, q0m, x114, hLL8, q28, q29, q2a, q2b, q2c, q1n, q1o, q1p, rfl, (((hS.pull 2).pull 2).pull 2)⟩
   ·replace hFL8 := it_f hc48 hFL8
    refine x_exitTo _ rfl <| ?_
    have e_ := sinj hFL8; subst e_
    exact x_inv ⟨q0h, hLL8, q13, hS.drop.drop⟩
  rintro E w ⟨q0z, rfl, q2d, hS⟩
  refine x_seq <| x_region <| p (yl_move q2d) <| p (yl_assign rfl) <|
   x_done <| ?_
  have e_ := sinj hF; subst e_
  exact x_return ⟨_, ⟨_, _, rfl, rfl, rfl⟩, rfl, hS⟩
attribute [irreducible] P_global_Room


end Go.Proofs.YtgmjhlpjlggpiaaDoor.X
