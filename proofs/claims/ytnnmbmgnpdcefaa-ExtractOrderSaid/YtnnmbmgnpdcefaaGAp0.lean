/- Printed by gen.py: plain functions, and that the Go code computes them. -/
import Derived.Test.YtnnmbmgnpdcefaaYJ
import Derived.Test.YtnnmbmgnpdcefaaXL
import Derived.Test.YtnnmbmgnpdcefaaYU
import Derived.Test.YtnnmbmgnpdcefaaXT
namespace Go.Proofs.Ytnnmbmgnpdcefaa.X
set_option maxHeartbeats 4000000
set_option maxRecDepth 100000
open Go Go.RowKit
set_option linter.unusedVariables false
set_option linter.unusedSimpArgs false

structure T_maskmake_Stream where
 L : List Int
 fat : Int
 deriving DecidableEq, Inhabited
structure T_rules_Wire where
 Net : Int
 Layer : Int
 X0 : Int
 Y0 : Int
 X1 : Int
 Y1 : Int
 deriving DecidableEq, Inhabited
def R_rules_Wire : Rp T_rules_Wire where
 sz := 6
 ok _ cs x := cs = [.int .i64 x.Net, .int .i64 x.Layer, .int .i64 x.X0, .int .i64 x.Y0, .int .i64 x.X1, .int .i64 x.Y1]
 pos := by decide
 len := by rintro ρ cs x rfl; rfl
 le := by rintro ρ ρ' cs x rfl hle; rfl
 one := by rintro ρ cs x rfl v hv; exact allOne_spec rfl v hv
structure T_rules_Pin where
 Net : Int
 X : Int
 Y : Int
 Drive : Bool
 Size : Int
 deriving DecidableEq, Inhabited
def R_rules_Pin : Rp T_rules_Pin where
 sz := 5
 ok _ cs x := cs = [.int .i64 x.Net, .int .i64 x.X, .int .i64 x.Y, .bool x.Drive, .int .i64 x.Size]
 pos := by decide
 len := by rintro ρ cs x rfl; rfl
 le := by rintro ρ ρ' cs x rfl hle; rfl
 one := by rintro ρ cs x rfl v hv; exact allOne_spec rfl v hv
structure T_rules_Via where
 Net : Int
 Layer : Int
 X : Int
 Y : Int
 deriving DecidableEq, Inhabited
def R_rules_Via : Rp T_rules_Via where
 sz := 4
 ok _ cs x := cs = [.int .i64 x.Net, .int .i64 x.Layer, .int .i64 x.X, .int .i64 x.Y]
 pos := by decide
 len := by rintro ρ cs x rfl; rfl
 le := by rintro ρ ρ' cs x rfl hle; rfl
 one := by rintro ρ cs x rfl v hv; exact allOne_spec rfl v hv
structure T_floor_Wall where
 Layer : Int
 X0 : Int
 Y0 : Int
 X1 : Int
 Y1 : Int
 deriving DecidableEq, Inhabited
def R_floor_Wall : Rp T_floor_Wall where
 sz := 5
 ok _ cs x := cs = [.int .i64 x.Layer, .int .i64 x.X0, .int .i64 x.Y0, .int .i64 x.X1, .int .i64 x.Y1]
 pos := by decide
 len := by rintro ρ cs x rfl; rfl
 le := by rintro ρ ρ' cs x rfl hle; rfl
 one := by rintro ρ cs x rfl v hv; exact allOne_spec rfl v hv
structure T_rules_Layout where
 W : Int
 H : Int
 Layers : Int
 Nets : Int
 Wires : List T_rules_Wire
 Vias : List T_rules_Via
 Pins : List T_rules_Pin
 Walls : List T_floor_Wall
 deriving DecidableEq, Inhabited
structure T_rules_Spot where
 Layer : Int
 X : Int
 Y : Int
 deriving DecidableEq, Inhabited
def kf_61 (x : T_rules_Spot) : Value := .agg #[.int .i64 x.Layer, .int .i64 x.X, .int .i64 x.Y]
theorem kp_61 : KeyP Try.prog 61 kf_61 := KeyP.ints (fun x => [x.Layer, x.X, x.Y]) (by kernel_rfl : intsB Try.prog 9 61 = some (true, 3)) ⟨Try.prog.fieldsOf 61, by kernel_rfl⟩ (fun _ => rfl) (fun _ => rfl) (fun a b h => by
 obtain ⟨a1, a2, a3⟩ := a
 obtain ⟨b1, b2, b3⟩ := b
 simp only [List.cons.injEq, and_true] at h
 obtain ⟨rfl, rfl, rfl⟩ := h
 rfl)

structure T_extract_step where
 fa : T_rules_Spot
 fb : T_rules_Spot
 deriving DecidableEq, Inhabited
def R_extract_step : Rp T_extract_step where
 sz := 6
 ok _ cs x := cs = [.int .i64 x.fa.Layer, .int .i64 x.fa.X, .int .i64 x.fa.Y, .int .i64 x.fb.Layer, .int .i64 x.fb.X, .int .i64 x.fb.Y]
 pos := by decide
 len := by rintro ρ cs x rfl; rfl
 le := by rintro ρ ρ' cs x rfl hle; rfl
 one := by rintro ρ cs x rfl v hv; exact allOne_spec rfl v hv
def kf_94 (x : T_extract_step) : Value := .agg #[.int .i64 x.fa.Layer, .int .i64 x.fa.X, .int .i64 x.fa.Y, .int .i64 x.fb.Layer, .int .i64 x.fb.X, .int .i64 x.fb.Y]
theorem kp_94 : KeyP Try.prog 94 kf_94 := KeyP.ints (fun x => [x.fa.Layer, x.fa.X, x.fa.Y, x.fb.Layer, x.fb.X, x.fb.Y]) (by kernel_rfl : intsB Try.prog 9 94 = some (true, 6)) ⟨Try.prog.fieldsOf 94, by kernel_rfl⟩ (fun _ => rfl) (fun _ => rfl) (fun a b h => by
 obtain ⟨⟨a1, a2, a3⟩, ⟨a4, a5, a6⟩⟩ := a
 obtain ⟨⟨b1, b2, b3⟩, ⟨b4, b5, b6⟩⟩ := b
 simp only [List.cons.injEq, and_true] at h
 obtain ⟨rfl, rfl, rfl, rfl, rfl, rfl⟩ := h
 rfl)

structure T_extract_Net where
 Cap : Int
 Near : Int
 Res : Int
 deriving DecidableEq, Inhabited
structure T_extract_visit where
 fat : T_rules_Spot
 fup : T_rules_Spot
 fres : Int
 deriving DecidableEq, Inhabited
def R_extract_visit : Rp T_extract_visit where
 sz := 7
 ok _ cs x := cs = [.int .i64 x.fat.Layer, .int .i64 x.fat.X, .int .i64 x.fat.Y, .int .i64 x.fup.Layer, .int .i64 x.fup.X, .int .i64 x.fup.Y, .int .i64 x.fres]
 pos := by decide
 len := by rintro ρ cs x rfl; rfl
 le := by rintro ρ ρ' cs x rfl hle; rfl
 one := by rintro ρ cs x rfl v hv; exact allOne_spec rfl v hv
def P_maskmake_Below (x0 : Int) (n1 : Int) : Option Int :=
 if n1 < 1 then
  some (0 : Int)
 else
  ck (n1 ≠ 0) <|
  lv (Int.tmod x0 n1) fun x9 =>
  bd (
   if x9 < 0 then
    ar (x9 + n1) fun x14 =>
    some x14
   else
    some x9) fun q2 =>
  some q2
theorem c_maskmake_Below {w0 w : World} {l : List Assn} {ρ : Heap} {x0 : Int} {n1 : Int} {r : Int} (hF : P_maskmake_Below x0 n1 = some r) (hS : St w0 w (ro ρ :: l)) :
  Calls Try.prog 26 #[.int .i64 x0, .int .i64 n1] w fun e w' => e = .returned (.int .i64 r) ∧ St w0 w' (ro ρ :: l) := by
 refine enterC Try.func26 rfl 16 rfl (by simp) ?_
 refine x_seq <| x_region <| p (yl_assign rfl) <| x_done <|
  x_seq <| x_seq <| x_region <| p (yl_move rfl) <|
  p (yl_lss rfl rfl) <| x_done <|
  x_cond_p (n1 < 1) rfl (fun hc6 => ?_) (fun hc6 => ?_)
 ·replace hF := it_t hc6 hF
  refine x_seq <| x_region <| p (yl_assign rfl) <| x_done <| ?_
  have e_ := sinj hF; subst e_
  exact x_return ⟨_, ⟨_, _, rfl, rfl, rfl⟩, rfl, hS⟩
 ·replace hF := it_f hc6 hF
  replace hF := ck_s hF; obtain ⟨q4, hF⟩ := hF
  replace hF := lv_s hF; obtain ⟨x9, hx9, hF⟩ := hF
  refine x_skip <| x_seq <| x_region <| p (yl_move rfl) <|
   p (yl_move rfl) <| p (yrem rfl rfl q4 hx9) <| p (yl_assign rfl) <| x_done <|
   x_seq <| x_seq <| x_region <| p (yl_move rfl) <|
   p (yl_lss rfl rfl) <| x_done <| ?_
  replace hF := bd_s hF; obtain ⟨oc11, hFc11, hF⟩ := hF
  refine x_join (fun E w => ∃ (q2 : Int), q2 = oc11 ∧ E 0 = .int .i64 q2 ∧ St w0 w (ro ρ :: l)) ?_ ?_
  ·refine x_cond_p (x9 < 0) rfl (fun hc11 => ?_) (fun hc11 => ?_)
   ·replace hFc11 := it_t hc11 hFc11
    replace hFc11 := ar_s hFc11; obtain ⟨x14, hx14, hFc11⟩ := hFc11
    refine x_region <| p (yl_move rfl) <| p (yl_move rfl) <| p (yadd rfl rfl hx14) <|
     p (yl_assign rfl) <| x_done <| ?_
    exact x_inv ⟨x14, (sinj hFc11), rfl, hS⟩
   ·replace hFc11 := it_f hc11 hFc11
    refine x_skip <| ?_
    exact x_inv ⟨x9, (sinj hFc11), rfl, hS⟩
  rintro E w ⟨q2, rfl, q3, hS⟩
  refine x_seq <| x_region <| p (yl_move q3) <| p (yl_assign rfl) <|
   x_done <| ?_
  have e_ := sinj hF; subst e_
  exact x_return ⟨_, ⟨_, _, rfl, rfl, rfl⟩, rfl, hS⟩
attribute [irreducible] P_maskmake_Below

def P_maskmake_Stream_Next (s0 : T_maskmake_Stream) (n1 : Int) : Option (Int × Int) :=
 ar (s0.fat + 1) fun x11 =>
 if (s0.L.length : Int) = 0 then
  ar (x11 * 7919) fun x24 =>
  bd (P_maskmake_Below x24 n1) fun q3 =>
  some (q3, x11)
 else
  ar (x11 - 1) fun x31 =>
  ck ((s0.L.length : Int) ≠ 0) <|
  lv (Int.tmod x31 (s0.L.length : Int)) fun x37 =>
  ar (x11 - 1) fun x42 =>
  ck ((s0.L.length : Int) ≠ 0) <|
  ar (Int.tdiv x42 (s0.L.length : Int)) fun x48 =>
  ck (inb x37 s0.L.length) <|
  lv (gt s0.L x37) fun x55 =>
  bd (P_maskmake_Below x55 1073741824) fun q4 =>
  ar ((7919 : Int) + x37) fun x59 =>
  ar (x48 * x59) fun x60 =>
  ar (q4 + x60) fun x61 =>
  bd (P_maskmake_Below x61 n1) fun q2 =>
  some (q2, x11)
theorem c_maskmake_Stream_Next {w0 w : World} {l : List Assn} {ρ : Heap} {q5 : Nat} {q2 : Option Addr} {q3 : Nat} {c_s0_0 : Nat} {s0 : T_maskmake_Stream} {n1 : Int} {r : (Int × Int)} (hF : P_maskmake_Stream_Next s0 n1 = some r) (q4 : RdS (RpI .i64) ρ q2 q3 c_s0_0 s0.L) (hS : St w0 w (cells q5 25 [.slice q2 q3 c_s0_0, .int .i64 s0.fat] :: ro ρ :: l)) :
  Calls Try.prog 9 #[.pointer (some ⟨q5, 0, none⟩), .int .i64 n1] w fun e w' => e = .returned (.int .i64 r.1) ∧ St w0 w' (cells q5 25 [.slice q2 q3 c_s0_0, .int .i64 r.2] :: ro ρ :: l) := by
 have e_ := q4.n; subst e_
 refine enterC Try.func9 rfl 64 rfl (by simp) ?_
 replace hF := ar_s hF; obtain ⟨x11, hx11, hF⟩ := hF
 refine x_seq <| x_region <| p (yl_assign rfl) <| x_done <|
  x_seq <| x_region <| p (yl_move rfl) <| p (yl_nilCheck rfl) <|
  p (yl_field0 fld_25_1 rfl) <| pa (at_load one_3 rfl (hS.cell rfl)) <| p (yadd rfl rfl hx11) <| p (yl_nilCheck rfl) <|
  p (yl_field0 fld_25_1 rfl) <| ?_
 refine o_store1 (v := .int .i64 x11) one_3 rfl rfl rfl rfl hS (fun w' hS => ?_)
 refine x_done <| x_seq <| x_seq <| x_region <|
  p (yl_move rfl) <| p (yl_nilCheck rfl) <| p (yl_field0 fld_25_0 rfl) <| pa (at_load one_22 rfl (hS.cell rfl)) <|
  p (yl_len_slice usl_22 rfl) <| p (yl_eql rfl rfl) <| x_done <|
  x_cond_p ((s0.L.length : Int) = 0) rfl (fun hc19 => ?_) (fun hc19 => ?_)
 ·replace hF := it_t hc19 hF
  replace hF := ar_s hF; obtain ⟨x24, hx24, hF⟩ := hF
  replace hF := bd_s hF; obtain ⟨q0d, q0a, hF⟩ := hF
  refine x_seq <| x_region <| p (yl_move rfl) <| p (yl_nilCheck rfl) <|
   p (yl_field0 fld_25_1 rfl) <| pa (at_load one_3 rfl (hS.cell rfl)) <| p (ymul rfl rfl hx24) <| p (yl_move rfl) <| ?_
  have hcall := c_maskmake_Below q0a  (hS.pull 1)
  refine o_cc call_26 (args2 rfl rfl) ((Calls.mono hcall (fun e w'' h => And.intro h.1 (h.2.pull 1)))) ?_
  rintro e w' ⟨rfl, hS⟩
  refine ⟨_, rfl, ?_⟩
  refine p (v := .int .i64 q0d) (yl_assign rfl) <| x_done <| ?_
  have e_ := sinj hF; subst e_
  exact x_return ⟨_, ⟨_, _, rfl, rfl, rfl⟩, rfl, ((hS.pull 1).pull 1)⟩
 ·replace hF := it_f hc19 hF
  replace hF := ar_s hF; obtain ⟨x31, hx31, hF⟩ := hF
  replace hF := ck_s hF; obtain ⟨q7, hF⟩ := hF
  replace hF := lv_s hF; obtain ⟨x37, hx37, hF⟩ := hF
  refine x_skip <| x_seq <| x_still mixed (by kernel_rfl) hS <| q (yl_move rfl) <|
   q (yl_nilCheck rfl) <| q (yl_field0 fld_25_1 rfl) <| qa (fun w' hS => at_load one_3 rfl (hS.cell rfl)) <| q (ysub rfl rfl hx31) <|
   q (yl_move rfl) <| q (yl_nilCheck rfl) <| q (yl_field0 fld_25_0 rfl) <| qa (fun w' hS => at_load one_22 rfl (hS.cell rfl)) <|
   q (yl_len_slice usl_22 rfl) <| q (yrem rfl rfl q7 hx37) <| q (yl_assign rfl) <|
   q_done fun w' hS => ?_
  replace hF := ar_s hF; obtain ⟨x42, hx42, hF⟩ := hF
  replace hF := ck_s hF; obtain ⟨q8, hF⟩ := hF
  replace hF := ar_s hF; obtain ⟨x48, hx48, hF⟩ := hF
  refine x_seq <| x_still mixed (by kernel_rfl) hS <| q (yl_move rfl) <| q (yl_nilCheck rfl) <|
   q (yl_field0 fld_25_1 rfl) <| qa (fun w' hS => at_load one_3 rfl (hS.cell rfl)) <| q (ysub rfl rfl hx42) <| q (yl_move rfl) <|
   q (yl_nilCheck rfl) <| q (yl_field0 fld_25_0 rfl) <| qa (fun w' hS => at_load one_22 rfl (hS.cell rfl)) <| q (yl_len_slice usl_22 rfl) <|
   q (yquo rfl rfl q8 hx48) <| q (yl_assign rfl) <|
   q_done fun w' hS => ?_
  replace hF := ck_s hF; obtain ⟨q6, hF⟩ := hF
  replace hF := lv_s hF; obtain ⟨x55, hx55, hF⟩ := hF
  replace hF := bd_s hF; obtain ⟨q0e, q0b, hF⟩ := hF
  refine x_seq <| x_region <| p (yl_move rfl) <| p (yl_nilCheck rfl) <|
   p (yl_field0 fld_25_0 rfl) <| pa (at_load one_22 rfl (hS.cell rfl)) <| p (yl_move rfl) <| p (yix_f sl_22 rfl rfl q4 q6) <|
   pa (at_load one_3 rfl (RdS.getW q4 (hS.pull 1) q6 hx55)) <| ?_
  have hcall := c_maskmake_Below q0b  (hS.pull 1)
  refine o_cc call_26 (args2 rfl rfl) ((Calls.mono hcall (fun e w'' h => And.intro h.1 (h.2.pull 1)))) ?_
  rintro e w' ⟨rfl, hS⟩
  refine ⟨_, rfl, ?_⟩
  replace hF := ar_s hF; obtain ⟨x59, hx59, hF⟩ := hF
  replace hF := ar_s hF; obtain ⟨x60, hx60, hF⟩ := hF
  replace hF := ar_s hF; obtain ⟨x61, hx61, hF⟩ := hF
  replace hF := bd_s hF; obtain ⟨q0c, q9, hF⟩ := hF
  refine p (yl_move rfl) <| p (yl_move rfl) <| p (yadd rfl rfl hx59) <| p (ymul rfl rfl hx60) <|
   p (yadd rfl rfl hx61) <| p (yl_move rfl) <| ?_
  have hcall := c_maskmake_Below q9  (hS.pull 1)
  refine o_cc call_26 (args2 rfl rfl) ((Calls.mono hcall (fun e w'' h => And.intro h.1 (h.2.pull 1)))) ?_
  rintro e w' ⟨rfl, hS⟩
  refine ⟨_, rfl, ?_⟩
  refine p (v := .int .i64 q0c) (yl_assign rfl) <| x_done <| ?_
  have e_ := sinj hF; subst e_
  exact x_return ⟨_, ⟨_, _, rfl, rfl, rfl⟩, rfl, ((hS.pull 1).pull 1)⟩
attribute [irreducible] P_maskmake_Stream_Next

def P_maskmake_Stream_Range (s0 : T_maskmake_Stream) (low1 : Int) (high2 : Int) : Option (Int × Int) :=
 if high2 < low1 then
  some (low1, s0.fat)
 else
  ar (high2 - low1) fun x15 =>
  ar (x15 + 1) fun x16 =>
  bd (P_maskmake_Stream_Next s0 x16) fun q2 =>
  ar (low1 + q2.1) fun x18 =>
  some (x18, q2.2)
theorem c_maskmake_Stream_Range {w0 w : World} {l : List Assn} {ρ : Heap} {q5 : Nat} {q2 : Option Addr} {q3 : Nat} {c_s0_0 : Nat} {s0 : T_maskmake_Stream} {low1 : Int} {high2 : Int} {r : (Int × Int)} (hF : P_maskmake_Stream_Range s0 low1 high2 = some r) (q4 : RdS (RpI .i64) ρ q2 q3 c_s0_0 s0.L) (hS : St w0 w (cells q5 25 [.slice q2 q3 c_s0_0, .int .i64 s0.fat] :: ro ρ :: l)) :
  Calls Try.prog 17 #[.pointer (some ⟨q5, 0, none⟩), .int .i64 low1, .int .i64 high2] w fun e w' => e = .returned (.int .i64 r.1) ∧ St w0 w' (cells q5 25 [.slice q2 q3 c_s0_0, .int .i64 r.2] :: ro ρ :: l) := by
 have e_ := q4.n; subst e_
 refine enterC Try.func17 rfl 19 rfl (by simp) ?_
 refine x_seq <| x_region <| p (yl_assign rfl) <| x_done <|
  x_seq <| x_seq <| x_region <| p (yl_move rfl) <|
  p (yl_move rfl) <| p (yl_lss rfl rfl) <| x_done <|
  x_cond_p (high2 < low1) rfl (fun hc9 => ?_) (fun hc9 => ?_)
 ·replace hF := it_t hc9 hF
  refine x_seq <| x_region <| p (yl_move rfl) <| p (yl_assign rfl) <|
   x_done <| ?_
  have e_ := sinj hF; subst e_
  exact x_return ⟨_, ⟨_, _, rfl, rfl, rfl⟩, rfl, ((hS.pull 1).pull 1)⟩
 ·replace hF := it_f hc9 hF
  replace hF := ar_s hF; obtain ⟨x15, hx15, hF⟩ := hF
  replace hF := ar_s hF; obtain ⟨x16, hx16, hF⟩ := hF
  replace hF := bd_s hF; obtain ⟨q7, q6, hF⟩ := hF
  refine x_skip <| x_seq <| x_region <| p (yl_move rfl) <|
   p (yl_move rfl) <| p (yl_move rfl) <| p (yl_move rfl) <| p (ysub rfl rfl hx15) <|
   p (yadd rfl rfl hx16) <| ?_
  have hcall := c_maskmake_Stream_Next q6 q4 ((hS.pull 1).pull 1)
  refine o_cc call_9 (args2 rfl rfl) hcall ?_
  rintro e w' ⟨rfl, hS⟩
  refine ⟨_, rfl, ?_⟩
  replace hF := ar_s hF; obtain ⟨x18, hx18, hF⟩ := hF
  refine p (yadd rfl rfl hx18) <| p (yl_assign rfl) <| x_done <| ?_
  have e_ := sinj hF; subst e_
  exact x_return ⟨_, ⟨_, _, rfl, rfl, rfl⟩, rfl, ((hS.pull 1).pull 1)⟩
attribute [irreducible] P_maskmake_Stream_Range

def P_maskmake_Stream_Flip (s0 : T_maskmake_Stream) (n1 : Int) : Option (Bool × Int) :=
 bd (P_maskmake_Stream_Next s0 n1) fun q2 =>
 some (decide (q2.1 = 0), q2.2)
theorem c_maskmake_Stream_Flip {w0 w : World} {l : List Assn} {ρ : Heap} {q5 : Nat} {q2 : Option Addr} {q3 : Nat} {c_s0_0 : Nat} {s0 : T_maskmake_Stream} {n1 : Int} {r : (Bool × Int)} (hF : P_maskmake_Stream_Flip s0 n1 = some r) (q4 : RdS (RpI .i64) ρ q2 q3 c_s0_0 s0.L) (hS : St w0 w (cells q5 25 [.slice q2 q3 c_s0_0, .int .i64 s0.fat] :: ro ρ :: l)) :
  Calls Try.prog 33 #[.pointer (some ⟨q5, 0, none⟩), .int .i64 n1] w fun e w' => e = .returned (.bool r.1) ∧ St w0 w' (cells q5 25 [.slice q2 q3 c_s0_0, .int .i64 r.2] :: ro ρ :: l) := by
 have e_ := q4.n; subst e_
 refine enterC Try.func33 rfl 9 rfl (by simp) ?_
 replace hF := bd_s hF; obtain ⟨q7, q6, hF⟩ := hF
 refine x_seq <| x_region <| p (yl_assign rfl) <| x_done <|
  x_seq <| x_region <| p (yl_move rfl) <| p (yl_move rfl) <| ?_
 have hcall := c_maskmake_Stream_Next q6 q4 ((hS.pull 1).pull 1)
 refine o_cc call_9 (args2 rfl rfl) hcall ?_
 rintro e w' ⟨rfl, hS⟩
 refine ⟨_, rfl, ?_⟩
 refine p (yl_eql rfl rfl) <| p (yl_assign rfl) <| x_done <| ?_
 have e_ := sinj hF; subst e_
 exact x_return ⟨_, ⟨_, _, rfl, rfl, rfl⟩, rfl, ((hS.pull 1).pull 1)⟩
attribute [irreducible] P_maskmake_Stream_Flip

def P_maskmake_Stream_wire (s0 : T_maskmake_Stream) (l_1 : T_rules_Layout) : Option (T_rules_Wire × Int) :=
 bd (P_maskmake_Stream_Next s0 l_1.Nets) fun q8 =>
 bd (P_maskmake_Stream_Next (T_maskmake_Stream.mk s0.L q8.2) l_1.Layers) fun q7 =>
 bd (P_maskmake_Stream_Next (T_maskmake_Stream.mk s0.L q7.2) l_1.W) fun q5 =>
 bd (P_maskmake_Stream_Next (T_maskmake_Stream.mk s0.L q5.2) l_1.H) fun q2 =>
 ck ((2 : Int) ≠ 0) <|
 lv (Int.tmod q7.1 2) fun x31 =>
 bd (
  if x31 = 0 then
   ar (l_1.W - 1) fun x38 =>
   bd (P_maskmake_Stream_Range (T_maskmake_Stream.mk s0.L q2.2) q5.1 x38) fun q9 =>
   some (q9.1, q2.1, q9.2)
  else
   ar (l_1.H - 1) fun x46 =>
   bd (P_maskmake_Stream_Range (T_maskmake_Stream.mk s0.L q2.2) q2.1 x46) fun q0a =>
   some (q5.1, q0a.1, q0a.2)) fun (q3, q4, q6) =>
 some ((T_rules_Wire.mk q8.1 q7.1 q5.1 q2.1 q3 q4), q6)
theorem c_maskmake_Stream_wire {w0 w : World} {l : List Assn} {ρ : Heap} {q2 : Nat} {q5 : Option Addr} {q0z : Nat} {c_s0_0 : Nat} {q9 : Option Addr} {q10 : Nat} {c_l_1_4 : Nat} {q0a : Option Addr} {q11 : Nat} {c_l_1_5 : Nat} {q0b : Option Addr} {q12 : Nat} {c_l_1_6 : Nat} {q0c : Option Addr} {q13 : Nat} {c_l_1_7 : Nat} {s0 : T_maskmake_Stream} {l_1 : T_rules_Layout} {r : (T_rules_Wire × Int)} (hF : P_maskmake_Stream_wire s0 l_1 = some r) (q0f : RdS (RpI .i64) ρ q5 q0z c_s0_0 s0.L) (q17 : RdS R_rules_Wire ρ q9 q10 c_l_1_4 l_1.Wires) (q18 : RdS R_rules_Via ρ q0a q11 c_l_1_5 l_1.Vias) (q19 : RdS R_rules_Pin ρ q0b q12 c_l_1_6 l_1.Pins) (q1a : RdS R_floor_Wall ρ q0c q13 c_l_1_7 l_1.Walls) (hS : St w0 w (cells q2 25 [.slice q5 q0z c_s0_0, .int .i64 s0.fat] :: ro ρ :: l)) :
  Calls Try.prog 34 #[.pointer (some ⟨q2, 0, none⟩), .agg #[.int .i64 l_1.W, .int .i64 l_1.H, .int .i64 l_1.Layers, .int .i64 l_1.Nets, .slice q9 q10 c_l_1_4, .slice q0a q11 c_l_1_5, .slice q0b q12 c_l_1_6, .slice q0c q13 c_l_1_7]] w fun e w' => e = .returned (.agg #[.int .i64 r.1.Net, .int .i64 r.1.Layer, .int .i64 r.1.X0, .int .i64 r.1.Y0, .int .i64 r.1.X1, .int .i64 r.1.Y1]) ∧ St w0 w' (cells q2 25 [.slice q5 q0z c_s0_0, .int .i64 r.2] :: ro ρ :: l) := by
 have e_ := q0f.n; subst e_
 have e_ := q17.n; subst e_
 have e_ := q18.n; subst e_
 have e_ := q19.n; subst e_
 have e_ := q1a.n; subst e_
 refine enterC Try.func34 rfl 50 rfl (by simp) ?_
 refine x_seq <| x_region <| ?_
 refine o_box (cs := [.int .i64 l_1.W, .int .i64 l_1.H, .int .i64 l_1.Layers, .int .i64 l_1.Nets, .slice q9 l_1.Wires.length c_l_1_4, .slice q0a l_1.Vias.length c_l_1_5, .slice q0b l_1.Pins.length c_l_1_6, .slice q0c l_1.Walls.length c_l_1_7]) rfl rfl hS (fun b3 w' hS => ?_)
 refine o_alloc zero_44 hS (fun b4 w' hS => ?_)
 refine x_done <| x_seq <| ?_
 replace hF := bd_s hF; obtain ⟨q0d, q1e, hF⟩ := hF
 replace hF := bd_s hF; obtain ⟨q0e, q1f, hF⟩ := hF
 replace hF := bd_s hF; obtain ⟨q3, q1b, hF⟩ := hF
 replace hF := bd_s hF; obtain ⟨q4, q1c, hF⟩ := hF
 refine x_par (w0 := w0) [⟨[], [], [6], [], [], [], none⟩, ⟨[], [], [7], [], [], [], none⟩, ⟨[1], [1], [8], [0], [], [], none⟩, ⟨[0, 1, 2], [0, 2], [9], [2], [1], [3], none⟩, ⟨[], [], [10], [], [], [], none⟩, ⟨[], [], [11], [], [], [], none⟩, ⟨[5], [5], [12], [0], [], [], none⟩, ⟨[0, 1, 2, 3, 4, 5, 6], [4, 6], [13], [2], [3], [4], none⟩, ⟨[], [], [14], [], [], [], none⟩, ⟨[], [], [15], [], [], [], none⟩, ⟨[9], [9], [16], [0], [], [], none⟩, ⟨[0, 1, 2, 3, 4, 5, 6, 7, 8, 9, 10], [8, 10], [17], [2], [4], [5], none⟩, ⟨[], [], [18], [], [], [], none⟩, ⟨[], [], [19], [], [], [], none⟩, ⟨[13], [13], [20], [0], [], [], none⟩, ⟨[0, 1, 2, 3, 4, 5, 6, 7, 8, 9, 10, 11, 12, 13, 14], [12, 14], [21], [2], [5], [6], none⟩, ⟨[0, 1, 2, 3, 4, 5, 6, 7, 8, 9, 10, 11, 12, 13, 14, 15], [3, 7, 11, 15], [22], [], [], [], none⟩, ⟨[], [], [5], [], [], [7], none⟩, ⟨[0, 1, 2, 3, 4, 5, 6, 7, 8, 9, 10, 11, 12, 13, 14, 15, 16, 17], [16, 17], [], [], [7], [8], none⟩] [⟨none, none, []⟩, ⟨none, (some 3), []⟩, ⟨none, none, []⟩, ⟨(some 3), (some 7), []⟩, ⟨(some 7), (some 11), []⟩, ⟨(some 11), (some 15), []⟩, ⟨(some 15), none, []⟩, ⟨(some 17), (some 18), [5]⟩, ⟨(some 18), none, [5]⟩] [5, 6, 7, 8, 9, 10, 11, 12, 13, 14, 15, 16, 17, 18, 19, 20, 21, 22] [0, 1, 2] [0, 2, 6, 8] [0, 1, 2, 3, 4, 5, 6, 7, 8, 9, 10, 11, 12, 13, 14, 15, 16, 17] [fun Ep1 => Ep1 6 = .pointer (some ⟨q2, 0, none⟩), fun Ep1 => Ep1 7 = .pointer (some ⟨b3, 3, none⟩), fun Ep1 => Ep1 8 = .int .i64 l_1.Nets, fun Ep1 => Ep1 9 = .int .i64 q0d.1, fun Ep1 => Ep1 10 = .pointer (some ⟨q2, 0, none⟩), fun Ep1 => Ep1 11 = .pointer (some ⟨b3, 2, none⟩), fun Ep1 => Ep1 12 = .int .i64 l_1.Layers, fun Ep1 => Ep1 13 = .int .i64 q0e.1, fun Ep1 => Ep1 14 = .pointer (some ⟨q2, 0, none⟩), fun Ep1 => Ep1 15 = .pointer (some ⟨b3, 0, none⟩), fun Ep1 => Ep1 16 = .int .i64 l_1.W, fun Ep1 => Ep1 17 = .int .i64 q3.1, fun Ep1 => Ep1 18 = .pointer (some ⟨q2, 0, none⟩), fun Ep1 => Ep1 19 = .pointer (some ⟨b3, 1, none⟩), fun Ep1 => Ep1 20 = .int .i64 l_1.H, fun Ep1 => Ep1 21 = .int .i64 q4.1, fun Ep1 => Ep1 22 = .agg #[.int .i64 q0d.1, .int .i64 q0e.1, .int .i64 q3.1, .int .i64 q4.1, .int .i64 0, .int .i64 0], fun Ep1 => Ep1 5 = .pointer (some ⟨(blkOf (Ep1 5)), 0, none⟩), fun Ep1 => True] [fun Ep1 => cells b3 31 [.int .i64 l_1.W, .int .i64 l_1.H, .int .i64 l_1.Layers, .int .i64 l_1.Nets, .slice q9 l_1.Wires.length c_l_1_4, .slice q0a l_1.Vias.length c_l_1_5, .slice q0b l_1.Pins.length c_l_1_6, .slice q0c l_1.Walls.length c_l_1_7], fun Ep1 => cells q2 25 [.slice q5 s0.L.length c_s0_0, .int .i64 s0.fat], fun Ep1 => ro ρ, fun Ep1 => cells q2 25 [.slice q5 s0.L.length c_s0_0, .int .i64 q0d.2], fun Ep1 => cells q2 25 [.slice q5 s0.L.length c_s0_0, .int .i64 q0e.2], fun Ep1 => cells q2 25 [.slice q5 s0.L.length c_s0_0, .int .i64 q3.2], fun Ep1 => cells q2 25 [.slice q5 s0.L.length c_s0_0, .int .i64 q4.2], fun Ep1 => cells (blkOf (Ep1 5)) 44 [.int .i64 0, .int .i64 0, .int .i64 0, .int .i64 0, .int .i64 0, .int .i64 0], fun Ep1 => cells (blkOf (Ep1 5)) 44 [.int .i64 q0d.1, .int .i64 q0e.1, .int .i64 q3.1, .int .i64 q4.1, .int .i64 0, .int .i64 0]] mixed (by kernel_rfl) (((hS.pull 3).pull 3).pull 3) ?_ ?_
 ·refine ⟨?_, ?_, ?_, ?_, ?_, ?_, ?_, ?_, ?_, ?_, ?_, ?_, ?_, ?_, ?_, ?_, ?_, ?_, ?_, trivial⟩
  ·intro Ep1 w l' hE1 hO1 hF_ hS
   refine p (yl_move (hE1 0 rfl)) <| x_done <| ?_
   refine x_fin ⟨⟨_, rfl⟩, rfl, ?_⟩
   exact emk hS
  ·intro Ep1 w l' hE1 hO1 hF_ hS
   refine p (yl_field0 fld_31_3 (hE1 3 rfl)) <| x_done <| ?_
   refine x_fin ⟨⟨_, rfl⟩, rfl, ?_⟩
   exact emk hS
  ·intro Ep1 w l' hE1 hO1 hF_ hS
   obtain ⟨q0p, -⟩ := hF_
   replace q0p : Ep1 7 = .pointer (some ⟨b3, 3, none⟩) := emk q0p
   replace hS : St w0 w (cells b3 31 [.int .i64 l_1.W, .int .i64 l_1.H, .int .i64 l_1.Layers, .int .i64 l_1.Nets, .slice q9 l_1.Wires.length c_l_1_4, .slice q0a l_1.Vias.length c_l_1_5, .slice q0b l_1.Pins.length c_l_1_6, .slice q0c l_1.Walls.length c_l_1_7] :: l') := emk hS
   refine pa (at_load one_3 q0p (hS.cell rfl)) <| x_done <| ?_
   refine x_fin ⟨⟨_, rfl⟩, rfl, ?_⟩
   exact emk hS
  ·intro Ep1 w l' hE1 hO1 hF_ hS
   obtain ⟨q0q, q0r, -⟩ := hF_
   replace q0q : Ep1 6 = .pointer (some ⟨q2, 0, none⟩) := emk q0q
   replace q0r : Ep1 8 = .int .i64 l_1.Nets := emk q0r
   replace hS : St w0 w (ro ρ :: cells q2 25 [.slice q5 s0.L.length c_s0_0, .int .i64 s0.fat] :: l') := emk hS
   have hcall := c_maskmake_Stream_Next q1e q0f (hS.pull 1)
   refine o_cc call_9 (args2 q0q q0r) hcall ?_
   rintro e w' ⟨rfl, hS⟩
   refine ⟨_, rfl, ?_⟩
   refine x_done <| ?_
   refine x_fin ⟨⟨_, rfl⟩, rfl, ?_⟩
   exact emk (hS.pull 1)
  ·intro Ep1 w l' hE1 hO1 hF_ hS
   refine p (yl_move (hE1 0 rfl)) <| x_done <| ?_
   refine x_fin ⟨⟨_, rfl⟩, rfl, ?_⟩
   exact emk hS
  ·intro Ep1 w l' hE1 hO1 hF_ hS
   refine p (yl_field0 fld_31_2 (hE1 3 rfl)) <| x_done <| ?_
   refine x_fin ⟨⟨_, rfl⟩, rfl, ?_⟩
   exact emk hS
  ·intro Ep1 w l' hE1 hO1 hF_ hS
   obtain ⟨q0s, -⟩ := hF_
   replace q0s : Ep1 11 = .pointer (some ⟨b3, 2, none⟩) := emk q0s
   replace hS : St w0 w (cells b3 31 [.int .i64 l_1.W, .int .i64 l_1.H, .int .i64 l_1.Layers, .int .i64 l_1.Nets, .slice q9 l_1.Wires.length c_l_1_4, .slice q0a l_1.Vias.length c_l_1_5, .slice q0b l_1.Pins.length c_l_1_6, .slice q0c l_1.Walls.length c_l_1_7] :: l') := emk hS
   refine pa (at_load one_3 q0s (hS.cell rfl)) <| x_done <| ?_
   refine x_fin ⟨⟨_, rfl⟩, rfl, ?_⟩
   exact emk hS
  ·intro Ep1 w l' hE1 hO1 hF_ hS
   obtain ⟨q0t, q0u, -⟩ := hF_
   replace q0t : Ep1 10 = .pointer (some ⟨q2, 0, none⟩) := emk q0t
   replace q0u : Ep1 12 = .int .i64 l_1.Layers := emk q0u
   replace hS : St w0 w (ro ρ :: cells q2 25 [.slice q5 s0.L.length c_s0_0, .int .i64 q0d.2] :: l') := emk hS
   have hcall := c_maskmake_Stream_Next q1f q0f (hS.pull 1)
   refine o_cc call_9 (args2 q0t q0u) hcall ?_
   rintro e w' ⟨rfl, hS⟩
   refine ⟨_, rfl, ?_⟩
   refine x_done <| ?_
   refine x_fin ⟨⟨_, rfl⟩, rfl, ?_⟩
   exact emk (hS.pull 1)
  ·intro Ep1 w l' hE1 hO1 hF_ hS
   refine p (yl_move (hE1 0 rfl)) <| x_done <| ?_
   refine x_fin ⟨⟨_, rfl⟩, rfl, ?_⟩
   exact emk hS
  ·intro Ep1 w l' hE1 hO1 hF_ hS
   refine p (yl_field0 fld_31_0 (hE1 3 rfl)) <| x_done <| ?_
   refine x_fin ⟨⟨_, rfl⟩, rfl, ?_⟩
   exact emk hS
  ·intro Ep1 w l' hE1 hO1 hF_ hS
   obtain ⟨q0v, -⟩ := hF_
   replace q0v : Ep1 15 = .pointer (some ⟨b3, 0, none⟩) := emk q0v
   replace hS : St w0 w (cells b3 31 [.int .i64 l_1.W, .int .i64 l_1.H, .int .i64 l_1.Layers, .int .i64 l_1.Nets, .slice q9 l_1.Wires.length c_l_1_4, .slice q0a l_1.Vias.length c_l_1_5, .slice q0b l_1.Pins.length c_l_1_6, .slice q0c l_1.Walls.length c_l_1_7] :: l') := emk hS
   refine pa (at_load one_3 q0v (hS.cell rfl)) <| x_done <| ?_
   refine x_fin ⟨⟨_, rfl⟩, rfl, ?_⟩
   exact emk hS
  ·intro Ep1 w l' hE1 hO1 hF_ hS
   obtain ⟨q0w, q0h, -⟩ := hF_
   replace q0w : Ep1 14 = .pointer (some ⟨q2, 0, none⟩) := emk q0w
   replace q0h : Ep1 16 = .int .i64 l_1.W := emk q0h
   replace hS : St w0 w (ro ρ :: cells q2 25 [.slice q5 s0.L.length c_s0_0, .int .i64 q0e.2] :: l') := emk hS
   have hcall := c_maskmake_Stream_Next q1b q0f (hS.pull 1)
   refine o_cc call_9 (args2 q0w q0h) hcall ?_
   rintro e w' ⟨rfl, hS⟩
   refine ⟨_, rfl, ?_⟩
   refine x_done <| ?_
   refine x_fin ⟨⟨_, rfl⟩, rfl, ?_⟩
   exact emk (hS.pull 1)
  ·intro Ep1 w l' hE1 hO1 hF_ hS
   refine p (yl_move (hE1 0 rfl)) <| x_done <| ?_
   refine x_fin ⟨⟨_, rfl⟩, rfl, ?_⟩
   exact emk hS
  ·intro Ep1 w l' hE1 hO1 hF_ hS
   refine p (yl_field0 fld_31_1 (hE1 3 rfl)) <| x_done <| ?_
   refine x_fin ⟨⟨_, rfl⟩, rfl, ?_⟩
   exact emk hS
  ·intro Ep1 w l' hE1 hO1 hF_ hS
   obtain ⟨q0i, -⟩ := hF_
   replace q0i : Ep1 19 = .pointer (some ⟨b3, 1, none⟩) := emk q0i
   replace hS : St w0 w (cells b3 31 [.int .i64 l_1.W, .int .i64 l_1.H, .int .i64 l_1.Layers, .int .i64 l_1.Nets, .slice q9 l_1.Wires.length c_l_1_4, .slice q0a l_1.Vias.length c_l_1_5, .slice q0b l_1.Pins.length c_l_1_6, .slice q0c l_1.Walls.length c_l_1_7] :: l') := emk hS
   refine pa (at_load one_3 q0i (hS.cell rfl)) <| x_done <| ?_
   refine x_fin ⟨⟨_, rfl⟩, rfl, ?_⟩
   exact emk hS
  ·intro Ep1 w l' hE1 hO1 hF_ hS
   obtain ⟨q0j, q0k, -⟩ := hF_
   replace q0j : Ep1 18 = .pointer (some ⟨q2, 0, none⟩) := emk q0j
   replace q0k : Ep1 20 = .int .i64 l_1.H := emk q0k
   replace hS : St w0 w (ro ρ :: cells q2 25 [.slice q5 s0.L.length c_s0_0, .int .i64 q3.2] :: l') := emk hS
   have hcall := c_maskmake_Stream_Next q1c q0f (hS.pull 1)
   refine o_cc call_9 (args2 q0j q0k) hcall ?_
   rintro e w' ⟨rfl, hS⟩
   refine ⟨_, rfl, ?_⟩
   refine x_done <| ?_
   refine x_fin ⟨⟨_, rfl⟩, rfl, ?_⟩
   exact emk (hS.pull 1)
  ·intro Ep1 w l' hE1 hO1 hF_ hS
   obtain ⟨q0x, q0y, q0l, q0m, -⟩ := hF_
   replace q0x : Ep1 9 = .int .i64 q0d.1 := emk q0x
   replace q0y : Ep1 13 = .int .i64 q0e.1 := emk q0y
   replace q0l : Ep1 17 = .int .i64 q3.1 := emk q0l
   replace q0m : Ep1 21 = .int .i64 q4.1 := emk q0m
   refine p (v := .agg #[.int .i64 q0d.1, .int .i64 q0e.1, .int .i64 q3.1, .int .i64 q4.1, .int .i64 0, .int .i64 0]) (yl_build bld_44 bldf_44 (parts_eq (pt (va := .int .i64 q0d.1) q0x (pt (va := .int .i64 q0e.1) q0y (pt (va := .int .i64 q3.1) q0l (pt (va := .int .i64 q4.1) q0m pt0))))) (by kernel_rfl)) <| x_done <| ?_
   refine x_fin ⟨⟨_, rfl⟩, rfl, ?_⟩
   exact emk hS
  ·intro Ep1 w l' hE1 hO1 hF_ hS
   refine o_alloc zero_44 hS (fun b5 w' hS => ?_)
   refine x_done <| ?_
   refine x_fin ⟨⟨_, rfl⟩, rfl, ?_⟩
   exact emk hS
  ·intro Ep1 w l' hE1 hO1 hF_ hS
   obtain ⟨q0n, q6, -⟩ := hF_
   replace q0n : Ep1 22 = .agg #[.int .i64 q0d.1, .int .i64 q0e.1, .int .i64 q3.1, .int .i64 q4.1, .int .i64 0, .int .i64 0] := emk q0n
   replace q6 : Ep1 5 = .pointer (some ⟨(blkOf (Ep1 5)), 0, none⟩) := emk q6
   replace hS : St w0 w (cells (blkOf (Ep1 5)) 44 [.int .i64 0, .int .i64 0, .int .i64 0, .int .i64 0, .int .i64 0, .int .i64 0] :: l') := emk hS
   refine o_storeAgg (news := [.int .i64 q0d.1, .int .i64 q0e.1, .int .i64 q3.1, .int .i64 q4.1, .int .i64 0, .int .i64 0]) agg_44 q6 q0n rfl (by simp [over_length]) hS (fun w' hS => ?_)
   refine x_done <| ?_
   refine x_fin ⟨⟨undef, rfl⟩, trivial, ?_⟩
   exact emk hS
 intro Ep1 w' hE1 hF_ hS
 obtain ⟨q0q, q0p, q0r, q0x, q0t, q0s, q0u, q0y, q0w, q0v, q0h, q0l, q0j, q0i, q0k, q0m, q0n, q6, -⟩ := hF_
 replace q0q : Ep1 6 = .pointer (some ⟨q2, 0, none⟩) := emk q0q
 replace q0p : Ep1 7 = .pointer (some ⟨b3, 3, none⟩) := emk q0p
 replace q0r : Ep1 8 = .int .i64 l_1.Nets := emk q0r
 replace q0x : Ep1 9 = .int .i64 q0d.1 := emk q0x
 replace q0t : Ep1 10 = .pointer (some ⟨q2, 0, none⟩) := emk q0t
 replace q0s : Ep1 11 = .pointer (some ⟨b3, 2, none⟩) := emk q0s
 replace q0u : Ep1 12 = .int .i64 l_1.Layers := emk q0u
 replace q0y : Ep1 13 = .int .i64 q0e.1 := emk q0y
 replace q0w : Ep1 14 = .pointer (some ⟨q2, 0, none⟩) := emk q0w
 replace q0v : Ep1 15 = .pointer (some ⟨b3, 0, none⟩) := emk q0v
 replace q0h : Ep1 16 = .int .i64 l_1.W := emk q0h
 replace q0l : Ep1 17 = .int .i64 q3.1 := emk q0l
 replace q0j : Ep1 18 = .pointer (some ⟨q2, 0, none⟩) := emk q0j
 replace q0i : Ep1 19 = .pointer (some ⟨b3, 1, none⟩) := emk q0i
 replace q0k : Ep1 20 = .int .i64 l_1.H := emk q0k
 replace q0m : Ep1 21 = .int .i64 q4.1 := emk q0m
 replace q0n : Ep1 22 = .agg #[.int .i64 q0d.1, .int .i64 q0e.1, .int .i64 q3.1, .int .i64 q4.1, .int .i64 0, .int .i64 0] := emk q0n
 replace q6 : Ep1 5 = .pointer (some ⟨(blkOf (Ep1 5)), 0, none⟩) := emk q6
 replace hS : St w0 w' (cells b3 31 [.int .i64 l_1.W, .int .i64 l_1.H, .int .i64 l_1.Layers, .int .i64 l_1.Nets, .slice q9 l_1.Wires.length c_l_1_4, .slice q0a l_1.Vias.length c_l_1_5, .slice q0b l_1.Pins.length c_l_1_6, .slice q0c l_1.Walls.length c_l_1_7] :: ro ρ :: cells q2 25 [.slice q5 s0.L.length c_s0_0, .int .i64 q4.2] :: cells (blkOf (Ep1 5)) 44 [.int .i64 q0d.1, .int .i64 q0e.1, .int .i64 q3.1, .int .i64 q4.1, .int .i64 0, .int .i64 0] :: (cells b4 44 [.int .i64 0, .int .i64 0, .int .i64 0, .int .i64 0, .int .i64 0, .int .i64 0] :: l)) := emk hS
 refine x_seq <| x_region <| p (yl_field0 fld_44_2 q6) <| pa (at_load one_3 rfl ((hS.pull 3).cell rfl)) <|
  p (yl_field0 fld_44_3 q6) <| pa (at_load one_3 rfl ((hS.pull 3).cell rfl)) <| p (yl_field0 fld_44_4 q6) <| ?_
 refine o_store1 (v := .int .i64 q3.1) one_3 rfl rfl rfl rfl (hS.pull 3) (fun w' hS => ?_)
 refine p (yl_field0 fld_44_5 q6) <| ?_
 refine o_store1 (v := .int .i64 q4.1) one_3 rfl rfl rfl rfl hS (fun w' hS => ?_)
 replace hF := ck_s hF; obtain ⟨q1g, hF⟩ := hF
 replace hF := lv_s hF; obtain ⟨x31, hx31, hF⟩ := hF
 refine x_done <| x_seq <| x_seq <| x_region <|
  p (yl_field0 fld_44_1 q6) <| pa (at_load one_3 rfl (hS.cell rfl)) <| p (yrem rfl rfl q1g hx31) <| p (yl_eql rfl rfl) <|
  x_done <| ?_
 replace hF := bd_s hF; obtain ⟨oc32, hFc32, hF⟩ := hF
 refine x_join (fun E w => ∃ (q0o : Nat) (q7 : Int) (q8 : Int) (q0g : Int), (q7, q8, q0g) = oc32 ∧ E 4 = .pointer (some ⟨b4, 0, none⟩) ∧ E 5 = .pointer (some ⟨q0o, 0, none⟩) ∧ St w0 w (cells b4 44 [.int .i64 0, .int .i64 0, .int .i64 0, .int .i64 0, .int .i64 0, .int .i64 0] :: cells q0o 44 [.int .i64 q0d.1, .int .i64 q0e.1, .int .i64 q3.1, .int .i64 q4.1, .int .i64 q7, .int .i64 q8] :: cells q2 25 [.slice q5 s0.L.length c_s0_0, .int .i64 q0g] :: ro ρ :: l)) ?_ ?_
 ·refine x_cond_p (x31 = 0) rfl (fun hc32 => ?_) (fun hc32 => ?_)
  ·replace hFc32 := it_t hc32 hFc32
   replace hFc32 := ar_s hFc32; obtain ⟨x38, hx38, hFc32⟩ := hFc32
   replace hFc32 := bd_s hFc32; obtain ⟨q15, q1h, hFc32⟩ := hFc32
   refine x_region <| p (yl_move (hE1 0 rfl)) <| p (yl_field0 fld_44_2 q6) <| pa (at_load one_3 rfl (hS.cell rfl)) <|
    p (yl_field0 fld_31_0 (hE1 3 rfl)) <| pa (at_load one_3 rfl ((hS.pull 1).cell rfl)) <| p (ysub rfl rfl hx38) <| ?_
   have hcall := c_maskmake_Stream_Range q1h q0f ((hS.pull 2).pull 3)
   refine o_cc call_17 (args3 rfl rfl rfl) hcall ?_
   rintro e w' ⟨rfl, hS⟩
   refine ⟨_, rfl, ?_⟩
   refine p (yl_field0 fld_44_4 q6) <| ?_
   refine o_store1 (v := .int .i64 q15.1) one_3 rfl rfl rfl rfl (hS.pull 2) (fun w' hS => ?_)
   refine x_done <| ?_
   exact x_inv ⟨(blkOf (Ep1 5)), q15.1, q4.1, q15.2, (sinj hFc32), (hE1 4 rfl), q6, (((((hS.pull 3).drop.pull 2).pull 2).pull 2).pull 3)⟩
  ·replace hFc32 := it_f hc32 hFc32
   replace hFc32 := ar_s hFc32; obtain ⟨x46, hx46, hFc32⟩ := hFc32
   replace hFc32 := bd_s hFc32; obtain ⟨q16, q1i, hFc32⟩ := hFc32
   refine x_region <| p (yl_move (hE1 0 rfl)) <| p (yl_field0 fld_44_3 q6) <| pa (at_load one_3 rfl (hS.cell rfl)) <|
    p (yl_field0 fld_31_1 (hE1 3 rfl)) <| pa (at_load one_3 rfl ((hS.pull 1).cell rfl)) <| p (ysub rfl rfl hx46) <| ?_
   have hcall := c_maskmake_Stream_Range q1i q0f ((hS.pull 2).pull 3)
   refine o_cc call_17 (args3 rfl rfl rfl) hcall ?_
   rintro e w' ⟨rfl, hS⟩
   refine ⟨_, rfl, ?_⟩
   refine p (yl_field0 fld_44_5 q6) <| ?_
   refine o_store1 (v := .int .i64 q16.1) one_3 rfl rfl rfl rfl (hS.pull 2) (fun w' hS => ?_)
   refine x_done <| ?_
   exact x_inv ⟨(blkOf (Ep1 5)), q3.1, q16.1, q16.2, (sinj hFc32), (hE1 4 rfl), q6, (((((hS.pull 3).drop.pull 2).pull 2).pull 2).pull 3)⟩
 rintro E w ⟨q0o, q7, q8, q0g, rfl, q14, q1d, hS⟩
 refine x_seq <| x_region <| pa (v := .agg #[.int .i64 q0d.1, .int .i64 q0e.1, .int .i64 q3.1, .int .i64 q4.1, .int .i64 q7, .int .i64 q8]) (ld_sub agg_44 q1d rfl rfl (hS.pull 1)) <| ?_
 refine o_storeAgg (news := [.int .i64 q0d.1, .int .i64 q0e.1, .int .i64 q3.1, .int .i64 q4.1, .int .i64 q7, .int .i64 q8]) agg_44 q14 rfl rfl (by simp [over_length]) hS (fun w' hS => ?_)
 refine x_done <| ?_
 have e_ := sinj hF; subst e_
 exact x_return ⟨_, ⟨_, _, _, rfl, q14, ldvA agg_44 rfl (fun j v hj => by rw [add0]; exact St.cell hS hj), rfl⟩, rfl, ((hS.drop.drop.pull 1).pull 1)⟩
attribute [irreducible] P_maskmake_Stream_wire

def P_maskmake_Stream_Tied_L7 (s0 : T_maskmake_Stream) (q9 : (Int × Int)) (q0k : (Int × Int)) (q0l : (Int × Int)) : (Int × Int × List T_rules_Wire × List T_rules_Via × List T_rules_Pin) → Option ((Int × Int × List T_rules_Wire × List T_rules_Via × List T_rules_Pin) ⊕ (Int × List T_rules_Wire × List T_rules_Via × List T_rules_Pin)) := fun (q6, q5, q7, q8, q4) =>
 if q6 < q0l.1 then
  ar (q0k.1 + 1) fun x45 =>
  ar ((2 : Int) * q6) fun x47 =>
  ar (x45 + x47) fun x48 =>
  bd (P_maskmake_Stream_Next (T_maskmake_Stream.mk s0.L q5) 12) fun q2 =>
  lv (q8 ++ [(T_rules_Via.mk 0 0 x48 q9.1)]) fun q0a =>
  ck (apOk 32 q0a.length) <|
  lv (min q9.1 q2.1) fun x64 =>
  lv (max q9.1 q2.1) fun x68 =>
  lv (q7 ++ [(T_rules_Wire.mk 0 1 x48 x64 x48 x68)]) fun q0c =>
  ck (apOk 48 q0c.length) <|
  bd (
   if (decide (q2.1 ≠ q9.1)) = true then
    bd (P_maskmake_Stream_Flip (T_maskmake_Stream.mk s0.L q2.2) 2) fun q0g =>
    some (q0g.1, q0g.2)
   else
    some (false, q2.2)) fun (q0d, q3) =>
  bd (
   if q0d = true then
    lv (q0a ++ [(T_rules_Via.mk 0 0 x48 q2.1)]) fun q0h =>
    ck (apOk 32 q0h.length) <|
    bd (P_maskmake_Stream_Next (T_maskmake_Stream.mk s0.L q3) 6) fun q0i =>
    lv (q4 ++ [(T_rules_Pin.mk 0 x48 q2.1 false q0i.1)]) fun q0j =>
    ck (apOk 40 q0j.length) <|
    some (q0i.2, q0h, q0j)
   else
    some (q3, q0a, q4)) fun (q0b, q0e, q0f) =>
  ar (q6 + 1) fun x98 =>
  some (Sum.inl (x98, q0b, q0c, q0e, q0f))
 else
  some (Sum.inr (q5, q7, q8, q4))
def P_maskmake_Stream_Tied_L19 (s0 : T_maskmake_Stream) (q8 : List T_rules_Via) (q9 : List T_rules_Pin) (q0a : (Int × Int)) : (Int × Int × List T_rules_Wire) → Option ((Int × Int × List T_rules_Wire) ⊕ (List T_rules_Wire × Int)) := fun (q4, q3, q2) =>
 if q4 < q0a.1 then
  bd (P_maskmake_Stream_wire (T_maskmake_Stream.mk s0.L q3) (T_rules_Layout.mk 12 12 3 3 q2 q8 q9 [])) fun q5 =>
  bd (
   if 0 < q5.1.Net then
    lv (q2 ++ [q5.1]) fun q7 =>
    ck (apOk 48 q7.length) <|
    some q7
   else
    some q2) fun q6 =>
  ar (q4 + 1) fun x125 =>
  some (Sum.inl (x125, q5.2, q6))
 else
  some (Sum.inr (q2, q3))
def P_maskmake_Stream_Tied (s0 : T_maskmake_Stream) : Option (T_rules_Layout × Int) :=
 bd (P_maskmake_Stream_Range s0 1 10) fun q2 =>
 bd (P_maskmake_Stream_Next (T_maskmake_Stream.mk s0.L q2.2) 4) fun q3 =>
 bd (P_maskmake_Stream_Range (T_maskmake_Stream.mk s0.L q3.2) 6 11) fun q8 =>
 lv ([(T_rules_Wire.mk 0 0 q3.1 q2.1 q8.1 q2.1)]) fun q0e =>
 ck (apOk 48 q0e.length) <|
 bd (P_maskmake_Stream_Range (T_maskmake_Stream.mk s0.L q8.2) q3.1 q8.1) fun q0f =>
 lv ([(T_rules_Pin.mk 0 q0f.1 q2.1 true 0)]) fun q0g =>
 ck (apOk 40 q0g.length) <|
 bd (P_maskmake_Stream_Next (T_maskmake_Stream.mk s0.L q0f.2) 3) fun q0h =>
 bd (
  lp (P_maskmake_Stream_Tied_L7 s0 q2 q3 q0h) fuel (0, q0h.2, q0e, [], q0g)) fun (q7, q0c, q4, q0d) =>
 bd (P_maskmake_Stream_Next (T_maskmake_Stream.mk s0.L q7) 6) fun q0a =>
 lv (q0d ++ [(T_rules_Pin.mk 0 q3.1 q2.1 false q0a.1)]) fun q5 =>
 ck (apOk 40 q5.length) <|
 bd (P_maskmake_Stream_Next (T_maskmake_Stream.mk s0.L q0a.2) 6) fun q0b =>
 bd (
  lp (P_maskmake_Stream_Tied_L19 s0 q4 q5 q0b) fuel (0, q0b.2, q0c)) fun (q9, q6) =>
 some ((T_rules_Layout.mk 12 12 3 3 q9 q4 q5 []), q6)
theorem c_maskmake_Stream_Tied {w0 w : World} {l : List Assn} {ρ : Heap} {q8 : Nat} {q0b : Option Addr} {q44 : Nat} {c_s0_0 : Nat} {s0 : T_maskmake_Stream} {r : (T_rules_Layout × Int)} (hF : P_maskmake_Stream_Tied s0 = some r) (q0p : RdS (RpI .i64) ρ q0b q44 c_s0_0 s0.L) (hS : St w0 w (cells q8 25 [.slice q0b q44 c_s0_0, .int .i64 s0.fat] :: ro ρ :: l)) :
  Calls Try.prog 8 #[.pointer (some ⟨q8, 0, none⟩)] w fun e w' => ∃ (q3b : Option Addr) (q27 : Nat) (c_y0_ret_4 : Nat) (q35 : List Value) (q3c : Option Addr) (q28 : Nat) (c_y0_ret_5 : Nat) (q36 : List Value) (q3d : Option Addr) (q29 : Nat) (c_y0_ret_6 : Nat) (q37 : List Value) (q3e : Option Addr) (q2a : Nat) (c_y0_ret_7 : Nat) (q38 : List Value), e = .returned (.agg #[.int .i64 r.1.W, .int .i64 r.1.H, .int .i64 r.1.Layers, .int .i64 r.1.Nets, .slice q3b q27 c_y0_ret_4, .slice q3c q28 c_y0_ret_5, .slice q3d q29 c_y0_ret_6, .slice q3e q2a c_y0_ret_7]) ∧ RepL R_rules_Wire ρ r.1.Wires q35 ∧ RepL R_rules_Via ρ r.1.Vias q36 ∧ RepL R_rules_Pin ρ r.1.Pins q37 ∧ RepL R_floor_Wall ρ r.1.Walls q38 ∧ St w0 w' (vec 44 R_rules_Wire.sz (.slice q3b q27 c_y0_ret_4) q27 q35 :: vec 47 R_rules_Via.sz (.slice q3c q28 c_y0_ret_5) q28 q36 :: vec 39 R_rules_Pin.sz (.slice q3d q29 c_y0_ret_6) q29 q37 :: vec 66 R_floor_Wall.sz (.slice q3e q2a c_y0_ret_7) q2a q38 :: cells q8 25 [.slice q0b q44 c_s0_0, .int .i64 r.2] :: ro ρ :: l) := by
 have e_ := q0p.n; subst e_
 refine enterC Try.func8 rfl 127 rfl (by simp) ?_
 refine x_seq <| x_region <| ?_
 refine o_alloc zero_31 hS (fun b2 w' hS => ?_)
 refine x_done <| x_seq <| x_region <| p (v := .agg #[.int .i64 12, .int .i64 12, .int .i64 3, .int .i64 3, .slice none 0 0, .slice none 0 0, .slice none 0 0, .slice none 0 0]) (yl_build bld_31 bldf_31 (parts_eq (pt (va := .int .i64 12) rfl (pt (va := .int .i64 12) rfl (pt (va := .int .i64 3) rfl (pt (va := .int .i64 3) rfl pt0))))) (by kernel_rfl)) <| ?_
 refine o_alloc zero_31 hS (fun b3 w' hS => ?_)
 refine o_storeAgg (news := [.int .i64 12, .int .i64 12, .int .i64 3, .int .i64 3, .slice none 0 0, .slice none 0 0, .slice none 0 0, .slice none 0 0]) agg_31 rfl rfl rfl (by simp [over_length]) hS (fun w' hS => ?_)
 replace hF := bd_s hF; obtain ⟨q2, q5d, hF⟩ := hF
 refine x_done <| x_seq <| x_region <| p (yl_move rfl) <| ?_
 have hcall := c_maskmake_Stream_Range q5d q0p ((hS.pull 3).pull 3)
 refine o_cc call_17 (args3 rfl rfl rfl) hcall ?_
 rintro e w' ⟨rfl, hS⟩
 refine ⟨_, rfl, ?_⟩
 replace hF := bd_s hF; obtain ⟨q0c, q5e, hF⟩ := hF
 refine p (yl_assign rfl) <| x_done <| x_seq <| x_region <|
  p (yl_move rfl) <| ?_
 have hcall := c_maskmake_Stream_Next q5e q0p ((hS.pull 1).pull 1)
 refine o_cc call_9 (args2 rfl rfl) hcall ?_
 rintro e w' ⟨rfl, hS⟩
 refine ⟨_, rfl, ?_⟩
 replace hF := bd_s hF; obtain ⟨q10, q5f, hF⟩ := hF
 refine p (yl_move rfl) <| ?_
 have hcall := c_maskmake_Stream_Range q5f q0p ((hS.pull 1).pull 1)
 refine o_cc call_17 (args3 rfl rfl rfl) hcall ?_
 rintro e w' ⟨rfl, hS⟩
 refine ⟨_, rfl, ?_⟩
 refine p (yl_assign rfl) <| p (yl_assign rfl) <| x_done <| x_seq <|
  x_region <| p (yl_field0 fld_31_4 rfl) <| pa (at_load one_26 rfl ((hS.pull 2).cell rfl)) <| p (yl_move rfl) <|
  p (yl_move rfl) <| p (yl_move rfl) <| p (yl_move rfl) <| p (v := .agg #[.int .i64 0, .int .i64 0, .int .i64 q0c.1, .int .i64 q2.1, .int .i64 q10.1, .int .i64 q2.1]) (yl_build bld_44 bldf_44 (parts_eq (pt (va := .int .i64 0) rfl (pt (va := .int .i64 0) rfl (pt (va := .int .i64 q0c.1) rfl (pt (va := .int .i64 q2.1) rfl (pt (va := .int .i64 q10.1) rfl (pt (va := .int .i64 q2.1) rfl pt0))))))) (by kernel_rfl)) <| ?_
 refine o_buildSlice (vs := [.agg #[.int .i64 0, .int .i64 0, .int .i64 q0c.1, .int .i64 q2.1, .int .i64 q10.1, .int .i64 q2.1]]) (cs := [.int .i64 0, .int .i64 0, .int .i64 q0c.1, .int .i64 q2.1, .int .i64 q10.1, .int .i64 q2.1]) sl_26 zero_44 (parts_eq (pt (va := .agg #[.int .i64 0, .int .i64 0, .int .i64 q0c.1, .int .i64 q2.1, .int .i64 q10.1, .int .i64 q2.1]) rfl pt0)) rfl (by intro v hv; simp only [List.mem_cons, List.not_mem_nil, or_false] at hv; first | (subst hv; rfl) | (rcases hv with rfl <;> rfl)) (by decide) rfl hS (fun b25 w' hS => ?_)
 replace hS := St.vec_nil hS 44 R_rules_Wire.sz
 have hn26 : RepL R_rules_Wire ρ [] [] := rfl
 replace hF := lv_s hF; obtain ⟨q1w, q5g, hF⟩ := hF
 replace hF := ck_s hF; obtain ⟨q5h, hF⟩ := hF
 refine o_ap sl_26 zero_44 rfl (by decide) rfl rfl hS hn26 (src_blk usl_26 (hS.pull 1) rfl rfl) (RepL.cons (R := R_rules_Wire) (ρ := ρ) (x := (T_rules_Wire.mk 0 0 q0c.1 q2.1 q10.1 q2.1)) (cs := [.int .i64 0, .int .i64 0, .int .i64 q0c.1, .int .i64 q2.1, .int .i64 q10.1, .int .i64 q2.1]) rfl RepL.nil) (q5g : q1w = [] ++ _) q5h (fun A26 c26 cs26 w' hr26 hS => ?_)
 refine p (yl_field0 fld_31_4 rfl) <| ?_
 refine o_store1 (v := .slice A26 q1w.length c26) one_26 rfl rfl rfl rfl (hS.pull 4) (fun w' hS => ?_)
 refine x_done <| x_seq <| ?_
 replace hF := bd_s hF; obtain ⟨q0s, q5i, hF⟩ := hF
 replace hF := lv_s hF; obtain ⟨q0t, q5j, hF⟩ := hF
 replace hF := ck_s hF; obtain ⟨q5k, hF⟩ := hF
 refine x_par (w0 := w0) [⟨[], [], [28], [], [], [], none⟩, ⟨[0], [0], [29], [0], [], [], none⟩, ⟨[], [], [30], [], [], [], none⟩, ⟨[], [], [31], [], [], [], none⟩, ⟨[], [], [32], [], [], [], none⟩, ⟨[2, 3, 4], [2, 3, 4], [33], [2], [1], [3], none⟩, ⟨[], [], [34], [], [], [], none⟩, ⟨[2, 3, 4, 5, 6], [5, 6], [35], [], [], [], none⟩, ⟨[2, 3, 4, 5, 6, 7], [7], [36], [], [], [4], none⟩, ⟨[0, 1, 2, 3, 4, 5, 6, 7, 8], [1, 8], [37], [4, 2], [], [5], none⟩, ⟨[0, 1, 2, 3, 4, 5, 6, 7, 8, 9], [], [38], [], [], [], none⟩, ⟨[0, 1, 2, 3, 4, 5, 6, 7, 8, 9, 10], [9, 10], [], [], [0], [6], none⟩] [⟨none, (some 11), []⟩, ⟨none, (some 5), []⟩, ⟨none, none, []⟩, ⟨(some 5), none, []⟩, ⟨(some 8), none, [36]⟩, ⟨(some 9), none, [37]⟩, ⟨(some 11), none, [37]⟩] [28, 29, 30, 31, 32, 33, 34, 35, 36, 37, 38] [0, 1, 2] [2, 3, 4, 5, 6] [0, 1, 2, 3, 4, 5, 6, 7, 8, 9, 10] [fun Ep5 => Ep5 28 = .pointer (some ⟨b3, 6, none⟩), fun Ep5 => Ep5 29 = .slice none 0 0, fun Ep5 => Ep5 30 = .pointer (some ⟨q8, 0, none⟩), fun Ep5 => Ep5 31 = .int .i64 q0c.1, fun Ep5 => Ep5 32 = .int .i64 q10.1, fun Ep5 => Ep5 33 = .int .i64 q0s.1, fun Ep5 => Ep5 34 = .int .i64 q2.1, fun Ep5 => Ep5 35 = .agg #[.int .i64 0, .int .i64 q0s.1, .int .i64 q2.1, .bool true, .int .i64 0], fun Ep5 => Ep5 36 = .slice (some ⟨(blkOf (Ep5 36)), 0, none⟩) 1 1, fun Ep5 => Ep5 37 = .slice (adOf (Ep5 37)) q0t.length (capOf (Ep5 37)), fun Ep5 => Ep5 38 = .pointer (some ⟨b3, 6, none⟩), fun Ep5 => True] [fun Ep5 => cells b3 31 [.int .i64 12, .int .i64 12, .int .i64 3, .int .i64 3, .slice A26 q1w.length c26, .slice none 0 0, .slice none 0 0, .slice none 0 0], fun Ep5 => cells q8 25 [.slice q0b s0.L.length c_s0_0, .int .i64 q10.2], fun Ep5 => ro ρ, fun Ep5 => cells q8 25 [.slice q0b s0.L.length c_s0_0, .int .i64 q0s.2], fun Ep5 => cells (blkOf (Ep5 36)) 39 [.int .i64 0, .int .i64 q0s.1, .int .i64 q2.1, .bool true, .int .i64 0], fun Ep5 => bunA (fun (cs37 : List Value) => RepL R_rules_Pin ρ q0t cs37) (fun (cs37 : List Value) => [vec 39 R_rules_Pin.sz (.slice (adOf (Ep5 37)) q0t.length (capOf (Ep5 37))) q0t.length cs37]), fun Ep5 => cells b3 31 [.int .i64 12, .int .i64 12, .int .i64 3, .int .i64 3, .slice A26 q1w.length c26, .slice none 0 0, .slice (adOf (Ep5 37)) q0t.length (capOf (Ep5 37)), .slice none 0 0]] mixed (by kernel_rfl) (((hS.pull 4).pull 4).pull 2) ?_ ?_
 ·refine ⟨?_, ?_, ?_, ?_, ?_, ?_, ?_, ?_, ?_, ?_, ?_, ?_, trivial⟩
  ·intro Ep5 w l' hE5 hO5 hF_ hS
   refine p (yl_field0 fld_31_6 (hE5 3 rfl)) <| x_done <| ?_
   refine x_fin ⟨⟨_, rfl⟩, rfl, ?_⟩
   exact emk hS
  ·intro Ep5 w l' hE5 hO5 hF_ hS
   obtain ⟨q3m, -⟩ := hF_
   replace q3m : Ep5 28 = .pointer (some ⟨b3, 6, none⟩) := emk q3m
   replace hS : St w0 w (cells b3 31 [.int .i64 12, .int .i64 12, .int .i64 3, .int .i64 3, .slice A26 q1w.length c26, .slice none 0 0, .slice none 0 0, .slice none 0 0] :: l') := emk hS
   refine pa (at_load one_28 q3m (hS.cell rfl)) <| x_done <| ?_
   refine x_fin ⟨⟨_, rfl⟩, rfl, ?_⟩
   exact emk hS
  ·intro Ep5 w l' hE5 hO5 hF_ hS
   refine p (yl_move (hE5 0 rfl)) <| x_done <| ?_
   refine x_fin ⟨⟨_, rfl⟩, rfl, ?_⟩
   exact emk hS
  ·intro Ep5 w l' hE5 hO5 hF_ hS
   refine p (yl_move (hE5 5 rfl)) <| x_done <| ?_
   refine x_fin ⟨⟨_, rfl⟩, rfl, ?_⟩
   exact emk hS
  ·intro Ep5 w l' hE5 hO5 hF_ hS
   refine p (yl_move (hE5 6 rfl)) <| x_done <| ?_
   refine x_fin ⟨⟨_, rfl⟩, rfl, ?_⟩
   exact emk hS
  ·intro Ep5 w l' hE5 hO5 hF_ hS
   obtain ⟨q3n, q3o, q3p, -⟩ := hF_
   replace q3n : Ep5 30 = .pointer (some ⟨q8, 0, none⟩) := emk q3n
   replace q3o : Ep5 31 = .int .i64 q0c.1 := emk q3o
   replace q3p : Ep5 32 = .int .i64 q10.1 := emk q3p
   replace hS : St w0 w (ro ρ :: cells q8 25 [.slice q0b s0.L.length c_s0_0, .int .i64 q10.2] :: l') := emk hS
   have hcall := c_maskmake_Stream_Range q5i q0p (hS.pull 1)
   refine o_cc call_17 (args3 q3n q3o q3p) hcall ?_
   rintro e w' ⟨rfl, hS⟩
   refine ⟨_, rfl, ?_⟩
   refine x_done <| ?_
   refine x_fin ⟨⟨_, rfl⟩, rfl, ?_⟩
   exact emk (hS.pull 1)
  ·intro Ep5 w l' hE5 hO5 hF_ hS
   refine p (yl_move (hE5 4 rfl)) <| x_done <| ?_
   refine x_fin ⟨⟨_, rfl⟩, rfl, ?_⟩
   exact emk hS
  ·intro Ep5 w l' hE5 hO5 hF_ hS
   obtain ⟨q3q, q3r, -⟩ := hF_
   replace q3q : Ep5 33 = .int .i64 q0s.1 := emk q3q
   replace q3r : Ep5 34 = .int .i64 q2.1 := emk q3r
   refine p (v := .agg #[.int .i64 0, .int .i64 q0s.1, .int .i64 q2.1, .bool true, .int .i64 0]) (yl_build bld_39 bldf_39 (parts_eq (pt (va := .int .i64 0) rfl (pt (va := .int .i64 q0s.1) q3q (pt (va := .int .i64 q2.1) q3r (pt (va := .bool true) rfl pt0))))) (by kernel_rfl)) <| x_done <| ?_
   refine x_fin ⟨⟨_, rfl⟩, rfl, ?_⟩
   exact emk hS
  ·intro Ep5 w l' hE5 hO5 hF_ hS
   obtain ⟨q3s, -⟩ := hF_
   replace q3s : Ep5 35 = .agg #[.int .i64 0, .int .i64 q0s.1, .int .i64 q2.1, .bool true, .int .i64 0] := emk q3s
   refine o_buildSlice (vs := [.agg #[.int .i64 0, .int .i64 q0s.1, .int .i64 q2.1, .bool true, .int .i64 0]]) (cs := [.int .i64 0, .int .i64 q0s.1, .int .i64 q2.1, .bool true, .int .i64 0]) sl_28 zero_39 (parts_eq (pt (va := .agg #[.int .i64 0, .int .i64 q0s.1, .int .i64 q2.1, .bool true, .int .i64 0]) q3s pt0)) rfl (by intro v hv; simp only [List.mem_cons, List.not_mem_nil, or_false] at hv; first | (subst hv; rfl) | (rcases hv with rfl <;> rfl)) (by decide) rfl hS (fun b36 w' hS => ?_)
   refine x_done <| ?_
   refine x_fin ⟨⟨_, rfl⟩, rfl, ?_⟩
   exact emk hS
  ·intro Ep5 w l' hE5 hO5 hF_ hS
   obtain ⟨q3t, q3u, -⟩ := hF_
   replace q3t : Ep5 29 = .slice none 0 0 := emk q3t
   replace q3u : Ep5 36 = .slice (some ⟨(blkOf (Ep5 36)), 0, none⟩) 1 1 := emk q3u
   replace hS : St w0 w (cells (blkOf (Ep5 36)) 39 [.int .i64 0, .int .i64 q0s.1, .int .i64 q2.1, .bool true, .int .i64 0] :: ro ρ :: l') := emk hS
   replace hS := St.vec_nil hS 39 R_rules_Pin.sz
   have hn37 : RepL R_rules_Pin ρ [] [] := rfl
   refine o_ap sl_28 zero_39 rfl (by decide) q3t q3u hS hn37 (src_blk usl_28 (hS.pull 1) rfl rfl) (RepL.cons (R := R_rules_Pin) (ρ := ρ) (x := (T_rules_Pin.mk 0 q0s.1 q2.1 true 0)) (cs := [.int .i64 0, .int .i64 q0s.1, .int .i64 q2.1, .bool true, .int .i64 0]) rfl RepL.nil) (q5j : q0t = [] ++ _) q5k (fun A37 c37 cs37 w' hr37 hS => ?_)
   refine x_done <| ?_
   refine x_fin ⟨⟨_, rfl⟩, rfl, ?_⟩
   replace hS := St.bun (Φ := (fun (cs37 : List Value) => RepL R_rules_Pin ρ q0t cs37)) (L := (fun (cs37 : List Value) => [vec 39 R_rules_Pin.sz (.slice A37 q0t.length c37) q0t.length cs37])) cs37 hr37 hS
   exact emk ((hS.pull 2).pull 2)
  ·intro Ep5 w l' hE5 hO5 hF_ hS
   refine p (yl_field0 fld_31_6 (hE5 3 rfl)) <| x_done <| ?_
   refine x_fin ⟨⟨_, rfl⟩, rfl, ?_⟩
   exact emk hS
  ·intro Ep5 w l' hE5 hO5 hF_ hS
   obtain ⟨q3v, q2i, -⟩ := hF_
   replace q3v : Ep5 37 = .slice (adOf (Ep5 37)) q0t.length (capOf (Ep5 37)) := emk q3v
   replace q2i : Ep5 38 = .pointer (some ⟨b3, 6, none⟩) := emk q2i
   replace hS : St w0 w (cells b3 31 [.int .i64 12, .int .i64 12, .int .i64 3, .int .i64 3, .slice A26 q1w.length c26, .slice none 0 0, .slice none 0 0, .slice none 0 0] :: l') := emk hS
   refine o_store1 (v := .slice (adOf (Ep5 37)) q0t.length (capOf (Ep5 37))) one_28 q2i q3v rfl rfl hS (fun w' hS => ?_)
   refine x_done <| ?_
   refine x_fin ⟨⟨undef, rfl⟩, trivial, ?_⟩
   exact emk hS
 intro Ep5 w' hE5 hF_ hS
 obtain ⟨q3m, q3t, q3n, q3o, q3p, q3q, q3r, q3s, q3u, q3v, q2i, -⟩ := hF_
 replace q3m : Ep5 28 = .pointer (some ⟨b3, 6, none⟩) := emk q3m
 replace q3t : Ep5 29 = .slice none 0 0 := emk q3t
 replace q3n : Ep5 30 = .pointer (some ⟨q8, 0, none⟩) := emk q3n
 replace q3o : Ep5 31 = .int .i64 q0c.1 := emk q3o
 replace q3p : Ep5 32 = .int .i64 q10.1 := emk q3p
 replace q3q : Ep5 33 = .int .i64 q0s.1 := emk q3q
 replace q3r : Ep5 34 = .int .i64 q2.1 := emk q3r
 replace q3s : Ep5 35 = .agg #[.int .i64 0, .int .i64 q0s.1, .int .i64 q2.1, .bool true, .int .i64 0] := emk q3s
 replace q3u : Ep5 36 = .slice (some ⟨(blkOf (Ep5 36)), 0, none⟩) 1 1 := emk q3u
 replace q3v : Ep5 37 = .slice (adOf (Ep5 37)) q0t.length (capOf (Ep5 37)) := emk q3v
 replace q2i : Ep5 38 = .pointer (some ⟨b3, 6, none⟩) := emk q2i
 replace hS : St w0 w' (ro ρ :: cells q8 25 [.slice q0b s0.L.length c_s0_0, .int .i64 q0s.2] :: cells (blkOf (Ep5 36)) 39 [.int .i64 0, .int .i64 q0s.1, .int .i64 q2.1, .bool true, .int .i64 0] :: bunA (fun (cs37 : List Value) => RepL R_rules_Pin ρ q0t cs37) (fun (cs37 : List Value) => [vec 39 R_rules_Pin.sz (.slice (adOf (Ep5 37)) q0t.length (capOf (Ep5 37))) q0t.length cs37]) :: cells b3 31 [.int .i64 12, .int .i64 12, .int .i64 3, .int .i64 3, .slice A26 q1w.length c26, .slice none 0 0, .slice (adOf (Ep5 37)) q0t.length (capOf (Ep5 37)), .slice none 0 0] :: (vec 44 R_rules_Wire.sz (.slice A26 q1w.length c26) q1w.length cs26 :: cells b25 44 [.int .i64 0, .int .i64 0, .int .i64 q0c.1, .int .i64 q2.1, .int .i64 q10.1, .int .i64 q2.1] :: cells b2 31 [.int .i64 0, .int .i64 0, .int .i64 0, .int .i64 0, .slice none 0 0, .slice none 0 0, .slice none 0 0, .slice none 0 0] :: l)) := emk hS
 have q_ := St.unbun (hS.pull 3); obtain ⟨cs37, hr37, hS⟩ := q_
 replace hF := bd_s hF; obtain ⟨q3w, q5l, hF⟩ := hF
 refine x_seq <| x_seq <| x_region <| p (yl_move (hE5 0 rfl)) <| ?_
 have hcall := c_maskmake_Stream_Next q5l q0p ((hS.pull 1).pull 2)
 refine o_cc call_9 (args2 rfl rfl) hcall ?_
 rintro e w' ⟨rfl, hS⟩
 refine ⟨_, rfl, ?_⟩
 refine p (yl_move rfl) <| x_done <| ?_
 replace hF := bd_s hF; obtain ⟨oL7, hLL7, hF⟩ := hF
 refine x_join (fun E w => ∃ (q0g : Option Addr) (q23 : Nat) (c_b3_4_L7 : Nat) (q0x : List Value) (q4 : Option Addr) (q24 : Nat) (c_b3_5_L7 : Nat) (q0l : List Value) (q0d : Option Addr) (q25 : Nat) (c_b3_6_L7 : Nat) (q0y : List Value) (q1d : Int) (q0k : List T_rules_Wire) (q5 : List T_rules_Via) (q0i : List T_rules_Pin), (q1d, q0k, q5, q0i) = oL7 ∧ E 0 = .pointer (some ⟨q8, 0, none⟩) ∧ E 2 = .pointer (some ⟨b2, 0, none⟩) ∧ E 3 = .pointer (some ⟨b3, 0, none⟩) ∧ E 4 = .int .i64 q2.1 ∧ E 5 = .int .i64 q0c.1 ∧ RepL R_rules_Wire ρ q0k q0x ∧ RepL R_rules_Via ρ q5 q0l ∧ RepL R_rules_Pin ρ q0i q0y ∧ St w0 w (cells q8 25 [.slice q0b s0.L.length c_s0_0, .int .i64 q1d] :: cells b2 31 [.int .i64 0, .int .i64 0, .int .i64 0, .int .i64 0, .slice none 0 0, .slice none 0 0, .slice none 0 0, .slice none 0 0] :: cells b3 31 [.int .i64 12, .int .i64 12, .int .i64 3, .int .i64 3, .slice q0g q23 c_b3_4_L7, .slice q4 q24 c_b3_5_L7, .slice q0d q25 c_b3_6_L7, .slice none 0 0] :: vec 44 R_rules_Wire.sz (.slice q0g q23 c_b3_4_L7) q23 q0x :: vec 47 R_rules_Via.sz (.slice q4 q24 c_b3_5_L7) q24 q0l :: vec 39 R_rules_Pin.sz (.slice q0d q25 c_b3_6_L7) q25 q0y :: ro ρ :: l)) ?_ ?_
 ·refine x_block ?_
  replace hS := St.vec_nil hS 47 R_rules_Via.sz
  have q3f : RepL R_rules_Via ρ [] [] := rfl
  refine x_loop (fun k_ E w => ∃ (q1h : Option Addr) (q1i : Nat) (c_b3_4_L7h : Nat) (q13 : List Value) (q1j : Option Addr) (q1k : Nat) (c_b3_5_L7h : Nat) (q14 : List Value) (q9 : Option Addr) (q1l : Nat) (c_b3_6_L7h : Nat) (q0h : List Value) (q1u : Int) (q1m : Int) (q1x : List T_rules_Wire) (q1y : List T_rules_Via) (q7 : List T_rules_Pin), lp (P_maskmake_Stream_Tied_L7 s0 q2 q0c q3w) k_ (q1u, q1m, q1x, q1y, q7) = some oL7 ∧ E 0 = .pointer (some ⟨q8, 0, none⟩) ∧ E 2 = .pointer (some ⟨b2, 0, none⟩) ∧ E 3 = .pointer (some ⟨b3, 0, none⟩) ∧ E 4 = .int .i64 q2.1 ∧ E 5 = .int .i64 q0c.1 ∧ E 40 = .int .i64 q3w.1 ∧ E 41 = .int .i64 q1u ∧ RepL R_rules_Wire ρ q1x q13 ∧ RepL R_rules_Via ρ q1y q14 ∧ RepL R_rules_Pin ρ q7 q0h ∧ St w0 w (cells q8 25 [.slice q0b s0.L.length c_s0_0, .int .i64 q1m] :: cells b2 31 [.int .i64 0, .int .i64 0, .int .i64 0, .int .i64 0, .slice none 0 0, .slice none 0 0, .slice none 0 0, .slice none 0 0] :: cells b3 31 [.int .i64 12, .int .i64 12, .int .i64 3, .int .i64 3, .slice q1h q1i c_b3_4_L7h, .slice q1j q1k c_b3_5_L7h, .slice q9 q1l c_b3_6_L7h, .slice none 0 0] :: vec 44 R_rules_Wire.sz (.slice q1h q1i c_b3_4_L7h) q1i q13 :: vec 47 R_rules_Via.sz (.slice q1j q1k c_b3_5_L7h) q1k q14 :: vec 39 R_rules_Pin.sz (.slice q9 q1l c_b3_6_L7h) q1l q0h :: ro ρ :: l)) fuel ⟨A26, q1w.length, c26, cs26, none, 0, 0, [], (adOf (Ep5 37)), q0t.length, (capOf (Ep5 37)), cs37, 0, q3w.2, q1w, [], q0t, hLL7, (hE5 0 rfl), (hE5 2 rfl), (hE5 3 rfl), (hE5 4 rfl), (hE5 5 rfl), rfl, rfl, hr26, q3f, hr37, (((((((((hS.pull 4).drop.pull 6).drop.pull 2).pull 3).pull 2).pull 5).pull 5).pull 6).pull 6)⟩ ?_
  rintro kL7 E w ⟨q1h, q1i, c_b3_4_L7h, q13, q1j, q1k, c_b3_5_L7h, q14, q9, q1l, c_b3_6_L7h, q0h, q1u, q1m, q1x, q1y, q7, hLL7, q2e, q45, q1z, q20, q3g, q3x, q2j, q2b, q2c, q1n, hS⟩
  have e_ := St.vec_n (hS.pull 3) q2b; subst e_
  have e_ := St.vec_n (hS.pull 4) q2c; subst e_
  have e_ := St.vec_n (hS.pull 5) q1n; subst e_
  replace hLL7 := lp_s hLL7; obtain ⟨kL7, obL7, rfl, hFL7, hLL7⟩ := hLL7
  refine x_seq <| x_region <| p (yl_lss q2j q3x) <| x_done <|
   x_seq <|
   x_cond_p (q1u < q3w.1) rfl (fun hc42 => ?_) (fun hc42 => ?_)
  ·replace hFL7 := it_t hc42 hFL7
   replace hFL7 := ar_s hFL7; obtain ⟨x45, hx45, hFL7⟩ := hFL7
   replace hFL7 := ar_s hFL7; obtain ⟨x47, hx47, hFL7⟩ := hFL7
   replace hFL7 := ar_s hFL7; obtain ⟨x48, hx48, hFL7⟩ := hFL7
   replace hFL7 := bd_s hFL7; obtain ⟨q6, q4q, hFL7⟩ := hFL7
   refine x_skip <| x_seq <| x_block <| x_seq <|
    x_region <| p (yl_move q2j) <| p (yl_assign rfl) <| x_done <|
    x_seq <| x_region <| p (yl_move q3g) <| p (yadd rfl rfl hx45) <|
    p (yl_move rfl) <| p (ymul rfl rfl hx47) <| p (yadd rfl rfl hx48) <| p (yl_assign rfl) <|
    x_done <| x_seq <| x_region <| p (yl_move q2e) <| ?_
   have hcall := c_maskmake_Stream_Next q4q q0p ((hS.pull 6).pull 1)
   refine o_cc call_9 (args2 rfl rfl) hcall ?_
   rintro e w' ⟨rfl, hS⟩
   refine ⟨_, rfl, ?_⟩
   refine p (yl_assign rfl) <| x_done <| x_seq <| x_region <|
    p (yl_field0 fld_31_5 q1z) <| pa (at_load one_27 rfl ((hS.pull 3).cell rfl)) <| p (yl_move rfl) <| p (yl_move q20) <|
    p (v := .agg #[.int .i64 0, .int .i64 0, .int .i64 x48, .int .i64 q2.1]) (yl_build bld_47 bldf_47 (parts_eq (pt (va := .int .i64 0) rfl (pt (va := .int .i64 0) rfl (pt (va := .int .i64 x48) rfl (pt (va := .int .i64 q2.1) rfl pt0))))) (by kernel_rfl)) <| ?_
   refine o_buildSlice (vs := [.agg #[.int .i64 0, .int .i64 0, .int .i64 x48, .int .i64 q2.1]]) (cs := [.int .i64 0, .int .i64 0, .int .i64 x48, .int .i64 q2.1]) sl_27 zero_47 (parts_eq (pt (va := .agg #[.int .i64 0, .int .i64 0, .int .i64 x48, .int .i64 q2.1]) rfl pt0)) rfl (by intro v hv; simp only [List.mem_cons, List.not_mem_nil, or_false] at hv; first | (subst hv; rfl) | (rcases hv with rfl <;> rfl)) (by decide) rfl hS (fun b56 w' hS => ?_)
   replace hFL7 := lv_s hFL7; obtain ⟨q2k, q4r, hFL7⟩ := hFL7
   replace hFL7 := ck_s hFL7; obtain ⟨q4s, hFL7⟩ := hFL7
   refine o_ap sl_27 zero_47 rfl (by decide) rfl rfl (hS.pull 6) q2c (src_blk usl_27 hS rfl rfl) (RepL.cons (R := R_rules_Via) (ρ := ρ) (x := (T_rules_Via.mk 0 0 x48 q2.1)) (cs := [.int .i64 0, .int .i64 0, .int .i64 x48, .int .i64 q2.1]) rfl RepL.nil) q4r q4s (fun A57 c57 cs57 w' hr57 hS => ?_)
   refine p (yl_field0 fld_31_5 q1z) <| ?_
   refine o_store1 (v := .slice A57 q2k.length c57) one_27 rfl rfl rfl rfl (hS.pull 5) (fun w' hS => ?_)
   replace hFL7 := lv_s hFL7; obtain ⟨x64, hx64, hFL7⟩ := hFL7
   replace hFL7 := lv_s hFL7; obtain ⟨x68, hx68, hFL7⟩ := hFL7
   refine x_done <| x_seq <| x_region <| p (yl_field0 fld_31_4 q1z) <|
    pa (at_load one_26 rfl (hS.cell rfl)) <| p (yl_move rfl) <| p (yl_move q20) <| p (yl_move rfl) <|
    p (ymin' rfl rfl hx64) <| p (yl_move rfl) <| p (yl_move q20) <| p (yl_move rfl) <|
    p (ymax' rfl rfl hx68) <| p (v := .agg #[.int .i64 0, .int .i64 1, .int .i64 x48, .int .i64 x64, .int .i64 x48, .int .i64 x68]) (yl_build bld_44 bldf_44 (parts_eq (pt (va := .int .i64 0) rfl (pt (va := .int .i64 1) rfl (pt (va := .int .i64 x48) rfl (pt (va := .int .i64 x64) rfl (pt (va := .int .i64 x48) rfl (pt (va := .int .i64 x68) rfl pt0))))))) (by kernel_rfl)) <| ?_
   refine o_buildSlice (vs := [.agg #[.int .i64 0, .int .i64 1, .int .i64 x48, .int .i64 x64, .int .i64 x48, .int .i64 x68]]) (cs := [.int .i64 0, .int .i64 1, .int .i64 x48, .int .i64 x64, .int .i64 x48, .int .i64 x68]) sl_26 zero_44 (parts_eq (pt (va := .agg #[.int .i64 0, .int .i64 1, .int .i64 x48, .int .i64 x64, .int .i64 x48, .int .i64 x68]) rfl pt0)) rfl (by intro v hv; simp only [List.mem_cons, List.not_mem_nil, or_false] at hv; first | (subst hv; rfl) | (rcases hv with rfl <;> rfl)) (by decide) rfl hS (fun b70 w' hS => ?_)
   replace hFL7 := lv_s hFL7; obtain ⟨q0e, q4j, hFL7⟩ := hFL7
   replace hFL7 := ck_s hFL7; obtain ⟨q4k, hFL7⟩ := hFL7
   refine o_ap sl_26 zero_44 rfl (by decide) rfl rfl (hS.pull 7) q2b (src_blk usl_26 hS rfl rfl) (RepL.cons (R := R_rules_Wire) (ρ := ρ) (x := (T_rules_Wire.mk 0 1 x48 x64 x48 x68)) (cs := [.int .i64 0, .int .i64 1, .int .i64 x48, .int .i64 x64, .int .i64 x48, .int .i64 x68]) rfl RepL.nil) q4j q4k (fun A71 c71 cs71 w' hr71 hS => ?_)
   refine p (yl_field0 fld_31_4 q1z) <| ?_
   refine o_store1 (v := .slice A71 q0e.length c71) one_26 rfl rfl rfl rfl (hS.pull 2) (fun w' hS => ?_)
   refine x_done <| x_seq <| x_region <| p (yl_move rfl) <|
    p (yl_move q20) <| p (yl_neq rfl rfl) <| p (yl_move rfl) <| pg (v := .pointer (some ⟨q8, 0, none⟩)) 76 (c := decide (q6.1 ≠ q2.1)) (says_t _) (fun hq => Yl.at (yl_move q2e)) <| ?_
   replace hFL7 := bd_s hFL7; obtain ⟨q4t, q0q, hFL7⟩ := hFL7
   refine x_join_ops (fun E w => ∃ (q26 : Bool) (q0n : Int), (q26, q0n) = q4t ∧ E 0 = .pointer (some ⟨q8, 0, none⟩) ∧ E 2 = .pointer (some ⟨b2, 0, none⟩) ∧ E 3 = .pointer (some ⟨b3, 0, none⟩) ∧ E 4 = .int .i64 q2.1 ∧ E 5 = .int .i64 q0c.1 ∧ E 8 = .int .i64 x48 ∧ E 9 = .int .i64 q6.1 ∧ E 40 = .int .i64 q3w.1 ∧ E 41 = .int .i64 q1u ∧ E 79 = .bool q26 ∧ St w0 w (cells q8 25 [.slice q0b s0.L.length c_s0_0, .int .i64 q0n] :: cells b2 31 [.int .i64 0, .int .i64 0, .int .i64 0, .int .i64 0, .slice none 0 0, .slice none 0 0, .slice none 0 0, .slice none 0 0] :: cells b3 31 [.int .i64 12, .int .i64 12, .int .i64 3, .int .i64 3, .slice A71 q0e.length c71, .slice A57 q2k.length c57, .slice q9 q7.length c_b3_6_L7h, .slice none 0 0] :: vec 44 R_rules_Wire.sz (.slice A71 q0e.length c71) q0e.length cs71 :: vec 47 R_rules_Via.sz (.slice A57 q2k.length c57) q2k.length cs57 :: vec 39 R_rules_Pin.sz (.slice q9 q7.length c_b3_6_L7h) q7.length q0h :: ro ρ :: l)) ?_ ?_
   ·refine x_split (decide (q6.1 ≠ q2.1)) (fun q1e => ?_) (fun q1e => ?_)
    ·replace q0q := it_t q1e q0q
     replace q0q := bd_s q0q; obtain ⟨q4i, q4u, q0q⟩ := q0q
     refine o_strip 76 true (says_lit (c := true) (Eq.trans (show _ = Value.bool (decide (q6.1 ≠ q2.1)) from rfl) (congrArg Value.bool q1e)) rfl) <| ?_
     have hcall := c_maskmake_Stream_Flip q4u q0p ((hS.pull 6).pull 6)
     refine o_cc call_33 (args2 (Eq.trans (show _ = (bif decide (q6.1 ≠ q2.1) then .pointer (some ⟨q8, 0, none⟩) else undef) from rfl) (cv q1e)) rfl) hcall ?_
     rintro e w' ⟨rfl, hS⟩
     refine ⟨_, rfl, ?_⟩
     refine p (yl_pick (b := true) (Eq.trans (show _ = Value.bool (decide (q6.1 ≠ q2.1)) from rfl) (congrArg Value.bool q1e)) (fun h => rfl) (fun h => nomatch h)) <| x_done <| ?_
     exact x_inv ⟨q4i.1, q4i.2, (sinj q0q), q2e, q45, q1z, q20, q3g, rfl, rfl, q3x, q2j, rfl, (((((((((hS.pull 4).drop.pull 5).drop.pull 1).pull 6).pull 5).pull 5).pull 5).pull 6).pull 6)⟩
    ·replace q0q := it_bf q1e q0q
     refine o_pass 78 76 true (says_lit (c := false) (Eq.trans (show _ = Value.bool (decide (q6.1 ≠ q2.1)) from rfl) (congrArg Value.bool q1e)) rfl) <| p (yl_pick (b := false) (Eq.trans (show _ = Value.bool (decide (q6.1 ≠ q2.1)) from rfl) (congrArg Value.bool q1e)) (fun h => nomatch h) (fun h => rfl)) <| x_done <| ?_
     exact x_inv ⟨false, q6.2, (sinj q0q), q2e, q45, q1z, q20, q3g, rfl, rfl, q3x, q2j, rfl, (((((((((hS.pull 2).drop.pull 3).drop.pull 4).pull 6).pull 4).pull 4).pull 4).pull 6).pull 6)⟩
   rintro E w ⟨q26, q0n, rfl, q3a, q46, q11, q47, q48, q49, q4a, q40, q41, q4e, hS⟩
   replace hFL7 := bd_s hFL7; obtain ⟨oc79, hFc79, hFL7⟩ := hFL7
   refine x_join (fun E w => ∃ (q1o : Option Addr) (q1p : Nat) (c_b3_5_c79 : Nat) (q15 : List Value) (q1q : Option Addr) (q1r : Nat) (c_b3_6_c79 : Nat) (q16 : List Value) (q1s : Int) (q21 : List T_rules_Via) (q22 : List T_rules_Pin), (q1s, q21, q22) = oc79 ∧ E 0 = .pointer (some ⟨q8, 0, none⟩) ∧ E 2 = .pointer (some ⟨b2, 0, none⟩) ∧ E 3 = .pointer (some ⟨b3, 0, none⟩) ∧ E 4 = .int .i64 q2.1 ∧ E 5 = .int .i64 q0c.1 ∧ E 40 = .int .i64 q3w.1 ∧ E 41 = .int .i64 q1u ∧ RepL R_rules_Via ρ q21 q15 ∧ RepL R_rules_Pin ρ q22 q16 ∧ St w0 w (cells q8 25 [.slice q0b s0.L.length c_s0_0, .int .i64 q1s] :: cells b2 31 [.int .i64 0, .int .i64 0, .int .i64 0, .int .i64 0, .slice none 0 0, .slice none 0 0, .slice none 0 0, .slice none 0 0] :: cells b3 31 [.int .i64 12, .int .i64 12, .int .i64 3, .int .i64 3, .slice A71 q0e.length c71, .slice q1o q1p c_b3_5_c79, .slice q1q q1r c_b3_6_c79, .slice none 0 0] :: vec 44 R_rules_Wire.sz (.slice A71 q0e.length c71) q0e.length cs71 :: vec 47 R_rules_Via.sz (.slice q1o q1p c_b3_5_c79) q1p q15 :: vec 39 R_rules_Pin.sz (.slice q1q q1r c_b3_6_c79) q1r q16 :: ro ρ :: l)) ?_ ?_
   ·refine x_cond (t := q26) q4e (fun hc79 => ?_) (fun hc79 => ?_)
    ·replace hFc79 := it_t hc79 hFc79
     refine x_seq <| x_region <| p (yl_field0 fld_31_5 q11) <| pa (at_load one_27 rfl ((hS.pull 2).cell rfl)) <|
      p (yl_move q49) <| p (yl_move q4a) <| p (v := .agg #[.int .i64 0, .int .i64 0, .int .i64 x48, .int .i64 q6.1]) (yl_build bld_47 bldf_47 (parts_eq (pt (va := .int .i64 0) rfl (pt (va := .int .i64 0) rfl (pt (va := .int .i64 x48) rfl (pt (va := .int .i64 q6.1) rfl pt0))))) (by kernel_rfl)) <| ?_
     refine o_buildSlice (vs := [.agg #[.int .i64 0, .int .i64 0, .int .i64 x48, .int .i64 q6.1]]) (cs := [.int .i64 0, .int .i64 0, .int .i64 x48, .int .i64 q6.1]) sl_27 zero_47 (parts_eq (pt (va := .agg #[.int .i64 0, .int .i64 0, .int .i64 x48, .int .i64 q6.1]) rfl pt0)) rfl (by intro v hv; simp only [List.mem_cons, List.not_mem_nil, or_false] at hv; first | (subst hv; rfl) | (rcases hv with rfl <;> rfl)) (by decide) rfl hS (fun b85 w' hS => ?_)
     replace hFc79 := lv_s hFc79; obtain ⟨q17, q4v, hFc79⟩ := hFc79
     replace hFc79 := ck_s hFc79; obtain ⟨q4w, hFc79⟩ := hFc79
     refine o_ap sl_27 zero_47 rfl (by decide) rfl rfl (hS.pull 5) hr57 (src_blk usl_27 hS rfl rfl) (RepL.cons (R := R_rules_Via) (ρ := ρ) (x := (T_rules_Via.mk 0 0 x48 q6.1)) (cs := [.int .i64 0, .int .i64 0, .int .i64 x48, .int .i64 q6.1]) rfl RepL.nil) q4v q4w (fun A86 c86 cs86 w' hr86 hS => ?_)
     refine p (yl_field0 fld_31_5 q11) <| ?_
     refine o_store1 (v := .slice A86 q17.length c86) one_27 rfl rfl rfl rfl (hS.pull 4) (fun w' hS => ?_)
     refine x_done <| ?_
     replace hFc79 := bd_s hFc79; obtain ⟨q0f, q4x, hFc79⟩ := hFc79
     replace hFc79 := lv_s hFc79; obtain ⟨q0m, q4y, hFc79⟩ := hFc79
     replace hFc79 := ck_s hFc79; obtain ⟨q4z, hFc79⟩ := hFc79
     refine x_par (w0 := w0) [⟨[], [], [88], [], [], [], none⟩, ⟨[0], [0], [89], [0], [], [], none⟩, ⟨[], [], [90], [], [], [], none⟩, ⟨[], [], [91], [], [], [], none⟩, ⟨[], [], [92], [], [], [], none⟩, ⟨[4], [4], [93], [2], [1], [3], none⟩, ⟨[2, 3, 4, 5], [2, 3, 5], [94], [], [], [], none⟩, ⟨[2, 3, 4, 5, 6], [6], [95], [], [], [4], none⟩, ⟨[0, 1, 2, 3, 4, 5, 6, 7], [1, 7], [96], [4, 2], [5], [6], none⟩, ⟨[0, 1, 2, 3, 4, 5, 6, 7, 8], [], [97], [], [], [], none⟩, ⟨[0, 1, 2, 3, 4, 5, 6, 7, 8, 9], [8, 9], [], [], [0], [7], none⟩] [⟨none, (some 10), []⟩, ⟨none, (some 5), []⟩, ⟨none, none, []⟩, ⟨(some 5), none, []⟩, ⟨(some 7), none, [95]⟩, ⟨none, (some 8), []⟩, ⟨(some 8), none, [96]⟩, ⟨(some 10), none, [96]⟩] [88, 89, 90, 91, 92, 93, 94, 95, 96, 97] [0, 1, 2, 5] [2, 3, 4, 6, 7] [0, 1, 2, 3, 4, 5, 6, 7, 8, 9] [fun Ep15 => Ep15 88 = .pointer (some ⟨b3, 6, none⟩), fun Ep15 => Ep15 89 = .slice q9 q7.length c_b3_6_L7h, fun Ep15 => Ep15 90 = .int .i64 x48, fun Ep15 => Ep15 91 = .int .i64 q6.1, fun Ep15 => Ep15 92 = .pointer (some ⟨q8, 0, none⟩), fun Ep15 => Ep15 93 = .int .i64 q0f.1, fun Ep15 => Ep15 94 = .agg #[.int .i64 0, .int .i64 x48, .int .i64 q6.1, .bool false, .int .i64 q0f.1], fun Ep15 => Ep15 95 = .slice (some ⟨(blkOf (Ep15 95)), 0, none⟩) 1 1, fun Ep15 => Ep15 96 = .slice (adOf (Ep15 96)) q0m.length (capOf (Ep15 96)), fun Ep15 => Ep15 97 = .pointer (some ⟨b3, 6, none⟩), fun Ep15 => True] [fun Ep15 => cells b3 31 [.int .i64 12, .int .i64 12, .int .i64 3, .int .i64 3, .slice A71 q0e.length c71, .slice A86 q17.length c86, .slice q9 q7.length c_b3_6_L7h, .slice none 0 0], fun Ep15 => cells q8 25 [.slice q0b s0.L.length c_s0_0, .int .i64 q0n], fun Ep15 => ro ρ, fun Ep15 => cells q8 25 [.slice q0b s0.L.length c_s0_0, .int .i64 q0f.2], fun Ep15 => cells (blkOf (Ep15 95)) 39 [.int .i64 0, .int .i64 x48, .int .i64 q6.1, .bool false, .int .i64 q0f.1], fun Ep15 => vec 39 R_rules_Pin.sz (.slice q9 q7.length c_b3_6_L7h) q7.length q0h, fun Ep15 => bunA (fun (cs96 : List Value) => RepL R_rules_Pin ρ q0m cs96) (fun (cs96 : List Value) => [vec 39 R_rules_Pin.sz (.slice (adOf (Ep15 96)) q0m.length (capOf (Ep15 96))) q0m.length cs96]), fun Ep15 => cells b3 31 [.int .i64 12, .int .i64 12, .int .i64 3, .int .i64 3, .slice A71 q0e.length c71, .slice A86 q17.length c86, .slice (adOf (Ep15 96)) q0m.length (capOf (Ep15 96)), .slice none 0 0]] mixed (by kernel_rfl) ((((hS.pull 6).pull 7).pull 5).pull 3) ?_ ?_
     ·refine ⟨?_, ?_, ?_, ?_, ?_, ?_, ?_, ?_, ?_, ?_, ?_, trivial⟩
      ·intro Ep15 w l' hE15 hO15 hF_ hS
       refine p (yl_field0 fld_31_6 ((hE15 3 rfl).trans q11)) <| x_done <| ?_
       refine x_fin ⟨⟨_, rfl⟩, rfl, ?_⟩
       exact emk hS
      ·intro Ep15 w l' hE15 hO15 hF_ hS
       obtain ⟨q2l, -⟩ := hF_
       replace q2l : Ep15 88 = .pointer (some ⟨b3, 6, none⟩) := emk q2l
       replace hS : St w0 w (cells b3 31 [.int .i64 12, .int .i64 12, .int .i64 3, .int .i64 3, .slice A71 q0e.length c71, .slice A86 q17.length c86, .slice q9 q7.length c_b3_6_L7h, .slice none 0 0] :: l') := emk hS
       refine pa (at_load one_28 q2l (hS.cell rfl)) <| x_done <| ?_
       refine x_fin ⟨⟨_, rfl⟩, rfl, ?_⟩
       exact emk hS
      ·intro Ep15 w l' hE15 hO15 hF_ hS
       refine p (yl_move ((hE15 8 rfl).trans q49)) <| x_done <| ?_
       refine x_fin ⟨⟨_, rfl⟩, rfl, ?_⟩
       exact emk hS
      ·intro Ep15 w l' hE15 hO15 hF_ hS
       refine p (yl_move ((hE15 9 rfl).trans q4a)) <| x_done <| ?_
       refine x_fin ⟨⟨_, rfl⟩, rfl, ?_⟩
       exact emk hS
      ·intro Ep15 w l' hE15 hO15 hF_ hS
       refine p (yl_move ((hE15 0 rfl).trans q3a)) <| x_done <| ?_
       refine x_fin ⟨⟨_, rfl⟩, rfl, ?_⟩
       exact emk hS
      ·intro Ep15 w l' hE15 hO15 hF_ hS
       obtain ⟨q2m, -⟩ := hF_
       replace q2m : Ep15 92 = .pointer (some ⟨q8, 0, none⟩) := emk q2m
       replace hS : St w0 w (ro ρ :: cells q8 25 [.slice q0b s0.L.length c_s0_0, .int .i64 q0n] :: l') := emk hS
       have hcall := c_maskmake_Stream_Next q4x q0p (hS.pull 1)
       refine o_cc call_9 (args2 q2m rfl) hcall ?_
       rintro e w' ⟨rfl, hS⟩
       refine ⟨_, rfl, ?_⟩
       refine x_done <| ?_
       refine x_fin ⟨⟨_, rfl⟩, rfl, ?_⟩
       exact emk (hS.pull 1)
      ·intro Ep15 w l' hE15 hO15 hF_ hS
       obtain ⟨q2n, q2o, q2p, -⟩ := hF_
       replace q2n : Ep15 90 = .int .i64 x48 := emk q2n
       replace q2o : Ep15 91 = .int .i64 q6.1 := emk q2o
       replace q2p : Ep15 93 = .int .i64 q0f.1 := emk q2p
       refine p (v := .agg #[.int .i64 0, .int .i64 x48, .int .i64 q6.1, .bool false, .int .i64 q0f.1]) (yl_build bld_39 bldf_39 (parts_eq (pt (va := .int .i64 0) rfl (pt (va := .int .i64 x48) q2n (pt (va := .int .i64 q6.1) q2o (pt (va := .int .i64 q0f.1) q2p pt0))))) (by kernel_rfl)) <| x_done <| ?_
       refine x_fin ⟨⟨_, rfl⟩, rfl, ?_⟩
       exact emk hS
      ·intro Ep15 w l' hE15 hO15 hF_ hS
       obtain ⟨q2q, -⟩ := hF_
       replace q2q : Ep15 94 = .agg #[.int .i64 0, .int .i64 x48, .int .i64 q6.1, .bool false, .int .i64 q0f.1] := emk q2q
       refine o_buildSlice (vs := [.agg #[.int .i64 0, .int .i64 x48, .int .i64 q6.1, .bool false, .int .i64 q0f.1]]) (cs := [.int .i64 0, .int .i64 x48, .int .i64 q6.1, .bool false, .int .i64 q0f.1]) sl_28 zero_39 (parts_eq (pt (va := .agg #[.int .i64 0, .int .i64 x48, .int .i64 q6.1, .bool false, .int .i64 q0f.1]) q2q pt0)) rfl (by intro v hv; simp only [List.mem_cons, List.not_mem_nil, or_false] at hv; first | (subst hv; rfl) | (rcases hv with rfl <;> rfl)) (by decide) rfl hS (fun b95 w' hS => ?_)
       refine x_done <| ?_
       refine x_fin ⟨⟨_, rfl⟩, rfl, ?_⟩
       exact emk hS
      ·intro Ep15 w l' hE15 hO15 hF_ hS
       obtain ⟨q2r, q2s, -⟩ := hF_
       replace q2r : Ep15 89 = .slice q9 q7.length c_b3_6_L7h := emk q2r
       replace q2s : Ep15 95 = .slice (some ⟨(blkOf (Ep15 95)), 0, none⟩) 1 1 := emk q2s
       replace hS : St w0 w (cells (blkOf (Ep15 95)) 39 [.int .i64 0, .int .i64 x48, .int .i64 q6.1, .bool false, .int .i64 q0f.1] :: ro ρ :: vec 39 R_rules_Pin.sz (.slice q9 q7.length c_b3_6_L7h) q7.length q0h :: l') := emk hS
       refine o_ap sl_28 zero_39 rfl (by decide) q2r q2s (hS.pull 2) q1n (src_blk usl_28 hS rfl rfl) (RepL.cons (R := R_rules_Pin) (ρ := ρ) (x := (T_rules_Pin.mk 0 x48 q6.1 false q0f.1)) (cs := [.int .i64 0, .int .i64 x48, .int .i64 q6.1, .bool false, .int .i64 q0f.1]) rfl RepL.nil) q4y q4z (fun A96 c96 cs96 w' hr96 hS => ?_)
       refine x_done <| ?_
       refine x_fin ⟨⟨_, rfl⟩, rfl, ?_⟩
       replace hS := St.bun (Φ := (fun (cs96 : List Value) => RepL R_rules_Pin ρ q0m cs96)) (L := (fun (cs96 : List Value) => [vec 39 R_rules_Pin.sz (.slice A96 q0m.length c96) q0m.length cs96])) cs96 hr96 hS
       exact emk ((hS.pull 2).pull 2)
      ·intro Ep15 w l' hE15 hO15 hF_ hS
       refine p (yl_field0 fld_31_6 ((hE15 3 rfl).trans q11)) <| x_done <| ?_
       refine x_fin ⟨⟨_, rfl⟩, rfl, ?_⟩
       exact emk hS
      ·intro Ep15 w l' hE15 hO15 hF_ hS
       obtain ⟨q2t, q2u, -⟩ := hF_
       replace q2t : Ep15 96 = .slice (adOf (Ep15 96)) q0m.length (capOf (Ep15 96)) := emk q2t
       replace q2u : Ep15 97 = .pointer (some ⟨b3, 6, none⟩) := emk q2u
       replace hS : St w0 w (cells b3 31 [.int .i64 12, .int .i64 12, .int .i64 3, .int .i64 3, .slice A71 q0e.length c71, .slice A86 q17.length c86, .slice q9 q7.length c_b3_6_L7h, .slice none 0 0] :: l') := emk hS
       refine o_store1 (v := .slice (adOf (Ep15 96)) q0m.length (capOf (Ep15 96))) one_28 q2u q2t rfl rfl hS (fun w' hS => ?_)
       refine x_done <| ?_
       refine x_fin ⟨⟨undef, rfl⟩, trivial, ?_⟩
       exact emk hS
     intro Ep15 w' hE15 hF_ hS
     obtain ⟨q2l, q2r, q2n, q2o, q2m, q2p, q2q, q2s, q2t, q2u, -⟩ := hF_
     replace q2l : Ep15 88 = .pointer (some ⟨b3, 6, none⟩) := emk q2l
     replace q2r : Ep15 89 = .slice q9 q7.length c_b3_6_L7h := emk q2r
     replace q2n : Ep15 90 = .int .i64 x48 := emk q2n
     replace q2o : Ep15 91 = .int .i64 q6.1 := emk q2o
     replace q2m : Ep15 92 = .pointer (some ⟨q8, 0, none⟩) := emk q2m
     replace q2p : Ep15 93 = .int .i64 q0f.1 := emk q2p
     replace q2q : Ep15 94 = .agg #[.int .i64 0, .int .i64 x48, .int .i64 q6.1, .bool false, .int .i64 q0f.1] := emk q2q
     replace q2s : Ep15 95 = .slice (some ⟨(blkOf (Ep15 95)), 0, none⟩) 1 1 := emk q2s
     replace q2t : Ep15 96 = .slice (adOf (Ep15 96)) q0m.length (capOf (Ep15 96)) := emk q2t
     replace q2u : Ep15 97 = .pointer (some ⟨b3, 6, none⟩) := emk q2u
     replace hS : St w0 w' (ro ρ :: cells q8 25 [.slice q0b s0.L.length c_s0_0, .int .i64 q0f.2] :: cells (blkOf (Ep15 95)) 39 [.int .i64 0, .int .i64 x48, .int .i64 q6.1, .bool false, .int .i64 q0f.1] :: bunA (fun (cs96 : List Value) => RepL R_rules_Pin ρ q0m cs96) (fun (cs96 : List Value) => [vec 39 R_rules_Pin.sz (.slice (adOf (Ep15 96)) q0m.length (capOf (Ep15 96))) q0m.length cs96]) :: cells b3 31 [.int .i64 12, .int .i64 12, .int .i64 3, .int .i64 3, .slice A71 q0e.length c71, .slice A86 q17.length c86, .slice (adOf (Ep15 96)) q0m.length (capOf (Ep15 96)), .slice none 0 0] :: (vec 47 R_rules_Via.sz (.slice A86 q17.length c86) q17.length cs86 :: cells b85 47 [.int .i64 0, .int .i64 0, .int .i64 x48, .int .i64 q6.1] :: cells b2 31 [.int .i64 0, .int .i64 0, .int .i64 0, .int .i64 0, .slice none 0 0, .slice none 0 0, .slice none 0 0, .slice none 0 0] :: vec 44 R_rules_Wire.sz (.slice A71 q0e.length c71) q0e.length cs71 :: l)) := emk hS
     have q_ := St.unbun (hS.pull 3); obtain ⟨cs96, hr96, hS⟩ := q_
     exact x_inv ⟨A86, q17.length, c86, cs86, (adOf (Ep15 96)), q0m.length, (capOf (Ep15 96)), cs96, q0f.2, q17, q0m, (sinj hFc79), ((hE15 0 rfl).trans q3a), ((hE15 2 rfl).trans q46), ((hE15 3 rfl).trans q11), ((hE15 4 rfl).trans q47), ((hE15 5 rfl).trans q48), ((hE15 40 rfl).trans q40), ((hE15 41 rfl).trans q41), hr86, hr96, (((((((((hS.pull 3).drop.pull 5).drop.pull 1).pull 1).pull 4).pull 6).pull 5).pull 6).pull 6)⟩
    ·replace hFc79 := it_bf hc79 hFc79
     refine x_skip <| ?_
     exact x_inv ⟨A57, q2k.length, c57, cs57, q9, q7.length, c_b3_6_L7h, q0h, q0n, q2k, q7, (sinj hFc79), q3a, q46, q11, q47, q48, q40, q41, hr57, q1n, (((((((hS.pull 6).pull 6).pull 6).pull 6).pull 6).pull 6).pull 6)⟩
   rintro E w ⟨q1o, q1p, c_b3_5_c79, q15, q1q, q1r, c_b3_6_c79, q16, q1s, q21, q22, rfl, q50, q51, q52, q53, q54, q4l, q4m, q3h, q3i, hS⟩
   have e_ := St.vec_n (hS.pull 4) q3h; subst e_
   have e_ := St.vec_n (hS.pull 5) q3i; subst e_
   replace hFL7 := ar_s hFL7; obtain ⟨x98, hx98, hFL7⟩ := hFL7
   refine x_blk <| x_region <| p (yadd q4m rfl hx98) <| p (yl_move rfl) <|
    x_done <| ?_
   have e_ := sinj hFL7; subst e_
   exact x_inv ⟨kL7, Nat.lt_succ_self _, A71, q0e.length, c71, cs71, q1o, q21.length, c_b3_5_c79, q15, q1q, q22.length, c_b3_6_c79, q16, x98, q1s, q0e, q21, q22, hLL7, q50, q51, q52, q53, q54, q4l, rfl, hr71, q3h, q3i, (((((((hS.pull 6).pull 6).pull 6).pull 6).pull 6).pull 6).pull 6)⟩
  ·replace hFL7 := it_f hc42 hFL7
   refine x_exitTo _ rfl <| ?_
   have e_ := sinj hFL7; subst e_
   exact x_inv ⟨q1h, q1x.length, c_b3_4_L7h, q13, q1j, q1y.length, c_b3_5_L7h, q14, q9, q7.length, c_b3_6_L7h, q0h, q1m, q1x, q1y, q7, hLL7, q2e, q45, q1z, q20, q3g, q2b, q2c, q1n, (((((((hS.pull 6).pull 6).pull 6).pull 6).pull 6).pull 6).pull 6)⟩
 rintro E w ⟨q0g, q23, c_b3_4_L7, q0x, q4, q24, c_b3_5_L7, q0l, q0d, q25, c_b3_6_L7, q0y, q1d, q0k, q5, q0i, rfl, q4b, q5m, q4c, q5n, q5o, q42, q2f, q43, hS⟩
 have e_ := St.vec_n (hS.pull 3) q42; subst e_
 have e_ := St.vec_n (hS.pull 4) q2f; subst e_
 have e_ := St.vec_n (hS.pull 5) q43; subst e_
 refine x_seq <| ?_
 replace hF := bd_s hF; obtain ⟨q0j, q55, hF⟩ := hF
 replace hF := lv_s hF; obtain ⟨q0a, q56, hF⟩ := hF
 replace hF := ck_s hF; obtain ⟨q57, hF⟩ := hF
 refine x_par (w0 := w0) [⟨[], [], [99], [], [], [], none⟩, ⟨[0], [0], [100], [0], [], [], none⟩, ⟨[], [], [101], [], [], [], none⟩, ⟨[], [], [102], [], [], [], none⟩, ⟨[], [], [103], [], [], [], none⟩, ⟨[4], [4], [104], [2], [1], [3], none⟩, ⟨[2, 3, 4, 5], [2, 3, 5], [105], [], [], [], none⟩, ⟨[2, 3, 4, 5, 6], [6], [106], [], [], [4], none⟩, ⟨[0, 1, 2, 3, 4, 5, 6, 7], [1, 7], [107], [4, 2], [5], [6], none⟩, ⟨[0, 1, 2, 3, 4, 5, 6, 7, 8], [], [108], [], [], [], none⟩, ⟨[0, 1, 2, 3, 4, 5, 6, 7, 8, 9], [8, 9], [], [], [0], [7], none⟩] [⟨none, (some 10), []⟩, ⟨none, (some 5), []⟩, ⟨none, none, []⟩, ⟨(some 5), none, []⟩, ⟨(some 7), none, [106]⟩, ⟨none, (some 8), []⟩, ⟨(some 8), none, [107]⟩, ⟨(some 10), none, [107]⟩] [99, 100, 101, 102, 103, 104, 105, 106, 107, 108] [0, 1, 2, 5] [2, 3, 4, 6, 7] [0, 1, 2, 3, 4, 5, 6, 7, 8, 9] [fun Ep17 => Ep17 99 = .pointer (some ⟨b3, 6, none⟩), fun Ep17 => Ep17 100 = .slice q0d q0i.length c_b3_6_L7, fun Ep17 => Ep17 101 = .int .i64 q0c.1, fun Ep17 => Ep17 102 = .int .i64 q2.1, fun Ep17 => Ep17 103 = .pointer (some ⟨q8, 0, none⟩), fun Ep17 => Ep17 104 = .int .i64 q0j.1, fun Ep17 => Ep17 105 = .agg #[.int .i64 0, .int .i64 q0c.1, .int .i64 q2.1, .bool false, .int .i64 q0j.1], fun Ep17 => Ep17 106 = .slice (some ⟨(blkOf (Ep17 106)), 0, none⟩) 1 1, fun Ep17 => Ep17 107 = .slice (adOf (Ep17 107)) q0a.length (capOf (Ep17 107)), fun Ep17 => Ep17 108 = .pointer (some ⟨b3, 6, none⟩), fun Ep17 => True] [fun Ep17 => cells b3 31 [.int .i64 12, .int .i64 12, .int .i64 3, .int .i64 3, .slice q0g q0k.length c_b3_4_L7, .slice q4 q5.length c_b3_5_L7, .slice q0d q0i.length c_b3_6_L7, .slice none 0 0], fun Ep17 => cells q8 25 [.slice q0b s0.L.length c_s0_0, .int .i64 q1d], fun Ep17 => ro ρ, fun Ep17 => cells q8 25 [.slice q0b s0.L.length c_s0_0, .int .i64 q0j.2], fun Ep17 => cells (blkOf (Ep17 106)) 39 [.int .i64 0, .int .i64 q0c.1, .int .i64 q2.1, .bool false, .int .i64 q0j.1], fun Ep17 => vec 39 R_rules_Pin.sz (.slice q0d q0i.length c_b3_6_L7) q0i.length q0y, fun Ep17 => bunA (fun (cs107 : List Value) => RepL R_rules_Pin ρ q0a cs107) (fun (cs107 : List Value) => [vec 39 R_rules_Pin.sz (.slice (adOf (Ep17 107)) q0a.length (capOf (Ep17 107))) q0a.length cs107]), fun Ep17 => cells b3 31 [.int .i64 12, .int .i64 12, .int .i64 3, .int .i64 3, .slice q0g q0k.length c_b3_4_L7, .slice q4 q5.length c_b3_5_L7, .slice (adOf (Ep17 107)) q0a.length (capOf (Ep17 107)), .slice none 0 0]] mixed (by kernel_rfl) ((((hS.pull 5).pull 6).pull 2).pull 4) ?_ ?_
 ·refine ⟨?_, ?_, ?_, ?_, ?_, ?_, ?_, ?_, ?_, ?_, ?_, trivial⟩
  ·intro Ep17 w l' hE17 hO17 hF_ hS
   refine p (yl_field0 fld_31_6 ((hE17 3 rfl).trans q4c)) <| x_done <| ?_
   refine x_fin ⟨⟨_, rfl⟩, rfl, ?_⟩
   exact emk hS
  ·intro Ep17 w l' hE17 hO17 hF_ hS
   obtain ⟨q2v, -⟩ := hF_
   replace q2v : Ep17 99 = .pointer (some ⟨b3, 6, none⟩) := emk q2v
   replace hS : St w0 w (cells b3 31 [.int .i64 12, .int .i64 12, .int .i64 3, .int .i64 3, .slice q0g q0k.length c_b3_4_L7, .slice q4 q5.length c_b3_5_L7, .slice q0d q0i.length c_b3_6_L7, .slice none 0 0] :: l') := emk hS
   refine pa (at_load one_28 q2v (hS.cell rfl)) <| x_done <| ?_
   refine x_fin ⟨⟨_, rfl⟩, rfl, ?_⟩
   exact emk hS
  ·intro Ep17 w l' hE17 hO17 hF_ hS
   refine p (yl_move ((hE17 5 rfl).trans q5o)) <| x_done <| ?_
   refine x_fin ⟨⟨_, rfl⟩, rfl, ?_⟩
   exact emk hS
  ·intro Ep17 w l' hE17 hO17 hF_ hS
   refine p (yl_move ((hE17 4 rfl).trans q5n)) <| x_done <| ?_
   refine x_fin ⟨⟨_, rfl⟩, rfl, ?_⟩
   exact emk hS
  ·intro Ep17 w l' hE17 hO17 hF_ hS
   refine p (yl_move ((hE17 0 rfl).trans q4b)) <| x_done <| ?_
   refine x_fin ⟨⟨_, rfl⟩, rfl, ?_⟩
   exact emk hS
  ·intro Ep17 w l' hE17 hO17 hF_ hS
   obtain ⟨q2w, -⟩ := hF_
   replace q2w : Ep17 103 = .pointer (some ⟨q8, 0, none⟩) := emk q2w
   replace hS : St w0 w (ro ρ :: cells q8 25 [.slice q0b s0.L.length c_s0_0, .int .i64 q1d] :: l') := emk hS
   have hcall := c_maskmake_Stream_Next q55 q0p (hS.pull 1)
   refine o_cc call_9 (args2 q2w rfl) hcall ?_
   rintro e w' ⟨rfl, hS⟩
   refine ⟨_, rfl, ?_⟩
   refine x_done <| ?_
   refine x_fin ⟨⟨_, rfl⟩, rfl, ?_⟩
   exact emk (hS.pull 1)
  ·intro Ep17 w l' hE17 hO17 hF_ hS
   obtain ⟨q2x, q2y, q2z, -⟩ := hF_
   replace q2x : Ep17 101 = .int .i64 q0c.1 := emk q2x
   replace q2y : Ep17 102 = .int .i64 q2.1 := emk q2y
   replace q2z : Ep17 104 = .int .i64 q0j.1 := emk q2z
   refine p (v := .agg #[.int .i64 0, .int .i64 q0c.1, .int .i64 q2.1, .bool false, .int .i64 q0j.1]) (yl_build bld_39 bldf_39 (parts_eq (pt (va := .int .i64 0) rfl (pt (va := .int .i64 q0c.1) q2x (pt (va := .int .i64 q2.1) q2y (pt (va := .int .i64 q0j.1) q2z pt0))))) (by kernel_rfl)) <| x_done <| ?_
   refine x_fin ⟨⟨_, rfl⟩, rfl, ?_⟩
   exact emk hS
  ·intro Ep17 w l' hE17 hO17 hF_ hS
   obtain ⟨q30, -⟩ := hF_
   replace q30 : Ep17 105 = .agg #[.int .i64 0, .int .i64 q0c.1, .int .i64 q2.1, .bool false, .int .i64 q0j.1] := emk q30
   refine o_buildSlice (vs := [.agg #[.int .i64 0, .int .i64 q0c.1, .int .i64 q2.1, .bool false, .int .i64 q0j.1]]) (cs := [.int .i64 0, .int .i64 q0c.1, .int .i64 q2.1, .bool false, .int .i64 q0j.1]) sl_28 zero_39 (parts_eq (pt (va := .agg #[.int .i64 0, .int .i64 q0c.1, .int .i64 q2.1, .bool false, .int .i64 q0j.1]) q30 pt0)) rfl (by intro v hv; simp only [List.mem_cons, List.not_mem_nil, or_false] at hv; first | (subst hv; rfl) | (rcases hv with rfl <;> rfl)) (by decide) rfl hS (fun b106 w' hS => ?_)
   refine x_done <| ?_
   refine x_fin ⟨⟨_, rfl⟩, rfl, ?_⟩
   exact emk hS
  ·intro Ep17 w l' hE17 hO17 hF_ hS
   obtain ⟨q31, q32, -⟩ := hF_
   replace q31 : Ep17 100 = .slice q0d q0i.length c_b3_6_L7 := emk q31
   replace q32 : Ep17 106 = .slice (some ⟨(blkOf (Ep17 106)), 0, none⟩) 1 1 := emk q32
   replace hS : St w0 w (cells (blkOf (Ep17 106)) 39 [.int .i64 0, .int .i64 q0c.1, .int .i64 q2.1, .bool false, .int .i64 q0j.1] :: ro ρ :: vec 39 R_rules_Pin.sz (.slice q0d q0i.length c_b3_6_L7) q0i.length q0y :: l') := emk hS
   refine o_ap sl_28 zero_39 rfl (by decide) q31 q32 (hS.pull 2) q43 (src_blk usl_28 hS rfl rfl) (RepL.cons (R := R_rules_Pin) (ρ := ρ) (x := (T_rules_Pin.mk 0 q0c.1 q2.1 false q0j.1)) (cs := [.int .i64 0, .int .i64 q0c.1, .int .i64 q2.1, .bool false, .int .i64 q0j.1]) rfl RepL.nil) q56 q57 (fun A107 c107 cs107 w' hr107 hS => ?_)
   refine x_done <| ?_
   refine x_fin ⟨⟨_, rfl⟩, rfl, ?_⟩
   replace hS := St.bun (Φ := (fun (cs107 : List Value) => RepL R_rules_Pin ρ q0a cs107)) (L := (fun (cs107 : List Value) => [vec 39 R_rules_Pin.sz (.slice A107 q0a.length c107) q0a.length cs107])) cs107 hr107 hS
   exact emk ((hS.pull 2).pull 2)
  ·intro Ep17 w l' hE17 hO17 hF_ hS
   refine p (yl_field0 fld_31_6 ((hE17 3 rfl).trans q4c)) <| x_done <| ?_
   refine x_fin ⟨⟨_, rfl⟩, rfl, ?_⟩
   exact emk hS
  ·intro Ep17 w l' hE17 hO17 hF_ hS
   obtain ⟨q33, q34, -⟩ := hF_
   replace q33 : Ep17 107 = .slice (adOf (Ep17 107)) q0a.length (capOf (Ep17 107)) := emk q33
   replace q34 : Ep17 108 = .pointer (some ⟨b3, 6, none⟩) := emk q34
   replace hS : St w0 w (cells b3 31 [.int .i64 12, .int .i64 12, .int .i64 3, .int .i64 3, .slice q0g q0k.length c_b3_4_L7, .slice q4 q5.length c_b3_5_L7, .slice q0d q0i.length c_b3_6_L7, .slice none 0 0] :: l') := emk hS
   refine o_store1 (v := .slice (adOf (Ep17 107)) q0a.length (capOf (Ep17 107))) one_28 q34 q33 rfl rfl hS (fun w' hS => ?_)
   refine x_done <| ?_
   refine x_fin ⟨⟨undef, rfl⟩, trivial, ?_⟩
   exact emk hS
 intro Ep17 w' hE17 hF_ hS
 obtain ⟨q2v, q31, q2x, q2y, q2w, q2z, q30, q32, q33, q34, -⟩ := hF_
 replace q2v : Ep17 99 = .pointer (some ⟨b3, 6, none⟩) := emk q2v
 replace q31 : Ep17 100 = .slice q0d q0i.length c_b3_6_L7 := emk q31
 replace q2x : Ep17 101 = .int .i64 q0c.1 := emk q2x
 replace q2y : Ep17 102 = .int .i64 q2.1 := emk q2y
 replace q2w : Ep17 103 = .pointer (some ⟨q8, 0, none⟩) := emk q2w
 replace q2z : Ep17 104 = .int .i64 q0j.1 := emk q2z
 replace q30 : Ep17 105 = .agg #[.int .i64 0, .int .i64 q0c.1, .int .i64 q2.1, .bool false, .int .i64 q0j.1] := emk q30
 replace q32 : Ep17 106 = .slice (some ⟨(blkOf (Ep17 106)), 0, none⟩) 1 1 := emk q32
 replace q33 : Ep17 107 = .slice (adOf (Ep17 107)) q0a.length (capOf (Ep17 107)) := emk q33
 replace q34 : Ep17 108 = .pointer (some ⟨b3, 6, none⟩) := emk q34
 replace hS : St w0 w' (ro ρ :: cells q8 25 [.slice q0b s0.L.length c_s0_0, .int .i64 q0j.2] :: cells (blkOf (Ep17 106)) 39 [.int .i64 0, .int .i64 q0c.1, .int .i64 q2.1, .bool false, .int .i64 q0j.1] :: bunA (fun (cs107 : List Value) => RepL R_rules_Pin ρ q0a cs107) (fun (cs107 : List Value) => [vec 39 R_rules_Pin.sz (.slice (adOf (Ep17 107)) q0a.length (capOf (Ep17 107))) q0a.length cs107]) :: cells b3 31 [.int .i64 12, .int .i64 12, .int .i64 3, .int .i64 3, .slice q0g q0k.length c_b3_4_L7, .slice q4 q5.length c_b3_5_L7, .slice (adOf (Ep17 107)) q0a.length (capOf (Ep17 107)), .slice none 0 0] :: (cells b2 31 [.int .i64 0, .int .i64 0, .int .i64 0, .int .i64 0, .slice none 0 0, .slice none 0 0, .slice none 0 0, .slice none 0 0] :: vec 44 R_rules_Wire.sz (.slice q0g q0k.length c_b3_4_L7) q0k.length q0x :: vec 47 R_rules_Via.sz (.slice q4 q5.length c_b3_5_L7) q5.length q0l :: l)) := emk hS
 have q_ := St.unbun (hS.pull 3); obtain ⟨cs107, hr107, hS⟩ := q_
 replace hF := bd_s hF; obtain ⟨q3j, q58, hF⟩ := hF
 refine x_seq <| x_seq <| x_region <| p (yl_move ((hE17 0 rfl).trans q4b)) <| ?_
 have hcall := c_maskmake_Stream_Next q58 q0p ((hS.pull 1).pull 2)
 refine o_cc call_9 (args2 rfl rfl) hcall ?_
 rintro e w' ⟨rfl, hS⟩
 refine ⟨_, rfl, ?_⟩
 refine p (yl_move rfl) <| x_done <| ?_
 replace hF := bd_s hF; obtain ⟨oL19, hLL19, hF⟩ := hF
 refine x_join (fun E w => ∃ (q0v : Option Addr) (q1t : Nat) (c_b3_4_L19 : Nat) (q18 : List Value) (q12 : List T_rules_Wire) (q2d : Int), (q12, q2d) = oL19 ∧ E 2 = .pointer (some ⟨b2, 0, none⟩) ∧ E 3 = .pointer (some ⟨b3, 0, none⟩) ∧ RepL R_rules_Wire ρ q12 q18 ∧ St w0 w (cells b2 31 [.int .i64 0, .int .i64 0, .int .i64 0, .int .i64 0, .slice none 0 0, .slice none 0 0, .slice none 0 0, .slice none 0 0] :: cells b3 31 [.int .i64 12, .int .i64 12, .int .i64 3, .int .i64 3, .slice q0v q1t c_b3_4_L19, .slice q4 q5.length c_b3_5_L7, .slice (adOf (Ep17 107)) q0a.length (capOf (Ep17 107)), .slice none 0 0] :: cells q8 25 [.slice q0b s0.L.length c_s0_0, .int .i64 q2d] :: vec 44 R_rules_Wire.sz (.slice q0v q1t c_b3_4_L19) q1t q18 :: vec 47 R_rules_Via.sz (.slice q4 q5.length c_b3_5_L7) q5.length q0l :: vec 39 R_rules_Pin.sz (.slice (adOf (Ep17 107)) q0a.length (capOf (Ep17 107))) q0a.length cs107 :: ro ρ :: l)) ?_ ?_
 ·refine x_block ?_
  refine x_loop (fun k_ E w => ∃ (q0r : Option Addr) (q19 : Nat) (c_b3_4_L19h : Nat) (q0u : List Value) (q1f : Int) (q1a : Int) (q0o : List T_rules_Wire), lp (P_maskmake_Stream_Tied_L19 s0 q5 q0a q3j) k_ (q1f, q1a, q0o) = some oL19 ∧ E 0 = .pointer (some ⟨q8, 0, none⟩) ∧ E 2 = .pointer (some ⟨b2, 0, none⟩) ∧ E 3 = .pointer (some ⟨b3, 0, none⟩) ∧ E 110 = .int .i64 q3j.1 ∧ E 111 = .int .i64 q1f ∧ RepL R_rules_Wire ρ q0o q0u ∧ St w0 w (cells q8 25 [.slice q0b s0.L.length c_s0_0, .int .i64 q1a] :: cells b2 31 [.int .i64 0, .int .i64 0, .int .i64 0, .int .i64 0, .slice none 0 0, .slice none 0 0, .slice none 0 0, .slice none 0 0] :: cells b3 31 [.int .i64 12, .int .i64 12, .int .i64 3, .int .i64 3, .slice q0r q19 c_b3_4_L19h, .slice q4 q5.length c_b3_5_L7, .slice (adOf (Ep17 107)) q0a.length (capOf (Ep17 107)), .slice none 0 0] :: vec 44 R_rules_Wire.sz (.slice q0r q19 c_b3_4_L19h) q19 q0u :: vec 47 R_rules_Via.sz (.slice q4 q5.length c_b3_5_L7) q5.length q0l :: vec 39 R_rules_Pin.sz (.slice (adOf (Ep17 107)) q0a.length (capOf (Ep17 107))) q0a.length cs107 :: ro ρ :: l)) fuel ⟨q0g, q0k.length, c_b3_4_L7, q0x, 0, q3j.2, q0k, hLL19, ((hE17 0 rfl).trans q4b), ((hE17 2 rfl).trans q5m), ((hE17 3 rfl).trans q4c), rfl, rfl, q42, ((((((((hS.pull 3).drop.pull 1).pull 2).pull 6).pull 6).pull 5).pull 6).pull 6)⟩ ?_
  rintro kL19 E w ⟨q0r, q19, c_b3_4_L19h, q0u, q1f, q1a, q0o, hLL19, q3y, q3z, q1v, q2g, q2h, q0w, hS⟩
  have e_ := St.vec_n (hS.pull 3) q0w; subst e_
  replace hLL19 := lp_s hLL19; obtain ⟨kL19, obL19, rfl, hFL19, hLL19⟩ := hLL19
  refine x_seq <| x_region <| p (yl_lss q2h q2g) <| x_done <|
   x_seq <|
   x_cond_p (q1f < q3j.1) rfl (fun hc112 => ?_) (fun hc112 => ?_)
  ·replace hFL19 := it_t hc112 hFL19
   replace hFL19 := bd_s hFL19; obtain ⟨q3, q59, hFL19⟩ := hFL19
   refine x_skip <| x_seq <| x_block <| x_seq <|
    x_region <| p (yl_move q3y) <| pa (v := .agg #[.int .i64 12, .int .i64 12, .int .i64 3, .int .i64 3, .slice q0r q0o.length c_b3_4_L19h, .slice q4 q5.length c_b3_5_L7, .slice (adOf (Ep17 107)) q0a.length (capOf (Ep17 107)), .slice none 0 0]) (ld_sub agg_31 q1v rfl rfl (hS.pull 2)) <| ?_
   have q_ := St.lend ((hS.pull 6).pull 4) q0w; obtain ⟨ρl0, hll0, hlf0, hS0, back0⟩ := q_
   have q_ := St.lend (hS0.pull 4) (q2f.le hll0); obtain ⟨ρl1, hll1, hlf1, hS1, back1⟩ := q_
   have q_ := St.lend (hS1.pull 4) (hr107.le (hll0.trans hll1)); obtain ⟨ρl2, hll2, hlf2, hS2, back2⟩ := q_
   have hcall := c_maskmake_Stream_wire q59 (q0p.le ((hll0.trans hll1).trans hll2)) (hlf0.le (hll1.trans hll2)) (hlf1.le hll2) hlf2 (RdS.nil (A := none) (c := 0)) (hS2.pull 1)
   refine o_cc call_34 (args2 rfl rfl) hcall ?_
   rintro e w' ⟨rfl, hS⟩
   refine ⟨_, rfl, ?_⟩
   replace hS := back2 (hS.pull 1)
   replace hS := back1 (hS.pull 1)
   replace hS := back0 (hS.pull 1)
   refine o_alloc zero_44 hS (fun b10 w' hS => ?_)
   refine o_storeAgg (news := [.int .i64 q3.1.Net, .int .i64 q3.1.Layer, .int .i64 q3.1.X0, .int .i64 q3.1.Y0, .int .i64 q3.1.X1, .int .i64 q3.1.Y1]) agg_44 rfl rfl rfl (by simp [over_length]) hS (fun w' hS => ?_)
   refine x_done <| x_seq <| x_region <| p (yl_field0 fld_44_0 rfl) <|
    pa (at_load one_3 rfl (hS.cell rfl)) <| p (yl_gtr rfl rfl) <| x_done <| ?_
   replace hFL19 := bd_s hFL19; obtain ⟨oc118, hFc118, hFL19⟩ := hFL19
   refine x_join (fun E w => ∃ (q1b : Option Addr) (q1c : Nat) (c_b3_4_c118 : Nat) (q0z : List Value) (q1g : List T_rules_Wire), q1g = oc118 ∧ E 0 = .pointer (some ⟨q8, 0, none⟩) ∧ E 2 = .pointer (some ⟨b2, 0, none⟩) ∧ E 3 = .pointer (some ⟨b3, 0, none⟩) ∧ E 110 = .int .i64 q3j.1 ∧ E 111 = .int .i64 q1f ∧ RepL R_rules_Wire ρ q1g q0z ∧ St w0 w (cells q8 25 [.slice q0b s0.L.length c_s0_0, .int .i64 q3.2] :: cells b2 31 [.int .i64 0, .int .i64 0, .int .i64 0, .int .i64 0, .slice none 0 0, .slice none 0 0, .slice none 0 0, .slice none 0 0] :: cells b3 31 [.int .i64 12, .int .i64 12, .int .i64 3, .int .i64 3, .slice q1b q1c c_b3_4_c118, .slice q4 q5.length c_b3_5_L7, .slice (adOf (Ep17 107)) q0a.length (capOf (Ep17 107)), .slice none 0 0] :: vec 44 R_rules_Wire.sz (.slice q1b q1c c_b3_4_c118) q1c q0z :: vec 47 R_rules_Via.sz (.slice q4 q5.length c_b3_5_L7) q5.length q0l :: vec 39 R_rules_Pin.sz (.slice (adOf (Ep17 107)) q0a.length (capOf (Ep17 107))) q0a.length cs107 :: ro ρ :: l)) ?_ ?_
   ·refine x_cond_p (0 < q3.1.Net) rfl (fun hc118 => ?_) (fun hc118 => ?_)
    ·replace hFc118 := it_t hc118 hFc118
     refine x_region <| p (yl_field0 fld_31_4 q1v) <| pa (at_load one_26 rfl ((hS.pull 7).cell rfl)) <| pa (v := .agg #[.int .i64 q3.1.Net, .int .i64 q3.1.Layer, .int .i64 q3.1.X0, .int .i64 q3.1.Y0, .int .i64 q3.1.X1, .int .i64 q3.1.Y1]) (ld_sub agg_44 rfl rfl rfl hS) <| ?_
     refine o_buildSlice (vs := [.agg #[.int .i64 q3.1.Net, .int .i64 q3.1.Layer, .int .i64 q3.1.X0, .int .i64 q3.1.Y0, .int .i64 q3.1.X1, .int .i64 q3.1.Y1]]) (cs := [.int .i64 q3.1.Net, .int .i64 q3.1.Layer, .int .i64 q3.1.X0, .int .i64 q3.1.Y0, .int .i64 q3.1.X1, .int .i64 q3.1.Y1]) sl_26 zero_44 (parts_eq (pt (va := .agg #[.int .i64 q3.1.Net, .int .i64 q3.1.Layer, .int .i64 q3.1.X0, .int .i64 q3.1.Y0, .int .i64 q3.1.X1, .int .i64 q3.1.Y1]) rfl pt0)) rfl (by intro v hv; simp only [List.mem_cons, List.not_mem_nil, or_false] at hv; first | (subst hv; rfl) | (rcases hv with rfl <;> rfl)) (by decide) rfl hS (fun b122 w' hS => ?_)
     replace hFc118 := lv_s hFc118; obtain ⟨q4d, q5a, hFc118⟩ := hFc118
     replace hFc118 := ck_s hFc118; obtain ⟨q5b, hFc118⟩ := hFc118
     refine o_ap sl_26 zero_44 rfl (by decide) rfl rfl (hS.pull 2) q0w (src_blk usl_26 hS rfl rfl) (RepL.cons (R := R_rules_Wire) (ρ := ρ) (x := q3.1) (cs := [.int .i64 q3.1.Net, .int .i64 q3.1.Layer, .int .i64 q3.1.X0, .int .i64 q3.1.Y0, .int .i64 q3.1.X1, .int .i64 q3.1.Y1]) rfl RepL.nil) q5a q5b (fun A123 c123 cs123 w' hr123 hS => ?_)
     refine p (yl_field0 fld_31_4 q1v) <| ?_
     refine o_store1 (v := .slice A123 q4d.length c123) one_26 rfl rfl rfl rfl (hS.pull 8) (fun w' hS => ?_)
     refine x_done <| ?_
     exact x_inv ⟨A123, q4d.length, c123, cs123, q4d, (sinj hFc118), q3y, q3z, q1v, q2g, q2h, hr123, (((((((((hS.pull 2).drop.pull 2).drop.pull 2).pull 4).pull 4).pull 4).pull 4).pull 6).pull 6)⟩
    ·replace hFc118 := it_f hc118 hFc118
     refine x_skip <| ?_
     exact x_inv ⟨q0r, q0o.length, c_b3_4_L19h, q0u, q0o, (sinj hFc118), q3y, q3z, q1v, q2g, q2h, q0w, (((((((hS.drop.pull 1).pull 3).pull 3).pull 3).pull 6).pull 6).pull 6)⟩
   rintro E w ⟨q1b, q1c, c_b3_4_c118, q0z, q1g, rfl, q4n, q4o, q4p, q4f, q4g, q39, hS⟩
   have e_ := St.vec_n (hS.pull 3) q39; subst e_
   replace hFL19 := ar_s hFL19; obtain ⟨x125, hx125, hFL19⟩ := hFL19
   refine x_blk <| x_region <| p (yadd q4g rfl hx125) <| p (yl_move rfl) <|
    x_done <| ?_
   have e_ := sinj hFL19; subst e_
   exact x_inv ⟨kL19, Nat.lt_succ_self _, q1b, q1g.length, c_b3_4_c118, q0z, x125, q3.2, q1g, hLL19, q4n, q4o, q4p, q4f, rfl, q39, (((((((hS.pull 6).pull 6).pull 6).pull 6).pull 6).pull 6).pull 6)⟩
  ·replace hFL19 := it_f hc112 hFL19
   refine x_exitTo _ rfl <| ?_
   have e_ := sinj hFL19; subst e_
   exact x_inv ⟨q0r, q0o.length, c_b3_4_L19h, q0u, q0o, q1a, hLL19, q3z, q1v, q0w, (((((((hS.pull 6).pull 6).pull 6).pull 6).pull 4).pull 6).pull 6)⟩
 rintro E w ⟨q0v, q1t, c_b3_4_L19, q18, q12, q2d, rfl, q4h, q5c, q3k, hS⟩
 have e_ := St.vec_n (hS.pull 3) q3k; subst e_
 refine x_seq <| x_region <| pa (v := .agg #[.int .i64 12, .int .i64 12, .int .i64 3, .int .i64 3, .slice q0v q12.length c_b3_4_L19, .slice q4 q5.length c_b3_5_L7, .slice (adOf (Ep17 107)) q0a.length (capOf (Ep17 107)), .slice none 0 0]) (ld_sub agg_31 q5c rfl rfl (hS.pull 1)) <| ?_
 refine o_storeAgg (news := [.int .i64 12, .int .i64 12, .int .i64 3, .int .i64 3, .slice q0v q12.length c_b3_4_L19, .slice q4 q5.length c_b3_5_L7, .slice (adOf (Ep17 107)) q0a.length (capOf (Ep17 107)), .slice none 0 0]) agg_31 q4h rfl rfl (by simp [over_length]) hS (fun w' hS => ?_)
 refine x_done <| ?_
 replace hS := St.vec_nil hS 66 R_floor_Wall.sz
 have q3l : RepL R_floor_Wall ρ [] [] := rfl
 have e_ := sinj hF; subst e_
 exact x_return ⟨_, ⟨_, _, _, rfl, q4h, ldvA agg_31 rfl (fun j v hj => by rw [add0]; exact St.cell (hS.pull 1) hj), rfl⟩, q0v, q12.length, c_b3_4_L19, q18, q4, q5.length, c_b3_5_L7, q0l, (adOf (Ep17 107)), q0a.length, (capOf (Ep17 107)), cs107, none, 0, 0, [], rfl, q3k, q2f, hr107, q3l, ((((((((hS.pull 1).drop.pull 1).drop.pull 5).pull 2).pull 2).pull 5).pull 5).pull 5)⟩
attribute [irreducible] P_maskmake_Stream_Tied

def P_slices_Clone_rules_Wire_rules_Wire (s0 : List T_rules_Wire) : Option (List T_rules_Wire) :=
 lv (([] : List T_rules_Wire) ++ s0) fun q2 =>
 ck (apOk 48 q2.length) <|
 some q2
theorem c_slices_Clone_rules_Wire_rules_Wire {w0 w : World} {l : List Assn} {ρ : Heap} {q6 : Option Addr} {q8 : Nat} {c_s0 : Nat} {s0 : List T_rules_Wire} {r : List T_rules_Wire} (hF : P_slices_Clone_rules_Wire_rules_Wire s0 = some r) (q7 : RdS R_rules_Wire ρ q6 q8 c_s0 s0) (hS : St w0 w (ro ρ :: l)) :
  Calls Try.prog 13 #[.slice q6 q8 c_s0] w fun e w' => ∃ (q5 : Option Addr) (q2 : Nat) (c_y0_ret : Nat) (q3 : List Value), e = .returned (.slice q5 q2 c_y0_ret) ∧ RepL R_rules_Wire ρ r q3 ∧ St w0 w' (vec 44 R_rules_Wire.sz (.slice q5 q2 c_y0_ret) q2 q3 :: ro ρ :: l) := by
 have e_ := q7.n; subst e_
 refine enterC Try.func13 rfl 8 rfl (by simp) ?_
 refine x_seq <| x_region <| p (yl_assign rfl) <| x_done <|
  x_seq <| x_seq <| x_region <| p (yl_move rfl) <|
  p (yeq_nil usl_26 rfl rfl) <| x_done <|
  x_cond (t := Option.isNone q6) rfl (fun hc4 => ?_) (fun hc4 => ?_)
 ·have hx0 : s0 = [] := RdS.nil_of q7 hc4
  have hF : some ([] : List T_rules_Wire) = some r := by rw [hx0] at hF; unfold P_slices_Clone_rules_Wire_rules_Wire at hF; simpa [lv, ck, apOk] using hF
  refine x_seq <| x_region <| p (yl_assign rfl) <| x_done <| ?_
  replace hS := St.vec_nil hS 44 R_rules_Wire.sz
  have q4 : RepL R_rules_Wire ρ [] [] := rfl
  have e_ := sinj hF; subst e_
  exact x_return ⟨_, ⟨_, _, rfl, rfl, rfl⟩, none, 0, 0, [], rfl, q4, ((hS.pull 1).pull 1)⟩
 ·skip
  refine x_skip <| x_seq <| x_region <| ?_
  refine o_buildSlice (vs := []) (cs := []) sl_26 zero_44 (parts_eq pt0) rfl (by intro v hv; cases hv) (by decide) rfl hS (fun b5 w' hS => ?_)
  refine p (yl_move rfl) <| ?_
  have q9 : RepL R_rules_Wire ρ ([] : List T_rules_Wire) [] := RepL.nil
  replace hS := St.vec_of (n := 0) (sz := R_rules_Wire.sz) hS rfl (by decide)
  have q_ := src_f usl_26 (hS.pull 1) q7; obtain ⟨nw7, hnw7, src7⟩ := q_
  replace hF := lv_s hF; obtain ⟨q0c, q0a, hF⟩ := hF
  replace hF := ck_s hF; obtain ⟨q0b, hF⟩ := hF
  refine o_ap sl_26 zero_44 rfl (by decide) rfl rfl hS q9 src7 hnw7 q0a q0b (fun A7 c7 cs7 w' hr7 hS => ?_)
  refine p (yl_assign rfl) <| x_done <| ?_
  have e_ := sinj hF; subst e_
  exact x_return ⟨_, ⟨_, _, rfl, rfl, rfl⟩, A7, q0c.length, c7, cs7, rfl, hr7, ((hS.pull 1).pull 1)⟩
attribute [irreducible] P_slices_Clone_rules_Wire_rules_Wire

def P_slices_Clone_rules_Via_rules_Via (s0 : List T_rules_Via) : Option (List T_rules_Via) :=
 lv (([] : List T_rules_Via) ++ s0) fun q2 =>
 ck (apOk 32 q2.length) <|
 some q2
theorem c_slices_Clone_rules_Via_rules_Via {w0 w : World} {l : List Assn} {ρ : Heap} {q6 : Option Addr} {q8 : Nat} {c_s0 : Nat} {s0 : List T_rules_Via} {r : List T_rules_Via} (hF : P_slices_Clone_rules_Via_rules_Via s0 = some r) (q7 : RdS R_rules_Via ρ q6 q8 c_s0 s0) (hS : St w0 w (ro ρ :: l)) :
  Calls Try.prog 14 #[.slice q6 q8 c_s0] w fun e w' => ∃ (q5 : Option Addr) (q2 : Nat) (c_y0_ret : Nat) (q3 : List Value), e = .returned (.slice q5 q2 c_y0_ret) ∧ RepL R_rules_Via ρ r q3 ∧ St w0 w' (vec 47 R_rules_Via.sz (.slice q5 q2 c_y0_ret) q2 q3 :: ro ρ :: l) := by
 have e_ := q7.n; subst e_
 refine enterC Try.func14 rfl 8 rfl (by simp) ?_
 refine x_seq <| x_region <| p (yl_assign rfl) <| x_done <|
  x_seq <| x_seq <| x_region <| p (yl_move rfl) <|
  p (yeq_nil usl_27 rfl rfl) <| x_done <|
  x_cond (t := Option.isNone q6) rfl (fun hc4 => ?_) (fun hc4 => ?_)
 ·have hx0 : s0 = [] := RdS.nil_of q7 hc4
  have hF : some ([] : List T_rules_Via) = some r := by rw [hx0] at hF; unfold P_slices_Clone_rules_Via_rules_Via at hF; simpa [lv, ck, apOk] using hF
  refine x_seq <| x_region <| p (yl_assign rfl) <| x_done <| ?_
  replace hS := St.vec_nil hS 47 R_rules_Via.sz
  have q4 : RepL R_rules_Via ρ [] [] := rfl
  have e_ := sinj hF; subst e_
  exact x_return ⟨_, ⟨_, _, rfl, rfl, rfl⟩, none, 0, 0, [], rfl, q4, ((hS.pull 1).pull 1)⟩
 ·skip
  refine x_skip <| x_seq <| x_region <| ?_
  refine o_buildSlice (vs := []) (cs := []) sl_27 zero_47 (parts_eq pt0) rfl (by intro v hv; cases hv) (by decide) rfl hS (fun b5 w' hS => ?_)
  refine p (yl_move rfl) <| ?_
  have q9 : RepL R_rules_Via ρ ([] : List T_rules_Via) [] := RepL.nil
  replace hS := St.vec_of (n := 0) (sz := R_rules_Via.sz) hS rfl (by decide)
  have q_ := src_f usl_27 (hS.pull 1) q7; obtain ⟨nw7, hnw7, src7⟩ := q_
  replace hF := lv_s hF; obtain ⟨q0c, q0a, hF⟩ := hF
  replace hF := ck_s hF; obtain ⟨q0b, hF⟩ := hF
  refine o_ap sl_27 zero_47 rfl (by decide) rfl rfl hS q9 src7 hnw7 q0a q0b (fun A7 c7 cs7 w' hr7 hS => ?_)
  refine p (yl_assign rfl) <| x_done <| ?_
  have e_ := sinj hF; subst e_
  exact x_return ⟨_, ⟨_, _, rfl, rfl, rfl⟩, A7, q0c.length, c7, cs7, rfl, hr7, ((hS.pull 1).pull 1)⟩
attribute [irreducible] P_slices_Clone_rules_Via_rules_Via

def P_slices_Reverse_rules_Wire_rules_Wire_L1 : (List T_rules_Wire × Int × Int) → Option ((List T_rules_Wire × Int × Int) ⊕ List T_rules_Wire) := fun (q2, q3, q4) =>
 if q3 < q4 then
  ck (inb q4 q2.length) <|
  lv (gt q2 q4) fun q8 =>
  ck (inb q3 q2.length) <|
  lv (gt q2 q3) fun q6 =>
  ck (inb q3 q2.length) <|
  lv (stt q2 q3 q8) fun q5 =>
  ck (inb q4 q5.length) <|
  lv (stt q5 q4 q6) fun q7 =>
  ar (q3 + 1) fun x11 =>
  ar (q4 - 1) fun x13 =>
  some (Sum.inl (q7, x11, x13))
 else
  some (Sum.inr q2)
def P_slices_Reverse_rules_Wire_rules_Wire (s0 : List T_rules_Wire) : Option (List T_rules_Wire) :=
 ar ((s0.length : Int) - 1) fun x6 =>
 bd (
  lp P_slices_Reverse_rules_Wire_rules_Wire_L1 fuel (s0, 0, x6)) fun q2 =>
 some q2
theorem c_slices_Reverse_rules_Wire_rules_Wire {w0 w : World} {l : List Assn} {ρ : Heap} {q3 : Option Addr} {q0z : Nat} {c_s0 : Nat} {q11 : List Value} {s0 : List T_rules_Wire} {r : List T_rules_Wire} (hF : P_slices_Reverse_rules_Wire_rules_Wire s0 = some r) (q19 : RepL R_rules_Wire ρ s0 q11) (hS : St w0 w (vec 44 R_rules_Wire.sz (.slice q3 q0z c_s0) q0z q11 :: ro ρ :: l)) :
  Calls Try.prog 15 #[.slice q3 q0z c_s0] w fun e w' => ∃ (q0d : List Value), e = .returned (.tuple #[]) ∧ RepL R_rules_Wire ρ r q0d ∧ St w0 w' (vec 44 R_rules_Wire.sz (.slice q3 q0z c_s0) q0z q0d :: ro ρ :: l) := by
 have e_ := St.vec_n hS q19; subst e_
 refine enterC Try.func15 rfl 28 rfl (by simp) ?_
 replace hF := ar_s hF; obtain ⟨x6, hx6, hF⟩ := hF
 refine x_seq <| x_region <| p (yl_move rfl) <| p (yl_len_slice usl_26 rfl) <|
  p (ysub rfl rfl hx6) <| p (yl_assign rfl) <| p (yl_assign rfl) <| x_done <| ?_
 replace hF := bd_s hF; obtain ⟨oL1, hLL1, hF⟩ := hF
 refine x_join (fun E w => ∃ (q0b : List Value) (q0j : List T_rules_Wire), q0j = oL1 ∧ RepL R_rules_Wire ρ q0j q0b ∧ St w0 w (vec 44 R_rules_Wire.sz (.slice q3 s0.length c_s0) s0.length q0b :: ro ρ :: l)) ?_ ?_
 ·refine x_block ?_
  refine x_loop (fun k_ E w => ∃ (q6 : List Value) (q0k : List T_rules_Wire) (q7 : Int) (q8 : Int), lp P_slices_Reverse_rules_Wire_rules_Wire_L1 k_ (q0k, q7, q8) = some oL1 ∧ E 0 = .slice q3 s0.length c_s0 ∧ E 2 = .int .i64 q7 ∧ E 3 = .int .i64 q8 ∧ RepL R_rules_Wire ρ q0k q6 ∧ St w0 w (vec 44 R_rules_Wire.sz (.slice q3 s0.length c_s0) s0.length q6 :: ro ρ :: l)) fuel ⟨q11, s0, 0, x6, hLL1, rfl, rfl, rfl, q19, ((hS.pull 1).pull 1)⟩ ?_
  rintro kL1 E w ⟨q6, q0k, q7, q8, hLL1, q0e, q0l, q0m, q0a, hS⟩
  replace hLL1 := lp_s hLL1; obtain ⟨kL1, obL1, rfl, hFL1, hLL1⟩ := hLL1
  refine x_seq <| x_seq <| x_region <| p (yl_move q0l) <|
   p (yl_move q0m) <| p (yl_lss rfl rfl) <| x_done <|
   x_cond_p (q7 < q8) rfl (fun hc9 => ?_) (fun hc9 => ?_)
  ·replace hFL1 := it_t hc9 hFL1
   refine x_skip <| x_seq <| x_block <| ?_
   replace hFL1 := ck_s hFL1; obtain ⟨q17, hFL1⟩ := hFL1
   replace hFL1 := lv_s hFL1; obtain ⟨q4, q1e, hFL1⟩ := hFL1
   replace hFL1 := ck_s hFL1; obtain ⟨q13, hFL1⟩ := hFL1
   replace hFL1 := lv_s hFL1; obtain ⟨q2, q1a, hFL1⟩ := hFL1
   replace hFL1 := ck_s hFL1; obtain ⟨q14, hFL1⟩ := hFL1
   replace hFL1 := lv_s hFL1; obtain ⟨q0n, q1b, hFL1⟩ := hFL1
   replace hFL1 := ck_s hFL1; obtain ⟨q15, hFL1⟩ := hFL1
   replace hFL1 := lv_s hFL1; obtain ⟨q0y, q1c, hFL1⟩ := hFL1
   refine x_par (w0 := w0) [⟨[], [], [14], [], [], [], none⟩, ⟨[], [], [15], [], [], [], none⟩, ⟨[], [], [16], [], [], [], none⟩, ⟨[], [], [17], [], [], [], none⟩, ⟨[], [], [18], [], [], [], none⟩, ⟨[], [], [19], [], [], [], none⟩, ⟨[4, 5], [4, 5], [20], [0], [], [], none⟩, ⟨[4, 5, 6], [6], [21], [0], [], [], none⟩, ⟨[], [], [22], [], [], [], none⟩, ⟨[], [], [23], [], [], [], none⟩, ⟨[8, 9], [8, 9], [24], [0], [], [], none⟩, ⟨[8, 9, 10], [10], [25], [0], [], [], none⟩, ⟨[0, 1, 4, 5, 6, 7, 8, 9, 10, 11], [0, 1], [26], [0], [], [], none⟩, ⟨[0, 1, 4, 5, 6, 7, 8, 9, 10, 11, 12], [7, 12], [], [], [0], [1], none⟩, ⟨[0, 1, 2, 3, 4, 5, 6, 7, 8, 9, 10, 11, 12, 13], [2, 3], [27], [2, 1], [], [], none⟩, ⟨[0, 1, 2, 3, 4, 5, 6, 7, 8, 9, 10, 11, 12, 13, 14], [11, 14], [], [2], [1], [3], none⟩] [⟨none, (some 13), []⟩, ⟨(some 13), (some 15), []⟩, ⟨none, none, []⟩, ⟨(some 15), none, []⟩] [14, 15, 16, 17, 18, 19, 20, 21, 22, 23, 24, 25, 26, 27] [0, 2] [2, 3] [0, 1, 2, 3, 4, 5, 6, 7, 8, 9, 10, 11, 12, 14] [fun Ep3 => Ep3 14 = .slice q3 s0.length c_s0, fun Ep3 => Ep3 15 = .int .i64 q7, fun Ep3 => Ep3 16 = .slice q3 s0.length c_s0, fun Ep3 => Ep3 17 = .int .i64 q8, fun Ep3 => Ep3 18 = .slice q3 s0.length c_s0, fun Ep3 => Ep3 19 = .int .i64 q8, fun Ep3 => Ep3 20 = .pointer (some ((adr q3).add (q8.toNat * R_rules_Wire.sz))), fun Ep3 => Ep3 21 = .agg #[.int .i64 q4.Net, .int .i64 q4.Layer, .int .i64 q4.X0, .int .i64 q4.Y0, .int .i64 q4.X1, .int .i64 q4.Y1], fun Ep3 => Ep3 22 = .slice q3 s0.length c_s0, fun Ep3 => Ep3 23 = .int .i64 q7, fun Ep3 => Ep3 24 = .pointer (some ((adr q3).add (q7.toNat * R_rules_Wire.sz))), fun Ep3 => Ep3 25 = .agg #[.int .i64 q2.Net, .int .i64 q2.Layer, .int .i64 q2.X0, .int .i64 q2.Y0, .int .i64 q2.X1, .int .i64 q2.Y1], fun Ep3 => Ep3 26 = .pointer (some ((adr q3).add (q7.toNat * R_rules_Wire.sz))), fun Ep3 => True, fun Ep3 => Ep3 27 = .pointer (some ((adr q3).add (q8.toNat * R_rules_Wire.sz))), fun Ep3 => True] [fun Ep3 => vec 44 R_rules_Wire.sz (.slice q3 s0.length c_s0) s0.length q6, fun Ep3 => bunA (fun (q5 : List Value) => RepL R_rules_Wire ρ q0n q5) (fun (q5 : List Value) => [vec 44 R_rules_Wire.sz (.slice q3 s0.length c_s0) s0.length q5]), fun Ep3 => ro ρ, fun Ep3 => bunA (fun (q9 : List Value) => RepL R_rules_Wire ρ q0y q9) (fun (q9 : List Value) => [vec 44 R_rules_Wire.sz (.slice q3 s0.length c_s0) s0.length q9])] mixed (by kernel_rfl) ((hS.pull 1).pull 1) ?_ ?_
   ·refine ⟨?_, ?_, ?_, ?_, ?_, ?_, ?_, ?_, ?_, ?_, ?_, ?_, ?_, ?_, ?_, ?_, trivial⟩
    ·intro Ep3 w l' hE3 hO3 hF_ hS
     refine p (yl_move ((hE3 0 rfl).trans q0e)) <| x_done <| ?_
     refine x_fin ⟨⟨_, rfl⟩, rfl, ?_⟩
     exact emk hS
    ·intro Ep3 w l' hE3 hO3 hF_ hS
     refine p (yl_move ((hE3 2 rfl).trans q0l)) <| x_done <| ?_
     refine x_fin ⟨⟨_, rfl⟩, rfl, ?_⟩
     exact emk hS
    ·intro Ep3 w l' hE3 hO3 hF_ hS
     refine p (yl_move ((hE3 0 rfl).trans q0e)) <| x_done <| ?_
     refine x_fin ⟨⟨_, rfl⟩, rfl, ?_⟩
     exact emk hS
    ·intro Ep3 w l' hE3 hO3 hF_ hS
     refine p (yl_move ((hE3 3 rfl).trans q0m)) <| x_done <| ?_
     refine x_fin ⟨⟨_, rfl⟩, rfl, ?_⟩
     exact emk hS
    ·intro Ep3 w l' hE3 hO3 hF_ hS
     refine p (yl_move ((hE3 0 rfl).trans q0e)) <| x_done <| ?_
     refine x_fin ⟨⟨_, rfl⟩, rfl, ?_⟩
     exact emk hS
    ·intro Ep3 w l' hE3 hO3 hF_ hS
     refine p (yl_move ((hE3 3 rfl).trans q0m)) <| x_done <| ?_
     refine x_fin ⟨⟨_, rfl⟩, rfl, ?_⟩
     exact emk hS
    ·intro Ep3 w l' hE3 hO3 hF_ hS
     obtain ⟨q0o, q0p, -⟩ := hF_
     replace q0o : Ep3 18 = .slice q3 s0.length c_s0 := emk q0o
     replace q0p : Ep3 19 = .int .i64 q8 := emk q0p
     replace hS : St w0 w (vec 44 R_rules_Wire.sz (.slice q3 s0.length c_s0) s0.length q6 :: l') := emk hS
     refine p (yix_o sl_26 q0o q0p hS q0a q17) <| x_done <| ?_
     refine x_fin ⟨⟨_, rfl⟩, rfl, ?_⟩
     exact emk hS
    ·intro Ep3 w l' hE3 hO3 hF_ hS
     obtain ⟨q0q, -⟩ := hF_
     replace q0q : Ep3 20 = .pointer (some ((adr q3).add (q8.toNat * R_rules_Wire.sz))) := emk q0q
     replace hS : St w0 w (vec 44 R_rules_Wire.sz (.slice q3 s0.length c_s0) s0.length q6 :: l') := emk hS
     have q_ := q0a.get q17; obtain ⟨q1h, q18, q1f⟩ := q_
     rw [← q1e] at q18
     have e_ := q18; subst e_
     refine pa (v := .agg #[.int .i64 q4.Net, .int .i64 q4.Layer, .int .i64 q4.X0, .int .i64 q4.Y0, .int .i64 q4.X1, .int .i64 q4.Y1]) (at_loadAgg agg_44 q0q rfl (EltV.every q1f hS)) <| x_done <| ?_
     refine x_fin ⟨⟨_, rfl⟩, rfl, ?_⟩
     exact emk hS
    ·intro Ep3 w l' hE3 hO3 hF_ hS
     refine p (yl_move ((hE3 0 rfl).trans q0e)) <| x_done <| ?_
     refine x_fin ⟨⟨_, rfl⟩, rfl, ?_⟩
     exact emk hS
    ·intro Ep3 w l' hE3 hO3 hF_ hS
     refine p (yl_move ((hE3 2 rfl).trans q0l)) <| x_done <| ?_
     refine x_fin ⟨⟨_, rfl⟩, rfl, ?_⟩
     exact emk hS
    ·intro Ep3 w l' hE3 hO3 hF_ hS
     obtain ⟨q0r, q0s, -⟩ := hF_
     replace q0r : Ep3 22 = .slice q3 s0.length c_s0 := emk q0r
     replace q0s : Ep3 23 = .int .i64 q7 := emk q0s
     replace hS : St w0 w (vec 44 R_rules_Wire.sz (.slice q3 s0.length c_s0) s0.length q6 :: l') := emk hS
     refine p (yix_o sl_26 q0r q0s hS q0a q13) <| x_done <| ?_
     refine x_fin ⟨⟨_, rfl⟩, rfl, ?_⟩
     exact emk hS
    ·intro Ep3 w l' hE3 hO3 hF_ hS
     obtain ⟨q0f, -⟩ := hF_
     replace q0f : Ep3 24 = .pointer (some ((adr q3).add (q7.toNat * R_rules_Wire.sz))) := emk q0f
     replace hS : St w0 w (vec 44 R_rules_Wire.sz (.slice q3 s0.length c_s0) s0.length q6 :: l') := emk hS
     have q_ := q0a.get q13; obtain ⟨q1g, q16, q1d⟩ := q_
     rw [← q1a] at q16
     have e_ := q16; subst e_
     refine pa (v := .agg #[.int .i64 q2.Net, .int .i64 q2.Layer, .int .i64 q2.X0, .int .i64 q2.Y0, .int .i64 q2.X1, .int .i64 q2.Y1]) (at_loadAgg agg_44 q0f rfl (EltV.every q1d hS)) <| x_done <| ?_
     refine x_fin ⟨⟨_, rfl⟩, rfl, ?_⟩
     exact emk hS
    ·intro Ep3 w l' hE3 hO3 hF_ hS
     obtain ⟨q0t, q0u, -⟩ := hF_
     replace q0t : Ep3 14 = .slice q3 s0.length c_s0 := emk q0t
     replace q0u : Ep3 15 = .int .i64 q7 := emk q0u
     replace hS : St w0 w (vec 44 R_rules_Wire.sz (.slice q3 s0.length c_s0) s0.length q6 :: l') := emk hS
     refine p (yix_o sl_26 q0t q0u hS q0a q14) <| x_done <| ?_
     refine x_fin ⟨⟨_, rfl⟩, rfl, ?_⟩
     exact emk hS
    ·intro Ep3 w l' hE3 hO3 hF_ hS
     obtain ⟨q0v, q0g, -⟩ := hF_
     replace q0v : Ep3 21 = .agg #[.int .i64 q4.Net, .int .i64 q4.Layer, .int .i64 q4.X0, .int .i64 q4.Y0, .int .i64 q4.X1, .int .i64 q4.Y1] := emk q0v
     replace q0g : Ep3 26 = .pointer (some ((adr q3).add (q7.toNat * R_rules_Wire.sz))) := emk q0g
     replace hS : St w0 w (vec 44 R_rules_Wire.sz (.slice q3 s0.length c_s0) s0.length q6 :: l') := emk hS
     refine o_put' (news := [.int .i64 q4.Net, .int .i64 q4.Layer, .int .i64 q4.X0, .int .i64 q4.Y0, .int .i64 q4.X1, .int .i64 q4.Y1]) sz_44 q0g q0v rfl rfl (o := 0) rfl q14 rfl hS q0a (Le.refl _) (fun c hc => ok_all hc (show R_rules_Wire.ok ρ [.int .i64 q4.Net, .int .i64 q4.Layer, .int .i64 q4.X0, .int .i64 q4.Y0, .int .i64 q4.X1, .int .i64 q4.Y1] q4 from rfl)) q1b (fun q5 w' q0c hS => ?_)
     refine x_done <| ?_
     refine x_fin ⟨⟨undef, rfl⟩, trivial, ?_⟩
     replace hS := St.bun (Φ := (fun (q5 : List Value) => RepL R_rules_Wire ρ q0n q5)) (L := (fun (q5 : List Value) => [vec 44 R_rules_Wire.sz (.slice q3 s0.length c_s0) s0.length q5])) q5 q0c hS
     exact emk hS
    ·intro Ep3 w l' hE3 hO3 hF_ hS
     obtain ⟨q0w, q0x, -⟩ := hF_
     replace q0w : Ep3 16 = .slice q3 s0.length c_s0 := emk q0w
     replace q0x : Ep3 17 = .int .i64 q8 := emk q0x
     replace hS : St w0 w (ro ρ :: bunA (fun (q5 : List Value) => RepL R_rules_Wire ρ q0n q5) (fun (q5 : List Value) => [vec 44 R_rules_Wire.sz (.slice q3 s0.length c_s0) s0.length q5]) :: l') := emk hS
     have q_ := St.unbun (hS.pull 1); obtain ⟨q5, q0c, hS⟩ := q_
     refine p (yix_o sl_26 q0w q0x hS q0c q15) <| x_done <| ?_
     refine x_fin ⟨⟨_, rfl⟩, rfl, ?_⟩
     replace hS := St.bun (Φ := (fun (q5 : List Value) => RepL R_rules_Wire ρ q0n q5)) (L := (fun (q5 : List Value) => [vec 44 R_rules_Wire.sz (.slice q3 s0.length c_s0) s0.length q5])) q5 q0c hS
     exact emk (hS.pull 1)
    ·intro Ep3 w l' hE3 hO3 hF_ hS
     obtain ⟨q0h, q0i, -⟩ := hF_
     replace q0h : Ep3 25 = .agg #[.int .i64 q2.Net, .int .i64 q2.Layer, .int .i64 q2.X0, .int .i64 q2.Y0, .int .i64 q2.X1, .int .i64 q2.Y1] := emk q0h
     replace q0i : Ep3 27 = .pointer (some ((adr q3).add (q8.toNat * R_rules_Wire.sz))) := emk q0i
     replace hS : St w0 w (ro ρ :: bunA (fun (q5 : List Value) => RepL R_rules_Wire ρ q0n q5) (fun (q5 : List Value) => [vec 44 R_rules_Wire.sz (.slice q3 s0.length c_s0) s0.length q5]) :: l') := emk hS
     have q_ := St.unbun (hS.pull 1); obtain ⟨q5, q0c, hS⟩ := q_
     refine o_put' (news := [.int .i64 q2.Net, .int .i64 q2.Layer, .int .i64 q2.X0, .int .i64 q2.Y0, .int .i64 q2.X1, .int .i64 q2.Y1]) sz_44 q0i q0h rfl rfl (o := 0) rfl q15 rfl hS q0c (Le.refl _) (fun c hc => ok_all hc (show R_rules_Wire.ok ρ [.int .i64 q2.Net, .int .i64 q2.Layer, .int .i64 q2.X0, .int .i64 q2.Y0, .int .i64 q2.X1, .int .i64 q2.Y1] q2 from rfl)) q1c (fun q9 w' q10 hS => ?_)
     refine x_done <| ?_
     refine x_fin ⟨⟨undef, rfl⟩, trivial, ?_⟩
     replace hS := St.bun (Φ := (fun (q9 : List Value) => RepL R_rules_Wire ρ q0y q9)) (L := (fun (q9 : List Value) => [vec 44 R_rules_Wire.sz (.slice q3 s0.length c_s0) s0.length q9])) q9 q10 hS
     exact emk (hS.pull 1)
   intro Ep3 w' hE3 hF_ hS
   obtain ⟨q0t, q0u, q0w, q0x, q0o, q0p, q0q, q0v, q0r, q0s, q0f, q0h, q0g, q0i, -⟩ := hF_
   replace q0t : Ep3 14 = .slice q3 s0.length c_s0 := emk q0t
   replace q0u : Ep3 15 = .int .i64 q7 := emk q0u
   replace q0w : Ep3 16 = .slice q3 s0.length c_s0 := emk q0w
   replace q0x : Ep3 17 = .int .i64 q8 := emk q0x
   replace q0o : Ep3 18 = .slice q3 s0.length c_s0 := emk q0o
   replace q0p : Ep3 19 = .int .i64 q8 := emk q0p
   replace q0q : Ep3 20 = .pointer (some ((adr q3).add (q8.toNat * R_rules_Wire.sz))) := emk q0q
   replace q0v : Ep3 21 = .agg #[.int .i64 q4.Net, .int .i64 q4.Layer, .int .i64 q4.X0, .int .i64 q4.Y0, .int .i64 q4.X1, .int .i64 q4.Y1] := emk q0v
   replace q0r : Ep3 22 = .slice q3 s0.length c_s0 := emk q0r
   replace q0s : Ep3 23 = .int .i64 q7 := emk q0s
   replace q0f : Ep3 24 = .pointer (some ((adr q3).add (q7.toNat * R_rules_Wire.sz))) := emk q0f
   replace q0h : Ep3 25 = .agg #[.int .i64 q2.Net, .int .i64 q2.Layer, .int .i64 q2.X0, .int .i64 q2.Y0, .int .i64 q2.X1, .int .i64 q2.Y1] := emk q0h
   replace q0g : Ep3 26 = .pointer (some ((adr q3).add (q7.toNat * R_rules_Wire.sz))) := emk q0g
   replace q0i : Ep3 27 = .pointer (some ((adr q3).add (q8.toNat * R_rules_Wire.sz))) := emk q0i
   replace hS : St w0 w' (ro ρ :: bunA (fun (q9 : List Value) => RepL R_rules_Wire ρ q0y q9) (fun (q9 : List Value) => [vec 44 R_rules_Wire.sz (.slice q3 s0.length c_s0) s0.length q9]) :: (l)) := emk hS
   have q_ := St.unbun (hS.pull 1); obtain ⟨q9, q10, hS⟩ := q_
   replace hFL1 := ar_s hFL1; obtain ⟨x11, hx11, hFL1⟩ := hFL1
   replace hFL1 := ar_s hFL1; obtain ⟨x13, hx13, hFL1⟩ := hFL1
   refine x_blk <| x_region <| p (yl_move ((hE3 2 rfl).trans q0l)) <| p (yadd rfl rfl hx11) <|
    p (yl_move ((hE3 3 rfl).trans q0m)) <| p (ysub rfl rfl hx13) <| p (yl_assign rfl) <| p (yl_assign rfl) <|
    x_done <| ?_
   have e_ := sinj hFL1; subst e_
   exact x_inv ⟨kL1, Nat.lt_succ_self _, q9, q0y, x11, x13, hLL1, ((hE3 0 rfl).trans q0e), rfl, rfl, q10, ((hS.pull 1).pull 1)⟩
  ·replace hFL1 := it_f hc9 hFL1
   refine x_exitTo _ rfl <| ?_
   have e_ := sinj hFL1; subst e_
   exact x_inv ⟨q6, q0k, hLL1, q0a, ((hS.pull 1).pull 1)⟩
 rintro E w ⟨q0b, q0j, rfl, q12, hS⟩
 have e_ := sinj hF; subst e_
 exact x_fin ⟨_, rfl, q0b, rfl, q12, ((hS.pull 1).pull 1)⟩
attribute [irreducible] P_slices_Reverse_rules_Wire_rules_Wire

def P_slices_Reverse_rules_Via_rules_Via_L1 : (List T_rules_Via × Int × Int) → Option ((List T_rules_Via × Int × Int) ⊕ List T_rules_Via) := fun (q2, q3, q4) =>
 if q3 < q4 then
  ck (inb q4 q2.length) <|
  lv (gt q2 q4) fun q8 =>
  ck (inb q3 q2.length) <|
  lv (gt q2 q3) fun q6 =>
  ck (inb q3 q2.length) <|
  lv (stt q2 q3 q8) fun q5 =>
  ck (inb q4 q5.length) <|
  lv (stt q5 q4 q6) fun q7 =>
  ar (q3 + 1) fun x11 =>
  ar (q4 - 1) fun x13 =>
  some (Sum.inl (q7, x11, x13))
 else
  some (Sum.inr q2)
def P_slices_Reverse_rules_Via_rules_Via (s0 : List T_rules_Via) : Option (List T_rules_Via) :=
 ar ((s0.length : Int) - 1) fun x6 =>
 bd (
  lp P_slices_Reverse_rules_Via_rules_Via_L1 fuel (s0, 0, x6)) fun q2 =>
 some q2
theorem c_slices_Reverse_rules_Via_rules_Via {w0 w : World} {l : List Assn} {ρ : Heap} {q2 : Option Addr} {q0z : Nat} {c_s0 : Nat} {q11 : List Value} {s0 : List T_rules_Via} {r : List T_rules_Via} (hF : P_slices_Reverse_rules_Via_rules_Via s0 = some r) (q19 : RepL R_rules_Via ρ s0 q11) (hS : St w0 w (vec 47 R_rules_Via.sz (.slice q2 q0z c_s0) q0z q11 :: ro ρ :: l)) :
  Calls Try.prog 16 #[.slice q2 q0z c_s0] w fun e w' => ∃ (q0d : List Value), e = .returned (.tuple #[]) ∧ RepL R_rules_Via ρ r q0d ∧ St w0 w' (vec 47 R_rules_Via.sz (.slice q2 q0z c_s0) q0z q0d :: ro ρ :: l) := by
 have e_ := St.vec_n hS q19; subst e_
 refine enterC Try.func16 rfl 28 rfl (by simp) ?_
 replace hF := ar_s hF; obtain ⟨x6, hx6, hF⟩ := hF
 refine x_seq <| x_region <| p (yl_move rfl) <| p (yl_len_slice usl_27 rfl) <|
  p (ysub rfl rfl hx6) <| p (yl_assign rfl) <| p (yl_assign rfl) <| x_done <| ?_
 replace hF := bd_s hF; obtain ⟨oL1, hLL1, hF⟩ := hF
 refine x_join (fun E w => ∃ (q0b : List Value) (q0j : List T_rules_Via), q0j = oL1 ∧ RepL R_rules_Via ρ q0j q0b ∧ St w0 w (vec 47 R_rules_Via.sz (.slice q2 s0.length c_s0) s0.length q0b :: ro ρ :: l)) ?_ ?_
 ·refine x_block ?_
  refine x_loop (fun k_ E w => ∃ (q5 : List Value) (q0k : List T_rules_Via) (q7 : Int) (q8 : Int), lp P_slices_Reverse_rules_Via_rules_Via_L1 k_ (q0k, q7, q8) = some oL1 ∧ E 0 = .slice q2 s0.length c_s0 ∧ E 2 = .int .i64 q7 ∧ E 3 = .int .i64 q8 ∧ RepL R_rules_Via ρ q0k q5 ∧ St w0 w (vec 47 R_rules_Via.sz (.slice q2 s0.length c_s0) s0.length q5 :: ro ρ :: l)) fuel ⟨q11, s0, 0, x6, hLL1, rfl, rfl, rfl, q19, ((hS.pull 1).pull 1)⟩ ?_
  rintro kL1 E w ⟨q5, q0k, q7, q8, hLL1, q0e, q0l, q0m, q0a, hS⟩
  replace hLL1 := lp_s hLL1; obtain ⟨kL1, obL1, rfl, hFL1, hLL1⟩ := hLL1
  refine x_seq <| x_seq <| x_region <| p (yl_move q0l) <|
   p (yl_move q0m) <| p (yl_lss rfl rfl) <| x_done <|
   x_cond_p (q7 < q8) rfl (fun hc9 => ?_) (fun hc9 => ?_)
  ·replace hFL1 := it_t hc9 hFL1
   refine x_skip <| x_seq <| x_block <| ?_
   replace hFL1 := ck_s hFL1; obtain ⟨q17, hFL1⟩ := hFL1
   replace hFL1 := lv_s hFL1; obtain ⟨q6, q1e, hFL1⟩ := hFL1
   replace hFL1 := ck_s hFL1; obtain ⟨q13, hFL1⟩ := hFL1
   replace hFL1 := lv_s hFL1; obtain ⟨q4, q1a, hFL1⟩ := hFL1
   replace hFL1 := ck_s hFL1; obtain ⟨q14, hFL1⟩ := hFL1
   replace hFL1 := lv_s hFL1; obtain ⟨q0n, q1b, hFL1⟩ := hFL1
   replace hFL1 := ck_s hFL1; obtain ⟨q15, hFL1⟩ := hFL1
   replace hFL1 := lv_s hFL1; obtain ⟨q0y, q1c, hFL1⟩ := hFL1
   refine x_par (w0 := w0) [⟨[], [], [14], [], [], [], none⟩, ⟨[], [], [15], [], [], [], none⟩, ⟨[], [], [16], [], [], [], none⟩, ⟨[], [], [17], [], [], [], none⟩, ⟨[], [], [18], [], [], [], none⟩, ⟨[], [], [19], [], [], [], none⟩, ⟨[4, 5], [4, 5], [20], [0], [], [], none⟩, ⟨[4, 5, 6], [6], [21], [0], [], [], none⟩, ⟨[], [], [22], [], [], [], none⟩, ⟨[], [], [23], [], [], [], none⟩, ⟨[8, 9], [8, 9], [24], [0], [], [], none⟩, ⟨[8, 9, 10], [10], [25], [0], [], [], none⟩, ⟨[0, 1, 4, 5, 6, 7, 8, 9, 10, 11], [0, 1], [26], [0], [], [], none⟩, ⟨[0, 1, 4, 5, 6, 7, 8, 9, 10, 11, 12], [7, 12], [], [], [0], [1], none⟩, ⟨[0, 1, 2, 3, 4, 5, 6, 7, 8, 9, 10, 11, 12, 13], [2, 3], [27], [2, 1], [], [], none⟩, ⟨[0, 1, 2, 3, 4, 5, 6, 7, 8, 9, 10, 11, 12, 13, 14], [11, 14], [], [2], [1], [3], none⟩] [⟨none, (some 13), []⟩, ⟨(some 13), (some 15), []⟩, ⟨none, none, []⟩, ⟨(some 15), none, []⟩] [14, 15, 16, 17, 18, 19, 20, 21, 22, 23, 24, 25, 26, 27] [0, 2] [2, 3] [0, 1, 2, 3, 4, 5, 6, 7, 8, 9, 10, 11, 12, 14] [fun Ep3 => Ep3 14 = .slice q2 s0.length c_s0, fun Ep3 => Ep3 15 = .int .i64 q7, fun Ep3 => Ep3 16 = .slice q2 s0.length c_s0, fun Ep3 => Ep3 17 = .int .i64 q8, fun Ep3 => Ep3 18 = .slice q2 s0.length c_s0, fun Ep3 => Ep3 19 = .int .i64 q8, fun Ep3 => Ep3 20 = .pointer (some ((adr q2).add (q8.toNat * R_rules_Via.sz))), fun Ep3 => Ep3 21 = .agg #[.int .i64 q6.Net, .int .i64 q6.Layer, .int .i64 q6.X, .int .i64 q6.Y], fun Ep3 => Ep3 22 = .slice q2 s0.length c_s0, fun Ep3 => Ep3 23 = .int .i64 q7, fun Ep3 => Ep3 24 = .pointer (some ((adr q2).add (q7.toNat * R_rules_Via.sz))), fun Ep3 => Ep3 25 = .agg #[.int .i64 q4.Net, .int .i64 q4.Layer, .int .i64 q4.X, .int .i64 q4.Y], fun Ep3 => Ep3 26 = .pointer (some ((adr q2).add (q7.toNat * R_rules_Via.sz))), fun Ep3 => True, fun Ep3 => Ep3 27 = .pointer (some ((adr q2).add (q8.toNat * R_rules_Via.sz))), fun Ep3 => True] [fun Ep3 => vec 47 R_rules_Via.sz (.slice q2 s0.length c_s0) s0.length q5, fun Ep3 => bunA (fun (q3 : List Value) => RepL R_rules_Via ρ q0n q3) (fun (q3 : List Value) => [vec 47 R_rules_Via.sz (.slice q2 s0.length c_s0) s0.length q3]), fun Ep3 => ro ρ, fun Ep3 => bunA (fun (q9 : List Value) => RepL R_rules_Via ρ q0y q9) (fun (q9 : List Value) => [vec 47 R_rules_Via.sz (.slice q2 s0.length c_s0) s0.length q9])] mixed (by kernel_rfl) ((hS.pull 1).pull 1) ?_ ?_
   ·refine ⟨?_, ?_, ?_, ?_, ?_, ?_, ?_, ?_, ?_, ?_, ?_, ?_, ?_, ?_, ?_, ?_, trivial⟩
    ·intro Ep3 w l' hE3 hO3 hF_ hS
     refine p (yl_move ((hE3 0 rfl).trans q0e)) <| x_done <| ?_
     refine x_fin ⟨⟨_, rfl⟩, rfl, ?_⟩
     exact emk hS
    ·intro Ep3 w l' hE3 hO3 hF_ hS
     refine p (yl_move ((hE3 2 rfl).trans q0l)) <| x_done <| ?_
     refine x_fin ⟨⟨_, rfl⟩, rfl, ?_⟩
     exact emk hS
    ·intro Ep3 w l' hE3 hO3 hF_ hS
     refine p (yl_move ((hE3 0 rfl).trans q0e)) <| x_done <| ?_
     refine x_fin ⟨⟨_, rfl⟩, rfl, ?_⟩
     exact emk hS
    ·intro Ep3 w l' hE3 hO3 hF_ hS
     refine p (yl_move ((hE3 3 rfl).trans q0m)) <| x_done <| ?_
     refine x_fin ⟨⟨_, rfl⟩, rfl, ?_⟩
     exact emk hS
    ·intro Ep3 w l' hE3 hO3 hF_ hS
     refine p (yl_move ((hE3 0 rfl).trans q0e)) <| x_done <| ?_
     refine x_fin ⟨⟨_, rfl⟩, rfl, ?_⟩
     exact emk hS
    ·intro Ep3 w l' hE3 hO3 hF_ hS
     refine p (yl_move ((hE3 3 rfl).trans q0m)) <| x_done <| ?_
     refine x_fin ⟨⟨_, rfl⟩, rfl, ?_⟩
     exact emk hS
    ·intro Ep3 w l' hE3 hO3 hF_ hS
     obtain ⟨q0o, q0p, -⟩ := hF_
     replace q0o : Ep3 18 = .slice q2 s0.length c_s0 := emk q0o
     replace q0p : Ep3 19 = .int .i64 q8 := emk q0p
     replace hS : St w0 w (vec 47 R_rules_Via.sz (.slice q2 s0.length c_s0) s0.length q5 :: l') := emk hS
     refine p (yix_o sl_27 q0o q0p hS q0a q17) <| x_done <| ?_
     refine x_fin ⟨⟨_, rfl⟩, rfl, ?_⟩
     exact emk hS
    ·intro Ep3 w l' hE3 hO3 hF_ hS
     obtain ⟨q0q, -⟩ := hF_
     replace q0q : Ep3 20 = .pointer (some ((adr q2).add (q8.toNat * R_rules_Via.sz))) := emk q0q
     replace hS : St w0 w (vec 47 R_rules_Via.sz (.slice q2 s0.length c_s0) s0.length q5 :: l') := emk hS
     have q_ := q0a.get q17; obtain ⟨q1h, q18, q1f⟩ := q_
     rw [← q1e] at q18
     have e_ := q18; subst e_
     refine pa (v := .agg #[.int .i64 q6.Net, .int .i64 q6.Layer, .int .i64 q6.X, .int .i64 q6.Y]) (at_loadAgg agg_47 q0q rfl (EltV.every q1f hS)) <| x_done <| ?_
     refine x_fin ⟨⟨_, rfl⟩, rfl, ?_⟩
     exact emk hS
    ·intro Ep3 w l' hE3 hO3 hF_ hS
     refine p (yl_move ((hE3 0 rfl).trans q0e)) <| x_done <| ?_
     refine x_fin ⟨⟨_, rfl⟩, rfl, ?_⟩
     exact emk hS
    ·intro Ep3 w l' hE3 hO3 hF_ hS
     refine p (yl_move ((hE3 2 rfl).trans q0l)) <| x_done <| ?_
     refine x_fin ⟨⟨_, rfl⟩, rfl, ?_⟩
     exact emk hS
    ·intro Ep3 w l' hE3 hO3 hF_ hS
     obtain ⟨q0r, q0s, -⟩ := hF_
     replace q0r : Ep3 22 = .slice q2 s0.length c_s0 := emk q0r
     replace q0s : Ep3 23 = .int .i64 q7 := emk q0s
     replace hS : St w0 w (vec 47 R_rules_Via.sz (.slice q2 s0.length c_s0) s0.length q5 :: l') := emk hS
     refine p (yix_o sl_27 q0r q0s hS q0a q13) <| x_done <| ?_
     refine x_fin ⟨⟨_, rfl⟩, rfl, ?_⟩
     exact emk hS
    ·intro Ep3 w l' hE3 hO3 hF_ hS
     obtain ⟨q0f, -⟩ := hF_
     replace q0f : Ep3 24 = .pointer (some ((adr q2).add (q7.toNat * R_rules_Via.sz))) := emk q0f
     replace hS : St w0 w (vec 47 R_rules_Via.sz (.slice q2 s0.length c_s0) s0.length q5 :: l') := emk hS
     have q_ := q0a.get q13; obtain ⟨q1g, q16, q1d⟩ := q_
     rw [← q1a] at q16
     have e_ := q16; subst e_
     refine pa (v := .agg #[.int .i64 q4.Net, .int .i64 q4.Layer, .int .i64 q4.X, .int .i64 q4.Y]) (at_loadAgg agg_47 q0f rfl (EltV.every q1d hS)) <| x_done <| ?_
     refine x_fin ⟨⟨_, rfl⟩, rfl, ?_⟩
     exact emk hS
    ·intro Ep3 w l' hE3 hO3 hF_ hS
     obtain ⟨q0t, q0u, -⟩ := hF_
     replace q0t : Ep3 14 = .slice q2 s0.length c_s0 := emk q0t
     replace q0u : Ep3 15 = .int .i64 q7 := emk q0u
     replace hS : St w0 w (vec 47 R_rules_Via.sz (.slice q2 s0.length c_s0) s0.length q5 :: l') := emk hS
     refine p (yix_o sl_27 q0t q0u hS q0a q14) <| x_done <| ?_
     refine x_fin ⟨⟨_, rfl⟩, rfl, ?_⟩
     exact emk hS
    ·intro Ep3 w l' hE3 hO3 hF_ hS
     obtain ⟨q0v, q0g, -⟩ := hF_
     replace q0v : Ep3 21 = .agg #[.int .i64 q6.Net, .int .i64 q6.Layer, .int .i64 q6.X, .int .i64 q6.Y] := emk q0v
     replace q0g : Ep3 26 = .pointer (some ((adr q2).add (q7.toNat * R_rules_Via.sz))) := emk q0g
     replace hS : St w0 w (vec 47 R_rules_Via.sz (.slice q2 s0.length c_s0) s0.length q5 :: l') := emk hS
     refine o_put' (news := [.int .i64 q6.Net, .int .i64 q6.Layer, .int .i64 q6.X, .int .i64 q6.Y]) sz_47 q0g q0v rfl rfl (o := 0) rfl q14 rfl hS q0a (Le.refl _) (fun c hc => ok_all hc (show R_rules_Via.ok ρ [.int .i64 q6.Net, .int .i64 q6.Layer, .int .i64 q6.X, .int .i64 q6.Y] q6 from rfl)) q1b (fun q3 w' q0c hS => ?_)
     refine x_done <| ?_
     refine x_fin ⟨⟨undef, rfl⟩, trivial, ?_⟩
     replace hS := St.bun (Φ := (fun (q3 : List Value) => RepL R_rules_Via ρ q0n q3)) (L := (fun (q3 : List Value) => [vec 47 R_rules_Via.sz (.slice q2 s0.length c_s0) s0.length q3])) q3 q0c hS
     exact emk hS
    ·intro Ep3 w l' hE3 hO3 hF_ hS
     obtain ⟨q0w, q0x, -⟩ := hF_
     replace q0w : Ep3 16 = .slice q2 s0.length c_s0 := emk q0w
     replace q0x : Ep3 17 = .int .i64 q8 := emk q0x
     replace hS : St w0 w (ro ρ :: bunA (fun (q3 : List Value) => RepL R_rules_Via ρ q0n q3) (fun (q3 : List Value) => [vec 47 R_rules_Via.sz (.slice q2 s0.length c_s0) s0.length q3]) :: l') := emk hS
     have q_ := St.unbun (hS.pull 1); obtain ⟨q3, q0c, hS⟩ := q_
     refine p (yix_o sl_27 q0w q0x hS q0c q15) <| x_done <| ?_
     refine x_fin ⟨⟨_, rfl⟩, rfl, ?_⟩
     replace hS := St.bun (Φ := (fun (q3 : List Value) => RepL R_rules_Via ρ q0n q3)) (L := (fun (q3 : List Value) => [vec 47 R_rules_Via.sz (.slice q2 s0.length c_s0) s0.length q3])) q3 q0c hS
     exact emk (hS.pull 1)
    ·intro Ep3 w l' hE3 hO3 hF_ hS
     obtain ⟨q0h, q0i, -⟩ := hF_
     replace q0h : Ep3 25 = .agg #[.int .i64 q4.Net, .int .i64 q4.Layer, .int .i64 q4.X, .int .i64 q4.Y] := emk q0h
     replace q0i : Ep3 27 = .pointer (some ((adr q2).add (q8.toNat * R_rules_Via.sz))) := emk q0i
     replace hS : St w0 w (ro ρ :: bunA (fun (q3 : List Value) => RepL R_rules_Via ρ q0n q3) (fun (q3 : List Value) => [vec 47 R_rules_Via.sz (.slice q2 s0.length c_s0) s0.length q3]) :: l') := emk hS
     have q_ := St.unbun (hS.pull 1); obtain ⟨q3, q0c, hS⟩ := q_
     refine o_put' (news := [.int .i64 q4.Net, .int .i64 q4.Layer, .int .i64 q4.X, .int .i64 q4.Y]) sz_47 q0i q0h rfl rfl (o := 0) rfl q15 rfl hS q0c (Le.refl _) (fun c hc => ok_all hc (show R_rules_Via.ok ρ [.int .i64 q4.Net, .int .i64 q4.Layer, .int .i64 q4.X, .int .i64 q4.Y] q4 from rfl)) q1c (fun q9 w' q10 hS => ?_)
     refine x_done <| ?_
     refine x_fin ⟨⟨undef, rfl⟩, trivial, ?_⟩
     replace hS := St.bun (Φ := (fun (q9 : List Value) => RepL R_rules_Via ρ q0y q9)) (L := (fun (q9 : List Value) => [vec 47 R_rules_Via.sz (.slice q2 s0.length c_s0) s0.length q9])) q9 q10 hS
     exact emk (hS.pull 1)
   intro Ep3 w' hE3 hF_ hS
   obtain ⟨q0t, q0u, q0w, q0x, q0o, q0p, q0q, q0v, q0r, q0s, q0f, q0h, q0g, q0i, -⟩ := hF_
   replace q0t : Ep3 14 = .slice q2 s0.length c_s0 := emk q0t
   replace q0u : Ep3 15 = .int .i64 q7 := emk q0u
   replace q0w : Ep3 16 = .slice q2 s0.length c_s0 := emk q0w
   replace q0x : Ep3 17 = .int .i64 q8 := emk q0x
   replace q0o : Ep3 18 = .slice q2 s0.length c_s0 := emk q0o
   replace q0p : Ep3 19 = .int .i64 q8 := emk q0p
   replace q0q : Ep3 20 = .pointer (some ((adr q2).add (q8.toNat * R_rules_Via.sz))) := emk q0q
   replace q0v : Ep3 21 = .agg #[.int .i64 q6.Net, .int .i64 q6.Layer, .int .i64 q6.X, .int .i64 q6.Y] := emk q0v
   replace q0r : Ep3 22 = .slice q2 s0.length c_s0 := emk q0r
   replace q0s : Ep3 23 = .int .i64 q7 := emk q0s
   replace q0f : Ep3 24 = .pointer (some ((adr q2).add (q7.toNat * R_rules_Via.sz))) := emk q0f
   replace q0h : Ep3 25 = .agg #[.int .i64 q4.Net, .int .i64 q4.Layer, .int .i64 q4.X, .int .i64 q4.Y] := emk q0h
   replace q0g : Ep3 26 = .pointer (some ((adr q2).add (q7.toNat * R_rules_Via.sz))) := emk q0g
   replace q0i : Ep3 27 = .pointer (some ((adr q2).add (q8.toNat * R_rules_Via.sz))) := emk q0i
   replace hS : St w0 w' (ro ρ :: bunA (fun (q9 : List Value) => RepL R_rules_Via ρ q0y q9) (fun (q9 : List Value) => [vec 47 R_rules_Via.sz (.slice q2 s0.length c_s0) s0.length q9]) :: (l)) := emk hS
   have q_ := St.unbun (hS.pull 1); obtain ⟨q9, q10, hS⟩ := q_
   replace hFL1 := ar_s hFL1; obtain ⟨x11, hx11, hFL1⟩ := hFL1
   replace hFL1 := ar_s hFL1; obtain ⟨x13, hx13, hFL1⟩ := hFL1
   refine x_blk <| x_region <| p (yl_move ((hE3 2 rfl).trans q0l)) <| p (yadd rfl rfl hx11) <|
    p (yl_move ((hE3 3 rfl).trans q0m)) <| p (ysub rfl rfl hx13) <| p (yl_assign rfl) <| p (yl_assign rfl) <|
    x_done <| ?_
   have e_ := sinj hFL1; subst e_
   exact x_inv ⟨kL1, Nat.lt_succ_self _, q9, q0y, x11, x13, hLL1, ((hE3 0 rfl).trans q0e), rfl, rfl, q10, ((hS.pull 1).pull 1)⟩
  ·replace hFL1 := it_f hc9 hFL1
   refine x_exitTo _ rfl <| ?_
   have e_ := sinj hFL1; subst e_
   exact x_inv ⟨q5, q0k, hLL1, q0a, ((hS.pull 1).pull 1)⟩
 rintro E w ⟨q0b, q0j, rfl, q12, hS⟩
 have e_ := sinj hF; subst e_
 exact x_fin ⟨_, rfl, q0b, rfl, q12, ((hS.pull 1).pull 1)⟩
attribute [irreducible] P_slices_Reverse_rules_Via_rules_Via

def P_rules_within (n0 : Int) (low1 : Int) (high2 : Int) : Option Bool :=
 lv ((decide (low1 ≤ n0)) && (decide (n0 ≤ high2))) fun x14 =>
 some x14
theorem c_rules_within {w0 w : World} {l : List Assn} {ρ : Heap} {n0 : Int} {low1 : Int} {high2 : Int} {r : Bool} (hF : P_rules_within n0 low1 high2 = some r) (hS : St w0 w (ro ρ :: l)) :
  Calls Try.prog 61 #[.int .i64 n0, .int .i64 low1, .int .i64 high2] w fun e w' => e = .returned (.bool r) ∧ St w0 w' (ro ρ :: l) := by
 refine enterC Try.func61 rfl 15 rfl (by simp) ?_
 replace hF := lv_s hF; obtain ⟨x14, hx14, hF⟩ := hF
 refine x_seq <| x_region <| p (yl_assign rfl) <| x_done <|
  x_seq <| x_region <| p (yl_move rfl) <| p (yl_move rfl) <|
  p (yl_leq rfl rfl) <| p (yl_move rfl) <| pg (v := .int .i64 n0) 10 (c := decide (low1 ≤ n0)) (says_t _) (fun hq => Yl.at (yl_move rfl)) <| pg (v := .int .i64 high2) 10 (c := decide (low1 ≤ n0)) (says_t _) (fun hq => Yl.at (yl_move rfl)) <|
  pg (v := .bool (decide (n0 ≤ high2))) 10 (c := decide (low1 ≤ n0)) (says_t _) (fun hq => Yl.at (yl_leq (cv hq) (cv hq))) <| p (yand' rfl (fun hc => (cv hc)) rfl hx14) <| p (yl_assign rfl) <| x_done <| ?_
 have e_ := sinj hF; subst e_
 exact x_return ⟨_, ⟨_, _, rfl, rfl, rfl⟩, rfl, hS⟩
attribute [irreducible] P_rules_within

def P_rules_checkWire (l_0 : T_rules_Layout) (w_1 : T_rules_Wire) : Option Int :=
 ar (l_0.Nets - 1) fun x10 =>
 bd (P_rules_within w_1.Net 0 x10) fun q7 =>
 if (!q7) = true then
  some (7 : Int)
 else
  ar (l_0.Layers - 1) fun x18 =>
  bd (P_rules_within w_1.Layer 0 x18) fun q2 =>
  ck ((!(!q2)) = true → I64 (l_0.W - 1)) <|
  lv (l_0.W - 1) fun x26 =>
  bd (gd (!(!q2)) (P_rules_within w_1.X0 0 x26)) fun q3 =>
  lv ((!q2) || (!q3)) fun x29 =>
  ck ((!x29) = true → I64 (l_0.H - 1)) <|
  lv (l_0.H - 1) fun x35 =>
  bd (gd (!x29) (P_rules_within w_1.Y0 0 x35)) fun q4 =>
  lv (x29 || (!q4)) fun x38 =>
  ck ((!x38) = true → I64 (l_0.W - 1)) <|
  lv (l_0.W - 1) fun x46 =>
  bd (gd (!x38) (P_rules_within w_1.X1 w_1.X0 x46)) fun q5 =>
  lv (x38 || (!q5)) fun x49 =>
  ck ((!x49) = true → I64 (l_0.H - 1)) <|
  lv (l_0.H - 1) fun x57 =>
  bd (gd (!x49) (P_rules_within w_1.Y1 w_1.Y0 x57)) fun q6 =>
  lv (x49 || (!q6)) fun x60 =>
  if x60 = true then
   some (2 : Int)
  else
   ck ((2 : Int) ≠ 0) <|
   lv (Int.tmod w_1.Layer 2) fun x64 =>
   lv ((decide (x64 = 0)) && (decide (w_1.Y0 ≠ w_1.Y1))) fun x72 =>
   ck ((!x72) = true → (2 : Int) ≠ 0) <|
   lv (Int.tmod w_1.Layer 2) fun x76 =>
   lv ((decide (x76 = 1)) && (decide (w_1.X0 ≠ w_1.X1))) fun x84 =>
   lv (x72 || x84) fun x85 =>
   if x85 = true then
    some (4 : Int)
   else
    some (0 : Int)
theorem c_rules_checkWire {w0 w : World} {l : List Assn} {ρ : Heap} {q3 : Option Addr} {q7 : Nat} {c_l_0_4 : Nat} {q4 : Option Addr} {q8 : Nat} {c_l_0_5 : Nat} {q5 : Option Addr} {q9 : Nat} {c_l_0_6 : Nat} {q6 : Option Addr} {q0a : Nat} {c_l_0_7 : Nat} {l_0 : T_rules_Layout} {w_1 : T_rules_Wire} {r : Int} (hF : P_rules_checkWire l_0 w_1 = some r) (q0f : RdS R_rules_Wire ρ q3 q7 c_l_0_4 l_0.Wires) (q0g : RdS R_rules_Via ρ q4 q8 c_l_0_5 l_0.Vias) (q0h : RdS R_rules_Pin ρ q5 q9 c_l_0_6 l_0.Pins) (q0i : RdS R_floor_Wall ρ q6 q0a c_l_0_7 l_0.Walls) (hS : St w0 w (ro ρ :: l)) :
  Calls Try.prog 62 #[.agg #[.int .i64 l_0.W, .int .i64 l_0.H, .int .i64 l_0.Layers, .int .i64 l_0.Nets, .slice q3 q7 c_l_0_4, .slice q4 q8 c_l_0_5, .slice q5 q9 c_l_0_6, .slice q6 q0a c_l_0_7], .agg #[.int .i64 w_1.Net, .int .i64 w_1.Layer, .int .i64 w_1.X0, .int .i64 w_1.Y0, .int .i64 w_1.X1, .int .i64 w_1.Y1]] w fun e w' => e = .returned (.int .i64 r) ∧ St w0 w' (ro ρ :: l) := by
 have e_ := q0f.n; subst e_
 have e_ := q0g.n; subst e_
 have e_ := q0h.n; subst e_
 have e_ := q0i.n; subst e_
 refine enterC Try.func62 rfl 86 rfl (by simp) ?_
 refine x_seq <| x_region <| ?_
 refine o_box (cs := [.int .i64 l_0.W, .int .i64 l_0.H, .int .i64 l_0.Layers, .int .i64 l_0.Nets, .slice q3 l_0.Wires.length c_l_0_4, .slice q4 l_0.Vias.length c_l_0_5, .slice q5 l_0.Pins.length c_l_0_6, .slice q6 l_0.Walls.length c_l_0_7]) rfl rfl hS (fun b2 w' hS => ?_)
 refine o_box (cs := [.int .i64 w_1.Net, .int .i64 w_1.Layer, .int .i64 w_1.X0, .int .i64 w_1.Y0, .int .i64 w_1.X1, .int .i64 w_1.Y1]) rfl rfl hS (fun b3 w' hS => ?_)
 replace hF := ar_s hF; obtain ⟨x10, hx10, hF⟩ := hF
 replace hF := bd_s hF; obtain ⟨q0v, q0s, hF⟩ := hF
 refine p (yl_assign rfl) <| x_done <| x_seq <| x_block <|
  x_seq <| x_region <| p (yl_field0 fld_44_0 rfl) <| pa (at_load one_3 rfl (hS.cell rfl)) <|
  p (yl_field0 fld_31_3 rfl) <| pa (at_load one_3 rfl ((hS.pull 1).cell rfl)) <| p (ysub rfl rfl hx10) <| ?_
 have hcall := c_rules_within q0s  (hS.pull 2)
 refine o_cc call_61 (args3 rfl rfl rfl) ((Calls.mono hcall (fun e w'' h => And.intro h.1 ((h.2.pull 2).pull 2)))) ?_
 rintro e w' ⟨rfl, hS⟩
 refine ⟨_, rfl, ?_⟩
 refine p (yl_not rfl) <| p (yl_assign rfl) <| x_done <|
  x_cond (t := !q0v) rfl (fun hc5 => ?_) (fun hc5 => ?_)
 ·replace hF := it_t hc5 hF
  refine x_seq <| x_region <| p (yl_assign rfl) <| x_done <| ?_
  have e_ := sinj hF; subst e_
  exact x_return ⟨_, ⟨_, _, rfl, rfl, rfl⟩, rfl, hS.drop.drop⟩
 ·replace hF := it_bf hc5 hF
  replace hF := ar_s hF; obtain ⟨x18, hx18, hF⟩ := hF
  replace hF := bd_s hF; obtain ⟨q2, q0t, hF⟩ := hF
  refine x_seq <| x_region <| p (yl_field0 fld_44_1 rfl) <| pa (at_load one_3 rfl (hS.cell rfl)) <|
   p (yl_field0 fld_31_2 rfl) <| pa (at_load one_3 rfl ((hS.pull 1).cell rfl)) <| p (ysub rfl rfl hx18) <| ?_
  have hcall := c_rules_within q0t  (hS.pull 2)
  refine o_cc call_61 (args3 rfl rfl rfl) ((Calls.mono hcall (fun e w'' h => And.intro h.1 ((h.2.pull 2).pull 2)))) ?_
  rintro e w' ⟨rfl, hS⟩
  refine ⟨_, rfl, ?_⟩
  replace hF := ck_s hF; obtain ⟨q0j, hF⟩ := hF
  replace hF := lv_s hF; obtain ⟨x26, hx26, hF⟩ := hF
  replace hF := bd_s hF; obtain ⟨q0b, q0k, hF⟩ := hF
  refine p (yl_not rfl) <| p (yl_move rfl) <| pg (v := .pointer (some ⟨b3, 2, none⟩)) 21 (c := !(!q2)) (says_f _) (fun hq => Yl.at (yl_field0 fld_44_2 rfl)) <| pg (v := .int .i64 w_1.X0) 21 (c := !(!q2)) (says_f _) (fun hq => at_load one_3 (cv hq) (hS.cell rfl)) <|
   pg (v := .pointer (some ⟨b2, 0, none⟩)) 21 (c := !(!q2)) (says_f _) (fun hq => Yl.at (yl_field0 fld_31_0 rfl)) <| pg (v := .int .i64 l_0.W) 21 (c := !(!q2)) (says_f _) (fun hq => at_load one_3 (cv hq) ((hS.pull 1).cell rfl)) <| pg (v := .int .i64 x26) 21 (c := !(!q2)) (says_f _) (fun hq => Yl.at (ysub (cv hq) rfl ⟨hx26, (q0j hq)⟩)) <|
   pccg (v := .bool q0b) 21 (c := !(!q2)) (says_f _) call_61 (fun hq => (args3 (cv hq) rfl (cv hq))) hS (fun hq => by
    have hcall := c_rules_within (gd_t q0k hq)  (hS.pull 2)
    exact (Calls.mono hcall (fun e w'' h => And.intro h.1 ((h.2.pull 2).pull 2)))) (fun w' hS => ?_)
  replace hF := lv_s hF; obtain ⟨x29, hx29, hF⟩ := hF
  replace hF := ck_s hF; obtain ⟨q0l, hF⟩ := hF
  replace hF := lv_s hF; obtain ⟨x35, hx35, hF⟩ := hF
  replace hF := bd_s hF; obtain ⟨q0c, q0m, hF⟩ := hF
  refine pg (v := .bool (!q0b)) 21 (c := !(!q2)) (says_f _) (fun hq => Yl.at (yl_not (cv hq))) <| p (yor' rfl rfl (fun hc => (cv (t_not hc))) hx29) <| p (yl_move rfl) <| pg (v := .pointer (some ⟨b3, 3, none⟩)) 30 (c := !x29) (says_f _) (fun hq => Yl.at (yl_field0 fld_44_3 rfl)) <|
   pg (v := .int .i64 w_1.Y0) 30 (c := !x29) (says_f _) (fun hq => at_load one_3 (cv hq) (hS.cell rfl)) <| pg (v := .pointer (some ⟨b2, 1, none⟩)) 30 (c := !x29) (says_f _) (fun hq => Yl.at (yl_field0 fld_31_1 rfl)) <| pg (v := .int .i64 l_0.H) 30 (c := !x29) (says_f _) (fun hq => at_load one_3 (cv hq) ((hS.pull 1).cell rfl)) <| pg (v := .int .i64 x35) 30 (c := !x29) (says_f _) (fun hq => Yl.at (ysub (cv hq) rfl ⟨hx35, (q0l hq)⟩)) <|
   pccg (v := .bool q0c) 30 (c := !x29) (says_f _) call_61 (fun hq => (args3 (cv hq) rfl (cv hq))) hS (fun hq => by
    have hcall := c_rules_within (gd_t q0m hq)  (hS.pull 2)
    exact (Calls.mono hcall (fun e w'' h => And.intro h.1 ((h.2.pull 2).pull 2)))) (fun w' hS => ?_)
  replace hF := lv_s hF; obtain ⟨x38, hx38, hF⟩ := hF
  replace hF := ck_s hF; obtain ⟨q0n, hF⟩ := hF
  replace hF := lv_s hF; obtain ⟨x46, hx46, hF⟩ := hF
  replace hF := bd_s hF; obtain ⟨q0d, q0o, hF⟩ := hF
  refine pg (v := .bool (!q0c)) 30 (c := !x29) (says_f _) (fun hq => Yl.at (yl_not (cv hq))) <| p (yor' rfl rfl (fun hc => (cv (t_not hc))) hx38) <| p (yl_move rfl) <| pg (v := .pointer (some ⟨b3, 4, none⟩)) 39 (c := !x38) (says_f _) (fun hq => Yl.at (yl_field0 fld_44_4 rfl)) <|
   pg (v := .int .i64 w_1.X1) 39 (c := !x38) (says_f _) (fun hq => at_load one_3 (cv hq) (hS.cell rfl)) <| pg (v := .pointer (some ⟨b3, 2, none⟩)) 39 (c := !x38) (says_f _) (fun hq => Yl.at (yl_field0 fld_44_2 rfl)) <| pg (v := .int .i64 w_1.X0) 39 (c := !x38) (says_f _) (fun hq => at_load one_3 (cv hq) (hS.cell rfl)) <| pg (v := .pointer (some ⟨b2, 0, none⟩)) 39 (c := !x38) (says_f _) (fun hq => Yl.at (yl_field0 fld_31_0 rfl)) <|
   pg (v := .int .i64 l_0.W) 39 (c := !x38) (says_f _) (fun hq => at_load one_3 (cv hq) ((hS.pull 1).cell rfl)) <| pg (v := .int .i64 x46) 39 (c := !x38) (says_f _) (fun hq => Yl.at (ysub (cv hq) rfl ⟨hx46, (q0n hq)⟩)) <|
   pccg (v := .bool q0d) 39 (c := !x38) (says_f _) call_61 (fun hq => (args3 (cv hq) (cv hq) (cv hq))) hS (fun hq => by
    have hcall := c_rules_within (gd_t q0o hq)  (hS.pull 2)
    exact (Calls.mono hcall (fun e w'' h => And.intro h.1 ((h.2.pull 2).pull 2)))) (fun w' hS => ?_)
  replace hF := lv_s hF; obtain ⟨x49, hx49, hF⟩ := hF
  replace hF := ck_s hF; obtain ⟨q0p, hF⟩ := hF
  replace hF := lv_s hF; obtain ⟨x57, hx57, hF⟩ := hF
  replace hF := bd_s hF; obtain ⟨q0e, q0q, hF⟩ := hF
  refine pg (v := .bool (!q0d)) 39 (c := !x38) (says_f _) (fun hq => Yl.at (yl_not (cv hq))) <| p (yor' rfl rfl (fun hc => (cv (t_not hc))) hx49) <| p (yl_move rfl) <| pg (v := .pointer (some ⟨b3, 5, none⟩)) 50 (c := !x49) (says_f _) (fun hq => Yl.at (yl_field0 fld_44_5 rfl)) <|
   pg (v := .int .i64 w_1.Y1) 50 (c := !x49) (says_f _) (fun hq => at_load one_3 (cv hq) (hS.cell rfl)) <| pg (v := .pointer (some ⟨b3, 3, none⟩)) 50 (c := !x49) (says_f _) (fun hq => Yl.at (yl_field0 fld_44_3 rfl)) <| pg (v := .int .i64 w_1.Y0) 50 (c := !x49) (says_f _) (fun hq => at_load one_3 (cv hq) (hS.cell rfl)) <| pg (v := .pointer (some ⟨b2, 1, none⟩)) 50 (c := !x49) (says_f _) (fun hq => Yl.at (yl_field0 fld_31_1 rfl)) <|
   pg (v := .int .i64 l_0.H) 50 (c := !x49) (says_f _) (fun hq => at_load one_3 (cv hq) ((hS.pull 1).cell rfl)) <| pg (v := .int .i64 x57) 50 (c := !x49) (says_f _) (fun hq => Yl.at (ysub (cv hq) rfl ⟨hx57, (q0p hq)⟩)) <|
   pccg (v := .bool q0e) 50 (c := !x49) (says_f _) call_61 (fun hq => (args3 (cv hq) (cv hq) (cv hq))) hS (fun hq => by
    have hcall := c_rules_within (gd_t q0q hq)  (hS.pull 2)
    exact (Calls.mono hcall (fun e w'' h => And.intro h.1 ((h.2.pull 2).pull 2)))) (fun w' hS => ?_)
  replace hF := lv_s hF; obtain ⟨x60, hx60, hF⟩ := hF
  refine pg (v := .bool (!q0e)) 50 (c := !x49) (says_f _) (fun hq => Yl.at (yl_not (cv hq))) <| p (yor' rfl rfl (fun hc => (cv (t_not hc))) hx60) <| p (yl_assign rfl) <| x_done <|
   x_cond (t := x60) rfl (fun hc13 => ?_) (fun hc13 => ?_)
  ·replace hF := it_t hc13 hF
   refine x_seq <| x_region <| p (yl_assign rfl) <| x_done <| ?_
   have e_ := sinj hF; subst e_
   exact x_return ⟨_, ⟨_, _, rfl, rfl, rfl⟩, rfl, hS.drop.drop⟩
  ·replace hF := it_bf hc13 hF
   replace hF := ck_s hF; obtain ⟨q0u, hF⟩ := hF
   replace hF := lv_s hF; obtain ⟨x64, hx64, hF⟩ := hF
   replace hF := lv_s hF; obtain ⟨x72, hx72, hF⟩ := hF
   replace hF := ck_s hF; obtain ⟨q0r, hF⟩ := hF
   replace hF := lv_s hF; obtain ⟨x76, hx76, hF⟩ := hF
   replace hF := lv_s hF; obtain ⟨x84, hx84, hF⟩ := hF
   replace hF := lv_s hF; obtain ⟨x85, hx85, hF⟩ := hF
   refine x_seq <| x_region <| p (yl_field0 fld_44_1 rfl) <| pa (at_load one_3 rfl (hS.cell rfl)) <|
    p (yrem rfl rfl q0u hx64) <| p (yl_eql rfl rfl) <| p (yl_move rfl) <| pg (v := .pointer (some ⟨b3, 3, none⟩)) 66 (c := decide (x64 = 0)) (says_t _) (fun hq => Yl.at (yl_field0 fld_44_3 rfl)) <|
    pg (v := .int .i64 w_1.Y0) 66 (c := decide (x64 = 0)) (says_t _) (fun hq => at_load one_3 (cv hq) (hS.cell rfl)) <| pg (v := .pointer (some ⟨b3, 5, none⟩)) 66 (c := decide (x64 = 0)) (says_t _) (fun hq => Yl.at (yl_field0 fld_44_5 rfl)) <| pg (v := .int .i64 w_1.Y1) 66 (c := decide (x64 = 0)) (says_t _) (fun hq => at_load one_3 (cv hq) (hS.cell rfl)) <| pg (v := .bool (decide (w_1.Y0 ≠ w_1.Y1))) 66 (c := decide (x64 = 0)) (says_t _) (fun hq => Yl.at (yl_neq (cv hq) (cv hq))) <|
    p (yand' rfl (fun hc => (cv hc)) rfl hx72) <| p (yl_move rfl) <| pg (v := .pointer (some ⟨b3, 1, none⟩)) 73 (c := !x72) (says_f _) (fun hq => Yl.at (yl_field0 fld_44_1 rfl)) <| pg (v := .int .i64 w_1.Layer) 73 (c := !x72) (says_f _) (fun hq => at_load one_3 (cv hq) (hS.cell rfl)) <|
    pg (v := .int .i64 x76) 73 (c := !x72) (says_f _) (fun hq => Yl.at (yrem (cv hq) rfl (q0r hq) hx76)) <| pg (v := .bool (decide (x76 = 1))) 73 (c := !x72) (says_f _) (fun hq => Yl.at (yl_eql (cv hq) rfl)) <| pg (v := .bool (decide (x76 = 1))) 73 (c := !x72) (says_f _) (fun hq => Yl.at (yl_move (cv hq))) <| pg (v := .pointer (some ⟨b3, 2, none⟩)) 78 (c := (!x72) && (decide (x76 = 1))) (says_ift _ _) (fun hq => Yl.at (yl_field0 fld_44_2 rfl)) <|
    pg (v := .int .i64 w_1.X0) 78 (c := (!x72) && (decide (x76 = 1))) (says_ift _ _) (fun hq => at_load one_3 (cv hq) (hS.cell rfl)) <| pg (v := .pointer (some ⟨b3, 4, none⟩)) 78 (c := (!x72) && (decide (x76 = 1))) (says_ift _ _) (fun hq => Yl.at (yl_field0 fld_44_4 rfl)) <| pg (v := .int .i64 w_1.X1) 78 (c := (!x72) && (decide (x76 = 1))) (says_ift _ _) (fun hq => at_load one_3 (cv hq) (hS.cell rfl)) <| pg (v := .bool (decide (w_1.X0 ≠ w_1.X1))) 78 (c := (!x72) && (decide (x76 = 1))) (says_ift _ _) (fun hq => Yl.at (yl_neq (cv hq) (cv hq))) <|
    pg (v := .bool x84) 73 (c := !x72) (says_f _) (fun hq => Yl.at (yand' (cv hq) (fun hc => (cv (and_i hq hc))) rfl hx84)) <| p (yor' rfl rfl (fun hc => (cv (t_not hc))) hx85) <| p (yl_assign rfl) <| x_done <|
    x_cond (t := x85) rfl (fun hc61 => ?_) (fun hc61 => ?_)
   ·replace hF := it_t hc61 hF
    refine x_seq <| x_region <| p (yl_assign rfl) <| x_done <| ?_
    have e_ := sinj hF; subst e_
    exact x_return ⟨_, ⟨_, _, rfl, rfl, rfl⟩, rfl, hS.drop.drop⟩
   ·replace hF := it_bf hc61 hF
    refine x_skip <| x_blk <| x_seq <| x_region <|
     p (yl_assign rfl) <| x_done <| ?_
    have e_ := sinj hF; subst e_
    exact x_return ⟨_, ⟨_, _, rfl, rfl, rfl⟩, rfl, hS.drop.drop⟩
attribute [irreducible] P_rules_checkWire

def P_rules_Check_L7 (l_0 : T_rules_Layout) : (Int × Int) → Option ((Int × Int) ⊕ (Int ⊕ Int)) := fun (q3, q2) =>
 if q2 < (l_0.Wires.length : Int) then
  ck (inb q2 l_0.Wires.length) <|
  lv (gt l_0.Wires q2) fun q4 =>
  bd (P_rules_checkWire l_0 q4) fun q5 =>
  if q5 ≠ 0 then
   some (Sum.inr (Sum.inr q5))
  else
   ar (q4.X1 - q4.X0) fun x75 =>
   ar (x75 + q4.Y1) fun x78 =>
   ar (x78 - q4.Y0) fun x81 =>
   ar (x81 + 1) fun x82 =>
   ar (q3 + x82) fun x83 =>
   ar (q2 + 1) fun x84 =>
   some (Sum.inl (x83, x84))
 else
  some (Sum.inr (Sum.inl q3))
def P_rules_Check_L15 (l_0 : T_rules_Layout) : Int → Option (Int ⊕ (Unit ⊕ Int)) := fun q2 =>
 if q2 < (l_0.Vias.length : Int) then
  ck (inb q2 l_0.Vias.length) <|
  lv (gt l_0.Vias q2) fun q3 =>
  ar (l_0.Nets - 1) fun x96 =>
  bd (P_rules_within q3.Net 0 x96) fun q7 =>
  if (!q7) = true then
   some (Sum.inr (Sum.inr (7 : Int)))
  else
   ar (l_0.Layers - 2) fun x103 =>
   bd (P_rules_within q3.Layer 0 x103) fun q4 =>
   ck ((!(!q4)) = true → I64 (l_0.W - 1)) <|
   lv (l_0.W - 1) fun x111 =>
   bd (gd (!(!q4)) (P_rules_within q3.X 0 x111)) fun q5 =>
   lv ((!q4) || (!q5)) fun x114 =>
   ck ((!x114) = true → I64 (l_0.H - 1)) <|
   lv (l_0.H - 1) fun x120 =>
   bd (gd (!x114) (P_rules_within q3.Y 0 x120)) fun q6 =>
   lv (x114 || (!q6)) fun x123 =>
   if x123 = true then
    some (Sum.inr (Sum.inr (2 : Int)))
   else
    ar (q2 + 1) fun x124 =>
    some (Sum.inl x124)
 else
  some (Sum.inr (Sum.inl ()))
def P_rules_Check_L23 (l_0 : T_rules_Layout) : Int → Option (Int ⊕ (Unit ⊕ Int)) := fun q2 =>
 if q2 < (l_0.Pins.length : Int) then
  ck (inb q2 l_0.Pins.length) <|
  lv (gt l_0.Pins q2) fun q3 =>
  ar (l_0.Nets - 1) fun x136 =>
  bd (P_rules_within q3.Net 0 x136) fun q7 =>
  if (!q7) = true then
   some (Sum.inr (Sum.inr (7 : Int)))
  else
   ar (l_0.W - 1) fun x143 =>
   bd (P_rules_within q3.X 0 x143) fun q4 =>
   ck ((!(!q4)) = true → I64 (l_0.H - 1)) <|
   lv (l_0.H - 1) fun x151 =>
   bd (gd (!(!q4)) (P_rules_within q3.Y 0 x151)) fun q5 =>
   lv ((!q4) || (!q5)) fun x154 =>
   bd (gd (!x154) (P_rules_within q3.Size 0 1000)) fun q6 =>
   lv (x154 || (!q6)) fun x160 =>
   lv (q3.Drive && (decide (0 < q3.Size))) fun x168 =>
   lv (x160 || x168) fun x169 =>
   if x169 = true then
    some (Sum.inr (Sum.inr (2 : Int)))
   else
    ar (q2 + 1) fun x170 =>
    some (Sum.inl x170)
 else
  some (Sum.inr (Sum.inl ()))
def P_rules_Check_L31 (l_0 : T_rules_Layout) : Int → Option (Int ⊕ (Unit ⊕ Int)) := fun q2 =>
 if q2 < (l_0.Walls.length : Int) then
  ck (inb q2 l_0.Walls.length) <|
  lv (gt l_0.Walls q2) fun q3 =>
  ar (l_0.Layers - 1) fun x182 =>
  bd (P_rules_within q3.Layer 0 x182) fun q4 =>
  ck ((!(!q4)) = true → I64 (l_0.W - 1)) <|
  lv (l_0.W - 1) fun x190 =>
  bd (gd (!(!q4)) (P_rules_within q3.X0 0 x190)) fun q5 =>
  lv ((!q4) || (!q5)) fun x193 =>
  ck ((!x193) = true → I64 (l_0.H - 1)) <|
  lv (l_0.H - 1) fun x199 =>
  bd (gd (!x193) (P_rules_within q3.Y0 0 x199)) fun q6 =>
  lv (x193 || (!q6)) fun x202 =>
  ck ((!x202) = true → I64 (l_0.W - 1)) <|
  lv (l_0.W - 1) fun x210 =>
  bd (gd (!x202) (P_rules_within q3.X1 q3.X0 x210)) fun q7 =>
  lv (x202 || (!q7)) fun x213 =>
  ck ((!x213) = true → I64 (l_0.H - 1)) <|
  lv (l_0.H - 1) fun x221 =>
  bd (gd (!x213) (P_rules_within q3.Y1 q3.Y0 x221)) fun q8 =>
  lv (x213 || (!q8)) fun x224 =>
  if x224 = true then
   some (Sum.inr (Sum.inr (2 : Int)))
  else
   ar (q2 + 1) fun x225 =>
   some (Sum.inl x225)
 else
  some (Sum.inr (Sum.inl ()))
def P_rules_Check (l_0 : T_rules_Layout) : Option Int :=
 bd (P_rules_within l_0.W 1 512) fun q3 =>
 bd (gd (!(!q3)) (P_rules_within l_0.H 1 512)) fun q6 =>
 lv ((!q3) || (!q6)) fun x22 =>
 bd (gd (!x22) (P_rules_within l_0.Layers 1 6)) fun q4 =>
 lv (x22 || (!q4)) fun x28 =>
 bd (gd (!x28) (P_rules_within l_0.Nets 0 700)) fun q5 =>
 lv (x28 || (!q5)) fun x34 =>
 if x34 = true then
  some (2 : Int)
 else
  lv ((decide (6000 < (l_0.Wires.length : Int))) || (decide (6000 < (l_0.Vias.length : Int)))) fun x44 =>
  lv (x44 || (decide (4000 < (l_0.Pins.length : Int)))) fun x50 =>
  lv (x50 || (decide (64 < (l_0.Walls.length : Int)))) fun x56 =>
  if x56 = true then
   some (3 : Int)
  else
   bs (
    lp (P_rules_Check_L7 l_0) fuel (0, 0)) (fun y => some y) fun q2 =>
   bs (
    lp (P_rules_Check_L15 l_0) fuel 0) (fun y => some y) fun _ =>
   bs (
    lp (P_rules_Check_L23 l_0) fuel 0) (fun y => some y) fun _ =>
   bs (
    lp (P_rules_Check_L31 l_0) fuel 0) (fun y => some y) fun _ =>
   if 200000 < q2 then
    some (3 : Int)
   else
    some (0 : Int)
theorem c_rules_Check {w0 w : World} {l : List Assn} {ρ : Heap} {q7 : Option Addr} {q12 : Nat} {c_l_0_4 : Nat} {q4 : Option Addr} {q13 : Nat} {c_l_0_5 : Nat} {q5 : Option Addr} {q14 : Nat} {c_l_0_6 : Nat} {q6 : Option Addr} {q15 : Nat} {c_l_0_7 : Nat} {l_0 : T_rules_Layout} {r : Int} (hF : P_rules_Check l_0 = some r) (q0n : RdS R_rules_Wire ρ q7 q12 c_l_0_4 l_0.Wires) (q0o : RdS R_rules_Via ρ q4 q13 c_l_0_5 l_0.Vias) (q0p : RdS R_rules_Pin ρ q5 q14 c_l_0_6 l_0.Pins) (q0q : RdS R_floor_Wall ρ q6 q15 c_l_0_7 l_0.Walls) (hS : St w0 w (ro ρ :: l)) :
  Calls Try.prog 44 #[.agg #[.int .i64 l_0.W, .int .i64 l_0.H, .int .i64 l_0.Layers, .int .i64 l_0.Nets, .slice q7 q12 c_l_0_4, .slice q4 q13 c_l_0_5, .slice q5 q14 c_l_0_6, .slice q6 q15 c_l_0_7]] w fun e w' => e = .returned (.int .i64 r) ∧ St w0 w' (ro ρ :: l) := by
 have e_ := q0n.n; subst e_
 have e_ := q0o.n; subst e_
 have e_ := q0p.n; subst e_
 have e_ := q0q.n; subst e_
 refine enterC Try.func44 rfl 228 rfl (by simp) ?_
 refine x_seq <| x_region <| ?_
 refine o_box (cs := [.int .i64 l_0.W, .int .i64 l_0.H, .int .i64 l_0.Layers, .int .i64 l_0.Nets, .slice q7 l_0.Wires.length c_l_0_4, .slice q4 l_0.Vias.length c_l_0_5, .slice q5 l_0.Pins.length c_l_0_6, .slice q6 l_0.Walls.length c_l_0_7]) rfl rfl hS (fun b1 w' hS => ?_)
 replace hF := bd_s hF; obtain ⟨q1b, q2u, hF⟩ := hF
 refine p (yl_assign rfl) <| x_done <| x_seq <| x_seq <|
  x_region <| p (yl_field0 fld_31_0 rfl) <| pa (at_load one_3 rfl (hS.cell rfl)) <| ?_
 have hcall := c_rules_within q2u  (hS.pull 1)
 refine o_cc call_61 (args3 rfl rfl rfl) ((Calls.mono hcall (fun e w'' h => And.intro h.1 (h.2.pull 1)))) ?_
 rintro e w' ⟨rfl, hS⟩
 refine ⟨_, rfl, ?_⟩
 replace hF := bd_s hF; obtain ⟨q2d, q2v, hF⟩ := hF
 refine p (yl_not rfl) <| p (yl_move rfl) <| pg (v := .pointer (some ⟨b1, 1, none⟩)) 17 (c := !(!q1b)) (says_f _) (fun hq => Yl.at (yl_field0 fld_31_1 rfl)) <| pg (v := .int .i64 l_0.H) 17 (c := !(!q1b)) (says_f _) (fun hq => at_load one_3 (cv hq) (hS.cell rfl)) <|
  pccg (v := .bool q2d) 17 (c := !(!q1b)) (says_f _) call_61 (fun hq => (args3 (cv hq) rfl rfl)) hS (fun hq => by
   have hcall := c_rules_within (gd_t q2v hq)  (hS.pull 1)
   exact (Calls.mono hcall (fun e w'' h => And.intro h.1 (h.2.pull 1)))) (fun w' hS => ?_)
 replace hF := lv_s hF; obtain ⟨x22, hx22, hF⟩ := hF
 replace hF := bd_s hF; obtain ⟨q1t, q2e, hF⟩ := hF
 refine pg (v := .bool (!q2d)) 17 (c := !(!q1b)) (says_f _) (fun hq => Yl.at (yl_not (cv hq))) <| p (yor' rfl rfl (fun hc => (cv (t_not hc))) hx22) <| p (yl_move rfl) <| pg (v := .pointer (some ⟨b1, 2, none⟩)) 23 (c := !x22) (says_f _) (fun hq => Yl.at (yl_field0 fld_31_2 rfl)) <|
  pg (v := .int .i64 l_0.Layers) 23 (c := !x22) (says_f _) (fun hq => at_load one_3 (cv hq) (hS.cell rfl)) <|
  pccg (v := .bool q1t) 23 (c := !x22) (says_f _) call_61 (fun hq => (args3 (cv hq) rfl rfl)) hS (fun hq => by
   have hcall := c_rules_within (gd_t q2e hq)  (hS.pull 1)
   exact (Calls.mono hcall (fun e w'' h => And.intro h.1 (h.2.pull 1)))) (fun w' hS => ?_)
 replace hF := lv_s hF; obtain ⟨x28, hx28, hF⟩ := hF
 replace hF := bd_s hF; obtain ⟨q1u, q2f, hF⟩ := hF
 refine pg (v := .bool (!q1t)) 23 (c := !x22) (says_f _) (fun hq => Yl.at (yl_not (cv hq))) <| p (yor' rfl rfl (fun hc => (cv (t_not hc))) hx28) <| p (yl_move rfl) <| pg (v := .pointer (some ⟨b1, 3, none⟩)) 29 (c := !x28) (says_f _) (fun hq => Yl.at (yl_field0 fld_31_3 rfl)) <|
  pg (v := .int .i64 l_0.Nets) 29 (c := !x28) (says_f _) (fun hq => at_load one_3 (cv hq) (hS.cell rfl)) <|
  pccg (v := .bool q1u) 29 (c := !x28) (says_f _) call_61 (fun hq => (args3 (cv hq) rfl rfl)) hS (fun hq => by
   have hcall := c_rules_within (gd_t q2f hq)  (hS.pull 1)
   exact (Calls.mono hcall (fun e w'' h => And.intro h.1 (h.2.pull 1)))) (fun w' hS => ?_)
 replace hF := lv_s hF; obtain ⟨x34, hx34, hF⟩ := hF
 refine pg (v := .bool (!q1u)) 29 (c := !x28) (says_f _) (fun hq => Yl.at (yl_not (cv hq))) <| p (yor' rfl rfl (fun hc => (cv (t_not hc))) hx34) <| x_done <|
  x_cond (t := x34) rfl (fun hc34 => ?_) (fun hc34 => ?_)
 ·replace hF := it_t hc34 hF
  refine x_seq <| x_region <| p (yl_assign rfl) <| x_done <| ?_
  have e_ := sinj hF; subst e_
  exact x_return ⟨_, ⟨_, _, rfl, rfl, rfl⟩, rfl, hS.drop⟩
 ·replace hF := it_bf hc34 hF
  replace hF := lv_s hF; obtain ⟨x44, hx44, hF⟩ := hF
  replace hF := lv_s hF; obtain ⟨x50, hx50, hF⟩ := hF
  replace hF := lv_s hF; obtain ⟨x56, hx56, hF⟩ := hF
  refine x_skip <| x_seq <| x_seq <| x_region <|
   p (yl_field0 fld_31_4 rfl) <| pa (at_load one_26 rfl (hS.cell rfl)) <| p (yl_len_slice usl_26 rfl) <| p (yl_gtr rfl rfl) <|
   p (yl_move rfl) <| pg (v := .pointer (some ⟨b1, 5, none⟩)) 39 (c := !(decide (6000 < (l_0.Wires.length : Int)))) (says_f _) (fun hq => Yl.at (yl_field0 fld_31_5 rfl)) <| pg (v := .slice q4 l_0.Vias.length c_l_0_5) 39 (c := !(decide (6000 < (l_0.Wires.length : Int)))) (says_f _) (fun hq => at_load one_27 (cv hq) (hS.cell rfl)) <| pg (v := .int .i64 (l_0.Vias.length : Int)) 39 (c := !(decide (6000 < (l_0.Wires.length : Int)))) (says_f _) (fun hq => Yl.at (yl_len_slice usl_27 (cv hq))) <|
   pg (v := .bool (decide (6000 < (l_0.Vias.length : Int)))) 39 (c := !(decide (6000 < (l_0.Wires.length : Int)))) (says_f _) (fun hq => Yl.at (yl_gtr (cv hq) rfl)) <| p (yor' rfl rfl (fun hc => (cv (t_not hc))) hx44) <| p (yl_move rfl) <| pg (v := .pointer (some ⟨b1, 6, none⟩)) 45 (c := !x44) (says_f _) (fun hq => Yl.at (yl_field0 fld_31_6 rfl)) <|
   pg (v := .slice q5 l_0.Pins.length c_l_0_6) 45 (c := !x44) (says_f _) (fun hq => at_load one_28 (cv hq) (hS.cell rfl)) <| pg (v := .int .i64 (l_0.Pins.length : Int)) 45 (c := !x44) (says_f _) (fun hq => Yl.at (yl_len_slice usl_28 (cv hq))) <| pg (v := .bool (decide (4000 < (l_0.Pins.length : Int)))) 45 (c := !x44) (says_f _) (fun hq => Yl.at (yl_gtr (cv hq) rfl)) <| p (yor' rfl rfl (fun hc => (cv (t_not hc))) hx50) <|
   p (yl_move rfl) <| pg (v := .pointer (some ⟨b1, 7, none⟩)) 51 (c := !x50) (says_f _) (fun hq => Yl.at (yl_field0 fld_31_7 rfl)) <| pg (v := .slice q6 l_0.Walls.length c_l_0_7) 51 (c := !x50) (says_f _) (fun hq => at_load one_29 (cv hq) (hS.cell rfl)) <| pg (v := .int .i64 (l_0.Walls.length : Int)) 51 (c := !x50) (says_f _) (fun hq => Yl.at (yl_len_slice usl_29 (cv hq))) <|
   pg (v := .bool (decide (64 < (l_0.Walls.length : Int)))) 51 (c := !x50) (says_f _) (fun hq => Yl.at (yl_gtr (cv hq) rfl)) <| p (yor' rfl rfl (fun hc => (cv (t_not hc))) hx56) <| x_done <|
   x_cond (t := x56) rfl (fun hc56 => ?_) (fun hc56 => ?_)
  ·replace hF := it_t hc56 hF
   refine x_seq <| x_region <| p (yl_assign rfl) <| x_done <| ?_
   have e_ := sinj hF; subst e_
   exact x_return ⟨_, ⟨_, _, rfl, rfl, rfl⟩, rfl, hS.drop⟩
  ·replace hF := it_bf hc56 hF
   refine x_skip <| x_seq <| x_region <| p (yl_assign rfl) <|
    x_done <| x_seq <| x_seq <| x_region <|
    p (yl_field0 fld_31_4 rfl) <| pa (at_load one_26 rfl (hS.cell rfl)) <| p (yl_len_slice usl_26 rfl) <| p (yl_move rfl) <|
    x_done <| ?_
   replace hF := bs_s hF; obtain ⟨oL7, hLL7, hF⟩ := hF
   refine x_join (fun E w => ∃ (q2 : Int), (Sum.inl q2) = oL7 ∧ E 1 = .pointer (some ⟨b1, 0, none⟩) ∧ E 3 = .int .i64 q2 ∧ St w0 w (cells b1 31 [.int .i64 l_0.W, .int .i64 l_0.H, .int .i64 l_0.Layers, .int .i64 l_0.Nets, .slice q7 l_0.Wires.length c_l_0_4, .slice q4 l_0.Vias.length c_l_0_5, .slice q5 l_0.Pins.length c_l_0_6, .slice q6 l_0.Walls.length c_l_0_7] :: ro ρ :: l)) ?_ ?_
   ·refine x_block ?_
    refine x_loop (fun k_ E w => ∃ (q0a : Int) (q0r : Int), lp (P_rules_Check_L7 l_0) k_ (q0a, q0r) = some oL7 ∧ E 1 = .pointer (some ⟨b1, 0, none⟩) ∧ E 3 = .int .i64 q0a ∧ E 58 = .slice q7 l_0.Wires.length c_l_0_4 ∧ E 59 = .int .i64 (l_0.Wires.length : Int) ∧ E 60 = .int .i64 q0r ∧ St w0 w (cells b1 31 [.int .i64 l_0.W, .int .i64 l_0.H, .int .i64 l_0.Layers, .int .i64 l_0.Nets, .slice q7 l_0.Wires.length c_l_0_4, .slice q4 l_0.Vias.length c_l_0_5, .slice q5 l_0.Pins.length c_l_0_6, .slice q6 l_0.Walls.length c_l_0_7] :: ro ρ :: l)) fuel ⟨0, 0, hLL7, rfl, rfl, rfl, rfl, rfl, ((hS.pull 1).pull 1)⟩ ?_
    rintro kL7 E w ⟨q0a, q0r, hLL7, q0y, q1c, q16, q17, q0t, hS⟩
    replace hLL7 := lp_s hLL7; obtain ⟨kL7, obL7, rfl, hFL7, hLL7⟩ := hLL7
    refine x_seq <| x_region <| p (yl_lss q0t q17) <| x_done <|
     x_seq <|
     x_cond_p (q0r < (l_0.Wires.length : Int)) rfl (fun hc61 => ?_) (fun hc61 => ?_)
    ·replace hFL7 := it_t hc61 hFL7
     replace hFL7 := ck_s hFL7; obtain ⟨q1v, hFL7⟩ := hFL7
     replace hFL7 := lv_s hFL7; obtain ⟨q9, q2w, hFL7⟩ := hFL7
     have q_ := q0n.get q1v; obtain ⟨q35, q1w, q2x⟩ := q_
     rw [← q2w] at q1w
     have e_ := q1w; subst e_
     refine x_skip <| x_seq <| x_block <| x_seq <|
      x_region <| p (yix_f sl_26 q16 q0t q0n q1v) <| pa (v := .agg #[.int .i64 q9.Net, .int .i64 q9.Layer, .int .i64 q9.X0, .int .i64 q9.Y0, .int .i64 q9.X1, .int .i64 q9.Y1]) (at_loadAgg agg_44 rfl rfl (Elt.every q2x (hS.pull 1))) <| ?_
     refine o_alloc zero_44 hS (fun b5 w' hS => ?_)
     refine o_storeAgg (news := [.int .i64 q9.Net, .int .i64 q9.Layer, .int .i64 q9.X0, .int .i64 q9.Y0, .int .i64 q9.X1, .int .i64 q9.Y1]) agg_44 rfl rfl rfl (by simp [over_length]) hS (fun w' hS => ?_)
     replace hFL7 := bd_s hFL7; obtain ⟨q0z, q2y, hFL7⟩ := hFL7
     refine x_done <| x_seq <| x_seq <| x_region <|
      pa (v := .agg #[.int .i64 l_0.W, .int .i64 l_0.H, .int .i64 l_0.Layers, .int .i64 l_0.Nets, .slice q7 l_0.Wires.length c_l_0_4, .slice q4 l_0.Vias.length c_l_0_5, .slice q5 l_0.Pins.length c_l_0_6, .slice q6 l_0.Walls.length c_l_0_7]) (ld_sub agg_31 q0y rfl rfl (hS.pull 1)) <| pa (v := .agg #[.int .i64 q9.Net, .int .i64 q9.Layer, .int .i64 q9.X0, .int .i64 q9.Y0, .int .i64 q9.X1, .int .i64 q9.Y1]) (ld_sub agg_44 rfl rfl rfl hS) <| ?_
     have hcall := c_rules_checkWire q2y q0n q0o q0p q0q (hS.pull 2)
     refine o_cc call_62 (args2 rfl rfl) ((Calls.mono hcall (fun e w'' h => And.intro h.1 ((h.2.pull 2).pull 2)))) ?_
     rintro e w' ⟨rfl, hS⟩
     refine ⟨_, rfl, ?_⟩
     refine p (v := .int .i64 q0z) (yl_assign rfl) <| x_done <| x_seq <| x_region <|
      p (v := .int .i64 q0z) (yl_move rfl) <| p (yl_neq rfl rfl) <| x_done <|
      x_cond_p (q0z ≠ 0) rfl (fun hc68 => ?_) (fun hc68 => ?_)
     ·replace hFL7 := it_t hc68 hFL7
      refine x_seq <| x_region <| p (v := .int .i64 q0z) (yl_move rfl) <| p (v := .int .i64 q0z) (yl_assign rfl) <|
       x_done <| ?_
      have e_ := sinj hFL7; subst e_
      have e_ := (show _ = oL7 from hLL7); subst e_
      have e_ := sinj hF; subst e_
      exact x_return ⟨_, ⟨_, _, rfl, rfl, rfl⟩, rfl, hS.drop.drop⟩
     ·replace hFL7 := it_f hc68 hFL7
      replace hFL7 := ar_s hFL7; obtain ⟨x75, hx75, hFL7⟩ := hFL7
      replace hFL7 := ar_s hFL7; obtain ⟨x78, hx78, hFL7⟩ := hFL7
      replace hFL7 := ar_s hFL7; obtain ⟨x81, hx81, hFL7⟩ := hFL7
      replace hFL7 := ar_s hFL7; obtain ⟨x82, hx82, hFL7⟩ := hFL7
      replace hFL7 := ar_s hFL7; obtain ⟨x83, hx83, hFL7⟩ := hFL7
      replace hFL7 := ar_s hFL7; obtain ⟨x84, hx84, hFL7⟩ := hFL7
      refine x_skip <| x_region <| p (yl_move q1c) <| p (yl_field0 fld_44_4 rfl) <|
       pa (at_load one_3 rfl (hS.cell rfl)) <| p (yl_field0 fld_44_2 rfl) <| pa (at_load one_3 rfl (hS.cell rfl)) <| p (ysub rfl rfl hx75) <|
       p (yl_field0 fld_44_5 rfl) <| pa (at_load one_3 rfl (hS.cell rfl)) <| p (yadd rfl rfl hx78) <| p (yl_field0 fld_44_3 rfl) <|
       pa (at_load one_3 rfl (hS.cell rfl)) <| p (ysub rfl rfl hx81) <| p (yadd rfl rfl hx82) <| p (yadd rfl rfl hx83) <|
       p (yl_assign rfl) <| x_done <| x_blk <| x_region <|
       p (yadd q0t rfl hx84) <| p (yl_move rfl) <| x_done <| ?_
      have e_ := sinj hFL7; subst e_
      exact x_inv ⟨kL7, Nat.lt_succ_self _, x83, x84, hLL7, q0y, rfl, q16, q17, rfl, ((hS.drop.pull 1).pull 1)⟩
    ·replace hFL7 := it_f hc61 hFL7
     refine x_exitTo _ rfl <| ?_
     have e_ := sinj hFL7; subst e_
     exact x_inv ⟨q0a, hLL7, q0y, q1c, ((hS.pull 1).pull 1)⟩
   rintro E w ⟨q2, rfl, q1x, q2z, hS⟩
   refine x_seq <| x_seq <| x_region <| p (yl_field0 fld_31_5 q1x) <|
    pa (at_load one_27 rfl (hS.cell rfl)) <| p (yl_len_slice usl_27 rfl) <| p (yl_move rfl) <| x_done <| ?_
   replace hF := bs_s hF; obtain ⟨oL15, hLL15, hF⟩ := hF
   refine x_join (fun E w => (Sum.inl (())) = oL15 ∧ E 1 = .pointer (some ⟨b1, 0, none⟩) ∧ E 3 = .int .i64 q2 ∧ St w0 w (cells b1 31 [.int .i64 l_0.W, .int .i64 l_0.H, .int .i64 l_0.Layers, .int .i64 l_0.Nets, .slice q7 l_0.Wires.length c_l_0_4, .slice q4 l_0.Vias.length c_l_0_5, .slice q5 l_0.Pins.length c_l_0_6, .slice q6 l_0.Walls.length c_l_0_7] :: ro ρ :: l)) ?_ ?_
   ·refine x_block ?_
    refine x_loop (fun k_ E w => ∃ (q0h : Int), lp (P_rules_Check_L15 l_0) k_ q0h = some oL15 ∧ E 1 = .pointer (some ⟨b1, 0, none⟩) ∧ E 3 = .int .i64 q2 ∧ E 86 = .slice q4 l_0.Vias.length c_l_0_5 ∧ E 87 = .int .i64 (l_0.Vias.length : Int) ∧ E 88 = .int .i64 q0h ∧ St w0 w (cells b1 31 [.int .i64 l_0.W, .int .i64 l_0.H, .int .i64 l_0.Layers, .int .i64 l_0.Nets, .slice q7 l_0.Wires.length c_l_0_4, .slice q4 l_0.Vias.length c_l_0_5, .slice q5 l_0.Pins.length c_l_0_6, .slice q6 l_0.Walls.length c_l_0_7] :: ro ρ :: l)) fuel ⟨0, hLL15, q1x, q2z, rfl, rfl, rfl, ((hS.pull 1).pull 1)⟩ ?_
    rintro kL15 E w ⟨q0h, hLL15, q0c, q18, q10, q11, q0s, hS⟩
    replace hLL15 := lp_s hLL15; obtain ⟨kL15, obL15, rfl, hFL15, hLL15⟩ := hLL15
    refine x_seq <| x_region <| p (yl_lss q0s q11) <| x_done <|
     x_seq <|
     x_cond_p (q0h < (l_0.Vias.length : Int)) rfl (fun hc89 => ?_) (fun hc89 => ?_)
    ·replace hFL15 := it_t hc89 hFL15
     replace hFL15 := ck_s hFL15; obtain ⟨q1d, hFL15⟩ := hFL15
     replace hFL15 := lv_s hFL15; obtain ⟨q0b, q2g, hFL15⟩ := hFL15
     have q_ := q0o.get q1d; obtain ⟨q32, q1e, q2h⟩ := q_
     rw [← q2g] at q1e
     have e_ := q1e; subst e_
     refine x_skip <| x_seq <| x_block <| x_seq <|
      x_region <| p (yix_f sl_27 q10 q0s q0o q1d) <| pa (v := .agg #[.int .i64 q0b.Net, .int .i64 q0b.Layer, .int .i64 q0b.X, .int .i64 q0b.Y]) (at_loadAgg agg_47 rfl rfl (Elt.every q2h (hS.pull 1))) <| ?_
     refine o_alloc zero_47 hS (fun b8 w' hS => ?_)
     refine o_storeAgg (news := [.int .i64 q0b.Net, .int .i64 q0b.Layer, .int .i64 q0b.X, .int .i64 q0b.Y]) agg_47 rfl rfl rfl (by simp [over_length]) hS (fun w' hS => ?_)
     replace hFL15 := ar_s hFL15; obtain ⟨x96, hx96, hFL15⟩ := hFL15
     replace hFL15 := bd_s hFL15; obtain ⟨q30, q2i, hFL15⟩ := hFL15
     refine x_done <| x_seq <| x_seq <| x_region <|
      p (yl_field0 fld_47_0 rfl) <| pa (at_load one_3 rfl (hS.cell rfl)) <| p (yl_field0 fld_31_3 q0c) <| pa (at_load one_3 rfl ((hS.pull 1).cell rfl)) <|
      p (ysub rfl rfl hx96) <| ?_
     have hcall := c_rules_within q2i  (hS.pull 2)
     refine o_cc call_61 (args3 rfl rfl rfl) ((Calls.mono hcall (fun e w'' h => And.intro h.1 ((h.2.pull 2).pull 2)))) ?_
     rintro e w' ⟨rfl, hS⟩
     refine ⟨_, rfl, ?_⟩
     refine p (yl_not rfl) <| x_done <|
      x_cond (t := !q30) rfl (fun hc98 => ?_) (fun hc98 => ?_)
     ·replace hFL15 := it_t hc98 hFL15
      refine x_seq <| x_region <| p (yl_assign rfl) <| x_done <| ?_
      have e_ := sinj hFL15; subst e_
      have e_ := (show _ = oL15 from hLL15); subst e_
      have e_ := sinj hF; subst e_
      exact x_return ⟨_, ⟨_, _, rfl, rfl, rfl⟩, rfl, hS.drop.drop⟩
     ·replace hFL15 := it_bf hc98 hFL15
      replace hFL15 := ar_s hFL15; obtain ⟨x103, hx103, hFL15⟩ := hFL15
      replace hFL15 := bd_s hFL15; obtain ⟨q0i, q2j, hFL15⟩ := hFL15
      refine x_skip <| x_seq <| x_region <| p (yl_field0 fld_47_1 rfl) <|
       pa (at_load one_3 rfl (hS.cell rfl)) <| p (yl_field0 fld_31_2 q0c) <| pa (at_load one_3 rfl ((hS.pull 1).cell rfl)) <| p (ysub rfl rfl hx103) <| ?_
      have hcall := c_rules_within q2j  (hS.pull 2)
      refine o_cc call_61 (args3 rfl rfl rfl) ((Calls.mono hcall (fun e w'' h => And.intro h.1 ((h.2.pull 2).pull 2)))) ?_
      rintro e w' ⟨rfl, hS⟩
      refine ⟨_, rfl, ?_⟩
      replace hFL15 := ck_s hFL15; obtain ⟨q1y, hFL15⟩ := hFL15
      replace hFL15 := lv_s hFL15; obtain ⟨x111, hx111, hFL15⟩ := hFL15
      replace hFL15 := bd_s hFL15; obtain ⟨q1f, q1z, hFL15⟩ := hFL15
      refine p (yl_not rfl) <| p (yl_move rfl) <| pg (v := .pointer (some ⟨b8, 2, none⟩)) 106 (c := !(!q0i)) (says_f _) (fun hq => Yl.at (yl_field0 fld_47_2 rfl)) <| pg (v := .int .i64 q0b.X) 106 (c := !(!q0i)) (says_f _) (fun hq => at_load one_3 (cv hq) (hS.cell rfl)) <|
       pg (v := .pointer (some ⟨b1, 0, none⟩)) 106 (c := !(!q0i)) (says_f _) (fun hq => Yl.at (yl_field0 fld_31_0 q0c)) <| pg (v := .int .i64 l_0.W) 106 (c := !(!q0i)) (says_f _) (fun hq => at_load one_3 (cv hq) ((hS.pull 1).cell rfl)) <| pg (v := .int .i64 x111) 106 (c := !(!q0i)) (says_f _) (fun hq => Yl.at (ysub (cv hq) rfl ⟨hx111, (q1y hq)⟩)) <|
       pccg (v := .bool q1f) 106 (c := !(!q0i)) (says_f _) call_61 (fun hq => (args3 (cv hq) rfl (cv hq))) hS (fun hq => by
        have hcall := c_rules_within (gd_t q1z hq)  (hS.pull 2)
        exact (Calls.mono hcall (fun e w'' h => And.intro h.1 ((h.2.pull 2).pull 2)))) (fun w' hS => ?_)
      replace hFL15 := lv_s hFL15; obtain ⟨x114, hx114, hFL15⟩ := hFL15
      replace hFL15 := ck_s hFL15; obtain ⟨q20, hFL15⟩ := hFL15
      replace hFL15 := lv_s hFL15; obtain ⟨x120, hx120, hFL15⟩ := hFL15
      replace hFL15 := bd_s hFL15; obtain ⟨q1g, q21, hFL15⟩ := hFL15
      refine pg (v := .bool (!q1f)) 106 (c := !(!q0i)) (says_f _) (fun hq => Yl.at (yl_not (cv hq))) <| p (yor' rfl rfl (fun hc => (cv (t_not hc))) hx114) <| p (yl_move rfl) <| pg (v := .pointer (some ⟨b8, 3, none⟩)) 115 (c := !x114) (says_f _) (fun hq => Yl.at (yl_field0 fld_47_3 rfl)) <|
       pg (v := .int .i64 q0b.Y) 115 (c := !x114) (says_f _) (fun hq => at_load one_3 (cv hq) (hS.cell rfl)) <| pg (v := .pointer (some ⟨b1, 1, none⟩)) 115 (c := !x114) (says_f _) (fun hq => Yl.at (yl_field0 fld_31_1 q0c)) <| pg (v := .int .i64 l_0.H) 115 (c := !x114) (says_f _) (fun hq => at_load one_3 (cv hq) ((hS.pull 1).cell rfl)) <| pg (v := .int .i64 x120) 115 (c := !x114) (says_f _) (fun hq => Yl.at (ysub (cv hq) rfl ⟨hx120, (q20 hq)⟩)) <|
       pccg (v := .bool q1g) 115 (c := !x114) (says_f _) call_61 (fun hq => (args3 (cv hq) rfl (cv hq))) hS (fun hq => by
        have hcall := c_rules_within (gd_t q21 hq)  (hS.pull 2)
        exact (Calls.mono hcall (fun e w'' h => And.intro h.1 ((h.2.pull 2).pull 2)))) (fun w' hS => ?_)
      replace hFL15 := lv_s hFL15; obtain ⟨x123, hx123, hFL15⟩ := hFL15
      refine pg (v := .bool (!q1g)) 115 (c := !x114) (says_f _) (fun hq => Yl.at (yl_not (cv hq))) <| p (yor' rfl rfl (fun hc => (cv (t_not hc))) hx123) <| x_done <|
       x_cond (t := x123) rfl (fun hc123 => ?_) (fun hc123 => ?_)
      ·replace hFL15 := it_t hc123 hFL15
       refine x_seq <| x_region <| p (yl_assign rfl) <| x_done <| ?_
       have e_ := sinj hFL15; subst e_
       have e_ := (show _ = oL15 from hLL15); subst e_
       have e_ := sinj hF; subst e_
       exact x_return ⟨_, ⟨_, _, rfl, rfl, rfl⟩, rfl, hS.drop.drop⟩
      ·replace hFL15 := it_bf hc123 hFL15
       replace hFL15 := ar_s hFL15; obtain ⟨x124, hx124, hFL15⟩ := hFL15
       refine x_skip <| x_blk <| x_region <| p (yadd q0s rfl hx124) <|
        p (yl_move rfl) <| x_done <| ?_
       have e_ := sinj hFL15; subst e_
       exact x_inv ⟨kL15, Nat.lt_succ_self _, x124, hLL15, q0c, q18, q10, q11, rfl, ((hS.drop.pull 1).pull 1)⟩
    ·replace hFL15 := it_f hc89 hFL15
     refine x_exitTo _ rfl <| ?_
     have e_ := sinj hFL15; subst e_
     exact x_inv ⟨hLL15, q0c, q18, ((hS.pull 1).pull 1)⟩
   rintro E w ⟨rfl, q1h, q2k, hS⟩
   refine x_seq <| x_seq <| x_region <| p (yl_field0 fld_31_6 q1h) <|
    pa (at_load one_28 rfl (hS.cell rfl)) <| p (yl_len_slice usl_28 rfl) <| p (yl_move rfl) <| x_done <| ?_
   replace hF := bs_s hF; obtain ⟨oL23, hLL23, hF⟩ := hF
   refine x_join (fun E w => (Sum.inl (())) = oL23 ∧ E 1 = .pointer (some ⟨b1, 0, none⟩) ∧ E 3 = .int .i64 q2 ∧ St w0 w (cells b1 31 [.int .i64 l_0.W, .int .i64 l_0.H, .int .i64 l_0.Layers, .int .i64 l_0.Nets, .slice q7 l_0.Wires.length c_l_0_4, .slice q4 l_0.Vias.length c_l_0_5, .slice q5 l_0.Pins.length c_l_0_6, .slice q6 l_0.Walls.length c_l_0_7] :: ro ρ :: l)) ?_ ?_
   ·refine x_block ?_
    refine x_loop (fun k_ E w => ∃ (q0e : Int), lp (P_rules_Check_L23 l_0) k_ q0e = some oL23 ∧ E 1 = .pointer (some ⟨b1, 0, none⟩) ∧ E 3 = .int .i64 q2 ∧ E 126 = .slice q5 l_0.Pins.length c_l_0_6 ∧ E 127 = .int .i64 (l_0.Pins.length : Int) ∧ E 128 = .int .i64 q0e ∧ St w0 w (cells b1 31 [.int .i64 l_0.W, .int .i64 l_0.H, .int .i64 l_0.Layers, .int .i64 l_0.Nets, .slice q7 l_0.Wires.length c_l_0_4, .slice q4 l_0.Vias.length c_l_0_5, .slice q5 l_0.Pins.length c_l_0_6, .slice q6 l_0.Walls.length c_l_0_7] :: ro ρ :: l)) fuel ⟨0, hLL23, q1h, q2k, rfl, rfl, rfl, ((hS.pull 1).pull 1)⟩ ?_
    rintro kL23 E w ⟨q0e, hLL23, q0g, q19, q0u, q0v, q0l, hS⟩
    replace hLL23 := lp_s hLL23; obtain ⟨kL23, obL23, rfl, hFL23, hLL23⟩ := hLL23
    refine x_seq <| x_region <| p (yl_lss q0l q0v) <| x_done <|
     x_seq <|
     x_cond_p (q0e < (l_0.Pins.length : Int)) rfl (fun hc129 => ?_) (fun hc129 => ?_)
    ·replace hFL23 := it_t hc129 hFL23
     replace hFL23 := ck_s hFL23; obtain ⟨q1i, hFL23⟩ := hFL23
     replace hFL23 := lv_s hFL23; obtain ⟨q3, q2l, hFL23⟩ := hFL23
     have q_ := q0p.get q1i; obtain ⟨q33, q1j, q2m⟩ := q_
     rw [← q2l] at q1j
     have e_ := q1j; subst e_
     refine x_skip <| x_seq <| x_block <| x_seq <|
      x_region <| p (yix_f sl_28 q0u q0l q0p q1i) <| pa (v := .agg #[.int .i64 q3.Net, .int .i64 q3.X, .int .i64 q3.Y, .bool q3.Drive, .int .i64 q3.Size]) (at_loadAgg agg_39 rfl rfl (Elt.every q2m (hS.pull 1))) <| ?_
     refine o_alloc zero_39 hS (fun b10 w' hS => ?_)
     refine o_storeAgg (news := [.int .i64 q3.Net, .int .i64 q3.X, .int .i64 q3.Y, .bool q3.Drive, .int .i64 q3.Size]) agg_39 rfl rfl rfl (by simp [over_length]) hS (fun w' hS => ?_)
     replace hFL23 := ar_s hFL23; obtain ⟨x136, hx136, hFL23⟩ := hFL23
     replace hFL23 := bd_s hFL23; obtain ⟨q31, q2n, hFL23⟩ := hFL23
     refine x_done <| x_seq <| x_seq <| x_region <|
      p (yl_field0 fld_39_0 rfl) <| pa (at_load one_3 rfl (hS.cell rfl)) <| p (yl_field0 fld_31_3 q0g) <| pa (at_load one_3 rfl ((hS.pull 1).cell rfl)) <|
      p (ysub rfl rfl hx136) <| ?_
     have hcall := c_rules_within q2n  (hS.pull 2)
     refine o_cc call_61 (args3 rfl rfl rfl) ((Calls.mono hcall (fun e w'' h => And.intro h.1 ((h.2.pull 2).pull 2)))) ?_
     rintro e w' ⟨rfl, hS⟩
     refine ⟨_, rfl, ?_⟩
     refine p (yl_not rfl) <| x_done <|
      x_cond (t := !q31) rfl (fun hc138 => ?_) (fun hc138 => ?_)
     ·replace hFL23 := it_t hc138 hFL23
      refine x_seq <| x_region <| p (yl_assign rfl) <| x_done <| ?_
      have e_ := sinj hFL23; subst e_
      have e_ := (show _ = oL23 from hLL23); subst e_
      have e_ := sinj hF; subst e_
      exact x_return ⟨_, ⟨_, _, rfl, rfl, rfl⟩, rfl, hS.drop.drop⟩
     ·replace hFL23 := it_bf hc138 hFL23
      replace hFL23 := ar_s hFL23; obtain ⟨x143, hx143, hFL23⟩ := hFL23
      replace hFL23 := bd_s hFL23; obtain ⟨q0j, q2o, hFL23⟩ := hFL23
      refine x_skip <| x_seq <| x_region <| p (yl_field0 fld_39_1 rfl) <|
       pa (at_load one_3 rfl (hS.cell rfl)) <| p (yl_field0 fld_31_0 q0g) <| pa (at_load one_3 rfl ((hS.pull 1).cell rfl)) <| p (ysub rfl rfl hx143) <| ?_
      have hcall := c_rules_within q2o  (hS.pull 2)
      refine o_cc call_61 (args3 rfl rfl rfl) ((Calls.mono hcall (fun e w'' h => And.intro h.1 ((h.2.pull 2).pull 2)))) ?_
      rintro e w' ⟨rfl, hS⟩
      refine ⟨_, rfl, ?_⟩
      replace hFL23 := ck_s hFL23; obtain ⟨q22, hFL23⟩ := hFL23
      replace hFL23 := lv_s hFL23; obtain ⟨x151, hx151, hFL23⟩ := hFL23
      replace hFL23 := bd_s hFL23; obtain ⟨q1k, q23, hFL23⟩ := hFL23
      refine p (yl_not rfl) <| p (yl_move rfl) <| pg (v := .pointer (some ⟨b10, 2, none⟩)) 146 (c := !(!q0j)) (says_f _) (fun hq => Yl.at (yl_field0 fld_39_2 rfl)) <| pg (v := .int .i64 q3.Y) 146 (c := !(!q0j)) (says_f _) (fun hq => at_load one_3 (cv hq) (hS.cell rfl)) <|
       pg (v := .pointer (some ⟨b1, 1, none⟩)) 146 (c := !(!q0j)) (says_f _) (fun hq => Yl.at (yl_field0 fld_31_1 q0g)) <| pg (v := .int .i64 l_0.H) 146 (c := !(!q0j)) (says_f _) (fun hq => at_load one_3 (cv hq) ((hS.pull 1).cell rfl)) <| pg (v := .int .i64 x151) 146 (c := !(!q0j)) (says_f _) (fun hq => Yl.at (ysub (cv hq) rfl ⟨hx151, (q22 hq)⟩)) <|
       pccg (v := .bool q1k) 146 (c := !(!q0j)) (says_f _) call_61 (fun hq => (args3 (cv hq) rfl (cv hq))) hS (fun hq => by
        have hcall := c_rules_within (gd_t q23 hq)  (hS.pull 2)
        exact (Calls.mono hcall (fun e w'' h => And.intro h.1 ((h.2.pull 2).pull 2)))) (fun w' hS => ?_)
      replace hFL23 := lv_s hFL23; obtain ⟨x154, hx154, hFL23⟩ := hFL23
      replace hFL23 := bd_s hFL23; obtain ⟨q1l, q24, hFL23⟩ := hFL23
      refine pg (v := .bool (!q1k)) 146 (c := !(!q0j)) (says_f _) (fun hq => Yl.at (yl_not (cv hq))) <| p (yor' rfl rfl (fun hc => (cv (t_not hc))) hx154) <| p (yl_move rfl) <| pg (v := .pointer (some ⟨b10, 4, none⟩)) 155 (c := !x154) (says_f _) (fun hq => Yl.at (yl_field0 fld_39_4 rfl)) <|
       pg (v := .int .i64 q3.Size) 155 (c := !x154) (says_f _) (fun hq => at_load one_3 (cv hq) (hS.cell rfl)) <|
       pccg (v := .bool q1l) 155 (c := !x154) (says_f _) call_61 (fun hq => (args3 (cv hq) rfl rfl)) hS (fun hq => by
        have hcall := c_rules_within (gd_t q24 hq)  (hS.pull 2)
        exact (Calls.mono hcall (fun e w'' h => And.intro h.1 ((h.2.pull 2).pull 2)))) (fun w' hS => ?_)
      replace hFL23 := lv_s hFL23; obtain ⟨x160, hx160, hFL23⟩ := hFL23
      replace hFL23 := lv_s hFL23; obtain ⟨x168, hx168, hFL23⟩ := hFL23
      replace hFL23 := lv_s hFL23; obtain ⟨x169, hx169, hFL23⟩ := hFL23
      refine pg (v := .bool (!q1l)) 155 (c := !x154) (says_f _) (fun hq => Yl.at (yl_not (cv hq))) <| p (yor' rfl rfl (fun hc => (cv (t_not hc))) hx160) <| p (yl_move rfl) <| pg (v := .pointer (some ⟨b10, 3, none⟩)) 161 (c := !x160) (says_f _) (fun hq => Yl.at (yl_field0 fld_39_3 rfl)) <|
       pg (v := .bool q3.Drive) 161 (c := !x160) (says_f _) (fun hq => at_load one_4 (cv hq) (hS.cell rfl)) <| pg (v := .bool q3.Drive) 161 (c := !x160) (says_f _) (fun hq => Yl.at (yl_move (cv hq))) <| pg (v := .pointer (some ⟨b10, 4, none⟩)) 164 (c := (!x160) && q3.Drive) (says_ift _ _) (fun hq => Yl.at (yl_field0 fld_39_4 rfl)) <| pg (v := .int .i64 q3.Size) 164 (c := (!x160) && q3.Drive) (says_ift _ _) (fun hq => at_load one_3 (cv hq) (hS.cell rfl)) <|
       pg (v := .bool (decide (0 < q3.Size))) 164 (c := (!x160) && q3.Drive) (says_ift _ _) (fun hq => Yl.at (yl_gtr (cv hq) rfl)) <| pg (v := .bool x168) 161 (c := !x160) (says_f _) (fun hq => Yl.at (yand' (cv hq) (fun hc => (cv (and_i hq hc))) rfl hx168)) <| p (yor' rfl rfl (fun hc => (cv (t_not hc))) hx169) <| x_done <|
       x_cond (t := x169) rfl (fun hc169 => ?_) (fun hc169 => ?_)
      ·replace hFL23 := it_t hc169 hFL23
       refine x_seq <| x_region <| p (yl_assign rfl) <| x_done <| ?_
       have e_ := sinj hFL23; subst e_
       have e_ := (show _ = oL23 from hLL23); subst e_
       have e_ := sinj hF; subst e_
       exact x_return ⟨_, ⟨_, _, rfl, rfl, rfl⟩, rfl, hS.drop.drop⟩
      ·replace hFL23 := it_bf hc169 hFL23
       replace hFL23 := ar_s hFL23; obtain ⟨x170, hx170, hFL23⟩ := hFL23
       refine x_skip <| x_blk <| x_region <| p (yadd q0l rfl hx170) <|
        p (yl_move rfl) <| x_done <| ?_
       have e_ := sinj hFL23; subst e_
       exact x_inv ⟨kL23, Nat.lt_succ_self _, x170, hLL23, q0g, q19, q0u, q0v, rfl, ((hS.drop.pull 1).pull 1)⟩
    ·replace hFL23 := it_f hc129 hFL23
     refine x_exitTo _ rfl <| ?_
     have e_ := sinj hFL23; subst e_
     exact x_inv ⟨hLL23, q0g, q19, ((hS.pull 1).pull 1)⟩
   rintro E w ⟨rfl, q1m, q2p, hS⟩
   refine x_seq <| x_seq <| x_region <| p (yl_field0 fld_31_7 q1m) <|
    pa (at_load one_29 rfl (hS.cell rfl)) <| p (yl_len_slice usl_29 rfl) <| p (yl_move rfl) <| x_done <| ?_
   replace hF := bs_s hF; obtain ⟨oL31, hLL31, hF⟩ := hF
   refine x_join (fun E w => (Sum.inl (())) = oL31 ∧ E 3 = .int .i64 q2 ∧ St w0 w (ro ρ :: l)) ?_ ?_
   ·refine x_block ?_
    refine x_loop (fun k_ E w => ∃ (q0f : Int), lp (P_rules_Check_L31 l_0) k_ q0f = some oL31 ∧ E 1 = .pointer (some ⟨b1, 0, none⟩) ∧ E 3 = .int .i64 q2 ∧ E 172 = .slice q6 l_0.Walls.length c_l_0_7 ∧ E 173 = .int .i64 (l_0.Walls.length : Int) ∧ E 174 = .int .i64 q0f ∧ St w0 w (cells b1 31 [.int .i64 l_0.W, .int .i64 l_0.H, .int .i64 l_0.Layers, .int .i64 l_0.Nets, .slice q7 l_0.Wires.length c_l_0_4, .slice q4 l_0.Vias.length c_l_0_5, .slice q5 l_0.Pins.length c_l_0_6, .slice q6 l_0.Walls.length c_l_0_7] :: ro ρ :: l)) fuel ⟨0, hLL31, q1m, q2p, rfl, rfl, rfl, ((hS.pull 1).pull 1)⟩ ?_
    rintro kL31 E w ⟨q0f, hLL31, q0d, q1a, q0w, q0x, q0m, hS⟩
    replace hLL31 := lp_s hLL31; obtain ⟨kL31, obL31, rfl, hFL31, hLL31⟩ := hLL31
    refine x_seq <| x_region <| p (yl_lss q0m q0x) <| x_done <|
     x_seq <|
     x_cond_p (q0f < (l_0.Walls.length : Int)) rfl (fun hc175 => ?_) (fun hc175 => ?_)
    ·replace hFL31 := it_t hc175 hFL31
     replace hFL31 := ck_s hFL31; obtain ⟨q1n, hFL31⟩ := hFL31
     replace hFL31 := lv_s hFL31; obtain ⟨q8, q2q, hFL31⟩ := hFL31
     have q_ := q0q.get q1n; obtain ⟨q34, q1o, q2r⟩ := q_
     rw [← q2q] at q1o
     have e_ := q1o; subst e_
     refine x_skip <| x_seq <| x_block <| x_seq <|
      x_region <| p (yix_f sl_29 q0w q0m q0q q1n) <| pa (v := .agg #[.int .i64 q8.Layer, .int .i64 q8.X0, .int .i64 q8.Y0, .int .i64 q8.X1, .int .i64 q8.Y1]) (at_loadAgg agg_66 rfl rfl (Elt.every q2r (hS.pull 1))) <| ?_
     refine o_alloc zero_66 hS (fun b12 w' hS => ?_)
     refine o_storeAgg (news := [.int .i64 q8.Layer, .int .i64 q8.X0, .int .i64 q8.Y0, .int .i64 q8.X1, .int .i64 q8.Y1]) agg_66 rfl rfl rfl (by simp [over_length]) hS (fun w' hS => ?_)
     replace hFL31 := ar_s hFL31; obtain ⟨x182, hx182, hFL31⟩ := hFL31
     replace hFL31 := bd_s hFL31; obtain ⟨q0k, q2s, hFL31⟩ := hFL31
     refine x_done <| x_seq <| x_region <| p (yl_field0 fld_66_0 rfl) <|
      pa (at_load one_3 rfl (hS.cell rfl)) <| p (yl_field0 fld_31_2 q0d) <| pa (at_load one_3 rfl ((hS.pull 1).cell rfl)) <| p (ysub rfl rfl hx182) <| ?_
     have hcall := c_rules_within q2s  (hS.pull 2)
     refine o_cc call_61 (args3 rfl rfl rfl) ((Calls.mono hcall (fun e w'' h => And.intro h.1 ((h.2.pull 2).pull 2)))) ?_
     rintro e w' ⟨rfl, hS⟩
     refine ⟨_, rfl, ?_⟩
     replace hFL31 := ck_s hFL31; obtain ⟨q25, hFL31⟩ := hFL31
     replace hFL31 := lv_s hFL31; obtain ⟨x190, hx190, hFL31⟩ := hFL31
     replace hFL31 := bd_s hFL31; obtain ⟨q1p, q26, hFL31⟩ := hFL31
     refine p (yl_not rfl) <| p (yl_move rfl) <| pg (v := .pointer (some ⟨b12, 1, none⟩)) 185 (c := !(!q0k)) (says_f _) (fun hq => Yl.at (yl_field0 fld_66_1 rfl)) <| pg (v := .int .i64 q8.X0) 185 (c := !(!q0k)) (says_f _) (fun hq => at_load one_3 (cv hq) (hS.cell rfl)) <|
      pg (v := .pointer (some ⟨b1, 0, none⟩)) 185 (c := !(!q0k)) (says_f _) (fun hq => Yl.at (yl_field0 fld_31_0 q0d)) <| pg (v := .int .i64 l_0.W) 185 (c := !(!q0k)) (says_f _) (fun hq => at_load one_3 (cv hq) ((hS.pull 1).cell rfl)) <| pg (v := .int .i64 x190) 185 (c := !(!q0k)) (says_f _) (fun hq => Yl.at (ysub (cv hq) rfl ⟨hx190, (q25 hq)⟩)) <|
      pccg (v := .bool q1p) 185 (c := !(!q0k)) (says_f _) call_61 (fun hq => (args3 (cv hq) rfl (cv hq))) hS (fun hq => by
       have hcall := c_rules_within (gd_t q26 hq)  (hS.pull 2)
       exact (Calls.mono hcall (fun e w'' h => And.intro h.1 ((h.2.pull 2).pull 2)))) (fun w' hS => ?_)
     replace hFL31 := lv_s hFL31; obtain ⟨x193, hx193, hFL31⟩ := hFL31
     replace hFL31 := ck_s hFL31; obtain ⟨q27, hFL31⟩ := hFL31
     replace hFL31 := lv_s hFL31; obtain ⟨x199, hx199, hFL31⟩ := hFL31
     replace hFL31 := bd_s hFL31; obtain ⟨q1q, q28, hFL31⟩ := hFL31
     refine pg (v := .bool (!q1p)) 185 (c := !(!q0k)) (says_f _) (fun hq => Yl.at (yl_not (cv hq))) <| p (yor' rfl rfl (fun hc => (cv (t_not hc))) hx193) <| p (yl_move rfl) <| pg (v := .pointer (some ⟨b12, 2, none⟩)) 194 (c := !x193) (says_f _) (fun hq => Yl.at (yl_field0 fld_66_2 rfl)) <|
      pg (v := .int .i64 q8.Y0) 194 (c := !x193) (says_f _) (fun hq => at_load one_3 (cv hq) (hS.cell rfl)) <| pg (v := .pointer (some ⟨b1, 1, none⟩)) 194 (c := !x193) (says_f _) (fun hq => Yl.at (yl_field0 fld_31_1 q0d)) <| pg (v := .int .i64 l_0.H) 194 (c := !x193) (says_f _) (fun hq => at_load one_3 (cv hq) ((hS.pull 1).cell rfl)) <| pg (v := .int .i64 x199) 194 (c := !x193) (says_f _) (fun hq => Yl.at (ysub (cv hq) rfl ⟨hx199, (q27 hq)⟩)) <|
      pccg (v := .bool q1q) 194 (c := !x193) (says_f _) call_61 (fun hq => (args3 (cv hq) rfl (cv hq))) hS (fun hq => by
       have hcall := c_rules_within (gd_t q28 hq)  (hS.pull 2)
       exact (Calls.mono hcall (fun e w'' h => And.intro h.1 ((h.2.pull 2).pull 2)))) (fun w' hS => ?_)
     replace hFL31 := lv_s hFL31; obtain ⟨x202, hx202, hFL31⟩ := hFL31
     replace hFL31 := ck_s hFL31; obtain ⟨q29, hFL31⟩ := hFL31
     replace hFL31 := lv_s hFL31; obtain ⟨x210, hx210, hFL31⟩ := hFL31
     replace hFL31 := bd_s hFL31; obtain ⟨q1r, q2a, hFL31⟩ := hFL31
     refine pg (v := .bool (!q1q)) 194 (c := !x193) (says_f _) (fun hq => Yl.at (yl_not (cv hq))) <| p (yor' rfl rfl (fun hc => (cv (t_not hc))) hx202) <| p (yl_move rfl) <| pg (v := .pointer (some ⟨b12, 3, none⟩)) 203 (c := !x202) (says_f _) (fun hq => Yl.at (yl_field0 fld_66_3 rfl)) <|
      pg (v := .int .i64 q8.X1) 203 (c := !x202) (says_f _) (fun hq => at_load one_3 (cv hq) (hS.cell rfl)) <| pg (v := .pointer (some ⟨b12, 1, none⟩)) 203 (c := !x202) (says_f _) (fun hq => Yl.at (yl_field0 fld_66_1 rfl)) <| pg (v := .int .i64 q8.X0) 203 (c := !x202) (says_f _) (fun hq => at_load one_3 (cv hq) (hS.cell rfl)) <| pg (v := .pointer (some ⟨b1, 0, none⟩)) 203 (c := !x202) (says_f _) (fun hq => Yl.at (yl_field0 fld_31_0 q0d)) <|
      pg (v := .int .i64 l_0.W) 203 (c := !x202) (says_f _) (fun hq => at_load one_3 (cv hq) ((hS.pull 1).cell rfl)) <| pg (v := .int .i64 x210) 203 (c := !x202) (says_f _) (fun hq => Yl.at (ysub (cv hq) rfl ⟨hx210, (q29 hq)⟩)) <|
      pccg (v := .bool q1r) 203 (c := !x202) (says_f _) call_61 (fun hq => (args3 (cv hq) (cv hq) (cv hq))) hS (fun hq => by
       have hcall := c_rules_within (gd_t q2a hq)  (hS.pull 2)
       exact (Calls.mono hcall (fun e w'' h => And.intro h.1 ((h.2.pull 2).pull 2)))) (fun w' hS => ?_)
     replace hFL31 := lv_s hFL31; obtain ⟨x213, hx213, hFL31⟩ := hFL31
     replace hFL31 := ck_s hFL31; obtain ⟨q2b, hFL31⟩ := hFL31
     replace hFL31 := lv_s hFL31; obtain ⟨x221, hx221, hFL31⟩ := hFL31
     replace hFL31 := bd_s hFL31; obtain ⟨q1s, q2c, hFL31⟩ := hFL31
     refine pg (v := .bool (!q1r)) 203 (c := !x202) (says_f _) (fun hq => Yl.at (yl_not (cv hq))) <| p (yor' rfl rfl (fun hc => (cv (t_not hc))) hx213) <| p (yl_move rfl) <| pg (v := .pointer (some ⟨b12, 4, none⟩)) 214 (c := !x213) (says_f _) (fun hq => Yl.at (yl_field0 fld_66_4 rfl)) <|
      pg (v := .int .i64 q8.Y1) 214 (c := !x213) (says_f _) (fun hq => at_load one_3 (cv hq) (hS.cell rfl)) <| pg (v := .pointer (some ⟨b12, 2, none⟩)) 214 (c := !x213) (says_f _) (fun hq => Yl.at (yl_field0 fld_66_2 rfl)) <| pg (v := .int .i64 q8.Y0) 214 (c := !x213) (says_f _) (fun hq => at_load one_3 (cv hq) (hS.cell rfl)) <| pg (v := .pointer (some ⟨b1, 1, none⟩)) 214 (c := !x213) (says_f _) (fun hq => Yl.at (yl_field0 fld_31_1 q0d)) <|
      pg (v := .int .i64 l_0.H) 214 (c := !x213) (says_f _) (fun hq => at_load one_3 (cv hq) ((hS.pull 1).cell rfl)) <| pg (v := .int .i64 x221) 214 (c := !x213) (says_f _) (fun hq => Yl.at (ysub (cv hq) rfl ⟨hx221, (q2b hq)⟩)) <|
      pccg (v := .bool q1s) 214 (c := !x213) (says_f _) call_61 (fun hq => (args3 (cv hq) (cv hq) (cv hq))) hS (fun hq => by
       have hcall := c_rules_within (gd_t q2c hq)  (hS.pull 2)
       exact (Calls.mono hcall (fun e w'' h => And.intro h.1 ((h.2.pull 2).pull 2)))) (fun w' hS => ?_)
     replace hFL31 := lv_s hFL31; obtain ⟨x224, hx224, hFL31⟩ := hFL31
     refine pg (v := .bool (!q1s)) 214 (c := !x213) (says_f _) (fun hq => Yl.at (yl_not (cv hq))) <| p (yor' rfl rfl (fun hc => (cv (t_not hc))) hx224) <| x_done <|
      x_cond (t := x224) rfl (fun hc224 => ?_) (fun hc224 => ?_)
     ·replace hFL31 := it_t hc224 hFL31
      refine x_seq <| x_region <| p (yl_assign rfl) <| x_done <| ?_
      have e_ := sinj hFL31; subst e_
      have e_ := (show _ = oL31 from hLL31); subst e_
      have e_ := sinj hF; subst e_
      exact x_return ⟨_, ⟨_, _, rfl, rfl, rfl⟩, rfl, hS.drop.drop⟩
     ·replace hFL31 := it_bf hc224 hFL31
      replace hFL31 := ar_s hFL31; obtain ⟨x225, hx225, hFL31⟩ := hFL31
      refine x_skip <| x_blk <| x_region <| p (yadd q0m rfl hx225) <|
       p (yl_move rfl) <| x_done <| ?_
      have e_ := sinj hFL31; subst e_
      exact x_inv ⟨kL31, Nat.lt_succ_self _, x225, hLL31, q0d, q1a, q0w, q0x, rfl, ((hS.drop.pull 1).pull 1)⟩
    ·replace hFL31 := it_f hc175 hFL31
     refine x_exitTo _ rfl <| ?_
     have e_ := sinj hFL31; subst e_
     exact x_inv ⟨hLL31, q1a, hS.drop⟩
   rintro E w ⟨rfl, q2t, hS⟩
   refine x_seq <| x_seq <| x_region <| p (yl_move q2t) <|
    p (yl_gtr rfl rfl) <| x_done <|
    x_cond_p (200000 < q2) rfl (fun hc227 => ?_) (fun hc227 => ?_)
   ·replace hF := it_t hc227 hF
    refine x_seq <| x_region <| p (yl_assign rfl) <| x_done <| ?_
    have e_ := sinj hF; subst e_
    exact x_return ⟨_, ⟨_, _, rfl, rfl, rfl⟩, rfl, hS⟩
   ·replace hF := it_f hc227 hF
    refine x_skip <| x_seq <| x_region <| p (yl_assign rfl) <|
     x_done <| ?_
    have e_ := sinj hF; subst e_
    exact x_return ⟨_, ⟨_, _, rfl, rfl, rfl⟩, rfl, hS⟩
attribute [irreducible] P_rules_Check

def P_extract_check (l_0 : T_rules_Layout) (net1 : Int) : Option Int :=
 bd (P_rules_Check l_0) fun q2 =>
 if q2 ≠ 0 then
  some q2
 else
  lv ((decide (net1 < 0)) || (decide (l_0.Nets ≤ net1))) fun x18 =>
  if x18 = true then
   some (7 : Int)
  else
   some (0 : Int)
theorem c_extract_check {w0 w : World} {l : List Assn} {ρ : Heap} {q2 : Option Addr} {q7 : Nat} {c_l_0_4 : Nat} {q3 : Option Addr} {q8 : Nat} {c_l_0_5 : Nat} {q4 : Option Addr} {q9 : Nat} {c_l_0_6 : Nat} {q5 : Option Addr} {q0a : Nat} {c_l_0_7 : Nat} {l_0 : T_rules_Layout} {net1 : Int} {r : Int} (hF : P_extract_check l_0 net1 = some r) (q0b : RdS R_rules_Wire ρ q2 q7 c_l_0_4 l_0.Wires) (q0c : RdS R_rules_Via ρ q3 q8 c_l_0_5 l_0.Vias) (q0d : RdS R_rules_Pin ρ q4 q9 c_l_0_6 l_0.Pins) (q0e : RdS R_floor_Wall ρ q5 q0a c_l_0_7 l_0.Walls) (hS : St w0 w (ro ρ :: l)) :
  Calls Try.prog 35 #[.agg #[.int .i64 l_0.W, .int .i64 l_0.H, .int .i64 l_0.Layers, .int .i64 l_0.Nets, .slice q2 q7 c_l_0_4, .slice q3 q8 c_l_0_5, .slice q4 q9 c_l_0_6, .slice q5 q0a c_l_0_7], .int .i64 net1] w fun e w' => e = .returned (.int .i64 r) ∧ St w0 w' (ro ρ :: l) := by
 have e_ := q0b.n; subst e_
 have e_ := q0c.n; subst e_
 have e_ := q0d.n; subst e_
 have e_ := q0e.n; subst e_
 refine enterC Try.func35 rfl 19 rfl (by simp) ?_
 refine x_seq <| x_region <| ?_
 refine o_box (cs := [.int .i64 l_0.W, .int .i64 l_0.H, .int .i64 l_0.Layers, .int .i64 l_0.Nets, .slice q2 l_0.Wires.length c_l_0_4, .slice q3 l_0.Vias.length c_l_0_5, .slice q4 l_0.Pins.length c_l_0_6, .slice q5 l_0.Walls.length c_l_0_7]) rfl rfl hS (fun b2 w' hS => ?_)
 replace hF := bd_s hF; obtain ⟨q6, q0f, hF⟩ := hF
 refine p (yl_assign rfl) <| x_done <| x_seq <| x_seq <|
  x_region <| pa (v := .agg #[.int .i64 l_0.W, .int .i64 l_0.H, .int .i64 l_0.Layers, .int .i64 l_0.Nets, .slice q2 l_0.Wires.length c_l_0_4, .slice q3 l_0.Vias.length c_l_0_5, .slice q4 l_0.Pins.length c_l_0_6, .slice q5 l_0.Walls.length c_l_0_7]) (ld_sub agg_31 rfl rfl rfl hS) <| ?_
 have hcall := c_rules_Check q0f q0b q0c q0d q0e (hS.pull 1)
 refine o_cc call_44 (args1 rfl) ((Calls.mono hcall (fun e w'' h => And.intro h.1 (h.2.pull 1)))) ?_
 rintro e w' ⟨rfl, hS⟩
 refine ⟨_, rfl, ?_⟩
 refine p (v := .int .i64 q6) (yl_assign rfl) <| x_done <| x_seq <| x_region <|
  p (v := .int .i64 q6) (yl_move rfl) <| p (yl_neq rfl rfl) <| x_done <|
  x_cond_p (q6 ≠ 0) rfl (fun hc9 => ?_) (fun hc9 => ?_)
 ·replace hF := it_t hc9 hF
  refine x_seq <| x_region <| p (v := .int .i64 q6) (yl_move rfl) <| p (v := .int .i64 q6) (yl_assign rfl) <|
   x_done <| ?_
  have e_ := sinj hF; subst e_
  exact x_return ⟨_, ⟨_, _, rfl, rfl, rfl⟩, rfl, hS.drop⟩
 ·replace hF := it_f hc9 hF
  replace hF := lv_s hF; obtain ⟨x18, hx18, hF⟩ := hF
  refine x_skip <| x_seq <| x_seq <| x_region <|
   p (yl_move rfl) <| p (yl_lss rfl rfl) <| p (yl_move rfl) <| pg (v := .int .i64 net1) 13 (c := !(decide (net1 < 0))) (says_f _) (fun hq => Yl.at (yl_move rfl)) <|
   pg (v := .pointer (some ⟨b2, 3, none⟩)) 13 (c := !(decide (net1 < 0))) (says_f _) (fun hq => Yl.at (yl_field0 fld_31_3 rfl)) <| pg (v := .int .i64 l_0.Nets) 13 (c := !(decide (net1 < 0))) (says_f _) (fun hq => at_load one_3 (cv hq) (hS.cell rfl)) <| pg (v := .bool (decide (l_0.Nets ≤ net1))) 13 (c := !(decide (net1 < 0))) (says_f _) (fun hq => Yl.at (yl_geq (cv hq) (cv hq))) <| p (yor' rfl rfl (fun hc => (cv (t_not hc))) hx18) <|
   x_done <|
   x_cond (t := x18) rfl (fun hc18 => ?_) (fun hc18 => ?_)
  ·replace hF := it_t hc18 hF
   refine x_seq <| x_region <| p (yl_assign rfl) <| x_done <| ?_
   have e_ := sinj hF; subst e_
   exact x_return ⟨_, ⟨_, _, rfl, rfl, rfl⟩, rfl, hS.drop⟩
  ·replace hF := it_bf hc18 hF
   refine x_skip <| x_seq <| x_region <| p (yl_assign rfl) <|
    x_done <| ?_
   have e_ := sinj hF; subst e_
   exact x_return ⟨_, ⟨_, _, rfl, rfl, rfl⟩, rfl, hS.drop⟩
attribute [irreducible] P_extract_check

def P_extract_of_L11 (q5 : T_rules_Wire) (q4 : Int) : (Int × List (T_rules_Spot × Bool) × List (T_extract_step × Bool) × Int × Int × Int) → Option ((Int × List (T_rules_Spot × Bool) × List (T_extract_step × Bool) × Int × Int × Int) ⊕ (List (T_rules_Spot × Bool) × List (T_extract_step × Bool) × Int × Int × Int)) := fun (q2, q6, q3, q7, q8, q9) =>
 if q2 ≤ q5.X1 then
  lv (mput (T_rules_Spot.mk q5.Layer q2 q4) true q6) fun q0b =>
  lv ((decide (q5.X0 < q2)) || (decide (q5.Y0 < q4))) fun x62 =>
  bd (
   if x62 = true then
    lv (mput (T_extract_step.mk (T_rules_Spot.mk q7 q8 q9) (T_rules_Spot.mk q5.Layer q2 q4)) true q3) fun q0c =>
    some q0c
   else
    some q3) fun q0a =>
  ar (q2 + 1) fun x44 =>
  some (Sum.inl (x44, q0b, q0a, q5.Layer, q2, q4))
 else
  some (Sum.inr (q6, q3, q7, q8, q9))
def P_extract_of_L8 (q5 : T_rules_Wire) : (Int × List (T_rules_Spot × Bool) × List (T_extract_step × Bool) × Int × Int × Int) → Option ((Int × List (T_rules_Spot × Bool) × List (T_extract_step × Bool) × Int × Int × Int) ⊕ (List (T_rules_Spot × Bool) × List (T_extract_step × Bool))) := fun (q2, q3, q4, q6, q7, q8) =>
 if q2 ≤ q5.Y1 then
  bd (
   lp (P_extract_of_L11 q5 q2) fuel (q5.X0, q3, q4, q6, q7, q8)) fun (q9, q0a, q0b, q0c, q0d) =>
  ar (q2 + 1) fun x36 =>
  some (Sum.inl (x36, q9, q0a, q0b, q0c, q0d))
 else
  some (Sum.inr (q3, q4))
def P_extract_of_L3 (l_0 : T_rules_Layout) (net1 : Int) : (Int × List (T_rules_Spot × Bool) × List (T_extract_step × Bool)) → Option ((Int × List (T_rules_Spot × Bool) × List (T_extract_step × Bool)) ⊕ (List (T_rules_Spot × Bool) × List (T_extract_step × Bool))) := fun (q2, q3, q4) =>
 if q2 < (l_0.Wires.length : Int) then
  bd (
   ck (inb q2 l_0.Wires.length) <|
   lv (gt l_0.Wires q2) fun q5 =>
   if q5.Net ≠ net1 then
    some (q3, q4)
   else
    bd (
     lp (P_extract_of_L8 q5) fuel (q5.Y0, q3, q4, 0, 0, 0)) fun (q6, q7) =>
    some (q6, q7)) fun (q8, q9) =>
  ar (q2 + 1) fun x69 =>
  some (Sum.inl (x69, q8, q9))
 else
  some (Sum.inr (q3, q4))
def P_extract_of_L20 (l_0 : T_rules_Layout) (net1 : Int) : (Int × List (T_extract_step × Bool)) → Option ((Int × List (T_extract_step × Bool)) ⊕ List (T_extract_step × Bool)) := fun (q2, q4) =>
 if q2 < (l_0.Vias.length : Int) then
  ck (inb q2 l_0.Vias.length) <|
  lv (gt l_0.Vias q2) fun q3 =>
  bd (
   if q3.Net = net1 then
    ar (q3.Layer + 1) fun x92 =>
    lv (mput (T_extract_step.mk (T_rules_Spot.mk q3.Layer q3.X q3.Y) (T_rules_Spot.mk x92 q3.X q3.Y)) true q4) fun q6 =>
    some q6
   else
    some q4) fun q5 =>
  ar (q2 + 1) fun x99 =>
  some (Sum.inl (x99, q5))
 else
  some (Sum.inr q4)
def P_extract_of (l_0 : T_rules_Layout) (net1 : Int) : Option (List (T_rules_Spot × Bool) × List (T_extract_step × Bool)) :=
 bd (
  lp (P_extract_of_L3 l_0 net1) fuel (0, [], [])) fun (q3, q4) =>
 bd (
  lp (P_extract_of_L20 l_0 net1) fuel (0, q4)) fun q2 =>
 some (q3, q2)
theorem c_extract_of {w0 w : World} {l : List Assn} {ρ : Heap} {q6 : Option Addr} {q1w : Nat} {c_l_0_4 : Nat} {q7 : Option Addr} {q1x : Nat} {c_l_0_5 : Nat} {q0b : Option Addr} {q1y : Nat} {c_l_0_6 : Nat} {q0c : Option Addr} {q1z : Nat} {c_l_0_7 : Nat} {l_0 : T_rules_Layout} {net1 : Int} {r : (List (T_rules_Spot × Bool) × List (T_extract_step × Bool))} (hF : P_extract_of l_0 net1 = some r) (q1j : RdS R_rules_Wire ρ q6 q1w c_l_0_4 l_0.Wires) (q1k : RdS R_rules_Via ρ q7 q1x c_l_0_5 l_0.Vias) (q2f : RdS R_rules_Pin ρ q0b q1y c_l_0_6 l_0.Pins) (q2g : RdS R_floor_Wall ρ q0c q1z c_l_0_7 l_0.Walls) (hS : St w0 w (ro ρ :: l)) :
  Calls Try.prog 37 #[.agg #[.int .i64 l_0.W, .int .i64 l_0.H, .int .i64 l_0.Layers, .int .i64 l_0.Nets, .slice q6 q1w c_l_0_4, .slice q7 q1x c_l_0_5, .slice q0b q1y c_l_0_6, .slice q0c q1z c_l_0_7], .int .i64 net1] w fun e w' => ∃ (q1g : Nat) (q1h : Nat), e = .returned (.agg #[.map (some q1g), .map (some q1h)]) ∧ St w0 w' (mapA q1g kf_61 Value.bool r.1 :: mapA q1h kf_94 Value.bool r.2 :: ro ρ :: l) := by
 have e_ := q1j.n; subst e_
 have e_ := q1k.n; subst e_
 have e_ := q2f.n; subst e_
 have e_ := q2g.n; subst e_
 refine enterC Try.func37 rfl 101 rfl (by simp) ?_
 refine x_seq <| x_region <| ?_
 refine o_box (cs := [.int .i64 l_0.W, .int .i64 l_0.H, .int .i64 l_0.Layers, .int .i64 l_0.Nets, .slice q6 l_0.Wires.length c_l_0_4, .slice q7 l_0.Vias.length c_l_0_5, .slice q0b l_0.Pins.length c_l_0_6, .slice q0c l_0.Walls.length c_l_0_7]) rfl rfl hS (fun b2 w' hS => ?_)
 refine o_alloc zero_87 hS (fun b4 w' hS => ?_)
 refine x_done <| x_seq <| x_region <| ?_
 refine o_mkmap (κ := T_rules_Spot) (α := Bool) kf_61 Value.bool hS (fun b14 w' hS => ?_)
 refine o_mkmap (κ := T_extract_step) (α := Bool) kf_94 Value.bool hS (fun b15 w' hS => ?_)
 refine p (v := .agg #[.map (some b14), .map (some b15)]) (yl_build bld_87 bldf_87 (parts_eq (pt (va := .map (some b14)) rfl (pt (va := .map (some b15)) rfl pt0))) (by kernel_rfl)) <| ?_
 refine o_alloc zero_87 hS (fun b5 w' hS => ?_)
 refine o_storeAgg (news := [.map (some b14), .map (some b15)]) agg_87 rfl rfl rfl (by simp [over_length]) hS (fun w' hS => ?_)
 refine x_done <| x_seq <| x_seq <| x_region <|
  p (yl_field0 fld_31_4 rfl) <| pa (at_load one_26 rfl ((hS.pull 4).cell rfl)) <| p (yl_len_slice usl_26 rfl) <| p (yl_move rfl) <|
  x_done <| ?_
 replace hF := bd_s hF; obtain ⟨oL3, hLL3, hF⟩ := hF
 refine x_join (fun E w => ∃ (q0j : List (T_rules_Spot × Bool)) (q12 : List (T_extract_step × Bool)), (q0j, q12) = oL3 ∧ E 1 = .int .i64 net1 ∧ E 2 = .pointer (some ⟨b2, 0, none⟩) ∧ E 4 = .pointer (some ⟨b4, 0, none⟩) ∧ E 5 = .pointer (some ⟨b5, 0, none⟩) ∧ St w0 w (cells b2 31 [.int .i64 l_0.W, .int .i64 l_0.H, .int .i64 l_0.Layers, .int .i64 l_0.Nets, .slice q6 l_0.Wires.length c_l_0_4, .slice q7 l_0.Vias.length c_l_0_5, .slice q0b l_0.Pins.length c_l_0_6, .slice q0c l_0.Walls.length c_l_0_7] :: cells b4 87 [.map none, .map none] :: cells b5 87 [.map (some b14), .map (some b15)] :: mapA b14 kf_61 Value.bool q0j :: mapA b15 kf_94 Value.bool q12 :: ro ρ :: l)) ?_ ?_
 ·refine x_block ?_
  refine x_loop (fun k_ E w => ∃ (q0d : Int) (q0e : List (T_rules_Spot × Bool)) (q0f : List (T_extract_step × Bool)), lp (P_extract_of_L3 l_0 net1) k_ (q0d, q0e, q0f) = some oL3 ∧ E 1 = .int .i64 net1 ∧ E 2 = .pointer (some ⟨b2, 0, none⟩) ∧ E 4 = .pointer (some ⟨b4, 0, none⟩) ∧ E 5 = .pointer (some ⟨b5, 0, none⟩) ∧ E 18 = .slice q6 l_0.Wires.length c_l_0_4 ∧ E 19 = .int .i64 (l_0.Wires.length : Int) ∧ E 20 = .int .i64 q0d ∧ St w0 w (cells b2 31 [.int .i64 l_0.W, .int .i64 l_0.H, .int .i64 l_0.Layers, .int .i64 l_0.Nets, .slice q6 l_0.Wires.length c_l_0_4, .slice q7 l_0.Vias.length c_l_0_5, .slice q0b l_0.Pins.length c_l_0_6, .slice q0c l_0.Walls.length c_l_0_7] :: cells b4 87 [.map none, .map none] :: cells b5 87 [.map (some b14), .map (some b15)] :: mapA b14 kf_61 Value.bool q0e :: mapA b15 kf_94 Value.bool q0f :: ro ρ :: l)) fuel ⟨0, [], [], hLL3, rfl, rfl, rfl, rfl, rfl, rfl, rfl, ((((((hS.pull 5).pull 2).pull 3).pull 3).pull 4).pull 5)⟩ ?_
  rintro kL3 E w ⟨q0d, q0e, q0f, hLL3, q1i, q1s, q1t, q1u, q1l, q1m, q13, hS⟩
  replace hLL3 := lp_s hLL3; obtain ⟨kL3, obL3, rfl, hFL3, hLL3⟩ := hLL3
  refine x_seq <| x_region <| p (yl_lss q13 q1m) <| x_done <|
   x_seq <|
   x_cond_p (q0d < (l_0.Wires.length : Int)) rfl (fun hc21 => ?_) (fun hc21 => ?_)
  ·replace hFL3 := it_t hc21 hFL3
   refine x_skip <| x_seq <| ?_
   replace hFL3 := bd_s hFL3; obtain ⟨ob1, hFb1, hFL3⟩ := hFL3
   refine x_join (fun E w => ∃ (q14 : List (T_rules_Spot × Bool)) (q15 : List (T_extract_step × Bool)), (q14, q15) = ob1 ∧ E 1 = .int .i64 net1 ∧ E 2 = .pointer (some ⟨b2, 0, none⟩) ∧ E 4 = .pointer (some ⟨b4, 0, none⟩) ∧ E 5 = .pointer (some ⟨b5, 0, none⟩) ∧ E 18 = .slice q6 l_0.Wires.length c_l_0_4 ∧ E 19 = .int .i64 (l_0.Wires.length : Int) ∧ E 20 = .int .i64 q0d ∧ St w0 w (cells b2 31 [.int .i64 l_0.W, .int .i64 l_0.H, .int .i64 l_0.Layers, .int .i64 l_0.Nets, .slice q6 l_0.Wires.length c_l_0_4, .slice q7 l_0.Vias.length c_l_0_5, .slice q0b l_0.Pins.length c_l_0_6, .slice q0c l_0.Walls.length c_l_0_7] :: cells b4 87 [.map none, .map none] :: cells b5 87 [.map (some b14), .map (some b15)] :: mapA b14 kf_61 Value.bool q14 :: mapA b15 kf_94 Value.bool q15 :: ro ρ :: l)) ?_ ?_
   ·replace hFb1 := ck_s hFb1; obtain ⟨q2c, hFb1⟩ := hFb1
    replace hFb1 := lv_s hFb1; obtain ⟨q2, q3m, hFb1⟩ := hFb1
    have q_ := q1j.get q2c; obtain ⟨q42, q2d, q3n⟩ := q_
    rw [← q3m] at q2d
    have e_ := q2d; subst e_
    refine x_block <| x_seq <| x_region <| p (yix_f sl_26 q1l q13 q1j q2c) <|
     pa (v := .agg #[.int .i64 q2.Net, .int .i64 q2.Layer, .int .i64 q2.X0, .int .i64 q2.Y0, .int .i64 q2.X1, .int .i64 q2.Y1]) (at_loadAgg agg_44 rfl rfl (Elt.every q3n (hS.pull 5))) <| ?_
    refine o_alloc zero_44 hS (fun b7 w' hS => ?_)
    refine o_storeAgg (news := [.int .i64 q2.Net, .int .i64 q2.Layer, .int .i64 q2.X0, .int .i64 q2.Y0, .int .i64 q2.X1, .int .i64 q2.Y1]) agg_44 rfl rfl rfl (by simp [over_length]) hS (fun w' hS => ?_)
    refine x_done <| x_seq <| x_seq <| x_region <|
     p (yl_field0 fld_44_0 rfl) <| pa (at_load one_3 rfl (hS.cell rfl)) <| p (yl_move q1i) <| p (yl_neq rfl rfl) <|
     x_done <|
     x_cond_p (q2.Net ≠ net1) rfl (fun hc27 => ?_) (fun hc27 => ?_)
    ·replace hFb1 := it_t hc27 hFb1
     refine x_exitTo _ rfl <| ?_
     exact x_inv ⟨q0e, q0f, (sinj hFb1), q1i, q1s, q1t, q1u, q1l, q1m, q13, ((((((hS.drop.pull 5).pull 5).pull 5).pull 5).pull 5).pull 5)⟩
    ·replace hFb1 := it_f hc27 hFb1
     refine x_skip <| x_seq <| x_region <| p (v := .agg #[.int .i64 0, .int .i64 0, .int .i64 0]) (yl_build bld_61 bldf_61 (parts_eq pt0) (by kernel_rfl)) <| ?_
     refine o_alloc zero_61 hS (fun b8 w' hS => ?_)
     refine o_storeAgg (news := [.int .i64 0, .int .i64 0, .int .i64 0]) agg_61 rfl rfl rfl (by simp [over_length]) hS (fun w' hS => ?_)
     refine x_done <| x_seq <| x_region <| p (yl_field0 fld_44_3 rfl) <|
      pa (at_load one_3 rfl ((hS.pull 1).cell rfl)) <| p (yl_assign rfl) <| x_done <| ?_
     replace hFb1 := bd_s hFb1; obtain ⟨oL8, hLL8, hFb1⟩ := hFb1
     refine x_join (fun E w => ∃ (q16 : List (T_rules_Spot × Bool)) (q17 : List (T_extract_step × Bool)), (q16, q17) = oL8 ∧ E 1 = .int .i64 net1 ∧ E 2 = .pointer (some ⟨b2, 0, none⟩) ∧ E 4 = .pointer (some ⟨b4, 0, none⟩) ∧ E 5 = .pointer (some ⟨b5, 0, none⟩) ∧ E 18 = .slice q6 l_0.Wires.length c_l_0_4 ∧ E 19 = .int .i64 (l_0.Wires.length : Int) ∧ E 20 = .int .i64 q0d ∧ St w0 w (cells b2 31 [.int .i64 l_0.W, .int .i64 l_0.H, .int .i64 l_0.Layers, .int .i64 l_0.Nets, .slice q6 l_0.Wires.length c_l_0_4, .slice q7 l_0.Vias.length c_l_0_5, .slice q0b l_0.Pins.length c_l_0_6, .slice q0c l_0.Walls.length c_l_0_7] :: cells b4 87 [.map none, .map none] :: cells b5 87 [.map (some b14), .map (some b15)] :: mapA b14 kf_61 Value.bool q16 :: mapA b15 kf_94 Value.bool q17 :: ro ρ :: l)) ?_ ?_
     ·refine x_block ?_
      refine x_loop (fun k_ E w => ∃ (q5 : Int) (q0k : List (T_rules_Spot × Bool)) (q0l : List (T_extract_step × Bool)) (q0r : Int) (q0s : Int) (q0t : Int), lp (P_extract_of_L8 q2) k_ (q5, q0k, q0l, q0r, q0s, q0t) = some oL8 ∧ E 1 = .int .i64 net1 ∧ E 2 = .pointer (some ⟨b2, 0, none⟩) ∧ E 4 = .pointer (some ⟨b4, 0, none⟩) ∧ E 5 = .pointer (some ⟨b5, 0, none⟩) ∧ E 7 = .pointer (some ⟨b7, 0, none⟩) ∧ E 8 = .pointer (some ⟨b8, 0, none⟩) ∧ E 9 = .int .i64 q5 ∧ E 18 = .slice q6 l_0.Wires.length c_l_0_4 ∧ E 19 = .int .i64 (l_0.Wires.length : Int) ∧ E 20 = .int .i64 q0d ∧ St w0 w (cells b2 31 [.int .i64 l_0.W, .int .i64 l_0.H, .int .i64 l_0.Layers, .int .i64 l_0.Nets, .slice q6 l_0.Wires.length c_l_0_4, .slice q7 l_0.Vias.length c_l_0_5, .slice q0b l_0.Pins.length c_l_0_6, .slice q0c l_0.Walls.length c_l_0_7] :: cells b4 87 [.map none, .map none] :: cells b5 87 [.map (some b14), .map (some b15)] :: cells b7 44 [.int .i64 q2.Net, .int .i64 q2.Layer, .int .i64 q2.X0, .int .i64 q2.Y0, .int .i64 q2.X1, .int .i64 q2.Y1] :: cells b8 61 [.int .i64 q0r, .int .i64 q0s, .int .i64 q0t] :: mapA b14 kf_61 Value.bool q0k :: mapA b15 kf_94 Value.bool q0l :: ro ρ :: l)) fuel ⟨q2.Y0, q0e, q0f, 0, 0, 0, hLL8, q1i, q1s, q1t, q1u, rfl, rfl, rfl, q1l, q1m, q13, ((((((((hS.pull 7).pull 7).pull 7).pull 3).pull 4).pull 7).pull 7).pull 7)⟩ ?_
      rintro kL8 E w ⟨q5, q0k, q0l, q0r, q0s, q0t, hLL8, q23, q24, q25, q26, q1v, q2t, q27, q20, q21, q22, hS⟩
      replace hLL8 := lp_s hLL8; obtain ⟨kL8, obL8, rfl, hFL8, hLL8⟩ := hLL8
      refine x_seq <| x_seq <| x_region <| p (yl_move q27) <|
       p (yl_field0 fld_44_5 q1v) <| pa (at_load one_3 rfl ((hS.pull 3).cell rfl)) <| p (yl_leq rfl rfl) <| x_done <|
       x_cond_p (q5 ≤ q2.Y1) rfl (fun hc34 => ?_) (fun hc34 => ?_)
      ·replace hFL8 := it_t hc34 hFL8
       refine x_skip <| x_seq <| x_block <| x_seq <|
        x_region <| p (yl_field0 fld_44_2 q1v) <| pa (at_load one_3 rfl ((hS.pull 3).cell rfl)) <| p (yl_assign rfl) <|
        x_done <| ?_
       replace hFL8 := bd_s hFL8; obtain ⟨oL11, hLL11, hFL8⟩ := hFL8
       refine x_join (fun E w => ∃ (q0u : List (T_rules_Spot × Bool)) (q0v : List (T_extract_step × Bool)) (q0w : Int) (q0x : Int) (q0y : Int), (q0u, q0v, q0w, q0x, q0y) = oL11 ∧ E 1 = .int .i64 net1 ∧ E 2 = .pointer (some ⟨b2, 0, none⟩) ∧ E 4 = .pointer (some ⟨b4, 0, none⟩) ∧ E 5 = .pointer (some ⟨b5, 0, none⟩) ∧ E 7 = .pointer (some ⟨b7, 0, none⟩) ∧ E 8 = .pointer (some ⟨b8, 0, none⟩) ∧ E 9 = .int .i64 q5 ∧ E 18 = .slice q6 l_0.Wires.length c_l_0_4 ∧ E 19 = .int .i64 (l_0.Wires.length : Int) ∧ E 20 = .int .i64 q0d ∧ St w0 w (cells b2 31 [.int .i64 l_0.W, .int .i64 l_0.H, .int .i64 l_0.Layers, .int .i64 l_0.Nets, .slice q6 l_0.Wires.length c_l_0_4, .slice q7 l_0.Vias.length c_l_0_5, .slice q0b l_0.Pins.length c_l_0_6, .slice q0c l_0.Walls.length c_l_0_7] :: cells b4 87 [.map none, .map none] :: cells b5 87 [.map (some b14), .map (some b15)] :: cells b7 44 [.int .i64 q2.Net, .int .i64 q2.Layer, .int .i64 q2.X0, .int .i64 q2.Y0, .int .i64 q2.X1, .int .i64 q2.Y1] :: cells b8 61 [.int .i64 q0w, .int .i64 q0x, .int .i64 q0y] :: mapA b14 kf_61 Value.bool q0u :: mapA b15 kf_94 Value.bool q0v :: ro ρ :: l)) ?_ ?_
       ·refine x_block ?_
        refine x_loop (fun k_ E w => ∃ (q3 : Int) (q0o : List (T_rules_Spot × Bool)) (q0h : List (T_extract_step × Bool)) (q8 : Int) (q9 : Int) (q0a : Int), lp (P_extract_of_L11 q2 q5) k_ (q3, q0o, q0h, q8, q9, q0a) = some oL11 ∧ E 1 = .int .i64 net1 ∧ E 2 = .pointer (some ⟨b2, 0, none⟩) ∧ E 4 = .pointer (some ⟨b4, 0, none⟩) ∧ E 5 = .pointer (some ⟨b5, 0, none⟩) ∧ E 7 = .pointer (some ⟨b7, 0, none⟩) ∧ E 8 = .pointer (some ⟨b8, 0, none⟩) ∧ E 9 = .int .i64 q5 ∧ E 10 = .int .i64 q3 ∧ E 18 = .slice q6 l_0.Wires.length c_l_0_4 ∧ E 19 = .int .i64 (l_0.Wires.length : Int) ∧ E 20 = .int .i64 q0d ∧ St w0 w (cells b2 31 [.int .i64 l_0.W, .int .i64 l_0.H, .int .i64 l_0.Layers, .int .i64 l_0.Nets, .slice q6 l_0.Wires.length c_l_0_4, .slice q7 l_0.Vias.length c_l_0_5, .slice q0b l_0.Pins.length c_l_0_6, .slice q0c l_0.Walls.length c_l_0_7] :: cells b4 87 [.map none, .map none] :: cells b5 87 [.map (some b14), .map (some b15)] :: cells b7 44 [.int .i64 q2.Net, .int .i64 q2.Layer, .int .i64 q2.X0, .int .i64 q2.Y0, .int .i64 q2.X1, .int .i64 q2.Y1] :: cells b8 61 [.int .i64 q8, .int .i64 q9, .int .i64 q0a] :: mapA b14 kf_61 Value.bool q0o :: mapA b15 kf_94 Value.bool q0h :: ro ρ :: l)) fuel ⟨q2.X0, q0k, q0l, q0r, q0s, q0t, hLL11, q23, q24, q25, q26, q1v, q2t, q27, rfl, q20, q21, q22, ((((((((hS.pull 7).pull 7).pull 7).pull 7).pull 7).pull 7).pull 7).pull 7)⟩ ?_
        rintro kL11 E w ⟨q3, q0o, q0h, q8, q9, q0a, hLL11, q1n, q1o, q1p, q0p, q0g, q18, q0q, q0m, q1a, q1b, q1c, hS⟩
        replace hLL11 := lp_s hLL11; obtain ⟨kL11, obL11, rfl, hFL11, hLL11⟩ := hLL11
        refine x_seq <| x_seq <| x_region <| p (yl_move q0m) <|
         p (yl_field0 fld_44_4 q0g) <| pa (at_load one_3 rfl ((hS.pull 3).cell rfl)) <| p (yl_leq rfl rfl) <| x_done <|
         x_cond_p (q3 ≤ q2.X1) rfl (fun hc42 => ?_) (fun hc42 => ?_)
        ·replace hFL11 := it_t hc42 hFL11
         refine x_skip <| x_seq <| x_block <| x_seq <|
          x_region <| p (yl_field0 fld_44_1 q0g) <| pa (at_load one_3 rfl ((hS.pull 3).cell rfl)) <| p (yl_move q0m) <|
          p (yl_move q0q) <| p (v := .agg #[.int .i64 q2.Layer, .int .i64 q3, .int .i64 q5]) (yl_build bld_61 bldf_61 (parts_eq (pt (va := .int .i64 q2.Layer) rfl (pt (va := .int .i64 q3) rfl (pt (va := .int .i64 q5) rfl pt0)))) (by kernel_rfl)) <| ?_
         refine o_alloc zero_61 hS (fun b11 w' hS => ?_)
         refine o_storeAgg (news := [.int .i64 q2.Layer, .int .i64 q3, .int .i64 q5]) agg_61 rfl rfl rfl (by simp [over_length]) hS (fun w' hS => ?_)
         refine x_done <| x_seq <| x_seq <| x_region <|
          p (yl_field0 fld_87_0 q0p) <| pa (at_load one_84 rfl ((hS.pull 3).cell rfl)) <| pa (v := .agg #[.int .i64 q2.Layer, .int .i64 q3, .int .i64 q5]) (ld_sub agg_61 rfl rfl rfl hS) <| ?_
         replace hFL11 := lv_s hFL11; obtain ⟨q2e, q2u, hFL11⟩ := hFL11
         refine o_mapset (k := (T_rules_Spot.mk q2.Layer q3 q5)) (vf := Value.bool) (v := true) um_84 kp_61 rfl rfl rfl (hS.pull 6) q2u (fun w' hS => ?_)
         replace hFL11 := lv_s hFL11; obtain ⟨x62, hx62, hFL11⟩ := hFL11
         refine x_done <| x_seq <| x_region <| p (yl_move q0m) <|
          p (yl_field0 fld_44_2 q0g) <| pa (at_load one_3 rfl ((hS.pull 5).cell rfl)) <| p (yl_gtr rfl rfl) <| p (yl_move rfl) <|
          pg (v := .int .i64 q5) 57 (c := !(decide (q2.X0 < q3))) (says_f _) (fun hq => Yl.at (yl_move q0q)) <| pg (v := .pointer (some ⟨b7, 3, none⟩)) 57 (c := !(decide (q2.X0 < q3))) (says_f _) (fun hq => Yl.at (yl_field0 fld_44_3 q0g)) <| pg (v := .int .i64 q2.Y0) 57 (c := !(decide (q2.X0 < q3))) (says_f _) (fun hq => at_load one_3 (cv hq) ((hS.pull 5).cell rfl)) <| pg (v := .bool (decide (q2.Y0 < q5))) 57 (c := !(decide (q2.X0 < q3))) (says_f _) (fun hq => Yl.at (yl_gtr (cv hq) (cv hq))) <|
          p (yor' rfl rfl (fun hc => (cv (t_not hc))) hx62) <| x_done <| ?_
         replace hFL11 := bd_s hFL11; obtain ⟨oc62, hFc62, hFL11⟩ := hFL11
         refine x_join (fun E w => ∃ (q0z : List (T_extract_step × Bool)), q0z = oc62 ∧ E 1 = .int .i64 net1 ∧ E 2 = .pointer (some ⟨b2, 0, none⟩) ∧ E 4 = .pointer (some ⟨b4, 0, none⟩) ∧ E 5 = .pointer (some ⟨b5, 0, none⟩) ∧ E 7 = .pointer (some ⟨b7, 0, none⟩) ∧ E 8 = .pointer (some ⟨b8, 0, none⟩) ∧ E 9 = .int .i64 q5 ∧ E 10 = .int .i64 q3 ∧ E 11 = .pointer (some ⟨b11, 0, none⟩) ∧ E 18 = .slice q6 l_0.Wires.length c_l_0_4 ∧ E 19 = .int .i64 (l_0.Wires.length : Int) ∧ E 20 = .int .i64 q0d ∧ St w0 w (cells b2 31 [.int .i64 l_0.W, .int .i64 l_0.H, .int .i64 l_0.Layers, .int .i64 l_0.Nets, .slice q6 l_0.Wires.length c_l_0_4, .slice q7 l_0.Vias.length c_l_0_5, .slice q0b l_0.Pins.length c_l_0_6, .slice q0c l_0.Walls.length c_l_0_7] :: cells b4 87 [.map none, .map none] :: cells b5 87 [.map (some b14), .map (some b15)] :: cells b7 44 [.int .i64 q2.Net, .int .i64 q2.Layer, .int .i64 q2.X0, .int .i64 q2.Y0, .int .i64 q2.X1, .int .i64 q2.Y1] :: cells b8 61 [.int .i64 q8, .int .i64 q9, .int .i64 q0a] :: cells b11 61 [.int .i64 q2.Layer, .int .i64 q3, .int .i64 q5] :: mapA b14 kf_61 Value.bool q2e :: mapA b15 kf_94 Value.bool q0z :: ro ρ :: l)) ?_ ?_
         ·refine x_cond (t := x62) rfl (fun hc62 => ?_) (fun hc62 => ?_)
          ·replace hFc62 := it_t hc62 hFc62
           refine x_region <| p (yl_field0 fld_87_1 q0p) <| pa (at_load one_85 rfl ((hS.pull 4).cell rfl)) <| pa (v := .agg #[.int .i64 q8, .int .i64 q9, .int .i64 q0a]) (ld_sub agg_61 q18 rfl rfl (hS.pull 6)) <|
            pa (v := .agg #[.int .i64 q2.Layer, .int .i64 q3, .int .i64 q5]) (ld_sub agg_61 rfl rfl rfl (hS.pull 1)) <| p (v := .agg #[.int .i64 q8, .int .i64 q9, .int .i64 q0a, .int .i64 q2.Layer, .int .i64 q3, .int .i64 q5]) (yl_build bld_94 bldf_94 (parts_eq (pt (va := .agg #[.int .i64 q8, .int .i64 q9, .int .i64 q0a]) rfl (pt (va := .agg #[.int .i64 q2.Layer, .int .i64 q3, .int .i64 q5]) rfl pt0))) (by kernel_rfl)) <| ?_
           replace hFc62 := lv_s hFc62; obtain ⟨q3o, q2v, hFc62⟩ := hFc62
           refine o_mapset (k := (T_extract_step.mk (T_rules_Spot.mk q8 q9 q0a) (T_rules_Spot.mk q2.Layer q3 q5))) (vf := Value.bool) (v := true) um_85 kp_94 rfl rfl rfl (hS.pull 7) q2v (fun w' hS => ?_)
           refine x_done <| ?_
           exact x_inv ⟨q3o, (sinj hFc62), q1n, q1o, q1p, q0p, q0g, q18, q0q, q0m, rfl, q1a, q1b, q1c, (((((((((hS.pull 8).pull 1).pull 2).pull 3).pull 8).pull 8).pull 8).pull 8).pull 8)⟩
          ·replace hFc62 := it_bf hc62 hFc62
           refine x_skip <| ?_
           exact x_inv ⟨q0h, (sinj hFc62), q1n, q1o, q1p, q0p, q0g, q18, q0q, q0m, rfl, q1a, q1b, q1c, (((((((((hS.pull 8).pull 8).pull 2).pull 3).pull 8).pull 8).pull 8).pull 8).pull 8)⟩
         rintro E w ⟨q0z, rfl, q2w, q2x, q2y, q2z, q30, q28, q31, q2h, q2i, q2j, q2k, q2l, hS⟩
         refine x_region <| pa (v := .agg #[.int .i64 q2.Layer, .int .i64 q3, .int .i64 q5]) (ld_sub agg_61 q2i rfl rfl (hS.pull 5)) <| ?_
         refine o_storeAgg (news := [.int .i64 q2.Layer, .int .i64 q3, .int .i64 q5]) agg_61 q28 rfl rfl (by simp [over_length]) (hS.pull 4) (fun w' hS => ?_)
         replace hFL11 := ar_s hFL11; obtain ⟨x44, hx44, hFL11⟩ := hFL11
         refine x_done <| x_blk <| x_region <| p (yl_move q2h) <|
          p (yadd rfl rfl hx44) <| p (yl_assign rfl) <| x_done <| ?_
         have e_ := sinj hFL11; subst e_
         exact x_inv ⟨kL11, Nat.lt_succ_self _, x44, q2e, q0z, q2.Layer, q3, q5, hLL11, q2w, q2x, q2y, q2z, q30, q28, q31, rfl, q2j, q2k, q2l, (((((((((hS.pull 5).drop.pull 7).pull 7).pull 7).pull 3).pull 7).pull 7).pull 7).pull 7)⟩
        ·replace hFL11 := it_f hc42 hFL11
         refine x_exitTo _ rfl <| ?_
         have e_ := sinj hFL11; subst e_
         exact x_inv ⟨q0o, q0h, q8, q9, q0a, hLL11, q1n, q1o, q1p, q0p, q0g, q18, q0q, q1a, q1b, q1c, ((((((((hS.pull 7).pull 7).pull 7).pull 7).pull 7).pull 7).pull 7).pull 7)⟩
       rintro E w ⟨q0u, q0v, q0w, q0x, q0y, rfl, q32, q33, q34, q35, q36, q37, q38, q2m, q2n, q2o, hS⟩
       replace hFL8 := ar_s hFL8; obtain ⟨x36, hx36, hFL8⟩ := hFL8
       refine x_blk <| x_region <| p (yl_move q38) <| p (yadd rfl rfl hx36) <|
        p (yl_assign rfl) <| x_done <| ?_
       have e_ := sinj hFL8; subst e_
       exact x_inv ⟨kL8, Nat.lt_succ_self _, x36, q0u, q0v, q0w, q0x, q0y, hLL8, q32, q33, q34, q35, q36, q37, rfl, q2m, q2n, q2o, ((((((((hS.pull 7).pull 7).pull 7).pull 7).pull 7).pull 7).pull 7).pull 7)⟩
      ·replace hFL8 := it_f hc34 hFL8
       refine x_exitTo _ rfl <| ?_
       have e_ := sinj hFL8; subst e_
       exact x_inv ⟨q0k, q0l, hLL8, q23, q24, q25, q26, q20, q21, q22, ((((((((hS.pull 3).drop.pull 3).drop.pull 5).pull 5).pull 5).pull 5).pull 5).pull 5)⟩
     rintro E w ⟨q16, q17, rfl, q3p, q3q, q3r, q3s, q39, q3a, q3b, hS⟩
     refine x_blk <| ?_
     exact x_inv ⟨q16, q17, (sinj hFb1), q3p, q3q, q3r, q3s, q39, q3a, q3b, ((((((hS.pull 5).pull 5).pull 5).pull 5).pull 5).pull 5)⟩
   rintro E w ⟨q14, q15, rfl, q3t, q3u, q3v, q3w, q3c, q3d, q3e, hS⟩
   replace hFL3 := ar_s hFL3; obtain ⟨x69, hx69, hFL3⟩ := hFL3
   refine x_region <| p (yadd q3e rfl hx69) <| p (yl_move rfl) <| x_done <| ?_
   have e_ := sinj hFL3; subst e_
   exact x_inv ⟨kL3, Nat.lt_succ_self _, x69, q14, q15, hLL3, q3t, q3u, q3v, q3w, q3c, q3d, rfl, ((((((hS.pull 5).pull 5).pull 5).pull 5).pull 5).pull 5)⟩
  ·replace hFL3 := it_f hc21 hFL3
   refine x_exitTo _ rfl <| ?_
   have e_ := sinj hFL3; subst e_
   exact x_inv ⟨q0e, q0f, hLL3, q1i, q1s, q1t, q1u, ((((((hS.pull 5).pull 5).pull 5).pull 5).pull 5).pull 5)⟩
 rintro E w ⟨q0j, q12, rfl, q3x, q3y, q3z, q40, hS⟩
 refine x_seq <| x_seq <| x_region <| p (yl_field0 fld_31_5 q3y) <|
  pa (at_load one_27 rfl (hS.cell rfl)) <| p (yl_len_slice usl_27 rfl) <| p (yl_move rfl) <| x_done <| ?_
 replace hF := bd_s hF; obtain ⟨oL20, hLL20, hF⟩ := hF
 refine x_join (fun E w => ∃ (q1d : List (T_extract_step × Bool)), q1d = oL20 ∧ E 4 = .pointer (some ⟨b4, 0, none⟩) ∧ E 5 = .pointer (some ⟨b5, 0, none⟩) ∧ St w0 w (cells b4 87 [.map none, .map none] :: cells b5 87 [.map (some b14), .map (some b15)] :: mapA b14 kf_61 Value.bool q0j :: mapA b15 kf_94 Value.bool q1d :: ro ρ :: l)) ?_ ?_
 ·refine x_block ?_
  refine x_loop (fun k_ E w => ∃ (q0n : Int) (q0i : List (T_extract_step × Bool)), lp (P_extract_of_L20 l_0 net1) k_ (q0n, q0i) = some oL20 ∧ E 1 = .int .i64 net1 ∧ E 4 = .pointer (some ⟨b4, 0, none⟩) ∧ E 5 = .pointer (some ⟨b5, 0, none⟩) ∧ E 71 = .slice q7 l_0.Vias.length c_l_0_5 ∧ E 72 = .int .i64 (l_0.Vias.length : Int) ∧ E 73 = .int .i64 q0n ∧ St w0 w (cells b4 87 [.map none, .map none] :: cells b5 87 [.map (some b14), .map (some b15)] :: mapA b14 kf_61 Value.bool q0j :: mapA b15 kf_94 Value.bool q0i :: ro ρ :: l)) fuel ⟨0, q12, hLL20, q3x, q3z, q40, rfl, rfl, rfl, (((((hS.drop.pull 4).pull 4).pull 4).pull 4).pull 4)⟩ ?_
  rintro kL20 E w ⟨q0n, q0i, hLL20, q1q, q1r, q19, q1e, q1f, q10, hS⟩
  replace hLL20 := lp_s hLL20; obtain ⟨kL20, obL20, rfl, hFL20, hLL20⟩ := hLL20
  refine x_seq <| x_region <| p (yl_lss q10 q1f) <| x_done <|
   x_seq <|
   x_cond_p (q0n < (l_0.Vias.length : Int)) rfl (fun hc74 => ?_) (fun hc74 => ?_)
  ·replace hFL20 := it_t hc74 hFL20
   replace hFL20 := ck_s hFL20; obtain ⟨q29, hFL20⟩ := hFL20
   replace hFL20 := lv_s hFL20; obtain ⟨q4, q3f, hFL20⟩ := hFL20
   have q_ := q1k.get q29; obtain ⟨q41, q2a, q3g⟩ := q_
   rw [← q3f] at q2a
   have e_ := q2a; subst e_
   refine x_skip <| x_seq <| x_block <| x_seq <|
    x_region <| p (yix_f sl_27 q1e q10 q1k q29) <| pa (v := .agg #[.int .i64 q4.Net, .int .i64 q4.Layer, .int .i64 q4.X, .int .i64 q4.Y]) (at_loadAgg agg_47 rfl rfl (Elt.every q3g (hS.pull 4))) <| ?_
   refine o_alloc zero_47 hS (fun b13 w' hS => ?_)
   refine o_storeAgg (news := [.int .i64 q4.Net, .int .i64 q4.Layer, .int .i64 q4.X, .int .i64 q4.Y]) agg_47 rfl rfl rfl (by simp [over_length]) hS (fun w' hS => ?_)
   refine x_done <| x_seq <| x_region <| p (yl_field0 fld_47_0 rfl) <|
    pa (at_load one_3 rfl (hS.cell rfl)) <| p (yl_move q1q) <| p (yl_eql rfl rfl) <| x_done <| ?_
   replace hFL20 := bd_s hFL20; obtain ⟨oc80, hFc80, hFL20⟩ := hFL20
   refine x_join (fun E w => ∃ (q11 : List (T_extract_step × Bool)), q11 = oc80 ∧ E 1 = .int .i64 net1 ∧ E 4 = .pointer (some ⟨b4, 0, none⟩) ∧ E 5 = .pointer (some ⟨b5, 0, none⟩) ∧ E 71 = .slice q7 l_0.Vias.length c_l_0_5 ∧ E 72 = .int .i64 (l_0.Vias.length : Int) ∧ E 73 = .int .i64 q0n ∧ St w0 w (cells b4 87 [.map none, .map none] :: cells b5 87 [.map (some b14), .map (some b15)] :: mapA b14 kf_61 Value.bool q0j :: mapA b15 kf_94 Value.bool q11 :: ro ρ :: l)) ?_ ?_
   ·refine x_cond_p (q4.Net = net1) rfl (fun hc80 => ?_) (fun hc80 => ?_)
    ·replace hFc80 := it_t hc80 hFc80
     replace hFc80 := ar_s hFc80; obtain ⟨x92, hx92, hFc80⟩ := hFc80
     refine x_region <| p (yl_field0 fld_87_1 q19) <| pa (at_load one_85 rfl ((hS.pull 2).cell rfl)) <| p (yl_field0 fld_47_1 rfl) <|
      pa (at_load one_3 rfl (hS.cell rfl)) <| p (yl_field0 fld_47_2 rfl) <| pa (at_load one_3 rfl (hS.cell rfl)) <| p (yl_field0 fld_47_3 rfl) <|
      pa (at_load one_3 rfl (hS.cell rfl)) <| p (v := .agg #[.int .i64 q4.Layer, .int .i64 q4.X, .int .i64 q4.Y]) (yl_build bld_61 bldf_61 (parts_eq (pt (va := .int .i64 q4.Layer) rfl (pt (va := .int .i64 q4.X) rfl (pt (va := .int .i64 q4.Y) rfl pt0)))) (by kernel_rfl)) <| p (yl_field0 fld_47_1 rfl) <| pa (at_load one_3 rfl (hS.cell rfl)) <|
      p (yadd rfl rfl hx92) <| p (yl_field0 fld_47_2 rfl) <| pa (at_load one_3 rfl (hS.cell rfl)) <| p (yl_field0 fld_47_3 rfl) <|
      pa (at_load one_3 rfl (hS.cell rfl)) <| p (v := .agg #[.int .i64 x92, .int .i64 q4.X, .int .i64 q4.Y]) (yl_build bld_61 bldf_61 (parts_eq (pt (va := .int .i64 x92) rfl (pt (va := .int .i64 q4.X) rfl (pt (va := .int .i64 q4.Y) rfl pt0)))) (by kernel_rfl)) <| p (v := .agg #[.int .i64 q4.Layer, .int .i64 q4.X, .int .i64 q4.Y, .int .i64 x92, .int .i64 q4.X, .int .i64 q4.Y]) (yl_build bld_94 bldf_94 (parts_eq (pt (va := .agg #[.int .i64 q4.Layer, .int .i64 q4.X, .int .i64 q4.Y]) rfl (pt (va := .agg #[.int .i64 x92, .int .i64 q4.X, .int .i64 q4.Y]) rfl pt0))) (by kernel_rfl)) <| ?_
     replace hFc80 := lv_s hFc80; obtain ⟨q3h, q2p, hFc80⟩ := hFc80
     refine o_mapset (k := (T_extract_step.mk (T_rules_Spot.mk q4.Layer q4.X q4.Y) (T_rules_Spot.mk x92 q4.X q4.Y))) (vf := Value.bool) (v := true) um_85 kp_94 rfl rfl rfl (hS.pull 4) q2p (fun w' hS => ?_)
     refine x_done <| ?_
     exact x_inv ⟨q3h, (sinj hFc80), q1q, q1r, q19, q1e, q1f, q10, ((((((hS.pull 1).drop.pull 4).pull 1).pull 4).pull 4).pull 4)⟩
    ·replace hFc80 := it_f hc80 hFc80
     refine x_skip <| ?_
     exact x_inv ⟨q0i, (sinj hFc80), q1q, q1r, q19, q1e, q1f, q10, (((((hS.drop.pull 4).pull 4).pull 4).pull 4).pull 4)⟩
   rintro E w ⟨q11, rfl, q3i, q3j, q3k, q2q, q2r, q2s, hS⟩
   replace hFL20 := ar_s hFL20; obtain ⟨x99, hx99, hFL20⟩ := hFL20
   refine x_blk <| x_region <| p (yadd q2s rfl hx99) <| p (yl_move rfl) <|
    x_done <| ?_
   have e_ := sinj hFL20; subst e_
   exact x_inv ⟨kL20, Nat.lt_succ_self _, x99, q11, hLL20, q3i, q3j, q3k, q2q, q2r, rfl, (((((hS.pull 4).pull 4).pull 4).pull 4).pull 4)⟩
  ·replace hFL20 := it_f hc74 hFL20
   refine x_exitTo _ rfl <| ?_
   have e_ := sinj hFL20; subst e_
   exact x_inv ⟨q0i, hLL20, q1r, q19, (((((hS.pull 4).pull 4).pull 4).pull 4).pull 4)⟩
 rintro E w ⟨q1d, rfl, q2b, q3l, hS⟩
 refine x_seq <| x_region <| pa (v := .agg #[.map (some b14), .map (some b15)]) (ld_sub agg_87 q3l rfl rfl (hS.pull 1)) <| ?_
 refine o_storeAgg (news := [.map (some b14), .map (some b15)]) agg_87 q2b rfl rfl (by simp [over_length]) hS (fun w' hS => ?_)
 refine x_done <| ?_
 have e_ := sinj hF; subst e_
 exact x_return ⟨_, ⟨_, _, _, rfl, q2b, ldvA agg_87 rfl (fun j v hj => by rw [add0]; exact St.cell hS hj), rfl⟩, b14, b15, rfl, (((hS.drop.drop.pull 2).pull 2).pull 2)⟩
attribute [irreducible] P_extract_of


end Go.Proofs.Ytnnmbmgnpdcefaa.X
