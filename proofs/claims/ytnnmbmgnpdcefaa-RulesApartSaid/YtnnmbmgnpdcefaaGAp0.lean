/- Printed by gen.py: plain functions, and that the Go code computes them. -/
import Derived.Test.YtnnmbmgnpdcefaaYJ
import Derived.Test.YtnnmbmgnpdcefaaXI
import Derived.Test.YtnnmbmgnpdcefaaXP
import Derived.Test.YtnnmbmgnpdcefaaYX
import Derived.Test.YtnnmbmgnpdcefaaYU
import Derived.Test.YtnnmbmgnpdcefaaXT
namespace Go.Proofs.Ytnnmbmgnpdcefaa.X
set_option maxHeartbeats 4000000
set_option maxRecDepth 100000
open Go Go.RowKit
set_option linter.unusedVariables false
set_option linter.unusedSimpArgs false

structure T_maskmake_Stream where
 L : List Int
 fat : Int
 deriving DecidableEq, Inhabited
structure T_rules_Wire where
 Net : Int
 Layer : Int
 X0 : Int
 Y0 : Int
 X1 : Int
 Y1 : Int
 deriving DecidableEq, Inhabited
def R_rules_Wire : Rp T_rules_Wire where
 sz := 6
 ok _ cs x := cs = [.int .i64 x.Net, .int .i64 x.Layer, .int .i64 x.X0, .int .i64 x.Y0, .int .i64 x.X1, .int .i64 x.Y1]
 pos := by decide
 len := by rintro ρ cs x rfl; rfl
 le := by rintro ρ ρ' cs x rfl hle; rfl
 one := by rintro ρ cs x rfl v hv; exact allOne_spec rfl v hv
structure T_rules_Via where
 Net : Int
 Layer : Int
 X : Int
 Y : Int
 deriving DecidableEq, Inhabited
def R_rules_Via : Rp T_rules_Via where
 sz := 4
 ok _ cs x := cs = [.int .i64 x.Net, .int .i64 x.Layer, .int .i64 x.X, .int .i64 x.Y]
 pos := by decide
 len := by rintro ρ cs x rfl; rfl
 le := by rintro ρ ρ' cs x rfl hle; rfl
 one := by rintro ρ cs x rfl v hv; exact allOne_spec rfl v hv
structure T_rules_Pin where
 Net : Int
 X : Int
 Y : Int
 Drive : Bool
 Size : Int
 deriving DecidableEq, Inhabited
def R_rules_Pin : Rp T_rules_Pin where
 sz := 5
 ok _ cs x := cs = [.int .i64 x.Net, .int .i64 x.X, .int .i64 x.Y, .bool x.Drive, .int .i64 x.Size]
 pos := by decide
 len := by rintro ρ cs x rfl; rfl
 le := by rintro ρ ρ' cs x rfl hle; rfl
 one := by rintro ρ cs x rfl v hv; exact allOne_spec rfl v hv
structure T_floor_Wall where
 Layer : Int
 X0 : Int
 Y0 : Int
 X1 : Int
 Y1 : Int
 deriving DecidableEq, Inhabited
def R_floor_Wall : Rp T_floor_Wall where
 sz := 5
 ok _ cs x := cs = [.int .i64 x.Layer, .int .i64 x.X0, .int .i64 x.Y0, .int .i64 x.X1, .int .i64 x.Y1]
 pos := by decide
 len := by rintro ρ cs x rfl; rfl
 le := by rintro ρ ρ' cs x rfl hle; rfl
 one := by rintro ρ cs x rfl v hv; exact allOne_spec rfl v hv
structure T_rules_Layout where
 W : Int
 H : Int
 Layers : Int
 Nets : Int
 Wires : List T_rules_Wire
 Vias : List T_rules_Via
 Pins : List T_rules_Pin
 Walls : List T_floor_Wall
 deriving DecidableEq, Inhabited
structure T_rules_Spot where
 Layer : Int
 X : Int
 Y : Int
 deriving DecidableEq, Inhabited
def R_rules_Spot : Rp T_rules_Spot where
 sz := 3
 ok _ cs x := cs = [.int .i64 x.Layer, .int .i64 x.X, .int .i64 x.Y]
 pos := by decide
 len := by rintro ρ cs x rfl; rfl
 le := by rintro ρ ρ' cs x rfl hle; rfl
 one := by rintro ρ cs x rfl v hv; exact allOne_spec rfl v hv
theorem R_rules_Spot_d : ∃ cs, ∀ ρ, R_rules_Spot.ok ρ cs default := ⟨[.int .i64 0, .int .i64 0, .int .i64 0], fun ρ => rfl⟩

structure T_rules_shape where
 fnet : Int
 fspots : List T_rules_Spot
 fwire : Bool
 fpin : Int
 deriving DecidableEq, Inhabited
def R_rules_shape : Rp T_rules_shape where
 sz := 4
 ok ρ cs x := ∃ A1 n1 c1, cs = [.int .i64 x.fnet, .slice A1 n1 c1, .bool x.fwire, .int .i64 x.fpin] ∧ RdS R_rules_Spot ρ A1 n1 c1 x.fspots
 pos := by decide
 len := by rintro ρ cs x ⟨A1, n1, c1, rfl, _⟩; rfl
 le := by rintro ρ ρ' cs x ⟨A1, n1, c1, rfl, h0⟩ hle; exact ⟨_, _, _, rfl, h0.le hle⟩
 one := by rintro ρ cs x ⟨A1, n1, c1, rfl, _⟩ v hv; exact allOne_spec rfl v hv
structure T_rules_Fault where
 Kind : Int
 Net : Int
 Other : Int
 At : T_rules_Spot
 deriving DecidableEq, Inhabited
def R_rules_Fault : Rp T_rules_Fault where
 sz := 6
 ok _ cs x := cs = [.int .i64 x.Kind, .int .i64 x.Net, .int .i64 x.Other, .int .i64 x.At.Layer, .int .i64 x.At.X, .int .i64 x.At.Y]
 pos := by decide
 len := by rintro ρ cs x rfl; rfl
 le := by rintro ρ ρ' cs x rfl hle; rfl
 one := by rintro ρ cs x rfl v hv; exact allOne_spec rfl v hv
def kf_63 (x : T_rules_Fault) : Value := .agg #[.int .i64 x.Kind, .int .i64 x.Net, .int .i64 x.Other, .int .i64 x.At.Layer, .int .i64 x.At.X, .int .i64 x.At.Y]
theorem kp_63 : KeyP Try.prog 63 kf_63 := KeyP.ints (fun x => [x.Kind, x.Net, x.Other, x.At.Layer, x.At.X, x.At.Y]) (by kernel_rfl : intsB Try.prog 9 63 = some (true, 6)) ⟨Try.prog.fieldsOf 63, by kernel_rfl⟩ (fun _ => rfl) (fun _ => rfl) (fun a b h => by
 obtain ⟨a1, a2, a3, ⟨a4, a5, a6⟩⟩ := a
 obtain ⟨b1, b2, b3, ⟨b4, b5, b6⟩⟩ := b
 simp only [List.cons.injEq, and_true] at h
 obtain ⟨rfl, rfl, rfl, rfl, rfl, rfl⟩ := h
 rfl)

def kf_61 (x : T_rules_Spot) : Value := .agg #[.int .i64 x.Layer, .int .i64 x.X, .int .i64 x.Y]
theorem kp_61 : KeyP Try.prog 61 kf_61 := KeyP.ints (fun x => [x.Layer, x.X, x.Y]) (by kernel_rfl : intsB Try.prog 9 61 = some (true, 3)) ⟨Try.prog.fieldsOf 61, by kernel_rfl⟩ (fun _ => rfl) (fun _ => rfl) (fun a b h => by
 obtain ⟨a1, a2, a3⟩ := a
 obtain ⟨b1, b2, b3⟩ := b
 simp only [List.cons.injEq, and_true] at h
 obtain ⟨rfl, rfl, rfl⟩ := h
 rfl)

structure T_rules_key where
 fnet : Int
 fat : T_rules_Spot
 deriving DecidableEq, Inhabited
def kf_146 (x : T_rules_key) : Value := .agg #[.int .i64 x.fnet, .int .i64 x.fat.Layer, .int .i64 x.fat.X, .int .i64 x.fat.Y]
theorem kp_146 : KeyP Try.prog 146 kf_146 := KeyP.ints (fun x => [x.fnet, x.fat.Layer, x.fat.X, x.fat.Y]) (by kernel_rfl : intsB Try.prog 9 146 = some (true, 4)) ⟨Try.prog.fieldsOf 146, by kernel_rfl⟩ (fun _ => rfl) (fun _ => rfl) (fun a b h => by
 obtain ⟨a1, ⟨a2, a3, a4⟩⟩ := a
 obtain ⟨b1, ⟨b2, b3, b4⟩⟩ := b
 simp only [List.cons.injEq, and_true] at h
 obtain ⟨rfl, rfl, rfl, rfl⟩ := h
 rfl)

theorem eqi_63 : EqI Try.prog 63 (fun x : T_rules_Fault => [x.Kind, x.Net, x.Other, x.At.Layer, x.At.X, x.At.Y]) 6 := ⟨by kernel_rfl, by kernel_rfl, fun _ => rfl, fun a b h => by
 obtain ⟨a1, a2, a3, ⟨a4, a5, a6⟩⟩ := a
 obtain ⟨b1, b2, b3, ⟨b4, b5, b6⟩⟩ := b
 simp only [List.cons.injEq, and_true] at h
 obtain ⟨rfl, rfl, rfl, rfl, rfl, rfl⟩ := h
 rfl⟩

def P_maskmake_Below (x0 : Int) (n1 : Int) : Option Int :=
 if n1 < 1 then
  some (0 : Int)
 else
  ck (n1 ≠ 0) <|
  lv (Int.tmod x0 n1) fun x9 =>
  bd (
   if x9 < 0 then
    ar (x9 + n1) fun x14 =>
    some x14
   else
    some x9) fun q2 =>
  some q2
theorem c_maskmake_Below {w0 w : World} {l : List Assn} {ρ : Heap} {x0 : Int} {n1 : Int} {r : Int} (hF : P_maskmake_Below x0 n1 = some r) (hS : St w0 w (ro ρ :: l)) :
  Calls Try.prog 26 #[.int .i64 x0, .int .i64 n1] w fun e w' => e = .returned (.int .i64 r) ∧ St w0 w' (ro ρ :: l) := by
 refine enterC Try.func26 rfl 16 rfl (by simp) ?_
 refine x_seq <| x_region <| p (yl_assign rfl) <| x_done <|
  x_seq <| x_seq <| x_region <| p (yl_move rfl) <|
  p (yl_lss rfl rfl) <| x_done <|
  x_cond_p (n1 < 1) rfl (fun hc6 => ?_) (fun hc6 => ?_)
 ·replace hF := it_t hc6 hF
  refine x_seq <| x_region <| p (yl_assign rfl) <| x_done <| ?_
  have e_ := sinj hF; subst e_
  exact x_return ⟨_, ⟨_, _, rfl, rfl, rfl⟩, rfl, hS⟩
 ·replace hF := it_f hc6 hF
  replace hF := ck_s hF; obtain ⟨q4, hF⟩ := hF
  replace hF := lv_s hF; obtain ⟨x9, hx9, hF⟩ := hF
  refine x_skip <| x_seq <| x_region <| p (yl_move rfl) <|
   p (yl_move rfl) <| p (yrem rfl rfl q4 hx9) <| p (yl_assign rfl) <| x_done <|
   x_seq <| x_seq <| x_region <| p (yl_move rfl) <|
   p (yl_lss rfl rfl) <| x_done <| ?_
  replace hF := bd_s hF; obtain ⟨oc11, hFc11, hF⟩ := hF
  refine x_join (fun E w => ∃ (q2 : Int), q2 = oc11 ∧ E 0 = .int .i64 q2 ∧ St w0 w (ro ρ :: l)) ?_ ?_
  ·refine x_cond_p (x9 < 0) rfl (fun hc11 => ?_) (fun hc11 => ?_)
   ·replace hFc11 := it_t hc11 hFc11
    replace hFc11 := ar_s hFc11; obtain ⟨x14, hx14, hFc11⟩ := hFc11
    refine x_region <| p (yl_move rfl) <| p (yl_move rfl) <| p (yadd rfl rfl hx14) <|
     p (yl_assign rfl) <| x_done <| ?_
    exact x_inv ⟨x14, (sinj hFc11), rfl, hS⟩
   ·replace hFc11 := it_f hc11 hFc11
    refine x_skip <| ?_
    exact x_inv ⟨x9, (sinj hFc11), rfl, hS⟩
  rintro E w ⟨q2, rfl, q3, hS⟩
  refine x_seq <| x_region <| p (yl_move q3) <| p (yl_assign rfl) <|
   x_done <| ?_
  have e_ := sinj hF; subst e_
  exact x_return ⟨_, ⟨_, _, rfl, rfl, rfl⟩, rfl, hS⟩
attribute [irreducible] P_maskmake_Below

def P_maskmake_Stream_Next (s0 : T_maskmake_Stream) (n1 : Int) : Option (Int × Int) :=
 ar (s0.fat + 1) fun x11 =>
 if (s0.L.length : Int) = 0 then
  ar (x11 * 7919) fun x24 =>
  bd (P_maskmake_Below x24 n1) fun q3 =>
  some (q3, x11)
 else
  ar (x11 - 1) fun x31 =>
  ck ((s0.L.length : Int) ≠ 0) <|
  lv (Int.tmod x31 (s0.L.length : Int)) fun x37 =>
  ar (x11 - 1) fun x42 =>
  ck ((s0.L.length : Int) ≠ 0) <|
  ar (Int.tdiv x42 (s0.L.length : Int)) fun x48 =>
  ck (inb x37 s0.L.length) <|
  lv (gt s0.L x37) fun x55 =>
  bd (P_maskmake_Below x55 1073741824) fun q4 =>
  ar ((7919 : Int) + x37) fun x59 =>
  ar (x48 * x59) fun x60 =>
  ar (q4 + x60) fun x61 =>
  bd (P_maskmake_Below x61 n1) fun q2 =>
  some (q2, x11)
theorem c_maskmake_Stream_Next {w0 w : World} {l : List Assn} {ρ : Heap} {q5 : Nat} {q2 : Option Addr} {q3 : Nat} {c_s0_0 : Nat} {s0 : T_maskmake_Stream} {n1 : Int} {r : (Int × Int)} (hF : P_maskmake_Stream_Next s0 n1 = some r) (q4 : RdS (RpI .i64) ρ q2 q3 c_s0_0 s0.L) (hS : St w0 w (cells q5 25 [.slice q2 q3 c_s0_0, .int .i64 s0.fat] :: ro ρ :: l)) :
  Calls Try.prog 9 #[.pointer (some ⟨q5, 0, none⟩), .int .i64 n1] w fun e w' => e = .returned (.int .i64 r.1) ∧ St w0 w' (cells q5 25 [.slice q2 q3 c_s0_0, .int .i64 r.2] :: ro ρ :: l) := by
 have e_ := q4.n; subst e_
 refine enterC Try.func9 rfl 64 rfl (by simp) ?_
 replace hF := ar_s hF; obtain ⟨x11, hx11, hF⟩ := hF
 refine x_seq <| x_region <| p (yl_assign rfl) <| x_done <|
  x_seq <| x_region <| p (yl_move rfl) <| p (yl_nilCheck rfl) <|
  p (yl_field0 fld_25_1 rfl) <| pa (at_load one_3 rfl (hS.cell rfl)) <| p (yadd rfl rfl hx11) <| p (yl_nilCheck rfl) <|
  p (yl_field0 fld_25_1 rfl) <| ?_
 refine o_store1 (v := .int .i64 x11) one_3 rfl rfl rfl rfl hS (fun w' hS => ?_)
 refine x_done <| x_seq <| x_seq <| x_region <|
  p (yl_move rfl) <| p (yl_nilCheck rfl) <| p (yl_field0 fld_25_0 rfl) <| pa (at_load one_22 rfl (hS.cell rfl)) <|
  p (yl_len_slice usl_22 rfl) <| p (yl_eql rfl rfl) <| x_done <|
  x_cond_p ((s0.L.length : Int) = 0) rfl (fun hc19 => ?_) (fun hc19 => ?_)
 ·replace hF := it_t hc19 hF
  replace hF := ar_s hF; obtain ⟨x24, hx24, hF⟩ := hF
  replace hF := bd_s hF; obtain ⟨q0d, q0a, hF⟩ := hF
  refine x_seq <| x_region <| p (yl_move rfl) <| p (yl_nilCheck rfl) <|
   p (yl_field0 fld_25_1 rfl) <| pa (at_load one_3 rfl (hS.cell rfl)) <| p (ymul rfl rfl hx24) <| p (yl_move rfl) <| ?_
  have hcall := c_maskmake_Below q0a  (hS.pull 1)
  refine o_cc call_26 (args2 rfl rfl) ((Calls.mono hcall (fun e w'' h => And.intro h.1 (h.2.pull 1)))) ?_
  rintro e w' ⟨rfl, hS⟩
  refine ⟨_, rfl, ?_⟩
  refine p (v := .int .i64 q0d) (yl_assign rfl) <| x_done <| ?_
  have e_ := sinj hF; subst e_
  exact x_return ⟨_, ⟨_, _, rfl, rfl, rfl⟩, rfl, ((hS.pull 1).pull 1)⟩
 ·replace hF := it_f hc19 hF
  replace hF := ar_s hF; obtain ⟨x31, hx31, hF⟩ := hF
  replace hF := ck_s hF; obtain ⟨q7, hF⟩ := hF
  replace hF := lv_s hF; obtain ⟨x37, hx37, hF⟩ := hF
  refine x_skip <| x_seq <| x_still mixed (by kernel_rfl) hS <| q (yl_move rfl) <|
   q (yl_nilCheck rfl) <| q (yl_field0 fld_25_1 rfl) <| qa (fun w' hS => at_load one_3 rfl (hS.cell rfl)) <| q (ysub rfl rfl hx31) <|
   q (yl_move rfl) <| q (yl_nilCheck rfl) <| q (yl_field0 fld_25_0 rfl) <| qa (fun w' hS => at_load one_22 rfl (hS.cell rfl)) <|
   q (yl_len_slice usl_22 rfl) <| q (yrem rfl rfl q7 hx37) <| q (yl_assign rfl) <|
   q_done fun w' hS => ?_
  replace hF := ar_s hF; obtain ⟨x42, hx42, hF⟩ := hF
  replace hF := ck_s hF; obtain ⟨q8, hF⟩ := hF
  replace hF := ar_s hF; obtain ⟨x48, hx48, hF⟩ := hF
  refine x_seq <| x_still mixed (by kernel_rfl) hS <| q (yl_move rfl) <| q (yl_nilCheck rfl) <|
   q (yl_field0 fld_25_1 rfl) <| qa (fun w' hS => at_load one_3 rfl (hS.cell rfl)) <| q (ysub rfl rfl hx42) <| q (yl_move rfl) <|
   q (yl_nilCheck rfl) <| q (yl_field0 fld_25_0 rfl) <| qa (fun w' hS => at_load one_22 rfl (hS.cell rfl)) <| q (yl_len_slice usl_22 rfl) <|
   q (yquo rfl rfl q8 hx48) <| q (yl_assign rfl) <|
   q_done fun w' hS => ?_
  replace hF := ck_s hF; obtain ⟨q6, hF⟩ := hF
  replace hF := lv_s hF; obtain ⟨x55, hx55, hF⟩ := hF
  replace hF := bd_s hF; obtain ⟨q0e, q0b, hF⟩ := hF
  refine x_seq <| x_region <| p (yl_move rfl) <| p (yl_nilCheck rfl) <|
   p (yl_field0 fld_25_0 rfl) <| pa (at_load one_22 rfl (hS.cell rfl)) <| p (yl_move rfl) <| p (yix_f sl_22 rfl rfl q4 q6) <|
   pa (at_load one_3 rfl (RdS.getW q4 (hS.pull 1) q6 hx55)) <| ?_
  have hcall := c_maskmake_Below q0b  (hS.pull 1)
  refine o_cc call_26 (args2 rfl rfl) ((Calls.mono hcall (fun e w'' h => And.intro h.1 (h.2.pull 1)))) ?_
  rintro e w' ⟨rfl, hS⟩
  refine ⟨_, rfl, ?_⟩
  replace hF := ar_s hF; obtain ⟨x59, hx59, hF⟩ := hF
  replace hF := ar_s hF; obtain ⟨x60, hx60, hF⟩ := hF
  replace hF := ar_s hF; obtain ⟨x61, hx61, hF⟩ := hF
  replace hF := bd_s hF; obtain ⟨q0c, q9, hF⟩ := hF
  refine p (yl_move rfl) <| p (yl_move rfl) <| p (yadd rfl rfl hx59) <| p (ymul rfl rfl hx60) <|
   p (yadd rfl rfl hx61) <| p (yl_move rfl) <| ?_
  have hcall := c_maskmake_Below q9  (hS.pull 1)
  refine o_cc call_26 (args2 rfl rfl) ((Calls.mono hcall (fun e w'' h => And.intro h.1 (h.2.pull 1)))) ?_
  rintro e w' ⟨rfl, hS⟩
  refine ⟨_, rfl, ?_⟩
  refine p (v := .int .i64 q0c) (yl_assign rfl) <| x_done <| ?_
  have e_ := sinj hF; subst e_
  exact x_return ⟨_, ⟨_, _, rfl, rfl, rfl⟩, rfl, ((hS.pull 1).pull 1)⟩
attribute [irreducible] P_maskmake_Stream_Next

def P_maskmake_Stream_Range (s0 : T_maskmake_Stream) (low1 : Int) (high2 : Int) : Option (Int × Int) :=
 if high2 < low1 then
  some (low1, s0.fat)
 else
  ar (high2 - low1) fun x15 =>
  ar (x15 + 1) fun x16 =>
  bd (P_maskmake_Stream_Next s0 x16) fun q2 =>
  ar (low1 + q2.1) fun x18 =>
  some (x18, q2.2)
theorem c_maskmake_Stream_Range {w0 w : World} {l : List Assn} {ρ : Heap} {q5 : Nat} {q2 : Option Addr} {q3 : Nat} {c_s0_0 : Nat} {s0 : T_maskmake_Stream} {low1 : Int} {high2 : Int} {r : (Int × Int)} (hF : P_maskmake_Stream_Range s0 low1 high2 = some r) (q4 : RdS (RpI .i64) ρ q2 q3 c_s0_0 s0.L) (hS : St w0 w (cells q5 25 [.slice q2 q3 c_s0_0, .int .i64 s0.fat] :: ro ρ :: l)) :
  Calls Try.prog 17 #[.pointer (some ⟨q5, 0, none⟩), .int .i64 low1, .int .i64 high2] w fun e w' => e = .returned (.int .i64 r.1) ∧ St w0 w' (cells q5 25 [.slice q2 q3 c_s0_0, .int .i64 r.2] :: ro ρ :: l) := by
 have e_ := q4.n; subst e_
 refine enterC Try.func17 rfl 19 rfl (by simp) ?_
 refine x_seq <| x_region <| p (yl_assign rfl) <| x_done <|
  x_seq <| x_seq <| x_region <| p (yl_move rfl) <|
  p (yl_move rfl) <| p (yl_lss rfl rfl) <| x_done <|
  x_cond_p (high2 < low1) rfl (fun hc9 => ?_) (fun hc9 => ?_)
 ·replace hF := it_t hc9 hF
  refine x_seq <| x_region <| p (yl_move rfl) <| p (yl_assign rfl) <|
   x_done <| ?_
  have e_ := sinj hF; subst e_
  exact x_return ⟨_, ⟨_, _, rfl, rfl, rfl⟩, rfl, ((hS.pull 1).pull 1)⟩
 ·replace hF := it_f hc9 hF
  replace hF := ar_s hF; obtain ⟨x15, hx15, hF⟩ := hF
  replace hF := ar_s hF; obtain ⟨x16, hx16, hF⟩ := hF
  replace hF := bd_s hF; obtain ⟨q7, q6, hF⟩ := hF
  refine x_skip <| x_seq <| x_region <| p (yl_move rfl) <|
   p (yl_move rfl) <| p (yl_move rfl) <| p (yl_move rfl) <| p (ysub rfl rfl hx15) <|
   p (yadd rfl rfl hx16) <| ?_
  have hcall := c_maskmake_Stream_Next q6 q4 ((hS.pull 1).pull 1)
  refine o_cc call_9 (args2 rfl rfl) hcall ?_
  rintro e w' ⟨rfl, hS⟩
  refine ⟨_, rfl, ?_⟩
  replace hF := ar_s hF; obtain ⟨x18, hx18, hF⟩ := hF
  refine p (yadd rfl rfl hx18) <| p (yl_assign rfl) <| x_done <| ?_
  have e_ := sinj hF; subst e_
  exact x_return ⟨_, ⟨_, _, rfl, rfl, rfl⟩, rfl, ((hS.pull 1).pull 1)⟩
attribute [irreducible] P_maskmake_Stream_Range

def P_maskmake_Stream_wire (s0 : T_maskmake_Stream) (l_1 : T_rules_Layout) : Option (T_rules_Wire × Int) :=
 bd (P_maskmake_Stream_Next s0 l_1.Nets) fun q8 =>
 bd (P_maskmake_Stream_Next (T_maskmake_Stream.mk s0.L q8.2) l_1.Layers) fun q7 =>
 bd (P_maskmake_Stream_Next (T_maskmake_Stream.mk s0.L q7.2) l_1.W) fun q5 =>
 bd (P_maskmake_Stream_Next (T_maskmake_Stream.mk s0.L q5.2) l_1.H) fun q2 =>
 ck ((2 : Int) ≠ 0) <|
 lv (Int.tmod q7.1 2) fun x31 =>
 bd (
  if x31 = 0 then
   ar (l_1.W - 1) fun x38 =>
   bd (P_maskmake_Stream_Range (T_maskmake_Stream.mk s0.L q2.2) q5.1 x38) fun q9 =>
   some (q9.1, q2.1, q9.2)
  else
   ar (l_1.H - 1) fun x46 =>
   bd (P_maskmake_Stream_Range (T_maskmake_Stream.mk s0.L q2.2) q2.1 x46) fun q0a =>
   some (q5.1, q0a.1, q0a.2)) fun (q3, q4, q6) =>
 some ((T_rules_Wire.mk q8.1 q7.1 q5.1 q2.1 q3 q4), q6)
theorem c_maskmake_Stream_wire {w0 w : World} {l : List Assn} {ρ : Heap} {q2 : Nat} {q5 : Option Addr} {q0z : Nat} {c_s0_0 : Nat} {q9 : Option Addr} {q10 : Nat} {c_l_1_4 : Nat} {q0a : Option Addr} {q11 : Nat} {c_l_1_5 : Nat} {q0b : Option Addr} {q12 : Nat} {c_l_1_6 : Nat} {q0c : Option Addr} {q13 : Nat} {c_l_1_7 : Nat} {s0 : T_maskmake_Stream} {l_1 : T_rules_Layout} {r : (T_rules_Wire × Int)} (hF : P_maskmake_Stream_wire s0 l_1 = some r) (q0f : RdS (RpI .i64) ρ q5 q0z c_s0_0 s0.L) (q17 : RdS R_rules_Wire ρ q9 q10 c_l_1_4 l_1.Wires) (q18 : RdS R_rules_Via ρ q0a q11 c_l_1_5 l_1.Vias) (q19 : RdS R_rules_Pin ρ q0b q12 c_l_1_6 l_1.Pins) (q1a : RdS R_floor_Wall ρ q0c q13 c_l_1_7 l_1.Walls) (hS : St w0 w (cells q2 25 [.slice q5 q0z c_s0_0, .int .i64 s0.fat] :: ro ρ :: l)) :
  Calls Try.prog 34 #[.pointer (some ⟨q2, 0, none⟩), .agg #[.int .i64 l_1.W, .int .i64 l_1.H, .int .i64 l_1.Layers, .int .i64 l_1.Nets, .slice q9 q10 c_l_1_4, .slice q0a q11 c_l_1_5, .slice q0b q12 c_l_1_6, .slice q0c q13 c_l_1_7]] w fun e w' => e = .returned (.agg #[.int .i64 r.1.Net, .int .i64 r.1.Layer, .int .i64 r.1.X0, .int .i64 r.1.Y0, .int .i64 r.1.X1, .int .i64 r.1.Y1]) ∧ St w0 w' (cells q2 25 [.slice q5 q0z c_s0_0, .int .i64 r.2] :: ro ρ :: l) := by
 have e_ := q0f.n; subst e_
 have e_ := q17.n; subst e_
 have e_ := q18.n; subst e_
 have e_ := q19.n; subst e_
 have e_ := q1a.n; subst e_
 refine enterC Try.func34 rfl 50 rfl (by simp) ?_
 refine x_seq <| x_region <| ?_
 refine o_box (cs := [.int .i64 l_1.W, .int .i64 l_1.H, .int .i64 l_1.Layers, .int .i64 l_1.Nets, .slice q9 l_1.Wires.length c_l_1_4, .slice q0a l_1.Vias.length c_l_1_5, .slice q0b l_1.Pins.length c_l_1_6, .slice q0c l_1.Walls.length c_l_1_7]) rfl rfl hS (fun b3 w' hS => ?_)
 refine o_alloc zero_44 hS (fun b4 w' hS => ?_)
 refine x_done <| x_seq <| ?_
 replace hF := bd_s hF; obtain ⟨q0d, q1e, hF⟩ := hF
 replace hF := bd_s hF; obtain ⟨q0e, q1f, hF⟩ := hF
 replace hF := bd_s hF; obtain ⟨q3, q1b, hF⟩ := hF
 replace hF := bd_s hF; obtain ⟨q4, q1c, hF⟩ := hF
 refine x_par (w0 := w0) [⟨[], [], [6], [], [], [], none⟩, ⟨[], [], [7], [], [], [], none⟩, ⟨[1], [1], [8], [0], [], [], none⟩, ⟨[0, 1, 2], [0, 2], [9], [2], [1], [3], none⟩, ⟨[], [], [10], [], [], [], none⟩, ⟨[], [], [11], [], [], [], none⟩, ⟨[5], [5], [12], [0], [], [], none⟩, ⟨[0, 1, 2, 3, 4, 5, 6], [4, 6], [13], [2], [3], [4], none⟩, ⟨[], [], [14], [], [], [], none⟩, ⟨[], [], [15], [], [], [], none⟩, ⟨[9], [9], [16], [0], [], [], none⟩, ⟨[0, 1, 2, 3, 4, 5, 6, 7, 8, 9, 10], [8, 10], [17], [2], [4], [5], none⟩, ⟨[], [], [18], [], [], [], none⟩, ⟨[], [], [19], [], [], [], none⟩, ⟨[13], [13], [20], [0], [], [], none⟩, ⟨[0, 1, 2, 3, 4, 5, 6, 7, 8, 9, 10, 11, 12, 13, 14], [12, 14], [21], [2], [5], [6], none⟩, ⟨[0, 1, 2, 3, 4, 5, 6, 7, 8, 9, 10, 11, 12, 13, 14, 15], [3, 7, 11, 15], [22], [], [], [], none⟩, ⟨[], [], [5], [], [], [7], none⟩, ⟨[0, 1, 2, 3, 4, 5, 6, 7, 8, 9, 10, 11, 12, 13, 14, 15, 16, 17], [16, 17], [], [], [7], [8], none⟩] [⟨none, none, []⟩, ⟨none, (some 3), []⟩, ⟨none, none, []⟩, ⟨(some 3), (some 7), []⟩, ⟨(some 7), (some 11), []⟩, ⟨(some 11), (some 15), []⟩, ⟨(some 15), none, []⟩, ⟨(some 17), (some 18), [5]⟩, ⟨(some 18), none, [5]⟩] [5, 6, 7, 8, 9, 10, 11, 12, 13, 14, 15, 16, 17, 18, 19, 20, 21, 22] [0, 1, 2] [0, 2, 6, 8] [0, 1, 2, 3, 4, 5, 6, 7, 8, 9, 10, 11, 12, 13, 14, 15, 16, 17] [fun Ep1 => Ep1 6 = .pointer (some ⟨q2, 0, none⟩), fun Ep1 => Ep1 7 = .pointer (some ⟨b3, 3, none⟩), fun Ep1 => Ep1 8 = .int .i64 l_1.Nets, fun Ep1 => Ep1 9 = .int .i64 q0d.1, fun Ep1 => Ep1 10 = .pointer (some ⟨q2, 0, none⟩), fun Ep1 => Ep1 11 = .pointer (some ⟨b3, 2, none⟩), fun Ep1 => Ep1 12 = .int .i64 l_1.Layers, fun Ep1 => Ep1 13 = .int .i64 q0e.1, fun Ep1 => Ep1 14 = .pointer (some ⟨q2, 0, none⟩), fun Ep1 => Ep1 15 = .pointer (some ⟨b3, 0, none⟩), fun Ep1 => Ep1 16 = .int .i64 l_1.W, fun Ep1 => Ep1 17 = .int .i64 q3.1, fun Ep1 => Ep1 18 = .pointer (some ⟨q2, 0, none⟩), fun Ep1 => Ep1 19 = .pointer (some ⟨b3, 1, none⟩), fun Ep1 => Ep1 20 = .int .i64 l_1.H, fun Ep1 => Ep1 21 = .int .i64 q4.1, fun Ep1 => Ep1 22 = .agg #[.int .i64 q0d.1, .int .i64 q0e.1, .int .i64 q3.1, .int .i64 q4.1, .int .i64 0, .int .i64 0], fun Ep1 => Ep1 5 = .pointer (some ⟨(blkOf (Ep1 5)), 0, none⟩), fun Ep1 => True] [fun Ep1 => cells b3 31 [.int .i64 l_1.W, .int .i64 l_1.H, .int .i64 l_1.Layers, .int .i64 l_1.Nets, .slice q9 l_1.Wires.length c_l_1_4, .slice q0a l_1.Vias.length c_l_1_5, .slice q0b l_1.Pins.length c_l_1_6, .slice q0c l_1.Walls.length c_l_1_7], fun Ep1 => cells q2 25 [.slice q5 s0.L.length c_s0_0, .int .i64 s0.fat], fun Ep1 => ro ρ, fun Ep1 => cells q2 25 [.slice q5 s0.L.length c_s0_0, .int .i64 q0d.2], fun Ep1 => cells q2 25 [.slice q5 s0.L.length c_s0_0, .int .i64 q0e.2], fun Ep1 => cells q2 25 [.slice q5 s0.L.length c_s0_0, .int .i64 q3.2], fun Ep1 => cells q2 25 [.slice q5 s0.L.length c_s0_0, .int .i64 q4.2], fun Ep1 => cells (blkOf (Ep1 5)) 44 [.int .i64 0, .int .i64 0, .int .i64 0, .int .i64 0, .int .i64 0, .int .i64 0], fun Ep1 => cells (blkOf (Ep1 5)) 44 [.int .i64 q0d.1, .int .i64 q0e.1, .int .i64 q3.1, .int .i64 q4.1, .int .i64 0, .int .i64 0]] mixed (by kernel_rfl) (((hS.pull 3).pull 3).pull 3) ?_ ?_
 ·refine ⟨?_, ?_, ?_, ?_, ?_, ?_, ?_, ?_, ?_, ?_, ?_, ?_, ?_, ?_, ?_, ?_, ?_, ?_, ?_, trivial⟩
  ·intro Ep1 w l' hE1 hO1 hF_ hS
   refine p (yl_move (hE1 0 rfl)) <| x_done <| ?_
   refine x_fin ⟨⟨_, rfl⟩, rfl, ?_⟩
   exact emk hS
  ·intro Ep1 w l' hE1 hO1 hF_ hS
   refine p (yl_field0 fld_31_3 (hE1 3 rfl)) <| x_done <| ?_
   refine x_fin ⟨⟨_, rfl⟩, rfl, ?_⟩
   exact emk hS
  ·intro Ep1 w l' hE1 hO1 hF_ hS
   obtain ⟨q0p, -⟩ := hF_
   replace q0p : Ep1 7 = .pointer (some ⟨b3, 3, none⟩) := emk q0p
   replace hS : St w0 w (cells b3 31 [.int .i64 l_1.W, .int .i64 l_1.H, .int .i64 l_1.Layers, .int .i64 l_1.Nets, .slice q9 l_1.Wires.length c_l_1_4, .slice q0a l_1.Vias.length c_l_1_5, .slice q0b l_1.Pins.length c_l_1_6, .slice q0c l_1.Walls.length c_l_1_7] :: l') := emk hS
   refine pa (at_load one_3 q0p (hS.cell rfl)) <| x_done <| ?_
   refine x_fin ⟨⟨_, rfl⟩, rfl, ?_⟩
   exact emk hS
  ·intro Ep1 w l' hE1 hO1 hF_ hS
   obtain ⟨q0q, q0r, -⟩ := hF_
   replace q0q : Ep1 6 = .pointer (some ⟨q2, 0, none⟩) := emk q0q
   replace q0r : Ep1 8 = .int .i64 l_1.Nets := emk q0r
   replace hS : St w0 w (ro ρ :: cells q2 25 [.slice q5 s0.L.length c_s0_0, .int .i64 s0.fat] :: l') := emk hS
   have hcall := c_maskmake_Stream_Next q1e q0f (hS.pull 1)
   refine o_cc call_9 (args2 q0q q0r) hcall ?_
   rintro e w' ⟨rfl, hS⟩
   refine ⟨_, rfl, ?_⟩
   refine x_done <| ?_
   refine x_fin ⟨⟨_, rfl⟩, rfl, ?_⟩
   exact emk (hS.pull 1)
  ·intro Ep1 w l' hE1 hO1 hF_ hS
   refine p (yl_move (hE1 0 rfl)) <| x_done <| ?_
   refine x_fin ⟨⟨_, rfl⟩, rfl, ?_⟩
   exact emk hS
  ·intro Ep1 w l' hE1 hO1 hF_ hS
   refine p (yl_field0 fld_31_2 (hE1 3 rfl)) <| x_done <| ?_
   refine x_fin ⟨⟨_, rfl⟩, rfl, ?_⟩
   exact emk hS
  ·intro Ep1 w l' hE1 hO1 hF_ hS
   obtain ⟨q0s, -⟩ := hF_
   replace q0s : Ep1 11 = .pointer (some ⟨b3, 2, none⟩) := emk q0s
   replace hS : St w0 w (cells b3 31 [.int .i64 l_1.W, .int .i64 l_1.H, .int .i64 l_1.Layers, .int .i64 l_1.Nets, .slice q9 l_1.Wires.length c_l_1_4, .slice q0a l_1.Vias.length c_l_1_5, .slice q0b l_1.Pins.length c_l_1_6, .slice q0c l_1.Walls.length c_l_1_7] :: l') := emk hS
   refine pa (at_load one_3 q0s (hS.cell rfl)) <| x_done <| ?_
   refine x_fin ⟨⟨_, rfl⟩, rfl, ?_⟩
   exact emk hS
  ·intro Ep1 w l' hE1 hO1 hF_ hS
   obtain ⟨q0t, q0u, -⟩ := hF_
   replace q0t : Ep1 10 = .pointer (some ⟨q2, 0, none⟩) := emk q0t
   replace q0u : Ep1 12 = .int .i64 l_1.Layers := emk q0u
   replace hS : St w0 w (ro ρ :: cells q2 25 [.slice q5 s0.L.length c_s0_0, .int .i64 q0d.2] :: l') := emk hS
   have hcall := c_maskmake_Stream_Next q1f q0f (hS.pull 1)
   refine o_cc call_9 (args2 q0t q0u) hcall ?_
   rintro e w' ⟨rfl, hS⟩
   refine ⟨_, rfl, ?_⟩
   refine x_done <| ?_
   refine x_fin ⟨⟨_, rfl⟩, rfl, ?_⟩
   exact emk (hS.pull 1)
  ·intro Ep1 w l' hE1 hO1 hF_ hS
   refine p (yl_move (hE1 0 rfl)) <| x_done <| ?_
   refine x_fin ⟨⟨_, rfl⟩, rfl, ?_⟩
   exact emk hS
  ·intro Ep1 w l' hE1 hO1 hF_ hS
   refine p (yl_field0 fld_31_0 (hE1 3 rfl)) <| x_done <| ?_
   refine x_fin ⟨⟨_, rfl⟩, rfl, ?_⟩
   exact emk hS
  ·intro Ep1 w l' hE1 hO1 hF_ hS
   obtain ⟨q0v, -⟩ := hF_
   replace q0v : Ep1 15 = .pointer (some ⟨b3, 0, none⟩) := emk q0v
   replace hS : St w0 w (cells b3 31 [.int .i64 l_1.W, .int .i64 l_1.H, .int .i64 l_1.Layers, .int .i64 l_1.Nets, .slice q9 l_1.Wires.length c_l_1_4, .slice q0a l_1.Vias.length c_l_1_5, .slice q0b l_1.Pins.length c_l_1_6, .slice q0c l_1.Walls.length c_l_1_7] :: l') := emk hS
   refine pa (at_load one_3 q0v (hS.cell rfl)) <| x_done <| ?_
   refine x_fin ⟨⟨_, rfl⟩, rfl, ?_⟩
   exact emk hS
  ·intro Ep1 w l' hE1 hO1 hF_ hS
   obtain ⟨q0w, q0h, -⟩ := hF_
   replace q0w : Ep1 14 = .pointer (some ⟨q2, 0, none⟩) := emk q0w
   replace q0h : Ep1 16 = .int .i64 l_1.W := emk q0h
   replace hS : St w0 w (ro ρ :: cells q2 25 [.slice q5 s0.L.length c_s0_0, .int .i64 q0e.2] :: l') := emk hS
   have hcall := c_maskmake_Stream_Next q1b q0f (hS.pull 1)
   refine o_cc call_9 (args2 q0w q0h) hcall ?_
   rintro e w' ⟨rfl, hS⟩
   refine ⟨_, rfl, ?_⟩
   refine x_done <| ?_
   refine x_fin ⟨⟨_, rfl⟩, rfl, ?_⟩
   exact emk (hS.pull 1)
  ·intro Ep1 w l' hE1 hO1 hF_ hS
   refine p (yl_move (hE1 0 rfl)) <| x_done <| ?_
   refine x_fin ⟨⟨_, rfl⟩, rfl, ?_⟩
   exact emk hS
  ·intro Ep1 w l' hE1 hO1 hF_ hS
   refine p (yl_field0 fld_31_1 (hE1 3 rfl)) <| x_done <| ?_
   refine x_fin ⟨⟨_, rfl⟩, rfl, ?_⟩
   exact emk hS
  ·intro Ep1 w l' hE1 hO1 hF_ hS
   obtain ⟨q0i, -⟩ := hF_
   replace q0i : Ep1 19 = .pointer (some ⟨b3, 1, none⟩) := emk q0i
   replace hS : St w0 w (cells b3 31 [.int .i64 l_1.W, .int .i64 l_1.H, .int .i64 l_1.Layers, .int .i64 l_1.Nets, .slice q9 l_1.Wires.length c_l_1_4, .slice q0a l_1.Vias.length c_l_1_5, .slice q0b l_1.Pins.length c_l_1_6, .slice q0c l_1.Walls.length c_l_1_7] :: l') := emk hS
   refine pa (at_load one_3 q0i (hS.cell rfl)) <| x_done <| ?_
   refine x_fin ⟨⟨_, rfl⟩, rfl, ?_⟩
   exact emk hS
  ·intro Ep1 w l' hE1 hO1 hF_ hS
   obtain ⟨q0j, q0k, -⟩ := hF_
   replace q0j : Ep1 18 = .pointer (some ⟨q2, 0, none⟩) := emk q0j
   replace q0k : Ep1 20 = .int .i64 l_1.H := emk q0k
   replace hS : St w0 w (ro ρ :: cells q2 25 [.slice q5 s0.L.length c_s0_0, .int .i64 q3.2] :: l') := emk hS
   have hcall := c_maskmake_Stream_Next q1c q0f (hS.pull 1)
   refine o_cc call_9 (args2 q0j q0k) hcall ?_
   rintro e w' ⟨rfl, hS⟩
   refine ⟨_, rfl, ?_⟩
   refine x_done <| ?_
   refine x_fin ⟨⟨_, rfl⟩, rfl, ?_⟩
   exact emk (hS.pull 1)
  ·intro Ep1 w l' hE1 hO1 hF_ hS
   obtain ⟨q0x, q0y, q0l, q0m, -⟩ := hF_
   replace q0x : Ep1 9 = .int .i64 q0d.1 := emk q0x
   replace q0y : Ep1 13 = .int .i64 q0e.1 := emk q0y
   replace q0l : Ep1 17 = .int .i64 q3.1 := emk q0l
   replace q0m : Ep1 21 = .int .i64 q4.1 := emk q0m
   refine p (v := .agg #[.int .i64 q0d.1, .int .i64 q0e.1, .int .i64 q3.1, .int .i64 q4.1, .int .i64 0, .int .i64 0]) (yl_build bld_44 bldf_44 (parts_eq (pt (va := .int .i64 q0d.1) q0x (pt (va := .int .i64 q0e.1) q0y (pt (va := .int .i64 q3.1) q0l (pt (va := .int .i64 q4.1) q0m pt0))))) (by kernel_rfl)) <| x_done <| ?_
   refine x_fin ⟨⟨_, rfl⟩, rfl, ?_⟩
   exact emk hS
  ·intro Ep1 w l' hE1 hO1 hF_ hS
   refine o_alloc zero_44 hS (fun q1j w' hS => ?_)
   refine x_done <| ?_
   refine x_fin ⟨⟨_, rfl⟩, rfl, ?_⟩
   exact emk hS
  ·intro Ep1 w l' hE1 hO1 hF_ hS
   obtain ⟨q0n, q6, -⟩ := hF_
   replace q0n : Ep1 22 = .agg #[.int .i64 q0d.1, .int .i64 q0e.1, .int .i64 q3.1, .int .i64 q4.1, .int .i64 0, .int .i64 0] := emk q0n
   replace q6 : Ep1 5 = .pointer (some ⟨(blkOf (Ep1 5)), 0, none⟩) := emk q6
   replace hS : St w0 w (cells (blkOf (Ep1 5)) 44 [.int .i64 0, .int .i64 0, .int .i64 0, .int .i64 0, .int .i64 0, .int .i64 0] :: l') := emk hS
   refine o_storeAgg (news := [.int .i64 q0d.1, .int .i64 q0e.1, .int .i64 q3.1, .int .i64 q4.1, .int .i64 0, .int .i64 0]) agg_44 q6 q0n rfl (by simp [over_length]) hS (fun w' hS => ?_)
   refine x_done <| ?_
   refine x_fin ⟨⟨undef, rfl⟩, trivial, ?_⟩
   exact emk hS
 intro Ep1 w' hE1 hF_ hS
 obtain ⟨q0q, q0p, q0r, q0x, q0t, q0s, q0u, q0y, q0w, q0v, q0h, q0l, q0j, q0i, q0k, q0m, q0n, q6, -⟩ := hF_
 replace q0q : Ep1 6 = .pointer (some ⟨q2, 0, none⟩) := emk q0q
 replace q0p : Ep1 7 = .pointer (some ⟨b3, 3, none⟩) := emk q0p
 replace q0r : Ep1 8 = .int .i64 l_1.Nets := emk q0r
 replace q0x : Ep1 9 = .int .i64 q0d.1 := emk q0x
 replace q0t : Ep1 10 = .pointer (some ⟨q2, 0, none⟩) := emk q0t
 replace q0s : Ep1 11 = .pointer (some ⟨b3, 2, none⟩) := emk q0s
 replace q0u : Ep1 12 = .int .i64 l_1.Layers := emk q0u
 replace q0y : Ep1 13 = .int .i64 q0e.1 := emk q0y
 replace q0w : Ep1 14 = .pointer (some ⟨q2, 0, none⟩) := emk q0w
 replace q0v : Ep1 15 = .pointer (some ⟨b3, 0, none⟩) := emk q0v
 replace q0h : Ep1 16 = .int .i64 l_1.W := emk q0h
 replace q0l : Ep1 17 = .int .i64 q3.1 := emk q0l
 replace q0j : Ep1 18 = .pointer (some ⟨q2, 0, none⟩) := emk q0j
 replace q0i : Ep1 19 = .pointer (some ⟨b3, 1, none⟩) := emk q0i
 replace q0k : Ep1 20 = .int .i64 l_1.H := emk q0k
 replace q0m : Ep1 21 = .int .i64 q4.1 := emk q0m
 replace q0n : Ep1 22 = .agg #[.int .i64 q0d.1, .int .i64 q0e.1, .int .i64 q3.1, .int .i64 q4.1, .int .i64 0, .int .i64 0] := emk q0n
 replace q6 : Ep1 5 = .pointer (some ⟨(blkOf (Ep1 5)), 0, none⟩) := emk q6
 replace hS : St w0 w' (cells b3 31 [.int .i64 l_1.W, .int .i64 l_1.H, .int .i64 l_1.Layers, .int .i64 l_1.Nets, .slice q9 l_1.Wires.length c_l_1_4, .slice q0a l_1.Vias.length c_l_1_5, .slice q0b l_1.Pins.length c_l_1_6, .slice q0c l_1.Walls.length c_l_1_7] :: ro ρ :: cells q2 25 [.slice q5 s0.L.length c_s0_0, .int .i64 q4.2] :: cells (blkOf (Ep1 5)) 44 [.int .i64 q0d.1, .int .i64 q0e.1, .int .i64 q3.1, .int .i64 q4.1, .int .i64 0, .int .i64 0] :: (cells b4 44 [.int .i64 0, .int .i64 0, .int .i64 0, .int .i64 0, .int .i64 0, .int .i64 0] :: l)) := emk hS
 refine x_seq <| x_region <| p (yl_field0 fld_44_2 q6) <| pa (at_load one_3 rfl ((hS.pull 3).cell rfl)) <|
  p (yl_field0 fld_44_3 q6) <| pa (at_load one_3 rfl ((hS.pull 3).cell rfl)) <| p (yl_field0 fld_44_4 q6) <| ?_
 refine o_store1 (v := .int .i64 q3.1) one_3 rfl rfl rfl rfl (hS.pull 3) (fun w' hS => ?_)
 refine p (yl_field0 fld_44_5 q6) <| ?_
 refine o_store1 (v := .int .i64 q4.1) one_3 rfl rfl rfl rfl hS (fun w' hS => ?_)
 replace hF := ck_s hF; obtain ⟨q1g, hF⟩ := hF
 replace hF := lv_s hF; obtain ⟨x31, hx31, hF⟩ := hF
 refine x_done <| x_seq <| x_seq <| x_region <|
  p (yl_field0 fld_44_1 q6) <| pa (at_load one_3 rfl (hS.cell rfl)) <| p (yrem rfl rfl q1g hx31) <| p (yl_eql rfl rfl) <|
  x_done <| ?_
 replace hF := bd_s hF; obtain ⟨oc32, hFc32, hF⟩ := hF
 refine x_join (fun E w => ∃ (q0o : Nat) (q7 : Int) (q8 : Int) (q0g : Int), (q7, q8, q0g) = oc32 ∧ E 4 = .pointer (some ⟨b4, 0, none⟩) ∧ E 5 = .pointer (some ⟨q0o, 0, none⟩) ∧ St w0 w (cells b4 44 [.int .i64 0, .int .i64 0, .int .i64 0, .int .i64 0, .int .i64 0, .int .i64 0] :: cells q0o 44 [.int .i64 q0d.1, .int .i64 q0e.1, .int .i64 q3.1, .int .i64 q4.1, .int .i64 q7, .int .i64 q8] :: cells q2 25 [.slice q5 s0.L.length c_s0_0, .int .i64 q0g] :: ro ρ :: l)) ?_ ?_
 ·refine x_cond_p (x31 = 0) rfl (fun hc32 => ?_) (fun hc32 => ?_)
  ·replace hFc32 := it_t hc32 hFc32
   replace hFc32 := ar_s hFc32; obtain ⟨x38, hx38, hFc32⟩ := hFc32
   replace hFc32 := bd_s hFc32; obtain ⟨q15, q1h, hFc32⟩ := hFc32
   refine x_region <| p (yl_move (hE1 0 rfl)) <| p (yl_field0 fld_44_2 q6) <| pa (at_load one_3 rfl (hS.cell rfl)) <|
    p (yl_field0 fld_31_0 (hE1 3 rfl)) <| pa (at_load one_3 rfl ((hS.pull 1).cell rfl)) <| p (ysub rfl rfl hx38) <| ?_
   have hcall := c_maskmake_Stream_Range q1h q0f ((hS.pull 2).pull 3)
   refine o_cc call_17 (args3 rfl rfl rfl) hcall ?_
   rintro e w' ⟨rfl, hS⟩
   refine ⟨_, rfl, ?_⟩
   refine p (yl_field0 fld_44_4 q6) <| ?_
   refine o_store1 (v := .int .i64 q15.1) one_3 rfl rfl rfl rfl (hS.pull 2) (fun w' hS => ?_)
   refine x_done <| ?_
   exact x_inv ⟨(blkOf (Ep1 5)), q15.1, q4.1, q15.2, (sinj hFc32), (hE1 4 rfl), q6, (((((hS.pull 3).drop.pull 2).pull 2).pull 2).pull 3)⟩
  ·replace hFc32 := it_f hc32 hFc32
   replace hFc32 := ar_s hFc32; obtain ⟨x46, hx46, hFc32⟩ := hFc32
   replace hFc32 := bd_s hFc32; obtain ⟨q16, q1i, hFc32⟩ := hFc32
   refine x_region <| p (yl_move (hE1 0 rfl)) <| p (yl_field0 fld_44_3 q6) <| pa (at_load one_3 rfl (hS.cell rfl)) <|
    p (yl_field0 fld_31_1 (hE1 3 rfl)) <| pa (at_load one_3 rfl ((hS.pull 1).cell rfl)) <| p (ysub rfl rfl hx46) <| ?_
   have hcall := c_maskmake_Stream_Range q1i q0f ((hS.pull 2).pull 3)
   refine o_cc call_17 (args3 rfl rfl rfl) hcall ?_
   rintro e w' ⟨rfl, hS⟩
   refine ⟨_, rfl, ?_⟩
   refine p (yl_field0 fld_44_5 q6) <| ?_
   refine o_store1 (v := .int .i64 q16.1) one_3 rfl rfl rfl rfl (hS.pull 2) (fun w' hS => ?_)
   refine x_done <| ?_
   exact x_inv ⟨(blkOf (Ep1 5)), q3.1, q16.1, q16.2, (sinj hFc32), (hE1 4 rfl), q6, (((((hS.pull 3).drop.pull 2).pull 2).pull 2).pull 3)⟩
 rintro E w ⟨q0o, q7, q8, q0g, rfl, q14, q1d, hS⟩
 refine x_seq <| x_region <| pa (v := .agg #[.int .i64 q0d.1, .int .i64 q0e.1, .int .i64 q3.1, .int .i64 q4.1, .int .i64 q7, .int .i64 q8]) (ld_sub agg_44 q1d rfl rfl (hS.pull 1)) <| ?_
 refine o_storeAgg (news := [.int .i64 q0d.1, .int .i64 q0e.1, .int .i64 q3.1, .int .i64 q4.1, .int .i64 q7, .int .i64 q8]) agg_44 q14 rfl rfl (by simp [over_length]) hS (fun w' hS => ?_)
 refine x_done <| ?_
 have e_ := sinj hF; subst e_
 exact x_return ⟨_, ⟨_, _, _, rfl, q14, ldvA agg_44 rfl (fun j v hj => by rw [add0]; exact St.cell hS hj), rfl⟩, rfl, ((hS.drop.drop.pull 1).pull 1)⟩
attribute [irreducible] P_maskmake_Stream_wire

def P_maskmake_Stream_Flip (s0 : T_maskmake_Stream) (n1 : Int) : Option (Bool × Int) :=
 bd (P_maskmake_Stream_Next s0 n1) fun q2 =>
 some (decide (q2.1 = 0), q2.2)
theorem c_maskmake_Stream_Flip {w0 w : World} {l : List Assn} {ρ : Heap} {q5 : Nat} {q2 : Option Addr} {q3 : Nat} {c_s0_0 : Nat} {s0 : T_maskmake_Stream} {n1 : Int} {r : (Bool × Int)} (hF : P_maskmake_Stream_Flip s0 n1 = some r) (q4 : RdS (RpI .i64) ρ q2 q3 c_s0_0 s0.L) (hS : St w0 w (cells q5 25 [.slice q2 q3 c_s0_0, .int .i64 s0.fat] :: ro ρ :: l)) :
  Calls Try.prog 33 #[.pointer (some ⟨q5, 0, none⟩), .int .i64 n1] w fun e w' => e = .returned (.bool r.1) ∧ St w0 w' (cells q5 25 [.slice q2 q3 c_s0_0, .int .i64 r.2] :: ro ρ :: l) := by
 have e_ := q4.n; subst e_
 refine enterC Try.func33 rfl 9 rfl (by simp) ?_
 replace hF := bd_s hF; obtain ⟨q7, q6, hF⟩ := hF
 refine x_seq <| x_region <| p (yl_assign rfl) <| x_done <|
  x_seq <| x_region <| p (yl_move rfl) <| p (yl_move rfl) <| ?_
 have hcall := c_maskmake_Stream_Next q6 q4 ((hS.pull 1).pull 1)
 refine o_cc call_9 (args2 rfl rfl) hcall ?_
 rintro e w' ⟨rfl, hS⟩
 refine ⟨_, rfl, ?_⟩
 refine p (yl_eql rfl rfl) <| p (yl_assign rfl) <| x_done <| ?_
 have e_ := sinj hF; subst e_
 exact x_return ⟨_, ⟨_, _, rfl, rfl, rfl⟩, rfl, ((hS.pull 1).pull 1)⟩
attribute [irreducible] P_maskmake_Stream_Flip

def P_maskmake_Stream_Pick (s0 : T_maskmake_Stream) (l_1 : List Int) : Option (Int × Int) :=
 bd (P_maskmake_Stream_Next s0 (l_1.length : Int)) fun q2 =>
 ck (inb q2.1 l_1.length) <|
 lv (gt l_1 q2.1) fun x11 =>
 some (x11, q2.2)
theorem c_maskmake_Stream_Pick {w0 w : World} {l : List Assn} {ρ : Heap} {q6 : Nat} {q2 : Option Addr} {q3 : Nat} {c_s0_0 : Nat} {q7 : Option Addr} {q8 : Nat} {c_l_1 : Nat} {s0 : T_maskmake_Stream} {l_1 : List Int} {r : (Int × Int)} (hF : P_maskmake_Stream_Pick s0 l_1 = some r) (q5 : RdS (RpI .i64) ρ q2 q3 c_s0_0 s0.L) (q4 : RdS (RpI .i64) ρ q7 q8 c_l_1 l_1) (hS : St w0 w (cells q6 25 [.slice q2 q3 c_s0_0, .int .i64 s0.fat] :: ro ρ :: l)) :
  Calls Try.prog 43 #[.pointer (some ⟨q6, 0, none⟩), .slice q7 q8 c_l_1] w fun e w' => e = .returned (.int .i64 r.1) ∧ St w0 w' (cells q6 25 [.slice q2 q3 c_s0_0, .int .i64 r.2] :: ro ρ :: l) := by
 have e_ := q5.n; subst e_
 have e_ := q4.n; subst e_
 refine enterC Try.func43 rfl 12 rfl (by simp) ?_
 replace hF := bd_s hF; obtain ⟨q0b, q0a, hF⟩ := hF
 refine x_seq <| x_region <| p (yl_assign rfl) <| x_done <|
  x_seq <| x_region <| p (yl_move rfl) <| p (yl_move rfl) <|
  p (yl_move rfl) <| p (yl_len_slice usl_22 rfl) <| ?_
 have hcall := c_maskmake_Stream_Next q0a q5 ((hS.pull 1).pull 1)
 refine o_cc call_9 (args2 rfl rfl) hcall ?_
 rintro e w' ⟨rfl, hS⟩
 refine ⟨_, rfl, ?_⟩
 replace hF := ck_s hF; obtain ⟨q9, hF⟩ := hF
 replace hF := lv_s hF; obtain ⟨x11, hx11, hF⟩ := hF
 refine p (yix_f sl_22 rfl rfl q4 q9) <| pa (at_load one_3 rfl (RdS.getW q4 (hS.pull 1) q9 hx11)) <| p (yl_assign rfl) <| x_done <| ?_
 have e_ := sinj hF; subst e_
 exact x_return ⟨_, ⟨_, _, rfl, rfl, rfl⟩, rfl, ((hS.pull 1).pull 1)⟩
attribute [irreducible] P_maskmake_Stream_Pick

def P_maskmake_Stream_Layout_L3 (s0 : T_maskmake_Stream) (q7 : (Int × Int)) (q8 : (Int × Int)) (q9 : (Int × Int)) (q0a : (Int × Int)) (q0b : (Int × Int)) : (Int × Int × List T_rules_Wire) → Option ((Int × Int × List T_rules_Wire) ⊕ (Int × List T_rules_Wire)) := fun (q4, q3, q2) =>
 if q4 < q0b.1 then
  bd (P_maskmake_Stream_wire (T_maskmake_Stream.mk s0.L q3) (T_rules_Layout.mk q7.1 q8.1 q9.1 q0a.1 q2 [] [] [])) fun q5 =>
  lv (q2 ++ [q5.1]) fun q6 =>
  ck (apOk 48 q6.length) <|
  ar (q4 + 1) fun x30 =>
  some (Sum.inl (x30, q5.2, q6))
 else
  some (Sum.inr (q3, q2))
def P_maskmake_Stream_Layout_L7 (s0 : T_maskmake_Stream) (q0r : (Int × Int)) (q0s : (Int × Int)) (q0i : (Int × Int)) (q0t : (Int × Int)) (q4 : List T_rules_Wire) (q0u : (Int × Int)) : (Int × Int × List T_rules_Via) → Option ((Int × Int × List T_rules_Via) ⊕ (Int × List T_rules_Via)) := fun (q0b, q2, q6) =>
 if q0b < q0u.1 then
  bd (
   if 1 < q0i.1 then
    bd (P_maskmake_Stream_Next (T_maskmake_Stream.mk s0.L q2) q0t.1) fun q0p =>
    ar (q0i.1 - 1) fun x45 =>
    bd (P_maskmake_Stream_Next (T_maskmake_Stream.mk s0.L q0p.2) x45) fun q0q =>
    bd (P_maskmake_Stream_Next (T_maskmake_Stream.mk s0.L q0q.2) q0r.1) fun q0k =>
    bd (P_maskmake_Stream_Next (T_maskmake_Stream.mk s0.L q0k.2) q0s.1) fun q0c =>
    bd (
     if (decide (0 < (q4.length : Int))) = true then
      bd (P_maskmake_Stream_Next (T_maskmake_Stream.mk s0.L q0c.2) 4) fun q0l =>
      some (decide (0 < q0l.1), q0l.2)
     else
      some (false, q0c.2)) fun (q0g, q3) =>
    bd (
     if q0g = true then
      bd (P_maskmake_Stream_Next (T_maskmake_Stream.mk s0.L q3) (q4.length : Int)) fun q0d =>
      ck (inb q0d.1 q4.length) <|
      lv (gt q4 q0d.1) fun q5 =>
      bd (P_maskmake_Stream_Range (T_maskmake_Stream.mk s0.L q0d.2) q5.X0 q5.X1) fun q0m =>
      bd (P_maskmake_Stream_Range (T_maskmake_Stream.mk s0.L q0m.2) q5.Y0 q5.Y1) fun q0h =>
      bd (P_maskmake_Stream_Next (T_maskmake_Stream.mk s0.L q0h.2) 2) fun q0n =>
      ar (q5.Layer - q0n.1) fun x95 =>
      ar (q0i.1 - 2) fun x98 =>
      lv (min x95 x98) fun x99 =>
      lv (max (0 : Int) x99) fun x100 =>
      some (q0n.2, q5.Net, x100, q0m.1, q0h.1)
     else
      some (q3, q0p.1, q0q.1, q0k.1, q0c.1)) fun (q0e, q7, q8, q9, q0a) =>
    lv (q6 ++ [(T_rules_Via.mk q7 q8 q9 q0a)]) fun q0o =>
    ck (apOk 32 q0o.length) <|
    some (q0e, q0o)
   else
    some (q2, q6)) fun (q0f, q0j) =>
  ar (q0b + 1) fun x108 =>
  some (Sum.inl (x108, q0f, q0j))
 else
  some (Sum.inr (q2, q6))
def P_maskmake_Stream_Layout_L17 (s0 : T_maskmake_Stream) (q0e : (Int × Int)) (q0f : (Int × Int)) (q0g : (Int × Int)) (q0d : (Int × Int)) : (Int × Int × List T_rules_Pin) → Option ((Int × Int × List T_rules_Pin) ⊕ (Int × List T_rules_Pin)) := fun (q5, q2, q6) =>
 if q5 < q0d.1 then
  bd (P_maskmake_Stream_Next (T_maskmake_Stream.mk s0.L q2) q0g.1) fun q9 =>
  bd (P_maskmake_Stream_Next (T_maskmake_Stream.mk s0.L q9.2) q0e.1) fun q0a =>
  bd (P_maskmake_Stream_Next (T_maskmake_Stream.mk s0.L q0a.2) q0f.1) fun q8 =>
  bd (P_maskmake_Stream_Flip (T_maskmake_Stream.mk s0.L q8.2) 3) fun q4 =>
  bd (
   if (!q4.1) = true then
    bd (P_maskmake_Stream_Pick (T_maskmake_Stream.mk s0.L q4.2) ([0, 1, 1, 2, 5] : List Int)) fun q0b =>
    some (q0b.2, q0b.1)
   else
    some (q4.2, (0 : Int))) fun (q7, q3) =>
  lv (q6 ++ [(T_rules_Pin.mk q9.1 q0a.1 q8.1 q4.1 q3)]) fun q0c =>
  ck (apOk 40 q0c.length) <|
  ar (q5 + 1) fun x141 =>
  some (Sum.inl (x141, q7, q0c))
 else
  some (Sum.inr (q2, q6))
def P_maskmake_Stream_Layout_L24 (s0 : T_maskmake_Stream) (q0b : (Int × Int)) (q0c : (Int × Int)) (q0e : (Int × Int)) (q0d : (Int × Int)) : (Int × Int × List T_floor_Wall) → Option ((Int × Int × List T_floor_Wall) ⊕ (List T_floor_Wall × Int)) := fun (q3, q2, q4) =>
 if q3 < q0d.1 then
  bd (P_maskmake_Stream_Next (T_maskmake_Stream.mk s0.L q2) q0b.1) fun q5 =>
  bd (P_maskmake_Stream_Next (T_maskmake_Stream.mk s0.L q5.2) q0c.1) fun q6 =>
  bd (P_maskmake_Stream_Next (T_maskmake_Stream.mk s0.L q6.2) q0e.1) fun q0a =>
  ar (q0b.1 - 1) fun x164 =>
  bd (P_maskmake_Stream_Next (T_maskmake_Stream.mk s0.L q0a.2) 3) fun q7 =>
  ar (q5.1 + q7.1) fun x168 =>
  lv (min x164 x168) fun x169 =>
  ar (q0c.1 - 1) fun x172 =>
  bd (P_maskmake_Stream_Next (T_maskmake_Stream.mk s0.L q7.2) 3) fun q8 =>
  ar (q6.1 + q8.1) fun x176 =>
  lv (min x172 x176) fun x177 =>
  lv (q4 ++ [(T_floor_Wall.mk q0a.1 q5.1 q6.1 x169 x177)]) fun q9 =>
  ck (apOk 40 q9.length) <|
  ar (q3 + 1) fun x182 =>
  some (Sum.inl (x182, q8.2, q9))
 else
  some (Sum.inr (q4, q2))
def P_maskmake_Stream_Layout (s0 : T_maskmake_Stream) : Option (T_rules_Layout × Int) :=
 bd (P_maskmake_Stream_Range s0 4 10) fun q2 =>
 bd (P_maskmake_Stream_Range (T_maskmake_Stream.mk s0.L q2.2) 4 10) fun q3 =>
 bd (P_maskmake_Stream_Range (T_maskmake_Stream.mk s0.L q3.2) 1 4) fun q4 =>
 bd (P_maskmake_Stream_Range (T_maskmake_Stream.mk s0.L q4.2) 1 4) fun q5 =>
 bd (P_maskmake_Stream_Next (T_maskmake_Stream.mk s0.L q5.2) 9) fun q0g =>
 bd (
  lp (P_maskmake_Stream_Layout_L3 s0 q2 q3 q4 q5 q0g) fuel (0, q0g.2, [])) fun (q9, q6) =>
 bd (P_maskmake_Stream_Next (T_maskmake_Stream.mk s0.L q9) 6) fun q0h =>
 bd (
  lp (P_maskmake_Stream_Layout_L7 s0 q2 q3 q4 q5 q6 q0h) fuel (0, q0h.2, [])) fun (q0a, q0f) =>
 bd (P_maskmake_Stream_Next (T_maskmake_Stream.mk s0.L q0a) 7) fun q0d =>
 bd (
  lp (P_maskmake_Stream_Layout_L17 s0 q2 q3 q5 q0d) fuel (0, q0d.2, [])) fun (q7, q0b) =>
 bd (P_maskmake_Stream_Next (T_maskmake_Stream.mk s0.L q7) 3) fun q0e =>
 bd (
  lp (P_maskmake_Stream_Layout_L24 s0 q2 q3 q4 q0e) fuel (0, q0e.2, [])) fun (q0c, q8) =>
 some ((T_rules_Layout.mk q2.1 q3.1 q4.1 q5.1 q6 q0f q0b q0c), q8)
theorem c_maskmake_Stream_Layout {w0 w : World} {l : List Assn} {ρ : Heap} {q5 : Nat} {q6 : Option Addr} {q78 : Nat} {c_s0_0 : Nat} {s0 : T_maskmake_Stream} {r : (T_rules_Layout × Int)} (hF : P_maskmake_Stream_Layout s0 = some r) (q0o : RdS (RpI .i64) ρ q6 q78 c_s0_0 s0.L) (hS : St w0 w (cells q5 25 [.slice q6 q78 c_s0_0, .int .i64 s0.fat] :: ro ρ :: l)) :
  Calls Try.prog 20 #[.pointer (some ⟨q5, 0, none⟩)] w fun e w' => ∃ (q65 : Option Addr) (q3o : Nat) (c_y0_ret_4 : Nat) (q5y : List Value) (q66 : Option Addr) (q3p : Nat) (c_y0_ret_5 : Nat) (q5z : List Value) (q67 : Option Addr) (q3q : Nat) (c_y0_ret_6 : Nat) (q60 : List Value) (q68 : Option Addr) (q3r : Nat) (c_y0_ret_7 : Nat) (q61 : List Value), e = .returned (.agg #[.int .i64 r.1.W, .int .i64 r.1.H, .int .i64 r.1.Layers, .int .i64 r.1.Nets, .slice q65 q3o c_y0_ret_4, .slice q66 q3p c_y0_ret_5, .slice q67 q3q c_y0_ret_6, .slice q68 q3r c_y0_ret_7]) ∧ RepL R_rules_Wire ρ r.1.Wires q5y ∧ RepL R_rules_Via ρ r.1.Vias q5z ∧ RepL R_rules_Pin ρ r.1.Pins q60 ∧ RepL R_floor_Wall ρ r.1.Walls q61 ∧ St w0 w' (vec 44 R_rules_Wire.sz (.slice q65 q3o c_y0_ret_4) q3o q5y :: vec 47 R_rules_Via.sz (.slice q66 q3p c_y0_ret_5) q3p q5z :: vec 39 R_rules_Pin.sz (.slice q67 q3q c_y0_ret_6) q3q q60 :: vec 66 R_floor_Wall.sz (.slice q68 q3r c_y0_ret_7) q3r q61 :: cells q5 25 [.slice q6 q78 c_s0_0, .int .i64 r.2] :: ro ρ :: l) := by
 have e_ := q0o.n; subst e_
 refine enterC Try.func20 rfl 184 rfl (by simp) ?_
 refine x_seq <| x_region <| ?_
 refine o_alloc zero_31 hS (fun b2 w' hS => ?_)
 replace hF := bd_s hF; obtain ⟨q0a, q93, hF⟩ := hF
 refine x_done <| x_seq <| x_region <| p (yl_move rfl) <| ?_
 have hcall := c_maskmake_Stream_Range q93 q0o ((hS.pull 2).pull 2)
 refine o_cc call_17 (args3 rfl rfl rfl) hcall ?_
 rintro e w' ⟨rfl, hS⟩
 refine ⟨_, rfl, ?_⟩
 replace hF := bd_s hF; obtain ⟨q0b, q94, hF⟩ := hF
 refine p (yl_move rfl) <| ?_
 have hcall := c_maskmake_Stream_Range q94 q0o ((hS.pull 1).pull 1)
 refine o_cc call_17 (args3 rfl rfl rfl) hcall ?_
 rintro e w' ⟨rfl, hS⟩
 refine ⟨_, rfl, ?_⟩
 replace hF := bd_s hF; obtain ⟨q0c, q95, hF⟩ := hF
 refine p (yl_move rfl) <| ?_
 have hcall := c_maskmake_Stream_Range q95 q0o ((hS.pull 1).pull 1)
 refine o_cc call_17 (args3 rfl rfl rfl) hcall ?_
 rintro e w' ⟨rfl, hS⟩
 refine ⟨_, rfl, ?_⟩
 replace hF := bd_s hF; obtain ⟨q0f, q96, hF⟩ := hF
 refine p (yl_move rfl) <| ?_
 have hcall := c_maskmake_Stream_Range q96 q0o ((hS.pull 1).pull 1)
 refine o_cc call_17 (args3 rfl rfl rfl) hcall ?_
 rintro e w' ⟨rfl, hS⟩
 refine ⟨_, rfl, ?_⟩
 refine p (v := .agg #[.int .i64 q0a.1, .int .i64 q0b.1, .int .i64 q0c.1, .int .i64 q0f.1, .slice none 0 0, .slice none 0 0, .slice none 0 0, .slice none 0 0]) (yl_build bld_31 bldf_31 (parts_eq (pt (va := .int .i64 q0a.1) rfl (pt (va := .int .i64 q0b.1) rfl (pt (va := .int .i64 q0c.1) rfl (pt (va := .int .i64 q0f.1) rfl pt0))))) (by kernel_rfl)) <| ?_
 refine o_alloc zero_31 hS (fun b3 w' hS => ?_)
 refine o_storeAgg (news := [.int .i64 q0a.1, .int .i64 q0b.1, .int .i64 q0c.1, .int .i64 q0f.1, .slice none 0 0, .slice none 0 0, .slice none 0 0, .slice none 0 0]) agg_31 rfl rfl rfl (by simp [over_length]) hS (fun w' hS => ?_)
 replace hF := bd_s hF; obtain ⟨q7f, q97, hF⟩ := hF
 refine x_done <| x_seq <| x_seq <| x_region <|
  p (yl_move rfl) <| ?_
 have hcall := c_maskmake_Stream_Next q97 q0o ((hS.pull 2).pull 2)
 refine o_cc call_9 (args2 rfl rfl) hcall ?_
 rintro e w' ⟨rfl, hS⟩
 refine ⟨_, rfl, ?_⟩
 refine p (yl_move rfl) <| x_done <| ?_
 replace hF := bd_s hF; obtain ⟨oL3, hLL3, hF⟩ := hF
 refine x_join (fun E w => ∃ (q3 : Option Addr) (q2k : Nat) (c_b3_4_L3 : Nat) (q0h : List Value) (q3u : Int) (q2 : List T_rules_Wire), (q3u, q2) = oL3 ∧ E 0 = .pointer (some ⟨q5, 0, none⟩) ∧ E 2 = .pointer (some ⟨b2, 0, none⟩) ∧ E 3 = .pointer (some ⟨b3, 0, none⟩) ∧ RepL R_rules_Wire ρ q2 q0h ∧ St w0 w (cells q5 25 [.slice q6 s0.L.length c_s0_0, .int .i64 q3u] :: cells b2 31 [.int .i64 0, .int .i64 0, .int .i64 0, .int .i64 0, .slice none 0 0, .slice none 0 0, .slice none 0 0, .slice none 0 0] :: cells b3 31 [.int .i64 q0a.1, .int .i64 q0b.1, .int .i64 q0c.1, .int .i64 q0f.1, .slice q3 q2k c_b3_4_L3, .slice none 0 0, .slice none 0 0, .slice none 0 0] :: vec 44 R_rules_Wire.sz (.slice q3 q2k c_b3_4_L3) q2k q0h :: ro ρ :: l)) ?_ ?_
 ·refine x_block ?_
  replace hS := St.vec_nil hS 44 R_rules_Wire.sz
  have q69 : RepL R_rules_Wire ρ [] [] := rfl
  refine x_loop (fun k_ E w => ∃ (q0m : Option Addr) (q26 : Nat) (c_b3_4_L3h : Nat) (q1c : List Value) (q41 : Int) (q1m : Int) (q0n : List T_rules_Wire), lp (P_maskmake_Stream_Layout_L3 s0 q0a q0b q0c q0f q7f) k_ (q41, q1m, q0n) = some oL3 ∧ E 0 = .pointer (some ⟨q5, 0, none⟩) ∧ E 2 = .pointer (some ⟨b2, 0, none⟩) ∧ E 3 = .pointer (some ⟨b3, 0, none⟩) ∧ E 19 = .int .i64 q7f.1 ∧ E 20 = .int .i64 q41 ∧ RepL R_rules_Wire ρ q0n q1c ∧ St w0 w (cells q5 25 [.slice q6 s0.L.length c_s0_0, .int .i64 q1m] :: cells b2 31 [.int .i64 0, .int .i64 0, .int .i64 0, .int .i64 0, .slice none 0 0, .slice none 0 0, .slice none 0 0, .slice none 0 0] :: cells b3 31 [.int .i64 q0a.1, .int .i64 q0b.1, .int .i64 q0c.1, .int .i64 q0f.1, .slice q0m q26 c_b3_4_L3h, .slice none 0 0, .slice none 0 0, .slice none 0 0] :: vec 44 R_rules_Wire.sz (.slice q0m q26 c_b3_4_L3h) q26 q1c :: ro ρ :: l)) fuel ⟨none, 0, 0, [], 0, q7f.2, [], hLL3, rfl, rfl, rfl, rfl, rfl, q69, (((((hS.pull 2).pull 1).pull 3).pull 4).pull 4)⟩ ?_
  rintro kL3 E w ⟨q0m, q26, c_b3_4_L3h, q1c, q41, q1m, q0n, hLL3, q79, q7j, q3v, q7c, q7d, q27, hS⟩
  have e_ := St.vec_n (hS.pull 3) q27; subst e_
  replace hLL3 := lp_s hLL3; obtain ⟨kL3, obL3, rfl, hFL3, hLL3⟩ := hLL3
  refine x_seq <| x_region <| p (yl_lss q7d q7c) <| x_done <|
   x_seq <|
   x_cond_p (q41 < q7f.1) rfl (fun hc21 => ?_) (fun hc21 => ?_)
  ·replace hFL3 := it_t hc21 hFL3
   refine x_skip <| x_seq <| x_block <| ?_
   replace hFL3 := bd_s hFL3; obtain ⟨q0g, q98, hFL3⟩ := hFL3
   replace hFL3 := lv_s hFL3; obtain ⟨q1l, q99, hFL3⟩ := hFL3
   replace hFL3 := ck_s hFL3; obtain ⟨q9a, hFL3⟩ := hFL3
   refine x_par (w0 := w0) [⟨[], [], [22], [], [], [], none⟩, ⟨[0], [0], [23], [0], [], [], none⟩, ⟨[], [], [24], [], [], [], none⟩, ⟨[], [], [25], [0], [], [], none⟩, ⟨[2, 3], [2, 3], [26], [1, 3], [2], [4], none⟩, ⟨[2, 3, 4], [4], [27], [], [], [5], none⟩, ⟨[0, 1, 2, 3, 4, 5], [1, 5], [28], [5, 3], [1], [6], none⟩, ⟨[0, 1, 2, 3, 4, 5, 6], [], [29], [], [], [], none⟩, ⟨[0, 1, 2, 3, 4, 5, 6, 7], [6, 7], [], [], [0], [7], none⟩] [⟨none, (some 8), []⟩, ⟨none, (some 6), []⟩, ⟨none, (some 4), []⟩, ⟨none, none, []⟩, ⟨(some 4), none, []⟩, ⟨(some 5), none, [27]⟩, ⟨(some 6), none, [28]⟩, ⟨(some 8), none, [28]⟩] [22, 23, 24, 25, 26, 27, 28, 29] [0, 1, 2, 3] [3, 4, 5, 6, 7] [0, 1, 2, 3, 4, 5, 6, 7] [fun Ep4 => Ep4 22 = .pointer (some ⟨b3, 4, none⟩), fun Ep4 => Ep4 23 = .slice q0m q0n.length c_b3_4_L3h, fun Ep4 => Ep4 24 = .pointer (some ⟨q5, 0, none⟩), fun Ep4 => Ep4 25 = .agg #[.int .i64 q0a.1, .int .i64 q0b.1, .int .i64 q0c.1, .int .i64 q0f.1, .slice q0m q0n.length c_b3_4_L3h, .slice none 0 0, .slice none 0 0, .slice none 0 0], fun Ep4 => Ep4 26 = .agg #[.int .i64 q0g.1.Net, .int .i64 q0g.1.Layer, .int .i64 q0g.1.X0, .int .i64 q0g.1.Y0, .int .i64 q0g.1.X1, .int .i64 q0g.1.Y1], fun Ep4 => Ep4 27 = .slice (some ⟨(blkOf (Ep4 27)), 0, none⟩) 1 1, fun Ep4 => Ep4 28 = .slice (adOf (Ep4 28)) q1l.length (capOf (Ep4 28)), fun Ep4 => Ep4 29 = .pointer (some ⟨b3, 4, none⟩), fun Ep4 => True] [fun Ep4 => cells b3 31 [.int .i64 q0a.1, .int .i64 q0b.1, .int .i64 q0c.1, .int .i64 q0f.1, .slice q0m q0n.length c_b3_4_L3h, .slice none 0 0, .slice none 0 0, .slice none 0 0], fun Ep4 => vec 44 R_rules_Wire.sz (.slice q0m q0n.length c_b3_4_L3h) q0n.length q1c, fun Ep4 => cells q5 25 [.slice q6 s0.L.length c_s0_0, .int .i64 q1m], fun Ep4 => ro ρ, fun Ep4 => cells q5 25 [.slice q6 s0.L.length c_s0_0, .int .i64 q0g.2], fun Ep4 => cells (blkOf (Ep4 27)) 44 [.int .i64 q0g.1.Net, .int .i64 q0g.1.Layer, .int .i64 q0g.1.X0, .int .i64 q0g.1.Y0, .int .i64 q0g.1.X1, .int .i64 q0g.1.Y1], fun Ep4 => bunA (fun (cs28 : List Value) => RepL R_rules_Wire ρ q1l cs28) (fun (cs28 : List Value) => [vec 44 R_rules_Wire.sz (.slice (adOf (Ep4 28)) q1l.length (capOf (Ep4 28))) q1l.length cs28]), fun Ep4 => cells b3 31 [.int .i64 q0a.1, .int .i64 q0b.1, .int .i64 q0c.1, .int .i64 q0f.1, .slice (adOf (Ep4 28)) q1l.length (capOf (Ep4 28)), .slice none 0 0, .slice none 0 0, .slice none 0 0]] mixed (by kernel_rfl) ((((hS.pull 4).pull 1).pull 4).pull 4) ?_ ?_
   ·refine ⟨?_, ?_, ?_, ?_, ?_, ?_, ?_, ?_, ?_, trivial⟩
    ·intro Ep4 w l' hE4 hO4 hF_ hS
     refine p (yl_field0 fld_31_4 ((hE4 3 rfl).trans q3v)) <| x_done <| ?_
     refine x_fin ⟨⟨_, rfl⟩, rfl, ?_⟩
     exact emk hS
    ·intro Ep4 w l' hE4 hO4 hF_ hS
     obtain ⟨q6g, -⟩ := hF_
     replace q6g : Ep4 22 = .pointer (some ⟨b3, 4, none⟩) := emk q6g
     replace hS : St w0 w (cells b3 31 [.int .i64 q0a.1, .int .i64 q0b.1, .int .i64 q0c.1, .int .i64 q0f.1, .slice q0m q0n.length c_b3_4_L3h, .slice none 0 0, .slice none 0 0, .slice none 0 0] :: l') := emk hS
     refine pa (at_load one_26 q6g (hS.cell rfl)) <| x_done <| ?_
     refine x_fin ⟨⟨_, rfl⟩, rfl, ?_⟩
     exact emk hS
    ·intro Ep4 w l' hE4 hO4 hF_ hS
     refine p (yl_move ((hE4 0 rfl).trans q79)) <| x_done <| ?_
     refine x_fin ⟨⟨_, rfl⟩, rfl, ?_⟩
     exact emk hS
    ·intro Ep4 w l' hE4 hO4 hF_ hS
     replace hS : St w0 w (cells b3 31 [.int .i64 q0a.1, .int .i64 q0b.1, .int .i64 q0c.1, .int .i64 q0f.1, .slice q0m q0n.length c_b3_4_L3h, .slice none 0 0, .slice none 0 0, .slice none 0 0] :: l') := emk hS
     refine pa (v := .agg #[.int .i64 q0a.1, .int .i64 q0b.1, .int .i64 q0c.1, .int .i64 q0f.1, .slice q0m q0n.length c_b3_4_L3h, .slice none 0 0, .slice none 0 0, .slice none 0 0]) (ld_sub agg_31 ((hE4 3 rfl).trans q3v) rfl rfl hS) <| x_done <| ?_
     refine x_fin ⟨⟨_, rfl⟩, rfl, ?_⟩
     exact emk hS
    ·intro Ep4 w l' hE4 hO4 hF_ hS
     obtain ⟨q6h, q6i, -⟩ := hF_
     replace q6h : Ep4 24 = .pointer (some ⟨q5, 0, none⟩) := emk q6h
     replace q6i : Ep4 25 = .agg #[.int .i64 q0a.1, .int .i64 q0b.1, .int .i64 q0c.1, .int .i64 q0f.1, .slice q0m q0n.length c_b3_4_L3h, .slice none 0 0, .slice none 0 0, .slice none 0 0] := emk q6i
     replace hS : St w0 w (vec 44 R_rules_Wire.sz (.slice q0m q0n.length c_b3_4_L3h) q0n.length q1c :: ro ρ :: cells q5 25 [.slice q6 s0.L.length c_s0_0, .int .i64 q1m] :: l') := emk hS
     have q_ := St.lend ((hS.pull 1).pull 1) q27; obtain ⟨ρl0, hll0, hlf0, hS0, back0⟩ := q_
     have hcall := c_maskmake_Stream_wire q98 (q0o.le hll0) hlf0 (RdS.nil (A := none) (c := 0)) (RdS.nil (A := none) (c := 0)) (RdS.nil (A := none) (c := 0)) (hS0.pull 1)
     refine o_cc call_34 (args2 q6h q6i) hcall ?_
     rintro e w' ⟨rfl, hS⟩
     refine ⟨_, rfl, ?_⟩
     replace hS := back0 (hS.pull 1)
     refine x_done <| ?_
     refine x_fin ⟨⟨_, rfl⟩, rfl, ?_⟩
     exact emk (((hS.pull 2).pull 2).pull 2)
    ·intro Ep4 w l' hE4 hO4 hF_ hS
     obtain ⟨q6j, -⟩ := hF_
     replace q6j : Ep4 26 = .agg #[.int .i64 q0g.1.Net, .int .i64 q0g.1.Layer, .int .i64 q0g.1.X0, .int .i64 q0g.1.Y0, .int .i64 q0g.1.X1, .int .i64 q0g.1.Y1] := emk q6j
     refine o_buildSlice (vs := [.agg #[.int .i64 q0g.1.Net, .int .i64 q0g.1.Layer, .int .i64 q0g.1.X0, .int .i64 q0g.1.Y0, .int .i64 q0g.1.X1, .int .i64 q0g.1.Y1]]) (cs := [.int .i64 q0g.1.Net, .int .i64 q0g.1.Layer, .int .i64 q0g.1.X0, .int .i64 q0g.1.Y0, .int .i64 q0g.1.X1, .int .i64 q0g.1.Y1]) sl_26 zero_44 (parts_eq (pt (va := .agg #[.int .i64 q0g.1.Net, .int .i64 q0g.1.Layer, .int .i64 q0g.1.X0, .int .i64 q0g.1.Y0, .int .i64 q0g.1.X1, .int .i64 q0g.1.Y1]) q6j pt0)) rfl (by intro v hv; simp only [List.mem_cons, List.not_mem_nil, or_false] at hv; first | (subst hv; rfl) | (rcases hv with rfl <;> rfl)) (by decide) rfl hS (fun b27 w' hS => ?_)
     refine x_done <| ?_
     refine x_fin ⟨⟨_, rfl⟩, rfl, ?_⟩
     exact emk hS
    ·intro Ep4 w l' hE4 hO4 hF_ hS
     obtain ⟨q6k, q6l, -⟩ := hF_
     replace q6k : Ep4 23 = .slice q0m q0n.length c_b3_4_L3h := emk q6k
     replace q6l : Ep4 27 = .slice (some ⟨(blkOf (Ep4 27)), 0, none⟩) 1 1 := emk q6l
     replace hS : St w0 w (cells (blkOf (Ep4 27)) 44 [.int .i64 q0g.1.Net, .int .i64 q0g.1.Layer, .int .i64 q0g.1.X0, .int .i64 q0g.1.Y0, .int .i64 q0g.1.X1, .int .i64 q0g.1.Y1] :: ro ρ :: vec 44 R_rules_Wire.sz (.slice q0m q0n.length c_b3_4_L3h) q0n.length q1c :: l') := emk hS
     refine o_ap sl_26 zero_44 rfl (by decide) q6k q6l (hS.pull 2) q27 (src_blk usl_26 hS rfl rfl) (RepL.cons (R := R_rules_Wire) (ρ := ρ) (x := q0g.1) (cs := [.int .i64 q0g.1.Net, .int .i64 q0g.1.Layer, .int .i64 q0g.1.X0, .int .i64 q0g.1.Y0, .int .i64 q0g.1.X1, .int .i64 q0g.1.Y1]) rfl RepL.nil) q99 q9a (fun A28 c28 cs28 w' hr28 hS => ?_)
     refine x_done <| ?_
     refine x_fin ⟨⟨_, rfl⟩, rfl, ?_⟩
     replace hS := St.bun (Φ := (fun (cs28 : List Value) => RepL R_rules_Wire ρ q1l cs28)) (L := (fun (cs28 : List Value) => [vec 44 R_rules_Wire.sz (.slice A28 q1l.length c28) q1l.length cs28])) cs28 hr28 hS
     exact emk ((hS.pull 2).pull 2)
    ·intro Ep4 w l' hE4 hO4 hF_ hS
     refine p (yl_field0 fld_31_4 ((hE4 3 rfl).trans q3v)) <| x_done <| ?_
     refine x_fin ⟨⟨_, rfl⟩, rfl, ?_⟩
     exact emk hS
    ·intro Ep4 w l' hE4 hO4 hF_ hS
     obtain ⟨q6m, q6n, -⟩ := hF_
     replace q6m : Ep4 28 = .slice (adOf (Ep4 28)) q1l.length (capOf (Ep4 28)) := emk q6m
     replace q6n : Ep4 29 = .pointer (some ⟨b3, 4, none⟩) := emk q6n
     replace hS : St w0 w (cells b3 31 [.int .i64 q0a.1, .int .i64 q0b.1, .int .i64 q0c.1, .int .i64 q0f.1, .slice q0m q0n.length c_b3_4_L3h, .slice none 0 0, .slice none 0 0, .slice none 0 0] :: l') := emk hS
     refine o_store1 (v := .slice (adOf (Ep4 28)) q1l.length (capOf (Ep4 28))) one_26 q6n q6m rfl rfl hS (fun w' hS => ?_)
     refine x_done <| ?_
     refine x_fin ⟨⟨undef, rfl⟩, trivial, ?_⟩
     exact emk hS
   intro Ep4 w' hE4 hF_ hS
   obtain ⟨q6g, q6k, q6h, q6i, q6j, q6l, q6m, q6n, -⟩ := hF_
   replace q6g : Ep4 22 = .pointer (some ⟨b3, 4, none⟩) := emk q6g
   replace q6k : Ep4 23 = .slice q0m q0n.length c_b3_4_L3h := emk q6k
   replace q6h : Ep4 24 = .pointer (some ⟨q5, 0, none⟩) := emk q6h
   replace q6i : Ep4 25 = .agg #[.int .i64 q0a.1, .int .i64 q0b.1, .int .i64 q0c.1, .int .i64 q0f.1, .slice q0m q0n.length c_b3_4_L3h, .slice none 0 0, .slice none 0 0, .slice none 0 0] := emk q6i
   replace q6j : Ep4 26 = .agg #[.int .i64 q0g.1.Net, .int .i64 q0g.1.Layer, .int .i64 q0g.1.X0, .int .i64 q0g.1.Y0, .int .i64 q0g.1.X1, .int .i64 q0g.1.Y1] := emk q6j
   replace q6l : Ep4 27 = .slice (some ⟨(blkOf (Ep4 27)), 0, none⟩) 1 1 := emk q6l
   replace q6m : Ep4 28 = .slice (adOf (Ep4 28)) q1l.length (capOf (Ep4 28)) := emk q6m
   replace q6n : Ep4 29 = .pointer (some ⟨b3, 4, none⟩) := emk q6n
   replace hS : St w0 w' (ro ρ :: cells q5 25 [.slice q6 s0.L.length c_s0_0, .int .i64 q0g.2] :: cells (blkOf (Ep4 27)) 44 [.int .i64 q0g.1.Net, .int .i64 q0g.1.Layer, .int .i64 q0g.1.X0, .int .i64 q0g.1.Y0, .int .i64 q0g.1.X1, .int .i64 q0g.1.Y1] :: bunA (fun (cs28 : List Value) => RepL R_rules_Wire ρ q1l cs28) (fun (cs28 : List Value) => [vec 44 R_rules_Wire.sz (.slice (adOf (Ep4 28)) q1l.length (capOf (Ep4 28))) q1l.length cs28]) :: cells b3 31 [.int .i64 q0a.1, .int .i64 q0b.1, .int .i64 q0c.1, .int .i64 q0f.1, .slice (adOf (Ep4 28)) q1l.length (capOf (Ep4 28)), .slice none 0 0, .slice none 0 0, .slice none 0 0] :: (cells b2 31 [.int .i64 0, .int .i64 0, .int .i64 0, .int .i64 0, .slice none 0 0, .slice none 0 0, .slice none 0 0, .slice none 0 0] :: l)) := emk hS
   have q_ := St.unbun (hS.pull 3); obtain ⟨cs28, hr28, hS⟩ := q_
   replace hFL3 := ar_s hFL3; obtain ⟨x30, hx30, hFL3⟩ := hFL3
   refine x_blk <| x_region <| p (yadd ((hE4 20 rfl).trans q7d) rfl hx30) <| p (yl_move rfl) <|
    x_done <| ?_
   have e_ := sinj hFL3; subst e_
   exact x_inv ⟨kL3, Nat.lt_succ_self _, (adOf (Ep4 28)), q1l.length, (capOf (Ep4 28)), cs28, x30, q0g.2, q1l, hLL3, ((hE4 0 rfl).trans q79), ((hE4 2 rfl).trans q7j), ((hE4 3 rfl).trans q3v), ((hE4 19 rfl).trans q7c), rfl, hr28, ((((((hS.pull 3).drop.pull 1).pull 1).pull 3).pull 4).pull 4)⟩
  ·replace hFL3 := it_f hc21 hFL3
   refine x_exitTo _ rfl <| ?_
   have e_ := sinj hFL3; subst e_
   exact x_inv ⟨q0m, q0n.length, c_b3_4_L3h, q1c, q1m, q0n, hLL3, q79, q7j, q3v, q27, (((((hS.pull 4).pull 4).pull 4).pull 4).pull 4)⟩
 rintro E w ⟨q3, q2k, c_b3_4_L3, q0h, q3u, q2, rfl, q7r, q9b, q9c, q2l, hS⟩
 have e_ := St.vec_n (hS.pull 3) q2l; subst e_
 replace hF := bd_s hF; obtain ⟨q62, q9d, hF⟩ := hF
 refine x_seq <| x_seq <| x_region <| p (yl_move q7r) <| ?_
 have hcall := c_maskmake_Stream_Next q9d q0o ((hS.pull 4).pull 1)
 refine o_cc call_9 (args2 rfl rfl) hcall ?_
 rintro e w' ⟨rfl, hS⟩
 refine ⟨_, rfl, ?_⟩
 refine p (yl_move rfl) <| x_done <| ?_
 replace hF := bd_s hF; obtain ⟨oL7, hLL7, hF⟩ := hF
 refine x_join (fun E w => ∃ (q7 : Option Addr) (q2m : Nat) (c_b3_5_L7 : Nat) (q10 : List Value) (q3w : Int) (q8 : List T_rules_Via), (q3w, q8) = oL7 ∧ E 0 = .pointer (some ⟨q5, 0, none⟩) ∧ E 2 = .pointer (some ⟨b2, 0, none⟩) ∧ E 3 = .pointer (some ⟨b3, 0, none⟩) ∧ RepL R_rules_Via ρ q8 q10 ∧ St w0 w (cells q5 25 [.slice q6 s0.L.length c_s0_0, .int .i64 q3w] :: cells b2 31 [.int .i64 0, .int .i64 0, .int .i64 0, .int .i64 0, .slice none 0 0, .slice none 0 0, .slice none 0 0, .slice none 0 0] :: cells b3 31 [.int .i64 q0a.1, .int .i64 q0b.1, .int .i64 q0c.1, .int .i64 q0f.1, .slice q3 q2.length c_b3_4_L3, .slice q7 q2m c_b3_5_L7, .slice none 0 0, .slice none 0 0] :: vec 44 R_rules_Wire.sz (.slice q3 q2.length c_b3_4_L3) q2.length q0h :: vec 47 R_rules_Via.sz (.slice q7 q2m c_b3_5_L7) q2m q10 :: ro ρ :: l)) ?_ ?_
 ·refine x_block ?_
  replace hS := St.vec_nil hS 47 R_rules_Via.sz
  have q6a : RepL R_rules_Via ρ [] [] := rfl
  refine x_loop (fun k_ E w => ∃ (q0e : Option Addr) (q28 : Nat) (c_b3_5_L7h : Nat) (q0z : List Value) (q1v : Int) (q1f : Int) (q0d : List T_rules_Via), lp (P_maskmake_Stream_Layout_L7 s0 q0a q0b q0c q0f q2 q62) k_ (q1v, q1f, q0d) = some oL7 ∧ E 0 = .pointer (some ⟨q5, 0, none⟩) ∧ E 2 = .pointer (some ⟨b2, 0, none⟩) ∧ E 3 = .pointer (some ⟨b3, 0, none⟩) ∧ E 32 = .int .i64 q62.1 ∧ E 33 = .int .i64 q1v ∧ RepL R_rules_Via ρ q0d q0z ∧ St w0 w (cells q5 25 [.slice q6 s0.L.length c_s0_0, .int .i64 q1f] :: cells b2 31 [.int .i64 0, .int .i64 0, .int .i64 0, .int .i64 0, .slice none 0 0, .slice none 0 0, .slice none 0 0, .slice none 0 0] :: cells b3 31 [.int .i64 q0a.1, .int .i64 q0b.1, .int .i64 q0c.1, .int .i64 q0f.1, .slice q3 q2.length c_b3_4_L3, .slice q0e q28 c_b3_5_L7h, .slice none 0 0, .slice none 0 0] :: vec 44 R_rules_Wire.sz (.slice q3 q2.length c_b3_4_L3) q2.length q0h :: vec 47 R_rules_Via.sz (.slice q0e q28 c_b3_5_L7h) q28 q0z :: ro ρ :: l)) fuel ⟨none, 0, 0, [], 0, q62.2, [], hLL7, q7r, q9b, q9c, rfl, rfl, q6a, ((((((hS.pull 2).pull 1).pull 5).pull 5).pull 5).pull 5)⟩ ?_
  rintro kL7 E w ⟨q0e, q28, c_b3_5_L7h, q0z, q1v, q1f, q0d, hLL7, q1u, q6b, q1p, q42, q43, q29, hS⟩
  have e_ := St.vec_n (hS.pull 4) q29; subst e_
  replace hLL7 := lp_s hLL7; obtain ⟨kL7, obL7, rfl, hFL7, hLL7⟩ := hLL7
  refine x_seq <| x_region <| p (yl_lss q43 q42) <| x_done <|
   x_seq <|
   x_cond_p (q1v < q62.1) rfl (fun hc34 => ?_) (fun hc34 => ?_)
  ·replace hFL7 := it_t hc34 hFL7
   refine x_skip <| x_seq <| x_block <| x_seq <|
    x_region <| p (yl_field0 fld_31_2 q1p) <| pa (at_load one_3 rfl ((hS.pull 2).cell rfl)) <| p (yl_gtr rfl rfl) <|
    x_done <| ?_
   replace hFL7 := bd_s hFL7; obtain ⟨oc37, hFc37, hFL7⟩ := hFL7
   refine x_join (fun E w => ∃ (q2a : Option Addr) (q2b : Nat) (c_b3_5_c37 : Nat) (q1z : List Value) (q2c : Int) (q2i : List T_rules_Via), (q2c, q2i) = oc37 ∧ E 0 = .pointer (some ⟨q5, 0, none⟩) ∧ E 2 = .pointer (some ⟨b2, 0, none⟩) ∧ E 3 = .pointer (some ⟨b3, 0, none⟩) ∧ E 32 = .int .i64 q62.1 ∧ E 33 = .int .i64 q1v ∧ RepL R_rules_Via ρ q2i q1z ∧ St w0 w (cells q5 25 [.slice q6 s0.L.length c_s0_0, .int .i64 q2c] :: cells b2 31 [.int .i64 0, .int .i64 0, .int .i64 0, .int .i64 0, .slice none 0 0, .slice none 0 0, .slice none 0 0, .slice none 0 0] :: cells b3 31 [.int .i64 q0a.1, .int .i64 q0b.1, .int .i64 q0c.1, .int .i64 q0f.1, .slice q3 q2.length c_b3_4_L3, .slice q2a q2b c_b3_5_c37, .slice none 0 0, .slice none 0 0] :: vec 44 R_rules_Wire.sz (.slice q3 q2.length c_b3_4_L3) q2.length q0h :: vec 47 R_rules_Via.sz (.slice q2a q2b c_b3_5_c37) q2b q1z :: ro ρ :: l)) ?_ ?_
   ·refine x_cond_p (1 < q0c.1) rfl (fun hc37 => ?_) (fun hc37 => ?_)
    ·replace hFc37 := it_t hc37 hFc37
     refine x_seq <| ?_
     replace hFc37 := bd_s hFc37; obtain ⟨q1k, q9e, hFc37⟩ := hFc37
     replace hFc37 := ar_s hFc37; obtain ⟨x45, hx45, hFc37⟩ := hFc37
     replace hFc37 := bd_s hFc37; obtain ⟨q13, q9f, hFc37⟩ := hFc37
     replace hFc37 := bd_s hFc37; obtain ⟨q15, q88, hFc37⟩ := hFc37
     replace hFc37 := bd_s hFc37; obtain ⟨q12, q89, hFc37⟩ := hFc37
     refine x_par (w0 := w0) [⟨[], [], [38], [], [], [], none⟩, ⟨[], [], [39], [], [], [], none⟩, ⟨[1], [1], [40], [0], [], [], none⟩, ⟨[0, 1, 2], [0, 2], [41], [2], [1], [3], none⟩, ⟨[], [], [42], [], [], [], none⟩, ⟨[], [], [43], [], [], [], none⟩, ⟨[5], [5], [44], [0], [], [], none⟩, ⟨[5, 6], [6], [45], [], [], [], none⟩, ⟨[0, 1, 2, 3, 4, 5, 6, 7], [4, 7], [46], [2], [3], [4], none⟩, ⟨[], [], [47], [], [], [], none⟩, ⟨[], [], [48], [], [], [], none⟩, ⟨[10], [10], [49], [0], [], [], none⟩, ⟨[0, 1, 2, 3, 4, 5, 6, 7, 8, 9, 10, 11], [9, 11], [50], [2], [4], [5], none⟩, ⟨[], [], [51], [], [], [], none⟩, ⟨[], [], [52], [], [], [], none⟩, ⟨[14], [14], [53], [0], [], [], none⟩, ⟨[0, 1, 2, 3, 4, 5, 6, 7, 8, 9, 10, 11, 12, 13, 14, 15], [13, 15], [54], [2], [5], [6], none⟩, ⟨[0, 1, 2, 3, 4, 5, 6, 7, 8, 9, 10, 11, 12, 13, 14, 15, 16], [3, 8, 12, 16], [55], [], [], [], none⟩, ⟨[], [], [4], [], [], [7], none⟩, ⟨[0, 1, 2, 3, 4, 5, 6, 7, 8, 9, 10, 11, 12, 13, 14, 15, 16, 17, 18], [17, 18], [], [], [7], [8], none⟩] [⟨none, none, []⟩, ⟨none, (some 3), []⟩, ⟨none, none, []⟩, ⟨(some 3), (some 8), []⟩, ⟨(some 8), (some 12), []⟩, ⟨(some 12), (some 16), []⟩, ⟨(some 16), none, []⟩, ⟨(some 18), (some 19), [4]⟩, ⟨(some 19), none, [4]⟩] [4, 38, 39, 40, 41, 42, 43, 44, 45, 46, 47, 48, 49, 50, 51, 52, 53, 54, 55] [0, 1, 2] [0, 2, 6, 8] [0, 1, 2, 3, 4, 5, 6, 7, 8, 9, 10, 11, 12, 13, 14, 15, 16, 17, 18] [fun Ep9 => Ep9 38 = .pointer (some ⟨q5, 0, none⟩), fun Ep9 => Ep9 39 = .pointer (some ⟨b3, 3, none⟩), fun Ep9 => Ep9 40 = .int .i64 q0f.1, fun Ep9 => Ep9 41 = .int .i64 q1k.1, fun Ep9 => Ep9 42 = .pointer (some ⟨q5, 0, none⟩), fun Ep9 => Ep9 43 = .pointer (some ⟨b3, 2, none⟩), fun Ep9 => Ep9 44 = .int .i64 q0c.1, fun Ep9 => Ep9 45 = .int .i64 x45, fun Ep9 => Ep9 46 = .int .i64 q13.1, fun Ep9 => Ep9 47 = .pointer (some ⟨q5, 0, none⟩), fun Ep9 => Ep9 48 = .pointer (some ⟨b3, 0, none⟩), fun Ep9 => Ep9 49 = .int .i64 q0a.1, fun Ep9 => Ep9 50 = .int .i64 q15.1, fun Ep9 => Ep9 51 = .pointer (some ⟨q5, 0, none⟩), fun Ep9 => Ep9 52 = .pointer (some ⟨b3, 1, none⟩), fun Ep9 => Ep9 53 = .int .i64 q0b.1, fun Ep9 => Ep9 54 = .int .i64 q12.1, fun Ep9 => Ep9 55 = .agg #[.int .i64 q1k.1, .int .i64 q13.1, .int .i64 q15.1, .int .i64 q12.1], fun Ep9 => Ep9 4 = .pointer (some ⟨(blkOf (Ep9 4)), 0, none⟩), fun Ep9 => True] [fun Ep9 => cells b3 31 [.int .i64 q0a.1, .int .i64 q0b.1, .int .i64 q0c.1, .int .i64 q0f.1, .slice q3 q2.length c_b3_4_L3, .slice q0e q0d.length c_b3_5_L7h, .slice none 0 0, .slice none 0 0], fun Ep9 => cells q5 25 [.slice q6 s0.L.length c_s0_0, .int .i64 q1f], fun Ep9 => ro ρ, fun Ep9 => cells q5 25 [.slice q6 s0.L.length c_s0_0, .int .i64 q1k.2], fun Ep9 => cells q5 25 [.slice q6 s0.L.length c_s0_0, .int .i64 q13.2], fun Ep9 => cells q5 25 [.slice q6 s0.L.length c_s0_0, .int .i64 q15.2], fun Ep9 => cells q5 25 [.slice q6 s0.L.length c_s0_0, .int .i64 q12.2], fun Ep9 => cells (blkOf (Ep9 4)) 47 [.int .i64 0, .int .i64 0, .int .i64 0, .int .i64 0], fun Ep9 => cells (blkOf (Ep9 4)) 47 [.int .i64 q1k.1, .int .i64 q13.1, .int .i64 q15.1, .int .i64 q12.1]] mixed (by kernel_rfl) (((hS.pull 5).pull 1).pull 3) ?_ ?_
     ·refine ⟨?_, ?_, ?_, ?_, ?_, ?_, ?_, ?_, ?_, ?_, ?_, ?_, ?_, ?_, ?_, ?_, ?_, ?_, ?_, ?_, trivial⟩
      ·intro Ep9 w l' hE9 hO9 hF_ hS
       refine p (yl_move ((hE9 0 rfl).trans q1u)) <| x_done <| ?_
       refine x_fin ⟨⟨_, rfl⟩, rfl, ?_⟩
       exact emk hS
      ·intro Ep9 w l' hE9 hO9 hF_ hS
       refine p (yl_field0 fld_31_3 ((hE9 3 rfl).trans q1p)) <| x_done <| ?_
       refine x_fin ⟨⟨_, rfl⟩, rfl, ?_⟩
       exact emk hS
      ·intro Ep9 w l' hE9 hO9 hF_ hS
       obtain ⟨q6o, -⟩ := hF_
       replace q6o : Ep9 39 = .pointer (some ⟨b3, 3, none⟩) := emk q6o
       replace hS : St w0 w (cells b3 31 [.int .i64 q0a.1, .int .i64 q0b.1, .int .i64 q0c.1, .int .i64 q0f.1, .slice q3 q2.length c_b3_4_L3, .slice q0e q0d.length c_b3_5_L7h, .slice none 0 0, .slice none 0 0] :: l') := emk hS
       refine pa (at_load one_3 q6o (hS.cell rfl)) <| x_done <| ?_
       refine x_fin ⟨⟨_, rfl⟩, rfl, ?_⟩
       exact emk hS
      ·intro Ep9 w l' hE9 hO9 hF_ hS
       obtain ⟨q6p, q6q, -⟩ := hF_
       replace q6p : Ep9 38 = .pointer (some ⟨q5, 0, none⟩) := emk q6p
       replace q6q : Ep9 40 = .int .i64 q0f.1 := emk q6q
       replace hS : St w0 w (ro ρ :: cells q5 25 [.slice q6 s0.L.length c_s0_0, .int .i64 q1f] :: l') := emk hS
       have hcall := c_maskmake_Stream_Next q9e q0o (hS.pull 1)
       refine o_cc call_9 (args2 q6p q6q) hcall ?_
       rintro e w' ⟨rfl, hS⟩
       refine ⟨_, rfl, ?_⟩
       refine x_done <| ?_
       refine x_fin ⟨⟨_, rfl⟩, rfl, ?_⟩
       exact emk (hS.pull 1)
      ·intro Ep9 w l' hE9 hO9 hF_ hS
       refine p (yl_move ((hE9 0 rfl).trans q1u)) <| x_done <| ?_
       refine x_fin ⟨⟨_, rfl⟩, rfl, ?_⟩
       exact emk hS
      ·intro Ep9 w l' hE9 hO9 hF_ hS
       refine p (yl_field0 fld_31_2 ((hE9 3 rfl).trans q1p)) <| x_done <| ?_
       refine x_fin ⟨⟨_, rfl⟩, rfl, ?_⟩
       exact emk hS
      ·intro Ep9 w l' hE9 hO9 hF_ hS
       obtain ⟨q6r, -⟩ := hF_
       replace q6r : Ep9 43 = .pointer (some ⟨b3, 2, none⟩) := emk q6r
       replace hS : St w0 w (cells b3 31 [.int .i64 q0a.1, .int .i64 q0b.1, .int .i64 q0c.1, .int .i64 q0f.1, .slice q3 q2.length c_b3_4_L3, .slice q0e q0d.length c_b3_5_L7h, .slice none 0 0, .slice none 0 0] :: l') := emk hS
       refine pa (at_load one_3 q6r (hS.cell rfl)) <| x_done <| ?_
       refine x_fin ⟨⟨_, rfl⟩, rfl, ?_⟩
       exact emk hS
      ·intro Ep9 w l' hE9 hO9 hF_ hS
       obtain ⟨q6s, -⟩ := hF_
       replace q6s : Ep9 44 = .int .i64 q0c.1 := emk q6s
       refine p (ysub q6s rfl hx45) <| x_done <| ?_
       refine x_fin ⟨⟨_, rfl⟩, rfl, ?_⟩
       exact emk hS
      ·intro Ep9 w l' hE9 hO9 hF_ hS
       obtain ⟨q6t, q6u, -⟩ := hF_
       replace q6t : Ep9 42 = .pointer (some ⟨q5, 0, none⟩) := emk q6t
       replace q6u : Ep9 45 = .int .i64 x45 := emk q6u
       replace hS : St w0 w (ro ρ :: cells q5 25 [.slice q6 s0.L.length c_s0_0, .int .i64 q1k.2] :: l') := emk hS
       have hcall := c_maskmake_Stream_Next q9f q0o (hS.pull 1)
       refine o_cc call_9 (args2 q6t q6u) hcall ?_
       rintro e w' ⟨rfl, hS⟩
       refine ⟨_, rfl, ?_⟩
       refine x_done <| ?_
       refine x_fin ⟨⟨_, rfl⟩, rfl, ?_⟩
       exact emk (hS.pull 1)
      ·intro Ep9 w l' hE9 hO9 hF_ hS
       refine p (yl_move ((hE9 0 rfl).trans q1u)) <| x_done <| ?_
       refine x_fin ⟨⟨_, rfl⟩, rfl, ?_⟩
       exact emk hS
      ·intro Ep9 w l' hE9 hO9 hF_ hS
       refine p (yl_field0 fld_31_0 ((hE9 3 rfl).trans q1p)) <| x_done <| ?_
       refine x_fin ⟨⟨_, rfl⟩, rfl, ?_⟩
       exact emk hS
      ·intro Ep9 w l' hE9 hO9 hF_ hS
       obtain ⟨q44, -⟩ := hF_
       replace q44 : Ep9 48 = .pointer (some ⟨b3, 0, none⟩) := emk q44
       replace hS : St w0 w (cells b3 31 [.int .i64 q0a.1, .int .i64 q0b.1, .int .i64 q0c.1, .int .i64 q0f.1, .slice q3 q2.length c_b3_4_L3, .slice q0e q0d.length c_b3_5_L7h, .slice none 0 0, .slice none 0 0] :: l') := emk hS
       refine pa (at_load one_3 q44 (hS.cell rfl)) <| x_done <| ?_
       refine x_fin ⟨⟨_, rfl⟩, rfl, ?_⟩
       exact emk hS
      ·intro Ep9 w l' hE9 hO9 hF_ hS
       obtain ⟨q6v, q45, -⟩ := hF_
       replace q6v : Ep9 47 = .pointer (some ⟨q5, 0, none⟩) := emk q6v
       replace q45 : Ep9 49 = .int .i64 q0a.1 := emk q45
       replace hS : St w0 w (ro ρ :: cells q5 25 [.slice q6 s0.L.length c_s0_0, .int .i64 q13.2] :: l') := emk hS
       have hcall := c_maskmake_Stream_Next q88 q0o (hS.pull 1)
       refine o_cc call_9 (args2 q6v q45) hcall ?_
       rintro e w' ⟨rfl, hS⟩
       refine ⟨_, rfl, ?_⟩
       refine x_done <| ?_
       refine x_fin ⟨⟨_, rfl⟩, rfl, ?_⟩
       exact emk (hS.pull 1)
      ·intro Ep9 w l' hE9 hO9 hF_ hS
       refine p (yl_move ((hE9 0 rfl).trans q1u)) <| x_done <| ?_
       refine x_fin ⟨⟨_, rfl⟩, rfl, ?_⟩
       exact emk hS
      ·intro Ep9 w l' hE9 hO9 hF_ hS
       refine p (yl_field0 fld_31_1 ((hE9 3 rfl).trans q1p)) <| x_done <| ?_
       refine x_fin ⟨⟨_, rfl⟩, rfl, ?_⟩
       exact emk hS
      ·intro Ep9 w l' hE9 hO9 hF_ hS
       obtain ⟨q46, -⟩ := hF_
       replace q46 : Ep9 52 = .pointer (some ⟨b3, 1, none⟩) := emk q46
       replace hS : St w0 w (cells b3 31 [.int .i64 q0a.1, .int .i64 q0b.1, .int .i64 q0c.1, .int .i64 q0f.1, .slice q3 q2.length c_b3_4_L3, .slice q0e q0d.length c_b3_5_L7h, .slice none 0 0, .slice none 0 0] :: l') := emk hS
       refine pa (at_load one_3 q46 (hS.cell rfl)) <| x_done <| ?_
       refine x_fin ⟨⟨_, rfl⟩, rfl, ?_⟩
       exact emk hS
      ·intro Ep9 w l' hE9 hO9 hF_ hS
       obtain ⟨q47, q48, -⟩ := hF_
       replace q47 : Ep9 51 = .pointer (some ⟨q5, 0, none⟩) := emk q47
       replace q48 : Ep9 53 = .int .i64 q0b.1 := emk q48
       replace hS : St w0 w (ro ρ :: cells q5 25 [.slice q6 s0.L.length c_s0_0, .int .i64 q15.2] :: l') := emk hS
       have hcall := c_maskmake_Stream_Next q89 q0o (hS.pull 1)
       refine o_cc call_9 (args2 q47 q48) hcall ?_
       rintro e w' ⟨rfl, hS⟩
       refine ⟨_, rfl, ?_⟩
       refine x_done <| ?_
       refine x_fin ⟨⟨_, rfl⟩, rfl, ?_⟩
       exact emk (hS.pull 1)
      ·intro Ep9 w l' hE9 hO9 hF_ hS
       obtain ⟨q6w, q6x, q49, q4a, -⟩ := hF_
       replace q6w : Ep9 41 = .int .i64 q1k.1 := emk q6w
       replace q6x : Ep9 46 = .int .i64 q13.1 := emk q6x
       replace q49 : Ep9 50 = .int .i64 q15.1 := emk q49
       replace q4a : Ep9 54 = .int .i64 q12.1 := emk q4a
       refine p (v := .agg #[.int .i64 q1k.1, .int .i64 q13.1, .int .i64 q15.1, .int .i64 q12.1]) (yl_build bld_47 bldf_47 (parts_eq (pt (va := .int .i64 q1k.1) q6w (pt (va := .int .i64 q13.1) q6x (pt (va := .int .i64 q15.1) q49 (pt (va := .int .i64 q12.1) q4a pt0))))) (by kernel_rfl)) <| x_done <| ?_
       refine x_fin ⟨⟨_, rfl⟩, rfl, ?_⟩
       exact emk hS
      ·intro Ep9 w l' hE9 hO9 hF_ hS
       refine o_alloc zero_47 hS (fun q9j w' hS => ?_)
       refine x_done <| ?_
       refine x_fin ⟨⟨_, rfl⟩, rfl, ?_⟩
       exact emk hS
      ·intro Ep9 w l' hE9 hO9 hF_ hS
       obtain ⟨q4b, q2n, -⟩ := hF_
       replace q4b : Ep9 55 = .agg #[.int .i64 q1k.1, .int .i64 q13.1, .int .i64 q15.1, .int .i64 q12.1] := emk q4b
       replace q2n : Ep9 4 = .pointer (some ⟨(blkOf (Ep9 4)), 0, none⟩) := emk q2n
       replace hS : St w0 w (cells (blkOf (Ep9 4)) 47 [.int .i64 0, .int .i64 0, .int .i64 0, .int .i64 0] :: l') := emk hS
       refine o_storeAgg (news := [.int .i64 q1k.1, .int .i64 q13.1, .int .i64 q15.1, .int .i64 q12.1]) agg_47 q2n q4b rfl (by simp [over_length]) hS (fun w' hS => ?_)
       refine x_done <| ?_
       refine x_fin ⟨⟨undef, rfl⟩, trivial, ?_⟩
       exact emk hS
     intro Ep9 w' hE9 hF_ hS
     obtain ⟨q6p, q6o, q6q, q6w, q6t, q6r, q6s, q6u, q6x, q6v, q44, q45, q49, q47, q46, q48, q4a, q4b, q2n, -⟩ := hF_
     replace q6p : Ep9 38 = .pointer (some ⟨q5, 0, none⟩) := emk q6p
     replace q6o : Ep9 39 = .pointer (some ⟨b3, 3, none⟩) := emk q6o
     replace q6q : Ep9 40 = .int .i64 q0f.1 := emk q6q
     replace q6w : Ep9 41 = .int .i64 q1k.1 := emk q6w
     replace q6t : Ep9 42 = .pointer (some ⟨q5, 0, none⟩) := emk q6t
     replace q6r : Ep9 43 = .pointer (some ⟨b3, 2, none⟩) := emk q6r
     replace q6s : Ep9 44 = .int .i64 q0c.1 := emk q6s
     replace q6u : Ep9 45 = .int .i64 x45 := emk q6u
     replace q6x : Ep9 46 = .int .i64 q13.1 := emk q6x
     replace q6v : Ep9 47 = .pointer (some ⟨q5, 0, none⟩) := emk q6v
     replace q44 : Ep9 48 = .pointer (some ⟨b3, 0, none⟩) := emk q44
     replace q45 : Ep9 49 = .int .i64 q0a.1 := emk q45
     replace q49 : Ep9 50 = .int .i64 q15.1 := emk q49
     replace q47 : Ep9 51 = .pointer (some ⟨q5, 0, none⟩) := emk q47
     replace q46 : Ep9 52 = .pointer (some ⟨b3, 1, none⟩) := emk q46
     replace q48 : Ep9 53 = .int .i64 q0b.1 := emk q48
     replace q4a : Ep9 54 = .int .i64 q12.1 := emk q4a
     replace q4b : Ep9 55 = .agg #[.int .i64 q1k.1, .int .i64 q13.1, .int .i64 q15.1, .int .i64 q12.1] := emk q4b
     replace q2n : Ep9 4 = .pointer (some ⟨(blkOf (Ep9 4)), 0, none⟩) := emk q2n
     replace hS : St w0 w' (cells b3 31 [.int .i64 q0a.1, .int .i64 q0b.1, .int .i64 q0c.1, .int .i64 q0f.1, .slice q3 q2.length c_b3_4_L3, .slice q0e q0d.length c_b3_5_L7h, .slice none 0 0, .slice none 0 0] :: ro ρ :: cells q5 25 [.slice q6 s0.L.length c_s0_0, .int .i64 q12.2] :: cells (blkOf (Ep9 4)) 47 [.int .i64 q1k.1, .int .i64 q13.1, .int .i64 q15.1, .int .i64 q12.1] :: (cells b2 31 [.int .i64 0, .int .i64 0, .int .i64 0, .int .i64 0, .slice none 0 0, .slice none 0 0, .slice none 0 0, .slice none 0 0] :: vec 44 R_rules_Wire.sz (.slice q3 q2.length c_b3_4_L3) q2.length q0h :: vec 47 R_rules_Via.sz (.slice q0e q0d.length c_b3_5_L7h) q0d.length q0z :: l)) := emk hS
     refine x_seq <| x_seq <| x_region <| p (yl_field0 fld_31_4 ((hE9 3 rfl).trans q1p)) <|
      pa (at_load one_26 rfl (hS.cell rfl)) <| p (yl_len_slice usl_26 rfl) <| p (yl_gtr rfl rfl) <| p (yl_move rfl) <|
      pg (v := .pointer (some ⟨q5, 0, none⟩)) 60 (c := decide (0 < (q2.length : Int))) (says_t _) (fun hq => Yl.at (yl_move ((hE9 0 rfl).trans q1u))) <| ?_
     replace hFc37 := bd_s hFc37; obtain ⟨q8a, q1h, hFc37⟩ := hFc37
     refine x_join_ops (fun E w => ∃ (q9 : Nat) (q2o : Bool) (q1d : Int), (q2o, q1d) = q8a ∧ E 0 = .pointer (some ⟨q5, 0, none⟩) ∧ E 2 = .pointer (some ⟨b2, 0, none⟩) ∧ E 3 = .pointer (some ⟨b3, 0, none⟩) ∧ E 4 = .pointer (some ⟨q9, 0, none⟩) ∧ E 32 = .int .i64 q62.1 ∧ E 33 = .int .i64 q1v ∧ E 64 = .bool q2o ∧ St w0 w (cells q5 25 [.slice q6 s0.L.length c_s0_0, .int .i64 q1d] :: cells b2 31 [.int .i64 0, .int .i64 0, .int .i64 0, .int .i64 0, .slice none 0 0, .slice none 0 0, .slice none 0 0, .slice none 0 0] :: cells b3 31 [.int .i64 q0a.1, .int .i64 q0b.1, .int .i64 q0c.1, .int .i64 q0f.1, .slice q3 q2.length c_b3_4_L3, .slice q0e q0d.length c_b3_5_L7h, .slice none 0 0, .slice none 0 0] :: cells q9 47 [.int .i64 q1k.1, .int .i64 q13.1, .int .i64 q15.1, .int .i64 q12.1] :: vec 44 R_rules_Wire.sz (.slice q3 q2.length c_b3_4_L3) q2.length q0h :: vec 47 R_rules_Via.sz (.slice q0e q0d.length c_b3_5_L7h) q0d.length q0z :: ro ρ :: l)) ?_ ?_
     ·refine x_split (decide (0 < (q2.length : Int))) (fun q1q => ?_) (fun q1q => ?_)
      ·replace q1h := it_t q1q q1h
       replace q1h := bd_s q1h; obtain ⟨q7s, q8b, q1h⟩ := q1h
       refine o_strip 60 true (says_lit (c := true) (Eq.trans (show _ = Value.bool (decide (0 < (q2.length : Int))) from rfl) (congrArg Value.bool q1q)) rfl) <| ?_
       have hcall := c_maskmake_Stream_Next q8b q0o ((hS.pull 1).pull 2)
       refine o_cc call_9 (args2 (Eq.trans (show _ = (bif decide (0 < (q2.length : Int)) then .pointer (some ⟨q5, 0, none⟩) else undef) from rfl) (cv q1q)) rfl) hcall ?_
       rintro e w' ⟨rfl, hS⟩
       refine ⟨_, rfl, ?_⟩
       refine o_strip 60 true (says_lit (c := true) (Eq.trans (show _ = Value.bool (decide (0 < (q2.length : Int))) from rfl) (congrArg Value.bool q1q)) rfl) <| p (yl_gtr rfl rfl) <| p (yl_pick (b := true) (Eq.trans (show _ = Value.bool (decide (0 < (q2.length : Int))) from rfl) (congrArg Value.bool q1q)) (fun h => rfl) (fun h => nomatch h)) <| x_done <| ?_
       exact x_inv ⟨(blkOf (Ep9 4)), decide (0 < q7s.1), q7s.2, (sinj q1h), ((hE9 0 rfl).trans q1u), ((hE9 2 rfl).trans q6b), ((hE9 3 rfl).trans q1p), q2n, ((hE9 32 rfl).trans q42), ((hE9 33 rfl).trans q43), rfl, (((((((hS.pull 1).pull 6).pull 6).pull 5).pull 5).pull 6).pull 6)⟩
      ·replace q1h := it_bf q1q q1h
       refine o_pass 62 60 true (says_lit (c := false) (Eq.trans (show _ = Value.bool (decide (0 < (q2.length : Int))) from rfl) (congrArg Value.bool q1q)) rfl) <| o_pass 63 60 true (says_lit (c := false) (Eq.trans (show _ = Value.bool (decide (0 < (q2.length : Int))) from rfl) (congrArg Value.bool q1q)) rfl) <| p (yl_pick (b := false) (Eq.trans (show _ = Value.bool (decide (0 < (q2.length : Int))) from rfl) (congrArg Value.bool q1q)) (fun h => nomatch h) (fun h => rfl)) <| x_done <| ?_
       exact x_inv ⟨(blkOf (Ep9 4)), false, q12.2, (sinj q1h), ((hE9 0 rfl).trans q1u), ((hE9 2 rfl).trans q6b), ((hE9 3 rfl).trans q1p), q2n, ((hE9 32 rfl).trans q42), ((hE9 33 rfl).trans q43), rfl, (((((((hS.pull 1).pull 6).pull 6).pull 5).pull 4).pull 6).pull 6)⟩
     rintro E w ⟨q9, q2o, q1d, rfl, q1w, q7a, q2j, q1x, q70, q71, q7k, hS⟩
     replace hFc37 := bd_s hFc37; obtain ⟨oc64, hFc64, hFc37⟩ := hFc37
     refine x_join (fun E w => ∃ (q2d : Int) (q0p : Int) (q0q : Int) (q0r : Int) (q0s : Int), (q2d, q0p, q0q, q0r, q0s) = oc64 ∧ E 0 = .pointer (some ⟨q5, 0, none⟩) ∧ E 2 = .pointer (some ⟨b2, 0, none⟩) ∧ E 3 = .pointer (some ⟨b3, 0, none⟩) ∧ E 4 = .pointer (some ⟨q9, 0, none⟩) ∧ E 32 = .int .i64 q62.1 ∧ E 33 = .int .i64 q1v ∧ St w0 w (cells q5 25 [.slice q6 s0.L.length c_s0_0, .int .i64 q2d] :: cells b2 31 [.int .i64 0, .int .i64 0, .int .i64 0, .int .i64 0, .slice none 0 0, .slice none 0 0, .slice none 0 0, .slice none 0 0] :: cells b3 31 [.int .i64 q0a.1, .int .i64 q0b.1, .int .i64 q0c.1, .int .i64 q0f.1, .slice q3 q2.length c_b3_4_L3, .slice q0e q0d.length c_b3_5_L7h, .slice none 0 0, .slice none 0 0] :: cells q9 47 [.int .i64 q0p, .int .i64 q0q, .int .i64 q0r, .int .i64 q0s] :: vec 44 R_rules_Wire.sz (.slice q3 q2.length c_b3_4_L3) q2.length q0h :: vec 47 R_rules_Via.sz (.slice q0e q0d.length c_b3_5_L7h) q0d.length q0z :: ro ρ :: l)) ?_ ?_
     ·refine x_cond (t := q2o) q7k (fun hc64 => ?_) (fun hc64 => ?_)
      ·replace hFc64 := it_t hc64 hFc64
       refine x_seq <| ?_
       replace hFc64 := bd_s hFc64; obtain ⟨q20, q8c, hFc64⟩ := hFc64
       replace hFc64 := ck_s hFc64; obtain ⟨q7l, hFc64⟩ := hFc64
       replace hFc64 := lv_s hFc64; obtain ⟨q4, q8d, hFc64⟩ := hFc64
       refine x_par (w0 := w0) [⟨[], [], [65], [], [], [], none⟩, ⟨[0], [0], [66], [0], [], [], none⟩, ⟨[], [], [67], [], [], [], none⟩, ⟨[], [], [68], [], [], [], none⟩, ⟨[3], [3], [69], [0], [], [], none⟩, ⟨[3, 4], [4], [70], [], [], [], none⟩, ⟨[2, 3, 4, 5], [2, 5], [71], [2], [1], [3], none⟩, ⟨[0, 1, 2, 3, 4, 5, 6], [1, 6], [72], [4], [], [], none⟩, ⟨[0, 1, 2, 3, 4, 5, 6, 7], [7], [73], [4], [], [], none⟩, ⟨[], [], [5], [], [], [5], none⟩, ⟨[0, 1, 2, 3, 4, 5, 6, 7, 8, 9], [8, 9], [], [], [5], [6], none⟩] [⟨none, none, []⟩, ⟨none, (some 6), []⟩, ⟨none, none, []⟩, ⟨(some 6), none, []⟩, ⟨none, none, []⟩, ⟨(some 9), (some 10), [5]⟩, ⟨(some 10), none, [5]⟩] [5, 65, 66, 67, 68, 69, 70, 71, 72, 73] [0, 1, 2, 4] [0, 2, 3, 4, 6] [0, 1, 2, 3, 4, 5, 6, 7, 8, 9] [fun Ep11 => Ep11 65 = .pointer (some ⟨b3, 4, none⟩), fun Ep11 => Ep11 66 = .slice q3 q2.length c_b3_4_L3, fun Ep11 => Ep11 67 = .pointer (some ⟨q5, 0, none⟩), fun Ep11 => Ep11 68 = .pointer (some ⟨b3, 4, none⟩), fun Ep11 => Ep11 69 = .slice q3 q2.length c_b3_4_L3, fun Ep11 => Ep11 70 = .int .i64 (q2.length : Int), fun Ep11 => Ep11 71 = .int .i64 q20.1, fun Ep11 => Ep11 72 = .pointer (some ((adr q3).add (q20.1.toNat * R_rules_Wire.sz))), fun Ep11 => Ep11 73 = .agg #[.int .i64 q4.Net, .int .i64 q4.Layer, .int .i64 q4.X0, .int .i64 q4.Y0, .int .i64 q4.X1, .int .i64 q4.Y1], fun Ep11 => Ep11 5 = .pointer (some ⟨(blkOf (Ep11 5)), 0, none⟩), fun Ep11 => True] [fun Ep11 => cells b3 31 [.int .i64 q0a.1, .int .i64 q0b.1, .int .i64 q0c.1, .int .i64 q0f.1, .slice q3 q2.length c_b3_4_L3, .slice q0e q0d.length c_b3_5_L7h, .slice none 0 0, .slice none 0 0], fun Ep11 => cells q5 25 [.slice q6 s0.L.length c_s0_0, .int .i64 q1d], fun Ep11 => ro ρ, fun Ep11 => cells q5 25 [.slice q6 s0.L.length c_s0_0, .int .i64 q20.2], fun Ep11 => vec 44 R_rules_Wire.sz (.slice q3 q2.length c_b3_4_L3) q2.length q0h, fun Ep11 => cells (blkOf (Ep11 5)) 44 [.int .i64 0, .int .i64 0, .int .i64 0, .int .i64 0, .int .i64 0, .int .i64 0], fun Ep11 => cells (blkOf (Ep11 5)) 44 [.int .i64 q4.Net, .int .i64 q4.Layer, .int .i64 q4.X0, .int .i64 q4.Y0, .int .i64 q4.X1, .int .i64 q4.Y1]] mixed (by kernel_rfl) ((((hS.pull 4).pull 6).pull 2).pull 4) ?_ ?_
       ·refine ⟨?_, ?_, ?_, ?_, ?_, ?_, ?_, ?_, ?_, ?_, ?_, trivial⟩
        ·intro Ep11 w l' hE11 hO11 hF_ hS
         refine p (yl_field0 fld_31_4 ((hE11 3 rfl).trans q2j)) <| x_done <| ?_
         refine x_fin ⟨⟨_, rfl⟩, rfl, ?_⟩
         exact emk hS
        ·intro Ep11 w l' hE11 hO11 hF_ hS
         obtain ⟨q4c, -⟩ := hF_
         replace q4c : Ep11 65 = .pointer (some ⟨b3, 4, none⟩) := emk q4c
         replace hS : St w0 w (cells b3 31 [.int .i64 q0a.1, .int .i64 q0b.1, .int .i64 q0c.1, .int .i64 q0f.1, .slice q3 q2.length c_b3_4_L3, .slice q0e q0d.length c_b3_5_L7h, .slice none 0 0, .slice none 0 0] :: l') := emk hS
         refine pa (at_load one_26 q4c (hS.cell rfl)) <| x_done <| ?_
         refine x_fin ⟨⟨_, rfl⟩, rfl, ?_⟩
         exact emk hS
        ·intro Ep11 w l' hE11 hO11 hF_ hS
         refine p (yl_move ((hE11 0 rfl).trans q1w)) <| x_done <| ?_
         refine x_fin ⟨⟨_, rfl⟩, rfl, ?_⟩
         exact emk hS
        ·intro Ep11 w l' hE11 hO11 hF_ hS
         refine p (yl_field0 fld_31_4 ((hE11 3 rfl).trans q2j)) <| x_done <| ?_
         refine x_fin ⟨⟨_, rfl⟩, rfl, ?_⟩
         exact emk hS
        ·intro Ep11 w l' hE11 hO11 hF_ hS
         obtain ⟨q4d, -⟩ := hF_
         replace q4d : Ep11 68 = .pointer (some ⟨b3, 4, none⟩) := emk q4d
         replace hS : St w0 w (cells b3 31 [.int .i64 q0a.1, .int .i64 q0b.1, .int .i64 q0c.1, .int .i64 q0f.1, .slice q3 q2.length c_b3_4_L3, .slice q0e q0d.length c_b3_5_L7h, .slice none 0 0, .slice none 0 0] :: l') := emk hS
         refine pa (at_load one_26 q4d (hS.cell rfl)) <| x_done <| ?_
         refine x_fin ⟨⟨_, rfl⟩, rfl, ?_⟩
         exact emk hS
        ·intro Ep11 w l' hE11 hO11 hF_ hS
         obtain ⟨q4e, -⟩ := hF_
         replace q4e : Ep11 69 = .slice q3 q2.length c_b3_4_L3 := emk q4e
         refine p (yl_len_slice usl_26 q4e) <| x_done <| ?_
         refine x_fin ⟨⟨_, rfl⟩, rfl, ?_⟩
         exact emk hS
        ·intro Ep11 w l' hE11 hO11 hF_ hS
         obtain ⟨q4f, q4g, -⟩ := hF_
         replace q4f : Ep11 67 = .pointer (some ⟨q5, 0, none⟩) := emk q4f
         replace q4g : Ep11 70 = .int .i64 (q2.length : Int) := emk q4g
         replace hS : St w0 w (ro ρ :: cells q5 25 [.slice q6 s0.L.length c_s0_0, .int .i64 q1d] :: l') := emk hS
         have hcall := c_maskmake_Stream_Next q8c q0o (hS.pull 1)
         refine o_cc call_9 (args2 q4f q4g) hcall ?_
         rintro e w' ⟨rfl, hS⟩
         refine ⟨_, rfl, ?_⟩
         refine x_done <| ?_
         refine x_fin ⟨⟨_, rfl⟩, rfl, ?_⟩
         exact emk (hS.pull 1)
        ·intro Ep11 w l' hE11 hO11 hF_ hS
         obtain ⟨q4h, q4i, -⟩ := hF_
         replace q4h : Ep11 66 = .slice q3 q2.length c_b3_4_L3 := emk q4h
         replace q4i : Ep11 71 = .int .i64 q20.1 := emk q4i
         replace hS : St w0 w (vec 44 R_rules_Wire.sz (.slice q3 q2.length c_b3_4_L3) q2.length q0h :: l') := emk hS
         refine p (yix_o sl_26 q4h q4i hS q2l q7l) <| x_done <| ?_
         refine x_fin ⟨⟨_, rfl⟩, rfl, ?_⟩
         exact emk hS
        ·intro Ep11 w l' hE11 hO11 hF_ hS
         obtain ⟨q4j, -⟩ := hF_
         replace q4j : Ep11 72 = .pointer (some ((adr q3).add (q20.1.toNat * R_rules_Wire.sz))) := emk q4j
         replace hS : St w0 w (vec 44 R_rules_Wire.sz (.slice q3 q2.length c_b3_4_L3) q2.length q0h :: l') := emk hS
         have q_ := q2l.get q7l; obtain ⟨q9l, q7m, q8e⟩ := q_
         rw [← q8d] at q7m
         have e_ := q7m; subst e_
         refine pa (v := .agg #[.int .i64 q4.Net, .int .i64 q4.Layer, .int .i64 q4.X0, .int .i64 q4.Y0, .int .i64 q4.X1, .int .i64 q4.Y1]) (at_loadAgg agg_44 q4j rfl (EltV.every q8e hS)) <| x_done <| ?_
         refine x_fin ⟨⟨_, rfl⟩, rfl, ?_⟩
         exact emk hS
        ·intro Ep11 w l' hE11 hO11 hF_ hS
         refine o_alloc zero_44 hS (fun q9k w' hS => ?_)
         refine x_done <| ?_
         refine x_fin ⟨⟨_, rfl⟩, rfl, ?_⟩
         exact emk hS
        ·intro Ep11 w l' hE11 hO11 hF_ hS
         obtain ⟨q4k, q1s, -⟩ := hF_
         replace q4k : Ep11 73 = .agg #[.int .i64 q4.Net, .int .i64 q4.Layer, .int .i64 q4.X0, .int .i64 q4.Y0, .int .i64 q4.X1, .int .i64 q4.Y1] := emk q4k
         replace q1s : Ep11 5 = .pointer (some ⟨(blkOf (Ep11 5)), 0, none⟩) := emk q1s
         replace hS : St w0 w (cells (blkOf (Ep11 5)) 44 [.int .i64 0, .int .i64 0, .int .i64 0, .int .i64 0, .int .i64 0, .int .i64 0] :: l') := emk hS
         refine o_storeAgg (news := [.int .i64 q4.Net, .int .i64 q4.Layer, .int .i64 q4.X0, .int .i64 q4.Y0, .int .i64 q4.X1, .int .i64 q4.Y1]) agg_44 q1s q4k rfl (by simp [over_length]) hS (fun w' hS => ?_)
         refine x_done <| ?_
         refine x_fin ⟨⟨undef, rfl⟩, trivial, ?_⟩
         exact emk hS
       intro Ep11 w' hE11 hF_ hS
       obtain ⟨q4c, q4h, q4f, q4d, q4e, q4g, q4i, q4j, q4k, q1s, -⟩ := hF_
       replace q4c : Ep11 65 = .pointer (some ⟨b3, 4, none⟩) := emk q4c
       replace q4h : Ep11 66 = .slice q3 q2.length c_b3_4_L3 := emk q4h
       replace q4f : Ep11 67 = .pointer (some ⟨q5, 0, none⟩) := emk q4f
       replace q4d : Ep11 68 = .pointer (some ⟨b3, 4, none⟩) := emk q4d
       replace q4e : Ep11 69 = .slice q3 q2.length c_b3_4_L3 := emk q4e
       replace q4g : Ep11 70 = .int .i64 (q2.length : Int) := emk q4g
       replace q4i : Ep11 71 = .int .i64 q20.1 := emk q4i
       replace q4j : Ep11 72 = .pointer (some ((adr q3).add (q20.1.toNat * R_rules_Wire.sz))) := emk q4j
       replace q4k : Ep11 73 = .agg #[.int .i64 q4.Net, .int .i64 q4.Layer, .int .i64 q4.X0, .int .i64 q4.Y0, .int .i64 q4.X1, .int .i64 q4.Y1] := emk q4k
       replace q1s : Ep11 5 = .pointer (some ⟨(blkOf (Ep11 5)), 0, none⟩) := emk q1s
       replace hS : St w0 w' (cells b3 31 [.int .i64 q0a.1, .int .i64 q0b.1, .int .i64 q0c.1, .int .i64 q0f.1, .slice q3 q2.length c_b3_4_L3, .slice q0e q0d.length c_b3_5_L7h, .slice none 0 0, .slice none 0 0] :: ro ρ :: cells q5 25 [.slice q6 s0.L.length c_s0_0, .int .i64 q20.2] :: vec 44 R_rules_Wire.sz (.slice q3 q2.length c_b3_4_L3) q2.length q0h :: cells (blkOf (Ep11 5)) 44 [.int .i64 q4.Net, .int .i64 q4.Layer, .int .i64 q4.X0, .int .i64 q4.Y0, .int .i64 q4.X1, .int .i64 q4.Y1] :: (cells b2 31 [.int .i64 0, .int .i64 0, .int .i64 0, .int .i64 0, .slice none 0 0, .slice none 0 0, .slice none 0 0, .slice none 0 0] :: cells q9 47 [.int .i64 q1k.1, .int .i64 q13.1, .int .i64 q15.1, .int .i64 q12.1] :: vec 47 R_rules_Via.sz (.slice q0e q0d.length c_b3_5_L7h) q0d.length q0z :: l)) := emk hS
       refine x_seq <| ?_
       replace hFc64 := bd_s hFc64; obtain ⟨q1g, q8f, hFc64⟩ := hFc64
       replace hFc64 := bd_s hFc64; obtain ⟨q19, q7u, hFc64⟩ := hFc64
       refine x_par (w0 := w0) [⟨[], [], [74], [], [], [], none⟩, ⟨[0], [0], [75], [0], [], [], none⟩, ⟨[], [], [76], [], [], [], none⟩, ⟨[], [], [77], [], [], [], none⟩, ⟨[3], [3], [78], [0], [], [], none⟩, ⟨[], [], [79], [], [], [], none⟩, ⟨[5], [5], [80], [0], [], [], none⟩, ⟨[2, 3, 4, 5, 6], [2, 4, 6], [81], [2], [1], [3], none⟩, ⟨[], [], [82], [], [], [], none⟩, ⟨[], [], [83], [], [], [], none⟩, ⟨[9], [9], [84], [0], [], [], none⟩, ⟨[], [], [85], [], [], [], none⟩, ⟨[11], [11], [86], [0], [], [], none⟩, ⟨[2, 3, 4, 5, 6, 7, 8, 9, 10, 11, 12], [8, 10, 12], [87], [2], [3], [4], none⟩, ⟨[0, 1], [], [88], [], [], [], none⟩, ⟨[0, 1, 2, 3, 4, 5, 6, 7, 8, 9, 10, 11, 12, 13, 14], [1, 14], [], [], [5], [6], none⟩, ⟨[0, 1, 2, 3, 4, 5, 6, 7, 8, 9, 10, 11, 12, 13, 14, 15], [], [89], [], [], [], none⟩, ⟨[0, 1, 2, 3, 4, 5, 6, 7, 8, 9, 10, 11, 12, 13, 14, 15, 16], [7, 16], [], [], [6], [7], none⟩, ⟨[0, 1, 2, 3, 4, 5, 6, 7, 8, 9, 10, 11, 12, 13, 14, 15, 16, 17], [], [90], [], [], [], none⟩, ⟨[0, 1, 2, 3, 4, 5, 6, 7, 8, 9, 10, 11, 12, 13, 14, 15, 16, 17, 18], [13, 18], [], [], [7], [8], none⟩] [⟨none, none, []⟩, ⟨none, (some 7), []⟩, ⟨none, none, []⟩, ⟨(some 7), (some 13), []⟩, ⟨(some 13), none, []⟩, ⟨none, (some 15), []⟩, ⟨(some 15), (some 17), []⟩, ⟨(some 17), (some 19), []⟩, ⟨(some 19), none, []⟩] [74, 75, 76, 77, 78, 79, 80, 81, 82, 83, 84, 85, 86, 87, 88, 89, 90] [0, 1, 2, 5] [0, 2, 4, 8] [0, 1, 2, 3, 4, 5, 6, 7, 8, 9, 10, 11, 12, 13, 14, 16, 18] [fun Ep12 => Ep12 74 = .pointer (some ⟨(blkOf (Ep11 5)), 0, none⟩), fun Ep12 => Ep12 75 = .int .i64 q4.Net, fun Ep12 => Ep12 76 = .pointer (some ⟨q5, 0, none⟩), fun Ep12 => Ep12 77 = .pointer (some ⟨(blkOf (Ep11 5)), 2, none⟩), fun Ep12 => Ep12 78 = .int .i64 q4.X0, fun Ep12 => Ep12 79 = .pointer (some ⟨(blkOf (Ep11 5)), 4, none⟩), fun Ep12 => Ep12 80 = .int .i64 q4.X1, fun Ep12 => Ep12 81 = .int .i64 q1g.1, fun Ep12 => Ep12 82 = .pointer (some ⟨q5, 0, none⟩), fun Ep12 => Ep12 83 = .pointer (some ⟨(blkOf (Ep11 5)), 3, none⟩), fun Ep12 => Ep12 84 = .int .i64 q4.Y0, fun Ep12 => Ep12 85 = .pointer (some ⟨(blkOf (Ep11 5)), 5, none⟩), fun Ep12 => Ep12 86 = .int .i64 q4.Y1, fun Ep12 => Ep12 87 = .int .i64 q19.1, fun Ep12 => Ep12 88 = .pointer (some ⟨q9, 0, none⟩), fun Ep12 => True, fun Ep12 => Ep12 89 = .pointer (some ⟨q9, 2, none⟩), fun Ep12 => True, fun Ep12 => Ep12 90 = .pointer (some ⟨q9, 3, none⟩), fun Ep12 => True] [fun Ep12 => cells (blkOf (Ep11 5)) 44 [.int .i64 q4.Net, .int .i64 q4.Layer, .int .i64 q4.X0, .int .i64 q4.Y0, .int .i64 q4.X1, .int .i64 q4.Y1], fun Ep12 => cells q5 25 [.slice q6 s0.L.length c_s0_0, .int .i64 q20.2], fun Ep12 => ro ρ, fun Ep12 => cells q5 25 [.slice q6 s0.L.length c_s0_0, .int .i64 q1g.2], fun Ep12 => cells q5 25 [.slice q6 s0.L.length c_s0_0, .int .i64 q19.2], fun Ep12 => cells q9 47 [.int .i64 q1k.1, .int .i64 q13.1, .int .i64 q15.1, .int .i64 q12.1], fun Ep12 => cells q9 47 [.int .i64 q4.Net, .int .i64 q13.1, .int .i64 q15.1, .int .i64 q12.1], fun Ep12 => cells q9 47 [.int .i64 q4.Net, .int .i64 q13.1, .int .i64 q1g.1, .int .i64 q12.1], fun Ep12 => cells q9 47 [.int .i64 q4.Net, .int .i64 q13.1, .int .i64 q1g.1, .int .i64 q19.1]] mixed (by kernel_rfl) ((((hS.pull 6).pull 2).pull 3).pull 5) ?_ ?_
       ·refine ⟨?_, ?_, ?_, ?_, ?_, ?_, ?_, ?_, ?_, ?_, ?_, ?_, ?_, ?_, ?_, ?_, ?_, ?_, ?_, ?_, trivial⟩
        ·intro Ep12 w l' hE12 hO12 hF_ hS
         refine p (yl_field0 fld_44_0 ((hE12 5 rfl).trans q1s)) <| x_done <| ?_
         refine x_fin ⟨⟨_, rfl⟩, rfl, ?_⟩
         exact emk hS
        ·intro Ep12 w l' hE12 hO12 hF_ hS
         obtain ⟨q4l, -⟩ := hF_
         replace q4l : Ep12 74 = .pointer (some ⟨(blkOf (Ep11 5)), 0, none⟩) := emk q4l
         replace hS : St w0 w (cells (blkOf (Ep11 5)) 44 [.int .i64 q4.Net, .int .i64 q4.Layer, .int .i64 q4.X0, .int .i64 q4.Y0, .int .i64 q4.X1, .int .i64 q4.Y1] :: l') := emk hS
         refine pa (at_load one_3 q4l (hS.cell rfl)) <| x_done <| ?_
         refine x_fin ⟨⟨_, rfl⟩, rfl, ?_⟩
         exact emk hS
        ·intro Ep12 w l' hE12 hO12 hF_ hS
         refine p (yl_move ((hE12 0 rfl).trans ((hE11 0 rfl).trans q1w))) <| x_done <| ?_
         refine x_fin ⟨⟨_, rfl⟩, rfl, ?_⟩
         exact emk hS
        ·intro Ep12 w l' hE12 hO12 hF_ hS
         refine p (yl_field0 fld_44_2 ((hE12 5 rfl).trans q1s)) <| x_done <| ?_
         refine x_fin ⟨⟨_, rfl⟩, rfl, ?_⟩
         exact emk hS
        ·intro Ep12 w l' hE12 hO12 hF_ hS
         obtain ⟨q4m, -⟩ := hF_
         replace q4m : Ep12 77 = .pointer (some ⟨(blkOf (Ep11 5)), 2, none⟩) := emk q4m
         replace hS : St w0 w (cells (blkOf (Ep11 5)) 44 [.int .i64 q4.Net, .int .i64 q4.Layer, .int .i64 q4.X0, .int .i64 q4.Y0, .int .i64 q4.X1, .int .i64 q4.Y1] :: l') := emk hS
         refine pa (at_load one_3 q4m (hS.cell rfl)) <| x_done <| ?_
         refine x_fin ⟨⟨_, rfl⟩, rfl, ?_⟩
         exact emk hS
        ·intro Ep12 w l' hE12 hO12 hF_ hS
         refine p (yl_field0 fld_44_4 ((hE12 5 rfl).trans q1s)) <| x_done <| ?_
         refine x_fin ⟨⟨_, rfl⟩, rfl, ?_⟩
         exact emk hS
        ·intro Ep12 w l' hE12 hO12 hF_ hS
         obtain ⟨q4n, -⟩ := hF_
         replace q4n : Ep12 79 = .pointer (some ⟨(blkOf (Ep11 5)), 4, none⟩) := emk q4n
         replace hS : St w0 w (cells (blkOf (Ep11 5)) 44 [.int .i64 q4.Net, .int .i64 q4.Layer, .int .i64 q4.X0, .int .i64 q4.Y0, .int .i64 q4.X1, .int .i64 q4.Y1] :: l') := emk hS
         refine pa (at_load one_3 q4n (hS.cell rfl)) <| x_done <| ?_
         refine x_fin ⟨⟨_, rfl⟩, rfl, ?_⟩
         exact emk hS
        ·intro Ep12 w l' hE12 hO12 hF_ hS
         obtain ⟨q4o, q4p, q4q, -⟩ := hF_
         replace q4o : Ep12 76 = .pointer (some ⟨q5, 0, none⟩) := emk q4o
         replace q4p : Ep12 78 = .int .i64 q4.X0 := emk q4p
         replace q4q : Ep12 80 = .int .i64 q4.X1 := emk q4q
         replace hS : St w0 w (ro ρ :: cells q5 25 [.slice q6 s0.L.length c_s0_0, .int .i64 q20.2] :: l') := emk hS
         have hcall := c_maskmake_Stream_Range q8f q0o (hS.pull 1)
         refine o_cc call_17 (args3 q4o q4p q4q) hcall ?_
         rintro e w' ⟨rfl, hS⟩
         refine ⟨_, rfl, ?_⟩
         refine x_done <| ?_
         refine x_fin ⟨⟨_, rfl⟩, rfl, ?_⟩
         exact emk (hS.pull 1)
        ·intro Ep12 w l' hE12 hO12 hF_ hS
         refine p (yl_move ((hE12 0 rfl).trans ((hE11 0 rfl).trans q1w))) <| x_done <| ?_
         refine x_fin ⟨⟨_, rfl⟩, rfl, ?_⟩
         exact emk hS
        ·intro Ep12 w l' hE12 hO12 hF_ hS
         refine p (yl_field0 fld_44_3 ((hE12 5 rfl).trans q1s)) <| x_done <| ?_
         refine x_fin ⟨⟨_, rfl⟩, rfl, ?_⟩
         exact emk hS
        ·intro Ep12 w l' hE12 hO12 hF_ hS
         obtain ⟨q4r, -⟩ := hF_
         replace q4r : Ep12 83 = .pointer (some ⟨(blkOf (Ep11 5)), 3, none⟩) := emk q4r
         replace hS : St w0 w (cells (blkOf (Ep11 5)) 44 [.int .i64 q4.Net, .int .i64 q4.Layer, .int .i64 q4.X0, .int .i64 q4.Y0, .int .i64 q4.X1, .int .i64 q4.Y1] :: l') := emk hS
         refine pa (at_load one_3 q4r (hS.cell rfl)) <| x_done <| ?_
         refine x_fin ⟨⟨_, rfl⟩, rfl, ?_⟩
         exact emk hS
        ·intro Ep12 w l' hE12 hO12 hF_ hS
         refine p (yl_field0 fld_44_5 ((hE12 5 rfl).trans q1s)) <| x_done <| ?_
         refine x_fin ⟨⟨_, rfl⟩, rfl, ?_⟩
         exact emk hS
        ·intro Ep12 w l' hE12 hO12 hF_ hS
         obtain ⟨q2s, -⟩ := hF_
         replace q2s : Ep12 85 = .pointer (some ⟨(blkOf (Ep11 5)), 5, none⟩) := emk q2s
         replace hS : St w0 w (cells (blkOf (Ep11 5)) 44 [.int .i64 q4.Net, .int .i64 q4.Layer, .int .i64 q4.X0, .int .i64 q4.Y0, .int .i64 q4.X1, .int .i64 q4.Y1] :: l') := emk hS
         refine pa (at_load one_3 q2s (hS.cell rfl)) <| x_done <| ?_
         refine x_fin ⟨⟨_, rfl⟩, rfl, ?_⟩
         exact emk hS
        ·intro Ep12 w l' hE12 hO12 hF_ hS
         obtain ⟨q4s, q2t, q2u, -⟩ := hF_
         replace q4s : Ep12 82 = .pointer (some ⟨q5, 0, none⟩) := emk q4s
         replace q2t : Ep12 84 = .int .i64 q4.Y0 := emk q2t
         replace q2u : Ep12 86 = .int .i64 q4.Y1 := emk q2u
         replace hS : St w0 w (ro ρ :: cells q5 25 [.slice q6 s0.L.length c_s0_0, .int .i64 q1g.2] :: l') := emk hS
         have hcall := c_maskmake_Stream_Range q7u q0o (hS.pull 1)
         refine o_cc call_17 (args3 q4s q2t q2u) hcall ?_
         rintro e w' ⟨rfl, hS⟩
         refine ⟨_, rfl, ?_⟩
         refine x_done <| ?_
         refine x_fin ⟨⟨_, rfl⟩, rfl, ?_⟩
         exact emk (hS.pull 1)
        ·intro Ep12 w l' hE12 hO12 hF_ hS
         refine p (yl_field0 fld_47_0 ((hE12 4 rfl).trans ((hE11 4 rfl).trans q1x))) <| x_done <| ?_
         refine x_fin ⟨⟨_, rfl⟩, rfl, ?_⟩
         exact emk hS
        ·intro Ep12 w l' hE12 hO12 hF_ hS
         obtain ⟨q4t, q2v, -⟩ := hF_
         replace q4t : Ep12 75 = .int .i64 q4.Net := emk q4t
         replace q2v : Ep12 88 = .pointer (some ⟨q9, 0, none⟩) := emk q2v
         replace hS : St w0 w (cells q9 47 [.int .i64 q1k.1, .int .i64 q13.1, .int .i64 q15.1, .int .i64 q12.1] :: l') := emk hS
         refine o_store1 (v := .int .i64 q4.Net) one_3 q2v q4t rfl rfl hS (fun w' hS => ?_)
         refine x_done <| ?_
         refine x_fin ⟨⟨undef, rfl⟩, trivial, ?_⟩
         exact emk hS
        ·intro Ep12 w l' hE12 hO12 hF_ hS
         refine p (yl_field0 fld_47_2 ((hE12 4 rfl).trans ((hE11 4 rfl).trans q1x))) <| x_done <| ?_
         refine x_fin ⟨⟨_, rfl⟩, rfl, ?_⟩
         exact emk hS
        ·intro Ep12 w l' hE12 hO12 hF_ hS
         obtain ⟨q4u, q2w, -⟩ := hF_
         replace q4u : Ep12 81 = .int .i64 q1g.1 := emk q4u
         replace q2w : Ep12 89 = .pointer (some ⟨q9, 2, none⟩) := emk q2w
         replace hS : St w0 w (cells q9 47 [.int .i64 q4.Net, .int .i64 q13.1, .int .i64 q15.1, .int .i64 q12.1] :: l') := emk hS
         refine o_store1 (v := .int .i64 q1g.1) one_3 q2w q4u rfl rfl hS (fun w' hS => ?_)
         refine x_done <| ?_
         refine x_fin ⟨⟨undef, rfl⟩, trivial, ?_⟩
         exact emk hS
        ·intro Ep12 w l' hE12 hO12 hF_ hS
         refine p (yl_field0 fld_47_3 ((hE12 4 rfl).trans ((hE11 4 rfl).trans q1x))) <| x_done <| ?_
         refine x_fin ⟨⟨_, rfl⟩, rfl, ?_⟩
         exact emk hS
        ·intro Ep12 w l' hE12 hO12 hF_ hS
         obtain ⟨q2x, q2y, -⟩ := hF_
         replace q2x : Ep12 87 = .int .i64 q19.1 := emk q2x
         replace q2y : Ep12 90 = .pointer (some ⟨q9, 3, none⟩) := emk q2y
         replace hS : St w0 w (cells q9 47 [.int .i64 q4.Net, .int .i64 q13.1, .int .i64 q1g.1, .int .i64 q12.1] :: l') := emk hS
         refine o_store1 (v := .int .i64 q19.1) one_3 q2y q2x rfl rfl hS (fun w' hS => ?_)
         refine x_done <| ?_
         refine x_fin ⟨⟨undef, rfl⟩, trivial, ?_⟩
         exact emk hS
       intro Ep12 w' hE12 hF_ hS
       obtain ⟨q4l, q4t, q4o, q4m, q4p, q4n, q4q, q4u, q4s, q4r, q2t, q2s, q2u, q2x, q2v, q2w, q2y, -⟩ := hF_
       replace q4l : Ep12 74 = .pointer (some ⟨(blkOf (Ep11 5)), 0, none⟩) := emk q4l
       replace q4t : Ep12 75 = .int .i64 q4.Net := emk q4t
       replace q4o : Ep12 76 = .pointer (some ⟨q5, 0, none⟩) := emk q4o
       replace q4m : Ep12 77 = .pointer (some ⟨(blkOf (Ep11 5)), 2, none⟩) := emk q4m
       replace q4p : Ep12 78 = .int .i64 q4.X0 := emk q4p
       replace q4n : Ep12 79 = .pointer (some ⟨(blkOf (Ep11 5)), 4, none⟩) := emk q4n
       replace q4q : Ep12 80 = .int .i64 q4.X1 := emk q4q
       replace q4u : Ep12 81 = .int .i64 q1g.1 := emk q4u
       replace q4s : Ep12 82 = .pointer (some ⟨q5, 0, none⟩) := emk q4s
       replace q4r : Ep12 83 = .pointer (some ⟨(blkOf (Ep11 5)), 3, none⟩) := emk q4r
       replace q2t : Ep12 84 = .int .i64 q4.Y0 := emk q2t
       replace q2s : Ep12 85 = .pointer (some ⟨(blkOf (Ep11 5)), 5, none⟩) := emk q2s
       replace q2u : Ep12 86 = .int .i64 q4.Y1 := emk q2u
       replace q2x : Ep12 87 = .int .i64 q19.1 := emk q2x
       replace q2v : Ep12 88 = .pointer (some ⟨q9, 0, none⟩) := emk q2v
       replace q2w : Ep12 89 = .pointer (some ⟨q9, 2, none⟩) := emk q2w
       replace q2y : Ep12 90 = .pointer (some ⟨q9, 3, none⟩) := emk q2y
       replace hS : St w0 w' (cells (blkOf (Ep11 5)) 44 [.int .i64 q4.Net, .int .i64 q4.Layer, .int .i64 q4.X0, .int .i64 q4.Y0, .int .i64 q4.X1, .int .i64 q4.Y1] :: ro ρ :: cells q5 25 [.slice q6 s0.L.length c_s0_0, .int .i64 q19.2] :: cells q9 47 [.int .i64 q4.Net, .int .i64 q13.1, .int .i64 q1g.1, .int .i64 q19.1] :: (cells b3 31 [.int .i64 q0a.1, .int .i64 q0b.1, .int .i64 q0c.1, .int .i64 q0f.1, .slice q3 q2.length c_b3_4_L3, .slice q0e q0d.length c_b3_5_L7h, .slice none 0 0, .slice none 0 0] :: vec 44 R_rules_Wire.sz (.slice q3 q2.length c_b3_4_L3) q2.length q0h :: cells b2 31 [.int .i64 0, .int .i64 0, .int .i64 0, .int .i64 0, .slice none 0 0, .slice none 0 0, .slice none 0 0, .slice none 0 0] :: vec 47 R_rules_Via.sz (.slice q0e q0d.length c_b3_5_L7h) q0d.length q0z :: l)) := emk hS
       replace hFc64 := bd_s hFc64; obtain ⟨q4v, q8g, hFc64⟩ := hFc64
       replace hFc64 := ar_s hFc64; obtain ⟨x95, hx95, hFc64⟩ := hFc64
       replace hFc64 := ar_s hFc64; obtain ⟨x98, hx98, hFc64⟩ := hFc64
       replace hFc64 := lv_s hFc64; obtain ⟨x99, hx99, hFc64⟩ := hFc64
       replace hFc64 := lv_s hFc64; obtain ⟨x100, hx100, hFc64⟩ := hFc64
       refine x_par (w0 := w0) [⟨[], [], [91], [], [], [], none⟩, ⟨[0], [0], [92], [0], [], [], none⟩, ⟨[], [], [93], [], [], [], none⟩, ⟨[2], [2], [94], [2], [1], [3], none⟩, ⟨[0, 1, 2, 3], [1, 3], [95], [], [], [], none⟩, ⟨[], [], [96], [], [], [], none⟩, ⟨[5], [5], [97], [4], [], [], none⟩, ⟨[5, 6], [6], [98], [], [], [], none⟩, ⟨[0, 1, 2, 3, 4, 5, 6, 7], [4, 7], [99], [], [], [], none⟩, ⟨[0, 1, 2, 3, 4, 5, 6, 7, 8], [8], [100], [], [], [], none⟩, ⟨[0, 1, 2, 3, 4, 5, 6, 7, 8, 9], [], [101], [], [], [], none⟩, ⟨[0, 1, 2, 3, 4, 5, 6, 7, 8, 9, 10], [9, 10], [], [], [5], [6], none⟩] [⟨none, none, []⟩, ⟨none, (some 3), []⟩, ⟨none, none, []⟩, ⟨(some 3), none, []⟩, ⟨none, none, []⟩, ⟨none, (some 11), []⟩, ⟨(some 11), none, []⟩] [91, 92, 93, 94, 95, 96, 97, 98, 99, 100, 101] [0, 1, 2, 4, 5] [0, 2, 3, 4, 6] [0, 1, 2, 3, 4, 5, 6, 7, 8, 9, 10] [fun Ep13 => Ep13 91 = .pointer (some ⟨(blkOf (Ep11 5)), 1, none⟩), fun Ep13 => Ep13 92 = .int .i64 q4.Layer, fun Ep13 => Ep13 93 = .pointer (some ⟨q5, 0, none⟩), fun Ep13 => Ep13 94 = .int .i64 q4v.1, fun Ep13 => Ep13 95 = .int .i64 x95, fun Ep13 => Ep13 96 = .pointer (some ⟨b3, 2, none⟩), fun Ep13 => Ep13 97 = .int .i64 q0c.1, fun Ep13 => Ep13 98 = .int .i64 x98, fun Ep13 => Ep13 99 = .int .i64 x99, fun Ep13 => Ep13 100 = .int .i64 x100, fun Ep13 => Ep13 101 = .pointer (some ⟨q9, 1, none⟩), fun Ep13 => True] [fun Ep13 => cells (blkOf (Ep11 5)) 44 [.int .i64 q4.Net, .int .i64 q4.Layer, .int .i64 q4.X0, .int .i64 q4.Y0, .int .i64 q4.X1, .int .i64 q4.Y1], fun Ep13 => cells q5 25 [.slice q6 s0.L.length c_s0_0, .int .i64 q19.2], fun Ep13 => ro ρ, fun Ep13 => cells q5 25 [.slice q6 s0.L.length c_s0_0, .int .i64 q4v.2], fun Ep13 => cells b3 31 [.int .i64 q0a.1, .int .i64 q0b.1, .int .i64 q0c.1, .int .i64 q0f.1, .slice q3 q2.length c_b3_4_L3, .slice q0e q0d.length c_b3_5_L7h, .slice none 0 0, .slice none 0 0], fun Ep13 => cells q9 47 [.int .i64 q4.Net, .int .i64 q13.1, .int .i64 q1g.1, .int .i64 q19.1], fun Ep13 => cells q9 47 [.int .i64 q4.Net, .int .i64 x100, .int .i64 q1g.1, .int .i64 q19.1]] mixed (by kernel_rfl) (((((hS.pull 3).pull 4).pull 3).pull 4).pull 4) ?_ ?_
       ·refine ⟨?_, ?_, ?_, ?_, ?_, ?_, ?_, ?_, ?_, ?_, ?_, ?_, trivial⟩
        ·intro Ep13 w l' hE13 hO13 hF_ hS
         refine p (yl_field0 fld_44_1 ((hE13 5 rfl).trans ((hE12 5 rfl).trans q1s))) <| x_done <| ?_
         refine x_fin ⟨⟨_, rfl⟩, rfl, ?_⟩
         exact emk hS
        ·intro Ep13 w l' hE13 hO13 hF_ hS
         obtain ⟨q4w, -⟩ := hF_
         replace q4w : Ep13 91 = .pointer (some ⟨(blkOf (Ep11 5)), 1, none⟩) := emk q4w
         replace hS : St w0 w (cells (blkOf (Ep11 5)) 44 [.int .i64 q4.Net, .int .i64 q4.Layer, .int .i64 q4.X0, .int .i64 q4.Y0, .int .i64 q4.X1, .int .i64 q4.Y1] :: l') := emk hS
         refine pa (at_load one_3 q4w (hS.cell rfl)) <| x_done <| ?_
         refine x_fin ⟨⟨_, rfl⟩, rfl, ?_⟩
         exact emk hS
        ·intro Ep13 w l' hE13 hO13 hF_ hS
         refine p (yl_move ((hE13 0 rfl).trans ((hE12 0 rfl).trans ((hE11 0 rfl).trans q1w)))) <| x_done <| ?_
         refine x_fin ⟨⟨_, rfl⟩, rfl, ?_⟩
         exact emk hS
        ·intro Ep13 w l' hE13 hO13 hF_ hS
         obtain ⟨q4x, -⟩ := hF_
         replace q4x : Ep13 93 = .pointer (some ⟨q5, 0, none⟩) := emk q4x
         replace hS : St w0 w (ro ρ :: cells q5 25 [.slice q6 s0.L.length c_s0_0, .int .i64 q19.2] :: l') := emk hS
         have hcall := c_maskmake_Stream_Next q8g q0o (hS.pull 1)
         refine o_cc call_9 (args2 q4x rfl) hcall ?_
         rintro e w' ⟨rfl, hS⟩
         refine ⟨_, rfl, ?_⟩
         refine x_done <| ?_
         refine x_fin ⟨⟨_, rfl⟩, rfl, ?_⟩
         exact emk (hS.pull 1)
        ·intro Ep13 w l' hE13 hO13 hF_ hS
         obtain ⟨q4y, q4z, -⟩ := hF_
         replace q4y : Ep13 92 = .int .i64 q4.Layer := emk q4y
         replace q4z : Ep13 94 = .int .i64 q4v.1 := emk q4z
         refine p (ysub q4y q4z hx95) <| x_done <| ?_
         refine x_fin ⟨⟨_, rfl⟩, rfl, ?_⟩
         exact emk hS
        ·intro Ep13 w l' hE13 hO13 hF_ hS
         refine p (yl_field0 fld_31_2 ((hE13 3 rfl).trans ((hE12 3 rfl).trans ((hE11 3 rfl).trans q2j)))) <| x_done <| ?_
         refine x_fin ⟨⟨_, rfl⟩, rfl, ?_⟩
         exact emk hS
        ·intro Ep13 w l' hE13 hO13 hF_ hS
         obtain ⟨q50, -⟩ := hF_
         replace q50 : Ep13 96 = .pointer (some ⟨b3, 2, none⟩) := emk q50
         replace hS : St w0 w (cells b3 31 [.int .i64 q0a.1, .int .i64 q0b.1, .int .i64 q0c.1, .int .i64 q0f.1, .slice q3 q2.length c_b3_4_L3, .slice q0e q0d.length c_b3_5_L7h, .slice none 0 0, .slice none 0 0] :: l') := emk hS
         refine pa (at_load one_3 q50 (hS.cell rfl)) <| x_done <| ?_
         refine x_fin ⟨⟨_, rfl⟩, rfl, ?_⟩
         exact emk hS
        ·intro Ep13 w l' hE13 hO13 hF_ hS
         obtain ⟨q51, -⟩ := hF_
         replace q51 : Ep13 97 = .int .i64 q0c.1 := emk q51
         refine p (ysub q51 rfl hx98) <| x_done <| ?_
         refine x_fin ⟨⟨_, rfl⟩, rfl, ?_⟩
         exact emk hS
        ·intro Ep13 w l' hE13 hO13 hF_ hS
         obtain ⟨q52, q53, -⟩ := hF_
         replace q52 : Ep13 95 = .int .i64 x95 := emk q52
         replace q53 : Ep13 98 = .int .i64 x98 := emk q53
         refine p (ymin' q52 q53 hx99) <| x_done <| ?_
         refine x_fin ⟨⟨_, rfl⟩, rfl, ?_⟩
         exact emk hS
        ·intro Ep13 w l' hE13 hO13 hF_ hS
         obtain ⟨q54, -⟩ := hF_
         replace q54 : Ep13 99 = .int .i64 x99 := emk q54
         refine p (ymax' rfl q54 hx100) <| x_done <| ?_
         refine x_fin ⟨⟨_, rfl⟩, rfl, ?_⟩
         exact emk hS
        ·intro Ep13 w l' hE13 hO13 hF_ hS
         refine p (yl_field0 fld_47_1 ((hE13 4 rfl).trans ((hE12 4 rfl).trans ((hE11 4 rfl).trans q1x)))) <| x_done <| ?_
         refine x_fin ⟨⟨_, rfl⟩, rfl, ?_⟩
         exact emk hS
        ·intro Ep13 w l' hE13 hO13 hF_ hS
         obtain ⟨q55, q2z, -⟩ := hF_
         replace q55 : Ep13 100 = .int .i64 x100 := emk q55
         replace q2z : Ep13 101 = .pointer (some ⟨q9, 1, none⟩) := emk q2z
         replace hS : St w0 w (cells q9 47 [.int .i64 q4.Net, .int .i64 q13.1, .int .i64 q1g.1, .int .i64 q19.1] :: l') := emk hS
         refine o_store1 (v := .int .i64 x100) one_3 q2z q55 rfl rfl hS (fun w' hS => ?_)
         refine x_done <| ?_
         refine x_fin ⟨⟨undef, rfl⟩, trivial, ?_⟩
         exact emk hS
       intro Ep13 w' hE13 hF_ hS
       obtain ⟨q4w, q4y, q4x, q4z, q52, q50, q51, q53, q54, q55, q2z, -⟩ := hF_
       replace q4w : Ep13 91 = .pointer (some ⟨(blkOf (Ep11 5)), 1, none⟩) := emk q4w
       replace q4y : Ep13 92 = .int .i64 q4.Layer := emk q4y
       replace q4x : Ep13 93 = .pointer (some ⟨q5, 0, none⟩) := emk q4x
       replace q4z : Ep13 94 = .int .i64 q4v.1 := emk q4z
       replace q52 : Ep13 95 = .int .i64 x95 := emk q52
       replace q50 : Ep13 96 = .pointer (some ⟨b3, 2, none⟩) := emk q50
       replace q51 : Ep13 97 = .int .i64 q0c.1 := emk q51
       replace q53 : Ep13 98 = .int .i64 x98 := emk q53
       replace q54 : Ep13 99 = .int .i64 x99 := emk q54
       replace q55 : Ep13 100 = .int .i64 x100 := emk q55
       replace q2z : Ep13 101 = .pointer (some ⟨q9, 1, none⟩) := emk q2z
       replace hS : St w0 w' (cells (blkOf (Ep11 5)) 44 [.int .i64 q4.Net, .int .i64 q4.Layer, .int .i64 q4.X0, .int .i64 q4.Y0, .int .i64 q4.X1, .int .i64 q4.Y1] :: ro ρ :: cells q5 25 [.slice q6 s0.L.length c_s0_0, .int .i64 q4v.2] :: cells b3 31 [.int .i64 q0a.1, .int .i64 q0b.1, .int .i64 q0c.1, .int .i64 q0f.1, .slice q3 q2.length c_b3_4_L3, .slice q0e q0d.length c_b3_5_L7h, .slice none 0 0, .slice none 0 0] :: cells q9 47 [.int .i64 q4.Net, .int .i64 x100, .int .i64 q1g.1, .int .i64 q19.1] :: (vec 44 R_rules_Wire.sz (.slice q3 q2.length c_b3_4_L3) q2.length q0h :: cells b2 31 [.int .i64 0, .int .i64 0, .int .i64 0, .int .i64 0, .slice none 0 0, .slice none 0 0, .slice none 0 0, .slice none 0 0] :: vec 47 R_rules_Via.sz (.slice q0e q0d.length c_b3_5_L7h) q0d.length q0z :: l)) := emk hS
       exact x_inv ⟨q4v.2, q4.Net, x100, q1g.1, q19.1, (sinj hFc64), ((hE13 0 rfl).trans ((hE12 0 rfl).trans ((hE11 0 rfl).trans q1w))), ((hE13 2 rfl).trans ((hE12 2 rfl).trans ((hE11 2 rfl).trans q7a))), ((hE13 3 rfl).trans ((hE12 3 rfl).trans ((hE11 3 rfl).trans q2j))), ((hE13 4 rfl).trans ((hE12 4 rfl).trans ((hE11 4 rfl).trans q1x))), ((hE13 32 rfl).trans ((hE12 32 rfl).trans ((hE11 32 rfl).trans q70))), ((hE13 33 rfl).trans ((hE12 33 rfl).trans ((hE11 33 rfl).trans q71))), ((((((hS.drop.pull 6).pull 5).pull 5).pull 5).pull 6).pull 6)⟩
      ·replace hFc64 := it_bf hc64 hFc64
       refine x_skip <| ?_
       exact x_inv ⟨q1d, q1k.1, q13.1, q15.1, q12.1, (sinj hFc64), q1w, q7a, q2j, q1x, q70, q71, (((((((hS.pull 6).pull 6).pull 6).pull 6).pull 6).pull 6).pull 6)⟩
     rintro E w ⟨q2d, q0p, q0q, q0r, q0s, rfl, q8h, q8i, q7b, q8j, q7v, q7w, hS⟩
     refine x_region <| p (yl_field0 fld_31_5 q7b) <| pa (at_load one_27 rfl ((hS.pull 2).cell rfl)) <| pa (v := .agg #[.int .i64 q0p, .int .i64 q0q, .int .i64 q0r, .int .i64 q0s]) (ld_sub agg_47 q8j rfl rfl (hS.pull 3)) <| ?_
     refine o_buildSlice (vs := [.agg #[.int .i64 q0p, .int .i64 q0q, .int .i64 q0r, .int .i64 q0s]]) (cs := [.int .i64 q0p, .int .i64 q0q, .int .i64 q0r, .int .i64 q0s]) sl_27 zero_47 (parts_eq (pt (va := .agg #[.int .i64 q0p, .int .i64 q0q, .int .i64 q0r, .int .i64 q0s]) rfl pt0)) rfl (by intro v hv; simp only [List.mem_cons, List.not_mem_nil, or_false] at hv; first | (subst hv; rfl) | (rcases hv with rfl <;> rfl)) (by decide) rfl hS (fun b105 w' hS => ?_)
     replace hFc37 := lv_s hFc37; obtain ⟨q7g, q8k, hFc37⟩ := hFc37
     replace hFc37 := ck_s hFc37; obtain ⟨q8l, hFc37⟩ := hFc37
     refine o_ap sl_27 zero_47 rfl (by decide) rfl rfl (hS.pull 6) q29 (src_blk usl_27 hS rfl rfl) (RepL.cons (R := R_rules_Via) (ρ := ρ) (x := (T_rules_Via.mk q0p q0q q0r q0s)) (cs := [.int .i64 q0p, .int .i64 q0q, .int .i64 q0r, .int .i64 q0s]) rfl RepL.nil) q8k q8l (fun A106 c106 cs106 w' hr106 hS => ?_)
     refine p (yl_field0 fld_31_5 q7b) <| ?_
     refine o_store1 (v := .slice A106 q7g.length c106) one_27 rfl rfl rfl rfl (hS.pull 4) (fun w' hS => ?_)
     refine x_done <| ?_
     exact x_inv ⟨A106, q7g.length, c106, cs106, q2d, q7g, (sinj hFc37), q8h, q8i, q7b, q7v, q7w, hr106, ((((((((hS.pull 2).drop.pull 4).drop.pull 5).pull 2).pull 5).pull 3).pull 5).pull 5)⟩
    ·replace hFc37 := it_f hc37 hFc37
     refine x_skip <| ?_
     exact x_inv ⟨q0e, q0d.length, c_b3_5_L7h, q0z, q1f, q0d, (sinj hFc37), q1u, q6b, q1p, q42, q43, q29, ((((((hS.pull 5).pull 5).pull 5).pull 5).pull 5).pull 5)⟩
   rintro E w ⟨q2a, q2b, c_b3_5_c37, q1z, q2c, q2i, rfl, q8m, q8n, q8o, q7x, q7y, q6c, hS⟩
   have e_ := St.vec_n (hS.pull 4) q6c; subst e_
   replace hFL7 := ar_s hFL7; obtain ⟨x108, hx108, hFL7⟩ := hFL7
   refine x_blk <| x_region <| p (yadd q7y rfl hx108) <| p (yl_move rfl) <|
    x_done <| ?_
   have e_ := sinj hFL7; subst e_
   exact x_inv ⟨kL7, Nat.lt_succ_self _, q2a, q2i.length, c_b3_5_c37, q1z, x108, q2c, q2i, hLL7, q8m, q8n, q8o, q7x, rfl, q6c, ((((((hS.pull 5).pull 5).pull 5).pull 5).pull 5).pull 5)⟩
  ·replace hFL7 := it_f hc34 hFL7
   refine x_exitTo _ rfl <| ?_
   have e_ := sinj hFL7; subst e_
   exact x_inv ⟨q0e, q0d.length, c_b3_5_L7h, q0z, q1f, q0d, hLL7, q1u, q6b, q1p, q29, ((((((hS.pull 5).pull 5).pull 5).pull 5).pull 5).pull 5)⟩
 rintro E w ⟨q7, q2m, c_b3_5_L7, q10, q3w, q8, rfl, q7t, q9g, q9h, q72, hS⟩
 have e_ := St.vec_n (hS.pull 4) q72; subst e_
 replace hF := bd_s hF; obtain ⟨q6d, q8p, hF⟩ := hF
 refine x_seq <| x_seq <| x_region <| p (yl_move q7t) <| ?_
 have hcall := c_maskmake_Stream_Next q8p q0o ((hS.pull 5).pull 1)
 refine o_cc call_9 (args2 rfl rfl) hcall ?_
 rintro e w' ⟨rfl, hS⟩
 refine ⟨_, rfl, ?_⟩
 refine p (yl_move rfl) <| x_done <| ?_
 replace hF := bd_s hF; obtain ⟨oL17, hLL17, hF⟩ := hF
 refine x_join (fun E w => ∃ (q0i : Option Addr) (q2e : Nat) (c_b3_6_L17 : Nat) (q18 : List Value) (q3s : Int) (q0j : List T_rules_Pin), (q3s, q0j) = oL17 ∧ E 0 = .pointer (some ⟨q5, 0, none⟩) ∧ E 2 = .pointer (some ⟨b2, 0, none⟩) ∧ E 3 = .pointer (some ⟨b3, 0, none⟩) ∧ RepL R_rules_Pin ρ q0j q18 ∧ St w0 w (cells q5 25 [.slice q6 s0.L.length c_s0_0, .int .i64 q3s] :: cells b2 31 [.int .i64 0, .int .i64 0, .int .i64 0, .int .i64 0, .slice none 0 0, .slice none 0 0, .slice none 0 0, .slice none 0 0] :: cells b3 31 [.int .i64 q0a.1, .int .i64 q0b.1, .int .i64 q0c.1, .int .i64 q0f.1, .slice q3 q2.length c_b3_4_L3, .slice q7 q8.length c_b3_5_L7, .slice q0i q2e c_b3_6_L17, .slice none 0 0] :: vec 44 R_rules_Wire.sz (.slice q3 q2.length c_b3_4_L3) q2.length q0h :: vec 47 R_rules_Via.sz (.slice q7 q8.length c_b3_5_L7) q8.length q10 :: vec 39 R_rules_Pin.sz (.slice q0i q2e c_b3_6_L17) q2e q18 :: ro ρ :: l)) ?_ ?_
 ·refine x_block ?_
  replace hS := St.vec_nil hS 39 R_rules_Pin.sz
  have q63 : RepL R_rules_Pin ρ [] [] := rfl
  refine x_loop (fun k_ E w => ∃ (q0w : Option Addr) (q21 : Nat) (c_b3_6_L17h : Nat) (q1e : List Value) (q25 : Int) (q1i : Int) (q0v : List T_rules_Pin), lp (P_maskmake_Stream_Layout_L17 s0 q0a q0b q0f q6d) k_ (q25, q1i, q0v) = some oL17 ∧ E 0 = .pointer (some ⟨q5, 0, none⟩) ∧ E 2 = .pointer (some ⟨b2, 0, none⟩) ∧ E 3 = .pointer (some ⟨b3, 0, none⟩) ∧ E 110 = .int .i64 q6d.1 ∧ E 111 = .int .i64 q25 ∧ RepL R_rules_Pin ρ q0v q1e ∧ St w0 w (cells q5 25 [.slice q6 s0.L.length c_s0_0, .int .i64 q1i] :: cells b2 31 [.int .i64 0, .int .i64 0, .int .i64 0, .int .i64 0, .slice none 0 0, .slice none 0 0, .slice none 0 0, .slice none 0 0] :: cells b3 31 [.int .i64 q0a.1, .int .i64 q0b.1, .int .i64 q0c.1, .int .i64 q0f.1, .slice q3 q2.length c_b3_4_L3, .slice q7 q8.length c_b3_5_L7, .slice q0w q21 c_b3_6_L17h, .slice none 0 0] :: vec 44 R_rules_Wire.sz (.slice q3 q2.length c_b3_4_L3) q2.length q0h :: vec 47 R_rules_Via.sz (.slice q7 q8.length c_b3_5_L7) q8.length q10 :: vec 39 R_rules_Pin.sz (.slice q0w q21 c_b3_6_L17h) q21 q1e :: ro ρ :: l)) fuel ⟨none, 0, 0, [], 0, q6d.2, [], hLL17, q7t, q9g, q9h, rfl, rfl, q63, (((((((hS.pull 2).pull 1).pull 6).pull 6).pull 6).pull 6).pull 6)⟩ ?_
  rintro kL17 E w ⟨q0w, q21, c_b3_6_L17h, q1e, q25, q1i, q0v, hLL17, q1t, q6y, q2g, q3x, q3y, q2q, hS⟩
  have e_ := St.vec_n (hS.pull 5) q2q; subst e_
  replace hLL17 := lp_s hLL17; obtain ⟨kL17, obL17, rfl, hFL17, hLL17⟩ := hLL17
  refine x_seq <| x_region <| p (yl_lss q3y q3x) <| x_done <|
   x_seq <|
   x_cond_p (q25 < q6d.1) rfl (fun hc112 => ?_) (fun hc112 => ?_)
  ·replace hFL17 := it_t hc112 hFL17
   refine x_skip <| x_seq <| x_block <| x_seq <| ?_
   replace hFL17 := bd_s hFL17; obtain ⟨q16, q8q, hFL17⟩ := hFL17
   replace hFL17 := bd_s hFL17; obtain ⟨q17, q8r, hFL17⟩ := hFL17
   replace hFL17 := bd_s hFL17; obtain ⟨q11, q7z, hFL17⟩ := hFL17
   replace hFL17 := bd_s hFL17; obtain ⟨q0x, q80, hFL17⟩ := hFL17
   refine x_par (w0 := w0) [⟨[], [], [113], [], [], [], none⟩, ⟨[], [], [114], [], [], [], none⟩, ⟨[1], [1], [115], [0], [], [], none⟩, ⟨[0, 1, 2], [0, 2], [116], [2], [1], [3], none⟩, ⟨[], [], [117], [], [], [], none⟩, ⟨[], [], [118], [], [], [], none⟩, ⟨[5], [5], [119], [0], [], [], none⟩, ⟨[0, 1, 2, 3, 4, 5, 6], [4, 6], [120], [2], [3], [4], none⟩, ⟨[], [], [121], [], [], [], none⟩, ⟨[], [], [122], [], [], [], none⟩, ⟨[9], [9], [123], [0], [], [], none⟩, ⟨[0, 1, 2, 3, 4, 5, 6, 7, 8, 9, 10], [8, 10], [124], [2], [4], [5], none⟩, ⟨[], [], [125], [], [], [], none⟩, ⟨[0, 1, 2, 3, 4, 5, 6, 7, 8, 9, 10, 11, 12], [12], [126], [2], [5], [6], none⟩, ⟨[0, 1, 2, 3, 4, 5, 6, 7, 8, 9, 10, 11, 12, 13], [3, 7, 11, 13], [127], [], [], [], none⟩, ⟨[], [], [6], [], [], [7], none⟩, ⟨[0, 1, 2, 3, 4, 5, 6, 7, 8, 9, 10, 11, 12, 13, 14, 15], [14, 15], [], [], [7], [8], none⟩] [⟨none, none, []⟩, ⟨none, (some 3), []⟩, ⟨none, none, []⟩, ⟨(some 3), (some 7), []⟩, ⟨(some 7), (some 11), []⟩, ⟨(some 11), (some 13), []⟩, ⟨(some 13), none, []⟩, ⟨(some 15), (some 16), [6]⟩, ⟨(some 16), none, [6]⟩] [6, 113, 114, 115, 116, 117, 118, 119, 120, 121, 122, 123, 124, 125, 126, 127] [0, 1, 2] [0, 2, 6, 8] [0, 1, 2, 3, 4, 5, 6, 7, 8, 9, 10, 11, 12, 13, 14, 15] [fun Ep18 => Ep18 113 = .pointer (some ⟨q5, 0, none⟩), fun Ep18 => Ep18 114 = .pointer (some ⟨b3, 3, none⟩), fun Ep18 => Ep18 115 = .int .i64 q0f.1, fun Ep18 => Ep18 116 = .int .i64 q16.1, fun Ep18 => Ep18 117 = .pointer (some ⟨q5, 0, none⟩), fun Ep18 => Ep18 118 = .pointer (some ⟨b3, 0, none⟩), fun Ep18 => Ep18 119 = .int .i64 q0a.1, fun Ep18 => Ep18 120 = .int .i64 q17.1, fun Ep18 => Ep18 121 = .pointer (some ⟨q5, 0, none⟩), fun Ep18 => Ep18 122 = .pointer (some ⟨b3, 1, none⟩), fun Ep18 => Ep18 123 = .int .i64 q0b.1, fun Ep18 => Ep18 124 = .int .i64 q11.1, fun Ep18 => Ep18 125 = .pointer (some ⟨q5, 0, none⟩), fun Ep18 => Ep18 126 = .bool q0x.1, fun Ep18 => Ep18 127 = .agg #[.int .i64 q16.1, .int .i64 q17.1, .int .i64 q11.1, .bool q0x.1, .int .i64 0], fun Ep18 => Ep18 6 = .pointer (some ⟨(blkOf (Ep18 6)), 0, none⟩), fun Ep18 => True] [fun Ep18 => cells b3 31 [.int .i64 q0a.1, .int .i64 q0b.1, .int .i64 q0c.1, .int .i64 q0f.1, .slice q3 q2.length c_b3_4_L3, .slice q7 q8.length c_b3_5_L7, .slice q0w q0v.length c_b3_6_L17h, .slice none 0 0], fun Ep18 => cells q5 25 [.slice q6 s0.L.length c_s0_0, .int .i64 q1i], fun Ep18 => ro ρ, fun Ep18 => cells q5 25 [.slice q6 s0.L.length c_s0_0, .int .i64 q16.2], fun Ep18 => cells q5 25 [.slice q6 s0.L.length c_s0_0, .int .i64 q17.2], fun Ep18 => cells q5 25 [.slice q6 s0.L.length c_s0_0, .int .i64 q11.2], fun Ep18 => cells q5 25 [.slice q6 s0.L.length c_s0_0, .int .i64 q0x.2], fun Ep18 => cells (blkOf (Ep18 6)) 39 [.int .i64 0, .int .i64 0, .int .i64 0, .bool false, .int .i64 0], fun Ep18 => cells (blkOf (Ep18 6)) 39 [.int .i64 q16.1, .int .i64 q17.1, .int .i64 q11.1, .bool q0x.1, .int .i64 0]] mixed (by kernel_rfl) (((hS.pull 6).pull 1).pull 3) ?_ ?_
   ·refine ⟨?_, ?_, ?_, ?_, ?_, ?_, ?_, ?_, ?_, ?_, ?_, ?_, ?_, ?_, ?_, ?_, ?_, trivial⟩
    ·intro Ep18 w l' hE18 hO18 hF_ hS
     refine p (yl_move ((hE18 0 rfl).trans q1t)) <| x_done <| ?_
     refine x_fin ⟨⟨_, rfl⟩, rfl, ?_⟩
     exact emk hS
    ·intro Ep18 w l' hE18 hO18 hF_ hS
     refine p (yl_field0 fld_31_3 ((hE18 3 rfl).trans q2g)) <| x_done <| ?_
     refine x_fin ⟨⟨_, rfl⟩, rfl, ?_⟩
     exact emk hS
    ·intro Ep18 w l' hE18 hO18 hF_ hS
     obtain ⟨q56, -⟩ := hF_
     replace q56 : Ep18 114 = .pointer (some ⟨b3, 3, none⟩) := emk q56
     replace hS : St w0 w (cells b3 31 [.int .i64 q0a.1, .int .i64 q0b.1, .int .i64 q0c.1, .int .i64 q0f.1, .slice q3 q2.length c_b3_4_L3, .slice q7 q8.length c_b3_5_L7, .slice q0w q0v.length c_b3_6_L17h, .slice none 0 0] :: l') := emk hS
     refine pa (at_load one_3 q56 (hS.cell rfl)) <| x_done <| ?_
     refine x_fin ⟨⟨_, rfl⟩, rfl, ?_⟩
     exact emk hS
    ·intro Ep18 w l' hE18 hO18 hF_ hS
     obtain ⟨q57, q58, -⟩ := hF_
     replace q57 : Ep18 113 = .pointer (some ⟨q5, 0, none⟩) := emk q57
     replace q58 : Ep18 115 = .int .i64 q0f.1 := emk q58
     replace hS : St w0 w (ro ρ :: cells q5 25 [.slice q6 s0.L.length c_s0_0, .int .i64 q1i] :: l') := emk hS
     have hcall := c_maskmake_Stream_Next q8q q0o (hS.pull 1)
     refine o_cc call_9 (args2 q57 q58) hcall ?_
     rintro e w' ⟨rfl, hS⟩
     refine ⟨_, rfl, ?_⟩
     refine x_done <| ?_
     refine x_fin ⟨⟨_, rfl⟩, rfl, ?_⟩
     exact emk (hS.pull 1)
    ·intro Ep18 w l' hE18 hO18 hF_ hS
     refine p (yl_move ((hE18 0 rfl).trans q1t)) <| x_done <| ?_
     refine x_fin ⟨⟨_, rfl⟩, rfl, ?_⟩
     exact emk hS
    ·intro Ep18 w l' hE18 hO18 hF_ hS
     refine p (yl_field0 fld_31_0 ((hE18 3 rfl).trans q2g)) <| x_done <| ?_
     refine x_fin ⟨⟨_, rfl⟩, rfl, ?_⟩
     exact emk hS
    ·intro Ep18 w l' hE18 hO18 hF_ hS
     obtain ⟨q59, -⟩ := hF_
     replace q59 : Ep18 118 = .pointer (some ⟨b3, 0, none⟩) := emk q59
     replace hS : St w0 w (cells b3 31 [.int .i64 q0a.1, .int .i64 q0b.1, .int .i64 q0c.1, .int .i64 q0f.1, .slice q3 q2.length c_b3_4_L3, .slice q7 q8.length c_b3_5_L7, .slice q0w q0v.length c_b3_6_L17h, .slice none 0 0] :: l') := emk hS
     refine pa (at_load one_3 q59 (hS.cell rfl)) <| x_done <| ?_
     refine x_fin ⟨⟨_, rfl⟩, rfl, ?_⟩
     exact emk hS
    ·intro Ep18 w l' hE18 hO18 hF_ hS
     obtain ⟨q5a, q5b, -⟩ := hF_
     replace q5a : Ep18 117 = .pointer (some ⟨q5, 0, none⟩) := emk q5a
     replace q5b : Ep18 119 = .int .i64 q0a.1 := emk q5b
     replace hS : St w0 w (ro ρ :: cells q5 25 [.slice q6 s0.L.length c_s0_0, .int .i64 q16.2] :: l') := emk hS
     have hcall := c_maskmake_Stream_Next q8r q0o (hS.pull 1)
     refine o_cc call_9 (args2 q5a q5b) hcall ?_
     rintro e w' ⟨rfl, hS⟩
     refine ⟨_, rfl, ?_⟩
     refine x_done <| ?_
     refine x_fin ⟨⟨_, rfl⟩, rfl, ?_⟩
     exact emk (hS.pull 1)
    ·intro Ep18 w l' hE18 hO18 hF_ hS
     refine p (yl_move ((hE18 0 rfl).trans q1t)) <| x_done <| ?_
     refine x_fin ⟨⟨_, rfl⟩, rfl, ?_⟩
     exact emk hS
    ·intro Ep18 w l' hE18 hO18 hF_ hS
     refine p (yl_field0 fld_31_1 ((hE18 3 rfl).trans q2g)) <| x_done <| ?_
     refine x_fin ⟨⟨_, rfl⟩, rfl, ?_⟩
     exact emk hS
    ·intro Ep18 w l' hE18 hO18 hF_ hS
     obtain ⟨q5c, -⟩ := hF_
     replace q5c : Ep18 122 = .pointer (some ⟨b3, 1, none⟩) := emk q5c
     replace hS : St w0 w (cells b3 31 [.int .i64 q0a.1, .int .i64 q0b.1, .int .i64 q0c.1, .int .i64 q0f.1, .slice q3 q2.length c_b3_4_L3, .slice q7 q8.length c_b3_5_L7, .slice q0w q0v.length c_b3_6_L17h, .slice none 0 0] :: l') := emk hS
     refine pa (at_load one_3 q5c (hS.cell rfl)) <| x_done <| ?_
     refine x_fin ⟨⟨_, rfl⟩, rfl, ?_⟩
     exact emk hS
    ·intro Ep18 w l' hE18 hO18 hF_ hS
     obtain ⟨q5d, q30, -⟩ := hF_
     replace q5d : Ep18 121 = .pointer (some ⟨q5, 0, none⟩) := emk q5d
     replace q30 : Ep18 123 = .int .i64 q0b.1 := emk q30
     replace hS : St w0 w (ro ρ :: cells q5 25 [.slice q6 s0.L.length c_s0_0, .int .i64 q17.2] :: l') := emk hS
     have hcall := c_maskmake_Stream_Next q7z q0o (hS.pull 1)
     refine o_cc call_9 (args2 q5d q30) hcall ?_
     rintro e w' ⟨rfl, hS⟩
     refine ⟨_, rfl, ?_⟩
     refine x_done <| ?_
     refine x_fin ⟨⟨_, rfl⟩, rfl, ?_⟩
     exact emk (hS.pull 1)
    ·intro Ep18 w l' hE18 hO18 hF_ hS
     refine p (yl_move ((hE18 0 rfl).trans q1t)) <| x_done <| ?_
     refine x_fin ⟨⟨_, rfl⟩, rfl, ?_⟩
     exact emk hS
    ·intro Ep18 w l' hE18 hO18 hF_ hS
     obtain ⟨q31, -⟩ := hF_
     replace q31 : Ep18 125 = .pointer (some ⟨q5, 0, none⟩) := emk q31
     replace hS : St w0 w (ro ρ :: cells q5 25 [.slice q6 s0.L.length c_s0_0, .int .i64 q11.2] :: l') := emk hS
     have hcall := c_maskmake_Stream_Flip q80 q0o (hS.pull 1)
     refine o_cc call_33 (args2 q31 rfl) hcall ?_
     rintro e w' ⟨rfl, hS⟩
     refine ⟨_, rfl, ?_⟩
     refine x_done <| ?_
     refine x_fin ⟨⟨_, rfl⟩, rfl, ?_⟩
     exact emk (hS.pull 1)
    ·intro Ep18 w l' hE18 hO18 hF_ hS
     obtain ⟨q5e, q5f, q32, q33, -⟩ := hF_
     replace q5e : Ep18 116 = .int .i64 q16.1 := emk q5e
     replace q5f : Ep18 120 = .int .i64 q17.1 := emk q5f
     replace q32 : Ep18 124 = .int .i64 q11.1 := emk q32
     replace q33 : Ep18 126 = .bool q0x.1 := emk q33
     refine p (v := .agg #[.int .i64 q16.1, .int .i64 q17.1, .int .i64 q11.1, .bool q0x.1, .int .i64 0]) (yl_build bld_39 bldf_39 (parts_eq (pt (va := .int .i64 q16.1) q5e (pt (va := .int .i64 q17.1) q5f (pt (va := .int .i64 q11.1) q32 (pt (va := .bool q0x.1) q33 pt0))))) (by kernel_rfl)) <| x_done <| ?_
     refine x_fin ⟨⟨_, rfl⟩, rfl, ?_⟩
     exact emk hS
    ·intro Ep18 w l' hE18 hO18 hF_ hS
     refine o_alloc zero_39 hS (fun q9i w' hS => ?_)
     refine x_done <| ?_
     refine x_fin ⟨⟨_, rfl⟩, rfl, ?_⟩
     exact emk hS
    ·intro Ep18 w l' hE18 hO18 hF_ hS
     obtain ⟨q34, q1r, -⟩ := hF_
     replace q34 : Ep18 127 = .agg #[.int .i64 q16.1, .int .i64 q17.1, .int .i64 q11.1, .bool q0x.1, .int .i64 0] := emk q34
     replace q1r : Ep18 6 = .pointer (some ⟨(blkOf (Ep18 6)), 0, none⟩) := emk q1r
     replace hS : St w0 w (cells (blkOf (Ep18 6)) 39 [.int .i64 0, .int .i64 0, .int .i64 0, .bool false, .int .i64 0] :: l') := emk hS
     refine o_storeAgg (news := [.int .i64 q16.1, .int .i64 q17.1, .int .i64 q11.1, .bool q0x.1, .int .i64 0]) agg_39 q1r q34 rfl (by simp [over_length]) hS (fun w' hS => ?_)
     refine x_done <| ?_
     refine x_fin ⟨⟨undef, rfl⟩, trivial, ?_⟩
     exact emk hS
   intro Ep18 w' hE18 hF_ hS
   obtain ⟨q57, q56, q58, q5e, q5a, q59, q5b, q5f, q5d, q5c, q30, q32, q31, q33, q34, q1r, -⟩ := hF_
   replace q57 : Ep18 113 = .pointer (some ⟨q5, 0, none⟩) := emk q57
   replace q56 : Ep18 114 = .pointer (some ⟨b3, 3, none⟩) := emk q56
   replace q58 : Ep18 115 = .int .i64 q0f.1 := emk q58
   replace q5e : Ep18 116 = .int .i64 q16.1 := emk q5e
   replace q5a : Ep18 117 = .pointer (some ⟨q5, 0, none⟩) := emk q5a
   replace q59 : Ep18 118 = .pointer (some ⟨b3, 0, none⟩) := emk q59
   replace q5b : Ep18 119 = .int .i64 q0a.1 := emk q5b
   replace q5f : Ep18 120 = .int .i64 q17.1 := emk q5f
   replace q5d : Ep18 121 = .pointer (some ⟨q5, 0, none⟩) := emk q5d
   replace q5c : Ep18 122 = .pointer (some ⟨b3, 1, none⟩) := emk q5c
   replace q30 : Ep18 123 = .int .i64 q0b.1 := emk q30
   replace q32 : Ep18 124 = .int .i64 q11.1 := emk q32
   replace q31 : Ep18 125 = .pointer (some ⟨q5, 0, none⟩) := emk q31
   replace q33 : Ep18 126 = .bool q0x.1 := emk q33
   replace q34 : Ep18 127 = .agg #[.int .i64 q16.1, .int .i64 q17.1, .int .i64 q11.1, .bool q0x.1, .int .i64 0] := emk q34
   replace q1r : Ep18 6 = .pointer (some ⟨(blkOf (Ep18 6)), 0, none⟩) := emk q1r
   replace hS : St w0 w' (cells b3 31 [.int .i64 q0a.1, .int .i64 q0b.1, .int .i64 q0c.1, .int .i64 q0f.1, .slice q3 q2.length c_b3_4_L3, .slice q7 q8.length c_b3_5_L7, .slice q0w q0v.length c_b3_6_L17h, .slice none 0 0] :: ro ρ :: cells q5 25 [.slice q6 s0.L.length c_s0_0, .int .i64 q0x.2] :: cells (blkOf (Ep18 6)) 39 [.int .i64 q16.1, .int .i64 q17.1, .int .i64 q11.1, .bool q0x.1, .int .i64 0] :: (cells b2 31 [.int .i64 0, .int .i64 0, .int .i64 0, .int .i64 0, .slice none 0 0, .slice none 0 0, .slice none 0 0, .slice none 0 0] :: vec 44 R_rules_Wire.sz (.slice q3 q2.length c_b3_4_L3) q2.length q0h :: vec 47 R_rules_Via.sz (.slice q7 q8.length c_b3_5_L7) q8.length q10 :: vec 39 R_rules_Pin.sz (.slice q0w q0v.length c_b3_6_L17h) q0v.length q1e :: l)) := emk hS
   refine x_seq <| x_seq <| x_region <| p (yl_field0 fld_39_3 q1r) <|
    pa (at_load one_4 rfl ((hS.pull 3).cell rfl)) <| p (yl_not rfl) <| x_done <| ?_
   replace hFL17 := bd_s hFL17; obtain ⟨oc130, hFc130, hFL17⟩ := hFL17
   refine x_join (fun E w => ∃ (q3z : Nat) (q22 : Int) (q0t : Int), (q22, q0t) = oc130 ∧ E 0 = .pointer (some ⟨q5, 0, none⟩) ∧ E 2 = .pointer (some ⟨b2, 0, none⟩) ∧ E 3 = .pointer (some ⟨b3, 0, none⟩) ∧ E 6 = .pointer (some ⟨q3z, 0, none⟩) ∧ E 110 = .int .i64 q6d.1 ∧ E 111 = .int .i64 q25 ∧ St w0 w (cells q5 25 [.slice q6 s0.L.length c_s0_0, .int .i64 q22] :: cells b2 31 [.int .i64 0, .int .i64 0, .int .i64 0, .int .i64 0, .slice none 0 0, .slice none 0 0, .slice none 0 0, .slice none 0 0] :: cells b3 31 [.int .i64 q0a.1, .int .i64 q0b.1, .int .i64 q0c.1, .int .i64 q0f.1, .slice q3 q2.length c_b3_4_L3, .slice q7 q8.length c_b3_5_L7, .slice q0w q0v.length c_b3_6_L17h, .slice none 0 0] :: cells q3z 39 [.int .i64 q16.1, .int .i64 q17.1, .int .i64 q11.1, .bool q0x.1, .int .i64 q0t] :: vec 44 R_rules_Wire.sz (.slice q3 q2.length c_b3_4_L3) q2.length q0h :: vec 47 R_rules_Via.sz (.slice q7 q8.length c_b3_5_L7) q8.length q10 :: vec 39 R_rules_Pin.sz (.slice q0w q0v.length c_b3_6_L17h) q0v.length q1e :: ro ρ :: l)) ?_ ?_
   ·refine x_cond (t := !q0x.1) rfl (fun hc130 => ?_) (fun hc130 => ?_)
    ·replace hFc130 := it_t hc130 hFc130
     refine x_region <| p (yl_move ((hE18 0 rfl).trans q1t)) <| ?_
     refine o_buildSlice (vs := [.int .i64 0, .int .i64 1, .int .i64 1, .int .i64 2, .int .i64 5]) (cs := [.int .i64 0, .int .i64 1, .int .i64 1, .int .i64 2, .int .i64 5]) sl_22 zero_3 (parts_eq (pt (va := .int .i64 0) rfl (pt (va := .int .i64 1) rfl (pt (va := .int .i64 1) rfl (pt (va := .int .i64 2) rfl (pt (va := .int .i64 5) rfl pt0)))))) rfl (by intro v hv; simp only [List.mem_cons, List.not_mem_nil, or_false] at hv; first | (subst hv; rfl) | (rcases hv with rfl | rfl | rfl | rfl | rfl <;> rfl)) (by decide) rfl hS (fun b132 w' hS => ?_)
     have q8s : RepL (RpI .i64) ρ ([0, 1, 1, 2, 5] : List Int) [.int .i64 0, .int .i64 1, .int .i64 1, .int .i64 2, .int .i64 5] := (RepL.cons (cs := [.int .i64 0]) rfl (RepL.cons (cs := [.int .i64 1]) rfl (RepL.cons (cs := [.int .i64 1]) rfl (RepL.cons (cs := [.int .i64 2]) rfl (RepL.cons (cs := [.int .i64 5]) rfl RepL.nil)))))
     replace hS := St.vec_of (n := 5) (sz := (RpI .i64).sz) hS rfl (by decide)
     replace hFc130 := bd_s hFc130; obtain ⟨q7h, q8t, hFc130⟩ := hFc130
     have q_ := St.lend ((hS.pull 2).pull 1) q8s; obtain ⟨ρl0, hll0, hlf0, hS0, back0⟩ := q_
     have hcall := c_maskmake_Stream_Pick q8t (q0o.le hll0) hlf0 (hS0.pull 2)
     refine o_cc call_43 (args2 rfl rfl) hcall ?_
     rintro e w' ⟨rfl, hS⟩
     refine ⟨_, rfl, ?_⟩
     replace hS := back0 (hS.pull 1)
     refine p (yl_field0 fld_39_4 q1r) <| ?_
     refine o_store1 (v := .int .i64 q7h.1) one_3 rfl rfl rfl rfl (hS.pull 4) (fun w' hS => ?_)
     refine x_done <| ?_
     exact x_inv ⟨(blkOf (Ep18 6)), q7h.2, q7h.1, (sinj hFc130), ((hE18 0 rfl).trans q1t), ((hE18 2 rfl).trans q6y), ((hE18 3 rfl).trans q2g), q1r, ((hE18 110 rfl).trans q3x), ((hE18 111 rfl).trans q3y), (((((((((hS.pull 1).drop.pull 1).pull 7).pull 7).pull 7).pull 4).pull 6).pull 7).pull 7)⟩
    ·replace hFc130 := it_bf hc130 hFc130
     refine x_skip <| ?_
     exact x_inv ⟨(blkOf (Ep18 6)), q0x.2, 0, (sinj hFc130), ((hE18 0 rfl).trans q1t), ((hE18 2 rfl).trans q6y), ((hE18 3 rfl).trans q2g), q1r, ((hE18 110 rfl).trans q3x), ((hE18 111 rfl).trans q3y), ((((((((hS.pull 1).pull 7).pull 7).pull 7).pull 6).pull 5).pull 7).pull 7)⟩
   rintro E w ⟨q3z, q22, q0t, rfl, q81, q82, q6z, q83, q7n, q7o, hS⟩
   refine x_region <| p (yl_field0 fld_31_6 q6z) <| pa (at_load one_28 rfl ((hS.pull 2).cell rfl)) <| pa (v := .agg #[.int .i64 q16.1, .int .i64 q17.1, .int .i64 q11.1, .bool q0x.1, .int .i64 q0t]) (ld_sub agg_39 q83 rfl rfl (hS.pull 3)) <| ?_
   refine o_buildSlice (vs := [.agg #[.int .i64 q16.1, .int .i64 q17.1, .int .i64 q11.1, .bool q0x.1, .int .i64 q0t]]) (cs := [.int .i64 q16.1, .int .i64 q17.1, .int .i64 q11.1, .bool q0x.1, .int .i64 q0t]) sl_28 zero_39 (parts_eq (pt (va := .agg #[.int .i64 q16.1, .int .i64 q17.1, .int .i64 q11.1, .bool q0x.1, .int .i64 q0t]) rfl pt0)) rfl (by intro v hv; simp only [List.mem_cons, List.not_mem_nil, or_false] at hv; first | (subst hv; rfl) | (rcases hv with rfl <;> rfl)) (by decide) rfl hS (fun b138 w' hS => ?_)
   replace hFL17 := lv_s hFL17; obtain ⟨q7i, q8u, hFL17⟩ := hFL17
   replace hFL17 := ck_s hFL17; obtain ⟨q8v, hFL17⟩ := hFL17
   refine o_ap sl_28 zero_39 rfl (by decide) rfl rfl (hS.pull 7) q2q (src_blk usl_28 hS rfl rfl) (RepL.cons (R := R_rules_Pin) (ρ := ρ) (x := (T_rules_Pin.mk q16.1 q17.1 q11.1 q0x.1 q0t)) (cs := [.int .i64 q16.1, .int .i64 q17.1, .int .i64 q11.1, .bool q0x.1, .int .i64 q0t]) rfl RepL.nil) q8u q8v (fun A139 c139 cs139 w' hr139 hS => ?_)
   refine p (yl_field0 fld_31_6 q6z) <| ?_
   refine o_store1 (v := .slice A139 q7i.length c139) one_28 rfl rfl rfl rfl (hS.pull 4) (fun w' hS => ?_)
   replace hFL17 := ar_s hFL17; obtain ⟨x141, hx141, hFL17⟩ := hFL17
   refine x_done <| x_blk <| x_region <| p (yadd q7o rfl hx141) <|
    p (yl_move rfl) <| x_done <| ?_
   have e_ := sinj hFL17; subst e_
   exact x_inv ⟨kL17, Nat.lt_succ_self _, A139, q7i.length, c139, cs139, x141, q22, q7i, hLL17, q81, q82, q6z, q7n, rfl, hr139, (((((((((hS.pull 2).drop.pull 4).drop.pull 6).pull 2).pull 6).pull 6).pull 4).pull 6).pull 6)⟩
  ·replace hFL17 := it_f hc112 hFL17
   refine x_exitTo _ rfl <| ?_
   have e_ := sinj hFL17; subst e_
   exact x_inv ⟨q0w, q0v.length, c_b3_6_L17h, q1e, q1i, q0v, hLL17, q1t, q6y, q2g, q2q, (((((((hS.pull 6).pull 6).pull 6).pull 6).pull 6).pull 6).pull 6)⟩
 rintro E w ⟨q0i, q2e, c_b3_6_L17, q18, q3s, q0j, rfl, q7p, q8w, q8x, q6e, hS⟩
 have e_ := St.vec_n (hS.pull 5) q6e; subst e_
 replace hF := bd_s hF; obtain ⟨q75, q8y, hF⟩ := hF
 refine x_seq <| x_seq <| x_region <| p (yl_move q7p) <| ?_
 have hcall := c_maskmake_Stream_Next q8y q0o ((hS.pull 6).pull 1)
 refine o_cc call_9 (args2 rfl rfl) hcall ?_
 rintro e w' ⟨rfl, hS⟩
 refine ⟨_, rfl, ?_⟩
 refine p (yl_move rfl) <| x_done <| ?_
 replace hF := bd_s hF; obtain ⟨oL24, hLL24, hF⟩ := hF
 refine x_join (fun E w => ∃ (q1n : Option Addr) (q2f : Nat) (c_b3_7_L24 : Nat) (q23 : List Value) (q1y : List T_floor_Wall) (q3t : Int), (q1y, q3t) = oL24 ∧ E 2 = .pointer (some ⟨b2, 0, none⟩) ∧ E 3 = .pointer (some ⟨b3, 0, none⟩) ∧ RepL R_floor_Wall ρ q1y q23 ∧ St w0 w (cells b2 31 [.int .i64 0, .int .i64 0, .int .i64 0, .int .i64 0, .slice none 0 0, .slice none 0 0, .slice none 0 0, .slice none 0 0] :: cells b3 31 [.int .i64 q0a.1, .int .i64 q0b.1, .int .i64 q0c.1, .int .i64 q0f.1, .slice q3 q2.length c_b3_4_L3, .slice q7 q8.length c_b3_5_L7, .slice q0i q0j.length c_b3_6_L17, .slice q1n q2f c_b3_7_L24] :: cells q5 25 [.slice q6 s0.L.length c_s0_0, .int .i64 q3t] :: vec 44 R_rules_Wire.sz (.slice q3 q2.length c_b3_4_L3) q2.length q0h :: vec 47 R_rules_Via.sz (.slice q7 q8.length c_b3_5_L7) q8.length q10 :: vec 39 R_rules_Pin.sz (.slice q0i q0j.length c_b3_6_L17) q0j.length q18 :: vec 66 R_floor_Wall.sz (.slice q1n q2f c_b3_7_L24) q2f q23 :: ro ρ :: l)) ?_ ?_
 ·refine x_block ?_
  replace hS := St.vec_nil hS 66 R_floor_Wall.sz
  have q64 : RepL R_floor_Wall ρ [] [] := rfl
  refine x_loop (fun k_ E w => ∃ (q0k : Option Addr) (q24 : Nat) (c_b3_7_L24h : Nat) (q1a : List Value) (q2p : Int) (q1j : Int) (q0l : List T_floor_Wall), lp (P_maskmake_Stream_Layout_L24 s0 q0a q0b q0c q75) k_ (q2p, q1j, q0l) = some oL24 ∧ E 0 = .pointer (some ⟨q5, 0, none⟩) ∧ E 2 = .pointer (some ⟨b2, 0, none⟩) ∧ E 3 = .pointer (some ⟨b3, 0, none⟩) ∧ E 143 = .int .i64 q75.1 ∧ E 144 = .int .i64 q2p ∧ RepL R_floor_Wall ρ q0l q1a ∧ St w0 w (cells q5 25 [.slice q6 s0.L.length c_s0_0, .int .i64 q1j] :: cells b2 31 [.int .i64 0, .int .i64 0, .int .i64 0, .int .i64 0, .slice none 0 0, .slice none 0 0, .slice none 0 0, .slice none 0 0] :: cells b3 31 [.int .i64 q0a.1, .int .i64 q0b.1, .int .i64 q0c.1, .int .i64 q0f.1, .slice q3 q2.length c_b3_4_L3, .slice q7 q8.length c_b3_5_L7, .slice q0i q0j.length c_b3_6_L17, .slice q0k q24 c_b3_7_L24h] :: vec 44 R_rules_Wire.sz (.slice q3 q2.length c_b3_4_L3) q2.length q0h :: vec 47 R_rules_Via.sz (.slice q7 q8.length c_b3_5_L7) q8.length q10 :: vec 39 R_rules_Pin.sz (.slice q0i q0j.length c_b3_6_L17) q0j.length q18 :: vec 66 R_floor_Wall.sz (.slice q0k q24 c_b3_7_L24h) q24 q1a :: ro ρ :: l)) fuel ⟨none, 0, 0, [], 0, q75.2, [], hLL24, q7p, q8w, q8x, rfl, rfl, q64, ((((((((hS.pull 2).pull 1).pull 7).pull 7).pull 7).pull 7).pull 7).pull 7)⟩ ?_
  rintro kL24 E w ⟨q0k, q24, c_b3_7_L24h, q1a, q2p, q1j, q0l, hLL24, q2h, q7e, q1o, q73, q74, q2r, hS⟩
  have e_ := St.vec_n (hS.pull 6) q2r; subst e_
  replace hLL24 := lp_s hLL24; obtain ⟨kL24, obL24, rfl, hFL24, hLL24⟩ := hLL24
  refine x_seq <| x_region <| p (yl_lss q74 q73) <| x_done <|
   x_seq <|
   x_cond_p (q2p < q75.1) rfl (fun hc145 => ?_) (fun hc145 => ?_)
  ·replace hFL24 := it_t hc145 hFL24
   refine x_skip <| x_seq <| x_block <| x_seq <| ?_
   replace hFL24 := bd_s hFL24; obtain ⟨q0y, q8z, hFL24⟩ := hFL24
   replace hFL24 := bd_s hFL24; obtain ⟨q0u, q90, hFL24⟩ := hFL24
   refine x_par (w0 := w0) [⟨[], [], [146], [], [], [], none⟩, ⟨[], [], [147], [], [], [], none⟩, ⟨[1], [1], [148], [0], [], [], none⟩, ⟨[0, 1, 2], [0, 2], [149], [2], [1], [3], none⟩, ⟨[], [], [150], [], [], [], none⟩, ⟨[], [], [151], [], [], [], none⟩, ⟨[5], [5], [152], [0], [], [], none⟩, ⟨[0, 1, 2, 3, 4, 5, 6], [4, 6], [153], [2], [3], [4], none⟩, ⟨[0, 1, 2, 3, 4, 5, 6, 7], [3], [7], [], [], [], none⟩, ⟨[0, 1, 2, 3, 4, 5, 6, 7, 8], [7], [8], [], [], [], none⟩] [⟨none, none, []⟩, ⟨none, (some 3), []⟩, ⟨none, none, []⟩, ⟨(some 3), (some 7), []⟩, ⟨(some 7), none, []⟩] [7, 8, 146, 147, 148, 149, 150, 151, 152, 153] [0, 1, 2] [0, 2, 4] [0, 1, 2, 3, 4, 5, 6, 7, 8, 9] [fun Ep25 => Ep25 146 = .pointer (some ⟨q5, 0, none⟩), fun Ep25 => Ep25 147 = .pointer (some ⟨b3, 0, none⟩), fun Ep25 => Ep25 148 = .int .i64 q0a.1, fun Ep25 => Ep25 149 = .int .i64 q0y.1, fun Ep25 => Ep25 150 = .pointer (some ⟨q5, 0, none⟩), fun Ep25 => Ep25 151 = .pointer (some ⟨b3, 1, none⟩), fun Ep25 => Ep25 152 = .int .i64 q0b.1, fun Ep25 => Ep25 153 = .int .i64 q0u.1, fun Ep25 => Ep25 7 = .int .i64 q0y.1, fun Ep25 => Ep25 8 = .int .i64 q0u.1] [fun Ep25 => cells b3 31 [.int .i64 q0a.1, .int .i64 q0b.1, .int .i64 q0c.1, .int .i64 q0f.1, .slice q3 q2.length c_b3_4_L3, .slice q7 q8.length c_b3_5_L7, .slice q0i q0j.length c_b3_6_L17, .slice q0k q0l.length c_b3_7_L24h], fun Ep25 => cells q5 25 [.slice q6 s0.L.length c_s0_0, .int .i64 q1j], fun Ep25 => ro ρ, fun Ep25 => cells q5 25 [.slice q6 s0.L.length c_s0_0, .int .i64 q0y.2], fun Ep25 => cells q5 25 [.slice q6 s0.L.length c_s0_0, .int .i64 q0u.2]] mixed (by kernel_rfl) (((hS.pull 7).pull 1).pull 3) ?_ ?_
   ·refine ⟨?_, ?_, ?_, ?_, ?_, ?_, ?_, ?_, ?_, ?_, trivial⟩
    ·intro Ep25 w l' hE25 hO25 hF_ hS
     refine p (yl_move ((hE25 0 rfl).trans q2h)) <| x_done <| ?_
     refine x_fin ⟨⟨_, rfl⟩, rfl, ?_⟩
     exact emk hS
    ·intro Ep25 w l' hE25 hO25 hF_ hS
     refine p (yl_field0 fld_31_0 ((hE25 3 rfl).trans q1o)) <| x_done <| ?_
     refine x_fin ⟨⟨_, rfl⟩, rfl, ?_⟩
     exact emk hS
    ·intro Ep25 w l' hE25 hO25 hF_ hS
     obtain ⟨q5g, -⟩ := hF_
     replace q5g : Ep25 147 = .pointer (some ⟨b3, 0, none⟩) := emk q5g
     replace hS : St w0 w (cells b3 31 [.int .i64 q0a.1, .int .i64 q0b.1, .int .i64 q0c.1, .int .i64 q0f.1, .slice q3 q2.length c_b3_4_L3, .slice q7 q8.length c_b3_5_L7, .slice q0i q0j.length c_b3_6_L17, .slice q0k q0l.length c_b3_7_L24h] :: l') := emk hS
     refine pa (at_load one_3 q5g (hS.cell rfl)) <| x_done <| ?_
     refine x_fin ⟨⟨_, rfl⟩, rfl, ?_⟩
     exact emk hS
    ·intro Ep25 w l' hE25 hO25 hF_ hS
     obtain ⟨q5h, q5i, -⟩ := hF_
     replace q5h : Ep25 146 = .pointer (some ⟨q5, 0, none⟩) := emk q5h
     replace q5i : Ep25 148 = .int .i64 q0a.1 := emk q5i
     replace hS : St w0 w (ro ρ :: cells q5 25 [.slice q6 s0.L.length c_s0_0, .int .i64 q1j] :: l') := emk hS
     have hcall := c_maskmake_Stream_Next q8z q0o (hS.pull 1)
     refine o_cc call_9 (args2 q5h q5i) hcall ?_
     rintro e w' ⟨rfl, hS⟩
     refine ⟨_, rfl, ?_⟩
     refine x_done <| ?_
     refine x_fin ⟨⟨_, rfl⟩, rfl, ?_⟩
     exact emk (hS.pull 1)
    ·intro Ep25 w l' hE25 hO25 hF_ hS
     refine p (yl_move ((hE25 0 rfl).trans q2h)) <| x_done <| ?_
     refine x_fin ⟨⟨_, rfl⟩, rfl, ?_⟩
     exact emk hS
    ·intro Ep25 w l' hE25 hO25 hF_ hS
     refine p (yl_field0 fld_31_1 ((hE25 3 rfl).trans q1o)) <| x_done <| ?_
     refine x_fin ⟨⟨_, rfl⟩, rfl, ?_⟩
     exact emk hS
    ·intro Ep25 w l' hE25 hO25 hF_ hS
     obtain ⟨q5j, -⟩ := hF_
     replace q5j : Ep25 151 = .pointer (some ⟨b3, 1, none⟩) := emk q5j
     replace hS : St w0 w (cells b3 31 [.int .i64 q0a.1, .int .i64 q0b.1, .int .i64 q0c.1, .int .i64 q0f.1, .slice q3 q2.length c_b3_4_L3, .slice q7 q8.length c_b3_5_L7, .slice q0i q0j.length c_b3_6_L17, .slice q0k q0l.length c_b3_7_L24h] :: l') := emk hS
     refine pa (at_load one_3 q5j (hS.cell rfl)) <| x_done <| ?_
     refine x_fin ⟨⟨_, rfl⟩, rfl, ?_⟩
     exact emk hS
    ·intro Ep25 w l' hE25 hO25 hF_ hS
     obtain ⟨q5k, q5l, -⟩ := hF_
     replace q5k : Ep25 150 = .pointer (some ⟨q5, 0, none⟩) := emk q5k
     replace q5l : Ep25 152 = .int .i64 q0b.1 := emk q5l
     replace hS : St w0 w (ro ρ :: cells q5 25 [.slice q6 s0.L.length c_s0_0, .int .i64 q0y.2] :: l') := emk hS
     have hcall := c_maskmake_Stream_Next q90 q0o (hS.pull 1)
     refine o_cc call_9 (args2 q5k q5l) hcall ?_
     rintro e w' ⟨rfl, hS⟩
     refine ⟨_, rfl, ?_⟩
     refine x_done <| ?_
     refine x_fin ⟨⟨_, rfl⟩, rfl, ?_⟩
     exact emk (hS.pull 1)
    ·intro Ep25 w l' hE25 hO25 hF_ hS
     obtain ⟨q5m, -⟩ := hF_
     replace q5m : Ep25 149 = .int .i64 q0y.1 := emk q5m
     refine p (yl_assign q5m) <| x_done <| ?_
     refine x_fin ⟨⟨_, rfl⟩, rfl, ?_⟩
     exact emk hS
    ·intro Ep25 w l' hE25 hO25 hF_ hS
     obtain ⟨q5n, -⟩ := hF_
     replace q5n : Ep25 153 = .int .i64 q0u.1 := emk q5n
     refine p (yl_assign q5n) <| x_done <| ?_
     refine x_fin ⟨⟨_, rfl⟩, rfl, ?_⟩
     exact emk hS
   intro Ep25 w' hE25 hF_ hS
   obtain ⟨q5h, q5g, q5i, q5m, q5k, q5j, q5l, q5n, q76, q77, -⟩ := hF_
   replace q5h : Ep25 146 = .pointer (some ⟨q5, 0, none⟩) := emk q5h
   replace q5g : Ep25 147 = .pointer (some ⟨b3, 0, none⟩) := emk q5g
   replace q5i : Ep25 148 = .int .i64 q0a.1 := emk q5i
   replace q5m : Ep25 149 = .int .i64 q0y.1 := emk q5m
   replace q5k : Ep25 150 = .pointer (some ⟨q5, 0, none⟩) := emk q5k
   replace q5j : Ep25 151 = .pointer (some ⟨b3, 1, none⟩) := emk q5j
   replace q5l : Ep25 152 = .int .i64 q0b.1 := emk q5l
   replace q5n : Ep25 153 = .int .i64 q0u.1 := emk q5n
   replace q76 : Ep25 7 = .int .i64 q0y.1 := emk q76
   replace q77 : Ep25 8 = .int .i64 q0u.1 := emk q77
   replace hS : St w0 w' (cells b3 31 [.int .i64 q0a.1, .int .i64 q0b.1, .int .i64 q0c.1, .int .i64 q0f.1, .slice q3 q2.length c_b3_4_L3, .slice q7 q8.length c_b3_5_L7, .slice q0i q0j.length c_b3_6_L17, .slice q0k q0l.length c_b3_7_L24h] :: ro ρ :: cells q5 25 [.slice q6 s0.L.length c_s0_0, .int .i64 q0u.2] :: (cells b2 31 [.int .i64 0, .int .i64 0, .int .i64 0, .int .i64 0, .slice none 0 0, .slice none 0 0, .slice none 0 0, .slice none 0 0] :: vec 44 R_rules_Wire.sz (.slice q3 q2.length c_b3_4_L3) q2.length q0h :: vec 47 R_rules_Via.sz (.slice q7 q8.length c_b3_5_L7) q8.length q10 :: vec 39 R_rules_Pin.sz (.slice q0i q0j.length c_b3_6_L17) q0j.length q18 :: vec 66 R_floor_Wall.sz (.slice q0k q0l.length c_b3_7_L24h) q0l.length q1a :: l)) := emk hS
   replace hFL24 := bd_s hFL24; obtain ⟨q1b, q91, hFL24⟩ := hFL24
   replace hFL24 := ar_s hFL24; obtain ⟨x164, hx164, hFL24⟩ := hFL24
   replace hFL24 := bd_s hFL24; obtain ⟨q40, q84, hFL24⟩ := hFL24
   replace hFL24 := ar_s hFL24; obtain ⟨x168, hx168, hFL24⟩ := hFL24
   replace hFL24 := lv_s hFL24; obtain ⟨x169, hx169, hFL24⟩ := hFL24
   replace hFL24 := ar_s hFL24; obtain ⟨x172, hx172, hFL24⟩ := hFL24
   replace hFL24 := bd_s hFL24; obtain ⟨q35, q85, hFL24⟩ := hFL24
   replace hFL24 := ar_s hFL24; obtain ⟨x176, hx176, hFL24⟩ := hFL24
   replace hFL24 := lv_s hFL24; obtain ⟨x177, hx177, hFL24⟩ := hFL24
   replace hFL24 := lv_s hFL24; obtain ⟨q14, q86, hFL24⟩ := hFL24
   replace hFL24 := ck_s hFL24; obtain ⟨q87, hFL24⟩ := hFL24
   refine x_par (w0 := w0) [⟨[], [], [154], [], [], [], none⟩, ⟨[0], [0], [155], [0], [], [], none⟩, ⟨[], [], [156], [], [], [], none⟩, ⟨[], [], [157], [], [], [], none⟩, ⟨[3], [3], [158], [0], [], [], none⟩, ⟨[2, 3, 4], [2, 4], [159], [2], [1], [3], none⟩, ⟨[], [], [160], [], [], [], none⟩, ⟨[], [], [161], [], [], [], none⟩, ⟨[], [], [162], [], [], [], none⟩, ⟨[8], [8], [163], [0], [], [], none⟩, ⟨[8, 9], [9], [164], [], [], [], none⟩, ⟨[], [], [165], [], [], [], none⟩, ⟨[], [], [166], [], [], [], none⟩, ⟨[2, 3, 4, 5, 12], [12], [167], [2], [3], [4], none⟩, ⟨[2, 3, 4, 5, 11, 12, 13], [11, 13], [168], [], [], [], none⟩, ⟨[2, 3, 4, 5, 8, 9, 10, 11, 12, 13, 14], [10, 14], [169], [], [], [], none⟩, ⟨[], [], [170], [], [], [], none⟩, ⟨[16], [16], [171], [0], [], [], none⟩, ⟨[16, 17], [17], [172], [], [], [], none⟩, ⟨[], [], [173], [], [], [], none⟩, ⟨[], [], [174], [], [], [], none⟩, ⟨[2, 3, 4, 5, 12, 13, 20], [20], [175], [2], [4], [5], none⟩, ⟨[2, 3, 4, 5, 12, 13, 19, 20, 21], [19, 21], [176], [], [], [], none⟩, ⟨[2, 3, 4, 5, 12, 13, 16, 17, 18, 19, 20, 21, 22], [18, 22], [177], [], [], [], none⟩, ⟨[2, 3, 4, 5, 6, 7, 8, 9, 10, 11, 12, 13, 14, 15, 16, 17, 18, 19, 20, 21, 22, 23], [5, 6, 7, 15, 23], [178], [], [], [], none⟩, ⟨[2, 3, 4, 5, 6, 7, 8, 9, 10, 11, 12, 13, 14, 15, 16, 17, 18, 19, 20, 21, 22, 23, 24], [24], [179], [], [], [6], none⟩, ⟨[0, 1, 2, 3, 4, 5, 6, 7, 8, 9, 10, 11, 12, 13, 14, 15, 16, 17, 18, 19, 20, 21, 22, 23, 24, 25], [1, 25], [180], [6, 2], [7], [8], none⟩, ⟨[0, 1, 2, 3, 4, 5, 6, 7, 8, 9, 10, 11, 12, 13, 14, 15, 16, 17, 18, 19, 20, 21, 22, 23, 24, 25, 26], [], [181], [], [], [], none⟩, ⟨[0, 1, 2, 3, 4, 5, 6, 7, 8, 9, 10, 11, 12, 13, 14, 15, 16, 17, 18, 19, 20, 21, 22, 23, 24, 25, 26, 27], [26, 27], [], [], [0], [9], none⟩] [⟨none, (some 28), []⟩, ⟨none, (some 5), []⟩, ⟨none, none, []⟩, ⟨(some 5), (some 13), []⟩, ⟨(some 13), (some 21), []⟩, ⟨(some 21), none, []⟩, ⟨(some 25), none, [179]⟩, ⟨none, (some 26), []⟩, ⟨(some 26), none, [180]⟩, ⟨(some 28), none, [180]⟩] [154, 155, 156, 157, 158, 159, 160, 161, 162, 163, 164, 165, 166, 167, 168, 169, 170, 171, 172, 173, 174, 175, 176, 177, 178, 179, 180, 181] [0, 1, 2, 7] [2, 5, 6, 8, 9] [0, 1, 2, 3, 4, 5, 6, 7, 8, 9, 10, 11, 12, 13, 14, 15, 16, 17, 18, 19, 20, 21, 22, 23, 24, 25, 26, 27] [fun Ep26 => Ep26 154 = .pointer (some ⟨b3, 7, none⟩), fun Ep26 => Ep26 155 = .slice q0k q0l.length c_b3_7_L24h, fun Ep26 => Ep26 156 = .pointer (some ⟨q5, 0, none⟩), fun Ep26 => Ep26 157 = .pointer (some ⟨b3, 2, none⟩), fun Ep26 => Ep26 158 = .int .i64 q0c.1, fun Ep26 => Ep26 159 = .int .i64 q1b.1, fun Ep26 => Ep26 160 = .int .i64 q0y.1, fun Ep26 => Ep26 161 = .int .i64 q0u.1, fun Ep26 => Ep26 162 = .pointer (some ⟨b3, 0, none⟩), fun Ep26 => Ep26 163 = .int .i64 q0a.1, fun Ep26 => Ep26 164 = .int .i64 x164, fun Ep26 => Ep26 165 = .int .i64 q0y.1, fun Ep26 => Ep26 166 = .pointer (some ⟨q5, 0, none⟩), fun Ep26 => Ep26 167 = .int .i64 q40.1, fun Ep26 => Ep26 168 = .int .i64 x168, fun Ep26 => Ep26 169 = .int .i64 x169, fun Ep26 => Ep26 170 = .pointer (some ⟨b3, 1, none⟩), fun Ep26 => Ep26 171 = .int .i64 q0b.1, fun Ep26 => Ep26 172 = .int .i64 x172, fun Ep26 => Ep26 173 = .int .i64 q0u.1, fun Ep26 => Ep26 174 = .pointer (some ⟨q5, 0, none⟩), fun Ep26 => Ep26 175 = .int .i64 q35.1, fun Ep26 => Ep26 176 = .int .i64 x176, fun Ep26 => Ep26 177 = .int .i64 x177, fun Ep26 => Ep26 178 = .agg #[.int .i64 q1b.1, .int .i64 q0y.1, .int .i64 q0u.1, .int .i64 x169, .int .i64 x177], fun Ep26 => Ep26 179 = .slice (some ⟨(blkOf (Ep26 179)), 0, none⟩) 1 1, fun Ep26 => Ep26 180 = .slice (adOf (Ep26 180)) q14.length (capOf (Ep26 180)), fun Ep26 => Ep26 181 = .pointer (some ⟨b3, 7, none⟩), fun Ep26 => True] [fun Ep26 => cells b3 31 [.int .i64 q0a.1, .int .i64 q0b.1, .int .i64 q0c.1, .int .i64 q0f.1, .slice q3 q2.length c_b3_4_L3, .slice q7 q8.length c_b3_5_L7, .slice q0i q0j.length c_b3_6_L17, .slice q0k q0l.length c_b3_7_L24h], fun Ep26 => cells q5 25 [.slice q6 s0.L.length c_s0_0, .int .i64 q0u.2], fun Ep26 => ro ρ, fun Ep26 => cells q5 25 [.slice q6 s0.L.length c_s0_0, .int .i64 q1b.2], fun Ep26 => cells q5 25 [.slice q6 s0.L.length c_s0_0, .int .i64 q40.2], fun Ep26 => cells q5 25 [.slice q6 s0.L.length c_s0_0, .int .i64 q35.2], fun Ep26 => cells (blkOf (Ep26 179)) 66 [.int .i64 q1b.1, .int .i64 q0y.1, .int .i64 q0u.1, .int .i64 x169, .int .i64 x177], fun Ep26 => vec 66 R_floor_Wall.sz (.slice q0k q0l.length c_b3_7_L24h) q0l.length q1a, fun Ep26 => bunA (fun (cs180 : List Value) => RepL R_floor_Wall ρ q14 cs180) (fun (cs180 : List Value) => [vec 66 R_floor_Wall.sz (.slice (adOf (Ep26 180)) q14.length (capOf (Ep26 180))) q14.length cs180]), fun Ep26 => cells b3 31 [.int .i64 q0a.1, .int .i64 q0b.1, .int .i64 q0c.1, .int .i64 q0f.1, .slice q3 q2.length c_b3_4_L3, .slice q7 q8.length c_b3_5_L7, .slice q0i q0j.length c_b3_6_L17, .slice (adOf (Ep26 180)) q14.length (capOf (Ep26 180))]] mixed (by kernel_rfl) ((((hS.pull 7).pull 2).pull 3).pull 3) ?_ ?_
   ·refine ⟨?_, ?_, ?_, ?_, ?_, ?_, ?_, ?_, ?_, ?_, ?_, ?_, ?_, ?_, ?_, ?_, ?_, ?_, ?_, ?_, ?_, ?_, ?_, ?_, ?_, ?_, ?_, ?_, ?_, trivial⟩
    ·intro Ep26 w l' hE26 hO26 hF_ hS
     refine p (yl_field0 fld_31_7 ((hE26 3 rfl).trans ((hE25 3 rfl).trans q1o))) <| x_done <| ?_
     refine x_fin ⟨⟨_, rfl⟩, rfl, ?_⟩
     exact emk hS
    ·intro Ep26 w l' hE26 hO26 hF_ hS
     obtain ⟨q5o, -⟩ := hF_
     replace q5o : Ep26 154 = .pointer (some ⟨b3, 7, none⟩) := emk q5o
     replace hS : St w0 w (cells b3 31 [.int .i64 q0a.1, .int .i64 q0b.1, .int .i64 q0c.1, .int .i64 q0f.1, .slice q3 q2.length c_b3_4_L3, .slice q7 q8.length c_b3_5_L7, .slice q0i q0j.length c_b3_6_L17, .slice q0k q0l.length c_b3_7_L24h] :: l') := emk hS
     refine pa (at_load one_29 q5o (hS.cell rfl)) <| x_done <| ?_
     refine x_fin ⟨⟨_, rfl⟩, rfl, ?_⟩
     exact emk hS
    ·intro Ep26 w l' hE26 hO26 hF_ hS
     refine p (yl_move ((hE26 0 rfl).trans ((hE25 0 rfl).trans q2h))) <| x_done <| ?_
     refine x_fin ⟨⟨_, rfl⟩, rfl, ?_⟩
     exact emk hS
    ·intro Ep26 w l' hE26 hO26 hF_ hS
     refine p (yl_field0 fld_31_2 ((hE26 3 rfl).trans ((hE25 3 rfl).trans q1o))) <| x_done <| ?_
     refine x_fin ⟨⟨_, rfl⟩, rfl, ?_⟩
     exact emk hS
    ·intro Ep26 w l' hE26 hO26 hF_ hS
     obtain ⟨q5p, -⟩ := hF_
     replace q5p : Ep26 157 = .pointer (some ⟨b3, 2, none⟩) := emk q5p
     replace hS : St w0 w (cells b3 31 [.int .i64 q0a.1, .int .i64 q0b.1, .int .i64 q0c.1, .int .i64 q0f.1, .slice q3 q2.length c_b3_4_L3, .slice q7 q8.length c_b3_5_L7, .slice q0i q0j.length c_b3_6_L17, .slice q0k q0l.length c_b3_7_L24h] :: l') := emk hS
     refine pa (at_load one_3 q5p (hS.cell rfl)) <| x_done <| ?_
     refine x_fin ⟨⟨_, rfl⟩, rfl, ?_⟩
     exact emk hS
    ·intro Ep26 w l' hE26 hO26 hF_ hS
     obtain ⟨q5q, q5r, -⟩ := hF_
     replace q5q : Ep26 156 = .pointer (some ⟨q5, 0, none⟩) := emk q5q
     replace q5r : Ep26 158 = .int .i64 q0c.1 := emk q5r
     replace hS : St w0 w (ro ρ :: cells q5 25 [.slice q6 s0.L.length c_s0_0, .int .i64 q0u.2] :: l') := emk hS
     have hcall := c_maskmake_Stream_Next q91 q0o (hS.pull 1)
     refine o_cc call_9 (args2 q5q q5r) hcall ?_
     rintro e w' ⟨rfl, hS⟩
     refine ⟨_, rfl, ?_⟩
     refine x_done <| ?_
     refine x_fin ⟨⟨_, rfl⟩, rfl, ?_⟩
     exact emk (hS.pull 1)
    ·intro Ep26 w l' hE26 hO26 hF_ hS
     refine p (yl_move ((hE26 7 rfl).trans q76)) <| x_done <| ?_
     refine x_fin ⟨⟨_, rfl⟩, rfl, ?_⟩
     exact emk hS
    ·intro Ep26 w l' hE26 hO26 hF_ hS
     refine p (yl_move ((hE26 8 rfl).trans q77)) <| x_done <| ?_
     refine x_fin ⟨⟨_, rfl⟩, rfl, ?_⟩
     exact emk hS
    ·intro Ep26 w l' hE26 hO26 hF_ hS
     refine p (yl_field0 fld_31_0 ((hE26 3 rfl).trans ((hE25 3 rfl).trans q1o))) <| x_done <| ?_
     refine x_fin ⟨⟨_, rfl⟩, rfl, ?_⟩
     exact emk hS
    ·intro Ep26 w l' hE26 hO26 hF_ hS
     obtain ⟨q5s, -⟩ := hF_
     replace q5s : Ep26 162 = .pointer (some ⟨b3, 0, none⟩) := emk q5s
     replace hS : St w0 w (cells b3 31 [.int .i64 q0a.1, .int .i64 q0b.1, .int .i64 q0c.1, .int .i64 q0f.1, .slice q3 q2.length c_b3_4_L3, .slice q7 q8.length c_b3_5_L7, .slice q0i q0j.length c_b3_6_L17, .slice q0k q0l.length c_b3_7_L24h] :: l') := emk hS
     refine pa (at_load one_3 q5s (hS.cell rfl)) <| x_done <| ?_
     refine x_fin ⟨⟨_, rfl⟩, rfl, ?_⟩
     exact emk hS
    ·intro Ep26 w l' hE26 hO26 hF_ hS
     obtain ⟨q5t, -⟩ := hF_
     replace q5t : Ep26 163 = .int .i64 q0a.1 := emk q5t
     refine p (ysub q5t rfl hx164) <| x_done <| ?_
     refine x_fin ⟨⟨_, rfl⟩, rfl, ?_⟩
     exact emk hS
    ·intro Ep26 w l' hE26 hO26 hF_ hS
     refine p (yl_move ((hE26 7 rfl).trans q76)) <| x_done <| ?_
     refine x_fin ⟨⟨_, rfl⟩, rfl, ?_⟩
     exact emk hS
    ·intro Ep26 w l' hE26 hO26 hF_ hS
     refine p (yl_move ((hE26 0 rfl).trans ((hE25 0 rfl).trans q2h))) <| x_done <| ?_
     refine x_fin ⟨⟨_, rfl⟩, rfl, ?_⟩
     exact emk hS
    ·intro Ep26 w l' hE26 hO26 hF_ hS
     obtain ⟨q36, -⟩ := hF_
     replace q36 : Ep26 166 = .pointer (some ⟨q5, 0, none⟩) := emk q36
     replace hS : St w0 w (ro ρ :: cells q5 25 [.slice q6 s0.L.length c_s0_0, .int .i64 q1b.2] :: l') := emk hS
     have hcall := c_maskmake_Stream_Next q84 q0o (hS.pull 1)
     refine o_cc call_9 (args2 q36 rfl) hcall ?_
     rintro e w' ⟨rfl, hS⟩
     refine ⟨_, rfl, ?_⟩
     refine x_done <| ?_
     refine x_fin ⟨⟨_, rfl⟩, rfl, ?_⟩
     exact emk (hS.pull 1)
    ·intro Ep26 w l' hE26 hO26 hF_ hS
     obtain ⟨q37, q38, -⟩ := hF_
     replace q37 : Ep26 165 = .int .i64 q0y.1 := emk q37
     replace q38 : Ep26 167 = .int .i64 q40.1 := emk q38
     refine p (yadd q37 q38 hx168) <| x_done <| ?_
     refine x_fin ⟨⟨_, rfl⟩, rfl, ?_⟩
     exact emk hS
    ·intro Ep26 w l' hE26 hO26 hF_ hS
     obtain ⟨q39, q3a, -⟩ := hF_
     replace q39 : Ep26 164 = .int .i64 x164 := emk q39
     replace q3a : Ep26 168 = .int .i64 x168 := emk q3a
     refine p (ymin' q39 q3a hx169) <| x_done <| ?_
     refine x_fin ⟨⟨_, rfl⟩, rfl, ?_⟩
     exact emk hS
    ·intro Ep26 w l' hE26 hO26 hF_ hS
     refine p (yl_field0 fld_31_1 ((hE26 3 rfl).trans ((hE25 3 rfl).trans q1o))) <| x_done <| ?_
     refine x_fin ⟨⟨_, rfl⟩, rfl, ?_⟩
     exact emk hS
    ·intro Ep26 w l' hE26 hO26 hF_ hS
     obtain ⟨q3b, -⟩ := hF_
     replace q3b : Ep26 170 = .pointer (some ⟨b3, 1, none⟩) := emk q3b
     replace hS : St w0 w (cells b3 31 [.int .i64 q0a.1, .int .i64 q0b.1, .int .i64 q0c.1, .int .i64 q0f.1, .slice q3 q2.length c_b3_4_L3, .slice q7 q8.length c_b3_5_L7, .slice q0i q0j.length c_b3_6_L17, .slice q0k q0l.length c_b3_7_L24h] :: l') := emk hS
     refine pa (at_load one_3 q3b (hS.cell rfl)) <| x_done <| ?_
     refine x_fin ⟨⟨_, rfl⟩, rfl, ?_⟩
     exact emk hS
    ·intro Ep26 w l' hE26 hO26 hF_ hS
     obtain ⟨q3c, -⟩ := hF_
     replace q3c : Ep26 171 = .int .i64 q0b.1 := emk q3c
     refine p (ysub q3c rfl hx172) <| x_done <| ?_
     refine x_fin ⟨⟨_, rfl⟩, rfl, ?_⟩
     exact emk hS
    ·intro Ep26 w l' hE26 hO26 hF_ hS
     refine p (yl_move ((hE26 8 rfl).trans q77)) <| x_done <| ?_
     refine x_fin ⟨⟨_, rfl⟩, rfl, ?_⟩
     exact emk hS
    ·intro Ep26 w l' hE26 hO26 hF_ hS
     refine p (yl_move ((hE26 0 rfl).trans ((hE25 0 rfl).trans q2h))) <| x_done <| ?_
     refine x_fin ⟨⟨_, rfl⟩, rfl, ?_⟩
     exact emk hS
    ·intro Ep26 w l' hE26 hO26 hF_ hS
     obtain ⟨q3d, -⟩ := hF_
     replace q3d : Ep26 174 = .pointer (some ⟨q5, 0, none⟩) := emk q3d
     replace hS : St w0 w (ro ρ :: cells q5 25 [.slice q6 s0.L.length c_s0_0, .int .i64 q40.2] :: l') := emk hS
     have hcall := c_maskmake_Stream_Next q85 q0o (hS.pull 1)
     refine o_cc call_9 (args2 q3d rfl) hcall ?_
     rintro e w' ⟨rfl, hS⟩
     refine ⟨_, rfl, ?_⟩
     refine x_done <| ?_
     refine x_fin ⟨⟨_, rfl⟩, rfl, ?_⟩
     exact emk (hS.pull 1)
    ·intro Ep26 w l' hE26 hO26 hF_ hS
     obtain ⟨q3e, q3f, -⟩ := hF_
     replace q3e : Ep26 173 = .int .i64 q0u.1 := emk q3e
     replace q3f : Ep26 175 = .int .i64 q35.1 := emk q3f
     refine p (yadd q3e q3f hx176) <| x_done <| ?_
     refine x_fin ⟨⟨_, rfl⟩, rfl, ?_⟩
     exact emk hS
    ·intro Ep26 w l' hE26 hO26 hF_ hS
     obtain ⟨q3g, q3h, -⟩ := hF_
     replace q3g : Ep26 172 = .int .i64 x172 := emk q3g
     replace q3h : Ep26 176 = .int .i64 x176 := emk q3h
     refine p (ymin' q3g q3h hx177) <| x_done <| ?_
     refine x_fin ⟨⟨_, rfl⟩, rfl, ?_⟩
     exact emk hS
    ·intro Ep26 w l' hE26 hO26 hF_ hS
     obtain ⟨q5u, q5v, q5w, q3i, q3j, -⟩ := hF_
     replace q5u : Ep26 159 = .int .i64 q1b.1 := emk q5u
     replace q5v : Ep26 160 = .int .i64 q0y.1 := emk q5v
     replace q5w : Ep26 161 = .int .i64 q0u.1 := emk q5w
     replace q3i : Ep26 169 = .int .i64 x169 := emk q3i
     replace q3j : Ep26 177 = .int .i64 x177 := emk q3j
     refine p (v := .agg #[.int .i64 q1b.1, .int .i64 q0y.1, .int .i64 q0u.1, .int .i64 x169, .int .i64 x177]) (yl_build bld_66 bldf_66 (parts_eq (pt (va := .int .i64 q1b.1) q5u (pt (va := .int .i64 q0y.1) q5v (pt (va := .int .i64 q0u.1) q5w (pt (va := .int .i64 x169) q3i (pt (va := .int .i64 x177) q3j pt0)))))) (by kernel_rfl)) <| x_done <| ?_
     refine x_fin ⟨⟨_, rfl⟩, rfl, ?_⟩
     exact emk hS
    ·intro Ep26 w l' hE26 hO26 hF_ hS
     obtain ⟨q3k, -⟩ := hF_
     replace q3k : Ep26 178 = .agg #[.int .i64 q1b.1, .int .i64 q0y.1, .int .i64 q0u.1, .int .i64 x169, .int .i64 x177] := emk q3k
     refine o_buildSlice (vs := [.agg #[.int .i64 q1b.1, .int .i64 q0y.1, .int .i64 q0u.1, .int .i64 x169, .int .i64 x177]]) (cs := [.int .i64 q1b.1, .int .i64 q0y.1, .int .i64 q0u.1, .int .i64 x169, .int .i64 x177]) sl_29 zero_66 (parts_eq (pt (va := .agg #[.int .i64 q1b.1, .int .i64 q0y.1, .int .i64 q0u.1, .int .i64 x169, .int .i64 x177]) q3k pt0)) rfl (by intro v hv; simp only [List.mem_cons, List.not_mem_nil, or_false] at hv; first | (subst hv; rfl) | (rcases hv with rfl <;> rfl)) (by decide) rfl hS (fun b179 w' hS => ?_)
     refine x_done <| ?_
     refine x_fin ⟨⟨_, rfl⟩, rfl, ?_⟩
     exact emk hS
    ·intro Ep26 w l' hE26 hO26 hF_ hS
     obtain ⟨q5x, q3l, -⟩ := hF_
     replace q5x : Ep26 155 = .slice q0k q0l.length c_b3_7_L24h := emk q5x
     replace q3l : Ep26 179 = .slice (some ⟨(blkOf (Ep26 179)), 0, none⟩) 1 1 := emk q3l
     replace hS : St w0 w (cells (blkOf (Ep26 179)) 66 [.int .i64 q1b.1, .int .i64 q0y.1, .int .i64 q0u.1, .int .i64 x169, .int .i64 x177] :: ro ρ :: vec 66 R_floor_Wall.sz (.slice q0k q0l.length c_b3_7_L24h) q0l.length q1a :: l') := emk hS
     refine o_ap sl_29 zero_66 rfl (by decide) q5x q3l (hS.pull 2) q2r (src_blk usl_29 hS rfl rfl) (RepL.cons (R := R_floor_Wall) (ρ := ρ) (x := (T_floor_Wall.mk q1b.1 q0y.1 q0u.1 x169 x177)) (cs := [.int .i64 q1b.1, .int .i64 q0y.1, .int .i64 q0u.1, .int .i64 x169, .int .i64 x177]) rfl RepL.nil) q86 q87 (fun A180 c180 cs180 w' hr180 hS => ?_)
     refine x_done <| ?_
     refine x_fin ⟨⟨_, rfl⟩, rfl, ?_⟩
     replace hS := St.bun (Φ := (fun (cs180 : List Value) => RepL R_floor_Wall ρ q14 cs180)) (L := (fun (cs180 : List Value) => [vec 66 R_floor_Wall.sz (.slice A180 q14.length c180) q14.length cs180])) cs180 hr180 hS
     exact emk ((hS.pull 2).pull 2)
    ·intro Ep26 w l' hE26 hO26 hF_ hS
     refine p (yl_field0 fld_31_7 ((hE26 3 rfl).trans ((hE25 3 rfl).trans q1o))) <| x_done <| ?_
     refine x_fin ⟨⟨_, rfl⟩, rfl, ?_⟩
     exact emk hS
    ·intro Ep26 w l' hE26 hO26 hF_ hS
     obtain ⟨q3m, q3n, -⟩ := hF_
     replace q3m : Ep26 180 = .slice (adOf (Ep26 180)) q14.length (capOf (Ep26 180)) := emk q3m
     replace q3n : Ep26 181 = .pointer (some ⟨b3, 7, none⟩) := emk q3n
     replace hS : St w0 w (cells b3 31 [.int .i64 q0a.1, .int .i64 q0b.1, .int .i64 q0c.1, .int .i64 q0f.1, .slice q3 q2.length c_b3_4_L3, .slice q7 q8.length c_b3_5_L7, .slice q0i q0j.length c_b3_6_L17, .slice q0k q0l.length c_b3_7_L24h] :: l') := emk hS
     refine o_store1 (v := .slice (adOf (Ep26 180)) q14.length (capOf (Ep26 180))) one_29 q3n q3m rfl rfl hS (fun w' hS => ?_)
     refine x_done <| ?_
     refine x_fin ⟨⟨undef, rfl⟩, trivial, ?_⟩
     exact emk hS
   intro Ep26 w' hE26 hF_ hS
   obtain ⟨q5o, q5x, q5q, q5p, q5r, q5u, q5v, q5w, q5s, q5t, q39, q37, q36, q38, q3a, q3i, q3b, q3c, q3g, q3e, q3d, q3f, q3h, q3j, q3k, q3l, q3m, q3n, -⟩ := hF_
   replace q5o : Ep26 154 = .pointer (some ⟨b3, 7, none⟩) := emk q5o
   replace q5x : Ep26 155 = .slice q0k q0l.length c_b3_7_L24h := emk q5x
   replace q5q : Ep26 156 = .pointer (some ⟨q5, 0, none⟩) := emk q5q
   replace q5p : Ep26 157 = .pointer (some ⟨b3, 2, none⟩) := emk q5p
   replace q5r : Ep26 158 = .int .i64 q0c.1 := emk q5r
   replace q5u : Ep26 159 = .int .i64 q1b.1 := emk q5u
   replace q5v : Ep26 160 = .int .i64 q0y.1 := emk q5v
   replace q5w : Ep26 161 = .int .i64 q0u.1 := emk q5w
   replace q5s : Ep26 162 = .pointer (some ⟨b3, 0, none⟩) := emk q5s
   replace q5t : Ep26 163 = .int .i64 q0a.1 := emk q5t
   replace q39 : Ep26 164 = .int .i64 x164 := emk q39
   replace q37 : Ep26 165 = .int .i64 q0y.1 := emk q37
   replace q36 : Ep26 166 = .pointer (some ⟨q5, 0, none⟩) := emk q36
   replace q38 : Ep26 167 = .int .i64 q40.1 := emk q38
   replace q3a : Ep26 168 = .int .i64 x168 := emk q3a
   replace q3i : Ep26 169 = .int .i64 x169 := emk q3i
   replace q3b : Ep26 170 = .pointer (some ⟨b3, 1, none⟩) := emk q3b
   replace q3c : Ep26 171 = .int .i64 q0b.1 := emk q3c
   replace q3g : Ep26 172 = .int .i64 x172 := emk q3g
   replace q3e : Ep26 173 = .int .i64 q0u.1 := emk q3e
   replace q3d : Ep26 174 = .pointer (some ⟨q5, 0, none⟩) := emk q3d
   replace q3f : Ep26 175 = .int .i64 q35.1 := emk q3f
   replace q3h : Ep26 176 = .int .i64 x176 := emk q3h
   replace q3j : Ep26 177 = .int .i64 x177 := emk q3j
   replace q3k : Ep26 178 = .agg #[.int .i64 q1b.1, .int .i64 q0y.1, .int .i64 q0u.1, .int .i64 x169, .int .i64 x177] := emk q3k
   replace q3l : Ep26 179 = .slice (some ⟨(blkOf (Ep26 179)), 0, none⟩) 1 1 := emk q3l
   replace q3m : Ep26 180 = .slice (adOf (Ep26 180)) q14.length (capOf (Ep26 180)) := emk q3m
   replace q3n : Ep26 181 = .pointer (some ⟨b3, 7, none⟩) := emk q3n
   replace hS : St w0 w' (ro ρ :: cells q5 25 [.slice q6 s0.L.length c_s0_0, .int .i64 q35.2] :: cells (blkOf (Ep26 179)) 66 [.int .i64 q1b.1, .int .i64 q0y.1, .int .i64 q0u.1, .int .i64 x169, .int .i64 x177] :: bunA (fun (cs180 : List Value) => RepL R_floor_Wall ρ q14 cs180) (fun (cs180 : List Value) => [vec 66 R_floor_Wall.sz (.slice (adOf (Ep26 180)) q14.length (capOf (Ep26 180))) q14.length cs180]) :: cells b3 31 [.int .i64 q0a.1, .int .i64 q0b.1, .int .i64 q0c.1, .int .i64 q0f.1, .slice q3 q2.length c_b3_4_L3, .slice q7 q8.length c_b3_5_L7, .slice q0i q0j.length c_b3_6_L17, .slice (adOf (Ep26 180)) q14.length (capOf (Ep26 180))] :: (cells b2 31 [.int .i64 0, .int .i64 0, .int .i64 0, .int .i64 0, .slice none 0 0, .slice none 0 0, .slice none 0 0, .slice none 0 0] :: vec 44 R_rules_Wire.sz (.slice q3 q2.length c_b3_4_L3) q2.length q0h :: vec 47 R_rules_Via.sz (.slice q7 q8.length c_b3_5_L7) q8.length q10 :: vec 39 R_rules_Pin.sz (.slice q0i q0j.length c_b3_6_L17) q0j.length q18 :: l)) := emk hS
   have q_ := St.unbun (hS.pull 3); obtain ⟨cs180, hr180, hS⟩ := q_
   replace hFL24 := ar_s hFL24; obtain ⟨x182, hx182, hFL24⟩ := hFL24
   refine x_blk <| x_region <| p (yadd ((hE26 144 rfl).trans ((hE25 144 rfl).trans q74)) rfl hx182) <| p (yl_move rfl) <|
    x_done <| ?_
   have e_ := sinj hFL24; subst e_
   exact x_inv ⟨kL24, Nat.lt_succ_self _, (adOf (Ep26 180)), q14.length, (capOf (Ep26 180)), cs180, x182, q35.2, q14, hLL24, ((hE26 0 rfl).trans ((hE25 0 rfl).trans q2h)), ((hE26 2 rfl).trans ((hE25 2 rfl).trans q7e)), ((hE26 3 rfl).trans ((hE25 3 rfl).trans q1o)), ((hE26 143 rfl).trans ((hE25 143 rfl).trans q73)), rfl, hr180, (((((((((hS.pull 3).drop.pull 1).pull 1).pull 7).pull 7).pull 7).pull 6).pull 7).pull 7)⟩
  ·replace hFL24 := it_f hc145 hFL24
   refine x_exitTo _ rfl <| ?_
   have e_ := sinj hFL24; subst e_
   exact x_inv ⟨q0k, q0l.length, c_b3_7_L24h, q1a, q0l, q1j, hLL24, q7e, q1o, q2r, ((((((((hS.pull 7).pull 7).pull 7).pull 7).pull 7).pull 5).pull 7).pull 7)⟩
 rintro E w ⟨q1n, q2f, c_b3_7_L24, q23, q1y, q3t, rfl, q7q, q92, q6f, hS⟩
 have e_ := St.vec_n (hS.pull 6) q6f; subst e_
 refine x_seq <| x_region <| pa (v := .agg #[.int .i64 q0a.1, .int .i64 q0b.1, .int .i64 q0c.1, .int .i64 q0f.1, .slice q3 q2.length c_b3_4_L3, .slice q7 q8.length c_b3_5_L7, .slice q0i q0j.length c_b3_6_L17, .slice q1n q1y.length c_b3_7_L24]) (ld_sub agg_31 q92 rfl rfl (hS.pull 1)) <| ?_
 refine o_storeAgg (news := [.int .i64 q0a.1, .int .i64 q0b.1, .int .i64 q0c.1, .int .i64 q0f.1, .slice q3 q2.length c_b3_4_L3, .slice q7 q8.length c_b3_5_L7, .slice q0i q0j.length c_b3_6_L17, .slice q1n q1y.length c_b3_7_L24]) agg_31 q7q rfl rfl (by simp [over_length]) hS (fun w' hS => ?_)
 refine x_done <| ?_
 have e_ := sinj hF; subst e_
 exact x_return ⟨_, ⟨_, _, _, rfl, q7q, ldvA agg_31 rfl (fun j v hj => by rw [add0]; exact St.cell hS hj), rfl⟩, q3, q2.length, c_b3_4_L3, q0h, q7, q8.length, c_b3_5_L7, q10, q0i, q0j.length, c_b3_6_L17, q18, q1n, q1y.length, c_b3_7_L24, q23, rfl, q2l, q72, q6e, q6f, ((((((hS.drop.drop.pull 5).pull 1).pull 5).pull 5).pull 5).pull 5)⟩
attribute [irreducible] P_maskmake_Stream_Layout

def P_slices_Clone_rules_Wire_rules_Wire (s0 : List T_rules_Wire) : Option (List T_rules_Wire) :=
 lv (([] : List T_rules_Wire) ++ s0) fun q2 =>
 ck (apOk 48 q2.length) <|
 some q2
theorem c_slices_Clone_rules_Wire_rules_Wire {w0 w : World} {l : List Assn} {ρ : Heap} {q6 : Option Addr} {q8 : Nat} {c_s0 : Nat} {s0 : List T_rules_Wire} {r : List T_rules_Wire} (hF : P_slices_Clone_rules_Wire_rules_Wire s0 = some r) (q7 : RdS R_rules_Wire ρ q6 q8 c_s0 s0) (hS : St w0 w (ro ρ :: l)) :
  Calls Try.prog 13 #[.slice q6 q8 c_s0] w fun e w' => ∃ (q5 : Option Addr) (q2 : Nat) (c_y0_ret : Nat) (q3 : List Value), e = .returned (.slice q5 q2 c_y0_ret) ∧ RepL R_rules_Wire ρ r q3 ∧ St w0 w' (vec 44 R_rules_Wire.sz (.slice q5 q2 c_y0_ret) q2 q3 :: ro ρ :: l) := by
 have e_ := q7.n; subst e_
 refine enterC Try.func13 rfl 8 rfl (by simp) ?_
 refine x_seq <| x_region <| p (yl_assign rfl) <| x_done <|
  x_seq <| x_seq <| x_region <| p (yl_move rfl) <|
  p (yeq_nil usl_26 rfl rfl) <| x_done <|
  x_cond (t := Option.isNone q6) rfl (fun hc4 => ?_) (fun hc4 => ?_)
 ·have hx0 : s0 = [] := RdS.nil_of q7 hc4
  have hF : some ([] : List T_rules_Wire) = some r := by rw [hx0] at hF; unfold P_slices_Clone_rules_Wire_rules_Wire at hF; simpa [lv, ck, apOk] using hF
  refine x_seq <| x_region <| p (yl_assign rfl) <| x_done <| ?_
  replace hS := St.vec_nil hS 44 R_rules_Wire.sz
  have q4 : RepL R_rules_Wire ρ [] [] := rfl
  have e_ := sinj hF; subst e_
  exact x_return ⟨_, ⟨_, _, rfl, rfl, rfl⟩, none, 0, 0, [], rfl, q4, ((hS.pull 1).pull 1)⟩
 ·skip
  refine x_skip <| x_seq <| x_region <| ?_
  refine o_buildSlice (vs := []) (cs := []) sl_26 zero_44 (parts_eq pt0) rfl (by intro v hv; cases hv) (by decide) rfl hS (fun b5 w' hS => ?_)
  refine p (yl_move rfl) <| ?_
  have q9 : RepL R_rules_Wire ρ ([] : List T_rules_Wire) [] := RepL.nil
  replace hS := St.vec_of (n := 0) (sz := R_rules_Wire.sz) hS rfl (by decide)
  have q_ := src_f usl_26 (hS.pull 1) q7; obtain ⟨nw7, hnw7, src7⟩ := q_
  replace hF := lv_s hF; obtain ⟨q0c, q0a, hF⟩ := hF
  replace hF := ck_s hF; obtain ⟨q0b, hF⟩ := hF
  refine o_ap sl_26 zero_44 rfl (by decide) rfl rfl hS q9 src7 hnw7 q0a q0b (fun A7 c7 cs7 w' hr7 hS => ?_)
  refine p (yl_assign rfl) <| x_done <| ?_
  have e_ := sinj hF; subst e_
  exact x_return ⟨_, ⟨_, _, rfl, rfl, rfl⟩, A7, q0c.length, c7, cs7, rfl, hr7, ((hS.pull 1).pull 1)⟩
attribute [irreducible] P_slices_Clone_rules_Wire_rules_Wire

def P_slices_Index_int_int_L2 (s0 : List Int) (v1 : Int) : Int → Option (Int ⊕ (Unit ⊕ Int)) := fun q2 =>
 if q2 < (s0.length : Int) then
  ck (inb q2 s0.length) <|
  lv (gt s0 q2) fun x15 =>
  if v1 = x15 then
   some (Sum.inr (Sum.inr q2))
  else
   ar (q2 + 1) fun x18 =>
   some (Sum.inl x18)
 else
  some (Sum.inr (Sum.inl ()))
def P_slices_Index_int_int (s0 : List Int) (v1 : Int) : Option Int :=
 bs (
  lp (P_slices_Index_int_int_L2 s0 v1) fuel 0) (fun y => some y) fun _ =>
 some (-1 : Int)
theorem c_slices_Index_int_int {w0 w : World} {l : List Assn} {ρ : Heap} {q7 : Option Addr} {q0a : Nat} {c_s0 : Nat} {s0 : List Int} {v1 : Int} {r : Int} (hF : P_slices_Index_int_int s0 v1 = some r) (q8 : RdS (RpI .i64) ρ q7 q0a c_s0 s0) (hS : St w0 w (ro ρ :: l)) :
  Calls Try.prog 78 #[.slice q7 q0a c_s0, .int .i64 v1] w fun e w' => e = .returned (.int .i64 r) ∧ St w0 w' (ro ρ :: l) := by
 have e_ := q8.n; subst e_
 refine enterC Try.func78 rfl 19 rfl (by simp) ?_
 refine x_seq <| x_region <| p (yl_assign rfl) <| x_done <|
  x_seq <| x_seq <| x_region <| p (yl_move rfl) <|
  p (yl_len_slice usl_22 rfl) <| p (yl_move rfl) <| x_done <| ?_
 replace hF := bs_s hF; obtain ⟨oL2, hLL2, hF⟩ := hF
 refine x_join (fun E w => (Sum.inl (())) = oL2 ∧ St w0 w (ro ρ :: l)) ?_ ?_
 ·refine x_block ?_
  refine x_loop (fun k_ E w => ∃ (q2 : Int), lp (P_slices_Index_int_int_L2 s0 v1) k_ q2 = some oL2 ∧ E 0 = .slice q7 s0.length c_s0 ∧ E 1 = .int .i64 v1 ∧ E 7 = .int .i64 (s0.length : Int) ∧ E 8 = .int .i64 q2 ∧ St w0 w (ro ρ :: l)) fuel ⟨0, hLL2, rfl, rfl, rfl, rfl, hS⟩ ?_
  rintro kL2 E w ⟨q2, hLL2, q4, q5, q6, q3, hS⟩
  replace hLL2 := lp_s hLL2; obtain ⟨kL2, obL2, rfl, hFL2, hLL2⟩ := hLL2
  refine x_seq <| x_region <| p (yl_lss q3 q6) <| x_done <|
   x_seq <|
   x_cond_p (q2 < (s0.length : Int)) rfl (fun hc9 => ?_) (fun hc9 => ?_)
  ·replace hFL2 := it_t hc9 hFL2
   replace hFL2 := ck_s hFL2; obtain ⟨q9, hFL2⟩ := hFL2
   replace hFL2 := lv_s hFL2; obtain ⟨x15, hx15, hFL2⟩ := hFL2
   refine x_skip <| x_seq <| x_block <| x_seq <|
    x_region <| p (yl_move q3) <| p (yl_assign rfl) <| x_done <|
    x_seq <| x_region <| p (yl_move q5) <| p (yl_move q4) <|
    p (yl_move rfl) <| p (yix_f sl_22 rfl rfl q8 q9) <| pa (at_load one_3 rfl (RdS.getW q8 hS q9 hx15)) <| p (yl_eql rfl rfl) <|
    x_done <|
    x_cond_p (v1 = x15) rfl (fun hc16 => ?_) (fun hc16 => ?_)
   ·replace hFL2 := it_t hc16 hFL2
    refine x_seq <| x_region <| p (yl_move rfl) <| p (yl_assign rfl) <|
     x_done <| ?_
    have e_ := sinj hFL2; subst e_
    have e_ := (show _ = oL2 from hLL2); subst e_
    have e_ := sinj hF; subst e_
    exact x_return ⟨_, ⟨_, _, rfl, rfl, rfl⟩, rfl, hS⟩
   ·replace hFL2 := it_f hc16 hFL2
    replace hFL2 := ar_s hFL2; obtain ⟨x18, hx18, hFL2⟩ := hFL2
    refine x_skip <| x_blk <| x_region <| p (yadd q3 rfl hx18) <|
     p (yl_move rfl) <| x_done <| ?_
    have e_ := sinj hFL2; subst e_
    exact x_inv ⟨kL2, Nat.lt_succ_self _, x18, hLL2, q4, q5, q6, rfl, hS⟩
  ·replace hFL2 := it_f hc9 hFL2
   refine x_exitTo _ rfl <| ?_
   have e_ := sinj hFL2; subst e_
   exact x_inv ⟨hLL2, hS⟩
 rintro E w ⟨rfl, hS⟩
 refine x_seq <| x_region <| p (yl_assign rfl) <| x_done <| ?_
 have e_ := sinj hF; subst e_
 exact x_return ⟨_, ⟨_, _, rfl, rfl, rfl⟩, rfl, hS⟩
attribute [irreducible] P_slices_Index_int_int

def P_slices_Contains_int_int (s0 : List Int) (v1 : Int) : Option Bool :=
 bd (P_slices_Index_int_int s0 v1) fun q2 =>
 some (decide (0 ≤ q2))
theorem c_slices_Contains_int_int {w0 w : World} {l : List Assn} {ρ : Heap} {q2 : Option Addr} {q3 : Nat} {c_s0 : Nat} {s0 : List Int} {v1 : Int} {r : Bool} (hF : P_slices_Contains_int_int s0 v1 = some r) (q4 : RdS (RpI .i64) ρ q2 q3 c_s0 s0) (hS : St w0 w (ro ρ :: l)) :
  Calls Try.prog 56 #[.slice q2 q3 c_s0, .int .i64 v1] w fun e w' => e = .returned (.bool r) ∧ St w0 w' (ro ρ :: l) := by
 have e_ := q4.n; subst e_
 refine enterC Try.func56 rfl 9 rfl (by simp) ?_
 replace hF := bd_s hF; obtain ⟨q6, q5, hF⟩ := hF
 refine x_seq <| x_region <| p (yl_assign rfl) <| x_done <|
  x_seq <| x_region <| p (yl_move rfl) <| p (yl_move rfl) <| ?_
 have hcall := c_slices_Index_int_int q5 q4 hS
 refine o_cc call_78 (args2 rfl rfl) (hcall) ?_
 rintro e w' ⟨rfl, hS⟩
 refine ⟨_, rfl, ?_⟩
 refine p (yl_geq rfl rfl) <| p (yl_assign rfl) <| x_done <| ?_
 have e_ := sinj hF; subst e_
 exact x_return ⟨_, ⟨_, _, rfl, rfl, rfl⟩, rfl, hS⟩
attribute [irreducible] P_slices_Contains_int_int

def P_detail_Without_1 (w_0 : T_rules_Wire) (q2 : List Int) : Option Bool :=
 bd (P_slices_Contains_int_int q2 w_0.Net) fun q3 =>
 some q3
theorem c_detail_Without_1 {w0 w : World} {l : List Assn} {ρ : Heap} {q5 : Nat} {q2 : Option Addr} {q3 : Nat} {c_v1_0 : Nat} {w_0 : T_rules_Wire} {q6 : List Int} {r : Bool} (hF : P_detail_Without_1 w_0 q6 = some r) (q4 : RdS (RpI .i64) ρ q2 q3 c_v1_0 q6) (hS : St w0 w (cells q5 22 [.slice q2 q3 c_v1_0] :: ro ρ :: l)) :
  Calls Try.prog 55 #[.agg #[.int .i64 w_0.Net, .int .i64 w_0.Layer, .int .i64 w_0.X0, .int .i64 w_0.Y0, .int .i64 w_0.X1, .int .i64 w_0.Y1], .pointer (some ⟨q5, 0, none⟩)] w fun e w' => e = .returned (.bool r) ∧ St w0 w' (cells q5 22 [.slice q2 q3 c_v1_0] :: ro ρ :: l) := by
 have e_ := q4.n; subst e_
 refine enterC Try.func55 rfl 8 rfl (by simp) ?_
 refine x_seq <| x_region <| ?_
 refine o_box (cs := [.int .i64 w_0.Net, .int .i64 w_0.Layer, .int .i64 w_0.X0, .int .i64 w_0.Y0, .int .i64 w_0.X1, .int .i64 w_0.Y1]) rfl rfl hS (fun b2 w' hS => ?_)
 replace hF := bd_s hF; obtain ⟨q8, q7, hF⟩ := hF
 refine p (yl_assign rfl) <| x_done <| x_seq <| x_region <|
  pa (at_load one_22 rfl ((hS.pull 1).cell rfl)) <| p (yl_field0 fld_44_0 rfl) <| pa (at_load one_3 rfl (hS.cell rfl)) <| ?_
 have hcall := c_slices_Contains_int_int q7 q4 (hS.pull 2)
 refine o_cc call_56 (args2 rfl rfl) ((Calls.mono hcall (fun e w'' h => And.intro h.1 ((h.2.pull 2).pull 2)))) ?_
 rintro e w' ⟨rfl, hS⟩
 refine ⟨_, rfl, ?_⟩
 refine p (v := .bool q8) (yl_assign rfl) <| x_done <| ?_
 have e_ := sinj hF; subst e_
 exact x_return ⟨_, ⟨_, _, rfl, rfl, rfl⟩, rfl, ((hS.drop.pull 1).pull 1)⟩
attribute [irreducible] P_detail_Without_1

def P_slices_IndexFunc_rules_Wire_rules_Wire_L2 (s0 : List T_rules_Wire) (q3 : List Int) : Int → Option (Int ⊕ (Unit ⊕ Int)) := fun q2 =>
 if q2 < (s0.length : Int) then
  ck (inb q2 s0.length) <|
  lv (gt s0 q2) fun q4 =>
  bd (P_detail_Without_1 q4 q3) fun q5 =>
  if q5 = true then
   some (Sum.inr (Sum.inr q2))
  else
   ar (q2 + 1) fun x18 =>
   some (Sum.inl x18)
 else
  some (Sum.inr (Sum.inl ()))
def P_slices_IndexFunc_rules_Wire_rules_Wire (s0 : List T_rules_Wire) (q2 : List Int) : Option Int :=
 bs (
  lp (P_slices_IndexFunc_rules_Wire_rules_Wire_L2 s0 q2) fuel 0) (fun y => some y) fun _ =>
 some (-1 : Int)
theorem c_slices_IndexFunc_rules_Wire_rules_Wire {w0 w : World} {l : List Assn} {ρ : Heap} {q0d : Option Addr} {q0h : Nat} {c_s0 : Nat} {q3 : Nat} {q2 : Option Addr} {q5 : Nat} {c_f1_0_0 : Nat} {s0 : List T_rules_Wire} {q4 : List Int} {r : Int} (hF : P_slices_IndexFunc_rules_Wire_rules_Wire s0 q4 = some r) (q0e : RdS R_rules_Wire ρ q0d q0h c_s0 s0) (q8 : RdS (RpI .i64) ρ q2 q5 c_f1_0_0 q4) (hS : St w0 w (cells q3 22 [.slice q2 q5 c_f1_0_0] :: ro ρ :: l)) :
  Calls Try.prog 77 #[.slice q0d q0h c_s0, .func (.func 55) #[] #[.pointer (some ⟨q3, 0, none⟩)]] w fun e w' => e = .returned (.int .i64 r) ∧ St w0 w' (cells q3 22 [.slice q2 q5 c_f1_0_0] :: ro ρ :: l) := by
 have e_ := q0e.n; subst e_
 have e_ := q8.n; subst e_
 refine enterC Try.func77 rfl 19 rfl (by simp) ?_
 refine x_seq <| x_region <| p (yl_assign rfl) <| x_done <|
  x_seq <| x_seq <| x_region <| p (yl_move rfl) <|
  p (yl_len_slice usl_26 rfl) <| p (yl_move rfl) <| x_done <| ?_
 replace hF := bs_s hF; obtain ⟨oL2, hLL2, hF⟩ := hF
 refine x_join (fun E w => (Sum.inl (())) = oL2 ∧ St w0 w (cells q3 22 [.slice q2 q4.length c_f1_0_0] :: ro ρ :: l)) ?_ ?_
 ·refine x_block ?_
  refine x_loop (fun k_ E w => ∃ (q6 : Int), lp (P_slices_IndexFunc_rules_Wire_rules_Wire_L2 s0 q4) k_ q6 = some oL2 ∧ E 0 = .slice q0d s0.length c_s0 ∧ E 1 = .func (.func 55) #[] #[.pointer (some ⟨q3, 0, none⟩)] ∧ E 7 = .int .i64 (s0.length : Int) ∧ E 8 = .int .i64 q6 ∧ St w0 w (cells q3 22 [.slice q2 q4.length c_f1_0_0] :: ro ρ :: l)) fuel ⟨0, hLL2, rfl, rfl, rfl, rfl, ((hS.pull 1).pull 1)⟩ ?_
  rintro kL2 E w ⟨q6, hLL2, q0a, q0b, q0c, q9, hS⟩
  replace hLL2 := lp_s hLL2; obtain ⟨kL2, obL2, rfl, hFL2, hLL2⟩ := hLL2
  refine x_seq <| x_region <| p (yl_lss q9 q0c) <| x_done <|
   x_seq <|
   x_cond_p (q6 < (s0.length : Int)) rfl (fun hc9 => ?_) (fun hc9 => ?_)
  ·replace hFL2 := it_t hc9 hFL2
   replace hFL2 := ck_s hFL2; obtain ⟨q0f, hFL2⟩ := hFL2
   replace hFL2 := lv_s hFL2; obtain ⟨q7, q0i, hFL2⟩ := hFL2
   have q_ := q0e.get q0f; obtain ⟨q0m, q0g, q0j⟩ := q_
   rw [← q0i] at q0g
   have e_ := q0g; subst e_
   replace hFL2 := bd_s hFL2; obtain ⟨q0l, q0k, hFL2⟩ := hFL2
   refine x_skip <| x_seq <| x_block <| x_seq <|
    x_region <| p (yl_move q9) <| p (yl_assign rfl) <| x_done <|
    x_seq <| x_region <| p (yl_move q0b) <| p (yl_move q0a) <|
    p (yl_move rfl) <| p (yix_f sl_26 rfl rfl q0e q0f) <| pa (v := .agg #[.int .i64 q7.Net, .int .i64 q7.Layer, .int .i64 q7.X0, .int .i64 q7.Y0, .int .i64 q7.X1, .int .i64 q7.Y1]) (at_loadAgg agg_44 rfl rfl (Elt.every q0j (hS.pull 1))) <| ?_
   have hcall := c_detail_Without_1 q0k q8 hS
   refine o_ccv rfl call_55 (capargs (args1 rfl)) (hcall) ?_
   rintro e w' ⟨rfl, hS⟩
   refine ⟨_, rfl, ?_⟩
   refine x_done <|
    x_cond (t := q0l) rfl (fun hc16 => ?_) (fun hc16 => ?_)
   ·replace hFL2 := it_t hc16 hFL2
    refine x_seq <| x_region <| p (yl_move rfl) <| p (yl_assign rfl) <|
     x_done <| ?_
    have e_ := sinj hFL2; subst e_
    have e_ := (show _ = oL2 from hLL2); subst e_
    have e_ := sinj hF; subst e_
    exact x_return ⟨_, ⟨_, _, rfl, rfl, rfl⟩, rfl, ((hS.pull 1).pull 1)⟩
   ·replace hFL2 := it_bf hc16 hFL2
    replace hFL2 := ar_s hFL2; obtain ⟨x18, hx18, hFL2⟩ := hFL2
    refine x_skip <| x_blk <| x_region <| p (yadd q9 rfl hx18) <|
     p (yl_move rfl) <| x_done <| ?_
    have e_ := sinj hFL2; subst e_
    exact x_inv ⟨kL2, Nat.lt_succ_self _, x18, hLL2, q0a, q0b, q0c, rfl, ((hS.pull 1).pull 1)⟩
  ·replace hFL2 := it_f hc9 hFL2
   refine x_exitTo _ rfl <| ?_
   have e_ := sinj hFL2; subst e_
   exact x_inv ⟨hLL2, ((hS.pull 1).pull 1)⟩
 rintro E w ⟨rfl, hS⟩
 refine x_seq <| x_region <| p (yl_assign rfl) <| x_done <| ?_
 have e_ := sinj hF; subst e_
 exact x_return ⟨_, ⟨_, _, rfl, rfl, rfl⟩, rfl, ((hS.pull 1).pull 1)⟩
attribute [irreducible] P_slices_IndexFunc_rules_Wire_rules_Wire

def P_slices_DeleteFunc_rules_Wire_rules_Wire_L5 (s0 : List T_rules_Wire) (q5 : List Int) : (List T_rules_Wire × Int × Int) → Option ((List T_rules_Wire × Int × Int) ⊕ (List T_rules_Wire × Int)) := fun (q2, q3, q4) =>
 if q4 < (s0.length : Int) then
  ck (inb q4 q2.length) <|
  lv (gt q2 q4) fun q6 =>
  bd (P_detail_Without_1 q6 q5) fun q9 =>
  bd (
   if (!q9) = true then
    ck (inb q3 q2.length) <|
    lv (stt q2 q3 q6) fun q0a =>
    ar (q3 + 1) fun x35 =>
    some (q0a, x35)
   else
    some (q2, q3)) fun (q7, q8) =>
  ar (q4 + 1) fun x21 =>
  some (Sum.inl (q7, q8, x21))
 else
  some (Sum.inr (q2, q3))
def P_slices_DeleteFunc_rules_Wire_rules_Wire (s0 : List T_rules_Wire) (q3 : List Int) : Option (List T_rules_Wire) :=
 bd (P_slices_IndexFunc_rules_Wire_rules_Wire s0 q3) fun q5 =>
 if q5 = (-1) then
  some s0
 else
  ar (q5 + 1) fun x15 =>
  bd (
   lp (P_slices_DeleteFunc_rules_Wire_rules_Wire_L5 s0 q3) fuel (s0, q5, x15)) fun (q4, q2) =>
  ck (0 ≤ q2 ∧ q2 ≤ q4.length) <|
  lv (q4.take (q2 : Int).toNat ++ List.replicate (q4.length - (q2 : Int).toNat) (T_rules_Wire.mk 0 0 0 0 0 0)) fun q6 =>
  ck (0 ≤ (0 : Int) ∧ (0 : Int) ≤ q2 ∧ q2 ≤ q6.length) <|
  lv (sub q6 0 q2) fun x41 =>
  some x41
theorem c_slices_DeleteFunc_rules_Wire_rules_Wire {w0 w : World} {l : List Assn} {ρ : Heap} {q0a : Option Addr} {q0x : Nat} {c_s0 : Nat} {q0q : List Value} {q3 : Nat} {q4 : Option Addr} {q0b : Nat} {c_del1_0_0 : Nat} {s0 : List T_rules_Wire} {q5 : List Int} {r : List T_rules_Wire} (hF : P_slices_DeleteFunc_rules_Wire_rules_Wire s0 q5 = some r) (q0r : RepL R_rules_Wire ρ s0 q0q) (q0c : RdS (RpI .i64) ρ q4 q0b c_del1_0_0 q5) (hS : St w0 w (vec 44 R_rules_Wire.sz (.slice q0a q0x c_s0) q0x q0q :: cells q3 22 [.slice q4 q0b c_del1_0_0] :: ro ρ :: l)) :
  Calls Try.prog 54 #[.slice q0a q0x c_s0, .func (.func 55) #[] #[.pointer (some ⟨q3, 0, none⟩)]] w fun e w' => ∃ (ρ' : Heap) (q0l : Option Addr) (q0m : Nat) (c_y0_ret : Nat), e = .returned (.slice q0l q0m c_y0_ret) ∧ Le ρ ρ' ∧ RdS R_rules_Wire ρ' q0l q0m c_y0_ret r ∧ St w0 w' (cells q3 22 [.slice q4 q0b c_del1_0_0] :: ro ρ' :: l) := by
 have e_ := St.vec_n hS q0r; subst e_
 have e_ := q0c.n; subst e_
 refine enterC Try.func54 rfl 42 rfl (by simp) ?_
 replace hF := bd_s hF; obtain ⟨q0n, q1f, hF⟩ := hF
 refine x_seq <| x_region <| p (yl_assign rfl) <| x_done <|
  x_seq <| x_region <| p (yl_move rfl) <| p (yl_move rfl) <| ?_
 have q_ := St.lend ((hS.pull 2).pull 1) q0r; obtain ⟨ρl0, hll0, hlf0, hS0, back0⟩ := q_
 have hcall := c_slices_IndexFunc_rules_Wire_rules_Wire q1f hlf0 (q0c.le hll0) (hS0.pull 1)
 refine o_cc call_77 (args2 rfl rfl) ((Calls.mono hcall (fun e w'' h => And.intro h.1 ((((back0 (h.2.pull 1)).pull 1).pull 2).pull 2)))) ?_
 rintro e w' ⟨rfl, hS⟩
 refine ⟨_, rfl, ?_⟩
 refine p (v := .int .i64 q0n) (yl_assign rfl) <| x_done <| x_seq <| x_seq <|
  x_region <| p (v := .int .i64 q0n) (yl_move rfl) <| p (yl_eql rfl rfl) <| x_done <|
  x_cond_p (q0n = (-1)) rfl (fun hc12 => ?_) (fun hc12 => ?_)
 ·replace hF := it_t hc12 hF
  refine x_seq <| x_region <| p (yl_move rfl) <| p (yl_assign rfl) <|
   x_done <| ?_
  have q_ := St.vec_fz ((hS.pull 2).pull 1) q0r; obtain ⟨q0y, q0s, q0z, hS⟩ := q_
  have e_ := sinj hF; subst e_
  exact x_return ⟨_, ⟨_, _, rfl, rfl, rfl⟩, q0y, q0a, s0.length, c_s0, rfl, q0s, q0z, (hS.pull 1)⟩
 ·replace hF := it_f hc12 hF
  replace hF := ar_s hF; obtain ⟨x15, hx15, hF⟩ := hF
  refine x_skip <| x_seq <| x_seq <| x_region <|
   p (v := .int .i64 q0n) (yl_move rfl) <| p (yadd rfl rfl hx15) <| p (yl_assign rfl) <| x_done <| ?_
  replace hF := bd_s hF; obtain ⟨oL5, hLL5, hF⟩ := hF
  refine x_join (fun E w => ∃ (q0g : List Value) (q0t : List T_rules_Wire) (q0u : Int), (q0t, q0u) = oL5 ∧ E 0 = .slice q0a s0.length c_s0 ∧ E 5 = .int .i64 q0u ∧ RepL R_rules_Wire ρ q0t q0g ∧ St w0 w (vec 44 R_rules_Wire.sz (.slice q0a s0.length c_s0) s0.length q0g :: cells q3 22 [.slice q4 q5.length c_del1_0_0] :: ro ρ :: l)) ?_ ?_
  ·refine x_block ?_
   refine x_loop (fun k_ E w => ∃ (q7 : List Value) (q0d : List T_rules_Wire) (q0e : Int) (q0f : Int), lp (P_slices_DeleteFunc_rules_Wire_rules_Wire_L5 s0 q5) k_ (q0d, q0e, q0f) = some oL5 ∧ E 0 = .slice q0a s0.length c_s0 ∧ E 1 = .func (.func 55) #[] #[.pointer (some ⟨q3, 0, none⟩)] ∧ E 5 = .int .i64 q0e ∧ E 6 = .int .i64 q0f ∧ RepL R_rules_Wire ρ q0d q7 ∧ St w0 w (vec 44 R_rules_Wire.sz (.slice q0a s0.length c_s0) s0.length q7 :: cells q3 22 [.slice q4 q5.length c_del1_0_0] :: ro ρ :: l)) fuel ⟨q0q, s0, q0n, x15, hLL5, rfl, rfl, rfl, rfl, q0r, (((hS.pull 2).pull 2).pull 2)⟩ ?_
   rintro kL5 E w ⟨q7, q0d, q0e, q0f, hLL5, q9, q0o, q0h, q0i, q6, hS⟩
   replace hLL5 := lp_s hLL5; obtain ⟨kL5, obL5, rfl, hFL5, hLL5⟩ := hLL5
   refine x_seq <| x_seq <| x_region <| p (yl_move q0i) <|
    p (yl_move q9) <| p (yl_len_slice usl_26 rfl) <| p (yl_lss rfl rfl) <| x_done <|
    x_cond_p (q0f < (s0.length : Int)) rfl (fun hc19 => ?_) (fun hc19 => ?_)
   ·replace hFL5 := it_t hc19 hFL5
    replace hFL5 := ck_s hFL5; obtain ⟨q12, hFL5⟩ := hFL5
    replace hFL5 := lv_s hFL5; obtain ⟨q2, q1g, hFL5⟩ := hFL5
    have q_ := q6.get q12; obtain ⟨q1p, q13, q1h⟩ := q_
    rw [← q1g] at q13
    have e_ := q13; subst e_
    refine x_skip <| x_seq <| x_block <| x_seq <|
     x_region <| p (yl_move q9) <| p (yl_move q0i) <| p (yix_o sl_26 rfl rfl hS q6 q12) <|
     pa (v := .agg #[.int .i64 q2.Net, .int .i64 q2.Layer, .int .i64 q2.X0, .int .i64 q2.Y0, .int .i64 q2.X1, .int .i64 q2.Y1]) (at_loadAgg agg_44 rfl rfl (EltV.every q1h hS)) <| ?_
    refine o_alloc zero_44 hS (fun b7 w' hS => ?_)
    refine o_storeAgg (news := [.int .i64 q2.Net, .int .i64 q2.Layer, .int .i64 q2.X0, .int .i64 q2.Y0, .int .i64 q2.X1, .int .i64 q2.Y1]) agg_44 rfl rfl rfl (by simp [over_length]) hS (fun w' hS => ?_)
    replace hFL5 := bd_s hFL5; obtain ⟨q1m, q1i, hFL5⟩ := hFL5
    refine x_done <| x_seq <| x_region <| p (yl_move q0o) <|
     pa (v := .agg #[.int .i64 q2.Net, .int .i64 q2.Layer, .int .i64 q2.X0, .int .i64 q2.Y0, .int .i64 q2.X1, .int .i64 q2.Y1]) (ld_sub agg_44 rfl rfl rfl hS) <| ?_
    have hcall := c_detail_Without_1 q1i q0c ((hS.pull 3).pull 3)
    refine o_ccv rfl call_55 (capargs (args1 rfl)) ((Calls.mono hcall (fun e w'' h => And.intro h.1 ((((h.2.pull 1).pull 1).pull 3).pull 3)))) ?_
    rintro e w' ⟨rfl, hS⟩
    refine ⟨_, rfl, ?_⟩
    refine p (yl_not rfl) <| x_done <| ?_
    replace hFL5 := bd_s hFL5; obtain ⟨oc29, hFc29, hFL5⟩ := hFL5
    refine x_join (fun E w => ∃ (q8 : List Value) (q0j : List T_rules_Wire) (q0k : Int), (q0j, q0k) = oc29 ∧ E 0 = .slice q0a s0.length c_s0 ∧ E 1 = .func (.func 55) #[] #[.pointer (some ⟨q3, 0, none⟩)] ∧ E 5 = .int .i64 q0k ∧ E 6 = .int .i64 q0f ∧ RepL R_rules_Wire ρ q0j q8 ∧ St w0 w (vec 44 R_rules_Wire.sz (.slice q0a s0.length c_s0) s0.length q8 :: cells q3 22 [.slice q4 q5.length c_del1_0_0] :: ro ρ :: l)) ?_ ?_
    ·refine x_cond (t := !q1m) rfl (fun hc29 => ?_) (fun hc29 => ?_)
     ·replace hFc29 := it_t hc29 hFc29
      replace hFc29 := ck_s hFc29; obtain ⟨q14, hFc29⟩ := hFc29
      refine x_seq <| x_region <| p (yl_move q9) <| p (yl_move q0h) <|
       pa (v := .agg #[.int .i64 q2.Net, .int .i64 q2.Layer, .int .i64 q2.X0, .int .i64 q2.Y0, .int .i64 q2.X1, .int .i64 q2.Y1]) (ld_sub agg_44 rfl rfl rfl hS) <| p (yix_o sl_26 rfl rfl (hS.pull 1) q6 q14) <| ?_
      replace hFc29 := lv_s hFc29; obtain ⟨q1n, q1j, hFc29⟩ := hFc29
      refine o_put' (news := [.int .i64 q2.Net, .int .i64 q2.Layer, .int .i64 q2.X0, .int .i64 q2.Y0, .int .i64 q2.X1, .int .i64 q2.Y1]) sz_44 rfl rfl rfl rfl (o := 0) rfl q14 rfl (hS.pull 1) q6 (Le.refl _) (fun c hc => ok_all hc (show R_rules_Wire.ok ρ [.int .i64 q2.Net, .int .i64 q2.Layer, .int .i64 q2.X0, .int .i64 q2.Y0, .int .i64 q2.X1, .int .i64 q2.Y1] q2 from rfl)) q1j (fun q1k w' q1l hS => ?_)
      replace hFc29 := ar_s hFc29; obtain ⟨x35, hx35, hFc29⟩ := hFc29
      refine x_done <| x_region <| p (yl_move q0h) <| p (yadd rfl rfl hx35) <|
       p (yl_assign rfl) <| x_done <| ?_
      exact x_inv ⟨q1k, q1n, x35, (sinj hFc29), q9, q0o, rfl, q0i, q1l, ((((hS.pull 1).drop.pull 2).pull 2).pull 2)⟩
     ·replace hFc29 := it_bf hc29 hFc29
      refine x_skip <| ?_
      exact x_inv ⟨q7, q0d, q0e, (sinj hFc29), q9, q0o, q0h, q0i, q6, (((hS.drop.pull 2).pull 2).pull 2)⟩
    rintro E w ⟨q8, q0j, q0k, rfl, q17, q18, q19, q1a, q10, hS⟩
    replace hFL5 := ar_s hFL5; obtain ⟨x21, hx21, hFL5⟩ := hFL5
    refine x_blk <| x_region <| p (yl_move q1a) <| p (yadd rfl rfl hx21) <|
     p (yl_assign rfl) <| x_done <| ?_
    have e_ := sinj hFL5; subst e_
    exact x_inv ⟨kL5, Nat.lt_succ_self _, q8, q0j, q0k, x21, hLL5, q17, q18, q19, rfl, q10, (((hS.pull 2).pull 2).pull 2)⟩
   ·replace hFL5 := it_f hc19 hFL5
    refine x_exitTo _ rfl <| ?_
    have e_ := sinj hFL5; subst e_
    exact x_inv ⟨q7, q0d, q0e, hLL5, q9, q0h, q6, (((hS.pull 2).pull 2).pull 2)⟩
  rintro E w ⟨q0g, q0t, q0u, rfl, q15, q16, q0p, hS⟩
  replace hF := ck_s hF; obtain ⟨q0v, hF⟩ := hF
  refine x_seq <| x_region <| p (yl_move q15) <| p (yl_move q16) <|
   p (yslc sl_26 rfl rfl hS q0p q0v) <| ?_
  replace hF := lv_s hF; obtain ⟨q1q, q1b, hF⟩ := hF
  refine o_clear (z := (T_rules_Wire.mk 0 0 0 0 0 0)) usl_26 zero_44 rfl (show R_rules_Wire.ok ρ _ (T_rules_Wire.mk 0 0 0 0 0 0) from rfl) hS q0p q0v q1b (fun q1o w' q1c hS => ?_)
  refine x_done <| x_seq <| x_region <| p (yl_move q15) <|
   p (yl_move q16) <| ?_
  have q_ := St.vec_fz ((hS.pull 2).pull 1) q1c; obtain ⟨q1d, q11, q1e, hS⟩ := q_
  replace hF := ck_s hF; obtain ⟨q0w, hF⟩ := hF
  replace hF := lv_s hF; obtain ⟨x41, hx41, hF⟩ := hF
  have q_ := RdS.sub q1e q0w hx41; obtain ⟨A41, n41, c41, hd41, f41⟩ := q_
  refine p (ysub_h sl_26 rfl rfl q0w hd41) <| ?_
  have e_ := f41.n; subst e_
  refine p (yl_assign rfl) <| x_done <| ?_
  have e_ := sinj hF; subst e_
  exact x_return ⟨_, ⟨_, _, rfl, rfl, rfl⟩, q1d, A41, x41.length, c41, rfl, q11, f41, (hS.pull 1)⟩
attribute [irreducible] P_slices_DeleteFunc_rules_Wire_rules_Wire

def P_slices_Clone_rules_Via_rules_Via (s0 : List T_rules_Via) : Option (List T_rules_Via) :=
 lv (([] : List T_rules_Via) ++ s0) fun q2 =>
 ck (apOk 32 q2.length) <|
 some q2
theorem c_slices_Clone_rules_Via_rules_Via {w0 w : World} {l : List Assn} {ρ : Heap} {q6 : Option Addr} {q8 : Nat} {c_s0 : Nat} {s0 : List T_rules_Via} {r : List T_rules_Via} (hF : P_slices_Clone_rules_Via_rules_Via s0 = some r) (q7 : RdS R_rules_Via ρ q6 q8 c_s0 s0) (hS : St w0 w (ro ρ :: l)) :
  Calls Try.prog 14 #[.slice q6 q8 c_s0] w fun e w' => ∃ (q5 : Option Addr) (q2 : Nat) (c_y0_ret : Nat) (q3 : List Value), e = .returned (.slice q5 q2 c_y0_ret) ∧ RepL R_rules_Via ρ r q3 ∧ St w0 w' (vec 47 R_rules_Via.sz (.slice q5 q2 c_y0_ret) q2 q3 :: ro ρ :: l) := by
 have e_ := q7.n; subst e_
 refine enterC Try.func14 rfl 8 rfl (by simp) ?_
 refine x_seq <| x_region <| p (yl_assign rfl) <| x_done <|
  x_seq <| x_seq <| x_region <| p (yl_move rfl) <|
  p (yeq_nil usl_27 rfl rfl) <| x_done <|
  x_cond (t := Option.isNone q6) rfl (fun hc4 => ?_) (fun hc4 => ?_)
 ·have hx0 : s0 = [] := RdS.nil_of q7 hc4
  have hF : some ([] : List T_rules_Via) = some r := by rw [hx0] at hF; unfold P_slices_Clone_rules_Via_rules_Via at hF; simpa [lv, ck, apOk] using hF
  refine x_seq <| x_region <| p (yl_assign rfl) <| x_done <| ?_
  replace hS := St.vec_nil hS 47 R_rules_Via.sz
  have q4 : RepL R_rules_Via ρ [] [] := rfl
  have e_ := sinj hF; subst e_
  exact x_return ⟨_, ⟨_, _, rfl, rfl, rfl⟩, none, 0, 0, [], rfl, q4, ((hS.pull 1).pull 1)⟩
 ·skip
  refine x_skip <| x_seq <| x_region <| ?_
  refine o_buildSlice (vs := []) (cs := []) sl_27 zero_47 (parts_eq pt0) rfl (by intro v hv; cases hv) (by decide) rfl hS (fun b5 w' hS => ?_)
  refine p (yl_move rfl) <| ?_
  have q9 : RepL R_rules_Via ρ ([] : List T_rules_Via) [] := RepL.nil
  replace hS := St.vec_of (n := 0) (sz := R_rules_Via.sz) hS rfl (by decide)
  have q_ := src_f usl_27 (hS.pull 1) q7; obtain ⟨nw7, hnw7, src7⟩ := q_
  replace hF := lv_s hF; obtain ⟨q0c, q0a, hF⟩ := hF
  replace hF := ck_s hF; obtain ⟨q0b, hF⟩ := hF
  refine o_ap sl_27 zero_47 rfl (by decide) rfl rfl hS q9 src7 hnw7 q0a q0b (fun A7 c7 cs7 w' hr7 hS => ?_)
  refine p (yl_assign rfl) <| x_done <| ?_
  have e_ := sinj hF; subst e_
  exact x_return ⟨_, ⟨_, _, rfl, rfl, rfl⟩, A7, q0c.length, c7, cs7, rfl, hr7, ((hS.pull 1).pull 1)⟩
attribute [irreducible] P_slices_Clone_rules_Via_rules_Via

def P_detail_Without_2 (v0 : T_rules_Via) (q2 : List Int) : Option Bool :=
 bd (P_slices_Contains_int_int q2 v0.Net) fun q3 =>
 some q3
theorem c_detail_Without_2 {w0 w : World} {l : List Assn} {ρ : Heap} {q5 : Nat} {q2 : Option Addr} {q3 : Nat} {c_v1_0 : Nat} {v0 : T_rules_Via} {q6 : List Int} {r : Bool} (hF : P_detail_Without_2 v0 q6 = some r) (q4 : RdS (RpI .i64) ρ q2 q3 c_v1_0 q6) (hS : St w0 w (cells q5 22 [.slice q2 q3 c_v1_0] :: ro ρ :: l)) :
  Calls Try.prog 58 #[.agg #[.int .i64 v0.Net, .int .i64 v0.Layer, .int .i64 v0.X, .int .i64 v0.Y], .pointer (some ⟨q5, 0, none⟩)] w fun e w' => e = .returned (.bool r) ∧ St w0 w' (cells q5 22 [.slice q2 q3 c_v1_0] :: ro ρ :: l) := by
 have e_ := q4.n; subst e_
 refine enterC Try.func58 rfl 8 rfl (by simp) ?_
 refine x_seq <| x_region <| ?_
 refine o_box (cs := [.int .i64 v0.Net, .int .i64 v0.Layer, .int .i64 v0.X, .int .i64 v0.Y]) rfl rfl hS (fun b2 w' hS => ?_)
 replace hF := bd_s hF; obtain ⟨q8, q7, hF⟩ := hF
 refine p (yl_assign rfl) <| x_done <| x_seq <| x_region <|
  pa (at_load one_22 rfl ((hS.pull 1).cell rfl)) <| p (yl_field0 fld_47_0 rfl) <| pa (at_load one_3 rfl (hS.cell rfl)) <| ?_
 have hcall := c_slices_Contains_int_int q7 q4 (hS.pull 2)
 refine o_cc call_56 (args2 rfl rfl) ((Calls.mono hcall (fun e w'' h => And.intro h.1 ((h.2.pull 2).pull 2)))) ?_
 rintro e w' ⟨rfl, hS⟩
 refine ⟨_, rfl, ?_⟩
 refine p (v := .bool q8) (yl_assign rfl) <| x_done <| ?_
 have e_ := sinj hF; subst e_
 exact x_return ⟨_, ⟨_, _, rfl, rfl, rfl⟩, rfl, ((hS.drop.pull 1).pull 1)⟩
attribute [irreducible] P_detail_Without_2

def P_slices_IndexFunc_rules_Via_rules_Via_L2 (s0 : List T_rules_Via) (q3 : List Int) : Int → Option (Int ⊕ (Unit ⊕ Int)) := fun q2 =>
 if q2 < (s0.length : Int) then
  ck (inb q2 s0.length) <|
  lv (gt s0 q2) fun q4 =>
  bd (P_detail_Without_2 q4 q3) fun q5 =>
  if q5 = true then
   some (Sum.inr (Sum.inr q2))
  else
   ar (q2 + 1) fun x18 =>
   some (Sum.inl x18)
 else
  some (Sum.inr (Sum.inl ()))
def P_slices_IndexFunc_rules_Via_rules_Via (s0 : List T_rules_Via) (q2 : List Int) : Option Int :=
 bs (
  lp (P_slices_IndexFunc_rules_Via_rules_Via_L2 s0 q2) fuel 0) (fun y => some y) fun _ =>
 some (-1 : Int)
theorem c_slices_IndexFunc_rules_Via_rules_Via {w0 w : World} {l : List Assn} {ρ : Heap} {q0d : Option Addr} {q0h : Nat} {c_s0 : Nat} {q3 : Nat} {q2 : Option Addr} {q5 : Nat} {c_f1_0_0 : Nat} {s0 : List T_rules_Via} {q4 : List Int} {r : Int} (hF : P_slices_IndexFunc_rules_Via_rules_Via s0 q4 = some r) (q0e : RdS R_rules_Via ρ q0d q0h c_s0 s0) (q7 : RdS (RpI .i64) ρ q2 q5 c_f1_0_0 q4) (hS : St w0 w (cells q3 22 [.slice q2 q5 c_f1_0_0] :: ro ρ :: l)) :
  Calls Try.prog 79 #[.slice q0d q0h c_s0, .func (.func 58) #[] #[.pointer (some ⟨q3, 0, none⟩)]] w fun e w' => e = .returned (.int .i64 r) ∧ St w0 w' (cells q3 22 [.slice q2 q5 c_f1_0_0] :: ro ρ :: l) := by
 have e_ := q0e.n; subst e_
 have e_ := q7.n; subst e_
 refine enterC Try.func79 rfl 19 rfl (by simp) ?_
 refine x_seq <| x_region <| p (yl_assign rfl) <| x_done <|
  x_seq <| x_seq <| x_region <| p (yl_move rfl) <|
  p (yl_len_slice usl_27 rfl) <| p (yl_move rfl) <| x_done <| ?_
 replace hF := bs_s hF; obtain ⟨oL2, hLL2, hF⟩ := hF
 refine x_join (fun E w => (Sum.inl (())) = oL2 ∧ St w0 w (cells q3 22 [.slice q2 q4.length c_f1_0_0] :: ro ρ :: l)) ?_ ?_
 ·refine x_block ?_
  refine x_loop (fun k_ E w => ∃ (q6 : Int), lp (P_slices_IndexFunc_rules_Via_rules_Via_L2 s0 q4) k_ q6 = some oL2 ∧ E 0 = .slice q0d s0.length c_s0 ∧ E 1 = .func (.func 58) #[] #[.pointer (some ⟨q3, 0, none⟩)] ∧ E 7 = .int .i64 (s0.length : Int) ∧ E 8 = .int .i64 q6 ∧ St w0 w (cells q3 22 [.slice q2 q4.length c_f1_0_0] :: ro ρ :: l)) fuel ⟨0, hLL2, rfl, rfl, rfl, rfl, ((hS.pull 1).pull 1)⟩ ?_
  rintro kL2 E w ⟨q6, hLL2, q0a, q0b, q0c, q8, hS⟩
  replace hLL2 := lp_s hLL2; obtain ⟨kL2, obL2, rfl, hFL2, hLL2⟩ := hLL2
  refine x_seq <| x_region <| p (yl_lss q8 q0c) <| x_done <|
   x_seq <|
   x_cond_p (q6 < (s0.length : Int)) rfl (fun hc9 => ?_) (fun hc9 => ?_)
  ·replace hFL2 := it_t hc9 hFL2
   replace hFL2 := ck_s hFL2; obtain ⟨q0f, hFL2⟩ := hFL2
   replace hFL2 := lv_s hFL2; obtain ⟨q9, q0i, hFL2⟩ := hFL2
   have q_ := q0e.get q0f; obtain ⟨q0m, q0g, q0j⟩ := q_
   rw [← q0i] at q0g
   have e_ := q0g; subst e_
   replace hFL2 := bd_s hFL2; obtain ⟨q0l, q0k, hFL2⟩ := hFL2
   refine x_skip <| x_seq <| x_block <| x_seq <|
    x_region <| p (yl_move q8) <| p (yl_assign rfl) <| x_done <|
    x_seq <| x_region <| p (yl_move q0b) <| p (yl_move q0a) <|
    p (yl_move rfl) <| p (yix_f sl_27 rfl rfl q0e q0f) <| pa (v := .agg #[.int .i64 q9.Net, .int .i64 q9.Layer, .int .i64 q9.X, .int .i64 q9.Y]) (at_loadAgg agg_47 rfl rfl (Elt.every q0j (hS.pull 1))) <| ?_
   have hcall := c_detail_Without_2 q0k q7 hS
   refine o_ccv rfl call_58 (capargs (args1 rfl)) (hcall) ?_
   rintro e w' ⟨rfl, hS⟩
   refine ⟨_, rfl, ?_⟩
   refine x_done <|
    x_cond (t := q0l) rfl (fun hc16 => ?_) (fun hc16 => ?_)
   ·replace hFL2 := it_t hc16 hFL2
    refine x_seq <| x_region <| p (yl_move rfl) <| p (yl_assign rfl) <|
     x_done <| ?_
    have e_ := sinj hFL2; subst e_
    have e_ := (show _ = oL2 from hLL2); subst e_
    have e_ := sinj hF; subst e_
    exact x_return ⟨_, ⟨_, _, rfl, rfl, rfl⟩, rfl, ((hS.pull 1).pull 1)⟩
   ·replace hFL2 := it_bf hc16 hFL2
    replace hFL2 := ar_s hFL2; obtain ⟨x18, hx18, hFL2⟩ := hFL2
    refine x_skip <| x_blk <| x_region <| p (yadd q8 rfl hx18) <|
     p (yl_move rfl) <| x_done <| ?_
    have e_ := sinj hFL2; subst e_
    exact x_inv ⟨kL2, Nat.lt_succ_self _, x18, hLL2, q0a, q0b, q0c, rfl, ((hS.pull 1).pull 1)⟩
  ·replace hFL2 := it_f hc9 hFL2
   refine x_exitTo _ rfl <| ?_
   have e_ := sinj hFL2; subst e_
   exact x_inv ⟨hLL2, ((hS.pull 1).pull 1)⟩
 rintro E w ⟨rfl, hS⟩
 refine x_seq <| x_region <| p (yl_assign rfl) <| x_done <| ?_
 have e_ := sinj hF; subst e_
 exact x_return ⟨_, ⟨_, _, rfl, rfl, rfl⟩, rfl, ((hS.pull 1).pull 1)⟩
attribute [irreducible] P_slices_IndexFunc_rules_Via_rules_Via

def P_slices_DeleteFunc_rules_Via_rules_Via_L5 (s0 : List T_rules_Via) (q5 : List Int) : (List T_rules_Via × Int × Int) → Option ((List T_rules_Via × Int × Int) ⊕ (List T_rules_Via × Int)) := fun (q2, q3, q4) =>
 if q4 < (s0.length : Int) then
  ck (inb q4 q2.length) <|
  lv (gt q2 q4) fun q6 =>
  bd (P_detail_Without_2 q6 q5) fun q9 =>
  bd (
   if (!q9) = true then
    ck (inb q3 q2.length) <|
    lv (stt q2 q3 q6) fun q0a =>
    ar (q3 + 1) fun x35 =>
    some (q0a, x35)
   else
    some (q2, q3)) fun (q7, q8) =>
  ar (q4 + 1) fun x21 =>
  some (Sum.inl (q7, q8, x21))
 else
  some (Sum.inr (q2, q3))
def P_slices_DeleteFunc_rules_Via_rules_Via (s0 : List T_rules_Via) (q3 : List Int) : Option (List T_rules_Via) :=
 bd (P_slices_IndexFunc_rules_Via_rules_Via s0 q3) fun q5 =>
 if q5 = (-1) then
  some s0
 else
  ar (q5 + 1) fun x15 =>
  bd (
   lp (P_slices_DeleteFunc_rules_Via_rules_Via_L5 s0 q3) fuel (s0, q5, x15)) fun (q4, q2) =>
  ck (0 ≤ q2 ∧ q2 ≤ q4.length) <|
  lv (q4.take (q2 : Int).toNat ++ List.replicate (q4.length - (q2 : Int).toNat) (T_rules_Via.mk 0 0 0 0)) fun q6 =>
  ck (0 ≤ (0 : Int) ∧ (0 : Int) ≤ q2 ∧ q2 ≤ q6.length) <|
  lv (sub q6 0 q2) fun x41 =>
  some x41
theorem c_slices_DeleteFunc_rules_Via_rules_Via {w0 w : World} {l : List Assn} {ρ : Heap} {q0a : Option Addr} {q0x : Nat} {c_s0 : Nat} {q0q : List Value} {q3 : Nat} {q4 : Option Addr} {q0b : Nat} {c_del1_0_0 : Nat} {s0 : List T_rules_Via} {q5 : List Int} {r : List T_rules_Via} (hF : P_slices_DeleteFunc_rules_Via_rules_Via s0 q5 = some r) (q0r : RepL R_rules_Via ρ s0 q0q) (q0c : RdS (RpI .i64) ρ q4 q0b c_del1_0_0 q5) (hS : St w0 w (vec 47 R_rules_Via.sz (.slice q0a q0x c_s0) q0x q0q :: cells q3 22 [.slice q4 q0b c_del1_0_0] :: ro ρ :: l)) :
  Calls Try.prog 57 #[.slice q0a q0x c_s0, .func (.func 58) #[] #[.pointer (some ⟨q3, 0, none⟩)]] w fun e w' => ∃ (ρ' : Heap) (q0l : Option Addr) (q0m : Nat) (c_y0_ret : Nat), e = .returned (.slice q0l q0m c_y0_ret) ∧ Le ρ ρ' ∧ RdS R_rules_Via ρ' q0l q0m c_y0_ret r ∧ St w0 w' (cells q3 22 [.slice q4 q0b c_del1_0_0] :: ro ρ' :: l) := by
 have e_ := St.vec_n hS q0r; subst e_
 have e_ := q0c.n; subst e_
 refine enterC Try.func57 rfl 42 rfl (by simp) ?_
 replace hF := bd_s hF; obtain ⟨q0n, q1f, hF⟩ := hF
 refine x_seq <| x_region <| p (yl_assign rfl) <| x_done <|
  x_seq <| x_region <| p (yl_move rfl) <| p (yl_move rfl) <| ?_
 have q_ := St.lend ((hS.pull 2).pull 1) q0r; obtain ⟨ρl0, hll0, hlf0, hS0, back0⟩ := q_
 have hcall := c_slices_IndexFunc_rules_Via_rules_Via q1f hlf0 (q0c.le hll0) (hS0.pull 1)
 refine o_cc call_79 (args2 rfl rfl) ((Calls.mono hcall (fun e w'' h => And.intro h.1 ((((back0 (h.2.pull 1)).pull 1).pull 2).pull 2)))) ?_
 rintro e w' ⟨rfl, hS⟩
 refine ⟨_, rfl, ?_⟩
 refine p (v := .int .i64 q0n) (yl_assign rfl) <| x_done <| x_seq <| x_seq <|
  x_region <| p (v := .int .i64 q0n) (yl_move rfl) <| p (yl_eql rfl rfl) <| x_done <|
  x_cond_p (q0n = (-1)) rfl (fun hc12 => ?_) (fun hc12 => ?_)
 ·replace hF := it_t hc12 hF
  refine x_seq <| x_region <| p (yl_move rfl) <| p (yl_assign rfl) <|
   x_done <| ?_
  have q_ := St.vec_fz ((hS.pull 2).pull 1) q0r; obtain ⟨q0y, q0s, q0z, hS⟩ := q_
  have e_ := sinj hF; subst e_
  exact x_return ⟨_, ⟨_, _, rfl, rfl, rfl⟩, q0y, q0a, s0.length, c_s0, rfl, q0s, q0z, (hS.pull 1)⟩
 ·replace hF := it_f hc12 hF
  replace hF := ar_s hF; obtain ⟨x15, hx15, hF⟩ := hF
  refine x_skip <| x_seq <| x_seq <| x_region <|
   p (v := .int .i64 q0n) (yl_move rfl) <| p (yadd rfl rfl hx15) <| p (yl_assign rfl) <| x_done <| ?_
  replace hF := bd_s hF; obtain ⟨oL5, hLL5, hF⟩ := hF
  refine x_join (fun E w => ∃ (q0g : List Value) (q0t : List T_rules_Via) (q0u : Int), (q0t, q0u) = oL5 ∧ E 0 = .slice q0a s0.length c_s0 ∧ E 5 = .int .i64 q0u ∧ RepL R_rules_Via ρ q0t q0g ∧ St w0 w (vec 47 R_rules_Via.sz (.slice q0a s0.length c_s0) s0.length q0g :: cells q3 22 [.slice q4 q5.length c_del1_0_0] :: ro ρ :: l)) ?_ ?_
  ·refine x_block ?_
   refine x_loop (fun k_ E w => ∃ (q7 : List Value) (q0d : List T_rules_Via) (q0e : Int) (q0f : Int), lp (P_slices_DeleteFunc_rules_Via_rules_Via_L5 s0 q5) k_ (q0d, q0e, q0f) = some oL5 ∧ E 0 = .slice q0a s0.length c_s0 ∧ E 1 = .func (.func 58) #[] #[.pointer (some ⟨q3, 0, none⟩)] ∧ E 5 = .int .i64 q0e ∧ E 6 = .int .i64 q0f ∧ RepL R_rules_Via ρ q0d q7 ∧ St w0 w (vec 47 R_rules_Via.sz (.slice q0a s0.length c_s0) s0.length q7 :: cells q3 22 [.slice q4 q5.length c_del1_0_0] :: ro ρ :: l)) fuel ⟨q0q, s0, q0n, x15, hLL5, rfl, rfl, rfl, rfl, q0r, (((hS.pull 2).pull 2).pull 2)⟩ ?_
   rintro kL5 E w ⟨q7, q0d, q0e, q0f, hLL5, q9, q0o, q0h, q0i, q6, hS⟩
   replace hLL5 := lp_s hLL5; obtain ⟨kL5, obL5, rfl, hFL5, hLL5⟩ := hLL5
   refine x_seq <| x_seq <| x_region <| p (yl_move q0i) <|
    p (yl_move q9) <| p (yl_len_slice usl_27 rfl) <| p (yl_lss rfl rfl) <| x_done <|
    x_cond_p (q0f < (s0.length : Int)) rfl (fun hc19 => ?_) (fun hc19 => ?_)
   ·replace hFL5 := it_t hc19 hFL5
    replace hFL5 := ck_s hFL5; obtain ⟨q12, hFL5⟩ := hFL5
    replace hFL5 := lv_s hFL5; obtain ⟨q2, q1g, hFL5⟩ := hFL5
    have q_ := q6.get q12; obtain ⟨q1p, q13, q1h⟩ := q_
    rw [← q1g] at q13
    have e_ := q13; subst e_
    refine x_skip <| x_seq <| x_block <| x_seq <|
     x_region <| p (yl_move q9) <| p (yl_move q0i) <| p (yix_o sl_27 rfl rfl hS q6 q12) <|
     pa (v := .agg #[.int .i64 q2.Net, .int .i64 q2.Layer, .int .i64 q2.X, .int .i64 q2.Y]) (at_loadAgg agg_47 rfl rfl (EltV.every q1h hS)) <| ?_
    refine o_alloc zero_47 hS (fun b7 w' hS => ?_)
    refine o_storeAgg (news := [.int .i64 q2.Net, .int .i64 q2.Layer, .int .i64 q2.X, .int .i64 q2.Y]) agg_47 rfl rfl rfl (by simp [over_length]) hS (fun w' hS => ?_)
    replace hFL5 := bd_s hFL5; obtain ⟨q1m, q1i, hFL5⟩ := hFL5
    refine x_done <| x_seq <| x_region <| p (yl_move q0o) <|
     pa (v := .agg #[.int .i64 q2.Net, .int .i64 q2.Layer, .int .i64 q2.X, .int .i64 q2.Y]) (ld_sub agg_47 rfl rfl rfl hS) <| ?_
    have hcall := c_detail_Without_2 q1i q0c ((hS.pull 3).pull 3)
    refine o_ccv rfl call_58 (capargs (args1 rfl)) ((Calls.mono hcall (fun e w'' h => And.intro h.1 ((((h.2.pull 1).pull 1).pull 3).pull 3)))) ?_
    rintro e w' ⟨rfl, hS⟩
    refine ⟨_, rfl, ?_⟩
    refine p (yl_not rfl) <| x_done <| ?_
    replace hFL5 := bd_s hFL5; obtain ⟨oc29, hFc29, hFL5⟩ := hFL5
    refine x_join (fun E w => ∃ (q8 : List Value) (q0j : List T_rules_Via) (q0k : Int), (q0j, q0k) = oc29 ∧ E 0 = .slice q0a s0.length c_s0 ∧ E 1 = .func (.func 58) #[] #[.pointer (some ⟨q3, 0, none⟩)] ∧ E 5 = .int .i64 q0k ∧ E 6 = .int .i64 q0f ∧ RepL R_rules_Via ρ q0j q8 ∧ St w0 w (vec 47 R_rules_Via.sz (.slice q0a s0.length c_s0) s0.length q8 :: cells q3 22 [.slice q4 q5.length c_del1_0_0] :: ro ρ :: l)) ?_ ?_
    ·refine x_cond (t := !q1m) rfl (fun hc29 => ?_) (fun hc29 => ?_)
     ·replace hFc29 := it_t hc29 hFc29
      replace hFc29 := ck_s hFc29; obtain ⟨q14, hFc29⟩ := hFc29
      refine x_seq <| x_region <| p (yl_move q9) <| p (yl_move q0h) <|
       pa (v := .agg #[.int .i64 q2.Net, .int .i64 q2.Layer, .int .i64 q2.X, .int .i64 q2.Y]) (ld_sub agg_47 rfl rfl rfl hS) <| p (yix_o sl_27 rfl rfl (hS.pull 1) q6 q14) <| ?_
      replace hFc29 := lv_s hFc29; obtain ⟨q1n, q1j, hFc29⟩ := hFc29
      refine o_put' (news := [.int .i64 q2.Net, .int .i64 q2.Layer, .int .i64 q2.X, .int .i64 q2.Y]) sz_47 rfl rfl rfl rfl (o := 0) rfl q14 rfl (hS.pull 1) q6 (Le.refl _) (fun c hc => ok_all hc (show R_rules_Via.ok ρ [.int .i64 q2.Net, .int .i64 q2.Layer, .int .i64 q2.X, .int .i64 q2.Y] q2 from rfl)) q1j (fun q1k w' q1l hS => ?_)
      replace hFc29 := ar_s hFc29; obtain ⟨x35, hx35, hFc29⟩ := hFc29
      refine x_done <| x_region <| p (yl_move q0h) <| p (yadd rfl rfl hx35) <|
       p (yl_assign rfl) <| x_done <| ?_
      exact x_inv ⟨q1k, q1n, x35, (sinj hFc29), q9, q0o, rfl, q0i, q1l, ((((hS.pull 1).drop.pull 2).pull 2).pull 2)⟩
     ·replace hFc29 := it_bf hc29 hFc29
      refine x_skip <| ?_
      exact x_inv ⟨q7, q0d, q0e, (sinj hFc29), q9, q0o, q0h, q0i, q6, (((hS.drop.pull 2).pull 2).pull 2)⟩
    rintro E w ⟨q8, q0j, q0k, rfl, q17, q18, q19, q1a, q10, hS⟩
    replace hFL5 := ar_s hFL5; obtain ⟨x21, hx21, hFL5⟩ := hFL5
    refine x_blk <| x_region <| p (yl_move q1a) <| p (yadd rfl rfl hx21) <|
     p (yl_assign rfl) <| x_done <| ?_
    have e_ := sinj hFL5; subst e_
    exact x_inv ⟨kL5, Nat.lt_succ_self _, q8, q0j, q0k, x21, hLL5, q17, q18, q19, rfl, q10, (((hS.pull 2).pull 2).pull 2)⟩
   ·replace hFL5 := it_f hc19 hFL5
    refine x_exitTo _ rfl <| ?_
    have e_ := sinj hFL5; subst e_
    exact x_inv ⟨q7, q0d, q0e, hLL5, q9, q0h, q6, (((hS.pull 2).pull 2).pull 2)⟩
  rintro E w ⟨q0g, q0t, q0u, rfl, q15, q16, q0p, hS⟩
  replace hF := ck_s hF; obtain ⟨q0v, hF⟩ := hF
  refine x_seq <| x_region <| p (yl_move q15) <| p (yl_move q16) <|
   p (yslc sl_27 rfl rfl hS q0p q0v) <| ?_
  replace hF := lv_s hF; obtain ⟨q1q, q1b, hF⟩ := hF
  refine o_clear (z := (T_rules_Via.mk 0 0 0 0)) usl_27 zero_47 rfl (show R_rules_Via.ok ρ _ (T_rules_Via.mk 0 0 0 0) from rfl) hS q0p q0v q1b (fun q1o w' q1c hS => ?_)
  refine x_done <| x_seq <| x_region <| p (yl_move q15) <|
   p (yl_move q16) <| ?_
  have q_ := St.vec_fz ((hS.pull 2).pull 1) q1c; obtain ⟨q1d, q11, q1e, hS⟩ := q_
  replace hF := ck_s hF; obtain ⟨q0w, hF⟩ := hF
  replace hF := lv_s hF; obtain ⟨x41, hx41, hF⟩ := hF
  have q_ := RdS.sub q1e q0w hx41; obtain ⟨A41, n41, c41, hd41, f41⟩ := q_
  refine p (ysub_h sl_27 rfl rfl q0w hd41) <| ?_
  have e_ := f41.n; subst e_
  refine p (yl_assign rfl) <| x_done <| ?_
  have e_ := sinj hF; subst e_
  exact x_return ⟨_, ⟨_, _, rfl, rfl, rfl⟩, q1d, A41, x41.length, c41, rfl, q11, f41, (hS.pull 1)⟩
attribute [irreducible] P_slices_DeleteFunc_rules_Via_rules_Via

def P_detail_Without (l_0 : T_rules_Layout) (nets1 : List Int) : Option T_rules_Layout :=
 bd (P_slices_Clone_rules_Wire_rules_Wire l_0.Wires) fun q2 =>
 bd (P_slices_DeleteFunc_rules_Wire_rules_Wire q2 nets1) fun q3 =>
 bd (P_slices_Clone_rules_Via_rules_Via l_0.Vias) fun q4 =>
 bd (P_slices_DeleteFunc_rules_Via_rules_Via q4 nets1) fun q5 =>
 some (T_rules_Layout.mk l_0.W l_0.H l_0.Layers l_0.Nets q3 q5 l_0.Pins l_0.Walls)
theorem c_detail_Without {w0 w : World} {l : List Assn} {ρ : Heap} {q6 : Option Addr} {q0o : Nat} {c_l_0_4 : Nat} {q7 : Option Addr} {q0p : Nat} {c_l_0_5 : Nat} {q2 : Option Addr} {q0q : Nat} {c_l_0_6 : Nat} {q3 : Option Addr} {q0r : Nat} {c_l_0_7 : Nat} {q0m : Option Addr} {q0s : Nat} {c_nets1 : Nat} {l_0 : T_rules_Layout} {nets1 : List Int} {r : T_rules_Layout} (hF : P_detail_Without l_0 nets1 = some r) (q0t : RdS R_rules_Wire ρ q6 q0o c_l_0_4 l_0.Wires) (q0u : RdS R_rules_Via ρ q7 q0p c_l_0_5 l_0.Vias) (q0v : RdS R_rules_Pin ρ q2 q0q c_l_0_6 l_0.Pins) (q0w : RdS R_floor_Wall ρ q3 q0r c_l_0_7 l_0.Walls) (q0n : RdS (RpI .i64) ρ q0m q0s c_nets1 nets1) (hS : St w0 w (ro ρ :: l)) :
  Calls Try.prog 27 #[.agg #[.int .i64 l_0.W, .int .i64 l_0.H, .int .i64 l_0.Layers, .int .i64 l_0.Nets, .slice q6 q0o c_l_0_4, .slice q7 q0p c_l_0_5, .slice q2 q0q c_l_0_6, .slice q3 q0r c_l_0_7], .slice q0m q0s c_nets1] w fun e w' => ∃ (ρ' : Heap) (q0d : Option Addr) (q0e : Nat) (c_y0_ret_4 : Nat) (q0f : Option Addr) (q0g : Nat) (c_y0_ret_5 : Nat) (q0h : Option Addr) (q0i : Nat) (c_y0_ret_6 : Nat) (q0j : Option Addr) (q0k : Nat) (c_y0_ret_7 : Nat), e = .returned (.agg #[.int .i64 r.W, .int .i64 r.H, .int .i64 r.Layers, .int .i64 r.Nets, .slice q0d q0e c_y0_ret_4, .slice q0f q0g c_y0_ret_5, .slice q0h q0i c_y0_ret_6, .slice q0j q0k c_y0_ret_7]) ∧ Le ρ ρ' ∧ RdS R_rules_Wire ρ' q0d q0e c_y0_ret_4 r.Wires ∧ RdS R_rules_Via ρ' q0f q0g c_y0_ret_5 r.Vias ∧ RdS R_rules_Pin ρ' q0h q0i c_y0_ret_6 r.Pins ∧ RdS R_floor_Wall ρ' q0j q0k c_y0_ret_7 r.Walls ∧ St w0 w' (ro ρ' :: l) := by
 have e_ := q0t.n; subst e_
 have e_ := q0u.n; subst e_
 have e_ := q0v.n; subst e_
 have e_ := q0w.n; subst e_
 have e_ := q0n.n; subst e_
 refine enterC Try.func27 rfl 20 rfl (by simp) ?_
 refine x_seq <| x_region <| ?_
 refine o_box (cs := [.int .i64 l_0.W, .int .i64 l_0.H, .int .i64 l_0.Layers, .int .i64 l_0.Nets, .slice q6 l_0.Wires.length c_l_0_4, .slice q7 l_0.Vias.length c_l_0_5, .slice q2 l_0.Pins.length c_l_0_6, .slice q3 l_0.Walls.length c_l_0_7]) rfl rfl hS (fun b2 w' hS => ?_)
 refine o_box (cs := [.slice q0m nets1.length c_nets1]) rfl rfl hS (fun b3 w' hS => ?_)
 refine o_alloc zero_31 hS (fun b4 w' hS => ?_)
 refine x_done <| x_seq <| x_region <| pa (v := .agg #[.int .i64 l_0.W, .int .i64 l_0.H, .int .i64 l_0.Layers, .int .i64 l_0.Nets, .slice q6 l_0.Wires.length c_l_0_4, .slice q7 l_0.Vias.length c_l_0_5, .slice q2 l_0.Pins.length c_l_0_6, .slice q3 l_0.Walls.length c_l_0_7]) (ld_sub agg_31 rfl rfl rfl (hS.pull 2)) <| ?_
 refine o_alloc zero_31 hS (fun b5 w' hS => ?_)
 refine o_storeAgg (news := [.int .i64 l_0.W, .int .i64 l_0.H, .int .i64 l_0.Layers, .int .i64 l_0.Nets, .slice q6 l_0.Wires.length c_l_0_4, .slice q7 l_0.Vias.length c_l_0_5, .slice q2 l_0.Pins.length c_l_0_6, .slice q3 l_0.Walls.length c_l_0_7]) agg_31 rfl rfl rfl (by simp [over_length]) hS (fun w' hS => ?_)
 replace hF := bd_s hF; obtain ⟨q1d, q18, hF⟩ := hF
 refine x_done <| x_seq <| x_region <| p (yl_field0 fld_31_4 rfl) <|
  pa (at_load one_26 rfl ((hS.pull 3).cell rfl)) <| ?_
 have hcall := c_slices_Clone_rules_Wire_rules_Wire q18 q0t (hS.pull 4)
 refine o_cc call_13 (args1 rfl) hcall ?_
 rintro e w' ⟨q11, q12, c_y0_ret_2_2, q0z, rfl, q8, hS⟩
 refine ⟨_, rfl, ?_⟩
 have e_ := St.vec_n hS q8; subst e_
 replace hF := bd_s hF; obtain ⟨q0x, q19, hF⟩ := hF
 refine p (v := .func (.func 55) #[] #[.pointer (some ⟨b3, 0, none⟩)]) (yl_makeFunc (by simp only [List.map_toArray, List.map_nil]) (by simp only [List.map_toArray, List.map_cons, List.map_nil]; rfl)) <| ?_
 have hcall := c_slices_DeleteFunc_rules_Wire_rules_Wire q19 q8 q0n (((hS.pull 1).pull 4).pull 2)
 refine o_cc call_54 (args2 rfl rfl) hcall ?_
 rintro e w' ⟨q1c, q4, q13, c_y0_ret_2_4, rfl, q9, q0a, hS⟩
 refine ⟨_, rfl, ?_⟩
 have e_ := q0a.n; subst e_
 refine p (yl_field0 fld_31_4 rfl) <| ?_
 refine o_store1 (v := .slice q4 q0x.length c_y0_ret_2_4) one_26 rfl rfl rfl rfl (hS.pull 2) (fun w' hS => ?_)
 replace hF := bd_s hF; obtain ⟨q1e, q1a, hF⟩ := hF
 refine x_done <| x_seq <| x_region <| p (yl_field0 fld_31_5 rfl) <|
  pa (at_load one_27 rfl ((hS.pull 4).cell rfl)) <| ?_
 have hcall := c_slices_Clone_rules_Via_rules_Via q1a (q0u.le q9) (hS.pull 2)
 refine o_cc call_14 (args1 rfl) hcall ?_
 rintro e w' ⟨q14, q15, c_y0_ret_3_2, q10, rfl, q0b, hS⟩
 refine ⟨_, rfl, ?_⟩
 have e_ := St.vec_n hS q0b; subst e_
 replace hF := bd_s hF; obtain ⟨q0y, q1b, hF⟩ := hF
 refine p (v := .func (.func 58) #[] #[.pointer (some ⟨b3, 0, none⟩)]) (yl_makeFunc (by simp only [List.map_toArray, List.map_nil]) (by simp only [List.map_toArray, List.map_cons, List.map_nil]; rfl)) <| ?_
 have hcall := c_slices_DeleteFunc_rules_Via_rules_Via q1b q0b (q0n.le q9) (((hS.pull 1).pull 3).pull 2)
 refine o_cc call_57 (args2 rfl rfl) hcall ?_
 rintro e w' ⟨q16, q5, q17, c_y0_ret_3_4, rfl, q0l, q0c, hS⟩
 refine ⟨_, rfl, ?_⟩
 have e_ := q0c.n; subst e_
 refine p (yl_field0 fld_31_5 rfl) <| ?_
 refine o_store1 (v := .slice q5 q0y.length c_y0_ret_3_4) one_27 rfl rfl rfl rfl (hS.pull 2) (fun w' hS => ?_)
 refine x_done <| x_seq <| x_region <| pa (v := .agg #[.int .i64 l_0.W, .int .i64 l_0.H, .int .i64 l_0.Layers, .int .i64 l_0.Nets, .slice q4 q0x.length c_y0_ret_2_4, .slice q5 q0y.length c_y0_ret_3_4, .slice q2 l_0.Pins.length c_l_0_6, .slice q3 l_0.Walls.length c_l_0_7]) (ld_sub agg_31 rfl rfl rfl hS) <| ?_
 refine o_storeAgg (news := [.int .i64 l_0.W, .int .i64 l_0.H, .int .i64 l_0.Layers, .int .i64 l_0.Nets, .slice q4 q0x.length c_y0_ret_2_4, .slice q5 q0y.length c_y0_ret_3_4, .slice q2 l_0.Pins.length c_l_0_6, .slice q3 l_0.Walls.length c_l_0_7]) agg_31 rfl rfl rfl (by simp [over_length]) (hS.pull 3) (fun w' hS => ?_)
 refine x_done <| ?_
 have e_ := sinj hF; subst e_
 exact x_return ⟨_, ⟨_, _, _, rfl, rfl, ldvA agg_31 rfl (fun j v hj => by rw [add0]; exact St.cell hS hj), rfl⟩, q16, q4, q0x.length, c_y0_ret_2_4, q5, q0y.length, c_y0_ret_3_4, q2, l_0.Pins.length, c_l_0_6, q3, l_0.Walls.length, c_l_0_7, rfl, (q9.trans q0l), (q0a.le q0l), q0c, (q0v.le (q9.trans q0l)), (q0w.le (q9.trans q0l)), ((hS.drop.drop.drop.pull 1).drop)⟩
attribute [irreducible] P_detail_Without

def P_slices_Clone_rules_Pin_rules_Pin (s0 : List T_rules_Pin) : Option (List T_rules_Pin) :=
 lv (([] : List T_rules_Pin) ++ s0) fun q2 =>
 ck (apOk 40 q2.length) <|
 some q2
theorem c_slices_Clone_rules_Pin_rules_Pin {w0 w : World} {l : List Assn} {ρ : Heap} {q6 : Option Addr} {q8 : Nat} {c_s0 : Nat} {s0 : List T_rules_Pin} {r : List T_rules_Pin} (hF : P_slices_Clone_rules_Pin_rules_Pin s0 = some r) (q7 : RdS R_rules_Pin ρ q6 q8 c_s0 s0) (hS : St w0 w (ro ρ :: l)) :
  Calls Try.prog 11 #[.slice q6 q8 c_s0] w fun e w' => ∃ (q5 : Option Addr) (q2 : Nat) (c_y0_ret : Nat) (q3 : List Value), e = .returned (.slice q5 q2 c_y0_ret) ∧ RepL R_rules_Pin ρ r q3 ∧ St w0 w' (vec 39 R_rules_Pin.sz (.slice q5 q2 c_y0_ret) q2 q3 :: ro ρ :: l) := by
 have e_ := q7.n; subst e_
 refine enterC Try.func11 rfl 8 rfl (by simp) ?_
 refine x_seq <| x_region <| p (yl_assign rfl) <| x_done <|
  x_seq <| x_seq <| x_region <| p (yl_move rfl) <|
  p (yeq_nil usl_28 rfl rfl) <| x_done <|
  x_cond (t := Option.isNone q6) rfl (fun hc4 => ?_) (fun hc4 => ?_)
 ·have hx0 : s0 = [] := RdS.nil_of q7 hc4
  have hF : some ([] : List T_rules_Pin) = some r := by rw [hx0] at hF; unfold P_slices_Clone_rules_Pin_rules_Pin at hF; simpa [lv, ck, apOk] using hF
  refine x_seq <| x_region <| p (yl_assign rfl) <| x_done <| ?_
  replace hS := St.vec_nil hS 39 R_rules_Pin.sz
  have q4 : RepL R_rules_Pin ρ [] [] := rfl
  have e_ := sinj hF; subst e_
  exact x_return ⟨_, ⟨_, _, rfl, rfl, rfl⟩, none, 0, 0, [], rfl, q4, ((hS.pull 1).pull 1)⟩
 ·skip
  refine x_skip <| x_seq <| x_region <| ?_
  refine o_buildSlice (vs := []) (cs := []) sl_28 zero_39 (parts_eq pt0) rfl (by intro v hv; cases hv) (by decide) rfl hS (fun b5 w' hS => ?_)
  refine p (yl_move rfl) <| ?_
  have q9 : RepL R_rules_Pin ρ ([] : List T_rules_Pin) [] := RepL.nil
  replace hS := St.vec_of (n := 0) (sz := R_rules_Pin.sz) hS rfl (by decide)
  have q_ := src_f usl_28 (hS.pull 1) q7; obtain ⟨nw7, hnw7, src7⟩ := q_
  replace hF := lv_s hF; obtain ⟨q0c, q0a, hF⟩ := hF
  replace hF := ck_s hF; obtain ⟨q0b, hF⟩ := hF
  refine o_ap sl_28 zero_39 rfl (by decide) rfl rfl hS q9 src7 hnw7 q0a q0b (fun A7 c7 cs7 w' hr7 hS => ?_)
  refine p (yl_assign rfl) <| x_done <| ?_
  have e_ := sinj hF; subst e_
  exact x_return ⟨_, ⟨_, _, rfl, rfl, rfl⟩, A7, q0c.length, c7, cs7, rfl, hr7, ((hS.pull 1).pull 1)⟩
attribute [irreducible] P_slices_Clone_rules_Pin_rules_Pin

def P_maskkeep4_RulesApart_1 (p0 : T_rules_Pin) (q2 : Int) : Option Unit :=
 some ()
theorem c_maskkeep4_RulesApart_1 {w0 w : World} {l : List Assn} {ρ : Heap} {q3 : Nat} {p0 : T_rules_Pin} {q2 : Int} {r : Unit} (hF : P_maskkeep4_RulesApart_1 p0 q2 = some r) (hS : St w0 w (cells q3 3 [.int .i64 q2] :: ro ρ :: l)) :
  Calls Try.prog 29 #[.agg #[.int .i64 p0.Net, .int .i64 p0.X, .int .i64 p0.Y, .bool p0.Drive, .int .i64 p0.Size], .pointer (some ⟨q3, 0, none⟩)] w fun e w' => e = .returned (.bool (decide (p0.Net = q2))) ∧ St w0 w' (cells q3 3 [.int .i64 q2] :: ro ρ :: l) := by
 refine enterC Try.func29 rfl 8 rfl (by simp) ?_
 refine x_seq <| x_region <| ?_
 refine o_box (cs := [.int .i64 p0.Net, .int .i64 p0.X, .int .i64 p0.Y, .bool p0.Drive, .int .i64 p0.Size]) rfl rfl hS (fun b2 w' hS => ?_)
 refine p (yl_assign rfl) <| x_done <| x_seq <| x_region <|
  p (yl_field0 fld_39_0 rfl) <| pa (at_load one_3 rfl (hS.cell rfl)) <| pa (at_load one_3 rfl ((hS.pull 1).cell rfl)) <| p (yl_eql rfl rfl) <|
  p (yl_assign rfl) <| x_done <| ?_
 have e_ := sinj hF; subst e_
 exact x_return ⟨_, ⟨_, _, rfl, rfl, rfl⟩, rfl, ((hS.drop.pull 1).pull 1)⟩
attribute [irreducible] P_maskkeep4_RulesApart_1


end Go.Proofs.Ytnnmbmgnpdcefaa.X
