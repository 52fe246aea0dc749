/- Printed by gen.py: plain functions, and that the Go code computes them. -/
import Derived.Test.YtfkncjfpgflafaaXI
import Derived.Test.YtfkncjfpgflafaaYW
import Derived.Test.YtfkncjfpgflafaaXT
namespace Go.Proofs.Ytfkncjfpgflafaa.X
set_option maxHeartbeats 4000000
set_option maxRecDepth 100000
open Go Go.RowKit
set_option linter.unusedVariables false
set_option linter.unusedSimpArgs false

structure T_maskmake_Stream where
 L : List Int
 fat : Int
 deriving DecidableEq, Inhabited
structure T_floor_Point where
 X : Int
 Y : Int
 deriving DecidableEq, Inhabited
def R_floor_Point : Rp T_floor_Point where
 sz := 2
 ok _ cs x := cs = [.int .i64 x.X, .int .i64 x.Y]
 pos := by decide
 len := by rintro ρ cs x rfl; rfl
 le := by rintro ρ ρ' cs x rfl hle; rfl
 one := by rintro ρ cs x rfl v hv; exact allOne_spec rfl v hv
structure T_place_Pull where
 Weight : Int
 Cells : List Int
 At : List T_floor_Point
 deriving DecidableEq, Inhabited
def R_place_Pull : Rp T_place_Pull where
 sz := 3
 ok ρ cs x := ∃ A1 n1 c1 A2 n2 c2, cs = [.int .i64 x.Weight, .slice A1 n1 c1, .slice A2 n2 c2] ∧ RdS (RpI .i64) ρ A1 n1 c1 x.Cells ∧ RdS R_floor_Point ρ A2 n2 c2 x.At
 pos := by decide
 len := by rintro ρ cs x ⟨A1, n1, c1, A2, n2, c2, rfl, _⟩; rfl
 le := by rintro ρ ρ' cs x ⟨A1, n1, c1, A2, n2, c2, rfl, h0, h1⟩ hle; exact ⟨_, _, _, _, _, _, rfl, h0.le hle, h1.le hle⟩
 one := by rintro ρ cs x ⟨A1, n1, c1, A2, n2, c2, rfl, _⟩ v hv; exact allOne_spec rfl v hv
structure T_exact_Int where
 fneg : Bool
 fmag : List Int
 deriving DecidableEq, Inhabited
def R_exact_Int : Rp T_exact_Int where
 sz := 2
 ok ρ cs x := ∃ A1 n1 c1, cs = [.bool x.fneg, .slice A1 n1 c1] ∧ RdS (RpI .u32) ρ A1 n1 c1 x.fmag
 pos := by decide
 len := by rintro ρ cs x ⟨A1, n1, c1, rfl, _⟩; rfl
 le := by rintro ρ ρ' cs x ⟨A1, n1, c1, rfl, h0⟩ hle; exact ⟨_, _, _, rfl, h0.le hle⟩
 one := by rintro ρ cs x ⟨A1, n1, c1, rfl, _⟩ v hv; exact allOne_spec rfl v hv
theorem R_exact_Int_d : ∃ cs, ∀ ρ, R_exact_Int.ok ρ cs default := ⟨[.bool false, .slice none 0 0], fun ρ => ⟨_, _, _, rfl, RdS.nil⟩⟩

structure T_exact_table where
 frows : List (List T_exact_Int)
 flast : T_exact_Int
 fodd : Bool
 frank : Int
 deriving DecidableEq, Inhabited
/-- ____________________________________________________________ -/
def ks_633d862b : ByteArray := ⟨#[0, 1, 2, 2, 3, 3, 3, 3, 4, 4, 4, 4, 4, 4, 4, 4, 5, 5, 5, 5, 5, 5, 5, 5, 5, 5, 5, 5, 5, 5, 5, 5, 6, 6, 6, 6, 6, 6, 6, 6, 6, 6, 6, 6, 6, 6, 6, 6, 6, 6, 6, 6, 6, 6, 6, 6, 6, 6, 6, 6, 6, 6, 6, 6, 7, 7, 7, 7, 7, 7, 7, 7, 7, 7, 7, 7, 7, 7, 7, 7, 7, 7, 7, 7, 7, 7, 7, 7, 7, 7, 7, 7, 7, 7, 7, 7, 7, 7, 7, 7, 7, 7, 7, 7, 7, 7, 7, 7, 7, 7, 7, 7, 7, 7, 7, 7, 7, 7, 7, 7, 7, 7, 7, 7, 7, 7, 7, 7, 8, 8, 8, 8, 8, 8, 8, 8, 8, 8, 8, 8, 8, 8, 8, 8, 8, 8, 8, 8, 8, 8, 8, 8, 8, 8, 8, 8, 8, 8, 8, 8, 8, 8, 8, 8, 8, 8, 8, 8, 8, 8, 8, 8, 8, 8, 8, 8, 8, 8, 8, 8, 8, 8, 8, 8, 8, 8, 8, 8, 8, 8, 8, 8, 8, 8, 8, 8, 8, 8, 8, 8, 8, 8, 8, 8, 8, 8, 8, 8, 8, 8, 8, 8, 8, 8, 8, 8, 8, 8, 8, 8, 8, 8, 8, 8, 8, 8, 8, 8, 8, 8, 8, 8, 8, 8, 8, 8, 8, 8, 8, 8, 8, 8, 8, 8, 8, 8, 8, 8, 8, 8, 8, 8, 8, 8, 8, 8]⟩

structure T_exact_Ratio where
 Num : T_exact_Int
 Den : T_exact_Int
 deriving DecidableEq, Inhabited
def R_exact_Ratio : Rp T_exact_Ratio where
 sz := 4
 ok ρ cs x := ∃ A1 n1 c1 A3 n3 c3, cs = [.bool x.Num.fneg, .slice A1 n1 c1, .bool x.Den.fneg, .slice A3 n3 c3] ∧ RdS (RpI .u32) ρ A1 n1 c1 x.Num.fmag ∧ RdS (RpI .u32) ρ A3 n3 c3 x.Den.fmag
 pos := by decide
 len := by rintro ρ cs x ⟨A1, n1, c1, A3, n3, c3, rfl, _⟩; rfl
 le := by rintro ρ ρ' cs x ⟨A1, n1, c1, A3, n3, c3, rfl, h0, h1⟩ hle; exact ⟨_, _, _, _, _, _, rfl, h0.le hle, h1.le hle⟩
 one := by rintro ρ cs x ⟨A1, n1, c1, A3, n3, c3, rfl, _⟩ v hv; exact allOne_spec rfl v hv
theorem R_exact_Ratio_d : ∃ cs, ∀ ρ, R_exact_Ratio.ok ρ cs default := ⟨[.bool false, .slice none 0 0, .bool false, .slice none 0 0], fun ρ => ⟨_, _, _, _, _, _, rfl, RdS.nil, RdS.nil⟩⟩

structure T_place_Spot where
 X : T_exact_Ratio
 Y : T_exact_Ratio
 deriving DecidableEq, Inhabited
def R_place_Spot : Rp T_place_Spot where
 sz := 8
 ok ρ cs x := ∃ A1 n1 c1 A3 n3 c3 A5 n5 c5 A7 n7 c7, cs = [.bool x.X.Num.fneg, .slice A1 n1 c1, .bool x.X.Den.fneg, .slice A3 n3 c3, .bool x.Y.Num.fneg, .slice A5 n5 c5, .bool x.Y.Den.fneg, .slice A7 n7 c7] ∧ RdS (RpI .u32) ρ A1 n1 c1 x.X.Num.fmag ∧ RdS (RpI .u32) ρ A3 n3 c3 x.X.Den.fmag ∧ RdS (RpI .u32) ρ A5 n5 c5 x.Y.Num.fmag ∧ RdS (RpI .u32) ρ A7 n7 c7 x.Y.Den.fmag
 pos := by decide
 len := by rintro ρ cs x ⟨A1, n1, c1, A3, n3, c3, A5, n5, c5, A7, n7, c7, rfl, _⟩; rfl
 le := by rintro ρ ρ' cs x ⟨A1, n1, c1, A3, n3, c3, A5, n5, c5, A7, n7, c7, rfl, h0, h1, h2, h3⟩ hle; exact ⟨_, _, _, _, _, _, _, _, _, _, _, _, rfl, h0.le hle, h1.le hle, h2.le hle, h3.le hle⟩
 one := by rintro ρ cs x ⟨A1, n1, c1, A3, n3, c3, A5, n5, c5, A7, n7, c7, rfl, _⟩ v hv; exact allOne_spec rfl v hv
theorem R_place_Spot_d : ∃ cs, ∀ ρ, R_place_Spot.ok ρ cs default := ⟨[.bool false, .slice none 0 0, .bool false, .slice none 0 0, .bool false, .slice none 0 0, .bool false, .slice none 0 0], fun ρ => ⟨_, _, _, _, _, _, _, _, _, _, _, _, rfl, RdS.nil, RdS.nil, RdS.nil, RdS.nil⟩⟩

/-- 000000000 -/
def ks_4c930086 : ByteArray := ⟨#[48, 48, 48, 48, 48, 48, 48, 48, 48]⟩

def P_maskmake_Below (x0 : Int) (n1 : Int) : Option Int :=
 if n1 < 1 then
  some (0 : Int)
 else
  ck (n1 ≠ 0) <|
  lv (Int.tmod x0 n1) fun x9 =>
  bd (
   if x9 < 0 then
    ar (x9 + n1) fun x14 =>
    some x14
   else
    some x9) fun q2 =>
  some q2
theorem c_maskmake_Below {w0 w : World} {l : List Assn} {ρ : Heap} {x0 : Int} {n1 : Int} {r : Int} (hF : P_maskmake_Below x0 n1 = some r) (hS : St w0 w (ro ρ :: l)) :
  Calls Try.prog 37 #[.int .i64 x0, .int .i64 n1] w fun e w' => e = .returned (.int .i64 r) ∧ St w0 w' (ro ρ :: l) := by
 refine enterC Try.func37 rfl 16 rfl (by simp) ?_
 refine x_seq <| x_region <| p (yl_assign rfl) <| x_done <|
  x_seq <| x_seq <| x_region <| p (yl_move rfl) <|
  p (yl_lss rfl rfl) <| x_done <|
  x_cond_p (n1 < 1) rfl (fun hc6 => ?_) (fun hc6 => ?_)
 ·replace hF := it_t hc6 hF
  refine x_seq <| x_region <| p (yl_assign rfl) <| x_done <| ?_
  have e_ := sinj hF; subst e_
  exact x_return ⟨_, ⟨_, _, rfl, rfl, rfl⟩, rfl, hS⟩
 ·replace hF := it_f hc6 hF
  replace hF := ck_s hF; obtain ⟨q4, hF⟩ := hF
  replace hF := lv_s hF; obtain ⟨x9, hx9, hF⟩ := hF
  refine x_skip <| x_seq <| x_region <| p (yl_move rfl) <|
   p (yl_move rfl) <| p (yrem rfl rfl q4 hx9) <| p (yl_assign rfl) <| x_done <|
   x_seq <| x_seq <| x_region <| p (yl_move rfl) <|
   p (yl_lss rfl rfl) <| x_done <| ?_
  replace hF := bd_s hF; obtain ⟨oc11, hFc11, hF⟩ := hF
  refine x_join (fun E w => ∃ (q2 : Int), q2 = oc11 ∧ E 0 = .int .i64 q2 ∧ St w0 w (ro ρ :: l)) ?_ ?_
  ·refine x_cond_p (x9 < 0) rfl (fun hc11 => ?_) (fun hc11 => ?_)
   ·replace hFc11 := it_t hc11 hFc11
    replace hFc11 := ar_s hFc11; obtain ⟨x14, hx14, hFc11⟩ := hFc11
    refine x_region <| p (yl_move rfl) <| p (yl_move rfl) <| p (yadd rfl rfl hx14) <|
     p (yl_assign rfl) <| x_done <| ?_
    exact x_inv ⟨x14, (sinj hFc11), rfl, hS⟩
   ·replace hFc11 := it_f hc11 hFc11
    refine x_skip <| ?_
    exact x_inv ⟨x9, (sinj hFc11), rfl, hS⟩
  rintro E w ⟨q2, rfl, q3, hS⟩
  refine x_seq <| x_region <| p (yl_move q3) <| p (yl_assign rfl) <|
   x_done <| ?_
  have e_ := sinj hF; subst e_
  exact x_return ⟨_, ⟨_, _, rfl, rfl, rfl⟩, rfl, hS⟩
attribute [irreducible] P_maskmake_Below

def P_maskmake_Stream_Next (s0 : T_maskmake_Stream) (n1 : Int) : Option (Int × Int) :=
 ar (s0.fat + 1) fun x11 =>
 if (s0.L.length : Int) = 0 then
  ar (x11 * 7919) fun x24 =>
  bd (P_maskmake_Below x24 n1) fun q3 =>
  some (q3, x11)
 else
  ar (x11 - 1) fun x31 =>
  ck ((s0.L.length : Int) ≠ 0) <|
  lv (Int.tmod x31 (s0.L.length : Int)) fun x37 =>
  ar (x11 - 1) fun x42 =>
  ck ((s0.L.length : Int) ≠ 0) <|
  ar (Int.tdiv x42 (s0.L.length : Int)) fun x48 =>
  ck (inb x37 s0.L.length) <|
  lv (gt s0.L x37) fun x55 =>
  bd (P_maskmake_Below x55 1073741824) fun q4 =>
  ar ((7919 : Int) + x37) fun x59 =>
  ar (x48 * x59) fun x60 =>
  ar (q4 + x60) fun x61 =>
  bd (P_maskmake_Below x61 n1) fun q2 =>
  some (q2, x11)
theorem c_maskmake_Stream_Next {w0 w : World} {l : List Assn} {ρ : Heap} {q5 : Nat} {q2 : Option Addr} {q3 : Nat} {c_s0_0 : Nat} {s0 : T_maskmake_Stream} {n1 : Int} {r : (Int × Int)} (hF : P_maskmake_Stream_Next s0 n1 = some r) (q4 : RdS (RpI .i64) ρ q2 q3 c_s0_0 s0.L) (hS : St w0 w (cells q5 25 [.slice q2 q3 c_s0_0, .int .i64 s0.fat] :: ro ρ :: l)) :
  Calls Try.prog 20 #[.pointer (some ⟨q5, 0, none⟩), .int .i64 n1] w fun e w' => e = .returned (.int .i64 r.1) ∧ St w0 w' (cells q5 25 [.slice q2 q3 c_s0_0, .int .i64 r.2] :: ro ρ :: l) := by
 have e_ := q4.n; subst e_
 refine enterC Try.func20 rfl 64 rfl (by simp) ?_
 replace hF := ar_s hF; obtain ⟨x11, hx11, hF⟩ := hF
 refine x_seq <| x_region <| p (yl_assign rfl) <| x_done <|
  x_seq <| x_region <| p (yl_move rfl) <| p (yl_nilCheck rfl) <|
  p (yl_field0 fld_25_1 rfl) <| pa (at_load one_3 rfl (hS.cell rfl)) <| p (yadd rfl rfl hx11) <| p (yl_nilCheck rfl) <|
  p (yl_field0 fld_25_1 rfl) <| ?_
 refine o_store1 (v := .int .i64 x11) one_3 rfl rfl rfl rfl hS (fun w' hS => ?_)
 refine x_done <| x_seq <| x_seq <| x_region <|
  p (yl_move rfl) <| p (yl_nilCheck rfl) <| p (yl_field0 fld_25_0 rfl) <| pa (at_load one_22 rfl (hS.cell rfl)) <|
  p (yl_len_slice usl_22 rfl) <| p (yl_eql rfl rfl) <| x_done <|
  x_cond_p ((s0.L.length : Int) = 0) rfl (fun hc19 => ?_) (fun hc19 => ?_)
 ·replace hF := it_t hc19 hF
  replace hF := ar_s hF; obtain ⟨x24, hx24, hF⟩ := hF
  replace hF := bd_s hF; obtain ⟨q0d, q0a, hF⟩ := hF
  refine x_seq <| x_region <| p (yl_move rfl) <| p (yl_nilCheck rfl) <|
   p (yl_field0 fld_25_1 rfl) <| pa (at_load one_3 rfl (hS.cell rfl)) <| p (ymul rfl rfl hx24) <| p (yl_move rfl) <| ?_
  have hcall := c_maskmake_Below q0a  (hS.pull 1)
  refine o_cc call_37 (args2 rfl rfl) ((Calls.mono hcall (fun e w'' h => And.intro h.1 (h.2.pull 1)))) ?_
  rintro e w' ⟨rfl, hS⟩
  refine ⟨_, rfl, ?_⟩
  refine p (v := .int .i64 q0d) (yl_assign rfl) <| x_done <| ?_
  have e_ := sinj hF; subst e_
  exact x_return ⟨_, ⟨_, _, rfl, rfl, rfl⟩, rfl, ((hS.pull 1).pull 1)⟩
 ·replace hF := it_f hc19 hF
  replace hF := ar_s hF; obtain ⟨x31, hx31, hF⟩ := hF
  replace hF := ck_s hF; obtain ⟨q7, hF⟩ := hF
  replace hF := lv_s hF; obtain ⟨x37, hx37, hF⟩ := hF
  refine x_skip <| x_seq <| x_still mixed (by kernel_rfl) hS <| q (yl_move rfl) <|
   q (yl_nilCheck rfl) <| q (yl_field0 fld_25_1 rfl) <| qa (fun w' hS => at_load one_3 rfl (hS.cell rfl)) <| q (ysub rfl rfl hx31) <|
   q (yl_move rfl) <| q (yl_nilCheck rfl) <| q (yl_field0 fld_25_0 rfl) <| qa (fun w' hS => at_load one_22 rfl (hS.cell rfl)) <|
   q (yl_len_slice usl_22 rfl) <| q (yrem rfl rfl q7 hx37) <| q (yl_assign rfl) <|
   q_done fun w' hS => ?_
  replace hF := ar_s hF; obtain ⟨x42, hx42, hF⟩ := hF
  replace hF := ck_s hF; obtain ⟨q8, hF⟩ := hF
  replace hF := ar_s hF; obtain ⟨x48, hx48, hF⟩ := hF
  refine x_seq <| x_still mixed (by kernel_rfl) hS <| q (yl_move rfl) <| q (yl_nilCheck rfl) <|
   q (yl_field0 fld_25_1 rfl) <| qa (fun w' hS => at_load one_3 rfl (hS.cell rfl)) <| q (ysub rfl rfl hx42) <| q (yl_move rfl) <|
   q (yl_nilCheck rfl) <| q (yl_field0 fld_25_0 rfl) <| qa (fun w' hS => at_load one_22 rfl (hS.cell rfl)) <| q (yl_len_slice usl_22 rfl) <|
   q (yquo rfl rfl q8 hx48) <| q (yl_assign rfl) <|
   q_done fun w' hS => ?_
  replace hF := ck_s hF; obtain ⟨q6, hF⟩ := hF
  replace hF := lv_s hF; obtain ⟨x55, hx55, hF⟩ := hF
  replace hF := bd_s hF; obtain ⟨q0e, q0b, hF⟩ := hF
  refine x_seq <| x_region <| p (yl_move rfl) <| p (yl_nilCheck rfl) <|
   p (yl_field0 fld_25_0 rfl) <| pa (at_load one_22 rfl (hS.cell rfl)) <| p (yl_move rfl) <| p (yix_f sl_22 rfl rfl q4 q6) <|
   pa (at_load one_3 rfl (RdS.getW q4 (hS.pull 1) q6 hx55)) <| ?_
  have hcall := c_maskmake_Below q0b  (hS.pull 1)
  refine o_cc call_37 (args2 rfl rfl) ((Calls.mono hcall (fun e w'' h => And.intro h.1 (h.2.pull 1)))) ?_
  rintro e w' ⟨rfl, hS⟩
  refine ⟨_, rfl, ?_⟩
  replace hF := ar_s hF; obtain ⟨x59, hx59, hF⟩ := hF
  replace hF := ar_s hF; obtain ⟨x60, hx60, hF⟩ := hF
  replace hF := ar_s hF; obtain ⟨x61, hx61, hF⟩ := hF
  replace hF := bd_s hF; obtain ⟨q0c, q9, hF⟩ := hF
  refine p (yl_move rfl) <| p (yl_move rfl) <| p (yadd rfl rfl hx59) <| p (ymul rfl rfl hx60) <|
   p (yadd rfl rfl hx61) <| p (yl_move rfl) <| ?_
  have hcall := c_maskmake_Below q9  (hS.pull 1)
  refine o_cc call_37 (args2 rfl rfl) ((Calls.mono hcall (fun e w'' h => And.intro h.1 (h.2.pull 1)))) ?_
  rintro e w' ⟨rfl, hS⟩
  refine ⟨_, rfl, ?_⟩
  refine p (v := .int .i64 q0c) (yl_assign rfl) <| x_done <| ?_
  have e_ := sinj hF; subst e_
  exact x_return ⟨_, ⟨_, _, rfl, rfl, rfl⟩, rfl, ((hS.pull 1).pull 1)⟩
attribute [irreducible] P_maskmake_Stream_Next

def P_maskmake_Stream_Range (s0 : T_maskmake_Stream) (low1 : Int) (high2 : Int) : Option (Int × Int) :=
 if high2 < low1 then
  some (low1, s0.fat)
 else
  ar (high2 - low1) fun x15 =>
  ar (x15 + 1) fun x16 =>
  bd (P_maskmake_Stream_Next s0 x16) fun q2 =>
  ar (low1 + q2.1) fun x18 =>
  some (x18, q2.2)
theorem c_maskmake_Stream_Range {w0 w : World} {l : List Assn} {ρ : Heap} {q5 : Nat} {q2 : Option Addr} {q3 : Nat} {c_s0_0 : Nat} {s0 : T_maskmake_Stream} {low1 : Int} {high2 : Int} {r : (Int × Int)} (hF : P_maskmake_Stream_Range s0 low1 high2 = some r) (q4 : RdS (RpI .i64) ρ q2 q3 c_s0_0 s0.L) (hS : St w0 w (cells q5 25 [.slice q2 q3 c_s0_0, .int .i64 s0.fat] :: ro ρ :: l)) :
  Calls Try.prog 6 #[.pointer (some ⟨q5, 0, none⟩), .int .i64 low1, .int .i64 high2] w fun e w' => e = .returned (.int .i64 r.1) ∧ St w0 w' (cells q5 25 [.slice q2 q3 c_s0_0, .int .i64 r.2] :: ro ρ :: l) := by
 have e_ := q4.n; subst e_
 refine enterC Try.func6 rfl 19 rfl (by simp) ?_
 refine x_seq <| x_region <| p (yl_assign rfl) <| x_done <|
  x_seq <| x_seq <| x_region <| p (yl_move rfl) <|
  p (yl_move rfl) <| p (yl_lss rfl rfl) <| x_done <|
  x_cond_p (high2 < low1) rfl (fun hc9 => ?_) (fun hc9 => ?_)
 ·replace hF := it_t hc9 hF
  refine x_seq <| x_region <| p (yl_move rfl) <| p (yl_assign rfl) <|
   x_done <| ?_
  have e_ := sinj hF; subst e_
  exact x_return ⟨_, ⟨_, _, rfl, rfl, rfl⟩, rfl, ((hS.pull 1).pull 1)⟩
 ·replace hF := it_f hc9 hF
  replace hF := ar_s hF; obtain ⟨x15, hx15, hF⟩ := hF
  replace hF := ar_s hF; obtain ⟨x16, hx16, hF⟩ := hF
  replace hF := bd_s hF; obtain ⟨q7, q6, hF⟩ := hF
  refine x_skip <| x_seq <| x_region <| p (yl_move rfl) <|
   p (yl_move rfl) <| p (yl_move rfl) <| p (yl_move rfl) <| p (ysub rfl rfl hx15) <|
   p (yadd rfl rfl hx16) <| ?_
  have hcall := c_maskmake_Stream_Next q6 q4 ((hS.pull 1).pull 1)
  refine o_cc call_20 (args2 rfl rfl) hcall ?_
  rintro e w' ⟨rfl, hS⟩
  refine ⟨_, rfl, ?_⟩
  replace hF := ar_s hF; obtain ⟨x18, hx18, hF⟩ := hF
  refine p (yadd rfl rfl hx18) <| p (yl_assign rfl) <| x_done <| ?_
  have e_ := sinj hF; subst e_
  exact x_return ⟨_, ⟨_, _, rfl, rfl, rfl⟩, rfl, ((hS.pull 1).pull 1)⟩
attribute [irreducible] P_maskmake_Stream_Range

def P_maskmake_Stream_Flip (s0 : T_maskmake_Stream) (n1 : Int) : Option (Bool × Int) :=
 bd (P_maskmake_Stream_Next s0 n1) fun q2 =>
 some (decide (q2.1 = 0), q2.2)
theorem c_maskmake_Stream_Flip {w0 w : World} {l : List Assn} {ρ : Heap} {q5 : Nat} {q2 : Option Addr} {q3 : Nat} {c_s0_0 : Nat} {s0 : T_maskmake_Stream} {n1 : Int} {r : (Bool × Int)} (hF : P_maskmake_Stream_Flip s0 n1 = some r) (q4 : RdS (RpI .i64) ρ q2 q3 c_s0_0 s0.L) (hS : St w0 w (cells q5 25 [.slice q2 q3 c_s0_0, .int .i64 s0.fat] :: ro ρ :: l)) :
  Calls Try.prog 15 #[.pointer (some ⟨q5, 0, none⟩), .int .i64 n1] w fun e w' => e = .returned (.bool r.1) ∧ St w0 w' (cells q5 25 [.slice q2 q3 c_s0_0, .int .i64 r.2] :: ro ρ :: l) := by
 have e_ := q4.n; subst e_
 refine enterC Try.func15 rfl 9 rfl (by simp) ?_
 replace hF := bd_s hF; obtain ⟨q7, q6, hF⟩ := hF
 refine x_seq <| x_region <| p (yl_assign rfl) <| x_done <|
  x_seq <| x_region <| p (yl_move rfl) <| p (yl_move rfl) <| ?_
 have hcall := c_maskmake_Stream_Next q6 q4 ((hS.pull 1).pull 1)
 refine o_cc call_20 (args2 rfl rfl) hcall ?_
 rintro e w' ⟨rfl, hS⟩
 refine ⟨_, rfl, ?_⟩
 refine p (yl_eql rfl rfl) <| p (yl_assign rfl) <| x_done <| ?_
 have e_ := sinj hF; subst e_
 exact x_return ⟨_, ⟨_, _, rfl, rfl, rfl⟩, rfl, ((hS.pull 1).pull 1)⟩
attribute [irreducible] P_maskmake_Stream_Flip

def P_maskkeep4_pulls_L3 (s0 : T_maskmake_Stream) (cells1 : Int) : (List T_place_Pull × Int × Int) → Option ((List T_place_Pull × Int × Int) ⊕ (List T_place_Pull × Int)) := fun (q4, q2, q3) =>
 if q2 < cells1 then
  bd (P_maskmake_Stream_Range (T_maskmake_Stream.mk s0.L q3) 1 5) fun q9 =>
  bd (P_maskmake_Stream_Flip (T_maskmake_Stream.mk s0.L q9.2) 2) fun q6 =>
  lv (q6.1 || (decide (q2 = 0))) fun x24 =>
  bd (
   if x24 = true then
    bd (P_maskmake_Stream_Next (T_maskmake_Stream.mk s0.L q6.2) 60) fun q0a =>
    bd (P_maskmake_Stream_Next (T_maskmake_Stream.mk s0.L q0a.2) 60) fun q0b =>
    lv ([(T_floor_Point.mk q0a.1 q0b.1)]) fun q0c =>
    ck (apOk 16 q0c.length) <|
    some (q0b.2, ([q2] : List Int), q0c)
   else
    bd (P_maskmake_Stream_Next (T_maskmake_Stream.mk s0.L q6.2) q2) fun q0d =>
    lv (([q2] : List Int) ++ [q0d.1]) fun q0e =>
    ck (apOk 8 q0e.length) <|
    some (q0d.2, q0e, [])) fun (q5, q7, q8) =>
  lv (q4 ++ [(T_place_Pull.mk q9.1 q7 q8)]) fun q0f =>
  ck (apOk 56 q0f.length) <|
  ar (q2 + 1) fun x47 =>
  some (Sum.inl (q0f, x47, q5))
 else
  some (Sum.inr (q4, q3))
def P_maskkeep4_pulls_L15 (s0 : T_maskmake_Stream) (cells1 : Int) : (Int × Int × List Int) → Option ((Int × Int × List Int) ⊕ (Int × List Int)) := fun (q4, q3, q2) =>
 if q4 < cells1 then
  bd (P_maskmake_Stream_Flip (T_maskmake_Stream.mk s0.L q3) 3) fun q6 =>
  bd (
   if q6.1 = true then
    lv (q2 ++ [q4]) fun q7 =>
    ck (apOk 8 q7.length) <|
    some q7
   else
    some q2) fun q5 =>
  ar (q4 + 1) fun x67 =>
  some (Sum.inl (x67, q6.2, q5))
 else
  some (Sum.inr (q3, q2))
def P_maskkeep4_pulls_L21 (s0 : T_maskmake_Stream) (q8 : (Int × Int)) : (Int × Int × List T_floor_Point) → Option ((Int × Int × List T_floor_Point) ⊕ (Int × List T_floor_Point)) := fun (q4, q2, q3) =>
 if q4 < q8.1 then
  bd (P_maskmake_Stream_Next (T_maskmake_Stream.mk s0.L q2) 60) fun q5 =>
  bd (P_maskmake_Stream_Next (T_maskmake_Stream.mk s0.L q5.2) 60) fun q6 =>
  lv (q3 ++ [(T_floor_Point.mk q5.1 q6.1)]) fun q7 =>
  ck (apOk 16 q7.length) <|
  ar (q4 + 1) fun x82 =>
  some (Sum.inl (x82, q6.2, q7))
 else
  some (Sum.inr (q2, q3))
def P_maskkeep4_pulls_L12 (s0 : T_maskmake_Stream) (cells1 : Int) (q0c : (Int × Int)) : (List T_place_Pull × Int × Int) → Option ((List T_place_Pull × Int × Int) ⊕ (List T_place_Pull × Int)) := fun (q3, q4, q2) =>
 if q4 < q0c.1 then
  bd (P_maskmake_Stream_Range (T_maskmake_Stream.mk s0.L q2) 1 5) fun q9 =>
  bd (
   lp (P_maskkeep4_pulls_L15 s0 cells1) fuel (0, q9.2, [])) fun (q5, q7) =>
  bd (P_maskmake_Stream_Next (T_maskmake_Stream.mk s0.L q5) 3) fun q0a =>
  bd (
   lp (P_maskkeep4_pulls_L21 s0 q0a) fuel (0, q0a.2, [])) fun (q6, q8) =>
  lv (q3 ++ [(T_place_Pull.mk q9.1 q7 q8)]) fun q0b =>
  ck (apOk 56 q0b.length) <|
  ar (q4 + 1) fun x87 =>
  some (Sum.inl (q0b, x87, q6))
 else
  some (Sum.inr (q3, q2))
def P_maskkeep4_pulls (s0 : T_maskmake_Stream) (cells1 : Int) : Option (List T_place_Pull × Int) :=
 bd (
  lp (P_maskkeep4_pulls_L3 s0 cells1) fuel ([], 0, s0.fat)) fun (q6, q3) =>
 bd (P_maskmake_Stream_Next (T_maskmake_Stream.mk s0.L q3) 5) fun q5 =>
 bd (
  lp (P_maskkeep4_pulls_L12 s0 cells1 q5) fuel (q6, 0, q5.2)) fun (q4, q2) =>
 some (q4, q2)
theorem c_maskkeep4_pulls {w0 w : World} {l : List Assn} {ρ : Heap} {q2 : Nat} {q6 : Option Addr} {q40 : Nat} {c_s0_0 : Nat} {s0 : T_maskmake_Stream} {cells1 : Int} {r : (List T_place_Pull × Int)} (hF : P_maskkeep4_pulls s0 cells1 = some r) (q0w : RdS (RpI .i64) ρ q6 q40 c_s0_0 s0.L) (hS : St w0 w (cells q2 25 [.slice q6 q40 c_s0_0, .int .i64 s0.fat] :: ro ρ :: l)) :
  Calls Try.prog 7 #[.pointer (some ⟨q2, 0, none⟩), .int .i64 cells1] w fun e w' => ∃ (ρ' : Heap) (q41 : Option Addr) (q2s : Nat) (c_y0_ret : Nat) (q3x : List Value), e = .returned (.slice q41 q2s c_y0_ret) ∧ Le ρ ρ' ∧ RepL R_place_Pull ρ' r.1 q3x ∧ St w0 w' (vec 36 R_place_Pull.sz (.slice q41 q2s c_y0_ret) q2s q3x :: cells q2 25 [.slice q6 q40 c_s0_0, .int .i64 r.2] :: ro ρ' :: l) := by
 have e_ := q0w.n; subst e_
 refine enterC Try.func7 rfl 89 rfl (by simp) ?_
 refine x_seq <| x_region <| p (yl_assign rfl) <| x_done <|
  x_seq <| x_region <| p (yl_assign rfl) <| x_done <|
  x_seq <| x_seq <| x_region <| p (yl_move rfl) <|
  p (yl_move rfl) <| x_done <| ?_
 replace hF := bd_s hF; obtain ⟨oL3, hLL3, hF⟩ := hF
 refine x_join (fun E w => ∃ (q2t : Heap) (q1x : Option Addr) (q1y : Nat) (c_out5_L3 : Nat) (q1i : List Value) (q24 : List T_place_Pull) (q2c : Int), (q24, q2c) = oL3 ∧ Le ρ q2t ∧ E 0 = .pointer (some ⟨q2, 0, none⟩) ∧ E 1 = .int .i64 cells1 ∧ E 5 = .slice q1x q1y c_out5_L3 ∧ RepL R_place_Pull q2t q24 q1i ∧ St w0 w (cells q2 25 [.slice q6 s0.L.length c_s0_0, .int .i64 q2c] :: vec 36 R_place_Pull.sz (.slice q1x q1y c_out5_L3) q1y q1i :: ro q2t :: l)) ?_ ?_
 ·refine x_block ?_
  replace hS := St.vec_nil hS 36 R_place_Pull.sz
  have q31 : RepL R_place_Pull ρ [] [] := rfl
  refine x_loop (fun k_ E w => ∃ (q0a : Heap) (q0i : Option Addr) (q1j : Nat) (c_out5_L3h : Nat) (q0n : List Value) (q0f : List T_place_Pull) (q8 : Int) (q1k : Int), lp (P_maskkeep4_pulls_L3 s0 cells1) k_ (q0f, q8, q1k) = some oL3 ∧ Le ρ q0a ∧ E 0 = .pointer (some ⟨q2, 0, none⟩) ∧ E 1 = .int .i64 cells1 ∧ E 5 = .slice q0i q1j c_out5_L3h ∧ E 10 = .int .i64 cells1 ∧ E 11 = .int .i64 q8 ∧ RepL R_place_Pull q0a q0f q0n ∧ St w0 w (cells q2 25 [.slice q6 s0.L.length c_s0_0, .int .i64 q1k] :: vec 36 R_place_Pull.sz (.slice q0i q1j c_out5_L3h) q1j q0n :: ro q0a :: l)) fuel ⟨ρ, none, 0, 0, [], [], 0, s0.fat, hLL3, (Le.refl _), rfl, rfl, rfl, rfl, rfl, q31, (((hS.pull 2).pull 1).pull 2)⟩ ?_
  rintro kL3 E w ⟨q0a, q0i, q1j, c_out5_L3h, q0n, q0f, q8, q1k, hLL3, q16, q1h, q42, q43, q3a, q2e, q26, hS⟩
  have e_ := St.vec_n (hS.pull 1) q26; subst e_
  replace hLL3 := lp_s hLL3; obtain ⟨kL3, obL3, rfl, hFL3, hLL3⟩ := hLL3
  refine x_seq <| x_region <| p (yl_lss q2e q3a) <| x_done <|
   x_seq <|
   x_cond_p (q8 < cells1) rfl (fun hc12 => ?_) (fun hc12 => ?_)
  ·replace hFL3 := it_t hc12 hFL3
   replace hFL3 := bd_s hFL3; obtain ⟨q0p, q5u, hFL3⟩ := hFL3
   refine x_skip <| x_seq <| x_block <| x_seq <|
    x_region <| p (yl_move q2e) <| p (yl_assign rfl) <| x_done <|
    x_seq <| x_region <| p (yl_move q1h) <| ?_
   have hcall := c_maskmake_Stream_Range q5u (q0w.le q16) ((hS.pull 2).pull 1)
   refine o_cc call_6 (args3 rfl rfl rfl) hcall ?_
   rintro e w' ⟨rfl, hS⟩
   refine ⟨_, rfl, ?_⟩
   refine p (yl_move rfl) <| ?_
   refine o_buildSlice (vs := [.int .i64 q8]) (cs := [.int .i64 q8]) sl_22 zero_3 (parts_eq (pt (va := .int .i64 q8) rfl pt0)) rfl (by intro v hv; simp only [List.mem_cons, List.not_mem_nil, or_false] at hv; first | (subst hv; rfl) | (rcases hv with rfl <;> rfl)) (by decide) rfl hS (fun b17 w' hS => ?_)
   refine p (v := .agg #[.int .i64 q0p.1, .slice (some ⟨b17, 0, none⟩) 1 1, .slice none 0 0]) (yl_build bld_36 bldf_36 (parts_eq (pt (va := .int .i64 q0p.1) rfl (pt (va := .slice (some ⟨b17, 0, none⟩) 1 1) rfl pt0))) (by kernel_rfl)) <| ?_
   refine o_alloc zero_36 hS (fun b7 w' hS => ?_)
   refine o_storeAgg (news := [.int .i64 q0p.1, .slice (some ⟨b17, 0, none⟩) 1 1, .slice none 0 0]) agg_36 rfl rfl rfl (by simp [over_length]) hS (fun w' hS => ?_)
   replace hFL3 := bd_s hFL3; obtain ⟨q3b, q5v, hFL3⟩ := hFL3
   refine x_done <| x_seq <| x_seq <| x_region <|
    p (yl_move q1h) <| ?_
   have hcall := c_maskmake_Stream_Flip q5v (q0w.le q16) ((hS.pull 3).pull 3)
   refine o_cc call_15 (args2 rfl rfl) hcall ?_
   rintro e w' ⟨rfl, hS⟩
   refine ⟨_, rfl, ?_⟩
   replace hFL3 := lv_s hFL3; obtain ⟨x24, hx24, hFL3⟩ := hFL3
   refine p (yl_move rfl) <| pg (v := .int .i64 q8) 21 (c := !q3b.1) (says_f _) (fun hq => Yl.at (yl_move rfl)) <| pg (v := .bool (decide (q8 = 0))) 21 (c := !q3b.1) (says_f _) (fun hq => Yl.at (yl_eql (cv hq) rfl)) <| p (yor' rfl rfl (fun hc => (cv (t_not hc))) hx24) <|
    x_done <| ?_
   replace hFL3 := bd_s hFL3; obtain ⟨oc24, hFc24, hFL3⟩ := hFL3
   refine x_join (fun E w => ∃ (q0j : Option Addr) (q1l : Nat) (c_b7_1_c24 : Nat) (q1z : List Value) (q0k : Option Addr) (q1m : Nat) (c_b7_2_c24 : Nat) (q20 : List Value) (q1n : Int) (q0r : List Int) (q0s : List T_floor_Point), (q1n, q0r, q0s) = oc24 ∧ E 0 = .pointer (some ⟨q2, 0, none⟩) ∧ E 1 = .int .i64 cells1 ∧ E 5 = .slice q0i q0f.length c_out5_L3h ∧ E 7 = .pointer (some ⟨b7, 0, none⟩) ∧ E 10 = .int .i64 cells1 ∧ E 11 = .int .i64 q8 ∧ RepL (RpI .i64) q0a q0r q1z ∧ RepL R_floor_Point q0a q0s q20 ∧ St w0 w (cells q2 25 [.slice q6 s0.L.length c_s0_0, .int .i64 q1n] :: vec 36 R_place_Pull.sz (.slice q0i q0f.length c_out5_L3h) q0f.length q0n :: cells b7 36 [.int .i64 q0p.1, .slice q0j q1l c_b7_1_c24, .slice q0k q1m c_b7_2_c24] :: vec 3 (RpI .i64).sz (.slice q0j q1l c_b7_1_c24) q1l q1z :: vec 38 R_floor_Point.sz (.slice q0k q1m c_b7_2_c24) q1m q20 :: ro q0a :: l)) ?_ ?_
   ·refine x_cond (t := x24) rfl (fun hc24 => ?_) (fun hc24 => ?_)
    ·replace hFc24 := it_t hc24 hFc24
     replace hFc24 := bd_s hFc24; obtain ⟨q0z, q5w, hFc24⟩ := hFc24
     replace hFc24 := bd_s hFc24; obtain ⟨q0t, q5x, hFc24⟩ := hFc24
     replace hFc24 := lv_s hFc24; obtain ⟨q10, q5y, hFc24⟩ := hFc24
     replace hFc24 := ck_s hFc24; obtain ⟨q5z, hFc24⟩ := hFc24
     refine x_par (w0 := w0) [⟨[], [], [25], [], [], []⟩, ⟨[0], [0], [26], [0], [], []⟩, ⟨[], [], [27], [], [], []⟩, ⟨[2], [2], [28], [2], [1], [3]⟩, ⟨[], [], [29], [], [], []⟩, ⟨[2, 3, 4], [4], [30], [2], [3], [4]⟩, ⟨[2, 3, 4, 5], [3, 5], [31], [], [], []⟩, ⟨[2, 3, 4, 5, 6], [6], [32], [], [], [5]⟩, ⟨[0, 1, 2, 3, 4, 5, 6, 7], [1, 7], [33], [5, 2], [], [6]⟩, ⟨[0, 1, 2, 3, 4, 5, 6, 7, 8], [], [34], [], [], []⟩, ⟨[0, 1, 2, 3, 4, 5, 6, 7, 8, 9], [8, 9], [], [], [0], [7]⟩] [⟨none, (some 10), []⟩, ⟨none, (some 3), []⟩, ⟨none, none, []⟩, ⟨(some 3), (some 5), []⟩, ⟨(some 5), none, []⟩, ⟨(some 7), none, [32]⟩, ⟨(some 8), none, [33]⟩, ⟨(some 10), none, [33]⟩] [25, 26, 27, 28, 29, 30, 31, 32, 33, 34] [0, 1, 2] [2, 4, 5, 6, 7] [0, 1, 2, 3, 4, 5, 6, 7, 8, 9] [fun Ep7 => Ep7 25 = .pointer (some ⟨b7, 2, none⟩), fun Ep7 => Ep7 26 = .slice none 0 0, fun Ep7 => Ep7 27 = .pointer (some ⟨q2, 0, none⟩), fun Ep7 => Ep7 28 = .int .i64 q0z.1, fun Ep7 => Ep7 29 = .pointer (some ⟨q2, 0, none⟩), fun Ep7 => Ep7 30 = .int .i64 q0t.1, fun Ep7 => Ep7 31 = .agg #[.int .i64 q0z.1, .int .i64 q0t.1], fun Ep7 => Ep7 32 = .slice (some ⟨(blkOf (Ep7 32)), 0, none⟩) 1 1, fun Ep7 => Ep7 33 = .slice (adOf (Ep7 33)) q10.length (capOf (Ep7 33)), fun Ep7 => Ep7 34 = .pointer (some ⟨b7, 2, none⟩), fun Ep7 => True] [fun Ep7 => cells b7 36 [.int .i64 q0p.1, .slice (some ⟨b17, 0, none⟩) 1 1, .slice none 0 0], fun Ep7 => cells q2 25 [.slice q6 s0.L.length c_s0_0, .int .i64 q3b.2], fun Ep7 => ro q0a, fun Ep7 => cells q2 25 [.slice q6 s0.L.length c_s0_0, .int .i64 q0z.2], fun Ep7 => cells q2 25 [.slice q6 s0.L.length c_s0_0, .int .i64 q0t.2], fun Ep7 => cells (blkOf (Ep7 32)) 38 [.int .i64 q0z.1, .int .i64 q0t.1], fun Ep7 => bunA (fun (cs33 : List Value) => RepL R_floor_Point q0a q10 cs33) (fun (cs33 : List Value) => [vec 38 R_floor_Point.sz (.slice (adOf (Ep7 33)) q10.length (capOf (Ep7 33))) q10.length cs33]), fun Ep7 => cells b7 36 [.int .i64 q0p.1, .slice (some ⟨b17, 0, none⟩) 1 1, .slice (adOf (Ep7 33)) q10.length (capOf (Ep7 33))]] mixed (by kernel_rfl) (((hS.pull 1).pull 1).pull 2) ?_ ?_
     ·refine ⟨?_, ?_, ?_, ?_, ?_, ?_, ?_, ?_, ?_, ?_, ?_, trivial⟩
      ·intro Ep7 w l' hE7 hO7 hF_ hS
       refine p (yl_field0 fld_36_2 (hE7 7 rfl)) <| x_done <| ?_
       refine x_fin ⟨⟨_, rfl⟩, rfl, ?_⟩
       exact emk hS
      ·intro Ep7 w l' hE7 hO7 hF_ hS
       obtain ⟨q3c, -⟩ := hF_
       replace q3c : Ep7 25 = .pointer (some ⟨b7, 2, none⟩) := emk q3c
       replace hS : St w0 w (cells b7 36 [.int .i64 q0p.1, .slice (some ⟨b17, 0, none⟩) 1 1, .slice none 0 0] :: l') := emk hS
       refine pa (at_load one_34 q3c (hS.cell rfl)) <| x_done <| ?_
       refine x_fin ⟨⟨_, rfl⟩, rfl, ?_⟩
       exact emk hS
      ·intro Ep7 w l' hE7 hO7 hF_ hS
       refine p (yl_move ((hE7 0 rfl).trans q1h)) <| x_done <| ?_
       refine x_fin ⟨⟨_, rfl⟩, rfl, ?_⟩
       exact emk hS
      ·intro Ep7 w l' hE7 hO7 hF_ hS
       obtain ⟨q3d, -⟩ := hF_
       replace q3d : Ep7 27 = .pointer (some ⟨q2, 0, none⟩) := emk q3d
       replace hS : St w0 w (ro q0a :: cells q2 25 [.slice q6 s0.L.length c_s0_0, .int .i64 q3b.2] :: l') := emk hS
       have hcall := c_maskmake_Stream_Next q5w (q0w.le q16) (hS.pull 1)
       refine o_cc call_20 (args2 q3d rfl) hcall ?_
       rintro e w' ⟨rfl, hS⟩
       refine ⟨_, rfl, ?_⟩
       refine x_done <| ?_
       refine x_fin ⟨⟨_, rfl⟩, rfl, ?_⟩
       exact emk (hS.pull 1)
      ·intro Ep7 w l' hE7 hO7 hF_ hS
       refine p (yl_move ((hE7 0 rfl).trans q1h)) <| x_done <| ?_
       refine x_fin ⟨⟨_, rfl⟩, rfl, ?_⟩
       exact emk hS
      ·intro Ep7 w l' hE7 hO7 hF_ hS
       obtain ⟨q3e, -⟩ := hF_
       replace q3e : Ep7 29 = .pointer (some ⟨q2, 0, none⟩) := emk q3e
       replace hS : St w0 w (ro q0a :: cells q2 25 [.slice q6 s0.L.length c_s0_0, .int .i64 q0z.2] :: l') := emk hS
       have hcall := c_maskmake_Stream_Next q5x (q0w.le q16) (hS.pull 1)
       refine o_cc call_20 (args2 q3e rfl) hcall ?_
       rintro e w' ⟨rfl, hS⟩
       refine ⟨_, rfl, ?_⟩
       refine x_done <| ?_
       refine x_fin ⟨⟨_, rfl⟩, rfl, ?_⟩
       exact emk (hS.pull 1)
      ·intro Ep7 w l' hE7 hO7 hF_ hS
       obtain ⟨q3f, q3g, -⟩ := hF_
       replace q3f : Ep7 28 = .int .i64 q0z.1 := emk q3f
       replace q3g : Ep7 30 = .int .i64 q0t.1 := emk q3g
       refine p (v := .agg #[.int .i64 q0z.1, .int .i64 q0t.1]) (yl_build bld_38 bldf_38 (parts_eq (pt (va := .int .i64 q0z.1) q3f (pt (va := .int .i64 q0t.1) q3g pt0))) (by kernel_rfl)) <| x_done <| ?_
       refine x_fin ⟨⟨_, rfl⟩, rfl, ?_⟩
       exact emk hS
      ·intro Ep7 w l' hE7 hO7 hF_ hS
       obtain ⟨q3h, -⟩ := hF_
       replace q3h : Ep7 31 = .agg #[.int .i64 q0z.1, .int .i64 q0t.1] := emk q3h
       refine o_buildSlice (vs := [.agg #[.int .i64 q0z.1, .int .i64 q0t.1]]) (cs := [.int .i64 q0z.1, .int .i64 q0t.1]) sl_34 zero_38 (parts_eq (pt (va := .agg #[.int .i64 q0z.1, .int .i64 q0t.1]) q3h pt0)) rfl (by intro v hv; simp only [List.mem_cons, List.not_mem_nil, or_false] at hv; first | (subst hv; rfl) | (rcases hv with rfl <;> rfl)) (by decide) rfl hS (fun b32 w' hS => ?_)
       refine x_done <| ?_
       refine x_fin ⟨⟨_, rfl⟩, rfl, ?_⟩
       exact emk hS
      ·intro Ep7 w l' hE7 hO7 hF_ hS
       obtain ⟨q3i, q3j, -⟩ := hF_
       replace q3i : Ep7 26 = .slice none 0 0 := emk q3i
       replace q3j : Ep7 32 = .slice (some ⟨(blkOf (Ep7 32)), 0, none⟩) 1 1 := emk q3j
       replace hS : St w0 w (cells (blkOf (Ep7 32)) 38 [.int .i64 q0z.1, .int .i64 q0t.1] :: ro q0a :: l') := emk hS
       replace hS := St.vec_nil hS 38 R_floor_Point.sz
       have hn33 : RepL R_floor_Point q0a [] [] := rfl
       refine o_ap sl_34 zero_38 rfl (by decide) q3i q3j hS hn33 (src_blk usl_34 (hS.pull 1) rfl rfl) (RepL.cons (R := R_floor_Point) (ρ := q0a) (x := (T_floor_Point.mk q0z.1 q0t.1)) (cs := [.int .i64 q0z.1, .int .i64 q0t.1]) rfl RepL.nil) (q5y : q10 = [] ++ _) q5z (fun A33 c33 cs33 w' hr33 hS => ?_)
       refine x_done <| ?_
       refine x_fin ⟨⟨_, rfl⟩, rfl, ?_⟩
       replace hS := St.bun (Φ := (fun (cs33 : List Value) => RepL R_floor_Point q0a q10 cs33)) (L := (fun (cs33 : List Value) => [vec 38 R_floor_Point.sz (.slice A33 q10.length c33) q10.length cs33])) cs33 hr33 hS
       exact emk ((hS.pull 2).pull 2)
      ·intro Ep7 w l' hE7 hO7 hF_ hS
       refine p (yl_field0 fld_36_2 (hE7 7 rfl)) <| x_done <| ?_
       refine x_fin ⟨⟨_, rfl⟩, rfl, ?_⟩
       exact emk hS
      ·intro Ep7 w l' hE7 hO7 hF_ hS
       obtain ⟨q3k, q3l, -⟩ := hF_
       replace q3k : Ep7 33 = .slice (adOf (Ep7 33)) q10.length (capOf (Ep7 33)) := emk q3k
       replace q3l : Ep7 34 = .pointer (some ⟨b7, 2, none⟩) := emk q3l
       replace hS : St w0 w (cells b7 36 [.int .i64 q0p.1, .slice (some ⟨b17, 0, none⟩) 1 1, .slice none 0 0] :: l') := emk hS
       refine o_store1 (v := .slice (adOf (Ep7 33)) q10.length (capOf (Ep7 33))) one_34 q3l q3k rfl rfl hS (fun w' hS => ?_)
       refine x_done <| ?_
       refine x_fin ⟨⟨undef, rfl⟩, trivial, ?_⟩
       exact emk hS
     intro Ep7 w' hE7 hF_ hS
     obtain ⟨q3c, q3i, q3d, q3f, q3e, q3g, q3h, q3j, q3k, q3l, -⟩ := hF_
     replace q3c : Ep7 25 = .pointer (some ⟨b7, 2, none⟩) := emk q3c
     replace q3i : Ep7 26 = .slice none 0 0 := emk q3i
     replace q3d : Ep7 27 = .pointer (some ⟨q2, 0, none⟩) := emk q3d
     replace q3f : Ep7 28 = .int .i64 q0z.1 := emk q3f
     replace q3e : Ep7 29 = .pointer (some ⟨q2, 0, none⟩) := emk q3e
     replace q3g : Ep7 30 = .int .i64 q0t.1 := emk q3g
     replace q3h : Ep7 31 = .agg #[.int .i64 q0z.1, .int .i64 q0t.1] := emk q3h
     replace q3j : Ep7 32 = .slice (some ⟨(blkOf (Ep7 32)), 0, none⟩) 1 1 := emk q3j
     replace q3k : Ep7 33 = .slice (adOf (Ep7 33)) q10.length (capOf (Ep7 33)) := emk q3k
     replace q3l : Ep7 34 = .pointer (some ⟨b7, 2, none⟩) := emk q3l
     replace hS : St w0 w' (ro q0a :: cells q2 25 [.slice q6 s0.L.length c_s0_0, .int .i64 q0t.2] :: cells (blkOf (Ep7 32)) 38 [.int .i64 q0z.1, .int .i64 q0t.1] :: bunA (fun (cs33 : List Value) => RepL R_floor_Point q0a q10 cs33) (fun (cs33 : List Value) => [vec 38 R_floor_Point.sz (.slice (adOf (Ep7 33)) q10.length (capOf (Ep7 33))) q10.length cs33]) :: cells b7 36 [.int .i64 q0p.1, .slice (some ⟨b17, 0, none⟩) 1 1, .slice (adOf (Ep7 33)) q10.length (capOf (Ep7 33))] :: (cells b17 3 [.int .i64 q8] :: vec 36 R_place_Pull.sz (.slice q0i q0f.length c_out5_L3h) q0f.length q0n :: l)) := emk hS
     have q_ := St.unbun (hS.pull 3); obtain ⟨cs33, hr33, hS⟩ := q_
     have q4k : RepL (RpI .i64) q0a ([q8] : List Int) [.int .i64 q8] := (RepL.cons (cs := [.int .i64 q8]) rfl RepL.nil)
     replace hS := St.vec_of (n := 1) (sz := (RpI .i64).sz) (hS.pull 5) rfl (by decide)
     exact x_inv ⟨(some ⟨b17, 0, none⟩), 1, 1, [.int .i64 q8], (adOf (Ep7 33)), q10.length, (capOf (Ep7 33)), cs33, q0t.2, ([q8] : List Int), q10, (sinj hFc24), ((hE7 0 rfl).trans q1h), ((hE7 1 rfl).trans q42), ((hE7 5 rfl).trans q43), (hE7 7 rfl), ((hE7 10 rfl).trans q3a), ((hE7 11 rfl).trans q2e), q4k, hr33, (((((((hS.pull 4).drop.pull 2).pull 2).pull 2).pull 4).pull 5).pull 5)⟩
    ·replace hFc24 := it_bf hc24 hFc24
     replace hFc24 := bd_s hFc24; obtain ⟨q17, q60, hFc24⟩ := hFc24
     replace hFc24 := lv_s hFc24; obtain ⟨q11, q61, hFc24⟩ := hFc24
     replace hFc24 := ck_s hFc24; obtain ⟨q62, hFc24⟩ := hFc24
     refine x_par (w0 := w0) [⟨[], [], [35], [], [], []⟩, ⟨[0], [0], [36], [0], [], []⟩, ⟨[], [], [37], [], [], []⟩, ⟨[], [], [38], [], [], []⟩, ⟨[2, 3], [2, 3], [39], [2], [1], [3]⟩, ⟨[2, 3, 4], [4], [40], [], [], [4]⟩, ⟨[0, 1, 2, 3, 4, 5], [1, 5], [41], [4, 2], [5], [6]⟩, ⟨[0, 1, 2, 3, 4, 5, 6], [], [42], [], [], []⟩, ⟨[0, 1, 2, 3, 4, 5, 6, 7], [6, 7], [], [], [0], [7]⟩] [⟨none, (some 8), []⟩, ⟨none, (some 4), []⟩, ⟨none, none, []⟩, ⟨(some 4), none, []⟩, ⟨(some 5), none, [40]⟩, ⟨none, (some 6), []⟩, ⟨(some 6), none, [41]⟩, ⟨(some 8), none, [41]⟩] [35, 36, 37, 38, 39, 40, 41, 42] [0, 1, 2, 5] [2, 3, 4, 6, 7] [0, 1, 2, 3, 4, 5, 6, 7] [fun Ep8 => Ep8 35 = .pointer (some ⟨b7, 1, none⟩), fun Ep8 => Ep8 36 = .slice (some ⟨b17, 0, none⟩) 1 1, fun Ep8 => Ep8 37 = .pointer (some ⟨q2, 0, none⟩), fun Ep8 => Ep8 38 = .int .i64 q8, fun Ep8 => Ep8 39 = .int .i64 q17.1, fun Ep8 => Ep8 40 = .slice (some ⟨(blkOf (Ep8 40)), 0, none⟩) 1 1, fun Ep8 => Ep8 41 = .slice (adOf (Ep8 41)) q11.length (capOf (Ep8 41)), fun Ep8 => Ep8 42 = .pointer (some ⟨b7, 1, none⟩), fun Ep8 => True] [fun Ep8 => cells b7 36 [.int .i64 q0p.1, .slice (some ⟨b17, 0, none⟩) 1 1, .slice none 0 0], fun Ep8 => cells q2 25 [.slice q6 s0.L.length c_s0_0, .int .i64 q3b.2], fun Ep8 => ro q0a, fun Ep8 => cells q2 25 [.slice q6 s0.L.length c_s0_0, .int .i64 q17.2], fun Ep8 => cells (blkOf (Ep8 40)) 3 [.int .i64 q17.1], fun Ep8 => cells b17 3 [.int .i64 q8], fun Ep8 => bunA (fun (cs41 : List Value) => RepL (RpI .i64) q0a q11 cs41) (fun (cs41 : List Value) => [vec 3 (RpI .i64).sz (.slice (adOf (Ep8 41)) q11.length (capOf (Ep8 41))) q11.length cs41]), fun Ep8 => cells b7 36 [.int .i64 q0p.1, .slice (adOf (Ep8 41)) q11.length (capOf (Ep8 41)), .slice none 0 0]] mixed (by kernel_rfl) ((((hS.pull 3).pull 2).pull 2).pull 3) ?_ ?_
     ·refine ⟨?_, ?_, ?_, ?_, ?_, ?_, ?_, ?_, ?_, trivial⟩
      ·intro Ep8 w l' hE8 hO8 hF_ hS
       refine p (yl_field0 fld_36_1 (hE8 7 rfl)) <| x_done <| ?_
       refine x_fin ⟨⟨_, rfl⟩, rfl, ?_⟩
       exact emk hS
      ·intro Ep8 w l' hE8 hO8 hF_ hS
       obtain ⟨q3m, -⟩ := hF_
       replace q3m : Ep8 35 = .pointer (some ⟨b7, 1, none⟩) := emk q3m
       replace hS : St w0 w (cells b7 36 [.int .i64 q0p.1, .slice (some ⟨b17, 0, none⟩) 1 1, .slice none 0 0] :: l') := emk hS
       refine pa (at_load one_22 q3m (hS.cell rfl)) <| x_done <| ?_
       refine x_fin ⟨⟨_, rfl⟩, rfl, ?_⟩
       exact emk hS
      ·intro Ep8 w l' hE8 hO8 hF_ hS
       refine p (yl_move ((hE8 0 rfl).trans q1h)) <| x_done <| ?_
       refine x_fin ⟨⟨_, rfl⟩, rfl, ?_⟩
       exact emk hS
      ·intro Ep8 w l' hE8 hO8 hF_ hS
       refine p (yl_move (hE8 6 rfl)) <| x_done <| ?_
       refine x_fin ⟨⟨_, rfl⟩, rfl, ?_⟩
       exact emk hS
      ·intro Ep8 w l' hE8 hO8 hF_ hS
       obtain ⟨q3n, q3o, -⟩ := hF_
       replace q3n : Ep8 37 = .pointer (some ⟨q2, 0, none⟩) := emk q3n
       replace q3o : Ep8 38 = .int .i64 q8 := emk q3o
       replace hS : St w0 w (ro q0a :: cells q2 25 [.slice q6 s0.L.length c_s0_0, .int .i64 q3b.2] :: l') := emk hS
       have hcall := c_maskmake_Stream_Next q60 (q0w.le q16) (hS.pull 1)
       refine o_cc call_20 (args2 q3n q3o) hcall ?_
       rintro e w' ⟨rfl, hS⟩
       refine ⟨_, rfl, ?_⟩
       refine x_done <| ?_
       refine x_fin ⟨⟨_, rfl⟩, rfl, ?_⟩
       exact emk (hS.pull 1)
      ·intro Ep8 w l' hE8 hO8 hF_ hS
       obtain ⟨q3p, -⟩ := hF_
       replace q3p : Ep8 39 = .int .i64 q17.1 := emk q3p
       refine o_buildSlice (vs := [.int .i64 q17.1]) (cs := [.int .i64 q17.1]) sl_22 zero_3 (parts_eq (pt (va := .int .i64 q17.1) q3p pt0)) rfl (by intro v hv; simp only [List.mem_cons, List.not_mem_nil, or_false] at hv; first | (subst hv; rfl) | (rcases hv with rfl <;> rfl)) (by decide) rfl hS (fun b40 w' hS => ?_)
       refine x_done <| ?_
       refine x_fin ⟨⟨_, rfl⟩, rfl, ?_⟩
       exact emk hS
      ·intro Ep8 w l' hE8 hO8 hF_ hS
       obtain ⟨q3q, q3r, -⟩ := hF_
       replace q3q : Ep8 36 = .slice (some ⟨b17, 0, none⟩) 1 1 := emk q3q
       replace q3r : Ep8 40 = .slice (some ⟨(blkOf (Ep8 40)), 0, none⟩) 1 1 := emk q3r
       replace hS : St w0 w (cells (blkOf (Ep8 40)) 3 [.int .i64 q17.1] :: ro q0a :: cells b17 3 [.int .i64 q8] :: l') := emk hS
       have q63 : RepL (RpI .i64) q0a ([q8] : List Int) [.int .i64 q8] := (RepL.cons (cs := [.int .i64 q8]) rfl RepL.nil)
       replace hS := St.vec_of (n := 1) (sz := (RpI .i64).sz) (hS.pull 2) rfl (by decide)
       refine o_ap sl_22 zero_3 rfl (by decide) q3q q3r hS q63 (src_blk usl_22 (hS.pull 1) rfl rfl) (RepL.cons (R := (RpI .i64)) (ρ := q0a) (x := q17.1) (cs := [.int .i64 q17.1]) rfl RepL.nil) q61 q62 (fun A41 c41 cs41 w' hr41 hS => ?_)
       refine x_done <| ?_
       refine x_fin ⟨⟨_, rfl⟩, rfl, ?_⟩
       replace hS := St.bun (Φ := (fun (cs41 : List Value) => RepL (RpI .i64) q0a q11 cs41)) (L := (fun (cs41 : List Value) => [vec 3 (RpI .i64).sz (.slice A41 q11.length c41) q11.length cs41])) cs41 hr41 hS
       exact emk ((hS.pull 2).pull 2)
      ·intro Ep8 w l' hE8 hO8 hF_ hS
       refine p (yl_field0 fld_36_1 (hE8 7 rfl)) <| x_done <| ?_
       refine x_fin ⟨⟨_, rfl⟩, rfl, ?_⟩
       exact emk hS
      ·intro Ep8 w l' hE8 hO8 hF_ hS
       obtain ⟨q3s, q3t, -⟩ := hF_
       replace q3s : Ep8 41 = .slice (adOf (Ep8 41)) q11.length (capOf (Ep8 41)) := emk q3s
       replace q3t : Ep8 42 = .pointer (some ⟨b7, 1, none⟩) := emk q3t
       replace hS : St w0 w (cells b7 36 [.int .i64 q0p.1, .slice (some ⟨b17, 0, none⟩) 1 1, .slice none 0 0] :: l') := emk hS
       refine o_store1 (v := .slice (adOf (Ep8 41)) q11.length (capOf (Ep8 41))) one_22 q3t q3s rfl rfl hS (fun w' hS => ?_)
       refine x_done <| ?_
       refine x_fin ⟨⟨undef, rfl⟩, trivial, ?_⟩
       exact emk hS
     intro Ep8 w' hE8 hF_ hS
     obtain ⟨q3m, q3q, q3n, q3o, q3p, q3r, q3s, q3t, -⟩ := hF_
     replace q3m : Ep8 35 = .pointer (some ⟨b7, 1, none⟩) := emk q3m
     replace q3q : Ep8 36 = .slice (some ⟨b17, 0, none⟩) 1 1 := emk q3q
     replace q3n : Ep8 37 = .pointer (some ⟨q2, 0, none⟩) := emk q3n
     replace q3o : Ep8 38 = .int .i64 q8 := emk q3o
     replace q3p : Ep8 39 = .int .i64 q17.1 := emk q3p
     replace q3r : Ep8 40 = .slice (some ⟨(blkOf (Ep8 40)), 0, none⟩) 1 1 := emk q3r
     replace q3s : Ep8 41 = .slice (adOf (Ep8 41)) q11.length (capOf (Ep8 41)) := emk q3s
     replace q3t : Ep8 42 = .pointer (some ⟨b7, 1, none⟩) := emk q3t
     replace hS : St w0 w' (ro q0a :: cells q2 25 [.slice q6 s0.L.length c_s0_0, .int .i64 q17.2] :: cells (blkOf (Ep8 40)) 3 [.int .i64 q17.1] :: bunA (fun (cs41 : List Value) => RepL (RpI .i64) q0a q11 cs41) (fun (cs41 : List Value) => [vec 3 (RpI .i64).sz (.slice (adOf (Ep8 41)) q11.length (capOf (Ep8 41))) q11.length cs41]) :: cells b7 36 [.int .i64 q0p.1, .slice (adOf (Ep8 41)) q11.length (capOf (Ep8 41)), .slice none 0 0] :: (vec 36 R_place_Pull.sz (.slice q0i q0f.length c_out5_L3h) q0f.length q0n :: l)) := emk hS
     have q_ := St.unbun (hS.pull 3); obtain ⟨cs41, hr41, hS⟩ := q_
     replace hS := St.vec_nil hS 38 R_floor_Point.sz
     have q32 : RepL R_floor_Point q0a [] [] := rfl
     exact x_inv ⟨(adOf (Ep8 41)), q11.length, (capOf (Ep8 41)), cs41, none, 0, 0, [], q17.2, q11, [], (sinj hFc24), ((hE8 0 rfl).trans q1h), ((hE8 1 rfl).trans q42), ((hE8 5 rfl).trans q43), (hE8 7 rfl), ((hE8 10 rfl).trans q3a), ((hE8 11 rfl).trans q2e), hr41, q32, (((((((hS.pull 4).drop.pull 2).pull 1).pull 2).pull 4).pull 5).pull 5)⟩
   rintro E w ⟨q0j, q1l, c_b7_1_c24, q1z, q0k, q1m, c_b7_2_c24, q20, q1n, q0r, q0s, rfl, q4z, q50, q51, q52, q4o, q4p, q33, q34, hS⟩
   have e_ := St.vec_n (hS.pull 3) q33; subst e_
   have e_ := St.vec_n (hS.pull 4) q34; subst e_
   refine x_region <| p (yl_move q51) <| pa (v := .agg #[.int .i64 q0p.1, .slice q0j q0r.length c_b7_1_c24, .slice q0k q0s.length c_b7_2_c24]) (ld_sub agg_36 q52 rfl rfl (hS.pull 2)) <| ?_
   have q_ := St.vec_fz ((hS.pull 5).pull 4) q33; obtain ⟨q6a, q3u, q64, hS⟩ := q_
   have q_ := St.vec_fz (hS.pull 4) (q34.le q3u); obtain ⟨q4i, q2u, q53, hS⟩ := q_
   refine o_buildSlice (vs := [.agg #[.int .i64 q0p.1, .slice q0j q0r.length c_b7_1_c24, .slice q0k q0s.length c_b7_2_c24]]) (cs := [.int .i64 q0p.1, .slice q0j q0r.length c_b7_1_c24, .slice q0k q0s.length c_b7_2_c24]) sl_27 zero_36 (parts_eq (pt (va := .agg #[.int .i64 q0p.1, .slice q0j q0r.length c_b7_1_c24, .slice q0k q0s.length c_b7_2_c24]) rfl pt0)) rfl (by intro v hv; simp only [List.mem_cons, List.not_mem_nil, or_false] at hv; first | (subst hv; rfl) | (rcases hv with rfl <;> rfl)) (by decide) rfl hS (fun b45 w' hS => ?_)
   replace hFL3 := lv_s hFL3; obtain ⟨q54, q65, hFL3⟩ := hFL3
   replace hFL3 := ck_s hFL3; obtain ⟨q66, hFL3⟩ := hFL3
   refine o_ap sl_27 zero_36 rfl (by decide) rfl rfl (hS.pull 3) (q26.le (q3u.trans q2u)) (src_blk usl_27 hS rfl rfl) (RepL.cons (R := R_place_Pull) (ρ := q4i) (x := (T_place_Pull.mk q0p.1 q0r q0s)) (cs := [.int .i64 q0p.1, .slice q0j q0r.length c_b7_1_c24, .slice q0k q0s.length c_b7_2_c24]) ⟨_, _, _, _, _, _, rfl, (q64.le q2u), q53⟩ RepL.nil) q65 q66 (fun A46 c46 cs46 w' hr46 hS => ?_)
   replace hFL3 := ar_s hFL3; obtain ⟨x47, hx47, hFL3⟩ := hFL3
   refine p (yl_assign rfl) <| x_done <| x_blk <| x_region <|
    p (yadd q4p rfl hx47) <| p (yl_move rfl) <| x_done <| ?_
   have e_ := sinj hFL3; subst e_
   exact x_inv ⟨kL3, Nat.lt_succ_self _, q4i, A46, q54.length, c46, cs46, q54, x47, q1n, hLL3, ((q16.trans q3u).trans q2u), q4z, q50, rfl, q4o, rfl, hr46, (((((hS.pull 1).drop.pull 3).drop.pull 1).pull 1).pull 2)⟩
  ·replace hFL3 := it_f hc12 hFL3
   refine x_exitTo _ rfl <| ?_
   have e_ := sinj hFL3; subst e_
   exact x_inv ⟨q0a, q0i, q0f.length, c_out5_L3h, q0n, q0f, q1k, hLL3, q16, q1h, q42, q43, q26, (((hS.pull 2).pull 2).pull 2)⟩
 rintro E w ⟨q2t, q1x, q1y, c_out5_L3, q1i, q24, q2c, rfl, q18, q4m, q67, q68, q3y, hS⟩
 have e_ := St.vec_n (hS.pull 1) q3y; subst e_
 replace hF := bd_s hF; obtain ⟨q1o, q55, hF⟩ := hF
 refine x_seq <| x_seq <| x_region <| p (yl_move q4m) <| ?_
 have hcall := c_maskmake_Stream_Next q55 (q0w.le q18) ((hS.pull 2).pull 1)
 refine o_cc call_20 (args2 rfl rfl) hcall ?_
 rintro e w' ⟨rfl, hS⟩
 refine ⟨_, rfl, ?_⟩
 refine p (yl_move rfl) <| x_done <| ?_
 replace hF := bd_s hF; obtain ⟨oL12, hLL12, hF⟩ := hF
 refine x_join (fun E w => ∃ (q35 : Heap) (q1p : Option Addr) (q1q : Nat) (c_out5_L12 : Nat) (q19 : List Value) (q27 : List T_place_Pull) (q28 : Int), (q27, q28) = oL12 ∧ Le q2t q35 ∧ E 5 = .slice q1p q1q c_out5_L12 ∧ RepL R_place_Pull q35 q27 q19 ∧ St w0 w (vec 36 R_place_Pull.sz (.slice q1p q1q c_out5_L12) q1q q19 :: cells q2 25 [.slice q6 s0.L.length c_s0_0, .int .i64 q28] :: ro q35 :: l)) ?_ ?_
 ·refine x_block ?_
  refine x_loop (fun k_ E w => ∃ (q9 : Heap) (q7 : Option Addr) (q1a : Nat) (c_out5_L12h : Nat) (q0d : List Value) (q3 : List T_place_Pull) (q0u : Int) (q1b : Int), lp (P_maskkeep4_pulls_L12 s0 cells1 q1o) k_ (q3, q0u, q1b) = some oL12 ∧ Le q2t q9 ∧ E 0 = .pointer (some ⟨q2, 0, none⟩) ∧ E 1 = .int .i64 cells1 ∧ E 5 = .slice q7 q1a c_out5_L12h ∧ E 49 = .int .i64 q1o.1 ∧ E 50 = .int .i64 q0u ∧ RepL R_place_Pull q9 q3 q0d ∧ St w0 w (cells q2 25 [.slice q6 s0.L.length c_s0_0, .int .i64 q1b] :: vec 36 R_place_Pull.sz (.slice q7 q1a c_out5_L12h) q1a q0d :: ro q9 :: l)) fuel ⟨q2t, q1x, q24.length, c_out5_L3, q1i, q24, 0, q1o.2, hLL12, (Le.refl _), q4m, q67, q68, rfl, rfl, q3y, (((hS.pull 1).pull 2).pull 2)⟩ ?_
  rintro kL12 E w ⟨q9, q7, q1a, c_out5_L12h, q0d, q3, q0u, q1b, hLL12, q12, q4a, q4b, q4c, q44, q45, q21, hS⟩
  have e_ := St.vec_n (hS.pull 1) q21; subst e_
  replace hLL12 := lp_s hLL12; obtain ⟨kL12, obL12, rfl, hFL12, hLL12⟩ := hLL12
  refine x_seq <| x_region <| p (yl_lss q45 q44) <| x_done <|
   x_seq <|
   x_cond_p (q0u < q1o.1) rfl (fun hc51 => ?_) (fun hc51 => ?_)
  ·replace hFL12 := it_t hc51 hFL12
   replace hFL12 := bd_s hFL12; obtain ⟨q0e, q56, hFL12⟩ := hFL12
   refine x_skip <| x_seq <| x_block <| x_seq <|
    x_region <| p (yl_move q4a) <| ?_
   have hcall := c_maskmake_Stream_Range q56 (q0w.le (q18.trans q12)) ((hS.pull 2).pull 1)
   refine o_cc call_6 (args3 rfl rfl rfl) hcall ?_
   rintro e w' ⟨rfl, hS⟩
   refine ⟨_, rfl, ?_⟩
   refine p (v := .agg #[.int .i64 q0e.1, .slice none 0 0, .slice none 0 0]) (yl_build bld_36 bldf_36 (parts_eq (pt (va := .int .i64 q0e.1) rfl pt0)) (by kernel_rfl)) <| ?_
   refine o_alloc zero_36 hS (fun b8 w' hS => ?_)
   refine o_storeAgg (news := [.int .i64 q0e.1, .slice none 0 0, .slice none 0 0]) agg_36 rfl rfl rfl (by simp [over_length]) hS (fun w' hS => ?_)
   refine x_done <| x_seq <| x_seq <| x_region <|
    p (yl_move q4b) <| p (yl_move rfl) <| x_done <| ?_
   replace hFL12 := bd_s hFL12; obtain ⟨oL15, hLL15, hFL12⟩ := hFL12
   refine x_join (fun E w => ∃ (q4 : Option Addr) (q1r : Nat) (c_b8_1_L15 : Nat) (q0x : List Value) (q29 : Int) (q5 : List Int), (q29, q5) = oL15 ∧ E 0 = .pointer (some ⟨q2, 0, none⟩) ∧ E 1 = .int .i64 cells1 ∧ E 5 = .slice q7 q3.length c_out5_L12h ∧ E 8 = .pointer (some ⟨b8, 0, none⟩) ∧ E 49 = .int .i64 q1o.1 ∧ E 50 = .int .i64 q0u ∧ RepL (RpI .i64) q9 q5 q0x ∧ St w0 w (cells q2 25 [.slice q6 s0.L.length c_s0_0, .int .i64 q29] :: vec 36 R_place_Pull.sz (.slice q7 q3.length c_out5_L12h) q3.length q0d :: cells b8 36 [.int .i64 q0e.1, .slice q4 q1r c_b8_1_L15, .slice none 0 0] :: vec 3 (RpI .i64).sz (.slice q4 q1r c_b8_1_L15) q1r q0x :: ro q9 :: l)) ?_ ?_
   ·refine x_block ?_
    replace hS := St.vec_nil hS 3 (RpI .i64).sz
    have q2v : RepL (RpI .i64) q9 [] [] := rfl
    refine x_loop (fun k_ E w => ∃ (q15 : Option Addr) (q1c : Nat) (c_b8_1_L15h : Nat) (q13 : List Value) (q0o : Int) (q1d : Int) (q14 : List Int), lp (P_maskkeep4_pulls_L15 s0 cells1) k_ (q0o, q1d, q14) = some oL15 ∧ E 0 = .pointer (some ⟨q2, 0, none⟩) ∧ E 1 = .int .i64 cells1 ∧ E 5 = .slice q7 q3.length c_out5_L12h ∧ E 8 = .pointer (some ⟨b8, 0, none⟩) ∧ E 49 = .int .i64 q1o.1 ∧ E 50 = .int .i64 q0u ∧ E 55 = .int .i64 cells1 ∧ E 56 = .int .i64 q0o ∧ RepL (RpI .i64) q9 q14 q13 ∧ St w0 w (cells q2 25 [.slice q6 s0.L.length c_s0_0, .int .i64 q1d] :: vec 36 R_place_Pull.sz (.slice q7 q3.length c_out5_L12h) q3.length q0d :: cells b8 36 [.int .i64 q0e.1, .slice q15 q1c c_b8_1_L15h, .slice none 0 0] :: vec 3 (RpI .i64).sz (.slice q15 q1c c_b8_1_L15h) q1c q13 :: ro q9 :: l)) fuel ⟨none, 0, 0, [], 0, q0e.2, [], hLL15, q4a, q4b, q4c, rfl, q44, q45, rfl, rfl, q2v, (((((hS.pull 3).pull 1).pull 2).pull 4).pull 4)⟩ ?_
    rintro kL15 E w ⟨q15, q1c, c_b8_1_L15h, q13, q0o, q1d, q14, hLL15, q2f, q3v, q3w, q25, q2w, q2x, q2y, q2a, q1e, hS⟩
    have e_ := St.vec_n (hS.pull 3) q1e; subst e_
    replace hLL15 := lp_s hLL15; obtain ⟨kL15, obL15, rfl, hFL15, hLL15⟩ := hLL15
    refine x_seq <| x_region <| p (yl_lss q2a q2y) <| x_done <|
     x_seq <|
     x_cond_p (q0o < cells1) rfl (fun hc57 => ?_) (fun hc57 => ?_)
    ·replace hFL15 := it_t hc57 hFL15
     replace hFL15 := bd_s hFL15; obtain ⟨q4g, q57, hFL15⟩ := hFL15
     refine x_skip <| x_seq <| x_block <| x_seq <|
      x_region <| p (yl_move q2a) <| p (yl_assign rfl) <| x_done <|
      x_seq <| x_region <| p (yl_move q2f) <| ?_
     have hcall := c_maskmake_Stream_Flip q57 (q0w.le (q18.trans q12)) ((hS.pull 4).pull 1)
     refine o_cc call_15 (args2 rfl rfl) hcall ?_
     rintro e w' ⟨rfl, hS⟩
     refine ⟨_, rfl, ?_⟩
     refine x_done <| ?_
     replace hFL15 := bd_s hFL15; obtain ⟨oc60, hFc60, hFL15⟩ := hFL15
     refine x_join (fun E w => ∃ (q1s : Option Addr) (q1t : Nat) (c_b8_1_c60 : Nat) (q1f : List Value) (q1w : List Int), q1w = oc60 ∧ E 0 = .pointer (some ⟨q2, 0, none⟩) ∧ E 1 = .int .i64 cells1 ∧ E 5 = .slice q7 q3.length c_out5_L12h ∧ E 8 = .pointer (some ⟨b8, 0, none⟩) ∧ E 49 = .int .i64 q1o.1 ∧ E 50 = .int .i64 q0u ∧ E 55 = .int .i64 cells1 ∧ E 56 = .int .i64 q0o ∧ RepL (RpI .i64) q9 q1w q1f ∧ St w0 w (cells q2 25 [.slice q6 s0.L.length c_s0_0, .int .i64 q4g.2] :: vec 36 R_place_Pull.sz (.slice q7 q3.length c_out5_L12h) q3.length q0d :: cells b8 36 [.int .i64 q0e.1, .slice q1s q1t c_b8_1_c60, .slice none 0 0] :: vec 3 (RpI .i64).sz (.slice q1s q1t c_b8_1_c60) q1t q1f :: ro q9 :: l)) ?_ ?_
     ·refine x_cond (t := q4g.1) rfl (fun hc60 => ?_) (fun hc60 => ?_)
      ·replace hFc60 := it_t hc60 hFc60
       refine x_region <| p (yl_field0 fld_36_1 q25) <| pa (at_load one_22 rfl ((hS.pull 3).cell rfl)) <| p (yl_move rfl) <| ?_
       refine o_buildSlice (vs := [.int .i64 q0o]) (cs := [.int .i64 q0o]) sl_22 zero_3 (parts_eq (pt (va := .int .i64 q0o) rfl pt0)) rfl (by intro v hv; simp only [List.mem_cons, List.not_mem_nil, or_false] at hv; first | (subst hv; rfl) | (rcases hv with rfl <;> rfl)) (by decide) rfl hS (fun b64 w' hS => ?_)
       replace hFc60 := lv_s hFc60; obtain ⟨q4h, q58, hFc60⟩ := hFc60
       replace hFc60 := ck_s hFc60; obtain ⟨q59, hFc60⟩ := hFc60
       refine o_ap sl_22 zero_3 rfl (by decide) rfl rfl (hS.pull 5) q1e (src_blk usl_22 hS rfl rfl) (RepL.cons (R := (RpI .i64)) (ρ := q9) (x := q0o) (cs := [.int .i64 q0o]) rfl RepL.nil) q58 q59 (fun A65 c65 cs65 w' hr65 hS => ?_)
       refine p (yl_field0 fld_36_1 q25) <| ?_
       refine o_store1 (v := .slice A65 q4h.length c65) one_22 rfl rfl rfl rfl (hS.pull 5) (fun w' hS => ?_)
       refine x_done <| ?_
       exact x_inv ⟨A65, q4h.length, c65, cs65, q4h, (sinj hFc60), q2f, q3v, q3w, q25, q2w, q2x, q2y, q2a, hr65, ((((((hS.pull 2).drop.pull 3).pull 2).pull 2).pull 4).pull 4)⟩
      ·replace hFc60 := it_bf hc60 hFc60
       refine x_skip <| ?_
       exact x_inv ⟨q15, q14.length, c_b8_1_L15h, q13, q14, (sinj hFc60), q2f, q3v, q3w, q25, q2w, q2x, q2y, q2a, q1e, (((((hS.pull 1).pull 4).pull 4).pull 4).pull 4)⟩
     rintro E w ⟨q1s, q1t, c_b8_1_c60, q1f, q1w, rfl, q5a, q5b, q5c, q5d, q4q, q4r, q4s, q4t, q36, hS⟩
     have e_ := St.vec_n (hS.pull 3) q36; subst e_
     replace hFL15 := ar_s hFL15; obtain ⟨x67, hx67, hFL15⟩ := hFL15
     refine x_blk <| x_region <| p (yadd q4t rfl hx67) <| p (yl_move rfl) <|
      x_done <| ?_
     have e_ := sinj hFL15; subst e_
     exact x_inv ⟨kL15, Nat.lt_succ_self _, q1s, q1w.length, c_b8_1_c60, q1f, x67, q4g.2, q1w, hLL15, q5a, q5b, q5c, q5d, q4q, q4r, q4s, rfl, q36, (((((hS.pull 4).pull 4).pull 4).pull 4).pull 4)⟩
    ·replace hFL15 := it_f hc57 hFL15
     refine x_exitTo _ rfl <| ?_
     have e_ := sinj hFL15; subst e_
     exact x_inv ⟨q15, q14.length, c_b8_1_L15h, q13, q1d, q14, hLL15, q2f, q3v, q3w, q25, q2w, q2x, q1e, (((((hS.pull 4).pull 4).pull 4).pull 4).pull 4)⟩
   rintro E w ⟨q4, q1r, c_b8_1_L15, q0x, q29, q5, rfl, q4j, q5e, q5f, q5g, q4u, q4v, q37, hS⟩
   have e_ := St.vec_n (hS.pull 3) q37; subst e_
   replace hFL12 := bd_s hFL12; obtain ⟨q3z, q5h, hFL12⟩ := hFL12
   refine x_seq <| x_seq <| x_region <| p (yl_move q4j) <| ?_
   have hcall := c_maskmake_Stream_Next q5h (q0w.le (q18.trans q12)) ((hS.pull 4).pull 1)
   refine o_cc call_20 (args2 rfl rfl) hcall ?_
   rintro e w' ⟨rfl, hS⟩
   refine ⟨_, rfl, ?_⟩
   refine p (yl_move rfl) <| x_done <| ?_
   replace hFL12 := bd_s hFL12; obtain ⟨oL21, hLL21, hFL12⟩ := hFL12
   refine x_join (fun E w => ∃ (q0l : Option Addr) (q1u : Nat) (c_b8_2_L21 : Nat) (q22 : List Value) (q1v : Int) (q0v : List T_floor_Point), (q1v, q0v) = oL21 ∧ E 0 = .pointer (some ⟨q2, 0, none⟩) ∧ E 1 = .int .i64 cells1 ∧ E 5 = .slice q7 q3.length c_out5_L12h ∧ E 8 = .pointer (some ⟨b8, 0, none⟩) ∧ E 49 = .int .i64 q1o.1 ∧ E 50 = .int .i64 q0u ∧ RepL R_floor_Point q9 q0v q22 ∧ St w0 w (cells q2 25 [.slice q6 s0.L.length c_s0_0, .int .i64 q1v] :: vec 36 R_place_Pull.sz (.slice q7 q3.length c_out5_L12h) q3.length q0d :: cells b8 36 [.int .i64 q0e.1, .slice q4 q5.length c_b8_1_L15, .slice q0l q1u c_b8_2_L21] :: vec 3 (RpI .i64).sz (.slice q4 q5.length c_b8_1_L15) q5.length q0x :: vec 38 R_floor_Point.sz (.slice q0l q1u c_b8_2_L21) q1u q22 :: ro q9 :: l)) ?_ ?_
   ·refine x_block ?_
    replace hS := St.vec_nil hS 38 R_floor_Point.sz
    have q2z : RepL R_floor_Point q9 [] [] := rfl
    refine x_loop (fun k_ E w => ∃ (q0c : Option Addr) (q1g : Nat) (c_b8_2_L21h : Nat) (q0q : List Value) (q2b : Int) (q0y : Int) (q0b : List T_floor_Point), lp (P_maskkeep4_pulls_L21 s0 q3z) k_ (q2b, q0y, q0b) = some oL21 ∧ E 0 = .pointer (some ⟨q2, 0, none⟩) ∧ E 1 = .int .i64 cells1 ∧ E 5 = .slice q7 q3.length c_out5_L12h ∧ E 8 = .pointer (some ⟨b8, 0, none⟩) ∧ E 49 = .int .i64 q1o.1 ∧ E 50 = .int .i64 q0u ∧ E 69 = .int .i64 q3z.1 ∧ E 70 = .int .i64 q2b ∧ RepL R_floor_Point q9 q0b q0q ∧ St w0 w (cells q2 25 [.slice q6 s0.L.length c_s0_0, .int .i64 q0y] :: vec 36 R_place_Pull.sz (.slice q7 q3.length c_out5_L12h) q3.length q0d :: cells b8 36 [.int .i64 q0e.1, .slice q4 q5.length c_b8_1_L15, .slice q0c q1g c_b8_2_L21h] :: vec 3 (RpI .i64).sz (.slice q4 q5.length c_b8_1_L15) q5.length q0x :: vec 38 R_floor_Point.sz (.slice q0c q1g c_b8_2_L21h) q1g q0q :: ro q9 :: l)) fuel ⟨none, 0, 0, [], 0, q3z.2, [], hLL21, q4j, q5e, q5f, q5g, q4u, q4v, rfl, rfl, q2z, ((((((hS.pull 2).pull 1).pull 5).pull 5).pull 5).pull 5)⟩ ?_
    rintro kL21 E w ⟨q0c, q1g, c_b8_2_L21h, q0q, q2b, q0y, q0b, hLL21, q2g, q4d, q4e, q2h, q46, q47, q48, q49, q23, hS⟩
    have e_ := St.vec_n (hS.pull 4) q23; subst e_
    replace hLL21 := lp_s hLL21; obtain ⟨kL21, obL21, rfl, hFL21, hLL21⟩ := hLL21
    refine x_seq <| x_region <| p (yl_lss q49 q48) <| x_done <|
     x_seq <|
     x_cond_p (q2b < q3z.1) rfl (fun hc71 => ?_) (fun hc71 => ?_)
    ·replace hFL21 := it_t hc71 hFL21
     refine x_skip <| x_seq <| x_block <| ?_
     replace hFL21 := bd_s hFL21; obtain ⟨q0h, q5i, hFL21⟩ := hFL21
     replace hFL21 := bd_s hFL21; obtain ⟨q0g, q5j, hFL21⟩ := hFL21
     replace hFL21 := lv_s hFL21; obtain ⟨q0m, q5k, hFL21⟩ := hFL21
     replace hFL21 := ck_s hFL21; obtain ⟨q5l, hFL21⟩ := hFL21
     refine x_par (w0 := w0) [⟨[], [], [72], [], [], []⟩, ⟨[0], [0], [73], [0], [], []⟩, ⟨[], [], [74], [], [], []⟩, ⟨[2], [2], [75], [2], [1], [3]⟩, ⟨[], [], [76], [], [], []⟩, ⟨[2, 3, 4], [4], [77], [2], [3], [4]⟩, ⟨[2, 3, 4, 5], [3, 5], [78], [], [], []⟩, ⟨[2, 3, 4, 5, 6], [6], [79], [], [], [5]⟩, ⟨[0, 1, 2, 3, 4, 5, 6, 7], [1, 7], [80], [5, 2], [6], [7]⟩, ⟨[0, 1, 2, 3, 4, 5, 6, 7, 8], [], [81], [], [], []⟩, ⟨[0, 1, 2, 3, 4, 5, 6, 7, 8, 9], [8, 9], [], [], [0], [8]⟩] [⟨none, (some 10), []⟩, ⟨none, (some 3), []⟩, ⟨none, none, []⟩, ⟨(some 3), (some 5), []⟩, ⟨(some 5), none, []⟩, ⟨(some 7), none, [79]⟩, ⟨none, (some 8), []⟩, ⟨(some 8), none, [80]⟩, ⟨(some 10), none, [80]⟩] [72, 73, 74, 75, 76, 77, 78, 79, 80, 81] [0, 1, 2, 6] [2, 4, 5, 7, 8] [0, 1, 2, 3, 4, 5, 6, 7, 8, 9] [fun Ep22 => Ep22 72 = .pointer (some ⟨b8, 2, none⟩), fun Ep22 => Ep22 73 = .slice q0c q0b.length c_b8_2_L21h, fun Ep22 => Ep22 74 = .pointer (some ⟨q2, 0, none⟩), fun Ep22 => Ep22 75 = .int .i64 q0h.1, fun Ep22 => Ep22 76 = .pointer (some ⟨q2, 0, none⟩), fun Ep22 => Ep22 77 = .int .i64 q0g.1, fun Ep22 => Ep22 78 = .agg #[.int .i64 q0h.1, .int .i64 q0g.1], fun Ep22 => Ep22 79 = .slice (some ⟨(blkOf (Ep22 79)), 0, none⟩) 1 1, fun Ep22 => Ep22 80 = .slice (adOf (Ep22 80)) q0m.length (capOf (Ep22 80)), fun Ep22 => Ep22 81 = .pointer (some ⟨b8, 2, none⟩), fun Ep22 => True] [fun Ep22 => cells b8 36 [.int .i64 q0e.1, .slice q4 q5.length c_b8_1_L15, .slice q0c q0b.length c_b8_2_L21h], fun Ep22 => cells q2 25 [.slice q6 s0.L.length c_s0_0, .int .i64 q0y], fun Ep22 => ro q9, fun Ep22 => cells q2 25 [.slice q6 s0.L.length c_s0_0, .int .i64 q0h.2], fun Ep22 => cells q2 25 [.slice q6 s0.L.length c_s0_0, .int .i64 q0g.2], fun Ep22 => cells (blkOf (Ep22 79)) 38 [.int .i64 q0h.1, .int .i64 q0g.1], fun Ep22 => vec 38 R_floor_Point.sz (.slice q0c q0b.length c_b8_2_L21h) q0b.length q0q, fun Ep22 => bunA (fun (cs80 : List Value) => RepL R_floor_Point q9 q0m cs80) (fun (cs80 : List Value) => [vec 38 R_floor_Point.sz (.slice (adOf (Ep22 80)) q0m.length (capOf (Ep22 80))) q0m.length cs80]), fun Ep22 => cells b8 36 [.int .i64 q0e.1, .slice q4 q5.length c_b8_1_L15, .slice (adOf (Ep22 80)) q0m.length (capOf (Ep22 80))]] mixed (by kernel_rfl) ((((hS.pull 4).pull 5).pull 2).pull 4) ?_ ?_
     ·refine ⟨?_, ?_, ?_, ?_, ?_, ?_, ?_, ?_, ?_, ?_, ?_, trivial⟩
      ·intro Ep22 w l' hE22 hO22 hF_ hS
       refine p (yl_field0 fld_36_2 ((hE22 8 rfl).trans q2h)) <| x_done <| ?_
       refine x_fin ⟨⟨_, rfl⟩, rfl, ?_⟩
       exact emk hS
      ·intro Ep22 w l' hE22 hO22 hF_ hS
       obtain ⟨q2i, -⟩ := hF_
       replace q2i : Ep22 72 = .pointer (some ⟨b8, 2, none⟩) := emk q2i
       replace hS : St w0 w (cells b8 36 [.int .i64 q0e.1, .slice q4 q5.length c_b8_1_L15, .slice q0c q0b.length c_b8_2_L21h] :: l') := emk hS
       refine pa (at_load one_34 q2i (hS.cell rfl)) <| x_done <| ?_
       refine x_fin ⟨⟨_, rfl⟩, rfl, ?_⟩
       exact emk hS
      ·intro Ep22 w l' hE22 hO22 hF_ hS
       refine p (yl_move ((hE22 0 rfl).trans q2g)) <| x_done <| ?_
       refine x_fin ⟨⟨_, rfl⟩, rfl, ?_⟩
       exact emk hS
      ·intro Ep22 w l' hE22 hO22 hF_ hS
       obtain ⟨q2j, -⟩ := hF_
       replace q2j : Ep22 74 = .pointer (some ⟨q2, 0, none⟩) := emk q2j
       replace hS : St w0 w (ro q9 :: cells q2 25 [.slice q6 s0.L.length c_s0_0, .int .i64 q0y] :: l') := emk hS
       have hcall := c_maskmake_Stream_Next q5i (q0w.le (q18.trans q12)) (hS.pull 1)
       refine o_cc call_20 (args2 q2j rfl) hcall ?_
       rintro e w' ⟨rfl, hS⟩
       refine ⟨_, rfl, ?_⟩
       refine x_done <| ?_
       refine x_fin ⟨⟨_, rfl⟩, rfl, ?_⟩
       exact emk (hS.pull 1)
      ·intro Ep22 w l' hE22 hO22 hF_ hS
       refine p (yl_move ((hE22 0 rfl).trans q2g)) <| x_done <| ?_
       refine x_fin ⟨⟨_, rfl⟩, rfl, ?_⟩
       exact emk hS
      ·intro Ep22 w l' hE22 hO22 hF_ hS
       obtain ⟨q2k, -⟩ := hF_
       replace q2k : Ep22 76 = .pointer (some ⟨q2, 0, none⟩) := emk q2k
       replace hS : St w0 w (ro q9 :: cells q2 25 [.slice q6 s0.L.length c_s0_0, .int .i64 q0h.2] :: l') := emk hS
       have hcall := c_maskmake_Stream_Next q5j (q0w.le (q18.trans q12)) (hS.pull 1)
       refine o_cc call_20 (args2 q2k rfl) hcall ?_
       rintro e w' ⟨rfl, hS⟩
       refine ⟨_, rfl, ?_⟩
       refine x_done <| ?_
       refine x_fin ⟨⟨_, rfl⟩, rfl, ?_⟩
       exact emk (hS.pull 1)
      ·intro Ep22 w l' hE22 hO22 hF_ hS
       obtain ⟨q2l, q2m, -⟩ := hF_
       replace q2l : Ep22 75 = .int .i64 q0h.1 := emk q2l
       replace q2m : Ep22 77 = .int .i64 q0g.1 := emk q2m
       refine p (v := .agg #[.int .i64 q0h.1, .int .i64 q0g.1]) (yl_build bld_38 bldf_38 (parts_eq (pt (va := .int .i64 q0h.1) q2l (pt (va := .int .i64 q0g.1) q2m pt0))) (by kernel_rfl)) <| x_done <| ?_
       refine x_fin ⟨⟨_, rfl⟩, rfl, ?_⟩
       exact emk hS
      ·intro Ep22 w l' hE22 hO22 hF_ hS
       obtain ⟨q2n, -⟩ := hF_
       replace q2n : Ep22 78 = .agg #[.int .i64 q0h.1, .int .i64 q0g.1] := emk q2n
       refine o_buildSlice (vs := [.agg #[.int .i64 q0h.1, .int .i64 q0g.1]]) (cs := [.int .i64 q0h.1, .int .i64 q0g.1]) sl_34 zero_38 (parts_eq (pt (va := .agg #[.int .i64 q0h.1, .int .i64 q0g.1]) q2n pt0)) rfl (by intro v hv; simp only [List.mem_cons, List.not_mem_nil, or_false] at hv; first | (subst hv; rfl) | (rcases hv with rfl <;> rfl)) (by decide) rfl hS (fun b79 w' hS => ?_)
       refine x_done <| ?_
       refine x_fin ⟨⟨_, rfl⟩, rfl, ?_⟩
       exact emk hS
      ·intro Ep22 w l' hE22 hO22 hF_ hS
       obtain ⟨q2o, q2p, -⟩ := hF_
       replace q2o : Ep22 73 = .slice q0c q0b.length c_b8_2_L21h := emk q2o
       replace q2p : Ep22 79 = .slice (some ⟨(blkOf (Ep22 79)), 0, none⟩) 1 1 := emk q2p
       replace hS : St w0 w (cells (blkOf (Ep22 79)) 38 [.int .i64 q0h.1, .int .i64 q0g.1] :: ro q9 :: vec 38 R_floor_Point.sz (.slice q0c q0b.length c_b8_2_L21h) q0b.length q0q :: l') := emk hS
       refine o_ap sl_34 zero_38 rfl (by decide) q2o q2p (hS.pull 2) q23 (src_blk usl_34 hS rfl rfl) (RepL.cons (R := R_floor_Point) (ρ := q9) (x := (T_floor_Point.mk q0h.1 q0g.1)) (cs := [.int .i64 q0h.1, .int .i64 q0g.1]) rfl RepL.nil) q5k q5l (fun A80 c80 cs80 w' hr80 hS => ?_)
       refine x_done <| ?_
       refine x_fin ⟨⟨_, rfl⟩, rfl, ?_⟩
       replace hS := St.bun (Φ := (fun (cs80 : List Value) => RepL R_floor_Point q9 q0m cs80)) (L := (fun (cs80 : List Value) => [vec 38 R_floor_Point.sz (.slice A80 q0m.length c80) q0m.length cs80])) cs80 hr80 hS
       exact emk ((hS.pull 2).pull 2)
      ·intro Ep22 w l' hE22 hO22 hF_ hS
       refine p (yl_field0 fld_36_2 ((hE22 8 rfl).trans q2h)) <| x_done <| ?_
       refine x_fin ⟨⟨_, rfl⟩, rfl, ?_⟩
       exact emk hS
      ·intro Ep22 w l' hE22 hO22 hF_ hS
       obtain ⟨q2q, q2r, -⟩ := hF_
       replace q2q : Ep22 80 = .slice (adOf (Ep22 80)) q0m.length (capOf (Ep22 80)) := emk q2q
       replace q2r : Ep22 81 = .pointer (some ⟨b8, 2, none⟩) := emk q2r
       replace hS : St w0 w (cells b8 36 [.int .i64 q0e.1, .slice q4 q5.length c_b8_1_L15, .slice q0c q0b.length c_b8_2_L21h] :: l') := emk hS
       refine o_store1 (v := .slice (adOf (Ep22 80)) q0m.length (capOf (Ep22 80))) one_34 q2r q2q rfl rfl hS (fun w' hS => ?_)
       refine x_done <| ?_
       refine x_fin ⟨⟨undef, rfl⟩, trivial, ?_⟩
       exact emk hS
     intro Ep22 w' hE22 hF_ hS
     obtain ⟨q2i, q2o, q2j, q2l, q2k, q2m, q2n, q2p, q2q, q2r, -⟩ := hF_
     replace q2i : Ep22 72 = .pointer (some ⟨b8, 2, none⟩) := emk q2i
     replace q2o : Ep22 73 = .slice q0c q0b.length c_b8_2_L21h := emk q2o
     replace q2j : Ep22 74 = .pointer (some ⟨q2, 0, none⟩) := emk q2j
     replace q2l : Ep22 75 = .int .i64 q0h.1 := emk q2l
     replace q2k : Ep22 76 = .pointer (some ⟨q2, 0, none⟩) := emk q2k
     replace q2m : Ep22 77 = .int .i64 q0g.1 := emk q2m
     replace q2n : Ep22 78 = .agg #[.int .i64 q0h.1, .int .i64 q0g.1] := emk q2n
     replace q2p : Ep22 79 = .slice (some ⟨(blkOf (Ep22 79)), 0, none⟩) 1 1 := emk q2p
     replace q2q : Ep22 80 = .slice (adOf (Ep22 80)) q0m.length (capOf (Ep22 80)) := emk q2q
     replace q2r : Ep22 81 = .pointer (some ⟨b8, 2, none⟩) := emk q2r
     replace hS : St w0 w' (ro q9 :: cells q2 25 [.slice q6 s0.L.length c_s0_0, .int .i64 q0g.2] :: cells (blkOf (Ep22 79)) 38 [.int .i64 q0h.1, .int .i64 q0g.1] :: bunA (fun (cs80 : List Value) => RepL R_floor_Point q9 q0m cs80) (fun (cs80 : List Value) => [vec 38 R_floor_Point.sz (.slice (adOf (Ep22 80)) q0m.length (capOf (Ep22 80))) q0m.length cs80]) :: cells b8 36 [.int .i64 q0e.1, .slice q4 q5.length c_b8_1_L15, .slice (adOf (Ep22 80)) q0m.length (capOf (Ep22 80))] :: (vec 36 R_place_Pull.sz (.slice q7 q3.length c_out5_L12h) q3.length q0d :: vec 3 (RpI .i64).sz (.slice q4 q5.length c_b8_1_L15) q5.length q0x :: l)) := emk hS
     have q_ := St.unbun (hS.pull 3); obtain ⟨cs80, hr80, hS⟩ := q_
     replace hFL21 := ar_s hFL21; obtain ⟨x82, hx82, hFL21⟩ := hFL21
     refine x_blk <| x_region <| p (yadd ((hE22 70 rfl).trans q49) rfl hx82) <| p (yl_move rfl) <|
      x_done <| ?_
     have e_ := sinj hFL21; subst e_
     exact x_inv ⟨kL21, Nat.lt_succ_self _, (adOf (Ep22 80)), q0m.length, (capOf (Ep22 80)), cs80, x82, q0g.2, q0m, hLL21, ((hE22 0 rfl).trans q2g), ((hE22 1 rfl).trans q4d), ((hE22 5 rfl).trans q4e), ((hE22 8 rfl).trans q2h), ((hE22 49 rfl).trans q46), ((hE22 50 rfl).trans q47), ((hE22 69 rfl).trans q48), rfl, hr80, (((((((hS.pull 3).drop.pull 1).pull 1).pull 5).pull 4).pull 5).pull 5)⟩
    ·replace hFL21 := it_f hc71 hFL21
     refine x_exitTo _ rfl <| ?_
     have e_ := sinj hFL21; subst e_
     exact x_inv ⟨q0c, q0b.length, c_b8_2_L21h, q0q, q0y, q0b, hLL21, q2g, q4d, q4e, q2h, q46, q47, q23, ((((((hS.pull 5).pull 5).pull 5).pull 5).pull 5).pull 5)⟩
   rintro E w ⟨q0l, q1u, c_b8_2_L21, q22, q1v, q0v, rfl, q5m, q5n, q5o, q5p, q4w, q4x, q38, hS⟩
   have e_ := St.vec_n (hS.pull 4) q38; subst e_
   refine x_region <| p (yl_move q5o) <| pa (v := .agg #[.int .i64 q0e.1, .slice q4 q5.length c_b8_1_L15, .slice q0l q0v.length c_b8_2_L21]) (ld_sub agg_36 q5p rfl rfl (hS.pull 2)) <| ?_
   have q_ := St.vec_fz ((hS.pull 5).pull 4) q37; obtain ⟨q69, q30, q5q, hS⟩ := q_
   have q_ := St.vec_fz (hS.pull 4) (q38.le q30); obtain ⟨q4f, q2d, q4y, hS⟩ := q_
   refine o_buildSlice (vs := [.agg #[.int .i64 q0e.1, .slice q4 q5.length c_b8_1_L15, .slice q0l q0v.length c_b8_2_L21]]) (cs := [.int .i64 q0e.1, .slice q4 q5.length c_b8_1_L15, .slice q0l q0v.length c_b8_2_L21]) sl_27 zero_36 (parts_eq (pt (va := .agg #[.int .i64 q0e.1, .slice q4 q5.length c_b8_1_L15, .slice q0l q0v.length c_b8_2_L21]) rfl pt0)) rfl (by intro v hv; simp only [List.mem_cons, List.not_mem_nil, or_false] at hv; first | (subst hv; rfl) | (rcases hv with rfl <;> rfl)) (by decide) rfl hS (fun b85 w' hS => ?_)
   replace hFL12 := lv_s hFL12; obtain ⟨q4n, q5r, hFL12⟩ := hFL12
   replace hFL12 := ck_s hFL12; obtain ⟨q5s, hFL12⟩ := hFL12
   refine o_ap sl_27 zero_36 rfl (by decide) rfl rfl (hS.pull 3) (q21.le (q30.trans q2d)) (src_blk usl_27 hS rfl rfl) (RepL.cons (R := R_place_Pull) (ρ := q4f) (x := (T_place_Pull.mk q0e.1 q5 q0v)) (cs := [.int .i64 q0e.1, .slice q4 q5.length c_b8_1_L15, .slice q0l q0v.length c_b8_2_L21]) ⟨_, _, _, _, _, _, rfl, (q5q.le q2d), q4y⟩ RepL.nil) q5r q5s (fun A86 c86 cs86 w' hr86 hS => ?_)
   replace hFL12 := ar_s hFL12; obtain ⟨x87, hx87, hFL12⟩ := hFL12
   refine p (yl_assign rfl) <| x_done <| x_blk <| x_region <|
    p (yadd q4x rfl hx87) <| p (yl_move rfl) <| x_done <| ?_
   have e_ := sinj hFL12; subst e_
   exact x_inv ⟨kL12, Nat.lt_succ_self _, q4f, A86, q4n.length, c86, cs86, q4n, x87, q1v, hLL12, ((q12.trans q30).trans q2d), q5m, q5n, rfl, q4w, rfl, hr86, (((((hS.pull 1).drop.pull 3).drop.pull 1).pull 1).pull 2)⟩
  ·replace hFL12 := it_f hc51 hFL12
   refine x_exitTo _ rfl <| ?_
   have e_ := sinj hFL12; subst e_
   exact x_inv ⟨q9, q7, q3.length, c_out5_L12h, q0d, q3, q1b, hLL12, q12, q4c, q21, (((hS.pull 2).pull 1).pull 2)⟩
 rintro E w ⟨q35, q1p, q1q, c_out5_L12, q19, q27, q28, rfl, q4l, q5t, q39, hS⟩
 have e_ := St.vec_n hS q39; subst e_
 refine x_seq <| x_region <| p (yl_move q5t) <| p (yl_assign rfl) <|
  x_done <| ?_
 have e_ := sinj hF; subst e_
 exact x_return ⟨_, ⟨_, _, rfl, rfl, rfl⟩, q35, q1p, q27.length, c_out5_L12, q19, rfl, (q18.trans q4l), q39, (((hS.pull 2).pull 2).pull 2)⟩
attribute [irreducible] P_maskkeep4_pulls

def P_place_far (p0 : T_floor_Point) : Option Bool :=
 lv (max p0.X p0.Y) fun x7 =>
 lv (min p0.X p0.Y) fun x14 =>
 lv ((decide (1000 < x7)) || (decide (x14 < (-1000)))) fun x16 =>
 some x16
theorem c_place_far {w0 w : World} {l : List Assn} {ρ : Heap} {p0 : T_floor_Point} {r : Bool} (hF : P_place_far p0 = some r) (hS : St w0 w (ro ρ :: l)) :
  Calls Try.prog 38 #[.agg #[.int .i64 p0.X, .int .i64 p0.Y]] w fun e w' => e = .returned (.bool r) ∧ St w0 w' (ro ρ :: l) := by
 refine enterC Try.func38 rfl 17 rfl (by simp) ?_
 refine x_seq <| x_region <| ?_
 refine o_box (cs := [.int .i64 p0.X, .int .i64 p0.Y]) rfl rfl hS (fun b1 w' hS => ?_)
 replace hF := lv_s hF; obtain ⟨x7, hx7, hF⟩ := hF
 replace hF := lv_s hF; obtain ⟨x14, hx14, hF⟩ := hF
 replace hF := lv_s hF; obtain ⟨x16, hx16, hF⟩ := hF
 refine p (yl_assign rfl) <| x_done <| x_seq <| x_region <|
  p (yl_field0 fld_38_0 rfl) <| pa (at_load one_3 rfl (hS.cell rfl)) <| p (yl_field0 fld_38_1 rfl) <| pa (at_load one_3 rfl (hS.cell rfl)) <|
  p (ymax' rfl rfl hx7) <| p (yl_gtr rfl rfl) <| p (yl_move rfl) <| pg (v := .pointer (some ⟨b1, 0, none⟩)) 9 (c := !(decide (1000 < x7))) (says_f _) (fun hq => Yl.at (yl_field0 fld_38_0 rfl)) <|
  pg (v := .int .i64 p0.X) 9 (c := !(decide (1000 < x7))) (says_f _) (fun hq => at_load one_3 (cv hq) (hS.cell rfl)) <| pg (v := .pointer (some ⟨b1, 1, none⟩)) 9 (c := !(decide (1000 < x7))) (says_f _) (fun hq => Yl.at (yl_field0 fld_38_1 rfl)) <| pg (v := .int .i64 p0.Y) 9 (c := !(decide (1000 < x7))) (says_f _) (fun hq => at_load one_3 (cv hq) (hS.cell rfl)) <| pg (v := .int .i64 x14) 9 (c := !(decide (1000 < x7))) (says_f _) (fun hq => Yl.at (ymin' (cv hq) (cv hq) hx14)) <|
  pg (v := .bool (decide (x14 < (-1000)))) 9 (c := !(decide (1000 < x7))) (says_f _) (fun hq => Yl.at (yl_lss (cv hq) rfl)) <| p (yor' rfl rfl (fun hc => (cv (t_not hc))) hx16) <| p (yl_assign rfl) <| x_done <| ?_
 have e_ := sinj hF; subst e_
 exact x_return ⟨_, ⟨_, _, rfl, rfl, rfl⟩, rfl, hS.drop⟩
attribute [irreducible] P_place_far

def P_place_Check_L14 (cells0 : Int) (q4 : T_place_Pull) : (List Bool × Int) → Option ((List Bool × Int) ⊕ (Unit ⊕ Int)) := fun (q2, q3) =>
 if q3 < (q4.Cells.length : Int) then
  ck (inb q3 q4.Cells.length) <|
  lv (gt q4.Cells q3) fun x53 =>
  lv ((decide (x53 < 0)) || (decide (cells0 ≤ x53))) fun x61 =>
  if x61 = true then
   some (Sum.inr (Sum.inr (7 : Int)))
  else
   ck (inb x53 q2.length) <|
   lv (gt q2 x53) fun x66 =>
   if x66 = true then
    some (Sum.inr (Sum.inr (6 : Int)))
   else
    ck (inb x53 q2.length) <|
    lv (stt q2 x53 true) fun q5 =>
    ar (q3 + 1) fun x70 =>
    some (Sum.inl (q5, x70))
 else
  some (Sum.inr (Sum.inl ()))
def P_place_Check_L23 (q3 : T_place_Pull) : Int → Option (Int ⊕ (Unit ⊕ Int)) := fun q2 =>
 if q2 < (q3.At.length : Int) then
  ck (inb q2 q3.At.length) <|
  lv (gt q3.At q2) fun q4 =>
  bd (P_place_far q4) fun q5 =>
  if q5 = true then
   some (Sum.inr (Sum.inr (2 : Int)))
  else
   ar (q2 + 1) fun x80 =>
   some (Sum.inl x80)
 else
  some (Sum.inr (Sum.inl ()))
def P_place_Check_L6 (cells0 : Int) (l_1 : List T_place_Pull) : Int → Option (Int ⊕ (Unit ⊕ Int)) := fun q2 =>
 if q2 < (l_1.length : Int) then
  ck (inb q2 l_1.length) <|
  lv (gt l_1 q2) fun q3 =>
  lv ((decide (q3.Weight < 1)) || (decide (16 < q3.Weight))) fun x34 =>
  if x34 = true then
   some (Sum.inr (Sum.inr (2 : Int)))
  else
   lv ((decide (500 < (q3.Cells.length : Int))) || (decide (500 < (q3.At.length : Int)))) fun x44 =>
   if x44 = true then
    some (Sum.inr (Sum.inr (3 : Int)))
   else
    ck (mkOk 1 cells0) <|
    lv ((List.replicate (cells0 : Int).toNat false : List Bool)) fun q4 =>
    bs (
     lp (P_place_Check_L14 cells0 q3) fuel (q4, 0)) (fun y => some (Sum.inr (Sum.inr y))) fun _ =>
    bs (
     lp (P_place_Check_L23 q3) fuel 0) (fun y => some (Sum.inr (Sum.inr y))) fun _ =>
    ar (q2 + 1) fun x81 =>
    some (Sum.inl x81)
 else
  some (Sum.inr (Sum.inl ()))
def P_place_Check (cells0 : Int) (l_1 : List T_place_Pull) : Option Int :=
 if cells0 < 0 then
  some (2 : Int)
 else
  lv ((decide (48 < cells0)) || (decide (1000 < (l_1.length : Int)))) fun x20 =>
  if x20 = true then
   some (3 : Int)
  else
   bs (
    lp (P_place_Check_L6 cells0 l_1) fuel 0) (fun y => some y) fun _ =>
   some (0 : Int)
theorem c_place_Check {w0 w : World} {l : List Assn} {ρ : Heap} {q6 : Option Addr} {q18 : Nat} {c_l_1 : Nat} {cells0 : Int} {l_1 : List T_place_Pull} {r : Int} (hF : P_place_Check cells0 l_1 = some r) (q11 : RdS R_place_Pull ρ q6 q18 c_l_1 l_1) (hS : St w0 w (ro ρ :: l)) :
  Calls Try.prog 21 #[.int .i64 cells0, .slice q6 q18 c_l_1] w fun e w' => e = .returned (.int .i64 r) ∧ St w0 w' (ro ρ :: l) := by
 have e_ := q11.n; subst e_
 refine enterC Try.func21 rfl 82 rfl (by simp) ?_
 refine x_seq <| x_region <| p (yl_assign rfl) <| x_done <|
  x_seq <| x_seq <| x_region <| p (yl_move rfl) <|
  p (yl_lss rfl rfl) <| x_done <|
  x_cond_p (cells0 < 0) rfl (fun hc13 => ?_) (fun hc13 => ?_)
 ·replace hF := it_t hc13 hF
  refine x_seq <| x_region <| p (yl_assign rfl) <| x_done <| ?_
  have e_ := sinj hF; subst e_
  exact x_return ⟨_, ⟨_, _, rfl, rfl, rfl⟩, rfl, hS⟩
 ·replace hF := it_f hc13 hF
  replace hF := lv_s hF; obtain ⟨x20, hx20, hF⟩ := hF
  refine x_skip <| x_seq <| x_seq <| x_region <|
   p (yl_move rfl) <| p (yl_gtr rfl rfl) <| p (yl_move rfl) <| pg (v := .slice q6 l_1.length c_l_1) 16 (c := !(decide (48 < cells0))) (says_f _) (fun hq => Yl.at (yl_move rfl)) <|
   pg (v := .int .i64 (l_1.length : Int)) 16 (c := !(decide (48 < cells0))) (says_f _) (fun hq => Yl.at (yl_len_slice usl_27 (cv hq))) <| pg (v := .bool (decide (1000 < (l_1.length : Int)))) 16 (c := !(decide (48 < cells0))) (says_f _) (fun hq => Yl.at (yl_gtr (cv hq) rfl)) <| p (yor' rfl rfl (fun hc => (cv (t_not hc))) hx20) <| x_done <|
   x_cond (t := x20) rfl (fun hc20 => ?_) (fun hc20 => ?_)
  ·replace hF := it_t hc20 hF
   refine x_seq <| x_region <| p (yl_assign rfl) <| x_done <| ?_
   have e_ := sinj hF; subst e_
   exact x_return ⟨_, ⟨_, _, rfl, rfl, rfl⟩, rfl, hS⟩
  ·replace hF := it_bf hc20 hF
   refine x_skip <| x_seq <| x_seq <| x_region <|
    p (yl_move rfl) <| p (yl_len_slice usl_27 rfl) <| p (yl_move rfl) <| x_done <| ?_
   replace hF := bs_s hF; obtain ⟨oL6, hLL6, hF⟩ := hF
   refine x_join (fun E w => (Sum.inl (())) = oL6 ∧ St w0 w (ro ρ :: l)) ?_ ?_
   ·refine x_block ?_
    refine x_loop (fun k_ E w => ∃ (q3 : Int), lp (P_place_Check_L6 cells0 l_1) k_ q3 = some oL6 ∧ E 0 = .int .i64 cells0 ∧ E 21 = .slice q6 l_1.length c_l_1 ∧ E 22 = .int .i64 (l_1.length : Int) ∧ E 23 = .int .i64 q3 ∧ St w0 w (ro ρ :: l)) fuel ⟨0, hLL6, rfl, rfl, rfl, rfl, hS⟩ ?_
    rintro kL6 E w ⟨q3, hLL6, q12, q0x, q0y, q0i, hS⟩
    replace hLL6 := lp_s hLL6; obtain ⟨kL6, obL6, rfl, hFL6, hLL6⟩ := hLL6
    refine x_seq <| x_region <| p (yl_lss q0i q0y) <| x_done <|
     x_seq <|
     x_cond_p (q3 < (l_1.length : Int)) rfl (fun hc24 => ?_) (fun hc24 => ?_)
    ·replace hFL6 := it_t hc24 hFL6
     replace hFL6 := ck_s hFL6; obtain ⟨q19, hFL6⟩ := hFL6
     replace hFL6 := lv_s hFL6; obtain ⟨q2, q1s, hFL6⟩ := hFL6
     have q_ := q11.get q19; obtain ⟨q1z, q1a, q1t⟩ := q_
     rw [← q1s] at q1a
     obtain ⟨q0c, q1w, q0d, q7, q1x, q8, rfl, q0l, q0m⟩ := q1a
     have e_ := q0l.n; subst e_
     have e_ := q0m.n; subst e_
     refine x_skip <| x_seq <| x_block <| x_seq <|
      x_region <| p (yix_f sl_27 q0x q0i q11 q19) <| pa (v := .agg #[.int .i64 q2.Weight, .slice q0c q2.Cells.length q0d, .slice q7 q2.At.length q8]) (at_loadAgg agg_36 rfl rfl (Elt.every q1t hS)) <| ?_
     refine o_alloc zero_36 hS (fun b6 w' hS => ?_)
     refine o_storeAgg (news := [.int .i64 q2.Weight, .slice q0c q2.Cells.length q0d, .slice q7 q2.At.length q8]) agg_36 rfl rfl rfl (by simp [over_length]) hS (fun w' hS => ?_)
     replace hFL6 := lv_s hFL6; obtain ⟨x34, hx34, hFL6⟩ := hFL6
     refine x_done <| x_seq <| x_seq <| x_region <|
      p (yl_field0 fld_36_0 rfl) <| pa (at_load one_3 rfl (hS.cell rfl)) <| p (yl_lss rfl rfl) <| p (yl_move rfl) <|
      pg (v := .pointer (some ⟨b6, 0, none⟩)) 30 (c := !(decide (q2.Weight < 1))) (says_f _) (fun hq => Yl.at (yl_field0 fld_36_0 rfl)) <| pg (v := .int .i64 q2.Weight) 30 (c := !(decide (q2.Weight < 1))) (says_f _) (fun hq => at_load one_3 (cv hq) (hS.cell rfl)) <| pg (v := .bool (decide (16 < q2.Weight))) 30 (c := !(decide (q2.Weight < 1))) (says_f _) (fun hq => Yl.at (yl_gtr (cv hq) rfl)) <| p (yor' rfl rfl (fun hc => (cv (t_not hc))) hx34) <|
      x_done <|
      x_cond (t := x34) rfl (fun hc34 => ?_) (fun hc34 => ?_)
     ·replace hFL6 := it_t hc34 hFL6
      refine x_seq <| x_region <| p (yl_assign rfl) <| x_done <| ?_
      have e_ := sinj hFL6; subst e_
      have e_ := (show _ = oL6 from hLL6); subst e_
      have e_ := sinj hF; subst e_
      exact x_return ⟨_, ⟨_, _, rfl, rfl, rfl⟩, rfl, hS.drop⟩
     ·replace hFL6 := it_bf hc34 hFL6
      replace hFL6 := lv_s hFL6; obtain ⟨x44, hx44, hFL6⟩ := hFL6
      refine x_skip <| x_seq <| x_seq <| x_region <|
       p (yl_field0 fld_36_1 rfl) <| pa (at_load one_22 rfl (hS.cell rfl)) <| p (yl_len_slice usl_22 rfl) <| p (yl_gtr rfl rfl) <|
       p (yl_move rfl) <| pg (v := .pointer (some ⟨b6, 2, none⟩)) 39 (c := !(decide (500 < (q2.Cells.length : Int)))) (says_f _) (fun hq => Yl.at (yl_field0 fld_36_2 rfl)) <| pg (v := .slice q7 q2.At.length q8) 39 (c := !(decide (500 < (q2.Cells.length : Int)))) (says_f _) (fun hq => at_load one_34 (cv hq) (hS.cell rfl)) <| pg (v := .int .i64 (q2.At.length : Int)) 39 (c := !(decide (500 < (q2.Cells.length : Int)))) (says_f _) (fun hq => Yl.at (yl_len_slice usl_34 (cv hq))) <|
       pg (v := .bool (decide (500 < (q2.At.length : Int)))) 39 (c := !(decide (500 < (q2.Cells.length : Int)))) (says_f _) (fun hq => Yl.at (yl_gtr (cv hq) rfl)) <| p (yor' rfl rfl (fun hc => (cv (t_not hc))) hx44) <| x_done <|
       x_cond (t := x44) rfl (fun hc44 => ?_) (fun hc44 => ?_)
      ·replace hFL6 := it_t hc44 hFL6
       refine x_seq <| x_region <| p (yl_assign rfl) <| x_done <| ?_
       have e_ := sinj hFL6; subst e_
       have e_ := (show _ = oL6 from hLL6); subst e_
       have e_ := sinj hF; subst e_
       exact x_return ⟨_, ⟨_, _, rfl, rfl, rfl⟩, rfl, hS.drop⟩
      ·replace hFL6 := it_bf hc44 hFL6
       refine x_skip <| x_seq <| x_region <| p (yl_move q12) <| ?_
       replace hFL6 := ck_s hFL6; obtain ⟨q1h, hFL6⟩ := hFL6
       replace hFL6 := lv_s hFL6; obtain ⟨q0e, q1i, hFL6⟩ := hFL6
       refine o_mk sl_79 zero_4 (show RpB.ok ρ _ false from rfl) rfl rfl q1h (by decide) q1i hS (fun A46 cs46 w' hr46 hS => ?_)
       refine p (yl_assign rfl) <| x_done <| x_seq <| x_seq <|
        x_region <| p (yl_field0 fld_36_1 rfl) <| pa (at_load one_22 rfl ((hS.pull 1).cell rfl)) <| p (yl_len_slice usl_22 rfl) <|
        p (yl_move rfl) <| x_done <| ?_
       replace hFL6 := bs_s hFL6; obtain ⟨oL14, hLL14, hFL6⟩ := hFL6
       refine x_join (fun E w => (Sum.inl (())) = oL14 ∧ E 0 = .int .i64 cells0 ∧ E 6 = .pointer (some ⟨b6, 0, none⟩) ∧ E 21 = .slice q6 l_1.length c_l_1 ∧ E 22 = .int .i64 (l_1.length : Int) ∧ E 23 = .int .i64 q3 ∧ St w0 w (cells b6 36 [.int .i64 q2.Weight, .slice q0c q2.Cells.length q0d, .slice q7 q2.At.length q8] :: ro ρ :: l)) ?_ ?_
       ·refine x_block ?_
        refine x_loop (fun k_ E w => ∃ (q5 : List Value) (q9 : List Bool) (q0a : Int), lp (P_place_Check_L14 cells0 q2) k_ (q9, q0a) = some oL14 ∧ E 0 = .int .i64 cells0 ∧ E 6 = .pointer (some ⟨b6, 0, none⟩) ∧ E 7 = .slice A46 q0e.length q0e.length ∧ E 21 = .slice q6 l_1.length c_l_1 ∧ E 22 = .int .i64 (l_1.length : Int) ∧ E 23 = .int .i64 q3 ∧ E 48 = .slice q0c q2.Cells.length q0d ∧ E 49 = .int .i64 (q2.Cells.length : Int) ∧ E 50 = .int .i64 q0a ∧ RepL RpB ρ q9 q5 ∧ St w0 w (cells b6 36 [.int .i64 q2.Weight, .slice q0c q2.Cells.length q0d, .slice q7 q2.At.length q8] :: vec 4 RpB.sz (.slice A46 q0e.length q0e.length) q0e.length q5 :: ro ρ :: l)) fuel ⟨cs46, q0e, 0, hLL14, q12, rfl, rfl, q0x, q0y, q0i, rfl, rfl, rfl, hr46, (((hS.pull 2).pull 1).pull 2)⟩ ?_
        rintro kL14 E w ⟨q5, q9, q0a, hLL14, q0j, q0z, q0k, q0n, q0o, q0p, q0q, q0r, q0g, q4, hS⟩
        replace hLL14 := lp_s hLL14; obtain ⟨kL14, obL14, rfl, hFL14, hLL14⟩ := hLL14
        refine x_seq <| x_region <| p (yl_lss q0g q0r) <| x_done <|
         x_seq <|
         x_cond_p (q0a < (q2.Cells.length : Int)) rfl (fun hc51 => ?_) (fun hc51 => ?_)
        ·replace hFL14 := it_t hc51 hFL14
         replace hFL14 := ck_s hFL14; obtain ⟨q13, hFL14⟩ := hFL14
         replace hFL14 := lv_s hFL14; obtain ⟨x53, hx53, hFL14⟩ := hFL14
         replace hFL14 := lv_s hFL14; obtain ⟨x61, hx61, hFL14⟩ := hFL14
         refine x_skip <| x_seq <| x_block <| x_seq <|
          x_region <| p (yix_f sl_22 q0q q0g q0l q13) <| pa (at_load one_3 rfl (RdS.getW q0l (hS.pull 2) q13 hx53)) <| p (yl_assign rfl) <|
          x_done <| x_seq <| x_block <| x_seq <|
          x_region <| p (yl_move rfl) <| p (yl_lss rfl rfl) <| p (yl_move rfl) <|
          pg (v := .int .i64 x53) 57 (c := !(decide (x53 < 0))) (says_f _) (fun hq => Yl.at (yl_move rfl)) <| pg (v := .int .i64 cells0) 57 (c := !(decide (x53 < 0))) (says_f _) (fun hq => Yl.at (yl_move q0j)) <| pg (v := .bool (decide (cells0 ≤ x53))) 57 (c := !(decide (x53 < 0))) (says_f _) (fun hq => Yl.at (yl_geq (cv hq) (cv hq))) <| p (yor' rfl rfl (fun hc => (cv (t_not hc))) hx61) <|
          p (yl_assign rfl) <| x_done <|
          x_cond (t := x61) rfl (fun hc54 => ?_) (fun hc54 => ?_)
         ·replace hFL14 := it_t hc54 hFL14
          refine x_seq <| x_region <| p (yl_assign rfl) <| x_done <| ?_
          have e_ := sinj hFL14; subst e_
          have e_ := (show _ = oL14 from hLL14); subst e_
          have e_ := sinj hFL6; subst e_
          have e_ := (show _ = oL6 from hLL6); subst e_
          have e_ := sinj hF; subst e_
          exact x_return ⟨_, ⟨_, _, rfl, rfl, rfl⟩, rfl, hS.drop.drop⟩
         ·replace hFL14 := it_bf hc54 hFL14
          replace hFL14 := ck_s hFL14; obtain ⟨q14, hFL14⟩ := hFL14
          replace hFL14 := lv_s hFL14; obtain ⟨x66, hx66, hFL14⟩ := hFL14
          refine x_seq <| x_region <| p (yl_move q0k) <| p (yl_move rfl) <|
           p (yix_o sl_79 rfl rfl (hS.pull 1) q4 q14) <| pa (at_load one_4 rfl (RepL.getW q4 (hS.pull 1) q14 hx66)) <| p (yl_assign rfl) <| x_done <|
           x_cond (t := x66) rfl (fun hc62 => ?_) (fun hc62 => ?_)
          ·replace hFL14 := it_t hc62 hFL14
           refine x_seq <| x_region <| p (yl_assign rfl) <| x_done <| ?_
           have e_ := sinj hFL14; subst e_
           have e_ := (show _ = oL14 from hLL14); subst e_
           have e_ := sinj hFL6; subst e_
           have e_ := (show _ = oL6 from hLL6); subst e_
           have e_ := sinj hF; subst e_
           exact x_return ⟨_, ⟨_, _, rfl, rfl, rfl⟩, rfl, hS.drop.drop⟩
          ·replace hFL14 := it_bf hc62 hFL14
           replace hFL14 := ck_s hFL14; obtain ⟨q15, hFL14⟩ := hFL14
           refine x_skip <| x_blk <| x_region <| p (yl_move q0k) <|
            p (yl_move rfl) <| p (yix_o sl_79 rfl rfl (hS.pull 1) q4 q15) <| ?_
           replace hFL14 := lv_s hFL14; obtain ⟨q1u, q1j, hFL14⟩ := hFL14
           refine o_put' (news := [.bool true]) sz_4 rfl rfl rfl rfl (o := 0) rfl q15 rfl (hS.pull 1) q4 (Le.refl _) (fun c hc => ok_all hc (show RpB.ok ρ [.bool true] true from rfl)) q1j (fun q1k w' q1l hS => ?_)
           replace hFL14 := ar_s hFL14; obtain ⟨x70, hx70, hFL14⟩ := hFL14
           refine x_done <| x_blk <| x_region <| p (yadd q0g rfl hx70) <|
            p (yl_move rfl) <| x_done <| ?_
           have e_ := sinj hFL14; subst e_
           exact x_inv ⟨kL14, Nat.lt_succ_self _, q1k, q1u, x70, hLL14, q0j, q0z, q0k, q0n, q0o, q0p, q0q, q0r, rfl, q1l, (((hS.pull 2).pull 1).pull 2)⟩
        ·replace hFL14 := it_f hc51 hFL14
         refine x_exitTo _ rfl <| ?_
         have e_ := sinj hFL14; subst e_
         exact x_inv ⟨hLL14, q0j, q0z, q0n, q0o, q0p, (((hS.pull 1).drop.pull 1).pull 1)⟩
       rintro E w ⟨rfl, q1m, q1n, q1b, q1c, q1d, hS⟩
       refine x_seq <| x_region <| p (yl_field0 fld_36_2 q1n) <| pa (at_load one_34 rfl (hS.cell rfl)) <|
        p (yl_len_slice usl_34 rfl) <| p (yl_move rfl) <| x_done <| ?_
       replace hFL6 := bs_s hFL6; obtain ⟨oL23, hLL23, hFL6⟩ := hFL6
       refine x_join (fun E w => (Sum.inl (())) = oL23 ∧ E 0 = .int .i64 cells0 ∧ E 21 = .slice q6 l_1.length c_l_1 ∧ E 22 = .int .i64 (l_1.length : Int) ∧ E 23 = .int .i64 q3 ∧ St w0 w (ro ρ :: l)) ?_ ?_
       ·refine x_block ?_
        refine x_loop (fun k_ E w => ∃ (q0b : Int), lp (P_place_Check_L23 q2) k_ q0b = some oL23 ∧ E 0 = .int .i64 cells0 ∧ E 21 = .slice q6 l_1.length c_l_1 ∧ E 22 = .int .i64 (l_1.length : Int) ∧ E 23 = .int .i64 q3 ∧ E 72 = .slice q7 q2.At.length q8 ∧ E 73 = .int .i64 (q2.At.length : Int) ∧ E 74 = .int .i64 q0b ∧ St w0 w (ro ρ :: l)) fuel ⟨0, hLL23, q1m, q1b, q1c, q1d, rfl, rfl, rfl, hS.drop⟩ ?_
        rintro kL23 E w ⟨q0b, hLL23, q10, q0s, q0t, q0u, q0v, q0w, q0h, hS⟩
        replace hLL23 := lp_s hLL23; obtain ⟨kL23, obL23, rfl, hFL23, hLL23⟩ := hLL23
        refine x_seq <| x_region <| p (yl_lss q0h q0w) <| x_done <|
         x_seq <|
         x_cond_p (q0b < (q2.At.length : Int)) rfl (fun hc75 => ?_) (fun hc75 => ?_)
        ·replace hFL23 := it_t hc75 hFL23
         replace hFL23 := ck_s hFL23; obtain ⟨q16, hFL23⟩ := hFL23
         replace hFL23 := lv_s hFL23; obtain ⟨q0f, q1o, hFL23⟩ := hFL23
         have q_ := q0m.get q16; obtain ⟨q1y, q17, q1p⟩ := q_
         rw [← q1o] at q17
         have e_ := q17; subst e_
         refine x_skip <| x_seq <| x_block <| x_seq <|
          x_region <| p (yix_f sl_34 q0v q0h q0m q16) <| pa (v := .agg #[.int .i64 q0f.X, .int .i64 q0f.Y]) (at_loadAgg agg_38 rfl rfl (Elt.every q1p hS)) <| ?_
         refine o_alloc zero_38 hS (fun b11 w' hS => ?_)
         refine o_storeAgg (news := [.int .i64 q0f.X, .int .i64 q0f.Y]) agg_38 rfl rfl rfl (by simp [over_length]) hS (fun w' hS => ?_)
         replace hFL23 := bd_s hFL23; obtain ⟨q1v, q1q, hFL23⟩ := hFL23
         refine x_done <| x_seq <| x_region <| pa (v := .agg #[.int .i64 q0f.X, .int .i64 q0f.Y]) (ld_sub agg_38 rfl rfl rfl hS) <| ?_
         have hcall := c_place_far q1q  (hS.pull 1)
         refine o_cc call_38 (args1 rfl) ((Calls.mono hcall (fun e w'' h => And.intro h.1 (h.2.pull 1)))) ?_
         rintro e w' ⟨rfl, hS⟩
         refine ⟨_, rfl, ?_⟩
         refine x_done <|
          x_cond (t := q1v) rfl (fun hc79 => ?_) (fun hc79 => ?_)
         ·replace hFL23 := it_t hc79 hFL23
          refine x_seq <| x_region <| p (yl_assign rfl) <| x_done <| ?_
          have e_ := sinj hFL23; subst e_
          have e_ := (show _ = oL23 from hLL23); subst e_
          have e_ := sinj hFL6; subst e_
          have e_ := (show _ = oL6 from hLL6); subst e_
          have e_ := sinj hF; subst e_
          exact x_return ⟨_, ⟨_, _, rfl, rfl, rfl⟩, rfl, hS.drop⟩
         ·replace hFL23 := it_bf hc79 hFL23
          replace hFL23 := ar_s hFL23; obtain ⟨x80, hx80, hFL23⟩ := hFL23
          refine x_skip <| x_blk <| x_region <| p (yadd q0h rfl hx80) <|
           p (yl_move rfl) <| x_done <| ?_
          have e_ := sinj hFL23; subst e_
          exact x_inv ⟨kL23, Nat.lt_succ_self _, x80, hLL23, q10, q0s, q0t, q0u, q0v, q0w, rfl, hS.drop⟩
        ·replace hFL23 := it_f hc75 hFL23
         refine x_exitTo _ rfl <| ?_
         have e_ := sinj hFL23; subst e_
         exact x_inv ⟨hLL23, q10, q0s, q0t, q0u, hS⟩
       rintro E w ⟨rfl, q1r, q1e, q1f, q1g, hS⟩
       replace hFL6 := ar_s hFL6; obtain ⟨x81, hx81, hFL6⟩ := hFL6
       refine x_blk <| x_region <| p (yadd q1g rfl hx81) <| p (yl_move rfl) <|
        x_done <| ?_
       have e_ := sinj hFL6; subst e_
       exact x_inv ⟨kL6, Nat.lt_succ_self _, x81, hLL6, q1r, q1e, q1f, rfl, hS⟩
    ·replace hFL6 := it_f hc24 hFL6
     refine x_exitTo _ rfl <| ?_
     have e_ := sinj hFL6; subst e_
     exact x_inv ⟨hLL6, hS⟩
   rintro E w ⟨rfl, hS⟩
   refine x_seq <| x_region <| p (yl_assign rfl) <| x_done <| ?_
   have e_ := sinj hF; subst e_
   exact x_return ⟨_, ⟨_, _, rfl, rfl, rfl⟩, rfl, hS⟩
attribute [irreducible] P_place_Check

def P_place_held_L10 (q5 : T_place_Pull) (q4 : List Bool) : (Bool × Int) → Option ((Bool × Int) ⊕ Bool) := fun (q2, q3) =>
 if q3 < (q5.Cells.length : Int) then
  ck (inb q3 q5.Cells.length) <|
  lv (gt q5.Cells q3) fun x35 =>
  ck ((!q2) = true → inb x35 q4.length) <|
  lv (gt q4 x35) fun x41 =>
  lv (q2 || x41) fun x42 =>
  ar (q3 + 1) fun x43 =>
  some (Sum.inl (x42, x43))
 else
  some (Sum.inr q2)
def P_place_held_L15 (q8 : T_place_Pull) (q4 : Bool) : (List Bool × Bool × Int) → Option ((List Bool × Bool × Int) ⊕ (List Bool × Bool)) := fun (q2, q5, q3) =>
 if q3 < (q8.Cells.length : Int) then
  ck (inb q3 q8.Cells.length) <|
  lv (gt q8.Cells q3) fun x50 =>
  ck (q4 = true → inb x50 q2.length) <|
  lv (gt q2 x50) fun x56 =>
  lv (q4 && (!x56)) fun x58 =>
  bd (
   if x58 = true then
    ck (inb x50 q2.length) <|
    lv (stt q2 x50 true) fun q9 =>
    some (q9, true)
   else
    some (q2, q5)) fun (q6, q7) =>
  ar (q3 + 1) fun x62 =>
  some (Sum.inl (q6, q7, x62))
 else
  some (Sum.inr (q2, q5))
def P_place_held_L6 (l_1 : List T_place_Pull) : (List Bool × Bool × Int) → Option ((List Bool × Bool × Int) ⊕ (List Bool × Bool)) := fun (q2, q4, q3) =>
 if q3 < (l_1.length : Int) then
  ck (inb q3 l_1.length) <|
  lv (gt l_1 q3) fun q8 =>
  bd (
   lp (P_place_held_L10 q8 q2) fuel (decide (0 < (q8.At.length : Int)), 0)) fun q5 =>
  bd (
   lp (P_place_held_L15 q8 q5) fuel (q2, q4, 0)) fun (q6, q7) =>
  ar (q3 + 1) fun x63 =>
  some (Sum.inl (q6, q7, x63))
 else
  some (Sum.inr (q2, q4))
def P_place_held_L3 (l_1 : List T_place_Pull) : (List Bool × Bool) → Option ((List Bool × Bool) ⊕ List Bool) := fun (q2, q3) =>
 if q3 = true then
  bd (
   lp (P_place_held_L6 l_1) fuel (q2, false, 0)) fun (q4, q5) =>
  some (Sum.inl (q4, q5))
 else
  some (Sum.inr q2)
def P_place_held_L22 (q4 : List Bool) (q3 : List Bool) : Int → Option (Int ⊕ (Unit ⊕ Bool)) := fun q2 =>
 if q2 < (q4.length : Int) then
  ck (inb q2 q3.length) <|
  lv (gt q3 q2) fun x69 =>
  if (!x69) = true then
   some (Sum.inr (Sum.inr false))
  else
   ar (q2 + 1) fun x72 =>
   some (Sum.inl x72)
 else
  some (Sum.inr (Sum.inl ()))
def P_place_held (cells0 : Int) (l_1 : List T_place_Pull) : Option Bool :=
 ck (mkOk 1 cells0) <|
 lv ((List.replicate (cells0 : Int).toNat false : List Bool)) fun q3 =>
 bd (
  lp (P_place_held_L3 l_1) fuel (q3, true)) fun q2 =>
 bs (
  lp (P_place_held_L22 q3 q2) fuel 0) (fun y => some y) fun _ =>
 some true
theorem c_place_held {w0 w : World} {l : List Assn} {ρ : Heap} {q8 : Option Addr} {q2a : Nat} {c_l_1 : Nat} {cells0 : Int} {l_1 : List T_place_Pull} {r : Bool} (hF : P_place_held cells0 l_1 = some r) (q1y : RdS R_place_Pull ρ q8 q2a c_l_1 l_1) (hS : St w0 w (ro ρ :: l)) :
  Calls Try.prog 22 #[.int .i64 cells0, .slice q8 q2a c_l_1] w fun e w' => e = .returned (.bool r) ∧ St w0 w' (ro ρ :: l) := by
 have e_ := q1y.n; subst e_
 refine enterC Try.func22 rfl 73 rfl (by simp) ?_
 refine x_seq <| x_region <| p (yl_assign rfl) <| x_done <|
  x_seq <| x_region <| p (yl_move rfl) <| ?_
 replace hF := ck_s hF; obtain ⟨q36, hF⟩ := hF
 replace hF := lv_s hF; obtain ⟨q2, q37, hF⟩ := hF
 refine o_mk sl_79 zero_4 (show RpB.ok ρ _ false from rfl) rfl rfl q36 (by decide) q37 hS (fun A17 cs17 w' hr17 hS => ?_)
 refine p (yl_assign rfl) <| x_done <| x_seq <| x_seq <|
  x_region <| p (yl_assign rfl) <| x_done <| ?_
 replace hF := bd_s hF; obtain ⟨oL3, hLL3, hF⟩ := hF
 refine x_join (fun E w => ∃ (q0h : List Value) (q0r : List Bool), q0r = oL3 ∧ E 5 = .slice A17 q2.length q2.length ∧ RepL RpB ρ q0r q0h ∧ St w0 w (vec 4 RpB.sz (.slice A17 q2.length q2.length) q2.length q0h :: ro ρ :: l)) ?_ ?_
 ·refine x_block ?_
  refine x_loop (fun k_ E w => ∃ (q0a : List Value) (q0i : List Bool) (q0s : Bool), lp (P_place_held_L3 l_1) k_ (q0i, q0s) = some oL3 ∧ E 1 = .slice q8 l_1.length c_l_1 ∧ E 5 = .slice A17 q2.length q2.length ∧ E 6 = .bool q0s ∧ RepL RpB ρ q0i q0a ∧ St w0 w (vec 4 RpB.sz (.slice A17 q2.length q2.length) q2.length q0a :: ro ρ :: l)) fuel ⟨cs17, q2, true, hLL3, rfl, rfl, rfl, hr17, ((hS.pull 1).pull 1)⟩ ?_
  rintro kL3 E w ⟨q0a, q0i, q0s, hLL3, q1z, q20, q2p, q11, hS⟩
  replace hLL3 := lp_s hLL3; obtain ⟨kL3, obL3, rfl, hFL3, hLL3⟩ := hLL3
  refine x_seq <| x_seq <| x_region <| p (yl_move q2p) <|
   x_done <|
   x_cond (t := q0s) rfl (fun hc18 => ?_) (fun hc18 => ?_)
  ·replace hFL3 := it_t hc18 hFL3
   refine x_skip <| x_block <| x_seq <| x_region <|
    p (yl_assign rfl) <| x_done <| x_seq <| x_region <|
    p (yl_move q1z) <| p (yl_len_slice usl_27 rfl) <| p (yl_move rfl) <| x_done <| ?_
   replace hFL3 := bd_s hFL3; obtain ⟨oL6, hLL6, hFL3⟩ := hFL3
   refine x_join (fun E w => ∃ (q0j : List Value) (q0t : List Bool) (q0x : Bool), (q0t, q0x) = oL6 ∧ E 1 = .slice q8 l_1.length c_l_1 ∧ E 5 = .slice A17 q2.length q2.length ∧ E 6 = .bool q0x ∧ RepL RpB ρ q0t q0j ∧ St w0 w (vec 4 RpB.sz (.slice A17 q2.length q2.length) q2.length q0j :: ro ρ :: l)) ?_ ?_
   ·refine x_block ?_
    refine x_loop (fun k_ E w => ∃ (q4 : List Value) (q0c : List Bool) (q0b : Bool) (q0d : Int), lp (P_place_held_L6 l_1) k_ (q0c, q0b, q0d) = some oL6 ∧ E 1 = .slice q8 l_1.length c_l_1 ∧ E 5 = .slice A17 q2.length q2.length ∧ E 6 = .bool q0b ∧ E 19 = .slice q8 l_1.length c_l_1 ∧ E 20 = .int .i64 (l_1.length : Int) ∧ E 21 = .int .i64 q0d ∧ RepL RpB ρ q0c q4 ∧ St w0 w (vec 4 RpB.sz (.slice A17 q2.length q2.length) q2.length q4 :: ro ρ :: l)) fuel ⟨q0a, q0i, false, 0, hLL6, q1z, q20, rfl, rfl, rfl, rfl, q11, ((hS.pull 1).pull 1)⟩ ?_
    rintro kL6 E w ⟨q4, q0c, q0b, q0d, hLL6, q21, q22, q23, q1r, q1s, q1d, q0k, hS⟩
    replace hLL6 := lp_s hLL6; obtain ⟨kL6, obL6, rfl, hFL6, hLL6⟩ := hLL6
    refine x_seq <| x_region <| p (yl_lss q1d q1s) <| x_done <|
     x_seq <|
     x_cond_p (q0d < (l_1.length : Int)) rfl (fun hc22 => ?_) (fun hc22 => ?_)
    ·replace hFL6 := it_t hc22 hFL6
     replace hFL6 := ck_s hFL6; obtain ⟨q2b, hFL6⟩ := hFL6
     replace hFL6 := lv_s hFL6; obtain ⟨q6, q38, hFL6⟩ := hFL6
     have q_ := q1y.get q2b; obtain ⟨q3h, q2c, q39⟩ := q_
     rw [← q38] at q2c
     obtain ⟨q0o, q3f, q0p, q1b, q3g, q1c, rfl, q12, q2q⟩ := q2c
     have e_ := q12.n; subst e_
     have e_ := q2q.n; subst e_
     refine x_skip <| x_seq <| x_block <| x_seq <|
      x_region <| p (yix_f sl_27 q1r q1d q1y q2b) <| pa (v := .agg #[.int .i64 q6.Weight, .slice q0o q6.Cells.length q0p, .slice q1b q6.At.length q1c]) (at_loadAgg agg_36 rfl rfl (Elt.every q39 (hS.pull 1))) <| ?_
     refine o_alloc zero_36 hS (fun b8 w' hS => ?_)
     refine o_storeAgg (news := [.int .i64 q6.Weight, .slice q0o q6.Cells.length q0p, .slice q1b q6.At.length q1c]) agg_36 rfl rfl rfl (by simp [over_length]) hS (fun w' hS => ?_)
     refine x_done <| x_seq <| x_region <| p (yl_field0 fld_36_2 rfl) <|
      pa (at_load one_34 rfl (hS.cell rfl)) <| p (yl_len_slice usl_34 rfl) <| p (yl_gtr rfl rfl) <| p (yl_assign rfl) <|
      x_done <| x_seq <| x_seq <| x_region <|
      p (yl_field0 fld_36_1 rfl) <| pa (at_load one_22 rfl (hS.cell rfl)) <| p (yl_len_slice usl_22 rfl) <| p (yl_move rfl) <|
      x_done <| ?_
     replace hFL6 := bd_s hFL6; obtain ⟨oL10, hLL10, hFL6⟩ := hFL6
     refine x_join (fun E w => ∃ (q3 : Bool), q3 = oL10 ∧ E 1 = .slice q8 l_1.length c_l_1 ∧ E 5 = .slice A17 q2.length q2.length ∧ E 6 = .bool q0b ∧ E 8 = .pointer (some ⟨b8, 0, none⟩) ∧ E 9 = .bool q3 ∧ E 19 = .slice q8 l_1.length c_l_1 ∧ E 20 = .int .i64 (l_1.length : Int) ∧ E 21 = .int .i64 q0d ∧ St w0 w (vec 4 RpB.sz (.slice A17 q2.length q2.length) q2.length q4 :: cells b8 36 [.int .i64 q6.Weight, .slice q0o q6.Cells.length q0p, .slice q1b q6.At.length q1c] :: ro ρ :: l)) ?_ ?_
     ·refine x_block ?_
      refine x_loop (fun k_ E w => ∃ (q5 : Bool) (q0y : Int), lp (P_place_held_L10 q6 q0c) k_ (q5, q0y) = some oL10 ∧ E 1 = .slice q8 l_1.length c_l_1 ∧ E 5 = .slice A17 q2.length q2.length ∧ E 6 = .bool q0b ∧ E 8 = .pointer (some ⟨b8, 0, none⟩) ∧ E 9 = .bool q5 ∧ E 19 = .slice q8 l_1.length c_l_1 ∧ E 20 = .int .i64 (l_1.length : Int) ∧ E 21 = .int .i64 q0d ∧ E 30 = .slice q0o q6.Cells.length q0p ∧ E 31 = .int .i64 (q6.Cells.length : Int) ∧ E 32 = .int .i64 q0y ∧ St w0 w (vec 4 RpB.sz (.slice A17 q2.length q2.length) q2.length q4 :: cells b8 36 [.int .i64 q6.Weight, .slice q0o q6.Cells.length q0p, .slice q1b q6.At.length q1c] :: ro ρ :: l)) fuel ⟨decide (0 < (q6.At.length : Int)), 0, hLL10, q21, q22, q23, rfl, rfl, q1r, q1s, q1d, rfl, rfl, rfl, (((hS.pull 2).pull 1).pull 2)⟩ ?_
      rintro kL10 E w ⟨q5, q0y, hLL10, q1t, q1e, q1u, q1v, q1w, q1h, q1i, q1j, q1k, q1l, q14, hS⟩
      replace hLL10 := lp_s hLL10; obtain ⟨kL10, obL10, rfl, hFL10, hLL10⟩ := hLL10
      refine x_seq <| x_region <| p (yl_lss q14 q1l) <| x_done <|
       x_seq <|
       x_cond_p (q0y < (q6.Cells.length : Int)) rfl (fun hc33 => ?_) (fun hc33 => ?_)
      ·replace hFL10 := it_t hc33 hFL10
       replace hFL10 := ck_s hFL10; obtain ⟨q24, hFL10⟩ := hFL10
       replace hFL10 := lv_s hFL10; obtain ⟨x35, hx35, hFL10⟩ := hFL10
       replace hFL10 := ck_s hFL10; obtain ⟨q25, hFL10⟩ := hFL10
       replace hFL10 := lv_s hFL10; obtain ⟨x41, hx41, hFL10⟩ := hFL10
       replace hFL10 := lv_s hFL10; obtain ⟨x42, hx42, hFL10⟩ := hFL10
       replace hFL10 := ar_s hFL10; obtain ⟨x43, hx43, hFL10⟩ := hFL10
       refine x_skip <| x_seq <| x_block <| x_seq <|
        x_region <| p (yix_f sl_22 q1k q14 q12 q24) <| pa (at_load one_3 rfl (RdS.getW q12 (hS.pull 2) q24 hx35)) <| p (yl_assign rfl) <|
        x_done <| x_region <| p (yl_move q1w) <| p (yl_move rfl) <|
        pg (v := .slice A17 q2.length q2.length) 37 (c := !q5) (says_f _) (fun hq => Yl.at (yl_move q1e)) <| pg (v := .int .i64 x35) 37 (c := !q5) (says_f _) (fun hq => Yl.at (yl_move rfl)) <| pg (v := .pointer (some ((adr A17).add (x35.toNat * RpB.sz)))) 37 (c := !q5) (says_f _) (fun hq => Yl.at (yix_o sl_79 (cv hq) (cv hq) hS q0k (q25 hq))) <| pg (v := .bool x41) 37 (c := !q5) (says_f _) (fun hq => at_load one_4 (cv hq) (RepL.getW q0k hS (q25 hq) hx41)) <|
        p (yor' rfl rfl (fun hc => (cv (t_not hc))) hx42) <| p (yl_assign rfl) <| x_done <| x_blk <|
        x_region <| p (yadd q14 rfl hx43) <| p (yl_move rfl) <| x_done <| ?_
       have e_ := sinj hFL10; subst e_
       exact x_inv ⟨kL10, Nat.lt_succ_self _, x42, x43, hLL10, q1t, q1e, q1u, q1v, rfl, q1h, q1i, q1j, q1k, q1l, rfl, (((hS.pull 2).pull 2).pull 2)⟩
      ·replace hFL10 := it_f hc33 hFL10
       refine x_exitTo _ rfl <| ?_
       have e_ := sinj hFL10; subst e_
       exact x_inv ⟨q5, hLL10, q1t, q1e, q1u, q1v, q1w, q1h, q1i, q1j, (((hS.pull 2).pull 2).pull 2)⟩
     rintro E w ⟨q3, rfl, q2r, q2s, q2t, q2u, q2v, q2d, q2e, q2f, hS⟩
     refine x_seq <| x_region <| p (yl_field0 fld_36_1 q2u) <| pa (at_load one_22 rfl ((hS.pull 1).cell rfl)) <|
      p (yl_len_slice usl_22 rfl) <| p (yl_move rfl) <| x_done <| ?_
     replace hFL6 := bd_s hFL6; obtain ⟨oL15, hLL15, hFL6⟩ := hFL6
     refine x_join (fun E w => ∃ (q0f : List Value) (q0m : List Bool) (q0u : Bool), (q0m, q0u) = oL15 ∧ E 1 = .slice q8 l_1.length c_l_1 ∧ E 5 = .slice A17 q2.length q2.length ∧ E 6 = .bool q0u ∧ E 19 = .slice q8 l_1.length c_l_1 ∧ E 20 = .int .i64 (l_1.length : Int) ∧ E 21 = .int .i64 q0d ∧ RepL RpB ρ q0m q0f ∧ St w0 w (vec 4 RpB.sz (.slice A17 q2.length q2.length) q2.length q0f :: ro ρ :: l)) ?_ ?_
     ·refine x_block ?_
      refine x_loop (fun k_ E w => ∃ (q9 : List Value) (q0e : List Bool) (q0l : Bool) (q0q : Int), lp (P_place_held_L15 q6 q3) k_ (q0e, q0l, q0q) = some oL15 ∧ E 1 = .slice q8 l_1.length c_l_1 ∧ E 5 = .slice A17 q2.length q2.length ∧ E 6 = .bool q0l ∧ E 9 = .bool q3 ∧ E 19 = .slice q8 l_1.length c_l_1 ∧ E 20 = .int .i64 (l_1.length : Int) ∧ E 21 = .int .i64 q0d ∧ E 45 = .slice q0o q6.Cells.length q0p ∧ E 46 = .int .i64 (q6.Cells.length : Int) ∧ E 47 = .int .i64 q0q ∧ RepL RpB ρ q0e q9 ∧ St w0 w (vec 4 RpB.sz (.slice A17 q2.length q2.length) q2.length q9 :: ro ρ :: l)) fuel ⟨q4, q0c, q0b, 0, hLL15, q2r, q2s, q2t, q2v, q2d, q2e, q2f, rfl, rfl, rfl, q0k, (((hS.pull 1).drop.pull 1).pull 1)⟩ ?_
      rintro kL15 E w ⟨q9, q0e, q0l, q0q, hLL15, q1f, q0w, q1x, q1g, q15, q16, q17, q18, q19, q0z, q7, hS⟩
      replace hLL15 := lp_s hLL15; obtain ⟨kL15, obL15, rfl, hFL15, hLL15⟩ := hLL15
      refine x_seq <| x_region <| p (yl_lss q0z q19) <| x_done <|
       x_seq <|
       x_cond_p (q0q < (q6.Cells.length : Int)) rfl (fun hc48 => ?_) (fun hc48 => ?_)
      ·replace hFL15 := it_t hc48 hFL15
       replace hFL15 := ck_s hFL15; obtain ⟨q26, hFL15⟩ := hFL15
       replace hFL15 := lv_s hFL15; obtain ⟨x50, hx50, hFL15⟩ := hFL15
       replace hFL15 := ck_s hFL15; obtain ⟨q27, hFL15⟩ := hFL15
       replace hFL15 := lv_s hFL15; obtain ⟨x56, hx56, hFL15⟩ := hFL15
       replace hFL15 := lv_s hFL15; obtain ⟨x58, hx58, hFL15⟩ := hFL15
       refine x_skip <| x_seq <| x_block <| x_seq <|
        x_region <| p (yix_f sl_22 q18 q0z q12 q26) <| pa (at_load one_3 rfl (RdS.getW q12 (hS.pull 1) q26 hx50)) <| p (yl_assign rfl) <|
        x_done <| x_seq <| x_region <| p (yl_move q1g) <|
        p (yl_move rfl) <| pg (v := .slice A17 q2.length q2.length) 52 (c := q3) (says_t _) (fun hq => Yl.at (yl_move q0w)) <| pg (v := .int .i64 x50) 52 (c := q3) (says_t _) (fun hq => Yl.at (yl_move rfl)) <| pg (v := .pointer (some ((adr A17).add (x50.toNat * RpB.sz)))) 52 (c := q3) (says_t _) (fun hq => Yl.at (yix_o sl_79 (cv hq) (cv hq) hS q7 (q27 hq))) <|
        pg (v := .bool x56) 52 (c := q3) (says_t _) (fun hq => at_load one_4 (cv hq) (RepL.getW q7 hS (q27 hq) hx56)) <| pg (v := .bool (!x56)) 52 (c := q3) (says_t _) (fun hq => Yl.at (yl_not (cv hq))) <| p (yand' rfl (fun hc => (cv hc)) rfl hx58) <| x_done <| ?_
       replace hFL15 := bd_s hFL15; obtain ⟨oc58, hFc58, hFL15⟩ := hFL15
       refine x_join (fun E w => ∃ (q0g : List Value) (q0n : List Bool) (q0v : Bool), (q0n, q0v) = oc58 ∧ E 1 = .slice q8 l_1.length c_l_1 ∧ E 5 = .slice A17 q2.length q2.length ∧ E 6 = .bool q0v ∧ E 9 = .bool q3 ∧ E 19 = .slice q8 l_1.length c_l_1 ∧ E 20 = .int .i64 (l_1.length : Int) ∧ E 21 = .int .i64 q0d ∧ E 45 = .slice q0o q6.Cells.length q0p ∧ E 46 = .int .i64 (q6.Cells.length : Int) ∧ E 47 = .int .i64 q0q ∧ RepL RpB ρ q0n q0g ∧ St w0 w (vec 4 RpB.sz (.slice A17 q2.length q2.length) q2.length q0g :: ro ρ :: l)) ?_ ?_
       ·refine x_cond (t := x58) rfl (fun hc58 => ?_) (fun hc58 => ?_)
        ·replace hFc58 := it_t hc58 hFc58
         replace hFc58 := ck_s hFc58; obtain ⟨q28, hFc58⟩ := hFc58
         refine x_region <| p (yl_move q0w) <| p (yl_move rfl) <| p (yix_o sl_79 rfl rfl hS q7 q28) <| ?_
         replace hFc58 := lv_s hFc58; obtain ⟨q3a, q2w, hFc58⟩ := hFc58
         refine o_put' (news := [.bool true]) sz_4 rfl rfl rfl rfl (o := 0) rfl q28 rfl hS q7 (Le.refl _) (fun c hc => ok_all hc (show RpB.ok ρ [.bool true] true from rfl)) q2w (fun q2x w' q2y hS => ?_)
         refine p (yl_assign rfl) <| x_done <| ?_
         exact x_inv ⟨q2x, q3a, true, (sinj hFc58), q1f, q0w, rfl, q1g, q15, q16, q17, q18, q19, q0z, q2y, ((hS.pull 1).pull 1)⟩
        ·replace hFc58 := it_bf hc58 hFc58
         refine x_skip <| ?_
         exact x_inv ⟨q9, q0e, q0l, (sinj hFc58), q1f, q0w, q1x, q1g, q15, q16, q17, q18, q19, q0z, q7, ((hS.pull 1).pull 1)⟩
       rintro E w ⟨q0g, q0n, q0v, rfl, q2z, q30, q31, q32, q2g, q2h, q2i, q2j, q2k, q2l, q1m, hS⟩
       replace hFL15 := ar_s hFL15; obtain ⟨x62, hx62, hFL15⟩ := hFL15
       refine x_blk <| x_region <| p (yadd q2l rfl hx62) <| p (yl_move rfl) <|
        x_done <| ?_
       have e_ := sinj hFL15; subst e_
       exact x_inv ⟨kL15, Nat.lt_succ_self _, q0g, q0n, q0v, x62, hLL15, q2z, q30, q31, q32, q2g, q2h, q2i, q2j, q2k, rfl, q1m, ((hS.pull 1).pull 1)⟩
      ·replace hFL15 := it_f hc48 hFL15
       refine x_exitTo _ rfl <| ?_
       have e_ := sinj hFL15; subst e_
       exact x_inv ⟨q9, q0e, q0l, hLL15, q1f, q0w, q1x, q15, q16, q17, q7, ((hS.pull 1).pull 1)⟩
     rintro E w ⟨q0f, q0m, q0u, rfl, q33, q34, q35, q2m, q2n, q2o, q1n, hS⟩
     replace hFL6 := ar_s hFL6; obtain ⟨x63, hx63, hFL6⟩ := hFL6
     refine x_blk <| x_region <| p (yadd q2o rfl hx63) <| p (yl_move rfl) <|
      x_done <| ?_
     have e_ := sinj hFL6; subst e_
     exact x_inv ⟨kL6, Nat.lt_succ_self _, q0f, q0m, q0u, x63, hLL6, q33, q34, q35, q2m, q2n, rfl, q1n, ((hS.pull 1).pull 1)⟩
    ·replace hFL6 := it_f hc22 hFL6
     refine x_exitTo _ rfl <| ?_
     have e_ := sinj hFL6; subst e_
     exact x_inv ⟨q4, q0c, q0b, hLL6, q21, q22, q23, q0k, ((hS.pull 1).pull 1)⟩
   rintro E w ⟨q0j, q0t, q0x, rfl, q3b, q3c, q3d, q1q, hS⟩
   refine x_blk <| ?_
   have e_ := sinj hFL3; subst e_
   exact x_inv ⟨kL3, Nat.lt_succ_self _, q0j, q0t, q0x, hLL3, q3b, q3c, q3d, q1q, ((hS.pull 1).pull 1)⟩
  ·replace hFL3 := it_bf hc18 hFL3
   refine x_exitTo _ rfl <| ?_
   have e_ := sinj hFL3; subst e_
   exact x_inv ⟨q0a, q0i, hLL3, q20, q11, ((hS.pull 1).pull 1)⟩
 rintro E w ⟨q0h, q0r, rfl, q3e, q13, hS⟩
 refine x_seq <| x_seq <| x_region <| p (yl_move q3e) <|
  p (yl_len_slice usl_79 rfl) <| p (yl_move rfl) <| x_done <| ?_
 replace hF := bs_s hF; obtain ⟨oL22, hLL22, hF⟩ := hF
 refine x_join (fun E w => (Sum.inl (())) = oL22 ∧ St w0 w (ro ρ :: l)) ?_ ?_
 ·refine x_block ?_
  refine x_loop (fun k_ E w => ∃ (q10 : Int), lp (P_place_held_L22 q2 q0r) k_ q10 = some oL22 ∧ E 64 = .slice A17 q2.length q2.length ∧ E 65 = .int .i64 (q2.length : Int) ∧ E 66 = .int .i64 q10 ∧ St w0 w (vec 4 RpB.sz (.slice A17 q2.length q2.length) q2.length q0h :: ro ρ :: l)) fuel ⟨0, hLL22, rfl, rfl, rfl, ((hS.pull 1).pull 1)⟩ ?_
  rintro kL22 E w ⟨q10, hLL22, q1o, q1p, q1a, hS⟩
  replace hLL22 := lp_s hLL22; obtain ⟨kL22, obL22, rfl, hFL22, hLL22⟩ := hLL22
  refine x_seq <| x_region <| p (yl_lss q1a q1p) <| x_done <|
   x_seq <|
   x_cond_p (q10 < (q2.length : Int)) rfl (fun hc67 => ?_) (fun hc67 => ?_)
  ·replace hFL22 := it_t hc67 hFL22
   replace hFL22 := ck_s hFL22; obtain ⟨q29, hFL22⟩ := hFL22
   replace hFL22 := lv_s hFL22; obtain ⟨x69, hx69, hFL22⟩ := hFL22
   refine x_skip <| x_seq <| x_block <| x_seq <|
    x_region <| p (yix_o sl_79 q1o q1a hS q13 q29) <| pa (at_load one_4 rfl (RepL.getW q13 hS q29 hx69)) <| p (yl_assign rfl) <|
    x_done <| x_seq <| x_region <| p (yl_move rfl) <|
    p (yl_not rfl) <| x_done <|
    x_cond (t := !x69) rfl (fun hc71 => ?_) (fun hc71 => ?_)
   ·replace hFL22 := it_t hc71 hFL22
    refine x_seq <| x_region <| p (yl_assign rfl) <| x_done <| ?_
    have e_ := sinj hFL22; subst e_
    have e_ := (show _ = oL22 from hLL22); subst e_
    have e_ := sinj hF; subst e_
    exact x_return ⟨_, ⟨_, _, rfl, rfl, rfl⟩, rfl, hS.drop⟩
   ·replace hFL22 := it_bf hc71 hFL22
    replace hFL22 := ar_s hFL22; obtain ⟨x72, hx72, hFL22⟩ := hFL22
    refine x_skip <| x_blk <| x_region <| p (yadd q1a rfl hx72) <|
     p (yl_move rfl) <| x_done <| ?_
    have e_ := sinj hFL22; subst e_
    exact x_inv ⟨kL22, Nat.lt_succ_self _, x72, hLL22, q1o, q1p, rfl, ((hS.pull 1).pull 1)⟩
  ·replace hFL22 := it_f hc67 hFL22
   refine x_exitTo _ rfl <| ?_
   have e_ := sinj hFL22; subst e_
   exact x_inv ⟨hLL22, hS.drop⟩
 rintro E w ⟨rfl, hS⟩
 refine x_seq <| x_region <| p (yl_assign rfl) <| x_done <| ?_
 have e_ := sinj hF; subst e_
 exact x_return ⟨_, ⟨_, _, rfl, rfl, rfl⟩, rfl, hS⟩
attribute [irreducible] P_place_held

def P_place_system_L3 (cells0 : Int) (q4 : List (List Int)) (q5 : List Int) : (List (List Int) × Int) → Option ((List (List Int) × Int) ⊕ List (List Int)) := fun (q3, q2) =>
 if q2 < (q4.length : Int) then
  ck (mkOk 8 cells0) <|
  ck (inb q2 q3.length) <|
  lv (gt q3 q2) fun q6 =>
  lv (stt q3 q2 q5) fun zr1 =>
  ar (q2 + 1) fun x33 =>
  some (Sum.inl (zr1, x33))
 else
  some (Sum.inr q3)
def P_place_system_L16 (q5 : T_place_Pull) (x48 : Int) : (List (List Int) × Int) → Option ((List (List Int) × Int) ⊕ List (List Int)) := fun (q2, q3) =>
 if q3 < (q5.Cells.length : Int) then
  ck (inb q3 q5.Cells.length) <|
  lv (gt q5.Cells q3) fun x74 =>
  bd (
   if x74 ≠ x48 then
    ck (inb x48 q2.length) <|
    lv (gt q2 x48) fun q4 =>
    ck (inb x74 q4.length) <|
    lv (gt q4 x74) fun x84 =>
    ar (x84 - q5.Weight) fun x86 =>
    ck (inb x74 q4.length) <|
    lv (stt q4 x74 x86) fun q6 =>
    lv (stt q2 x48 q6) fun zr6 =>
    some zr6
   else
    some q2) fun q7 =>
  ar (q3 + 1) fun x88 =>
  some (Sum.inl (q7, x88))
 else
  some (Sum.inr q2)
def P_place_system_L22 (q5 : T_place_Pull) (x48 : Int) : (List Int × List Int × Int) → Option ((List Int × List Int × Int) ⊕ (List Int × List Int)) := fun (q2, q3, q4) =>
 if q4 < (q5.At.length : Int) then
  ck (inb q4 q5.At.length) <|
  lv (gt q5.At q4) fun q6 =>
  ck (inb x48 q2.length) <|
  lv (gt q2 x48) fun x99 =>
  ar (q5.Weight * q6.X) fun x103 =>
  ar (x99 + x103) fun x104 =>
  ck (inb x48 q2.length) <|
  lv (stt q2 x48 x104) fun q7 =>
  ck (inb x48 q3.length) <|
  lv (gt q3 x48) fun x109 =>
  ar (q5.Weight * q6.Y) fun x113 =>
  ar (x109 + x113) fun x114 =>
  ck (inb x48 q3.length) <|
  lv (stt q3 x48 x114) fun q8 =>
  ar (q4 + 1) fun x116 =>
  some (Sum.inl (q7, q8, x116))
 else
  some (Sum.inr (q2, q3))
def P_place_system_L12 (q4 : T_place_Pull) : (List (List Int) × List Int × List Int × Int) → Option ((List (List Int) × List Int × List Int × Int) ⊕ (List (List Int) × List Int × List Int)) := fun (q2, q6, q7, q3) =>
 if q3 < (q4.Cells.length : Int) then
  ck (inb q3 q4.Cells.length) <|
  lv (gt q4.Cells q3) fun x48 =>
  ck (inb x48 q2.length) <|
  lv (gt q2 x48) fun q5 =>
  ck (inb x48 q2.length) <|
  ck (inb x48 q5.length) <|
  lv (gt q5 x48) fun x55 =>
  ar ((q4.Cells.length : Int) + (q4.At.length : Int)) fun x63 =>
  ar (x63 - 1) fun x64 =>
  ar (q4.Weight * x64) fun x65 =>
  ar (x55 + x65) fun x66 =>
  ck (inb x48 q5.length) <|
  lv (stt q5 x48 x66) fun q8 =>
  lv (stt q2 x48 q8) fun zr5 =>
  bd (
   lp (P_place_system_L16 q4 x48) fuel (zr5, 0)) fun q9 =>
  bd (
   lp (P_place_system_L22 q4 x48) fuel (q6, q7, 0)) fun (q0a, q0b) =>
  ar (q3 + 1) fun x117 =>
  some (Sum.inl (q9, q0a, q0b, x117))
 else
  some (Sum.inr (q2, q6, q7))
def P_place_system_L8 (l_1 : List T_place_Pull) : (List (List Int) × List Int × List Int × Int) → Option ((List (List Int) × List Int × List Int × Int) ⊕ (List (List Int) × List Int × List Int)) := fun (q3, q4, q5, q2) =>
 if q2 < (l_1.length : Int) then
  ck (inb q2 l_1.length) <|
  lv (gt l_1 q2) fun q9 =>
  bd (
   lp (P_place_system_L12 q9) fuel (q3, q4, q5, 0)) fun (q6, q7, q8) =>
  ar (q2 + 1) fun x118 =>
  some (Sum.inl (q6, q7, q8, x118))
 else
  some (Sum.inr (q3, q4, q5))
def P_place_system (cells0 : Int) (l_1 : List T_place_Pull) : Option (List (List Int) × List Int × List Int) :=
 ck (mkOk 24 cells0) <|
 lv ((List.replicate (cells0 : Int).toNat [] : List (List Int))) fun q3 =>
 ck (mkOk 8 cells0) <|
 lv ((List.replicate (cells0 : Int).toNat 0 : List Int)) fun q2 =>
 ck (mkOk 8 cells0) <|
 bd (
  lp (P_place_system_L3 cells0 q3 q2) fuel (q3, 0)) fun q4 =>
 bd (
  lp (P_place_system_L8 l_1) fuel (q4, q2, q2, 0)) fun (q5, q6, q7) =>
 some (q5, q6, q7)
theorem c_place_system {w0 w : World} {l : List Assn} {ρ : Heap} {q0b : Option Addr} {q49 : Nat} {c_l_1 : Nat} {cells0 : Int} {l_1 : List T_place_Pull} {r : (List (List Int) × List Int × List Int)} (hF : P_place_system cells0 l_1 = some r) (q3d : RdS R_place_Pull ρ q0b q49 c_l_1 l_1) (hS : St w0 w (ro ρ :: l)) :
  Calls Try.prog 23 #[.int .i64 cells0, .slice q0b q49 c_l_1] w fun e w' => ∃ (q2i : Option Addr) (q2j : Nat) (c_y0_ret : Nat) (q2k : Option Addr) (q1c : Nat) (c_y1_ret : Nat) (q2b : List Value) (q2l : Option Addr) (q1d : Nat) (c_y2_ret : Nat) (q2c : List Value), e = .returned (.tuple #[.slice q2i q2j c_y0_ret, .slice q2k q1c c_y1_ret, .slice q2l q1d c_y2_ret]) ∧ True ∧ RepL (RpI .i64) ρ r.2.1 q2b ∧ RepL (RpI .i64) ρ r.2.2 q2c ∧ St w0 w' (vec2 61 2 (RpI .i64) q2i q2j c_y0_ret r.1 :: vec 2 (RpI .i64).sz (.slice q2k q1c c_y1_ret) q1c q2b :: vec 2 (RpI .i64).sz (.slice q2l q1d c_y2_ret) q1d q2c :: ro ρ :: l) := by
 have e_ := q3d.n; subst e_
 refine enterC Try.func23 rfl 122 rfl (by simp) ?_
 refine x_seq <| x_region <| p (yl_assign rfl) <| p (yl_assign rfl) <|
  p (yl_assign rfl) <| x_done <| x_seq <| ?_
 replace hF := ck_s hF; obtain ⟨q63, hF⟩ := hF
 replace hF := lv_s hF; obtain ⟨q3, q64, hF⟩ := hF
 replace hF := ck_s hF; obtain ⟨q65, hF⟩ := hF
 replace hF := lv_s hF; obtain ⟨q2, q3e, hF⟩ := hF
 replace hF := ck_s hF; obtain ⟨q66, hF⟩ := hF
 refine x_par (w0 := w0) [⟨[], [], [17], [], [], []⟩, ⟨[0], [0], [18], [], [], [0]⟩, ⟨[], [], [19], [], [], []⟩, ⟨[2], [2], [20], [], [], [1]⟩, ⟨[], [], [21], [], [], []⟩, ⟨[4], [4], [22], [], [], [2]⟩, ⟨[0, 1], [1], [4, 18], [], [], []⟩, ⟨[0, 1, 2, 3, 6], [3], [5, 20], [], [], []⟩, ⟨[0, 1, 2, 3, 4, 5, 6, 7], [5], [6, 22], [], [], []⟩] [⟨(some 1), none, [18]⟩, ⟨(some 3), none, [20]⟩, ⟨(some 5), none, [22]⟩] [4, 5, 6, 17, 18, 19, 20, 21, 22] [] [0, 1, 2] [0, 1, 2, 3, 4, 5, 6, 7, 8] [fun Ep1 => Ep1 17 = .int .i64 cells0, fun Ep1 => Ep1 18 = .slice (adOf (Ep1 18)) q3.length q3.length, fun Ep1 => Ep1 19 = .int .i64 cells0, fun Ep1 => Ep1 20 = .slice (adOf (Ep1 20)) q2.length q2.length, fun Ep1 => Ep1 21 = .int .i64 cells0, fun Ep1 => Ep1 22 = .slice (adOf (Ep1 22)) q2.length q2.length, fun Ep1 => Ep1 4 = .slice (adOf (Ep1 18)) q3.length q3.length, fun Ep1 => Ep1 5 = .slice (adOf (Ep1 20)) q2.length q2.length, fun Ep1 => Ep1 6 = .slice (adOf (Ep1 22)) q2.length q2.length] [fun Ep1 => bunA (fun (x : Unit) => True) (fun (x : Unit) => [vec2 61 2 (RpI .i64) (adOf (Ep1 18)) q3.length q3.length q3]), fun Ep1 => bunA (fun (cs20 : List Value) => RepL (RpI .i64) ρ q2 cs20) (fun (cs20 : List Value) => [vec 2 (RpI .i64).sz (.slice (adOf (Ep1 20)) q2.length q2.length) q2.length cs20]), fun Ep1 => bunA (fun (cs22 : List Value) => RepL (RpI .i64) ρ q2 cs22) (fun (cs22 : List Value) => [vec 2 (RpI .i64).sz (.slice (adOf (Ep1 22)) q2.length q2.length) q2.length cs22])] mixed (by kernel_rfl) hS ?_ ?_
 ·refine ⟨?_, ?_, ?_, ?_, ?_, ?_, ?_, ?_, ?_, trivial⟩
  ·intro Ep1 w l' hE1 hO1 hF_ hS
   refine p (yl_move (hE1 0 rfl)) <| x_done <| ?_
   refine x_fin ⟨⟨_, rfl⟩, rfl, ?_⟩
   exact emk hS
  ·intro Ep1 w l' hE1 hO1 hF_ hS
   obtain ⟨q1e, -⟩ := hF_
   replace q1e : Ep1 17 = .int .i64 cells0 := emk q1e
   refine o_mk2 (ei := 2) (R := (RpI .i64)) sl_60 zero_61 (by decide) q1e q1e q63 q64 hS (fun A18 w' hS => ?_)
   refine x_done <| ?_
   refine x_fin ⟨⟨_, rfl⟩, rfl, ?_⟩
   replace hS := St.bun (Φ := (fun (x : Unit) => True)) (L := (fun (x : Unit) => [vec2 61 2 (RpI .i64) A18 q3.length q3.length q3])) () trivial hS
   exact emk hS
  ·intro Ep1 w l' hE1 hO1 hF_ hS
   refine p (yl_move (hE1 0 rfl)) <| x_done <| ?_
   refine x_fin ⟨⟨_, rfl⟩, rfl, ?_⟩
   exact emk hS
  ·intro Ep1 w l' hE1 hO1 hF_ hS
   obtain ⟨q1f, -⟩ := hF_
   replace q1f : Ep1 19 = .int .i64 cells0 := emk q1f
   refine o_mk sl_61 zero_2 (show (RpI .i64).ok ρ _ 0 from rfl) q1f q1f q65 (by decide) q3e hS (fun A20 cs20 w' hr20 hS => ?_)
   refine x_done <| ?_
   refine x_fin ⟨⟨_, rfl⟩, rfl, ?_⟩
   replace hS := St.bun (Φ := (fun (cs20 : List Value) => RepL (RpI .i64) ρ q2 cs20)) (L := (fun (cs20 : List Value) => [vec 2 (RpI .i64).sz (.slice A20 q2.length q2.length) q2.length cs20])) cs20 hr20 hS
   exact emk hS
  ·intro Ep1 w l' hE1 hO1 hF_ hS
   refine p (yl_move (hE1 0 rfl)) <| x_done <| ?_
   refine x_fin ⟨⟨_, rfl⟩, rfl, ?_⟩
   exact emk hS
  ·intro Ep1 w l' hE1 hO1 hF_ hS
   obtain ⟨q1g, -⟩ := hF_
   replace q1g : Ep1 21 = .int .i64 cells0 := emk q1g
   refine o_mk sl_61 zero_2 (show (RpI .i64).ok ρ _ 0 from rfl) q1g q1g q66 (by decide) q3e hS (fun A22 cs22 w' hr22 hS => ?_)
   refine x_done <| ?_
   refine x_fin ⟨⟨_, rfl⟩, rfl, ?_⟩
   replace hS := St.bun (Φ := (fun (cs22 : List Value) => RepL (RpI .i64) ρ q2 cs22)) (L := (fun (cs22 : List Value) => [vec 2 (RpI .i64).sz (.slice A22 q2.length q2.length) q2.length cs22])) cs22 hr22 hS
   exact emk hS
  ·intro Ep1 w l' hE1 hO1 hF_ hS
   obtain ⟨q20, -⟩ := hF_
   replace q20 : Ep1 18 = .slice (adOf (Ep1 18)) q3.length q3.length := emk q20
   refine p (yl_assign q20) <| x_done <| ?_
   refine x_fin ⟨⟨_, rfl⟩, rfl, ?_⟩
   exact emk hS
  ·intro Ep1 w l' hE1 hO1 hF_ hS
   obtain ⟨q21, -⟩ := hF_
   replace q21 : Ep1 20 = .slice (adOf (Ep1 20)) q2.length q2.length := emk q21
   refine p (yl_assign q21) <| x_done <| ?_
   refine x_fin ⟨⟨_, rfl⟩, rfl, ?_⟩
   exact emk hS
  ·intro Ep1 w l' hE1 hO1 hF_ hS
   obtain ⟨q22, -⟩ := hF_
   replace q22 : Ep1 22 = .slice (adOf (Ep1 22)) q2.length q2.length := emk q22
   refine p (yl_assign q22) <| x_done <| ?_
   refine x_fin ⟨⟨_, rfl⟩, rfl, ?_⟩
   exact emk hS
 intro Ep1 w' hE1 hF_ hS
 obtain ⟨q1e, q20, q1f, q21, q1g, q22, q3f, q43, q44, -⟩ := hF_
 replace q1e : Ep1 17 = .int .i64 cells0 := emk q1e
 replace q20 : Ep1 18 = .slice (adOf (Ep1 18)) q3.length q3.length := emk q20
 replace q1f : Ep1 19 = .int .i64 cells0 := emk q1f
 replace q21 : Ep1 20 = .slice (adOf (Ep1 20)) q2.length q2.length := emk q21
 replace q1g : Ep1 21 = .int .i64 cells0 := emk q1g
 replace q22 : Ep1 22 = .slice (adOf (Ep1 22)) q2.length q2.length := emk q22
 replace q3f : Ep1 4 = .slice (adOf (Ep1 18)) q3.length q3.length := emk q3f
 replace q43 : Ep1 5 = .slice (adOf (Ep1 20)) q2.length q2.length := emk q43
 replace q44 : Ep1 6 = .slice (adOf (Ep1 22)) q2.length q2.length := emk q44
 replace hS : St w0 w' (bunA (fun (x : Unit) => True) (fun (x : Unit) => [vec2 61 2 (RpI .i64) (adOf (Ep1 18)) q3.length q3.length q3]) :: bunA (fun (cs20 : List Value) => RepL (RpI .i64) ρ q2 cs20) (fun (cs20 : List Value) => [vec 2 (RpI .i64).sz (.slice (adOf (Ep1 20)) q2.length q2.length) q2.length cs20]) :: bunA (fun (cs22 : List Value) => RepL (RpI .i64) ρ q2 cs22) (fun (cs22 : List Value) => [vec 2 (RpI .i64).sz (.slice (adOf (Ep1 22)) q2.length q2.length) q2.length cs22]) :: (ro ρ :: l)) := emk hS
 have q_ := St.unbun hS; obtain ⟨⟨⟩, trivial, hS⟩ := q_
 have q_ := St.unbun (hS.pull 1); obtain ⟨cs20, hr20, hS⟩ := q_
 have q_ := St.unbun (hS.pull 2); obtain ⟨cs22, hr22, hS⟩ := q_
 refine x_seq <| x_seq <| x_region <| p (yl_move q3f) <|
  p (yl_len_slice usl_60 rfl) <| p (yl_move rfl) <| x_done <| ?_
 replace hF := bd_s hF; obtain ⟨oL3, hLL3, hF⟩ := hF
 refine x_join (fun E w => ∃ (q2f : List (List Int)), q2f = oL3 ∧ E 1 = .slice q0b l_1.length c_l_1 ∧ E 4 = .slice (adOf (Ep1 18)) q3.length q3.length ∧ E 5 = .slice (adOf (Ep1 20)) q2.length q2.length ∧ E 6 = .slice (adOf (Ep1 22)) q2.length q2.length ∧ True ∧ St w0 w (vec2 61 2 (RpI .i64) (adOf (Ep1 18)) q3.length q3.length q2f :: vec 2 (RpI .i64).sz (.slice (adOf (Ep1 20)) q2.length q2.length) q2.length cs20 :: vec 2 (RpI .i64).sz (.slice (adOf (Ep1 22)) q2.length q2.length) q2.length cs22 :: ro ρ :: l)) ?_ ?_
 ·refine x_block ?_
  refine x_loop (fun k_ E w => ∃ (q1s : List (List Int)) (q16 : Int), lp (P_place_system_L3 cells0 q3 q2) k_ (q1s, q16) = some oL3 ∧ E 0 = .int .i64 cells0 ∧ E 1 = .slice q0b l_1.length c_l_1 ∧ E 4 = .slice (adOf (Ep1 18)) q3.length q3.length ∧ E 5 = .slice (adOf (Ep1 20)) q2.length q2.length ∧ E 6 = .slice (adOf (Ep1 22)) q2.length q2.length ∧ E 24 = .int .i64 (q3.length : Int) ∧ E 25 = .int .i64 q16 ∧ True ∧ St w0 w (vec2 61 2 (RpI .i64) (adOf (Ep1 18)) q3.length q3.length q1s :: vec 2 (RpI .i64).sz (.slice (adOf (Ep1 20)) q2.length q2.length) q2.length cs20 :: vec 2 (RpI .i64).sz (.slice (adOf (Ep1 22)) q2.length q2.length) q2.length cs22 :: ro ρ :: l)) fuel ⟨q3, 0, hLL3, (hE1 0 rfl), (hE1 1 rfl), q3f, q43, q44, rfl, rfl, trivial, ((((hS.pull 3).pull 1).pull 2).pull 3)⟩ ?_
  rintro kL3 E w ⟨q1s, q16, hLL3, q3j, q3k, q2m, q3l, q3m, q35, q23, q6j, hS⟩
  replace hLL3 := lp_s hLL3; obtain ⟨kL3, obL3, rfl, hFL3, hLL3⟩ := hLL3
  refine x_seq <| x_region <| p (yl_lss q23 q35) <| x_done <|
   x_seq <|
   x_cond_p (q16 < (q3.length : Int)) rfl (fun hc26 => ?_) (fun hc26 => ?_)
  ·replace hFL3 := it_t hc26 hFL3
   refine x_skip <| x_seq <| x_block <| x_seq <|
    x_region <| p (yl_move q23) <| p (yl_assign rfl) <| x_done <|
    x_region <| p (yl_move q2m) <| p (yl_move rfl) <| p (yl_move q3j) <| ?_
   replace hFL3 := ck_s hFL3; obtain ⟨q67, hFL3⟩ := hFL3
   refine o_mk sl_61 zero_2 (show (RpI .i64).ok ρ _ 0 from rfl) rfl rfl q67 (by decide) q3e hS (fun A31 cs31 w' hr31 hS => ?_)
   replace hFL3 := ck_s hFL3; obtain ⟨q2g, hFL3⟩ := hFL3
   refine p (yix2 sl_60 rfl rfl (hS.pull 1) q2g) <| ?_
   replace hFL3 := lv_s hFL3; obtain ⟨q78, q5j, hFL3⟩ := hFL3
   have q_ := St.open2 q2g (hS.pull 1); obtain ⟨q79, q7a, q7b, q6u, q1t, hS⟩ := q_
   rw [← q5j] at q1t
   replace q1t := q1t ρ
   have e_ := St.vec_n hS q1t; subst e_
   refine o_put2 sz_61 rfl rfl rfl q2g (hS.pull 1) (fun w' hS => ?_)
   replace hFL3 := lv_s hFL3; obtain ⟨zr1, hzr1, hFL3⟩ := hFL3
   replace hS := St.close2 q2g (fun _ => RepL.flat (fun h => h) hr31) (hS.pull 2)
   rw [← hzr1] at hS
   replace hFL3 := ar_s hFL3; obtain ⟨x33, hx33, hFL3⟩ := hFL3
   refine x_done <| x_blk <| x_region <| p (yadd q23 rfl hx33) <|
    p (yl_move rfl) <| x_done <| ?_
   have e_ := sinj hFL3; subst e_
   exact x_inv ⟨kL3, Nat.lt_succ_self _, zr1, x33, hLL3, q3j, q3k, q2m, q3l, q3m, q35, rfl, trivial, (((((hS.pull 1).drop.pull 3).pull 3).pull 3).pull 3)⟩
  ·replace hFL3 := it_f hc26 hFL3
   refine x_exitTo _ rfl <| ?_
   have e_ := sinj hFL3; subst e_
   exact x_inv ⟨q1s, hLL3, q3k, q2m, q3l, q3m, trivial, ((((hS.pull 3).pull 3).pull 3).pull 3)⟩
 rintro E w ⟨q2f, rfl, q68, q69, q6a, q6b, q6o, hS⟩
 refine x_seq <| x_seq <| x_region <| p (yl_move q68) <|
  p (yl_len_slice usl_27 rfl) <| p (yl_move rfl) <| x_done <| ?_
 replace hF := bd_s hF; obtain ⟨oL8, hLL8, hF⟩ := hF
 refine x_join (fun E w => ∃ (q0w : List Value) (q0x : List Value) (q3g : List (List Int)) (q3h : List Int) (q3i : List Int), (q3g, q3h, q3i) = oL8 ∧ E 4 = .slice (adOf (Ep1 18)) q3.length q3.length ∧ E 5 = .slice (adOf (Ep1 20)) q2.length q2.length ∧ E 6 = .slice (adOf (Ep1 22)) q2.length q2.length ∧ True ∧ RepL (RpI .i64) ρ q3h q0w ∧ RepL (RpI .i64) ρ q3i q0x ∧ St w0 w (vec2 61 2 (RpI .i64) (adOf (Ep1 18)) q3.length q3.length q3g :: vec 2 (RpI .i64).sz (.slice (adOf (Ep1 20)) q2.length q2.length) q2.length q0w :: vec 2 (RpI .i64).sz (.slice (adOf (Ep1 22)) q2.length q2.length) q2.length q0x :: ro ρ :: l)) ?_ ?_
 ·refine x_block ?_
  refine x_loop (fun k_ E w => ∃ (q0g : List Value) (q0h : List Value) (q12 : List (List Int)) (q13 : List Int) (q14 : List Int) (q9 : Int), lp (P_place_system_L8 l_1) k_ (q12, q13, q14, q9) = some oL8 ∧ E 4 = .slice (adOf (Ep1 18)) q3.length q3.length ∧ E 5 = .slice (adOf (Ep1 20)) q2.length q2.length ∧ E 6 = .slice (adOf (Ep1 22)) q2.length q2.length ∧ E 34 = .slice q0b l_1.length c_l_1 ∧ E 35 = .int .i64 (l_1.length : Int) ∧ E 36 = .int .i64 q9 ∧ True ∧ RepL (RpI .i64) ρ q13 q0g ∧ RepL (RpI .i64) ρ q14 q0h ∧ St w0 w (vec2 61 2 (RpI .i64) (adOf (Ep1 18)) q3.length q3.length q12 :: vec 2 (RpI .i64).sz (.slice (adOf (Ep1 20)) q2.length q2.length) q2.length q0g :: vec 2 (RpI .i64).sz (.slice (adOf (Ep1 22)) q2.length q2.length) q2.length q0h :: ro ρ :: l)) fuel ⟨cs20, cs22, q2f, q2, q2, 0, hLL8, q69, q6a, q6b, rfl, rfl, rfl, trivial, hr20, hr22, ((((hS.pull 3).pull 3).pull 3).pull 3)⟩ ?_
  rintro kL8 E w ⟨q0g, q0h, q12, q13, q14, q9, hLL8, q3n, q3o, q3p, q36, q37, q24, q6k, q2n, q2o, hS⟩
  replace hLL8 := lp_s hLL8; obtain ⟨kL8, obL8, rfl, hFL8, hLL8⟩ := hLL8
  refine x_seq <| x_region <| p (yl_lss q24 q37) <| x_done <|
   x_seq <|
   x_cond_p (q9 < (l_1.length : Int)) rfl (fun hc37 => ?_) (fun hc37 => ?_)
  ·replace hFL8 := it_t hc37 hFL8
   replace hFL8 := ck_s hFL8; obtain ⟨q4a, hFL8⟩ := hFL8
   replace hFL8 := lv_s hFL8; obtain ⟨q4, q6c, hFL8⟩ := hFL8
   have q_ := q3d.get q4a; obtain ⟨q7c, q4b, q6d⟩ := q_
   rw [← q6c] at q4b
   obtain ⟨q5, q6v, q6, q0e, q6w, q0f, rfl, q15, q2p⟩ := q4b
   have e_ := q15.n; subst e_
   have e_ := q2p.n; subst e_
   refine x_skip <| x_seq <| x_block <| x_seq <|
    x_region <| p (yix_f sl_27 q36 q24 q3d q4a) <| pa (v := .agg #[.int .i64 q4.Weight, .slice q5 q4.Cells.length q6, .slice q0e q4.At.length q0f]) (at_loadAgg agg_36 rfl rfl (Elt.every q6d (hS.pull 3))) <| ?_
   refine o_alloc zero_36 hS (fun b9 w' hS => ?_)
   refine o_storeAgg (news := [.int .i64 q4.Weight, .slice q5 q4.Cells.length q6, .slice q0e q4.At.length q0f]) agg_36 rfl rfl rfl (by simp [over_length]) hS (fun w' hS => ?_)
   refine x_done <| x_seq <| x_region <| p (yl_field0 fld_36_0 rfl) <|
    pa (at_load one_3 rfl (hS.cell rfl)) <| p (yl_assign rfl) <| x_done <| x_seq <|
    x_region <| p (yl_field0 fld_36_1 rfl) <| pa (at_load one_22 rfl (hS.cell rfl)) <| p (yl_len_slice usl_22 rfl) <|
    p (yl_move rfl) <| x_done <| ?_
   replace hFL8 := bd_s hFL8; obtain ⟨oL12, hLL12, hFL8⟩ := hFL8
   refine x_join (fun E w => ∃ (q0o : List Value) (q0p : List Value) (q1u : List (List Int)) (q1v : List Int) (q1w : List Int), (q1u, q1v, q1w) = oL12 ∧ E 4 = .slice (adOf (Ep1 18)) q3.length q3.length ∧ E 5 = .slice (adOf (Ep1 20)) q2.length q2.length ∧ E 6 = .slice (adOf (Ep1 22)) q2.length q2.length ∧ E 34 = .slice q0b l_1.length c_l_1 ∧ E 35 = .int .i64 (l_1.length : Int) ∧ E 36 = .int .i64 q9 ∧ True ∧ RepL (RpI .i64) ρ q1v q0o ∧ RepL (RpI .i64) ρ q1w q0p ∧ St w0 w (vec2 61 2 (RpI .i64) (adOf (Ep1 18)) q3.length q3.length q1u :: vec 2 (RpI .i64).sz (.slice (adOf (Ep1 20)) q2.length q2.length) q2.length q0o :: vec 2 (RpI .i64).sz (.slice (adOf (Ep1 22)) q2.length q2.length) q2.length q0p :: ro ρ :: l)) ?_ ?_
   ·refine x_block ?_
    refine x_loop (fun k_ E w => ∃ (q7 : List Value) (q8 : List Value) (q17 : List (List Int)) (q0s : List Int) (q0t : List Int) (q0a : Int), lp (P_place_system_L12 q4) k_ (q17, q0s, q0t, q0a) = some oL12 ∧ E 4 = .slice (adOf (Ep1 18)) q3.length q3.length ∧ E 5 = .slice (adOf (Ep1 20)) q2.length q2.length ∧ E 6 = .slice (adOf (Ep1 22)) q2.length q2.length ∧ E 9 = .pointer (some ⟨b9, 0, none⟩) ∧ E 10 = .int .i64 q4.Weight ∧ E 34 = .slice q0b l_1.length c_l_1 ∧ E 35 = .int .i64 (l_1.length : Int) ∧ E 36 = .int .i64 q9 ∧ E 43 = .slice q5 q4.Cells.length q6 ∧ E 44 = .int .i64 (q4.Cells.length : Int) ∧ E 45 = .int .i64 q0a ∧ True ∧ RepL (RpI .i64) ρ q0s q7 ∧ RepL (RpI .i64) ρ q0t q8 ∧ St w0 w (vec2 61 2 (RpI .i64) (adOf (Ep1 18)) q3.length q3.length q17 :: vec 2 (RpI .i64).sz (.slice (adOf (Ep1 20)) q2.length q2.length) q2.length q7 :: vec 2 (RpI .i64).sz (.slice (adOf (Ep1 22)) q2.length q2.length) q2.length q8 :: cells b9 36 [.int .i64 q4.Weight, .slice q5 q4.Cells.length q6, .slice q0e q4.At.length q0f] :: ro ρ :: l)) fuel ⟨q0g, q0h, q12, q13, q14, 0, hLL12, q3n, q3o, q3p, rfl, rfl, q36, q37, q24, rfl, rfl, rfl, trivial, q2n, q2o, (((((hS.pull 4).pull 1).pull 4).pull 4).pull 4)⟩ ?_
    rintro kL12 E w ⟨q7, q8, q17, q0s, q0t, q0a, hLL12, q25, q38, q39, q18, q2q, q2r, q2s, q2t, q2u, q2v, q1h, q6h, q2d, q2e, hS⟩
    replace hLL12 := lp_s hLL12; obtain ⟨kL12, obL12, rfl, hFL12, hLL12⟩ := hLL12
    refine x_seq <| x_region <| p (yl_lss q1h q2v) <| x_done <|
     x_seq <|
     x_cond_p (q0a < (q4.Cells.length : Int)) rfl (fun hc46 => ?_) (fun hc46 => ?_)
    ·replace hFL12 := it_t hc46 hFL12
     replace hFL12 := ck_s hFL12; obtain ⟨q3q, hFL12⟩ := hFL12
     replace hFL12 := lv_s hFL12; obtain ⟨x48, hx48, hFL12⟩ := hFL12
     replace hFL12 := ck_s hFL12; obtain ⟨q3r, hFL12⟩ := hFL12
     refine x_skip <| x_seq <| x_block <| x_seq <|
      x_region <| p (yix_f sl_22 q2u q1h q15 q3q) <| pa (at_load one_3 rfl (RdS.getW q15 (hS.pull 4) q3q hx48)) <| p (yl_assign rfl) <|
      x_done <| x_seq <| ?_
     replace hFL12 := lv_s hFL12; obtain ⟨q6x, q4c, hFL12⟩ := hFL12
     have q_ := St.open2 q3r hS; obtain ⟨q6y, q6z, q70, q6p, q0c, hS⟩ := q_
     rw [← q4c] at q0c
     replace q0c := q0c ρ
     have e_ := St.vec_n hS q0c; subst e_
     replace hFL12 := ck_s hFL12; obtain ⟨q5k, hFL12⟩ := hFL12
     replace hFL12 := ck_s hFL12; obtain ⟨q3s, hFL12⟩ := hFL12
     replace hFL12 := lv_s hFL12; obtain ⟨x55, hx55, hFL12⟩ := hFL12
     replace hFL12 := ar_s hFL12; obtain ⟨x63, hx63, hFL12⟩ := hFL12
     replace hFL12 := ar_s hFL12; obtain ⟨x64, hx64, hFL12⟩ := hFL12
     replace hFL12 := ar_s hFL12; obtain ⟨x65, hx65, hFL12⟩ := hFL12
     replace hFL12 := ar_s hFL12; obtain ⟨x66, hx66, hFL12⟩ := hFL12
     replace hFL12 := ck_s hFL12; obtain ⟨q3a, hFL12⟩ := hFL12
     refine x_head 19 mixed (by kernel_rfl) hS _ _ rfl rfl <| q (yl_move q25) <| q (yl_move rfl) <| q (yix2h sl_60 rfl rfl (hS.pull 1) q5k) <|
      qa (fun w' hS => at_load one_61 rfl (hole_cell (hS.pull 1))) <| q (yl_move rfl) <| q (yix_o sl_61 rfl rfl hS q0c q3s) <| qa (fun w' hS => at_load one_2 rfl (RepL.getW q0c hS q3s hx55)) <|
      q (yl_move q2q) <| q (yl_field0 fld_36_1 q18) <| qa (fun w' hS => at_load one_22 rfl ((hS.pull 4).cell rfl)) <| q (yl_len_slice usl_22 rfl) <|
      q (yl_field0 fld_36_2 q18) <| qa (fun w' hS => at_load one_34 rfl ((hS.pull 4).cell rfl)) <| q (yl_len_slice usl_34 rfl) <| q (yadd rfl rfl hx63) <|
      q (ysub rfl rfl hx64) <| q (ymul rfl rfl hx65) <| q (yadd rfl rfl hx66) <| q (yix_o sl_61 rfl rfl hS q0c q3a) <|
      q_done fun w' hS => ?_
     replace hFL12 := lv_s hFL12; obtain ⟨q71, q4d, hFL12⟩ := hFL12
     refine o_put' (news := [.int .i64 x66]) sz_2 rfl rfl rfl rfl (o := 0) rfl q3a rfl hS q0c (Le.refl _) (fun c hc => ok_all hc (show (RpI .i64).ok ρ [.int .i64 x66] x66 from rfl)) q4d (fun q6q w' q4e hS => ?_)
     refine x_done <| x_seq <| x_seq <| x_region <|
      p (yl_field0 fld_36_1 q18) <| pa (at_load one_22 rfl ((hS.pull 4).cell rfl)) <| p (yl_len_slice usl_22 rfl) <| p (yl_move rfl) <|
      x_done <| ?_
     replace hFL12 := lv_s hFL12; obtain ⟨zr5, hzr5, hFL12⟩ := hFL12
     replace hS := St.close2 q3r (fun _ => RepL.flat (fun h => h) q4e) ((hS.pull 1).pull 1)
     rw [← hzr5] at hS
     replace hFL12 := bd_s hFL12; obtain ⟨oL16, hLL16, hFL12⟩ := hFL12
     refine x_join (fun E w => ∃ (q0u : List (List Int)), q0u = oL16 ∧ E 4 = .slice (adOf (Ep1 18)) q3.length q3.length ∧ E 5 = .slice (adOf (Ep1 20)) q2.length q2.length ∧ E 6 = .slice (adOf (Ep1 22)) q2.length q2.length ∧ E 9 = .pointer (some ⟨b9, 0, none⟩) ∧ E 10 = .int .i64 q4.Weight ∧ E 12 = .int .i64 x48 ∧ E 34 = .slice q0b l_1.length c_l_1 ∧ E 35 = .int .i64 (l_1.length : Int) ∧ E 36 = .int .i64 q9 ∧ E 43 = .slice q5 q4.Cells.length q6 ∧ E 44 = .int .i64 (q4.Cells.length : Int) ∧ E 45 = .int .i64 q0a ∧ True ∧ St w0 w (vec2 61 2 (RpI .i64) (adOf (Ep1 18)) q3.length q3.length q0u :: vec 2 (RpI .i64).sz (.slice (adOf (Ep1 20)) q2.length q2.length) q2.length q7 :: vec 2 (RpI .i64).sz (.slice (adOf (Ep1 22)) q2.length q2.length) q2.length q8 :: cells b9 36 [.int .i64 q4.Weight, .slice q5 q4.Cells.length q6, .slice q0e q4.At.length q0f] :: ro ρ :: l)) ?_ ?_
     ·refine x_block ?_
      refine x_loop (fun k_ E w => ∃ (q0v : List (List Int)) (q0m : Int), lp (P_place_system_L16 q4 x48) k_ (q0v, q0m) = some oL16 ∧ E 4 = .slice (adOf (Ep1 18)) q3.length q3.length ∧ E 5 = .slice (adOf (Ep1 20)) q2.length q2.length ∧ E 6 = .slice (adOf (Ep1 22)) q2.length q2.length ∧ E 9 = .pointer (some ⟨b9, 0, none⟩) ∧ E 10 = .int .i64 q4.Weight ∧ E 12 = .int .i64 x48 ∧ E 34 = .slice q0b l_1.length c_l_1 ∧ E 35 = .int .i64 (l_1.length : Int) ∧ E 36 = .int .i64 q9 ∧ E 43 = .slice q5 q4.Cells.length q6 ∧ E 44 = .int .i64 (q4.Cells.length : Int) ∧ E 45 = .int .i64 q0a ∧ E 69 = .slice q5 q4.Cells.length q6 ∧ E 70 = .int .i64 (q4.Cells.length : Int) ∧ E 71 = .int .i64 q0m ∧ True ∧ St w0 w (vec2 61 2 (RpI .i64) (adOf (Ep1 18)) q3.length q3.length q0v :: vec 2 (RpI .i64).sz (.slice (adOf (Ep1 20)) q2.length q2.length) q2.length q7 :: vec 2 (RpI .i64).sz (.slice (adOf (Ep1 22)) q2.length q2.length) q2.length q8 :: cells b9 36 [.int .i64 q4.Weight, .slice q5 q4.Cells.length q6, .slice q0e q4.At.length q0f] :: ro ρ :: l)) fuel ⟨zr5, 0, hLL16, q25, q38, q39, q18, q2q, rfl, q2r, q2s, q2t, q2u, q2v, q1h, rfl, rfl, rfl, trivial, (((((hS.pull 4).pull 4).pull 4).pull 4).pull 4)⟩ ?_
      rintro kL16 E w ⟨q0v, q0m, hLL16, q19, q26, q27, q28, q0y, q0n, q1i, q1j, q1k, q1l, q1m, q1n, q1o, q1p, q0z, q6i, hS⟩
      replace hLL16 := lp_s hLL16; obtain ⟨kL16, obL16, rfl, hFL16, hLL16⟩ := hLL16
      refine x_seq <| x_region <| p (yl_lss q0z q1p) <| x_done <|
       x_seq <|
       x_cond_p (q0m < (q4.Cells.length : Int)) rfl (fun hc72 => ?_) (fun hc72 => ?_)
      ·replace hFL16 := it_t hc72 hFL16
       replace hFL16 := ck_s hFL16; obtain ⟨q3t, hFL16⟩ := hFL16
       replace hFL16 := lv_s hFL16; obtain ⟨x74, hx74, hFL16⟩ := hFL16
       refine x_skip <| x_seq <| x_block <| x_seq <|
        x_region <| p (yix_f sl_22 q1o q0z q15 q3t) <| pa (at_load one_3 rfl (RdS.getW q15 (hS.pull 4) q3t hx74)) <| p (yl_assign rfl) <|
        x_done <| x_seq <| x_region <| p (yl_move rfl) <|
        p (yl_move q0n) <| p (yl_neq rfl rfl) <| x_done <| ?_
       replace hFL16 := bd_s hFL16; obtain ⟨oc77, hFc77, hFL16⟩ := hFL16
       refine x_join (fun E w => ∃ (q1x : List (List Int)), q1x = oc77 ∧ E 4 = .slice (adOf (Ep1 18)) q3.length q3.length ∧ E 5 = .slice (adOf (Ep1 20)) q2.length q2.length ∧ E 6 = .slice (adOf (Ep1 22)) q2.length q2.length ∧ E 9 = .pointer (some ⟨b9, 0, none⟩) ∧ E 10 = .int .i64 q4.Weight ∧ E 12 = .int .i64 x48 ∧ E 34 = .slice q0b l_1.length c_l_1 ∧ E 35 = .int .i64 (l_1.length : Int) ∧ E 36 = .int .i64 q9 ∧ E 43 = .slice q5 q4.Cells.length q6 ∧ E 44 = .int .i64 (q4.Cells.length : Int) ∧ E 45 = .int .i64 q0a ∧ E 69 = .slice q5 q4.Cells.length q6 ∧ E 70 = .int .i64 (q4.Cells.length : Int) ∧ E 71 = .int .i64 q0m ∧ True ∧ St w0 w (vec2 61 2 (RpI .i64) (adOf (Ep1 18)) q3.length q3.length q1x :: vec 2 (RpI .i64).sz (.slice (adOf (Ep1 20)) q2.length q2.length) q2.length q7 :: vec 2 (RpI .i64).sz (.slice (adOf (Ep1 22)) q2.length q2.length) q2.length q8 :: cells b9 36 [.int .i64 q4.Weight, .slice q5 q4.Cells.length q6, .slice q0e q4.At.length q0f] :: ro ρ :: l)) ?_ ?_
       ·refine x_cond_p (x74 ≠ x48) rfl (fun hc77 => ?_) (fun hc77 => ?_)
        ·replace hFc77 := it_t hc77 hFc77
         replace hFc77 := ck_s hFc77; obtain ⟨q2w, hFc77⟩ := hFc77
         refine x_region <| p (yl_move q19) <| p (yl_move q0n) <| p (yix2 sl_60 rfl rfl hS q2w) <| ?_
         replace hFc77 := lv_s hFc77; obtain ⟨q72, q4f, hFc77⟩ := hFc77
         have q_ := St.open2 q2w hS; obtain ⟨q73, q74, q75, q6r, q0d, hS⟩ := q_
         rw [← q4f] at q0d
         replace q0d := q0d ρ
         have e_ := St.vec_n hS q0d; subst e_
         replace hFc77 := ck_s hFc77; obtain ⟨q3u, hFc77⟩ := hFc77
         replace hFc77 := lv_s hFc77; obtain ⟨x84, hx84, hFc77⟩ := hFc77
         replace hFc77 := ar_s hFc77; obtain ⟨x86, hx86, hFc77⟩ := hFc77
         replace hFc77 := ck_s hFc77; obtain ⟨q3v, hFc77⟩ := hFc77
         refine pa (at_load one_61 rfl (hole_cell (hS.pull 1))) <| p (yl_move rfl) <| p (yix_o sl_61 rfl rfl hS q0d q3u) <| pa (at_load one_2 rfl (RepL.getW q0d hS q3u hx84)) <|
          p (yl_move q0y) <| p (ysub rfl rfl hx86) <| p (yix_o sl_61 rfl rfl hS q0d q3v) <| ?_
         replace hFc77 := lv_s hFc77; obtain ⟨q76, q4g, hFc77⟩ := hFc77
         refine o_put' (news := [.int .i64 x86]) sz_2 rfl rfl rfl rfl (o := 0) rfl q3v rfl hS q0d (Le.refl _) (fun c hc => ok_all hc (show (RpI .i64).ok ρ [.int .i64 x86] x86 from rfl)) q4g (fun q6s w' q4h hS => ?_)
         refine x_done <| ?_
         replace hFc77 := lv_s hFc77; obtain ⟨zr6, hzr6, hFc77⟩ := hFc77
         replace hS := St.close2 q2w (fun _ => RepL.flat (fun h => h) q4h) ((hS.pull 1).pull 1)
         rw [← hzr6] at hS
         exact x_inv ⟨zr6, (sinj hFc77), q19, q26, q27, q28, q0y, q0n, q1i, q1j, q1k, q1l, q1m, q1n, q1o, q1p, q0z, trivial, (((((hS.pull 4).pull 4).pull 4).pull 4).pull 4)⟩
        ·replace hFc77 := it_f hc77 hFc77
         refine x_skip <| ?_
         exact x_inv ⟨q0v, (sinj hFc77), q19, q26, q27, q28, q0y, q0n, q1i, q1j, q1k, q1l, q1m, q1n, q1o, q1p, q0z, trivial, (((((hS.pull 4).pull 4).pull 4).pull 4).pull 4)⟩
       rintro E w ⟨q1x, rfl, q5l, q5m, q5n, q5o, q4i, q4j, q4k, q4l, q4m, q4n, q4o, q4p, q4q, q4r, q4s, q6l, hS⟩
       replace hFL16 := ar_s hFL16; obtain ⟨x88, hx88, hFL16⟩ := hFL16
       refine x_blk <| x_region <| p (yadd q4s rfl hx88) <| p (yl_move rfl) <|
        x_done <| ?_
       have e_ := sinj hFL16; subst e_
       exact x_inv ⟨kL16, Nat.lt_succ_self _, q1x, x88, hLL16, q5l, q5m, q5n, q5o, q4i, q4j, q4k, q4l, q4m, q4n, q4o, q4p, q4q, q4r, rfl, trivial, (((((hS.pull 4).pull 4).pull 4).pull 4).pull 4)⟩
      ·replace hFL16 := it_f hc72 hFL16
       refine x_exitTo _ rfl <| ?_
       have e_ := sinj hFL16; subst e_
       exact x_inv ⟨q0v, hLL16, q19, q26, q27, q28, q0y, q0n, q1i, q1j, q1k, q1l, q1m, q1n, trivial, (((((hS.pull 4).pull 4).pull 4).pull 4).pull 4)⟩
     rintro E w ⟨q0u, rfl, q5p, q5q, q5r, q3w, q4t, q4u, q4v, q4w, q4x, q4y, q4z, q50, q6m, hS⟩
     refine x_seq <| x_region <| p (yl_field0 fld_36_2 q3w) <| pa (at_load one_34 rfl ((hS.pull 3).cell rfl)) <|
      p (yl_len_slice usl_34 rfl) <| p (yl_move rfl) <| x_done <| ?_
     replace hFL12 := bd_s hFL12; obtain ⟨oL22, hLL22, hFL12⟩ := hFL12
     refine x_join (fun E w => ∃ (q0q : List Value) (q0r : List Value) (q1y : List Int) (q1z : List Int), (q1y, q1z) = oL22 ∧ E 4 = .slice (adOf (Ep1 18)) q3.length q3.length ∧ E 5 = .slice (adOf (Ep1 20)) q2.length q2.length ∧ E 6 = .slice (adOf (Ep1 22)) q2.length q2.length ∧ E 9 = .pointer (some ⟨b9, 0, none⟩) ∧ E 10 = .int .i64 q4.Weight ∧ E 34 = .slice q0b l_1.length c_l_1 ∧ E 35 = .int .i64 (l_1.length : Int) ∧ E 36 = .int .i64 q9 ∧ E 43 = .slice q5 q4.Cells.length q6 ∧ E 44 = .int .i64 (q4.Cells.length : Int) ∧ E 45 = .int .i64 q0a ∧ RepL (RpI .i64) ρ q1y q0q ∧ RepL (RpI .i64) ρ q1z q0r ∧ St w0 w (vec2 61 2 (RpI .i64) (adOf (Ep1 18)) q3.length q3.length q0u :: vec 2 (RpI .i64).sz (.slice (adOf (Ep1 20)) q2.length q2.length) q2.length q0q :: vec 2 (RpI .i64).sz (.slice (adOf (Ep1 22)) q2.length q2.length) q2.length q0r :: cells b9 36 [.int .i64 q4.Weight, .slice q5 q4.Cells.length q6, .slice q0e q4.At.length q0f] :: ro ρ :: l)) ?_ ?_
     ·refine x_block ?_
      refine x_loop (fun k_ E w => ∃ (q0k : List Value) (q0l : List Value) (q1a : List Int) (q1b : List Int) (q10 : Int), lp (P_place_system_L22 q4 x48) k_ (q1a, q1b, q10) = some oL22 ∧ E 4 = .slice (adOf (Ep1 18)) q3.length q3.length ∧ E 5 = .slice (adOf (Ep1 20)) q2.length q2.length ∧ E 6 = .slice (adOf (Ep1 22)) q2.length q2.length ∧ E 9 = .pointer (some ⟨b9, 0, none⟩) ∧ E 10 = .int .i64 q4.Weight ∧ E 12 = .int .i64 x48 ∧ E 34 = .slice q0b l_1.length c_l_1 ∧ E 35 = .int .i64 (l_1.length : Int) ∧ E 36 = .int .i64 q9 ∧ E 43 = .slice q5 q4.Cells.length q6 ∧ E 44 = .int .i64 (q4.Cells.length : Int) ∧ E 45 = .int .i64 q0a ∧ E 90 = .slice q0e q4.At.length q0f ∧ E 91 = .int .i64 (q4.At.length : Int) ∧ E 92 = .int .i64 q10 ∧ RepL (RpI .i64) ρ q1a q0k ∧ RepL (RpI .i64) ρ q1b q0l ∧ St w0 w (vec2 61 2 (RpI .i64) (adOf (Ep1 18)) q3.length q3.length q0u :: vec 2 (RpI .i64).sz (.slice (adOf (Ep1 20)) q2.length q2.length) q2.length q0k :: vec 2 (RpI .i64).sz (.slice (adOf (Ep1 22)) q2.length q2.length) q2.length q0l :: cells b9 36 [.int .i64 q4.Weight, .slice q5 q4.Cells.length q6, .slice q0e q4.At.length q0f] :: ro ρ :: l)) fuel ⟨q7, q8, q0s, q0t, 0, hLL22, q5p, q5q, q5r, q3w, q4t, q4u, q4v, q4w, q4x, q4y, q4z, q50, rfl, rfl, rfl, q2d, q2e, (((((hS.pull 4).pull 4).pull 4).pull 4).pull 4)⟩ ?_
      rintro kL22 E w ⟨q0k, q0l, q1a, q1b, q10, hLL22, q3b, q29, q2a, q3c, q11, q1q, q2x, q2y, q2z, q30, q31, q32, q33, q34, q1r, q0i, q0j, hS⟩
      replace hLL22 := lp_s hLL22; obtain ⟨kL22, obL22, rfl, hFL22, hLL22⟩ := hLL22
      refine x_seq <| x_region <| p (yl_lss q1r q34) <| x_done <|
       x_seq <|
       x_cond_p (q10 < (q4.At.length : Int)) rfl (fun hc93 => ?_) (fun hc93 => ?_)
      ·replace hFL22 := it_t hc93 hFL22
       replace hFL22 := ck_s hFL22; obtain ⟨q3x, hFL22⟩ := hFL22
       replace hFL22 := lv_s hFL22; obtain ⟨q2h, q5s, hFL22⟩ := hFL22
       have q_ := q2p.get q3x; obtain ⟨q77, q3y, q5t⟩ := q_
       rw [← q5s] at q3y
       have e_ := q3y; subst e_
       refine x_skip <| x_seq <| x_block <| x_seq <|
        x_region <| p (yix_f sl_34 q33 q1r q2p q3x) <| pa (v := .agg #[.int .i64 q2h.X, .int .i64 q2h.Y]) (at_loadAgg agg_38 rfl rfl (Elt.every q5t (hS.pull 4))) <| ?_
       refine o_alloc zero_38 hS (fun b16 w' hS => ?_)
       refine o_storeAgg (news := [.int .i64 q2h.X, .int .i64 q2h.Y]) agg_38 rfl rfl rfl (by simp [over_length]) hS (fun w' hS => ?_)
       replace hFL22 := ck_s hFL22; obtain ⟨q3z, hFL22⟩ := hFL22
       replace hFL22 := lv_s hFL22; obtain ⟨x99, hx99, hFL22⟩ := hFL22
       replace hFL22 := ar_s hFL22; obtain ⟨x103, hx103, hFL22⟩ := hFL22
       replace hFL22 := ar_s hFL22; obtain ⟨x104, hx104, hFL22⟩ := hFL22
       replace hFL22 := ck_s hFL22; obtain ⟨q40, hFL22⟩ := hFL22
       refine x_done <| x_seq <| x_head 10 mixed (by kernel_rfl) hS _ _ rfl rfl <| q (yl_move q29) <|
        q (yl_move q1q) <| q (yix_o sl_61 rfl rfl (hS.pull 2) q0i q3z) <| qa (fun w' hS => at_load one_2 rfl (RepL.getW q0i (hS.pull 2) q3z hx99)) <| q (yl_move q11) <|
        q (yl_field0 fld_38_0 rfl) <| qa (fun w' hS => at_load one_3 rfl (hS.cell rfl)) <| q (ymul rfl rfl hx103) <| q (yadd rfl rfl hx104) <|
        q (yix_o sl_61 rfl rfl (hS.pull 2) q0i q40) <|
        q_done fun w' hS => ?_
       replace hFL22 := lv_s hFL22; obtain ⟨q5u, q51, hFL22⟩ := hFL22
       refine o_put' (news := [.int .i64 x104]) sz_2 rfl rfl rfl rfl (o := 0) rfl q40 rfl (hS.pull 2) q0i (Le.refl _) (fun c hc => ok_all hc (show (RpI .i64).ok ρ [.int .i64 x104] x104 from rfl)) q51 (fun q52 w' q53 hS => ?_)
       replace hFL22 := ck_s hFL22; obtain ⟨q41, hFL22⟩ := hFL22
       replace hFL22 := lv_s hFL22; obtain ⟨x109, hx109, hFL22⟩ := hFL22
       replace hFL22 := ar_s hFL22; obtain ⟨x113, hx113, hFL22⟩ := hFL22
       replace hFL22 := ar_s hFL22; obtain ⟨x114, hx114, hFL22⟩ := hFL22
       replace hFL22 := ck_s hFL22; obtain ⟨q42, hFL22⟩ := hFL22
       refine x_done <| x_head 10 mixed (by kernel_rfl) hS _ _ rfl rfl <| q (yl_move q2a) <| q (yl_move q1q) <|
        q (yix_o sl_61 rfl rfl (hS.pull 3) q0j q41) <| qa (fun w' hS => at_load one_2 rfl (RepL.getW q0j (hS.pull 3) q41 hx109)) <| q (yl_move q11) <| q (yl_field0 fld_38_1 rfl) <|
        qa (fun w' hS => at_load one_3 rfl ((hS.pull 1).cell rfl)) <| q (ymul rfl rfl hx113) <| q (yadd rfl rfl hx114) <| q (yix_o sl_61 rfl rfl (hS.pull 3) q0j q42) <|
        q_done fun w' hS => ?_
       replace hFL22 := lv_s hFL22; obtain ⟨q5v, q54, hFL22⟩ := hFL22
       refine o_put' (news := [.int .i64 x114]) sz_2 rfl rfl rfl rfl (o := 0) rfl q42 rfl (hS.pull 3) q0j (Le.refl _) (fun c hc => ok_all hc (show (RpI .i64).ok ρ [.int .i64 x114] x114 from rfl)) q54 (fun q55 w' q56 hS => ?_)
       replace hFL22 := ar_s hFL22; obtain ⟨x116, hx116, hFL22⟩ := hFL22
       refine x_done <| x_blk <| x_region <| p (yadd q1r rfl hx116) <|
        p (yl_move rfl) <| x_done <| ?_
       have e_ := sinj hFL22; subst e_
       exact x_inv ⟨kL22, Nat.lt_succ_self _, q52, q55, q5u, q5v, x116, hLL22, q3b, q29, q2a, q3c, q11, q1q, q2x, q2y, q2z, q30, q31, q32, q33, q34, rfl, q53, q56, ((((((hS.pull 2).drop.pull 4).pull 4).pull 2).pull 3).pull 4)⟩
      ·replace hFL22 := it_f hc93 hFL22
       refine x_exitTo _ rfl <| ?_
       have e_ := sinj hFL22; subst e_
       exact x_inv ⟨q0k, q0l, q1a, q1b, hLL22, q3b, q29, q2a, q3c, q11, q2x, q2y, q2z, q30, q31, q32, q0i, q0j, (((((hS.pull 4).pull 4).pull 4).pull 4).pull 4)⟩
     rintro E w ⟨q0q, q0r, q1y, q1z, rfl, q5w, q5x, q5y, q5z, q57, q58, q59, q5a, q5b, q5c, q5d, q45, q46, hS⟩
     replace hFL12 := ar_s hFL12; obtain ⟨x117, hx117, hFL12⟩ := hFL12
     refine x_blk <| x_region <| p (yadd q5d rfl hx117) <| p (yl_move rfl) <|
      x_done <| ?_
     have e_ := sinj hFL12; subst e_
     exact x_inv ⟨kL12, Nat.lt_succ_self _, q0q, q0r, q0u, q1y, q1z, x117, hLL12, q5w, q5x, q5y, q5z, q57, q58, q59, q5a, q5b, q5c, rfl, trivial, q45, q46, (((((hS.pull 4).pull 4).pull 4).pull 4).pull 4)⟩
    ·replace hFL12 := it_f hc46 hFL12
     refine x_exitTo _ rfl <| ?_
     have e_ := sinj hFL12; subst e_
     exact x_inv ⟨q7, q8, q17, q0s, q0t, hLL12, q25, q38, q39, q2r, q2s, q2t, trivial, q2d, q2e, (((((hS.pull 3).drop.pull 3).pull 3).pull 3).pull 3)⟩
   rintro E w ⟨q0o, q0p, q1u, q1v, q1w, rfl, q60, q61, q62, q5e, q5f, q5g, q6n, q47, q48, hS⟩
   replace hFL8 := ar_s hFL8; obtain ⟨x118, hx118, hFL8⟩ := hFL8
   refine x_blk <| x_region <| p (yadd q5g rfl hx118) <| p (yl_move rfl) <|
    x_done <| ?_
   have e_ := sinj hFL8; subst e_
   exact x_inv ⟨kL8, Nat.lt_succ_self _, q0o, q0p, q1u, q1v, q1w, x118, hLL8, q60, q61, q62, q5e, q5f, rfl, trivial, q47, q48, ((((hS.pull 3).pull 3).pull 3).pull 3)⟩
  ·replace hFL8 := it_f hc37 hFL8
   refine x_exitTo _ rfl <| ?_
   have e_ := sinj hFL8; subst e_
   exact x_inv ⟨q0g, q0h, q12, q13, q14, hLL8, q3n, q3o, q3p, trivial, q2n, q2o, ((((hS.pull 3).pull 3).pull 3).pull 3)⟩
 rintro E w ⟨q0w, q0x, q3g, q3h, q3i, rfl, q6e, q6f, q6g, q6t, q5h, q5i, hS⟩
 refine x_seq <| x_region <| p (yl_move q6e) <| p (yl_move q6f) <|
  p (yl_move q6g) <| p (yl_assign rfl) <| p (yl_assign rfl) <| p (yl_assign rfl) <|
  x_done <| ?_
 have e_ := sinj hF; subst e_
 exact x_return ⟨_, ⟨_, _, rfl, rfl, _, _, rfl, rfl, _, _, rfl, rfl, rfl⟩, (adOf (Ep1 18)), q3.length, q3.length, (adOf (Ep1 20)), q2.length, q2.length, q0w, (adOf (Ep1 22)), q2.length, q2.length, q0x, rfl, trivial, q5h, q5i, ((((hS.pull 3).pull 3).pull 3).pull 3)⟩
attribute [irreducible] P_place_system

def P_exact_CheckMatrix_L11 (q3 : List Int) : Int → Option (Int ⊕ (Unit ⊕ Int)) := fun q2 =>
 if q2 < (q3.length : Int) then
  ck (inb q2 q3.length) <|
  lv (gt q3 q2) fun x31 =>
  lv ((decide (x31 < (-1099511627776))) || (decide (1099511627776 < x31))) fun x37 =>
  if x37 = true then
   some (Sum.inr (Sum.inr (2 : Int)))
  else
   ar (q2 + 1) fun x38 =>
   some (Sum.inl x38)
 else
  some (Sum.inr (Sum.inl ()))
def P_exact_CheckMatrix_L4 (a0 : List (List Int)) : Int → Option (Int ⊕ (Unit ⊕ Int)) := fun q2 =>
 if q2 < (a0.length : Int) then
  ck (inb q2 a0.length) <|
  lv (gt a0 q2) fun q3 =>
  if 48 < (q3.length : Int) then
   some (Sum.inr (Sum.inr (3 : Int)))
  else
   ck (inb 0 a0.length) <|
   lv (gt a0 (0 : Int)) fun q4 =>
   if (q3.length : Int) ≠ (q4.length : Int) then
    some (Sum.inr (Sum.inr (4 : Int)))
   else
    bs (
     lp (P_exact_CheckMatrix_L11 q3) fuel 0) (fun y => some (Sum.inr (Sum.inr y))) fun _ =>
    ar (q2 + 1) fun x39 =>
    some (Sum.inl x39)
 else
  some (Sum.inr (Sum.inl ()))
def P_exact_CheckMatrix (a0 : List (List Int)) : Option Int :=
 if 48 < (a0.length : Int) then
  some (3 : Int)
 else
  bs (
   lp (P_exact_CheckMatrix_L4 a0) fuel 0) (fun y => some y) fun _ =>
  some (0 : Int)
theorem c_exact_CheckMatrix {w0 w : World} {l : List Assn} {ρ : Heap} {q4 : Option Addr} {q0r : Nat} {c_a0 : Nat} {a0 : List (List Int)} {r : Int} (hF : P_exact_CheckMatrix a0 = some r) (q8 : RdS (RpSl (RpI .i64)) ρ q4 q0r c_a0 a0) (hS : St w0 w (ro ρ :: l)) :
  Calls Try.prog 54 #[.slice q4 q0r c_a0] w fun e w' => e = .returned (.int .i64 r) ∧ St w0 w' (ro ρ :: l) := by
 have e_ := q8.n; subst e_
 refine enterC Try.func54 rfl 40 rfl (by simp) ?_
 refine x_seq <| x_region <| p (yl_assign rfl) <| x_done <|
  x_seq <| x_seq <| x_region <| p (yl_move rfl) <|
  p (yl_len_slice usl_60 rfl) <| p (yl_gtr rfl rfl) <| x_done <|
  x_cond_p (48 < (a0.length : Int)) rfl (fun hc9 => ?_) (fun hc9 => ?_)
 ·replace hF := it_t hc9 hF
  refine x_seq <| x_region <| p (yl_assign rfl) <| x_done <| ?_
  have e_ := sinj hF; subst e_
  exact x_return ⟨_, ⟨_, _, rfl, rfl, rfl⟩, rfl, hS⟩
 ·replace hF := it_f hc9 hF
  refine x_skip <| x_seq <| x_seq <| x_region <|
   p (yl_move rfl) <| p (yl_len_slice usl_60 rfl) <| p (yl_move rfl) <| x_done <| ?_
  replace hF := bs_s hF; obtain ⟨oL4, hLL4, hF⟩ := hF
  refine x_join (fun E w => (Sum.inl (())) = oL4 ∧ St w0 w (ro ρ :: l)) ?_ ?_
  ·refine x_block ?_
   refine x_loop (fun k_ E w => ∃ (q2 : Int), lp (P_exact_CheckMatrix_L4 a0) k_ q2 = some oL4 ∧ E 0 = .slice q4 a0.length c_a0 ∧ E 10 = .slice q4 a0.length c_a0 ∧ E 11 = .int .i64 (a0.length : Int) ∧ E 12 = .int .i64 q2 ∧ St w0 w (ro ρ :: l)) fuel ⟨0, hLL4, rfl, rfl, rfl, rfl, hS⟩ ?_
   rintro kL4 E w ⟨q2, hLL4, q0h, q0e, q0f, q6, hS⟩
   replace hLL4 := lp_s hLL4; obtain ⟨kL4, obL4, rfl, hFL4, hLL4⟩ := hLL4
   refine x_seq <| x_region <| p (yl_lss q6 q0f) <| x_done <|
    x_seq <|
    x_cond_p (q2 < (a0.length : Int)) rfl (fun hc13 => ?_) (fun hc13 => ?_)
   ·replace hFL4 := it_t hc13 hFL4
    replace hFL4 := ck_s hFL4; obtain ⟨q0k, hFL4⟩ := hFL4
    replace hFL4 := lv_s hFL4; obtain ⟨q7, q0t, hFL4⟩ := hFL4
    have q_ := q8.get q0k; obtain ⟨q11, q0l, q0u⟩ := q_
    rw [← q0t] at q0l
    obtain ⟨q0x, q13, q0y, rfl, q0j⟩ := q0l
    have e_ := q0j.n; subst e_
    refine x_skip <| x_seq <| x_block <| x_seq <|
     x_region <| p (yix_f sl_60 q0e q6 q8 q0k) <| pa (at_load one_61 rfl (Elt.ld (j := 0) q0u hS rfl)) <| p (yl_assign rfl) <|
     x_done <| x_seq <| x_seq <| x_region <|
     p (yl_move rfl) <| p (yl_len_slice usl_61 rfl) <| p (yl_gtr rfl rfl) <| x_done <|
     x_cond_p (48 < (q7.length : Int)) rfl (fun hc18 => ?_) (fun hc18 => ?_)
    ·replace hFL4 := it_t hc18 hFL4
     refine x_seq <| x_region <| p (yl_assign rfl) <| x_done <| ?_
     have e_ := sinj hFL4; subst e_
     have e_ := (show _ = oL4 from hLL4); subst e_
     have e_ := sinj hF; subst e_
     exact x_return ⟨_, ⟨_, _, rfl, rfl, rfl⟩, rfl, hS⟩
    ·replace hFL4 := it_f hc18 hFL4
     replace hFL4 := ck_s hFL4; obtain ⟨q0m, hFL4⟩ := hFL4
     replace hFL4 := lv_s hFL4; obtain ⟨q0z, q0v, hFL4⟩ := hFL4
     have q_ := q8.get q0m; obtain ⟨q12, q0n, q0w⟩ := q_
     rw [← q0v] at q0n
     obtain ⟨q14, q15, q16, rfl, q10⟩ := q0n
     have e_ := q10.n; subst e_
     refine x_skip <| x_seq <| x_seq <| x_region <|
      p (yl_move rfl) <| p (yl_len_slice usl_61 rfl) <| p (yl_move q0h) <| p (yix_f sl_60 rfl rfl q8 q0m) <|
      pa (at_load one_61 rfl (Elt.ld (j := 0) q0w hS rfl)) <| p (yl_len_slice usl_61 rfl) <| p (yl_neq rfl rfl) <| x_done <|
      x_cond_p ((q7.length : Int) ≠ (q0z.length : Int)) rfl (fun hc25 => ?_) (fun hc25 => ?_)
     ·replace hFL4 := it_t hc25 hFL4
      refine x_seq <| x_region <| p (yl_assign rfl) <| x_done <| ?_
      have e_ := sinj hFL4; subst e_
      have e_ := (show _ = oL4 from hLL4); subst e_
      have e_ := sinj hF; subst e_
      exact x_return ⟨_, ⟨_, _, rfl, rfl, rfl⟩, rfl, hS⟩
     ·replace hFL4 := it_f hc25 hFL4
      refine x_skip <| x_seq <| x_region <| p (yl_move rfl) <|
       p (yl_len_slice usl_61 rfl) <| p (yl_move rfl) <| x_done <| ?_
      replace hFL4 := bs_s hFL4; obtain ⟨oL11, hLL11, hFL4⟩ := hFL4
      refine x_join (fun E w => (Sum.inl (())) = oL11 ∧ E 0 = .slice q4 a0.length c_a0 ∧ E 10 = .slice q4 a0.length c_a0 ∧ E 11 = .int .i64 (a0.length : Int) ∧ E 12 = .int .i64 q2 ∧ St w0 w (ro ρ :: l)) ?_ ?_
      ·refine x_block ?_
       refine x_loop (fun k_ E w => ∃ (q3 : Int), lp (P_exact_CheckMatrix_L11 q7) k_ q3 = some oL11 ∧ E 0 = .slice q4 a0.length c_a0 ∧ E 10 = .slice q4 a0.length c_a0 ∧ E 11 = .int .i64 (a0.length : Int) ∧ E 12 = .int .i64 q2 ∧ E 26 = .slice q0x q7.length q0y ∧ E 27 = .int .i64 (q7.length : Int) ∧ E 28 = .int .i64 q3 ∧ St w0 w (ro ρ :: l)) fuel ⟨0, hLL11, q0h, q0e, q0f, q6, rfl, rfl, rfl, hS⟩ ?_
       rintro kL11 E w ⟨q3, hLL11, q0g, q9, q0a, q0b, q0c, q0d, q5, hS⟩
       replace hLL11 := lp_s hLL11; obtain ⟨kL11, obL11, rfl, hFL11, hLL11⟩ := hLL11
       refine x_seq <| x_region <| p (yl_lss q5 q0d) <| x_done <|
        x_seq <|
        x_cond_p (q3 < (q7.length : Int)) rfl (fun hc29 => ?_) (fun hc29 => ?_)
       ·replace hFL11 := it_t hc29 hFL11
        replace hFL11 := ck_s hFL11; obtain ⟨q0i, hFL11⟩ := hFL11
        replace hFL11 := lv_s hFL11; obtain ⟨x31, hx31, hFL11⟩ := hFL11
        replace hFL11 := lv_s hFL11; obtain ⟨x37, hx37, hFL11⟩ := hFL11
        refine x_skip <| x_seq <| x_block <| x_seq <|
         x_region <| p (yix_f sl_61 q0c q5 q0j q0i) <| pa (at_load one_2 rfl (RdS.getW q0j hS q0i hx31)) <| p (yl_assign rfl) <|
         x_done <| x_seq <| x_region <| p (yl_move rfl) <|
         p (yl_lss rfl rfl) <| p (yl_move rfl) <| pg (v := .int .i64 x31) 34 (c := !(decide (x31 < (-1099511627776)))) (says_f _) (fun hq => Yl.at (yl_move rfl)) <| pg (v := .bool (decide (1099511627776 < x31))) 34 (c := !(decide (x31 < (-1099511627776)))) (says_f _) (fun hq => Yl.at (yl_gtr (cv hq) rfl)) <|
         p (yor' rfl rfl (fun hc => (cv (t_not hc))) hx37) <| x_done <|
         x_cond (t := x37) rfl (fun hc37 => ?_) (fun hc37 => ?_)
        ·replace hFL11 := it_t hc37 hFL11
         refine x_seq <| x_region <| p (yl_assign rfl) <| x_done <| ?_
         have e_ := sinj hFL11; subst e_
         have e_ := (show _ = oL11 from hLL11); subst e_
         have e_ := sinj hFL4; subst e_
         have e_ := (show _ = oL4 from hLL4); subst e_
         have e_ := sinj hF; subst e_
         exact x_return ⟨_, ⟨_, _, rfl, rfl, rfl⟩, rfl, hS⟩
        ·replace hFL11 := it_bf hc37 hFL11
         replace hFL11 := ar_s hFL11; obtain ⟨x38, hx38, hFL11⟩ := hFL11
         refine x_skip <| x_blk <| x_region <| p (yadd q5 rfl hx38) <|
          p (yl_move rfl) <| x_done <| ?_
         have e_ := sinj hFL11; subst e_
         exact x_inv ⟨kL11, Nat.lt_succ_self _, x38, hLL11, q0g, q9, q0a, q0b, q0c, q0d, rfl, hS⟩
       ·replace hFL11 := it_f hc29 hFL11
        refine x_exitTo _ rfl <| ?_
        have e_ := sinj hFL11; subst e_
        exact x_inv ⟨hLL11, q0g, q9, q0a, q0b, hS⟩
      rintro E w ⟨rfl, q0s, q0o, q0p, q0q, hS⟩
      replace hFL4 := ar_s hFL4; obtain ⟨x39, hx39, hFL4⟩ := hFL4
      refine x_blk <| x_region <| p (yadd q0q rfl hx39) <| p (yl_move rfl) <|
       x_done <| ?_
      have e_ := sinj hFL4; subst e_
      exact x_inv ⟨kL4, Nat.lt_succ_self _, x39, hLL4, q0s, q0o, q0p, rfl, hS⟩
   ·replace hFL4 := it_f hc13 hFL4
    refine x_exitTo _ rfl <| ?_
    have e_ := sinj hFL4; subst e_
    exact x_inv ⟨hLL4, hS⟩
  rintro E w ⟨rfl, hS⟩
  refine x_seq <| x_region <| p (yl_assign rfl) <| x_done <| ?_
  have e_ := sinj hF; subst e_
  exact x_return ⟨_, ⟨_, _, rfl, rfl, rfl⟩, rfl, hS⟩
attribute [irreducible] P_exact_CheckMatrix

def P_exact_square (a0 : List (List Int)) : Option Int :=
 bd (P_exact_CheckMatrix a0) fun q2 =>
 if q2 ≠ 0 then
  some q2
 else
  ck ((decide (0 < (a0.length : Int))) = true → inb 0 a0.length) <|
  lv (gt a0 (0 : Int)) fun q3 =>
  lv ((decide (0 < (a0.length : Int))) && (decide ((q3.length : Int) ≠ (a0.length : Int)))) fun x20 =>
  if x20 = true then
   some (4 : Int)
  else
   some (0 : Int)
theorem c_exact_square {w0 w : World} {l : List Assn} {ρ : Heap} {q2 : Option Addr} {q8 : Nat} {c_a0 : Nat} {a0 : List (List Int)} {r : Int} (hF : P_exact_square a0 = some r) (q4 : RdS (RpSl (RpI .i64)) ρ q2 q8 c_a0 a0) (hS : St w0 w (ro ρ :: l)) :
  Calls Try.prog 39 #[.slice q2 q8 c_a0] w fun e w' => e = .returned (.int .i64 r) ∧ St w0 w' (ro ρ :: l) := by
 have e_ := q4.n; subst e_
 refine enterC Try.func39 rfl 21 rfl (by simp) ?_
 replace hF := bd_s hF; obtain ⟨q3, q9, hF⟩ := hF
 refine x_seq <| x_region <| p (yl_assign rfl) <| x_done <|
  x_seq <| x_seq <| x_region <| p (yl_move rfl) <| ?_
 have hcall := c_exact_CheckMatrix q9 q4 hS
 refine o_cc call_54 (args1 rfl) (hcall) ?_
 rintro e w' ⟨rfl, hS⟩
 refine ⟨_, rfl, ?_⟩
 refine p (v := .int .i64 q3) (yl_assign rfl) <| x_done <| x_seq <| x_region <|
  p (v := .int .i64 q3) (yl_move rfl) <| p (yl_neq rfl rfl) <| x_done <|
  x_cond_p (q3 ≠ 0) rfl (fun hc7 => ?_) (fun hc7 => ?_)
 ·replace hF := it_t hc7 hF
  refine x_seq <| x_region <| p (v := .int .i64 q3) (yl_move rfl) <| p (v := .int .i64 q3) (yl_assign rfl) <|
   x_done <| ?_
  have e_ := sinj hF; subst e_
  exact x_return ⟨_, ⟨_, _, rfl, rfl, rfl⟩, rfl, hS⟩
 ·replace hF := it_f hc7 hF
  replace hF := ck_s hF; obtain ⟨q6, hF⟩ := hF
  replace hF := lv_s hF; obtain ⟨q5, q0a, hF⟩ := hF
  have q_ := RdS.getD sl_d q4 (0 : Int); obtain ⟨q0f, q7, q0b⟩ := q_
  rw [← q0a] at q7
  obtain ⟨q0c, q0g, q0d, rfl, q0e⟩ := q7
  have e_ := q0e.n; subst e_
  replace hF := lv_s hF; obtain ⟨x20, hx20, hF⟩ := hF
  refine x_skip <| x_seq <| x_seq <| x_region <|
   p (yl_move rfl) <| p (yl_len_slice usl_60 rfl) <| p (yl_gtr rfl rfl) <| p (yl_move rfl) <|
   pg (v := .slice q2 a0.length c_a0) 12 (c := decide (0 < (a0.length : Int))) (says_t _) (fun hq => Yl.at (yl_move rfl)) <| pg (v := .pointer (some ((adr q2).add ((0 : Int).toNat * (RpSl (RpI .i64)).sz)))) 12 (c := decide (0 < (a0.length : Int))) (says_t _) (fun hq => Yl.at (yix_f sl_60 (cv hq) rfl q4 (q6 hq))) <| pg (v := .slice q0c q5.length q0d) 12 (c := decide (0 < (a0.length : Int))) (says_t _) (fun hq => at_load one_61 (cv hq) (Elt.ld (j := 0) (q0b (q6 hq)) hS rfl)) <| pg (v := .int .i64 (q5.length : Int)) 12 (c := decide (0 < (a0.length : Int))) (says_t _) (fun hq => Yl.at (yl_len_slice usl_61 (cv hq))) <|
   pg (v := .slice q2 a0.length c_a0) 12 (c := decide (0 < (a0.length : Int))) (says_t _) (fun hq => Yl.at (yl_move rfl)) <| pg (v := .int .i64 (a0.length : Int)) 12 (c := decide (0 < (a0.length : Int))) (says_t _) (fun hq => Yl.at (yl_len_slice usl_60 (cv hq))) <| pg (v := .bool (decide ((q5.length : Int) ≠ (a0.length : Int)))) 12 (c := decide (0 < (a0.length : Int))) (says_t _) (fun hq => Yl.at (yl_neq (cv hq) (cv hq))) <| p (yand' rfl (fun hc => (cv hc)) rfl hx20) <|
   x_done <|
   x_cond (t := x20) rfl (fun hc20 => ?_) (fun hc20 => ?_)
  ·replace hF := it_t hc20 hF
   refine x_seq <| x_region <| p (yl_assign rfl) <| x_done <| ?_
   have e_ := sinj hF; subst e_
   exact x_return ⟨_, ⟨_, _, rfl, rfl, rfl⟩, rfl, hS⟩
  ·replace hF := it_bf hc20 hF
   refine x_skip <| x_seq <| x_region <| p (yl_assign rfl) <|
    x_done <| ?_
   have e_ := sinj hF; subst e_
   exact x_return ⟨_, ⟨_, _, rfl, rfl, rfl⟩, rfl, hS⟩
attribute [irreducible] P_exact_square

def P_exact_made_L1 : List Int → Option (List Int ⊕ List Int) := fun q2 =>
 ck ((decide (0 < (q2.length : Int))) = true → I64 ((q2.length : Int) - 1)) <|
 lv ((q2.length : Int) - 1) fun x12 =>
 ck ((decide (0 < (q2.length : Int))) = true → inb x12 q2.length) <|
 lv (gt q2 x12) fun x14 =>
 lv ((decide (0 < (q2.length : Int))) && (decide (x14 = 0))) fun x16 =>
 if x16 = true then
  ar ((q2.length : Int) - 1) fun x20 =>
  ck (0 ≤ (0 : Int) ∧ (0 : Int) ≤ x20 ∧ x20 ≤ q2.length) <|
  lv (sub q2 0 x20) fun x21 =>
  some (Sum.inl x21)
 else
  some (Sum.inr q2)
def P_exact_made (neg0 : Bool) (mag1 : List Int) : Option T_exact_Int :=
 bd (
  lp P_exact_made_L1 fuel mag1) fun q2 =>
 lv (neg0 && (decide (0 < (q2.length : Int)))) fun x27 =>
 some (T_exact_Int.mk x27 q2)
theorem c_exact_made {w0 w : World} {l : List Assn} {ρ : Heap} {q0d : Option Addr} {q0e : Nat} {c_mag1 : Nat} {neg0 : Bool} {mag1 : List Int} {r : T_exact_Int} (hF : P_exact_made neg0 mag1 = some r) (q0f : RdS (RpI .u32) ρ q0d q0e c_mag1 mag1) (hS : St w0 w (ro ρ :: l)) :
  Calls Try.prog 35 #[.bool neg0, .slice q0d q0e c_mag1] w fun e w' => ∃ (q0a : Option Addr) (q0b : Nat) (c_y0_ret_1 : Nat), e = .returned (.agg #[.bool r.fneg, .slice q0a q0b c_y0_ret_1]) ∧ RdS (RpI .u32) ρ q0a q0b c_y0_ret_1 r.fmag ∧ St w0 w' (ro ρ :: l) := by
 have e_ := q0f.n; subst e_
 refine enterC Try.func35 rfl 30 rfl (by simp) ?_
 refine x_seq <| x_region <| ?_
 refine o_alloc zero_41 hS (fun b4 w' hS => ?_)
 refine x_done <| x_seq <| ?_
 replace hF := bd_s hF; obtain ⟨oL1, hLL1, hF⟩ := hF
 refine x_join (fun E w => ∃ (q3 : Option Addr) (q9 : Nat) (c_mag1_L1 : Nat) (q5 : List Int), q5 = oL1 ∧ E 0 = .bool neg0 ∧ E 1 = .slice q3 q9 c_mag1_L1 ∧ E 4 = .pointer (some ⟨b4, 0, none⟩) ∧ RdS (RpI .u32) ρ q3 q9 c_mag1_L1 q5 ∧ St w0 w (cells b4 41 [.bool false, .slice none 0 0] :: ro ρ :: l)) ?_ ?_
 ·refine x_block ?_
  refine x_loop (fun k_ E w => ∃ (q4 : Option Addr) (q8 : Nat) (c_mag1_L1h : Nat) (q2 : List Int), lp P_exact_made_L1 k_ q2 = some oL1 ∧ E 0 = .bool neg0 ∧ E 1 = .slice q4 q8 c_mag1_L1h ∧ E 4 = .pointer (some ⟨b4, 0, none⟩) ∧ RdS (RpI .u32) ρ q4 q8 c_mag1_L1h q2 ∧ St w0 w (cells b4 41 [.bool false, .slice none 0 0] :: ro ρ :: l)) fuel ⟨q0d, mag1.length, c_mag1, mag1, hLL1, rfl, rfl, rfl, q0f, ((hS.pull 1).pull 1)⟩ ?_
  rintro kL1 E w ⟨q4, q8, c_mag1_L1h, q2, hLL1, q0g, q7, q0h, q6, hS⟩
  have e_ := q6.n; subst e_
  replace hLL1 := lp_s hLL1; obtain ⟨kL1, obL1, rfl, hFL1, hLL1⟩ := hLL1
  replace hFL1 := ck_s hFL1; obtain ⟨q0m, hFL1⟩ := hFL1
  replace hFL1 := lv_s hFL1; obtain ⟨x12, hx12, hFL1⟩ := hFL1
  replace hFL1 := ck_s hFL1; obtain ⟨q0i, hFL1⟩ := hFL1
  replace hFL1 := lv_s hFL1; obtain ⟨x14, hx14, hFL1⟩ := hFL1
  replace hFL1 := lv_s hFL1; obtain ⟨x16, hx16, hFL1⟩ := hFL1
  refine x_seq <| x_seq <| x_region <| p (yl_move q7) <|
   p (yl_len_slice usl_39 rfl) <| p (yl_gtr rfl rfl) <| p (yl_move rfl) <| pg (v := .slice q4 q2.length c_mag1_L1h) 8 (c := decide (0 < (q2.length : Int))) (says_t _) (fun hq => Yl.at (yl_move q7)) <|
   pg (v := .slice q4 q2.length c_mag1_L1h) 8 (c := decide (0 < (q2.length : Int))) (says_t _) (fun hq => Yl.at (yl_move q7)) <| pg (v := .int .i64 (q2.length : Int)) 8 (c := decide (0 < (q2.length : Int))) (says_t _) (fun hq => Yl.at (yl_len_slice usl_39 (cv hq))) <| pg (v := .int .i64 x12) 8 (c := decide (0 < (q2.length : Int))) (says_t _) (fun hq => Yl.at (ysub (cv hq) rfl ⟨hx12, (q0m hq)⟩)) <| pg (v := .pointer (some ((adr q4).add (x12.toNat * (RpI .u32).sz)))) 8 (c := decide (0 < (q2.length : Int))) (says_t _) (fun hq => Yl.at (yix_f sl_39 (cv hq) (cv hq) q6 (q0i hq))) <|
   pg (v := .int .u32 x14) 8 (c := decide (0 < (q2.length : Int))) (says_t _) (fun hq => at_load one_77 (cv hq) (RdS.getW q6 (hS.pull 1) (q0i hq) hx14)) <| pg (v := .bool (decide (x14 = 0))) 8 (c := decide (0 < (q2.length : Int))) (says_t _) (fun hq => Yl.at (yl_eql (cv hq) rfl)) <| p (yand' rfl (fun hc => (cv hc)) rfl hx16) <| x_done <|
   x_cond (t := x16) rfl (fun hc16 => ?_) (fun hc16 => ?_)
  ·replace hFL1 := it_t hc16 hFL1
   replace hFL1 := ar_s hFL1; obtain ⟨x20, hx20, hFL1⟩ := hFL1
   replace hFL1 := ck_s hFL1; obtain ⟨q0j, hFL1⟩ := hFL1
   replace hFL1 := lv_s hFL1; obtain ⟨x21, hx21, hFL1⟩ := hFL1
   refine x_skip <| x_block <| x_region <| p (yl_move q7) <|
    p (yl_move q7) <| p (yl_len_slice usl_39 rfl) <| p (ysub rfl rfl hx20) <| ?_
   have q_ := RdS.sub q6 q0j hx21; obtain ⟨A21, n21, c21, hd21, f21⟩ := q_
   refine p (ysub_h sl_39 rfl rfl q0j hd21) <| ?_
   have e_ := f21.n; subst e_
   refine p (yl_assign rfl) <| x_done <| x_blk <| ?_
   have e_ := sinj hFL1; subst e_
   exact x_inv ⟨kL1, Nat.lt_succ_self _, A21, x21.length, c21, x21, hLL1, q0g, rfl, q0h, f21, ((hS.pull 1).pull 1)⟩
  ·replace hFL1 := it_bf hc16 hFL1
   refine x_exitTo _ rfl <| ?_
   have e_ := sinj hFL1; subst e_
   exact x_inv ⟨q4, q2.length, c_mag1_L1h, q2, hLL1, q0g, q7, q0h, q6, ((hS.pull 1).pull 1)⟩
 rintro E w ⟨q3, q9, c_mag1_L1, q5, rfl, q0n, q0k, q0l, q0c, hS⟩
 have e_ := q0c.n; subst e_
 replace hF := lv_s hF; obtain ⟨x27, hx27, hF⟩ := hF
 refine x_seq <| x_region <| p (yl_move q0n) <| p (yl_move rfl) <|
  pg (v := .slice q3 q5.length c_mag1_L1) 23 (c := neg0) (says_t _) (fun hq => Yl.at (yl_move q0k)) <| pg (v := .int .i64 (q5.length : Int)) 23 (c := neg0) (says_t _) (fun hq => Yl.at (yl_len_slice usl_39 (cv hq))) <| pg (v := .bool (decide (0 < (q5.length : Int)))) 23 (c := neg0) (says_t _) (fun hq => Yl.at (yl_gtr (cv hq) rfl)) <| p (yand' rfl (fun hc => (cv hc)) rfl hx27) <|
  p (yl_move q0k) <| p (v := .agg #[.bool x27, .slice q3 q5.length c_mag1_L1]) (yl_build bld_41 bldf_41 (parts_eq (pt (va := .bool x27) rfl (pt (va := .slice q3 q5.length c_mag1_L1) rfl pt0))) (by kernel_rfl)) <| ?_
 refine o_storeAgg (news := [.bool x27, .slice q3 q5.length c_mag1_L1]) agg_41 q0l rfl rfl (by simp [over_length]) hS (fun w' hS => ?_)
 refine x_done <| ?_
 have e_ := sinj hF; subst e_
 exact x_return ⟨_, ⟨_, _, _, rfl, q0l, ldvA agg_41 rfl (fun j v hj => by rw [add0]; exact St.cell hS hj), rfl⟩, q3, q5.length, c_mag1_L1, rfl, q0c, hS.drop⟩
attribute [irreducible] P_exact_made

def P_exact_Of (x0 : Int) : Option T_exact_Int :=
 lv (x0 % 18446744073709551616) fun x5 =>
 bd (
  if x0 < 0 then
   lv ((0 - x5) % 18446744073709551616) fun x9 =>
   some x9
  else
   some x5) fun q2 =>
 lv (q2 % 4294967296) fun x13 =>
 ck (0 ≤ (32 : Int)) <|
 lv (shr .u64 q2 32) fun x15 =>
 lv (x15 % 4294967296) fun x16 =>
 bd (P_exact_made (decide (x0 < 0)) ([x13, x16] : List Int)) fun q3 =>
 some q3
theorem c_exact_Of {w0 w : World} {l : List Assn} {ρ : Heap} {x0 : Int} {r : T_exact_Int} (hF : P_exact_Of x0 = some r) (hS : St w0 w (ro ρ :: l)) :
  Calls Try.prog 17 #[.int .i64 x0] w fun e w' => ∃ (ρ' : Heap) (q4 : Option Addr) (q5 : Nat) (c_y0_ret_1 : Nat), e = .returned (.agg #[.bool r.fneg, .slice q4 q5 c_y0_ret_1]) ∧ Le ρ ρ' ∧ RdS (RpI .u32) ρ' q4 q5 c_y0_ret_1 r.fmag ∧ St w0 w' (ro ρ' :: l) := by
 refine enterC Try.func17 rfl 19 rfl (by simp) ?_
 refine x_seq <| x_region <| ?_
 refine o_alloc zero_41 hS (fun b2 w' hS => ?_)
 replace hF := lv_s hF; obtain ⟨x5, hx5, hF⟩ := hF
 refine x_done <| x_seq <| x_region <| p (yl_move rfl) <|
  p (yconvu wm_u64 uk_2 ik_75 rfl hx5) <| p (yl_assign rfl) <| x_done <| x_seq <|
  x_seq <| x_region <| p (yl_move rfl) <| p (yl_lss rfl rfl) <|
  x_done <| ?_
 replace hF := bd_s hF; obtain ⟨oc7, hFc7, hF⟩ := hF
 refine x_join (fun E w => ∃ (q6 : Int), q6 = oc7 ∧ E 0 = .int .i64 x0 ∧ E 2 = .pointer (some ⟨b2, 0, none⟩) ∧ E 3 = .int .u64 q6 ∧ St w0 w (cells b2 41 [.bool false, .slice none 0 0] :: ro ρ :: l)) ?_ ?_
 ·refine x_cond_p (x0 < 0) rfl (fun hc7 => ?_) (fun hc7 => ?_)
  ·replace hFc7 := it_t hc7 hFc7
   replace hFc7 := lv_s hFc7; obtain ⟨x9, hx9, hFc7⟩ := hFc7
   refine x_region <| p (yl_move rfl) <| p (ynegu wm_u64 rfl hx9) <| p (yl_assign rfl) <|
    x_done <| ?_
   exact x_inv ⟨x9, (sinj hFc7), rfl, rfl, rfl, ((hS.pull 1).pull 1)⟩
  ·replace hFc7 := it_f hc7 hFc7
   refine x_skip <| ?_
   exact x_inv ⟨x5, (sinj hFc7), rfl, rfl, rfl, ((hS.pull 1).pull 1)⟩
 rintro E w ⟨q6, rfl, q0e, q9, q0a, hS⟩
 replace hF := lv_s hF; obtain ⟨x13, hx13, hF⟩ := hF
 replace hF := ck_s hF; obtain ⟨q0f, hF⟩ := hF
 replace hF := lv_s hF; obtain ⟨x15, hx15, hF⟩ := hF
 replace hF := lv_s hF; obtain ⟨x16, hx16, hF⟩ := hF
 refine x_seq <| x_region <| p (yl_move q0e) <| p (yl_lss rfl rfl) <|
  p (yl_move q0a) <| p (yconvu wm_u32 uk_75 ik_77 rfl hx13) <| p (yl_move q0a) <| p (yshr rfl rfl q0f hx15) <|
  p (yconvu wm_u32 uk_75 ik_77 rfl hx16) <| ?_
 refine o_buildSlice (vs := [.int .u32 x13, .int .u32 x16]) (cs := [.int .u32 x13, .int .u32 x16]) sl_39 zero_77 (parts_eq (pt (va := .int .u32 x13) rfl (pt (va := .int .u32 x16) rfl pt0))) rfl (by intro v hv; simp only [List.mem_cons, List.not_mem_nil, or_false] at hv; first | (subst hv; rfl) | (rcases hv with rfl | rfl <;> rfl)) (by decide) rfl hS (fun b17 w' hS => ?_)
 have q0g : RepL (RpI .u32) ρ ([x13, x16] : List Int) [.int .u32 x13, .int .u32 x16] := (RepL.cons (cs := [.int .u32 x13]) rfl (RepL.cons (cs := [.int .u32 x16]) rfl RepL.nil))
 replace hS := St.vec_of (n := 2) (sz := (RpI .u32).sz) hS rfl (by decide)
 have q_ := St.vec_fz ((hS.pull 2).pull 1) q0g; obtain ⟨q0c, q7, q0d, hS⟩ := q_
 replace hF := bd_s hF; obtain ⟨q8, q0h, hF⟩ := hF
 have hcall := c_exact_made q0h q0d hS
 refine o_cc call_35 (args2 rfl rfl) hcall ?_
 rintro e w' ⟨q2, q0b, c_y0_ret_1_4_8, rfl, q3, hS⟩
 refine ⟨_, rfl, ?_⟩
 have e_ := q3.n; subst e_
 refine o_storeAgg (news := [.bool q8.fneg, .slice q2 q8.fmag.length c_y0_ret_1_4_8]) agg_41 q9 rfl rfl (by simp [over_length]) (hS.pull 1) (fun w' hS => ?_)
 refine x_done <| ?_
 have e_ := sinj hF; subst e_
 exact x_return ⟨_, ⟨_, _, _, rfl, q9, ldvA agg_41 rfl (fun j v hj => by rw [add0]; exact St.cell hS hj), rfl⟩, q0c, q2, q8.fmag.length, c_y0_ret_1_4_8, rfl, q7, q3, hS.drop⟩
attribute [irreducible] P_exact_Of

def P_exact_begin_L7 (q4 : List Int) : (List T_exact_Int × Int) → Option ((List T_exact_Int × Int) ⊕ List T_exact_Int) := fun (q3, q2) =>
 if q2 < (q4.length : Int) then
  ck (inb q2 q4.length) <|
  lv (gt q4 q2) fun x28 =>
  bd (P_exact_Of x28) fun q6 =>
  lv (q3 ++ [q6]) fun q5 =>
  ck (apOk 32 q5.length) <|
  ar (q2 + 1) fun x34 =>
  some (Sum.inl (q5, x34))
 else
  some (Sum.inr q3)
def P_exact_begin_L12 (more1 : List (List Int)) (q3 : Int) : (List T_exact_Int × Int) → Option ((List T_exact_Int × Int) ⊕ List T_exact_Int) := fun (q4, q2) =>
 if q2 < (more1.length : Int) then
  ck (inb q2 more1.length) <|
  lv (gt more1 q2) fun q5 =>
  ck (inb q3 q5.length) <|
  lv (gt q5 q3) fun x45 =>
  bd (P_exact_Of x45) fun q7 =>
  lv (q4 ++ [q7]) fun q6 =>
  ck (apOk 32 q6.length) <|
  ar (q2 + 1) fun x49 =>
  some (Sum.inl (q6, x49))
 else
  some (Sum.inr q4)
def P_exact_begin_L3 (a0 : List (List Int)) (more1 : List (List Int)) : (Int × List (List T_exact_Int)) → Option ((Int × List (List T_exact_Int)) ⊕ List (List T_exact_Int)) := fun (q2, q3) =>
 if q2 < (a0.length : Int) then
  ck (inb q2 a0.length) <|
  lv (gt a0 q2) fun q7 =>
  bd (
   lp (P_exact_begin_L7 q7) fuel ([], 0)) fun q6 =>
  bd (
   lp (P_exact_begin_L12 more1 q2) fuel (q6, 0)) fun q5 =>
  lv (q3 ++ [q5]) fun q4 =>
  ck (apOk 24 q4.length) <|
  ar (q2 + 1) fun x60 =>
  some (Sum.inl (x60, q4))
 else
  some (Sum.inr q3)
def P_exact_begin (a0 : List (List Int)) (more1 : List (List Int)) : Option (List (List T_exact_Int) × Bool × List Int) :=
 bd (P_exact_Of 1) fun q3 =>
 bd (
  lp (P_exact_begin_L3 a0 more1) fuel (0, [])) fun q2 =>
 some (q2, q3.fneg, q3.fmag)
theorem c_exact_begin {w0 w : World} {l : List Assn} {ρ : Heap} {q1h : Option Addr} {q3c : Nat} {c_a0 : Nat} {q0d : Option Addr} {q25 : Nat} {c_more1 : Nat} {a0 : List (List Int)} {more1 : List (List Int)} {r : (List (List T_exact_Int) × Bool × List Int)} (hF : P_exact_begin a0 more1 = some r) (q2z : RdS (RpSl (RpI .i64)) ρ q1h q3c c_a0 a0) (q1q : RdS (RpSl (RpI .i64)) ρ q0d q25 c_more1 more1) (hS : St w0 w (ro ρ :: l)) :
  Calls Try.prog 40 #[.slice q1h q3c c_a0, .slice q0d q25 c_more1] w fun e w' => ∃ (ρ' : Heap) (q1u : Nat) (q0q : Option Addr) (q0b : Nat) (c_b_y0_ret_0_ret : Nat) (q0j : List Value) (q0r : Option Addr) (q0s : Nat) (c_b_y0_ret_2_ret : Nat), e = .returned (.pointer (some ⟨q1u, 0, none⟩)) ∧ Le ρ ρ' ∧ RepL (RpSl R_exact_Int) ρ' r.1 q0j ∧ RdS (RpI .u32) ρ' q0r q0s c_b_y0_ret_2_ret r.2.2 ∧ St w0 w' (cells q1u 87 [.slice q0q q0b c_b_y0_ret_0_ret, .bool r.2.1, .slice q0r q0s c_b_y0_ret_2_ret, .bool false, .int .i64 0] :: vec 88 (RpSl R_exact_Int).sz (.slice q0q q0b c_b_y0_ret_0_ret) q0b q0j :: ro ρ' :: l) := by
 have e_ := q2z.n; subst e_
 have e_ := q1q.n; subst e_
 refine enterC Try.func40 rfl 62 rfl (by simp) ?_
 replace hF := bd_s hF; obtain ⟨q8, q3s, hF⟩ := hF
 refine x_seq <| x_region <| p (yl_assign rfl) <| x_done <|
  x_seq <| x_region <| ?_
 have hcall := c_exact_Of q3s  hS
 refine o_cc call_17 (args1 rfl) hcall ?_
 rintro e w' ⟨q1m, q3, q37, c_y0_ret_1_1_0, rfl, q0f, q0y, hS⟩
 refine ⟨_, rfl, ?_⟩
 have e_ := q0y.n; subst e_
 refine p (v := .agg #[.slice none 0 0, .bool q8.fneg, .slice q3 q8.fmag.length c_y0_ret_1_1_0, .bool false, .int .i64 0]) (yl_build bld_87 bldf_87 (parts_eq (pt (va := .agg #[.bool q8.fneg, .slice q3 q8.fmag.length c_y0_ret_1_1_0]) rfl pt0)) (by kernel_rfl)) <| ?_
 refine o_box (cs := [.slice none 0 0, .bool q8.fneg, .slice q3 q8.fmag.length c_y0_ret_1_1_0, .bool false, .int .i64 0]) rfl rfl hS (fun b15 w' hS => ?_)
 refine p (yl_assign rfl) <| x_done <| x_seq <| x_seq <|
  x_region <| p (yl_move rfl) <| p (yl_len_slice usl_60 rfl) <| p (yl_move rfl) <|
  x_done <| ?_
 replace hF := bd_s hF; obtain ⟨oL3, hLL3, hF⟩ := hF
 refine x_join (fun E w => ∃ (q1v : Heap) (q0k : Option Addr) (q0l : Nat) (c_b15_0_L3 : Nat) (q0g : List Value) (q11 : List (List T_exact_Int)), q11 = oL3 ∧ Le q1m q1v ∧ E 5 = .pointer (some ⟨b15, 0, none⟩) ∧ RepL (RpSl R_exact_Int) q1v q11 q0g ∧ St w0 w (cells b15 87 [.slice q0k q0l c_b15_0_L3, .bool q8.fneg, .slice q3 q8.fmag.length c_y0_ret_1_1_0, .bool false, .int .i64 0] :: vec 88 (RpSl R_exact_Int).sz (.slice q0k q0l c_b15_0_L3) q0l q0g :: ro q1v :: l)) ?_ ?_
 ·refine x_block ?_
  replace hS := St.vec_nil hS 88 (RpSl R_exact_Int).sz
  have q1i : RepL (RpSl R_exact_Int) q1m [] [] := rfl
  refine x_loop (fun k_ E w => ∃ (q0m : Heap) (q4 : Option Addr) (q0h : Nat) (c_b15_0_L3h : Nat) (q5 : List Value) (q6 : Int) (q2 : List (List T_exact_Int)), lp (P_exact_begin_L3 a0 more1) k_ (q6, q2) = some oL3 ∧ Le q1m q0m ∧ E 1 = .slice q0d more1.length c_more1 ∧ E 5 = .pointer (some ⟨b15, 0, none⟩) ∧ E 16 = .slice q1h a0.length c_a0 ∧ E 17 = .int .i64 (a0.length : Int) ∧ E 18 = .int .i64 q6 ∧ RepL (RpSl R_exact_Int) q0m q2 q5 ∧ St w0 w (cells b15 87 [.slice q4 q0h c_b15_0_L3h, .bool q8.fneg, .slice q3 q8.fmag.length c_y0_ret_1_1_0, .bool false, .int .i64 0] :: vec 88 (RpSl R_exact_Int).sz (.slice q4 q0h c_b15_0_L3h) q0h q5 :: ro q0m :: l)) fuel ⟨q1m, none, 0, 0, [], 0, [], hLL3, (Le.refl _), rfl, rfl, rfl, rfl, rfl, q1i, (((hS.pull 2).pull 1).pull 2)⟩ ?_
  rintro kL3 E w ⟨q0m, q4, q0h, c_b15_0_L3h, q5, q6, q2, hLL3, q7, q3d, q2o, q26, q27, q1d, q0x, hS⟩
  have e_ := St.vec_n (hS.pull 1) q0x; subst e_
  replace hLL3 := lp_s hLL3; obtain ⟨kL3, obL3, rfl, hFL3, hLL3⟩ := hLL3
  refine x_seq <| x_region <| p (yl_lss q1d q27) <| x_done <|
   x_seq <|
   x_cond_p (q6 < (a0.length : Int)) rfl (fun hc19 => ?_) (fun hc19 => ?_)
  ·replace hFL3 := it_t hc19 hFL3
   replace hFL3 := ck_s hFL3; obtain ⟨q31, hFL3⟩ := hFL3
   replace hFL3 := lv_s hFL3; obtain ⟨q2l, q3t, hFL3⟩ := hFL3
   have q_ := q2z.get q31; obtain ⟨q45, q32, q3u⟩ := q_
   rw [← q3t] at q32
   obtain ⟨q42, q4a, q43, rfl, q30⟩ := q32
   have e_ := q30.n; subst e_
   refine x_skip <| x_seq <| x_block <| x_seq <|
    x_region <| p (yl_move q1d) <| p (yix_f sl_60 q26 q1d (q2z.le (q0f.trans q7)) q31) <| pa (at_load one_61 rfl (Elt.ld (j := 0) (Elt.le q3u (q0f.trans q7)) (hS.pull 2) rfl)) <|
    p (yl_assign rfl) <| p (yl_assign rfl) <| x_done <| x_seq <|
    x_region <| p (yl_assign rfl) <| x_done <| x_seq <|
    x_seq <| x_region <| p (yl_move rfl) <| p (yl_len_slice usl_61 rfl) <|
    p (yl_move rfl) <| x_done <| ?_
   replace hFL3 := bd_s hFL3; obtain ⟨oL7, hLL7, hFL3⟩ := hFL3
   refine x_join (fun E w => ∃ (q1j : Heap) (q1e : Option Addr) (q1f : Nat) (c_l8_L7 : Nat) (q12 : List Value) (q1n : List T_exact_Int), q1n = oL7 ∧ Le q0m q1j ∧ E 1 = .slice q0d more1.length c_more1 ∧ E 5 = .pointer (some ⟨b15, 0, none⟩) ∧ E 6 = .int .i64 q6 ∧ E 8 = .slice q1e q1f c_l8_L7 ∧ E 16 = .slice q1h a0.length c_a0 ∧ E 17 = .int .i64 (a0.length : Int) ∧ E 18 = .int .i64 q6 ∧ RepL R_exact_Int q1j q1n q12 ∧ St w0 w (cells b15 87 [.slice q4 q2.length c_b15_0_L3h, .bool q8.fneg, .slice q3 q8.fmag.length c_y0_ret_1_1_0, .bool false, .int .i64 0] :: vec 41 R_exact_Int.sz (.slice q1e q1f c_l8_L7) q1f q12 :: vec 88 (RpSl R_exact_Int).sz (.slice q4 q2.length c_b15_0_L3h) q2.length q5 :: ro q1j :: l)) ?_ ?_
   ·refine x_block ?_
    replace hS := St.vec_nil hS 41 R_exact_Int.sz
    have q1s : RepL R_exact_Int q0m [] [] := rfl
    refine x_loop (fun k_ E w => ∃ (q1o : Heap) (q13 : Option Addr) (q14 : Nat) (c_l8_L7h : Nat) (q0t : List Value) (q19 : List T_exact_Int) (q1g : Int), lp (P_exact_begin_L7 q2l) k_ (q19, q1g) = some oL7 ∧ Le q0m q1o ∧ E 1 = .slice q0d more1.length c_more1 ∧ E 5 = .pointer (some ⟨b15, 0, none⟩) ∧ E 6 = .int .i64 q6 ∧ E 8 = .slice q13 q14 c_l8_L7h ∧ E 16 = .slice q1h a0.length c_a0 ∧ E 17 = .int .i64 (a0.length : Int) ∧ E 18 = .int .i64 q6 ∧ E 23 = .slice q42 q2l.length q43 ∧ E 24 = .int .i64 (q2l.length : Int) ∧ E 25 = .int .i64 q1g ∧ RepL R_exact_Int q1o q19 q0t ∧ St w0 w (cells b15 87 [.slice q4 q2.length c_b15_0_L3h, .bool q8.fneg, .slice q3 q8.fmag.length c_y0_ret_1_1_0, .bool false, .int .i64 0] :: vec 41 R_exact_Int.sz (.slice q13 q14 c_l8_L7h) q14 q0t :: vec 88 (RpSl R_exact_Int).sz (.slice q4 q2.length c_b15_0_L3h) q2.length q5 :: ro q1o :: l)) fuel ⟨q0m, none, 0, 0, [], [], 0, hLL7, (Le.refl _), q3d, q2o, rfl, rfl, q26, q27, q1d, rfl, rfl, rfl, q1s, ((((hS.pull 3).pull 3).pull 2).pull 3)⟩ ?_
    rintro kL7 E w ⟨q1o, q13, q14, c_l8_L7h, q0t, q19, q1g, hLL7, q15, q2p, q2q, q2r, q2s, q28, q29, q2a, q2b, q2c, q1r, q1k, hS⟩
    have e_ := St.vec_n (hS.pull 1) q1k; subst e_
    replace hLL7 := lp_s hLL7; obtain ⟨kL7, obL7, rfl, hFL7, hLL7⟩ := hLL7
    refine x_seq <| x_region <| p (yl_lss q1r q2c) <| x_done <|
     x_seq <|
     x_cond_p (q1g < (q2l.length : Int)) rfl (fun hc26 => ?_) (fun hc26 => ?_)
    ·replace hFL7 := it_t hc26 hFL7
     replace hFL7 := ck_s hFL7; obtain ⟨q33, hFL7⟩ := hFL7
     replace hFL7 := lv_s hFL7; obtain ⟨x28, hx28, hFL7⟩ := hFL7
     replace hFL7 := bd_s hFL7; obtain ⟨q16, q3v, hFL7⟩ := hFL7
     refine x_skip <| x_seq <| x_block <| x_seq <|
      x_region <| p (yix_f sl_61 q2b q1r (q30.le ((q0f.trans q7).trans q15)) q33) <| pa (at_load one_2 rfl (RdS.getW (q30.le ((q0f.trans q7).trans q15)) (hS.pull 3) q33 hx28)) <| p (yl_assign rfl) <|
      x_done <| x_region <| p (yl_move q2s) <| p (yl_move rfl) <| ?_
     have hcall := c_exact_Of q3v  (hS.pull 3)
     refine o_cc call_17 (args1 rfl) hcall ?_
     rintro e w' ⟨q2t, q0a, q38, c_y0_ret_1_9_2, rfl, q2u, q0z, hS⟩
     refine ⟨_, rfl, ?_⟩
     have e_ := q0z.n; subst e_
     refine o_buildSlice (vs := [.agg #[.bool q16.fneg, .slice q0a q16.fmag.length c_y0_ret_1_9_2]]) (cs := [.bool q16.fneg, .slice q0a q16.fmag.length c_y0_ret_1_9_2]) sl_88 zero_41 (parts_eq (pt (va := .agg #[.bool q16.fneg, .slice q0a q16.fmag.length c_y0_ret_1_9_2]) rfl pt0)) rfl (by intro v hv; simp only [List.mem_cons, List.not_mem_nil, or_false] at hv; first | (subst hv; rfl) | (rcases hv with rfl <;> rfl)) (by decide) rfl hS (fun b32 w' hS => ?_)
     replace hFL7 := lv_s hFL7; obtain ⟨q3e, q3w, hFL7⟩ := hFL7
     replace hFL7 := ck_s hFL7; obtain ⟨q3x, hFL7⟩ := hFL7
     refine o_ap sl_88 zero_41 rfl (by decide) rfl rfl (hS.pull 3) (q1k.le q2u) (src_blk usl_88 hS rfl rfl) (RepL.cons (R := R_exact_Int) (ρ := q2t) (x := q16) (cs := [.bool q16.fneg, .slice q0a q16.fmag.length c_y0_ret_1_9_2]) ⟨_, _, _, rfl, q0z⟩ RepL.nil) q3w q3x (fun A33 c33 cs33 w' hr33 hS => ?_)
     replace hFL7 := ar_s hFL7; obtain ⟨x34, hx34, hFL7⟩ := hFL7
     refine p (yl_assign rfl) <| x_done <| x_blk <| x_region <|
      p (yadd q1r rfl hx34) <| p (yl_move rfl) <| x_done <| ?_
     have e_ := sinj hFL7; subst e_
     exact x_inv ⟨kL7, Nat.lt_succ_self _, q2t, A33, q3e.length, c33, cs33, q3e, x34, hLL7, (q15.trans q2u), q2p, q2q, q2r, rfl, q28, q29, q2a, q2b, q2c, rfl, hr33, (((((hS.pull 1).drop.pull 1).pull 3).pull 2).pull 3)⟩
    ·replace hFL7 := it_f hc26 hFL7
     refine x_exitTo _ rfl <| ?_
     have e_ := sinj hFL7; subst e_
     exact x_inv ⟨q1o, q13, q19.length, c_l8_L7h, q0t, q19, hLL7, q15, q2p, q2q, q2r, q2s, q28, q29, q2a, q1k, ((((hS.pull 3).pull 3).pull 3).pull 3)⟩
   rintro E w ⟨q1j, q1e, q1f, c_l8_L7, q12, q1n, rfl, q0p, q34, q3y, q3z, q40, q3f, q3g, q3h, q2d, hS⟩
   have e_ := St.vec_n (hS.pull 1) q2d; subst e_
   refine x_seq <| x_seq <| x_region <| p (yl_move q34) <|
    p (yl_len_slice usl_60 rfl) <| p (yl_move rfl) <| x_done <| ?_
   replace hFL3 := bd_s hFL3; obtain ⟨oL12, hLL12, hFL3⟩ := hFL3
   refine x_join (fun E w => ∃ (q1t : Heap) (q0c : Option Addr) (q17 : Nat) (c_l8_L12 : Nat) (q1a : List Value) (q0i : List T_exact_Int), q0i = oL12 ∧ Le q1j q1t ∧ E 1 = .slice q0d more1.length c_more1 ∧ E 5 = .pointer (some ⟨b15, 0, none⟩) ∧ E 8 = .slice q0c q17 c_l8_L12 ∧ E 16 = .slice q1h a0.length c_a0 ∧ E 17 = .int .i64 (a0.length : Int) ∧ E 18 = .int .i64 q6 ∧ RepL R_exact_Int q1t q0i q1a ∧ St w0 w (cells b15 87 [.slice q4 q2.length c_b15_0_L3h, .bool q8.fneg, .slice q3 q8.fmag.length c_y0_ret_1_1_0, .bool false, .int .i64 0] :: vec 41 R_exact_Int.sz (.slice q0c q17 c_l8_L12) q17 q1a :: vec 88 (RpSl R_exact_Int).sz (.slice q4 q2.length c_b15_0_L3h) q2.length q5 :: ro q1t :: l)) ?_ ?_
   ·refine x_block ?_
    refine x_loop (fun k_ E w => ∃ (q1b : Heap) (q0u : Option Addr) (q0v : Nat) (c_l8_L12h : Nat) (q0n : List Value) (q10 : List T_exact_Int) (q18 : Int), lp (P_exact_begin_L12 more1 q6) k_ (q10, q18) = some oL12 ∧ Le q1j q1b ∧ E 1 = .slice q0d more1.length c_more1 ∧ E 5 = .pointer (some ⟨b15, 0, none⟩) ∧ E 6 = .int .i64 q6 ∧ E 8 = .slice q0u q0v c_l8_L12h ∧ E 16 = .slice q1h a0.length c_a0 ∧ E 17 = .int .i64 (a0.length : Int) ∧ E 18 = .int .i64 q6 ∧ E 35 = .slice q0d more1.length c_more1 ∧ E 36 = .int .i64 (more1.length : Int) ∧ E 37 = .int .i64 q18 ∧ RepL R_exact_Int q1b q10 q0n ∧ St w0 w (cells b15 87 [.slice q4 q2.length c_b15_0_L3h, .bool q8.fneg, .slice q3 q8.fmag.length c_y0_ret_1_1_0, .bool false, .int .i64 0] :: vec 41 R_exact_Int.sz (.slice q0u q0v c_l8_L12h) q0v q0n :: vec 88 (RpSl R_exact_Int).sz (.slice q4 q2.length c_b15_0_L3h) q2.length q5 :: ro q1b :: l)) fuel ⟨q1j, q1e, q1n.length, c_l8_L7, q12, q1n, 0, hLL12, (Le.refl _), q34, q3y, q3z, q40, q3f, q3g, q3h, rfl, rfl, rfl, q2d, ((((hS.pull 3).pull 3).pull 3).pull 3)⟩ ?_
    rintro kL12 E w ⟨q1b, q0u, q0v, c_l8_L12h, q0n, q10, q18, hLL12, q0e, q2e, q2f, q2g, q2h, q1w, q1x, q1y, q1z, q20, q1l, q1c, hS⟩
    have e_ := St.vec_n (hS.pull 1) q1c; subst e_
    replace hLL12 := lp_s hLL12; obtain ⟨kL12, obL12, rfl, hFL12, hLL12⟩ := hLL12
    refine x_seq <| x_region <| p (yl_lss q1l q20) <| x_done <|
     x_seq <|
     x_cond_p (q18 < (more1.length : Int)) rfl (fun hc38 => ?_) (fun hc38 => ?_)
    ·replace hFL12 := it_t hc38 hFL12
     replace hFL12 := ck_s hFL12; obtain ⟨q2v, hFL12⟩ := hFL12
     replace hFL12 := lv_s hFL12; obtain ⟨q46, q3i, hFL12⟩ := hFL12
     have q_ := q1q.get q2v; obtain ⟨q44, q2w, q3j⟩ := q_
     rw [← q3i] at q2w
     obtain ⟨q47, q48, q49, rfl, q2m⟩ := q2w
     have e_ := q2m.n; subst e_
     replace hFL12 := ck_s hFL12; obtain ⟨q2x, hFL12⟩ := hFL12
     replace hFL12 := lv_s hFL12; obtain ⟨x45, hx45, hFL12⟩ := hFL12
     replace hFL12 := bd_s hFL12; obtain ⟨q0o, q3k, hFL12⟩ := hFL12
     refine x_skip <| x_seq <| x_block <| x_seq <|
      x_region <| p (yix_f sl_60 q1z q1l (q1q.le (((q0f.trans q7).trans q0p).trans q0e)) q2v) <| pa (at_load one_61 rfl (Elt.ld (j := 0) (Elt.le q3j (((q0f.trans q7).trans q0p).trans q0e)) (hS.pull 3) rfl)) <| p (yl_assign rfl) <|
      x_done <| x_region <| p (yl_move q2h) <| p (yl_move rfl) <|
      p (yl_move q2g) <| p (yix_f sl_61 rfl rfl (q2m.le (((q0f.trans q7).trans q0p).trans q0e)) q2x) <| pa (at_load one_2 rfl (RdS.getW (q2m.le (((q0f.trans q7).trans q0p).trans q0e)) (hS.pull 3) q2x hx45)) <| ?_
     have hcall := c_exact_Of q3k  (hS.pull 3)
     refine o_cc call_17 (args1 rfl) hcall ?_
     rintro e w' ⟨q2i, q9, q35, c_y0_ret_1_14_5, rfl, q2j, q0w, hS⟩
     refine ⟨_, rfl, ?_⟩
     have e_ := q0w.n; subst e_
     refine o_buildSlice (vs := [.agg #[.bool q0o.fneg, .slice q9 q0o.fmag.length c_y0_ret_1_14_5]]) (cs := [.bool q0o.fneg, .slice q9 q0o.fmag.length c_y0_ret_1_14_5]) sl_88 zero_41 (parts_eq (pt (va := .agg #[.bool q0o.fneg, .slice q9 q0o.fmag.length c_y0_ret_1_14_5]) rfl pt0)) rfl (by intro v hv; simp only [List.mem_cons, List.not_mem_nil, or_false] at hv; first | (subst hv; rfl) | (rcases hv with rfl <;> rfl)) (by decide) rfl hS (fun b47 w' hS => ?_)
     replace hFL12 := lv_s hFL12; obtain ⟨q36, q3l, hFL12⟩ := hFL12
     replace hFL12 := ck_s hFL12; obtain ⟨q3m, hFL12⟩ := hFL12
     refine o_ap sl_88 zero_41 rfl (by decide) rfl rfl (hS.pull 3) (q1c.le q2j) (src_blk usl_88 hS rfl rfl) (RepL.cons (R := R_exact_Int) (ρ := q2i) (x := q0o) (cs := [.bool q0o.fneg, .slice q9 q0o.fmag.length c_y0_ret_1_14_5]) ⟨_, _, _, rfl, q0w⟩ RepL.nil) q3l q3m (fun A48 c48 cs48 w' hr48 hS => ?_)
     replace hFL12 := ar_s hFL12; obtain ⟨x49, hx49, hFL12⟩ := hFL12
     refine p (yl_assign rfl) <| x_done <| x_blk <| x_region <|
      p (yadd q1l rfl hx49) <| p (yl_move rfl) <| x_done <| ?_
     have e_ := sinj hFL12; subst e_
     exact x_inv ⟨kL12, Nat.lt_succ_self _, q2i, A48, q36.length, c48, cs48, q36, x49, hLL12, (q0e.trans q2j), q2e, q2f, q2g, rfl, q1w, q1x, q1y, q1z, q20, rfl, hr48, (((((hS.pull 1).drop.pull 1).pull 3).pull 2).pull 3)⟩
    ·replace hFL12 := it_f hc38 hFL12
     refine x_exitTo _ rfl <| ?_
     have e_ := sinj hFL12; subst e_
     exact x_inv ⟨q1b, q0u, q10.length, c_l8_L12h, q0n, q10, hLL12, q0e, q2e, q2f, q2h, q1w, q1x, q1y, q1c, ((((hS.pull 3).pull 3).pull 3).pull 3)⟩
   rintro E w ⟨q1t, q0c, q17, c_l8_L12, q1a, q0i, rfl, q21, q3n, q22, q3o, q39, q3a, q3b, q23, hS⟩
   have e_ := St.vec_n (hS.pull 1) q23; subst e_
   refine x_region <| p (yl_move q22) <| p (yl_move q22) <| p (yl_nilCheck rfl) <|
    p (yl_field0 fld_87_0 rfl) <| pa (at_load one_85 rfl (hS.cell rfl)) <| p (yl_move q3o) <| ?_
   have q_ := St.vec_fz ((hS.pull 3).pull 2) q23; obtain ⟨q2y, q24, q3p, hS⟩ := q_
   refine o_buildSlice (vs := [.slice q0c q0i.length c_l8_L12]) (cs := [.slice q0c q0i.length c_l8_L12]) sl_85 zero_88 (parts_eq (pt (va := .slice q0c q0i.length c_l8_L12) rfl pt0)) rfl (by intro v hv; simp only [List.mem_cons, List.not_mem_nil, or_false] at hv; first | (subst hv; rfl) | (rcases hv with rfl <;> rfl)) (by decide) rfl hS (fun b56 w' hS => ?_)
   replace hFL3 := lv_s hFL3; obtain ⟨q2n, q3q, hFL3⟩ := hFL3
   replace hFL3 := ck_s hFL3; obtain ⟨q3r, hFL3⟩ := hFL3
   refine o_ap sl_85 zero_88 rfl (by decide) rfl rfl (hS.pull 3) (q0x.le ((q0p.trans q21).trans q24)) (src_blk usl_85 hS rfl rfl) (RepL.cons (R := (RpSl R_exact_Int)) (ρ := q2y) (x := q0i) (cs := [.slice q0c q0i.length c_l8_L12]) ⟨_, _, _, rfl, q3p⟩ RepL.nil) q3q q3r (fun A57 c57 cs57 w' hr57 hS => ?_)
   refine p (yl_nilCheck rfl) <| p (yl_field0 fld_87_0 rfl) <| ?_
   refine o_store1 (v := .slice A57 q2n.length c57) one_85 rfl rfl rfl rfl (hS.pull 3) (fun w' hS => ?_)
   replace hFL3 := ar_s hFL3; obtain ⟨x60, hx60, hFL3⟩ := hFL3
   refine x_done <| x_blk <| x_region <| p (yadd q3b rfl hx60) <|
    p (yl_move rfl) <| x_done <| ?_
   have e_ := sinj hFL3; subst e_
   exact x_inv ⟨kL3, Nat.lt_succ_self _, q2y, A57, q2n.length, c57, cs57, x60, q2n, hLL3, (((q7.trans q0p).trans q21).trans q24), q3n, q22, q39, q3a, rfl, hr57, ((((hS.pull 2).drop.pull 2).pull 2).pull 2)⟩
  ·replace hFL3 := it_f hc19 hFL3
   refine x_exitTo _ rfl <| ?_
   have e_ := sinj hFL3; subst e_
   exact x_inv ⟨q0m, q4, q2.length, c_b15_0_L3h, q5, q2, hLL3, q7, q2o, q0x, (((hS.pull 2).pull 2).pull 2)⟩
 rintro E w ⟨q1v, q0k, q0l, c_b15_0_L3, q0g, q11, rfl, q2k, q41, q1p, hS⟩
 have e_ := St.vec_n (hS.pull 1) q1p; subst e_
 refine x_seq <| x_region <| p (yl_move q41) <| p (yl_assign rfl) <|
  x_done <| ?_
 have e_ := sinj hF; subst e_
 exact x_return ⟨_, ⟨_, _, rfl, rfl, rfl⟩, q1v, b15, q0k, q11.length, c_b15_0_L3, q0g, q3, q8.fmag.length, c_y0_ret_1_1_0, rfl, (q0f.trans q2k), q1p, (q0y.le q2k), (((hS.pull 2).pull 2).pull 2)⟩
attribute [irreducible] P_exact_begin

def P_exact_Sign (a0 : T_exact_Int) : Option Int :=
 if (a0.fmag.length : Int) = 0 then
  some (0 : Int)
 else
  if a0.fneg = true then
   some (-1 : Int)
  else
   some (1 : Int)
theorem c_exact_Sign {w0 w : World} {l : List Assn} {ρ : Heap} {q2 : Option Addr} {q3 : Nat} {c_a0_1 : Nat} {a0 : T_exact_Int} {r : Int} (hF : P_exact_Sign a0 = some r) (q4 : RdS (RpI .u32) ρ q2 q3 c_a0_1 a0.fmag) (hS : St w0 w (ro ρ :: l)) :
  Calls Try.prog 19 #[.agg #[.bool a0.fneg, .slice q2 q3 c_a0_1]] w fun e w' => e = .returned (.int .i64 r) ∧ St w0 w' (ro ρ :: l) := by
 have e_ := q4.n; subst e_
 refine enterC Try.func19 rfl 11 rfl (by simp) ?_
 refine x_seq <| x_region <| ?_
 refine o_box (cs := [.bool a0.fneg, .slice q2 a0.fmag.length c_a0_1]) rfl rfl hS (fun b1 w' hS => ?_)
 refine p (yl_assign rfl) <| x_done <| x_seq <| x_block <|
  x_seq <| x_region <| p (yl_field0 fld_41_1 rfl) <| pa (at_load one_39 rfl (hS.cell rfl)) <|
  p (yl_len_slice usl_39 rfl) <| p (yl_eql rfl rfl) <| p (yl_assign rfl) <| x_done <|
  x_cond_p ((a0.fmag.length : Int) = 0) rfl (fun hc3 => ?_) (fun hc3 => ?_)
 ·replace hF := it_t hc3 hF
  refine x_seq <| x_region <| p (yl_assign rfl) <| x_done <| ?_
  have e_ := sinj hF; subst e_
  exact x_return ⟨_, ⟨_, _, rfl, rfl, rfl⟩, rfl, hS.drop⟩
 ·replace hF := it_f hc3 hF
  refine x_seq <| x_region <| p (yl_field0 fld_41_0 rfl) <| pa (at_load one_4 rfl (hS.cell rfl)) <|
   p (yl_assign rfl) <| x_done <|
   x_cond (t := a0.fneg) rfl (fun hc8 => ?_) (fun hc8 => ?_)
  ·replace hF := it_t hc8 hF
   refine x_seq <| x_region <| p (yl_assign rfl) <| x_done <| ?_
   have e_ := sinj hF; subst e_
   exact x_return ⟨_, ⟨_, _, rfl, rfl, rfl⟩, rfl, hS.drop⟩
  ·replace hF := it_bf hc8 hF
   refine x_skip <| x_blk <| x_seq <| x_region <|
    p (yl_assign rfl) <| x_done <| ?_
   have e_ := sinj hF; subst e_
   exact x_return ⟨_, ⟨_, _, rfl, rfl, rfl⟩, rfl, hS.drop⟩
attribute [irreducible] P_exact_Sign

def P_exact_times_L7 (b1 : T_exact_Int) (x26 : Int) (q5 : Int) : (List Int × Int × Int) → Option ((List Int × Int × Int) ⊕ (List Int × Int)) := fun (q3, q4, q2) =>
 if q2 < (b1.fmag.length : Int) then
  ck (inb q2 b1.fmag.length) <|
  lv (gt b1.fmag q2) fun x34 =>
  ar (q5 + q2) fun x39 =>
  ck (inb x39 q3.length) <|
  lv (gt q3 x39) fun x41 =>
  lv (x41 % 18446744073709551616) fun x42 =>
  lv (x26 % 18446744073709551616) fun x44 =>
  lv (x34 % 18446744073709551616) fun x46 =>
  lv ((x44 * x46) % 18446744073709551616) fun x47 =>
  lv ((x42 + x47) % 18446744073709551616) fun x48 =>
  lv ((q4 + x48) % 18446744073709551616) fun x49 =>
  ar (q5 + q2) fun x53 =>
  lv (x49 % 4294967296) fun x55 =>
  ck (inb x53 q3.length) <|
  lv (stt q3 x53 x55) fun q6 =>
  ck (0 ≤ (32 : Int)) <|
  lv (shr .u64 x49 32) fun x58 =>
  ar (q2 + 1) fun x59 =>
  some (Sum.inl (q6, x58, x59))
 else
  some (Sum.inr (q3, q4))
def P_exact_times_L3 (a0 : T_exact_Int) (b1 : T_exact_Int) : (List Int × Int) → Option ((List Int × Int) ⊕ List Int) := fun (q3, q2) =>
 if q2 < (a0.fmag.length : Int) then
  ck (inb q2 a0.fmag.length) <|
  lv (gt a0.fmag q2) fun x26 =>
  bd (
   lp (P_exact_times_L7 b1 x26 q2) fuel (q3, 0, 0)) fun (q4, q5) =>
  ar (q2 + (b1.fmag.length : Int)) fun x65 =>
  lv (q5 % 4294967296) fun x67 =>
  ck (inb x65 q4.length) <|
  lv (stt q4 x65 x67) fun q6 =>
  ar (q2 + 1) fun x69 =>
  some (Sum.inl (q6, x69))
 else
  some (Sum.inr q3)
def P_exact_times (a0 : T_exact_Int) (b1 : T_exact_Int) : Option T_exact_Int :=
 ar ((a0.fmag.length : Int) + (b1.fmag.length : Int)) fun x17 =>
 ck (mkOk 4 x17) <|
 lv ((List.replicate (x17 : Int).toNat 0 : List Int)) fun q4 =>
 bd (
  lp (P_exact_times_L3 a0 b1) fuel (q4, 0)) fun q2 =>
 bd (P_exact_made (!(a0.fneg == b1.fneg)) q2) fun q3 =>
 some q3
theorem c_exact_times {w0 w : World} {l : List Assn} {ρ : Heap} {q4 : Option Addr} {q13 : Nat} {c_a0_1 : Nat} {q8 : Option Addr} {q14 : Nat} {c_b1_1 : Nat} {a0 : T_exact_Int} {b1 : T_exact_Int} {r : T_exact_Int} (hF : P_exact_times a0 b1 = some r) (q0s : RdS (RpI .u32) ρ q4 q13 c_a0_1 a0.fmag) (q0t : RdS (RpI .u32) ρ q8 q14 c_b1_1 b1.fmag) (hS : St w0 w (ro ρ :: l)) :
  Calls Try.prog 29 #[.agg #[.bool a0.fneg, .slice q4 q13 c_a0_1], .agg #[.bool b1.fneg, .slice q8 q14 c_b1_1]] w fun e w' => ∃ (ρ' : Heap) (q0k : Option Addr) (q0l : Nat) (c_y0_ret_1 : Nat), e = .returned (.agg #[.bool r.fneg, .slice q0k q0l c_y0_ret_1]) ∧ Le ρ ρ' ∧ RdS (RpI .u32) ρ' q0k q0l c_y0_ret_1 r.fmag ∧ St w0 w' (ro ρ' :: l) := by
 have e_ := q0s.n; subst e_
 have e_ := q0t.n; subst e_
 refine enterC Try.func29 rfl 77 rfl (by simp) ?_
 refine x_seq <| x_region <| ?_
 refine o_box (cs := [.bool a0.fneg, .slice q4 a0.fmag.length c_a0_1]) rfl rfl hS (fun b2 w' hS => ?_)
 refine o_box (cs := [.bool b1.fneg, .slice q8 b1.fmag.length c_b1_1]) rfl rfl hS (fun b3 w' hS => ?_)
 refine o_alloc zero_41 hS (fun b4 w' hS => ?_)
 replace hF := ar_s hF; obtain ⟨x17, hx17, hF⟩ := hF
 refine x_done <| x_seq <| x_region <| p (yl_field0 fld_41_1 rfl) <|
  pa (at_load one_39 rfl ((hS.pull 2).cell rfl)) <| p (yl_len_slice usl_39 rfl) <| p (yl_field0 fld_41_1 rfl) <| pa (at_load one_39 rfl ((hS.pull 1).cell rfl)) <|
  p (yl_len_slice usl_39 rfl) <| p (yadd rfl rfl hx17) <| ?_
 replace hF := ck_s hF; obtain ⟨q21, hF⟩ := hF
 replace hF := lv_s hF; obtain ⟨q2, q22, hF⟩ := hF
 refine o_mk sl_39 zero_77 (show (RpI .u32).ok ρ _ 0 from rfl) rfl rfl q21 (by decide) q22 hS (fun A18 cs18 w' hr18 hS => ?_)
 refine p (yl_assign rfl) <| x_done <| x_seq <| x_seq <|
  x_region <| p (yl_field0 fld_41_1 rfl) <| pa (at_load one_39 rfl ((hS.pull 3).cell rfl)) <| p (yl_len_slice usl_39 rfl) <|
  p (yl_move rfl) <| x_done <| ?_
 replace hF := bd_s hF; obtain ⟨oL3, hLL3, hF⟩ := hF
 refine x_join (fun E w => ∃ (q0d : List Value) (q0p : List Int), q0p = oL3 ∧ E 2 = .pointer (some ⟨b2, 0, none⟩) ∧ E 3 = .pointer (some ⟨b3, 0, none⟩) ∧ E 4 = .pointer (some ⟨b4, 0, none⟩) ∧ E 5 = .slice A18 q2.length q2.length ∧ RepL (RpI .u32) ρ q0p q0d ∧ St w0 w (cells b2 41 [.bool a0.fneg, .slice q4 a0.fmag.length c_a0_1] :: cells b3 41 [.bool b1.fneg, .slice q8 b1.fmag.length c_b1_1] :: cells b4 41 [.bool false, .slice none 0 0] :: vec 77 (RpI .u32).sz (.slice A18 q2.length q2.length) q2.length q0d :: ro ρ :: l)) ?_ ?_
 ·refine x_block ?_
  refine x_loop (fun k_ E w => ∃ (q5 : List Value) (q0a : List Int) (q3 : Int), lp (P_exact_times_L3 a0 b1) k_ (q0a, q3) = some oL3 ∧ E 2 = .pointer (some ⟨b2, 0, none⟩) ∧ E 3 = .pointer (some ⟨b3, 0, none⟩) ∧ E 4 = .pointer (some ⟨b4, 0, none⟩) ∧ E 5 = .slice A18 q2.length q2.length ∧ E 20 = .slice q4 a0.fmag.length c_a0_1 ∧ E 21 = .int .i64 (a0.fmag.length : Int) ∧ E 22 = .int .i64 q3 ∧ RepL (RpI .u32) ρ q0a q5 ∧ St w0 w (cells b2 41 [.bool a0.fneg, .slice q4 a0.fmag.length c_a0_1] :: cells b3 41 [.bool b1.fneg, .slice q8 b1.fmag.length c_b1_1] :: cells b4 41 [.bool false, .slice none 0 0] :: vec 77 (RpI .u32).sz (.slice A18 q2.length q2.length) q2.length q5 :: ro ρ :: l)) fuel ⟨cs18, q2, 0, hLL3, rfl, rfl, rfl, rfl, rfl, rfl, rfl, hr18, (((((hS.pull 4).pull 1).pull 2).pull 3).pull 4)⟩ ?_
  rintro kL3 E w ⟨q5, q0a, q3, hLL3, q15, q0u, q16, q17, q0v, q0w, q0h, q0m, hS⟩
  replace hLL3 := lp_s hLL3; obtain ⟨kL3, obL3, rfl, hFL3, hLL3⟩ := hLL3
  refine x_seq <| x_region <| p (yl_lss q0h q0w) <| x_done <|
   x_seq <|
   x_cond_p (q3 < (a0.fmag.length : Int)) rfl (fun hc23 => ?_) (fun hc23 => ?_)
  ·replace hFL3 := it_t hc23 hFL3
   replace hFL3 := ck_s hFL3; obtain ⟨q1h, hFL3⟩ := hFL3
   replace hFL3 := lv_s hFL3; obtain ⟨x26, hx26, hFL3⟩ := hFL3
   refine x_skip <| x_seq <| x_block <| x_seq <|
    x_region <| p (yl_move q0h) <| p (yix_f sl_39 q0v q0h q0s q1h) <| pa (at_load one_77 rfl (RdS.getW q0s (hS.pull 4) q1h hx26)) <|
    p (yl_assign rfl) <| p (yl_assign rfl) <| x_done <| x_seq <|
    x_region <| p (yl_assign rfl) <| x_done <| x_seq <|
    x_seq <| x_region <| p (yl_field0 fld_41_1 q0u) <| pa (at_load one_39 rfl ((hS.pull 1).cell rfl)) <|
    p (yl_len_slice usl_39 rfl) <| p (yl_move rfl) <| x_done <| ?_
   replace hFL3 := bd_s hFL3; obtain ⟨oL7, hLL7, hFL3⟩ := hFL3
   refine x_join (fun E w => ∃ (q0e : List Value) (q0q : List Int) (q0g : Int), (q0q, q0g) = oL7 ∧ E 2 = .pointer (some ⟨b2, 0, none⟩) ∧ E 3 = .pointer (some ⟨b3, 0, none⟩) ∧ E 4 = .pointer (some ⟨b4, 0, none⟩) ∧ E 5 = .slice A18 q2.length q2.length ∧ E 6 = .int .i64 q3 ∧ E 8 = .int .u64 q0g ∧ E 20 = .slice q4 a0.fmag.length c_a0_1 ∧ E 21 = .int .i64 (a0.fmag.length : Int) ∧ E 22 = .int .i64 q3 ∧ RepL (RpI .u32) ρ q0q q0e ∧ St w0 w (cells b2 41 [.bool a0.fneg, .slice q4 a0.fmag.length c_a0_1] :: cells b3 41 [.bool b1.fneg, .slice q8 b1.fmag.length c_b1_1] :: cells b4 41 [.bool false, .slice none 0 0] :: vec 77 (RpI .u32).sz (.slice A18 q2.length q2.length) q2.length q0e :: ro ρ :: l)) ?_ ?_
   ·refine x_block ?_
    refine x_loop (fun k_ E w => ∃ (q7 : List Value) (q0f : List Int) (q9 : Int) (q0i : Int), lp (P_exact_times_L7 b1 x26 q3) k_ (q0f, q9, q0i) = some oL7 ∧ E 2 = .pointer (some ⟨b2, 0, none⟩) ∧ E 3 = .pointer (some ⟨b3, 0, none⟩) ∧ E 4 = .pointer (some ⟨b4, 0, none⟩) ∧ E 5 = .slice A18 q2.length q2.length ∧ E 6 = .int .i64 q3 ∧ E 7 = .int .u32 x26 ∧ E 8 = .int .u64 q9 ∧ E 20 = .slice q4 a0.fmag.length c_a0_1 ∧ E 21 = .int .i64 (a0.fmag.length : Int) ∧ E 22 = .int .i64 q3 ∧ E 28 = .slice q8 b1.fmag.length c_b1_1 ∧ E 29 = .int .i64 (b1.fmag.length : Int) ∧ E 30 = .int .i64 q0i ∧ RepL (RpI .u32) ρ q0f q7 ∧ St w0 w (cells b2 41 [.bool a0.fneg, .slice q4 a0.fmag.length c_a0_1] :: cells b3 41 [.bool b1.fneg, .slice q8 b1.fmag.length c_b1_1] :: cells b4 41 [.bool false, .slice none 0 0] :: vec 77 (RpI .u32).sz (.slice A18 q2.length q2.length) q2.length q7 :: ro ρ :: l)) fuel ⟨q5, q0a, 0, 0, hLL7, q15, q0u, q16, q17, rfl, rfl, rfl, q0v, q0w, q0h, rfl, rfl, rfl, q0m, (((((hS.pull 4).pull 4).pull 4).pull 4).pull 4)⟩ ?_
    rintro kL7 E w ⟨q7, q0f, q9, q0i, hLL7, q18, q19, q1a, q0n, q0o, q1b, q1c, q0x, q0y, q0z, q10, q11, q0j, q6, hS⟩
    replace hLL7 := lp_s hLL7; obtain ⟨kL7, obL7, rfl, hFL7, hLL7⟩ := hLL7
    refine x_seq <| x_region <| p (yl_lss q0j q11) <| x_done <|
     x_seq <|
     x_cond_p (q0i < (b1.fmag.length : Int)) rfl (fun hc31 => ?_) (fun hc31 => ?_)
    ·replace hFL7 := it_t hc31 hFL7
     replace hFL7 := ck_s hFL7; obtain ⟨q1i, hFL7⟩ := hFL7
     replace hFL7 := lv_s hFL7; obtain ⟨x34, hx34, hFL7⟩ := hFL7
     replace hFL7 := ar_s hFL7; obtain ⟨x39, hx39, hFL7⟩ := hFL7
     replace hFL7 := ck_s hFL7; obtain ⟨q1j, hFL7⟩ := hFL7
     replace hFL7 := lv_s hFL7; obtain ⟨x41, hx41, hFL7⟩ := hFL7
     replace hFL7 := lv_s hFL7; obtain ⟨x42, hx42, hFL7⟩ := hFL7
     replace hFL7 := lv_s hFL7; obtain ⟨x44, hx44, hFL7⟩ := hFL7
     replace hFL7 := lv_s hFL7; obtain ⟨x46, hx46, hFL7⟩ := hFL7
     replace hFL7 := lv_s hFL7; obtain ⟨x47, hx47, hFL7⟩ := hFL7
     replace hFL7 := lv_s hFL7; obtain ⟨x48, hx48, hFL7⟩ := hFL7
     replace hFL7 := lv_s hFL7; obtain ⟨x49, hx49, hFL7⟩ := hFL7
     replace hFL7 := ar_s hFL7; obtain ⟨x53, hx53, hFL7⟩ := hFL7
     replace hFL7 := lv_s hFL7; obtain ⟨x55, hx55, hFL7⟩ := hFL7
     replace hFL7 := ck_s hFL7; obtain ⟨q1d, hFL7⟩ := hFL7
     refine x_skip <| x_seq <| x_block <| x_seq <|
      x_region <| p (yl_move q0j) <| p (yix_f sl_39 q10 q0j q0t q1i) <| pa (at_load one_77 rfl (RdS.getW q0t (hS.pull 4) q1i hx34)) <|
      p (yl_assign rfl) <| p (yl_assign rfl) <| x_done <| x_seq <|
      x_region <| p (yl_move q1c) <| p (yl_move q0n) <| p (yl_move q0o) <|
      p (yl_move rfl) <| p (yadd rfl rfl hx39) <| p (yix_o sl_39 rfl rfl (hS.pull 3) q6 q1j) <| pa (at_load one_77 rfl (RepL.getW q6 (hS.pull 3) q1j hx41)) <|
      p (yconvu wm_u64 uk_77 ik_75 rfl hx42) <| p (yl_move q1b) <| p (yconvu wm_u64 uk_77 ik_75 rfl hx44) <| p (yl_move rfl) <|
      p (yconvu wm_u64 uk_77 ik_75 rfl hx46) <| p (ymulu wm_u64 rfl rfl hx47) <| p (yaddu wm_u64 rfl rfl hx48) <| p (yaddu wm_u64 rfl rfl hx49) <|
      p (yl_assign rfl) <| x_done <| x_seq <| x_region <|
      p (yl_move q0n) <| p (yl_move q0o) <| p (yl_move rfl) <| p (yadd rfl rfl hx53) <|
      p (yl_move rfl) <| p (yconvu wm_u32 uk_75 ik_77 rfl hx55) <| p (yix_o sl_39 rfl rfl (hS.pull 3) q6 q1d) <| ?_
     replace hFL7 := lv_s hFL7; obtain ⟨q23, q1o, hFL7⟩ := hFL7
     refine o_put' (news := [.int .u32 x55]) sz_77 rfl rfl rfl rfl (o := 0) rfl q1d rfl (hS.pull 3) q6 (Le.refl _) (fun c hc => ok_all hc (show (RpI .u32).ok ρ [.int .u32 x55] x55 from rfl)) q1o (fun q1p w' q1q hS => ?_)
     replace hFL7 := ck_s hFL7; obtain ⟨q1r, hFL7⟩ := hFL7
     replace hFL7 := lv_s hFL7; obtain ⟨x58, hx58, hFL7⟩ := hFL7
     replace hFL7 := ar_s hFL7; obtain ⟨x59, hx59, hFL7⟩ := hFL7
     refine x_done <| x_region <| p (yl_move rfl) <| p (yshr rfl rfl q1r hx58) <|
      p (yl_assign rfl) <| x_done <| x_blk <| x_region <|
      p (yadd q0j rfl hx59) <| p (yl_move rfl) <| x_done <| ?_
     have e_ := sinj hFL7; subst e_
     exact x_inv ⟨kL7, Nat.lt_succ_self _, q1p, q23, x58, x59, hLL7, q18, q19, q1a, q0n, q0o, q1b, rfl, q0x, q0y, q0z, q10, q11, rfl, q1q, (((((hS.pull 4).pull 1).pull 4).pull 4).pull 4)⟩
    ·replace hFL7 := it_f hc31 hFL7
     refine x_exitTo _ rfl <| ?_
     have e_ := sinj hFL7; subst e_
     exact x_inv ⟨q7, q0f, q9, hLL7, q18, q19, q1a, q0n, q0o, q1c, q0x, q0y, q0z, q6, (((((hS.pull 4).pull 4).pull 4).pull 4).pull 4)⟩
   rintro E w ⟨q0e, q0q, q0g, rfl, q24, q1k, q25, q1l, q26, q27, q1s, q1t, q1u, q0r, hS⟩
   replace hFL3 := ar_s hFL3; obtain ⟨x65, hx65, hFL3⟩ := hFL3
   replace hFL3 := lv_s hFL3; obtain ⟨x67, hx67, hFL3⟩ := hFL3
   replace hFL3 := ck_s hFL3; obtain ⟨q1e, hFL3⟩ := hFL3
   refine x_region <| p (yl_move q1l) <| p (yl_move q26) <| p (yl_field0 fld_41_1 q1k) <|
    pa (at_load one_39 rfl ((hS.pull 1).cell rfl)) <| p (yl_len_slice usl_39 rfl) <| p (yadd rfl rfl hx65) <| p (yl_move q27) <|
    p (yconvu wm_u32 uk_75 ik_77 rfl hx67) <| p (yix_o sl_39 rfl rfl (hS.pull 3) q0r q1e) <| ?_
   replace hFL3 := lv_s hFL3; obtain ⟨q28, q1v, hFL3⟩ := hFL3
   refine o_put' (news := [.int .u32 x67]) sz_77 rfl rfl rfl rfl (o := 0) rfl q1e rfl (hS.pull 3) q0r (Le.refl _) (fun c hc => ok_all hc (show (RpI .u32).ok ρ [.int .u32 x67] x67 from rfl)) q1v (fun q1w w' q1x hS => ?_)
   replace hFL3 := ar_s hFL3; obtain ⟨x69, hx69, hFL3⟩ := hFL3
   refine x_done <| x_blk <| x_region <| p (yadd q1u rfl hx69) <|
    p (yl_move rfl) <| x_done <| ?_
   have e_ := sinj hFL3; subst e_
   exact x_inv ⟨kL3, Nat.lt_succ_self _, q1w, q28, x69, hLL3, q24, q1k, q25, q1l, q1s, q1t, rfl, q1x, (((((hS.pull 4).pull 1).pull 4).pull 4).pull 4)⟩
  ·replace hFL3 := it_f hc23 hFL3
   refine x_exitTo _ rfl <| ?_
   have e_ := sinj hFL3; subst e_
   exact x_inv ⟨q5, q0a, hLL3, q15, q0u, q16, q17, q0m, (((((hS.pull 4).pull 4).pull 4).pull 4).pull 4)⟩
 rintro E w ⟨q0d, q0p, rfl, q29, q2a, q1m, q2b, q1f, hS⟩
 refine x_seq <| x_region <| p (yl_field0 fld_41_0 q29) <| pa (at_load one_4 rfl (hS.cell rfl)) <|
  p (yl_field0 fld_41_0 q2a) <| pa (at_load one_4 rfl ((hS.pull 1).cell rfl)) <| p (yneb ub_4 rfl rfl) <| p (yl_move q2b) <| ?_
 have q_ := St.vec_fz ((hS.pull 4).pull 4) q1f; obtain ⟨q1y, q1g, q1z, hS⟩ := q_
 replace hF := bd_s hF; obtain ⟨q12, q20, hF⟩ := hF
 have hcall := c_exact_made q20 q1z hS
 refine o_cc call_35 (args2 rfl rfl) hcall ?_
 rintro e w' ⟨q0b, q1n, c_y0_ret_1_15_6, rfl, q0c, hS⟩
 refine ⟨_, rfl, ?_⟩
 have e_ := q0c.n; subst e_
 refine o_storeAgg (news := [.bool q12.fneg, .slice q0b q12.fmag.length c_y0_ret_1_15_6]) agg_41 q1m rfl rfl (by simp [over_length]) (hS.pull 3) (fun w' hS => ?_)
 refine x_done <| ?_
 have e_ := sinj hF; subst e_
 exact x_return ⟨_, ⟨_, _, _, rfl, q1m, ldvA agg_41 rfl (fun j v hj => by rw [add0]; exact St.cell hS hj), rfl⟩, q1y, q0b, q12.fmag.length, c_y0_ret_1_15_6, rfl, q1g, q0c, (((hS.drop.pull 1).drop.pull 1).drop)⟩
attribute [irreducible] P_exact_times

def P_exact_Neg (a0 : T_exact_Int) : Option T_exact_Int :=
 bd (P_exact_made (!a0.fneg) a0.fmag) fun q2 =>
 some q2
theorem c_exact_Neg {w0 w : World} {l : List Assn} {ρ : Heap} {q6 : Option Addr} {q7 : Nat} {c_a0_1 : Nat} {a0 : T_exact_Int} {r : T_exact_Int} (hF : P_exact_Neg a0 = some r) (q8 : RdS (RpI .u32) ρ q6 q7 c_a0_1 a0.fmag) (hS : St w0 w (ro ρ :: l)) :
  Calls Try.prog 30 #[.agg #[.bool a0.fneg, .slice q6 q7 c_a0_1]] w fun e w' => ∃ (q4 : Option Addr) (q5 : Nat) (c_y0_ret_1 : Nat), e = .returned (.agg #[.bool r.fneg, .slice q4 q5 c_y0_ret_1]) ∧ RdS (RpI .u32) ρ q4 q5 c_y0_ret_1 r.fmag ∧ St w0 w' (ro ρ :: l) := by
 have e_ := q8.n; subst e_
 refine enterC Try.func30 rfl 9 rfl (by simp) ?_
 refine x_seq <| x_region <| ?_
 refine o_box (cs := [.bool a0.fneg, .slice q6 a0.fmag.length c_a0_1]) rfl rfl hS (fun b1 w' hS => ?_)
 refine o_alloc zero_41 hS (fun b2 w' hS => ?_)
 replace hF := bd_s hF; obtain ⟨q9, q0b, hF⟩ := hF
 refine x_done <| x_seq <| x_region <| p (yl_field0 fld_41_0 rfl) <|
  pa (at_load one_4 rfl ((hS.pull 1).cell rfl)) <| p (yl_not rfl) <| p (yl_field0 fld_41_1 rfl) <| pa (at_load one_39 rfl ((hS.pull 1).cell rfl)) <| ?_
 have hcall := c_exact_made q0b q8 (hS.pull 2)
 refine o_cc call_35 (args2 rfl rfl) hcall ?_
 rintro e w' ⟨q2, q0a, c_y0_ret_1_1_5, rfl, q3, hS⟩
 refine ⟨_, rfl, ?_⟩
 have e_ := q3.n; subst e_
 refine o_storeAgg (news := [.bool q9.fneg, .slice q2 q9.fmag.length c_y0_ret_1_1_5]) agg_41 rfl rfl rfl (by simp [over_length]) (hS.pull 1) (fun w' hS => ?_)
 refine x_done <| ?_
 have e_ := sinj hF; subst e_
 exact x_return ⟨_, ⟨_, _, _, rfl, rfl, ldvA agg_41 rfl (fun j v hj => by rw [add0]; exact St.cell hS hj), rfl⟩, q2, q9.fmag.length, c_y0_ret_1_1_5, rfl, q3, ((hS.drop.pull 1).drop)⟩
attribute [irreducible] P_exact_Neg

def P_exact_addMag_L6 (q6 : List Int) (q7 : List Int) : (List Int × Int × Int) → Option ((List Int × Int × Int) ⊕ (List Int × Int)) := fun (q3, q4, q2) =>
 if q2 < (q6.length : Int) then
  ck (inb q2 q6.length) <|
  lv (gt q6 q2) fun x26 =>
  lv (x26 % 18446744073709551616) fun x29 =>
  lv ((q4 + x29) % 18446744073709551616) fun x30 =>
  bd (
   if q2 < (q7.length : Int) then
    ck (inb q2 q7.length) <|
    lv (gt q7 q2) fun x39 =>
    lv (x39 % 18446744073709551616) fun x40 =>
    lv ((x30 + x40) % 18446744073709551616) fun x41 =>
    some x41
   else
    some x30) fun q5 =>
  lv (q5 % 4294967296) fun x45 =>
  ck (inb q2 q3.length) <|
  lv (stt q3 q2 x45) fun q8 =>
  ck (0 ≤ (32 : Int)) <|
  lv (shr .u64 q5 32) fun x48 =>
  ar (q2 + 1) fun x49 =>
  some (Sum.inl (q8, x48, x49))
 else
  some (Sum.inr (q3, q4))
def P_exact_addMag (a0 : List Int) (b1 : List Int) : Option (List Int) :=
 bd (
  if (a0.length : Int) < (b1.length : Int) then
   some (b1, a0)
  else
   some (a0, b1)) fun (q2, q5) =>
 ar ((q2.length : Int) + 1) fun x18 =>
 ck (mkOk 4 x18) <|
 lv ((List.replicate (x18 : Int).toNat 0 : List Int)) fun q7 =>
 bd (
  lp (P_exact_addMag_L6 q2 q5) fuel (q7, 0, 0)) fun (q3, q4) =>
 lv (q4 % 4294967296) fun x54 =>
 ck (inb (q2.length : Int) q3.length) <|
 lv (stt q3 (q2.length : Int) x54) fun q6 =>
 some q6
theorem c_exact_addMag {w0 w : World} {l : List Assn} {ρ : Heap} {q0v : Option Addr} {q1a : Nat} {c_a0 : Nat} {q0w : Option Addr} {q1b : Nat} {c_b1 : Nat} {a0 : List Int} {b1 : List Int} {r : List Int} (hF : P_exact_addMag a0 b1 = some r) (q13 : RdS (RpI .u32) ρ q0v q1a c_a0 a0) (q14 : RdS (RpI .u32) ρ q0w q1b c_b1 b1) (hS : St w0 w (ro ρ :: l)) :
  Calls Try.prog 52 #[.slice q0v q1a c_a0, .slice q0w q1b c_b1] w fun e w' => ∃ (q0r : Option Addr) (q0g : Nat) (c_y0_ret : Nat) (q0p : List Value), e = .returned (.slice q0r q0g c_y0_ret) ∧ RepL (RpI .u32) ρ r q0p ∧ St w0 w' (vec 77 (RpI .u32).sz (.slice q0r q0g c_y0_ret) q0g q0p :: ro ρ :: l) := by
 have e_ := q13.n; subst e_
 have e_ := q14.n; subst e_
 refine enterC Try.func52 rfl 57 rfl (by simp) ?_
 refine x_seq <| x_region <| p (yl_assign rfl) <| x_done <|
  x_seq <| x_seq <| x_region <| p (yl_move rfl) <|
  p (yl_len_slice usl_39 rfl) <| p (yl_move rfl) <| p (yl_len_slice usl_39 rfl) <| p (yl_lss rfl rfl) <|
  x_done <| ?_
 replace hF := bd_s hF; obtain ⟨oc13, hFc13, hF⟩ := hF
 refine x_join (fun E w => ∃ (q4 : Option Addr) (q0h : Nat) (c_a0_c13 : Nat) (q8 : Option Addr) (q0i : Nat) (c_b1_c13 : Nat) (q2 : List Int) (q9 : List Int), (q2, q9) = oc13 ∧ E 0 = .slice q4 q0h c_a0_c13 ∧ E 1 = .slice q8 q0i c_b1_c13 ∧ RdS (RpI .u32) ρ q4 q0h c_a0_c13 q2 ∧ RdS (RpI .u32) ρ q8 q0i c_b1_c13 q9 ∧ St w0 w (ro ρ :: l)) ?_ ?_
 ·refine x_cond_p ((a0.length : Int) < (b1.length : Int)) rfl (fun hc13 => ?_) (fun hc13 => ?_)
  ·replace hFc13 := it_t hc13 hFc13
   refine x_region <| p (yl_move rfl) <| p (yl_move rfl) <| p (yl_assign rfl) <|
    p (yl_assign rfl) <| x_done <| ?_
   exact x_inv ⟨q0w, b1.length, c_b1, q0v, a0.length, c_a0, b1, a0, (sinj hFc13), rfl, rfl, q14, q13, hS⟩
  ·replace hFc13 := it_f hc13 hFc13
   refine x_skip <| ?_
   exact x_inv ⟨q0v, a0.length, c_a0, q0w, b1.length, c_b1, a0, b1, (sinj hFc13), rfl, rfl, q13, q14, hS⟩
 rintro E w ⟨q4, q0h, c_a0_c13, q8, q0i, c_b1_c13, q2, q9, rfl, q0s, q1c, q0j, q0k, hS⟩
 have e_ := q0j.n; subst e_
 have e_ := q0k.n; subst e_
 replace hF := ar_s hF; obtain ⟨x18, hx18, hF⟩ := hF
 refine x_seq <| x_region <| p (yl_move q0s) <| p (yl_len_slice usl_39 rfl) <|
  p (yadd rfl rfl hx18) <| ?_
 replace hF := ck_s hF; obtain ⟨q1n, hF⟩ := hF
 replace hF := lv_s hF; obtain ⟨q3, q1o, hF⟩ := hF
 refine o_mk sl_39 zero_77 (show (RpI .u32).ok ρ _ 0 from rfl) rfl rfl q1n (by decide) q1o hS (fun A19 cs19 w' hr19 hS => ?_)
 refine p (yl_assign rfl) <| x_done <| x_seq <| x_region <|
  p (yl_assign rfl) <| x_done <| x_seq <| x_seq <|
  x_region <| p (yl_move q0s) <| p (yl_len_slice usl_39 rfl) <| p (yl_move rfl) <|
  x_done <| ?_
 replace hF := bd_s hF; obtain ⟨oL6, hLL6, hF⟩ := hF
 refine x_join (fun E w => ∃ (q0b : List Value) (q0m : List Int) (q0f : Int), (q0m, q0f) = oL6 ∧ E 0 = .slice q4 q2.length c_a0_c13 ∧ E 5 = .slice A19 q3.length q3.length ∧ E 6 = .int .u64 q0f ∧ RepL (RpI .u32) ρ q0m q0b ∧ St w0 w (vec 77 (RpI .u32).sz (.slice A19 q3.length q3.length) q3.length q0b :: ro ρ :: l)) ?_ ?_
 ·refine x_block ?_
  refine x_loop (fun k_ E w => ∃ (q5 : List Value) (q0c : List Int) (q7 : Int) (q6 : Int), lp (P_exact_addMag_L6 q2 q9) k_ (q0c, q7, q6) = some oL6 ∧ E 0 = .slice q4 q2.length c_a0_c13 ∧ E 1 = .slice q8 q9.length c_b1_c13 ∧ E 5 = .slice A19 q3.length q3.length ∧ E 6 = .int .u64 q7 ∧ E 20 = .slice q4 q2.length c_a0_c13 ∧ E 21 = .int .i64 (q2.length : Int) ∧ E 22 = .int .i64 q6 ∧ RepL (RpI .u32) ρ q0c q5 ∧ St w0 w (vec 77 (RpI .u32).sz (.slice A19 q3.length q3.length) q3.length q5 :: ro ρ :: l)) fuel ⟨cs19, q3, 0, 0, hLL6, q0s, q1c, rfl, rfl, rfl, rfl, rfl, hr19, ((hS.pull 1).pull 1)⟩ ?_
  rintro kL6 E w ⟨q5, q0c, q7, q6, hLL6, q0t, q0l, q0u, q0x, q0n, q0o, q0a, q0d, hS⟩
  replace hLL6 := lp_s hLL6; obtain ⟨kL6, obL6, rfl, hFL6, hLL6⟩ := hLL6
  refine x_seq <| x_region <| p (yl_lss q0a q0o) <| x_done <|
   x_seq <|
   x_cond_p (q6 < (q2.length : Int)) rfl (fun hc23 => ?_) (fun hc23 => ?_)
  ·replace hFL6 := it_t hc23 hFL6
   replace hFL6 := ck_s hFL6; obtain ⟨q15, hFL6⟩ := hFL6
   replace hFL6 := lv_s hFL6; obtain ⟨x26, hx26, hFL6⟩ := hFL6
   replace hFL6 := lv_s hFL6; obtain ⟨x29, hx29, hFL6⟩ := hFL6
   replace hFL6 := lv_s hFL6; obtain ⟨x30, hx30, hFL6⟩ := hFL6
   refine x_skip <| x_seq <| x_block <| x_seq <|
    x_region <| p (yl_move q0a) <| p (yix_f sl_39 q0n q0a q0j q15) <| pa (at_load one_77 rfl (RdS.getW q0j (hS.pull 1) q15 hx26)) <|
    p (yl_assign rfl) <| p (yl_assign rfl) <| x_done <| x_seq <|
    x_region <| p (yl_move q0x) <| p (yl_move rfl) <| p (yconvu wm_u64 uk_77 ik_75 rfl hx29) <|
    p (yaddu wm_u64 rfl rfl hx30) <| p (yl_assign rfl) <| x_done <| x_seq <|
    x_seq <| x_region <| p (yl_move rfl) <| p (yl_move q0l) <|
    p (yl_len_slice usl_39 rfl) <| p (yl_lss rfl rfl) <| x_done <| ?_
   replace hFL6 := bd_s hFL6; obtain ⟨oc34, hFc34, hFL6⟩ := hFL6
   refine x_join (fun E w => ∃ (q0e : Int), q0e = oc34 ∧ E 0 = .slice q4 q2.length c_a0_c13 ∧ E 1 = .slice q8 q9.length c_b1_c13 ∧ E 5 = .slice A19 q3.length q3.length ∧ E 6 = .int .u64 q0e ∧ E 7 = .int .i64 q6 ∧ E 20 = .slice q4 q2.length c_a0_c13 ∧ E 21 = .int .i64 (q2.length : Int) ∧ E 22 = .int .i64 q6 ∧ St w0 w (vec 77 (RpI .u32).sz (.slice A19 q3.length q3.length) q3.length q5 :: ro ρ :: l)) ?_ ?_
   ·refine x_cond_p (q6 < (q9.length : Int)) rfl (fun hc34 => ?_) (fun hc34 => ?_)
    ·replace hFc34 := it_t hc34 hFc34
     replace hFc34 := ck_s hFc34; obtain ⟨q0y, hFc34⟩ := hFc34
     replace hFc34 := lv_s hFc34; obtain ⟨x39, hx39, hFc34⟩ := hFc34
     replace hFc34 := lv_s hFc34; obtain ⟨x40, hx40, hFc34⟩ := hFc34
     replace hFc34 := lv_s hFc34; obtain ⟨x41, hx41, hFc34⟩ := hFc34
     refine x_region <| p (yl_move rfl) <| p (yl_move q0l) <| p (yl_move rfl) <|
      p (yix_f sl_39 rfl rfl q0k q0y) <| pa (at_load one_77 rfl (RdS.getW q0k (hS.pull 1) q0y hx39)) <| p (yconvu wm_u64 uk_77 ik_75 rfl hx40) <| p (yaddu wm_u64 rfl rfl hx41) <|
      p (yl_assign rfl) <| x_done <| ?_
     exact x_inv ⟨x41, (sinj hFc34), q0t, q0l, q0u, rfl, rfl, q0n, q0o, q0a, ((hS.pull 1).pull 1)⟩
    ·replace hFc34 := it_f hc34 hFc34
     refine x_skip <| ?_
     exact x_inv ⟨x30, (sinj hFc34), q0t, q0l, q0u, rfl, rfl, q0n, q0o, q0a, ((hS.pull 1).pull 1)⟩
   rintro E w ⟨q0e, rfl, q1d, q1e, q0z, q10, q1f, q17, q18, q19, hS⟩
   replace hFL6 := lv_s hFL6; obtain ⟨x45, hx45, hFL6⟩ := hFL6
   replace hFL6 := ck_s hFL6; obtain ⟨q11, hFL6⟩ := hFL6
   refine x_seq <| x_region <| p (yl_move q0z) <| p (yl_move q1f) <|
    p (yl_move q10) <| p (yconvu wm_u32 uk_75 ik_77 rfl hx45) <| p (yix_o sl_39 rfl rfl hS q0d q11) <| ?_
   replace hFL6 := lv_s hFL6; obtain ⟨q1p, q1g, hFL6⟩ := hFL6
   refine o_put' (news := [.int .u32 x45]) sz_77 rfl rfl rfl rfl (o := 0) rfl q11 rfl hS q0d (Le.refl _) (fun c hc => ok_all hc (show (RpI .u32).ok ρ [.int .u32 x45] x45 from rfl)) q1g (fun q1h w' q1i hS => ?_)
   replace hFL6 := ck_s hFL6; obtain ⟨q1j, hFL6⟩ := hFL6
   replace hFL6 := lv_s hFL6; obtain ⟨x48, hx48, hFL6⟩ := hFL6
   replace hFL6 := ar_s hFL6; obtain ⟨x49, hx49, hFL6⟩ := hFL6
   refine x_done <| x_region <| p (yl_move q10) <| p (yshr rfl rfl q1j hx48) <|
    p (yl_assign rfl) <| x_done <| x_blk <| x_region <|
    p (yadd q19 rfl hx49) <| p (yl_move rfl) <| x_done <| ?_
   have e_ := sinj hFL6; subst e_
   exact x_inv ⟨kL6, Nat.lt_succ_self _, q1h, q1p, x48, x49, hLL6, q1d, q1e, q0z, rfl, q17, q18, rfl, q1i, ((hS.pull 1).pull 1)⟩
  ·replace hFL6 := it_f hc23 hFL6
   refine x_exitTo _ rfl <| ?_
   have e_ := sinj hFL6; subst e_
   exact x_inv ⟨q5, q0c, q7, hLL6, q0t, q0u, q0x, q0d, ((hS.pull 1).pull 1)⟩
 rintro E w ⟨q0b, q0m, q0f, rfl, q1q, q16, q1r, q0q, hS⟩
 replace hF := lv_s hF; obtain ⟨x54, hx54, hF⟩ := hF
 replace hF := ck_s hF; obtain ⟨q12, hF⟩ := hF
 refine x_seq <| x_region <| p (yl_move q16) <| p (yl_move q1q) <|
  p (yl_len_slice usl_39 rfl) <| p (yl_move q1r) <| p (yconvu wm_u32 uk_75 ik_77 rfl hx54) <| p (yix_o sl_39 rfl rfl hS q0q q12) <| ?_
 replace hF := lv_s hF; obtain ⟨q1s, q1k, hF⟩ := hF
 refine o_put' (news := [.int .u32 x54]) sz_77 rfl rfl rfl rfl (o := 0) rfl q12 rfl hS q0q (Le.refl _) (fun c hc => ok_all hc (show (RpI .u32).ok ρ [.int .u32 x54] x54 from rfl)) q1k (fun q1l w' q1m hS => ?_)
 refine x_done <| x_seq <| x_region <| p (yl_move q16) <|
  p (yl_assign rfl) <| x_done <| ?_
 have e_ := sinj hF; subst e_
 exact x_return ⟨_, ⟨_, _, rfl, rfl, rfl⟩, A19, q3.length, q3.length, q1l, rfl, q1m, ((hS.pull 1).pull 1)⟩
attribute [irreducible] P_exact_addMag

def P_exact_sign (n0 : Int) : Option Int :=
 lv (min (1 : Int) n0) fun x4 =>
 lv (max (-1 : Int) x4) fun x5 =>
 some x5
theorem c_exact_sign {w0 w : World} {l : List Assn} {ρ : Heap} {n0 : Int} {r : Int} (hF : P_exact_sign n0 = some r) (hS : St w0 w (ro ρ :: l)) :
  Calls Try.prog 47 #[.int .i64 n0] w fun e w' => e = .returned (.int .i64 r) ∧ St w0 w' (ro ρ :: l) := by
 refine enterC Try.func47 rfl 6 rfl (by simp) ?_
 replace hF := lv_s hF; obtain ⟨x4, hx4, hF⟩ := hF
 replace hF := lv_s hF; obtain ⟨x5, hx5, hF⟩ := hF
 refine x_seq <| x_region <| p (yl_assign rfl) <| x_done <|
  x_seq <| x_region <| p (yl_move rfl) <| p (ymin' rfl rfl hx4) <|
  p (ymax' rfl rfl hx5) <| p (yl_assign rfl) <| x_done <| ?_
 have e_ := sinj hF; subst e_
 exact x_return ⟨_, ⟨_, _, rfl, rfl, rfl⟩, rfl, hS⟩
attribute [irreducible] P_exact_sign

def P_exact_cmpMag_L4 (a0 : List Int) (b1 : List Int) : Int → Option (Int ⊕ (Unit ⊕ Int)) := fun q2 =>
 if 0 ≤ q2 then
  ck (inb q2 a0.length) <|
  lv (gt a0 q2) fun x27 =>
  ck (inb q2 b1.length) <|
  lv (gt b1 q2) fun x31 =>
  if x27 ≠ x31 then
   ck (inb q2 a0.length) <|
   lv (gt a0 q2) fun x36 =>
   ar (x36) fun x37 =>
   ck (inb q2 b1.length) <|
   lv (gt b1 q2) fun x41 =>
   ar (x41) fun x42 =>
   ar (x37 - x42) fun x43 =>
   bd (P_exact_sign x43) fun q3 =>
   some (Sum.inr (Sum.inr q3))
  else
   ar (q2 - 1) fun x23 =>
   some (Sum.inl x23)
 else
  some (Sum.inr (Sum.inl ()))
def P_exact_cmpMag (a0 : List Int) (b1 : List Int) : Option Int :=
 if (a0.length : Int) ≠ (b1.length : Int) then
  ar ((a0.length : Int) - (b1.length : Int)) fun x15 =>
  bd (P_exact_sign x15) fun q2 =>
  some q2
 else
  ar ((a0.length : Int) - 1) fun x19 =>
  bs (
   lp (P_exact_cmpMag_L4 a0 b1) fuel x19) (fun y => some y) fun _ =>
  some (0 : Int)
theorem c_exact_cmpMag {w0 w : World} {l : List Assn} {ρ : Heap} {q8 : Option Addr} {q0f : Nat} {c_a0 : Nat} {q9 : Option Addr} {q0g : Nat} {c_b1 : Nat} {a0 : List Int} {b1 : List Int} {r : Int} (hF : P_exact_cmpMag a0 b1 = some r) (q4 : RdS (RpI .u32) ρ q8 q0f c_a0 a0) (q5 : RdS (RpI .u32) ρ q9 q0g c_b1 b1) (hS : St w0 w (ro ρ :: l)) :
  Calls Try.prog 48 #[.slice q8 q0f c_a0, .slice q9 q0g c_b1] w fun e w' => e = .returned (.int .i64 r) ∧ St w0 w' (ro ρ :: l) := by
 have e_ := q4.n; subst e_
 have e_ := q5.n; subst e_
 refine enterC Try.func48 rfl 45 rfl (by simp) ?_
 refine x_seq <| x_region <| p (yl_assign rfl) <| x_done <|
  x_seq <| x_seq <| x_region <| p (yl_move rfl) <|
  p (yl_len_slice usl_39 rfl) <| p (yl_move rfl) <| p (yl_len_slice usl_39 rfl) <| p (yl_neq rfl rfl) <|
  x_done <|
  x_cond_p ((a0.length : Int) ≠ (b1.length : Int)) rfl (fun hc10 => ?_) (fun hc10 => ?_)
 ·replace hF := it_t hc10 hF
  replace hF := ar_s hF; obtain ⟨x15, hx15, hF⟩ := hF
  replace hF := bd_s hF; obtain ⟨q0j, q0i, hF⟩ := hF
  refine x_seq <| x_region <| p (yl_move rfl) <| p (yl_len_slice usl_39 rfl) <|
   p (yl_move rfl) <| p (yl_len_slice usl_39 rfl) <| p (ysub rfl rfl hx15) <| ?_
  have hcall := c_exact_sign q0i  hS
  refine o_cc call_47 (args1 rfl) (hcall) ?_
  rintro e w' ⟨rfl, hS⟩
  refine ⟨_, rfl, ?_⟩
  refine p (v := .int .i64 q0j) (yl_assign rfl) <| x_done <| ?_
  have e_ := sinj hF; subst e_
  exact x_return ⟨_, ⟨_, _, rfl, rfl, rfl⟩, rfl, hS⟩
 ·replace hF := it_f hc10 hF
  replace hF := ar_s hF; obtain ⟨x19, hx19, hF⟩ := hF
  refine x_skip <| x_seq <| x_seq <| x_region <|
   p (yl_move rfl) <| p (yl_len_slice usl_39 rfl) <| p (ysub rfl rfl hx19) <| p (yl_assign rfl) <|
   x_done <| ?_
  replace hF := bs_s hF; obtain ⟨oL4, hLL4, hF⟩ := hF
  refine x_join (fun E w => (Sum.inl (())) = oL4 ∧ St w0 w (ro ρ :: l)) ?_ ?_
  ·refine x_block ?_
   refine x_loop (fun k_ E w => ∃ (q3 : Int), lp (P_exact_cmpMag_L4 a0 b1) k_ q3 = some oL4 ∧ E 0 = .slice q8 a0.length c_a0 ∧ E 1 = .slice q9 b1.length c_b1 ∧ E 5 = .int .i64 q3 ∧ St w0 w (ro ρ :: l)) fuel ⟨x19, hLL4, rfl, rfl, rfl, hS⟩ ?_
   rintro kL4 E w ⟨q3, hLL4, q6, q7, q2, hS⟩
   replace hLL4 := lp_s hLL4; obtain ⟨kL4, obL4, rfl, hFL4, hLL4⟩ := hLL4
   refine x_seq <| x_seq <| x_region <| p (yl_move q2) <|
    p (yl_geq rfl rfl) <| x_done <|
    x_cond_p (0 ≤ q3) rfl (fun hc21 => ?_) (fun hc21 => ?_)
   ·replace hFL4 := it_t hc21 hFL4
    replace hFL4 := ck_s hFL4; obtain ⟨q0a, hFL4⟩ := hFL4
    replace hFL4 := lv_s hFL4; obtain ⟨x27, hx27, hFL4⟩ := hFL4
    replace hFL4 := ck_s hFL4; obtain ⟨q0b, hFL4⟩ := hFL4
    replace hFL4 := lv_s hFL4; obtain ⟨x31, hx31, hFL4⟩ := hFL4
    refine x_skip <| x_seq <| x_block <| x_seq <|
     x_still mixed (by kernel_rfl) hS <| q (yl_move q6) <| q (yl_move q2) <| q (yix_f sl_39 rfl rfl q4 q0a) <|
     qa (fun w' hS => at_load one_77 rfl (RdS.getW q4 hS q0a hx27)) <| q (yl_move q7) <| q (yl_move q2) <| q (yix_f sl_39 rfl rfl q5 q0b) <|
     qa (fun w' hS => at_load one_77 rfl (RdS.getW q5 hS q0b hx31)) <| q (yl_neq rfl rfl) <|
     q_done fun w' hS => ?_
    refine x_cond_p (x27 ≠ x31) rfl (fun hc32 => ?_) (fun hc32 => ?_)
    ·replace hFL4 := it_t hc32 hFL4
     replace hFL4 := ck_s hFL4; obtain ⟨q0c, hFL4⟩ := hFL4
     replace hFL4 := lv_s hFL4; obtain ⟨x36, hx36, hFL4⟩ := hFL4
     replace hFL4 := ar_s hFL4; obtain ⟨x37, hx37, hFL4⟩ := hFL4
     replace hFL4 := ck_s hFL4; obtain ⟨q0d, hFL4⟩ := hFL4
     replace hFL4 := lv_s hFL4; obtain ⟨x41, hx41, hFL4⟩ := hFL4
     replace hFL4 := ar_s hFL4; obtain ⟨x42, hx42, hFL4⟩ := hFL4
     replace hFL4 := ar_s hFL4; obtain ⟨x43, hx43, hFL4⟩ := hFL4
     replace hFL4 := bd_s hFL4; obtain ⟨q0e, q0h, hFL4⟩ := hFL4
     refine x_seq <| x_still mixed (by kernel_rfl) hS <| q (yl_move q6) <| q (yl_move q2) <|
      q (yix_f sl_39 rfl rfl q4 q0c) <| qa (fun w' hS => at_load one_77 rfl (RdS.getW q4 hS q0c hx36)) <| q (yconvi uk_77 ik_3 rfl hx37) <| q (yl_move q7) <|
      q (yl_move q2) <| q (yix_f sl_39 rfl rfl q5 q0d) <| qa (fun w' hS => at_load one_77 rfl (RdS.getW q5 hS q0d hx41)) <| q (yconvi uk_77 ik_3 rfl hx42) <|
      q (ysub rfl rfl hx43) <| qcc (v := .int .i64 q0e) call_47 (args1 rfl) (fun w' hS => by
       have hcall := c_exact_sign q0h  hS
       exact hcall) <| q (v := .int .i64 q0e) (yl_assign rfl) <|
      q_done fun w' hS => ?_
     have e_ := sinj hFL4; subst e_
     have e_ := (show _ = oL4 from hLL4); subst e_
     have e_ := sinj hF; subst e_
     exact x_return ⟨_, ⟨_, _, rfl, rfl, rfl⟩, rfl, hS⟩
    ·replace hFL4 := it_f hc32 hFL4
     replace hFL4 := ar_s hFL4; obtain ⟨x23, hx23, hFL4⟩ := hFL4
     refine x_skip <| x_blk <| x_region <| p (yl_move q2) <|
      p (ysub rfl rfl hx23) <| p (yl_assign rfl) <| x_done <| ?_
     have e_ := sinj hFL4; subst e_
     exact x_inv ⟨kL4, Nat.lt_succ_self _, x23, hLL4, q6, q7, rfl, hS⟩
   ·replace hFL4 := it_f hc21 hFL4
    refine x_exitTo _ rfl <| ?_
    have e_ := sinj hFL4; subst e_
    exact x_inv ⟨hLL4, hS⟩
  rintro E w ⟨rfl, hS⟩
  refine x_seq <| x_region <| p (yl_assign rfl) <| x_done <| ?_
  have e_ := sinj hF; subst e_
  exact x_return ⟨_, ⟨_, _, rfl, rfl, rfl⟩, rfl, hS⟩
attribute [irreducible] P_exact_cmpMag


end Go.Proofs.Ytfkncjfpgflafaa.X
