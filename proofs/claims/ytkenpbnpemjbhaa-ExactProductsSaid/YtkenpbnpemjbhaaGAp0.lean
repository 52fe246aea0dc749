/- Printed by gen.py: plain functions, and that the Go code computes them. -/
import Derived.Test.YtkenpbnpemjbhaaXI
import Derived.Test.YtkenpbnpemjbhaaYW
import Derived.Test.YtkenpbnpemjbhaaXT
namespace Go.Proofs.Ytkenpbnpemjbhaa.X
open Go Go.RowKit
set_option linter.unusedVariables false
set_option linter.unusedSimpArgs false

structure T_maskmake_Stream where
 L : List Int
 fat : Int
 deriving DecidableEq, Inhabited
structure T_exact_Int where
 fneg : Bool
 fmag : List Int
 deriving DecidableEq, Inhabited
def R_exact_Int : Rp T_exact_Int where
 sz := 2
 ok ρ cs x := ∃ A1 n1 c1, cs = [.bool x.fneg, .slice A1 n1 c1] ∧ RdS (RpI .u32) ρ A1 n1 c1 x.fmag
 pos := by decide
 len := by rintro ρ cs x ⟨A1, n1, c1, rfl, _⟩; rfl
 le := by rintro ρ ρ' cs x ⟨A1, n1, c1, rfl, h0⟩ hle; exact ⟨_, _, _, rfl, h0.le hle⟩
 one := by rintro ρ cs x ⟨A1, n1, c1, rfl, _⟩ v hv; exact allOne_spec rfl v hv
theorem R_exact_Int_d : ∃ cs, ∀ ρ, R_exact_Int.ok ρ cs default := ⟨[.bool false, .slice none 0 0], fun ρ => ⟨_, _, _, rfl, RdS.nil⟩⟩

structure T_exact_table where
 frows : List (List T_exact_Int)
 flast : T_exact_Int
 fodd : Bool
 frank : Int
 deriving DecidableEq, Inhabited
/-- ____________________________________________________________ -/
def ks_633d862b : ByteArray := ⟨#[0, 1, 2, 2, 3, 3, 3, 3, 4, 4, 4, 4, 4, 4, 4, 4, 5, 5, 5, 5, 5, 5, 5, 5, 5, 5, 5, 5, 5, 5, 5, 5, 6, 6, 6, 6, 6, 6, 6, 6, 6, 6, 6, 6, 6, 6, 6, 6, 6, 6, 6, 6, 6, 6, 6, 6, 6, 6, 6, 6, 6, 6, 6, 6, 7, 7, 7, 7, 7, 7, 7, 7, 7, 7, 7, 7, 7, 7, 7, 7, 7, 7, 7, 7, 7, 7, 7, 7, 7, 7, 7, 7, 7, 7, 7, 7, 7, 7, 7, 7, 7, 7, 7, 7, 7, 7, 7, 7, 7, 7, 7, 7, 7, 7, 7, 7, 7, 7, 7, 7, 7, 7, 7, 7, 7, 7, 7, 7, 8, 8, 8, 8, 8, 8, 8, 8, 8, 8, 8, 8, 8, 8, 8, 8, 8, 8, 8, 8, 8, 8, 8, 8, 8, 8, 8, 8, 8, 8, 8, 8, 8, 8, 8, 8, 8, 8, 8, 8, 8, 8, 8, 8, 8, 8, 8, 8, 8, 8, 8, 8, 8, 8, 8, 8, 8, 8, 8, 8, 8, 8, 8, 8, 8, 8, 8, 8, 8, 8, 8, 8, 8, 8, 8, 8, 8, 8, 8, 8, 8, 8, 8, 8, 8, 8, 8, 8, 8, 8, 8, 8, 8, 8, 8, 8, 8, 8, 8, 8, 8, 8, 8, 8, 8, 8, 8, 8, 8, 8, 8, 8, 8, 8, 8, 8, 8, 8, 8, 8, 8, 8, 8, 8, 8, 8, 8, 8]⟩

structure T_exact_Ratio where
 Num : T_exact_Int
 Den : T_exact_Int
 deriving DecidableEq, Inhabited
def R_exact_Ratio : Rp T_exact_Ratio where
 sz := 4
 ok ρ cs x := ∃ A1 n1 c1 A3 n3 c3, cs = [.bool x.Num.fneg, .slice A1 n1 c1, .bool x.Den.fneg, .slice A3 n3 c3] ∧ RdS (RpI .u32) ρ A1 n1 c1 x.Num.fmag ∧ RdS (RpI .u32) ρ A3 n3 c3 x.Den.fmag
 pos := by decide
 len := by rintro ρ cs x ⟨A1, n1, c1, A3, n3, c3, rfl, _⟩; rfl
 le := by rintro ρ ρ' cs x ⟨A1, n1, c1, A3, n3, c3, rfl, h0, h1⟩ hle; exact ⟨_, _, _, _, _, _, rfl, h0.le hle, h1.le hle⟩
 one := by rintro ρ cs x ⟨A1, n1, c1, A3, n3, c3, rfl, _⟩ v hv; exact allOne_spec rfl v hv
theorem R_exact_Ratio_d : ∃ cs, ∀ ρ, R_exact_Ratio.ok ρ cs default := ⟨[.bool false, .slice none 0 0, .bool false, .slice none 0 0], fun ρ => ⟨_, _, _, _, _, _, rfl, RdS.nil, RdS.nil⟩⟩

/-- 000000000 -/
def ks_4c930086 : ByteArray := ⟨#[48, 48, 48, 48, 48, 48, 48, 48, 48]⟩

def P_maskmake_Below (x0 : Int) (n1 : Int) : Option Int :=
 if n1 < 1 then
  some (0 : Int)
 else
  ck (n1 ≠ 0) <|
  lv (Int.tmod x0 n1) fun x9 =>
  bd (
   if x9 < 0 then
    ar (x9 + n1) fun x14 =>
    some x14
   else
    some x9) fun q2 =>
  some q2
set_option maxHeartbeats 4000000 in
set_option maxRecDepth 100000 in
theorem c_maskmake_Below {w0 w : World} {l : List Assn} {ρ : Heap} {x0 : Int} {n1 : Int} {r : Int} (hF : P_maskmake_Below x0 n1 = some r) (hS : St w0 w (ro ρ :: l)) :
  Calls Try.prog 29 #[.int .i64 x0, .int .i64 n1] w fun e w' => e = .returned (.int .i64 r) ∧ St w0 w' (ro ρ :: l) := by
 refine enterC Try.func29 rfl 16 rfl (by simp) ?_
 refine x_seq <| x_region <| p (yl_assign rfl) <| x_done <|
  x_seq <| x_seq <| x_region <| p (yl_move rfl) <|
  p (yl_lss rfl rfl) <| x_done <|
  x_cond_p (n1 < 1) rfl (fun hc6 => ?_) (fun hc6 => ?_)
 ·replace hF := it_t hc6 hF
  refine x_seq <| x_region <| p (yl_assign rfl) <| x_done <| ?_
  have e_ := Option.some.inj (show some _ = some _ from hF); subst e_
  exact x_return ⟨_, ⟨_, _, rfl, rfl, rfl⟩, rfl, hS⟩
 ·replace hF := it_f hc6 hF
  replace hF := ck_s hF; obtain ⟨q4, hF⟩ := hF
  replace hF := lv_s hF; obtain ⟨x9, hx9, hF⟩ := hF
  refine x_skip <| x_seq <| x_region <| p (yl_move rfl) <|
   p (yl_move rfl) <| p (yrem rfl rfl q4 hx9) <| p (yl_assign rfl) <| x_done <|
   x_seq <| x_seq <| x_region <| p (yl_move rfl) <|
   p (yl_lss rfl rfl) <| x_done <| ?_
  replace hF := bd_s hF; obtain ⟨oc11, hFc11, hF⟩ := hF
  refine x_join (fun E w => ∃ (q2 : Int), q2 = oc11 ∧ E 0 = .int .i64 q2 ∧ St w0 w (ro ρ :: l)) ?_ ?_
  ·refine x_cond_p (x9 < 0) rfl (fun hc11 => ?_) (fun hc11 => ?_)
   ·replace hFc11 := it_t hc11 hFc11
    replace hFc11 := ar_s hFc11; obtain ⟨x14, hx14, hFc11⟩ := hFc11
    refine x_region <| p (yl_move rfl) <| p (yl_move rfl) <| p (yadd rfl rfl hx14) <|
     p (yl_assign rfl) <| x_done <| ?_
    exact x_inv ⟨x14, (Option.some.inj (show some _ = some _ from hFc11)), rfl, hS⟩
   ·replace hFc11 := it_f hc11 hFc11
    refine x_skip <| ?_
    exact x_inv ⟨x9, (Option.some.inj (show some _ = some _ from hFc11)), rfl, hS⟩
  rintro E w ⟨q2, rfl, q3, hS⟩
  refine x_seq <| x_region <| p (yl_move q3) <| p (yl_assign rfl) <|
   x_done <| ?_
  have e_ := Option.some.inj (show some _ = some _ from hF); subst e_
  exact x_return ⟨_, ⟨_, _, rfl, rfl, rfl⟩, rfl, hS⟩
attribute [irreducible] P_maskmake_Below

def P_maskmake_Stream_Next (s0 : T_maskmake_Stream) (n1 : Int) : Option (Int × Int) :=
 ar (s0.fat + 1) fun x11 =>
 if (s0.L.length : Int) = 0 then
  ar (x11 * 7919) fun x24 =>
  bd (P_maskmake_Below x24 n1) fun q3 =>
  some (q3, x11)
 else
  ar (x11 - 1) fun x31 =>
  ck ((s0.L.length : Int) ≠ 0) <|
  lv (Int.tmod x31 (s0.L.length : Int)) fun x37 =>
  ar (x11 - 1) fun x42 =>
  ck ((s0.L.length : Int) ≠ 0) <|
  ar (Int.tdiv x42 (s0.L.length : Int)) fun x48 =>
  ck (inb x37 s0.L.length) <|
  lv (gt s0.L x37) fun x55 =>
  bd (P_maskmake_Below x55 1073741824) fun q4 =>
  ar ((7919 : Int) + x37) fun x59 =>
  ar (x48 * x59) fun x60 =>
  ar (q4 + x60) fun x61 =>
  bd (P_maskmake_Below x61 n1) fun q2 =>
  some (q2, x11)
set_option maxHeartbeats 4000000 in
set_option maxRecDepth 100000 in
theorem c_maskmake_Stream_Next {w0 w : World} {l : List Assn} {ρ : Heap} {q5 : Nat} {q2 : Option Addr} {q3 : Nat} {c_s0_0 : Nat} {s0 : T_maskmake_Stream} {n1 : Int} {r : (Int × Int)} (hF : P_maskmake_Stream_Next s0 n1 = some r) (q4 : RdS (RpI .i64) ρ q2 q3 c_s0_0 s0.L) (hS : St w0 w (cells q5 25 [.slice q2 q3 c_s0_0, .int .i64 s0.fat] :: ro ρ :: l)) :
  Calls Try.prog 12 #[.pointer (some ⟨q5, 0, none⟩), .int .i64 n1] w fun e w' => e = .returned (.int .i64 r.1) ∧ St w0 w' (cells q5 25 [.slice q2 q3 c_s0_0, .int .i64 r.2] :: ro ρ :: l) := by
 have e_ := q4.n; subst e_
 refine enterC Try.func12 rfl 64 rfl (by simp) ?_
 replace hF := ar_s hF; obtain ⟨x11, hx11, hF⟩ := hF
 refine x_seq <| x_region <| p (yl_assign rfl) <| x_done <|
  x_seq <| x_region <| p (yl_move rfl) <| p (yl_nilCheck rfl) <|
  p (yl_field0 fld_25_1 rfl) <| pa (at_load one_3 rfl (hS.cell rfl)) <| p (yadd rfl rfl hx11) <| p (yl_nilCheck rfl) <|
  p (yl_field0 fld_25_1 rfl) <| ?_
 refine o_store1 (v := .int .i64 x11) one_3 rfl rfl rfl rfl hS (fun w' hS => ?_)
 refine x_done <| x_seq <| x_seq <| x_region <|
  p (yl_move rfl) <| p (yl_nilCheck rfl) <| p (yl_field0 fld_25_0 rfl) <| pa (at_load one_22 rfl (hS.cell rfl)) <|
  p (yl_len_slice usl_22 rfl) <| p (yl_eql rfl rfl) <| x_done <|
  x_cond_p ((s0.L.length : Int) = 0) rfl (fun hc19 => ?_) (fun hc19 => ?_)
 ·replace hF := it_t hc19 hF
  replace hF := ar_s hF; obtain ⟨x24, hx24, hF⟩ := hF
  replace hF := bd_s hF; obtain ⟨q0d, q0a, hF⟩ := hF
  refine x_seq <| x_region <| p (yl_move rfl) <| p (yl_nilCheck rfl) <|
   p (yl_field0 fld_25_1 rfl) <| pa (at_load one_3 rfl (hS.cell rfl)) <| p (ymul rfl rfl hx24) <| p (yl_move rfl) <| ?_
  have hcall := c_maskmake_Below q0a  (hS.pull 1)
  refine o_cc call_29 (args2 rfl rfl) ((Calls.mono hcall (fun e w'' h => And.intro h.1 (h.2.pull 1)))) ?_
  rintro e w' ⟨rfl, hS⟩
  refine ⟨_, rfl, ?_⟩
  refine p (v := .int .i64 q0d) (yl_assign rfl) <| x_done <| ?_
  have e_ := Option.some.inj (show some _ = some _ from hF); subst e_
  exact x_return ⟨_, ⟨_, _, rfl, rfl, rfl⟩, rfl, ((hS.pull 1).pull 1)⟩
 ·replace hF := it_f hc19 hF
  replace hF := ar_s hF; obtain ⟨x31, hx31, hF⟩ := hF
  replace hF := ck_s hF; obtain ⟨q7, hF⟩ := hF
  replace hF := lv_s hF; obtain ⟨x37, hx37, hF⟩ := hF
  refine x_skip <| x_seq <| x_still mixed (by kernel_rfl) hS <| q (yl_move rfl) <|
   q (yl_nilCheck rfl) <| q (yl_field0 fld_25_1 rfl) <| qa (fun w' hS => at_load one_3 rfl (hS.cell rfl)) <| q (ysub rfl rfl hx31) <|
   q (yl_move rfl) <| q (yl_nilCheck rfl) <| q (yl_field0 fld_25_0 rfl) <| qa (fun w' hS => at_load one_22 rfl (hS.cell rfl)) <|
   q (yl_len_slice usl_22 rfl) <| q (yrem rfl rfl q7 hx37) <| q (yl_assign rfl) <|
   q_done fun w' hS => ?_
  replace hF := ar_s hF; obtain ⟨x42, hx42, hF⟩ := hF
  replace hF := ck_s hF; obtain ⟨q8, hF⟩ := hF
  replace hF := ar_s hF; obtain ⟨x48, hx48, hF⟩ := hF
  refine x_seq <| x_still mixed (by kernel_rfl) hS <| q (yl_move rfl) <| q (yl_nilCheck rfl) <|
   q (yl_field0 fld_25_1 rfl) <| qa (fun w' hS => at_load one_3 rfl (hS.cell rfl)) <| q (ysub rfl rfl hx42) <| q (yl_move rfl) <|
   q (yl_nilCheck rfl) <| q (yl_field0 fld_25_0 rfl) <| qa (fun w' hS => at_load one_22 rfl (hS.cell rfl)) <| q (yl_len_slice usl_22 rfl) <|
   q (yquo rfl rfl q8 hx48) <| q (yl_assign rfl) <|
   q_done fun w' hS => ?_
  replace hF := ck_s hF; obtain ⟨q6, hF⟩ := hF
  replace hF := lv_s hF; obtain ⟨x55, hx55, hF⟩ := hF
  replace hF := bd_s hF; obtain ⟨q0e, q0b, hF⟩ := hF
  refine x_seq <| x_region <| p (yl_move rfl) <| p (yl_nilCheck rfl) <|
   p (yl_field0 fld_25_0 rfl) <| pa (at_load one_22 rfl (hS.cell rfl)) <| p (yl_move rfl) <| p (yix_f sl_22 rfl rfl q4 q6) <|
   pa (at_load one_3 rfl (RdS.getW q4 (hS.pull 1) q6 hx55)) <| ?_
  have hcall := c_maskmake_Below q0b  (hS.pull 1)
  refine o_cc call_29 (args2 rfl rfl) ((Calls.mono hcall (fun e w'' h => And.intro h.1 (h.2.pull 1)))) ?_
  rintro e w' ⟨rfl, hS⟩
  refine ⟨_, rfl, ?_⟩
  replace hF := ar_s hF; obtain ⟨x59, hx59, hF⟩ := hF
  replace hF := ar_s hF; obtain ⟨x60, hx60, hF⟩ := hF
  replace hF := ar_s hF; obtain ⟨x61, hx61, hF⟩ := hF
  replace hF := bd_s hF; obtain ⟨q0c, q9, hF⟩ := hF
  refine p (yl_move rfl) <| p (yl_move rfl) <| p (yadd rfl rfl hx59) <| p (ymul rfl rfl hx60) <|
   p (yadd rfl rfl hx61) <| p (yl_move rfl) <| ?_
  have hcall := c_maskmake_Below q9  (hS.pull 1)
  refine o_cc call_29 (args2 rfl rfl) ((Calls.mono hcall (fun e w'' h => And.intro h.1 (h.2.pull 1)))) ?_
  rintro e w' ⟨rfl, hS⟩
  refine ⟨_, rfl, ?_⟩
  refine p (v := .int .i64 q0c) (yl_assign rfl) <| x_done <| ?_
  have e_ := Option.some.inj (show some _ = some _ from hF); subst e_
  exact x_return ⟨_, ⟨_, _, rfl, rfl, rfl⟩, rfl, ((hS.pull 1).pull 1)⟩
attribute [irreducible] P_maskmake_Stream_Next

def P_maskmake_Stream_Range (s0 : T_maskmake_Stream) (low1 : Int) (high2 : Int) : Option (Int × Int) :=
 if high2 < low1 then
  some (low1, s0.fat)
 else
  ar (high2 - low1) fun x15 =>
  ar (x15 + 1) fun x16 =>
  bd (P_maskmake_Stream_Next s0 x16) fun q2 =>
  ar (low1 + q2.1) fun x18 =>
  some (x18, q2.2)
set_option maxHeartbeats 4000000 in
set_option maxRecDepth 100000 in
theorem c_maskmake_Stream_Range {w0 w : World} {l : List Assn} {ρ : Heap} {q5 : Nat} {q2 : Option Addr} {q3 : Nat} {c_s0_0 : Nat} {s0 : T_maskmake_Stream} {low1 : Int} {high2 : Int} {r : (Int × Int)} (hF : P_maskmake_Stream_Range s0 low1 high2 = some r) (q4 : RdS (RpI .i64) ρ q2 q3 c_s0_0 s0.L) (hS : St w0 w (cells q5 25 [.slice q2 q3 c_s0_0, .int .i64 s0.fat] :: ro ρ :: l)) :
  Calls Try.prog 20 #[.pointer (some ⟨q5, 0, none⟩), .int .i64 low1, .int .i64 high2] w fun e w' => e = .returned (.int .i64 r.1) ∧ St w0 w' (cells q5 25 [.slice q2 q3 c_s0_0, .int .i64 r.2] :: ro ρ :: l) := by
 have e_ := q4.n; subst e_
 refine enterC Try.func20 rfl 19 rfl (by simp) ?_
 refine x_seq <| x_region <| p (yl_assign rfl) <| x_done <|
  x_seq <| x_seq <| x_region <| p (yl_move rfl) <|
  p (yl_move rfl) <| p (yl_lss rfl rfl) <| x_done <|
  x_cond_p (high2 < low1) rfl (fun hc9 => ?_) (fun hc9 => ?_)
 ·replace hF := it_t hc9 hF
  refine x_seq <| x_region <| p (yl_move rfl) <| p (yl_assign rfl) <|
   x_done <| ?_
  have e_ := Option.some.inj (show some _ = some _ from hF); subst e_
  exact x_return ⟨_, ⟨_, _, rfl, rfl, rfl⟩, rfl, ((hS.pull 1).pull 1)⟩
 ·replace hF := it_f hc9 hF
  replace hF := ar_s hF; obtain ⟨x15, hx15, hF⟩ := hF
  replace hF := ar_s hF; obtain ⟨x16, hx16, hF⟩ := hF
  replace hF := bd_s hF; obtain ⟨q7, q6, hF⟩ := hF
  refine x_skip <| x_seq <| x_region <| p (yl_move rfl) <|
   p (yl_move rfl) <| p (yl_move rfl) <| p (yl_move rfl) <| p (ysub rfl rfl hx15) <|
   p (yadd rfl rfl hx16) <| ?_
  have hcall := c_maskmake_Stream_Next q6 q4 ((hS.pull 1).pull 1)
  refine o_cc call_12 (args2 rfl rfl) hcall ?_
  rintro e w' ⟨rfl, hS⟩
  refine ⟨_, rfl, ?_⟩
  replace hF := ar_s hF; obtain ⟨x18, hx18, hF⟩ := hF
  refine p (yadd rfl rfl hx18) <| p (yl_assign rfl) <| x_done <| ?_
  have e_ := Option.some.inj (show some _ = some _ from hF); subst e_
  exact x_return ⟨_, ⟨_, _, rfl, rfl, rfl⟩, rfl, ((hS.pull 1).pull 1)⟩
attribute [irreducible] P_maskmake_Stream_Range

def P_maskmake_Stream_Pick (s0 : T_maskmake_Stream) (l_1 : List Int) : Option (Int × Int) :=
 bd (P_maskmake_Stream_Next s0 (l_1.length : Int)) fun q2 =>
 ck (inb q2.1 l_1.length) <|
 lv (gt l_1 q2.1) fun x11 =>
 some (x11, q2.2)
set_option maxHeartbeats 4000000 in
set_option maxRecDepth 100000 in
theorem c_maskmake_Stream_Pick {w0 w : World} {l : List Assn} {ρ : Heap} {q6 : Nat} {q2 : Option Addr} {q3 : Nat} {c_s0_0 : Nat} {q7 : Option Addr} {q8 : Nat} {c_l_1 : Nat} {s0 : T_maskmake_Stream} {l_1 : List Int} {r : (Int × Int)} (hF : P_maskmake_Stream_Pick s0 l_1 = some r) (q5 : RdS (RpI .i64) ρ q2 q3 c_s0_0 s0.L) (q4 : RdS (RpI .i64) ρ q7 q8 c_l_1 l_1) (hS : St w0 w (cells q6 25 [.slice q2 q3 c_s0_0, .int .i64 s0.fat] :: ro ρ :: l)) :
  Calls Try.prog 67 #[.pointer (some ⟨q6, 0, none⟩), .slice q7 q8 c_l_1] w fun e w' => e = .returned (.int .i64 r.1) ∧ St w0 w' (cells q6 25 [.slice q2 q3 c_s0_0, .int .i64 r.2] :: ro ρ :: l) := by
 have e_ := q5.n; subst e_
 have e_ := q4.n; subst e_
 refine enterC Try.func67 rfl 12 rfl (by simp) ?_
 replace hF := bd_s hF; obtain ⟨q0b, q0a, hF⟩ := hF
 refine x_seq <| x_region <| p (yl_assign rfl) <| x_done <|
  x_seq <| x_region <| p (yl_move rfl) <| p (yl_move rfl) <|
  p (yl_move rfl) <| p (yl_len_slice usl_22 rfl) <| ?_
 have hcall := c_maskmake_Stream_Next q0a q5 ((hS.pull 1).pull 1)
 refine o_cc call_12 (args2 rfl rfl) hcall ?_
 rintro e w' ⟨rfl, hS⟩
 refine ⟨_, rfl, ?_⟩
 replace hF := ck_s hF; obtain ⟨q9, hF⟩ := hF
 replace hF := lv_s hF; obtain ⟨x11, hx11, hF⟩ := hF
 refine p (yix_f sl_22 rfl rfl q4 q9) <| pa (at_load one_3 rfl (RdS.getW q4 (hS.pull 1) q9 hx11)) <| p (yl_assign rfl) <| x_done <| ?_
 have e_ := Option.some.inj (show some _ = some _ from hF); subst e_
 exact x_return ⟨_, ⟨_, _, rfl, rfl, rfl⟩, rfl, ((hS.pull 1).pull 1)⟩
attribute [irreducible] P_maskmake_Stream_Pick

def P_maskkeep4_matrix_L6 (s0 : T_maskmake_Stream) (n1 : Int) : (List Int × Int × Int) → Option ((List Int × Int × Int) ⊕ (List Int × Int)) := fun (q3, q4, q2) =>
 if q4 < n1 then
  bd (P_maskmake_Stream_Pick (T_maskmake_Stream.mk s0.L q2) ([2, 9, 1000] : List Int)) fun q5 =>
  ar (0 - q5.1) fun x18 =>
  bd (P_maskmake_Stream_Range (T_maskmake_Stream.mk s0.L q5.2) x18 9) fun q6 =>
  lv (q3 ++ [q6.1]) fun q7 =>
  ck (apOk 8 q7.length) <|
  ar (q4 + 1) fun x22 =>
  some (Sum.inl (q7, x22, q6.2))
 else
  some (Sum.inr (q3, q2))
def P_maskkeep4_matrix_L3 (s0 : T_maskmake_Stream) (n1 : Int) : (List (List Int) × Int × Int) → Option ((List (List Int) × Int × Int) ⊕ (List (List Int) × Int)) := fun (q3, q4, q2) =>
 if q4 < n1 then
  bd (
   lp (P_maskkeep4_matrix_L6 s0 n1) fuel ([], 0, q2)) fun (q6, q5) =>
  lv (q3 ++ [q6]) fun q7 =>
  ck (apOk 24 q7.length) <|
  ar (q4 + 1) fun x27 =>
  some (Sum.inl (q7, x27, q5))
 else
  some (Sum.inr (q3, q2))
def P_maskkeep4_matrix (s0 : T_maskmake_Stream) (n1 : Int) : Option (List (List Int) × Int) :=
 bd (
  lp (P_maskkeep4_matrix_L3 s0 n1) fuel ([], 0, s0.fat)) fun (q3, q2) =>
 some (q3, q2)
set_option maxHeartbeats 4000000 in
set_option maxRecDepth 100000 in
theorem c_maskkeep4_matrix {w0 w : World} {l : List Assn} {ρ : Heap} {q0l : Nat} {q0f : Option Addr} {q12 : Nat} {c_s0_0 : Nat} {s0 : T_maskmake_Stream} {n1 : Int} {r : (List (List Int) × Int)} (hF : P_maskkeep4_matrix s0 n1 = some r) (q13 : RdS (RpI .i64) ρ q0f q12 c_s0_0 s0.L) (hS : St w0 w (cells q0l 25 [.slice q0f q12 c_s0_0, .int .i64 s0.fat] :: ro ρ :: l)) :
  Calls Try.prog 36 #[.pointer (some ⟨q0l, 0, none⟩), .int .i64 n1] w fun e w' => ∃ (ρ' : Heap) (q14 : Option Addr) (q0u : Nat) (c_y0_ret : Nat) (q0z : List Value), e = .returned (.slice q14 q0u c_y0_ret) ∧ Le ρ ρ' ∧ RepL (RpSl (RpI .i64)) ρ' r.1 q0z ∧ St w0 w' (vec 87 (RpSl (RpI .i64)).sz (.slice q14 q0u c_y0_ret) q0u q0z :: cells q0l 25 [.slice q0f q12 c_s0_0, .int .i64 r.2] :: ro ρ' :: l) := by
 have e_ := q13.n; subst e_
 refine enterC Try.func36 rfl 29 rfl (by simp) ?_
 refine x_seq <| x_region <| p (yl_assign rfl) <| x_done <|
  x_seq <| x_region <| p (yl_assign rfl) <| x_done <|
  x_seq <| x_seq <| x_region <| p (yl_move rfl) <|
  p (yl_move rfl) <| x_done <| ?_
 replace hF := bd_s hF; obtain ⟨oL3, hLL3, hF⟩ := hF
 refine x_join (fun E w => ∃ (q15 : Heap) (q0h : Option Addr) (q0i : Nat) (c_out5_L3 : Nat) (q0a : List Value) (q0s : List (List Int)) (q0r : Int), (q0s, q0r) = oL3 ∧ Le ρ q15 ∧ E 5 = .slice q0h q0i c_out5_L3 ∧ RepL (RpSl (RpI .i64)) q15 q0s q0a ∧ St w0 w (vec 87 (RpSl (RpI .i64)).sz (.slice q0h q0i c_out5_L3) q0i q0a :: cells q0l 25 [.slice q0f s0.L.length c_s0_0, .int .i64 q0r] :: ro q15 :: l)) ?_ ?_
 ·refine x_block ?_
  replace hS := St.vec_nil hS 87 (RpSl (RpI .i64)).sz
  have q0v : RepL (RpSl (RpI .i64)) ρ [] [] := rfl
  refine x_loop (fun k_ E w => ∃ (q6 : Heap) (q3 : Option Addr) (q0b : Nat) (c_out5_L3h : Nat) (q4 : List Value) (q2 : List (List Int)) (q0m : Int) (q8 : Int), lp (P_maskkeep4_matrix_L3 s0 n1) k_ (q2, q0m, q8) = some oL3 ∧ Le ρ q6 ∧ E 0 = .pointer (some ⟨q0l, 0, none⟩) ∧ E 1 = .int .i64 n1 ∧ E 5 = .slice q3 q0b c_out5_L3h ∧ E 7 = .int .i64 n1 ∧ E 8 = .int .i64 q0m ∧ RepL (RpSl (RpI .i64)) q6 q2 q4 ∧ St w0 w (cells q0l 25 [.slice q0f s0.L.length c_s0_0, .int .i64 q8] :: vec 87 (RpSl (RpI .i64)).sz (.slice q3 q0b c_out5_L3h) q0b q4 :: ro q6 :: l)) fuel ⟨ρ, none, 0, 0, [], [], 0, s0.fat, hLL3, (Le.refl _), rfl, rfl, rfl, rfl, rfl, q0v, (((hS.pull 2).pull 1).pull 2)⟩ ?_
  rintro kL3 E w ⟨q6, q3, q0b, c_out5_L3h, q4, q2, q0m, q8, hLL3, q0n, q1k, q19, q1a, q1b, q1c, q0o, hS⟩
  have e_ := St.vec_n (hS.pull 1) q0o; subst e_
  replace hLL3 := lp_s hLL3; obtain ⟨kL3, obL3, rfl, hFL3, hLL3⟩ := hLL3
  refine x_seq <| x_region <| p (yl_lss q1c q1b) <| x_done <|
   x_seq <|
   x_cond_p (q0m < n1) rfl (fun hc9 => ?_) (fun hc9 => ?_)
  ·replace hFL3 := it_t hc9 hFL3
   refine x_skip <| x_seq <| x_block <| x_seq <|
    x_region <| p (yl_assign rfl) <| x_done <| x_seq <|
    x_seq <| x_region <| p (yl_move q19) <| p (yl_move rfl) <|
    x_done <| ?_
   replace hFL3 := bd_s hFL3; obtain ⟨oL6, hLL6, hFL3⟩ := hFL3
   refine x_join (fun E w => ∃ (q5 : Option Addr) (q0j : Nat) (c_row6_L6 : Nat) (q0p : List Value) (q7 : List Int) (q0k : Int), (q7, q0k) = oL6 ∧ E 0 = .pointer (some ⟨q0l, 0, none⟩) ∧ E 1 = .int .i64 n1 ∧ E 5 = .slice q3 q2.length c_out5_L3h ∧ E 6 = .slice q5 q0j c_row6_L6 ∧ E 7 = .int .i64 n1 ∧ E 8 = .int .i64 q0m ∧ RepL (RpI .i64) q6 q7 q0p ∧ St w0 w (cells q0l 25 [.slice q0f s0.L.length c_s0_0, .int .i64 q0k] :: vec 87 (RpSl (RpI .i64)).sz (.slice q3 q2.length c_out5_L3h) q2.length q4 :: vec 2 (RpI .i64).sz (.slice q5 q0j c_row6_L6) q0j q0p :: ro q6 :: l)) ?_ ?_
   ·refine x_block ?_
    replace hS := St.vec_nil hS 2 (RpI .i64).sz
    have q0w : RepL (RpI .i64) q6 [] [] := rfl
    refine x_loop (fun k_ E w => ∃ (q0c : Option Addr) (q0d : Nat) (c_row6_L6h : Nat) (q9 : List Value) (q0g : List Int) (q0t : Int) (q0e : Int), lp (P_maskkeep4_matrix_L6 s0 n1) k_ (q0g, q0t, q0e) = some oL6 ∧ E 0 = .pointer (some ⟨q0l, 0, none⟩) ∧ E 1 = .int .i64 n1 ∧ E 5 = .slice q3 q2.length c_out5_L3h ∧ E 6 = .slice q0c q0d c_row6_L6h ∧ E 7 = .int .i64 n1 ∧ E 8 = .int .i64 q0m ∧ E 10 = .int .i64 n1 ∧ E 11 = .int .i64 q0t ∧ RepL (RpI .i64) q6 q0g q9 ∧ St w0 w (cells q0l 25 [.slice q0f s0.L.length c_s0_0, .int .i64 q0e] :: vec 87 (RpSl (RpI .i64)).sz (.slice q3 q2.length c_out5_L3h) q2.length q4 :: vec 2 (RpI .i64).sz (.slice q0c q0d c_row6_L6h) q0d q9 :: ro q6 :: l)) fuel ⟨none, 0, 0, [], [], 0, q8, hLL6, q1k, q19, q1a, rfl, q1b, q1c, rfl, rfl, q0w, ((((hS.pull 3).pull 1).pull 3).pull 3)⟩ ?_
    rintro kL6 E w ⟨q0c, q0d, c_row6_L6h, q9, q0g, q0t, q0e, hLL6, q0x, q1d, q1e, q1f, q1g, q1h, q16, q17, q0q, hS⟩
    have e_ := St.vec_n (hS.pull 2) q0q; subst e_
    replace hLL6 := lp_s hLL6; obtain ⟨kL6, obL6, rfl, hFL6, hLL6⟩ := hLL6
    refine x_seq <| x_region <| p (yl_lss q17 q16) <| x_done <|
     x_seq <|
     x_cond_p (q0t < n1) rfl (fun hc12 => ?_) (fun hc12 => ?_)
    ·replace hFL6 := it_t hc12 hFL6
     refine x_skip <| x_seq <| x_block <| x_region <|
      p (yl_move q1f) <| p (yl_move q0x) <| p (yl_move q0x) <| ?_
     refine o_buildSlice (vs := [.int .i64 2, .int .i64 9, .int .i64 1000]) (cs := [.int .i64 2, .int .i64 9, .int .i64 1000]) sl_22 zero_3 (parts_eq (pt (va := .int .i64 2) rfl (pt (va := .int .i64 9) rfl (pt (va := .int .i64 1000) rfl pt0)))) rfl (by intro v hv; simp only [List.mem_cons, List.not_mem_nil, or_false] at hv; first | (subst hv; rfl) | (rcases hv with rfl | rfl | rfl <;> rfl)) (by decide) rfl hS (fun b16 w' hS => ?_)
     have q1n : RepL (RpI .i64) q6 ([2, 9, 1000] : List Int) [.int .i64 2, .int .i64 9, .int .i64 1000] := (RepL.cons (cs := [.int .i64 2]) rfl (RepL.cons (cs := [.int .i64 9]) rfl (RepL.cons (cs := [.int .i64 1000]) rfl RepL.nil)))
     replace hS := St.vec_of (n := 3) (sz := (RpI .i64).sz) hS rfl (by decide)
     replace hFL6 := bd_s hFL6; obtain ⟨q22, q1o, hFL6⟩ := hFL6
     have q_ := St.lend ((hS.pull 4).pull 1) q1n; obtain ⟨ρl0, hll0, hlf0, hS0, back0⟩ := q_
     have hcall := c_maskmake_Stream_Pick q1o ((q13.le q0n).le hll0) hlf0 (hS0.pull 1)
     refine o_cc call_67 (args2 rfl rfl) hcall ?_
     rintro e w' ⟨rfl, hS⟩
     refine ⟨_, rfl, ?_⟩
     replace hS := back0 (hS.pull 1)
     replace hFL6 := ar_s hFL6; obtain ⟨x18, hx18, hFL6⟩ := hFL6
     replace hFL6 := bd_s hFL6; obtain ⟨q0y, q1p, hFL6⟩ := hFL6
     refine p (yneg rfl hx18) <| ?_
     have hcall := c_maskmake_Stream_Range q1p (q13.le q0n) ((hS.pull 1).pull 2)
     refine o_cc call_20 (args3 rfl rfl rfl) hcall ?_
     rintro e w' ⟨rfl, hS⟩
     refine ⟨_, rfl, ?_⟩
     refine o_buildSlice (vs := [.int .i64 q0y.1]) (cs := [.int .i64 q0y.1]) sl_87 zero_2 (parts_eq (pt (va := .int .i64 q0y.1) rfl pt0)) rfl (by intro v hv; simp only [List.mem_cons, List.not_mem_nil, or_false] at hv; first | (subst hv; rfl) | (rcases hv with rfl <;> rfl)) (by decide) rfl hS (fun b20 w' hS => ?_)
     replace hFL6 := lv_s hFL6; obtain ⟨q1l, q1q, hFL6⟩ := hFL6
     replace hFL6 := ck_s hFL6; obtain ⟨q1r, hFL6⟩ := hFL6
     refine o_ap sl_87 zero_2 rfl (by decide) rfl rfl (hS.pull 5) q0q (src_blk usl_87 hS rfl rfl) (RepL.cons (R := (RpI .i64)) (ρ := q6) (x := q0y.1) (cs := [.int .i64 q0y.1]) rfl RepL.nil) q1q q1r (fun A21 c21 cs21 w' hr21 hS => ?_)
     replace hFL6 := ar_s hFL6; obtain ⟨x22, hx22, hFL6⟩ := hFL6
     refine p (yl_assign rfl) <| x_done <| x_blk <| x_region <|
      p (yadd q17 rfl hx22) <| p (yl_move rfl) <| x_done <| ?_
     have e_ := Option.some.inj (show some _ = some _ from hFL6); subst e_
     exact x_inv ⟨kL6, Nat.lt_succ_self _, A21, q1l.length, c21, cs21, q1l, x22, q0y.2, hLL6, q0x, q1d, q1e, rfl, q1g, q1h, q16, rfl, hr21, ((((((hS.pull 1).drop.pull 3).drop.pull 2).pull 1).pull 3).pull 3)⟩
    ·replace hFL6 := it_f hc12 hFL6
     refine x_exitTo _ rfl <| ?_
     have e_ := Option.some.inj (show some _ = some _ from hFL6); subst e_
     exact x_inv ⟨q0c, q0g.length, c_row6_L6h, q9, q0g, q0e, hLL6, q0x, q1d, q1e, q1f, q1g, q1h, q0q, ((((hS.pull 3).pull 3).pull 3).pull 3)⟩
   rintro E w ⟨q5, q0j, c_row6_L6, q0p, q7, q0k, rfl, q1s, q1t, q1u, q1v, q1w, q1x, q10, hS⟩
   have e_ := St.vec_n (hS.pull 2) q10; subst e_
   refine x_region <| p (yl_move q1u) <| p (yl_move q1v) <| ?_
   have q_ := St.vec_fz ((hS.pull 3).pull 3) q10; obtain ⟨q1i, q18, q1y, hS⟩ := q_
   refine o_buildSlice (vs := [.slice q5 q7.length c_row6_L6]) (cs := [.slice q5 q7.length c_row6_L6]) sl_75 zero_87 (parts_eq (pt (va := .slice q5 q7.length c_row6_L6) rfl pt0)) rfl (by intro v hv; simp only [List.mem_cons, List.not_mem_nil, or_false] at hv; first | (subst hv; rfl) | (rcases hv with rfl <;> rfl)) (by decide) rfl hS (fun b25 w' hS => ?_)
   replace hFL3 := lv_s hFL3; obtain ⟨q1m, q1z, hFL3⟩ := hFL3
   replace hFL3 := ck_s hFL3; obtain ⟨q20, hFL3⟩ := hFL3
   refine o_ap sl_75 zero_87 rfl (by decide) rfl rfl (hS.pull 3) (q0o.le q18) (src_blk usl_75 hS rfl rfl) (RepL.cons (R := (RpSl (RpI .i64))) (ρ := q1i) (x := q7) (cs := [.slice q5 q7.length c_row6_L6]) ⟨_, _, _, rfl, q1y⟩ RepL.nil) q1z q20 (fun A26 c26 cs26 w' hr26 hS => ?_)
   replace hFL3 := ar_s hFL3; obtain ⟨x27, hx27, hFL3⟩ := hFL3
   refine p (yl_assign rfl) <| x_done <| x_blk <| x_region <|
    p (yadd q1x rfl hx27) <| p (yl_move rfl) <| x_done <| ?_
   have e_ := Option.some.inj (show some _ = some _ from hFL3); subst e_
   exact x_inv ⟨kL3, Nat.lt_succ_self _, q1i, A26, q1m.length, c26, cs26, q1m, x27, q0k, hLL3, (q0n.trans q18), q1s, q1t, rfl, q1w, rfl, hr26, ((((hS.pull 1).drop.pull 1).pull 1).pull 2)⟩
  ·replace hFL3 := it_f hc9 hFL3
   refine x_exitTo _ rfl <| ?_
   have e_ := Option.some.inj (show some _ = some _ from hFL3); subst e_
   exact x_inv ⟨q6, q3, q2.length, c_out5_L3h, q4, q2, q8, hLL3, q0n, q1a, q0o, (((hS.pull 2).pull 1).pull 2)⟩
 rintro E w ⟨q15, q0h, q0i, c_out5_L3, q0a, q0s, q0r, rfl, q1j, q21, q11, hS⟩
 have e_ := St.vec_n hS q11; subst e_
 refine x_seq <| x_region <| p (yl_move q21) <| p (yl_assign rfl) <|
  x_done <| ?_
 have e_ := Option.some.inj (show some _ = some _ from hF); subst e_
 exact x_return ⟨_, ⟨_, _, rfl, rfl, rfl⟩, q15, q0h, q0s.length, c_out5_L3, q0a, rfl, q1j, q11, (((hS.pull 2).pull 2).pull 2)⟩
attribute [irreducible] P_maskkeep4_matrix

def P_exact_CheckMatrix_L11 (q3 : List Int) : Int → Option (Int ⊕ (Unit ⊕ Int)) := fun q2 =>
 if q2 < (q3.length : Int) then
  ck (inb q2 q3.length) <|
  lv (gt q3 q2) fun x31 =>
  lv ((decide (x31 < (-1099511627776))) || (decide (1099511627776 < x31))) fun x37 =>
  if x37 = true then
   some (Sum.inr (Sum.inr (2 : Int)))
  else
   ar (q2 + 1) fun x38 =>
   some (Sum.inl x38)
 else
  some (Sum.inr (Sum.inl ()))
def P_exact_CheckMatrix_L4 (a0 : List (List Int)) : Int → Option (Int ⊕ (Unit ⊕ Int)) := fun q2 =>
 if q2 < (a0.length : Int) then
  ck (inb q2 a0.length) <|
  lv (gt a0 q2) fun q3 =>
  if 48 < (q3.length : Int) then
   some (Sum.inr (Sum.inr (3 : Int)))
  else
   ck (inb 0 a0.length) <|
   lv (gt a0 (0 : Int)) fun q4 =>
   if (q3.length : Int) ≠ (q4.length : Int) then
    some (Sum.inr (Sum.inr (4 : Int)))
   else
    bs (
     lp (P_exact_CheckMatrix_L11 q3) fuel 0) (fun y => some (Sum.inr (Sum.inr y))) fun _ =>
    ar (q2 + 1) fun x39 =>
    some (Sum.inl x39)
 else
  some (Sum.inr (Sum.inl ()))
def P_exact_CheckMatrix (a0 : List (List Int)) : Option Int :=
 if 48 < (a0.length : Int) then
  some (3 : Int)
 else
  bs (
   lp (P_exact_CheckMatrix_L4 a0) fuel 0) (fun y => some y) fun _ =>
  some (0 : Int)
set_option maxHeartbeats 4000000 in
set_option maxRecDepth 100000 in
theorem c_exact_CheckMatrix {w0 w : World} {l : List Assn} {ρ : Heap} {q4 : Option Addr} {q0r : Nat} {c_a0 : Nat} {a0 : List (List Int)} {r : Int} (hF : P_exact_CheckMatrix a0 = some r) (q8 : RdS (RpSl (RpI .i64)) ρ q4 q0r c_a0 a0) (hS : St w0 w (ro ρ :: l)) :
  Calls Try.prog 92 #[.slice q4 q0r c_a0] w fun e w' => e = .returned (.int .i64 r) ∧ St w0 w' (ro ρ :: l) := by
 have e_ := q8.n; subst e_
 refine enterC Try.func92 rfl 40 rfl (by simp) ?_
 refine x_seq <| x_region <| p (yl_assign rfl) <| x_done <|
  x_seq <| x_seq <| x_region <| p (yl_move rfl) <|
  p (yl_len_slice usl_75 rfl) <| p (yl_gtr rfl rfl) <| x_done <|
  x_cond_p (48 < (a0.length : Int)) rfl (fun hc9 => ?_) (fun hc9 => ?_)
 ·replace hF := it_t hc9 hF
  refine x_seq <| x_region <| p (yl_assign rfl) <| x_done <| ?_
  have e_ := Option.some.inj (show some _ = some _ from hF); subst e_
  exact x_return ⟨_, ⟨_, _, rfl, rfl, rfl⟩, rfl, hS⟩
 ·replace hF := it_f hc9 hF
  refine x_skip <| x_seq <| x_seq <| x_region <|
   p (yl_move rfl) <| p (yl_len_slice usl_75 rfl) <| p (yl_move rfl) <| x_done <| ?_
  replace hF := bs_s hF; obtain ⟨oL4, hLL4, hF⟩ := hF
  refine x_join (fun E w => (Sum.inl (())) = oL4 ∧ St w0 w (ro ρ :: l)) ?_ ?_
  ·refine x_block ?_
   refine x_loop (fun k_ E w => ∃ (q2 : Int), lp (P_exact_CheckMatrix_L4 a0) k_ q2 = some oL4 ∧ E 0 = .slice q4 a0.length c_a0 ∧ E 10 = .slice q4 a0.length c_a0 ∧ E 11 = .int .i64 (a0.length : Int) ∧ E 12 = .int .i64 q2 ∧ St w0 w (ro ρ :: l)) fuel ⟨0, hLL4, rfl, rfl, rfl, rfl, hS⟩ ?_
   rintro kL4 E w ⟨q2, hLL4, q0h, q0e, q0f, q6, hS⟩
   replace hLL4 := lp_s hLL4; obtain ⟨kL4, obL4, rfl, hFL4, hLL4⟩ := hLL4
   refine x_seq <| x_region <| p (yl_lss q6 q0f) <| x_done <|
    x_seq <|
    x_cond_p (q2 < (a0.length : Int)) rfl (fun hc13 => ?_) (fun hc13 => ?_)
   ·replace hFL4 := it_t hc13 hFL4
    replace hFL4 := ck_s hFL4; obtain ⟨q0k, hFL4⟩ := hFL4
    replace hFL4 := lv_s hFL4; obtain ⟨q7, q0t, hFL4⟩ := hFL4
    have q_ := q8.get q0k; obtain ⟨q11, q0l, q0u⟩ := q_
    rw [← q0t] at q0l
    obtain ⟨q0x, q13, q0y, rfl, q0j⟩ := q0l
    have e_ := q0j.n; subst e_
    refine x_skip <| x_seq <| x_block <| x_seq <|
     x_region <| p (yix_f sl_75 q0e q6 q8 q0k) <| pa (at_load one_87 rfl (Elt.ld (j := 0) q0u hS rfl)) <| p (yl_assign rfl) <|
     x_done <| x_seq <| x_seq <| x_region <|
     p (yl_move rfl) <| p (yl_len_slice usl_87 rfl) <| p (yl_gtr rfl rfl) <| x_done <|
     x_cond_p (48 < (q7.length : Int)) rfl (fun hc18 => ?_) (fun hc18 => ?_)
    ·replace hFL4 := it_t hc18 hFL4
     refine x_seq <| x_region <| p (yl_assign rfl) <| x_done <| ?_
     have e_ := Option.some.inj (show some _ = some _ from hFL4); subst e_
     have e_ := (show _ = oL4 from hLL4); subst e_
     have e_ := Option.some.inj (show some _ = some _ from hF); subst e_
     exact x_return ⟨_, ⟨_, _, rfl, rfl, rfl⟩, rfl, hS⟩
    ·replace hFL4 := it_f hc18 hFL4
     replace hFL4 := ck_s hFL4; obtain ⟨q0m, hFL4⟩ := hFL4
     replace hFL4 := lv_s hFL4; obtain ⟨q0z, q0v, hFL4⟩ := hFL4
     have q_ := q8.get q0m; obtain ⟨q12, q0n, q0w⟩ := q_
     rw [← q0v] at q0n
     obtain ⟨q14, q15, q16, rfl, q10⟩ := q0n
     have e_ := q10.n; subst e_
     refine x_skip <| x_seq <| x_seq <| x_region <|
      p (yl_move rfl) <| p (yl_len_slice usl_87 rfl) <| p (yl_move q0h) <| p (yix_f sl_75 rfl rfl q8 q0m) <|
      pa (at_load one_87 rfl (Elt.ld (j := 0) q0w hS rfl)) <| p (yl_len_slice usl_87 rfl) <| p (yl_neq rfl rfl) <| x_done <|
      x_cond_p ((q7.length : Int) ≠ (q0z.length : Int)) rfl (fun hc25 => ?_) (fun hc25 => ?_)
     ·replace hFL4 := it_t hc25 hFL4
      refine x_seq <| x_region <| p (yl_assign rfl) <| x_done <| ?_
      have e_ := Option.some.inj (show some _ = some _ from hFL4); subst e_
      have e_ := (show _ = oL4 from hLL4); subst e_
      have e_ := Option.some.inj (show some _ = some _ from hF); subst e_
      exact x_return ⟨_, ⟨_, _, rfl, rfl, rfl⟩, rfl, hS⟩
     ·replace hFL4 := it_f hc25 hFL4
      refine x_skip <| x_seq <| x_region <| p (yl_move rfl) <|
       p (yl_len_slice usl_87 rfl) <| p (yl_move rfl) <| x_done <| ?_
      replace hFL4 := bs_s hFL4; obtain ⟨oL11, hLL11, hFL4⟩ := hFL4
      refine x_join (fun E w => (Sum.inl (())) = oL11 ∧ E 0 = .slice q4 a0.length c_a0 ∧ E 10 = .slice q4 a0.length c_a0 ∧ E 11 = .int .i64 (a0.length : Int) ∧ E 12 = .int .i64 q2 ∧ St w0 w (ro ρ :: l)) ?_ ?_
      ·refine x_block ?_
       refine x_loop (fun k_ E w => ∃ (q3 : Int), lp (P_exact_CheckMatrix_L11 q7) k_ q3 = some oL11 ∧ E 0 = .slice q4 a0.length c_a0 ∧ E 10 = .slice q4 a0.length c_a0 ∧ E 11 = .int .i64 (a0.length : Int) ∧ E 12 = .int .i64 q2 ∧ E 26 = .slice q0x q7.length q0y ∧ E 27 = .int .i64 (q7.length : Int) ∧ E 28 = .int .i64 q3 ∧ St w0 w (ro ρ :: l)) fuel ⟨0, hLL11, q0h, q0e, q0f, q6, rfl, rfl, rfl, hS⟩ ?_
       rintro kL11 E w ⟨q3, hLL11, q0g, q9, q0a, q0b, q0c, q0d, q5, hS⟩
       replace hLL11 := lp_s hLL11; obtain ⟨kL11, obL11, rfl, hFL11, hLL11⟩ := hLL11
       refine x_seq <| x_region <| p (yl_lss q5 q0d) <| x_done <|
        x_seq <|
        x_cond_p (q3 < (q7.length : Int)) rfl (fun hc29 => ?_) (fun hc29 => ?_)
       ·replace hFL11 := it_t hc29 hFL11
        replace hFL11 := ck_s hFL11; obtain ⟨q0i, hFL11⟩ := hFL11
        replace hFL11 := lv_s hFL11; obtain ⟨x31, hx31, hFL11⟩ := hFL11
        replace hFL11 := lv_s hFL11; obtain ⟨x37, hx37, hFL11⟩ := hFL11
        refine x_skip <| x_seq <| x_block <| x_seq <|
         x_region <| p (yix_f sl_87 q0c q5 q0j q0i) <| pa (at_load one_2 rfl (RdS.getW q0j hS q0i hx31)) <| p (yl_assign rfl) <|
         x_done <| x_seq <| x_region <| p (yl_move rfl) <|
         p (yl_lss rfl rfl) <| p (yl_move rfl) <| pg (v := .int .i64 x31) 34 (c := !(decide (x31 < (-1099511627776)))) (says_f _) (fun hq => Yl.at (yl_move rfl)) <| pg (v := .bool (decide (1099511627776 < x31))) 34 (c := !(decide (x31 < (-1099511627776)))) (says_f _) (fun hq => Yl.at (yl_gtr (cv hq) rfl)) <|
         p (yor' rfl rfl (fun hc => (cv (t_not hc))) hx37) <| x_done <|
         x_cond (t := x37) rfl (fun hc37 => ?_) (fun hc37 => ?_)
        ·replace hFL11 := it_t hc37 hFL11
         refine x_seq <| x_region <| p (yl_assign rfl) <| x_done <| ?_
         have e_ := Option.some.inj (show some _ = some _ from hFL11); subst e_
         have e_ := (show _ = oL11 from hLL11); subst e_
         have e_ := Option.some.inj (show some _ = some _ from hFL4); subst e_
         have e_ := (show _ = oL4 from hLL4); subst e_
         have e_ := Option.some.inj (show some _ = some _ from hF); subst e_
         exact x_return ⟨_, ⟨_, _, rfl, rfl, rfl⟩, rfl, hS⟩
        ·replace hFL11 := it_bf hc37 hFL11
         replace hFL11 := ar_s hFL11; obtain ⟨x38, hx38, hFL11⟩ := hFL11
         refine x_skip <| x_blk <| x_region <| p (yadd q5 rfl hx38) <|
          p (yl_move rfl) <| x_done <| ?_
         have e_ := Option.some.inj (show some _ = some _ from hFL11); subst e_
         exact x_inv ⟨kL11, Nat.lt_succ_self _, x38, hLL11, q0g, q9, q0a, q0b, q0c, q0d, rfl, hS⟩
       ·replace hFL11 := it_f hc29 hFL11
        refine x_exitTo _ rfl <| ?_
        have e_ := Option.some.inj (show some _ = some _ from hFL11); subst e_
        exact x_inv ⟨hLL11, q0g, q9, q0a, q0b, hS⟩
      rintro E w ⟨rfl, q0s, q0o, q0p, q0q, hS⟩
      replace hFL4 := ar_s hFL4; obtain ⟨x39, hx39, hFL4⟩ := hFL4
      refine x_blk <| x_region <| p (yadd q0q rfl hx39) <| p (yl_move rfl) <|
       x_done <| ?_
      have e_ := Option.some.inj (show some _ = some _ from hFL4); subst e_
      exact x_inv ⟨kL4, Nat.lt_succ_self _, x39, hLL4, q0s, q0o, q0p, rfl, hS⟩
   ·replace hFL4 := it_f hc13 hFL4
    refine x_exitTo _ rfl <| ?_
    have e_ := Option.some.inj (show some _ = some _ from hFL4); subst e_
    exact x_inv ⟨hLL4, hS⟩
  rintro E w ⟨rfl, hS⟩
  refine x_seq <| x_region <| p (yl_assign rfl) <| x_done <| ?_
  have e_ := Option.some.inj (show some _ = some _ from hF); subst e_
  exact x_return ⟨_, ⟨_, _, rfl, rfl, rfl⟩, rfl, hS⟩
attribute [irreducible] P_exact_CheckMatrix

def P_exact_square (a0 : List (List Int)) : Option Int :=
 bd (P_exact_CheckMatrix a0) fun q2 =>
 if q2 ≠ 0 then
  some q2
 else
  ck ((decide (0 < (a0.length : Int))) = true → inb 0 a0.length) <|
  lv (gt a0 (0 : Int)) fun q3 =>
  lv ((decide (0 < (a0.length : Int))) && (decide ((q3.length : Int) ≠ (a0.length : Int)))) fun x20 =>
  if x20 = true then
   some (4 : Int)
  else
   some (0 : Int)
set_option maxHeartbeats 4000000 in
set_option maxRecDepth 100000 in
theorem c_exact_square {w0 w : World} {l : List Assn} {ρ : Heap} {q2 : Option Addr} {q8 : Nat} {c_a0 : Nat} {a0 : List (List Int)} {r : Int} (hF : P_exact_square a0 = some r) (q4 : RdS (RpSl (RpI .i64)) ρ q2 q8 c_a0 a0) (hS : St w0 w (ro ρ :: l)) :
  Calls Try.prog 85 #[.slice q2 q8 c_a0] w fun e w' => e = .returned (.int .i64 r) ∧ St w0 w' (ro ρ :: l) := by
 have e_ := q4.n; subst e_
 refine enterC Try.func85 rfl 21 rfl (by simp) ?_
 replace hF := bd_s hF; obtain ⟨q3, q9, hF⟩ := hF
 refine x_seq <| x_region <| p (yl_assign rfl) <| x_done <|
  x_seq <| x_seq <| x_region <| p (yl_move rfl) <| ?_
 have hcall := c_exact_CheckMatrix q9 q4 hS
 refine o_cc call_92 (args1 rfl) (hcall) ?_
 rintro e w' ⟨rfl, hS⟩
 refine ⟨_, rfl, ?_⟩
 refine p (v := .int .i64 q3) (yl_assign rfl) <| x_done <| x_seq <| x_region <|
  p (v := .int .i64 q3) (yl_move rfl) <| p (yl_neq rfl rfl) <| x_done <|
  x_cond_p (q3 ≠ 0) rfl (fun hc7 => ?_) (fun hc7 => ?_)
 ·replace hF := it_t hc7 hF
  refine x_seq <| x_region <| p (v := .int .i64 q3) (yl_move rfl) <| p (v := .int .i64 q3) (yl_assign rfl) <|
   x_done <| ?_
  have e_ := Option.some.inj (show some _ = some _ from hF); subst e_
  exact x_return ⟨_, ⟨_, _, rfl, rfl, rfl⟩, rfl, hS⟩
 ·replace hF := it_f hc7 hF
  replace hF := ck_s hF; obtain ⟨q6, hF⟩ := hF
  replace hF := lv_s hF; obtain ⟨q5, q0a, hF⟩ := hF
  have q_ := RdS.getD sl_d q4 (0 : Int); obtain ⟨q0f, q7, q0b⟩ := q_
  rw [← q0a] at q7
  obtain ⟨q0c, q0g, q0d, rfl, q0e⟩ := q7
  have e_ := q0e.n; subst e_
  replace hF := lv_s hF; obtain ⟨x20, hx20, hF⟩ := hF
  refine x_skip <| x_seq <| x_seq <| x_region <|
   p (yl_move rfl) <| p (yl_len_slice usl_75 rfl) <| p (yl_gtr rfl rfl) <| p (yl_move rfl) <|
   pg (v := .slice q2 a0.length c_a0) 12 (c := decide (0 < (a0.length : Int))) (says_t _) (fun hq => Yl.at (yl_move rfl)) <| pg (v := .pointer (some ((adr q2).add ((0 : Int).toNat * (RpSl (RpI .i64)).sz)))) 12 (c := decide (0 < (a0.length : Int))) (says_t _) (fun hq => Yl.at (yix_f sl_75 (cv hq) rfl q4 (q6 hq))) <| pg (v := .slice q0c q5.length q0d) 12 (c := decide (0 < (a0.length : Int))) (says_t _) (fun hq => at_load one_87 (cv hq) (Elt.ld (j := 0) (q0b (q6 hq)) hS rfl)) <| pg (v := .int .i64 (q5.length : Int)) 12 (c := decide (0 < (a0.length : Int))) (says_t _) (fun hq => Yl.at (yl_len_slice usl_87 (cv hq))) <|
   pg (v := .slice q2 a0.length c_a0) 12 (c := decide (0 < (a0.length : Int))) (says_t _) (fun hq => Yl.at (yl_move rfl)) <| pg (v := .int .i64 (a0.length : Int)) 12 (c := decide (0 < (a0.length : Int))) (says_t _) (fun hq => Yl.at (yl_len_slice usl_75 (cv hq))) <| pg (v := .bool (decide ((q5.length : Int) ≠ (a0.length : Int)))) 12 (c := decide (0 < (a0.length : Int))) (says_t _) (fun hq => Yl.at (yl_neq (cv hq) (cv hq))) <| p (yand' rfl (fun hc => (cv hc)) rfl hx20) <|
   x_done <|
   x_cond (t := x20) rfl (fun hc20 => ?_) (fun hc20 => ?_)
  ·replace hF := it_t hc20 hF
   refine x_seq <| x_region <| p (yl_assign rfl) <| x_done <| ?_
   have e_ := Option.some.inj (show some _ = some _ from hF); subst e_
   exact x_return ⟨_, ⟨_, _, rfl, rfl, rfl⟩, rfl, hS⟩
  ·replace hF := it_bf hc20 hF
   refine x_skip <| x_seq <| x_region <| p (yl_assign rfl) <|
    x_done <| ?_
   have e_ := Option.some.inj (show some _ = some _ from hF); subst e_
   exact x_return ⟨_, ⟨_, _, rfl, rfl, rfl⟩, rfl, hS⟩
attribute [irreducible] P_exact_square

def P_exact_made_L1 : List Int → Option (List Int ⊕ List Int) := fun q2 =>
 ck ((decide (0 < (q2.length : Int))) = true → I64 ((q2.length : Int) - 1)) <|
 lv ((q2.length : Int) - 1) fun x12 =>
 ck ((decide (0 < (q2.length : Int))) = true → inb x12 q2.length) <|
 lv (gt q2 x12) fun x14 =>
 lv ((decide (0 < (q2.length : Int))) && (decide (x14 = 0))) fun x16 =>
 if x16 = true then
  ar ((q2.length : Int) - 1) fun x20 =>
  ck (0 ≤ (0 : Int) ∧ (0 : Int) ≤ x20 ∧ x20 ≤ q2.length) <|
  lv (sub q2 0 x20) fun x21 =>
  some (Sum.inl x21)
 else
  some (Sum.inr q2)
def P_exact_made (neg0 : Bool) (mag1 : List Int) : Option T_exact_Int :=
 bd (
  lp P_exact_made_L1 fuel mag1) fun q2 =>
 lv (neg0 && (decide (0 < (q2.length : Int)))) fun x27 =>
 some (T_exact_Int.mk x27 q2)
set_option maxHeartbeats 4000000 in
set_option maxRecDepth 100000 in
theorem c_exact_made {w0 w : World} {l : List Assn} {ρ : Heap} {q0d : Option Addr} {q0e : Nat} {c_mag1 : Nat} {neg0 : Bool} {mag1 : List Int} {r : T_exact_Int} (hF : P_exact_made neg0 mag1 = some r) (q0f : RdS (RpI .u32) ρ q0d q0e c_mag1 mag1) (hS : St w0 w (ro ρ :: l)) :
  Calls Try.prog 93 #[.bool neg0, .slice q0d q0e c_mag1] w fun e w' => ∃ (q0a : Option Addr) (q0b : Nat) (c_y0_ret_1 : Nat), e = .returned (.agg #[.bool r.fneg, .slice q0a q0b c_y0_ret_1]) ∧ RdS (RpI .u32) ρ q0a q0b c_y0_ret_1 r.fmag ∧ St w0 w' (ro ρ :: l) := by
 have e_ := q0f.n; subst e_
 refine enterC Try.func93 rfl 30 rfl (by simp) ?_
 refine x_seq <| x_region <| ?_
 refine o_alloc zero_79 hS (fun b4 w' hS => ?_)
 refine x_done <| x_seq <| ?_
 replace hF := bd_s hF; obtain ⟨oL1, hLL1, hF⟩ := hF
 refine x_join (fun E w => ∃ (q3 : Option Addr) (q9 : Nat) (c_mag1_L1 : Nat) (q5 : List Int), q5 = oL1 ∧ E 0 = .bool neg0 ∧ E 1 = .slice q3 q9 c_mag1_L1 ∧ E 4 = .pointer (some ⟨b4, 0, none⟩) ∧ RdS (RpI .u32) ρ q3 q9 c_mag1_L1 q5 ∧ St w0 w (cells b4 79 [.bool false, .slice none 0 0] :: ro ρ :: l)) ?_ ?_
 ·refine x_block ?_
  refine x_loop (fun k_ E w => ∃ (q4 : Option Addr) (q8 : Nat) (c_mag1_L1h : Nat) (q2 : List Int), lp P_exact_made_L1 k_ q2 = some oL1 ∧ E 0 = .bool neg0 ∧ E 1 = .slice q4 q8 c_mag1_L1h ∧ E 4 = .pointer (some ⟨b4, 0, none⟩) ∧ RdS (RpI .u32) ρ q4 q8 c_mag1_L1h q2 ∧ St w0 w (cells b4 79 [.bool false, .slice none 0 0] :: ro ρ :: l)) fuel ⟨q0d, mag1.length, c_mag1, mag1, hLL1, rfl, rfl, rfl, q0f, ((hS.pull 1).pull 1)⟩ ?_
  rintro kL1 E w ⟨q4, q8, c_mag1_L1h, q2, hLL1, q0g, q7, q0h, q6, hS⟩
  have e_ := q6.n; subst e_
  replace hLL1 := lp_s hLL1; obtain ⟨kL1, obL1, rfl, hFL1, hLL1⟩ := hLL1
  replace hFL1 := ck_s hFL1; obtain ⟨q0m, hFL1⟩ := hFL1
  replace hFL1 := lv_s hFL1; obtain ⟨x12, hx12, hFL1⟩ := hFL1
  replace hFL1 := ck_s hFL1; obtain ⟨q0i, hFL1⟩ := hFL1
  replace hFL1 := lv_s hFL1; obtain ⟨x14, hx14, hFL1⟩ := hFL1
  replace hFL1 := lv_s hFL1; obtain ⟨x16, hx16, hFL1⟩ := hFL1
  refine x_seq <| x_seq <| x_region <| p (yl_move q7) <|
   p (yl_len_slice usl_77 rfl) <| p (yl_gtr rfl rfl) <| p (yl_move rfl) <| pg (v := .slice q4 q2.length c_mag1_L1h) 8 (c := decide (0 < (q2.length : Int))) (says_t _) (fun hq => Yl.at (yl_move q7)) <|
   pg (v := .slice q4 q2.length c_mag1_L1h) 8 (c := decide (0 < (q2.length : Int))) (says_t _) (fun hq => Yl.at (yl_move q7)) <| pg (v := .int .i64 (q2.length : Int)) 8 (c := decide (0 < (q2.length : Int))) (says_t _) (fun hq => Yl.at (yl_len_slice usl_77 (cv hq))) <| pg (v := .int .i64 x12) 8 (c := decide (0 < (q2.length : Int))) (says_t _) (fun hq => Yl.at (ysub (cv hq) rfl ⟨hx12, (q0m hq)⟩)) <| pg (v := .pointer (some ((adr q4).add (x12.toNat * (RpI .u32).sz)))) 8 (c := decide (0 < (q2.length : Int))) (says_t _) (fun hq => Yl.at (yix_f sl_77 (cv hq) (cv hq) q6 (q0i hq))) <|
   pg (v := .int .u32 x14) 8 (c := decide (0 < (q2.length : Int))) (says_t _) (fun hq => at_load one_159 (cv hq) (RdS.getW q6 (hS.pull 1) (q0i hq) hx14)) <| pg (v := .bool (decide (x14 = 0))) 8 (c := decide (0 < (q2.length : Int))) (says_t _) (fun hq => Yl.at (yl_eql (cv hq) rfl)) <| p (yand' rfl (fun hc => (cv hc)) rfl hx16) <| x_done <|
   x_cond (t := x16) rfl (fun hc16 => ?_) (fun hc16 => ?_)
  ·replace hFL1 := it_t hc16 hFL1
   replace hFL1 := ar_s hFL1; obtain ⟨x20, hx20, hFL1⟩ := hFL1
   replace hFL1 := ck_s hFL1; obtain ⟨q0j, hFL1⟩ := hFL1
   replace hFL1 := lv_s hFL1; obtain ⟨x21, hx21, hFL1⟩ := hFL1
   refine x_skip <| x_block <| x_region <| p (yl_move q7) <|
    p (yl_move q7) <| p (yl_len_slice usl_77 rfl) <| p (ysub rfl rfl hx20) <| ?_
   have q_ := RdS.sub q6 q0j hx21; obtain ⟨A21, n21, c21, hd21, f21⟩ := q_
   refine p (ysub_h sl_77 rfl rfl q0j hd21) <| ?_
   have e_ := f21.n; subst e_
   refine p (yl_assign rfl) <| x_done <| x_blk <| ?_
   have e_ := Option.some.inj (show some _ = some _ from hFL1); subst e_
   exact x_inv ⟨kL1, Nat.lt_succ_self _, A21, x21.length, c21, x21, hLL1, q0g, rfl, q0h, f21, ((hS.pull 1).pull 1)⟩
  ·replace hFL1 := it_bf hc16 hFL1
   refine x_exitTo _ rfl <| ?_
   have e_ := Option.some.inj (show some _ = some _ from hFL1); subst e_
   exact x_inv ⟨q4, q2.length, c_mag1_L1h, q2, hLL1, q0g, q7, q0h, q6, ((hS.pull 1).pull 1)⟩
 rintro E w ⟨q3, q9, c_mag1_L1, q5, rfl, q0n, q0k, q0l, q0c, hS⟩
 have e_ := q0c.n; subst e_
 replace hF := lv_s hF; obtain ⟨x27, hx27, hF⟩ := hF
 refine x_seq <| x_region <| p (yl_move q0n) <| p (yl_move rfl) <|
  pg (v := .slice q3 q5.length c_mag1_L1) 23 (c := neg0) (says_t _) (fun hq => Yl.at (yl_move q0k)) <| pg (v := .int .i64 (q5.length : Int)) 23 (c := neg0) (says_t _) (fun hq => Yl.at (yl_len_slice usl_77 (cv hq))) <| pg (v := .bool (decide (0 < (q5.length : Int)))) 23 (c := neg0) (says_t _) (fun hq => Yl.at (yl_gtr (cv hq) rfl)) <| p (yand' rfl (fun hc => (cv hc)) rfl hx27) <|
  p (yl_move q0k) <| p (v := .agg #[.bool x27, .slice q3 q5.length c_mag1_L1]) (yl_build bld_79 bldf_79 (parts_eq (pt (va := .bool x27) rfl (pt (va := .slice q3 q5.length c_mag1_L1) rfl pt0))) (by kernel_rfl)) <| ?_
 refine o_storeAgg (news := [.bool x27, .slice q3 q5.length c_mag1_L1]) agg_79 q0l rfl rfl (by simp [over_length]) hS (fun w' hS => ?_)
 refine x_done <| ?_
 have e_ := Option.some.inj (show some _ = some _ from hF); subst e_
 exact x_return ⟨_, ⟨_, _, _, rfl, q0l, ldvA agg_79 rfl (fun j v hj => by rw [add0]; exact St.cell hS hj), rfl⟩, q3, q5.length, c_mag1_L1, rfl, q0c, hS.drop⟩
attribute [irreducible] P_exact_made

def P_exact_Of (x0 : Int) : Option T_exact_Int :=
 lv (x0 % 18446744073709551616) fun x5 =>
 bd (
  if x0 < 0 then
   lv ((0 - x5) % 18446744073709551616) fun x9 =>
   some x9
  else
   some x5) fun q2 =>
 lv (q2 % 4294967296) fun x13 =>
 ck (0 ≤ (32 : Int)) <|
 lv (shr .u64 q2 32) fun x15 =>
 lv (x15 % 4294967296) fun x16 =>
 bd (P_exact_made (decide (x0 < 0)) ([x13, x16] : List Int)) fun q3 =>
 some q3
set_option maxHeartbeats 4000000 in
set_option maxRecDepth 100000 in
theorem c_exact_Of {w0 w : World} {l : List Assn} {ρ : Heap} {x0 : Int} {r : T_exact_Int} (hF : P_exact_Of x0 = some r) (hS : St w0 w (ro ρ :: l)) :
  Calls Try.prog 51 #[.int .i64 x0] w fun e w' => ∃ (ρ' : Heap) (q4 : Option Addr) (q5 : Nat) (c_y0_ret_1 : Nat), e = .returned (.agg #[.bool r.fneg, .slice q4 q5 c_y0_ret_1]) ∧ Le ρ ρ' ∧ RdS (RpI .u32) ρ' q4 q5 c_y0_ret_1 r.fmag ∧ St w0 w' (ro ρ' :: l) := by
 refine enterC Try.func51 rfl 19 rfl (by simp) ?_
 refine x_seq <| x_region <| ?_
 refine o_alloc zero_79 hS (fun b2 w' hS => ?_)
 replace hF := lv_s hF; obtain ⟨x5, hx5, hF⟩ := hF
 refine x_done <| x_seq <| x_region <| p (yl_move rfl) <|
  p (yconvu wm_u64 uk_2 ik_158 rfl hx5) <| p (yl_assign rfl) <| x_done <| x_seq <|
  x_seq <| x_region <| p (yl_move rfl) <| p (yl_lss rfl rfl) <|
  x_done <| ?_
 replace hF := bd_s hF; obtain ⟨oc7, hFc7, hF⟩ := hF
 refine x_join (fun E w => ∃ (q6 : Int), q6 = oc7 ∧ E 0 = .int .i64 x0 ∧ E 2 = .pointer (some ⟨b2, 0, none⟩) ∧ E 3 = .int .u64 q6 ∧ St w0 w (cells b2 79 [.bool false, .slice none 0 0] :: ro ρ :: l)) ?_ ?_
 ·refine x_cond_p (x0 < 0) rfl (fun hc7 => ?_) (fun hc7 => ?_)
  ·replace hFc7 := it_t hc7 hFc7
   replace hFc7 := lv_s hFc7; obtain ⟨x9, hx9, hFc7⟩ := hFc7
   refine x_region <| p (yl_move rfl) <| p (ynegu wm_u64 rfl hx9) <| p (yl_assign rfl) <|
    x_done <| ?_
   exact x_inv ⟨x9, (Option.some.inj (show some _ = some _ from hFc7)), rfl, rfl, rfl, ((hS.pull 1).pull 1)⟩
  ·replace hFc7 := it_f hc7 hFc7
   refine x_skip <| ?_
   exact x_inv ⟨x5, (Option.some.inj (show some _ = some _ from hFc7)), rfl, rfl, rfl, ((hS.pull 1).pull 1)⟩
 rintro E w ⟨q6, rfl, q0e, q9, q0a, hS⟩
 replace hF := lv_s hF; obtain ⟨x13, hx13, hF⟩ := hF
 replace hF := ck_s hF; obtain ⟨q0f, hF⟩ := hF
 replace hF := lv_s hF; obtain ⟨x15, hx15, hF⟩ := hF
 replace hF := lv_s hF; obtain ⟨x16, hx16, hF⟩ := hF
 refine x_seq <| x_region <| p (yl_move q0e) <| p (yl_lss rfl rfl) <|
  p (yl_move q0a) <| p (yconvu wm_u32 uk_158 ik_159 rfl hx13) <| p (yl_move q0a) <| p (yshr rfl rfl q0f hx15) <|
  p (yconvu wm_u32 uk_158 ik_159 rfl hx16) <| ?_
 refine o_buildSlice (vs := [.int .u32 x13, .int .u32 x16]) (cs := [.int .u32 x13, .int .u32 x16]) sl_77 zero_159 (parts_eq (pt (va := .int .u32 x13) rfl (pt (va := .int .u32 x16) rfl pt0))) rfl (by intro v hv; simp only [List.mem_cons, List.not_mem_nil, or_false] at hv; first | (subst hv; rfl) | (rcases hv with rfl | rfl <;> rfl)) (by decide) rfl hS (fun b17 w' hS => ?_)
 have q0g : RepL (RpI .u32) ρ ([x13, x16] : List Int) [.int .u32 x13, .int .u32 x16] := (RepL.cons (cs := [.int .u32 x13]) rfl (RepL.cons (cs := [.int .u32 x16]) rfl RepL.nil))
 replace hS := St.vec_of (n := 2) (sz := (RpI .u32).sz) hS rfl (by decide)
 have q_ := St.vec_fz ((hS.pull 2).pull 1) q0g; obtain ⟨q0c, q7, q0d, hS⟩ := q_
 replace hF := bd_s hF; obtain ⟨q8, q0h, hF⟩ := hF
 have hcall := c_exact_made q0h q0d hS
 refine o_cc call_93 (args2 rfl rfl) hcall ?_
 rintro e w' ⟨q2, q0b, c_y0_ret_1_4_8, rfl, q3, hS⟩
 refine ⟨_, rfl, ?_⟩
 have e_ := q3.n; subst e_
 refine o_storeAgg (news := [.bool q8.fneg, .slice q2 q8.fmag.length c_y0_ret_1_4_8]) agg_79 q9 rfl rfl (by simp [over_length]) (hS.pull 1) (fun w' hS => ?_)
 refine x_done <| ?_
 have e_ := Option.some.inj (show some _ = some _ from hF); subst e_
 exact x_return ⟨_, ⟨_, _, _, rfl, q9, ldvA agg_79 rfl (fun j v hj => by rw [add0]; exact St.cell hS hj), rfl⟩, q0c, q2, q8.fmag.length, c_y0_ret_1_4_8, rfl, q7, q3, hS.drop⟩
attribute [irreducible] P_exact_Of

def P_exact_begin_L7 (q4 : List Int) : (List T_exact_Int × Int) → Option ((List T_exact_Int × Int) ⊕ List T_exact_Int) := fun (q3, q2) =>
 if q2 < (q4.length : Int) then
  ck (inb q2 q4.length) <|
  lv (gt q4 q2) fun x28 =>
  bd (P_exact_Of x28) fun q6 =>
  lv (q3 ++ [q6]) fun q5 =>
  ck (apOk 32 q5.length) <|
  ar (q2 + 1) fun x34 =>
  some (Sum.inl (q5, x34))
 else
  some (Sum.inr q3)
def P_exact_begin_L12 (more1 : List (List Int)) (q3 : Int) : (List T_exact_Int × Int) → Option ((List T_exact_Int × Int) ⊕ List T_exact_Int) := fun (q4, q2) =>
 if q2 < (more1.length : Int) then
  ck (inb q2 more1.length) <|
  lv (gt more1 q2) fun q5 =>
  ck (inb q3 q5.length) <|
  lv (gt q5 q3) fun x45 =>
  bd (P_exact_Of x45) fun q7 =>
  lv (q4 ++ [q7]) fun q6 =>
  ck (apOk 32 q6.length) <|
  ar (q2 + 1) fun x49 =>
  some (Sum.inl (q6, x49))
 else
  some (Sum.inr q4)
def P_exact_begin_L3 (a0 : List (List Int)) (more1 : List (List Int)) : (Int × List (List T_exact_Int)) → Option ((Int × List (List T_exact_Int)) ⊕ List (List T_exact_Int)) := fun (q2, q3) =>
 if q2 < (a0.length : Int) then
  ck (inb q2 a0.length) <|
  lv (gt a0 q2) fun q7 =>
  bd (
   lp (P_exact_begin_L7 q7) fuel ([], 0)) fun q6 =>
  bd (
   lp (P_exact_begin_L12 more1 q2) fuel (q6, 0)) fun q5 =>
  lv (q3 ++ [q5]) fun q4 =>
  ck (apOk 24 q4.length) <|
  ar (q2 + 1) fun x60 =>
  some (Sum.inl (x60, q4))
 else
  some (Sum.inr q3)
def P_exact_begin (a0 : List (List Int)) (more1 : List (List Int)) : Option (List (List T_exact_Int) × Bool × List Int) :=
 bd (P_exact_Of 1) fun q3 =>
 bd (
  lp (P_exact_begin_L3 a0 more1) fuel (0, [])) fun q2 =>
 some (q2, q3.fneg, q3.fmag)
set_option maxHeartbeats 4000000 in
set_option maxRecDepth 100000 in
theorem c_exact_begin {w0 w : World} {l : List Assn} {ρ : Heap} {q1h : Option Addr} {q3c : Nat} {c_a0 : Nat} {q0d : Option Addr} {q25 : Nat} {c_more1 : Nat} {a0 : List (List Int)} {more1 : List (List Int)} {r : (List (List T_exact_Int) × Bool × List Int)} (hF : P_exact_begin a0 more1 = some r) (q2z : RdS (RpSl (RpI .i64)) ρ q1h q3c c_a0 a0) (q1q : RdS (RpSl (RpI .i64)) ρ q0d q25 c_more1 more1) (hS : St w0 w (ro ρ :: l)) :
  Calls Try.prog 86 #[.slice q1h q3c c_a0, .slice q0d q25 c_more1] w fun e w' => ∃ (ρ' : Heap) (q1u : Nat) (q0q : Option Addr) (q0b : Nat) (c_b_y0_ret_0_ret : Nat) (q0j : List Value) (q0r : Option Addr) (q0s : Nat) (c_b_y0_ret_2_ret : Nat), e = .returned (.pointer (some ⟨q1u, 0, none⟩)) ∧ Le ρ ρ' ∧ RepL (RpSl R_exact_Int) ρ' r.1 q0j ∧ RdS (RpI .u32) ρ' q0r q0s c_b_y0_ret_2_ret r.2.2 ∧ St w0 w' (cells q1u 150 [.slice q0q q0b c_b_y0_ret_0_ret, .bool r.2.1, .slice q0r q0s c_b_y0_ret_2_ret, .bool false, .int .i64 0] :: vec 155 (RpSl R_exact_Int).sz (.slice q0q q0b c_b_y0_ret_0_ret) q0b q0j :: ro ρ' :: l) := by
 have e_ := q2z.n; subst e_
 have e_ := q1q.n; subst e_
 refine enterC Try.func86 rfl 62 rfl (by simp) ?_
 replace hF := bd_s hF; obtain ⟨q8, q3s, hF⟩ := hF
 refine x_seq <| x_region <| p (yl_assign rfl) <| x_done <|
  x_seq <| x_region <| ?_
 have hcall := c_exact_Of q3s  hS
 refine o_cc call_51 (args1 rfl) hcall ?_
 rintro e w' ⟨q1m, q3, q37, c_y0_ret_1_1_0, rfl, q0f, q0y, hS⟩
 refine ⟨_, rfl, ?_⟩
 have e_ := q0y.n; subst e_
 refine p (v := .agg #[.slice none 0 0, .bool q8.fneg, .slice q3 q8.fmag.length c_y0_ret_1_1_0, .bool false, .int .i64 0]) (yl_build bld_150 bldf_150 (parts_eq (pt (va := .agg #[.bool q8.fneg, .slice q3 q8.fmag.length c_y0_ret_1_1_0]) rfl pt0)) (by kernel_rfl)) <| ?_
 refine o_box (cs := [.slice none 0 0, .bool q8.fneg, .slice q3 q8.fmag.length c_y0_ret_1_1_0, .bool false, .int .i64 0]) rfl rfl hS (fun b15 w' hS => ?_)
 refine p (yl_assign rfl) <| x_done <| x_seq <| x_seq <|
  x_region <| p (yl_move rfl) <| p (yl_len_slice usl_75 rfl) <| p (yl_move rfl) <|
  x_done <| ?_
 replace hF := bd_s hF; obtain ⟨oL3, hLL3, hF⟩ := hF
 refine x_join (fun E w => ∃ (q1v : Heap) (q0k : Option Addr) (q0l : Nat) (c_b15_0_L3 : Nat) (q0g : List Value) (q11 : List (List T_exact_Int)), q11 = oL3 ∧ Le q1m q1v ∧ E 5 = .pointer (some ⟨b15, 0, none⟩) ∧ RepL (RpSl R_exact_Int) q1v q11 q0g ∧ St w0 w (cells b15 150 [.slice q0k q0l c_b15_0_L3, .bool q8.fneg, .slice q3 q8.fmag.length c_y0_ret_1_1_0, .bool false, .int .i64 0] :: vec 155 (RpSl R_exact_Int).sz (.slice q0k q0l c_b15_0_L3) q0l q0g :: ro q1v :: l)) ?_ ?_
 ·refine x_block ?_
  replace hS := St.vec_nil hS 155 (RpSl R_exact_Int).sz
  have q1i : RepL (RpSl R_exact_Int) q1m [] [] := rfl
  refine x_loop (fun k_ E w => ∃ (q0m : Heap) (q4 : Option Addr) (q0h : Nat) (c_b15_0_L3h : Nat) (q5 : List Value) (q6 : Int) (q2 : List (List T_exact_Int)), lp (P_exact_begin_L3 a0 more1) k_ (q6, q2) = some oL3 ∧ Le q1m q0m ∧ E 1 = .slice q0d more1.length c_more1 ∧ E 5 = .pointer (some ⟨b15, 0, none⟩) ∧ E 16 = .slice q1h a0.length c_a0 ∧ E 17 = .int .i64 (a0.length : Int) ∧ E 18 = .int .i64 q6 ∧ RepL (RpSl R_exact_Int) q0m q2 q5 ∧ St w0 w (cells b15 150 [.slice q4 q0h c_b15_0_L3h, .bool q8.fneg, .slice q3 q8.fmag.length c_y0_ret_1_1_0, .bool false, .int .i64 0] :: vec 155 (RpSl R_exact_Int).sz (.slice q4 q0h c_b15_0_L3h) q0h q5 :: ro q0m :: l)) fuel ⟨q1m, none, 0, 0, [], 0, [], hLL3, (Le.refl _), rfl, rfl, rfl, rfl, rfl, q1i, (((hS.pull 2).pull 1).pull 2)⟩ ?_
  rintro kL3 E w ⟨q0m, q4, q0h, c_b15_0_L3h, q5, q6, q2, hLL3, q7, q3d, q2o, q26, q27, q1d, q0x, hS⟩
  have e_ := St.vec_n (hS.pull 1) q0x; subst e_
  replace hLL3 := lp_s hLL3; obtain ⟨kL3, obL3, rfl, hFL3, hLL3⟩ := hLL3
  refine x_seq <| x_region <| p (yl_lss q1d q27) <| x_done <|
   x_seq <|
   x_cond_p (q6 < (a0.length : Int)) rfl (fun hc19 => ?_) (fun hc19 => ?_)
  ·replace hFL3 := it_t hc19 hFL3
   replace hFL3 := ck_s hFL3; obtain ⟨q31, hFL3⟩ := hFL3
   replace hFL3 := lv_s hFL3; obtain ⟨q2l, q3t, hFL3⟩ := hFL3
   have q_ := q2z.get q31; obtain ⟨q45, q32, q3u⟩ := q_
   rw [← q3t] at q32
   obtain ⟨q42, q4a, q43, rfl, q30⟩ := q32
   have e_ := q30.n; subst e_
   refine x_skip <| x_seq <| x_block <| x_seq <|
    x_region <| p (yl_move q1d) <| p (yix_f sl_75 q26 q1d (q2z.le (q0f.trans q7)) q31) <| pa (at_load one_87 rfl (Elt.ld (j := 0) (Elt.le q3u (q0f.trans q7)) (hS.pull 2) rfl)) <|
    p (yl_assign rfl) <| p (yl_assign rfl) <| x_done <| x_seq <|
    x_region <| p (yl_assign rfl) <| x_done <| x_seq <|
    x_seq <| x_region <| p (yl_move rfl) <| p (yl_len_slice usl_87 rfl) <|
    p (yl_move rfl) <| x_done <| ?_
   replace hFL3 := bd_s hFL3; obtain ⟨oL7, hLL7, hFL3⟩ := hFL3
   refine x_join (fun E w => ∃ (q1j : Heap) (q1e : Option Addr) (q1f : Nat) (c_l8_L7 : Nat) (q12 : List Value) (q1n : List T_exact_Int), q1n = oL7 ∧ Le q0m q1j ∧ E 1 = .slice q0d more1.length c_more1 ∧ E 5 = .pointer (some ⟨b15, 0, none⟩) ∧ E 6 = .int .i64 q6 ∧ E 8 = .slice q1e q1f c_l8_L7 ∧ E 16 = .slice q1h a0.length c_a0 ∧ E 17 = .int .i64 (a0.length : Int) ∧ E 18 = .int .i64 q6 ∧ RepL R_exact_Int q1j q1n q12 ∧ St w0 w (cells b15 150 [.slice q4 q2.length c_b15_0_L3h, .bool q8.fneg, .slice q3 q8.fmag.length c_y0_ret_1_1_0, .bool false, .int .i64 0] :: vec 79 R_exact_Int.sz (.slice q1e q1f c_l8_L7) q1f q12 :: vec 155 (RpSl R_exact_Int).sz (.slice q4 q2.length c_b15_0_L3h) q2.length q5 :: ro q1j :: l)) ?_ ?_
   ·refine x_block ?_
    replace hS := St.vec_nil hS 79 R_exact_Int.sz
    have q1s : RepL R_exact_Int q0m [] [] := rfl
    refine x_loop (fun k_ E w => ∃ (q1o : Heap) (q13 : Option Addr) (q14 : Nat) (c_l8_L7h : Nat) (q0t : List Value) (q19 : List T_exact_Int) (q1g : Int), lp (P_exact_begin_L7 q2l) k_ (q19, q1g) = some oL7 ∧ Le q0m q1o ∧ E 1 = .slice q0d more1.length c_more1 ∧ E 5 = .pointer (some ⟨b15, 0, none⟩) ∧ E 6 = .int .i64 q6 ∧ E 8 = .slice q13 q14 c_l8_L7h ∧ E 16 = .slice q1h a0.length c_a0 ∧ E 17 = .int .i64 (a0.length : Int) ∧ E 18 = .int .i64 q6 ∧ E 23 = .slice q42 q2l.length q43 ∧ E 24 = .int .i64 (q2l.length : Int) ∧ E 25 = .int .i64 q1g ∧ RepL R_exact_Int q1o q19 q0t ∧ St w0 w (cells b15 150 [.slice q4 q2.length c_b15_0_L3h, .bool q8.fneg, .slice q3 q8.fmag.length c_y0_ret_1_1_0, .bool false, .int .i64 0] :: vec 79 R_exact_Int.sz (.slice q13 q14 c_l8_L7h) q14 q0t :: vec 155 (RpSl R_exact_Int).sz (.slice q4 q2.length c_b15_0_L3h) q2.length q5 :: ro q1o :: l)) fuel ⟨q0m, none, 0, 0, [], [], 0, hLL7, (Le.refl _), q3d, q2o, rfl, rfl, q26, q27, q1d, rfl, rfl, rfl, q1s, ((((hS.pull 3).pull 3).pull 2).pull 3)⟩ ?_
    rintro kL7 E w ⟨q1o, q13, q14, c_l8_L7h, q0t, q19, q1g, hLL7, q15, q2p, q2q, q2r, q2s, q28, q29, q2a, q2b, q2c, q1r, q1k, hS⟩
    have e_ := St.vec_n (hS.pull 1) q1k; subst e_
    replace hLL7 := lp_s hLL7; obtain ⟨kL7, obL7, rfl, hFL7, hLL7⟩ := hLL7
    refine x_seq <| x_region <| p (yl_lss q1r q2c) <| x_done <|
     x_seq <|
     x_cond_p (q1g < (q2l.length : Int)) rfl (fun hc26 => ?_) (fun hc26 => ?_)
    ·replace hFL7 := it_t hc26 hFL7
     replace hFL7 := ck_s hFL7; obtain ⟨q33, hFL7⟩ := hFL7
     replace hFL7 := lv_s hFL7; obtain ⟨x28, hx28, hFL7⟩ := hFL7
     replace hFL7 := bd_s hFL7; obtain ⟨q16, q3v, hFL7⟩ := hFL7
     refine x_skip <| x_seq <| x_block <| x_seq <|
      x_region <| p (yix_f sl_87 q2b q1r (q30.le ((q0f.trans q7).trans q15)) q33) <| pa (at_load one_2 rfl (RdS.getW (q30.le ((q0f.trans q7).trans q15)) (hS.pull 3) q33 hx28)) <| p (yl_assign rfl) <|
      x_done <| x_region <| p (yl_move q2s) <| p (yl_move rfl) <| ?_
     have hcall := c_exact_Of q3v  (hS.pull 3)
     refine o_cc call_51 (args1 rfl) hcall ?_
     rintro e w' ⟨q2t, q0a, q38, c_y0_ret_1_9_2, rfl, q2u, q0z, hS⟩
     refine ⟨_, rfl, ?_⟩
     have e_ := q0z.n; subst e_
     refine o_buildSlice (vs := [.agg #[.bool q16.fneg, .slice q0a q16.fmag.length c_y0_ret_1_9_2]]) (cs := [.bool q16.fneg, .slice q0a q16.fmag.length c_y0_ret_1_9_2]) sl_155 zero_79 (parts_eq (pt (va := .agg #[.bool q16.fneg, .slice q0a q16.fmag.length c_y0_ret_1_9_2]) rfl pt0)) rfl (by intro v hv; simp only [List.mem_cons, List.not_mem_nil, or_false] at hv; first | (subst hv; rfl) | (rcases hv with rfl <;> rfl)) (by decide) rfl hS (fun b32 w' hS => ?_)
     replace hFL7 := lv_s hFL7; obtain ⟨q3e, q3w, hFL7⟩ := hFL7
     replace hFL7 := ck_s hFL7; obtain ⟨q3x, hFL7⟩ := hFL7
     refine o_ap sl_155 zero_79 rfl (by decide) rfl rfl (hS.pull 3) (q1k.le q2u) (src_blk usl_155 hS rfl rfl) (RepL.cons (R := R_exact_Int) (ρ := q2t) (x := q16) (cs := [.bool q16.fneg, .slice q0a q16.fmag.length c_y0_ret_1_9_2]) ⟨_, _, _, rfl, q0z⟩ RepL.nil) q3w q3x (fun A33 c33 cs33 w' hr33 hS => ?_)
     replace hFL7 := ar_s hFL7; obtain ⟨x34, hx34, hFL7⟩ := hFL7
     refine p (yl_assign rfl) <| x_done <| x_blk <| x_region <|
      p (yadd q1r rfl hx34) <| p (yl_move rfl) <| x_done <| ?_
     have e_ := Option.some.inj (show some _ = some _ from hFL7); subst e_
     exact x_inv ⟨kL7, Nat.lt_succ_self _, q2t, A33, q3e.length, c33, cs33, q3e, x34, hLL7, (q15.trans q2u), q2p, q2q, q2r, rfl, q28, q29, q2a, q2b, q2c, rfl, hr33, (((((hS.pull 1).drop.pull 1).pull 3).pull 2).pull 3)⟩
    ·replace hFL7 := it_f hc26 hFL7
     refine x_exitTo _ rfl <| ?_
     have e_ := Option.some.inj (show some _ = some _ from hFL7); subst e_
     exact x_inv ⟨q1o, q13, q19.length, c_l8_L7h, q0t, q19, hLL7, q15, q2p, q2q, q2r, q2s, q28, q29, q2a, q1k, ((((hS.pull 3).pull 3).pull 3).pull 3)⟩
   rintro E w ⟨q1j, q1e, q1f, c_l8_L7, q12, q1n, rfl, q0p, q34, q3y, q3z, q40, q3f, q3g, q3h, q2d, hS⟩
   have e_ := St.vec_n (hS.pull 1) q2d; subst e_
   refine x_seq <| x_seq <| x_region <| p (yl_move q34) <|
    p (yl_len_slice usl_75 rfl) <| p (yl_move rfl) <| x_done <| ?_
   replace hFL3 := bd_s hFL3; obtain ⟨oL12, hLL12, hFL3⟩ := hFL3
   refine x_join (fun E w => ∃ (q1t : Heap) (q0c : Option Addr) (q17 : Nat) (c_l8_L12 : Nat) (q1a : List Value) (q0i : List T_exact_Int), q0i = oL12 ∧ Le q1j q1t ∧ E 1 = .slice q0d more1.length c_more1 ∧ E 5 = .pointer (some ⟨b15, 0, none⟩) ∧ E 8 = .slice q0c q17 c_l8_L12 ∧ E 16 = .slice q1h a0.length c_a0 ∧ E 17 = .int .i64 (a0.length : Int) ∧ E 18 = .int .i64 q6 ∧ RepL R_exact_Int q1t q0i q1a ∧ St w0 w (cells b15 150 [.slice q4 q2.length c_b15_0_L3h, .bool q8.fneg, .slice q3 q8.fmag.length c_y0_ret_1_1_0, .bool false, .int .i64 0] :: vec 79 R_exact_Int.sz (.slice q0c q17 c_l8_L12) q17 q1a :: vec 155 (RpSl R_exact_Int).sz (.slice q4 q2.length c_b15_0_L3h) q2.length q5 :: ro q1t :: l)) ?_ ?_
   ·refine x_block ?_
    refine x_loop (fun k_ E w => ∃ (q1b : Heap) (q0u : Option Addr) (q0v : Nat) (c_l8_L12h : Nat) (q0n : List Value) (q10 : List T_exact_Int) (q18 : Int), lp (P_exact_begin_L12 more1 q6) k_ (q10, q18) = some oL12 ∧ Le q1j q1b ∧ E 1 = .slice q0d more1.length c_more1 ∧ E 5 = .pointer (some ⟨b15, 0, none⟩) ∧ E 6 = .int .i64 q6 ∧ E 8 = .slice q0u q0v c_l8_L12h ∧ E 16 = .slice q1h a0.length c_a0 ∧ E 17 = .int .i64 (a0.length : Int) ∧ E 18 = .int .i64 q6 ∧ E 35 = .slice q0d more1.length c_more1 ∧ E 36 = .int .i64 (more1.length : Int) ∧ E 37 = .int .i64 q18 ∧ RepL R_exact_Int q1b q10 q0n ∧ St w0 w (cells b15 150 [.slice q4 q2.length c_b15_0_L3h, .bool q8.fneg, .slice q3 q8.fmag.length c_y0_ret_1_1_0, .bool false, .int .i64 0] :: vec 79 R_exact_Int.sz (.slice q0u q0v c_l8_L12h) q0v q0n :: vec 155 (RpSl R_exact_Int).sz (.slice q4 q2.length c_b15_0_L3h) q2.length q5 :: ro q1b :: l)) fuel ⟨q1j, q1e, q1n.length, c_l8_L7, q12, q1n, 0, hLL12, (Le.refl _), q34, q3y, q3z, q40, q3f, q3g, q3h, rfl, rfl, rfl, q2d, ((((hS.pull 3).pull 3).pull 3).pull 3)⟩ ?_
    rintro kL12 E w ⟨q1b, q0u, q0v, c_l8_L12h, q0n, q10, q18, hLL12, q0e, q2e, q2f, q2g, q2h, q1w, q1x, q1y, q1z, q20, q1l, q1c, hS⟩
    have e_ := St.vec_n (hS.pull 1) q1c; subst e_
    replace hLL12 := lp_s hLL12; obtain ⟨kL12, obL12, rfl, hFL12, hLL12⟩ := hLL12
    refine x_seq <| x_region <| p (yl_lss q1l q20) <| x_done <|
     x_seq <|
     x_cond_p (q18 < (more1.length : Int)) rfl (fun hc38 => ?_) (fun hc38 => ?_)
    ·replace hFL12 := it_t hc38 hFL12
     replace hFL12 := ck_s hFL12; obtain ⟨q2v, hFL12⟩ := hFL12
     replace hFL12 := lv_s hFL12; obtain ⟨q46, q3i, hFL12⟩ := hFL12
     have q_ := q1q.get q2v; obtain ⟨q44, q2w, q3j⟩ := q_
     rw [← q3i] at q2w
     obtain ⟨q47, q48, q49, rfl, q2m⟩ := q2w
     have e_ := q2m.n; subst e_
     replace hFL12 := ck_s hFL12; obtain ⟨q2x, hFL12⟩ := hFL12
     replace hFL12 := lv_s hFL12; obtain ⟨x45, hx45, hFL12⟩ := hFL12
     replace hFL12 := bd_s hFL12; obtain ⟨q0o, q3k, hFL12⟩ := hFL12
     refine x_skip <| x_seq <| x_block <| x_seq <|
      x_region <| p (yix_f sl_75 q1z q1l (q1q.le (((q0f.trans q7).trans q0p).trans q0e)) q2v) <| pa (at_load one_87 rfl (Elt.ld (j := 0) (Elt.le q3j (((q0f.trans q7).trans q0p).trans q0e)) (hS.pull 3) rfl)) <| p (yl_assign rfl) <|
      x_done <| x_region <| p (yl_move q2h) <| p (yl_move rfl) <|
      p (yl_move q2g) <| p (yix_f sl_87 rfl rfl (q2m.le (((q0f.trans q7).trans q0p).trans q0e)) q2x) <| pa (at_load one_2 rfl (RdS.getW (q2m.le (((q0f.trans q7).trans q0p).trans q0e)) (hS.pull 3) q2x hx45)) <| ?_
     have hcall := c_exact_Of q3k  (hS.pull 3)
     refine o_cc call_51 (args1 rfl) hcall ?_
     rintro e w' ⟨q2i, q9, q35, c_y0_ret_1_14_5, rfl, q2j, q0w, hS⟩
     refine ⟨_, rfl, ?_⟩
     have e_ := q0w.n; subst e_
     refine o_buildSlice (vs := [.agg #[.bool q0o.fneg, .slice q9 q0o.fmag.length c_y0_ret_1_14_5]]) (cs := [.bool q0o.fneg, .slice q9 q0o.fmag.length c_y0_ret_1_14_5]) sl_155 zero_79 (parts_eq (pt (va := .agg #[.bool q0o.fneg, .slice q9 q0o.fmag.length c_y0_ret_1_14_5]) rfl pt0)) rfl (by intro v hv; simp only [List.mem_cons, List.not_mem_nil, or_false] at hv; first | (subst hv; rfl) | (rcases hv with rfl <;> rfl)) (by decide) rfl hS (fun b47 w' hS => ?_)
     replace hFL12 := lv_s hFL12; obtain ⟨q36, q3l, hFL12⟩ := hFL12
     replace hFL12 := ck_s hFL12; obtain ⟨q3m, hFL12⟩ := hFL12
     refine o_ap sl_155 zero_79 rfl (by decide) rfl rfl (hS.pull 3) (q1c.le q2j) (src_blk usl_155 hS rfl rfl) (RepL.cons (R := R_exact_Int) (ρ := q2i) (x := q0o) (cs := [.bool q0o.fneg, .slice q9 q0o.fmag.length c_y0_ret_1_14_5]) ⟨_, _, _, rfl, q0w⟩ RepL.nil) q3l q3m (fun A48 c48 cs48 w' hr48 hS => ?_)
     replace hFL12 := ar_s hFL12; obtain ⟨x49, hx49, hFL12⟩ := hFL12
     refine p (yl_assign rfl) <| x_done <| x_blk <| x_region <|
      p (yadd q1l rfl hx49) <| p (yl_move rfl) <| x_done <| ?_
     have e_ := Option.some.inj (show some _ = some _ from hFL12); subst e_
     exact x_inv ⟨kL12, Nat.lt_succ_self _, q2i, A48, q36.length, c48, cs48, q36, x49, hLL12, (q0e.trans q2j), q2e, q2f, q2g, rfl, q1w, q1x, q1y, q1z, q20, rfl, hr48, (((((hS.pull 1).drop.pull 1).pull 3).pull 2).pull 3)⟩
    ·replace hFL12 := it_f hc38 hFL12
     refine x_exitTo _ rfl <| ?_
     have e_ := Option.some.inj (show some _ = some _ from hFL12); subst e_
     exact x_inv ⟨q1b, q0u, q10.length, c_l8_L12h, q0n, q10, hLL12, q0e, q2e, q2f, q2h, q1w, q1x, q1y, q1c, ((((hS.pull 3).pull 3).pull 3).pull 3)⟩
   rintro E w ⟨q1t, q0c, q17, c_l8_L12, q1a, q0i, rfl, q21, q3n, q22, q3o, q39, q3a, q3b, q23, hS⟩
   have e_ := St.vec_n (hS.pull 1) q23; subst e_
   refine x_region <| p (yl_move q22) <| p (yl_move q22) <| p (yl_nilCheck rfl) <|
    p (yl_field0 fld_150_0 rfl) <| pa (at_load one_148 rfl (hS.cell rfl)) <| p (yl_move q3o) <| ?_
   have q_ := St.vec_fz ((hS.pull 3).pull 2) q23; obtain ⟨q2y, q24, q3p, hS⟩ := q_
   refine o_buildSlice (vs := [.slice q0c q0i.length c_l8_L12]) (cs := [.slice q0c q0i.length c_l8_L12]) sl_148 zero_155 (parts_eq (pt (va := .slice q0c q0i.length c_l8_L12) rfl pt0)) rfl (by intro v hv; simp only [List.mem_cons, List.not_mem_nil, or_false] at hv; first | (subst hv; rfl) | (rcases hv with rfl <;> rfl)) (by decide) rfl hS (fun b56 w' hS => ?_)
   replace hFL3 := lv_s hFL3; obtain ⟨q2n, q3q, hFL3⟩ := hFL3
   replace hFL3 := ck_s hFL3; obtain ⟨q3r, hFL3⟩ := hFL3
   refine o_ap sl_148 zero_155 rfl (by decide) rfl rfl (hS.pull 3) (q0x.le ((q0p.trans q21).trans q24)) (src_blk usl_148 hS rfl rfl) (RepL.cons (R := (RpSl R_exact_Int)) (ρ := q2y) (x := q0i) (cs := [.slice q0c q0i.length c_l8_L12]) ⟨_, _, _, rfl, q3p⟩ RepL.nil) q3q q3r (fun A57 c57 cs57 w' hr57 hS => ?_)
   refine p (yl_nilCheck rfl) <| p (yl_field0 fld_150_0 rfl) <| ?_
   refine o_store1 (v := .slice A57 q2n.length c57) one_148 rfl rfl rfl rfl (hS.pull 3) (fun w' hS => ?_)
   replace hFL3 := ar_s hFL3; obtain ⟨x60, hx60, hFL3⟩ := hFL3
   refine x_done <| x_blk <| x_region <| p (yadd q3b rfl hx60) <|
    p (yl_move rfl) <| x_done <| ?_
   have e_ := Option.some.inj (show some _ = some _ from hFL3); subst e_
   exact x_inv ⟨kL3, Nat.lt_succ_self _, q2y, A57, q2n.length, c57, cs57, x60, q2n, hLL3, (((q7.trans q0p).trans q21).trans q24), q3n, q22, q39, q3a, rfl, hr57, ((((hS.pull 2).drop.pull 2).pull 2).pull 2)⟩
  ·replace hFL3 := it_f hc19 hFL3
   refine x_exitTo _ rfl <| ?_
   have e_ := Option.some.inj (show some _ = some _ from hFL3); subst e_
   exact x_inv ⟨q0m, q4, q2.length, c_b15_0_L3h, q5, q2, hLL3, q7, q2o, q0x, (((hS.pull 2).pull 2).pull 2)⟩
 rintro E w ⟨q1v, q0k, q0l, c_b15_0_L3, q0g, q11, rfl, q2k, q41, q1p, hS⟩
 have e_ := St.vec_n (hS.pull 1) q1p; subst e_
 refine x_seq <| x_region <| p (yl_move q41) <| p (yl_assign rfl) <|
  x_done <| ?_
 have e_ := Option.some.inj (show some _ = some _ from hF); subst e_
 exact x_return ⟨_, ⟨_, _, rfl, rfl, rfl⟩, q1v, b15, q0k, q11.length, c_b15_0_L3, q0g, q3, q8.fmag.length, c_y0_ret_1_1_0, rfl, (q0f.trans q2k), q1p, (q0y.le q2k), (((hS.pull 2).pull 2).pull 2)⟩
attribute [irreducible] P_exact_begin

def P_exact_Sign (a0 : T_exact_Int) : Option Int :=
 if (a0.fmag.length : Int) = 0 then
  some (0 : Int)
 else
  if a0.fneg = true then
   some (-1 : Int)
  else
   some (1 : Int)
set_option maxHeartbeats 4000000 in
set_option maxRecDepth 100000 in
theorem c_exact_Sign {w0 w : World} {l : List Assn} {ρ : Heap} {q2 : Option Addr} {q3 : Nat} {c_a0_1 : Nat} {a0 : T_exact_Int} {r : Int} (hF : P_exact_Sign a0 = some r) (q4 : RdS (RpI .u32) ρ q2 q3 c_a0_1 a0.fmag) (hS : St w0 w (ro ρ :: l)) :
  Calls Try.prog 44 #[.agg #[.bool a0.fneg, .slice q2 q3 c_a0_1]] w fun e w' => e = .returned (.int .i64 r) ∧ St w0 w' (ro ρ :: l) := by
 have e_ := q4.n; subst e_
 refine enterC Try.func44 rfl 11 rfl (by simp) ?_
 refine x_seq <| x_region <| ?_
 refine o_box (cs := [.bool a0.fneg, .slice q2 a0.fmag.length c_a0_1]) rfl rfl hS (fun b1 w' hS => ?_)
 refine p (yl_assign rfl) <| x_done <| x_seq <| x_block <|
  x_seq <| x_region <| p (yl_field0 fld_79_1 rfl) <| pa (at_load one_77 rfl (hS.cell rfl)) <|
  p (yl_len_slice usl_77 rfl) <| p (yl_eql rfl rfl) <| p (yl_assign rfl) <| x_done <|
  x_cond_p ((a0.fmag.length : Int) = 0) rfl (fun hc3 => ?_) (fun hc3 => ?_)
 ·replace hF := it_t hc3 hF
  refine x_seq <| x_region <| p (yl_assign rfl) <| x_done <| ?_
  have e_ := Option.some.inj (show some _ = some _ from hF); subst e_
  exact x_return ⟨_, ⟨_, _, rfl, rfl, rfl⟩, rfl, hS.drop⟩
 ·replace hF := it_f hc3 hF
  refine x_seq <| x_region <| p (yl_field0 fld_79_0 rfl) <| pa (at_load one_4 rfl (hS.cell rfl)) <|
   p (yl_assign rfl) <| x_done <|
   x_cond (t := a0.fneg) rfl (fun hc8 => ?_) (fun hc8 => ?_)
  ·replace hF := it_t hc8 hF
   refine x_seq <| x_region <| p (yl_assign rfl) <| x_done <| ?_
   have e_ := Option.some.inj (show some _ = some _ from hF); subst e_
   exact x_return ⟨_, ⟨_, _, rfl, rfl, rfl⟩, rfl, hS.drop⟩
  ·replace hF := it_bf hc8 hF
   refine x_skip <| x_blk <| x_seq <| x_region <|
    p (yl_assign rfl) <| x_done <| ?_
   have e_ := Option.some.inj (show some _ = some _ from hF); subst e_
   exact x_return ⟨_, ⟨_, _, rfl, rfl, rfl⟩, rfl, hS.drop⟩
attribute [irreducible] P_exact_Sign

def P_exact_times_L7 (b1 : T_exact_Int) (x26 : Int) (q5 : Int) : (List Int × Int × Int) → Option ((List Int × Int × Int) ⊕ (List Int × Int)) := fun (q3, q4, q2) =>
 if q2 < (b1.fmag.length : Int) then
  ck (inb q2 b1.fmag.length) <|
  lv (gt b1.fmag q2) fun x34 =>
  ar (q5 + q2) fun x39 =>
  ck (inb x39 q3.length) <|
  lv (gt q3 x39) fun x41 =>
  lv (x41 % 18446744073709551616) fun x42 =>
  lv (x26 % 18446744073709551616) fun x44 =>
  lv (x34 % 18446744073709551616) fun x46 =>
  lv ((x44 * x46) % 18446744073709551616) fun x47 =>
  lv ((x42 + x47) % 18446744073709551616) fun x48 =>
  lv ((q4 + x48) % 18446744073709551616) fun x49 =>
  ar (q5 + q2) fun x53 =>
  lv (x49 % 4294967296) fun x55 =>
  ck (inb x53 q3.length) <|
  lv (stt q3 x53 x55) fun q6 =>
  ck (0 ≤ (32 : Int)) <|
  lv (shr .u64 x49 32) fun x58 =>
  ar (q2 + 1) fun x59 =>
  some (Sum.inl (q6, x58, x59))
 else
  some (Sum.inr (q3, q4))
def P_exact_times_L3 (a0 : T_exact_Int) (b1 : T_exact_Int) : (List Int × Int) → Option ((List Int × Int) ⊕ List Int) := fun (q3, q2) =>
 if q2 < (a0.fmag.length : Int) then
  ck (inb q2 a0.fmag.length) <|
  lv (gt a0.fmag q2) fun x26 =>
  bd (
   lp (P_exact_times_L7 b1 x26 q2) fuel (q3, 0, 0)) fun (q4, q5) =>
  ar (q2 + (b1.fmag.length : Int)) fun x65 =>
  lv (q5 % 4294967296) fun x67 =>
  ck (inb x65 q4.length) <|
  lv (stt q4 x65 x67) fun q6 =>
  ar (q2 + 1) fun x69 =>
  some (Sum.inl (q6, x69))
 else
  some (Sum.inr q3)
def P_exact_times (a0 : T_exact_Int) (b1 : T_exact_Int) : Option T_exact_Int :=
 ar ((a0.fmag.length : Int) + (b1.fmag.length : Int)) fun x17 =>
 ck (mkOk 4 x17) <|
 lv ((List.replicate (x17 : Int).toNat 0 : List Int)) fun q4 =>
 bd (
  lp (P_exact_times_L3 a0 b1) fuel (q4, 0)) fun q2 =>
 bd (P_exact_made (!(a0.fneg == b1.fneg)) q2) fun q3 =>
 some q3
set_option maxHeartbeats 4000000 in
set_option maxRecDepth 100000 in
theorem c_exact_times {w0 w : World} {l : List Assn} {ρ : Heap} {q4 : Option Addr} {q13 : Nat} {c_a0_1 : Nat} {q8 : Option Addr} {q14 : Nat} {c_b1_1 : Nat} {a0 : T_exact_Int} {b1 : T_exact_Int} {r : T_exact_Int} (hF : P_exact_times a0 b1 = some r) (q0s : RdS (RpI .u32) ρ q4 q13 c_a0_1 a0.fmag) (q0t : RdS (RpI .u32) ρ q8 q14 c_b1_1 b1.fmag) (hS : St w0 w (ro ρ :: l)) :
  Calls Try.prog 89 #[.agg #[.bool a0.fneg, .slice q4 q13 c_a0_1], .agg #[.bool b1.fneg, .slice q8 q14 c_b1_1]] w fun e w' => ∃ (ρ' : Heap) (q0k : Option Addr) (q0l : Nat) (c_y0_ret_1 : Nat), e = .returned (.agg #[.bool r.fneg, .slice q0k q0l c_y0_ret_1]) ∧ Le ρ ρ' ∧ RdS (RpI .u32) ρ' q0k q0l c_y0_ret_1 r.fmag ∧ St w0 w' (ro ρ' :: l) := by
 have e_ := q0s.n; subst e_
 have e_ := q0t.n; subst e_
 refine enterC Try.func89 rfl 77 rfl (by simp) ?_
 refine x_seq <| x_region <| ?_
 refine o_box (cs := [.bool a0.fneg, .slice q4 a0.fmag.length c_a0_1]) rfl rfl hS (fun b2 w' hS => ?_)
 refine o_box (cs := [.bool b1.fneg, .slice q8 b1.fmag.length c_b1_1]) rfl rfl hS (fun b3 w' hS => ?_)
 refine o_alloc zero_79 hS (fun b4 w' hS => ?_)
 replace hF := ar_s hF; obtain ⟨x17, hx17, hF⟩ := hF
 refine x_done <| x_seq <| x_region <| p (yl_field0 fld_79_1 rfl) <|
  pa (at_load one_77 rfl ((hS.pull 2).cell rfl)) <| p (yl_len_slice usl_77 rfl) <| p (yl_field0 fld_79_1 rfl) <| pa (at_load one_77 rfl ((hS.pull 1).cell rfl)) <|
  p (yl_len_slice usl_77 rfl) <| p (yadd rfl rfl hx17) <| ?_
 replace hF := ck_s hF; obtain ⟨q21, hF⟩ := hF
 replace hF := lv_s hF; obtain ⟨q2, q22, hF⟩ := hF
 refine o_mk sl_77 zero_159 (show (RpI .u32).ok ρ _ 0 from rfl) rfl rfl q21 (by decide) q22 hS (fun A18 cs18 w' hr18 hS => ?_)
 refine p (yl_assign rfl) <| x_done <| x_seq <| x_seq <|
  x_region <| p (yl_field0 fld_79_1 rfl) <| pa (at_load one_77 rfl ((hS.pull 3).cell rfl)) <| p (yl_len_slice usl_77 rfl) <|
  p (yl_move rfl) <| x_done <| ?_
 replace hF := bd_s hF; obtain ⟨oL3, hLL3, hF⟩ := hF
 refine x_join (fun E w => ∃ (q0d : List Value) (q0p : List Int), q0p = oL3 ∧ E 2 = .pointer (some ⟨b2, 0, none⟩) ∧ E 3 = .pointer (some ⟨b3, 0, none⟩) ∧ E 4 = .pointer (some ⟨b4, 0, none⟩) ∧ E 5 = .slice A18 q2.length q2.length ∧ RepL (RpI .u32) ρ q0p q0d ∧ St w0 w (cells b2 79 [.bool a0.fneg, .slice q4 a0.fmag.length c_a0_1] :: cells b3 79 [.bool b1.fneg, .slice q8 b1.fmag.length c_b1_1] :: cells b4 79 [.bool false, .slice none 0 0] :: vec 159 (RpI .u32).sz (.slice A18 q2.length q2.length) q2.length q0d :: ro ρ :: l)) ?_ ?_
 ·refine x_block ?_
  refine x_loop (fun k_ E w => ∃ (q5 : List Value) (q0a : List Int) (q3 : Int), lp (P_exact_times_L3 a0 b1) k_ (q0a, q3) = some oL3 ∧ E 2 = .pointer (some ⟨b2, 0, none⟩) ∧ E 3 = .pointer (some ⟨b3, 0, none⟩) ∧ E 4 = .pointer (some ⟨b4, 0, none⟩) ∧ E 5 = .slice A18 q2.length q2.length ∧ E 20 = .slice q4 a0.fmag.length c_a0_1 ∧ E 21 = .int .i64 (a0.fmag.length : Int) ∧ E 22 = .int .i64 q3 ∧ RepL (RpI .u32) ρ q0a q5 ∧ St w0 w (cells b2 79 [.bool a0.fneg, .slice q4 a0.fmag.length c_a0_1] :: cells b3 79 [.bool b1.fneg, .slice q8 b1.fmag.length c_b1_1] :: cells b4 79 [.bool false, .slice none 0 0] :: vec 159 (RpI .u32).sz (.slice A18 q2.length q2.length) q2.length q5 :: ro ρ :: l)) fuel ⟨cs18, q2, 0, hLL3, rfl, rfl, rfl, rfl, rfl, rfl, rfl, hr18, (((((hS.pull 4).pull 1).pull 2).pull 3).pull 4)⟩ ?_
  rintro kL3 E w ⟨q5, q0a, q3, hLL3, q15, q0u, q16, q17, q0v, q0w, q0h, q0m, hS⟩
  replace hLL3 := lp_s hLL3; obtain ⟨kL3, obL3, rfl, hFL3, hLL3⟩ := hLL3
  refine x_seq <| x_region <| p (yl_lss q0h q0w) <| x_done <|
   x_seq <|
   x_cond_p (q3 < (a0.fmag.length : Int)) rfl (fun hc23 => ?_) (fun hc23 => ?_)
  ·replace hFL3 := it_t hc23 hFL3
   replace hFL3 := ck_s hFL3; obtain ⟨q1h, hFL3⟩ := hFL3
   replace hFL3 := lv_s hFL3; obtain ⟨x26, hx26, hFL3⟩ := hFL3
   refine x_skip <| x_seq <| x_block <| x_seq <|
    x_region <| p (yl_move q0h) <| p (yix_f sl_77 q0v q0h q0s q1h) <| pa (at_load one_159 rfl (RdS.getW q0s (hS.pull 4) q1h hx26)) <|
    p (yl_assign rfl) <| p (yl_assign rfl) <| x_done <| x_seq <|
    x_region <| p (yl_assign rfl) <| x_done <| x_seq <|
    x_seq <| x_region <| p (yl_field0 fld_79_1 q0u) <| pa (at_load one_77 rfl ((hS.pull 1).cell rfl)) <|
    p (yl_len_slice usl_77 rfl) <| p (yl_move rfl) <| x_done <| ?_
   replace hFL3 := bd_s hFL3; obtain ⟨oL7, hLL7, hFL3⟩ := hFL3
   refine x_join (fun E w => ∃ (q0e : List Value) (q0q : List Int) (q0g : Int), (q0q, q0g) = oL7 ∧ E 2 = .pointer (some ⟨b2, 0, none⟩) ∧ E 3 = .pointer (some ⟨b3, 0, none⟩) ∧ E 4 = .pointer (some ⟨b4, 0, none⟩) ∧ E 5 = .slice A18 q2.length q2.length ∧ E 6 = .int .i64 q3 ∧ E 8 = .int .u64 q0g ∧ E 20 = .slice q4 a0.fmag.length c_a0_1 ∧ E 21 = .int .i64 (a0.fmag.length : Int) ∧ E 22 = .int .i64 q3 ∧ RepL (RpI .u32) ρ q0q q0e ∧ St w0 w (cells b2 79 [.bool a0.fneg, .slice q4 a0.fmag.length c_a0_1] :: cells b3 79 [.bool b1.fneg, .slice q8 b1.fmag.length c_b1_1] :: cells b4 79 [.bool false, .slice none 0 0] :: vec 159 (RpI .u32).sz (.slice A18 q2.length q2.length) q2.length q0e :: ro ρ :: l)) ?_ ?_
   ·refine x_block ?_
    refine x_loop (fun k_ E w => ∃ (q7 : List Value) (q0f : List Int) (q9 : Int) (q0i : Int), lp (P_exact_times_L7 b1 x26 q3) k_ (q0f, q9, q0i) = some oL7 ∧ E 2 = .pointer (some ⟨b2, 0, none⟩) ∧ E 3 = .pointer (some ⟨b3, 0, none⟩) ∧ E 4 = .pointer (some ⟨b4, 0, none⟩) ∧ E 5 = .slice A18 q2.length q2.length ∧ E 6 = .int .i64 q3 ∧ E 7 = .int .u32 x26 ∧ E 8 = .int .u64 q9 ∧ E 20 = .slice q4 a0.fmag.length c_a0_1 ∧ E 21 = .int .i64 (a0.fmag.length : Int) ∧ E 22 = .int .i64 q3 ∧ E 28 = .slice q8 b1.fmag.length c_b1_1 ∧ E 29 = .int .i64 (b1.fmag.length : Int) ∧ E 30 = .int .i64 q0i ∧ RepL (RpI .u32) ρ q0f q7 ∧ St w0 w (cells b2 79 [.bool a0.fneg, .slice q4 a0.fmag.length c_a0_1] :: cells b3 79 [.bool b1.fneg, .slice q8 b1.fmag.length c_b1_1] :: cells b4 79 [.bool false, .slice none 0 0] :: vec 159 (RpI .u32).sz (.slice A18 q2.length q2.length) q2.length q7 :: ro ρ :: l)) fuel ⟨q5, q0a, 0, 0, hLL7, q15, q0u, q16, q17, rfl, rfl, rfl, q0v, q0w, q0h, rfl, rfl, rfl, q0m, (((((hS.pull 4).pull 4).pull 4).pull 4).pull 4)⟩ ?_
    rintro kL7 E w ⟨q7, q0f, q9, q0i, hLL7, q18, q19, q1a, q0n, q0o, q1b, q1c, q0x, q0y, q0z, q10, q11, q0j, q6, hS⟩
    replace hLL7 := lp_s hLL7; obtain ⟨kL7, obL7, rfl, hFL7, hLL7⟩ := hLL7
    refine x_seq <| x_region <| p (yl_lss q0j q11) <| x_done <|
     x_seq <|
     x_cond_p (q0i < (b1.fmag.length : Int)) rfl (fun hc31 => ?_) (fun hc31 => ?_)
    ·replace hFL7 := it_t hc31 hFL7
     replace hFL7 := ck_s hFL7; obtain ⟨q1i, hFL7⟩ := hFL7
     replace hFL7 := lv_s hFL7; obtain ⟨x34, hx34, hFL7⟩ := hFL7
     replace hFL7 := ar_s hFL7; obtain ⟨x39, hx39, hFL7⟩ := hFL7
     replace hFL7 := ck_s hFL7; obtain ⟨q1j, hFL7⟩ := hFL7
     replace hFL7 := lv_s hFL7; obtain ⟨x41, hx41, hFL7⟩ := hFL7
     replace hFL7 := lv_s hFL7; obtain ⟨x42, hx42, hFL7⟩ := hFL7
     replace hFL7 := lv_s hFL7; obtain ⟨x44, hx44, hFL7⟩ := hFL7
     replace hFL7 := lv_s hFL7; obtain ⟨x46, hx46, hFL7⟩ := hFL7
     replace hFL7 := lv_s hFL7; obtain ⟨x47, hx47, hFL7⟩ := hFL7
     replace hFL7 := lv_s hFL7; obtain ⟨x48, hx48, hFL7⟩ := hFL7
     replace hFL7 := lv_s hFL7; obtain ⟨x49, hx49, hFL7⟩ := hFL7
     replace hFL7 := ar_s hFL7; obtain ⟨x53, hx53, hFL7⟩ := hFL7
     replace hFL7 := lv_s hFL7; obtain ⟨x55, hx55, hFL7⟩ := hFL7
     replace hFL7 := ck_s hFL7; obtain ⟨q1d, hFL7⟩ := hFL7
     refine x_skip <| x_seq <| x_block <| x_seq <|
      x_region <| p (yl_move q0j) <| p (yix_f sl_77 q10 q0j q0t q1i) <| pa (at_load one_159 rfl (RdS.getW q0t (hS.pull 4) q1i hx34)) <|
      p (yl_assign rfl) <| p (yl_assign rfl) <| x_done <| x_seq <|
      x_region <| p (yl_move q1c) <| p (yl_move q0n) <| p (yl_move q0o) <|
      p (yl_move rfl) <| p (yadd rfl rfl hx39) <| p (yix_o sl_77 rfl rfl (hS.pull 3) q6 q1j) <| pa (at_load one_159 rfl (RepL.getW q6 (hS.pull 3) q1j hx41)) <|
      p (yconvu wm_u64 uk_159 ik_158 rfl hx42) <| p (yl_move q1b) <| p (yconvu wm_u64 uk_159 ik_158 rfl hx44) <| p (yl_move rfl) <|
      p (yconvu wm_u64 uk_159 ik_158 rfl hx46) <| p (ymulu wm_u64 rfl rfl hx47) <| p (yaddu wm_u64 rfl rfl hx48) <| p (yaddu wm_u64 rfl rfl hx49) <|
      p (yl_assign rfl) <| x_done <| x_seq <| x_region <|
      p (yl_move q0n) <| p (yl_move q0o) <| p (yl_move rfl) <| p (yadd rfl rfl hx53) <|
      p (yl_move rfl) <| p (yconvu wm_u32 uk_158 ik_159 rfl hx55) <| p (yix_o sl_77 rfl rfl (hS.pull 3) q6 q1d) <| ?_
     replace hFL7 := lv_s hFL7; obtain ⟨q23, q1o, hFL7⟩ := hFL7
     refine o_put' (news := [.int .u32 x55]) sz_159 rfl rfl rfl rfl (o := 0) rfl q1d rfl (hS.pull 3) q6 (Le.refl _) (fun c hc => ok_all hc (show (RpI .u32).ok ρ [.int .u32 x55] x55 from rfl)) q1o (fun q1p w' q1q hS => ?_)
     replace hFL7 := ck_s hFL7; obtain ⟨q1r, hFL7⟩ := hFL7
     replace hFL7 := lv_s hFL7; obtain ⟨x58, hx58, hFL7⟩ := hFL7
     replace hFL7 := ar_s hFL7; obtain ⟨x59, hx59, hFL7⟩ := hFL7
     refine x_done <| x_region <| p (yl_move rfl) <| p (yshr rfl rfl q1r hx58) <|
      p (yl_assign rfl) <| x_done <| x_blk <| x_region <|
      p (yadd q0j rfl hx59) <| p (yl_move rfl) <| x_done <| ?_
     have e_ := Option.some.inj (show some _ = some _ from hFL7); subst e_
     exact x_inv ⟨kL7, Nat.lt_succ_self _, q1p, q23, x58, x59, hLL7, q18, q19, q1a, q0n, q0o, q1b, rfl, q0x, q0y, q0z, q10, q11, rfl, q1q, (((((hS.pull 4).pull 1).pull 4).pull 4).pull 4)⟩
    ·replace hFL7 := it_f hc31 hFL7
     refine x_exitTo _ rfl <| ?_
     have e_ := Option.some.inj (show some _ = some _ from hFL7); subst e_
     exact x_inv ⟨q7, q0f, q9, hLL7, q18, q19, q1a, q0n, q0o, q1c, q0x, q0y, q0z, q6, (((((hS.pull 4).pull 4).pull 4).pull 4).pull 4)⟩
   rintro E w ⟨q0e, q0q, q0g, rfl, q24, q1k, q25, q1l, q26, q27, q1s, q1t, q1u, q0r, hS⟩
   replace hFL3 := ar_s hFL3; obtain ⟨x65, hx65, hFL3⟩ := hFL3
   replace hFL3 := lv_s hFL3; obtain ⟨x67, hx67, hFL3⟩ := hFL3
   replace hFL3 := ck_s hFL3; obtain ⟨q1e, hFL3⟩ := hFL3
   refine x_region <| p (yl_move q1l) <| p (yl_move q26) <| p (yl_field0 fld_79_1 q1k) <|
    pa (at_load one_77 rfl ((hS.pull 1).cell rfl)) <| p (yl_len_slice usl_77 rfl) <| p (yadd rfl rfl hx65) <| p (yl_move q27) <|
    p (yconvu wm_u32 uk_158 ik_159 rfl hx67) <| p (yix_o sl_77 rfl rfl (hS.pull 3) q0r q1e) <| ?_
   replace hFL3 := lv_s hFL3; obtain ⟨q28, q1v, hFL3⟩ := hFL3
   refine o_put' (news := [.int .u32 x67]) sz_159 rfl rfl rfl rfl (o := 0) rfl q1e rfl (hS.pull 3) q0r (Le.refl _) (fun c hc => ok_all hc (show (RpI .u32).ok ρ [.int .u32 x67] x67 from rfl)) q1v (fun q1w w' q1x hS => ?_)
   replace hFL3 := ar_s hFL3; obtain ⟨x69, hx69, hFL3⟩ := hFL3
   refine x_done <| x_blk <| x_region <| p (yadd q1u rfl hx69) <|
    p (yl_move rfl) <| x_done <| ?_
   have e_ := Option.some.inj (show some _ = some _ from hFL3); subst e_
   exact x_inv ⟨kL3, Nat.lt_succ_self _, q1w, q28, x69, hLL3, q24, q1k, q25, q1l, q1s, q1t, rfl, q1x, (((((hS.pull 4).pull 1).pull 4).pull 4).pull 4)⟩
  ·replace hFL3 := it_f hc23 hFL3
   refine x_exitTo _ rfl <| ?_
   have e_ := Option.some.inj (show some _ = some _ from hFL3); subst e_
   exact x_inv ⟨q5, q0a, hLL3, q15, q0u, q16, q17, q0m, (((((hS.pull 4).pull 4).pull 4).pull 4).pull 4)⟩
 rintro E w ⟨q0d, q0p, rfl, q29, q2a, q1m, q2b, q1f, hS⟩
 refine x_seq <| x_region <| p (yl_field0 fld_79_0 q29) <| pa (at_load one_4 rfl (hS.cell rfl)) <|
  p (yl_field0 fld_79_0 q2a) <| pa (at_load one_4 rfl ((hS.pull 1).cell rfl)) <| p (yneb ub_4 rfl rfl) <| p (yl_move q2b) <| ?_
 have q_ := St.vec_fz ((hS.pull 4).pull 4) q1f; obtain ⟨q1y, q1g, q1z, hS⟩ := q_
 replace hF := bd_s hF; obtain ⟨q12, q20, hF⟩ := hF
 have hcall := c_exact_made q20 q1z hS
 refine o_cc call_93 (args2 rfl rfl) hcall ?_
 rintro e w' ⟨q0b, q1n, c_y0_ret_1_15_6, rfl, q0c, hS⟩
 refine ⟨_, rfl, ?_⟩
 have e_ := q0c.n; subst e_
 refine o_storeAgg (news := [.bool q12.fneg, .slice q0b q12.fmag.length c_y0_ret_1_15_6]) agg_79 q1m rfl rfl (by simp [over_length]) (hS.pull 3) (fun w' hS => ?_)
 refine x_done <| ?_
 have e_ := Option.some.inj (show some _ = some _ from hF); subst e_
 exact x_return ⟨_, ⟨_, _, _, rfl, q1m, ldvA agg_79 rfl (fun j v hj => by rw [add0]; exact St.cell hS hj), rfl⟩, q1y, q0b, q12.fmag.length, c_y0_ret_1_15_6, rfl, q1g, q0c, (((hS.drop.pull 1).drop.pull 1).drop)⟩
attribute [irreducible] P_exact_times

def P_exact_Neg (a0 : T_exact_Int) : Option T_exact_Int :=
 bd (P_exact_made (!a0.fneg) a0.fmag) fun q2 =>
 some q2
set_option maxHeartbeats 4000000 in
set_option maxRecDepth 100000 in
theorem c_exact_Neg {w0 w : World} {l : List Assn} {ρ : Heap} {q6 : Option Addr} {q7 : Nat} {c_a0_1 : Nat} {a0 : T_exact_Int} {r : T_exact_Int} (hF : P_exact_Neg a0 = some r) (q8 : RdS (RpI .u32) ρ q6 q7 c_a0_1 a0.fmag) (hS : St w0 w (ro ρ :: l)) :
  Calls Try.prog 43 #[.agg #[.bool a0.fneg, .slice q6 q7 c_a0_1]] w fun e w' => ∃ (q4 : Option Addr) (q5 : Nat) (c_y0_ret_1 : Nat), e = .returned (.agg #[.bool r.fneg, .slice q4 q5 c_y0_ret_1]) ∧ RdS (RpI .u32) ρ q4 q5 c_y0_ret_1 r.fmag ∧ St w0 w' (ro ρ :: l) := by
 have e_ := q8.n; subst e_
 refine enterC Try.func43 rfl 9 rfl (by simp) ?_
 refine x_seq <| x_region <| ?_
 refine o_box (cs := [.bool a0.fneg, .slice q6 a0.fmag.length c_a0_1]) rfl rfl hS (fun b1 w' hS => ?_)
 refine o_alloc zero_79 hS (fun b2 w' hS => ?_)
 replace hF := bd_s hF; obtain ⟨q9, q0b, hF⟩ := hF
 refine x_done <| x_seq <| x_region <| p (yl_field0 fld_79_0 rfl) <|
  pa (at_load one_4 rfl ((hS.pull 1).cell rfl)) <| p (yl_not rfl) <| p (yl_field0 fld_79_1 rfl) <| pa (at_load one_77 rfl ((hS.pull 1).cell rfl)) <| ?_
 have hcall := c_exact_made q0b q8 (hS.pull 2)
 refine o_cc call_93 (args2 rfl rfl) hcall ?_
 rintro e w' ⟨q2, q0a, c_y0_ret_1_1_5, rfl, q3, hS⟩
 refine ⟨_, rfl, ?_⟩
 have e_ := q3.n; subst e_
 refine o_storeAgg (news := [.bool q9.fneg, .slice q2 q9.fmag.length c_y0_ret_1_1_5]) agg_79 rfl rfl rfl (by simp [over_length]) (hS.pull 1) (fun w' hS => ?_)
 refine x_done <| ?_
 have e_ := Option.some.inj (show some _ = some _ from hF); subst e_
 exact x_return ⟨_, ⟨_, _, _, rfl, rfl, ldvA agg_79 rfl (fun j v hj => by rw [add0]; exact St.cell hS hj), rfl⟩, q2, q9.fmag.length, c_y0_ret_1_1_5, rfl, q3, ((hS.drop.pull 1).drop)⟩
attribute [irreducible] P_exact_Neg

def P_exact_addMag_L6 (q6 : List Int) (q7 : List Int) : (List Int × Int × Int) → Option ((List Int × Int × Int) ⊕ (List Int × Int)) := fun (q3, q4, q2) =>
 if q2 < (q6.length : Int) then
  ck (inb q2 q6.length) <|
  lv (gt q6 q2) fun x26 =>
  lv (x26 % 18446744073709551616) fun x29 =>
  lv ((q4 + x29) % 18446744073709551616) fun x30 =>
  bd (
   if q2 < (q7.length : Int) then
    ck (inb q2 q7.length) <|
    lv (gt q7 q2) fun x39 =>
    lv (x39 % 18446744073709551616) fun x40 =>
    lv ((x30 + x40) % 18446744073709551616) fun x41 =>
    some x41
   else
    some x30) fun q5 =>
  lv (q5 % 4294967296) fun x45 =>
  ck (inb q2 q3.length) <|
  lv (stt q3 q2 x45) fun q8 =>
  ck (0 ≤ (32 : Int)) <|
  lv (shr .u64 q5 32) fun x48 =>
  ar (q2 + 1) fun x49 =>
  some (Sum.inl (q8, x48, x49))
 else
  some (Sum.inr (q3, q4))
def P_exact_addMag (a0 : List Int) (b1 : List Int) : Option (List Int) :=
 bd (
  if (a0.length : Int) < (b1.length : Int) then
   some (b1, a0)
  else
   some (a0, b1)) fun (q2, q5) =>
 ar ((q2.length : Int) + 1) fun x18 =>
 ck (mkOk 4 x18) <|
 lv ((List.replicate (x18 : Int).toNat 0 : List Int)) fun q7 =>
 bd (
  lp (P_exact_addMag_L6 q2 q5) fuel (q7, 0, 0)) fun (q3, q4) =>
 lv (q4 % 4294967296) fun x54 =>
 ck (inb (q2.length : Int) q3.length) <|
 lv (stt q3 (q2.length : Int) x54) fun q6 =>
 some q6
set_option maxHeartbeats 4000000 in
set_option maxRecDepth 100000 in
theorem c_exact_addMag {w0 w : World} {l : List Assn} {ρ : Heap} {q0v : Option Addr} {q1a : Nat} {c_a0 : Nat} {q0w : Option Addr} {q1b : Nat} {c_b1 : Nat} {a0 : List Int} {b1 : List Int} {r : List Int} (hF : P_exact_addMag a0 b1 = some r) (q13 : RdS (RpI .u32) ρ q0v q1a c_a0 a0) (q14 : RdS (RpI .u32) ρ q0w q1b c_b1 b1) (hS : St w0 w (ro ρ :: l)) :
  Calls Try.prog 126 #[.slice q0v q1a c_a0, .slice q0w q1b c_b1] w fun e w' => ∃ (q0r : Option Addr) (q0g : Nat) (c_y0_ret : Nat) (q0p : List Value), e = .returned (.slice q0r q0g c_y0_ret) ∧ RepL (RpI .u32) ρ r q0p ∧ St w0 w' (vec 159 (RpI .u32).sz (.slice q0r q0g c_y0_ret) q0g q0p :: ro ρ :: l) := by
 have e_ := q13.n; subst e_
 have e_ := q14.n; subst e_
 refine enterC Try.func126 rfl 57 rfl (by simp) ?_
 refine x_seq <| x_region <| p (yl_assign rfl) <| x_done <|
  x_seq <| x_seq <| x_region <| p (yl_move rfl) <|
  p (yl_len_slice usl_77 rfl) <| p (yl_move rfl) <| p (yl_len_slice usl_77 rfl) <| p (yl_lss rfl rfl) <|
  x_done <| ?_
 replace hF := bd_s hF; obtain ⟨oc13, hFc13, hF⟩ := hF
 refine x_join (fun E w => ∃ (q4 : Option Addr) (q0h : Nat) (c_a0_c13 : Nat) (q8 : Option Addr) (q0i : Nat) (c_b1_c13 : Nat) (q2 : List Int) (q9 : List Int), (q2, q9) = oc13 ∧ E 0 = .slice q4 q0h c_a0_c13 ∧ E 1 = .slice q8 q0i c_b1_c13 ∧ RdS (RpI .u32) ρ q4 q0h c_a0_c13 q2 ∧ RdS (RpI .u32) ρ q8 q0i c_b1_c13 q9 ∧ St w0 w (ro ρ :: l)) ?_ ?_
 ·refine x_cond_p ((a0.length : Int) < (b1.length : Int)) rfl (fun hc13 => ?_) (fun hc13 => ?_)
  ·replace hFc13 := it_t hc13 hFc13
   refine x_region <| p (yl_move rfl) <| p (yl_move rfl) <| p (yl_assign rfl) <|
    p (yl_assign rfl) <| x_done <| ?_
   exact x_inv ⟨q0w, b1.length, c_b1, q0v, a0.length, c_a0, b1, a0, (Option.some.inj (show some _ = some _ from hFc13)), rfl, rfl, q14, q13, hS⟩
  ·replace hFc13 := it_f hc13 hFc13
   refine x_skip <| ?_
   exact x_inv ⟨q0v, a0.length, c_a0, q0w, b1.length, c_b1, a0, b1, (Option.some.inj (show some _ = some _ from hFc13)), rfl, rfl, q13, q14, hS⟩
 rintro E w ⟨q4, q0h, c_a0_c13, q8, q0i, c_b1_c13, q2, q9, rfl, q0s, q1c, q0j, q0k, hS⟩
 have e_ := q0j.n; subst e_
 have e_ := q0k.n; subst e_
 replace hF := ar_s hF; obtain ⟨x18, hx18, hF⟩ := hF
 refine x_seq <| x_region <| p (yl_move q0s) <| p (yl_len_slice usl_77 rfl) <|
  p (yadd rfl rfl hx18) <| ?_
 replace hF := ck_s hF; obtain ⟨q1n, hF⟩ := hF
 replace hF := lv_s hF; obtain ⟨q3, q1o, hF⟩ := hF
 refine o_mk sl_77 zero_159 (show (RpI .u32).ok ρ _ 0 from rfl) rfl rfl q1n (by decide) q1o hS (fun A19 cs19 w' hr19 hS => ?_)
 refine p (yl_assign rfl) <| x_done <| x_seq <| x_region <|
  p (yl_assign rfl) <| x_done <| x_seq <| x_seq <|
  x_region <| p (yl_move q0s) <| p (yl_len_slice usl_77 rfl) <| p (yl_move rfl) <|
  x_done <| ?_
 replace hF := bd_s hF; obtain ⟨oL6, hLL6, hF⟩ := hF
 refine x_join (fun E w => ∃ (q0b : List Value) (q0m : List Int) (q0f : Int), (q0m, q0f) = oL6 ∧ E 0 = .slice q4 q2.length c_a0_c13 ∧ E 5 = .slice A19 q3.length q3.length ∧ E 6 = .int .u64 q0f ∧ RepL (RpI .u32) ρ q0m q0b ∧ St w0 w (vec 159 (RpI .u32).sz (.slice A19 q3.length q3.length) q3.length q0b :: ro ρ :: l)) ?_ ?_
 ·refine x_block ?_
  refine x_loop (fun k_ E w => ∃ (q5 : List Value) (q0c : List Int) (q7 : Int) (q6 : Int), lp (P_exact_addMag_L6 q2 q9) k_ (q0c, q7, q6) = some oL6 ∧ E 0 = .slice q4 q2.length c_a0_c13 ∧ E 1 = .slice q8 q9.length c_b1_c13 ∧ E 5 = .slice A19 q3.length q3.length ∧ E 6 = .int .u64 q7 ∧ E 20 = .slice q4 q2.length c_a0_c13 ∧ E 21 = .int .i64 (q2.length : Int) ∧ E 22 = .int .i64 q6 ∧ RepL (RpI .u32) ρ q0c q5 ∧ St w0 w (vec 159 (RpI .u32).sz (.slice A19 q3.length q3.length) q3.length q5 :: ro ρ :: l)) fuel ⟨cs19, q3, 0, 0, hLL6, q0s, q1c, rfl, rfl, rfl, rfl, rfl, hr19, ((hS.pull 1).pull 1)⟩ ?_
  rintro kL6 E w ⟨q5, q0c, q7, q6, hLL6, q0t, q0l, q0u, q0x, q0n, q0o, q0a, q0d, hS⟩
  replace hLL6 := lp_s hLL6; obtain ⟨kL6, obL6, rfl, hFL6, hLL6⟩ := hLL6
  refine x_seq <| x_region <| p (yl_lss q0a q0o) <| x_done <|
   x_seq <|
   x_cond_p (q6 < (q2.length : Int)) rfl (fun hc23 => ?_) (fun hc23 => ?_)
  ·replace hFL6 := it_t hc23 hFL6
   replace hFL6 := ck_s hFL6; obtain ⟨q15, hFL6⟩ := hFL6
   replace hFL6 := lv_s hFL6; obtain ⟨x26, hx26, hFL6⟩ := hFL6
   replace hFL6 := lv_s hFL6; obtain ⟨x29, hx29, hFL6⟩ := hFL6
   replace hFL6 := lv_s hFL6; obtain ⟨x30, hx30, hFL6⟩ := hFL6
   refine x_skip <| x_seq <| x_block <| x_seq <|
    x_region <| p (yl_move q0a) <| p (yix_f sl_77 q0n q0a q0j q15) <| pa (at_load one_159 rfl (RdS.getW q0j (hS.pull 1) q15 hx26)) <|
    p (yl_assign rfl) <| p (yl_assign rfl) <| x_done <| x_seq <|
    x_region <| p (yl_move q0x) <| p (yl_move rfl) <| p (yconvu wm_u64 uk_159 ik_158 rfl hx29) <|
    p (yaddu wm_u64 rfl rfl hx30) <| p (yl_assign rfl) <| x_done <| x_seq <|
    x_seq <| x_region <| p (yl_move rfl) <| p (yl_move q0l) <|
    p (yl_len_slice usl_77 rfl) <| p (yl_lss rfl rfl) <| x_done <| ?_
   replace hFL6 := bd_s hFL6; obtain ⟨oc34, hFc34, hFL6⟩ := hFL6
   refine x_join (fun E w => ∃ (q0e : Int), q0e = oc34 ∧ E 0 = .slice q4 q2.length c_a0_c13 ∧ E 1 = .slice q8 q9.length c_b1_c13 ∧ E 5 = .slice A19 q3.length q3.length ∧ E 6 = .int .u64 q0e ∧ E 7 = .int .i64 q6 ∧ E 20 = .slice q4 q2.length c_a0_c13 ∧ E 21 = .int .i64 (q2.length : Int) ∧ E 22 = .int .i64 q6 ∧ St w0 w (vec 159 (RpI .u32).sz (.slice A19 q3.length q3.length) q3.length q5 :: ro ρ :: l)) ?_ ?_
   ·refine x_cond_p (q6 < (q9.length : Int)) rfl (fun hc34 => ?_) (fun hc34 => ?_)
    ·replace hFc34 := it_t hc34 hFc34
     replace hFc34 := ck_s hFc34; obtain ⟨q0y, hFc34⟩ := hFc34
     replace hFc34 := lv_s hFc34; obtain ⟨x39, hx39, hFc34⟩ := hFc34
     replace hFc34 := lv_s hFc34; obtain ⟨x40, hx40, hFc34⟩ := hFc34
     replace hFc34 := lv_s hFc34; obtain ⟨x41, hx41, hFc34⟩ := hFc34
     refine x_region <| p (yl_move rfl) <| p (yl_move q0l) <| p (yl_move rfl) <|
      p (yix_f sl_77 rfl rfl q0k q0y) <| pa (at_load one_159 rfl (RdS.getW q0k (hS.pull 1) q0y hx39)) <| p (yconvu wm_u64 uk_159 ik_158 rfl hx40) <| p (yaddu wm_u64 rfl rfl hx41) <|
      p (yl_assign rfl) <| x_done <| ?_
     exact x_inv ⟨x41, (Option.some.inj (show some _ = some _ from hFc34)), q0t, q0l, q0u, rfl, rfl, q0n, q0o, q0a, ((hS.pull 1).pull 1)⟩
    ·replace hFc34 := it_f hc34 hFc34
     refine x_skip <| ?_
     exact x_inv ⟨x30, (Option.some.inj (show some _ = some _ from hFc34)), q0t, q0l, q0u, rfl, rfl, q0n, q0o, q0a, ((hS.pull 1).pull 1)⟩
   rintro E w ⟨q0e, rfl, q1d, q1e, q0z, q10, q1f, q17, q18, q19, hS⟩
   replace hFL6 := lv_s hFL6; obtain ⟨x45, hx45, hFL6⟩ := hFL6
   replace hFL6 := ck_s hFL6; obtain ⟨q11, hFL6⟩ := hFL6
   refine x_seq <| x_region <| p (yl_move q0z) <| p (yl_move q1f) <|
    p (yl_move q10) <| p (yconvu wm_u32 uk_158 ik_159 rfl hx45) <| p (yix_o sl_77 rfl rfl hS q0d q11) <| ?_
   replace hFL6 := lv_s hFL6; obtain ⟨q1p, q1g, hFL6⟩ := hFL6
   refine o_put' (news := [.int .u32 x45]) sz_159 rfl rfl rfl rfl (o := 0) rfl q11 rfl hS q0d (Le.refl _) (fun c hc => ok_all hc (show (RpI .u32).ok ρ [.int .u32 x45] x45 from rfl)) q1g (fun q1h w' q1i hS => ?_)
   replace hFL6 := ck_s hFL6; obtain ⟨q1j, hFL6⟩ := hFL6
   replace hFL6 := lv_s hFL6; obtain ⟨x48, hx48, hFL6⟩ := hFL6
   replace hFL6 := ar_s hFL6; obtain ⟨x49, hx49, hFL6⟩ := hFL6
   refine x_done <| x_region <| p (yl_move q10) <| p (yshr rfl rfl q1j hx48) <|
    p (yl_assign rfl) <| x_done <| x_blk <| x_region <|
    p (yadd q19 rfl hx49) <| p (yl_move rfl) <| x_done <| ?_
   have e_ := Option.some.inj (show some _ = some _ from hFL6); subst e_
   exact x_inv ⟨kL6, Nat.lt_succ_self _, q1h, q1p, x48, x49, hLL6, q1d, q1e, q0z, rfl, q17, q18, rfl, q1i, ((hS.pull 1).pull 1)⟩
  ·replace hFL6 := it_f hc23 hFL6
   refine x_exitTo _ rfl <| ?_
   have e_ := Option.some.inj (show some _ = some _ from hFL6); subst e_
   exact x_inv ⟨q5, q0c, q7, hLL6, q0t, q0u, q0x, q0d, ((hS.pull 1).pull 1)⟩
 rintro E w ⟨q0b, q0m, q0f, rfl, q1q, q16, q1r, q0q, hS⟩
 replace hF := lv_s hF; obtain ⟨x54, hx54, hF⟩ := hF
 replace hF := ck_s hF; obtain ⟨q12, hF⟩ := hF
 refine x_seq <| x_region <| p (yl_move q16) <| p (yl_move q1q) <|
  p (yl_len_slice usl_77 rfl) <| p (yl_move q1r) <| p (yconvu wm_u32 uk_158 ik_159 rfl hx54) <| p (yix_o sl_77 rfl rfl hS q0q q12) <| ?_
 replace hF := lv_s hF; obtain ⟨q1s, q1k, hF⟩ := hF
 refine o_put' (news := [.int .u32 x54]) sz_159 rfl rfl rfl rfl (o := 0) rfl q12 rfl hS q0q (Le.refl _) (fun c hc => ok_all hc (show (RpI .u32).ok ρ [.int .u32 x54] x54 from rfl)) q1k (fun q1l w' q1m hS => ?_)
 refine x_done <| x_seq <| x_region <| p (yl_move q16) <|
  p (yl_assign rfl) <| x_done <| ?_
 have e_ := Option.some.inj (show some _ = some _ from hF); subst e_
 exact x_return ⟨_, ⟨_, _, rfl, rfl, rfl⟩, A19, q3.length, q3.length, q1l, rfl, q1m, ((hS.pull 1).pull 1)⟩
attribute [irreducible] P_exact_addMag

def P_exact_sign (n0 : Int) : Option Int :=
 lv (min (1 : Int) n0) fun x4 =>
 lv (max (-1 : Int) x4) fun x5 =>
 some x5
set_option maxHeartbeats 4000000 in
set_option maxRecDepth 100000 in
theorem c_exact_sign {w0 w : World} {l : List Assn} {ρ : Heap} {n0 : Int} {r : Int} (hF : P_exact_sign n0 = some r) (hS : St w0 w (ro ρ :: l)) :
  Calls Try.prog 90 #[.int .i64 n0] w fun e w' => e = .returned (.int .i64 r) ∧ St w0 w' (ro ρ :: l) := by
 refine enterC Try.func90 rfl 6 rfl (by simp) ?_
 replace hF := lv_s hF; obtain ⟨x4, hx4, hF⟩ := hF
 replace hF := lv_s hF; obtain ⟨x5, hx5, hF⟩ := hF
 refine x_seq <| x_region <| p (yl_assign rfl) <| x_done <|
  x_seq <| x_region <| p (yl_move rfl) <| p (ymin' rfl rfl hx4) <|
  p (ymax' rfl rfl hx5) <| p (yl_assign rfl) <| x_done <| ?_
 have e_ := Option.some.inj (show some _ = some _ from hF); subst e_
 exact x_return ⟨_, ⟨_, _, rfl, rfl, rfl⟩, rfl, hS⟩
attribute [irreducible] P_exact_sign

def P_exact_cmpMag_L4 (a0 : List Int) (b1 : List Int) : Int → Option (Int ⊕ (Unit ⊕ Int)) := fun q2 =>
 if 0 ≤ q2 then
  ck (inb q2 a0.length) <|
  lv (gt a0 q2) fun x27 =>
  ck (inb q2 b1.length) <|
  lv (gt b1 q2) fun x31 =>
  if x27 ≠ x31 then
   ck (inb q2 a0.length) <|
   lv (gt a0 q2) fun x36 =>
   ar (x36) fun x37 =>
   ck (inb q2 b1.length) <|
   lv (gt b1 q2) fun x41 =>
   ar (x41) fun x42 =>
   ar (x37 - x42) fun x43 =>
   bd (P_exact_sign x43) fun q3 =>
   some (Sum.inr (Sum.inr q3))
  else
   ar (q2 - 1) fun x23 =>
   some (Sum.inl x23)
 else
  some (Sum.inr (Sum.inl ()))
def P_exact_cmpMag (a0 : List Int) (b1 : List Int) : Option Int :=
 if (a0.length : Int) ≠ (b1.length : Int) then
  ar ((a0.length : Int) - (b1.length : Int)) fun x15 =>
  bd (P_exact_sign x15) fun q2 =>
  some q2
 else
  ar ((a0.length : Int) - 1) fun x19 =>
  bs (
   lp (P_exact_cmpMag_L4 a0 b1) fuel x19) (fun y => some y) fun _ =>
  some (0 : Int)
set_option maxHeartbeats 4000000 in
set_option maxRecDepth 100000 in
theorem c_exact_cmpMag {w0 w : World} {l : List Assn} {ρ : Heap} {q8 : Option Addr} {q0f : Nat} {c_a0 : Nat} {q9 : Option Addr} {q0g : Nat} {c_b1 : Nat} {a0 : List Int} {b1 : List Int} {r : Int} (hF : P_exact_cmpMag a0 b1 = some r) (q4 : RdS (RpI .u32) ρ q8 q0f c_a0 a0) (q5 : RdS (RpI .u32) ρ q9 q0g c_b1 b1) (hS : St w0 w (ro ρ :: l)) :
  Calls Try.prog 91 #[.slice q8 q0f c_a0, .slice q9 q0g c_b1] w fun e w' => e = .returned (.int .i64 r) ∧ St w0 w' (ro ρ :: l) := by
 have e_ := q4.n; subst e_
 have e_ := q5.n; subst e_
 refine enterC Try.func91 rfl 45 rfl (by simp) ?_
 refine x_seq <| x_region <| p (yl_assign rfl) <| x_done <|
  x_seq <| x_seq <| x_region <| p (yl_move rfl) <|
  p (yl_len_slice usl_77 rfl) <| p (yl_move rfl) <| p (yl_len_slice usl_77 rfl) <| p (yl_neq rfl rfl) <|
  x_done <|
  x_cond_p ((a0.length : Int) ≠ (b1.length : Int)) rfl (fun hc10 => ?_) (fun hc10 => ?_)
 ·replace hF := it_t hc10 hF
  replace hF := ar_s hF; obtain ⟨x15, hx15, hF⟩ := hF
  replace hF := bd_s hF; obtain ⟨q0j, q0i, hF⟩ := hF
  refine x_seq <| x_region <| p (yl_move rfl) <| p (yl_len_slice usl_77 rfl) <|
   p (yl_move rfl) <| p (yl_len_slice usl_77 rfl) <| p (ysub rfl rfl hx15) <| ?_
  have hcall := c_exact_sign q0i  hS
  refine o_cc call_90 (args1 rfl) (hcall) ?_
  rintro e w' ⟨rfl, hS⟩
  refine ⟨_, rfl, ?_⟩
  refine p (v := .int .i64 q0j) (yl_assign rfl) <| x_done <| ?_
  have e_ := Option.some.inj (show some _ = some _ from hF); subst e_
  exact x_return ⟨_, ⟨_, _, rfl, rfl, rfl⟩, rfl, hS⟩
 ·replace hF := it_f hc10 hF
  replace hF := ar_s hF; obtain ⟨x19, hx19, hF⟩ := hF
  refine x_skip <| x_seq <| x_seq <| x_region <|
   p (yl_move rfl) <| p (yl_len_slice usl_77 rfl) <| p (ysub rfl rfl hx19) <| p (yl_assign rfl) <|
   x_done <| ?_
  replace hF := bs_s hF; obtain ⟨oL4, hLL4, hF⟩ := hF
  refine x_join (fun E w => (Sum.inl (())) = oL4 ∧ St w0 w (ro ρ :: l)) ?_ ?_
  ·refine x_block ?_
   refine x_loop (fun k_ E w => ∃ (q3 : Int), lp (P_exact_cmpMag_L4 a0 b1) k_ q3 = some oL4 ∧ E 0 = .slice q8 a0.length c_a0 ∧ E 1 = .slice q9 b1.length c_b1 ∧ E 5 = .int .i64 q3 ∧ St w0 w (ro ρ :: l)) fuel ⟨x19, hLL4, rfl, rfl, rfl, hS⟩ ?_
   rintro kL4 E w ⟨q3, hLL4, q6, q7, q2, hS⟩
   replace hLL4 := lp_s hLL4; obtain ⟨kL4, obL4, rfl, hFL4, hLL4⟩ := hLL4
   refine x_seq <| x_seq <| x_region <| p (yl_move q2) <|
    p (yl_geq rfl rfl) <| x_done <|
    x_cond_p (0 ≤ q3) rfl (fun hc21 => ?_) (fun hc21 => ?_)
   ·replace hFL4 := it_t hc21 hFL4
    replace hFL4 := ck_s hFL4; obtain ⟨q0a, hFL4⟩ := hFL4
    replace hFL4 := lv_s hFL4; obtain ⟨x27, hx27, hFL4⟩ := hFL4
    replace hFL4 := ck_s hFL4; obtain ⟨q0b, hFL4⟩ := hFL4
    replace hFL4 := lv_s hFL4; obtain ⟨x31, hx31, hFL4⟩ := hFL4
    refine x_skip <| x_seq <| x_block <| x_seq <|
     x_still mixed (by kernel_rfl) hS <| q (yl_move q6) <| q (yl_move q2) <| q (yix_f sl_77 rfl rfl q4 q0a) <|
     qa (fun w' hS => at_load one_159 rfl (RdS.getW q4 hS q0a hx27)) <| q (yl_move q7) <| q (yl_move q2) <| q (yix_f sl_77 rfl rfl q5 q0b) <|
     qa (fun w' hS => at_load one_159 rfl (RdS.getW q5 hS q0b hx31)) <| q (yl_neq rfl rfl) <|
     q_done fun w' hS => ?_
    refine x_cond_p (x27 ≠ x31) rfl (fun hc32 => ?_) (fun hc32 => ?_)
    ·replace hFL4 := it_t hc32 hFL4
     replace hFL4 := ck_s hFL4; obtain ⟨q0c, hFL4⟩ := hFL4
     replace hFL4 := lv_s hFL4; obtain ⟨x36, hx36, hFL4⟩ := hFL4
     replace hFL4 := ar_s hFL4; obtain ⟨x37, hx37, hFL4⟩ := hFL4
     replace hFL4 := ck_s hFL4; obtain ⟨q0d, hFL4⟩ := hFL4
     replace hFL4 := lv_s hFL4; obtain ⟨x41, hx41, hFL4⟩ := hFL4
     replace hFL4 := ar_s hFL4; obtain ⟨x42, hx42, hFL4⟩ := hFL4
     replace hFL4 := ar_s hFL4; obtain ⟨x43, hx43, hFL4⟩ := hFL4
     replace hFL4 := bd_s hFL4; obtain ⟨q0e, q0h, hFL4⟩ := hFL4
     refine x_seq <| x_still mixed (by kernel_rfl) hS <| q (yl_move q6) <| q (yl_move q2) <|
      q (yix_f sl_77 rfl rfl q4 q0c) <| qa (fun w' hS => at_load one_159 rfl (RdS.getW q4 hS q0c hx36)) <| q (yconvi uk_159 ik_3 rfl hx37) <| q (yl_move q7) <|
      q (yl_move q2) <| q (yix_f sl_77 rfl rfl q5 q0d) <| qa (fun w' hS => at_load one_159 rfl (RdS.getW q5 hS q0d hx41)) <| q (yconvi uk_159 ik_3 rfl hx42) <|
      q (ysub rfl rfl hx43) <| qcc (v := .int .i64 q0e) call_90 (args1 rfl) (fun w' hS => by
       have hcall := c_exact_sign q0h  hS
       exact hcall) <| q (v := .int .i64 q0e) (yl_assign rfl) <|
      q_done fun w' hS => ?_
     have e_ := Option.some.inj (show some _ = some _ from hFL4); subst e_
     have e_ := (show _ = oL4 from hLL4); subst e_
     have e_ := Option.some.inj (show some _ = some _ from hF); subst e_
     exact x_return ⟨_, ⟨_, _, rfl, rfl, rfl⟩, rfl, hS⟩
    ·replace hFL4 := it_f hc32 hFL4
     replace hFL4 := ar_s hFL4; obtain ⟨x23, hx23, hFL4⟩ := hFL4
     refine x_skip <| x_blk <| x_region <| p (yl_move q2) <|
      p (ysub rfl rfl hx23) <| p (yl_assign rfl) <| x_done <| ?_
     have e_ := Option.some.inj (show some _ = some _ from hFL4); subst e_
     exact x_inv ⟨kL4, Nat.lt_succ_self _, x23, hLL4, q6, q7, rfl, hS⟩
   ·replace hFL4 := it_f hc21 hFL4
    refine x_exitTo _ rfl <| ?_
    have e_ := Option.some.inj (show some _ = some _ from hFL4); subst e_
    exact x_inv ⟨hLL4, hS⟩
  rintro E w ⟨rfl, hS⟩
  refine x_seq <| x_region <| p (yl_assign rfl) <| x_done <| ?_
  have e_ := Option.some.inj (show some _ = some _ from hF); subst e_
  exact x_return ⟨_, ⟨_, _, rfl, rfl, rfl⟩, rfl, hS⟩
attribute [irreducible] P_exact_cmpMag

def P_exact_subMag_L4 (a0 : List Int) (b1 : List Int) : (List Int × Int × Int) → Option ((List Int × Int × Int) ⊕ List Int) := fun (q3, q4, q2) =>
 if q2 < (a0.length : Int) then
  ck (inb q2 a0.length) <|
  lv (gt a0 q2) fun x19 =>
  ar (x19) fun x21 =>
  ar (x21 + q4) fun x23 =>
  bd (
   if q2 < (b1.length : Int) then
    ck (inb q2 b1.length) <|
    lv (gt b1 q2) fun x32 =>
    ar (x32) fun x33 =>
    ar (x23 - x33) fun x34 =>
    some x34
   else
    some x23) fun q5 =>
  lv (q5 % 4294967296) fun x38 =>
  ck (inb q2 q3.length) <|
  lv (stt q3 q2 x38) fun q6 =>
  ck (0 ≤ (32 : Int)) <|
  lv (shr .i64 q5 32) fun x41 =>
  ar (q2 + 1) fun x42 =>
  some (Sum.inl (q6, x41, x42))
 else
  some (Sum.inr q3)
def P_exact_subMag (a0 : List Int) (b1 : List Int) : Option (List Int) :=
 ck (mkOk 4 (a0.length : Int)) <|
 lv ((List.replicate ((a0.length : Int) : Int).toNat 0 : List Int)) fun q3 =>
 bd (
  lp (P_exact_subMag_L4 a0 b1) fuel (q3, 0, 0)) fun q2 =>
 some q2
set_option maxHeartbeats 4000000 in
set_option maxRecDepth 100000 in
theorem c_exact_subMag {w0 w : World} {l : List Assn} {ρ : Heap} {q0j : Option Addr} {q0w : Nat} {c_a0 : Nat} {q0k : Option Addr} {q0x : Nat} {c_b1 : Nat} {a0 : List Int} {b1 : List Int} {r : List Int} (hF : P_exact_subMag a0 b1 = some r) (q0o : RdS (RpI .u32) ρ q0j q0w c_a0 a0) (q0p : RdS (RpI .u32) ρ q0k q0x c_b1 b1) (hS : St w0 w (ro ρ :: l)) :
  Calls Try.prog 127 #[.slice q0j q0w c_a0, .slice q0k q0x c_b1] w fun e w' => ∃ (q0g : Option Addr) (q0a : Nat) (c_y0_ret : Nat) (q0f : List Value), e = .returned (.slice q0g q0a c_y0_ret) ∧ RepL (RpI .u32) ρ r q0f ∧ St w0 w' (vec 159 (RpI .u32).sz (.slice q0g q0a c_y0_ret) q0a q0f :: ro ρ :: l) := by
 have e_ := q0o.n; subst e_
 have e_ := q0p.n; subst e_
 refine enterC Try.func127 rfl 44 rfl (by simp) ?_
 refine x_seq <| x_region <| p (yl_assign rfl) <| x_done <|
  x_seq <| x_region <| p (yl_move rfl) <| p (yl_len_slice usl_77 rfl) <| ?_
 replace hF := ck_s hF; obtain ⟨q12, hF⟩ := hF
 replace hF := lv_s hF; obtain ⟨q2, q13, hF⟩ := hF
 refine o_mk sl_77 zero_159 (show (RpI .u32).ok ρ _ 0 from rfl) rfl rfl q12 (by decide) q13 hS (fun A12 cs12 w' hr12 hS => ?_)
 refine p (yl_assign rfl) <| x_done <| x_seq <| x_region <|
  p (yl_assign rfl) <| x_done <| x_seq <| x_seq <|
  x_region <| p (yl_move rfl) <| p (yl_len_slice usl_77 rfl) <| p (yl_move rfl) <|
  x_done <| ?_
 replace hF := bd_s hF; obtain ⟨oL4, hLL4, hF⟩ := hF
 refine x_join (fun E w => ∃ (q5 : List Value) (q0c : List Int), q0c = oL4 ∧ E 5 = .slice A12 q2.length q2.length ∧ RepL (RpI .u32) ρ q0c q5 ∧ St w0 w (vec 159 (RpI .u32).sz (.slice A12 q2.length q2.length) q2.length q5 :: ro ρ :: l)) ?_ ?_
 ·refine x_block ?_
  refine x_loop (fun k_ E w => ∃ (q3 : List Value) (q8 : List Int) (q6 : Int) (q4 : Int), lp (P_exact_subMag_L4 a0 b1) k_ (q8, q6, q4) = some oL4 ∧ E 1 = .slice q0k b1.length c_b1 ∧ E 5 = .slice A12 q2.length q2.length ∧ E 6 = .int .i64 q6 ∧ E 13 = .slice q0j a0.length c_a0 ∧ E 14 = .int .i64 (a0.length : Int) ∧ E 15 = .int .i64 q4 ∧ RepL (RpI .u32) ρ q8 q3 ∧ St w0 w (vec 159 (RpI .u32).sz (.slice A12 q2.length q2.length) q2.length q3 :: ro ρ :: l)) fuel ⟨cs12, q2, 0, 0, hLL4, rfl, rfl, rfl, rfl, rfl, rfl, hr12, ((hS.pull 1).pull 1)⟩ ?_
  rintro kL4 E w ⟨q3, q8, q6, q4, hLL4, q0b, q0h, q0y, q0d, q0e, q7, q9, hS⟩
  replace hLL4 := lp_s hLL4; obtain ⟨kL4, obL4, rfl, hFL4, hLL4⟩ := hLL4
  refine x_seq <| x_region <| p (yl_lss q7 q0e) <| x_done <|
   x_seq <|
   x_cond_p (q4 < (a0.length : Int)) rfl (fun hc16 => ?_) (fun hc16 => ?_)
  ·replace hFL4 := it_t hc16 hFL4
   replace hFL4 := ck_s hFL4; obtain ⟨q0q, hFL4⟩ := hFL4
   replace hFL4 := lv_s hFL4; obtain ⟨x19, hx19, hFL4⟩ := hFL4
   replace hFL4 := ar_s hFL4; obtain ⟨x21, hx21, hFL4⟩ := hFL4
   replace hFL4 := ar_s hFL4; obtain ⟨x23, hx23, hFL4⟩ := hFL4
   refine x_skip <| x_seq <| x_block <| x_seq <|
    x_region <| p (yl_move q7) <| p (yix_f sl_77 q0d q7 q0o q0q) <| pa (at_load one_159 rfl (RdS.getW q0o (hS.pull 1) q0q hx19)) <|
    p (yl_assign rfl) <| p (yl_assign rfl) <| x_done <| x_seq <|
    x_region <| p (yl_move rfl) <| p (yconvi uk_159 ik_2 rfl hx21) <| p (yl_move q0y) <|
    p (yadd rfl rfl hx23) <| p (yl_assign rfl) <| x_done <| x_seq <|
    x_seq <| x_region <| p (yl_move rfl) <| p (yl_move q0b) <|
    p (yl_len_slice usl_77 rfl) <| p (yl_lss rfl rfl) <| x_done <| ?_
   replace hFL4 := bd_s hFL4; obtain ⟨oc27, hFc27, hFL4⟩ := hFL4
   refine x_join (fun E w => ∃ (q0i : Int), q0i = oc27 ∧ E 1 = .slice q0k b1.length c_b1 ∧ E 5 = .slice A12 q2.length q2.length ∧ E 7 = .int .i64 q4 ∧ E 9 = .int .i64 q0i ∧ E 13 = .slice q0j a0.length c_a0 ∧ E 14 = .int .i64 (a0.length : Int) ∧ E 15 = .int .i64 q4 ∧ St w0 w (vec 159 (RpI .u32).sz (.slice A12 q2.length q2.length) q2.length q3 :: ro ρ :: l)) ?_ ?_
   ·refine x_cond_p (q4 < (b1.length : Int)) rfl (fun hc27 => ?_) (fun hc27 => ?_)
    ·replace hFc27 := it_t hc27 hFc27
     replace hFc27 := ck_s hFc27; obtain ⟨q0r, hFc27⟩ := hFc27
     replace hFc27 := lv_s hFc27; obtain ⟨x32, hx32, hFc27⟩ := hFc27
     replace hFc27 := ar_s hFc27; obtain ⟨x33, hx33, hFc27⟩ := hFc27
     replace hFc27 := ar_s hFc27; obtain ⟨x34, hx34, hFc27⟩ := hFc27
     refine x_region <| p (yl_move rfl) <| p (yl_move q0b) <| p (yl_move rfl) <|
      p (yix_f sl_77 rfl rfl q0p q0r) <| pa (at_load one_159 rfl (RdS.getW q0p (hS.pull 1) q0r hx32)) <| p (yconvi uk_159 ik_2 rfl hx33) <| p (ysub rfl rfl hx34) <|
      p (yl_assign rfl) <| x_done <| ?_
     exact x_inv ⟨x34, (Option.some.inj (show some _ = some _ from hFc27)), q0b, q0h, rfl, rfl, q0d, q0e, q7, ((hS.pull 1).pull 1)⟩
    ·replace hFc27 := it_f hc27 hFc27
     refine x_skip <| ?_
     exact x_inv ⟨x23, (Option.some.inj (show some _ = some _ from hFc27)), q0b, q0h, rfl, rfl, q0d, q0e, q7, ((hS.pull 1).pull 1)⟩
   rintro E w ⟨q0i, rfl, q0z, q0l, q10, q0m, q0t, q0u, q0v, hS⟩
   replace hFL4 := lv_s hFL4; obtain ⟨x38, hx38, hFL4⟩ := hFL4
   replace hFL4 := ck_s hFL4; obtain ⟨q0s, hFL4⟩ := hFL4
   refine x_seq <| x_region <| p (yl_move q0l) <| p (yl_move q10) <|
    p (yl_move q0m) <| p (yconvu wm_u32 uk_2 ik_159 rfl hx38) <| p (yix_o sl_77 rfl rfl hS q9 q0s) <| ?_
   replace hFL4 := lv_s hFL4; obtain ⟨q18, q14, hFL4⟩ := hFL4
   refine o_put' (news := [.int .u32 x38]) sz_159 rfl rfl rfl rfl (o := 0) rfl q0s rfl hS q9 (Le.refl _) (fun c hc => ok_all hc (show (RpI .u32).ok ρ [.int .u32 x38] x38 from rfl)) q14 (fun q15 w' q16 hS => ?_)
   replace hFL4 := ck_s hFL4; obtain ⟨q11, hFL4⟩ := hFL4
   replace hFL4 := lv_s hFL4; obtain ⟨x41, hx41, hFL4⟩ := hFL4
   replace hFL4 := ar_s hFL4; obtain ⟨x42, hx42, hFL4⟩ := hFL4
   refine x_done <| x_region <| p (yl_move q0m) <| p (yshr rfl rfl q11 hx41) <|
    p (yl_assign rfl) <| x_done <| x_blk <| x_region <|
    p (yadd q0v rfl hx42) <| p (yl_move rfl) <| x_done <| ?_
   have e_ := Option.some.inj (show some _ = some _ from hFL4); subst e_
   exact x_inv ⟨kL4, Nat.lt_succ_self _, q15, q18, x41, x42, hLL4, q0z, q0l, rfl, q0t, q0u, rfl, q16, ((hS.pull 1).pull 1)⟩
  ·replace hFL4 := it_f hc16 hFL4
   refine x_exitTo _ rfl <| ?_
   have e_ := Option.some.inj (show some _ = some _ from hFL4); subst e_
   exact x_inv ⟨q3, q8, hLL4, q0h, q9, ((hS.pull 1).pull 1)⟩
 rintro E w ⟨q5, q0c, rfl, q17, q0n, hS⟩
 refine x_seq <| x_region <| p (yl_move q17) <| p (yl_assign rfl) <|
  x_done <| ?_
 have e_ := Option.some.inj (show some _ = some _ from hF); subst e_
 exact x_return ⟨_, ⟨_, _, rfl, rfl, rfl⟩, A12, q2.length, q2.length, q5, rfl, q0n, ((hS.pull 1).pull 1)⟩
attribute [irreducible] P_exact_subMag

def P_exact_plus (a0 : T_exact_Int) (b1 : T_exact_Int) : Option T_exact_Int :=
 if (a0.fneg == b1.fneg) = true then
  bd (P_exact_addMag a0.fmag b1.fmag) fun q2 =>
  bd (P_exact_made a0.fneg q2) fun q3 =>
  some q3
 else
  bd (P_exact_cmpMag a0.fmag b1.fmag) fun q4 =>
  if 0 ≤ q4 then
   bd (P_exact_subMag a0.fmag b1.fmag) fun q5 =>
   bd (P_exact_made a0.fneg q5) fun q6 =>
   some q6
  else
   bd (P_exact_subMag b1.fmag a0.fmag) fun q7 =>
   bd (P_exact_made b1.fneg q7) fun q8 =>
   some q8
set_option maxHeartbeats 4000000 in
set_option maxRecDepth 100000 in
theorem c_exact_plus {w0 w : World} {l : List Assn} {ρ : Heap} {q5 : Option Addr} {q1q : Nat} {c_a0_1 : Nat} {q6 : Option Addr} {q1r : Nat} {c_b1_1 : Nat} {a0 : T_exact_Int} {b1 : T_exact_Int} {r : T_exact_Int} (hF : P_exact_plus a0 b1 = some r) (q0m : RdS (RpI .u32) ρ q5 q1q c_a0_1 a0.fmag) (q0n : RdS (RpI .u32) ρ q6 q1r c_b1_1 b1.fmag) (hS : St w0 w (ro ρ :: l)) :
  Calls Try.prog 96 #[.agg #[.bool a0.fneg, .slice q5 q1q c_a0_1], .agg #[.bool b1.fneg, .slice q6 q1r c_b1_1]] w fun e w' => ∃ (ρ' : Heap) (q0o : Option Addr) (q0p : Nat) (c_y0_ret_1 : Nat), e = .returned (.agg #[.bool r.fneg, .slice q0o q0p c_y0_ret_1]) ∧ Le ρ ρ' ∧ RdS (RpI .u32) ρ' q0o q0p c_y0_ret_1 r.fmag ∧ St w0 w' (ro ρ' :: l) := by
 have e_ := q0m.n; subst e_
 have e_ := q0n.n; subst e_
 refine enterC Try.func96 rfl 42 rfl (by simp) ?_
 refine x_seq <| x_region <| ?_
 refine o_box (cs := [.bool a0.fneg, .slice q5 a0.fmag.length c_a0_1]) rfl rfl hS (fun b2 w' hS => ?_)
 refine o_box (cs := [.bool b1.fneg, .slice q6 b1.fmag.length c_b1_1]) rfl rfl hS (fun b3 w' hS => ?_)
 refine o_alloc zero_79 hS (fun b4 w' hS => ?_)
 refine x_done <| x_seq <| x_block <| x_seq <|
  x_region <| p (yl_field0 fld_79_0 rfl) <| pa (at_load one_4 rfl ((hS.pull 2).cell rfl)) <| p (yl_field0 fld_79_0 rfl) <|
  pa (at_load one_4 rfl ((hS.pull 1).cell rfl)) <| p (yeqb ub_4 rfl rfl) <| p (yl_assign rfl) <| x_done <|
  x_cond (t := (a0.fneg == b1.fneg)) rfl (fun hc5 => ?_) (fun hc5 => ?_)
 ·replace hF := it_t hc5 hF
  refine x_seq <| ?_
  replace hF := bd_s hF; obtain ⟨q0d, q2a, hF⟩ := hF
  replace hF := bd_s hF; obtain ⟨q0a, q2b, hF⟩ := hF
  refine x_par (w0 := w0) [⟨[], [], [11], [], [], []⟩, ⟨[0], [0], [12], [0], [], []⟩, ⟨[], [], [13], [], [], []⟩, ⟨[2], [2], [14], [0], [], []⟩, ⟨[], [], [15], [], [], []⟩, ⟨[4], [4], [16], [1], [], []⟩, ⟨[2, 3, 4, 5], [3, 5], [17], [2], [], [3]⟩, ⟨[0, 1, 2, 3, 4, 5, 6], [1, 6], [18], [2], [3], [4]⟩, ⟨[0, 1, 2, 3, 4, 5, 6, 7], [7], [], [], [5], [6]⟩] [⟨none, none, []⟩, ⟨none, none, []⟩, ⟨none, none, []⟩, ⟨(some 6), (some 7), [17]⟩, ⟨(some 7), none, [17, 18]⟩, ⟨none, (some 8), []⟩, ⟨(some 8), none, [18]⟩] [11, 12, 13, 14, 15, 16, 17, 18] [0, 1, 2, 5] [0, 1, 2, 4, 6] [0, 1, 2, 3, 4, 5, 6, 7] [fun Ep2 => Ep2 11 = .pointer (some ⟨b2, 0, none⟩), fun Ep2 => Ep2 12 = .bool a0.fneg, fun Ep2 => Ep2 13 = .pointer (some ⟨b2, 1, none⟩), fun Ep2 => Ep2 14 = .slice q5 a0.fmag.length c_a0_1, fun Ep2 => Ep2 15 = .pointer (some ⟨b3, 1, none⟩), fun Ep2 => Ep2 16 = .slice q6 b1.fmag.length c_b1_1, fun Ep2 => Ep2 17 = .slice (adOf (Ep2 17)) q0d.length (capOf (Ep2 17)), fun Ep2 => Ep2 18 = .agg #[.bool q0a.fneg, .slice (adOf (partOf 1 (Ep2 18))) q0a.fmag.length (capOf (partOf 1 (Ep2 18)))], fun Ep2 => True] [fun Ep2 => cells b2 79 [.bool a0.fneg, .slice q5 a0.fmag.length c_a0_1], fun Ep2 => cells b3 79 [.bool b1.fneg, .slice q6 b1.fmag.length c_b1_1], fun Ep2 => ro ρ, fun Ep2 => bunA (fun (q2 : List Value) => RepL (RpI .u32) ρ q0d q2) (fun (q2 : List Value) => [vec 159 (RpI .u32).sz (.slice (adOf (Ep2 17)) q0d.length (capOf (Ep2 17))) q0d.length q2]), fun Ep2 => bunA (fun (q7 : Heap) => Le ρ q7 ∧ RdS (RpI .u32) q7 (adOf (Ep2 17)) q0d.length (capOf (Ep2 17)) q0d ∧ RdS (RpI .u32) q7 (adOf (partOf 1 (Ep2 18))) q0a.fmag.length (capOf (partOf 1 (Ep2 18))) q0a.fmag) (fun (q7 : Heap) => [roD ρ q7]), fun Ep2 => cells b4 79 [.bool false, .slice none 0 0], fun Ep2 => cells b4 79 [.bool q0a.fneg, .slice (adOf (partOf 1 (Ep2 18))) q0a.fmag.length (capOf (partOf 1 (Ep2 18)))]] mixed (by kernel_rfl) (((hS.pull 3).pull 2).pull 3) ?_ ?_
  ·refine ⟨?_, ?_, ?_, ?_, ?_, ?_, ?_, ?_, ?_, trivial⟩
   ·intro Ep2 w l' hE2 hO2 hF_ hS
    refine p (yl_field0 fld_79_0 (hE2 2 rfl)) <| x_done <| ?_
    refine x_fin ⟨⟨_, rfl⟩, rfl, ?_⟩
    exact Eq.mp (by kernel_rfl) hS
   ·intro Ep2 w l' hE2 hO2 hF_ hS
    obtain ⟨q0q, -⟩ := hF_
    replace q0q : Ep2 11 = .pointer (some ⟨b2, 0, none⟩) := Eq.mp (by kernel_rfl) q0q
    replace hS : St w0 w (cells b2 79 [.bool a0.fneg, .slice q5 a0.fmag.length c_a0_1] :: l') := Eq.mp (by kernel_rfl) hS
    refine pa (at_load one_4 q0q (hS.cell rfl)) <| x_done <| ?_
    refine x_fin ⟨⟨_, rfl⟩, rfl, ?_⟩
    exact Eq.mp (by kernel_rfl) hS
   ·intro Ep2 w l' hE2 hO2 hF_ hS
    refine p (yl_field0 fld_79_1 (hE2 2 rfl)) <| x_done <| ?_
    refine x_fin ⟨⟨_, rfl⟩, rfl, ?_⟩
    exact Eq.mp (by kernel_rfl) hS
   ·intro Ep2 w l' hE2 hO2 hF_ hS
    obtain ⟨q0r, -⟩ := hF_
    replace q0r : Ep2 13 = .pointer (some ⟨b2, 1, none⟩) := Eq.mp (by kernel_rfl) q0r
    replace hS : St w0 w (cells b2 79 [.bool a0.fneg, .slice q5 a0.fmag.length c_a0_1] :: l') := Eq.mp (by kernel_rfl) hS
    refine pa (at_load one_77 q0r (hS.cell rfl)) <| x_done <| ?_
    refine x_fin ⟨⟨_, rfl⟩, rfl, ?_⟩
    exact Eq.mp (by kernel_rfl) hS
   ·intro Ep2 w l' hE2 hO2 hF_ hS
    refine p (yl_field0 fld_79_1 (hE2 3 rfl)) <| x_done <| ?_
    refine x_fin ⟨⟨_, rfl⟩, rfl, ?_⟩
    exact Eq.mp (by kernel_rfl) hS
   ·intro Ep2 w l' hE2 hO2 hF_ hS
    obtain ⟨q0s, -⟩ := hF_
    replace q0s : Ep2 15 = .pointer (some ⟨b3, 1, none⟩) := Eq.mp (by kernel_rfl) q0s
    replace hS : St w0 w (cells b3 79 [.bool b1.fneg, .slice q6 b1.fmag.length c_b1_1] :: l') := Eq.mp (by kernel_rfl) hS
    refine pa (at_load one_77 q0s (hS.cell rfl)) <| x_done <| ?_
    refine x_fin ⟨⟨_, rfl⟩, rfl, ?_⟩
    exact Eq.mp (by kernel_rfl) hS
   ·intro Ep2 w l' hE2 hO2 hF_ hS
    obtain ⟨q0t, q0u, -⟩ := hF_
    replace q0t : Ep2 14 = .slice q5 a0.fmag.length c_a0_1 := Eq.mp (by kernel_rfl) q0t
    replace q0u : Ep2 16 = .slice q6 b1.fmag.length c_b1_1 := Eq.mp (by kernel_rfl) q0u
    replace hS : St w0 w (ro ρ :: l') := Eq.mp (by kernel_rfl) hS
    have hcall := c_exact_addMag q2a q0m q0n hS
    refine o_cc call_126 (args2 q0t q0u) hcall ?_
    rintro e w' ⟨q1h, q24, c_y0_ret_2_6, q2, rfl, q0j, hS⟩
    refine ⟨_, rfl, ?_⟩
    have e_ := St.vec_n hS q0j; subst e_
    refine x_done <| ?_
    refine x_fin ⟨⟨_, rfl⟩, rfl, ?_⟩
    replace hS := St.bun (Φ := (fun (q2 : List Value) => RepL (RpI .u32) ρ q0d q2)) (L := (fun (q2 : List Value) => [vec 159 (RpI .u32).sz (.slice q1h q0d.length c_y0_ret_2_6) q0d.length q2])) q2 q0j hS
    exact Eq.mp (by kernel_rfl) (hS.pull 1)
   ·intro Ep2 w l' hE2 hO2 hF_ hS
    obtain ⟨q0v, q0w, -⟩ := hF_
    replace q0v : Ep2 12 = .bool a0.fneg := Eq.mp (by kernel_rfl) q0v
    replace q0w : Ep2 17 = .slice (adOf (Ep2 17)) q0d.length (capOf (Ep2 17)) := Eq.mp (by kernel_rfl) q0w
    replace hS : St w0 w (ro ρ :: bunA (fun (q2 : List Value) => RepL (RpI .u32) ρ q0d q2) (fun (q2 : List Value) => [vec 159 (RpI .u32).sz (.slice (adOf (Ep2 17)) q0d.length (capOf (Ep2 17))) q0d.length q2]) :: l') := Eq.mp (by kernel_rfl) hS
    have q_ := St.unbun (hS.pull 1); obtain ⟨q2, q0j, hS⟩ := q_
    have q_ := St.vec_fz ((hS.pull 1).pull 1) q0j; obtain ⟨q7, q1k, q1n, hS⟩ := q_
    have hcall := c_exact_made q2b q1n hS
    refine o_cc call_93 (args2 q0v q0w) hcall ?_
    rintro e w' ⟨q0x, q1v, c_y0_ret_1_2_7, rfl, q0g, hS⟩
    refine ⟨_, rfl, ?_⟩
    have e_ := q0g.n; subst e_
    refine x_done <| ?_
    refine x_fin ⟨⟨_, rfl⟩, rfl, ?_⟩
    replace hS := St.ro_split q1k hS
    replace hS := St.bun (Φ := (fun (q7 : Heap) => Le ρ q7 ∧ RdS (RpI .u32) q7 (adOf (Ep2 17)) q0d.length (capOf (Ep2 17)) q0d ∧ RdS (RpI .u32) q7 q0x q0a.fmag.length c_y0_ret_1_2_7 q0a.fmag)) (L := (fun (q7 : Heap) => [roD ρ q7])) q7 ⟨q1k, q1n, q0g⟩ (hS.pull 1)
    exact Eq.mp (by kernel_rfl) (hS.pull 1)
   ·intro Ep2 w l' hE2 hO2 hF_ hS
    obtain ⟨q0y, -⟩ := hF_
    replace q0y : Ep2 18 = .agg #[.bool q0a.fneg, .slice (adOf (partOf 1 (Ep2 18))) q0a.fmag.length (capOf (partOf 1 (Ep2 18)))] := Eq.mp (by kernel_rfl) q0y
    replace hS : St w0 w (cells b4 79 [.bool false, .slice none 0 0] :: l') := Eq.mp (by kernel_rfl) hS
    refine o_storeAgg (news := [.bool q0a.fneg, .slice (adOf (partOf 1 (Ep2 18))) q0a.fmag.length (capOf (partOf 1 (Ep2 18)))]) agg_79 (hE2 4 rfl) q0y rfl (by simp [over_length]) hS (fun w' hS => ?_)
    refine x_done <| ?_
    refine x_fin ⟨⟨undef, rfl⟩, trivial, ?_⟩
    exact Eq.mp (by kernel_rfl) hS
  intro Ep2 w' hE2 hF_ hS
  obtain ⟨q0q, q0v, q0r, q0t, q0s, q0u, q0w, q0y, -⟩ := hF_
  replace q0q : Ep2 11 = .pointer (some ⟨b2, 0, none⟩) := Eq.mp (by kernel_rfl) q0q
  replace q0v : Ep2 12 = .bool a0.fneg := Eq.mp (by kernel_rfl) q0v
  replace q0r : Ep2 13 = .pointer (some ⟨b2, 1, none⟩) := Eq.mp (by kernel_rfl) q0r
  replace q0t : Ep2 14 = .slice q5 a0.fmag.length c_a0_1 := Eq.mp (by kernel_rfl) q0t
  replace q0s : Ep2 15 = .pointer (some ⟨b3, 1, none⟩) := Eq.mp (by kernel_rfl) q0s
  replace q0u : Ep2 16 = .slice q6 b1.fmag.length c_b1_1 := Eq.mp (by kernel_rfl) q0u
  replace q0w : Ep2 17 = .slice (adOf (Ep2 17)) q0d.length (capOf (Ep2 17)) := Eq.mp (by kernel_rfl) q0w
  replace q0y : Ep2 18 = .agg #[.bool q0a.fneg, .slice (adOf (partOf 1 (Ep2 18))) q0a.fmag.length (capOf (partOf 1 (Ep2 18)))] := Eq.mp (by kernel_rfl) q0y
  replace hS : St w0 w' (cells b2 79 [.bool a0.fneg, .slice q5 a0.fmag.length c_a0_1] :: cells b3 79 [.bool b1.fneg, .slice q6 b1.fmag.length c_b1_1] :: ro ρ :: bunA (fun (q7 : Heap) => Le ρ q7 ∧ RdS (RpI .u32) q7 (adOf (Ep2 17)) q0d.length (capOf (Ep2 17)) q0d ∧ RdS (RpI .u32) q7 (adOf (partOf 1 (Ep2 18))) q0a.fmag.length (capOf (partOf 1 (Ep2 18))) q0a.fmag) (fun (q7 : Heap) => [roD ρ q7]) :: cells b4 79 [.bool q0a.fneg, .slice (adOf (partOf 1 (Ep2 18))) q0a.fmag.length (capOf (partOf 1 (Ep2 18)))] :: (l)) := Eq.mp (by kernel_rfl) hS
  have q_ := St.unbun (hS.pull 3); obtain ⟨q7, ⟨q1s, q1n, q0g⟩, hS⟩ := q_
  have q_ := St.ro_join (hS.pull 3) (Le.refl _) q1s; obtain ⟨q25, q1w, q1x, hS, q2h⟩ := q_
  have e_ := Option.some.inj (show some _ = some _ from hF); subst e_
  exact x_return ⟨_, ⟨_, _, _, rfl, (hE2 4 rfl), ldvA agg_79 rfl (fun j v hj => by rw [add0]; exact St.cell (hS.pull 3) hj), rfl⟩, q25, (adOf (partOf 1 (Ep2 18))), q0a.fmag.length, (capOf (partOf 1 (Ep2 18))), rfl, q1w, (q0g.le q1x), ((((hS.pull 1).drop.pull 1).drop.pull 1).drop)⟩
 ·replace hF := it_bf hc5 hF
  replace hF := bd_s hF; obtain ⟨q2i, q2c, hF⟩ := hF
  refine x_seq <| x_region <| p (yl_field0 fld_79_1 rfl) <| pa (at_load one_77 rfl ((hS.pull 2).cell rfl)) <|
   p (yl_field0 fld_79_1 rfl) <| pa (at_load one_77 rfl ((hS.pull 1).cell rfl)) <| ?_
  have hcall := c_exact_cmpMag q2c q0m q0n (hS.pull 3)
  refine o_cc call_91 (args2 rfl rfl) ((Calls.mono hcall (fun e w'' h => And.intro h.1 (((h.2.pull 3).pull 3).pull 3)))) ?_
  rintro e w' ⟨rfl, hS⟩
  refine ⟨_, rfl, ?_⟩
  refine p (yl_geq rfl rfl) <| p (yl_assign rfl) <| x_done <|
   x_cond_p (0 ≤ q2i) rfl (fun hc19 => ?_) (fun hc19 => ?_)
  ·replace hF := it_t hc19 hF
   refine x_seq <| ?_
   replace hF := bd_s hF; obtain ⟨q0e, q2d, hF⟩ := hF
   replace hF := bd_s hF; obtain ⟨q0b, q2e, hF⟩ := hF
   refine x_par (w0 := w0) [⟨[], [], [26], [], [], []⟩, ⟨[0], [0], [27], [0], [], []⟩, ⟨[], [], [28], [], [], []⟩, ⟨[2], [2], [29], [0], [], []⟩, ⟨[], [], [30], [], [], []⟩, ⟨[4], [4], [31], [1], [], []⟩, ⟨[2, 3, 4, 5], [3, 5], [32], [2], [], [3]⟩, ⟨[0, 1, 2, 3, 4, 5, 6], [1, 6], [33], [2], [3], [4]⟩, ⟨[0, 1, 2, 3, 4, 5, 6, 7], [7], [], [], [5], [6]⟩] [⟨none, none, []⟩, ⟨none, none, []⟩, ⟨none, none, []⟩, ⟨(some 6), (some 7), [32]⟩, ⟨(some 7), none, [32, 33]⟩, ⟨none, (some 8), []⟩, ⟨(some 8), none, [33]⟩] [26, 27, 28, 29, 30, 31, 32, 33] [0, 1, 2, 5] [0, 1, 2, 4, 6] [0, 1, 2, 3, 4, 5, 6, 7] [fun Ep4 => Ep4 26 = .pointer (some ⟨b2, 0, none⟩), fun Ep4 => Ep4 27 = .bool a0.fneg, fun Ep4 => Ep4 28 = .pointer (some ⟨b2, 1, none⟩), fun Ep4 => Ep4 29 = .slice q5 a0.fmag.length c_a0_1, fun Ep4 => Ep4 30 = .pointer (some ⟨b3, 1, none⟩), fun Ep4 => Ep4 31 = .slice q6 b1.fmag.length c_b1_1, fun Ep4 => Ep4 32 = .slice (adOf (Ep4 32)) q0e.length (capOf (Ep4 32)), fun Ep4 => Ep4 33 = .agg #[.bool q0b.fneg, .slice (adOf (partOf 1 (Ep4 33))) q0b.fmag.length (capOf (partOf 1 (Ep4 33)))], fun Ep4 => True] [fun Ep4 => cells b2 79 [.bool a0.fneg, .slice q5 a0.fmag.length c_a0_1], fun Ep4 => cells b3 79 [.bool b1.fneg, .slice q6 b1.fmag.length c_b1_1], fun Ep4 => ro ρ, fun Ep4 => bunA (fun (q3 : List Value) => RepL (RpI .u32) ρ q0e q3) (fun (q3 : List Value) => [vec 159 (RpI .u32).sz (.slice (adOf (Ep4 32)) q0e.length (capOf (Ep4 32))) q0e.length q3]), fun Ep4 => bunA (fun (q8 : Heap) => Le ρ q8 ∧ RdS (RpI .u32) q8 (adOf (Ep4 32)) q0e.length (capOf (Ep4 32)) q0e ∧ RdS (RpI .u32) q8 (adOf (partOf 1 (Ep4 33))) q0b.fmag.length (capOf (partOf 1 (Ep4 33))) q0b.fmag) (fun (q8 : Heap) => [roD ρ q8]), fun Ep4 => cells b4 79 [.bool false, .slice none 0 0], fun Ep4 => cells b4 79 [.bool q0b.fneg, .slice (adOf (partOf 1 (Ep4 33))) q0b.fmag.length (capOf (partOf 1 (Ep4 33)))]] mixed (by kernel_rfl) (((hS.pull 3).pull 2).pull 3) ?_ ?_
   ·refine ⟨?_, ?_, ?_, ?_, ?_, ?_, ?_, ?_, ?_, trivial⟩
    ·intro Ep4 w l' hE4 hO4 hF_ hS
     refine p (yl_field0 fld_79_0 (hE4 2 rfl)) <| x_done <| ?_
     refine x_fin ⟨⟨_, rfl⟩, rfl, ?_⟩
     exact Eq.mp (by kernel_rfl) hS
    ·intro Ep4 w l' hE4 hO4 hF_ hS
     obtain ⟨q0z, -⟩ := hF_
     replace q0z : Ep4 26 = .pointer (some ⟨b2, 0, none⟩) := Eq.mp (by kernel_rfl) q0z
     replace hS : St w0 w (cells b2 79 [.bool a0.fneg, .slice q5 a0.fmag.length c_a0_1] :: l') := Eq.mp (by kernel_rfl) hS
     refine pa (at_load one_4 q0z (hS.cell rfl)) <| x_done <| ?_
     refine x_fin ⟨⟨_, rfl⟩, rfl, ?_⟩
     exact Eq.mp (by kernel_rfl) hS
    ·intro Ep4 w l' hE4 hO4 hF_ hS
     refine p (yl_field0 fld_79_1 (hE4 2 rfl)) <| x_done <| ?_
     refine x_fin ⟨⟨_, rfl⟩, rfl, ?_⟩
     exact Eq.mp (by kernel_rfl) hS
    ·intro Ep4 w l' hE4 hO4 hF_ hS
     obtain ⟨q10, -⟩ := hF_
     replace q10 : Ep4 28 = .pointer (some ⟨b2, 1, none⟩) := Eq.mp (by kernel_rfl) q10
     replace hS : St w0 w (cells b2 79 [.bool a0.fneg, .slice q5 a0.fmag.length c_a0_1] :: l') := Eq.mp (by kernel_rfl) hS
     refine pa (at_load one_77 q10 (hS.cell rfl)) <| x_done <| ?_
     refine x_fin ⟨⟨_, rfl⟩, rfl, ?_⟩
     exact Eq.mp (by kernel_rfl) hS
    ·intro Ep4 w l' hE4 hO4 hF_ hS
     refine p (yl_field0 fld_79_1 (hE4 3 rfl)) <| x_done <| ?_
     refine x_fin ⟨⟨_, rfl⟩, rfl, ?_⟩
     exact Eq.mp (by kernel_rfl) hS
    ·intro Ep4 w l' hE4 hO4 hF_ hS
     obtain ⟨q11, -⟩ := hF_
     replace q11 : Ep4 30 = .pointer (some ⟨b3, 1, none⟩) := Eq.mp (by kernel_rfl) q11
     replace hS : St w0 w (cells b3 79 [.bool b1.fneg, .slice q6 b1.fmag.length c_b1_1] :: l') := Eq.mp (by kernel_rfl) hS
     refine pa (at_load one_77 q11 (hS.cell rfl)) <| x_done <| ?_
     refine x_fin ⟨⟨_, rfl⟩, rfl, ?_⟩
     exact Eq.mp (by kernel_rfl) hS
    ·intro Ep4 w l' hE4 hO4 hF_ hS
     obtain ⟨q12, q13, -⟩ := hF_
     replace q12 : Ep4 29 = .slice q5 a0.fmag.length c_a0_1 := Eq.mp (by kernel_rfl) q12
     replace q13 : Ep4 31 = .slice q6 b1.fmag.length c_b1_1 := Eq.mp (by kernel_rfl) q13
     replace hS : St w0 w (ro ρ :: l') := Eq.mp (by kernel_rfl) hS
     have hcall := c_exact_subMag q2d q0m q0n hS
     refine o_cc call_127 (args2 q12 q13) hcall ?_
     rintro e w' ⟨q1i, q26, c_y0_ret_4_6, q3, rfl, q0k, hS⟩
     refine ⟨_, rfl, ?_⟩
     have e_ := St.vec_n hS q0k; subst e_
     refine x_done <| ?_
     refine x_fin ⟨⟨_, rfl⟩, rfl, ?_⟩
     replace hS := St.bun (Φ := (fun (q3 : List Value) => RepL (RpI .u32) ρ q0e q3)) (L := (fun (q3 : List Value) => [vec 159 (RpI .u32).sz (.slice q1i q0e.length c_y0_ret_4_6) q0e.length q3])) q3 q0k hS
     exact Eq.mp (by kernel_rfl) (hS.pull 1)
    ·intro Ep4 w l' hE4 hO4 hF_ hS
     obtain ⟨q14, q15, -⟩ := hF_
     replace q14 : Ep4 27 = .bool a0.fneg := Eq.mp (by kernel_rfl) q14
     replace q15 : Ep4 32 = .slice (adOf (Ep4 32)) q0e.length (capOf (Ep4 32)) := Eq.mp (by kernel_rfl) q15
     replace hS : St w0 w (ro ρ :: bunA (fun (q3 : List Value) => RepL (RpI .u32) ρ q0e q3) (fun (q3 : List Value) => [vec 159 (RpI .u32).sz (.slice (adOf (Ep4 32)) q0e.length (capOf (Ep4 32))) q0e.length q3]) :: l') := Eq.mp (by kernel_rfl) hS
     have q_ := St.unbun (hS.pull 1); obtain ⟨q3, q0k, hS⟩ := q_
     have q_ := St.vec_fz ((hS.pull 1).pull 1) q0k; obtain ⟨q8, q1l, q1o, hS⟩ := q_
     have hcall := c_exact_made q2e q1o hS
     refine o_cc call_93 (args2 q14 q15) hcall ?_
     rintro e w' ⟨q16, q1y, c_y0_ret_1_4_7, rfl, q0h, hS⟩
     refine ⟨_, rfl, ?_⟩
     have e_ := q0h.n; subst e_
     refine x_done <| ?_
     refine x_fin ⟨⟨_, rfl⟩, rfl, ?_⟩
     replace hS := St.ro_split q1l hS
     replace hS := St.bun (Φ := (fun (q8 : Heap) => Le ρ q8 ∧ RdS (RpI .u32) q8 (adOf (Ep4 32)) q0e.length (capOf (Ep4 32)) q0e ∧ RdS (RpI .u32) q8 q16 q0b.fmag.length c_y0_ret_1_4_7 q0b.fmag)) (L := (fun (q8 : Heap) => [roD ρ q8])) q8 ⟨q1l, q1o, q0h⟩ (hS.pull 1)
     exact Eq.mp (by kernel_rfl) (hS.pull 1)
    ·intro Ep4 w l' hE4 hO4 hF_ hS
     obtain ⟨q17, -⟩ := hF_
     replace q17 : Ep4 33 = .agg #[.bool q0b.fneg, .slice (adOf (partOf 1 (Ep4 33))) q0b.fmag.length (capOf (partOf 1 (Ep4 33)))] := Eq.mp (by kernel_rfl) q17
     replace hS : St w0 w (cells b4 79 [.bool false, .slice none 0 0] :: l') := Eq.mp (by kernel_rfl) hS
     refine o_storeAgg (news := [.bool q0b.fneg, .slice (adOf (partOf 1 (Ep4 33))) q0b.fmag.length (capOf (partOf 1 (Ep4 33)))]) agg_79 (hE4 4 rfl) q17 rfl (by simp [over_length]) hS (fun w' hS => ?_)
     refine x_done <| ?_
     refine x_fin ⟨⟨undef, rfl⟩, trivial, ?_⟩
     exact Eq.mp (by kernel_rfl) hS
   intro Ep4 w' hE4 hF_ hS
   obtain ⟨q0z, q14, q10, q12, q11, q13, q15, q17, -⟩ := hF_
   replace q0z : Ep4 26 = .pointer (some ⟨b2, 0, none⟩) := Eq.mp (by kernel_rfl) q0z
   replace q14 : Ep4 27 = .bool a0.fneg := Eq.mp (by kernel_rfl) q14
   replace q10 : Ep4 28 = .pointer (some ⟨b2, 1, none⟩) := Eq.mp (by kernel_rfl) q10
   replace q12 : Ep4 29 = .slice q5 a0.fmag.length c_a0_1 := Eq.mp (by kernel_rfl) q12
   replace q11 : Ep4 30 = .pointer (some ⟨b3, 1, none⟩) := Eq.mp (by kernel_rfl) q11
   replace q13 : Ep4 31 = .slice q6 b1.fmag.length c_b1_1 := Eq.mp (by kernel_rfl) q13
   replace q15 : Ep4 32 = .slice (adOf (Ep4 32)) q0e.length (capOf (Ep4 32)) := Eq.mp (by kernel_rfl) q15
   replace q17 : Ep4 33 = .agg #[.bool q0b.fneg, .slice (adOf (partOf 1 (Ep4 33))) q0b.fmag.length (capOf (partOf 1 (Ep4 33)))] := Eq.mp (by kernel_rfl) q17
   replace hS : St w0 w' (cells b2 79 [.bool a0.fneg, .slice q5 a0.fmag.length c_a0_1] :: cells b3 79 [.bool b1.fneg, .slice q6 b1.fmag.length c_b1_1] :: ro ρ :: bunA (fun (q8 : Heap) => Le ρ q8 ∧ RdS (RpI .u32) q8 (adOf (Ep4 32)) q0e.length (capOf (Ep4 32)) q0e ∧ RdS (RpI .u32) q8 (adOf (partOf 1 (Ep4 33))) q0b.fmag.length (capOf (partOf 1 (Ep4 33))) q0b.fmag) (fun (q8 : Heap) => [roD ρ q8]) :: cells b4 79 [.bool q0b.fneg, .slice (adOf (partOf 1 (Ep4 33))) q0b.fmag.length (capOf (partOf 1 (Ep4 33)))] :: (l)) := Eq.mp (by kernel_rfl) hS
   have q_ := St.unbun (hS.pull 3); obtain ⟨q8, ⟨q1t, q1o, q0h⟩, hS⟩ := q_
   have q_ := St.ro_join (hS.pull 3) (Le.refl _) q1t; obtain ⟨q27, q1z, q20, hS, q2j⟩ := q_
   have e_ := Option.some.inj (show some _ = some _ from hF); subst e_
   exact x_return ⟨_, ⟨_, _, _, rfl, (hE4 4 rfl), ldvA agg_79 rfl (fun j v hj => by rw [add0]; exact St.cell (hS.pull 3) hj), rfl⟩, q27, (adOf (partOf 1 (Ep4 33))), q0b.fmag.length, (capOf (partOf 1 (Ep4 33))), rfl, q1z, (q0h.le q20), ((((hS.pull 1).drop.pull 1).drop.pull 1).drop)⟩
  ·replace hF := it_f hc19 hF
   refine x_skip <| x_blk <| x_seq <| ?_
   replace hF := bd_s hF; obtain ⟨q0f, q2f, hF⟩ := hF
   replace hF := bd_s hF; obtain ⟨q0c, q2g, hF⟩ := hF
   refine x_par (w0 := w0) [⟨[], [], [34], [], [], []⟩, ⟨[0], [0], [35], [0], [], []⟩, ⟨[], [], [36], [], [], []⟩, ⟨[2], [2], [37], [0], [], []⟩, ⟨[], [], [38], [], [], []⟩, ⟨[4], [4], [39], [1], [], []⟩, ⟨[2, 3, 4, 5], [3, 5], [40], [2], [], [3]⟩, ⟨[0, 1, 2, 3, 4, 5, 6], [1, 6], [41], [2], [3], [4]⟩, ⟨[0, 1, 2, 3, 4, 5, 6, 7], [7], [], [], [5], [6]⟩] [⟨none, none, []⟩, ⟨none, none, []⟩, ⟨none, none, []⟩, ⟨(some 6), (some 7), [40]⟩, ⟨(some 7), none, [40, 41]⟩, ⟨none, (some 8), []⟩, ⟨(some 8), none, [41]⟩] [34, 35, 36, 37, 38, 39, 40, 41] [0, 1, 2, 5] [0, 1, 2, 4, 6] [0, 1, 2, 3, 4, 5, 6, 7] [fun Ep5 => Ep5 34 = .pointer (some ⟨b3, 0, none⟩), fun Ep5 => Ep5 35 = .bool b1.fneg, fun Ep5 => Ep5 36 = .pointer (some ⟨b3, 1, none⟩), fun Ep5 => Ep5 37 = .slice q6 b1.fmag.length c_b1_1, fun Ep5 => Ep5 38 = .pointer (some ⟨b2, 1, none⟩), fun Ep5 => Ep5 39 = .slice q5 a0.fmag.length c_a0_1, fun Ep5 => Ep5 40 = .slice (adOf (Ep5 40)) q0f.length (capOf (Ep5 40)), fun Ep5 => Ep5 41 = .agg #[.bool q0c.fneg, .slice (adOf (partOf 1 (Ep5 41))) q0c.fmag.length (capOf (partOf 1 (Ep5 41)))], fun Ep5 => True] [fun Ep5 => cells b3 79 [.bool b1.fneg, .slice q6 b1.fmag.length c_b1_1], fun Ep5 => cells b2 79 [.bool a0.fneg, .slice q5 a0.fmag.length c_a0_1], fun Ep5 => ro ρ, fun Ep5 => bunA (fun (q4 : List Value) => RepL (RpI .u32) ρ q0f q4) (fun (q4 : List Value) => [vec 159 (RpI .u32).sz (.slice (adOf (Ep5 40)) q0f.length (capOf (Ep5 40))) q0f.length q4]), fun Ep5 => bunA (fun (q9 : Heap) => Le ρ q9 ∧ RdS (RpI .u32) q9 (adOf (Ep5 40)) q0f.length (capOf (Ep5 40)) q0f ∧ RdS (RpI .u32) q9 (adOf (partOf 1 (Ep5 41))) q0c.fmag.length (capOf (partOf 1 (Ep5 41))) q0c.fmag) (fun (q9 : Heap) => [roD ρ q9]), fun Ep5 => cells b4 79 [.bool false, .slice none 0 0], fun Ep5 => cells b4 79 [.bool q0c.fneg, .slice (adOf (partOf 1 (Ep5 41))) q0c.fmag.length (capOf (partOf 1 (Ep5 41)))]] mixed (by kernel_rfl) (((hS.pull 3).pull 3).pull 3) ?_ ?_
   ·refine ⟨?_, ?_, ?_, ?_, ?_, ?_, ?_, ?_, ?_, trivial⟩
    ·intro Ep5 w l' hE5 hO5 hF_ hS
     refine p (yl_field0 fld_79_0 (hE5 3 rfl)) <| x_done <| ?_
     refine x_fin ⟨⟨_, rfl⟩, rfl, ?_⟩
     exact Eq.mp (by kernel_rfl) hS
    ·intro Ep5 w l' hE5 hO5 hF_ hS
     obtain ⟨q18, -⟩ := hF_
     replace q18 : Ep5 34 = .pointer (some ⟨b3, 0, none⟩) := Eq.mp (by kernel_rfl) q18
     replace hS : St w0 w (cells b3 79 [.bool b1.fneg, .slice q6 b1.fmag.length c_b1_1] :: l') := Eq.mp (by kernel_rfl) hS
     refine pa (at_load one_4 q18 (hS.cell rfl)) <| x_done <| ?_
     refine x_fin ⟨⟨_, rfl⟩, rfl, ?_⟩
     exact Eq.mp (by kernel_rfl) hS
    ·intro Ep5 w l' hE5 hO5 hF_ hS
     refine p (yl_field0 fld_79_1 (hE5 3 rfl)) <| x_done <| ?_
     refine x_fin ⟨⟨_, rfl⟩, rfl, ?_⟩
     exact Eq.mp (by kernel_rfl) hS
    ·intro Ep5 w l' hE5 hO5 hF_ hS
     obtain ⟨q19, -⟩ := hF_
     replace q19 : Ep5 36 = .pointer (some ⟨b3, 1, none⟩) := Eq.mp (by kernel_rfl) q19
     replace hS : St w0 w (cells b3 79 [.bool b1.fneg, .slice q6 b1.fmag.length c_b1_1] :: l') := Eq.mp (by kernel_rfl) hS
     refine pa (at_load one_77 q19 (hS.cell rfl)) <| x_done <| ?_
     refine x_fin ⟨⟨_, rfl⟩, rfl, ?_⟩
     exact Eq.mp (by kernel_rfl) hS
    ·intro Ep5 w l' hE5 hO5 hF_ hS
     refine p (yl_field0 fld_79_1 (hE5 2 rfl)) <| x_done <| ?_
     refine x_fin ⟨⟨_, rfl⟩, rfl, ?_⟩
     exact Eq.mp (by kernel_rfl) hS
    ·intro Ep5 w l' hE5 hO5 hF_ hS
     obtain ⟨q1a, -⟩ := hF_
     replace q1a : Ep5 38 = .pointer (some ⟨b2, 1, none⟩) := Eq.mp (by kernel_rfl) q1a
     replace hS : St w0 w (cells b2 79 [.bool a0.fneg, .slice q5 a0.fmag.length c_a0_1] :: l') := Eq.mp (by kernel_rfl) hS
     refine pa (at_load one_77 q1a (hS.cell rfl)) <| x_done <| ?_
     refine x_fin ⟨⟨_, rfl⟩, rfl, ?_⟩
     exact Eq.mp (by kernel_rfl) hS
    ·intro Ep5 w l' hE5 hO5 hF_ hS
     obtain ⟨q1b, q1c, -⟩ := hF_
     replace q1b : Ep5 37 = .slice q6 b1.fmag.length c_b1_1 := Eq.mp (by kernel_rfl) q1b
     replace q1c : Ep5 39 = .slice q5 a0.fmag.length c_a0_1 := Eq.mp (by kernel_rfl) q1c
     replace hS : St w0 w (ro ρ :: l') := Eq.mp (by kernel_rfl) hS
     have hcall := c_exact_subMag q2f q0n q0m hS
     refine o_cc call_127 (args2 q1b q1c) hcall ?_
     rintro e w' ⟨q1j, q28, c_y0_ret_5_6, q4, rfl, q0l, hS⟩
     refine ⟨_, rfl, ?_⟩
     have e_ := St.vec_n hS q0l; subst e_
     refine x_done <| ?_
     refine x_fin ⟨⟨_, rfl⟩, rfl, ?_⟩
     replace hS := St.bun (Φ := (fun (q4 : List Value) => RepL (RpI .u32) ρ q0f q4)) (L := (fun (q4 : List Value) => [vec 159 (RpI .u32).sz (.slice q1j q0f.length c_y0_ret_5_6) q0f.length q4])) q4 q0l hS
     exact Eq.mp (by kernel_rfl) (hS.pull 1)
    ·intro Ep5 w l' hE5 hO5 hF_ hS
     obtain ⟨q1d, q1e, -⟩ := hF_
     replace q1d : Ep5 35 = .bool b1.fneg := Eq.mp (by kernel_rfl) q1d
     replace q1e : Ep5 40 = .slice (adOf (Ep5 40)) q0f.length (capOf (Ep5 40)) := Eq.mp (by kernel_rfl) q1e
     replace hS : St w0 w (ro ρ :: bunA (fun (q4 : List Value) => RepL (RpI .u32) ρ q0f q4) (fun (q4 : List Value) => [vec 159 (RpI .u32).sz (.slice (adOf (Ep5 40)) q0f.length (capOf (Ep5 40))) q0f.length q4]) :: l') := Eq.mp (by kernel_rfl) hS
     have q_ := St.unbun (hS.pull 1); obtain ⟨q4, q0l, hS⟩ := q_
     have q_ := St.vec_fz ((hS.pull 1).pull 1) q0l; obtain ⟨q9, q1m, q1p, hS⟩ := q_
     have hcall := c_exact_made q2g q1p hS
     refine o_cc call_93 (args2 q1d q1e) hcall ?_
     rintro e w' ⟨q1f, q21, c_y0_ret_1_5_7, rfl, q0i, hS⟩
     refine ⟨_, rfl, ?_⟩
     have e_ := q0i.n; subst e_
     refine x_done <| ?_
     refine x_fin ⟨⟨_, rfl⟩, rfl, ?_⟩
     replace hS := St.ro_split q1m hS
     replace hS := St.bun (Φ := (fun (q9 : Heap) => Le ρ q9 ∧ RdS (RpI .u32) q9 (adOf (Ep5 40)) q0f.length (capOf (Ep5 40)) q0f ∧ RdS (RpI .u32) q9 q1f q0c.fmag.length c_y0_ret_1_5_7 q0c.fmag)) (L := (fun (q9 : Heap) => [roD ρ q9])) q9 ⟨q1m, q1p, q0i⟩ (hS.pull 1)
     exact Eq.mp (by kernel_rfl) (hS.pull 1)
    ·intro Ep5 w l' hE5 hO5 hF_ hS
     obtain ⟨q1g, -⟩ := hF_
     replace q1g : Ep5 41 = .agg #[.bool q0c.fneg, .slice (adOf (partOf 1 (Ep5 41))) q0c.fmag.length (capOf (partOf 1 (Ep5 41)))] := Eq.mp (by kernel_rfl) q1g
     replace hS : St w0 w (cells b4 79 [.bool false, .slice none 0 0] :: l') := Eq.mp (by kernel_rfl) hS
     refine o_storeAgg (news := [.bool q0c.fneg, .slice (adOf (partOf 1 (Ep5 41))) q0c.fmag.length (capOf (partOf 1 (Ep5 41)))]) agg_79 (hE5 4 rfl) q1g rfl (by simp [over_length]) hS (fun w' hS => ?_)
     refine x_done <| ?_
     refine x_fin ⟨⟨undef, rfl⟩, trivial, ?_⟩
     exact Eq.mp (by kernel_rfl) hS
   intro Ep5 w' hE5 hF_ hS
   obtain ⟨q18, q1d, q19, q1b, q1a, q1c, q1e, q1g, -⟩ := hF_
   replace q18 : Ep5 34 = .pointer (some ⟨b3, 0, none⟩) := Eq.mp (by kernel_rfl) q18
   replace q1d : Ep5 35 = .bool b1.fneg := Eq.mp (by kernel_rfl) q1d
   replace q19 : Ep5 36 = .pointer (some ⟨b3, 1, none⟩) := Eq.mp (by kernel_rfl) q19
   replace q1b : Ep5 37 = .slice q6 b1.fmag.length c_b1_1 := Eq.mp (by kernel_rfl) q1b
   replace q1a : Ep5 38 = .pointer (some ⟨b2, 1, none⟩) := Eq.mp (by kernel_rfl) q1a
   replace q1c : Ep5 39 = .slice q5 a0.fmag.length c_a0_1 := Eq.mp (by kernel_rfl) q1c
   replace q1e : Ep5 40 = .slice (adOf (Ep5 40)) q0f.length (capOf (Ep5 40)) := Eq.mp (by kernel_rfl) q1e
   replace q1g : Ep5 41 = .agg #[.bool q0c.fneg, .slice (adOf (partOf 1 (Ep5 41))) q0c.fmag.length (capOf (partOf 1 (Ep5 41)))] := Eq.mp (by kernel_rfl) q1g
   replace hS : St w0 w' (cells b3 79 [.bool b1.fneg, .slice q6 b1.fmag.length c_b1_1] :: cells b2 79 [.bool a0.fneg, .slice q5 a0.fmag.length c_a0_1] :: ro ρ :: bunA (fun (q9 : Heap) => Le ρ q9 ∧ RdS (RpI .u32) q9 (adOf (Ep5 40)) q0f.length (capOf (Ep5 40)) q0f ∧ RdS (RpI .u32) q9 (adOf (partOf 1 (Ep5 41))) q0c.fmag.length (capOf (partOf 1 (Ep5 41))) q0c.fmag) (fun (q9 : Heap) => [roD ρ q9]) :: cells b4 79 [.bool q0c.fneg, .slice (adOf (partOf 1 (Ep5 41))) q0c.fmag.length (capOf (partOf 1 (Ep5 41)))] :: (l)) := Eq.mp (by kernel_rfl) hS
   have q_ := St.unbun (hS.pull 3); obtain ⟨q9, ⟨q1u, q1p, q0i⟩, hS⟩ := q_
   have q_ := St.ro_join (hS.pull 3) (Le.refl _) q1u; obtain ⟨q29, q22, q23, hS, q2k⟩ := q_
   have e_ := Option.some.inj (show some _ = some _ from hF); subst e_
   exact x_return ⟨_, ⟨_, _, _, rfl, (hE5 4 rfl), ldvA agg_79 rfl (fun j v hj => by rw [add0]; exact St.cell (hS.pull 3) hj), rfl⟩, q29, (adOf (partOf 1 (Ep5 41))), q0c.fmag.length, (capOf (partOf 1 (Ep5 41))), rfl, q22, (q0i.le q23), ((((hS.pull 1).drop.pull 1).drop.pull 1).drop)⟩
attribute [irreducible] P_exact_plus

def P_exact_divSmall_L4 (a0 : List Int) (d1 : Int) : (List Int × Int × Int) → Option ((List Int × Int × Int) ⊕ (List Int × Int)) := fun (q3, q4, q2) =>
 if 0 ≤ q2 then
  ck (0 ≤ (32 : Int)) <|
  lv (shl .u64 q4 32) fun x20 =>
  ck (inb q2 a0.length) <|
  lv (gt a0 q2) fun x24 =>
  lv (x24 % 18446744073709551616) fun x25 =>
  lv (bOr .u64 x20 x25) fun x26 =>
  lv (d1 % 18446744073709551616) fun x31 =>
  ck (x31 ≠ 0) <|
  lv ((Int.tdiv x26 x31) % 18446744073709551616) fun x32 =>
  lv (x32 % 4294967296) fun x33 =>
  ck (inb q2 q3.length) <|
  lv (stt q3 q2 x33) fun q5 =>
  lv (d1 % 18446744073709551616) fun x37 =>
  ck (x37 ≠ 0) <|
  lv (Int.tmod x26 x37) fun x38 =>
  ar (q2 - 1) fun x18 =>
  some (Sum.inl (q5, x38, x18))
 else
  some (Sum.inr (q3, q4))
def P_exact_divSmall (a0 : List Int) (d1 : Int) : Option (List Int × Int) :=
 ck (mkOk 4 (a0.length : Int)) <|
 lv ((List.replicate ((a0.length : Int) : Int).toNat 0 : List Int)) fun q4 =>
 ar ((a0.length : Int) - 1) fun x14 =>
 bd (
  lp (P_exact_divSmall_L4 a0 d1) fuel (q4, 0, x14)) fun (q3, q2) =>
 lv (q2 % 4294967296) fun x41 =>
 some (q3, x41)
set_option maxHeartbeats 4000000 in
set_option maxRecDepth 100000 in
theorem c_exact_divSmall {w0 w : World} {l : List Assn} {ρ : Heap} {q0k : Option Addr} {q0o : Nat} {c_a0 : Nat} {a0 : List Int} {d1 : Int} {r : (List Int × Int)} (hF : P_exact_divSmall a0 d1 = some r) (q0l : RdS (RpI .u32) ρ q0k q0o c_a0 a0) (hS : St w0 w (ro ρ :: l)) :
  Calls Try.prog 98 #[.slice q0k q0o c_a0, .int .u32 d1] w fun e w' => ∃ (q0e : Option Addr) (q8 : Nat) (c_y0_ret : Nat) (q0d : List Value), e = .returned (.tuple #[.slice q0e q8 c_y0_ret, .int .u32 r.2]) ∧ RepL (RpI .u32) ρ r.1 q0d ∧ St w0 w' (vec 159 (RpI .u32).sz (.slice q0e q8 c_y0_ret) q8 q0d :: ro ρ :: l) := by
 have e_ := q0l.n; subst e_
 refine enterC Try.func98 rfl 42 rfl (by simp) ?_
 refine x_seq <| x_region <| p (yl_assign rfl) <| p (yl_assign rfl) <|
  x_done <| x_seq <| x_region <| p (yl_move rfl) <|
  p (yl_len_slice usl_77 rfl) <| ?_
 replace hF := ck_s hF; obtain ⟨q0p, hF⟩ := hF
 replace hF := lv_s hF; obtain ⟨q2, q0q, hF⟩ := hF
 refine o_mk sl_77 zero_159 (show (RpI .u32).ok ρ _ 0 from rfl) rfl rfl q0p (by decide) q0q hS (fun A11 cs11 w' hr11 hS => ?_)
 replace hF := ar_s hF; obtain ⟨x14, hx14, hF⟩ := hF
 refine p (yl_assign rfl) <| x_done <| x_seq <| x_region <|
  p (yl_assign rfl) <| x_done <| x_seq <| x_seq <|
  x_region <| p (yl_move rfl) <| p (yl_len_slice usl_77 rfl) <| p (ysub rfl rfl hx14) <|
  p (yl_assign rfl) <| x_done <| ?_
 replace hF := bd_s hF; obtain ⟨oL4, hLL4, hF⟩ := hF
 refine x_join (fun E w => ∃ (q4 : List Value) (q0c : List Int) (q9 : Int), (q0c, q9) = oL4 ∧ E 6 = .slice A11 q2.length q2.length ∧ E 7 = .int .u64 q9 ∧ RepL (RpI .u32) ρ q0c q4 ∧ St w0 w (vec 159 (RpI .u32).sz (.slice A11 q2.length q2.length) q2.length q4 :: ro ρ :: l)) ?_ ?_
 ·refine x_block ?_
  refine x_loop (fun k_ E w => ∃ (q3 : List Value) (q6 : List Int) (q5 : Int) (q0a : Int), lp (P_exact_divSmall_L4 a0 d1) k_ (q6, q5, q0a) = some oL4 ∧ E 0 = .slice q0k a0.length c_a0 ∧ E 1 = .int .u32 d1 ∧ E 6 = .slice A11 q2.length q2.length ∧ E 7 = .int .u64 q5 ∧ E 8 = .int .i64 q0a ∧ RepL (RpI .u32) ρ q6 q3 ∧ St w0 w (vec 159 (RpI .u32).sz (.slice A11 q2.length q2.length) q2.length q3 :: ro ρ :: l)) fuel ⟨cs11, q2, 0, x14, hLL4, rfl, rfl, rfl, rfl, rfl, hr11, ((hS.pull 1).pull 1)⟩ ?_
  rintro kL4 E w ⟨q3, q6, q5, q0a, hLL4, q0h, q0f, q0g, q0i, q0b, q7, hS⟩
  replace hLL4 := lp_s hLL4; obtain ⟨kL4, obL4, rfl, hFL4, hLL4⟩ := hLL4
  refine x_seq <| x_seq <| x_region <| p (yl_move q0b) <|
   p (yl_geq rfl rfl) <| x_done <|
   x_cond_p (0 ≤ q0a) rfl (fun hc16 => ?_) (fun hc16 => ?_)
  ·replace hFL4 := it_t hc16 hFL4
   replace hFL4 := ck_s hFL4; obtain ⟨q0r, hFL4⟩ := hFL4
   replace hFL4 := lv_s hFL4; obtain ⟨x20, hx20, hFL4⟩ := hFL4
   replace hFL4 := ck_s hFL4; obtain ⟨q0m, hFL4⟩ := hFL4
   replace hFL4 := lv_s hFL4; obtain ⟨x24, hx24, hFL4⟩ := hFL4
   replace hFL4 := lv_s hFL4; obtain ⟨x25, hx25, hFL4⟩ := hFL4
   replace hFL4 := lv_s hFL4; obtain ⟨x26, hx26, hFL4⟩ := hFL4
   replace hFL4 := lv_s hFL4; obtain ⟨x31, hx31, hFL4⟩ := hFL4
   replace hFL4 := ck_s hFL4; obtain ⟨q0s, hFL4⟩ := hFL4
   replace hFL4 := lv_s hFL4; obtain ⟨x32, hx32, hFL4⟩ := hFL4
   replace hFL4 := lv_s hFL4; obtain ⟨x33, hx33, hFL4⟩ := hFL4
   replace hFL4 := ck_s hFL4; obtain ⟨q0n, hFL4⟩ := hFL4
   refine x_skip <| x_seq <| x_block <| x_seq <|
    x_region <| p (yl_move q0i) <| p (yshl rfl rfl q0r hx20) <| p (yl_move q0h) <|
    p (yl_move q0b) <| p (yix_f sl_77 rfl rfl q0l q0m) <| pa (at_load one_159 rfl (RdS.getW q0l (hS.pull 1) q0m hx24)) <| p (yconvu wm_u64 uk_159 ik_158 rfl hx25) <|
    p (yor rfl rfl hx26) <| p (yl_assign rfl) <| x_done <| x_seq <|
    x_region <| p (yl_move q0g) <| p (yl_move q0b) <| p (yl_move rfl) <|
    p (yl_move q0f) <| p (yconvu wm_u64 uk_159 ik_158 rfl hx31) <| p (yquou wm_u64 rfl rfl q0s hx32) <| p (yconvu wm_u32 uk_158 ik_159 rfl hx33) <|
    p (yix_o sl_77 rfl rfl hS q7 q0n) <| ?_
   replace hFL4 := lv_s hFL4; obtain ⟨q0z, q0t, hFL4⟩ := hFL4
   refine o_put' (news := [.int .u32 x33]) sz_159 rfl rfl rfl rfl (o := 0) rfl q0n rfl hS q7 (Le.refl _) (fun c hc => ok_all hc (show (RpI .u32).ok ρ [.int .u32 x33] x33 from rfl)) q0t (fun q0u w' q0v hS => ?_)
   replace hFL4 := lv_s hFL4; obtain ⟨x37, hx37, hFL4⟩ := hFL4
   replace hFL4 := ck_s hFL4; obtain ⟨q0w, hFL4⟩ := hFL4
   replace hFL4 := lv_s hFL4; obtain ⟨x38, hx38, hFL4⟩ := hFL4
   replace hFL4 := ar_s hFL4; obtain ⟨x18, hx18, hFL4⟩ := hFL4
   refine x_done <| x_region <| p (yl_move rfl) <| p (yl_move q0f) <|
    p (yconvu wm_u64 uk_159 ik_158 rfl hx37) <| p (yrem rfl rfl q0w hx38) <| p (yl_assign rfl) <| x_done <|
    x_blk <| x_region <| p (yl_move q0b) <| p (ysub rfl rfl hx18) <|
    p (yl_assign rfl) <| x_done <| ?_
   have e_ := Option.some.inj (show some _ = some _ from hFL4); subst e_
   exact x_inv ⟨kL4, Nat.lt_succ_self _, q0u, q0z, x38, x18, hLL4, q0h, q0f, q0g, rfl, rfl, q0v, ((hS.pull 1).pull 1)⟩
  ·replace hFL4 := it_f hc16 hFL4
   refine x_exitTo _ rfl <| ?_
   have e_ := Option.some.inj (show some _ = some _ from hFL4); subst e_
   exact x_inv ⟨q3, q6, q5, hLL4, q0g, q0i, q7, ((hS.pull 1).pull 1)⟩
 rintro E w ⟨q4, q0c, q9, rfl, q0x, q0y, q0j, hS⟩
 replace hF := lv_s hF; obtain ⟨x41, hx41, hF⟩ := hF
 refine x_seq <| x_region <| p (yl_move q0x) <| p (yl_move q0y) <|
  p (yconvu wm_u32 uk_158 ik_159 rfl hx41) <| p (yl_assign rfl) <| p (yl_assign rfl) <| x_done <| ?_
 have e_ := Option.some.inj (show some _ = some _ from hF); subst e_
 exact x_return ⟨_, ⟨_, _, rfl, rfl, _, _, rfl, rfl, rfl⟩, A11, q2.length, q2.length, q4, rfl, q0j, ((hS.pull 1).pull 1)⟩
attribute [irreducible] P_exact_divSmall

def P_math_bits_Len32 (x0 : Int) : Option Int :=
 bd (
  if 65536 ≤ x0 then
   ck (0 ≤ (16 : Int)) <|
   lv (shr .u32 x0 16) fun x6 =>
   some (x6, (16 : Int))
  else
   some (x0, (0 : Int))) fun (q2, q3) =>
 bd (
  if 256 ≤ q2 then
   ck (0 ≤ (8 : Int)) <|
   lv (shr .u32 q2 8) fun x10 =>
   ar (q3 + 8) fun x12 =>
   some (x10, x12)
  else
   some (q2, q3)) fun (q4, q5) =>
 lv (q4 % 256) fun x15 =>
 ck (inb x15 ks_633d862b.size) <|
 lv (byteAt ks_633d862b x15) fun x16 =>
 ar (x16) fun x17 =>
 ar (q5 + x17) fun x18 =>
 some x18
set_option maxHeartbeats 4000000 in
set_option maxRecDepth 100000 in
theorem c_math_bits_Len32 {w0 w : World} {l : List Assn} {ρ : Heap} {x0 : Int} {r : Int} (hF : P_math_bits_Len32 x0 = some r) (hS : St w0 w (ro ρ :: l)) :
  Calls Try.prog 141 #[.int .u32 x0] w fun e w' => e = .returned (.int .i64 r) ∧ St w0 w' (ro ρ :: l) := by
 refine enterC Try.func141 rfl 19 rfl (by simp) ?_
 refine x_seq <| x_region <| p (yl_assign rfl) <| x_done <|
  x_seq <| x_seq <| x_region <| p (yl_move rfl) <|
  p (yl_geq rfl rfl) <| x_done <| ?_
 replace hF := bd_s hF; obtain ⟨oc4, hFc4, hF⟩ := hF
 refine x_join (fun E w => ∃ (q2 : Int) (q3 : Int), (q2, q3) = oc4 ∧ E 0 = .int .u32 q2 ∧ E 2 = .int .i64 q3 ∧ St w0 w (ro ρ :: l)) ?_ ?_
 ·refine x_cond_p (65536 ≤ x0) rfl (fun hc4 => ?_) (fun hc4 => ?_)
  ·replace hFc4 := it_t hc4 hFc4
   replace hFc4 := ck_s hFc4; obtain ⟨q8, hFc4⟩ := hFc4
   replace hFc4 := lv_s hFc4; obtain ⟨x6, hx6, hFc4⟩ := hFc4
   refine x_seq <| x_region <| p (yl_move rfl) <| p (yshr rfl rfl q8 hx6) <|
    p (yl_assign rfl) <| x_done <| x_region <| p (yl_assign rfl) <|
    x_done <| ?_
   exact x_inv ⟨x6, 16, (Option.some.inj (show some _ = some _ from hFc4)), rfl, rfl, hS⟩
  ·replace hFc4 := it_f hc4 hFc4
   refine x_skip <| ?_
   exact x_inv ⟨x0, 0, (Option.some.inj (show some _ = some _ from hFc4)), rfl, rfl, hS⟩
 rintro E w ⟨q2, q3, rfl, q4, q7, hS⟩
 refine x_seq <| x_seq <| x_region <| p (yl_move q4) <|
  p (yl_geq rfl rfl) <| x_done <| ?_
 replace hF := bd_s hF; obtain ⟨oc8, hFc8, hF⟩ := hF
 refine x_join (fun E w => ∃ (q5 : Int) (q6 : Int), (q5, q6) = oc8 ∧ E 0 = .int .u32 q5 ∧ E 2 = .int .i64 q6 ∧ St w0 w (ro ρ :: l)) ?_ ?_
 ·refine x_cond_p (256 ≤ q2) rfl (fun hc8 => ?_) (fun hc8 => ?_)
  ·replace hFc8 := it_t hc8 hFc8
   replace hFc8 := ck_s hFc8; obtain ⟨q9, hFc8⟩ := hFc8
   replace hFc8 := lv_s hFc8; obtain ⟨x10, hx10, hFc8⟩ := hFc8
   replace hFc8 := ar_s hFc8; obtain ⟨x12, hx12, hFc8⟩ := hFc8
   refine x_seq <| x_region <| p (yl_move q4) <| p (yshr rfl rfl q9 hx10) <|
    p (yl_assign rfl) <| x_done <| x_region <| p (yl_move q7) <|
    p (yadd rfl rfl hx12) <| p (yl_assign rfl) <| x_done <| ?_
   exact x_inv ⟨x10, x12, (Option.some.inj (show some _ = some _ from hFc8)), rfl, rfl, hS⟩
  ·replace hFc8 := it_f hc8 hFc8
   refine x_skip <| ?_
   exact x_inv ⟨q2, q3, (Option.some.inj (show some _ = some _ from hFc8)), q4, q7, hS⟩
 rintro E w ⟨q5, q6, rfl, q0a, q0b, hS⟩
 replace hF := lv_s hF; obtain ⟨x15, hx15, hF⟩ := hF
 replace hF := ck_s hF; obtain ⟨q0c, hF⟩ := hF
 replace hF := lv_s hF; obtain ⟨x16, hx16, hF⟩ := hF
 replace hF := ar_s hF; obtain ⟨x17, hx17, hF⟩ := hF
 replace hF := ar_s hF; obtain ⟨x18, hx18, hF⟩ := hF
 refine x_seq <| x_region <| p (yl_move q0b) <| p (yl_move q0a) <|
  p (yconvu wm_u8 uk_159 ik_5 rfl hx15) <| p (ystr us_9 rfl rfl q0c hx16) <| p (yconvi uk_5 ik_3 rfl hx17) <| p (yadd rfl rfl hx18) <|
  p (yl_assign rfl) <| x_done <| ?_
 have e_ := Option.some.inj (show some _ = some _ from hF); subst e_
 exact x_return ⟨_, ⟨_, _, rfl, rfl, rfl⟩, rfl, hS⟩
attribute [irreducible] P_math_bits_Len32

def P_math_bits_LeadingZeros32 (x0 : Int) : Option Int :=
 bd (P_math_bits_Len32 x0) fun q2 =>
 ar ((32 : Int) - q2) fun x5 =>
 some x5
set_option maxHeartbeats 4000000 in
set_option maxRecDepth 100000 in
theorem c_math_bits_LeadingZeros32 {w0 w : World} {l : List Assn} {ρ : Heap} {x0 : Int} {r : Int} (hF : P_math_bits_LeadingZeros32 x0 = some r) (hS : St w0 w (ro ρ :: l)) :
  Calls Try.prog 146 #[.int .u32 x0] w fun e w' => e = .returned (.int .i64 r) ∧ St w0 w' (ro ρ :: l) := by
 refine enterC Try.func146 rfl 6 rfl (by simp) ?_
 replace hF := bd_s hF; obtain ⟨q3, q2, hF⟩ := hF
 refine x_seq <| x_region <| p (yl_assign rfl) <| x_done <|
  x_seq <| x_region <| p (yl_move rfl) <| ?_
 have hcall := c_math_bits_Len32 q2  hS
 refine o_cc call_141 (args1 rfl) (hcall) ?_
 rintro e w' ⟨rfl, hS⟩
 refine ⟨_, rfl, ?_⟩
 replace hF := ar_s hF; obtain ⟨x5, hx5, hF⟩ := hF
 refine p (ysub rfl rfl hx5) <| p (yl_assign rfl) <| x_done <| ?_
 have e_ := Option.some.inj (show some _ = some _ from hF); subst e_
 exact x_return ⟨_, ⟨_, _, rfl, rfl, rfl⟩, rfl, hS⟩
attribute [irreducible] P_math_bits_LeadingZeros32

def P_exact_shifted_L3 (a0 : List Int) (k1 : Int) : (List Int × Int) → Option ((List Int × Int) ⊕ List Int) := fun (q3, q2) =>
 if q2 < (a0.length : Int) then
  ck (inb q2 a0.length) <|
  lv (gt a0 q2) fun x18 =>
  ck (inb q2 q3.length) <|
  lv (gt q3 q2) fun x22 =>
  ck (0 ≤ k1) <|
  lv (shl .u32 x18 k1) fun x25 =>
  lv (bOr .u32 x22 x25) fun x26 =>
  ck (inb q2 q3.length) <|
  lv (stt q3 q2 x26) fun q4 =>
  ar (q2 + 1) fun x30 =>
  lv (x18 % 18446744073709551616) fun x32 =>
  ck (0 ≤ k1) <|
  lv (shl .u64 x32 k1) fun x34 =>
  ck (0 ≤ (32 : Int)) <|
  lv (shr .u64 x34 32) fun x35 =>
  lv (x35 % 4294967296) fun x36 =>
  ck (inb x30 q4.length) <|
  lv (stt q4 x30 x36) fun q5 =>
  ar (q2 + 1) fun x38 =>
  some (Sum.inl (q5, x38))
 else
  some (Sum.inr q3)
def P_exact_shifted (a0 : List Int) (k1 : Int) : Option (List Int) :=
 ar ((a0.length : Int) + 1) fun x10 =>
 ck (mkOk 4 x10) <|
 lv ((List.replicate (x10 : Int).toNat 0 : List Int)) fun q3 =>
 bd (
  lp (P_exact_shifted_L3 a0 k1) fuel (q3, 0)) fun q2 =>
 some q2
set_option maxHeartbeats 4000000 in
set_option maxRecDepth 100000 in
theorem c_exact_shifted {w0 w : World} {l : List Assn} {ρ : Heap} {q0i : Option Addr} {q0p : Nat} {c_a0 : Nat} {a0 : List Int} {k1 : Int} {r : List Int} (hF : P_exact_shifted a0 k1 = some r) (q0j : RdS (RpI .u32) ρ q0i q0p c_a0 a0) (hS : St w0 w (ro ρ :: l)) :
  Calls Try.prog 147 #[.slice q0i q0p c_a0, .int .i64 k1] w fun e w' => ∃ (q0d : Option Addr) (q9 : Nat) (c_y0_ret : Nat) (q0c : List Value), e = .returned (.slice q0d q9 c_y0_ret) ∧ RepL (RpI .u32) ρ r q0c ∧ St w0 w' (vec 159 (RpI .u32).sz (.slice q0d q9 c_y0_ret) q9 q0c :: ro ρ :: l) := by
 have e_ := q0j.n; subst e_
 refine enterC Try.func147 rfl 40 rfl (by simp) ?_
 replace hF := ar_s hF; obtain ⟨x10, hx10, hF⟩ := hF
 refine x_seq <| x_region <| p (yl_assign rfl) <| x_done <|
  x_seq <| x_region <| p (yl_move rfl) <| p (yl_len_slice usl_77 rfl) <|
  p (yadd rfl rfl hx10) <| ?_
 replace hF := ck_s hF; obtain ⟨q0t, hF⟩ := hF
 replace hF := lv_s hF; obtain ⟨q3, q0u, hF⟩ := hF
 refine o_mk sl_77 zero_159 (show (RpI .u32).ok ρ _ 0 from rfl) rfl rfl q0t (by decide) q0u hS (fun A11 cs11 w' hr11 hS => ?_)
 refine p (yl_assign rfl) <| x_done <| x_seq <| x_seq <|
  x_region <| p (yl_move rfl) <| p (yl_len_slice usl_77 rfl) <| p (yl_move rfl) <|
  x_done <| ?_
 replace hF := bd_s hF; obtain ⟨oL3, hLL3, hF⟩ := hF
 refine x_join (fun E w => ∃ (q5 : List Value) (q0b : List Int), q0b = oL3 ∧ E 5 = .slice A11 q3.length q3.length ∧ RepL (RpI .u32) ρ q0b q5 ∧ St w0 w (vec 159 (RpI .u32).sz (.slice A11 q3.length q3.length) q3.length q5 :: ro ρ :: l)) ?_ ?_
 ·refine x_block ?_
  refine x_loop (fun k_ E w => ∃ (q4 : List Value) (q6 : List Int) (q7 : Int), lp (P_exact_shifted_L3 a0 k1) k_ (q6, q7) = some oL3 ∧ E 1 = .int .i64 k1 ∧ E 5 = .slice A11 q3.length q3.length ∧ E 12 = .slice q0i a0.length c_a0 ∧ E 13 = .int .i64 (a0.length : Int) ∧ E 14 = .int .i64 q7 ∧ RepL (RpI .u32) ρ q6 q4 ∧ St w0 w (vec 159 (RpI .u32).sz (.slice A11 q3.length q3.length) q3.length q4 :: ro ρ :: l)) fuel ⟨cs11, q3, 0, hLL3, rfl, rfl, rfl, rfl, rfl, hr11, ((hS.pull 1).pull 1)⟩ ?_
  rintro kL3 E w ⟨q4, q6, q7, hLL3, q0e, q0a, q0f, q0g, q8, q2, hS⟩
  replace hLL3 := lp_s hLL3; obtain ⟨kL3, obL3, rfl, hFL3, hLL3⟩ := hLL3
  refine x_seq <| x_region <| p (yl_lss q8 q0g) <| x_done <|
   x_seq <|
   x_cond_p (q7 < (a0.length : Int)) rfl (fun hc15 => ?_) (fun hc15 => ?_)
  ·replace hFL3 := it_t hc15 hFL3
   replace hFL3 := ck_s hFL3; obtain ⟨q0k, hFL3⟩ := hFL3
   replace hFL3 := lv_s hFL3; obtain ⟨x18, hx18, hFL3⟩ := hFL3
   replace hFL3 := ck_s hFL3; obtain ⟨q0l, hFL3⟩ := hFL3
   replace hFL3 := lv_s hFL3; obtain ⟨x22, hx22, hFL3⟩ := hFL3
   replace hFL3 := ck_s hFL3; obtain ⟨q0v, hFL3⟩ := hFL3
   replace hFL3 := lv_s hFL3; obtain ⟨x25, hx25, hFL3⟩ := hFL3
   replace hFL3 := lv_s hFL3; obtain ⟨x26, hx26, hFL3⟩ := hFL3
   replace hFL3 := ck_s hFL3; obtain ⟨q0m, hFL3⟩ := hFL3
   refine x_skip <| x_seq <| x_block <| x_seq <|
    x_region <| p (yl_move q8) <| p (yix_f sl_77 q0f q8 q0j q0k) <| pa (at_load one_159 rfl (RdS.getW q0j (hS.pull 1) q0k hx18)) <|
    p (yl_assign rfl) <| p (yl_assign rfl) <| x_done <| x_seq <|
    x_head 9 mixed (by kernel_rfl) hS _ _ rfl rfl <| q (yl_move q0a) <| q (yl_move rfl) <| q (yix_o sl_77 rfl rfl hS q2 q0l) <|
    qa (fun w' hS => at_load one_159 rfl (RepL.getW q2 hS q0l hx22)) <| q (yl_move rfl) <| q (yl_move q0e) <| q (yshl rfl rfl q0v hx25) <|
    q (yor rfl rfl hx26) <| q (yix_o sl_77 rfl rfl hS q2 q0m) <|
    q_done fun w' hS => ?_
   replace hFL3 := lv_s hFL3; obtain ⟨q12, q0w, hFL3⟩ := hFL3
   refine o_put' (news := [.int .u32 x26]) sz_159 rfl rfl rfl rfl (o := 0) rfl q0m rfl hS q2 (Le.refl _) (fun c hc => ok_all hc (show (RpI .u32).ok ρ [.int .u32 x26] x26 from rfl)) q0w (fun q11 w' q0n hS => ?_)
   replace hFL3 := ar_s hFL3; obtain ⟨x30, hx30, hFL3⟩ := hFL3
   replace hFL3 := lv_s hFL3; obtain ⟨x32, hx32, hFL3⟩ := hFL3
   replace hFL3 := ck_s hFL3; obtain ⟨q0x, hFL3⟩ := hFL3
   replace hFL3 := lv_s hFL3; obtain ⟨x34, hx34, hFL3⟩ := hFL3
   replace hFL3 := ck_s hFL3; obtain ⟨q0y, hFL3⟩ := hFL3
   replace hFL3 := lv_s hFL3; obtain ⟨x35, hx35, hFL3⟩ := hFL3
   replace hFL3 := lv_s hFL3; obtain ⟨x36, hx36, hFL3⟩ := hFL3
   replace hFL3 := ck_s hFL3; obtain ⟨q0o, hFL3⟩ := hFL3
   refine x_done <| x_region <| p (yl_move q0a) <| p (yl_move rfl) <|
    p (yadd rfl rfl hx30) <| p (yl_move rfl) <| p (yconvu wm_u64 uk_159 ik_158 rfl hx32) <| p (yl_move q0e) <|
    p (yshl rfl rfl q0x hx34) <| p (yshr rfl rfl q0y hx35) <| p (yconvu wm_u32 uk_158 ik_159 rfl hx36) <| p (yix_o sl_77 rfl rfl hS q0n q0o) <| ?_
   replace hFL3 := lv_s hFL3; obtain ⟨q0z, q0q, hFL3⟩ := hFL3
   refine o_put' (news := [.int .u32 x36]) sz_159 rfl rfl rfl rfl (o := 0) rfl q0o rfl hS q0n (Le.refl _) (fun c hc => ok_all hc (show (RpI .u32).ok ρ [.int .u32 x36] x36 from rfl)) q0q (fun q0r w' q0s hS => ?_)
   replace hFL3 := ar_s hFL3; obtain ⟨x38, hx38, hFL3⟩ := hFL3
   refine x_done <| x_blk <| x_region <| p (yadd q8 rfl hx38) <|
    p (yl_move rfl) <| x_done <| ?_
   have e_ := Option.some.inj (show some _ = some _ from hFL3); subst e_
   exact x_inv ⟨kL3, Nat.lt_succ_self _, q0r, q0z, x38, hLL3, q0e, q0a, q0f, q0g, rfl, q0s, ((hS.pull 1).pull 1)⟩
  ·replace hFL3 := it_f hc15 hFL3
   refine x_exitTo _ rfl <| ?_
   have e_ := Option.some.inj (show some _ = some _ from hFL3); subst e_
   exact x_inv ⟨q4, q6, hLL3, q0a, q2, ((hS.pull 1).pull 1)⟩
 rintro E w ⟨q5, q0b, rfl, q10, q0h, hS⟩
 refine x_seq <| x_region <| p (yl_move q10) <| p (yl_assign rfl) <|
  x_done <| ?_
 have e_ := Option.some.inj (show some _ = some _ from hF); subst e_
 exact x_return ⟨_, ⟨_, _, rfl, rfl, rfl⟩, A11, q3.length, q3.length, q5, rfl, q0h, ((hS.pull 1).pull 1)⟩
attribute [irreducible] P_exact_shifted

def P_exact_take_L4 (q7 : Int) (q8 : Int) (v1 : List Int) (guess2 : Int) : (Int × Int × Int × List Int) → Option ((Int × Int × Int × List Int) ⊕ (Int × List Int)) := fun (q5, q4, q2, q3) =>
 if q2 < (q8.toNat : Int) then
  bd (
   if q2 < (v1.length : Int) then
    ck (inb q2 v1.length) <|
    lv (gt v1 q2) fun x25 =>
    lv (x25 % 18446744073709551616) fun x26 =>
    lv ((guess2 * x26) % 18446744073709551616) fun x27 =>
    lv ((q5 + x27) % 18446744073709551616) fun x28 =>
    some x28
   else
    some q5) fun q6 =>
  ck (0 ≤ q7 ∧ inb q2 q8.toNat) <|
  ck (inb (q7 + q2) q3.length) <|
  lv (gt q3 (q7 + q2)) fun x32 =>
  ar (x32) fun x33 =>
  lv (q6 % 4294967296) fun x35 =>
  ar (x35) fun x36 =>
  ar (x33 - x36) fun x37 =>
  ar (x37 + q4) fun x39 =>
  lv (x39 % 4294967296) fun x43 =>
  ck (0 ≤ q7 ∧ inb q2 q8.toNat) <|
  ck (inb (q7 + q2) q3.length) <|
  lv (stt q3 (q7 + q2) x43) fun q9 =>
  ck (0 ≤ (32 : Int)) <|
  lv (shr .i64 x39 32) fun x46 =>
  ck (0 ≤ (32 : Int)) <|
  lv (shr .u64 q6 32) fun x48 =>
  ar (q2 + 1) fun x49 =>
  some (Sum.inl (x48, x46, x49, q9))
 else
  some (Sum.inr (q4, q3))
def P_exact_take (q4 : List Int) (q5 : Int) (q6 : Int) (v1 : List Int) (guess2 : Int) : Option (Bool × List Int) :=
 bd (
  lp (P_exact_take_L4 q5 q6 v1 guess2) fuel (0, 0, 0, q4)) fun (q2, q3) =>
 some (decide (q2 < 0), q3)
set_option maxHeartbeats 4000000 in
set_option maxRecDepth 100000 in
theorem c_exact_take {w0 w : World} {l : List Assn} {ρ : Heap} {q7 : Option Addr} {q0h : Nat} {c_u0_s : Nat} {q0j : List Value} {cw_u0 : Nat} {q0q : Option Addr} {q10 : Nat} {c_v1 : Nat} {q0b : List Int} {q0l : Int} {q0f : Int} {v1 : List Int} {guess2 : Int} {r : (Bool × List Int)} (hF : P_exact_take q0b q0l q0f v1 guess2 = some r) (q0r : RepL (RpI .u32) ρ q0b q0j) (q0w : RdS (RpI .u32) ρ q0q q10 c_v1 v1) (hS : St w0 w (vec 159 (RpI .u32).sz (.slice q7 q0h c_u0_s) q0h q0j :: ro ρ :: l)) :
  Calls Try.prog 148 #[.slice (some ((adr q7).add (q0l.toNat * (RpI .u32).sz))) q0f.toNat cw_u0, .slice q0q q10 c_v1, .int .u64 guess2] w fun e w' => ∃ (q0a : List Value), e = .returned (.bool r.1) ∧ RepL (RpI .u32) ρ r.2 q0a ∧ St w0 w' (vec 159 (RpI .u32).sz (.slice q7 q0h c_u0_s) q0h q0a :: ro ρ :: l) := by
 have e_ := St.vec_n hS q0r; subst e_
 have e_ := q0w.n; subst e_
 refine enterC Try.func148 rfl 52 rfl (by simp) ?_
 refine x_seq <| x_region <| p (yl_assign rfl) <| x_done <|
  x_seq <| x_region <| p (yl_assign rfl) <| x_done <|
  x_seq <| x_region <| p (yl_assign rfl) <| x_done <|
  x_seq <| x_seq <| x_region <| p (yl_move rfl) <|
  p (yl_len_slice usl_77 rfl) <| p (yl_move rfl) <| x_done <| ?_
 replace hF := bd_s hF; obtain ⟨oL4, hLL4, hF⟩ := hF
 refine x_join (fun E w => ∃ (q4 : List Value) (q0c : Int) (q0d : List Int), (q0c, q0d) = oL4 ∧ E 8 = .int .i64 q0c ∧ RepL (RpI .u32) ρ q0d q4 ∧ St w0 w (vec 159 (RpI .u32).sz (.slice q7 q0b.length c_u0_s) q0b.length q4 :: ro ρ :: l)) ?_ ?_
 ·refine x_block ?_
  refine x_loop (fun k_ E w => ∃ (q2 : List Value) (q9 : Int) (q3 : Int) (q5 : Int) (q6 : List Int), lp (P_exact_take_L4 q0l q0f v1 guess2) k_ (q9, q3, q5, q6) = some oL4 ∧ E 0 = .slice (some ((adr q7).add (q0l.toNat * (RpI .u32).sz))) q0f.toNat cw_u0 ∧ E 1 = .slice q0q v1.length c_v1 ∧ E 2 = .int .u64 guess2 ∧ E 7 = .int .u64 q9 ∧ E 8 = .int .i64 q3 ∧ E 12 = .int .i64 (q0f.toNat : Int) ∧ E 13 = .int .i64 q5 ∧ RepL (RpI .u32) ρ q6 q2 ∧ St w0 w (vec 159 (RpI .u32).sz (.slice q7 q0b.length c_u0_s) q0b.length q2 :: ro ρ :: l)) fuel ⟨q0j, 0, 0, 0, q0b, hLL4, rfl, rfl, rfl, rfl, rfl, rfl, rfl, q0r, ((hS.pull 1).pull 1)⟩ ?_
  rintro kL4 E w ⟨q2, q9, q3, q5, q6, hLL4, q0s, q0i, q0m, q0t, q0n, q0k, q0g, q8, hS⟩
  replace hLL4 := lp_s hLL4; obtain ⟨kL4, obL4, rfl, hFL4, hLL4⟩ := hLL4
  refine x_seq <| x_region <| p (yl_lss q0g q0k) <| x_done <|
   x_seq <|
   x_cond_p (q5 < (q0f.toNat : Int)) rfl (fun hc14 => ?_) (fun hc14 => ?_)
  ·replace hFL4 := it_t hc14 hFL4
   refine x_skip <| x_seq <| x_block <| x_seq <|
    x_region <| p (yl_move q0g) <| p (yl_assign rfl) <| x_done <|
    x_seq <| x_seq <| x_region <| p (yl_move rfl) <|
    p (yl_move q0i) <| p (yl_len_slice usl_77 rfl) <| p (yl_lss rfl rfl) <| x_done <| ?_
   replace hFL4 := bd_s hFL4; obtain ⟨oc19, hFc19, hFL4⟩ := hFL4
   refine x_join (fun E w => ∃ (q0e : Int), q0e = oc19 ∧ E 0 = .slice (some ((adr q7).add (q0l.toNat * (RpI .u32).sz))) q0f.toNat cw_u0 ∧ E 1 = .slice q0q v1.length c_v1 ∧ E 2 = .int .u64 guess2 ∧ E 7 = .int .u64 q0e ∧ E 8 = .int .i64 q3 ∧ E 9 = .int .i64 q5 ∧ E 12 = .int .i64 (q0f.toNat : Int) ∧ E 13 = .int .i64 q5 ∧ St w0 w (vec 159 (RpI .u32).sz (.slice q7 q0b.length c_u0_s) q0b.length q2 :: ro ρ :: l)) ?_ ?_
   ·refine x_cond_p (q5 < (v1.length : Int)) rfl (fun hc19 => ?_) (fun hc19 => ?_)
    ·replace hFc19 := it_t hc19 hFc19
     replace hFc19 := ck_s hFc19; obtain ⟨q0x, hFc19⟩ := hFc19
     replace hFc19 := lv_s hFc19; obtain ⟨x25, hx25, hFc19⟩ := hFc19
     replace hFc19 := lv_s hFc19; obtain ⟨x26, hx26, hFc19⟩ := hFc19
     replace hFc19 := lv_s hFc19; obtain ⟨x27, hx27, hFc19⟩ := hFc19
     replace hFc19 := lv_s hFc19; obtain ⟨x28, hx28, hFc19⟩ := hFc19
     refine x_region <| p (yl_move q0t) <| p (yl_move q0m) <| p (yl_move q0i) <|
      p (yl_move rfl) <| p (yix_f sl_77 rfl rfl q0w q0x) <| pa (at_load one_159 rfl (RdS.getW q0w (hS.pull 1) q0x hx25)) <| p (yconvu wm_u64 uk_159 ik_158 rfl hx26) <|
      p (ymulu wm_u64 rfl rfl hx27) <| p (yaddu wm_u64 rfl rfl hx28) <| p (yl_assign rfl) <| x_done <| ?_
     exact x_inv ⟨x28, (Option.some.inj (show some _ = some _ from hFc19)), q0s, q0i, q0m, rfl, q0n, rfl, q0k, q0g, ((hS.pull 1).pull 1)⟩
    ·replace hFc19 := it_f hc19 hFc19
     refine x_skip <| ?_
     exact x_inv ⟨q9, (Option.some.inj (show some _ = some _ from hFc19)), q0s, q0i, q0m, q0t, q0n, rfl, q0k, q0g, ((hS.pull 1).pull 1)⟩
   rintro E w ⟨q0e, rfl, q0o, q11, q12, q0u, q13, q0v, q0y, q0z, hS⟩
   replace hFL4 := ck_s hFL4; obtain ⟨q18, hFL4⟩ := hFL4
   replace hFL4 := ck_s hFL4; obtain ⟨q14, hFL4⟩ := hFL4
   replace hFL4 := lv_s hFL4; obtain ⟨x32, hx32, hFL4⟩ := hFL4
   replace hFL4 := ar_s hFL4; obtain ⟨x33, hx33, hFL4⟩ := hFL4
   replace hFL4 := lv_s hFL4; obtain ⟨x35, hx35, hFL4⟩ := hFL4
   replace hFL4 := ar_s hFL4; obtain ⟨x36, hx36, hFL4⟩ := hFL4
   replace hFL4 := ar_s hFL4; obtain ⟨x37, hx37, hFL4⟩ := hFL4
   replace hFL4 := ar_s hFL4; obtain ⟨x39, hx39, hFL4⟩ := hFL4
   replace hFL4 := lv_s hFL4; obtain ⟨x43, hx43, hFL4⟩ := hFL4
   replace hFL4 := ck_s hFL4; obtain ⟨q19, hFL4⟩ := hFL4
   replace hFL4 := ck_s hFL4; obtain ⟨q15, hFL4⟩ := hFL4
   refine x_seq <| x_region <| p (yl_move q0o) <| p (yl_move q0v) <|
    p (yixw sl_77 rfl rfl q18) <| pa (at_load one_159 rfl (RepL.getW q8 hS q14 hx32)) <| p (yconvi uk_159 ik_2 rfl hx33) <| p (yl_move q0u) <|
    p (yconvu wm_u32 uk_158 ik_159 rfl hx35) <| p (yconvi uk_159 ik_2 rfl hx36) <| p (ysub rfl rfl hx37) <| p (yl_move q13) <|
    p (yadd rfl rfl hx39) <| p (yl_assign rfl) <| x_done <| x_seq <|
    x_region <| p (yl_move q0o) <| p (yl_move q0v) <| p (yl_move rfl) <|
    p (yconvu wm_u32 uk_2 ik_159 rfl hx43) <| p (yixw sl_77 rfl rfl q19) <| ?_
   replace hFL4 := lv_s hFL4; obtain ⟨q1e, q1a, hFL4⟩ := hFL4
   refine o_put' (news := [.int .u32 x43]) sz_159 rfl rfl rfl rfl (o := 0) rfl q15 rfl hS q8 (Le.refl _) (fun c hc => ok_all hc (show (RpI .u32).ok ρ [.int .u32 x43] x43 from rfl)) q1a (fun q1b w' q1c hS => ?_)
   replace hFL4 := ck_s hFL4; obtain ⟨q16, hFL4⟩ := hFL4
   replace hFL4 := lv_s hFL4; obtain ⟨x46, hx46, hFL4⟩ := hFL4
   replace hFL4 := ck_s hFL4; obtain ⟨q17, hFL4⟩ := hFL4
   replace hFL4 := lv_s hFL4; obtain ⟨x48, hx48, hFL4⟩ := hFL4
   replace hFL4 := ar_s hFL4; obtain ⟨x49, hx49, hFL4⟩ := hFL4
   refine x_done <| x_seq <| x_region <| p (yl_move rfl) <|
    p (yshr rfl rfl q16 hx46) <| p (yl_assign rfl) <| x_done <| x_region <|
    p (yl_move q0u) <| p (yshr rfl rfl q17 hx48) <| p (yl_assign rfl) <| x_done <|
    x_blk <| x_region <| p (yadd q0z rfl hx49) <| p (yl_move rfl) <|
    x_done <| ?_
   have e_ := Option.some.inj (show some _ = some _ from hFL4); subst e_
   exact x_inv ⟨kL4, Nat.lt_succ_self _, q1b, x48, x46, x49, q1e, hLL4, q0o, q11, q12, rfl, rfl, q0y, rfl, q1c, ((hS.pull 1).pull 1)⟩
  ·replace hFL4 := it_f hc14 hFL4
   refine x_exitTo _ rfl <| ?_
   have e_ := Option.some.inj (show some _ = some _ from hFL4); subst e_
   exact x_inv ⟨q2, q3, q6, hLL4, q0n, q8, ((hS.pull 1).pull 1)⟩
 rintro E w ⟨q4, q0c, q0d, rfl, q1d, q0p, hS⟩
 refine x_seq <| x_region <| p (yl_move q1d) <| p (yl_lss rfl rfl) <|
  p (yl_assign rfl) <| x_done <| ?_
 have e_ := Option.some.inj (show some _ = some _ from hF); subst e_
 exact x_return ⟨_, ⟨_, _, rfl, rfl, rfl⟩, q4, rfl, q0p, ((hS.pull 1).pull 1)⟩
attribute [irreducible] P_exact_take

def P_exact_give_L2 (q5 : Int) (q7 : Int) (v1 : List Int) : (Int × Int × List Int) → Option ((Int × Int × List Int) ⊕ List Int) := fun (q6, q2, q3) =>
 if q2 < (q7.toNat : Int) then
  ck (0 ≤ q5 ∧ inb q2 q7.toNat) <|
  ck (inb (q5 + q2) q3.length) <|
  lv (gt q3 (q5 + q2)) fun x15 =>
  lv (x15 % 18446744073709551616) fun x16 =>
  lv ((q6 + x16) % 18446744073709551616) fun x17 =>
  bd (
   if q2 < (v1.length : Int) then
    ck (inb q2 v1.length) <|
    lv (gt v1 q2) fun x26 =>
    lv (x26 % 18446744073709551616) fun x27 =>
    lv ((x17 + x27) % 18446744073709551616) fun x28 =>
    some x28
   else
    some x17) fun q4 =>
  lv (q4 % 4294967296) fun x32 =>
  ck (0 ≤ q5 ∧ inb q2 q7.toNat) <|
  ck (inb (q5 + q2) q3.length) <|
  lv (stt q3 (q5 + q2) x32) fun q8 =>
  ck (0 ≤ (32 : Int)) <|
  lv (shr .u64 q4 32) fun x35 =>
  ar (q2 + 1) fun x36 =>
  some (Sum.inl (x35, x36, q8))
 else
  some (Sum.inr q3)
def P_exact_give (q3 : List Int) (q4 : Int) (q5 : Int) (v1 : List Int) : Option (List Int) :=
 bd (
  lp (P_exact_give_L2 q4 q5 v1) fuel (0, 0, q3)) fun q2 =>
 some q2
set_option maxHeartbeats 4000000 in
set_option maxRecDepth 100000 in
theorem c_exact_give {w0 w : World} {l : List Assn} {ρ : Heap} {q5 : Option Addr} {q0e : Nat} {c_u0_s : Nat} {q0h : List Value} {cw_u0 : Nat} {q0m : Option Addr} {q0s : Nat} {c_v1 : Nat} {q9 : List Int} {q0i : Int} {q0d : Int} {v1 : List Int} {r : List Int} (hF : P_exact_give q9 q0i q0d v1 = some r) (q0n : RepL (RpI .u32) ρ q9 q0h) (q0q : RdS (RpI .u32) ρ q0m q0s c_v1 v1) (hS : St w0 w (vec 159 (RpI .u32).sz (.slice q5 q0e c_u0_s) q0e q0h :: ro ρ :: l)) :
  Calls Try.prog 149 #[.slice (some ((adr q5).add (q0i.toNat * (RpI .u32).sz))) q0d.toNat cw_u0, .slice q0m q0s c_v1] w fun e w' => ∃ (q8 : List Value), e = .returned (.tuple #[]) ∧ RepL (RpI .u32) ρ r q8 ∧ St w0 w' (vec 159 (RpI .u32).sz (.slice q5 q0e c_u0_s) q0e q8 :: ro ρ :: l) := by
 have e_ := St.vec_n hS q0n; subst e_
 have e_ := q0q.n; subst e_
 refine enterC Try.func149 rfl 37 rfl (by simp) ?_
 refine x_seq <| x_region <| p (yl_assign rfl) <| x_done <|
  x_seq <| x_region <| p (yl_move rfl) <| p (yl_len_slice usl_77 rfl) <|
  p (yl_move rfl) <| x_done <| ?_
 replace hF := bd_s hF; obtain ⟨oL2, hLL2, hF⟩ := hF
 refine x_join (fun E w => ∃ (q3 : List Value) (q0a : List Int), q0a = oL2 ∧ RepL (RpI .u32) ρ q0a q3 ∧ St w0 w (vec 159 (RpI .u32).sz (.slice q5 q9.length c_u0_s) q9.length q3 :: ro ρ :: l)) ?_ ?_
 ·refine x_block ?_
  refine x_loop (fun k_ E w => ∃ (q2 : List Value) (q0b : Int) (q7 : Int) (q4 : List Int), lp (P_exact_give_L2 q0i q0d v1) k_ (q0b, q7, q4) = some oL2 ∧ E 0 = .slice (some ((adr q5).add (q0i.toNat * (RpI .u32).sz))) q0d.toNat cw_u0 ∧ E 1 = .slice q0m v1.length c_v1 ∧ E 4 = .int .u64 q0b ∧ E 7 = .int .i64 (q0d.toNat : Int) ∧ E 8 = .int .i64 q7 ∧ RepL (RpI .u32) ρ q4 q2 ∧ St w0 w (vec 159 (RpI .u32).sz (.slice q5 q9.length c_u0_s) q9.length q2 :: ro ρ :: l)) fuel ⟨q0h, 0, 0, q9, hLL2, rfl, rfl, rfl, rfl, rfl, q0n, ((hS.pull 1).pull 1)⟩ ?_
  rintro kL2 E w ⟨q2, q0b, q7, q4, hLL2, q0j, q0f, q0t, q0k, q0g, q6, hS⟩
  replace hLL2 := lp_s hLL2; obtain ⟨kL2, obL2, rfl, hFL2, hLL2⟩ := hLL2
  refine x_seq <| x_region <| p (yl_lss q0g q0k) <| x_done <|
   x_seq <|
   x_cond_p (q7 < (q0d.toNat : Int)) rfl (fun hc9 => ?_) (fun hc9 => ?_)
  ·replace hFL2 := it_t hc9 hFL2
   replace hFL2 := ck_s hFL2; obtain ⟨q10, hFL2⟩ := hFL2
   replace hFL2 := ck_s hFL2; obtain ⟨q0u, hFL2⟩ := hFL2
   replace hFL2 := lv_s hFL2; obtain ⟨x15, hx15, hFL2⟩ := hFL2
   replace hFL2 := lv_s hFL2; obtain ⟨x16, hx16, hFL2⟩ := hFL2
   replace hFL2 := lv_s hFL2; obtain ⟨x17, hx17, hFL2⟩ := hFL2
   refine x_skip <| x_seq <| x_block <| x_seq <|
    x_region <| p (yl_move q0g) <| p (yl_assign rfl) <| x_done <|
    x_seq <| x_region <| p (yl_move q0t) <| p (yl_move q0j) <|
    p (yl_move rfl) <| p (yixw sl_77 rfl rfl q10) <| pa (at_load one_159 rfl (RepL.getW q6 hS q0u hx15)) <| p (yconvu wm_u64 uk_159 ik_158 rfl hx16) <|
    p (yaddu wm_u64 rfl rfl hx17) <| p (yl_assign rfl) <| x_done <| x_seq <|
    x_seq <| x_region <| p (yl_move rfl) <| p (yl_move q0f) <|
    p (yl_len_slice usl_77 rfl) <| p (yl_lss rfl rfl) <| x_done <| ?_
   replace hFL2 := bd_s hFL2; obtain ⟨oc21, hFc21, hFL2⟩ := hFL2
   refine x_join (fun E w => ∃ (q0c : Int), q0c = oc21 ∧ E 0 = .slice (some ((adr q5).add (q0i.toNat * (RpI .u32).sz))) q0d.toNat cw_u0 ∧ E 1 = .slice q0m v1.length c_v1 ∧ E 4 = .int .u64 q0c ∧ E 5 = .int .i64 q7 ∧ E 7 = .int .i64 (q0d.toNat : Int) ∧ E 8 = .int .i64 q7 ∧ St w0 w (vec 159 (RpI .u32).sz (.slice q5 q9.length c_u0_s) q9.length q2 :: ro ρ :: l)) ?_ ?_
   ·refine x_cond_p (q7 < (v1.length : Int)) rfl (fun hc21 => ?_) (fun hc21 => ?_)
    ·replace hFc21 := it_t hc21 hFc21
     replace hFc21 := ck_s hFc21; obtain ⟨q0r, hFc21⟩ := hFc21
     replace hFc21 := lv_s hFc21; obtain ⟨x26, hx26, hFc21⟩ := hFc21
     replace hFc21 := lv_s hFc21; obtain ⟨x27, hx27, hFc21⟩ := hFc21
     replace hFc21 := lv_s hFc21; obtain ⟨x28, hx28, hFc21⟩ := hFc21
     refine x_region <| p (yl_move rfl) <| p (yl_move q0f) <| p (yl_move rfl) <|
      p (yix_f sl_77 rfl rfl q0q q0r) <| pa (at_load one_159 rfl (RdS.getW q0q (hS.pull 1) q0r hx26)) <| p (yconvu wm_u64 uk_159 ik_158 rfl hx27) <| p (yaddu wm_u64 rfl rfl hx28) <|
      p (yl_assign rfl) <| x_done <| ?_
     exact x_inv ⟨x28, (Option.some.inj (show some _ = some _ from hFc21)), q0j, q0f, rfl, rfl, q0k, q0g, ((hS.pull 1).pull 1)⟩
    ·replace hFc21 := it_f hc21 hFc21
     refine x_skip <| ?_
     exact x_inv ⟨x17, (Option.some.inj (show some _ = some _ from hFc21)), q0j, q0f, rfl, rfl, q0k, q0g, ((hS.pull 1).pull 1)⟩
   rintro E w ⟨q0c, rfl, q0o, q0v, q0p, q0w, q0x, q0y, hS⟩
   replace hFL2 := lv_s hFL2; obtain ⟨x32, hx32, hFL2⟩ := hFL2
   replace hFL2 := ck_s hFL2; obtain ⟨q11, hFL2⟩ := hFL2
   replace hFL2 := ck_s hFL2; obtain ⟨q0z, hFL2⟩ := hFL2
   refine x_seq <| x_region <| p (yl_move q0o) <| p (yl_move q0w) <|
    p (yl_move q0p) <| p (yconvu wm_u32 uk_158 ik_159 rfl hx32) <| p (yixw sl_77 rfl rfl q11) <| ?_
   replace hFL2 := lv_s hFL2; obtain ⟨q16, q12, hFL2⟩ := hFL2
   refine o_put' (news := [.int .u32 x32]) sz_159 rfl rfl rfl rfl (o := 0) rfl q0z rfl hS q6 (Le.refl _) (fun c hc => ok_all hc (show (RpI .u32).ok ρ [.int .u32 x32] x32 from rfl)) q12 (fun q13 w' q14 hS => ?_)
   replace hFL2 := ck_s hFL2; obtain ⟨q15, hFL2⟩ := hFL2
   replace hFL2 := lv_s hFL2; obtain ⟨x35, hx35, hFL2⟩ := hFL2
   replace hFL2 := ar_s hFL2; obtain ⟨x36, hx36, hFL2⟩ := hFL2
   refine x_done <| x_region <| p (yl_move q0p) <| p (yshr rfl rfl q15 hx35) <|
    p (yl_assign rfl) <| x_done <| x_blk <| x_region <|
    p (yadd q0y rfl hx36) <| p (yl_move rfl) <| x_done <| ?_
   have e_ := Option.some.inj (show some _ = some _ from hFL2); subst e_
   exact x_inv ⟨kL2, Nat.lt_succ_self _, q13, x35, x36, q16, hLL2, q0o, q0v, rfl, q0x, rfl, q14, ((hS.pull 1).pull 1)⟩
  ·replace hFL2 := it_f hc9 hFL2
   refine x_exitTo _ rfl <| ?_
   have e_ := Option.some.inj (show some _ = some _ from hFL2); subst e_
   exact x_inv ⟨q2, q4, hLL2, q6, ((hS.pull 1).pull 1)⟩
 rintro E w ⟨q3, q0a, rfl, q0l, hS⟩
 have e_ := Option.some.inj (show some _ = some _ from hF); subst e_
 exact x_fin ⟨_, rfl, q3, rfl, q0l, ((hS.pull 1).pull 1)⟩
attribute [irreducible] P_exact_give

def P_exact_divMag_L15 (x52 : List Int) (q5 : List Int) (q4 : Int) : (Int × Int) → Option ((Int × Int) ⊕ Int) := fun (q2, q3) =>
 ck (0 ≤ (32 : Int)) <|
 lv (shr .u64 q2 32) fun x101 =>
 ck ((!(decide (x101 ≠ 0))) = true → I64 ((x52.length : Int) - 2)) <|
 lv ((x52.length : Int) - 2) fun x107 =>
 ck ((!(decide (x101 ≠ 0))) = true → inb x107 x52.length) <|
 lv (gt x52 x107) fun x109 =>
 lv (x109 % 18446744073709551616) fun x110 =>
 lv ((q2 * x110) % 18446744073709551616) fun x111 =>
 ck ((!(decide (x101 ≠ 0))) = true → 0 ≤ (32 : Int)) <|
 lv (shl .u64 q3 32) fun x113 =>
 ck ((!(decide (x101 ≠ 0))) = true → I64 (q4 + (x52.length : Int))) <|
 lv (q4 + (x52.length : Int)) fun x117 =>
 ck ((!(decide (x101 ≠ 0))) = true → I64 (x117 - 2)) <|
 lv (x117 - 2) fun x118 =>
 ck ((!(decide (x101 ≠ 0))) = true → inb x118 q5.length) <|
 lv (gt q5 x118) fun x120 =>
 lv (x120 % 18446744073709551616) fun x121 =>
 lv (bOr .u64 x113 x121) fun x122 =>
 lv ((decide (x101 ≠ 0)) || (decide (x122 < x111))) fun x124 =>
 if x124 = true then
  lv ((q2 - 1) % 18446744073709551616) fun x126 =>
  ar ((x52.length : Int) - 1) fun x130 =>
  ck (inb x130 x52.length) <|
  lv (gt x52 x130) fun x132 =>
  lv (x132 % 18446744073709551616) fun x133 =>
  lv ((q3 + x133) % 18446744073709551616) fun x134 =>
  ck (0 ≤ (32 : Int)) <|
  lv (shr .u64 x134 32) fun x136 =>
  if x136 ≠ 0 then
   some (Sum.inr x126)
  else
   some (Sum.inl (x126, x134))
 else
  some (Sum.inr q2)
def P_exact_divMag_L11 (x52 : List Int) : (List Int × List Int × Int) → Option ((List Int × List Int × Int) ⊕ (List Int × List Int)) := fun (q3, q5, q2) =>
 if 0 ≤ q2 then
  ar (q2 + (x52.length : Int)) fun x70 =>
  ck (inb x70 q3.length) <|
  lv (gt q3 x70) fun x72 =>
  lv (x72 % 18446744073709551616) fun x73 =>
  ck (0 ≤ (32 : Int)) <|
  lv (shl .u64 x73 32) fun x74 =>
  ar (q2 + (x52.length : Int)) fun x78 =>
  ar (x78 - 1) fun x79 =>
  ck (inb x79 q3.length) <|
  lv (gt q3 x79) fun x81 =>
  lv (x81 % 18446744073709551616) fun x82 =>
  lv (bOr .u64 x74 x82) fun x83 =>
  ar ((x52.length : Int) - 1) fun x87 =>
  ck (inb x87 x52.length) <|
  lv (gt x52 x87) fun x89 =>
  lv (x89 % 18446744073709551616) fun x90 =>
  ck (x90 ≠ 0) <|
  lv ((Int.tdiv x83 x90) % 18446744073709551616) fun x91 =>
  ar ((x52.length : Int) - 1) fun x95 =>
  ck (inb x95 x52.length) <|
  lv (gt x52 x95) fun x97 =>
  lv (x97 % 18446744073709551616) fun x98 =>
  ck (x98 ≠ 0) <|
  lv (Int.tmod x83 x98) fun x99 =>
  bd (
   lp (P_exact_divMag_L15 x52 q3 q2) fuel (x91, x99)) fun q4 =>
  ar (q2 + (x52.length : Int)) fun x142 =>
  ar (x142 + 1) fun x143 =>
  ck (inb q2 q3.length ∧ q2 ≤ x143 ∧ x143 ≤ q3.length) <|
  lv (x143 - q2) fun m144 =>
  bd (P_exact_take q3 q2 m144 x52 q4) fun q6 =>
  bd (
   if q6.1 = true then
    lv ((q4 - 1) % 18446744073709551616) fun x149 =>
    ar (q2 + (x52.length : Int)) fun x154 =>
    ar (x154 + 1) fun x155 =>
    ck (inb q2 q6.2.length ∧ q2 ≤ x155 ∧ x155 ≤ q6.2.length) <|
    lv (x155 - q2) fun m156 =>
    bd (P_exact_give q6.2 q2 m156 x52) fun q9 =>
    some (q9, x149)
   else
    some (q6.2, q4)) fun (q8, q7) =>
  lv (q7 % 4294967296) fun x162 =>
  ck (inb q2 q5.length) <|
  lv (stt q5 q2 x162) fun q0a =>
  ar (q2 - 1) fun x66 =>
  some (Sum.inl (q8, q0a, x66))
 else
  some (Sum.inr (q3, q5))
def P_exact_divMag_L24 (q4 : Int) (x52 : List Int) : (List Int × Int) → Option ((List Int × Int) ⊕ List Int) := fun (q3, q2) =>
 if q2 < (x52.length : Int) then
  ck (inb q2 q3.length) <|
  lv (gt q3 q2) fun x173 =>
  ck (0 ≤ q4) <|
  lv (shr .u32 x173 q4) fun x175 =>
  ar (q2 + 1) fun x178 =>
  ck (inb x178 q3.length) <|
  lv (gt q3 x178) fun x180 =>
  lv (x180 % 18446744073709551616) fun x181 =>
  ck (0 ≤ (32 : Int)) <|
  lv (shl .u64 x181 32) fun x182 =>
  ck (0 ≤ q4) <|
  lv (shr .u64 x182 q4) fun x184 =>
  lv (x184 % 4294967296) fun x185 =>
  lv (bOr .u32 x175 x185) fun x186 =>
  ck (inb q2 q3.length) <|
  lv (stt q3 q2 x186) fun q5 =>
  ar (q2 + 1) fun x188 =>
  some (Sum.inl (q5, x188))
 else
  some (Sum.inr q3)
def P_exact_divMag (a0 : List Int) (b1 : List Int) : Option (List Int × List Int) :=
 bd (P_exact_cmpMag a0 b1) fun q0a =>
 if q0a < 0 then
  some ([], a0)
 else
  if (b1.length : Int) = 1 then
   ck (inb 0 b1.length) <|
   lv (gt b1 (0 : Int)) fun x30 =>
   bd (P_exact_divSmall a0 x30) fun q5 =>
   some (q5.1, ([q5.2] : List Int))
  else
   ar ((b1.length : Int) - 1) fun x40 =>
   ck (inb x40 b1.length) <|
   lv (gt b1 x40) fun x42 =>
   bd (P_math_bits_LeadingZeros32 x42) fun q3 =>
   bd (P_exact_shifted a0 q3) fun q6 =>
   bd (P_exact_shifted b1 q3) fun q7 =>
   ck (0 ≤ (0 : Int) ∧ (0 : Int) ≤ (b1.length : Int) ∧ (b1.length : Int) ≤ q7.length) <|
   lv (sub q7 0 (b1.length : Int)) fun x52 =>
   ar ((q6.length : Int) - (x52.length : Int)) fun x58 =>
   ck (mkOk 4 x58) <|
   lv ((List.replicate (x58 : Int).toNat 0 : List Int)) fun q8 =>
   ar ((q8.length : Int) - 1) fun x62 =>
   bd (
    lp (P_exact_divMag_L11 x52) fuel (q6, q8, x62)) fun (q9, q4) =>
   bd (
    lp (P_exact_divMag_L24 q3 x52) fuel (q9, 0)) fun q2 =>
   ck (0 ≤ (0 : Int) ∧ (0 : Int) ≤ (x52.length : Int) ∧ (x52.length : Int) ≤ q2.length) <|
   lv (sub q2 0 (x52.length : Int)) fun x192 =>
   some (q4, x192)
set_option maxHeartbeats 4000000 in
set_option maxRecDepth 100000 in
theorem c_exact_divMag {w0 w : World} {l : List Assn} {ρ : Heap} {q1u : Option Addr} {q48 : Nat} {c_a0 : Nat} {q17 : Option Addr} {q49 : Nat} {c_b1 : Nat} {a0 : List Int} {b1 : List Int} {r : (List Int × List Int)} (hF : P_exact_divMag a0 b1 = some r) (q2d : RdS (RpI .u32) ρ q1u q48 c_a0 a0) (q1n : RdS (RpI .u32) ρ q17 q49 c_b1 b1) (hS : St w0 w (ro ρ :: l)) :
  Calls Try.prog 130 #[.slice q1u q48 c_a0, .slice q17 q49 c_b1] w fun e w' => ∃ (ρ' : Heap) (q2e : Option Addr) (q1o : Nat) (c_y0_ret : Nat) (q28 : List Value) (q2f : Option Addr) (q2g : Nat) (c_y1_ret : Nat), e = .returned (.tuple #[.slice q2e q1o c_y0_ret, .slice q2f q2g c_y1_ret]) ∧ Le ρ ρ' ∧ RepL (RpI .u32) ρ' r.1 q28 ∧ RdS (RpI .u32) ρ' q2f q2g c_y1_ret r.2 ∧ St w0 w' (vec 159 (RpI .u32).sz (.slice q2e q1o c_y0_ret) q1o q28 :: ro ρ' :: l) := by
 have e_ := q2d.n; subst e_
 have e_ := q1n.n; subst e_
 refine enterC Try.func130 rfl 193 rfl (by simp) ?_
 replace hF := bd_s hF; obtain ⟨q53, q4u, hF⟩ := hF
 refine x_seq <| x_region <| p (yl_assign rfl) <| p (yl_assign rfl) <|
  x_done <| x_seq <| x_seq <| x_region <|
  p (yl_move rfl) <| p (yl_move rfl) <| ?_
 have hcall := c_exact_cmpMag q4u q2d q1n hS
 refine o_cc call_91 (args2 rfl rfl) (hcall) ?_
 rintro e w' ⟨rfl, hS⟩
 refine ⟨_, rfl, ?_⟩
 refine p (yl_lss rfl rfl) <| x_done <|
  x_cond_p (q53 < 0) rfl (fun hc21 => ?_) (fun hc21 => ?_)
 ·replace hF := it_t hc21 hF
  refine x_seq <| x_region <| p (yl_move rfl) <| p (yl_assign rfl) <|
   p (yl_assign rfl) <| x_done <| ?_
  replace hS := St.vec_nil hS 159 (RpI .u32).sz
  have q2a : RepL (RpI .u32) ρ [] [] := rfl
  have e_ := Option.some.inj (show some _ = some _ from hF); subst e_
  exact x_return ⟨_, ⟨_, _, rfl, rfl, _, _, rfl, rfl, rfl⟩, ρ, none, 0, 0, [], q1u, a0.length, c_a0, rfl, (Le.refl _), q2a, q2d, ((hS.pull 1).pull 1)⟩
 ·replace hF := it_f hc21 hF
  refine x_skip <| x_seq <| x_seq <| x_region <|
   p (yl_move rfl) <| p (yl_len_slice usl_77 rfl) <| p (yl_eql rfl rfl) <| x_done <|
   x_cond_p ((b1.length : Int) = 1) rfl (fun hc25 => ?_) (fun hc25 => ?_)
  ·replace hF := it_t hc25 hF
   replace hF := ck_s hF; obtain ⟨q3q, hF⟩ := hF
   replace hF := lv_s hF; obtain ⟨x30, hx30, hF⟩ := hF
   replace hF := bd_s hF; obtain ⟨q1p, q4v, hF⟩ := hF
   refine x_seq <| x_region <| p (yl_move rfl) <| p (yl_move rfl) <|
    p (yix_f sl_77 rfl rfl q1n q3q) <| pa (at_load one_159 rfl (RdS.getW q1n hS q3q hx30)) <| ?_
   have hcall := c_exact_divSmall q4v q2d hS
   refine o_cc call_98 (args2 rfl rfl) hcall ?_
   rintro e w' ⟨q2h, q4a, c_y0_ret_4_4, q2b, rfl, q18, hS⟩
   refine ⟨_, rfl, ?_⟩
   have e_ := St.vec_n hS q18; subst e_
   refine p (yl_move rfl) <| p (yl_extract rfl rfl) <| p (yl_extract rfl rfl) <| p (yl_assign rfl) <|
    p (yl_assign rfl) <| x_done <| x_seq <| x_region <|
    p (yl_move rfl) <| p (yl_move rfl) <| ?_
   refine o_buildSlice (vs := [.int .u32 q1p.2]) (cs := [.int .u32 q1p.2]) sl_77 zero_159 (parts_eq (pt (va := .int .u32 q1p.2) rfl pt0)) rfl (by intro v hv; simp only [List.mem_cons, List.not_mem_nil, or_false] at hv; first | (subst hv; rfl) | (rcases hv with rfl <;> rfl)) (by decide) rfl hS (fun b36 w' hS => ?_)
   refine p (yl_assign rfl) <| p (yl_assign rfl) <| x_done <| ?_
   have q3k : RepL (RpI .u32) ρ ([q1p.2] : List Int) [.int .u32 q1p.2] := (RepL.cons (cs := [.int .u32 q1p.2]) rfl RepL.nil)
   replace hS := St.vec_of (n := 1) (sz := (RpI .u32).sz) hS rfl (by decide)
   have q_ := St.vec_fz ((hS.pull 2).pull 1) q3k; obtain ⟨q36, q1m, q37, hS⟩ := q_
   have e_ := Option.some.inj (show some _ = some _ from hF); subst e_
   exact x_return ⟨_, ⟨_, _, rfl, rfl, _, _, rfl, rfl, rfl⟩, q36, q2h, q1p.1.length, c_y0_ret_4_4, q2b, (some ⟨b36, 0, none⟩), 1, 1, rfl, q1m, (q18.le q1m), q37, (hS.pull 1)⟩
  ·replace hF := it_f hc25 hF
   replace hF := ar_s hF; obtain ⟨x40, hx40, hF⟩ := hF
   replace hF := ck_s hF; obtain ⟨q3r, hF⟩ := hF
   replace hF := lv_s hF; obtain ⟨x42, hx42, hF⟩ := hF
   replace hF := bd_s hF; obtain ⟨q0e, q4w, hF⟩ := hF
   refine x_skip <| x_seq <| x_region <| p (yl_move rfl) <|
    p (yl_move rfl) <| p (yl_len_slice usl_77 rfl) <| p (ysub rfl rfl hx40) <| p (yix_f sl_77 rfl rfl q1n q3r) <|
    pa (at_load one_159 rfl (RdS.getW q1n hS q3r hx42)) <| ?_
   have hcall := c_math_bits_LeadingZeros32 q4w  hS
   refine o_cc call_146 (args1 rfl) (hcall) ?_
   rintro e w' ⟨rfl, hS⟩
   refine ⟨_, rfl, ?_⟩
   refine p (v := .int .i64 q0e) (yl_assign rfl) <| x_done <| x_seq <| ?_
   replace hF := bd_s hF; obtain ⟨q5, q4x, hF⟩ := hF
   replace hF := bd_s hF; obtain ⟨q0f, q4y, hF⟩ := hF
   replace hF := ck_s hF; obtain ⟨q3s, hF⟩ := hF
   replace hF := lv_s hF; obtain ⟨x52, hx52, hF⟩ := hF
   refine x_par (w0 := w0) [⟨[], [], [44], [], [], []⟩, ⟨[], [], [45], [], [], []⟩, ⟨[0, 1], [0, 1], [46], [0], [], [1]⟩, ⟨[], [], [47], [], [], []⟩, ⟨[], [], [48], [], [], []⟩, ⟨[0, 1, 2, 3, 4], [3, 4], [49], [0], [], [2]⟩, ⟨[], [], [50], [], [], []⟩, ⟨[6], [6], [51], [], [], []⟩, ⟨[0, 1, 2, 3, 4, 5, 6, 7], [5, 7], [52], [0], [2], [3]⟩, ⟨[0, 1, 2, 3, 4, 5], [2], [9, 46], [], [], []⟩, ⟨[0, 1, 2, 3, 4, 5, 6, 7, 8, 9], [8], [10, 52], [], [], []⟩] [⟨none, none, []⟩, ⟨(some 2), none, [46]⟩, ⟨(some 5), (some 8), [49]⟩, ⟨(some 8), none, [49, 52]⟩] [9, 10, 44, 45, 46, 47, 48, 49, 50, 51, 52] [0] [0, 1, 3] [0, 1, 2, 3, 4, 5, 6, 7, 8, 9, 10] [fun Ep7 => Ep7 44 = .slice q1u a0.length c_a0, fun Ep7 => Ep7 45 = .int .i64 q0e, fun Ep7 => Ep7 46 = .slice (adOf (Ep7 46)) q5.length (capOf (Ep7 46)), fun Ep7 => Ep7 47 = .slice q17 b1.length c_b1, fun Ep7 => Ep7 48 = .int .i64 q0e, fun Ep7 => Ep7 49 = .slice (adOf (Ep7 49)) q0f.length (capOf (Ep7 49)), fun Ep7 => Ep7 50 = .slice q17 b1.length c_b1, fun Ep7 => Ep7 51 = .int .i64 (b1.length : Int), fun Ep7 => Ep7 52 = .slice (adOf (Ep7 52)) x52.length (capOf (Ep7 52)), fun Ep7 => Ep7 9 = .slice (adOf (Ep7 46)) q5.length (capOf (Ep7 46)), fun Ep7 => Ep7 10 = .slice (adOf (Ep7 52)) x52.length (capOf (Ep7 52))] [fun Ep7 => ro ρ, fun Ep7 => bunA (fun (q2 : List Value) => RepL (RpI .u32) ρ q5 q2) (fun (q2 : List Value) => [vec 159 (RpI .u32).sz (.slice (adOf (Ep7 46)) q5.length (capOf (Ep7 46))) q5.length q2]), fun Ep7 => bunA (fun (q4 : List Value) => RepL (RpI .u32) ρ q0f q4) (fun (q4 : List Value) => [vec 159 (RpI .u32).sz (.slice (adOf (Ep7 49)) q0f.length (capOf (Ep7 49))) q0f.length q4]), fun Ep7 => bunA (fun (q7 : Heap) => Le ρ q7 ∧ RdS (RpI .u32) q7 (adOf (Ep7 49)) q0f.length (capOf (Ep7 49)) q0f ∧ RdS (RpI .u32) q7 (adOf (Ep7 52)) x52.length (capOf (Ep7 52)) x52) (fun (q7 : Heap) => [roD ρ q7])] mixed (by kernel_rfl) hS ?_ ?_
   ·refine ⟨?_, ?_, ?_, ?_, ?_, ?_, ?_, ?_, ?_, ?_, ?_, trivial⟩
    ·intro Ep7 w l' hE7 hO7 hF_ hS
     refine p (yl_move (hE7 0 rfl)) <| x_done <| ?_
     refine x_fin ⟨⟨_, rfl⟩, rfl, ?_⟩
     exact Eq.mp (by kernel_rfl) hS
    ·intro Ep7 w l' hE7 hO7 hF_ hS
     refine p (v := .int .i64 q0e) (yl_move (hE7 8 rfl)) <| x_done <| ?_
     refine x_fin ⟨⟨_, rfl⟩, rfl, ?_⟩
     exact Eq.mp (by kernel_rfl) hS
    ·intro Ep7 w l' hE7 hO7 hF_ hS
     obtain ⟨q1v, q1w, -⟩ := hF_
     replace q1v : Ep7 44 = .slice q1u a0.length c_a0 := Eq.mp (by kernel_rfl) q1v
     replace q1w : Ep7 45 = .int .i64 q0e := Eq.mp (by kernel_rfl) q1w
     replace hS : St w0 w (ro ρ :: l') := Eq.mp (by kernel_rfl) hS
     have hcall := c_exact_shifted q4x q2d hS
     refine o_cc call_147 (args2 q1v q1w) hcall ?_
     rintro e w' ⟨q2i, q4b, c_y0_ret_7_2, q2, rfl, q0k, hS⟩
     refine ⟨_, rfl, ?_⟩
     have e_ := St.vec_n hS q0k; subst e_
     refine x_done <| ?_
     refine x_fin ⟨⟨_, rfl⟩, rfl, ?_⟩
     replace hS := St.bun (Φ := (fun (q2 : List Value) => RepL (RpI .u32) ρ q5 q2)) (L := (fun (q2 : List Value) => [vec 159 (RpI .u32).sz (.slice q2i q5.length c_y0_ret_7_2) q5.length q2])) q2 q0k hS
     exact Eq.mp (by kernel_rfl) (hS.pull 1)
    ·intro Ep7 w l' hE7 hO7 hF_ hS
     refine p (yl_move (hE7 1 rfl)) <| x_done <| ?_
     refine x_fin ⟨⟨_, rfl⟩, rfl, ?_⟩
     exact Eq.mp (by kernel_rfl) hS
    ·intro Ep7 w l' hE7 hO7 hF_ hS
     refine p (v := .int .i64 q0e) (yl_move (hE7 8 rfl)) <| x_done <| ?_
     refine x_fin ⟨⟨_, rfl⟩, rfl, ?_⟩
     exact Eq.mp (by kernel_rfl) hS
    ·intro Ep7 w l' hE7 hO7 hF_ hS
     obtain ⟨q1x, q1y, -⟩ := hF_
     replace q1x : Ep7 47 = .slice q17 b1.length c_b1 := Eq.mp (by kernel_rfl) q1x
     replace q1y : Ep7 48 = .int .i64 q0e := Eq.mp (by kernel_rfl) q1y
     replace hS : St w0 w (ro ρ :: l') := Eq.mp (by kernel_rfl) hS
     have hcall := c_exact_shifted q4y q1n hS
     refine o_cc call_147 (args2 q1x q1y) hcall ?_
     rintro e w' ⟨q2j, q4c, c_y0_ret_7_5, q4, rfl, q0l, hS⟩
     refine ⟨_, rfl, ?_⟩
     have e_ := St.vec_n hS q0l; subst e_
     refine x_done <| ?_
     refine x_fin ⟨⟨_, rfl⟩, rfl, ?_⟩
     replace hS := St.bun (Φ := (fun (q4 : List Value) => RepL (RpI .u32) ρ q0f q4)) (L := (fun (q4 : List Value) => [vec 159 (RpI .u32).sz (.slice q2j q0f.length c_y0_ret_7_5) q0f.length q4])) q4 q0l hS
     exact Eq.mp (by kernel_rfl) (hS.pull 1)
    ·intro Ep7 w l' hE7 hO7 hF_ hS
     refine p (yl_move (hE7 1 rfl)) <| x_done <| ?_
     refine x_fin ⟨⟨_, rfl⟩, rfl, ?_⟩
     exact Eq.mp (by kernel_rfl) hS
    ·intro Ep7 w l' hE7 hO7 hF_ hS
     obtain ⟨q1z, -⟩ := hF_
     replace q1z : Ep7 50 = .slice q17 b1.length c_b1 := Eq.mp (by kernel_rfl) q1z
     refine p (yl_len_slice usl_77 q1z) <| x_done <| ?_
     refine x_fin ⟨⟨_, rfl⟩, rfl, ?_⟩
     exact Eq.mp (by kernel_rfl) hS
    ·intro Ep7 w l' hE7 hO7 hF_ hS
     obtain ⟨q20, q21, -⟩ := hF_
     replace q20 : Ep7 49 = .slice (adOf (Ep7 49)) q0f.length (capOf (Ep7 49)) := Eq.mp (by kernel_rfl) q20
     replace q21 : Ep7 51 = .int .i64 (b1.length : Int) := Eq.mp (by kernel_rfl) q21
     replace hS : St w0 w (ro ρ :: bunA (fun (q4 : List Value) => RepL (RpI .u32) ρ q0f q4) (fun (q4 : List Value) => [vec 159 (RpI .u32).sz (.slice (adOf (Ep7 49)) q0f.length (capOf (Ep7 49))) q0f.length q4]) :: l') := Eq.mp (by kernel_rfl) hS
     have q_ := St.unbun (hS.pull 1); obtain ⟨q4, q0l, hS⟩ := q_
     have q_ := St.vec_fz ((hS.pull 1).pull 1) q0l; obtain ⟨q7, q2r, q31, hS⟩ := q_
     have q_ := RdS.sub q31 q3s hx52; obtain ⟨A52, n52, c52, hd52, f52⟩ := q_
     refine p (ysub_h sl_77 q20 q21 q3s hd52) <| ?_
     have e_ := f52.n; subst e_
     refine x_done <| ?_
     refine x_fin ⟨⟨_, rfl⟩, rfl, ?_⟩
     replace hS := St.ro_split q2r hS
     replace hS := St.bun (Φ := (fun (q7 : Heap) => Le ρ q7 ∧ RdS (RpI .u32) q7 (adOf (Ep7 49)) q0f.length (capOf (Ep7 49)) q0f ∧ RdS (RpI .u32) q7 A52 x52.length c52 x52)) (L := (fun (q7 : Heap) => [roD ρ q7])) q7 ⟨q2r, q31, f52⟩ (hS.pull 1)
     exact Eq.mp (by kernel_rfl) (hS.pull 1)
    ·intro Ep7 w l' hE7 hO7 hF_ hS
     obtain ⟨q22, -⟩ := hF_
     replace q22 : Ep7 46 = .slice (adOf (Ep7 46)) q5.length (capOf (Ep7 46)) := Eq.mp (by kernel_rfl) q22
     refine p (yl_assign q22) <| x_done <| ?_
     refine x_fin ⟨⟨_, rfl⟩, rfl, ?_⟩
     exact Eq.mp (by kernel_rfl) hS
    ·intro Ep7 w l' hE7 hO7 hF_ hS
     obtain ⟨q23, -⟩ := hF_
     replace q23 : Ep7 52 = .slice (adOf (Ep7 52)) x52.length (capOf (Ep7 52)) := Eq.mp (by kernel_rfl) q23
     refine p (yl_assign q23) <| x_done <| ?_
     refine x_fin ⟨⟨_, rfl⟩, rfl, ?_⟩
     exact Eq.mp (by kernel_rfl) hS
   intro Ep7 w' hE7 hF_ hS
   obtain ⟨q1v, q1w, q22, q1x, q1y, q20, q1z, q21, q23, q32, q2c, -⟩ := hF_
   replace q1v : Ep7 44 = .slice q1u a0.length c_a0 := Eq.mp (by kernel_rfl) q1v
   replace q1w : Ep7 45 = .int .i64 q0e := Eq.mp (by kernel_rfl) q1w
   replace q22 : Ep7 46 = .slice (adOf (Ep7 46)) q5.length (capOf (Ep7 46)) := Eq.mp (by kernel_rfl) q22
   replace q1x : Ep7 47 = .slice q17 b1.length c_b1 := Eq.mp (by kernel_rfl) q1x
   replace q1y : Ep7 48 = .int .i64 q0e := Eq.mp (by kernel_rfl) q1y
   replace q20 : Ep7 49 = .slice (adOf (Ep7 49)) q0f.length (capOf (Ep7 49)) := Eq.mp (by kernel_rfl) q20
   replace q1z : Ep7 50 = .slice q17 b1.length c_b1 := Eq.mp (by kernel_rfl) q1z
   replace q21 : Ep7 51 = .int .i64 (b1.length : Int) := Eq.mp (by kernel_rfl) q21
   replace q23 : Ep7 52 = .slice (adOf (Ep7 52)) x52.length (capOf (Ep7 52)) := Eq.mp (by kernel_rfl) q23
   replace q32 : Ep7 9 = .slice (adOf (Ep7 46)) q5.length (capOf (Ep7 46)) := Eq.mp (by kernel_rfl) q32
   replace q2c : Ep7 10 = .slice (adOf (Ep7 52)) x52.length (capOf (Ep7 52)) := Eq.mp (by kernel_rfl) q2c
   replace hS : St w0 w' (ro ρ :: bunA (fun (q2 : List Value) => RepL (RpI .u32) ρ q5 q2) (fun (q2 : List Value) => [vec 159 (RpI .u32).sz (.slice (adOf (Ep7 46)) q5.length (capOf (Ep7 46))) q5.length q2]) :: bunA (fun (q7 : Heap) => Le ρ q7 ∧ RdS (RpI .u32) q7 (adOf (Ep7 49)) q0f.length (capOf (Ep7 49)) q0f ∧ RdS (RpI .u32) q7 (adOf (Ep7 52)) x52.length (capOf (Ep7 52)) x52) (fun (q7 : Heap) => [roD ρ q7]) :: (l)) := Eq.mp (by kernel_rfl) hS
   have q_ := St.unbun (hS.pull 1); obtain ⟨q2, q0k, hS⟩ := q_
   have q_ := St.unbun (hS.pull 2); obtain ⟨q7, ⟨q38, q31, f52⟩, hS⟩ := q_
   have q_ := St.ro_join (hS.pull 2) (Le.refl _) q38; obtain ⟨q6, q2s, q0d, hS, q54⟩ := q_
   replace hF := ar_s hF; obtain ⟨x58, hx58, hF⟩ := hF
   refine x_seq <| x_region <| p (yl_move q2c) <| p (yl_len_slice usl_77 rfl) <|
    p (yl_assign rfl) <| x_done <| x_seq <| x_region <|
    p (yl_move q32) <| p (yl_len_slice usl_77 rfl) <| p (yl_move rfl) <| p (ysub rfl rfl hx58) <| ?_
   replace hF := ck_s hF; obtain ⟨q4z, hF⟩ := hF
   replace hF := lv_s hF; obtain ⟨q3, q50, hF⟩ := hF
   refine o_mk sl_77 zero_159 (show (RpI .u32).ok q6 _ 0 from rfl) rfl rfl q4z (by decide) q50 hS (fun A59 cs59 w' hr59 hS => ?_)
   replace hF := ar_s hF; obtain ⟨x62, hx62, hF⟩ := hF
   refine p (yl_assign rfl) <| x_done <| x_seq <| x_seq <|
    x_region <| p (yl_move rfl) <| p (yl_len_slice usl_77 rfl) <| p (ysub rfl rfl hx62) <|
    p (yl_assign rfl) <| x_done <| ?_
   replace hF := bd_s hF; obtain ⟨oL11, hLL11, hF⟩ := hF
   refine x_join (fun E w => ∃ (q0v : List Value) (q0b : List Value) (q1s : List Int) (q24 : List Int), (q1s, q24) = oL11 ∧ E 8 = .int .i64 q0e ∧ E 9 = .slice (adOf (Ep7 46)) q5.length (capOf (Ep7 46)) ∧ E 11 = .int .i64 (x52.length : Int) ∧ E 12 = .slice A59 q3.length q3.length ∧ RepL (RpI .u32) q6 q1s q0v ∧ RepL (RpI .u32) q6 q24 q0b ∧ St w0 w (vec 159 (RpI .u32).sz (.slice (adOf (Ep7 46)) q5.length (capOf (Ep7 46))) q5.length q0v :: vec 159 (RpI .u32).sz (.slice A59 q3.length q3.length) q3.length q0b :: ro q6 :: l)) ?_ ?_
   ·refine x_block ?_
    refine x_loop (fun k_ E w => ∃ (q0j : List Value) (q0a : List Value) (q0y : List Int) (q10 : List Int) (q8 : Int), lp (P_exact_divMag_L11 x52) k_ (q0y, q10, q8) = some oL11 ∧ E 8 = .int .i64 q0e ∧ E 9 = .slice (adOf (Ep7 46)) q5.length (capOf (Ep7 46)) ∧ E 10 = .slice (adOf (Ep7 52)) x52.length (capOf (Ep7 52)) ∧ E 11 = .int .i64 (x52.length : Int) ∧ E 12 = .slice A59 q3.length q3.length ∧ E 13 = .int .i64 q8 ∧ RepL (RpI .u32) q6 q0y q0j ∧ RepL (RpI .u32) q6 q10 q0a ∧ St w0 w (vec 159 (RpI .u32).sz (.slice (adOf (Ep7 46)) q5.length (capOf (Ep7 46))) q5.length q0j :: vec 159 (RpI .u32).sz (.slice A59 q3.length q3.length) q3.length q0a :: ro q6 :: l)) fuel ⟨q2, cs59, q5, q3, x62, hLL11, (hE7 8 rfl), q32, q2c, rfl, rfl, rfl, (q0k.le q2s), hr59, (((hS.pull 1).pull 1).pull 2)⟩ ?_
    rintro kL11 E w ⟨q0j, q0a, q0y, q10, q8, hLL11, q2t, q1d, q1q, q0m, q2k, q11, q9, q12, hS⟩
    replace hLL11 := lp_s hLL11; obtain ⟨kL11, obL11, rfl, hFL11, hLL11⟩ := hLL11
    refine x_seq <| x_seq <| x_region <| p (yl_move q11) <|
     p (yl_geq rfl rfl) <| x_done <|
     x_cond_p (0 ≤ q8) rfl (fun hc64 => ?_) (fun hc64 => ?_)
    ·replace hFL11 := it_t hc64 hFL11
     replace hFL11 := ar_s hFL11; obtain ⟨x70, hx70, hFL11⟩ := hFL11
     replace hFL11 := ck_s hFL11; obtain ⟨q39, hFL11⟩ := hFL11
     replace hFL11 := lv_s hFL11; obtain ⟨x72, hx72, hFL11⟩ := hFL11
     replace hFL11 := lv_s hFL11; obtain ⟨x73, hx73, hFL11⟩ := hFL11
     replace hFL11 := ck_s hFL11; obtain ⟨q4d, hFL11⟩ := hFL11
     replace hFL11 := lv_s hFL11; obtain ⟨x74, hx74, hFL11⟩ := hFL11
     replace hFL11 := ar_s hFL11; obtain ⟨x78, hx78, hFL11⟩ := hFL11
     replace hFL11 := ar_s hFL11; obtain ⟨x79, hx79, hFL11⟩ := hFL11
     replace hFL11 := ck_s hFL11; obtain ⟨q2u, hFL11⟩ := hFL11
     replace hFL11 := lv_s hFL11; obtain ⟨x81, hx81, hFL11⟩ := hFL11
     replace hFL11 := lv_s hFL11; obtain ⟨x82, hx82, hFL11⟩ := hFL11
     replace hFL11 := lv_s hFL11; obtain ⟨x83, hx83, hFL11⟩ := hFL11
     refine x_skip <| x_seq <| x_block <| x_seq <|
      x_still mixed (by kernel_rfl) hS <| q (yl_move q1d) <| q (yl_move q11) <| q (yl_move q0m) <|
      q (yadd rfl rfl hx70) <| q (yix_o sl_77 rfl rfl hS q9 q39) <| qa (fun w' hS => at_load one_159 rfl (RepL.getW q9 hS q39 hx72)) <| q (yconvu wm_u64 uk_159 ik_158 rfl hx73) <|
      q (yshl rfl rfl q4d hx74) <| q (yl_move q1d) <| q (yl_move q11) <| q (yl_move q0m) <|
      q (yadd rfl rfl hx78) <| q (ysub rfl rfl hx79) <| q (yix_o sl_77 rfl rfl hS q9 q2u) <| qa (fun w' hS => at_load one_159 rfl (RepL.getW q9 hS q2u hx81)) <|
      q (yconvu wm_u64 uk_159 ik_158 rfl hx82) <| q (yor rfl rfl hx83) <| q (yl_assign rfl) <|
      q_done fun w' hS => ?_
     replace hFL11 := ar_s hFL11; obtain ⟨x87, hx87, hFL11⟩ := hFL11
     replace hFL11 := ck_s hFL11; obtain ⟨q3a, hFL11⟩ := hFL11
     replace hFL11 := lv_s hFL11; obtain ⟨x89, hx89, hFL11⟩ := hFL11
     replace hFL11 := lv_s hFL11; obtain ⟨x90, hx90, hFL11⟩ := hFL11
     replace hFL11 := ck_s hFL11; obtain ⟨q4e, hFL11⟩ := hFL11
     replace hFL11 := lv_s hFL11; obtain ⟨x91, hx91, hFL11⟩ := hFL11
     replace hFL11 := ar_s hFL11; obtain ⟨x95, hx95, hFL11⟩ := hFL11
     replace hFL11 := ck_s hFL11; obtain ⟨q2v, hFL11⟩ := hFL11
     replace hFL11 := lv_s hFL11; obtain ⟨x97, hx97, hFL11⟩ := hFL11
     replace hFL11 := lv_s hFL11; obtain ⟨x98, hx98, hFL11⟩ := hFL11
     replace hFL11 := ck_s hFL11; obtain ⟨q3u, hFL11⟩ := hFL11
     replace hFL11 := lv_s hFL11; obtain ⟨x99, hx99, hFL11⟩ := hFL11
     refine x_seq <| x_still mixed (by kernel_rfl) hS <| q (yl_move rfl) <| q (yl_move q1q) <|
      q (yl_move q0m) <| q (ysub rfl rfl hx87) <| q (yix_f sl_77 rfl rfl (f52.le q0d) q3a) <| qa (fun w' hS => at_load one_159 rfl (RdS.getW (f52.le q0d) (hS.pull 2) q3a hx89)) <|
      q (yconvu wm_u64 uk_159 ik_158 rfl hx90) <| q (yquou wm_u64 rfl rfl q4e hx91) <| q (yl_move rfl) <| q (yl_move q1q) <|
      q (yl_move q0m) <| q (ysub rfl rfl hx95) <| q (yix_f sl_77 rfl rfl (f52.le q0d) q2v) <| qa (fun w' hS => at_load one_159 rfl (RdS.getW (f52.le q0d) (hS.pull 2) q2v hx97)) <|
      q (yconvu wm_u64 uk_159 ik_158 rfl hx98) <| q (yrem rfl rfl q3u hx99) <| q (yl_assign rfl) <| q (yl_assign rfl) <|
      q_done fun w' hS => ?_
     refine x_seq <| ?_
     replace hFL11 := bd_s hFL11; obtain ⟨oL15, hLL15, hFL11⟩ := hFL11
     refine x_join (fun E w => ∃ (q0o : Int), q0o = oL15 ∧ E 8 = .int .i64 q0e ∧ E 9 = .slice (adOf (Ep7 46)) q5.length (capOf (Ep7 46)) ∧ E 10 = .slice (adOf (Ep7 52)) x52.length (capOf (Ep7 52)) ∧ E 11 = .int .i64 (x52.length : Int) ∧ E 12 = .slice A59 q3.length q3.length ∧ E 13 = .int .i64 q8 ∧ E 15 = .int .u64 q0o ∧ St w0 w (vec 159 (RpI .u32).sz (.slice (adOf (Ep7 46)) q5.length (capOf (Ep7 46))) q5.length q0j :: vec 159 (RpI .u32).sz (.slice A59 q3.length q3.length) q3.length q0a :: ro q6 :: l)) ?_ ?_
     ·refine x_block ?_
      refine x_loop (fun k_ E w => ∃ (q0g : Int) (q0p : Int), lp (P_exact_divMag_L15 x52 q0y q8) k_ (q0g, q0p) = some oL15 ∧ E 8 = .int .i64 q0e ∧ E 9 = .slice (adOf (Ep7 46)) q5.length (capOf (Ep7 46)) ∧ E 10 = .slice (adOf (Ep7 52)) x52.length (capOf (Ep7 52)) ∧ E 11 = .int .i64 (x52.length : Int) ∧ E 12 = .slice A59 q3.length q3.length ∧ E 13 = .int .i64 q8 ∧ E 15 = .int .u64 q0g ∧ E 16 = .int .u64 q0p ∧ St w0 w (vec 159 (RpI .u32).sz (.slice (adOf (Ep7 46)) q5.length (capOf (Ep7 46))) q5.length q0j :: vec 159 (RpI .u32).sz (.slice A59 q3.length q3.length) q3.length q0a :: ro q6 :: l)) fuel ⟨x91, x99, hLL15, q2t, q1d, q1q, q0m, q2k, q11, rfl, rfl, (((hS.pull 2).pull 2).pull 2)⟩ ?_
      rintro kL15 E w ⟨q0g, q0p, hLL15, q25, q1e, q0t, q0n, q1r, q13, q14, q2l, hS⟩
      replace hLL15 := lp_s hLL15; obtain ⟨kL15, obL15, rfl, hFL15, hLL15⟩ := hLL15
      replace hFL15 := ck_s hFL15; obtain ⟨q4f, hFL15⟩ := hFL15
      replace hFL15 := lv_s hFL15; obtain ⟨x101, hx101, hFL15⟩ := hFL15
      replace hFL15 := ck_s hFL15; obtain ⟨q4g, hFL15⟩ := hFL15
      replace hFL15 := lv_s hFL15; obtain ⟨x107, hx107, hFL15⟩ := hFL15
      replace hFL15 := ck_s hFL15; obtain ⟨q3b, hFL15⟩ := hFL15
      replace hFL15 := lv_s hFL15; obtain ⟨x109, hx109, hFL15⟩ := hFL15
      replace hFL15 := lv_s hFL15; obtain ⟨x110, hx110, hFL15⟩ := hFL15
      replace hFL15 := lv_s hFL15; obtain ⟨x111, hx111, hFL15⟩ := hFL15
      replace hFL15 := ck_s hFL15; obtain ⟨q3v, hFL15⟩ := hFL15
      replace hFL15 := lv_s hFL15; obtain ⟨x113, hx113, hFL15⟩ := hFL15
      replace hFL15 := ck_s hFL15; obtain ⟨q3w, hFL15⟩ := hFL15
      replace hFL15 := lv_s hFL15; obtain ⟨x117, hx117, hFL15⟩ := hFL15
      replace hFL15 := ck_s hFL15; obtain ⟨q3x, hFL15⟩ := hFL15
      replace hFL15 := lv_s hFL15; obtain ⟨x118, hx118, hFL15⟩ := hFL15
      replace hFL15 := ck_s hFL15; obtain ⟨q2w, hFL15⟩ := hFL15
      replace hFL15 := lv_s hFL15; obtain ⟨x120, hx120, hFL15⟩ := hFL15
      replace hFL15 := lv_s hFL15; obtain ⟨x121, hx121, hFL15⟩ := hFL15
      replace hFL15 := lv_s hFL15; obtain ⟨x122, hx122, hFL15⟩ := hFL15
      replace hFL15 := lv_s hFL15; obtain ⟨x124, hx124, hFL15⟩ := hFL15
      refine x_seq <| x_seq <| x_still mixed (by kernel_rfl) hS <| q (yl_move q14) <|
       q (yshr rfl rfl q4f hx101) <| q (yl_neq rfl rfl) <| q (yl_move rfl) <| qg (v := .int .u64 q0g) 103 (c := !(decide (x101 ≠ 0))) (says_f _) (fun hq w' hS => Yl.at (yl_move q14)) <|
       qg (v := .slice (adOf (Ep7 52)) x52.length (capOf (Ep7 52))) 103 (c := !(decide (x101 ≠ 0))) (says_f _) (fun hq w' hS => Yl.at (yl_move q0t)) <| qg (v := .int .i64 (x52.length : Int)) 103 (c := !(decide (x101 ≠ 0))) (says_f _) (fun hq w' hS => Yl.at (yl_move q0n)) <| qg (v := .int .i64 x107) 103 (c := !(decide (x101 ≠ 0))) (says_f _) (fun hq w' hS => Yl.at (ysub (cv hq) rfl ⟨hx107, (q4g hq)⟩)) <| qg (v := .pointer (some ((adr (adOf (Ep7 52))).add (x107.toNat * (RpI .u32).sz)))) 103 (c := !(decide (x101 ≠ 0))) (says_f _) (fun hq w' hS => Yl.at (yix_f sl_77 (cv hq) (cv hq) (f52.le q0d) (q3b hq))) <|
       qg (v := .int .u32 x109) 103 (c := !(decide (x101 ≠ 0))) (says_f _) (fun hq w' hS => at_load one_159 (cv hq) (RdS.getW (f52.le q0d) (hS.pull 2) (q3b hq) hx109)) <| qg (v := .int .u64 x110) 103 (c := !(decide (x101 ≠ 0))) (says_f _) (fun hq w' hS => Yl.at (yconvu wm_u64 uk_159 ik_158 (cv hq) hx110)) <| qg (v := .int .u64 x111) 103 (c := !(decide (x101 ≠ 0))) (says_f _) (fun hq w' hS => Yl.at (ymulu wm_u64 (cv hq) (cv hq) hx111)) <| qg (v := .int .u64 q0p) 103 (c := !(decide (x101 ≠ 0))) (says_f _) (fun hq w' hS => Yl.at (yl_move q2l)) <|
       qg (v := .int .u64 x113) 103 (c := !(decide (x101 ≠ 0))) (says_f _) (fun hq w' hS => Yl.at (yshl (cv hq) rfl (q3v hq) hx113)) <| qg (v := .slice (adOf (Ep7 46)) q5.length (capOf (Ep7 46))) 103 (c := !(decide (x101 ≠ 0))) (says_f _) (fun hq w' hS => Yl.at (yl_move q1e)) <| qg (v := .int .i64 q8) 103 (c := !(decide (x101 ≠ 0))) (says_f _) (fun hq w' hS => Yl.at (yl_move q13)) <| qg (v := .int .i64 (x52.length : Int)) 103 (c := !(decide (x101 ≠ 0))) (says_f _) (fun hq w' hS => Yl.at (yl_move q0n)) <|
       qg (v := .int .i64 x117) 103 (c := !(decide (x101 ≠ 0))) (says_f _) (fun hq w' hS => Yl.at (yadd (cv hq) (cv hq) ⟨hx117, (q3w hq)⟩)) <| qg (v := .int .i64 x118) 103 (c := !(decide (x101 ≠ 0))) (says_f _) (fun hq w' hS => Yl.at (ysub (cv hq) rfl ⟨hx118, (q3x hq)⟩)) <| qg (v := .pointer (some ((adr (adOf (Ep7 46))).add (x118.toNat * (RpI .u32).sz)))) 103 (c := !(decide (x101 ≠ 0))) (says_f _) (fun hq w' hS => Yl.at (yix_o sl_77 (cv hq) (cv hq) hS q9 (q2w hq))) <| qg (v := .int .u32 x120) 103 (c := !(decide (x101 ≠ 0))) (says_f _) (fun hq w' hS => at_load one_159 (cv hq) (RepL.getW q9 hS (q2w hq) hx120)) <|
       qg (v := .int .u64 x121) 103 (c := !(decide (x101 ≠ 0))) (says_f _) (fun hq w' hS => Yl.at (yconvu wm_u64 uk_159 ik_158 (cv hq) hx121)) <| qg (v := .int .u64 x122) 103 (c := !(decide (x101 ≠ 0))) (says_f _) (fun hq w' hS => Yl.at (yor (cv hq) (cv hq) hx122)) <| qg (v := .bool (decide (x122 < x111))) 103 (c := !(decide (x101 ≠ 0))) (says_f _) (fun hq w' hS => Yl.at (yl_gtr (cv hq) (cv hq))) <| q (yor' rfl rfl (fun hc => (cv (t_not hc))) hx124) <|
       q_done fun w' hS => ?_
      refine x_cond (t := x124) rfl (fun hc124 => ?_) (fun hc124 => ?_)
      ·replace hFL15 := it_t hc124 hFL15
       replace hFL15 := lv_s hFL15; obtain ⟨x126, hx126, hFL15⟩ := hFL15
       replace hFL15 := ar_s hFL15; obtain ⟨x130, hx130, hFL15⟩ := hFL15
       replace hFL15 := ck_s hFL15; obtain ⟨q3c, hFL15⟩ := hFL15
       replace hFL15 := lv_s hFL15; obtain ⟨x132, hx132, hFL15⟩ := hFL15
       replace hFL15 := lv_s hFL15; obtain ⟨x133, hx133, hFL15⟩ := hFL15
       replace hFL15 := lv_s hFL15; obtain ⟨x134, hx134, hFL15⟩ := hFL15
       replace hFL15 := ck_s hFL15; obtain ⟨q4h, hFL15⟩ := hFL15
       replace hFL15 := lv_s hFL15; obtain ⟨x136, hx136, hFL15⟩ := hFL15
       refine x_skip <| x_block <| x_seq <| x_region <|
        p (yl_move q14) <| p (ysubu wm_u64 rfl rfl hx126) <| p (yl_assign rfl) <| x_done <|
        x_seq <| x_region <| p (yl_move q2l) <| p (yl_move q0t) <|
        p (yl_move q0n) <| p (ysub rfl rfl hx130) <| p (yix_f sl_77 rfl rfl (f52.le q0d) q3c) <| pa (at_load one_159 rfl (RdS.getW (f52.le q0d) (hS.pull 2) q3c hx132)) <|
        p (yconvu wm_u64 uk_159 ik_158 rfl hx133) <| p (yaddu wm_u64 rfl rfl hx134) <| p (yl_assign rfl) <| x_done <|
        x_seq <| x_region <| p (yl_move rfl) <| p (yshr rfl rfl q4h hx136) <|
        p (yl_neq rfl rfl) <| x_done <|
        x_cond_p (x136 ≠ 0) rfl (fun hc137 => ?_) (fun hc137 => ?_)
       ·replace hFL15 := it_t hc137 hFL15
        refine x_exitTo _ rfl <| ?_
        have e_ := Option.some.inj (show some _ = some _ from hFL15); subst e_
        exact x_inv ⟨x126, hLL15, q25, q1e, q0t, q0n, q1r, q13, rfl, (((hS.pull 2).pull 2).pull 2)⟩
       ·replace hFL15 := it_f hc137 hFL15
        refine x_skip <| x_blk <| ?_
        have e_ := Option.some.inj (show some _ = some _ from hFL15); subst e_
        exact x_inv ⟨kL15, Nat.lt_succ_self _, x126, x134, hLL15, q25, q1e, q0t, q0n, q1r, q13, rfl, rfl, (((hS.pull 2).pull 2).pull 2)⟩
      ·replace hFL15 := it_bf hc124 hFL15
       refine x_exitTo _ rfl <| ?_
       have e_ := Option.some.inj (show some _ = some _ from hFL15); subst e_
       exact x_inv ⟨q0g, hLL15, q25, q1e, q0t, q0n, q1r, q13, q14, (((hS.pull 2).pull 2).pull 2)⟩
     rintro E w ⟨q0o, rfl, q3d, q1t, q1f, q1g, q2x, q0s, q26, hS⟩
     replace hFL11 := ar_s hFL11; obtain ⟨x142, hx142, hFL11⟩ := hFL11
     replace hFL11 := ar_s hFL11; obtain ⟨x143, hx143, hFL11⟩ := hFL11
     replace hFL11 := ck_s hFL11; obtain ⟨q4i, hFL11⟩ := hFL11
     replace hFL11 := lv_s hFL11; obtain ⟨m144, hm144, hFL11⟩ := hFL11
     replace hFL11 := bd_s hFL11; obtain ⟨q3t, q4j, hFL11⟩ := hFL11
     refine x_seq <| x_seq <| x_region <| p (yl_move q1t) <|
      p (yl_move q0s) <| p (yl_move q0s) <| p (yl_move q1g) <| p (yadd rfl rfl hx142) <|
      p (yadd rfl rfl hx143) <| p (yslw sl_77 rfl rfl rfl hS q9 q4i hm144) <| p (yl_move q1f) <| p (yl_move q26) <| ?_
     have hcall := c_exact_take (cw_u0 := ((capOf (Ep7 46)) - q8.toNat)) q4j q9 (f52.le q0d) ((hS.pull 2).pull 1)
     refine o_cc call_148 (args3 rfl rfl rfl) hcall ?_
     rintro e w' ⟨q15, rfl, q0h, hS⟩
     refine ⟨_, rfl, ?_⟩
     refine x_done <| ?_
     replace hFL11 := bd_s hFL11; obtain ⟨oc147, hFc147, hFL11⟩ := hFL11
     refine x_join (fun E w => ∃ (q0q : List Value) (q1h : List Int) (q0u : Int), (q1h, q0u) = oc147 ∧ E 8 = .int .i64 q0e ∧ E 9 = .slice (adOf (Ep7 46)) q5.length (capOf (Ep7 46)) ∧ E 10 = .slice (adOf (Ep7 52)) x52.length (capOf (Ep7 52)) ∧ E 11 = .int .i64 (x52.length : Int) ∧ E 12 = .slice A59 q3.length q3.length ∧ E 13 = .int .i64 q8 ∧ E 15 = .int .u64 q0u ∧ RepL (RpI .u32) q6 q1h q0q ∧ St w0 w (vec 159 (RpI .u32).sz (.slice (adOf (Ep7 46)) q5.length (capOf (Ep7 46))) q5.length q0q :: vec 159 (RpI .u32).sz (.slice A59 q3.length q3.length) q3.length q0a :: ro q6 :: l)) ?_ ?_
     ·refine x_cond (t := q3t.1) rfl (fun hc147 => ?_) (fun hc147 => ?_)
      ·replace hFc147 := it_t hc147 hFc147
       replace hFc147 := lv_s hFc147; obtain ⟨x149, hx149, hFc147⟩ := hFc147
       replace hFc147 := ar_s hFc147; obtain ⟨x154, hx154, hFc147⟩ := hFc147
       replace hFc147 := ar_s hFc147; obtain ⟨x155, hx155, hFc147⟩ := hFc147
       replace hFc147 := ck_s hFc147; obtain ⟨q4k, hFc147⟩ := hFc147
       replace hFc147 := lv_s hFc147; obtain ⟨m156, hm156, hFc147⟩ := hFc147
       replace hFc147 := bd_s hFc147; obtain ⟨q51, q4l, hFc147⟩ := hFc147
       refine x_seq <| x_region <| p (yl_move q26) <| p (ysubu wm_u64 rfl rfl hx149) <|
        p (yl_assign rfl) <| x_done <| x_region <| p (yl_move q1t) <|
        p (yl_move q0s) <| p (yl_move q0s) <| p (yl_move q1g) <| p (yadd rfl rfl hx154) <|
        p (yadd rfl rfl hx155) <| p (yslw sl_77 rfl rfl rfl hS q0h q4k hm156) <| p (yl_move q1f) <| ?_
       have hcall := c_exact_give (cw_u0 := ((capOf (Ep7 46)) - q8.toNat)) q4l q0h (f52.le q0d) ((hS.pull 1).pull 1)
       refine o_cc call_149 (args2 rfl rfl) hcall ?_
       rintro e w' ⟨q16, rfl, q19, hS⟩
       refine ⟨_, rfl, ?_⟩
       refine x_done <| ?_
       exact x_inv ⟨q16, q51, x149, (Option.some.inj (show some _ = some _ from hFc147)), q3d, q1t, q1f, q1g, q2x, q0s, rfl, q19, (((hS.pull 1).pull 2).pull 2)⟩
      ·replace hFc147 := it_bf hc147 hFc147
       refine x_skip <| ?_
       exact x_inv ⟨q15, q3t.2, q0o, (Option.some.inj (show some _ = some _ from hFc147)), q3d, q1t, q1f, q1g, q2x, q0s, q26, q0h, (((hS.pull 1).pull 2).pull 2)⟩
     rintro E w ⟨q0q, q1h, q0u, rfl, q3y, q3z, q3l, q3m, q2m, q2n, q3n, q3e, hS⟩
     replace hFL11 := lv_s hFL11; obtain ⟨x162, hx162, hFL11⟩ := hFL11
     replace hFL11 := ck_s hFL11; obtain ⟨q3f, hFL11⟩ := hFL11
     refine x_region <| p (yl_move q2m) <| p (yl_move q2n) <| p (yl_move q3n) <|
      p (yconvu wm_u32 uk_158 ik_159 rfl hx162) <| p (yix_o sl_77 rfl rfl (hS.pull 1) q12 q3f) <| ?_
     replace hFL11 := lv_s hFL11; obtain ⟨q52, q4m, hFL11⟩ := hFL11
     refine o_put' (news := [.int .u32 x162]) sz_159 rfl rfl rfl rfl (o := 0) rfl q3f rfl (hS.pull 1) q12 (Le.refl _) (fun c hc => ok_all hc (show (RpI .u32).ok q6 [.int .u32 x162] x162 from rfl)) q4m (fun q4n w' q4o hS => ?_)
     replace hFL11 := ar_s hFL11; obtain ⟨x66, hx66, hFL11⟩ := hFL11
     refine x_done <| x_blk <| x_region <| p (yl_move q2n) <|
      p (ysub rfl rfl hx66) <| p (yl_assign rfl) <| x_done <| ?_
     have e_ := Option.some.inj (show some _ = some _ from hFL11); subst e_
     exact x_inv ⟨kL11, Nat.lt_succ_self _, q0q, q4n, q1h, q52, x66, hLL11, q3y, q3z, q3l, q3m, q2m, rfl, q3e, q4o, (((hS.pull 2).pull 1).pull 2)⟩
    ·replace hFL11 := it_f hc64 hFL11
     refine x_exitTo _ rfl <| ?_
     have e_ := Option.some.inj (show some _ = some _ from hFL11); subst e_
     exact x_inv ⟨q0j, q0a, q0y, q10, hLL11, q2t, q1d, q0m, q2k, q9, q12, (((hS.pull 2).pull 2).pull 2)⟩
   rintro E w ⟨q0v, q0b, q1s, q24, rfl, q4p, q4q, q2y, q40, q3o, q3g, hS⟩
   refine x_seq <| x_seq <| x_region <| p (yl_move q2y) <|
    p (yl_move rfl) <| x_done <| ?_
   replace hF := bd_s hF; obtain ⟨oL24, hLL24, hF⟩ := hF
   refine x_join (fun E w => ∃ (q1a : List Value) (q2o : List Int), q2o = oL24 ∧ E 9 = .slice (adOf (Ep7 46)) q5.length (capOf (Ep7 46)) ∧ E 11 = .int .i64 (x52.length : Int) ∧ E 12 = .slice A59 q3.length q3.length ∧ RepL (RpI .u32) q6 q2o q1a ∧ St w0 w (vec 159 (RpI .u32).sz (.slice (adOf (Ep7 46)) q5.length (capOf (Ep7 46))) q5.length q1a :: vec 159 (RpI .u32).sz (.slice A59 q3.length q3.length) q3.length q0b :: ro q6 :: l)) ?_ ?_
   ·refine x_block ?_
    refine x_loop (fun k_ E w => ∃ (q0r : List Value) (q1i : List Int) (q0w : Int), lp (P_exact_divMag_L24 q0e x52) k_ (q1i, q0w) = some oL24 ∧ E 8 = .int .i64 q0e ∧ E 9 = .slice (adOf (Ep7 46)) q5.length (capOf (Ep7 46)) ∧ E 11 = .int .i64 (x52.length : Int) ∧ E 12 = .slice A59 q3.length q3.length ∧ E 164 = .int .i64 (x52.length : Int) ∧ E 165 = .int .i64 q0w ∧ RepL (RpI .u32) q6 q1i q0r ∧ St w0 w (vec 159 (RpI .u32).sz (.slice (adOf (Ep7 46)) q5.length (capOf (Ep7 46))) q5.length q0r :: vec 159 (RpI .u32).sz (.slice A59 q3.length q3.length) q3.length q0b :: ro q6 :: l)) fuel ⟨q0v, q1s, 0, hLL24, q4p, q4q, q2y, q40, rfl, rfl, q3o, (((hS.pull 2).pull 2).pull 2)⟩ ?_
    rintro kL24 E w ⟨q0r, q1i, q0w, hLL24, q27, q0z, q2p, q2q, q29, q1b, q0i, hS⟩
    replace hLL24 := lp_s hLL24; obtain ⟨kL24, obL24, rfl, hFL24, hLL24⟩ := hLL24
    refine x_seq <| x_region <| p (yl_lss q1b q29) <| x_done <|
     x_seq <|
     x_cond_p (q0w < (x52.length : Int)) rfl (fun hc166 => ?_) (fun hc166 => ?_)
    ·replace hFL24 := it_t hc166 hFL24
     replace hFL24 := ck_s hFL24; obtain ⟨q3h, hFL24⟩ := hFL24
     replace hFL24 := lv_s hFL24; obtain ⟨x173, hx173, hFL24⟩ := hFL24
     replace hFL24 := ck_s hFL24; obtain ⟨q4r, hFL24⟩ := hFL24
     replace hFL24 := lv_s hFL24; obtain ⟨x175, hx175, hFL24⟩ := hFL24
     replace hFL24 := ar_s hFL24; obtain ⟨x178, hx178, hFL24⟩ := hFL24
     replace hFL24 := ck_s hFL24; obtain ⟨q2z, hFL24⟩ := hFL24
     replace hFL24 := lv_s hFL24; obtain ⟨x180, hx180, hFL24⟩ := hFL24
     replace hFL24 := lv_s hFL24; obtain ⟨x181, hx181, hFL24⟩ := hFL24
     replace hFL24 := ck_s hFL24; obtain ⟨q41, hFL24⟩ := hFL24
     replace hFL24 := lv_s hFL24; obtain ⟨x182, hx182, hFL24⟩ := hFL24
     replace hFL24 := ck_s hFL24; obtain ⟨q42, hFL24⟩ := hFL24
     replace hFL24 := lv_s hFL24; obtain ⟨x184, hx184, hFL24⟩ := hFL24
     replace hFL24 := lv_s hFL24; obtain ⟨x185, hx185, hFL24⟩ := hFL24
     replace hFL24 := lv_s hFL24; obtain ⟨x186, hx186, hFL24⟩ := hFL24
     replace hFL24 := ck_s hFL24; obtain ⟨q30, hFL24⟩ := hFL24
     refine x_skip <| x_seq <| x_block <| x_seq <|
      x_region <| p (yl_move q1b) <| p (yl_assign rfl) <| x_done <|
      x_head 20 mixed (by kernel_rfl) hS _ _ rfl rfl <| q (yl_move q0z) <| q (yl_move rfl) <| q (yl_move q0z) <|
      q (yl_move rfl) <| q (yix_o sl_77 rfl rfl hS q0i q3h) <| qa (fun w' hS => at_load one_159 rfl (RepL.getW q0i hS q3h hx173)) <| q (v := .int .i64 q0e) (yl_move q27) <|
      q (yshr rfl rfl q4r hx175) <| q (yl_move q0z) <| q (yl_move rfl) <| q (yadd rfl rfl hx178) <|
      q (yix_o sl_77 rfl rfl hS q0i q2z) <| qa (fun w' hS => at_load one_159 rfl (RepL.getW q0i hS q2z hx180)) <| q (yconvu wm_u64 uk_159 ik_158 rfl hx181) <| q (yshl rfl rfl q41 hx182) <|
      q (v := .int .i64 q0e) (yl_move q27) <| q (yshr rfl rfl q42 hx184) <| q (yconvu wm_u32 uk_158 ik_159 rfl hx185) <| q (yor rfl rfl hx186) <|
      q (yix_o sl_77 rfl rfl hS q0i q30) <|
      q_done fun w' hS => ?_
     replace hFL24 := lv_s hFL24; obtain ⟨q4s, q43, hFL24⟩ := hFL24
     refine o_put' (news := [.int .u32 x186]) sz_159 rfl rfl rfl rfl (o := 0) rfl q30 rfl hS q0i (Le.refl _) (fun c hc => ok_all hc (show (RpI .u32).ok q6 [.int .u32 x186] x186 from rfl)) q43 (fun q44 w' q45 hS => ?_)
     replace hFL24 := ar_s hFL24; obtain ⟨x188, hx188, hFL24⟩ := hFL24
     refine x_done <| x_blk <| x_region <| p (yadd q1b rfl hx188) <|
      p (yl_move rfl) <| x_done <| ?_
     have e_ := Option.some.inj (show some _ = some _ from hFL24); subst e_
     exact x_inv ⟨kL24, Nat.lt_succ_self _, q44, q4s, x188, hLL24, q27, q0z, q2p, q2q, q29, rfl, q45, (((hS.pull 2).pull 2).pull 2)⟩
    ·replace hFL24 := it_f hc166 hFL24
     refine x_exitTo _ rfl <| ?_
     have e_ := Option.some.inj (show some _ = some _ from hFL24); subst e_
     exact x_inv ⟨q0r, q1i, hLL24, q0z, q2p, q2q, q0i, (((hS.pull 2).pull 2).pull 2)⟩
   rintro E w ⟨q1a, q2o, rfl, q4t, q46, q47, q3p, hS⟩
   refine x_seq <| ?_
   have q_ := St.vec_fz ((hS.pull 2).pull 1) q3p; obtain ⟨q0c, q1c, q33, hS⟩ := q_
   replace hF := ck_s hF; obtain ⟨q3i, hF⟩ := hF
   replace hF := lv_s hF; obtain ⟨x192, hx192, hF⟩ := hF
   refine x_par (w0 := w0) [⟨[], [], [189], [], [], []⟩, ⟨[], [], [190], [], [], []⟩, ⟨[], [], [191], [], [], []⟩, ⟨[1, 2], [1, 2], [192], [0], [], []⟩, ⟨[0], [0], [4], [], [], []⟩, ⟨[0, 1, 2, 3, 4], [3], [5, 192], [], [], []⟩] [⟨none, none, []⟩] [4, 5, 189, 190, 191, 192] [0] [0] [0, 1, 2, 3, 4, 5] [fun Ep28 => Ep28 189 = .slice A59 q3.length q3.length, fun Ep28 => Ep28 190 = .slice (adOf (Ep7 46)) q5.length (capOf (Ep7 46)), fun Ep28 => Ep28 191 = .int .i64 (x52.length : Int), fun Ep28 => Ep28 192 = .slice (adOf (Ep28 192)) x192.length (capOf (Ep28 192)) ∧ RdS (RpI .u32) q0c (adOf (Ep28 192)) x192.length (capOf (Ep28 192)) x192, fun Ep28 => Ep28 4 = .slice A59 q3.length q3.length, fun Ep28 => Ep28 5 = .slice (adOf (Ep28 192)) x192.length (capOf (Ep28 192))] [fun Ep28 => ro q0c] mixed (by kernel_rfl) hS ?_ ?_
   ·refine ⟨?_, ?_, ?_, ?_, ?_, ?_, trivial⟩
    ·intro Ep28 w l' hE28 hO28 hF_ hS
     refine p (yl_move ((hE28 12 rfl).trans q47)) <| x_done <| ?_
     refine x_fin ⟨⟨_, rfl⟩, rfl, ?_⟩
     exact Eq.mp (by kernel_rfl) hS
    ·intro Ep28 w l' hE28 hO28 hF_ hS
     refine p (yl_move ((hE28 9 rfl).trans q4t)) <| x_done <| ?_
     refine x_fin ⟨⟨_, rfl⟩, rfl, ?_⟩
     exact Eq.mp (by kernel_rfl) hS
    ·intro Ep28 w l' hE28 hO28 hF_ hS
     refine p (yl_move ((hE28 11 rfl).trans q46)) <| x_done <| ?_
     refine x_fin ⟨⟨_, rfl⟩, rfl, ?_⟩
     exact Eq.mp (by kernel_rfl) hS
    ·intro Ep28 w l' hE28 hO28 hF_ hS
     obtain ⟨q1j, q1k, -⟩ := hF_
     replace q1j : Ep28 190 = .slice (adOf (Ep7 46)) q5.length (capOf (Ep7 46)) := Eq.mp (by kernel_rfl) q1j
     replace q1k : Ep28 191 = .int .i64 (x52.length : Int) := Eq.mp (by kernel_rfl) q1k
     replace hS : St w0 w (ro q0c :: l') := Eq.mp (by kernel_rfl) hS
     have q_ := RdS.sub q33 q3i hx192; obtain ⟨A192, n192, c192, hd192, f192⟩ := q_
     refine p (ysub_h sl_77 q1j q1k q3i hd192) <| ?_
     have e_ := f192.n; subst e_
     refine x_done <| ?_
     refine x_fin ⟨⟨_, rfl⟩, ⟨rfl, f192⟩, ?_⟩
     exact Eq.mp (by kernel_rfl) hS
    ·intro Ep28 w l' hE28 hO28 hF_ hS
     obtain ⟨q1l, -⟩ := hF_
     replace q1l : Ep28 189 = .slice A59 q3.length q3.length := Eq.mp (by kernel_rfl) q1l
     refine p (yl_assign q1l) <| x_done <| ?_
     refine x_fin ⟨⟨_, rfl⟩, rfl, ?_⟩
     exact Eq.mp (by kernel_rfl) hS
    ·intro Ep28 w l' hE28 hO28 hF_ hS
     obtain ⟨q0x, -⟩ := hF_
     replace q0x : Ep28 192 = .slice (adOf (Ep28 192)) x192.length (capOf (Ep28 192)) ∧ RdS (RpI .u32) q0c (adOf (Ep28 192)) x192.length (capOf (Ep28 192)) x192 := Eq.mp (by kernel_rfl) q0x
     have q_ := id q0x; obtain ⟨-, q3j⟩ := q_
     refine p (yl_assign q0x.1) <| x_done <| ?_
     refine x_fin ⟨⟨_, rfl⟩, rfl, ?_⟩
     exact Eq.mp (by kernel_rfl) hS
   intro Ep28 w' hE28 hF_ hS
   obtain ⟨q1l, q1j, q1k, q0x, q34, q35, -⟩ := hF_
   replace q1l : Ep28 189 = .slice A59 q3.length q3.length := Eq.mp (by kernel_rfl) q1l
   replace q1j : Ep28 190 = .slice (adOf (Ep7 46)) q5.length (capOf (Ep7 46)) := Eq.mp (by kernel_rfl) q1j
   replace q1k : Ep28 191 = .int .i64 (x52.length : Int) := Eq.mp (by kernel_rfl) q1k
   replace q0x : Ep28 192 = .slice (adOf (Ep28 192)) x192.length (capOf (Ep28 192)) ∧ RdS (RpI .u32) q0c (adOf (Ep28 192)) x192.length (capOf (Ep28 192)) x192 := Eq.mp (by kernel_rfl) q0x
   have q_ := id q0x; obtain ⟨-, q3j⟩ := q_
   replace q34 : Ep28 4 = .slice A59 q3.length q3.length := Eq.mp (by kernel_rfl) q34
   replace q35 : Ep28 5 = .slice (adOf (Ep28 192)) x192.length (capOf (Ep28 192)) := Eq.mp (by kernel_rfl) q35
   replace hS : St w0 w' (ro q0c :: (vec 159 (RpI .u32).sz (.slice A59 q3.length q3.length) q3.length q0b :: l)) := Eq.mp (by kernel_rfl) hS
   have e_ := Option.some.inj (show some _ = some _ from hF); subst e_
   exact x_return ⟨_, ⟨_, _, rfl, q34, _, _, rfl, q35, rfl⟩, q0c, A59, q3.length, q3.length, q0b, (adOf (Ep28 192)), x192.length, (capOf (Ep28 192)), rfl, (q2s.trans q1c), (q3g.le q1c), q3j, (hS.pull 1)⟩
attribute [irreducible] P_exact_divMag

def P_exact_Abs (a0 : T_exact_Int) : Option T_exact_Int :=
 bd (P_exact_made false a0.fmag) fun q2 =>
 some q2
set_option maxHeartbeats 4000000 in
set_option maxRecDepth 100000 in
theorem c_exact_Abs {w0 w : World} {l : List Assn} {ρ : Heap} {q6 : Option Addr} {q7 : Nat} {c_a0_1 : Nat} {a0 : T_exact_Int} {r : T_exact_Int} (hF : P_exact_Abs a0 = some r) (q8 : RdS (RpI .u32) ρ q6 q7 c_a0_1 a0.fmag) (hS : St w0 w (ro ρ :: l)) :
  Calls Try.prog 56 #[.agg #[.bool a0.fneg, .slice q6 q7 c_a0_1]] w fun e w' => ∃ (q4 : Option Addr) (q5 : Nat) (c_y0_ret_1 : Nat), e = .returned (.agg #[.bool r.fneg, .slice q4 q5 c_y0_ret_1]) ∧ RdS (RpI .u32) ρ q4 q5 c_y0_ret_1 r.fmag ∧ St w0 w' (ro ρ :: l) := by
 have e_ := q8.n; subst e_
 refine enterC Try.func56 rfl 6 rfl (by simp) ?_
 refine x_seq <| x_region <| ?_
 refine o_box (cs := [.bool a0.fneg, .slice q6 a0.fmag.length c_a0_1]) rfl rfl hS (fun b1 w' hS => ?_)
 refine o_alloc zero_79 hS (fun b2 w' hS => ?_)
 replace hF := bd_s hF; obtain ⟨q9, q0b, hF⟩ := hF
 refine x_done <| x_seq <| x_region <| p (yl_field0 fld_79_1 rfl) <|
  pa (at_load one_77 rfl ((hS.pull 1).cell rfl)) <| ?_
 have hcall := c_exact_made q0b q8 (hS.pull 2)
 refine o_cc call_93 (args2 rfl rfl) hcall ?_
 rintro e w' ⟨q2, q0a, c_y0_ret_1_1_2, rfl, q3, hS⟩
 refine ⟨_, rfl, ?_⟩
 have e_ := q3.n; subst e_
 refine o_storeAgg (news := [.bool q9.fneg, .slice q2 q9.fmag.length c_y0_ret_1_1_2]) agg_79 rfl rfl rfl (by simp [over_length]) (hS.pull 1) (fun w' hS => ?_)
 refine x_done <| ?_
 have e_ := Option.some.inj (show some _ = some _ from hF); subst e_
 exact x_return ⟨_, ⟨_, _, _, rfl, rfl, ldvA agg_79 rfl (fun j v hj => by rw [add0]; exact St.cell hS hj), rfl⟩, q2, q9.fmag.length, c_y0_ret_1_1_2, rfl, q3, ((hS.drop.pull 1).drop)⟩
attribute [irreducible] P_exact_Abs


end Go.Proofs.Ytkenpbnpemjbhaa.X
