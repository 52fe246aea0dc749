/- Printed by gen.py: plain functions, and that the Go code computes them. -/
import Derived.Test.YtkenpbnpemjbhaaXI
import Derived.Test.YtkenpbnpemjbhaaYW
import Derived.Test.YtkenpbnpemjbhaaXT
namespace Go.Proofs.Ytkenpbnpemjbhaa.X
open Go Go.RowKit
set_option linter.unusedVariables false
set_option linter.unusedSimpArgs false

structure T_maskmake_Stream where
 L : List Int
 fat : Int
 deriving DecidableEq, Inhabited
structure T_exact_Int where
 fneg : Bool
 fmag : List Int
 deriving DecidableEq, Inhabited
def R_exact_Int : Rp T_exact_Int where
 sz := 2
 ok ρ cs x := ∃ A1 n1 c1, cs = [.bool x.fneg, .slice A1 n1 c1] ∧ RdS (RpI .u32) ρ A1 n1 c1 x.fmag
 pos := by decide
 len := by rintro ρ cs x ⟨A1, n1, c1, rfl, _⟩; rfl
 le := by rintro ρ ρ' cs x ⟨A1, n1, c1, rfl, h0⟩ hle; exact ⟨_, _, _, rfl, h0.le hle⟩
 one := by rintro ρ cs x ⟨A1, n1, c1, rfl, _⟩ v hv; exact allOne_spec rfl v hv
theorem R_exact_Int_d : ∃ cs, ∀ ρ, R_exact_Int.ok ρ cs default := ⟨[.bool false, .slice none 0 0], fun ρ => ⟨_, _, _, rfl, RdS.nil⟩⟩

/-- ____________________________________________________________ -/
def ks_633d862b : ByteArray := ⟨#[0, 1, 2, 2, 3, 3, 3, 3, 4, 4, 4, 4, 4, 4, 4, 4, 5, 5, 5, 5, 5, 5, 5, 5, 5, 5, 5, 5, 5, 5, 5, 5, 6, 6, 6, 6, 6, 6, 6, 6, 6, 6, 6, 6, 6, 6, 6, 6, 6, 6, 6, 6, 6, 6, 6, 6, 6, 6, 6, 6, 6, 6, 6, 6, 7, 7, 7, 7, 7, 7, 7, 7, 7, 7, 7, 7, 7, 7, 7, 7, 7, 7, 7, 7, 7, 7, 7, 7, 7, 7, 7, 7, 7, 7, 7, 7, 7, 7, 7, 7, 7, 7, 7, 7, 7, 7, 7, 7, 7, 7, 7, 7, 7, 7, 7, 7, 7, 7, 7, 7, 7, 7, 7, 7, 7, 7, 7, 7, 8, 8, 8, 8, 8, 8, 8, 8, 8, 8, 8, 8, 8, 8, 8, 8, 8, 8, 8, 8, 8, 8, 8, 8, 8, 8, 8, 8, 8, 8, 8, 8, 8, 8, 8, 8, 8, 8, 8, 8, 8, 8, 8, 8, 8, 8, 8, 8, 8, 8, 8, 8, 8, 8, 8, 8, 8, 8, 8, 8, 8, 8, 8, 8, 8, 8, 8, 8, 8, 8, 8, 8, 8, 8, 8, 8, 8, 8, 8, 8, 8, 8, 8, 8, 8, 8, 8, 8, 8, 8, 8, 8, 8, 8, 8, 8, 8, 8, 8, 8, 8, 8, 8, 8, 8, 8, 8, 8, 8, 8, 8, 8, 8, 8, 8, 8, 8, 8, 8, 8, 8, 8, 8, 8, 8, 8, 8, 8]⟩

/-- 000000000 -/
def ks_4c930086 : ByteArray := ⟨#[48, 48, 48, 48, 48, 48, 48, 48, 48]⟩

structure T_exact_table where
 frows : List (List T_exact_Int)
 flast : T_exact_Int
 fodd : Bool
 frank : Int
 deriving DecidableEq, Inhabited
structure T_exact_Ratio where
 Num : T_exact_Int
 Den : T_exact_Int
 deriving DecidableEq, Inhabited
def R_exact_Ratio : Rp T_exact_Ratio where
 sz := 4
 ok ρ cs x := ∃ A1 n1 c1 A3 n3 c3, cs = [.bool x.Num.fneg, .slice A1 n1 c1, .bool x.Den.fneg, .slice A3 n3 c3] ∧ RdS (RpI .u32) ρ A1 n1 c1 x.Num.fmag ∧ RdS (RpI .u32) ρ A3 n3 c3 x.Den.fmag
 pos := by decide
 len := by rintro ρ cs x ⟨A1, n1, c1, A3, n3, c3, rfl, _⟩; rfl
 le := by rintro ρ ρ' cs x ⟨A1, n1, c1, A3, n3, c3, rfl, h0, h1⟩ hle; exact ⟨_, _, _, _, _, _, rfl, h0.le hle, h1.le hle⟩
 one := by rintro ρ cs x ⟨A1, n1, c1, A3, n3, c3, rfl, _⟩ v hv; exact allOne_spec rfl v hv
theorem R_exact_Ratio_d : ∃ cs, ∀ ρ, R_exact_Ratio.ok ρ cs default := ⟨[.bool false, .slice none 0 0, .bool false, .slice none 0 0], fun ρ => ⟨_, _, _, _, _, _, rfl, RdS.nil, RdS.nil⟩⟩

def P_maskmake_Below (x0 : Int) (n1 : Int) : Option Int :=
 if n1 < 1 then
  some (0 : Int)
 else
  ck (n1 ≠ 0) <|
  lv (Int.tmod x0 n1) fun x9 =>
  bd (
   if x9 < 0 then
    ar (x9 + n1) fun x14 =>
    some x14
   else
    some x9) fun q2 =>
  some q2
set_option maxHeartbeats 4000000 in
set_option maxRecDepth 100000 in
theorem c_maskmake_Below {w0 w : World} {l : List Assn} {ρ : Heap} {x0 : Int} {n1 : Int} {r : Int} (hF : P_maskmake_Below x0 n1 = some r) (hS : St w0 w (ro ρ :: l)) :
  Calls Try.prog 29 #[.int .i64 x0, .int .i64 n1] w fun e w' => e = .returned (.int .i64 r) ∧ St w0 w' (ro ρ :: l) := by
 refine enterC Try.func29 rfl 16 rfl (by simp) ?_
 refine x_seq <| x_region <| p (yl_assign rfl) <| x_done <|
  x_seq <| x_seq <| x_region <| p (yl_move rfl) <|
  p (yl_lss rfl rfl) <| x_done <|
  x_cond_p (n1 < 1) rfl (fun hc6 => ?_) (fun hc6 => ?_)
 ·replace hF := it_t hc6 hF
  refine x_seq <| x_region <| p (yl_assign rfl) <| x_done <| ?_
  have e_ := Option.some.inj (show some _ = some _ from hF); subst e_
  exact x_return ⟨_, ⟨_, _, rfl, rfl, rfl⟩, rfl, hS⟩
 ·replace hF := it_f hc6 hF
  replace hF := ck_s hF; obtain ⟨q4, hF⟩ := hF
  replace hF := lv_s hF; obtain ⟨x9, hx9, hF⟩ := hF
  refine x_skip <| x_seq <| x_region <| p (yl_move rfl) <|
   p (yl_move rfl) <| p (yrem rfl rfl q4 hx9) <| p (yl_assign rfl) <| x_done <|
   x_seq <| x_seq <| x_region <| p (yl_move rfl) <|
   p (yl_lss rfl rfl) <| x_done <| ?_
  replace hF := bd_s hF; obtain ⟨oc11, hFc11, hF⟩ := hF
  refine x_join (fun E w => ∃ (q2 : Int), q2 = oc11 ∧ E 0 = .int .i64 q2 ∧ St w0 w (ro ρ :: l)) ?_ ?_
  ·refine x_cond_p (x9 < 0) rfl (fun hc11 => ?_) (fun hc11 => ?_)
   ·replace hFc11 := it_t hc11 hFc11
    replace hFc11 := ar_s hFc11; obtain ⟨x14, hx14, hFc11⟩ := hFc11
    refine x_region <| p (yl_move rfl) <| p (yl_move rfl) <| p (yadd rfl rfl hx14) <|
     p (yl_assign rfl) <| x_done <| ?_
    exact x_inv ⟨x14, (Option.some.inj (show some _ = some _ from hFc11)), rfl, hS⟩
   ·replace hFc11 := it_f hc11 hFc11
    refine x_skip <| ?_
    exact x_inv ⟨x9, (Option.some.inj (show some _ = some _ from hFc11)), rfl, hS⟩
  rintro E w ⟨q2, rfl, q3, hS⟩
  refine x_seq <| x_region <| p (yl_move q3) <| p (yl_assign rfl) <|
   x_done <| ?_
  have e_ := Option.some.inj (show some _ = some _ from hF); subst e_
  exact x_return ⟨_, ⟨_, _, rfl, rfl, rfl⟩, rfl, hS⟩
attribute [irreducible] P_maskmake_Below

def P_maskmake_Stream_Next (s0 : T_maskmake_Stream) (n1 : Int) : Option (Int × Int) :=
 ar (s0.fat + 1) fun x11 =>
 if (s0.L.length : Int) = 0 then
  ar (x11 * 7919) fun x24 =>
  bd (P_maskmake_Below x24 n1) fun q3 =>
  some (q3, x11)
 else
  ar (x11 - 1) fun x31 =>
  ck ((s0.L.length : Int) ≠ 0) <|
  lv (Int.tmod x31 (s0.L.length : Int)) fun x37 =>
  ar (x11 - 1) fun x42 =>
  ck ((s0.L.length : Int) ≠ 0) <|
  ar (Int.tdiv x42 (s0.L.length : Int)) fun x48 =>
  ck (inb x37 s0.L.length) <|
  lv (gt s0.L x37) fun x55 =>
  bd (P_maskmake_Below x55 1073741824) fun q4 =>
  ar ((7919 : Int) + x37) fun x59 =>
  ar (x48 * x59) fun x60 =>
  ar (q4 + x60) fun x61 =>
  bd (P_maskmake_Below x61 n1) fun q2 =>
  some (q2, x11)
set_option maxHeartbeats 4000000 in
set_option maxRecDepth 100000 in
theorem c_maskmake_Stream_Next {w0 w : World} {l : List Assn} {ρ : Heap} {q5 : Nat} {q2 : Option Addr} {q3 : Nat} {c_s0_0 : Nat} {s0 : T_maskmake_Stream} {n1 : Int} {r : (Int × Int)} (hF : P_maskmake_Stream_Next s0 n1 = some r) (q4 : RdS (RpI .i64) ρ q2 q3 c_s0_0 s0.L) (hS : St w0 w (cells q5 25 [.slice q2 q3 c_s0_0, .int .i64 s0.fat] :: ro ρ :: l)) :
  Calls Try.prog 12 #[.pointer (some ⟨q5, 0, none⟩), .int .i64 n1] w fun e w' => e = .returned (.int .i64 r.1) ∧ St w0 w' (cells q5 25 [.slice q2 q3 c_s0_0, .int .i64 r.2] :: ro ρ :: l) := by
 have e_ := q4.n; subst e_
 refine enterC Try.func12 rfl 64 rfl (by simp) ?_
 replace hF := ar_s hF; obtain ⟨x11, hx11, hF⟩ := hF
 refine x_seq <| x_region <| p (yl_assign rfl) <| x_done <|
  x_seq <| x_region <| p (yl_move rfl) <| p (yl_nilCheck rfl) <|
  p (yl_field0 fld_25_1 rfl) <| pa (at_load one_3 rfl (hS.cell rfl)) <| p (yadd rfl rfl hx11) <| p (yl_nilCheck rfl) <|
  p (yl_field0 fld_25_1 rfl) <| ?_
 refine o_store1 (v := .int .i64 x11) one_3 rfl rfl rfl rfl hS (fun w' hS => ?_)
 refine x_done <| x_seq <| x_seq <| x_region <|
  p (yl_move rfl) <| p (yl_nilCheck rfl) <| p (yl_field0 fld_25_0 rfl) <| pa (at_load one_22 rfl (hS.cell rfl)) <|
  p (yl_len_slice usl_22 rfl) <| p (yl_eql rfl rfl) <| x_done <|
  x_cond_p ((s0.L.length : Int) = 0) rfl (fun hc19 => ?_) (fun hc19 => ?_)
 ·replace hF := it_t hc19 hF
  replace hF := ar_s hF; obtain ⟨x24, hx24, hF⟩ := hF
  replace hF := bd_s hF; obtain ⟨q0d, q0a, hF⟩ := hF
  refine x_seq <| x_region <| p (yl_move rfl) <| p (yl_nilCheck rfl) <|
   p (yl_field0 fld_25_1 rfl) <| pa (at_load one_3 rfl (hS.cell rfl)) <| p (ymul rfl rfl hx24) <| p (yl_move rfl) <| ?_
  have hcall := c_maskmake_Below q0a  (hS.pull 1)
  refine o_cc call_29 (args2 rfl rfl) ((Calls.mono hcall (fun e w'' h => And.intro h.1 (h.2.pull 1)))) ?_
  rintro e w' ⟨rfl, hS⟩
  refine ⟨_, rfl, ?_⟩
  refine p (v := .int .i64 q0d) (yl_assign rfl) <| x_done <| ?_
  have e_ := Option.some.inj (show some _ = some _ from hF); subst e_
  exact x_return ⟨_, ⟨_, _, rfl, rfl, rfl⟩, rfl, ((hS.pull 1).pull 1)⟩
 ·replace hF := it_f hc19 hF
  replace hF := ar_s hF; obtain ⟨x31, hx31, hF⟩ := hF
  replace hF := ck_s hF; obtain ⟨q7, hF⟩ := hF
  replace hF := lv_s hF; obtain ⟨x37, hx37, hF⟩ := hF
  refine x_skip <| x_seq <| x_still mixed (by kernel_rfl) hS <| q (yl_move rfl) <|
   q (yl_nilCheck rfl) <| q (yl_field0 fld_25_1 rfl) <| qa (fun w' hS => at_load one_3 rfl (hS.cell rfl)) <| q (ysub rfl rfl hx31) <|
   q (yl_move rfl) <| q (yl_nilCheck rfl) <| q (yl_field0 fld_25_0 rfl) <| qa (fun w' hS => at_load one_22 rfl (hS.cell rfl)) <|
   q (yl_len_slice usl_22 rfl) <| q (yrem rfl rfl q7 hx37) <| q (yl_assign rfl) <|
   q_done fun w' hS => ?_
  replace hF := ar_s hF; obtain ⟨x42, hx42, hF⟩ := hF
  replace hF := ck_s hF; obtain ⟨q8, hF⟩ := hF
  replace hF := ar_s hF; obtain ⟨x48, hx48, hF⟩ := hF
  refine x_seq <| x_still mixed (by kernel_rfl) hS <| q (yl_move rfl) <| q (yl_nilCheck rfl) <|
   q (yl_field0 fld_25_1 rfl) <| qa (fun w' hS => at_load one_3 rfl (hS.cell rfl)) <| q (ysub rfl rfl hx42) <| q (yl_move rfl) <|
   q (yl_nilCheck rfl) <| q (yl_field0 fld_25_0 rfl) <| qa (fun w' hS => at_load one_22 rfl (hS.cell rfl)) <| q (yl_len_slice usl_22 rfl) <|
   q (yquo rfl rfl q8 hx48) <| q (yl_assign rfl) <|
   q_done fun w' hS => ?_
  replace hF := ck_s hF; obtain ⟨q6, hF⟩ := hF
  replace hF := lv_s hF; obtain ⟨x55, hx55, hF⟩ := hF
  replace hF := bd_s hF; obtain ⟨q0e, q0b, hF⟩ := hF
  refine x_seq <| x_region <| p (yl_move rfl) <| p (yl_nilCheck rfl) <|
   p (yl_field0 fld_25_0 rfl) <| pa (at_load one_22 rfl (hS.cell rfl)) <| p (yl_move rfl) <| p (yix_f sl_22 rfl rfl q4 q6) <|
   pa (at_load one_3 rfl (RdS.getW q4 (hS.pull 1) q6 hx55)) <| ?_
  have hcall := c_maskmake_Below q0b  (hS.pull 1)
  refine o_cc call_29 (args2 rfl rfl) ((Calls.mono hcall (fun e w'' h => And.intro h.1 (h.2.pull 1)))) ?_
  rintro e w' ⟨rfl, hS⟩
  refine ⟨_, rfl, ?_⟩
  replace hF := ar_s hF; obtain ⟨x59, hx59, hF⟩ := hF
  replace hF := ar_s hF; obtain ⟨x60, hx60, hF⟩ := hF
  replace hF := ar_s hF; obtain ⟨x61, hx61, hF⟩ := hF
  replace hF := bd_s hF; obtain ⟨q0c, q9, hF⟩ := hF
  refine p (yl_move rfl) <| p (yl_move rfl) <| p (yadd rfl rfl hx59) <| p (ymul rfl rfl hx60) <|
   p (yadd rfl rfl hx61) <| p (yl_move rfl) <| ?_
  have hcall := c_maskmake_Below q9  (hS.pull 1)
  refine o_cc call_29 (args2 rfl rfl) ((Calls.mono hcall (fun e w'' h => And.intro h.1 (h.2.pull 1)))) ?_
  rintro e w' ⟨rfl, hS⟩
  refine ⟨_, rfl, ?_⟩
  refine p (v := .int .i64 q0c) (yl_assign rfl) <| x_done <| ?_
  have e_ := Option.some.inj (show some _ = some _ from hF); subst e_
  exact x_return ⟨_, ⟨_, _, rfl, rfl, rfl⟩, rfl, ((hS.pull 1).pull 1)⟩
attribute [irreducible] P_maskmake_Stream_Next

def P_maskmake_Stream_Range (s0 : T_maskmake_Stream) (low1 : Int) (high2 : Int) : Option (Int × Int) :=
 if high2 < low1 then
  some (low1, s0.fat)
 else
  ar (high2 - low1) fun x15 =>
  ar (x15 + 1) fun x16 =>
  bd (P_maskmake_Stream_Next s0 x16) fun q2 =>
  ar (low1 + q2.1) fun x18 =>
  some (x18, q2.2)
set_option maxHeartbeats 4000000 in
set_option maxRecDepth 100000 in
theorem c_maskmake_Stream_Range {w0 w : World} {l : List Assn} {ρ : Heap} {q5 : Nat} {q2 : Option Addr} {q3 : Nat} {c_s0_0 : Nat} {s0 : T_maskmake_Stream} {low1 : Int} {high2 : Int} {r : (Int × Int)} (hF : P_maskmake_Stream_Range s0 low1 high2 = some r) (q4 : RdS (RpI .i64) ρ q2 q3 c_s0_0 s0.L) (hS : St w0 w (cells q5 25 [.slice q2 q3 c_s0_0, .int .i64 s0.fat] :: ro ρ :: l)) :
  Calls Try.prog 20 #[.pointer (some ⟨q5, 0, none⟩), .int .i64 low1, .int .i64 high2] w fun e w' => e = .returned (.int .i64 r.1) ∧ St w0 w' (cells q5 25 [.slice q2 q3 c_s0_0, .int .i64 r.2] :: ro ρ :: l) := by
 have e_ := q4.n; subst e_
 refine enterC Try.func20 rfl 19 rfl (by simp) ?_
 refine x_seq <| x_region <| p (yl_assign rfl) <| x_done <|
  x_seq <| x_seq <| x_region <| p (yl_move rfl) <|
  p (yl_move rfl) <| p (yl_lss rfl rfl) <| x_done <|
  x_cond_p (high2 < low1) rfl (fun hc9 => ?_) (fun hc9 => ?_)
 ·replace hF := it_t hc9 hF
  refine x_seq <| x_region <| p (yl_move rfl) <| p (yl_assign rfl) <|
   x_done <| ?_
  have e_ := Option.some.inj (show some _ = some _ from hF); subst e_
  exact x_return ⟨_, ⟨_, _, rfl, rfl, rfl⟩, rfl, ((hS.pull 1).pull 1)⟩
 ·replace hF := it_f hc9 hF
  replace hF := ar_s hF; obtain ⟨x15, hx15, hF⟩ := hF
  replace hF := ar_s hF; obtain ⟨x16, hx16, hF⟩ := hF
  replace hF := bd_s hF; obtain ⟨q7, q6, hF⟩ := hF
  refine x_skip <| x_seq <| x_region <| p (yl_move rfl) <|
   p (yl_move rfl) <| p (yl_move rfl) <| p (yl_move rfl) <| p (ysub rfl rfl hx15) <|
   p (yadd rfl rfl hx16) <| ?_
  have hcall := c_maskmake_Stream_Next q6 q4 ((hS.pull 1).pull 1)
  refine o_cc call_12 (args2 rfl rfl) hcall ?_
  rintro e w' ⟨rfl, hS⟩
  refine ⟨_, rfl, ?_⟩
  replace hF := ar_s hF; obtain ⟨x18, hx18, hF⟩ := hF
  refine p (yadd rfl rfl hx18) <| p (yl_assign rfl) <| x_done <| ?_
  have e_ := Option.some.inj (show some _ = some _ from hF); subst e_
  exact x_return ⟨_, ⟨_, _, rfl, rfl, rfl⟩, rfl, ((hS.pull 1).pull 1)⟩
attribute [irreducible] P_maskmake_Stream_Range

def P_exact_made_L1 : List Int → Option (List Int ⊕ List Int) := fun q2 =>
 ck ((decide (0 < (q2.length : Int))) = true → I64 ((q2.length : Int) - 1)) <|
 lv ((q2.length : Int) - 1) fun x12 =>
 ck ((decide (0 < (q2.length : Int))) = true → inb x12 q2.length) <|
 lv (gt q2 x12) fun x14 =>
 lv ((decide (0 < (q2.length : Int))) && (decide (x14 = 0))) fun x16 =>
 if x16 = true then
  ar ((q2.length : Int) - 1) fun x20 =>
  ck (0 ≤ (0 : Int) ∧ (0 : Int) ≤ x20 ∧ x20 ≤ q2.length) <|
  lv (sub q2 0 x20) fun x21 =>
  some (Sum.inl x21)
 else
  some (Sum.inr q2)
def P_exact_made (neg0 : Bool) (mag1 : List Int) : Option T_exact_Int :=
 bd (
  lp P_exact_made_L1 fuel mag1) fun q2 =>
 lv (neg0 && (decide (0 < (q2.length : Int)))) fun x27 =>
 some (T_exact_Int.mk x27 q2)
set_option maxHeartbeats 4000000 in
set_option maxRecDepth 100000 in
theorem c_exact_made {w0 w : World} {l : List Assn} {ρ : Heap} {q0d : Option Addr} {q0e : Nat} {c_mag1 : Nat} {neg0 : Bool} {mag1 : List Int} {r : T_exact_Int} (hF : P_exact_made neg0 mag1 = some r) (q0f : RdS (RpI .u32) ρ q0d q0e c_mag1 mag1) (hS : St w0 w (ro ρ :: l)) :
  Calls Try.prog 93 #[.bool neg0, .slice q0d q0e c_mag1] w fun e w' => ∃ (q0a : Option Addr) (q0b : Nat) (c_y0_ret_1 : Nat), e = .returned (.agg #[.bool r.fneg, .slice q0a q0b c_y0_ret_1]) ∧ RdS (RpI .u32) ρ q0a q0b c_y0_ret_1 r.fmag ∧ St w0 w' (ro ρ :: l) := by
 have e_ := q0f.n; subst e_
 refine enterC Try.func93 rfl 30 rfl (by simp) ?_
 refine x_seq <| x_region <| ?_
 refine o_alloc zero_79 hS (fun b4 w' hS => ?_)
 refine x_done <| x_seq <| ?_
 replace hF := bd_s hF; obtain ⟨oL1, hLL1, hF⟩ := hF
 refine x_join (fun E w => ∃ (q3 : Option Addr) (q9 : Nat) (c_mag1_L1 : Nat) (q5 : List Int), q5 = oL1 ∧ E 0 = .bool neg0 ∧ E 1 = .slice q3 q9 c_mag1_L1 ∧ E 4 = .pointer (some ⟨b4, 0, none⟩) ∧ RdS (RpI .u32) ρ q3 q9 c_mag1_L1 q5 ∧ St w0 w (cells b4 79 [.bool false, .slice none 0 0] :: ro ρ :: l)) ?_ ?_
 ·refine x_block ?_
  refine x_loop (fun k_ E w => ∃ (q4 : Option Addr) (q8 : Nat) (c_mag1_L1h : Nat) (q2 : List Int), lp P_exact_made_L1 k_ q2 = some oL1 ∧ E 0 = .bool neg0 ∧ E 1 = .slice q4 q8 c_mag1_L1h ∧ E 4 = .pointer (some ⟨b4, 0, none⟩) ∧ RdS (RpI .u32) ρ q4 q8 c_mag1_L1h q2 ∧ St w0 w (cells b4 79 [.bool false, .slice none 0 0] :: ro ρ :: l)) fuel ⟨q0d, mag1.length, c_mag1, mag1, hLL1, rfl, rfl, rfl, q0f, ((hS.pull 1).pull 1)⟩ ?_
  rintro kL1 E w ⟨q4, q8, c_mag1_L1h, q2, hLL1, q0g, q7, q0h, q6, hS⟩
  have e_ := q6.n; subst e_
  replace hLL1 := lp_s hLL1; obtain ⟨kL1, obL1, rfl, hFL1, hLL1⟩ := hLL1
  replace hFL1 := ck_s hFL1; obtain ⟨q0m, hFL1⟩ := hFL1
  replace hFL1 := lv_s hFL1; obtain ⟨x12, hx12, hFL1⟩ := hFL1
  replace hFL1 := ck_s hFL1; obtain ⟨q0i, hFL1⟩ := hFL1
  replace hFL1 := lv_s hFL1; obtain ⟨x14, hx14, hFL1⟩ := hFL1
  replace hFL1 := lv_s hFL1; obtain ⟨x16, hx16, hFL1⟩ := hFL1
  refine x_seq <| x_seq <| x_region <| p (yl_move q7) <|
   p (yl_len_slice usl_77 rfl) <| p (yl_gtr rfl rfl) <| p (yl_move rfl) <| pg (v := .slice q4 q2.length c_mag1_L1h) 8 (c := decide (0 < (q2.length : Int))) (says_t _) (fun hq => Yl.at (yl_move q7)) <|
   pg (v := .slice q4 q2.length c_mag1_L1h) 8 (c := decide (0 < (q2.length : Int))) (says_t _) (fun hq => Yl.at (yl_move q7)) <| pg (v := .int .i64 (q2.length : Int)) 8 (c := decide (0 < (q2.length : Int))) (says_t _) (fun hq => Yl.at (yl_len_slice usl_77 (cv hq))) <| pg (v := .int .i64 x12) 8 (c := decide (0 < (q2.length : Int))) (says_t _) (fun hq => Yl.at (ysub (cv hq) rfl ⟨hx12, (q0m hq)⟩)) <| pg (v := .pointer (some ((adr q4).add (x12.toNat * (RpI .u32).sz)))) 8 (c := decide (0 < (q2.length : Int))) (says_t _) (fun hq => Yl.at (yix_f sl_77 (cv hq) (cv hq) q6 (q0i hq))) <|
   pg (v := .int .u32 x14) 8 (c := decide (0 < (q2.length : Int))) (says_t _) (fun hq => at_load one_159 (cv hq) (RdS.getW q6 (hS.pull 1) (q0i hq) hx14)) <| pg (v := .bool (decide (x14 = 0))) 8 (c := decide (0 < (q2.length : Int))) (says_t _) (fun hq => Yl.at (yl_eql (cv hq) rfl)) <| p (yand' rfl (fun hc => (cv hc)) rfl hx16) <| x_done <|
   x_cond (t := x16) rfl (fun hc16 => ?_) (fun hc16 => ?_)
  ·replace hFL1 := it_t hc16 hFL1
   replace hFL1 := ar_s hFL1; obtain ⟨x20, hx20, hFL1⟩ := hFL1
   replace hFL1 := ck_s hFL1; obtain ⟨q0j, hFL1⟩ := hFL1
   replace hFL1 := lv_s hFL1; obtain ⟨x21, hx21, hFL1⟩ := hFL1
   refine x_skip <| x_block <| x_region <| p (yl_move q7) <|
    p (yl_move q7) <| p (yl_len_slice usl_77 rfl) <| p (ysub rfl rfl hx20) <| ?_
   have q_ := RdS.sub q6 q0j hx21; obtain ⟨A21, n21, c21, hd21, f21⟩ := q_
   refine p (ysub_h sl_77 rfl rfl q0j hd21) <| ?_
   have e_ := f21.n; subst e_
   refine p (yl_assign rfl) <| x_done <| x_blk <| ?_
   have e_ := Option.some.inj (show some _ = some _ from hFL1); subst e_
   exact x_inv ⟨kL1, Nat.lt_succ_self _, A21, x21.length, c21, x21, hLL1, q0g, rfl, q0h, f21, ((hS.pull 1).pull 1)⟩
  ·replace hFL1 := it_bf hc16 hFL1
   refine x_exitTo _ rfl <| ?_
   have e_ := Option.some.inj (show some _ = some _ from hFL1); subst e_
   exact x_inv ⟨q4, q2.length, c_mag1_L1h, q2, hLL1, q0g, q7, q0h, q6, ((hS.pull 1).pull 1)⟩
 rintro E w ⟨q3, q9, c_mag1_L1, q5, rfl, q0n, q0k, q0l, q0c, hS⟩
 have e_ := q0c.n; subst e_
 replace hF := lv_s hF; obtain ⟨x27, hx27, hF⟩ := hF
 refine x_seq <| x_region <| p (yl_move q0n) <| p (yl_move rfl) <|
  pg (v := .slice q3 q5.length c_mag1_L1) 23 (c := neg0) (says_t _) (fun hq => Yl.at (yl_move q0k)) <| pg (v := .int .i64 (q5.length : Int)) 23 (c := neg0) (says_t _) (fun hq => Yl.at (yl_len_slice usl_77 (cv hq))) <| pg (v := .bool (decide (0 < (q5.length : Int)))) 23 (c := neg0) (says_t _) (fun hq => Yl.at (yl_gtr (cv hq) rfl)) <| p (yand' rfl (fun hc => (cv hc)) rfl hx27) <|
  p (yl_move q0k) <| p (v := .agg #[.bool x27, .slice q3 q5.length c_mag1_L1]) (yl_build bld_79 bldf_79 (parts_eq (pt (va := .bool x27) rfl (pt (va := .slice q3 q5.length c_mag1_L1) rfl pt0))) (by kernel_rfl)) <| ?_
 refine o_storeAgg (news := [.bool x27, .slice q3 q5.length c_mag1_L1]) agg_79 q0l rfl rfl (by simp [over_length]) hS (fun w' hS => ?_)
 refine x_done <| ?_
 have e_ := Option.some.inj (show some _ = some _ from hF); subst e_
 exact x_return ⟨_, ⟨_, _, _, rfl, q0l, ldvA agg_79 rfl (fun j v hj => by rw [add0]; exact St.cell hS hj), rfl⟩, q3, q5.length, c_mag1_L1, rfl, q0c, hS.drop⟩
attribute [irreducible] P_exact_made

def P_exact_Of (x0 : Int) : Option T_exact_Int :=
 lv (x0 % 18446744073709551616) fun x5 =>
 bd (
  if x0 < 0 then
   lv ((0 - x5) % 18446744073709551616) fun x9 =>
   some x9
  else
   some x5) fun q2 =>
 lv (q2 % 4294967296) fun x13 =>
 ck (0 ≤ (32 : Int)) <|
 lv (shr .u64 q2 32) fun x15 =>
 lv (x15 % 4294967296) fun x16 =>
 bd (P_exact_made (decide (x0 < 0)) ([x13, x16] : List Int)) fun q3 =>
 some q3
set_option maxHeartbeats 4000000 in
set_option maxRecDepth 100000 in
theorem c_exact_Of {w0 w : World} {l : List Assn} {ρ : Heap} {x0 : Int} {r : T_exact_Int} (hF : P_exact_Of x0 = some r) (hS : St w0 w (ro ρ :: l)) :
  Calls Try.prog 51 #[.int .i64 x0] w fun e w' => ∃ (ρ' : Heap) (q4 : Option Addr) (q5 : Nat) (c_y0_ret_1 : Nat), e = .returned (.agg #[.bool r.fneg, .slice q4 q5 c_y0_ret_1]) ∧ Le ρ ρ' ∧ RdS (RpI .u32) ρ' q4 q5 c_y0_ret_1 r.fmag ∧ St w0 w' (ro ρ' :: l) := by
 refine enterC Try.func51 rfl 19 rfl (by simp) ?_
 refine x_seq <| x_region <| ?_
 refine o_alloc zero_79 hS (fun b2 w' hS => ?_)
 replace hF := lv_s hF; obtain ⟨x5, hx5, hF⟩ := hF
 refine x_done <| x_seq <| x_region <| p (yl_move rfl) <|
  p (yconvu wm_u64 uk_2 ik_158 rfl hx5) <| p (yl_assign rfl) <| x_done <| x_seq <|
  x_seq <| x_region <| p (yl_move rfl) <| p (yl_lss rfl rfl) <|
  x_done <| ?_
 replace hF := bd_s hF; obtain ⟨oc7, hFc7, hF⟩ := hF
 refine x_join (fun E w => ∃ (q6 : Int), q6 = oc7 ∧ E 0 = .int .i64 x0 ∧ E 2 = .pointer (some ⟨b2, 0, none⟩) ∧ E 3 = .int .u64 q6 ∧ St w0 w (cells b2 79 [.bool false, .slice none 0 0] :: ro ρ :: l)) ?_ ?_
 ·refine x_cond_p (x0 < 0) rfl (fun hc7 => ?_) (fun hc7 => ?_)
  ·replace hFc7 := it_t hc7 hFc7
   replace hFc7 := lv_s hFc7; obtain ⟨x9, hx9, hFc7⟩ := hFc7
   refine x_region <| p (yl_move rfl) <| p (ynegu wm_u64 rfl hx9) <| p (yl_assign rfl) <|
    x_done <| ?_
   exact x_inv ⟨x9, (Option.some.inj (show some _ = some _ from hFc7)), rfl, rfl, rfl, ((hS.pull 1).pull 1)⟩
  ·replace hFc7 := it_f hc7 hFc7
   refine x_skip <| ?_
   exact x_inv ⟨x5, (Option.some.inj (show some _ = some _ from hFc7)), rfl, rfl, rfl, ((hS.pull 1).pull 1)⟩
 rintro E w ⟨q6, rfl, q0e, q9, q0a, hS⟩
 replace hF := lv_s hF; obtain ⟨x13, hx13, hF⟩ := hF
 replace hF := ck_s hF; obtain ⟨q0f, hF⟩ := hF
 replace hF := lv_s hF; obtain ⟨x15, hx15, hF⟩ := hF
 replace hF := lv_s hF; obtain ⟨x16, hx16, hF⟩ := hF
 refine x_seq <| x_region <| p (yl_move q0e) <| p (yl_lss rfl rfl) <|
  p (yl_move q0a) <| p (yconvu wm_u32 uk_158 ik_159 rfl hx13) <| p (yl_move q0a) <| p (yshr rfl rfl q0f hx15) <|
  p (yconvu wm_u32 uk_158 ik_159 rfl hx16) <| ?_
 refine o_buildSlice (vs := [.int .u32 x13, .int .u32 x16]) (cs := [.int .u32 x13, .int .u32 x16]) sl_77 zero_159 (parts_eq (pt (va := .int .u32 x13) rfl (pt (va := .int .u32 x16) rfl pt0))) rfl (by intro v hv; simp only [List.mem_cons, List.not_mem_nil, or_false] at hv; first | (subst hv; rfl) | (rcases hv with rfl | rfl <;> rfl)) (by decide) rfl hS (fun b17 w' hS => ?_)
 have q0g : RepL (RpI .u32) ρ ([x13, x16] : List Int) [.int .u32 x13, .int .u32 x16] := (RepL.cons (cs := [.int .u32 x13]) rfl (RepL.cons (cs := [.int .u32 x16]) rfl RepL.nil))
 replace hS := St.vec_of (n := 2) (sz := (RpI .u32).sz) hS rfl (by decide)
 have q_ := St.vec_fz ((hS.pull 2).pull 1) q0g; obtain ⟨q0c, q7, q0d, hS⟩ := q_
 replace hF := bd_s hF; obtain ⟨q8, q0h, hF⟩ := hF
 have hcall := c_exact_made q0h q0d hS
 refine o_cc call_93 (args2 rfl rfl) hcall ?_
 rintro e w' ⟨q2, q0b, c_y0_ret_1_4_8, rfl, q3, hS⟩
 refine ⟨_, rfl, ?_⟩
 have e_ := q3.n; subst e_
 refine o_storeAgg (news := [.bool q8.fneg, .slice q2 q8.fmag.length c_y0_ret_1_4_8]) agg_79 q9 rfl rfl (by simp [over_length]) (hS.pull 1) (fun w' hS => ?_)
 refine x_done <| ?_
 have e_ := Option.some.inj (show some _ = some _ from hF); subst e_
 exact x_return ⟨_, ⟨_, _, _, rfl, q9, ldvA agg_79 rfl (fun j v hj => by rw [add0]; exact St.cell hS hj), rfl⟩, q0c, q2, q8.fmag.length, c_y0_ret_1_4_8, rfl, q7, q3, hS.drop⟩
attribute [irreducible] P_exact_Of

def P_exact_times_L7 (b1 : T_exact_Int) (x26 : Int) (q5 : Int) : (List Int × Int × Int) → Option ((List Int × Int × Int) ⊕ (List Int × Int)) := fun (q3, q4, q2) =>
 if q2 < (b1.fmag.length : Int) then
  ck (inb q2 b1.fmag.length) <|
  lv (gt b1.fmag q2) fun x34 =>
  ar (q5 + q2) fun x39 =>
  ck (inb x39 q3.length) <|
  lv (gt q3 x39) fun x41 =>
  lv (x41 % 18446744073709551616) fun x42 =>
  lv (x26 % 18446744073709551616) fun x44 =>
  lv (x34 % 18446744073709551616) fun x46 =>
  lv ((x44 * x46) % 18446744073709551616) fun x47 =>
  lv ((x42 + x47) % 18446744073709551616) fun x48 =>
  lv ((q4 + x48) % 18446744073709551616) fun x49 =>
  ar (q5 + q2) fun x53 =>
  lv (x49 % 4294967296) fun x55 =>
  ck (inb x53 q3.length) <|
  lv (stt q3 x53 x55) fun q6 =>
  ck (0 ≤ (32 : Int)) <|
  lv (shr .u64 x49 32) fun x58 =>
  ar (q2 + 1) fun x59 =>
  some (Sum.inl (q6, x58, x59))
 else
  some (Sum.inr (q3, q4))
def P_exact_times_L3 (a0 : T_exact_Int) (b1 : T_exact_Int) : (List Int × Int) → Option ((List Int × Int) ⊕ List Int) := fun (q3, q2) =>
 if q2 < (a0.fmag.length : Int) then
  ck (inb q2 a0.fmag.length) <|
  lv (gt a0.fmag q2) fun x26 =>
  bd (
   lp (P_exact_times_L7 b1 x26 q2) fuel (q3, 0, 0)) fun (q4, q5) =>
  ar (q2 + (b1.fmag.length : Int)) fun x65 =>
  lv (q5 % 4294967296) fun x67 =>
  ck (inb x65 q4.length) <|
  lv (stt q4 x65 x67) fun q6 =>
  ar (q2 + 1) fun x69 =>
  some (Sum.inl (q6, x69))
 else
  some (Sum.inr q3)
def P_exact_times (a0 : T_exact_Int) (b1 : T_exact_Int) : Option T_exact_Int :=
 ar ((a0.fmag.length : Int) + (b1.fmag.length : Int)) fun x17 =>
 ck (mkOk 4 x17) <|
 lv ((List.replicate (x17 : Int).toNat 0 : List Int)) fun q4 =>
 bd (
  lp (P_exact_times_L3 a0 b1) fuel (q4, 0)) fun q2 =>
 bd (P_exact_made (!(a0.fneg == b1.fneg)) q2) fun q3 =>
 some q3
set_option maxHeartbeats 4000000 in
set_option maxRecDepth 100000 in
theorem c_exact_times {w0 w : World} {l : List Assn} {ρ : Heap} {q4 : Option Addr} {q13 : Nat} {c_a0_1 : Nat} {q8 : Option Addr} {q14 : Nat} {c_b1_1 : Nat} {a0 : T_exact_Int} {b1 : T_exact_Int} {r : T_exact_Int} (hF : P_exact_times a0 b1 = some r) (q0s : RdS (RpI .u32) ρ q4 q13 c_a0_1 a0.fmag) (q0t : RdS (RpI .u32) ρ q8 q14 c_b1_1 b1.fmag) (hS : St w0 w (ro ρ :: l)) :
  Calls Try.prog 89 #[.agg #[.bool a0.fneg, .slice q4 q13 c_a0_1], .agg #[.bool b1.fneg, .slice q8 q14 c_b1_1]] w fun e w' => ∃ (ρ' : Heap) (q0k : Option Addr) (q0l : Nat) (c_y0_ret_1 : Nat), e = .returned (.agg #[.bool r.fneg, .slice q0k q0l c_y0_ret_1]) ∧ Le ρ ρ' ∧ RdS (RpI .u32) ρ' q0k q0l c_y0_ret_1 r.fmag ∧ St w0 w' (ro ρ' :: l) := by
 have e_ := q0s.n; subst e_
 have e_ := q0t.n; subst e_
 refine enterC Try.func89 rfl 77 rfl (by simp) ?_
 refine x_seq <| x_region <| ?_
 refine o_box (cs := [.bool a0.fneg, .slice q4 a0.fmag.length c_a0_1]) rfl rfl hS (fun b2 w' hS => ?_)
 refine o_box (cs := [.bool b1.fneg, .slice q8 b1.fmag.length c_b1_1]) rfl rfl hS (fun b3 w' hS => ?_)
 refine o_alloc zero_79 hS (fun b4 w' hS => ?_)
 replace hF := ar_s hF; obtain ⟨x17, hx17, hF⟩ := hF
 refine x_done <| x_seq <| x_region <| p (yl_field0 fld_79_1 rfl) <|
  pa (at_load one_77 rfl ((hS.pull 2).cell rfl)) <| p (yl_len_slice usl_77 rfl) <| p (yl_field0 fld_79_1 rfl) <| pa (at_load one_77 rfl ((hS.pull 1).cell rfl)) <|
  p (yl_len_slice usl_77 rfl) <| p (yadd rfl rfl hx17) <| ?_
 replace hF := ck_s hF; obtain ⟨q21, hF⟩ := hF
 replace hF := lv_s hF; obtain ⟨q2, q22, hF⟩ := hF
 refine o_mk sl_77 zero_159 (show (RpI .u32).ok ρ _ 0 from rfl) rfl rfl q21 (by decide) q22 hS (fun A18 cs18 w' hr18 hS => ?_)
 refine p (yl_assign rfl) <| x_done <| x_seq <| x_seq <|
  x_region <| p (yl_field0 fld_79_1 rfl) <| pa (at_load one_77 rfl ((hS.pull 3).cell rfl)) <| p (yl_len_slice usl_77 rfl) <|
  p (yl_move rfl) <| x_done <| ?_
 replace hF := bd_s hF; obtain ⟨oL3, hLL3, hF⟩ := hF
 refine x_join (fun E w => ∃ (q0d : List Value) (q0p : List Int), q0p = oL3 ∧ E 2 = .pointer (some ⟨b2, 0, none⟩) ∧ E 3 = .pointer (some ⟨b3, 0, none⟩) ∧ E 4 = .pointer (some ⟨b4, 0, none⟩) ∧ E 5 = .slice A18 q2.length q2.length ∧ RepL (RpI .u32) ρ q0p q0d ∧ St w0 w (cells b2 79 [.bool a0.fneg, .slice q4 a0.fmag.length c_a0_1] :: cells b3 79 [.bool b1.fneg, .slice q8 b1.fmag.length c_b1_1] :: cells b4 79 [.bool false, .slice none 0 0] :: vec 159 (RpI .u32).sz (.slice A18 q2.length q2.length) q2.length q0d :: ro ρ :: l)) ?_ ?_
 ·refine x_block ?_
  refine x_loop (fun k_ E w => ∃ (q5 : List Value) (q0a : List Int) (q3 : Int), lp (P_exact_times_L3 a0 b1) k_ (q0a, q3) = some oL3 ∧ E 2 = .pointer (some ⟨b2, 0, none⟩) ∧ E 3 = .pointer (some ⟨b3, 0, none⟩) ∧ E 4 = .pointer (some ⟨b4, 0, none⟩) ∧ E 5 = .slice A18 q2.length q2.length ∧ E 20 = .slice q4 a0.fmag.length c_a0_1 ∧ E 21 = .int .i64 (a0.fmag.length : Int) ∧ E 22 = .int .i64 q3 ∧ RepL (RpI .u32) ρ q0a q5 ∧ St w0 w (cells b2 79 [.bool a0.fneg, .slice q4 a0.fmag.length c_a0_1] :: cells b3 79 [.bool b1.fneg, .slice q8 b1.fmag.length c_b1_1] :: cells b4 79 [.bool false, .slice none 0 0] :: vec 159 (RpI .u32).sz (.slice A18 q2.length q2.length) q2.length q5 :: ro ρ :: l)) fuel ⟨cs18, q2, 0, hLL3, rfl, rfl, rfl, rfl, rfl, rfl, rfl, hr18, (((((hS.pull 4).pull 1).pull 2).pull 3).pull 4)⟩ ?_
  rintro kL3 E w ⟨q5, q0a, q3, hLL3, q15, q0u, q16, q17, q0v, q0w, q0h, q0m, hS⟩
  replace hLL3 := lp_s hLL3; obtain ⟨kL3, obL3, rfl, hFL3, hLL3⟩ := hLL3
  refine x_seq <| x_region <| p (yl_lss q0h q0w) <| x_done <|
   x_seq <|
   x_cond_p (q3 < (a0.fmag.length : Int)) rfl (fun hc23 => ?_) (fun hc23 => ?_)
  ·replace hFL3 := it_t hc23 hFL3
   replace hFL3 := ck_s hFL3; obtain ⟨q1h, hFL3⟩ := hFL3
   replace hFL3 := lv_s hFL3; obtain ⟨x26, hx26, hFL3⟩ := hFL3
   refine x_skip <| x_seq <| x_block <| x_seq <|
    x_region <| p (yl_move q0h) <| p (yix_f sl_77 q0v q0h q0s q1h) <| pa (at_load one_159 rfl (RdS.getW q0s (hS.pull 4) q1h hx26)) <|
    p (yl_assign rfl) <| p (yl_assign rfl) <| x_done <| x_seq <|
    x_region <| p (yl_assign rfl) <| x_done <| x_seq <|
    x_seq <| x_region <| p (yl_field0 fld_79_1 q0u) <| pa (at_load one_77 rfl ((hS.pull 1).cell rfl)) <|
    p (yl_len_slice usl_77 rfl) <| p (yl_move rfl) <| x_done <| ?_
   replace hFL3 := bd_s hFL3; obtain ⟨oL7, hLL7, hFL3⟩ := hFL3
   refine x_join (fun E w => ∃ (q0e : List Value) (q0q : List Int) (q0g : Int), (q0q, q0g) = oL7 ∧ E 2 = .pointer (some ⟨b2, 0, none⟩) ∧ E 3 = .pointer (some ⟨b3, 0, none⟩) ∧ E 4 = .pointer (some ⟨b4, 0, none⟩) ∧ E 5 = .slice A18 q2.length q2.length ∧ E 6 = .int .i64 q3 ∧ E 8 = .int .u64 q0g ∧ E 20 = .slice q4 a0.fmag.length c_a0_1 ∧ E 21 = .int .i64 (a0.fmag.length : Int) ∧ E 22 = .int .i64 q3 ∧ RepL (RpI .u32) ρ q0q q0e ∧ St w0 w (cells b2 79 [.bool a0.fneg, .slice q4 a0.fmag.length c_a0_1] :: cells b3 79 [.bool b1.fneg, .slice q8 b1.fmag.length c_b1_1] :: cells b4 79 [.bool false, .slice none 0 0] :: vec 159 (RpI .u32).sz (.slice A18 q2.length q2.length) q2.length q0e :: ro ρ :: l)) ?_ ?_
   ·refine x_block ?_
    refine x_loop (fun k_ E w => ∃ (q7 : List Value) (q0f : List Int) (q9 : Int) (q0i : Int), lp (P_exact_times_L7 b1 x26 q3) k_ (q0f, q9, q0i) = some oL7 ∧ E 2 = .pointer (some ⟨b2, 0, none⟩) ∧ E 3 = .pointer (some ⟨b3, 0, none⟩) ∧ E 4 = .pointer (some ⟨b4, 0, none⟩) ∧ E 5 = .slice A18 q2.length q2.length ∧ E 6 = .int .i64 q3 ∧ E 7 = .int .u32 x26 ∧ E 8 = .int .u64 q9 ∧ E 20 = .slice q4 a0.fmag.length c_a0_1 ∧ E 21 = .int .i64 (a0.fmag.length : Int) ∧ E 22 = .int .i64 q3 ∧ E 28 = .slice q8 b1.fmag.length c_b1_1 ∧ E 29 = .int .i64 (b1.fmag.length : Int) ∧ E 30 = .int .i64 q0i ∧ RepL (RpI .u32) ρ q0f q7 ∧ St w0 w (cells b2 79 [.bool a0.fneg, .slice q4 a0.fmag.length c_a0_1] :: cells b3 79 [.bool b1.fneg, .slice q8 b1.fmag.length c_b1_1] :: cells b4 79 [.bool false, .slice none 0 0] :: vec 159 (RpI .u32).sz (.slice A18 q2.length q2.length) q2.length q7 :: ro ρ :: l)) fuel ⟨q5, q0a, 0, 0, hLL7, q15, q0u, q16, q17, rfl, rfl, rfl, q0v, q0w, q0h, rfl, rfl, rfl, q0m, (((((hS.pull 4).pull 4).pull 4).pull 4).pull 4)⟩ ?_
    rintro kL7 E w ⟨q7, q0f, q9, q0i, hLL7, q18, q19, q1a, q0n, q0o, q1b, q1c, q0x, q0y, q0z, q10, q11, q0j, q6, hS⟩
    replace hLL7 := lp_s hLL7; obtain ⟨kL7, obL7, rfl, hFL7, hLL7⟩ := hLL7
    refine x_seq <| x_region <| p (yl_lss q0j q11) <| x_done <|
     x_seq <|
     x_cond_p (q0i < (b1.fmag.length : Int)) rfl (fun hc31 => ?_) (fun hc31 => ?_)
    ·replace hFL7 := it_t hc31 hFL7
     replace hFL7 := ck_s hFL7; obtain ⟨q1i, hFL7⟩ := hFL7
     replace hFL7 := lv_s hFL7; obtain ⟨x34, hx34, hFL7⟩ := hFL7
     replace hFL7 := ar_s hFL7; obtain ⟨x39, hx39, hFL7⟩ := hFL7
     replace hFL7 := ck_s hFL7; obtain ⟨q1j, hFL7⟩ := hFL7
     replace hFL7 := lv_s hFL7; obtain ⟨x41, hx41, hFL7⟩ := hFL7
     replace hFL7 := lv_s hFL7; obtain ⟨x42, hx42, hFL7⟩ := hFL7
     replace hFL7 := lv_s hFL7; obtain ⟨x44, hx44, hFL7⟩ := hFL7
     replace hFL7 := lv_s hFL7; obtain ⟨x46, hx46, hFL7⟩ := hFL7
     replace hFL7 := lv_s hFL7; obtain ⟨x47, hx47, hFL7⟩ := hFL7
     replace hFL7 := lv_s hFL7; obtain ⟨x48, hx48, hFL7⟩ := hFL7
     replace hFL7 := lv_s hFL7; obtain ⟨x49, hx49, hFL7⟩ := hFL7
     replace hFL7 := ar_s hFL7; obtain ⟨x53, hx53, hFL7⟩ := hFL7
     replace hFL7 := lv_s hFL7; obtain ⟨x55, hx55, hFL7⟩ := hFL7
     replace hFL7 := ck_s hFL7; obtain ⟨q1d, hFL7⟩ := hFL7
     refine x_skip <| x_seq <| x_block <| x_seq <|
      x_region <| p (yl_move q0j) <| p (yix_f sl_77 q10 q0j q0t q1i) <| pa (at_load one_159 rfl (RdS.getW q0t (hS.pull 4) q1i hx34)) <|
      p (yl_assign rfl) <| p (yl_assign rfl) <| x_done <| x_seq <|
      x_region <| p (yl_move q1c) <| p (yl_move q0n) <| p (yl_move q0o) <|
      p (yl_move rfl) <| p (yadd rfl rfl hx39) <| p (yix_o sl_77 rfl rfl (hS.pull 3) q6 q1j) <| pa (at_load one_159 rfl (RepL.getW q6 (hS.pull 3) q1j hx41)) <|
      p (yconvu wm_u64 uk_159 ik_158 rfl hx42) <| p (yl_move q1b) <| p (yconvu wm_u64 uk_159 ik_158 rfl hx44) <| p (yl_move rfl) <|
      p (yconvu wm_u64 uk_159 ik_158 rfl hx46) <| p (ymulu wm_u64 rfl rfl hx47) <| p (yaddu wm_u64 rfl rfl hx48) <| p (yaddu wm_u64 rfl rfl hx49) <|
      p (yl_assign rfl) <| x_done <| x_seq <| x_region <|
      p (yl_move q0n) <| p (yl_move q0o) <| p (yl_move rfl) <| p (yadd rfl rfl hx53) <|
      p (yl_move rfl) <| p (yconvu wm_u32 uk_158 ik_159 rfl hx55) <| p (yix_o sl_77 rfl rfl (hS.pull 3) q6 q1d) <| ?_
     replace hFL7 := lv_s hFL7; obtain ⟨q23, q1o, hFL7⟩ := hFL7
     refine o_put' (news := [.int .u32 x55]) sz_159 rfl rfl rfl rfl (o := 0) rfl q1d rfl (hS.pull 3) q6 (Le.refl _) (fun c hc => ok_all hc (show (RpI .u32).ok ρ [.int .u32 x55] x55 from rfl)) q1o (fun q1p w' q1q hS => ?_)
     replace hFL7 := ck_s hFL7; obtain ⟨q1r, hFL7⟩ := hFL7
     replace hFL7 := lv_s hFL7; obtain ⟨x58, hx58, hFL7⟩ := hFL7
     replace hFL7 := ar_s hFL7; obtain ⟨x59, hx59, hFL7⟩ := hFL7
     refine x_done <| x_region <| p (yl_move rfl) <| p (yshr rfl rfl q1r hx58) <|
      p (yl_assign rfl) <| x_done <| x_blk <| x_region <|
      p (yadd q0j rfl hx59) <| p (yl_move rfl) <| x_done <| ?_
     have e_ := Option.some.inj (show some _ = some _ from hFL7); subst e_
     exact x_inv ⟨kL7, Nat.lt_succ_self _, q1p, q23, x58, x59, hLL7, q18, q19, q1a, q0n, q0o, q1b, rfl, q0x, q0y, q0z, q10, q11, rfl, q1q, (((((hS.pull 4).pull 1).pull 4).pull 4).pull 4)⟩
    ·replace hFL7 := it_f hc31 hFL7
     refine x_exitTo _ rfl <| ?_
     have e_ := Option.some.inj (show some _ = some _ from hFL7); subst e_
     exact x_inv ⟨q7, q0f, q9, hLL7, q18, q19, q1a, q0n, q0o, q1c, q0x, q0y, q0z, q6, (((((hS.pull 4).pull 4).pull 4).pull 4).pull 4)⟩
   rintro E w ⟨q0e, q0q, q0g, rfl, q24, q1k, q25, q1l, q26, q27, q1s, q1t, q1u, q0r, hS⟩
   replace hFL3 := ar_s hFL3; obtain ⟨x65, hx65, hFL3⟩ := hFL3
   replace hFL3 := lv_s hFL3; obtain ⟨x67, hx67, hFL3⟩ := hFL3
   replace hFL3 := ck_s hFL3; obtain ⟨q1e, hFL3⟩ := hFL3
   refine x_region <| p (yl_move q1l) <| p (yl_move q26) <| p (yl_field0 fld_79_1 q1k) <|
    pa (at_load one_77 rfl ((hS.pull 1).cell rfl)) <| p (yl_len_slice usl_77 rfl) <| p (yadd rfl rfl hx65) <| p (yl_move q27) <|
    p (yconvu wm_u32 uk_158 ik_159 rfl hx67) <| p (yix_o sl_77 rfl rfl (hS.pull 3) q0r q1e) <| ?_
   replace hFL3 := lv_s hFL3; obtain ⟨q28, q1v, hFL3⟩ := hFL3
   refine o_put' (news := [.int .u32 x67]) sz_159 rfl rfl rfl rfl (o := 0) rfl q1e rfl (hS.pull 3) q0r (Le.refl _) (fun c hc => ok_all hc (show (RpI .u32).ok ρ [.int .u32 x67] x67 from rfl)) q1v (fun q1w w' q1x hS => ?_)
   replace hFL3 := ar_s hFL3; obtain ⟨x69, hx69, hFL3⟩ := hFL3
   refine x_done <| x_blk <| x_region <| p (yadd q1u rfl hx69) <|
    p (yl_move rfl) <| x_done <| ?_
   have e_ := Option.some.inj (show some _ = some _ from hFL3); subst e_
   exact x_inv ⟨kL3, Nat.lt_succ_self _, q1w, q28, x69, hLL3, q24, q1k, q25, q1l, q1s, q1t, rfl, q1x, (((((hS.pull 4).pull 1).pull 4).pull 4).pull 4)⟩
  ·replace hFL3 := it_f hc23 hFL3
   refine x_exitTo _ rfl <| ?_
   have e_ := Option.some.inj (show some _ = some _ from hFL3); subst e_
   exact x_inv ⟨q5, q0a, hLL3, q15, q0u, q16, q17, q0m, (((((hS.pull 4).pull 4).pull 4).pull 4).pull 4)⟩
 rintro E w ⟨q0d, q0p, rfl, q29, q2a, q1m, q2b, q1f, hS⟩
 refine x_seq <| x_region <| p (yl_field0 fld_79_0 q29) <| pa (at_load one_4 rfl (hS.cell rfl)) <|
  p (yl_field0 fld_79_0 q2a) <| pa (at_load one_4 rfl ((hS.pull 1).cell rfl)) <| p (yneb ub_4 rfl rfl) <| p (yl_move q2b) <| ?_
 have q_ := St.vec_fz ((hS.pull 4).pull 4) q1f; obtain ⟨q1y, q1g, q1z, hS⟩ := q_
 replace hF := bd_s hF; obtain ⟨q12, q20, hF⟩ := hF
 have hcall := c_exact_made q20 q1z hS
 refine o_cc call_93 (args2 rfl rfl) hcall ?_
 rintro e w' ⟨q0b, q1n, c_y0_ret_1_15_6, rfl, q0c, hS⟩
 refine ⟨_, rfl, ?_⟩
 have e_ := q0c.n; subst e_
 refine o_storeAgg (news := [.bool q12.fneg, .slice q0b q12.fmag.length c_y0_ret_1_15_6]) agg_79 q1m rfl rfl (by simp [over_length]) (hS.pull 3) (fun w' hS => ?_)
 refine x_done <| ?_
 have e_ := Option.some.inj (show some _ = some _ from hF); subst e_
 exact x_return ⟨_, ⟨_, _, _, rfl, q1m, ldvA agg_79 rfl (fun j v hj => by rw [add0]; exact St.cell hS hj), rfl⟩, q1y, q0b, q12.fmag.length, c_y0_ret_1_15_6, rfl, q1g, q0c, (((hS.drop.pull 1).drop.pull 1).drop)⟩
attribute [irreducible] P_exact_times

def P_math_bits_Len32 (x0 : Int) : Option Int :=
 bd (
  if 65536 ≤ x0 then
   ck (0 ≤ (16 : Int)) <|
   lv (shr .u32 x0 16) fun x6 =>
   some (x6, (16 : Int))
  else
   some (x0, (0 : Int))) fun (q2, q3) =>
 bd (
  if 256 ≤ q2 then
   ck (0 ≤ (8 : Int)) <|
   lv (shr .u32 q2 8) fun x10 =>
   ar (q3 + 8) fun x12 =>
   some (x10, x12)
  else
   some (q2, q3)) fun (q4, q5) =>
 lv (q4 % 256) fun x15 =>
 ck (inb x15 ks_633d862b.size) <|
 lv (byteAt ks_633d862b x15) fun x16 =>
 ar (x16) fun x17 =>
 ar (q5 + x17) fun x18 =>
 some x18
set_option maxHeartbeats 4000000 in
set_option maxRecDepth 100000 in
theorem c_math_bits_Len32 {w0 w : World} {l : List Assn} {ρ : Heap} {x0 : Int} {r : Int} (hF : P_math_bits_Len32 x0 = some r) (hS : St w0 w (ro ρ :: l)) :
  Calls Try.prog 141 #[.int .u32 x0] w fun e w' => e = .returned (.int .i64 r) ∧ St w0 w' (ro ρ :: l) := by
 refine enterC Try.func141 rfl 19 rfl (by simp) ?_
 refine x_seq <| x_region <| p (yl_assign rfl) <| x_done <|
  x_seq <| x_seq <| x_region <| p (yl_move rfl) <|
  p (yl_geq rfl rfl) <| x_done <| ?_
 replace hF := bd_s hF; obtain ⟨oc4, hFc4, hF⟩ := hF
 refine x_join (fun E w => ∃ (q2 : Int) (q3 : Int), (q2, q3) = oc4 ∧ E 0 = .int .u32 q2 ∧ E 2 = .int .i64 q3 ∧ St w0 w (ro ρ :: l)) ?_ ?_
 ·refine x_cond_p (65536 ≤ x0) rfl (fun hc4 => ?_) (fun hc4 => ?_)
  ·replace hFc4 := it_t hc4 hFc4
   replace hFc4 := ck_s hFc4; obtain ⟨q8, hFc4⟩ := hFc4
   replace hFc4 := lv_s hFc4; obtain ⟨x6, hx6, hFc4⟩ := hFc4
   refine x_seq <| x_region <| p (yl_move rfl) <| p (yshr rfl rfl q8 hx6) <|
    p (yl_assign rfl) <| x_done <| x_region <| p (yl_assign rfl) <|
    x_done <| ?_
   exact x_inv ⟨x6, 16, (Option.some.inj (show some _ = some _ from hFc4)), rfl, rfl, hS⟩
  ·replace hFc4 := it_f hc4 hFc4
   refine x_skip <| ?_
   exact x_inv ⟨x0, 0, (Option.some.inj (show some _ = some _ from hFc4)), rfl, rfl, hS⟩
 rintro E w ⟨q2, q3, rfl, q4, q7, hS⟩
 refine x_seq <| x_seq <| x_region <| p (yl_move q4) <|
  p (yl_geq rfl rfl) <| x_done <| ?_
 replace hF := bd_s hF; obtain ⟨oc8, hFc8, hF⟩ := hF
 refine x_join (fun E w => ∃ (q5 : Int) (q6 : Int), (q5, q6) = oc8 ∧ E 0 = .int .u32 q5 ∧ E 2 = .int .i64 q6 ∧ St w0 w (ro ρ :: l)) ?_ ?_
 ·refine x_cond_p (256 ≤ q2) rfl (fun hc8 => ?_) (fun hc8 => ?_)
  ·replace hFc8 := it_t hc8 hFc8
   replace hFc8 := ck_s hFc8; obtain ⟨q9, hFc8⟩ := hFc8
   replace hFc8 := lv_s hFc8; obtain ⟨x10, hx10, hFc8⟩ := hFc8
   replace hFc8 := ar_s hFc8; obtain ⟨x12, hx12, hFc8⟩ := hFc8
   refine x_seq <| x_region <| p (yl_move q4) <| p (yshr rfl rfl q9 hx10) <|
    p (yl_assign rfl) <| x_done <| x_region <| p (yl_move q7) <|
    p (yadd rfl rfl hx12) <| p (yl_assign rfl) <| x_done <| ?_
   exact x_inv ⟨x10, x12, (Option.some.inj (show some _ = some _ from hFc8)), rfl, rfl, hS⟩
  ·replace hFc8 := it_f hc8 hFc8
   refine x_skip <| ?_
   exact x_inv ⟨q2, q3, (Option.some.inj (show some _ = some _ from hFc8)), q4, q7, hS⟩
 rintro E w ⟨q5, q6, rfl, q0a, q0b, hS⟩
 replace hF := lv_s hF; obtain ⟨x15, hx15, hF⟩ := hF
 replace hF := ck_s hF; obtain ⟨q0c, hF⟩ := hF
 replace hF := lv_s hF; obtain ⟨x16, hx16, hF⟩ := hF
 replace hF := ar_s hF; obtain ⟨x17, hx17, hF⟩ := hF
 replace hF := ar_s hF; obtain ⟨x18, hx18, hF⟩ := hF
 refine x_seq <| x_region <| p (yl_move q0b) <| p (yl_move q0a) <|
  p (yconvu wm_u8 uk_159 ik_5 rfl hx15) <| p (ystr us_9 rfl rfl q0c hx16) <| p (yconvi uk_5 ik_3 rfl hx17) <| p (yadd rfl rfl hx18) <|
  p (yl_assign rfl) <| x_done <| ?_
 have e_ := Option.some.inj (show some _ = some _ from hF); subst e_
 exact x_return ⟨_, ⟨_, _, rfl, rfl, rfl⟩, rfl, hS⟩
attribute [irreducible] P_math_bits_Len32

def P_exact_Bits (a0 : T_exact_Int) : Option Int :=
 if (a0.fmag.length : Int) = 0 then
  some (0 : Int)
 else
  ar ((a0.fmag.length : Int) - 1) fun x10 =>
  ar ((32 : Int) * x10) fun x11 =>
  ar ((a0.fmag.length : Int) - 1) fun x17 =>
  ck (inb x17 a0.fmag.length) <|
  lv (gt a0.fmag x17) fun x19 =>
  bd (P_math_bits_Len32 x19) fun q2 =>
  ar (x11 + q2) fun x21 =>
  some x21
set_option maxHeartbeats 4000000 in
set_option maxRecDepth 100000 in
theorem c_exact_Bits {w0 w : World} {l : List Assn} {ρ : Heap} {q2 : Option Addr} {q4 : Nat} {c_a0_1 : Nat} {a0 : T_exact_Int} {r : Int} (hF : P_exact_Bits a0 = some r) (q3 : RdS (RpI .u32) ρ q2 q4 c_a0_1 a0.fmag) (hS : St w0 w (ro ρ :: l)) :
  Calls Try.prog 123 #[.agg #[.bool a0.fneg, .slice q2 q4 c_a0_1]] w fun e w' => e = .returned (.int .i64 r) ∧ St w0 w' (ro ρ :: l) := by
 have e_ := q3.n; subst e_
 refine enterC Try.func123 rfl 22 rfl (by simp) ?_
 refine x_seq <| x_region <| ?_
 refine o_box (cs := [.bool a0.fneg, .slice q2 a0.fmag.length c_a0_1]) rfl rfl hS (fun b1 w' hS => ?_)
 refine p (yl_assign rfl) <| x_done <| x_seq <| x_seq <|
  x_region <| p (yl_field0 fld_79_1 rfl) <| pa (at_load one_77 rfl (hS.cell rfl)) <| p (yl_len_slice usl_77 rfl) <|
  p (yl_eql rfl rfl) <| x_done <|
  x_cond_p ((a0.fmag.length : Int) = 0) rfl (fun hc6 => ?_) (fun hc6 => ?_)
 ·replace hF := it_t hc6 hF
  refine x_seq <| x_region <| p (yl_assign rfl) <| x_done <| ?_
  have e_ := Option.some.inj (show some _ = some _ from hF); subst e_
  exact x_return ⟨_, ⟨_, _, rfl, rfl, rfl⟩, rfl, hS.drop⟩
 ·replace hF := it_f hc6 hF
  replace hF := ar_s hF; obtain ⟨x10, hx10, hF⟩ := hF
  replace hF := ar_s hF; obtain ⟨x11, hx11, hF⟩ := hF
  replace hF := ar_s hF; obtain ⟨x17, hx17, hF⟩ := hF
  replace hF := ck_s hF; obtain ⟨q5, hF⟩ := hF
  replace hF := lv_s hF; obtain ⟨x19, hx19, hF⟩ := hF
  replace hF := bd_s hF; obtain ⟨q7, q6, hF⟩ := hF
  replace hF := ar_s hF; obtain ⟨x21, hx21, hF⟩ := hF
  refine x_skip <| x_seq <| x_still mixed (by kernel_rfl) hS <| q (yl_field0 fld_79_1 rfl) <|
   qa (fun w' hS => at_load one_77 rfl (hS.cell rfl)) <| q (yl_len_slice usl_77 rfl) <| q (ysub rfl rfl hx10) <| q (ymul rfl rfl hx11) <|
   q (yl_field0 fld_79_1 rfl) <| qa (fun w' hS => at_load one_77 rfl (hS.cell rfl)) <| q (yl_field0 fld_79_1 rfl) <| qa (fun w' hS => at_load one_77 rfl (hS.cell rfl)) <|
   q (yl_len_slice usl_77 rfl) <| q (ysub rfl rfl hx17) <| q (yix_f sl_77 rfl rfl q3 q5) <| qa (fun w' hS => at_load one_159 rfl (RdS.getW q3 (hS.pull 1) q5 hx19)) <|
   qcc (v := .int .i64 q7) call_141 (args1 rfl) (fun w' hS => by
    have hcall := c_math_bits_Len32 q6  (hS.pull 1)
    exact (Calls.mono hcall (fun e w'' h => And.intro h.1 (h.2.pull 1)))) <| q (yadd rfl rfl hx21) <| q (yl_assign rfl) <|
   q_done fun w' hS => ?_
  have e_ := Option.some.inj (show some _ = some _ from hF); subst e_
  exact x_return ⟨_, ⟨_, _, rfl, rfl, rfl⟩, rfl, hS.drop⟩
attribute [irreducible] P_exact_Bits

def P_exact_fit (a0 : T_exact_Int) : Option (T_exact_Int × Int) :=
 bd (P_exact_Bits a0) fun q2 =>
 if 65536 < q2 then
  some ((T_exact_Int.mk false []), (3 : Int))
 else
  some (a0, (0 : Int))
set_option maxHeartbeats 4000000 in
set_option maxRecDepth 100000 in
theorem c_exact_fit {w0 w : World} {l : List Assn} {ρ : Heap} {q2 : Option Addr} {q6 : Nat} {c_a0_1 : Nat} {a0 : T_exact_Int} {r : (T_exact_Int × Int)} (hF : P_exact_fit a0 = some r) (q5 : RdS (RpI .u32) ρ q2 q6 c_a0_1 a0.fmag) (hS : St w0 w (ro ρ :: l)) :
  Calls Try.prog 88 #[.agg #[.bool a0.fneg, .slice q2 q6 c_a0_1]] w fun e w' => ∃ (q3 : Option Addr) (q4 : Nat) (c_y0_ret_1 : Nat), e = .returned (.tuple #[.agg #[.bool r.1.fneg, .slice q3 q4 c_y0_ret_1], .int .i64 r.2]) ∧ RdS (RpI .u32) ρ q3 q4 c_y0_ret_1 r.1.fmag ∧ St w0 w' (ro ρ :: l) := by
 have e_ := q5.n; subst e_
 refine enterC Try.func88 rfl 9 rfl (by simp) ?_
 refine x_seq <| x_region <| ?_
 refine o_box (cs := [.bool a0.fneg, .slice q2 a0.fmag.length c_a0_1]) rfl rfl hS (fun b1 w' hS => ?_)
 refine o_alloc zero_79 hS (fun b2 w' hS => ?_)
 replace hF := bd_s hF; obtain ⟨q8, q7, hF⟩ := hF
 refine p (yl_assign rfl) <| x_done <| x_seq <| x_seq <|
  x_region <| pa (v := .agg #[.bool a0.fneg, .slice q2 a0.fmag.length c_a0_1]) (ld_sub agg_79 rfl rfl rfl (hS.pull 1)) <| ?_
 have hcall := c_exact_Bits q7 q5 (hS.pull 2)
 refine o_cc call_123 (args1 rfl) ((Calls.mono hcall (fun e w'' h => And.intro h.1 ((h.2.pull 2).pull 2)))) ?_
 rintro e w' ⟨rfl, hS⟩
 refine ⟨_, rfl, ?_⟩
 refine p (yl_gtr rfl rfl) <| x_done <|
  x_cond_p (65536 < q8) rfl (fun hc6 => ?_) (fun hc6 => ?_)
 ·replace hF := it_t hc6 hF
  refine x_seq <| x_region <| p (v := .agg #[.bool false, .slice none 0 0]) (yl_build bld_79 bldf_79 (parts_eq pt0) (by kernel_rfl)) <| ?_
  refine o_storeAgg (news := [.bool false, .slice none 0 0]) agg_79 rfl rfl rfl (by simp [over_length]) hS (fun w' hS => ?_)
  refine p (yl_assign rfl) <| x_done <| ?_
  have e_ := Option.some.inj (show some _ = some _ from hF); subst e_
  exact x_return ⟨_, ⟨_, _, _, rfl, rfl, ldvA agg_79 rfl (fun j v hj => by rw [add0]; exact St.cell hS hj), _, _, rfl, rfl, rfl⟩, none, 0, 0, rfl, (RdS.nil (A := none) (c := 0)), hS.drop.drop⟩
 ·replace hF := it_f hc6 hF
  refine x_skip <| x_seq <| x_region <| pa (v := .agg #[.bool a0.fneg, .slice q2 a0.fmag.length c_a0_1]) (ld_sub agg_79 rfl rfl rfl (hS.pull 1)) <| ?_
  refine o_storeAgg (news := [.bool a0.fneg, .slice q2 a0.fmag.length c_a0_1]) agg_79 rfl rfl rfl (by simp [over_length]) hS (fun w' hS => ?_)
  refine p (yl_assign rfl) <| x_done <| ?_
  have e_ := Option.some.inj (show some _ = some _ from hF); subst e_
  exact x_return ⟨_, ⟨_, _, _, rfl, rfl, ldvA agg_79 rfl (fun j v hj => by rw [add0]; exact St.cell hS hj), _, _, rfl, rfl, rfl⟩, q2, a0.fmag.length, c_a0_1, rfl, q5, hS.drop.drop⟩
attribute [irreducible] P_exact_fit

def P_exact_Mul (a0 : T_exact_Int) (b1 : T_exact_Int) : Option (T_exact_Int × Int) :=
 bd (P_exact_times a0 b1) fun q3 =>
 bd (P_exact_fit q3) fun q2 =>
 some (q2.1, q2.2)
set_option maxHeartbeats 4000000 in
set_option maxRecDepth 100000 in
theorem c_exact_Mul {w0 w : World} {l : List Assn} {ρ : Heap} {q5 : Option Addr} {q9 : Nat} {c_a0_1 : Nat} {q6 : Option Addr} {q0a : Nat} {c_b1_1 : Nat} {a0 : T_exact_Int} {b1 : T_exact_Int} {r : (T_exact_Int × Int)} (hF : P_exact_Mul a0 b1 = some r) (q0b : RdS (RpI .u32) ρ q5 q9 c_a0_1 a0.fmag) (q0c : RdS (RpI .u32) ρ q6 q0a c_b1_1 b1.fmag) (hS : St w0 w (ro ρ :: l)) :
  Calls Try.prog 39 #[.agg #[.bool a0.fneg, .slice q5 q9 c_a0_1], .agg #[.bool b1.fneg, .slice q6 q0a c_b1_1]] w fun e w' => ∃ (ρ' : Heap) (q7 : Option Addr) (q8 : Nat) (c_y0_ret_1 : Nat), e = .returned (.tuple #[.agg #[.bool r.1.fneg, .slice q7 q8 c_y0_ret_1], .int .i64 r.2]) ∧ Le ρ ρ' ∧ RdS (RpI .u32) ρ' q7 q8 c_y0_ret_1 r.1.fmag ∧ St w0 w' (ro ρ' :: l) := by
 have e_ := q0b.n; subst e_
 have e_ := q0c.n; subst e_
 refine enterC Try.func39 rfl 12 rfl (by simp) ?_
 refine x_seq <| x_region <| ?_
 refine o_box (cs := [.bool a0.fneg, .slice q5 a0.fmag.length c_a0_1]) rfl rfl hS (fun b2 w' hS => ?_)
 refine o_box (cs := [.bool b1.fneg, .slice q6 b1.fmag.length c_b1_1]) rfl rfl hS (fun b3 w' hS => ?_)
 refine o_alloc zero_79 hS (fun b4 w' hS => ?_)
 replace hF := bd_s hF; obtain ⟨q0l, q0j, hF⟩ := hF
 refine p (yl_assign rfl) <| x_done <| x_seq <| x_region <|
  pa (v := .agg #[.bool a0.fneg, .slice q5 a0.fmag.length c_a0_1]) (ld_sub agg_79 rfl rfl rfl (hS.pull 2)) <| pa (v := .agg #[.bool b1.fneg, .slice q6 b1.fmag.length c_b1_1]) (ld_sub agg_79 rfl rfl rfl (hS.pull 1)) <| ?_
 have hcall := c_exact_times q0j q0b q0c (hS.pull 3)
 refine o_cc call_89 (args2 rfl rfl) hcall ?_
 rintro e w' ⟨q0h, q0e, q0f, c_y0_ret_1_1_2, rfl, q0i, q2, hS⟩
 refine ⟨_, rfl, ?_⟩
 have e_ := q2.n; subst e_
 replace hF := bd_s hF; obtain ⟨q0d, q0k, hF⟩ := hF
 have hcall := c_exact_fit q0k q2 hS
 refine o_cc call_88 (args1 rfl) hcall ?_
 rintro e w' ⟨q3, q0g, c_y0_ret_1_1_3, rfl, q4, hS⟩
 refine ⟨_, rfl, ?_⟩
 have e_ := q4.n; subst e_
 refine p (yl_extract rfl rfl) <| p (yl_extract rfl rfl) <| ?_
 refine o_storeAgg (news := [.bool q0d.1.fneg, .slice q3 q0d.1.fmag.length c_y0_ret_1_1_3]) agg_79 rfl rfl rfl (by simp [over_length]) (hS.pull 1) (fun w' hS => ?_)
 refine p (yl_assign rfl) <| x_done <| ?_
 have e_ := Option.some.inj (show some _ = some _ from hF); subst e_
 exact x_return ⟨_, ⟨_, _, _, rfl, rfl, ldvA agg_79 rfl (fun j v hj => by rw [add0]; exact St.cell hS hj), _, _, rfl, rfl, rfl⟩, q0h, q3, q0d.1.fmag.length, c_y0_ret_1_1_3, rfl, q0i, q4, (((hS.drop.pull 1).drop.pull 1).drop)⟩
attribute [irreducible] P_exact_Mul

def P_exact_addMag_L6 (q6 : List Int) (q7 : List Int) : (List Int × Int × Int) → Option ((List Int × Int × Int) ⊕ (List Int × Int)) := fun (q3, q4, q2) =>
 if q2 < (q6.length : Int) then
  ck (inb q2 q6.length) <|
  lv (gt q6 q2) fun x26 =>
  lv (x26 % 18446744073709551616) fun x29 =>
  lv ((q4 + x29) % 18446744073709551616) fun x30 =>
  bd (
   if q2 < (q7.length : Int) then
    ck (inb q2 q7.length) <|
    lv (gt q7 q2) fun x39 =>
    lv (x39 % 18446744073709551616) fun x40 =>
    lv ((x30 + x40) % 18446744073709551616) fun x41 =>
    some x41
   else
    some x30) fun q5 =>
  lv (q5 % 4294967296) fun x45 =>
  ck (inb q2 q3.length) <|
  lv (stt q3 q2 x45) fun q8 =>
  ck (0 ≤ (32 : Int)) <|
  lv (shr .u64 q5 32) fun x48 =>
  ar (q2 + 1) fun x49 =>
  some (Sum.inl (q8, x48, x49))
 else
  some (Sum.inr (q3, q4))
def P_exact_addMag (a0 : List Int) (b1 : List Int) : Option (List Int) :=
 bd (
  if (a0.length : Int) < (b1.length : Int) then
   some (b1, a0)
  else
   some (a0, b1)) fun (q2, q5) =>
 ar ((q2.length : Int) + 1) fun x18 =>
 ck (mkOk 4 x18) <|
 lv ((List.replicate (x18 : Int).toNat 0 : List Int)) fun q7 =>
 bd (
  lp (P_exact_addMag_L6 q2 q5) fuel (q7, 0, 0)) fun (q3, q4) =>
 lv (q4 % 4294967296) fun x54 =>
 ck (inb (q2.length : Int) q3.length) <|
 lv (stt q3 (q2.length : Int) x54) fun q6 =>
 some q6
set_option maxHeartbeats 4000000 in
set_option maxRecDepth 100000 in
theorem c_exact_addMag {w0 w : World} {l : List Assn} {ρ : Heap} {q0v : Option Addr} {q1a : Nat} {c_a0 : Nat} {q0w : Option Addr} {q1b : Nat} {c_b1 : Nat} {a0 : List Int} {b1 : List Int} {r : List Int} (hF : P_exact_addMag a0 b1 = some r) (q13 : RdS (RpI .u32) ρ q0v q1a c_a0 a0) (q14 : RdS (RpI .u32) ρ q0w q1b c_b1 b1) (hS : St w0 w (ro ρ :: l)) :
  Calls Try.prog 126 #[.slice q0v q1a c_a0, .slice q0w q1b c_b1] w fun e w' => ∃ (q0r : Option Addr) (q0g : Nat) (c_y0_ret : Nat) (q0p : List Value), e = .returned (.slice q0r q0g c_y0_ret) ∧ RepL (RpI .u32) ρ r q0p ∧ St w0 w' (vec 159 (RpI .u32).sz (.slice q0r q0g c_y0_ret) q0g q0p :: ro ρ :: l) := by
 have e_ := q13.n; subst e_
 have e_ := q14.n; subst e_
 refine enterC Try.func126 rfl 57 rfl (by simp) ?_
 refine x_seq <| x_region <| p (yl_assign rfl) <| x_done <|
  x_seq <| x_seq <| x_region <| p (yl_move rfl) <|
  p (yl_len_slice usl_77 rfl) <| p (yl_move rfl) <| p (yl_len_slice usl_77 rfl) <| p (yl_lss rfl rfl) <|
  x_done <| ?_
 replace hF := bd_s hF; obtain ⟨oc13, hFc13, hF⟩ := hF
 refine x_join (fun E w => ∃ (q4 : Option Addr) (q0h : Nat) (c_a0_c13 : Nat) (q8 : Option Addr) (q0i : Nat) (c_b1_c13 : Nat) (q2 : List Int) (q9 : List Int), (q2, q9) = oc13 ∧ E 0 = .slice q4 q0h c_a0_c13 ∧ E 1 = .slice q8 q0i c_b1_c13 ∧ RdS (RpI .u32) ρ q4 q0h c_a0_c13 q2 ∧ RdS (RpI .u32) ρ q8 q0i c_b1_c13 q9 ∧ St w0 w (ro ρ :: l)) ?_ ?_
 ·refine x_cond_p ((a0.length : Int) < (b1.length : Int)) rfl (fun hc13 => ?_) (fun hc13 => ?_)
  ·replace hFc13 := it_t hc13 hFc13
   refine x_region <| p (yl_move rfl) <| p (yl_move rfl) <| p (yl_assign rfl) <|
    p (yl_assign rfl) <| x_done <| ?_
   exact x_inv ⟨q0w, b1.length, c_b1, q0v, a0.length, c_a0, b1, a0, (Option.some.inj (show some _ = some _ from hFc13)), rfl, rfl, q14, q13, hS⟩
  ·replace hFc13 := it_f hc13 hFc13
   refine x_skip <| ?_
   exact x_inv ⟨q0v, a0.length, c_a0, q0w, b1.length, c_b1, a0, b1, (Option.some.inj (show some _ = some _ from hFc13)), rfl, rfl, q13, q14, hS⟩
 rintro E w ⟨q4, q0h, c_a0_c13, q8, q0i, c_b1_c13, q2, q9, rfl, q0s, q1c, q0j, q0k, hS⟩
 have e_ := q0j.n; subst e_
 have e_ := q0k.n; subst e_
 replace hF := ar_s hF; obtain ⟨x18, hx18, hF⟩ := hF
 refine x_seq <| x_region <| p (yl_move q0s) <| p (yl_len_slice usl_77 rfl) <|
  p (yadd rfl rfl hx18) <| ?_
 replace hF := ck_s hF; obtain ⟨q1n, hF⟩ := hF
 replace hF := lv_s hF; obtain ⟨q3, q1o, hF⟩ := hF
 refine o_mk sl_77 zero_159 (show (RpI .u32).ok ρ _ 0 from rfl) rfl rfl q1n (by decide) q1o hS (fun A19 cs19 w' hr19 hS => ?_)
 refine p (yl_assign rfl) <| x_done <| x_seq <| x_region <|
  p (yl_assign rfl) <| x_done <| x_seq <| x_seq <|
  x_region <| p (yl_move q0s) <| p (yl_len_slice usl_77 rfl) <| p (yl_move rfl) <|
  x_done <| ?_
 replace hF := bd_s hF; obtain ⟨oL6, hLL6, hF⟩ := hF
 refine x_join (fun E w => ∃ (q0b : List Value) (q0m : List Int) (q0f : Int), (q0m, q0f) = oL6 ∧ E 0 = .slice q4 q2.length c_a0_c13 ∧ E 5 = .slice A19 q3.length q3.length ∧ E 6 = .int .u64 q0f ∧ RepL (RpI .u32) ρ q0m q0b ∧ St w0 w (vec 159 (RpI .u32).sz (.slice A19 q3.length q3.length) q3.length q0b :: ro ρ :: l)) ?_ ?_
 ·refine x_block ?_
  refine x_loop (fun k_ E w => ∃ (q5 : List Value) (q0c : List Int) (q7 : Int) (q6 : Int), lp (P_exact_addMag_L6 q2 q9) k_ (q0c, q7, q6) = some oL6 ∧ E 0 = .slice q4 q2.length c_a0_c13 ∧ E 1 = .slice q8 q9.length c_b1_c13 ∧ E 5 = .slice A19 q3.length q3.length ∧ E 6 = .int .u64 q7 ∧ E 20 = .slice q4 q2.length c_a0_c13 ∧ E 21 = .int .i64 (q2.length : Int) ∧ E 22 = .int .i64 q6 ∧ RepL (RpI .u32) ρ q0c q5 ∧ St w0 w (vec 159 (RpI .u32).sz (.slice A19 q3.length q3.length) q3.length q5 :: ro ρ :: l)) fuel ⟨cs19, q3, 0, 0, hLL6, q0s, q1c, rfl, rfl, rfl, rfl, rfl, hr19, ((hS.pull 1).pull 1)⟩ ?_
  rintro kL6 E w ⟨q5, q0c, q7, q6, hLL6, q0t, q0l, q0u, q0x, q0n, q0o, q0a, q0d, hS⟩
  replace hLL6 := lp_s hLL6; obtain ⟨kL6, obL6, rfl, hFL6, hLL6⟩ := hLL6
  refine x_seq <| x_region <| p (yl_lss q0a q0o) <| x_done <|
   x_seq <|
   x_cond_p (q6 < (q2.length : Int)) rfl (fun hc23 => ?_) (fun hc23 => ?_)
  ·replace hFL6 := it_t hc23 hFL6
   replace hFL6 := ck_s hFL6; obtain ⟨q15, hFL6⟩ := hFL6
   replace hFL6 := lv_s hFL6; obtain ⟨x26, hx26, hFL6⟩ := hFL6
   replace hFL6 := lv_s hFL6; obtain ⟨x29, hx29, hFL6⟩ := hFL6
   replace hFL6 := lv_s hFL6; obtain ⟨x30, hx30, hFL6⟩ := hFL6
   refine x_skip <| x_seq <| x_block <| x_seq <|
    x_region <| p (yl_move q0a) <| p (yix_f sl_77 q0n q0a q0j q15) <| pa (at_load one_159 rfl (RdS.getW q0j (hS.pull 1) q15 hx26)) <|
    p (yl_assign rfl) <| p (yl_assign rfl) <| x_done <| x_seq <|
    x_region <| p (yl_move q0x) <| p (yl_move rfl) <| p (yconvu wm_u64 uk_159 ik_158 rfl hx29) <|
    p (yaddu wm_u64 rfl rfl hx30) <| p (yl_assign rfl) <| x_done <| x_seq <|
    x_seq <| x_region <| p (yl_move rfl) <| p (yl_move q0l) <|
    p (yl_len_slice usl_77 rfl) <| p (yl_lss rfl rfl) <| x_done <| ?_
   replace hFL6 := bd_s hFL6; obtain ⟨oc34, hFc34, hFL6⟩ := hFL6
   refine x_join (fun E w => ∃ (q0e : Int), q0e = oc34 ∧ E 0 = .slice q4 q2.length c_a0_c13 ∧ E 1 = .slice q8 q9.length c_b1_c13 ∧ E 5 = .slice A19 q3.length q3.length ∧ E 6 = .int .u64 q0e ∧ E 7 = .int .i64 q6 ∧ E 20 = .slice q4 q2.length c_a0_c13 ∧ E 21 = .int .i64 (q2.length : Int) ∧ E 22 = .int .i64 q6 ∧ St w0 w (vec 159 (RpI .u32).sz (.slice A19 q3.length q3.length) q3.length q5 :: ro ρ :: l)) ?_ ?_
   ·refine x_cond_p (q6 < (q9.length : Int)) rfl (fun hc34 => ?_) (fun hc34 => ?_)
    ·replace hFc34 := it_t hc34 hFc34
     replace hFc34 := ck_s hFc34; obtain ⟨q0y, hFc34⟩ := hFc34
     replace hFc34 := lv_s hFc34; obtain ⟨x39, hx39, hFc34⟩ := hFc34
     replace hFc34 := lv_s hFc34; obtain ⟨x40, hx40, hFc34⟩ := hFc34
     replace hFc34 := lv_s hFc34; obtain ⟨x41, hx41, hFc34⟩ := hFc34
     refine x_region <| p (yl_move rfl) <| p (yl_move q0l) <| p (yl_move rfl) <|
      p (yix_f sl_77 rfl rfl q0k q0y) <| pa (at_load one_159 rfl (RdS.getW q0k (hS.pull 1) q0y hx39)) <| p (yconvu wm_u64 uk_159 ik_158 rfl hx40) <| p (yaddu wm_u64 rfl rfl hx41) <|
      p (yl_assign rfl) <| x_done <| ?_
     exact x_inv ⟨x41, (Option.some.inj (show some _ = some _ from hFc34)), q0t, q0l, q0u, rfl, rfl, q0n, q0o, q0a, ((hS.pull 1).pull 1)⟩
    ·replace hFc34 := it_f hc34 hFc34
     refine x_skip <| ?_
     exact x_inv ⟨x30, (Option.some.inj (show some _ = some _ from hFc34)), q0t, q0l, q0u, rfl, rfl, q0n, q0o, q0a, ((hS.pull 1).pull 1)⟩
   rintro E w ⟨q0e, rfl, q1d, q1e, q0z, q10, q1f, q17, q18, q19, hS⟩
   replace hFL6 := lv_s hFL6; obtain ⟨x45, hx45, hFL6⟩ := hFL6
   replace hFL6 := ck_s hFL6; obtain ⟨q11, hFL6⟩ := hFL6
   refine x_seq <| x_region <| p (yl_move q0z) <| p (yl_move q1f) <|
    p (yl_move q10) <| p (yconvu wm_u32 uk_158 ik_159 rfl hx45) <| p (yix_o sl_77 rfl rfl hS q0d q11) <| ?_
   replace hFL6 := lv_s hFL6; obtain ⟨q1p, q1g, hFL6⟩ := hFL6
   refine o_put' (news := [.int .u32 x45]) sz_159 rfl rfl rfl rfl (o := 0) rfl q11 rfl hS q0d (Le.refl _) (fun c hc => ok_all hc (show (RpI .u32).ok ρ [.int .u32 x45] x45 from rfl)) q1g (fun q1h w' q1i hS => ?_)
   replace hFL6 := ck_s hFL6; obtain ⟨q1j, hFL6⟩ := hFL6
   replace hFL6 := lv_s hFL6; obtain ⟨x48, hx48, hFL6⟩ := hFL6
   replace hFL6 := ar_s hFL6; obtain ⟨x49, hx49, hFL6⟩ := hFL6
   refine x_done <| x_region <| p (yl_move q10) <| p (yshr rfl rfl q1j hx48) <|
    p (yl_assign rfl) <| x_done <| x_blk <| x_region <|
    p (yadd q19 rfl hx49) <| p (yl_move rfl) <| x_done <| ?_
   have e_ := Option.some.inj (show some _ = some _ from hFL6); subst e_
   exact x_inv ⟨kL6, Nat.lt_succ_self _, q1h, q1p, x48, x49, hLL6, q1d, q1e, q0z, rfl, q17, q18, rfl, q1i, ((hS.pull 1).pull 1)⟩
  ·replace hFL6 := it_f hc23 hFL6
   refine x_exitTo _ rfl <| ?_
   have e_ := Option.some.inj (show some _ = some _ from hFL6); subst e_
   exact x_inv ⟨q5, q0c, q7, hLL6, q0t, q0u, q0x, q0d, ((hS.pull 1).pull 1)⟩
 rintro E w ⟨q0b, q0m, q0f, rfl, q1q, q16, q1r, q0q, hS⟩
 replace hF := lv_s hF; obtain ⟨x54, hx54, hF⟩ := hF
 replace hF := ck_s hF; obtain ⟨q12, hF⟩ := hF
 refine x_seq <| x_region <| p (yl_move q16) <| p (yl_move q1q) <|
  p (yl_len_slice usl_77 rfl) <| p (yl_move q1r) <| p (yconvu wm_u32 uk_158 ik_159 rfl hx54) <| p (yix_o sl_77 rfl rfl hS q0q q12) <| ?_
 replace hF := lv_s hF; obtain ⟨q1s, q1k, hF⟩ := hF
 refine o_put' (news := [.int .u32 x54]) sz_159 rfl rfl rfl rfl (o := 0) rfl q12 rfl hS q0q (Le.refl _) (fun c hc => ok_all hc (show (RpI .u32).ok ρ [.int .u32 x54] x54 from rfl)) q1k (fun q1l w' q1m hS => ?_)
 refine x_done <| x_seq <| x_region <| p (yl_move q16) <|
  p (yl_assign rfl) <| x_done <| ?_
 have e_ := Option.some.inj (show some _ = some _ from hF); subst e_
 exact x_return ⟨_, ⟨_, _, rfl, rfl, rfl⟩, A19, q3.length, q3.length, q1l, rfl, q1m, ((hS.pull 1).pull 1)⟩
attribute [irreducible] P_exact_addMag

def P_exact_sign (n0 : Int) : Option Int :=
 lv (min (1 : Int) n0) fun x4 =>
 lv (max (-1 : Int) x4) fun x5 =>
 some x5
set_option maxHeartbeats 4000000 in
set_option maxRecDepth 100000 in
theorem c_exact_sign {w0 w : World} {l : List Assn} {ρ : Heap} {n0 : Int} {r : Int} (hF : P_exact_sign n0 = some r) (hS : St w0 w (ro ρ :: l)) :
  Calls Try.prog 90 #[.int .i64 n0] w fun e w' => e = .returned (.int .i64 r) ∧ St w0 w' (ro ρ :: l) := by
 refine enterC Try.func90 rfl 6 rfl (by simp) ?_
 replace hF := lv_s hF; obtain ⟨x4, hx4, hF⟩ := hF
 replace hF := lv_s hF; obtain ⟨x5, hx5, hF⟩ := hF
 refine x_seq <| x_region <| p (yl_assign rfl) <| x_done <|
  x_seq <| x_region <| p (yl_move rfl) <| p (ymin' rfl rfl hx4) <|
  p (ymax' rfl rfl hx5) <| p (yl_assign rfl) <| x_done <| ?_
 have e_ := Option.some.inj (show some _ = some _ from hF); subst e_
 exact x_return ⟨_, ⟨_, _, rfl, rfl, rfl⟩, rfl, hS⟩
attribute [irreducible] P_exact_sign

def P_exact_cmpMag_L4 (a0 : List Int) (b1 : List Int) : Int → Option (Int ⊕ (Unit ⊕ Int)) := fun q2 =>
 if 0 ≤ q2 then
  ck (inb q2 a0.length) <|
  lv (gt a0 q2) fun x27 =>
  ck (inb q2 b1.length) <|
  lv (gt b1 q2) fun x31 =>
  if x27 ≠ x31 then
   ck (inb q2 a0.length) <|
   lv (gt a0 q2) fun x36 =>
   ar (x36) fun x37 =>
   ck (inb q2 b1.length) <|
   lv (gt b1 q2) fun x41 =>
   ar (x41) fun x42 =>
   ar (x37 - x42) fun x43 =>
   bd (P_exact_sign x43) fun q3 =>
   some (Sum.inr (Sum.inr q3))
  else
   ar (q2 - 1) fun x23 =>
   some (Sum.inl x23)
 else
  some (Sum.inr (Sum.inl ()))
def P_exact_cmpMag (a0 : List Int) (b1 : List Int) : Option Int :=
 if (a0.length : Int) ≠ (b1.length : Int) then
  ar ((a0.length : Int) - (b1.length : Int)) fun x15 =>
  bd (P_exact_sign x15) fun q2 =>
  some q2
 else
  ar ((a0.length : Int) - 1) fun x19 =>
  bs (
   lp (P_exact_cmpMag_L4 a0 b1) fuel x19) (fun y => some y) fun _ =>
  some (0 : Int)
set_option maxHeartbeats 4000000 in
set_option maxRecDepth 100000 in
theorem c_exact_cmpMag {w0 w : World} {l : List Assn} {ρ : Heap} {q8 : Option Addr} {q0f : Nat} {c_a0 : Nat} {q9 : Option Addr} {q0g : Nat} {c_b1 : Nat} {a0 : List Int} {b1 : List Int} {r : Int} (hF : P_exact_cmpMag a0 b1 = some r) (q4 : RdS (RpI .u32) ρ q8 q0f c_a0 a0) (q5 : RdS (RpI .u32) ρ q9 q0g c_b1 b1) (hS : St w0 w (ro ρ :: l)) :
  Calls Try.prog 91 #[.slice q8 q0f c_a0, .slice q9 q0g c_b1] w fun e w' => e = .returned (.int .i64 r) ∧ St w0 w' (ro ρ :: l) := by
 have e_ := q4.n; subst e_
 have e_ := q5.n; subst e_
 refine enterC Try.func91 rfl 45 rfl (by simp) ?_
 refine x_seq <| x_region <| p (yl_assign rfl) <| x_done <|
  x_seq <| x_seq <| x_region <| p (yl_move rfl) <|
  p (yl_len_slice usl_77 rfl) <| p (yl_move rfl) <| p (yl_len_slice usl_77 rfl) <| p (yl_neq rfl rfl) <|
  x_done <|
  x_cond_p ((a0.length : Int) ≠ (b1.length : Int)) rfl (fun hc10 => ?_) (fun hc10 => ?_)
 ·replace hF := it_t hc10 hF
  replace hF := ar_s hF; obtain ⟨x15, hx15, hF⟩ := hF
  replace hF := bd_s hF; obtain ⟨q0j, q0i, hF⟩ := hF
  refine x_seq <| x_region <| p (yl_move rfl) <| p (yl_len_slice usl_77 rfl) <|
   p (yl_move rfl) <| p (yl_len_slice usl_77 rfl) <| p (ysub rfl rfl hx15) <| ?_
  have hcall := c_exact_sign q0i  hS
  refine o_cc call_90 (args1 rfl) (hcall) ?_
  rintro e w' ⟨rfl, hS⟩
  refine ⟨_, rfl, ?_⟩
  refine p (v := .int .i64 q0j) (yl_assign rfl) <| x_done <| ?_
  have e_ := Option.some.inj (show some _ = some _ from hF); subst e_
  exact x_return ⟨_, ⟨_, _, rfl, rfl, rfl⟩, rfl, hS⟩
 ·replace hF := it_f hc10 hF
  replace hF := ar_s hF; obtain ⟨x19, hx19, hF⟩ := hF
  refine x_skip <| x_seq <| x_seq <| x_region <|
   p (yl_move rfl) <| p (yl_len_slice usl_77 rfl) <| p (ysub rfl rfl hx19) <| p (yl_assign rfl) <|
   x_done <| ?_
  replace hF := bs_s hF; obtain ⟨oL4, hLL4, hF⟩ := hF
  refine x_join (fun E w => (Sum.inl (())) = oL4 ∧ St w0 w (ro ρ :: l)) ?_ ?_
  ·refine x_block ?_
   refine x_loop (fun k_ E w => ∃ (q3 : Int), lp (P_exact_cmpMag_L4 a0 b1) k_ q3 = some oL4 ∧ E 0 = .slice q8 a0.length c_a0 ∧ E 1 = .slice q9 b1.length c_b1 ∧ E 5 = .int .i64 q3 ∧ St w0 w (ro ρ :: l)) fuel ⟨x19, hLL4, rfl, rfl, rfl, hS⟩ ?_
   rintro kL4 E w ⟨q3, hLL4, q6, q7, q2, hS⟩
   replace hLL4 := lp_s hLL4; obtain ⟨kL4, obL4, rfl, hFL4, hLL4⟩ := hLL4
   refine x_seq <| x_seq <| x_region <| p (yl_move q2) <|
    p (yl_geq rfl rfl) <| x_done <|
    x_cond_p (0 ≤ q3) rfl (fun hc21 => ?_) (fun hc21 => ?_)
   ·replace hFL4 := it_t hc21 hFL4
    replace hFL4 := ck_s hFL4; obtain ⟨q0a, hFL4⟩ := hFL4
    replace hFL4 := lv_s hFL4; obtain ⟨x27, hx27, hFL4⟩ := hFL4
    replace hFL4 := ck_s hFL4; obtain ⟨q0b, hFL4⟩ := hFL4
    replace hFL4 := lv_s hFL4; obtain ⟨x31, hx31, hFL4⟩ := hFL4
    refine x_skip <| x_seq <| x_block <| x_seq <|
     x_still mixed (by kernel_rfl) hS <| q (yl_move q6) <| q (yl_move q2) <| q (yix_f sl_77 rfl rfl q4 q0a) <|
     qa (fun w' hS => at_load one_159 rfl (RdS.getW q4 hS q0a hx27)) <| q (yl_move q7) <| q (yl_move q2) <| q (yix_f sl_77 rfl rfl q5 q0b) <|
     qa (fun w' hS => at_load one_159 rfl (RdS.getW q5 hS q0b hx31)) <| q (yl_neq rfl rfl) <|
     q_done fun w' hS => ?_
    refine x_cond_p (x27 ≠ x31) rfl (fun hc32 => ?_) (fun hc32 => ?_)
    ·replace hFL4 := it_t hc32 hFL4
     replace hFL4 := ck_s hFL4; obtain ⟨q0c, hFL4⟩ := hFL4
     replace hFL4 := lv_s hFL4; obtain ⟨x36, hx36, hFL4⟩ := hFL4
     replace hFL4 := ar_s hFL4; obtain ⟨x37, hx37, hFL4⟩ := hFL4
     replace hFL4 := ck_s hFL4; obtain ⟨q0d, hFL4⟩ := hFL4
     replace hFL4 := lv_s hFL4; obtain ⟨x41, hx41, hFL4⟩ := hFL4
     replace hFL4 := ar_s hFL4; obtain ⟨x42, hx42, hFL4⟩ := hFL4
     replace hFL4 := ar_s hFL4; obtain ⟨x43, hx43, hFL4⟩ := hFL4
     replace hFL4 := bd_s hFL4; obtain ⟨q0e, q0h, hFL4⟩ := hFL4
     refine x_seq <| x_still mixed (by kernel_rfl) hS <| q (yl_move q6) <| q (yl_move q2) <|
      q (yix_f sl_77 rfl rfl q4 q0c) <| qa (fun w' hS => at_load one_159 rfl (RdS.getW q4 hS q0c hx36)) <| q (yconvi uk_159 ik_3 rfl hx37) <| q (yl_move q7) <|
      q (yl_move q2) <| q (yix_f sl_77 rfl rfl q5 q0d) <| qa (fun w' hS => at_load one_159 rfl (RdS.getW q5 hS q0d hx41)) <| q (yconvi uk_159 ik_3 rfl hx42) <|
      q (ysub rfl rfl hx43) <| qcc (v := .int .i64 q0e) call_90 (args1 rfl) (fun w' hS => by
       have hcall := c_exact_sign q0h  hS
       exact hcall) <| q (v := .int .i64 q0e) (yl_assign rfl) <|
      q_done fun w' hS => ?_
     have e_ := Option.some.inj (show some _ = some _ from hFL4); subst e_
     have e_ := (show _ = oL4 from hLL4); subst e_
     have e_ := Option.some.inj (show some _ = some _ from hF); subst e_
     exact x_return ⟨_, ⟨_, _, rfl, rfl, rfl⟩, rfl, hS⟩
    ·replace hFL4 := it_f hc32 hFL4
     replace hFL4 := ar_s hFL4; obtain ⟨x23, hx23, hFL4⟩ := hFL4
     refine x_skip <| x_blk <| x_region <| p (yl_move q2) <|
      p (ysub rfl rfl hx23) <| p (yl_assign rfl) <| x_done <| ?_
     have e_ := Option.some.inj (show some _ = some _ from hFL4); subst e_
     exact x_inv ⟨kL4, Nat.lt_succ_self _, x23, hLL4, q6, q7, rfl, hS⟩
   ·replace hFL4 := it_f hc21 hFL4
    refine x_exitTo _ rfl <| ?_
    have e_ := Option.some.inj (show some _ = some _ from hFL4); subst e_
    exact x_inv ⟨hLL4, hS⟩
  rintro E w ⟨rfl, hS⟩
  refine x_seq <| x_region <| p (yl_assign rfl) <| x_done <| ?_
  have e_ := Option.some.inj (show some _ = some _ from hF); subst e_
  exact x_return ⟨_, ⟨_, _, rfl, rfl, rfl⟩, rfl, hS⟩
attribute [irreducible] P_exact_cmpMag

def P_exact_subMag_L4 (a0 : List Int) (b1 : List Int) : (List Int × Int × Int) → Option ((List Int × Int × Int) ⊕ List Int) := fun (q3, q4, q2) =>
 if q2 < (a0.length : Int) then
  ck (inb q2 a0.length) <|
  lv (gt a0 q2) fun x19 =>
  ar (x19) fun x21 =>
  ar (x21 + q4) fun x23 =>
  bd (
   if q2 < (b1.length : Int) then
    ck (inb q2 b1.length) <|
    lv (gt b1 q2) fun x32 =>
    ar (x32) fun x33 =>
    ar (x23 - x33) fun x34 =>
    some x34
   else
    some x23) fun q5 =>
  lv (q5 % 4294967296) fun x38 =>
  ck (inb q2 q3.length) <|
  lv (stt q3 q2 x38) fun q6 =>
  ck (0 ≤ (32 : Int)) <|
  lv (shr .i64 q5 32) fun x41 =>
  ar (q2 + 1) fun x42 =>
  some (Sum.inl (q6, x41, x42))
 else
  some (Sum.inr q3)
def P_exact_subMag (a0 : List Int) (b1 : List Int) : Option (List Int) :=
 ck (mkOk 4 (a0.length : Int)) <|
 lv ((List.replicate ((a0.length : Int) : Int).toNat 0 : List Int)) fun q3 =>
 bd (
  lp (P_exact_subMag_L4 a0 b1) fuel (q3, 0, 0)) fun q2 =>
 some q2
set_option maxHeartbeats 4000000 in
set_option maxRecDepth 100000 in
theorem c_exact_subMag {w0 w : World} {l : List Assn} {ρ : Heap} {q0j : Option Addr} {q0w : Nat} {c_a0 : Nat} {q0k : Option Addr} {q0x : Nat} {c_b1 : Nat} {a0 : List Int} {b1 : List Int} {r : List Int} (hF : P_exact_subMag a0 b1 = some r) (q0o : RdS (RpI .u32) ρ q0j q0w c_a0 a0) (q0p : RdS (RpI .u32) ρ q0k q0x c_b1 b1) (hS : St w0 w (ro ρ :: l)) :
  Calls Try.prog 127 #[.slice q0j q0w c_a0, .slice q0k q0x c_b1] w fun e w' => ∃ (q0g : Option Addr) (q0a : Nat) (c_y0_ret : Nat) (q0f : List Value), e = .returned (.slice q0g q0a c_y0_ret) ∧ RepL (RpI .u32) ρ r q0f ∧ St w0 w' (vec 159 (RpI .u32).sz (.slice q0g q0a c_y0_ret) q0a q0f :: ro ρ :: l) := by
 have e_ := q0o.n; subst e_
 have e_ := q0p.n; subst e_
 refine enterC Try.func127 rfl 44 rfl (by simp) ?_
 refine x_seq <| x_region <| p (yl_assign rfl) <| x_done <|
  x_seq <| x_region <| p (yl_move rfl) <| p (yl_len_slice usl_77 rfl) <| ?_
 replace hF := ck_s hF; obtain ⟨q12, hF⟩ := hF
 replace hF := lv_s hF; obtain ⟨q2, q13, hF⟩ := hF
 refine o_mk sl_77 zero_159 (show (RpI .u32).ok ρ _ 0 from rfl) rfl rfl q12 (by decide) q13 hS (fun A12 cs12 w' hr12 hS => ?_)
 refine p (yl_assign rfl) <| x_done <| x_seq <| x_region <|
  p (yl_assign rfl) <| x_done <| x_seq <| x_seq <|
  x_region <| p (yl_move rfl) <| p (yl_len_slice usl_77 rfl) <| p (yl_move rfl) <|
  x_done <| ?_
 replace hF := bd_s hF; obtain ⟨oL4, hLL4, hF⟩ := hF
 refine x_join (fun E w => ∃ (q5 : List Value) (q0c : List Int), q0c = oL4 ∧ E 5 = .slice A12 q2.length q2.length ∧ RepL (RpI .u32) ρ q0c q5 ∧ St w0 w (vec 159 (RpI .u32).sz (.slice A12 q2.length q2.length) q2.length q5 :: ro ρ :: l)) ?_ ?_
 ·refine x_block ?_
  refine x_loop (fun k_ E w => ∃ (q3 : List Value) (q8 : List Int) (q6 : Int) (q4 : Int), lp (P_exact_subMag_L4 a0 b1) k_ (q8, q6, q4) = some oL4 ∧ E 1 = .slice q0k b1.length c_b1 ∧ E 5 = .slice A12 q2.length q2.length ∧ E 6 = .int .i64 q6 ∧ E 13 = .slice q0j a0.length c_a0 ∧ E 14 = .int .i64 (a0.length : Int) ∧ E 15 = .int .i64 q4 ∧ RepL (RpI .u32) ρ q8 q3 ∧ St w0 w (vec 159 (RpI .u32).sz (.slice A12 q2.length q2.length) q2.length q3 :: ro ρ :: l)) fuel ⟨cs12, q2, 0, 0, hLL4, rfl, rfl, rfl, rfl, rfl, rfl, hr12, ((hS.pull 1).pull 1)⟩ ?_
  rintro kL4 E w ⟨q3, q8, q6, q4, hLL4, q0b, q0h, q0y, q0d, q0e, q7, q9, hS⟩
  replace hLL4 := lp_s hLL4; obtain ⟨kL4, obL4, rfl, hFL4, hLL4⟩ := hLL4
  refine x_seq <| x_region <| p (yl_lss q7 q0e) <| x_done <|
   x_seq <|
   x_cond_p (q4 < (a0.length : Int)) rfl (fun hc16 => ?_) (fun hc16 => ?_)
  ·replace hFL4 := it_t hc16 hFL4
   replace hFL4 := ck_s hFL4; obtain ⟨q0q, hFL4⟩ := hFL4
   replace hFL4 := lv_s hFL4; obtain ⟨x19, hx19, hFL4⟩ := hFL4
   replace hFL4 := ar_s hFL4; obtain ⟨x21, hx21, hFL4⟩ := hFL4
   replace hFL4 := ar_s hFL4; obtain ⟨x23, hx23, hFL4⟩ := hFL4
   refine x_skip <| x_seq <| x_block <| x_seq <|
    x_region <| p (yl_move q7) <| p (yix_f sl_77 q0d q7 q0o q0q) <| pa (at_load one_159 rfl (RdS.getW q0o (hS.pull 1) q0q hx19)) <|
    p (yl_assign rfl) <| p (yl_assign rfl) <| x_done <| x_seq <|
    x_region <| p (yl_move rfl) <| p (yconvi uk_159 ik_2 rfl hx21) <| p (yl_move q0y) <|
    p (yadd rfl rfl hx23) <| p (yl_assign rfl) <| x_done <| x_seq <|
    x_seq <| x_region <| p (yl_move rfl) <| p (yl_move q0b) <|
    p (yl_len_slice usl_77 rfl) <| p (yl_lss rfl rfl) <| x_done <| ?_
   replace hFL4 := bd_s hFL4; obtain ⟨oc27, hFc27, hFL4⟩ := hFL4
   refine x_join (fun E w => ∃ (q0i : Int), q0i = oc27 ∧ E 1 = .slice q0k b1.length c_b1 ∧ E 5 = .slice A12 q2.length q2.length ∧ E 7 = .int .i64 q4 ∧ E 9 = .int .i64 q0i ∧ E 13 = .slice q0j a0.length c_a0 ∧ E 14 = .int .i64 (a0.length : Int) ∧ E 15 = .int .i64 q4 ∧ St w0 w (vec 159 (RpI .u32).sz (.slice A12 q2.length q2.length) q2.length q3 :: ro ρ :: l)) ?_ ?_
   ·refine x_cond_p (q4 < (b1.length : Int)) rfl (fun hc27 => ?_) (fun hc27 => ?_)
    ·replace hFc27 := it_t hc27 hFc27
     replace hFc27 := ck_s hFc27; obtain ⟨q0r, hFc27⟩ := hFc27
     replace hFc27 := lv_s hFc27; obtain ⟨x32, hx32, hFc27⟩ := hFc27
     replace hFc27 := ar_s hFc27; obtain ⟨x33, hx33, hFc27⟩ := hFc27
     replace hFc27 := ar_s hFc27; obtain ⟨x34, hx34, hFc27⟩ := hFc27
     refine x_region <| p (yl_move rfl) <| p (yl_move q0b) <| p (yl_move rfl) <|
      p (yix_f sl_77 rfl rfl q0p q0r) <| pa (at_load one_159 rfl (RdS.getW q0p (hS.pull 1) q0r hx32)) <| p (yconvi uk_159 ik_2 rfl hx33) <| p (ysub rfl rfl hx34) <|
      p (yl_assign rfl) <| x_done <| ?_
     exact x_inv ⟨x34, (Option.some.inj (show some _ = some _ from hFc27)), q0b, q0h, rfl, rfl, q0d, q0e, q7, ((hS.pull 1).pull 1)⟩
    ·replace hFc27 := it_f hc27 hFc27
     refine x_skip <| ?_
     exact x_inv ⟨x23, (Option.some.inj (show some _ = some _ from hFc27)), q0b, q0h, rfl, rfl, q0d, q0e, q7, ((hS.pull 1).pull 1)⟩
   rintro E w ⟨q0i, rfl, q0z, q0l, q10, q0m, q0t, q0u, q0v, hS⟩
   replace hFL4 := lv_s hFL4; obtain ⟨x38, hx38, hFL4⟩ := hFL4
   replace hFL4 := ck_s hFL4; obtain ⟨q0s, hFL4⟩ := hFL4
   refine x_seq <| x_region <| p (yl_move q0l) <| p (yl_move q10) <|
    p (yl_move q0m) <| p (yconvu wm_u32 uk_2 ik_159 rfl hx38) <| p (yix_o sl_77 rfl rfl hS q9 q0s) <| ?_
   replace hFL4 := lv_s hFL4; obtain ⟨q18, q14, hFL4⟩ := hFL4
   refine o_put' (news := [.int .u32 x38]) sz_159 rfl rfl rfl rfl (o := 0) rfl q0s rfl hS q9 (Le.refl _) (fun c hc => ok_all hc (show (RpI .u32).ok ρ [.int .u32 x38] x38 from rfl)) q14 (fun q15 w' q16 hS => ?_)
   replace hFL4 := ck_s hFL4; obtain ⟨q11, hFL4⟩ := hFL4
   replace hFL4 := lv_s hFL4; obtain ⟨x41, hx41, hFL4⟩ := hFL4
   replace hFL4 := ar_s hFL4; obtain ⟨x42, hx42, hFL4⟩ := hFL4
   refine x_done <| x_region <| p (yl_move q0m) <| p (yshr rfl rfl q11 hx41) <|
    p (yl_assign rfl) <| x_done <| x_blk <| x_region <|
    p (yadd q0v rfl hx42) <| p (yl_move rfl) <| x_done <| ?_
   have e_ := Option.some.inj (show some _ = some _ from hFL4); subst e_
   exact x_inv ⟨kL4, Nat.lt_succ_self _, q15, q18, x41, x42, hLL4, q0z, q0l, rfl, q0t, q0u, rfl, q16, ((hS.pull 1).pull 1)⟩
  ·replace hFL4 := it_f hc16 hFL4
   refine x_exitTo _ rfl <| ?_
   have e_ := Option.some.inj (show some _ = some _ from hFL4); subst e_
   exact x_inv ⟨q3, q8, hLL4, q0h, q9, ((hS.pull 1).pull 1)⟩
 rintro E w ⟨q5, q0c, rfl, q17, q0n, hS⟩
 refine x_seq <| x_region <| p (yl_move q17) <| p (yl_assign rfl) <|
  x_done <| ?_
 have e_ := Option.some.inj (show some _ = some _ from hF); subst e_
 exact x_return ⟨_, ⟨_, _, rfl, rfl, rfl⟩, A12, q2.length, q2.length, q5, rfl, q0n, ((hS.pull 1).pull 1)⟩
attribute [irreducible] P_exact_subMag

def P_exact_plus (a0 : T_exact_Int) (b1 : T_exact_Int) : Option T_exact_Int :=
 if (a0.fneg == b1.fneg) = true then
  bd (P_exact_addMag a0.fmag b1.fmag) fun q2 =>
  bd (P_exact_made a0.fneg q2) fun q3 =>
  some q3
 else
  bd (P_exact_cmpMag a0.fmag b1.fmag) fun q4 =>
  if 0 ≤ q4 then
   bd (P_exact_subMag a0.fmag b1.fmag) fun q5 =>
   bd (P_exact_made a0.fneg q5) fun q6 =>
   some q6
  else
   bd (P_exact_subMag b1.fmag a0.fmag) fun q7 =>
   bd (P_exact_made b1.fneg q7) fun q8 =>
   some q8
set_option maxHeartbeats 4000000 in
set_option maxRecDepth 100000 in
theorem c_exact_plus {w0 w : World} {l : List Assn} {ρ : Heap} {q5 : Option Addr} {q1q : Nat} {c_a0_1 : Nat} {q6 : Option Addr} {q1r : Nat} {c_b1_1 : Nat} {a0 : T_exact_Int} {b1 : T_exact_Int} {r : T_exact_Int} (hF : P_exact_plus a0 b1 = some r) (q0m : RdS (RpI .u32) ρ q5 q1q c_a0_1 a0.fmag) (q0n : RdS (RpI .u32) ρ q6 q1r c_b1_1 b1.fmag) (hS : St w0 w (ro ρ :: l)) :
  Calls Try.prog 96 #[.agg #[.bool a0.fneg, .slice q5 q1q c_a0_1], .agg #[.bool b1.fneg, .slice q6 q1r c_b1_1]] w fun e w' => ∃ (ρ' : Heap) (q0o : Option Addr) (q0p : Nat) (c_y0_ret_1 : Nat), e = .returned (.agg #[.bool r.fneg, .slice q0o q0p c_y0_ret_1]) ∧ Le ρ ρ' ∧ RdS (RpI .u32) ρ' q0o q0p c_y0_ret_1 r.fmag ∧ St w0 w' (ro ρ' :: l) := by
 have e_ := q0m.n; subst e_
 have e_ := q0n.n; subst e_
 refine enterC Try.func96 rfl 42 rfl (by simp) ?_
 refine x_seq <| x_region <| ?_
 refine o_box (cs := [.bool a0.fneg, .slice q5 a0.fmag.length c_a0_1]) rfl rfl hS (fun b2 w' hS => ?_)
 refine o_box (cs := [.bool b1.fneg, .slice q6 b1.fmag.length c_b1_1]) rfl rfl hS (fun b3 w' hS => ?_)
 refine o_alloc zero_79 hS (fun b4 w' hS => ?_)
 refine x_done <| x_seq <| x_block <| x_seq <|
  x_region <| p (yl_field0 fld_79_0 rfl) <| pa (at_load one_4 rfl ((hS.pull 2).cell rfl)) <| p (yl_field0 fld_79_0 rfl) <|
  pa (at_load one_4 rfl ((hS.pull 1).cell rfl)) <| p (yeqb ub_4 rfl rfl) <| p (yl_assign rfl) <| x_done <|
  x_cond (t := (a0.fneg == b1.fneg)) rfl (fun hc5 => ?_) (fun hc5 => ?_)
 ·replace hF := it_t hc5 hF
  refine x_seq <| ?_
  replace hF := bd_s hF; obtain ⟨q0d, q2a, hF⟩ := hF
  replace hF := bd_s hF; obtain ⟨q0a, q2b, hF⟩ := hF
  refine x_par (w0 := w0) [⟨[], [], [11], [], [], []⟩, ⟨[0], [0], [12], [0], [], []⟩, ⟨[], [], [13], [], [], []⟩, ⟨[2], [2], [14], [0], [], []⟩, ⟨[], [], [15], [], [], []⟩, ⟨[4], [4], [16], [1], [], []⟩, ⟨[2, 3, 4, 5], [3, 5], [17], [2], [], [3]⟩, ⟨[0, 1, 2, 3, 4, 5, 6], [1, 6], [18], [2], [3], [4]⟩, ⟨[0, 1, 2, 3, 4, 5, 6, 7], [7], [], [], [5], [6]⟩] [⟨none, none, []⟩, ⟨none, none, []⟩, ⟨none, none, []⟩, ⟨(some 6), (some 7), [17]⟩, ⟨(some 7), none, [17, 18]⟩, ⟨none, (some 8), []⟩, ⟨(some 8), none, [18]⟩] [11, 12, 13, 14, 15, 16, 17, 18] [0, 1, 2, 5] [0, 1, 2, 4, 6] [0, 1, 2, 3, 4, 5, 6, 7] [fun Ep2 => Ep2 11 = .pointer (some ⟨b2, 0, none⟩), fun Ep2 => Ep2 12 = .bool a0.fneg, fun Ep2 => Ep2 13 = .pointer (some ⟨b2, 1, none⟩), fun Ep2 => Ep2 14 = .slice q5 a0.fmag.length c_a0_1, fun Ep2 => Ep2 15 = .pointer (some ⟨b3, 1, none⟩), fun Ep2 => Ep2 16 = .slice q6 b1.fmag.length c_b1_1, fun Ep2 => Ep2 17 = .slice (adOf (Ep2 17)) q0d.length (capOf (Ep2 17)), fun Ep2 => Ep2 18 = .agg #[.bool q0a.fneg, .slice (adOf (partOf 1 (Ep2 18))) q0a.fmag.length (capOf (partOf 1 (Ep2 18)))], fun Ep2 => True] [fun Ep2 => cells b2 79 [.bool a0.fneg, .slice q5 a0.fmag.length c_a0_1], fun Ep2 => cells b3 79 [.bool b1.fneg, .slice q6 b1.fmag.length c_b1_1], fun Ep2 => ro ρ, fun Ep2 => bunA (fun (q2 : List Value) => RepL (RpI .u32) ρ q0d q2) (fun (q2 : List Value) => [vec 159 (RpI .u32).sz (.slice (adOf (Ep2 17)) q0d.length (capOf (Ep2 17))) q0d.length q2]), fun Ep2 => bunA (fun (q7 : Heap) => Le ρ q7 ∧ RdS (RpI .u32) q7 (adOf (Ep2 17)) q0d.length (capOf (Ep2 17)) q0d ∧ RdS (RpI .u32) q7 (adOf (partOf 1 (Ep2 18))) q0a.fmag.length (capOf (partOf 1 (Ep2 18))) q0a.fmag) (fun (q7 : Heap) => [roD ρ q7]), fun Ep2 => cells b4 79 [.bool false, .slice none 0 0], fun Ep2 => cells b4 79 [.bool q0a.fneg, .slice (adOf (partOf 1 (Ep2 18))) q0a.fmag.length (capOf (partOf 1 (Ep2 18)))]] mixed (by kernel_rfl) (((hS.pull 3).pull 2).pull 3) ?_ ?_
  ·refine ⟨?_, ?_, ?_, ?_, ?_, ?_, ?_, ?_, ?_, trivial⟩
   ·intro Ep2 w l' hE2 hO2 hF_ hS
    refine p (yl_field0 fld_79_0 (hE2 2 rfl)) <| x_done <| ?_
    refine x_fin ⟨⟨_, rfl⟩, rfl, ?_⟩
    exact Eq.mp (by kernel_rfl) hS
   ·intro Ep2 w l' hE2 hO2 hF_ hS
    obtain ⟨q0q, -⟩ := hF_
    replace q0q : Ep2 11 = .pointer (some ⟨b2, 0, none⟩) := Eq.mp (by kernel_rfl) q0q
    replace hS : St w0 w (cells b2 79 [.bool a0.fneg, .slice q5 a0.fmag.length c_a0_1] :: l') := Eq.mp (by kernel_rfl) hS
    refine pa (at_load one_4 q0q (hS.cell rfl)) <| x_done <| ?_
    refine x_fin ⟨⟨_, rfl⟩, rfl, ?_⟩
    exact Eq.mp (by kernel_rfl) hS
   ·intro Ep2 w l' hE2 hO2 hF_ hS
    refine p (yl_field0 fld_79_1 (hE2 2 rfl)) <| x_done <| ?_
    refine x_fin ⟨⟨_, rfl⟩, rfl, ?_⟩
    exact Eq.mp (by kernel_rfl) hS
   ·intro Ep2 w l' hE2 hO2 hF_ hS
    obtain ⟨q0r, -⟩ := hF_
    replace q0r : Ep2 13 = .pointer (some ⟨b2, 1, none⟩) := Eq.mp (by kernel_rfl) q0r
    replace hS : St w0 w (cells b2 79 [.bool a0.fneg, .slice q5 a0.fmag.length c_a0_1] :: l') := Eq.mp (by kernel_rfl) hS
    refine pa (at_load one_77 q0r (hS.cell rfl)) <| x_done <| ?_
    refine x_fin ⟨⟨_, rfl⟩, rfl, ?_⟩
    exact Eq.mp (by kernel_rfl) hS
   ·intro Ep2 w l' hE2 hO2 hF_ hS
    refine p (yl_field0 fld_79_1 (hE2 3 rfl)) <| x_done <| ?_
    refine x_fin ⟨⟨_, rfl⟩, rfl, ?_⟩
    exact Eq.mp (by kernel_rfl) hS
   ·intro Ep2 w l' hE2 hO2 hF_ hS
    obtain ⟨q0s, -⟩ := hF_
    replace q0s : Ep2 15 = .pointer (some ⟨b3, 1, none⟩) := Eq.mp (by kernel_rfl) q0s
    replace hS : St w0 w (cells b3 79 [.bool b1.fneg, .slice q6 b1.fmag.length c_b1_1] :: l') := Eq.mp (by kernel_rfl) hS
    refine pa (at_load one_77 q0s (hS.cell rfl)) <| x_done <| ?_
    refine x_fin ⟨⟨_, rfl⟩, rfl, ?_⟩
    exact Eq.mp (by kernel_rfl) hS
   ·intro Ep2 w l' hE2 hO2 hF_ hS
    obtain ⟨q0t, q0u, -⟩ := hF_
    replace q0t : Ep2 14 = .slice q5 a0.fmag.length c_a0_1 := Eq.mp (by kernel_rfl) q0t
    replace q0u : Ep2 16 = .slice q6 b1.fmag.length c_b1_1 := Eq.mp (by kernel_rfl) q0u
    replace hS : St w0 w (ro ρ :: l') := Eq.mp (by kernel_rfl) hS
    have hcall := c_exact_addMag q2a q0m q0n hS
    refine o_cc call_126 (args2 q0t q0u) hcall ?_
    rintro e w' ⟨q1h, q24, c_y0_ret_2_6, q2, rfl, q0j, hS⟩
    refine ⟨_, rfl, ?_⟩
    have e_ := St.vec_n hS q0j; subst e_
    refine x_done <| ?_
    refine x_fin ⟨⟨_, rfl⟩, rfl, ?_⟩
    replace hS := St.bun (Φ := (fun (q2 : List Value) => RepL (RpI .u32) ρ q0d q2)) (L := (fun (q2 : List Value) => [vec 159 (RpI .u32).sz (.slice q1h q0d.length c_y0_ret_2_6) q0d.length q2])) q2 q0j hS
    exact Eq.mp (by kernel_rfl) (hS.pull 1)
   ·intro Ep2 w l' hE2 hO2 hF_ hS
    obtain ⟨q0v, q0w, -⟩ := hF_
    replace q0v : Ep2 12 = .bool a0.fneg := Eq.mp (by kernel_rfl) q0v
    replace q0w : Ep2 17 = .slice (adOf (Ep2 17)) q0d.length (capOf (Ep2 17)) := Eq.mp (by kernel_rfl) q0w
    replace hS : St w0 w (ro ρ :: bunA (fun (q2 : List Value) => RepL (RpI .u32) ρ q0d q2) (fun (q2 : List Value) => [vec 159 (RpI .u32).sz (.slice (adOf (Ep2 17)) q0d.length (capOf (Ep2 17))) q0d.length q2]) :: l') := Eq.mp (by kernel_rfl) hS
    have q_ := St.unbun (hS.pull 1); obtain ⟨q2, q0j, hS⟩ := q_
    have q_ := St.vec_fz ((hS.pull 1).pull 1) q0j; obtain ⟨q7, q1k, q1n, hS⟩ := q_
    have hcall := c_exact_made q2b q1n hS
    refine o_cc call_93 (args2 q0v q0w) hcall ?_
    rintro e w' ⟨q0x, q1v, c_y0_ret_1_2_7, rfl, q0g, hS⟩
    refine ⟨_, rfl, ?_⟩
    have e_ := q0g.n; subst e_
    refine x_done <| ?_
    refine x_fin ⟨⟨_, rfl⟩, rfl, ?_⟩
    replace hS := St.ro_split q1k hS
    replace hS := St.bun (Φ := (fun (q7 : Heap) => Le ρ q7 ∧ RdS (RpI .u32) q7 (adOf (Ep2 17)) q0d.length (capOf (Ep2 17)) q0d ∧ RdS (RpI .u32) q7 q0x q0a.fmag.length c_y0_ret_1_2_7 q0a.fmag)) (L := (fun (q7 : Heap) => [roD ρ q7])) q7 ⟨q1k, q1n, q0g⟩ (hS.pull 1)
    exact Eq.mp (by kernel_rfl) (hS.pull 1)
   ·intro Ep2 w l' hE2 hO2 hF_ hS
    obtain ⟨q0y, -⟩ := hF_
    replace q0y : Ep2 18 = .agg #[.bool q0a.fneg, .slice (adOf (partOf 1 (Ep2 18))) q0a.fmag.length (capOf (partOf 1 (Ep2 18)))] := Eq.mp (by kernel_rfl) q0y
    replace hS : St w0 w (cells b4 79 [.bool false, .slice none 0 0] :: l') := Eq.mp (by kernel_rfl) hS
    refine o_storeAgg (news := [.bool q0a.fneg, .slice (adOf (partOf 1 (Ep2 18))) q0a.fmag.length (capOf (partOf 1 (Ep2 18)))]) agg_79 (hE2 4 rfl) q0y rfl (by simp [over_length]) hS (fun w' hS => ?_)
    refine x_done <| ?_
    refine x_fin ⟨⟨undef, rfl⟩, trivial, ?_⟩
    exact Eq.mp (by kernel_rfl) hS
  intro Ep2 w' hE2 hF_ hS
  obtain ⟨q0q, q0v, q0r, q0t, q0s, q0u, q0w, q0y, -⟩ := hF_
  replace q0q : Ep2 11 = .pointer (some ⟨b2, 0, none⟩) := Eq.mp (by kernel_rfl) q0q
  replace q0v : Ep2 12 = .bool a0.fneg := Eq.mp (by kernel_rfl) q0v
  replace q0r : Ep2 13 = .pointer (some ⟨b2, 1, none⟩) := Eq.mp (by kernel_rfl) q0r
  replace q0t : Ep2 14 = .slice q5 a0.fmag.length c_a0_1 := Eq.mp (by kernel_rfl) q0t
  replace q0s : Ep2 15 = .pointer (some ⟨b3, 1, none⟩) := Eq.mp (by kernel_rfl) q0s
  replace q0u : Ep2 16 = .slice q6 b1.fmag.length c_b1_1 := Eq.mp (by kernel_rfl) q0u
  replace q0w : Ep2 17 = .slice (adOf (Ep2 17)) q0d.length (capOf (Ep2 17)) := Eq.mp (by kernel_rfl) q0w
  replace q0y : Ep2 18 = .agg #[.bool q0a.fneg, .slice (adOf (partOf 1 (Ep2 18))) q0a.fmag.length (capOf (partOf 1 (Ep2 18)))] := Eq.mp (by kernel_rfl) q0y
  replace hS : St w0 w' (cells b2 79 [.bool a0.fneg, .slice q5 a0.fmag.length c_a0_1] :: cells b3 79 [.bool b1.fneg, .slice q6 b1.fmag.length c_b1_1] :: ro ρ :: bunA (fun (q7 : Heap) => Le ρ q7 ∧ RdS (RpI .u32) q7 (adOf (Ep2 17)) q0d.length (capOf (Ep2 17)) q0d ∧ RdS (RpI .u32) q7 (adOf (partOf 1 (Ep2 18))) q0a.fmag.length (capOf (partOf 1 (Ep2 18))) q0a.fmag) (fun (q7 : Heap) => [roD ρ q7]) :: cells b4 79 [.bool q0a.fneg, .slice (adOf (partOf 1 (Ep2 18))) q0a.fmag.length (capOf (partOf 1 (Ep2 18)))] :: (l)) := Eq.mp (by kernel_rfl) hS
  have q_ := St.unbun (hS.pull 3); obtain ⟨q7, ⟨q1s, q1n, q0g⟩, hS⟩ := q_
  have q_ := St.ro_join (hS.pull 3) (Le.refl _) q1s; obtain ⟨q25, q1w, q1x, hS, q2h⟩ := q_
  have e_ := Option.some.inj (show some _ = some _ from hF); subst e_
  exact x_return ⟨_, ⟨_, _, _, rfl, (hE2 4 rfl), ldvA agg_79 rfl (fun j v hj => by rw [add0]; exact St.cell (hS.pull 3) hj), rfl⟩, q25, (adOf (partOf 1 (Ep2 18))), q0a.fmag.length, (capOf (partOf 1 (Ep2 18))), rfl, q1w, (q0g.le q1x), ((((hS.pull 1).drop.pull 1).drop.pull 1).drop)⟩
 ·replace hF := it_bf hc5 hF
  replace hF := bd_s hF; obtain ⟨q2i, q2c, hF⟩ := hF
  refine x_seq <| x_region <| p (yl_field0 fld_79_1 rfl) <| pa (at_load one_77 rfl ((hS.pull 2).cell rfl)) <|
   p (yl_field0 fld_79_1 rfl) <| pa (at_load one_77 rfl ((hS.pull 1).cell rfl)) <| ?_
  have hcall := c_exact_cmpMag q2c q0m q0n (hS.pull 3)
  refine o_cc call_91 (args2 rfl rfl) ((Calls.mono hcall (fun e w'' h => And.intro h.1 (((h.2.pull 3).pull 3).pull 3)))) ?_
  rintro e w' ⟨rfl, hS⟩
  refine ⟨_, rfl, ?_⟩
  refine p (yl_geq rfl rfl) <| p (yl_assign rfl) <| x_done <|
   x_cond_p (0 ≤ q2i) rfl (fun hc19 => ?_) (fun hc19 => ?_)
  ·replace hF := it_t hc19 hF
   refine x_seq <| ?_
   replace hF := bd_s hF; obtain ⟨q0e, q2d, hF⟩ := hF
   replace hF := bd_s hF; obtain ⟨q0b, q2e, hF⟩ := hF
   refine x_par (w0 := w0) [⟨[], [], [26], [], [], []⟩, ⟨[0], [0], [27], [0], [], []⟩, ⟨[], [], [28], [], [], []⟩, ⟨[2], [2], [29], [0], [], []⟩, ⟨[], [], [30], [], [], []⟩, ⟨[4], [4], [31], [1], [], []⟩, ⟨[2, 3, 4, 5], [3, 5], [32], [2], [], [3]⟩, ⟨[0, 1, 2, 3, 4, 5, 6], [1, 6], [33], [2], [3], [4]⟩, ⟨[0, 1, 2, 3, 4, 5, 6, 7], [7], [], [], [5], [6]⟩] [⟨none, none, []⟩, ⟨none, none, []⟩, ⟨none, none, []⟩, ⟨(some 6), (some 7), [32]⟩, ⟨(some 7), none, [32, 33]⟩, ⟨none, (some 8), []⟩, ⟨(some 8), none, [33]⟩] [26, 27, 28, 29, 30, 31, 32, 33] [0, 1, 2, 5] [0, 1, 2, 4, 6] [0, 1, 2, 3, 4, 5, 6, 7] [fun Ep4 => Ep4 26 = .pointer (some ⟨b2, 0, none⟩), fun Ep4 => Ep4 27 = .bool a0.fneg, fun Ep4 => Ep4 28 = .pointer (some ⟨b2, 1, none⟩), fun Ep4 => Ep4 29 = .slice q5 a0.fmag.length c_a0_1, fun Ep4 => Ep4 30 = .pointer (some ⟨b3, 1, none⟩), fun Ep4 => Ep4 31 = .slice q6 b1.fmag.length c_b1_1, fun Ep4 => Ep4 32 = .slice (adOf (Ep4 32)) q0e.length (capOf (Ep4 32)), fun Ep4 => Ep4 33 = .agg #[.bool q0b.fneg, .slice (adOf (partOf 1 (Ep4 33))) q0b.fmag.length (capOf (partOf 1 (Ep4 33)))], fun Ep4 => True] [fun Ep4 => cells b2 79 [.bool a0.fneg, .slice q5 a0.fmag.length c_a0_1], fun Ep4 => cells b3 79 [.bool b1.fneg, .slice q6 b1.fmag.length c_b1_1], fun Ep4 => ro ρ, fun Ep4 => bunA (fun (q3 : List Value) => RepL (RpI .u32) ρ q0e q3) (fun (q3 : List Value) => [vec 159 (RpI .u32).sz (.slice (adOf (Ep4 32)) q0e.length (capOf (Ep4 32))) q0e.length q3]), fun Ep4 => bunA (fun (q8 : Heap) => Le ρ q8 ∧ RdS (RpI .u32) q8 (adOf (Ep4 32)) q0e.length (capOf (Ep4 32)) q0e ∧ RdS (RpI .u32) q8 (adOf (partOf 1 (Ep4 33))) q0b.fmag.length (capOf (partOf 1 (Ep4 33))) q0b.fmag) (fun (q8 : Heap) => [roD ρ q8]), fun Ep4 => cells b4 79 [.bool false, .slice none 0 0], fun Ep4 => cells b4 79 [.bool q0b.fneg, .slice (adOf (partOf 1 (Ep4 33))) q0b.fmag.length (capOf (partOf 1 (Ep4 33)))]] mixed (by kernel_rfl) (((hS.pull 3).pull 2).pull 3) ?_ ?_
   ·refine ⟨?_, ?_, ?_, ?_, ?_, ?_, ?_, ?_, ?_, trivial⟩
    ·intro Ep4 w l' hE4 hO4 hF_ hS
     refine p (yl_field0 fld_79_0 (hE4 2 rfl)) <| x_done <| ?_
     refine x_fin ⟨⟨_, rfl⟩, rfl, ?_⟩
     exact Eq.mp (by kernel_rfl) hS
    ·intro Ep4 w l' hE4 hO4 hF_ hS
     obtain ⟨q0z, -⟩ := hF_
     replace q0z : Ep4 26 = .pointer (some ⟨b2, 0, none⟩) := Eq.mp (by kernel_rfl) q0z
     replace hS : St w0 w (cells b2 79 [.bool a0.fneg, .slice q5 a0.fmag.length c_a0_1] :: l') := Eq.mp (by kernel_rfl) hS
     refine pa (at_load one_4 q0z (hS.cell rfl)) <| x_done <| ?_
     refine x_fin ⟨⟨_, rfl⟩, rfl, ?_⟩
     exact Eq.mp (by kernel_rfl) hS
    ·intro Ep4 w l' hE4 hO4 hF_ hS
     refine p (yl_field0 fld_79_1 (hE4 2 rfl)) <| x_done <| ?_
     refine x_fin ⟨⟨_, rfl⟩, rfl, ?_⟩
     exact Eq.mp (by kernel_rfl) hS
    ·intro Ep4 w l' hE4 hO4 hF_ hS
     obtain ⟨q10, -⟩ := hF_
     replace q10 : Ep4 28 = .pointer (some ⟨b2, 1, none⟩) := Eq.mp (by kernel_rfl) q10
     replace hS : St w0 w (cells b2 79 [.bool a0.fneg, .slice q5 a0.fmag.length c_a0_1] :: l') := Eq.mp (by kernel_rfl) hS
     refine pa (at_load one_77 q10 (hS.cell rfl)) <| x_done <| ?_
     refine x_fin ⟨⟨_, rfl⟩, rfl, ?_⟩
     exact Eq.mp (by kernel_rfl) hS
    ·intro Ep4 w l' hE4 hO4 hF_ hS
     refine p (yl_field0 fld_79_1 (hE4 3 rfl)) <| x_done <| ?_
     refine x_fin ⟨⟨_, rfl⟩, rfl, ?_⟩
     exact Eq.mp (by kernel_rfl) hS
    ·intro Ep4 w l' hE4 hO4 hF_ hS
     obtain ⟨q11, -⟩ := hF_
     replace q11 : Ep4 30 = .pointer (some ⟨b3, 1, none⟩) := Eq.mp (by kernel_rfl) q11
     replace hS : St w0 w (cells b3 79 [.bool b1.fneg, .slice q6 b1.fmag.length c_b1_1] :: l') := Eq.mp (by kernel_rfl) hS
     refine pa (at_load one_77 q11 (hS.cell rfl)) <| x_done <| ?_
     refine x_fin ⟨⟨_, rfl⟩, rfl, ?_⟩
     exact Eq.mp (by kernel_rfl) hS
    ·intro Ep4 w l' hE4 hO4 hF_ hS
     obtain ⟨q12, q13, -⟩ := hF_
     replace q12 : Ep4 29 = .slice q5 a0.fmag.length c_a0_1 := Eq.mp (by kernel_rfl) q12
     replace q13 : Ep4 31 = .slice q6 b1.fmag.length c_b1_1 := Eq.mp (by kernel_rfl) q13
     replace hS : St w0 w (ro ρ :: l') := Eq.mp (by kernel_rfl) hS
     have hcall := c_exact_subMag q2d q0m q0n hS
     refine o_cc call_127 (args2 q12 q13) hcall ?_
     rintro e w' ⟨q1i, q26, c_y0_ret_4_6, q3, rfl, q0k, hS⟩
     refine ⟨_, rfl, ?_⟩
     have e_ := St.vec_n hS q0k; subst e_
     refine x_done <| ?_
     refine x_fin ⟨⟨_, rfl⟩, rfl, ?_⟩
     replace hS := St.bun (Φ := (fun (q3 : List Value) => RepL (RpI .u32) ρ q0e q3)) (L := (fun (q3 : List Value) => [vec 159 (RpI .u32).sz (.slice q1i q0e.length c_y0_ret_4_6) q0e.length q3])) q3 q0k hS
     exact Eq.mp (by kernel_rfl) (hS.pull 1)
    ·intro Ep4 w l' hE4 hO4 hF_ hS
     obtain ⟨q14, q15, -⟩ := hF_
     replace q14 : Ep4 27 = .bool a0.fneg := Eq.mp (by kernel_rfl) q14
     replace q15 : Ep4 32 = .slice (adOf (Ep4 32)) q0e.length (capOf (Ep4 32)) := Eq.mp (by kernel_rfl) q15
     replace hS : St w0 w (ro ρ :: bunA (fun (q3 : List Value) => RepL (RpI .u32) ρ q0e q3) (fun (q3 : List Value) => [vec 159 (RpI .u32).sz (.slice (adOf (Ep4 32)) q0e.length (capOf (Ep4 32))) q0e.length q3]) :: l') := Eq.mp (by kernel_rfl) hS
     have q_ := St.unbun (hS.pull 1); obtain ⟨q3, q0k, hS⟩ := q_
     have q_ := St.vec_fz ((hS.pull 1).pull 1) q0k; obtain ⟨q8, q1l, q1o, hS⟩ := q_
     have hcall := c_exact_made q2e q1o hS
     refine o_cc call_93 (args2 q14 q15) hcall ?_
     rintro e w' ⟨q16, q1y, c_y0_ret_1_4_7, rfl, q0h, hS⟩
     refine ⟨_, rfl, ?_⟩
     have e_ := q0h.n; subst e_
     refine x_done <| ?_
     refine x_fin ⟨⟨_, rfl⟩, rfl, ?_⟩
     replace hS := St.ro_split q1l hS
     replace hS := St.bun (Φ := (fun (q8 : Heap) => Le ρ q8 ∧ RdS (RpI .u32) q8 (adOf (Ep4 32)) q0e.length (capOf (Ep4 32)) q0e ∧ RdS (RpI .u32) q8 q16 q0b.fmag.length c_y0_ret_1_4_7 q0b.fmag)) (L := (fun (q8 : Heap) => [roD ρ q8])) q8 ⟨q1l, q1o, q0h⟩ (hS.pull 1)
     exact Eq.mp (by kernel_rfl) (hS.pull 1)
    ·intro Ep4 w l' hE4 hO4 hF_ hS
     obtain ⟨q17, -⟩ := hF_
     replace q17 : Ep4 33 = .agg #[.bool q0b.fneg, .slice (adOf (partOf 1 (Ep4 33))) q0b.fmag.length (capOf (partOf 1 (Ep4 33)))] := Eq.mp (by kernel_rfl) q17
     replace hS : St w0 w (cells b4 79 [.bool false, .slice none 0 0] :: l') := Eq.mp (by kernel_rfl) hS
     refine o_storeAgg (news := [.bool q0b.fneg, .slice (adOf (partOf 1 (Ep4 33))) q0b.fmag.length (capOf (partOf 1 (Ep4 33)))]) agg_79 (hE4 4 rfl) q17 rfl (by simp [over_length]) hS (fun w' hS => ?_)
     refine x_done <| ?_
     refine x_fin ⟨⟨undef, rfl⟩, trivial, ?_⟩
     exact Eq.mp (by kernel_rfl) hS
   intro Ep4 w' hE4 hF_ hS
   obtain ⟨q0z, q14, q10, q12, q11, q13, q15, q17, -⟩ := hF_
   replace q0z : Ep4 26 = .pointer (some ⟨b2, 0, none⟩) := Eq.mp (by kernel_rfl) q0z
   replace q14 : Ep4 27 = .bool a0.fneg := Eq.mp (by kernel_rfl) q14
   replace q10 : Ep4 28 = .pointer (some ⟨b2, 1, none⟩) := Eq.mp (by kernel_rfl) q10
   replace q12 : Ep4 29 = .slice q5 a0.fmag.length c_a0_1 := Eq.mp (by kernel_rfl) q12
   replace q11 : Ep4 30 = .pointer (some ⟨b3, 1, none⟩) := Eq.mp (by kernel_rfl) q11
   replace q13 : Ep4 31 = .slice q6 b1.fmag.length c_b1_1 := Eq.mp (by kernel_rfl) q13
   replace q15 : Ep4 32 = .slice (adOf (Ep4 32)) q0e.length (capOf (Ep4 32)) := Eq.mp (by kernel_rfl) q15
   replace q17 : Ep4 33 = .agg #[.bool q0b.fneg, .slice (adOf (partOf 1 (Ep4 33))) q0b.fmag.length (capOf (partOf 1 (Ep4 33)))] := Eq.mp (by kernel_rfl) q17
   replace hS : St w0 w' (cells b2 79 [.bool a0.fneg, .slice q5 a0.fmag.length c_a0_1] :: cells b3 79 [.bool b1.fneg, .slice q6 b1.fmag.length c_b1_1] :: ro ρ :: bunA (fun (q8 : Heap) => Le ρ q8 ∧ RdS (RpI .u32) q8 (adOf (Ep4 32)) q0e.length (capOf (Ep4 32)) q0e ∧ RdS (RpI .u32) q8 (adOf (partOf 1 (Ep4 33))) q0b.fmag.length (capOf (partOf 1 (Ep4 33))) q0b.fmag) (fun (q8 : Heap) => [roD ρ q8]) :: cells b4 79 [.bool q0b.fneg, .slice (adOf (partOf 1 (Ep4 33))) q0b.fmag.length (capOf (partOf 1 (Ep4 33)))] :: (l)) := Eq.mp (by kernel_rfl) hS
   have q_ := St.unbun (hS.pull 3); obtain ⟨q8, ⟨q1t, q1o, q0h⟩, hS⟩ := q_
   have q_ := St.ro_join (hS.pull 3) (Le.refl _) q1t; obtain ⟨q27, q1z, q20, hS, q2j⟩ := q_
   have e_ := Option.some.inj (show some _ = some _ from hF); subst e_
   exact x_return ⟨_, ⟨_, _, _, rfl, (hE4 4 rfl), ldvA agg_79 rfl (fun j v hj => by rw [add0]; exact St.cell (hS.pull 3) hj), rfl⟩, q27, (adOf (partOf 1 (Ep4 33))), q0b.fmag.length, (capOf (partOf 1 (Ep4 33))), rfl, q1z, (q0h.le q20), ((((hS.pull 1).drop.pull 1).drop.pull 1).drop)⟩
  ·replace hF := it_f hc19 hF
   refine x_skip <| x_blk <| x_seq <| ?_
   replace hF := bd_s hF; obtain ⟨q0f, q2f, hF⟩ := hF
   replace hF := bd_s hF; obtain ⟨q0c, q2g, hF⟩ := hF
   refine x_par (w0 := w0) [⟨[], [], [34], [], [], []⟩, ⟨[0], [0], [35], [0], [], []⟩, ⟨[], [], [36], [], [], []⟩, ⟨[2], [2], [37], [0], [], []⟩, ⟨[], [], [38], [], [], []⟩, ⟨[4], [4], [39], [1], [], []⟩, ⟨[2, 3, 4, 5], [3, 5], [40], [2], [], [3]⟩, ⟨[0, 1, 2, 3, 4, 5, 6], [1, 6], [41], [2], [3], [4]⟩, ⟨[0, 1, 2, 3, 4, 5, 6, 7], [7], [], [], [5], [6]⟩] [⟨none, none, []⟩, ⟨none, none, []⟩, ⟨none, none, []⟩, ⟨(some 6), (some 7), [40]⟩, ⟨(some 7), none, [40, 41]⟩, ⟨none, (some 8), []⟩, ⟨(some 8), none, [41]⟩] [34, 35, 36, 37, 38, 39, 40, 41] [0, 1, 2, 5] [0, 1, 2, 4, 6] [0, 1, 2, 3, 4, 5, 6, 7] [fun Ep5 => Ep5 34 = .pointer (some ⟨b3, 0, none⟩), fun Ep5 => Ep5 35 = .bool b1.fneg, fun Ep5 => Ep5 36 = .pointer (some ⟨b3, 1, none⟩), fun Ep5 => Ep5 37 = .slice q6 b1.fmag.length c_b1_1, fun Ep5 => Ep5 38 = .pointer (some ⟨b2, 1, none⟩), fun Ep5 => Ep5 39 = .slice q5 a0.fmag.length c_a0_1, fun Ep5 => Ep5 40 = .slice (adOf (Ep5 40)) q0f.length (capOf (Ep5 40)), fun Ep5 => Ep5 41 = .agg #[.bool q0c.fneg, .slice (adOf (partOf 1 (Ep5 41))) q0c.fmag.length (capOf (partOf 1 (Ep5 41)))], fun Ep5 => True] [fun Ep5 => cells b3 79 [.bool b1.fneg, .slice q6 b1.fmag.length c_b1_1], fun Ep5 => cells b2 79 [.bool a0.fneg, .slice q5 a0.fmag.length c_a0_1], fun Ep5 => ro ρ, fun Ep5 => bunA (fun (q4 : List Value) => RepL (RpI .u32) ρ q0f q4) (fun (q4 : List Value) => [vec 159 (RpI .u32).sz (.slice (adOf (Ep5 40)) q0f.length (capOf (Ep5 40))) q0f.length q4]), fun Ep5 => bunA (fun (q9 : Heap) => Le ρ q9 ∧ RdS (RpI .u32) q9 (adOf (Ep5 40)) q0f.length (capOf (Ep5 40)) q0f ∧ RdS (RpI .u32) q9 (adOf (partOf 1 (Ep5 41))) q0c.fmag.length (capOf (partOf 1 (Ep5 41))) q0c.fmag) (fun (q9 : Heap) => [roD ρ q9]), fun Ep5 => cells b4 79 [.bool false, .slice none 0 0], fun Ep5 => cells b4 79 [.bool q0c.fneg, .slice (adOf (partOf 1 (Ep5 41))) q0c.fmag.length (capOf (partOf 1 (Ep5 41)))]] mixed (by kernel_rfl) (((hS.pull 3).pull 3).pull 3) ?_ ?_
   ·refine ⟨?_, ?_, ?_, ?_, ?_, ?_, ?_, ?_, ?_, trivial⟩
    ·intro Ep5 w l' hE5 hO5 hF_ hS
     refine p (yl_field0 fld_79_0 (hE5 3 rfl)) <| x_done <| ?_
     refine x_fin ⟨⟨_, rfl⟩, rfl, ?_⟩
     exact Eq.mp (by kernel_rfl) hS
    ·intro Ep5 w l' hE5 hO5 hF_ hS
     obtain ⟨q18, -⟩ := hF_
     replace q18 : Ep5 34 = .pointer (some ⟨b3, 0, none⟩) := Eq.mp (by kernel_rfl) q18
     replace hS : St w0 w (cells b3 79 [.bool b1.fneg, .slice q6 b1.fmag.length c_b1_1] :: l') := Eq.mp (by kernel_rfl) hS
     refine pa (at_load one_4 q18 (hS.cell rfl)) <| x_done <| ?_
     refine x_fin ⟨⟨_, rfl⟩, rfl, ?_⟩
     exact Eq.mp (by kernel_rfl) hS
    ·intro Ep5 w l' hE5 hO5 hF_ hS
     refine p (yl_field0 fld_79_1 (hE5 3 rfl)) <| x_done <| ?_
     refine x_fin ⟨⟨_, rfl⟩, rfl, ?_⟩
     exact Eq.mp (by kernel_rfl) hS
    ·intro Ep5 w l' hE5 hO5 hF_ hS
     obtain ⟨q19, -⟩ := hF_
     replace q19 : Ep5 36 = .pointer (some ⟨b3, 1, none⟩) := Eq.mp (by kernel_rfl) q19
     replace hS : St w0 w (cells b3 79 [.bool b1.fneg, .slice q6 b1.fmag.length c_b1_1] :: l') := Eq.mp (by kernel_rfl) hS
     refine pa (at_load one_77 q19 (hS.cell rfl)) <| x_done <| ?_
     refine x_fin ⟨⟨_, rfl⟩, rfl, ?_⟩
     exact Eq.mp (by kernel_rfl) hS
    ·intro Ep5 w l' hE5 hO5 hF_ hS
     refine p (yl_field0 fld_79_1 (hE5 2 rfl)) <| x_done <| ?_
     refine x_fin ⟨⟨_, rfl⟩, rfl, ?_⟩
     exact Eq.mp (by kernel_rfl) hS
    ·intro Ep5 w l' hE5 hO5 hF_ hS
     obtain ⟨q1a, -⟩ := hF_
     replace q1a : Ep5 38 = .pointer (some ⟨b2, 1, none⟩) := Eq.mp (by kernel_rfl) q1a
     replace hS : St w0 w (cells b2 79 [.bool a0.fneg, .slice q5 a0.fmag.length c_a0_1] :: l') := Eq.mp (by kernel_rfl) hS
     refine pa (at_load one_77 q1a (hS.cell rfl)) <| x_done <| ?_
     refine x_fin ⟨⟨_, rfl⟩, rfl, ?_⟩
     exact Eq.mp (by kernel_rfl) hS
    ·intro Ep5 w l' hE5 hO5 hF_ hS
     obtain ⟨q1b, q1c, -⟩ := hF_
     replace q1b : Ep5 37 = .slice q6 b1.fmag.length c_b1_1 := Eq.mp (by kernel_rfl) q1b
     replace q1c : Ep5 39 = .slice q5 a0.fmag.length c_a0_1 := Eq.mp (by kernel_rfl) q1c
     replace hS : St w0 w (ro ρ :: l') := Eq.mp (by kernel_rfl) hS
     have hcall := c_exact_subMag q2f q0n q0m hS
     refine o_cc call_127 (args2 q1b q1c) hcall ?_
     rintro e w' ⟨q1j, q28, c_y0_ret_5_6, q4, rfl, q0l, hS⟩
     refine ⟨_, rfl, ?_⟩
     have e_ := St.vec_n hS q0l; subst e_
     refine x_done <| ?_
     refine x_fin ⟨⟨_, rfl⟩, rfl, ?_⟩
     replace hS := St.bun (Φ := (fun (q4 : List Value) => RepL (RpI .u32) ρ q0f q4)) (L := (fun (q4 : List Value) => [vec 159 (RpI .u32).sz (.slice q1j q0f.length c_y0_ret_5_6) q0f.length q4])) q4 q0l hS
     exact Eq.mp (by kernel_rfl) (hS.pull 1)
    ·intro Ep5 w l' hE5 hO5 hF_ hS
     obtain ⟨q1d, q1e, -⟩ := hF_
     replace q1d : Ep5 35 = .bool b1.fneg := Eq.mp (by kernel_rfl) q1d
     replace q1e : Ep5 40 = .slice (adOf (Ep5 40)) q0f.length (capOf (Ep5 40)) := Eq.mp (by kernel_rfl) q1e
     replace hS : St w0 w (ro ρ :: bunA (fun (q4 : List Value) => RepL (RpI .u32) ρ q0f q4) (fun (q4 : List Value) => [vec 159 (RpI .u32).sz (.slice (adOf (Ep5 40)) q0f.length (capOf (Ep5 40))) q0f.length q4]) :: l') := Eq.mp (by kernel_rfl) hS
     have q_ := St.unbun (hS.pull 1); obtain ⟨q4, q0l, hS⟩ := q_
     have q_ := St.vec_fz ((hS.pull 1).pull 1) q0l; obtain ⟨q9, q1m, q1p, hS⟩ := q_
     have hcall := c_exact_made q2g q1p hS
     refine o_cc call_93 (args2 q1d q1e) hcall ?_
     rintro e w' ⟨q1f, q21, c_y0_ret_1_5_7, rfl, q0i, hS⟩
     refine ⟨_, rfl, ?_⟩
     have e_ := q0i.n; subst e_
     refine x_done <| ?_
     refine x_fin ⟨⟨_, rfl⟩, rfl, ?_⟩
     replace hS := St.ro_split q1m hS
     replace hS := St.bun (Φ := (fun (q9 : Heap) => Le ρ q9 ∧ RdS (RpI .u32) q9 (adOf (Ep5 40)) q0f.length (capOf (Ep5 40)) q0f ∧ RdS (RpI .u32) q9 q1f q0c.fmag.length c_y0_ret_1_5_7 q0c.fmag)) (L := (fun (q9 : Heap) => [roD ρ q9])) q9 ⟨q1m, q1p, q0i⟩ (hS.pull 1)
     exact Eq.mp (by kernel_rfl) (hS.pull 1)
    ·intro Ep5 w l' hE5 hO5 hF_ hS
     obtain ⟨q1g, -⟩ := hF_
     replace q1g : Ep5 41 = .agg #[.bool q0c.fneg, .slice (adOf (partOf 1 (Ep5 41))) q0c.fmag.length (capOf (partOf 1 (Ep5 41)))] := Eq.mp (by kernel_rfl) q1g
     replace hS : St w0 w (cells b4 79 [.bool false, .slice none 0 0] :: l') := Eq.mp (by kernel_rfl) hS
     refine o_storeAgg (news := [.bool q0c.fneg, .slice (adOf (partOf 1 (Ep5 41))) q0c.fmag.length (capOf (partOf 1 (Ep5 41)))]) agg_79 (hE5 4 rfl) q1g rfl (by simp [over_length]) hS (fun w' hS => ?_)
     refine x_done <| ?_
     refine x_fin ⟨⟨undef, rfl⟩, trivial, ?_⟩
     exact Eq.mp (by kernel_rfl) hS
   intro Ep5 w' hE5 hF_ hS
   obtain ⟨q18, q1d, q19, q1b, q1a, q1c, q1e, q1g, -⟩ := hF_
   replace q18 : Ep5 34 = .pointer (some ⟨b3, 0, none⟩) := Eq.mp (by kernel_rfl) q18
   replace q1d : Ep5 35 = .bool b1.fneg := Eq.mp (by kernel_rfl) q1d
   replace q19 : Ep5 36 = .pointer (some ⟨b3, 1, none⟩) := Eq.mp (by kernel_rfl) q19
   replace q1b : Ep5 37 = .slice q6 b1.fmag.length c_b1_1 := Eq.mp (by kernel_rfl) q1b
   replace q1a : Ep5 38 = .pointer (some ⟨b2, 1, none⟩) := Eq.mp (by kernel_rfl) q1a
   replace q1c : Ep5 39 = .slice q5 a0.fmag.length c_a0_1 := Eq.mp (by kernel_rfl) q1c
   replace q1e : Ep5 40 = .slice (adOf (Ep5 40)) q0f.length (capOf (Ep5 40)) := Eq.mp (by kernel_rfl) q1e
   replace q1g : Ep5 41 = .agg #[.bool q0c.fneg, .slice (adOf (partOf 1 (Ep5 41))) q0c.fmag.length (capOf (partOf 1 (Ep5 41)))] := Eq.mp (by kernel_rfl) q1g
   replace hS : St w0 w' (cells b3 79 [.bool b1.fneg, .slice q6 b1.fmag.length c_b1_1] :: cells b2 79 [.bool a0.fneg, .slice q5 a0.fmag.length c_a0_1] :: ro ρ :: bunA (fun (q9 : Heap) => Le ρ q9 ∧ RdS (RpI .u32) q9 (adOf (Ep5 40)) q0f.length (capOf (Ep5 40)) q0f ∧ RdS (RpI .u32) q9 (adOf (partOf 1 (Ep5 41))) q0c.fmag.length (capOf (partOf 1 (Ep5 41))) q0c.fmag) (fun (q9 : Heap) => [roD ρ q9]) :: cells b4 79 [.bool q0c.fneg, .slice (adOf (partOf 1 (Ep5 41))) q0c.fmag.length (capOf (partOf 1 (Ep5 41)))] :: (l)) := Eq.mp (by kernel_rfl) hS
   have q_ := St.unbun (hS.pull 3); obtain ⟨q9, ⟨q1u, q1p, q0i⟩, hS⟩ := q_
   have q_ := St.ro_join (hS.pull 3) (Le.refl _) q1u; obtain ⟨q29, q22, q23, hS, q2k⟩ := q_
   have e_ := Option.some.inj (show some _ = some _ from hF); subst e_
   exact x_return ⟨_, ⟨_, _, _, rfl, (hE5 4 rfl), ldvA agg_79 rfl (fun j v hj => by rw [add0]; exact St.cell (hS.pull 3) hj), rfl⟩, q29, (adOf (partOf 1 (Ep5 41))), q0c.fmag.length, (capOf (partOf 1 (Ep5 41))), rfl, q22, (q0i.le q23), ((((hS.pull 1).drop.pull 1).drop.pull 1).drop)⟩
attribute [irreducible] P_exact_plus

def P_exact_Add (a0 : T_exact_Int) (b1 : T_exact_Int) : Option (T_exact_Int × Int) :=
 bd (P_exact_plus a0 b1) fun q3 =>
 bd (P_exact_fit q3) fun q2 =>
 some (q2.1, q2.2)
set_option maxHeartbeats 4000000 in
set_option maxRecDepth 100000 in
theorem c_exact_Add {w0 w : World} {l : List Assn} {ρ : Heap} {q5 : Option Addr} {q9 : Nat} {c_a0_1 : Nat} {q6 : Option Addr} {q0a : Nat} {c_b1_1 : Nat} {a0 : T_exact_Int} {b1 : T_exact_Int} {r : (T_exact_Int × Int)} (hF : P_exact_Add a0 b1 = some r) (q0b : RdS (RpI .u32) ρ q5 q9 c_a0_1 a0.fmag) (q0c : RdS (RpI .u32) ρ q6 q0a c_b1_1 b1.fmag) (hS : St w0 w (ro ρ :: l)) :
  Calls Try.prog 52 #[.agg #[.bool a0.fneg, .slice q5 q9 c_a0_1], .agg #[.bool b1.fneg, .slice q6 q0a c_b1_1]] w fun e w' => ∃ (ρ' : Heap) (q7 : Option Addr) (q8 : Nat) (c_y0_ret_1 : Nat), e = .returned (.tuple #[.agg #[.bool r.1.fneg, .slice q7 q8 c_y0_ret_1], .int .i64 r.2]) ∧ Le ρ ρ' ∧ RdS (RpI .u32) ρ' q7 q8 c_y0_ret_1 r.1.fmag ∧ St w0 w' (ro ρ' :: l) := by
 have e_ := q0b.n; subst e_
 have e_ := q0c.n; subst e_
 refine enterC Try.func52 rfl 12 rfl (by simp) ?_
 refine x_seq <| x_region <| ?_
 refine o_box (cs := [.bool a0.fneg, .slice q5 a0.fmag.length c_a0_1]) rfl rfl hS (fun b2 w' hS => ?_)
 refine o_box (cs := [.bool b1.fneg, .slice q6 b1.fmag.length c_b1_1]) rfl rfl hS (fun b3 w' hS => ?_)
 refine o_alloc zero_79 hS (fun b4 w' hS => ?_)
 replace hF := bd_s hF; obtain ⟨q0l, q0j, hF⟩ := hF
 refine p (yl_assign rfl) <| x_done <| x_seq <| x_region <|
  pa (v := .agg #[.bool a0.fneg, .slice q5 a0.fmag.length c_a0_1]) (ld_sub agg_79 rfl rfl rfl (hS.pull 2)) <| pa (v := .agg #[.bool b1.fneg, .slice q6 b1.fmag.length c_b1_1]) (ld_sub agg_79 rfl rfl rfl (hS.pull 1)) <| ?_
 have hcall := c_exact_plus q0j q0b q0c (hS.pull 3)
 refine o_cc call_96 (args2 rfl rfl) hcall ?_
 rintro e w' ⟨q0h, q0e, q0f, c_y0_ret_1_1_2, rfl, q0i, q2, hS⟩
 refine ⟨_, rfl, ?_⟩
 have e_ := q2.n; subst e_
 replace hF := bd_s hF; obtain ⟨q0d, q0k, hF⟩ := hF
 have hcall := c_exact_fit q0k q2 hS
 refine o_cc call_88 (args1 rfl) hcall ?_
 rintro e w' ⟨q3, q0g, c_y0_ret_1_1_3, rfl, q4, hS⟩
 refine ⟨_, rfl, ?_⟩
 have e_ := q4.n; subst e_
 refine p (yl_extract rfl rfl) <| p (yl_extract rfl rfl) <| ?_
 refine o_storeAgg (news := [.bool q0d.1.fneg, .slice q3 q0d.1.fmag.length c_y0_ret_1_1_3]) agg_79 rfl rfl rfl (by simp [over_length]) (hS.pull 1) (fun w' hS => ?_)
 refine p (yl_assign rfl) <| x_done <| ?_
 have e_ := Option.some.inj (show some _ = some _ from hF); subst e_
 exact x_return ⟨_, ⟨_, _, _, rfl, rfl, ldvA agg_79 rfl (fun j v hj => by rw [add0]; exact St.cell hS hj), _, _, rfl, rfl, rfl⟩, q0h, q3, q0d.1.fmag.length, c_y0_ret_1_1_3, rfl, q0i, q4, (((hS.drop.pull 1).drop.pull 1).drop)⟩
attribute [irreducible] P_exact_Add

def P_maskkeep4_ExactLong_1_L3 (q6 : T_maskmake_Stream) (q0a : (Int × Int)) : (Int × Bool × List Int × Int) → Option ((Int × Bool × List Int × Int) ⊕ (Bool × List Int × Int)) := fun (q5, q3, q4, q2) =>
 if q5 < q0a.1 then
  bd (P_maskmake_Stream_Range (T_maskmake_Stream.mk q6.L q2) 1 1073741824) fun q7 =>
  bd (P_exact_Of q7.1) fun q0b =>
  bd (P_exact_Mul (T_exact_Int.mk q3 q4) q0b) fun q0c =>
  bd (P_maskmake_Stream_Range (T_maskmake_Stream.mk q6.L q7.2) (-5) 5) fun q8 =>
  bd (P_exact_Of q8.1) fun q0d =>
  bd (P_exact_Add q0c.1 q0d) fun q9 =>
  ar (q5 + 1) fun x28 =>
  some (Sum.inl (x28, q9.1.fneg, q9.1.fmag, q8.2))
 else
  some (Sum.inr (q3, q4, q2))
def P_maskkeep4_ExactLong_1 (q3 : T_maskmake_Stream) : Option (T_exact_Int × Int) :=
 bd (P_maskmake_Stream_Range q3 (-1073741824) 1073741824) fun q6 =>
 bd (P_exact_Of q6.1) fun q7 =>
 bd (P_maskmake_Stream_Next (T_maskmake_Stream.mk q3.L q6.2) 40) fun q8 =>
 bd (
  lp (P_maskkeep4_ExactLong_1_L3 q3 q8) fuel (0, q7.fneg, q7.fmag, q8.2)) fun (q4, q5, q2) =>
 some ((T_exact_Int.mk q4 q5), q2)
set_option maxHeartbeats 4000000 in
set_option maxRecDepth 100000 in
theorem c_maskkeep4_ExactLong_1 {w0 w : World} {l : List Assn} {ρ : Heap} {q0q : Nat} {q4 : Nat} {q0a : Option Addr} {q14 : Nat} {c_v0_0_0 : Nat} {q0p : T_maskmake_Stream} {r : (T_exact_Int × Int)} (hF : P_maskkeep4_ExactLong_1 q0p = some r) (q0s : RdS (RpI .i64) ρ q0a q14 c_v0_0_0 q0p.L) (hS : St w0 w (cells q0q 23 [.pointer (some ⟨q4, 0, none⟩)] :: cells q4 25 [.slice q0a q14 c_v0_0_0, .int .i64 q0p.fat] :: ro ρ :: l)) :
  Calls Try.prog 50 #[.pointer (some ⟨q0q, 0, none⟩)] w fun e w' => ∃ (ρ' : Heap) (q19 : Option Addr) (q1a : Nat) (c_y0_ret_1 : Nat), e = .returned (.agg #[.bool r.1.fneg, .slice q19 q1a c_y0_ret_1]) ∧ Le ρ ρ' ∧ RdS (RpI .u32) ρ' q19 q1a c_y0_ret_1 r.1.fmag ∧ St w0 w' (cells q4 25 [.slice q0a q14 c_v0_0_0, .int .i64 r.2] :: cells q0q 23 [.pointer (some ⟨q4, 0, none⟩)] :: ro ρ' :: l) := by
 have e_ := q0s.n; subst e_
 refine enterC Try.func50 rfl 30 rfl (by simp) ?_
 refine x_seq <| x_region <| ?_
 refine o_alloc zero_79 hS (fun b1 w' hS => ?_)
 replace hF := bd_s hF; obtain ⟨q36, q2q, hF⟩ := hF
 refine x_done <| x_seq <| x_region <| pa (at_load one_23 rfl ((hS.pull 1).cell rfl)) <| ?_
 have hcall := c_maskmake_Stream_Range q2q q0s ((hS.pull 3).pull 3)
 refine o_cc call_20 (args3 rfl rfl rfl) hcall ?_
 rintro e w' ⟨rfl, hS⟩
 refine ⟨_, rfl, ?_⟩
 replace hF := bd_s hF; obtain ⟨q1u, q2r, hF⟩ := hF
 have hcall := c_exact_Of q2r  (hS.pull 1)
 refine o_cc call_51 (args1 rfl) hcall ?_
 rintro e w' ⟨q1v, q0w, q2f, c_y0_ret_1_1_2, rfl, q1b, q0x, hS⟩
 refine ⟨_, rfl, ?_⟩
 have e_ := q0x.n; subst e_
 refine o_alloc zero_79 hS (fun b2 w' hS => ?_)
 refine o_storeAgg (news := [.bool q1u.fneg, .slice q0w q1u.fmag.length c_y0_ret_1_1_2]) agg_79 rfl rfl rfl (by simp [over_length]) hS (fun w' hS => ?_)
 replace hF := bd_s hF; obtain ⟨q24, q2s, hF⟩ := hF
 refine x_done <| x_seq <| x_seq <| x_region <|
  pa (at_load one_23 rfl ((hS.pull 4).cell rfl)) <| ?_
 have hcall := c_maskmake_Stream_Next q2s (q0s.le q1b) ((hS.pull 1).pull 2)
 refine o_cc call_12 (args2 rfl rfl) hcall ?_
 rintro e w' ⟨rfl, hS⟩
 refine ⟨_, rfl, ?_⟩
 refine p (yl_move rfl) <| x_done <| ?_
 replace hF := bd_s hF; obtain ⟨oL3, hLL3, hF⟩ := hF
 refine x_join (fun E w => ∃ (q1w : Heap) (q0o : Option Addr) (q12 : Nat) (c_b2_1_L3 : Nat) (q0y : Bool) (q0r : List Int) (q0t : Int), (q0y, q0r, q0t) = oL3 ∧ Le q1v q1w ∧ E 1 = .pointer (some ⟨b1, 0, none⟩) ∧ E 2 = .pointer (some ⟨b2, 0, none⟩) ∧ RdS (RpI .u32) q1w q0o q12 c_b2_1_L3 q0r ∧ St w0 w (cells b1 79 [.bool false, .slice none 0 0] :: cells b2 79 [.bool q0y, .slice q0o q12 c_b2_1_L3] :: cells q4 25 [.slice q0a q0p.L.length c_v0_0_0, .int .i64 q0t] :: cells q0q 23 [.pointer (some ⟨q4, 0, none⟩)] :: ro q1w :: l)) ?_ ?_
 ·refine x_block ?_
  refine x_loop (fun k_ E w => ∃ (q9 : Heap) (q5 : Option Addr) (q0z : Nat) (c_b2_1_L3h : Nat) (q13 : Int) (q0b : Bool) (q8 : List Int) (q0h : Int), lp (P_maskkeep4_ExactLong_1_L3 q0p q24) k_ (q13, q0b, q8, q0h) = some oL3 ∧ Le q1v q9 ∧ E 0 = .pointer (some ⟨q0q, 0, none⟩) ∧ E 1 = .pointer (some ⟨b1, 0, none⟩) ∧ E 2 = .pointer (some ⟨b2, 0, none⟩) ∧ E 9 = .int .i64 q24.1 ∧ E 10 = .int .i64 q13 ∧ RdS (RpI .u32) q9 q5 q0z c_b2_1_L3h q8 ∧ St w0 w (cells q0q 23 [.pointer (some ⟨q4, 0, none⟩)] :: cells b1 79 [.bool false, .slice none 0 0] :: cells b2 79 [.bool q0b, .slice q5 q0z c_b2_1_L3h] :: cells q4 25 [.slice q0a q0p.L.length c_v0_0_0, .int .i64 q0h] :: ro q9 :: l)) fuel ⟨q1v, q0w, q1u.fmag.length, c_y0_ret_1_1_2, 0, q1u.fneg, q1u.fmag, q24.2, hLL3, (Le.refl _), rfl, rfl, rfl, rfl, rfl, q0x, (((((hS.pull 1).pull 1).pull 2).pull 3).pull 4)⟩ ?_
  rintro kL3 E w ⟨q9, q5, q0z, c_b2_1_L3h, q13, q0b, q8, q0h, hLL3, q10, q1x, q29, q1c, q2a, q22, q11, hS⟩
  have e_ := q11.n; subst e_
  replace hLL3 := lp_s hLL3; obtain ⟨kL3, obL3, rfl, hFL3, hLL3⟩ := hLL3
  refine x_seq <| x_region <| p (yl_lss q22 q2a) <| x_done <|
   x_seq <|
   x_cond_p (q13 < q24.1) rfl (fun hc11 => ?_) (fun hc11 => ?_)
  ·replace hFL3 := it_t hc11 hFL3
   refine x_skip <| x_seq <| x_block <| x_seq <| ?_
   replace hFL3 := bd_s hFL3; obtain ⟨q15, q2t, hFL3⟩ := hFL3
   replace hFL3 := bd_s hFL3; obtain ⟨q0i, q2u, hFL3⟩ := hFL3
   replace hFL3 := bd_s hFL3; obtain ⟨q2, q2v, hFL3⟩ := hFL3
   refine x_par (w0 := w0) [⟨[], [], [13], [0], [], []⟩, ⟨[], [], [14], [1], [], []⟩, ⟨[1], [1], [15], [3], [2], [4]⟩, ⟨[1, 2], [2], [16], [3], [], [5]⟩, ⟨[0, 1, 2, 3], [0, 3], [17], [3], [5], [6]⟩, ⟨[0, 1, 2, 3, 4], [4], [12, 17], [], [], []⟩, ⟨[0, 1, 2, 3, 4, 5], [4, 5], [17, 18], [], [], []⟩, ⟨[0, 1, 2, 3, 4, 5], [4, 5], [19], [], [], []⟩, ⟨[], [], [3], [], [], [7]⟩, ⟨[0, 1, 2, 3, 4, 5, 6, 8], [4, 6, 8], [], [], [7], [8]⟩, ⟨[0, 1, 2, 3, 4, 5, 6, 7, 8, 9], [7], [4], [], [], []⟩] [⟨none, none, []⟩, ⟨none, none, []⟩, ⟨none, (some 2), []⟩, ⟨none, none, []⟩, ⟨(some 2), none, []⟩, ⟨(some 3), (some 4), [16]⟩, ⟨(some 4), none, [16, 17]⟩, ⟨(some 8), (some 9), [3]⟩, ⟨(some 9), none, [3, 17]⟩] [3, 4, 12, 13, 14, 15, 16, 17, 18, 19] [0, 1, 2, 3] [0, 1, 3, 4, 6, 8] [0, 1, 2, 3, 4, 5, 6, 7, 8, 10] [fun Ep4 => Ep4 13 = .agg #[.bool q0b, .slice q5 q8.length c_b2_1_L3h], fun Ep4 => Ep4 14 = .pointer (some ⟨q4, 0, none⟩), fun Ep4 => Ep4 15 = .int .i64 q15.1, fun Ep4 => Ep4 16 = .agg #[.bool q0i.fneg, .slice (adOf (partOf 1 (Ep4 16))) q0i.fmag.length (capOf (partOf 1 (Ep4 16)))], fun Ep4 => Ep4 17 = .tuple #[.agg #[.bool q2.1.fneg, .slice (adOf (partOf 1 (partOf 0 (Ep4 17)))) q2.1.fmag.length (capOf (partOf 1 (partOf 0 (Ep4 17))))], .int .i64 q2.2], fun Ep4 => Ep4 12 = .tuple #[.agg #[.bool q2.1.fneg, .slice (adOf (partOf 1 (partOf 0 (Ep4 17)))) q2.1.fmag.length (capOf (partOf 1 (partOf 0 (Ep4 17))))], .int .i64 q2.2], fun Ep4 => Ep4 18 = .agg #[.bool q2.1.fneg, .slice (adOf (partOf 1 (partOf 0 (Ep4 17)))) q2.1.fmag.length (capOf (partOf 1 (partOf 0 (Ep4 17))))], fun Ep4 => Ep4 19 = .int .i64 q2.2, fun Ep4 => Ep4 3 = .pointer (some ⟨(blkOf (Ep4 3)), 0, none⟩), fun Ep4 => True, fun Ep4 => Ep4 4 = .int .i64 q2.2] [fun Ep4 => cells b2 79 [.bool q0b, .slice q5 q8.length c_b2_1_L3h], fun Ep4 => cells q0q 23 [.pointer (some ⟨q4, 0, none⟩)], fun Ep4 => cells q4 25 [.slice q0a q0p.L.length c_v0_0_0, .int .i64 q0h], fun Ep4 => ro q9, fun Ep4 => cells q4 25 [.slice q0a q0p.L.length c_v0_0_0, .int .i64 q15.2], fun Ep4 => bunA (fun (q0c : Heap) => Le q9 q0c ∧ RdS (RpI .u32) q0c (adOf (partOf 1 (Ep4 16))) q0i.fmag.length (capOf (partOf 1 (Ep4 16))) q0i.fmag) (fun (q0c : Heap) => [roD q9 q0c]), fun Ep4 => bunA (fun (q6 : Heap) => Le q9 q6 ∧ RdS (RpI .u32) q6 (adOf (partOf 1 (Ep4 16))) q0i.fmag.length (capOf (partOf 1 (Ep4 16))) q0i.fmag ∧ RdS (RpI .u32) q6 (adOf (partOf 1 (partOf 0 (Ep4 17)))) q2.1.fmag.length (capOf (partOf 1 (partOf 0 (Ep4 17)))) q2.1.fmag) (fun (q6 : Heap) => [roD q9 q6]), fun Ep4 => cells (blkOf (Ep4 3)) 79 [.bool false, .slice none 0 0], fun Ep4 => cells (blkOf (Ep4 3)) 79 [.bool q2.1.fneg, .slice (adOf (partOf 1 (partOf 0 (Ep4 17)))) q2.1.fmag.length (capOf (partOf 1 (partOf 0 (Ep4 17))))]] mixed (by kernel_rfl) ((((hS.pull 4).pull 4).pull 2).pull 4) ?_ ?_
   ·refine ⟨?_, ?_, ?_, ?_, ?_, ?_, ?_, ?_, ?_, ?_, ?_, trivial⟩
    ·intro Ep4 w l' hE4 hO4 hF_ hS
     replace hS : St w0 w (cells b2 79 [.bool q0b, .slice q5 q8.length c_b2_1_L3h] :: l') := Eq.mp (by kernel_rfl) hS
     refine pa (v := .agg #[.bool q0b, .slice q5 q8.length c_b2_1_L3h]) (ld_sub agg_79 ((hE4 2 rfl).trans q1c) rfl rfl hS) <| x_done <| ?_
     refine x_fin ⟨⟨_, rfl⟩, rfl, ?_⟩
     exact Eq.mp (by kernel_rfl) hS
    ·intro Ep4 w l' hE4 hO4 hF_ hS
     replace hS : St w0 w (cells q0q 23 [.pointer (some ⟨q4, 0, none⟩)] :: l') := Eq.mp (by kernel_rfl) hS
     refine pa (at_load one_23 ((hE4 0 rfl).trans q1x) (hS.cell rfl)) <| x_done <| ?_
     refine x_fin ⟨⟨_, rfl⟩, rfl, ?_⟩
     exact Eq.mp (by kernel_rfl) hS
    ·intro Ep4 w l' hE4 hO4 hF_ hS
     obtain ⟨q1d, -⟩ := hF_
     replace q1d : Ep4 14 = .pointer (some ⟨q4, 0, none⟩) := Eq.mp (by kernel_rfl) q1d
     replace hS : St w0 w (ro q9 :: cells q4 25 [.slice q0a q0p.L.length c_v0_0_0, .int .i64 q0h] :: l') := Eq.mp (by kernel_rfl) hS
     have hcall := c_maskmake_Stream_Range q2t (q0s.le (q1b.trans q10)) (hS.pull 1)
     refine o_cc call_20 (args3 q1d rfl rfl) hcall ?_
     rintro e w' ⟨rfl, hS⟩
     refine ⟨_, rfl, ?_⟩
     refine x_done <| ?_
     refine x_fin ⟨⟨_, rfl⟩, rfl, ?_⟩
     exact Eq.mp (by kernel_rfl) (hS.pull 1)
    ·intro Ep4 w l' hE4 hO4 hF_ hS
     obtain ⟨q1e, -⟩ := hF_
     replace q1e : Ep4 15 = .int .i64 q15.1 := Eq.mp (by kernel_rfl) q1e
     replace hS : St w0 w (ro q9 :: l') := Eq.mp (by kernel_rfl) hS
     have hcall := c_exact_Of q2u  hS
     refine o_cc call_51 (args1 q1e) hcall ?_
     rintro e w' ⟨q0c, q1f, q2g, c_y0_ret_1_4_3, rfl, q2b, q0f, hS⟩
     refine ⟨_, rfl, ?_⟩
     have e_ := q0f.n; subst e_
     refine x_done <| ?_
     refine x_fin ⟨⟨_, rfl⟩, rfl, ?_⟩
     replace hS := St.ro_split q2b hS
     replace hS := St.bun (Φ := (fun (q0c : Heap) => Le q9 q0c ∧ RdS (RpI .u32) q0c q1f q0i.fmag.length c_y0_ret_1_4_3 q0i.fmag)) (L := (fun (q0c : Heap) => [roD q9 q0c])) q0c ⟨q2b, q0f⟩ (hS.pull 1)
     exact Eq.mp (by kernel_rfl) (hS.pull 1)
    ·intro Ep4 w l' hE4 hO4 hF_ hS
     obtain ⟨q1g, q1h, -⟩ := hF_
     replace q1g : Ep4 13 = .agg #[.bool q0b, .slice q5 q8.length c_b2_1_L3h] := Eq.mp (by kernel_rfl) q1g
     replace q1h : Ep4 16 = .agg #[.bool q0i.fneg, .slice (adOf (partOf 1 (Ep4 16))) q0i.fmag.length (capOf (partOf 1 (Ep4 16)))] := Eq.mp (by kernel_rfl) q1h
     replace hS : St w0 w (ro q9 :: bunA (fun (q0c : Heap) => Le q9 q0c ∧ RdS (RpI .u32) q0c (adOf (partOf 1 (Ep4 16))) q0i.fmag.length (capOf (partOf 1 (Ep4 16))) q0i.fmag) (fun (q0c : Heap) => [roD q9 q0c]) :: l') := Eq.mp (by kernel_rfl) hS
     have q_ := St.unbun (hS.pull 1); obtain ⟨q0c, ⟨q25, q0f⟩, hS⟩ := q_
     have q_ := St.ro_join (hS.pull 1) (Le.refl _) q25; obtain ⟨q34, q16, q1y, hS, q30⟩ := q_
     have hcall := c_exact_Mul q2v (q11.le q16) (q0f.le q1y) hS
     refine o_cc call_39 (args2 q1g q1h) hcall ?_
     rintro e w' ⟨q6, q1i, q2h, c_y0_ret_1_4_4, rfl, q1z, q0k, hS⟩
     refine ⟨_, rfl, ?_⟩
     have e_ := q0k.n; subst e_
     refine x_done <| ?_
     refine x_fin ⟨⟨_, rfl⟩, rfl, ?_⟩
     replace hS := St.ro_split (q16.trans q1z) hS
     replace hS := St.bun (Φ := (fun (q6 : Heap) => Le q9 q6 ∧ RdS (RpI .u32) q6 (adOf (partOf 1 (Ep4 16))) q0i.fmag.length (capOf (partOf 1 (Ep4 16))) q0i.fmag ∧ RdS (RpI .u32) q6 q1i q2.1.fmag.length c_y0_ret_1_4_4 q2.1.fmag)) (L := (fun (q6 : Heap) => [roD q9 q6])) q6 ⟨(q16.trans q1z), (q0f.le (q1y.trans q1z)), q0k⟩ (hS.pull 1)
     exact Eq.mp (by kernel_rfl) (hS.pull 1)
    ·intro Ep4 w l' hE4 hO4 hF_ hS
     obtain ⟨q0m, -⟩ := hF_
     replace q0m : Ep4 17 = .tuple #[.agg #[.bool q2.1.fneg, .slice (adOf (partOf 1 (partOf 0 (Ep4 17)))) q2.1.fmag.length (capOf (partOf 1 (partOf 0 (Ep4 17))))], .int .i64 q2.2] := Eq.mp (by kernel_rfl) q0m
     refine p (yl_move q0m) <| x_done <| ?_
     refine x_fin ⟨⟨_, rfl⟩, rfl, ?_⟩
     exact Eq.mp (by kernel_rfl) hS
    ·intro Ep4 w l' hE4 hO4 hF_ hS
     obtain ⟨q0m, q0u, -⟩ := hF_
     replace q0m : Ep4 17 = .tuple #[.agg #[.bool q2.1.fneg, .slice (adOf (partOf 1 (partOf 0 (Ep4 17)))) q2.1.fmag.length (capOf (partOf 1 (partOf 0 (Ep4 17))))], .int .i64 q2.2] := Eq.mp (by kernel_rfl) q0m
     replace q0u : Ep4 12 = .tuple #[.agg #[.bool q2.1.fneg, .slice (adOf (partOf 1 (partOf 0 (Ep4 17)))) q2.1.fmag.length (capOf (partOf 1 (partOf 0 (Ep4 17))))], .int .i64 q2.2] := Eq.mp (by kernel_rfl) q0u
     refine p (yl_extract q0u rfl) <| x_done <| ?_
     refine x_fin ⟨⟨_, rfl⟩, rfl, ?_⟩
     exact Eq.mp (by kernel_rfl) hS
    ·intro Ep4 w l' hE4 hO4 hF_ hS
     obtain ⟨q0m, q0u, -⟩ := hF_
     replace q0m : Ep4 17 = .tuple #[.agg #[.bool q2.1.fneg, .slice (adOf (partOf 1 (partOf 0 (Ep4 17)))) q2.1.fmag.length (capOf (partOf 1 (partOf 0 (Ep4 17))))], .int .i64 q2.2] := Eq.mp (by kernel_rfl) q0m
     replace q0u : Ep4 12 = .tuple #[.agg #[.bool q2.1.fneg, .slice (adOf (partOf 1 (partOf 0 (Ep4 17)))) q2.1.fmag.length (capOf (partOf 1 (partOf 0 (Ep4 17))))], .int .i64 q2.2] := Eq.mp (by kernel_rfl) q0u
     refine p (yl_extract q0u rfl) <| x_done <| ?_
     refine x_fin ⟨⟨_, rfl⟩, rfl, ?_⟩
     exact Eq.mp (by kernel_rfl) hS
    ·intro Ep4 w l' hE4 hO4 hF_ hS
     refine o_alloc zero_79 hS (fun b3 w' hS => ?_)
     refine x_done <| ?_
     refine x_fin ⟨⟨_, rfl⟩, rfl, ?_⟩
     exact Eq.mp (by kernel_rfl) hS
    ·intro Ep4 w l' hE4 hO4 hF_ hS
     obtain ⟨q0m, q1j, q17, -⟩ := hF_
     replace q0m : Ep4 17 = .tuple #[.agg #[.bool q2.1.fneg, .slice (adOf (partOf 1 (partOf 0 (Ep4 17)))) q2.1.fmag.length (capOf (partOf 1 (partOf 0 (Ep4 17))))], .int .i64 q2.2] := Eq.mp (by kernel_rfl) q0m
     replace q1j : Ep4 18 = .agg #[.bool q2.1.fneg, .slice (adOf (partOf 1 (partOf 0 (Ep4 17)))) q2.1.fmag.length (capOf (partOf 1 (partOf 0 (Ep4 17))))] := Eq.mp (by kernel_rfl) q1j
     replace q17 : Ep4 3 = .pointer (some ⟨(blkOf (Ep4 3)), 0, none⟩) := Eq.mp (by kernel_rfl) q17
     replace hS : St w0 w (cells (blkOf (Ep4 3)) 79 [.bool false, .slice none 0 0] :: l') := Eq.mp (by kernel_rfl) hS
     refine o_storeAgg (news := [.bool q2.1.fneg, .slice (adOf (partOf 1 (partOf 0 (Ep4 17)))) q2.1.fmag.length (capOf (partOf 1 (partOf 0 (Ep4 17))))]) agg_79 q17 q1j rfl (by simp [over_length]) hS (fun w' hS => ?_)
     refine x_done <| ?_
     refine x_fin ⟨⟨undef, rfl⟩, trivial, ?_⟩
     exact Eq.mp (by kernel_rfl) hS
    ·intro Ep4 w l' hE4 hO4 hF_ hS
     obtain ⟨q1k, -⟩ := hF_
     replace q1k : Ep4 19 = .int .i64 q2.2 := Eq.mp (by kernel_rfl) q1k
     refine p (yl_assign q1k) <| x_done <| ?_
     refine x_fin ⟨⟨_, rfl⟩, rfl, ?_⟩
     exact Eq.mp (by kernel_rfl) hS
   intro Ep4 w' hE4 hF_ hS
   obtain ⟨q1g, q1d, q1e, q1h, q0m, q0u, q1j, q1k, q17, q2d, -⟩ := hF_
   replace q1g : Ep4 13 = .agg #[.bool q0b, .slice q5 q8.length c_b2_1_L3h] := Eq.mp (by kernel_rfl) q1g
   replace q1d : Ep4 14 = .pointer (some ⟨q4, 0, none⟩) := Eq.mp (by kernel_rfl) q1d
   replace q1e : Ep4 15 = .int .i64 q15.1 := Eq.mp (by kernel_rfl) q1e
   replace q1h : Ep4 16 = .agg #[.bool q0i.fneg, .slice (adOf (partOf 1 (Ep4 16))) q0i.fmag.length (capOf (partOf 1 (Ep4 16)))] := Eq.mp (by kernel_rfl) q1h
   replace q0m : Ep4 17 = .tuple #[.agg #[.bool q2.1.fneg, .slice (adOf (partOf 1 (partOf 0 (Ep4 17)))) q2.1.fmag.length (capOf (partOf 1 (partOf 0 (Ep4 17))))], .int .i64 q2.2] := Eq.mp (by kernel_rfl) q0m
   replace q0u : Ep4 12 = .tuple #[.agg #[.bool q2.1.fneg, .slice (adOf (partOf 1 (partOf 0 (Ep4 17)))) q2.1.fmag.length (capOf (partOf 1 (partOf 0 (Ep4 17))))], .int .i64 q2.2] := Eq.mp (by kernel_rfl) q0u
   replace q1j : Ep4 18 = .agg #[.bool q2.1.fneg, .slice (adOf (partOf 1 (partOf 0 (Ep4 17)))) q2.1.fmag.length (capOf (partOf 1 (partOf 0 (Ep4 17))))] := Eq.mp (by kernel_rfl) q1j
   replace q1k : Ep4 19 = .int .i64 q2.2 := Eq.mp (by kernel_rfl) q1k
   replace q17 : Ep4 3 = .pointer (some ⟨(blkOf (Ep4 3)), 0, none⟩) := Eq.mp (by kernel_rfl) q17
   replace q2d : Ep4 4 = .int .i64 q2.2 := Eq.mp (by kernel_rfl) q2d
   replace hS : St w0 w' (cells b2 79 [.bool q0b, .slice q5 q8.length c_b2_1_L3h] :: cells q0q 23 [.pointer (some ⟨q4, 0, none⟩)] :: ro q9 :: cells q4 25 [.slice q0a q0p.L.length c_v0_0_0, .int .i64 q15.2] :: bunA (fun (q6 : Heap) => Le q9 q6 ∧ RdS (RpI .u32) q6 (adOf (partOf 1 (Ep4 16))) q0i.fmag.length (capOf (partOf 1 (Ep4 16))) q0i.fmag ∧ RdS (RpI .u32) q6 (adOf (partOf 1 (partOf 0 (Ep4 17)))) q2.1.fmag.length (capOf (partOf 1 (partOf 0 (Ep4 17)))) q2.1.fmag) (fun (q6 : Heap) => [roD q9 q6]) :: cells (blkOf (Ep4 3)) 79 [.bool q2.1.fneg, .slice (adOf (partOf 1 (partOf 0 (Ep4 17)))) q2.1.fmag.length (capOf (partOf 1 (partOf 0 (Ep4 17))))] :: (cells b1 79 [.bool false, .slice none 0 0] :: l)) := Eq.mp (by kernel_rfl) hS
   have q_ := St.unbun (hS.pull 4); obtain ⟨q6, ⟨q26, q0f, q0k⟩, hS⟩ := q_
   have q_ := St.ro_join (hS.pull 3) (Le.refl _) q26; obtain ⟨q0d, q23, q2i, hS, q32⟩ := q_
   replace hFL3 := bd_s hFL3; obtain ⟨q1l, q2w, hFL3⟩ := hFL3
   replace hFL3 := bd_s hFL3; obtain ⟨q0j, q2x, hFL3⟩ := hFL3
   replace hFL3 := bd_s hFL3; obtain ⟨q3, q2y, hFL3⟩ := hFL3
   refine x_par (w0 := w0) [⟨[], [], [21], [0], [], []⟩, ⟨[], [], [22], [1], [], []⟩, ⟨[1], [1], [23], [3], [2], [4]⟩, ⟨[1, 2], [2], [24], [3], [], [5]⟩, ⟨[0, 1, 2, 3], [0, 3], [25], [3], [5], [6]⟩, ⟨[0, 1, 2, 3, 4], [4], [20, 25], [], [], []⟩, ⟨[0, 1, 2, 3, 4, 5], [4, 5], [25, 26], [], [], []⟩, ⟨[0, 1, 2, 3, 4, 5], [4, 5], [27], [], [], []⟩, ⟨[0, 1, 2, 3, 4, 5, 6], [4, 6], [], [], [7], [8]⟩] [⟨none, none, []⟩, ⟨none, none, []⟩, ⟨none, (some 2), []⟩, ⟨none, none, []⟩, ⟨(some 2), none, []⟩, ⟨(some 3), (some 4), [24]⟩, ⟨(some 4), none, [24, 25]⟩, ⟨none, (some 8), []⟩, ⟨(some 8), none, [25]⟩] [20, 21, 22, 23, 24, 25, 26, 27] [0, 1, 2, 3, 7] [0, 1, 3, 4, 6, 8] [0, 1, 2, 3, 4, 5, 6, 7] [fun Ep5 => Ep5 21 = .agg #[.bool q2.1.fneg, .slice (adOf (partOf 1 (partOf 0 (Ep4 17)))) q2.1.fmag.length (capOf (partOf 1 (partOf 0 (Ep4 17))))], fun Ep5 => Ep5 22 = .pointer (some ⟨q4, 0, none⟩), fun Ep5 => Ep5 23 = .int .i64 q1l.1, fun Ep5 => Ep5 24 = .agg #[.bool q0j.fneg, .slice (adOf (partOf 1 (Ep5 24))) q0j.fmag.length (capOf (partOf 1 (Ep5 24)))], fun Ep5 => Ep5 25 = .tuple #[.agg #[.bool q3.1.fneg, .slice (adOf (partOf 1 (partOf 0 (Ep5 25)))) q3.1.fmag.length (capOf (partOf 1 (partOf 0 (Ep5 25))))], .int .i64 q3.2], fun Ep5 => Ep5 20 = .tuple #[.agg #[.bool q3.1.fneg, .slice (adOf (partOf 1 (partOf 0 (Ep5 25)))) q3.1.fmag.length (capOf (partOf 1 (partOf 0 (Ep5 25))))], .int .i64 q3.2], fun Ep5 => Ep5 26 = .agg #[.bool q3.1.fneg, .slice (adOf (partOf 1 (partOf 0 (Ep5 25)))) q3.1.fmag.length (capOf (partOf 1 (partOf 0 (Ep5 25))))], fun Ep5 => Ep5 27 = .int .i64 q3.2, fun Ep5 => True] [fun Ep5 => cells (blkOf (Ep4 3)) 79 [.bool q2.1.fneg, .slice (adOf (partOf 1 (partOf 0 (Ep4 17)))) q2.1.fmag.length (capOf (partOf 1 (partOf 0 (Ep4 17))))], fun Ep5 => cells q0q 23 [.pointer (some ⟨q4, 0, none⟩)], fun Ep5 => cells q4 25 [.slice q0a q0p.L.length c_v0_0_0, .int .i64 q15.2], fun Ep5 => ro q0d, fun Ep5 => cells q4 25 [.slice q0a q0p.L.length c_v0_0_0, .int .i64 q1l.2], fun Ep5 => bunA (fun (q0e : Heap) => Le q0d q0e ∧ RdS (RpI .u32) q0e (adOf (partOf 1 (Ep5 24))) q0j.fmag.length (capOf (partOf 1 (Ep5 24))) q0j.fmag) (fun (q0e : Heap) => [roD q0d q0e]), fun Ep5 => bunA (fun (q7 : Heap) => Le q0d q7 ∧ RdS (RpI .u32) q7 (adOf (partOf 1 (Ep5 24))) q0j.fmag.length (capOf (partOf 1 (Ep5 24))) q0j.fmag ∧ RdS (RpI .u32) q7 (adOf (partOf 1 (partOf 0 (Ep5 25)))) q3.1.fmag.length (capOf (partOf 1 (partOf 0 (Ep5 25)))) q3.1.fmag) (fun (q7 : Heap) => [roD q0d q7]), fun Ep5 => cells b2 79 [.bool q0b, .slice q5 q8.length c_b2_1_L3h], fun Ep5 => cells b2 79 [.bool q3.1.fneg, .slice (adOf (partOf 1 (partOf 0 (Ep5 25)))) q3.1.fmag.length (capOf (partOf 1 (partOf 0 (Ep5 25))))]] mixed (by kernel_rfl) (((((hS.pull 1).pull 1).pull 3).pull 3).pull 4) ?_ ?_
   ·refine ⟨?_, ?_, ?_, ?_, ?_, ?_, ?_, ?_, ?_, trivial⟩
    ·intro Ep5 w l' hE5 hO5 hF_ hS
     replace hS : St w0 w (cells (blkOf (Ep4 3)) 79 [.bool q2.1.fneg, .slice (adOf (partOf 1 (partOf 0 (Ep4 17)))) q2.1.fmag.length (capOf (partOf 1 (partOf 0 (Ep4 17))))] :: l') := Eq.mp (by kernel_rfl) hS
     refine pa (v := .agg #[.bool q2.1.fneg, .slice (adOf (partOf 1 (partOf 0 (Ep4 17)))) q2.1.fmag.length (capOf (partOf 1 (partOf 0 (Ep4 17))))]) (ld_sub agg_79 ((hE5 3 rfl).trans q17) rfl rfl hS) <| x_done <| ?_
     refine x_fin ⟨⟨_, rfl⟩, rfl, ?_⟩
     exact Eq.mp (by kernel_rfl) hS
    ·intro Ep5 w l' hE5 hO5 hF_ hS
     replace hS : St w0 w (cells q0q 23 [.pointer (some ⟨q4, 0, none⟩)] :: l') := Eq.mp (by kernel_rfl) hS
     refine pa (at_load one_23 ((hE5 0 rfl).trans ((hE4 0 rfl).trans q1x)) (hS.cell rfl)) <| x_done <| ?_
     refine x_fin ⟨⟨_, rfl⟩, rfl, ?_⟩
     exact Eq.mp (by kernel_rfl) hS
    ·intro Ep5 w l' hE5 hO5 hF_ hS
     obtain ⟨q1m, -⟩ := hF_
     replace q1m : Ep5 22 = .pointer (some ⟨q4, 0, none⟩) := Eq.mp (by kernel_rfl) q1m
     replace hS : St w0 w (ro q0d :: cells q4 25 [.slice q0a q0p.L.length c_v0_0_0, .int .i64 q15.2] :: l') := Eq.mp (by kernel_rfl) hS
     have hcall := c_maskmake_Stream_Range q2w (q0s.le ((q1b.trans q10).trans q23)) (hS.pull 1)
     refine o_cc call_20 (args3 q1m rfl rfl) hcall ?_
     rintro e w' ⟨rfl, hS⟩
     refine ⟨_, rfl, ?_⟩
     refine x_done <| ?_
     refine x_fin ⟨⟨_, rfl⟩, rfl, ?_⟩
     exact Eq.mp (by kernel_rfl) (hS.pull 1)
    ·intro Ep5 w l' hE5 hO5 hF_ hS
     obtain ⟨q1n, -⟩ := hF_
     replace q1n : Ep5 23 = .int .i64 q1l.1 := Eq.mp (by kernel_rfl) q1n
     replace hS : St w0 w (ro q0d :: l') := Eq.mp (by kernel_rfl) hS
     have hcall := c_exact_Of q2x  hS
     refine o_cc call_51 (args1 q1n) hcall ?_
     rintro e w' ⟨q0e, q1o, q2j, c_y0_ret_1_5_3, rfl, q2c, q0g, hS⟩
     refine ⟨_, rfl, ?_⟩
     have e_ := q0g.n; subst e_
     refine x_done <| ?_
     refine x_fin ⟨⟨_, rfl⟩, rfl, ?_⟩
     replace hS := St.ro_split q2c hS
     replace hS := St.bun (Φ := (fun (q0e : Heap) => Le q0d q0e ∧ RdS (RpI .u32) q0e q1o q0j.fmag.length c_y0_ret_1_5_3 q0j.fmag)) (L := (fun (q0e : Heap) => [roD q0d q0e])) q0e ⟨q2c, q0g⟩ (hS.pull 1)
     exact Eq.mp (by kernel_rfl) (hS.pull 1)
    ·intro Ep5 w l' hE5 hO5 hF_ hS
     obtain ⟨q1p, q1q, -⟩ := hF_
     replace q1p : Ep5 21 = .agg #[.bool q2.1.fneg, .slice (adOf (partOf 1 (partOf 0 (Ep4 17)))) q2.1.fmag.length (capOf (partOf 1 (partOf 0 (Ep4 17))))] := Eq.mp (by kernel_rfl) q1p
     replace q1q : Ep5 24 = .agg #[.bool q0j.fneg, .slice (adOf (partOf 1 (Ep5 24))) q0j.fmag.length (capOf (partOf 1 (Ep5 24)))] := Eq.mp (by kernel_rfl) q1q
     replace hS : St w0 w (ro q0d :: bunA (fun (q0e : Heap) => Le q0d q0e ∧ RdS (RpI .u32) q0e (adOf (partOf 1 (Ep5 24))) q0j.fmag.length (capOf (partOf 1 (Ep5 24))) q0j.fmag) (fun (q0e : Heap) => [roD q0d q0e]) :: l') := Eq.mp (by kernel_rfl) hS
     have q_ := St.unbun (hS.pull 1); obtain ⟨q0e, ⟨q27, q0g⟩, hS⟩ := q_
     have q_ := St.ro_join (hS.pull 1) (Le.refl _) q27; obtain ⟨q35, q18, q20, hS, q31⟩ := q_
     have hcall := c_exact_Add q2y (q0k.le (q2i.trans q18)) (q0g.le q20) hS
     refine o_cc call_52 (args2 q1p q1q) hcall ?_
     rintro e w' ⟨q7, q1r, q2k, c_y0_ret_1_5_4, rfl, q21, q0l, hS⟩
     refine ⟨_, rfl, ?_⟩
     have e_ := q0l.n; subst e_
     refine x_done <| ?_
     refine x_fin ⟨⟨_, rfl⟩, rfl, ?_⟩
     replace hS := St.ro_split (q18.trans q21) hS
     replace hS := St.bun (Φ := (fun (q7 : Heap) => Le q0d q7 ∧ RdS (RpI .u32) q7 (adOf (partOf 1 (Ep5 24))) q0j.fmag.length (capOf (partOf 1 (Ep5 24))) q0j.fmag ∧ RdS (RpI .u32) q7 q1r q3.1.fmag.length c_y0_ret_1_5_4 q3.1.fmag)) (L := (fun (q7 : Heap) => [roD q0d q7])) q7 ⟨(q18.trans q21), (q0g.le (q20.trans q21)), q0l⟩ (hS.pull 1)
     exact Eq.mp (by kernel_rfl) (hS.pull 1)
    ·intro Ep5 w l' hE5 hO5 hF_ hS
     obtain ⟨q0n, -⟩ := hF_
     replace q0n : Ep5 25 = .tuple #[.agg #[.bool q3.1.fneg, .slice (adOf (partOf 1 (partOf 0 (Ep5 25)))) q3.1.fmag.length (capOf (partOf 1 (partOf 0 (Ep5 25))))], .int .i64 q3.2] := Eq.mp (by kernel_rfl) q0n
     refine p (yl_move q0n) <| x_done <| ?_
     refine x_fin ⟨⟨_, rfl⟩, rfl, ?_⟩
     exact Eq.mp (by kernel_rfl) hS
    ·intro Ep5 w l' hE5 hO5 hF_ hS
     obtain ⟨q0n, q0v, -⟩ := hF_
     replace q0n : Ep5 25 = .tuple #[.agg #[.bool q3.1.fneg, .slice (adOf (partOf 1 (partOf 0 (Ep5 25)))) q3.1.fmag.length (capOf (partOf 1 (partOf 0 (Ep5 25))))], .int .i64 q3.2] := Eq.mp (by kernel_rfl) q0n
     replace q0v : Ep5 20 = .tuple #[.agg #[.bool q3.1.fneg, .slice (adOf (partOf 1 (partOf 0 (Ep5 25)))) q3.1.fmag.length (capOf (partOf 1 (partOf 0 (Ep5 25))))], .int .i64 q3.2] := Eq.mp (by kernel_rfl) q0v
     refine p (yl_extract q0v rfl) <| x_done <| ?_
     refine x_fin ⟨⟨_, rfl⟩, rfl, ?_⟩
     exact Eq.mp (by kernel_rfl) hS
    ·intro Ep5 w l' hE5 hO5 hF_ hS
     obtain ⟨q0n, q0v, -⟩ := hF_
     replace q0n : Ep5 25 = .tuple #[.agg #[.bool q3.1.fneg, .slice (adOf (partOf 1 (partOf 0 (Ep5 25)))) q3.1.fmag.length (capOf (partOf 1 (partOf 0 (Ep5 25))))], .int .i64 q3.2] := Eq.mp (by kernel_rfl) q0n
     replace q0v : Ep5 20 = .tuple #[.agg #[.bool q3.1.fneg, .slice (adOf (partOf 1 (partOf 0 (Ep5 25)))) q3.1.fmag.length (capOf (partOf 1 (partOf 0 (Ep5 25))))], .int .i64 q3.2] := Eq.mp (by kernel_rfl) q0v
     refine p (yl_extract q0v rfl) <| x_done <| ?_
     refine x_fin ⟨⟨_, rfl⟩, rfl, ?_⟩
     exact Eq.mp (by kernel_rfl) hS
    ·intro Ep5 w l' hE5 hO5 hF_ hS
     obtain ⟨q0n, q1s, -⟩ := hF_
     replace q0n : Ep5 25 = .tuple #[.agg #[.bool q3.1.fneg, .slice (adOf (partOf 1 (partOf 0 (Ep5 25)))) q3.1.fmag.length (capOf (partOf 1 (partOf 0 (Ep5 25))))], .int .i64 q3.2] := Eq.mp (by kernel_rfl) q0n
     replace q1s : Ep5 26 = .agg #[.bool q3.1.fneg, .slice (adOf (partOf 1 (partOf 0 (Ep5 25)))) q3.1.fmag.length (capOf (partOf 1 (partOf 0 (Ep5 25))))] := Eq.mp (by kernel_rfl) q1s
     replace hS : St w0 w (cells b2 79 [.bool q0b, .slice q5 q8.length c_b2_1_L3h] :: l') := Eq.mp (by kernel_rfl) hS
     refine o_storeAgg (news := [.bool q3.1.fneg, .slice (adOf (partOf 1 (partOf 0 (Ep5 25)))) q3.1.fmag.length (capOf (partOf 1 (partOf 0 (Ep5 25))))]) agg_79 ((hE5 2 rfl).trans ((hE4 2 rfl).trans q1c)) q1s rfl (by simp [over_length]) hS (fun w' hS => ?_)
     refine x_done <| ?_
     refine x_fin ⟨⟨undef, rfl⟩, trivial, ?_⟩
     exact Eq.mp (by kernel_rfl) hS
   intro Ep5 w' hE5 hF_ hS
   obtain ⟨q1p, q1m, q1n, q1q, q0n, q0v, q1s, q2o, -⟩ := hF_
   replace q1p : Ep5 21 = .agg #[.bool q2.1.fneg, .slice (adOf (partOf 1 (partOf 0 (Ep4 17)))) q2.1.fmag.length (capOf (partOf 1 (partOf 0 (Ep4 17))))] := Eq.mp (by kernel_rfl) q1p
   replace q1m : Ep5 22 = .pointer (some ⟨q4, 0, none⟩) := Eq.mp (by kernel_rfl) q1m
   replace q1n : Ep5 23 = .int .i64 q1l.1 := Eq.mp (by kernel_rfl) q1n
   replace q1q : Ep5 24 = .agg #[.bool q0j.fneg, .slice (adOf (partOf 1 (Ep5 24))) q0j.fmag.length (capOf (partOf 1 (Ep5 24)))] := Eq.mp (by kernel_rfl) q1q
   replace q0n : Ep5 25 = .tuple #[.agg #[.bool q3.1.fneg, .slice (adOf (partOf 1 (partOf 0 (Ep5 25)))) q3.1.fmag.length (capOf (partOf 1 (partOf 0 (Ep5 25))))], .int .i64 q3.2] := Eq.mp (by kernel_rfl) q0n
   replace q0v : Ep5 20 = .tuple #[.agg #[.bool q3.1.fneg, .slice (adOf (partOf 1 (partOf 0 (Ep5 25)))) q3.1.fmag.length (capOf (partOf 1 (partOf 0 (Ep5 25))))], .int .i64 q3.2] := Eq.mp (by kernel_rfl) q0v
   replace q1s : Ep5 26 = .agg #[.bool q3.1.fneg, .slice (adOf (partOf 1 (partOf 0 (Ep5 25)))) q3.1.fmag.length (capOf (partOf 1 (partOf 0 (Ep5 25))))] := Eq.mp (by kernel_rfl) q1s
   replace q2o : Ep5 27 = .int .i64 q3.2 := Eq.mp (by kernel_rfl) q2o
   replace hS : St w0 w' (cells (blkOf (Ep4 3)) 79 [.bool q2.1.fneg, .slice (adOf (partOf 1 (partOf 0 (Ep4 17)))) q2.1.fmag.length (capOf (partOf 1 (partOf 0 (Ep4 17))))] :: cells q0q 23 [.pointer (some ⟨q4, 0, none⟩)] :: ro q0d :: cells q4 25 [.slice q0a q0p.L.length c_v0_0_0, .int .i64 q1l.2] :: bunA (fun (q7 : Heap) => Le q0d q7 ∧ RdS (RpI .u32) q7 (adOf (partOf 1 (Ep5 24))) q0j.fmag.length (capOf (partOf 1 (Ep5 24))) q0j.fmag ∧ RdS (RpI .u32) q7 (adOf (partOf 1 (partOf 0 (Ep5 25)))) q3.1.fmag.length (capOf (partOf 1 (partOf 0 (Ep5 25)))) q3.1.fmag) (fun (q7 : Heap) => [roD q0d q7]) :: cells b2 79 [.bool q3.1.fneg, .slice (adOf (partOf 1 (partOf 0 (Ep5 25)))) q3.1.fmag.length (capOf (partOf 1 (partOf 0 (Ep5 25))))] :: (cells b1 79 [.bool false, .slice none 0 0] :: l)) := Eq.mp (by kernel_rfl) hS
   have q_ := St.unbun (hS.pull 4); obtain ⟨q7, ⟨q28, q0g, q0l⟩, hS⟩ := q_
   have q_ := St.ro_join (hS.pull 3) (Le.refl _) q28; obtain ⟨q2p, q2l, q2m, hS, q33⟩ := q_
   replace hFL3 := ar_s hFL3; obtain ⟨x28, hx28, hFL3⟩ := hFL3
   refine x_blk <| x_region <| p (yadd ((hE5 10 rfl).trans ((hE4 10 rfl).trans q22)) rfl hx28) <| p (yl_move rfl) <|
    x_done <| ?_
   have e_ := Option.some.inj (show some _ = some _ from hFL3); subst e_
   exact x_inv ⟨kL3, Nat.lt_succ_self _, q2p, (adOf (partOf 1 (partOf 0 (Ep5 25)))), q3.1.fmag.length, (capOf (partOf 1 (partOf 0 (Ep5 25)))), x28, q3.1.fneg, q3.1.fmag, q1l.2, hLL3, ((q10.trans q23).trans q2l), ((hE5 0 rfl).trans ((hE4 0 rfl).trans q1x)), ((hE5 1 rfl).trans ((hE4 1 rfl).trans q29)), ((hE5 2 rfl).trans ((hE4 2 rfl).trans q1c)), ((hE5 9 rfl).trans ((hE4 9 rfl).trans q2a)), rfl, (q0l.le q2m), (((((hS.pull 1).drop.pull 2).pull 3).pull 4).pull 4)⟩
  ·replace hFL3 := it_f hc11 hFL3
   refine x_exitTo _ rfl <| ?_
   have e_ := Option.some.inj (show some _ = some _ from hFL3); subst e_
   exact x_inv ⟨q9, q5, q8.length, c_b2_1_L3h, q0b, q8, q0h, hLL3, q10, q29, q1c, q11, (((((hS.pull 4).pull 1).pull 4).pull 4).pull 4)⟩
 rintro E w ⟨q1w, q0o, q12, c_b2_1_L3, q0y, q0r, q0t, rfl, q2n, q2e, q2z, q1t, hS⟩
 have e_ := q1t.n; subst e_
 refine x_seq <| x_region <| pa (v := .agg #[.bool q0y, .slice q0o q0r.length c_b2_1_L3]) (ld_sub agg_79 q2z rfl rfl (hS.pull 1)) <| ?_
 refine o_storeAgg (news := [.bool q0y, .slice q0o q0r.length c_b2_1_L3]) agg_79 q2e rfl rfl (by simp [over_length]) hS (fun w' hS => ?_)
 refine x_done <| ?_
 have e_ := Option.some.inj (show some _ = some _ from hF); subst e_
 exact x_return ⟨_, ⟨_, _, _, rfl, q2e, ldvA agg_79 rfl (fun j v hj => by rw [add0]; exact St.cell hS hj), rfl⟩, q1w, q0o, q0r.length, c_b2_1_L3, rfl, (q1b.trans q2n), q1t, (((hS.drop.drop.pull 2).pull 2).pull 2)⟩
attribute [irreducible] P_maskkeep4_ExactLong_1

def P_exact_Sign (a0 : T_exact_Int) : Option Int :=
 if (a0.fmag.length : Int) = 0 then
  some (0 : Int)
 else
  if a0.fneg = true then
   some (-1 : Int)
  else
   some (1 : Int)
set_option maxHeartbeats 4000000 in
set_option maxRecDepth 100000 in
theorem c_exact_Sign {w0 w : World} {l : List Assn} {ρ : Heap} {q2 : Option Addr} {q3 : Nat} {c_a0_1 : Nat} {a0 : T_exact_Int} {r : Int} (hF : P_exact_Sign a0 = some r) (q4 : RdS (RpI .u32) ρ q2 q3 c_a0_1 a0.fmag) (hS : St w0 w (ro ρ :: l)) :
  Calls Try.prog 44 #[.agg #[.bool a0.fneg, .slice q2 q3 c_a0_1]] w fun e w' => e = .returned (.int .i64 r) ∧ St w0 w' (ro ρ :: l) := by
 have e_ := q4.n; subst e_
 refine enterC Try.func44 rfl 11 rfl (by simp) ?_
 refine x_seq <| x_region <| ?_
 refine o_box (cs := [.bool a0.fneg, .slice q2 a0.fmag.length c_a0_1]) rfl rfl hS (fun b1 w' hS => ?_)
 refine p (yl_assign rfl) <| x_done <| x_seq <| x_block <|
  x_seq <| x_region <| p (yl_field0 fld_79_1 rfl) <| pa (at_load one_77 rfl (hS.cell rfl)) <|
  p (yl_len_slice usl_77 rfl) <| p (yl_eql rfl rfl) <| p (yl_assign rfl) <| x_done <|
  x_cond_p ((a0.fmag.length : Int) = 0) rfl (fun hc3 => ?_) (fun hc3 => ?_)
 ·replace hF := it_t hc3 hF
  refine x_seq <| x_region <| p (yl_assign rfl) <| x_done <| ?_
  have e_ := Option.some.inj (show some _ = some _ from hF); subst e_
  exact x_return ⟨_, ⟨_, _, rfl, rfl, rfl⟩, rfl, hS.drop⟩
 ·replace hF := it_f hc3 hF
  refine x_seq <| x_region <| p (yl_field0 fld_79_0 rfl) <| pa (at_load one_4 rfl (hS.cell rfl)) <|
   p (yl_assign rfl) <| x_done <|
   x_cond (t := a0.fneg) rfl (fun hc8 => ?_) (fun hc8 => ?_)
  ·replace hF := it_t hc8 hF
   refine x_seq <| x_region <| p (yl_assign rfl) <| x_done <| ?_
   have e_ := Option.some.inj (show some _ = some _ from hF); subst e_
   exact x_return ⟨_, ⟨_, _, rfl, rfl, rfl⟩, rfl, hS.drop⟩
  ·replace hF := it_bf hc8 hF
   refine x_skip <| x_blk <| x_seq <| x_region <|
    p (yl_assign rfl) <| x_done <| ?_
   have e_ := Option.some.inj (show some _ = some _ from hF); subst e_
   exact x_return ⟨_, ⟨_, _, rfl, rfl, rfl⟩, rfl, hS.drop⟩
attribute [irreducible] P_exact_Sign

def P_exact_divSmall_L4 (a0 : List Int) (d1 : Int) : (List Int × Int × Int) → Option ((List Int × Int × Int) ⊕ (List Int × Int)) := fun (q3, q4, q2) =>
 if 0 ≤ q2 then
  ck (0 ≤ (32 : Int)) <|
  lv (shl .u64 q4 32) fun x20 =>
  ck (inb q2 a0.length) <|
  lv (gt a0 q2) fun x24 =>
  lv (x24 % 18446744073709551616) fun x25 =>
  lv (bOr .u64 x20 x25) fun x26 =>
  lv (d1 % 18446744073709551616) fun x31 =>
  ck (x31 ≠ 0) <|
  lv ((Int.tdiv x26 x31) % 18446744073709551616) fun x32 =>
  lv (x32 % 4294967296) fun x33 =>
  ck (inb q2 q3.length) <|
  lv (stt q3 q2 x33) fun q5 =>
  lv (d1 % 18446744073709551616) fun x37 =>
  ck (x37 ≠ 0) <|
  lv (Int.tmod x26 x37) fun x38 =>
  ar (q2 - 1) fun x18 =>
  some (Sum.inl (q5, x38, x18))
 else
  some (Sum.inr (q3, q4))
def P_exact_divSmall (a0 : List Int) (d1 : Int) : Option (List Int × Int) :=
 ck (mkOk 4 (a0.length : Int)) <|
 lv ((List.replicate ((a0.length : Int) : Int).toNat 0 : List Int)) fun q4 =>
 ar ((a0.length : Int) - 1) fun x14 =>
 bd (
  lp (P_exact_divSmall_L4 a0 d1) fuel (q4, 0, x14)) fun (q3, q2) =>
 lv (q2 % 4294967296) fun x41 =>
 some (q3, x41)
set_option maxHeartbeats 4000000 in
set_option maxRecDepth 100000 in
theorem c_exact_divSmall {w0 w : World} {l : List Assn} {ρ : Heap} {q0k : Option Addr} {q0o : Nat} {c_a0 : Nat} {a0 : List Int} {d1 : Int} {r : (List Int × Int)} (hF : P_exact_divSmall a0 d1 = some r) (q0l : RdS (RpI .u32) ρ q0k q0o c_a0 a0) (hS : St w0 w (ro ρ :: l)) :
  Calls Try.prog 98 #[.slice q0k q0o c_a0, .int .u32 d1] w fun e w' => ∃ (q0e : Option Addr) (q8 : Nat) (c_y0_ret : Nat) (q0d : List Value), e = .returned (.tuple #[.slice q0e q8 c_y0_ret, .int .u32 r.2]) ∧ RepL (RpI .u32) ρ r.1 q0d ∧ St w0 w' (vec 159 (RpI .u32).sz (.slice q0e q8 c_y0_ret) q8 q0d :: ro ρ :: l) := by
 have e_ := q0l.n; subst e_
 refine enterC Try.func98 rfl 42 rfl (by simp) ?_
 refine x_seq <| x_region <| p (yl_assign rfl) <| p (yl_assign rfl) <|
  x_done <| x_seq <| x_region <| p (yl_move rfl) <|
  p (yl_len_slice usl_77 rfl) <| ?_
 replace hF := ck_s hF; obtain ⟨q0p, hF⟩ := hF
 replace hF := lv_s hF; obtain ⟨q2, q0q, hF⟩ := hF
 refine o_mk sl_77 zero_159 (show (RpI .u32).ok ρ _ 0 from rfl) rfl rfl q0p (by decide) q0q hS (fun A11 cs11 w' hr11 hS => ?_)
 replace hF := ar_s hF; obtain ⟨x14, hx14, hF⟩ := hF
 refine p (yl_assign rfl) <| x_done <| x_seq <| x_region <|
  p (yl_assign rfl) <| x_done <| x_seq <| x_seq <|
  x_region <| p (yl_move rfl) <| p (yl_len_slice usl_77 rfl) <| p (ysub rfl rfl hx14) <|
  p (yl_assign rfl) <| x_done <| ?_
 replace hF := bd_s hF; obtain ⟨oL4, hLL4, hF⟩ := hF
 refine x_join (fun E w => ∃ (q4 : List Value) (q0c : List Int) (q9 : Int), (q0c, q9) = oL4 ∧ E 6 = .slice A11 q2.length q2.length ∧ E 7 = .int .u64 q9 ∧ RepL (RpI .u32) ρ q0c q4 ∧ St w0 w (vec 159 (RpI .u32).sz (.slice A11 q2.length q2.length) q2.length q4 :: ro ρ :: l)) ?_ ?_
 ·refine x_block ?_
  refine x_loop (fun k_ E w => ∃ (q3 : List Value) (q6 : List Int) (q5 : Int) (q0a : Int), lp (P_exact_divSmall_L4 a0 d1) k_ (q6, q5, q0a) = some oL4 ∧ E 0 = .slice q0k a0.length c_a0 ∧ E 1 = .int .u32 d1 ∧ E 6 = .slice A11 q2.length q2.length ∧ E 7 = .int .u64 q5 ∧ E 8 = .int .i64 q0a ∧ RepL (RpI .u32) ρ q6 q3 ∧ St w0 w (vec 159 (RpI .u32).sz (.slice A11 q2.length q2.length) q2.length q3 :: ro ρ :: l)) fuel ⟨cs11, q2, 0, x14, hLL4, rfl, rfl, rfl, rfl, rfl, hr11, ((hS.pull 1).pull 1)⟩ ?_
  rintro kL4 E w ⟨q3, q6, q5, q0a, hLL4, q0h, q0f, q0g, q0i, q0b, q7, hS⟩
  replace hLL4 := lp_s hLL4; obtain ⟨kL4, obL4, rfl, hFL4, hLL4⟩ := hLL4
  refine x_seq <| x_seq <| x_region <| p (yl_move q0b) <|
   p (yl_geq rfl rfl) <| x_done <|
   x_cond_p (0 ≤ q0a) rfl (fun hc16 => ?_) (fun hc16 => ?_)
  ·replace hFL4 := it_t hc16 hFL4
   replace hFL4 := ck_s hFL4; obtain ⟨q0r, hFL4⟩ := hFL4
   replace hFL4 := lv_s hFL4; obtain ⟨x20, hx20, hFL4⟩ := hFL4
   replace hFL4 := ck_s hFL4; obtain ⟨q0m, hFL4⟩ := hFL4
   replace hFL4 := lv_s hFL4; obtain ⟨x24, hx24, hFL4⟩ := hFL4
   replace hFL4 := lv_s hFL4; obtain ⟨x25, hx25, hFL4⟩ := hFL4
   replace hFL4 := lv_s hFL4; obtain ⟨x26, hx26, hFL4⟩ := hFL4
   replace hFL4 := lv_s hFL4; obtain ⟨x31, hx31, hFL4⟩ := hFL4
   replace hFL4 := ck_s hFL4; obtain ⟨q0s, hFL4⟩ := hFL4
   replace hFL4 := lv_s hFL4; obtain ⟨x32, hx32, hFL4⟩ := hFL4
   replace hFL4 := lv_s hFL4; obtain ⟨x33, hx33, hFL4⟩ := hFL4
   replace hFL4 := ck_s hFL4; obtain ⟨q0n, hFL4⟩ := hFL4
   refine x_skip <| x_seq <| x_block <| x_seq <|
    x_region <| p (yl_move q0i) <| p (yshl rfl rfl q0r hx20) <| p (yl_move q0h) <|
    p (yl_move q0b) <| p (yix_f sl_77 rfl rfl q0l q0m) <| pa (at_load one_159 rfl (RdS.getW q0l (hS.pull 1) q0m hx24)) <| p (yconvu wm_u64 uk_159 ik_158 rfl hx25) <|
    p (yor rfl rfl hx26) <| p (yl_assign rfl) <| x_done <| x_seq <|
    x_region <| p (yl_move q0g) <| p (yl_move q0b) <| p (yl_move rfl) <|
    p (yl_move q0f) <| p (yconvu wm_u64 uk_159 ik_158 rfl hx31) <| p (yquou wm_u64 rfl rfl q0s hx32) <| p (yconvu wm_u32 uk_158 ik_159 rfl hx33) <|
    p (yix_o sl_77 rfl rfl hS q7 q0n) <| ?_
   replace hFL4 := lv_s hFL4; obtain ⟨q0z, q0t, hFL4⟩ := hFL4
   refine o_put' (news := [.int .u32 x33]) sz_159 rfl rfl rfl rfl (o := 0) rfl q0n rfl hS q7 (Le.refl _) (fun c hc => ok_all hc (show (RpI .u32).ok ρ [.int .u32 x33] x33 from rfl)) q0t (fun q0u w' q0v hS => ?_)
   replace hFL4 := lv_s hFL4; obtain ⟨x37, hx37, hFL4⟩ := hFL4
   replace hFL4 := ck_s hFL4; obtain ⟨q0w, hFL4⟩ := hFL4
   replace hFL4 := lv_s hFL4; obtain ⟨x38, hx38, hFL4⟩ := hFL4
   replace hFL4 := ar_s hFL4; obtain ⟨x18, hx18, hFL4⟩ := hFL4
   refine x_done <| x_region <| p (yl_move rfl) <| p (yl_move q0f) <|
    p (yconvu wm_u64 uk_159 ik_158 rfl hx37) <| p (yrem rfl rfl q0w hx38) <| p (yl_assign rfl) <| x_done <|
    x_blk <| x_region <| p (yl_move q0b) <| p (ysub rfl rfl hx18) <|
    p (yl_assign rfl) <| x_done <| ?_
   have e_ := Option.some.inj (show some _ = some _ from hFL4); subst e_
   exact x_inv ⟨kL4, Nat.lt_succ_self _, q0u, q0z, x38, x18, hLL4, q0h, q0f, q0g, rfl, rfl, q0v, ((hS.pull 1).pull 1)⟩
  ·replace hFL4 := it_f hc16 hFL4
   refine x_exitTo _ rfl <| ?_
   have e_ := Option.some.inj (show some _ = some _ from hFL4); subst e_
   exact x_inv ⟨q3, q6, q5, hLL4, q0g, q0i, q7, ((hS.pull 1).pull 1)⟩
 rintro E w ⟨q4, q0c, q9, rfl, q0x, q0y, q0j, hS⟩
 replace hF := lv_s hF; obtain ⟨x41, hx41, hF⟩ := hF
 refine x_seq <| x_region <| p (yl_move q0x) <| p (yl_move q0y) <|
  p (yconvu wm_u32 uk_158 ik_159 rfl hx41) <| p (yl_assign rfl) <| p (yl_assign rfl) <| x_done <| ?_
 have e_ := Option.some.inj (show some _ = some _ from hF); subst e_
 exact x_return ⟨_, ⟨_, _, rfl, rfl, _, _, rfl, rfl, rfl⟩, A11, q2.length, q2.length, q4, rfl, q0j, ((hS.pull 1).pull 1)⟩
attribute [irreducible] P_exact_divSmall

def P_exact_digits_B (rc_ : Int → Option ByteArray) : Int → Option ByteArray := fun n0 =>
 if n0 < 10 then
  lv (((48 : Int) + n0) % 4294967296) fun x6 =>
  lv (x6 % 256) fun x7 =>
  lv (strOf ([x7] : List Int)) fun x9 =>
  some x9
 else
  ck ((10 : Int) ≠ 0) <|
  lv ((Int.tdiv n0 10) % 4294967296) fun x11 =>
  bd (rc_ x11) fun q2 =>
  ck ((10 : Int) ≠ 0) <|
  lv (Int.tmod n0 10) fun x14 =>
  lv (((48 : Int) + x14) % 4294967296) fun x15 =>
  lv (x15 % 256) fun x16 =>
  lv (strOf ([x16] : List Int)) fun x18 =>
  ck (q2.size + x18.size ≤ 140737488355328) <|
  some (q2 ++ x18)
def P_exact_digits (n0 : Int) : Option ByteArray := rcf P_exact_digits_B fuel n0
set_option maxHeartbeats 4000000 in
set_option maxRecDepth 100000 in
theorem c_exact_digits_s (rc_ : Int → Option ByteArray) (ih : ∀ {w0 w : World} {l : List Assn} {ρ : Heap} {n0 : Int} {r : ByteArray} (hF : rc_ n0 = some r) (hS : St w0 w (ro ρ :: l)),
  Calls Try.prog 100 #[.int .u32 n0] w fun e w' => e = .returned (.string r) ∧ St w0 w' (ro ρ :: l)) {w0 w : World} {l : List Assn} {ρ : Heap} {n0 : Int} {r : ByteArray} (hF : P_exact_digits_B rc_ n0 = some r) (hS : St w0 w (ro ρ :: l)) :
  Calls Try.prog 100 #[.int .u32 n0] w fun e w' => e = .returned (.string r) ∧ St w0 w' (ro ρ :: l) := by
 unfold P_exact_digits_B at hF; try dsimp only at hF
 refine enterC Try.func100 rfl 20 rfl (by simp) ?_
 refine x_seq <| x_region <| p (yl_assign rfl) <| x_done <|
  x_seq <| x_seq <| x_region <| p (yl_move rfl) <|
  p (yl_lss rfl rfl) <| x_done <|
  x_cond_p (n0 < 10) rfl (fun hc4 => ?_) (fun hc4 => ?_)
 ·replace hF := it_t hc4 hF
  replace hF := lv_s hF; obtain ⟨x6, hx6, hF⟩ := hF
  replace hF := lv_s hF; obtain ⟨x7, hx7, hF⟩ := hF
  refine x_seq <| x_region <| p (yl_move rfl) <| p (yaddu wm_u32 rfl rfl hx6) <|
   p (yconvu wm_u8 uk_159 ik_5 rfl hx7) <| ?_
  refine o_buildSlice (vs := [.int .u8 x7]) (cs := [.int .u8 x7]) sl_165 zero_5 (parts_eq (pt (va := .int .u8 x7) rfl pt0)) rfl (by intro v hv; simp only [List.mem_cons, List.not_mem_nil, or_false] at hv; first | (subst hv; rfl) | (rcases hv with rfl <;> rfl)) (by decide) rfl hS (fun b8 w' hS => ?_)
  have q0f : RepL (RpI .u8) ρ ([x7] : List Int) [.int .u8 x7] := (RepL.cons (cs := [.int .u8 x7]) rfl RepL.nil)
  replace hS := St.vec_of (n := 1) (sz := (RpI .u8).sz) hS rfl (by decide)
  replace hF := lv_s hF; obtain ⟨x9, hx9, hF⟩ := hF
  refine pa (at_str usl_165 ui_5 us_9 rfl (St.vec_n hS q0f) (str_o hS q0f) hx9) <| p (yl_assign rfl) <| x_done <| ?_
  have e_ := Option.some.inj (show some _ = some _ from hF); subst e_
  exact x_return ⟨_, ⟨_, _, rfl, rfl, rfl⟩, rfl, hS.drop⟩
 ·replace hF := it_f hc4 hF
  refine x_skip <| x_seq <| ?_
  replace hF := ck_s hF; obtain ⟨q0g, hF⟩ := hF
  replace hF := lv_s hF; obtain ⟨x11, hx11, hF⟩ := hF
  replace hF := bd_s hF; obtain ⟨q2, q0h, hF⟩ := hF
  replace hF := ck_s hF; obtain ⟨q0i, hF⟩ := hF
  replace hF := lv_s hF; obtain ⟨x14, hx14, hF⟩ := hF
  replace hF := lv_s hF; obtain ⟨x15, hx15, hF⟩ := hF
  replace hF := lv_s hF; obtain ⟨x16, hx16, hF⟩ := hF
  replace hF := lv_s hF; obtain ⟨x18, hx18, hF⟩ := hF
  replace hF := ck_s hF; obtain ⟨q0j, hF⟩ := hF
  refine x_par (w0 := w0) [⟨[], [], [10], [], [], []⟩, ⟨[0], [0], [11], [], [], []⟩, ⟨[0, 1], [1], [12], [0], [], []⟩, ⟨[], [], [13], [], [], []⟩, ⟨[3], [3], [14], [], [], []⟩, ⟨[3, 4], [4], [15], [], [], []⟩, ⟨[3, 4, 5], [5], [16], [], [], []⟩, ⟨[3, 4, 5, 6], [6], [17], [], [], [1]⟩, ⟨[3, 4, 5, 6, 7], [7], [18], [], [1], [2]⟩, ⟨[0, 1, 2, 3, 4, 5, 6, 7, 8], [2, 8], [19], [], [], []⟩, ⟨[0, 1, 2, 3, 4, 5, 6, 7, 8, 9], [9], [2], [], [], []⟩] [⟨none, none, []⟩, ⟨(some 7), (some 8), [17]⟩, ⟨(some 8), none, [17]⟩] [2, 10, 11, 12, 13, 14, 15, 16, 17, 18, 19] [0] [0, 2] [0, 1, 2, 3, 4, 5, 6, 7, 8, 9, 10] [fun Ep3 => Ep3 10 = .int .u32 n0, fun Ep3 => Ep3 11 = .int .u32 x11, fun Ep3 => Ep3 12 = .string q2, fun Ep3 => Ep3 13 = .int .u32 n0, fun Ep3 => Ep3 14 = .int .u32 x14, fun Ep3 => Ep3 15 = .int .u32 x15, fun Ep3 => Ep3 16 = .int .u8 x16, fun Ep3 => Ep3 17 = .slice (some ⟨(blkOf (Ep3 17)), 0, none⟩) 1 1, fun Ep3 => Ep3 18 = .string x18, fun Ep3 => Ep3 19 = .string (q2 ++ x18), fun Ep3 => Ep3 2 = .string (q2 ++ x18)] [fun Ep3 => ro ρ, fun Ep3 => cells (blkOf (Ep3 17)) 5 [.int .u8 x16], fun Ep3 => bunA (fun (x : Unit) => RepL (RpI .u8) ρ ([x16] : List Int) [.int .u8 x16]) (fun (x : Unit) => [vec 5 (RpI .u8).sz (.slice (some ⟨(blkOf (Ep3 17)), 0, none⟩) 1 1) 1 [.int .u8 x16]])] mixed (by kernel_rfl) hS ?_ ?_
  ·refine ⟨?_, ?_, ?_, ?_, ?_, ?_, ?_, ?_, ?_, ?_, ?_, trivial⟩
   ·intro Ep3 w l' hE3 hO3 hF_ hS
    refine p (yl_move (hE3 0 rfl)) <| x_done <| ?_
    refine x_fin ⟨⟨_, rfl⟩, rfl, ?_⟩
    exact Eq.mp (by kernel_rfl) hS
   ·intro Ep3 w l' hE3 hO3 hF_ hS
    obtain ⟨q3, -⟩ := hF_
    replace q3 : Ep3 10 = .int .u32 n0 := Eq.mp (by kernel_rfl) q3
    refine p (yquou wm_u32 q3 rfl q0g hx11) <| x_done <| ?_
    refine x_fin ⟨⟨_, rfl⟩, rfl, ?_⟩
    exact Eq.mp (by kernel_rfl) hS
   ·intro Ep3 w l' hE3 hO3 hF_ hS
    obtain ⟨q4, -⟩ := hF_
    replace q4 : Ep3 11 = .int .u32 x11 := Eq.mp (by kernel_rfl) q4
    replace hS : St w0 w (ro ρ :: l') := Eq.mp (by kernel_rfl) hS
    have hcall := ih q0h  hS
    refine o_cc call_100 (args1 q4) (hcall) ?_
    rintro e w' ⟨rfl, hS⟩
    refine ⟨_, rfl, ?_⟩
    refine x_done <| ?_
    refine x_fin ⟨⟨_, rfl⟩, rfl, ?_⟩
    exact Eq.mp (by kernel_rfl) hS
   ·intro Ep3 w l' hE3 hO3 hF_ hS
    refine p (yl_move (hE3 0 rfl)) <| x_done <| ?_
    refine x_fin ⟨⟨_, rfl⟩, rfl, ?_⟩
    exact Eq.mp (by kernel_rfl) hS
   ·intro Ep3 w l' hE3 hO3 hF_ hS
    obtain ⟨q5, -⟩ := hF_
    replace q5 : Ep3 13 = .int .u32 n0 := Eq.mp (by kernel_rfl) q5
    refine p (yrem q5 rfl q0i hx14) <| x_done <| ?_
    refine x_fin ⟨⟨_, rfl⟩, rfl, ?_⟩
    exact Eq.mp (by kernel_rfl) hS
   ·intro Ep3 w l' hE3 hO3 hF_ hS
    obtain ⟨q6, -⟩ := hF_
    replace q6 : Ep3 14 = .int .u32 x14 := Eq.mp (by kernel_rfl) q6
    refine p (yaddu wm_u32 rfl q6 hx15) <| x_done <| ?_
    refine x_fin ⟨⟨_, rfl⟩, rfl, ?_⟩
    exact Eq.mp (by kernel_rfl) hS
   ·intro Ep3 w l' hE3 hO3 hF_ hS
    obtain ⟨q7, -⟩ := hF_
    replace q7 : Ep3 15 = .int .u32 x15 := Eq.mp (by kernel_rfl) q7
    refine p (yconvu wm_u8 uk_159 ik_5 q7 hx16) <| x_done <| ?_
    refine x_fin ⟨⟨_, rfl⟩, rfl, ?_⟩
    exact Eq.mp (by kernel_rfl) hS
   ·intro Ep3 w l' hE3 hO3 hF_ hS
    obtain ⟨q8, -⟩ := hF_
    replace q8 : Ep3 16 = .int .u8 x16 := Eq.mp (by kernel_rfl) q8
    refine o_buildSlice (vs := [.int .u8 x16]) (cs := [.int .u8 x16]) sl_165 zero_5 (parts_eq (pt (va := .int .u8 x16) q8 pt0)) rfl (by intro v hv; simp only [List.mem_cons, List.not_mem_nil, or_false] at hv; first | (subst hv; rfl) | (rcases hv with rfl <;> rfl)) (by decide) rfl hS (fun b17 w' hS => ?_)
    refine x_done <| ?_
    refine x_fin ⟨⟨_, rfl⟩, rfl, ?_⟩
    exact Eq.mp (by kernel_rfl) hS
   ·intro Ep3 w l' hE3 hO3 hF_ hS
    obtain ⟨q9, -⟩ := hF_
    replace q9 : Ep3 17 = .slice (some ⟨(blkOf (Ep3 17)), 0, none⟩) 1 1 := Eq.mp (by kernel_rfl) q9
    replace hS : St w0 w (cells (blkOf (Ep3 17)) 5 [.int .u8 x16] :: l') := Eq.mp (by kernel_rfl) hS
    have q0d : RepL (RpI .u8) ρ ([x16] : List Int) [.int .u8 x16] := (RepL.cons (cs := [.int .u8 x16]) rfl RepL.nil)
    replace hS := St.vec_of (n := 1) (sz := (RpI .u8).sz) hS rfl (by decide)
    refine pa (at_str usl_165 ui_5 us_9 q9 (St.vec_n hS q0d) (str_o hS q0d) hx18) <| x_done <| ?_
    refine x_fin ⟨⟨_, rfl⟩, rfl, ?_⟩
    replace hS := St.bun (Φ := (fun (x : Unit) => RepL (RpI .u8) ρ ([x16] : List Int) [.int .u8 x16])) (L := (fun (x : Unit) => [vec 5 (RpI .u8).sz (.slice (some ⟨(blkOf (Ep3 17)), 0, none⟩) 1 1) 1 [.int .u8 x16]])) () q0d hS
    exact Eq.mp (by kernel_rfl) hS
   ·intro Ep3 w l' hE3 hO3 hF_ hS
    obtain ⟨q0a, q0b, -⟩ := hF_
    replace q0a : Ep3 12 = .string q2 := Eq.mp (by kernel_rfl) q0a
    replace q0b : Ep3 18 = .string x18 := Eq.mp (by kernel_rfl) q0b
    refine p (yadds q0a q0b q0j) <| x_done <| ?_
    refine x_fin ⟨⟨_, rfl⟩, rfl, ?_⟩
    exact Eq.mp (by kernel_rfl) hS
   ·intro Ep3 w l' hE3 hO3 hF_ hS
    obtain ⟨q0c, -⟩ := hF_
    replace q0c : Ep3 19 = .string (q2 ++ x18) := Eq.mp (by kernel_rfl) q0c
    refine p (yl_assign q0c) <| x_done <| ?_
    refine x_fin ⟨⟨_, rfl⟩, rfl, ?_⟩
    exact Eq.mp (by kernel_rfl) hS
  intro Ep3 w' hE3 hF_ hS
  obtain ⟨q3, q4, q0a, q5, q6, q7, q8, q9, q0b, q0c, q0e, -⟩ := hF_
  replace q3 : Ep3 10 = .int .u32 n0 := Eq.mp (by kernel_rfl) q3
  replace q4 : Ep3 11 = .int .u32 x11 := Eq.mp (by kernel_rfl) q4
  replace q0a : Ep3 12 = .string q2 := Eq.mp (by kernel_rfl) q0a
  replace q5 : Ep3 13 = .int .u32 n0 := Eq.mp (by kernel_rfl) q5
  replace q6 : Ep3 14 = .int .u32 x14 := Eq.mp (by kernel_rfl) q6
  replace q7 : Ep3 15 = .int .u32 x15 := Eq.mp (by kernel_rfl) q7
  replace q8 : Ep3 16 = .int .u8 x16 := Eq.mp (by kernel_rfl) q8
  replace q9 : Ep3 17 = .slice (some ⟨(blkOf (Ep3 17)), 0, none⟩) 1 1 := Eq.mp (by kernel_rfl) q9
  replace q0b : Ep3 18 = .string x18 := Eq.mp (by kernel_rfl) q0b
  replace q0c : Ep3 19 = .string (q2 ++ x18) := Eq.mp (by kernel_rfl) q0c
  replace q0e : Ep3 2 = .string (q2 ++ x18) := Eq.mp (by kernel_rfl) q0e
  replace hS : St w0 w' (ro ρ :: bunA (fun (x : Unit) => RepL (RpI .u8) ρ ([x16] : List Int) [.int .u8 x16]) (fun (x : Unit) => [vec 5 (RpI .u8).sz (.slice (some ⟨(blkOf (Ep3 17)), 0, none⟩) 1 1) 1 [.int .u8 x16]]) :: (l)) := Eq.mp (by kernel_rfl) hS
  have q_ := St.unbun (hS.pull 1); obtain ⟨⟨⟩, q0d, hS⟩ := q_
  have e_ := Option.some.inj (show some _ = some _ from hF); subst e_
  exact x_return ⟨_, ⟨_, _, rfl, q0e, rfl⟩, rfl, hS.drop⟩
theorem c_exact_digits_n : ∀ (n : Nat), ∀ {w0 w : World} {l : List Assn} {ρ : Heap} {n0 : Int} {r : ByteArray} (hF : rcf P_exact_digits_B n n0 = some r) (hS : St w0 w (ro ρ :: l)),
  Calls Try.prog 100 #[.int .u32 n0] w fun e w' => e = .returned (.string r) ∧ St w0 w' (ro ρ :: l)
 | 0 => by intros; rename_i hF _; cases (show none = some _ from by first | exact hF | assumption)
 | n + 1 => c_exact_digits_s (rcf P_exact_digits_B n) (c_exact_digits_n n)
theorem c_exact_digits {w0 w : World} {l : List Assn} {ρ : Heap} {n0 : Int} {r : ByteArray} (hF : P_exact_digits n0 = some r) (hS : St w0 w (ro ρ :: l)) :
  Calls Try.prog 100 #[.int .u32 n0] w fun e w' => e = .returned (.string r) ∧ St w0 w' (ro ρ :: l) := c_exact_digits_n fuel hF hS
attribute [irreducible] P_exact_digits

def P_exact_Text_L5 : (List Int × List Int) → Option ((List Int × List Int) ⊕ List Int) := fun (q2, q3) =>
 if 0 < (q3.length : Int) then
  bd (P_exact_divSmall q3 1000000000) fun q4 =>
  lv (q2 ++ [q4.2]) fun q5 =>
  ck (apOk 4 q5.length) <|
  bd (P_exact_made false q4.1) fun q6 =>
  some (Sum.inl (q5, q6.fmag))
 else
  some (Sum.inr q2)
def P_exact_Text_L12 (q3 : List Int) : (ByteArray × Int) → Option ((ByteArray × Int) ⊕ ByteArray) := fun (q4, q2) =>
 if 0 ≤ q2 then
  ck (inb q2 q3.length) <|
  lv (gt q3 q2) fun x43 =>
  bd (P_exact_digits x43) fun q5 =>
  ar ((q3.length : Int) - 1) fun x48 =>
  bd (
   if q2 < x48 then
    ar ((9 : Int) - (q5.size : Int)) fun x52 =>
    ck (0 ≤ (0 : Int) ∧ (0 : Int) ≤ x52 ∧ x52 ≤ ks_4c930086.size) <|
    lv (subS ks_4c930086 0 x52) fun x53 =>
    ck (q4.size + x53.size ≤ 140737488355328) <|
    lv (q4 ++ x53) fun q7 =>
    some q7
   else
    some q4) fun q6 =>
  ck (q6.size + q5.size ≤ 140737488355328) <|
  lv (q6 ++ q5) fun q8 =>
  ar (q2 - 1) fun x39 =>
  some (Sum.inl (q8, x39))
 else
  some (Sum.inr q4)
def P_exact_Text (a0 : T_exact_Int) : Option ByteArray :=
 bd (P_exact_Sign a0) fun q6 =>
 if q6 = 0 then
  some (⟨#[48]⟩ : ByteArray)
 else
  bd (
   lp P_exact_Text_L5 fuel ([], a0.fmag)) fun q2 =>
  bd (
   if a0.fneg = true then
    ck (0 ≤ (45 : Int) ∧ (45 : Int) < 256) <|
    ck ((⟨#[]⟩ : ByteArray).size + 1 ≤ 140737488355328) <|
    lv ((⟨#[]⟩ : ByteArray) ++ strOf [45]) fun q5 =>
    some q5
   else
    some (⟨#[]⟩ : ByteArray)) fun q4 =>
  ar ((q2.length : Int) - 1) fun x35 =>
  bd (
   lp (P_exact_Text_L12 q2) fuel (q4, x35)) fun q3 =>
  ck (0 < q3.size) <|
  some q3
set_option maxHeartbeats 4000000 in
set_option maxRecDepth 100000 in
theorem c_exact_Text {w0 w : World} {l : List Assn} {ρ : Heap} {q0b : Option Addr} {q0z : Nat} {c_a0_1 : Nat} {a0 : T_exact_Int} {r : ByteArray} (hF : P_exact_Text a0 = some r) (q0t : RdS (RpI .u32) ρ q0b q0z c_a0_1 a0.fmag) (hS : St w0 w (ro ρ :: l)) :
  Calls Try.prog 54 #[.agg #[.bool a0.fneg, .slice q0b q0z c_a0_1]] w fun e w' => e = .returned (.string r) ∧ St w0 w' (ro ρ :: l) := by
 have e_ := q0t.n; subst e_
 refine enterC Try.func54 rfl 58 rfl (by simp) ?_
 refine x_seq <| x_region <| ?_
 refine o_box (cs := [.bool a0.fneg, .slice q0b a0.fmag.length c_a0_1]) rfl rfl hS (fun b1 w' hS => ?_)
 replace hF := bd_s hF; obtain ⟨q23, q1s, hF⟩ := hF
 refine p (yl_assign rfl) <| x_done <| x_seq <| x_seq <|
  x_region <| pa (v := .agg #[.bool a0.fneg, .slice q0b a0.fmag.length c_a0_1]) (ld_sub agg_79 rfl rfl rfl hS) <| ?_
 have hcall := c_exact_Sign q1s q0t (hS.pull 1)
 refine o_cc call_44 (args1 rfl) ((Calls.mono hcall (fun e w'' h => And.intro h.1 (h.2.pull 1)))) ?_
 rintro e w' ⟨rfl, hS⟩
 refine ⟨_, rfl, ?_⟩
 refine p (yl_eql rfl rfl) <| x_done <|
  x_cond_p (q23 = 0) rfl (fun hc12 => ?_) (fun hc12 => ?_)
 ·replace hF := it_t hc12 hF
  refine x_seq <| x_region <| p (yl_assign rfl) <| x_done <| ?_
  have e_ := Option.some.inj (show some _ = some _ from hF); subst e_
  exact x_return ⟨_, ⟨_, _, rfl, rfl, rfl⟩, rfl, hS.drop⟩
 ·replace hF := it_f hc12 hF
  refine x_skip <| x_seq <| x_region <| p (yl_assign rfl) <|
   x_done <| x_seq <| x_seq <| x_region <|
   p (yl_field0 fld_79_1 rfl) <| pa (at_load one_77 rfl (hS.cell rfl)) <| p (yl_assign rfl) <| x_done <| ?_
  replace hF := bd_s hF; obtain ⟨oL5, hLL5, hF⟩ := hF
  refine x_join (fun E w => ∃ (q3 : Option Addr) (q9 : Nat) (c_parts3_L5 : Nat) (q4 : List Value) (q2 : List Int), q2 = oL5 ∧ E 1 = .pointer (some ⟨b1, 0, none⟩) ∧ E 3 = .slice q3 q9 c_parts3_L5 ∧ RepL (RpI .u32) ρ q2 q4 ∧ St w0 w (cells b1 79 [.bool a0.fneg, .slice q0b a0.fmag.length c_a0_1] :: vec 159 (RpI .u32).sz (.slice q3 q9 c_parts3_L5) q9 q4 :: ro ρ :: l)) ?_ ?_
  ·refine x_block ?_
   replace hS := St.vec_nil hS 159 (RpI .u32).sz
   have q0o : RepL (RpI .u32) ρ [] [] := rfl
   refine x_loop (fun k_ E w => ∃ (q0l : Heap) (q6 : Option Addr) (q7 : Nat) (c_parts3_L5h : Nat) (q5 : List Value) (q0h : Option Addr) (q0i : Nat) (c_mag4_L5h : Nat) (q8 : List Int) (q0j : List Int), lp P_exact_Text_L5 k_ (q8, q0j) = some oL5 ∧ Le ρ q0l ∧ E 1 = .pointer (some ⟨b1, 0, none⟩) ∧ E 3 = .slice q6 q7 c_parts3_L5h ∧ E 4 = .slice q0h q0i c_mag4_L5h ∧ RepL (RpI .u32) q0l q8 q5 ∧ RdS (RpI .u32) q0l q0h q0i c_mag4_L5h q0j ∧ St w0 w (cells b1 79 [.bool a0.fneg, .slice q0b a0.fmag.length c_a0_1] :: vec 159 (RpI .u32).sz (.slice q6 q7 c_parts3_L5h) q7 q5 :: ro q0l :: l)) fuel ⟨ρ, none, 0, 0, [], q0b, a0.fmag.length, c_a0_1, [], a0.fmag, hLL5, (Le.refl _), rfl, rfl, rfl, q0o, q0t, (((hS.pull 2).pull 1).pull 2)⟩ ?_
   rintro kL5 E w ⟨q0l, q6, q7, c_parts3_L5h, q5, q0h, q0i, c_mag4_L5h, q8, q0j, hLL5, q0u, q10, q11, q12, q0c, q0p, hS⟩
   have e_ := St.vec_n (hS.pull 1) q0c; subst e_
   have e_ := q0p.n; subst e_
   replace hLL5 := lp_s hLL5; obtain ⟨kL5, obL5, rfl, hFL5, hLL5⟩ := hLL5
   refine x_seq <| x_seq <| x_region <| p (yl_move q12) <|
    p (yl_len_slice usl_77 rfl) <| p (yl_gtr rfl rfl) <| x_done <|
    x_cond_p (0 < (q0j.length : Int)) rfl (fun hc17 => ?_) (fun hc17 => ?_)
   ·replace hFL5 := it_t hc17 hFL5
    replace hFL5 := bd_s hFL5; obtain ⟨q0v, q1t, hFL5⟩ := hFL5
    refine x_skip <| x_block <| x_seq <| x_region <|
     p (yl_move q12) <| ?_
    have hcall := c_exact_divSmall q1t q0p (hS.pull 2)
    refine o_cc call_98 (args2 rfl rfl) hcall ?_
    rintro e w' ⟨q1a, q1b, c_y0_ret_6_1, q19, rfl, q0k, hS⟩
    refine ⟨_, rfl, ?_⟩
    have e_ := St.vec_n hS q0k; subst e_
    refine p (yl_move rfl) <| p (yl_extract rfl rfl) <| p (yl_extract rfl rfl) <| p (yl_assign rfl) <|
     p (yl_assign rfl) <| x_done <| x_region <| p (yl_move q11) <|
     p (yl_move rfl) <| ?_
    refine o_buildSlice (vs := [.int .u32 q0v.2]) (cs := [.int .u32 q0v.2]) sl_77 zero_159 (parts_eq (pt (va := .int .u32 q0v.2) rfl pt0)) rfl (by intro v hv; simp only [List.mem_cons, List.not_mem_nil, or_false] at hv; first | (subst hv; rfl) | (rcases hv with rfl <;> rfl)) (by decide) rfl hS (fun b25 w' hS => ?_)
    replace hFL5 := lv_s hFL5; obtain ⟨q1c, q1u, hFL5⟩ := hFL5
    replace hFL5 := ck_s hFL5; obtain ⟨q1v, hFL5⟩ := hFL5
    refine o_ap sl_77 zero_159 rfl (by decide) rfl rfl (hS.pull 4) q0c (src_blk usl_77 hS rfl rfl) (RepL.cons (R := (RpI .u32)) (ρ := q0l) (x := q0v.2) (cs := [.int .u32 q0v.2]) rfl RepL.nil) q1u q1v (fun A26 c26 cs26 w' hr26 hS => ?_)
    refine p (yl_move rfl) <| ?_
    have q_ := St.vec_fz ((hS.pull 3).pull 3) q0k; obtain ⟨q1w, q0y, q1x, hS⟩ := q_
    replace hFL5 := bd_s hFL5; obtain ⟨q1d, q1y, hFL5⟩ := hFL5
    have hcall := c_exact_made q1y q1x hS
    refine o_cc call_93 (args2 rfl rfl) hcall ?_
    rintro e w' ⟨q0r, q17, c_y0_ret_1_7_5, rfl, q0e, hS⟩
    refine ⟨_, rfl, ?_⟩
    have e_ := q0e.n; subst e_
    refine p (yl_fld1 fld_79_1 one_77 rfl rfl) <| p (yl_assign rfl) <| p (yl_assign rfl) <| x_done <|
     x_blk <| ?_
    have e_ := Option.some.inj (show some _ = some _ from hFL5); subst e_
    exact x_inv ⟨kL5, Nat.lt_succ_self _, q1w, A26, q1c.length, c26, cs26, q0r, q1d.fmag.length, c_y0_ret_1_7_5, q1c, q1d.fmag, hLL5, (q0u.trans q0y), q10, rfl, rfl, (hr26.le q0y), q0e, (((hS.pull 2).drop.pull 1).pull 2)⟩
   ·replace hFL5 := it_f hc17 hFL5
    refine x_exitTo _ rfl <| ?_
    have e_ := Option.some.inj (show some _ = some _ from hFL5); subst e_
    exact x_inv ⟨q6, q8.length, c_parts3_L5h, q5, q8, hLL5, q10, q11, (RepL.flat (fun h => h) q0c), (ro_back2 q0u (((hS.pull 2).pull 2).pull 2))⟩
  rintro E w ⟨q3, q9, c_parts3_L5, q4, q2, rfl, q1z, q16, q0d, hS⟩
  have e_ := St.vec_n (hS.pull 1) q0d; subst e_
  refine x_seq <| x_region <| ?_
  refine o_alloc zero_167 hS (fun b7 w' hS => ?_)
  replace hS := bld_new (e := 5) hS
  refine x_done <| x_seq <| x_seq <| x_region <|
   p (yl_field0 fld_79_0 q1z) <| pa (at_load one_4 rfl ((hS.pull 1).cell rfl)) <| x_done <| ?_
  replace hF := bd_s hF; obtain ⟨oc31, hFc31, hF⟩ := hF
  refine x_join (fun E w => ∃ (q0q : ByteArray), q0q = oc31 ∧ E 3 = .slice q3 q2.length c_parts3_L5 ∧ E 7 = .pointer (some ⟨b7, 0, none⟩) ∧ St w0 w (vec 159 (RpI .u32).sz (.slice q3 q2.length c_parts3_L5) q2.length q4 :: bld 167 5 b7 q0q :: ro ρ :: l)) ?_ ?_
  ·refine x_cond (t := a0.fneg) rfl (fun hc31 => ?_) (fun hc31 => ?_)
   ·replace hFc31 := it_t hc31 hFc31
    refine x_region <| ?_
    replace hFc31 := ck_s hFc31; obtain ⟨q1e, hFc31⟩ := hFc31
    replace hFc31 := ck_s hFc31; obtain ⟨q18, hFc31⟩ := hFc31
    replace hFc31 := lv_s hFc31; obtain ⟨q20, q1f, hFc31⟩ := hFc31
    refine o_cc call_99 (args2 rfl rfl) (bwb q1e hS q18) ?_
    rintro e w' ⟨rfl, hS⟩
    refine ⟨_, rfl, ?_⟩
    rw [← q1f] at hS
    refine x_done <| ?_
    exact x_inv ⟨q20, (Option.some.inj (show some _ = some _ from hFc31)), q16, rfl, ((((hS.pull 1).drop.pull 2).pull 1).pull 2)⟩
   ·replace hFc31 := it_bf hc31 hFc31
    refine x_skip <| ?_
    exact x_inv ⟨(⟨#[]⟩ : ByteArray), (Option.some.inj (show some _ = some _ from hFc31)), q16, rfl, ((((hS.pull 1).drop.pull 2).pull 1).pull 2)⟩
  rintro E w ⟨q0q, rfl, q13, q1g, hS⟩
  replace hF := ar_s hF; obtain ⟨x35, hx35, hF⟩ := hF
  refine x_seq <| x_seq <| x_region <| p (yl_move q13) <|
   p (yl_len_slice usl_77 rfl) <| p (ysub rfl rfl hx35) <| p (yl_assign rfl) <| x_done <| ?_
  replace hF := bd_s hF; obtain ⟨oL12, hLL12, hF⟩ := hF
  refine x_join (fun E w => ∃ (q0w : ByteArray), q0w = oL12 ∧ E 7 = .pointer (some ⟨b7, 0, none⟩) ∧ St w0 w (bld 167 5 b7 q0w :: ro ρ :: l)) ?_ ?_
  ·refine x_block ?_
   refine x_loop (fun k_ E w => ∃ (q0f : ByteArray) (q0a : Int), lp (P_exact_Text_L12 q2) k_ (q0f, q0a) = some oL12 ∧ E 3 = .slice q3 q2.length c_parts3_L5 ∧ E 7 = .pointer (some ⟨b7, 0, none⟩) ∧ E 8 = .int .i64 q0a ∧ St w0 w (vec 159 (RpI .u32).sz (.slice q3 q2.length c_parts3_L5) q2.length q4 :: bld 167 5 b7 q0f :: ro ρ :: l)) fuel ⟨q0q, x35, hLL12, q13, q1g, rfl, (((hS.pull 2).pull 2).pull 2)⟩ ?_
   rintro kL12 E w ⟨q0f, q0a, hLL12, q0m, q0n, q0g, hS⟩
   replace hLL12 := lp_s hLL12; obtain ⟨kL12, obL12, rfl, hFL12, hLL12⟩ := hLL12
   refine x_seq <| x_seq <| x_region <| p (yl_move q0g) <|
    p (yl_geq rfl rfl) <| x_done <|
    x_cond_p (0 ≤ q0a) rfl (fun hc37 => ?_) (fun hc37 => ?_)
   ·replace hFL12 := it_t hc37 hFL12
    replace hFL12 := ck_s hFL12; obtain ⟨q14, hFL12⟩ := hFL12
    replace hFL12 := lv_s hFL12; obtain ⟨x43, hx43, hFL12⟩ := hFL12
    replace hFL12 := bd_s hFL12; obtain ⟨q0s, q1h, hFL12⟩ := hFL12
    refine x_skip <| x_seq <| x_block <| x_seq <|
     x_region <| p (yl_move q0m) <| p (yl_move q0g) <| p (yix_o sl_77 rfl rfl hS q0d q14) <|
     pa (at_load one_159 rfl (RepL.getW q0d hS q14 hx43)) <| ?_
    have hcall := c_exact_digits q1h  (hS.pull 2)
    refine o_cc call_100 (args1 rfl) ((Calls.mono hcall (fun e w'' h => And.intro h.1 ((h.2.pull 2).pull 2)))) ?_
    rintro e w' ⟨rfl, hS⟩
    refine ⟨_, rfl, ?_⟩
    replace hFL12 := ar_s hFL12; obtain ⟨x48, hx48, hFL12⟩ := hFL12
    refine p (v := .string q0s) (yl_assign rfl) <| x_done <| x_seq <| x_seq <|
     x_region <| p (yl_move q0g) <| p (yl_move q0m) <| p (yl_len_slice usl_77 rfl) <|
     p (ysub rfl rfl hx48) <| p (yl_lss rfl rfl) <| x_done <| ?_
    replace hFL12 := bd_s hFL12; obtain ⟨oc49, hFc49, hFL12⟩ := hFL12
    refine x_join (fun E w => ∃ (q0x : ByteArray), q0x = oc49 ∧ E 3 = .slice q3 q2.length c_parts3_L5 ∧ E 7 = .pointer (some ⟨b7, 0, none⟩) ∧ E 8 = .int .i64 q0a ∧ E 9 = .string q0s ∧ St w0 w (vec 159 (RpI .u32).sz (.slice q3 q2.length c_parts3_L5) q2.length q4 :: bld 167 5 b7 q0x :: ro ρ :: l)) ?_ ?_
    ·refine x_cond_p (q0a < x48) rfl (fun hc49 => ?_) (fun hc49 => ?_)
     ·replace hFc49 := it_t hc49 hFc49
      replace hFc49 := ar_s hFc49; obtain ⟨x52, hx52, hFc49⟩ := hFc49
      replace hFc49 := ck_s hFc49; obtain ⟨q1i, hFc49⟩ := hFc49
      replace hFc49 := lv_s hFc49; obtain ⟨x53, hx53, hFc49⟩ := hFc49
      refine x_region <| p (v := .string q0s) (yl_move rfl) <| p (yl_len_string us_9 rfl) <| p (ysub rfl rfl hx52) <|
       p (ysub_sh us_9 rfl rfl q1i hx53) <| ?_
      replace hFc49 := ck_s hFc49; obtain ⟨q1j, hFc49⟩ := hFc49
      replace hFc49 := lv_s hFc49; obtain ⟨q21, q1k, hFc49⟩ := hFc49
      refine o_cc call_101 (args2 q0n rfl) (bws (hS.pull 1) q1j) ?_
      rintro e w' ⟨rfl, hS⟩
      refine ⟨_, rfl, ?_⟩
      rw [← q1k] at hS
      refine x_done <| ?_
      exact x_inv ⟨q21, (Option.some.inj (show some _ = some _ from hFc49)), q0m, q0n, q0g, rfl, (((hS.pull 2).pull 1).pull 2)⟩
     ·replace hFc49 := it_f hc49 hFc49
      refine x_skip <| ?_
      exact x_inv ⟨q0f, (Option.some.inj (show some _ = some _ from hFc49)), q0m, q0n, q0g, rfl, (((hS.pull 2).pull 2).pull 2)⟩
    rintro E w ⟨q0x, rfl, q1l, q15, q1m, q1n, hS⟩
    refine x_region <| p (v := .string q0s) (yl_move q1n) <| ?_
    replace hFL12 := ck_s hFL12; obtain ⟨q1o, hFL12⟩ := hFL12
    replace hFL12 := lv_s hFL12; obtain ⟨q22, q1p, hFL12⟩ := hFL12
    refine o_cc call_101 (args2 q15 rfl) (bws (hS.pull 1) q1o) ?_
    rintro e w' ⟨rfl, hS⟩
    refine ⟨_, rfl, ?_⟩
    rw [← q1p] at hS
    replace hFL12 := ar_s hFL12; obtain ⟨x39, hx39, hFL12⟩ := hFL12
    refine x_done <| x_blk <| x_region <| p (yl_move q1m) <|
     p (ysub rfl rfl hx39) <| p (yl_assign rfl) <| x_done <| ?_
    have e_ := Option.some.inj (show some _ = some _ from hFL12); subst e_
    exact x_inv ⟨kL12, Nat.lt_succ_self _, q22, x39, hLL12, q1l, q15, rfl, (((hS.pull 2).pull 1).pull 2)⟩
   ·replace hFL12 := it_f hc37 hFL12
    refine x_exitTo _ rfl <| ?_
    have e_ := Option.some.inj (show some _ = some _ from hFL12); subst e_
    exact x_inv ⟨q0f, hLL12, q0n, ((hS.drop.pull 1).pull 1)⟩
  rintro E w ⟨q0w, rfl, q1q, hS⟩
  refine x_seq <| x_region <| ?_
  replace hF := ck_s hF; obtain ⟨q1r, hF⟩ := hF
  refine o_cc call_102 (args1 q1q) (bst hS q1r) ?_
  rintro e w' ⟨rfl, hS⟩
  refine ⟨_, rfl, ?_⟩
  refine p (yl_assign rfl) <| x_done <| ?_
  have e_ := Option.some.inj (show some _ = some _ from hF); subst e_
  exact x_return ⟨_, ⟨_, _, rfl, rfl, rfl⟩, rfl, hS⟩
attribute [irreducible] P_exact_Text

def P_internal_stringslite_HasPrefix (s0 : ByteArray) (prefix1 : ByteArray) : Option Bool :=
 ck ((decide ((prefix1.size : Int) ≤ (s0.size : Int))) = true → 0 ≤ (0 : Int) ∧ (0 : Int) ≤ (prefix1.size : Int) ∧ (prefix1.size : Int) ≤ s0.size) <|
 lv (subS s0 0 (prefix1.size : Int)) fun x14 =>
 lv ((decide ((prefix1.size : Int) ≤ (s0.size : Int))) && (decide (x14 = prefix1))) fun x17 =>
 some x17
set_option maxHeartbeats 4000000 in
set_option maxRecDepth 100000 in
theorem c_internal_stringslite_HasPrefix {w0 w : World} {l : List Assn} {ρ : Heap} {s0 : ByteArray} {prefix1 : ByteArray} {r : Bool} (hF : P_internal_stringslite_HasPrefix s0 prefix1 = some r) (hS : St w0 w (ro ρ :: l)) :
  Calls Try.prog 144 #[.string s0, .string prefix1] w fun e w' => e = .returned (.bool r) ∧ St w0 w' (ro ρ :: l) := by
 refine enterC Try.func144 rfl 18 rfl (by simp) ?_
 replace hF := ck_s hF; obtain ⟨q2, hF⟩ := hF
 replace hF := lv_s hF; obtain ⟨x14, hx14, hF⟩ := hF
 replace hF := lv_s hF; obtain ⟨x17, hx17, hF⟩ := hF
 refine x_seq <| x_region <| p (yl_assign rfl) <| x_done <|
  x_seq <| x_region <| p (yl_move rfl) <| p (yl_len_string us_9 rfl) <|
  p (yl_move rfl) <| p (yl_len_string us_9 rfl) <| p (yl_geq rfl rfl) <| p (yl_move rfl) <|
  pg (v := .string s0) 10 (c := decide ((prefix1.size : Int) ≤ (s0.size : Int))) (says_t _) (fun hq => Yl.at (yl_move rfl)) <| pg (v := .string prefix1) 10 (c := decide ((prefix1.size : Int) ≤ (s0.size : Int))) (says_t _) (fun hq => Yl.at (yl_move rfl)) <| pg (v := .int .i64 (prefix1.size : Int)) 10 (c := decide ((prefix1.size : Int) ≤ (s0.size : Int))) (says_t _) (fun hq => Yl.at (yl_len_string us_9 (cv hq))) <| pg (v := .string x14) 10 (c := decide ((prefix1.size : Int) ≤ (s0.size : Int))) (says_t _) (fun hq => Yl.at (ysub_sh us_9 (cv hq) (cv hq) (q2 hq) hx14)) <|
  pg (v := .string prefix1) 10 (c := decide ((prefix1.size : Int) ≤ (s0.size : Int))) (says_t _) (fun hq => Yl.at (yl_move rfl)) <| pg (v := .bool (decide (x14 = prefix1))) 10 (c := decide ((prefix1.size : Int) ≤ (s0.size : Int))) (says_t _) (fun hq => Yl.at (yl_eql_string (cv hq) (cv hq))) <| p (yand' rfl (fun hc => (cv hc)) rfl hx17) <| p (yl_assign rfl) <|
  x_done <| ?_
 have e_ := Option.some.inj (show some _ = some _ from hF); subst e_
 exact x_return ⟨_, ⟨_, _, rfl, rfl, rfl⟩, rfl, hS⟩
attribute [irreducible] P_internal_stringslite_HasPrefix

def P_internal_stringslite_TrimPrefix (s0 : ByteArray) (prefix1 : ByteArray) : Option ByteArray :=
 bd (P_internal_stringslite_HasPrefix s0 prefix1) fun q2 =>
 if q2 = true then
  ck (0 ≤ (prefix1.size : Int) ∧ (prefix1.size : Int) ≤ (s0.size : Int) ∧ (s0.size : Int) ≤ s0.size) <|
  lv (subS s0 (prefix1.size : Int) (s0.size : Int)) fun x11 =>
  some x11
 else
  some s0
set_option maxHeartbeats 4000000 in
set_option maxRecDepth 100000 in
theorem c_internal_stringslite_TrimPrefix {w0 w : World} {l : List Assn} {ρ : Heap} {s0 : ByteArray} {prefix1 : ByteArray} {r : ByteArray} (hF : P_internal_stringslite_TrimPrefix s0 prefix1 = some r) (hS : St w0 w (ro ρ :: l)) :
  Calls Try.prog 128 #[.string s0, .string prefix1] w fun e w' => e = .returned (.string r) ∧ St w0 w' (ro ρ :: l) := by
 refine enterC Try.func128 rfl 13 rfl (by simp) ?_
 replace hF := bd_s hF; obtain ⟨q4, q2, hF⟩ := hF
 refine x_seq <| x_region <| p (yl_assign rfl) <| x_done <|
  x_seq <| x_seq <| x_region <| p (yl_move rfl) <|
  p (yl_move rfl) <| ?_
 have hcall := c_internal_stringslite_HasPrefix q2  hS
 refine o_cc call_144 (args2 rfl rfl) (hcall) ?_
 rintro e w' ⟨rfl, hS⟩
 refine ⟨_, rfl, ?_⟩
 refine x_done <|
  x_cond (t := q4) rfl (fun hc7 => ?_) (fun hc7 => ?_)
 ·replace hF := it_t hc7 hF
  replace hF := ck_s hF; obtain ⟨q3, hF⟩ := hF
  replace hF := lv_s hF; obtain ⟨x11, hx11, hF⟩ := hF
  refine x_seq <| x_region <| p (yl_move rfl) <| p (yl_move rfl) <|
   p (yl_len_string us_9 rfl) <| p (ysub_sl us_9 rfl rfl q3 hx11) <| p (yl_assign rfl) <| x_done <| ?_
  have e_ := Option.some.inj (show some _ = some _ from hF); subst e_
  exact x_return ⟨_, ⟨_, _, rfl, rfl, rfl⟩, rfl, hS⟩
 ·replace hF := it_bf hc7 hF
  refine x_skip <| x_seq <| x_region <| p (yl_move rfl) <|
   p (yl_assign rfl) <| x_done <| ?_
  have e_ := Option.some.inj (show some _ = some _ from hF); subst e_
  exact x_return ⟨_, ⟨_, _, rfl, rfl, rfl⟩, rfl, hS⟩
attribute [irreducible] P_internal_stringslite_TrimPrefix

def P_strings_TrimPrefix (s0 : ByteArray) (prefix1 : ByteArray) : Option ByteArray :=
 bd (P_internal_stringslite_TrimPrefix s0 prefix1) fun q2 =>
 some q2
set_option maxHeartbeats 4000000 in
set_option maxRecDepth 100000 in
theorem c_strings_TrimPrefix {w0 w : World} {l : List Assn} {ρ : Heap} {s0 : ByteArray} {prefix1 : ByteArray} {r : ByteArray} (hF : P_strings_TrimPrefix s0 prefix1 = some r) (hS : St w0 w (ro ρ :: l)) :
  Calls Try.prog 97 #[.string s0, .string prefix1] w fun e w' => e = .returned (.string r) ∧ St w0 w' (ro ρ :: l) := by
 refine enterC Try.func97 rfl 8 rfl (by simp) ?_
 replace hF := bd_s hF; obtain ⟨q3, q2, hF⟩ := hF
 refine x_seq <| x_region <| p (yl_assign rfl) <| x_done <|
  x_seq <| x_region <| p (yl_move rfl) <| p (yl_move rfl) <| ?_
 have hcall := c_internal_stringslite_TrimPrefix q2  hS
 refine o_cc call_128 (args2 rfl rfl) (hcall) ?_
 rintro e w' ⟨rfl, hS⟩
 refine ⟨_, rfl, ?_⟩
 refine p (v := .string q3) (yl_assign rfl) <| x_done <| ?_
 have e_ := Option.some.inj (show some _ = some _ from hF); subst e_
 exact x_return ⟨_, ⟨_, _, rfl, rfl, rfl⟩, rfl, hS⟩
attribute [irreducible] P_strings_TrimPrefix

def P_exact_Read_L7 (q3 : ByteArray) : Int → Option (Int ⊕ (Unit ⊕ (T_exact_Int × Int))) := fun q2 =>
 if q2 < (q3.size : Int) then
  ck (inb q2 q3.size) <|
  lv (byteAt q3 q2) fun x35 =>
  ck ((!(decide (x35 < 48))) = true → inb q2 q3.size) <|
  lv (byteAt q3 q2) fun x40 =>
  lv ((decide (x35 < 48)) || (decide (57 < x40))) fun x42 =>
  if x42 = true then
   some (Sum.inr (Sum.inr ((T_exact_Int.mk false []), (10 : Int))))
  else
   ar (q2 + 1) fun x44 =>
   some (Sum.inl x44)
 else
  some (Sum.inr (Sum.inl ()))
def P_exact_Read_L18 (q5 : ByteArray) (q4 : Int) : (Int × Int) → Option ((Int × Int) ⊕ (Int × Int)) := fun (q2, q3) =>
 if q2 < q4 then
  lv (((10 : Int) * q3) % 4294967296) fun x68 =>
  ck (inb q2 q5.size) <|
  lv (byteAt q5 q2) fun x71 =>
  lv ((x71 - 48) % 256) fun x72 =>
  lv (x72 % 4294967296) fun x73 =>
  lv ((x68 + x73) % 4294967296) fun x74 =>
  ar (q2 + 1) fun x66 =>
  some (Sum.inl (x66, x74))
 else
  some (Sum.inr (q2, q3))
def P_exact_Read_L14 (q5 : ByteArray) : (Int × Bool × List Int) → Option ((Int × Bool × List Int) ⊕ (Bool × List Int)) := fun (q2, q3, q4) =>
 if q2 < (q5.size : Int) then
  ar (q2 + 9) fun x50 =>
  ck ((decide (q2 = 0)) = true → (9 : Int) ≠ 0) <|
  lv (Int.tmod (q5.size : Int) 9) fun x56 =>
  lv ((decide (q2 = 0)) && (decide (0 < x56))) fun x58 =>
  bd (
   if x58 = true then
    ck ((9 : Int) ≠ 0) <|
    lv (Int.tmod (q5.size : Int) 9) fun x61 =>
    some x61
   else
    some x50) fun q6 =>
  bd (
   lp (P_exact_Read_L18 q5 q6) fuel (q2, 0)) fun (q8, q9) =>
  bd (P_exact_Of 1000000000) fun q0a =>
  bd (P_exact_times (T_exact_Int.mk q3 q4) q0a) fun q0b =>
  ar (q9) fun x79 =>
  bd (P_exact_Of x79) fun q0c =>
  bd (P_exact_plus q0b q0c) fun q7 =>
  some (Sum.inl (q8, q7.fneg, q7.fmag))
 else
  some (Sum.inr (q3, q4))
def P_exact_Read (s0 : ByteArray) : Option (T_exact_Int × Int) :=
 if 20000 < (s0.size : Int) then
  some ((T_exact_Int.mk false []), (3 : Int))
 else
  bd (P_strings_TrimPrefix s0 (⟨#[45]⟩ : ByteArray)) fun q2 =>
  ck ((!(decide (q2 = (⟨#[]⟩ : ByteArray)))) = true → inb 0 q2.size) <|
  lv (byteAt q2 0) fun x20 =>
  lv ((decide (x20 = 48)) && (decide (s0 ≠ (⟨#[48]⟩ : ByteArray)))) fun x25 =>
  lv ((decide (q2 = (⟨#[]⟩ : ByteArray))) || x25) fun x26 =>
  if x26 = true then
   some ((T_exact_Int.mk false []), (10 : Int))
  else
   bs (
    lp (P_exact_Read_L7 q2) fuel 0) (fun y => some y) fun _ =>
   bd (
    lp (P_exact_Read_L14 q2) fuel (0, false, [])) fun (q6, q3) =>
   bd (P_exact_made (decide ((q2.size : Int) < (s0.size : Int))) q3) fun q5 =>
   bd (P_exact_fit q5) fun q4 =>
   some (q4.1, q4.2)
set_option maxHeartbeats 4000000 in
set_option maxRecDepth 100000 in
theorem c_exact_Read {w0 w : World} {l : List Assn} {ρ : Heap} {s0 : ByteArray} {r : (T_exact_Int × Int)} (hF : P_exact_Read s0 = some r) (hS : St w0 w (ro ρ :: l)) :
  Calls Try.prog 53 #[.string s0] w fun e w' => ∃ (ρ' : Heap) (q1d : Option Addr) (q1e : Nat) (c_y0_ret_1 : Nat), e = .returned (.tuple #[.agg #[.bool r.1.fneg, .slice q1d q1e c_y0_ret_1], .int .i64 r.2]) ∧ Le ρ ρ' ∧ RdS (RpI .u32) ρ' q1d q1e c_y0_ret_1 r.1.fmag ∧ St w0 w' (ro ρ' :: l) := by
 refine enterC Try.func53 rfl 93 rfl (by simp) ?_
 refine x_seq <| x_region <| ?_
 refine o_alloc zero_79 hS (fun b2 w' hS => ?_)
 refine p (yl_assign rfl) <| x_done <| x_seq <| x_seq <|
  x_region <| p (yl_move rfl) <| p (yl_len_string us_9 rfl) <| p (yl_gtr rfl rfl) <|
  x_done <|
  x_cond_p (20000 < (s0.size : Int)) rfl (fun hc12 => ?_) (fun hc12 => ?_)
 ·replace hF := it_t hc12 hF
  refine x_seq <| x_region <| p (v := .agg #[.bool false, .slice none 0 0]) (yl_build bld_79 bldf_79 (parts_eq pt0) (by kernel_rfl)) <| ?_
  refine o_storeAgg (news := [.bool false, .slice none 0 0]) agg_79 rfl rfl rfl (by simp [over_length]) hS (fun w' hS => ?_)
  refine p (yl_assign rfl) <| x_done <| ?_
  have e_ := Option.some.inj (show some _ = some _ from hF); subst e_
  exact x_return ⟨_, ⟨_, _, _, rfl, rfl, ldvA agg_79 rfl (fun j v hj => by rw [add0]; exact St.cell hS hj), _, _, rfl, rfl, rfl⟩, ρ, none, 0, 0, rfl, (Le.refl _), (RdS.nil (A := none) (c := 0)), hS.drop⟩
 ·replace hF := it_f hc12 hF
  replace hF := bd_s hF; obtain ⟨q0a, q3c, hF⟩ := hF
  refine x_skip <| x_seq <| x_region <| p (yl_move rfl) <| ?_
  have hcall := c_strings_TrimPrefix q3c  (hS.pull 1)
  refine o_cc call_97 (args2 rfl rfl) ((Calls.mono hcall (fun e w'' h => And.intro h.1 (h.2.pull 1)))) ?_
  rintro e w' ⟨rfl, hS⟩
  refine ⟨_, rfl, ?_⟩
  replace hF := ck_s hF; obtain ⟨q3d, hF⟩ := hF
  replace hF := lv_s hF; obtain ⟨x20, hx20, hF⟩ := hF
  replace hF := lv_s hF; obtain ⟨x25, hx25, hF⟩ := hF
  replace hF := lv_s hF; obtain ⟨x26, hx26, hF⟩ := hF
  refine p (v := .string q0a) (yl_assign rfl) <| x_done <| x_seq <| x_seq <|
   x_region <| p (v := .string q0a) (yl_move rfl) <| p (yl_eql_string rfl rfl) <| p (yl_move rfl) <|
   pg (v := .string q0a) 18 (c := !(decide (q0a = (⟨#[]⟩ : ByteArray)))) (says_f _) (fun hq => Yl.at (yl_move rfl)) <| pg (v := .int .u8 x20) 18 (c := !(decide (q0a = (⟨#[]⟩ : ByteArray)))) (says_f _) (fun hq => Yl.at (ystr us_9 (cv hq) rfl (q3d hq) hx20)) <| pg (v := .bool (decide (x20 = 48))) 18 (c := !(decide (q0a = (⟨#[]⟩ : ByteArray)))) (says_f _) (fun hq => Yl.at (yl_eql (cv hq) rfl)) <| pg (v := .bool (decide (x20 = 48))) 18 (c := !(decide (q0a = (⟨#[]⟩ : ByteArray)))) (says_f _) (fun hq => Yl.at (yl_move (cv hq))) <|
   pg (v := .string s0) 22 (c := (!(decide (q0a = (⟨#[]⟩ : ByteArray)))) && (decide (x20 = 48))) (says_ift _ _) (fun hq => Yl.at (yl_move rfl)) <| pg (v := .bool (decide (s0 ≠ (⟨#[48]⟩ : ByteArray)))) 22 (c := (!(decide (q0a = (⟨#[]⟩ : ByteArray)))) && (decide (x20 = 48))) (says_ift _ _) (fun hq => Yl.at (ynes (cv hq) rfl)) <| pg (v := .bool x25) 18 (c := !(decide (q0a = (⟨#[]⟩ : ByteArray)))) (says_f _) (fun hq => Yl.at (yand' (cv hq) (fun hc => (cv (and_i hq hc))) rfl hx25)) <| p (yor' rfl rfl (fun hc => (cv (t_not hc))) hx26) <|
   x_done <|
   x_cond (t := x26) rfl (fun hc26 => ?_) (fun hc26 => ?_)
  ·replace hF := it_t hc26 hF
   refine x_seq <| x_region <| p (v := .agg #[.bool false, .slice none 0 0]) (yl_build bld_79 bldf_79 (parts_eq pt0) (by kernel_rfl)) <| ?_
   refine o_storeAgg (news := [.bool false, .slice none 0 0]) agg_79 rfl rfl rfl (by simp [over_length]) hS (fun w' hS => ?_)
   refine p (yl_assign rfl) <| x_done <| ?_
   have e_ := Option.some.inj (show some _ = some _ from hF); subst e_
   exact x_return ⟨_, ⟨_, _, _, rfl, rfl, ldvA agg_79 rfl (fun j v hj => by rw [add0]; exact St.cell hS hj), _, _, rfl, rfl, rfl⟩, ρ, none, 0, 0, rfl, (Le.refl _), (RdS.nil (A := none) (c := 0)), hS.drop⟩
  ·replace hF := it_bf hc26 hF
   refine x_skip <| x_seq <| x_seq <| x_region <|
    p (v := .string q0a) (yl_move rfl) <| p (yl_len_string us_9 rfl) <| p (yl_move rfl) <| x_done <| ?_
   replace hF := bs_s hF; obtain ⟨oL7, hLL7, hF⟩ := hF
   refine x_join (fun E w => (Sum.inl (())) = oL7 ∧ E 0 = .string s0 ∧ E 2 = .pointer (some ⟨b2, 0, none⟩) ∧ E 4 = .string q0a ∧ St w0 w (cells b2 79 [.bool false, .slice none 0 0] :: ro ρ :: l)) ?_ ?_
   ·refine x_block ?_
    refine x_loop (fun k_ E w => ∃ (q0t : Int), lp (P_exact_Read_L7 q0a) k_ q0t = some oL7 ∧ E 0 = .string s0 ∧ E 2 = .pointer (some ⟨b2, 0, none⟩) ∧ E 4 = .string q0a ∧ E 29 = .int .i64 (q0a.size : Int) ∧ E 30 = .int .i64 q0t ∧ St w0 w (cells b2 79 [.bool false, .slice none 0 0] :: ro ρ :: l)) fuel ⟨0, hLL7, rfl, rfl, rfl, rfl, rfl, ((hS.pull 1).pull 1)⟩ ?_
    rintro kL7 E w ⟨q0t, hLL7, q2b, q1f, q1g, q22, q1o, hS⟩
    replace hLL7 := lp_s hLL7; obtain ⟨kL7, obL7, rfl, hFL7, hLL7⟩ := hLL7
    refine x_seq <| x_region <| p (yl_lss q1o q22) <| x_done <|
     x_seq <|
     x_cond_p (q0t < (q0a.size : Int)) rfl (fun hc31 => ?_) (fun hc31 => ?_)
    ·replace hFL7 := it_t hc31 hFL7
     replace hFL7 := ck_s hFL7; obtain ⟨q3e, hFL7⟩ := hFL7
     replace hFL7 := lv_s hFL7; obtain ⟨x35, hx35, hFL7⟩ := hFL7
     replace hFL7 := ck_s hFL7; obtain ⟨q3f, hFL7⟩ := hFL7
     replace hFL7 := lv_s hFL7; obtain ⟨x40, hx40, hFL7⟩ := hFL7
     replace hFL7 := lv_s hFL7; obtain ⟨x42, hx42, hFL7⟩ := hFL7
     refine x_skip <| x_seq <| x_block <| x_seq <|
      x_region <| p (yl_move q1o) <| p (yl_assign rfl) <| x_done <|
      x_seq <| x_region <| p (v := .string q0a) (yl_move q1g) <| p (yl_move rfl) <|
      p (ystr us_9 rfl rfl q3e hx35) <| p (yl_lss rfl rfl) <| p (yl_move rfl) <| pg (v := .string q0a) 37 (c := !(decide (x35 < 48))) (says_f _) (fun hq => Yl.at (yl_move q1g)) <|
      pg (v := .int .i64 q0t) 37 (c := !(decide (x35 < 48))) (says_f _) (fun hq => Yl.at (yl_move rfl)) <| pg (v := .int .u8 x40) 37 (c := !(decide (x35 < 48))) (says_f _) (fun hq => Yl.at (ystr us_9 (cv hq) (cv hq) (q3f hq) hx40)) <| pg (v := .bool (decide (57 < x40))) 37 (c := !(decide (x35 < 48))) (says_f _) (fun hq => Yl.at (yl_gtr (cv hq) rfl)) <| p (yor' rfl rfl (fun hc => (cv (t_not hc))) hx42) <|
      x_done <|
      x_cond (t := x42) rfl (fun hc42 => ?_) (fun hc42 => ?_)
     ·replace hFL7 := it_t hc42 hFL7
      refine x_seq <| x_region <| p (v := .agg #[.bool false, .slice none 0 0]) (yl_build bld_79 bldf_79 (parts_eq pt0) (by kernel_rfl)) <| ?_
      refine o_storeAgg (news := [.bool false, .slice none 0 0]) agg_79 q1f rfl rfl (by simp [over_length]) hS (fun w' hS => ?_)
      refine p (yl_assign rfl) <| x_done <| ?_
      have e_ := Option.some.inj (show some _ = some _ from hFL7); subst e_
      have e_ := (show _ = oL7 from hLL7); subst e_
      have e_ := Option.some.inj (show some _ = some _ from hF); subst e_
      exact x_return ⟨_, ⟨_, _, _, rfl, q1f, ldvA agg_79 rfl (fun j v hj => by rw [add0]; exact St.cell hS hj), _, _, rfl, rfl, rfl⟩, ρ, none, 0, 0, rfl, (Le.refl _), (RdS.nil (A := none) (c := 0)), hS.drop⟩
     ·replace hFL7 := it_bf hc42 hFL7
      replace hFL7 := ar_s hFL7; obtain ⟨x44, hx44, hFL7⟩ := hFL7
      refine x_skip <| x_blk <| x_region <| p (yadd q1o rfl hx44) <|
       p (yl_move rfl) <| x_done <| ?_
      have e_ := Option.some.inj (show some _ = some _ from hFL7); subst e_
      exact x_inv ⟨kL7, Nat.lt_succ_self _, x44, hLL7, q2b, q1f, q1g, q22, rfl, ((hS.pull 1).pull 1)⟩
    ·replace hFL7 := it_f hc31 hFL7
     refine x_exitTo _ rfl <| ?_
     have e_ := Option.some.inj (show some _ = some _ from hFL7); subst e_
     exact x_inv ⟨hLL7, q2b, q1f, q1g, ((hS.pull 1).pull 1)⟩
   rintro E w ⟨rfl, q3g, q3h, q3i, hS⟩
   refine x_seq <| x_region <| ?_
   refine o_alloc zero_79 hS (fun b6 w' hS => ?_)
   refine x_done <| x_seq <| x_seq <| x_region <|
    p (yl_assign rfl) <| x_done <| ?_
   replace hF := bd_s hF; obtain ⟨oL14, hLL14, hF⟩ := hF
   refine x_join (fun E w => ∃ (q1h : Heap) (q0y : Option Addr) (q0z : Nat) (c_b6_1_L14 : Nat) (q1b : Bool) (q1c : List Int), (q1b, q1c) = oL14 ∧ Le ρ q1h ∧ E 0 = .string s0 ∧ E 2 = .pointer (some ⟨b2, 0, none⟩) ∧ E 4 = .string q0a ∧ E 6 = .pointer (some ⟨b6, 0, none⟩) ∧ RdS (RpI .u32) q1h q0y q0z c_b6_1_L14 q1c ∧ St w0 w (cells b2 79 [.bool false, .slice none 0 0] :: cells b6 79 [.bool q1b, .slice q0y q0z c_b6_1_L14] :: ro q1h :: l)) ?_ ?_
   ·refine x_block ?_
    refine x_loop (fun k_ E w => ∃ (q2 : Heap) (q4 : Option Addr) (q0r : Nat) (c_b6_1_L14h : Nat) (q0i : Int) (q7 : Bool) (q6 : List Int), lp (P_exact_Read_L14 q0a) k_ (q0i, q7, q6) = some oL14 ∧ Le ρ q2 ∧ E 0 = .string s0 ∧ E 2 = .pointer (some ⟨b2, 0, none⟩) ∧ E 4 = .string q0a ∧ E 6 = .pointer (some ⟨b6, 0, none⟩) ∧ E 7 = .int .i64 q0i ∧ RdS (RpI .u32) q2 q4 q0r c_b6_1_L14h q6 ∧ St w0 w (cells b2 79 [.bool false, .slice none 0 0] :: cells b6 79 [.bool q7, .slice q4 q0r c_b6_1_L14h] :: ro q2 :: l)) fuel ⟨ρ, none, 0, 0, 0, false, [], hLL14, (Le.refl _), q3g, q3h, q3i, rfl, rfl, (RdS.nil (A := none) (c := 0)), (((hS.pull 2).pull 1).pull 2)⟩ ?_
    rintro kL14 E w ⟨q2, q4, q0r, c_b6_1_L14h, q0i, q7, q6, hLL14, q1u, q1p, q1q, q0n, q1r, q0u, q0s, hS⟩
    have e_ := q0s.n; subst e_
    replace hLL14 := lp_s hLL14; obtain ⟨kL14, obL14, rfl, hFL14, hLL14⟩ := hLL14
    refine x_seq <| x_seq <| x_region <| p (yl_move q0u) <|
     p (v := .string q0a) (yl_move q0n) <| p (yl_len_string us_9 rfl) <| p (yl_lss rfl rfl) <| x_done <|
     x_cond_p (q0i < (q0a.size : Int)) rfl (fun hc48 => ?_) (fun hc48 => ?_)
    ·replace hFL14 := it_t hc48 hFL14
     replace hFL14 := ar_s hFL14; obtain ⟨x50, hx50, hFL14⟩ := hFL14
     replace hFL14 := ck_s hFL14; obtain ⟨q2o, hFL14⟩ := hFL14
     replace hFL14 := lv_s hFL14; obtain ⟨x56, hx56, hFL14⟩ := hFL14
     replace hFL14 := lv_s hFL14; obtain ⟨x58, hx58, hFL14⟩ := hFL14
     refine x_skip <| x_block <| x_seq <| x_region <|
      p (yl_move q0u) <| p (yadd rfl rfl hx50) <| p (yl_assign rfl) <| p (yl_assign rfl) <|
      x_done <| x_seq <| x_seq <| x_region <|
      p (yl_move q0u) <| p (yl_eql rfl rfl) <| p (yl_move rfl) <| pg (v := .string q0a) 53 (c := decide (q0i = 0)) (says_t _) (fun hq => Yl.at (yl_move q0n)) <|
      pg (v := .int .i64 (q0a.size : Int)) 53 (c := decide (q0i = 0)) (says_t _) (fun hq => Yl.at (yl_len_string us_9 (cv hq))) <| pg (v := .int .i64 x56) 53 (c := decide (q0i = 0)) (says_t _) (fun hq => Yl.at (yrem (cv hq) rfl (q2o hq) hx56)) <| pg (v := .bool (decide (0 < x56))) 53 (c := decide (q0i = 0)) (says_t _) (fun hq => Yl.at (yl_gtr (cv hq) rfl)) <| p (yand' rfl (fun hc => (cv hc)) rfl hx58) <|
      x_done <| ?_
     replace hFL14 := bd_s hFL14; obtain ⟨oc58, hFc58, hFL14⟩ := hFL14
     refine x_join (fun E w => ∃ (q0k : Int), q0k = oc58 ∧ E 0 = .string s0 ∧ E 2 = .pointer (some ⟨b2, 0, none⟩) ∧ E 4 = .string q0a ∧ E 6 = .pointer (some ⟨b6, 0, none⟩) ∧ E 7 = .int .i64 q0i ∧ E 8 = .int .u32 0 ∧ E 9 = .int .i64 q0k ∧ St w0 w (cells b2 79 [.bool false, .slice none 0 0] :: cells b6 79 [.bool q7, .slice q4 q6.length c_b6_1_L14h] :: ro q2 :: l)) ?_ ?_
     ·refine x_cond (t := x58) rfl (fun hc58 => ?_) (fun hc58 => ?_)
      ·replace hFc58 := it_t hc58 hFc58
       replace hFc58 := ck_s hFc58; obtain ⟨q2p, hFc58⟩ := hFc58
       replace hFc58 := lv_s hFc58; obtain ⟨x61, hx61, hFc58⟩ := hFc58
       refine x_region <| p (v := .string q0a) (yl_move q0n) <| p (yl_len_string us_9 rfl) <| p (yrem rfl rfl q2p hx61) <|
        p (yl_assign rfl) <| x_done <| ?_
       exact x_inv ⟨x61, (Option.some.inj (show some _ = some _ from hFc58)), q1p, q1q, q0n, q1r, q0u, rfl, rfl, (((hS.pull 2).pull 2).pull 2)⟩
      ·replace hFc58 := it_bf hc58 hFc58
       refine x_skip <| ?_
       exact x_inv ⟨x50, (Option.some.inj (show some _ = some _ from hFc58)), q1p, q1q, q0n, q1r, q0u, rfl, rfl, (((hS.pull 2).pull 2).pull 2)⟩
     rintro E w ⟨q0k, rfl, q2q, q2r, q2s, q2t, q2u, q2v, q2w, hS⟩
     refine x_seq <| ?_
     replace hFL14 := bd_s hFL14; obtain ⟨oL18, hLL18, hFL14⟩ := hFL14
     refine x_join (fun E w => ∃ (q1i : Int) (q0v : Int), (q1i, q0v) = oL18 ∧ E 0 = .string s0 ∧ E 2 = .pointer (some ⟨b2, 0, none⟩) ∧ E 4 = .string q0a ∧ E 6 = .pointer (some ⟨b6, 0, none⟩) ∧ E 7 = .int .i64 q1i ∧ E 8 = .int .u32 q0v ∧ St w0 w (cells b2 79 [.bool false, .slice none 0 0] :: cells b6 79 [.bool q7, .slice q4 q6.length c_b6_1_L14h] :: ro q2 :: l)) ?_ ?_
     ·refine x_block ?_
      refine x_loop (fun k_ E w => ∃ (q0w : Int) (q13 : Int), lp (P_exact_Read_L18 q0a q0k) k_ (q0w, q13) = some oL18 ∧ E 0 = .string s0 ∧ E 2 = .pointer (some ⟨b2, 0, none⟩) ∧ E 4 = .string q0a ∧ E 6 = .pointer (some ⟨b6, 0, none⟩) ∧ E 7 = .int .i64 q0w ∧ E 8 = .int .u32 q13 ∧ E 9 = .int .i64 q0k ∧ St w0 w (cells b2 79 [.bool false, .slice none 0 0] :: cells b6 79 [.bool q7, .slice q4 q6.length c_b6_1_L14h] :: ro q2 :: l)) fuel ⟨q0i, 0, hLL18, q2q, q2r, q2s, q2t, q2u, q2v, q2w, (((hS.pull 2).pull 2).pull 2)⟩ ?_
      rintro kL18 E w ⟨q0w, q13, hLL18, q23, q24, q1s, q25, q14, q26, q27, hS⟩
      replace hLL18 := lp_s hLL18; obtain ⟨kL18, obL18, rfl, hFL18, hLL18⟩ := hLL18
      refine x_seq <| x_seq <| x_region <| p (yl_move q14) <|
       p (yl_move q27) <| p (yl_lss rfl rfl) <| x_done <|
       x_cond_p (q0w < q0k) rfl (fun hc64 => ?_) (fun hc64 => ?_)
      ·replace hFL18 := it_t hc64 hFL18
       replace hFL18 := lv_s hFL18; obtain ⟨x68, hx68, hFL18⟩ := hFL18
       replace hFL18 := ck_s hFL18; obtain ⟨q2x, hFL18⟩ := hFL18
       replace hFL18 := lv_s hFL18; obtain ⟨x71, hx71, hFL18⟩ := hFL18
       replace hFL18 := lv_s hFL18; obtain ⟨x72, hx72, hFL18⟩ := hFL18
       replace hFL18 := lv_s hFL18; obtain ⟨x73, hx73, hFL18⟩ := hFL18
       replace hFL18 := lv_s hFL18; obtain ⟨x74, hx74, hFL18⟩ := hFL18
       replace hFL18 := ar_s hFL18; obtain ⟨x66, hx66, hFL18⟩ := hFL18
       refine x_skip <| x_seq <| x_block <| x_region <|
        p (yl_move q26) <| p (ymulu wm_u32 rfl rfl hx68) <| p (v := .string q0a) (yl_move q1s) <| p (yl_move q14) <|
        p (ystr us_9 rfl rfl q2x hx71) <| p (ysubu wm_u8 rfl rfl hx72) <| p (yconvu wm_u32 uk_5 ik_159 rfl hx73) <| p (yaddu wm_u32 rfl rfl hx74) <|
        p (yl_assign rfl) <| x_done <| x_blk <| x_region <|
        p (yl_move q14) <| p (yadd rfl rfl hx66) <| p (yl_assign rfl) <| x_done <| ?_
       have e_ := Option.some.inj (show some _ = some _ from hFL18); subst e_
       exact x_inv ⟨kL18, Nat.lt_succ_self _, x66, x74, hLL18, q23, q24, q1s, q25, rfl, rfl, q27, (((hS.pull 2).pull 2).pull 2)⟩
      ·replace hFL18 := it_f hc64 hFL18
       refine x_exitTo _ rfl <| ?_
       have e_ := Option.some.inj (show some _ = some _ from hFL18); subst e_
       exact x_inv ⟨q0w, q13, hLL18, q23, q24, q1s, q25, q14, q26, (((hS.pull 2).pull 2).pull 2)⟩
     rintro E w ⟨q1i, q0v, rfl, q2y, q2z, q30, q1x, q31, q32, hS⟩
     replace hFL14 := bd_s hFL14; obtain ⟨q8, q33, hFL14⟩ := hFL14
     replace hFL14 := bd_s hFL14; obtain ⟨q0g, q34, hFL14⟩ := hFL14
     replace hFL14 := ar_s hFL14; obtain ⟨x79, hx79, hFL14⟩ := hFL14
     replace hFL14 := bd_s hFL14; obtain ⟨q0h, q35, hFL14⟩ := hFL14
     replace hFL14 := bd_s hFL14; obtain ⟨q0d, q36, hFL14⟩ := hFL14
     refine x_par (w0 := w0) [⟨[], [], [75], [0], [], []⟩, ⟨[], [], [76], [1], [], [2]⟩, ⟨[0, 1], [0, 1], [77], [1], [2], [3]⟩, ⟨[], [], [78], [], [], []⟩, ⟨[3], [3], [79], [], [], []⟩, ⟨[0, 1, 2, 3, 4], [4], [80], [1], [], [4]⟩, ⟨[0, 1, 2, 3, 4, 5], [1, 2, 5], [81], [1], [3, 4], [5]⟩, ⟨[0, 1, 2, 3, 4, 5, 6], [6], [], [], [0], [6]⟩] [⟨none, (some 7), []⟩, ⟨none, none, []⟩, ⟨(some 1), (some 2), [76]⟩, ⟨(some 2), (some 6), [76, 77]⟩, ⟨(some 5), (some 6), [80]⟩, ⟨(some 6), none, [76, 77, 80, 81]⟩, ⟨(some 7), none, [81]⟩] [75, 76, 77, 78, 79, 80, 81] [0, 1] [1, 5, 6] [0, 1, 2, 3, 4, 5, 6] [fun Ep21 => Ep21 75 = .agg #[.bool q7, .slice q4 q6.length c_b6_1_L14h], fun Ep21 => Ep21 76 = .agg #[.bool q8.fneg, .slice (adOf (partOf 1 (Ep21 76))) q8.fmag.length (capOf (partOf 1 (Ep21 76)))], fun Ep21 => Ep21 77 = .agg #[.bool q0g.fneg, .slice (adOf (partOf 1 (Ep21 77))) q0g.fmag.length (capOf (partOf 1 (Ep21 77)))], fun Ep21 => Ep21 78 = .int .u32 q0v, fun Ep21 => Ep21 79 = .int .i64 x79, fun Ep21 => Ep21 80 = .agg #[.bool q0h.fneg, .slice (adOf (partOf 1 (Ep21 80))) q0h.fmag.length (capOf (partOf 1 (Ep21 80)))], fun Ep21 => Ep21 81 = .agg #[.bool q0d.fneg, .slice (adOf (partOf 1 (Ep21 81))) q0d.fmag.length (capOf (partOf 1 (Ep21 81)))], fun Ep21 => True] [fun Ep21 => cells b6 79 [.bool q7, .slice q4 q6.length c_b6_1_L14h], fun Ep21 => ro q2, fun Ep21 => bunA (fun (q0b : Heap) => Le q2 q0b ∧ RdS (RpI .u32) q0b (adOf (partOf 1 (Ep21 76))) q8.fmag.length (capOf (partOf 1 (Ep21 76))) q8.fmag) (fun (q0b : Heap) => [roD q2 q0b]), fun Ep21 => bunA (fun (q5 : Heap) => Le q2 q5 ∧ RdS (RpI .u32) q5 (adOf (partOf 1 (Ep21 76))) q8.fmag.length (capOf (partOf 1 (Ep21 76))) q8.fmag ∧ RdS (RpI .u32) q5 (adOf (partOf 1 (Ep21 77))) q0g.fmag.length (capOf (partOf 1 (Ep21 77))) q0g.fmag) (fun (q5 : Heap) => [roD q2 q5]), fun Ep21 => bunA (fun (q0c : Heap) => Le q2 q0c ∧ RdS (RpI .u32) q0c (adOf (partOf 1 (Ep21 80))) q0h.fmag.length (capOf (partOf 1 (Ep21 80))) q0h.fmag) (fun (q0c : Heap) => [roD q2 q0c]), fun Ep21 => bunA (fun (q3 : Heap) => Le q2 q3 ∧ RdS (RpI .u32) q3 (adOf (partOf 1 (Ep21 76))) q8.fmag.length (capOf (partOf 1 (Ep21 76))) q8.fmag ∧ RdS (RpI .u32) q3 (adOf (partOf 1 (Ep21 77))) q0g.fmag.length (capOf (partOf 1 (Ep21 77))) q0g.fmag ∧ RdS (RpI .u32) q3 (adOf (partOf 1 (Ep21 80))) q0h.fmag.length (capOf (partOf 1 (Ep21 80))) q0h.fmag ∧ RdS (RpI .u32) q3 (adOf (partOf 1 (Ep21 81))) q0d.fmag.length (capOf (partOf 1 (Ep21 81))) q0d.fmag) (fun (q3 : Heap) => [roD q2 q3]), fun Ep21 => cells b6 79 [.bool q0d.fneg, .slice (adOf (partOf 1 (Ep21 81))) q0d.fmag.length (capOf (partOf 1 (Ep21 81)))]] mixed (by kernel_rfl) ((hS.pull 2).pull 2) ?_ ?_
     ·refine ⟨?_, ?_, ?_, ?_, ?_, ?_, ?_, ?_, trivial⟩
      ·intro Ep21 w l' hE21 hO21 hF_ hS
       replace hS : St w0 w (cells b6 79 [.bool q7, .slice q4 q6.length c_b6_1_L14h] :: l') := Eq.mp (by kernel_rfl) hS
       refine pa (v := .agg #[.bool q7, .slice q4 q6.length c_b6_1_L14h]) (ld_sub agg_79 ((hE21 6 rfl).trans q1x) rfl rfl hS) <| x_done <| ?_
       refine x_fin ⟨⟨_, rfl⟩, rfl, ?_⟩
       exact Eq.mp (by kernel_rfl) hS
      ·intro Ep21 w l' hE21 hO21 hF_ hS
       replace hS : St w0 w (ro q2 :: l') := Eq.mp (by kernel_rfl) hS
       have hcall := c_exact_Of q33  hS
       refine o_cc call_51 (args1 rfl) hcall ?_
       rintro e w' ⟨q0b, q1j, q2g, c_y0_ret_1_21_1, rfl, q28, q9, hS⟩
       refine ⟨_, rfl, ?_⟩
       have e_ := q9.n; subst e_
       refine x_done <| ?_
       refine x_fin ⟨⟨_, rfl⟩, rfl, ?_⟩
       replace hS := St.ro_split q28 hS
       replace hS := St.bun (Φ := (fun (q0b : Heap) => Le q2 q0b ∧ RdS (RpI .u32) q0b q1j q8.fmag.length c_y0_ret_1_21_1 q8.fmag)) (L := (fun (q0b : Heap) => [roD q2 q0b])) q0b ⟨q28, q9⟩ (hS.pull 1)
       exact Eq.mp (by kernel_rfl) (hS.pull 1)
      ·intro Ep21 w l' hE21 hO21 hF_ hS
       obtain ⟨q15, q0m, -⟩ := hF_
       replace q15 : Ep21 75 = .agg #[.bool q7, .slice q4 q6.length c_b6_1_L14h] := Eq.mp (by kernel_rfl) q15
       replace q0m : Ep21 76 = .agg #[.bool q8.fneg, .slice (adOf (partOf 1 (Ep21 76))) q8.fmag.length (capOf (partOf 1 (Ep21 76)))] := Eq.mp (by kernel_rfl) q0m
       replace hS : St w0 w (ro q2 :: bunA (fun (q0b : Heap) => Le q2 q0b ∧ RdS (RpI .u32) q0b (adOf (partOf 1 (Ep21 76))) q8.fmag.length (capOf (partOf 1 (Ep21 76))) q8.fmag) (fun (q0b : Heap) => [roD q2 q0b]) :: l') := Eq.mp (by kernel_rfl) hS
       have q_ := St.unbun (hS.pull 1); obtain ⟨q0b, ⟨q1y, q9⟩, hS⟩ := q_
       have q_ := St.ro_join (hS.pull 1) (Le.refl _) q1y; obtain ⟨q3n, q10, q1v, hS, q3j⟩ := q_
       have hcall := c_exact_times q34 (q0s.le q10) (q9.le q1v) hS
       refine o_cc call_89 (args2 q15 q0m) hcall ?_
       rintro e w' ⟨q5, q1k, q2h, c_y0_ret_1_21_2, rfl, q1t, q0e, hS⟩
       refine ⟨_, rfl, ?_⟩
       have e_ := q0e.n; subst e_
       refine x_done <| ?_
       refine x_fin ⟨⟨_, rfl⟩, rfl, ?_⟩
       replace hS := St.ro_split (q10.trans q1t) hS
       replace hS := St.bun (Φ := (fun (q5 : Heap) => Le q2 q5 ∧ RdS (RpI .u32) q5 (adOf (partOf 1 (Ep21 76))) q8.fmag.length (capOf (partOf 1 (Ep21 76))) q8.fmag ∧ RdS (RpI .u32) q5 q1k q0g.fmag.length c_y0_ret_1_21_2 q0g.fmag)) (L := (fun (q5 : Heap) => [roD q2 q5])) q5 ⟨(q10.trans q1t), (q9.le (q1v.trans q1t)), q0e⟩ (hS.pull 1)
       exact Eq.mp (by kernel_rfl) (hS.pull 1)
      ·intro Ep21 w l' hE21 hO21 hF_ hS
       refine p (yl_move ((hE21 8 rfl).trans q32)) <| x_done <| ?_
       refine x_fin ⟨⟨_, rfl⟩, rfl, ?_⟩
       exact Eq.mp (by kernel_rfl) hS
      ·intro Ep21 w l' hE21 hO21 hF_ hS
       obtain ⟨q16, -⟩ := hF_
       replace q16 : Ep21 78 = .int .u32 q0v := Eq.mp (by kernel_rfl) q16
       refine p (yconvi uk_159 ik_2 q16 hx79) <| x_done <| ?_
       refine x_fin ⟨⟨_, rfl⟩, rfl, ?_⟩
       exact Eq.mp (by kernel_rfl) hS
      ·intro Ep21 w l' hE21 hO21 hF_ hS
       obtain ⟨q17, -⟩ := hF_
       replace q17 : Ep21 79 = .int .i64 x79 := Eq.mp (by kernel_rfl) q17
       replace hS : St w0 w (ro q2 :: l') := Eq.mp (by kernel_rfl) hS
       have hcall := c_exact_Of q35  hS
       refine o_cc call_51 (args1 q17) hcall ?_
       rintro e w' ⟨q0c, q1l, q2i, c_y0_ret_1_21_5, rfl, q29, q0f, hS⟩
       refine ⟨_, rfl, ?_⟩
       have e_ := q0f.n; subst e_
       refine x_done <| ?_
       refine x_fin ⟨⟨_, rfl⟩, rfl, ?_⟩
       replace hS := St.ro_split q29 hS
       replace hS := St.bun (Φ := (fun (q0c : Heap) => Le q2 q0c ∧ RdS (RpI .u32) q0c q1l q0h.fmag.length c_y0_ret_1_21_5 q0h.fmag)) (L := (fun (q0c : Heap) => [roD q2 q0c])) q0c ⟨q29, q0f⟩ (hS.pull 1)
       exact Eq.mp (by kernel_rfl) (hS.pull 1)
      ·intro Ep21 w l' hE21 hO21 hF_ hS
       obtain ⟨q0m, q18, q19, -⟩ := hF_
       replace q0m : Ep21 76 = .agg #[.bool q8.fneg, .slice (adOf (partOf 1 (Ep21 76))) q8.fmag.length (capOf (partOf 1 (Ep21 76)))] := Eq.mp (by kernel_rfl) q0m
       replace q18 : Ep21 77 = .agg #[.bool q0g.fneg, .slice (adOf (partOf 1 (Ep21 77))) q0g.fmag.length (capOf (partOf 1 (Ep21 77)))] := Eq.mp (by kernel_rfl) q18
       replace q19 : Ep21 80 = .agg #[.bool q0h.fneg, .slice (adOf (partOf 1 (Ep21 80))) q0h.fmag.length (capOf (partOf 1 (Ep21 80)))] := Eq.mp (by kernel_rfl) q19
       replace hS : St w0 w (ro q2 :: bunA (fun (q5 : Heap) => Le q2 q5 ∧ RdS (RpI .u32) q5 (adOf (partOf 1 (Ep21 76))) q8.fmag.length (capOf (partOf 1 (Ep21 76))) q8.fmag ∧ RdS (RpI .u32) q5 (adOf (partOf 1 (Ep21 77))) q0g.fmag.length (capOf (partOf 1 (Ep21 77))) q0g.fmag) (fun (q5 : Heap) => [roD q2 q5]) :: bunA (fun (q0c : Heap) => Le q2 q0c ∧ RdS (RpI .u32) q0c (adOf (partOf 1 (Ep21 80))) q0h.fmag.length (capOf (partOf 1 (Ep21 80))) q0h.fmag) (fun (q0c : Heap) => [roD q2 q0c]) :: l') := Eq.mp (by kernel_rfl) hS
       have q_ := St.unbun (hS.pull 1); obtain ⟨q5, ⟨q1z, q9, q0e⟩, hS⟩ := q_
       have q_ := St.ro_join (hS.pull 1) (Le.refl _) q1z; obtain ⟨q3o, q11, q12, hS, q3k⟩ := q_
       have q_ := St.unbun (hS.pull 1); obtain ⟨q0c, ⟨q20, q0f⟩, hS⟩ := q_
       have q_ := St.ro_join (hS.pull 1) q11 q20; obtain ⟨q3p, q0l, q1w, hS, q3l⟩ := q_
       have hcall := c_exact_plus q36 (q0e.le (q12.trans q0l)) (q0f.le q1w) hS
       refine o_cc call_96 (args2 q18 q19) hcall ?_
       rintro e w' ⟨q3, q1m, q2j, c_y0_ret_1_21_6, rfl, q0x, q0j, hS⟩
       refine ⟨_, rfl, ?_⟩
       have e_ := q0j.n; subst e_
       refine x_done <| ?_
       refine x_fin ⟨⟨_, rfl⟩, rfl, ?_⟩
       replace hS := St.ro_split ((q11.trans q0l).trans q0x) hS
       replace hS := St.bun (Φ := (fun (q3 : Heap) => Le q2 q3 ∧ RdS (RpI .u32) q3 (adOf (partOf 1 (Ep21 76))) q8.fmag.length (capOf (partOf 1 (Ep21 76))) q8.fmag ∧ RdS (RpI .u32) q3 (adOf (partOf 1 (Ep21 77))) q0g.fmag.length (capOf (partOf 1 (Ep21 77))) q0g.fmag ∧ RdS (RpI .u32) q3 (adOf (partOf 1 (Ep21 80))) q0h.fmag.length (capOf (partOf 1 (Ep21 80))) q0h.fmag ∧ RdS (RpI .u32) q3 q1m q0d.fmag.length c_y0_ret_1_21_6 q0d.fmag)) (L := (fun (q3 : Heap) => [roD q2 q3])) q3 ⟨((q11.trans q0l).trans q0x), (q9.le ((q12.trans q0l).trans q0x)), (q0e.le ((q12.trans q0l).trans q0x)), (q0f.le (q1w.trans q0x)), q0j⟩ (hS.pull 1)
       exact Eq.mp (by kernel_rfl) (hS.pull 1)
      ·intro Ep21 w l' hE21 hO21 hF_ hS
       obtain ⟨q1a, -⟩ := hF_
       replace q1a : Ep21 81 = .agg #[.bool q0d.fneg, .slice (adOf (partOf 1 (Ep21 81))) q0d.fmag.length (capOf (partOf 1 (Ep21 81)))] := Eq.mp (by kernel_rfl) q1a
       replace hS : St w0 w (cells b6 79 [.bool q7, .slice q4 q6.length c_b6_1_L14h] :: l') := Eq.mp (by kernel_rfl) hS
       refine o_storeAgg (news := [.bool q0d.fneg, .slice (adOf (partOf 1 (Ep21 81))) q0d.fmag.length (capOf (partOf 1 (Ep21 81)))]) agg_79 ((hE21 6 rfl).trans q1x) q1a rfl (by simp [over_length]) hS (fun w' hS => ?_)
       refine x_done <| ?_
       refine x_fin ⟨⟨undef, rfl⟩, trivial, ?_⟩
       exact Eq.mp (by kernel_rfl) hS
     intro Ep21 w' hE21 hF_ hS
     obtain ⟨q15, q0m, q18, q16, q17, q19, q1a, -⟩ := hF_
     replace q15 : Ep21 75 = .agg #[.bool q7, .slice q4 q6.length c_b6_1_L14h] := Eq.mp (by kernel_rfl) q15
     replace q0m : Ep21 76 = .agg #[.bool q8.fneg, .slice (adOf (partOf 1 (Ep21 76))) q8.fmag.length (capOf (partOf 1 (Ep21 76)))] := Eq.mp (by kernel_rfl) q0m
     replace q18 : Ep21 77 = .agg #[.bool q0g.fneg, .slice (adOf (partOf 1 (Ep21 77))) q0g.fmag.length (capOf (partOf 1 (Ep21 77)))] := Eq.mp (by kernel_rfl) q18
     replace q16 : Ep21 78 = .int .u32 q0v := Eq.mp (by kernel_rfl) q16
     replace q17 : Ep21 79 = .int .i64 x79 := Eq.mp (by kernel_rfl) q17
     replace q19 : Ep21 80 = .agg #[.bool q0h.fneg, .slice (adOf (partOf 1 (Ep21 80))) q0h.fmag.length (capOf (partOf 1 (Ep21 80)))] := Eq.mp (by kernel_rfl) q19
     replace q1a : Ep21 81 = .agg #[.bool q0d.fneg, .slice (adOf (partOf 1 (Ep21 81))) q0d.fmag.length (capOf (partOf 1 (Ep21 81)))] := Eq.mp (by kernel_rfl) q1a
     replace hS : St w0 w' (ro q2 :: bunA (fun (q3 : Heap) => Le q2 q3 ∧ RdS (RpI .u32) q3 (adOf (partOf 1 (Ep21 76))) q8.fmag.length (capOf (partOf 1 (Ep21 76))) q8.fmag ∧ RdS (RpI .u32) q3 (adOf (partOf 1 (Ep21 77))) q0g.fmag.length (capOf (partOf 1 (Ep21 77))) q0g.fmag ∧ RdS (RpI .u32) q3 (adOf (partOf 1 (Ep21 80))) q0h.fmag.length (capOf (partOf 1 (Ep21 80))) q0h.fmag ∧ RdS (RpI .u32) q3 (adOf (partOf 1 (Ep21 81))) q0d.fmag.length (capOf (partOf 1 (Ep21 81))) q0d.fmag) (fun (q3 : Heap) => [roD q2 q3]) :: cells b6 79 [.bool q0d.fneg, .slice (adOf (partOf 1 (Ep21 81))) q0d.fmag.length (capOf (partOf 1 (Ep21 81)))] :: (cells b2 79 [.bool false, .slice none 0 0] :: l)) := Eq.mp (by kernel_rfl) hS
     have q_ := St.unbun (hS.pull 1); obtain ⟨q3, ⟨q21, q9, q0e, q0f, q0j⟩, hS⟩ := q_
     have q_ := St.ro_join (hS.pull 1) (Le.refl _) q21; obtain ⟨q2n, q2d, q2e, hS, q3m⟩ := q_
     refine x_blk <| ?_
     have e_ := Option.some.inj (show some _ = some _ from hFL14); subst e_
     exact x_inv ⟨kL14, Nat.lt_succ_self _, q2n, (adOf (partOf 1 (Ep21 81))), q0d.fmag.length, (capOf (partOf 1 (Ep21 81))), q1i, q0d.fneg, q0d.fmag, hLL14, (q1u.trans q2d), ((hE21 0 rfl).trans q2y), ((hE21 2 rfl).trans q2z), ((hE21 4 rfl).trans q30), ((hE21 6 rfl).trans q1x), ((hE21 7 rfl).trans q31), (q0j.le q2e), ((hS.pull 1).pull 2)⟩
    ·replace hFL14 := it_f hc48 hFL14
     refine x_exitTo _ rfl <| ?_
     have e_ := Option.some.inj (show some _ = some _ from hFL14); subst e_
     exact x_inv ⟨q2, q4, q6.length, c_b6_1_L14h, q7, q6, hLL14, q1u, q1p, q1q, q0n, q1r, q0s, (((hS.pull 2).pull 2).pull 2)⟩
   rintro E w ⟨q1h, q0y, q0z, c_b6_1_L14, q1b, q1c, rfl, q2f, q37, q2c, q38, q39, q1n, hS⟩
   have e_ := q1n.n; subst e_
   replace hF := bd_s hF; obtain ⟨q3q, q3a, hF⟩ := hF
   refine x_seq <| x_region <| p (v := .string q0a) (yl_move q38) <| p (yl_len_string us_9 rfl) <|
    p (yl_move q37) <| p (yl_len_string us_9 rfl) <| p (yl_lss rfl rfl) <| p (yl_field0 fld_79_1 q39) <|
    pa (at_load one_77 rfl ((hS.pull 1).cell rfl)) <| ?_
   have hcall := c_exact_made q3a q1n (hS.pull 2)
   refine o_cc call_93 (args2 rfl rfl) hcall ?_
   rintro e w' ⟨q2k, q2l, c_y0_ret_1_22_7, rfl, q0o, hS⟩
   refine ⟨_, rfl, ?_⟩
   have e_ := q0o.n; subst e_
   replace hF := bd_s hF; obtain ⟨q2a, q3b, hF⟩ := hF
   have hcall := c_exact_fit q3b q0o hS
   refine o_cc call_88 (args1 rfl) hcall ?_
   rintro e w' ⟨q0p, q2m, c_y0_ret_1_22_8, rfl, q0q, hS⟩
   refine ⟨_, rfl, ?_⟩
   have e_ := q0q.n; subst e_
   refine p (yl_extract rfl rfl) <| p (yl_extract rfl rfl) <| ?_
   refine o_storeAgg (news := [.bool q2a.1.fneg, .slice q0p q2a.1.fmag.length c_y0_ret_1_22_8]) agg_79 q2c rfl rfl (by simp [over_length]) (hS.pull 1) (fun w' hS => ?_)
   refine p (yl_assign rfl) <| x_done <| ?_
   have e_ := Option.some.inj (show some _ = some _ from hF); subst e_
   exact x_return ⟨_, ⟨_, _, _, rfl, q2c, ldvA agg_79 rfl (fun j v hj => by rw [add0]; exact St.cell hS hj), _, _, rfl, rfl, rfl⟩, q1h, q0p, q2a.1.fmag.length, c_y0_ret_1_22_8, rfl, q2f, q0q, ((hS.drop.pull 1).drop)⟩
attribute [irreducible] P_exact_Read

def P_exact_CheckMatrix_L11 (q3 : List Int) : Int → Option (Int ⊕ (Unit ⊕ Int)) := fun q2 =>
 if q2 < (q3.length : Int) then
  ck (inb q2 q3.length) <|
  lv (gt q3 q2) fun x31 =>
  lv ((decide (x31 < (-1099511627776))) || (decide (1099511627776 < x31))) fun x37 =>
  if x37 = true then
   some (Sum.inr (Sum.inr (2 : Int)))
  else
   ar (q2 + 1) fun x38 =>
   some (Sum.inl x38)
 else
  some (Sum.inr (Sum.inl ()))
def P_exact_CheckMatrix_L4 (a0 : List (List Int)) : Int → Option (Int ⊕ (Unit ⊕ Int)) := fun q2 =>
 if q2 < (a0.length : Int) then
  ck (inb q2 a0.length) <|
  lv (gt a0 q2) fun q3 =>
  if 48 < (q3.length : Int) then
   some (Sum.inr (Sum.inr (3 : Int)))
  else
   ck (inb 0 a0.length) <|
   lv (gt a0 (0 : Int)) fun q4 =>
   if (q3.length : Int) ≠ (q4.length : Int) then
    some (Sum.inr (Sum.inr (4 : Int)))
   else
    bs (
     lp (P_exact_CheckMatrix_L11 q3) fuel 0) (fun y => some (Sum.inr (Sum.inr y))) fun _ =>
    ar (q2 + 1) fun x39 =>
    some (Sum.inl x39)
 else
  some (Sum.inr (Sum.inl ()))
def P_exact_CheckMatrix (a0 : List (List Int)) : Option Int :=
 if 48 < (a0.length : Int) then
  some (3 : Int)
 else
  bs (
   lp (P_exact_CheckMatrix_L4 a0) fuel 0) (fun y => some y) fun _ =>
  some (0 : Int)
set_option maxHeartbeats 4000000 in
set_option maxRecDepth 100000 in
theorem c_exact_CheckMatrix {w0 w : World} {l : List Assn} {ρ : Heap} {q4 : Option Addr} {q0r : Nat} {c_a0 : Nat} {a0 : List (List Int)} {r : Int} (hF : P_exact_CheckMatrix a0 = some r) (q8 : RdS (RpSl (RpI .i64)) ρ q4 q0r c_a0 a0) (hS : St w0 w (ro ρ :: l)) :
  Calls Try.prog 92 #[.slice q4 q0r c_a0] w fun e w' => e = .returned (.int .i64 r) ∧ St w0 w' (ro ρ :: l) := by
 have e_ := q8.n; subst e_
 refine enterC Try.func92 rfl 40 rfl (by simp) ?_
 refine x_seq <| x_region <| p (yl_assign rfl) <| x_done <|
  x_seq <| x_seq <| x_region <| p (yl_move rfl) <|
  p (yl_len_slice usl_75 rfl) <| p (yl_gtr rfl rfl) <| x_done <|
  x_cond_p (48 < (a0.length : Int)) rfl (fun hc9 => ?_) (fun hc9 => ?_)
 ·replace hF := it_t hc9 hF
  refine x_seq <| x_region <| p (yl_assign rfl) <| x_done <| ?_
  have e_ := Option.some.inj (show some _ = some _ from hF); subst e_
  exact x_return ⟨_, ⟨_, _, rfl, rfl, rfl⟩, rfl, hS⟩
 ·replace hF := it_f hc9 hF
  refine x_skip <| x_seq <| x_seq <| x_region <|
   p (yl_move rfl) <| p (yl_len_slice usl_75 rfl) <| p (yl_move rfl) <| x_done <| ?_
  replace hF := bs_s hF; obtain ⟨oL4, hLL4, hF⟩ := hF
  refine x_join (fun E w => (Sum.inl (())) = oL4 ∧ St w0 w (ro ρ :: l)) ?_ ?_
  ·refine x_block ?_
   refine x_loop (fun k_ E w => ∃ (q2 : Int), lp (P_exact_CheckMatrix_L4 a0) k_ q2 = some oL4 ∧ E 0 = .slice q4 a0.length c_a0 ∧ E 10 = .slice q4 a0.length c_a0 ∧ E 11 = .int .i64 (a0.length : Int) ∧ E 12 = .int .i64 q2 ∧ St w0 w (ro ρ :: l)) fuel ⟨0, hLL4, rfl, rfl, rfl, rfl, hS⟩ ?_
   rintro kL4 E w ⟨q2, hLL4, q0h, q0e, q0f, q6, hS⟩
   replace hLL4 := lp_s hLL4; obtain ⟨kL4, obL4, rfl, hFL4, hLL4⟩ := hLL4
   refine x_seq <| x_region <| p (yl_lss q6 q0f) <| x_done <|
    x_seq <|
    x_cond_p (q2 < (a0.length : Int)) rfl (fun hc13 => ?_) (fun hc13 => ?_)
   ·replace hFL4 := it_t hc13 hFL4
    replace hFL4 := ck_s hFL4; obtain ⟨q0k, hFL4⟩ := hFL4
    replace hFL4 := lv_s hFL4; obtain ⟨q7, q0t, hFL4⟩ := hFL4
    have q_ := q8.get q0k; obtain ⟨q11, q0l, q0u⟩ := q_
    rw [← q0t] at q0l
    obtain ⟨q0x, q13, q0y, rfl, q0j⟩ := q0l
    have e_ := q0j.n; subst e_
    refine x_skip <| x_seq <| x_block <| x_seq <|
     x_region <| p (yix_f sl_75 q0e q6 q8 q0k) <| pa (at_load one_87 rfl (Elt.ld (j := 0) q0u hS rfl)) <| p (yl_assign rfl) <|
     x_done <| x_seq <| x_seq <| x_region <|
     p (yl_move rfl) <| p (yl_len_slice usl_87 rfl) <| p (yl_gtr rfl rfl) <| x_done <|
     x_cond_p (48 < (q7.length : Int)) rfl (fun hc18 => ?_) (fun hc18 => ?_)
    ·replace hFL4 := it_t hc18 hFL4
     refine x_seq <| x_region <| p (yl_assign rfl) <| x_done <| ?_
     have e_ := Option.some.inj (show some _ = some _ from hFL4); subst e_
     have e_ := (show _ = oL4 from hLL4); subst e_
     have e_ := Option.some.inj (show some _ = some _ from hF); subst e_
     exact x_return ⟨_, ⟨_, _, rfl, rfl, rfl⟩, rfl, hS⟩
    ·replace hFL4 := it_f hc18 hFL4
     replace hFL4 := ck_s hFL4; obtain ⟨q0m, hFL4⟩ := hFL4
     replace hFL4 := lv_s hFL4; obtain ⟨q0z, q0v, hFL4⟩ := hFL4
     have q_ := q8.get q0m; obtain ⟨q12, q0n, q0w⟩ := q_
     rw [← q0v] at q0n
     obtain ⟨q14, q15, q16, rfl, q10⟩ := q0n
     have e_ := q10.n; subst e_
     refine x_skip <| x_seq <| x_seq <| x_region <|
      p (yl_move rfl) <| p (yl_len_slice usl_87 rfl) <| p (yl_move q0h) <| p (yix_f sl_75 rfl rfl q8 q0m) <|
      pa (at_load one_87 rfl (Elt.ld (j := 0) q0w hS rfl)) <| p (yl_len_slice usl_87 rfl) <| p (yl_neq rfl rfl) <| x_done <|
      x_cond_p ((q7.length : Int) ≠ (q0z.length : Int)) rfl (fun hc25 => ?_) (fun hc25 => ?_)
     ·replace hFL4 := it_t hc25 hFL4
      refine x_seq <| x_region <| p (yl_assign rfl) <| x_done <| ?_
      have e_ := Option.some.inj (show some _ = some _ from hFL4); subst e_
      have e_ := (show _ = oL4 from hLL4); subst e_
      have e_ := Option.some.inj (show some _ = some _ from hF); subst e_
      exact x_return ⟨_, ⟨_, _, rfl, rfl, rfl⟩, rfl, hS⟩
     ·replace hFL4 := it_f hc25 hFL4
      refine x_skip <| x_seq <| x_region <| p (yl_move rfl) <|
       p (yl_len_slice usl_87 rfl) <| p (yl_move rfl) <| x_done <| ?_
      replace hFL4 := bs_s hFL4; obtain ⟨oL11, hLL11, hFL4⟩ := hFL4
      refine x_join (fun E w => (Sum.inl (())) = oL11 ∧ E 0 = .slice q4 a0.length c_a0 ∧ E 10 = .slice q4 a0.length c_a0 ∧ E 11 = .int .i64 (a0.length : Int) ∧ E 12 = .int .i64 q2 ∧ St w0 w (ro ρ :: l)) ?_ ?_
      ·refine x_block ?_
       refine x_loop (fun k_ E w => ∃ (q3 : Int), lp (P_exact_CheckMatrix_L11 q7) k_ q3 = some oL11 ∧ E 0 = .slice q4 a0.length c_a0 ∧ E 10 = .slice q4 a0.length c_a0 ∧ E 11 = .int .i64 (a0.length : Int) ∧ E 12 = .int .i64 q2 ∧ E 26 = .slice q0x q7.length q0y ∧ E 27 = .int .i64 (q7.length : Int) ∧ E 28 = .int .i64 q3 ∧ St w0 w (ro ρ :: l)) fuel ⟨0, hLL11, q0h, q0e, q0f, q6, rfl, rfl, rfl, hS⟩ ?_
       rintro kL11 E w ⟨q3, hLL11, q0g, q9, q0a, q0b, q0c, q0d, q5, hS⟩
       replace hLL11 := lp_s hLL11; obtain ⟨kL11, obL11, rfl, hFL11, hLL11⟩ := hLL11
       refine x_seq <| x_region <| p (yl_lss q5 q0d) <| x_done <|
        x_seq <|
        x_cond_p (q3 < (q7.length : Int)) rfl (fun hc29 => ?_) (fun hc29 => ?_)
       ·replace hFL11 := it_t hc29 hFL11
        replace hFL11 := ck_s hFL11; obtain ⟨q0i, hFL11⟩ := hFL11
        replace hFL11 := lv_s hFL11; obtain ⟨x31, hx31, hFL11⟩ := hFL11
        replace hFL11 := lv_s hFL11; obtain ⟨x37, hx37, hFL11⟩ := hFL11
        refine x_skip <| x_seq <| x_block <| x_seq <|
         x_region <| p (yix_f sl_87 q0c q5 q0j q0i) <| pa (at_load one_2 rfl (RdS.getW q0j hS q0i hx31)) <| p (yl_assign rfl) <|
         x_done <| x_seq <| x_region <| p (yl_move rfl) <|
         p (yl_lss rfl rfl) <| p (yl_move rfl) <| pg (v := .int .i64 x31) 34 (c := !(decide (x31 < (-1099511627776)))) (says_f _) (fun hq => Yl.at (yl_move rfl)) <| pg (v := .bool (decide (1099511627776 < x31))) 34 (c := !(decide (x31 < (-1099511627776)))) (says_f _) (fun hq => Yl.at (yl_gtr (cv hq) rfl)) <|
         p (yor' rfl rfl (fun hc => (cv (t_not hc))) hx37) <| x_done <|
         x_cond (t := x37) rfl (fun hc37 => ?_) (fun hc37 => ?_)
        ·replace hFL11 := it_t hc37 hFL11
         refine x_seq <| x_region <| p (yl_assign rfl) <| x_done <| ?_
         have e_ := Option.some.inj (show some _ = some _ from hFL11); subst e_
         have e_ := (show _ = oL11 from hLL11); subst e_
         have e_ := Option.some.inj (show some _ = some _ from hFL4); subst e_
         have e_ := (show _ = oL4 from hLL4); subst e_
         have e_ := Option.some.inj (show some _ = some _ from hF); subst e_
         exact x_return ⟨_, ⟨_, _, rfl, rfl, rfl⟩, rfl, hS⟩
        ·replace hFL11 := it_bf hc37 hFL11
         replace hFL11 := ar_s hFL11; obtain ⟨x38, hx38, hFL11⟩ := hFL11
         refine x_skip <| x_blk <| x_region <| p (yadd q5 rfl hx38) <|
          p (yl_move rfl) <| x_done <| ?_
         have e_ := Option.some.inj (show some _ = some _ from hFL11); subst e_
         exact x_inv ⟨kL11, Nat.lt_succ_self _, x38, hLL11, q0g, q9, q0a, q0b, q0c, q0d, rfl, hS⟩
       ·replace hFL11 := it_f hc29 hFL11
        refine x_exitTo _ rfl <| ?_
        have e_ := Option.some.inj (show some _ = some _ from hFL11); subst e_
        exact x_inv ⟨hLL11, q0g, q9, q0a, q0b, hS⟩
      rintro E w ⟨rfl, q0s, q0o, q0p, q0q, hS⟩
      replace hFL4 := ar_s hFL4; obtain ⟨x39, hx39, hFL4⟩ := hFL4
      refine x_blk <| x_region <| p (yadd q0q rfl hx39) <| p (yl_move rfl) <|
       x_done <| ?_
      have e_ := Option.some.inj (show some _ = some _ from hFL4); subst e_
      exact x_inv ⟨kL4, Nat.lt_succ_self _, x39, hLL4, q0s, q0o, q0p, rfl, hS⟩
   ·replace hFL4 := it_f hc13 hFL4
    refine x_exitTo _ rfl <| ?_
    have e_ := Option.some.inj (show some _ = some _ from hFL4); subst e_
    exact x_inv ⟨hLL4, hS⟩
  rintro E w ⟨rfl, hS⟩
  refine x_seq <| x_region <| p (yl_assign rfl) <| x_done <| ?_
  have e_ := Option.some.inj (show some _ = some _ from hF); subst e_
  exact x_return ⟨_, ⟨_, _, rfl, rfl, rfl⟩, rfl, hS⟩
attribute [irreducible] P_exact_CheckMatrix

def P_exact_square (a0 : List (List Int)) : Option Int :=
 bd (P_exact_CheckMatrix a0) fun q2 =>
 if q2 ≠ 0 then
  some q2
 else
  ck ((decide (0 < (a0.length : Int))) = true → inb 0 a0.length) <|
  lv (gt a0 (0 : Int)) fun q3 =>
  lv ((decide (0 < (a0.length : Int))) && (decide ((q3.length : Int) ≠ (a0.length : Int)))) fun x20 =>
  if x20 = true then
   some (4 : Int)
  else
   some (0 : Int)
set_option maxHeartbeats 4000000 in
set_option maxRecDepth 100000 in
theorem c_exact_square {w0 w : World} {l : List Assn} {ρ : Heap} {q2 : Option Addr} {q8 : Nat} {c_a0 : Nat} {a0 : List (List Int)} {r : Int} (hF : P_exact_square a0 = some r) (q4 : RdS (RpSl (RpI .i64)) ρ q2 q8 c_a0 a0) (hS : St w0 w (ro ρ :: l)) :
  Calls Try.prog 85 #[.slice q2 q8 c_a0] w fun e w' => e = .returned (.int .i64 r) ∧ St w0 w' (ro ρ :: l) := by
 have e_ := q4.n; subst e_
 refine enterC Try.func85 rfl 21 rfl (by simp) ?_
 replace hF := bd_s hF; obtain ⟨q3, q9, hF⟩ := hF
 refine x_seq <| x_region <| p (yl_assign rfl) <| x_done <|
  x_seq <| x_seq <| x_region <| p (yl_move rfl) <| ?_
 have hcall := c_exact_CheckMatrix q9 q4 hS
 refine o_cc call_92 (args1 rfl) (hcall) ?_
 rintro e w' ⟨rfl, hS⟩
 refine ⟨_, rfl, ?_⟩
 refine p (v := .int .i64 q3) (yl_assign rfl) <| x_done <| x_seq <| x_region <|
  p (v := .int .i64 q3) (yl_move rfl) <| p (yl_neq rfl rfl) <| x_done <|
  x_cond_p (q3 ≠ 0) rfl (fun hc7 => ?_) (fun hc7 => ?_)
 ·replace hF := it_t hc7 hF
  refine x_seq <| x_region <| p (v := .int .i64 q3) (yl_move rfl) <| p (v := .int .i64 q3) (yl_assign rfl) <|
   x_done <| ?_
  have e_ := Option.some.inj (show some _ = some _ from hF); subst e_
  exact x_return ⟨_, ⟨_, _, rfl, rfl, rfl⟩, rfl, hS⟩
 ·replace hF := it_f hc7 hF
  replace hF := ck_s hF; obtain ⟨q6, hF⟩ := hF
  replace hF := lv_s hF; obtain ⟨q5, q0a, hF⟩ := hF
  have q_ := RdS.getD sl_d q4 (0 : Int); obtain ⟨q0f, q7, q0b⟩ := q_
  rw [← q0a] at q7
  obtain ⟨q0c, q0g, q0d, rfl, q0e⟩ := q7
  have e_ := q0e.n; subst e_
  replace hF := lv_s hF; obtain ⟨x20, hx20, hF⟩ := hF
  refine x_skip <| x_seq <| x_seq <| x_region <|
   p (yl_move rfl) <| p (yl_len_slice usl_75 rfl) <| p (yl_gtr rfl rfl) <| p (yl_move rfl) <|
   pg (v := .slice q2 a0.length c_a0) 12 (c := decide (0 < (a0.length : Int))) (says_t _) (fun hq => Yl.at (yl_move rfl)) <| pg (v := .pointer (some ((adr q2).add ((0 : Int).toNat * (RpSl (RpI .i64)).sz)))) 12 (c := decide (0 < (a0.length : Int))) (says_t _) (fun hq => Yl.at (yix_f sl_75 (cv hq) rfl q4 (q6 hq))) <| pg (v := .slice q0c q5.length q0d) 12 (c := decide (0 < (a0.length : Int))) (says_t _) (fun hq => at_load one_87 (cv hq) (Elt.ld (j := 0) (q0b (q6 hq)) hS rfl)) <| pg (v := .int .i64 (q5.length : Int)) 12 (c := decide (0 < (a0.length : Int))) (says_t _) (fun hq => Yl.at (yl_len_slice usl_87 (cv hq))) <|
   pg (v := .slice q2 a0.length c_a0) 12 (c := decide (0 < (a0.length : Int))) (says_t _) (fun hq => Yl.at (yl_move rfl)) <| pg (v := .int .i64 (a0.length : Int)) 12 (c := decide (0 < (a0.length : Int))) (says_t _) (fun hq => Yl.at (yl_len_slice usl_75 (cv hq))) <| pg (v := .bool (decide ((q5.length : Int) ≠ (a0.length : Int)))) 12 (c := decide (0 < (a0.length : Int))) (says_t _) (fun hq => Yl.at (yl_neq (cv hq) (cv hq))) <| p (yand' rfl (fun hc => (cv hc)) rfl hx20) <|
   x_done <|
   x_cond (t := x20) rfl (fun hc20 => ?_) (fun hc20 => ?_)
  ·replace hF := it_t hc20 hF
   refine x_seq <| x_region <| p (yl_assign rfl) <| x_done <| ?_
   have e_ := Option.some.inj (show some _ = some _ from hF); subst e_
   exact x_return ⟨_, ⟨_, _, rfl, rfl, rfl⟩, rfl, hS⟩
  ·replace hF := it_bf hc20 hF
   refine x_skip <| x_seq <| x_region <| p (yl_assign rfl) <|
    x_done <| ?_
   have e_ := Option.some.inj (show some _ = some _ from hF); subst e_
   exact x_return ⟨_, ⟨_, _, rfl, rfl, rfl⟩, rfl, hS⟩
attribute [irreducible] P_exact_square


end Go.Proofs.Ytkenpbnpemjbhaa.X
