/- Printed by gen.py: plain functions, and that the Go code computes them. -/
import Derived.Test.YtkenpbnpemjbhaaDoorXK
import Derived.Test.YtkenpbnpemjbhaaDoorXT
import Derived.Test.YtkenpbnpemjbhaaDoorGAp0
namespace Go.Proofs.YtkenpbnpemjbhaaDoor.X
open Go Go.RowKit
set_option linter.unusedVariables false
set_option linter.unusedSimpArgs false

def P_slices_ContainsFunc_clocks_Output_clocks_Output (s0 : List T_clocks_Output) (q2 : T_clocks_Output) : Option Bool :=
 bd (P_slices_IndexFunc_clocks_Output_clocks_Output s0 q2) fun q3 =>
 some (decide (0 ≤ q3))
set_option maxHeartbeats 4000000 in
set_option maxRecDepth 100000 in
theorem c_slices_ContainsFunc_clocks_Output_clocks_Output {w0 w : World} {l : List Assn} {ρ : Heap} {q4 : Option Addr} {q5 : Nat} {c_s0 : Nat} {q2 : Nat} {s0 : List T_clocks_Output} {q3 : T_clocks_Output} {r : Bool} (hF : P_slices_ContainsFunc_clocks_Output_clocks_Output s0 q3 = some r) (q6 : RdS R_clocks_Output ρ q4 q5 c_s0 s0) (hS : St w0 w (cells q2 68 [.string q3.Name, .int .i64 q3.Before] :: ro ρ :: l)) :
  Calls Tryd.prog 35 #[.slice q4 q5 c_s0, .func (.func 36) #[] #[.pointer (some ⟨q2, 0, none⟩)]] w fun e w' => e = .returned (.bool r) ∧ St w0 w' (cells q2 68 [.string q3.Name, .int .i64 q3.Before] :: ro ρ :: l) := by
 have e_ := q6.n; subst e_
 refine enterC Tryd.func35 rfl 9 rfl (by simp) ?_
 replace hF := bd_s hF; obtain ⟨q8, q7, hF⟩ := hF
 refine x_seq <| x_region <| p (yl_assign rfl) <| x_done <|
  x_seq <| x_region <| p (yl_move rfl) <| p (yl_move rfl) <| ?_
 have hcall := c_slices_IndexFunc_clocks_Output_clocks_Output q7 q6 hS
 refine o_cc call_49 (args2 rfl rfl) (hcall) ?_
 rintro e w' ⟨rfl, hS⟩
 refine ⟨_, rfl, ?_⟩
 refine p (yl_geq rfl rfl) <| p (yl_assign rfl) <| x_done <| ?_
 have e_ := Option.some.inj (show some _ = some _ from hF); subst e_
 exact x_return ⟨_, ⟨_, _, rfl, rfl, rfl⟩, rfl, ((hS.pull 1).pull 1)⟩
attribute [irreducible] P_slices_ContainsFunc_clocks_Output_clocks_Output

def P_strconv_Itoa (i0 : Int) : Option ByteArray := ck (0 ≤ i0 ∧ i0 ≤ 9223372036854775807) <| some (itoa i0)
theorem c_strconv_Itoa {w0 w : World} {l : List Assn} {ρ : Heap} {i0 : Int} {r : ByteArray} (hF : P_strconv_Itoa i0 = some r) (hS : St w0 w (ro ρ :: l)) :
  Calls Tryd.prog 38 #[.int .i64 i0] w fun e w' => e = .returned (.string r) ∧ St w0 w' (ro ρ :: l) := by
 obtain ⟨h, hF⟩ := ck_s hF
 cases hF
 exact itoa_at h.1 h.2 hS
attribute [irreducible] P_strconv_Itoa

def P_clocks_write_1 (n0 : Int) : Option ByteArray :=
 bd (P_strconv_Itoa n0) fun q2 =>
 some q2
set_option maxHeartbeats 4000000 in
set_option maxRecDepth 100000 in
theorem c_clocks_write_1 {w0 w : World} {l : List Assn} {ρ : Heap} {n0 : Int} {r : ByteArray} (hF : P_clocks_write_1 n0 = some r) (hS : St w0 w (ro ρ :: l)) :
  Calls Tryd.prog 37 #[.int .i64 n0] w fun e w' => e = .returned (.string r) ∧ St w0 w' (ro ρ :: l) := by
 refine enterC Tryd.func37 rfl 5 rfl (by simp) ?_
 replace hF := bd_s hF; obtain ⟨q3, q2, hF⟩ := hF
 refine x_seq <| x_region <| p (yl_assign rfl) <| x_done <|
  x_seq <| x_region <| p (yl_move rfl) <| ?_
 have hcall := c_strconv_Itoa q2  hS
 refine o_cc call_38 (args1 rfl) (hcall) ?_
 rintro e w' ⟨rfl, hS⟩
 refine ⟨_, rfl, ?_⟩
 refine p (v := .string q3) (yl_assign rfl) <| x_done <| ?_
 have e_ := Option.some.inj (show some _ = some _ from hF); subst e_
 exact x_return ⟨_, ⟨_, _, rfl, rfl, rfl⟩, rfl, hS⟩
attribute [irreducible] P_clocks_write_1

def P_clocks_write_2 (s0 : ByteArray) : Option ByteArray :=
 if s0 = (⟨#[]⟩ : ByteArray) then
  some (⟨#[42]⟩ : ByteArray)
 else
  ck ((⟨#[61]⟩ : ByteArray).size + s0.size ≤ 140737488355328) <|
  some ((⟨#[61]⟩ : ByteArray) ++ s0)
set_option maxHeartbeats 4000000 in
set_option maxRecDepth 100000 in
theorem c_clocks_write_2 {w0 w : World} {l : List Assn} {ρ : Heap} {s0 : ByteArray} {r : ByteArray} (hF : P_clocks_write_2 s0 = some r) (hS : St w0 w (ro ρ :: l)) :
  Calls Tryd.prog 39 #[.string s0] w fun e w' => e = .returned (.string r) ∧ St w0 w' (ro ρ :: l) := by
 refine enterC Tryd.func39 rfl 7 rfl (by simp) ?_
 refine x_seq <| x_region <| p (yl_assign rfl) <| x_done <|
  x_seq <| x_seq <| x_region <| p (yl_move rfl) <|
  p (yl_eql_string rfl rfl) <| x_done <|
  x_cond_p (s0 = (⟨#[]⟩ : ByteArray)) rfl (fun hc4 => ?_) (fun hc4 => ?_)
 ·replace hF := it_t hc4 hF
  refine x_seq <| x_region <| p (yl_assign rfl) <| x_done <| ?_
  have e_ := Option.some.inj (show some _ = some _ from hF); subst e_
  exact x_return ⟨_, ⟨_, _, rfl, rfl, rfl⟩, rfl, hS⟩
 ·replace hF := it_f hc4 hF
  replace hF := ck_s hF; obtain ⟨q2, hF⟩ := hF
  refine x_skip <| x_seq <| x_region <| p (yl_move rfl) <|
   p (yadds rfl rfl q2) <| p (yl_assign rfl) <| x_done <| ?_
  have e_ := Option.some.inj (show some _ = some _ from hF); subst e_
  exact x_return ⟨_, ⟨_, _, rfl, rfl, rfl⟩, rfl, hS⟩
attribute [irreducible] P_clocks_write_2

def P_clocks_write_L5 (l_0 : T_clocks_Limits) : (ByteArray × Int) → Option ((ByteArray × Int) ⊕ ByteArray) := fun (q6, q3) =>
 if q3 < (l_0.Inputs.length : Int) then
  ck (inb q3 l_0.Inputs.length) <|
  lv (gt l_0.Inputs q3) fun q2 =>
  ck ((⟨#[105, 110, 112, 117, 116, 32]⟩ : ByteArray).size + q2.Name.size ≤ 140737488355328) <|
  ck (((⟨#[105, 110, 112, 117, 116, 32]⟩ : ByteArray) ++ q2.Name).size + (⟨#[32]⟩ : ByteArray).size ≤ 140737488355328) <|
  bd (P_clocks_write_1 q2.At.Lo) fun q4 =>
  ck ((((⟨#[105, 110, 112, 117, 116, 32]⟩ : ByteArray) ++ q2.Name) ++ (⟨#[32]⟩ : ByteArray)).size + q4.size ≤ 140737488355328) <|
  ck (((((⟨#[105, 110, 112, 117, 116, 32]⟩ : ByteArray) ++ q2.Name) ++ (⟨#[32]⟩ : ByteArray)) ++ q4).size + (⟨#[32]⟩ : ByteArray).size ≤ 140737488355328) <|
  bd (P_clocks_write_1 q2.At.Hi) fun q5 =>
  ck ((((((⟨#[105, 110, 112, 117, 116, 32]⟩ : ByteArray) ++ q2.Name) ++ (⟨#[32]⟩ : ByteArray)) ++ q4) ++ (⟨#[32]⟩ : ByteArray)).size + q5.size ≤ 140737488355328) <|
  ck (((((((⟨#[105, 110, 112, 117, 116, 32]⟩ : ByteArray) ++ q2.Name) ++ (⟨#[32]⟩ : ByteArray)) ++ q4) ++ (⟨#[32]⟩ : ByteArray)) ++ q5).size + (⟨#[10]⟩ : ByteArray).size ≤ 140737488355328) <|
  ck (q6.size + (((((((⟨#[105, 110, 112, 117, 116, 32]⟩ : ByteArray) ++ q2.Name) ++ (⟨#[32]⟩ : ByteArray)) ++ q4) ++ (⟨#[32]⟩ : ByteArray)) ++ q5) ++ (⟨#[10]⟩ : ByteArray)).size ≤ 140737488355328) <|
  lv (q6 ++ (((((((⟨#[105, 110, 112, 117, 116, 32]⟩ : ByteArray) ++ q2.Name) ++ (⟨#[32]⟩ : ByteArray)) ++ q4) ++ (⟨#[32]⟩ : ByteArray)) ++ q5) ++ (⟨#[10]⟩ : ByteArray))) fun q7 =>
  ar (q3 + 1) fun x45 =>
  some (Sum.inl (q7, x45))
 else
  some (Sum.inr q6)
def P_clocks_write_L10 (l_0 : T_clocks_Limits) : (ByteArray × Int) → Option ((ByteArray × Int) ⊕ ByteArray) := fun (q4, q2) =>
 if q2 < (l_0.Outputs.length : Int) then
  ck (inb q2 l_0.Outputs.length) <|
  lv (gt l_0.Outputs q2) fun q3 =>
  ck ((⟨#[111, 117, 116, 112, 117, 116, 32]⟩ : ByteArray).size + q3.Name.size ≤ 140737488355328) <|
  ck (((⟨#[111, 117, 116, 112, 117, 116, 32]⟩ : ByteArray) ++ q3.Name).size + (⟨#[32]⟩ : ByteArray).size ≤ 140737488355328) <|
  bd (P_clocks_write_1 q3.Before) fun q5 =>
  ck ((((⟨#[111, 117, 116, 112, 117, 116, 32]⟩ : ByteArray) ++ q3.Name) ++ (⟨#[32]⟩ : ByteArray)).size + q5.size ≤ 140737488355328) <|
  ck (((((⟨#[111, 117, 116, 112, 117, 116, 32]⟩ : ByteArray) ++ q3.Name) ++ (⟨#[32]⟩ : ByteArray)) ++ q5).size + (⟨#[10]⟩ : ByteArray).size ≤ 140737488355328) <|
  ck (q4.size + (((((⟨#[111, 117, 116, 112, 117, 116, 32]⟩ : ByteArray) ++ q3.Name) ++ (⟨#[32]⟩ : ByteArray)) ++ q5) ++ (⟨#[10]⟩ : ByteArray)).size ≤ 140737488355328) <|
  lv (q4 ++ (((((⟨#[111, 117, 116, 112, 117, 116, 32]⟩ : ByteArray) ++ q3.Name) ++ (⟨#[32]⟩ : ByteArray)) ++ q5) ++ (⟨#[10]⟩ : ByteArray))) fun q6 =>
  ar (q2 + 1) fun x64 =>
  some (Sum.inl (q6, x64))
 else
  some (Sum.inr q4)
def P_clocks_write_L16 (l_0 : T_clocks_Limits) : (ByteArray × Int) → Option ((ByteArray × Int) ⊕ ByteArray) := fun (q3, q4) =>
 if q4 < (l_0.Paths.length : Int) then
  ck (inb q4 l_0.Paths.length) <|
  lv (gt l_0.Paths q4) fun q5 =>
  bd (
   if q5.Cycles = 0 then
    bd (P_clocks_write_2 q5.From) fun q6 =>
    ck ((⟨#[102, 97, 108, 115, 101, 32]⟩ : ByteArray).size + q6.size ≤ 140737488355328) <|
    ck (((⟨#[102, 97, 108, 115, 101, 32]⟩ : ByteArray) ++ q6).size + (⟨#[32]⟩ : ByteArray).size ≤ 140737488355328) <|
    bd (P_clocks_write_2 q5.To) fun q9 =>
    ck ((((⟨#[102, 97, 108, 115, 101, 32]⟩ : ByteArray) ++ q6) ++ (⟨#[32]⟩ : ByteArray)).size + q9.size ≤ 140737488355328) <|
    ck (((((⟨#[102, 97, 108, 115, 101, 32]⟩ : ByteArray) ++ q6) ++ (⟨#[32]⟩ : ByteArray)) ++ q9).size + (⟨#[10]⟩ : ByteArray).size ≤ 140737488355328) <|
    ck (q3.size + (((((⟨#[102, 97, 108, 115, 101, 32]⟩ : ByteArray) ++ q6) ++ (⟨#[32]⟩ : ByteArray)) ++ q9) ++ (⟨#[10]⟩ : ByteArray)).size ≤ 140737488355328) <|
    lv (q3 ++ (((((⟨#[102, 97, 108, 115, 101, 32]⟩ : ByteArray) ++ q6) ++ (⟨#[32]⟩ : ByteArray)) ++ q9) ++ (⟨#[10]⟩ : ByteArray))) fun q0a =>
    some q0a
   else
    bd (P_clocks_write_1 q5.Cycles) fun q2 =>
    ck ((⟨#[109, 117, 108, 116, 105, 32]⟩ : ByteArray).size + q2.size ≤ 140737488355328) <|
    ck (((⟨#[109, 117, 108, 116, 105, 32]⟩ : ByteArray) ++ q2).size + (⟨#[32]⟩ : ByteArray).size ≤ 140737488355328) <|
    bd (P_clocks_write_2 q5.From) fun q7 =>
    ck ((((⟨#[109, 117, 108, 116, 105, 32]⟩ : ByteArray) ++ q2) ++ (⟨#[32]⟩ : ByteArray)).size + q7.size ≤ 140737488355328) <|
    ck (((((⟨#[109, 117, 108, 116, 105, 32]⟩ : ByteArray) ++ q2) ++ (⟨#[32]⟩ : ByteArray)) ++ q7).size + (⟨#[32]⟩ : ByteArray).size ≤ 140737488355328) <|
    bd (P_clocks_write_2 q5.To) fun q8 =>
    ck ((((((⟨#[109, 117, 108, 116, 105, 32]⟩ : ByteArray) ++ q2) ++ (⟨#[32]⟩ : ByteArray)) ++ q7) ++ (⟨#[32]⟩ : ByteArray)).size + q8.size ≤ 140737488355328) <|
    ck (((((((⟨#[109, 117, 108, 116, 105, 32]⟩ : ByteArray) ++ q2) ++ (⟨#[32]⟩ : ByteArray)) ++ q7) ++ (⟨#[32]⟩ : ByteArray)) ++ q8).size + (⟨#[10]⟩ : ByteArray).size ≤ 140737488355328) <|
    ck (q3.size + (((((((⟨#[109, 117, 108, 116, 105, 32]⟩ : ByteArray) ++ q2) ++ (⟨#[32]⟩ : ByteArray)) ++ q7) ++ (⟨#[32]⟩ : ByteArray)) ++ q8) ++ (⟨#[10]⟩ : ByteArray)).size ≤ 140737488355328) <|
    lv (q3 ++ (((((((⟨#[109, 117, 108, 116, 105, 32]⟩ : ByteArray) ++ q2) ++ (⟨#[32]⟩ : ByteArray)) ++ q7) ++ (⟨#[32]⟩ : ByteArray)) ++ q8) ++ (⟨#[10]⟩ : ByteArray))) fun q0b =>
    some q0b) fun q0c =>
  ar (q4 + 1) fun x107 =>
  some (Sum.inl (q0c, x107))
 else
  some (Sum.inr q3)
def P_clocks_write (l_0 : T_clocks_Limits) : Option ByteArray :=
 bd (P_clocks_write_1 l_0.Period) fun q2 =>
 ck ((⟨#[112, 101, 114, 105, 111, 100, 32]⟩ : ByteArray).size + q2.size ≤ 140737488355328) <|
 ck (((⟨#[112, 101, 114, 105, 111, 100, 32]⟩ : ByteArray) ++ q2).size + (⟨#[10]⟩ : ByteArray).size ≤ 140737488355328) <|
 ck ((⟨#[]⟩ : ByteArray).size + (((⟨#[112, 101, 114, 105, 111, 100, 32]⟩ : ByteArray) ++ q2) ++ (⟨#[10]⟩ : ByteArray)).size ≤ 140737488355328) <|
 lv ((⟨#[]⟩ : ByteArray) ++ (((⟨#[112, 101, 114, 105, 111, 100, 32]⟩ : ByteArray) ++ q2) ++ (⟨#[10]⟩ : ByteArray))) fun q6 =>
 bd (
  lp (P_clocks_write_L5 l_0) fuel (q6, 0)) fun q5 =>
 bd (
  lp (P_clocks_write_L10 l_0) fuel (q5, 0)) fun q4 =>
 bd (
  lp (P_clocks_write_L16 l_0) fuel (q4, 0)) fun q3 =>
 ck (0 < q3.size) <|
 some q3
set_option maxHeartbeats 4000000 in
set_option maxRecDepth 100000 in
theorem c_clocks_write {w0 w : World} {l : List Assn} {ρ : Heap} {q9 : Option Addr} {q2w : Nat} {c_l_0_1 : Nat} {q0a : Option Addr} {q2x : Nat} {c_l_0_2 : Nat} {q8 : Option Addr} {q2y : Nat} {c_l_0_3 : Nat} {l_0 : T_clocks_Limits} {r : ByteArray} (hF : P_clocks_write l_0 = some r) (q27 : RdS R_clocks_Input ρ q9 q2w c_l_0_1 l_0.Inputs) (q28 : RdS R_clocks_Output ρ q0a q2x c_l_0_2 l_0.Outputs) (q29 : RdS R_clocks_Path ρ q8 q2y c_l_0_3 l_0.Paths) (hS : St w0 w (ro ρ :: l)) :
  Calls Tryd.prog 21 #[.agg #[.int .i64 l_0.Period, .slice q9 q2w c_l_0_1, .slice q0a q2x c_l_0_2, .slice q8 q2y c_l_0_3]] w fun e w' => e = .returned (.string r) ∧ St w0 w' (ro ρ :: l) := by
 have e_ := q27.n; subst e_
 have e_ := q28.n; subst e_
 have e_ := q29.n; subst e_
 refine enterC Tryd.func21 rfl 109 rfl (by simp) ?_
 refine x_seq <| x_region <| ?_
 refine o_box (cs := [.int .i64 l_0.Period, .slice q9 l_0.Inputs.length c_l_0_1, .slice q0a l_0.Outputs.length c_l_0_2, .slice q8 l_0.Paths.length c_l_0_3]) rfl rfl hS (fun b1 w' hS => ?_)
 refine p (yl_assign rfl) <| x_done <| x_seq <| x_region <| ?_
 refine o_alloc zero_78 hS (fun b3 w' hS => ?_)
 replace hS := bld_new (e := 5) hS
 replace hF := bd_s hF; obtain ⟨q57, q4q, hF⟩ := hF
 refine x_done <| x_seq <| x_region <| p (yl_assign rfl) <|
  x_done <| x_seq <| x_region <| p (yl_move rfl) <|
  p (yl_field0 fld_41_0 rfl) <| pa (at_load one_3 rfl ((hS.pull 1).cell rfl)) <| ?_
 have hcall := c_clocks_write_1 q4q  (hS.pull 2)
 refine o_ccv rfl call_37 (args1 rfl) ((Calls.mono hcall (fun e w'' h => And.intro h.1 ((h.2.pull 2).pull 2)))) ?_
 rintro e w' ⟨rfl, hS⟩
 refine ⟨_, rfl, ?_⟩
 replace hF := ck_s hF; obtain ⟨q4r, hF⟩ := hF
 replace hF := ck_s hF; obtain ⟨q4s, hF⟩ := hF
 refine p (yadds rfl rfl q4r) <| p (yadds rfl rfl q4s) <| ?_
 replace hF := ck_s hF; obtain ⟨q4t, hF⟩ := hF
 replace hF := lv_s hF; obtain ⟨q53, q4u, hF⟩ := hF
 refine o_cc call_28 (args2 rfl rfl) (bws hS q4t) ?_
 rintro e w' ⟨rfl, hS⟩
 refine ⟨_, rfl, ?_⟩
 rw [← q4u] at hS
 refine x_done <| x_seq <| x_seq <| x_region <|
  p (yl_field0 fld_41_1 rfl) <| pa (at_load one_37 rfl ((hS.pull 1).cell rfl)) <| p (yl_len_slice usl_37 rfl) <| p (yl_move rfl) <|
  x_done <| ?_
 replace hF := bd_s hF; obtain ⟨oL5, hLL5, hF⟩ := hF
 refine x_join (fun E w => ∃ (q2o : ByteArray), q2o = oL5 ∧ E 1 = .pointer (some ⟨b1, 0, none⟩) ∧ E 3 = .pointer (some ⟨b3, 0, none⟩) ∧ E 4 = .func (.func 37) #[] #[] ∧ St w0 w (cells b1 41 [.int .i64 l_0.Period, .slice q9 l_0.Inputs.length c_l_0_1, .slice q0a l_0.Outputs.length c_l_0_2, .slice q8 l_0.Paths.length c_l_0_3] :: bld 78 5 b3 q2o :: ro ρ :: l)) ?_ ?_
 ·refine x_block ?_
  refine x_loop (fun k_ E w => ∃ (q0k : ByteArray) (q0y : Int), lp (P_clocks_write_L5 l_0) k_ (q0k, q0y) = some oL5 ∧ E 1 = .pointer (some ⟨b1, 0, none⟩) ∧ E 3 = .pointer (some ⟨b3, 0, none⟩) ∧ E 4 = .func (.func 37) #[] #[] ∧ E 20 = .slice q9 l_0.Inputs.length c_l_0_1 ∧ E 21 = .int .i64 (l_0.Inputs.length : Int) ∧ E 22 = .int .i64 q0y ∧ St w0 w (cells b1 41 [.int .i64 l_0.Period, .slice q9 l_0.Inputs.length c_l_0_1, .slice q0a l_0.Outputs.length c_l_0_2, .slice q8 l_0.Paths.length c_l_0_3] :: bld 78 5 b3 q0k :: ro ρ :: l)) fuel ⟨q53, 0, hLL5, rfl, rfl, rfl, rfl, rfl, rfl, (((hS.pull 2).pull 1).pull 2)⟩ ?_
  rintro kL5 E w ⟨q0k, q0y, hLL5, q33, q2p, q24, q2z, q30, q2a, hS⟩
  replace hLL5 := lp_s hLL5; obtain ⟨kL5, obL5, rfl, hFL5, hLL5⟩ := hLL5
  refine x_seq <| x_region <| p (yl_lss q2a q30) <| x_done <|
   x_seq <|
   x_cond_p (q0y < (l_0.Inputs.length : Int)) rfl (fun hc23 => ?_) (fun hc23 => ?_)
  ·replace hFL5 := it_t hc23 hFL5
   replace hFL5 := ck_s hFL5; obtain ⟨q3b, hFL5⟩ := hFL5
   replace hFL5 := lv_s hFL5; obtain ⟨q3, q4v, hFL5⟩ := hFL5
   have q_ := q27.get q3b; obtain ⟨q56, q3c, q4w⟩ := q_
   rw [← q4v] at q3c
   have e_ := q3c; subst e_
   refine x_skip <| x_seq <| x_block <| x_seq <|
    x_region <| p (yix_f sl_37 q2z q2a q27 q3b) <| pa (v := .agg #[.string q3.Name, .int .i64 q3.At.Lo, .int .i64 q3.At.Hi]) (at_loadAgg agg_66 rfl rfl (Elt.every q4w (hS.pull 2))) <| ?_
   refine o_alloc zero_66 hS (fun b6 w' hS => ?_)
   refine o_storeAgg (news := [.string q3.Name, .int .i64 q3.At.Lo, .int .i64 q3.At.Hi]) agg_66 rfl rfl rfl (by simp [over_length]) hS (fun w' hS => ?_)
   refine x_done <| ?_
   replace hFL5 := ck_s hFL5; obtain ⟨q4x, hFL5⟩ := hFL5
   replace hFL5 := ck_s hFL5; obtain ⟨q4y, hFL5⟩ := hFL5
   replace hFL5 := bd_s hFL5; obtain ⟨q0b, q4z, hFL5⟩ := hFL5
   replace hFL5 := ck_s hFL5; obtain ⟨q50, hFL5⟩ := hFL5
   replace hFL5 := ck_s hFL5; obtain ⟨q3v, hFL5⟩ := hFL5
   replace hFL5 := bd_s hFL5; obtain ⟨q0e, q3w, hFL5⟩ := hFL5
   replace hFL5 := ck_s hFL5; obtain ⟨q3x, hFL5⟩ := hFL5
   replace hFL5 := ck_s hFL5; obtain ⟨q3y, hFL5⟩ := hFL5
   replace hFL5 := ck_s hFL5; obtain ⟨q3z, hFL5⟩ := hFL5
   replace hFL5 := lv_s hFL5; obtain ⟨q32, q40, hFL5⟩ := hFL5
   refine x_par (w0 := w0) [⟨[], [], [26], [], [], []⟩, ⟨[0], [0], [27], [0], [], []⟩, ⟨[0, 1], [1], [28], [], [], []⟩, ⟨[0, 1, 2], [2], [29], [], [], []⟩, ⟨[], [], [30], [], [], []⟩, ⟨[], [], [31], [], [], []⟩, ⟨[5], [5], [32], [], [], []⟩, ⟨[5, 6], [6], [33], [0], [], []⟩, ⟨[4, 5, 6, 7], [4, 7], [34], [1], [], []⟩, ⟨[0, 1, 2, 3, 4, 5, 6, 7, 8], [3, 8], [35], [], [], []⟩, ⟨[0, 1, 2, 3, 4, 5, 6, 7, 8, 9], [9], [36], [], [], []⟩, ⟨[], [], [37], [], [], []⟩, ⟨[], [], [38], [], [], []⟩, ⟨[12], [12], [39], [], [], []⟩, ⟨[12, 13], [13], [40], [0], [], []⟩, ⟨[4, 5, 6, 7, 8, 11, 12, 13, 14], [11, 14], [41], [1], [], []⟩, ⟨[0, 1, 2, 3, 4, 5, 6, 7, 8, 9, 10, 11, 12, 13, 14, 15], [10, 15], [42], [], [], []⟩, ⟨[0, 1, 2, 3, 4, 5, 6, 7, 8, 9, 10, 11, 12, 13, 14, 15, 16], [16], [43], [], [], []⟩, ⟨[0, 1, 2, 3, 4, 5, 6, 7, 8, 9, 10, 11, 12, 13, 14, 15, 16, 17], [17], [44], [], [2], [3]⟩] [⟨none, none, []⟩, ⟨none, none, []⟩, ⟨none, (some 18), []⟩, ⟨(some 18), none, []⟩] [26, 27, 28, 29, 30, 31, 32, 33, 34, 35, 36, 37, 38, 39, 40, 41, 42, 43, 44] [0, 1, 2] [0, 1, 3] [0, 1, 2, 3, 4, 5, 6, 7, 8, 9, 10, 11, 12, 13, 14, 15, 16, 17, 18] [fun Ep7 => Ep7 26 = .pointer (some ⟨b6, 0, none⟩), fun Ep7 => Ep7 27 = .string q3.Name, fun Ep7 => Ep7 28 = .string ((⟨#[105, 110, 112, 117, 116, 32]⟩ : ByteArray) ++ q3.Name), fun Ep7 => Ep7 29 = .string (((⟨#[105, 110, 112, 117, 116, 32]⟩ : ByteArray) ++ q3.Name) ++ (⟨#[32]⟩ : ByteArray)), fun Ep7 => Ep7 30 = .func (.func 37) #[] #[], fun Ep7 => Ep7 31 = .pointer (some ⟨b6, 1, none⟩), fun Ep7 => Ep7 32 = .pointer (some ⟨b6, 1, none⟩), fun Ep7 => Ep7 33 = .int .i64 q3.At.Lo, fun Ep7 => Ep7 34 = .string q0b, fun Ep7 => Ep7 35 = .string ((((⟨#[105, 110, 112, 117, 116, 32]⟩ : ByteArray) ++ q3.Name) ++ (⟨#[32]⟩ : ByteArray)) ++ q0b), fun Ep7 => Ep7 36 = .string (((((⟨#[105, 110, 112, 117, 116, 32]⟩ : ByteArray) ++ q3.Name) ++ (⟨#[32]⟩ : ByteArray)) ++ q0b) ++ (⟨#[32]⟩ : ByteArray)), fun Ep7 => Ep7 37 = .func (.func 37) #[] #[], fun Ep7 => Ep7 38 = .pointer (some ⟨b6, 1, none⟩), fun Ep7 => Ep7 39 = .pointer (some ⟨b6, 2, none⟩), fun Ep7 => Ep7 40 = .int .i64 q3.At.Hi, fun Ep7 => Ep7 41 = .string q0e, fun Ep7 => Ep7 42 = .string ((((((⟨#[105, 110, 112, 117, 116, 32]⟩ : ByteArray) ++ q3.Name) ++ (⟨#[32]⟩ : ByteArray)) ++ q0b) ++ (⟨#[32]⟩ : ByteArray)) ++ q0e), fun Ep7 => Ep7 43 = .string (((((((⟨#[105, 110, 112, 117, 116, 32]⟩ : ByteArray) ++ q3.Name) ++ (⟨#[32]⟩ : ByteArray)) ++ q0b) ++ (⟨#[32]⟩ : ByteArray)) ++ q0e) ++ (⟨#[10]⟩ : ByteArray)), fun Ep7 => Ep7 44 = .tuple #[.int .i64 ((((((((⟨#[105, 110, 112, 117, 116, 32]⟩ : ByteArray) ++ q3.Name) ++ (⟨#[32]⟩ : ByteArray)) ++ q0b) ++ (⟨#[32]⟩ : ByteArray)) ++ q0e) ++ (⟨#[10]⟩ : ByteArray)).size : Int), .nilIface]] [fun Ep7 => cells b6 66 [.string q3.Name, .int .i64 q3.At.Lo, .int .i64 q3.At.Hi], fun Ep7 => ro ρ, fun Ep7 => bld 78 5 b3 q0k, fun Ep7 => bld 78 5 b3 q32] mixed (by kernel_rfl) (((hS.pull 2).pull 3).pull 2) ?_ ?_
   ·refine ⟨?_, ?_, ?_, ?_, ?_, ?_, ?_, ?_, ?_, ?_, ?_, ?_, ?_, ?_, ?_, ?_, ?_, ?_, ?_, trivial⟩
    ·intro Ep7 w l' hE7 hO7 hF_ hS
     refine p (yl_field0 fld_66_0 (hE7 6 rfl)) <| x_done <| ?_
     refine x_fin ⟨⟨_, rfl⟩, rfl, ?_⟩
     exact Eq.mp (by kernel_rfl) hS
    ·intro Ep7 w l' hE7 hO7 hF_ hS
     obtain ⟨q2b, -⟩ := hF_
     replace q2b : Ep7 26 = .pointer (some ⟨b6, 0, none⟩) := Eq.mp (by kernel_rfl) q2b
     replace hS : St w0 w (cells b6 66 [.string q3.Name, .int .i64 q3.At.Lo, .int .i64 q3.At.Hi] :: l') := Eq.mp (by kernel_rfl) hS
     refine pa (at_load one_9 q2b (hS.cell rfl)) <| x_done <| ?_
     refine x_fin ⟨⟨_, rfl⟩, rfl, ?_⟩
     exact Eq.mp (by kernel_rfl) hS
    ·intro Ep7 w l' hE7 hO7 hF_ hS
     obtain ⟨q2c, -⟩ := hF_
     replace q2c : Ep7 27 = .string q3.Name := Eq.mp (by kernel_rfl) q2c
     refine p (yadds rfl q2c q4x) <| x_done <| ?_
     refine x_fin ⟨⟨_, rfl⟩, rfl, ?_⟩
     exact Eq.mp (by kernel_rfl) hS
    ·intro Ep7 w l' hE7 hO7 hF_ hS
     obtain ⟨q2d, -⟩ := hF_
     replace q2d : Ep7 28 = .string ((⟨#[105, 110, 112, 117, 116, 32]⟩ : ByteArray) ++ q3.Name) := Eq.mp (by kernel_rfl) q2d
     refine p (yadds q2d rfl q4y) <| x_done <| ?_
     refine x_fin ⟨⟨_, rfl⟩, rfl, ?_⟩
     exact Eq.mp (by kernel_rfl) hS
    ·intro Ep7 w l' hE7 hO7 hF_ hS
     refine p (yl_move ((hE7 4 rfl).trans q24)) <| x_done <| ?_
     refine x_fin ⟨⟨_, rfl⟩, rfl, ?_⟩
     exact Eq.mp (by kernel_rfl) hS
    ·intro Ep7 w l' hE7 hO7 hF_ hS
     refine p (yl_field0 fld_66_1 (hE7 6 rfl)) <| x_done <| ?_
     refine x_fin ⟨⟨_, rfl⟩, rfl, ?_⟩
     exact Eq.mp (by kernel_rfl) hS
    ·intro Ep7 w l' hE7 hO7 hF_ hS
     obtain ⟨q2e, -⟩ := hF_
     replace q2e : Ep7 31 = .pointer (some ⟨b6, 1, none⟩) := Eq.mp (by kernel_rfl) q2e
     refine p (yl_fieldN fld_63_0 q2e) <| x_done <| ?_
     refine x_fin ⟨⟨_, rfl⟩, rfl, ?_⟩
     exact Eq.mp (by kernel_rfl) hS
    ·intro Ep7 w l' hE7 hO7 hF_ hS
     obtain ⟨q2f, -⟩ := hF_
     replace q2f : Ep7 32 = .pointer (some ⟨b6, 1, none⟩) := Eq.mp (by kernel_rfl) q2f
     replace hS : St w0 w (cells b6 66 [.string q3.Name, .int .i64 q3.At.Lo, .int .i64 q3.At.Hi] :: l') := Eq.mp (by kernel_rfl) hS
     refine pa (at_load one_3 q2f (hS.cell rfl)) <| x_done <| ?_
     refine x_fin ⟨⟨_, rfl⟩, rfl, ?_⟩
     exact Eq.mp (by kernel_rfl) hS
    ·intro Ep7 w l' hE7 hO7 hF_ hS
     obtain ⟨q2g, q2h, -⟩ := hF_
     replace q2g : Ep7 30 = .func (.func 37) #[] #[] := Eq.mp (by kernel_rfl) q2g
     replace q2h : Ep7 33 = .int .i64 q3.At.Lo := Eq.mp (by kernel_rfl) q2h
     replace hS : St w0 w (ro ρ :: l') := Eq.mp (by kernel_rfl) hS
     have hcall := c_clocks_write_1 q4z  hS
     refine o_ccv q2g call_37 (args1 q2h) (hcall) ?_
     rintro e w' ⟨rfl, hS⟩
     refine ⟨_, rfl, ?_⟩
     refine x_done <| ?_
     refine x_fin ⟨⟨_, rfl⟩, rfl, ?_⟩
     exact Eq.mp (by kernel_rfl) hS
    ·intro Ep7 w l' hE7 hO7 hF_ hS
     obtain ⟨q2i, q2j, -⟩ := hF_
     replace q2i : Ep7 29 = .string (((⟨#[105, 110, 112, 117, 116, 32]⟩ : ByteArray) ++ q3.Name) ++ (⟨#[32]⟩ : ByteArray)) := Eq.mp (by kernel_rfl) q2i
     replace q2j : Ep7 34 = .string q0b := Eq.mp (by kernel_rfl) q2j
     refine p (yadds q2i q2j q50) <| x_done <| ?_
     refine x_fin ⟨⟨_, rfl⟩, rfl, ?_⟩
     exact Eq.mp (by kernel_rfl) hS
    ·intro Ep7 w l' hE7 hO7 hF_ hS
     obtain ⟨q2k, -⟩ := hF_
     replace q2k : Ep7 35 = .string ((((⟨#[105, 110, 112, 117, 116, 32]⟩ : ByteArray) ++ q3.Name) ++ (⟨#[32]⟩ : ByteArray)) ++ q0b) := Eq.mp (by kernel_rfl) q2k
     refine p (yadds q2k rfl q3v) <| x_done <| ?_
     refine x_fin ⟨⟨_, rfl⟩, rfl, ?_⟩
     exact Eq.mp (by kernel_rfl) hS
    ·intro Ep7 w l' hE7 hO7 hF_ hS
     refine p (yl_move ((hE7 4 rfl).trans q24)) <| x_done <| ?_
     refine x_fin ⟨⟨_, rfl⟩, rfl, ?_⟩
     exact Eq.mp (by kernel_rfl) hS
    ·intro Ep7 w l' hE7 hO7 hF_ hS
     refine p (yl_field0 fld_66_1 (hE7 6 rfl)) <| x_done <| ?_
     refine x_fin ⟨⟨_, rfl⟩, rfl, ?_⟩
     exact Eq.mp (by kernel_rfl) hS
    ·intro Ep7 w l' hE7 hO7 hF_ hS
     obtain ⟨q0z, -⟩ := hF_
     replace q0z : Ep7 38 = .pointer (some ⟨b6, 1, none⟩) := Eq.mp (by kernel_rfl) q0z
     refine p (yl_fieldN fld_63_1 q0z) <| x_done <| ?_
     refine x_fin ⟨⟨_, rfl⟩, rfl, ?_⟩
     exact Eq.mp (by kernel_rfl) hS
    ·intro Ep7 w l' hE7 hO7 hF_ hS
     obtain ⟨q10, -⟩ := hF_
     replace q10 : Ep7 39 = .pointer (some ⟨b6, 2, none⟩) := Eq.mp (by kernel_rfl) q10
     replace hS : St w0 w (cells b6 66 [.string q3.Name, .int .i64 q3.At.Lo, .int .i64 q3.At.Hi] :: l') := Eq.mp (by kernel_rfl) hS
     refine pa (at_load one_3 q10 (hS.cell rfl)) <| x_done <| ?_
     refine x_fin ⟨⟨_, rfl⟩, rfl, ?_⟩
     exact Eq.mp (by kernel_rfl) hS
    ·intro Ep7 w l' hE7 hO7 hF_ hS
     obtain ⟨q11, q12, -⟩ := hF_
     replace q11 : Ep7 37 = .func (.func 37) #[] #[] := Eq.mp (by kernel_rfl) q11
     replace q12 : Ep7 40 = .int .i64 q3.At.Hi := Eq.mp (by kernel_rfl) q12
     replace hS : St w0 w (ro ρ :: l') := Eq.mp (by kernel_rfl) hS
     have hcall := c_clocks_write_1 q3w  hS
     refine o_ccv q11 call_37 (args1 q12) (hcall) ?_
     rintro e w' ⟨rfl, hS⟩
     refine ⟨_, rfl, ?_⟩
     refine x_done <| ?_
     refine x_fin ⟨⟨_, rfl⟩, rfl, ?_⟩
     exact Eq.mp (by kernel_rfl) hS
    ·intro Ep7 w l' hE7 hO7 hF_ hS
     obtain ⟨q13, q14, -⟩ := hF_
     replace q13 : Ep7 36 = .string (((((⟨#[105, 110, 112, 117, 116, 32]⟩ : ByteArray) ++ q3.Name) ++ (⟨#[32]⟩ : ByteArray)) ++ q0b) ++ (⟨#[32]⟩ : ByteArray)) := Eq.mp (by kernel_rfl) q13
     replace q14 : Ep7 41 = .string q0e := Eq.mp (by kernel_rfl) q14
     refine p (yadds q13 q14 q3x) <| x_done <| ?_
     refine x_fin ⟨⟨_, rfl⟩, rfl, ?_⟩
     exact Eq.mp (by kernel_rfl) hS
    ·intro Ep7 w l' hE7 hO7 hF_ hS
     obtain ⟨q15, -⟩ := hF_
     replace q15 : Ep7 42 = .string ((((((⟨#[105, 110, 112, 117, 116, 32]⟩ : ByteArray) ++ q3.Name) ++ (⟨#[32]⟩ : ByteArray)) ++ q0b) ++ (⟨#[32]⟩ : ByteArray)) ++ q0e) := Eq.mp (by kernel_rfl) q15
     refine p (yadds q15 rfl q3y) <| x_done <| ?_
     refine x_fin ⟨⟨_, rfl⟩, rfl, ?_⟩
     exact Eq.mp (by kernel_rfl) hS
    ·intro Ep7 w l' hE7 hO7 hF_ hS
     obtain ⟨q16, -⟩ := hF_
     replace q16 : Ep7 43 = .string (((((((⟨#[105, 110, 112, 117, 116, 32]⟩ : ByteArray) ++ q3.Name) ++ (⟨#[32]⟩ : ByteArray)) ++ q0b) ++ (⟨#[32]⟩ : ByteArray)) ++ q0e) ++ (⟨#[10]⟩ : ByteArray)) := Eq.mp (by kernel_rfl) q16
     replace hS : St w0 w (bld 78 5 b3 q0k :: l') := Eq.mp (by kernel_rfl) hS
     refine o_cc call_28 (args2 ((hE7 3 rfl).trans q2p) q16) (bws hS q3z) ?_
     rintro e w' ⟨rfl, hS⟩
     refine ⟨_, rfl, ?_⟩
     rw [← q40] at hS
     refine x_done <| ?_
     refine x_fin ⟨⟨_, rfl⟩, rfl, ?_⟩
     exact Eq.mp (by kernel_rfl) hS
   intro Ep7 w' hE7 hF_ hS
   obtain ⟨q2b, q2c, q2d, q2i, q2g, q2e, q2f, q2h, q2j, q2k, q13, q11, q0z, q10, q12, q14, q15, q16, q3d, -⟩ := hF_
   replace q2b : Ep7 26 = .pointer (some ⟨b6, 0, none⟩) := Eq.mp (by kernel_rfl) q2b
   replace q2c : Ep7 27 = .string q3.Name := Eq.mp (by kernel_rfl) q2c
   replace q2d : Ep7 28 = .string ((⟨#[105, 110, 112, 117, 116, 32]⟩ : ByteArray) ++ q3.Name) := Eq.mp (by kernel_rfl) q2d
   replace q2i : Ep7 29 = .string (((⟨#[105, 110, 112, 117, 116, 32]⟩ : ByteArray) ++ q3.Name) ++ (⟨#[32]⟩ : ByteArray)) := Eq.mp (by kernel_rfl) q2i
   replace q2g : Ep7 30 = .func (.func 37) #[] #[] := Eq.mp (by kernel_rfl) q2g
   replace q2e : Ep7 31 = .pointer (some ⟨b6, 1, none⟩) := Eq.mp (by kernel_rfl) q2e
   replace q2f : Ep7 32 = .pointer (some ⟨b6, 1, none⟩) := Eq.mp (by kernel_rfl) q2f
   replace q2h : Ep7 33 = .int .i64 q3.At.Lo := Eq.mp (by kernel_rfl) q2h
   replace q2j : Ep7 34 = .string q0b := Eq.mp (by kernel_rfl) q2j
   replace q2k : Ep7 35 = .string ((((⟨#[105, 110, 112, 117, 116, 32]⟩ : ByteArray) ++ q3.Name) ++ (⟨#[32]⟩ : ByteArray)) ++ q0b) := Eq.mp (by kernel_rfl) q2k
   replace q13 : Ep7 36 = .string (((((⟨#[105, 110, 112, 117, 116, 32]⟩ : ByteArray) ++ q3.Name) ++ (⟨#[32]⟩ : ByteArray)) ++ q0b) ++ (⟨#[32]⟩ : ByteArray)) := Eq.mp (by kernel_rfl) q13
   replace q11 : Ep7 37 = .func (.func 37) #[] #[] := Eq.mp (by kernel_rfl) q11
   replace q0z : Ep7 38 = .pointer (some ⟨b6, 1, none⟩) := Eq.mp (by kernel_rfl) q0z
   replace q10 : Ep7 39 = .pointer (some ⟨b6, 2, none⟩) := Eq.mp (by kernel_rfl) q10
   replace q12 : Ep7 40 = .int .i64 q3.At.Hi := Eq.mp (by kernel_rfl) q12
   replace q14 : Ep7 41 = .string q0e := Eq.mp (by kernel_rfl) q14
   replace q15 : Ep7 42 = .string ((((((⟨#[105, 110, 112, 117, 116, 32]⟩ : ByteArray) ++ q3.Name) ++ (⟨#[32]⟩ : ByteArray)) ++ q0b) ++ (⟨#[32]⟩ : ByteArray)) ++ q0e) := Eq.mp (by kernel_rfl) q15
   replace q16 : Ep7 43 = .string (((((((⟨#[105, 110, 112, 117, 116, 32]⟩ : ByteArray) ++ q3.Name) ++ (⟨#[32]⟩ : ByteArray)) ++ q0b) ++ (⟨#[32]⟩ : ByteArray)) ++ q0e) ++ (⟨#[10]⟩ : ByteArray)) := Eq.mp (by kernel_rfl) q16
   replace q3d : Ep7 44 = .tuple #[.int .i64 ((((((((⟨#[105, 110, 112, 117, 116, 32]⟩ : ByteArray) ++ q3.Name) ++ (⟨#[32]⟩ : ByteArray)) ++ q0b) ++ (⟨#[32]⟩ : ByteArray)) ++ q0e) ++ (⟨#[10]⟩ : ByteArray)).size : Int), .nilIface] := Eq.mp (by kernel_rfl) q3d
   replace hS : St w0 w' (cells b6 66 [.string q3.Name, .int .i64 q3.At.Lo, .int .i64 q3.At.Hi] :: ro ρ :: bld 78 5 b3 q32 :: (cells b1 41 [.int .i64 l_0.Period, .slice q9 l_0.Inputs.length c_l_0_1, .slice q0a l_0.Outputs.length c_l_0_2, .slice q8 l_0.Paths.length c_l_0_3] :: l)) := Eq.mp (by kernel_rfl) hS
   replace hFL5 := ar_s hFL5; obtain ⟨x45, hx45, hFL5⟩ := hFL5
   refine x_blk <| x_region <| p (yadd ((hE7 22 rfl).trans q2a) rfl hx45) <| p (yl_move rfl) <|
    x_done <| ?_
   have e_ := Option.some.inj (show some _ = some _ from hFL5); subst e_
   exact x_inv ⟨kL5, Nat.lt_succ_self _, q32, x45, hLL5, ((hE7 1 rfl).trans q33), ((hE7 3 rfl).trans q2p), ((hE7 4 rfl).trans q24), ((hE7 20 rfl).trans q2z), ((hE7 21 rfl).trans q30), rfl, ((hS.drop.pull 1).pull 2)⟩
  ·replace hFL5 := it_f hc23 hFL5
   refine x_exitTo _ rfl <| ?_
   have e_ := Option.some.inj (show some _ = some _ from hFL5); subst e_
   exact x_inv ⟨q0k, hLL5, q33, q2p, q24, (((hS.pull 2).pull 2).pull 2)⟩
 rintro E w ⟨q2o, rfl, q3e, q51, q52, hS⟩
 refine x_seq <| x_seq <| x_region <| p (yl_field0 fld_41_2 q3e) <|
  pa (at_load one_38 rfl (hS.cell rfl)) <| p (yl_len_slice usl_38 rfl) <| p (yl_move rfl) <| x_done <| ?_
 replace hF := bd_s hF; obtain ⟨oL10, hLL10, hF⟩ := hF
 refine x_join (fun E w => ∃ (q25 : ByteArray), q25 = oL10 ∧ E 1 = .pointer (some ⟨b1, 0, none⟩) ∧ E 3 = .pointer (some ⟨b3, 0, none⟩) ∧ E 4 = .func (.func 37) #[] #[] ∧ St w0 w (cells b1 41 [.int .i64 l_0.Period, .slice q9 l_0.Inputs.length c_l_0_1, .slice q0a l_0.Outputs.length c_l_0_2, .slice q8 l_0.Paths.length c_l_0_3] :: bld 78 5 b3 q25 :: ro ρ :: l)) ?_ ?_
 ·refine x_block ?_
  refine x_loop (fun k_ E w => ∃ (q0h : ByteArray) (q0w : Int), lp (P_clocks_write_L10 l_0) k_ (q0h, q0w) = some oL10 ∧ E 1 = .pointer (some ⟨b1, 0, none⟩) ∧ E 3 = .pointer (some ⟨b3, 0, none⟩) ∧ E 4 = .func (.func 37) #[] #[] ∧ E 47 = .slice q0a l_0.Outputs.length c_l_0_2 ∧ E 48 = .int .i64 (l_0.Outputs.length : Int) ∧ E 49 = .int .i64 q0w ∧ St w0 w (cells b1 41 [.int .i64 l_0.Period, .slice q9 l_0.Inputs.length c_l_0_1, .slice q0a l_0.Outputs.length c_l_0_2, .slice q8 l_0.Paths.length c_l_0_3] :: bld 78 5 b3 q0h :: ro ρ :: l)) fuel ⟨q2o, 0, hLL10, q3e, q51, q52, rfl, rfl, rfl, (((hS.pull 2).pull 2).pull 2)⟩ ?_
  rintro kL10 E w ⟨q0h, q0w, hLL10, q31, q2l, q2m, q2q, q2r, q21, hS⟩
  replace hLL10 := lp_s hLL10; obtain ⟨kL10, obL10, rfl, hFL10, hLL10⟩ := hLL10
  refine x_seq <| x_region <| p (yl_lss q21 q2r) <| x_done <|
   x_seq <|
   x_cond_p (q0w < (l_0.Outputs.length : Int)) rfl (fun hc50 => ?_) (fun hc50 => ?_)
  ·replace hFL10 := it_t hc50 hFL10
   replace hFL10 := ck_s hFL10; obtain ⟨q34, hFL10⟩ := hFL10
   replace hFL10 := lv_s hFL10; obtain ⟨q4, q41, hFL10⟩ := hFL10
   have q_ := q28.get q34; obtain ⟨q54, q35, q42⟩ := q_
   rw [← q41] at q35
   have e_ := q35; subst e_
   refine x_skip <| x_seq <| x_block <| x_seq <|
    x_region <| p (yix_f sl_38 q2q q21 q28 q34) <| pa (v := .agg #[.string q4.Name, .int .i64 q4.Before]) (at_loadAgg agg_68 rfl rfl (Elt.every q42 (hS.pull 2))) <| ?_
   refine o_alloc zero_68 hS (fun b8 w' hS => ?_)
   refine o_storeAgg (news := [.string q4.Name, .int .i64 q4.Before]) agg_68 rfl rfl rfl (by simp [over_length]) hS (fun w' hS => ?_)
   refine x_done <| ?_
   replace hFL10 := ck_s hFL10; obtain ⟨q43, hFL10⟩ := hFL10
   replace hFL10 := ck_s hFL10; obtain ⟨q44, hFL10⟩ := hFL10
   replace hFL10 := bd_s hFL10; obtain ⟨q0f, q45, hFL10⟩ := hFL10
   replace hFL10 := ck_s hFL10; obtain ⟨q46, hFL10⟩ := hFL10
   replace hFL10 := ck_s hFL10; obtain ⟨q47, hFL10⟩ := hFL10
   replace hFL10 := ck_s hFL10; obtain ⟨q3f, hFL10⟩ := hFL10
   replace hFL10 := lv_s hFL10; obtain ⟨q2s, q3g, hFL10⟩ := hFL10
   refine x_par (w0 := w0) [⟨[], [], [53], [], [], []⟩, ⟨[0], [0], [54], [0], [], []⟩, ⟨[0, 1], [1], [55], [], [], []⟩, ⟨[0, 1, 2], [2], [56], [], [], []⟩, ⟨[], [], [57], [], [], []⟩, ⟨[], [], [58], [], [], []⟩, ⟨[5], [5], [59], [0], [], []⟩, ⟨[4, 5, 6], [4, 6], [60], [1], [], []⟩, ⟨[0, 1, 2, 3, 4, 5, 6, 7], [3, 7], [61], [], [], []⟩, ⟨[0, 1, 2, 3, 4, 5, 6, 7, 8], [8], [62], [], [], []⟩, ⟨[0, 1, 2, 3, 4, 5, 6, 7, 8, 9], [9], [63], [], [2], [3]⟩] [⟨none, none, []⟩, ⟨none, none, []⟩, ⟨none, (some 10), []⟩, ⟨(some 10), none, []⟩] [53, 54, 55, 56, 57, 58, 59, 60, 61, 62, 63] [0, 1, 2] [0, 1, 3] [0, 1, 2, 3, 4, 5, 6, 7, 8, 9, 10] [fun Ep12 => Ep12 53 = .pointer (some ⟨b8, 0, none⟩), fun Ep12 => Ep12 54 = .string q4.Name, fun Ep12 => Ep12 55 = .string ((⟨#[111, 117, 116, 112, 117, 116, 32]⟩ : ByteArray) ++ q4.Name), fun Ep12 => Ep12 56 = .string (((⟨#[111, 117, 116, 112, 117, 116, 32]⟩ : ByteArray) ++ q4.Name) ++ (⟨#[32]⟩ : ByteArray)), fun Ep12 => Ep12 57 = .func (.func 37) #[] #[], fun Ep12 => Ep12 58 = .pointer (some ⟨b8, 1, none⟩), fun Ep12 => Ep12 59 = .int .i64 q4.Before, fun Ep12 => Ep12 60 = .string q0f, fun Ep12 => Ep12 61 = .string ((((⟨#[111, 117, 116, 112, 117, 116, 32]⟩ : ByteArray) ++ q4.Name) ++ (⟨#[32]⟩ : ByteArray)) ++ q0f), fun Ep12 => Ep12 62 = .string (((((⟨#[111, 117, 116, 112, 117, 116, 32]⟩ : ByteArray) ++ q4.Name) ++ (⟨#[32]⟩ : ByteArray)) ++ q0f) ++ (⟨#[10]⟩ : ByteArray)), fun Ep12 => Ep12 63 = .tuple #[.int .i64 ((((((⟨#[111, 117, 116, 112, 117, 116, 32]⟩ : ByteArray) ++ q4.Name) ++ (⟨#[32]⟩ : ByteArray)) ++ q0f) ++ (⟨#[10]⟩ : ByteArray)).size : Int), .nilIface]] [fun Ep12 => cells b8 68 [.string q4.Name, .int .i64 q4.Before], fun Ep12 => ro ρ, fun Ep12 => bld 78 5 b3 q0h, fun Ep12 => bld 78 5 b3 q2s] mixed (by kernel_rfl) (((hS.pull 2).pull 3).pull 2) ?_ ?_
   ·refine ⟨?_, ?_, ?_, ?_, ?_, ?_, ?_, ?_, ?_, ?_, ?_, trivial⟩
    ·intro Ep12 w l' hE12 hO12 hF_ hS
     refine p (yl_field0 fld_68_0 (hE12 8 rfl)) <| x_done <| ?_
     refine x_fin ⟨⟨_, rfl⟩, rfl, ?_⟩
     exact Eq.mp (by kernel_rfl) hS
    ·intro Ep12 w l' hE12 hO12 hF_ hS
     obtain ⟨q17, -⟩ := hF_
     replace q17 : Ep12 53 = .pointer (some ⟨b8, 0, none⟩) := Eq.mp (by kernel_rfl) q17
     replace hS : St w0 w (cells b8 68 [.string q4.Name, .int .i64 q4.Before] :: l') := Eq.mp (by kernel_rfl) hS
     refine pa (at_load one_9 q17 (hS.cell rfl)) <| x_done <| ?_
     refine x_fin ⟨⟨_, rfl⟩, rfl, ?_⟩
     exact Eq.mp (by kernel_rfl) hS
    ·intro Ep12 w l' hE12 hO12 hF_ hS
     obtain ⟨q18, -⟩ := hF_
     replace q18 : Ep12 54 = .string q4.Name := Eq.mp (by kernel_rfl) q18
     refine p (yadds rfl q18 q43) <| x_done <| ?_
     refine x_fin ⟨⟨_, rfl⟩, rfl, ?_⟩
     exact Eq.mp (by kernel_rfl) hS
    ·intro Ep12 w l' hE12 hO12 hF_ hS
     obtain ⟨q19, -⟩ := hF_
     replace q19 : Ep12 55 = .string ((⟨#[111, 117, 116, 112, 117, 116, 32]⟩ : ByteArray) ++ q4.Name) := Eq.mp (by kernel_rfl) q19
     refine p (yadds q19 rfl q44) <| x_done <| ?_
     refine x_fin ⟨⟨_, rfl⟩, rfl, ?_⟩
     exact Eq.mp (by kernel_rfl) hS
    ·intro Ep12 w l' hE12 hO12 hF_ hS
     refine p (yl_move ((hE12 4 rfl).trans q2m)) <| x_done <| ?_
     refine x_fin ⟨⟨_, rfl⟩, rfl, ?_⟩
     exact Eq.mp (by kernel_rfl) hS
    ·intro Ep12 w l' hE12 hO12 hF_ hS
     refine p (yl_field0 fld_68_1 (hE12 8 rfl)) <| x_done <| ?_
     refine x_fin ⟨⟨_, rfl⟩, rfl, ?_⟩
     exact Eq.mp (by kernel_rfl) hS
    ·intro Ep12 w l' hE12 hO12 hF_ hS
     obtain ⟨q1a, -⟩ := hF_
     replace q1a : Ep12 58 = .pointer (some ⟨b8, 1, none⟩) := Eq.mp (by kernel_rfl) q1a
     replace hS : St w0 w (cells b8 68 [.string q4.Name, .int .i64 q4.Before] :: l') := Eq.mp (by kernel_rfl) hS
     refine pa (at_load one_3 q1a (hS.cell rfl)) <| x_done <| ?_
     refine x_fin ⟨⟨_, rfl⟩, rfl, ?_⟩
     exact Eq.mp (by kernel_rfl) hS
    ·intro Ep12 w l' hE12 hO12 hF_ hS
     obtain ⟨q1b, q1c, -⟩ := hF_
     replace q1b : Ep12 57 = .func (.func 37) #[] #[] := Eq.mp (by kernel_rfl) q1b
     replace q1c : Ep12 59 = .int .i64 q4.Before := Eq.mp (by kernel_rfl) q1c
     replace hS : St w0 w (ro ρ :: l') := Eq.mp (by kernel_rfl) hS
     have hcall := c_clocks_write_1 q45  hS
     refine o_ccv q1b call_37 (args1 q1c) (hcall) ?_
     rintro e w' ⟨rfl, hS⟩
     refine ⟨_, rfl, ?_⟩
     refine x_done <| ?_
     refine x_fin ⟨⟨_, rfl⟩, rfl, ?_⟩
     exact Eq.mp (by kernel_rfl) hS
    ·intro Ep12 w l' hE12 hO12 hF_ hS
     obtain ⟨q1d, q1e, -⟩ := hF_
     replace q1d : Ep12 56 = .string (((⟨#[111, 117, 116, 112, 117, 116, 32]⟩ : ByteArray) ++ q4.Name) ++ (⟨#[32]⟩ : ByteArray)) := Eq.mp (by kernel_rfl) q1d
     replace q1e : Ep12 60 = .string q0f := Eq.mp (by kernel_rfl) q1e
     refine p (yadds q1d q1e q46) <| x_done <| ?_
     refine x_fin ⟨⟨_, rfl⟩, rfl, ?_⟩
     exact Eq.mp (by kernel_rfl) hS
    ·intro Ep12 w l' hE12 hO12 hF_ hS
     obtain ⟨q1f, -⟩ := hF_
     replace q1f : Ep12 61 = .string ((((⟨#[111, 117, 116, 112, 117, 116, 32]⟩ : ByteArray) ++ q4.Name) ++ (⟨#[32]⟩ : ByteArray)) ++ q0f) := Eq.mp (by kernel_rfl) q1f
     refine p (yadds q1f rfl q47) <| x_done <| ?_
     refine x_fin ⟨⟨_, rfl⟩, rfl, ?_⟩
     exact Eq.mp (by kernel_rfl) hS
    ·intro Ep12 w l' hE12 hO12 hF_ hS
     obtain ⟨q1g, -⟩ := hF_
     replace q1g : Ep12 62 = .string (((((⟨#[111, 117, 116, 112, 117, 116, 32]⟩ : ByteArray) ++ q4.Name) ++ (⟨#[32]⟩ : ByteArray)) ++ q0f) ++ (⟨#[10]⟩ : ByteArray)) := Eq.mp (by kernel_rfl) q1g
     replace hS : St w0 w (bld 78 5 b3 q0h :: l') := Eq.mp (by kernel_rfl) hS
     refine o_cc call_28 (args2 ((hE12 3 rfl).trans q2l) q1g) (bws hS q3f) ?_
     rintro e w' ⟨rfl, hS⟩
     refine ⟨_, rfl, ?_⟩
     rw [← q3g] at hS
     refine x_done <| ?_
     refine x_fin ⟨⟨_, rfl⟩, rfl, ?_⟩
     exact Eq.mp (by kernel_rfl) hS
   intro Ep12 w' hE12 hF_ hS
   obtain ⟨q17, q18, q19, q1d, q1b, q1a, q1c, q1e, q1f, q1g, q36, -⟩ := hF_
   replace q17 : Ep12 53 = .pointer (some ⟨b8, 0, none⟩) := Eq.mp (by kernel_rfl) q17
   replace q18 : Ep12 54 = .string q4.Name := Eq.mp (by kernel_rfl) q18
   replace q19 : Ep12 55 = .string ((⟨#[111, 117, 116, 112, 117, 116, 32]⟩ : ByteArray) ++ q4.Name) := Eq.mp (by kernel_rfl) q19
   replace q1d : Ep12 56 = .string (((⟨#[111, 117, 116, 112, 117, 116, 32]⟩ : ByteArray) ++ q4.Name) ++ (⟨#[32]⟩ : ByteArray)) := Eq.mp (by kernel_rfl) q1d
   replace q1b : Ep12 57 = .func (.func 37) #[] #[] := Eq.mp (by kernel_rfl) q1b
   replace q1a : Ep12 58 = .pointer (some ⟨b8, 1, none⟩) := Eq.mp (by kernel_rfl) q1a
   replace q1c : Ep12 59 = .int .i64 q4.Before := Eq.mp (by kernel_rfl) q1c
   replace q1e : Ep12 60 = .string q0f := Eq.mp (by kernel_rfl) q1e
   replace q1f : Ep12 61 = .string ((((⟨#[111, 117, 116, 112, 117, 116, 32]⟩ : ByteArray) ++ q4.Name) ++ (⟨#[32]⟩ : ByteArray)) ++ q0f) := Eq.mp (by kernel_rfl) q1f
   replace q1g : Ep12 62 = .string (((((⟨#[111, 117, 116, 112, 117, 116, 32]⟩ : ByteArray) ++ q4.Name) ++ (⟨#[32]⟩ : ByteArray)) ++ q0f) ++ (⟨#[10]⟩ : ByteArray)) := Eq.mp (by kernel_rfl) q1g
   replace q36 : Ep12 63 = .tuple #[.int .i64 ((((((⟨#[111, 117, 116, 112, 117, 116, 32]⟩ : ByteArray) ++ q4.Name) ++ (⟨#[32]⟩ : ByteArray)) ++ q0f) ++ (⟨#[10]⟩ : ByteArray)).size : Int), .nilIface] := Eq.mp (by kernel_rfl) q36
   replace hS : St w0 w' (cells b8 68 [.string q4.Name, .int .i64 q4.Before] :: ro ρ :: bld 78 5 b3 q2s :: (cells b1 41 [.int .i64 l_0.Period, .slice q9 l_0.Inputs.length c_l_0_1, .slice q0a l_0.Outputs.length c_l_0_2, .slice q8 l_0.Paths.length c_l_0_3] :: l)) := Eq.mp (by kernel_rfl) hS
   replace hFL10 := ar_s hFL10; obtain ⟨x64, hx64, hFL10⟩ := hFL10
   refine x_blk <| x_region <| p (yadd ((hE12 49 rfl).trans q21) rfl hx64) <| p (yl_move rfl) <|
    x_done <| ?_
   have e_ := Option.some.inj (show some _ = some _ from hFL10); subst e_
   exact x_inv ⟨kL10, Nat.lt_succ_self _, q2s, x64, hLL10, ((hE12 1 rfl).trans q31), ((hE12 3 rfl).trans q2l), ((hE12 4 rfl).trans q2m), ((hE12 47 rfl).trans q2q), ((hE12 48 rfl).trans q2r), rfl, ((hS.drop.pull 1).pull 2)⟩
  ·replace hFL10 := it_f hc50 hFL10
   refine x_exitTo _ rfl <| ?_
   have e_ := Option.some.inj (show some _ = some _ from hFL10); subst e_
   exact x_inv ⟨q0h, hLL10, q31, q2l, q2m, (((hS.pull 2).pull 2).pull 2)⟩
 rintro E w ⟨q25, rfl, q48, q49, q4a, hS⟩
 refine x_seq <| x_region <| p (yl_assign rfl) <| x_done <|
  x_seq <| x_seq <| x_region <| p (yl_field0 fld_41_3 q48) <|
  pa (at_load one_39 rfl (hS.cell rfl)) <| p (yl_len_slice usl_39 rfl) <| p (yl_move rfl) <| x_done <| ?_
 replace hF := bd_s hF; obtain ⟨oL16, hLL16, hF⟩ := hF
 refine x_join (fun E w => ∃ (q2t : ByteArray), q2t = oL16 ∧ E 3 = .pointer (some ⟨b3, 0, none⟩) ∧ St w0 w (bld 78 5 b3 q2t :: ro ρ :: l)) ?_ ?_
 ·refine x_block ?_
  refine x_loop (fun k_ E w => ∃ (q0d : ByteArray) (q0j : Int), lp (P_clocks_write_L16 l_0) k_ (q0d, q0j) = some oL16 ∧ E 3 = .pointer (some ⟨b3, 0, none⟩) ∧ E 4 = .func (.func 37) #[] #[] ∧ E 9 = .func (.func 39) #[] #[] ∧ E 66 = .slice q8 l_0.Paths.length c_l_0_3 ∧ E 67 = .int .i64 (l_0.Paths.length : Int) ∧ E 68 = .int .i64 q0j ∧ St w0 w (bld 78 5 b3 q0d :: ro ρ :: l)) fuel ⟨q25, 0, hLL16, q49, q4a, rfl, rfl, rfl, rfl, ((hS.drop.pull 1).pull 1)⟩ ?_
  rintro kL16 E w ⟨q0d, q0j, hLL16, q0l, q2n, q0i, q22, q23, q0x, hS⟩
  replace hLL16 := lp_s hLL16; obtain ⟨kL16, obL16, rfl, hFL16, hLL16⟩ := hLL16
  refine x_seq <| x_region <| p (yl_lss q0x q23) <| x_done <|
   x_seq <|
   x_cond_p (q0j < (l_0.Paths.length : Int)) rfl (fun hc69 => ?_) (fun hc69 => ?_)
  ·replace hFL16 := it_t hc69 hFL16
   replace hFL16 := ck_s hFL16; obtain ⟨q37, hFL16⟩ := hFL16
   replace hFL16 := lv_s hFL16; obtain ⟨q2, q4b, hFL16⟩ := hFL16
   have q_ := q29.get q37; obtain ⟨q55, q38, q4c⟩ := q_
   rw [← q4b] at q38
   have e_ := q38; subst e_
   refine x_skip <| x_seq <| x_block <| x_seq <|
    x_region <| p (yix_f sl_39 q22 q0x q29 q37) <| pa (v := .agg #[.string q2.From, .string q2.To, .int .i64 q2.Cycles]) (at_loadAgg agg_70 rfl rfl (Elt.every q4c (hS.pull 1))) <| ?_
   refine o_alloc zero_70 hS (fun b11 w' hS => ?_)
   refine o_storeAgg (news := [.string q2.From, .string q2.To, .int .i64 q2.Cycles]) agg_70 rfl rfl rfl (by simp [over_length]) hS (fun w' hS => ?_)
   refine x_done <| x_seq <| x_region <| p (yl_field0 fld_70_2 rfl) <|
    pa (at_load one_3 rfl (hS.cell rfl)) <| p (yl_eql rfl rfl) <| x_done <| ?_
   replace hFL16 := bd_s hFL16; obtain ⟨oc74, hFc74, hFL16⟩ := hFL16
   refine x_join (fun E w => ∃ (q26 : ByteArray), q26 = oc74 ∧ E 3 = .pointer (some ⟨b3, 0, none⟩) ∧ E 4 = .func (.func 37) #[] #[] ∧ E 9 = .func (.func 39) #[] #[] ∧ E 66 = .slice q8 l_0.Paths.length c_l_0_3 ∧ E 67 = .int .i64 (l_0.Paths.length : Int) ∧ E 68 = .int .i64 q0j ∧ St w0 w (bld 78 5 b3 q26 :: ro ρ :: l)) ?_ ?_
   ·refine x_cond_p (q2.Cycles = 0) rfl (fun hc74 => ?_) (fun hc74 => ?_)
    ·replace hFc74 := it_t hc74 hFc74
     replace hFc74 := bd_s hFc74; obtain ⟨q6, q4d, hFc74⟩ := hFc74
     replace hFc74 := ck_s hFc74; obtain ⟨q4e, hFc74⟩ := hFc74
     replace hFc74 := ck_s hFc74; obtain ⟨q4f, hFc74⟩ := hFc74
     replace hFc74 := bd_s hFc74; obtain ⟨q0g, q4g, hFc74⟩ := hFc74
     replace hFc74 := ck_s hFc74; obtain ⟨q3h, hFc74⟩ := hFc74
     replace hFc74 := ck_s hFc74; obtain ⟨q3i, hFc74⟩ := hFc74
     replace hFc74 := ck_s hFc74; obtain ⟨q3j, hFc74⟩ := hFc74
     replace hFc74 := lv_s hFc74; obtain ⟨q2u, q3k, hFc74⟩ := hFc74
     refine x_par (w0 := w0) [⟨[], [], [75], [], [], []⟩, ⟨[], [], [76], [], [], []⟩, ⟨[1], [1], [77], [0], [], []⟩, ⟨[0, 1, 2], [0, 2], [78], [1], [], []⟩, ⟨[0, 1, 2, 3], [3], [79], [], [], []⟩, ⟨[0, 1, 2, 3, 4], [4], [80], [], [], []⟩, ⟨[], [], [81], [], [], []⟩, ⟨[], [], [82], [], [], []⟩, ⟨[7], [7], [83], [0], [], []⟩, ⟨[0, 1, 2, 3, 6, 7, 8], [6, 8], [84], [1], [], []⟩, ⟨[0, 1, 2, 3, 4, 5, 6, 7, 8, 9], [5, 9], [85], [], [], []⟩, ⟨[0, 1, 2, 3, 4, 5, 6, 7, 8, 9, 10], [10], [86], [], [], []⟩, ⟨[0, 1, 2, 3, 4, 5, 6, 7, 8, 9, 10, 11], [11], [87], [], [2], [3]⟩] [⟨none, none, []⟩, ⟨none, none, []⟩, ⟨none, (some 12), []⟩, ⟨(some 12), none, []⟩] [75, 76, 77, 78, 79, 80, 81, 82, 83, 84, 85, 86, 87] [0, 1, 2] [0, 1, 3] [0, 1, 2, 3, 4, 5, 6, 7, 8, 9, 10, 11, 12] [fun Ep19 => Ep19 75 = .func (.func 39) #[] #[], fun Ep19 => Ep19 76 = .pointer (some ⟨b11, 0, none⟩), fun Ep19 => Ep19 77 = .string q2.From, fun Ep19 => Ep19 78 = .string q6, fun Ep19 => Ep19 79 = .string ((⟨#[102, 97, 108, 115, 101, 32]⟩ : ByteArray) ++ q6), fun Ep19 => Ep19 80 = .string (((⟨#[102, 97, 108, 115, 101, 32]⟩ : ByteArray) ++ q6) ++ (⟨#[32]⟩ : ByteArray)), fun Ep19 => Ep19 81 = .func (.func 39) #[] #[], fun Ep19 => Ep19 82 = .pointer (some ⟨b11, 1, none⟩), fun Ep19 => Ep19 83 = .string q2.To, fun Ep19 => Ep19 84 = .string q0g, fun Ep19 => Ep19 85 = .string ((((⟨#[102, 97, 108, 115, 101, 32]⟩ : ByteArray) ++ q6) ++ (⟨#[32]⟩ : ByteArray)) ++ q0g), fun Ep19 => Ep19 86 = .string (((((⟨#[102, 97, 108, 115, 101, 32]⟩ : ByteArray) ++ q6) ++ (⟨#[32]⟩ : ByteArray)) ++ q0g) ++ (⟨#[10]⟩ : ByteArray)), fun Ep19 => Ep19 87 = .tuple #[.int .i64 ((((((⟨#[102, 97, 108, 115, 101, 32]⟩ : ByteArray) ++ q6) ++ (⟨#[32]⟩ : ByteArray)) ++ q0g) ++ (⟨#[10]⟩ : ByteArray)).size : Int), .nilIface]] [fun Ep19 => cells b11 70 [.string q2.From, .string q2.To, .int .i64 q2.Cycles], fun Ep19 => ro ρ, fun Ep19 => bld 78 5 b3 q0d, fun Ep19 => bld 78 5 b3 q2u] mixed (by kernel_rfl) (((hS.pull 1).pull 2).pull 2) ?_ ?_
     ·refine ⟨?_, ?_, ?_, ?_, ?_, ?_, ?_, ?_, ?_, ?_, ?_, ?_, ?_, trivial⟩
      ·intro Ep19 w l' hE19 hO19 hF_ hS
       refine p (yl_move ((hE19 9 rfl).trans q0i)) <| x_done <| ?_
       refine x_fin ⟨⟨_, rfl⟩, rfl, ?_⟩
       exact Eq.mp (by kernel_rfl) hS
      ·intro Ep19 w l' hE19 hO19 hF_ hS
       refine p (yl_field0 fld_70_0 (hE19 11 rfl)) <| x_done <| ?_
       refine x_fin ⟨⟨_, rfl⟩, rfl, ?_⟩
       exact Eq.mp (by kernel_rfl) hS
      ·intro Ep19 w l' hE19 hO19 hF_ hS
       obtain ⟨q1h, -⟩ := hF_
       replace q1h : Ep19 76 = .pointer (some ⟨b11, 0, none⟩) := Eq.mp (by kernel_rfl) q1h
       replace hS : St w0 w (cells b11 70 [.string q2.From, .string q2.To, .int .i64 q2.Cycles] :: l') := Eq.mp (by kernel_rfl) hS
       refine pa (at_load one_9 q1h (hS.cell rfl)) <| x_done <| ?_
       refine x_fin ⟨⟨_, rfl⟩, rfl, ?_⟩
       exact Eq.mp (by kernel_rfl) hS
      ·intro Ep19 w l' hE19 hO19 hF_ hS
       obtain ⟨q1i, q1j, -⟩ := hF_
       replace q1i : Ep19 75 = .func (.func 39) #[] #[] := Eq.mp (by kernel_rfl) q1i
       replace q1j : Ep19 77 = .string q2.From := Eq.mp (by kernel_rfl) q1j
       replace hS : St w0 w (ro ρ :: l') := Eq.mp (by kernel_rfl) hS
       have hcall := c_clocks_write_2 q4d  hS
       refine o_ccv q1i call_39 (args1 q1j) (hcall) ?_
       rintro e w' ⟨rfl, hS⟩
       refine ⟨_, rfl, ?_⟩
       refine x_done <| ?_
       refine x_fin ⟨⟨_, rfl⟩, rfl, ?_⟩
       exact Eq.mp (by kernel_rfl) hS
      ·intro Ep19 w l' hE19 hO19 hF_ hS
       obtain ⟨q1k, -⟩ := hF_
       replace q1k : Ep19 78 = .string q6 := Eq.mp (by kernel_rfl) q1k
       refine p (yadds rfl q1k q4e) <| x_done <| ?_
       refine x_fin ⟨⟨_, rfl⟩, rfl, ?_⟩
       exact Eq.mp (by kernel_rfl) hS
      ·intro Ep19 w l' hE19 hO19 hF_ hS
       obtain ⟨q1l, -⟩ := hF_
       replace q1l : Ep19 79 = .string ((⟨#[102, 97, 108, 115, 101, 32]⟩ : ByteArray) ++ q6) := Eq.mp (by kernel_rfl) q1l
       refine p (yadds q1l rfl q4f) <| x_done <| ?_
       refine x_fin ⟨⟨_, rfl⟩, rfl, ?_⟩
       exact Eq.mp (by kernel_rfl) hS
      ·intro Ep19 w l' hE19 hO19 hF_ hS
       refine p (yl_move ((hE19 9 rfl).trans q0i)) <| x_done <| ?_
       refine x_fin ⟨⟨_, rfl⟩, rfl, ?_⟩
       exact Eq.mp (by kernel_rfl) hS
      ·intro Ep19 w l' hE19 hO19 hF_ hS
       refine p (yl_field0 fld_70_1 (hE19 11 rfl)) <| x_done <| ?_
       refine x_fin ⟨⟨_, rfl⟩, rfl, ?_⟩
       exact Eq.mp (by kernel_rfl) hS
      ·intro Ep19 w l' hE19 hO19 hF_ hS
       obtain ⟨q1m, -⟩ := hF_
       replace q1m : Ep19 82 = .pointer (some ⟨b11, 1, none⟩) := Eq.mp (by kernel_rfl) q1m
       replace hS : St w0 w (cells b11 70 [.string q2.From, .string q2.To, .int .i64 q2.Cycles] :: l') := Eq.mp (by kernel_rfl) hS
       refine pa (at_load one_9 q1m (hS.cell rfl)) <| x_done <| ?_
       refine x_fin ⟨⟨_, rfl⟩, rfl, ?_⟩
       exact Eq.mp (by kernel_rfl) hS
      ·intro Ep19 w l' hE19 hO19 hF_ hS
       obtain ⟨q1n, q1o, -⟩ := hF_
       replace q1n : Ep19 81 = .func (.func 39) #[] #[] := Eq.mp (by kernel_rfl) q1n
       replace q1o : Ep19 83 = .string q2.To := Eq.mp (by kernel_rfl) q1o
       replace hS : St w0 w (ro ρ :: l') := Eq.mp (by kernel_rfl) hS
       have hcall := c_clocks_write_2 q4g  hS
       refine o_ccv q1n call_39 (args1 q1o) (hcall) ?_
       rintro e w' ⟨rfl, hS⟩
       refine ⟨_, rfl, ?_⟩
       refine x_done <| ?_
       refine x_fin ⟨⟨_, rfl⟩, rfl, ?_⟩
       exact Eq.mp (by kernel_rfl) hS
      ·intro Ep19 w l' hE19 hO19 hF_ hS
       obtain ⟨q1p, q1q, -⟩ := hF_
       replace q1p : Ep19 80 = .string (((⟨#[102, 97, 108, 115, 101, 32]⟩ : ByteArray) ++ q6) ++ (⟨#[32]⟩ : ByteArray)) := Eq.mp (by kernel_rfl) q1p
       replace q1q : Ep19 84 = .string q0g := Eq.mp (by kernel_rfl) q1q
       refine p (yadds q1p q1q q3h) <| x_done <| ?_
       refine x_fin ⟨⟨_, rfl⟩, rfl, ?_⟩
       exact Eq.mp (by kernel_rfl) hS
      ·intro Ep19 w l' hE19 hO19 hF_ hS
       obtain ⟨q0m, -⟩ := hF_
       replace q0m : Ep19 85 = .string ((((⟨#[102, 97, 108, 115, 101, 32]⟩ : ByteArray) ++ q6) ++ (⟨#[32]⟩ : ByteArray)) ++ q0g) := Eq.mp (by kernel_rfl) q0m
       refine p (yadds q0m rfl q3i) <| x_done <| ?_
       refine x_fin ⟨⟨_, rfl⟩, rfl, ?_⟩
       exact Eq.mp (by kernel_rfl) hS
      ·intro Ep19 w l' hE19 hO19 hF_ hS
       obtain ⟨q0n, -⟩ := hF_
       replace q0n : Ep19 86 = .string (((((⟨#[102, 97, 108, 115, 101, 32]⟩ : ByteArray) ++ q6) ++ (⟨#[32]⟩ : ByteArray)) ++ q0g) ++ (⟨#[10]⟩ : ByteArray)) := Eq.mp (by kernel_rfl) q0n
       replace hS : St w0 w (bld 78 5 b3 q0d :: l') := Eq.mp (by kernel_rfl) hS
       refine o_cc call_28 (args2 ((hE19 3 rfl).trans q0l) q0n) (bws hS q3j) ?_
       rintro e w' ⟨rfl, hS⟩
       refine ⟨_, rfl, ?_⟩
       rw [← q3k] at hS
       refine x_done <| ?_
       refine x_fin ⟨⟨_, rfl⟩, rfl, ?_⟩
       exact Eq.mp (by kernel_rfl) hS
     intro Ep19 w' hE19 hF_ hS
     obtain ⟨q1i, q1h, q1j, q1k, q1l, q1p, q1n, q1m, q1o, q1q, q0m, q0n, q39, -⟩ := hF_
     replace q1i : Ep19 75 = .func (.func 39) #[] #[] := Eq.mp (by kernel_rfl) q1i
     replace q1h : Ep19 76 = .pointer (some ⟨b11, 0, none⟩) := Eq.mp (by kernel_rfl) q1h
     replace q1j : Ep19 77 = .string q2.From := Eq.mp (by kernel_rfl) q1j
     replace q1k : Ep19 78 = .string q6 := Eq.mp (by kernel_rfl) q1k
     replace q1l : Ep19 79 = .string ((⟨#[102, 97, 108, 115, 101, 32]⟩ : ByteArray) ++ q6) := Eq.mp (by kernel_rfl) q1l
     replace q1p : Ep19 80 = .string (((⟨#[102, 97, 108, 115, 101, 32]⟩ : ByteArray) ++ q6) ++ (⟨#[32]⟩ : ByteArray)) := Eq.mp (by kernel_rfl) q1p
     replace q1n : Ep19 81 = .func (.func 39) #[] #[] := Eq.mp (by kernel_rfl) q1n
     replace q1m : Ep19 82 = .pointer (some ⟨b11, 1, none⟩) := Eq.mp (by kernel_rfl) q1m
     replace q1o : Ep19 83 = .string q2.To := Eq.mp (by kernel_rfl) q1o
     replace q1q : Ep19 84 = .string q0g := Eq.mp (by kernel_rfl) q1q
     replace q0m : Ep19 85 = .string ((((⟨#[102, 97, 108, 115, 101, 32]⟩ : ByteArray) ++ q6) ++ (⟨#[32]⟩ : ByteArray)) ++ q0g) := Eq.mp (by kernel_rfl) q0m
     replace q0n : Ep19 86 = .string (((((⟨#[102, 97, 108, 115, 101, 32]⟩ : ByteArray) ++ q6) ++ (⟨#[32]⟩ : ByteArray)) ++ q0g) ++ (⟨#[10]⟩ : ByteArray)) := Eq.mp (by kernel_rfl) q0n
     replace q39 : Ep19 87 = .tuple #[.int .i64 ((((((⟨#[102, 97, 108, 115, 101, 32]⟩ : ByteArray) ++ q6) ++ (⟨#[32]⟩ : ByteArray)) ++ q0g) ++ (⟨#[10]⟩ : ByteArray)).size : Int), .nilIface] := Eq.mp (by kernel_rfl) q39
     replace hS : St w0 w' (cells b11 70 [.string q2.From, .string q2.To, .int .i64 q2.Cycles] :: ro ρ :: bld 78 5 b3 q2u :: (l)) := Eq.mp (by kernel_rfl) hS
     exact x_inv ⟨q2u, (Option.some.inj (show some _ = some _ from hFc74)), ((hE19 3 rfl).trans q0l), ((hE19 4 rfl).trans q2n), ((hE19 9 rfl).trans q0i), ((hE19 66 rfl).trans q22), ((hE19 67 rfl).trans q23), ((hE19 68 rfl).trans q0x), (hS.drop.pull 1)⟩
    ·replace hFc74 := it_f hc74 hFc74
     replace hFc74 := bd_s hFc74; obtain ⟨q5, q4h, hFc74⟩ := hFc74
     replace hFc74 := ck_s hFc74; obtain ⟨q4i, hFc74⟩ := hFc74
     replace hFc74 := ck_s hFc74; obtain ⟨q4j, hFc74⟩ := hFc74
     replace hFc74 := bd_s hFc74; obtain ⟨q7, q4k, hFc74⟩ := hFc74
     replace hFc74 := ck_s hFc74; obtain ⟨q3l, hFc74⟩ := hFc74
     replace hFc74 := ck_s hFc74; obtain ⟨q3m, hFc74⟩ := hFc74
     replace hFc74 := bd_s hFc74; obtain ⟨q0c, q3n, hFc74⟩ := hFc74
     replace hFc74 := ck_s hFc74; obtain ⟨q3o, hFc74⟩ := hFc74
     replace hFc74 := ck_s hFc74; obtain ⟨q3p, hFc74⟩ := hFc74
     replace hFc74 := ck_s hFc74; obtain ⟨q3q, hFc74⟩ := hFc74
     replace hFc74 := lv_s hFc74; obtain ⟨q2v, q3r, hFc74⟩ := hFc74
     refine x_par (w0 := w0) [⟨[], [], [88], [], [], []⟩, ⟨[], [], [89], [], [], []⟩, ⟨[1], [1], [90], [0], [], []⟩, ⟨[0, 1, 2], [0, 2], [91], [1], [], []⟩, ⟨[0, 1, 2, 3], [3], [92], [], [], []⟩, ⟨[0, 1, 2, 3, 4], [4], [93], [], [], []⟩, ⟨[], [], [94], [], [], []⟩, ⟨[], [], [95], [], [], []⟩, ⟨[7], [7], [96], [0], [], []⟩, ⟨[0, 1, 2, 3, 6, 7, 8], [6, 8], [97], [1], [], []⟩, ⟨[0, 1, 2, 3, 4, 5, 6, 7, 8, 9], [5, 9], [98], [], [], []⟩, ⟨[0, 1, 2, 3, 4, 5, 6, 7, 8, 9, 10], [10], [99], [], [], []⟩, ⟨[], [], [100], [], [], []⟩, ⟨[], [], [101], [], [], []⟩, ⟨[13], [13], [102], [0], [], []⟩, ⟨[0, 1, 2, 3, 6, 7, 8, 9, 12, 13, 14], [12, 14], [103], [1], [], []⟩, ⟨[0, 1, 2, 3, 4, 5, 6, 7, 8, 9, 10, 11, 12, 13, 14, 15], [11, 15], [104], [], [], []⟩, ⟨[0, 1, 2, 3, 4, 5, 6, 7, 8, 9, 10, 11, 12, 13, 14, 15, 16], [16], [105], [], [], []⟩, ⟨[0, 1, 2, 3, 4, 5, 6, 7, 8, 9, 10, 11, 12, 13, 14, 15, 16, 17], [17], [106], [], [2], [3]⟩] [⟨none, none, []⟩, ⟨none, none, []⟩, ⟨none, (some 18), []⟩, ⟨(some 18), none, []⟩] [88, 89, 90, 91, 92, 93, 94, 95, 96, 97, 98, 99, 100, 101, 102, 103, 104, 105, 106] [0, 1, 2] [0, 1, 3] [0, 1, 2, 3, 4, 5, 6, 7, 8, 9, 10, 11, 12, 13, 14, 15, 16, 17, 18] [fun Ep20 => Ep20 88 = .func (.func 37) #[] #[], fun Ep20 => Ep20 89 = .pointer (some ⟨b11, 2, none⟩), fun Ep20 => Ep20 90 = .int .i64 q2.Cycles, fun Ep20 => Ep20 91 = .string q5, fun Ep20 => Ep20 92 = .string ((⟨#[109, 117, 108, 116, 105, 32]⟩ : ByteArray) ++ q5), fun Ep20 => Ep20 93 = .string (((⟨#[109, 117, 108, 116, 105, 32]⟩ : ByteArray) ++ q5) ++ (⟨#[32]⟩ : ByteArray)), fun Ep20 => Ep20 94 = .func (.func 39) #[] #[], fun Ep20 => Ep20 95 = .pointer (some ⟨b11, 0, none⟩), fun Ep20 => Ep20 96 = .string q2.From, fun Ep20 => Ep20 97 = .string q7, fun Ep20 => Ep20 98 = .string ((((⟨#[109, 117, 108, 116, 105, 32]⟩ : ByteArray) ++ q5) ++ (⟨#[32]⟩ : ByteArray)) ++ q7), fun Ep20 => Ep20 99 = .string (((((⟨#[109, 117, 108, 116, 105, 32]⟩ : ByteArray) ++ q5) ++ (⟨#[32]⟩ : ByteArray)) ++ q7) ++ (⟨#[32]⟩ : ByteArray)), fun Ep20 => Ep20 100 = .func (.func 39) #[] #[], fun Ep20 => Ep20 101 = .pointer (some ⟨b11, 1, none⟩), fun Ep20 => Ep20 102 = .string q2.To, fun Ep20 => Ep20 103 = .string q0c, fun Ep20 => Ep20 104 = .string ((((((⟨#[109, 117, 108, 116, 105, 32]⟩ : ByteArray) ++ q5) ++ (⟨#[32]⟩ : ByteArray)) ++ q7) ++ (⟨#[32]⟩ : ByteArray)) ++ q0c), fun Ep20 => Ep20 105 = .string (((((((⟨#[109, 117, 108, 116, 105, 32]⟩ : ByteArray) ++ q5) ++ (⟨#[32]⟩ : ByteArray)) ++ q7) ++ (⟨#[32]⟩ : ByteArray)) ++ q0c) ++ (⟨#[10]⟩ : ByteArray)), fun Ep20 => Ep20 106 = .tuple #[.int .i64 ((((((((⟨#[109, 117, 108, 116, 105, 32]⟩ : ByteArray) ++ q5) ++ (⟨#[32]⟩ : ByteArray)) ++ q7) ++ (⟨#[32]⟩ : ByteArray)) ++ q0c) ++ (⟨#[10]⟩ : ByteArray)).size : Int), .nilIface]] [fun Ep20 => cells b11 70 [.string q2.From, .string q2.To, .int .i64 q2.Cycles], fun Ep20 => ro ρ, fun Ep20 => bld 78 5 b3 q0d, fun Ep20 => bld 78 5 b3 q2v] mixed (by kernel_rfl) (((hS.pull 1).pull 2).pull 2) ?_ ?_
     ·refine ⟨?_, ?_, ?_, ?_, ?_, ?_, ?_, ?_, ?_, ?_, ?_, ?_, ?_, ?_, ?_, ?_, ?_, ?_, ?_, trivial⟩
      ·intro Ep20 w l' hE20 hO20 hF_ hS
       refine p (yl_move ((hE20 4 rfl).trans q2n)) <| x_done <| ?_
       refine x_fin ⟨⟨_, rfl⟩, rfl, ?_⟩
       exact Eq.mp (by kernel_rfl) hS
      ·intro Ep20 w l' hE20 hO20 hF_ hS
       refine p (yl_field0 fld_70_2 (hE20 11 rfl)) <| x_done <| ?_
       refine x_fin ⟨⟨_, rfl⟩, rfl, ?_⟩
       exact Eq.mp (by kernel_rfl) hS
      ·intro Ep20 w l' hE20 hO20 hF_ hS
       obtain ⟨q1r, -⟩ := hF_
       replace q1r : Ep20 89 = .pointer (some ⟨b11, 2, none⟩) := Eq.mp (by kernel_rfl) q1r
       replace hS : St w0 w (cells b11 70 [.string q2.From, .string q2.To, .int .i64 q2.Cycles] :: l') := Eq.mp (by kernel_rfl) hS
       refine pa (at_load one_3 q1r (hS.cell rfl)) <| x_done <| ?_
       refine x_fin ⟨⟨_, rfl⟩, rfl, ?_⟩
       exact Eq.mp (by kernel_rfl) hS
      ·intro Ep20 w l' hE20 hO20 hF_ hS
       obtain ⟨q1s, q1t, -⟩ := hF_
       replace q1s : Ep20 88 = .func (.func 37) #[] #[] := Eq.mp (by kernel_rfl) q1s
       replace q1t : Ep20 90 = .int .i64 q2.Cycles := Eq.mp (by kernel_rfl) q1t
       replace hS : St w0 w (ro ρ :: l') := Eq.mp (by kernel_rfl) hS
       have hcall := c_clocks_write_1 q4h  hS
       refine o_ccv q1s call_37 (args1 q1t) (hcall) ?_
       rintro e w' ⟨rfl, hS⟩
       refine ⟨_, rfl, ?_⟩
       refine x_done <| ?_
       refine x_fin ⟨⟨_, rfl⟩, rfl, ?_⟩
       exact Eq.mp (by kernel_rfl) hS
      ·intro Ep20 w l' hE20 hO20 hF_ hS
       obtain ⟨q1u, -⟩ := hF_
       replace q1u : Ep20 91 = .string q5 := Eq.mp (by kernel_rfl) q1u
       refine p (yadds rfl q1u q4i) <| x_done <| ?_
       refine x_fin ⟨⟨_, rfl⟩, rfl, ?_⟩
       exact Eq.mp (by kernel_rfl) hS
      ·intro Ep20 w l' hE20 hO20 hF_ hS
       obtain ⟨q1v, -⟩ := hF_
       replace q1v : Ep20 92 = .string ((⟨#[109, 117, 108, 116, 105, 32]⟩ : ByteArray) ++ q5) := Eq.mp (by kernel_rfl) q1v
       refine p (yadds q1v rfl q4j) <| x_done <| ?_
       refine x_fin ⟨⟨_, rfl⟩, rfl, ?_⟩
       exact Eq.mp (by kernel_rfl) hS
      ·intro Ep20 w l' hE20 hO20 hF_ hS
       refine p (yl_move ((hE20 9 rfl).trans q0i)) <| x_done <| ?_
       refine x_fin ⟨⟨_, rfl⟩, rfl, ?_⟩
       exact Eq.mp (by kernel_rfl) hS
      ·intro Ep20 w l' hE20 hO20 hF_ hS
       refine p (yl_field0 fld_70_0 (hE20 11 rfl)) <| x_done <| ?_
       refine x_fin ⟨⟨_, rfl⟩, rfl, ?_⟩
       exact Eq.mp (by kernel_rfl) hS
      ·intro Ep20 w l' hE20 hO20 hF_ hS
       obtain ⟨q1w, -⟩ := hF_
       replace q1w : Ep20 95 = .pointer (some ⟨b11, 0, none⟩) := Eq.mp (by kernel_rfl) q1w
       replace hS : St w0 w (cells b11 70 [.string q2.From, .string q2.To, .int .i64 q2.Cycles] :: l') := Eq.mp (by kernel_rfl) hS
       refine pa (at_load one_9 q1w (hS.cell rfl)) <| x_done <| ?_
       refine x_fin ⟨⟨_, rfl⟩, rfl, ?_⟩
       exact Eq.mp (by kernel_rfl) hS
      ·intro Ep20 w l' hE20 hO20 hF_ hS
       obtain ⟨q1x, q1y, -⟩ := hF_
       replace q1x : Ep20 94 = .func (.func 39) #[] #[] := Eq.mp (by kernel_rfl) q1x
       replace q1y : Ep20 96 = .string q2.From := Eq.mp (by kernel_rfl) q1y
       replace hS : St w0 w (ro ρ :: l') := Eq.mp (by kernel_rfl) hS
       have hcall := c_clocks_write_2 q4k  hS
       refine o_ccv q1x call_39 (args1 q1y) (hcall) ?_
       rintro e w' ⟨rfl, hS⟩
       refine ⟨_, rfl, ?_⟩
       refine x_done <| ?_
       refine x_fin ⟨⟨_, rfl⟩, rfl, ?_⟩
       exact Eq.mp (by kernel_rfl) hS
      ·intro Ep20 w l' hE20 hO20 hF_ hS
       obtain ⟨q1z, q20, -⟩ := hF_
       replace q1z : Ep20 93 = .string (((⟨#[109, 117, 108, 116, 105, 32]⟩ : ByteArray) ++ q5) ++ (⟨#[32]⟩ : ByteArray)) := Eq.mp (by kernel_rfl) q1z
       replace q20 : Ep20 97 = .string q7 := Eq.mp (by kernel_rfl) q20
       refine p (yadds q1z q20 q3l) <| x_done <| ?_
       refine x_fin ⟨⟨_, rfl⟩, rfl, ?_⟩
       exact Eq.mp (by kernel_rfl) hS
      ·intro Ep20 w l' hE20 hO20 hF_ hS
       obtain ⟨q0o, -⟩ := hF_
       replace q0o : Ep20 98 = .string ((((⟨#[109, 117, 108, 116, 105, 32]⟩ : ByteArray) ++ q5) ++ (⟨#[32]⟩ : ByteArray)) ++ q7) := Eq.mp (by kernel_rfl) q0o
       refine p (yadds q0o rfl q3m) <| x_done <| ?_
       refine x_fin ⟨⟨_, rfl⟩, rfl, ?_⟩
       exact Eq.mp (by kernel_rfl) hS
      ·intro Ep20 w l' hE20 hO20 hF_ hS
       refine p (yl_move ((hE20 9 rfl).trans q0i)) <| x_done <| ?_
       refine x_fin ⟨⟨_, rfl⟩, rfl, ?_⟩
       exact Eq.mp (by kernel_rfl) hS
      ·intro Ep20 w l' hE20 hO20 hF_ hS
       refine p (yl_field0 fld_70_1 (hE20 11 rfl)) <| x_done <| ?_
       refine x_fin ⟨⟨_, rfl⟩, rfl, ?_⟩
       exact Eq.mp (by kernel_rfl) hS
      ·intro Ep20 w l' hE20 hO20 hF_ hS
       obtain ⟨q0p, -⟩ := hF_
       replace q0p : Ep20 101 = .pointer (some ⟨b11, 1, none⟩) := Eq.mp (by kernel_rfl) q0p
       replace hS : St w0 w (cells b11 70 [.string q2.From, .string q2.To, .int .i64 q2.Cycles] :: l') := Eq.mp (by kernel_rfl) hS
       refine pa (at_load one_9 q0p (hS.cell rfl)) <| x_done <| ?_
       refine x_fin ⟨⟨_, rfl⟩, rfl, ?_⟩
       exact Eq.mp (by kernel_rfl) hS
      ·intro Ep20 w l' hE20 hO20 hF_ hS
       obtain ⟨q0q, q0r, -⟩ := hF_
       replace q0q : Ep20 100 = .func (.func 39) #[] #[] := Eq.mp (by kernel_rfl) q0q
       replace q0r : Ep20 102 = .string q2.To := Eq.mp (by kernel_rfl) q0r
       replace hS : St w0 w (ro ρ :: l') := Eq.mp (by kernel_rfl) hS
       have hcall := c_clocks_write_2 q3n  hS
       refine o_ccv q0q call_39 (args1 q0r) (hcall) ?_
       rintro e w' ⟨rfl, hS⟩
       refine ⟨_, rfl, ?_⟩
       refine x_done <| ?_
       refine x_fin ⟨⟨_, rfl⟩, rfl, ?_⟩
       exact Eq.mp (by kernel_rfl) hS
      ·intro Ep20 w l' hE20 hO20 hF_ hS
       obtain ⟨q0s, q0t, -⟩ := hF_
       replace q0s : Ep20 99 = .string (((((⟨#[109, 117, 108, 116, 105, 32]⟩ : ByteArray) ++ q5) ++ (⟨#[32]⟩ : ByteArray)) ++ q7) ++ (⟨#[32]⟩ : ByteArray)) := Eq.mp (by kernel_rfl) q0s
       replace q0t : Ep20 103 = .string q0c := Eq.mp (by kernel_rfl) q0t
       refine p (yadds q0s q0t q3o) <| x_done <| ?_
       refine x_fin ⟨⟨_, rfl⟩, rfl, ?_⟩
       exact Eq.mp (by kernel_rfl) hS
      ·intro Ep20 w l' hE20 hO20 hF_ hS
       obtain ⟨q0u, -⟩ := hF_
       replace q0u : Ep20 104 = .string ((((((⟨#[109, 117, 108, 116, 105, 32]⟩ : ByteArray) ++ q5) ++ (⟨#[32]⟩ : ByteArray)) ++ q7) ++ (⟨#[32]⟩ : ByteArray)) ++ q0c) := Eq.mp (by kernel_rfl) q0u
       refine p (yadds q0u rfl q3p) <| x_done <| ?_
       refine x_fin ⟨⟨_, rfl⟩, rfl, ?_⟩
       exact Eq.mp (by kernel_rfl) hS
      ·intro Ep20 w l' hE20 hO20 hF_ hS
       obtain ⟨q0v, -⟩ := hF_
       replace q0v : Ep20 105 = .string (((((((⟨#[109, 117, 108, 116, 105, 32]⟩ : ByteArray) ++ q5) ++ (⟨#[32]⟩ : ByteArray)) ++ q7) ++ (⟨#[32]⟩ : ByteArray)) ++ q0c) ++ (⟨#[10]⟩ : ByteArray)) := Eq.mp (by kernel_rfl) q0v
       replace hS : St w0 w (bld 78 5 b3 q0d :: l') := Eq.mp (by kernel_rfl) hS
       refine o_cc call_28 (args2 ((hE20 3 rfl).trans q0l) q0v) (bws hS q3q) ?_
       rintro e w' ⟨rfl, hS⟩
       refine ⟨_, rfl, ?_⟩
       rw [← q3r] at hS
       refine x_done <| ?_
       refine x_fin ⟨⟨_, rfl⟩, rfl, ?_⟩
       exact Eq.mp (by kernel_rfl) hS
     intro Ep20 w' hE20 hF_ hS
     obtain ⟨q1s, q1r, q1t, q1u, q1v, q1z, q1x, q1w, q1y, q20, q0o, q0s, q0q, q0p, q0r, q0t, q0u, q0v, q3a, -⟩ := hF_
     replace q1s : Ep20 88 = .func (.func 37) #[] #[] := Eq.mp (by kernel_rfl) q1s
     replace q1r : Ep20 89 = .pointer (some ⟨b11, 2, none⟩) := Eq.mp (by kernel_rfl) q1r
     replace q1t : Ep20 90 = .int .i64 q2.Cycles := Eq.mp (by kernel_rfl) q1t
     replace q1u : Ep20 91 = .string q5 := Eq.mp (by kernel_rfl) q1u
     replace q1v : Ep20 92 = .string ((⟨#[109, 117, 108, 116, 105, 32]⟩ : ByteArray) ++ q5) := Eq.mp (by kernel_rfl) q1v
     replace q1z : Ep20 93 = .string (((⟨#[109, 117, 108, 116, 105, 32]⟩ : ByteArray) ++ q5) ++ (⟨#[32]⟩ : ByteArray)) := Eq.mp (by kernel_rfl) q1z
     replace q1x : Ep20 94 = .func (.func 39) #[] #[] := Eq.mp (by kernel_rfl) q1x
     replace q1w : Ep20 95 = .pointer (some ⟨b11, 0, none⟩) := Eq.mp (by kernel_rfl) q1w
     replace q1y : Ep20 96 = .string q2.From := Eq.mp (by kernel_rfl) q1y
     replace q20 : Ep20 97 = .string q7 := Eq.mp (by kernel_rfl) q20
     replace q0o : Ep20 98 = .string ((((⟨#[109, 117, 108, 116, 105, 32]⟩ : ByteArray) ++ q5) ++ (⟨#[32]⟩ : ByteArray)) ++ q7) := Eq.mp (by kernel_rfl) q0o
     replace q0s : Ep20 99 = .string (((((⟨#[109, 117, 108, 116, 105, 32]⟩ : ByteArray) ++ q5) ++ (⟨#[32]⟩ : ByteArray)) ++ q7) ++ (⟨#[32]⟩ : ByteArray)) := Eq.mp (by kernel_rfl) q0s
     replace q0q : Ep20 100 = .func (.func 39) #[] #[] := Eq.mp (by kernel_rfl) q0q
     replace q0p : Ep20 101 = .pointer (some ⟨b11, 1, none⟩) := Eq.mp (by kernel_rfl) q0p
     replace q0r : Ep20 102 = .string q2.To := Eq.mp (by kernel_rfl) q0r
     replace q0t : Ep20 103 = .string q0c := Eq.mp (by kernel_rfl) q0t
     replace q0u : Ep20 104 = .string ((((((⟨#[109, 117, 108, 116, 105, 32]⟩ : ByteArray) ++ q5) ++ (⟨#[32]⟩ : ByteArray)) ++ q7) ++ (⟨#[32]⟩ : ByteArray)) ++ q0c) := Eq.mp (by kernel_rfl) q0u
     replace q0v : Ep20 105 = .string (((((((⟨#[109, 117, 108, 116, 105, 32]⟩ : ByteArray) ++ q5) ++ (⟨#[32]⟩ : ByteArray)) ++ q7) ++ (⟨#[32]⟩ : ByteArray)) ++ q0c) ++ (⟨#[10]⟩ : ByteArray)) := Eq.mp (by kernel_rfl) q0v
     replace q3a : Ep20 106 = .tuple #[.int .i64 ((((((((⟨#[109, 117, 108, 116, 105, 32]⟩ : ByteArray) ++ q5) ++ (⟨#[32]⟩ : ByteArray)) ++ q7) ++ (⟨#[32]⟩ : ByteArray)) ++ q0c) ++ (⟨#[10]⟩ : ByteArray)).size : Int), .nilIface] := Eq.mp (by kernel_rfl) q3a
     replace hS : St w0 w' (cells b11 70 [.string q2.From, .string q2.To, .int .i64 q2.Cycles] :: ro ρ :: bld 78 5 b3 q2v :: (l)) := Eq.mp (by kernel_rfl) hS
     exact x_inv ⟨q2v, (Option.some.inj (show some _ = some _ from hFc74)), ((hE20 3 rfl).trans q0l), ((hE20 4 rfl).trans q2n), ((hE20 9 rfl).trans q0i), ((hE20 66 rfl).trans q22), ((hE20 67 rfl).trans q23), ((hE20 68 rfl).trans q0x), (hS.drop.pull 1)⟩
   rintro E w ⟨q26, rfl, q4l, q4m, q4n, q3s, q3t, q3u, hS⟩
   replace hFL16 := ar_s hFL16; obtain ⟨x107, hx107, hFL16⟩ := hFL16
   refine x_blk <| x_region <| p (yadd q3u rfl hx107) <| p (yl_move rfl) <|
    x_done <| ?_
   have e_ := Option.some.inj (show some _ = some _ from hFL16); subst e_
   exact x_inv ⟨kL16, Nat.lt_succ_self _, q26, x107, hLL16, q4l, q4m, q4n, q3s, q3t, rfl, ((hS.pull 1).pull 1)⟩
  ·replace hFL16 := it_f hc69 hFL16
   refine x_exitTo _ rfl <| ?_
   have e_ := Option.some.inj (show some _ = some _ from hFL16); subst e_
   exact x_inv ⟨q0d, hLL16, q0l, ((hS.pull 1).pull 1)⟩
 rintro E w ⟨q2t, rfl, q4o, hS⟩
 refine x_seq <| x_region <| ?_
 replace hF := ck_s hF; obtain ⟨q4p, hF⟩ := hF
 refine o_cc call_29 (args1 q4o) (bst hS q4p) ?_
 rintro e w' ⟨rfl, hS⟩
 refine ⟨_, rfl, ?_⟩
 refine p (yl_assign rfl) <| x_done <| ?_
 have e_ := Option.some.inj (show some _ = some _ from hF); subst e_
 exact x_return ⟨_, ⟨_, _, rfl, rfl, rfl⟩, rfl, hS⟩
attribute [irreducible] P_clocks_write

def P_clocks_Check_L6 (l_0 : T_clocks_Limits) : Int → Option (Int ⊕ (Unit ⊕ Int)) := fun q2 =>
 if q2 < (l_0.Inputs.length : Int) then
  ck (inb q2 l_0.Inputs.length) <|
  lv (gt l_0.Inputs q2) fun q3 =>
  bd (P_clocks_name q3.Name) fun q5 =>
  if (!q5) = true then
   some (Sum.inr (Sum.inr (9 : Int)))
  else
   lv ((decide (q3.At.Lo < 0)) || (decide (q3.At.Hi < q3.At.Lo))) fun x59 =>
   lv (x59 || (decide (16777216 < q3.At.Hi))) fun x65 =>
   if x65 = true then
    some (Sum.inr (Sum.inr (2 : Int)))
   else
    ck (0 ≤ (0 : Int) ∧ (0 : Int) ≤ q2 ∧ q2 ≤ l_0.Inputs.length) <|
    lv (sub l_0.Inputs 0 q2) fun x70 =>
    bd (P_slices_ContainsFunc_clocks_Input_clocks_Input x70 q3) fun q4 =>
    if q4 = true then
     some (Sum.inr (Sum.inr (6 : Int)))
    else
     ar (q2 + 1) fun x73 =>
     some (Sum.inl x73)
 else
  some (Sum.inr (Sum.inl ()))
def P_clocks_Check_L16 (l_0 : T_clocks_Limits) : Int → Option (Int ⊕ (Unit ⊕ Int)) := fun q2 =>
 if q2 < (l_0.Outputs.length : Int) then
  ck (inb q2 l_0.Outputs.length) <|
  lv (gt l_0.Outputs q2) fun q3 =>
  bd (P_clocks_name q3.Name) fun q4 =>
  if (!q4) = true then
   some (Sum.inr (Sum.inr (9 : Int)))
  else
   lv ((decide (q3.Before < 1)) || (decide (16777216 < q3.Before))) fun x95 =>
   if x95 = true then
    some (Sum.inr (Sum.inr (2 : Int)))
   else
    ck (0 ≤ (0 : Int) ∧ (0 : Int) ≤ q2 ∧ q2 ≤ l_0.Outputs.length) <|
    lv (sub l_0.Outputs 0 q2) fun x100 =>
    bd (P_slices_ContainsFunc_clocks_Output_clocks_Output x100 q3) fun q5 =>
    if q5 = true then
     some (Sum.inr (Sum.inr (6 : Int)))
    else
     ar (q2 + 1) fun x103 =>
     some (Sum.inl x103)
 else
  some (Sum.inr (Sum.inl ()))
def P_clocks_Check_L26 (l_0 : T_clocks_Limits) : Int → Option (Int ⊕ (Unit ⊕ Int)) := fun q3 =>
 if q3 < (l_0.Paths.length : Int) then
  ck (inb q3 l_0.Paths.length) <|
  lv (gt l_0.Paths q3) fun q2 =>
  bd (gd (decide (q2.From ≠ (⟨#[]⟩ : ByteArray))) (P_clocks_name q2.From)) fun q5 =>
  lv ((decide (q2.From ≠ (⟨#[]⟩ : ByteArray))) && (!q5)) fun x120 =>
  bd (gd ((!x120) && (decide (q2.To ≠ (⟨#[]⟩ : ByteArray)))) (P_clocks_name q2.To)) fun q4 =>
  lv ((decide (q2.To ≠ (⟨#[]⟩ : ByteArray))) && (!q4)) fun x130 =>
  lv (x120 || x130) fun x131 =>
  if x131 = true then
   some (Sum.inr (Sum.inr (9 : Int)))
  else
   lv ((decide (q2.Cycles < 0)) || (decide (16 < q2.Cycles))) fun x140 =>
   lv (x140 || (decide (q2.Cycles = 1))) fun x145 =>
   if x145 = true then
    some (Sum.inr (Sum.inr (2 : Int)))
   else
    ar (q3 + 1) fun x146 =>
    some (Sum.inl x146)
 else
  some (Sum.inr (Sum.inl ()))
def P_clocks_Check (l_0 : T_clocks_Limits) : Option Int :=
 lv ((decide (l_0.Period < 1)) || (decide (67108864 < l_0.Period))) fun x16 =>
 if x16 = true then
  some (2 : Int)
 else
  lv ((decide (128 < (l_0.Inputs.length : Int))) || (decide (128 < (l_0.Outputs.length : Int)))) fun x26 =>
  lv (x26 || (decide (64 < (l_0.Paths.length : Int)))) fun x32 =>
  if x32 = true then
   some (3 : Int)
  else
   bs (
    lp (P_clocks_Check_L6 l_0) fuel 0) (fun y => some y) fun _ =>
   bs (
    lp (P_clocks_Check_L16 l_0) fuel 0) (fun y => some y) fun _ =>
   bs (
    lp (P_clocks_Check_L26 l_0) fuel 0) (fun y => some y) fun _ =>
   bd (P_clocks_write l_0) fun q2 =>
   if 262144 < (q2.size : Int) then
    some (3 : Int)
   else
    some (0 : Int)
set_option maxHeartbeats 4000000 in
set_option maxRecDepth 100000 in
theorem c_clocks_Check {w0 w : World} {l : List Assn} {ρ : Heap} {q5 : Option Addr} {q0n : Nat} {c_l_0_1 : Nat} {q3 : Option Addr} {q0o : Nat} {c_l_0_2 : Nat} {q4 : Option Addr} {q0p : Nat} {c_l_0_3 : Nat} {l_0 : T_clocks_Limits} {r : Int} (hF : P_clocks_Check l_0 = some r) (q9 : RdS R_clocks_Input ρ q5 q0n c_l_0_1 l_0.Inputs) (q0a : RdS R_clocks_Output ρ q3 q0o c_l_0_2 l_0.Outputs) (q0e : RdS R_clocks_Path ρ q4 q0p c_l_0_3 l_0.Paths) (hS : St w0 w (ro ρ :: l)) :
  Calls Tryd.prog 20 #[.agg #[.int .i64 l_0.Period, .slice q5 q0n c_l_0_1, .slice q3 q0o c_l_0_2, .slice q4 q0p c_l_0_3]] w fun e w' => e = .returned (.int .i64 r) ∧ St w0 w' (ro ρ :: l) := by
 have e_ := q9.n; subst e_
 have e_ := q0a.n; subst e_
 have e_ := q0e.n; subst e_
 refine enterC Tryd.func20 rfl 151 rfl (by simp) ?_
 refine x_seq <| x_region <| ?_
 refine o_box (cs := [.int .i64 l_0.Period, .slice q5 l_0.Inputs.length c_l_0_1, .slice q3 l_0.Outputs.length c_l_0_2, .slice q4 l_0.Paths.length c_l_0_3]) rfl rfl hS (fun b1 w' hS => ?_)
 replace hF := lv_s hF; obtain ⟨x16, hx16, hF⟩ := hF
 refine p (yl_assign rfl) <| x_done <| x_seq <| x_seq <|
  x_region <| p (yl_field0 fld_41_0 rfl) <| pa (at_load one_3 rfl (hS.cell rfl)) <| p (yl_lss rfl rfl) <|
  p (yl_move rfl) <| pg (v := .pointer (some ⟨b1, 0, none⟩)) 12 (c := !(decide (l_0.Period < 1))) (says_f _) (fun hq => Yl.at (yl_field0 fld_41_0 rfl)) <| pg (v := .int .i64 l_0.Period) 12 (c := !(decide (l_0.Period < 1))) (says_f _) (fun hq => at_load one_3 (cv hq) (hS.cell rfl)) <| pg (v := .bool (decide (67108864 < l_0.Period))) 12 (c := !(decide (l_0.Period < 1))) (says_f _) (fun hq => Yl.at (yl_gtr (cv hq) rfl)) <|
  p (yor' rfl rfl (fun hc => (cv (t_not hc))) hx16) <| x_done <|
  x_cond (t := x16) rfl (fun hc16 => ?_) (fun hc16 => ?_)
 ·replace hF := it_t hc16 hF
  refine x_seq <| x_region <| p (yl_assign rfl) <| x_done <| ?_
  have e_ := Option.some.inj (show some _ = some _ from hF); subst e_
  exact x_return ⟨_, ⟨_, _, rfl, rfl, rfl⟩, rfl, hS.drop⟩
 ·replace hF := it_bf hc16 hF
  replace hF := lv_s hF; obtain ⟨x26, hx26, hF⟩ := hF
  replace hF := lv_s hF; obtain ⟨x32, hx32, hF⟩ := hF
  refine x_skip <| x_seq <| x_seq <| x_region <|
   p (yl_field0 fld_41_1 rfl) <| pa (at_load one_37 rfl (hS.cell rfl)) <| p (yl_len_slice usl_37 rfl) <| p (yl_gtr rfl rfl) <|
   p (yl_move rfl) <| pg (v := .pointer (some ⟨b1, 2, none⟩)) 21 (c := !(decide (128 < (l_0.Inputs.length : Int)))) (says_f _) (fun hq => Yl.at (yl_field0 fld_41_2 rfl)) <| pg (v := .slice q3 l_0.Outputs.length c_l_0_2) 21 (c := !(decide (128 < (l_0.Inputs.length : Int)))) (says_f _) (fun hq => at_load one_38 (cv hq) (hS.cell rfl)) <| pg (v := .int .i64 (l_0.Outputs.length : Int)) 21 (c := !(decide (128 < (l_0.Inputs.length : Int)))) (says_f _) (fun hq => Yl.at (yl_len_slice usl_38 (cv hq))) <|
   pg (v := .bool (decide (128 < (l_0.Outputs.length : Int)))) 21 (c := !(decide (128 < (l_0.Inputs.length : Int)))) (says_f _) (fun hq => Yl.at (yl_gtr (cv hq) rfl)) <| p (yor' rfl rfl (fun hc => (cv (t_not hc))) hx26) <| p (yl_move rfl) <| pg (v := .pointer (some ⟨b1, 3, none⟩)) 27 (c := !x26) (says_f _) (fun hq => Yl.at (yl_field0 fld_41_3 rfl)) <|
   pg (v := .slice q4 l_0.Paths.length c_l_0_3) 27 (c := !x26) (says_f _) (fun hq => at_load one_39 (cv hq) (hS.cell rfl)) <| pg (v := .int .i64 (l_0.Paths.length : Int)) 27 (c := !x26) (says_f _) (fun hq => Yl.at (yl_len_slice usl_39 (cv hq))) <| pg (v := .bool (decide (64 < (l_0.Paths.length : Int)))) 27 (c := !x26) (says_f _) (fun hq => Yl.at (yl_gtr (cv hq) rfl)) <| p (yor' rfl rfl (fun hc => (cv (t_not hc))) hx32) <|
   x_done <|
   x_cond (t := x32) rfl (fun hc32 => ?_) (fun hc32 => ?_)
  ·replace hF := it_t hc32 hF
   refine x_seq <| x_region <| p (yl_assign rfl) <| x_done <| ?_
   have e_ := Option.some.inj (show some _ = some _ from hF); subst e_
   exact x_return ⟨_, ⟨_, _, rfl, rfl, rfl⟩, rfl, hS.drop⟩
  ·replace hF := it_bf hc32 hF
   refine x_skip <| x_seq <| x_seq <| x_region <|
    p (yl_field0 fld_41_1 rfl) <| pa (at_load one_37 rfl (hS.cell rfl)) <| p (yl_len_slice usl_37 rfl) <| p (yl_move rfl) <|
    x_done <| ?_
   replace hF := bs_s hF; obtain ⟨oL6, hLL6, hF⟩ := hF
   refine x_join (fun E w => (Sum.inl (())) = oL6 ∧ E 1 = .pointer (some ⟨b1, 0, none⟩) ∧ St w0 w (cells b1 41 [.int .i64 l_0.Period, .slice q5 l_0.Inputs.length c_l_0_1, .slice q3 l_0.Outputs.length c_l_0_2, .slice q4 l_0.Paths.length c_l_0_3] :: ro ρ :: l)) ?_ ?_
   ·refine x_block ?_
    refine x_loop (fun k_ E w => ∃ (q0f : Int), lp (P_clocks_Check_L6 l_0) k_ q0f = some oL6 ∧ E 1 = .pointer (some ⟨b1, 0, none⟩) ∧ E 34 = .slice q5 l_0.Inputs.length c_l_0_1 ∧ E 35 = .int .i64 (l_0.Inputs.length : Int) ∧ E 36 = .int .i64 q0f ∧ St w0 w (cells b1 41 [.int .i64 l_0.Period, .slice q5 l_0.Inputs.length c_l_0_1, .slice q3 l_0.Outputs.length c_l_0_2, .slice q4 l_0.Paths.length c_l_0_3] :: ro ρ :: l)) fuel ⟨0, hLL6, rfl, rfl, rfl, rfl, ((hS.pull 1).pull 1)⟩ ?_
    rintro kL6 E w ⟨q0f, hLL6, q0k, q0q, q0r, q0g, hS⟩
    replace hLL6 := lp_s hLL6; obtain ⟨kL6, obL6, rfl, hFL6, hLL6⟩ := hLL6
    refine x_seq <| x_region <| p (yl_lss q0g q0r) <| x_done <|
     x_seq <|
     x_cond_p (q0f < (l_0.Inputs.length : Int)) rfl (fun hc37 => ?_) (fun hc37 => ?_)
    ·replace hFL6 := it_t hc37 hFL6
     replace hFL6 := ck_s hFL6; obtain ⟨q11, hFL6⟩ := hFL6
     replace hFL6 := lv_s hFL6; obtain ⟨q6, q1i, hFL6⟩ := hFL6
     have q_ := q9.get q11; obtain ⟨q1q, q12, q1j⟩ := q_
     rw [← q1i] at q12
     have e_ := q12; subst e_
     refine x_skip <| x_seq <| x_block <| x_seq <|
      x_region <| p (yl_move q0g) <| p (yix_f sl_37 q0q q0g q9 q11) <| pa (v := .agg #[.string q6.Name, .int .i64 q6.At.Lo, .int .i64 q6.At.Hi]) (at_loadAgg agg_66 rfl rfl (Elt.every q1j (hS.pull 1))) <| ?_
     refine o_alloc zero_66 hS (fun b4 w' hS => ?_)
     refine p (yl_assign rfl) <| ?_
     refine o_storeAgg (news := [.string q6.Name, .int .i64 q6.At.Lo, .int .i64 q6.At.Hi]) agg_66 rfl rfl rfl (by simp [over_length]) hS (fun w' hS => ?_)
     replace hFL6 := bd_s hFL6; obtain ⟨q1n, q1k, hFL6⟩ := hFL6
     refine x_done <| x_block <| x_seq <| x_region <|
      p (yl_field0 fld_66_0 rfl) <| pa (at_load one_9 rfl (hS.cell rfl)) <| ?_
     have hcall := c_clocks_name q1k  (hS.pull 2)
     refine o_cc call_32 (args1 rfl) ((Calls.mono hcall (fun e w'' h => And.intro h.1 ((h.2.pull 2).pull 2)))) ?_
     rintro e w' ⟨rfl, hS⟩
     refine ⟨_, rfl, ?_⟩
     refine p (yl_not rfl) <| p (yl_assign rfl) <| x_done <|
      x_cond (t := !q1n) rfl (fun hc41 => ?_) (fun hc41 => ?_)
     ·replace hFL6 := it_t hc41 hFL6
      refine x_seq <| x_region <| p (yl_assign rfl) <| x_done <| ?_
      have e_ := Option.some.inj (show some _ = some _ from hFL6); subst e_
      have e_ := (show _ = oL6 from hLL6); subst e_
      have e_ := Option.some.inj (show some _ = some _ from hF); subst e_
      exact x_return ⟨_, ⟨_, _, rfl, rfl, rfl⟩, rfl, hS.drop.drop⟩
     ·replace hFL6 := it_bf hc41 hFL6
      replace hFL6 := lv_s hFL6; obtain ⟨x59, hx59, hFL6⟩ := hFL6
      replace hFL6 := lv_s hFL6; obtain ⟨x65, hx65, hFL6⟩ := hFL6
      refine x_seq <| x_region <| p (yl_field0 fld_66_1 rfl) <| p (yl_fieldN fld_63_0 rfl) <|
       pa (at_load one_3 rfl (hS.cell rfl)) <| p (yl_lss rfl rfl) <| p (yl_move rfl) <| pg (v := .pointer (some ⟨b4, 1, none⟩)) 51 (c := !(decide (q6.At.Lo < 0))) (says_f _) (fun hq => Yl.at (yl_field0 fld_66_1 rfl)) <|
       pg (v := .pointer (some ⟨b4, 2, none⟩)) 51 (c := !(decide (q6.At.Lo < 0))) (says_f _) (fun hq => Yl.at (yl_fieldN fld_63_1 (cv hq))) <| pg (v := .int .i64 q6.At.Hi) 51 (c := !(decide (q6.At.Lo < 0))) (says_f _) (fun hq => at_load one_3 (cv hq) (hS.cell rfl)) <| pg (v := .pointer (some ⟨b4, 1, none⟩)) 51 (c := !(decide (q6.At.Lo < 0))) (says_f _) (fun hq => Yl.at (yl_field0 fld_66_1 rfl)) <| pg (v := .pointer (some ⟨b4, 1, none⟩)) 51 (c := !(decide (q6.At.Lo < 0))) (says_f _) (fun hq => Yl.at (yl_fieldN fld_63_0 (cv hq))) <|
       pg (v := .int .i64 q6.At.Lo) 51 (c := !(decide (q6.At.Lo < 0))) (says_f _) (fun hq => at_load one_3 (cv hq) (hS.cell rfl)) <| pg (v := .bool (decide (q6.At.Hi < q6.At.Lo))) 51 (c := !(decide (q6.At.Lo < 0))) (says_f _) (fun hq => Yl.at (yl_lss (cv hq) (cv hq))) <| p (yor' rfl rfl (fun hc => (cv (t_not hc))) hx59) <| p (yl_move rfl) <|
       pg (v := .pointer (some ⟨b4, 1, none⟩)) 60 (c := !x59) (says_f _) (fun hq => Yl.at (yl_field0 fld_66_1 rfl)) <| pg (v := .pointer (some ⟨b4, 2, none⟩)) 60 (c := !x59) (says_f _) (fun hq => Yl.at (yl_fieldN fld_63_1 (cv hq))) <| pg (v := .int .i64 q6.At.Hi) 60 (c := !x59) (says_f _) (fun hq => at_load one_3 (cv hq) (hS.cell rfl)) <| pg (v := .bool (decide (16777216 < q6.At.Hi))) 60 (c := !x59) (says_f _) (fun hq => Yl.at (yl_gtr (cv hq) rfl)) <|
       p (yor' rfl rfl (fun hc => (cv (t_not hc))) hx65) <| p (yl_assign rfl) <| x_done <|
       x_cond (t := x65) rfl (fun hc46 => ?_) (fun hc46 => ?_)
      ·replace hFL6 := it_t hc46 hFL6
       refine x_seq <| x_region <| p (yl_assign rfl) <| x_done <| ?_
       have e_ := Option.some.inj (show some _ = some _ from hFL6); subst e_
       have e_ := (show _ = oL6 from hLL6); subst e_
       have e_ := Option.some.inj (show some _ = some _ from hF); subst e_
       exact x_return ⟨_, ⟨_, _, rfl, rfl, rfl⟩, rfl, hS.drop.drop⟩
      ·replace hFL6 := it_bf hc46 hFL6
       replace hFL6 := ck_s hFL6; obtain ⟨q0t, hFL6⟩ := hFL6
       replace hFL6 := lv_s hFL6; obtain ⟨x70, hx70, hFL6⟩ := hFL6
       refine x_seq <| x_region <| p (yl_field0 fld_41_1 q0k) <| pa (at_load one_37 rfl ((hS.pull 1).cell rfl)) <|
        p (yl_move rfl) <| ?_
       have q_ := RdS.sub q9 q0t hx70; obtain ⟨A70, n70, c70, hd70, f70⟩ := q_
       refine p (ysub_h sl_37 rfl rfl q0t hd70) <| ?_
       have e_ := f70.n; subst e_
       replace hFL6 := bd_s hFL6; obtain ⟨q13, q18, hFL6⟩ := hFL6
       refine p (v := .func (.func 34) #[] #[.pointer (some ⟨b4, 0, none⟩)]) (yl_makeFunc (by simp only [List.map_toArray, List.map_nil]) (by simp only [List.map_toArray, List.map_cons, List.map_nil]; rfl)) <| ?_
       have hcall := c_slices_ContainsFunc_clocks_Input_clocks_Input q18 f70 ((hS.pull 2).pull 1)
       refine o_cc call_33 (args2 rfl rfl) ((Calls.mono hcall (fun e w'' h => And.intro h.1 (((h.2.pull 1).pull 2).pull 2)))) ?_
       rintro e w' ⟨rfl, hS⟩
       refine ⟨_, rfl, ?_⟩
       refine p (v := .bool q13) (yl_assign rfl) <| x_done <|
        x_cond (t := q13) rfl (fun hc66 => ?_) (fun hc66 => ?_)
       ·replace hFL6 := it_t hc66 hFL6
        refine x_seq <| x_region <| p (yl_assign rfl) <| x_done <| ?_
        have e_ := Option.some.inj (show some _ = some _ from hFL6); subst e_
        have e_ := (show _ = oL6 from hLL6); subst e_
        have e_ := Option.some.inj (show some _ = some _ from hF); subst e_
        exact x_return ⟨_, ⟨_, _, rfl, rfl, rfl⟩, rfl, hS.drop.drop⟩
       ·replace hFL6 := it_bf hc66 hFL6
        replace hFL6 := ar_s hFL6; obtain ⟨x73, hx73, hFL6⟩ := hFL6
        refine x_skip <| x_blk <| x_blk <| x_region <|
         p (yadd q0g rfl hx73) <| p (yl_move rfl) <| x_done <| ?_
        have e_ := Option.some.inj (show some _ = some _ from hFL6); subst e_
        exact x_inv ⟨kL6, Nat.lt_succ_self _, x73, hLL6, q0k, q0q, q0r, rfl, ((hS.drop.pull 1).pull 1)⟩
    ·replace hFL6 := it_f hc37 hFL6
     refine x_exitTo _ rfl <| ?_
     have e_ := Option.some.inj (show some _ = some _ from hFL6); subst e_
     exact x_inv ⟨hLL6, q0k, ((hS.pull 1).pull 1)⟩
   rintro E w ⟨rfl, q14, hS⟩
   refine x_seq <| x_seq <| x_region <| p (yl_field0 fld_41_2 q14) <|
    pa (at_load one_38 rfl (hS.cell rfl)) <| p (yl_len_slice usl_38 rfl) <| p (yl_move rfl) <| x_done <| ?_
   replace hF := bs_s hF; obtain ⟨oL16, hLL16, hF⟩ := hF
   refine x_join (fun E w => (Sum.inl (())) = oL16 ∧ E 1 = .pointer (some ⟨b1, 0, none⟩) ∧ St w0 w (cells b1 41 [.int .i64 l_0.Period, .slice q5 l_0.Inputs.length c_l_0_1, .slice q3 l_0.Outputs.length c_l_0_2, .slice q4 l_0.Paths.length c_l_0_3] :: ro ρ :: l)) ?_ ?_
   ·refine x_block ?_
    refine x_loop (fun k_ E w => ∃ (q0b : Int), lp (P_clocks_Check_L16 l_0) k_ q0b = some oL16 ∧ E 1 = .pointer (some ⟨b1, 0, none⟩) ∧ E 75 = .slice q3 l_0.Outputs.length c_l_0_2 ∧ E 76 = .int .i64 (l_0.Outputs.length : Int) ∧ E 77 = .int .i64 q0b ∧ St w0 w (cells b1 41 [.int .i64 l_0.Period, .slice q5 l_0.Inputs.length c_l_0_1, .slice q3 l_0.Outputs.length c_l_0_2, .slice q4 l_0.Paths.length c_l_0_3] :: ro ρ :: l)) fuel ⟨0, hLL16, q14, rfl, rfl, rfl, ((hS.pull 1).pull 1)⟩ ?_
    rintro kL16 E w ⟨q0b, hLL16, q0h, q0l, q0m, q0c, hS⟩
    replace hLL16 := lp_s hLL16; obtain ⟨kL16, obL16, rfl, hFL16, hLL16⟩ := hLL16
    refine x_seq <| x_region <| p (yl_lss q0c q0m) <| x_done <|
     x_seq <|
     x_cond_p (q0b < (l_0.Outputs.length : Int)) rfl (fun hc78 => ?_) (fun hc78 => ?_)
    ·replace hFL16 := it_t hc78 hFL16
     replace hFL16 := ck_s hFL16; obtain ⟨q0u, hFL16⟩ := hFL16
     replace hFL16 := lv_s hFL16; obtain ⟨q7, q19, hFL16⟩ := hFL16
     have q_ := q0a.get q0u; obtain ⟨q1o, q0v, q1a⟩ := q_
     rw [← q19] at q0v
     have e_ := q0v; subst e_
     refine x_skip <| x_seq <| x_block <| x_seq <|
      x_region <| p (yl_move q0c) <| p (yix_f sl_38 q0l q0c q0a q0u) <| pa (v := .agg #[.string q7.Name, .int .i64 q7.Before]) (at_loadAgg agg_68 rfl rfl (Elt.every q1a (hS.pull 1))) <| ?_
     refine o_alloc zero_68 hS (fun b6 w' hS => ?_)
     refine p (yl_assign rfl) <| ?_
     refine o_storeAgg (news := [.string q7.Name, .int .i64 q7.Before]) agg_68 rfl rfl rfl (by simp [over_length]) hS (fun w' hS => ?_)
     replace hFL16 := bd_s hFL16; obtain ⟨q1l, q1b, hFL16⟩ := hFL16
     refine x_done <| x_block <| x_seq <| x_region <|
      p (yl_field0 fld_68_0 rfl) <| pa (at_load one_9 rfl (hS.cell rfl)) <| ?_
     have hcall := c_clocks_name q1b  (hS.pull 2)
     refine o_cc call_32 (args1 rfl) ((Calls.mono hcall (fun e w'' h => And.intro h.1 ((h.2.pull 2).pull 2)))) ?_
     rintro e w' ⟨rfl, hS⟩
     refine ⟨_, rfl, ?_⟩
     refine p (yl_not rfl) <| p (yl_assign rfl) <| x_done <|
      x_cond (t := !q1l) rfl (fun hc82 => ?_) (fun hc82 => ?_)
     ·replace hFL16 := it_t hc82 hFL16
      refine x_seq <| x_region <| p (yl_assign rfl) <| x_done <| ?_
      have e_ := Option.some.inj (show some _ = some _ from hFL16); subst e_
      have e_ := (show _ = oL16 from hLL16); subst e_
      have e_ := Option.some.inj (show some _ = some _ from hF); subst e_
      exact x_return ⟨_, ⟨_, _, rfl, rfl, rfl⟩, rfl, hS.drop.drop⟩
     ·replace hFL16 := it_bf hc82 hFL16
      replace hFL16 := lv_s hFL16; obtain ⟨x95, hx95, hFL16⟩ := hFL16
      refine x_seq <| x_region <| p (yl_field0 fld_68_1 rfl) <| pa (at_load one_3 rfl (hS.cell rfl)) <|
       p (yl_lss rfl rfl) <| p (yl_move rfl) <| pg (v := .pointer (some ⟨b6, 1, none⟩)) 91 (c := !(decide (q7.Before < 1))) (says_f _) (fun hq => Yl.at (yl_field0 fld_68_1 rfl)) <| pg (v := .int .i64 q7.Before) 91 (c := !(decide (q7.Before < 1))) (says_f _) (fun hq => at_load one_3 (cv hq) (hS.cell rfl)) <|
       pg (v := .bool (decide (16777216 < q7.Before))) 91 (c := !(decide (q7.Before < 1))) (says_f _) (fun hq => Yl.at (yl_gtr (cv hq) rfl)) <| p (yor' rfl rfl (fun hc => (cv (t_not hc))) hx95) <| p (yl_assign rfl) <| x_done <|
       x_cond (t := x95) rfl (fun hc87 => ?_) (fun hc87 => ?_)
      ·replace hFL16 := it_t hc87 hFL16
       refine x_seq <| x_region <| p (yl_assign rfl) <| x_done <| ?_
       have e_ := Option.some.inj (show some _ = some _ from hFL16); subst e_
       have e_ := (show _ = oL16 from hLL16); subst e_
       have e_ := Option.some.inj (show some _ = some _ from hF); subst e_
       exact x_return ⟨_, ⟨_, _, rfl, rfl, rfl⟩, rfl, hS.drop.drop⟩
      ·replace hFL16 := it_bf hc87 hFL16
       replace hFL16 := ck_s hFL16; obtain ⟨q0w, hFL16⟩ := hFL16
       replace hFL16 := lv_s hFL16; obtain ⟨x100, hx100, hFL16⟩ := hFL16
       refine x_seq <| x_region <| p (yl_field0 fld_41_2 q0h) <| pa (at_load one_38 rfl ((hS.pull 1).cell rfl)) <|
        p (yl_move rfl) <| ?_
       have q_ := RdS.sub q0a q0w hx100; obtain ⟨A100, n100, c100, hd100, f100⟩ := q_
       refine p (ysub_h sl_38 rfl rfl q0w hd100) <| ?_
       have e_ := f100.n; subst e_
       replace hFL16 := bd_s hFL16; obtain ⟨q15, q1c, hFL16⟩ := hFL16
       refine p (v := .func (.func 36) #[] #[.pointer (some ⟨b6, 0, none⟩)]) (yl_makeFunc (by simp only [List.map_toArray, List.map_nil]) (by simp only [List.map_toArray, List.map_cons, List.map_nil]; rfl)) <| ?_
       have hcall := c_slices_ContainsFunc_clocks_Output_clocks_Output q1c f100 ((hS.pull 2).pull 1)
       refine o_cc call_35 (args2 rfl rfl) ((Calls.mono hcall (fun e w'' h => And.intro h.1 (((h.2.pull 1).pull 2).pull 2)))) ?_
       rintro e w' ⟨rfl, hS⟩
       refine ⟨_, rfl, ?_⟩
       refine p (v := .bool q15) (yl_assign rfl) <| x_done <|
        x_cond (t := q15) rfl (fun hc96 => ?_) (fun hc96 => ?_)
       ·replace hFL16 := it_t hc96 hFL16
        refine x_seq <| x_region <| p (yl_assign rfl) <| x_done <| ?_
        have e_ := Option.some.inj (show some _ = some _ from hFL16); subst e_
        have e_ := (show _ = oL16 from hLL16); subst e_
        have e_ := Option.some.inj (show some _ = some _ from hF); subst e_
        exact x_return ⟨_, ⟨_, _, rfl, rfl, rfl⟩, rfl, hS.drop.drop⟩
       ·replace hFL16 := it_bf hc96 hFL16
        replace hFL16 := ar_s hFL16; obtain ⟨x103, hx103, hFL16⟩ := hFL16
        refine x_skip <| x_blk <| x_blk <| x_region <|
         p (yadd q0c rfl hx103) <| p (yl_move rfl) <| x_done <| ?_
        have e_ := Option.some.inj (show some _ = some _ from hFL16); subst e_
        exact x_inv ⟨kL16, Nat.lt_succ_self _, x103, hLL16, q0h, q0l, q0m, rfl, ((hS.drop.pull 1).pull 1)⟩
    ·replace hFL16 := it_f hc78 hFL16
     refine x_exitTo _ rfl <| ?_
     have e_ := Option.some.inj (show some _ = some _ from hFL16); subst e_
     exact x_inv ⟨hLL16, q0h, ((hS.pull 1).pull 1)⟩
   rintro E w ⟨rfl, q0x, hS⟩
   refine x_seq <| x_seq <| x_region <| p (yl_field0 fld_41_3 q0x) <|
    pa (at_load one_39 rfl (hS.cell rfl)) <| p (yl_len_slice usl_39 rfl) <| p (yl_move rfl) <| x_done <| ?_
   replace hF := bs_s hF; obtain ⟨oL26, hLL26, hF⟩ := hF
   refine x_join (fun E w => (Sum.inl (())) = oL26 ∧ E 1 = .pointer (some ⟨b1, 0, none⟩) ∧ St w0 w (cells b1 41 [.int .i64 l_0.Period, .slice q5 l_0.Inputs.length c_l_0_1, .slice q3 l_0.Outputs.length c_l_0_2, .slice q4 l_0.Paths.length c_l_0_3] :: ro ρ :: l)) ?_ ?_
   ·refine x_block ?_
    refine x_loop (fun k_ E w => ∃ (q8 : Int), lp (P_clocks_Check_L26 l_0) k_ q8 = some oL26 ∧ E 1 = .pointer (some ⟨b1, 0, none⟩) ∧ E 105 = .slice q4 l_0.Paths.length c_l_0_3 ∧ E 106 = .int .i64 (l_0.Paths.length : Int) ∧ E 107 = .int .i64 q8 ∧ St w0 w (cells b1 41 [.int .i64 l_0.Period, .slice q5 l_0.Inputs.length c_l_0_1, .slice q3 l_0.Outputs.length c_l_0_2, .slice q4 l_0.Paths.length c_l_0_3] :: ro ρ :: l)) fuel ⟨0, hLL26, q0x, rfl, rfl, rfl, ((hS.pull 1).pull 1)⟩ ?_
    rintro kL26 E w ⟨q8, hLL26, q0s, q0i, q0j, q0d, hS⟩
    replace hLL26 := lp_s hLL26; obtain ⟨kL26, obL26, rfl, hFL26, hLL26⟩ := hLL26
    refine x_seq <| x_region <| p (yl_lss q0d q0j) <| x_done <|
     x_seq <|
     x_cond_p (q8 < (l_0.Paths.length : Int)) rfl (fun hc108 => ?_) (fun hc108 => ?_)
    ·replace hFL26 := it_t hc108 hFL26
     replace hFL26 := ck_s hFL26; obtain ⟨q0y, hFL26⟩ := hFL26
     replace hFL26 := lv_s hFL26; obtain ⟨q2, q1d, hFL26⟩ := hFL26
     have q_ := q0e.get q0y; obtain ⟨q1p, q0z, q1e⟩ := q_
     rw [← q1d] at q0z
     have e_ := q0z; subst e_
     refine x_skip <| x_seq <| x_block <| x_seq <|
      x_region <| p (yix_f sl_39 q0i q0d q0e q0y) <| pa (v := .agg #[.string q2.From, .string q2.To, .int .i64 q2.Cycles]) (at_loadAgg agg_70 rfl rfl (Elt.every q1e (hS.pull 1))) <| ?_
     refine o_alloc zero_70 hS (fun b8 w' hS => ?_)
     refine o_storeAgg (news := [.string q2.From, .string q2.To, .int .i64 q2.Cycles]) agg_70 rfl rfl rfl (by simp [over_length]) hS (fun w' hS => ?_)
     replace hFL26 := bd_s hFL26; obtain ⟨q16, q1f, hFL26⟩ := hFL26
     refine x_done <| x_block <| x_seq <| x_region <|
      p (yl_field0 fld_70_0 rfl) <| pa (at_load one_9 rfl (hS.cell rfl)) <| p (ynes rfl rfl) <| p (yl_move rfl) <|
      pg (v := .pointer (some ⟨b8, 0, none⟩)) 115 (c := decide (q2.From ≠ (⟨#[]⟩ : ByteArray))) (says_t _) (fun hq => Yl.at (yl_field0 fld_70_0 rfl)) <| pg (v := .string q2.From) 115 (c := decide (q2.From ≠ (⟨#[]⟩ : ByteArray))) (says_t _) (fun hq => at_load one_9 (cv hq) (hS.cell rfl)) <|
      pccg (v := .bool q16) 115 (c := decide (q2.From ≠ (⟨#[]⟩ : ByteArray))) (says_t _) call_32 (fun hq => (args1 (cv hq))) hS (fun hq => by
       have hcall := c_clocks_name (gd_t q1f hq)  (hS.pull 2)
       exact (Calls.mono hcall (fun e w'' h => And.intro h.1 ((h.2.pull 2).pull 2)))) (fun w' hS => ?_)
     replace hFL26 := lv_s hFL26; obtain ⟨x120, hx120, hFL26⟩ := hFL26
     replace hFL26 := bd_s hFL26; obtain ⟨q10, q17, hFL26⟩ := hFL26
     refine pg (v := .bool (!q16)) 115 (c := decide (q2.From ≠ (⟨#[]⟩ : ByteArray))) (says_t _) (fun hq => Yl.at (yl_not (cv hq))) <| p (yand' rfl (fun hc => (cv hc)) rfl hx120) <| p (yl_move rfl) <| pg (v := .pointer (some ⟨b8, 1, none⟩)) 121 (c := !x120) (says_f _) (fun hq => Yl.at (yl_field0 fld_70_1 rfl)) <|
      pg (v := .string q2.To) 121 (c := !x120) (says_f _) (fun hq => at_load one_9 (cv hq) (hS.cell rfl)) <| pg (v := .bool (decide (q2.To ≠ (⟨#[]⟩ : ByteArray)))) 121 (c := !x120) (says_f _) (fun hq => Yl.at (ynes (cv hq) rfl)) <| pg (v := .bool (decide (q2.To ≠ (⟨#[]⟩ : ByteArray)))) 121 (c := !x120) (says_f _) (fun hq => Yl.at (yl_move (cv hq))) <| pg (v := .pointer (some ⟨b8, 1, none⟩)) 125 (c := (!x120) && (decide (q2.To ≠ (⟨#[]⟩ : ByteArray)))) (says_ift _ _) (fun hq => Yl.at (yl_field0 fld_70_1 rfl)) <|
      pg (v := .string q2.To) 125 (c := (!x120) && (decide (q2.To ≠ (⟨#[]⟩ : ByteArray)))) (says_ift _ _) (fun hq => at_load one_9 (cv hq) (hS.cell rfl)) <|
      pccg (v := .bool q10) 125 (c := (!x120) && (decide (q2.To ≠ (⟨#[]⟩ : ByteArray)))) (says_ift _ _) call_32 (fun hq => (args1 (cv hq))) hS (fun hq => by
       have hcall := c_clocks_name (gd_t q17 hq)  (hS.pull 2)
       exact (Calls.mono hcall (fun e w'' h => And.intro h.1 ((h.2.pull 2).pull 2)))) (fun w' hS => ?_)
     replace hFL26 := lv_s hFL26; obtain ⟨x130, hx130, hFL26⟩ := hFL26
     replace hFL26 := lv_s hFL26; obtain ⟨x131, hx131, hFL26⟩ := hFL26
     refine pg (v := .bool (!q10)) 125 (c := (!x120) && (decide (q2.To ≠ (⟨#[]⟩ : ByteArray)))) (says_ift _ _) (fun hq => Yl.at (yl_not (cv hq))) <| pg (v := .bool x130) 121 (c := !x120) (says_f _) (fun hq => Yl.at (yand' (cv hq) (fun hc => (cv (and_i hq hc))) rfl hx130)) <| p (yor' rfl rfl (fun hc => (cv (t_not hc))) hx131) <| p (yl_assign rfl) <|
      x_done <|
      x_cond (t := x131) rfl (fun hc111 => ?_) (fun hc111 => ?_)
     ·replace hFL26 := it_t hc111 hFL26
      refine x_seq <| x_region <| p (yl_assign rfl) <| x_done <| ?_
      have e_ := Option.some.inj (show some _ = some _ from hFL26); subst e_
      have e_ := (show _ = oL26 from hLL26); subst e_
      have e_ := Option.some.inj (show some _ = some _ from hF); subst e_
      exact x_return ⟨_, ⟨_, _, rfl, rfl, rfl⟩, rfl, hS.drop.drop⟩
     ·replace hFL26 := it_bf hc111 hFL26
      replace hFL26 := lv_s hFL26; obtain ⟨x140, hx140, hFL26⟩ := hFL26
      replace hFL26 := lv_s hFL26; obtain ⟨x145, hx145, hFL26⟩ := hFL26
      refine x_seq <| x_region <| p (yl_field0 fld_70_2 rfl) <| pa (at_load one_3 rfl (hS.cell rfl)) <|
       p (yl_lss rfl rfl) <| p (yl_move rfl) <| pg (v := .pointer (some ⟨b8, 2, none⟩)) 136 (c := !(decide (q2.Cycles < 0))) (says_f _) (fun hq => Yl.at (yl_field0 fld_70_2 rfl)) <| pg (v := .int .i64 q2.Cycles) 136 (c := !(decide (q2.Cycles < 0))) (says_f _) (fun hq => at_load one_3 (cv hq) (hS.cell rfl)) <|
       pg (v := .bool (decide (16 < q2.Cycles))) 136 (c := !(decide (q2.Cycles < 0))) (says_f _) (fun hq => Yl.at (yl_gtr (cv hq) rfl)) <| p (yor' rfl rfl (fun hc => (cv (t_not hc))) hx140) <| p (yl_move rfl) <| pg (v := .pointer (some ⟨b8, 2, none⟩)) 141 (c := !x140) (says_f _) (fun hq => Yl.at (yl_field0 fld_70_2 rfl)) <|
       pg (v := .int .i64 q2.Cycles) 141 (c := !x140) (says_f _) (fun hq => at_load one_3 (cv hq) (hS.cell rfl)) <| pg (v := .bool (decide (q2.Cycles = 1))) 141 (c := !x140) (says_f _) (fun hq => Yl.at (yl_eql (cv hq) rfl)) <| p (yor' rfl rfl (fun hc => (cv (t_not hc))) hx145) <| p (yl_assign rfl) <|
       x_done <|
       x_cond (t := x145) rfl (fun hc132 => ?_) (fun hc132 => ?_)
      ·replace hFL26 := it_t hc132 hFL26
       refine x_seq <| x_region <| p (yl_assign rfl) <| x_done <| ?_
       have e_ := Option.some.inj (show some _ = some _ from hFL26); subst e_
       have e_ := (show _ = oL26 from hLL26); subst e_
       have e_ := Option.some.inj (show some _ = some _ from hF); subst e_
       exact x_return ⟨_, ⟨_, _, rfl, rfl, rfl⟩, rfl, hS.drop.drop⟩
      ·replace hFL26 := it_bf hc132 hFL26
       replace hFL26 := ar_s hFL26; obtain ⟨x146, hx146, hFL26⟩ := hFL26
       refine x_skip <| x_blk <| x_blk <| x_region <|
        p (yadd q0d rfl hx146) <| p (yl_move rfl) <| x_done <| ?_
       have e_ := Option.some.inj (show some _ = some _ from hFL26); subst e_
       exact x_inv ⟨kL26, Nat.lt_succ_self _, x146, hLL26, q0s, q0i, q0j, rfl, ((hS.drop.pull 1).pull 1)⟩
    ·replace hFL26 := it_f hc108 hFL26
     refine x_exitTo _ rfl <| ?_
     have e_ := Option.some.inj (show some _ = some _ from hFL26); subst e_
     exact x_inv ⟨hLL26, q0s, ((hS.pull 1).pull 1)⟩
   rintro E w ⟨rfl, q1g, hS⟩
   replace hF := bd_s hF; obtain ⟨q1m, q1h, hF⟩ := hF
   refine x_seq <| x_seq <| x_region <| pa (v := .agg #[.int .i64 l_0.Period, .slice q5 l_0.Inputs.length c_l_0_1, .slice q3 l_0.Outputs.length c_l_0_2, .slice q4 l_0.Paths.length c_l_0_3]) (ld_sub agg_41 q1g rfl rfl hS) <| ?_
   have hcall := c_clocks_write q1h q9 q0a q0e (hS.pull 1)
   refine o_cc call_21 (args1 rfl) ((Calls.mono hcall (fun e w'' h => And.intro h.1 (h.2.pull 1)))) ?_
   rintro e w' ⟨rfl, hS⟩
   refine ⟨_, rfl, ?_⟩
   refine p (yl_len_string us_9 rfl) <| p (yl_gtr rfl rfl) <| x_done <|
    x_cond_p (262144 < (q1m.size : Int)) rfl (fun hc150 => ?_) (fun hc150 => ?_)
   ·replace hF := it_t hc150 hF
    refine x_seq <| x_region <| p (yl_assign rfl) <| x_done <| ?_
    have e_ := Option.some.inj (show some _ = some _ from hF); subst e_
    exact x_return ⟨_, ⟨_, _, rfl, rfl, rfl⟩, rfl, hS.drop⟩
   ·replace hF := it_f hc150 hF
    refine x_skip <| x_seq <| x_region <| p (yl_assign rfl) <|
     x_done <| ?_
    have e_ := Option.some.inj (show some _ = some _ from hF); subst e_
    exact x_return ⟨_, ⟨_, _, rfl, rfl, rfl⟩, rfl, hS.drop⟩
attribute [irreducible] P_clocks_Check

def P_clocks_Text (l_0 : T_clocks_Limits) : Option (ByteArray × Int) :=
 bd (P_clocks_Check l_0) fun q2 =>
 if q2 ≠ 0 then
  some ((⟨#[]⟩ : ByteArray), q2)
 else
  bd (P_clocks_write l_0) fun q3 =>
  some (q3, (0 : Int))
set_option maxHeartbeats 4000000 in
set_option maxRecDepth 100000 in
theorem c_clocks_Text {w0 w : World} {l : List Assn} {ρ : Heap} {q2 : Option Addr} {q9 : Nat} {c_l_0_1 : Nat} {q3 : Option Addr} {q0a : Nat} {c_l_0_2 : Nat} {q4 : Option Addr} {q0b : Nat} {c_l_0_3 : Nat} {l_0 : T_clocks_Limits} {r : (ByteArray × Int)} (hF : P_clocks_Text l_0 = some r) (q5 : RdS R_clocks_Input ρ q2 q9 c_l_0_1 l_0.Inputs) (q6 : RdS R_clocks_Output ρ q3 q0a c_l_0_2 l_0.Outputs) (q7 : RdS R_clocks_Path ρ q4 q0b c_l_0_3 l_0.Paths) (hS : St w0 w (ro ρ :: l)) :
  Calls Tryd.prog 7 #[.agg #[.int .i64 l_0.Period, .slice q2 q9 c_l_0_1, .slice q3 q0a c_l_0_2, .slice q4 q0b c_l_0_3]] w fun e w' => e = .returned (.tuple #[.string r.1, .int .i64 r.2]) ∧ St w0 w' (ro ρ :: l) := by
 have e_ := q5.n; subst e_
 have e_ := q6.n; subst e_
 have e_ := q7.n; subst e_
 refine enterC Tryd.func7 rfl 12 rfl (by simp) ?_
 refine x_seq <| x_region <| ?_
 refine o_box (cs := [.int .i64 l_0.Period, .slice q2 l_0.Inputs.length c_l_0_1, .slice q3 l_0.Outputs.length c_l_0_2, .slice q4 l_0.Paths.length c_l_0_3]) rfl rfl hS (fun b1 w' hS => ?_)
 replace hF := bd_s hF; obtain ⟨q8, q0c, hF⟩ := hF
 refine p (yl_assign rfl) <| p (yl_assign rfl) <| x_done <| x_seq <|
  x_seq <| x_region <| pa (v := .agg #[.int .i64 l_0.Period, .slice q2 l_0.Inputs.length c_l_0_1, .slice q3 l_0.Outputs.length c_l_0_2, .slice q4 l_0.Paths.length c_l_0_3]) (ld_sub agg_41 rfl rfl rfl hS) <| ?_
 have hcall := c_clocks_Check q0c q5 q6 q7 (hS.pull 1)
 refine o_cc call_20 (args1 rfl) ((Calls.mono hcall (fun e w'' h => And.intro h.1 (h.2.pull 1)))) ?_
 rintro e w' ⟨rfl, hS⟩
 refine ⟨_, rfl, ?_⟩
 refine p (v := .int .i64 q8) (yl_assign rfl) <| x_done <| x_seq <| x_region <|
  p (v := .int .i64 q8) (yl_move rfl) <| p (yl_neq rfl rfl) <| x_done <|
  x_cond_p (q8 ≠ 0) rfl (fun hc8 => ?_) (fun hc8 => ?_)
 ·replace hF := it_t hc8 hF
  refine x_seq <| x_region <| p (v := .int .i64 q8) (yl_move rfl) <| p (yl_assign rfl) <|
   p (v := .int .i64 q8) (yl_assign rfl) <| x_done <| ?_
  have e_ := Option.some.inj (show some _ = some _ from hF); subst e_
  exact x_return ⟨_, ⟨_, _, rfl, rfl, _, _, rfl, rfl, rfl⟩, rfl, hS.drop⟩
 ·replace hF := it_f hc8 hF
  replace hF := bd_s hF; obtain ⟨q0e, q0d, hF⟩ := hF
  refine x_skip <| x_seq <| x_region <| pa (v := .agg #[.int .i64 l_0.Period, .slice q2 l_0.Inputs.length c_l_0_1, .slice q3 l_0.Outputs.length c_l_0_2, .slice q4 l_0.Paths.length c_l_0_3]) (ld_sub agg_41 rfl rfl rfl hS) <| ?_
  have hcall := c_clocks_write q0d q5 q6 q7 (hS.pull 1)
  refine o_cc call_21 (args1 rfl) ((Calls.mono hcall (fun e w'' h => And.intro h.1 (h.2.pull 1)))) ?_
  rintro e w' ⟨rfl, hS⟩
  refine ⟨_, rfl, ?_⟩
  refine p (v := .string q0e) (yl_assign rfl) <| p (yl_assign rfl) <| x_done <| ?_
  have e_ := Option.some.inj (show some _ = some _ from hF); subst e_
  exact x_return ⟨_, ⟨_, _, rfl, rfl, _, _, rfl, rfl, rfl⟩, rfl, hS.drop⟩
attribute [irreducible] P_clocks_Text

def P_strings_Split (s0 sep1 : ByteArray) : Option (List ByteArray) := ck (s0.size < 4294967281 ∧ 1 ≤ sep1.size) <| some (splitS s0 sep1)
theorem c_strings_Split {w0 w : World} {l : List Assn} {ρ : Heap} {s0 sep1 : ByteArray} {r : List ByteArray} (hF : P_strings_Split s0 sep1 = some r) (hS : St w0 w (ro ρ :: l)) :
  Calls Tryd.prog 9 #[.string s0, .string sep1] w fun e w' => ∃ (A_r : Option Addr) (n_r : Nat) (c_r : Nat) (q2 : List Value), e = .returned (.slice A_r n_r c_r) ∧ RepL RpS ρ r q2 ∧ St w0 w' (vec 9 RpS.sz (.slice A_r n_r c_r) n_r q2 :: ro ρ :: l) := by
 obtain ⟨h, hF⟩ := ck_s hF
 cases hF
 exact split_at h.1 h.2 hS
attribute [irreducible] P_strings_Split

def P_clocks_Cycles_L2 (l_0 : T_clocks_Limits) (q4 : ByteArray) (to2 : ByteArray) : Int → Option (Int ⊕ (Unit ⊕ Int)) := fun q2 =>
 if q2 < (l_0.Paths.length : Int) then
  ck (inb q2 l_0.Paths.length) <|
  lv (gt l_0.Paths q2) fun q3 =>
  lv ((decide (q3.From = (⟨#[]⟩ : ByteArray))) || (decide (q3.From = q4))) fun x24 =>
  lv ((decide (q3.To = (⟨#[]⟩ : ByteArray))) || (decide (q3.To = to2))) fun x34 =>
  lv (x24 && x34) fun x35 =>
  if x35 = true then
   some (Sum.inr (Sum.inr q3.Cycles))
  else
   ar (q2 + 1) fun x38 =>
   some (Sum.inl x38)
 else
  some (Sum.inr (Sum.inl ()))
def P_clocks_Cycles (l_0 : T_clocks_Limits) (q2 : ByteArray) (to2 : ByteArray) : Option Int :=
 bs (
  lp (P_clocks_Cycles_L2 l_0 q2 to2) fuel 0) (fun y => some y) fun _ =>
 some (1 : Int)
set_option maxHeartbeats 4000000 in
set_option maxRecDepth 100000 in
theorem c_clocks_Cycles {w0 w : World} {l : List Assn} {ρ : Heap} {q6 : Option Addr} {q0a : Nat} {c_l_0_1 : Nat} {q7 : Option Addr} {q0b : Nat} {c_l_0_2 : Nat} {q4 : Option Addr} {q0c : Nat} {c_l_0_3 : Nat} {l_0 : T_clocks_Limits} {q3 : ByteArray} {to2 : ByteArray} {r : Int} (hF : P_clocks_Cycles l_0 q3 to2 = some r) (q0j : RdS R_clocks_Input ρ q6 q0a c_l_0_1 l_0.Inputs) (q0k : RdS R_clocks_Output ρ q7 q0b c_l_0_2 l_0.Outputs) (q8 : RdS R_clocks_Path ρ q4 q0c c_l_0_3 l_0.Paths) (hS : St w0 w (ro ρ :: l)) :
  Calls Tryd.prog 25 #[.agg #[.int .i64 l_0.Period, .slice q6 q0a c_l_0_1, .slice q7 q0b c_l_0_2, .slice q4 q0c c_l_0_3], .string q3, .string to2] w fun e w' => e = .returned (.int .i64 r) ∧ St w0 w' (ro ρ :: l) := by
 have e_ := q0j.n; subst e_
 have e_ := q0k.n; subst e_
 have e_ := q8.n; subst e_
 refine enterC Tryd.func25 rfl 39 rfl (by simp) ?_
 refine x_seq <| x_region <| ?_
 refine o_box (cs := [.int .i64 l_0.Period, .slice q6 l_0.Inputs.length c_l_0_1, .slice q7 l_0.Outputs.length c_l_0_2, .slice q4 l_0.Paths.length c_l_0_3]) rfl rfl hS (fun b3 w' hS => ?_)
 refine p (yl_assign rfl) <| x_done <| x_seq <| x_seq <|
  x_region <| p (yl_field0 fld_41_3 rfl) <| pa (at_load one_39 rfl (hS.cell rfl)) <| p (yl_len_slice usl_39 rfl) <|
  p (yl_move rfl) <| x_done <| ?_
 replace hF := bs_s hF; obtain ⟨oL2, hLL2, hF⟩ := hF
 refine x_join (fun E w => (Sum.inl (())) = oL2 ∧ St w0 w (ro ρ :: l)) ?_ ?_
 ·refine x_block ?_
  refine x_loop (fun k_ E w => ∃ (q5 : Int), lp (P_clocks_Cycles_L2 l_0 q3 to2) k_ q5 = some oL2 ∧ E 1 = .string q3 ∧ E 2 = .string to2 ∧ E 10 = .slice q4 l_0.Paths.length c_l_0_3 ∧ E 11 = .int .i64 (l_0.Paths.length : Int) ∧ E 12 = .int .i64 q5 ∧ St w0 w (ro ρ :: l)) fuel ⟨0, hLL2, rfl, rfl, rfl, rfl, rfl, hS.drop⟩ ?_
  rintro kL2 E w ⟨q5, hLL2, q0f, q0g, q0d, q0e, q9, hS⟩
  replace hLL2 := lp_s hLL2; obtain ⟨kL2, obL2, rfl, hFL2, hLL2⟩ := hLL2
  refine x_seq <| x_region <| p (yl_lss q9 q0e) <| x_done <|
   x_seq <|
   x_cond_p (q5 < (l_0.Paths.length : Int)) rfl (fun hc13 => ?_) (fun hc13 => ?_)
  ·replace hFL2 := it_t hc13 hFL2
   replace hFL2 := ck_s hFL2; obtain ⟨q0h, hFL2⟩ := hFL2
   replace hFL2 := lv_s hFL2; obtain ⟨q2, q0l, hFL2⟩ := hFL2
   have q_ := q8.get q0h; obtain ⟨q0n, q0i, q0m⟩ := q_
   rw [← q0l] at q0i
   have e_ := q0i; subst e_
   refine x_skip <| x_seq <| x_block <| x_seq <|
    x_region <| p (yix_f sl_39 q0d q9 q8 q0h) <| pa (v := .agg #[.string q2.From, .string q2.To, .int .i64 q2.Cycles]) (at_loadAgg agg_70 rfl rfl (Elt.every q0m hS)) <| ?_
   refine o_alloc zero_70 hS (fun b8 w' hS => ?_)
   refine o_storeAgg (news := [.string q2.From, .string q2.To, .int .i64 q2.Cycles]) agg_70 rfl rfl rfl (by simp [over_length]) hS (fun w' hS => ?_)
   replace hFL2 := lv_s hFL2; obtain ⟨x24, hx24, hFL2⟩ := hFL2
   replace hFL2 := lv_s hFL2; obtain ⟨x34, hx34, hFL2⟩ := hFL2
   replace hFL2 := lv_s hFL2; obtain ⟨x35, hx35, hFL2⟩ := hFL2
   refine x_done <| x_seq <| x_region <| p (yl_field0 fld_70_0 rfl) <|
    pa (at_load one_9 rfl (hS.cell rfl)) <| p (yl_eql_string rfl rfl) <| p (yl_move rfl) <| pg (v := .pointer (some ⟨b8, 0, none⟩)) 19 (c := !(decide (q2.From = (⟨#[]⟩ : ByteArray)))) (says_f _) (fun hq => Yl.at (yl_field0 fld_70_0 rfl)) <|
    pg (v := .string q2.From) 19 (c := !(decide (q2.From = (⟨#[]⟩ : ByteArray)))) (says_f _) (fun hq => at_load one_9 (cv hq) (hS.cell rfl)) <| pg (v := .string q3) 19 (c := !(decide (q2.From = (⟨#[]⟩ : ByteArray)))) (says_f _) (fun hq => Yl.at (yl_move q0f)) <| pg (v := .bool (decide (q2.From = q3))) 19 (c := !(decide (q2.From = (⟨#[]⟩ : ByteArray)))) (says_f _) (fun hq => Yl.at (yl_eql_string (cv hq) (cv hq))) <| p (yor' rfl rfl (fun hc => (cv (t_not hc))) hx24) <|
    p (yl_move rfl) <| pg (v := .pointer (some ⟨b8, 1, none⟩)) 25 (c := x24) (says_t _) (fun hq => Yl.at (yl_field0 fld_70_1 rfl)) <| pg (v := .string q2.To) 25 (c := x24) (says_t _) (fun hq => at_load one_9 (cv hq) (hS.cell rfl)) <| pg (v := .bool (decide (q2.To = (⟨#[]⟩ : ByteArray)))) 25 (c := x24) (says_t _) (fun hq => Yl.at (yl_eql_string (cv hq) rfl)) <|
    pg (v := .bool (decide (q2.To = (⟨#[]⟩ : ByteArray)))) 25 (c := x24) (says_t _) (fun hq => Yl.at (yl_move (cv hq))) <| pg (v := .pointer (some ⟨b8, 1, none⟩)) 29 (c := x24 && !(decide (q2.To = (⟨#[]⟩ : ByteArray)))) (says_iff _ _) (fun hq => Yl.at (yl_field0 fld_70_1 rfl)) <| pg (v := .string q2.To) 29 (c := x24 && !(decide (q2.To = (⟨#[]⟩ : ByteArray)))) (says_iff _ _) (fun hq => at_load one_9 (cv hq) (hS.cell rfl)) <| pg (v := .string to2) 29 (c := x24 && !(decide (q2.To = (⟨#[]⟩ : ByteArray)))) (says_iff _ _) (fun hq => Yl.at (yl_move q0g)) <|
    pg (v := .bool (decide (q2.To = to2))) 29 (c := x24 && !(decide (q2.To = (⟨#[]⟩ : ByteArray)))) (says_iff _ _) (fun hq => Yl.at (yl_eql_string (cv hq) (cv hq))) <| pg (v := .bool x34) 25 (c := x24) (says_t _) (fun hq => Yl.at (yor' (cv hq) rfl (fun hc => (cv (and_i hq (t_not hc)))) hx34)) <| p (yand' rfl (fun hc => (cv hc)) rfl hx35) <| x_done <|
    x_cond (t := x35) rfl (fun hc35 => ?_) (fun hc35 => ?_)
   ·replace hFL2 := it_t hc35 hFL2
    refine x_seq <| x_region <| p (yl_field0 fld_70_2 rfl) <| pa (at_load one_3 rfl (hS.cell rfl)) <|
     p (yl_assign rfl) <| x_done <| ?_
    have e_ := Option.some.inj (show some _ = some _ from hFL2); subst e_
    have e_ := (show _ = oL2 from hLL2); subst e_
    have e_ := Option.some.inj (show some _ = some _ from hF); subst e_
    exact x_return ⟨_, ⟨_, _, rfl, rfl, rfl⟩, rfl, hS.drop⟩
   ·replace hFL2 := it_bf hc35 hFL2
    replace hFL2 := ar_s hFL2; obtain ⟨x38, hx38, hFL2⟩ := hFL2
    refine x_skip <| x_blk <| x_region <| p (yadd q9 rfl hx38) <|
     p (yl_move rfl) <| x_done <| ?_
    have e_ := Option.some.inj (show some _ = some _ from hFL2); subst e_
    exact x_inv ⟨kL2, Nat.lt_succ_self _, x38, hLL2, q0f, q0g, q0d, q0e, rfl, hS.drop⟩
  ·replace hFL2 := it_f hc13 hFL2
   refine x_exitTo _ rfl <| ?_
   have e_ := Option.some.inj (show some _ = some _ from hFL2); subst e_
   exact x_inv ⟨hLL2, hS⟩
 rintro E w ⟨rfl, hS⟩
 refine x_seq <| x_region <| p (yl_assign rfl) <| x_done <| ?_
 have e_ := Option.some.inj (show some _ = some _ from hF); subst e_
 exact x_return ⟨_, ⟨_, _, rfl, rfl, rfl⟩, rfl, hS⟩
attribute [irreducible] P_clocks_Cycles

def P_maskkeep4_asks : Option Bool :=
 bd (P_clocks_Cycles (T_clocks_Limits.mk 5 [] [] ([(T_clocks_Path.mk (⟨#[97]⟩ : ByteArray) (⟨#[]⟩ : ByteArray) 2), (T_clocks_Path.mk (⟨#[]⟩ : ByteArray) (⟨#[98]⟩ : ByteArray) 0)] : List T_clocks_Path)) (⟨#[97]⟩ : ByteArray) (⟨#[98]⟩ : ByteArray)) fun q2 =>
 bd (gd (decide (q2 = 2)) (P_clocks_Cycles (T_clocks_Limits.mk 5 [] [] ([(T_clocks_Path.mk (⟨#[97]⟩ : ByteArray) (⟨#[]⟩ : ByteArray) 2), (T_clocks_Path.mk (⟨#[]⟩ : ByteArray) (⟨#[98]⟩ : ByteArray) 0)] : List T_clocks_Path)) (⟨#[99]⟩ : ByteArray) (⟨#[98]⟩ : ByteArray))) fun q4 =>
 lv ((decide (q2 = 2)) && (decide (q4 = 0))) fun x13 =>
 bd (gd (x13) (P_clocks_Check (T_clocks_Limits.mk 5 [] [] ([(T_clocks_Path.mk (⟨#[97]⟩ : ByteArray) (⟨#[]⟩ : ByteArray) 2), (T_clocks_Path.mk (⟨#[]⟩ : ByteArray) (⟨#[98]⟩ : ByteArray) 0)] : List T_clocks_Path)))) fun q3 =>
 lv (x13 && (decide (q3 = 0))) fun x18 =>
 some x18
set_option maxHeartbeats 4000000 in
set_option maxRecDepth 100000 in
theorem c_maskkeep4_asks {w0 w : World} {l : List Assn} {ρ : Heap} {r : Bool} (hF : P_maskkeep4_asks = some r) (hS : St w0 w (ro ρ :: l)) :
  Calls Tryd.prog 10 #[] w fun e w' => e = .returned (.bool r) ∧ St w0 w' (ro ρ :: l) := by
 refine enterC Tryd.func10 rfl 19 rfl (by simp) ?_
 refine x_seq <| x_region <| p (yl_assign rfl) <| x_done <|
  x_seq <| x_region <| p (v := .agg #[.string (⟨#[97]⟩ : ByteArray), .string (⟨#[]⟩ : ByteArray), .int .i64 2]) (yl_build bld_70 bldf_70 (parts_eq (pt (va := .string (⟨#[97]⟩ : ByteArray)) rfl (pt (va := .int .i64 2) rfl pt0))) (by kernel_rfl)) <| p (v := .agg #[.string (⟨#[]⟩ : ByteArray), .string (⟨#[98]⟩ : ByteArray), .int .i64 0]) (yl_build bld_70 bldf_70 (parts_eq (pt (va := .string (⟨#[98]⟩ : ByteArray)) rfl pt0)) (by kernel_rfl)) <| ?_
 refine o_buildSlice (vs := [.agg #[.string (⟨#[97]⟩ : ByteArray), .string (⟨#[]⟩ : ByteArray), .int .i64 2], .agg #[.string (⟨#[]⟩ : ByteArray), .string (⟨#[98]⟩ : ByteArray), .int .i64 0]]) (cs := [.string (⟨#[97]⟩ : ByteArray), .string (⟨#[]⟩ : ByteArray), .int .i64 2, .string (⟨#[]⟩ : ByteArray), .string (⟨#[98]⟩ : ByteArray), .int .i64 0]) sl_39 zero_70 (parts_eq (pt (va := .agg #[.string (⟨#[97]⟩ : ByteArray), .string (⟨#[]⟩ : ByteArray), .int .i64 2]) rfl (pt (va := .agg #[.string (⟨#[]⟩ : ByteArray), .string (⟨#[98]⟩ : ByteArray), .int .i64 0]) rfl pt0))) rfl (by intro v hv; simp only [List.mem_cons, List.not_mem_nil, or_false] at hv; first | (subst hv; rfl) | (rcases hv with rfl | rfl <;> rfl)) (by decide) rfl hS (fun b4 w' hS => ?_)
 refine p (v := .agg #[.int .i64 5, .slice none 0 0, .slice none 0 0, .slice (some ⟨b4, 0, none⟩) 2 2]) (yl_build bld_41 bldf_41 (parts_eq (pt (va := .int .i64 5) rfl (pt (va := .slice (some ⟨b4, 0, none⟩) 2 2) rfl pt0))) (by kernel_rfl)) <| ?_
 refine o_alloc zero_41 hS (fun b1 w' hS => ?_)
 refine o_storeAgg (news := [.int .i64 5, .slice none 0 0, .slice none 0 0, .slice (some ⟨b4, 0, none⟩) 2 2]) agg_41 rfl rfl rfl (by simp [over_length]) hS (fun w' hS => ?_)
 refine x_done <| x_seq <| x_region <| pa (v := .agg #[.int .i64 5, .slice none 0 0, .slice none 0 0, .slice (some ⟨b4, 0, none⟩) 2 2]) (ld_sub agg_41 rfl rfl rfl hS) <| ?_
 have q2 : RepL R_clocks_Path ρ ([(T_clocks_Path.mk (⟨#[97]⟩ : ByteArray) (⟨#[]⟩ : ByteArray) 2), (T_clocks_Path.mk (⟨#[]⟩ : ByteArray) (⟨#[98]⟩ : ByteArray) 0)] : List T_clocks_Path) [.string (⟨#[97]⟩ : ByteArray), .string (⟨#[]⟩ : ByteArray), .int .i64 2, .string (⟨#[]⟩ : ByteArray), .string (⟨#[98]⟩ : ByteArray), .int .i64 0] := (RepL.cons (cs := [.string (⟨#[97]⟩ : ByteArray), .string (⟨#[]⟩ : ByteArray), .int .i64 2]) rfl (RepL.cons (cs := [.string (⟨#[]⟩ : ByteArray), .string (⟨#[98]⟩ : ByteArray), .int .i64 0]) rfl RepL.nil))
 replace hS := St.vec_of (n := 2) (sz := R_clocks_Path.sz) (hS.pull 1) rfl (by decide)
 replace hF := bd_s hF; obtain ⟨q3, q7, hF⟩ := hF
 have q_ := St.lend ((hS.pull 2).pull 1) q2; obtain ⟨ρl0, hll0, hlf0, hS0, back0⟩ := q_
 have hcall := c_clocks_Cycles q7 (RdS.nil (A := none) (c := 0)) (RdS.nil (A := none) (c := 0)) hlf0 hS0
 refine o_cc call_25 (args3 rfl rfl rfl) ((Calls.mono hcall (fun e w'' h => And.intro h.1 ((((back0 h.2).pull 1).pull 2).pull 2)))) ?_
 rintro e w' ⟨rfl, hS⟩
 refine ⟨_, rfl, ?_⟩
 replace hF := bd_s hF; obtain ⟨q5, q8, hF⟩ := hF
 refine p (yl_eql rfl rfl) <| p (yl_move rfl) <| pg (v := .agg #[.int .i64 5, .slice none 0 0, .slice none 0 0, .slice (some ⟨b4, 0, none⟩) 2 2]) 9 (c := decide (q3 = 2)) (says_t _) (fun hq => ld_sub agg_41 rfl rfl rfl (hS.pull 1)) <|
  pccg (v := .int .i64 q5) 9 (c := decide (q3 = 2)) (says_t _) call_25 (fun hq => (args3 (cv hq) rfl rfl)) hS (fun hq => by
   have q_ := St.lend ((hS.pull 2).pull 1) q2; obtain ⟨ρl0, hll0, hlf0, hS0, back0⟩ := q_
   have hcall := c_clocks_Cycles (gd_t q8 hq) (RdS.nil (A := none) (c := 0)) (RdS.nil (A := none) (c := 0)) hlf0 hS0
   exact (Calls.mono hcall (fun e w'' h => And.intro h.1 ((((back0 h.2).pull 1).pull 2).pull 2)))) (fun w' hS => ?_)
 replace hF := lv_s hF; obtain ⟨x13, hx13, hF⟩ := hF
 replace hF := bd_s hF; obtain ⟨q4, q6, hF⟩ := hF
 refine pg (v := .bool (decide (q5 = 0))) 9 (c := decide (q3 = 2)) (says_t _) (fun hq => Yl.at (yl_eql (cv hq) rfl)) <| p (yand' rfl (fun hc => (cv hc)) rfl hx13) <| p (yl_move rfl) <| pg (v := .agg #[.int .i64 5, .slice none 0 0, .slice none 0 0, .slice (some ⟨b4, 0, none⟩) 2 2]) 14 (c := x13) (says_t _) (fun hq => ld_sub agg_41 rfl rfl rfl (hS.pull 1)) <|
  pccg (v := .int .i64 q4) 14 (c := x13) (says_t _) call_20 (fun hq => (args1 (cv hq))) hS (fun hq => by
   have q_ := St.lend ((hS.pull 2).pull 1) q2; obtain ⟨ρl0, hll0, hlf0, hS0, back0⟩ := q_
   have hcall := c_clocks_Check (gd_t q6 hq) (RdS.nil (A := none) (c := 0)) (RdS.nil (A := none) (c := 0)) hlf0 hS0
   exact (Calls.mono hcall (fun e w'' h => And.intro h.1 ((((back0 h.2).pull 1).pull 2).pull 2)))) (fun w' hS => ?_)
 replace hF := lv_s hF; obtain ⟨x18, hx18, hF⟩ := hF
 refine pg (v := .bool (decide (q4 = 0))) 14 (c := x13) (says_t _) (fun hq => Yl.at (yl_eql (cv hq) rfl)) <| p (yand' rfl (fun hc => (cv hc)) rfl hx18) <| p (yl_assign rfl) <| x_done <| ?_
 have e_ := Option.some.inj (show some _ = some _ from hF); subst e_
 exact x_return ⟨_, ⟨_, _, rfl, rfl, rfl⟩, rfl, hS.drop.drop⟩
attribute [irreducible] P_maskkeep4_asks

def P_strings_Join (elems0 : List ByteArray) (sep1 : ByteArray) : Option ByteArray := ck (1 ≤ elems0.length ∧ elems0.length ≤ 140737488355328 ∧ (joinS elems0 sep1).size ≤ 140737488355328) <| some (joinS elems0 sep1)
theorem c_strings_Join {w0 w : World} {l : List Assn} {ρ : Heap} {q2 : Option Addr} {q3 : Nat} {c_elems0 : Nat} {elems0 : List ByteArray} {sep1 : ByteArray} {r : ByteArray} (hF : P_strings_Join elems0 sep1 = some r) (q4 : RdS RpS ρ q2 q3 c_elems0 elems0) (hS : St w0 w (ro ρ :: l)) :
  Calls Tryd.prog 12 #[.slice q2 q3 c_elems0, .string sep1] w fun e w' => e = .returned (.string r) ∧ St w0 w' (ro ρ :: l) := by
 obtain ⟨h, hF⟩ := ck_s hF
 cases hF
 exact join_at q4 h.1 h.2.1 h.2.2 hS
attribute [irreducible] P_strings_Join

def P_strconv_Atoi (s0 : ByteArray) : Option Int := atoi s0
theorem c_strconv_Atoi {w0 w : World} {l : List Assn} {ρ : Heap} {s0 : ByteArray} {r : Int} (hF : P_strconv_Atoi s0 = some r) (hS : St w0 w (ro ρ :: l)) :
  Calls Tryd.prog 55 #[.string s0] w fun e w' => e = .returned (.tuple #[.int .i64 r, .nilIface]) ∧ St w0 w' (ro ρ :: l) := atoi_at hF hS
attribute [irreducible] P_strconv_Atoi

def P_clocks_numbers_L3 (l_0 : List ByteArray) : (List Int × Int) → Option ((List Int × Int) ⊕ (List Int ⊕ (List Int × Bool))) := fun (q3, q2) =>
 if q2 < (l_0.length : Int) then
  ck (inb q2 l_0.length) <|
  lv (gt l_0 q2) fun x14 =>
  bd (P_strconv_Atoi x14) fun q4 =>
  bd (P_strconv_Itoa q4) fun q6 =>
  if q6 ≠ x14 then
   some (Sum.inr (Sum.inr ([], false)))
  else
   lv (q3 ++ [q4]) fun q5 =>
   ck (apOk 8 q5.length) <|
   ar (q2 + 1) fun x32 =>
   some (Sum.inl (q5, x32))
 else
  some (Sum.inr (Sum.inl q3))
def P_clocks_numbers (l_0 : List ByteArray) : Option (List Int × Bool) :=
 bs (
  lp (P_clocks_numbers_L3 l_0) fuel ([], 0)) (fun y => some y) fun q2 =>
 some (q2, true)
set_option maxHeartbeats 4000000 in
set_option maxRecDepth 100000 in
theorem c_clocks_numbers {w0 w : World} {l : List Assn} {ρ : Heap} {q0l : Option Addr} {q0p : Nat} {c_l_0 : Nat} {l_0 : List ByteArray} {r : (List Int × Bool)} (hF : P_clocks_numbers l_0 = some r) (q0m : RdS RpS ρ q0l q0p c_l_0 l_0) (hS : St w0 w (ro ρ :: l)) :
  Calls Tryd.prog 43 #[.slice q0l q0p c_l_0] w fun e w' => ∃ (q0j : Option Addr) (q0c : Nat) (c_y0_ret : Nat) (q0g : List Value), e = .returned (.tuple #[.slice q0j q0c c_y0_ret, .bool r.2]) ∧ RepL (RpI .i64) ρ r.1 q0g ∧ St w0 w' (vec 3 (RpI .i64).sz (.slice q0j q0c c_y0_ret) q0c q0g :: ro ρ :: l) := by
 have e_ := q0m.n; subst e_
 refine enterC Tryd.func43 rfl 34 rfl (by simp) ?_
 refine x_seq <| x_region <| p (yl_assign rfl) <| p (yl_assign rfl) <|
  x_done <| x_seq <| x_region <| p (yl_assign rfl) <|
  x_done <| x_seq <| x_seq <| x_region <|
  p (yl_move rfl) <| p (yl_len_slice usl_26 rfl) <| p (yl_move rfl) <| x_done <| ?_
 replace hF := bs_s hF; obtain ⟨oL3, hLL3, hF⟩ := hF
 refine x_join (fun E w => ∃ (q7 : Option Addr) (q8 : Nat) (c_out4_L3 : Nat) (q3 : List Value) (q0a : List Int), (Sum.inl q0a) = oL3 ∧ E 4 = .slice q7 q8 c_out4_L3 ∧ RepL (RpI .i64) ρ q0a q3 ∧ St w0 w (vec 3 (RpI .i64).sz (.slice q7 q8 c_out4_L3) q8 q3 :: ro ρ :: l)) ?_ ?_
 ·refine x_block ?_
  replace hS := St.vec_nil hS 3 (RpI .i64).sz
  have q0d : RepL (RpI .i64) ρ [] [] := rfl
  refine x_loop (fun k_ E w => ∃ (q4 : Option Addr) (q5 : Nat) (c_out4_L3h : Nat) (q2 : List Value) (q6 : List Int) (q0b : Int), lp (P_clocks_numbers_L3 l_0) k_ (q6, q0b) = some oL3 ∧ E 4 = .slice q4 q5 c_out4_L3h ∧ E 9 = .slice q0l l_0.length c_l_0 ∧ E 10 = .int .i64 (l_0.length : Int) ∧ E 11 = .int .i64 q0b ∧ RepL (RpI .i64) ρ q6 q2 ∧ St w0 w (vec 3 (RpI .i64).sz (.slice q4 q5 c_out4_L3h) q5 q2 :: ro ρ :: l)) fuel ⟨none, 0, 0, [], [], 0, hLL3, rfl, rfl, rfl, rfl, q0d, ((hS.pull 1).pull 1)⟩ ?_
  rintro kL3 E w ⟨q4, q5, c_out4_L3h, q2, q6, q0b, hLL3, q0n, q0o, q0k, q0e, q9, hS⟩
  have e_ := St.vec_n hS q9; subst e_
  replace hLL3 := lp_s hLL3; obtain ⟨kL3, obL3, rfl, hFL3, hLL3⟩ := hLL3
  refine x_seq <| x_region <| p (yl_lss q0e q0k) <| x_done <|
   x_seq <|
   x_cond_p (q0b < (l_0.length : Int)) rfl (fun hc12 => ?_) (fun hc12 => ?_)
  ·replace hFL3 := it_t hc12 hFL3
   replace hFL3 := ck_s hFL3; obtain ⟨q0q, hFL3⟩ := hFL3
   replace hFL3 := lv_s hFL3; obtain ⟨x14, hx14, hFL3⟩ := hFL3
   replace hFL3 := bd_s hFL3; obtain ⟨q0f, q0s, hFL3⟩ := hFL3
   refine x_skip <| x_seq <| x_block <| x_seq <|
    x_region <| p (yix_f sl_26 q0o q0e q0m q0q) <| pa (at_load one_9 rfl (RdS.getW q0m (hS.pull 1) q0q hx14)) <| p (yl_assign rfl) <|
    x_done <| x_seq <| x_region <| p (yl_move rfl) <| ?_
   have hcall := c_strconv_Atoi q0s  (hS.pull 1)
   refine o_cc call_55 (args1 rfl) ((Calls.mono hcall (fun e w'' h => And.intro h.1 (h.2.pull 1)))) ?_
   rintro e w' ⟨rfl, hS⟩
   refine ⟨_, rfl, ?_⟩
   replace hFL3 := bd_s hFL3; obtain ⟨q0x, q0t, hFL3⟩ := hFL3
   refine p (v := .tuple #[.int .i64 q0f, .nilIface]) (yl_move rfl) <| p (yl_extract rfl rfl) <| p (yl_extract rfl rfl) <| p (yl_assign rfl) <|
    p (yl_assign rfl) <| x_done <| x_seq <| x_seq <|
    x_region <| p (yl_move rfl) <| p (yneq_nil uif_81 rfl) <| p (yl_move rfl) <|
    o_strip 22 false (says_lit (c := false) rfl rfl) <| p (yl_move rfl) <| o_strip 22 false (says_lit (c := false) rfl rfl) <| ?_
   have hcall := c_strconv_Itoa q0t  (hS.pull 1)
   refine o_cc call_38 (args1 rfl) ((Calls.mono hcall (fun e w'' h => And.intro h.1 (h.2.pull 1)))) ?_
   rintro e w' ⟨rfl, hS⟩
   refine ⟨_, rfl, ?_⟩
   refine o_strip 22 false (says_lit (c := false) rfl rfl) <| p (yl_move rfl) <| o_strip 22 false (says_lit (c := false) rfl rfl) <| p (ynes rfl rfl) <|
    p (yl_pick (b := false) rfl (fun h => nomatch h) (fun h => rfl)) <| x_done <|
    x_cond_p (q0x ≠ x14) rfl (fun hc27 => ?_) (fun hc27 => ?_)
   ·replace hFL3 := it_t hc27 hFL3
    refine x_seq <| x_region <| p (yl_assign rfl) <| p (yl_assign rfl) <|
     x_done <| ?_
    replace hS := St.vec_nil hS 3 (RpI .i64).sz
    have q0i : RepL (RpI .i64) ρ [] [] := rfl
    have e_ := Option.some.inj (show some _ = some _ from hFL3); subst e_
    have e_ := (show _ = oL3 from hLL3); subst e_
    have e_ := Option.some.inj (show some _ = some _ from hF); subst e_
    exact x_return ⟨_, ⟨_, _, rfl, rfl, _, _, rfl, rfl, rfl⟩, none, 0, 0, [], rfl, q0i, (((hS.pull 1).drop.pull 1).pull 1)⟩
   ·replace hFL3 := it_f hc27 hFL3
    refine x_skip <| x_region <| p (yl_move q0n) <| p (yl_move rfl) <| ?_
    refine o_buildSlice (vs := [.int .i64 q0f]) (cs := [.int .i64 q0f]) sl_22 zero_3 (parts_eq (pt (va := .int .i64 q0f) rfl pt0)) rfl (by intro v hv; simp only [List.mem_cons, List.not_mem_nil, or_false] at hv; first | (subst hv; rfl) | (rcases hv with rfl <;> rfl)) (by decide) rfl hS (fun b30 w' hS => ?_)
    replace hFL3 := lv_s hFL3; obtain ⟨q0r, q0u, hFL3⟩ := hFL3
    replace hFL3 := ck_s hFL3; obtain ⟨q0v, hFL3⟩ := hFL3
    refine o_ap sl_22 zero_3 rfl (by decide) rfl rfl (hS.pull 1) q9 (src_blk usl_22 hS rfl rfl) (RepL.cons (R := (RpI .i64)) (ρ := ρ) (x := q0f) (cs := [.int .i64 q0f]) rfl RepL.nil) q0u q0v (fun A31 c31 cs31 w' hr31 hS => ?_)
    replace hFL3 := ar_s hFL3; obtain ⟨x32, hx32, hFL3⟩ := hFL3
    refine p (yl_assign rfl) <| x_done <| x_blk <| x_region <|
     p (yadd q0e rfl hx32) <| p (yl_move rfl) <| x_done <| ?_
    have e_ := Option.some.inj (show some _ = some _ from hFL3); subst e_
    exact x_inv ⟨kL3, Nat.lt_succ_self _, A31, q0r.length, c31, cs31, q0r, x32, hLL3, rfl, q0o, q0k, rfl, hr31, (((hS.pull 1).drop.pull 1).pull 1)⟩
  ·replace hFL3 := it_f hc12 hFL3
   refine x_exitTo _ rfl <| ?_
   have e_ := Option.some.inj (show some _ = some _ from hFL3); subst e_
   exact x_inv ⟨q4, q6.length, c_out4_L3h, q2, q6, hLL3, q0n, q9, ((hS.pull 1).pull 1)⟩
 rintro E w ⟨q7, q8, c_out4_L3, q3, q0a, rfl, q0w, q0h, hS⟩
 have e_ := St.vec_n hS q0h; subst e_
 refine x_seq <| x_region <| p (yl_move q0w) <| p (yl_assign rfl) <|
  p (yl_assign rfl) <| x_done <| ?_
 have e_ := Option.some.inj (show some _ = some _ from hF); subst e_
 exact x_return ⟨_, ⟨_, _, rfl, rfl, _, _, rfl, rfl, rfl⟩, q7, q0a.length, c_out4_L3, q3, rfl, q0h, ((hS.pull 1).pull 1)⟩
attribute [irreducible] P_clocks_numbers

def P_internal_stringslite_HasPrefix (s0 : ByteArray) (prefix1 : ByteArray) : Option Bool :=
 ck ((decide ((prefix1.size : Int) ≤ (s0.size : Int))) = true → 0 ≤ (0 : Int) ∧ (0 : Int) ≤ (prefix1.size : Int) ∧ (prefix1.size : Int) ≤ s0.size) <|
 lv (subS s0 0 (prefix1.size : Int)) fun x14 =>
 lv ((decide ((prefix1.size : Int) ≤ (s0.size : Int))) && (decide (x14 = prefix1))) fun x17 =>
 some x17
set_option maxHeartbeats 4000000 in
set_option maxRecDepth 100000 in
theorem c_internal_stringslite_HasPrefix {w0 w : World} {l : List Assn} {ρ : Heap} {s0 : ByteArray} {prefix1 : ByteArray} {r : Bool} (hF : P_internal_stringslite_HasPrefix s0 prefix1 = some r) (hS : St w0 w (ro ρ :: l)) :
  Calls Tryd.prog 80 #[.string s0, .string prefix1] w fun e w' => e = .returned (.bool r) ∧ St w0 w' (ro ρ :: l) := by
 refine enterC Tryd.func80 rfl 18 rfl (by simp) ?_
 replace hF := ck_s hF; obtain ⟨q2, hF⟩ := hF
 replace hF := lv_s hF; obtain ⟨x14, hx14, hF⟩ := hF
 replace hF := lv_s hF; obtain ⟨x17, hx17, hF⟩ := hF
 refine x_seq <| x_region <| p (yl_assign rfl) <| x_done <|
  x_seq <| x_region <| p (yl_move rfl) <| p (yl_len_string us_9 rfl) <|
  p (yl_move rfl) <| p (yl_len_string us_9 rfl) <| p (yl_geq rfl rfl) <| p (yl_move rfl) <|
  pg (v := .string s0) 10 (c := decide ((prefix1.size : Int) ≤ (s0.size : Int))) (says_t _) (fun hq => Yl.at (yl_move rfl)) <| pg (v := .string prefix1) 10 (c := decide ((prefix1.size : Int) ≤ (s0.size : Int))) (says_t _) (fun hq => Yl.at (yl_move rfl)) <| pg (v := .int .i64 (prefix1.size : Int)) 10 (c := decide ((prefix1.size : Int) ≤ (s0.size : Int))) (says_t _) (fun hq => Yl.at (yl_len_string us_9 (cv hq))) <| pg (v := .string x14) 10 (c := decide ((prefix1.size : Int) ≤ (s0.size : Int))) (says_t _) (fun hq => Yl.at (ysub_sh us_9 (cv hq) (cv hq) (q2 hq) hx14)) <|
  pg (v := .string prefix1) 10 (c := decide ((prefix1.size : Int) ≤ (s0.size : Int))) (says_t _) (fun hq => Yl.at (yl_move rfl)) <| pg (v := .bool (decide (x14 = prefix1))) 10 (c := decide ((prefix1.size : Int) ≤ (s0.size : Int))) (says_t _) (fun hq => Yl.at (yl_eql_string (cv hq) (cv hq))) <| p (yand' rfl (fun hc => (cv hc)) rfl hx17) <| p (yl_assign rfl) <|
  x_done <| ?_
 have e_ := Option.some.inj (show some _ = some _ from hF); subst e_
 exact x_return ⟨_, ⟨_, _, rfl, rfl, rfl⟩, rfl, hS⟩
attribute [irreducible] P_internal_stringslite_HasPrefix

def P_internal_stringslite_CutPrefix (s0 : ByteArray) (prefix1 : ByteArray) : Option (ByteArray × Bool) :=
 bd (P_internal_stringslite_HasPrefix s0 prefix1) fun q2 =>
 if (!q2) = true then
  some (s0, false)
 else
  ck (0 ≤ (prefix1.size : Int) ∧ (prefix1.size : Int) ≤ (s0.size : Int) ∧ (s0.size : Int) ≤ s0.size) <|
  lv (subS s0 (prefix1.size : Int) (s0.size : Int)) fun x14 =>
  some (x14, true)
set_option maxHeartbeats 4000000 in
set_option maxRecDepth 100000 in
theorem c_internal_stringslite_CutPrefix {w0 w : World} {l : List Assn} {ρ : Heap} {s0 : ByteArray} {prefix1 : ByteArray} {r : (ByteArray × Bool)} (hF : P_internal_stringslite_CutPrefix s0 prefix1 = some r) (hS : St w0 w (ro ρ :: l)) :
  Calls Tryd.prog 68 #[.string s0, .string prefix1] w fun e w' => e = .returned (.tuple #[.string r.1, .bool r.2]) ∧ St w0 w' (ro ρ :: l) := by
 refine enterC Tryd.func68 rfl 15 rfl (by simp) ?_
 replace hF := bd_s hF; obtain ⟨q4, q2, hF⟩ := hF
 refine x_seq <| x_region <| p (yl_assign rfl) <| p (yl_assign rfl) <|
  x_done <| x_seq <| x_seq <| x_region <|
  p (yl_move rfl) <| p (yl_move rfl) <| ?_
 have hcall := c_internal_stringslite_HasPrefix q2  hS
 refine o_cc call_80 (args2 rfl rfl) (hcall) ?_
 rintro e w' ⟨rfl, hS⟩
 refine ⟨_, rfl, ?_⟩
 refine p (yl_not rfl) <| x_done <|
  x_cond (t := !q4) rfl (fun hc9 => ?_) (fun hc9 => ?_)
 ·replace hF := it_t hc9 hF
  refine x_seq <| x_region <| p (yl_move rfl) <| p (yl_assign rfl) <|
   p (yl_assign rfl) <| x_done <| ?_
  have e_ := Option.some.inj (show some _ = some _ from hF); subst e_
  exact x_return ⟨_, ⟨_, _, rfl, rfl, _, _, rfl, rfl, rfl⟩, rfl, hS⟩
 ·replace hF := it_bf hc9 hF
  replace hF := ck_s hF; obtain ⟨q3, hF⟩ := hF
  replace hF := lv_s hF; obtain ⟨x14, hx14, hF⟩ := hF
  refine x_skip <| x_seq <| x_region <| p (yl_move rfl) <|
   p (yl_move rfl) <| p (yl_len_string us_9 rfl) <| p (ysub_sl us_9 rfl rfl q3 hx14) <| p (yl_assign rfl) <|
   p (yl_assign rfl) <| x_done <| ?_
  have e_ := Option.some.inj (show some _ = some _ from hF); subst e_
  exact x_return ⟨_, ⟨_, _, rfl, rfl, _, _, rfl, rfl, rfl⟩, rfl, hS⟩
attribute [irreducible] P_internal_stringslite_CutPrefix

def P_strings_CutPrefix (s0 : ByteArray) (prefix1 : ByteArray) : Option (ByteArray × Bool) :=
 bd (P_internal_stringslite_CutPrefix s0 prefix1) fun q2 =>
 some (q2.1, q2.2)
set_option maxHeartbeats 4000000 in
set_option maxRecDepth 100000 in
theorem c_strings_CutPrefix {w0 w : World} {l : List Assn} {ρ : Heap} {s0 : ByteArray} {prefix1 : ByteArray} {r : (ByteArray × Bool)} (hF : P_strings_CutPrefix s0 prefix1 = some r) (hS : St w0 w (ro ρ :: l)) :
  Calls Tryd.prog 56 #[.string s0, .string prefix1] w fun e w' => e = .returned (.tuple #[.string r.1, .bool r.2]) ∧ St w0 w' (ro ρ :: l) := by
 refine enterC Tryd.func56 rfl 11 rfl (by simp) ?_
 replace hF := bd_s hF; obtain ⟨q3, q2, hF⟩ := hF
 refine x_seq <| x_region <| p (yl_assign rfl) <| p (yl_assign rfl) <|
  x_done <| x_seq <| x_region <| p (yl_move rfl) <|
  p (yl_move rfl) <| ?_
 have hcall := c_internal_stringslite_CutPrefix q2  hS
 refine o_cc call_68 (args2 rfl rfl) (hcall) ?_
 rintro e w' ⟨rfl, hS⟩
 refine ⟨_, rfl, ?_⟩
 refine p (yl_extract rfl rfl) <| p (yl_extract rfl rfl) <| p (yl_assign rfl) <| p (yl_assign rfl) <|
  x_done <| ?_
 have e_ := Option.some.inj (show some _ = some _ from hF); subst e_
 exact x_return ⟨_, ⟨_, _, rfl, rfl, _, _, rfl, rfl, rfl⟩, rfl, hS⟩
attribute [irreducible] P_strings_CutPrefix

def P_clocks_place (s0 : ByteArray) : Option (ByteArray × Bool) :=
 if s0 = (⟨#[42]⟩ : ByteArray) then
  some ((⟨#[]⟩ : ByteArray), true)
 else
  bd (P_strings_CutPrefix s0 (⟨#[61]⟩ : ByteArray)) fun q2 =>
  lv (q2.2 && (decide (q2.1 ≠ (⟨#[]⟩ : ByteArray)))) fun x18 =>
  some (q2.1, x18)
set_option maxHeartbeats 4000000 in
set_option maxRecDepth 100000 in
theorem c_clocks_place {w0 w : World} {l : List Assn} {ρ : Heap} {s0 : ByteArray} {r : (ByteArray × Bool)} (hF : P_clocks_place s0 = some r) (hS : St w0 w (ro ρ :: l)) :
  Calls Tryd.prog 44 #[.string s0] w fun e w' => e = .returned (.tuple #[.string r.1, .bool r.2]) ∧ St w0 w' (ro ρ :: l) := by
 refine enterC Tryd.func44 rfl 19 rfl (by simp) ?_
 refine x_seq <| x_region <| p (yl_assign rfl) <| p (yl_assign rfl) <|
  x_done <| x_seq <| x_seq <| x_region <|
  p (yl_move rfl) <| p (yl_eql_string rfl rfl) <| x_done <|
  x_cond_p (s0 = (⟨#[42]⟩ : ByteArray)) rfl (fun hc7 => ?_) (fun hc7 => ?_)
 ·replace hF := it_t hc7 hF
  refine x_seq <| x_region <| p (yl_assign rfl) <| p (yl_assign rfl) <|
   x_done <| ?_
  have e_ := Option.some.inj (show some _ = some _ from hF); subst e_
  exact x_return ⟨_, ⟨_, _, rfl, rfl, _, _, rfl, rfl, rfl⟩, rfl, hS⟩
 ·replace hF := it_f hc7 hF
  replace hF := bd_s hF; obtain ⟨q2, q3, hF⟩ := hF
  refine x_skip <| x_seq <| x_region <| p (yl_move rfl) <| ?_
  have hcall := c_strings_CutPrefix q3  hS
  refine o_cc call_56 (args2 rfl rfl) (hcall) ?_
  rintro e w' ⟨rfl, hS⟩
  refine ⟨_, rfl, ?_⟩
  replace hF := lv_s hF; obtain ⟨x18, hx18, hF⟩ := hF
  refine p (v := .tuple #[.string q2.1, .bool q2.2]) (yl_move rfl) <| p (yl_extract rfl rfl) <| p (yl_extract rfl rfl) <| p (yl_assign rfl) <|
   p (yl_assign rfl) <| x_done <| x_seq <| x_region <|
   p (yl_move rfl) <| p (yl_move rfl) <| p (yl_move rfl) <| pg (v := .string q2.1) 15 (c := q2.2) (says_t _) (fun hq => Yl.at (yl_move rfl)) <|
   pg (v := .bool (decide (q2.1 ≠ (⟨#[]⟩ : ByteArray)))) 15 (c := q2.2) (says_t _) (fun hq => Yl.at (ynes (cv hq) rfl)) <| p (yand' rfl (fun hc => (cv hc)) rfl hx18) <| p (yl_assign rfl) <| p (yl_assign rfl) <|
   x_done <| ?_
  have e_ := Option.some.inj (show some _ = some _ from hF); subst e_
  exact x_return ⟨_, ⟨_, _, rfl, rfl, _, _, rfl, rfl, rfl⟩, rfl, hS⟩
attribute [irreducible] P_clocks_place

def P_clocks_read_4 (l_0 : T_clocks_Limits) (w_1 : List ByteArray) : Option (Bool × Int × List T_clocks_Input × List T_clocks_Output × List T_clocks_Path) :=
 ck (inb 0 w_1.length) <|
 lv (gt w_1 (0 : Int)) fun x21 =>
 lv ((decide (x21 = (⟨#[112, 101, 114, 105, 111, 100]⟩ : ByteArray))) && (decide ((w_1.length : Int) = 2))) fun x27 =>
 lv (x27 && (decide (l_0.Period = 0))) fun x34 =>
 if x34 = true then
  ck (0 ≤ (1 : Int) ∧ (1 : Int) ≤ (w_1.length : Int) ∧ (w_1.length : Int) ≤ w_1.length) <|
  lv (sub w_1 1 (w_1.length : Int)) fun x37 =>
  bd (P_clocks_numbers x37) fun q3 =>
  bd (
   if q3.2 = true then
    ck (inb 0 q3.1.length) <|
    lv (gt q3.1 (0 : Int)) fun x45 =>
    some x45
   else
    some l_0.Period) fun q8 =>
  ck (q3.2 = true → inb 0 q3.1.length) <|
  lv (gt q3.1 (0 : Int)) fun x52 =>
  lv (q3.2 && (decide (x52 ≠ 0))) fun x54 =>
  some (x54, q8, l_0.Inputs, l_0.Outputs, l_0.Paths)
 else
  ck (inb 0 w_1.length) <|
  lv (gt w_1 (0 : Int)) fun x58 =>
  lv ((decide (x58 = (⟨#[105, 110, 112, 117, 116]⟩ : ByteArray))) && (decide ((w_1.length : Int) = 4))) fun x64 =>
  if x64 = true then
   ck (0 ≤ (2 : Int) ∧ (2 : Int) ≤ (w_1.length : Int) ∧ (w_1.length : Int) ≤ w_1.length) <|
   lv (sub w_1 2 (w_1.length : Int)) fun x67 =>
   bd (P_clocks_numbers x67) fun q4 =>
   bd (
    if q4.2 = true then
     ck (inb 1 w_1.length) <|
     lv (gt w_1 (1 : Int)) fun x79 =>
     ck (inb 0 q4.1.length) <|
     lv (gt q4.1 (0 : Int)) fun x82 =>
     ck (inb 1 q4.1.length) <|
     lv (gt q4.1 (1 : Int)) fun x85 =>
     lv (l_0.Inputs ++ [(T_clocks_Input.mk x79 (T_tree_Window.mk x82 x85))]) fun q0c =>
     ck (apOk 32 q0c.length) <|
     some q0c
    else
     some l_0.Inputs) fun q9 =>
   some (q4.2, l_0.Period, q9, l_0.Outputs, l_0.Paths)
  else
   ck (inb 0 w_1.length) <|
   lv (gt w_1 (0 : Int)) fun x96 =>
   lv ((decide (x96 = (⟨#[111, 117, 116, 112, 117, 116]⟩ : ByteArray))) && (decide ((w_1.length : Int) = 3))) fun x102 =>
   if x102 = true then
    ck (0 ≤ (2 : Int) ∧ (2 : Int) ≤ (w_1.length : Int) ∧ (w_1.length : Int) ≤ w_1.length) <|
    lv (sub w_1 2 (w_1.length : Int)) fun x105 =>
    bd (P_clocks_numbers x105) fun q6 =>
    bd (
     if q6.2 = true then
      ck (inb 1 w_1.length) <|
      lv (gt w_1 (1 : Int)) fun x117 =>
      ck (inb 0 q6.1.length) <|
      lv (gt q6.1 (0 : Int)) fun x120 =>
      lv (l_0.Outputs ++ [(T_clocks_Output.mk x117 x120)]) fun q0a =>
      ck (apOk 24 q0a.length) <|
      some q0a
     else
      some l_0.Outputs) fun q7 =>
    some (q6.2, l_0.Period, l_0.Inputs, q7, l_0.Paths)
   else
    ck (inb 0 w_1.length) <|
    lv (gt w_1 (0 : Int)) fun x130 =>
    lv ((decide (x130 = (⟨#[109, 117, 108, 116, 105]⟩ : ByteArray))) && (decide ((w_1.length : Int) = 4))) fun x136 =>
    ck ((!x136) = true → inb 0 w_1.length) <|
    lv (gt w_1 (0 : Int)) fun x140 =>
    lv ((decide (x140 = (⟨#[102, 97, 108, 115, 101]⟩ : ByteArray))) && (decide ((w_1.length : Int) = 3))) fun x146 =>
    lv (x136 || x146) fun x147 =>
    if x147 = true then
     ck (inb 0 w_1.length) <|
     lv (gt w_1 (0 : Int)) fun x150 =>
     bs (
      if x150 = (⟨#[109, 117, 108, 116, 105]⟩ : ByteArray) then
       ck (0 ≤ (1 : Int) ∧ (1 : Int) ≤ 2 ∧ (2 : Int) ≤ w_1.length) <|
       lv (sub w_1 1 2) fun x154 =>
       bd (P_clocks_numbers x154) fun q2 =>
       ck ((!(!q2.2)) = true → inb 0 q2.1.length) <|
       lv (gt q2.1 (0 : Int)) fun x163 =>
       lv ((!q2.2) || (decide (x163 = 0))) fun x165 =>
       if x165 = true then
        some (Sum.inr (false, l_0.Period, l_0.Inputs, l_0.Outputs, l_0.Paths))
       else
        ck (inb 0 q2.1.length) <|
        lv (gt q2.1 (0 : Int)) fun x168 =>
        some (Sum.inl x168)
      else
       some (Sum.inl (0 : Int))) (fun y => some y) fun q5 =>
     ar ((w_1.length : Int) - 2) fun x173 =>
     ck (inb x173 w_1.length) <|
     lv (gt w_1 x173) fun x175 =>
     bd (P_clocks_place x175) fun q0d =>
     ar ((w_1.length : Int) - 1) fun x183 =>
     ck (inb x183 w_1.length) <|
     lv (gt w_1 x183) fun x185 =>
     bd (P_clocks_place x185) fun q0e =>
     lv (l_0.Paths ++ [(T_clocks_Path.mk q0d.1 q0e.1 q5)]) fun q0b =>
     ck (apOk 40 q0b.length) <|
     lv (q0d.2 && q0e.2) fun x205 =>
     some (x205, l_0.Period, l_0.Inputs, l_0.Outputs, q0b)
    else
     some (false, l_0.Period, l_0.Inputs, l_0.Outputs, l_0.Paths)
set_option maxHeartbeats 4000000 in
set_option maxRecDepth 100000 in
theorem c_clocks_read_4 {w0 w : World} {l : List Assn} {ρ : Heap} {q2 : Nat} {q4 : Option Addr} {q28 : Nat} {c_l_0_1 : Nat} {q0a : List Value} {q5 : Option Addr} {q29 : Nat} {c_l_0_2 : Nat} {q0b : List Value} {q6 : Option Addr} {q2a : Nat} {c_l_0_3 : Nat} {q0d : List Value} {q0c : Option Addr} {q33 : Nat} {c_w_1 : Nat} {l_0 : T_clocks_Limits} {w_1 : List ByteArray} {r : (Bool × Int × List T_clocks_Input × List T_clocks_Output × List T_clocks_Path)} (hF : P_clocks_read_4 l_0 w_1 = some r) (q0t : RepL R_clocks_Input ρ l_0.Inputs q0a) (q0u : RepL R_clocks_Output ρ l_0.Outputs q0b) (q0x : RepL R_clocks_Path ρ l_0.Paths q0d) (q9 : RdS RpS ρ q0c q33 c_w_1 w_1) (hS : St w0 w (cells q2 41 [.int .i64 l_0.Period, .slice q4 q28 c_l_0_1, .slice q5 q29 c_l_0_2, .slice q6 q2a c_l_0_3] :: vec 66 R_clocks_Input.sz (.slice q4 q28 c_l_0_1) q28 q0a :: vec 68 R_clocks_Output.sz (.slice q5 q29 c_l_0_2) q29 q0b :: vec 70 R_clocks_Path.sz (.slice q6 q2a c_l_0_3) q2a q0d :: ro ρ :: l)) :
  Calls Tryd.prog 26 #[.pointer (some ⟨q2, 0, none⟩), .slice q0c q33 c_w_1] w fun e w' => ∃ (q1h : Option Addr) (q11 : Nat) (c_b_l_0_1_ret : Nat) (q17 : List Value) (q1i : Option Addr) (q12 : Nat) (c_b_l_0_2_ret : Nat) (q18 : List Value) (q1j : Option Addr) (q13 : Nat) (c_b_l_0_3_ret : Nat) (q19 : List Value), e = .returned (.bool r.1) ∧ RepL R_clocks_Input ρ r.2.2.1 q17 ∧ RepL R_clocks_Output ρ r.2.2.2.1 q18 ∧ RepL R_clocks_Path ρ r.2.2.2.2 q19 ∧ St w0 w' (cells q2 41 [.int .i64 r.2.1, .slice q1h q11 c_b_l_0_1_ret, .slice q1i q12 c_b_l_0_2_ret, .slice q1j q13 c_b_l_0_3_ret] :: vec 66 R_clocks_Input.sz (.slice q1h q11 c_b_l_0_1_ret) q11 q17 :: vec 68 R_clocks_Output.sz (.slice q1i q12 c_b_l_0_2_ret) q12 q18 :: vec 70 R_clocks_Path.sz (.slice q1j q13 c_b_l_0_3_ret) q13 q19 :: ro ρ :: l) := by
 have e_ := St.vec_n (hS.pull 1) q0t; subst e_
 have e_ := St.vec_n (hS.pull 2) q0u; subst e_
 have e_ := St.vec_n (hS.pull 3) q0x; subst e_
 have e_ := q9.n; subst e_
 refine enterC Tryd.func26 rfl 206 rfl (by simp) ?_
 replace hF := ck_s hF; obtain ⟨q34, hF⟩ := hF
 replace hF := lv_s hF; obtain ⟨x21, hx21, hF⟩ := hF
 replace hF := lv_s hF; obtain ⟨x27, hx27, hF⟩ := hF
 replace hF := lv_s hF; obtain ⟨x34, hx34, hF⟩ := hF
 refine x_seq <| x_region <| p (yl_assign rfl) <| x_done <|
  x_seq <| x_block <| x_seq <| x_region <|
  p (yl_move rfl) <| p (yix_f sl_26 rfl rfl q9 q34) <| pa (at_load one_9 rfl (RdS.getW q9 (hS.pull 4) q34 hx21)) <| p (yl_eql_string rfl rfl) <|
  p (yl_move rfl) <| pg (v := .slice q0c w_1.length c_w_1) 23 (c := decide (x21 = (⟨#[112, 101, 114, 105, 111, 100]⟩ : ByteArray))) (says_t _) (fun hq => Yl.at (yl_move rfl)) <| pg (v := .int .i64 (w_1.length : Int)) 23 (c := decide (x21 = (⟨#[112, 101, 114, 105, 111, 100]⟩ : ByteArray))) (says_t _) (fun hq => Yl.at (yl_len_slice usl_26 (cv hq))) <| pg (v := .bool (decide ((w_1.length : Int) = 2))) 23 (c := decide (x21 = (⟨#[112, 101, 114, 105, 111, 100]⟩ : ByteArray))) (says_t _) (fun hq => Yl.at (yl_eql (cv hq) rfl)) <|
  p (yand' rfl (fun hc => (cv hc)) rfl hx27) <| p (yl_move rfl) <| pg (v := .pointer (some ⟨q2, 0, none⟩)) 28 (c := x27) (says_t _) (fun hq => Yl.at (yl_move rfl)) <| pg (v := .pointer (some ⟨q2, 0, none⟩)) 28 (c := x27) (says_t _) (fun hq => Yl.at (yl_nilCheck (cv hq))) <|
  pg (v := .pointer (some ⟨q2, 0, none⟩)) 28 (c := x27) (says_t _) (fun hq => Yl.at (yl_field0 fld_41_0 (cv hq))) <| pg (v := .int .i64 l_0.Period) 28 (c := x27) (says_t _) (fun hq => at_load one_3 (cv hq) (hS.cell rfl)) <| pg (v := .bool (decide (l_0.Period = 0))) 28 (c := x27) (says_t _) (fun hq => Yl.at (yl_eql (cv hq) rfl)) <| p (yand' rfl (fun hc => (cv hc)) rfl hx34) <|
  p (yl_assign rfl) <| x_done <|
  x_cond (t := x34) rfl (fun hc18 => ?_) (fun hc18 => ?_)
 ·replace hF := it_t hc18 hF
  replace hF := ck_s hF; obtain ⟨q35, hF⟩ := hF
  replace hF := lv_s hF; obtain ⟨x37, hx37, hF⟩ := hF
  refine x_seq <| x_region <| p (yl_move rfl) <| ?_
  have q_ := RdS.sub q9 q35 hx37; obtain ⟨A37, n37, c37, hd37, f37⟩ := q_
  refine p (ysub_l sl_26 rfl rfl q35 hd37) <| ?_
  have e_ := f37.n; subst e_
  replace hF := bd_s hF; obtain ⟨q15, q3u, hF⟩ := hF
  have hcall := c_clocks_numbers q3u f37 (hS.pull 4)
  refine o_cc call_43 (args1 rfl) hcall ?_
  rintro e w' ⟨q0v, q3j, c_y0_ret_2_2, q2l, rfl, q0k, hS⟩
  refine ⟨_, rfl, ?_⟩
  have e_ := St.vec_n hS q0k; subst e_
  refine p (yl_move rfl) <| p (yl_extract rfl rfl) <| p (yl_extract rfl rfl) <| p (yl_assign rfl) <|
   p (yl_assign rfl) <| x_done <| x_seq <| x_seq <|
   x_region <| p (yl_move rfl) <| x_done <| ?_
  replace hF := bd_s hF; obtain ⟨oc41, hFc41, hF⟩ := hF
  refine x_join (fun E w => ∃ (q16 : Int), q16 = oc41 ∧ E 5 = .slice q0v q15.1.length c_y0_ret_2_2 ∧ E 6 = .bool q15.2 ∧ St w0 w (vec 3 (RpI .i64).sz (.slice q0v q15.1.length c_y0_ret_2_2) q15.1.length q2l :: cells q2 41 [.int .i64 q16, .slice q4 l_0.Inputs.length c_l_0_1, .slice q5 l_0.Outputs.length c_l_0_2, .slice q6 l_0.Paths.length c_l_0_3] :: vec 66 R_clocks_Input.sz (.slice q4 l_0.Inputs.length c_l_0_1) l_0.Inputs.length q0a :: vec 68 R_clocks_Output.sz (.slice q5 l_0.Outputs.length c_l_0_2) l_0.Outputs.length q0b :: vec 70 R_clocks_Path.sz (.slice q6 l_0.Paths.length c_l_0_3) l_0.Paths.length q0d :: ro ρ :: l)) ?_ ?_
  ·refine x_cond (t := q15.2) rfl (fun hc41 => ?_) (fun hc41 => ?_)
   ·replace hFc41 := it_t hc41 hFc41
    replace hFc41 := ck_s hFc41; obtain ⟨q36, hFc41⟩ := hFc41
    replace hFc41 := lv_s hFc41; obtain ⟨x45, hx45, hFc41⟩ := hFc41
    refine x_region <| p (yl_move rfl) <| p (yl_move rfl) <| p (yix_o sl_22 rfl rfl hS q0k q36) <|
     pa (at_load one_3 rfl (RepL.getW q0k hS q36 hx45)) <| p (yl_nilCheck rfl) <| p (yl_field0 fld_41_0 rfl) <| ?_
    refine o_store1 (v := .int .i64 x45) one_3 rfl rfl rfl rfl (hS.pull 2) (fun w' hS => ?_)
    refine x_done <| ?_
    exact x_inv ⟨x45, (Option.some.inj (show some _ = some _ from hFc41)), rfl, rfl, ((((((hS.pull 2).pull 5).pull 5).pull 5).pull 4).pull 5)⟩
   ·replace hFc41 := it_bf hc41 hFc41
    refine x_skip <| ?_
    exact x_inv ⟨l_0.Period, (Option.some.inj (show some _ = some _ from hFc41)), rfl, rfl, ((((((hS.pull 1).pull 5).pull 5).pull 5).pull 5).pull 5)⟩
  rintro E w ⟨q16, rfl, q3k, q3l, hS⟩
  replace hF := ck_s hF; obtain ⟨q37, hF⟩ := hF
  replace hF := lv_s hF; obtain ⟨x52, hx52, hF⟩ := hF
  replace hF := lv_s hF; obtain ⟨x54, hx54, hF⟩ := hF
  refine x_seq <| x_region <| p (yl_move q3l) <| p (yl_move rfl) <|
   pg (v := .slice q0v q15.1.length c_y0_ret_2_2) 49 (c := q15.2) (says_t _) (fun hq => Yl.at (yl_move q3k)) <| pg (v := .pointer (some ((adr q0v).add ((0 : Int).toNat * (RpI .i64).sz)))) 49 (c := q15.2) (says_t _) (fun hq => Yl.at (yix_o sl_22 (cv hq) rfl hS q0k (q37 hq))) <| pg (v := .int .i64 x52) 49 (c := q15.2) (says_t _) (fun hq => at_load one_3 (cv hq) (RepL.getW q0k hS (q37 hq) hx52)) <| pg (v := .bool (decide (x52 ≠ 0))) 49 (c := q15.2) (says_t _) (fun hq => Yl.at (yl_neq (cv hq) rfl)) <|
   p (yand' rfl (fun hc => (cv hc)) rfl hx54) <| p (yl_assign rfl) <| x_done <| ?_
  have e_ := Option.some.inj (show some _ = some _ from hF); subst e_
  exact x_return ⟨_, ⟨_, _, rfl, rfl, rfl⟩, q4, l_0.Inputs.length, c_l_0_1, q0a, q5, l_0.Outputs.length, c_l_0_2, q0b, q6, l_0.Paths.length, c_l_0_3, q0d, rfl, q0t, q0u, q0x, (((((hS.drop.pull 4).pull 4).pull 4).pull 4).pull 4)⟩
 ·replace hF := it_bf hc18 hF
  replace hF := ck_s hF; obtain ⟨q38, hF⟩ := hF
  replace hF := lv_s hF; obtain ⟨x58, hx58, hF⟩ := hF
  replace hF := lv_s hF; obtain ⟨x64, hx64, hF⟩ := hF
  refine x_seq <| x_region <| p (yl_move rfl) <| p (yix_f sl_26 rfl rfl q9 q38) <|
   pa (at_load one_9 rfl (RdS.getW q9 (hS.pull 4) q38 hx58)) <| p (yl_eql_string rfl rfl) <| p (yl_move rfl) <| pg (v := .slice q0c w_1.length c_w_1) 60 (c := decide (x58 = (⟨#[105, 110, 112, 117, 116]⟩ : ByteArray))) (says_t _) (fun hq => Yl.at (yl_move rfl)) <|
   pg (v := .int .i64 (w_1.length : Int)) 60 (c := decide (x58 = (⟨#[105, 110, 112, 117, 116]⟩ : ByteArray))) (says_t _) (fun hq => Yl.at (yl_len_slice usl_26 (cv hq))) <| pg (v := .bool (decide ((w_1.length : Int) = 4))) 60 (c := decide (x58 = (⟨#[105, 110, 112, 117, 116]⟩ : ByteArray))) (says_t _) (fun hq => Yl.at (yl_eql (cv hq) rfl)) <| p (yand' rfl (fun hc => (cv hc)) rfl hx64) <| p (yl_assign rfl) <|
   x_done <|
   x_cond (t := x64) rfl (fun hc55 => ?_) (fun hc55 => ?_)
  ·replace hF := it_t hc55 hF
   replace hF := ck_s hF; obtain ⟨q39, hF⟩ := hF
   replace hF := lv_s hF; obtain ⟨x67, hx67, hF⟩ := hF
   refine x_seq <| x_region <| p (yl_move rfl) <| ?_
   have q_ := RdS.sub q9 q39 hx67; obtain ⟨A67, n67, c67, hd67, f67⟩ := q_
   refine p (ysub_l sl_26 rfl rfl q39 hd67) <| ?_
   have e_ := f67.n; subst e_
   replace hF := bd_s hF; obtain ⟨q0h, q3v, hF⟩ := hF
   have hcall := c_clocks_numbers q3v f67 (hS.pull 4)
   refine o_cc call_43 (args1 rfl) hcall ?_
   rintro e w' ⟨q3, q3m, c_y0_ret_7_2, q0f, rfl, q0l, hS⟩
   refine ⟨_, rfl, ?_⟩
   have e_ := St.vec_n hS q0l; subst e_
   refine p (yl_move rfl) <| p (yl_extract rfl rfl) <| p (yl_extract rfl rfl) <| p (yl_assign rfl) <|
    p (yl_assign rfl) <| x_done <| x_seq <| x_seq <|
    x_region <| p (yl_move rfl) <| x_done <| ?_
   replace hF := bd_s hF; obtain ⟨oc71, hFc71, hF⟩ := hF
   refine x_join (fun E w => ∃ (q0r : Option Addr) (q0s : Nat) (c_b_l_0_1_c71 : Nat) (q0m : List Value) (q0y : List T_clocks_Input), q0y = oc71 ∧ E 8 = .bool q0h.2 ∧ RepL R_clocks_Input ρ q0y q0m ∧ St w0 w (cells q2 41 [.int .i64 l_0.Period, .slice q0r q0s c_b_l_0_1_c71, .slice q5 l_0.Outputs.length c_l_0_2, .slice q6 l_0.Paths.length c_l_0_3] :: vec 66 R_clocks_Input.sz (.slice q0r q0s c_b_l_0_1_c71) q0s q0m :: vec 68 R_clocks_Output.sz (.slice q5 l_0.Outputs.length c_l_0_2) l_0.Outputs.length q0b :: vec 70 R_clocks_Path.sz (.slice q6 l_0.Paths.length c_l_0_3) l_0.Paths.length q0d :: ro ρ :: l)) ?_ ?_
   ·refine x_cond (t := q0h.2) rfl (fun hc71 => ?_) (fun hc71 => ?_)
    ·replace hFc71 := it_t hc71 hFc71
     replace hFc71 := ck_s hFc71; obtain ⟨q3a, hFc71⟩ := hFc71
     replace hFc71 := lv_s hFc71; obtain ⟨x79, hx79, hFc71⟩ := hFc71
     replace hFc71 := ck_s hFc71; obtain ⟨q3b, hFc71⟩ := hFc71
     replace hFc71 := lv_s hFc71; obtain ⟨x82, hx82, hFc71⟩ := hFc71
     replace hFc71 := ck_s hFc71; obtain ⟨q2o, hFc71⟩ := hFc71
     replace hFc71 := lv_s hFc71; obtain ⟨x85, hx85, hFc71⟩ := hFc71
     replace hFc71 := lv_s hFc71; obtain ⟨q0g, q3n, hFc71⟩ := hFc71
     replace hFc71 := ck_s hFc71; obtain ⟨q3o, hFc71⟩ := hFc71
     refine x_par (w0 := w0) [⟨[], [], [72], [], [], []⟩, ⟨[], [], [73], [], [], []⟩, ⟨[1], [1], [74], [], [], []⟩, ⟨[1, 2], [2], [75], [], [], []⟩, ⟨[1, 2, 3], [3], [76], [0], [], []⟩, ⟨[], [], [77], [], [], []⟩, ⟨[5], [5], [78], [1], [], []⟩, ⟨[5, 6], [6], [79], [1], [], []⟩, ⟨[], [], [80], [], [], []⟩, ⟨[8], [8], [81], [2], [], []⟩, ⟨[8, 9], [9], [82], [2], [], []⟩, ⟨[], [], [83], [], [], []⟩, ⟨[11], [11], [84], [2], [], []⟩, ⟨[11, 12], [12], [85], [2], [], []⟩, ⟨[8, 9, 10, 11, 12, 13], [10, 13], [86], [], [], []⟩, ⟨[5, 6, 7, 8, 9, 10, 11, 12, 13, 14], [7, 14], [87], [], [], []⟩, ⟨[5, 6, 7, 8, 9, 10, 11, 12, 13, 14, 15], [15], [88], [], [], [3]⟩, ⟨[1, 2, 3, 4, 5, 6, 7, 8, 9, 10, 11, 12, 13, 14, 15, 16], [4, 16], [89], [3, 1], [4], [5]⟩, ⟨[0, 1, 2, 3, 4, 5, 6, 7, 8, 9, 10, 11, 12, 13, 14, 15, 16, 17], [0], [90], [], [], []⟩, ⟨[0, 1, 2, 3, 4, 5, 6, 7, 8, 9, 10, 11, 12, 13, 14, 15, 16, 17, 18], [18], [91], [], [], []⟩, ⟨[0, 1, 2, 3, 4, 5, 6, 7, 8, 9, 10, 11, 12, 13, 14, 15, 16, 17, 18, 19], [17, 19], [], [], [0], [6]⟩] [⟨none, (some 20), []⟩, ⟨none, none, []⟩, ⟨none, none, []⟩, ⟨(some 16), none, [88]⟩, ⟨none, (some 17), []⟩, ⟨(some 17), none, [89]⟩, ⟨(some 20), none, [89]⟩] [72, 73, 74, 75, 76, 77, 78, 79, 80, 81, 82, 83, 84, 85, 86, 87, 88, 89, 90, 91] [0, 1, 2, 4] [1, 2, 3, 5, 6] [0, 1, 2, 3, 4, 5, 6, 7, 8, 9, 10, 11, 12, 13, 14, 15, 16, 17, 18, 19] [fun Ep9 => Ep9 72 = .pointer (some ⟨q2, 0, none⟩), fun Ep9 => Ep9 73 = .pointer (some ⟨q2, 0, none⟩), fun Ep9 => Ep9 74 = .pointer (some ⟨q2, 0, none⟩), fun Ep9 => Ep9 75 = .pointer (some ⟨q2, 1, none⟩), fun Ep9 => Ep9 76 = .slice q4 l_0.Inputs.length c_l_0_1, fun Ep9 => Ep9 77 = .slice q0c w_1.length c_w_1, fun Ep9 => Ep9 78 = .pointer (some ((adr q0c).add ((1 : Int).toNat * RpS.sz))), fun Ep9 => Ep9 79 = .string x79, fun Ep9 => Ep9 80 = .slice q3 q0h.1.length c_y0_ret_7_2, fun Ep9 => Ep9 81 = .pointer (some ((adr q3).add ((0 : Int).toNat * (RpI .i64).sz))), fun Ep9 => Ep9 82 = .int .i64 x82, fun Ep9 => Ep9 83 = .slice q3 q0h.1.length c_y0_ret_7_2, fun Ep9 => Ep9 84 = .pointer (some ((adr q3).add ((1 : Int).toNat * (RpI .i64).sz))), fun Ep9 => Ep9 85 = .int .i64 x85, fun Ep9 => Ep9 86 = .agg #[.int .i64 x82, .int .i64 x85], fun Ep9 => Ep9 87 = .agg #[.string x79, .int .i64 x82, .int .i64 x85], fun Ep9 => Ep9 88 = .slice (some ⟨(blkOf (Ep9 88)), 0, none⟩) 1 1, fun Ep9 => Ep9 89 = .slice (adOf (Ep9 89)) q0g.length (capOf (Ep9 89)), fun Ep9 => Ep9 90 = .pointer (some ⟨q2, 0, none⟩), fun Ep9 => Ep9 91 = .pointer (some ⟨q2, 1, none⟩), fun Ep9 => True] [fun Ep9 => cells q2 41 [.int .i64 l_0.Period, .slice q4 l_0.Inputs.length c_l_0_1, .slice q5 l_0.Outputs.length c_l_0_2, .slice q6 l_0.Paths.length c_l_0_3], fun Ep9 => ro ρ, fun Ep9 => vec 3 (RpI .i64).sz (.slice q3 q0h.1.length c_y0_ret_7_2) q0h.1.length q0f, fun Ep9 => cells (blkOf (Ep9 88)) 66 [.string x79, .int .i64 x82, .int .i64 x85], fun Ep9 => vec 66 R_clocks_Input.sz (.slice q4 l_0.Inputs.length c_l_0_1) l_0.Inputs.length q0a, fun Ep9 => bunA (fun (cs89 : List Value) => RepL R_clocks_Input ρ q0g cs89) (fun (cs89 : List Value) => [vec 66 R_clocks_Input.sz (.slice (adOf (Ep9 89)) q0g.length (capOf (Ep9 89))) q0g.length cs89]), fun Ep9 => cells q2 41 [.int .i64 l_0.Period, .slice (adOf (Ep9 89)) q0g.length (capOf (Ep9 89)), .slice q5 l_0.Outputs.length c_l_0_2, .slice q6 l_0.Paths.length c_l_0_3]] mixed (by kernel_rfl) ((((hS.pull 3).pull 1).pull 2).pull 3) ?_ ?_
     ·refine ⟨?_, ?_, ?_, ?_, ?_, ?_, ?_, ?_, ?_, ?_, ?_, ?_, ?_, ?_, ?_, ?_, ?_, ?_, ?_, ?_, ?_, trivial⟩
      ·intro Ep9 w l' hE9 hO9 hF_ hS
       refine p (yl_move (hE9 0 rfl)) <| x_done <| ?_
       refine x_fin ⟨⟨_, rfl⟩, rfl, ?_⟩
       exact Eq.mp (by kernel_rfl) hS
      ·intro Ep9 w l' hE9 hO9 hF_ hS
       refine p (yl_move (hE9 0 rfl)) <| x_done <| ?_
       refine x_fin ⟨⟨_, rfl⟩, rfl, ?_⟩
       exact Eq.mp (by kernel_rfl) hS
      ·intro Ep9 w l' hE9 hO9 hF_ hS
       obtain ⟨q2b, -⟩ := hF_
       replace q2b : Ep9 73 = .pointer (some ⟨q2, 0, none⟩) := Eq.mp (by kernel_rfl) q2b
       refine p (yl_nilCheck q2b) <| x_done <| ?_
       refine x_fin ⟨⟨_, rfl⟩, rfl, ?_⟩
       exact Eq.mp (by kernel_rfl) hS
      ·intro Ep9 w l' hE9 hO9 hF_ hS
       obtain ⟨q2c, -⟩ := hF_
       replace q2c : Ep9 74 = .pointer (some ⟨q2, 0, none⟩) := Eq.mp (by kernel_rfl) q2c
       refine p (yl_field0 fld_41_1 q2c) <| x_done <| ?_
       refine x_fin ⟨⟨_, rfl⟩, rfl, ?_⟩
       exact Eq.mp (by kernel_rfl) hS
      ·intro Ep9 w l' hE9 hO9 hF_ hS
       obtain ⟨q2d, -⟩ := hF_
       replace q2d : Ep9 75 = .pointer (some ⟨q2, 1, none⟩) := Eq.mp (by kernel_rfl) q2d
       replace hS : St w0 w (cells q2 41 [.int .i64 l_0.Period, .slice q4 l_0.Inputs.length c_l_0_1, .slice q5 l_0.Outputs.length c_l_0_2, .slice q6 l_0.Paths.length c_l_0_3] :: l') := Eq.mp (by kernel_rfl) hS
       refine pa (at_load one_37 q2d (hS.cell rfl)) <| x_done <| ?_
       refine x_fin ⟨⟨_, rfl⟩, rfl, ?_⟩
       exact Eq.mp (by kernel_rfl) hS
      ·intro Ep9 w l' hE9 hO9 hF_ hS
       refine p (yl_move (hE9 1 rfl)) <| x_done <| ?_
       refine x_fin ⟨⟨_, rfl⟩, rfl, ?_⟩
       exact Eq.mp (by kernel_rfl) hS
      ·intro Ep9 w l' hE9 hO9 hF_ hS
       obtain ⟨q2e, -⟩ := hF_
       replace q2e : Ep9 77 = .slice q0c w_1.length c_w_1 := Eq.mp (by kernel_rfl) q2e
       replace hS : St w0 w (ro ρ :: l') := Eq.mp (by kernel_rfl) hS
       refine p (yix_f sl_26 q2e rfl q9 q3a) <| x_done <| ?_
       refine x_fin ⟨⟨_, rfl⟩, rfl, ?_⟩
       exact Eq.mp (by kernel_rfl) hS
      ·intro Ep9 w l' hE9 hO9 hF_ hS
       obtain ⟨q2f, -⟩ := hF_
       replace q2f : Ep9 78 = .pointer (some ((adr q0c).add ((1 : Int).toNat * RpS.sz))) := Eq.mp (by kernel_rfl) q2f
       replace hS : St w0 w (ro ρ :: l') := Eq.mp (by kernel_rfl) hS
       refine pa (at_load one_9 q2f (RdS.getW q9 hS q3a hx79)) <| x_done <| ?_
       refine x_fin ⟨⟨_, rfl⟩, rfl, ?_⟩
       exact Eq.mp (by kernel_rfl) hS
      ·intro Ep9 w l' hE9 hO9 hF_ hS
       refine p (yl_move (hE9 7 rfl)) <| x_done <| ?_
       refine x_fin ⟨⟨_, rfl⟩, rfl, ?_⟩
       exact Eq.mp (by kernel_rfl) hS
      ·intro Ep9 w l' hE9 hO9 hF_ hS
       obtain ⟨q2g, -⟩ := hF_
       replace q2g : Ep9 80 = .slice q3 q0h.1.length c_y0_ret_7_2 := Eq.mp (by kernel_rfl) q2g
       replace hS : St w0 w (vec 3 (RpI .i64).sz (.slice q3 q0h.1.length c_y0_ret_7_2) q0h.1.length q0f :: l') := Eq.mp (by kernel_rfl) hS
       refine p (yix_o sl_22 q2g rfl hS q0l q3b) <| x_done <| ?_
       refine x_fin ⟨⟨_, rfl⟩, rfl, ?_⟩
       exact Eq.mp (by kernel_rfl) hS
      ·intro Ep9 w l' hE9 hO9 hF_ hS
       obtain ⟨q2h, -⟩ := hF_
       replace q2h : Ep9 81 = .pointer (some ((adr q3).add ((0 : Int).toNat * (RpI .i64).sz))) := Eq.mp (by kernel_rfl) q2h
       replace hS : St w0 w (vec 3 (RpI .i64).sz (.slice q3 q0h.1.length c_y0_ret_7_2) q0h.1.length q0f :: l') := Eq.mp (by kernel_rfl) hS
       refine pa (at_load one_3 q2h (RepL.getW q0l hS q3b hx82)) <| x_done <| ?_
       refine x_fin ⟨⟨_, rfl⟩, rfl, ?_⟩
       exact Eq.mp (by kernel_rfl) hS
      ·intro Ep9 w l' hE9 hO9 hF_ hS
       refine p (yl_move (hE9 7 rfl)) <| x_done <| ?_
       refine x_fin ⟨⟨_, rfl⟩, rfl, ?_⟩
       exact Eq.mp (by kernel_rfl) hS
      ·intro Ep9 w l' hE9 hO9 hF_ hS
       obtain ⟨q1m, -⟩ := hF_
       replace q1m : Ep9 83 = .slice q3 q0h.1.length c_y0_ret_7_2 := Eq.mp (by kernel_rfl) q1m
       replace hS : St w0 w (vec 3 (RpI .i64).sz (.slice q3 q0h.1.length c_y0_ret_7_2) q0h.1.length q0f :: l') := Eq.mp (by kernel_rfl) hS
       refine p (yix_o sl_22 q1m rfl hS q0l q2o) <| x_done <| ?_
       refine x_fin ⟨⟨_, rfl⟩, rfl, ?_⟩
       exact Eq.mp (by kernel_rfl) hS
      ·intro Ep9 w l' hE9 hO9 hF_ hS
       obtain ⟨q1n, -⟩ := hF_
       replace q1n : Ep9 84 = .pointer (some ((adr q3).add ((1 : Int).toNat * (RpI .i64).sz))) := Eq.mp (by kernel_rfl) q1n
       replace hS : St w0 w (vec 3 (RpI .i64).sz (.slice q3 q0h.1.length c_y0_ret_7_2) q0h.1.length q0f :: l') := Eq.mp (by kernel_rfl) hS
       refine pa (at_load one_3 q1n (RepL.getW q0l hS q2o hx85)) <| x_done <| ?_
       refine x_fin ⟨⟨_, rfl⟩, rfl, ?_⟩
       exact Eq.mp (by kernel_rfl) hS
      ·intro Ep9 w l' hE9 hO9 hF_ hS
       obtain ⟨q1o, q1p, -⟩ := hF_
       replace q1o : Ep9 82 = .int .i64 x82 := Eq.mp (by kernel_rfl) q1o
       replace q1p : Ep9 85 = .int .i64 x85 := Eq.mp (by kernel_rfl) q1p
       refine p (v := .agg #[.int .i64 x82, .int .i64 x85]) (yl_build bld_63 bldf_63 (parts_eq (pt (va := .int .i64 x82) q1o (pt (va := .int .i64 x85) q1p pt0))) (by kernel_rfl)) <| x_done <| ?_
       refine x_fin ⟨⟨_, rfl⟩, rfl, ?_⟩
       exact Eq.mp (by kernel_rfl) hS
      ·intro Ep9 w l' hE9 hO9 hF_ hS
       obtain ⟨q2i, q1q, -⟩ := hF_
       replace q2i : Ep9 79 = .string x79 := Eq.mp (by kernel_rfl) q2i
       replace q1q : Ep9 86 = .agg #[.int .i64 x82, .int .i64 x85] := Eq.mp (by kernel_rfl) q1q
       refine p (v := .agg #[.string x79, .int .i64 x82, .int .i64 x85]) (yl_build bld_66 bldf_66 (parts_eq (pt (va := .string x79) q2i (pt (va := .agg #[.int .i64 x82, .int .i64 x85]) q1q pt0))) (by kernel_rfl)) <| x_done <| ?_
       refine x_fin ⟨⟨_, rfl⟩, rfl, ?_⟩
       exact Eq.mp (by kernel_rfl) hS
      ·intro Ep9 w l' hE9 hO9 hF_ hS
       obtain ⟨q1r, -⟩ := hF_
       replace q1r : Ep9 87 = .agg #[.string x79, .int .i64 x82, .int .i64 x85] := Eq.mp (by kernel_rfl) q1r
       refine o_buildSlice (vs := [.agg #[.string x79, .int .i64 x82, .int .i64 x85]]) (cs := [.string x79, .int .i64 x82, .int .i64 x85]) sl_37 zero_66 (parts_eq (pt (va := .agg #[.string x79, .int .i64 x82, .int .i64 x85]) q1r pt0)) rfl (by intro v hv; simp only [List.mem_cons, List.not_mem_nil, or_false] at hv; first | (subst hv; rfl) | (rcases hv with rfl <;> rfl)) (by decide) rfl hS (fun b88 w' hS => ?_)
       refine x_done <| ?_
       refine x_fin ⟨⟨_, rfl⟩, rfl, ?_⟩
       exact Eq.mp (by kernel_rfl) hS
      ·intro Ep9 w l' hE9 hO9 hF_ hS
       obtain ⟨q2j, q1s, -⟩ := hF_
       replace q2j : Ep9 76 = .slice q4 l_0.Inputs.length c_l_0_1 := Eq.mp (by kernel_rfl) q2j
       replace q1s : Ep9 88 = .slice (some ⟨(blkOf (Ep9 88)), 0, none⟩) 1 1 := Eq.mp (by kernel_rfl) q1s
       replace hS : St w0 w (cells (blkOf (Ep9 88)) 66 [.string x79, .int .i64 x82, .int .i64 x85] :: ro ρ :: vec 66 R_clocks_Input.sz (.slice q4 l_0.Inputs.length c_l_0_1) l_0.Inputs.length q0a :: l') := Eq.mp (by kernel_rfl) hS
       refine o_ap sl_37 zero_66 rfl (by decide) q2j q1s (hS.pull 2) q0t (src_blk usl_37 hS rfl rfl) (RepL.cons (R := R_clocks_Input) (ρ := ρ) (x := (T_clocks_Input.mk x79 (T_tree_Window.mk x82 x85))) (cs := [.string x79, .int .i64 x82, .int .i64 x85]) rfl RepL.nil) q3n q3o (fun A89 c89 cs89 w' hr89 hS => ?_)
       refine x_done <| ?_
       refine x_fin ⟨⟨_, rfl⟩, rfl, ?_⟩
       replace hS := St.bun (Φ := (fun (cs89 : List Value) => RepL R_clocks_Input ρ q0g cs89)) (L := (fun (cs89 : List Value) => [vec 66 R_clocks_Input.sz (.slice A89 q0g.length c89) q0g.length cs89])) cs89 hr89 hS
       exact Eq.mp (by kernel_rfl) ((hS.pull 2).pull 2)
      ·intro Ep9 w l' hE9 hO9 hF_ hS
       obtain ⟨q2k, -⟩ := hF_
       replace q2k : Ep9 72 = .pointer (some ⟨q2, 0, none⟩) := Eq.mp (by kernel_rfl) q2k
       refine p (yl_nilCheck q2k) <| x_done <| ?_
       refine x_fin ⟨⟨_, rfl⟩, rfl, ?_⟩
       exact Eq.mp (by kernel_rfl) hS
      ·intro Ep9 w l' hE9 hO9 hF_ hS
       obtain ⟨q1t, -⟩ := hF_
       replace q1t : Ep9 90 = .pointer (some ⟨q2, 0, none⟩) := Eq.mp (by kernel_rfl) q1t
       refine p (yl_field0 fld_41_1 q1t) <| x_done <| ?_
       refine x_fin ⟨⟨_, rfl⟩, rfl, ?_⟩
       exact Eq.mp (by kernel_rfl) hS
      ·intro Ep9 w l' hE9 hO9 hF_ hS
       obtain ⟨q1u, q1v, -⟩ := hF_
       replace q1u : Ep9 89 = .slice (adOf (Ep9 89)) q0g.length (capOf (Ep9 89)) := Eq.mp (by kernel_rfl) q1u
       replace q1v : Ep9 91 = .pointer (some ⟨q2, 1, none⟩) := Eq.mp (by kernel_rfl) q1v
       replace hS : St w0 w (cells q2 41 [.int .i64 l_0.Period, .slice q4 l_0.Inputs.length c_l_0_1, .slice q5 l_0.Outputs.length c_l_0_2, .slice q6 l_0.Paths.length c_l_0_3] :: l') := Eq.mp (by kernel_rfl) hS
       refine o_store1 (v := .slice (adOf (Ep9 89)) q0g.length (capOf (Ep9 89))) one_37 q1v q1u rfl rfl hS (fun w' hS => ?_)
       refine x_done <| ?_
       refine x_fin ⟨⟨undef, rfl⟩, trivial, ?_⟩
       exact Eq.mp (by kernel_rfl) hS
     intro Ep9 w' hE9 hF_ hS
     obtain ⟨q2k, q2b, q2c, q2d, q2j, q2e, q2f, q2i, q2g, q2h, q1o, q1m, q1n, q1p, q1q, q1r, q1s, q1u, q1t, q1v, -⟩ := hF_
     replace q2k : Ep9 72 = .pointer (some ⟨q2, 0, none⟩) := Eq.mp (by kernel_rfl) q2k
     replace q2b : Ep9 73 = .pointer (some ⟨q2, 0, none⟩) := Eq.mp (by kernel_rfl) q2b
     replace q2c : Ep9 74 = .pointer (some ⟨q2, 0, none⟩) := Eq.mp (by kernel_rfl) q2c
     replace q2d : Ep9 75 = .pointer (some ⟨q2, 1, none⟩) := Eq.mp (by kernel_rfl) q2d
     replace q2j : Ep9 76 = .slice q4 l_0.Inputs.length c_l_0_1 := Eq.mp (by kernel_rfl) q2j
     replace q2e : Ep9 77 = .slice q0c w_1.length c_w_1 := Eq.mp (by kernel_rfl) q2e
     replace q2f : Ep9 78 = .pointer (some ((adr q0c).add ((1 : Int).toNat * RpS.sz))) := Eq.mp (by kernel_rfl) q2f
     replace q2i : Ep9 79 = .string x79 := Eq.mp (by kernel_rfl) q2i
     replace q2g : Ep9 80 = .slice q3 q0h.1.length c_y0_ret_7_2 := Eq.mp (by kernel_rfl) q2g
     replace q2h : Ep9 81 = .pointer (some ((adr q3).add ((0 : Int).toNat * (RpI .i64).sz))) := Eq.mp (by kernel_rfl) q2h
     replace q1o : Ep9 82 = .int .i64 x82 := Eq.mp (by kernel_rfl) q1o
     replace q1m : Ep9 83 = .slice q3 q0h.1.length c_y0_ret_7_2 := Eq.mp (by kernel_rfl) q1m
     replace q1n : Ep9 84 = .pointer (some ((adr q3).add ((1 : Int).toNat * (RpI .i64).sz))) := Eq.mp (by kernel_rfl) q1n
     replace q1p : Ep9 85 = .int .i64 x85 := Eq.mp (by kernel_rfl) q1p
     replace q1q : Ep9 86 = .agg #[.int .i64 x82, .int .i64 x85] := Eq.mp (by kernel_rfl) q1q
     replace q1r : Ep9 87 = .agg #[.string x79, .int .i64 x82, .int .i64 x85] := Eq.mp (by kernel_rfl) q1r
     replace q1s : Ep9 88 = .slice (some ⟨(blkOf (Ep9 88)), 0, none⟩) 1 1 := Eq.mp (by kernel_rfl) q1s
     replace q1u : Ep9 89 = .slice (adOf (Ep9 89)) q0g.length (capOf (Ep9 89)) := Eq.mp (by kernel_rfl) q1u
     replace q1t : Ep9 90 = .pointer (some ⟨q2, 0, none⟩) := Eq.mp (by kernel_rfl) q1t
     replace q1v : Ep9 91 = .pointer (some ⟨q2, 1, none⟩) := Eq.mp (by kernel_rfl) q1v
     replace hS : St w0 w' (ro ρ :: vec 3 (RpI .i64).sz (.slice q3 q0h.1.length c_y0_ret_7_2) q0h.1.length q0f :: cells (blkOf (Ep9 88)) 66 [.string x79, .int .i64 x82, .int .i64 x85] :: bunA (fun (cs89 : List Value) => RepL R_clocks_Input ρ q0g cs89) (fun (cs89 : List Value) => [vec 66 R_clocks_Input.sz (.slice (adOf (Ep9 89)) q0g.length (capOf (Ep9 89))) q0g.length cs89]) :: cells q2 41 [.int .i64 l_0.Period, .slice (adOf (Ep9 89)) q0g.length (capOf (Ep9 89)), .slice q5 l_0.Outputs.length c_l_0_2, .slice q6 l_0.Paths.length c_l_0_3] :: (vec 68 R_clocks_Output.sz (.slice q5 l_0.Outputs.length c_l_0_2) l_0.Outputs.length q0b :: vec 70 R_clocks_Path.sz (.slice q6 l_0.Paths.length c_l_0_3) l_0.Paths.length q0d :: l)) := Eq.mp (by kernel_rfl) hS
     have q_ := St.unbun (hS.pull 3); obtain ⟨cs89, hr89, hS⟩ := q_
     exact x_inv ⟨(adOf (Ep9 89)), q0g.length, (capOf (Ep9 89)), cs89, q0g, (Option.some.inj (show some _ = some _ from hFc71)), (hE9 8 rfl), hr89, (((((((hS.pull 2).drop.pull 2).drop.pull 1).pull 4).pull 4).pull 3).pull 4)⟩
    ·replace hFc71 := it_bf hc71 hFc71
     refine x_skip <| ?_
     exact x_inv ⟨q4, l_0.Inputs.length, c_l_0_1, q0a, l_0.Inputs, (Option.some.inj (show some _ = some _ from hFc71)), rfl, q0t, ((((hS.drop.pull 4).pull 4).pull 4).pull 4)⟩
   rintro E w ⟨q0r, q0s, c_b_l_0_1_c71, q0m, q0y, rfl, q3p, q1k, hS⟩
   have e_ := St.vec_n (hS.pull 1) q1k; subst e_
   refine x_seq <| x_region <| p (yl_move q3p) <| p (yl_assign rfl) <|
    x_done <| ?_
   have e_ := Option.some.inj (show some _ = some _ from hF); subst e_
   exact x_return ⟨_, ⟨_, _, rfl, rfl, rfl⟩, q0r, q0y.length, c_b_l_0_1_c71, q0m, q5, l_0.Outputs.length, c_l_0_2, q0b, q6, l_0.Paths.length, c_l_0_3, q0d, rfl, q1k, q0u, q0x, (((((hS.pull 4).pull 4).pull 4).pull 4).pull 4)⟩
  ·replace hF := it_bf hc55 hF
   replace hF := ck_s hF; obtain ⟨q2p, hF⟩ := hF
   replace hF := lv_s hF; obtain ⟨x96, hx96, hF⟩ := hF
   replace hF := lv_s hF; obtain ⟨x102, hx102, hF⟩ := hF
   refine x_seq <| x_region <| p (yl_move rfl) <| p (yix_f sl_26 rfl rfl q9 q2p) <|
    pa (at_load one_9 rfl (RdS.getW q9 (hS.pull 4) q2p hx96)) <| p (yl_eql_string rfl rfl) <| p (yl_move rfl) <| pg (v := .slice q0c w_1.length c_w_1) 98 (c := decide (x96 = (⟨#[111, 117, 116, 112, 117, 116]⟩ : ByteArray))) (says_t _) (fun hq => Yl.at (yl_move rfl)) <|
    pg (v := .int .i64 (w_1.length : Int)) 98 (c := decide (x96 = (⟨#[111, 117, 116, 112, 117, 116]⟩ : ByteArray))) (says_t _) (fun hq => Yl.at (yl_len_slice usl_26 (cv hq))) <| pg (v := .bool (decide ((w_1.length : Int) = 3))) 98 (c := decide (x96 = (⟨#[111, 117, 116, 112, 117, 116]⟩ : ByteArray))) (says_t _) (fun hq => Yl.at (yl_eql (cv hq) rfl)) <| p (yand' rfl (fun hc => (cv hc)) rfl hx102) <| p (yl_assign rfl) <|
    x_done <|
    x_cond (t := x102) rfl (fun hc93 => ?_) (fun hc93 => ?_)
   ·replace hF := it_t hc93 hF
    replace hF := ck_s hF; obtain ⟨q2q, hF⟩ := hF
    replace hF := lv_s hF; obtain ⟨x105, hx105, hF⟩ := hF
    refine x_seq <| x_region <| p (yl_move rfl) <| ?_
    have q_ := RdS.sub q9 q2q hx105; obtain ⟨A105, n105, c105, hd105, f105⟩ := q_
    refine p (ysub_l sl_26 rfl rfl q2q hd105) <| ?_
    have e_ := f105.n; subst e_
    replace hF := bd_s hF; obtain ⟨q0n, q3q, hF⟩ := hF
    have hcall := c_clocks_numbers q3q f105 (hS.pull 4)
    refine o_cc call_43 (args1 rfl) hcall ?_
    rintro e w' ⟨q7, q3h, c_y0_ret_12_2, q0o, rfl, q14, hS⟩
    refine ⟨_, rfl, ?_⟩
    have e_ := St.vec_n hS q14; subst e_
    refine p (yl_move rfl) <| p (yl_extract rfl rfl) <| p (yl_extract rfl rfl) <| p (yl_assign rfl) <|
     p (yl_assign rfl) <| x_done <| x_seq <| x_seq <|
     x_region <| p (yl_move rfl) <| x_done <| ?_
    replace hF := bd_s hF; obtain ⟨oc109, hFc109, hF⟩ := hF
    refine x_join (fun E w => ∃ (q0p : Option Addr) (q0q : Nat) (c_b_l_0_2_c109 : Nat) (q0j : List Value) (q0w : List T_clocks_Output), q0w = oc109 ∧ E 10 = .bool q0n.2 ∧ RepL R_clocks_Output ρ q0w q0j ∧ St w0 w (cells q2 41 [.int .i64 l_0.Period, .slice q4 l_0.Inputs.length c_l_0_1, .slice q0p q0q c_b_l_0_2_c109, .slice q6 l_0.Paths.length c_l_0_3] :: vec 66 R_clocks_Input.sz (.slice q4 l_0.Inputs.length c_l_0_1) l_0.Inputs.length q0a :: vec 68 R_clocks_Output.sz (.slice q0p q0q c_b_l_0_2_c109) q0q q0j :: vec 70 R_clocks_Path.sz (.slice q6 l_0.Paths.length c_l_0_3) l_0.Paths.length q0d :: ro ρ :: l)) ?_ ?_
    ·refine x_cond (t := q0n.2) rfl (fun hc109 => ?_) (fun hc109 => ?_)
     ·replace hFc109 := it_t hc109 hFc109
      replace hFc109 := ck_s hFc109; obtain ⟨q2r, hFc109⟩ := hFc109
      replace hFc109 := lv_s hFc109; obtain ⟨x117, hx117, hFc109⟩ := hFc109
      replace hFc109 := ck_s hFc109; obtain ⟨q2s, hFc109⟩ := hFc109
      replace hFc109 := lv_s hFc109; obtain ⟨x120, hx120, hFc109⟩ := hFc109
      replace hFc109 := lv_s hFc109; obtain ⟨q0e, q3c, hFc109⟩ := hFc109
      replace hFc109 := ck_s hFc109; obtain ⟨q3d, hFc109⟩ := hFc109
      refine x_par (w0 := w0) [⟨[], [], [110], [], [], []⟩, ⟨[], [], [111], [], [], []⟩, ⟨[1], [1], [112], [], [], []⟩, ⟨[1, 2], [2], [113], [], [], []⟩, ⟨[1, 2, 3], [3], [114], [0], [], []⟩, ⟨[], [], [115], [], [], []⟩, ⟨[5], [5], [116], [1], [], []⟩, ⟨[5, 6], [6], [117], [1], [], []⟩, ⟨[], [], [118], [], [], []⟩, ⟨[8], [8], [119], [2], [], []⟩, ⟨[8, 9], [9], [120], [2], [], []⟩, ⟨[5, 6, 7, 8, 9, 10], [7, 10], [121], [], [], []⟩, ⟨[5, 6, 7, 8, 9, 10, 11], [11], [122], [], [], [3]⟩, ⟨[1, 2, 3, 4, 5, 6, 7, 8, 9, 10, 11, 12], [4, 12], [123], [3, 1], [4], [5]⟩, ⟨[0, 1, 2, 3, 4, 5, 6, 7, 8, 9, 10, 11, 12, 13], [0], [124], [], [], []⟩, ⟨[0, 1, 2, 3, 4, 5, 6, 7, 8, 9, 10, 11, 12, 13, 14], [14], [125], [], [], []⟩, ⟨[0, 1, 2, 3, 4, 5, 6, 7, 8, 9, 10, 11, 12, 13, 14, 15], [13, 15], [], [], [0], [6]⟩] [⟨none, (some 16), []⟩, ⟨none, none, []⟩, ⟨none, none, []⟩, ⟨(some 12), none, [122]⟩, ⟨none, (some 13), []⟩, ⟨(some 13), none, [123]⟩, ⟨(some 16), none, [123]⟩] [110, 111, 112, 113, 114, 115, 116, 117, 118, 119, 120, 121, 122, 123, 124, 125] [0, 1, 2, 4] [1, 2, 3, 5, 6] [0, 1, 2, 3, 4, 5, 6, 7, 8, 9, 10, 11, 12, 13, 14, 15] [fun Ep14 => Ep14 110 = .pointer (some ⟨q2, 0, none⟩), fun Ep14 => Ep14 111 = .pointer (some ⟨q2, 0, none⟩), fun Ep14 => Ep14 112 = .pointer (some ⟨q2, 0, none⟩), fun Ep14 => Ep14 113 = .pointer (some ⟨q2, 2, none⟩), fun Ep14 => Ep14 114 = .slice q5 l_0.Outputs.length c_l_0_2, fun Ep14 => Ep14 115 = .slice q0c w_1.length c_w_1, fun Ep14 => Ep14 116 = .pointer (some ((adr q0c).add ((1 : Int).toNat * RpS.sz))), fun Ep14 => Ep14 117 = .string x117, fun Ep14 => Ep14 118 = .slice q7 q0n.1.length c_y0_ret_12_2, fun Ep14 => Ep14 119 = .pointer (some ((adr q7).add ((0 : Int).toNat * (RpI .i64).sz))), fun Ep14 => Ep14 120 = .int .i64 x120, fun Ep14 => Ep14 121 = .agg #[.string x117, .int .i64 x120], fun Ep14 => Ep14 122 = .slice (some ⟨(blkOf (Ep14 122)), 0, none⟩) 1 1, fun Ep14 => Ep14 123 = .slice (adOf (Ep14 123)) q0e.length (capOf (Ep14 123)), fun Ep14 => Ep14 124 = .pointer (some ⟨q2, 0, none⟩), fun Ep14 => Ep14 125 = .pointer (some ⟨q2, 2, none⟩), fun Ep14 => True] [fun Ep14 => cells q2 41 [.int .i64 l_0.Period, .slice q4 l_0.Inputs.length c_l_0_1, .slice q5 l_0.Outputs.length c_l_0_2, .slice q6 l_0.Paths.length c_l_0_3], fun Ep14 => ro ρ, fun Ep14 => vec 3 (RpI .i64).sz (.slice q7 q0n.1.length c_y0_ret_12_2) q0n.1.length q0o, fun Ep14 => cells (blkOf (Ep14 122)) 68 [.string x117, .int .i64 x120], fun Ep14 => vec 68 R_clocks_Output.sz (.slice q5 l_0.Outputs.length c_l_0_2) l_0.Outputs.length q0b, fun Ep14 => bunA (fun (cs123 : List Value) => RepL R_clocks_Output ρ q0e cs123) (fun (cs123 : List Value) => [vec 68 R_clocks_Output.sz (.slice (adOf (Ep14 123)) q0e.length (capOf (Ep14 123))) q0e.length cs123]), fun Ep14 => cells q2 41 [.int .i64 l_0.Period, .slice q4 l_0.Inputs.length c_l_0_1, .slice (adOf (Ep14 123)) q0e.length (capOf (Ep14 123)), .slice q6 l_0.Paths.length c_l_0_3]] mixed (by kernel_rfl) ((((hS.pull 4).pull 1).pull 2).pull 3) ?_ ?_
      ·refine ⟨?_, ?_, ?_, ?_, ?_, ?_, ?_, ?_, ?_, ?_, ?_, ?_, ?_, ?_, ?_, ?_, ?_, trivial⟩
       ·intro Ep14 w l' hE14 hO14 hF_ hS
        refine p (yl_move (hE14 0 rfl)) <| x_done <| ?_
        refine x_fin ⟨⟨_, rfl⟩, rfl, ?_⟩
        exact Eq.mp (by kernel_rfl) hS
       ·intro Ep14 w l' hE14 hO14 hF_ hS
        refine p (yl_move (hE14 0 rfl)) <| x_done <| ?_
        refine x_fin ⟨⟨_, rfl⟩, rfl, ?_⟩
        exact Eq.mp (by kernel_rfl) hS
       ·intro Ep14 w l' hE14 hO14 hF_ hS
        obtain ⟨q1w, -⟩ := hF_
        replace q1w : Ep14 111 = .pointer (some ⟨q2, 0, none⟩) := Eq.mp (by kernel_rfl) q1w
        refine p (yl_nilCheck q1w) <| x_done <| ?_
        refine x_fin ⟨⟨_, rfl⟩, rfl, ?_⟩
        exact Eq.mp (by kernel_rfl) hS
       ·intro Ep14 w l' hE14 hO14 hF_ hS
        obtain ⟨q1x, -⟩ := hF_
        replace q1x : Ep14 112 = .pointer (some ⟨q2, 0, none⟩) := Eq.mp (by kernel_rfl) q1x
        refine p (yl_field0 fld_41_2 q1x) <| x_done <| ?_
        refine x_fin ⟨⟨_, rfl⟩, rfl, ?_⟩
        exact Eq.mp (by kernel_rfl) hS
       ·intro Ep14 w l' hE14 hO14 hF_ hS
        obtain ⟨q1y, -⟩ := hF_
        replace q1y : Ep14 113 = .pointer (some ⟨q2, 2, none⟩) := Eq.mp (by kernel_rfl) q1y
        replace hS : St w0 w (cells q2 41 [.int .i64 l_0.Period, .slice q4 l_0.Inputs.length c_l_0_1, .slice q5 l_0.Outputs.length c_l_0_2, .slice q6 l_0.Paths.length c_l_0_3] :: l') := Eq.mp (by kernel_rfl) hS
        refine pa (at_load one_38 q1y (hS.cell rfl)) <| x_done <| ?_
        refine x_fin ⟨⟨_, rfl⟩, rfl, ?_⟩
        exact Eq.mp (by kernel_rfl) hS
       ·intro Ep14 w l' hE14 hO14 hF_ hS
        refine p (yl_move (hE14 1 rfl)) <| x_done <| ?_
        refine x_fin ⟨⟨_, rfl⟩, rfl, ?_⟩
        exact Eq.mp (by kernel_rfl) hS
       ·intro Ep14 w l' hE14 hO14 hF_ hS
        obtain ⟨q1z, -⟩ := hF_
        replace q1z : Ep14 115 = .slice q0c w_1.length c_w_1 := Eq.mp (by kernel_rfl) q1z
        replace hS : St w0 w (ro ρ :: l') := Eq.mp (by kernel_rfl) hS
        refine p (yix_f sl_26 q1z rfl q9 q2r) <| x_done <| ?_
        refine x_fin ⟨⟨_, rfl⟩, rfl, ?_⟩
        exact Eq.mp (by kernel_rfl) hS
       ·intro Ep14 w l' hE14 hO14 hF_ hS
        obtain ⟨q20, -⟩ := hF_
        replace q20 : Ep14 116 = .pointer (some ((adr q0c).add ((1 : Int).toNat * RpS.sz))) := Eq.mp (by kernel_rfl) q20
        replace hS : St w0 w (ro ρ :: l') := Eq.mp (by kernel_rfl) hS
        refine pa (at_load one_9 q20 (RdS.getW q9 hS q2r hx117)) <| x_done <| ?_
        refine x_fin ⟨⟨_, rfl⟩, rfl, ?_⟩
        exact Eq.mp (by kernel_rfl) hS
       ·intro Ep14 w l' hE14 hO14 hF_ hS
        refine p (yl_move (hE14 9 rfl)) <| x_done <| ?_
        refine x_fin ⟨⟨_, rfl⟩, rfl, ?_⟩
        exact Eq.mp (by kernel_rfl) hS
       ·intro Ep14 w l' hE14 hO14 hF_ hS
        obtain ⟨q21, -⟩ := hF_
        replace q21 : Ep14 118 = .slice q7 q0n.1.length c_y0_ret_12_2 := Eq.mp (by kernel_rfl) q21
        replace hS : St w0 w (vec 3 (RpI .i64).sz (.slice q7 q0n.1.length c_y0_ret_12_2) q0n.1.length q0o :: l') := Eq.mp (by kernel_rfl) hS
        refine p (yix_o sl_22 q21 rfl hS q14 q2s) <| x_done <| ?_
        refine x_fin ⟨⟨_, rfl⟩, rfl, ?_⟩
        exact Eq.mp (by kernel_rfl) hS
       ·intro Ep14 w l' hE14 hO14 hF_ hS
        obtain ⟨q22, -⟩ := hF_
        replace q22 : Ep14 119 = .pointer (some ((adr q7).add ((0 : Int).toNat * (RpI .i64).sz))) := Eq.mp (by kernel_rfl) q22
        replace hS : St w0 w (vec 3 (RpI .i64).sz (.slice q7 q0n.1.length c_y0_ret_12_2) q0n.1.length q0o :: l') := Eq.mp (by kernel_rfl) hS
        refine pa (at_load one_3 q22 (RepL.getW q14 hS q2s hx120)) <| x_done <| ?_
        refine x_fin ⟨⟨_, rfl⟩, rfl, ?_⟩
        exact Eq.mp (by kernel_rfl) hS
       ·intro Ep14 w l' hE14 hO14 hF_ hS
        obtain ⟨q23, q1a, -⟩ := hF_
        replace q23 : Ep14 117 = .string x117 := Eq.mp (by kernel_rfl) q23
        replace q1a : Ep14 120 = .int .i64 x120 := Eq.mp (by kernel_rfl) q1a
        refine p (v := .agg #[.string x117, .int .i64 x120]) (yl_build bld_68 bldf_68 (parts_eq (pt (va := .string x117) q23 (pt (va := .int .i64 x120) q1a pt0))) (by kernel_rfl)) <| x_done <| ?_
        refine x_fin ⟨⟨_, rfl⟩, rfl, ?_⟩
        exact Eq.mp (by kernel_rfl) hS
       ·intro Ep14 w l' hE14 hO14 hF_ hS
        obtain ⟨q1b, -⟩ := hF_
        replace q1b : Ep14 121 = .agg #[.string x117, .int .i64 x120] := Eq.mp (by kernel_rfl) q1b
        refine o_buildSlice (vs := [.agg #[.string x117, .int .i64 x120]]) (cs := [.string x117, .int .i64 x120]) sl_38 zero_68 (parts_eq (pt (va := .agg #[.string x117, .int .i64 x120]) q1b pt0)) rfl (by intro v hv; simp only [List.mem_cons, List.not_mem_nil, or_false] at hv; first | (subst hv; rfl) | (rcases hv with rfl <;> rfl)) (by decide) rfl hS (fun b122 w' hS => ?_)
        refine x_done <| ?_
        refine x_fin ⟨⟨_, rfl⟩, rfl, ?_⟩
        exact Eq.mp (by kernel_rfl) hS
       ·intro Ep14 w l' hE14 hO14 hF_ hS
        obtain ⟨q24, q1c, -⟩ := hF_
        replace q24 : Ep14 114 = .slice q5 l_0.Outputs.length c_l_0_2 := Eq.mp (by kernel_rfl) q24
        replace q1c : Ep14 122 = .slice (some ⟨(blkOf (Ep14 122)), 0, none⟩) 1 1 := Eq.mp (by kernel_rfl) q1c
        replace hS : St w0 w (cells (blkOf (Ep14 122)) 68 [.string x117, .int .i64 x120] :: ro ρ :: vec 68 R_clocks_Output.sz (.slice q5 l_0.Outputs.length c_l_0_2) l_0.Outputs.length q0b :: l') := Eq.mp (by kernel_rfl) hS
        refine o_ap sl_38 zero_68 rfl (by decide) q24 q1c (hS.pull 2) q0u (src_blk usl_38 hS rfl rfl) (RepL.cons (R := R_clocks_Output) (ρ := ρ) (x := (T_clocks_Output.mk x117 x120)) (cs := [.string x117, .int .i64 x120]) rfl RepL.nil) q3c q3d (fun A123 c123 cs123 w' hr123 hS => ?_)
        refine x_done <| ?_
        refine x_fin ⟨⟨_, rfl⟩, rfl, ?_⟩
        replace hS := St.bun (Φ := (fun (cs123 : List Value) => RepL R_clocks_Output ρ q0e cs123)) (L := (fun (cs123 : List Value) => [vec 68 R_clocks_Output.sz (.slice A123 q0e.length c123) q0e.length cs123])) cs123 hr123 hS
        exact Eq.mp (by kernel_rfl) ((hS.pull 2).pull 2)
       ·intro Ep14 w l' hE14 hO14 hF_ hS
        obtain ⟨q25, -⟩ := hF_
        replace q25 : Ep14 110 = .pointer (some ⟨q2, 0, none⟩) := Eq.mp (by kernel_rfl) q25
        refine p (yl_nilCheck q25) <| x_done <| ?_
        refine x_fin ⟨⟨_, rfl⟩, rfl, ?_⟩
        exact Eq.mp (by kernel_rfl) hS
       ·intro Ep14 w l' hE14 hO14 hF_ hS
        obtain ⟨q1d, -⟩ := hF_
        replace q1d : Ep14 124 = .pointer (some ⟨q2, 0, none⟩) := Eq.mp (by kernel_rfl) q1d
        refine p (yl_field0 fld_41_2 q1d) <| x_done <| ?_
        refine x_fin ⟨⟨_, rfl⟩, rfl, ?_⟩
        exact Eq.mp (by kernel_rfl) hS
       ·intro Ep14 w l' hE14 hO14 hF_ hS
        obtain ⟨q1e, q1f, -⟩ := hF_
        replace q1e : Ep14 123 = .slice (adOf (Ep14 123)) q0e.length (capOf (Ep14 123)) := Eq.mp (by kernel_rfl) q1e
        replace q1f : Ep14 125 = .pointer (some ⟨q2, 2, none⟩) := Eq.mp (by kernel_rfl) q1f
        replace hS : St w0 w (cells q2 41 [.int .i64 l_0.Period, .slice q4 l_0.Inputs.length c_l_0_1, .slice q5 l_0.Outputs.length c_l_0_2, .slice q6 l_0.Paths.length c_l_0_3] :: l') := Eq.mp (by kernel_rfl) hS
        refine o_store1 (v := .slice (adOf (Ep14 123)) q0e.length (capOf (Ep14 123))) one_38 q1f q1e rfl rfl hS (fun w' hS => ?_)
        refine x_done <| ?_
        refine x_fin ⟨⟨undef, rfl⟩, trivial, ?_⟩
        exact Eq.mp (by kernel_rfl) hS
      intro Ep14 w' hE14 hF_ hS
      obtain ⟨q25, q1w, q1x, q1y, q24, q1z, q20, q23, q21, q22, q1a, q1b, q1c, q1e, q1d, q1f, -⟩ := hF_
      replace q25 : Ep14 110 = .pointer (some ⟨q2, 0, none⟩) := Eq.mp (by kernel_rfl) q25
      replace q1w : Ep14 111 = .pointer (some ⟨q2, 0, none⟩) := Eq.mp (by kernel_rfl) q1w
      replace q1x : Ep14 112 = .pointer (some ⟨q2, 0, none⟩) := Eq.mp (by kernel_rfl) q1x
      replace q1y : Ep14 113 = .pointer (some ⟨q2, 2, none⟩) := Eq.mp (by kernel_rfl) q1y
      replace q24 : Ep14 114 = .slice q5 l_0.Outputs.length c_l_0_2 := Eq.mp (by kernel_rfl) q24
      replace q1z : Ep14 115 = .slice q0c w_1.length c_w_1 := Eq.mp (by kernel_rfl) q1z
      replace q20 : Ep14 116 = .pointer (some ((adr q0c).add ((1 : Int).toNat * RpS.sz))) := Eq.mp (by kernel_rfl) q20
      replace q23 : Ep14 117 = .string x117 := Eq.mp (by kernel_rfl) q23
      replace q21 : Ep14 118 = .slice q7 q0n.1.length c_y0_ret_12_2 := Eq.mp (by kernel_rfl) q21
      replace q22 : Ep14 119 = .pointer (some ((adr q7).add ((0 : Int).toNat * (RpI .i64).sz))) := Eq.mp (by kernel_rfl) q22
      replace q1a : Ep14 120 = .int .i64 x120 := Eq.mp (by kernel_rfl) q1a
      replace q1b : Ep14 121 = .agg #[.string x117, .int .i64 x120] := Eq.mp (by kernel_rfl) q1b
      replace q1c : Ep14 122 = .slice (some ⟨(blkOf (Ep14 122)), 0, none⟩) 1 1 := Eq.mp (by kernel_rfl) q1c
      replace q1e : Ep14 123 = .slice (adOf (Ep14 123)) q0e.length (capOf (Ep14 123)) := Eq.mp (by kernel_rfl) q1e
      replace q1d : Ep14 124 = .pointer (some ⟨q2, 0, none⟩) := Eq.mp (by kernel_rfl) q1d
      replace q1f : Ep14 125 = .pointer (some ⟨q2, 2, none⟩) := Eq.mp (by kernel_rfl) q1f
      replace hS : St w0 w' (ro ρ :: vec 3 (RpI .i64).sz (.slice q7 q0n.1.length c_y0_ret_12_2) q0n.1.length q0o :: cells (blkOf (Ep14 122)) 68 [.string x117, .int .i64 x120] :: bunA (fun (cs123 : List Value) => RepL R_clocks_Output ρ q0e cs123) (fun (cs123 : List Value) => [vec 68 R_clocks_Output.sz (.slice (adOf (Ep14 123)) q0e.length (capOf (Ep14 123))) q0e.length cs123]) :: cells q2 41 [.int .i64 l_0.Period, .slice q4 l_0.Inputs.length c_l_0_1, .slice (adOf (Ep14 123)) q0e.length (capOf (Ep14 123)), .slice q6 l_0.Paths.length c_l_0_3] :: (vec 66 R_clocks_Input.sz (.slice q4 l_0.Inputs.length c_l_0_1) l_0.Inputs.length q0a :: vec 70 R_clocks_Path.sz (.slice q6 l_0.Paths.length c_l_0_3) l_0.Paths.length q0d :: l)) := Eq.mp (by kernel_rfl) hS
      have q_ := St.unbun (hS.pull 3); obtain ⟨cs123, hr123, hS⟩ := q_
      exact x_inv ⟨(adOf (Ep14 123)), q0e.length, (capOf (Ep14 123)), cs123, q0e, (Option.some.inj (show some _ = some _ from hFc109)), (hE14 10 rfl), hr123, (((((((hS.pull 2).drop.pull 2).drop.pull 1).pull 4).pull 2).pull 4).pull 4)⟩
     ·replace hFc109 := it_bf hc109 hFc109
      refine x_skip <| ?_
      exact x_inv ⟨q5, l_0.Outputs.length, c_l_0_2, q0b, l_0.Outputs, (Option.some.inj (show some _ = some _ from hFc109)), rfl, q0u, ((((hS.drop.pull 4).pull 4).pull 4).pull 4)⟩
    rintro E w ⟨q0p, q0q, c_b_l_0_2_c109, q0j, q0w, rfl, q31, q1g, hS⟩
    have e_ := St.vec_n (hS.pull 2) q1g; subst e_
    refine x_seq <| x_region <| p (yl_move q31) <| p (yl_assign rfl) <|
     x_done <| ?_
    have e_ := Option.some.inj (show some _ = some _ from hF); subst e_
    exact x_return ⟨_, ⟨_, _, rfl, rfl, rfl⟩, q4, l_0.Inputs.length, c_l_0_1, q0a, q0p, q0w.length, c_b_l_0_2_c109, q0j, q6, l_0.Paths.length, c_l_0_3, q0d, rfl, q0t, q1g, q0x, (((((hS.pull 4).pull 4).pull 4).pull 4).pull 4)⟩
   ·replace hF := it_bf hc93 hF
    replace hF := ck_s hF; obtain ⟨q2t, hF⟩ := hF
    replace hF := lv_s hF; obtain ⟨x130, hx130, hF⟩ := hF
    replace hF := lv_s hF; obtain ⟨x136, hx136, hF⟩ := hF
    replace hF := ck_s hF; obtain ⟨q2m, hF⟩ := hF
    replace hF := lv_s hF; obtain ⟨x140, hx140, hF⟩ := hF
    replace hF := lv_s hF; obtain ⟨x146, hx146, hF⟩ := hF
    replace hF := lv_s hF; obtain ⟨x147, hx147, hF⟩ := hF
    refine x_seq <| x_region <| p (yl_move rfl) <| p (yix_f sl_26 rfl rfl q9 q2t) <|
     pa (at_load one_9 rfl (RdS.getW q9 (hS.pull 4) q2t hx130)) <| p (yl_eql_string rfl rfl) <| p (yl_move rfl) <| pg (v := .slice q0c w_1.length c_w_1) 132 (c := decide (x130 = (⟨#[109, 117, 108, 116, 105]⟩ : ByteArray))) (says_t _) (fun hq => Yl.at (yl_move rfl)) <|
     pg (v := .int .i64 (w_1.length : Int)) 132 (c := decide (x130 = (⟨#[109, 117, 108, 116, 105]⟩ : ByteArray))) (says_t _) (fun hq => Yl.at (yl_len_slice usl_26 (cv hq))) <| pg (v := .bool (decide ((w_1.length : Int) = 4))) 132 (c := decide (x130 = (⟨#[109, 117, 108, 116, 105]⟩ : ByteArray))) (says_t _) (fun hq => Yl.at (yl_eql (cv hq) rfl)) <| p (yand' rfl (fun hc => (cv hc)) rfl hx136) <| p (yl_move rfl) <|
     pg (v := .slice q0c w_1.length c_w_1) 137 (c := !x136) (says_f _) (fun hq => Yl.at (yl_move rfl)) <| pg (v := .pointer (some ((adr q0c).add ((0 : Int).toNat * RpS.sz)))) 137 (c := !x136) (says_f _) (fun hq => Yl.at (yix_f sl_26 (cv hq) rfl q9 (q2m hq))) <| pg (v := .string x140) 137 (c := !x136) (says_f _) (fun hq => at_load one_9 (cv hq) (RdS.getW q9 (hS.pull 4) (q2m hq) hx140)) <| pg (v := .bool (decide (x140 = (⟨#[102, 97, 108, 115, 101]⟩ : ByteArray)))) 137 (c := !x136) (says_f _) (fun hq => Yl.at (yl_eql_string (cv hq) rfl)) <|
     pg (v := .bool (decide (x140 = (⟨#[102, 97, 108, 115, 101]⟩ : ByteArray)))) 137 (c := !x136) (says_f _) (fun hq => Yl.at (yl_move (cv hq))) <| pg (v := .slice q0c w_1.length c_w_1) 142 (c := (!x136) && (decide (x140 = (⟨#[102, 97, 108, 115, 101]⟩ : ByteArray)))) (says_ift _ _) (fun hq => Yl.at (yl_move rfl)) <| pg (v := .int .i64 (w_1.length : Int)) 142 (c := (!x136) && (decide (x140 = (⟨#[102, 97, 108, 115, 101]⟩ : ByteArray)))) (says_ift _ _) (fun hq => Yl.at (yl_len_slice usl_26 (cv hq))) <| pg (v := .bool (decide ((w_1.length : Int) = 3))) 142 (c := (!x136) && (decide (x140 = (⟨#[102, 97, 108, 115, 101]⟩ : ByteArray)))) (says_ift _ _) (fun hq => Yl.at (yl_eql (cv hq) rfl)) <|
     pg (v := .bool x146) 137 (c := !x136) (says_f _) (fun hq => Yl.at (yand' (cv hq) (fun hc => (cv (and_i hq hc))) rfl hx146)) <| p (yor' rfl rfl (fun hc => (cv (t_not hc))) hx147) <| p (yl_assign rfl) <| x_done <|
     x_cond (t := x147) rfl (fun hc127 => ?_) (fun hc127 => ?_)
    ·replace hF := it_t hc127 hF
     replace hF := ck_s hF; obtain ⟨q2u, hF⟩ := hF
     replace hF := lv_s hF; obtain ⟨x150, hx150, hF⟩ := hF
     refine x_seq <| x_region <| p (yl_assign rfl) <| x_done <|
      x_seq <| x_seq <| x_region <| p (yl_move rfl) <|
      p (yix_f sl_26 rfl rfl q9 q2u) <| pa (at_load one_9 rfl (RdS.getW q9 (hS.pull 4) q2u hx150)) <| p (yl_eql_string rfl rfl) <| x_done <| ?_
     replace hF := bs_s hF; obtain ⟨oc151, hFc151, hF⟩ := hF
     refine x_join (fun E w => ∃ (q8 : Int), (Sum.inl q8) = oc151 ∧ E 0 = .pointer (some ⟨q2, 0, none⟩) ∧ E 1 = .slice q0c w_1.length c_w_1 ∧ E 11 = .int .i64 q8 ∧ St w0 w (cells q2 41 [.int .i64 l_0.Period, .slice q4 l_0.Inputs.length c_l_0_1, .slice q5 l_0.Outputs.length c_l_0_2, .slice q6 l_0.Paths.length c_l_0_3] :: vec 66 R_clocks_Input.sz (.slice q4 l_0.Inputs.length c_l_0_1) l_0.Inputs.length q0a :: vec 68 R_clocks_Output.sz (.slice q5 l_0.Outputs.length c_l_0_2) l_0.Outputs.length q0b :: vec 70 R_clocks_Path.sz (.slice q6 l_0.Paths.length c_l_0_3) l_0.Paths.length q0d :: ro ρ :: l)) ?_ ?_
     ·refine x_cond_p (x150 = (⟨#[109, 117, 108, 116, 105]⟩ : ByteArray)) rfl (fun hc151 => ?_) (fun hc151 => ?_)
      ·replace hFc151 := it_t hc151 hFc151
       replace hFc151 := ck_s hFc151; obtain ⟨q2v, hFc151⟩ := hFc151
       replace hFc151 := lv_s hFc151; obtain ⟨x154, hx154, hFc151⟩ := hFc151
       refine x_seq <| x_region <| p (yl_move rfl) <| ?_
       have q_ := RdS.sub q9 q2v hx154; obtain ⟨A154, n154, c154, hd154, f154⟩ := q_
       refine p (ysub_lh sl_26 rfl rfl rfl q2v hd154) <| ?_
       have e_ := f154.n; subst e_
       replace hFc151 := bd_s hFc151; obtain ⟨q27, q3r, hFc151⟩ := hFc151
       have hcall := c_clocks_numbers q3r f154 (hS.pull 4)
       refine o_cc call_43 (args1 rfl) hcall ?_
       rintro e w' ⟨q1l, q3i, c_y0_ret_19_2, q3e, rfl, q0i, hS⟩
       refine ⟨_, rfl, ?_⟩
       have e_ := St.vec_n hS q0i; subst e_
       replace hFc151 := ck_s hFc151; obtain ⟨q2w, hFc151⟩ := hFc151
       replace hFc151 := lv_s hFc151; obtain ⟨x163, hx163, hFc151⟩ := hFc151
       replace hFc151 := lv_s hFc151; obtain ⟨x165, hx165, hFc151⟩ := hFc151
       refine p (yl_move rfl) <| p (yl_extract rfl rfl) <| p (yl_extract rfl rfl) <| p (yl_assign rfl) <|
        p (yl_assign rfl) <| x_done <| x_seq <| x_seq <|
        x_region <| p (yl_move rfl) <| p (yl_not rfl) <| p (yl_move rfl) <|
        pg (v := .slice q1l q27.1.length c_y0_ret_19_2) 160 (c := !(!q27.2)) (says_f _) (fun hq => Yl.at (yl_move rfl)) <| pg (v := .pointer (some ((adr q1l).add ((0 : Int).toNat * (RpI .i64).sz)))) 160 (c := !(!q27.2)) (says_f _) (fun hq => Yl.at (yix_o sl_22 (cv hq) rfl hS q0i (q2w hq))) <| pg (v := .int .i64 x163) 160 (c := !(!q27.2)) (says_f _) (fun hq => at_load one_3 (cv hq) (RepL.getW q0i hS (q2w hq) hx163)) <| pg (v := .bool (decide (x163 = 0))) 160 (c := !(!q27.2)) (says_f _) (fun hq => Yl.at (yl_eql (cv hq) rfl)) <|
        p (yor' rfl rfl (fun hc => (cv (t_not hc))) hx165) <| x_done <|
        x_cond (t := x165) rfl (fun hc165 => ?_) (fun hc165 => ?_)
       ·replace hFc151 := it_t hc165 hFc151
        refine x_seq <| x_region <| p (yl_assign rfl) <| x_done <| ?_
        have e_ := Option.some.inj (show some _ = some _ from hFc151); subst e_
        have e_ := Option.some.inj (show some _ = some _ from hF); subst e_
        exact x_return ⟨_, ⟨_, _, rfl, rfl, rfl⟩, q4, l_0.Inputs.length, c_l_0_1, q0a, q5, l_0.Outputs.length, c_l_0_2, q0b, q6, l_0.Paths.length, c_l_0_3, q0d, rfl, q0t, q0u, q0x, ((((hS.drop.pull 4).pull 4).pull 4).pull 4)⟩
       ·replace hFc151 := it_bf hc165 hFc151
        replace hFc151 := ck_s hFc151; obtain ⟨q2x, hFc151⟩ := hFc151
        replace hFc151 := lv_s hFc151; obtain ⟨x168, hx168, hFc151⟩ := hFc151
        refine x_skip <| x_region <| p (yl_move rfl) <| p (yix_o sl_22 rfl rfl hS q0i q2x) <|
         pa (at_load one_3 rfl (RepL.getW q0i hS q2x hx168)) <| p (yl_assign rfl) <| x_done <| ?_
        exact x_inv ⟨x168, (Option.some.inj (show some _ = some _ from hFc151)), rfl, rfl, rfl, ((((hS.drop.pull 4).pull 4).pull 4).pull 4)⟩
      ·replace hFc151 := it_f hc151 hFc151
       refine x_skip <| ?_
       exact x_inv ⟨0, (Option.some.inj (show some _ = some _ from hFc151)), rfl, rfl, rfl, (((((hS.pull 4).pull 4).pull 4).pull 4).pull 4)⟩
     rintro E w ⟨q8, rfl, q2n, q26, q32, hS⟩
     replace hF := ar_s hF; obtain ⟨x173, hx173, hF⟩ := hF
     replace hF := ck_s hF; obtain ⟨q2y, hF⟩ := hF
     replace hF := lv_s hF; obtain ⟨x175, hx175, hF⟩ := hF
     replace hF := bd_s hF; obtain ⟨q0z, q3s, hF⟩ := hF
     refine x_seq <| x_region <| p (yl_move q26) <| p (yl_move q26) <|
      p (yl_len_slice usl_26 rfl) <| p (ysub rfl rfl hx173) <| p (yix_f sl_26 rfl rfl q9 q2y) <| pa (at_load one_9 rfl (RdS.getW q9 (hS.pull 4) q2y hx175)) <| ?_
     have hcall := c_clocks_place q3s  (hS.pull 4)
     refine o_cc call_44 (args1 rfl) ((Calls.mono hcall (fun e w'' h => And.intro h.1 ((((h.2.pull 4).pull 4).pull 4).pull 4)))) ?_
     rintro e w' ⟨rfl, hS⟩
     refine ⟨_, rfl, ?_⟩
     replace hF := ar_s hF; obtain ⟨x183, hx183, hF⟩ := hF
     replace hF := ck_s hF; obtain ⟨q2z, hF⟩ := hF
     replace hF := lv_s hF; obtain ⟨x185, hx185, hF⟩ := hF
     replace hF := bd_s hF; obtain ⟨q10, q3t, hF⟩ := hF
     refine p (v := .tuple #[.string q0z.1, .bool q0z.2]) (yl_move rfl) <| p (yl_extract rfl rfl) <| p (yl_extract rfl rfl) <| p (yl_assign rfl) <|
      p (yl_assign rfl) <| x_done <| x_seq <| x_region <|
      p (yl_move q26) <| p (yl_move q26) <| p (yl_len_slice usl_26 rfl) <| p (ysub rfl rfl hx183) <|
      p (yix_f sl_26 rfl rfl q9 q2z) <| pa (at_load one_9 rfl (RdS.getW q9 (hS.pull 4) q2z hx185)) <| ?_
     have hcall := c_clocks_place q3t  (hS.pull 4)
     refine o_cc call_44 (args1 rfl) ((Calls.mono hcall (fun e w'' h => And.intro h.1 ((((h.2.pull 4).pull 4).pull 4).pull 4)))) ?_
     rintro e w' ⟨rfl, hS⟩
     refine ⟨_, rfl, ?_⟩
     refine p (v := .tuple #[.string q10.1, .bool q10.2]) (yl_move rfl) <| p (yl_extract rfl rfl) <| p (yl_extract rfl rfl) <| p (yl_assign rfl) <|
      p (yl_assign rfl) <| x_done <| x_seq <| x_region <|
      p (yl_move q2n) <| p (yl_move q2n) <| p (yl_nilCheck rfl) <| p (yl_field0 fld_41_3 rfl) <|
      pa (at_load one_39 rfl (hS.cell rfl)) <| p (yl_move rfl) <| p (yl_move rfl) <| p (yl_move q32) <|
      p (v := .agg #[.string q0z.1, .string q10.1, .int .i64 q8]) (yl_build bld_70 bldf_70 (parts_eq (pt (va := .string q0z.1) rfl (pt (va := .string q10.1) rfl (pt (va := .int .i64 q8) rfl pt0)))) (by kernel_rfl)) <| ?_
     refine o_buildSlice (vs := [.agg #[.string q0z.1, .string q10.1, .int .i64 q8]]) (cs := [.string q0z.1, .string q10.1, .int .i64 q8]) sl_39 zero_70 (parts_eq (pt (va := .agg #[.string q0z.1, .string q10.1, .int .i64 q8]) rfl pt0)) rfl (by intro v hv; simp only [List.mem_cons, List.not_mem_nil, or_false] at hv; first | (subst hv; rfl) | (rcases hv with rfl <;> rfl)) (by decide) rfl hS (fun b198 w' hS => ?_)
     replace hF := lv_s hF; obtain ⟨q30, q3f, hF⟩ := hF
     replace hF := ck_s hF; obtain ⟨q3g, hF⟩ := hF
     refine o_ap sl_39 zero_70 rfl (by decide) rfl rfl (hS.pull 4) q0x (src_blk usl_39 hS rfl rfl) (RepL.cons (R := R_clocks_Path) (ρ := ρ) (x := (T_clocks_Path.mk q0z.1 q10.1 q8)) (cs := [.string q0z.1, .string q10.1, .int .i64 q8]) rfl RepL.nil) q3f q3g (fun A199 c199 cs199 w' hr199 hS => ?_)
     refine p (yl_nilCheck rfl) <| p (yl_field0 fld_41_3 rfl) <| ?_
     refine o_store1 (v := .slice A199 q30.length c199) one_39 rfl rfl rfl rfl (hS.pull 2) (fun w' hS => ?_)
     replace hF := lv_s hF; obtain ⟨x205, hx205, hF⟩ := hF
     refine x_done <| x_seq <| x_region <| p (yl_move rfl) <|
      p (yl_move rfl) <| pg (v := .bool q10.2) 203 (c := q0z.2) (says_t _) (fun hq => Yl.at (yl_move rfl)) <| p (yand' rfl (fun hc => (cv hc)) rfl hx205) <| p (yl_assign rfl) <|
      x_done <| ?_
     have e_ := Option.some.inj (show some _ = some _ from hF); subst e_
     exact x_return ⟨_, ⟨_, _, rfl, rfl, rfl⟩, q4, l_0.Inputs.length, c_l_0_1, q0a, q5, l_0.Outputs.length, c_l_0_2, q0b, A199, q30.length, c199, cs199, rfl, q0t, q0u, hr199, ((((((hS.pull 2).drop.pull 4).pull 2).pull 4).pull 4).pull 4)⟩
    ·replace hF := it_bf hc127 hF
     refine x_skip <| x_blk <| x_seq <| x_region <|
      p (yl_assign rfl) <| x_done <| ?_
     have e_ := Option.some.inj (show some _ = some _ from hF); subst e_
     exact x_return ⟨_, ⟨_, _, rfl, rfl, rfl⟩, q4, l_0.Inputs.length, c_l_0_1, q0a, q5, l_0.Outputs.length, c_l_0_2, q0b, q6, l_0.Paths.length, c_l_0_3, q0d, rfl, q0t, q0u, q0x, (((((hS.pull 4).pull 4).pull 4).pull 4).pull 4)⟩
attribute [irreducible] P_clocks_read_4

def P_clocks_Read_L5 (q8 : List ByteArray) : (Int × Int × List T_clocks_Input × List T_clocks_Output × List T_clocks_Path) → Option ((Int × Int × List T_clocks_Input × List T_clocks_Output × List T_clocks_Path) ⊕ ((Int × List T_clocks_Input × List T_clocks_Output × List T_clocks_Path) ⊕ (T_clocks_Limits × Int × Int))) := fun (q2, q3, q4, q5, q6) =>
 if q2 < (q8.length : Int) then
  bs (
   ck (inb q2 q8.length) <|
   lv (gt q8 q2) fun x20 =>
   if x20 = (⟨#[]⟩ : ByteArray) then
    some (Sum.inl (q3, q4, q5, q6))
   else
    bd (P_strings_Split x20 (⟨#[32]⟩ : ByteArray)) fun q0d =>
    bd (P_clocks_read_4 (T_clocks_Limits.mk q3 q4 q5 q6) q0d) fun q7 =>
    if (!q7.1) = true then
     ar (q2 + 1) fun x29 =>
     some (Sum.inr ((T_clocks_Limits.mk 0 [] [] []), x29, (10 : Int)))
    else
     some (Sum.inl (q7.2.1, q7.2.2.1, q7.2.2.2.1, q7.2.2.2.2))) (fun y => some (Sum.inr (Sum.inr y))) fun (q9, q0a, q0b, q0c) =>
  ar (q2 + 1) fun x30 =>
  some (Sum.inl (x30, q9, q0a, q0b, q0c))
 else
  some (Sum.inr (Sum.inl (q3, q4, q5, q6)))
def P_clocks_Read (s0 : ByteArray) : Option (T_clocks_Limits × Int × Int) :=
 if 262144 < (s0.size : Int) then
  some ((T_clocks_Limits.mk 0 [] [] []), (0 : Int), (3 : Int))
 else
  bd (P_strings_Split s0 (⟨#[10]⟩ : ByteArray)) fun q7 =>
  bs (
   lp (P_clocks_Read_L5 q7) fuel (0, 0, [], [], [])) (fun y => some y) fun (q2, q3, q4, q5) =>
  bd (P_clocks_Check (T_clocks_Limits.mk q2 q3 q4 q5)) fun q6 =>
  if q6 ≠ 0 then
   some ((T_clocks_Limits.mk 0 [] [] []), (0 : Int), q6)
  else
   some ((T_clocks_Limits.mk q2 q3 q4 q5), (0 : Int), (0 : Int))
set_option maxHeartbeats 4000000 in
set_option maxRecDepth 100000 in
theorem c_clocks_Read {w0 w : World} {l : List Assn} {ρ : Heap} {s0 : ByteArray} {r : (T_clocks_Limits × Int × Int)} (hF : P_clocks_Read s0 = some r) (hS : St w0 w (ro ρ :: l)) :
  Calls Tryd.prog 11 #[.string s0] w fun e w' => ∃ (q1z : Option Addr) (q1k : Nat) (c_y0_ret_1 : Nat) (q1w : List Value) (q20 : Option Addr) (q1l : Nat) (c_y0_ret_2 : Nat) (q1x : List Value) (q21 : Option Addr) (q1m : Nat) (c_y0_ret_3 : Nat) (q1y : List Value), e = .returned (.tuple #[.agg #[.int .i64 r.1.Period, .slice q1z q1k c_y0_ret_1, .slice q20 q1l c_y0_ret_2, .slice q21 q1m c_y0_ret_3], .int .i64 r.2.1, .int .i64 r.2.2]) ∧ RepL R_clocks_Input ρ r.1.Inputs q1w ∧ RepL R_clocks_Output ρ r.1.Outputs q1x ∧ RepL R_clocks_Path ρ r.1.Paths q1y ∧ St w0 w' (vec 66 R_clocks_Input.sz (.slice q1z q1k c_y0_ret_1) q1k q1w :: vec 68 R_clocks_Output.sz (.slice q20 q1l c_y0_ret_2) q1l q1x :: vec 70 R_clocks_Path.sz (.slice q21 q1m c_y0_ret_3) q1m q1y :: ro ρ :: l) := by
 refine enterC Tryd.func11 rfl 38 rfl (by simp) ?_
 refine x_seq <| x_region <| ?_
 refine o_alloc zero_41 hS (fun b2 w' hS => ?_)
 refine p (yl_assign rfl) <| p (yl_assign rfl) <| x_done <| x_seq <|
  x_seq <| x_region <| p (yl_move rfl) <| p (yl_len_string us_9 rfl) <|
  p (yl_gtr rfl rfl) <| x_done <|
  x_cond_p (262144 < (s0.size : Int)) rfl (fun hc11 => ?_) (fun hc11 => ?_)
 ·replace hF := it_t hc11 hF
  refine x_seq <| x_region <| p (v := .agg #[.int .i64 0, .slice none 0 0, .slice none 0 0, .slice none 0 0]) (yl_build bld_41 bldf_41 (parts_eq pt0) (by kernel_rfl)) <| ?_
  refine o_storeAgg (news := [.int .i64 0, .slice none 0 0, .slice none 0 0, .slice none 0 0]) agg_41 rfl rfl rfl (by simp [over_length]) hS (fun w' hS => ?_)
  refine p (yl_assign rfl) <| p (yl_assign rfl) <| x_done <| ?_
  replace hS := St.vec_nil hS 66 R_clocks_Input.sz
  have q2 : RepL R_clocks_Input ρ [] [] := rfl
  replace hS := St.vec_nil hS 68 R_clocks_Output.sz
  have q3 : RepL R_clocks_Output ρ [] [] := rfl
  replace hS := St.vec_nil hS 70 R_clocks_Path.sz
  have q4 : RepL R_clocks_Path ρ [] [] := rfl
  have e_ := Option.some.inj (show some _ = some _ from hF); subst e_
  exact x_return ⟨_, ⟨_, _, _, rfl, rfl, ldvA agg_41 rfl (fun j v hj => by rw [add0]; exact St.cell (hS.pull 3) hj), _, _, rfl, rfl, _, _, rfl, rfl, rfl⟩, none, 0, 0, [], none, 0, 0, [], none, 0, 0, [], rfl, q2, q3, q4, (((((hS.pull 3).drop.pull 3).pull 1).pull 2).pull 3)⟩
 ·replace hF := it_f hc11 hF
  refine x_skip <| x_seq <| x_region <| ?_
  refine o_alloc zero_41 hS (fun b5 w' hS => ?_)
  replace hF := bd_s hF; obtain ⟨q1e, q2p, hF⟩ := hF
  refine x_done <| x_seq <| x_seq <| x_region <|
   p (yl_move rfl) <| ?_
  have hcall := c_strings_Split q2p  (hS.pull 2)
  refine o_cc call_9 (args2 rfl rfl) hcall ?_
  rintro e w' ⟨q1r, q2v, c_r_4_1, q2e, rfl, q27, hS⟩
  refine ⟨_, rfl, ?_⟩
  have e_ := St.vec_n hS q27; subst e_
  refine p (yl_len_slice usl_26 rfl) <| p (yl_move rfl) <| x_done <| ?_
  replace hF := bs_s hF; obtain ⟨oL5, hLL5, hF⟩ := hF
  refine x_join (fun E w => ∃ (q8 : Option Addr) (q15 : Nat) (c_b5_1_L5 : Nat) (q0q : List Value) (q9 : Option Addr) (q16 : Nat) (c_b5_2_L5 : Nat) (q0r : List Value) (q0a : Option Addr) (q17 : Nat) (c_b5_3_L5 : Nat) (q0s : List Value) (q12 : Int) (q0k : List T_clocks_Input) (q0l : List T_clocks_Output) (q0m : List T_clocks_Path), (Sum.inl (q12, q0k, q0l, q0m)) = oL5 ∧ E 2 = .pointer (some ⟨b2, 0, none⟩) ∧ E 5 = .pointer (some ⟨b5, 0, none⟩) ∧ RepL R_clocks_Input ρ q0k q0q ∧ RepL R_clocks_Output ρ q0l q0r ∧ RepL R_clocks_Path ρ q0m q0s ∧ St w0 w (cells b2 41 [.int .i64 0, .slice none 0 0, .slice none 0 0, .slice none 0 0] :: cells b5 41 [.int .i64 q12, .slice q8 q15 c_b5_1_L5, .slice q9 q16 c_b5_2_L5, .slice q0a q17 c_b5_3_L5] :: vec 66 R_clocks_Input.sz (.slice q8 q15 c_b5_1_L5) q15 q0q :: vec 68 R_clocks_Output.sz (.slice q9 q16 c_b5_2_L5) q16 q0r :: vec 70 R_clocks_Path.sz (.slice q0a q17 c_b5_3_L5) q17 q0s :: ro ρ :: l)) ?_ ?_
  ·refine x_block ?_
   replace hS := St.vec_nil hS 66 R_clocks_Input.sz
   have q22 : RepL R_clocks_Input ρ [] [] := rfl
   replace hS := St.vec_nil hS 68 R_clocks_Output.sz
   have q23 : RepL R_clocks_Output ρ [] [] := rfl
   replace hS := St.vec_nil hS 70 R_clocks_Path.sz
   have q24 : RepL R_clocks_Path ρ [] [] := rfl
   refine x_loop (fun k_ E w => ∃ (q0h : Option Addr) (q0t : Nat) (c_b5_1_L5h : Nat) (q0b : List Value) (q0i : Option Addr) (q0u : Nat) (c_b5_2_L5h : Nat) (q0c : List Value) (q0j : Option Addr) (q0v : Nat) (c_b5_3_L5h : Nat) (q0d : List Value) (q1f : Int) (q13 : Int) (q0e : List T_clocks_Input) (q0f : List T_clocks_Output) (q0g : List T_clocks_Path), lp (P_clocks_Read_L5 q1e) k_ (q1f, q13, q0e, q0f, q0g) = some oL5 ∧ E 2 = .pointer (some ⟨b2, 0, none⟩) ∧ E 5 = .pointer (some ⟨b5, 0, none⟩) ∧ E 14 = .slice q1r q1e.length c_r_4_1 ∧ E 15 = .int .i64 (q1e.length : Int) ∧ E 16 = .int .i64 q1f ∧ RepL R_clocks_Input ρ q0e q0b ∧ RepL R_clocks_Output ρ q0f q0c ∧ RepL R_clocks_Path ρ q0g q0d ∧ St w0 w (cells b2 41 [.int .i64 0, .slice none 0 0, .slice none 0 0, .slice none 0 0] :: cells b5 41 [.int .i64 q13, .slice q0h q0t c_b5_1_L5h, .slice q0i q0u c_b5_2_L5h, .slice q0j q0v c_b5_3_L5h] :: vec 9 RpS.sz (.slice q1r q1e.length c_r_4_1) q1e.length q2e :: vec 66 R_clocks_Input.sz (.slice q0h q0t c_b5_1_L5h) q0t q0b :: vec 68 R_clocks_Output.sz (.slice q0i q0u c_b5_2_L5h) q0u q0c :: vec 70 R_clocks_Path.sz (.slice q0j q0v c_b5_3_L5h) q0v q0d :: ro ρ :: l)) fuel ⟨none, 0, 0, [], none, 0, 0, [], none, 0, 0, [], 0, 0, [], [], [], hLL5, rfl, rfl, rfl, rfl, rfl, q22, q23, q24, (((((((hS.pull 4).pull 1).pull 2).pull 3).pull 4).pull 5).pull 6)⟩ ?_
   rintro kL5 E w ⟨q0h, q0t, c_b5_1_L5h, q0b, q0i, q0u, c_b5_2_L5h, q0c, q0j, q0v, c_b5_3_L5h, q0d, q1f, q13, q0e, q0f, q0g, hLL5, q1n, q25, q28, q29, q1g, q0w, q0x, q0y, hS⟩
   have e_ := St.vec_n (hS.pull 3) q0w; subst e_
   have e_ := St.vec_n (hS.pull 4) q0x; subst e_
   have e_ := St.vec_n (hS.pull 5) q0y; subst e_
   replace hLL5 := lp_s hLL5; obtain ⟨kL5, obL5, rfl, hFL5, hLL5⟩ := hLL5
   refine x_seq <| x_region <| p (yl_lss q1g q29) <| x_done <|
    x_seq <|
    x_cond_p (q1f < (q1e.length : Int)) rfl (fun hc17 => ?_) (fun hc17 => ?_)
   ·replace hFL5 := it_t hc17 hFL5
    refine x_skip <| x_seq <| ?_
    replace hFL5 := bs_s hFL5; obtain ⟨ob1, hFb1, hFL5⟩ := hFL5
    refine x_join (fun E w => ∃ (q18 : Option Addr) (q19 : Nat) (c_b5_1_b1 : Nat) (q0z : List Value) (q1a : Option Addr) (q1b : Nat) (c_b5_2_b1 : Nat) (q10 : List Value) (q1c : Option Addr) (q1d : Nat) (c_b5_3_b1 : Nat) (q11 : List Value) (q1s : Int) (q1h : List T_clocks_Input) (q1i : List T_clocks_Output) (q1j : List T_clocks_Path), (Sum.inl (q1s, q1h, q1i, q1j)) = ob1 ∧ E 2 = .pointer (some ⟨b2, 0, none⟩) ∧ E 5 = .pointer (some ⟨b5, 0, none⟩) ∧ E 14 = .slice q1r q1e.length c_r_4_1 ∧ E 15 = .int .i64 (q1e.length : Int) ∧ E 16 = .int .i64 q1f ∧ RepL R_clocks_Input ρ q1h q0z ∧ RepL R_clocks_Output ρ q1i q10 ∧ RepL R_clocks_Path ρ q1j q11 ∧ St w0 w (cells b2 41 [.int .i64 0, .slice none 0 0, .slice none 0 0, .slice none 0 0] :: cells b5 41 [.int .i64 q1s, .slice q18 q19 c_b5_1_b1, .slice q1a q1b c_b5_2_b1, .slice q1c q1d c_b5_3_b1] :: vec 9 RpS.sz (.slice q1r q1e.length c_r_4_1) q1e.length q2e :: vec 66 R_clocks_Input.sz (.slice q18 q19 c_b5_1_b1) q19 q0z :: vec 68 R_clocks_Output.sz (.slice q1a q1b c_b5_2_b1) q1b q10 :: vec 70 R_clocks_Path.sz (.slice q1c q1d c_b5_3_b1) q1d q11 :: ro ρ :: l)) ?_ ?_
    ·replace hFb1 := ck_s hFb1; obtain ⟨q2j, hFb1⟩ := hFb1
     replace hFb1 := lv_s hFb1; obtain ⟨x20, hx20, hFb1⟩ := hFb1
     refine x_block <| x_seq <| x_region <| p (yl_move q1g) <|
      p (yix_o sl_26 q28 q1g (hS.pull 2) q27 q2j) <| pa (at_load one_9 rfl (RepL.getW q27 (hS.pull 2) q2j hx20)) <| p (yl_assign rfl) <| p (yl_assign rfl) <|
      x_done <| x_seq <| x_seq <| x_region <|
      p (yl_move rfl) <| p (yl_eql_string rfl rfl) <| x_done <|
      x_cond_p (x20 = (⟨#[]⟩ : ByteArray)) rfl (fun hc22 => ?_) (fun hc22 => ?_)
     ·replace hFb1 := it_t hc22 hFb1
      refine x_exitTo _ rfl <| ?_
      exact x_inv ⟨q0h, q0e.length, c_b5_1_L5h, q0b, q0i, q0f.length, c_b5_2_L5h, q0c, q0j, q0g.length, c_b5_3_L5h, q0d, q13, q0e, q0f, q0g, (Option.some.inj (show some _ = some _ from hFb1)), q1n, q25, q28, q29, q1g, q0w, q0x, q0y, (((((((hS.pull 6).pull 6).pull 6).pull 6).pull 6).pull 6).pull 6)⟩
     ·replace hFb1 := it_f hc22 hFb1
      replace hFb1 := bd_s hFb1; obtain ⟨q2y, q2q, hFb1⟩ := hFb1
      refine x_skip <| x_seq <| x_region <| p (yl_move rfl) <| ?_
      have hcall := c_strings_Split q2q  (hS.pull 6)
      refine o_cc call_9 (args2 rfl rfl) hcall ?_
      rintro e w' ⟨q2w, q2x, c_r_8_1, q2u, rfl, q2f, hS⟩
      refine ⟨_, rfl, ?_⟩
      have e_ := St.vec_n hS q2f; subst e_
      replace hFb1 := bd_s hFb1; obtain ⟨q14, q2r, hFb1⟩ := hFb1
      have q_ := St.lend ((hS.pull 1).pull 1) q2f; obtain ⟨ρl0, hll0, hlf0, hS0, back0⟩ := q_
      have hcall := c_clocks_read_4 q2r (q0w.le hll0) (q0x.le hll0) (q0y.le hll0) hlf0 ((((hS0.pull 6).pull 6).pull 6).pull 5)
      refine o_cc call_26 (args2 q25 rfl) hcall ?_
      rintro e w' ⟨q1t, q2g, c_b_l_0_1_ret_8_2, q0n, q1u, q2h, c_b_l_0_2_ret_8_2, q0o, q1v, q2i, c_b_l_0_3_ret_8_2, q0p, rfl, q5, q6, q7, hS⟩
      refine ⟨_, rfl, ?_⟩
      replace hS := back0 (hS.pull 4)
      replace q5 : RepL R_clocks_Input ρ q14.2.2.1 q0n := RepL.flat (fun h => h) q5
      have e_ := St.vec_n (hS.pull 3) q5; subst e_
      replace q6 : RepL R_clocks_Output ρ q14.2.2.2.1 q0o := RepL.flat (fun h => h) q6
      have e_ := St.vec_n (hS.pull 4) q6; subst e_
      replace q7 : RepL R_clocks_Path ρ q14.2.2.2.2 q0p := RepL.flat (fun h => h) q7
      have e_ := St.vec_n (hS.pull 5) q7; subst e_
      refine p (yl_not rfl) <| x_done <|
       x_cond (t := !q14.1) rfl (fun hc26 => ?_) (fun hc26 => ?_)
      ·replace hFb1 := it_t hc26 hFb1
       replace hFb1 := ar_s hFb1; obtain ⟨x29, hx29, hFb1⟩ := hFb1
       refine x_seq <| x_region <| p (v := .agg #[.int .i64 0, .slice none 0 0, .slice none 0 0, .slice none 0 0]) (yl_build bld_41 bldf_41 (parts_eq pt0) (by kernel_rfl)) <| p (yl_move rfl) <|
        p (yadd rfl rfl hx29) <| ?_
       refine o_storeAgg (news := [.int .i64 0, .slice none 0 0, .slice none 0 0, .slice none 0 0]) agg_41 q1n rfl rfl (by simp [over_length]) (hS.pull 6) (fun w' hS => ?_)
       refine p (yl_assign rfl) <| p (yl_assign rfl) <| x_done <| ?_
       replace hS := St.vec_nil hS 66 R_clocks_Input.sz
       have q2 : RepL R_clocks_Input ρ [] [] := rfl
       replace hS := St.vec_nil hS 68 R_clocks_Output.sz
       have q3 : RepL R_clocks_Output ρ [] [] := rfl
       replace hS := St.vec_nil hS 70 R_clocks_Path.sz
       have q4 : RepL R_clocks_Path ρ [] [] := rfl
       have e_ := Option.some.inj (show some _ = some _ from hFb1); subst e_
       have e_ := Option.some.inj (show some _ = some _ from hFL5); subst e_
       have e_ := (show _ = oL5 from hLL5); subst e_
       have e_ := Option.some.inj (show some _ = some _ from hF); subst e_
       exact x_return ⟨_, ⟨_, _, _, rfl, q1n, ldvA agg_41 rfl (fun j v hj => by rw [add0]; exact St.cell (hS.pull 3) hj), _, _, rfl, rfl, _, _, rfl, rfl, rfl⟩, none, 0, 0, [], none, 0, 0, [], none, 0, 0, [], rfl, q2, q3, q4, (((((((((((hS.pull 3).drop.pull 3).drop.pull 4).drop.pull 4).drop.pull 4).drop.pull 4).drop.pull 4).drop.pull 3).pull 1).pull 2).pull 3)⟩
      ·replace hFb1 := it_bf hc26 hFb1
       refine x_skip <| x_blk <| ?_
       exact x_inv ⟨q1t, q14.2.2.1.length, c_b_l_0_1_ret_8_2, q0n, q1u, q14.2.2.2.1.length, c_b_l_0_2_ret_8_2, q0o, q1v, q14.2.2.2.2.length, c_b_l_0_3_ret_8_2, q0p, q14.2.1, q14.2.2.1, q14.2.2.2.1, q14.2.2.2.2, (Option.some.inj (show some _ = some _ from hFb1)), q1n, q25, q28, q29, q1g, q5, q6, q7, ((((((hS.drop.pull 4).pull 4).pull 4).pull 6).pull 5).pull 6)⟩
    rintro E w ⟨q18, q19, c_b5_1_b1, q0z, q1a, q1b, c_b5_2_b1, q10, q1c, q1d, c_b5_3_b1, q11, q1s, q1h, q1i, q1j, rfl, q2s, q2t, q2l, q2m, q2n, q2a, q2b, q2c, hS⟩
    have e_ := St.vec_n (hS.pull 3) q2a; subst e_
    have e_ := St.vec_n (hS.pull 4) q2b; subst e_
    have e_ := St.vec_n (hS.pull 5) q2c; subst e_
    replace hFL5 := ar_s hFL5; obtain ⟨x30, hx30, hFL5⟩ := hFL5
    refine x_region <| p (yadd q2n rfl hx30) <| p (yl_move rfl) <| x_done <| ?_
    have e_ := Option.some.inj (show some _ = some _ from hFL5); subst e_
    exact x_inv ⟨kL5, Nat.lt_succ_self _, q18, q1h.length, c_b5_1_b1, q0z, q1a, q1i.length, c_b5_2_b1, q10, q1c, q1j.length, c_b5_3_b1, q11, x30, q1s, q1h, q1i, q1j, hLL5, q2s, q2t, q2l, q2m, rfl, q2a, q2b, q2c, (((((((hS.pull 6).pull 6).pull 6).pull 6).pull 6).pull 6).pull 6)⟩
   ·replace hFL5 := it_f hc17 hFL5
    refine x_exitTo _ rfl <| ?_
    have e_ := Option.some.inj (show some _ = some _ from hFL5); subst e_
    exact x_inv ⟨q0h, q0e.length, c_b5_1_L5h, q0b, q0i, q0f.length, c_b5_2_L5h, q0c, q0j, q0g.length, c_b5_3_L5h, q0d, q13, q0e, q0f, q0g, hLL5, q1n, q25, q0w, q0x, q0y, (((((((hS.pull 2).drop.pull 5).pull 5).pull 5).pull 5).pull 5).pull 5)⟩
  rintro E w ⟨q8, q15, c_b5_1_L5, q0q, q9, q16, c_b5_2_L5, q0r, q0a, q17, c_b5_3_L5, q0s, q12, q0k, q0l, q0m, rfl, q2d, q2k, q1o, q1p, q1q, hS⟩
  have e_ := St.vec_n (hS.pull 2) q1o; subst e_
  have e_ := St.vec_n (hS.pull 3) q1p; subst e_
  have e_ := St.vec_n (hS.pull 4) q1q; subst e_
  replace hF := bd_s hF; obtain ⟨q26, q2o, hF⟩ := hF
  refine x_seq <| x_seq <| x_region <| pa (v := .agg #[.int .i64 q12, .slice q8 q0k.length c_b5_1_L5, .slice q9 q0l.length c_b5_2_L5, .slice q0a q0m.length c_b5_3_L5]) (ld_sub agg_41 q2k rfl rfl (hS.pull 1)) <| ?_
  have q_ := St.lend ((hS.pull 5).pull 3) q1o; obtain ⟨ρl0, hll0, hlf0, hS0, back0⟩ := q_
  have q_ := St.lend (hS0.pull 3) (q1p.le hll0); obtain ⟨ρl1, hll1, hlf1, hS1, back1⟩ := q_
  have q_ := St.lend (hS1.pull 3) (q1q.le (hll0.trans hll1)); obtain ⟨ρl2, hll2, hlf2, hS2, back2⟩ := q_
  have hcall := c_clocks_Check q2o (hlf0.le (hll1.trans hll2)) (hlf1.le hll2) hlf2 hS2
  refine o_cc call_20 (args1 rfl) ((Calls.mono hcall (fun e w'' h => And.intro h.1 (((((((back0 ((back1 ((back2 h.2).pull 1)).pull 1)).pull 1).pull 3).pull 3).pull 3).pull 5).pull 5)))) ?_
  rintro e w' ⟨rfl, hS⟩
  refine ⟨_, rfl, ?_⟩
  refine p (v := .int .i64 q26) (yl_assign rfl) <| x_done <| x_seq <| x_region <|
   p (v := .int .i64 q26) (yl_move rfl) <| p (yl_neq rfl rfl) <| x_done <|
   x_cond_p (q26 ≠ 0) rfl (fun hc34 => ?_) (fun hc34 => ?_)
  ·replace hF := it_t hc34 hF
   refine x_seq <| x_region <| p (v := .agg #[.int .i64 0, .slice none 0 0, .slice none 0 0, .slice none 0 0]) (yl_build bld_41 bldf_41 (parts_eq pt0) (by kernel_rfl)) <| p (v := .int .i64 q26) (yl_move rfl) <| ?_
   refine o_storeAgg (news := [.int .i64 0, .slice none 0 0, .slice none 0 0, .slice none 0 0]) agg_41 q2d rfl rfl (by simp [over_length]) hS (fun w' hS => ?_)
   refine p (yl_assign rfl) <| p (v := .int .i64 q26) (yl_assign rfl) <| x_done <| ?_
   replace hS := St.vec_nil hS 66 R_clocks_Input.sz
   have q2 : RepL R_clocks_Input ρ [] [] := rfl
   replace hS := St.vec_nil hS 68 R_clocks_Output.sz
   have q3 : RepL R_clocks_Output ρ [] [] := rfl
   replace hS := St.vec_nil hS 70 R_clocks_Path.sz
   have q4 : RepL R_clocks_Path ρ [] [] := rfl
   have e_ := Option.some.inj (show some _ = some _ from hF); subst e_
   exact x_return ⟨_, ⟨_, _, _, rfl, q2d, ldvA agg_41 rfl (fun j v hj => by rw [add0]; exact St.cell (hS.pull 3) hj), _, _, rfl, rfl, _, _, rfl, rfl, rfl⟩, none, 0, 0, [], none, 0, 0, [], none, 0, 0, [], rfl, q2, q3, q4, (((((((((hS.pull 3).drop.pull 3).drop.pull 3).drop.pull 3).drop.pull 3).drop.pull 3).pull 1).pull 2).pull 3)⟩
  ·replace hF := it_f hc34 hF
   refine x_skip <| x_seq <| x_region <| pa (v := .agg #[.int .i64 q12, .slice q8 q0k.length c_b5_1_L5, .slice q9 q0l.length c_b5_2_L5, .slice q0a q0m.length c_b5_3_L5]) (ld_sub agg_41 q2k rfl rfl (hS.pull 1)) <| ?_
   refine o_storeAgg (news := [.int .i64 q12, .slice q8 q0k.length c_b5_1_L5, .slice q9 q0l.length c_b5_2_L5, .slice q0a q0m.length c_b5_3_L5]) agg_41 q2d rfl rfl (by simp [over_length]) hS (fun w' hS => ?_)
   refine p (yl_assign rfl) <| p (yl_assign rfl) <| x_done <| ?_
   have e_ := Option.some.inj (show some _ = some _ from hF); subst e_
   exact x_return ⟨_, ⟨_, _, _, rfl, q2d, ldvA agg_41 rfl (fun j v hj => by rw [add0]; exact St.cell hS hj), _, _, rfl, rfl, _, _, rfl, rfl, rfl⟩, q8, q0k.length, c_b5_1_L5, q0q, q9, q0l.length, c_b5_2_L5, q0r, q0a, q0m.length, c_b5_3_L5, q0s, rfl, q1o, q1p, q1q, ((((hS.drop.drop.pull 3).pull 3).pull 3).pull 3)⟩
attribute [irreducible] P_clocks_Read

def P_maskkeep4_ClocksLines (l_0 : List Int) : Option Bool :=
 bd (P_maskmake_Stream_Range (T_maskmake_Stream.mk l_0 0) 1 5) fun q8 =>
 bd (P_maskmake_Stream_Next (T_maskmake_Stream.mk l_0 q8.2) 5) fun q9 =>
 bd (P_maskmake_Stream_Next (T_maskmake_Stream.mk l_0 q9.2) 5) fun q0a =>
 bd (P_maskmake_Stream_Range (T_maskmake_Stream.mk l_0 q0a.2) 1 5) fun q0b =>
 bd (P_maskmake_Stream_Netlist (T_maskmake_Stream.mk l_0 q0b.2) q8.1 q9.1 q0a.1 q0b.1) fun q0c =>
 bd (P_maskmake_Stream_Limits (T_maskmake_Stream.mk l_0 q0c.2) q0c.1 true) fun q0d =>
 bd (P_clocks_Text q0d.1) fun q5 =>
 bd (P_strings_Split q5.1 (⟨#[10]⟩ : ByteArray)) fun q4 =>
 bd (P_maskkeep4_asks) fun q0i =>
 lv ((!q0i) || (decide (q5.2 ≠ 0))) fun x44 =>
 lv (x44 || (decide ((q4.length : Int) < 2))) fun x49 =>
 if x49 = true then
  some false
 else
  ar ((q4.length : Int) - 1) fun x54 =>
  ck (0 ≤ (1 : Int) ∧ (1 : Int) ≤ x54 ∧ x54 ≤ q4.length) <|
  lv (sub q4 1 x54) fun x55 =>
  lv (([] : List ByteArray) ++ x55) fun q0e =>
  ck (apOk 16 q0e.length) <|
  ck (inb 0 q4.length) <|
  lv (gt q4 (0 : Int)) fun x59 =>
  lv (q0e ++ [(⟨#[]⟩ : ByteArray), x59]) fun q6 =>
  ck (apOk 16 q6.length) <|
  lv (q6 ++ [(⟨#[]⟩ : ByteArray)]) fun q2 =>
  ck (apOk 16 q2.length) <|
  bd (P_strings_Join q2 (⟨#[10]⟩ : ByteArray)) fun q0j =>
  bd (P_clocks_Read q0j) fun q0f =>
  bd (P_clocks_Text q0f.1) fun q0k =>
  bd (P_maskmake_Stream_Next (T_maskmake_Stream.mk l_0 q0d.2) (q2.length : Int)) fun q3 =>
  ck (0 ≤ q3.1 ∧ q3.1 ≤ q2.length) <|
  ck (1 ≤ q2.length ∧ q2.length ≤ 1000000) <|
  lv (q2.take (q3.1 : Int).toNat ++ ks_9d68bc03 :: q2.drop (q3.1 : Int).toNat) fun q0g =>
  bd (P_strings_Join q0g (⟨#[10]⟩ : ByteArray)) fun q0h =>
  bd (P_clocks_Read q0h) fun q7 =>
  lv ((decide (q0f.2.2 = 0)) && (decide (q0k.1 = q5.1))) fun x97 =>
  lv (x97 && (decide (q7.2.2 = 10))) fun x101 =>
  ck (x101 = true → I64 (q3.1 + 1)) <|
  lv (q3.1 + 1) fun x105 =>
  lv (x101 && (decide (q7.2.1 = x105))) fun x107 =>
  some x107
set_option maxHeartbeats 4000000 in
set_option maxRecDepth 100000 in
theorem c_maskkeep4_ClocksLines {w0 w : World} {l : List Assn} {ρ : Heap} {q10 : Option Addr} {q23 : Nat} {c_l_0 : Nat} {l_0 : List Int} {r : Bool} (hF : P_maskkeep4_ClocksLines l_0 = some r) (q0i : RdS (RpI .i64) ρ q10 q23 c_l_0 l_0) (hS : St w0 w (ro ρ :: l)) :
  Calls Tryd.prog 3 #[.slice q10 q23 c_l_0] w fun e w' => e = .returned (.bool r) ∧ St w0 w' (ro ρ :: l) := by
 have e_ := q0i.n; subst e_
 refine enterC Tryd.func3 rfl 108 rfl (by simp) ?_
 refine x_seq <| x_region <| p (yl_assign rfl) <| x_done <|
  x_seq <| x_region <| p (yl_move rfl) <| p (v := .agg #[.slice q10 l_0.length c_l_0, .int .i64 0]) (yl_build bld_25 bldf_25 (parts_eq (pt (va := .slice q10 l_0.length c_l_0) rfl pt0)) (by kernel_rfl)) <| ?_
 refine o_box (cs := [.slice q10 l_0.length c_l_0, .int .i64 0]) rfl rfl hS (fun b19 w' hS => ?_)
 replace hF := bd_s hF; obtain ⟨q3j, q2z, hF⟩ := hF
 refine p (yl_assign rfl) <| x_done <| x_seq <| x_region <|
  p (yl_move rfl) <| p (yl_move rfl) <| ?_
 have hcall := c_maskmake_Stream_Range q2z q0i ((hS.pull 1).pull 1)
 refine o_cc call_5 (args3 rfl rfl rfl) hcall ?_
 rintro e w' ⟨rfl, hS⟩
 refine ⟨_, rfl, ?_⟩
 replace hF := bd_s hF; obtain ⟨q3k, q30, hF⟩ := hF
 refine p (yl_move rfl) <| ?_
 have hcall := c_maskmake_Stream_Next q30 q0i ((hS.pull 1).pull 1)
 refine o_cc call_6 (args2 rfl rfl) hcall ?_
 rintro e w' ⟨rfl, hS⟩
 refine ⟨_, rfl, ?_⟩
 replace hF := bd_s hF; obtain ⟨q3l, q31, hF⟩ := hF
 refine p (yl_move rfl) <| ?_
 have hcall := c_maskmake_Stream_Next q31 q0i ((hS.pull 1).pull 1)
 refine o_cc call_6 (args2 rfl rfl) hcall ?_
 rintro e w' ⟨rfl, hS⟩
 refine ⟨_, rfl, ?_⟩
 replace hF := bd_s hF; obtain ⟨q3m, q32, hF⟩ := hF
 refine p (yl_move rfl) <| ?_
 have hcall := c_maskmake_Stream_Range q32 q0i ((hS.pull 1).pull 1)
 refine o_cc call_5 (args3 rfl rfl rfl) hcall ?_
 rintro e w' ⟨rfl, hS⟩
 refine ⟨_, rfl, ?_⟩
 replace hF := bd_s hF; obtain ⟨q4, q33, hF⟩ := hF
 have hcall := c_maskmake_Stream_Netlist q33 q0i ((hS.pull 1).pull 1)
 refine o_cc call_4 (args5 rfl rfl rfl rfl rfl) hcall ?_
 rintro e w' ⟨q1w, q0f, q2d, c_y0_ret_0_2_9, q6, q2e, c_y0_ret_1_2_9, q16, q7, q2f, c_y0_ret_2_2_9, q17, q8, q2g, c_y0_ret_3_2_9, q18, q9, q2h, c_y0_ret_4_2_9, q19, rfl, q1a, q0o, q0p, q0q, q0r, q0s, hS⟩
 refine ⟨_, rfl, ?_⟩
 have e_ := q0o.n; subst e_
 have e_ := St.vec_n hS q0p; subst e_
 have e_ := St.vec_n (hS.pull 1) q0q; subst e_
 have e_ := St.vec_n (hS.pull 2) q0r; subst e_
 have e_ := St.vec_n (hS.pull 3) q0s; subst e_
 refine o_alloc zero_30 hS (fun b4 w' hS => ?_)
 refine o_storeAgg (news := [.slice q0f q4.1.In.length c_y0_ret_0_2_9, .slice q6 q4.1.Out.length c_y0_ret_1_2_9, .slice q7 q4.1.Flops.length c_y0_ret_2_2_9, .slice q8 q4.1.Gates.length c_y0_ret_3_2_9, .slice q9 q4.1.Outs.length c_y0_ret_4_2_9]) agg_30 rfl rfl rfl (by simp [over_length]) hS (fun w' hS => ?_)
 replace hF := bd_s hF; obtain ⟨q0n, q34, hF⟩ := hF
 refine x_done <| x_seq <| x_region <| p (yl_move rfl) <|
  pa (v := .agg #[.slice q0f q4.1.In.length c_y0_ret_0_2_9, .slice q6 q4.1.Out.length c_y0_ret_1_2_9, .slice q7 q4.1.Flops.length c_y0_ret_2_2_9, .slice q8 q4.1.Gates.length c_y0_ret_3_2_9, .slice q9 q4.1.Outs.length c_y0_ret_4_2_9]) (ld_sub agg_30 rfl rfl rfl hS) <| ?_
 have q_ := St.lend ((hS.pull 6).pull 2) q0p; obtain ⟨ρl0, hll0, hlf0, hS0, back0⟩ := q_
 have q_ := St.lend (hS0.pull 2) (q0q.le hll0); obtain ⟨ρl1, hll1, hlf1, hS1, back1⟩ := q_
 have q_ := St.lend (hS1.pull 2) (q0r.le (hll0.trans hll1)); obtain ⟨ρl2, hll2, hlf2, hS2, back2⟩ := q_
 have q_ := St.lend (hS2.pull 2) (q0s.le ((hll0.trans hll1).trans hll2)); obtain ⟨ρl3, hll3, hlf3, hS3, back3⟩ := q_
 have hcall := c_maskmake_Stream_Limits q34 ((q0i.le q1a).le (((hll0.trans hll1).trans hll2).trans hll3)) (q0o.le (((hll0.trans hll1).trans hll2).trans hll3)) (hlf0.le ((hll1.trans hll2).trans hll3)) (hlf1.le (hll2.trans hll3)) (hlf2.le hll3) hlf3 (hS3.pull 2)
 refine o_cc call_8 (args3 rfl rfl rfl) hcall ?_
 rintro e w' ⟨q1j, q2i, c_y0_ret_1_3_2, q0j, q1k, q2j, c_y0_ret_2_3_2, q0k, q1l, q2k, c_y0_ret_3_3_2, q0l, rfl, q0a, q0b, q0c, hS⟩
 refine ⟨_, rfl, ?_⟩
 replace hS := back3 (hS.pull 4)
 replace hS := back2 (hS.pull 1)
 replace hS := back1 (hS.pull 1)
 replace hS := back0 (hS.pull 1)
 replace q0a : RepL R_clocks_Input q1w q0n.1.Inputs q0j := RepL.flat (fun h => h) q0a
 have e_ := St.vec_n (hS.pull 5) q0a; subst e_
 replace q0b : RepL R_clocks_Output q1w q0n.1.Outputs q0k := RepL.flat (fun h => h) q0b
 have e_ := St.vec_n (hS.pull 6) q0b; subst e_
 replace q0c : RepL R_clocks_Path q1w q0n.1.Paths q0l := RepL.flat (fun h => h) q0c
 have e_ := St.vec_n (hS.pull 7) q0c; subst e_
 replace hF := bd_s hF; obtain ⟨q1m, q35, hF⟩ := hF
 have q_ := St.lend ((hS.pull 1).pull 5) q0a; obtain ⟨ρl0, hll0, hlf0, hS0, back0⟩ := q_
 have q_ := St.lend (hS0.pull 5) (q0b.le hll0); obtain ⟨ρl1, hll1, hlf1, hS1, back1⟩ := q_
 have q_ := St.lend (hS1.pull 5) (q0c.le (hll0.trans hll1)); obtain ⟨ρl2, hll2, hlf2, hS2, back2⟩ := q_
 have hcall := c_clocks_Text q35 (hlf0.le (hll1.trans hll2)) (hlf1.le hll2) hlf2 hS2
 refine o_cc call_7 (args1 rfl) ((Calls.mono hcall (fun e w'' h => And.intro h.1 (((((((((((back0 ((back1 ((back2 h.2).pull 1)).pull 1)).pull 9).pull 9).pull 5).pull 5).pull 4).pull 9).pull 9).pull 9).pull 8).pull 9)))) ?_
 rintro e w' ⟨rfl, hS⟩
 refine ⟨_, rfl, ?_⟩
 replace hF := bd_s hF; obtain ⟨q0e, q36, hF⟩ := hF
 refine p (v := .tuple #[.string q1m.1, .int .i64 q1m.2]) (yl_move rfl) <| p (yl_extract rfl rfl) <| p (yl_extract rfl rfl) <| p (yl_assign rfl) <|
  p (yl_assign rfl) <| x_done <| x_seq <| x_region <|
  p (yl_move rfl) <| ?_
 have hcall := c_strings_Split q36  (hS.pull 1)
 refine o_cc call_9 (args2 rfl rfl) hcall ?_
 rintro e w' ⟨q3, q3g, c_r_4_1, q3f, rfl, q1x, hS⟩
 refine ⟨_, rfl, ?_⟩
 have e_ := St.vec_n hS q1x; subst e_
 replace hF := bd_s hF; obtain ⟨q2p, q37, hF⟩ := hF
 refine p (yl_assign rfl) <| x_done <| x_seq <| x_seq <|
  x_region <| ?_
 have hcall := c_maskkeep4_asks q37  (hS.pull 1)
 refine o_cc call_10 args0 ((Calls.mono hcall (fun e w'' h => And.intro h.1 (((((((((((h.2.pull 10).pull 10).pull 10).pull 10).pull 10).pull 10).pull 10).pull 10).pull 10).pull 9).pull 10)))) ?_
 rintro e w' ⟨rfl, hS⟩
 refine ⟨_, rfl, ?_⟩
 replace hF := lv_s hF; obtain ⟨x44, hx44, hF⟩ := hF
 replace hF := lv_s hF; obtain ⟨x49, hx49, hF⟩ := hF
 refine p (yl_not rfl) <| p (yl_move rfl) <| pg (v := .int .i64 q1m.2) 41 (c := !(!q2p)) (says_f _) (fun hq => Yl.at (yl_move rfl)) <| pg (v := .bool (decide (q1m.2 ≠ 0))) 41 (c := !(!q2p)) (says_f _) (fun hq => Yl.at (yl_neq (cv hq) rfl)) <|
  p (yor' rfl rfl (fun hc => (cv (t_not hc))) hx44) <| p (yl_move rfl) <| pg (v := .slice q3 q0e.length c_r_4_1) 45 (c := !x44) (says_f _) (fun hq => Yl.at (yl_move rfl)) <| pg (v := .int .i64 (q0e.length : Int)) 45 (c := !x44) (says_f _) (fun hq => Yl.at (yl_len_slice usl_26 (cv hq))) <|
  pg (v := .bool (decide ((q0e.length : Int) < 2))) 45 (c := !x44) (says_f _) (fun hq => Yl.at (yl_lss (cv hq) rfl)) <| p (yor' rfl rfl (fun hc => (cv (t_not hc))) hx49) <| x_done <|
  x_cond (t := x49) rfl (fun hc49 => ?_) (fun hc49 => ?_)
 ·replace hF := it_t hc49 hF
  refine x_seq <| x_region <| p (yl_assign rfl) <| x_done <| ?_
  have e_ := Option.some.inj (show some _ = some _ from hF); subst e_
  exact x_return ⟨_, ⟨_, _, rfl, rfl, rfl⟩, rfl, (ro_back0 q1a ((((((((((hS.drop.pull 1).drop.pull 1).drop.pull 1).drop.pull 1).drop.pull 1).drop.pull 1).drop.pull 1).drop.pull 1).drop.pull 1).drop))⟩
 ·replace hF := it_bf hc49 hF
  refine x_skip <| x_seq <| ?_
  have q_ := St.vec_fz ((hS.pull 1).pull 1) q1x; obtain ⟨q2, q1b, q15, hS⟩ := q_
  replace hF := ar_s hF; obtain ⟨x54, hx54, hF⟩ := hF
  replace hF := ck_s hF; obtain ⟨q24, hF⟩ := hF
  replace hF := lv_s hF; obtain ⟨x55, hx55, hF⟩ := hF
  replace hF := lv_s hF; obtain ⟨q0g, q38, hF⟩ := hF
  replace hF := ck_s hF; obtain ⟨q39, hF⟩ := hF
  replace hF := ck_s hF; obtain ⟨q25, hF⟩ := hF
  replace hF := lv_s hF; obtain ⟨x59, hx59, hF⟩ := hF
  replace hF := lv_s hF; obtain ⟨q0d, q2q, hF⟩ := hF
  replace hF := ck_s hF; obtain ⟨q2r, hF⟩ := hF
  replace hF := lv_s hF; obtain ⟨q5, q2s, hF⟩ := hF
  replace hF := ck_s hF; obtain ⟨q2t, hF⟩ := hF
  refine x_par (w0 := w0) [⟨[], [], [50], [], [], [0]⟩, ⟨[], [], [51], [], [], []⟩, ⟨[], [], [52], [], [], []⟩, ⟨[2], [2], [53], [], [], []⟩, ⟨[2, 3], [3], [54], [], [], []⟩, ⟨[1, 2, 3, 4], [1, 4], [55], [1], [], []⟩, ⟨[0, 1, 2, 3, 4, 5], [0, 5], [56], [1], [0], [2]⟩, ⟨[], [], [57], [], [], []⟩, ⟨[7], [7], [58], [1], [], []⟩, ⟨[7, 8], [8], [59], [1], [], []⟩, ⟨[7, 8, 9], [9], [60], [], [], [3]⟩, ⟨[0, 1, 2, 3, 4, 5, 6, 7, 8, 9, 10], [6, 10], [61], [3, 1], [2], [4]⟩, ⟨[], [], [62], [], [], [5]⟩, ⟨[0, 1, 2, 3, 4, 5, 6, 7, 8, 9, 10, 11, 12], [11, 12], [63], [5, 1], [4], [6]⟩, ⟨[0, 1, 2, 3, 4, 5, 6, 7, 8, 9, 10, 11, 12, 13], [13], [7, 63], [], [], []⟩] [⟨(some 0), (some 6), [50]⟩, ⟨none, none, []⟩, ⟨(some 6), (some 11), [56]⟩, ⟨(some 10), none, [60]⟩, ⟨(some 11), (some 13), [61]⟩, ⟨(some 12), none, [62]⟩, ⟨(some 13), none, [63]⟩] [7, 50, 51, 52, 53, 54, 55, 56, 57, 58, 59, 60, 61, 62, 63] [1] [1, 3, 5, 6] [0, 1, 2, 3, 4, 5, 6, 7, 8, 9, 10, 11, 12, 13, 14] [fun Ep7 => Ep7 50 = .slice (some ⟨(blkOf (Ep7 50)), 0, none⟩) 0 0, fun Ep7 => Ep7 51 = .slice q3 q0e.length c_r_4_1, fun Ep7 => Ep7 52 = .slice q3 q0e.length c_r_4_1, fun Ep7 => Ep7 53 = .int .i64 (q0e.length : Int), fun Ep7 => Ep7 54 = .int .i64 x54, fun Ep7 => Ep7 55 = .slice (adOf (Ep7 55)) x55.length (capOf (Ep7 55)) ∧ RdS RpS q2 (adOf (Ep7 55)) x55.length (capOf (Ep7 55)) x55, fun Ep7 => Ep7 56 = .slice (adOf (Ep7 56)) q0g.length (capOf (Ep7 56)), fun Ep7 => Ep7 57 = .slice q3 q0e.length c_r_4_1, fun Ep7 => Ep7 58 = .pointer (some ((adr q3).add ((0 : Int).toNat * RpS.sz))), fun Ep7 => Ep7 59 = .string x59, fun Ep7 => Ep7 60 = .slice (some ⟨(blkOf (Ep7 60)), 0, none⟩) 2 2, fun Ep7 => Ep7 61 = .slice (adOf (Ep7 61)) q0d.length (capOf (Ep7 61)), fun Ep7 => Ep7 62 = .slice (some ⟨(blkOf (Ep7 62)), 0, none⟩) 1 1, fun Ep7 => Ep7 63 = .slice (adOf (Ep7 63)) q5.length (capOf (Ep7 63)), fun Ep7 => Ep7 7 = .slice (adOf (Ep7 63)) q5.length (capOf (Ep7 63))] [fun Ep7 => cells (blkOf (Ep7 50)) 9 [], fun Ep7 => ro q2, fun Ep7 => bunA (fun (cs56 : List Value) => RepL RpS q2 q0g cs56) (fun (cs56 : List Value) => [vec 9 RpS.sz (.slice (adOf (Ep7 56)) q0g.length (capOf (Ep7 56))) q0g.length cs56]), fun Ep7 => cells (blkOf (Ep7 60)) 9 [.string (⟨#[]⟩ : ByteArray), .string x59], fun Ep7 => bunA (fun (cs61 : List Value) => RepL RpS q2 q0d cs61) (fun (cs61 : List Value) => [vec 9 RpS.sz (.slice (adOf (Ep7 61)) q0d.length (capOf (Ep7 61))) q0d.length cs61]), fun Ep7 => cells (blkOf (Ep7 62)) 9 [.string (⟨#[]⟩ : ByteArray)], fun Ep7 => bunA (fun (cs63 : List Value) => RepL RpS q2 q5 cs63) (fun (cs63 : List Value) => [vec 9 RpS.sz (.slice (adOf (Ep7 63)) q5.length (capOf (Ep7 63))) q5.length cs63])] mixed (by kernel_rfl) hS ?_ ?_
  ·refine ⟨?_, ?_, ?_, ?_, ?_, ?_, ?_, ?_, ?_, ?_, ?_, ?_, ?_, ?_, ?_, trivial⟩
   ·intro Ep7 w l' hE7 hO7 hF_ hS
    refine o_buildSlice (vs := []) (cs := []) sl_26 zero_9 (parts_eq pt0) rfl (by intro v hv; cases hv) (by decide) rfl hS (fun b50 w' hS => ?_)
    refine x_done <| ?_
    refine x_fin ⟨⟨_, rfl⟩, rfl, ?_⟩
    exact Eq.mp (by kernel_rfl) hS
   ·intro Ep7 w l' hE7 hO7 hF_ hS
    refine p (yl_move (hO7 7 rfl)) <| x_done <| ?_
    refine x_fin ⟨⟨_, rfl⟩, rfl, ?_⟩
    exact Eq.mp (by kernel_rfl) hS
   ·intro Ep7 w l' hE7 hO7 hF_ hS
    refine p (yl_move (hO7 7 rfl)) <| x_done <| ?_
    refine x_fin ⟨⟨_, rfl⟩, rfl, ?_⟩
    exact Eq.mp (by kernel_rfl) hS
   ·intro Ep7 w l' hE7 hO7 hF_ hS
    obtain ⟨q1n, -⟩ := hF_
    replace q1n : Ep7 52 = .slice q3 q0e.length c_r_4_1 := Eq.mp (by kernel_rfl) q1n
    refine p (yl_len_slice usl_26 q1n) <| x_done <| ?_
    refine x_fin ⟨⟨_, rfl⟩, rfl, ?_⟩
    exact Eq.mp (by kernel_rfl) hS
   ·intro Ep7 w l' hE7 hO7 hF_ hS
    obtain ⟨q1o, -⟩ := hF_
    replace q1o : Ep7 53 = .int .i64 (q0e.length : Int) := Eq.mp (by kernel_rfl) q1o
    refine p (ysub q1o rfl hx54) <| x_done <| ?_
    refine x_fin ⟨⟨_, rfl⟩, rfl, ?_⟩
    exact Eq.mp (by kernel_rfl) hS
   ·intro Ep7 w l' hE7 hO7 hF_ hS
    obtain ⟨q1p, q1q, -⟩ := hF_
    replace q1p : Ep7 51 = .slice q3 q0e.length c_r_4_1 := Eq.mp (by kernel_rfl) q1p
    replace q1q : Ep7 54 = .int .i64 x54 := Eq.mp (by kernel_rfl) q1q
    replace hS : St w0 w (ro q2 :: l') := Eq.mp (by kernel_rfl) hS
    have q_ := RdS.sub q15 q24 hx55; obtain ⟨A55, n55, c55, hd55, f55⟩ := q_
    refine p (ysub_lh sl_26 q1p rfl q1q q24 hd55) <| ?_
    have e_ := f55.n; subst e_
    refine x_done <| ?_
    refine x_fin ⟨⟨_, rfl⟩, ⟨rfl, f55⟩, ?_⟩
    exact Eq.mp (by kernel_rfl) hS
   ·intro Ep7 w l' hE7 hO7 hF_ hS
    obtain ⟨q1r, q0z, -⟩ := hF_
    replace q1r : Ep7 50 = .slice (some ⟨(blkOf (Ep7 50)), 0, none⟩) 0 0 := Eq.mp (by kernel_rfl) q1r
    replace q0z : Ep7 55 = .slice (adOf (Ep7 55)) x55.length (capOf (Ep7 55)) ∧ RdS RpS q2 (adOf (Ep7 55)) x55.length (capOf (Ep7 55)) x55 := Eq.mp (by kernel_rfl) q0z
    have q_ := id q0z; obtain ⟨-, q26⟩ := q_
    replace hS : St w0 w (ro q2 :: cells (blkOf (Ep7 50)) 9 [] :: l') := Eq.mp (by kernel_rfl) hS
    have q3a : RepL RpS q2 ([] : List ByteArray) [] := RepL.nil
    replace hS := St.vec_of (n := 0) (sz := RpS.sz) (hS.pull 1) rfl (by decide)
    have q_ := src_f usl_26 (hS.pull 1) q26; obtain ⟨nw56, hnw56, src56⟩ := q_
    refine o_ap sl_26 zero_9 rfl (by decide) q1r q0z.1 hS q3a src56 hnw56 q38 q39 (fun A56 c56 cs56 w' hr56 hS => ?_)
    refine x_done <| ?_
    refine x_fin ⟨⟨_, rfl⟩, rfl, ?_⟩
    replace hS := St.bun (Φ := (fun (cs56 : List Value) => RepL RpS q2 q0g cs56)) (L := (fun (cs56 : List Value) => [vec 9 RpS.sz (.slice A56 q0g.length c56) q0g.length cs56])) cs56 hr56 hS
    exact Eq.mp (by kernel_rfl) (hS.pull 1)
   ·intro Ep7 w l' hE7 hO7 hF_ hS
    refine p (yl_move (hO7 7 rfl)) <| x_done <| ?_
    refine x_fin ⟨⟨_, rfl⟩, rfl, ?_⟩
    exact Eq.mp (by kernel_rfl) hS
   ·intro Ep7 w l' hE7 hO7 hF_ hS
    obtain ⟨q1s, -⟩ := hF_
    replace q1s : Ep7 57 = .slice q3 q0e.length c_r_4_1 := Eq.mp (by kernel_rfl) q1s
    replace hS : St w0 w (ro q2 :: l') := Eq.mp (by kernel_rfl) hS
    refine p (yix_f sl_26 q1s rfl q15 q25) <| x_done <| ?_
    refine x_fin ⟨⟨_, rfl⟩, rfl, ?_⟩
    exact Eq.mp (by kernel_rfl) hS
   ·intro Ep7 w l' hE7 hO7 hF_ hS
    obtain ⟨q1t, -⟩ := hF_
    replace q1t : Ep7 58 = .pointer (some ((adr q3).add ((0 : Int).toNat * RpS.sz))) := Eq.mp (by kernel_rfl) q1t
    replace hS : St w0 w (ro q2 :: l') := Eq.mp (by kernel_rfl) hS
    refine pa (at_load one_9 q1t (RdS.getW q15 hS q25 hx59)) <| x_done <| ?_
    refine x_fin ⟨⟨_, rfl⟩, rfl, ?_⟩
    exact Eq.mp (by kernel_rfl) hS
   ·intro Ep7 w l' hE7 hO7 hF_ hS
    obtain ⟨q1u, -⟩ := hF_
    replace q1u : Ep7 59 = .string x59 := Eq.mp (by kernel_rfl) q1u
    refine o_buildSlice (vs := [.string (⟨#[]⟩ : ByteArray), .string x59]) (cs := [.string (⟨#[]⟩ : ByteArray), .string x59]) sl_26 zero_9 (parts_eq (pt (va := .string (⟨#[]⟩ : ByteArray)) rfl (pt (va := .string x59) q1u pt0))) rfl (by intro v hv; simp only [List.mem_cons, List.not_mem_nil, or_false] at hv; first | (subst hv; rfl) | (rcases hv with rfl | rfl <;> rfl)) (by decide) rfl hS (fun b60 w' hS => ?_)
    refine x_done <| ?_
    refine x_fin ⟨⟨_, rfl⟩, rfl, ?_⟩
    exact Eq.mp (by kernel_rfl) hS
   ·intro Ep7 w l' hE7 hO7 hF_ hS
    obtain ⟨q1v, q11, -⟩ := hF_
    replace q1v : Ep7 56 = .slice (adOf (Ep7 56)) q0g.length (capOf (Ep7 56)) := Eq.mp (by kernel_rfl) q1v
    replace q11 : Ep7 60 = .slice (some ⟨(blkOf (Ep7 60)), 0, none⟩) 2 2 := Eq.mp (by kernel_rfl) q11
    replace hS : St w0 w (cells (blkOf (Ep7 60)) 9 [.string (⟨#[]⟩ : ByteArray), .string x59] :: ro q2 :: bunA (fun (cs56 : List Value) => RepL RpS q2 q0g cs56) (fun (cs56 : List Value) => [vec 9 RpS.sz (.slice (adOf (Ep7 56)) q0g.length (capOf (Ep7 56))) q0g.length cs56]) :: l') := Eq.mp (by kernel_rfl) hS
    have q_ := St.unbun (hS.pull 2); obtain ⟨cs56, hr56, hS⟩ := q_
    refine o_ap sl_26 zero_9 rfl (by decide) q1v q11 hS hr56 (src_blk usl_26 (hS.pull 1) rfl rfl) (RepL.cons (R := RpS) (ρ := q2) (x := (⟨#[]⟩ : ByteArray)) (cs := [.string (⟨#[]⟩ : ByteArray)]) rfl (RepL.cons (R := RpS) (ρ := q2) (x := x59) (cs := [.string x59]) rfl RepL.nil)) q2q q2r (fun A61 c61 cs61 w' hr61 hS => ?_)
    refine x_done <| ?_
    refine x_fin ⟨⟨_, rfl⟩, rfl, ?_⟩
    replace hS := St.bun (Φ := (fun (cs61 : List Value) => RepL RpS q2 q0d cs61)) (L := (fun (cs61 : List Value) => [vec 9 RpS.sz (.slice A61 q0d.length c61) q0d.length cs61])) cs61 hr61 hS
    exact Eq.mp (by kernel_rfl) ((hS.pull 2).pull 2)
   ·intro Ep7 w l' hE7 hO7 hF_ hS
    refine o_buildSlice (vs := [.string (⟨#[]⟩ : ByteArray)]) (cs := [.string (⟨#[]⟩ : ByteArray)]) sl_26 zero_9 (parts_eq (pt (va := .string (⟨#[]⟩ : ByteArray)) rfl pt0)) rfl (by intro v hv; simp only [List.mem_cons, List.not_mem_nil, or_false] at hv; first | (subst hv; rfl) | (rcases hv with rfl <;> rfl)) (by decide) rfl hS (fun b62 w' hS => ?_)
    refine x_done <| ?_
    refine x_fin ⟨⟨_, rfl⟩, rfl, ?_⟩
    exact Eq.mp (by kernel_rfl) hS
   ·intro Ep7 w l' hE7 hO7 hF_ hS
    obtain ⟨q12, q13, -⟩ := hF_
    replace q12 : Ep7 61 = .slice (adOf (Ep7 61)) q0d.length (capOf (Ep7 61)) := Eq.mp (by kernel_rfl) q12
    replace q13 : Ep7 62 = .slice (some ⟨(blkOf (Ep7 62)), 0, none⟩) 1 1 := Eq.mp (by kernel_rfl) q13
    replace hS : St w0 w (cells (blkOf (Ep7 62)) 9 [.string (⟨#[]⟩ : ByteArray)] :: ro q2 :: bunA (fun (cs61 : List Value) => RepL RpS q2 q0d cs61) (fun (cs61 : List Value) => [vec 9 RpS.sz (.slice (adOf (Ep7 61)) q0d.length (capOf (Ep7 61))) q0d.length cs61]) :: l') := Eq.mp (by kernel_rfl) hS
    have q_ := St.unbun (hS.pull 2); obtain ⟨cs61, hr61, hS⟩ := q_
    refine o_ap sl_26 zero_9 rfl (by decide) q12 q13 hS hr61 (src_blk usl_26 (hS.pull 1) rfl rfl) (RepL.cons (R := RpS) (ρ := q2) (x := (⟨#[]⟩ : ByteArray)) (cs := [.string (⟨#[]⟩ : ByteArray)]) rfl RepL.nil) q2s q2t (fun A63 c63 cs63 w' hr63 hS => ?_)
    refine x_done <| ?_
    refine x_fin ⟨⟨_, rfl⟩, rfl, ?_⟩
    replace hS := St.bun (Φ := (fun (cs63 : List Value) => RepL RpS q2 q5 cs63)) (L := (fun (cs63 : List Value) => [vec 9 RpS.sz (.slice A63 q5.length c63) q5.length cs63])) cs63 hr63 hS
    exact Eq.mp (by kernel_rfl) ((hS.pull 2).pull 2)
   ·intro Ep7 w l' hE7 hO7 hF_ hS
    obtain ⟨q14, -⟩ := hF_
    replace q14 : Ep7 63 = .slice (adOf (Ep7 63)) q5.length (capOf (Ep7 63)) := Eq.mp (by kernel_rfl) q14
    refine p (yl_assign q14) <| x_done <| ?_
    refine x_fin ⟨⟨_, rfl⟩, rfl, ?_⟩
    exact Eq.mp (by kernel_rfl) hS
  intro Ep7 w' hE7 hF_ hS
  obtain ⟨q1r, q1p, q1n, q1o, q1q, q0z, q1v, q1s, q1t, q1u, q11, q12, q13, q14, q1c, -⟩ := hF_
  replace q1r : Ep7 50 = .slice (some ⟨(blkOf (Ep7 50)), 0, none⟩) 0 0 := Eq.mp (by kernel_rfl) q1r
  replace q1p : Ep7 51 = .slice q3 q0e.length c_r_4_1 := Eq.mp (by kernel_rfl) q1p
  replace q1n : Ep7 52 = .slice q3 q0e.length c_r_4_1 := Eq.mp (by kernel_rfl) q1n
  replace q1o : Ep7 53 = .int .i64 (q0e.length : Int) := Eq.mp (by kernel_rfl) q1o
  replace q1q : Ep7 54 = .int .i64 x54 := Eq.mp (by kernel_rfl) q1q
  replace q0z : Ep7 55 = .slice (adOf (Ep7 55)) x55.length (capOf (Ep7 55)) ∧ RdS RpS q2 (adOf (Ep7 55)) x55.length (capOf (Ep7 55)) x55 := Eq.mp (by kernel_rfl) q0z
  have q_ := id q0z; obtain ⟨-, q26⟩ := q_
  replace q1v : Ep7 56 = .slice (adOf (Ep7 56)) q0g.length (capOf (Ep7 56)) := Eq.mp (by kernel_rfl) q1v
  replace q1s : Ep7 57 = .slice q3 q0e.length c_r_4_1 := Eq.mp (by kernel_rfl) q1s
  replace q1t : Ep7 58 = .pointer (some ((adr q3).add ((0 : Int).toNat * RpS.sz))) := Eq.mp (by kernel_rfl) q1t
  replace q1u : Ep7 59 = .string x59 := Eq.mp (by kernel_rfl) q1u
  replace q11 : Ep7 60 = .slice (some ⟨(blkOf (Ep7 60)), 0, none⟩) 2 2 := Eq.mp (by kernel_rfl) q11
  replace q12 : Ep7 61 = .slice (adOf (Ep7 61)) q0d.length (capOf (Ep7 61)) := Eq.mp (by kernel_rfl) q12
  replace q13 : Ep7 62 = .slice (some ⟨(blkOf (Ep7 62)), 0, none⟩) 1 1 := Eq.mp (by kernel_rfl) q13
  replace q14 : Ep7 63 = .slice (adOf (Ep7 63)) q5.length (capOf (Ep7 63)) := Eq.mp (by kernel_rfl) q14
  replace q1c : Ep7 7 = .slice (adOf (Ep7 63)) q5.length (capOf (Ep7 63)) := Eq.mp (by kernel_rfl) q1c
  replace hS : St w0 w' (ro q2 :: cells (blkOf (Ep7 60)) 9 [.string (⟨#[]⟩ : ByteArray), .string x59] :: cells (blkOf (Ep7 62)) 9 [.string (⟨#[]⟩ : ByteArray)] :: bunA (fun (cs63 : List Value) => RepL RpS q2 q5 cs63) (fun (cs63 : List Value) => [vec 9 RpS.sz (.slice (adOf (Ep7 63)) q5.length (capOf (Ep7 63))) q5.length cs63]) :: (vec 9 RpS.sz (.slice q6 q4.1.Out.length c_y0_ret_1_2_9) q4.1.Out.length q16 :: vec 58 R_api_Flop.sz (.slice q7 q4.1.Flops.length c_y0_ret_2_2_9) q4.1.Flops.length q17 :: vec 53 R_api_Gate.sz (.slice q8 q4.1.Gates.length c_y0_ret_3_2_9) q4.1.Gates.length q18 :: vec 3 (RpI .i64).sz (.slice q9 q4.1.Outs.length c_y0_ret_4_2_9) q4.1.Outs.length q19 :: vec 66 R_clocks_Input.sz (.slice q1j q0n.1.Inputs.length c_y0_ret_1_3_2) q0n.1.Inputs.length q0j :: vec 68 R_clocks_Output.sz (.slice q1k q0n.1.Outputs.length c_y0_ret_2_3_2) q0n.1.Outputs.length q0k :: vec 70 R_clocks_Path.sz (.slice q1l q0n.1.Paths.length c_y0_ret_3_3_2) q0n.1.Paths.length q0l :: cells b19 25 [.slice q10 l_0.length c_l_0, .int .i64 q0n.2] :: cells b4 30 [.slice q0f q4.1.In.length c_y0_ret_0_2_9, .slice q6 q4.1.Out.length c_y0_ret_1_2_9, .slice q7 q4.1.Flops.length c_y0_ret_2_2_9, .slice q8 q4.1.Gates.length c_y0_ret_3_2_9, .slice q9 q4.1.Outs.length c_y0_ret_4_2_9] :: l)) := Eq.mp (by kernel_rfl) hS
  have q_ := St.unbun (hS.pull 3); obtain ⟨cs63, hr63, hS⟩ := q_
  replace hF := bd_s hF; obtain ⟨q3n, q3b, hF⟩ := hF
  refine x_seq <| x_region <| p (yl_move q1c) <| ?_
  have q_ := St.lend ((hS.pull 1).pull 1) hr63; obtain ⟨ρl0, hll0, hlf0, hS0, back0⟩ := q_
  have hcall := c_strings_Join q3b hlf0 hS0
  refine o_cc call_12 (args2 rfl rfl) ((Calls.mono hcall (fun e w'' h => And.intro h.1 ((((((((((((((back0 h.2).pull 12).pull 12).pull 12).pull 12).pull 12).pull 12).pull 12).pull 12).pull 12).pull 12).pull 12).pull 12).pull 12)))) ?_
  rintro e w' ⟨rfl, hS⟩
  refine ⟨_, rfl, ?_⟩
  replace hF := bd_s hF; obtain ⟨q0h, q3c, hF⟩ := hF
  have hcall := c_clocks_Read q3c  (hS.pull 1)
  refine o_cc call_11 (args1 rfl) hcall ?_
  rintro e w' ⟨q0t, q2l, c_y0_ret_1_8_2, q27, q0u, q2m, c_y0_ret_2_8_2, q28, q0v, q2n, c_y0_ret_3_8_2, q29, rfl, q0w, q0x, q0y, hS⟩
  refine ⟨_, rfl, ?_⟩
  have e_ := St.vec_n hS q0w; subst e_
  have e_ := St.vec_n (hS.pull 1) q0x; subst e_
  have e_ := St.vec_n (hS.pull 2) q0y; subst e_
  refine p (yl_move rfl) <| p (yl_extract rfl rfl) <| p (yl_extract rfl rfl) <| p (yl_extract rfl rfl) <| ?_
  refine o_alloc zero_41 hS (fun b8 w' hS => ?_)
  refine o_storeAgg (news := [.int .i64 q0h.1.Period, .slice q0t q0h.1.Inputs.length c_y0_ret_1_8_2, .slice q0u q0h.1.Outputs.length c_y0_ret_2_8_2, .slice q0v q0h.1.Paths.length c_y0_ret_3_8_2]) agg_41 rfl rfl rfl (by simp [over_length]) hS (fun w' hS => ?_)
  replace hF := bd_s hF; obtain ⟨q1z, q3d, hF⟩ := hF
  refine p (yl_assign rfl) <| p (yl_assign rfl) <| x_done <| x_seq <|
   x_region <| pa (v := .agg #[.int .i64 q0h.1.Period, .slice q0t q0h.1.Inputs.length c_y0_ret_1_8_2, .slice q0u q0h.1.Outputs.length c_y0_ret_2_8_2, .slice q0v q0h.1.Paths.length c_y0_ret_3_8_2]) (ld_sub agg_41 rfl rfl rfl hS) <| ?_
  have q_ := St.lend ((hS.pull 4).pull 2) q0w; obtain ⟨ρl0, hll0, hlf0, hS0, back0⟩ := q_
  have q_ := St.lend (hS0.pull 2) (q0x.le hll0); obtain ⟨ρl1, hll1, hlf1, hS1, back1⟩ := q_
  have q_ := St.lend (hS1.pull 2) (q0y.le (hll0.trans hll1)); obtain ⟨ρl2, hll2, hlf2, hS2, back2⟩ := q_
  have hcall := c_clocks_Text q3d (hlf0.le (hll1.trans hll2)) (hlf1.le hll2) hlf2 hS2
  refine o_cc call_7 (args1 rfl) ((Calls.mono hcall (fun e w'' h => And.intro h.1 ((((((((((((((((((back0 ((back1 ((back2 h.2).pull 1)).pull 1)).pull 16).pull 16).pull 16).pull 16).pull 16).pull 16).pull 16).pull 16).pull 16).pull 16).pull 16).pull 16).pull 13).pull 15).pull 15).pull 15).pull 16)))) ?_
  rintro e w' ⟨rfl, hS⟩
  refine ⟨_, rfl, ?_⟩
  replace hF := bd_s hF; obtain ⟨q3e, q2u, hF⟩ := hF
  refine p (v := .tuple #[.string q1z.1, .int .i64 q1z.2]) (yl_move rfl) <| p (yl_extract rfl rfl) <| p (yl_extract rfl rfl) <| p (yl_assign rfl) <|
   p (yl_assign rfl) <| x_done <| x_seq <| x_region <|
   p (yl_move (hE7 3 rfl)) <| p (yl_move q1c) <| p (yl_len_slice usl_26 rfl) <| ?_
  have hcall := c_maskmake_Stream_Next q2u (q0i.le (q1a.trans q1b)) ((hS.pull 4).pull 15)
  refine o_cc call_6 (args2 rfl rfl) hcall ?_
  rintro e w' ⟨rfl, hS⟩
  refine ⟨_, rfl, ?_⟩
  refine p (yl_assign rfl) <| x_done <| x_seq <| x_region <|
   p (yl_move q1c) <| p (yl_move rfl) <| ?_
  refine o_buildSlice (vs := [.string ks_9d68bc03]) (cs := [.string ks_9d68bc03]) sl_26 zero_9 (parts_eq (pt (va := .string ks_9d68bc03) rfl pt0)) rfl (by intro v hv; simp only [List.mem_cons, List.not_mem_nil, or_false] at hv; first | (subst hv; rfl) | (rcases hv with rfl <;> rfl)) (by decide) rfl hS (fun b82 w' hS => ?_)
  replace hF := ck_s hF; obtain ⟨q2v, hF⟩ := hF
  replace hF := ck_s hF; obtain ⟨q1y, hF⟩ := hF
  replace hF := lv_s hF; obtain ⟨q3h, q2w, hF⟩ := hF
  refine o_cc call_13 (args3 rfl rfl rfl) (insert_at q2v q1y.1 q1y.2 hr63 (hS.pull 7)) ?_
  rintro e w' ⟨A83, n83, c83, cs83, rfl, hr83, hS⟩
  refine ⟨_, rfl, ?_⟩
  rw [← q2w] at hr83
  have e_ := St.vec_n hS hr83; subst e_
  replace hF := bd_s hF; obtain ⟨q3i, q2x, hF⟩ := hF
  refine p (yl_assign rfl) <| x_done <| x_seq <| x_region <|
   p (yl_move rfl) <| ?_
  have q_ := St.lend ((hS.pull 3).pull 1) hr83; obtain ⟨ρl0, hll0, hlf0, hS0, back0⟩ := q_
  have hcall := c_strings_Join q2x hlf0 hS0
  refine o_cc call_12 (args2 rfl rfl) ((Calls.mono hcall (fun e w'' h => And.intro h.1 (((((((((((((((((((back0 h.2).pull 17).pull 17).pull 17).pull 17).pull 17).pull 17).pull 17).pull 17).pull 17).pull 17).pull 17).pull 17).pull 17).pull 17).pull 15).pull 17).pull 17).pull 17)))) ?_
  rintro e w' ⟨rfl, hS⟩
  refine ⟨_, rfl, ?_⟩
  replace hF := bd_s hF; obtain ⟨q0m, q2y, hF⟩ := hF
  have hcall := c_clocks_Read q2y  (hS.pull 3)
  refine o_cc call_11 (args1 rfl) hcall ?_
  rintro e w' ⟨q1d, q2a, c_y0_ret_1_12_2, q20, q1e, q2b, c_y0_ret_2_12_2, q21, q1f, q2c, c_y0_ret_3_12_2, q22, rfl, q1g, q1h, q1i, hS⟩
  refine ⟨_, rfl, ?_⟩
  have e_ := St.vec_n hS q1g; subst e_
  have e_ := St.vec_n (hS.pull 1) q1h; subst e_
  have e_ := St.vec_n (hS.pull 2) q1i; subst e_
  refine p (yl_move rfl) <| p (yl_extract rfl rfl) <| p (yl_extract rfl rfl) <| p (yl_extract rfl rfl) <| ?_
  refine o_alloc zero_41 hS (fun b14 w' hS => ?_)
  refine o_storeAgg (news := [.int .i64 q0m.1.Period, .slice q1d q0m.1.Inputs.length c_y0_ret_1_12_2, .slice q1e q0m.1.Outputs.length c_y0_ret_2_12_2, .slice q1f q0m.1.Paths.length c_y0_ret_3_12_2]) agg_41 rfl rfl rfl (by simp [over_length]) hS (fun w' hS => ?_)
  replace hF := lv_s hF; obtain ⟨x97, hx97, hF⟩ := hF
  replace hF := lv_s hF; obtain ⟨x101, hx101, hF⟩ := hF
  replace hF := ck_s hF; obtain ⟨q2o, hF⟩ := hF
  replace hF := lv_s hF; obtain ⟨x105, hx105, hF⟩ := hF
  replace hF := lv_s hF; obtain ⟨x107, hx107, hF⟩ := hF
  refine p (yl_assign rfl) <| p (yl_assign rfl) <| x_done <| x_seq <|
   x_region <| p (yl_move rfl) <| p (yl_eql rfl rfl) <| p (yl_move rfl) <|
   pg (v := .string q1z.1) 93 (c := decide (q0h.2.2 = 0)) (says_t _) (fun hq => Yl.at (yl_move rfl)) <| pg (v := .string q1m.1) 93 (c := decide (q0h.2.2 = 0)) (says_t _) (fun hq => Yl.at (yl_move (hE7 5 rfl))) <| pg (v := .bool (decide (q1z.1 = q1m.1))) 93 (c := decide (q0h.2.2 = 0)) (says_t _) (fun hq => Yl.at (yl_eql_string (cv hq) (cv hq))) <| p (yand' rfl (fun hc => (cv hc)) rfl hx97) <|
   p (yl_move rfl) <| pg (v := .int .i64 q0m.2.2) 98 (c := x97) (says_t _) (fun hq => Yl.at (yl_move rfl)) <| pg (v := .bool (decide (q0m.2.2 = 10))) 98 (c := x97) (says_t _) (fun hq => Yl.at (yl_eql (cv hq) rfl)) <| p (yand' rfl (fun hc => (cv hc)) rfl hx101) <|
   p (yl_move rfl) <| pg (v := .int .i64 q0m.2.1) 102 (c := x101) (says_t _) (fun hq => Yl.at (yl_move rfl)) <| pg (v := .int .i64 q3e.1) 102 (c := x101) (says_t _) (fun hq => Yl.at (yl_move rfl)) <| pg (v := .int .i64 x105) 102 (c := x101) (says_t _) (fun hq => Yl.at (yadd (cv hq) rfl ⟨hx105, (q2o hq)⟩)) <|
   pg (v := .bool (decide (q0m.2.1 = x105))) 102 (c := x101) (says_t _) (fun hq => Yl.at (yl_eql (cv hq) (cv hq))) <| p (yand' rfl (fun hc => (cv hc)) rfl hx107) <| p (yl_assign rfl) <| x_done <| ?_
  have e_ := Option.some.inj (show some _ = some _ from hF); subst e_
  exact x_return ⟨_, ⟨_, _, rfl, rfl, rfl⟩, rfl, (ro_back0 (q1a.trans q1b) ((((((((((((((((((hS.drop.drop.drop.drop.pull 1).drop.pull 1).drop.pull 1).drop.pull 1).drop.pull 1).drop.pull 1).drop.pull 1).drop.pull 1).drop.pull 1).drop.pull 1).drop.pull 1).drop.pull 1).drop.pull 1).drop.pull 1).drop.pull 1).drop.pull 1).drop.pull 1).drop))⟩
attribute [irreducible] P_maskkeep4_ClocksLines


end Go.Proofs.YtkenpbnpemjbhaaDoor.X
