/- Printed by gen.py: plain functions, and that the Go code computes them. -/
import Derived.Test.YtkenpbnpemjbhaaDoorXK
import Derived.Test.YtkenpbnpemjbhaaDoorXT
namespace Go.Proofs.YtkenpbnpemjbhaaDoor.X
open Go Go.RowKit
set_option linter.unusedVariables false
set_option linter.unusedSimpArgs false

structure T_maskmake_Stream where
 L : List Int
 fat : Int
 deriving DecidableEq, Inhabited
structure T_api_Gate where
 Cell : Int
 Table : Int
 Ins : List Int
 deriving DecidableEq, Inhabited
def R_api_Gate : Rp T_api_Gate where
 sz := 3
 ok ρ cs x := ∃ A2 n2 c2, cs = [.int .i64 x.Cell, .int .u64 x.Table, .slice A2 n2 c2] ∧ RdS (RpI .i64) ρ A2 n2 c2 x.Ins
 pos := by decide
 len := by rintro ρ cs x ⟨A2, n2, c2, rfl, _⟩; rfl
 le := by rintro ρ ρ' cs x ⟨A2, n2, c2, rfl, h0⟩ hle; exact ⟨_, _, _, rfl, h0.le hle⟩
 one := by rintro ρ cs x ⟨A2, n2, c2, rfl, _⟩ v hv; exact allOne_spec rfl v hv
structure T_api_Flop where
 Name : ByteArray
 Cell : Int
 D : Int
 En : Int
 Init : Bool
 deriving DecidableEq, Inhabited
def R_api_Flop : Rp T_api_Flop where
 sz := 5
 ok _ cs x := cs = [.string x.Name, .int .i64 x.Cell, .int .i64 x.D, .int .i64 x.En, .bool x.Init]
 pos := by decide
 len := by rintro ρ cs x rfl; rfl
 le := by rintro ρ ρ' cs x rfl hle; rfl
 one := by rintro ρ cs x rfl v hv; exact allOne_spec rfl v hv
structure T_api_Netlist where
 In : List ByteArray
 Out : List ByteArray
 Flops : List T_api_Flop
 Gates : List T_api_Gate
 Outs : List Int
 deriving DecidableEq, Inhabited
structure T_tree_Window where
 Lo : Int
 Hi : Int
 deriving DecidableEq, Inhabited
structure T_clocks_Input where
 Name : ByteArray
 At : T_tree_Window
 deriving DecidableEq, Inhabited
def R_clocks_Input : Rp T_clocks_Input where
 sz := 3
 ok _ cs x := cs = [.string x.Name, .int .i64 x.At.Lo, .int .i64 x.At.Hi]
 pos := by decide
 len := by rintro ρ cs x rfl; rfl
 le := by rintro ρ ρ' cs x rfl hle; rfl
 one := by rintro ρ cs x rfl v hv; exact allOne_spec rfl v hv
structure T_clocks_Output where
 Name : ByteArray
 Before : Int
 deriving DecidableEq, Inhabited
def R_clocks_Output : Rp T_clocks_Output where
 sz := 2
 ok _ cs x := cs = [.string x.Name, .int .i64 x.Before]
 pos := by decide
 len := by rintro ρ cs x rfl; rfl
 le := by rintro ρ ρ' cs x rfl hle; rfl
 one := by rintro ρ cs x rfl v hv; exact allOne_spec rfl v hv
structure T_clocks_Path where
 From : ByteArray
 To : ByteArray
 Cycles : Int
 deriving DecidableEq, Inhabited
def R_clocks_Path : Rp T_clocks_Path where
 sz := 3
 ok _ cs x := cs = [.string x.From, .string x.To, .int .i64 x.Cycles]
 pos := by decide
 len := by rintro ρ cs x rfl; rfl
 le := by rintro ρ ρ' cs x rfl hle; rfl
 one := by rintro ρ cs x rfl v hv; exact allOne_spec rfl v hv
structure T_clocks_Limits where
 Period : Int
 Inputs : List T_clocks_Input
 Outputs : List T_clocks_Output
 Paths : List T_clocks_Path
 deriving DecidableEq, Inhabited
/-- period 7 8 -/
def ks_9d68bc03 : ByteArray := ⟨#[112, 101, 114, 105, 111, 100, 32, 55, 32, 56]⟩

def P_maskmake_Below (x0 : Int) (n1 : Int) : Option Int :=
 if n1 < 1 then
  some (0 : Int)
 else
  ck (n1 ≠ 0) <|
  lv (Int.tmod x0 n1) fun x9 =>
  bd (
   if x9 < 0 then
    ar (x9 + n1) fun x14 =>
    some x14
   else
    some x9) fun q2 =>
  some q2
set_option maxHeartbeats 4000000 in
set_option maxRecDepth 100000 in
theorem c_maskmake_Below {w0 w : World} {l : List Assn} {ρ : Heap} {x0 : Int} {n1 : Int} {r : Int} (hF : P_maskmake_Below x0 n1 = some r) (hS : St w0 w (ro ρ :: l)) :
  Calls Tryd.prog 19 #[.int .i64 x0, .int .i64 n1] w fun e w' => e = .returned (.int .i64 r) ∧ St w0 w' (ro ρ :: l) := by
 refine enterC Tryd.func19 rfl 16 rfl (by simp) ?_
 refine x_seq <| x_region <| p (yl_assign rfl) <| x_done <|
  x_seq <| x_seq <| x_region <| p (yl_move rfl) <|
  p (yl_lss rfl rfl) <| x_done <|
  x_cond_p (n1 < 1) rfl (fun hc6 => ?_) (fun hc6 => ?_)
 ·replace hF := it_t hc6 hF
  refine x_seq <| x_region <| p (yl_assign rfl) <| x_done <| ?_
  have e_ := Option.some.inj (show some _ = some _ from hF); subst e_
  exact x_return ⟨_, ⟨_, _, rfl, rfl, rfl⟩, rfl, hS⟩
 ·replace hF := it_f hc6 hF
  replace hF := ck_s hF; obtain ⟨q4, hF⟩ := hF
  replace hF := lv_s hF; obtain ⟨x9, hx9, hF⟩ := hF
  refine x_skip <| x_seq <| x_region <| p (yl_move rfl) <|
   p (yl_move rfl) <| p (yrem rfl rfl q4 hx9) <| p (yl_assign rfl) <| x_done <|
   x_seq <| x_seq <| x_region <| p (yl_move rfl) <|
   p (yl_lss rfl rfl) <| x_done <| ?_
  replace hF := bd_s hF; obtain ⟨oc11, hFc11, hF⟩ := hF
  refine x_join (fun E w => ∃ (q2 : Int), q2 = oc11 ∧ E 0 = .int .i64 q2 ∧ St w0 w (ro ρ :: l)) ?_ ?_
  ·refine x_cond_p (x9 < 0) rfl (fun hc11 => ?_) (fun hc11 => ?_)
   ·replace hFc11 := it_t hc11 hFc11
    replace hFc11 := ar_s hFc11; obtain ⟨x14, hx14, hFc11⟩ := hFc11
    refine x_region <| p (yl_move rfl) <| p (yl_move rfl) <| p (yadd rfl rfl hx14) <|
     p (yl_assign rfl) <| x_done <| ?_
    exact x_inv ⟨x14, (Option.some.inj (show some _ = some _ from hFc11)), rfl, hS⟩
   ·replace hFc11 := it_f hc11 hFc11
    refine x_skip <| ?_
    exact x_inv ⟨x9, (Option.some.inj (show some _ = some _ from hFc11)), rfl, hS⟩
  rintro E w ⟨q2, rfl, q3, hS⟩
  refine x_seq <| x_region <| p (yl_move q3) <| p (yl_assign rfl) <|
   x_done <| ?_
  have e_ := Option.some.inj (show some _ = some _ from hF); subst e_
  exact x_return ⟨_, ⟨_, _, rfl, rfl, rfl⟩, rfl, hS⟩
attribute [irreducible] P_maskmake_Below

def P_maskmake_Stream_Next (s0 : T_maskmake_Stream) (n1 : Int) : Option (Int × Int) :=
 ar (s0.fat + 1) fun x11 =>
 if (s0.L.length : Int) = 0 then
  ar (x11 * 7919) fun x24 =>
  bd (P_maskmake_Below x24 n1) fun q3 =>
  some (q3, x11)
 else
  ar (x11 - 1) fun x31 =>
  ck ((s0.L.length : Int) ≠ 0) <|
  lv (Int.tmod x31 (s0.L.length : Int)) fun x37 =>
  ar (x11 - 1) fun x42 =>
  ck ((s0.L.length : Int) ≠ 0) <|
  ar (Int.tdiv x42 (s0.L.length : Int)) fun x48 =>
  ck (inb x37 s0.L.length) <|
  lv (gt s0.L x37) fun x55 =>
  bd (P_maskmake_Below x55 1073741824) fun q4 =>
  ar ((7919 : Int) + x37) fun x59 =>
  ar (x48 * x59) fun x60 =>
  ar (q4 + x60) fun x61 =>
  bd (P_maskmake_Below x61 n1) fun q2 =>
  some (q2, x11)
set_option maxHeartbeats 4000000 in
set_option maxRecDepth 100000 in
theorem c_maskmake_Stream_Next {w0 w : World} {l : List Assn} {ρ : Heap} {q5 : Nat} {q2 : Option Addr} {q3 : Nat} {c_s0_0 : Nat} {s0 : T_maskmake_Stream} {n1 : Int} {r : (Int × Int)} (hF : P_maskmake_Stream_Next s0 n1 = some r) (q4 : RdS (RpI .i64) ρ q2 q3 c_s0_0 s0.L) (hS : St w0 w (cells q5 25 [.slice q2 q3 c_s0_0, .int .i64 s0.fat] :: ro ρ :: l)) :
  Calls Tryd.prog 6 #[.pointer (some ⟨q5, 0, none⟩), .int .i64 n1] w fun e w' => e = .returned (.int .i64 r.1) ∧ St w0 w' (cells q5 25 [.slice q2 q3 c_s0_0, .int .i64 r.2] :: ro ρ :: l) := by
 have e_ := q4.n; subst e_
 refine enterC Tryd.func6 rfl 64 rfl (by simp) ?_
 replace hF := ar_s hF; obtain ⟨x11, hx11, hF⟩ := hF
 refine x_seq <| x_region <| p (yl_assign rfl) <| x_done <|
  x_seq <| x_region <| p (yl_move rfl) <| p (yl_nilCheck rfl) <|
  p (yl_field0 fld_25_1 rfl) <| pa (at_load one_3 rfl (hS.cell rfl)) <| p (yadd rfl rfl hx11) <| p (yl_nilCheck rfl) <|
  p (yl_field0 fld_25_1 rfl) <| ?_
 refine o_store1 (v := .int .i64 x11) one_3 rfl rfl rfl rfl hS (fun w' hS => ?_)
 refine x_done <| x_seq <| x_seq <| x_region <|
  p (yl_move rfl) <| p (yl_nilCheck rfl) <| p (yl_field0 fld_25_0 rfl) <| pa (at_load one_22 rfl (hS.cell rfl)) <|
  p (yl_len_slice usl_22 rfl) <| p (yl_eql rfl rfl) <| x_done <|
  x_cond_p ((s0.L.length : Int) = 0) rfl (fun hc19 => ?_) (fun hc19 => ?_)
 ·replace hF := it_t hc19 hF
  replace hF := ar_s hF; obtain ⟨x24, hx24, hF⟩ := hF
  replace hF := bd_s hF; obtain ⟨q0d, q0a, hF⟩ := hF
  refine x_seq <| x_region <| p (yl_move rfl) <| p (yl_nilCheck rfl) <|
   p (yl_field0 fld_25_1 rfl) <| pa (at_load one_3 rfl (hS.cell rfl)) <| p (ymul rfl rfl hx24) <| p (yl_move rfl) <| ?_
  have hcall := c_maskmake_Below q0a  (hS.pull 1)
  refine o_cc call_19 (args2 rfl rfl) ((Calls.mono hcall (fun e w'' h => And.intro h.1 (h.2.pull 1)))) ?_
  rintro e w' ⟨rfl, hS⟩
  refine ⟨_, rfl, ?_⟩
  refine p (v := .int .i64 q0d) (yl_assign rfl) <| x_done <| ?_
  have e_ := Option.some.inj (show some _ = some _ from hF); subst e_
  exact x_return ⟨_, ⟨_, _, rfl, rfl, rfl⟩, rfl, ((hS.pull 1).pull 1)⟩
 ·replace hF := it_f hc19 hF
  replace hF := ar_s hF; obtain ⟨x31, hx31, hF⟩ := hF
  replace hF := ck_s hF; obtain ⟨q7, hF⟩ := hF
  replace hF := lv_s hF; obtain ⟨x37, hx37, hF⟩ := hF
  refine x_skip <| x_seq <| x_still mixed (by kernel_rfl) hS <| q (yl_move rfl) <|
   q (yl_nilCheck rfl) <| q (yl_field0 fld_25_1 rfl) <| qa (fun w' hS => at_load one_3 rfl (hS.cell rfl)) <| q (ysub rfl rfl hx31) <|
   q (yl_move rfl) <| q (yl_nilCheck rfl) <| q (yl_field0 fld_25_0 rfl) <| qa (fun w' hS => at_load one_22 rfl (hS.cell rfl)) <|
   q (yl_len_slice usl_22 rfl) <| q (yrem rfl rfl q7 hx37) <| q (yl_assign rfl) <|
   q_done fun w' hS => ?_
  replace hF := ar_s hF; obtain ⟨x42, hx42, hF⟩ := hF
  replace hF := ck_s hF; obtain ⟨q8, hF⟩ := hF
  replace hF := ar_s hF; obtain ⟨x48, hx48, hF⟩ := hF
  refine x_seq <| x_still mixed (by kernel_rfl) hS <| q (yl_move rfl) <| q (yl_nilCheck rfl) <|
   q (yl_field0 fld_25_1 rfl) <| qa (fun w' hS => at_load one_3 rfl (hS.cell rfl)) <| q (ysub rfl rfl hx42) <| q (yl_move rfl) <|
   q (yl_nilCheck rfl) <| q (yl_field0 fld_25_0 rfl) <| qa (fun w' hS => at_load one_22 rfl (hS.cell rfl)) <| q (yl_len_slice usl_22 rfl) <|
   q (yquo rfl rfl q8 hx48) <| q (yl_assign rfl) <|
   q_done fun w' hS => ?_
  replace hF := ck_s hF; obtain ⟨q6, hF⟩ := hF
  replace hF := lv_s hF; obtain ⟨x55, hx55, hF⟩ := hF
  replace hF := bd_s hF; obtain ⟨q0e, q0b, hF⟩ := hF
  refine x_seq <| x_region <| p (yl_move rfl) <| p (yl_nilCheck rfl) <|
   p (yl_field0 fld_25_0 rfl) <| pa (at_load one_22 rfl (hS.cell rfl)) <| p (yl_move rfl) <| p (yix_f sl_22 rfl rfl q4 q6) <|
   pa (at_load one_3 rfl (RdS.getW q4 (hS.pull 1) q6 hx55)) <| ?_
  have hcall := c_maskmake_Below q0b  (hS.pull 1)
  refine o_cc call_19 (args2 rfl rfl) ((Calls.mono hcall (fun e w'' h => And.intro h.1 (h.2.pull 1)))) ?_
  rintro e w' ⟨rfl, hS⟩
  refine ⟨_, rfl, ?_⟩
  replace hF := ar_s hF; obtain ⟨x59, hx59, hF⟩ := hF
  replace hF := ar_s hF; obtain ⟨x60, hx60, hF⟩ := hF
  replace hF := ar_s hF; obtain ⟨x61, hx61, hF⟩ := hF
  replace hF := bd_s hF; obtain ⟨q0c, q9, hF⟩ := hF
  refine p (yl_move rfl) <| p (yl_move rfl) <| p (yadd rfl rfl hx59) <| p (ymul rfl rfl hx60) <|
   p (yadd rfl rfl hx61) <| p (yl_move rfl) <| ?_
  have hcall := c_maskmake_Below q9  (hS.pull 1)
  refine o_cc call_19 (args2 rfl rfl) ((Calls.mono hcall (fun e w'' h => And.intro h.1 (h.2.pull 1)))) ?_
  rintro e w' ⟨rfl, hS⟩
  refine ⟨_, rfl, ?_⟩
  refine p (v := .int .i64 q0c) (yl_assign rfl) <| x_done <| ?_
  have e_ := Option.some.inj (show some _ = some _ from hF); subst e_
  exact x_return ⟨_, ⟨_, _, rfl, rfl, rfl⟩, rfl, ((hS.pull 1).pull 1)⟩
attribute [irreducible] P_maskmake_Stream_Next

def P_maskmake_Stream_Range (s0 : T_maskmake_Stream) (low1 : Int) (high2 : Int) : Option (Int × Int) :=
 if high2 < low1 then
  some (low1, s0.fat)
 else
  ar (high2 - low1) fun x15 =>
  ar (x15 + 1) fun x16 =>
  bd (P_maskmake_Stream_Next s0 x16) fun q2 =>
  ar (low1 + q2.1) fun x18 =>
  some (x18, q2.2)
set_option maxHeartbeats 4000000 in
set_option maxRecDepth 100000 in
theorem c_maskmake_Stream_Range {w0 w : World} {l : List Assn} {ρ : Heap} {q5 : Nat} {q2 : Option Addr} {q3 : Nat} {c_s0_0 : Nat} {s0 : T_maskmake_Stream} {low1 : Int} {high2 : Int} {r : (Int × Int)} (hF : P_maskmake_Stream_Range s0 low1 high2 = some r) (q4 : RdS (RpI .i64) ρ q2 q3 c_s0_0 s0.L) (hS : St w0 w (cells q5 25 [.slice q2 q3 c_s0_0, .int .i64 s0.fat] :: ro ρ :: l)) :
  Calls Tryd.prog 5 #[.pointer (some ⟨q5, 0, none⟩), .int .i64 low1, .int .i64 high2] w fun e w' => e = .returned (.int .i64 r.1) ∧ St w0 w' (cells q5 25 [.slice q2 q3 c_s0_0, .int .i64 r.2] :: ro ρ :: l) := by
 have e_ := q4.n; subst e_
 refine enterC Tryd.func5 rfl 19 rfl (by simp) ?_
 refine x_seq <| x_region <| p (yl_assign rfl) <| x_done <|
  x_seq <| x_seq <| x_region <| p (yl_move rfl) <|
  p (yl_move rfl) <| p (yl_lss rfl rfl) <| x_done <|
  x_cond_p (high2 < low1) rfl (fun hc9 => ?_) (fun hc9 => ?_)
 ·replace hF := it_t hc9 hF
  refine x_seq <| x_region <| p (yl_move rfl) <| p (yl_assign rfl) <|
   x_done <| ?_
  have e_ := Option.some.inj (show some _ = some _ from hF); subst e_
  exact x_return ⟨_, ⟨_, _, rfl, rfl, rfl⟩, rfl, ((hS.pull 1).pull 1)⟩
 ·replace hF := it_f hc9 hF
  replace hF := ar_s hF; obtain ⟨x15, hx15, hF⟩ := hF
  replace hF := ar_s hF; obtain ⟨x16, hx16, hF⟩ := hF
  replace hF := bd_s hF; obtain ⟨q7, q6, hF⟩ := hF
  refine x_skip <| x_seq <| x_region <| p (yl_move rfl) <|
   p (yl_move rfl) <| p (yl_move rfl) <| p (yl_move rfl) <| p (ysub rfl rfl hx15) <|
   p (yadd rfl rfl hx16) <| ?_
  have hcall := c_maskmake_Stream_Next q6 q4 ((hS.pull 1).pull 1)
  refine o_cc call_6 (args2 rfl rfl) hcall ?_
  rintro e w' ⟨rfl, hS⟩
  refine ⟨_, rfl, ?_⟩
  replace hF := ar_s hF; obtain ⟨x18, hx18, hF⟩ := hF
  refine p (yadd rfl rfl hx18) <| p (yl_assign rfl) <| x_done <| ?_
  have e_ := Option.some.inj (show some _ = some _ from hF); subst e_
  exact x_return ⟨_, ⟨_, _, rfl, rfl, rfl⟩, rfl, ((hS.pull 1).pull 1)⟩
attribute [irreducible] P_maskmake_Stream_Range

def P_maskmake_Stream_Words_L3 (s0 : T_maskmake_Stream) (n1 : Int) : (List ByteArray × Int × Int) → Option ((List ByteArray × Int × Int) ⊕ (List ByteArray × Int)) := fun (q4, q2, q3) =>
 if q2 < n1 then
  bd (P_maskmake_Stream_Next (T_maskmake_Stream.mk s0.L q3) 26) fun q8 =>
  ar ((97 : Int) + q8.1) fun x14 =>
  lv (x14 % 256) fun x15 =>
  ck ((26 : Int) ≠ 0) <|
  lv (Int.tmod q2 26) fun x17 =>
  ar ((97 : Int) + x17) fun x18 =>
  lv (x18 % 256) fun x19 =>
  ck ((26 : Int) ≠ 0) <|
  ar (Int.tdiv q2 26) fun x21 =>
  ck ((26 : Int) ≠ 0) <|
  lv (Int.tmod x21 26) fun x22 =>
  ar ((97 : Int) + x22) fun x23 =>
  lv (x23 % 256) fun x24 =>
  lv (strOf ([x15, x19, x24] : List Int)) fun x26 =>
  bd (P_maskmake_Stream_Next (T_maskmake_Stream.mk s0.L q8.2) 5) fun q5 =>
  bd (
   if q5.1 = 0 then
    bd (P_maskmake_Stream_Next (T_maskmake_Stream.mk s0.L q5.2) 10) fun q9 =>
    ar ((48 : Int) + q9.1) fun x34 =>
    lv (x34 % 256) fun x35 =>
    lv (strOf ([x35] : List Int)) fun x37 =>
    ck ((⟨#[91]⟩ : ByteArray).size + x37.size ≤ 140737488355328) <|
    ck (((⟨#[91]⟩ : ByteArray) ++ x37).size + (⟨#[93]⟩ : ByteArray).size ≤ 140737488355328) <|
    ck (x26.size + (((⟨#[91]⟩ : ByteArray) ++ x37) ++ (⟨#[93]⟩ : ByteArray)).size ≤ 140737488355328) <|
    some (x26 ++ (((⟨#[91]⟩ : ByteArray) ++ x37) ++ (⟨#[93]⟩ : ByteArray)), q9.2)
   else
    bd (
     if q5.1 = 1 then
      ck ((⟨#[109, 46]⟩ : ByteArray).size + x26.size ≤ 140737488355328) <|
      some ((⟨#[109, 46]⟩ : ByteArray) ++ x26)
     else
      some x26) fun q0a =>
    some (q0a, q5.2)) fun (q0b, q6) =>
  lv (q4 ++ [q0b]) fun q7 =>
  ck (apOk 16 q7.length) <|
  ar (q2 + 1) fun x49 =>
  some (Sum.inl (q7, x49, q6))
 else
  some (Sum.inr (q4, q3))
def P_maskmake_Stream_Words (s0 : T_maskmake_Stream) (n1 : Int) : Option (List ByteArray × Int) :=
 bd (
  lp (P_maskmake_Stream_Words_L3 s0 n1) fuel ([], 0, s0.fat)) fun (q3, q2) =>
 some (q3, q2)
set_option maxHeartbeats 4000000 in
set_option maxRecDepth 100000 in
theorem c_maskmake_Stream_Words {w0 w : World} {l : List Assn} {ρ : Heap} {q0d : Nat} {q0a : Option Addr} {q0s : Nat} {c_s0_0 : Nat} {s0 : T_maskmake_Stream} {n1 : Int} {r : (List ByteArray × Int)} (hF : P_maskmake_Stream_Words s0 n1 = some r) (q0l : RdS (RpI .i64) ρ q0a q0s c_s0_0 s0.L) (hS : St w0 w (cells q0d 25 [.slice q0a q0s c_s0_0, .int .i64 s0.fat] :: ro ρ :: l)) :
  Calls Tryd.prog 14 #[.pointer (some ⟨q0d, 0, none⟩), .int .i64 n1] w fun e w' => ∃ (q0t : Option Addr) (q0k : Nat) (c_y0_ret : Nat) (q0q : List Value), e = .returned (.slice q0t q0k c_y0_ret) ∧ RepL RpS ρ r.1 q0q ∧ St w0 w' (vec 9 RpS.sz (.slice q0t q0k c_y0_ret) q0k q0q :: cells q0d 25 [.slice q0a q0s c_s0_0, .int .i64 r.2] :: ro ρ :: l) := by
 have e_ := q0l.n; subst e_
 refine enterC Tryd.func14 rfl 51 rfl (by simp) ?_
 refine x_seq <| x_region <| p (yl_assign rfl) <| x_done <|
  x_seq <| x_region <| p (yl_assign rfl) <| x_done <|
  x_seq <| x_seq <| x_region <| p (yl_move rfl) <|
  p (yl_move rfl) <| x_done <| ?_
 replace hF := bd_s hF; obtain ⟨oL3, hLL3, hF⟩ := hF
 refine x_join (fun E w => ∃ (q0b : Option Addr) (q0c : Nat) (c_out5_L3 : Nat) (q6 : List Value) (q0j : List ByteArray) (q0h : Int), (q0j, q0h) = oL3 ∧ E 5 = .slice q0b q0c c_out5_L3 ∧ RepL RpS ρ q0j q6 ∧ St w0 w (vec 9 RpS.sz (.slice q0b q0c c_out5_L3) q0c q6 :: cells q0d 25 [.slice q0a s0.L.length c_s0_0, .int .i64 q0h] :: ro ρ :: l)) ?_ ?_
 ·refine x_block ?_
  replace hS := St.vec_nil hS 9 RpS.sz
  have q0m : RepL RpS ρ [] [] := rfl
  refine x_loop (fun k_ E w => ∃ (q3 : Option Addr) (q7 : Nat) (c_out5_L3h : Nat) (q4 : List Value) (q2 : List ByteArray) (q0e : Int) (q8 : Int), lp (P_maskmake_Stream_Words_L3 s0 n1) k_ (q2, q0e, q8) = some oL3 ∧ E 0 = .pointer (some ⟨q0d, 0, none⟩) ∧ E 5 = .slice q3 q7 c_out5_L3h ∧ E 8 = .int .i64 n1 ∧ E 9 = .int .i64 q0e ∧ RepL RpS ρ q2 q4 ∧ St w0 w (cells q0d 25 [.slice q0a s0.L.length c_s0_0, .int .i64 q8] :: vec 9 RpS.sz (.slice q3 q7 c_out5_L3h) q7 q4 :: ro ρ :: l)) fuel ⟨none, 0, 0, [], [], 0, s0.fat, hLL3, rfl, rfl, rfl, rfl, q0m, (((hS.pull 2).pull 1).pull 2)⟩ ?_
  rintro kL3 E w ⟨q3, q7, c_out5_L3h, q4, q2, q0e, q8, hLL3, q0f, q0n, q0o, q0i, q0g, hS⟩
  have e_ := St.vec_n (hS.pull 1) q0g; subst e_
  replace hLL3 := lp_s hLL3; obtain ⟨kL3, obL3, rfl, hFL3, hLL3⟩ := hLL3
  refine x_seq <| x_region <| p (yl_lss q0i q0o) <| x_done <|
   x_seq <|
   x_cond_p (q0e < n1) rfl (fun hc10 => ?_) (fun hc10 => ?_)
  ·replace hFL3 := it_t hc10 hFL3
   replace hFL3 := bd_s hFL3; obtain ⟨q1m, q1c, hFL3⟩ := hFL3
   refine x_skip <| x_seq <| x_block <| x_seq <|
    x_region <| p (yl_move q0i) <| p (yl_assign rfl) <| x_done <|
    x_seq <| x_region <| p (yl_move q0f) <| ?_
   have hcall := c_maskmake_Stream_Next q1c q0l ((hS.pull 2).pull 1)
   refine o_cc call_6 (args2 rfl rfl) hcall ?_
   rintro e w' ⟨rfl, hS⟩
   refine ⟨_, rfl, ?_⟩
   replace hFL3 := ar_s hFL3; obtain ⟨x14, hx14, hFL3⟩ := hFL3
   replace hFL3 := lv_s hFL3; obtain ⟨x15, hx15, hFL3⟩ := hFL3
   replace hFL3 := ck_s hFL3; obtain ⟨q1d, hFL3⟩ := hFL3
   replace hFL3 := lv_s hFL3; obtain ⟨x17, hx17, hFL3⟩ := hFL3
   replace hFL3 := ar_s hFL3; obtain ⟨x18, hx18, hFL3⟩ := hFL3
   replace hFL3 := lv_s hFL3; obtain ⟨x19, hx19, hFL3⟩ := hFL3
   replace hFL3 := ck_s hFL3; obtain ⟨q1e, hFL3⟩ := hFL3
   replace hFL3 := ar_s hFL3; obtain ⟨x21, hx21, hFL3⟩ := hFL3
   replace hFL3 := ck_s hFL3; obtain ⟨q0y, hFL3⟩ := hFL3
   replace hFL3 := lv_s hFL3; obtain ⟨x22, hx22, hFL3⟩ := hFL3
   replace hFL3 := ar_s hFL3; obtain ⟨x23, hx23, hFL3⟩ := hFL3
   replace hFL3 := lv_s hFL3; obtain ⟨x24, hx24, hFL3⟩ := hFL3
   refine p (yadd rfl rfl hx14) <| p (yconvu wm_u8 uk_3 ik_5 rfl hx15) <| p (yl_move rfl) <| p (yrem rfl rfl q1d hx17) <|
    p (yadd rfl rfl hx18) <| p (yconvu wm_u8 uk_3 ik_5 rfl hx19) <| p (yl_move rfl) <| p (yquo rfl rfl q1e hx21) <|
    p (yrem rfl rfl q0y hx22) <| p (yadd rfl rfl hx23) <| p (yconvu wm_u8 uk_3 ik_5 rfl hx24) <| ?_
   refine o_buildSlice (vs := [.int .u8 x15, .int .u8 x19, .int .u8 x24]) (cs := [.int .u8 x15, .int .u8 x19, .int .u8 x24]) sl_76 zero_5 (parts_eq (pt (va := .int .u8 x15) rfl (pt (va := .int .u8 x19) rfl (pt (va := .int .u8 x24) rfl pt0)))) rfl (by intro v hv; simp only [List.mem_cons, List.not_mem_nil, or_false] at hv; first | (subst hv; rfl) | (rcases hv with rfl | rfl | rfl <;> rfl)) (by decide) rfl hS (fun b25 w' hS => ?_)
   have q0v : RepL (RpI .u8) ρ ([x15, x19, x24] : List Int) [.int .u8 x15, .int .u8 x19, .int .u8 x24] := (RepL.cons (cs := [.int .u8 x15]) rfl (RepL.cons (cs := [.int .u8 x19]) rfl (RepL.cons (cs := [.int .u8 x24]) rfl RepL.nil)))
   replace hS := St.vec_of (n := 3) (sz := (RpI .u8).sz) hS rfl (by decide)
   replace hFL3 := lv_s hFL3; obtain ⟨x26, hx26, hFL3⟩ := hFL3
   replace hFL3 := bd_s hFL3; obtain ⟨q0u, q1f, hFL3⟩ := hFL3
   refine pa (at_str usl_76 ui_5 us_9 rfl (St.vec_n hS q0v) (str_o hS q0v) hx26) <| p (yl_assign rfl) <| x_done <| x_seq <|
    x_seq <| x_region <| p (yl_move q0f) <| ?_
   have hcall := c_maskmake_Stream_Next q1f q0l ((hS.pull 2).pull 2)
   refine o_cc call_6 (args2 rfl rfl) hcall ?_
   rintro e w' ⟨rfl, hS⟩
   refine ⟨_, rfl, ?_⟩
   refine x_done <| x_block <| x_seq <| x_region <|
    p (yl_eql rfl rfl) <| p (yl_assign rfl) <| x_done <| ?_
   replace hFL3 := bd_s hFL3; obtain ⟨oc29, hFc29, hFL3⟩ := hFL3
   refine x_join (fun E w => ∃ (q5 : ByteArray) (q9 : Int), (q5, q9) = oc29 ∧ E 0 = .pointer (some ⟨q0d, 0, none⟩) ∧ E 5 = .slice q3 q2.length c_out5_L3h ∧ E 7 = .string q5 ∧ E 8 = .int .i64 n1 ∧ E 9 = .int .i64 q0e ∧ St w0 w (cells q0d 25 [.slice q0a s0.L.length c_s0_0, .int .i64 q9] :: vec 9 RpS.sz (.slice q3 q2.length c_out5_L3h) q2.length q4 :: ro ρ :: l)) ?_ ?_
   ·refine x_cond_p (q0u.1 = 0) rfl (fun hc29 => ?_) (fun hc29 => ?_)
    ·replace hFc29 := it_t hc29 hFc29
     replace hFc29 := bd_s hFc29; obtain ⟨q1l, q1g, hFc29⟩ := hFc29
     refine x_region <| p (yl_move rfl) <| p (yl_move q0f) <| ?_
     have hcall := c_maskmake_Stream_Next q1g q0l ((hS.pull 1).pull 1)
     refine o_cc call_6 (args2 rfl rfl) hcall ?_
     rintro e w' ⟨rfl, hS⟩
     refine ⟨_, rfl, ?_⟩
     replace hFc29 := ar_s hFc29; obtain ⟨x34, hx34, hFc29⟩ := hFc29
     replace hFc29 := lv_s hFc29; obtain ⟨x35, hx35, hFc29⟩ := hFc29
     refine p (yadd rfl rfl hx34) <| p (yconvu wm_u8 uk_3 ik_5 rfl hx35) <| ?_
     refine o_buildSlice (vs := [.int .u8 x35]) (cs := [.int .u8 x35]) sl_76 zero_5 (parts_eq (pt (va := .int .u8 x35) rfl pt0)) rfl (by intro v hv; simp only [List.mem_cons, List.not_mem_nil, or_false] at hv; first | (subst hv; rfl) | (rcases hv with rfl <;> rfl)) (by decide) rfl hS (fun b36 w' hS => ?_)
     have q0w : RepL (RpI .u8) ρ ([x35] : List Int) [.int .u8 x35] := (RepL.cons (cs := [.int .u8 x35]) rfl RepL.nil)
     replace hS := St.vec_of (n := 1) (sz := (RpI .u8).sz) hS rfl (by decide)
     replace hFc29 := lv_s hFc29; obtain ⟨x37, hx37, hFc29⟩ := hFc29
     replace hFc29 := ck_s hFc29; obtain ⟨q1h, hFc29⟩ := hFc29
     replace hFc29 := ck_s hFc29; obtain ⟨q1i, hFc29⟩ := hFc29
     replace hFc29 := ck_s hFc29; obtain ⟨q1j, hFc29⟩ := hFc29
     refine pa (at_str usl_76 ui_5 us_9 rfl (St.vec_n hS q0w) (str_o hS q0w) hx37) <| p (yadds rfl rfl q1h) <| p (yadds rfl rfl q1i) <| p (yadds rfl rfl q1j) <|
      p (yl_assign rfl) <| x_done <| ?_
     exact x_inv ⟨x26 ++ (((⟨#[91]⟩ : ByteArray) ++ x37) ++ (⟨#[93]⟩ : ByteArray)), q1l.2, (Option.some.inj (show some _ = some _ from hFc29)), q0f, q0n, rfl, q0o, q0i, ((((hS.drop.pull 2).drop.pull 1).pull 2).pull 2)⟩
    ·replace hFc29 := it_f hc29 hFc29
     refine x_seq <| x_region <| p (yl_eql rfl rfl) <| p (yl_assign rfl) <|
      x_done <| ?_
     replace hFc29 := bd_s hFc29; obtain ⟨oc41, hFc41, hFc29⟩ := hFc29
     refine x_join (fun E w => ∃ (q0p : ByteArray), q0p = oc41 ∧ E 0 = .pointer (some ⟨q0d, 0, none⟩) ∧ E 5 = .slice q3 q2.length c_out5_L3h ∧ E 7 = .string q0p ∧ E 8 = .int .i64 n1 ∧ E 9 = .int .i64 q0e ∧ St w0 w (cells q0d 25 [.slice q0a s0.L.length c_s0_0, .int .i64 q0u.2] :: vec 9 RpS.sz (.slice q3 q2.length c_out5_L3h) q2.length q4 :: ro ρ :: l)) ?_ ?_
     ·refine x_cond_p (q0u.1 = 1) rfl (fun hc41 => ?_) (fun hc41 => ?_)
      ·replace hFc41 := it_t hc41 hFc41
       replace hFc41 := ck_s hFc41; obtain ⟨q0z, hFc41⟩ := hFc41
       refine x_region <| p (yl_move rfl) <| p (yadds rfl rfl q0z) <| p (yl_assign rfl) <|
        x_done <| ?_
       exact x_inv ⟨(⟨#[109, 46]⟩ : ByteArray) ++ x26, (Option.some.inj (show some _ = some _ from hFc41)), q0f, q0n, rfl, q0o, q0i, ((((hS.pull 2).drop.pull 1).pull 2).pull 2)⟩
      ·replace hFc41 := it_f hc41 hFc41
       refine x_skip <| ?_
       exact x_inv ⟨x26, (Option.some.inj (show some _ = some _ from hFc41)), q0f, q0n, rfl, q0o, q0i, ((((hS.pull 2).drop.pull 1).pull 2).pull 2)⟩
     rintro E w ⟨q0p, rfl, q10, q11, q12, q13, q14, hS⟩
     exact x_inv ⟨q0p, q0u.2, (Option.some.inj (show some _ = some _ from hFc29)), q10, q11, q12, q13, q14, (((hS.pull 2).pull 2).pull 2)⟩
   rintro E w ⟨q5, q9, rfl, q15, q16, q17, q18, q19, hS⟩
   refine x_blk <| x_region <| p (yl_move q16) <| p (yl_move q17) <| ?_
   refine o_buildSlice (vs := [.string q5]) (cs := [.string q5]) sl_26 zero_9 (parts_eq (pt (va := .string q5) rfl pt0)) rfl (by intro v hv; simp only [List.mem_cons, List.not_mem_nil, or_false] at hv; first | (subst hv; rfl) | (rcases hv with rfl <;> rfl)) (by decide) rfl hS (fun b47 w' hS => ?_)
   replace hFL3 := lv_s hFL3; obtain ⟨q0x, q1a, hFL3⟩ := hFL3
   replace hFL3 := ck_s hFL3; obtain ⟨q1b, hFL3⟩ := hFL3
   refine o_ap sl_26 zero_9 rfl (by decide) rfl rfl (hS.pull 2) q0g (src_blk usl_26 hS rfl rfl) (RepL.cons (R := RpS) (ρ := ρ) (x := q5) (cs := [.string q5]) rfl RepL.nil) q1a q1b (fun A48 c48 cs48 w' hr48 hS => ?_)
   replace hFL3 := ar_s hFL3; obtain ⟨x49, hx49, hFL3⟩ := hFL3
   refine p (yl_assign rfl) <| x_done <| x_blk <| x_region <|
    p (yadd q19 rfl hx49) <| p (yl_move rfl) <| x_done <| ?_
   have e_ := Option.some.inj (show some _ = some _ from hFL3); subst e_
   exact x_inv ⟨kL3, Nat.lt_succ_self _, A48, q0x.length, c48, cs48, q0x, x49, q9, hLL3, q15, rfl, q18, rfl, hr48, ((((hS.pull 1).drop.pull 2).pull 1).pull 2)⟩
  ·replace hFL3 := it_f hc10 hFL3
   refine x_exitTo _ rfl <| ?_
   have e_ := Option.some.inj (show some _ = some _ from hFL3); subst e_
   exact x_inv ⟨q3, q2.length, c_out5_L3h, q4, q2, q8, hLL3, q0n, q0g, (((hS.pull 2).pull 1).pull 2)⟩
 rintro E w ⟨q0b, q0c, c_out5_L3, q6, q0j, q0h, rfl, q1k, q0r, hS⟩
 have e_ := St.vec_n hS q0r; subst e_
 refine x_seq <| x_region <| p (yl_move q1k) <| p (yl_assign rfl) <|
  x_done <| ?_
 have e_ := Option.some.inj (show some _ = some _ from hF); subst e_
 exact x_return ⟨_, ⟨_, _, rfl, rfl, rfl⟩, q0b, q0j.length, c_out5_L3, q6, rfl, q0r, (((hS.pull 2).pull 2).pull 2)⟩
attribute [irreducible] P_maskmake_Stream_Words

def P_maskmake_Stream_Pick (s0 : T_maskmake_Stream) (l_1 : List Int) : Option (Int × Int) :=
 bd (P_maskmake_Stream_Next s0 (l_1.length : Int)) fun q2 =>
 ck (inb q2.1 l_1.length) <|
 lv (gt l_1 q2.1) fun x11 =>
 some (x11, q2.2)
set_option maxHeartbeats 4000000 in
set_option maxRecDepth 100000 in
theorem c_maskmake_Stream_Pick {w0 w : World} {l : List Assn} {ρ : Heap} {q6 : Nat} {q2 : Option Addr} {q3 : Nat} {c_s0_0 : Nat} {q7 : Option Addr} {q8 : Nat} {c_l_1 : Nat} {s0 : T_maskmake_Stream} {l_1 : List Int} {r : (Int × Int)} (hF : P_maskmake_Stream_Pick s0 l_1 = some r) (q5 : RdS (RpI .i64) ρ q2 q3 c_s0_0 s0.L) (q4 : RdS (RpI .i64) ρ q7 q8 c_l_1 l_1) (hS : St w0 w (cells q6 25 [.slice q2 q3 c_s0_0, .int .i64 s0.fat] :: ro ρ :: l)) :
  Calls Tryd.prog 16 #[.pointer (some ⟨q6, 0, none⟩), .slice q7 q8 c_l_1] w fun e w' => e = .returned (.int .i64 r.1) ∧ St w0 w' (cells q6 25 [.slice q2 q3 c_s0_0, .int .i64 r.2] :: ro ρ :: l) := by
 have e_ := q5.n; subst e_
 have e_ := q4.n; subst e_
 refine enterC Tryd.func16 rfl 12 rfl (by simp) ?_
 replace hF := bd_s hF; obtain ⟨q0b, q0a, hF⟩ := hF
 refine x_seq <| x_region <| p (yl_assign rfl) <| x_done <|
  x_seq <| x_region <| p (yl_move rfl) <| p (yl_move rfl) <|
  p (yl_move rfl) <| p (yl_len_slice usl_22 rfl) <| ?_
 have hcall := c_maskmake_Stream_Next q0a q5 ((hS.pull 1).pull 1)
 refine o_cc call_6 (args2 rfl rfl) hcall ?_
 rintro e w' ⟨rfl, hS⟩
 refine ⟨_, rfl, ?_⟩
 replace hF := ck_s hF; obtain ⟨q9, hF⟩ := hF
 replace hF := lv_s hF; obtain ⟨x11, hx11, hF⟩ := hF
 refine p (yix_f sl_22 rfl rfl q4 q9) <| pa (at_load one_3 rfl (RdS.getW q4 (hS.pull 1) q9 hx11)) <| p (yl_assign rfl) <| x_done <| ?_
 have e_ := Option.some.inj (show some _ = some _ from hF); subst e_
 exact x_return ⟨_, ⟨_, _, rfl, rfl, rfl⟩, rfl, ((hS.pull 1).pull 1)⟩
attribute [irreducible] P_maskmake_Stream_Pick

def P_maskmake_Stream_Netlist_1 (most0 : Int) (q2 : T_maskmake_Stream) : Option (Int × Int) :=
 bd (P_maskmake_Stream_Next q2 2) fun q3 =>
 if q3.1 = 0 then
  ar (most0 - 1) fun x8 =>
  lv (min most0 5) fun x11 =>
  bd (P_maskmake_Stream_Next (T_maskmake_Stream.mk q2.L q3.2) x11) fun q4 =>
  ar (x8 - q4.1) fun x13 =>
  some (x13, q4.2)
 else
  bd (P_maskmake_Stream_Next (T_maskmake_Stream.mk q2.L q3.2) most0) fun q5 =>
  some (q5.1, q5.2)
set_option maxHeartbeats 4000000 in
set_option maxRecDepth 100000 in
theorem c_maskmake_Stream_Netlist_1 {w0 w : World} {l : List Assn} {ρ : Heap} {q6 : Nat} {q5 : Nat} {q3 : Option Addr} {q4 : Nat} {c_v1_0_0 : Nat} {most0 : Int} {q7 : T_maskmake_Stream} {r : (Int × Int)} (hF : P_maskmake_Stream_Netlist_1 most0 q7 = some r) (q2 : RdS (RpI .i64) ρ q3 q4 c_v1_0_0 q7.L) (hS : St w0 w (cells q6 23 [.pointer (some ⟨q5, 0, none⟩)] :: cells q5 25 [.slice q3 q4 c_v1_0_0, .int .i64 q7.fat] :: ro ρ :: l)) :
  Calls Tryd.prog 15 #[.int .i64 most0, .pointer (some ⟨q6, 0, none⟩)] w fun e w' => e = .returned (.int .i64 r.1) ∧ St w0 w' (cells q5 25 [.slice q3 q4 c_v1_0_0, .int .i64 r.2] :: cells q6 23 [.pointer (some ⟨q5, 0, none⟩)] :: ro ρ :: l) := by
 have e_ := q2.n; subst e_
 refine enterC Tryd.func15 rfl 17 rfl (by simp) ?_
 replace hF := bd_s hF; obtain ⟨q0b, q8, hF⟩ := hF
 refine x_seq <| x_region <| p (yl_assign rfl) <| x_done <|
  x_seq <| x_seq <| x_region <| pa (at_load one_23 rfl (hS.cell rfl)) <| ?_
 have hcall := c_maskmake_Stream_Next q8 q2 ((hS.pull 2).pull 2)
 refine o_cc call_6 (args2 rfl rfl) hcall ?_
 rintro e w' ⟨rfl, hS⟩
 refine ⟨_, rfl, ?_⟩
 refine p (yl_eql rfl rfl) <| x_done <|
  x_cond_p (q0b.1 = 0) rfl (fun hc6 => ?_) (fun hc6 => ?_)
 ·replace hF := it_t hc6 hF
  replace hF := ar_s hF; obtain ⟨x8, hx8, hF⟩ := hF
  replace hF := lv_s hF; obtain ⟨x11, hx11, hF⟩ := hF
  replace hF := bd_s hF; obtain ⟨q0c, q9, hF⟩ := hF
  refine x_seq <| x_region <| p (yl_move rfl) <| p (ysub rfl rfl hx8) <|
   pa (at_load one_23 rfl ((hS.pull 2).cell rfl)) <| p (yl_move rfl) <| p (ymin' rfl rfl hx11) <| ?_
  have hcall := c_maskmake_Stream_Next q9 q2 ((hS.pull 1).pull 1)
  refine o_cc call_6 (args2 rfl rfl) hcall ?_
  rintro e w' ⟨rfl, hS⟩
  refine ⟨_, rfl, ?_⟩
  replace hF := ar_s hF; obtain ⟨x13, hx13, hF⟩ := hF
  refine p (ysub rfl rfl hx13) <| p (yl_assign rfl) <| x_done <| ?_
  have e_ := Option.some.inj (show some _ = some _ from hF); subst e_
  exact x_return ⟨_, ⟨_, _, rfl, rfl, rfl⟩, rfl, (((hS.pull 1).pull 2).pull 2)⟩
 ·replace hF := it_f hc6 hF
  replace hF := bd_s hF; obtain ⟨q0d, q0a, hF⟩ := hF
  refine x_skip <| x_seq <| x_region <| pa (at_load one_23 rfl ((hS.pull 2).cell rfl)) <|
   p (yl_move rfl) <| ?_
  have hcall := c_maskmake_Stream_Next q0a q2 ((hS.pull 1).pull 1)
  refine o_cc call_6 (args2 rfl rfl) hcall ?_
  rintro e w' ⟨rfl, hS⟩
  refine ⟨_, rfl, ?_⟩
  refine p (yl_assign rfl) <| x_done <| ?_
  have e_ := Option.some.inj (show some _ = some _ from hF); subst e_
  exact x_return ⟨_, ⟨_, _, rfl, rfl, rfl⟩, rfl, (((hS.pull 1).pull 2).pull 2)⟩
attribute [irreducible] P_maskmake_Stream_Netlist_1

def P_maskmake_Stream_word (s0 : T_maskmake_Stream) : Option (Int × Int) :=
 bd (P_maskmake_Stream_Next s0 1073741824) fun q2 =>
 lv (q2.1 % 18446744073709551616) fun x5 =>
 bd (P_maskmake_Stream_Next (T_maskmake_Stream.mk s0.L q2.2) 1073741824) fun q3 =>
 lv (q3.1 % 18446744073709551616) fun x8 =>
 ck (0 ≤ (25 : Int)) <|
 lv (shl .u64 x8 25) fun x9 =>
 lv (bXor .u64 x5 x9) fun x10 =>
 bd (P_maskmake_Stream_Next (T_maskmake_Stream.mk s0.L q3.2) 1073741824) fun q4 =>
 lv (q4.1 % 18446744073709551616) fun x13 =>
 ck (0 ≤ (50 : Int)) <|
 lv (shl .u64 x13 50) fun x14 =>
 lv (bXor .u64 x10 x14) fun x15 =>
 some (x15, q4.2)
set_option maxHeartbeats 4000000 in
set_option maxRecDepth 100000 in
theorem c_maskmake_Stream_word {w0 w : World} {l : List Assn} {ρ : Heap} {q5 : Nat} {q3 : Option Addr} {q4 : Nat} {c_s0_0 : Nat} {s0 : T_maskmake_Stream} {r : (Int × Int)} (hF : P_maskmake_Stream_word s0 = some r) (q2 : RdS (RpI .i64) ρ q3 q4 c_s0_0 s0.L) (hS : St w0 w (cells q5 25 [.slice q3 q4 c_s0_0, .int .i64 s0.fat] :: ro ρ :: l)) :
  Calls Tryd.prog 17 #[.pointer (some ⟨q5, 0, none⟩)] w fun e w' => e = .returned (.int .u64 r.1) ∧ St w0 w' (cells q5 25 [.slice q3 q4 c_s0_0, .int .i64 r.2] :: ro ρ :: l) := by
 have e_ := q2.n; subst e_
 refine enterC Tryd.func17 rfl 16 rfl (by simp) ?_
 replace hF := bd_s hF; obtain ⟨q0b, q7, hF⟩ := hF
 refine x_seq <| x_region <| p (yl_assign rfl) <| x_done <|
  x_seq <| x_region <| p (yl_move rfl) <| ?_
 have hcall := c_maskmake_Stream_Next q7 q2 ((hS.pull 1).pull 1)
 refine o_cc call_6 (args2 rfl rfl) hcall ?_
 rintro e w' ⟨rfl, hS⟩
 refine ⟨_, rfl, ?_⟩
 replace hF := lv_s hF; obtain ⟨x5, hx5, hF⟩ := hF
 replace hF := bd_s hF; obtain ⟨q0c, q8, hF⟩ := hF
 refine p (yconvu wm_u64 uk_3 ik_51 rfl hx5) <| p (yl_move rfl) <| ?_
 have hcall := c_maskmake_Stream_Next q8 q2 ((hS.pull 1).pull 1)
 refine o_cc call_6 (args2 rfl rfl) hcall ?_
 rintro e w' ⟨rfl, hS⟩
 refine ⟨_, rfl, ?_⟩
 replace hF := lv_s hF; obtain ⟨x8, hx8, hF⟩ := hF
 replace hF := ck_s hF; obtain ⟨q9, hF⟩ := hF
 replace hF := lv_s hF; obtain ⟨x9, hx9, hF⟩ := hF
 replace hF := lv_s hF; obtain ⟨x10, hx10, hF⟩ := hF
 replace hF := bd_s hF; obtain ⟨q0d, q0a, hF⟩ := hF
 refine p (yconvu wm_u64 uk_3 ik_51 rfl hx8) <| p (yshl rfl rfl q9 hx9) <| p (yxor rfl rfl hx10) <| p (yl_move rfl) <| ?_
 have hcall := c_maskmake_Stream_Next q0a q2 ((hS.pull 1).pull 1)
 refine o_cc call_6 (args2 rfl rfl) hcall ?_
 rintro e w' ⟨rfl, hS⟩
 refine ⟨_, rfl, ?_⟩
 replace hF := lv_s hF; obtain ⟨x13, hx13, hF⟩ := hF
 replace hF := ck_s hF; obtain ⟨q6, hF⟩ := hF
 replace hF := lv_s hF; obtain ⟨x14, hx14, hF⟩ := hF
 replace hF := lv_s hF; obtain ⟨x15, hx15, hF⟩ := hF
 refine p (yconvu wm_u64 uk_3 ik_51 rfl hx13) <| p (yshl rfl rfl q6 hx14) <| p (yxor rfl rfl hx15) <| p (yl_assign rfl) <|
  x_done <| ?_
 have e_ := Option.some.inj (show some _ = some _ from hF); subst e_
 exact x_return ⟨_, ⟨_, _, rfl, rfl, rfl⟩, rfl, ((hS.pull 1).pull 1)⟩
attribute [irreducible] P_maskmake_Stream_word

def P_maskmake_mask (w_0 : Int) : Option Int :=
 if 64 ≤ w_0 then
  some (18446744073709551615 : Int)
 else
  ck (0 ≤ w_0) <|
  lv (shl .u64 (1 : Int) w_0) fun x6 =>
  lv ((x6 - 1) % 18446744073709551616) fun x7 =>
  some x7
set_option maxHeartbeats 4000000 in
set_option maxRecDepth 100000 in
theorem c_maskmake_mask {w0 w : World} {l : List Assn} {ρ : Heap} {w_0 : Int} {r : Int} (hF : P_maskmake_mask w_0 = some r) (hS : St w0 w (ro ρ :: l)) :
  Calls Tryd.prog 18 #[.int .i64 w_0] w fun e w' => e = .returned (.int .u64 r) ∧ St w0 w' (ro ρ :: l) := by
 refine enterC Tryd.func18 rfl 8 rfl (by simp) ?_
 refine x_seq <| x_region <| p (yl_assign rfl) <| x_done <|
  x_seq <| x_seq <| x_region <| p (yl_move rfl) <|
  p (yl_geq rfl rfl) <| x_done <|
  x_cond_p (64 ≤ w_0) rfl (fun hc4 => ?_) (fun hc4 => ?_)
 ·replace hF := it_t hc4 hF
  refine x_seq <| x_region <| p (yl_assign rfl) <| x_done <| ?_
  have e_ := Option.some.inj (show some _ = some _ from hF); subst e_
  exact x_return ⟨_, ⟨_, _, rfl, rfl, rfl⟩, rfl, hS⟩
 ·replace hF := it_f hc4 hF
  replace hF := ck_s hF; obtain ⟨q2, hF⟩ := hF
  replace hF := lv_s hF; obtain ⟨x6, hx6, hF⟩ := hF
  replace hF := lv_s hF; obtain ⟨x7, hx7, hF⟩ := hF
  refine x_skip <| x_seq <| x_region <| p (yl_move rfl) <|
   p (yshl rfl rfl q2 hx6) <| p (ysubu wm_u64 rfl rfl hx7) <| p (yl_assign rfl) <| x_done <| ?_
  have e_ := Option.some.inj (show some _ = some _ from hF); subst e_
  exact x_return ⟨_, ⟨_, _, rfl, rfl, rfl⟩, rfl, hS⟩
attribute [irreducible] P_maskmake_mask

def P_maskmake_Stream_Netlist_L10 (s0 : T_maskmake_Stream) (x35 : Int) (q8 : (Int × Int)) (q7 : Int) : (Int × List Int × Int) → Option ((Int × List Int × Int) ⊕ (List Int × Int)) := fun (q4, q3, q2) =>
 if q4 < q8.1 then
  ar (x35 + q7) fun x52 =>
  bd (P_maskmake_Stream_Netlist_1 x52 (T_maskmake_Stream.mk s0.L q2)) fun q5 =>
  lv (q3 ++ [q5.1]) fun q6 =>
  ck (apOk 8 q6.length) <|
  ar (q4 + 1) fun x57 =>
  some (Sum.inl (x57, q6, q5.2))
 else
  some (Sum.inr (q3, q2))
def P_maskmake_Stream_Netlist_L6 (s0 : T_maskmake_Stream) (gates3 : Int) (x35 : Int) : (Int × List T_api_Gate × Int) → Option ((Int × List T_api_Gate × Int) ⊕ (List T_api_Gate × Int)) := fun (q5, q2, q4) =>
 if q5 < gates3 then
  bd (P_maskmake_Stream_Pick (T_maskmake_Stream.mk s0.L q4) ([0, 1, 2, 2, 3, 3, 4, 5, 6] : List Int)) fun q9 =>
  bd (
   lp (P_maskmake_Stream_Netlist_L10 s0 x35 q9 q5) fuel (0, [], q9.2)) fun (q3, q6) =>
  bd (P_maskmake_Stream_word (T_maskmake_Stream.mk s0.L q6)) fun q7 =>
  ck (0 ≤ (q3.length : Int)) <|
  lv (shl .i64 (1 : Int) (q3.length : Int)) fun x63 =>
  bd (P_maskmake_mask x63) fun q0a =>
  lv (bAnd .u64 q7.1 q0a) fun x65 =>
  lv (q2 ++ [(T_api_Gate.mk (-1) x65 q3)]) fun q8 =>
  ck (apOk 40 q8.length) <|
  ar (q5 + 1) fun x73 =>
  some (Sum.inl (x73, q8, q7.2))
 else
  some (Sum.inr (q2, q4))
def P_maskmake_Stream_Netlist_L17 (s0 : T_maskmake_Stream) (ins1 : Int) (flops2 : Int) (gates3 : Int) (q0c : (List ByteArray × Int)) (x35 : Int) : (Int × List T_api_Flop × Int) → Option ((Int × List T_api_Flop × Int) ⊕ (List T_api_Flop × Int)) := fun (q4, q2, q3) =>
 if q4 < flops2 then
  ar (ins1 + q4) fun x81 =>
  ck (inb x81 q0c.1.length) <|
  lv (gt q0c.1 x81) fun x83 =>
  ar (x35 + gates3) fun x87 =>
  bd (P_maskmake_Stream_Netlist_1 x87 (T_maskmake_Stream.mk s0.L q3)) fun q8 =>
  bd (P_maskmake_Stream_Next (T_maskmake_Stream.mk s0.L q8.2) 2) fun q9 =>
  bd (P_maskmake_Stream_Next (T_maskmake_Stream.mk s0.L q9.2) 2) fun q6 =>
  bd (
   if q6.1 = 0 then
    ar (x35 + gates3) fun x99 =>
    bd (P_maskmake_Stream_Netlist_1 x99 (T_maskmake_Stream.mk s0.L q6.2)) fun q0a =>
    some (q0a.1, q0a.2)
   else
    some ((1 : Int), q6.2)) fun (q5, q7) =>
  lv (q2 ++ [(T_api_Flop.mk x83 (-1) q8.1 q5 (decide (q9.1 = 0)))]) fun q0b =>
  ck (apOk 48 q0b.length) <|
  ar (q4 + 1) fun x108 =>
  some (Sum.inl (x108, q0b, q7))
 else
  some (Sum.inr (q2, q3))
def P_maskmake_Stream_Netlist_L25 (s0 : T_maskmake_Stream) (gates3 : Int) (outs4 : Int) (x35 : Int) : (Int × List Int × Int) → Option ((Int × List Int × Int) ⊕ (List Int × Int)) := fun (q4, q2, q3) =>
 if q4 < outs4 then
  ar (x35 + gates3) fun x117 =>
  bd (P_maskmake_Stream_Netlist_1 x117 (T_maskmake_Stream.mk s0.L q3)) fun q5 =>
  lv (q2 ++ [q5.1]) fun q6 =>
  ck (apOk 8 q6.length) <|
  ar (q4 + 1) fun x122 =>
  some (Sum.inl (x122, q6, q5.2))
 else
  some (Sum.inr (q2, q3))
def P_maskmake_Stream_Netlist (s0 : T_maskmake_Stream) (ins1 : Int) (flops2 : Int) (gates3 : Int) (outs4 : Int) : Option (T_api_Netlist × Int) :=
 ar (ins1 + flops2) fun x22 =>
 bd (P_maskmake_Stream_Words s0 x22) fun q5 =>
 ck (0 ≤ (0 : Int) ∧ (0 : Int) ≤ ins1 ∧ ins1 ≤ q5.1.length) <|
 lv (sub q5.1 0 ins1) fun x27 =>
 bd (P_maskmake_Stream_Words (T_maskmake_Stream.mk s0.L q5.2) outs4) fun q9 =>
 ar ((2 : Int) + ins1) fun x33 =>
 ar (x33 + flops2) fun x35 =>
 bd (
  lp (P_maskmake_Stream_Netlist_L6 s0 gates3 x35) fuel (0, [], q9.2)) fun (q4, q8) =>
 bd (
  lp (P_maskmake_Stream_Netlist_L17 s0 ins1 flops2 gates3 q5 x35) fuel (0, [], q8)) fun (q2, q6) =>
 bd (
  lp (P_maskmake_Stream_Netlist_L25 s0 gates3 outs4 x35) fuel (0, [], q6)) fun (q3, q7) =>
 some ((T_api_Netlist.mk x27 q9.1 q2 q4 q3), q7)
set_option maxHeartbeats 4000000 in
set_option maxRecDepth 100000 in
theorem c_maskmake_Stream_Netlist {w0 w : World} {l : List Assn} {ρ : Heap} {q7 : Nat} {q0d : Option Addr} {q4u : Nat} {c_s0_0 : Nat} {s0 : T_maskmake_Stream} {ins1 : Int} {flops2 : Int} {gates3 : Int} {outs4 : Int} {r : (T_api_Netlist × Int)} (hF : P_maskmake_Stream_Netlist s0 ins1 flops2 gates3 outs4 = some r) (q1i : RdS (RpI .i64) ρ q0d q4u c_s0_0 s0.L) (hS : St w0 w (cells q7 25 [.slice q0d q4u c_s0_0, .int .i64 s0.fat] :: ro ρ :: l)) :
  Calls Tryd.prog 4 #[.pointer (some ⟨q7, 0, none⟩), .int .i64 ins1, .int .i64 flops2, .int .i64 gates3, .int .i64 outs4] w fun e w' => ∃ (ρ' : Heap) (q4a : Option Addr) (q4b : Nat) (c_y0_ret_0 : Nat) (q4c : Option Addr) (q2g : Nat) (c_y0_ret_1 : Nat) (q3y : List Value) (q4d : Option Addr) (q2h : Nat) (c_y0_ret_2 : Nat) (q3z : List Value) (q4e : Option Addr) (q2i : Nat) (c_y0_ret_3 : Nat) (q40 : List Value) (q4f : Option Addr) (q2j : Nat) (c_y0_ret_4 : Nat) (q41 : List Value), e = .returned (.agg #[.slice q4a q4b c_y0_ret_0, .slice q4c q2g c_y0_ret_1, .slice q4d q2h c_y0_ret_2, .slice q4e q2i c_y0_ret_3, .slice q4f q2j c_y0_ret_4]) ∧ Le ρ ρ' ∧ RdS RpS ρ' q4a q4b c_y0_ret_0 r.1.In ∧ RepL RpS ρ' r.1.Out q3y ∧ RepL R_api_Flop ρ' r.1.Flops q3z ∧ RepL R_api_Gate ρ' r.1.Gates q40 ∧ RepL (RpI .i64) ρ' r.1.Outs q41 ∧ St w0 w' (vec 9 RpS.sz (.slice q4c q2g c_y0_ret_1) q2g q3y :: vec 58 R_api_Flop.sz (.slice q4d q2h c_y0_ret_2) q2h q3z :: vec 53 R_api_Gate.sz (.slice q4e q2i c_y0_ret_3) q2i q40 :: vec 3 (RpI .i64).sz (.slice q4f q2j c_y0_ret_4) q2j q41 :: cells q7 25 [.slice q0d q4u c_s0_0, .int .i64 r.2] :: ro ρ' :: l) := by
 have e_ := q1i.n; subst e_
 refine enterC Tryd.func4 rfl 124 rfl (by simp) ?_
 refine x_seq <| x_region <| ?_
 refine o_box (cs := [.pointer (some ⟨q7, 0, none⟩)]) rfl rfl hS (fun b5 w' hS => ?_)
 refine o_alloc zero_30 hS (fun b10 w' hS => ?_)
 replace hF := ar_s hF; obtain ⟨x22, hx22, hF⟩ := hF
 replace hF := bd_s hF; obtain ⟨q1n, q7k, hF⟩ := hF
 refine x_done <| x_seq <| x_region <| pa (at_load one_23 rfl ((hS.pull 1).cell rfl)) <|
  p (yl_move rfl) <| p (yl_move rfl) <| p (yadd rfl rfl hx22) <| ?_
 have hcall := c_maskmake_Stream_Words q7k q1i ((hS.pull 3).pull 3)
 refine o_cc call_14 (args2 rfl rfl) hcall ?_
 rintro e w' ⟨q0h, q6n, c_y0_ret_1_4, q6m, rfl, q2q, hS⟩
 refine ⟨_, rfl, ?_⟩
 have e_ := St.vec_n hS q2q; subst e_
 refine p (yl_assign rfl) <| x_done <| x_seq <| ?_
 have q_ := St.vec_fz ((hS.pull 2).pull 1) q2q; obtain ⟨q17, q1a, q5m, hS⟩ := q_
 replace hF := ck_s hF; obtain ⟨q60, hF⟩ := hF
 replace hF := lv_s hF; obtain ⟨x27, hx27, hF⟩ := hF
 replace hF := bd_s hF; obtain ⟨q5, q7l, hF⟩ := hF
 refine x_par (w0 := w0) [⟨[], [], [24], [], [], []⟩, ⟨[], [], [25], [], [], []⟩, ⟨[], [], [26], [], [], []⟩, ⟨[0, 1, 2], [0, 1, 2], [27], [0], [], []⟩, ⟨[], [], [28], [1], [], []⟩, ⟨[], [], [29], [], [], []⟩, ⟨[4, 5], [4, 5], [30], [0], [2], [3, 4]⟩, ⟨[0, 1, 2, 3, 4, 5, 6], [3, 6], [27, 30, 31], [], [], []⟩, ⟨[], [], [12], [], [], [5]⟩, ⟨[0, 1, 2, 3, 4, 5, 6, 7, 8], [3, 6, 7, 8], [], [], [5], [6]⟩] [⟨none, none, []⟩, ⟨none, none, []⟩, ⟨none, (some 6), []⟩, ⟨(some 6), none, []⟩, ⟨(some 6), none, [30]⟩, ⟨(some 8), (some 9), [12]⟩, ⟨(some 9), none, [12, 27, 30]⟩] [12, 24, 25, 26, 27, 28, 29, 30, 31] [0, 1, 2] [0, 1, 3, 4, 6] [0, 1, 2, 3, 4, 5, 6, 7, 8] [fun Ep2 => Ep2 24 = .slice q0h q1n.1.length c_y0_ret_1_4, fun Ep2 => Ep2 25 = .int .i64 ins1, fun Ep2 => Ep2 26 = .int .i64 ins1, fun Ep2 => Ep2 27 = .slice (adOf (Ep2 27)) x27.length (capOf (Ep2 27)) ∧ RdS RpS q17 (adOf (Ep2 27)) x27.length (capOf (Ep2 27)) x27, fun Ep2 => Ep2 28 = .pointer (some ⟨q7, 0, none⟩), fun Ep2 => Ep2 29 = .int .i64 outs4, fun Ep2 => Ep2 30 = .slice (adOf (Ep2 30)) q5.1.length (capOf (Ep2 30)), fun Ep2 => Ep2 31 = .agg #[.slice (adOf (Ep2 27)) x27.length (capOf (Ep2 27)), .slice (adOf (Ep2 30)) q5.1.length (capOf (Ep2 30)), .slice none 0 0, .slice none 0 0, .slice none 0 0], fun Ep2 => Ep2 12 = .pointer (some ⟨(blkOf (Ep2 12)), 0, none⟩), fun Ep2 => True] [fun Ep2 => ro q17, fun Ep2 => cells b5 23 [.pointer (some ⟨q7, 0, none⟩)], fun Ep2 => cells q7 25 [.slice q0d s0.L.length c_s0_0, .int .i64 q1n.2], fun Ep2 => cells q7 25 [.slice q0d s0.L.length c_s0_0, .int .i64 q5.2], fun Ep2 => bunA (fun (q3 : List Value) => RepL RpS q17 q5.1 q3) (fun (q3 : List Value) => [vec 9 RpS.sz (.slice (adOf (Ep2 30)) q5.1.length (capOf (Ep2 30))) q5.1.length q3]), fun Ep2 => cells (blkOf (Ep2 12)) 30 [.slice none 0 0, .slice none 0 0, .slice none 0 0, .slice none 0 0, .slice none 0 0], fun Ep2 => cells (blkOf (Ep2 12)) 30 [.slice (adOf (Ep2 27)) x27.length (capOf (Ep2 27)), .slice (adOf (Ep2 30)) q5.1.length (capOf (Ep2 30)), .slice none 0 0, .slice none 0 0, .slice none 0 0]] mixed (by kernel_rfl) (((hS.pull 1).pull 3).pull 2) ?_ ?_
 ·refine ⟨?_, ?_, ?_, ?_, ?_, ?_, ?_, ?_, ?_, ?_, trivial⟩
  ·intro Ep2 w l' hE2 hO2 hF_ hS
   refine p (yl_move (hE2 11 rfl)) <| x_done <| ?_
   refine x_fin ⟨⟨_, rfl⟩, rfl, ?_⟩
   exact Eq.mp (by kernel_rfl) hS
  ·intro Ep2 w l' hE2 hO2 hF_ hS
   refine p (yl_move (hE2 1 rfl)) <| x_done <| ?_
   refine x_fin ⟨⟨_, rfl⟩, rfl, ?_⟩
   exact Eq.mp (by kernel_rfl) hS
  ·intro Ep2 w l' hE2 hO2 hF_ hS
   refine p (yl_move (hE2 1 rfl)) <| x_done <| ?_
   refine x_fin ⟨⟨_, rfl⟩, rfl, ?_⟩
   exact Eq.mp (by kernel_rfl) hS
  ·intro Ep2 w l' hE2 hO2 hF_ hS
   obtain ⟨q4g, q4h, q4i, -⟩ := hF_
   replace q4g : Ep2 24 = .slice q0h q1n.1.length c_y0_ret_1_4 := Eq.mp (by kernel_rfl) q4g
   replace q4h : Ep2 25 = .int .i64 ins1 := Eq.mp (by kernel_rfl) q4h
   replace q4i : Ep2 26 = .int .i64 ins1 := Eq.mp (by kernel_rfl) q4i
   replace hS : St w0 w (ro q17 :: l') := Eq.mp (by kernel_rfl) hS
   have q_ := RdS.sub3 q5m q60 hx27; obtain ⟨A27, n27, c27, hd27, f27⟩ := q_
   refine p (ysub3_h sl_26 q4g q4h q4i q60 hd27) <| ?_
   have e_ := f27.n; subst e_
   refine x_done <| ?_
   refine x_fin ⟨⟨_, rfl⟩, ⟨rfl, f27⟩, ?_⟩
   exact Eq.mp (by kernel_rfl) hS
  ·intro Ep2 w l' hE2 hO2 hF_ hS
   replace hS : St w0 w (cells b5 23 [.pointer (some ⟨q7, 0, none⟩)] :: l') := Eq.mp (by kernel_rfl) hS
   refine pa (at_load one_23 (hE2 5 rfl) (hS.cell rfl)) <| x_done <| ?_
   refine x_fin ⟨⟨_, rfl⟩, rfl, ?_⟩
   exact Eq.mp (by kernel_rfl) hS
  ·intro Ep2 w l' hE2 hO2 hF_ hS
   refine p (yl_move (hE2 4 rfl)) <| x_done <| ?_
   refine x_fin ⟨⟨_, rfl⟩, rfl, ?_⟩
   exact Eq.mp (by kernel_rfl) hS
  ·intro Ep2 w l' hE2 hO2 hF_ hS
   obtain ⟨q4j, q4k, -⟩ := hF_
   replace q4j : Ep2 28 = .pointer (some ⟨q7, 0, none⟩) := Eq.mp (by kernel_rfl) q4j
   replace q4k : Ep2 29 = .int .i64 outs4 := Eq.mp (by kernel_rfl) q4k
   replace hS : St w0 w (ro q17 :: cells q7 25 [.slice q0d s0.L.length c_s0_0, .int .i64 q1n.2] :: l') := Eq.mp (by kernel_rfl) hS
   have hcall := c_maskmake_Stream_Words q7l (q1i.le q1a) (hS.pull 1)
   refine o_cc call_14 (args2 q4j q4k) hcall ?_
   rintro e w' ⟨q4v, q6o, c_y0_ret_2_6, q3, rfl, q1o, hS⟩
   refine ⟨_, rfl, ?_⟩
   have e_ := St.vec_n hS q1o; subst e_
   refine x_done <| ?_
   refine x_fin ⟨⟨_, rfl⟩, rfl, ?_⟩
   replace hS := St.bun (Φ := (fun (q3 : List Value) => RepL RpS q17 q5.1 q3)) (L := (fun (q3 : List Value) => [vec 9 RpS.sz (.slice q4v q5.1.length c_y0_ret_2_6) q5.1.length q3])) q3 q1o hS
   exact Eq.mp (by kernel_rfl) ((hS.pull 1).pull 2)
  ·intro Ep2 w l' hE2 hO2 hF_ hS
   obtain ⟨q1u, q2k, -⟩ := hF_
   replace q1u : Ep2 27 = .slice (adOf (Ep2 27)) x27.length (capOf (Ep2 27)) ∧ RdS RpS q17 (adOf (Ep2 27)) x27.length (capOf (Ep2 27)) x27 := Eq.mp (by kernel_rfl) q1u
   have q_ := id q1u; obtain ⟨-, q5n⟩ := q_
   replace q2k : Ep2 30 = .slice (adOf (Ep2 30)) q5.1.length (capOf (Ep2 30)) := Eq.mp (by kernel_rfl) q2k
   refine p (v := .agg #[.slice (adOf (Ep2 27)) x27.length (capOf (Ep2 27)), .slice (adOf (Ep2 30)) q5.1.length (capOf (Ep2 30)), .slice none 0 0, .slice none 0 0, .slice none 0 0]) (yl_build bld_30 bldf_30 (parts_eq (pt (va := .slice (adOf (Ep2 27)) x27.length (capOf (Ep2 27))) q1u.1 (pt (va := .slice (adOf (Ep2 30)) q5.1.length (capOf (Ep2 30))) q2k pt0))) (by kernel_rfl)) <| x_done <| ?_
   refine x_fin ⟨⟨_, rfl⟩, rfl, ?_⟩
   exact Eq.mp (by kernel_rfl) hS
  ·intro Ep2 w l' hE2 hO2 hF_ hS
   refine o_alloc zero_30 hS (fun b12 w' hS => ?_)
   refine x_done <| ?_
   refine x_fin ⟨⟨_, rfl⟩, rfl, ?_⟩
   exact Eq.mp (by kernel_rfl) hS
  ·intro Ep2 w l' hE2 hO2 hF_ hS
   obtain ⟨q1u, q2k, q4l, q43, -⟩ := hF_
   replace q1u : Ep2 27 = .slice (adOf (Ep2 27)) x27.length (capOf (Ep2 27)) ∧ RdS RpS q17 (adOf (Ep2 27)) x27.length (capOf (Ep2 27)) x27 := Eq.mp (by kernel_rfl) q1u
   have q_ := id q1u; obtain ⟨-, q5n⟩ := q_
   replace q2k : Ep2 30 = .slice (adOf (Ep2 30)) q5.1.length (capOf (Ep2 30)) := Eq.mp (by kernel_rfl) q2k
   replace q4l : Ep2 31 = .agg #[.slice (adOf (Ep2 27)) x27.length (capOf (Ep2 27)), .slice (adOf (Ep2 30)) q5.1.length (capOf (Ep2 30)), .slice none 0 0, .slice none 0 0, .slice none 0 0] := Eq.mp (by kernel_rfl) q4l
   replace q43 : Ep2 12 = .pointer (some ⟨(blkOf (Ep2 12)), 0, none⟩) := Eq.mp (by kernel_rfl) q43
   replace hS : St w0 w (cells (blkOf (Ep2 12)) 30 [.slice none 0 0, .slice none 0 0, .slice none 0 0, .slice none 0 0, .slice none 0 0] :: l') := Eq.mp (by kernel_rfl) hS
   refine o_storeAgg (news := [.slice (adOf (Ep2 27)) x27.length (capOf (Ep2 27)), .slice (adOf (Ep2 30)) q5.1.length (capOf (Ep2 30)), .slice none 0 0, .slice none 0 0, .slice none 0 0]) agg_30 q43 q4l rfl (by simp [over_length]) hS (fun w' hS => ?_)
   refine x_done <| ?_
   refine x_fin ⟨⟨undef, rfl⟩, trivial, ?_⟩
   exact Eq.mp (by kernel_rfl) hS
 intro Ep2 w' hE2 hF_ hS
 obtain ⟨q4g, q4h, q4i, q1u, q4j, q4k, q2k, q4l, q43, -⟩ := hF_
 replace q4g : Ep2 24 = .slice q0h q1n.1.length c_y0_ret_1_4 := Eq.mp (by kernel_rfl) q4g
 replace q4h : Ep2 25 = .int .i64 ins1 := Eq.mp (by kernel_rfl) q4h
 replace q4i : Ep2 26 = .int .i64 ins1 := Eq.mp (by kernel_rfl) q4i
 replace q1u : Ep2 27 = .slice (adOf (Ep2 27)) x27.length (capOf (Ep2 27)) ∧ RdS RpS q17 (adOf (Ep2 27)) x27.length (capOf (Ep2 27)) x27 := Eq.mp (by kernel_rfl) q1u
 have q_ := id q1u; obtain ⟨-, q5n⟩ := q_
 replace q4j : Ep2 28 = .pointer (some ⟨q7, 0, none⟩) := Eq.mp (by kernel_rfl) q4j
 replace q4k : Ep2 29 = .int .i64 outs4 := Eq.mp (by kernel_rfl) q4k
 replace q2k : Ep2 30 = .slice (adOf (Ep2 30)) q5.1.length (capOf (Ep2 30)) := Eq.mp (by kernel_rfl) q2k
 replace q4l : Ep2 31 = .agg #[.slice (adOf (Ep2 27)) x27.length (capOf (Ep2 27)), .slice (adOf (Ep2 30)) q5.1.length (capOf (Ep2 30)), .slice none 0 0, .slice none 0 0, .slice none 0 0] := Eq.mp (by kernel_rfl) q4l
 replace q43 : Ep2 12 = .pointer (some ⟨(blkOf (Ep2 12)), 0, none⟩) := Eq.mp (by kernel_rfl) q43
 replace hS : St w0 w' (ro q17 :: cells b5 23 [.pointer (some ⟨q7, 0, none⟩)] :: cells q7 25 [.slice q0d s0.L.length c_s0_0, .int .i64 q5.2] :: bunA (fun (q3 : List Value) => RepL RpS q17 q5.1 q3) (fun (q3 : List Value) => [vec 9 RpS.sz (.slice (adOf (Ep2 30)) q5.1.length (capOf (Ep2 30))) q5.1.length q3]) :: cells (blkOf (Ep2 12)) 30 [.slice (adOf (Ep2 27)) x27.length (capOf (Ep2 27)), .slice (adOf (Ep2 30)) q5.1.length (capOf (Ep2 30)), .slice none 0 0, .slice none 0 0, .slice none 0 0] :: (cells b10 30 [.slice none 0 0, .slice none 0 0, .slice none 0 0, .slice none 0 0, .slice none 0 0] :: l)) := Eq.mp (by kernel_rfl) hS
 have q_ := St.unbun (hS.pull 3); obtain ⟨q3, q1o, hS⟩ := q_
 replace hF := ar_s hF; obtain ⟨x33, hx33, hF⟩ := hF
 replace hF := ar_s hF; obtain ⟨x35, hx35, hF⟩ := hF
 refine x_seq <| x_region <| p (yl_move (hE2 1 rfl)) <| p (yadd rfl rfl hx33) <|
  p (yl_move (hE2 2 rfl)) <| p (yadd rfl rfl hx35) <| p (yl_assign rfl) <| x_done <|
  x_seq <| x_region <| p (v := .func (.func 15) #[] #[.pointer (some ⟨b5, 0, none⟩)]) (yl_makeFunc (by simp only [List.map_toArray, List.map_nil]) (by simp only [List.map_toArray, List.map_cons, List.map_nil]; exact arr1 (hE2 5 rfl))) <| p (v := .func (.func 15) #[] #[.pointer (some ⟨b5, 0, none⟩)]) (yl_assign rfl) <|
  x_done <| x_seq <| x_seq <| x_region <|
  p (yl_move (hE2 3 rfl)) <| p (yl_move rfl) <| x_done <| ?_
 replace hF := bd_s hF; obtain ⟨oL6, hLL6, hF⟩ := hF
 refine x_join (fun E w => ∃ (q0r : Heap) (q0e : Nat) (q4 : Option Addr) (q1f : Nat) (c_b_n12_L6_3_L6 : Nat) (q0i : List Value) (q2 : List T_api_Gate) (q24 : Int), (q2, q24) = oL6 ∧ Le q17 q0r ∧ E 1 = .int .i64 ins1 ∧ E 2 = .int .i64 flops2 ∧ E 3 = .int .i64 gates3 ∧ E 4 = .int .i64 outs4 ∧ E 5 = .pointer (some ⟨b5, 0, none⟩) ∧ E 10 = .pointer (some ⟨b10, 0, none⟩) ∧ E 11 = .slice q0h q1n.1.length c_y0_ret_1_4 ∧ E 12 = .pointer (some ⟨q0e, 0, none⟩) ∧ E 13 = .int .i64 x35 ∧ E 14 = .func (.func 15) #[] #[.pointer (some ⟨b5, 0, none⟩)] ∧ RepL R_api_Gate q0r q2 q0i ∧ St w0 w (cells b5 23 [.pointer (some ⟨q7, 0, none⟩)] :: cells b10 30 [.slice none 0 0, .slice none 0 0, .slice none 0 0, .slice none 0 0, .slice none 0 0] :: cells q0e 30 [.slice (adOf (Ep2 27)) x27.length (capOf (Ep2 27)), .slice (adOf (Ep2 30)) q5.1.length (capOf (Ep2 30)), .slice none 0 0, .slice q4 q1f c_b_n12_L6_3_L6, .slice none 0 0] :: cells q7 25 [.slice q0d s0.L.length c_s0_0, .int .i64 q24] :: vec 9 RpS.sz (.slice (adOf (Ep2 30)) q5.1.length (capOf (Ep2 30))) q5.1.length q3 :: vec 53 R_api_Gate.sz (.slice q4 q1f c_b_n12_L6_3_L6) q1f q0i :: ro q0r :: l)) ?_ ?_
 ·refine x_block ?_
  replace hS := St.vec_nil hS 53 R_api_Gate.sz
  have q27 : RepL R_api_Gate q17 [] [] := rfl
  refine x_loop (fun k_ E w => ∃ (q0v : Heap) (q0x : Nat) (q0b : Option Addr) (q12 : Nat) (c_b_n12_L6h_3_L6h : Nat) (q0k : List Value) (q16 : Int) (q9 : List T_api_Gate) (q1v : Int), lp (P_maskmake_Stream_Netlist_L6 s0 gates3 x35) k_ (q16, q9, q1v) = some oL6 ∧ Le q17 q0v ∧ E 1 = .int .i64 ins1 ∧ E 2 = .int .i64 flops2 ∧ E 3 = .int .i64 gates3 ∧ E 4 = .int .i64 outs4 ∧ E 5 = .pointer (some ⟨b5, 0, none⟩) ∧ E 10 = .pointer (some ⟨b10, 0, none⟩) ∧ E 11 = .slice q0h q1n.1.length c_y0_ret_1_4 ∧ E 12 = .pointer (some ⟨q0x, 0, none⟩) ∧ E 13 = .int .i64 x35 ∧ E 14 = .func (.func 15) #[] #[.pointer (some ⟨b5, 0, none⟩)] ∧ E 37 = .int .i64 gates3 ∧ E 38 = .int .i64 q16 ∧ RepL R_api_Gate q0v q9 q0k ∧ St w0 w (cells b5 23 [.pointer (some ⟨q7, 0, none⟩)] :: cells b10 30 [.slice none 0 0, .slice none 0 0, .slice none 0 0, .slice none 0 0, .slice none 0 0] :: cells q0x 30 [.slice (adOf (Ep2 27)) x27.length (capOf (Ep2 27)), .slice (adOf (Ep2 30)) q5.1.length (capOf (Ep2 30)), .slice none 0 0, .slice q0b q12 c_b_n12_L6h_3_L6h, .slice none 0 0] :: cells q7 25 [.slice q0d s0.L.length c_s0_0, .int .i64 q1v] :: vec 9 RpS.sz (.slice (adOf (Ep2 30)) q5.1.length (capOf (Ep2 30))) q5.1.length q3 :: vec 53 R_api_Gate.sz (.slice q0b q12 c_b_n12_L6h_3_L6h) q12 q0k :: ro q0v :: l)) fuel ⟨q17, (blkOf (Ep2 12)), none, 0, 0, [], 0, [], q5.2, hLL6, (Le.refl _), (hE2 1 rfl), (hE2 2 rfl), (hE2 3 rfl), (hE2 4 rfl), (hE2 5 rfl), (hE2 10 rfl), (hE2 11 rfl), q43, rfl, rfl, rfl, rfl, q27, (((((((hS.pull 2).pull 1).pull 2).pull 4).pull 5).pull 6).pull 6)⟩ ?_
  rintro kL6 E w ⟨q0v, q0x, q0b, q12, c_b_n12_L6h_3_L6h, q0k, q16, q9, q1v, hLL6, q1y, q5t, q5u, q5v, q5w, q4w, q59, q5a, q5b, q5c, q5d, q5e, q4m, q1k, hS⟩
  have e_ := St.vec_n (hS.pull 5) q1k; subst e_
  replace hLL6 := lp_s hLL6; obtain ⟨kL6, obL6, rfl, hFL6, hLL6⟩ := hLL6
  refine x_seq <| x_region <| p (yl_lss q4m q5e) <| x_done <|
   x_seq <|
   x_cond_p (q16 < gates3) rfl (fun hc39 => ?_) (fun hc39 => ?_)
  ·replace hFL6 := it_t hc39 hFL6
   refine x_skip <| x_seq <| x_block <| x_seq <|
    x_region <| p (yl_move q4m) <| p (yl_assign rfl) <| x_done <|
    x_seq <| x_region <| p (v := .agg #[.int .i64 (-1), .int .u64 0, .slice none 0 0]) (yl_build bld_53 bldf_53 (parts_eq (pt (va := .int .i64 (-1)) rfl pt0)) (by kernel_rfl)) <| ?_
   refine o_alloc zero_53 hS (fun b16 w' hS => ?_)
   refine o_storeAgg (news := [.int .i64 (-1), .int .u64 0, .slice none 0 0]) agg_53 rfl rfl rfl (by simp [over_length]) hS (fun w' hS => ?_)
   refine x_done <| x_seq <| x_seq <| x_region <|
    pa (at_load one_23 q4w ((hS.pull 1).cell rfl)) <| ?_
   refine o_buildSlice (vs := [.int .i64 0, .int .i64 1, .int .i64 2, .int .i64 2, .int .i64 3, .int .i64 3, .int .i64 4, .int .i64 5, .int .i64 6]) (cs := [.int .i64 0, .int .i64 1, .int .i64 2, .int .i64 2, .int .i64 3, .int .i64 3, .int .i64 4, .int .i64 5, .int .i64 6]) sl_22 zero_3 (parts_eq (pt (va := .int .i64 0) rfl (pt (va := .int .i64 1) rfl (pt (va := .int .i64 2) rfl (pt (va := .int .i64 2) rfl (pt (va := .int .i64 3) rfl (pt (va := .int .i64 3) rfl (pt (va := .int .i64 4) rfl (pt (va := .int .i64 5) rfl (pt (va := .int .i64 6) rfl pt0)))))))))) rfl (by intro v hv; simp only [List.mem_cons, List.not_mem_nil, or_false] at hv; first | (subst hv; rfl) | (rcases hv with rfl | rfl | rfl | rfl | rfl | rfl | rfl | rfl | rfl <;> rfl)) (by decide) rfl hS (fun b43 w' hS => ?_)
   have q7m : RepL (RpI .i64) q0v ([0, 1, 2, 2, 3, 3, 4, 5, 6] : List Int) [.int .i64 0, .int .i64 1, .int .i64 2, .int .i64 2, .int .i64 3, .int .i64 3, .int .i64 4, .int .i64 5, .int .i64 6] := (RepL.cons (cs := [.int .i64 0]) rfl (RepL.cons (cs := [.int .i64 1]) rfl (RepL.cons (cs := [.int .i64 2]) rfl (RepL.cons (cs := [.int .i64 2]) rfl (RepL.cons (cs := [.int .i64 3]) rfl (RepL.cons (cs := [.int .i64 3]) rfl (RepL.cons (cs := [.int .i64 4]) rfl (RepL.cons (cs := [.int .i64 5]) rfl (RepL.cons (cs := [.int .i64 6]) rfl RepL.nil)))))))))
   replace hS := St.vec_of (n := 9) (sz := (RpI .i64).sz) hS rfl (by decide)
   replace hFL6 := bd_s hFL6; obtain ⟨q5o, q7n, hFL6⟩ := hFL6
   have q_ := St.lend ((hS.pull 8).pull 1) q7m; obtain ⟨ρl0, hll0, hlf0, hS0, back0⟩ := q_
   have hcall := c_maskmake_Stream_Pick q7n ((q1i.le (q1a.trans q1y)).le hll0) hlf0 (hS0.pull 5)
   refine o_cc call_16 (args2 rfl rfl) hcall ?_
   rintro e w' ⟨rfl, hS⟩
   refine ⟨_, rfl, ?_⟩
   replace hS := back0 (hS.pull 1)
   refine p (yl_move rfl) <| x_done <| ?_
   replace hFL6 := bd_s hFL6; obtain ⟨oL10, hLL10, hFL6⟩ := hFL6
   refine x_join (fun E w => ∃ (q0g : Option Addr) (q1t : Nat) (c_b16_2_L10 : Nat) (q1p : List Value) (q0f : List Int) (q1q : Int), (q0f, q1q) = oL10 ∧ E 1 = .int .i64 ins1 ∧ E 2 = .int .i64 flops2 ∧ E 3 = .int .i64 gates3 ∧ E 4 = .int .i64 outs4 ∧ E 5 = .pointer (some ⟨b5, 0, none⟩) ∧ E 10 = .pointer (some ⟨b10, 0, none⟩) ∧ E 11 = .slice q0h q1n.1.length c_y0_ret_1_4 ∧ E 12 = .pointer (some ⟨q0x, 0, none⟩) ∧ E 13 = .int .i64 x35 ∧ E 14 = .func (.func 15) #[] #[.pointer (some ⟨b5, 0, none⟩)] ∧ E 16 = .pointer (some ⟨b16, 0, none⟩) ∧ E 37 = .int .i64 gates3 ∧ E 38 = .int .i64 q16 ∧ RepL (RpI .i64) q0v q0f q1p ∧ St w0 w (cells b5 23 [.pointer (some ⟨q7, 0, none⟩)] :: cells b10 30 [.slice none 0 0, .slice none 0 0, .slice none 0 0, .slice none 0 0, .slice none 0 0] :: cells q0x 30 [.slice (adOf (Ep2 27)) x27.length (capOf (Ep2 27)), .slice (adOf (Ep2 30)) q5.1.length (capOf (Ep2 30)), .slice none 0 0, .slice q0b q9.length c_b_n12_L6h_3_L6h, .slice none 0 0] :: cells b16 53 [.int .i64 (-1), .int .u64 0, .slice q0g q1t c_b16_2_L10] :: cells q7 25 [.slice q0d s0.L.length c_s0_0, .int .i64 q1q] :: vec 9 RpS.sz (.slice (adOf (Ep2 30)) q5.1.length (capOf (Ep2 30))) q5.1.length q3 :: vec 53 R_api_Gate.sz (.slice q0b q9.length c_b_n12_L6h_3_L6h) q9.length q0k :: vec 3 (RpI .i64).sz (.slice q0g q1t c_b16_2_L10) q1t q1p :: ro q0v :: l)) ?_ ?_
   ·refine x_block ?_
    replace hS := St.vec_nil hS 3 (RpI .i64).sz
    have q3x : RepL (RpI .i64) q0v [] [] := rfl
    refine x_loop (fun k_ E w => ∃ (q0m : Option Addr) (q1r : Nat) (c_b16_2_L10h : Nat) (q0z : List Value) (q2l : Int) (q0l : List Int) (q1b : Int), lp (P_maskmake_Stream_Netlist_L10 s0 x35 q5o q16) k_ (q2l, q0l, q1b) = some oL10 ∧ E 1 = .int .i64 ins1 ∧ E 2 = .int .i64 flops2 ∧ E 3 = .int .i64 gates3 ∧ E 4 = .int .i64 outs4 ∧ E 5 = .pointer (some ⟨b5, 0, none⟩) ∧ E 10 = .pointer (some ⟨b10, 0, none⟩) ∧ E 11 = .slice q0h q1n.1.length c_y0_ret_1_4 ∧ E 12 = .pointer (some ⟨q0x, 0, none⟩) ∧ E 13 = .int .i64 x35 ∧ E 14 = .func (.func 15) #[] #[.pointer (some ⟨b5, 0, none⟩)] ∧ E 15 = .int .i64 q16 ∧ E 16 = .pointer (some ⟨b16, 0, none⟩) ∧ E 37 = .int .i64 gates3 ∧ E 38 = .int .i64 q16 ∧ E 44 = .int .i64 q5o.1 ∧ E 45 = .int .i64 q2l ∧ RepL (RpI .i64) q0v q0l q0z ∧ St w0 w (cells b5 23 [.pointer (some ⟨q7, 0, none⟩)] :: cells b10 30 [.slice none 0 0, .slice none 0 0, .slice none 0 0, .slice none 0 0, .slice none 0 0] :: cells q0x 30 [.slice (adOf (Ep2 27)) x27.length (capOf (Ep2 27)), .slice (adOf (Ep2 30)) q5.1.length (capOf (Ep2 30)), .slice none 0 0, .slice q0b q9.length c_b_n12_L6h_3_L6h, .slice none 0 0] :: cells b16 53 [.int .i64 (-1), .int .u64 0, .slice q0m q1r c_b16_2_L10h] :: cells q7 25 [.slice q0d s0.L.length c_s0_0, .int .i64 q1b] :: vec 9 RpS.sz (.slice (adOf (Ep2 30)) q5.1.length (capOf (Ep2 30))) q5.1.length q3 :: vec 53 R_api_Gate.sz (.slice q0b q9.length c_b_n12_L6h_3_L6h) q9.length q0k :: vec 3 (RpI .i64).sz (.slice q0m q1r c_b16_2_L10h) q1r q0z :: ro q0v :: l)) fuel ⟨none, 0, 0, [], 0, [], q5o.2, hLL10, q5t, q5u, q5v, q5w, q4w, q59, q5a, q5b, q5c, q5d, rfl, rfl, q5e, q4m, rfl, rfl, q3x, ((((((((((hS.pull 1).drop.pull 1).pull 1).pull 8).pull 8).pull 4).pull 5).pull 8).pull 8).pull 8)⟩ ?_
    rintro kL10 E w ⟨q0m, q1r, c_b16_2_L10h, q0z, q2l, q0l, q1b, hLL10, q5f, q5g, q5h, q5i, q5j, q4x, q4y, q4z, q44, q45, q50, q2m, q51, q52, q53, q54, q1z, hS⟩
    have e_ := St.vec_n (hS.pull 7) q1z; subst e_
    replace hLL10 := lp_s hLL10; obtain ⟨kL10, obL10, rfl, hFL10, hLL10⟩ := hLL10
    refine x_seq <| x_region <| p (yl_lss q54 q53) <| x_done <|
     x_seq <|
     x_cond_p (q2l < q5o.1) rfl (fun hc46 => ?_) (fun hc46 => ?_)
    ·replace hFL10 := it_t hc46 hFL10
     refine x_skip <| x_seq <| x_block <| ?_
     replace hFL10 := ar_s hFL10; obtain ⟨x52, hx52, hFL10⟩ := hFL10
     replace hFL10 := bd_s hFL10; obtain ⟨q1g, q6p, hFL10⟩ := hFL10
     replace hFL10 := lv_s hFL10; obtain ⟨q10, q6q, hFL10⟩ := hFL10
     replace hFL10 := ck_s hFL10; obtain ⟨q6r, hFL10⟩ := hFL10
     refine x_par (w0 := w0) [⟨[], [], [47], [], [], []⟩, ⟨[0], [0], [48], [0], [], []⟩, ⟨[], [], [49], [], [], []⟩, ⟨[], [], [50], [], [], []⟩, ⟨[], [], [51], [], [], []⟩, ⟨[3, 4], [3, 4], [52], [], [], []⟩, ⟨[2, 3, 4, 5], [2, 5], [53], [1, 3], [2], [4]⟩, ⟨[2, 3, 4, 5, 6], [6], [54], [], [], [5]⟩, ⟨[0, 1, 2, 3, 4, 5, 6, 7], [1, 7], [55], [5, 3], [6], [7]⟩, ⟨[0, 1, 2, 3, 4, 5, 6, 7, 8], [], [56], [], [], []⟩, ⟨[0, 1, 2, 3, 4, 5, 6, 7, 8, 9], [8, 9], [], [], [0], [8]⟩] [⟨none, (some 10), []⟩, ⟨none, none, []⟩, ⟨none, (some 6), []⟩, ⟨none, none, []⟩, ⟨(some 6), none, []⟩, ⟨(some 7), none, [54]⟩, ⟨none, (some 8), []⟩, ⟨(some 8), none, [55]⟩, ⟨(some 10), none, [55]⟩] [47, 48, 49, 50, 51, 52, 53, 54, 55, 56] [0, 1, 2, 3, 6] [1, 3, 4, 5, 7, 8] [0, 1, 2, 3, 4, 5, 6, 7, 8, 9] [fun Ep11 => Ep11 47 = .pointer (some ⟨b16, 2, none⟩), fun Ep11 => Ep11 48 = .slice q0m q0l.length c_b16_2_L10h, fun Ep11 => Ep11 49 = .func (.func 15) #[] #[.pointer (some ⟨b5, 0, none⟩)], fun Ep11 => Ep11 50 = .int .i64 x35, fun Ep11 => Ep11 51 = .int .i64 q16, fun Ep11 => Ep11 52 = .int .i64 x52, fun Ep11 => Ep11 53 = .int .i64 q1g.1, fun Ep11 => Ep11 54 = .slice (some ⟨(blkOf (Ep11 54)), 0, none⟩) 1 1, fun Ep11 => Ep11 55 = .slice (adOf (Ep11 55)) q10.length (capOf (Ep11 55)), fun Ep11 => Ep11 56 = .pointer (some ⟨b16, 2, none⟩), fun Ep11 => True] [fun Ep11 => cells b16 53 [.int .i64 (-1), .int .u64 0, .slice q0m q0l.length c_b16_2_L10h], fun Ep11 => cells b5 23 [.pointer (some ⟨q7, 0, none⟩)], fun Ep11 => cells q7 25 [.slice q0d s0.L.length c_s0_0, .int .i64 q1b], fun Ep11 => ro q0v, fun Ep11 => cells q7 25 [.slice q0d s0.L.length c_s0_0, .int .i64 q1g.2], fun Ep11 => cells (blkOf (Ep11 54)) 3 [.int .i64 q1g.1], fun Ep11 => vec 3 (RpI .i64).sz (.slice q0m q0l.length c_b16_2_L10h) q0l.length q0z, fun Ep11 => bunA (fun (cs55 : List Value) => RepL (RpI .i64) q0v q10 cs55) (fun (cs55 : List Value) => [vec 3 (RpI .i64).sz (.slice (adOf (Ep11 55)) q10.length (capOf (Ep11 55))) q10.length cs55]), fun Ep11 => cells b16 53 [.int .i64 (-1), .int .u64 0, .slice (adOf (Ep11 55)) q10.length (capOf (Ep11 55))]] mixed (by kernel_rfl) (((((hS.pull 7).pull 8).pull 6).pull 3).pull 6) ?_ ?_
     ·refine ⟨?_, ?_, ?_, ?_, ?_, ?_, ?_, ?_, ?_, ?_, ?_, trivial⟩
      ·intro Ep11 w l' hE11 hO11 hF_ hS
       refine p (yl_field0 fld_53_2 ((hE11 16 rfl).trans q2m)) <| x_done <| ?_
       refine x_fin ⟨⟨_, rfl⟩, rfl, ?_⟩
       exact Eq.mp (by kernel_rfl) hS
      ·intro Ep11 w l' hE11 hO11 hF_ hS
       obtain ⟨q2s, -⟩ := hF_
       replace q2s : Ep11 47 = .pointer (some ⟨b16, 2, none⟩) := Eq.mp (by kernel_rfl) q2s
       replace hS : St w0 w (cells b16 53 [.int .i64 (-1), .int .u64 0, .slice q0m q0l.length c_b16_2_L10h] :: l') := Eq.mp (by kernel_rfl) hS
       refine pa (at_load one_22 q2s (hS.cell rfl)) <| x_done <| ?_
       refine x_fin ⟨⟨_, rfl⟩, rfl, ?_⟩
       exact Eq.mp (by kernel_rfl) hS
      ·intro Ep11 w l' hE11 hO11 hF_ hS
       refine p (yl_move ((hE11 14 rfl).trans q45)) <| x_done <| ?_
       refine x_fin ⟨⟨_, rfl⟩, rfl, ?_⟩
       exact Eq.mp (by kernel_rfl) hS
      ·intro Ep11 w l' hE11 hO11 hF_ hS
       refine p (yl_move ((hE11 13 rfl).trans q44)) <| x_done <| ?_
       refine x_fin ⟨⟨_, rfl⟩, rfl, ?_⟩
       exact Eq.mp (by kernel_rfl) hS
      ·intro Ep11 w l' hE11 hO11 hF_ hS
       refine p (yl_move ((hE11 15 rfl).trans q50)) <| x_done <| ?_
       refine x_fin ⟨⟨_, rfl⟩, rfl, ?_⟩
       exact Eq.mp (by kernel_rfl) hS
      ·intro Ep11 w l' hE11 hO11 hF_ hS
       obtain ⟨q2t, q2u, -⟩ := hF_
       replace q2t : Ep11 50 = .int .i64 x35 := Eq.mp (by kernel_rfl) q2t
       replace q2u : Ep11 51 = .int .i64 q16 := Eq.mp (by kernel_rfl) q2u
       refine p (yadd q2t q2u hx52) <| x_done <| ?_
       refine x_fin ⟨⟨_, rfl⟩, rfl, ?_⟩
       exact Eq.mp (by kernel_rfl) hS
      ·intro Ep11 w l' hE11 hO11 hF_ hS
       obtain ⟨q2v, q2w, -⟩ := hF_
       replace q2v : Ep11 49 = .func (.func 15) #[] #[.pointer (some ⟨b5, 0, none⟩)] := Eq.mp (by kernel_rfl) q2v
       replace q2w : Ep11 52 = .int .i64 x52 := Eq.mp (by kernel_rfl) q2w
       replace hS : St w0 w (cells b5 23 [.pointer (some ⟨q7, 0, none⟩)] :: ro q0v :: cells q7 25 [.slice q0d s0.L.length c_s0_0, .int .i64 q1b] :: l') := Eq.mp (by kernel_rfl) hS
       have hcall := c_maskmake_Stream_Netlist_1 q6p (q1i.le (q1a.trans q1y)) (((hS.pull 1).pull 2).pull 2)
       refine o_ccv q2v call_15 (capargs (args1 q2w)) hcall ?_
       rintro e w' ⟨rfl, hS⟩
       refine ⟨_, rfl, ?_⟩
       refine x_done <| ?_
       refine x_fin ⟨⟨_, rfl⟩, rfl, ?_⟩
       exact Eq.mp (by kernel_rfl) ((hS.pull 2).pull 2)
      ·intro Ep11 w l' hE11 hO11 hF_ hS
       obtain ⟨q2x, -⟩ := hF_
       replace q2x : Ep11 53 = .int .i64 q1g.1 := Eq.mp (by kernel_rfl) q2x
       refine o_buildSlice (vs := [.int .i64 q1g.1]) (cs := [.int .i64 q1g.1]) sl_22 zero_3 (parts_eq (pt (va := .int .i64 q1g.1) q2x pt0)) rfl (by intro v hv; simp only [List.mem_cons, List.not_mem_nil, or_false] at hv; first | (subst hv; rfl) | (rcases hv with rfl <;> rfl)) (by decide) rfl hS (fun b54 w' hS => ?_)
       refine x_done <| ?_
       refine x_fin ⟨⟨_, rfl⟩, rfl, ?_⟩
       exact Eq.mp (by kernel_rfl) hS
      ·intro Ep11 w l' hE11 hO11 hF_ hS
       obtain ⟨q2y, q2z, -⟩ := hF_
       replace q2y : Ep11 48 = .slice q0m q0l.length c_b16_2_L10h := Eq.mp (by kernel_rfl) q2y
       replace q2z : Ep11 54 = .slice (some ⟨(blkOf (Ep11 54)), 0, none⟩) 1 1 := Eq.mp (by kernel_rfl) q2z
       replace hS : St w0 w (cells (blkOf (Ep11 54)) 3 [.int .i64 q1g.1] :: ro q0v :: vec 3 (RpI .i64).sz (.slice q0m q0l.length c_b16_2_L10h) q0l.length q0z :: l') := Eq.mp (by kernel_rfl) hS
       refine o_ap sl_22 zero_3 rfl (by decide) q2y q2z (hS.pull 2) q1z (src_blk usl_22 hS rfl rfl) (RepL.cons (R := (RpI .i64)) (ρ := q0v) (x := q1g.1) (cs := [.int .i64 q1g.1]) rfl RepL.nil) q6q q6r (fun A55 c55 cs55 w' hr55 hS => ?_)
       refine x_done <| ?_
       refine x_fin ⟨⟨_, rfl⟩, rfl, ?_⟩
       replace hS := St.bun (Φ := (fun (cs55 : List Value) => RepL (RpI .i64) q0v q10 cs55)) (L := (fun (cs55 : List Value) => [vec 3 (RpI .i64).sz (.slice A55 q10.length c55) q10.length cs55])) cs55 hr55 hS
       exact Eq.mp (by kernel_rfl) ((hS.pull 2).pull 2)
      ·intro Ep11 w l' hE11 hO11 hF_ hS
       refine p (yl_field0 fld_53_2 ((hE11 16 rfl).trans q2m)) <| x_done <| ?_
       refine x_fin ⟨⟨_, rfl⟩, rfl, ?_⟩
       exact Eq.mp (by kernel_rfl) hS
      ·intro Ep11 w l' hE11 hO11 hF_ hS
       obtain ⟨q30, q31, -⟩ := hF_
       replace q30 : Ep11 55 = .slice (adOf (Ep11 55)) q10.length (capOf (Ep11 55)) := Eq.mp (by kernel_rfl) q30
       replace q31 : Ep11 56 = .pointer (some ⟨b16, 2, none⟩) := Eq.mp (by kernel_rfl) q31
       replace hS : St w0 w (cells b16 53 [.int .i64 (-1), .int .u64 0, .slice q0m q0l.length c_b16_2_L10h] :: l') := Eq.mp (by kernel_rfl) hS
       refine o_store1 (v := .slice (adOf (Ep11 55)) q10.length (capOf (Ep11 55))) one_22 q31 q30 rfl rfl hS (fun w' hS => ?_)
       refine x_done <| ?_
       refine x_fin ⟨⟨undef, rfl⟩, trivial, ?_⟩
       exact Eq.mp (by kernel_rfl) hS
     intro Ep11 w' hE11 hF_ hS
     obtain ⟨q2s, q2y, q2v, q2t, q2u, q2w, q2x, q2z, q30, q31, -⟩ := hF_
     replace q2s : Ep11 47 = .pointer (some ⟨b16, 2, none⟩) := Eq.mp (by kernel_rfl) q2s
     replace q2y : Ep11 48 = .slice q0m q0l.length c_b16_2_L10h := Eq.mp (by kernel_rfl) q2y
     replace q2v : Ep11 49 = .func (.func 15) #[] #[.pointer (some ⟨b5, 0, none⟩)] := Eq.mp (by kernel_rfl) q2v
     replace q2t : Ep11 50 = .int .i64 x35 := Eq.mp (by kernel_rfl) q2t
     replace q2u : Ep11 51 = .int .i64 q16 := Eq.mp (by kernel_rfl) q2u
     replace q2w : Ep11 52 = .int .i64 x52 := Eq.mp (by kernel_rfl) q2w
     replace q2x : Ep11 53 = .int .i64 q1g.1 := Eq.mp (by kernel_rfl) q2x
     replace q2z : Ep11 54 = .slice (some ⟨(blkOf (Ep11 54)), 0, none⟩) 1 1 := Eq.mp (by kernel_rfl) q2z
     replace q30 : Ep11 55 = .slice (adOf (Ep11 55)) q10.length (capOf (Ep11 55)) := Eq.mp (by kernel_rfl) q30
     replace q31 : Ep11 56 = .pointer (some ⟨b16, 2, none⟩) := Eq.mp (by kernel_rfl) q31
     replace hS : St w0 w' (cells b5 23 [.pointer (some ⟨q7, 0, none⟩)] :: ro q0v :: cells q7 25 [.slice q0d s0.L.length c_s0_0, .int .i64 q1g.2] :: cells (blkOf (Ep11 54)) 3 [.int .i64 q1g.1] :: bunA (fun (cs55 : List Value) => RepL (RpI .i64) q0v q10 cs55) (fun (cs55 : List Value) => [vec 3 (RpI .i64).sz (.slice (adOf (Ep11 55)) q10.length (capOf (Ep11 55))) q10.length cs55]) :: cells b16 53 [.int .i64 (-1), .int .u64 0, .slice (adOf (Ep11 55)) q10.length (capOf (Ep11 55))] :: (cells b10 30 [.slice none 0 0, .slice none 0 0, .slice none 0 0, .slice none 0 0, .slice none 0 0] :: cells q0x 30 [.slice (adOf (Ep2 27)) x27.length (capOf (Ep2 27)), .slice (adOf (Ep2 30)) q5.1.length (capOf (Ep2 30)), .slice none 0 0, .slice q0b q9.length c_b_n12_L6h_3_L6h, .slice none 0 0] :: vec 9 RpS.sz (.slice (adOf (Ep2 30)) q5.1.length (capOf (Ep2 30))) q5.1.length q3 :: vec 53 R_api_Gate.sz (.slice q0b q9.length c_b_n12_L6h_3_L6h) q9.length q0k :: l)) := Eq.mp (by kernel_rfl) hS
     have q_ := St.unbun (hS.pull 4); obtain ⟨cs55, hr55, hS⟩ := q_
     replace hFL10 := ar_s hFL10; obtain ⟨x57, hx57, hFL10⟩ := hFL10
     refine x_blk <| x_region <| p (yadd ((hE11 45 rfl).trans q54) rfl hx57) <| p (yl_move rfl) <|
      x_done <| ?_
     have e_ := Option.some.inj (show some _ = some _ from hFL10); subst e_
     exact x_inv ⟨kL10, Nat.lt_succ_self _, (adOf (Ep11 55)), q10.length, (capOf (Ep11 55)), cs55, x57, q10, q1g.2, hLL10, ((hE11 1 rfl).trans q5f), ((hE11 2 rfl).trans q5g), ((hE11 3 rfl).trans q5h), ((hE11 4 rfl).trans q5i), ((hE11 5 rfl).trans q5j), ((hE11 10 rfl).trans q4x), ((hE11 11 rfl).trans q4y), ((hE11 12 rfl).trans q4z), ((hE11 13 rfl).trans q44), ((hE11 14 rfl).trans q45), ((hE11 15 rfl).trans q50), ((hE11 16 rfl).trans q2m), ((hE11 37 rfl).trans q51), ((hE11 38 rfl).trans q52), ((hE11 44 rfl).trans q53), rfl, hr55, ((((((((((hS.pull 4).drop.pull 2).pull 1).pull 8).pull 8).pull 5).pull 6).pull 8).pull 8).pull 8)⟩
    ·replace hFL10 := it_f hc46 hFL10
     refine x_exitTo _ rfl <| ?_
     have e_ := Option.some.inj (show some _ = some _ from hFL10); subst e_
     exact x_inv ⟨q0m, q0l.length, c_b16_2_L10h, q0z, q0l, q1b, hLL10, q5f, q5g, q5h, q5i, q5j, q4x, q4y, q4z, q44, q45, q2m, q51, q52, q1z, (((((((((hS.pull 8).pull 8).pull 8).pull 8).pull 8).pull 8).pull 8).pull 8).pull 8)⟩
   rintro E w ⟨q0g, q1t, c_b16_2_L10, q1p, q0f, q1q, rfl, q6s, q6t, q6u, q6v, q5x, q62, q63, q4n, q64, q65, q4o, q66, q67, q42, hS⟩
   have e_ := St.vec_n (hS.pull 7) q42; subst e_
   refine x_seq <| ?_
   replace hFL6 := bd_s hFL6; obtain ⟨q32, q6w, hFL6⟩ := hFL6
   replace hFL6 := ck_s hFL6; obtain ⟨q6x, hFL6⟩ := hFL6
   replace hFL6 := lv_s hFL6; obtain ⟨x63, hx63, hFL6⟩ := hFL6
   replace hFL6 := bd_s hFL6; obtain ⟨q5p, q6y, hFL6⟩ := hFL6
   replace hFL6 := lv_s hFL6; obtain ⟨x65, hx65, hFL6⟩ := hFL6
   refine x_par (w0 := w0) [⟨[], [], [58], [0], [], []⟩, ⟨[0], [0], [59], [2], [1], [3]⟩, ⟨[], [], [60], [], [], []⟩, ⟨[2], [2], [61], [4], [], []⟩, ⟨[2, 3], [3], [62], [], [], []⟩, ⟨[2, 3, 4], [4], [63], [], [], []⟩, ⟨[0, 1, 2, 3, 4, 5], [5], [64], [2], [], []⟩, ⟨[0, 1, 2, 3, 4, 5, 6], [1, 6], [65], [], [], []⟩, ⟨[0, 1, 2, 3, 4, 5, 6, 7], [], [66], [], [], []⟩, ⟨[0, 1, 2, 3, 4, 5, 6, 7, 8], [7, 8], [], [], [4], [5]⟩] [⟨none, none, []⟩, ⟨none, (some 1), []⟩, ⟨none, none, []⟩, ⟨(some 1), none, []⟩, ⟨none, (some 9), []⟩, ⟨(some 9), none, []⟩] [58, 59, 60, 61, 62, 63, 64, 65, 66] [0, 1, 2, 4] [0, 2, 3, 5] [0, 1, 2, 3, 4, 5, 6, 7, 8] [fun Ep13 => Ep13 58 = .pointer (some ⟨q7, 0, none⟩), fun Ep13 => Ep13 59 = .int .u64 q32.1, fun Ep13 => Ep13 60 = .pointer (some ⟨b16, 2, none⟩), fun Ep13 => Ep13 61 = .slice q0g q0f.length c_b16_2_L10, fun Ep13 => Ep13 62 = .int .i64 (q0f.length : Int), fun Ep13 => Ep13 63 = .int .i64 x63, fun Ep13 => Ep13 64 = .int .u64 q5p, fun Ep13 => Ep13 65 = .int .u64 x65, fun Ep13 => Ep13 66 = .pointer (some ⟨b16, 1, none⟩), fun Ep13 => True] [fun Ep13 => cells b5 23 [.pointer (some ⟨q7, 0, none⟩)], fun Ep13 => cells q7 25 [.slice q0d s0.L.length c_s0_0, .int .i64 q1q], fun Ep13 => ro q0v, fun Ep13 => cells q7 25 [.slice q0d s0.L.length c_s0_0, .int .i64 q32.2], fun Ep13 => cells b16 53 [.int .i64 (-1), .int .u64 0, .slice q0g q0f.length c_b16_2_L10], fun Ep13 => cells b16 53 [.int .i64 (-1), .int .u64 x65, .slice q0g q0f.length c_b16_2_L10]] mixed (by kernel_rfl) ((((hS.pull 3).pull 8).pull 5).pull 3) ?_ ?_
   ·refine ⟨?_, ?_, ?_, ?_, ?_, ?_, ?_, ?_, ?_, ?_, trivial⟩
    ·intro Ep13 w l' hE13 hO13 hF_ hS
     replace hS : St w0 w (cells b5 23 [.pointer (some ⟨q7, 0, none⟩)] :: l') := Eq.mp (by kernel_rfl) hS
     refine pa (at_load one_23 ((hE13 5 rfl).trans q5x) (hS.cell rfl)) <| x_done <| ?_
     refine x_fin ⟨⟨_, rfl⟩, rfl, ?_⟩
     exact Eq.mp (by kernel_rfl) hS
    ·intro Ep13 w l' hE13 hO13 hF_ hS
     obtain ⟨q33, -⟩ := hF_
     replace q33 : Ep13 58 = .pointer (some ⟨q7, 0, none⟩) := Eq.mp (by kernel_rfl) q33
     replace hS : St w0 w (ro q0v :: cells q7 25 [.slice q0d s0.L.length c_s0_0, .int .i64 q1q] :: l') := Eq.mp (by kernel_rfl) hS
     have hcall := c_maskmake_Stream_word q6w (q1i.le (q1a.trans q1y)) (hS.pull 1)
     refine o_cc call_17 (args1 q33) hcall ?_
     rintro e w' ⟨rfl, hS⟩
     refine ⟨_, rfl, ?_⟩
     refine x_done <| ?_
     refine x_fin ⟨⟨_, rfl⟩, rfl, ?_⟩
     exact Eq.mp (by kernel_rfl) (hS.pull 1)
    ·intro Ep13 w l' hE13 hO13 hF_ hS
     refine p (yl_field0 fld_53_2 ((hE13 16 rfl).trans q4o)) <| x_done <| ?_
     refine x_fin ⟨⟨_, rfl⟩, rfl, ?_⟩
     exact Eq.mp (by kernel_rfl) hS
    ·intro Ep13 w l' hE13 hO13 hF_ hS
     obtain ⟨q34, -⟩ := hF_
     replace q34 : Ep13 60 = .pointer (some ⟨b16, 2, none⟩) := Eq.mp (by kernel_rfl) q34
     replace hS : St w0 w (cells b16 53 [.int .i64 (-1), .int .u64 0, .slice q0g q0f.length c_b16_2_L10] :: l') := Eq.mp (by kernel_rfl) hS
     refine pa (at_load one_22 q34 (hS.cell rfl)) <| x_done <| ?_
     refine x_fin ⟨⟨_, rfl⟩, rfl, ?_⟩
     exact Eq.mp (by kernel_rfl) hS
    ·intro Ep13 w l' hE13 hO13 hF_ hS
     obtain ⟨q35, -⟩ := hF_
     replace q35 : Ep13 61 = .slice q0g q0f.length c_b16_2_L10 := Eq.mp (by kernel_rfl) q35
     refine p (yl_len_slice usl_22 q35) <| x_done <| ?_
     refine x_fin ⟨⟨_, rfl⟩, rfl, ?_⟩
     exact Eq.mp (by kernel_rfl) hS
    ·intro Ep13 w l' hE13 hO13 hF_ hS
     obtain ⟨q36, -⟩ := hF_
     replace q36 : Ep13 62 = .int .i64 (q0f.length : Int) := Eq.mp (by kernel_rfl) q36
     refine p (yshl rfl q36 q6x hx63) <| x_done <| ?_
     refine x_fin ⟨⟨_, rfl⟩, rfl, ?_⟩
     exact Eq.mp (by kernel_rfl) hS
    ·intro Ep13 w l' hE13 hO13 hF_ hS
     obtain ⟨q37, -⟩ := hF_
     replace q37 : Ep13 63 = .int .i64 x63 := Eq.mp (by kernel_rfl) q37
     replace hS : St w0 w (ro q0v :: l') := Eq.mp (by kernel_rfl) hS
     have hcall := c_maskmake_mask q6y  hS
     refine o_cc call_18 (args1 q37) (hcall) ?_
     rintro e w' ⟨rfl, hS⟩
     refine ⟨_, rfl, ?_⟩
     refine x_done <| ?_
     refine x_fin ⟨⟨_, rfl⟩, rfl, ?_⟩
     exact Eq.mp (by kernel_rfl) hS
    ·intro Ep13 w l' hE13 hO13 hF_ hS
     obtain ⟨q38, q39, -⟩ := hF_
     replace q38 : Ep13 59 = .int .u64 q32.1 := Eq.mp (by kernel_rfl) q38
     replace q39 : Ep13 64 = .int .u64 q5p := Eq.mp (by kernel_rfl) q39
     refine p (yand q38 q39 hx65) <| x_done <| ?_
     refine x_fin ⟨⟨_, rfl⟩, rfl, ?_⟩
     exact Eq.mp (by kernel_rfl) hS
    ·intro Ep13 w l' hE13 hO13 hF_ hS
     refine p (yl_field0 fld_53_1 ((hE13 16 rfl).trans q4o)) <| x_done <| ?_
     refine x_fin ⟨⟨_, rfl⟩, rfl, ?_⟩
     exact Eq.mp (by kernel_rfl) hS
    ·intro Ep13 w l' hE13 hO13 hF_ hS
     obtain ⟨q3a, q3b, -⟩ := hF_
     replace q3a : Ep13 65 = .int .u64 x65 := Eq.mp (by kernel_rfl) q3a
     replace q3b : Ep13 66 = .pointer (some ⟨b16, 1, none⟩) := Eq.mp (by kernel_rfl) q3b
     replace hS : St w0 w (cells b16 53 [.int .i64 (-1), .int .u64 0, .slice q0g q0f.length c_b16_2_L10] :: l') := Eq.mp (by kernel_rfl) hS
     refine o_store1 (v := .int .u64 x65) one_51 q3b q3a rfl rfl hS (fun w' hS => ?_)
     refine x_done <| ?_
     refine x_fin ⟨⟨undef, rfl⟩, trivial, ?_⟩
     exact Eq.mp (by kernel_rfl) hS
   intro Ep13 w' hE13 hF_ hS
   obtain ⟨q33, q38, q34, q35, q36, q37, q39, q3a, q3b, -⟩ := hF_
   replace q33 : Ep13 58 = .pointer (some ⟨q7, 0, none⟩) := Eq.mp (by kernel_rfl) q33
   replace q38 : Ep13 59 = .int .u64 q32.1 := Eq.mp (by kernel_rfl) q38
   replace q34 : Ep13 60 = .pointer (some ⟨b16, 2, none⟩) := Eq.mp (by kernel_rfl) q34
   replace q35 : Ep13 61 = .slice q0g q0f.length c_b16_2_L10 := Eq.mp (by kernel_rfl) q35
   replace q36 : Ep13 62 = .int .i64 (q0f.length : Int) := Eq.mp (by kernel_rfl) q36
   replace q37 : Ep13 63 = .int .i64 x63 := Eq.mp (by kernel_rfl) q37
   replace q39 : Ep13 64 = .int .u64 q5p := Eq.mp (by kernel_rfl) q39
   replace q3a : Ep13 65 = .int .u64 x65 := Eq.mp (by kernel_rfl) q3a
   replace q3b : Ep13 66 = .pointer (some ⟨b16, 1, none⟩) := Eq.mp (by kernel_rfl) q3b
   replace hS : St w0 w' (cells b5 23 [.pointer (some ⟨q7, 0, none⟩)] :: ro q0v :: cells q7 25 [.slice q0d s0.L.length c_s0_0, .int .i64 q32.2] :: cells b16 53 [.int .i64 (-1), .int .u64 x65, .slice q0g q0f.length c_b16_2_L10] :: (cells b10 30 [.slice none 0 0, .slice none 0 0, .slice none 0 0, .slice none 0 0, .slice none 0 0] :: cells q0x 30 [.slice (adOf (Ep2 27)) x27.length (capOf (Ep2 27)), .slice (adOf (Ep2 30)) q5.1.length (capOf (Ep2 30)), .slice none 0 0, .slice q0b q9.length c_b_n12_L6h_3_L6h, .slice none 0 0] :: vec 9 RpS.sz (.slice (adOf (Ep2 30)) q5.1.length (capOf (Ep2 30))) q5.1.length q3 :: vec 53 R_api_Gate.sz (.slice q0b q9.length c_b_n12_L6h_3_L6h) q9.length q0k :: vec 3 (RpI .i64).sz (.slice q0g q0f.length c_b16_2_L10) q0f.length q1p :: l)) := Eq.mp (by kernel_rfl) hS
   refine x_region <| p (yl_field0 fld_30_3 ((hE13 12 rfl).trans q4n)) <| pa (at_load one_28 rfl ((hS.pull 5).cell rfl)) <| pa (v := .agg #[.int .i64 (-1), .int .u64 x65, .slice q0g q0f.length c_b16_2_L10]) (ld_sub agg_53 ((hE13 16 rfl).trans q4o) rfl rfl (hS.pull 3)) <| ?_
   have q_ := St.vec_fz ((hS.pull 1).pull 8) q42; obtain ⟨q5y, q55, q6z, hS⟩ := q_
   refine o_buildSlice (vs := [.agg #[.int .i64 (-1), .int .u64 x65, .slice q0g q0f.length c_b16_2_L10]]) (cs := [.int .i64 (-1), .int .u64 x65, .slice q0g q0f.length c_b16_2_L10]) sl_28 zero_53 (parts_eq (pt (va := .agg #[.int .i64 (-1), .int .u64 x65, .slice q0g q0f.length c_b16_2_L10]) rfl pt0)) rfl (by intro v hv; simp only [List.mem_cons, List.not_mem_nil, or_false] at hv; first | (subst hv; rfl) | (rcases hv with rfl <;> rfl)) (by decide) rfl hS (fun b70 w' hS => ?_)
   replace hFL6 := lv_s hFL6; obtain ⟨q5q, q70, hFL6⟩ := hFL6
   replace hFL6 := ck_s hFL6; obtain ⟨q71, hFL6⟩ := hFL6
   refine o_ap sl_28 zero_53 rfl (by decide) rfl rfl (hS.pull 8) (q1k.le q55) (src_blk usl_28 hS rfl rfl) (RepL.cons (R := R_api_Gate) (ρ := q5y) (x := (T_api_Gate.mk (-1) x65 q0f)) (cs := [.int .i64 (-1), .int .u64 x65, .slice q0g q0f.length c_b16_2_L10]) ⟨_, _, _, rfl, q6z⟩ RepL.nil) q70 q71 (fun A71 c71 cs71 w' hr71 hS => ?_)
   refine p (yl_field0 fld_30_3 ((hE13 12 rfl).trans q4n)) <| ?_
   refine o_store1 (v := .slice A71 q5q.length c71) one_28 rfl rfl rfl rfl (hS.pull 7) (fun w' hS => ?_)
   replace hFL6 := ar_s hFL6; obtain ⟨x73, hx73, hFL6⟩ := hFL6
   refine x_done <| x_blk <| x_region <| p (yadd ((hE13 38 rfl).trans q67) rfl hx73) <|
    p (yl_move rfl) <| x_done <| ?_
   have e_ := Option.some.inj (show some _ = some _ from hFL6); subst e_
   exact x_inv ⟨kL6, Nat.lt_succ_self _, q5y, q0x, A71, q5q.length, c71, cs71, x73, q5q, q32.2, hLL6, (q1y.trans q55), ((hE13 1 rfl).trans q6s), ((hE13 2 rfl).trans q6t), ((hE13 3 rfl).trans q6u), ((hE13 4 rfl).trans q6v), ((hE13 5 rfl).trans q5x), ((hE13 10 rfl).trans q62), ((hE13 11 rfl).trans q63), ((hE13 12 rfl).trans q4n), ((hE13 13 rfl).trans q64), ((hE13 14 rfl).trans q65), ((hE13 37 rfl).trans q66), rfl, hr71, (((((((((hS.pull 2).drop.pull 5).drop.pull 2).pull 2).pull 6).pull 5).pull 4).pull 6).pull 6)⟩
  ·replace hFL6 := it_f hc39 hFL6
   refine x_exitTo _ rfl <| ?_
   have e_ := Option.some.inj (show some _ = some _ from hFL6); subst e_
   exact x_inv ⟨q0v, q0x, q0b, q9.length, c_b_n12_L6h_3_L6h, q0k, q9, q1v, hLL6, q1y, q5t, q5u, q5v, q5w, q4w, q59, q5a, q5b, q5c, q5d, q1k, (((((((hS.pull 6).pull 6).pull 6).pull 6).pull 6).pull 6).pull 6)⟩
 rintro E w ⟨q0r, q0e, q4, q1f, c_b_n12_L6_3_L6, q0i, q2, q24, rfl, q1c, q7o, q7p, q7q, q7r, q7s, q72, q73, q74, q75, q76, q25, hS⟩
 have e_ := St.vec_n (hS.pull 5) q25; subst e_
 refine x_seq <| x_seq <| x_region <| p (yl_move q7p) <|
  p (yl_move rfl) <| x_done <| ?_
 replace hF := bd_s hF; obtain ⟨oL17, hLL17, hF⟩ := hF
 refine x_join (fun E w => ∃ (q8 : Option Addr) (q18 : Nat) (c_b_n12_L6_2_L17 : Nat) (q0q : List Value) (q6 : List T_api_Flop) (q1w : Int), (q6, q1w) = oL17 ∧ E 3 = .int .i64 gates3 ∧ E 4 = .int .i64 outs4 ∧ E 10 = .pointer (some ⟨b10, 0, none⟩) ∧ E 12 = .pointer (some ⟨q0e, 0, none⟩) ∧ E 13 = .int .i64 x35 ∧ E 14 = .func (.func 15) #[] #[.pointer (some ⟨b5, 0, none⟩)] ∧ RepL R_api_Flop q0r q6 q0q ∧ St w0 w (cells b10 30 [.slice none 0 0, .slice none 0 0, .slice none 0 0, .slice none 0 0, .slice none 0 0] :: cells q0e 30 [.slice (adOf (Ep2 27)) x27.length (capOf (Ep2 27)), .slice (adOf (Ep2 30)) q5.1.length (capOf (Ep2 30)), .slice q8 q18 c_b_n12_L6_2_L17, .slice q4 q2.length c_b_n12_L6_3_L6, .slice none 0 0] :: cells b5 23 [.pointer (some ⟨q7, 0, none⟩)] :: cells q7 25 [.slice q0d s0.L.length c_s0_0, .int .i64 q1w] :: vec 9 RpS.sz (.slice (adOf (Ep2 30)) q5.1.length (capOf (Ep2 30))) q5.1.length q3 :: vec 58 R_api_Flop.sz (.slice q8 q18 c_b_n12_L6_2_L17) q18 q0q :: vec 53 R_api_Gate.sz (.slice q4 q2.length c_b_n12_L6_3_L6) q2.length q0i :: ro q0r :: l)) ?_ ?_
 ·refine x_block ?_
  replace hS := St.vec_nil hS 58 R_api_Flop.sz
  have q28 : RepL R_api_Flop q0r [] [] := rfl
  refine x_loop (fun k_ E w => ∃ (q0n : Option Addr) (q13 : Nat) (c_b_n12_L6_2_L17h : Nat) (q0s : List Value) (q1j : Int) (q0j : List T_api_Flop) (q1d : Int), lp (P_maskmake_Stream_Netlist_L17 s0 ins1 flops2 gates3 q1n x35) k_ (q1j, q0j, q1d) = some oL17 ∧ E 1 = .int .i64 ins1 ∧ E 3 = .int .i64 gates3 ∧ E 4 = .int .i64 outs4 ∧ E 5 = .pointer (some ⟨b5, 0, none⟩) ∧ E 10 = .pointer (some ⟨b10, 0, none⟩) ∧ E 11 = .slice q0h q1n.1.length c_y0_ret_1_4 ∧ E 12 = .pointer (some ⟨q0e, 0, none⟩) ∧ E 13 = .int .i64 x35 ∧ E 14 = .func (.func 15) #[] #[.pointer (some ⟨b5, 0, none⟩)] ∧ E 74 = .int .i64 flops2 ∧ E 75 = .int .i64 q1j ∧ RepL R_api_Flop q0r q0j q0s ∧ St w0 w (cells b5 23 [.pointer (some ⟨q7, 0, none⟩)] :: cells b10 30 [.slice none 0 0, .slice none 0 0, .slice none 0 0, .slice none 0 0, .slice none 0 0] :: cells q0e 30 [.slice (adOf (Ep2 27)) x27.length (capOf (Ep2 27)), .slice (adOf (Ep2 30)) q5.1.length (capOf (Ep2 30)), .slice q0n q13 c_b_n12_L6_2_L17h, .slice q4 q2.length c_b_n12_L6_3_L6, .slice none 0 0] :: cells q7 25 [.slice q0d s0.L.length c_s0_0, .int .i64 q1d] :: vec 9 RpS.sz (.slice (adOf (Ep2 30)) q5.1.length (capOf (Ep2 30))) q5.1.length q3 :: vec 58 R_api_Flop.sz (.slice q0n q13 c_b_n12_L6_2_L17h) q13 q0s :: vec 53 R_api_Gate.sz (.slice q4 q2.length c_b_n12_L6_3_L6) q2.length q0i :: ro q0r :: l)) fuel ⟨none, 0, 0, [], 0, [], q24, hLL17, q7o, q7q, q7r, q7s, q72, q73, q74, q75, q76, rfl, rfl, q28, ((((((((hS.pull 7).pull 7).pull 2).pull 7).pull 7).pull 7).pull 7).pull 7)⟩ ?_
  rintro kL17 E w ⟨q0n, q13, c_b_n12_L6_2_L17h, q0s, q1j, q0j, q1d, hLL17, q4p, q2a, q4q, q3c, q46, q47, q48, q20, q21, q49, q2n, q1l, hS⟩
  have e_ := St.vec_n (hS.pull 5) q1l; subst e_
  replace hLL17 := lp_s hLL17; obtain ⟨kL17, obL17, rfl, hFL17, hLL17⟩ := hLL17
  refine x_seq <| x_region <| p (yl_lss q2n q49) <| x_done <|
   x_seq <|
   x_cond_p (q1j < flops2) rfl (fun hc76 => ?_) (fun hc76 => ?_)
  ·replace hFL17 := it_t hc76 hFL17
   refine x_skip <| x_seq <| x_block <| x_seq <|
    x_region <| p (yl_move q2n) <| p (yl_assign rfl) <| x_done <|
    x_seq <| ?_
   replace hFL17 := ar_s hFL17; obtain ⟨x81, hx81, hFL17⟩ := hFL17
   replace hFL17 := ck_s hFL17; obtain ⟨q5z, hFL17⟩ := hFL17
   replace hFL17 := lv_s hFL17; obtain ⟨x83, hx83, hFL17⟩ := hFL17
   replace hFL17 := ar_s hFL17; obtain ⟨x87, hx87, hFL17⟩ := hFL17
   replace hFL17 := bd_s hFL17; obtain ⟨q0t, q68, hFL17⟩ := hFL17
   replace hFL17 := bd_s hFL17; obtain ⟨q0p, q69, hFL17⟩ := hFL17
   refine x_par (w0 := w0) [⟨[], [], [78], [], [], []⟩, ⟨[], [], [79], [], [], []⟩, ⟨[], [], [80], [], [], []⟩, ⟨[1, 2], [1, 2], [81], [], [], []⟩, ⟨[0, 1, 2, 3], [0, 3], [82], [0], [], []⟩, ⟨[0, 1, 2, 3, 4], [4], [83], [0], [], []⟩, ⟨[], [], [84], [], [], []⟩, ⟨[], [], [85], [], [], []⟩, ⟨[], [], [86], [], [], []⟩, ⟨[7, 8], [7, 8], [87], [], [], []⟩, ⟨[6, 7, 8, 9], [6, 9], [88], [1, 0], [2], [3]⟩, ⟨[], [], [89], [1], [], []⟩, ⟨[6, 7, 8, 9, 10, 11], [11], [90], [0], [3], [4]⟩, ⟨[6, 7, 8, 9, 10, 11, 12], [12], [91], [], [], []⟩, ⟨[0, 1, 2, 3, 4, 5, 6, 7, 8, 9, 10, 11, 12, 13], [5, 10, 13], [92], [], [], []⟩, ⟨[], [], [18], [], [], [5]⟩, ⟨[0, 1, 2, 3, 4, 5, 6, 7, 8, 9, 10, 11, 12, 13, 14, 15], [14, 15], [], [], [5], [6]⟩] [⟨none, none, []⟩, ⟨none, none, []⟩, ⟨none, (some 10), []⟩, ⟨(some 10), (some 12), []⟩, ⟨(some 12), none, []⟩, ⟨(some 15), (some 16), [18]⟩, ⟨(some 16), none, [18]⟩] [18, 78, 79, 80, 81, 82, 83, 84, 85, 86, 87, 88, 89, 90, 91, 92] [0, 1, 2] [0, 1, 4, 6] [0, 1, 2, 3, 4, 5, 6, 7, 8, 9, 10, 11, 12, 13, 14, 15] [fun Ep19 => Ep19 78 = .slice q0h q1n.1.length c_y0_ret_1_4, fun Ep19 => Ep19 79 = .int .i64 ins1, fun Ep19 => Ep19 80 = .int .i64 q1j, fun Ep19 => Ep19 81 = .int .i64 x81, fun Ep19 => Ep19 82 = .pointer (some ((adr q0h).add (x81.toNat * RpS.sz))), fun Ep19 => Ep19 83 = .string x83, fun Ep19 => Ep19 84 = .func (.func 15) #[] #[.pointer (some ⟨b5, 0, none⟩)], fun Ep19 => Ep19 85 = .int .i64 x35, fun Ep19 => Ep19 86 = .int .i64 gates3, fun Ep19 => Ep19 87 = .int .i64 x87, fun Ep19 => Ep19 88 = .int .i64 q0t.1, fun Ep19 => Ep19 89 = .pointer (some ⟨q7, 0, none⟩), fun Ep19 => Ep19 90 = .int .i64 q0p.1, fun Ep19 => Ep19 91 = .bool (decide (q0p.1 = 0)), fun Ep19 => Ep19 92 = .agg #[.string x83, .int .i64 (-1), .int .i64 q0t.1, .int .i64 1, .bool (decide (q0p.1 = 0))], fun Ep19 => Ep19 18 = .pointer (some ⟨(blkOf (Ep19 18)), 0, none⟩), fun Ep19 => True] [fun Ep19 => ro q0r, fun Ep19 => cells b5 23 [.pointer (some ⟨q7, 0, none⟩)], fun Ep19 => cells q7 25 [.slice q0d s0.L.length c_s0_0, .int .i64 q1d], fun Ep19 => cells q7 25 [.slice q0d s0.L.length c_s0_0, .int .i64 q0t.2], fun Ep19 => cells q7 25 [.slice q0d s0.L.length c_s0_0, .int .i64 q0p.2], fun Ep19 => cells (blkOf (Ep19 18)) 58 [.string (⟨#[]⟩ : ByteArray), .int .i64 0, .int .i64 0, .int .i64 0, .bool false], fun Ep19 => cells (blkOf (Ep19 18)) 58 [.string x83, .int .i64 (-1), .int .i64 q0t.1, .int .i64 1, .bool (decide (q0p.1 = 0))]] mixed (by kernel_rfl) (((hS.pull 3).pull 1).pull 7) ?_ ?_
   ·refine ⟨?_, ?_, ?_, ?_, ?_, ?_, ?_, ?_, ?_, ?_, ?_, ?_, ?_, ?_, ?_, ?_, ?_, trivial⟩
    ·intro Ep19 w l' hE19 hO19 hF_ hS
     refine p (yl_move ((hE19 11 rfl).trans q47)) <| x_done <| ?_
     refine x_fin ⟨⟨_, rfl⟩, rfl, ?_⟩
     exact Eq.mp (by kernel_rfl) hS
    ·intro Ep19 w l' hE19 hO19 hF_ hS
     refine p (yl_move ((hE19 1 rfl).trans q4p)) <| x_done <| ?_
     refine x_fin ⟨⟨_, rfl⟩, rfl, ?_⟩
     exact Eq.mp (by kernel_rfl) hS
    ·intro Ep19 w l' hE19 hO19 hF_ hS
     refine p (yl_move (hE19 17 rfl)) <| x_done <| ?_
     refine x_fin ⟨⟨_, rfl⟩, rfl, ?_⟩
     exact Eq.mp (by kernel_rfl) hS
    ·intro Ep19 w l' hE19 hO19 hF_ hS
     obtain ⟨q3d, q3e, -⟩ := hF_
     replace q3d : Ep19 79 = .int .i64 ins1 := Eq.mp (by kernel_rfl) q3d
     replace q3e : Ep19 80 = .int .i64 q1j := Eq.mp (by kernel_rfl) q3e
     refine p (yadd q3d q3e hx81) <| x_done <| ?_
     refine x_fin ⟨⟨_, rfl⟩, rfl, ?_⟩
     exact Eq.mp (by kernel_rfl) hS
    ·intro Ep19 w l' hE19 hO19 hF_ hS
     obtain ⟨q3f, q3g, -⟩ := hF_
     replace q3f : Ep19 78 = .slice q0h q1n.1.length c_y0_ret_1_4 := Eq.mp (by kernel_rfl) q3f
     replace q3g : Ep19 81 = .int .i64 x81 := Eq.mp (by kernel_rfl) q3g
     replace hS : St w0 w (ro q0r :: l') := Eq.mp (by kernel_rfl) hS
     refine p (yix_f sl_26 q3f q3g (q5m.le q1c) q5z) <| x_done <| ?_
     refine x_fin ⟨⟨_, rfl⟩, rfl, ?_⟩
     exact Eq.mp (by kernel_rfl) hS
    ·intro Ep19 w l' hE19 hO19 hF_ hS
     obtain ⟨q3h, -⟩ := hF_
     replace q3h : Ep19 82 = .pointer (some ((adr q0h).add (x81.toNat * RpS.sz))) := Eq.mp (by kernel_rfl) q3h
     replace hS : St w0 w (ro q0r :: l') := Eq.mp (by kernel_rfl) hS
     refine pa (at_load one_9 q3h (RdS.getW (q5m.le q1c) hS q5z hx83)) <| x_done <| ?_
     refine x_fin ⟨⟨_, rfl⟩, rfl, ?_⟩
     exact Eq.mp (by kernel_rfl) hS
    ·intro Ep19 w l' hE19 hO19 hF_ hS
     refine p (yl_move ((hE19 14 rfl).trans q21)) <| x_done <| ?_
     refine x_fin ⟨⟨_, rfl⟩, rfl, ?_⟩
     exact Eq.mp (by kernel_rfl) hS
    ·intro Ep19 w l' hE19 hO19 hF_ hS
     refine p (yl_move ((hE19 13 rfl).trans q20)) <| x_done <| ?_
     refine x_fin ⟨⟨_, rfl⟩, rfl, ?_⟩
     exact Eq.mp (by kernel_rfl) hS
    ·intro Ep19 w l' hE19 hO19 hF_ hS
     refine p (yl_move ((hE19 3 rfl).trans q2a)) <| x_done <| ?_
     refine x_fin ⟨⟨_, rfl⟩, rfl, ?_⟩
     exact Eq.mp (by kernel_rfl) hS
    ·intro Ep19 w l' hE19 hO19 hF_ hS
     obtain ⟨q3i, q3j, -⟩ := hF_
     replace q3i : Ep19 85 = .int .i64 x35 := Eq.mp (by kernel_rfl) q3i
     replace q3j : Ep19 86 = .int .i64 gates3 := Eq.mp (by kernel_rfl) q3j
     refine p (yadd q3i q3j hx87) <| x_done <| ?_
     refine x_fin ⟨⟨_, rfl⟩, rfl, ?_⟩
     exact Eq.mp (by kernel_rfl) hS
    ·intro Ep19 w l' hE19 hO19 hF_ hS
     obtain ⟨q3k, q3l, -⟩ := hF_
     replace q3k : Ep19 84 = .func (.func 15) #[] #[.pointer (some ⟨b5, 0, none⟩)] := Eq.mp (by kernel_rfl) q3k
     replace q3l : Ep19 87 = .int .i64 x87 := Eq.mp (by kernel_rfl) q3l
     replace hS : St w0 w (cells b5 23 [.pointer (some ⟨q7, 0, none⟩)] :: ro q0r :: cells q7 25 [.slice q0d s0.L.length c_s0_0, .int .i64 q1d] :: l') := Eq.mp (by kernel_rfl) hS
     have hcall := c_maskmake_Stream_Netlist_1 q68 (q1i.le (q1a.trans q1c)) (((hS.pull 1).pull 2).pull 2)
     refine o_ccv q3k call_15 (capargs (args1 q3l)) hcall ?_
     rintro e w' ⟨rfl, hS⟩
     refine ⟨_, rfl, ?_⟩
     refine x_done <| ?_
     refine x_fin ⟨⟨_, rfl⟩, rfl, ?_⟩
     exact Eq.mp (by kernel_rfl) ((hS.pull 2).pull 2)
    ·intro Ep19 w l' hE19 hO19 hF_ hS
     replace hS : St w0 w (cells b5 23 [.pointer (some ⟨q7, 0, none⟩)] :: l') := Eq.mp (by kernel_rfl) hS
     refine pa (at_load one_23 ((hE19 5 rfl).trans q3c) (hS.cell rfl)) <| x_done <| ?_
     refine x_fin ⟨⟨_, rfl⟩, rfl, ?_⟩
     exact Eq.mp (by kernel_rfl) hS
    ·intro Ep19 w l' hE19 hO19 hF_ hS
     obtain ⟨q2b, -⟩ := hF_
     replace q2b : Ep19 89 = .pointer (some ⟨q7, 0, none⟩) := Eq.mp (by kernel_rfl) q2b
     replace hS : St w0 w (ro q0r :: cells q7 25 [.slice q0d s0.L.length c_s0_0, .int .i64 q0t.2] :: l') := Eq.mp (by kernel_rfl) hS
     have hcall := c_maskmake_Stream_Next q69 (q1i.le (q1a.trans q1c)) (hS.pull 1)
     refine o_cc call_6 (args2 q2b rfl) hcall ?_
     rintro e w' ⟨rfl, hS⟩
     refine ⟨_, rfl, ?_⟩
     refine x_done <| ?_
     refine x_fin ⟨⟨_, rfl⟩, rfl, ?_⟩
     exact Eq.mp (by kernel_rfl) (hS.pull 1)
    ·intro Ep19 w l' hE19 hO19 hF_ hS
     obtain ⟨q2c, -⟩ := hF_
     replace q2c : Ep19 90 = .int .i64 q0p.1 := Eq.mp (by kernel_rfl) q2c
     refine p (yl_eql q2c rfl) <| x_done <| ?_
     refine x_fin ⟨⟨_, rfl⟩, rfl, ?_⟩
     exact Eq.mp (by kernel_rfl) hS
    ·intro Ep19 w l' hE19 hO19 hF_ hS
     obtain ⟨q3m, q2d, q2e, -⟩ := hF_
     replace q3m : Ep19 83 = .string x83 := Eq.mp (by kernel_rfl) q3m
     replace q2d : Ep19 88 = .int .i64 q0t.1 := Eq.mp (by kernel_rfl) q2d
     replace q2e : Ep19 91 = .bool (decide (q0p.1 = 0)) := Eq.mp (by kernel_rfl) q2e
     refine p (v := .agg #[.string x83, .int .i64 (-1), .int .i64 q0t.1, .int .i64 1, .bool (decide (q0p.1 = 0))]) (yl_build bld_58 bldf_58 (parts_eq (pt (va := .string x83) q3m (pt (va := .int .i64 (-1)) rfl (pt (va := .int .i64 q0t.1) q2d (pt (va := .int .i64 1) rfl (pt (va := .bool (decide (q0p.1 = 0))) q2e pt0)))))) (by kernel_rfl)) <| x_done <| ?_
     refine x_fin ⟨⟨_, rfl⟩, rfl, ?_⟩
     exact Eq.mp (by kernel_rfl) hS
    ·intro Ep19 w l' hE19 hO19 hF_ hS
     refine o_alloc zero_58 hS (fun b18 w' hS => ?_)
     refine x_done <| ?_
     refine x_fin ⟨⟨_, rfl⟩, rfl, ?_⟩
     exact Eq.mp (by kernel_rfl) hS
    ·intro Ep19 w l' hE19 hO19 hF_ hS
     obtain ⟨q2f, q1s, -⟩ := hF_
     replace q2f : Ep19 92 = .agg #[.string x83, .int .i64 (-1), .int .i64 q0t.1, .int .i64 1, .bool (decide (q0p.1 = 0))] := Eq.mp (by kernel_rfl) q2f
     replace q1s : Ep19 18 = .pointer (some ⟨(blkOf (Ep19 18)), 0, none⟩) := Eq.mp (by kernel_rfl) q1s
     replace hS : St w0 w (cells (blkOf (Ep19 18)) 58 [.string (⟨#[]⟩ : ByteArray), .int .i64 0, .int .i64 0, .int .i64 0, .bool false] :: l') := Eq.mp (by kernel_rfl) hS
     refine o_storeAgg (news := [.string x83, .int .i64 (-1), .int .i64 q0t.1, .int .i64 1, .bool (decide (q0p.1 = 0))]) agg_58 q1s q2f rfl (by simp [over_length]) hS (fun w' hS => ?_)
     refine x_done <| ?_
     refine x_fin ⟨⟨undef, rfl⟩, trivial, ?_⟩
     exact Eq.mp (by kernel_rfl) hS
   intro Ep19 w' hE19 hF_ hS
   obtain ⟨q3f, q3d, q3e, q3g, q3h, q3m, q3k, q3i, q3j, q3l, q2d, q2b, q2c, q2e, q2f, q1s, -⟩ := hF_
   replace q3f : Ep19 78 = .slice q0h q1n.1.length c_y0_ret_1_4 := Eq.mp (by kernel_rfl) q3f
   replace q3d : Ep19 79 = .int .i64 ins1 := Eq.mp (by kernel_rfl) q3d
   replace q3e : Ep19 80 = .int .i64 q1j := Eq.mp (by kernel_rfl) q3e
   replace q3g : Ep19 81 = .int .i64 x81 := Eq.mp (by kernel_rfl) q3g
   replace q3h : Ep19 82 = .pointer (some ((adr q0h).add (x81.toNat * RpS.sz))) := Eq.mp (by kernel_rfl) q3h
   replace q3m : Ep19 83 = .string x83 := Eq.mp (by kernel_rfl) q3m
   replace q3k : Ep19 84 = .func (.func 15) #[] #[.pointer (some ⟨b5, 0, none⟩)] := Eq.mp (by kernel_rfl) q3k
   replace q3i : Ep19 85 = .int .i64 x35 := Eq.mp (by kernel_rfl) q3i
   replace q3j : Ep19 86 = .int .i64 gates3 := Eq.mp (by kernel_rfl) q3j
   replace q3l : Ep19 87 = .int .i64 x87 := Eq.mp (by kernel_rfl) q3l
   replace q2d : Ep19 88 = .int .i64 q0t.1 := Eq.mp (by kernel_rfl) q2d
   replace q2b : Ep19 89 = .pointer (some ⟨q7, 0, none⟩) := Eq.mp (by kernel_rfl) q2b
   replace q2c : Ep19 90 = .int .i64 q0p.1 := Eq.mp (by kernel_rfl) q2c
   replace q2e : Ep19 91 = .bool (decide (q0p.1 = 0)) := Eq.mp (by kernel_rfl) q2e
   replace q2f : Ep19 92 = .agg #[.string x83, .int .i64 (-1), .int .i64 q0t.1, .int .i64 1, .bool (decide (q0p.1 = 0))] := Eq.mp (by kernel_rfl) q2f
   replace q1s : Ep19 18 = .pointer (some ⟨(blkOf (Ep19 18)), 0, none⟩) := Eq.mp (by kernel_rfl) q1s
   replace hS : St w0 w' (ro q0r :: cells b5 23 [.pointer (some ⟨q7, 0, none⟩)] :: cells q7 25 [.slice q0d s0.L.length c_s0_0, .int .i64 q0p.2] :: cells (blkOf (Ep19 18)) 58 [.string x83, .int .i64 (-1), .int .i64 q0t.1, .int .i64 1, .bool (decide (q0p.1 = 0))] :: (cells b10 30 [.slice none 0 0, .slice none 0 0, .slice none 0 0, .slice none 0 0, .slice none 0 0] :: cells q0e 30 [.slice (adOf (Ep2 27)) x27.length (capOf (Ep2 27)), .slice (adOf (Ep2 30)) q5.1.length (capOf (Ep2 30)), .slice q0n q0j.length c_b_n12_L6_2_L17h, .slice q4 q2.length c_b_n12_L6_3_L6, .slice none 0 0] :: vec 9 RpS.sz (.slice (adOf (Ep2 30)) q5.1.length (capOf (Ep2 30))) q5.1.length q3 :: vec 58 R_api_Flop.sz (.slice q0n q0j.length c_b_n12_L6_2_L17h) q0j.length q0s :: vec 53 R_api_Gate.sz (.slice q4 q2.length c_b_n12_L6_3_L6) q2.length q0i :: l)) := Eq.mp (by kernel_rfl) hS
   replace hFL17 := bd_s hFL17; obtain ⟨q61, q77, hFL17⟩ := hFL17
   refine x_seq <| x_seq <| x_region <| pa (at_load one_23 ((hE19 5 rfl).trans q3c) ((hS.pull 1).cell rfl)) <| ?_
   have hcall := c_maskmake_Stream_Next q77 (q1i.le (q1a.trans q1c)) (hS.pull 2)
   refine o_cc call_6 (args2 rfl rfl) hcall ?_
   rintro e w' ⟨rfl, hS⟩
   refine ⟨_, rfl, ?_⟩
   refine p (yl_eql rfl rfl) <| x_done <| ?_
   replace hFL17 := bd_s hFL17; obtain ⟨oc95, hFc95, hFL17⟩ := hFL17
   refine x_join (fun E w => ∃ (q2r : Nat) (q0o : Int) (q1x : Int), (q0o, q1x) = oc95 ∧ E 1 = .int .i64 ins1 ∧ E 3 = .int .i64 gates3 ∧ E 4 = .int .i64 outs4 ∧ E 5 = .pointer (some ⟨b5, 0, none⟩) ∧ E 10 = .pointer (some ⟨b10, 0, none⟩) ∧ E 11 = .slice q0h q1n.1.length c_y0_ret_1_4 ∧ E 12 = .pointer (some ⟨q0e, 0, none⟩) ∧ E 13 = .int .i64 x35 ∧ E 14 = .func (.func 15) #[] #[.pointer (some ⟨b5, 0, none⟩)] ∧ E 18 = .pointer (some ⟨q2r, 0, none⟩) ∧ E 74 = .int .i64 flops2 ∧ E 75 = .int .i64 q1j ∧ St w0 w (cells b5 23 [.pointer (some ⟨q7, 0, none⟩)] :: cells b10 30 [.slice none 0 0, .slice none 0 0, .slice none 0 0, .slice none 0 0, .slice none 0 0] :: cells q0e 30 [.slice (adOf (Ep2 27)) x27.length (capOf (Ep2 27)), .slice (adOf (Ep2 30)) q5.1.length (capOf (Ep2 30)), .slice q0n q0j.length c_b_n12_L6_2_L17h, .slice q4 q2.length c_b_n12_L6_3_L6, .slice none 0 0] :: cells q2r 58 [.string x83, .int .i64 (-1), .int .i64 q0t.1, .int .i64 q0o, .bool (decide (q0p.1 = 0))] :: cells q7 25 [.slice q0d s0.L.length c_s0_0, .int .i64 q1x] :: vec 9 RpS.sz (.slice (adOf (Ep2 30)) q5.1.length (capOf (Ep2 30))) q5.1.length q3 :: vec 58 R_api_Flop.sz (.slice q0n q0j.length c_b_n12_L6_2_L17h) q0j.length q0s :: vec 53 R_api_Gate.sz (.slice q4 q2.length c_b_n12_L6_3_L6) q2.length q0i :: ro q0r :: l)) ?_ ?_
   ·refine x_cond_p (q61.1 = 0) rfl (fun hc95 => ?_) (fun hc95 => ?_)
    ·replace hFc95 := it_t hc95 hFc95
     replace hFc95 := ar_s hFc95; obtain ⟨x99, hx99, hFc95⟩ := hFc95
     replace hFc95 := bd_s hFc95; obtain ⟨q5r, q78, hFc95⟩ := hFc95
     refine x_region <| p (yl_move ((hE19 14 rfl).trans q21)) <| p (yl_move ((hE19 13 rfl).trans q20)) <| p (yl_move ((hE19 3 rfl).trans q2a)) <|
      p (yadd rfl rfl hx99) <| ?_
     have hcall := c_maskmake_Stream_Netlist_1 q78 (q1i.le (q1a.trans q1c)) (((hS.pull 1).pull 1).pull 2)
     refine o_ccv rfl call_15 (capargs (args1 rfl)) hcall ?_
     rintro e w' ⟨rfl, hS⟩
     refine ⟨_, rfl, ?_⟩
     refine p (yl_field0 fld_58_3 q1s) <| ?_
     refine o_store1 (v := .int .i64 q5r.1) one_3 rfl rfl rfl rfl (hS.pull 3) (fun w' hS => ?_)
     refine x_done <| ?_
     exact x_inv ⟨(blkOf (Ep19 18)), q5r.1, q5r.2, (Option.some.inj (show some _ = some _ from hFc95)), ((hE19 1 rfl).trans q4p), ((hE19 3 rfl).trans q2a), ((hE19 4 rfl).trans q4q), ((hE19 5 rfl).trans q3c), ((hE19 10 rfl).trans q46), ((hE19 11 rfl).trans q47), ((hE19 12 rfl).trans q48), ((hE19 13 rfl).trans q20), ((hE19 14 rfl).trans q21), q1s, ((hE19 74 rfl).trans q49), ((hE19 75 rfl).trans q2n), (((((((((hS.pull 3).pull 8).pull 8).pull 8).pull 5).pull 5).pull 8).pull 8).pull 8)⟩
    ·replace hFc95 := it_f hc95 hFc95
     refine x_skip <| ?_
     exact x_inv ⟨(blkOf (Ep19 18)), 1, q61.2, (Option.some.inj (show some _ = some _ from hFc95)), ((hE19 1 rfl).trans q4p), ((hE19 3 rfl).trans q2a), ((hE19 4 rfl).trans q4q), ((hE19 5 rfl).trans q3c), ((hE19 10 rfl).trans q46), ((hE19 11 rfl).trans q47), ((hE19 12 rfl).trans q48), ((hE19 13 rfl).trans q20), ((hE19 14 rfl).trans q21), q1s, ((hE19 74 rfl).trans q49), ((hE19 75 rfl).trans q2n), (((((((((hS.pull 1).pull 8).pull 8).pull 8).pull 4).pull 6).pull 8).pull 8).pull 8)⟩
   rintro E w ⟨q2r, q0o, q1x, rfl, q79, q7a, q7b, q7c, q6a, q6b, q4r, q6c, q6d, q6e, q6f, q6g, hS⟩
   refine x_region <| p (yl_field0 fld_30_2 q4r) <| pa (at_load one_27 rfl ((hS.pull 2).cell rfl)) <| pa (v := .agg #[.string x83, .int .i64 (-1), .int .i64 q0t.1, .int .i64 q0o, .bool (decide (q0p.1 = 0))]) (ld_sub agg_58 q6e rfl rfl (hS.pull 3)) <| ?_
   refine o_buildSlice (vs := [.agg #[.string x83, .int .i64 (-1), .int .i64 q0t.1, .int .i64 q0o, .bool (decide (q0p.1 = 0))]]) (cs := [.string x83, .int .i64 (-1), .int .i64 q0t.1, .int .i64 q0o, .bool (decide (q0p.1 = 0))]) sl_27 zero_58 (parts_eq (pt (va := .agg #[.string x83, .int .i64 (-1), .int .i64 q0t.1, .int .i64 q0o, .bool (decide (q0p.1 = 0))]) rfl pt0)) rfl (by intro v hv; simp only [List.mem_cons, List.not_mem_nil, or_false] at hv; first | (subst hv; rfl) | (rcases hv with rfl <;> rfl)) (by decide) rfl hS (fun b105 w' hS => ?_)
   replace hFL17 := lv_s hFL17; obtain ⟨q5s, q7d, hFL17⟩ := hFL17
   replace hFL17 := ck_s hFL17; obtain ⟨q7e, hFL17⟩ := hFL17
   refine o_ap sl_27 zero_58 rfl (by decide) rfl rfl (hS.pull 7) q1l (src_blk usl_27 hS rfl rfl) (RepL.cons (R := R_api_Flop) (ρ := q0r) (x := (T_api_Flop.mk x83 (-1) q0t.1 q0o (decide (q0p.1 = 0)))) (cs := [.string x83, .int .i64 (-1), .int .i64 q0t.1, .int .i64 q0o, .bool (decide (q0p.1 = 0))]) rfl RepL.nil) q7d q7e (fun A106 c106 cs106 w' hr106 hS => ?_)
   refine p (yl_field0 fld_30_2 q4r) <| ?_
   refine o_store1 (v := .slice A106 q5s.length c106) one_27 rfl rfl rfl rfl (hS.pull 4) (fun w' hS => ?_)
   replace hFL17 := ar_s hFL17; obtain ⟨x108, hx108, hFL17⟩ := hFL17
   refine x_done <| x_blk <| x_region <| p (yadd q6g rfl hx108) <|
    p (yl_move rfl) <| x_done <| ?_
   have e_ := Option.some.inj (show some _ = some _ from hFL17); subst e_
   exact x_inv ⟨kL17, Nat.lt_succ_self _, A106, q5s.length, c106, cs106, x108, q5s, q1x, hLL17, q79, q7a, q7b, q7c, q6a, q6b, q4r, q6c, q6d, q6f, rfl, hr106, ((((((((((hS.pull 2).drop.pull 4).drop.pull 7).pull 7).pull 3).pull 7).pull 7).pull 5).pull 7).pull 7)⟩
  ·replace hFL17 := it_f hc76 hFL17
   refine x_exitTo _ rfl <| ?_
   have e_ := Option.some.inj (show some _ = some _ from hFL17); subst e_
   exact x_inv ⟨q0n, q0j.length, c_b_n12_L6_2_L17h, q0s, q0j, q1d, hLL17, q2a, q4q, q46, q48, q20, q21, q1l, ((((((((hS.pull 7).pull 7).pull 7).pull 7).pull 7).pull 5).pull 7).pull 7)⟩
 rintro E w ⟨q8, q18, c_b_n12_L6_2_L17, q0q, q6, q1w, rfl, q7f, q7g, q6h, q6i, q6j, q6k, q22, hS⟩
 have e_ := St.vec_n (hS.pull 5) q22; subst e_
 refine x_seq <| x_seq <| x_region <| p (yl_move q7g) <|
  p (yl_move rfl) <| x_done <| ?_
 replace hF := bd_s hF; obtain ⟨oL25, hLL25, hF⟩ := hF
 refine x_join (fun E w => ∃ (q0w : Option Addr) (q19 : Nat) (c_b_n12_L6_4_L25 : Nat) (q14 : List Value) (q0y : List Int) (q2o : Int), (q0y, q2o) = oL25 ∧ E 10 = .pointer (some ⟨b10, 0, none⟩) ∧ E 12 = .pointer (some ⟨q0e, 0, none⟩) ∧ RepL (RpI .i64) q0r q0y q14 ∧ St w0 w (cells b10 30 [.slice none 0 0, .slice none 0 0, .slice none 0 0, .slice none 0 0, .slice none 0 0] :: cells q0e 30 [.slice (adOf (Ep2 27)) x27.length (capOf (Ep2 27)), .slice (adOf (Ep2 30)) q5.1.length (capOf (Ep2 30)), .slice q8 q6.length c_b_n12_L6_2_L17, .slice q4 q2.length c_b_n12_L6_3_L6, .slice q0w q19 c_b_n12_L6_4_L25] :: cells q7 25 [.slice q0d s0.L.length c_s0_0, .int .i64 q2o] :: vec 9 RpS.sz (.slice (adOf (Ep2 30)) q5.1.length (capOf (Ep2 30))) q5.1.length q3 :: vec 58 R_api_Flop.sz (.slice q8 q6.length c_b_n12_L6_2_L17) q6.length q0q :: vec 53 R_api_Gate.sz (.slice q4 q2.length c_b_n12_L6_3_L6) q2.length q0i :: vec 3 (RpI .i64).sz (.slice q0w q19 c_b_n12_L6_4_L25) q19 q14 :: ro q0r :: l)) ?_ ?_
 ·refine x_block ?_
  replace hS := St.vec_nil hS 3 (RpI .i64).sz
  have q29 : RepL (RpI .i64) q0r [] [] := rfl
  refine x_loop (fun k_ E w => ∃ (q0c : Option Addr) (q15 : Nat) (c_b_n12_L6_4_L25h : Nat) (q0u : List Value) (q26 : Int) (q0a : List Int) (q1e : Int), lp (P_maskmake_Stream_Netlist_L25 s0 gates3 outs4 x35) k_ (q26, q0a, q1e) = some oL25 ∧ E 3 = .int .i64 gates3 ∧ E 10 = .pointer (some ⟨b10, 0, none⟩) ∧ E 12 = .pointer (some ⟨q0e, 0, none⟩) ∧ E 13 = .int .i64 x35 ∧ E 14 = .func (.func 15) #[] #[.pointer (some ⟨b5, 0, none⟩)] ∧ E 109 = .int .i64 outs4 ∧ E 110 = .int .i64 q26 ∧ RepL (RpI .i64) q0r q0a q0u ∧ St w0 w (cells b10 30 [.slice none 0 0, .slice none 0 0, .slice none 0 0, .slice none 0 0, .slice none 0 0] :: cells q0e 30 [.slice (adOf (Ep2 27)) x27.length (capOf (Ep2 27)), .slice (adOf (Ep2 30)) q5.1.length (capOf (Ep2 30)), .slice q8 q6.length c_b_n12_L6_2_L17, .slice q4 q2.length c_b_n12_L6_3_L6, .slice q0c q15 c_b_n12_L6_4_L25h] :: cells b5 23 [.pointer (some ⟨q7, 0, none⟩)] :: cells q7 25 [.slice q0d s0.L.length c_s0_0, .int .i64 q1e] :: vec 9 RpS.sz (.slice (adOf (Ep2 30)) q5.1.length (capOf (Ep2 30))) q5.1.length q3 :: vec 58 R_api_Flop.sz (.slice q8 q6.length c_b_n12_L6_2_L17) q6.length q0q :: vec 53 R_api_Gate.sz (.slice q4 q2.length c_b_n12_L6_3_L6) q2.length q0i :: vec 3 (RpI .i64).sz (.slice q0c q15 c_b_n12_L6_4_L25h) q15 q0u :: ro q0r :: l)) fuel ⟨none, 0, 0, [], 0, [], q1w, hLL25, q7f, q6h, q6i, q6j, q6k, rfl, rfl, q29, (((((((((hS.pull 8).pull 1).pull 8).pull 8).pull 8).pull 8).pull 8).pull 8).pull 8)⟩ ?_
  rintro kL25 E w ⟨q0c, q15, c_b_n12_L6_4_L25h, q0u, q26, q0a, q1e, hLL25, q5k, q56, q2p, q57, q58, q4s, q4t, q1m, hS⟩
  have e_ := St.vec_n (hS.pull 7) q1m; subst e_
  replace hLL25 := lp_s hLL25; obtain ⟨kL25, obL25, rfl, hFL25, hLL25⟩ := hLL25
  refine x_seq <| x_region <| p (yl_lss q4t q4s) <| x_done <|
   x_seq <|
   x_cond_p (q26 < outs4) rfl (fun hc111 => ?_) (fun hc111 => ?_)
  ·replace hFL25 := it_t hc111 hFL25
   refine x_skip <| x_seq <| x_block <| ?_
   replace hFL25 := ar_s hFL25; obtain ⟨x117, hx117, hFL25⟩ := hFL25
   replace hFL25 := bd_s hFL25; obtain ⟨q1h, q7h, hFL25⟩ := hFL25
   replace hFL25 := lv_s hFL25; obtain ⟨q11, q7i, hFL25⟩ := hFL25
   replace hFL25 := ck_s hFL25; obtain ⟨q7j, hFL25⟩ := hFL25
   refine x_par (w0 := w0) [⟨[], [], [112], [], [], []⟩, ⟨[0], [0], [113], [0], [], []⟩, ⟨[], [], [114], [], [], []⟩, ⟨[], [], [115], [], [], []⟩, ⟨[], [], [116], [], [], []⟩, ⟨[3, 4], [3, 4], [117], [], [], []⟩, ⟨[2, 3, 4, 5], [2, 5], [118], [1, 3], [2], [4]⟩, ⟨[2, 3, 4, 5, 6], [6], [119], [], [], [5]⟩, ⟨[0, 1, 2, 3, 4, 5, 6, 7], [1, 7], [120], [5, 3], [6], [7]⟩, ⟨[0, 1, 2, 3, 4, 5, 6, 7, 8], [], [121], [], [], []⟩, ⟨[0, 1, 2, 3, 4, 5, 6, 7, 8, 9], [8, 9], [], [], [0], [8]⟩] [⟨none, (some 10), []⟩, ⟨none, none, []⟩, ⟨none, (some 6), []⟩, ⟨none, none, []⟩, ⟨(some 6), none, []⟩, ⟨(some 7), none, [119]⟩, ⟨none, (some 8), []⟩, ⟨(some 8), none, [120]⟩, ⟨(some 10), none, [120]⟩] [112, 113, 114, 115, 116, 117, 118, 119, 120, 121] [0, 1, 2, 3, 6] [1, 3, 4, 5, 7, 8] [0, 1, 2, 3, 4, 5, 6, 7, 8, 9] [fun Ep26 => Ep26 112 = .pointer (some ⟨q0e, 4, none⟩), fun Ep26 => Ep26 113 = .slice q0c q0a.length c_b_n12_L6_4_L25h, fun Ep26 => Ep26 114 = .func (.func 15) #[] #[.pointer (some ⟨b5, 0, none⟩)], fun Ep26 => Ep26 115 = .int .i64 x35, fun Ep26 => Ep26 116 = .int .i64 gates3, fun Ep26 => Ep26 117 = .int .i64 x117, fun Ep26 => Ep26 118 = .int .i64 q1h.1, fun Ep26 => Ep26 119 = .slice (some ⟨(blkOf (Ep26 119)), 0, none⟩) 1 1, fun Ep26 => Ep26 120 = .slice (adOf (Ep26 120)) q11.length (capOf (Ep26 120)), fun Ep26 => Ep26 121 = .pointer (some ⟨q0e, 4, none⟩), fun Ep26 => True] [fun Ep26 => cells q0e 30 [.slice (adOf (Ep2 27)) x27.length (capOf (Ep2 27)), .slice (adOf (Ep2 30)) q5.1.length (capOf (Ep2 30)), .slice q8 q6.length c_b_n12_L6_2_L17, .slice q4 q2.length c_b_n12_L6_3_L6, .slice q0c q0a.length c_b_n12_L6_4_L25h], fun Ep26 => cells b5 23 [.pointer (some ⟨q7, 0, none⟩)], fun Ep26 => cells q7 25 [.slice q0d s0.L.length c_s0_0, .int .i64 q1e], fun Ep26 => ro q0r, fun Ep26 => cells q7 25 [.slice q0d s0.L.length c_s0_0, .int .i64 q1h.2], fun Ep26 => cells (blkOf (Ep26 119)) 3 [.int .i64 q1h.1], fun Ep26 => vec 3 (RpI .i64).sz (.slice q0c q0a.length c_b_n12_L6_4_L25h) q0a.length q0u, fun Ep26 => bunA (fun (cs120 : List Value) => RepL (RpI .i64) q0r q11 cs120) (fun (cs120 : List Value) => [vec 3 (RpI .i64).sz (.slice (adOf (Ep26 120)) q11.length (capOf (Ep26 120))) q11.length cs120]), fun Ep26 => cells q0e 30 [.slice (adOf (Ep2 27)) x27.length (capOf (Ep2 27)), .slice (adOf (Ep2 30)) q5.1.length (capOf (Ep2 30)), .slice q8 q6.length c_b_n12_L6_2_L17, .slice q4 q2.length c_b_n12_L6_3_L6, .slice (adOf (Ep26 120)) q11.length (capOf (Ep26 120))]] mixed (by kernel_rfl) (((((hS.pull 7).pull 8).pull 5).pull 5).pull 5) ?_ ?_
   ·refine ⟨?_, ?_, ?_, ?_, ?_, ?_, ?_, ?_, ?_, ?_, ?_, trivial⟩
    ·intro Ep26 w l' hE26 hO26 hF_ hS
     refine p (yl_field0 fld_30_4 ((hE26 12 rfl).trans q2p)) <| x_done <| ?_
     refine x_fin ⟨⟨_, rfl⟩, rfl, ?_⟩
     exact Eq.mp (by kernel_rfl) hS
    ·intro Ep26 w l' hE26 hO26 hF_ hS
     obtain ⟨q3n, -⟩ := hF_
     replace q3n : Ep26 112 = .pointer (some ⟨q0e, 4, none⟩) := Eq.mp (by kernel_rfl) q3n
     replace hS : St w0 w (cells q0e 30 [.slice (adOf (Ep2 27)) x27.length (capOf (Ep2 27)), .slice (adOf (Ep2 30)) q5.1.length (capOf (Ep2 30)), .slice q8 q6.length c_b_n12_L6_2_L17, .slice q4 q2.length c_b_n12_L6_3_L6, .slice q0c q0a.length c_b_n12_L6_4_L25h] :: l') := Eq.mp (by kernel_rfl) hS
     refine pa (at_load one_22 q3n (hS.cell rfl)) <| x_done <| ?_
     refine x_fin ⟨⟨_, rfl⟩, rfl, ?_⟩
     exact Eq.mp (by kernel_rfl) hS
    ·intro Ep26 w l' hE26 hO26 hF_ hS
     refine p (yl_move ((hE26 14 rfl).trans q58)) <| x_done <| ?_
     refine x_fin ⟨⟨_, rfl⟩, rfl, ?_⟩
     exact Eq.mp (by kernel_rfl) hS
    ·intro Ep26 w l' hE26 hO26 hF_ hS
     refine p (yl_move ((hE26 13 rfl).trans q57)) <| x_done <| ?_
     refine x_fin ⟨⟨_, rfl⟩, rfl, ?_⟩
     exact Eq.mp (by kernel_rfl) hS
    ·intro Ep26 w l' hE26 hO26 hF_ hS
     refine p (yl_move ((hE26 3 rfl).trans q5k)) <| x_done <| ?_
     refine x_fin ⟨⟨_, rfl⟩, rfl, ?_⟩
     exact Eq.mp (by kernel_rfl) hS
    ·intro Ep26 w l' hE26 hO26 hF_ hS
     obtain ⟨q3o, q3p, -⟩ := hF_
     replace q3o : Ep26 115 = .int .i64 x35 := Eq.mp (by kernel_rfl) q3o
     replace q3p : Ep26 116 = .int .i64 gates3 := Eq.mp (by kernel_rfl) q3p
     refine p (yadd q3o q3p hx117) <| x_done <| ?_
     refine x_fin ⟨⟨_, rfl⟩, rfl, ?_⟩
     exact Eq.mp (by kernel_rfl) hS
    ·intro Ep26 w l' hE26 hO26 hF_ hS
     obtain ⟨q3q, q3r, -⟩ := hF_
     replace q3q : Ep26 114 = .func (.func 15) #[] #[.pointer (some ⟨b5, 0, none⟩)] := Eq.mp (by kernel_rfl) q3q
     replace q3r : Ep26 117 = .int .i64 x117 := Eq.mp (by kernel_rfl) q3r
     replace hS : St w0 w (cells b5 23 [.pointer (some ⟨q7, 0, none⟩)] :: ro q0r :: cells q7 25 [.slice q0d s0.L.length c_s0_0, .int .i64 q1e] :: l') := Eq.mp (by kernel_rfl) hS
     have hcall := c_maskmake_Stream_Netlist_1 q7h (q1i.le (q1a.trans q1c)) (((hS.pull 1).pull 2).pull 2)
     refine o_ccv q3q call_15 (capargs (args1 q3r)) hcall ?_
     rintro e w' ⟨rfl, hS⟩
     refine ⟨_, rfl, ?_⟩
     refine x_done <| ?_
     refine x_fin ⟨⟨_, rfl⟩, rfl, ?_⟩
     exact Eq.mp (by kernel_rfl) ((hS.pull 2).pull 2)
    ·intro Ep26 w l' hE26 hO26 hF_ hS
     obtain ⟨q3s, -⟩ := hF_
     replace q3s : Ep26 118 = .int .i64 q1h.1 := Eq.mp (by kernel_rfl) q3s
     refine o_buildSlice (vs := [.int .i64 q1h.1]) (cs := [.int .i64 q1h.1]) sl_22 zero_3 (parts_eq (pt (va := .int .i64 q1h.1) q3s pt0)) rfl (by intro v hv; simp only [List.mem_cons, List.not_mem_nil, or_false] at hv; first | (subst hv; rfl) | (rcases hv with rfl <;> rfl)) (by decide) rfl hS (fun b119 w' hS => ?_)
     refine x_done <| ?_
     refine x_fin ⟨⟨_, rfl⟩, rfl, ?_⟩
     exact Eq.mp (by kernel_rfl) hS
    ·intro Ep26 w l' hE26 hO26 hF_ hS
     obtain ⟨q3t, q3u, -⟩ := hF_
     replace q3t : Ep26 113 = .slice q0c q0a.length c_b_n12_L6_4_L25h := Eq.mp (by kernel_rfl) q3t
     replace q3u : Ep26 119 = .slice (some ⟨(blkOf (Ep26 119)), 0, none⟩) 1 1 := Eq.mp (by kernel_rfl) q3u
     replace hS : St w0 w (cells (blkOf (Ep26 119)) 3 [.int .i64 q1h.1] :: ro q0r :: vec 3 (RpI .i64).sz (.slice q0c q0a.length c_b_n12_L6_4_L25h) q0a.length q0u :: l') := Eq.mp (by kernel_rfl) hS
     refine o_ap sl_22 zero_3 rfl (by decide) q3t q3u (hS.pull 2) q1m (src_blk usl_22 hS rfl rfl) (RepL.cons (R := (RpI .i64)) (ρ := q0r) (x := q1h.1) (cs := [.int .i64 q1h.1]) rfl RepL.nil) q7i q7j (fun A120 c120 cs120 w' hr120 hS => ?_)
     refine x_done <| ?_
     refine x_fin ⟨⟨_, rfl⟩, rfl, ?_⟩
     replace hS := St.bun (Φ := (fun (cs120 : List Value) => RepL (RpI .i64) q0r q11 cs120)) (L := (fun (cs120 : List Value) => [vec 3 (RpI .i64).sz (.slice A120 q11.length c120) q11.length cs120])) cs120 hr120 hS
     exact Eq.mp (by kernel_rfl) ((hS.pull 2).pull 2)
    ·intro Ep26 w l' hE26 hO26 hF_ hS
     refine p (yl_field0 fld_30_4 ((hE26 12 rfl).trans q2p)) <| x_done <| ?_
     refine x_fin ⟨⟨_, rfl⟩, rfl, ?_⟩
     exact Eq.mp (by kernel_rfl) hS
    ·intro Ep26 w l' hE26 hO26 hF_ hS
     obtain ⟨q3v, q3w, -⟩ := hF_
     replace q3v : Ep26 120 = .slice (adOf (Ep26 120)) q11.length (capOf (Ep26 120)) := Eq.mp (by kernel_rfl) q3v
     replace q3w : Ep26 121 = .pointer (some ⟨q0e, 4, none⟩) := Eq.mp (by kernel_rfl) q3w
     replace hS : St w0 w (cells q0e 30 [.slice (adOf (Ep2 27)) x27.length (capOf (Ep2 27)), .slice (adOf (Ep2 30)) q5.1.length (capOf (Ep2 30)), .slice q8 q6.length c_b_n12_L6_2_L17, .slice q4 q2.length c_b_n12_L6_3_L6, .slice q0c q0a.length c_b_n12_L6_4_L25h] :: l') := Eq.mp (by kernel_rfl) hS
     refine o_store1 (v := .slice (adOf (Ep26 120)) q11.length (capOf (Ep26 120))) one_22 q3w q3v rfl rfl hS (fun w' hS => ?_)
     refine x_done <| ?_
     refine x_fin ⟨⟨undef, rfl⟩, trivial, ?_⟩
     exact Eq.mp (by kernel_rfl) hS
   intro Ep26 w' hE26 hF_ hS
   obtain ⟨q3n, q3t, q3q, q3o, q3p, q3r, q3s, q3u, q3v, q3w, -⟩ := hF_
   replace q3n : Ep26 112 = .pointer (some ⟨q0e, 4, none⟩) := Eq.mp (by kernel_rfl) q3n
   replace q3t : Ep26 113 = .slice q0c q0a.length c_b_n12_L6_4_L25h := Eq.mp (by kernel_rfl) q3t
   replace q3q : Ep26 114 = .func (.func 15) #[] #[.pointer (some ⟨b5, 0, none⟩)] := Eq.mp (by kernel_rfl) q3q
   replace q3o : Ep26 115 = .int .i64 x35 := Eq.mp (by kernel_rfl) q3o
   replace q3p : Ep26 116 = .int .i64 gates3 := Eq.mp (by kernel_rfl) q3p
   replace q3r : Ep26 117 = .int .i64 x117 := Eq.mp (by kernel_rfl) q3r
   replace q3s : Ep26 118 = .int .i64 q1h.1 := Eq.mp (by kernel_rfl) q3s
   replace q3u : Ep26 119 = .slice (some ⟨(blkOf (Ep26 119)), 0, none⟩) 1 1 := Eq.mp (by kernel_rfl) q3u
   replace q3v : Ep26 120 = .slice (adOf (Ep26 120)) q11.length (capOf (Ep26 120)) := Eq.mp (by kernel_rfl) q3v
   replace q3w : Ep26 121 = .pointer (some ⟨q0e, 4, none⟩) := Eq.mp (by kernel_rfl) q3w
   replace hS : St w0 w' (cells b5 23 [.pointer (some ⟨q7, 0, none⟩)] :: ro q0r :: cells q7 25 [.slice q0d s0.L.length c_s0_0, .int .i64 q1h.2] :: cells (blkOf (Ep26 119)) 3 [.int .i64 q1h.1] :: bunA (fun (cs120 : List Value) => RepL (RpI .i64) q0r q11 cs120) (fun (cs120 : List Value) => [vec 3 (RpI .i64).sz (.slice (adOf (Ep26 120)) q11.length (capOf (Ep26 120))) q11.length cs120]) :: cells q0e 30 [.slice (adOf (Ep2 27)) x27.length (capOf (Ep2 27)), .slice (adOf (Ep2 30)) q5.1.length (capOf (Ep2 30)), .slice q8 q6.length c_b_n12_L6_2_L17, .slice q4 q2.length c_b_n12_L6_3_L6, .slice (adOf (Ep26 120)) q11.length (capOf (Ep26 120))] :: (cells b10 30 [.slice none 0 0, .slice none 0 0, .slice none 0 0, .slice none 0 0, .slice none 0 0] :: vec 9 RpS.sz (.slice (adOf (Ep2 30)) q5.1.length (capOf (Ep2 30))) q5.1.length q3 :: vec 58 R_api_Flop.sz (.slice q8 q6.length c_b_n12_L6_2_L17) q6.length q0q :: vec 53 R_api_Gate.sz (.slice q4 q2.length c_b_n12_L6_3_L6) q2.length q0i :: l)) := Eq.mp (by kernel_rfl) hS
   have q_ := St.unbun (hS.pull 4); obtain ⟨cs120, hr120, hS⟩ := q_
   replace hFL25 := ar_s hFL25; obtain ⟨x122, hx122, hFL25⟩ := hFL25
   refine x_blk <| x_region <| p (yadd ((hE26 110 rfl).trans q4t) rfl hx122) <| p (yl_move rfl) <|
    x_done <| ?_
   have e_ := Option.some.inj (show some _ = some _ from hFL25); subst e_
   exact x_inv ⟨kL25, Nat.lt_succ_self _, (adOf (Ep26 120)), q11.length, (capOf (Ep26 120)), cs120, x122, q11, q1h.2, hLL25, ((hE26 3 rfl).trans q5k), ((hE26 10 rfl).trans q56), ((hE26 12 rfl).trans q2p), ((hE26 13 rfl).trans q57), ((hE26 14 rfl).trans q58), ((hE26 109 rfl).trans q4s), rfl, hr120, ((((((((((hS.pull 4).drop.pull 2).pull 1).pull 8).pull 8).pull 8).pull 6).pull 6).pull 7).pull 8)⟩
  ·replace hFL25 := it_f hc111 hFL25
   refine x_exitTo _ rfl <| ?_
   have e_ := Option.some.inj (show some _ = some _ from hFL25); subst e_
   exact x_inv ⟨q0c, q0a.length, c_b_n12_L6_4_L25h, q0u, q0a, q1e, hLL25, q56, q2p, q1m, (((((((((hS.pull 2).drop.pull 7).pull 7).pull 7).pull 7).pull 7).pull 7).pull 7).pull 7)⟩
 rintro E w ⟨q0w, q19, c_b_n12_L6_4_L25, q14, q0y, q2o, rfl, q5l, q6l, q23, hS⟩
 have e_ := St.vec_n (hS.pull 6) q23; subst e_
 refine x_seq <| x_region <| pa (v := .agg #[.slice (adOf (Ep2 27)) x27.length (capOf (Ep2 27)), .slice (adOf (Ep2 30)) q5.1.length (capOf (Ep2 30)), .slice q8 q6.length c_b_n12_L6_2_L17, .slice q4 q2.length c_b_n12_L6_3_L6, .slice q0w q0y.length c_b_n12_L6_4_L25]) (ld_sub agg_30 q6l rfl rfl (hS.pull 1)) <| ?_
 refine o_storeAgg (news := [.slice (adOf (Ep2 27)) x27.length (capOf (Ep2 27)), .slice (adOf (Ep2 30)) q5.1.length (capOf (Ep2 30)), .slice q8 q6.length c_b_n12_L6_2_L17, .slice q4 q2.length c_b_n12_L6_3_L6, .slice q0w q0y.length c_b_n12_L6_4_L25]) agg_30 q5l rfl rfl (by simp [over_length]) hS (fun w' hS => ?_)
 refine x_done <| ?_
 have e_ := Option.some.inj (show some _ = some _ from hF); subst e_
 exact x_return ⟨_, ⟨_, _, _, rfl, q5l, ldvA agg_30 rfl (fun j v hj => by rw [add0]; exact St.cell hS hj), rfl⟩, q0r, (adOf (Ep2 27)), x27.length, (capOf (Ep2 27)), (adOf (Ep2 30)), q5.1.length, (capOf (Ep2 30)), q3, q8, q6.length, c_b_n12_L6_2_L17, q0q, q4, q2.length, c_b_n12_L6_3_L6, q0i, q0w, q0y.length, c_b_n12_L6_4_L25, q14, rfl, (q1a.trans q1c), (q5n.le q1c), (q1o.le q1c), q22, q25, q23, ((((((hS.drop.drop.pull 5).pull 1).pull 5).pull 5).pull 5).pull 5)⟩
attribute [irreducible] P_maskmake_Stream_Netlist

def P_maskmake_Stream_Flip (s0 : T_maskmake_Stream) (n1 : Int) : Option (Bool × Int) :=
 bd (P_maskmake_Stream_Next s0 n1) fun q2 =>
 some (decide (q2.1 = 0), q2.2)
set_option maxHeartbeats 4000000 in
set_option maxRecDepth 100000 in
theorem c_maskmake_Stream_Flip {w0 w : World} {l : List Assn} {ρ : Heap} {q5 : Nat} {q2 : Option Addr} {q3 : Nat} {c_s0_0 : Nat} {s0 : T_maskmake_Stream} {n1 : Int} {r : (Bool × Int)} (hF : P_maskmake_Stream_Flip s0 n1 = some r) (q4 : RdS (RpI .i64) ρ q2 q3 c_s0_0 s0.L) (hS : St w0 w (cells q5 25 [.slice q2 q3 c_s0_0, .int .i64 s0.fat] :: ro ρ :: l)) :
  Calls Tryd.prog 22 #[.pointer (some ⟨q5, 0, none⟩), .int .i64 n1] w fun e w' => e = .returned (.bool r.1) ∧ St w0 w' (cells q5 25 [.slice q2 q3 c_s0_0, .int .i64 r.2] :: ro ρ :: l) := by
 have e_ := q4.n; subst e_
 refine enterC Tryd.func22 rfl 9 rfl (by simp) ?_
 replace hF := bd_s hF; obtain ⟨q7, q6, hF⟩ := hF
 refine x_seq <| x_region <| p (yl_assign rfl) <| x_done <|
  x_seq <| x_region <| p (yl_move rfl) <| p (yl_move rfl) <| ?_
 have hcall := c_maskmake_Stream_Next q6 q4 ((hS.pull 1).pull 1)
 refine o_cc call_6 (args2 rfl rfl) hcall ?_
 rintro e w' ⟨rfl, hS⟩
 refine ⟨_, rfl, ?_⟩
 refine p (yl_eql rfl rfl) <| p (yl_assign rfl) <| x_done <| ?_
 have e_ := Option.some.inj (show some _ = some _ from hF); subst e_
 exact x_return ⟨_, ⟨_, _, rfl, rfl, rfl⟩, rfl, ((hS.pull 1).pull 1)⟩
attribute [irreducible] P_maskmake_Stream_Flip

def P_maskmake_Stream_window (s0 : T_maskmake_Stream) (most1 : Int) : Option (T_tree_Window × Int) :=
 bd (P_maskmake_Stream_Next s0 most1) fun q2 =>
 bd (P_maskmake_Stream_Next (T_maskmake_Stream.mk s0.L q2.2) most1) fun q3 =>
 ar (q2.1 + q3.1) fun x14 =>
 some ((T_tree_Window.mk q2.1 x14), q3.2)
set_option maxHeartbeats 4000000 in
set_option maxRecDepth 100000 in
theorem c_maskmake_Stream_window {w0 w : World} {l : List Assn} {ρ : Heap} {q5 : Nat} {q2 : Option Addr} {q3 : Nat} {c_s0_0 : Nat} {s0 : T_maskmake_Stream} {most1 : Int} {r : (T_tree_Window × Int)} (hF : P_maskmake_Stream_window s0 most1 = some r) (q4 : RdS (RpI .i64) ρ q2 q3 c_s0_0 s0.L) (hS : St w0 w (cells q5 25 [.slice q2 q3 c_s0_0, .int .i64 s0.fat] :: ro ρ :: l)) :
  Calls Tryd.prog 23 #[.pointer (some ⟨q5, 0, none⟩), .int .i64 most1] w fun e w' => e = .returned (.agg #[.int .i64 r.1.Lo, .int .i64 r.1.Hi]) ∧ St w0 w' (cells q5 25 [.slice q2 q3 c_s0_0, .int .i64 r.2] :: ro ρ :: l) := by
 have e_ := q4.n; subst e_
 refine enterC Tryd.func23 rfl 16 rfl (by simp) ?_
 refine x_seq <| x_region <| ?_
 refine o_alloc zero_63 hS (fun b4 w' hS => ?_)
 replace hF := bd_s hF; obtain ⟨q6, q7, hF⟩ := hF
 refine x_done <| x_seq <| x_region <| p (yl_move rfl) <|
  p (yl_move rfl) <| ?_
 have hcall := c_maskmake_Stream_Next q7 q4 ((hS.pull 2).pull 2)
 refine o_cc call_6 (args2 rfl rfl) hcall ?_
 rintro e w' ⟨rfl, hS⟩
 refine ⟨_, rfl, ?_⟩
 replace hF := bd_s hF; obtain ⟨q9, q8, hF⟩ := hF
 refine p (yl_assign rfl) <| x_done <| x_seq <| x_region <|
  p (yl_move rfl) <| p (yl_move rfl) <| p (yl_move rfl) <| p (yl_move rfl) <| ?_
 have hcall := c_maskmake_Stream_Next q8 q4 ((hS.pull 1).pull 1)
 refine o_cc call_6 (args2 rfl rfl) hcall ?_
 rintro e w' ⟨rfl, hS⟩
 refine ⟨_, rfl, ?_⟩
 replace hF := ar_s hF; obtain ⟨x14, hx14, hF⟩ := hF
 refine p (yadd rfl rfl hx14) <| p (v := .agg #[.int .i64 q6.1, .int .i64 x14]) (yl_build bld_63 bldf_63 (parts_eq (pt (va := .int .i64 q6.1) rfl (pt (va := .int .i64 x14) rfl pt0))) (by kernel_rfl)) <| ?_
 refine o_storeAgg (news := [.int .i64 q6.1, .int .i64 x14]) agg_63 rfl rfl rfl (by simp [over_length]) (hS.pull 2) (fun w' hS => ?_)
 refine x_done <| ?_
 have e_ := Option.some.inj (show some _ = some _ from hF); subst e_
 exact x_return ⟨_, ⟨_, _, _, rfl, rfl, ldvA agg_63 rfl (fun j v hj => by rw [add0]; exact St.cell hS hj), rfl⟩, rfl, ((hS.drop.pull 1).pull 1)⟩
attribute [irreducible] P_maskmake_Stream_window

def P_maskmake_Stream_Limits_L3 (s0 : T_maskmake_Stream) (n1 : T_api_Netlist) : (Int × Int × List T_clocks_Input) → Option ((Int × Int × List T_clocks_Input) ⊕ (Int × List T_clocks_Input)) := fun (q2, q4, q3) =>
 if q2 < (n1.In.length : Int) then
  ck (inb q2 n1.In.length) <|
  lv (gt n1.In q2) fun x28 =>
  bd (P_maskmake_Stream_Flip (T_maskmake_Stream.mk s0.L q4) 2) fun q6 =>
  bd (
   if q6.1 = true then
    bd (P_maskmake_Stream_window (T_maskmake_Stream.mk s0.L q6.2) 6) fun q8 =>
    lv (q3 ++ [(T_clocks_Input.mk x28 q8.1)]) fun q9 =>
    ck (apOk 32 q9.length) <|
    some (q8.2, q9)
   else
    some (q6.2, q3)) fun (q5, q7) =>
  ar (q2 + 1) fun x40 =>
  some (Sum.inl (x40, q5, q7))
 else
  some (Sum.inr (q4, q3))
def P_maskmake_Stream_Limits_L9 (s0 : T_maskmake_Stream) (n1 : T_api_Netlist) : (Int × Int × List T_clocks_Output) → Option ((Int × Int × List T_clocks_Output) ⊕ (Int × List T_clocks_Output)) := fun (q2, q4, q3) =>
 if q2 < (n1.Out.length : Int) then
  ck (inb q2 n1.Out.length) <|
  lv (gt n1.Out q2) fun x47 =>
  bd (P_maskmake_Stream_Flip (T_maskmake_Stream.mk s0.L q4) 2) fun q5 =>
  bd (
   if q5.1 = true then
    bd (P_maskmake_Stream_Range (T_maskmake_Stream.mk s0.L q5.2) 1 6) fun q8 =>
    lv (q3 ++ [(T_clocks_Output.mk x47 q8.1)]) fun q9 =>
    ck (apOk 24 q9.length) <|
    some (q8.2, q9)
   else
    some (q5.2, q3)) fun (q6, q7) =>
  ar (q2 + 1) fun x59 =>
  some (Sum.inl (x59, q6, q7))
 else
  some (Sum.inr (q4, q3))
def P_maskmake_Stream_Limits_L16 (n1 : T_api_Netlist) : (List ByteArray × List ByteArray × Int) → Option ((List ByteArray × List ByteArray × Int) ⊕ (List ByteArray × List ByteArray)) := fun (q3, q4, q2) =>
 if q2 < (n1.Flops.length : Int) then
  ck (inb q2 n1.Flops.length) <|
  lv (gt n1.Flops q2) fun q5 =>
  lv (q3 ++ [q5.Name]) fun q6 =>
  ck (apOk 16 q6.length) <|
  lv (q4 ++ [q5.Name]) fun q7 =>
  ck (apOk 16 q7.length) <|
  ar (q2 + 1) fun x85 =>
  some (Sum.inl (q6, q7, x85))
 else
  some (Sum.inr (q3, q4))
def P_maskmake_Stream_Limits_L21 (s0 : T_maskmake_Stream) (paths2 : Bool) (q3 : List ByteArray) (q5 : List ByteArray) (q0d : (Int × Int)) : (Int × Int × List T_clocks_Path) → Option ((Int × Int × List T_clocks_Path) ⊕ (List T_clocks_Path × Int)) := fun (q6, q2, q4) =>
 if q6 < q0d.1 then
  bd (
   if paths2 = true then
    bd (P_maskmake_Stream_Next (T_maskmake_Stream.mk s0.L q2) (q3.length : Int)) fun q8 =>
    ck (inb q8.1 q3.length) <|
    lv (gt q3 q8.1) fun x99 =>
    bd (P_maskmake_Stream_Next (T_maskmake_Stream.mk s0.L q8.2) (q5.length : Int)) fun q7 =>
    ck (inb q7.1 q5.length) <|
    lv (gt q5 q7.1) fun x106 =>
    bd (P_maskmake_Stream_Pick (T_maskmake_Stream.mk s0.L q7.2) ([0, 2, 3] : List Int)) fun q0a =>
    lv (q4 ++ [(T_clocks_Path.mk x99 x106 q0a.1)]) fun q0b =>
    ck (apOk 40 q0b.length) <|
    some (q0a.2, q0b)
   else
    some (q2, q4)) fun (q9, q0c) =>
  ar (q6 + 1) fun x114 =>
  some (Sum.inl (x114, q9, q0c))
 else
  some (Sum.inr (q4, q2))
def P_maskmake_Stream_Limits (s0 : T_maskmake_Stream) (n1 : T_api_Netlist) (paths2 : Bool) : Option (T_clocks_Limits × Int) :=
 bd (P_maskmake_Stream_Pick s0 ([20, 60, 200] : List Int)) fun q0d =>
 bd (P_maskmake_Stream_Range (T_maskmake_Stream.mk s0.L q0d.2) 1 q0d.1) fun q0e =>
 bd (
  lp (P_maskmake_Stream_Limits_L3 s0 n1) fuel (0, q0e.2, [])) fun (q4, q0b) =>
 bd (
  lp (P_maskmake_Stream_Limits_L9 s0 n1) fuel (0, q4, [])) fun (q5, q0c) =>
 lv (([(⟨#[]⟩ : ByteArray)] : List ByteArray) ++ n1.In) fun q8 =>
 ck (apOk 16 q8.length) <|
 lv (([(⟨#[]⟩ : ByteArray)] : List ByteArray) ++ n1.Out) fun q9 =>
 ck (apOk 16 q9.length) <|
 bd (
  lp (P_maskmake_Stream_Limits_L16 n1) fuel (q8, q9, 0)) fun (q2, q6) =>
 bd (P_maskmake_Stream_Next (T_maskmake_Stream.mk s0.L q5) 4) fun q0a =>
 bd (
  lp (P_maskmake_Stream_Limits_L21 s0 paths2 q2 q6 q0a) fuel (0, q0a.2, [])) fun (q7, q3) =>
 some ((T_clocks_Limits.mk q0e.1 q0b q0c q7), q3)
set_option maxHeartbeats 4000000 in
set_option maxRecDepth 100000 in
theorem c_maskmake_Stream_Limits {w0 w : World} {l : List Assn} {ρ : Heap} {q9 : Nat} {q0c : Option Addr} {q5h : Nat} {c_s0_0 : Nat} {q0q : Option Addr} {q64 : Nat} {c_n1_0 : Nat} {q0r : Option Addr} {q65 : Nat} {c_n1_1 : Nat} {q0x : Option Addr} {q66 : Nat} {c_n1_2 : Nat} {q10 : Option Addr} {q67 : Nat} {c_n1_3 : Nat} {q11 : Option Addr} {q68 : Nat} {c_n1_4 : Nat} {s0 : T_maskmake_Stream} {n1 : T_api_Netlist} {paths2 : Bool} {r : (T_clocks_Limits × Int)} (hF : P_maskmake_Stream_Limits s0 n1 paths2 = some r) (q1c : RdS (RpI .i64) ρ q0c q5h c_s0_0 s0.L) (q4m : RdS RpS ρ q0q q64 c_n1_0 n1.In) (q4n : RdS RpS ρ q0r q65 c_n1_1 n1.Out) (q5i : RdS R_api_Flop ρ q0x q66 c_n1_2 n1.Flops) (q6x : RdS R_api_Gate ρ q10 q67 c_n1_3 n1.Gates) (q6y : RdS (RpI .i64) ρ q11 q68 c_n1_4 n1.Outs) (hS : St w0 w (cells q9 25 [.slice q0c q5h c_s0_0, .int .i64 s0.fat] :: ro ρ :: l)) :
  Calls Tryd.prog 8 #[.pointer (some ⟨q9, 0, none⟩), .agg #[.slice q0q q64 c_n1_0, .slice q0r q65 c_n1_1, .slice q0x q66 c_n1_2, .slice q10 q67 c_n1_3, .slice q11 q68 c_n1_4], .bool paths2] w fun e w' => ∃ (q4o : Option Addr) (q30 : Nat) (c_y0_ret_1 : Nat) (q4f : List Value) (q4p : Option Addr) (q31 : Nat) (c_y0_ret_2 : Nat) (q4g : List Value) (q4q : Option Addr) (q32 : Nat) (c_y0_ret_3 : Nat) (q4h : List Value), e = .returned (.agg #[.int .i64 r.1.Period, .slice q4o q30 c_y0_ret_1, .slice q4p q31 c_y0_ret_2, .slice q4q q32 c_y0_ret_3]) ∧ RepL R_clocks_Input ρ r.1.Inputs q4f ∧ RepL R_clocks_Output ρ r.1.Outputs q4g ∧ RepL R_clocks_Path ρ r.1.Paths q4h ∧ St w0 w' (vec 66 R_clocks_Input.sz (.slice q4o q30 c_y0_ret_1) q30 q4f :: vec 68 R_clocks_Output.sz (.slice q4p q31 c_y0_ret_2) q31 q4g :: vec 70 R_clocks_Path.sz (.slice q4q q32 c_y0_ret_3) q32 q4h :: cells q9 25 [.slice q0c q5h c_s0_0, .int .i64 r.2] :: ro ρ :: l) := by
 have e_ := q1c.n; subst e_
 have e_ := q4m.n; subst e_
 have e_ := q4n.n; subst e_
 have e_ := q5i.n; subst e_
 have e_ := q6x.n; subst e_
 have e_ := q6y.n; subst e_
 refine enterC Tryd.func8 rfl 116 rfl (by simp) ?_
 refine x_seq <| x_region <| ?_
 refine o_box (cs := [.slice q0q n1.In.length c_n1_0, .slice q0r n1.Out.length c_n1_1, .slice q0x n1.Flops.length c_n1_2, .slice q10 n1.Gates.length c_n1_3, .slice q11 n1.Outs.length c_n1_4]) rfl rfl hS (fun b4 w' hS => ?_)
 refine o_alloc zero_41 hS (fun b6 w' hS => ?_)
 refine x_done <| x_seq <| x_region <| p (yl_move rfl) <|
  p (yl_move rfl) <| ?_
 refine o_buildSlice (vs := [.int .i64 20, .int .i64 60, .int .i64 200]) (cs := [.int .i64 20, .int .i64 60, .int .i64 200]) sl_22 zero_3 (parts_eq (pt (va := .int .i64 20) rfl (pt (va := .int .i64 60) rfl (pt (va := .int .i64 200) rfl pt0)))) rfl (by intro v hv; simp only [List.mem_cons, List.not_mem_nil, or_false] at hv; first | (subst hv; rfl) | (rcases hv with rfl | rfl | rfl <;> rfl)) (by decide) rfl hS (fun b18 w' hS => ?_)
 have q7z : RepL (RpI .i64) ρ ([20, 60, 200] : List Int) [.int .i64 20, .int .i64 60, .int .i64 200] := (RepL.cons (cs := [.int .i64 20]) rfl (RepL.cons (cs := [.int .i64 60]) rfl (RepL.cons (cs := [.int .i64 200]) rfl RepL.nil)))
 replace hS := St.vec_of (n := 3) (sz := (RpI .i64).sz) hS rfl (by decide)
 replace hF := bd_s hF; obtain ⟨q8f, q80, hF⟩ := hF
 have q_ := St.lend ((hS.pull 4).pull 1) q7z; obtain ⟨ρl0, hll0, hlf0, hS0, back0⟩ := q_
 have hcall := c_maskmake_Stream_Pick q80 (q1c.le hll0) hlf0 (hS0.pull 3)
 refine o_cc call_16 (args2 rfl rfl) hcall ?_
 rintro e w' ⟨rfl, hS⟩
 refine ⟨_, rfl, ?_⟩
 replace hS := back0 (hS.pull 1)
 replace hF := bd_s hF; obtain ⟨q0j, q81, hF⟩ := hF
 have hcall := c_maskmake_Stream_Range q81 q1c ((hS.pull 1).pull 2)
 refine o_cc call_5 (args3 rfl rfl rfl) hcall ?_
 rintro e w' ⟨rfl, hS⟩
 refine ⟨_, rfl, ?_⟩
 refine p (v := .agg #[.int .i64 q0j.1, .slice none 0 0, .slice none 0 0, .slice none 0 0]) (yl_build bld_41 bldf_41 (parts_eq (pt (va := .int .i64 q0j.1) rfl pt0)) (by kernel_rfl)) <| ?_
 refine o_alloc zero_41 hS (fun b7 w' hS => ?_)
 refine o_storeAgg (news := [.int .i64 q0j.1, .slice none 0 0, .slice none 0 0, .slice none 0 0]) agg_41 rfl rfl rfl (by simp [over_length]) hS (fun w' hS => ?_)
 refine x_done <| x_seq <| x_seq <| x_region <|
  p (yl_field0 fld_30_0 rfl) <| pa (at_load one_26 rfl ((hS.pull 5).cell rfl)) <| p (yl_len_slice usl_26 rfl) <| p (yl_move rfl) <|
  x_done <| ?_
 replace hF := bd_s hF; obtain ⟨oL3, hLL3, hF⟩ := hF
 refine x_join (fun E w => ∃ (q3 : Option Addr) (q2e : Nat) (c_b7_1_L3 : Nat) (q0d : List Value) (q2f : Int) (q2 : List T_clocks_Input), (q2f, q2) = oL3 ∧ E 0 = .pointer (some ⟨q9, 0, none⟩) ∧ E 2 = .bool paths2 ∧ E 4 = .pointer (some ⟨b4, 0, none⟩) ∧ E 6 = .pointer (some ⟨b6, 0, none⟩) ∧ E 7 = .pointer (some ⟨b7, 0, none⟩) ∧ RepL R_clocks_Input ρ q2 q0d ∧ St w0 w (cells q9 25 [.slice q0c s0.L.length c_s0_0, .int .i64 q2f] :: cells b4 30 [.slice q0q n1.In.length c_n1_0, .slice q0r n1.Out.length c_n1_1, .slice q0x n1.Flops.length c_n1_2, .slice q10 n1.Gates.length c_n1_3, .slice q11 n1.Outs.length c_n1_4] :: cells b6 41 [.int .i64 0, .slice none 0 0, .slice none 0 0, .slice none 0 0] :: cells b7 41 [.int .i64 q0j.1, .slice q3 q2e c_b7_1_L3, .slice none 0 0, .slice none 0 0] :: vec 66 R_clocks_Input.sz (.slice q3 q2e c_b7_1_L3) q2e q0d :: ro ρ :: l)) ?_ ?_
 ·refine x_block ?_
  replace hS := St.vec_nil hS 66 R_clocks_Input.sz
  have q4r : RepL R_clocks_Input ρ [] [] := rfl
  refine x_loop (fun k_ E w => ∃ (q0k : Option Addr) (q1s : Nat) (c_b7_1_L3h : Nat) (q14 : List Value) (q2j : Int) (q1t : Int) (q0g : List T_clocks_Input), lp (P_maskmake_Stream_Limits_L3 s0 n1) k_ (q2j, q1t, q0g) = some oL3 ∧ E 0 = .pointer (some ⟨q9, 0, none⟩) ∧ E 2 = .bool paths2 ∧ E 4 = .pointer (some ⟨b4, 0, none⟩) ∧ E 6 = .pointer (some ⟨b6, 0, none⟩) ∧ E 7 = .pointer (some ⟨b7, 0, none⟩) ∧ E 23 = .slice q0q n1.In.length c_n1_0 ∧ E 24 = .int .i64 (n1.In.length : Int) ∧ E 25 = .int .i64 q2j ∧ RepL R_clocks_Input ρ q0g q14 ∧ St w0 w (cells q9 25 [.slice q0c s0.L.length c_s0_0, .int .i64 q1t] :: cells b4 30 [.slice q0q n1.In.length c_n1_0, .slice q0r n1.Out.length c_n1_1, .slice q0x n1.Flops.length c_n1_2, .slice q10 n1.Gates.length c_n1_3, .slice q11 n1.Outs.length c_n1_4] :: cells b6 41 [.int .i64 0, .slice none 0 0, .slice none 0 0, .slice none 0 0] :: cells b7 41 [.int .i64 q0j.1, .slice q0k q1s c_b7_1_L3h, .slice none 0 0, .slice none 0 0] :: vec 66 R_clocks_Input.sz (.slice q0k q1s c_b7_1_L3h) q1s q14 :: ro ρ :: l)) fuel ⟨none, 0, 0, [], 0, q0j.2, [], hLL3, rfl, rfl, rfl, rfl, rfl, rfl, rfl, rfl, q4r, (((((((hS.pull 4).drop.pull 3).pull 1).pull 2).pull 4).pull 5).pull 5)⟩ ?_
  rintro kL3 E w ⟨q0k, q1s, c_b7_1_L3h, q14, q2j, q1t, q0g, hLL3, q38, q5j, q5k, q5l, q39, q4y, q4z, q3c, q1u, hS⟩
  have e_ := St.vec_n (hS.pull 4) q1u; subst e_
  replace hLL3 := lp_s hLL3; obtain ⟨kL3, obL3, rfl, hFL3, hLL3⟩ := hLL3
  refine x_seq <| x_region <| p (yl_lss q3c q4z) <| x_done <|
   x_seq <|
   x_cond_p (q2j < (n1.In.length : Int)) rfl (fun hc26 => ?_) (fun hc26 => ?_)
  ·replace hFL3 := it_t hc26 hFL3
   replace hFL3 := ck_s hFL3; obtain ⟨q6f, hFL3⟩ := hFL3
   replace hFL3 := lv_s hFL3; obtain ⟨x28, hx28, hFL3⟩ := hFL3
   replace hFL3 := bd_s hFL3; obtain ⟨q60, q82, hFL3⟩ := hFL3
   refine x_skip <| x_seq <| x_block <| x_seq <|
    x_region <| p (yix_f sl_26 q4y q3c q4m q6f) <| pa (at_load one_9 rfl (RdS.getW q4m (hS.pull 5) q6f hx28)) <| p (yl_assign rfl) <|
    x_done <| x_seq <| x_region <| p (yl_move q38) <| ?_
   have hcall := c_maskmake_Stream_Flip q82 q1c ((hS.pull 5).pull 1)
   refine o_cc call_22 (args2 rfl rfl) hcall ?_
   rintro e w' ⟨rfl, hS⟩
   refine ⟨_, rfl, ?_⟩
   refine x_done <| ?_
   replace hFL3 := bd_s hFL3; obtain ⟨oc30, hFc30, hFL3⟩ := hFL3
   refine x_join (fun E w => ∃ (q1v : Option Addr) (q1w : Nat) (c_b7_1_c30 : Nat) (q1j : List Value) (q1x : Int) (q29 : List T_clocks_Input), (q1x, q29) = oc30 ∧ E 0 = .pointer (some ⟨q9, 0, none⟩) ∧ E 2 = .bool paths2 ∧ E 4 = .pointer (some ⟨b4, 0, none⟩) ∧ E 6 = .pointer (some ⟨b6, 0, none⟩) ∧ E 7 = .pointer (some ⟨b7, 0, none⟩) ∧ E 23 = .slice q0q n1.In.length c_n1_0 ∧ E 24 = .int .i64 (n1.In.length : Int) ∧ E 25 = .int .i64 q2j ∧ RepL R_clocks_Input ρ q29 q1j ∧ St w0 w (cells q9 25 [.slice q0c s0.L.length c_s0_0, .int .i64 q1x] :: cells b4 30 [.slice q0q n1.In.length c_n1_0, .slice q0r n1.Out.length c_n1_1, .slice q0x n1.Flops.length c_n1_2, .slice q10 n1.Gates.length c_n1_3, .slice q11 n1.Outs.length c_n1_4] :: cells b6 41 [.int .i64 0, .slice none 0 0, .slice none 0 0, .slice none 0 0] :: cells b7 41 [.int .i64 q0j.1, .slice q1v q1w c_b7_1_c30, .slice none 0 0, .slice none 0 0] :: vec 66 R_clocks_Input.sz (.slice q1v q1w c_b7_1_c30) q1w q1j :: ro ρ :: l)) ?_ ?_
   ·refine x_cond (t := q60.1) rfl (fun hc30 => ?_) (fun hc30 => ?_)
    ·replace hFc30 := it_t hc30 hFc30
     replace hFc30 := bd_s hFc30; obtain ⟨q0l, q83, hFc30⟩ := hFc30
     replace hFc30 := lv_s hFc30; obtain ⟨q1d, q84, hFc30⟩ := hFc30
     replace hFc30 := ck_s hFc30; obtain ⟨q85, hFc30⟩ := hFc30
     refine x_par (w0 := w0) [⟨[], [], [31], [], [], []⟩, ⟨[0], [0], [32], [0], [], []⟩, ⟨[], [], [33], [], [], []⟩, ⟨[], [], [34], [], [], []⟩, ⟨[3], [3], [35], [2], [1], [3]⟩, ⟨[2, 3, 4], [2, 4], [36], [], [], []⟩, ⟨[2, 3, 4, 5], [5], [37], [], [], [4]⟩, ⟨[0, 1, 2, 3, 4, 5, 6], [1, 6], [38], [4, 2], [5], [6]⟩, ⟨[0, 1, 2, 3, 4, 5, 6, 7], [], [39], [], [], []⟩, ⟨[0, 1, 2, 3, 4, 5, 6, 7, 8], [7, 8], [], [], [0], [7]⟩] [⟨none, (some 9), []⟩, ⟨none, (some 4), []⟩, ⟨none, none, []⟩, ⟨(some 4), none, []⟩, ⟨(some 6), none, [37]⟩, ⟨none, (some 7), []⟩, ⟨(some 7), none, [38]⟩, ⟨(some 9), none, [38]⟩] [31, 32, 33, 34, 35, 36, 37, 38, 39] [0, 1, 2, 5] [2, 3, 4, 6, 7] [0, 1, 2, 3, 4, 5, 6, 7, 8] [fun Ep6 => Ep6 31 = .pointer (some ⟨b7, 1, none⟩), fun Ep6 => Ep6 32 = .slice q0k q0g.length c_b7_1_L3h, fun Ep6 => Ep6 33 = .string x28, fun Ep6 => Ep6 34 = .pointer (some ⟨q9, 0, none⟩), fun Ep6 => Ep6 35 = .agg #[.int .i64 q0l.1.Lo, .int .i64 q0l.1.Hi], fun Ep6 => Ep6 36 = .agg #[.string x28, .int .i64 q0l.1.Lo, .int .i64 q0l.1.Hi], fun Ep6 => Ep6 37 = .slice (some ⟨(blkOf (Ep6 37)), 0, none⟩) 1 1, fun Ep6 => Ep6 38 = .slice (adOf (Ep6 38)) q1d.length (capOf (Ep6 38)), fun Ep6 => Ep6 39 = .pointer (some ⟨b7, 1, none⟩), fun Ep6 => True] [fun Ep6 => cells b7 41 [.int .i64 q0j.1, .slice q0k q0g.length c_b7_1_L3h, .slice none 0 0, .slice none 0 0], fun Ep6 => cells q9 25 [.slice q0c s0.L.length c_s0_0, .int .i64 q60.2], fun Ep6 => ro ρ, fun Ep6 => cells q9 25 [.slice q0c s0.L.length c_s0_0, .int .i64 q0l.2], fun Ep6 => cells (blkOf (Ep6 37)) 66 [.string x28, .int .i64 q0l.1.Lo, .int .i64 q0l.1.Hi], fun Ep6 => vec 66 R_clocks_Input.sz (.slice q0k q0g.length c_b7_1_L3h) q0g.length q14, fun Ep6 => bunA (fun (cs38 : List Value) => RepL R_clocks_Input ρ q1d cs38) (fun (cs38 : List Value) => [vec 66 R_clocks_Input.sz (.slice (adOf (Ep6 38)) q1d.length (capOf (Ep6 38))) q1d.length cs38]), fun Ep6 => cells b7 41 [.int .i64 q0j.1, .slice (adOf (Ep6 38)) q1d.length (capOf (Ep6 38)), .slice none 0 0, .slice none 0 0]] mixed (by kernel_rfl) ((((hS.pull 5).pull 2).pull 2).pull 5) ?_ ?_
     ·refine ⟨?_, ?_, ?_, ?_, ?_, ?_, ?_, ?_, ?_, ?_, trivial⟩
      ·intro Ep6 w l' hE6 hO6 hF_ hS
       refine p (yl_field0 fld_41_1 ((hE6 7 rfl).trans q39)) <| x_done <| ?_
       refine x_fin ⟨⟨_, rfl⟩, rfl, ?_⟩
       exact Eq.mp (by kernel_rfl) hS
      ·intro Ep6 w l' hE6 hO6 hF_ hS
       obtain ⟨q50, -⟩ := hF_
       replace q50 : Ep6 31 = .pointer (some ⟨b7, 1, none⟩) := Eq.mp (by kernel_rfl) q50
       replace hS : St w0 w (cells b7 41 [.int .i64 q0j.1, .slice q0k q0g.length c_b7_1_L3h, .slice none 0 0, .slice none 0 0] :: l') := Eq.mp (by kernel_rfl) hS
       refine pa (at_load one_37 q50 (hS.cell rfl)) <| x_done <| ?_
       refine x_fin ⟨⟨_, rfl⟩, rfl, ?_⟩
       exact Eq.mp (by kernel_rfl) hS
      ·intro Ep6 w l' hE6 hO6 hF_ hS
       refine p (yl_move (hE6 9 rfl)) <| x_done <| ?_
       refine x_fin ⟨⟨_, rfl⟩, rfl, ?_⟩
       exact Eq.mp (by kernel_rfl) hS
      ·intro Ep6 w l' hE6 hO6 hF_ hS
       refine p (yl_move ((hE6 0 rfl).trans q38)) <| x_done <| ?_
       refine x_fin ⟨⟨_, rfl⟩, rfl, ?_⟩
       exact Eq.mp (by kernel_rfl) hS
      ·intro Ep6 w l' hE6 hO6 hF_ hS
       obtain ⟨q51, -⟩ := hF_
       replace q51 : Ep6 34 = .pointer (some ⟨q9, 0, none⟩) := Eq.mp (by kernel_rfl) q51
       replace hS : St w0 w (ro ρ :: cells q9 25 [.slice q0c s0.L.length c_s0_0, .int .i64 q60.2] :: l') := Eq.mp (by kernel_rfl) hS
       have hcall := c_maskmake_Stream_window q83 q1c (hS.pull 1)
       refine o_cc call_23 (args2 q51 rfl) hcall ?_
       rintro e w' ⟨rfl, hS⟩
       refine ⟨_, rfl, ?_⟩
       refine x_done <| ?_
       refine x_fin ⟨⟨_, rfl⟩, rfl, ?_⟩
       exact Eq.mp (by kernel_rfl) (hS.pull 1)
      ·intro Ep6 w l' hE6 hO6 hF_ hS
       obtain ⟨q52, q53, -⟩ := hF_
       replace q52 : Ep6 33 = .string x28 := Eq.mp (by kernel_rfl) q52
       replace q53 : Ep6 35 = .agg #[.int .i64 q0l.1.Lo, .int .i64 q0l.1.Hi] := Eq.mp (by kernel_rfl) q53
       refine p (v := .agg #[.string x28, .int .i64 q0l.1.Lo, .int .i64 q0l.1.Hi]) (yl_build bld_66 bldf_66 (parts_eq (pt (va := .string x28) q52 (pt (va := .agg #[.int .i64 q0l.1.Lo, .int .i64 q0l.1.Hi]) q53 pt0))) (by kernel_rfl)) <| x_done <| ?_
       refine x_fin ⟨⟨_, rfl⟩, rfl, ?_⟩
       exact Eq.mp (by kernel_rfl) hS
      ·intro Ep6 w l' hE6 hO6 hF_ hS
       obtain ⟨q54, -⟩ := hF_
       replace q54 : Ep6 36 = .agg #[.string x28, .int .i64 q0l.1.Lo, .int .i64 q0l.1.Hi] := Eq.mp (by kernel_rfl) q54
       refine o_buildSlice (vs := [.agg #[.string x28, .int .i64 q0l.1.Lo, .int .i64 q0l.1.Hi]]) (cs := [.string x28, .int .i64 q0l.1.Lo, .int .i64 q0l.1.Hi]) sl_37 zero_66 (parts_eq (pt (va := .agg #[.string x28, .int .i64 q0l.1.Lo, .int .i64 q0l.1.Hi]) q54 pt0)) rfl (by intro v hv; simp only [List.mem_cons, List.not_mem_nil, or_false] at hv; first | (subst hv; rfl) | (rcases hv with rfl <;> rfl)) (by decide) rfl hS (fun b37 w' hS => ?_)
       refine x_done <| ?_
       refine x_fin ⟨⟨_, rfl⟩, rfl, ?_⟩
       exact Eq.mp (by kernel_rfl) hS
      ·intro Ep6 w l' hE6 hO6 hF_ hS
       obtain ⟨q55, q56, -⟩ := hF_
       replace q55 : Ep6 32 = .slice q0k q0g.length c_b7_1_L3h := Eq.mp (by kernel_rfl) q55
       replace q56 : Ep6 37 = .slice (some ⟨(blkOf (Ep6 37)), 0, none⟩) 1 1 := Eq.mp (by kernel_rfl) q56
       replace hS : St w0 w (cells (blkOf (Ep6 37)) 66 [.string x28, .int .i64 q0l.1.Lo, .int .i64 q0l.1.Hi] :: ro ρ :: vec 66 R_clocks_Input.sz (.slice q0k q0g.length c_b7_1_L3h) q0g.length q14 :: l') := Eq.mp (by kernel_rfl) hS
       refine o_ap sl_37 zero_66 rfl (by decide) q55 q56 (hS.pull 2) q1u (src_blk usl_37 hS rfl rfl) (RepL.cons (R := R_clocks_Input) (ρ := ρ) (x := (T_clocks_Input.mk x28 q0l.1)) (cs := [.string x28, .int .i64 q0l.1.Lo, .int .i64 q0l.1.Hi]) rfl RepL.nil) q84 q85 (fun A38 c38 cs38 w' hr38 hS => ?_)
       refine x_done <| ?_
       refine x_fin ⟨⟨_, rfl⟩, rfl, ?_⟩
       replace hS := St.bun (Φ := (fun (cs38 : List Value) => RepL R_clocks_Input ρ q1d cs38)) (L := (fun (cs38 : List Value) => [vec 66 R_clocks_Input.sz (.slice A38 q1d.length c38) q1d.length cs38])) cs38 hr38 hS
       exact Eq.mp (by kernel_rfl) ((hS.pull 2).pull 2)
      ·intro Ep6 w l' hE6 hO6 hF_ hS
       refine p (yl_field0 fld_41_1 ((hE6 7 rfl).trans q39)) <| x_done <| ?_
       refine x_fin ⟨⟨_, rfl⟩, rfl, ?_⟩
       exact Eq.mp (by kernel_rfl) hS
      ·intro Ep6 w l' hE6 hO6 hF_ hS
       obtain ⟨q57, q58, -⟩ := hF_
       replace q57 : Ep6 38 = .slice (adOf (Ep6 38)) q1d.length (capOf (Ep6 38)) := Eq.mp (by kernel_rfl) q57
       replace q58 : Ep6 39 = .pointer (some ⟨b7, 1, none⟩) := Eq.mp (by kernel_rfl) q58
       replace hS : St w0 w (cells b7 41 [.int .i64 q0j.1, .slice q0k q0g.length c_b7_1_L3h, .slice none 0 0, .slice none 0 0] :: l') := Eq.mp (by kernel_rfl) hS
       refine o_store1 (v := .slice (adOf (Ep6 38)) q1d.length (capOf (Ep6 38))) one_37 q58 q57 rfl rfl hS (fun w' hS => ?_)
       refine x_done <| ?_
       refine x_fin ⟨⟨undef, rfl⟩, trivial, ?_⟩
       exact Eq.mp (by kernel_rfl) hS
     intro Ep6 w' hE6 hF_ hS
     obtain ⟨q50, q55, q52, q51, q53, q54, q56, q57, q58, -⟩ := hF_
     replace q50 : Ep6 31 = .pointer (some ⟨b7, 1, none⟩) := Eq.mp (by kernel_rfl) q50
     replace q55 : Ep6 32 = .slice q0k q0g.length c_b7_1_L3h := Eq.mp (by kernel_rfl) q55
     replace q52 : Ep6 33 = .string x28 := Eq.mp (by kernel_rfl) q52
     replace q51 : Ep6 34 = .pointer (some ⟨q9, 0, none⟩) := Eq.mp (by kernel_rfl) q51
     replace q53 : Ep6 35 = .agg #[.int .i64 q0l.1.Lo, .int .i64 q0l.1.Hi] := Eq.mp (by kernel_rfl) q53
     replace q54 : Ep6 36 = .agg #[.string x28, .int .i64 q0l.1.Lo, .int .i64 q0l.1.Hi] := Eq.mp (by kernel_rfl) q54
     replace q56 : Ep6 37 = .slice (some ⟨(blkOf (Ep6 37)), 0, none⟩) 1 1 := Eq.mp (by kernel_rfl) q56
     replace q57 : Ep6 38 = .slice (adOf (Ep6 38)) q1d.length (capOf (Ep6 38)) := Eq.mp (by kernel_rfl) q57
     replace q58 : Ep6 39 = .pointer (some ⟨b7, 1, none⟩) := Eq.mp (by kernel_rfl) q58
     replace hS : St w0 w' (ro ρ :: cells q9 25 [.slice q0c s0.L.length c_s0_0, .int .i64 q0l.2] :: cells (blkOf (Ep6 37)) 66 [.string x28, .int .i64 q0l.1.Lo, .int .i64 q0l.1.Hi] :: bunA (fun (cs38 : List Value) => RepL R_clocks_Input ρ q1d cs38) (fun (cs38 : List Value) => [vec 66 R_clocks_Input.sz (.slice (adOf (Ep6 38)) q1d.length (capOf (Ep6 38))) q1d.length cs38]) :: cells b7 41 [.int .i64 q0j.1, .slice (adOf (Ep6 38)) q1d.length (capOf (Ep6 38)), .slice none 0 0, .slice none 0 0] :: (cells b4 30 [.slice q0q n1.In.length c_n1_0, .slice q0r n1.Out.length c_n1_1, .slice q0x n1.Flops.length c_n1_2, .slice q10 n1.Gates.length c_n1_3, .slice q11 n1.Outs.length c_n1_4] :: cells b6 41 [.int .i64 0, .slice none 0 0, .slice none 0 0, .slice none 0 0] :: l)) := Eq.mp (by kernel_rfl) hS
     have q_ := St.unbun (hS.pull 3); obtain ⟨cs38, hr38, hS⟩ := q_
     exact x_inv ⟨(adOf (Ep6 38)), q1d.length, (capOf (Ep6 38)), cs38, q0l.2, q1d, (Option.some.inj (show some _ = some _ from hFc30)), ((hE6 0 rfl).trans q38), ((hE6 2 rfl).trans q5j), ((hE6 4 rfl).trans q5k), ((hE6 6 rfl).trans q5l), ((hE6 7 rfl).trans q39), ((hE6 23 rfl).trans q4y), ((hE6 24 rfl).trans q4z), ((hE6 25 rfl).trans q3c), hr38, (((((((hS.pull 3).drop.pull 1).pull 1).pull 3).pull 5).pull 5).pull 5)⟩
    ·replace hFc30 := it_bf hc30 hFc30
     refine x_skip <| ?_
     exact x_inv ⟨q0k, q0g.length, c_b7_1_L3h, q14, q60.2, q0g, (Option.some.inj (show some _ = some _ from hFc30)), q38, q5j, q5k, q5l, q39, q4y, q4z, q3c, q1u, ((((((hS.pull 1).pull 5).pull 5).pull 5).pull 5).pull 5)⟩
   rintro E w ⟨q1v, q1w, c_b7_1_c30, q1j, q1x, q29, rfl, q6z, q70, q71, q72, q73, q6h, q6i, q6j, q4s, hS⟩
   have e_ := St.vec_n (hS.pull 4) q4s; subst e_
   replace hFL3 := ar_s hFL3; obtain ⟨x40, hx40, hFL3⟩ := hFL3
   refine x_blk <| x_region <| p (yadd q6j rfl hx40) <| p (yl_move rfl) <|
    x_done <| ?_
   have e_ := Option.some.inj (show some _ = some _ from hFL3); subst e_
   exact x_inv ⟨kL3, Nat.lt_succ_self _, q1v, q29.length, c_b7_1_c30, q1j, x40, q1x, q29, hLL3, q6z, q70, q71, q72, q73, q6h, q6i, rfl, q4s, ((((((hS.pull 5).pull 5).pull 5).pull 5).pull 5).pull 5)⟩
  ·replace hFL3 := it_f hc26 hFL3
   refine x_exitTo _ rfl <| ?_
   have e_ := Option.some.inj (show some _ = some _ from hFL3); subst e_
   exact x_inv ⟨q0k, q0g.length, c_b7_1_L3h, q14, q1t, q0g, hLL3, q38, q5j, q5k, q5l, q39, q1u, ((((((hS.pull 5).pull 5).pull 5).pull 5).pull 5).pull 5)⟩
 rintro E w ⟨q3, q2e, c_b7_1_L3, q0d, q2f, q2, rfl, q86, q87, q6g, q88, q89, q5e, hS⟩
 have e_ := St.vec_n (hS.pull 4) q5e; subst e_
 refine x_seq <| x_seq <| x_region <| p (yl_field0 fld_30_1 q6g) <|
  pa (at_load one_26 rfl ((hS.pull 1).cell rfl)) <| p (yl_len_slice usl_26 rfl) <| p (yl_move rfl) <| x_done <| ?_
 replace hF := bd_s hF; obtain ⟨oL9, hLL9, hF⟩ := hF
 refine x_join (fun E w => ∃ (q8 : Option Addr) (q2g : Nat) (c_b7_2_L9 : Nat) (q0n : List Value) (q1e : Int) (q7 : List T_clocks_Output), (q1e, q7) = oL9 ∧ E 0 = .pointer (some ⟨q9, 0, none⟩) ∧ E 2 = .bool paths2 ∧ E 4 = .pointer (some ⟨b4, 0, none⟩) ∧ E 6 = .pointer (some ⟨b6, 0, none⟩) ∧ E 7 = .pointer (some ⟨b7, 0, none⟩) ∧ RepL R_clocks_Output ρ q7 q0n ∧ St w0 w (cells q9 25 [.slice q0c s0.L.length c_s0_0, .int .i64 q1e] :: cells b4 30 [.slice q0q n1.In.length c_n1_0, .slice q0r n1.Out.length c_n1_1, .slice q0x n1.Flops.length c_n1_2, .slice q10 n1.Gates.length c_n1_3, .slice q11 n1.Outs.length c_n1_4] :: cells b6 41 [.int .i64 0, .slice none 0 0, .slice none 0 0, .slice none 0 0] :: cells b7 41 [.int .i64 q0j.1, .slice q3 q2.length c_b7_1_L3, .slice q8 q2g c_b7_2_L9, .slice none 0 0] :: vec 66 R_clocks_Input.sz (.slice q3 q2.length c_b7_1_L3) q2.length q0d :: vec 68 R_clocks_Output.sz (.slice q8 q2g c_b7_2_L9) q2g q0n :: ro ρ :: l)) ?_ ?_
 ·refine x_block ?_
  replace hS := St.vec_nil hS 68 R_clocks_Output.sz
  have q4t : RepL R_clocks_Output ρ [] [] := rfl
  refine x_loop (fun k_ E w => ∃ (q0m : Option Addr) (q1y : Nat) (c_b7_2_L9h : Nat) (q15 : List Value) (q2k : Int) (q1z : Int) (q0h : List T_clocks_Output), lp (P_maskmake_Stream_Limits_L9 s0 n1) k_ (q2k, q1z, q0h) = some oL9 ∧ E 0 = .pointer (some ⟨q9, 0, none⟩) ∧ E 2 = .bool paths2 ∧ E 4 = .pointer (some ⟨b4, 0, none⟩) ∧ E 6 = .pointer (some ⟨b6, 0, none⟩) ∧ E 7 = .pointer (some ⟨b7, 0, none⟩) ∧ E 42 = .slice q0r n1.Out.length c_n1_1 ∧ E 43 = .int .i64 (n1.Out.length : Int) ∧ E 44 = .int .i64 q2k ∧ RepL R_clocks_Output ρ q0h q15 ∧ St w0 w (cells q9 25 [.slice q0c s0.L.length c_s0_0, .int .i64 q1z] :: cells b4 30 [.slice q0q n1.In.length c_n1_0, .slice q0r n1.Out.length c_n1_1, .slice q0x n1.Flops.length c_n1_2, .slice q10 n1.Gates.length c_n1_3, .slice q11 n1.Outs.length c_n1_4] :: cells b6 41 [.int .i64 0, .slice none 0 0, .slice none 0 0, .slice none 0 0] :: cells b7 41 [.int .i64 q0j.1, .slice q3 q2.length c_b7_1_L3, .slice q0m q1y c_b7_2_L9h, .slice none 0 0] :: vec 66 R_clocks_Input.sz (.slice q3 q2.length c_b7_1_L3) q2.length q0d :: vec 68 R_clocks_Output.sz (.slice q0m q1y c_b7_2_L9h) q1y q15 :: ro ρ :: l)) fuel ⟨none, 0, 0, [], 0, q2f, [], hLL9, q86, q87, q6g, q88, q89, rfl, rfl, rfl, q4t, (((((((hS.pull 6).pull 1).pull 6).pull 6).pull 6).pull 6).pull 6)⟩ ?_
  rintro kL9 E w ⟨q0m, q1y, c_b7_2_L9h, q15, q2k, q1z, q0h, hLL9, q3a, q5m, q5n, q5o, q3b, q59, q5a, q3d, q20, hS⟩
  have e_ := St.vec_n (hS.pull 5) q20; subst e_
  replace hLL9 := lp_s hLL9; obtain ⟨kL9, obL9, rfl, hFL9, hLL9⟩ := hLL9
  refine x_seq <| x_region <| p (yl_lss q3d q5a) <| x_done <|
   x_seq <|
   x_cond_p (q2k < (n1.Out.length : Int)) rfl (fun hc45 => ?_) (fun hc45 => ?_)
  ·replace hFL9 := it_t hc45 hFL9
   replace hFL9 := ck_s hFL9; obtain ⟨q69, hFL9⟩ := hFL9
   replace hFL9 := lv_s hFL9; obtain ⟨x47, hx47, hFL9⟩ := hFL9
   replace hFL9 := bd_s hFL9; obtain ⟨q5g, q74, hFL9⟩ := hFL9
   refine x_skip <| x_seq <| x_block <| x_seq <|
    x_region <| p (yix_f sl_26 q59 q3d q4n q69) <| pa (at_load one_9 rfl (RdS.getW q4n (hS.pull 6) q69 hx47)) <| p (yl_assign rfl) <|
    x_done <| x_seq <| x_region <| p (yl_move q3a) <| ?_
   have hcall := c_maskmake_Stream_Flip q74 q1c ((hS.pull 6).pull 1)
   refine o_cc call_22 (args2 rfl rfl) hcall ?_
   rintro e w' ⟨rfl, hS⟩
   refine ⟨_, rfl, ?_⟩
   refine x_done <| ?_
   replace hFL9 := bd_s hFL9; obtain ⟨oc49, hFc49, hFL9⟩ := hFL9
   refine x_join (fun E w => ∃ (q21 : Option Addr) (q22 : Nat) (c_b7_2_c49 : Nat) (q1k : List Value) (q23 : Int) (q2a : List T_clocks_Output), (q23, q2a) = oc49 ∧ E 0 = .pointer (some ⟨q9, 0, none⟩) ∧ E 2 = .bool paths2 ∧ E 4 = .pointer (some ⟨b4, 0, none⟩) ∧ E 6 = .pointer (some ⟨b6, 0, none⟩) ∧ E 7 = .pointer (some ⟨b7, 0, none⟩) ∧ E 42 = .slice q0r n1.Out.length c_n1_1 ∧ E 43 = .int .i64 (n1.Out.length : Int) ∧ E 44 = .int .i64 q2k ∧ RepL R_clocks_Output ρ q2a q1k ∧ St w0 w (cells q9 25 [.slice q0c s0.L.length c_s0_0, .int .i64 q23] :: cells b4 30 [.slice q0q n1.In.length c_n1_0, .slice q0r n1.Out.length c_n1_1, .slice q0x n1.Flops.length c_n1_2, .slice q10 n1.Gates.length c_n1_3, .slice q11 n1.Outs.length c_n1_4] :: cells b6 41 [.int .i64 0, .slice none 0 0, .slice none 0 0, .slice none 0 0] :: cells b7 41 [.int .i64 q0j.1, .slice q3 q2.length c_b7_1_L3, .slice q21 q22 c_b7_2_c49, .slice none 0 0] :: vec 66 R_clocks_Input.sz (.slice q3 q2.length c_b7_1_L3) q2.length q0d :: vec 68 R_clocks_Output.sz (.slice q21 q22 c_b7_2_c49) q22 q1k :: ro ρ :: l)) ?_ ?_
   ·refine x_cond (t := q5g.1) rfl (fun hc49 => ?_) (fun hc49 => ?_)
    ·replace hFc49 := it_t hc49 hFc49
     replace hFc49 := bd_s hFc49; obtain ⟨q0y, q75, hFc49⟩ := hFc49
     replace hFc49 := lv_s hFc49; obtain ⟨q13, q76, hFc49⟩ := hFc49
     replace hFc49 := ck_s hFc49; obtain ⟨q77, hFc49⟩ := hFc49
     refine x_par (w0 := w0) [⟨[], [], [50], [], [], []⟩, ⟨[0], [0], [51], [0], [], []⟩, ⟨[], [], [52], [], [], []⟩, ⟨[], [], [53], [], [], []⟩, ⟨[3], [3], [54], [2], [1], [3]⟩, ⟨[2, 3, 4], [2, 4], [55], [], [], []⟩, ⟨[2, 3, 4, 5], [5], [56], [], [], [4]⟩, ⟨[0, 1, 2, 3, 4, 5, 6], [1, 6], [57], [4, 2], [5], [6]⟩, ⟨[0, 1, 2, 3, 4, 5, 6, 7], [], [58], [], [], []⟩, ⟨[0, 1, 2, 3, 4, 5, 6, 7, 8], [7, 8], [], [], [0], [7]⟩] [⟨none, (some 9), []⟩, ⟨none, (some 4), []⟩, ⟨none, none, []⟩, ⟨(some 4), none, []⟩, ⟨(some 6), none, [56]⟩, ⟨none, (some 7), []⟩, ⟨(some 7), none, [57]⟩, ⟨(some 9), none, [57]⟩] [50, 51, 52, 53, 54, 55, 56, 57, 58] [0, 1, 2, 5] [2, 3, 4, 6, 7] [0, 1, 2, 3, 4, 5, 6, 7, 8] [fun Ep12 => Ep12 50 = .pointer (some ⟨b7, 2, none⟩), fun Ep12 => Ep12 51 = .slice q0m q0h.length c_b7_2_L9h, fun Ep12 => Ep12 52 = .string x47, fun Ep12 => Ep12 53 = .pointer (some ⟨q9, 0, none⟩), fun Ep12 => Ep12 54 = .int .i64 q0y.1, fun Ep12 => Ep12 55 = .agg #[.string x47, .int .i64 q0y.1], fun Ep12 => Ep12 56 = .slice (some ⟨(blkOf (Ep12 56)), 0, none⟩) 1 1, fun Ep12 => Ep12 57 = .slice (adOf (Ep12 57)) q13.length (capOf (Ep12 57)), fun Ep12 => Ep12 58 = .pointer (some ⟨b7, 2, none⟩), fun Ep12 => True] [fun Ep12 => cells b7 41 [.int .i64 q0j.1, .slice q3 q2.length c_b7_1_L3, .slice q0m q0h.length c_b7_2_L9h, .slice none 0 0], fun Ep12 => cells q9 25 [.slice q0c s0.L.length c_s0_0, .int .i64 q5g.2], fun Ep12 => ro ρ, fun Ep12 => cells q9 25 [.slice q0c s0.L.length c_s0_0, .int .i64 q0y.2], fun Ep12 => cells (blkOf (Ep12 56)) 68 [.string x47, .int .i64 q0y.1], fun Ep12 => vec 68 R_clocks_Output.sz (.slice q0m q0h.length c_b7_2_L9h) q0h.length q15, fun Ep12 => bunA (fun (cs57 : List Value) => RepL R_clocks_Output ρ q13 cs57) (fun (cs57 : List Value) => [vec 68 R_clocks_Output.sz (.slice (adOf (Ep12 57)) q13.length (capOf (Ep12 57))) q13.length cs57]), fun Ep12 => cells b7 41 [.int .i64 q0j.1, .slice q3 q2.length c_b7_1_L3, .slice (adOf (Ep12 57)) q13.length (capOf (Ep12 57)), .slice none 0 0]] mixed (by kernel_rfl) ((((hS.pull 6).pull 2).pull 2).pull 5) ?_ ?_
     ·refine ⟨?_, ?_, ?_, ?_, ?_, ?_, ?_, ?_, ?_, ?_, trivial⟩
      ·intro Ep12 w l' hE12 hO12 hF_ hS
       refine p (yl_field0 fld_41_2 ((hE12 7 rfl).trans q3b)) <| x_done <| ?_
       refine x_fin ⟨⟨_, rfl⟩, rfl, ?_⟩
       exact Eq.mp (by kernel_rfl) hS
      ·intro Ep12 w l' hE12 hO12 hF_ hS
       obtain ⟨q3e, -⟩ := hF_
       replace q3e : Ep12 50 = .pointer (some ⟨b7, 2, none⟩) := Eq.mp (by kernel_rfl) q3e
       replace hS : St w0 w (cells b7 41 [.int .i64 q0j.1, .slice q3 q2.length c_b7_1_L3, .slice q0m q0h.length c_b7_2_L9h, .slice none 0 0] :: l') := Eq.mp (by kernel_rfl) hS
       refine pa (at_load one_38 q3e (hS.cell rfl)) <| x_done <| ?_
       refine x_fin ⟨⟨_, rfl⟩, rfl, ?_⟩
       exact Eq.mp (by kernel_rfl) hS
      ·intro Ep12 w l' hE12 hO12 hF_ hS
       refine p (yl_move (hE12 11 rfl)) <| x_done <| ?_
       refine x_fin ⟨⟨_, rfl⟩, rfl, ?_⟩
       exact Eq.mp (by kernel_rfl) hS
      ·intro Ep12 w l' hE12 hO12 hF_ hS
       refine p (yl_move ((hE12 0 rfl).trans q3a)) <| x_done <| ?_
       refine x_fin ⟨⟨_, rfl⟩, rfl, ?_⟩
       exact Eq.mp (by kernel_rfl) hS
      ·intro Ep12 w l' hE12 hO12 hF_ hS
       obtain ⟨q3f, -⟩ := hF_
       replace q3f : Ep12 53 = .pointer (some ⟨q9, 0, none⟩) := Eq.mp (by kernel_rfl) q3f
       replace hS : St w0 w (ro ρ :: cells q9 25 [.slice q0c s0.L.length c_s0_0, .int .i64 q5g.2] :: l') := Eq.mp (by kernel_rfl) hS
       have hcall := c_maskmake_Stream_Range q75 q1c (hS.pull 1)
       refine o_cc call_5 (args3 q3f rfl rfl) hcall ?_
       rintro e w' ⟨rfl, hS⟩
       refine ⟨_, rfl, ?_⟩
       refine x_done <| ?_
       refine x_fin ⟨⟨_, rfl⟩, rfl, ?_⟩
       exact Eq.mp (by kernel_rfl) (hS.pull 1)
      ·intro Ep12 w l' hE12 hO12 hF_ hS
       obtain ⟨q3g, q3h, -⟩ := hF_
       replace q3g : Ep12 52 = .string x47 := Eq.mp (by kernel_rfl) q3g
       replace q3h : Ep12 54 = .int .i64 q0y.1 := Eq.mp (by kernel_rfl) q3h
       refine p (v := .agg #[.string x47, .int .i64 q0y.1]) (yl_build bld_68 bldf_68 (parts_eq (pt (va := .string x47) q3g (pt (va := .int .i64 q0y.1) q3h pt0))) (by kernel_rfl)) <| x_done <| ?_
       refine x_fin ⟨⟨_, rfl⟩, rfl, ?_⟩
       exact Eq.mp (by kernel_rfl) hS
      ·intro Ep12 w l' hE12 hO12 hF_ hS
       obtain ⟨q3i, -⟩ := hF_
       replace q3i : Ep12 55 = .agg #[.string x47, .int .i64 q0y.1] := Eq.mp (by kernel_rfl) q3i
       refine o_buildSlice (vs := [.agg #[.string x47, .int .i64 q0y.1]]) (cs := [.string x47, .int .i64 q0y.1]) sl_38 zero_68 (parts_eq (pt (va := .agg #[.string x47, .int .i64 q0y.1]) q3i pt0)) rfl (by intro v hv; simp only [List.mem_cons, List.not_mem_nil, or_false] at hv; first | (subst hv; rfl) | (rcases hv with rfl <;> rfl)) (by decide) rfl hS (fun b56 w' hS => ?_)
       refine x_done <| ?_
       refine x_fin ⟨⟨_, rfl⟩, rfl, ?_⟩
       exact Eq.mp (by kernel_rfl) hS
      ·intro Ep12 w l' hE12 hO12 hF_ hS
       obtain ⟨q3j, q3k, -⟩ := hF_
       replace q3j : Ep12 51 = .slice q0m q0h.length c_b7_2_L9h := Eq.mp (by kernel_rfl) q3j
       replace q3k : Ep12 56 = .slice (some ⟨(blkOf (Ep12 56)), 0, none⟩) 1 1 := Eq.mp (by kernel_rfl) q3k
       replace hS : St w0 w (cells (blkOf (Ep12 56)) 68 [.string x47, .int .i64 q0y.1] :: ro ρ :: vec 68 R_clocks_Output.sz (.slice q0m q0h.length c_b7_2_L9h) q0h.length q15 :: l') := Eq.mp (by kernel_rfl) hS
       refine o_ap sl_38 zero_68 rfl (by decide) q3j q3k (hS.pull 2) q20 (src_blk usl_38 hS rfl rfl) (RepL.cons (R := R_clocks_Output) (ρ := ρ) (x := (T_clocks_Output.mk x47 q0y.1)) (cs := [.string x47, .int .i64 q0y.1]) rfl RepL.nil) q76 q77 (fun A57 c57 cs57 w' hr57 hS => ?_)
       refine x_done <| ?_
       refine x_fin ⟨⟨_, rfl⟩, rfl, ?_⟩
       replace hS := St.bun (Φ := (fun (cs57 : List Value) => RepL R_clocks_Output ρ q13 cs57)) (L := (fun (cs57 : List Value) => [vec 68 R_clocks_Output.sz (.slice A57 q13.length c57) q13.length cs57])) cs57 hr57 hS
       exact Eq.mp (by kernel_rfl) ((hS.pull 2).pull 2)
      ·intro Ep12 w l' hE12 hO12 hF_ hS
       refine p (yl_field0 fld_41_2 ((hE12 7 rfl).trans q3b)) <| x_done <| ?_
       refine x_fin ⟨⟨_, rfl⟩, rfl, ?_⟩
       exact Eq.mp (by kernel_rfl) hS
      ·intro Ep12 w l' hE12 hO12 hF_ hS
       obtain ⟨q3l, q3m, -⟩ := hF_
       replace q3l : Ep12 57 = .slice (adOf (Ep12 57)) q13.length (capOf (Ep12 57)) := Eq.mp (by kernel_rfl) q3l
       replace q3m : Ep12 58 = .pointer (some ⟨b7, 2, none⟩) := Eq.mp (by kernel_rfl) q3m
       replace hS : St w0 w (cells b7 41 [.int .i64 q0j.1, .slice q3 q2.length c_b7_1_L3, .slice q0m q0h.length c_b7_2_L9h, .slice none 0 0] :: l') := Eq.mp (by kernel_rfl) hS
       refine o_store1 (v := .slice (adOf (Ep12 57)) q13.length (capOf (Ep12 57))) one_38 q3m q3l rfl rfl hS (fun w' hS => ?_)
       refine x_done <| ?_
       refine x_fin ⟨⟨undef, rfl⟩, trivial, ?_⟩
       exact Eq.mp (by kernel_rfl) hS
     intro Ep12 w' hE12 hF_ hS
     obtain ⟨q3e, q3j, q3g, q3f, q3h, q3i, q3k, q3l, q3m, -⟩ := hF_
     replace q3e : Ep12 50 = .pointer (some ⟨b7, 2, none⟩) := Eq.mp (by kernel_rfl) q3e
     replace q3j : Ep12 51 = .slice q0m q0h.length c_b7_2_L9h := Eq.mp (by kernel_rfl) q3j
     replace q3g : Ep12 52 = .string x47 := Eq.mp (by kernel_rfl) q3g
     replace q3f : Ep12 53 = .pointer (some ⟨q9, 0, none⟩) := Eq.mp (by kernel_rfl) q3f
     replace q3h : Ep12 54 = .int .i64 q0y.1 := Eq.mp (by kernel_rfl) q3h
     replace q3i : Ep12 55 = .agg #[.string x47, .int .i64 q0y.1] := Eq.mp (by kernel_rfl) q3i
     replace q3k : Ep12 56 = .slice (some ⟨(blkOf (Ep12 56)), 0, none⟩) 1 1 := Eq.mp (by kernel_rfl) q3k
     replace q3l : Ep12 57 = .slice (adOf (Ep12 57)) q13.length (capOf (Ep12 57)) := Eq.mp (by kernel_rfl) q3l
     replace q3m : Ep12 58 = .pointer (some ⟨b7, 2, none⟩) := Eq.mp (by kernel_rfl) q3m
     replace hS : St w0 w' (ro ρ :: cells q9 25 [.slice q0c s0.L.length c_s0_0, .int .i64 q0y.2] :: cells (blkOf (Ep12 56)) 68 [.string x47, .int .i64 q0y.1] :: bunA (fun (cs57 : List Value) => RepL R_clocks_Output ρ q13 cs57) (fun (cs57 : List Value) => [vec 68 R_clocks_Output.sz (.slice (adOf (Ep12 57)) q13.length (capOf (Ep12 57))) q13.length cs57]) :: cells b7 41 [.int .i64 q0j.1, .slice q3 q2.length c_b7_1_L3, .slice (adOf (Ep12 57)) q13.length (capOf (Ep12 57)), .slice none 0 0] :: (cells b4 30 [.slice q0q n1.In.length c_n1_0, .slice q0r n1.Out.length c_n1_1, .slice q0x n1.Flops.length c_n1_2, .slice q10 n1.Gates.length c_n1_3, .slice q11 n1.Outs.length c_n1_4] :: cells b6 41 [.int .i64 0, .slice none 0 0, .slice none 0 0, .slice none 0 0] :: vec 66 R_clocks_Input.sz (.slice q3 q2.length c_b7_1_L3) q2.length q0d :: l)) := Eq.mp (by kernel_rfl) hS
     have q_ := St.unbun (hS.pull 3); obtain ⟨cs57, hr57, hS⟩ := q_
     exact x_inv ⟨(adOf (Ep12 57)), q13.length, (capOf (Ep12 57)), cs57, q0y.2, q13, (Option.some.inj (show some _ = some _ from hFc49)), ((hE12 0 rfl).trans q3a), ((hE12 2 rfl).trans q5m), ((hE12 4 rfl).trans q5n), ((hE12 6 rfl).trans q5o), ((hE12 7 rfl).trans q3b), ((hE12 42 rfl).trans q59), ((hE12 43 rfl).trans q5a), ((hE12 44 rfl).trans q3d), hr57, ((((((((hS.pull 3).drop.pull 1).pull 1).pull 6).pull 4).pull 6).pull 6).pull 6)⟩
    ·replace hFc49 := it_bf hc49 hFc49
     refine x_skip <| ?_
     exact x_inv ⟨q0m, q0h.length, c_b7_2_L9h, q15, q5g.2, q0h, (Option.some.inj (show some _ = some _ from hFc49)), q3a, q5m, q5n, q5o, q3b, q59, q5a, q3d, q20, (((((((hS.pull 1).pull 6).pull 6).pull 6).pull 6).pull 6).pull 6)⟩
   rintro E w ⟨q21, q22, c_b7_2_c49, q1k, q23, q2a, rfl, q78, q79, q7a, q7b, q7c, q6k, q6l, q6m, q4u, hS⟩
   have e_ := St.vec_n (hS.pull 5) q4u; subst e_
   replace hFL9 := ar_s hFL9; obtain ⟨x59, hx59, hFL9⟩ := hFL9
   refine x_blk <| x_region <| p (yadd q6m rfl hx59) <| p (yl_move rfl) <|
    x_done <| ?_
   have e_ := Option.some.inj (show some _ = some _ from hFL9); subst e_
   exact x_inv ⟨kL9, Nat.lt_succ_self _, q21, q2a.length, c_b7_2_c49, q1k, x59, q23, q2a, hLL9, q78, q79, q7a, q7b, q7c, q6k, q6l, rfl, q4u, (((((((hS.pull 6).pull 6).pull 6).pull 6).pull 6).pull 6).pull 6)⟩
  ·replace hFL9 := it_f hc45 hFL9
   refine x_exitTo _ rfl <| ?_
   have e_ := Option.some.inj (show some _ = some _ from hFL9); subst e_
   exact x_inv ⟨q0m, q0h.length, c_b7_2_L9h, q15, q1z, q0h, hLL9, q3a, q5m, q5n, q5o, q3b, q20, (((((((hS.pull 6).pull 6).pull 6).pull 6).pull 6).pull 6).pull 6)⟩
 rintro E w ⟨q8, q2g, c_b7_2_L9, q0n, q1e, q7, rfl, q8a, q8b, q61, q8c, q8d, q5f, hS⟩
 have e_ := St.vec_n (hS.pull 5) q5f; subst e_
 refine x_seq <| ?_
 replace hF := lv_s hF; obtain ⟨q17, q7d, hF⟩ := hF
 replace hF := ck_s hF; obtain ⟨q7e, hF⟩ := hF
 replace hF := lv_s hF; obtain ⟨q18, q7f, hF⟩ := hF
 replace hF := ck_s hF; obtain ⟨q7g, hF⟩ := hF
 refine x_par (w0 := w0) [⟨[], [], [60], [], [], [0]⟩, ⟨[], [], [61], [], [], []⟩, ⟨[1], [1], [62], [1], [], []⟩, ⟨[0, 1, 2], [0, 2], [63], [2], [0], [3]⟩, ⟨[], [], [64], [], [], [4]⟩, ⟨[], [], [65], [], [], []⟩, ⟨[5], [5], [66], [1], [], []⟩, ⟨[0, 1, 2, 3, 4, 5, 6], [4, 6], [67], [2], [4], [5]⟩, ⟨[0, 1, 2, 3, 4, 5, 6, 7], [3], [12, 63], [], [], []⟩, ⟨[0, 1, 2, 3, 4, 5, 6, 7, 8], [7], [13, 67], [], [], []⟩] [⟨(some 0), (some 3), [60]⟩, ⟨none, none, []⟩, ⟨none, none, []⟩, ⟨(some 3), none, [63]⟩, ⟨(some 4), (some 7), [64]⟩, ⟨(some 7), none, [67]⟩] [12, 13, 60, 61, 62, 63, 64, 65, 66, 67] [1, 2] [1, 2, 3, 5] [0, 1, 2, 3, 4, 5, 6, 7, 8, 9] [fun Ep14 => Ep14 60 = .slice (some ⟨(blkOf (Ep14 60)), 0, none⟩) 1 1, fun Ep14 => Ep14 61 = .pointer (some ⟨b4, 0, none⟩), fun Ep14 => Ep14 62 = .slice q0q n1.In.length c_n1_0, fun Ep14 => Ep14 63 = .slice (adOf (Ep14 63)) q17.length (capOf (Ep14 63)), fun Ep14 => Ep14 64 = .slice (some ⟨(blkOf (Ep14 64)), 0, none⟩) 1 1, fun Ep14 => Ep14 65 = .pointer (some ⟨b4, 1, none⟩), fun Ep14 => Ep14 66 = .slice q0r n1.Out.length c_n1_1, fun Ep14 => Ep14 67 = .slice (adOf (Ep14 67)) q18.length (capOf (Ep14 67)), fun Ep14 => Ep14 12 = .slice (adOf (Ep14 63)) q17.length (capOf (Ep14 63)), fun Ep14 => Ep14 13 = .slice (adOf (Ep14 67)) q18.length (capOf (Ep14 67))] [fun Ep14 => cells (blkOf (Ep14 60)) 9 [.string (⟨#[]⟩ : ByteArray)], fun Ep14 => cells b4 30 [.slice q0q n1.In.length c_n1_0, .slice q0r n1.Out.length c_n1_1, .slice q0x n1.Flops.length c_n1_2, .slice q10 n1.Gates.length c_n1_3, .slice q11 n1.Outs.length c_n1_4], fun Ep14 => ro ρ, fun Ep14 => bunA (fun (cs63 : List Value) => RepL RpS ρ q17 cs63) (fun (cs63 : List Value) => [vec 9 RpS.sz (.slice (adOf (Ep14 63)) q17.length (capOf (Ep14 63))) q17.length cs63]), fun Ep14 => cells (blkOf (Ep14 64)) 9 [.string (⟨#[]⟩ : ByteArray)], fun Ep14 => bunA (fun (cs67 : List Value) => RepL RpS ρ q18 cs67) (fun (cs67 : List Value) => [vec 9 RpS.sz (.slice (adOf (Ep14 67)) q18.length (capOf (Ep14 67))) q18.length cs67])] mixed (by kernel_rfl) ((hS.pull 6).pull 2) ?_ ?_
 ·refine ⟨?_, ?_, ?_, ?_, ?_, ?_, ?_, ?_, ?_, ?_, trivial⟩
  ·intro Ep14 w l' hE14 hO14 hF_ hS
   refine o_buildSlice (vs := [.string (⟨#[]⟩ : ByteArray)]) (cs := [.string (⟨#[]⟩ : ByteArray)]) sl_26 zero_9 (parts_eq (pt (va := .string (⟨#[]⟩ : ByteArray)) rfl pt0)) rfl (by intro v hv; simp only [List.mem_cons, List.not_mem_nil, or_false] at hv; first | (subst hv; rfl) | (rcases hv with rfl <;> rfl)) (by decide) rfl hS (fun b60 w' hS => ?_)
   refine x_done <| ?_
   refine x_fin ⟨⟨_, rfl⟩, rfl, ?_⟩
   exact Eq.mp (by kernel_rfl) hS
  ·intro Ep14 w l' hE14 hO14 hF_ hS
   refine p (yl_field0 fld_30_0 ((hE14 4 rfl).trans q61)) <| x_done <| ?_
   refine x_fin ⟨⟨_, rfl⟩, rfl, ?_⟩
   exact Eq.mp (by kernel_rfl) hS
  ·intro Ep14 w l' hE14 hO14 hF_ hS
   obtain ⟨q3n, -⟩ := hF_
   replace q3n : Ep14 61 = .pointer (some ⟨b4, 0, none⟩) := Eq.mp (by kernel_rfl) q3n
   replace hS : St w0 w (cells b4 30 [.slice q0q n1.In.length c_n1_0, .slice q0r n1.Out.length c_n1_1, .slice q0x n1.Flops.length c_n1_2, .slice q10 n1.Gates.length c_n1_3, .slice q11 n1.Outs.length c_n1_4] :: l') := Eq.mp (by kernel_rfl) hS
   refine pa (at_load one_26 q3n (hS.cell rfl)) <| x_done <| ?_
   refine x_fin ⟨⟨_, rfl⟩, rfl, ?_⟩
   exact Eq.mp (by kernel_rfl) hS
  ·intro Ep14 w l' hE14 hO14 hF_ hS
   obtain ⟨q3o, q3p, -⟩ := hF_
   replace q3o : Ep14 60 = .slice (some ⟨(blkOf (Ep14 60)), 0, none⟩) 1 1 := Eq.mp (by kernel_rfl) q3o
   replace q3p : Ep14 62 = .slice q0q n1.In.length c_n1_0 := Eq.mp (by kernel_rfl) q3p
   replace hS : St w0 w (ro ρ :: cells (blkOf (Ep14 60)) 9 [.string (⟨#[]⟩ : ByteArray)] :: l') := Eq.mp (by kernel_rfl) hS
   have q7h : RepL RpS ρ ([(⟨#[]⟩ : ByteArray)] : List ByteArray) [.string (⟨#[]⟩ : ByteArray)] := (RepL.cons (cs := [.string (⟨#[]⟩ : ByteArray)]) rfl RepL.nil)
   replace hS := St.vec_of (n := 1) (sz := RpS.sz) (hS.pull 1) rfl (by decide)
   have q_ := src_f usl_26 (hS.pull 1) q4m; obtain ⟨nw63, hnw63, src63⟩ := q_
   refine o_ap sl_26 zero_9 rfl (by decide) q3o q3p hS q7h src63 hnw63 q7d q7e (fun A63 c63 cs63 w' hr63 hS => ?_)
   refine x_done <| ?_
   refine x_fin ⟨⟨_, rfl⟩, rfl, ?_⟩
   replace hS := St.bun (Φ := (fun (cs63 : List Value) => RepL RpS ρ q17 cs63)) (L := (fun (cs63 : List Value) => [vec 9 RpS.sz (.slice A63 q17.length c63) q17.length cs63])) cs63 hr63 hS
   exact Eq.mp (by kernel_rfl) (hS.pull 1)
  ·intro Ep14 w l' hE14 hO14 hF_ hS
   refine o_buildSlice (vs := [.string (⟨#[]⟩ : ByteArray)]) (cs := [.string (⟨#[]⟩ : ByteArray)]) sl_26 zero_9 (parts_eq (pt (va := .string (⟨#[]⟩ : ByteArray)) rfl pt0)) rfl (by intro v hv; simp only [List.mem_cons, List.not_mem_nil, or_false] at hv; first | (subst hv; rfl) | (rcases hv with rfl <;> rfl)) (by decide) rfl hS (fun b64 w' hS => ?_)
   refine x_done <| ?_
   refine x_fin ⟨⟨_, rfl⟩, rfl, ?_⟩
   exact Eq.mp (by kernel_rfl) hS
  ·intro Ep14 w l' hE14 hO14 hF_ hS
   refine p (yl_field0 fld_30_1 ((hE14 4 rfl).trans q61)) <| x_done <| ?_
   refine x_fin ⟨⟨_, rfl⟩, rfl, ?_⟩
   exact Eq.mp (by kernel_rfl) hS
  ·intro Ep14 w l' hE14 hO14 hF_ hS
   obtain ⟨q3q, -⟩ := hF_
   replace q3q : Ep14 65 = .pointer (some ⟨b4, 1, none⟩) := Eq.mp (by kernel_rfl) q3q
   replace hS : St w0 w (cells b4 30 [.slice q0q n1.In.length c_n1_0, .slice q0r n1.Out.length c_n1_1, .slice q0x n1.Flops.length c_n1_2, .slice q10 n1.Gates.length c_n1_3, .slice q11 n1.Outs.length c_n1_4] :: l') := Eq.mp (by kernel_rfl) hS
   refine pa (at_load one_26 q3q (hS.cell rfl)) <| x_done <| ?_
   refine x_fin ⟨⟨_, rfl⟩, rfl, ?_⟩
   exact Eq.mp (by kernel_rfl) hS
  ·intro Ep14 w l' hE14 hO14 hF_ hS
   obtain ⟨q3r, q3s, -⟩ := hF_
   replace q3r : Ep14 64 = .slice (some ⟨(blkOf (Ep14 64)), 0, none⟩) 1 1 := Eq.mp (by kernel_rfl) q3r
   replace q3s : Ep14 66 = .slice q0r n1.Out.length c_n1_1 := Eq.mp (by kernel_rfl) q3s
   replace hS : St w0 w (ro ρ :: cells (blkOf (Ep14 64)) 9 [.string (⟨#[]⟩ : ByteArray)] :: l') := Eq.mp (by kernel_rfl) hS
   have q7i : RepL RpS ρ ([(⟨#[]⟩ : ByteArray)] : List ByteArray) [.string (⟨#[]⟩ : ByteArray)] := (RepL.cons (cs := [.string (⟨#[]⟩ : ByteArray)]) rfl RepL.nil)
   replace hS := St.vec_of (n := 1) (sz := RpS.sz) (hS.pull 1) rfl (by decide)
   have q_ := src_f usl_26 (hS.pull 1) q4n; obtain ⟨nw67, hnw67, src67⟩ := q_
   refine o_ap sl_26 zero_9 rfl (by decide) q3r q3s hS q7i src67 hnw67 q7f q7g (fun A67 c67 cs67 w' hr67 hS => ?_)
   refine x_done <| ?_
   refine x_fin ⟨⟨_, rfl⟩, rfl, ?_⟩
   replace hS := St.bun (Φ := (fun (cs67 : List Value) => RepL RpS ρ q18 cs67)) (L := (fun (cs67 : List Value) => [vec 9 RpS.sz (.slice A67 q18.length c67) q18.length cs67])) cs67 hr67 hS
   exact Eq.mp (by kernel_rfl) (hS.pull 1)
  ·intro Ep14 w l' hE14 hO14 hF_ hS
   obtain ⟨q3t, -⟩ := hF_
   replace q3t : Ep14 63 = .slice (adOf (Ep14 63)) q17.length (capOf (Ep14 63)) := Eq.mp (by kernel_rfl) q3t
   refine p (yl_assign q3t) <| x_done <| ?_
   refine x_fin ⟨⟨_, rfl⟩, rfl, ?_⟩
   exact Eq.mp (by kernel_rfl) hS
  ·intro Ep14 w l' hE14 hO14 hF_ hS
   obtain ⟨q3u, -⟩ := hF_
   replace q3u : Ep14 67 = .slice (adOf (Ep14 67)) q18.length (capOf (Ep14 67)) := Eq.mp (by kernel_rfl) q3u
   refine p (yl_assign q3u) <| x_done <| ?_
   refine x_fin ⟨⟨_, rfl⟩, rfl, ?_⟩
   exact Eq.mp (by kernel_rfl) hS
 intro Ep14 w' hE14 hF_ hS
 obtain ⟨q3o, q3n, q3p, q3t, q3r, q3q, q3s, q3u, q62, q63, -⟩ := hF_
 replace q3o : Ep14 60 = .slice (some ⟨(blkOf (Ep14 60)), 0, none⟩) 1 1 := Eq.mp (by kernel_rfl) q3o
 replace q3n : Ep14 61 = .pointer (some ⟨b4, 0, none⟩) := Eq.mp (by kernel_rfl) q3n
 replace q3p : Ep14 62 = .slice q0q n1.In.length c_n1_0 := Eq.mp (by kernel_rfl) q3p
 replace q3t : Ep14 63 = .slice (adOf (Ep14 63)) q17.length (capOf (Ep14 63)) := Eq.mp (by kernel_rfl) q3t
 replace q3r : Ep14 64 = .slice (some ⟨(blkOf (Ep14 64)), 0, none⟩) 1 1 := Eq.mp (by kernel_rfl) q3r
 replace q3q : Ep14 65 = .pointer (some ⟨b4, 1, none⟩) := Eq.mp (by kernel_rfl) q3q
 replace q3s : Ep14 66 = .slice q0r n1.Out.length c_n1_1 := Eq.mp (by kernel_rfl) q3s
 replace q3u : Ep14 67 = .slice (adOf (Ep14 67)) q18.length (capOf (Ep14 67)) := Eq.mp (by kernel_rfl) q3u
 replace q62 : Ep14 12 = .slice (adOf (Ep14 63)) q17.length (capOf (Ep14 63)) := Eq.mp (by kernel_rfl) q62
 replace q63 : Ep14 13 = .slice (adOf (Ep14 67)) q18.length (capOf (Ep14 67)) := Eq.mp (by kernel_rfl) q63
 replace hS : St w0 w' (cells b4 30 [.slice q0q n1.In.length c_n1_0, .slice q0r n1.Out.length c_n1_1, .slice q0x n1.Flops.length c_n1_2, .slice q10 n1.Gates.length c_n1_3, .slice q11 n1.Outs.length c_n1_4] :: ro ρ :: bunA (fun (cs63 : List Value) => RepL RpS ρ q17 cs63) (fun (cs63 : List Value) => [vec 9 RpS.sz (.slice (adOf (Ep14 63)) q17.length (capOf (Ep14 63))) q17.length cs63]) :: bunA (fun (cs67 : List Value) => RepL RpS ρ q18 cs67) (fun (cs67 : List Value) => [vec 9 RpS.sz (.slice (adOf (Ep14 67)) q18.length (capOf (Ep14 67))) q18.length cs67]) :: (cells q9 25 [.slice q0c s0.L.length c_s0_0, .int .i64 q1e] :: cells b6 41 [.int .i64 0, .slice none 0 0, .slice none 0 0, .slice none 0 0] :: cells b7 41 [.int .i64 q0j.1, .slice q3 q2.length c_b7_1_L3, .slice q8 q7.length c_b7_2_L9, .slice none 0 0] :: vec 66 R_clocks_Input.sz (.slice q3 q2.length c_b7_1_L3) q2.length q0d :: vec 68 R_clocks_Output.sz (.slice q8 q7.length c_b7_2_L9) q7.length q0n :: l)) := Eq.mp (by kernel_rfl) hS
 have q_ := St.unbun (hS.pull 2); obtain ⟨cs63, hr63, hS⟩ := q_
 have q_ := St.unbun (hS.pull 3); obtain ⟨cs67, hr67, hS⟩ := q_
 refine x_seq <| x_seq <| x_region <| p (yl_field0 fld_30_2 ((hE14 4 rfl).trans q61)) <|
  pa (at_load one_27 rfl ((hS.pull 2).cell rfl)) <| p (yl_len_slice usl_27 rfl) <| p (yl_move rfl) <| x_done <| ?_
 replace hF := bd_s hF; obtain ⟨oL16, hLL16, hF⟩ := hF
 refine x_join (fun E w => ∃ (q6 : Option Addr) (q1h : Nat) (c_from12_L16 : Nat) (q0o : List Value) (q0b : Option Addr) (q24 : Nat) (c_to13_L16 : Nat) (q0u : List Value) (q4 : List ByteArray) (q0a : List ByteArray), (q4, q0a) = oL16 ∧ E 0 = .pointer (some ⟨q9, 0, none⟩) ∧ E 2 = .bool paths2 ∧ E 6 = .pointer (some ⟨b6, 0, none⟩) ∧ E 7 = .pointer (some ⟨b7, 0, none⟩) ∧ E 12 = .slice q6 q1h c_from12_L16 ∧ E 13 = .slice q0b q24 c_to13_L16 ∧ RepL RpS ρ q4 q0o ∧ RepL RpS ρ q0a q0u ∧ St w0 w (cells q9 25 [.slice q0c s0.L.length c_s0_0, .int .i64 q1e] :: cells b6 41 [.int .i64 0, .slice none 0 0, .slice none 0 0, .slice none 0 0] :: cells b7 41 [.int .i64 q0j.1, .slice q3 q2.length c_b7_1_L3, .slice q8 q7.length c_b7_2_L9, .slice none 0 0] :: vec 9 RpS.sz (.slice q6 q1h c_from12_L16) q1h q0o :: vec 9 RpS.sz (.slice q0b q24 c_to13_L16) q24 q0u :: vec 66 R_clocks_Input.sz (.slice q3 q2.length c_b7_1_L3) q2.length q0d :: vec 68 R_clocks_Output.sz (.slice q8 q7.length c_b7_2_L9) q7.length q0n :: ro ρ :: l)) ?_ ?_
 ·refine x_block ?_
  refine x_loop (fun k_ E w => ∃ (q0p : Option Addr) (q1g : Nat) (c_from12_L16h : Nat) (q0z : List Value) (q0v : Option Addr) (q1l : Nat) (c_to13_L16h : Nat) (q1b : List Value) (q0i : List ByteArray) (q0t : List ByteArray) (q33 : Int), lp (P_maskmake_Stream_Limits_L16 n1) k_ (q0i, q0t, q33) = some oL16 ∧ E 0 = .pointer (some ⟨q9, 0, none⟩) ∧ E 2 = .bool paths2 ∧ E 6 = .pointer (some ⟨b6, 0, none⟩) ∧ E 7 = .pointer (some ⟨b7, 0, none⟩) ∧ E 12 = .slice q0p q1g c_from12_L16h ∧ E 13 = .slice q0v q1l c_to13_L16h ∧ E 69 = .slice q0x n1.Flops.length c_n1_2 ∧ E 70 = .int .i64 (n1.Flops.length : Int) ∧ E 71 = .int .i64 q33 ∧ RepL RpS ρ q0i q0z ∧ RepL RpS ρ q0t q1b ∧ St w0 w (cells q9 25 [.slice q0c s0.L.length c_s0_0, .int .i64 q1e] :: cells b6 41 [.int .i64 0, .slice none 0 0, .slice none 0 0, .slice none 0 0] :: cells b7 41 [.int .i64 q0j.1, .slice q3 q2.length c_b7_1_L3, .slice q8 q7.length c_b7_2_L9, .slice none 0 0] :: vec 9 RpS.sz (.slice q0p q1g c_from12_L16h) q1g q0z :: vec 9 RpS.sz (.slice q0v q1l c_to13_L16h) q1l q1b :: vec 66 R_clocks_Input.sz (.slice q3 q2.length c_b7_1_L3) q2.length q0d :: vec 68 R_clocks_Output.sz (.slice q8 q7.length c_b7_2_L9) q7.length q0n :: ro ρ :: l)) fuel ⟨(adOf (Ep14 63)), q17.length, (capOf (Ep14 63)), cs63, (adOf (Ep14 67)), q18.length, (capOf (Ep14 67)), cs67, q17, q18, 0, hLL16, ((hE14 0 rfl).trans q8a), ((hE14 2 rfl).trans q8b), ((hE14 6 rfl).trans q8c), ((hE14 7 rfl).trans q8d), q62, q63, rfl, rfl, rfl, hr63, hr67, (((((((((hS.pull 2).drop.pull 2).pull 7).pull 7).pull 3).pull 4).pull 7).pull 7).pull 7)⟩ ?_
  rintro kL16 E w ⟨q0p, q1g, c_from12_L16h, q0z, q0v, q1l, c_to13_L16h, q1b, q0i, q0t, q33, hLL16, q5v, q5w, q5x, q5y, q5p, q5q, q5r, q5s, q4i, q1r, q2i, hS⟩
  have e_ := St.vec_n (hS.pull 3) q1r; subst e_
  have e_ := St.vec_n (hS.pull 4) q2i; subst e_
  replace hLL16 := lp_s hLL16; obtain ⟨kL16, obL16, rfl, hFL16, hLL16⟩ := hLL16
  refine x_seq <| x_region <| p (yl_lss q4i q5s) <| x_done <|
   x_seq <|
   x_cond_p (q33 < (n1.Flops.length : Int)) rfl (fun hc72 => ?_) (fun hc72 => ?_)
  ·replace hFL16 := it_t hc72 hFL16
   replace hFL16 := ck_s hFL16; obtain ⟨q6a, hFL16⟩ := hFL16
   replace hFL16 := lv_s hFL16; obtain ⟨q5, q7j, hFL16⟩ := hFL16
   have q_ := q5i.get q6a; obtain ⟨q8e, q6b, q7k⟩ := q_
   rw [← q7j] at q6b
   have e_ := q6b; subst e_
   refine x_skip <| x_seq <| x_block <| x_seq <|
    x_region <| p (yix_f sl_27 q5r q4i q5i q6a) <| pa (v := .agg #[.string q5.Name, .int .i64 q5.Cell, .int .i64 q5.D, .int .i64 q5.En, .bool q5.Init]) (at_loadAgg agg_58 rfl rfl (Elt.every q7k (hS.pull 7))) <| ?_
   refine o_alloc zero_58 hS (fun b15 w' hS => ?_)
   refine o_storeAgg (news := [.string q5.Name, .int .i64 q5.Cell, .int .i64 q5.D, .int .i64 q5.En, .bool q5.Init]) agg_58 rfl rfl rfl (by simp [over_length]) hS (fun w' hS => ?_)
   refine x_done <| ?_
   replace hFL16 := lv_s hFL16; obtain ⟨q19, q7l, hFL16⟩ := hFL16
   replace hFL16 := ck_s hFL16; obtain ⟨q7m, hFL16⟩ := hFL16
   replace hFL16 := lv_s hFL16; obtain ⟨q1a, q7n, hFL16⟩ := hFL16
   replace hFL16 := ck_s hFL16; obtain ⟨q7o, hFL16⟩ := hFL16
   refine x_par (w0 := w0) [⟨[], [], [75], [], [], []⟩, ⟨[], [], [76], [], [], []⟩, ⟨[1], [1], [77], [0], [], []⟩, ⟨[1, 2], [2], [78], [], [], [1]⟩, ⟨[0, 1, 2, 3], [0, 3], [79], [1, 3], [2], [4]⟩, ⟨[], [], [80], [], [], []⟩, ⟨[], [], [81], [], [], []⟩, ⟨[6], [6], [82], [0], [], []⟩, ⟨[6, 7], [7], [83], [], [], [5]⟩, ⟨[0, 1, 2, 3, 4, 5, 6, 7, 8], [5, 8], [84], [5, 3], [6], [7]⟩, ⟨[0, 1, 2, 3, 4, 5, 6, 7, 8, 9], [4], [12, 79], [], [], []⟩, ⟨[0, 1, 2, 3, 4, 5, 6, 7, 8, 9, 10], [9], [13, 84], [], [], []⟩] [⟨none, none, []⟩, ⟨(some 3), none, [78]⟩, ⟨none, (some 4), []⟩, ⟨none, none, []⟩, ⟨(some 4), none, [79]⟩, ⟨(some 8), none, [83]⟩, ⟨none, (some 9), []⟩, ⟨(some 9), none, [84]⟩] [12, 13, 75, 76, 77, 78, 79, 80, 81, 82, 83, 84] [0, 2, 3, 6] [0, 1, 3, 4, 5, 7] [0, 1, 2, 3, 4, 5, 6, 7, 8, 9, 10, 11] [fun Ep18 => Ep18 75 = .slice q0p q0i.length c_from12_L16h, fun Ep18 => Ep18 76 = .pointer (some ⟨b15, 0, none⟩), fun Ep18 => Ep18 77 = .string q5.Name, fun Ep18 => Ep18 78 = .slice (some ⟨(blkOf (Ep18 78)), 0, none⟩) 1 1, fun Ep18 => Ep18 79 = .slice (adOf (Ep18 79)) q19.length (capOf (Ep18 79)), fun Ep18 => Ep18 80 = .slice q0v q0t.length c_to13_L16h, fun Ep18 => Ep18 81 = .pointer (some ⟨b15, 0, none⟩), fun Ep18 => Ep18 82 = .string q5.Name, fun Ep18 => Ep18 83 = .slice (some ⟨(blkOf (Ep18 83)), 0, none⟩) 1 1, fun Ep18 => Ep18 84 = .slice (adOf (Ep18 84)) q1a.length (capOf (Ep18 84)), fun Ep18 => Ep18 12 = .slice (adOf (Ep18 79)) q19.length (capOf (Ep18 79)), fun Ep18 => Ep18 13 = .slice (adOf (Ep18 84)) q1a.length (capOf (Ep18 84))] [fun Ep18 => cells b15 58 [.string q5.Name, .int .i64 q5.Cell, .int .i64 q5.D, .int .i64 q5.En, .bool q5.Init], fun Ep18 => cells (blkOf (Ep18 78)) 9 [.string q5.Name], fun Ep18 => vec 9 RpS.sz (.slice q0p q0i.length c_from12_L16h) q0i.length q0z, fun Ep18 => ro ρ, fun Ep18 => bunA (fun (cs79 : List Value) => RepL RpS ρ q19 cs79) (fun (cs79 : List Value) => [vec 9 RpS.sz (.slice (adOf (Ep18 79)) q19.length (capOf (Ep18 79))) q19.length cs79]), fun Ep18 => cells (blkOf (Ep18 83)) 9 [.string q5.Name], fun Ep18 => vec 9 RpS.sz (.slice q0v q0t.length c_to13_L16h) q0t.length q1b, fun Ep18 => bunA (fun (cs84 : List Value) => RepL RpS ρ q1a cs84) (fun (cs84 : List Value) => [vec 9 RpS.sz (.slice (adOf (Ep18 84)) q1a.length (capOf (Ep18 84))) q1a.length cs84])] mixed (by kernel_rfl) ((((hS.pull 5).pull 8).pull 6).pull 3) ?_ ?_
   ·refine ⟨?_, ?_, ?_, ?_, ?_, ?_, ?_, ?_, ?_, ?_, ?_, ?_, trivial⟩
    ·intro Ep18 w l' hE18 hO18 hF_ hS
     refine p (yl_move ((hO18 12 rfl).trans q5p)) <| x_done <| ?_
     refine x_fin ⟨⟨_, rfl⟩, rfl, ?_⟩
     exact Eq.mp (by kernel_rfl) hS
    ·intro Ep18 w l' hE18 hO18 hF_ hS
     refine p (yl_field0 fld_58_0 (hE18 15 rfl)) <| x_done <| ?_
     refine x_fin ⟨⟨_, rfl⟩, rfl, ?_⟩
     exact Eq.mp (by kernel_rfl) hS
    ·intro Ep18 w l' hE18 hO18 hF_ hS
     obtain ⟨q3v, -⟩ := hF_
     replace q3v : Ep18 76 = .pointer (some ⟨b15, 0, none⟩) := Eq.mp (by kernel_rfl) q3v
     replace hS : St w0 w (cells b15 58 [.string q5.Name, .int .i64 q5.Cell, .int .i64 q5.D, .int .i64 q5.En, .bool q5.Init] :: l') := Eq.mp (by kernel_rfl) hS
     refine pa (at_load one_9 q3v (hS.cell rfl)) <| x_done <| ?_
     refine x_fin ⟨⟨_, rfl⟩, rfl, ?_⟩
     exact Eq.mp (by kernel_rfl) hS
    ·intro Ep18 w l' hE18 hO18 hF_ hS
     obtain ⟨q3w, -⟩ := hF_
     replace q3w : Ep18 77 = .string q5.Name := Eq.mp (by kernel_rfl) q3w
     refine o_buildSlice (vs := [.string q5.Name]) (cs := [.string q5.Name]) sl_26 zero_9 (parts_eq (pt (va := .string q5.Name) q3w pt0)) rfl (by intro v hv; simp only [List.mem_cons, List.not_mem_nil, or_false] at hv; first | (subst hv; rfl) | (rcases hv with rfl <;> rfl)) (by decide) rfl hS (fun b78 w' hS => ?_)
     refine x_done <| ?_
     refine x_fin ⟨⟨_, rfl⟩, rfl, ?_⟩
     exact Eq.mp (by kernel_rfl) hS
    ·intro Ep18 w l' hE18 hO18 hF_ hS
     obtain ⟨q3x, q3y, -⟩ := hF_
     replace q3x : Ep18 75 = .slice q0p q0i.length c_from12_L16h := Eq.mp (by kernel_rfl) q3x
     replace q3y : Ep18 78 = .slice (some ⟨(blkOf (Ep18 78)), 0, none⟩) 1 1 := Eq.mp (by kernel_rfl) q3y
     replace hS : St w0 w (cells (blkOf (Ep18 78)) 9 [.string q5.Name] :: ro ρ :: vec 9 RpS.sz (.slice q0p q0i.length c_from12_L16h) q0i.length q0z :: l') := Eq.mp (by kernel_rfl) hS
     refine o_ap sl_26 zero_9 rfl (by decide) q3x q3y (hS.pull 2) q1r (src_blk usl_26 hS rfl rfl) (RepL.cons (R := RpS) (ρ := ρ) (x := q5.Name) (cs := [.string q5.Name]) rfl RepL.nil) q7l q7m (fun A79 c79 cs79 w' hr79 hS => ?_)
     refine x_done <| ?_
     refine x_fin ⟨⟨_, rfl⟩, rfl, ?_⟩
     replace hS := St.bun (Φ := (fun (cs79 : List Value) => RepL RpS ρ q19 cs79)) (L := (fun (cs79 : List Value) => [vec 9 RpS.sz (.slice A79 q19.length c79) q19.length cs79])) cs79 hr79 hS
     exact Eq.mp (by kernel_rfl) ((hS.pull 2).pull 2)
    ·intro Ep18 w l' hE18 hO18 hF_ hS
     refine p (yl_move ((hO18 13 rfl).trans q5q)) <| x_done <| ?_
     refine x_fin ⟨⟨_, rfl⟩, rfl, ?_⟩
     exact Eq.mp (by kernel_rfl) hS
    ·intro Ep18 w l' hE18 hO18 hF_ hS
     refine p (yl_field0 fld_58_0 (hE18 15 rfl)) <| x_done <| ?_
     refine x_fin ⟨⟨_, rfl⟩, rfl, ?_⟩
     exact Eq.mp (by kernel_rfl) hS
    ·intro Ep18 w l' hE18 hO18 hF_ hS
     obtain ⟨q3z, -⟩ := hF_
     replace q3z : Ep18 81 = .pointer (some ⟨b15, 0, none⟩) := Eq.mp (by kernel_rfl) q3z
     replace hS : St w0 w (cells b15 58 [.string q5.Name, .int .i64 q5.Cell, .int .i64 q5.D, .int .i64 q5.En, .bool q5.Init] :: l') := Eq.mp (by kernel_rfl) hS
     refine pa (at_load one_9 q3z (hS.cell rfl)) <| x_done <| ?_
     refine x_fin ⟨⟨_, rfl⟩, rfl, ?_⟩
     exact Eq.mp (by kernel_rfl) hS
    ·intro Ep18 w l' hE18 hO18 hF_ hS
     obtain ⟨q40, -⟩ := hF_
     replace q40 : Ep18 82 = .string q5.Name := Eq.mp (by kernel_rfl) q40
     refine o_buildSlice (vs := [.string q5.Name]) (cs := [.string q5.Name]) sl_26 zero_9 (parts_eq (pt (va := .string q5.Name) q40 pt0)) rfl (by intro v hv; simp only [List.mem_cons, List.not_mem_nil, or_false] at hv; first | (subst hv; rfl) | (rcases hv with rfl <;> rfl)) (by decide) rfl hS (fun b83 w' hS => ?_)
     refine x_done <| ?_
     refine x_fin ⟨⟨_, rfl⟩, rfl, ?_⟩
     exact Eq.mp (by kernel_rfl) hS
    ·intro Ep18 w l' hE18 hO18 hF_ hS
     obtain ⟨q41, q42, -⟩ := hF_
     replace q41 : Ep18 80 = .slice q0v q0t.length c_to13_L16h := Eq.mp (by kernel_rfl) q41
     replace q42 : Ep18 83 = .slice (some ⟨(blkOf (Ep18 83)), 0, none⟩) 1 1 := Eq.mp (by kernel_rfl) q42
     replace hS : St w0 w (cells (blkOf (Ep18 83)) 9 [.string q5.Name] :: ro ρ :: vec 9 RpS.sz (.slice q0v q0t.length c_to13_L16h) q0t.length q1b :: l') := Eq.mp (by kernel_rfl) hS
     refine o_ap sl_26 zero_9 rfl (by decide) q41 q42 (hS.pull 2) q2i (src_blk usl_26 hS rfl rfl) (RepL.cons (R := RpS) (ρ := ρ) (x := q5.Name) (cs := [.string q5.Name]) rfl RepL.nil) q7n q7o (fun A84 c84 cs84 w' hr84 hS => ?_)
     refine x_done <| ?_
     refine x_fin ⟨⟨_, rfl⟩, rfl, ?_⟩
     replace hS := St.bun (Φ := (fun (cs84 : List Value) => RepL RpS ρ q1a cs84)) (L := (fun (cs84 : List Value) => [vec 9 RpS.sz (.slice A84 q1a.length c84) q1a.length cs84])) cs84 hr84 hS
     exact Eq.mp (by kernel_rfl) ((hS.pull 2).pull 2)
    ·intro Ep18 w l' hE18 hO18 hF_ hS
     obtain ⟨q43, -⟩ := hF_
     replace q43 : Ep18 79 = .slice (adOf (Ep18 79)) q19.length (capOf (Ep18 79)) := Eq.mp (by kernel_rfl) q43
     refine p (yl_assign q43) <| x_done <| ?_
     refine x_fin ⟨⟨_, rfl⟩, rfl, ?_⟩
     exact Eq.mp (by kernel_rfl) hS
    ·intro Ep18 w l' hE18 hO18 hF_ hS
     obtain ⟨q44, -⟩ := hF_
     replace q44 : Ep18 84 = .slice (adOf (Ep18 84)) q1a.length (capOf (Ep18 84)) := Eq.mp (by kernel_rfl) q44
     refine p (yl_assign q44) <| x_done <| ?_
     refine x_fin ⟨⟨_, rfl⟩, rfl, ?_⟩
     exact Eq.mp (by kernel_rfl) hS
   intro Ep18 w' hE18 hF_ hS
   obtain ⟨q3x, q3v, q3w, q3y, q43, q41, q3z, q40, q42, q44, q5t, q5u, -⟩ := hF_
   replace q3x : Ep18 75 = .slice q0p q0i.length c_from12_L16h := Eq.mp (by kernel_rfl) q3x
   replace q3v : Ep18 76 = .pointer (some ⟨b15, 0, none⟩) := Eq.mp (by kernel_rfl) q3v
   replace q3w : Ep18 77 = .string q5.Name := Eq.mp (by kernel_rfl) q3w
   replace q3y : Ep18 78 = .slice (some ⟨(blkOf (Ep18 78)), 0, none⟩) 1 1 := Eq.mp (by kernel_rfl) q3y
   replace q43 : Ep18 79 = .slice (adOf (Ep18 79)) q19.length (capOf (Ep18 79)) := Eq.mp (by kernel_rfl) q43
   replace q41 : Ep18 80 = .slice q0v q0t.length c_to13_L16h := Eq.mp (by kernel_rfl) q41
   replace q3z : Ep18 81 = .pointer (some ⟨b15, 0, none⟩) := Eq.mp (by kernel_rfl) q3z
   replace q40 : Ep18 82 = .string q5.Name := Eq.mp (by kernel_rfl) q40
   replace q42 : Ep18 83 = .slice (some ⟨(blkOf (Ep18 83)), 0, none⟩) 1 1 := Eq.mp (by kernel_rfl) q42
   replace q44 : Ep18 84 = .slice (adOf (Ep18 84)) q1a.length (capOf (Ep18 84)) := Eq.mp (by kernel_rfl) q44
   replace q5t : Ep18 12 = .slice (adOf (Ep18 79)) q19.length (capOf (Ep18 79)) := Eq.mp (by kernel_rfl) q5t
   replace q5u : Ep18 13 = .slice (adOf (Ep18 84)) q1a.length (capOf (Ep18 84)) := Eq.mp (by kernel_rfl) q5u
   replace hS : St w0 w' (cells b15 58 [.string q5.Name, .int .i64 q5.Cell, .int .i64 q5.D, .int .i64 q5.En, .bool q5.Init] :: cells (blkOf (Ep18 78)) 9 [.string q5.Name] :: ro ρ :: bunA (fun (cs79 : List Value) => RepL RpS ρ q19 cs79) (fun (cs79 : List Value) => [vec 9 RpS.sz (.slice (adOf (Ep18 79)) q19.length (capOf (Ep18 79))) q19.length cs79]) :: cells (blkOf (Ep18 83)) 9 [.string q5.Name] :: bunA (fun (cs84 : List Value) => RepL RpS ρ q1a cs84) (fun (cs84 : List Value) => [vec 9 RpS.sz (.slice (adOf (Ep18 84)) q1a.length (capOf (Ep18 84))) q1a.length cs84]) :: (cells q9 25 [.slice q0c s0.L.length c_s0_0, .int .i64 q1e] :: cells b6 41 [.int .i64 0, .slice none 0 0, .slice none 0 0, .slice none 0 0] :: cells b7 41 [.int .i64 q0j.1, .slice q3 q2.length c_b7_1_L3, .slice q8 q7.length c_b7_2_L9, .slice none 0 0] :: vec 66 R_clocks_Input.sz (.slice q3 q2.length c_b7_1_L3) q2.length q0d :: vec 68 R_clocks_Output.sz (.slice q8 q7.length c_b7_2_L9) q7.length q0n :: l)) := Eq.mp (by kernel_rfl) hS
   have q_ := St.unbun (hS.pull 3); obtain ⟨cs79, hr79, hS⟩ := q_
   have q_ := St.unbun (hS.pull 5); obtain ⟨cs84, hr84, hS⟩ := q_
   replace hFL16 := ar_s hFL16; obtain ⟨x85, hx85, hFL16⟩ := hFL16
   refine x_blk <| x_region <| p (yadd ((hE18 71 rfl).trans q4i) rfl hx85) <| p (yl_move rfl) <|
    x_done <| ?_
   have e_ := Option.some.inj (show some _ = some _ from hFL16); subst e_
   exact x_inv ⟨kL16, Nat.lt_succ_self _, (adOf (Ep18 79)), q19.length, (capOf (Ep18 79)), cs79, (adOf (Ep18 84)), q1a.length, (capOf (Ep18 84)), cs84, q19, q1a, x85, hLL16, ((hE18 0 rfl).trans q5v), ((hE18 2 rfl).trans q5w), ((hE18 6 rfl).trans q5x), ((hE18 7 rfl).trans q5y), q5t, q5u, ((hE18 69 rfl).trans q5r), ((hE18 70 rfl).trans q5s), rfl, hr79, hr84, (((((((((((hS.pull 2).drop.pull 2).drop.pull 3).drop.pull 2).pull 7).pull 7).pull 3).pull 4).pull 7).pull 7).pull 7)⟩
  ·replace hFL16 := it_f hc72 hFL16
   refine x_exitTo _ rfl <| ?_
   have e_ := Option.some.inj (show some _ = some _ from hFL16); subst e_
   exact x_inv ⟨q0p, q0i.length, c_from12_L16h, q0z, q0v, q0t.length, c_to13_L16h, q1b, q0i, q0t, hLL16, q5v, q5w, q5x, q5y, q5p, q5q, q1r, q2i, ((((((((hS.pull 7).pull 7).pull 7).pull 7).pull 7).pull 7).pull 7).pull 7)⟩
 rintro E w ⟨q6, q1h, c_from12_L16, q0o, q0b, q24, c_to13_L16, q0u, q4, q0a, rfl, q6c, q7p, q7q, q7r, q6n, q6o, q2b, q34, hS⟩
 have e_ := St.vec_n (hS.pull 3) q2b; subst e_
 have e_ := St.vec_n (hS.pull 4) q34; subst e_
 replace hF := bd_s hF; obtain ⟨q4v, q7s, hF⟩ := hF
 refine x_seq <| x_seq <| x_region <| p (yl_move q6c) <| ?_
 have hcall := c_maskmake_Stream_Next q7s q1c ((hS.pull 7).pull 1)
 refine o_cc call_6 (args2 rfl rfl) hcall ?_
 rintro e w' ⟨rfl, hS⟩
 refine ⟨_, rfl, ?_⟩
 refine p (yl_move rfl) <| x_done <| ?_
 replace hF := bd_s hF; obtain ⟨oL21, hLL21, hF⟩ := hF
 refine x_join (fun E w => ∃ (q1f : Option Addr) (q25 : Nat) (c_b7_3_L21 : Nat) (q1m : List Value) (q1i : List T_clocks_Path) (q35 : Int), (q1i, q35) = oL21 ∧ E 6 = .pointer (some ⟨b6, 0, none⟩) ∧ E 7 = .pointer (some ⟨b7, 0, none⟩) ∧ RepL R_clocks_Path ρ q1i q1m ∧ St w0 w (cells b6 41 [.int .i64 0, .slice none 0 0, .slice none 0 0, .slice none 0 0] :: cells b7 41 [.int .i64 q0j.1, .slice q3 q2.length c_b7_1_L3, .slice q8 q7.length c_b7_2_L9, .slice q1f q25 c_b7_3_L21] :: cells q9 25 [.slice q0c s0.L.length c_s0_0, .int .i64 q35] :: vec 66 R_clocks_Input.sz (.slice q3 q2.length c_b7_1_L3) q2.length q0d :: vec 68 R_clocks_Output.sz (.slice q8 q7.length c_b7_2_L9) q7.length q0n :: vec 70 R_clocks_Path.sz (.slice q1f q25 c_b7_3_L21) q25 q1m :: ro ρ :: l)) ?_ ?_
 ·refine x_block ?_
  replace hS := St.vec_nil hS 70 R_clocks_Path.sz
  have q4j : RepL R_clocks_Path ρ [] [] := rfl
  refine x_loop (fun k_ E w => ∃ (q0f : Option Addr) (q1n : Nat) (c_b7_3_L21h : Nat) (q12 : List Value) (q2c : Int) (q16 : Int) (q0e : List T_clocks_Path), lp (P_maskmake_Stream_Limits_L21 s0 paths2 q4 q0a q4v) k_ (q2c, q16, q0e) = some oL21 ∧ E 0 = .pointer (some ⟨q9, 0, none⟩) ∧ E 2 = .bool paths2 ∧ E 6 = .pointer (some ⟨b6, 0, none⟩) ∧ E 7 = .pointer (some ⟨b7, 0, none⟩) ∧ E 12 = .slice q6 q4.length c_from12_L16 ∧ E 13 = .slice q0b q0a.length c_to13_L16 ∧ E 87 = .int .i64 q4v.1 ∧ E 88 = .int .i64 q2c ∧ RepL R_clocks_Path ρ q0e q12 ∧ St w0 w (cells q9 25 [.slice q0c s0.L.length c_s0_0, .int .i64 q16] :: cells b6 41 [.int .i64 0, .slice none 0 0, .slice none 0 0, .slice none 0 0] :: cells b7 41 [.int .i64 q0j.1, .slice q3 q2.length c_b7_1_L3, .slice q8 q7.length c_b7_2_L9, .slice q0f q1n c_b7_3_L21h] :: vec 9 RpS.sz (.slice q6 q4.length c_from12_L16) q4.length q0o :: vec 9 RpS.sz (.slice q0b q0a.length c_to13_L16) q0a.length q0u :: vec 66 R_clocks_Input.sz (.slice q3 q2.length c_b7_1_L3) q2.length q0d :: vec 68 R_clocks_Output.sz (.slice q8 q7.length c_b7_2_L9) q7.length q0n :: vec 70 R_clocks_Path.sz (.slice q0f q1n c_b7_3_L21h) q1n q12 :: ro ρ :: l)) fuel ⟨none, 0, 0, [], 0, q4v.2, [], hLL21, q6c, q7p, q7q, q7r, q6n, q6o, rfl, rfl, q4j, (((((((((hS.pull 2).pull 1).pull 8).pull 8).pull 8).pull 8).pull 8).pull 8).pull 8)⟩ ?_
  rintro kL21 E w ⟨q0f, q1n, c_b7_3_L21h, q12, q2c, q16, q0e, hLL21, q2l, q5b, q5c, q2m, q36, q37, q4k, q4l, q1o, hS⟩
  have e_ := St.vec_n (hS.pull 7) q1o; subst e_
  replace hLL21 := lp_s hLL21; obtain ⟨kL21, obL21, rfl, hFL21, hLL21⟩ := hLL21
  refine x_seq <| x_region <| p (yl_lss q4l q4k) <| x_done <|
   x_seq <|
   x_cond_p (q2c < q4v.1) rfl (fun hc89 => ?_) (fun hc89 => ?_)
  ·replace hFL21 := it_t hc89 hFL21
   refine x_skip <| x_seq <| x_block <| x_seq <|
    x_region <| p (yl_move q5b) <| x_done <| ?_
   replace hFL21 := bd_s hFL21; obtain ⟨oc90, hFc90, hFL21⟩ := hFL21
   refine x_join (fun E w => ∃ (q26 : Option Addr) (q27 : Nat) (c_b7_3_c90 : Nat) (q1p : List Value) (q28 : Int) (q2d : List T_clocks_Path), (q28, q2d) = oc90 ∧ E 0 = .pointer (some ⟨q9, 0, none⟩) ∧ E 2 = .bool paths2 ∧ E 6 = .pointer (some ⟨b6, 0, none⟩) ∧ E 7 = .pointer (some ⟨b7, 0, none⟩) ∧ E 12 = .slice q6 q4.length c_from12_L16 ∧ E 13 = .slice q0b q0a.length c_to13_L16 ∧ E 87 = .int .i64 q4v.1 ∧ E 88 = .int .i64 q2c ∧ RepL R_clocks_Path ρ q2d q1p ∧ St w0 w (cells q9 25 [.slice q0c s0.L.length c_s0_0, .int .i64 q28] :: cells b6 41 [.int .i64 0, .slice none 0 0, .slice none 0 0, .slice none 0 0] :: cells b7 41 [.int .i64 q0j.1, .slice q3 q2.length c_b7_1_L3, .slice q8 q7.length c_b7_2_L9, .slice q26 q27 c_b7_3_c90] :: vec 9 RpS.sz (.slice q6 q4.length c_from12_L16) q4.length q0o :: vec 9 RpS.sz (.slice q0b q0a.length c_to13_L16) q0a.length q0u :: vec 66 R_clocks_Input.sz (.slice q3 q2.length c_b7_1_L3) q2.length q0d :: vec 68 R_clocks_Output.sz (.slice q8 q7.length c_b7_2_L9) q7.length q0n :: vec 70 R_clocks_Path.sz (.slice q26 q27 c_b7_3_c90) q27 q1p :: ro ρ :: l)) ?_ ?_
   ·refine x_cond (t := paths2) rfl (fun hc90 => ?_) (fun hc90 => ?_)
    ·replace hFc90 := it_t hc90 hFc90
     replace hFc90 := bd_s hFc90; obtain ⟨q2h, q7t, hFc90⟩ := hFc90
     replace hFc90 := ck_s hFc90; obtain ⟨q6d, hFc90⟩ := hFc90
     replace hFc90 := lv_s hFc90; obtain ⟨x99, hx99, hFc90⟩ := hFc90
     replace hFc90 := bd_s hFc90; obtain ⟨q1q, q6p, hFc90⟩ := hFc90
     replace hFc90 := ck_s hFc90; obtain ⟨q5z, hFc90⟩ := hFc90
     replace hFc90 := lv_s hFc90; obtain ⟨x106, hx106, hFc90⟩ := hFc90
     replace hFc90 := bd_s hFc90; obtain ⟨q0s, q6q, hFc90⟩ := hFc90
     replace hFc90 := lv_s hFc90; obtain ⟨q0w, q6r, hFc90⟩ := hFc90
     replace hFc90 := ck_s hFc90; obtain ⟨q6s, hFc90⟩ := hFc90
     refine x_par (w0 := w0) [⟨[], [], [91], [], [], []⟩, ⟨[0], [0], [92], [0], [], []⟩, ⟨[], [], [93], [], [], []⟩, ⟨[], [], [94], [], [], []⟩, ⟨[], [], [95], [], [], []⟩, ⟨[4], [4], [96], [], [], []⟩, ⟨[3, 4, 5], [3, 5], [97], [2], [1], [3]⟩, ⟨[2, 3, 4, 5, 6], [2, 6], [98], [4], [], []⟩, ⟨[2, 3, 4, 5, 6, 7], [7], [99], [4], [], []⟩, ⟨[], [], [100], [], [], []⟩, ⟨[], [], [101], [], [], []⟩, ⟨[], [], [102], [], [], []⟩, ⟨[11], [11], [103], [], [], []⟩, ⟨[3, 4, 5, 6, 10, 11, 12], [10, 12], [104], [2], [3], [5]⟩, ⟨[3, 4, 5, 6, 9, 10, 11, 12, 13], [9, 13], [105], [6], [], []⟩, ⟨[3, 4, 5, 6, 9, 10, 11, 12, 13, 14], [14], [106], [6], [], []⟩, ⟨[], [], [107], [], [], []⟩, ⟨[], [], [108], [], [], [7]⟩, ⟨[3, 4, 5, 6, 10, 11, 12, 13, 16, 17], [16, 17], [109], [2], [7, 5], [8, 9]⟩, ⟨[2, 3, 4, 5, 6, 7, 8, 9, 10, 11, 12, 13, 14, 15, 16, 17, 18], [8, 15, 18], [110], [], [], []⟩, ⟨[2, 3, 4, 5, 6, 7, 8, 9, 10, 11, 12, 13, 14, 15, 16, 17, 18, 19], [19], [111], [], [], [10]⟩, ⟨[0, 1, 2, 3, 4, 5, 6, 7, 8, 9, 10, 11, 12, 13, 14, 15, 16, 17, 18, 19, 20], [1, 20], [112], [10, 2], [11], [12]⟩, ⟨[0, 1, 2, 3, 4, 5, 6, 7, 8, 9, 10, 11, 12, 13, 14, 15, 16, 17, 18, 19, 20, 21], [], [113], [], [], []⟩, ⟨[0, 1, 2, 3, 4, 5, 6, 7, 8, 9, 10, 11, 12, 13, 14, 15, 16, 17, 18, 19, 20, 21, 22], [21, 22], [], [], [0], [13]⟩] [⟨none, (some 23), []⟩, ⟨none, (some 6), []⟩, ⟨none, none, []⟩, ⟨(some 6), (some 13), []⟩, ⟨none, none, []⟩, ⟨(some 13), (some 18), []⟩, ⟨none, none, []⟩, ⟨(some 17), (some 18), [108]⟩, ⟨(some 18), none, []⟩, ⟨(some 18), none, [108]⟩, ⟨(some 20), none, [111]⟩, ⟨none, (some 21), []⟩, ⟨(some 21), none, [112]⟩, ⟨(some 23), none, [112]⟩] [91, 92, 93, 94, 95, 96, 97, 98, 99, 100, 101, 102, 103, 104, 105, 106, 107, 108, 109, 110, 111, 112, 113] [0, 1, 2, 4, 6, 11] [2, 4, 6, 8, 9, 10, 12, 13] [0, 1, 2, 3, 4, 5, 6, 7, 8, 9, 10, 11, 12, 13, 14, 15, 16, 17, 18, 19, 20, 21, 22] [fun Ep23 => Ep23 91 = .pointer (some ⟨b7, 3, none⟩), fun Ep23 => Ep23 92 = .slice q0f q0e.length c_b7_3_L21h, fun Ep23 => Ep23 93 = .slice q6 q4.length c_from12_L16, fun Ep23 => Ep23 94 = .pointer (some ⟨q9, 0, none⟩), fun Ep23 => Ep23 95 = .slice q6 q4.length c_from12_L16, fun Ep23 => Ep23 96 = .int .i64 (q4.length : Int), fun Ep23 => Ep23 97 = .int .i64 q2h.1, fun Ep23 => Ep23 98 = .pointer (some ((adr q6).add (q2h.1.toNat * RpS.sz))), fun Ep23 => Ep23 99 = .string x99, fun Ep23 => Ep23 100 = .slice q0b q0a.length c_to13_L16, fun Ep23 => Ep23 101 = .pointer (some ⟨q9, 0, none⟩), fun Ep23 => Ep23 102 = .slice q0b q0a.length c_to13_L16, fun Ep23 => Ep23 103 = .int .i64 (q0a.length : Int), fun Ep23 => Ep23 104 = .int .i64 q1q.1, fun Ep23 => Ep23 105 = .pointer (some ((adr q0b).add (q1q.1.toNat * RpS.sz))), fun Ep23 => Ep23 106 = .string x106, fun Ep23 => Ep23 107 = .pointer (some ⟨q9, 0, none⟩), fun Ep23 => Ep23 108 = .slice (some ⟨(blkOf (Ep23 108)), 0, none⟩) 3 3, fun Ep23 => Ep23 109 = .int .i64 q0s.1, fun Ep23 => Ep23 110 = .agg #[.string x99, .string x106, .int .i64 q0s.1], fun Ep23 => Ep23 111 = .slice (some ⟨(blkOf (Ep23 111)), 0, none⟩) 1 1, fun Ep23 => Ep23 112 = .slice (adOf (Ep23 112)) q0w.length (capOf (Ep23 112)), fun Ep23 => Ep23 113 = .pointer (some ⟨b7, 3, none⟩), fun Ep23 => True] [fun Ep23 => cells b7 41 [.int .i64 q0j.1, .slice q3 q2.length c_b7_1_L3, .slice q8 q7.length c_b7_2_L9, .slice q0f q0e.length c_b7_3_L21h], fun Ep23 => cells q9 25 [.slice q0c s0.L.length c_s0_0, .int .i64 q16], fun Ep23 => ro ρ, fun Ep23 => cells q9 25 [.slice q0c s0.L.length c_s0_0, .int .i64 q2h.2], fun Ep23 => vec 9 RpS.sz (.slice q6 q4.length c_from12_L16) q4.length q0o, fun Ep23 => cells q9 25 [.slice q0c s0.L.length c_s0_0, .int .i64 q1q.2], fun Ep23 => vec 9 RpS.sz (.slice q0b q0a.length c_to13_L16) q0a.length q0u, fun Ep23 => cells (blkOf (Ep23 108)) 3 [.int .i64 0, .int .i64 2, .int .i64 3], fun Ep23 => cells q9 25 [.slice q0c s0.L.length c_s0_0, .int .i64 q0s.2], fun Ep23 => bunA (fun (x : Unit) => RepL (RpI .i64) ρ ([0, 2, 3] : List Int) [.int .i64 0, .int .i64 2, .int .i64 3]) (fun (x : Unit) => [vec 3 (RpI .i64).sz (.slice (some ⟨(blkOf (Ep23 108)), 0, none⟩) 3 3) 3 [.int .i64 0, .int .i64 2, .int .i64 3]]), fun Ep23 => cells (blkOf (Ep23 111)) 70 [.string x99, .string x106, .int .i64 q0s.1], fun Ep23 => vec 70 R_clocks_Path.sz (.slice q0f q0e.length c_b7_3_L21h) q0e.length q12, fun Ep23 => bunA (fun (cs112 : List Value) => RepL R_clocks_Path ρ q0w cs112) (fun (cs112 : List Value) => [vec 70 R_clocks_Path.sz (.slice (adOf (Ep23 112)) q0w.length (capOf (Ep23 112))) q0w.length cs112]), fun Ep23 => cells b7 41 [.int .i64 q0j.1, .slice q3 q2.length c_b7_1_L3, .slice q8 q7.length c_b7_2_L9, .slice (adOf (Ep23 112)) q0w.length (capOf (Ep23 112))]] mixed (by kernel_rfl) ((((((hS.pull 7).pull 5).pull 5).pull 8).pull 4).pull 6) ?_ ?_
     ·refine ⟨?_, ?_, ?_, ?_, ?_, ?_, ?_, ?_, ?_, ?_, ?_, ?_, ?_, ?_, ?_, ?_, ?_, ?_, ?_, ?_, ?_, ?_, ?_, ?_, trivial⟩
      ·intro Ep23 w l' hE23 hO23 hF_ hS
       refine p (yl_field0 fld_41_3 ((hE23 7 rfl).trans q2m)) <| x_done <| ?_
       refine x_fin ⟨⟨_, rfl⟩, rfl, ?_⟩
       exact Eq.mp (by kernel_rfl) hS
      ·intro Ep23 w l' hE23 hO23 hF_ hS
       obtain ⟨q45, -⟩ := hF_
       replace q45 : Ep23 91 = .pointer (some ⟨b7, 3, none⟩) := Eq.mp (by kernel_rfl) q45
       replace hS : St w0 w (cells b7 41 [.int .i64 q0j.1, .slice q3 q2.length c_b7_1_L3, .slice q8 q7.length c_b7_2_L9, .slice q0f q0e.length c_b7_3_L21h] :: l') := Eq.mp (by kernel_rfl) hS
       refine pa (at_load one_39 q45 (hS.cell rfl)) <| x_done <| ?_
       refine x_fin ⟨⟨_, rfl⟩, rfl, ?_⟩
       exact Eq.mp (by kernel_rfl) hS
      ·intro Ep23 w l' hE23 hO23 hF_ hS
       refine p (yl_move ((hE23 12 rfl).trans q36)) <| x_done <| ?_
       refine x_fin ⟨⟨_, rfl⟩, rfl, ?_⟩
       exact Eq.mp (by kernel_rfl) hS
      ·intro Ep23 w l' hE23 hO23 hF_ hS
       refine p (yl_move ((hE23 0 rfl).trans q2l)) <| x_done <| ?_
       refine x_fin ⟨⟨_, rfl⟩, rfl, ?_⟩
       exact Eq.mp (by kernel_rfl) hS
      ·intro Ep23 w l' hE23 hO23 hF_ hS
       refine p (yl_move ((hE23 12 rfl).trans q36)) <| x_done <| ?_
       refine x_fin ⟨⟨_, rfl⟩, rfl, ?_⟩
       exact Eq.mp (by kernel_rfl) hS
      ·intro Ep23 w l' hE23 hO23 hF_ hS
       obtain ⟨q46, -⟩ := hF_
       replace q46 : Ep23 95 = .slice q6 q4.length c_from12_L16 := Eq.mp (by kernel_rfl) q46
       refine p (yl_len_slice usl_26 q46) <| x_done <| ?_
       refine x_fin ⟨⟨_, rfl⟩, rfl, ?_⟩
       exact Eq.mp (by kernel_rfl) hS
      ·intro Ep23 w l' hE23 hO23 hF_ hS
       obtain ⟨q47, q48, -⟩ := hF_
       replace q47 : Ep23 94 = .pointer (some ⟨q9, 0, none⟩) := Eq.mp (by kernel_rfl) q47
       replace q48 : Ep23 96 = .int .i64 (q4.length : Int) := Eq.mp (by kernel_rfl) q48
       replace hS : St w0 w (ro ρ :: cells q9 25 [.slice q0c s0.L.length c_s0_0, .int .i64 q16] :: l') := Eq.mp (by kernel_rfl) hS
       have hcall := c_maskmake_Stream_Next q7t q1c (hS.pull 1)
       refine o_cc call_6 (args2 q47 q48) hcall ?_
       rintro e w' ⟨rfl, hS⟩
       refine ⟨_, rfl, ?_⟩
       refine x_done <| ?_
       refine x_fin ⟨⟨_, rfl⟩, rfl, ?_⟩
       exact Eq.mp (by kernel_rfl) (hS.pull 1)
      ·intro Ep23 w l' hE23 hO23 hF_ hS
       obtain ⟨q49, q4a, -⟩ := hF_
       replace q49 : Ep23 93 = .slice q6 q4.length c_from12_L16 := Eq.mp (by kernel_rfl) q49
       replace q4a : Ep23 97 = .int .i64 q2h.1 := Eq.mp (by kernel_rfl) q4a
       replace hS : St w0 w (vec 9 RpS.sz (.slice q6 q4.length c_from12_L16) q4.length q0o :: l') := Eq.mp (by kernel_rfl) hS
       refine p (yix_o sl_26 q49 q4a hS q2b q6d) <| x_done <| ?_
       refine x_fin ⟨⟨_, rfl⟩, rfl, ?_⟩
       exact Eq.mp (by kernel_rfl) hS
      ·intro Ep23 w l' hE23 hO23 hF_ hS
       obtain ⟨q4b, -⟩ := hF_
       replace q4b : Ep23 98 = .pointer (some ((adr q6).add (q2h.1.toNat * RpS.sz))) := Eq.mp (by kernel_rfl) q4b
       replace hS : St w0 w (vec 9 RpS.sz (.slice q6 q4.length c_from12_L16) q4.length q0o :: l') := Eq.mp (by kernel_rfl) hS
       refine pa (at_load one_9 q4b (RepL.getW q2b hS q6d hx99)) <| x_done <| ?_
       refine x_fin ⟨⟨_, rfl⟩, rfl, ?_⟩
       exact Eq.mp (by kernel_rfl) hS
      ·intro Ep23 w l' hE23 hO23 hF_ hS
       refine p (yl_move ((hE23 13 rfl).trans q37)) <| x_done <| ?_
       refine x_fin ⟨⟨_, rfl⟩, rfl, ?_⟩
       exact Eq.mp (by kernel_rfl) hS
      ·intro Ep23 w l' hE23 hO23 hF_ hS
       refine p (yl_move ((hE23 0 rfl).trans q2l)) <| x_done <| ?_
       refine x_fin ⟨⟨_, rfl⟩, rfl, ?_⟩
       exact Eq.mp (by kernel_rfl) hS
      ·intro Ep23 w l' hE23 hO23 hF_ hS
       refine p (yl_move ((hE23 13 rfl).trans q37)) <| x_done <| ?_
       refine x_fin ⟨⟨_, rfl⟩, rfl, ?_⟩
       exact Eq.mp (by kernel_rfl) hS
      ·intro Ep23 w l' hE23 hO23 hF_ hS
       obtain ⟨q2n, -⟩ := hF_
       replace q2n : Ep23 102 = .slice q0b q0a.length c_to13_L16 := Eq.mp (by kernel_rfl) q2n
       refine p (yl_len_slice usl_26 q2n) <| x_done <| ?_
       refine x_fin ⟨⟨_, rfl⟩, rfl, ?_⟩
       exact Eq.mp (by kernel_rfl) hS
      ·intro Ep23 w l' hE23 hO23 hF_ hS
       obtain ⟨q2o, q2p, -⟩ := hF_
       replace q2o : Ep23 101 = .pointer (some ⟨q9, 0, none⟩) := Eq.mp (by kernel_rfl) q2o
       replace q2p : Ep23 103 = .int .i64 (q0a.length : Int) := Eq.mp (by kernel_rfl) q2p
       replace hS : St w0 w (ro ρ :: cells q9 25 [.slice q0c s0.L.length c_s0_0, .int .i64 q2h.2] :: l') := Eq.mp (by kernel_rfl) hS
       have hcall := c_maskmake_Stream_Next q6p q1c (hS.pull 1)
       refine o_cc call_6 (args2 q2o q2p) hcall ?_
       rintro e w' ⟨rfl, hS⟩
       refine ⟨_, rfl, ?_⟩
       refine x_done <| ?_
       refine x_fin ⟨⟨_, rfl⟩, rfl, ?_⟩
       exact Eq.mp (by kernel_rfl) (hS.pull 1)
      ·intro Ep23 w l' hE23 hO23 hF_ hS
       obtain ⟨q4c, q2q, -⟩ := hF_
       replace q4c : Ep23 100 = .slice q0b q0a.length c_to13_L16 := Eq.mp (by kernel_rfl) q4c
       replace q2q : Ep23 104 = .int .i64 q1q.1 := Eq.mp (by kernel_rfl) q2q
       replace hS : St w0 w (vec 9 RpS.sz (.slice q0b q0a.length c_to13_L16) q0a.length q0u :: l') := Eq.mp (by kernel_rfl) hS
       refine p (yix_o sl_26 q4c q2q hS q34 q5z) <| x_done <| ?_
       refine x_fin ⟨⟨_, rfl⟩, rfl, ?_⟩
       exact Eq.mp (by kernel_rfl) hS
      ·intro Ep23 w l' hE23 hO23 hF_ hS
       obtain ⟨q2r, -⟩ := hF_
       replace q2r : Ep23 105 = .pointer (some ((adr q0b).add (q1q.1.toNat * RpS.sz))) := Eq.mp (by kernel_rfl) q2r
       replace hS : St w0 w (vec 9 RpS.sz (.slice q0b q0a.length c_to13_L16) q0a.length q0u :: l') := Eq.mp (by kernel_rfl) hS
       refine pa (at_load one_9 q2r (RepL.getW q34 hS q5z hx106)) <| x_done <| ?_
       refine x_fin ⟨⟨_, rfl⟩, rfl, ?_⟩
       exact Eq.mp (by kernel_rfl) hS
      ·intro Ep23 w l' hE23 hO23 hF_ hS
       refine p (yl_move ((hE23 0 rfl).trans q2l)) <| x_done <| ?_
       refine x_fin ⟨⟨_, rfl⟩, rfl, ?_⟩
       exact Eq.mp (by kernel_rfl) hS
      ·intro Ep23 w l' hE23 hO23 hF_ hS
       refine o_buildSlice (vs := [.int .i64 0, .int .i64 2, .int .i64 3]) (cs := [.int .i64 0, .int .i64 2, .int .i64 3]) sl_22 zero_3 (parts_eq (pt (va := .int .i64 0) rfl (pt (va := .int .i64 2) rfl (pt (va := .int .i64 3) rfl pt0)))) rfl (by intro v hv; simp only [List.mem_cons, List.not_mem_nil, or_false] at hv; first | (subst hv; rfl) | (rcases hv with rfl | rfl | rfl <;> rfl)) (by decide) rfl hS (fun b108 w' hS => ?_)
       refine x_done <| ?_
       refine x_fin ⟨⟨_, rfl⟩, rfl, ?_⟩
       exact Eq.mp (by kernel_rfl) hS
      ·intro Ep23 w l' hE23 hO23 hF_ hS
       obtain ⟨q2s, q2t, -⟩ := hF_
       replace q2s : Ep23 107 = .pointer (some ⟨q9, 0, none⟩) := Eq.mp (by kernel_rfl) q2s
       replace q2t : Ep23 108 = .slice (some ⟨(blkOf (Ep23 108)), 0, none⟩) 3 3 := Eq.mp (by kernel_rfl) q2t
       replace hS : St w0 w (ro ρ :: cells (blkOf (Ep23 108)) 3 [.int .i64 0, .int .i64 2, .int .i64 3] :: cells q9 25 [.slice q0c s0.L.length c_s0_0, .int .i64 q1q.2] :: l') := Eq.mp (by kernel_rfl) hS
       have q5d : RepL (RpI .i64) ρ ([0, 2, 3] : List Int) [.int .i64 0, .int .i64 2, .int .i64 3] := (RepL.cons (cs := [.int .i64 0]) rfl (RepL.cons (cs := [.int .i64 2]) rfl (RepL.cons (cs := [.int .i64 3]) rfl RepL.nil)))
       replace hS := St.vec_of (n := 3) (sz := (RpI .i64).sz) (hS.pull 1) rfl (by decide)
       have q_ := St.lend ((hS.pull 1).pull 1) q5d; obtain ⟨ρl0, hll0, hlf0, hS0, back0⟩ := q_
       have hcall := c_maskmake_Stream_Pick q6q (q1c.le hll0) hlf0 (hS0.pull 1)
       refine o_cc call_16 (args2 q2s q2t) hcall ?_
       rintro e w' ⟨rfl, hS⟩
       refine ⟨_, rfl, ?_⟩
       replace hS := back0 (hS.pull 1)
       refine x_done <| ?_
       refine x_fin ⟨⟨_, rfl⟩, rfl, ?_⟩
       replace hS := St.bun (Φ := (fun (x : Unit) => RepL (RpI .i64) ρ ([0, 2, 3] : List Int) [.int .i64 0, .int .i64 2, .int .i64 3])) (L := (fun (x : Unit) => [vec 3 (RpI .i64).sz (.slice (some ⟨(blkOf (Ep23 108)), 0, none⟩) 3 3) 3 [.int .i64 0, .int .i64 2, .int .i64 3]])) () q5d hS
       exact Eq.mp (by kernel_rfl) ((hS.pull 2).pull 2)
      ·intro Ep23 w l' hE23 hO23 hF_ hS
       obtain ⟨q4d, q2u, q2v, -⟩ := hF_
       replace q4d : Ep23 99 = .string x99 := Eq.mp (by kernel_rfl) q4d
       replace q2u : Ep23 106 = .string x106 := Eq.mp (by kernel_rfl) q2u
       replace q2v : Ep23 109 = .int .i64 q0s.1 := Eq.mp (by kernel_rfl) q2v
       refine p (v := .agg #[.string x99, .string x106, .int .i64 q0s.1]) (yl_build bld_70 bldf_70 (parts_eq (pt (va := .string x99) q4d (pt (va := .string x106) q2u (pt (va := .int .i64 q0s.1) q2v pt0)))) (by kernel_rfl)) <| x_done <| ?_
       refine x_fin ⟨⟨_, rfl⟩, rfl, ?_⟩
       exact Eq.mp (by kernel_rfl) hS
      ·intro Ep23 w l' hE23 hO23 hF_ hS
       obtain ⟨q2w, -⟩ := hF_
       replace q2w : Ep23 110 = .agg #[.string x99, .string x106, .int .i64 q0s.1] := Eq.mp (by kernel_rfl) q2w
       refine o_buildSlice (vs := [.agg #[.string x99, .string x106, .int .i64 q0s.1]]) (cs := [.string x99, .string x106, .int .i64 q0s.1]) sl_39 zero_70 (parts_eq (pt (va := .agg #[.string x99, .string x106, .int .i64 q0s.1]) q2w pt0)) rfl (by intro v hv; simp only [List.mem_cons, List.not_mem_nil, or_false] at hv; first | (subst hv; rfl) | (rcases hv with rfl <;> rfl)) (by decide) rfl hS (fun b111 w' hS => ?_)
       refine x_done <| ?_
       refine x_fin ⟨⟨_, rfl⟩, rfl, ?_⟩
       exact Eq.mp (by kernel_rfl) hS
      ·intro Ep23 w l' hE23 hO23 hF_ hS
       obtain ⟨q4e, q2x, -⟩ := hF_
       replace q4e : Ep23 92 = .slice q0f q0e.length c_b7_3_L21h := Eq.mp (by kernel_rfl) q4e
       replace q2x : Ep23 111 = .slice (some ⟨(blkOf (Ep23 111)), 0, none⟩) 1 1 := Eq.mp (by kernel_rfl) q2x
       replace hS : St w0 w (cells (blkOf (Ep23 111)) 70 [.string x99, .string x106, .int .i64 q0s.1] :: ro ρ :: vec 70 R_clocks_Path.sz (.slice q0f q0e.length c_b7_3_L21h) q0e.length q12 :: l') := Eq.mp (by kernel_rfl) hS
       refine o_ap sl_39 zero_70 rfl (by decide) q4e q2x (hS.pull 2) q1o (src_blk usl_39 hS rfl rfl) (RepL.cons (R := R_clocks_Path) (ρ := ρ) (x := (T_clocks_Path.mk x99 x106 q0s.1)) (cs := [.string x99, .string x106, .int .i64 q0s.1]) rfl RepL.nil) q6r q6s (fun A112 c112 cs112 w' hr112 hS => ?_)
       refine x_done <| ?_
       refine x_fin ⟨⟨_, rfl⟩, rfl, ?_⟩
       replace hS := St.bun (Φ := (fun (cs112 : List Value) => RepL R_clocks_Path ρ q0w cs112)) (L := (fun (cs112 : List Value) => [vec 70 R_clocks_Path.sz (.slice A112 q0w.length c112) q0w.length cs112])) cs112 hr112 hS
       exact Eq.mp (by kernel_rfl) ((hS.pull 2).pull 2)
      ·intro Ep23 w l' hE23 hO23 hF_ hS
       refine p (yl_field0 fld_41_3 ((hE23 7 rfl).trans q2m)) <| x_done <| ?_
       refine x_fin ⟨⟨_, rfl⟩, rfl, ?_⟩
       exact Eq.mp (by kernel_rfl) hS
      ·intro Ep23 w l' hE23 hO23 hF_ hS
       obtain ⟨q2y, q2z, -⟩ := hF_
       replace q2y : Ep23 112 = .slice (adOf (Ep23 112)) q0w.length (capOf (Ep23 112)) := Eq.mp (by kernel_rfl) q2y
       replace q2z : Ep23 113 = .pointer (some ⟨b7, 3, none⟩) := Eq.mp (by kernel_rfl) q2z
       replace hS : St w0 w (cells b7 41 [.int .i64 q0j.1, .slice q3 q2.length c_b7_1_L3, .slice q8 q7.length c_b7_2_L9, .slice q0f q0e.length c_b7_3_L21h] :: l') := Eq.mp (by kernel_rfl) hS
       refine o_store1 (v := .slice (adOf (Ep23 112)) q0w.length (capOf (Ep23 112))) one_39 q2z q2y rfl rfl hS (fun w' hS => ?_)
       refine x_done <| ?_
       refine x_fin ⟨⟨undef, rfl⟩, trivial, ?_⟩
       exact Eq.mp (by kernel_rfl) hS
     intro Ep23 w' hE23 hF_ hS
     obtain ⟨q45, q4e, q49, q47, q46, q48, q4a, q4b, q4d, q4c, q2o, q2n, q2p, q2q, q2r, q2u, q2s, q2t, q2v, q2w, q2x, q2y, q2z, -⟩ := hF_
     replace q45 : Ep23 91 = .pointer (some ⟨b7, 3, none⟩) := Eq.mp (by kernel_rfl) q45
     replace q4e : Ep23 92 = .slice q0f q0e.length c_b7_3_L21h := Eq.mp (by kernel_rfl) q4e
     replace q49 : Ep23 93 = .slice q6 q4.length c_from12_L16 := Eq.mp (by kernel_rfl) q49
     replace q47 : Ep23 94 = .pointer (some ⟨q9, 0, none⟩) := Eq.mp (by kernel_rfl) q47
     replace q46 : Ep23 95 = .slice q6 q4.length c_from12_L16 := Eq.mp (by kernel_rfl) q46
     replace q48 : Ep23 96 = .int .i64 (q4.length : Int) := Eq.mp (by kernel_rfl) q48
     replace q4a : Ep23 97 = .int .i64 q2h.1 := Eq.mp (by kernel_rfl) q4a
     replace q4b : Ep23 98 = .pointer (some ((adr q6).add (q2h.1.toNat * RpS.sz))) := Eq.mp (by kernel_rfl) q4b
     replace q4d : Ep23 99 = .string x99 := Eq.mp (by kernel_rfl) q4d
     replace q4c : Ep23 100 = .slice q0b q0a.length c_to13_L16 := Eq.mp (by kernel_rfl) q4c
     replace q2o : Ep23 101 = .pointer (some ⟨q9, 0, none⟩) := Eq.mp (by kernel_rfl) q2o
     replace q2n : Ep23 102 = .slice q0b q0a.length c_to13_L16 := Eq.mp (by kernel_rfl) q2n
     replace q2p : Ep23 103 = .int .i64 (q0a.length : Int) := Eq.mp (by kernel_rfl) q2p
     replace q2q : Ep23 104 = .int .i64 q1q.1 := Eq.mp (by kernel_rfl) q2q
     replace q2r : Ep23 105 = .pointer (some ((adr q0b).add (q1q.1.toNat * RpS.sz))) := Eq.mp (by kernel_rfl) q2r
     replace q2u : Ep23 106 = .string x106 := Eq.mp (by kernel_rfl) q2u
     replace q2s : Ep23 107 = .pointer (some ⟨q9, 0, none⟩) := Eq.mp (by kernel_rfl) q2s
     replace q2t : Ep23 108 = .slice (some ⟨(blkOf (Ep23 108)), 0, none⟩) 3 3 := Eq.mp (by kernel_rfl) q2t
     replace q2v : Ep23 109 = .int .i64 q0s.1 := Eq.mp (by kernel_rfl) q2v
     replace q2w : Ep23 110 = .agg #[.string x99, .string x106, .int .i64 q0s.1] := Eq.mp (by kernel_rfl) q2w
     replace q2x : Ep23 111 = .slice (some ⟨(blkOf (Ep23 111)), 0, none⟩) 1 1 := Eq.mp (by kernel_rfl) q2x
     replace q2y : Ep23 112 = .slice (adOf (Ep23 112)) q0w.length (capOf (Ep23 112)) := Eq.mp (by kernel_rfl) q2y
     replace q2z : Ep23 113 = .pointer (some ⟨b7, 3, none⟩) := Eq.mp (by kernel_rfl) q2z
     replace hS : St w0 w' (ro ρ :: vec 9 RpS.sz (.slice q6 q4.length c_from12_L16) q4.length q0o :: vec 9 RpS.sz (.slice q0b q0a.length c_to13_L16) q0a.length q0u :: cells q9 25 [.slice q0c s0.L.length c_s0_0, .int .i64 q0s.2] :: bunA (fun (x : Unit) => RepL (RpI .i64) ρ ([0, 2, 3] : List Int) [.int .i64 0, .int .i64 2, .int .i64 3]) (fun (x : Unit) => [vec 3 (RpI .i64).sz (.slice (some ⟨(blkOf (Ep23 108)), 0, none⟩) 3 3) 3 [.int .i64 0, .int .i64 2, .int .i64 3]]) :: cells (blkOf (Ep23 111)) 70 [.string x99, .string x106, .int .i64 q0s.1] :: bunA (fun (cs112 : List Value) => RepL R_clocks_Path ρ q0w cs112) (fun (cs112 : List Value) => [vec 70 R_clocks_Path.sz (.slice (adOf (Ep23 112)) q0w.length (capOf (Ep23 112))) q0w.length cs112]) :: cells b7 41 [.int .i64 q0j.1, .slice q3 q2.length c_b7_1_L3, .slice q8 q7.length c_b7_2_L9, .slice (adOf (Ep23 112)) q0w.length (capOf (Ep23 112))] :: (cells b6 41 [.int .i64 0, .slice none 0 0, .slice none 0 0, .slice none 0 0] :: vec 66 R_clocks_Input.sz (.slice q3 q2.length c_b7_1_L3) q2.length q0d :: vec 68 R_clocks_Output.sz (.slice q8 q7.length c_b7_2_L9) q7.length q0n :: l)) := Eq.mp (by kernel_rfl) hS
     have q_ := St.unbun (hS.pull 4); obtain ⟨⟨⟩, q5d, hS⟩ := q_
     have q_ := St.unbun (hS.pull 6); obtain ⟨cs112, hr112, hS⟩ := q_
     exact x_inv ⟨(adOf (Ep23 112)), q0w.length, (capOf (Ep23 112)), cs112, q0s.2, q0w, (Option.some.inj (show some _ = some _ from hFc90)), ((hE23 0 rfl).trans q2l), ((hE23 2 rfl).trans q5b), ((hE23 6 rfl).trans q5c), ((hE23 7 rfl).trans q2m), ((hE23 12 rfl).trans q36), ((hE23 13 rfl).trans q37), ((hE23 87 rfl).trans q4k), ((hE23 88 rfl).trans q4l), hr112, (((((((((((hS.pull 1).drop.pull 5).drop.pull 1).pull 1).pull 8).pull 8).pull 5).pull 5).pull 7).pull 8).pull 8)⟩
    ·replace hFc90 := it_bf hc90 hFc90
     refine x_skip <| ?_
     exact x_inv ⟨q0f, q0e.length, c_b7_3_L21h, q12, q16, q0e, (Option.some.inj (show some _ = some _ from hFc90)), q2l, q5b, q5c, q2m, q36, q37, q4k, q4l, q1o, (((((((((hS.pull 8).pull 8).pull 8).pull 8).pull 8).pull 8).pull 8).pull 8).pull 8)⟩
   rintro E w ⟨q26, q27, c_b7_3_c90, q1p, q28, q2d, rfl, q7u, q7v, q7w, q7x, q6t, q6u, q6v, q6w, q4w, hS⟩
   have e_ := St.vec_n (hS.pull 7) q4w; subst e_
   replace hFL21 := ar_s hFL21; obtain ⟨x114, hx114, hFL21⟩ := hFL21
   refine x_blk <| x_region <| p (yadd q6w rfl hx114) <| p (yl_move rfl) <|
    x_done <| ?_
   have e_ := Option.some.inj (show some _ = some _ from hFL21); subst e_
   exact x_inv ⟨kL21, Nat.lt_succ_self _, q26, q2d.length, c_b7_3_c90, q1p, x114, q28, q2d, hLL21, q7u, q7v, q7w, q7x, q6t, q6u, q6v, rfl, q4w, (((((((((hS.pull 8).pull 8).pull 8).pull 8).pull 8).pull 8).pull 8).pull 8).pull 8)⟩
  ·replace hFL21 := it_f hc89 hFL21
   refine x_exitTo _ rfl <| ?_
   have e_ := Option.some.inj (show some _ = some _ from hFL21); subst e_
   exact x_inv ⟨q0f, q0e.length, c_b7_3_L21h, q12, q0e, q16, hLL21, q5c, q2m, q1o, (((((((((hS.pull 3).drop.pull 3).drop.pull 6).pull 6).pull 6).pull 6).pull 4).pull 6).pull 6)⟩
 rintro E w ⟨q1f, q25, c_b7_3_L21, q1m, q1i, q35, rfl, q6e, q7y, q4x, hS⟩
 have e_ := St.vec_n (hS.pull 5) q4x; subst e_
 refine x_seq <| x_region <| pa (v := .agg #[.int .i64 q0j.1, .slice q3 q2.length c_b7_1_L3, .slice q8 q7.length c_b7_2_L9, .slice q1f q1i.length c_b7_3_L21]) (ld_sub agg_41 q7y rfl rfl (hS.pull 1)) <| ?_
 refine o_storeAgg (news := [.int .i64 q0j.1, .slice q3 q2.length c_b7_1_L3, .slice q8 q7.length c_b7_2_L9, .slice q1f q1i.length c_b7_3_L21]) agg_41 q6e rfl rfl (by simp [over_length]) hS (fun w' hS => ?_)
 refine x_done <| ?_
 have e_ := Option.some.inj (show some _ = some _ from hF); subst e_
 exact x_return ⟨_, ⟨_, _, _, rfl, q6e, ldvA agg_41 rfl (fun j v hj => by rw [add0]; exact St.cell hS hj), rfl⟩, q3, q2.length, c_b7_1_L3, q0d, q8, q7.length, c_b7_2_L9, q0n, q1f, q1i.length, c_b7_3_L21, q1m, rfl, q5e, q5f, q4x, (((((hS.drop.drop.pull 4).pull 1).pull 4).pull 4).pull 4)⟩
attribute [irreducible] P_maskmake_Stream_Limits

def P_clocks_name_L2 (s0 : ByteArray) : Int → Option (Int ⊕ (Unit ⊕ Bool)) := fun q2 =>
 if q2 < (s0.size : Int) then
  ck (inb q2 s0.size) <|
  lv (byteAt s0 q2) fun x11 =>
  ck ((!(decide (x11 < 33))) = true → inb q2 s0.size) <|
  lv (byteAt s0 q2) fun x16 =>
  lv ((decide (x11 < 33)) || (decide (126 < x16))) fun x18 =>
  if x18 = true then
   some (Sum.inr (Sum.inr false))
  else
   ar (q2 + 1) fun x19 =>
   some (Sum.inl x19)
 else
  some (Sum.inr (Sum.inl ()))
def P_clocks_name (s0 : ByteArray) : Option Bool :=
 bs (
  lp (P_clocks_name_L2 s0) fuel 0) (fun y => some y) fun _ =>
 lv ((decide (s0 ≠ (⟨#[]⟩ : ByteArray))) && (decide ((s0.size : Int) ≤ 128))) fun x26 =>
 some x26
set_option maxHeartbeats 4000000 in
set_option maxRecDepth 100000 in
theorem c_clocks_name {w0 w : World} {l : List Assn} {ρ : Heap} {s0 : ByteArray} {r : Bool} (hF : P_clocks_name s0 = some r) (hS : St w0 w (ro ρ :: l)) :
  Calls Tryd.prog 32 #[.string s0] w fun e w' => e = .returned (.bool r) ∧ St w0 w' (ro ρ :: l) := by
 refine enterC Tryd.func32 rfl 27 rfl (by simp) ?_
 refine x_seq <| x_region <| p (yl_assign rfl) <| x_done <|
  x_seq <| x_seq <| x_region <| p (yl_move rfl) <|
  p (yl_len_string us_9 rfl) <| p (yl_move rfl) <| x_done <| ?_
 replace hF := bs_s hF; obtain ⟨oL2, hLL2, hF⟩ := hF
 refine x_join (fun E w => (Sum.inl (())) = oL2 ∧ E 0 = .string s0 ∧ St w0 w (ro ρ :: l)) ?_ ?_
 ·refine x_block ?_
  refine x_loop (fun k_ E w => ∃ (q2 : Int), lp (P_clocks_name_L2 s0) k_ q2 = some oL2 ∧ E 0 = .string s0 ∧ E 5 = .int .i64 (s0.size : Int) ∧ E 6 = .int .i64 q2 ∧ St w0 w (ro ρ :: l)) fuel ⟨0, hLL2, rfl, rfl, rfl, hS⟩ ?_
  rintro kL2 E w ⟨q2, hLL2, q3, q5, q4, hS⟩
  replace hLL2 := lp_s hLL2; obtain ⟨kL2, obL2, rfl, hFL2, hLL2⟩ := hLL2
  refine x_seq <| x_region <| p (yl_lss q4 q5) <| x_done <|
   x_seq <|
   x_cond_p (q2 < (s0.size : Int)) rfl (fun hc7 => ?_) (fun hc7 => ?_)
  ·replace hFL2 := it_t hc7 hFL2
   replace hFL2 := ck_s hFL2; obtain ⟨q7, hFL2⟩ := hFL2
   replace hFL2 := lv_s hFL2; obtain ⟨x11, hx11, hFL2⟩ := hFL2
   replace hFL2 := ck_s hFL2; obtain ⟨q8, hFL2⟩ := hFL2
   replace hFL2 := lv_s hFL2; obtain ⟨x16, hx16, hFL2⟩ := hFL2
   replace hFL2 := lv_s hFL2; obtain ⟨x18, hx18, hFL2⟩ := hFL2
   refine x_skip <| x_seq <| x_block <| x_seq <|
    x_region <| p (yl_move q4) <| p (yl_assign rfl) <| x_done <|
    x_seq <| x_region <| p (yl_move q3) <| p (yl_move rfl) <|
    p (ystr us_9 rfl rfl q7 hx11) <| p (yl_lss rfl rfl) <| p (yl_move rfl) <| pg (v := .string s0) 13 (c := !(decide (x11 < 33))) (says_f _) (fun hq => Yl.at (yl_move q3)) <|
    pg (v := .int .i64 q2) 13 (c := !(decide (x11 < 33))) (says_f _) (fun hq => Yl.at (yl_move rfl)) <| pg (v := .int .u8 x16) 13 (c := !(decide (x11 < 33))) (says_f _) (fun hq => Yl.at (ystr us_9 (cv hq) (cv hq) (q8 hq) hx16)) <| pg (v := .bool (decide (126 < x16))) 13 (c := !(decide (x11 < 33))) (says_f _) (fun hq => Yl.at (yl_gtr (cv hq) rfl)) <| p (yor' rfl rfl (fun hc => (cv (t_not hc))) hx18) <|
    x_done <|
    x_cond (t := x18) rfl (fun hc18 => ?_) (fun hc18 => ?_)
   ·replace hFL2 := it_t hc18 hFL2
    refine x_seq <| x_region <| p (yl_assign rfl) <| x_done <| ?_
    have e_ := Option.some.inj (show some _ = some _ from hFL2); subst e_
    have e_ := (show _ = oL2 from hLL2); subst e_
    have e_ := Option.some.inj (show some _ = some _ from hF); subst e_
    exact x_return ⟨_, ⟨_, _, rfl, rfl, rfl⟩, rfl, hS⟩
   ·replace hFL2 := it_bf hc18 hFL2
    replace hFL2 := ar_s hFL2; obtain ⟨x19, hx19, hFL2⟩ := hFL2
    refine x_skip <| x_blk <| x_region <| p (yadd q4 rfl hx19) <|
     p (yl_move rfl) <| x_done <| ?_
    have e_ := Option.some.inj (show some _ = some _ from hFL2); subst e_
    exact x_inv ⟨kL2, Nat.lt_succ_self _, x19, hLL2, q3, q5, rfl, hS⟩
  ·replace hFL2 := it_f hc7 hFL2
   refine x_exitTo _ rfl <| ?_
   have e_ := Option.some.inj (show some _ = some _ from hFL2); subst e_
   exact x_inv ⟨hLL2, q3, hS⟩
 rintro E w ⟨rfl, q6, hS⟩
 replace hF := lv_s hF; obtain ⟨x26, hx26, hF⟩ := hF
 refine x_seq <| x_region <| p (yl_move q6) <| p (ynes rfl rfl) <|
  p (yl_move rfl) <| pg (v := .string s0) 22 (c := decide (s0 ≠ (⟨#[]⟩ : ByteArray))) (says_t _) (fun hq => Yl.at (yl_move q6)) <| pg (v := .int .i64 (s0.size : Int)) 22 (c := decide (s0 ≠ (⟨#[]⟩ : ByteArray))) (says_t _) (fun hq => Yl.at (yl_len_string us_9 (cv hq))) <| pg (v := .bool (decide ((s0.size : Int) ≤ 128))) 22 (c := decide (s0 ≠ (⟨#[]⟩ : ByteArray))) (says_t _) (fun hq => Yl.at (yl_leq (cv hq) rfl)) <|
  p (yand' rfl (fun hc => (cv hc)) rfl hx26) <| p (yl_assign rfl) <| x_done <| ?_
 have e_ := Option.some.inj (show some _ = some _ from hF); subst e_
 exact x_return ⟨_, ⟨_, _, rfl, rfl, rfl⟩, rfl, hS⟩
attribute [irreducible] P_clocks_name

def P_clocks_Check_1 (y0 : T_clocks_Input) (v1 : T_clocks_Input) : Option Unit :=
 some ()
set_option maxHeartbeats 4000000 in
set_option maxRecDepth 100000 in
theorem c_clocks_Check_1 {w0 w : World} {l : List Assn} {ρ : Heap} {q2 : Nat} {y0 : T_clocks_Input} {v1 : T_clocks_Input} {r : Unit} (hF : P_clocks_Check_1 y0 v1 = some r) (hS : St w0 w (cells q2 66 [.string v1.Name, .int .i64 v1.At.Lo, .int .i64 v1.At.Hi] :: ro ρ :: l)) :
  Calls Tryd.prog 34 #[.agg #[.string y0.Name, .int .i64 y0.At.Lo, .int .i64 y0.At.Hi], .pointer (some ⟨q2, 0, none⟩)] w fun e w' => e = .returned (.bool (decide (y0.Name = v1.Name))) ∧ St w0 w' (cells q2 66 [.string v1.Name, .int .i64 v1.At.Lo, .int .i64 v1.At.Hi] :: ro ρ :: l) := by
 refine enterC Tryd.func34 rfl 9 rfl (by simp) ?_
 refine x_seq <| x_region <| ?_
 refine o_box (cs := [.string y0.Name, .int .i64 y0.At.Lo, .int .i64 y0.At.Hi]) rfl rfl hS (fun b2 w' hS => ?_)
 refine p (yl_assign rfl) <| x_done <| x_seq <| x_region <|
  p (yl_field0 fld_66_0 rfl) <| pa (at_load one_9 rfl (hS.cell rfl)) <| p (yl_field0 fld_66_0 rfl) <| pa (at_load one_9 rfl ((hS.pull 1).cell rfl)) <|
  p (yl_eql_string rfl rfl) <| p (yl_assign rfl) <| x_done <| ?_
 have e_ := Option.some.inj (show some _ = some _ from hF); subst e_
 exact x_return ⟨_, ⟨_, _, rfl, rfl, rfl⟩, rfl, ((hS.drop.pull 1).pull 1)⟩
attribute [irreducible] P_clocks_Check_1

def P_slices_IndexFunc_clocks_Input_clocks_Input_L2 (s0 : List T_clocks_Input) (q3 : T_clocks_Input) : Int → Option (Int ⊕ (Unit ⊕ Int)) := fun q2 =>
 if q2 < (s0.length : Int) then
  ck (inb q2 s0.length) <|
  lv (gt s0 q2) fun q4 =>
  bd (P_clocks_Check_1 q4 q3) fun q5 =>
  if q4.Name = q3.Name then
   some (Sum.inr (Sum.inr q2))
  else
   ar (q2 + 1) fun x18 =>
   some (Sum.inl x18)
 else
  some (Sum.inr (Sum.inl ()))
def P_slices_IndexFunc_clocks_Input_clocks_Input (s0 : List T_clocks_Input) (q2 : T_clocks_Input) : Option Int :=
 bs (
  lp (P_slices_IndexFunc_clocks_Input_clocks_Input_L2 s0 q2) fuel 0) (fun y => some y) fun _ =>
 some (-1 : Int)
set_option maxHeartbeats 4000000 in
set_option maxRecDepth 100000 in
theorem c_slices_IndexFunc_clocks_Input_clocks_Input {w0 w : World} {l : List Assn} {ρ : Heap} {q0a : Option Addr} {q0e : Nat} {c_s0 : Nat} {q3 : Nat} {s0 : List T_clocks_Input} {q2 : T_clocks_Input} {r : Int} (hF : P_slices_IndexFunc_clocks_Input_clocks_Input s0 q2 = some r) (q0b : RdS R_clocks_Input ρ q0a q0e c_s0 s0) (hS : St w0 w (cells q3 66 [.string q2.Name, .int .i64 q2.At.Lo, .int .i64 q2.At.Hi] :: ro ρ :: l)) :
  Calls Tryd.prog 48 #[.slice q0a q0e c_s0, .func (.func 34) #[] #[.pointer (some ⟨q3, 0, none⟩)]] w fun e w' => e = .returned (.int .i64 r) ∧ St w0 w' (cells q3 66 [.string q2.Name, .int .i64 q2.At.Lo, .int .i64 q2.At.Hi] :: ro ρ :: l) := by
 have e_ := q0b.n; subst e_
 refine enterC Tryd.func48 rfl 19 rfl (by simp) ?_
 refine x_seq <| x_region <| p (yl_assign rfl) <| x_done <|
  x_seq <| x_seq <| x_region <| p (yl_move rfl) <|
  p (yl_len_slice usl_37 rfl) <| p (yl_move rfl) <| x_done <| ?_
 replace hF := bs_s hF; obtain ⟨oL2, hLL2, hF⟩ := hF
 refine x_join (fun E w => (Sum.inl (())) = oL2 ∧ St w0 w (cells q3 66 [.string q2.Name, .int .i64 q2.At.Lo, .int .i64 q2.At.Hi] :: ro ρ :: l)) ?_ ?_
 ·refine x_block ?_
  refine x_loop (fun k_ E w => ∃ (q4 : Int), lp (P_slices_IndexFunc_clocks_Input_clocks_Input_L2 s0 q2) k_ q4 = some oL2 ∧ E 0 = .slice q0a s0.length c_s0 ∧ E 1 = .func (.func 34) #[] #[.pointer (some ⟨q3, 0, none⟩)] ∧ E 7 = .int .i64 (s0.length : Int) ∧ E 8 = .int .i64 q4 ∧ St w0 w (cells q3 66 [.string q2.Name, .int .i64 q2.At.Lo, .int .i64 q2.At.Hi] :: ro ρ :: l)) fuel ⟨0, hLL2, rfl, rfl, rfl, rfl, ((hS.pull 1).pull 1)⟩ ?_
  rintro kL2 E w ⟨q4, hLL2, q7, q8, q9, q5, hS⟩
  replace hLL2 := lp_s hLL2; obtain ⟨kL2, obL2, rfl, hFL2, hLL2⟩ := hLL2
  refine x_seq <| x_region <| p (yl_lss q5 q9) <| x_done <|
   x_seq <|
   x_cond_p (q4 < (s0.length : Int)) rfl (fun hc9 => ?_) (fun hc9 => ?_)
  ·replace hFL2 := it_t hc9 hFL2
   replace hFL2 := ck_s hFL2; obtain ⟨q0c, hFL2⟩ := hFL2
   replace hFL2 := lv_s hFL2; obtain ⟨q6, q0f, hFL2⟩ := hFL2
   have q_ := q0b.get q0c; obtain ⟨q0i, q0d, q0g⟩ := q_
   rw [← q0f] at q0d
   have e_ := q0d; subst e_
   replace hFL2 := bd_s hFL2; obtain ⟨q0j, q0h, hFL2⟩ := hFL2
   refine x_skip <| x_seq <| x_block <| x_seq <|
    x_region <| p (yl_move q5) <| p (yl_assign rfl) <| x_done <|
    x_seq <| x_region <| p (yl_move q8) <| p (yl_move q7) <|
    p (yl_move rfl) <| p (yix_f sl_37 rfl rfl q0b q0c) <| pa (v := .agg #[.string q6.Name, .int .i64 q6.At.Lo, .int .i64 q6.At.Hi]) (at_loadAgg agg_66 rfl rfl (Elt.every q0g (hS.pull 1))) <| ?_
   have hcall := c_clocks_Check_1 q0h  hS
   refine o_ccv rfl call_34 (capargs (args1 rfl)) (hcall) ?_
   rintro e w' ⟨rfl, hS⟩
   refine ⟨_, rfl, ?_⟩
   refine x_done <|
    x_cond_p (q6.Name = q2.Name) rfl (fun hc16 => ?_) (fun hc16 => ?_)
   ·replace hFL2 := it_t hc16 hFL2
    refine x_seq <| x_region <| p (yl_move rfl) <| p (yl_assign rfl) <|
     x_done <| ?_
    have e_ := Option.some.inj (show some _ = some _ from hFL2); subst e_
    have e_ := (show _ = oL2 from hLL2); subst e_
    have e_ := Option.some.inj (show some _ = some _ from hF); subst e_
    exact x_return ⟨_, ⟨_, _, rfl, rfl, rfl⟩, rfl, ((hS.pull 1).pull 1)⟩
   ·replace hFL2 := it_f hc16 hFL2
    replace hFL2 := ar_s hFL2; obtain ⟨x18, hx18, hFL2⟩ := hFL2
    refine x_skip <| x_blk <| x_region <| p (yadd q5 rfl hx18) <|
     p (yl_move rfl) <| x_done <| ?_
    have e_ := Option.some.inj (show some _ = some _ from hFL2); subst e_
    exact x_inv ⟨kL2, Nat.lt_succ_self _, x18, hLL2, q7, q8, q9, rfl, ((hS.pull 1).pull 1)⟩
  ·replace hFL2 := it_f hc9 hFL2
   refine x_exitTo _ rfl <| ?_
   have e_ := Option.some.inj (show some _ = some _ from hFL2); subst e_
   exact x_inv ⟨hLL2, ((hS.pull 1).pull 1)⟩
 rintro E w ⟨rfl, hS⟩
 refine x_seq <| x_region <| p (yl_assign rfl) <| x_done <| ?_
 have e_ := Option.some.inj (show some _ = some _ from hF); subst e_
 exact x_return ⟨_, ⟨_, _, rfl, rfl, rfl⟩, rfl, ((hS.pull 1).pull 1)⟩
attribute [irreducible] P_slices_IndexFunc_clocks_Input_clocks_Input

def P_slices_ContainsFunc_clocks_Input_clocks_Input (s0 : List T_clocks_Input) (q2 : T_clocks_Input) : Option Bool :=
 bd (P_slices_IndexFunc_clocks_Input_clocks_Input s0 q2) fun q3 =>
 some (decide (0 ≤ q3))
set_option maxHeartbeats 4000000 in
set_option maxRecDepth 100000 in
theorem c_slices_ContainsFunc_clocks_Input_clocks_Input {w0 w : World} {l : List Assn} {ρ : Heap} {q4 : Option Addr} {q5 : Nat} {c_s0 : Nat} {q3 : Nat} {s0 : List T_clocks_Input} {q2 : T_clocks_Input} {r : Bool} (hF : P_slices_ContainsFunc_clocks_Input_clocks_Input s0 q2 = some r) (q6 : RdS R_clocks_Input ρ q4 q5 c_s0 s0) (hS : St w0 w (cells q3 66 [.string q2.Name, .int .i64 q2.At.Lo, .int .i64 q2.At.Hi] :: ro ρ :: l)) :
  Calls Tryd.prog 33 #[.slice q4 q5 c_s0, .func (.func 34) #[] #[.pointer (some ⟨q3, 0, none⟩)]] w fun e w' => e = .returned (.bool r) ∧ St w0 w' (cells q3 66 [.string q2.Name, .int .i64 q2.At.Lo, .int .i64 q2.At.Hi] :: ro ρ :: l) := by
 have e_ := q6.n; subst e_
 refine enterC Tryd.func33 rfl 9 rfl (by simp) ?_
 replace hF := bd_s hF; obtain ⟨q8, q7, hF⟩ := hF
 refine x_seq <| x_region <| p (yl_assign rfl) <| x_done <|
  x_seq <| x_region <| p (yl_move rfl) <| p (yl_move rfl) <| ?_
 have hcall := c_slices_IndexFunc_clocks_Input_clocks_Input q7 q6 hS
 refine o_cc call_48 (args2 rfl rfl) (hcall) ?_
 rintro e w' ⟨rfl, hS⟩
 refine ⟨_, rfl, ?_⟩
 refine p (yl_geq rfl rfl) <| p (yl_assign rfl) <| x_done <| ?_
 have e_ := Option.some.inj (show some _ = some _ from hF); subst e_
 exact x_return ⟨_, ⟨_, _, rfl, rfl, rfl⟩, rfl, ((hS.pull 1).pull 1)⟩
attribute [irreducible] P_slices_ContainsFunc_clocks_Input_clocks_Input

def P_clocks_Check_2 (y0 : T_clocks_Output) (v1 : T_clocks_Output) : Option Unit :=
 some ()
set_option maxHeartbeats 4000000 in
set_option maxRecDepth 100000 in
theorem c_clocks_Check_2 {w0 w : World} {l : List Assn} {ρ : Heap} {q2 : Nat} {y0 : T_clocks_Output} {v1 : T_clocks_Output} {r : Unit} (hF : P_clocks_Check_2 y0 v1 = some r) (hS : St w0 w (cells q2 68 [.string v1.Name, .int .i64 v1.Before] :: ro ρ :: l)) :
  Calls Tryd.prog 36 #[.agg #[.string y0.Name, .int .i64 y0.Before], .pointer (some ⟨q2, 0, none⟩)] w fun e w' => e = .returned (.bool (decide (y0.Name = v1.Name))) ∧ St w0 w' (cells q2 68 [.string v1.Name, .int .i64 v1.Before] :: ro ρ :: l) := by
 refine enterC Tryd.func36 rfl 9 rfl (by simp) ?_
 refine x_seq <| x_region <| ?_
 refine o_box (cs := [.string y0.Name, .int .i64 y0.Before]) rfl rfl hS (fun b2 w' hS => ?_)
 refine p (yl_assign rfl) <| x_done <| x_seq <| x_region <|
  p (yl_field0 fld_68_0 rfl) <| pa (at_load one_9 rfl (hS.cell rfl)) <| p (yl_field0 fld_68_0 rfl) <| pa (at_load one_9 rfl ((hS.pull 1).cell rfl)) <|
  p (yl_eql_string rfl rfl) <| p (yl_assign rfl) <| x_done <| ?_
 have e_ := Option.some.inj (show some _ = some _ from hF); subst e_
 exact x_return ⟨_, ⟨_, _, rfl, rfl, rfl⟩, rfl, ((hS.drop.pull 1).pull 1)⟩
attribute [irreducible] P_clocks_Check_2

def P_slices_IndexFunc_clocks_Output_clocks_Output_L2 (s0 : List T_clocks_Output) (q3 : T_clocks_Output) : Int → Option (Int ⊕ (Unit ⊕ Int)) := fun q2 =>
 if q2 < (s0.length : Int) then
  ck (inb q2 s0.length) <|
  lv (gt s0 q2) fun q4 =>
  bd (P_clocks_Check_2 q4 q3) fun q5 =>
  if q4.Name = q3.Name then
   some (Sum.inr (Sum.inr q2))
  else
   ar (q2 + 1) fun x18 =>
   some (Sum.inl x18)
 else
  some (Sum.inr (Sum.inl ()))
def P_slices_IndexFunc_clocks_Output_clocks_Output (s0 : List T_clocks_Output) (q2 : T_clocks_Output) : Option Int :=
 bs (
  lp (P_slices_IndexFunc_clocks_Output_clocks_Output_L2 s0 q2) fuel 0) (fun y => some y) fun _ =>
 some (-1 : Int)
set_option maxHeartbeats 4000000 in
set_option maxRecDepth 100000 in
theorem c_slices_IndexFunc_clocks_Output_clocks_Output {w0 w : World} {l : List Assn} {ρ : Heap} {q9 : Option Addr} {q0e : Nat} {c_s0 : Nat} {q3 : Nat} {s0 : List T_clocks_Output} {q2 : T_clocks_Output} {r : Int} (hF : P_slices_IndexFunc_clocks_Output_clocks_Output s0 q2 = some r) (q0a : RdS R_clocks_Output ρ q9 q0e c_s0 s0) (hS : St w0 w (cells q3 68 [.string q2.Name, .int .i64 q2.Before] :: ro ρ :: l)) :
  Calls Tryd.prog 49 #[.slice q9 q0e c_s0, .func (.func 36) #[] #[.pointer (some ⟨q3, 0, none⟩)]] w fun e w' => e = .returned (.int .i64 r) ∧ St w0 w' (cells q3 68 [.string q2.Name, .int .i64 q2.Before] :: ro ρ :: l) := by
 have e_ := q0a.n; subst e_
 refine enterC Tryd.func49 rfl 19 rfl (by simp) ?_
 refine x_seq <| x_region <| p (yl_assign rfl) <| x_done <|
  x_seq <| x_seq <| x_region <| p (yl_move rfl) <|
  p (yl_len_slice usl_38 rfl) <| p (yl_move rfl) <| x_done <| ?_
 replace hF := bs_s hF; obtain ⟨oL2, hLL2, hF⟩ := hF
 refine x_join (fun E w => (Sum.inl (())) = oL2 ∧ St w0 w (cells q3 68 [.string q2.Name, .int .i64 q2.Before] :: ro ρ :: l)) ?_ ?_
 ·refine x_block ?_
  refine x_loop (fun k_ E w => ∃ (q4 : Int), lp (P_slices_IndexFunc_clocks_Output_clocks_Output_L2 s0 q2) k_ q4 = some oL2 ∧ E 0 = .slice q9 s0.length c_s0 ∧ E 1 = .func (.func 36) #[] #[.pointer (some ⟨q3, 0, none⟩)] ∧ E 7 = .int .i64 (s0.length : Int) ∧ E 8 = .int .i64 q4 ∧ St w0 w (cells q3 68 [.string q2.Name, .int .i64 q2.Before] :: ro ρ :: l)) fuel ⟨0, hLL2, rfl, rfl, rfl, rfl, ((hS.pull 1).pull 1)⟩ ?_
  rintro kL2 E w ⟨q4, hLL2, q6, q7, q8, q5, hS⟩
  replace hLL2 := lp_s hLL2; obtain ⟨kL2, obL2, rfl, hFL2, hLL2⟩ := hLL2
  refine x_seq <| x_region <| p (yl_lss q5 q8) <| x_done <|
   x_seq <|
   x_cond_p (q4 < (s0.length : Int)) rfl (fun hc9 => ?_) (fun hc9 => ?_)
  ·replace hFL2 := it_t hc9 hFL2
   replace hFL2 := ck_s hFL2; obtain ⟨q0c, hFL2⟩ := hFL2
   replace hFL2 := lv_s hFL2; obtain ⟨q0b, q0f, hFL2⟩ := hFL2
   have q_ := q0a.get q0c; obtain ⟨q0i, q0d, q0g⟩ := q_
   rw [← q0f] at q0d
   have e_ := q0d; subst e_
   replace hFL2 := bd_s hFL2; obtain ⟨q0j, q0h, hFL2⟩ := hFL2
   refine x_skip <| x_seq <| x_block <| x_seq <|
    x_region <| p (yl_move q5) <| p (yl_assign rfl) <| x_done <|
    x_seq <| x_region <| p (yl_move q7) <| p (yl_move q6) <|
    p (yl_move rfl) <| p (yix_f sl_38 rfl rfl q0a q0c) <| pa (v := .agg #[.string q0b.Name, .int .i64 q0b.Before]) (at_loadAgg agg_68 rfl rfl (Elt.every q0g (hS.pull 1))) <| ?_
   have hcall := c_clocks_Check_2 q0h  hS
   refine o_ccv rfl call_36 (capargs (args1 rfl)) (hcall) ?_
   rintro e w' ⟨rfl, hS⟩
   refine ⟨_, rfl, ?_⟩
   refine x_done <|
    x_cond_p (q0b.Name = q2.Name) rfl (fun hc16 => ?_) (fun hc16 => ?_)
   ·replace hFL2 := it_t hc16 hFL2
    refine x_seq <| x_region <| p (yl_move rfl) <| p (yl_assign rfl) <|
     x_done <| ?_
    have e_ := Option.some.inj (show some _ = some _ from hFL2); subst e_
    have e_ := (show _ = oL2 from hLL2); subst e_
    have e_ := Option.some.inj (show some _ = some _ from hF); subst e_
    exact x_return ⟨_, ⟨_, _, rfl, rfl, rfl⟩, rfl, ((hS.pull 1).pull 1)⟩
   ·replace hFL2 := it_f hc16 hFL2
    replace hFL2 := ar_s hFL2; obtain ⟨x18, hx18, hFL2⟩ := hFL2
    refine x_skip <| x_blk <| x_region <| p (yadd q5 rfl hx18) <|
     p (yl_move rfl) <| x_done <| ?_
    have e_ := Option.some.inj (show some _ = some _ from hFL2); subst e_
    exact x_inv ⟨kL2, Nat.lt_succ_self _, x18, hLL2, q6, q7, q8, rfl, ((hS.pull 1).pull 1)⟩
  ·replace hFL2 := it_f hc9 hFL2
   refine x_exitTo _ rfl <| ?_
   have e_ := Option.some.inj (show some _ = some _ from hFL2); subst e_
   exact x_inv ⟨hLL2, ((hS.pull 1).pull 1)⟩
 rintro E w ⟨rfl, hS⟩
 refine x_seq <| x_region <| p (yl_assign rfl) <| x_done <| ?_
 have e_ := Option.some.inj (show some _ = some _ from hF); subst e_
 exact x_return ⟨_, ⟨_, _, rfl, rfl, rfl⟩, rfl, ((hS.pull 1).pull 1)⟩
attribute [irreducible] P_slices_IndexFunc_clocks_Output_clocks_Output


end Go.Proofs.YtkenpbnpemjbhaaDoor.X
