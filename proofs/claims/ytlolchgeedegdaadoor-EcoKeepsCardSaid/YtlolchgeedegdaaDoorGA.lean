/- Printed by gen.py: plain functions, and that the Go code computes them. -/
import Derived.Test.YtlolchgeedegdaaDoorXI
import Derived.Test.YtlolchgeedegdaaDoorXT
import Derived.Test.YtlolchgeedegdaaDoorGAp0
import Derived.Test.YtlolchgeedegdaaDoorGAp1
namespace Go.Proofs.YtlolchgeedegdaaDoor.X
open Go Go.RowKit
set_option linter.unusedVariables false
set_option linter.unusedSimpArgs false

def P_eco_swap (n0 : T_api_Netlist) (l_1 : List T_api_Cell) (x2 : T_eco_Edit) : Option (Int × List T_api_Gate) :=
 lv ((decide (x2.I < 0)) || (decide ((n0.Gates.length : Int) ≤ x2.I))) fun x21 =>
 if x21 = true then
  some ((7 : Int), n0.Gates)
 else
  lv ((decide (x2.Net < 0)) || (decide ((l_1.length : Int) ≤ x2.Net))) fun x31 =>
  if x31 = true then
   some ((2 : Int), n0.Gates)
  else
   ck (inb x2.I n0.Gates.length) <|
   lv (gt n0.Gates x2.I) fun q4 =>
   ck (inb q4.Cell l_1.length) <|
   lv (gt l_1 q4.Cell) fun q3 =>
   ck (inb x2.Net l_1.length) <|
   lv (gt l_1 x2.Net) fun q2 =>
   lv (q2.Flop || (decide (q3.Table ≠ q2.Table))) fun x57 =>
   lv (x57 || (decide (q3.Ins ≠ q2.Ins))) fun x64 =>
   lv (x64 || (decide (q3.Area ≠ q2.Area))) fun x71 =>
   if x71 = true then
    some ((15 : Int), n0.Gates)
   else
    ck (inb x2.I n0.Gates.length) <|
    lv (stt n0.Gates x2.I { (gt n0.Gates x2.I) with Cell := x2.Net }) fun q5 =>
    some ((0 : Int), q5)
set_option maxHeartbeats 4000000 in
set_option maxRecDepth 100000 in
theorem c_eco_swap {w0 w : World} {l : List Assn} {ρ : Heap} {q6 : Nat} {q9 : Option Addr} {q0i : Nat} {c_n0_0 : Nat} {q0o : List Value} {q0a : Option Addr} {q0j : Nat} {c_n0_1 : Nat} {q0p : List Value} {q0b : Option Addr} {q0k : Nat} {c_n0_2 : Nat} {q0q : List Value} {q4 : Option Addr} {q0l : Nat} {c_n0_3 : Nat} {q7 : List Value} {q0c : Option Addr} {q0m : Nat} {c_n0_4 : Nat} {q0r : List Value} {q5 : Option Addr} {q1k : Nat} {c_l_1 : Nat} {q0f : Option Addr} {q1f : Nat} {c_x2_3 : Nat} {n0 : T_api_Netlist} {l_1 : List T_api_Cell} {x2 : T_eco_Edit} {r : (Int × List T_api_Gate)} (hF : P_eco_swap n0 l_1 x2 = some r) (q20 : RepL RpS ρ n0.In q0o) (q21 : RepL RpS ρ n0.Out q0p) (q22 : RepL R_api_Flop ρ n0.Flops q0q) (q0d : RepL R_api_Gate ρ n0.Gates q7) (q23 : RepL (RpI .i64) ρ n0.Outs q0r) (q0x : RdS R_api_Cell ρ q5 q1k c_l_1 l_1) (q24 : RdS (RpI .i64) ρ q0f q1f c_x2_3 x2.Gate.Ins) (hS : St w0 w (cells q6 30 [.slice q9 q0i c_n0_0, .slice q0a q0j c_n0_1, .slice q0b q0k c_n0_2, .slice q4 q0l c_n0_3, .slice q0c q0m c_n0_4] :: vec 9 RpS.sz (.slice q9 q0i c_n0_0) q0i q0o :: vec 9 RpS.sz (.slice q0a q0j c_n0_1) q0j q0p :: vec 135 R_api_Flop.sz (.slice q0b q0k c_n0_2) q0k q0q :: vec 38 R_api_Gate.sz (.slice q4 q0l c_n0_3) q0l q7 :: vec 3 (RpI .i64).sz (.slice q0c q0m c_n0_4) q0m q0r :: ro ρ :: l)) :
  Calls Tryd.prog 112 #[.pointer (some ⟨q6, 0, none⟩), .slice q5 q1k c_l_1, .agg #[.int .i64 x2.Kind, .int .i64 x2.Gate.Cell, .int .u64 x2.Gate.Table, .slice q0f q1f c_x2_3, .int .i64 x2.I, .int .i64 x2.K, .int .i64 x2.Net]] w fun e w' => ∃ (q0n : List Value), e = .returned (.int .i64 r.1) ∧ RepL R_api_Gate ρ r.2 q0n ∧ St w0 w' (cells q6 30 [.slice q9 q0i c_n0_0, .slice q0a q0j c_n0_1, .slice q0b q0k c_n0_2, .slice q4 q0l c_n0_3, .slice q0c q0m c_n0_4] :: vec 9 RpS.sz (.slice q9 q0i c_n0_0) q0i q0o :: vec 9 RpS.sz (.slice q0a q0j c_n0_1) q0j q0p :: vec 135 R_api_Flop.sz (.slice q0b q0k c_n0_2) q0k q0q :: vec 38 R_api_Gate.sz (.slice q4 q0l c_n0_3) q0l q0n :: vec 3 (RpI .i64).sz (.slice q0c q0m c_n0_4) q0m q0r :: ro ρ :: l) := by
 have e_ := St.vec_n (hS.pull 1) q20; subst e_
 have e_ := St.vec_n (hS.pull 2) q21; subst e_
 have e_ := St.vec_n (hS.pull 3) q22; subst e_
 have e_ := St.vec_n (hS.pull 4) q0d; subst e_
 have e_ := St.vec_n (hS.pull 5) q23; subst e_
 have e_ := q0x.n; subst e_
 have e_ := q24.n; subst e_
 refine enterC Tryd.func112 rfl 82 rfl (by simp) ?_
 refine x_seq <| x_region <| ?_
 refine o_box (cs := [.int .i64 x2.Kind, .int .i64 x2.Gate.Cell, .int .u64 x2.Gate.Table, .slice q0f x2.Gate.Ins.length c_x2_3, .int .i64 x2.I, .int .i64 x2.K, .int .i64 x2.Net]) rfl rfl hS (fun b5 w' hS => ?_)
 replace hF := lv_s hF; obtain ⟨x21, hx21, hF⟩ := hF
 refine p (yl_assign rfl) <| x_done <| x_seq <| x_seq <|
  x_still mixed (by kernel_rfl) hS <| q (yl_field0 fld_43_2 rfl) <| qa (fun w' hS => at_load one_3 rfl (hS.cell rfl)) <| q (yl_lss rfl rfl) <|
  q (yl_move rfl) <| qg (v := .pointer (some ⟨b5, 4, none⟩)) 12 (c := !(decide (x2.I < 0))) (says_f _) (fun hq w' hS => Yl.at (yl_field0 fld_43_2 rfl)) <| qg (v := .int .i64 x2.I) 12 (c := !(decide (x2.I < 0))) (says_f _) (fun hq w' hS => at_load one_3 (cv hq) (hS.cell rfl)) <| qg (v := .pointer (some ⟨q6, 0, none⟩)) 12 (c := !(decide (x2.I < 0))) (says_f _) (fun hq w' hS => Yl.at (yl_move rfl)) <|
  qg (v := .pointer (some ⟨q6, 0, none⟩)) 12 (c := !(decide (x2.I < 0))) (says_f _) (fun hq w' hS => Yl.at (yl_nilCheck (cv hq))) <| qg (v := .pointer (some ⟨q6, 3, none⟩)) 12 (c := !(decide (x2.I < 0))) (says_f _) (fun hq w' hS => Yl.at (yl_field0 fld_30_3 (cv hq))) <| qg (v := .slice q4 n0.Gates.length c_n0_3) 12 (c := !(decide (x2.I < 0))) (says_f _) (fun hq w' hS => at_load one_28 (cv hq) ((hS.pull 1).cell rfl)) <| qg (v := .int .i64 (n0.Gates.length : Int)) 12 (c := !(decide (x2.I < 0))) (says_f _) (fun hq w' hS => Yl.at (yl_len_slice usl_28 (cv hq))) <|
  qg (v := .bool (decide ((n0.Gates.length : Int) ≤ x2.I))) 12 (c := !(decide (x2.I < 0))) (says_f _) (fun hq w' hS => Yl.at (yl_geq (cv hq) (cv hq))) <| q (yor' rfl rfl (fun hc => (cv (t_not hc))) hx21) <|
  q_done fun w' hS => ?_
 refine x_cond (t := x21) rfl (fun hc21 => ?_) (fun hc21 => ?_)
 ·replace hF := it_t hc21 hF
  refine x_seq <| x_region <| p (yl_assign rfl) <| x_done <| ?_
  have e_ := Option.some.inj (show some _ = some _ from hF); subst e_
  exact x_return ⟨_, ⟨_, _, rfl, rfl, rfl⟩, q7, rfl, q0d, (((((((hS.drop.pull 6).pull 6).pull 6).pull 6).pull 6).pull 6).pull 6)⟩
 ·replace hF := it_bf hc21 hF
  replace hF := lv_s hF; obtain ⟨x31, hx31, hF⟩ := hF
  refine x_skip <| x_seq <| x_seq <| x_region <|
   p (yl_field0 fld_43_4 rfl) <| pa (at_load one_3 rfl (hS.cell rfl)) <| p (yl_lss rfl rfl) <| p (yl_move rfl) <|
   pg (v := .pointer (some ⟨b5, 6, none⟩)) 25 (c := !(decide (x2.Net < 0))) (says_f _) (fun hq => Yl.at (yl_field0 fld_43_4 rfl)) <| pg (v := .int .i64 x2.Net) 25 (c := !(decide (x2.Net < 0))) (says_f _) (fun hq => at_load one_3 (cv hq) (hS.cell rfl)) <| pg (v := .slice q5 l_1.length c_l_1) 25 (c := !(decide (x2.Net < 0))) (says_f _) (fun hq => Yl.at (yl_move rfl)) <| pg (v := .int .i64 (l_1.length : Int)) 25 (c := !(decide (x2.Net < 0))) (says_f _) (fun hq => Yl.at (yl_len_slice usl_31 (cv hq))) <|
   pg (v := .bool (decide ((l_1.length : Int) ≤ x2.Net))) 25 (c := !(decide (x2.Net < 0))) (says_f _) (fun hq => Yl.at (yl_geq (cv hq) (cv hq))) <| p (yor' rfl rfl (fun hc => (cv (t_not hc))) hx31) <| x_done <|
   x_cond (t := x31) rfl (fun hc31 => ?_) (fun hc31 => ?_)
  ·replace hF := it_t hc31 hF
   refine x_seq <| x_region <| p (yl_assign rfl) <| x_done <| ?_
   have e_ := Option.some.inj (show some _ = some _ from hF); subst e_
   exact x_return ⟨_, ⟨_, _, rfl, rfl, rfl⟩, q7, rfl, q0d, (((((((hS.drop.pull 6).pull 6).pull 6).pull 6).pull 6).pull 6).pull 6)⟩
  ·replace hF := it_bf hc31 hF
   refine x_skip <| x_seq <| ?_
   replace hF := ck_s hF; obtain ⟨q1l, hF⟩ := hF
   replace hF := lv_s hF; obtain ⟨q0y, q2j, hF⟩ := hF
   replace hF := ck_s hF; obtain ⟨q1g, hF⟩ := hF
   replace hF := lv_s hF; obtain ⟨q3, q25, hF⟩ := hF
   replace hF := ck_s hF; obtain ⟨q1h, hF⟩ := hF
   replace hF := lv_s hF; obtain ⟨q2, q26, hF⟩ := hF
   refine x_par (w0 := w0) [⟨[], [], [32], [], [], []⟩, ⟨[], [], [33], [], [], []⟩, ⟨[1], [1], [34], [], [], []⟩, ⟨[1, 2], [2], [35], [], [], []⟩, ⟨[1, 2, 3], [3], [36], [0], [], []⟩, ⟨[], [], [37], [], [], []⟩, ⟨[5], [5], [38], [1], [], []⟩, ⟨[1, 2, 3, 4, 5, 6], [4, 6], [39], [2], [], []⟩, ⟨[1, 2, 3, 4, 5, 6, 7], [7], [40], [], [], []⟩, ⟨[1, 2, 3, 4, 5, 6, 7, 8], [8], [41], [2], [], []⟩, ⟨[0, 1, 2, 3, 4, 5, 6, 7, 8, 9], [0, 9], [42], [3], [], []⟩, ⟨[0, 1, 2, 3, 4, 5, 6, 7, 8, 9, 10], [10], [43], [3], [], []⟩, ⟨[], [], [44], [], [], []⟩, ⟨[], [], [45], [], [], []⟩, ⟨[13], [13], [46], [1], [], []⟩, ⟨[12, 13, 14], [12, 14], [47], [3], [], []⟩, ⟨[12, 13, 14, 15], [15], [48], [3], [], []⟩, ⟨[], [], [7], [], [], [4]⟩, ⟨[], [], [8], [], [], [5]⟩, ⟨[0, 1, 2, 3, 4, 5, 6, 7, 8, 9, 10, 11, 17, 18], [11, 17], [], [], [4], [6]⟩, ⟨[0, 1, 2, 3, 4, 5, 6, 7, 8, 9, 10, 11, 12, 13, 14, 15, 16, 17, 18, 19], [16, 18], [], [], [5], [7]⟩] [⟨none, none, []⟩, ⟨none, none, []⟩, ⟨none, none, []⟩, ⟨none, none, []⟩, ⟨(some 17), (some 19), [7]⟩, ⟨(some 18), (some 20), [8]⟩, ⟨(some 19), none, [7, 43]⟩, ⟨(some 20), none, [8, 48]⟩] [7, 8, 32, 33, 34, 35, 36, 37, 38, 39, 40, 41, 42, 43, 44, 45, 46, 47, 48] [0, 1, 2, 3] [0, 1, 2, 3, 6, 7] [0, 1, 2, 3, 4, 5, 6, 7, 8, 9, 10, 11, 12, 13, 14, 15, 16, 17, 18] [fun Ep5 => Ep5 32 = .slice q5 l_1.length c_l_1, fun Ep5 => Ep5 33 = .pointer (some ⟨q6, 0, none⟩), fun Ep5 => Ep5 34 = .pointer (some ⟨q6, 0, none⟩), fun Ep5 => Ep5 35 = .pointer (some ⟨q6, 3, none⟩), fun Ep5 => Ep5 36 = .slice q4 n0.Gates.length c_n0_3, fun Ep5 => Ep5 37 = .pointer (some ⟨b5, 4, none⟩), fun Ep5 => Ep5 38 = .int .i64 x2.I, fun Ep5 => Ep5 39 = .pointer (some ((adr q4).add (x2.I.toNat * R_api_Gate.sz))), fun Ep5 => Ep5 40 = .pointer (some (((adr q4).add (x2.I.toNat * R_api_Gate.sz)).add 0)), fun Ep5 => Ep5 41 = .int .i64 q0y.Cell, fun Ep5 => Ep5 42 = .pointer (some ((adr q5).add (q0y.Cell.toNat * R_api_Cell.sz))), fun Ep5 => Ep5 43 = .agg #[.string q3.Name, .bool q3.Flop, .int .i64 q3.Ins, .int .u64 q3.Table, .int .i64 q3.Area, .slice (adOf (partOf 5 (Ep5 43))) q3.Cap.length (capOf (partOf 5 (Ep5 43))), .slice (adOf (partOf 6 (Ep5 43))) q3.Min.length (capOf (partOf 6 (Ep5 43))), .slice (adOf (partOf 7 (Ep5 43))) q3.Max.length (capOf (partOf 7 (Ep5 43))), .int .i64 q3.Drive, .int .i64 q3.Setup, .int .i64 q3.Hold] ∧ RdS (RpI .i64) ρ (adOf (partOf 5 (Ep5 43))) q3.Cap.length (capOf (partOf 5 (Ep5 43))) q3.Cap ∧ RdS (RpI .i64) ρ (adOf (partOf 6 (Ep5 43))) q3.Min.length (capOf (partOf 6 (Ep5 43))) q3.Min ∧ RdS (RpI .i64) ρ (adOf (partOf 7 (Ep5 43))) q3.Max.length (capOf (partOf 7 (Ep5 43))) q3.Max, fun Ep5 => Ep5 44 = .slice q5 l_1.length c_l_1, fun Ep5 => Ep5 45 = .pointer (some ⟨b5, 6, none⟩), fun Ep5 => Ep5 46 = .int .i64 x2.Net, fun Ep5 => Ep5 47 = .pointer (some ((adr q5).add (x2.Net.toNat * R_api_Cell.sz))), fun Ep5 => Ep5 48 = .agg #[.string q2.Name, .bool q2.Flop, .int .i64 q2.Ins, .int .u64 q2.Table, .int .i64 q2.Area, .slice (adOf (partOf 5 (Ep5 48))) q2.Cap.length (capOf (partOf 5 (Ep5 48))), .slice (adOf (partOf 6 (Ep5 48))) q2.Min.length (capOf (partOf 6 (Ep5 48))), .slice (adOf (partOf 7 (Ep5 48))) q2.Max.length (capOf (partOf 7 (Ep5 48))), .int .i64 q2.Drive, .int .i64 q2.Setup, .int .i64 q2.Hold] ∧ RdS (RpI .i64) ρ (adOf (partOf 5 (Ep5 48))) q2.Cap.length (capOf (partOf 5 (Ep5 48))) q2.Cap ∧ RdS (RpI .i64) ρ (adOf (partOf 6 (Ep5 48))) q2.Min.length (capOf (partOf 6 (Ep5 48))) q2.Min ∧ RdS (RpI .i64) ρ (adOf (partOf 7 (Ep5 48))) q2.Max.length (capOf (partOf 7 (Ep5 48))) q2.Max, fun Ep5 => Ep5 7 = .pointer (some ⟨(blkOf (Ep5 7)), 0, none⟩), fun Ep5 => Ep5 8 = .pointer (some ⟨(blkOf (Ep5 8)), 0, none⟩), fun Ep5 => True, fun Ep5 => True] [fun Ep5 => cells q6 30 [.slice q9 n0.In.length c_n0_0, .slice q0a n0.Out.length c_n0_1, .slice q0b n0.Flops.length c_n0_2, .slice q4 n0.Gates.length c_n0_3, .slice q0c n0.Outs.length c_n0_4], fun Ep5 => cells b5 43 [.int .i64 x2.Kind, .int .i64 x2.Gate.Cell, .int .u64 x2.Gate.Table, .slice q0f x2.Gate.Ins.length c_x2_3, .int .i64 x2.I, .int .i64 x2.K, .int .i64 x2.Net], fun Ep5 => vec 38 R_api_Gate.sz (.slice q4 n0.Gates.length c_n0_3) n0.Gates.length q7, fun Ep5 => ro ρ, fun Ep5 => cells (blkOf (Ep5 7)) 206 [.string (⟨#[]⟩ : ByteArray), .bool false, .int .i64 0, .int .u64 0, .int .i64 0, .slice none 0 0, .slice none 0 0, .slice none 0 0, .int .i64 0, .int .i64 0, .int .i64 0], fun Ep5 => cells (blkOf (Ep5 8)) 206 [.string (⟨#[]⟩ : ByteArray), .bool false, .int .i64 0, .int .u64 0, .int .i64 0, .slice none 0 0, .slice none 0 0, .slice none 0 0, .int .i64 0, .int .i64 0, .int .i64 0], fun Ep5 => cells (blkOf (Ep5 7)) 206 [.string q3.Name, .bool q3.Flop, .int .i64 q3.Ins, .int .u64 q3.Table, .int .i64 q3.Area, .slice (adOf (partOf 5 (Ep5 43))) q3.Cap.length (capOf (partOf 5 (Ep5 43))), .slice (adOf (partOf 6 (Ep5 43))) q3.Min.length (capOf (partOf 6 (Ep5 43))), .slice (adOf (partOf 7 (Ep5 43))) q3.Max.length (capOf (partOf 7 (Ep5 43))), .int .i64 q3.Drive, .int .i64 q3.Setup, .int .i64 q3.Hold], fun Ep5 => cells (blkOf (Ep5 8)) 206 [.string q2.Name, .bool q2.Flop, .int .i64 q2.Ins, .int .u64 q2.Table, .int .i64 q2.Area, .slice (adOf (partOf 5 (Ep5 48))) q2.Cap.length (capOf (partOf 5 (Ep5 48))), .slice (adOf (partOf 6 (Ep5 48))) q2.Min.length (capOf (partOf 6 (Ep5 48))), .slice (adOf (partOf 7 (Ep5 48))) q2.Max.length (capOf (partOf 7 (Ep5 48))), .int .i64 q2.Drive, .int .i64 q2.Setup, .int .i64 q2.Hold]] mixed (by kernel_rfl) ((((hS.pull 7).pull 6).pull 2).pull 3) ?_ ?_
   ·refine ⟨?_, ?_, ?_, ?_, ?_, ?_, ?_, ?_, ?_, ?_, ?_, ?_, ?_, ?_, ?_, ?_, ?_, ?_, ?_, ?_, ?_, trivial⟩
    ·intro Ep5 w l' hE5 hO5 hF_ hS
     refine p (yl_move (hE5 1 rfl)) <| x_done <| ?_
     refine x_fin ⟨⟨_, rfl⟩, rfl, ?_⟩
     exact Eq.mp (by kernel_rfl) hS
    ·intro Ep5 w l' hE5 hO5 hF_ hS
     refine p (yl_move (hE5 0 rfl)) <| x_done <| ?_
     refine x_fin ⟨⟨_, rfl⟩, rfl, ?_⟩
     exact Eq.mp (by kernel_rfl) hS
    ·intro Ep5 w l' hE5 hO5 hF_ hS
     obtain ⟨q0z, -⟩ := hF_
     replace q0z : Ep5 33 = .pointer (some ⟨q6, 0, none⟩) := Eq.mp (by kernel_rfl) q0z
     refine p (yl_nilCheck q0z) <| x_done <| ?_
     refine x_fin ⟨⟨_, rfl⟩, rfl, ?_⟩
     exact Eq.mp (by kernel_rfl) hS
    ·intro Ep5 w l' hE5 hO5 hF_ hS
     obtain ⟨q10, -⟩ := hF_
     replace q10 : Ep5 34 = .pointer (some ⟨q6, 0, none⟩) := Eq.mp (by kernel_rfl) q10
     refine p (yl_field0 fld_30_3 q10) <| x_done <| ?_
     refine x_fin ⟨⟨_, rfl⟩, rfl, ?_⟩
     exact Eq.mp (by kernel_rfl) hS
    ·intro Ep5 w l' hE5 hO5 hF_ hS
     obtain ⟨q11, -⟩ := hF_
     replace q11 : Ep5 35 = .pointer (some ⟨q6, 3, none⟩) := Eq.mp (by kernel_rfl) q11
     replace hS : St w0 w (cells q6 30 [.slice q9 n0.In.length c_n0_0, .slice q0a n0.Out.length c_n0_1, .slice q0b n0.Flops.length c_n0_2, .slice q4 n0.Gates.length c_n0_3, .slice q0c n0.Outs.length c_n0_4] :: l') := Eq.mp (by kernel_rfl) hS
     refine pa (at_load one_28 q11 (hS.cell rfl)) <| x_done <| ?_
     refine x_fin ⟨⟨_, rfl⟩, rfl, ?_⟩
     exact Eq.mp (by kernel_rfl) hS
    ·intro Ep5 w l' hE5 hO5 hF_ hS
     refine p (yl_field0 fld_43_2 (hE5 5 rfl)) <| x_done <| ?_
     refine x_fin ⟨⟨_, rfl⟩, rfl, ?_⟩
     exact Eq.mp (by kernel_rfl) hS
    ·intro Ep5 w l' hE5 hO5 hF_ hS
     obtain ⟨q12, -⟩ := hF_
     replace q12 : Ep5 37 = .pointer (some ⟨b5, 4, none⟩) := Eq.mp (by kernel_rfl) q12
     replace hS : St w0 w (cells b5 43 [.int .i64 x2.Kind, .int .i64 x2.Gate.Cell, .int .u64 x2.Gate.Table, .slice q0f x2.Gate.Ins.length c_x2_3, .int .i64 x2.I, .int .i64 x2.K, .int .i64 x2.Net] :: l') := Eq.mp (by kernel_rfl) hS
     refine pa (at_load one_3 q12 (hS.cell rfl)) <| x_done <| ?_
     refine x_fin ⟨⟨_, rfl⟩, rfl, ?_⟩
     exact Eq.mp (by kernel_rfl) hS
    ·intro Ep5 w l' hE5 hO5 hF_ hS
     obtain ⟨q13, q14, -⟩ := hF_
     replace q13 : Ep5 36 = .slice q4 n0.Gates.length c_n0_3 := Eq.mp (by kernel_rfl) q13
     replace q14 : Ep5 38 = .int .i64 x2.I := Eq.mp (by kernel_rfl) q14
     replace hS : St w0 w (vec 38 R_api_Gate.sz (.slice q4 n0.Gates.length c_n0_3) n0.Gates.length q7 :: l') := Eq.mp (by kernel_rfl) hS
     refine p (yix_o sl_28 q13 q14 hS q0d q1l) <| x_done <| ?_
     refine x_fin ⟨⟨_, rfl⟩, rfl, ?_⟩
     exact Eq.mp (by kernel_rfl) hS
    ·intro Ep5 w l' hE5 hO5 hF_ hS
     obtain ⟨q15, -⟩ := hF_
     replace q15 : Ep5 39 = .pointer (some ((adr q4).add (x2.I.toNat * R_api_Gate.sz))) := Eq.mp (by kernel_rfl) q15
     refine p (yl_fieldAddr fld_38_0 q15) <| x_done <| ?_
     refine x_fin ⟨⟨_, rfl⟩, rfl, ?_⟩
     exact Eq.mp (by kernel_rfl) hS
    ·intro Ep5 w l' hE5 hO5 hF_ hS
     obtain ⟨q16, -⟩ := hF_
     replace q16 : Ep5 40 = .pointer (some (((adr q4).add (x2.I.toNat * R_api_Gate.sz)).add 0)) := Eq.mp (by kernel_rfl) q16
     replace hS : St w0 w (vec 38 R_api_Gate.sz (.slice q4 n0.Gates.length c_n0_3) n0.Gates.length q7 :: l') := Eq.mp (by kernel_rfl) hS
     have q_ := q0d.get q1l; obtain ⟨q2w, q1m, q2k⟩ := q_
     rw [← q2j] at q1m
     obtain ⟨q2r, q2s, q2t, rfl, q27⟩ := q1m
     have e_ := q27.n; subst e_
     refine pa (at_load one_3 q16 (EltV.ld (m := 0) q2k hS rfl)) <| x_done <| ?_
     refine x_fin ⟨⟨_, rfl⟩, rfl, ?_⟩
     exact Eq.mp (by kernel_rfl) hS
    ·intro Ep5 w l' hE5 hO5 hF_ hS
     obtain ⟨q17, q18, -⟩ := hF_
     replace q17 : Ep5 32 = .slice q5 l_1.length c_l_1 := Eq.mp (by kernel_rfl) q17
     replace q18 : Ep5 41 = .int .i64 q0y.Cell := Eq.mp (by kernel_rfl) q18
     replace hS : St w0 w (ro ρ :: l') := Eq.mp (by kernel_rfl) hS
     refine p (yix_f sl_31 q17 q18 q0x q1g) <| x_done <| ?_
     refine x_fin ⟨⟨_, rfl⟩, rfl, ?_⟩
     exact Eq.mp (by kernel_rfl) hS
    ·intro Ep5 w l' hE5 hO5 hF_ hS
     obtain ⟨q0s, -⟩ := hF_
     replace q0s : Ep5 42 = .pointer (some ((adr q5).add (q0y.Cell.toNat * R_api_Cell.sz))) := Eq.mp (by kernel_rfl) q0s
     replace hS : St w0 w (ro ρ :: l') := Eq.mp (by kernel_rfl) hS
     have q_ := q0x.get q1g; obtain ⟨q2u, q1i, q28⟩ := q_
     rw [← q25] at q1i
     obtain ⟨q1o, q2l, q1p, q1q, q2m, q1r, q1s, q2n, q1t, rfl, q19, q1a, q1b⟩ := q1i
     have e_ := q19.n; subst e_
     have e_ := q1a.n; subst e_
     have e_ := q1b.n; subst e_
     refine pa (v := .agg #[.string q3.Name, .bool q3.Flop, .int .i64 q3.Ins, .int .u64 q3.Table, .int .i64 q3.Area, .slice q1o q3.Cap.length q1p, .slice q1q q3.Min.length q1r, .slice q1s q3.Max.length q1t, .int .i64 q3.Drive, .int .i64 q3.Setup, .int .i64 q3.Hold]) (at_loadAgg agg_206 q0s rfl (Elt.every q28 hS)) <| x_done <| ?_
     refine x_fin ⟨⟨_, rfl⟩, ⟨rfl, q19, q1a, q1b⟩, ?_⟩
     exact Eq.mp (by kernel_rfl) hS
    ·intro Ep5 w l' hE5 hO5 hF_ hS
     refine p (yl_move (hE5 1 rfl)) <| x_done <| ?_
     refine x_fin ⟨⟨_, rfl⟩, rfl, ?_⟩
     exact Eq.mp (by kernel_rfl) hS
    ·intro Ep5 w l' hE5 hO5 hF_ hS
     refine p (yl_field0 fld_43_4 (hE5 5 rfl)) <| x_done <| ?_
     refine x_fin ⟨⟨_, rfl⟩, rfl, ?_⟩
     exact Eq.mp (by kernel_rfl) hS
    ·intro Ep5 w l' hE5 hO5 hF_ hS
     obtain ⟨q0t, -⟩ := hF_
     replace q0t : Ep5 45 = .pointer (some ⟨b5, 6, none⟩) := Eq.mp (by kernel_rfl) q0t
     replace hS : St w0 w (cells b5 43 [.int .i64 x2.Kind, .int .i64 x2.Gate.Cell, .int .u64 x2.Gate.Table, .slice q0f x2.Gate.Ins.length c_x2_3, .int .i64 x2.I, .int .i64 x2.K, .int .i64 x2.Net] :: l') := Eq.mp (by kernel_rfl) hS
     refine pa (at_load one_3 q0t (hS.cell rfl)) <| x_done <| ?_
     refine x_fin ⟨⟨_, rfl⟩, rfl, ?_⟩
     exact Eq.mp (by kernel_rfl) hS
    ·intro Ep5 w l' hE5 hO5 hF_ hS
     obtain ⟨q0u, q0v, -⟩ := hF_
     replace q0u : Ep5 44 = .slice q5 l_1.length c_l_1 := Eq.mp (by kernel_rfl) q0u
     replace q0v : Ep5 46 = .int .i64 x2.Net := Eq.mp (by kernel_rfl) q0v
     replace hS : St w0 w (ro ρ :: l') := Eq.mp (by kernel_rfl) hS
     refine p (yix_f sl_31 q0u q0v q0x q1h) <| x_done <| ?_
     refine x_fin ⟨⟨_, rfl⟩, rfl, ?_⟩
     exact Eq.mp (by kernel_rfl) hS
    ·intro Ep5 w l' hE5 hO5 hF_ hS
     obtain ⟨q0w, -⟩ := hF_
     replace q0w : Ep5 47 = .pointer (some ((adr q5).add (x2.Net.toNat * R_api_Cell.sz))) := Eq.mp (by kernel_rfl) q0w
     replace hS : St w0 w (ro ρ :: l') := Eq.mp (by kernel_rfl) hS
     have q_ := q0x.get q1h; obtain ⟨q2v, q1j, q29⟩ := q_
     rw [← q26] at q1j
     obtain ⟨q1u, q2o, q1v, q1w, q2p, q1x, q1y, q2q, q1z, rfl, q1c, q1d, q1e⟩ := q1j
     have e_ := q1c.n; subst e_
     have e_ := q1d.n; subst e_
     have e_ := q1e.n; subst e_
     refine pa (v := .agg #[.string q2.Name, .bool q2.Flop, .int .i64 q2.Ins, .int .u64 q2.Table, .int .i64 q2.Area, .slice q1u q2.Cap.length q1v, .slice q1w q2.Min.length q1x, .slice q1y q2.Max.length q1z, .int .i64 q2.Drive, .int .i64 q2.Setup, .int .i64 q2.Hold]) (at_loadAgg agg_206 q0w rfl (Elt.every q29 hS)) <| x_done <| ?_
     refine x_fin ⟨⟨_, rfl⟩, ⟨rfl, q1c, q1d, q1e⟩, ?_⟩
     exact Eq.mp (by kernel_rfl) hS
    ·intro Ep5 w l' hE5 hO5 hF_ hS
     refine o_alloc zero_206 hS (fun b7 w' hS => ?_)
     refine x_done <| ?_
     refine x_fin ⟨⟨_, rfl⟩, rfl, ?_⟩
     exact Eq.mp (by kernel_rfl) hS
    ·intro Ep5 w l' hE5 hO5 hF_ hS
     refine o_alloc zero_206 hS (fun b8 w' hS => ?_)
     refine x_done <| ?_
     refine x_fin ⟨⟨_, rfl⟩, rfl, ?_⟩
     exact Eq.mp (by kernel_rfl) hS
    ·intro Ep5 w l' hE5 hO5 hF_ hS
     obtain ⟨q0g, q0e, -⟩ := hF_
     replace q0g : Ep5 43 = .agg #[.string q3.Name, .bool q3.Flop, .int .i64 q3.Ins, .int .u64 q3.Table, .int .i64 q3.Area, .slice (adOf (partOf 5 (Ep5 43))) q3.Cap.length (capOf (partOf 5 (Ep5 43))), .slice (adOf (partOf 6 (Ep5 43))) q3.Min.length (capOf (partOf 6 (Ep5 43))), .slice (adOf (partOf 7 (Ep5 43))) q3.Max.length (capOf (partOf 7 (Ep5 43))), .int .i64 q3.Drive, .int .i64 q3.Setup, .int .i64 q3.Hold] ∧ RdS (RpI .i64) ρ (adOf (partOf 5 (Ep5 43))) q3.Cap.length (capOf (partOf 5 (Ep5 43))) q3.Cap ∧ RdS (RpI .i64) ρ (adOf (partOf 6 (Ep5 43))) q3.Min.length (capOf (partOf 6 (Ep5 43))) q3.Min ∧ RdS (RpI .i64) ρ (adOf (partOf 7 (Ep5 43))) q3.Max.length (capOf (partOf 7 (Ep5 43))) q3.Max := Eq.mp (by kernel_rfl) q0g
     have q_ := id q0g; obtain ⟨-, q2a, q2b, q2c⟩ := q_
     replace q0e : Ep5 7 = .pointer (some ⟨(blkOf (Ep5 7)), 0, none⟩) := Eq.mp (by kernel_rfl) q0e
     replace hS : St w0 w (cells (blkOf (Ep5 7)) 206 [.string (⟨#[]⟩ : ByteArray), .bool false, .int .i64 0, .int .u64 0, .int .i64 0, .slice none 0 0, .slice none 0 0, .slice none 0 0, .int .i64 0, .int .i64 0, .int .i64 0] :: l') := Eq.mp (by kernel_rfl) hS
     refine o_storeAgg (news := [.string q3.Name, .bool q3.Flop, .int .i64 q3.Ins, .int .u64 q3.Table, .int .i64 q3.Area, .slice (adOf (partOf 5 (Ep5 43))) q3.Cap.length (capOf (partOf 5 (Ep5 43))), .slice (adOf (partOf 6 (Ep5 43))) q3.Min.length (capOf (partOf 6 (Ep5 43))), .slice (adOf (partOf 7 (Ep5 43))) q3.Max.length (capOf (partOf 7 (Ep5 43))), .int .i64 q3.Drive, .int .i64 q3.Setup, .int .i64 q3.Hold]) agg_206 q0e q0g.1 rfl (by simp [over_length]) hS (fun w' hS => ?_)
     refine x_done <| ?_
     refine x_fin ⟨⟨undef, rfl⟩, trivial, ?_⟩
     exact Eq.mp (by kernel_rfl) hS
    ·intro Ep5 w l' hE5 hO5 hF_ hS
     obtain ⟨q0h, q8, -⟩ := hF_
     replace q0h : Ep5 48 = .agg #[.string q2.Name, .bool q2.Flop, .int .i64 q2.Ins, .int .u64 q2.Table, .int .i64 q2.Area, .slice (adOf (partOf 5 (Ep5 48))) q2.Cap.length (capOf (partOf 5 (Ep5 48))), .slice (adOf (partOf 6 (Ep5 48))) q2.Min.length (capOf (partOf 6 (Ep5 48))), .slice (adOf (partOf 7 (Ep5 48))) q2.Max.length (capOf (partOf 7 (Ep5 48))), .int .i64 q2.Drive, .int .i64 q2.Setup, .int .i64 q2.Hold] ∧ RdS (RpI .i64) ρ (adOf (partOf 5 (Ep5 48))) q2.Cap.length (capOf (partOf 5 (Ep5 48))) q2.Cap ∧ RdS (RpI .i64) ρ (adOf (partOf 6 (Ep5 48))) q2.Min.length (capOf (partOf 6 (Ep5 48))) q2.Min ∧ RdS (RpI .i64) ρ (adOf (partOf 7 (Ep5 48))) q2.Max.length (capOf (partOf 7 (Ep5 48))) q2.Max := Eq.mp (by kernel_rfl) q0h
     have q_ := id q0h; obtain ⟨-, q2d, q2e, q2f⟩ := q_
     replace q8 : Ep5 8 = .pointer (some ⟨(blkOf (Ep5 8)), 0, none⟩) := Eq.mp (by kernel_rfl) q8
     replace hS : St w0 w (cells (blkOf (Ep5 8)) 206 [.string (⟨#[]⟩ : ByteArray), .bool false, .int .i64 0, .int .u64 0, .int .i64 0, .slice none 0 0, .slice none 0 0, .slice none 0 0, .int .i64 0, .int .i64 0, .int .i64 0] :: l') := Eq.mp (by kernel_rfl) hS
     refine o_storeAgg (news := [.string q2.Name, .bool q2.Flop, .int .i64 q2.Ins, .int .u64 q2.Table, .int .i64 q2.Area, .slice (adOf (partOf 5 (Ep5 48))) q2.Cap.length (capOf (partOf 5 (Ep5 48))), .slice (adOf (partOf 6 (Ep5 48))) q2.Min.length (capOf (partOf 6 (Ep5 48))), .slice (adOf (partOf 7 (Ep5 48))) q2.Max.length (capOf (partOf 7 (Ep5 48))), .int .i64 q2.Drive, .int .i64 q2.Setup, .int .i64 q2.Hold]) agg_206 q8 q0h.1 rfl (by simp [over_length]) hS (fun w' hS => ?_)
     refine x_done <| ?_
     refine x_fin ⟨⟨undef, rfl⟩, trivial, ?_⟩
     exact Eq.mp (by kernel_rfl) hS
   intro Ep5 w' hE5 hF_ hS
   obtain ⟨q17, q0z, q10, q11, q13, q12, q14, q15, q16, q18, q0s, q0g, q0u, q0t, q0v, q0w, q0h, q0e, q8, -⟩ := hF_
   replace q17 : Ep5 32 = .slice q5 l_1.length c_l_1 := Eq.mp (by kernel_rfl) q17
   replace q0z : Ep5 33 = .pointer (some ⟨q6, 0, none⟩) := Eq.mp (by kernel_rfl) q0z
   replace q10 : Ep5 34 = .pointer (some ⟨q6, 0, none⟩) := Eq.mp (by kernel_rfl) q10
   replace q11 : Ep5 35 = .pointer (some ⟨q6, 3, none⟩) := Eq.mp (by kernel_rfl) q11
   replace q13 : Ep5 36 = .slice q4 n0.Gates.length c_n0_3 := Eq.mp (by kernel_rfl) q13
   replace q12 : Ep5 37 = .pointer (some ⟨b5, 4, none⟩) := Eq.mp (by kernel_rfl) q12
   replace q14 : Ep5 38 = .int .i64 x2.I := Eq.mp (by kernel_rfl) q14
   replace q15 : Ep5 39 = .pointer (some ((adr q4).add (x2.I.toNat * R_api_Gate.sz))) := Eq.mp (by kernel_rfl) q15
   replace q16 : Ep5 40 = .pointer (some (((adr q4).add (x2.I.toNat * R_api_Gate.sz)).add 0)) := Eq.mp (by kernel_rfl) q16
   replace q18 : Ep5 41 = .int .i64 q0y.Cell := Eq.mp (by kernel_rfl) q18
   replace q0s : Ep5 42 = .pointer (some ((adr q5).add (q0y.Cell.toNat * R_api_Cell.sz))) := Eq.mp (by kernel_rfl) q0s
   replace q0g : Ep5 43 = .agg #[.string q3.Name, .bool q3.Flop, .int .i64 q3.Ins, .int .u64 q3.Table, .int .i64 q3.Area, .slice (adOf (partOf 5 (Ep5 43))) q3.Cap.length (capOf (partOf 5 (Ep5 43))), .slice (adOf (partOf 6 (Ep5 43))) q3.Min.length (capOf (partOf 6 (Ep5 43))), .slice (adOf (partOf 7 (Ep5 43))) q3.Max.length (capOf (partOf 7 (Ep5 43))), .int .i64 q3.Drive, .int .i64 q3.Setup, .int .i64 q3.Hold] ∧ RdS (RpI .i64) ρ (adOf (partOf 5 (Ep5 43))) q3.Cap.length (capOf (partOf 5 (Ep5 43))) q3.Cap ∧ RdS (RpI .i64) ρ (adOf (partOf 6 (Ep5 43))) q3.Min.length (capOf (partOf 6 (Ep5 43))) q3.Min ∧ RdS (RpI .i64) ρ (adOf (partOf 7 (Ep5 43))) q3.Max.length (capOf (partOf 7 (Ep5 43))) q3.Max := Eq.mp (by kernel_rfl) q0g
   have q_ := id q0g; obtain ⟨-, q2a, q2b, q2c⟩ := q_
   replace q0u : Ep5 44 = .slice q5 l_1.length c_l_1 := Eq.mp (by kernel_rfl) q0u
   replace q0t : Ep5 45 = .pointer (some ⟨b5, 6, none⟩) := Eq.mp (by kernel_rfl) q0t
   replace q0v : Ep5 46 = .int .i64 x2.Net := Eq.mp (by kernel_rfl) q0v
   replace q0w : Ep5 47 = .pointer (some ((adr q5).add (x2.Net.toNat * R_api_Cell.sz))) := Eq.mp (by kernel_rfl) q0w
   replace q0h : Ep5 48 = .agg #[.string q2.Name, .bool q2.Flop, .int .i64 q2.Ins, .int .u64 q2.Table, .int .i64 q2.Area, .slice (adOf (partOf 5 (Ep5 48))) q2.Cap.length (capOf (partOf 5 (Ep5 48))), .slice (adOf (partOf 6 (Ep5 48))) q2.Min.length (capOf (partOf 6 (Ep5 48))), .slice (adOf (partOf 7 (Ep5 48))) q2.Max.length (capOf (partOf 7 (Ep5 48))), .int .i64 q2.Drive, .int .i64 q2.Setup, .int .i64 q2.Hold] ∧ RdS (RpI .i64) ρ (adOf (partOf 5 (Ep5 48))) q2.Cap.length (capOf (partOf 5 (Ep5 48))) q2.Cap ∧ RdS (RpI .i64) ρ (adOf (partOf 6 (Ep5 48))) q2.Min.length (capOf (partOf 6 (Ep5 48))) q2.Min ∧ RdS (RpI .i64) ρ (adOf (partOf 7 (Ep5 48))) q2.Max.length (capOf (partOf 7 (Ep5 48))) q2.Max := Eq.mp (by kernel_rfl) q0h
   have q_ := id q0h; obtain ⟨-, q2d, q2e, q2f⟩ := q_
   replace q0e : Ep5 7 = .pointer (some ⟨(blkOf (Ep5 7)), 0, none⟩) := Eq.mp (by kernel_rfl) q0e
   replace q8 : Ep5 8 = .pointer (some ⟨(blkOf (Ep5 8)), 0, none⟩) := Eq.mp (by kernel_rfl) q8
   replace hS : St w0 w' (cells q6 30 [.slice q9 n0.In.length c_n0_0, .slice q0a n0.Out.length c_n0_1, .slice q0b n0.Flops.length c_n0_2, .slice q4 n0.Gates.length c_n0_3, .slice q0c n0.Outs.length c_n0_4] :: cells b5 43 [.int .i64 x2.Kind, .int .i64 x2.Gate.Cell, .int .u64 x2.Gate.Table, .slice q0f x2.Gate.Ins.length c_x2_3, .int .i64 x2.I, .int .i64 x2.K, .int .i64 x2.Net] :: vec 38 R_api_Gate.sz (.slice q4 n0.Gates.length c_n0_3) n0.Gates.length q7 :: ro ρ :: cells (blkOf (Ep5 7)) 206 [.string q3.Name, .bool q3.Flop, .int .i64 q3.Ins, .int .u64 q3.Table, .int .i64 q3.Area, .slice (adOf (partOf 5 (Ep5 43))) q3.Cap.length (capOf (partOf 5 (Ep5 43))), .slice (adOf (partOf 6 (Ep5 43))) q3.Min.length (capOf (partOf 6 (Ep5 43))), .slice (adOf (partOf 7 (Ep5 43))) q3.Max.length (capOf (partOf 7 (Ep5 43))), .int .i64 q3.Drive, .int .i64 q3.Setup, .int .i64 q3.Hold] :: cells (blkOf (Ep5 8)) 206 [.string q2.Name, .bool q2.Flop, .int .i64 q2.Ins, .int .u64 q2.Table, .int .i64 q2.Area, .slice (adOf (partOf 5 (Ep5 48))) q2.Cap.length (capOf (partOf 5 (Ep5 48))), .slice (adOf (partOf 6 (Ep5 48))) q2.Min.length (capOf (partOf 6 (Ep5 48))), .slice (adOf (partOf 7 (Ep5 48))) q2.Max.length (capOf (partOf 7 (Ep5 48))), .int .i64 q2.Drive, .int .i64 q2.Setup, .int .i64 q2.Hold] :: (vec 9 RpS.sz (.slice q9 n0.In.length c_n0_0) n0.In.length q0o :: vec 9 RpS.sz (.slice q0a n0.Out.length c_n0_1) n0.Out.length q0p :: vec 135 R_api_Flop.sz (.slice q0b n0.Flops.length c_n0_2) n0.Flops.length q0q :: vec 3 (RpI .i64).sz (.slice q0c n0.Outs.length c_n0_4) n0.Outs.length q0r :: l)) := Eq.mp (by kernel_rfl) hS
   replace hF := lv_s hF; obtain ⟨x57, hx57, hF⟩ := hF
   replace hF := lv_s hF; obtain ⟨x64, hx64, hF⟩ := hF
   replace hF := lv_s hF; obtain ⟨x71, hx71, hF⟩ := hF
   refine x_seq <| x_seq <| x_region <| p (yl_field0 fld_206_1 q8) <|
    pa (at_load one_4 rfl ((hS.pull 5).cell rfl)) <| p (yl_move rfl) <| pg (v := .pointer (some ⟨(blkOf (Ep5 7)), 3, none⟩)) 51 (c := !q2.Flop) (says_f _) (fun hq => Yl.at (yl_field0 fld_206_3 q0e)) <| pg (v := .int .u64 q3.Table) 51 (c := !q2.Flop) (says_f _) (fun hq => at_load one_35 (cv hq) ((hS.pull 4).cell rfl)) <|
    pg (v := .pointer (some ⟨(blkOf (Ep5 8)), 3, none⟩)) 51 (c := !q2.Flop) (says_f _) (fun hq => Yl.at (yl_field0 fld_206_3 q8)) <| pg (v := .int .u64 q2.Table) 51 (c := !q2.Flop) (says_f _) (fun hq => at_load one_35 (cv hq) ((hS.pull 5).cell rfl)) <| pg (v := .bool (decide (q3.Table ≠ q2.Table))) 51 (c := !q2.Flop) (says_f _) (fun hq => Yl.at (yl_neq (cv hq) (cv hq))) <| p (yor' rfl rfl (fun hc => (cv (t_not hc))) hx57) <|
    p (yl_move rfl) <| pg (v := .pointer (some ⟨(blkOf (Ep5 7)), 2, none⟩)) 58 (c := !x57) (says_f _) (fun hq => Yl.at (yl_field0 fld_206_2 q0e)) <| pg (v := .int .i64 q3.Ins) 58 (c := !x57) (says_f _) (fun hq => at_load one_3 (cv hq) ((hS.pull 4).cell rfl)) <| pg (v := .pointer (some ⟨(blkOf (Ep5 8)), 2, none⟩)) 58 (c := !x57) (says_f _) (fun hq => Yl.at (yl_field0 fld_206_2 q8)) <|
    pg (v := .int .i64 q2.Ins) 58 (c := !x57) (says_f _) (fun hq => at_load one_3 (cv hq) ((hS.pull 5).cell rfl)) <| pg (v := .bool (decide (q3.Ins ≠ q2.Ins))) 58 (c := !x57) (says_f _) (fun hq => Yl.at (yl_neq (cv hq) (cv hq))) <| p (yor' rfl rfl (fun hc => (cv (t_not hc))) hx64) <| p (yl_move rfl) <|
    pg (v := .pointer (some ⟨(blkOf (Ep5 7)), 4, none⟩)) 65 (c := !x64) (says_f _) (fun hq => Yl.at (yl_field0 fld_206_4 q0e)) <| pg (v := .int .i64 q3.Area) 65 (c := !x64) (says_f _) (fun hq => at_load one_3 (cv hq) ((hS.pull 4).cell rfl)) <| pg (v := .pointer (some ⟨(blkOf (Ep5 8)), 4, none⟩)) 65 (c := !x64) (says_f _) (fun hq => Yl.at (yl_field0 fld_206_4 q8)) <| pg (v := .int .i64 q2.Area) 65 (c := !x64) (says_f _) (fun hq => at_load one_3 (cv hq) ((hS.pull 5).cell rfl)) <|
    pg (v := .bool (decide (q3.Area ≠ q2.Area))) 65 (c := !x64) (says_f _) (fun hq => Yl.at (yl_neq (cv hq) (cv hq))) <| p (yor' rfl rfl (fun hc => (cv (t_not hc))) hx71) <| x_done <|
    x_cond (t := x71) rfl (fun hc71 => ?_) (fun hc71 => ?_)
   ·replace hF := it_t hc71 hF
    refine x_seq <| x_region <| p (yl_assign rfl) <| x_done <| ?_
    have e_ := Option.some.inj (show some _ = some _ from hF); subst e_
    exact x_return ⟨_, ⟨_, _, rfl, rfl, rfl⟩, q7, rfl, q0d, ((((((((((hS.pull 1).drop.pull 3).drop.pull 3).drop.pull 2).pull 6).pull 3).pull 6).pull 6).pull 6).pull 6)⟩
   ·replace hF := it_bf hc71 hF
    replace hF := ck_s hF; obtain ⟨q1n, hF⟩ := hF
    refine x_skip <| x_seq <| x_head 10 mixed (by kernel_rfl) hS _ _ rfl rfl <| q (yl_move (hE5 0 rfl)) <|
     q (yl_nilCheck rfl) <| q (yl_field0 fld_30_3 rfl) <| qa (fun w' hS => at_load one_28 rfl (hS.cell rfl)) <| q (yl_field0 fld_43_2 (hE5 5 rfl)) <|
     qa (fun w' hS => at_load one_3 rfl ((hS.pull 1).cell rfl)) <| q (yl_field0 fld_43_4 (hE5 5 rfl)) <| qa (fun w' hS => at_load one_3 rfl ((hS.pull 1).cell rfl)) <| q (yix_o sl_28 rfl rfl (hS.pull 2) q0d q1n) <|
     q (yl_fieldAddr fld_38_0 rfl) <|
     q_done fun w' hS => ?_
    replace hF := lv_s hF; obtain ⟨q2x, q2g, hF⟩ := hF
    refine o_put' (news := [.int .i64 x2.Net]) sz_3 rfl rfl rfl rfl (o := 0) rfl q1n rfl (hS.pull 2) q0d (Le.refl _) (fun c hc => by obtain ⟨_, _, _, rfl, q0⟩ := hc; exact ⟨_, _, _, rfl, (q0.le (Le.refl _))⟩) q2g (fun q2h w' q2i hS => ?_)
    refine x_done <| x_seq <| x_region <| p (yl_assign rfl) <|
     x_done <| ?_
    have e_ := Option.some.inj (show some _ = some _ from hF); subst e_
    exact x_return ⟨_, ⟨_, _, rfl, rfl, rfl⟩, q2h, rfl, q2i, ((((((((((hS.pull 2).drop.pull 3).drop.pull 3).drop.pull 2).pull 6).pull 2).pull 6).pull 6).pull 6).pull 6)⟩
attribute [irreducible] P_eco_swap

def P_delay_Inputs (f0 : T_api_Flop) : Option Int :=
 if f0.En = 1 then
  some (1 : Int)
 else
  some (2 : Int)
set_option maxHeartbeats 4000000 in
set_option maxRecDepth 100000 in
theorem c_delay_Inputs {w0 w : World} {l : List Assn} {ρ : Heap} {f0 : T_api_Flop} {r : Int} (hF : P_delay_Inputs f0 = some r) (hS : St w0 w (ro ρ :: l)) :
  Calls Tryd.prog 113 #[.agg #[.string f0.Name, .int .i64 f0.Cell, .int .i64 f0.D, .int .i64 f0.En, .bool f0.Init]] w fun e w' => e = .returned (.int .i64 r) ∧ St w0 w' (ro ρ :: l) := by
 refine enterC Tryd.func113 rfl 6 rfl (by simp) ?_
 refine x_seq <| x_region <| ?_
 refine o_box (cs := [.string f0.Name, .int .i64 f0.Cell, .int .i64 f0.D, .int .i64 f0.En, .bool f0.Init]) rfl rfl hS (fun b1 w' hS => ?_)
 refine p (yl_assign rfl) <| x_done <| x_seq <| x_seq <|
  x_region <| p (yl_field0 fld_135_3 rfl) <| pa (at_load one_3 rfl (hS.cell rfl)) <| p (yl_eql rfl rfl) <|
  x_done <|
  x_cond_p (f0.En = 1) rfl (fun hc5 => ?_) (fun hc5 => ?_)
 ·replace hF := it_t hc5 hF
  refine x_seq <| x_region <| p (yl_assign rfl) <| x_done <| ?_
  have e_ := Option.some.inj (show some _ = some _ from hF); subst e_
  exact x_return ⟨_, ⟨_, _, rfl, rfl, rfl⟩, rfl, hS.drop⟩
 ·replace hF := it_f hc5 hF
  refine x_skip <| x_seq <| x_region <| p (yl_assign rfl) <|
   x_done <| ?_
  have e_ := Option.some.inj (show some _ = some _ from hF); subst e_
  exact x_return ⟨_, ⟨_, _, rfl, rfl, rfl⟩, rfl, hS.drop⟩
attribute [irreducible] P_delay_Inputs

def P_eco_apply (n0 : T_api_Netlist) (l_1 : List T_api_Cell) (x2 : T_eco_Edit) : Option (Int × List T_api_Flop × List T_api_Gate × List Int) :=
 lv ((decide (x2.Kind < 0)) || (decide (4 < x2.Kind))) fun x14 =>
 if x14 = true then
  some ((8 : Int), n0.Flops, n0.Gates, n0.Outs)
 else
  bd (P_eco_valid x2) fun q0i =>
  if (!q0i) = true then
   some ((4 : Int), n0.Flops, n0.Gates, n0.Outs)
  else
   if x2.Kind = 0 then
    bd (P_eco_add n0 l_1 (T_api_Gate.mk x2.Gate.Cell x2.Gate.Table x2.Gate.Ins)) fun q8 =>
    some (q8.1, n0.Flops, q8.2, n0.Outs)
   else
    if x2.Kind = 4 then
     bd (P_eco_swap n0 l_1 x2) fun q9 =>
     some (q9.1, n0.Flops, q9.2, n0.Outs)
    else
     bd (gd (!(decide (x2.Net < 0))) (P_netlist_Nets n0)) fun q0f =>
     lv ((decide (x2.Net < 0)) || (decide (q0f ≤ x2.Net))) fun x44 =>
     if x44 = true then
      some ((2 : Int), n0.Flops, n0.Gates, n0.Outs)
     else
      bs (
       if x2.Kind = 1 then
        lv ((decide (x2.I < 0)) || (decide ((n0.Gates.length : Int) ≤ x2.I))) fun x61 =>
        lv (x61 || (decide (x2.K < 0))) fun x66 =>
        ck ((!x66) = true → inb x2.I n0.Gates.length) <|
        lv (gt n0.Gates x2.I) fun q0a =>
        lv (x66 || (decide ((q0a.Ins.length : Int) ≤ x2.K))) fun x81 =>
        if x81 = true then
         some (Sum.inr ((7 : Int), n0.Flops, n0.Gates, n0.Outs))
        else
         bd (P_netlist_First n0) fun q0g =>
         ar (q0g + x2.I) fun x90 =>
         if x90 ≤ x2.Net then
          some (Sum.inr ((5 : Int), n0.Flops, n0.Gates, n0.Outs))
         else
          none
       else
        bs (
         if x2.Kind = 2 then
          lv ((decide (x2.I < 0)) || (decide ((n0.Flops.length : Int) ≤ x2.I))) fun x138 =>
          lv (x138 || (decide (x2.K < 0))) fun x143 =>
          ck ((!x143) = true → inb x2.I n0.Flops.length) <|
          lv (gt n0.Flops x2.I) fun q0b =>
          bd (gd (!x143) (P_delay_Inputs q0b)) fun q0c =>
          lv (x143 || (decide (q0c ≤ x2.K))) fun x157 =>
          if x157 = true then
           some (Sum.inr ((7 : Int), n0.Flops, n0.Gates, n0.Outs))
          else
           bd (
            if x2.K = 1 then
             ck (inb x2.I n0.Flops.length) <|
             lv (stt n0.Flops x2.I { (gt n0.Flops x2.I) with En := x2.Net }) fun q0d =>
             some q0d
            else
             ck (inb x2.I n0.Flops.length) <|
             lv (stt n0.Flops x2.I { (gt n0.Flops x2.I) with D := x2.Net }) fun q0e =>
             some q0e) fun q2 =>
           some (Sum.inl (q2, n0.Outs))
         else
          bs (
           if x2.Kind = 3 then
            lv ((decide (x2.I < 0)) || (decide ((n0.Outs.length : Int) ≤ x2.I))) fun x195 =>
            if x195 = true then
             some (Sum.inr ((7 : Int), n0.Flops, n0.Gates, n0.Outs))
            else
             ck (inb x2.I n0.Outs.length) <|
             lv (stt n0.Outs x2.I x2.Net) fun q0h =>
             some (Sum.inl q0h)
           else
            some (Sum.inl n0.Outs)) (fun y => some (Sum.inr y)) fun q3 =>
          some (Sum.inl (n0.Flops, q3))) (fun y => some (Sum.inr y)) fun (q4, q5) =>
        some (Sum.inl (q4, q5))) (fun y => some y) fun (q6, q7) =>
      some ((0 : Int), q6, n0.Gates, q7)
set_option maxHeartbeats 4000000 in
set_option maxRecDepth 100000 in
theorem c_eco_apply {w0 w : World} {l : List Assn} {ρ : Heap} {q8 : Nat} {q0c : Option Addr} {q0s : Nat} {c_n0_0 : Nat} {q0k : List Value} {q0d : Option Addr} {q0t : Nat} {c_n0_1 : Nat} {q0l : List Value} {q5 : Option Addr} {q0u : Nat} {c_n0_2 : Nat} {q9 : List Value} {q2 : Option Addr} {q1f : Nat} {c_n0_3 : Nat} {q6 : List Value} {q0a : Option Addr} {q0v : Nat} {c_n0_4 : Nat} {q7 : List Value} {q1y : Option Addr} {q1z : Nat} {c_l_1 : Nat} {q0w : Option Addr} {q1p : Nat} {c_x2_3 : Nat} {n0 : T_api_Netlist} {l_1 : List T_api_Cell} {x2 : T_eco_Edit} {r : (Int × List T_api_Flop × List T_api_Gate × List Int)} (hF : P_eco_apply n0 l_1 x2 = some r) (q12 : RepL RpS ρ n0.In q0k) (q13 : RepL RpS ρ n0.Out q0l) (q3 : RepL R_api_Flop ρ n0.Flops q9) (q0b : RepL R_api_Gate ρ n0.Gates q6) (q4 : RepL (RpI .i64) ρ n0.Outs q7) (q1o : RdS R_api_Cell ρ q1y q1z c_l_1 l_1) (q1a : RdS (RpI .i64) ρ q0w q1p c_x2_3 x2.Gate.Ins) (hS : St w0 w (cells q8 30 [.slice q0c q0s c_n0_0, .slice q0d q0t c_n0_1, .slice q5 q0u c_n0_2, .slice q2 q1f c_n0_3, .slice q0a q0v c_n0_4] :: vec 9 RpS.sz (.slice q0c q0s c_n0_0) q0s q0k :: vec 9 RpS.sz (.slice q0d q0t c_n0_1) q0t q0l :: vec 135 R_api_Flop.sz (.slice q5 q0u c_n0_2) q0u q9 :: vec 38 R_api_Gate.sz (.slice q2 q1f c_n0_3) q1f q6 :: vec 3 (RpI .i64).sz (.slice q0a q0v c_n0_4) q0v q7 :: ro ρ :: l)) :
  Calls Tryd.prog 51 #[.pointer (some ⟨q8, 0, none⟩), .slice q1y q1z c_l_1, .agg #[.int .i64 x2.Kind, .int .i64 x2.Gate.Cell, .int .u64 x2.Gate.Table, .slice q0w q1p c_x2_3, .int .i64 x2.I, .int .i64 x2.K, .int .i64 x2.Net]] w fun e w' => ∃ (ρ' : Heap) (q0z : List Value) (q14 : Option Addr) (q0q : Nat) (c_b_n0_3_ret : Nat) (q10 : List Value) (q11 : List Value), e = .returned (.int .i64 r.1) ∧ Le ρ ρ' ∧ RepL R_api_Flop ρ' r.2.1 q0z ∧ RepL R_api_Gate ρ' r.2.2.1 q10 ∧ RepL (RpI .i64) ρ' r.2.2.2 q11 ∧ St w0 w' (cells q8 30 [.slice q0c q0s c_n0_0, .slice q0d q0t c_n0_1, .slice q5 q0u c_n0_2, .slice q14 q0q c_b_n0_3_ret, .slice q0a q0v c_n0_4] :: vec 9 RpS.sz (.slice q0c q0s c_n0_0) q0s q0k :: vec 9 RpS.sz (.slice q0d q0t c_n0_1) q0t q0l :: vec 135 R_api_Flop.sz (.slice q5 q0u c_n0_2) q0u q0z :: vec 38 R_api_Gate.sz (.slice q14 q0q c_b_n0_3_ret) q0q q10 :: vec 3 (RpI .i64).sz (.slice q0a q0v c_n0_4) q0v q11 :: ro ρ' :: l) := by
 have e_ := St.vec_n (hS.pull 1) q12; subst e_
 have e_ := St.vec_n (hS.pull 2) q13; subst e_
 have e_ := St.vec_n (hS.pull 3) q3; subst e_
 have e_ := St.vec_n (hS.pull 4) q0b; subst e_
 have e_ := St.vec_n (hS.pull 5) q4; subst e_
 have e_ := q1o.n; subst e_
 have e_ := q1a.n; subst e_
 refine enterC Tryd.func51 rfl 205 rfl (by simp) ?_
 refine x_seq <| x_region <| ?_
 refine o_box (cs := [.int .i64 x2.Kind, .int .i64 x2.Gate.Cell, .int .u64 x2.Gate.Table, .slice q0w x2.Gate.Ins.length c_x2_3, .int .i64 x2.I, .int .i64 x2.K, .int .i64 x2.Net]) rfl rfl hS (fun b5 w' hS => ?_)
 replace hF := lv_s hF; obtain ⟨x14, hx14, hF⟩ := hF
 refine p (yl_assign rfl) <| x_done <| x_seq <| x_seq <|
  x_region <| p (yl_field0 fld_43_0 rfl) <| pa (at_load one_3 rfl (hS.cell rfl)) <| p (yl_lss rfl rfl) <|
  p (yl_move rfl) <| pg (v := .pointer (some ⟨b5, 0, none⟩)) 10 (c := !(decide (x2.Kind < 0))) (says_f _) (fun hq => Yl.at (yl_field0 fld_43_0 rfl)) <| pg (v := .int .i64 x2.Kind) 10 (c := !(decide (x2.Kind < 0))) (says_f _) (fun hq => at_load one_3 (cv hq) (hS.cell rfl)) <| pg (v := .bool (decide (4 < x2.Kind))) 10 (c := !(decide (x2.Kind < 0))) (says_f _) (fun hq => Yl.at (yl_gtr (cv hq) rfl)) <|
  p (yor' rfl rfl (fun hc => (cv (t_not hc))) hx14) <| x_done <|
  x_cond (t := x14) rfl (fun hc14 => ?_) (fun hc14 => ?_)
 ·replace hF := it_t hc14 hF
  refine x_seq <| x_region <| p (yl_assign rfl) <| x_done <| ?_
  have e_ := Option.some.inj (show some _ = some _ from hF); subst e_
  exact x_return ⟨_, ⟨_, _, rfl, rfl, rfl⟩, ρ, q9, q2, n0.Gates.length, c_n0_3, q6, q7, rfl, (Le.refl _), q3, q0b, q4, (((((((hS.drop.pull 6).pull 6).pull 6).pull 6).pull 6).pull 6).pull 6)⟩
 ·replace hF := it_bf hc14 hF
  replace hF := bd_s hF; obtain ⟨q2p, q2k, hF⟩ := hF
  refine x_skip <| x_seq <| x_seq <| x_region <|
   pa (v := .agg #[.int .i64 x2.Kind, .int .i64 x2.Gate.Cell, .int .u64 x2.Gate.Table, .slice q0w x2.Gate.Ins.length c_x2_3, .int .i64 x2.I, .int .i64 x2.K, .int .i64 x2.Net]) (ld_sub agg_43 rfl rfl rfl hS) <| ?_
  have hcall := c_eco_valid q2k q1a (hS.pull 7)
  refine o_cc call_110 (args1 rfl) ((Calls.mono hcall (fun e w'' h => And.intro h.1 (((((((h.2.pull 7).pull 7).pull 7).pull 7).pull 7).pull 7).pull 7)))) ?_
  rintro e w' ⟨rfl, hS⟩
  refine ⟨_, rfl, ?_⟩
  refine p (yl_not rfl) <| x_done <|
   x_cond (t := !q2p) rfl (fun hc17 => ?_) (fun hc17 => ?_)
  ·replace hF := it_t hc17 hF
   refine x_seq <| x_region <| p (yl_assign rfl) <| x_done <| ?_
   have e_ := Option.some.inj (show some _ = some _ from hF); subst e_
   exact x_return ⟨_, ⟨_, _, rfl, rfl, rfl⟩, ρ, q9, q2, n0.Gates.length, c_n0_3, q6, q7, rfl, (Le.refl _), q3, q0b, q4, (((((((hS.drop.pull 6).pull 6).pull 6).pull 6).pull 6).pull 6).pull 6)⟩
  ·replace hF := it_bf hc17 hF
   refine x_skip <| x_seq <| x_seq <| x_region <|
    p (yl_field0 fld_43_0 rfl) <| pa (at_load one_3 rfl (hS.cell rfl)) <| x_done <| x_block <|
    x_seq <| x_region <| p (yl_eql rfl rfl) <| p (yl_assign rfl) <|
    x_done <|
    x_cond_p (x2.Kind = 0) rfl (fun hc20 => ?_) (fun hc20 => ?_)
   ·replace hF := it_t hc20 hF
    replace hF := bd_s hF; obtain ⟨q2q, q2l, hF⟩ := hF
    refine x_seq <| x_region <| p (yl_move rfl) <| p (yl_move rfl) <|
     p (yl_field0 fld_43_1 rfl) <| pa (v := .agg #[.int .i64 x2.Gate.Cell, .int .u64 x2.Gate.Table, .slice q0w x2.Gate.Ins.length c_x2_3]) (ld_sub agg_38 rfl rfl rfl hS) <| ?_
    have hcall := c_eco_add q2l q12 q13 q3 q0b q4 q1o q1a (((((((hS.pull 7).pull 7).pull 7).pull 7).pull 7).pull 7).pull 7)
    refine o_cc call_111 (args3 rfl rfl rfl) hcall ?_
    rintro e w' ⟨q2c, q18, q1u, c_b_n0_3_ret_7_4, q16, rfl, q1g, q0r, hS⟩
    refine ⟨_, rfl, ?_⟩
    have e_ := St.vec_n (hS.pull 4) q0r; subst e_
    refine p (yl_assign rfl) <| x_done <| ?_
    have e_ := Option.some.inj (show some _ = some _ from hF); subst e_
    exact x_return ⟨_, ⟨_, _, rfl, rfl, rfl⟩, q2c, q9, q18, q2q.2.length, c_b_n0_3_ret_7_4, q16, q7, rfl, q1g, (q3.le q1g), q0r, (q4.le q1g), ((((((((hS.pull 7).drop.pull 6).pull 6).pull 6).pull 6).pull 6).pull 6).pull 6)⟩
   ·replace hF := it_f hc20 hF
    refine x_seq <| x_region <| p (yl_eql rfl rfl) <| p (yl_assign rfl) <|
     x_done <|
     x_cond_p (x2.Kind = 4) rfl (fun hc27 => ?_) (fun hc27 => ?_)
    ·replace hF := it_t hc27 hF
     replace hF := bd_s hF; obtain ⟨q2u, q2m, hF⟩ := hF
     refine x_seq <| x_region <| p (yl_move rfl) <| p (yl_move rfl) <|
      pa (v := .agg #[.int .i64 x2.Kind, .int .i64 x2.Gate.Cell, .int .u64 x2.Gate.Table, .slice q0w x2.Gate.Ins.length c_x2_3, .int .i64 x2.I, .int .i64 x2.K, .int .i64 x2.Net]) (ld_sub agg_43 rfl rfl rfl hS) <| ?_
     have hcall := c_eco_swap q2m q12 q13 q3 q0b q4 q1o q1a (((((((hS.pull 7).pull 7).pull 7).pull 7).pull 7).pull 7).pull 7)
     refine o_cc call_112 (args3 rfl rfl rfl) hcall ?_
     rintro e w' ⟨q17, rfl, q19, hS⟩
     refine ⟨_, rfl, ?_⟩
     refine p (yl_assign rfl) <| x_done <| ?_
     have e_ := Option.some.inj (show some _ = some _ from hF); subst e_
     exact x_return ⟨_, ⟨_, _, rfl, rfl, rfl⟩, ρ, q9, q2, n0.Gates.length, c_n0_3, q17, q7, rfl, (Le.refl _), q3, q19, q4, ((((((((hS.pull 7).drop.pull 6).pull 6).pull 6).pull 6).pull 6).pull 6).pull 6)⟩
    ·replace hF := it_f hc27 hF
     replace hF := bd_s hF; obtain ⟨q20, q2d, hF⟩ := hF
     replace hF := lv_s hF; obtain ⟨x44, hx44, hF⟩ := hF
     refine x_skip <| x_blk <| x_seq <| x_seq <|
      x_still mixed (by kernel_rfl) hS <| q (yl_field0 fld_43_4 rfl) <| qa (fun w' hS => at_load one_3 rfl (hS.cell rfl)) <| q (yl_lss rfl rfl) <|
      q (yl_move rfl) <| qg (v := .pointer (some ⟨b5, 6, none⟩)) 36 (c := !(decide (x2.Net < 0))) (says_f _) (fun hq w' hS => Yl.at (yl_field0 fld_43_4 rfl)) <| qg (v := .int .i64 x2.Net) 36 (c := !(decide (x2.Net < 0))) (says_f _) (fun hq w' hS => at_load one_3 (cv hq) (hS.cell rfl)) <| qg (v := .pointer (some ⟨q8, 0, none⟩)) 36 (c := !(decide (x2.Net < 0))) (says_f _) (fun hq w' hS => Yl.at (yl_move rfl)) <|
      qg (v := .pointer (some ⟨q8, 0, none⟩)) 36 (c := !(decide (x2.Net < 0))) (says_f _) (fun hq w' hS => Yl.at (yl_nilCheck (cv hq))) <| qg (v := .agg #[.slice q0c n0.In.length c_n0_0, .slice q0d n0.Out.length c_n0_1, .slice q5 n0.Flops.length c_n0_2, .slice q2 n0.Gates.length c_n0_3, .slice q0a n0.Outs.length c_n0_4]) 36 (c := !(decide (x2.Net < 0))) (says_f _) (fun hq w' hS => ld_sub agg_30 (cv hq) rfl rfl (hS.pull 1)) <| qccg (v := .int .i64 q20) 36 (c := !(decide (x2.Net < 0))) (says_f _) call_12 (fun hq => (args1 (cv hq))) (fun hq w' hS => by
       have q_ := St.lend ((hS.pull 7).pull 3) q12; obtain ⟨ρl0, hll0, hlf0, hS0, back0⟩ := q_
       have q_ := St.lend (hS0.pull 3) (q13.le hll0); obtain ⟨ρl1, hll1, hlf1, hS1, back1⟩ := q_
       have q_ := St.lend (hS1.pull 3) (q3.le (hll0.trans hll1)); obtain ⟨ρl2, hll2, hlf2, hS2, back2⟩ := q_
       have q_ := St.lend (hS2.pull 3) (q0b.le ((hll0.trans hll1).trans hll2)); obtain ⟨ρl3, hll3, hlf3, hS3, back3⟩ := q_
       have q_ := St.lend (hS3.pull 3) (q4.le (((hll0.trans hll1).trans hll2).trans hll3)); obtain ⟨ρl4, hll4, hlf4, hS4, back4⟩ := q_
       have hcall := c_netlist_Nets (gd_t q2d hq) (hlf0.le (((hll1.trans hll2).trans hll3).trans hll4)) (hlf1.le ((hll2.trans hll3).trans hll4)) (hlf2.le (hll3.trans hll4)) (hlf3.le hll4) hlf4 hS4
       exact (Calls.mono hcall (fun e w'' h => And.intro h.1 (((((((((back0 ((back1 ((back2 ((back3 ((back4 h.2).pull 1)).pull 1)).pull 1)).pull 1)).pull 1).pull 5).pull 5).pull 5).pull 5).pull 5).pull 7).pull 7)))) <| qg (v := .bool (decide (q20 ≤ x2.Net))) 36 (c := !(decide (x2.Net < 0))) (says_f _) (fun hq w' hS => Yl.at (yl_geq (cv hq) (cv hq))) <|
      q (yor' rfl rfl (fun hc => (cv (t_not hc))) hx44) <|
      q_done fun w' hS => ?_
     refine x_cond (t := x44) rfl (fun hc44 => ?_) (fun hc44 => ?_)
     ·replace hF := it_t hc44 hF
      refine x_seq <| x_region <| p (yl_assign rfl) <| x_done <| ?_
      have e_ := Option.some.inj (show some _ = some _ from hF); subst e_
      exact x_return ⟨_, ⟨_, _, rfl, rfl, rfl⟩, ρ, q9, q2, n0.Gates.length, c_n0_3, q6, q7, rfl, (Le.refl _), q3, q0b, q4, (((((((hS.drop.pull 6).pull 6).pull 6).pull 6).pull 6).pull 6).pull 6)⟩
     ·replace hF := it_bf hc44 hF
      refine x_skip <| x_seq <| x_seq <| x_region <|
       p (yl_field0 fld_43_0 rfl) <| pa (at_load one_3 rfl (hS.cell rfl)) <| x_done <| x_block <|
       x_seq <| x_region <| p (yl_eql rfl rfl) <| p (yl_assign rfl) <|
       x_done <| ?_
      replace hF := bs_s hF; obtain ⟨oc47, hFc47, hF⟩ := hF
      refine x_join (fun E w => ∃ (q0i : List Value) (q0j : List Value) (q0x : List T_api_Flop) (q0y : List Int), (Sum.inl (q0x, q0y)) = oc47 ∧ RepL R_api_Flop ρ q0x q0i ∧ RepL (RpI .i64) ρ q0y q0j ∧ St w0 w (cells q8 30 [.slice q0c n0.In.length c_n0_0, .slice q0d n0.Out.length c_n0_1, .slice q5 n0.Flops.length c_n0_2, .slice q2 n0.Gates.length c_n0_3, .slice q0a n0.Outs.length c_n0_4] :: vec 9 RpS.sz (.slice q0c n0.In.length c_n0_0) n0.In.length q0k :: vec 9 RpS.sz (.slice q0d n0.Out.length c_n0_1) n0.Out.length q0l :: vec 135 R_api_Flop.sz (.slice q5 n0.Flops.length c_n0_2) n0.Flops.length q0i :: vec 38 R_api_Gate.sz (.slice q2 n0.Gates.length c_n0_3) n0.Gates.length q6 :: vec 3 (RpI .i64).sz (.slice q0a n0.Outs.length c_n0_4) n0.Outs.length q0j :: ro ρ :: l)) ?_ ?_
      ·refine x_cond_p (x2.Kind = 1) rfl (fun hc47 => ?_) (fun hc47 => ?_)
       ·replace hFc47 := it_t hc47 hFc47
        replace hFc47 := lv_s hFc47; obtain ⟨x61, hx61, hFc47⟩ := hFc47
        replace hFc47 := lv_s hFc47; obtain ⟨x66, hx66, hFc47⟩ := hFc47
        replace hFc47 := ck_s hFc47; obtain ⟨q1k, hFc47⟩ := hFc47
        replace hFc47 := lv_s hFc47; obtain ⟨q1h, q21, hFc47⟩ := hFc47
        have q_ := RepL.getD R_api_Gate_d q0b x2.I; obtain ⟨q2s, q1l, q22⟩ := q_
        rw [← q21] at q1l
        obtain ⟨q1v, q2r, q1w, rfl, q1x⟩ := q1l
        have e_ := q1x.n; subst e_
        replace hFc47 := lv_s hFc47; obtain ⟨x81, hx81, hFc47⟩ := hFc47
        refine x_seq <| x_seq <| x_still mixed (by kernel_rfl) hS <| q (yl_field0 fld_43_2 rfl) <|
         qa (fun w' hS => at_load one_3 rfl (hS.cell rfl)) <| q (yl_lss rfl rfl) <| q (yl_move rfl) <| qg (v := .pointer (some ⟨b5, 4, none⟩)) 52 (c := !(decide (x2.I < 0))) (says_f _) (fun hq w' hS => Yl.at (yl_field0 fld_43_2 rfl)) <|
         qg (v := .int .i64 x2.I) 52 (c := !(decide (x2.I < 0))) (says_f _) (fun hq w' hS => at_load one_3 (cv hq) (hS.cell rfl)) <| qg (v := .pointer (some ⟨q8, 0, none⟩)) 52 (c := !(decide (x2.I < 0))) (says_f _) (fun hq w' hS => Yl.at (yl_move rfl)) <| qg (v := .pointer (some ⟨q8, 0, none⟩)) 52 (c := !(decide (x2.I < 0))) (says_f _) (fun hq w' hS => Yl.at (yl_nilCheck (cv hq))) <| qg (v := .pointer (some ⟨q8, 3, none⟩)) 52 (c := !(decide (x2.I < 0))) (says_f _) (fun hq w' hS => Yl.at (yl_field0 fld_30_3 (cv hq))) <|
         qg (v := .slice q2 n0.Gates.length c_n0_3) 52 (c := !(decide (x2.I < 0))) (says_f _) (fun hq w' hS => at_load one_28 (cv hq) ((hS.pull 1).cell rfl)) <| qg (v := .int .i64 (n0.Gates.length : Int)) 52 (c := !(decide (x2.I < 0))) (says_f _) (fun hq w' hS => Yl.at (yl_len_slice usl_28 (cv hq))) <| qg (v := .bool (decide ((n0.Gates.length : Int) ≤ x2.I))) 52 (c := !(decide (x2.I < 0))) (says_f _) (fun hq w' hS => Yl.at (yl_geq (cv hq) (cv hq))) <| q (yor' rfl rfl (fun hc => (cv (t_not hc))) hx61) <|
         q (yl_move rfl) <| qg (v := .pointer (some ⟨b5, 5, none⟩)) 62 (c := !x61) (says_f _) (fun hq w' hS => Yl.at (yl_field0 fld_43_3 rfl)) <| qg (v := .int .i64 x2.K) 62 (c := !x61) (says_f _) (fun hq w' hS => at_load one_3 (cv hq) (hS.cell rfl)) <| qg (v := .bool (decide (x2.K < 0))) 62 (c := !x61) (says_f _) (fun hq w' hS => Yl.at (yl_lss (cv hq) rfl)) <|
         q (yor' rfl rfl (fun hc => (cv (t_not hc))) hx66) <| q (yl_move rfl) <| qg (v := .pointer (some ⟨b5, 5, none⟩)) 67 (c := !x66) (says_f _) (fun hq w' hS => Yl.at (yl_field0 fld_43_3 rfl)) <| qg (v := .int .i64 x2.K) 67 (c := !x66) (says_f _) (fun hq w' hS => at_load one_3 (cv hq) (hS.cell rfl)) <|
         qg (v := .pointer (some ⟨q8, 0, none⟩)) 67 (c := !x66) (says_f _) (fun hq w' hS => Yl.at (yl_move rfl)) <| qg (v := .pointer (some ⟨q8, 0, none⟩)) 67 (c := !x66) (says_f _) (fun hq w' hS => Yl.at (yl_nilCheck (cv hq))) <| qg (v := .pointer (some ⟨q8, 3, none⟩)) 67 (c := !x66) (says_f _) (fun hq w' hS => Yl.at (yl_field0 fld_30_3 (cv hq))) <| qg (v := .slice q2 n0.Gates.length c_n0_3) 67 (c := !x66) (says_f _) (fun hq w' hS => at_load one_28 (cv hq) ((hS.pull 1).cell rfl)) <|
         qg (v := .pointer (some ⟨b5, 4, none⟩)) 67 (c := !x66) (says_f _) (fun hq w' hS => Yl.at (yl_field0 fld_43_2 rfl)) <| qg (v := .int .i64 x2.I) 67 (c := !x66) (says_f _) (fun hq w' hS => at_load one_3 (cv hq) (hS.cell rfl)) <| qg (v := .pointer (some ((adr q2).add (x2.I.toNat * R_api_Gate.sz)))) 67 (c := !x66) (says_f _) (fun hq w' hS => Yl.at (yix_o sl_28 (cv hq) (cv hq) (hS.pull 5) q0b (q1k hq))) <| qg (v := .pointer (some (((adr q2).add (x2.I.toNat * R_api_Gate.sz)).add 2))) 67 (c := !x66) (says_f _) (fun hq w' hS => Yl.at (yl_fieldAddr fld_38_2 (cv hq))) <|
         qg (v := .slice q1v q1h.Ins.length q1w) 67 (c := !x66) (says_f _) (fun hq w' hS => at_load one_22 (cv hq) (EltV.ld (m := 2) (q22 (q1k hq)) (hS.pull 5) rfl)) <| qg (v := .int .i64 (q1h.Ins.length : Int)) 67 (c := !x66) (says_f _) (fun hq w' hS => Yl.at (yl_len_slice usl_22 (cv hq))) <| qg (v := .bool (decide ((q1h.Ins.length : Int) ≤ x2.K))) 67 (c := !x66) (says_f _) (fun hq w' hS => Yl.at (yl_geq (cv hq) (cv hq))) <| q (yor' rfl rfl (fun hc => (cv (t_not hc))) hx81) <|
         q_done fun w' hS => ?_
        refine x_cond (t := x81) rfl (fun hc81 => ?_) (fun hc81 => ?_)
        ·replace hFc47 := it_t hc81 hFc47
         refine x_seq <| x_region <| p (yl_assign rfl) <| x_done <| ?_
         have e_ := Option.some.inj (show some _ = some _ from hFc47); subst e_
         have e_ := Option.some.inj (show some _ = some _ from hF); subst e_
         exact x_return ⟨_, ⟨_, _, rfl, rfl, rfl⟩, ρ, q9, q2, n0.Gates.length, c_n0_3, q6, q7, rfl, (Le.refl _), q3, q0b, q4, (((((((hS.drop.pull 6).pull 6).pull 6).pull 6).pull 6).pull 6).pull 6)⟩
        ·replace hFc47 := it_bf hc81 hFc47
         replace hFc47 := bd_s hFc47; obtain ⟨q2n, q2e, hFc47⟩ := hFc47
         replace hFc47 := ar_s hFc47; obtain ⟨x90, hx90, hFc47⟩ := hFc47
         refine x_skip <| x_seq <| x_seq <| x_still mixed (by kernel_rfl) hS <|
          q (yl_field0 fld_43_4 rfl) <| qa (fun w' hS => at_load one_3 rfl (hS.cell rfl)) <| q (yl_move rfl) <| q (yl_nilCheck rfl) <|
          qa (v := .agg #[.slice q0c n0.In.length c_n0_0, .slice q0d n0.Out.length c_n0_1, .slice q5 n0.Flops.length c_n0_2, .slice q2 n0.Gates.length c_n0_3, .slice q0a n0.Outs.length c_n0_4]) (fun w' hS => ld_sub agg_30 rfl rfl rfl (hS.pull 1)) <| qcc (v := .int .i64 q2n) call_22 (args1 rfl) (fun w' hS => by
           have q_ := St.lend ((hS.pull 7).pull 3) q12; obtain ⟨ρl0, hll0, hlf0, hS0, back0⟩ := q_
           have q_ := St.lend (hS0.pull 3) (q13.le hll0); obtain ⟨ρl1, hll1, hlf1, hS1, back1⟩ := q_
           have q_ := St.lend (hS1.pull 3) (q3.le (hll0.trans hll1)); obtain ⟨ρl2, hll2, hlf2, hS2, back2⟩ := q_
           have q_ := St.lend (hS2.pull 3) (q0b.le ((hll0.trans hll1).trans hll2)); obtain ⟨ρl3, hll3, hlf3, hS3, back3⟩ := q_
           have q_ := St.lend (hS3.pull 3) (q4.le (((hll0.trans hll1).trans hll2).trans hll3)); obtain ⟨ρl4, hll4, hlf4, hS4, back4⟩ := q_
           have hcall := c_netlist_First q2e (hlf0.le (((hll1.trans hll2).trans hll3).trans hll4)) (hlf1.le ((hll2.trans hll3).trans hll4)) (hlf2.le (hll3.trans hll4)) (hlf3.le hll4) hlf4 hS4
           exact (Calls.mono hcall (fun e w'' h => And.intro h.1 (((((((((back0 ((back1 ((back2 ((back3 ((back4 h.2).pull 1)).pull 1)).pull 1)).pull 1)).pull 1).pull 5).pull 5).pull 5).pull 5).pull 5).pull 7).pull 7)))) <| q (yl_field0 fld_43_2 rfl) <| qa (fun w' hS => at_load one_3 rfl (hS.cell rfl)) <|
          q (yadd rfl rfl hx90) <| q (yl_geq rfl rfl) <|
          q_done fun w' hS => ?_
         refine x_cond_p (x90 ≤ x2.Net) rfl (fun hc91 => ?_) (fun hc91 => ?_)
         ·replace hFc47 := it_t hc91 hFc47
          refine x_seq <| x_region <| p (yl_assign rfl) <| x_done <| ?_
          have e_ := Option.some.inj (show some _ = some _ from hFc47); subst e_
          have e_ := Option.some.inj (show some _ = some _ from hF); subst e_
          exact x_return ⟨_, ⟨_, _, rfl, rfl, rfl⟩, ρ, q9, q2, n0.Gates.length, c_n0_3, q6, q7, rfl, (Le.refl _), q3, q0b, q4, (((((((hS.drop.pull 6).pull 6).pull 6).pull 6).pull 6).pull 6).pull 6)⟩
         ·replace hFc47 := it_f hc91 hFc47
          cases hFc47
       ·replace hFc47 := it_f hc47 hFc47
        refine x_seq <| x_region <| p (yl_eql rfl rfl) <| p (yl_assign rfl) <|
         x_done <| ?_
        replace hFc47 := bs_s hFc47; obtain ⟨oc124, hFc124, hFc47⟩ := hFc47
        refine x_join (fun E w => ∃ (q0e : List Value) (q0f : List Value) (q0m : List T_api_Flop) (q0n : List Int), (Sum.inl (q0m, q0n)) = oc124 ∧ RepL R_api_Flop ρ q0m q0e ∧ RepL (RpI .i64) ρ q0n q0f ∧ St w0 w (cells q8 30 [.slice q0c n0.In.length c_n0_0, .slice q0d n0.Out.length c_n0_1, .slice q5 n0.Flops.length c_n0_2, .slice q2 n0.Gates.length c_n0_3, .slice q0a n0.Outs.length c_n0_4] :: vec 9 RpS.sz (.slice q0c n0.In.length c_n0_0) n0.In.length q0k :: vec 9 RpS.sz (.slice q0d n0.Out.length c_n0_1) n0.Out.length q0l :: vec 135 R_api_Flop.sz (.slice q5 n0.Flops.length c_n0_2) n0.Flops.length q0e :: vec 38 R_api_Gate.sz (.slice q2 n0.Gates.length c_n0_3) n0.Gates.length q6 :: vec 3 (RpI .i64).sz (.slice q0a n0.Outs.length c_n0_4) n0.Outs.length q0f :: ro ρ :: l)) ?_ ?_
        ·refine x_cond_p (x2.Kind = 2) rfl (fun hc124 => ?_) (fun hc124 => ?_)
         ·replace hFc124 := it_t hc124 hFc124
          replace hFc124 := lv_s hFc124; obtain ⟨x138, hx138, hFc124⟩ := hFc124
          replace hFc124 := lv_s hFc124; obtain ⟨x143, hx143, hFc124⟩ := hFc124
          replace hFc124 := ck_s hFc124; obtain ⟨q1m, hFc124⟩ := hFc124
          replace hFc124 := lv_s hFc124; obtain ⟨q15, q23, hFc124⟩ := hFc124
          have q_ := RepL.getD R_api_Flop_d q3 x2.I; obtain ⟨q2t, q1n, q24⟩ := q_
          rw [← q23] at q1n
          have e_ := q1n; subst e_
          replace hFc124 := bd_s hFc124; obtain ⟨q1q, q25, hFc124⟩ := hFc124
          replace hFc124 := lv_s hFc124; obtain ⟨x157, hx157, hFc124⟩ := hFc124
          refine x_seq <| x_seq <| x_still mixed (by kernel_rfl) hS <| q (yl_field0 fld_43_2 rfl) <|
           qa (fun w' hS => at_load one_3 rfl (hS.cell rfl)) <| q (yl_lss rfl rfl) <| q (yl_move rfl) <| qg (v := .pointer (some ⟨b5, 4, none⟩)) 129 (c := !(decide (x2.I < 0))) (says_f _) (fun hq w' hS => Yl.at (yl_field0 fld_43_2 rfl)) <|
           qg (v := .int .i64 x2.I) 129 (c := !(decide (x2.I < 0))) (says_f _) (fun hq w' hS => at_load one_3 (cv hq) (hS.cell rfl)) <| qg (v := .pointer (some ⟨q8, 0, none⟩)) 129 (c := !(decide (x2.I < 0))) (says_f _) (fun hq w' hS => Yl.at (yl_move rfl)) <| qg (v := .pointer (some ⟨q8, 0, none⟩)) 129 (c := !(decide (x2.I < 0))) (says_f _) (fun hq w' hS => Yl.at (yl_nilCheck (cv hq))) <| qg (v := .pointer (some ⟨q8, 2, none⟩)) 129 (c := !(decide (x2.I < 0))) (says_f _) (fun hq w' hS => Yl.at (yl_field0 fld_30_2 (cv hq))) <|
           qg (v := .slice q5 n0.Flops.length c_n0_2) 129 (c := !(decide (x2.I < 0))) (says_f _) (fun hq w' hS => at_load one_27 (cv hq) ((hS.pull 1).cell rfl)) <| qg (v := .int .i64 (n0.Flops.length : Int)) 129 (c := !(decide (x2.I < 0))) (says_f _) (fun hq w' hS => Yl.at (yl_len_slice usl_27 (cv hq))) <| qg (v := .bool (decide ((n0.Flops.length : Int) ≤ x2.I))) 129 (c := !(decide (x2.I < 0))) (says_f _) (fun hq w' hS => Yl.at (yl_geq (cv hq) (cv hq))) <| q (yor' rfl rfl (fun hc => (cv (t_not hc))) hx138) <|
           q (yl_move rfl) <| qg (v := .pointer (some ⟨b5, 5, none⟩)) 139 (c := !x138) (says_f _) (fun hq w' hS => Yl.at (yl_field0 fld_43_3 rfl)) <| qg (v := .int .i64 x2.K) 139 (c := !x138) (says_f _) (fun hq w' hS => at_load one_3 (cv hq) (hS.cell rfl)) <| qg (v := .bool (decide (x2.K < 0))) 139 (c := !x138) (says_f _) (fun hq w' hS => Yl.at (yl_lss (cv hq) rfl)) <|
           q (yor' rfl rfl (fun hc => (cv (t_not hc))) hx143) <| q (yl_move rfl) <| qg (v := .pointer (some ⟨b5, 5, none⟩)) 144 (c := !x143) (says_f _) (fun hq w' hS => Yl.at (yl_field0 fld_43_3 rfl)) <| qg (v := .int .i64 x2.K) 144 (c := !x143) (says_f _) (fun hq w' hS => at_load one_3 (cv hq) (hS.cell rfl)) <|
           qg (v := .pointer (some ⟨q8, 0, none⟩)) 144 (c := !x143) (says_f _) (fun hq w' hS => Yl.at (yl_move rfl)) <| qg (v := .pointer (some ⟨q8, 0, none⟩)) 144 (c := !x143) (says_f _) (fun hq w' hS => Yl.at (yl_nilCheck (cv hq))) <| qg (v := .pointer (some ⟨q8, 2, none⟩)) 144 (c := !x143) (says_f _) (fun hq w' hS => Yl.at (yl_field0 fld_30_2 (cv hq))) <| qg (v := .slice q5 n0.Flops.length c_n0_2) 144 (c := !x143) (says_f _) (fun hq w' hS => at_load one_27 (cv hq) ((hS.pull 1).cell rfl)) <|
           qg (v := .pointer (some ⟨b5, 4, none⟩)) 144 (c := !x143) (says_f _) (fun hq w' hS => Yl.at (yl_field0 fld_43_2 rfl)) <| qg (v := .int .i64 x2.I) 144 (c := !x143) (says_f _) (fun hq w' hS => at_load one_3 (cv hq) (hS.cell rfl)) <| qg (v := .pointer (some ((adr q5).add (x2.I.toNat * R_api_Flop.sz)))) 144 (c := !x143) (says_f _) (fun hq w' hS => Yl.at (yix_o sl_27 (cv hq) (cv hq) (hS.pull 4) q3 (q1m hq))) <| qg (v := .agg #[.string q15.Name, .int .i64 q15.Cell, .int .i64 q15.D, .int .i64 q15.En, .bool q15.Init]) 144 (c := !x143) (says_f _) (fun hq w' hS => at_loadAgg agg_135 (cv hq) rfl (EltV.every (q24 (q1m hq)) (hS.pull 4))) <|
           qccg (v := .int .i64 q1q) 144 (c := !x143) (says_f _) call_113 (fun hq => (args1 (cv hq))) (fun hq w' hS => by
            have hcall := c_delay_Inputs (gd_t q25 hq)  (hS.pull 7)
            exact (Calls.mono hcall (fun e w'' h => And.intro h.1 (((((((h.2.pull 7).pull 7).pull 7).pull 7).pull 7).pull 7).pull 7)))) <| qg (v := .bool (decide (q1q ≤ x2.K))) 144 (c := !x143) (says_f _) (fun hq w' hS => Yl.at (yl_geq (cv hq) (cv hq))) <| q (yor' rfl rfl (fun hc => (cv (t_not hc))) hx157) <|
           q_done fun w' hS => ?_
          refine x_cond (t := x157) rfl (fun hc157 => ?_) (fun hc157 => ?_)
          ·replace hFc124 := it_t hc157 hFc124
           refine x_seq <| x_region <| p (yl_assign rfl) <| x_done <| ?_
           have e_ := Option.some.inj (show some _ = some _ from hFc124); subst e_
           have e_ := Option.some.inj (show some _ = some _ from hFc47); subst e_
           have e_ := Option.some.inj (show some _ = some _ from hF); subst e_
           exact x_return ⟨_, ⟨_, _, rfl, rfl, rfl⟩, ρ, q9, q2, n0.Gates.length, c_n0_3, q6, q7, rfl, (Le.refl _), q3, q0b, q4, (((((((hS.drop.pull 6).pull 6).pull 6).pull 6).pull 6).pull 6).pull 6)⟩
          ·replace hFc124 := it_bf hc157 hFc124
           refine x_skip <| x_seq <| x_region <| p (yl_field0 fld_43_3 rfl) <|
            pa (at_load one_3 rfl (hS.cell rfl)) <| p (yl_eql rfl rfl) <| x_done <| ?_
           replace hFc124 := bd_s hFc124; obtain ⟨oc160, hFc160, hFc124⟩ := hFc124
           refine x_join (fun E w => ∃ (q0g : List Value) (q0o : List T_api_Flop), q0o = oc160 ∧ RepL R_api_Flop ρ q0o q0g ∧ St w0 w (cells q8 30 [.slice q0c n0.In.length c_n0_0, .slice q0d n0.Out.length c_n0_1, .slice q5 n0.Flops.length c_n0_2, .slice q2 n0.Gates.length c_n0_3, .slice q0a n0.Outs.length c_n0_4] :: vec 9 RpS.sz (.slice q0c n0.In.length c_n0_0) n0.In.length q0k :: vec 9 RpS.sz (.slice q0d n0.Out.length c_n0_1) n0.Out.length q0l :: vec 135 R_api_Flop.sz (.slice q5 n0.Flops.length c_n0_2) n0.Flops.length q0g :: vec 38 R_api_Gate.sz (.slice q2 n0.Gates.length c_n0_3) n0.Gates.length q6 :: vec 3 (RpI .i64).sz (.slice q0a n0.Outs.length c_n0_4) n0.Outs.length q7 :: ro ρ :: l)) ?_ ?_
           ·refine x_cond_p (x2.K = 1) rfl (fun hc160 => ?_) (fun hc160 => ?_)
            ·replace hFc160 := it_t hc160 hFc160
             replace hFc160 := ck_s hFc160; obtain ⟨q1r, hFc160⟩ := hFc160
             refine x_head 10 mixed (by kernel_rfl) hS _ _ rfl rfl <| q (yl_move rfl) <| q (yl_nilCheck rfl) <| q (yl_field0 fld_30_2 rfl) <|
              qa (fun w' hS => at_load one_27 rfl ((hS.pull 1).cell rfl)) <| q (yl_field0 fld_43_2 rfl) <| qa (fun w' hS => at_load one_3 rfl (hS.cell rfl)) <| q (yl_field0 fld_43_4 rfl) <|
              qa (fun w' hS => at_load one_3 rfl (hS.cell rfl)) <| q (yix_o sl_27 rfl rfl (hS.pull 4) q3 q1r) <| q (yl_fieldAddr fld_135_3 rfl) <|
              q_done fun w' hS => ?_
             replace hFc160 := lv_s hFc160; obtain ⟨q2f, q26, hFc160⟩ := hFc160
             refine o_put' (news := [.int .i64 x2.Net]) sz_3 rfl rfl rfl rfl (o := 3) rfl q1r rfl (hS.pull 4) q3 (Le.refl _) (fun c hc => by obtain rfl := hc; rfl) q26 (fun q27 w' q28 hS => ?_)
             refine x_done <| ?_
             exact x_inv ⟨q27, q2f, (Option.some.inj (show some _ = some _ from hFc160)), q28, ((((((((hS.pull 1).drop.pull 6).pull 6).pull 6).pull 3).pull 6).pull 6).pull 6)⟩
            ·replace hFc160 := it_f hc160 hFc160
             replace hFc160 := ck_s hFc160; obtain ⟨q1s, hFc160⟩ := hFc160
             refine x_head 10 mixed (by kernel_rfl) hS _ _ rfl rfl <| q (yl_move rfl) <| q (yl_nilCheck rfl) <| q (yl_field0 fld_30_2 rfl) <|
              qa (fun w' hS => at_load one_27 rfl ((hS.pull 1).cell rfl)) <| q (yl_field0 fld_43_2 rfl) <| qa (fun w' hS => at_load one_3 rfl (hS.cell rfl)) <| q (yl_field0 fld_43_4 rfl) <|
              qa (fun w' hS => at_load one_3 rfl (hS.cell rfl)) <| q (yix_o sl_27 rfl rfl (hS.pull 4) q3 q1s) <| q (yl_fieldAddr fld_135_2 rfl) <|
              q_done fun w' hS => ?_
             replace hFc160 := lv_s hFc160; obtain ⟨q2g, q29, hFc160⟩ := hFc160
             refine o_put' (news := [.int .i64 x2.Net]) sz_3 rfl rfl rfl rfl (o := 2) rfl q1s rfl (hS.pull 4) q3 (Le.refl _) (fun c hc => by obtain rfl := hc; rfl) q29 (fun q2a w' q2b hS => ?_)
             refine x_done <| ?_
             exact x_inv ⟨q2a, q2g, (Option.some.inj (show some _ = some _ from hFc160)), q2b, ((((((((hS.pull 1).drop.pull 6).pull 6).pull 6).pull 3).pull 6).pull 6).pull 6)⟩
           rintro E w ⟨q0g, q0o, rfl, q1b, hS⟩
           exact x_inv ⟨q0g, q7, q0o, n0.Outs, (Option.some.inj (show some _ = some _ from hFc124)), q1b, q4, (((((((hS.pull 6).pull 6).pull 6).pull 6).pull 6).pull 6).pull 6)⟩
         ·replace hFc124 := it_f hc124 hFc124
          refine x_seq <| x_region <| p (yl_eql rfl rfl) <| p (yl_assign rfl) <|
           x_done <| ?_
          replace hFc124 := bs_s hFc124; obtain ⟨oc181, hFc181, hFc124⟩ := hFc124
          refine x_join (fun E w => ∃ (q0h : List Value) (q0p : List Int), (Sum.inl q0p) = oc181 ∧ RepL (RpI .i64) ρ q0p q0h ∧ St w0 w (cells q8 30 [.slice q0c n0.In.length c_n0_0, .slice q0d n0.Out.length c_n0_1, .slice q5 n0.Flops.length c_n0_2, .slice q2 n0.Gates.length c_n0_3, .slice q0a n0.Outs.length c_n0_4] :: vec 9 RpS.sz (.slice q0c n0.In.length c_n0_0) n0.In.length q0k :: vec 9 RpS.sz (.slice q0d n0.Out.length c_n0_1) n0.Out.length q0l :: vec 135 R_api_Flop.sz (.slice q5 n0.Flops.length c_n0_2) n0.Flops.length q9 :: vec 38 R_api_Gate.sz (.slice q2 n0.Gates.length c_n0_3) n0.Gates.length q6 :: vec 3 (RpI .i64).sz (.slice q0a n0.Outs.length c_n0_4) n0.Outs.length q0h :: ro ρ :: l)) ?_ ?_
          ·refine x_cond_p (x2.Kind = 3) rfl (fun hc181 => ?_) (fun hc181 => ?_)
           ·replace hFc181 := it_t hc181 hFc181
            replace hFc181 := lv_s hFc181; obtain ⟨x195, hx195, hFc181⟩ := hFc181
            refine x_seq <| x_seq <| x_still mixed (by kernel_rfl) hS <| q (yl_field0 fld_43_2 rfl) <|
             qa (fun w' hS => at_load one_3 rfl (hS.cell rfl)) <| q (yl_lss rfl rfl) <| q (yl_move rfl) <| qg (v := .pointer (some ⟨b5, 4, none⟩)) 186 (c := !(decide (x2.I < 0))) (says_f _) (fun hq w' hS => Yl.at (yl_field0 fld_43_2 rfl)) <|
             qg (v := .int .i64 x2.I) 186 (c := !(decide (x2.I < 0))) (says_f _) (fun hq w' hS => at_load one_3 (cv hq) (hS.cell rfl)) <| qg (v := .pointer (some ⟨q8, 0, none⟩)) 186 (c := !(decide (x2.I < 0))) (says_f _) (fun hq w' hS => Yl.at (yl_move rfl)) <| qg (v := .pointer (some ⟨q8, 0, none⟩)) 186 (c := !(decide (x2.I < 0))) (says_f _) (fun hq w' hS => Yl.at (yl_nilCheck (cv hq))) <| qg (v := .pointer (some ⟨q8, 4, none⟩)) 186 (c := !(decide (x2.I < 0))) (says_f _) (fun hq w' hS => Yl.at (yl_field0 fld_30_4 (cv hq))) <|
             qg (v := .slice q0a n0.Outs.length c_n0_4) 186 (c := !(decide (x2.I < 0))) (says_f _) (fun hq w' hS => at_load one_22 (cv hq) ((hS.pull 1).cell rfl)) <| qg (v := .int .i64 (n0.Outs.length : Int)) 186 (c := !(decide (x2.I < 0))) (says_f _) (fun hq w' hS => Yl.at (yl_len_slice usl_22 (cv hq))) <| qg (v := .bool (decide ((n0.Outs.length : Int) ≤ x2.I))) 186 (c := !(decide (x2.I < 0))) (says_f _) (fun hq w' hS => Yl.at (yl_geq (cv hq) (cv hq))) <| q (yor' rfl rfl (fun hc => (cv (t_not hc))) hx195) <|
             q_done fun w' hS => ?_
            refine x_cond (t := x195) rfl (fun hc195 => ?_) (fun hc195 => ?_)
            ·replace hFc181 := it_t hc195 hFc181
             refine x_seq <| x_region <| p (yl_assign rfl) <| x_done <| ?_
             have e_ := Option.some.inj (show some _ = some _ from hFc181); subst e_
             have e_ := Option.some.inj (show some _ = some _ from hFc124); subst e_
             have e_ := Option.some.inj (show some _ = some _ from hFc47); subst e_
             have e_ := Option.some.inj (show some _ = some _ from hF); subst e_
             exact x_return ⟨_, ⟨_, _, rfl, rfl, rfl⟩, ρ, q9, q2, n0.Gates.length, c_n0_3, q6, q7, rfl, (Le.refl _), q3, q0b, q4, (((((((hS.drop.pull 6).pull 6).pull 6).pull 6).pull 6).pull 6).pull 6)⟩
            ·replace hFc181 := it_bf hc195 hFc181
             replace hFc181 := ck_s hFc181; obtain ⟨q1t, hFc181⟩ := hFc181
             refine x_skip <| x_head 9 mixed (by kernel_rfl) hS _ _ rfl rfl <| q (yl_move rfl) <| q (yl_nilCheck rfl) <|
              q (yl_field0 fld_30_4 rfl) <| qa (fun w' hS => at_load one_22 rfl ((hS.pull 1).cell rfl)) <| q (yl_field0 fld_43_2 rfl) <| qa (fun w' hS => at_load one_3 rfl (hS.cell rfl)) <|
              q (yl_field0 fld_43_4 rfl) <| qa (fun w' hS => at_load one_3 rfl (hS.cell rfl)) <| q (yix_o sl_22 rfl rfl (hS.pull 6) q4 q1t) <|
              q_done fun w' hS => ?_
             replace hFc181 := lv_s hFc181; obtain ⟨q2o, q2h, hFc181⟩ := hFc181
             refine o_put' (news := [.int .i64 x2.Net]) sz_3 rfl rfl rfl rfl (o := 0) rfl q1t rfl (hS.pull 6) q4 (Le.refl _) (fun c hc => ok_all hc (show (RpI .i64).ok ρ [.int .i64 x2.Net] x2.Net from rfl)) q2h (fun q2i w' q2j hS => ?_)
             refine x_done <| ?_
             exact x_inv ⟨q2i, q2o, (Option.some.inj (show some _ = some _ from hFc181)), q2j, ((((((((hS.pull 1).drop.pull 6).pull 1).pull 6).pull 6).pull 6).pull 6).pull 6)⟩
           ·replace hFc181 := it_f hc181 hFc181
            refine x_skip <| ?_
            exact x_inv ⟨q7, n0.Outs, (Option.some.inj (show some _ = some _ from hFc181)), q4, (((((((hS.drop.pull 6).pull 6).pull 6).pull 6).pull 6).pull 6).pull 6)⟩
          rintro E w ⟨q0h, q0p, rfl, q1c, hS⟩
          exact x_inv ⟨q9, q0h, n0.Flops, q0p, (Option.some.inj (show some _ = some _ from hFc124)), q3, q1c, (((((((hS.pull 6).pull 6).pull 6).pull 6).pull 6).pull 6).pull 6)⟩
        rintro E w ⟨q0e, q0f, q0m, q0n, rfl, q1d, q1e, hS⟩
        exact x_inv ⟨q0e, q0f, q0m, q0n, (Option.some.inj (show some _ = some _ from hFc47)), q1d, q1e, (((((((hS.pull 6).pull 6).pull 6).pull 6).pull 6).pull 6).pull 6)⟩
      rintro E w ⟨q0i, q0j, q0x, q0y, rfl, q1i, q1j, hS⟩
      refine x_blk <| x_seq <| x_region <| p (yl_assign rfl) <|
       x_done <| ?_
      have e_ := Option.some.inj (show some _ = some _ from hF); subst e_
      exact x_return ⟨_, ⟨_, _, rfl, rfl, rfl⟩, ρ, q0i, q2, n0.Gates.length, c_n0_3, q6, q0j, rfl, (Le.refl _), q1i, q0b, q1j, (((((((hS.pull 6).pull 6).pull 6).pull 6).pull 6).pull 6).pull 6)⟩
attribute [irreducible] P_eco_apply

def P_eco_Apply_L8 (l_1 : List T_api_Cell) (order2 : List T_eco_Edit) (q7 : T_api_Netlist) : (Int × List T_api_Flop × List T_api_Gate × List Int) → Option ((Int × List T_api_Flop × List T_api_Gate × List Int) ⊕ ((List T_api_Flop × List T_api_Gate × List Int) ⊕ (T_api_Netlist × Int × Int))) := fun (q2, q4, q5, q6) =>
 if q2 < (order2.length : Int) then
  ck (inb q2 order2.length) <|
  lv (gt order2 q2) fun q8 =>
  bd (P_eco_apply (T_api_Netlist.mk q7.In q7.Out q4 q5 q6) l_1 q8) fun q3 =>
  if q3.1 ≠ 0 then
   some (Sum.inr (Sum.inr ((T_api_Netlist.mk [] [] [] [] []), q2, q3.1)))
  else
   ar (q2 + 1) fun x42 =>
   some (Sum.inl (x42, q3.2.1, q3.2.2.1, q3.2.2.2))
 else
  some (Sum.inr (Sum.inl (q4, q5, q6)))
def P_eco_Apply (n0 : T_api_Netlist) (l_1 : List T_api_Cell) (order2 : List T_eco_Edit) : Option (T_api_Netlist × Int × Int) :=
 bd (P_floor_CheckChip n0 l_1) fun q6 =>
 if q6 ≠ 0 then
  some ((T_api_Netlist.mk [] [] [] [] []), (0 : Int), q6)
 else
  if 64 < (order2.length : Int) then
   some ((T_api_Netlist.mk [] [] [] [] []), (0 : Int), (3 : Int))
  else
   bd (P_netlist_Copy n0) fun q2 =>
   bs (
    lp (P_eco_Apply_L8 l_1 order2 q2) fuel (0, q2.Flops, q2.Gates, q2.Outs)) (fun y => some y) fun (q3, q4, q5) =>
   some ((T_api_Netlist.mk q2.In q2.Out q3 q4 q5), (0 : Int), (0 : Int))
set_option maxHeartbeats 4000000 in
set_option maxRecDepth 100000 in
theorem c_eco_Apply {w0 w : World} {l : List Assn} {ρ : Heap} {q1a : Option Addr} {q2t : Nat} {c_n0_0 : Nat} {q1b : Option Addr} {q2u : Nat} {c_n0_1 : Nat} {q1c : Option Addr} {q2v : Nat} {c_n0_2 : Nat} {q1d : Option Addr} {q2w : Nat} {c_n0_3 : Nat} {q1e : Option Addr} {q2x : Nat} {c_n0_4 : Nat} {q2p : Option Addr} {q31 : Nat} {c_l_1 : Nat} {q1u : Option Addr} {q2c : Nat} {c_order2 : Nat} {n0 : T_api_Netlist} {l_1 : List T_api_Cell} {order2 : List T_eco_Edit} {r : (T_api_Netlist × Int × Int)} (hF : P_eco_Apply n0 l_1 order2 = some r) (q2d : RdS RpS ρ q1a q2t c_n0_0 n0.In) (q2e : RdS RpS ρ q1b q2u c_n0_1 n0.Out) (q2f : RdS R_api_Flop ρ q1c q2v c_n0_2 n0.Flops) (q2g : RdS R_api_Gate ρ q1d q2w c_n0_3 n0.Gates) (q2h : RdS (RpI .i64) ρ q1e q2x c_n0_4 n0.Outs) (q2q : RdS R_api_Cell ρ q2p q31 c_l_1 l_1) (q1v : RdS R_eco_Edit ρ q1u q2c c_order2 order2) (hS : St w0 w (ro ρ :: l)) :
  Calls Tryd.prog 14 #[.agg #[.slice q1a q2t c_n0_0, .slice q1b q2u c_n0_1, .slice q1c q2v c_n0_2, .slice q1d q2w c_n0_3, .slice q1e q2x c_n0_4], .slice q2p q31 c_l_1, .slice q1u q2c c_order2] w fun e w' => ∃ (ρ' : Heap) (q1z : Option Addr) (q14 : Nat) (c_y0_ret_0 : Nat) (q1n : List Value) (q20 : Option Addr) (q15 : Nat) (c_y0_ret_1 : Nat) (q1o : List Value) (q21 : Option Addr) (q16 : Nat) (c_y0_ret_2 : Nat) (q1p : List Value) (q22 : Option Addr) (q17 : Nat) (c_y0_ret_3 : Nat) (q1q : List Value) (q23 : Option Addr) (q18 : Nat) (c_y0_ret_4 : Nat) (q1r : List Value), e = .returned (.tuple #[.agg #[.slice q1z q14 c_y0_ret_0, .slice q20 q15 c_y0_ret_1, .slice q21 q16 c_y0_ret_2, .slice q22 q17 c_y0_ret_3, .slice q23 q18 c_y0_ret_4], .int .i64 r.2.1, .int .i64 r.2.2]) ∧ Le ρ ρ' ∧ RepL RpS ρ' r.1.In q1n ∧ RepL RpS ρ' r.1.Out q1o ∧ RepL R_api_Flop ρ' r.1.Flops q1p ∧ RepL R_api_Gate ρ' r.1.Gates q1q ∧ RepL (RpI .i64) ρ' r.1.Outs q1r ∧ St w0 w' (vec 9 RpS.sz (.slice q1z q14 c_y0_ret_0) q14 q1n :: vec 9 RpS.sz (.slice q20 q15 c_y0_ret_1) q15 q1o :: vec 135 R_api_Flop.sz (.slice q21 q16 c_y0_ret_2) q16 q1p :: vec 38 R_api_Gate.sz (.slice q22 q17 c_y0_ret_3) q17 q1q :: vec 3 (RpI .i64).sz (.slice q23 q18 c_y0_ret_4) q18 q1r :: ro ρ' :: l) := by
 have e_ := q2d.n; subst e_
 have e_ := q2e.n; subst e_
 have e_ := q2f.n; subst e_
 have e_ := q2g.n; subst e_
 have e_ := q2h.n; subst e_
 have e_ := q2q.n; subst e_
 have e_ := q1v.n; subst e_
 refine enterC Tryd.func14 rfl 44 rfl (by simp) ?_
 refine x_seq <| x_region <| ?_
 refine o_box (cs := [.slice q1a n0.In.length c_n0_0, .slice q1b n0.Out.length c_n0_1, .slice q1c n0.Flops.length c_n0_2, .slice q1d n0.Gates.length c_n0_3, .slice q1e n0.Outs.length c_n0_4]) rfl rfl hS (fun b3 w' hS => ?_)
 refine o_alloc zero_30 hS (fun b6 w' hS => ?_)
 replace hF := bd_s hF; obtain ⟨q2i, q3c, hF⟩ := hF
 refine p (yl_assign rfl) <| p (yl_assign rfl) <| x_done <| x_seq <|
  x_seq <| x_region <| pa (v := .agg #[.slice q1a n0.In.length c_n0_0, .slice q1b n0.Out.length c_n0_1, .slice q1c n0.Flops.length c_n0_2, .slice q1d n0.Gates.length c_n0_3, .slice q1e n0.Outs.length c_n0_4]) (ld_sub agg_30 rfl rfl rfl (hS.pull 1)) <| p (yl_move rfl) <| ?_
 have hcall := c_floor_CheckChip q3c q2d q2e q2f q2g q2h q2q (hS.pull 2)
 refine o_cc call_49 (args2 rfl rfl) ((Calls.mono hcall (fun e w'' h => And.intro h.1 ((h.2.pull 2).pull 2)))) ?_
 rintro e w' ⟨rfl, hS⟩
 refine ⟨_, rfl, ?_⟩
 refine p (v := .int .i64 q2i) (yl_assign rfl) <| x_done <| x_seq <| x_region <|
  p (v := .int .i64 q2i) (yl_move rfl) <| p (yl_neq rfl rfl) <| x_done <|
  x_cond_p (q2i ≠ 0) rfl (fun hc18 => ?_) (fun hc18 => ?_)
 ·replace hF := it_t hc18 hF
  refine x_seq <| x_region <| p (v := .agg #[.slice none 0 0, .slice none 0 0, .slice none 0 0, .slice none 0 0, .slice none 0 0]) (yl_build bld_30 bldf_30 (parts_eq pt0) (by kernel_rfl)) <| p (v := .int .i64 q2i) (yl_move rfl) <| ?_
  refine o_storeAgg (news := [.slice none 0 0, .slice none 0 0, .slice none 0 0, .slice none 0 0, .slice none 0 0]) agg_30 rfl rfl rfl (by simp [over_length]) hS (fun w' hS => ?_)
  refine p (yl_assign rfl) <| p (v := .int .i64 q2i) (yl_assign rfl) <| x_done <| ?_
  replace hS := St.vec_nil hS 9 RpS.sz
  have q7 : RepL RpS ρ [] [] := rfl
  replace hS := St.vec_nil hS 9 RpS.sz
  have q8 : RepL RpS ρ [] [] := rfl
  replace hS := St.vec_nil hS 135 R_api_Flop.sz
  have q9 : RepL R_api_Flop ρ [] [] := rfl
  replace hS := St.vec_nil hS 38 R_api_Gate.sz
  have q0a : RepL R_api_Gate ρ [] [] := rfl
  replace hS := St.vec_nil hS 3 (RpI .i64).sz
  have q0b : RepL (RpI .i64) ρ [] [] := rfl
  have e_ := Option.some.inj (show some _ = some _ from hF); subst e_
  exact x_return ⟨_, ⟨_, _, _, rfl, rfl, ldvA agg_30 rfl (fun j v hj => by rw [add0]; exact St.cell (hS.pull 5) hj), _, _, rfl, rfl, _, _, rfl, rfl, rfl⟩, ρ, none, 0, 0, [], none, 0, 0, [], none, 0, 0, [], none, 0, 0, [], none, 0, 0, [], rfl, (Le.refl _), q7, q8, q9, q0a, q0b, ((((((((hS.pull 5).drop.pull 5).drop.pull 5).pull 1).pull 2).pull 3).pull 4).pull 5)⟩
 ·replace hF := it_f hc18 hF
  refine x_skip <| x_seq <| x_seq <| x_region <|
   p (yl_move rfl) <| p (yl_len_slice usl_44 rfl) <| p (yl_gtr rfl rfl) <| x_done <|
   x_cond_p (64 < (order2.length : Int)) rfl (fun hc23 => ?_) (fun hc23 => ?_)
  ·replace hF := it_t hc23 hF
   refine x_seq <| x_region <| p (v := .agg #[.slice none 0 0, .slice none 0 0, .slice none 0 0, .slice none 0 0, .slice none 0 0]) (yl_build bld_30 bldf_30 (parts_eq pt0) (by kernel_rfl)) <| ?_
   refine o_storeAgg (news := [.slice none 0 0, .slice none 0 0, .slice none 0 0, .slice none 0 0, .slice none 0 0]) agg_30 rfl rfl rfl (by simp [over_length]) hS (fun w' hS => ?_)
   refine p (yl_assign rfl) <| p (yl_assign rfl) <| x_done <| ?_
   replace hS := St.vec_nil hS 9 RpS.sz
   have q7 : RepL RpS ρ [] [] := rfl
   replace hS := St.vec_nil hS 9 RpS.sz
   have q8 : RepL RpS ρ [] [] := rfl
   replace hS := St.vec_nil hS 135 R_api_Flop.sz
   have q9 : RepL R_api_Flop ρ [] [] := rfl
   replace hS := St.vec_nil hS 38 R_api_Gate.sz
   have q0a : RepL R_api_Gate ρ [] [] := rfl
   replace hS := St.vec_nil hS 3 (RpI .i64).sz
   have q0b : RepL (RpI .i64) ρ [] [] := rfl
   have e_ := Option.some.inj (show some _ = some _ from hF); subst e_
   exact x_return ⟨_, ⟨_, _, _, rfl, rfl, ldvA agg_30 rfl (fun j v hj => by rw [add0]; exact St.cell (hS.pull 5) hj), _, _, rfl, rfl, _, _, rfl, rfl, rfl⟩, ρ, none, 0, 0, [], none, 0, 0, [], none, 0, 0, [], none, 0, 0, [], none, 0, 0, [], rfl, (Le.refl _), q7, q8, q9, q0a, q0b, ((((((((hS.pull 5).drop.pull 5).drop.pull 5).pull 1).pull 2).pull 3).pull 4).pull 5)⟩
  ·replace hF := it_f hc23 hF
   replace hF := bd_s hF; obtain ⟨q2, q3d, hF⟩ := hF
   refine x_skip <| x_seq <| x_region <| pa (v := .agg #[.slice q1a n0.In.length c_n0_0, .slice q1b n0.Out.length c_n0_1, .slice q1c n0.Flops.length c_n0_2, .slice q1d n0.Gates.length c_n0_3, .slice q1e n0.Outs.length c_n0_4]) (ld_sub agg_30 rfl rfl rfl (hS.pull 1)) <| ?_
   have hcall := c_netlist_Copy q3d q2d q2e q2f q2g q2h (hS.pull 2)
   refine o_cc call_50 (args1 rfl) hcall ?_
   rintro e w' ⟨q2j, q3, q35, c_y0_ret_0_6_1, q0f, q4, q36, c_y0_ret_1_6_1, q0g, q5, q37, c_y0_ret_2_6_1, q24, q0z, q38, c_y0_ret_3_6_1, q25, q6, q39, c_y0_ret_4_6_1, q26, rfl, q10, q0k, q0l, q11, q12, q13, hS⟩
   refine ⟨_, rfl, ?_⟩
   have e_ := St.vec_n hS q0k; subst e_
   have e_ := St.vec_n (hS.pull 1) q0l; subst e_
   have e_ := St.vec_n (hS.pull 2) q11; subst e_
   have e_ := St.vec_n (hS.pull 3) q12; subst e_
   have e_ := St.vec_n (hS.pull 4) q13; subst e_
   refine o_alloc zero_30 hS (fun b10 w' hS => ?_)
   refine o_storeAgg (news := [.slice q3 q2.In.length c_y0_ret_0_6_1, .slice q4 q2.Out.length c_y0_ret_1_6_1, .slice q5 q2.Flops.length c_y0_ret_2_6_1, .slice q0z q2.Gates.length c_y0_ret_3_6_1, .slice q6 q2.Outs.length c_y0_ret_4_6_1]) agg_30 rfl rfl rfl (by simp [over_length]) hS (fun w' hS => ?_)
   refine x_done <| x_seq <| x_seq <| x_region <|
    p (yl_move rfl) <| p (yl_len_slice usl_44 rfl) <| p (yl_move rfl) <| x_done <| ?_
   replace hF := bs_s hF; obtain ⟨oL8, hLL8, hF⟩ := hF
   refine x_join (fun E w => ∃ (q1w : Heap) (q0o : List Value) (q0e : Option Addr) (q0v : Nat) (c_b10_3_L8 : Nat) (q0p : List Value) (q0q : List Value) (q1x : List T_api_Flop) (q0m : List T_api_Gate) (q1y : List Int), (Sum.inl (q1x, q0m, q1y)) = oL8 ∧ Le q2j q1w ∧ E 6 = .pointer (some ⟨b6, 0, none⟩) ∧ E 10 = .pointer (some ⟨b10, 0, none⟩) ∧ RepL R_api_Flop q1w q1x q0o ∧ RepL R_api_Gate q1w q0m q0p ∧ RepL (RpI .i64) q1w q1y q0q ∧ St w0 w (cells b6 30 [.slice none 0 0, .slice none 0 0, .slice none 0 0, .slice none 0 0, .slice none 0 0] :: cells b10 30 [.slice q3 q2.In.length c_y0_ret_0_6_1, .slice q4 q2.Out.length c_y0_ret_1_6_1, .slice q5 q2.Flops.length c_y0_ret_2_6_1, .slice q0e q0v c_b10_3_L8, .slice q6 q2.Outs.length c_y0_ret_4_6_1] :: vec 9 RpS.sz (.slice q3 q2.In.length c_y0_ret_0_6_1) q2.In.length q0f :: vec 9 RpS.sz (.slice q4 q2.Out.length c_y0_ret_1_6_1) q2.Out.length q0g :: vec 135 R_api_Flop.sz (.slice q5 q2.Flops.length c_y0_ret_2_6_1) q2.Flops.length q0o :: vec 38 R_api_Gate.sz (.slice q0e q0v c_b10_3_L8) q0v q0p :: vec 3 (RpI .i64).sz (.slice q6 q2.Outs.length c_y0_ret_4_6_1) q2.Outs.length q0q :: ro q1w :: l)) ?_ ?_
   ·refine x_block ?_
    refine x_loop (fun k_ E w => ∃ (q19 : Heap) (q0h : List Value) (q0r : Option Addr) (q0s : Nat) (c_b10_3_L8h : Nat) (q0i : List Value) (q0j : List Value) (q1i : Int) (q0w : List T_api_Flop) (q0t : List T_api_Gate) (q0x : List Int), lp (P_eco_Apply_L8 l_1 order2 q2) k_ (q1i, q0w, q0t, q0x) = some oL8 ∧ Le q2j q19 ∧ E 1 = .slice q2p l_1.length c_l_1 ∧ E 6 = .pointer (some ⟨b6, 0, none⟩) ∧ E 10 = .pointer (some ⟨b10, 0, none⟩) ∧ E 27 = .slice q1u order2.length c_order2 ∧ E 28 = .int .i64 (order2.length : Int) ∧ E 29 = .int .i64 q1i ∧ RepL R_api_Flop q19 q0w q0h ∧ RepL R_api_Gate q19 q0t q0i ∧ RepL (RpI .i64) q19 q0x q0j ∧ St w0 w (cells b6 30 [.slice none 0 0, .slice none 0 0, .slice none 0 0, .slice none 0 0, .slice none 0 0] :: cells b10 30 [.slice q3 q2.In.length c_y0_ret_0_6_1, .slice q4 q2.Out.length c_y0_ret_1_6_1, .slice q5 q2.Flops.length c_y0_ret_2_6_1, .slice q0r q0s c_b10_3_L8h, .slice q6 q2.Outs.length c_y0_ret_4_6_1] :: vec 9 RpS.sz (.slice q3 q2.In.length c_y0_ret_0_6_1) q2.In.length q0f :: vec 9 RpS.sz (.slice q4 q2.Out.length c_y0_ret_1_6_1) q2.Out.length q0g :: vec 135 R_api_Flop.sz (.slice q5 q2.Flops.length c_y0_ret_2_6_1) q2.Flops.length q0h :: vec 38 R_api_Gate.sz (.slice q0r q0s c_b10_3_L8h) q0s q0i :: vec 3 (RpI .i64).sz (.slice q6 q2.Outs.length c_y0_ret_4_6_1) q2.Outs.length q0j :: ro q19 :: l)) fuel ⟨q2j, q24, q0z, q2.Gates.length, c_y0_ret_3_6_1, q25, q26, 0, q2.Flops, q2.Gates, q2.Outs, hLL8, (Le.refl _), rfl, rfl, rfl, rfl, rfl, rfl, q11, q12, q13, (((((((((hS.pull 8).drop.pull 6).pull 6).pull 6).pull 6).pull 6).pull 6).pull 6).pull 7)⟩ ?_
    rintro kL8 E w ⟨q19, q0h, q0r, q0s, c_b10_3_L8h, q0i, q0j, q1i, q0w, q0t, q0x, hLL8, q0d, q2y, q27, q2a, q2m, q2n, q1j, q1s, q0y, q1t, hS⟩
    have e_ := St.vec_n (hS.pull 5) q0y; subst e_
    replace hLL8 := lp_s hLL8; obtain ⟨kL8, obL8, rfl, hFL8, hLL8⟩ := hLL8
    refine x_seq <| x_region <| p (yl_lss q1j q2n) <| x_done <|
     x_seq <|
     x_cond_p (q1i < (order2.length : Int)) rfl (fun hc30 => ?_) (fun hc30 => ?_)
    ·replace hFL8 := it_t hc30 hFL8
     replace hFL8 := ck_s hFL8; obtain ⟨q32, hFL8⟩ := hFL8
     replace hFL8 := lv_s hFL8; obtain ⟨q0c, q3e, hFL8⟩ := hFL8
     have q_ := q1v.get q32; obtain ⟨q3h, q33, q3f⟩ := q_
     rw [← q3e] at q33
     obtain ⟨q2k, q3g, q2l, rfl, q2z⟩ := q33
     have e_ := q2z.n; subst e_
     refine x_skip <| x_seq <| x_block <| x_seq <|
      x_region <| p (yl_move q1j) <| p (yix_f sl_44 q2m q1j (q1v.le (q10.trans q0d)) q32) <| pa (v := .agg #[.int .i64 q0c.Kind, .int .i64 q0c.Gate.Cell, .int .u64 q0c.Gate.Table, .slice q2k q0c.Gate.Ins.length q2l, .int .i64 q0c.I, .int .i64 q0c.K, .int .i64 q0c.Net]) (at_loadAgg agg_43 rfl rfl (Elt.every (Elt.le q3f (q10.trans q0d)) (hS.pull 7))) <| ?_
     refine o_alloc zero_43 hS (fun b12 w' hS => ?_)
     refine p (yl_assign rfl) <| ?_
     refine o_storeAgg (news := [.int .i64 q0c.Kind, .int .i64 q0c.Gate.Cell, .int .u64 q0c.Gate.Table, .slice q2k q0c.Gate.Ins.length q2l, .int .i64 q0c.I, .int .i64 q0c.K, .int .i64 q0c.Net]) agg_43 rfl rfl rfl (by simp [over_length]) hS (fun w' hS => ?_)
     replace hFL8 := bd_s hFL8; obtain ⟨q28, q3a, hFL8⟩ := hFL8
     refine x_done <| x_seq <| x_region <| p (yl_move q2y) <|
      pa (v := .agg #[.int .i64 q0c.Kind, .int .i64 q0c.Gate.Cell, .int .u64 q0c.Gate.Table, .slice q2k q0c.Gate.Ins.length q2l, .int .i64 q0c.I, .int .i64 q0c.K, .int .i64 q0c.Net]) (ld_sub agg_43 rfl rfl rfl hS) <| ?_
     have hcall := c_eco_apply q3a (q0k.le q0d) (q0l.le q0d) q1s q0y q1t (q2q.le (q10.trans q0d)) (q2z.le (q10.trans q0d)) (((((((hS.pull 8).pull 8).pull 8).pull 8).pull 8).pull 8).pull 8)
     refine o_cc call_51 (args3 q2a rfl rfl) hcall ?_
     rintro e w' ⟨q0n, q1f, q1k, q30, c_b_n0_3_ret_10_2, q1g, q1h, rfl, q2o, q1l, q0u, q1m, hS⟩
     refine ⟨_, rfl, ?_⟩
     have e_ := St.vec_n (hS.pull 4) q0u; subst e_
     refine p (yl_assign rfl) <| x_done <| x_seq <| x_region <|
      p (yl_move rfl) <| p (yl_neq rfl rfl) <| x_done <|
      x_cond_p (q28.1 ≠ 0) rfl (fun hc38 => ?_) (fun hc38 => ?_)
     ·replace hFL8 := it_t hc38 hFL8
      refine x_seq <| x_region <| p (v := .agg #[.slice none 0 0, .slice none 0 0, .slice none 0 0, .slice none 0 0, .slice none 0 0]) (yl_build bld_30 bldf_30 (parts_eq pt0) (by kernel_rfl)) <| p (yl_move rfl) <|
       p (yl_move rfl) <| ?_
      refine o_storeAgg (news := [.slice none 0 0, .slice none 0 0, .slice none 0 0, .slice none 0 0, .slice none 0 0]) agg_30 q27 rfl rfl (by simp [over_length]) (hS.pull 8) (fun w' hS => ?_)
      refine p (yl_assign rfl) <| p (yl_assign rfl) <| x_done <| ?_
      replace hS := St.vec_nil hS 9 RpS.sz
      have q7 : RepL RpS q0n [] [] := rfl
      replace hS := St.vec_nil hS 9 RpS.sz
      have q8 : RepL RpS q0n [] [] := rfl
      replace hS := St.vec_nil hS 135 R_api_Flop.sz
      have q9 : RepL R_api_Flop q0n [] [] := rfl
      replace hS := St.vec_nil hS 38 R_api_Gate.sz
      have q0a : RepL R_api_Gate q0n [] [] := rfl
      replace hS := St.vec_nil hS 3 (RpI .i64).sz
      have q0b : RepL (RpI .i64) q0n [] [] := rfl
      have e_ := Option.some.inj (show some _ = some _ from hFL8); subst e_
      have e_ := (show _ = oL8 from hLL8); subst e_
      have e_ := Option.some.inj (show some _ = some _ from hF); subst e_
      exact x_return ⟨_, ⟨_, _, _, rfl, q27, ldvA agg_30 rfl (fun j v hj => by rw [add0]; exact St.cell (hS.pull 5) hj), _, _, rfl, rfl, _, _, rfl, rfl, rfl⟩, q0n, none, 0, 0, [], none, 0, 0, [], none, 0, 0, [], none, 0, 0, [], none, 0, 0, [], rfl, ((q10.trans q0d).trans q2o), q7, q8, q9, q0a, q0b, ((((((((((((((hS.pull 5).drop.pull 5).drop.pull 5).drop.pull 5).drop.pull 5).drop.pull 5).drop.pull 5).drop.pull 6).drop.pull 5).pull 1).pull 2).pull 3).pull 4).pull 5)⟩
     ·replace hFL8 := it_f hc38 hFL8
      replace hFL8 := ar_s hFL8; obtain ⟨x42, hx42, hFL8⟩ := hFL8
      refine x_skip <| x_blk <| x_region <| p (yadd q1j rfl hx42) <|
       p (yl_move rfl) <| x_done <| ?_
      have e_ := Option.some.inj (show some _ = some _ from hFL8); subst e_
      exact x_inv ⟨kL8, Nat.lt_succ_self _, q0n, q1f, q1k, q28.2.2.1.length, c_b_n0_3_ret_10_2, q1g, q1h, x42, q28.2.1, q28.2.2.1, q28.2.2.2, hLL8, (q0d.trans q2o), q2y, q27, q2a, q2m, q2n, rfl, q1l, q0u, q1m, (((((((((hS.pull 7).drop.pull 6).pull 6).pull 6).pull 6).pull 6).pull 6).pull 6).pull 7)⟩
    ·replace hFL8 := it_f hc30 hFL8
     refine x_exitTo _ rfl <| ?_
     have e_ := Option.some.inj (show some _ = some _ from hFL8); subst e_
     exact x_inv ⟨q19, q0h, q0r, q0t.length, c_b10_3_L8h, q0i, q0j, q0w, q0t, q0x, hLL8, q0d, q27, q2a, q1s, q0y, q1t, ((((((((hS.pull 7).pull 7).pull 7).pull 7).pull 7).pull 7).pull 7).pull 7)⟩
   rintro E w ⟨q1w, q0o, q0e, q0v, c_b10_3_L8, q0p, q0q, q1x, q0m, q1y, rfl, q2b, q34, q3b, q2r, q29, q2s, hS⟩
   have e_ := St.vec_n (hS.pull 5) q29; subst e_
   refine x_seq <| x_region <| pa (v := .agg #[.slice q3 q2.In.length c_y0_ret_0_6_1, .slice q4 q2.Out.length c_y0_ret_1_6_1, .slice q5 q2.Flops.length c_y0_ret_2_6_1, .slice q0e q0m.length c_b10_3_L8, .slice q6 q2.Outs.length c_y0_ret_4_6_1]) (ld_sub agg_30 q3b rfl rfl (hS.pull 1)) <| ?_
   refine o_storeAgg (news := [.slice q3 q2.In.length c_y0_ret_0_6_1, .slice q4 q2.Out.length c_y0_ret_1_6_1, .slice q5 q2.Flops.length c_y0_ret_2_6_1, .slice q0e q0m.length c_b10_3_L8, .slice q6 q2.Outs.length c_y0_ret_4_6_1]) agg_30 q34 rfl rfl (by simp [over_length]) hS (fun w' hS => ?_)
   refine p (yl_assign rfl) <| p (yl_assign rfl) <| x_done <| ?_
   have e_ := Option.some.inj (show some _ = some _ from hF); subst e_
   exact x_return ⟨_, ⟨_, _, _, rfl, q34, ldvA agg_30 rfl (fun j v hj => by rw [add0]; exact St.cell hS hj), _, _, rfl, rfl, _, _, rfl, rfl, rfl⟩, q1w, q3, q2.In.length, c_y0_ret_0_6_1, q0f, q4, q2.Out.length, c_y0_ret_1_6_1, q0g, q5, q2.Flops.length, c_y0_ret_2_6_1, q0o, q0e, q0m.length, c_b10_3_L8, q0p, q6, q2.Outs.length, c_y0_ret_4_6_1, q0q, rfl, (q10.trans q2b), (q0k.le q2b), (q0l.le q2b), q2r, q29, q2s, ((((((hS.drop.drop.pull 5).pull 5).pull 5).pull 5).pull 5).pull 5)⟩
attribute [irreducible] P_eco_Apply

def P_slices_Equal_int_int_L4 (s10 : List Int) (s21 : List Int) : Int → Option (Int ⊕ (Unit ⊕ Bool)) := fun q2 =>
 if q2 < (s10.length : Int) then
  ck (inb q2 s10.length) <|
  lv (gt s10 q2) fun x19 =>
  ck (inb q2 s21.length) <|
  lv (gt s21 q2) fun x23 =>
  if x19 ≠ x23 then
   some (Sum.inr (Sum.inr false))
  else
   ar (q2 + 1) fun x25 =>
   some (Sum.inl x25)
 else
  some (Sum.inr (Sum.inl ()))
def P_slices_Equal_int_int (s10 : List Int) (s21 : List Int) : Option Bool :=
 if (s10.length : Int) ≠ (s21.length : Int) then
  some false
 else
  bs (
   lp (P_slices_Equal_int_int_L4 s10 s21) fuel 0) (fun y => some y) fun _ =>
  some true
set_option maxHeartbeats 4000000 in
set_option maxRecDepth 100000 in
theorem c_slices_Equal_int_int {w0 w : World} {l : List Assn} {ρ : Heap} {q5 : Option Addr} {q0b : Nat} {c_s10 : Nat} {q6 : Option Addr} {q0c : Nat} {c_s21 : Nat} {s10 : List Int} {s21 : List Int} {r : Bool} (hF : P_slices_Equal_int_int s10 s21 = some r) (q7 : RdS (RpI .i64) ρ q5 q0b c_s10 s10) (q8 : RdS (RpI .i64) ρ q6 q0c c_s21 s21) (hS : St w0 w (ro ρ :: l)) :
  Calls Tryd.prog 52 #[.slice q5 q0b c_s10, .slice q6 q0c c_s21] w fun e w' => e = .returned (.bool r) ∧ St w0 w' (ro ρ :: l) := by
 have e_ := q7.n; subst e_
 have e_ := q8.n; subst e_
 refine enterC Tryd.func52 rfl 26 rfl (by simp) ?_
 refine x_seq <| x_region <| p (yl_assign rfl) <| x_done <|
  x_seq <| x_seq <| x_region <| p (yl_move rfl) <|
  p (yl_len_slice usl_22 rfl) <| p (yl_move rfl) <| p (yl_len_slice usl_22 rfl) <| p (yl_neq rfl rfl) <|
  x_done <|
  x_cond_p ((s10.length : Int) ≠ (s21.length : Int)) rfl (fun hc10 => ?_) (fun hc10 => ?_)
 ·replace hF := it_t hc10 hF
  refine x_seq <| x_region <| p (yl_assign rfl) <| x_done <| ?_
  have e_ := Option.some.inj (show some _ = some _ from hF); subst e_
  exact x_return ⟨_, ⟨_, _, rfl, rfl, rfl⟩, rfl, hS⟩
 ·replace hF := it_f hc10 hF
  refine x_skip <| x_seq <| x_seq <| x_region <|
   p (yl_move rfl) <| p (yl_len_slice usl_22 rfl) <| p (yl_move rfl) <| x_done <| ?_
  replace hF := bs_s hF; obtain ⟨oL4, hLL4, hF⟩ := hF
  refine x_join (fun E w => (Sum.inl (())) = oL4 ∧ St w0 w (ro ρ :: l)) ?_ ?_
  ·refine x_block ?_
   refine x_loop (fun k_ E w => ∃ (q2 : Int), lp (P_slices_Equal_int_int_L4 s10 s21) k_ q2 = some oL4 ∧ E 0 = .slice q5 s10.length c_s10 ∧ E 1 = .slice q6 s21.length c_s21 ∧ E 12 = .int .i64 (s10.length : Int) ∧ E 13 = .int .i64 q2 ∧ St w0 w (ro ρ :: l)) fuel ⟨0, hLL4, rfl, rfl, rfl, rfl, hS⟩ ?_
   rintro kL4 E w ⟨q2, hLL4, q9, q0a, q4, q3, hS⟩
   replace hLL4 := lp_s hLL4; obtain ⟨kL4, obL4, rfl, hFL4, hLL4⟩ := hLL4
   refine x_seq <| x_region <| p (yl_lss q3 q4) <| x_done <|
    x_seq <|
    x_cond_p (q2 < (s10.length : Int)) rfl (fun hc14 => ?_) (fun hc14 => ?_)
   ·replace hFL4 := it_t hc14 hFL4
    replace hFL4 := ck_s hFL4; obtain ⟨q0d, hFL4⟩ := hFL4
    replace hFL4 := lv_s hFL4; obtain ⟨x19, hx19, hFL4⟩ := hFL4
    replace hFL4 := ck_s hFL4; obtain ⟨q0e, hFL4⟩ := hFL4
    replace hFL4 := lv_s hFL4; obtain ⟨x23, hx23, hFL4⟩ := hFL4
    refine x_skip <| x_seq <| x_block <| x_seq <|
     x_region <| p (yl_move q3) <| p (yl_assign rfl) <| x_done <|
     x_seq <| x_still mixed (by kernel_rfl) hS <| q (yl_move q9) <| q (yl_move rfl) <|
     q (yix_f sl_22 rfl rfl q7 q0d) <| qa (fun w' hS => at_load one_3 rfl (RdS.getW q7 hS q0d hx19)) <| q (yl_move q0a) <| q (yl_move rfl) <|
     q (yix_f sl_22 rfl rfl q8 q0e) <| qa (fun w' hS => at_load one_3 rfl (RdS.getW q8 hS q0e hx23)) <| q (yl_neq rfl rfl) <|
     q_done fun w' hS => ?_
    refine x_cond_p (x19 ≠ x23) rfl (fun hc24 => ?_) (fun hc24 => ?_)
    ·replace hFL4 := it_t hc24 hFL4
     refine x_seq <| x_region <| p (yl_assign rfl) <| x_done <| ?_
     have e_ := Option.some.inj (show some _ = some _ from hFL4); subst e_
     have e_ := (show _ = oL4 from hLL4); subst e_
     have e_ := Option.some.inj (show some _ = some _ from hF); subst e_
     exact x_return ⟨_, ⟨_, _, rfl, rfl, rfl⟩, rfl, hS⟩
    ·replace hFL4 := it_f hc24 hFL4
     replace hFL4 := ar_s hFL4; obtain ⟨x25, hx25, hFL4⟩ := hFL4
     refine x_skip <| x_blk <| x_region <| p (yadd q3 rfl hx25) <|
      p (yl_move rfl) <| x_done <| ?_
     have e_ := Option.some.inj (show some _ = some _ from hFL4); subst e_
     exact x_inv ⟨kL4, Nat.lt_succ_self _, x25, hLL4, q9, q0a, q4, rfl, hS⟩
   ·replace hFL4 := it_f hc14 hFL4
    refine x_exitTo _ rfl <| ?_
    have e_ := Option.some.inj (show some _ = some _ from hFL4); subst e_
    exact x_inv ⟨hLL4, hS⟩
  rintro E w ⟨rfl, hS⟩
  refine x_seq <| x_region <| p (yl_assign rfl) <| x_done <| ?_
  have e_ := Option.some.inj (show some _ = some _ from hF); subst e_
  exact x_return ⟨_, ⟨_, _, rfl, rfl, rfl⟩, rfl, hS⟩
attribute [irreducible] P_slices_Equal_int_int

def P_maskkeep4_edits : Option Bool :=
 bd (P_eco_Apply (T_api_Netlist.mk ([(⟨#[97]⟩ : ByteArray)] : List ByteArray) ([(⟨#[98]⟩ : ByteArray)] : List ByteArray) [] [] ([0] : List Int)) [] ([(T_eco_Edit.mk 3 (T_api_Gate.mk 0 0 []) 0 0 2)] : List T_eco_Edit)) fun q3 =>
 bd (
  if (decide (q3.2.2 = 0)) = true then
   bd (P_slices_Equal_int_int q3.1.Outs ([2] : List Int)) fun q4 =>
   some q4
  else
   some false) fun q2 =>
 some q2
set_option maxHeartbeats 4000000 in
set_option maxRecDepth 100000 in
theorem c_maskkeep4_edits {w0 w : World} {l : List Assn} {ρ : Heap} {r : Bool} (hF : P_maskkeep4_edits = some r) (hS : St w0 w (ro ρ :: l)) :
  Calls Tryd.prog 15 #[] w fun e w' => e = .returned (.bool r) ∧ St w0 w' (ro ρ :: l) := by
 refine enterC Tryd.func15 rfl 23 rfl (by simp) ?_
 refine x_seq <| x_region <| p (yl_assign rfl) <| x_done <|
  x_seq <| x_region <| ?_
 refine o_buildSlice (vs := [.string (⟨#[97]⟩ : ByteArray)]) (cs := [.string (⟨#[97]⟩ : ByteArray)]) sl_26 zero_9 (parts_eq (pt (va := .string (⟨#[97]⟩ : ByteArray)) rfl pt0)) rfl (by intro v hv; simp only [List.mem_cons, List.not_mem_nil, or_false] at hv; first | (subst hv; rfl) | (rcases hv with rfl <;> rfl)) (by decide) rfl hS (fun b5 w' hS => ?_)
 refine o_buildSlice (vs := [.string (⟨#[98]⟩ : ByteArray)]) (cs := [.string (⟨#[98]⟩ : ByteArray)]) sl_26 zero_9 (parts_eq (pt (va := .string (⟨#[98]⟩ : ByteArray)) rfl pt0)) rfl (by intro v hv; simp only [List.mem_cons, List.not_mem_nil, or_false] at hv; first | (subst hv; rfl) | (rcases hv with rfl <;> rfl)) (by decide) rfl hS (fun b6 w' hS => ?_)
 refine o_buildSlice (vs := [.int .i64 0]) (cs := [.int .i64 0]) sl_22 zero_3 (parts_eq (pt (va := .int .i64 0) rfl pt0)) rfl (by intro v hv; simp only [List.mem_cons, List.not_mem_nil, or_false] at hv; first | (subst hv; rfl) | (rcases hv with rfl <;> rfl)) (by decide) rfl hS (fun b7 w' hS => ?_)
 refine p (v := .agg #[.slice (some ⟨b5, 0, none⟩) 1 1, .slice (some ⟨b6, 0, none⟩) 1 1, .slice none 0 0, .slice none 0 0, .slice (some ⟨b7, 0, none⟩) 1 1]) (yl_build bld_30 bldf_30 (parts_eq (pt (va := .slice (some ⟨b5, 0, none⟩) 1 1) rfl (pt (va := .slice (some ⟨b6, 0, none⟩) 1 1) rfl (pt (va := .slice (some ⟨b7, 0, none⟩) 1 1) rfl pt0)))) (by kernel_rfl)) <| p (v := .agg #[.int .i64 3, .int .i64 0, .int .u64 0, .slice none 0 0, .int .i64 0, .int .i64 0, .int .i64 2]) (yl_build bld_43 bldf_43 (parts_eq (pt (va := .int .i64 3) rfl (pt (va := .int .i64 2) rfl pt0))) (by kernel_rfl)) <| ?_
 refine o_buildSlice (vs := [.agg #[.int .i64 3, .int .i64 0, .int .u64 0, .slice none 0 0, .int .i64 0, .int .i64 0, .int .i64 2]]) (cs := [.int .i64 3, .int .i64 0, .int .u64 0, .slice none 0 0, .int .i64 0, .int .i64 0, .int .i64 2]) sl_44 zero_43 (parts_eq (pt (va := .agg #[.int .i64 3, .int .i64 0, .int .u64 0, .slice none 0 0, .int .i64 0, .int .i64 0, .int .i64 2]) rfl pt0)) rfl (by intro v hv; simp only [List.mem_cons, List.not_mem_nil, or_false] at hv; first | (subst hv; rfl) | (rcases hv with rfl <;> rfl)) (by decide) rfl hS (fun b10 w' hS => ?_)
 have q18 : RepL RpS ρ ([(⟨#[97]⟩ : ByteArray)] : List ByteArray) [.string (⟨#[97]⟩ : ByteArray)] := (RepL.cons (cs := [.string (⟨#[97]⟩ : ByteArray)]) rfl RepL.nil)
 replace hS := St.vec_of (n := 1) (sz := RpS.sz) (hS.pull 3) rfl (by decide)
 have q_ := St.vec_fz ((hS.pull 4).pull 1) q18; obtain ⟨q0x, q0k, q0y, hS⟩ := q_
 have q0z : RepL RpS q0x ([(⟨#[98]⟩ : ByteArray)] : List ByteArray) [.string (⟨#[98]⟩ : ByteArray)] := (RepL.cons (cs := [.string (⟨#[98]⟩ : ByteArray)]) rfl RepL.nil)
 replace hS := St.vec_of (n := 1) (sz := RpS.sz) (hS.pull 3) rfl (by decide)
 have q_ := St.vec_fz ((hS.pull 1).pull 1) q0z; obtain ⟨q10, q0i, q11, hS⟩ := q_
 have q12 : RepL (RpI .i64) q10 ([0] : List Int) [.int .i64 0] := (RepL.cons (cs := [.int .i64 0]) rfl RepL.nil)
 replace hS := St.vec_of (n := 1) (sz := (RpI .i64).sz) (hS.pull 2) rfl (by decide)
 have q_ := St.vec_fz ((hS.pull 1).pull 1) q12; obtain ⟨q13, q8, q14, hS⟩ := q_
 have q15 : RepL R_eco_Edit q13 ([(T_eco_Edit.mk 3 (T_api_Gate.mk 0 0 []) 0 0 2)] : List T_eco_Edit) [.int .i64 3, .int .i64 0, .int .u64 0, .slice none 0 0, .int .i64 0, .int .i64 0, .int .i64 2] := (RepL.cons (cs := [.int .i64 3, .int .i64 0, .int .u64 0, .slice none 0 0, .int .i64 0, .int .i64 0, .int .i64 2]) ⟨_, _, _, rfl, (RdS.nil (A := none) (c := 0))⟩ RepL.nil)
 replace hS := St.vec_of (n := 1) (sz := R_eco_Edit.sz) (hS.pull 1) rfl (by decide)
 have q_ := St.vec_fz ((hS.pull 1).pull 1) q15; obtain ⟨q1d, q7, q16, hS⟩ := q_
 replace hF := bd_s hF; obtain ⟨q2, q19, hF⟩ := hF
 have hcall := c_eco_Apply q19 (q0y.le ((q0i.trans q8).trans q7)) (q11.le (q8.trans q7)) (RdS.nil (A := none) (c := 0)) (RdS.nil (A := none) (c := 0)) (q14.le q7) (RdS.nil (A := none) (c := 0)) q16 hS
 refine o_cc call_14 (args3 rfl rfl rfl) hcall ?_
 rintro e w' ⟨q0j, q9, q0r, c_y0_ret_0_1_6, q0m, q0a, q0s, c_y0_ret_1_1_6, q0n, q0b, q0t, c_y0_ret_2_1_6, q0o, q0c, q0u, c_y0_ret_3_1_6, q0p, q4, q0v, c_y0_ret_4_1_6, q0q, rfl, q17, q0d, q0e, q0f, q0g, q6, hS⟩
 refine ⟨_, rfl, ?_⟩
 have e_ := St.vec_n hS q0d; subst e_
 have e_ := St.vec_n (hS.pull 1) q0e; subst e_
 have e_ := St.vec_n (hS.pull 2) q0f; subst e_
 have e_ := St.vec_n (hS.pull 3) q0g; subst e_
 have e_ := St.vec_n (hS.pull 4) q6; subst e_
 refine p (yl_move rfl) <| p (yl_extract rfl rfl) <| p (yl_extract rfl rfl) <| p (yl_extract rfl rfl) <| ?_
 refine o_alloc zero_30 hS (fun b1 w' hS => ?_)
 refine o_storeAgg (news := [.slice q9 q2.1.In.length c_y0_ret_0_1_6, .slice q0a q2.1.Out.length c_y0_ret_1_1_6, .slice q0b q2.1.Flops.length c_y0_ret_2_1_6, .slice q0c q2.1.Gates.length c_y0_ret_3_1_6, .slice q4 q2.1.Outs.length c_y0_ret_4_1_6]) agg_30 rfl rfl rfl (by simp [over_length]) hS (fun w' hS => ?_)
 refine p (yl_assign rfl) <| p (yl_assign rfl) <| x_done <| x_seq <|
  x_region <| p (yl_move rfl) <| p (yl_eql rfl rfl) <| p (yl_move rfl) <|
  pg (v := .pointer (some ⟨b1, 4, none⟩)) 17 (c := decide (q2.2.2 = 0)) (says_t _) (fun hq => Yl.at (yl_field0 fld_30_4 rfl)) <| pg (v := .slice q4 q2.1.Outs.length c_y0_ret_4_1_6) 17 (c := decide (q2.2.2 = 0)) (says_t _) (fun hq => at_load one_22 (cv hq) (hS.cell rfl)) <| ?_
 replace hF := bd_s hF; obtain ⟨q1a, q3, hF⟩ := hF
 refine x_join_ops (fun E w => ∃ (q0h : Bool), q0h = q1a ∧ E 0 = .bool q0h ∧ St w0 w (ro q0j :: l)) ?_ ?_
 ·refine x_split (decide (q2.2.2 = 0)) (fun q5 => ?_) (fun q5 => ?_)
  ·replace q3 := it_t q5 q3
   refine o_strip 17 true (says_lit (c := true) (Eq.trans (show _ = Value.bool (decide (q2.2.2 = 0)) from rfl) (congrArg Value.bool q5)) rfl) <| ?_
   refine o_buildSlice (vs := [.int .i64 2]) (cs := [.int .i64 2]) sl_22 zero_3 (parts_eq (pt (va := .int .i64 2) rfl pt0)) rfl (by intro v hv; simp only [List.mem_cons, List.not_mem_nil, or_false] at hv; first | (subst hv; rfl) | (rcases hv with rfl <;> rfl)) (by decide) rfl hS (fun b20 w' hS => ?_)
   refine o_strip 17 true (says_lit (c := true) (Eq.trans (show _ = Value.bool (decide (q2.2.2 = 0)) from rfl) (congrArg Value.bool q5)) rfl) <| ?_
   have q1b : RepL (RpI .i64) q0j ([2] : List Int) [.int .i64 2] := (RepL.cons (cs := [.int .i64 2]) rfl RepL.nil)
   replace hS := St.vec_of (n := 1) (sz := (RpI .i64).sz) hS rfl (by decide)
   replace q3 := bd_s q3; obtain ⟨q0l, q1c, q3⟩ := q3
   have q_ := St.lend ((hS.pull 7).pull 7) q6; obtain ⟨ρl0, hll0, hlf0, hS0, back0⟩ := q_
   have q_ := St.lend (hS0.pull 1) (q1b.le hll0); obtain ⟨ρl1, hll1, hlf1, hS1, back1⟩ := q_
   have hcall := c_slices_Equal_int_int q1c (hlf0.le hll1) hlf1 hS1
   refine o_cc call_52 (args2 (Eq.trans (show _ = (bif decide (q2.2.2 = 0) then .slice q4 q2.1.Outs.length c_y0_ret_4_1_6 else undef) from rfl) (cv q5)) rfl) ((Calls.mono hcall (fun e w'' h => And.intro h.1 (((((((((back0 ((back1 h.2).pull 1)).pull 1).pull 1).pull 7).pull 7).pull 7).pull 7).pull 7).pull 7)))) ?_
   rintro e w' ⟨rfl, hS⟩
   refine ⟨_, rfl, ?_⟩
   refine p (v := .bool q0l) (yl_pick (b := true) (Eq.trans (show _ = Value.bool (decide (q2.2.2 = 0)) from rfl) (congrArg Value.bool q5)) (fun h => rfl) (fun h => nomatch h)) <| p (v := .bool q0l) (yl_assign rfl) <| x_done <| ?_
   exact x_inv ⟨q0l, (Option.some.inj (show some _ = some _ from q3)), rfl, hS.drop.drop.drop.drop.drop.drop.drop⟩
  ·replace q3 := it_bf q5 q3
   refine o_pass 20 17 true (says_lit (c := false) (Eq.trans (show _ = Value.bool (decide (q2.2.2 = 0)) from rfl) (congrArg Value.bool q5)) rfl) <| o_pass 21 17 true (says_lit (c := false) (Eq.trans (show _ = Value.bool (decide (q2.2.2 = 0)) from rfl) (congrArg Value.bool q5)) rfl) <| p (yl_pick (b := false) (Eq.trans (show _ = Value.bool (decide (q2.2.2 = 0)) from rfl) (congrArg Value.bool q5)) (fun h => nomatch h) (fun h => rfl)) <| p (yl_assign rfl) <|
    x_done <| ?_
   exact x_inv ⟨false, (Option.some.inj (show some _ = some _ from q3)), rfl, hS.drop.drop.drop.drop.drop.drop⟩
 rintro E w ⟨q0h, rfl, q0w, hS⟩
 have e_ := Option.some.inj (show some _ = some _ from hF); subst e_
 exact x_return ⟨_, ⟨_, _, rfl, q0w, rfl⟩, rfl, (ro_back0 ((((q0k.trans q0i).trans q8).trans q7).trans q17) hS)⟩
attribute [irreducible] P_maskkeep4_edits

def P_slices_Equal_string_string_L4 (s10 : List ByteArray) (s21 : List ByteArray) : Int → Option (Int ⊕ (Unit ⊕ Bool)) := fun q2 =>
 if q2 < (s10.length : Int) then
  ck (inb q2 s10.length) <|
  lv (gt s10 q2) fun x19 =>
  ck (inb q2 s21.length) <|
  lv (gt s21 q2) fun x23 =>
  if x19 ≠ x23 then
   some (Sum.inr (Sum.inr false))
  else
   ar (q2 + 1) fun x25 =>
   some (Sum.inl x25)
 else
  some (Sum.inr (Sum.inl ()))
def P_slices_Equal_string_string (s10 : List ByteArray) (s21 : List ByteArray) : Option Bool :=
 if (s10.length : Int) ≠ (s21.length : Int) then
  some false
 else
  bs (
   lp (P_slices_Equal_string_string_L4 s10 s21) fuel 0) (fun y => some y) fun _ =>
  some true
set_option maxHeartbeats 4000000 in
set_option maxRecDepth 100000 in
theorem c_slices_Equal_string_string {w0 w : World} {l : List Assn} {ρ : Heap} {q5 : Option Addr} {q0b : Nat} {c_s10 : Nat} {q6 : Option Addr} {q0c : Nat} {c_s21 : Nat} {s10 : List ByteArray} {s21 : List ByteArray} {r : Bool} (hF : P_slices_Equal_string_string s10 s21 = some r) (q7 : RdS RpS ρ q5 q0b c_s10 s10) (q8 : RdS RpS ρ q6 q0c c_s21 s21) (hS : St w0 w (ro ρ :: l)) :
  Calls Tryd.prog 54 #[.slice q5 q0b c_s10, .slice q6 q0c c_s21] w fun e w' => e = .returned (.bool r) ∧ St w0 w' (ro ρ :: l) := by
 have e_ := q7.n; subst e_
 have e_ := q8.n; subst e_
 refine enterC Tryd.func54 rfl 26 rfl (by simp) ?_
 refine x_seq <| x_region <| p (yl_assign rfl) <| x_done <|
  x_seq <| x_seq <| x_region <| p (yl_move rfl) <|
  p (yl_len_slice usl_26 rfl) <| p (yl_move rfl) <| p (yl_len_slice usl_26 rfl) <| p (yl_neq rfl rfl) <|
  x_done <|
  x_cond_p ((s10.length : Int) ≠ (s21.length : Int)) rfl (fun hc10 => ?_) (fun hc10 => ?_)
 ·replace hF := it_t hc10 hF
  refine x_seq <| x_region <| p (yl_assign rfl) <| x_done <| ?_
  have e_ := Option.some.inj (show some _ = some _ from hF); subst e_
  exact x_return ⟨_, ⟨_, _, rfl, rfl, rfl⟩, rfl, hS⟩
 ·replace hF := it_f hc10 hF
  refine x_skip <| x_seq <| x_seq <| x_region <|
   p (yl_move rfl) <| p (yl_len_slice usl_26 rfl) <| p (yl_move rfl) <| x_done <| ?_
  replace hF := bs_s hF; obtain ⟨oL4, hLL4, hF⟩ := hF
  refine x_join (fun E w => (Sum.inl (())) = oL4 ∧ St w0 w (ro ρ :: l)) ?_ ?_
  ·refine x_block ?_
   refine x_loop (fun k_ E w => ∃ (q2 : Int), lp (P_slices_Equal_string_string_L4 s10 s21) k_ q2 = some oL4 ∧ E 0 = .slice q5 s10.length c_s10 ∧ E 1 = .slice q6 s21.length c_s21 ∧ E 12 = .int .i64 (s10.length : Int) ∧ E 13 = .int .i64 q2 ∧ St w0 w (ro ρ :: l)) fuel ⟨0, hLL4, rfl, rfl, rfl, rfl, hS⟩ ?_
   rintro kL4 E w ⟨q2, hLL4, q9, q0a, q4, q3, hS⟩
   replace hLL4 := lp_s hLL4; obtain ⟨kL4, obL4, rfl, hFL4, hLL4⟩ := hLL4
   refine x_seq <| x_region <| p (yl_lss q3 q4) <| x_done <|
    x_seq <|
    x_cond_p (q2 < (s10.length : Int)) rfl (fun hc14 => ?_) (fun hc14 => ?_)
   ·replace hFL4 := it_t hc14 hFL4
    replace hFL4 := ck_s hFL4; obtain ⟨q0d, hFL4⟩ := hFL4
    replace hFL4 := lv_s hFL4; obtain ⟨x19, hx19, hFL4⟩ := hFL4
    replace hFL4 := ck_s hFL4; obtain ⟨q0e, hFL4⟩ := hFL4
    replace hFL4 := lv_s hFL4; obtain ⟨x23, hx23, hFL4⟩ := hFL4
    refine x_skip <| x_seq <| x_block <| x_seq <|
     x_region <| p (yl_move q3) <| p (yl_assign rfl) <| x_done <|
     x_seq <| x_still mixed (by kernel_rfl) hS <| q (yl_move q9) <| q (yl_move rfl) <|
     q (yix_f sl_26 rfl rfl q7 q0d) <| qa (fun w' hS => at_load one_9 rfl (RdS.getW q7 hS q0d hx19)) <| q (yl_move q0a) <| q (yl_move rfl) <|
     q (yix_f sl_26 rfl rfl q8 q0e) <| qa (fun w' hS => at_load one_9 rfl (RdS.getW q8 hS q0e hx23)) <| q (ynes rfl rfl) <|
     q_done fun w' hS => ?_
    refine x_cond_p (x19 ≠ x23) rfl (fun hc24 => ?_) (fun hc24 => ?_)
    ·replace hFL4 := it_t hc24 hFL4
     refine x_seq <| x_region <| p (yl_assign rfl) <| x_done <| ?_
     have e_ := Option.some.inj (show some _ = some _ from hFL4); subst e_
     have e_ := (show _ = oL4 from hLL4); subst e_
     have e_ := Option.some.inj (show some _ = some _ from hF); subst e_
     exact x_return ⟨_, ⟨_, _, rfl, rfl, rfl⟩, rfl, hS⟩
    ·replace hFL4 := it_f hc24 hFL4
     replace hFL4 := ar_s hFL4; obtain ⟨x25, hx25, hFL4⟩ := hFL4
     refine x_skip <| x_blk <| x_region <| p (yadd q3 rfl hx25) <|
      p (yl_move rfl) <| x_done <| ?_
     have e_ := Option.some.inj (show some _ = some _ from hFL4); subst e_
     exact x_inv ⟨kL4, Nat.lt_succ_self _, x25, hLL4, q9, q0a, q4, rfl, hS⟩
   ·replace hFL4 := it_f hc14 hFL4
    refine x_exitTo _ rfl <| ?_
    have e_ := Option.some.inj (show some _ = some _ from hFL4); subst e_
    exact x_inv ⟨hLL4, hS⟩
  rintro E w ⟨rfl, hS⟩
  refine x_seq <| x_region <| p (yl_assign rfl) <| x_done <| ?_
  have e_ := Option.some.inj (show some _ = some _ from hF); subst e_
  exact x_return ⟨_, ⟨_, _, rfl, rfl, rfl⟩, rfl, hS⟩
attribute [irreducible] P_slices_Equal_string_string

def P_slices_Equal_api_Flop_api_Flop_L4 (s10 : List T_api_Flop) (s21 : List T_api_Flop) : Int → Option (Int ⊕ (Unit ⊕ Bool)) := fun q2 =>
 if q2 < (s10.length : Int) then
  ck (inb q2 s10.length) <|
  lv (gt s10 q2) fun q3 =>
  ck (inb q2 s21.length) <|
  lv (gt s21 q2) fun q4 =>
  lv (!(decide (q3.Name = q4.Name) && ((q3.Cell == q4.Cell) && ((q3.D == q4.D) && ((q3.En == q4.En) && ((q3.Init == q4.Init) && true)))))) fun x24 =>
  if x24 = true then
   some (Sum.inr (Sum.inr false))
  else
   ar (q2 + 1) fun x25 =>
   some (Sum.inl x25)
 else
  some (Sum.inr (Sum.inl ()))
def P_slices_Equal_api_Flop_api_Flop (s10 : List T_api_Flop) (s21 : List T_api_Flop) : Option Bool :=
 if (s10.length : Int) ≠ (s21.length : Int) then
  some false
 else
  bs (
   lp (P_slices_Equal_api_Flop_api_Flop_L4 s10 s21) fuel 0) (fun y => some y) fun _ =>
  some true
set_option maxHeartbeats 4000000 in
set_option maxRecDepth 100000 in
theorem c_slices_Equal_api_Flop_api_Flop {w0 w : World} {l : List Assn} {ρ : Heap} {q7 : Option Addr} {q0d : Nat} {c_s10 : Nat} {q8 : Option Addr} {q0e : Nat} {c_s21 : Nat} {s10 : List T_api_Flop} {s21 : List T_api_Flop} {r : Bool} (hF : P_slices_Equal_api_Flop_api_Flop s10 s21 = some r) (q9 : RdS R_api_Flop ρ q7 q0d c_s10 s10) (q0a : RdS R_api_Flop ρ q8 q0e c_s21 s21) (hS : St w0 w (ro ρ :: l)) :
  Calls Tryd.prog 55 #[.slice q7 q0d c_s10, .slice q8 q0e c_s21] w fun e w' => e = .returned (.bool r) ∧ St w0 w' (ro ρ :: l) := by
 have e_ := q9.n; subst e_
 have e_ := q0a.n; subst e_
 refine enterC Tryd.func55 rfl 26 rfl (by simp) ?_
 refine x_seq <| x_region <| p (yl_assign rfl) <| x_done <|
  x_seq <| x_seq <| x_region <| p (yl_move rfl) <|
  p (yl_len_slice usl_27 rfl) <| p (yl_move rfl) <| p (yl_len_slice usl_27 rfl) <| p (yl_neq rfl rfl) <|
  x_done <|
  x_cond_p ((s10.length : Int) ≠ (s21.length : Int)) rfl (fun hc10 => ?_) (fun hc10 => ?_)
 ·replace hF := it_t hc10 hF
  refine x_seq <| x_region <| p (yl_assign rfl) <| x_done <| ?_
  have e_ := Option.some.inj (show some _ = some _ from hF); subst e_
  exact x_return ⟨_, ⟨_, _, rfl, rfl, rfl⟩, rfl, hS⟩
 ·replace hF := it_f hc10 hF
  refine x_skip <| x_seq <| x_seq <| x_region <|
   p (yl_move rfl) <| p (yl_len_slice usl_27 rfl) <| p (yl_move rfl) <| x_done <| ?_
  replace hF := bs_s hF; obtain ⟨oL4, hLL4, hF⟩ := hF
  refine x_join (fun E w => (Sum.inl (())) = oL4 ∧ St w0 w (ro ρ :: l)) ?_ ?_
  ·refine x_block ?_
   refine x_loop (fun k_ E w => ∃ (q2 : Int), lp (P_slices_Equal_api_Flop_api_Flop_L4 s10 s21) k_ q2 = some oL4 ∧ E 0 = .slice q7 s10.length c_s10 ∧ E 1 = .slice q8 s21.length c_s21 ∧ E 12 = .int .i64 (s10.length : Int) ∧ E 13 = .int .i64 q2 ∧ St w0 w (ro ρ :: l)) fuel ⟨0, hLL4, rfl, rfl, rfl, rfl, hS⟩ ?_
   rintro kL4 E w ⟨q2, hLL4, q0b, q0c, q6, q3, hS⟩
   replace hLL4 := lp_s hLL4; obtain ⟨kL4, obL4, rfl, hFL4, hLL4⟩ := hLL4
   refine x_seq <| x_region <| p (yl_lss q3 q6) <| x_done <|
    x_seq <|
    x_cond_p (q2 < (s10.length : Int)) rfl (fun hc14 => ?_) (fun hc14 => ?_)
   ·replace hFL4 := it_t hc14 hFL4
    replace hFL4 := ck_s hFL4; obtain ⟨q0f, hFL4⟩ := hFL4
    replace hFL4 := lv_s hFL4; obtain ⟨q4, q0j, hFL4⟩ := hFL4
    have q_ := q9.get q0f; obtain ⟨q0n, q0g, q0k⟩ := q_
    rw [← q0j] at q0g
    have e_ := q0g; subst e_
    replace hFL4 := ck_s hFL4; obtain ⟨q0h, hFL4⟩ := hFL4
    replace hFL4 := lv_s hFL4; obtain ⟨q5, q0l, hFL4⟩ := hFL4
    have q_ := q0a.get q0h; obtain ⟨q0o, q0i, q0m⟩ := q_
    rw [← q0l] at q0i
    have e_ := q0i; subst e_
    replace hFL4 := lv_s hFL4; obtain ⟨x24, hx24, hFL4⟩ := hFL4
    refine x_skip <| x_seq <| x_block <| x_seq <|
     x_region <| p (yl_move q3) <| p (yl_assign rfl) <| x_done <|
     x_seq <| x_still mixed (by kernel_rfl) hS <| q (yl_move q0b) <| q (yl_move rfl) <|
     q (yix_f sl_27 rfl rfl q9 q0f) <| qa (v := .agg #[.string q4.Name, .int .i64 q4.Cell, .int .i64 q4.D, .int .i64 q4.En, .bool q4.Init]) (fun w' hS => at_loadAgg agg_135 rfl rfl (Elt.every q0k hS)) <| q (yl_move q0c) <| q (yl_move rfl) <|
     q (yix_f sl_27 rfl rfl q0a q0h) <| qa (v := .agg #[.string q5.Name, .int .i64 q5.Cell, .int .i64 q5.D, .int .i64 q5.En, .bool q5.Init]) (fun w' hS => at_loadAgg agg_135 rfl rfl (Elt.every q0m hS)) <| q (ynes' eqs_135 rfl rfl rfl hx24) <|
     q_done fun w' hS => ?_
    refine x_cond (t := x24) rfl (fun hc24 => ?_) (fun hc24 => ?_)
    ·replace hFL4 := it_t hc24 hFL4
     refine x_seq <| x_region <| p (yl_assign rfl) <| x_done <| ?_
     have e_ := Option.some.inj (show some _ = some _ from hFL4); subst e_
     have e_ := (show _ = oL4 from hLL4); subst e_
     have e_ := Option.some.inj (show some _ = some _ from hF); subst e_
     exact x_return ⟨_, ⟨_, _, rfl, rfl, rfl⟩, rfl, hS⟩
    ·replace hFL4 := it_bf hc24 hFL4
     replace hFL4 := ar_s hFL4; obtain ⟨x25, hx25, hFL4⟩ := hFL4
     refine x_skip <| x_blk <| x_region <| p (yadd q3 rfl hx25) <|
      p (yl_move rfl) <| x_done <| ?_
     have e_ := Option.some.inj (show some _ = some _ from hFL4); subst e_
     exact x_inv ⟨kL4, Nat.lt_succ_self _, x25, hLL4, q0b, q0c, q6, rfl, hS⟩
   ·replace hFL4 := it_f hc14 hFL4
    refine x_exitTo _ rfl <| ?_
    have e_ := Option.some.inj (show some _ = some _ from hFL4); subst e_
    exact x_inv ⟨hLL4, hS⟩
  rintro E w ⟨rfl, hS⟩
  refine x_seq <| x_region <| p (yl_assign rfl) <| x_done <| ?_
  have e_ := Option.some.inj (show some _ = some _ from hF); subst e_
  exact x_return ⟨_, ⟨_, _, rfl, rfl, rfl⟩, rfl, hS⟩
attribute [irreducible] P_slices_Equal_api_Flop_api_Flop

def P_netlist_Same_1 (x0 : T_api_Gate) (y1 : T_api_Gate) : Option Bool :=
 lv ((decide (x0.Cell = y1.Cell)) && (decide (x0.Table = y1.Table))) fun x16 =>
 bd (gd (x16) (P_slices_Equal_int_int x0.Ins y1.Ins)) fun q2 =>
 lv (x16 && q2) fun x23 =>
 some x23
set_option maxHeartbeats 4000000 in
set_option maxRecDepth 100000 in
theorem c_netlist_Same_1 {w0 w : World} {l : List Assn} {ρ : Heap} {q2 : Option Addr} {q4 : Nat} {c_x0_2 : Nat} {q3 : Option Addr} {q5 : Nat} {c_y1_2 : Nat} {x0 : T_api_Gate} {y1 : T_api_Gate} {r : Bool} (hF : P_netlist_Same_1 x0 y1 = some r) (q6 : RdS (RpI .i64) ρ q2 q4 c_x0_2 x0.Ins) (q7 : RdS (RpI .i64) ρ q3 q5 c_y1_2 y1.Ins) (hS : St w0 w (ro ρ :: l)) :
  Calls Tryd.prog 53 #[.agg #[.int .i64 x0.Cell, .int .u64 x0.Table, .slice q2 q4 c_x0_2], .agg #[.int .i64 y1.Cell, .int .u64 y1.Table, .slice q3 q5 c_y1_2]] w fun e w' => e = .returned (.bool r) ∧ St w0 w' (ro ρ :: l) := by
 have e_ := q6.n; subst e_
 have e_ := q7.n; subst e_
 refine enterC Tryd.func53 rfl 24 rfl (by simp) ?_
 refine x_seq <| x_region <| ?_
 refine o_box (cs := [.int .i64 x0.Cell, .int .u64 x0.Table, .slice q2 x0.Ins.length c_x0_2]) rfl rfl hS (fun b2 w' hS => ?_)
 refine o_box (cs := [.int .i64 y1.Cell, .int .u64 y1.Table, .slice q3 y1.Ins.length c_y1_2]) rfl rfl hS (fun b3 w' hS => ?_)
 replace hF := lv_s hF; obtain ⟨x16, hx16, hF⟩ := hF
 replace hF := bd_s hF; obtain ⟨q9, q8, hF⟩ := hF
 refine p (yl_assign rfl) <| x_done <| x_seq <| x_region <|
  p (yl_field0 fld_38_0 rfl) <| pa (at_load one_3 rfl ((hS.pull 1).cell rfl)) <| p (yl_field0 fld_38_0 rfl) <| pa (at_load one_3 rfl (hS.cell rfl)) <|
  p (yl_eql rfl rfl) <| p (yl_move rfl) <| pg (v := .pointer (some ⟨b2, 1, none⟩)) 10 (c := decide (x0.Cell = y1.Cell)) (says_t _) (fun hq => Yl.at (yl_field0 fld_38_1 rfl)) <| pg (v := .int .u64 x0.Table) 10 (c := decide (x0.Cell = y1.Cell)) (says_t _) (fun hq => at_load one_35 (cv hq) ((hS.pull 1).cell rfl)) <|
  pg (v := .pointer (some ⟨b3, 1, none⟩)) 10 (c := decide (x0.Cell = y1.Cell)) (says_t _) (fun hq => Yl.at (yl_field0 fld_38_1 rfl)) <| pg (v := .int .u64 y1.Table) 10 (c := decide (x0.Cell = y1.Cell)) (says_t _) (fun hq => at_load one_35 (cv hq) (hS.cell rfl)) <| pg (v := .bool (decide (x0.Table = y1.Table))) 10 (c := decide (x0.Cell = y1.Cell)) (says_t _) (fun hq => Yl.at (yl_eql (cv hq) (cv hq))) <| p (yand' rfl (fun hc => (cv hc)) rfl hx16) <|
  p (yl_move rfl) <| pg (v := .pointer (some ⟨b2, 2, none⟩)) 17 (c := x16) (says_t _) (fun hq => Yl.at (yl_field0 fld_38_2 rfl)) <| pg (v := .slice q2 x0.Ins.length c_x0_2) 17 (c := x16) (says_t _) (fun hq => at_load one_22 (cv hq) ((hS.pull 1).cell rfl)) <| pg (v := .pointer (some ⟨b3, 2, none⟩)) 17 (c := x16) (says_t _) (fun hq => Yl.at (yl_field0 fld_38_2 rfl)) <|
  pg (v := .slice q3 y1.Ins.length c_y1_2) 17 (c := x16) (says_t _) (fun hq => at_load one_22 (cv hq) (hS.cell rfl)) <|
  pccg (v := .bool q9) 17 (c := x16) (says_t _) call_52 (fun hq => (args2 (cv hq) (cv hq))) hS (fun hq => by
   have hcall := c_slices_Equal_int_int (gd_t q8 hq) q6 q7 (hS.pull 2)
   exact (Calls.mono hcall (fun e w'' h => And.intro h.1 ((h.2.pull 2).pull 2)))) (fun w' hS => ?_)
 replace hF := lv_s hF; obtain ⟨x23, hx23, hF⟩ := hF
 refine p (yand' rfl (fun hc => (cv hc)) rfl hx23) <| p (yl_assign rfl) <| x_done <| ?_
 have e_ := Option.some.inj (show some _ = some _ from hF); subst e_
 exact x_return ⟨_, ⟨_, _, rfl, rfl, rfl⟩, rfl, hS.drop.drop⟩
attribute [irreducible] P_netlist_Same_1

def P_slices_EqualFunc_api_Gate_api_Gate_api_Gate_api_Gate_L4 (s10 : List T_api_Gate) (s21 : List T_api_Gate) : Int → Option (Int ⊕ (Unit ⊕ Bool)) := fun q2 =>
 if q2 < (s10.length : Int) then
  ck (inb q2 s10.length) <|
  lv (gt s10 q2) fun q3 =>
  ck (inb q2 s21.length) <|
  lv (gt s21 q2) fun q4 =>
  bd (P_netlist_Same_1 q3 q4) fun q5 =>
  if (!q5) = true then
   some (Sum.inr (Sum.inr false))
  else
   ar (q2 + 1) fun x31 =>
   some (Sum.inl x31)
 else
  some (Sum.inr (Sum.inl ()))
def P_slices_EqualFunc_api_Gate_api_Gate_api_Gate_api_Gate (s10 : List T_api_Gate) (s21 : List T_api_Gate) : Option Bool :=
 if (s10.length : Int) ≠ (s21.length : Int) then
  some false
 else
  bs (
   lp (P_slices_EqualFunc_api_Gate_api_Gate_api_Gate_api_Gate_L4 s10 s21) fuel 0) (fun y => some y) fun _ =>
  some true
set_option maxHeartbeats 4000000 in
set_option maxRecDepth 100000 in
theorem c_slices_EqualFunc_api_Gate_api_Gate_api_Gate_api_Gate {w0 w : World} {l : List Assn} {ρ : Heap} {q0c : Option Addr} {q0k : Nat} {c_s10 : Nat} {q0d : Option Addr} {q0l : Nat} {c_s21 : Nat} {s10 : List T_api_Gate} {s21 : List T_api_Gate} {r : Bool} (hF : P_slices_EqualFunc_api_Gate_api_Gate_api_Gate_api_Gate s10 s21 = some r) (q0e : RdS R_api_Gate ρ q0c q0k c_s10 s10) (q0f : RdS R_api_Gate ρ q0d q0l c_s21 s21) (hS : St w0 w (ro ρ :: l)) :
  Calls Tryd.prog 56 #[.slice q0c q0k c_s10, .slice q0d q0l c_s21, .func (.func 53) #[] #[]] w fun e w' => e = .returned (.bool r) ∧ St w0 w' (ro ρ :: l) := by
 have e_ := q0e.n; subst e_
 have e_ := q0f.n; subst e_
 refine enterC Tryd.func56 rfl 32 rfl (by simp) ?_
 refine x_seq <| x_region <| p (yl_assign rfl) <| x_done <|
  x_seq <| x_seq <| x_region <| p (yl_move rfl) <|
  p (yl_len_slice usl_28 rfl) <| p (yl_move rfl) <| p (yl_len_slice usl_28 rfl) <| p (yl_neq rfl rfl) <|
  x_done <|
  x_cond_p ((s10.length : Int) ≠ (s21.length : Int)) rfl (fun hc14 => ?_) (fun hc14 => ?_)
 ·replace hF := it_t hc14 hF
  refine x_seq <| x_region <| p (yl_assign rfl) <| x_done <| ?_
  have e_ := Option.some.inj (show some _ = some _ from hF); subst e_
  exact x_return ⟨_, ⟨_, _, rfl, rfl, rfl⟩, rfl, hS⟩
 ·replace hF := it_f hc14 hF
  refine x_skip <| x_seq <| x_seq <| x_region <|
   p (yl_move rfl) <| p (yl_len_slice usl_28 rfl) <| p (yl_move rfl) <| x_done <| ?_
  replace hF := bs_s hF; obtain ⟨oL4, hLL4, hF⟩ := hF
  refine x_join (fun E w => (Sum.inl (())) = oL4 ∧ St w0 w (ro ρ :: l)) ?_ ?_
  ·refine x_block ?_
   refine x_loop (fun k_ E w => ∃ (q4 : Int), lp (P_slices_EqualFunc_api_Gate_api_Gate_api_Gate_api_Gate_L4 s10 s21) k_ q4 = some oL4 ∧ E 1 = .slice q0d s21.length c_s21 ∧ E 2 = .func (.func 53) #[] #[] ∧ E 15 = .slice q0c s10.length c_s10 ∧ E 16 = .int .i64 (s10.length : Int) ∧ E 17 = .int .i64 q4 ∧ St w0 w (ro ρ :: l)) fuel ⟨0, hLL4, rfl, rfl, rfl, rfl, rfl, hS⟩ ?_
   rintro kL4 E w ⟨q4, hLL4, q0g, q0h, q0a, q0b, q5, hS⟩
   replace hLL4 := lp_s hLL4; obtain ⟨kL4, obL4, rfl, hFL4, hLL4⟩ := hLL4
   refine x_seq <| x_region <| p (yl_lss q5 q0b) <| x_done <|
    x_seq <|
    x_cond_p (q4 < (s10.length : Int)) rfl (fun hc18 => ?_) (fun hc18 => ?_)
   ·replace hFL4 := it_t hc18 hFL4
    replace hFL4 := ck_s hFL4; obtain ⟨q0m, hFL4⟩ := hFL4
    replace hFL4 := lv_s hFL4; obtain ⟨q2, q0q, hFL4⟩ := hFL4
    have q_ := q0e.get q0m; obtain ⟨q0y, q0n, q0r⟩ := q_
    rw [← q0q] at q0n
    obtain ⟨q6, q0w, q7, rfl, q0i⟩ := q0n
    have e_ := q0i.n; subst e_
    refine x_skip <| x_seq <| x_block <| x_seq <|
     x_region <| p (yl_move q5) <| p (yix_f sl_28 q0a q5 q0e q0m) <| pa (v := .agg #[.int .i64 q2.Cell, .int .u64 q2.Table, .slice q6 q2.Ins.length q7]) (at_loadAgg agg_38 rfl rfl (Elt.every q0r hS)) <| ?_
    refine o_alloc zero_38 hS (fun b8 w' hS => ?_)
    refine p (yl_assign rfl) <| ?_
    refine o_storeAgg (news := [.int .i64 q2.Cell, .int .u64 q2.Table, .slice q6 q2.Ins.length q7]) agg_38 rfl rfl rfl (by simp [over_length]) hS (fun w' hS => ?_)
    replace hFL4 := ck_s hFL4; obtain ⟨q0o, hFL4⟩ := hFL4
    replace hFL4 := lv_s hFL4; obtain ⟨q3, q0s, hFL4⟩ := hFL4
    have q_ := q0f.get q0o; obtain ⟨q0z, q0p, q0t⟩ := q_
    rw [← q0s] at q0p
    obtain ⟨q8, q0x, q9, rfl, q0j⟩ := q0p
    have e_ := q0j.n; subst e_
    refine x_done <| x_seq <| x_region <| p (yl_move q0g) <|
     p (yl_move rfl) <| p (yix_f sl_28 rfl rfl q0f q0o) <| pa (v := .agg #[.int .i64 q3.Cell, .int .u64 q3.Table, .slice q8 q3.Ins.length q9]) (at_loadAgg agg_38 rfl rfl (Elt.every q0t (hS.pull 1))) <| ?_
    refine o_alloc zero_38 hS (fun b9 w' hS => ?_)
    refine o_storeAgg (news := [.int .i64 q3.Cell, .int .u64 q3.Table, .slice q8 q3.Ins.length q9]) agg_38 rfl rfl rfl (by simp [over_length]) hS (fun w' hS => ?_)
    replace hFL4 := bd_s hFL4; obtain ⟨q0v, q0u, hFL4⟩ := hFL4
    refine x_done <| x_seq <| x_region <| p (yl_move q0h) <|
     pa (v := .agg #[.int .i64 q2.Cell, .int .u64 q2.Table, .slice q6 q2.Ins.length q7]) (ld_sub agg_38 rfl rfl rfl (hS.pull 1)) <| pa (v := .agg #[.int .i64 q3.Cell, .int .u64 q3.Table, .slice q8 q3.Ins.length q9]) (ld_sub agg_38 rfl rfl rfl hS) <| ?_
    have hcall := c_netlist_Same_1 q0u q0i q0j (hS.pull 2)
    refine o_ccv rfl call_53 (args2 rfl rfl) ((Calls.mono hcall (fun e w'' h => And.intro h.1 ((h.2.pull 2).pull 2)))) ?_
    rintro e w' ⟨rfl, hS⟩
    refine ⟨_, rfl, ?_⟩
    refine p (yl_not rfl) <| x_done <|
     x_cond (t := !q0v) rfl (fun hc30 => ?_) (fun hc30 => ?_)
    ·replace hFL4 := it_t hc30 hFL4
     refine x_seq <| x_region <| p (yl_assign rfl) <| x_done <| ?_
     have e_ := Option.some.inj (show some _ = some _ from hFL4); subst e_
     have e_ := (show _ = oL4 from hLL4); subst e_
     have e_ := Option.some.inj (show some _ = some _ from hF); subst e_
     exact x_return ⟨_, ⟨_, _, rfl, rfl, rfl⟩, rfl, hS.drop.drop⟩
    ·replace hFL4 := it_bf hc30 hFL4
     replace hFL4 := ar_s hFL4; obtain ⟨x31, hx31, hFL4⟩ := hFL4
     refine x_skip <| x_blk <| x_region <| p (yadd q5 rfl hx31) <|
      p (yl_move rfl) <| x_done <| ?_
     have e_ := Option.some.inj (show some _ = some _ from hFL4); subst e_
     exact x_inv ⟨kL4, Nat.lt_succ_self _, x31, hLL4, q0g, q0h, q0a, q0b, rfl, hS.drop.drop⟩
   ·replace hFL4 := it_f hc18 hFL4
    refine x_exitTo _ rfl <| ?_
    have e_ := Option.some.inj (show some _ = some _ from hFL4); subst e_
    exact x_inv ⟨hLL4, hS⟩
  rintro E w ⟨rfl, hS⟩
  refine x_seq <| x_region <| p (yl_assign rfl) <| x_done <| ?_
  have e_ := Option.some.inj (show some _ = some _ from hF); subst e_
  exact x_return ⟨_, ⟨_, _, rfl, rfl, rfl⟩, rfl, hS⟩
attribute [irreducible] P_slices_EqualFunc_api_Gate_api_Gate_api_Gate_api_Gate

def P_netlist_Same (a0 : T_api_Netlist) (b1 : T_api_Netlist) : Option Bool :=
 bd (P_slices_Equal_string_string a0.In b1.In) fun q2 =>
 bd (gd (q2) (P_slices_Equal_string_string a0.Out b1.Out)) fun q3 =>
 lv (q2 && q3) fun x17 =>
 bd (gd (x17) (P_slices_Equal_api_Flop_api_Flop a0.Flops b1.Flops)) fun q4 =>
 lv (x17 && q4) fun x24 =>
 bd (gd (x24) (P_slices_EqualFunc_api_Gate_api_Gate_api_Gate_api_Gate a0.Gates b1.Gates)) fun q5 =>
 lv (x24 && q5) fun x32 =>
 bd (gd (x32) (P_slices_Equal_int_int a0.Outs b1.Outs)) fun q6 =>
 lv (x32 && q6) fun x39 =>
 some x39
set_option maxHeartbeats 4000000 in
set_option maxRecDepth 100000 in
theorem c_netlist_Same {w0 w : World} {l : List Assn} {ρ : Heap} {q0b : Option Addr} {q0d : Nat} {c_a0_0 : Nat} {q2 : Option Addr} {q0e : Nat} {c_a0_1 : Nat} {q3 : Option Addr} {q0f : Nat} {c_a0_2 : Nat} {q4 : Option Addr} {q0g : Nat} {c_a0_3 : Nat} {q5 : Option Addr} {q0h : Nat} {c_a0_4 : Nat} {q0c : Option Addr} {q0i : Nat} {c_b1_0 : Nat} {q6 : Option Addr} {q0j : Nat} {c_b1_1 : Nat} {q7 : Option Addr} {q0k : Nat} {c_b1_2 : Nat} {q8 : Option Addr} {q0l : Nat} {c_b1_3 : Nat} {q9 : Option Addr} {q0m : Nat} {c_b1_4 : Nat} {a0 : T_api_Netlist} {b1 : T_api_Netlist} {r : Bool} (hF : P_netlist_Same a0 b1 = some r) (q0n : RdS RpS ρ q0b q0d c_a0_0 a0.In) (q0o : RdS RpS ρ q2 q0e c_a0_1 a0.Out) (q0p : RdS R_api_Flop ρ q3 q0f c_a0_2 a0.Flops) (q0q : RdS R_api_Gate ρ q4 q0g c_a0_3 a0.Gates) (q0r : RdS (RpI .i64) ρ q5 q0h c_a0_4 a0.Outs) (q0s : RdS RpS ρ q0c q0i c_b1_0 b1.In) (q0t : RdS RpS ρ q6 q0j c_b1_1 b1.Out) (q0u : RdS R_api_Flop ρ q7 q0k c_b1_2 b1.Flops) (q0v : RdS R_api_Gate ρ q8 q0l c_b1_3 b1.Gates) (q0w : RdS (RpI .i64) ρ q9 q0m c_b1_4 b1.Outs) (hS : St w0 w (ro ρ :: l)) :
  Calls Tryd.prog 16 #[.agg #[.slice q0b q0d c_a0_0, .slice q2 q0e c_a0_1, .slice q3 q0f c_a0_2, .slice q4 q0g c_a0_3, .slice q5 q0h c_a0_4], .agg #[.slice q0c q0i c_b1_0, .slice q6 q0j c_b1_1, .slice q7 q0k c_b1_2, .slice q8 q0l c_b1_3, .slice q9 q0m c_b1_4]] w fun e w' => e = .returned (.bool r) ∧ St w0 w' (ro ρ :: l) := by
 have e_ := q0n.n; subst e_
 have e_ := q0o.n; subst e_
 have e_ := q0p.n; subst e_
 have e_ := q0q.n; subst e_
 have e_ := q0r.n; subst e_
 have e_ := q0s.n; subst e_
 have e_ := q0t.n; subst e_
 have e_ := q0u.n; subst e_
 have e_ := q0v.n; subst e_
 have e_ := q0w.n; subst e_
 refine enterC Tryd.func16 rfl 40 rfl (by simp) ?_
 refine x_seq <| x_region <| ?_
 refine o_box (cs := [.slice q0b a0.In.length c_a0_0, .slice q2 a0.Out.length c_a0_1, .slice q3 a0.Flops.length c_a0_2, .slice q4 a0.Gates.length c_a0_3, .slice q5 a0.Outs.length c_a0_4]) rfl rfl hS (fun b2 w' hS => ?_)
 refine o_box (cs := [.slice q0c b1.In.length c_b1_0, .slice q6 b1.Out.length c_b1_1, .slice q7 b1.Flops.length c_b1_2, .slice q8 b1.Gates.length c_b1_3, .slice q9 b1.Outs.length c_b1_4]) rfl rfl hS (fun b3 w' hS => ?_)
 replace hF := bd_s hF; obtain ⟨q0a, q11, hF⟩ := hF
 refine p (yl_assign rfl) <| x_done <| x_seq <| x_region <|
  p (yl_assign rfl) <| x_done <| x_seq <| x_region <|
  p (yl_field0 fld_30_0 rfl) <| pa (at_load one_26 rfl ((hS.pull 1).cell rfl)) <| p (yl_field0 fld_30_0 rfl) <| pa (at_load one_26 rfl (hS.cell rfl)) <| ?_
 have hcall := c_slices_Equal_string_string q11 q0n q0s (hS.pull 2)
 refine o_cc call_54 (args2 rfl rfl) ((Calls.mono hcall (fun e w'' h => And.intro h.1 ((h.2.pull 2).pull 2)))) ?_
 rintro e w' ⟨rfl, hS⟩
 refine ⟨_, rfl, ?_⟩
 replace hF := bd_s hF; obtain ⟨q12, q0x, hF⟩ := hF
 refine p (v := .bool q0a) (yl_move rfl) <| pg (v := .pointer (some ⟨b2, 1, none⟩)) 11 (c := q0a) (says_t _) (fun hq => Yl.at (yl_field0 fld_30_1 rfl)) <| pg (v := .slice q2 a0.Out.length c_a0_1) 11 (c := q0a) (says_t _) (fun hq => at_load one_26 (cv hq) ((hS.pull 1).cell rfl)) <| pg (v := .pointer (some ⟨b3, 1, none⟩)) 11 (c := q0a) (says_t _) (fun hq => Yl.at (yl_field0 fld_30_1 rfl)) <|
  pg (v := .slice q6 b1.Out.length c_b1_1) 11 (c := q0a) (says_t _) (fun hq => at_load one_26 (cv hq) (hS.cell rfl)) <|
  pccg (v := .bool q12) 11 (c := q0a) (says_t _) call_54 (fun hq => (args2 (cv hq) (cv hq))) hS (fun hq => by
   have hcall := c_slices_Equal_string_string (gd_t q0x hq) q0o q0t (hS.pull 2)
   exact (Calls.mono hcall (fun e w'' h => And.intro h.1 ((h.2.pull 2).pull 2)))) (fun w' hS => ?_)
 replace hF := lv_s hF; obtain ⟨x17, hx17, hF⟩ := hF
 replace hF := bd_s hF; obtain ⟨q13, q0y, hF⟩ := hF
 refine p (yand' rfl (fun hc => (cv hc)) rfl hx17) <| p (yl_move rfl) <| pg (v := .pointer (some ⟨b2, 2, none⟩)) 18 (c := x17) (says_t _) (fun hq => Yl.at (yl_field0 fld_30_2 rfl)) <| pg (v := .slice q3 a0.Flops.length c_a0_2) 18 (c := x17) (says_t _) (fun hq => at_load one_27 (cv hq) ((hS.pull 1).cell rfl)) <|
  pg (v := .pointer (some ⟨b3, 2, none⟩)) 18 (c := x17) (says_t _) (fun hq => Yl.at (yl_field0 fld_30_2 rfl)) <| pg (v := .slice q7 b1.Flops.length c_b1_2) 18 (c := x17) (says_t _) (fun hq => at_load one_27 (cv hq) (hS.cell rfl)) <|
  pccg (v := .bool q13) 18 (c := x17) (says_t _) call_55 (fun hq => (args2 (cv hq) (cv hq))) hS (fun hq => by
   have hcall := c_slices_Equal_api_Flop_api_Flop (gd_t q0y hq) q0p q0u (hS.pull 2)
   exact (Calls.mono hcall (fun e w'' h => And.intro h.1 ((h.2.pull 2).pull 2)))) (fun w' hS => ?_)
 replace hF := lv_s hF; obtain ⟨x24, hx24, hF⟩ := hF
 replace hF := bd_s hF; obtain ⟨q14, q0z, hF⟩ := hF
 refine p (yand' rfl (fun hc => (cv hc)) rfl hx24) <| p (yl_move rfl) <| pg (v := .pointer (some ⟨b2, 3, none⟩)) 25 (c := x24) (says_t _) (fun hq => Yl.at (yl_field0 fld_30_3 rfl)) <| pg (v := .slice q4 a0.Gates.length c_a0_3) 25 (c := x24) (says_t _) (fun hq => at_load one_28 (cv hq) ((hS.pull 1).cell rfl)) <|
  pg (v := .pointer (some ⟨b3, 3, none⟩)) 25 (c := x24) (says_t _) (fun hq => Yl.at (yl_field0 fld_30_3 rfl)) <| pg (v := .slice q8 b1.Gates.length c_b1_3) 25 (c := x24) (says_t _) (fun hq => at_load one_28 (cv hq) (hS.cell rfl)) <| pg (v := .func (.func 53) #[] #[]) 25 (c := x24) (says_t _) (fun hq => Yl.at (yl_move rfl)) <|
  pccg (v := .bool q14) 25 (c := x24) (says_t _) call_56 (fun hq => (args3 (cv hq) (cv hq) (cv hq))) hS (fun hq => by
   have hcall := c_slices_EqualFunc_api_Gate_api_Gate_api_Gate_api_Gate (gd_t q0z hq) q0q q0v (hS.pull 2)
   exact (Calls.mono hcall (fun e w'' h => And.intro h.1 ((h.2.pull 2).pull 2)))) (fun w' hS => ?_)
 replace hF := lv_s hF; obtain ⟨x32, hx32, hF⟩ := hF
 replace hF := bd_s hF; obtain ⟨q15, q10, hF⟩ := hF
 refine p (yand' rfl (fun hc => (cv hc)) rfl hx32) <| p (yl_move rfl) <| pg (v := .pointer (some ⟨b2, 4, none⟩)) 33 (c := x32) (says_t _) (fun hq => Yl.at (yl_field0 fld_30_4 rfl)) <| pg (v := .slice q5 a0.Outs.length c_a0_4) 33 (c := x32) (says_t _) (fun hq => at_load one_22 (cv hq) ((hS.pull 1).cell rfl)) <|
  pg (v := .pointer (some ⟨b3, 4, none⟩)) 33 (c := x32) (says_t _) (fun hq => Yl.at (yl_field0 fld_30_4 rfl)) <| pg (v := .slice q9 b1.Outs.length c_b1_4) 33 (c := x32) (says_t _) (fun hq => at_load one_22 (cv hq) (hS.cell rfl)) <|
  pccg (v := .bool q15) 33 (c := x32) (says_t _) call_52 (fun hq => (args2 (cv hq) (cv hq))) hS (fun hq => by
   have hcall := c_slices_Equal_int_int (gd_t q10 hq) q0r q0w (hS.pull 2)
   exact (Calls.mono hcall (fun e w'' h => And.intro h.1 ((h.2.pull 2).pull 2)))) (fun w' hS => ?_)
 replace hF := lv_s hF; obtain ⟨x39, hx39, hF⟩ := hF
 refine p (yand' rfl (fun hc => (cv hc)) rfl hx39) <| p (yl_assign rfl) <| x_done <| ?_
 have e_ := Option.some.inj (show some _ = some _ from hF); subst e_
 exact x_return ⟨_, ⟨_, _, rfl, rfl, rfl⟩, rfl, hS.drop.drop⟩
attribute [irreducible] P_netlist_Same

def P_maskkeep4_EcoKeeps (l_0 : List Int) : Option Bool :=
 bd (P_maskkeep4_small (T_maskmake_Stream.mk l_0 0)) fun q2 =>
 bd (P_netlist_Nets q2.1) fun q6 =>
 bd (P_maskmake_Stream_Next (T_maskmake_Stream.mk l_0 q2.2.2) q6) fun q7 =>
 bd (P_maskmake_Stream_Next (T_maskmake_Stream.mk l_0 q7.2) (q2.1.Outs.length : Int)) fun q4 =>
 bd (P_eco_Apply q2.1 q2.2.1 ([(T_eco_Edit.mk 0 (T_api_Gate.mk 1 1 ([q7.1] : List Int)) 0 0 0), (T_eco_Edit.mk 3 (T_api_Gate.mk 0 0 []) q4.1 0 q6)] : List T_eco_Edit)) fun q5 =>
 bd (P_maskkeep4_edits) fun q9 =>
 lv ((!q9) || (decide (q5.2.2 ≠ 0))) fun x52 =>
 lv (x52 || (decide (q5.2.1 ≠ 0))) fun x56 =>
 ck ((!x56) = true → I64 ((q2.1.Gates.length : Int) + 1)) <|
 lv ((q2.1.Gates.length : Int) + 1) fun x64 =>
 lv (x56 || (decide ((q5.1.Gates.length : Int) ≠ x64))) fun x66 =>
 if x66 = true then
  some false
 else
  ck (inb q4.1 q2.1.Outs.length) <|
  lv (gt q2.1.Outs q4.1) fun x75 =>
  bd (P_eco_Apply q5.1 q2.2.1 ([(T_eco_Edit.mk 3 (T_api_Gate.mk 0 0 []) q4.1 0 x75)] : List T_eco_Edit)) fun q3 =>
  if q3.2.2 ≠ 0 then
   some false
  else
   ck (0 ≤ (0 : Int) ∧ (0 : Int) ≤ (q2.1.Gates.length : Int) ∧ (q2.1.Gates.length : Int) ≤ q3.1.Gates.length) <|
   lv (sub q3.1.Gates 0 (q2.1.Gates.length : Int)) fun x89 =>
   bd (P_netlist_Same (T_api_Netlist.mk q3.1.In q3.1.Out q3.1.Flops x89 q3.1.Outs) q2.1) fun q8 =>
   some q8
set_option maxHeartbeats 4000000 in
set_option maxRecDepth 100000 in
theorem c_maskkeep4_EcoKeeps {w0 w : World} {l : List Assn} {ρ : Heap} {q1v : Option Addr} {q2u : Nat} {c_l_0 : Nat} {l_0 : List Int} {r : Bool} (hF : P_maskkeep4_EcoKeeps l_0 = some r) (q2l : RdS (RpI .i64) ρ q1v q2u c_l_0 l_0) (hS : St w0 w (ro ρ :: l)) :
  Calls Tryd.prog 3 #[.slice q1v q2u c_l_0] w fun e w' => e = .returned (.bool r) ∧ St w0 w' (ro ρ :: l) := by
 have e_ := q2l.n; subst e_
 refine enterC Tryd.func3 rfl 94 rfl (by simp) ?_
 refine x_seq <| x_region <| p (yl_assign rfl) <| x_done <|
  x_seq <| x_region <| p (yl_move rfl) <| p (v := .agg #[.slice q1v l_0.length c_l_0, .int .i64 0]) (yl_build bld_25 bldf_25 (parts_eq (pt (va := .slice q1v l_0.length c_l_0) rfl pt0)) (by kernel_rfl)) <| ?_
 refine o_box (cs := [.slice q1v l_0.length c_l_0, .int .i64 0]) rfl rfl hS (fun b16 w' hS => ?_)
 replace hF := bd_s hF; obtain ⟨q0a, q3v, hF⟩ := hF
 refine p (yl_assign rfl) <| x_done <| x_seq <| x_region <|
  p (yl_move rfl) <| ?_
 have hcall := c_maskkeep4_small q3v q2l ((hS.pull 1).pull 1)
 refine o_cc call_11 (args1 rfl) hcall ?_
 rintro e w' ⟨q3k, q0g, q38, c_y0_ret_0_2_1, q2v, q0h, q39, c_y0_ret_1_2_1, q2w, q0i, q3a, c_y0_ret_2_2_1, q2x, q0d, q3b, c_y0_ret_3_2_1, q2y, q5, q3c, c_y0_ret_4_2_1, q2z, q1b, q3l, c_y1_ret_2_1, rfl, q1u, q14, q15, q16, q17, q18, q1c, hS⟩
 refine ⟨_, rfl, ?_⟩
 have e_ := St.vec_n hS q14; subst e_
 have e_ := St.vec_n (hS.pull 1) q15; subst e_
 have e_ := St.vec_n (hS.pull 2) q16; subst e_
 have e_ := St.vec_n (hS.pull 3) q17; subst e_
 have e_ := St.vec_n (hS.pull 4) q18; subst e_
 have e_ := q1c.n; subst e_
 refine p (yl_move rfl) <| p (yl_extract rfl rfl) <| p (yl_extract rfl rfl) <| ?_
 refine o_alloc zero_30 hS (fun b4 w' hS => ?_)
 refine o_storeAgg (news := [.slice q0g q0a.1.In.length c_y0_ret_0_2_1, .slice q0h q0a.1.Out.length c_y0_ret_1_2_1, .slice q0i q0a.1.Flops.length c_y0_ret_2_2_1, .slice q0d q0a.1.Gates.length c_y0_ret_3_2_1, .slice q5 q0a.1.Outs.length c_y0_ret_4_2_1]) agg_30 rfl rfl rfl (by simp [over_length]) hS (fun w' hS => ?_)
 replace hF := bd_s hF; obtain ⟨q1d, q3w, hF⟩ := hF
 refine p (yl_assign rfl) <| x_done <| x_seq <| x_region <|
  pa (v := .agg #[.slice q0g q0a.1.In.length c_y0_ret_0_2_1, .slice q0h q0a.1.Out.length c_y0_ret_1_2_1, .slice q0i q0a.1.Flops.length c_y0_ret_2_2_1, .slice q0d q0a.1.Gates.length c_y0_ret_3_2_1, .slice q5 q0a.1.Outs.length c_y0_ret_4_2_1]) (ld_sub agg_30 rfl rfl rfl hS) <| ?_
 have q_ := St.lend ((hS.pull 7).pull 2) q14; obtain ⟨ρl0, hll0, hlf0, hS0, back0⟩ := q_
 have q_ := St.lend (hS0.pull 2) (q15.le hll0); obtain ⟨ρl1, hll1, hlf1, hS1, back1⟩ := q_
 have q_ := St.lend (hS1.pull 2) (q16.le (hll0.trans hll1)); obtain ⟨ρl2, hll2, hlf2, hS2, back2⟩ := q_
 have q_ := St.lend (hS2.pull 2) (q17.le ((hll0.trans hll1).trans hll2)); obtain ⟨ρl3, hll3, hlf3, hS3, back3⟩ := q_
 have q_ := St.lend (hS3.pull 2) (q18.le (((hll0.trans hll1).trans hll2).trans hll3)); obtain ⟨ρl4, hll4, hlf4, hS4, back4⟩ := q_
 have hcall := c_netlist_Nets q3w (hlf0.le (((hll1.trans hll2).trans hll3).trans hll4)) (hlf1.le ((hll2.trans hll3).trans hll4)) (hlf2.le (hll3.trans hll4)) (hlf3.le hll4) hlf4 hS4
 refine o_cc call_12 (args1 rfl) ((Calls.mono hcall (fun e w'' h => And.intro h.1 (((((((((back0 ((back1 ((back2 ((back3 ((back4 h.2).pull 1)).pull 1)).pull 1)).pull 1)).pull 1).pull 7).pull 6).pull 6).pull 6).pull 6).pull 6).pull 7)))) ?_
 rintro e w' ⟨rfl, hS⟩
 refine ⟨_, rfl, ?_⟩
 replace hF := bd_s hF; obtain ⟨q1z, q3x, hF⟩ := hF
 refine p (v := .int .i64 q1d) (yl_assign rfl) <| x_done <| x_seq <| x_region <|
  p (yl_move rfl) <| p (v := .int .i64 q1d) (yl_move rfl) <| ?_
 have hcall := c_maskmake_Stream_Next q3x (q2l.le q1u) ((hS.pull 7).pull 7)
 refine o_cc call_13 (args2 rfl rfl) hcall ?_
 rintro e w' ⟨rfl, hS⟩
 refine ⟨_, rfl, ?_⟩
 refine o_buildSlice (vs := [.int .i64 q1z.1]) (cs := [.int .i64 q1z.1]) sl_22 zero_3 (parts_eq (pt (va := .int .i64 q1z.1) rfl pt0)) rfl (by intro v hv; simp only [List.mem_cons, List.not_mem_nil, or_false] at hv; first | (subst hv; rfl) | (rcases hv with rfl <;> rfl)) (by decide) rfl hS (fun b27 w' hS => ?_)
 refine p (v := .agg #[.int .i64 1, .int .u64 1, .slice (some ⟨b27, 0, none⟩) 1 1]) (yl_build bld_38 bldf_38 (parts_eq (pt (va := .int .i64 1) rfl (pt (va := .int .u64 1) rfl (pt (va := .slice (some ⟨b27, 0, none⟩) 1 1) rfl pt0)))) (by kernel_rfl)) <| ?_
 refine o_alloc zero_38 hS (fun b7 w' hS => ?_)
 refine o_storeAgg (news := [.int .i64 1, .int .u64 1, .slice (some ⟨b27, 0, none⟩) 1 1]) agg_38 rfl rfl rfl (by simp [over_length]) hS (fun w' hS => ?_)
 replace hF := bd_s hF; obtain ⟨q0c, q3y, hF⟩ := hF
 refine x_done <| x_seq <| x_region <| p (yl_move rfl) <|
  p (yl_field0 fld_30_4 rfl) <| pa (at_load one_22 rfl ((hS.pull 4).cell rfl)) <| p (yl_len_slice usl_22 rfl) <| ?_
 have hcall := c_maskmake_Stream_Next q3y (q2l.le q1u) ((hS.pull 3).pull 3)
 refine o_cc call_13 (args2 rfl rfl) hcall ?_
 rintro e w' ⟨rfl, hS⟩
 refine ⟨_, rfl, ?_⟩
 refine p (yl_assign rfl) <| x_done <| x_seq <| x_region <|
  pa (v := .agg #[.slice q0g q0a.1.In.length c_y0_ret_0_2_1, .slice q0h q0a.1.Out.length c_y0_ret_1_2_1, .slice q0i q0a.1.Flops.length c_y0_ret_2_2_1, .slice q0d q0a.1.Gates.length c_y0_ret_3_2_1, .slice q5 q0a.1.Outs.length c_y0_ret_4_2_1]) (ld_sub agg_30 rfl rfl rfl (hS.pull 4)) <| p (yl_move rfl) <| pa (v := .agg #[.int .i64 1, .int .u64 1, .slice (some ⟨b27, 0, none⟩) 1 1]) (ld_sub agg_38 rfl rfl rfl (hS.pull 2)) <| p (v := .agg #[.int .i64 0, .int .i64 1, .int .u64 1, .slice (some ⟨b27, 0, none⟩) 1 1, .int .i64 0, .int .i64 0, .int .i64 0]) (yl_build bld_43 bldf_43 (parts_eq (pt (va := .int .i64 0) rfl (pt (va := .agg #[.int .i64 1, .int .u64 1, .slice (some ⟨b27, 0, none⟩) 1 1]) rfl pt0))) (by kernel_rfl)) <|
  p (yl_move rfl) <| p (v := .int .i64 q1d) (yl_move rfl) <| p (v := .agg #[.int .i64 3, .int .i64 0, .int .u64 0, .slice none 0 0, .int .i64 q0c.1, .int .i64 0, .int .i64 q1d]) (yl_build bld_43 bldf_43 (parts_eq (pt (va := .int .i64 3) rfl (pt (va := .int .i64 q0c.1) rfl (pt (va := .int .i64 q1d) rfl pt0)))) (by kernel_rfl)) <| ?_
 have q3z : RepL (RpI .i64) q3k ([q1z.1] : List Int) [.int .i64 q1z.1] := (RepL.cons (cs := [.int .i64 q1z.1]) rfl RepL.nil)
 replace hS := St.vec_of (n := 1) (sz := (RpI .i64).sz) (hS.pull 3) rfl (by decide)
 have q_ := St.vec_fz ((hS.pull 2).pull 1) q3z; obtain ⟨q48, q0q, q3m, hS⟩ := q_
 refine o_buildSlice (vs := [.agg #[.int .i64 0, .int .i64 1, .int .u64 1, .slice (some ⟨b27, 0, none⟩) 1 1, .int .i64 0, .int .i64 0, .int .i64 0], .agg #[.int .i64 3, .int .i64 0, .int .u64 0, .slice none 0 0, .int .i64 q0c.1, .int .i64 0, .int .i64 q1d]]) (cs := [.int .i64 0, .int .i64 1, .int .u64 1, .slice (some ⟨b27, 0, none⟩) 1 1, .int .i64 0, .int .i64 0, .int .i64 0, .int .i64 3, .int .i64 0, .int .u64 0, .slice none 0 0, .int .i64 q0c.1, .int .i64 0, .int .i64 q1d]) sl_44 zero_43 (parts_eq (pt (va := .agg #[.int .i64 0, .int .i64 1, .int .u64 1, .slice (some ⟨b27, 0, none⟩) 1 1, .int .i64 0, .int .i64 0, .int .i64 0]) rfl (pt (va := .agg #[.int .i64 3, .int .i64 0, .int .u64 0, .slice none 0 0, .int .i64 q0c.1, .int .i64 0, .int .i64 q1d]) rfl pt0))) rfl (by intro v hv; simp only [List.mem_cons, List.not_mem_nil, or_false] at hv; first | (subst hv; rfl) | (rcases hv with rfl | rfl <;> rfl)) (by decide) rfl hS (fun b42 w' hS => ?_)
 have q_ := St.vec_fz ((hS.pull 1).pull 5) (q14.le q0q); obtain ⟨q4g, q0t, q30, hS⟩ := q_
 have q_ := St.vec_fz (hS.pull 5) (q15.le (q0q.trans q0t)); obtain ⟨q49, q0n, q2q, hS⟩ := q_
 have q_ := St.vec_fz (hS.pull 5) (q16.le ((q0q.trans q0t).trans q0n)); obtain ⟨q4a, q0l, q2r, hS⟩ := q_
 have q_ := St.vec_fz (hS.pull 5) (q17.le (((q0q.trans q0t).trans q0n).trans q0l)); obtain ⟨q4b, q0j, q2s, hS⟩ := q_
 have q_ := St.vec_fz (hS.pull 5) (q18.le ((((q0q.trans q0t).trans q0n).trans q0l).trans q0j)); obtain ⟨q3n, q0f, q20, hS⟩ := q_
 have q3o : RepL R_eco_Edit q3n ([(T_eco_Edit.mk 0 (T_api_Gate.mk 1 1 ([q1z.1] : List Int)) 0 0 0), (T_eco_Edit.mk 3 (T_api_Gate.mk 0 0 []) q0c.1 0 q1d)] : List T_eco_Edit) [.int .i64 0, .int .i64 1, .int .u64 1, .slice (some ⟨b27, 0, none⟩) 1 1, .int .i64 0, .int .i64 0, .int .i64 0, .int .i64 3, .int .i64 0, .int .u64 0, .slice none 0 0, .int .i64 q0c.1, .int .i64 0, .int .i64 q1d] := (RepL.cons (cs := [.int .i64 0, .int .i64 1, .int .u64 1, .slice (some ⟨b27, 0, none⟩) 1 1, .int .i64 0, .int .i64 0, .int .i64 0]) ⟨_, _, _, rfl, (q3m.le ((((q0t.trans q0n).trans q0l).trans q0j).trans q0f))⟩ (RepL.cons (cs := [.int .i64 3, .int .i64 0, .int .u64 0, .slice none 0 0, .int .i64 q0c.1, .int .i64 0, .int .i64 q1d]) ⟨_, _, _, rfl, (RdS.nil (A := none) (c := 0))⟩ RepL.nil))
 replace hS := St.vec_of (n := 2) (sz := R_eco_Edit.sz) (hS.pull 1) rfl (by decide)
 have q_ := St.vec_fz ((hS.pull 1).pull 1) q3o; obtain ⟨q4c, q0b, q3p, hS⟩ := q_
 replace hF := bd_s hF; obtain ⟨q3, q40, hF⟩ := hF
 have hcall := c_eco_Apply q40 (q30.le ((((q0n.trans q0l).trans q0j).trans q0f).trans q0b)) (q2q.le (((q0l.trans q0j).trans q0f).trans q0b)) (q2r.le ((q0j.trans q0f).trans q0b)) (q2s.le (q0f.trans q0b)) (q20.le q0b) (q1c.le ((((((q0q.trans q0t).trans q0n).trans q0l).trans q0j).trans q0f).trans q0b)) q3p hS
 refine o_cc call_14 (args3 rfl rfl rfl) hcall ?_
 rintro e w' ⟨q10, q6, q3d, c_y0_ret_0_6_8, q1j, q7, q3e, c_y0_ret_1_6_8, q1k, q8, q3f, c_y0_ret_2_6_8, q1l, q4, q3g, c_y0_ret_3_6_8, q1m, q9, q3h, c_y0_ret_4_6_8, q1n, rfl, q11, q1o, q1p, q1q, q1r, q1s, hS⟩
 refine ⟨_, rfl, ?_⟩
 have e_ := St.vec_n hS q1o; subst e_
 have e_ := St.vec_n (hS.pull 1) q1p; subst e_
 have e_ := St.vec_n (hS.pull 2) q1q; subst e_
 have e_ := St.vec_n (hS.pull 3) q1r; subst e_
 have e_ := St.vec_n (hS.pull 4) q1s; subst e_
 refine p (yl_move rfl) <| p (yl_extract rfl rfl) <| p (yl_extract rfl rfl) <| p (yl_extract rfl rfl) <| ?_
 refine o_alloc zero_30 hS (fun b9 w' hS => ?_)
 refine o_storeAgg (news := [.slice q6 q3.1.In.length c_y0_ret_0_6_8, .slice q7 q3.1.Out.length c_y0_ret_1_6_8, .slice q8 q3.1.Flops.length c_y0_ret_2_6_8, .slice q4 q3.1.Gates.length c_y0_ret_3_6_8, .slice q9 q3.1.Outs.length c_y0_ret_4_6_8]) agg_30 rfl rfl rfl (by simp [over_length]) hS (fun w' hS => ?_)
 replace hF := bd_s hF; obtain ⟨q3q, q41, hF⟩ := hF
 refine p (yl_assign rfl) <| p (yl_assign rfl) <| x_done <| x_seq <|
  x_seq <| x_region <| ?_
 have hcall := c_maskkeep4_edits q41  (hS.pull 6)
 refine o_cc call_15 args0 ((Calls.mono hcall (fun e w'' h => And.intro h.1 ((((((((((h.2.pull 9).pull 9).pull 9).pull 3).pull 9).pull 9).pull 9).pull 9).pull 9).pull 9)))) ?_
 rintro e w' ⟨rfl, hS⟩
 refine ⟨_, rfl, ?_⟩
 replace hF := lv_s hF; obtain ⟨x52, hx52, hF⟩ := hF
 replace hF := lv_s hF; obtain ⟨x56, hx56, hF⟩ := hF
 replace hF := ck_s hF; obtain ⟨q3r, hF⟩ := hF
 replace hF := lv_s hF; obtain ⟨x64, hx64, hF⟩ := hF
 replace hF := lv_s hF; obtain ⟨x66, hx66, hF⟩ := hF
 refine p (yl_not rfl) <| p (yl_move rfl) <| pg (v := .int .i64 q3.2.2) 49 (c := !(!q3q)) (says_f _) (fun hq => Yl.at (yl_move rfl)) <| pg (v := .bool (decide (q3.2.2 ≠ 0))) 49 (c := !(!q3q)) (says_f _) (fun hq => Yl.at (yl_neq (cv hq) rfl)) <|
  p (yor' rfl rfl (fun hc => (cv (t_not hc))) hx52) <| p (yl_move rfl) <| pg (v := .int .i64 q3.2.1) 53 (c := !x52) (says_f _) (fun hq => Yl.at (yl_move rfl)) <| pg (v := .bool (decide (q3.2.1 ≠ 0))) 53 (c := !x52) (says_f _) (fun hq => Yl.at (yl_neq (cv hq) rfl)) <|
  p (yor' rfl rfl (fun hc => (cv (t_not hc))) hx56) <| p (yl_move rfl) <| pg (v := .pointer (some ⟨b9, 3, none⟩)) 57 (c := !x56) (says_f _) (fun hq => Yl.at (yl_field0 fld_30_3 rfl)) <| pg (v := .slice q4 q3.1.Gates.length c_y0_ret_3_6_8) 57 (c := !x56) (says_f _) (fun hq => at_load one_28 (cv hq) (hS.cell rfl)) <|
  pg (v := .int .i64 (q3.1.Gates.length : Int)) 57 (c := !x56) (says_f _) (fun hq => Yl.at (yl_len_slice usl_28 (cv hq))) <| pg (v := .pointer (some ⟨b4, 3, none⟩)) 57 (c := !x56) (says_f _) (fun hq => Yl.at (yl_field0 fld_30_3 rfl)) <| pg (v := .slice q0d q0a.1.Gates.length c_y0_ret_3_2_1) 57 (c := !x56) (says_f _) (fun hq => at_load one_28 (cv hq) ((hS.pull 9).cell rfl)) <| pg (v := .int .i64 (q0a.1.Gates.length : Int)) 57 (c := !x56) (says_f _) (fun hq => Yl.at (yl_len_slice usl_28 (cv hq))) <|
  pg (v := .int .i64 x64) 57 (c := !x56) (says_f _) (fun hq => Yl.at (yadd (cv hq) rfl ⟨hx64, (q3r hq)⟩)) <| pg (v := .bool (decide ((q3.1.Gates.length : Int) ≠ x64))) 57 (c := !x56) (says_f _) (fun hq => Yl.at (yl_neq (cv hq) (cv hq))) <| p (yor' rfl rfl (fun hc => (cv (t_not hc))) hx66) <| x_done <|
  x_cond (t := x66) rfl (fun hc66 => ?_) (fun hc66 => ?_)
 ·replace hF := it_t hc66 hF
  refine x_seq <| x_region <| p (yl_assign rfl) <| x_done <| ?_
  have e_ := Option.some.inj (show some _ = some _ from hF); subst e_
  exact x_return ⟨_, ⟨_, _, rfl, rfl, rfl⟩, rfl, (ro_back0 ((((((((q1u.trans q0q).trans q0t).trans q0n).trans q0l).trans q0j).trans q0f).trans q0b).trans q11) ((((hS.drop.drop.drop.drop.drop.drop.pull 1).drop.pull 1).drop.pull 1).drop))⟩
 ·replace hF := it_bf hc66 hF
  refine x_skip <| x_seq <| ?_
  replace hF := ck_s hF; obtain ⟨q31, hF⟩ := hF
  replace hF := lv_s hF; obtain ⟨x75, hx75, hF⟩ := hF
  replace hF := bd_s hF; obtain ⟨q2, q3s, hF⟩ := hF
  refine x_par (w0 := w0) [⟨[], [], [68], [0], [], []⟩, ⟨[], [], [69], [], [], []⟩, ⟨[], [], [70], [], [], []⟩, ⟨[], [], [71], [], [], []⟩, ⟨[3], [3], [72], [1], [], []⟩, ⟨[], [], [73], [], [], []⟩, ⟨[3, 4, 5], [4, 5], [74], [2], [], []⟩, ⟨[3, 4, 5, 6], [6], [75], [2], [], []⟩, ⟨[2, 3, 4, 5, 6, 7], [2, 7], [76], [], [], []⟩, ⟨[2, 3, 4, 5, 6, 7, 8], [8], [77], [], [], [3]⟩, ⟨[0, 1, 2, 3, 4, 5, 6, 7, 8, 9], [0, 1, 9], [78], [2], [3, 4, 5, 6, 7, 8], [9]⟩, ⟨[0, 1, 2, 3, 4, 5, 6, 7, 8, 9, 10], [10], [67, 78], [], [], []⟩, ⟨[0, 1, 2, 3, 4, 5, 6, 7, 8, 9, 10, 11], [10, 11], [78, 79], [], [], []⟩, ⟨[0, 1, 2, 3, 4, 5, 6, 7, 8, 9, 10, 11], [10, 11], [80], [], [], []⟩, ⟨[0, 1, 2, 3, 4, 5, 6, 7, 8, 9, 10, 11], [10, 11], [81], [], [], []⟩, ⟨[], [], [12], [], [], [10]⟩, ⟨[0, 1, 2, 3, 4, 5, 6, 7, 8, 9, 10, 11, 12, 15], [10, 12, 15], [], [], [10], [11]⟩, ⟨[0, 1, 2, 3, 4, 5, 6, 7, 8, 9, 10, 11, 12, 13, 15, 16], [13], [13], [], [], []⟩, ⟨[0, 1, 2, 3, 4, 5, 6, 7, 8, 9, 10, 11, 12, 13, 14, 15, 16, 17], [14], [11], [], [], []⟩] [⟨none, none, []⟩, ⟨none, none, []⟩, ⟨none, none, []⟩, ⟨(some 9), (some 10), [77]⟩, ⟨none, (some 10), []⟩, ⟨none, (some 10), []⟩, ⟨none, (some 10), []⟩, ⟨none, (some 10), []⟩, ⟨none, (some 10), []⟩, ⟨(some 10), none, [77, 78]⟩, ⟨(some 15), (some 16), [12]⟩, ⟨(some 16), none, [12, 78]⟩] [11, 12, 13, 67, 68, 69, 70, 71, 72, 73, 74, 75, 76, 77, 78, 79, 80, 81] [0, 1, 2, 4, 5, 6, 7, 8] [0, 1, 2, 9, 11] [0, 1, 2, 3, 4, 5, 6, 7, 8, 9, 10, 11, 12, 13, 14, 15, 17, 18] [fun Ep9 => Ep9 68 = .agg #[.slice q6 q3.1.In.length c_y0_ret_0_6_8, .slice q7 q3.1.Out.length c_y0_ret_1_6_8, .slice q8 q3.1.Flops.length c_y0_ret_2_6_8, .slice q4 q3.1.Gates.length c_y0_ret_3_6_8, .slice q9 q3.1.Outs.length c_y0_ret_4_6_8], fun Ep9 => Ep9 69 = .slice q1b q0a.2.1.length c_y1_ret_2_1, fun Ep9 => Ep9 70 = .int .i64 q0c.1, fun Ep9 => Ep9 71 = .pointer (some ⟨b4, 4, none⟩), fun Ep9 => Ep9 72 = .slice q5 q0a.1.Outs.length c_y0_ret_4_2_1, fun Ep9 => Ep9 73 = .int .i64 q0c.1, fun Ep9 => Ep9 74 = .pointer (some ((adr q5).add (q0c.1.toNat * (RpI .i64).sz))), fun Ep9 => Ep9 75 = .int .i64 x75, fun Ep9 => Ep9 76 = .agg #[.int .i64 3, .int .i64 0, .int .u64 0, .slice none 0 0, .int .i64 q0c.1, .int .i64 0, .int .i64 x75], fun Ep9 => Ep9 77 = .slice (some ⟨(blkOf (Ep9 77)), 0, none⟩) 1 1, fun Ep9 => Ep9 78 = .tuple #[.agg #[.slice (adOf (partOf 0 (partOf 0 (Ep9 78)))) q2.1.In.length (capOf (partOf 0 (partOf 0 (Ep9 78)))), .slice (adOf (partOf 1 (partOf 0 (Ep9 78)))) q2.1.Out.length (capOf (partOf 1 (partOf 0 (Ep9 78)))), .slice (adOf (partOf 2 (partOf 0 (Ep9 78)))) q2.1.Flops.length (capOf (partOf 2 (partOf 0 (Ep9 78)))), .slice (adOf (partOf 3 (partOf 0 (Ep9 78)))) q2.1.Gates.length (capOf (partOf 3 (partOf 0 (Ep9 78)))), .slice (adOf (partOf 4 (partOf 0 (Ep9 78)))) q2.1.Outs.length (capOf (partOf 4 (partOf 0 (Ep9 78))))], .int .i64 q2.2.1, .int .i64 q2.2.2], fun Ep9 => Ep9 67 = .tuple #[.agg #[.slice (adOf (partOf 0 (partOf 0 (Ep9 78)))) q2.1.In.length (capOf (partOf 0 (partOf 0 (Ep9 78)))), .slice (adOf (partOf 1 (partOf 0 (Ep9 78)))) q2.1.Out.length (capOf (partOf 1 (partOf 0 (Ep9 78)))), .slice (adOf (partOf 2 (partOf 0 (Ep9 78)))) q2.1.Flops.length (capOf (partOf 2 (partOf 0 (Ep9 78)))), .slice (adOf (partOf 3 (partOf 0 (Ep9 78)))) q2.1.Gates.length (capOf (partOf 3 (partOf 0 (Ep9 78)))), .slice (adOf (partOf 4 (partOf 0 (Ep9 78)))) q2.1.Outs.length (capOf (partOf 4 (partOf 0 (Ep9 78))))], .int .i64 q2.2.1, .int .i64 q2.2.2], fun Ep9 => Ep9 79 = .agg #[.slice (adOf (partOf 0 (partOf 0 (Ep9 78)))) q2.1.In.length (capOf (partOf 0 (partOf 0 (Ep9 78)))), .slice (adOf (partOf 1 (partOf 0 (Ep9 78)))) q2.1.Out.length (capOf (partOf 1 (partOf 0 (Ep9 78)))), .slice (adOf (partOf 2 (partOf 0 (Ep9 78)))) q2.1.Flops.length (capOf (partOf 2 (partOf 0 (Ep9 78)))), .slice (adOf (partOf 3 (partOf 0 (Ep9 78)))) q2.1.Gates.length (capOf (partOf 3 (partOf 0 (Ep9 78)))), .slice (adOf (partOf 4 (partOf 0 (Ep9 78)))) q2.1.Outs.length (capOf (partOf 4 (partOf 0 (Ep9 78))))], fun Ep9 => Ep9 80 = .int .i64 q2.2.1, fun Ep9 => Ep9 81 = .int .i64 q2.2.2, fun Ep9 => Ep9 12 = .pointer (some ⟨(blkOf (Ep9 12)), 0, none⟩), fun Ep9 => True, fun Ep9 => Ep9 13 = .int .i64 q2.2.1, fun Ep9 => Ep9 11 = .int .i64 q2.2.2] [fun Ep9 => cells b9 30 [.slice q6 q3.1.In.length c_y0_ret_0_6_8, .slice q7 q3.1.Out.length c_y0_ret_1_6_8, .slice q8 q3.1.Flops.length c_y0_ret_2_6_8, .slice q4 q3.1.Gates.length c_y0_ret_3_6_8, .slice q9 q3.1.Outs.length c_y0_ret_4_6_8], fun Ep9 => cells b4 30 [.slice q0g q0a.1.In.length c_y0_ret_0_2_1, .slice q0h q0a.1.Out.length c_y0_ret_1_2_1, .slice q0i q0a.1.Flops.length c_y0_ret_2_2_1, .slice q0d q0a.1.Gates.length c_y0_ret_3_2_1, .slice q5 q0a.1.Outs.length c_y0_ret_4_2_1], fun Ep9 => ro q10, fun Ep9 => cells (blkOf (Ep9 77)) 43 [.int .i64 3, .int .i64 0, .int .u64 0, .slice none 0 0, .int .i64 q0c.1, .int .i64 0, .int .i64 x75], fun Ep9 => vec 9 RpS.sz (.slice q6 q3.1.In.length c_y0_ret_0_6_8) q3.1.In.length q1j, fun Ep9 => vec 9 RpS.sz (.slice q7 q3.1.Out.length c_y0_ret_1_6_8) q3.1.Out.length q1k, fun Ep9 => vec 135 R_api_Flop.sz (.slice q8 q3.1.Flops.length c_y0_ret_2_6_8) q3.1.Flops.length q1l, fun Ep9 => vec 38 R_api_Gate.sz (.slice q4 q3.1.Gates.length c_y0_ret_3_6_8) q3.1.Gates.length q1m, fun Ep9 => vec 3 (RpI .i64).sz (.slice q9 q3.1.Outs.length c_y0_ret_4_6_8) q3.1.Outs.length q1n, fun Ep9 => bunA (fun (x : (Heap × List Value × List Value × List Value × List Value × List Value)) => Le q10 x.1 ∧ RdS RpS x.1 q6 q3.1.In.length c_y0_ret_0_6_8 q3.1.In ∧ RdS RpS x.1 q7 q3.1.Out.length c_y0_ret_1_6_8 q3.1.Out ∧ RdS R_api_Flop x.1 q8 q3.1.Flops.length c_y0_ret_2_6_8 q3.1.Flops ∧ RdS R_api_Gate x.1 q4 q3.1.Gates.length c_y0_ret_3_6_8 q3.1.Gates ∧ RdS (RpI .i64) x.1 q9 q3.1.Outs.length c_y0_ret_4_6_8 q3.1.Outs ∧ RdS R_eco_Edit x.1 (some ⟨(blkOf (Ep9 77)), 0, none⟩) 1 1 ([(T_eco_Edit.mk 3 (T_api_Gate.mk 0 0 []) q0c.1 0 x75)] : List T_eco_Edit) ∧ RepL RpS x.1 q2.1.In x.2.1 ∧ RepL RpS x.1 q2.1.Out x.2.2.1 ∧ RepL R_api_Flop x.1 q2.1.Flops x.2.2.2.1 ∧ RepL R_api_Gate x.1 q2.1.Gates x.2.2.2.2.1 ∧ RepL (RpI .i64) x.1 q2.1.Outs x.2.2.2.2.2) (fun (x : (Heap × List Value × List Value × List Value × List Value × List Value)) => [vec 9 RpS.sz (.slice (adOf (partOf 0 (partOf 0 (Ep9 78)))) q2.1.In.length (capOf (partOf 0 (partOf 0 (Ep9 78))))) q2.1.In.length x.2.1, vec 9 RpS.sz (.slice (adOf (partOf 1 (partOf 0 (Ep9 78)))) q2.1.Out.length (capOf (partOf 1 (partOf 0 (Ep9 78))))) q2.1.Out.length x.2.2.1, vec 135 R_api_Flop.sz (.slice (adOf (partOf 2 (partOf 0 (Ep9 78)))) q2.1.Flops.length (capOf (partOf 2 (partOf 0 (Ep9 78))))) q2.1.Flops.length x.2.2.2.1, vec 38 R_api_Gate.sz (.slice (adOf (partOf 3 (partOf 0 (Ep9 78)))) q2.1.Gates.length (capOf (partOf 3 (partOf 0 (Ep9 78))))) q2.1.Gates.length x.2.2.2.2.1, vec 3 (RpI .i64).sz (.slice (adOf (partOf 4 (partOf 0 (Ep9 78)))) q2.1.Outs.length (capOf (partOf 4 (partOf 0 (Ep9 78))))) q2.1.Outs.length x.2.2.2.2.2, roD q10 x.1]), fun Ep9 => cells (blkOf (Ep9 12)) 30 [.slice none 0 0, .slice none 0 0, .slice none 0 0, .slice none 0 0, .slice none 0 0], fun Ep9 => cells (blkOf (Ep9 12)) 30 [.slice (adOf (partOf 0 (partOf 0 (Ep9 78)))) q2.1.In.length (capOf (partOf 0 (partOf 0 (Ep9 78)))), .slice (adOf (partOf 1 (partOf 0 (Ep9 78)))) q2.1.Out.length (capOf (partOf 1 (partOf 0 (Ep9 78)))), .slice (adOf (partOf 2 (partOf 0 (Ep9 78)))) q2.1.Flops.length (capOf (partOf 2 (partOf 0 (Ep9 78)))), .slice (adOf (partOf 3 (partOf 0 (Ep9 78)))) q2.1.Gates.length (capOf (partOf 3 (partOf 0 (Ep9 78)))), .slice (adOf (partOf 4 (partOf 0 (Ep9 78)))) q2.1.Outs.length (capOf (partOf 4 (partOf 0 (Ep9 78))))]] mixed (by kernel_rfl) ((((((((hS.pull 5).pull 5).pull 5).pull 5).pull 5).pull 6).pull 9).pull 7) ?_ ?_
  ·refine ⟨?_, ?_, ?_, ?_, ?_, ?_, ?_, ?_, ?_, ?_, ?_, ?_, ?_, ?_, ?_, ?_, ?_, ?_, ?_, trivial⟩
   ·intro Ep9 w l' hE9 hO9 hF_ hS
    replace hS : St w0 w (cells b9 30 [.slice q6 q3.1.In.length c_y0_ret_0_6_8, .slice q7 q3.1.Out.length c_y0_ret_1_6_8, .slice q8 q3.1.Flops.length c_y0_ret_2_6_8, .slice q4 q3.1.Gates.length c_y0_ret_3_6_8, .slice q9 q3.1.Outs.length c_y0_ret_4_6_8] :: l') := Eq.mp (by kernel_rfl) hS
    refine pa (v := .agg #[.slice q6 q3.1.In.length c_y0_ret_0_6_8, .slice q7 q3.1.Out.length c_y0_ret_1_6_8, .slice q8 q3.1.Flops.length c_y0_ret_2_6_8, .slice q4 q3.1.Gates.length c_y0_ret_3_6_8, .slice q9 q3.1.Outs.length c_y0_ret_4_6_8]) (ld_sub agg_30 (hE9 9 rfl) rfl rfl hS) <| x_done <| ?_
    refine x_fin ⟨⟨_, rfl⟩, rfl, ?_⟩
    exact Eq.mp (by kernel_rfl) hS
   ·intro Ep9 w l' hE9 hO9 hF_ hS
    refine p (yl_move (hE9 5 rfl)) <| x_done <| ?_
    refine x_fin ⟨⟨_, rfl⟩, rfl, ?_⟩
    exact Eq.mp (by kernel_rfl) hS
   ·intro Ep9 w l' hE9 hO9 hF_ hS
    refine p (yl_move (hE9 8 rfl)) <| x_done <| ?_
    refine x_fin ⟨⟨_, rfl⟩, rfl, ?_⟩
    exact Eq.mp (by kernel_rfl) hS
   ·intro Ep9 w l' hE9 hO9 hF_ hS
    refine p (yl_field0 fld_30_4 (hE9 4 rfl)) <| x_done <| ?_
    refine x_fin ⟨⟨_, rfl⟩, rfl, ?_⟩
    exact Eq.mp (by kernel_rfl) hS
   ·intro Ep9 w l' hE9 hO9 hF_ hS
    obtain ⟨q26, -⟩ := hF_
    replace q26 : Ep9 71 = .pointer (some ⟨b4, 4, none⟩) := Eq.mp (by kernel_rfl) q26
    replace hS : St w0 w (cells b4 30 [.slice q0g q0a.1.In.length c_y0_ret_0_2_1, .slice q0h q0a.1.Out.length c_y0_ret_1_2_1, .slice q0i q0a.1.Flops.length c_y0_ret_2_2_1, .slice q0d q0a.1.Gates.length c_y0_ret_3_2_1, .slice q5 q0a.1.Outs.length c_y0_ret_4_2_1] :: l') := Eq.mp (by kernel_rfl) hS
    refine pa (at_load one_22 q26 (hS.cell rfl)) <| x_done <| ?_
    refine x_fin ⟨⟨_, rfl⟩, rfl, ?_⟩
    exact Eq.mp (by kernel_rfl) hS
   ·intro Ep9 w l' hE9 hO9 hF_ hS
    refine p (yl_move (hE9 8 rfl)) <| x_done <| ?_
    refine x_fin ⟨⟨_, rfl⟩, rfl, ?_⟩
    exact Eq.mp (by kernel_rfl) hS
   ·intro Ep9 w l' hE9 hO9 hF_ hS
    obtain ⟨q27, q28, -⟩ := hF_
    replace q27 : Ep9 72 = .slice q5 q0a.1.Outs.length c_y0_ret_4_2_1 := Eq.mp (by kernel_rfl) q27
    replace q28 : Ep9 73 = .int .i64 q0c.1 := Eq.mp (by kernel_rfl) q28
    replace hS : St w0 w (ro q10 :: l') := Eq.mp (by kernel_rfl) hS
    refine p (yix_f sl_22 q27 q28 (q20.le (q0b.trans q11)) q31) <| x_done <| ?_
    refine x_fin ⟨⟨_, rfl⟩, rfl, ?_⟩
    exact Eq.mp (by kernel_rfl) hS
   ·intro Ep9 w l' hE9 hO9 hF_ hS
    obtain ⟨q29, -⟩ := hF_
    replace q29 : Ep9 74 = .pointer (some ((adr q5).add (q0c.1.toNat * (RpI .i64).sz))) := Eq.mp (by kernel_rfl) q29
    replace hS : St w0 w (ro q10 :: l') := Eq.mp (by kernel_rfl) hS
    refine pa (at_load one_3 q29 (RdS.getW (q20.le (q0b.trans q11)) hS q31 hx75)) <| x_done <| ?_
    refine x_fin ⟨⟨_, rfl⟩, rfl, ?_⟩
    exact Eq.mp (by kernel_rfl) hS
   ·intro Ep9 w l' hE9 hO9 hF_ hS
    obtain ⟨q2a, q2b, -⟩ := hF_
    replace q2a : Ep9 70 = .int .i64 q0c.1 := Eq.mp (by kernel_rfl) q2a
    replace q2b : Ep9 75 = .int .i64 x75 := Eq.mp (by kernel_rfl) q2b
    refine p (v := .agg #[.int .i64 3, .int .i64 0, .int .u64 0, .slice none 0 0, .int .i64 q0c.1, .int .i64 0, .int .i64 x75]) (yl_build bld_43 bldf_43 (parts_eq (pt (va := .int .i64 3) rfl (pt (va := .int .i64 q0c.1) q2a (pt (va := .int .i64 x75) q2b pt0)))) (by kernel_rfl)) <| x_done <| ?_
    refine x_fin ⟨⟨_, rfl⟩, rfl, ?_⟩
    exact Eq.mp (by kernel_rfl) hS
   ·intro Ep9 w l' hE9 hO9 hF_ hS
    obtain ⟨q2c, -⟩ := hF_
    replace q2c : Ep9 76 = .agg #[.int .i64 3, .int .i64 0, .int .u64 0, .slice none 0 0, .int .i64 q0c.1, .int .i64 0, .int .i64 x75] := Eq.mp (by kernel_rfl) q2c
    refine o_buildSlice (vs := [.agg #[.int .i64 3, .int .i64 0, .int .u64 0, .slice none 0 0, .int .i64 q0c.1, .int .i64 0, .int .i64 x75]]) (cs := [.int .i64 3, .int .i64 0, .int .u64 0, .slice none 0 0, .int .i64 q0c.1, .int .i64 0, .int .i64 x75]) sl_44 zero_43 (parts_eq (pt (va := .agg #[.int .i64 3, .int .i64 0, .int .u64 0, .slice none 0 0, .int .i64 q0c.1, .int .i64 0, .int .i64 x75]) q2c pt0)) rfl (by intro v hv; simp only [List.mem_cons, List.not_mem_nil, or_false] at hv; first | (subst hv; rfl) | (rcases hv with rfl <;> rfl)) (by decide) rfl hS (fun b77 w' hS => ?_)
    refine x_done <| ?_
    refine x_fin ⟨⟨_, rfl⟩, rfl, ?_⟩
    exact Eq.mp (by kernel_rfl) hS
   ·intro Ep9 w l' hE9 hO9 hF_ hS
    obtain ⟨q2d, q2e, q2f, -⟩ := hF_
    replace q2d : Ep9 68 = .agg #[.slice q6 q3.1.In.length c_y0_ret_0_6_8, .slice q7 q3.1.Out.length c_y0_ret_1_6_8, .slice q8 q3.1.Flops.length c_y0_ret_2_6_8, .slice q4 q3.1.Gates.length c_y0_ret_3_6_8, .slice q9 q3.1.Outs.length c_y0_ret_4_6_8] := Eq.mp (by kernel_rfl) q2d
    replace q2e : Ep9 69 = .slice q1b q0a.2.1.length c_y1_ret_2_1 := Eq.mp (by kernel_rfl) q2e
    replace q2f : Ep9 77 = .slice (some ⟨(blkOf (Ep9 77)), 0, none⟩) 1 1 := Eq.mp (by kernel_rfl) q2f
    replace hS : St w0 w (ro q10 :: cells (blkOf (Ep9 77)) 43 [.int .i64 3, .int .i64 0, .int .u64 0, .slice none 0 0, .int .i64 q0c.1, .int .i64 0, .int .i64 x75] :: vec 9 RpS.sz (.slice q6 q3.1.In.length c_y0_ret_0_6_8) q3.1.In.length q1j :: vec 9 RpS.sz (.slice q7 q3.1.Out.length c_y0_ret_1_6_8) q3.1.Out.length q1k :: vec 135 R_api_Flop.sz (.slice q8 q3.1.Flops.length c_y0_ret_2_6_8) q3.1.Flops.length q1l :: vec 38 R_api_Gate.sz (.slice q4 q3.1.Gates.length c_y0_ret_3_6_8) q3.1.Gates.length q1m :: vec 3 (RpI .i64).sz (.slice q9 q3.1.Outs.length c_y0_ret_4_6_8) q3.1.Outs.length q1n :: l') := Eq.mp (by kernel_rfl) hS
    have q_ := St.vec_fz (hS.pull 2) q1o; obtain ⟨q4d, q12, q2m, hS⟩ := q_
    have q_ := St.vec_fz (hS.pull 2) (q1p.le q12); obtain ⟨q44, q0s, q2g, hS⟩ := q_
    have q_ := St.vec_fz (hS.pull 2) (q1q.le (q12.trans q0s)); obtain ⟨q45, q0p, q2h, hS⟩ := q_
    have q_ := St.vec_fz (hS.pull 2) (q1r.le ((q12.trans q0s).trans q0p)); obtain ⟨q46, q0m, q2i, hS⟩ := q_
    have q_ := St.vec_fz (hS.pull 2) (q1s.le (((q12.trans q0s).trans q0p).trans q0m)); obtain ⟨q3i, q0k, q2j, hS⟩ := q_
    have q3j : RepL R_eco_Edit q3i ([(T_eco_Edit.mk 3 (T_api_Gate.mk 0 0 []) q0c.1 0 x75)] : List T_eco_Edit) [.int .i64 3, .int .i64 0, .int .u64 0, .slice none 0 0, .int .i64 q0c.1, .int .i64 0, .int .i64 x75] := (RepL.cons (cs := [.int .i64 3, .int .i64 0, .int .u64 0, .slice none 0 0, .int .i64 q0c.1, .int .i64 0, .int .i64 x75]) ⟨_, _, _, rfl, (RdS.nil (A := none) (c := 0))⟩ RepL.nil)
    replace hS := St.vec_of (n := 1) (sz := R_eco_Edit.sz) (hS.pull 1) rfl (by decide)
    have q_ := St.vec_fz ((hS.pull 1).pull 1) q3j; obtain ⟨q47, q0e, q2k, hS⟩ := q_
    have hcall := c_eco_Apply q3s (q2m.le ((((q0s.trans q0p).trans q0m).trans q0k).trans q0e)) (q2g.le (((q0p.trans q0m).trans q0k).trans q0e)) (q2h.le ((q0m.trans q0k).trans q0e)) (q2i.le (q0k.trans q0e)) (q2j.le q0e) (q1c.le (((((((((((((q0q.trans q0t).trans q0n).trans q0l).trans q0j).trans q0f).trans q0b).trans q11).trans q12).trans q0s).trans q0p).trans q0m).trans q0k).trans q0e)) q2k hS
    refine o_cc call_14 (args3 q2d q2e q2f) hcall ?_
    rintro e w' ⟨q2o, q21, q32, c_y0_ret_0_9_10, q1e, q22, q33, c_y0_ret_1_9_10, q1f, q23, q34, c_y0_ret_2_9_10, q1g, q24, q35, c_y0_ret_3_9_10, q1h, q25, q36, c_y0_ret_4_9_10, q1i, rfl, q13, q0u, q0v, q0w, q0x, q0y, hS⟩
    refine ⟨_, rfl, ?_⟩
    have e_ := St.vec_n hS q0u; subst e_
    have e_ := St.vec_n (hS.pull 1) q0v; subst e_
    have e_ := St.vec_n (hS.pull 2) q0w; subst e_
    have e_ := St.vec_n (hS.pull 3) q0x; subst e_
    have e_ := St.vec_n (hS.pull 4) q0y; subst e_
    refine x_done <| ?_
    refine x_fin ⟨⟨_, rfl⟩, rfl, ?_⟩
    replace hS := St.ro_split ((((((q12.trans q0s).trans q0p).trans q0m).trans q0k).trans q0e).trans q13) (hS.pull 5)
    replace hS := St.bun (Φ := (fun (x : (Heap × List Value × List Value × List Value × List Value × List Value)) => Le q10 x.1 ∧ RdS RpS x.1 q6 q3.1.In.length c_y0_ret_0_6_8 q3.1.In ∧ RdS RpS x.1 q7 q3.1.Out.length c_y0_ret_1_6_8 q3.1.Out ∧ RdS R_api_Flop x.1 q8 q3.1.Flops.length c_y0_ret_2_6_8 q3.1.Flops ∧ RdS R_api_Gate x.1 q4 q3.1.Gates.length c_y0_ret_3_6_8 q3.1.Gates ∧ RdS (RpI .i64) x.1 q9 q3.1.Outs.length c_y0_ret_4_6_8 q3.1.Outs ∧ RdS R_eco_Edit x.1 (some ⟨(blkOf (Ep9 77)), 0, none⟩) 1 1 ([(T_eco_Edit.mk 3 (T_api_Gate.mk 0 0 []) q0c.1 0 x75)] : List T_eco_Edit) ∧ RepL RpS x.1 q2.1.In x.2.1 ∧ RepL RpS x.1 q2.1.Out x.2.2.1 ∧ RepL R_api_Flop x.1 q2.1.Flops x.2.2.2.1 ∧ RepL R_api_Gate x.1 q2.1.Gates x.2.2.2.2.1 ∧ RepL (RpI .i64) x.1 q2.1.Outs x.2.2.2.2.2)) (L := (fun (x : (Heap × List Value × List Value × List Value × List Value × List Value)) => [vec 9 RpS.sz (.slice q21 q2.1.In.length c_y0_ret_0_9_10) q2.1.In.length x.2.1, vec 9 RpS.sz (.slice q22 q2.1.Out.length c_y0_ret_1_9_10) q2.1.Out.length x.2.2.1, vec 135 R_api_Flop.sz (.slice q23 q2.1.Flops.length c_y0_ret_2_9_10) q2.1.Flops.length x.2.2.2.1, vec 38 R_api_Gate.sz (.slice q24 q2.1.Gates.length c_y0_ret_3_9_10) q2.1.Gates.length x.2.2.2.2.1, vec 3 (RpI .i64).sz (.slice q25 q2.1.Outs.length c_y0_ret_4_9_10) q2.1.Outs.length x.2.2.2.2.2, roD q10 x.1])) (q2o, q1e, q1f, q1g, q1h, q1i) ⟨((((((q12.trans q0s).trans q0p).trans q0m).trans q0k).trans q0e).trans q13), (q2m.le (((((q0s.trans q0p).trans q0m).trans q0k).trans q0e).trans q13)), (q2g.le ((((q0p.trans q0m).trans q0k).trans q0e).trans q13)), (q2h.le (((q0m.trans q0k).trans q0e).trans q13)), (q2i.le ((q0k.trans q0e).trans q13)), (q2j.le (q0e.trans q13)), (q2k.le q13), q0u, q0v, q0w, q0x, q0y⟩ ((((((hS.pull 1).pull 6).pull 6).pull 6).pull 6).pull 6)
    exact Eq.mp (by kernel_rfl) (hS.pull 1)
   ·intro Ep9 w l' hE9 hO9 hF_ hS
    obtain ⟨q0o, -⟩ := hF_
    replace q0o : Ep9 78 = .tuple #[.agg #[.slice (adOf (partOf 0 (partOf 0 (Ep9 78)))) q2.1.In.length (capOf (partOf 0 (partOf 0 (Ep9 78)))), .slice (adOf (partOf 1 (partOf 0 (Ep9 78)))) q2.1.Out.length (capOf (partOf 1 (partOf 0 (Ep9 78)))), .slice (adOf (partOf 2 (partOf 0 (Ep9 78)))) q2.1.Flops.length (capOf (partOf 2 (partOf 0 (Ep9 78)))), .slice (adOf (partOf 3 (partOf 0 (Ep9 78)))) q2.1.Gates.length (capOf (partOf 3 (partOf 0 (Ep9 78)))), .slice (adOf (partOf 4 (partOf 0 (Ep9 78)))) q2.1.Outs.length (capOf (partOf 4 (partOf 0 (Ep9 78))))], .int .i64 q2.2.1, .int .i64 q2.2.2] := Eq.mp (by kernel_rfl) q0o
    refine p (yl_move q0o) <| x_done <| ?_
    refine x_fin ⟨⟨_, rfl⟩, rfl, ?_⟩
    exact Eq.mp (by kernel_rfl) hS
   ·intro Ep9 w l' hE9 hO9 hF_ hS
    obtain ⟨q0o, q0z, -⟩ := hF_
    replace q0o : Ep9 78 = .tuple #[.agg #[.slice (adOf (partOf 0 (partOf 0 (Ep9 78)))) q2.1.In.length (capOf (partOf 0 (partOf 0 (Ep9 78)))), .slice (adOf (partOf 1 (partOf 0 (Ep9 78)))) q2.1.Out.length (capOf (partOf 1 (partOf 0 (Ep9 78)))), .slice (adOf (partOf 2 (partOf 0 (Ep9 78)))) q2.1.Flops.length (capOf (partOf 2 (partOf 0 (Ep9 78)))), .slice (adOf (partOf 3 (partOf 0 (Ep9 78)))) q2.1.Gates.length (capOf (partOf 3 (partOf 0 (Ep9 78)))), .slice (adOf (partOf 4 (partOf 0 (Ep9 78)))) q2.1.Outs.length (capOf (partOf 4 (partOf 0 (Ep9 78))))], .int .i64 q2.2.1, .int .i64 q2.2.2] := Eq.mp (by kernel_rfl) q0o
    replace q0z : Ep9 67 = .tuple #[.agg #[.slice (adOf (partOf 0 (partOf 0 (Ep9 78)))) q2.1.In.length (capOf (partOf 0 (partOf 0 (Ep9 78)))), .slice (adOf (partOf 1 (partOf 0 (Ep9 78)))) q2.1.Out.length (capOf (partOf 1 (partOf 0 (Ep9 78)))), .slice (adOf (partOf 2 (partOf 0 (Ep9 78)))) q2.1.Flops.length (capOf (partOf 2 (partOf 0 (Ep9 78)))), .slice (adOf (partOf 3 (partOf 0 (Ep9 78)))) q2.1.Gates.length (capOf (partOf 3 (partOf 0 (Ep9 78)))), .slice (adOf (partOf 4 (partOf 0 (Ep9 78)))) q2.1.Outs.length (capOf (partOf 4 (partOf 0 (Ep9 78))))], .int .i64 q2.2.1, .int .i64 q2.2.2] := Eq.mp (by kernel_rfl) q0z
    refine p (yl_extract q0z rfl) <| x_done <| ?_
    refine x_fin ⟨⟨_, rfl⟩, rfl, ?_⟩
    exact Eq.mp (by kernel_rfl) hS
   ·intro Ep9 w l' hE9 hO9 hF_ hS
    obtain ⟨q0o, q0z, -⟩ := hF_
    replace q0o : Ep9 78 = .tuple #[.agg #[.slice (adOf (partOf 0 (partOf 0 (Ep9 78)))) q2.1.In.length (capOf (partOf 0 (partOf 0 (Ep9 78)))), .slice (adOf (partOf 1 (partOf 0 (Ep9 78)))) q2.1.Out.length (capOf (partOf 1 (partOf 0 (Ep9 78)))), .slice (adOf (partOf 2 (partOf 0 (Ep9 78)))) q2.1.Flops.length (capOf (partOf 2 (partOf 0 (Ep9 78)))), .slice (adOf (partOf 3 (partOf 0 (Ep9 78)))) q2.1.Gates.length (capOf (partOf 3 (partOf 0 (Ep9 78)))), .slice (adOf (partOf 4 (partOf 0 (Ep9 78)))) q2.1.Outs.length (capOf (partOf 4 (partOf 0 (Ep9 78))))], .int .i64 q2.2.1, .int .i64 q2.2.2] := Eq.mp (by kernel_rfl) q0o
    replace q0z : Ep9 67 = .tuple #[.agg #[.slice (adOf (partOf 0 (partOf 0 (Ep9 78)))) q2.1.In.length (capOf (partOf 0 (partOf 0 (Ep9 78)))), .slice (adOf (partOf 1 (partOf 0 (Ep9 78)))) q2.1.Out.length (capOf (partOf 1 (partOf 0 (Ep9 78)))), .slice (adOf (partOf 2 (partOf 0 (Ep9 78)))) q2.1.Flops.length (capOf (partOf 2 (partOf 0 (Ep9 78)))), .slice (adOf (partOf 3 (partOf 0 (Ep9 78)))) q2.1.Gates.length (capOf (partOf 3 (partOf 0 (Ep9 78)))), .slice (adOf (partOf 4 (partOf 0 (Ep9 78)))) q2.1.Outs.length (capOf (partOf 4 (partOf 0 (Ep9 78))))], .int .i64 q2.2.1, .int .i64 q2.2.2] := Eq.mp (by kernel_rfl) q0z
    refine p (yl_extract q0z rfl) <| x_done <| ?_
    refine x_fin ⟨⟨_, rfl⟩, rfl, ?_⟩
    exact Eq.mp (by kernel_rfl) hS
   ·intro Ep9 w l' hE9 hO9 hF_ hS
    obtain ⟨q0o, q0z, -⟩ := hF_
    replace q0o : Ep9 78 = .tuple #[.agg #[.slice (adOf (partOf 0 (partOf 0 (Ep9 78)))) q2.1.In.length (capOf (partOf 0 (partOf 0 (Ep9 78)))), .slice (adOf (partOf 1 (partOf 0 (Ep9 78)))) q2.1.Out.length (capOf (partOf 1 (partOf 0 (Ep9 78)))), .slice (adOf (partOf 2 (partOf 0 (Ep9 78)))) q2.1.Flops.length (capOf (partOf 2 (partOf 0 (Ep9 78)))), .slice (adOf (partOf 3 (partOf 0 (Ep9 78)))) q2.1.Gates.length (capOf (partOf 3 (partOf 0 (Ep9 78)))), .slice (adOf (partOf 4 (partOf 0 (Ep9 78)))) q2.1.Outs.length (capOf (partOf 4 (partOf 0 (Ep9 78))))], .int .i64 q2.2.1, .int .i64 q2.2.2] := Eq.mp (by kernel_rfl) q0o
    replace q0z : Ep9 67 = .tuple #[.agg #[.slice (adOf (partOf 0 (partOf 0 (Ep9 78)))) q2.1.In.length (capOf (partOf 0 (partOf 0 (Ep9 78)))), .slice (adOf (partOf 1 (partOf 0 (Ep9 78)))) q2.1.Out.length (capOf (partOf 1 (partOf 0 (Ep9 78)))), .slice (adOf (partOf 2 (partOf 0 (Ep9 78)))) q2.1.Flops.length (capOf (partOf 2 (partOf 0 (Ep9 78)))), .slice (adOf (partOf 3 (partOf 0 (Ep9 78)))) q2.1.Gates.length (capOf (partOf 3 (partOf 0 (Ep9 78)))), .slice (adOf (partOf 4 (partOf 0 (Ep9 78)))) q2.1.Outs.length (capOf (partOf 4 (partOf 0 (Ep9 78))))], .int .i64 q2.2.1, .int .i64 q2.2.2] := Eq.mp (by kernel_rfl) q0z
    refine p (yl_extract q0z rfl) <| x_done <| ?_
    refine x_fin ⟨⟨_, rfl⟩, rfl, ?_⟩
    exact Eq.mp (by kernel_rfl) hS
   ·intro Ep9 w l' hE9 hO9 hF_ hS
    refine o_alloc zero_30 hS (fun b12 w' hS => ?_)
    refine x_done <| ?_
    refine x_fin ⟨⟨_, rfl⟩, rfl, ?_⟩
    exact Eq.mp (by kernel_rfl) hS
   ·intro Ep9 w l' hE9 hO9 hF_ hS
    obtain ⟨q0o, q1w, q1a, -⟩ := hF_
    replace q0o : Ep9 78 = .tuple #[.agg #[.slice (adOf (partOf 0 (partOf 0 (Ep9 78)))) q2.1.In.length (capOf (partOf 0 (partOf 0 (Ep9 78)))), .slice (adOf (partOf 1 (partOf 0 (Ep9 78)))) q2.1.Out.length (capOf (partOf 1 (partOf 0 (Ep9 78)))), .slice (adOf (partOf 2 (partOf 0 (Ep9 78)))) q2.1.Flops.length (capOf (partOf 2 (partOf 0 (Ep9 78)))), .slice (adOf (partOf 3 (partOf 0 (Ep9 78)))) q2.1.Gates.length (capOf (partOf 3 (partOf 0 (Ep9 78)))), .slice (adOf (partOf 4 (partOf 0 (Ep9 78)))) q2.1.Outs.length (capOf (partOf 4 (partOf 0 (Ep9 78))))], .int .i64 q2.2.1, .int .i64 q2.2.2] := Eq.mp (by kernel_rfl) q0o
    replace q1w : Ep9 79 = .agg #[.slice (adOf (partOf 0 (partOf 0 (Ep9 78)))) q2.1.In.length (capOf (partOf 0 (partOf 0 (Ep9 78)))), .slice (adOf (partOf 1 (partOf 0 (Ep9 78)))) q2.1.Out.length (capOf (partOf 1 (partOf 0 (Ep9 78)))), .slice (adOf (partOf 2 (partOf 0 (Ep9 78)))) q2.1.Flops.length (capOf (partOf 2 (partOf 0 (Ep9 78)))), .slice (adOf (partOf 3 (partOf 0 (Ep9 78)))) q2.1.Gates.length (capOf (partOf 3 (partOf 0 (Ep9 78)))), .slice (adOf (partOf 4 (partOf 0 (Ep9 78)))) q2.1.Outs.length (capOf (partOf 4 (partOf 0 (Ep9 78))))] := Eq.mp (by kernel_rfl) q1w
    replace q1a : Ep9 12 = .pointer (some ⟨(blkOf (Ep9 12)), 0, none⟩) := Eq.mp (by kernel_rfl) q1a
    replace hS : St w0 w (cells (blkOf (Ep9 12)) 30 [.slice none 0 0, .slice none 0 0, .slice none 0 0, .slice none 0 0, .slice none 0 0] :: l') := Eq.mp (by kernel_rfl) hS
    refine o_storeAgg (news := [.slice (adOf (partOf 0 (partOf 0 (Ep9 78)))) q2.1.In.length (capOf (partOf 0 (partOf 0 (Ep9 78)))), .slice (adOf (partOf 1 (partOf 0 (Ep9 78)))) q2.1.Out.length (capOf (partOf 1 (partOf 0 (Ep9 78)))), .slice (adOf (partOf 2 (partOf 0 (Ep9 78)))) q2.1.Flops.length (capOf (partOf 2 (partOf 0 (Ep9 78)))), .slice (adOf (partOf 3 (partOf 0 (Ep9 78)))) q2.1.Gates.length (capOf (partOf 3 (partOf 0 (Ep9 78)))), .slice (adOf (partOf 4 (partOf 0 (Ep9 78)))) q2.1.Outs.length (capOf (partOf 4 (partOf 0 (Ep9 78))))]) agg_30 q1a q1w rfl (by simp [over_length]) hS (fun w' hS => ?_)
    refine x_done <| ?_
    refine x_fin ⟨⟨undef, rfl⟩, trivial, ?_⟩
    exact Eq.mp (by kernel_rfl) hS
   ·intro Ep9 w l' hE9 hO9 hF_ hS
    obtain ⟨q1x, -⟩ := hF_
    replace q1x : Ep9 80 = .int .i64 q2.2.1 := Eq.mp (by kernel_rfl) q1x
    refine p (yl_assign q1x) <| x_done <| ?_
    refine x_fin ⟨⟨_, rfl⟩, rfl, ?_⟩
    exact Eq.mp (by kernel_rfl) hS
   ·intro Ep9 w l' hE9 hO9 hF_ hS
    obtain ⟨q1y, -⟩ := hF_
    replace q1y : Ep9 81 = .int .i64 q2.2.2 := Eq.mp (by kernel_rfl) q1y
    refine p (yl_assign q1y) <| x_done <| ?_
    refine x_fin ⟨⟨_, rfl⟩, rfl, ?_⟩
    exact Eq.mp (by kernel_rfl) hS
  intro Ep9 w' hE9 hF_ hS
  obtain ⟨q2d, q2e, q2a, q26, q27, q28, q29, q2b, q2c, q2f, q0o, q0z, q1w, q1x, q1y, q1a, q37, q2p, -⟩ := hF_
  replace q2d : Ep9 68 = .agg #[.slice q6 q3.1.In.length c_y0_ret_0_6_8, .slice q7 q3.1.Out.length c_y0_ret_1_6_8, .slice q8 q3.1.Flops.length c_y0_ret_2_6_8, .slice q4 q3.1.Gates.length c_y0_ret_3_6_8, .slice q9 q3.1.Outs.length c_y0_ret_4_6_8] := Eq.mp (by kernel_rfl) q2d
  replace q2e : Ep9 69 = .slice q1b q0a.2.1.length c_y1_ret_2_1 := Eq.mp (by kernel_rfl) q2e
  replace q2a : Ep9 70 = .int .i64 q0c.1 := Eq.mp (by kernel_rfl) q2a
  replace q26 : Ep9 71 = .pointer (some ⟨b4, 4, none⟩) := Eq.mp (by kernel_rfl) q26
  replace q27 : Ep9 72 = .slice q5 q0a.1.Outs.length c_y0_ret_4_2_1 := Eq.mp (by kernel_rfl) q27
  replace q28 : Ep9 73 = .int .i64 q0c.1 := Eq.mp (by kernel_rfl) q28
  replace q29 : Ep9 74 = .pointer (some ((adr q5).add (q0c.1.toNat * (RpI .i64).sz))) := Eq.mp (by kernel_rfl) q29
  replace q2b : Ep9 75 = .int .i64 x75 := Eq.mp (by kernel_rfl) q2b
  replace q2c : Ep9 76 = .agg #[.int .i64 3, .int .i64 0, .int .u64 0, .slice none 0 0, .int .i64 q0c.1, .int .i64 0, .int .i64 x75] := Eq.mp (by kernel_rfl) q2c
  replace q2f : Ep9 77 = .slice (some ⟨(blkOf (Ep9 77)), 0, none⟩) 1 1 := Eq.mp (by kernel_rfl) q2f
  replace q0o : Ep9 78 = .tuple #[.agg #[.slice (adOf (partOf 0 (partOf 0 (Ep9 78)))) q2.1.In.length (capOf (partOf 0 (partOf 0 (Ep9 78)))), .slice (adOf (partOf 1 (partOf 0 (Ep9 78)))) q2.1.Out.length (capOf (partOf 1 (partOf 0 (Ep9 78)))), .slice (adOf (partOf 2 (partOf 0 (Ep9 78)))) q2.1.Flops.length (capOf (partOf 2 (partOf 0 (Ep9 78)))), .slice (adOf (partOf 3 (partOf 0 (Ep9 78)))) q2.1.Gates.length (capOf (partOf 3 (partOf 0 (Ep9 78)))), .slice (adOf (partOf 4 (partOf 0 (Ep9 78)))) q2.1.Outs.length (capOf (partOf 4 (partOf 0 (Ep9 78))))], .int .i64 q2.2.1, .int .i64 q2.2.2] := Eq.mp (by kernel_rfl) q0o
  replace q0z : Ep9 67 = .tuple #[.agg #[.slice (adOf (partOf 0 (partOf 0 (Ep9 78)))) q2.1.In.length (capOf (partOf 0 (partOf 0 (Ep9 78)))), .slice (adOf (partOf 1 (partOf 0 (Ep9 78)))) q2.1.Out.length (capOf (partOf 1 (partOf 0 (Ep9 78)))), .slice (adOf (partOf 2 (partOf 0 (Ep9 78)))) q2.1.Flops.length (capOf (partOf 2 (partOf 0 (Ep9 78)))), .slice (adOf (partOf 3 (partOf 0 (Ep9 78)))) q2.1.Gates.length (capOf (partOf 3 (partOf 0 (Ep9 78)))), .slice (adOf (partOf 4 (partOf 0 (Ep9 78)))) q2.1.Outs.length (capOf (partOf 4 (partOf 0 (Ep9 78))))], .int .i64 q2.2.1, .int .i64 q2.2.2] := Eq.mp (by kernel_rfl) q0z
  replace q1w : Ep9 79 = .agg #[.slice (adOf (partOf 0 (partOf 0 (Ep9 78)))) q2.1.In.length (capOf (partOf 0 (partOf 0 (Ep9 78)))), .slice (adOf (partOf 1 (partOf 0 (Ep9 78)))) q2.1.Out.length (capOf (partOf 1 (partOf 0 (Ep9 78)))), .slice (adOf (partOf 2 (partOf 0 (Ep9 78)))) q2.1.Flops.length (capOf (partOf 2 (partOf 0 (Ep9 78)))), .slice (adOf (partOf 3 (partOf 0 (Ep9 78)))) q2.1.Gates.length (capOf (partOf 3 (partOf 0 (Ep9 78)))), .slice (adOf (partOf 4 (partOf 0 (Ep9 78)))) q2.1.Outs.length (capOf (partOf 4 (partOf 0 (Ep9 78))))] := Eq.mp (by kernel_rfl) q1w
  replace q1x : Ep9 80 = .int .i64 q2.2.1 := Eq.mp (by kernel_rfl) q1x
  replace q1y : Ep9 81 = .int .i64 q2.2.2 := Eq.mp (by kernel_rfl) q1y
  replace q1a : Ep9 12 = .pointer (some ⟨(blkOf (Ep9 12)), 0, none⟩) := Eq.mp (by kernel_rfl) q1a
  replace q37 : Ep9 13 = .int .i64 q2.2.1 := Eq.mp (by kernel_rfl) q37
  replace q2p : Ep9 11 = .int .i64 q2.2.2 := Eq.mp (by kernel_rfl) q2p
  replace hS : St w0 w' (cells b9 30 [.slice q6 q3.1.In.length c_y0_ret_0_6_8, .slice q7 q3.1.Out.length c_y0_ret_1_6_8, .slice q8 q3.1.Flops.length c_y0_ret_2_6_8, .slice q4 q3.1.Gates.length c_y0_ret_3_6_8, .slice q9 q3.1.Outs.length c_y0_ret_4_6_8] :: cells b4 30 [.slice q0g q0a.1.In.length c_y0_ret_0_2_1, .slice q0h q0a.1.Out.length c_y0_ret_1_2_1, .slice q0i q0a.1.Flops.length c_y0_ret_2_2_1, .slice q0d q0a.1.Gates.length c_y0_ret_3_2_1, .slice q5 q0a.1.Outs.length c_y0_ret_4_2_1] :: ro q10 :: bunA (fun (x : (Heap × List Value × List Value × List Value × List Value × List Value)) => Le q10 x.1 ∧ RdS RpS x.1 q6 q3.1.In.length c_y0_ret_0_6_8 q3.1.In ∧ RdS RpS x.1 q7 q3.1.Out.length c_y0_ret_1_6_8 q3.1.Out ∧ RdS R_api_Flop x.1 q8 q3.1.Flops.length c_y0_ret_2_6_8 q3.1.Flops ∧ RdS R_api_Gate x.1 q4 q3.1.Gates.length c_y0_ret_3_6_8 q3.1.Gates ∧ RdS (RpI .i64) x.1 q9 q3.1.Outs.length c_y0_ret_4_6_8 q3.1.Outs ∧ RdS R_eco_Edit x.1 (some ⟨(blkOf (Ep9 77)), 0, none⟩) 1 1 ([(T_eco_Edit.mk 3 (T_api_Gate.mk 0 0 []) q0c.1 0 x75)] : List T_eco_Edit) ∧ RepL RpS x.1 q2.1.In x.2.1 ∧ RepL RpS x.1 q2.1.Out x.2.2.1 ∧ RepL R_api_Flop x.1 q2.1.Flops x.2.2.2.1 ∧ RepL R_api_Gate x.1 q2.1.Gates x.2.2.2.2.1 ∧ RepL (RpI .i64) x.1 q2.1.Outs x.2.2.2.2.2) (fun (x : (Heap × List Value × List Value × List Value × List Value × List Value)) => [vec 9 RpS.sz (.slice (adOf (partOf 0 (partOf 0 (Ep9 78)))) q2.1.In.length (capOf (partOf 0 (partOf 0 (Ep9 78))))) q2.1.In.length x.2.1, vec 9 RpS.sz (.slice (adOf (partOf 1 (partOf 0 (Ep9 78)))) q2.1.Out.length (capOf (partOf 1 (partOf 0 (Ep9 78))))) q2.1.Out.length x.2.2.1, vec 135 R_api_Flop.sz (.slice (adOf (partOf 2 (partOf 0 (Ep9 78)))) q2.1.Flops.length (capOf (partOf 2 (partOf 0 (Ep9 78))))) q2.1.Flops.length x.2.2.2.1, vec 38 R_api_Gate.sz (.slice (adOf (partOf 3 (partOf 0 (Ep9 78)))) q2.1.Gates.length (capOf (partOf 3 (partOf 0 (Ep9 78))))) q2.1.Gates.length x.2.2.2.2.1, vec 3 (RpI .i64).sz (.slice (adOf (partOf 4 (partOf 0 (Ep9 78)))) q2.1.Outs.length (capOf (partOf 4 (partOf 0 (Ep9 78))))) q2.1.Outs.length x.2.2.2.2.2, roD q10 x.1]) :: cells (blkOf (Ep9 12)) 30 [.slice (adOf (partOf 0 (partOf 0 (Ep9 78)))) q2.1.In.length (capOf (partOf 0 (partOf 0 (Ep9 78)))), .slice (adOf (partOf 1 (partOf 0 (Ep9 78)))) q2.1.Out.length (capOf (partOf 1 (partOf 0 (Ep9 78)))), .slice (adOf (partOf 2 (partOf 0 (Ep9 78)))) q2.1.Flops.length (capOf (partOf 2 (partOf 0 (Ep9 78)))), .slice (adOf (partOf 3 (partOf 0 (Ep9 78)))) q2.1.Gates.length (capOf (partOf 3 (partOf 0 (Ep9 78)))), .slice (adOf (partOf 4 (partOf 0 (Ep9 78)))) q2.1.Outs.length (capOf (partOf 4 (partOf 0 (Ep9 78))))] :: (cells b16 25 [.slice q1v l_0.length c_l_0, .int .i64 q0c.2] :: cells b7 38 [.int .i64 1, .int .u64 1, .slice (some ⟨b27, 0, none⟩) 1 1] :: l)) := Eq.mp (by kernel_rfl) hS
  have q_ := St.unbun (hS.pull 3); obtain ⟨⟨q2o, q1e, q1f, q1g, q1h, q1i⟩, ⟨q2n, q2m, q2g, q2h, q2i, q2j, q2k, q0u, q0v, q0w, q0x, q0y⟩, hS⟩ := q_
  have q_ := St.ro_join ((hS.pull 5).pull 8) (Le.refl _) q2n; obtain ⟨q4e, q19, q1t, hS, q43⟩ := q_
  refine x_seq <| x_seq <| x_region <| p (yl_move q2p) <|
   p (yl_neq rfl rfl) <| x_done <|
   x_cond_p (q2.2.2 ≠ 0) rfl (fun hc83 => ?_) (fun hc83 => ?_)
  ·replace hF := it_t hc83 hF
   refine x_seq <| x_region <| p (yl_assign rfl) <| x_done <| ?_
   have e_ := Option.some.inj (show some _ = some _ from hF); subst e_
   exact x_return ⟨_, ⟨_, _, rfl, rfl, rfl⟩, rfl, (ro_back0 (((((((((q1u.trans q0q).trans q0t).trans q0n).trans q0l).trans q0j).trans q0f).trans q0b).trans q11).trans q19) (((((((((((hS.pull 1).drop.pull 1).drop.pull 1).drop.pull 1).drop.pull 1).drop.pull 1).drop.pull 1).drop.pull 1).drop.pull 1).drop.pull 1).drop))⟩
  ·replace hF := it_f hc83 hF
   refine x_skip <| x_seq <| x_region <| p (yl_field0 fld_30_3 q1a) <|
    pa (at_load one_28 rfl ((hS.pull 8).cell rfl)) <| p (yl_field0 fld_30_3 (hE9 4 rfl)) <| pa (at_load one_28 rfl ((hS.pull 7).cell rfl)) <| p (yl_len_slice usl_28 rfl) <| ?_
   have q_ := St.vec_fz (hS.pull 4) (q0x.le q1t); obtain ⟨q4f, q0r, q3t, hS⟩ := q_
   replace hF := ck_s hF; obtain ⟨q2t, hF⟩ := hF
   replace hF := lv_s hF; obtain ⟨x89, hx89, hF⟩ := hF
   have q_ := RdS.sub q3t q2t hx89; obtain ⟨A89, n89, c89, hd89, f89⟩ := q_
   refine p (ysub_h sl_28 rfl rfl q2t hd89) <| ?_
   have e_ := f89.n; subst e_
   refine p (yl_field0 fld_30_3 q1a) <| ?_
   refine o_store1 (v := .slice A89 x89.length c89) one_28 rfl rfl rfl rfl (hS.pull 7) (fun w' hS => ?_)
   replace hF := bd_s hF; obtain ⟨q42, q3u, hF⟩ := hF
   refine x_done <| x_seq <| x_region <| pa (v := .agg #[.slice (adOf (partOf 0 (partOf 0 (Ep9 78)))) q2.1.In.length (capOf (partOf 0 (partOf 0 (Ep9 78)))), .slice (adOf (partOf 1 (partOf 0 (Ep9 78)))) q2.1.Out.length (capOf (partOf 1 (partOf 0 (Ep9 78)))), .slice (adOf (partOf 2 (partOf 0 (Ep9 78)))) q2.1.Flops.length (capOf (partOf 2 (partOf 0 (Ep9 78)))), .slice A89 x89.length c89, .slice (adOf (partOf 4 (partOf 0 (Ep9 78)))) q2.1.Outs.length (capOf (partOf 4 (partOf 0 (Ep9 78))))]) (ld_sub agg_30 q1a rfl rfl hS) <|
    pa (v := .agg #[.slice q0g q0a.1.In.length c_y0_ret_0_2_1, .slice q0h q0a.1.Out.length c_y0_ret_1_2_1, .slice q0i q0a.1.Flops.length c_y0_ret_2_2_1, .slice q0d q0a.1.Gates.length c_y0_ret_3_2_1, .slice q5 q0a.1.Outs.length c_y0_ret_4_2_1]) (ld_sub agg_30 (hE9 4 rfl) rfl rfl (hS.pull 7)) <| ?_
   have q_ := St.lend ((hS.pull 1).pull 2) (q0u.le (q1t.trans q0r)); obtain ⟨ρl0, hll0, hlf0, hS0, back0⟩ := q_
   have q_ := St.lend (hS0.pull 2) (q0v.le ((q1t.trans q0r).trans hll0)); obtain ⟨ρl1, hll1, hlf1, hS1, back1⟩ := q_
   have q_ := St.lend (hS1.pull 2) (q0w.le ((q1t.trans q0r).trans (hll0.trans hll1))); obtain ⟨ρl2, hll2, hlf2, hS2, back2⟩ := q_
   have q_ := St.lend (hS2.pull 2) (q0y.le ((q1t.trans q0r).trans ((hll0.trans hll1).trans hll2))); obtain ⟨ρl3, hll3, hlf3, hS3, back3⟩ := q_
   have hcall := c_netlist_Same q3u (hlf0.le ((hll1.trans hll2).trans hll3)) (hlf1.le (hll2.trans hll3)) (hlf2.le hll3) (f89.le (((hll0.trans hll1).trans hll2).trans hll3)) hlf3 ((q30.le (((((((q0n.trans q0l).trans q0j).trans q0f).trans q0b).trans q11).trans q19).trans q0r)).le (((hll0.trans hll1).trans hll2).trans hll3)) ((q2q.le ((((((q0l.trans q0j).trans q0f).trans q0b).trans q11).trans q19).trans q0r)).le (((hll0.trans hll1).trans hll2).trans hll3)) ((q2r.le (((((q0j.trans q0f).trans q0b).trans q11).trans q19).trans q0r)).le (((hll0.trans hll1).trans hll2).trans hll3)) ((q2s.le ((((q0f.trans q0b).trans q11).trans q19).trans q0r)).le (((hll0.trans hll1).trans hll2).trans hll3)) ((q20.le (((q0b.trans q11).trans q19).trans q0r)).le (((hll0.trans hll1).trans hll2).trans hll3)) hS3
   refine o_cc call_16 (args2 rfl rfl) ((Calls.mono hcall (fun e w'' h => And.intro h.1 (((((((((((back0 ((back1 ((back2 ((back3 h.2).pull 1)).pull 1)).pull 1)).pull 9).pull 9).pull 9).pull 9).pull 8).pull 8).pull 8).pull 7).pull 8).pull 9)))) ?_
   rintro e w' ⟨rfl, hS⟩
   refine ⟨_, rfl, ?_⟩
   refine p (v := .bool q42) (yl_assign rfl) <| x_done <| ?_
   have e_ := Option.some.inj (show some _ = some _ from hF); subst e_
   exact x_return ⟨_, ⟨_, _, rfl, rfl, rfl⟩, rfl, (ro_back0 ((((((((((q1u.trans q0q).trans q0t).trans q0n).trans q0l).trans q0j).trans q0f).trans q0b).trans q11).trans q19).trans q0r) (((((((((hS.drop.pull 1).drop.pull 1).drop.pull 1).drop.pull 1).drop.pull 1).drop.pull 1).drop.pull 1).drop.pull 1).drop))⟩
attribute [irreducible] P_maskkeep4_EcoKeeps


end Go.Proofs.YtlolchgeedegdaaDoor.X
