/- Printed by gen.py: plain functions, and that the Go code computes them. -/
import Derived.Test.YtlolchgeedegdaaDoorXI
import Derived.Test.YtlolchgeedegdaaDoorXT
import Derived.Test.YtlolchgeedegdaaDoorGAp0
import Derived.Test.YtlolchgeedegdaaDoorGAp1
import Derived.Test.YtlolchgeedegdaaDoorGAp2
namespace Go.Proofs.YtlolchgeedegdaaDoor.X
open Go Go.RowKit
set_option linter.unusedVariables false
set_option linter.unusedSimpArgs false

def P_layfmt_lay_5 (f0 : T_floor_Floor) (q3 : List T_floor_Site) (word2 : ByteArray) (s3 : ByteArray) : Option (Bool × Int × Int × Int × List T_floor_Block × List T_floor_Wall × List T_floor_Port × List T_floor_Site) :=
 lv ((decide (word2 = (⟨#[105, 110]⟩ : ByteArray))) || (decide (word2 = (⟨#[111, 117, 116]⟩ : ByteArray)))) fun x23 =>
 if x23 = true then
  bd (P_strings_Split s3 (⟨#[32]⟩ : ByteArray)) fun q4 =>
  if (q4.length : Int) ≠ 4 then
   some (false, f0.Rows, f0.Sites, f0.Layers, f0.Blocks, f0.Walls, f0.Ports, q3)
  else
   ck (inb 1 q4.length) <|
   lv (gt q4 (1 : Int)) fun x32 =>
   bd (P_strings_CutPrefix x32 (⟨#[61]⟩ : ByteArray)) fun q0m =>
   ck (inb 2 q4.length) <|
   lv (gt q4 (2 : Int)) fun x39 =>
   ck ((⟨#[115, 105, 116, 101, 32]⟩ : ByteArray).size + x39.size ≤ 140737488355328) <|
   ck (((⟨#[115, 105, 116, 101, 32]⟩ : ByteArray) ++ x39).size + (⟨#[32]⟩ : ByteArray).size ≤ 140737488355328) <|
   ck (inb 3 q4.length) <|
   lv (gt q4 (3 : Int)) fun x44 =>
   ck ((((⟨#[115, 105, 116, 101, 32]⟩ : ByteArray) ++ x39) ++ (⟨#[32]⟩ : ByteArray)).size + x44.size ≤ 140737488355328) <|
   bd (P_layfmt_words ((((⟨#[115, 105, 116, 101, 32]⟩ : ByteArray) ++ x39) ++ (⟨#[32]⟩ : ByteArray)) ++ x44)) fun q8 =>
   lv (q0m.2 && q8.2.2) fun x53 =>
   bd (
    if x53 = true then
     ck (inb 0 q8.2.1.length) <|
     lv (gt q8.2.1 (0 : Int)) fun x64 =>
     ck (inb 1 q8.2.1.length) <|
     lv (gt q8.2.1 (1 : Int)) fun x67 =>
     lv (f0.Ports ++ [(T_floor_Port.mk q0m.1 (decide (word2 = (⟨#[111, 117, 116]⟩ : ByteArray))) x64 x67)]) fun q0n =>
     ck (apOk 40 q0n.length) <|
     some q0n
    else
     some f0.Ports) fun q0d =>
   lv (q0m.2 && q8.2.2) fun x76 =>
   some (x76, f0.Rows, f0.Sites, f0.Layers, f0.Blocks, f0.Walls, q0d, q3)
 else
  bd (P_layfmt_words s3) fun q2 =>
  if (!q2.2.2) = true then
   some (false, f0.Rows, f0.Sites, f0.Layers, f0.Blocks, f0.Walls, f0.Ports, q3)
  else
   bd (
    if word2 = (⟨#[102, 108, 111, 111, 114]⟩ : ByteArray) then
     ck (inb 0 q2.2.1.length) <|
     lv (gt q2.2.1 (0 : Int)) fun x93 =>
     ck (inb 1 q2.2.1.length) <|
     lv (gt q2.2.1 (1 : Int)) fun x96 =>
     ck (inb 2 q2.2.1.length) <|
     lv (gt q2.2.1 (2 : Int)) fun x99 =>
     some (x93, x96, x99, f0.Blocks, f0.Walls, q3)
    else
     bd (
      if word2 = (⟨#[98, 108, 111, 99, 107]⟩ : ByteArray) then
       ck (inb 0 q2.2.1.length) <|
       lv (gt q2.2.1 (0 : Int)) fun x115 =>
       ck (inb 1 q2.2.1.length) <|
       lv (gt q2.2.1 (1 : Int)) fun x118 =>
       ck (inb 2 q2.2.1.length) <|
       lv (gt q2.2.1 (2 : Int)) fun x121 =>
       lv (f0.Blocks ++ [(T_floor_Block.mk x115 x118 x121)]) fun q0j =>
       ck (apOk 24 q0j.length) <|
       some (q0j, f0.Walls, q3)
      else
       bd (
        if word2 = (⟨#[119, 97, 108, 108]⟩ : ByteArray) then
         ck (inb 0 q2.2.1.length) <|
         lv (gt q2.2.1 (0 : Int)) fun x136 =>
         ck (inb 1 q2.2.1.length) <|
         lv (gt q2.2.1 (1 : Int)) fun x139 =>
         ck (inb 2 q2.2.1.length) <|
         lv (gt q2.2.1 (2 : Int)) fun x142 =>
         ck (inb 3 q2.2.1.length) <|
         lv (gt q2.2.1 (3 : Int)) fun x145 =>
         ck (inb 4 q2.2.1.length) <|
         lv (gt q2.2.1 (4 : Int)) fun x148 =>
         lv (f0.Walls ++ [(T_floor_Wall.mk x136 x139 x142 x145 x148)]) fun q0k =>
         ck (apOk 40 q0k.length) <|
         some (q0k, q3)
        else
         bd (
          if word2 = (⟨#[115, 105, 116, 101]⟩ : ByteArray) then
           ck (inb 0 q2.2.1.length) <|
           lv (gt q2.2.1 (0 : Int)) fun x162 =>
           ck (inb 1 q2.2.1.length) <|
           lv (gt q2.2.1 (1 : Int)) fun x165 =>
           lv (q3 ++ [(T_floor_Site.mk x162 x165)]) fun q0l =>
           ck (apOk 16 q0l.length) <|
           some q0l
          else
           some q3) fun q5 =>
         some (f0.Walls, q5)) fun (q0a, q6) =>
       some (f0.Blocks, q0a, q6)) fun (q0b, q0c, q7) =>
     some (f0.Rows, f0.Sites, f0.Layers, q0b, q0c, q7)) fun (q0e, q0f, q0g, q0h, q0i, q9) =>
   some (true, q0e, q0f, q0g, q0h, q0i, f0.Ports, q9)
set_option maxHeartbeats 4000000 in
set_option maxRecDepth 100000 in
theorem c_layfmt_lay_5 {w0 w : World} {l : List Assn} {ρ : Heap} {q5 : Nat} {q0b : Option Addr} {q5u : Nat} {c_f0_3 : Nat} {q0h : List Value} {q0c : Option Addr} {q5v : Nat} {c_f0_4 : Nat} {q0i : List Value} {q0a : Option Addr} {q5w : Nat} {c_f0_5 : Nat} {q0j : List Value} {q0e : Nat} {q9 : Option Addr} {q3d : Nat} {c_sites1_0 : Nat} {q0f : List Value} {f0 : T_floor_Floor} {q7 : List T_floor_Site} {word2 : ByteArray} {s3 : ByteArray} {r : (Bool × Int × Int × Int × List T_floor_Block × List T_floor_Wall × List T_floor_Port × List T_floor_Site)} (hF : P_layfmt_lay_5 f0 q7 word2 s3 = some r) (q26 : RepL R_floor_Block ρ f0.Blocks q0h) (q1y : RepL R_floor_Wall ρ f0.Walls q0i) (q2c : RepL R_floor_Port ρ f0.Ports q0j) (q0n : RepL R_floor_Site ρ q7 q0f) (hS : St w0 w (cells q5 105 [.int .i64 f0.Rows, .int .i64 f0.Sites, .int .i64 f0.Layers, .slice q0b q5u c_f0_3, .slice q0c q5v c_f0_4, .slice q0a q5w c_f0_5] :: vec 120 R_floor_Block.sz (.slice q0b q5u c_f0_3) q5u q0h :: vec 123 R_floor_Wall.sz (.slice q0c q5v c_f0_4) q5v q0i :: vec 117 R_floor_Port.sz (.slice q0a q5w c_f0_5) q5w q0j :: cells q0e 107 [.slice q9 q3d c_sites1_0] :: vec 109 R_floor_Site.sz (.slice q9 q3d c_sites1_0) q3d q0f :: ro ρ :: l)) :
  Calls Tryd.prog 101 #[.pointer (some ⟨q5, 0, none⟩), .pointer (some ⟨q0e, 0, none⟩), .string word2, .string s3] w fun e w' => ∃ (q3n : Option Addr) (q27 : Nat) (c_b_f0_3_ret : Nat) (q3h : List Value) (q3o : Option Addr) (q28 : Nat) (c_b_f0_4_ret : Nat) (q3i : List Value) (q3p : Option Addr) (q29 : Nat) (c_b_f0_5_ret : Nat) (q3j : List Value) (q2a : Option Addr) (q1p : Nat) (c_b_sites1_0_ret : Nat) (q1z : List Value), e = .returned (.bool r.1) ∧ RepL R_floor_Block ρ r.2.2.2.2.1 q3h ∧ RepL R_floor_Wall ρ r.2.2.2.2.2.1 q3i ∧ RepL R_floor_Port ρ r.2.2.2.2.2.2.1 q3j ∧ RepL R_floor_Site ρ r.2.2.2.2.2.2.2 q1z ∧ St w0 w' (cells q5 105 [.int .i64 r.2.1, .int .i64 r.2.2.1, .int .i64 r.2.2.2.1, .slice q3n q27 c_b_f0_3_ret, .slice q3o q28 c_b_f0_4_ret, .slice q3p q29 c_b_f0_5_ret] :: cells q0e 107 [.slice q2a q1p c_b_sites1_0_ret] :: vec 120 R_floor_Block.sz (.slice q3n q27 c_b_f0_3_ret) q27 q3h :: vec 123 R_floor_Wall.sz (.slice q3o q28 c_b_f0_4_ret) q28 q3i :: vec 117 R_floor_Port.sz (.slice q3p q29 c_b_f0_5_ret) q29 q3j :: vec 109 R_floor_Site.sz (.slice q2a q1p c_b_sites1_0_ret) q1p q1z :: ro ρ :: l) := by
 have e_ := St.vec_n (hS.pull 1) q26; subst e_
 have e_ := St.vec_n (hS.pull 2) q1y; subst e_
 have e_ := St.vec_n (hS.pull 3) q2c; subst e_
 have e_ := St.vec_n (hS.pull 5) q0n; subst e_
 refine enterC Tryd.func101 rfl 170 rfl (by simp) ?_
 replace hF := lv_s hF; obtain ⟨x23, hx23, hF⟩ := hF
 refine x_seq <| x_region <| p (yl_assign rfl) <| x_done <|
  x_seq <| x_seq <| x_region <| p (yl_move rfl) <|
  p (yl_eql_string rfl rfl) <| p (yl_move rfl) <| pg (v := .string word2) 20 (c := !(decide (word2 = (⟨#[105, 110]⟩ : ByteArray)))) (says_f _) (fun hq => Yl.at (yl_move rfl)) <| pg (v := .bool (decide (word2 = (⟨#[111, 117, 116]⟩ : ByteArray)))) 20 (c := !(decide (word2 = (⟨#[105, 110]⟩ : ByteArray)))) (says_f _) (fun hq => Yl.at (yl_eql_string (cv hq) rfl)) <|
  p (yor' rfl rfl (fun hc => (cv (t_not hc))) hx23) <| x_done <|
  x_cond (t := x23) rfl (fun hc23 => ?_) (fun hc23 => ?_)
 ·replace hF := it_t hc23 hF
  replace hF := bd_s hF; obtain ⟨q0w, q6u, hF⟩ := hF
  refine x_seq <| x_region <| p (yl_move rfl) <| ?_
  have hcall := c_strings_Split q6u  (hS.pull 6)
  refine o_cc call_30 (args2 rfl rfl) hcall ?_
  rintro e w' ⟨q0g, q70, c_r_2_1, q1q, rfl, q1x, hS⟩
  refine ⟨_, rfl, ?_⟩
  have e_ := St.vec_n hS q1x; subst e_
  refine p (yl_assign rfl) <| x_done <| x_seq <| x_seq <|
   x_region <| p (yl_move rfl) <| p (yl_len_slice usl_26 rfl) <| p (yl_neq rfl rfl) <|
   x_done <|
   x_cond_p ((q0w.length : Int) ≠ 4) rfl (fun hc28 => ?_) (fun hc28 => ?_)
  ·replace hF := it_t hc28 hF
   refine x_seq <| x_region <| p (yl_assign rfl) <| x_done <| ?_
   have e_ := Option.some.inj (show some _ = some _ from hF); subst e_
   exact x_return ⟨_, ⟨_, _, rfl, rfl, rfl⟩, q0b, f0.Blocks.length, c_f0_3, q0h, q0c, f0.Walls.length, c_f0_4, q0i, q0a, f0.Ports.length, c_f0_5, q0j, q9, q7.length, c_sites1_0, q0f, rfl, q26, q1y, q2c, q0n, ((((((hS.drop.pull 6).pull 5).pull 5).pull 5).pull 6).pull 6)⟩
  ·replace hF := it_f hc28 hF
   replace hF := ck_s hF; obtain ⟨q6c, hF⟩ := hF
   replace hF := lv_s hF; obtain ⟨x32, hx32, hF⟩ := hF
   replace hF := bd_s hF; obtain ⟨q0x, q6v, hF⟩ := hF
   refine x_skip <| x_seq <| x_region <| p (yl_move rfl) <|
    p (yix_o sl_26 rfl rfl hS q1x q6c) <| pa (at_load one_9 rfl (RepL.getW q1x hS q6c hx32)) <| ?_
   have hcall := c_strings_CutPrefix q6v  (hS.pull 1)
   refine o_cc call_146 (args2 rfl rfl) ((Calls.mono hcall (fun e w'' h => And.intro h.1 ((((((((h.2.pull 7).pull 7).pull 7).pull 7).pull 7).pull 7).pull 6).pull 7)))) ?_
   rintro e w' ⟨rfl, hS⟩
   refine ⟨_, rfl, ?_⟩
   refine p (v := .tuple #[.string q0x.1, .bool q0x.2]) (yl_move rfl) <| p (yl_extract rfl rfl) <| p (yl_extract rfl rfl) <| p (yl_assign rfl) <|
    p (yl_assign rfl) <| x_done <| x_seq <| ?_
   replace hF := ck_s hF; obtain ⟨q6d, hF⟩ := hF
   replace hF := lv_s hF; obtain ⟨x39, hx39, hF⟩ := hF
   replace hF := ck_s hF; obtain ⟨q6w, hF⟩ := hF
   replace hF := ck_s hF; obtain ⟨q6x, hF⟩ := hF
   replace hF := ck_s hF; obtain ⟨q6e, hF⟩ := hF
   replace hF := lv_s hF; obtain ⟨x44, hx44, hF⟩ := hF
   replace hF := ck_s hF; obtain ⟨q6y, hF⟩ := hF
   replace hF := bd_s hF; obtain ⟨q8, q6z, hF⟩ := hF
   refine x_par (w0 := w0) [⟨[], [], [37], [], [], []⟩, ⟨[0], [0], [38], [0], [], []⟩, ⟨[0, 1], [1], [39], [0], [], []⟩, ⟨[0, 1, 2], [2], [40], [], [], []⟩, ⟨[0, 1, 2, 3], [3], [41], [], [], []⟩, ⟨[], [], [42], [], [], []⟩, ⟨[5], [5], [43], [0], [], []⟩, ⟨[5, 6], [6], [44], [0], [], []⟩, ⟨[0, 1, 2, 3, 4, 5, 6, 7], [4, 7], [45], [], [], []⟩, ⟨[0, 1, 2, 3, 4, 5, 6, 7, 8], [8], [46], [1], [], [2]⟩, ⟨[0, 1, 2, 3, 4, 5, 6, 7, 8, 9], [9], [36, 46], [], [], []⟩, ⟨[0, 1, 2, 3, 4, 5, 6, 7, 8, 9, 10], [9, 10], [47], [], [], []⟩, ⟨[0, 1, 2, 3, 4, 5, 6, 7, 8, 9, 10], [9, 10], [46, 48], [], [], []⟩, ⟨[0, 1, 2, 3, 4, 5, 6, 7, 8, 9, 10], [9, 10], [49], [], [], []⟩, ⟨[0, 1, 2, 3, 4, 5, 6, 7, 8, 9, 10, 11], [11], [12], [], [], []⟩, ⟨[0, 1, 2, 3, 4, 5, 6, 7, 8, 9, 10, 11, 12, 14], [9, 12], [13, 46], [], [], []⟩, ⟨[0, 1, 2, 3, 4, 5, 6, 7, 8, 9, 10, 11, 12, 13, 14, 15], [13], [14], [], [], []⟩] [⟨none, none, []⟩, ⟨none, none, []⟩, ⟨(some 9), none, [46]⟩] [12, 13, 14, 36, 37, 38, 39, 40, 41, 42, 43, 44, 45, 46, 47, 48, 49] [0, 1] [0, 1, 2] [0, 1, 2, 3, 4, 5, 6, 7, 8, 9, 10, 11, 12, 13, 14, 15, 16] [fun Ep6 => Ep6 37 = .slice q0g q0w.length c_r_2_1, fun Ep6 => Ep6 38 = .pointer (some ((adr q0g).add ((2 : Int).toNat * RpS.sz))), fun Ep6 => Ep6 39 = .string x39, fun Ep6 => Ep6 40 = .string ((⟨#[115, 105, 116, 101, 32]⟩ : ByteArray) ++ x39), fun Ep6 => Ep6 41 = .string (((⟨#[115, 105, 116, 101, 32]⟩ : ByteArray) ++ x39) ++ (⟨#[32]⟩ : ByteArray)), fun Ep6 => Ep6 42 = .slice q0g q0w.length c_r_2_1, fun Ep6 => Ep6 43 = .pointer (some ((adr q0g).add ((3 : Int).toNat * RpS.sz))), fun Ep6 => Ep6 44 = .string x44, fun Ep6 => Ep6 45 = .string ((((⟨#[115, 105, 116, 101, 32]⟩ : ByteArray) ++ x39) ++ (⟨#[32]⟩ : ByteArray)) ++ x44), fun Ep6 => Ep6 46 = .tuple #[.string q8.1, .slice (adOf (partOf 1 (Ep6 46))) q8.2.1.length (capOf (partOf 1 (Ep6 46))), .bool q8.2.2], fun Ep6 => Ep6 36 = .tuple #[.string q8.1, .slice (adOf (partOf 1 (Ep6 46))) q8.2.1.length (capOf (partOf 1 (Ep6 46))), .bool q8.2.2], fun Ep6 => Ep6 47 = .string q8.1, fun Ep6 => Ep6 48 = .slice (adOf (partOf 1 (Ep6 46))) q8.2.1.length (capOf (partOf 1 (Ep6 46))), fun Ep6 => Ep6 49 = .bool q8.2.2, fun Ep6 => Ep6 12 = .string q8.1, fun Ep6 => Ep6 13 = .slice (adOf (partOf 1 (Ep6 46))) q8.2.1.length (capOf (partOf 1 (Ep6 46))), fun Ep6 => Ep6 14 = .bool q8.2.2] [fun Ep6 => vec 9 RpS.sz (.slice q0g q0w.length c_r_2_1) q0w.length q1q, fun Ep6 => ro ρ, fun Ep6 => bunA (fun (q0d : List Value) => RepL (RpI .i64) ρ q8.2.1 q0d) (fun (q0d : List Value) => [vec 3 (RpI .i64).sz (.slice (adOf (partOf 1 (Ep6 46))) q8.2.1.length (capOf (partOf 1 (Ep6 46)))) q8.2.1.length q0d])] mixed (by kernel_rfl) ((hS.pull 1).pull 1) ?_ ?_
   ·refine ⟨?_, ?_, ?_, ?_, ?_, ?_, ?_, ?_, ?_, ?_, ?_, ?_, ?_, ?_, ?_, ?_, ?_, trivial⟩
    ·intro Ep6 w l' hE6 hO6 hF_ hS
     refine p (yl_move (hE6 9 rfl)) <| x_done <| ?_
     refine x_fin ⟨⟨_, rfl⟩, rfl, ?_⟩
     exact Eq.mp (by kernel_rfl) hS
    ·intro Ep6 w l' hE6 hO6 hF_ hS
     obtain ⟨q5a, -⟩ := hF_
     replace q5a : Ep6 37 = .slice q0g q0w.length c_r_2_1 := Eq.mp (by kernel_rfl) q5a
     replace hS : St w0 w (vec 9 RpS.sz (.slice q0g q0w.length c_r_2_1) q0w.length q1q :: l') := Eq.mp (by kernel_rfl) hS
     refine p (yix_o sl_26 q5a rfl hS q1x q6d) <| x_done <| ?_
     refine x_fin ⟨⟨_, rfl⟩, rfl, ?_⟩
     exact Eq.mp (by kernel_rfl) hS
    ·intro Ep6 w l' hE6 hO6 hF_ hS
     obtain ⟨q5b, -⟩ := hF_
     replace q5b : Ep6 38 = .pointer (some ((adr q0g).add ((2 : Int).toNat * RpS.sz))) := Eq.mp (by kernel_rfl) q5b
     replace hS : St w0 w (vec 9 RpS.sz (.slice q0g q0w.length c_r_2_1) q0w.length q1q :: l') := Eq.mp (by kernel_rfl) hS
     refine pa (at_load one_9 q5b (RepL.getW q1x hS q6d hx39)) <| x_done <| ?_
     refine x_fin ⟨⟨_, rfl⟩, rfl, ?_⟩
     exact Eq.mp (by kernel_rfl) hS
    ·intro Ep6 w l' hE6 hO6 hF_ hS
     obtain ⟨q5c, -⟩ := hF_
     replace q5c : Ep6 39 = .string x39 := Eq.mp (by kernel_rfl) q5c
     refine p (yadds rfl q5c q6w) <| x_done <| ?_
     refine x_fin ⟨⟨_, rfl⟩, rfl, ?_⟩
     exact Eq.mp (by kernel_rfl) hS
    ·intro Ep6 w l' hE6 hO6 hF_ hS
     obtain ⟨q5d, -⟩ := hF_
     replace q5d : Ep6 40 = .string ((⟨#[115, 105, 116, 101, 32]⟩ : ByteArray) ++ x39) := Eq.mp (by kernel_rfl) q5d
     refine p (yadds q5d rfl q6x) <| x_done <| ?_
     refine x_fin ⟨⟨_, rfl⟩, rfl, ?_⟩
     exact Eq.mp (by kernel_rfl) hS
    ·intro Ep6 w l' hE6 hO6 hF_ hS
     refine p (yl_move (hE6 9 rfl)) <| x_done <| ?_
     refine x_fin ⟨⟨_, rfl⟩, rfl, ?_⟩
     exact Eq.mp (by kernel_rfl) hS
    ·intro Ep6 w l' hE6 hO6 hF_ hS
     obtain ⟨q5e, -⟩ := hF_
     replace q5e : Ep6 42 = .slice q0g q0w.length c_r_2_1 := Eq.mp (by kernel_rfl) q5e
     replace hS : St w0 w (vec 9 RpS.sz (.slice q0g q0w.length c_r_2_1) q0w.length q1q :: l') := Eq.mp (by kernel_rfl) hS
     refine p (yix_o sl_26 q5e rfl hS q1x q6e) <| x_done <| ?_
     refine x_fin ⟨⟨_, rfl⟩, rfl, ?_⟩
     exact Eq.mp (by kernel_rfl) hS
    ·intro Ep6 w l' hE6 hO6 hF_ hS
     obtain ⟨q5f, -⟩ := hF_
     replace q5f : Ep6 43 = .pointer (some ((adr q0g).add ((3 : Int).toNat * RpS.sz))) := Eq.mp (by kernel_rfl) q5f
     replace hS : St w0 w (vec 9 RpS.sz (.slice q0g q0w.length c_r_2_1) q0w.length q1q :: l') := Eq.mp (by kernel_rfl) hS
     refine pa (at_load one_9 q5f (RepL.getW q1x hS q6e hx44)) <| x_done <| ?_
     refine x_fin ⟨⟨_, rfl⟩, rfl, ?_⟩
     exact Eq.mp (by kernel_rfl) hS
    ·intro Ep6 w l' hE6 hO6 hF_ hS
     obtain ⟨q5g, q5h, -⟩ := hF_
     replace q5g : Ep6 41 = .string (((⟨#[115, 105, 116, 101, 32]⟩ : ByteArray) ++ x39) ++ (⟨#[32]⟩ : ByteArray)) := Eq.mp (by kernel_rfl) q5g
     replace q5h : Ep6 44 = .string x44 := Eq.mp (by kernel_rfl) q5h
     refine p (yadds q5g q5h q6y) <| x_done <| ?_
     refine x_fin ⟨⟨_, rfl⟩, rfl, ?_⟩
     exact Eq.mp (by kernel_rfl) hS
    ·intro Ep6 w l' hE6 hO6 hF_ hS
     obtain ⟨q5i, -⟩ := hF_
     replace q5i : Ep6 45 = .string ((((⟨#[115, 105, 116, 101, 32]⟩ : ByteArray) ++ x39) ++ (⟨#[32]⟩ : ByteArray)) ++ x44) := Eq.mp (by kernel_rfl) q5i
     replace hS : St w0 w (ro ρ :: l') := Eq.mp (by kernel_rfl) hS
     have hcall := c_layfmt_words q6z  hS
     refine o_cc call_89 (args1 q5i) hcall ?_
     rintro e w' ⟨q5x, q6q, c_y1_ret_6_9, q0d, rfl, q0o, hS⟩
     refine ⟨_, rfl, ?_⟩
     have e_ := St.vec_n hS q0o; subst e_
     refine x_done <| ?_
     refine x_fin ⟨⟨_, rfl⟩, rfl, ?_⟩
     replace hS := St.bun (Φ := (fun (q0d : List Value) => RepL (RpI .i64) ρ q8.2.1 q0d)) (L := (fun (q0d : List Value) => [vec 3 (RpI .i64).sz (.slice q5x q8.2.1.length c_y1_ret_6_9) q8.2.1.length q0d])) q0d q0o hS
     exact Eq.mp (by kernel_rfl) (hS.pull 1)
    ·intro Ep6 w l' hE6 hO6 hF_ hS
     obtain ⟨q17, -⟩ := hF_
     replace q17 : Ep6 46 = .tuple #[.string q8.1, .slice (adOf (partOf 1 (Ep6 46))) q8.2.1.length (capOf (partOf 1 (Ep6 46))), .bool q8.2.2] := Eq.mp (by kernel_rfl) q17
     refine p (yl_move q17) <| x_done <| ?_
     refine x_fin ⟨⟨_, rfl⟩, rfl, ?_⟩
     exact Eq.mp (by kernel_rfl) hS
    ·intro Ep6 w l' hE6 hO6 hF_ hS
     obtain ⟨q17, q18, -⟩ := hF_
     replace q17 : Ep6 46 = .tuple #[.string q8.1, .slice (adOf (partOf 1 (Ep6 46))) q8.2.1.length (capOf (partOf 1 (Ep6 46))), .bool q8.2.2] := Eq.mp (by kernel_rfl) q17
     replace q18 : Ep6 36 = .tuple #[.string q8.1, .slice (adOf (partOf 1 (Ep6 46))) q8.2.1.length (capOf (partOf 1 (Ep6 46))), .bool q8.2.2] := Eq.mp (by kernel_rfl) q18
     refine p (yl_extract q18 rfl) <| x_done <| ?_
     refine x_fin ⟨⟨_, rfl⟩, rfl, ?_⟩
     exact Eq.mp (by kernel_rfl) hS
    ·intro Ep6 w l' hE6 hO6 hF_ hS
     obtain ⟨q17, q18, -⟩ := hF_
     replace q17 : Ep6 46 = .tuple #[.string q8.1, .slice (adOf (partOf 1 (Ep6 46))) q8.2.1.length (capOf (partOf 1 (Ep6 46))), .bool q8.2.2] := Eq.mp (by kernel_rfl) q17
     replace q18 : Ep6 36 = .tuple #[.string q8.1, .slice (adOf (partOf 1 (Ep6 46))) q8.2.1.length (capOf (partOf 1 (Ep6 46))), .bool q8.2.2] := Eq.mp (by kernel_rfl) q18
     refine p (yl_extract q18 rfl) <| x_done <| ?_
     refine x_fin ⟨⟨_, rfl⟩, rfl, ?_⟩
     exact Eq.mp (by kernel_rfl) hS
    ·intro Ep6 w l' hE6 hO6 hF_ hS
     obtain ⟨q17, q18, -⟩ := hF_
     replace q17 : Ep6 46 = .tuple #[.string q8.1, .slice (adOf (partOf 1 (Ep6 46))) q8.2.1.length (capOf (partOf 1 (Ep6 46))), .bool q8.2.2] := Eq.mp (by kernel_rfl) q17
     replace q18 : Ep6 36 = .tuple #[.string q8.1, .slice (adOf (partOf 1 (Ep6 46))) q8.2.1.length (capOf (partOf 1 (Ep6 46))), .bool q8.2.2] := Eq.mp (by kernel_rfl) q18
     refine p (yl_extract q18 rfl) <| x_done <| ?_
     refine x_fin ⟨⟨_, rfl⟩, rfl, ?_⟩
     exact Eq.mp (by kernel_rfl) hS
    ·intro Ep6 w l' hE6 hO6 hF_ hS
     obtain ⟨q3t, -⟩ := hF_
     replace q3t : Ep6 47 = .string q8.1 := Eq.mp (by kernel_rfl) q3t
     refine p (yl_assign q3t) <| x_done <| ?_
     refine x_fin ⟨⟨_, rfl⟩, rfl, ?_⟩
     exact Eq.mp (by kernel_rfl) hS
    ·intro Ep6 w l' hE6 hO6 hF_ hS
     obtain ⟨q17, q3u, -⟩ := hF_
     replace q17 : Ep6 46 = .tuple #[.string q8.1, .slice (adOf (partOf 1 (Ep6 46))) q8.2.1.length (capOf (partOf 1 (Ep6 46))), .bool q8.2.2] := Eq.mp (by kernel_rfl) q17
     replace q3u : Ep6 48 = .slice (adOf (partOf 1 (Ep6 46))) q8.2.1.length (capOf (partOf 1 (Ep6 46))) := Eq.mp (by kernel_rfl) q3u
     refine p (yl_assign q3u) <| x_done <| ?_
     refine x_fin ⟨⟨_, rfl⟩, rfl, ?_⟩
     exact Eq.mp (by kernel_rfl) hS
    ·intro Ep6 w l' hE6 hO6 hF_ hS
     obtain ⟨q3v, -⟩ := hF_
     replace q3v : Ep6 49 = .bool q8.2.2 := Eq.mp (by kernel_rfl) q3v
     refine p (yl_assign q3v) <| x_done <| ?_
     refine x_fin ⟨⟨_, rfl⟩, rfl, ?_⟩
     exact Eq.mp (by kernel_rfl) hS
   intro Ep6 w' hE6 hF_ hS
   obtain ⟨q5a, q5b, q5c, q5d, q5g, q5e, q5f, q5h, q5i, q17, q18, q3t, q3u, q3v, q6f, q5t, q59, -⟩ := hF_
   replace q5a : Ep6 37 = .slice q0g q0w.length c_r_2_1 := Eq.mp (by kernel_rfl) q5a
   replace q5b : Ep6 38 = .pointer (some ((adr q0g).add ((2 : Int).toNat * RpS.sz))) := Eq.mp (by kernel_rfl) q5b
   replace q5c : Ep6 39 = .string x39 := Eq.mp (by kernel_rfl) q5c
   replace q5d : Ep6 40 = .string ((⟨#[115, 105, 116, 101, 32]⟩ : ByteArray) ++ x39) := Eq.mp (by kernel_rfl) q5d
   replace q5g : Ep6 41 = .string (((⟨#[115, 105, 116, 101, 32]⟩ : ByteArray) ++ x39) ++ (⟨#[32]⟩ : ByteArray)) := Eq.mp (by kernel_rfl) q5g
   replace q5e : Ep6 42 = .slice q0g q0w.length c_r_2_1 := Eq.mp (by kernel_rfl) q5e
   replace q5f : Ep6 43 = .pointer (some ((adr q0g).add ((3 : Int).toNat * RpS.sz))) := Eq.mp (by kernel_rfl) q5f
   replace q5h : Ep6 44 = .string x44 := Eq.mp (by kernel_rfl) q5h
   replace q5i : Ep6 45 = .string ((((⟨#[115, 105, 116, 101, 32]⟩ : ByteArray) ++ x39) ++ (⟨#[32]⟩ : ByteArray)) ++ x44) := Eq.mp (by kernel_rfl) q5i
   replace q17 : Ep6 46 = .tuple #[.string q8.1, .slice (adOf (partOf 1 (Ep6 46))) q8.2.1.length (capOf (partOf 1 (Ep6 46))), .bool q8.2.2] := Eq.mp (by kernel_rfl) q17
   replace q18 : Ep6 36 = .tuple #[.string q8.1, .slice (adOf (partOf 1 (Ep6 46))) q8.2.1.length (capOf (partOf 1 (Ep6 46))), .bool q8.2.2] := Eq.mp (by kernel_rfl) q18
   replace q3t : Ep6 47 = .string q8.1 := Eq.mp (by kernel_rfl) q3t
   replace q3u : Ep6 48 = .slice (adOf (partOf 1 (Ep6 46))) q8.2.1.length (capOf (partOf 1 (Ep6 46))) := Eq.mp (by kernel_rfl) q3u
   replace q3v : Ep6 49 = .bool q8.2.2 := Eq.mp (by kernel_rfl) q3v
   replace q6f : Ep6 12 = .string q8.1 := Eq.mp (by kernel_rfl) q6f
   replace q5t : Ep6 13 = .slice (adOf (partOf 1 (Ep6 46))) q8.2.1.length (capOf (partOf 1 (Ep6 46))) := Eq.mp (by kernel_rfl) q5t
   replace q59 : Ep6 14 = .bool q8.2.2 := Eq.mp (by kernel_rfl) q59
   replace hS : St w0 w' (vec 9 RpS.sz (.slice q0g q0w.length c_r_2_1) q0w.length q1q :: ro ρ :: bunA (fun (q0d : List Value) => RepL (RpI .i64) ρ q8.2.1 q0d) (fun (q0d : List Value) => [vec 3 (RpI .i64).sz (.slice (adOf (partOf 1 (Ep6 46))) q8.2.1.length (capOf (partOf 1 (Ep6 46)))) q8.2.1.length q0d]) :: (cells q5 105 [.int .i64 f0.Rows, .int .i64 f0.Sites, .int .i64 f0.Layers, .slice q0b f0.Blocks.length c_f0_3, .slice q0c f0.Walls.length c_f0_4, .slice q0a f0.Ports.length c_f0_5] :: vec 120 R_floor_Block.sz (.slice q0b f0.Blocks.length c_f0_3) f0.Blocks.length q0h :: vec 123 R_floor_Wall.sz (.slice q0c f0.Walls.length c_f0_4) f0.Walls.length q0i :: vec 117 R_floor_Port.sz (.slice q0a f0.Ports.length c_f0_5) f0.Ports.length q0j :: cells q0e 107 [.slice q9 q7.length c_sites1_0] :: vec 109 R_floor_Site.sz (.slice q9 q7.length c_sites1_0) q7.length q0f :: l)) := Eq.mp (by kernel_rfl) hS
   have q_ := St.unbun (hS.pull 2); obtain ⟨q0d, q0o, hS⟩ := q_
   replace hF := lv_s hF; obtain ⟨x53, hx53, hF⟩ := hF
   refine x_seq <| x_seq <| x_region <| p (yl_move (hE6 11 rfl)) <|
    p (yl_move rfl) <| pg (v := .bool q8.2.2) 51 (c := q0x.2) (says_t _) (fun hq => Yl.at (yl_move q59)) <| p (yand' rfl (fun hc => (cv hc)) rfl hx53) <| x_done <| ?_
   replace hF := bd_s hF; obtain ⟨oc53, hFc53, hF⟩ := hF
   refine x_join (fun E w => ∃ (q1r : Option Addr) (q1s : Nat) (c_b_f0_5_c53 : Nat) (q1g : List Value) (q23 : List T_floor_Port), q23 = oc53 ∧ E 11 = .bool q0x.2 ∧ E 14 = .bool q8.2.2 ∧ RepL R_floor_Port ρ q23 q1g ∧ St w0 w (cells q5 105 [.int .i64 f0.Rows, .int .i64 f0.Sites, .int .i64 f0.Layers, .slice q0b f0.Blocks.length c_f0_3, .slice q0c f0.Walls.length c_f0_4, .slice q1r q1s c_b_f0_5_c53] :: cells q0e 107 [.slice q9 q7.length c_sites1_0] :: vec 120 R_floor_Block.sz (.slice q0b f0.Blocks.length c_f0_3) f0.Blocks.length q0h :: vec 123 R_floor_Wall.sz (.slice q0c f0.Walls.length c_f0_4) f0.Walls.length q0i :: vec 117 R_floor_Port.sz (.slice q1r q1s c_b_f0_5_c53) q1s q1g :: vec 109 R_floor_Site.sz (.slice q9 q7.length c_sites1_0) q7.length q0f :: ro ρ :: l)) ?_ ?_
   ·refine x_cond (t := x53) rfl (fun hc53 => ?_) (fun hc53 => ?_)
    ·replace hFc53 := it_t hc53 hFc53
     replace hFc53 := ck_s hFc53; obtain ⟨q6g, hFc53⟩ := hFc53
     replace hFc53 := lv_s hFc53; obtain ⟨x64, hx64, hFc53⟩ := hFc53
     replace hFc53 := ck_s hFc53; obtain ⟨q63, hFc53⟩ := hFc53
     replace hFc53 := lv_s hFc53; obtain ⟨x67, hx67, hFc53⟩ := hFc53
     replace hFc53 := lv_s hFc53; obtain ⟨q0p, q6r, hFc53⟩ := hFc53
     replace hFc53 := ck_s hFc53; obtain ⟨q6s, hFc53⟩ := hFc53
     refine x_par (w0 := w0) [⟨[], [], [54], [], [], []⟩, ⟨[], [], [55], [], [], []⟩, ⟨[1], [1], [56], [], [], []⟩, ⟨[1, 2], [2], [57], [], [], []⟩, ⟨[1, 2, 3], [3], [58], [0], [], []⟩, ⟨[], [], [59], [], [], []⟩, ⟨[], [], [60], [], [], []⟩, ⟨[6], [6], [61], [], [], []⟩, ⟨[], [], [62], [], [], []⟩, ⟨[8], [8], [63], [1], [], []⟩, ⟨[8, 9], [9], [64], [1], [], []⟩, ⟨[], [], [65], [], [], []⟩, ⟨[11], [11], [66], [1], [], []⟩, ⟨[11, 12], [12], [67], [1], [], []⟩, ⟨[5, 6, 7, 8, 9, 10, 11, 12, 13], [5, 7, 10, 13], [68], [], [], []⟩, ⟨[5, 6, 7, 8, 9, 10, 11, 12, 13, 14], [14], [69], [], [], [2]⟩, ⟨[1, 2, 3, 4, 5, 6, 7, 8, 9, 10, 11, 12, 13, 14, 15], [4, 15], [70], [2, 4], [3], [5]⟩, ⟨[0, 1, 2, 3, 4, 5, 6, 7, 8, 9, 10, 11, 12, 13, 14, 15, 16], [0], [71], [], [], []⟩, ⟨[0, 1, 2, 3, 4, 5, 6, 7, 8, 9, 10, 11, 12, 13, 14, 15, 16, 17], [17], [72], [], [], []⟩, ⟨[0, 1, 2, 3, 4, 5, 6, 7, 8, 9, 10, 11, 12, 13, 14, 15, 16, 17, 18], [16, 18], [], [], [0], [6]⟩] [⟨none, (some 19), []⟩, ⟨none, none, []⟩, ⟨(some 15), none, [69]⟩, ⟨none, (some 16), []⟩, ⟨none, none, []⟩, ⟨(some 16), none, [70]⟩, ⟨(some 19), none, [70]⟩] [54, 55, 56, 57, 58, 59, 60, 61, 62, 63, 64, 65, 66, 67, 68, 69, 70, 71, 72] [0, 1, 3, 4] [1, 2, 4, 5, 6] [0, 1, 2, 3, 4, 5, 6, 7, 8, 9, 10, 11, 12, 13, 14, 15, 16, 17, 18] [fun Ep8 => Ep8 54 = .pointer (some ⟨q5, 0, none⟩), fun Ep8 => Ep8 55 = .pointer (some ⟨q5, 0, none⟩), fun Ep8 => Ep8 56 = .pointer (some ⟨q5, 0, none⟩), fun Ep8 => Ep8 57 = .pointer (some ⟨q5, 5, none⟩), fun Ep8 => Ep8 58 = .slice q0a f0.Ports.length c_f0_5, fun Ep8 => Ep8 59 = .string q0x.1, fun Ep8 => Ep8 60 = .string word2, fun Ep8 => Ep8 61 = .bool (decide (word2 = (⟨#[111, 117, 116]⟩ : ByteArray))), fun Ep8 => Ep8 62 = .slice (adOf (partOf 1 (Ep6 46))) q8.2.1.length (capOf (partOf 1 (Ep6 46))), fun Ep8 => Ep8 63 = .pointer (some ((adr (adOf (partOf 1 (Ep6 46)))).add ((0 : Int).toNat * (RpI .i64).sz))), fun Ep8 => Ep8 64 = .int .i64 x64, fun Ep8 => Ep8 65 = .slice (adOf (partOf 1 (Ep6 46))) q8.2.1.length (capOf (partOf 1 (Ep6 46))), fun Ep8 => Ep8 66 = .pointer (some ((adr (adOf (partOf 1 (Ep6 46)))).add ((1 : Int).toNat * (RpI .i64).sz))), fun Ep8 => Ep8 67 = .int .i64 x67, fun Ep8 => Ep8 68 = .agg #[.string q0x.1, .bool (decide (word2 = (⟨#[111, 117, 116]⟩ : ByteArray))), .int .i64 x64, .int .i64 x67], fun Ep8 => Ep8 69 = .slice (some ⟨(blkOf (Ep8 69)), 0, none⟩) 1 1, fun Ep8 => Ep8 70 = .slice (adOf (Ep8 70)) q0p.length (capOf (Ep8 70)), fun Ep8 => Ep8 71 = .pointer (some ⟨q5, 0, none⟩), fun Ep8 => Ep8 72 = .pointer (some ⟨q5, 5, none⟩), fun Ep8 => True] [fun Ep8 => cells q5 105 [.int .i64 f0.Rows, .int .i64 f0.Sites, .int .i64 f0.Layers, .slice q0b f0.Blocks.length c_f0_3, .slice q0c f0.Walls.length c_f0_4, .slice q0a f0.Ports.length c_f0_5], fun Ep8 => vec 3 (RpI .i64).sz (.slice (adOf (partOf 1 (Ep6 46))) q8.2.1.length (capOf (partOf 1 (Ep6 46)))) q8.2.1.length q0d, fun Ep8 => cells (blkOf (Ep8 69)) 117 [.string q0x.1, .bool (decide (word2 = (⟨#[111, 117, 116]⟩ : ByteArray))), .int .i64 x64, .int .i64 x67], fun Ep8 => vec 117 R_floor_Port.sz (.slice q0a f0.Ports.length c_f0_5) f0.Ports.length q0j, fun Ep8 => ro ρ, fun Ep8 => bunA (fun (cs70 : List Value) => RepL R_floor_Port ρ q0p cs70) (fun (cs70 : List Value) => [vec 117 R_floor_Port.sz (.slice (adOf (Ep8 70)) q0p.length (capOf (Ep8 70))) q0p.length cs70]), fun Ep8 => cells q5 105 [.int .i64 f0.Rows, .int .i64 f0.Sites, .int .i64 f0.Layers, .slice q0b f0.Blocks.length c_f0_3, .slice q0c f0.Walls.length c_f0_4, .slice (adOf (Ep8 70)) q0p.length (capOf (Ep8 70))]] mixed (by kernel_rfl) ((((hS.pull 2).pull 6).pull 2).pull 4) ?_ ?_
     ·refine ⟨?_, ?_, ?_, ?_, ?_, ?_, ?_, ?_, ?_, ?_, ?_, ?_, ?_, ?_, ?_, ?_, ?_, ?_, ?_, ?_, trivial⟩
      ·intro Ep8 w l' hE8 hO8 hF_ hS
       refine p (yl_move ((hE8 0 rfl).trans (hE6 0 rfl))) <| x_done <| ?_
       refine x_fin ⟨⟨_, rfl⟩, rfl, ?_⟩
       exact Eq.mp (by kernel_rfl) hS
      ·intro Ep8 w l' hE8 hO8 hF_ hS
       refine p (yl_move ((hE8 0 rfl).trans (hE6 0 rfl))) <| x_done <| ?_
       refine x_fin ⟨⟨_, rfl⟩, rfl, ?_⟩
       exact Eq.mp (by kernel_rfl) hS
      ·intro Ep8 w l' hE8 hO8 hF_ hS
       obtain ⟨q5j, -⟩ := hF_
       replace q5j : Ep8 55 = .pointer (some ⟨q5, 0, none⟩) := Eq.mp (by kernel_rfl) q5j
       refine p (yl_nilCheck q5j) <| x_done <| ?_
       refine x_fin ⟨⟨_, rfl⟩, rfl, ?_⟩
       exact Eq.mp (by kernel_rfl) hS
      ·intro Ep8 w l' hE8 hO8 hF_ hS
       obtain ⟨q5k, -⟩ := hF_
       replace q5k : Ep8 56 = .pointer (some ⟨q5, 0, none⟩) := Eq.mp (by kernel_rfl) q5k
       refine p (yl_field0 fld_105_5 q5k) <| x_done <| ?_
       refine x_fin ⟨⟨_, rfl⟩, rfl, ?_⟩
       exact Eq.mp (by kernel_rfl) hS
      ·intro Ep8 w l' hE8 hO8 hF_ hS
       obtain ⟨q5l, -⟩ := hF_
       replace q5l : Ep8 57 = .pointer (some ⟨q5, 5, none⟩) := Eq.mp (by kernel_rfl) q5l
       replace hS : St w0 w (cells q5 105 [.int .i64 f0.Rows, .int .i64 f0.Sites, .int .i64 f0.Layers, .slice q0b f0.Blocks.length c_f0_3, .slice q0c f0.Walls.length c_f0_4, .slice q0a f0.Ports.length c_f0_5] :: l') := Eq.mp (by kernel_rfl) hS
       refine pa (at_load one_103 q5l (hS.cell rfl)) <| x_done <| ?_
       refine x_fin ⟨⟨_, rfl⟩, rfl, ?_⟩
       exact Eq.mp (by kernel_rfl) hS
      ·intro Ep8 w l' hE8 hO8 hF_ hS
       refine p (yl_move ((hE8 10 rfl).trans (hE6 10 rfl))) <| x_done <| ?_
       refine x_fin ⟨⟨_, rfl⟩, rfl, ?_⟩
       exact Eq.mp (by kernel_rfl) hS
      ·intro Ep8 w l' hE8 hO8 hF_ hS
       refine p (yl_move ((hE8 2 rfl).trans (hE6 2 rfl))) <| x_done <| ?_
       refine x_fin ⟨⟨_, rfl⟩, rfl, ?_⟩
       exact Eq.mp (by kernel_rfl) hS
      ·intro Ep8 w l' hE8 hO8 hF_ hS
       obtain ⟨q5m, -⟩ := hF_
       replace q5m : Ep8 60 = .string word2 := Eq.mp (by kernel_rfl) q5m
       refine p (yl_eql_string q5m rfl) <| x_done <| ?_
       refine x_fin ⟨⟨_, rfl⟩, rfl, ?_⟩
       exact Eq.mp (by kernel_rfl) hS
      ·intro Ep8 w l' hE8 hO8 hF_ hS
       refine p (yl_move ((hE8 13 rfl).trans q5t)) <| x_done <| ?_
       refine x_fin ⟨⟨_, rfl⟩, rfl, ?_⟩
       exact Eq.mp (by kernel_rfl) hS
      ·intro Ep8 w l' hE8 hO8 hF_ hS
       obtain ⟨q5n, -⟩ := hF_
       replace q5n : Ep8 62 = .slice (adOf (partOf 1 (Ep6 46))) q8.2.1.length (capOf (partOf 1 (Ep6 46))) := Eq.mp (by kernel_rfl) q5n
       replace hS : St w0 w (vec 3 (RpI .i64).sz (.slice (adOf (partOf 1 (Ep6 46))) q8.2.1.length (capOf (partOf 1 (Ep6 46)))) q8.2.1.length q0d :: l') := Eq.mp (by kernel_rfl) hS
       refine p (yix_o sl_22 q5n rfl hS q0o q6g) <| x_done <| ?_
       refine x_fin ⟨⟨_, rfl⟩, rfl, ?_⟩
       exact Eq.mp (by kernel_rfl) hS
      ·intro Ep8 w l' hE8 hO8 hF_ hS
       obtain ⟨q5o, -⟩ := hF_
       replace q5o : Ep8 63 = .pointer (some ((adr (adOf (partOf 1 (Ep6 46)))).add ((0 : Int).toNat * (RpI .i64).sz))) := Eq.mp (by kernel_rfl) q5o
       replace hS : St w0 w (vec 3 (RpI .i64).sz (.slice (adOf (partOf 1 (Ep6 46))) q8.2.1.length (capOf (partOf 1 (Ep6 46)))) q8.2.1.length q0d :: l') := Eq.mp (by kernel_rfl) hS
       refine pa (at_load one_3 q5o (RepL.getW q0o hS q6g hx64)) <| x_done <| ?_
       refine x_fin ⟨⟨_, rfl⟩, rfl, ?_⟩
       exact Eq.mp (by kernel_rfl) hS
      ·intro Ep8 w l' hE8 hO8 hF_ hS
       refine p (yl_move ((hE8 13 rfl).trans q5t)) <| x_done <| ?_
       refine x_fin ⟨⟨_, rfl⟩, rfl, ?_⟩
       exact Eq.mp (by kernel_rfl) hS
      ·intro Ep8 w l' hE8 hO8 hF_ hS
       obtain ⟨q3w, -⟩ := hF_
       replace q3w : Ep8 65 = .slice (adOf (partOf 1 (Ep6 46))) q8.2.1.length (capOf (partOf 1 (Ep6 46))) := Eq.mp (by kernel_rfl) q3w
       replace hS : St w0 w (vec 3 (RpI .i64).sz (.slice (adOf (partOf 1 (Ep6 46))) q8.2.1.length (capOf (partOf 1 (Ep6 46)))) q8.2.1.length q0d :: l') := Eq.mp (by kernel_rfl) hS
       refine p (yix_o sl_22 q3w rfl hS q0o q63) <| x_done <| ?_
       refine x_fin ⟨⟨_, rfl⟩, rfl, ?_⟩
       exact Eq.mp (by kernel_rfl) hS
      ·intro Ep8 w l' hE8 hO8 hF_ hS
       obtain ⟨q3x, -⟩ := hF_
       replace q3x : Ep8 66 = .pointer (some ((adr (adOf (partOf 1 (Ep6 46)))).add ((1 : Int).toNat * (RpI .i64).sz))) := Eq.mp (by kernel_rfl) q3x
       replace hS : St w0 w (vec 3 (RpI .i64).sz (.slice (adOf (partOf 1 (Ep6 46))) q8.2.1.length (capOf (partOf 1 (Ep6 46)))) q8.2.1.length q0d :: l') := Eq.mp (by kernel_rfl) hS
       refine pa (at_load one_3 q3x (RepL.getW q0o hS q63 hx67)) <| x_done <| ?_
       refine x_fin ⟨⟨_, rfl⟩, rfl, ?_⟩
       exact Eq.mp (by kernel_rfl) hS
      ·intro Ep8 w l' hE8 hO8 hF_ hS
       obtain ⟨q5p, q5q, q3y, q3z, -⟩ := hF_
       replace q5p : Ep8 59 = .string q0x.1 := Eq.mp (by kernel_rfl) q5p
       replace q5q : Ep8 61 = .bool (decide (word2 = (⟨#[111, 117, 116]⟩ : ByteArray))) := Eq.mp (by kernel_rfl) q5q
       replace q3y : Ep8 64 = .int .i64 x64 := Eq.mp (by kernel_rfl) q3y
       replace q3z : Ep8 67 = .int .i64 x67 := Eq.mp (by kernel_rfl) q3z
       refine p (v := .agg #[.string q0x.1, .bool (decide (word2 = (⟨#[111, 117, 116]⟩ : ByteArray))), .int .i64 x64, .int .i64 x67]) (yl_build bld_117 bldf_117 (parts_eq (pt (va := .string q0x.1) q5p (pt (va := .bool (decide (word2 = (⟨#[111, 117, 116]⟩ : ByteArray)))) q5q (pt (va := .int .i64 x64) q3y (pt (va := .int .i64 x67) q3z pt0))))) (by kernel_rfl)) <| x_done <| ?_
       refine x_fin ⟨⟨_, rfl⟩, rfl, ?_⟩
       exact Eq.mp (by kernel_rfl) hS
      ·intro Ep8 w l' hE8 hO8 hF_ hS
       obtain ⟨q40, -⟩ := hF_
       replace q40 : Ep8 68 = .agg #[.string q0x.1, .bool (decide (word2 = (⟨#[111, 117, 116]⟩ : ByteArray))), .int .i64 x64, .int .i64 x67] := Eq.mp (by kernel_rfl) q40
       refine o_buildSlice (vs := [.agg #[.string q0x.1, .bool (decide (word2 = (⟨#[111, 117, 116]⟩ : ByteArray))), .int .i64 x64, .int .i64 x67]]) (cs := [.string q0x.1, .bool (decide (word2 = (⟨#[111, 117, 116]⟩ : ByteArray))), .int .i64 x64, .int .i64 x67]) sl_103 zero_117 (parts_eq (pt (va := .agg #[.string q0x.1, .bool (decide (word2 = (⟨#[111, 117, 116]⟩ : ByteArray))), .int .i64 x64, .int .i64 x67]) q40 pt0)) rfl (by intro v hv; simp only [List.mem_cons, List.not_mem_nil, or_false] at hv; first | (subst hv; rfl) | (rcases hv with rfl <;> rfl)) (by decide) rfl hS (fun b69 w' hS => ?_)
       refine x_done <| ?_
       refine x_fin ⟨⟨_, rfl⟩, rfl, ?_⟩
       exact Eq.mp (by kernel_rfl) hS
      ·intro Ep8 w l' hE8 hO8 hF_ hS
       obtain ⟨q5r, q41, -⟩ := hF_
       replace q5r : Ep8 58 = .slice q0a f0.Ports.length c_f0_5 := Eq.mp (by kernel_rfl) q5r
       replace q41 : Ep8 69 = .slice (some ⟨(blkOf (Ep8 69)), 0, none⟩) 1 1 := Eq.mp (by kernel_rfl) q41
       replace hS : St w0 w (cells (blkOf (Ep8 69)) 117 [.string q0x.1, .bool (decide (word2 = (⟨#[111, 117, 116]⟩ : ByteArray))), .int .i64 x64, .int .i64 x67] :: ro ρ :: vec 117 R_floor_Port.sz (.slice q0a f0.Ports.length c_f0_5) f0.Ports.length q0j :: l') := Eq.mp (by kernel_rfl) hS
       refine o_ap sl_103 zero_117 rfl (by decide) q5r q41 (hS.pull 2) q2c (src_blk usl_103 hS rfl rfl) (RepL.cons (R := R_floor_Port) (ρ := ρ) (x := (T_floor_Port.mk q0x.1 (decide (word2 = (⟨#[111, 117, 116]⟩ : ByteArray))) x64 x67)) (cs := [.string q0x.1, .bool (decide (word2 = (⟨#[111, 117, 116]⟩ : ByteArray))), .int .i64 x64, .int .i64 x67]) rfl RepL.nil) q6r q6s (fun A70 c70 cs70 w' hr70 hS => ?_)
       refine x_done <| ?_
       refine x_fin ⟨⟨_, rfl⟩, rfl, ?_⟩
       replace hS := St.bun (Φ := (fun (cs70 : List Value) => RepL R_floor_Port ρ q0p cs70)) (L := (fun (cs70 : List Value) => [vec 117 R_floor_Port.sz (.slice A70 q0p.length c70) q0p.length cs70])) cs70 hr70 hS
       exact Eq.mp (by kernel_rfl) ((hS.pull 2).pull 2)
      ·intro Ep8 w l' hE8 hO8 hF_ hS
       obtain ⟨q5s, -⟩ := hF_
       replace q5s : Ep8 54 = .pointer (some ⟨q5, 0, none⟩) := Eq.mp (by kernel_rfl) q5s
       refine p (yl_nilCheck q5s) <| x_done <| ?_
       refine x_fin ⟨⟨_, rfl⟩, rfl, ?_⟩
       exact Eq.mp (by kernel_rfl) hS
      ·intro Ep8 w l' hE8 hO8 hF_ hS
       obtain ⟨q42, -⟩ := hF_
       replace q42 : Ep8 71 = .pointer (some ⟨q5, 0, none⟩) := Eq.mp (by kernel_rfl) q42
       refine p (yl_field0 fld_105_5 q42) <| x_done <| ?_
       refine x_fin ⟨⟨_, rfl⟩, rfl, ?_⟩
       exact Eq.mp (by kernel_rfl) hS
      ·intro Ep8 w l' hE8 hO8 hF_ hS
       obtain ⟨q43, q44, -⟩ := hF_
       replace q43 : Ep8 70 = .slice (adOf (Ep8 70)) q0p.length (capOf (Ep8 70)) := Eq.mp (by kernel_rfl) q43
       replace q44 : Ep8 72 = .pointer (some ⟨q5, 5, none⟩) := Eq.mp (by kernel_rfl) q44
       replace hS : St w0 w (cells q5 105 [.int .i64 f0.Rows, .int .i64 f0.Sites, .int .i64 f0.Layers, .slice q0b f0.Blocks.length c_f0_3, .slice q0c f0.Walls.length c_f0_4, .slice q0a f0.Ports.length c_f0_5] :: l') := Eq.mp (by kernel_rfl) hS
       refine o_store1 (v := .slice (adOf (Ep8 70)) q0p.length (capOf (Ep8 70))) one_103 q44 q43 rfl rfl hS (fun w' hS => ?_)
       refine x_done <| ?_
       refine x_fin ⟨⟨undef, rfl⟩, trivial, ?_⟩
       exact Eq.mp (by kernel_rfl) hS
     intro Ep8 w' hE8 hF_ hS
     obtain ⟨q5s, q5j, q5k, q5l, q5r, q5p, q5m, q5q, q5n, q5o, q3y, q3w, q3x, q3z, q40, q41, q43, q42, q44, -⟩ := hF_
     replace q5s : Ep8 54 = .pointer (some ⟨q5, 0, none⟩) := Eq.mp (by kernel_rfl) q5s
     replace q5j : Ep8 55 = .pointer (some ⟨q5, 0, none⟩) := Eq.mp (by kernel_rfl) q5j
     replace q5k : Ep8 56 = .pointer (some ⟨q5, 0, none⟩) := Eq.mp (by kernel_rfl) q5k
     replace q5l : Ep8 57 = .pointer (some ⟨q5, 5, none⟩) := Eq.mp (by kernel_rfl) q5l
     replace q5r : Ep8 58 = .slice q0a f0.Ports.length c_f0_5 := Eq.mp (by kernel_rfl) q5r
     replace q5p : Ep8 59 = .string q0x.1 := Eq.mp (by kernel_rfl) q5p
     replace q5m : Ep8 60 = .string word2 := Eq.mp (by kernel_rfl) q5m
     replace q5q : Ep8 61 = .bool (decide (word2 = (⟨#[111, 117, 116]⟩ : ByteArray))) := Eq.mp (by kernel_rfl) q5q
     replace q5n : Ep8 62 = .slice (adOf (partOf 1 (Ep6 46))) q8.2.1.length (capOf (partOf 1 (Ep6 46))) := Eq.mp (by kernel_rfl) q5n
     replace q5o : Ep8 63 = .pointer (some ((adr (adOf (partOf 1 (Ep6 46)))).add ((0 : Int).toNat * (RpI .i64).sz))) := Eq.mp (by kernel_rfl) q5o
     replace q3y : Ep8 64 = .int .i64 x64 := Eq.mp (by kernel_rfl) q3y
     replace q3w : Ep8 65 = .slice (adOf (partOf 1 (Ep6 46))) q8.2.1.length (capOf (partOf 1 (Ep6 46))) := Eq.mp (by kernel_rfl) q3w
     replace q3x : Ep8 66 = .pointer (some ((adr (adOf (partOf 1 (Ep6 46)))).add ((1 : Int).toNat * (RpI .i64).sz))) := Eq.mp (by kernel_rfl) q3x
     replace q3z : Ep8 67 = .int .i64 x67 := Eq.mp (by kernel_rfl) q3z
     replace q40 : Ep8 68 = .agg #[.string q0x.1, .bool (decide (word2 = (⟨#[111, 117, 116]⟩ : ByteArray))), .int .i64 x64, .int .i64 x67] := Eq.mp (by kernel_rfl) q40
     replace q41 : Ep8 69 = .slice (some ⟨(blkOf (Ep8 69)), 0, none⟩) 1 1 := Eq.mp (by kernel_rfl) q41
     replace q43 : Ep8 70 = .slice (adOf (Ep8 70)) q0p.length (capOf (Ep8 70)) := Eq.mp (by kernel_rfl) q43
     replace q42 : Ep8 71 = .pointer (some ⟨q5, 0, none⟩) := Eq.mp (by kernel_rfl) q42
     replace q44 : Ep8 72 = .pointer (some ⟨q5, 5, none⟩) := Eq.mp (by kernel_rfl) q44
     replace hS : St w0 w' (vec 3 (RpI .i64).sz (.slice (adOf (partOf 1 (Ep6 46))) q8.2.1.length (capOf (partOf 1 (Ep6 46)))) q8.2.1.length q0d :: cells (blkOf (Ep8 69)) 117 [.string q0x.1, .bool (decide (word2 = (⟨#[111, 117, 116]⟩ : ByteArray))), .int .i64 x64, .int .i64 x67] :: ro ρ :: bunA (fun (cs70 : List Value) => RepL R_floor_Port ρ q0p cs70) (fun (cs70 : List Value) => [vec 117 R_floor_Port.sz (.slice (adOf (Ep8 70)) q0p.length (capOf (Ep8 70))) q0p.length cs70]) :: cells q5 105 [.int .i64 f0.Rows, .int .i64 f0.Sites, .int .i64 f0.Layers, .slice q0b f0.Blocks.length c_f0_3, .slice q0c f0.Walls.length c_f0_4, .slice (adOf (Ep8 70)) q0p.length (capOf (Ep8 70))] :: (vec 9 RpS.sz (.slice q0g q0w.length c_r_2_1) q0w.length q1q :: vec 120 R_floor_Block.sz (.slice q0b f0.Blocks.length c_f0_3) f0.Blocks.length q0h :: vec 123 R_floor_Wall.sz (.slice q0c f0.Walls.length c_f0_4) f0.Walls.length q0i :: cells q0e 107 [.slice q9 q7.length c_sites1_0] :: vec 109 R_floor_Site.sz (.slice q9 q7.length c_sites1_0) q7.length q0f :: l)) := Eq.mp (by kernel_rfl) hS
     have q_ := St.unbun (hS.pull 3); obtain ⟨cs70, hr70, hS⟩ := q_
     exact x_inv ⟨(adOf (Ep8 70)), q0p.length, (capOf (Ep8 70)), cs70, q0p, (Option.some.inj (show some _ = some _ from hFc53)), ((hE8 11 rfl).trans (hE6 11 rfl)), ((hE8 14 rfl).trans q59), hr70, ((((((((((hS.pull 1).drop.pull 1).drop.pull 3).drop.pull 1).pull 6).pull 2).pull 5).pull 5).pull 6).pull 6)⟩
    ·replace hFc53 := it_bf hc53 hFc53
     refine x_skip <| ?_
     exact x_inv ⟨q0a, f0.Ports.length, c_f0_5, q0j, f0.Ports, (Option.some.inj (show some _ = some _ from hFc53)), (hE6 11 rfl), q59, q2c, ((((((hS.drop.drop.pull 6).pull 5).pull 5).pull 5).pull 6).pull 6)⟩
   rintro E w ⟨q1r, q1s, c_b_f0_5_c53, q1g, q23, rfl, q6h, q6i, q3q, hS⟩
   have e_ := St.vec_n (hS.pull 4) q3q; subst e_
   replace hF := lv_s hF; obtain ⟨x76, hx76, hF⟩ := hF
   refine x_seq <| x_region <| p (yl_move q6h) <| p (yl_move rfl) <|
    pg (v := .bool q8.2.2) 74 (c := q0x.2) (says_t _) (fun hq => Yl.at (yl_move q6i)) <| p (yand' rfl (fun hc => (cv hc)) rfl hx76) <| p (yl_assign rfl) <| x_done <| ?_
   have e_ := Option.some.inj (show some _ = some _ from hF); subst e_
   exact x_return ⟨_, ⟨_, _, rfl, rfl, rfl⟩, q0b, f0.Blocks.length, c_f0_3, q0h, q0c, f0.Walls.length, c_f0_4, q0i, q1r, q23.length, c_b_f0_5_c53, q1g, q9, q7.length, c_sites1_0, q0f, rfl, q26, q1y, q3q, q0n, (((((((hS.pull 6).pull 6).pull 6).pull 6).pull 6).pull 6).pull 6)⟩
 ·replace hF := it_bf hc23 hF
  replace hF := bd_s hF; obtain ⟨q3, q6t, hF⟩ := hF
  refine x_skip <| x_seq <| x_region <| p (yl_move rfl) <| ?_
  have hcall := c_layfmt_words q6t  (hS.pull 6)
  refine o_cc call_89 (args1 rfl) hcall ?_
  rintro e w' ⟨q2, q6p, c_y1_ret_10_1, q4, rfl, q6, hS⟩
  refine ⟨_, rfl, ?_⟩
  have e_ := St.vec_n hS q6; subst e_
  refine p (yl_move rfl) <| p (yl_extract rfl rfl) <| p (yl_extract rfl rfl) <| p (yl_extract rfl rfl) <|
   p (yl_assign rfl) <| p (yl_assign rfl) <| p (yl_assign rfl) <| x_done <|
   x_seq <| x_seq <| x_region <| p (yl_move rfl) <|
   p (yl_not rfl) <| x_done <|
   x_cond (t := !q3.2.2) rfl (fun hc84 => ?_) (fun hc84 => ?_)
  ·replace hF := it_t hc84 hF
   refine x_seq <| x_region <| p (yl_assign rfl) <| x_done <| ?_
   have e_ := Option.some.inj (show some _ = some _ from hF); subst e_
   exact x_return ⟨_, ⟨_, _, rfl, rfl, rfl⟩, q0b, f0.Blocks.length, c_f0_3, q0h, q0c, f0.Walls.length, c_f0_4, q0i, q0a, f0.Ports.length, c_f0_5, q0j, q9, q7.length, c_sites1_0, q0f, rfl, q26, q1y, q2c, q0n, ((((((hS.drop.pull 6).pull 5).pull 5).pull 5).pull 6).pull 6)⟩
  ·replace hF := it_bf hc84 hF
   refine x_skip <| x_seq <| x_seq <| x_region <|
    p (yl_move rfl) <| x_done <| x_block <| x_seq <|
    x_region <| p (yl_eql_string rfl rfl) <| p (yl_assign rfl) <| x_done <| ?_
   replace hF := bd_s hF; obtain ⟨oc86, hFc86, hF⟩ := hF
   refine x_join (fun E w => ∃ (q1t : Option Addr) (q1u : Nat) (c_b_f0_3_c86 : Nat) (q1h : List Value) (q1v : Option Addr) (q1w : Nat) (c_b_f0_4_c86 : Nat) (q1i : List Value) (q15 : Option Addr) (q16 : Nat) (c_b_sites1_0_c86 : Nat) (q0y : List Value) (q3e : Int) (q3f : Int) (q3g : Int) (q24 : List T_floor_Block) (q25 : List T_floor_Wall) (q19 : List T_floor_Site), (q3e, q3f, q3g, q24, q25, q19) = oc86 ∧ RepL R_floor_Block ρ q24 q1h ∧ RepL R_floor_Wall ρ q25 q1i ∧ RepL R_floor_Site ρ q19 q0y ∧ St w0 w (cells q5 105 [.int .i64 q3e, .int .i64 q3f, .int .i64 q3g, .slice q1t q1u c_b_f0_3_c86, .slice q1v q1w c_b_f0_4_c86, .slice q0a f0.Ports.length c_f0_5] :: cells q0e 107 [.slice q15 q16 c_b_sites1_0_c86] :: vec 120 R_floor_Block.sz (.slice q1t q1u c_b_f0_3_c86) q1u q1h :: vec 123 R_floor_Wall.sz (.slice q1v q1w c_b_f0_4_c86) q1w q1i :: vec 117 R_floor_Port.sz (.slice q0a f0.Ports.length c_f0_5) f0.Ports.length q0j :: vec 109 R_floor_Site.sz (.slice q15 q16 c_b_sites1_0_c86) q16 q0y :: ro ρ :: l)) ?_ ?_
   ·refine x_cond_p (word2 = (⟨#[102, 108, 111, 111, 114]⟩ : ByteArray)) rfl (fun hc86 => ?_) (fun hc86 => ?_)
    ·replace hFc86 := it_t hc86 hFc86
     replace hFc86 := ck_s hFc86; obtain ⟨q64, hFc86⟩ := hFc86
     replace hFc86 := lv_s hFc86; obtain ⟨x93, hx93, hFc86⟩ := hFc86
     replace hFc86 := ck_s hFc86; obtain ⟨q65, hFc86⟩ := hFc86
     replace hFc86 := lv_s hFc86; obtain ⟨x96, hx96, hFc86⟩ := hFc86
     replace hFc86 := ck_s hFc86; obtain ⟨q5y, hFc86⟩ := hFc86
     replace hFc86 := lv_s hFc86; obtain ⟨x99, hx99, hFc86⟩ := hFc86
     refine x_par (w0 := w0) [⟨[], [], [88], [], [], []⟩, ⟨[], [], [89], [], [], []⟩, ⟨[], [], [90], [], [], []⟩, ⟨[], [], [91], [], [], []⟩, ⟨[3], [3], [92], [0], [], []⟩, ⟨[3, 4], [4], [93], [0], [], []⟩, ⟨[], [], [94], [], [], []⟩, ⟨[6], [6], [95], [0], [], []⟩, ⟨[6, 7], [7], [96], [0], [], []⟩, ⟨[], [], [97], [], [], []⟩, ⟨[9], [9], [98], [0], [], []⟩, ⟨[9, 10], [10], [99], [0], [], []⟩, ⟨[0, 3, 4, 5, 6, 7, 8, 9, 10, 11], [0], [100], [], [], []⟩, ⟨[0, 3, 4, 5, 6, 7, 8, 9, 10, 11, 12], [12], [101], [], [], []⟩, ⟨[0, 3, 4, 5, 6, 7, 8, 9, 10, 11, 12, 13], [5, 13], [], [], [1], [2]⟩, ⟨[0, 1, 3, 4, 5, 6, 7, 8, 9, 10, 11, 12, 13, 14], [1], [102], [], [], []⟩, ⟨[0, 1, 3, 4, 5, 6, 7, 8, 9, 10, 11, 12, 13, 14, 15], [15], [103], [], [], []⟩, ⟨[0, 1, 3, 4, 5, 6, 7, 8, 9, 10, 11, 12, 13, 14, 15, 16], [8, 16], [], [], [2], [3]⟩, ⟨[0, 1, 2, 3, 4, 5, 6, 7, 8, 9, 10, 11, 12, 13, 14, 15, 16, 17], [2], [104], [], [], []⟩, ⟨[0, 1, 2, 3, 4, 5, 6, 7, 8, 9, 10, 11, 12, 13, 14, 15, 16, 17, 18], [18], [105], [], [], []⟩, ⟨[0, 1, 2, 3, 4, 5, 6, 7, 8, 9, 10, 11, 12, 13, 14, 15, 16, 17, 18, 19], [11, 19], [], [], [3], [4]⟩] [⟨none, none, []⟩, ⟨none, (some 14), []⟩, ⟨(some 14), (some 17), []⟩, ⟨(some 17), (some 20), []⟩, ⟨(some 20), none, []⟩] [88, 89, 90, 91, 92, 93, 94, 95, 96, 97, 98, 99, 100, 101, 102, 103, 104, 105] [0, 1] [0, 4] [0, 1, 2, 3, 4, 5, 6, 7, 8, 9, 10, 11, 12, 13, 15, 16, 18, 19] [fun Ep15 => Ep15 88 = .pointer (some ⟨q5, 0, none⟩), fun Ep15 => Ep15 89 = .pointer (some ⟨q5, 0, none⟩), fun Ep15 => Ep15 90 = .pointer (some ⟨q5, 0, none⟩), fun Ep15 => Ep15 91 = .slice q2 q3.2.1.length c_y1_ret_10_1, fun Ep15 => Ep15 92 = .pointer (some ((adr q2).add ((0 : Int).toNat * (RpI .i64).sz))), fun Ep15 => Ep15 93 = .int .i64 x93, fun Ep15 => Ep15 94 = .slice q2 q3.2.1.length c_y1_ret_10_1, fun Ep15 => Ep15 95 = .pointer (some ((adr q2).add ((1 : Int).toNat * (RpI .i64).sz))), fun Ep15 => Ep15 96 = .int .i64 x96, fun Ep15 => Ep15 97 = .slice q2 q3.2.1.length c_y1_ret_10_1, fun Ep15 => Ep15 98 = .pointer (some ((adr q2).add ((2 : Int).toNat * (RpI .i64).sz))), fun Ep15 => Ep15 99 = .int .i64 x99, fun Ep15 => Ep15 100 = .pointer (some ⟨q5, 0, none⟩), fun Ep15 => Ep15 101 = .pointer (some ⟨q5, 0, none⟩), fun Ep15 => True, fun Ep15 => Ep15 102 = .pointer (some ⟨q5, 0, none⟩), fun Ep15 => Ep15 103 = .pointer (some ⟨q5, 1, none⟩), fun Ep15 => True, fun Ep15 => Ep15 104 = .pointer (some ⟨q5, 0, none⟩), fun Ep15 => Ep15 105 = .pointer (some ⟨q5, 2, none⟩), fun Ep15 => True] [fun Ep15 => vec 3 (RpI .i64).sz (.slice q2 q3.2.1.length c_y1_ret_10_1) q3.2.1.length q4, fun Ep15 => cells q5 105 [.int .i64 f0.Rows, .int .i64 f0.Sites, .int .i64 f0.Layers, .slice q0b f0.Blocks.length c_f0_3, .slice q0c f0.Walls.length c_f0_4, .slice q0a f0.Ports.length c_f0_5], fun Ep15 => cells q5 105 [.int .i64 x93, .int .i64 f0.Sites, .int .i64 f0.Layers, .slice q0b f0.Blocks.length c_f0_3, .slice q0c f0.Walls.length c_f0_4, .slice q0a f0.Ports.length c_f0_5], fun Ep15 => cells q5 105 [.int .i64 x93, .int .i64 x96, .int .i64 f0.Layers, .slice q0b f0.Blocks.length c_f0_3, .slice q0c f0.Walls.length c_f0_4, .slice q0a f0.Ports.length c_f0_5], fun Ep15 => cells q5 105 [.int .i64 x93, .int .i64 x96, .int .i64 x99, .slice q0b f0.Blocks.length c_f0_3, .slice q0c f0.Walls.length c_f0_4, .slice q0a f0.Ports.length c_f0_5]] mixed (by kernel_rfl) ((hS.pull 2).pull 1) ?_ ?_
     ·refine ⟨?_, ?_, ?_, ?_, ?_, ?_, ?_, ?_, ?_, ?_, ?_, ?_, ?_, ?_, ?_, ?_, ?_, ?_, ?_, ?_, ?_, trivial⟩
      ·intro Ep15 w l' hE15 hO15 hF_ hS
       refine p (yl_move (hE15 0 rfl)) <| x_done <| ?_
       refine x_fin ⟨⟨_, rfl⟩, rfl, ?_⟩
       exact Eq.mp (by kernel_rfl) hS
      ·intro Ep15 w l' hE15 hO15 hF_ hS
       refine p (yl_move (hE15 0 rfl)) <| x_done <| ?_
       refine x_fin ⟨⟨_, rfl⟩, rfl, ?_⟩
       exact Eq.mp (by kernel_rfl) hS
      ·intro Ep15 w l' hE15 hO15 hF_ hS
       refine p (yl_move (hE15 0 rfl)) <| x_done <| ?_
       refine x_fin ⟨⟨_, rfl⟩, rfl, ?_⟩
       exact Eq.mp (by kernel_rfl) hS
      ·intro Ep15 w l' hE15 hO15 hF_ hS
       refine p (yl_move (hE15 16 rfl)) <| x_done <| ?_
       refine x_fin ⟨⟨_, rfl⟩, rfl, ?_⟩
       exact Eq.mp (by kernel_rfl) hS
      ·intro Ep15 w l' hE15 hO15 hF_ hS
       obtain ⟨q45, -⟩ := hF_
       replace q45 : Ep15 91 = .slice q2 q3.2.1.length c_y1_ret_10_1 := Eq.mp (by kernel_rfl) q45
       replace hS : St w0 w (vec 3 (RpI .i64).sz (.slice q2 q3.2.1.length c_y1_ret_10_1) q3.2.1.length q4 :: l') := Eq.mp (by kernel_rfl) hS
       refine p (yix_o sl_22 q45 rfl hS q6 q64) <| x_done <| ?_
       refine x_fin ⟨⟨_, rfl⟩, rfl, ?_⟩
       exact Eq.mp (by kernel_rfl) hS
      ·intro Ep15 w l' hE15 hO15 hF_ hS
       obtain ⟨q46, -⟩ := hF_
       replace q46 : Ep15 92 = .pointer (some ((adr q2).add ((0 : Int).toNat * (RpI .i64).sz))) := Eq.mp (by kernel_rfl) q46
       replace hS : St w0 w (vec 3 (RpI .i64).sz (.slice q2 q3.2.1.length c_y1_ret_10_1) q3.2.1.length q4 :: l') := Eq.mp (by kernel_rfl) hS
       refine pa (at_load one_3 q46 (RepL.getW q6 hS q64 hx93)) <| x_done <| ?_
       refine x_fin ⟨⟨_, rfl⟩, rfl, ?_⟩
       exact Eq.mp (by kernel_rfl) hS
      ·intro Ep15 w l' hE15 hO15 hF_ hS
       refine p (yl_move (hE15 16 rfl)) <| x_done <| ?_
       refine x_fin ⟨⟨_, rfl⟩, rfl, ?_⟩
       exact Eq.mp (by kernel_rfl) hS
      ·intro Ep15 w l' hE15 hO15 hF_ hS
       obtain ⟨q47, -⟩ := hF_
       replace q47 : Ep15 94 = .slice q2 q3.2.1.length c_y1_ret_10_1 := Eq.mp (by kernel_rfl) q47
       replace hS : St w0 w (vec 3 (RpI .i64).sz (.slice q2 q3.2.1.length c_y1_ret_10_1) q3.2.1.length q4 :: l') := Eq.mp (by kernel_rfl) hS
       refine p (yix_o sl_22 q47 rfl hS q6 q65) <| x_done <| ?_
       refine x_fin ⟨⟨_, rfl⟩, rfl, ?_⟩
       exact Eq.mp (by kernel_rfl) hS
      ·intro Ep15 w l' hE15 hO15 hF_ hS
       obtain ⟨q48, -⟩ := hF_
       replace q48 : Ep15 95 = .pointer (some ((adr q2).add ((1 : Int).toNat * (RpI .i64).sz))) := Eq.mp (by kernel_rfl) q48
       replace hS : St w0 w (vec 3 (RpI .i64).sz (.slice q2 q3.2.1.length c_y1_ret_10_1) q3.2.1.length q4 :: l') := Eq.mp (by kernel_rfl) hS
       refine pa (at_load one_3 q48 (RepL.getW q6 hS q65 hx96)) <| x_done <| ?_
       refine x_fin ⟨⟨_, rfl⟩, rfl, ?_⟩
       exact Eq.mp (by kernel_rfl) hS
      ·intro Ep15 w l' hE15 hO15 hF_ hS
       refine p (yl_move (hE15 16 rfl)) <| x_done <| ?_
       refine x_fin ⟨⟨_, rfl⟩, rfl, ?_⟩
       exact Eq.mp (by kernel_rfl) hS
      ·intro Ep15 w l' hE15 hO15 hF_ hS
       obtain ⟨q49, -⟩ := hF_
       replace q49 : Ep15 97 = .slice q2 q3.2.1.length c_y1_ret_10_1 := Eq.mp (by kernel_rfl) q49
       replace hS : St w0 w (vec 3 (RpI .i64).sz (.slice q2 q3.2.1.length c_y1_ret_10_1) q3.2.1.length q4 :: l') := Eq.mp (by kernel_rfl) hS
       refine p (yix_o sl_22 q49 rfl hS q6 q5y) <| x_done <| ?_
       refine x_fin ⟨⟨_, rfl⟩, rfl, ?_⟩
       exact Eq.mp (by kernel_rfl) hS
      ·intro Ep15 w l' hE15 hO15 hF_ hS
       obtain ⟨q2d, -⟩ := hF_
       replace q2d : Ep15 98 = .pointer (some ((adr q2).add ((2 : Int).toNat * (RpI .i64).sz))) := Eq.mp (by kernel_rfl) q2d
       replace hS : St w0 w (vec 3 (RpI .i64).sz (.slice q2 q3.2.1.length c_y1_ret_10_1) q3.2.1.length q4 :: l') := Eq.mp (by kernel_rfl) hS
       refine pa (at_load one_3 q2d (RepL.getW q6 hS q5y hx99)) <| x_done <| ?_
       refine x_fin ⟨⟨_, rfl⟩, rfl, ?_⟩
       exact Eq.mp (by kernel_rfl) hS
      ·intro Ep15 w l' hE15 hO15 hF_ hS
       obtain ⟨q4a, -⟩ := hF_
       replace q4a : Ep15 88 = .pointer (some ⟨q5, 0, none⟩) := Eq.mp (by kernel_rfl) q4a
       refine p (yl_nilCheck q4a) <| x_done <| ?_
       refine x_fin ⟨⟨_, rfl⟩, rfl, ?_⟩
       exact Eq.mp (by kernel_rfl) hS
      ·intro Ep15 w l' hE15 hO15 hF_ hS
       obtain ⟨q2e, -⟩ := hF_
       replace q2e : Ep15 100 = .pointer (some ⟨q5, 0, none⟩) := Eq.mp (by kernel_rfl) q2e
       refine p (yl_field0 fld_105_0 q2e) <| x_done <| ?_
       refine x_fin ⟨⟨_, rfl⟩, rfl, ?_⟩
       exact Eq.mp (by kernel_rfl) hS
      ·intro Ep15 w l' hE15 hO15 hF_ hS
       obtain ⟨q4b, q2f, -⟩ := hF_
       replace q4b : Ep15 93 = .int .i64 x93 := Eq.mp (by kernel_rfl) q4b
       replace q2f : Ep15 101 = .pointer (some ⟨q5, 0, none⟩) := Eq.mp (by kernel_rfl) q2f
       replace hS : St w0 w (cells q5 105 [.int .i64 f0.Rows, .int .i64 f0.Sites, .int .i64 f0.Layers, .slice q0b f0.Blocks.length c_f0_3, .slice q0c f0.Walls.length c_f0_4, .slice q0a f0.Ports.length c_f0_5] :: l') := Eq.mp (by kernel_rfl) hS
       refine o_store1 (v := .int .i64 x93) one_3 q2f q4b rfl rfl hS (fun w' hS => ?_)
       refine x_done <| ?_
       refine x_fin ⟨⟨undef, rfl⟩, trivial, ?_⟩
       exact Eq.mp (by kernel_rfl) hS
      ·intro Ep15 w l' hE15 hO15 hF_ hS
       obtain ⟨q4c, -⟩ := hF_
       replace q4c : Ep15 89 = .pointer (some ⟨q5, 0, none⟩) := Eq.mp (by kernel_rfl) q4c
       refine p (yl_nilCheck q4c) <| x_done <| ?_
       refine x_fin ⟨⟨_, rfl⟩, rfl, ?_⟩
       exact Eq.mp (by kernel_rfl) hS
      ·intro Ep15 w l' hE15 hO15 hF_ hS
       obtain ⟨q2g, -⟩ := hF_
       replace q2g : Ep15 102 = .pointer (some ⟨q5, 0, none⟩) := Eq.mp (by kernel_rfl) q2g
       refine p (yl_field0 fld_105_1 q2g) <| x_done <| ?_
       refine x_fin ⟨⟨_, rfl⟩, rfl, ?_⟩
       exact Eq.mp (by kernel_rfl) hS
      ·intro Ep15 w l' hE15 hO15 hF_ hS
       obtain ⟨q4d, q2h, -⟩ := hF_
       replace q4d : Ep15 96 = .int .i64 x96 := Eq.mp (by kernel_rfl) q4d
       replace q2h : Ep15 103 = .pointer (some ⟨q5, 1, none⟩) := Eq.mp (by kernel_rfl) q2h
       replace hS : St w0 w (cells q5 105 [.int .i64 x93, .int .i64 f0.Sites, .int .i64 f0.Layers, .slice q0b f0.Blocks.length c_f0_3, .slice q0c f0.Walls.length c_f0_4, .slice q0a f0.Ports.length c_f0_5] :: l') := Eq.mp (by kernel_rfl) hS
       refine o_store1 (v := .int .i64 x96) one_3 q2h q4d rfl rfl hS (fun w' hS => ?_)
       refine x_done <| ?_
       refine x_fin ⟨⟨undef, rfl⟩, trivial, ?_⟩
       exact Eq.mp (by kernel_rfl) hS
      ·intro Ep15 w l' hE15 hO15 hF_ hS
       obtain ⟨q4e, -⟩ := hF_
       replace q4e : Ep15 90 = .pointer (some ⟨q5, 0, none⟩) := Eq.mp (by kernel_rfl) q4e
       refine p (yl_nilCheck q4e) <| x_done <| ?_
       refine x_fin ⟨⟨_, rfl⟩, rfl, ?_⟩
       exact Eq.mp (by kernel_rfl) hS
      ·intro Ep15 w l' hE15 hO15 hF_ hS
       obtain ⟨q2i, -⟩ := hF_
       replace q2i : Ep15 104 = .pointer (some ⟨q5, 0, none⟩) := Eq.mp (by kernel_rfl) q2i
       refine p (yl_field0 fld_105_2 q2i) <| x_done <| ?_
       refine x_fin ⟨⟨_, rfl⟩, rfl, ?_⟩
       exact Eq.mp (by kernel_rfl) hS
      ·intro Ep15 w l' hE15 hO15 hF_ hS
       obtain ⟨q2j, q2k, -⟩ := hF_
       replace q2j : Ep15 99 = .int .i64 x99 := Eq.mp (by kernel_rfl) q2j
       replace q2k : Ep15 105 = .pointer (some ⟨q5, 2, none⟩) := Eq.mp (by kernel_rfl) q2k
       replace hS : St w0 w (cells q5 105 [.int .i64 x93, .int .i64 x96, .int .i64 f0.Layers, .slice q0b f0.Blocks.length c_f0_3, .slice q0c f0.Walls.length c_f0_4, .slice q0a f0.Ports.length c_f0_5] :: l') := Eq.mp (by kernel_rfl) hS
       refine o_store1 (v := .int .i64 x99) one_3 q2k q2j rfl rfl hS (fun w' hS => ?_)
       refine x_done <| ?_
       refine x_fin ⟨⟨undef, rfl⟩, trivial, ?_⟩
       exact Eq.mp (by kernel_rfl) hS
     intro Ep15 w' hE15 hF_ hS
     obtain ⟨q4a, q4c, q4e, q45, q46, q4b, q47, q48, q4d, q49, q2d, q2j, q2e, q2f, q2g, q2h, q2i, q2k, -⟩ := hF_
     replace q4a : Ep15 88 = .pointer (some ⟨q5, 0, none⟩) := Eq.mp (by kernel_rfl) q4a
     replace q4c : Ep15 89 = .pointer (some ⟨q5, 0, none⟩) := Eq.mp (by kernel_rfl) q4c
     replace q4e : Ep15 90 = .pointer (some ⟨q5, 0, none⟩) := Eq.mp (by kernel_rfl) q4e
     replace q45 : Ep15 91 = .slice q2 q3.2.1.length c_y1_ret_10_1 := Eq.mp (by kernel_rfl) q45
     replace q46 : Ep15 92 = .pointer (some ((adr q2).add ((0 : Int).toNat * (RpI .i64).sz))) := Eq.mp (by kernel_rfl) q46
     replace q4b : Ep15 93 = .int .i64 x93 := Eq.mp (by kernel_rfl) q4b
     replace q47 : Ep15 94 = .slice q2 q3.2.1.length c_y1_ret_10_1 := Eq.mp (by kernel_rfl) q47
     replace q48 : Ep15 95 = .pointer (some ((adr q2).add ((1 : Int).toNat * (RpI .i64).sz))) := Eq.mp (by kernel_rfl) q48
     replace q4d : Ep15 96 = .int .i64 x96 := Eq.mp (by kernel_rfl) q4d
     replace q49 : Ep15 97 = .slice q2 q3.2.1.length c_y1_ret_10_1 := Eq.mp (by kernel_rfl) q49
     replace q2d : Ep15 98 = .pointer (some ((adr q2).add ((2 : Int).toNat * (RpI .i64).sz))) := Eq.mp (by kernel_rfl) q2d
     replace q2j : Ep15 99 = .int .i64 x99 := Eq.mp (by kernel_rfl) q2j
     replace q2e : Ep15 100 = .pointer (some ⟨q5, 0, none⟩) := Eq.mp (by kernel_rfl) q2e
     replace q2f : Ep15 101 = .pointer (some ⟨q5, 0, none⟩) := Eq.mp (by kernel_rfl) q2f
     replace q2g : Ep15 102 = .pointer (some ⟨q5, 0, none⟩) := Eq.mp (by kernel_rfl) q2g
     replace q2h : Ep15 103 = .pointer (some ⟨q5, 1, none⟩) := Eq.mp (by kernel_rfl) q2h
     replace q2i : Ep15 104 = .pointer (some ⟨q5, 0, none⟩) := Eq.mp (by kernel_rfl) q2i
     replace q2k : Ep15 105 = .pointer (some ⟨q5, 2, none⟩) := Eq.mp (by kernel_rfl) q2k
     replace hS : St w0 w' (vec 3 (RpI .i64).sz (.slice q2 q3.2.1.length c_y1_ret_10_1) q3.2.1.length q4 :: cells q5 105 [.int .i64 x93, .int .i64 x96, .int .i64 x99, .slice q0b f0.Blocks.length c_f0_3, .slice q0c f0.Walls.length c_f0_4, .slice q0a f0.Ports.length c_f0_5] :: (ro ρ :: vec 120 R_floor_Block.sz (.slice q0b f0.Blocks.length c_f0_3) f0.Blocks.length q0h :: vec 123 R_floor_Wall.sz (.slice q0c f0.Walls.length c_f0_4) f0.Walls.length q0i :: vec 117 R_floor_Port.sz (.slice q0a f0.Ports.length c_f0_5) f0.Ports.length q0j :: cells q0e 107 [.slice q9 q7.length c_sites1_0] :: vec 109 R_floor_Site.sz (.slice q9 q7.length c_sites1_0) q7.length q0f :: l)) := Eq.mp (by kernel_rfl) hS
     exact x_inv ⟨q0b, f0.Blocks.length, c_f0_3, q0h, q0c, f0.Walls.length, c_f0_4, q0i, q9, q7.length, c_sites1_0, q0f, x93, x96, x99, f0.Blocks, f0.Walls, q7, (Option.some.inj (show some _ = some _ from hFc86)), q26, q1y, q0n, (((((((hS.drop.pull 1).pull 6).pull 5).pull 5).pull 5).pull 6).pull 6)⟩
    ·replace hFc86 := it_f hc86 hFc86
     refine x_seq <| x_region <| p (yl_eql_string rfl rfl) <| p (yl_assign rfl) <|
      x_done <| ?_
     replace hFc86 := bd_s hFc86; obtain ⟨oc106, hFc106, hFc86⟩ := hFc86
     refine x_join (fun E w => ∃ (q1j : Option Addr) (q1k : Nat) (c_b_f0_3_c106 : Nat) (q1a : List Value) (q1l : Option Addr) (q1m : Nat) (c_b_f0_4_c106 : Nat) (q1b : List Value) (q0z : Option Addr) (q10 : Nat) (c_b_sites1_0_c106 : Nat) (q0q : List Value) (q1d : List T_floor_Block) (q1e : List T_floor_Wall) (q0r : List T_floor_Site), (q1d, q1e, q0r) = oc106 ∧ RepL R_floor_Block ρ q1d q1a ∧ RepL R_floor_Wall ρ q1e q1b ∧ RepL R_floor_Site ρ q0r q0q ∧ St w0 w (cells q5 105 [.int .i64 f0.Rows, .int .i64 f0.Sites, .int .i64 f0.Layers, .slice q1j q1k c_b_f0_3_c106, .slice q1l q1m c_b_f0_4_c106, .slice q0a f0.Ports.length c_f0_5] :: cells q0e 107 [.slice q0z q10 c_b_sites1_0_c106] :: vec 120 R_floor_Block.sz (.slice q1j q1k c_b_f0_3_c106) q1k q1a :: vec 123 R_floor_Wall.sz (.slice q1l q1m c_b_f0_4_c106) q1m q1b :: vec 117 R_floor_Port.sz (.slice q0a f0.Ports.length c_f0_5) f0.Ports.length q0j :: vec 109 R_floor_Site.sz (.slice q0z q10 c_b_sites1_0_c106) q10 q0q :: ro ρ :: l)) ?_ ?_
     ·refine x_cond_p (word2 = (⟨#[98, 108, 111, 99, 107]⟩ : ByteArray)) rfl (fun hc106 => ?_) (fun hc106 => ?_)
      ·replace hFc106 := it_t hc106 hFc106
       replace hFc106 := ck_s hFc106; obtain ⟨q66, hFc106⟩ := hFc106
       replace hFc106 := lv_s hFc106; obtain ⟨x115, hx115, hFc106⟩ := hFc106
       replace hFc106 := ck_s hFc106; obtain ⟨q67, hFc106⟩ := hFc106
       replace hFc106 := lv_s hFc106; obtain ⟨x118, hx118, hFc106⟩ := hFc106
       replace hFc106 := ck_s hFc106; obtain ⟨q5z, hFc106⟩ := hFc106
       replace hFc106 := lv_s hFc106; obtain ⟨x121, hx121, hFc106⟩ := hFc106
       replace hFc106 := lv_s hFc106; obtain ⟨q0k, q6j, hFc106⟩ := hFc106
       replace hFc106 := ck_s hFc106; obtain ⟨q6k, hFc106⟩ := hFc106
       refine x_par (w0 := w0) [⟨[], [], [108], [], [], []⟩, ⟨[], [], [109], [], [], []⟩, ⟨[1], [1], [110], [], [], []⟩, ⟨[1, 2], [2], [111], [], [], []⟩, ⟨[1, 2, 3], [3], [112], [0], [], []⟩, ⟨[], [], [113], [], [], []⟩, ⟨[5], [5], [114], [1], [], []⟩, ⟨[5, 6], [6], [115], [1], [], []⟩, ⟨[], [], [116], [], [], []⟩, ⟨[8], [8], [117], [1], [], []⟩, ⟨[8, 9], [9], [118], [1], [], []⟩, ⟨[], [], [119], [], [], []⟩, ⟨[11], [11], [120], [1], [], []⟩, ⟨[11, 12], [12], [121], [1], [], []⟩, ⟨[5, 6, 7, 8, 9, 10, 11, 12, 13], [7, 10, 13], [122], [], [], []⟩, ⟨[5, 6, 7, 8, 9, 10, 11, 12, 13, 14], [14], [123], [], [], [2]⟩, ⟨[1, 2, 3, 4, 5, 6, 7, 8, 9, 10, 11, 12, 13, 14, 15], [4, 15], [124], [2, 4], [3], [5]⟩, ⟨[0, 1, 2, 3, 4, 5, 6, 7, 8, 9, 10, 11, 12, 13, 14, 15, 16], [0], [125], [], [], []⟩, ⟨[0, 1, 2, 3, 4, 5, 6, 7, 8, 9, 10, 11, 12, 13, 14, 15, 16, 17], [17], [126], [], [], []⟩, ⟨[0, 1, 2, 3, 4, 5, 6, 7, 8, 9, 10, 11, 12, 13, 14, 15, 16, 17, 18], [16, 18], [], [], [0], [6]⟩] [⟨none, (some 19), []⟩, ⟨none, none, []⟩, ⟨(some 15), none, [123]⟩, ⟨none, (some 16), []⟩, ⟨none, none, []⟩, ⟨(some 16), none, [124]⟩, ⟨(some 19), none, [124]⟩] [108, 109, 110, 111, 112, 113, 114, 115, 116, 117, 118, 119, 120, 121, 122, 123, 124, 125, 126] [0, 1, 3, 4] [1, 2, 4, 5, 6] [0, 1, 2, 3, 4, 5, 6, 7, 8, 9, 10, 11, 12, 13, 14, 15, 16, 17, 18] [fun Ep17 => Ep17 108 = .pointer (some ⟨q5, 0, none⟩), fun Ep17 => Ep17 109 = .pointer (some ⟨q5, 0, none⟩), fun Ep17 => Ep17 110 = .pointer (some ⟨q5, 0, none⟩), fun Ep17 => Ep17 111 = .pointer (some ⟨q5, 3, none⟩), fun Ep17 => Ep17 112 = .slice q0b f0.Blocks.length c_f0_3, fun Ep17 => Ep17 113 = .slice q2 q3.2.1.length c_y1_ret_10_1, fun Ep17 => Ep17 114 = .pointer (some ((adr q2).add ((0 : Int).toNat * (RpI .i64).sz))), fun Ep17 => Ep17 115 = .int .i64 x115, fun Ep17 => Ep17 116 = .slice q2 q3.2.1.length c_y1_ret_10_1, fun Ep17 => Ep17 117 = .pointer (some ((adr q2).add ((1 : Int).toNat * (RpI .i64).sz))), fun Ep17 => Ep17 118 = .int .i64 x118, fun Ep17 => Ep17 119 = .slice q2 q3.2.1.length c_y1_ret_10_1, fun Ep17 => Ep17 120 = .pointer (some ((adr q2).add ((2 : Int).toNat * (RpI .i64).sz))), fun Ep17 => Ep17 121 = .int .i64 x121, fun Ep17 => Ep17 122 = .agg #[.int .i64 x115, .int .i64 x118, .int .i64 x121], fun Ep17 => Ep17 123 = .slice (some ⟨(blkOf (Ep17 123)), 0, none⟩) 1 1, fun Ep17 => Ep17 124 = .slice (adOf (Ep17 124)) q0k.length (capOf (Ep17 124)), fun Ep17 => Ep17 125 = .pointer (some ⟨q5, 0, none⟩), fun Ep17 => Ep17 126 = .pointer (some ⟨q5, 3, none⟩), fun Ep17 => True] [fun Ep17 => cells q5 105 [.int .i64 f0.Rows, .int .i64 f0.Sites, .int .i64 f0.Layers, .slice q0b f0.Blocks.length c_f0_3, .slice q0c f0.Walls.length c_f0_4, .slice q0a f0.Ports.length c_f0_5], fun Ep17 => vec 3 (RpI .i64).sz (.slice q2 q3.2.1.length c_y1_ret_10_1) q3.2.1.length q4, fun Ep17 => cells (blkOf (Ep17 123)) 120 [.int .i64 x115, .int .i64 x118, .int .i64 x121], fun Ep17 => vec 120 R_floor_Block.sz (.slice q0b f0.Blocks.length c_f0_3) f0.Blocks.length q0h, fun Ep17 => ro ρ, fun Ep17 => bunA (fun (cs124 : List Value) => RepL R_floor_Block ρ q0k cs124) (fun (cs124 : List Value) => [vec 120 R_floor_Block.sz (.slice (adOf (Ep17 124)) q0k.length (capOf (Ep17 124))) q0k.length cs124]), fun Ep17 => cells q5 105 [.int .i64 f0.Rows, .int .i64 f0.Sites, .int .i64 f0.Layers, .slice (adOf (Ep17 124)) q0k.length (capOf (Ep17 124)), .slice q0c f0.Walls.length c_f0_4, .slice q0a f0.Ports.length c_f0_5]] mixed (by kernel_rfl) ((((hS.pull 1).pull 3).pull 2).pull 3) ?_ ?_
       ·refine ⟨?_, ?_, ?_, ?_, ?_, ?_, ?_, ?_, ?_, ?_, ?_, ?_, ?_, ?_, ?_, ?_, ?_, ?_, ?_, ?_, trivial⟩
        ·intro Ep17 w l' hE17 hO17 hF_ hS
         refine p (yl_move (hE17 0 rfl)) <| x_done <| ?_
         refine x_fin ⟨⟨_, rfl⟩, rfl, ?_⟩
         exact Eq.mp (by kernel_rfl) hS
        ·intro Ep17 w l' hE17 hO17 hF_ hS
         refine p (yl_move (hE17 0 rfl)) <| x_done <| ?_
         refine x_fin ⟨⟨_, rfl⟩, rfl, ?_⟩
         exact Eq.mp (by kernel_rfl) hS
        ·intro Ep17 w l' hE17 hO17 hF_ hS
         obtain ⟨q4f, -⟩ := hF_
         replace q4f : Ep17 109 = .pointer (some ⟨q5, 0, none⟩) := Eq.mp (by kernel_rfl) q4f
         refine p (yl_nilCheck q4f) <| x_done <| ?_
         refine x_fin ⟨⟨_, rfl⟩, rfl, ?_⟩
         exact Eq.mp (by kernel_rfl) hS
        ·intro Ep17 w l' hE17 hO17 hF_ hS
         obtain ⟨q4g, -⟩ := hF_
         replace q4g : Ep17 110 = .pointer (some ⟨q5, 0, none⟩) := Eq.mp (by kernel_rfl) q4g
         refine p (yl_field0 fld_105_3 q4g) <| x_done <| ?_
         refine x_fin ⟨⟨_, rfl⟩, rfl, ?_⟩
         exact Eq.mp (by kernel_rfl) hS
        ·intro Ep17 w l' hE17 hO17 hF_ hS
         obtain ⟨q4h, -⟩ := hF_
         replace q4h : Ep17 111 = .pointer (some ⟨q5, 3, none⟩) := Eq.mp (by kernel_rfl) q4h
         replace hS : St w0 w (cells q5 105 [.int .i64 f0.Rows, .int .i64 f0.Sites, .int .i64 f0.Layers, .slice q0b f0.Blocks.length c_f0_3, .slice q0c f0.Walls.length c_f0_4, .slice q0a f0.Ports.length c_f0_5] :: l') := Eq.mp (by kernel_rfl) hS
         refine pa (at_load one_102 q4h (hS.cell rfl)) <| x_done <| ?_
         refine x_fin ⟨⟨_, rfl⟩, rfl, ?_⟩
         exact Eq.mp (by kernel_rfl) hS
        ·intro Ep17 w l' hE17 hO17 hF_ hS
         refine p (yl_move (hE17 16 rfl)) <| x_done <| ?_
         refine x_fin ⟨⟨_, rfl⟩, rfl, ?_⟩
         exact Eq.mp (by kernel_rfl) hS
        ·intro Ep17 w l' hE17 hO17 hF_ hS
         obtain ⟨q4i, -⟩ := hF_
         replace q4i : Ep17 113 = .slice q2 q3.2.1.length c_y1_ret_10_1 := Eq.mp (by kernel_rfl) q4i
         replace hS : St w0 w (vec 3 (RpI .i64).sz (.slice q2 q3.2.1.length c_y1_ret_10_1) q3.2.1.length q4 :: l') := Eq.mp (by kernel_rfl) hS
         refine p (yix_o sl_22 q4i rfl hS q6 q66) <| x_done <| ?_
         refine x_fin ⟨⟨_, rfl⟩, rfl, ?_⟩
         exact Eq.mp (by kernel_rfl) hS
        ·intro Ep17 w l' hE17 hO17 hF_ hS
         obtain ⟨q4j, -⟩ := hF_
         replace q4j : Ep17 114 = .pointer (some ((adr q2).add ((0 : Int).toNat * (RpI .i64).sz))) := Eq.mp (by kernel_rfl) q4j
         replace hS : St w0 w (vec 3 (RpI .i64).sz (.slice q2 q3.2.1.length c_y1_ret_10_1) q3.2.1.length q4 :: l') := Eq.mp (by kernel_rfl) hS
         refine pa (at_load one_3 q4j (RepL.getW q6 hS q66 hx115)) <| x_done <| ?_
         refine x_fin ⟨⟨_, rfl⟩, rfl, ?_⟩
         exact Eq.mp (by kernel_rfl) hS
        ·intro Ep17 w l' hE17 hO17 hF_ hS
         refine p (yl_move (hE17 16 rfl)) <| x_done <| ?_
         refine x_fin ⟨⟨_, rfl⟩, rfl, ?_⟩
         exact Eq.mp (by kernel_rfl) hS
        ·intro Ep17 w l' hE17 hO17 hF_ hS
         obtain ⟨q4k, -⟩ := hF_
         replace q4k : Ep17 116 = .slice q2 q3.2.1.length c_y1_ret_10_1 := Eq.mp (by kernel_rfl) q4k
         replace hS : St w0 w (vec 3 (RpI .i64).sz (.slice q2 q3.2.1.length c_y1_ret_10_1) q3.2.1.length q4 :: l') := Eq.mp (by kernel_rfl) hS
         refine p (yix_o sl_22 q4k rfl hS q6 q67) <| x_done <| ?_
         refine x_fin ⟨⟨_, rfl⟩, rfl, ?_⟩
         exact Eq.mp (by kernel_rfl) hS
        ·intro Ep17 w l' hE17 hO17 hF_ hS
         obtain ⟨q4l, -⟩ := hF_
         replace q4l : Ep17 117 = .pointer (some ((adr q2).add ((1 : Int).toNat * (RpI .i64).sz))) := Eq.mp (by kernel_rfl) q4l
         replace hS : St w0 w (vec 3 (RpI .i64).sz (.slice q2 q3.2.1.length c_y1_ret_10_1) q3.2.1.length q4 :: l') := Eq.mp (by kernel_rfl) hS
         refine pa (at_load one_3 q4l (RepL.getW q6 hS q67 hx118)) <| x_done <| ?_
         refine x_fin ⟨⟨_, rfl⟩, rfl, ?_⟩
         exact Eq.mp (by kernel_rfl) hS
        ·intro Ep17 w l' hE17 hO17 hF_ hS
         refine p (yl_move (hE17 16 rfl)) <| x_done <| ?_
         refine x_fin ⟨⟨_, rfl⟩, rfl, ?_⟩
         exact Eq.mp (by kernel_rfl) hS
        ·intro Ep17 w l' hE17 hO17 hF_ hS
         obtain ⟨q2l, -⟩ := hF_
         replace q2l : Ep17 119 = .slice q2 q3.2.1.length c_y1_ret_10_1 := Eq.mp (by kernel_rfl) q2l
         replace hS : St w0 w (vec 3 (RpI .i64).sz (.slice q2 q3.2.1.length c_y1_ret_10_1) q3.2.1.length q4 :: l') := Eq.mp (by kernel_rfl) hS
         refine p (yix_o sl_22 q2l rfl hS q6 q5z) <| x_done <| ?_
         refine x_fin ⟨⟨_, rfl⟩, rfl, ?_⟩
         exact Eq.mp (by kernel_rfl) hS
        ·intro Ep17 w l' hE17 hO17 hF_ hS
         obtain ⟨q2m, -⟩ := hF_
         replace q2m : Ep17 120 = .pointer (some ((adr q2).add ((2 : Int).toNat * (RpI .i64).sz))) := Eq.mp (by kernel_rfl) q2m
         replace hS : St w0 w (vec 3 (RpI .i64).sz (.slice q2 q3.2.1.length c_y1_ret_10_1) q3.2.1.length q4 :: l') := Eq.mp (by kernel_rfl) hS
         refine pa (at_load one_3 q2m (RepL.getW q6 hS q5z hx121)) <| x_done <| ?_
         refine x_fin ⟨⟨_, rfl⟩, rfl, ?_⟩
         exact Eq.mp (by kernel_rfl) hS
        ·intro Ep17 w l' hE17 hO17 hF_ hS
         obtain ⟨q4m, q2n, q2o, -⟩ := hF_
         replace q4m : Ep17 115 = .int .i64 x115 := Eq.mp (by kernel_rfl) q4m
         replace q2n : Ep17 118 = .int .i64 x118 := Eq.mp (by kernel_rfl) q2n
         replace q2o : Ep17 121 = .int .i64 x121 := Eq.mp (by kernel_rfl) q2o
         refine p (v := .agg #[.int .i64 x115, .int .i64 x118, .int .i64 x121]) (yl_build bld_120 bldf_120 (parts_eq (pt (va := .int .i64 x115) q4m (pt (va := .int .i64 x118) q2n (pt (va := .int .i64 x121) q2o pt0)))) (by kernel_rfl)) <| x_done <| ?_
         refine x_fin ⟨⟨_, rfl⟩, rfl, ?_⟩
         exact Eq.mp (by kernel_rfl) hS
        ·intro Ep17 w l' hE17 hO17 hF_ hS
         obtain ⟨q2p, -⟩ := hF_
         replace q2p : Ep17 122 = .agg #[.int .i64 x115, .int .i64 x118, .int .i64 x121] := Eq.mp (by kernel_rfl) q2p
         refine o_buildSlice (vs := [.agg #[.int .i64 x115, .int .i64 x118, .int .i64 x121]]) (cs := [.int .i64 x115, .int .i64 x118, .int .i64 x121]) sl_102 zero_120 (parts_eq (pt (va := .agg #[.int .i64 x115, .int .i64 x118, .int .i64 x121]) q2p pt0)) rfl (by intro v hv; simp only [List.mem_cons, List.not_mem_nil, or_false] at hv; first | (subst hv; rfl) | (rcases hv with rfl <;> rfl)) (by decide) rfl hS (fun b123 w' hS => ?_)
         refine x_done <| ?_
         refine x_fin ⟨⟨_, rfl⟩, rfl, ?_⟩
         exact Eq.mp (by kernel_rfl) hS
        ·intro Ep17 w l' hE17 hO17 hF_ hS
         obtain ⟨q4n, q2q, -⟩ := hF_
         replace q4n : Ep17 112 = .slice q0b f0.Blocks.length c_f0_3 := Eq.mp (by kernel_rfl) q4n
         replace q2q : Ep17 123 = .slice (some ⟨(blkOf (Ep17 123)), 0, none⟩) 1 1 := Eq.mp (by kernel_rfl) q2q
         replace hS : St w0 w (cells (blkOf (Ep17 123)) 120 [.int .i64 x115, .int .i64 x118, .int .i64 x121] :: ro ρ :: vec 120 R_floor_Block.sz (.slice q0b f0.Blocks.length c_f0_3) f0.Blocks.length q0h :: l') := Eq.mp (by kernel_rfl) hS
         refine o_ap sl_102 zero_120 rfl (by decide) q4n q2q (hS.pull 2) q26 (src_blk usl_102 hS rfl rfl) (RepL.cons (R := R_floor_Block) (ρ := ρ) (x := (T_floor_Block.mk x115 x118 x121)) (cs := [.int .i64 x115, .int .i64 x118, .int .i64 x121]) rfl RepL.nil) q6j q6k (fun A124 c124 cs124 w' hr124 hS => ?_)
         refine x_done <| ?_
         refine x_fin ⟨⟨_, rfl⟩, rfl, ?_⟩
         replace hS := St.bun (Φ := (fun (cs124 : List Value) => RepL R_floor_Block ρ q0k cs124)) (L := (fun (cs124 : List Value) => [vec 120 R_floor_Block.sz (.slice A124 q0k.length c124) q0k.length cs124])) cs124 hr124 hS
         exact Eq.mp (by kernel_rfl) ((hS.pull 2).pull 2)
        ·intro Ep17 w l' hE17 hO17 hF_ hS
         obtain ⟨q4o, -⟩ := hF_
         replace q4o : Ep17 108 = .pointer (some ⟨q5, 0, none⟩) := Eq.mp (by kernel_rfl) q4o
         refine p (yl_nilCheck q4o) <| x_done <| ?_
         refine x_fin ⟨⟨_, rfl⟩, rfl, ?_⟩
         exact Eq.mp (by kernel_rfl) hS
        ·intro Ep17 w l' hE17 hO17 hF_ hS
         obtain ⟨q2r, -⟩ := hF_
         replace q2r : Ep17 125 = .pointer (some ⟨q5, 0, none⟩) := Eq.mp (by kernel_rfl) q2r
         refine p (yl_field0 fld_105_3 q2r) <| x_done <| ?_
         refine x_fin ⟨⟨_, rfl⟩, rfl, ?_⟩
         exact Eq.mp (by kernel_rfl) hS
        ·intro Ep17 w l' hE17 hO17 hF_ hS
         obtain ⟨q2s, q2t, -⟩ := hF_
         replace q2s : Ep17 124 = .slice (adOf (Ep17 124)) q0k.length (capOf (Ep17 124)) := Eq.mp (by kernel_rfl) q2s
         replace q2t : Ep17 126 = .pointer (some ⟨q5, 3, none⟩) := Eq.mp (by kernel_rfl) q2t
         replace hS : St w0 w (cells q5 105 [.int .i64 f0.Rows, .int .i64 f0.Sites, .int .i64 f0.Layers, .slice q0b f0.Blocks.length c_f0_3, .slice q0c f0.Walls.length c_f0_4, .slice q0a f0.Ports.length c_f0_5] :: l') := Eq.mp (by kernel_rfl) hS
         refine o_store1 (v := .slice (adOf (Ep17 124)) q0k.length (capOf (Ep17 124))) one_102 q2t q2s rfl rfl hS (fun w' hS => ?_)
         refine x_done <| ?_
         refine x_fin ⟨⟨undef, rfl⟩, trivial, ?_⟩
         exact Eq.mp (by kernel_rfl) hS
       intro Ep17 w' hE17 hF_ hS
       obtain ⟨q4o, q4f, q4g, q4h, q4n, q4i, q4j, q4m, q4k, q4l, q2n, q2l, q2m, q2o, q2p, q2q, q2s, q2r, q2t, -⟩ := hF_
       replace q4o : Ep17 108 = .pointer (some ⟨q5, 0, none⟩) := Eq.mp (by kernel_rfl) q4o
       replace q4f : Ep17 109 = .pointer (some ⟨q5, 0, none⟩) := Eq.mp (by kernel_rfl) q4f
       replace q4g : Ep17 110 = .pointer (some ⟨q5, 0, none⟩) := Eq.mp (by kernel_rfl) q4g
       replace q4h : Ep17 111 = .pointer (some ⟨q5, 3, none⟩) := Eq.mp (by kernel_rfl) q4h
       replace q4n : Ep17 112 = .slice q0b f0.Blocks.length c_f0_3 := Eq.mp (by kernel_rfl) q4n
       replace q4i : Ep17 113 = .slice q2 q3.2.1.length c_y1_ret_10_1 := Eq.mp (by kernel_rfl) q4i
       replace q4j : Ep17 114 = .pointer (some ((adr q2).add ((0 : Int).toNat * (RpI .i64).sz))) := Eq.mp (by kernel_rfl) q4j
       replace q4m : Ep17 115 = .int .i64 x115 := Eq.mp (by kernel_rfl) q4m
       replace q4k : Ep17 116 = .slice q2 q3.2.1.length c_y1_ret_10_1 := Eq.mp (by kernel_rfl) q4k
       replace q4l : Ep17 117 = .pointer (some ((adr q2).add ((1 : Int).toNat * (RpI .i64).sz))) := Eq.mp (by kernel_rfl) q4l
       replace q2n : Ep17 118 = .int .i64 x118 := Eq.mp (by kernel_rfl) q2n
       replace q2l : Ep17 119 = .slice q2 q3.2.1.length c_y1_ret_10_1 := Eq.mp (by kernel_rfl) q2l
       replace q2m : Ep17 120 = .pointer (some ((adr q2).add ((2 : Int).toNat * (RpI .i64).sz))) := Eq.mp (by kernel_rfl) q2m
       replace q2o : Ep17 121 = .int .i64 x121 := Eq.mp (by kernel_rfl) q2o
       replace q2p : Ep17 122 = .agg #[.int .i64 x115, .int .i64 x118, .int .i64 x121] := Eq.mp (by kernel_rfl) q2p
       replace q2q : Ep17 123 = .slice (some ⟨(blkOf (Ep17 123)), 0, none⟩) 1 1 := Eq.mp (by kernel_rfl) q2q
       replace q2s : Ep17 124 = .slice (adOf (Ep17 124)) q0k.length (capOf (Ep17 124)) := Eq.mp (by kernel_rfl) q2s
       replace q2r : Ep17 125 = .pointer (some ⟨q5, 0, none⟩) := Eq.mp (by kernel_rfl) q2r
       replace q2t : Ep17 126 = .pointer (some ⟨q5, 3, none⟩) := Eq.mp (by kernel_rfl) q2t
       replace hS : St w0 w' (vec 3 (RpI .i64).sz (.slice q2 q3.2.1.length c_y1_ret_10_1) q3.2.1.length q4 :: cells (blkOf (Ep17 123)) 120 [.int .i64 x115, .int .i64 x118, .int .i64 x121] :: ro ρ :: bunA (fun (cs124 : List Value) => RepL R_floor_Block ρ q0k cs124) (fun (cs124 : List Value) => [vec 120 R_floor_Block.sz (.slice (adOf (Ep17 124)) q0k.length (capOf (Ep17 124))) q0k.length cs124]) :: cells q5 105 [.int .i64 f0.Rows, .int .i64 f0.Sites, .int .i64 f0.Layers, .slice (adOf (Ep17 124)) q0k.length (capOf (Ep17 124)), .slice q0c f0.Walls.length c_f0_4, .slice q0a f0.Ports.length c_f0_5] :: (vec 123 R_floor_Wall.sz (.slice q0c f0.Walls.length c_f0_4) f0.Walls.length q0i :: vec 117 R_floor_Port.sz (.slice q0a f0.Ports.length c_f0_5) f0.Ports.length q0j :: cells q0e 107 [.slice q9 q7.length c_sites1_0] :: vec 109 R_floor_Site.sz (.slice q9 q7.length c_sites1_0) q7.length q0f :: l)) := Eq.mp (by kernel_rfl) hS
       have q_ := St.unbun (hS.pull 3); obtain ⟨cs124, hr124, hS⟩ := q_
       exact x_inv ⟨(adOf (Ep17 124)), q0k.length, (capOf (Ep17 124)), cs124, q0c, f0.Walls.length, c_f0_4, q0i, q9, q7.length, c_sites1_0, q0f, q0k, f0.Walls, q7, (Option.some.inj (show some _ = some _ from hFc106)), hr124, q1y, q0n, (((((((((hS.pull 1).drop.pull 1).drop.pull 1).pull 6).pull 5).pull 5).pull 4).pull 6).pull 6)⟩
      ·replace hFc106 := it_f hc106 hFc106
       refine x_seq <| x_region <| p (yl_eql_string rfl rfl) <| p (yl_assign rfl) <|
        x_done <| ?_
       replace hFc106 := bd_s hFc106; obtain ⟨oc127, hFc127, hFc106⟩ := hFc106
       refine x_join (fun E w => ∃ (q1n : Option Addr) (q1o : Nat) (c_b_f0_4_c127 : Nat) (q1c : List Value) (q11 : Option Addr) (q12 : Nat) (c_b_sites1_0_c127 : Nat) (q0s : List Value) (q1f : List T_floor_Wall) (q0t : List T_floor_Site), (q1f, q0t) = oc127 ∧ RepL R_floor_Wall ρ q1f q1c ∧ RepL R_floor_Site ρ q0t q0s ∧ St w0 w (cells q5 105 [.int .i64 f0.Rows, .int .i64 f0.Sites, .int .i64 f0.Layers, .slice q0b f0.Blocks.length c_f0_3, .slice q1n q1o c_b_f0_4_c127, .slice q0a f0.Ports.length c_f0_5] :: cells q0e 107 [.slice q11 q12 c_b_sites1_0_c127] :: vec 120 R_floor_Block.sz (.slice q0b f0.Blocks.length c_f0_3) f0.Blocks.length q0h :: vec 123 R_floor_Wall.sz (.slice q1n q1o c_b_f0_4_c127) q1o q1c :: vec 117 R_floor_Port.sz (.slice q0a f0.Ports.length c_f0_5) f0.Ports.length q0j :: vec 109 R_floor_Site.sz (.slice q11 q12 c_b_sites1_0_c127) q12 q0s :: ro ρ :: l)) ?_ ?_
       ·refine x_cond_p (word2 = (⟨#[119, 97, 108, 108]⟩ : ByteArray)) rfl (fun hc127 => ?_) (fun hc127 => ?_)
        ·replace hFc127 := it_t hc127 hFc127
         replace hFc127 := ck_s hFc127; obtain ⟨q68, hFc127⟩ := hFc127
         replace hFc127 := lv_s hFc127; obtain ⟨x136, hx136, hFc127⟩ := hFc127
         replace hFc127 := ck_s hFc127; obtain ⟨q69, hFc127⟩ := hFc127
         replace hFc127 := lv_s hFc127; obtain ⟨x139, hx139, hFc127⟩ := hFc127
         replace hFc127 := ck_s hFc127; obtain ⟨q60, hFc127⟩ := hFc127
         replace hFc127 := lv_s hFc127; obtain ⟨x142, hx142, hFc127⟩ := hFc127
         replace hFc127 := ck_s hFc127; obtain ⟨q61, hFc127⟩ := hFc127
         replace hFc127 := lv_s hFc127; obtain ⟨x145, hx145, hFc127⟩ := hFc127
         replace hFc127 := ck_s hFc127; obtain ⟨q62, hFc127⟩ := hFc127
         replace hFc127 := lv_s hFc127; obtain ⟨x148, hx148, hFc127⟩ := hFc127
         replace hFc127 := lv_s hFc127; obtain ⟨q0l, q6l, hFc127⟩ := hFc127
         replace hFc127 := ck_s hFc127; obtain ⟨q6m, hFc127⟩ := hFc127
         refine x_par (w0 := w0) [⟨[], [], [129], [], [], []⟩, ⟨[], [], [130], [], [], []⟩, ⟨[1], [1], [131], [], [], []⟩, ⟨[1, 2], [2], [132], [], [], []⟩, ⟨[1, 2, 3], [3], [133], [0], [], []⟩, ⟨[], [], [134], [], [], []⟩, ⟨[5], [5], [135], [1], [], []⟩, ⟨[5, 6], [6], [136], [1], [], []⟩, ⟨[], [], [137], [], [], []⟩, ⟨[8], [8], [138], [1], [], []⟩, ⟨[8, 9], [9], [139], [1], [], []⟩, ⟨[], [], [140], [], [], []⟩, ⟨[11], [11], [141], [1], [], []⟩, ⟨[11, 12], [12], [142], [1], [], []⟩, ⟨[], [], [143], [], [], []⟩, ⟨[14], [14], [144], [1], [], []⟩, ⟨[14, 15], [15], [145], [1], [], []⟩, ⟨[], [], [146], [], [], []⟩, ⟨[17], [17], [147], [1], [], []⟩, ⟨[17, 18], [18], [148], [1], [], []⟩, ⟨[5, 6, 7, 8, 9, 10, 11, 12, 13, 14, 15, 16, 17, 18, 19], [7, 10, 13, 16, 19], [149], [], [], []⟩, ⟨[5, 6, 7, 8, 9, 10, 11, 12, 13, 14, 15, 16, 17, 18, 19, 20], [20], [150], [], [], [2]⟩, ⟨[1, 2, 3, 4, 5, 6, 7, 8, 9, 10, 11, 12, 13, 14, 15, 16, 17, 18, 19, 20, 21], [4, 21], [151], [2, 4], [3], [5]⟩, ⟨[0, 1, 2, 3, 4, 5, 6, 7, 8, 9, 10, 11, 12, 13, 14, 15, 16, 17, 18, 19, 20, 21, 22], [0], [152], [], [], []⟩, ⟨[0, 1, 2, 3, 4, 5, 6, 7, 8, 9, 10, 11, 12, 13, 14, 15, 16, 17, 18, 19, 20, 21, 22, 23], [23], [153], [], [], []⟩, ⟨[0, 1, 2, 3, 4, 5, 6, 7, 8, 9, 10, 11, 12, 13, 14, 15, 16, 17, 18, 19, 20, 21, 22, 23, 24], [22, 24], [], [], [0], [6]⟩] [⟨none, (some 25), []⟩, ⟨none, none, []⟩, ⟨(some 21), none, [150]⟩, ⟨none, (some 22), []⟩, ⟨none, none, []⟩, ⟨(some 22), none, [151]⟩, ⟨(some 25), none, [151]⟩] [129, 130, 131, 132, 133, 134, 135, 136, 137, 138, 139, 140, 141, 142, 143, 144, 145, 146, 147, 148, 149, 150, 151, 152, 153] [0, 1, 3, 4] [1, 2, 4, 5, 6] [0, 1, 2, 3, 4, 5, 6, 7, 8, 9, 10, 11, 12, 13, 14, 15, 16, 17, 18, 19, 20, 21, 22, 23, 24] [fun Ep19 => Ep19 129 = .pointer (some ⟨q5, 0, none⟩), fun Ep19 => Ep19 130 = .pointer (some ⟨q5, 0, none⟩), fun Ep19 => Ep19 131 = .pointer (some ⟨q5, 0, none⟩), fun Ep19 => Ep19 132 = .pointer (some ⟨q5, 4, none⟩), fun Ep19 => Ep19 133 = .slice q0c f0.Walls.length c_f0_4, fun Ep19 => Ep19 134 = .slice q2 q3.2.1.length c_y1_ret_10_1, fun Ep19 => Ep19 135 = .pointer (some ((adr q2).add ((0 : Int).toNat * (RpI .i64).sz))), fun Ep19 => Ep19 136 = .int .i64 x136, fun Ep19 => Ep19 137 = .slice q2 q3.2.1.length c_y1_ret_10_1, fun Ep19 => Ep19 138 = .pointer (some ((adr q2).add ((1 : Int).toNat * (RpI .i64).sz))), fun Ep19 => Ep19 139 = .int .i64 x139, fun Ep19 => Ep19 140 = .slice q2 q3.2.1.length c_y1_ret_10_1, fun Ep19 => Ep19 141 = .pointer (some ((adr q2).add ((2 : Int).toNat * (RpI .i64).sz))), fun Ep19 => Ep19 142 = .int .i64 x142, fun Ep19 => Ep19 143 = .slice q2 q3.2.1.length c_y1_ret_10_1, fun Ep19 => Ep19 144 = .pointer (some ((adr q2).add ((3 : Int).toNat * (RpI .i64).sz))), fun Ep19 => Ep19 145 = .int .i64 x145, fun Ep19 => Ep19 146 = .slice q2 q3.2.1.length c_y1_ret_10_1, fun Ep19 => Ep19 147 = .pointer (some ((adr q2).add ((4 : Int).toNat * (RpI .i64).sz))), fun Ep19 => Ep19 148 = .int .i64 x148, fun Ep19 => Ep19 149 = .agg #[.int .i64 x136, .int .i64 x139, .int .i64 x142, .int .i64 x145, .int .i64 x148], fun Ep19 => Ep19 150 = .slice (some ⟨(blkOf (Ep19 150)), 0, none⟩) 1 1, fun Ep19 => Ep19 151 = .slice (adOf (Ep19 151)) q0l.length (capOf (Ep19 151)), fun Ep19 => Ep19 152 = .pointer (some ⟨q5, 0, none⟩), fun Ep19 => Ep19 153 = .pointer (some ⟨q5, 4, none⟩), fun Ep19 => True] [fun Ep19 => cells q5 105 [.int .i64 f0.Rows, .int .i64 f0.Sites, .int .i64 f0.Layers, .slice q0b f0.Blocks.length c_f0_3, .slice q0c f0.Walls.length c_f0_4, .slice q0a f0.Ports.length c_f0_5], fun Ep19 => vec 3 (RpI .i64).sz (.slice q2 q3.2.1.length c_y1_ret_10_1) q3.2.1.length q4, fun Ep19 => cells (blkOf (Ep19 150)) 123 [.int .i64 x136, .int .i64 x139, .int .i64 x142, .int .i64 x145, .int .i64 x148], fun Ep19 => vec 123 R_floor_Wall.sz (.slice q0c f0.Walls.length c_f0_4) f0.Walls.length q0i, fun Ep19 => ro ρ, fun Ep19 => bunA (fun (cs151 : List Value) => RepL R_floor_Wall ρ q0l cs151) (fun (cs151 : List Value) => [vec 123 R_floor_Wall.sz (.slice (adOf (Ep19 151)) q0l.length (capOf (Ep19 151))) q0l.length cs151]), fun Ep19 => cells q5 105 [.int .i64 f0.Rows, .int .i64 f0.Sites, .int .i64 f0.Layers, .slice q0b f0.Blocks.length c_f0_3, .slice (adOf (Ep19 151)) q0l.length (capOf (Ep19 151)), .slice q0a f0.Ports.length c_f0_5]] mixed (by kernel_rfl) ((((hS.pull 1).pull 4).pull 2).pull 3) ?_ ?_
         ·refine ⟨?_, ?_, ?_, ?_, ?_, ?_, ?_, ?_, ?_, ?_, ?_, ?_, ?_, ?_, ?_, ?_, ?_, ?_, ?_, ?_, ?_, ?_, ?_, ?_, ?_, ?_, trivial⟩
          ·intro Ep19 w l' hE19 hO19 hF_ hS
           refine p (yl_move (hE19 0 rfl)) <| x_done <| ?_
           refine x_fin ⟨⟨_, rfl⟩, rfl, ?_⟩
           exact Eq.mp (by kernel_rfl) hS
          ·intro Ep19 w l' hE19 hO19 hF_ hS
           refine p (yl_move (hE19 0 rfl)) <| x_done <| ?_
           refine x_fin ⟨⟨_, rfl⟩, rfl, ?_⟩
           exact Eq.mp (by kernel_rfl) hS
          ·intro Ep19 w l' hE19 hO19 hF_ hS
           obtain ⟨q4p, -⟩ := hF_
           replace q4p : Ep19 130 = .pointer (some ⟨q5, 0, none⟩) := Eq.mp (by kernel_rfl) q4p
           refine p (yl_nilCheck q4p) <| x_done <| ?_
           refine x_fin ⟨⟨_, rfl⟩, rfl, ?_⟩
           exact Eq.mp (by kernel_rfl) hS
          ·intro Ep19 w l' hE19 hO19 hF_ hS
           obtain ⟨q4q, -⟩ := hF_
           replace q4q : Ep19 131 = .pointer (some ⟨q5, 0, none⟩) := Eq.mp (by kernel_rfl) q4q
           refine p (yl_field0 fld_105_4 q4q) <| x_done <| ?_
           refine x_fin ⟨⟨_, rfl⟩, rfl, ?_⟩
           exact Eq.mp (by kernel_rfl) hS
          ·intro Ep19 w l' hE19 hO19 hF_ hS
           obtain ⟨q4r, -⟩ := hF_
           replace q4r : Ep19 132 = .pointer (some ⟨q5, 4, none⟩) := Eq.mp (by kernel_rfl) q4r
           replace hS : St w0 w (cells q5 105 [.int .i64 f0.Rows, .int .i64 f0.Sites, .int .i64 f0.Layers, .slice q0b f0.Blocks.length c_f0_3, .slice q0c f0.Walls.length c_f0_4, .slice q0a f0.Ports.length c_f0_5] :: l') := Eq.mp (by kernel_rfl) hS
           refine pa (at_load one_89 q4r (hS.cell rfl)) <| x_done <| ?_
           refine x_fin ⟨⟨_, rfl⟩, rfl, ?_⟩
           exact Eq.mp (by kernel_rfl) hS
          ·intro Ep19 w l' hE19 hO19 hF_ hS
           refine p (yl_move (hE19 16 rfl)) <| x_done <| ?_
           refine x_fin ⟨⟨_, rfl⟩, rfl, ?_⟩
           exact Eq.mp (by kernel_rfl) hS
          ·intro Ep19 w l' hE19 hO19 hF_ hS
           obtain ⟨q4s, -⟩ := hF_
           replace q4s : Ep19 134 = .slice q2 q3.2.1.length c_y1_ret_10_1 := Eq.mp (by kernel_rfl) q4s
           replace hS : St w0 w (vec 3 (RpI .i64).sz (.slice q2 q3.2.1.length c_y1_ret_10_1) q3.2.1.length q4 :: l') := Eq.mp (by kernel_rfl) hS
           refine p (yix_o sl_22 q4s rfl hS q6 q68) <| x_done <| ?_
           refine x_fin ⟨⟨_, rfl⟩, rfl, ?_⟩
           exact Eq.mp (by kernel_rfl) hS
          ·intro Ep19 w l' hE19 hO19 hF_ hS
           obtain ⟨q4t, -⟩ := hF_
           replace q4t : Ep19 135 = .pointer (some ((adr q2).add ((0 : Int).toNat * (RpI .i64).sz))) := Eq.mp (by kernel_rfl) q4t
           replace hS : St w0 w (vec 3 (RpI .i64).sz (.slice q2 q3.2.1.length c_y1_ret_10_1) q3.2.1.length q4 :: l') := Eq.mp (by kernel_rfl) hS
           refine pa (at_load one_3 q4t (RepL.getW q6 hS q68 hx136)) <| x_done <| ?_
           refine x_fin ⟨⟨_, rfl⟩, rfl, ?_⟩
           exact Eq.mp (by kernel_rfl) hS
          ·intro Ep19 w l' hE19 hO19 hF_ hS
           refine p (yl_move (hE19 16 rfl)) <| x_done <| ?_
           refine x_fin ⟨⟨_, rfl⟩, rfl, ?_⟩
           exact Eq.mp (by kernel_rfl) hS
          ·intro Ep19 w l' hE19 hO19 hF_ hS
           obtain ⟨q4u, -⟩ := hF_
           replace q4u : Ep19 137 = .slice q2 q3.2.1.length c_y1_ret_10_1 := Eq.mp (by kernel_rfl) q4u
           replace hS : St w0 w (vec 3 (RpI .i64).sz (.slice q2 q3.2.1.length c_y1_ret_10_1) q3.2.1.length q4 :: l') := Eq.mp (by kernel_rfl) hS
           refine p (yix_o sl_22 q4u rfl hS q6 q69) <| x_done <| ?_
           refine x_fin ⟨⟨_, rfl⟩, rfl, ?_⟩
           exact Eq.mp (by kernel_rfl) hS
          ·intro Ep19 w l' hE19 hO19 hF_ hS
           obtain ⟨q4v, -⟩ := hF_
           replace q4v : Ep19 138 = .pointer (some ((adr q2).add ((1 : Int).toNat * (RpI .i64).sz))) := Eq.mp (by kernel_rfl) q4v
           replace hS : St w0 w (vec 3 (RpI .i64).sz (.slice q2 q3.2.1.length c_y1_ret_10_1) q3.2.1.length q4 :: l') := Eq.mp (by kernel_rfl) hS
           refine pa (at_load one_3 q4v (RepL.getW q6 hS q69 hx139)) <| x_done <| ?_
           refine x_fin ⟨⟨_, rfl⟩, rfl, ?_⟩
           exact Eq.mp (by kernel_rfl) hS
          ·intro Ep19 w l' hE19 hO19 hF_ hS
           refine p (yl_move (hE19 16 rfl)) <| x_done <| ?_
           refine x_fin ⟨⟨_, rfl⟩, rfl, ?_⟩
           exact Eq.mp (by kernel_rfl) hS
          ·intro Ep19 w l' hE19 hO19 hF_ hS
           obtain ⟨q2u, -⟩ := hF_
           replace q2u : Ep19 140 = .slice q2 q3.2.1.length c_y1_ret_10_1 := Eq.mp (by kernel_rfl) q2u
           replace hS : St w0 w (vec 3 (RpI .i64).sz (.slice q2 q3.2.1.length c_y1_ret_10_1) q3.2.1.length q4 :: l') := Eq.mp (by kernel_rfl) hS
           refine p (yix_o sl_22 q2u rfl hS q6 q60) <| x_done <| ?_
           refine x_fin ⟨⟨_, rfl⟩, rfl, ?_⟩
           exact Eq.mp (by kernel_rfl) hS
          ·intro Ep19 w l' hE19 hO19 hF_ hS
           obtain ⟨q2v, -⟩ := hF_
           replace q2v : Ep19 141 = .pointer (some ((adr q2).add ((2 : Int).toNat * (RpI .i64).sz))) := Eq.mp (by kernel_rfl) q2v
           replace hS : St w0 w (vec 3 (RpI .i64).sz (.slice q2 q3.2.1.length c_y1_ret_10_1) q3.2.1.length q4 :: l') := Eq.mp (by kernel_rfl) hS
           refine pa (at_load one_3 q2v (RepL.getW q6 hS q60 hx142)) <| x_done <| ?_
           refine x_fin ⟨⟨_, rfl⟩, rfl, ?_⟩
           exact Eq.mp (by kernel_rfl) hS
          ·intro Ep19 w l' hE19 hO19 hF_ hS
           refine p (yl_move (hE19 16 rfl)) <| x_done <| ?_
           refine x_fin ⟨⟨_, rfl⟩, rfl, ?_⟩
           exact Eq.mp (by kernel_rfl) hS
          ·intro Ep19 w l' hE19 hO19 hF_ hS
           obtain ⟨q2w, -⟩ := hF_
           replace q2w : Ep19 143 = .slice q2 q3.2.1.length c_y1_ret_10_1 := Eq.mp (by kernel_rfl) q2w
           replace hS : St w0 w (vec 3 (RpI .i64).sz (.slice q2 q3.2.1.length c_y1_ret_10_1) q3.2.1.length q4 :: l') := Eq.mp (by kernel_rfl) hS
           refine p (yix_o sl_22 q2w rfl hS q6 q61) <| x_done <| ?_
           refine x_fin ⟨⟨_, rfl⟩, rfl, ?_⟩
           exact Eq.mp (by kernel_rfl) hS
          ·intro Ep19 w l' hE19 hO19 hF_ hS
           obtain ⟨q2x, -⟩ := hF_
           replace q2x : Ep19 144 = .pointer (some ((adr q2).add ((3 : Int).toNat * (RpI .i64).sz))) := Eq.mp (by kernel_rfl) q2x
           replace hS : St w0 w (vec 3 (RpI .i64).sz (.slice q2 q3.2.1.length c_y1_ret_10_1) q3.2.1.length q4 :: l') := Eq.mp (by kernel_rfl) hS
           refine pa (at_load one_3 q2x (RepL.getW q6 hS q61 hx145)) <| x_done <| ?_
           refine x_fin ⟨⟨_, rfl⟩, rfl, ?_⟩
           exact Eq.mp (by kernel_rfl) hS
          ·intro Ep19 w l' hE19 hO19 hF_ hS
           refine p (yl_move (hE19 16 rfl)) <| x_done <| ?_
           refine x_fin ⟨⟨_, rfl⟩, rfl, ?_⟩
           exact Eq.mp (by kernel_rfl) hS
          ·intro Ep19 w l' hE19 hO19 hF_ hS
           obtain ⟨q2y, -⟩ := hF_
           replace q2y : Ep19 146 = .slice q2 q3.2.1.length c_y1_ret_10_1 := Eq.mp (by kernel_rfl) q2y
           replace hS : St w0 w (vec 3 (RpI .i64).sz (.slice q2 q3.2.1.length c_y1_ret_10_1) q3.2.1.length q4 :: l') := Eq.mp (by kernel_rfl) hS
           refine p (yix_o sl_22 q2y rfl hS q6 q62) <| x_done <| ?_
           refine x_fin ⟨⟨_, rfl⟩, rfl, ?_⟩
           exact Eq.mp (by kernel_rfl) hS
          ·intro Ep19 w l' hE19 hO19 hF_ hS
           obtain ⟨q2z, -⟩ := hF_
           replace q2z : Ep19 147 = .pointer (some ((adr q2).add ((4 : Int).toNat * (RpI .i64).sz))) := Eq.mp (by kernel_rfl) q2z
           replace hS : St w0 w (vec 3 (RpI .i64).sz (.slice q2 q3.2.1.length c_y1_ret_10_1) q3.2.1.length q4 :: l') := Eq.mp (by kernel_rfl) hS
           refine pa (at_load one_3 q2z (RepL.getW q6 hS q62 hx148)) <| x_done <| ?_
           refine x_fin ⟨⟨_, rfl⟩, rfl, ?_⟩
           exact Eq.mp (by kernel_rfl) hS
          ·intro Ep19 w l' hE19 hO19 hF_ hS
           obtain ⟨q4w, q30, q31, q32, q33, -⟩ := hF_
           replace q4w : Ep19 136 = .int .i64 x136 := Eq.mp (by kernel_rfl) q4w
           replace q30 : Ep19 139 = .int .i64 x139 := Eq.mp (by kernel_rfl) q30
           replace q31 : Ep19 142 = .int .i64 x142 := Eq.mp (by kernel_rfl) q31
           replace q32 : Ep19 145 = .int .i64 x145 := Eq.mp (by kernel_rfl) q32
           replace q33 : Ep19 148 = .int .i64 x148 := Eq.mp (by kernel_rfl) q33
           refine p (v := .agg #[.int .i64 x136, .int .i64 x139, .int .i64 x142, .int .i64 x145, .int .i64 x148]) (yl_build bld_123 bldf_123 (parts_eq (pt (va := .int .i64 x136) q4w (pt (va := .int .i64 x139) q30 (pt (va := .int .i64 x142) q31 (pt (va := .int .i64 x145) q32 (pt (va := .int .i64 x148) q33 pt0)))))) (by kernel_rfl)) <| x_done <| ?_
           refine x_fin ⟨⟨_, rfl⟩, rfl, ?_⟩
           exact Eq.mp (by kernel_rfl) hS
          ·intro Ep19 w l' hE19 hO19 hF_ hS
           obtain ⟨q34, -⟩ := hF_
           replace q34 : Ep19 149 = .agg #[.int .i64 x136, .int .i64 x139, .int .i64 x142, .int .i64 x145, .int .i64 x148] := Eq.mp (by kernel_rfl) q34
           refine o_buildSlice (vs := [.agg #[.int .i64 x136, .int .i64 x139, .int .i64 x142, .int .i64 x145, .int .i64 x148]]) (cs := [.int .i64 x136, .int .i64 x139, .int .i64 x142, .int .i64 x145, .int .i64 x148]) sl_89 zero_123 (parts_eq (pt (va := .agg #[.int .i64 x136, .int .i64 x139, .int .i64 x142, .int .i64 x145, .int .i64 x148]) q34 pt0)) rfl (by intro v hv; simp only [List.mem_cons, List.not_mem_nil, or_false] at hv; first | (subst hv; rfl) | (rcases hv with rfl <;> rfl)) (by decide) rfl hS (fun b150 w' hS => ?_)
           refine x_done <| ?_
           refine x_fin ⟨⟨_, rfl⟩, rfl, ?_⟩
           exact Eq.mp (by kernel_rfl) hS
          ·intro Ep19 w l' hE19 hO19 hF_ hS
           obtain ⟨q4x, q35, -⟩ := hF_
           replace q4x : Ep19 133 = .slice q0c f0.Walls.length c_f0_4 := Eq.mp (by kernel_rfl) q4x
           replace q35 : Ep19 150 = .slice (some ⟨(blkOf (Ep19 150)), 0, none⟩) 1 1 := Eq.mp (by kernel_rfl) q35
           replace hS : St w0 w (cells (blkOf (Ep19 150)) 123 [.int .i64 x136, .int .i64 x139, .int .i64 x142, .int .i64 x145, .int .i64 x148] :: ro ρ :: vec 123 R_floor_Wall.sz (.slice q0c f0.Walls.length c_f0_4) f0.Walls.length q0i :: l') := Eq.mp (by kernel_rfl) hS
           refine o_ap sl_89 zero_123 rfl (by decide) q4x q35 (hS.pull 2) q1y (src_blk usl_89 hS rfl rfl) (RepL.cons (R := R_floor_Wall) (ρ := ρ) (x := (T_floor_Wall.mk x136 x139 x142 x145 x148)) (cs := [.int .i64 x136, .int .i64 x139, .int .i64 x142, .int .i64 x145, .int .i64 x148]) rfl RepL.nil) q6l q6m (fun A151 c151 cs151 w' hr151 hS => ?_)
           refine x_done <| ?_
           refine x_fin ⟨⟨_, rfl⟩, rfl, ?_⟩
           replace hS := St.bun (Φ := (fun (cs151 : List Value) => RepL R_floor_Wall ρ q0l cs151)) (L := (fun (cs151 : List Value) => [vec 123 R_floor_Wall.sz (.slice A151 q0l.length c151) q0l.length cs151])) cs151 hr151 hS
           exact Eq.mp (by kernel_rfl) ((hS.pull 2).pull 2)
          ·intro Ep19 w l' hE19 hO19 hF_ hS
           obtain ⟨q4y, -⟩ := hF_
           replace q4y : Ep19 129 = .pointer (some ⟨q5, 0, none⟩) := Eq.mp (by kernel_rfl) q4y
           refine p (yl_nilCheck q4y) <| x_done <| ?_
           refine x_fin ⟨⟨_, rfl⟩, rfl, ?_⟩
           exact Eq.mp (by kernel_rfl) hS
          ·intro Ep19 w l' hE19 hO19 hF_ hS
           obtain ⟨q36, -⟩ := hF_
           replace q36 : Ep19 152 = .pointer (some ⟨q5, 0, none⟩) := Eq.mp (by kernel_rfl) q36
           refine p (yl_field0 fld_105_4 q36) <| x_done <| ?_
           refine x_fin ⟨⟨_, rfl⟩, rfl, ?_⟩
           exact Eq.mp (by kernel_rfl) hS
          ·intro Ep19 w l' hE19 hO19 hF_ hS
           obtain ⟨q37, q38, -⟩ := hF_
           replace q37 : Ep19 151 = .slice (adOf (Ep19 151)) q0l.length (capOf (Ep19 151)) := Eq.mp (by kernel_rfl) q37
           replace q38 : Ep19 153 = .pointer (some ⟨q5, 4, none⟩) := Eq.mp (by kernel_rfl) q38
           replace hS : St w0 w (cells q5 105 [.int .i64 f0.Rows, .int .i64 f0.Sites, .int .i64 f0.Layers, .slice q0b f0.Blocks.length c_f0_3, .slice q0c f0.Walls.length c_f0_4, .slice q0a f0.Ports.length c_f0_5] :: l') := Eq.mp (by kernel_rfl) hS
           refine o_store1 (v := .slice (adOf (Ep19 151)) q0l.length (capOf (Ep19 151))) one_89 q38 q37 rfl rfl hS (fun w' hS => ?_)
           refine x_done <| ?_
           refine x_fin ⟨⟨undef, rfl⟩, trivial, ?_⟩
           exact Eq.mp (by kernel_rfl) hS
         intro Ep19 w' hE19 hF_ hS
         obtain ⟨q4y, q4p, q4q, q4r, q4x, q4s, q4t, q4w, q4u, q4v, q30, q2u, q2v, q31, q2w, q2x, q32, q2y, q2z, q33, q34, q35, q37, q36, q38, -⟩ := hF_
         replace q4y : Ep19 129 = .pointer (some ⟨q5, 0, none⟩) := Eq.mp (by kernel_rfl) q4y
         replace q4p : Ep19 130 = .pointer (some ⟨q5, 0, none⟩) := Eq.mp (by kernel_rfl) q4p
         replace q4q : Ep19 131 = .pointer (some ⟨q5, 0, none⟩) := Eq.mp (by kernel_rfl) q4q
         replace q4r : Ep19 132 = .pointer (some ⟨q5, 4, none⟩) := Eq.mp (by kernel_rfl) q4r
         replace q4x : Ep19 133 = .slice q0c f0.Walls.length c_f0_4 := Eq.mp (by kernel_rfl) q4x
         replace q4s : Ep19 134 = .slice q2 q3.2.1.length c_y1_ret_10_1 := Eq.mp (by kernel_rfl) q4s
         replace q4t : Ep19 135 = .pointer (some ((adr q2).add ((0 : Int).toNat * (RpI .i64).sz))) := Eq.mp (by kernel_rfl) q4t
         replace q4w : Ep19 136 = .int .i64 x136 := Eq.mp (by kernel_rfl) q4w
         replace q4u : Ep19 137 = .slice q2 q3.2.1.length c_y1_ret_10_1 := Eq.mp (by kernel_rfl) q4u
         replace q4v : Ep19 138 = .pointer (some ((adr q2).add ((1 : Int).toNat * (RpI .i64).sz))) := Eq.mp (by kernel_rfl) q4v
         replace q30 : Ep19 139 = .int .i64 x139 := Eq.mp (by kernel_rfl) q30
         replace q2u : Ep19 140 = .slice q2 q3.2.1.length c_y1_ret_10_1 := Eq.mp (by kernel_rfl) q2u
         replace q2v : Ep19 141 = .pointer (some ((adr q2).add ((2 : Int).toNat * (RpI .i64).sz))) := Eq.mp (by kernel_rfl) q2v
         replace q31 : Ep19 142 = .int .i64 x142 := Eq.mp (by kernel_rfl) q31
         replace q2w : Ep19 143 = .slice q2 q3.2.1.length c_y1_ret_10_1 := Eq.mp (by kernel_rfl) q2w
         replace q2x : Ep19 144 = .pointer (some ((adr q2).add ((3 : Int).toNat * (RpI .i64).sz))) := Eq.mp (by kernel_rfl) q2x
         replace q32 : Ep19 145 = .int .i64 x145 := Eq.mp (by kernel_rfl) q32
         replace q2y : Ep19 146 = .slice q2 q3.2.1.length c_y1_ret_10_1 := Eq.mp (by kernel_rfl) q2y
         replace q2z : Ep19 147 = .pointer (some ((adr q2).add ((4 : Int).toNat * (RpI .i64).sz))) := Eq.mp (by kernel_rfl) q2z
         replace q33 : Ep19 148 = .int .i64 x148 := Eq.mp (by kernel_rfl) q33
         replace q34 : Ep19 149 = .agg #[.int .i64 x136, .int .i64 x139, .int .i64 x142, .int .i64 x145, .int .i64 x148] := Eq.mp (by kernel_rfl) q34
         replace q35 : Ep19 150 = .slice (some ⟨(blkOf (Ep19 150)), 0, none⟩) 1 1 := Eq.mp (by kernel_rfl) q35
         replace q37 : Ep19 151 = .slice (adOf (Ep19 151)) q0l.length (capOf (Ep19 151)) := Eq.mp (by kernel_rfl) q37
         replace q36 : Ep19 152 = .pointer (some ⟨q5, 0, none⟩) := Eq.mp (by kernel_rfl) q36
         replace q38 : Ep19 153 = .pointer (some ⟨q5, 4, none⟩) := Eq.mp (by kernel_rfl) q38
         replace hS : St w0 w' (vec 3 (RpI .i64).sz (.slice q2 q3.2.1.length c_y1_ret_10_1) q3.2.1.length q4 :: cells (blkOf (Ep19 150)) 123 [.int .i64 x136, .int .i64 x139, .int .i64 x142, .int .i64 x145, .int .i64 x148] :: ro ρ :: bunA (fun (cs151 : List Value) => RepL R_floor_Wall ρ q0l cs151) (fun (cs151 : List Value) => [vec 123 R_floor_Wall.sz (.slice (adOf (Ep19 151)) q0l.length (capOf (Ep19 151))) q0l.length cs151]) :: cells q5 105 [.int .i64 f0.Rows, .int .i64 f0.Sites, .int .i64 f0.Layers, .slice q0b f0.Blocks.length c_f0_3, .slice (adOf (Ep19 151)) q0l.length (capOf (Ep19 151)), .slice q0a f0.Ports.length c_f0_5] :: (vec 120 R_floor_Block.sz (.slice q0b f0.Blocks.length c_f0_3) f0.Blocks.length q0h :: vec 117 R_floor_Port.sz (.slice q0a f0.Ports.length c_f0_5) f0.Ports.length q0j :: cells q0e 107 [.slice q9 q7.length c_sites1_0] :: vec 109 R_floor_Site.sz (.slice q9 q7.length c_sites1_0) q7.length q0f :: l)) := Eq.mp (by kernel_rfl) hS
         have q_ := St.unbun (hS.pull 3); obtain ⟨cs151, hr151, hS⟩ := q_
         exact x_inv ⟨(adOf (Ep19 151)), q0l.length, (capOf (Ep19 151)), cs151, q9, q7.length, c_sites1_0, q0f, q0l, q7, (Option.some.inj (show some _ = some _ from hFc127)), hr151, q0n, (((((((((hS.pull 1).drop.pull 1).drop.pull 1).pull 6).pull 5).pull 3).pull 5).pull 6).pull 6)⟩
        ·replace hFc127 := it_f hc127 hFc127
         refine x_seq <| x_region <| p (yl_eql_string rfl rfl) <| p (yl_assign rfl) <|
          x_done <| ?_
         replace hFc127 := bd_s hFc127; obtain ⟨oc154, hFc154, hFc127⟩ := hFc127
         refine x_join (fun E w => ∃ (q13 : Option Addr) (q14 : Nat) (c_b_sites1_0_c154 : Nat) (q0u : List Value) (q0v : List T_floor_Site), q0v = oc154 ∧ RepL R_floor_Site ρ q0v q0u ∧ St w0 w (cells q5 105 [.int .i64 f0.Rows, .int .i64 f0.Sites, .int .i64 f0.Layers, .slice q0b f0.Blocks.length c_f0_3, .slice q0c f0.Walls.length c_f0_4, .slice q0a f0.Ports.length c_f0_5] :: cells q0e 107 [.slice q13 q14 c_b_sites1_0_c154] :: vec 120 R_floor_Block.sz (.slice q0b f0.Blocks.length c_f0_3) f0.Blocks.length q0h :: vec 123 R_floor_Wall.sz (.slice q0c f0.Walls.length c_f0_4) f0.Walls.length q0i :: vec 117 R_floor_Port.sz (.slice q0a f0.Ports.length c_f0_5) f0.Ports.length q0j :: vec 109 R_floor_Site.sz (.slice q13 q14 c_b_sites1_0_c154) q14 q0u :: ro ρ :: l)) ?_ ?_
         ·refine x_cond_p (word2 = (⟨#[115, 105, 116, 101]⟩ : ByteArray)) rfl (fun hc154 => ?_) (fun hc154 => ?_)
          ·replace hFc154 := it_t hc154 hFc154
           replace hFc154 := ck_s hFc154; obtain ⟨q6a, hFc154⟩ := hFc154
           replace hFc154 := lv_s hFc154; obtain ⟨x162, hx162, hFc154⟩ := hFc154
           replace hFc154 := ck_s hFc154; obtain ⟨q6b, hFc154⟩ := hFc154
           replace hFc154 := lv_s hFc154; obtain ⟨x165, hx165, hFc154⟩ := hFc154
           replace hFc154 := lv_s hFc154; obtain ⟨q0m, q6n, hFc154⟩ := hFc154
           replace hFc154 := ck_s hFc154; obtain ⟨q6o, hFc154⟩ := hFc154
           refine x_par (w0 := w0) [⟨[], [], [156], [], [], []⟩, ⟨[], [], [157], [], [], []⟩, ⟨[1], [1], [158], [], [], []⟩, ⟨[1, 2], [2], [159], [0], [], []⟩, ⟨[], [], [160], [], [], []⟩, ⟨[4], [4], [161], [1], [], []⟩, ⟨[4, 5], [5], [162], [1], [], []⟩, ⟨[], [], [163], [], [], []⟩, ⟨[7], [7], [164], [1], [], []⟩, ⟨[7, 8], [8], [165], [1], [], []⟩, ⟨[4, 5, 6, 7, 8, 9], [6, 9], [166], [], [], []⟩, ⟨[4, 5, 6, 7, 8, 9, 10], [10], [167], [], [], [2]⟩, ⟨[1, 2, 3, 4, 5, 6, 7, 8, 9, 10, 11], [3, 11], [168], [2, 4], [3], [5]⟩, ⟨[0, 1, 2, 3, 4, 5, 6, 7, 8, 9, 10, 11, 12], [0], [169], [], [], []⟩, ⟨[0, 1, 2, 3, 4, 5, 6, 7, 8, 9, 10, 11, 12, 13], [12, 13], [], [], [0], [6]⟩] [⟨none, (some 14), []⟩, ⟨none, none, []⟩, ⟨(some 11), none, [167]⟩, ⟨none, (some 12), []⟩, ⟨none, none, []⟩, ⟨(some 12), none, [168]⟩, ⟨(some 14), none, [168]⟩] [156, 157, 158, 159, 160, 161, 162, 163, 164, 165, 166, 167, 168, 169] [0, 1, 3, 4] [1, 2, 4, 5, 6] [0, 1, 2, 3, 4, 5, 6, 7, 8, 9, 10, 11, 12, 13] [fun Ep21 => Ep21 156 = .pointer (some ⟨q0e, 0, none⟩), fun Ep21 => Ep21 157 = .pointer (some ⟨q0e, 0, none⟩), fun Ep21 => Ep21 158 = .pointer (some ⟨q0e, 0, none⟩), fun Ep21 => Ep21 159 = .slice q9 q7.length c_sites1_0, fun Ep21 => Ep21 160 = .slice q2 q3.2.1.length c_y1_ret_10_1, fun Ep21 => Ep21 161 = .pointer (some ((adr q2).add ((0 : Int).toNat * (RpI .i64).sz))), fun Ep21 => Ep21 162 = .int .i64 x162, fun Ep21 => Ep21 163 = .slice q2 q3.2.1.length c_y1_ret_10_1, fun Ep21 => Ep21 164 = .pointer (some ((adr q2).add ((1 : Int).toNat * (RpI .i64).sz))), fun Ep21 => Ep21 165 = .int .i64 x165, fun Ep21 => Ep21 166 = .agg #[.int .i64 x162, .int .i64 x165], fun Ep21 => Ep21 167 = .slice (some ⟨(blkOf (Ep21 167)), 0, none⟩) 1 1, fun Ep21 => Ep21 168 = .slice (adOf (Ep21 168)) q0m.length (capOf (Ep21 168)), fun Ep21 => Ep21 169 = .pointer (some ⟨q0e, 0, none⟩), fun Ep21 => True] [fun Ep21 => cells q0e 107 [.slice q9 q7.length c_sites1_0], fun Ep21 => vec 3 (RpI .i64).sz (.slice q2 q3.2.1.length c_y1_ret_10_1) q3.2.1.length q4, fun Ep21 => cells (blkOf (Ep21 167)) 109 [.int .i64 x162, .int .i64 x165], fun Ep21 => vec 109 R_floor_Site.sz (.slice q9 q7.length c_sites1_0) q7.length q0f, fun Ep21 => ro ρ, fun Ep21 => bunA (fun (cs168 : List Value) => RepL R_floor_Site ρ q0m cs168) (fun (cs168 : List Value) => [vec 109 R_floor_Site.sz (.slice (adOf (Ep21 168)) q0m.length (capOf (Ep21 168))) q0m.length cs168]), fun Ep21 => cells q0e 107 [.slice (adOf (Ep21 168)) q0m.length (capOf (Ep21 168))]] mixed (by kernel_rfl) ((((hS.pull 1).pull 7).pull 2).pull 7) ?_ ?_
           ·refine ⟨?_, ?_, ?_, ?_, ?_, ?_, ?_, ?_, ?_, ?_, ?_, ?_, ?_, ?_, ?_, trivial⟩
            ·intro Ep21 w l' hE21 hO21 hF_ hS
             refine p (yl_move (hE21 1 rfl)) <| x_done <| ?_
             refine x_fin ⟨⟨_, rfl⟩, rfl, ?_⟩
             exact Eq.mp (by kernel_rfl) hS
            ·intro Ep21 w l' hE21 hO21 hF_ hS
             refine p (yl_move (hE21 1 rfl)) <| x_done <| ?_
             refine x_fin ⟨⟨_, rfl⟩, rfl, ?_⟩
             exact Eq.mp (by kernel_rfl) hS
            ·intro Ep21 w l' hE21 hO21 hF_ hS
             obtain ⟨q4z, -⟩ := hF_
             replace q4z : Ep21 157 = .pointer (some ⟨q0e, 0, none⟩) := Eq.mp (by kernel_rfl) q4z
             refine p (yl_nilCheck q4z) <| x_done <| ?_
             refine x_fin ⟨⟨_, rfl⟩, rfl, ?_⟩
             exact Eq.mp (by kernel_rfl) hS
            ·intro Ep21 w l' hE21 hO21 hF_ hS
             obtain ⟨q50, -⟩ := hF_
             replace q50 : Ep21 158 = .pointer (some ⟨q0e, 0, none⟩) := Eq.mp (by kernel_rfl) q50
             replace hS : St w0 w (cells q0e 107 [.slice q9 q7.length c_sites1_0] :: l') := Eq.mp (by kernel_rfl) hS
             refine pa (at_load one_107 q50 (hS.cell rfl)) <| x_done <| ?_
             refine x_fin ⟨⟨_, rfl⟩, rfl, ?_⟩
             exact Eq.mp (by kernel_rfl) hS
            ·intro Ep21 w l' hE21 hO21 hF_ hS
             refine p (yl_move (hE21 16 rfl)) <| x_done <| ?_
             refine x_fin ⟨⟨_, rfl⟩, rfl, ?_⟩
             exact Eq.mp (by kernel_rfl) hS
            ·intro Ep21 w l' hE21 hO21 hF_ hS
             obtain ⟨q51, -⟩ := hF_
             replace q51 : Ep21 160 = .slice q2 q3.2.1.length c_y1_ret_10_1 := Eq.mp (by kernel_rfl) q51
             replace hS : St w0 w (vec 3 (RpI .i64).sz (.slice q2 q3.2.1.length c_y1_ret_10_1) q3.2.1.length q4 :: l') := Eq.mp (by kernel_rfl) hS
             refine p (yix_o sl_22 q51 rfl hS q6 q6a) <| x_done <| ?_
             refine x_fin ⟨⟨_, rfl⟩, rfl, ?_⟩
             exact Eq.mp (by kernel_rfl) hS
            ·intro Ep21 w l' hE21 hO21 hF_ hS
             obtain ⟨q52, -⟩ := hF_
             replace q52 : Ep21 161 = .pointer (some ((adr q2).add ((0 : Int).toNat * (RpI .i64).sz))) := Eq.mp (by kernel_rfl) q52
             replace hS : St w0 w (vec 3 (RpI .i64).sz (.slice q2 q3.2.1.length c_y1_ret_10_1) q3.2.1.length q4 :: l') := Eq.mp (by kernel_rfl) hS
             refine pa (at_load one_3 q52 (RepL.getW q6 hS q6a hx162)) <| x_done <| ?_
             refine x_fin ⟨⟨_, rfl⟩, rfl, ?_⟩
             exact Eq.mp (by kernel_rfl) hS
            ·intro Ep21 w l' hE21 hO21 hF_ hS
             refine p (yl_move (hE21 16 rfl)) <| x_done <| ?_
             refine x_fin ⟨⟨_, rfl⟩, rfl, ?_⟩
             exact Eq.mp (by kernel_rfl) hS
            ·intro Ep21 w l' hE21 hO21 hF_ hS
             obtain ⟨q53, -⟩ := hF_
             replace q53 : Ep21 163 = .slice q2 q3.2.1.length c_y1_ret_10_1 := Eq.mp (by kernel_rfl) q53
             replace hS : St w0 w (vec 3 (RpI .i64).sz (.slice q2 q3.2.1.length c_y1_ret_10_1) q3.2.1.length q4 :: l') := Eq.mp (by kernel_rfl) hS
             refine p (yix_o sl_22 q53 rfl hS q6 q6b) <| x_done <| ?_
             refine x_fin ⟨⟨_, rfl⟩, rfl, ?_⟩
             exact Eq.mp (by kernel_rfl) hS
            ·intro Ep21 w l' hE21 hO21 hF_ hS
             obtain ⟨q54, -⟩ := hF_
             replace q54 : Ep21 164 = .pointer (some ((adr q2).add ((1 : Int).toNat * (RpI .i64).sz))) := Eq.mp (by kernel_rfl) q54
             replace hS : St w0 w (vec 3 (RpI .i64).sz (.slice q2 q3.2.1.length c_y1_ret_10_1) q3.2.1.length q4 :: l') := Eq.mp (by kernel_rfl) hS
             refine pa (at_load one_3 q54 (RepL.getW q6 hS q6b hx165)) <| x_done <| ?_
             refine x_fin ⟨⟨_, rfl⟩, rfl, ?_⟩
             exact Eq.mp (by kernel_rfl) hS
            ·intro Ep21 w l' hE21 hO21 hF_ hS
             obtain ⟨q55, q56, -⟩ := hF_
             replace q55 : Ep21 162 = .int .i64 x162 := Eq.mp (by kernel_rfl) q55
             replace q56 : Ep21 165 = .int .i64 x165 := Eq.mp (by kernel_rfl) q56
             refine p (v := .agg #[.int .i64 x162, .int .i64 x165]) (yl_build bld_109 bldf_109 (parts_eq (pt (va := .int .i64 x162) q55 (pt (va := .int .i64 x165) q56 pt0))) (by kernel_rfl)) <| x_done <| ?_
             refine x_fin ⟨⟨_, rfl⟩, rfl, ?_⟩
             exact Eq.mp (by kernel_rfl) hS
            ·intro Ep21 w l' hE21 hO21 hF_ hS
             obtain ⟨q39, -⟩ := hF_
             replace q39 : Ep21 166 = .agg #[.int .i64 x162, .int .i64 x165] := Eq.mp (by kernel_rfl) q39
             refine o_buildSlice (vs := [.agg #[.int .i64 x162, .int .i64 x165]]) (cs := [.int .i64 x162, .int .i64 x165]) sl_107 zero_109 (parts_eq (pt (va := .agg #[.int .i64 x162, .int .i64 x165]) q39 pt0)) rfl (by intro v hv; simp only [List.mem_cons, List.not_mem_nil, or_false] at hv; first | (subst hv; rfl) | (rcases hv with rfl <;> rfl)) (by decide) rfl hS (fun b167 w' hS => ?_)
             refine x_done <| ?_
             refine x_fin ⟨⟨_, rfl⟩, rfl, ?_⟩
             exact Eq.mp (by kernel_rfl) hS
            ·intro Ep21 w l' hE21 hO21 hF_ hS
             obtain ⟨q57, q3a, -⟩ := hF_
             replace q57 : Ep21 159 = .slice q9 q7.length c_sites1_0 := Eq.mp (by kernel_rfl) q57
             replace q3a : Ep21 167 = .slice (some ⟨(blkOf (Ep21 167)), 0, none⟩) 1 1 := Eq.mp (by kernel_rfl) q3a
             replace hS : St w0 w (cells (blkOf (Ep21 167)) 109 [.int .i64 x162, .int .i64 x165] :: ro ρ :: vec 109 R_floor_Site.sz (.slice q9 q7.length c_sites1_0) q7.length q0f :: l') := Eq.mp (by kernel_rfl) hS
             refine o_ap sl_107 zero_109 rfl (by decide) q57 q3a (hS.pull 2) q0n (src_blk usl_107 hS rfl rfl) (RepL.cons (R := R_floor_Site) (ρ := ρ) (x := (T_floor_Site.mk x162 x165)) (cs := [.int .i64 x162, .int .i64 x165]) rfl RepL.nil) q6n q6o (fun A168 c168 cs168 w' hr168 hS => ?_)
             refine x_done <| ?_
             refine x_fin ⟨⟨_, rfl⟩, rfl, ?_⟩
             replace hS := St.bun (Φ := (fun (cs168 : List Value) => RepL R_floor_Site ρ q0m cs168)) (L := (fun (cs168 : List Value) => [vec 109 R_floor_Site.sz (.slice A168 q0m.length c168) q0m.length cs168])) cs168 hr168 hS
             exact Eq.mp (by kernel_rfl) ((hS.pull 2).pull 2)
            ·intro Ep21 w l' hE21 hO21 hF_ hS
             obtain ⟨q58, -⟩ := hF_
             replace q58 : Ep21 156 = .pointer (some ⟨q0e, 0, none⟩) := Eq.mp (by kernel_rfl) q58
             refine p (yl_nilCheck q58) <| x_done <| ?_
             refine x_fin ⟨⟨_, rfl⟩, rfl, ?_⟩
             exact Eq.mp (by kernel_rfl) hS
            ·intro Ep21 w l' hE21 hO21 hF_ hS
             obtain ⟨q3b, q3c, -⟩ := hF_
             replace q3b : Ep21 168 = .slice (adOf (Ep21 168)) q0m.length (capOf (Ep21 168)) := Eq.mp (by kernel_rfl) q3b
             replace q3c : Ep21 169 = .pointer (some ⟨q0e, 0, none⟩) := Eq.mp (by kernel_rfl) q3c
             replace hS : St w0 w (cells q0e 107 [.slice q9 q7.length c_sites1_0] :: l') := Eq.mp (by kernel_rfl) hS
             refine o_store1 (v := .slice (adOf (Ep21 168)) q0m.length (capOf (Ep21 168))) one_107 q3c q3b rfl rfl hS (fun w' hS => ?_)
             refine x_done <| ?_
             refine x_fin ⟨⟨undef, rfl⟩, trivial, ?_⟩
             exact Eq.mp (by kernel_rfl) hS
           intro Ep21 w' hE21 hF_ hS
           obtain ⟨q58, q4z, q50, q57, q51, q52, q55, q53, q54, q56, q39, q3a, q3b, q3c, -⟩ := hF_
           replace q58 : Ep21 156 = .pointer (some ⟨q0e, 0, none⟩) := Eq.mp (by kernel_rfl) q58
           replace q4z : Ep21 157 = .pointer (some ⟨q0e, 0, none⟩) := Eq.mp (by kernel_rfl) q4z
           replace q50 : Ep21 158 = .pointer (some ⟨q0e, 0, none⟩) := Eq.mp (by kernel_rfl) q50
           replace q57 : Ep21 159 = .slice q9 q7.length c_sites1_0 := Eq.mp (by kernel_rfl) q57
           replace q51 : Ep21 160 = .slice q2 q3.2.1.length c_y1_ret_10_1 := Eq.mp (by kernel_rfl) q51
           replace q52 : Ep21 161 = .pointer (some ((adr q2).add ((0 : Int).toNat * (RpI .i64).sz))) := Eq.mp (by kernel_rfl) q52
           replace q55 : Ep21 162 = .int .i64 x162 := Eq.mp (by kernel_rfl) q55
           replace q53 : Ep21 163 = .slice q2 q3.2.1.length c_y1_ret_10_1 := Eq.mp (by kernel_rfl) q53
           replace q54 : Ep21 164 = .pointer (some ((adr q2).add ((1 : Int).toNat * (RpI .i64).sz))) := Eq.mp (by kernel_rfl) q54
           replace q56 : Ep21 165 = .int .i64 x165 := Eq.mp (by kernel_rfl) q56
           replace q39 : Ep21 166 = .agg #[.int .i64 x162, .int .i64 x165] := Eq.mp (by kernel_rfl) q39
           replace q3a : Ep21 167 = .slice (some ⟨(blkOf (Ep21 167)), 0, none⟩) 1 1 := Eq.mp (by kernel_rfl) q3a
           replace q3b : Ep21 168 = .slice (adOf (Ep21 168)) q0m.length (capOf (Ep21 168)) := Eq.mp (by kernel_rfl) q3b
           replace q3c : Ep21 169 = .pointer (some ⟨q0e, 0, none⟩) := Eq.mp (by kernel_rfl) q3c
           replace hS : St w0 w' (vec 3 (RpI .i64).sz (.slice q2 q3.2.1.length c_y1_ret_10_1) q3.2.1.length q4 :: cells (blkOf (Ep21 167)) 109 [.int .i64 x162, .int .i64 x165] :: ro ρ :: bunA (fun (cs168 : List Value) => RepL R_floor_Site ρ q0m cs168) (fun (cs168 : List Value) => [vec 109 R_floor_Site.sz (.slice (adOf (Ep21 168)) q0m.length (capOf (Ep21 168))) q0m.length cs168]) :: cells q0e 107 [.slice (adOf (Ep21 168)) q0m.length (capOf (Ep21 168))] :: (cells q5 105 [.int .i64 f0.Rows, .int .i64 f0.Sites, .int .i64 f0.Layers, .slice q0b f0.Blocks.length c_f0_3, .slice q0c f0.Walls.length c_f0_4, .slice q0a f0.Ports.length c_f0_5] :: vec 120 R_floor_Block.sz (.slice q0b f0.Blocks.length c_f0_3) f0.Blocks.length q0h :: vec 123 R_floor_Wall.sz (.slice q0c f0.Walls.length c_f0_4) f0.Walls.length q0i :: vec 117 R_floor_Port.sz (.slice q0a f0.Ports.length c_f0_5) f0.Ports.length q0j :: l)) := Eq.mp (by kernel_rfl) hS
           have q_ := St.unbun (hS.pull 3); obtain ⟨cs168, hr168, hS⟩ := q_
           exact x_inv ⟨(adOf (Ep21 168)), q0m.length, (capOf (Ep21 168)), cs168, q0m, (Option.some.inj (show some _ = some _ from hFc154)), hr168, (((((((((hS.pull 1).drop.pull 1).drop.pull 1).pull 1).pull 6).pull 6).pull 6).pull 5).pull 6)⟩
          ·replace hFc154 := it_f hc154 hFc154
           refine x_skip <| ?_
           exact x_inv ⟨q9, q7.length, c_sites1_0, q0f, q7, (Option.some.inj (show some _ = some _ from hFc154)), q0n, ((((((hS.drop.pull 6).pull 5).pull 5).pull 5).pull 6).pull 6)⟩
         rintro E w ⟨q13, q14, c_b_sites1_0_c154, q0u, q0v, rfl, q20, hS⟩
         have e_ := St.vec_n (hS.pull 5) q20; subst e_
         exact x_inv ⟨q0c, f0.Walls.length, c_f0_4, q0i, q13, q0v.length, c_b_sites1_0_c154, q0u, f0.Walls, q0v, (Option.some.inj (show some _ = some _ from hFc127)), q1y, q20, (((((((hS.pull 6).pull 6).pull 6).pull 6).pull 6).pull 6).pull 6)⟩
       rintro E w ⟨q1n, q1o, c_b_f0_4_c127, q1c, q11, q12, c_b_sites1_0_c127, q0s, q1f, q0t, rfl, q3k, q21, hS⟩
       have e_ := St.vec_n (hS.pull 3) q3k; subst e_
       have e_ := St.vec_n (hS.pull 5) q21; subst e_
       exact x_inv ⟨q0b, f0.Blocks.length, c_f0_3, q0h, q1n, q1f.length, c_b_f0_4_c127, q1c, q11, q0t.length, c_b_sites1_0_c127, q0s, f0.Blocks, q1f, q0t, (Option.some.inj (show some _ = some _ from hFc106)), q26, q3k, q21, (((((((hS.pull 6).pull 6).pull 6).pull 6).pull 6).pull 6).pull 6)⟩
     rintro E w ⟨q1j, q1k, c_b_f0_3_c106, q1a, q1l, q1m, c_b_f0_4_c106, q1b, q0z, q10, c_b_sites1_0_c106, q0q, q1d, q1e, q0r, rfl, q3l, q3m, q22, hS⟩
     have e_ := St.vec_n (hS.pull 2) q3l; subst e_
     have e_ := St.vec_n (hS.pull 3) q3m; subst e_
     have e_ := St.vec_n (hS.pull 5) q22; subst e_
     exact x_inv ⟨q1j, q1d.length, c_b_f0_3_c106, q1a, q1l, q1e.length, c_b_f0_4_c106, q1b, q0z, q0r.length, c_b_sites1_0_c106, q0q, f0.Rows, f0.Sites, f0.Layers, q1d, q1e, q0r, (Option.some.inj (show some _ = some _ from hFc86)), q3l, q3m, q22, (((((((hS.pull 6).pull 6).pull 6).pull 6).pull 6).pull 6).pull 6)⟩
   rintro E w ⟨q1t, q1u, c_b_f0_3_c86, q1h, q1v, q1w, c_b_f0_4_c86, q1i, q15, q16, c_b_sites1_0_c86, q0y, q3e, q3f, q3g, q24, q25, q19, rfl, q3r, q3s, q2b, hS⟩
   have e_ := St.vec_n (hS.pull 2) q3r; subst e_
   have e_ := St.vec_n (hS.pull 3) q3s; subst e_
   have e_ := St.vec_n (hS.pull 5) q2b; subst e_
   refine x_blk <| x_seq <| x_region <| p (yl_assign rfl) <|
    x_done <| ?_
   have e_ := Option.some.inj (show some _ = some _ from hF); subst e_
   exact x_return ⟨_, ⟨_, _, rfl, rfl, rfl⟩, q1t, q24.length, c_b_f0_3_c86, q1h, q1v, q25.length, c_b_f0_4_c86, q1i, q0a, f0.Ports.length, c_f0_5, q0j, q15, q19.length, c_b_sites1_0_c86, q0y, rfl, q3r, q3s, q2c, q2b, (((((((hS.pull 6).pull 6).pull 6).pull 6).pull 6).pull 6).pull 6)⟩
attribute [irreducible] P_layfmt_lay_5

def P_layfmt_ReadFloor_L11 (q0l : (List ByteArray × Bool)) : (Int × Int × Int × Int × Int × List T_floor_Block × List T_floor_Wall × List T_floor_Port × List T_floor_Site) → Option ((Int × Int × Int × Int × Int × List T_floor_Block × List T_floor_Wall × List T_floor_Port × List T_floor_Site) ⊕ ((Int × Int × Int × List T_floor_Block × List T_floor_Wall × List T_floor_Port × List T_floor_Site) ⊕ (T_floor_Floor × List T_floor_Site × Int × Int))) := fun (q0d, q2, q5, q6, q7, q8, q9, q0a, q4) =>
 if q2 < (q0l.1.length : Int) then
  ck (inb q2 q0l.1.length) <|
  lv (gt q0l.1 q2) fun x51 =>
  bd (P_strings_Cut x51 (⟨#[32]⟩ : ByteArray)) fun q0m =>
  bd (P_layfmt_part q0m.1) fun q0b =>
  lv ((decide (q0b = 0)) && (decide (0 < q2))) fun x69 =>
  lv ((decide (q0b < q0d)) || x69) fun x70 =>
  lv ((decide (0 < q0b)) && (decide (q2 = 0))) fun x77 =>
  lv (x70 || x77) fun x78 =>
  bd (
   if x78 = true then
    some (true, q5, q6, q7, q8, q9, q0a, q4)
   else
    bd (P_layfmt_lay_5 (T_floor_Floor.mk q5 q6 q7 q8 q9 q0a) q4 q0m.1 x51) fun q3 =>
    some (!q3.1, q3.2.1, q3.2.2.1, q3.2.2.2.1, q3.2.2.2.2.1, q3.2.2.2.2.2.1, q3.2.2.2.2.2.2.1, q3.2.2.2.2.2.2.2)) fun (q0k, q0e, q0f, q0g, q0h, q0i, q0j, q0c) =>
  if q0k = true then
   ar (q2 + 1) fun x87 =>
   bd (P_layfmt_ReadFloor_1 x87 10) fun q0n =>
   some (Sum.inr (Sum.inr ((T_floor_Floor.mk 0 0 0 [] [] []), [], x87, (10 : Int))))
  else
   ar (q2 + 1) fun x94 =>
   some (Sum.inl (q0b, x94, q0e, q0f, q0g, q0h, q0i, q0j, q0c))
 else
  some (Sum.inr (Sum.inl (q5, q6, q7, q8, q9, q0a, q4)))
def P_layfmt_ReadFloor (s0 : ByteArray) : Option (T_floor_Floor × List T_floor_Site × Int × Int) :=
 if 262144 < (s0.size : Int) then
  bd (P_layfmt_ReadFloor_1 0 3) fun q0f =>
  some ((T_floor_Floor.mk 0 0 0 [] [] []), [], (0 : Int), (3 : Int))
 else
  bd (P_layfmt_lines s0) fun q9 =>
  if (!q9.2) = true then
   ar ((q9.1.length : Int) + 1) fun x39 =>
   bd (P_layfmt_ReadFloor_1 x39 10) fun q0g =>
   some ((T_floor_Floor.mk 0 0 0 [] [] []), [], x39, (10 : Int))
  else
   bs (
    lp (P_layfmt_ReadFloor_L11 q9) fuel (0, 0, 0, 0, 0, [], [], [], [])) (fun y => some y) fun (q2, q3, q4, q5, q6, q7, q8) =>
   if (q9.1.length : Int) = 0 then
    bd (P_layfmt_ReadFloor_1 1 10) fun q0c =>
    some ((T_floor_Floor.mk 0 0 0 [] [] []), [], (1 : Int), (10 : Int))
   else
    bd (P_floor_Check (T_floor_Floor.mk q2 q3 q4 q5 q6 q7)) fun q0a =>
    if q0a ≠ 0 then
     bd (P_layfmt_ReadFloor_1 0 q0a) fun q0d =>
     some ((T_floor_Floor.mk 0 0 0 [] [] []), [], (0 : Int), q0a)
    else
     bd (P_layfmt_checkSites (T_floor_Floor.mk q2 q3 q4 q5 q6 q7) q8) fun q0b =>
     if q0b ≠ 0 then
      bd (P_layfmt_ReadFloor_1 0 q0b) fun q0e =>
      some ((T_floor_Floor.mk 0 0 0 [] [] []), [], (0 : Int), q0b)
     else
      some ((T_floor_Floor.mk q2 q3 q4 q5 q6 q7), q8, (0 : Int), (0 : Int))
set_option maxHeartbeats 4000000 in
set_option maxRecDepth 100000 in
theorem c_layfmt_ReadFloor {w0 w : World} {l : List Assn} {ρ : Heap} {s0 : ByteArray} {r : (T_floor_Floor × List T_floor_Site × Int × Int)} (hF : P_layfmt_ReadFloor s0 = some r) (hS : St w0 w (ro ρ :: l)) :
  Calls Tryd.prog 42 #[.string s0] w fun e w' => ∃ (q3b : Option Addr) (q2k : Nat) (c_y0_ret_3 : Nat) (q32 : List Value) (q3c : Option Addr) (q2l : Nat) (c_y0_ret_4 : Nat) (q33 : List Value) (q3d : Option Addr) (q2m : Nat) (c_y0_ret_5 : Nat) (q34 : List Value) (q3m : Option Addr) (q35 : Nat) (c_y1_ret : Nat) (q3i : List Value), e = .returned (.tuple #[.agg #[.int .i64 r.1.Rows, .int .i64 r.1.Sites, .int .i64 r.1.Layers, .slice q3b q2k c_y0_ret_3, .slice q3c q2l c_y0_ret_4, .slice q3d q2m c_y0_ret_5], .slice q3m q35 c_y1_ret, .int .i64 r.2.2.1, .int .i64 r.2.2.2]) ∧ RepL R_floor_Block ρ r.1.Blocks q32 ∧ RepL R_floor_Wall ρ r.1.Walls q33 ∧ RepL R_floor_Port ρ r.1.Ports q34 ∧ RepL R_floor_Site ρ r.2.1 q3i ∧ St w0 w' (vec 120 R_floor_Block.sz (.slice q3b q2k c_y0_ret_3) q2k q32 :: vec 123 R_floor_Wall.sz (.slice q3c q2l c_y0_ret_4) q2l q33 :: vec 117 R_floor_Port.sz (.slice q3d q2m c_y0_ret_5) q2m q34 :: vec 109 R_floor_Site.sz (.slice q3m q35 c_y1_ret) q35 q3i :: ro ρ :: l) := by
 refine enterC Tryd.func42 rfl 129 rfl (by simp) ?_
 refine x_seq <| x_region <| ?_
 refine o_alloc zero_105 hS (fun b2 w' hS => ?_)
 refine p (yl_assign rfl) <| p (yl_assign rfl) <| p (yl_assign rfl) <| x_done <|
  x_seq <| x_region <| p (yl_assign rfl) <| x_done <|
  x_seq <| x_seq <| x_region <| p (yl_move rfl) <|
  p (yl_len_string us_9 rfl) <| p (yl_gtr rfl rfl) <| x_done <|
  x_cond_p (262144 < (s0.size : Int)) rfl (fun hc22 => ?_) (fun hc22 => ?_)
 ·replace hF := it_t hc22 hF
  replace hF := bd_s hF; obtain ⟨q4s, q4k, hF⟩ := hF
  refine x_seq <| x_region <| p (yl_move rfl) <| ?_
  have hcall := c_layfmt_ReadFloor_1 q4k  (hS.pull 1)
  refine o_ccv rfl call_98 (args2 rfl rfl) ((Calls.mono hcall (fun e w'' h => And.intro h.1 (h.2.pull 1)))) ?_
  rintro e w' ⟨rfl, hS⟩
  refine ⟨_, rfl, ?_⟩
  refine p (yl_extract rfl rfl) <| p (yl_extract rfl rfl) <| p (yl_extract rfl rfl) <| p (yl_extract rfl rfl) <| ?_
  refine o_storeAgg (news := [.int .i64 0, .int .i64 0, .int .i64 0, .slice none 0 0, .slice none 0 0, .slice none 0 0]) agg_105 rfl rfl rfl (by simp [over_length]) hS (fun w' hS => ?_)
  refine p (yl_assign rfl) <| p (yl_assign rfl) <| p (yl_assign rfl) <| x_done <| ?_
  replace hS := St.vec_nil hS 120 R_floor_Block.sz
  have q3 : RepL R_floor_Block ρ [] [] := rfl
  replace hS := St.vec_nil hS 123 R_floor_Wall.sz
  have q4 : RepL R_floor_Wall ρ [] [] := rfl
  replace hS := St.vec_nil hS 117 R_floor_Port.sz
  have q5 : RepL R_floor_Port ρ [] [] := rfl
  replace hS := St.vec_nil hS 109 R_floor_Site.sz
  have q9 : RepL R_floor_Site ρ [] [] := rfl
  have e_ := Option.some.inj (show some _ = some _ from hF); subst e_
  exact x_return ⟨_, ⟨_, _, _, rfl, rfl, ldvA agg_105 rfl (fun j v hj => by rw [add0]; exact St.cell (hS.pull 4) hj), _, _, rfl, rfl, _, _, rfl, rfl, _, _, rfl, rfl, rfl⟩, none, 0, 0, [], none, 0, 0, [], none, 0, 0, [], none, 0, 0, [], rfl, q3, q4, q5, q9, ((((((hS.pull 4).drop.pull 4).pull 1).pull 2).pull 3).pull 4)⟩
 ·replace hF := it_f hc22 hF
  replace hF := bd_s hF; obtain ⟨q2c, q4l, hF⟩ := hF
  refine x_skip <| x_seq <| x_region <| p (yl_move rfl) <| ?_
  have hcall := c_layfmt_lines q4l  (hS.pull 1)
  refine o_cc call_88 (args1 rfl) hcall ?_
  rintro e w' ⟨q2, q0r, q4a, c_y0_ret_4_1, rfl, q2i, q2d, hS⟩
  refine ⟨_, rfl, ?_⟩
  have e_ := q2d.n; subst e_
  refine p (yl_move rfl) <| p (yl_extract rfl rfl) <| p (yl_extract rfl rfl) <| p (yl_assign rfl) <|
   p (yl_assign rfl) <| x_done <| x_seq <| x_seq <|
   x_region <| p (yl_move rfl) <| p (yl_not rfl) <| x_done <|
   x_cond (t := !q2c.2) rfl (fun hc35 => ?_) (fun hc35 => ?_)
  ·replace hF := it_t hc35 hF
   replace hF := ar_s hF; obtain ⟨x39, hx39, hF⟩ := hF
   replace hF := bd_s hF; obtain ⟨q4t, q4m, hF⟩ := hF
   refine x_seq <| x_region <| p (yl_move rfl) <| p (yl_move rfl) <|
    p (yl_len_slice usl_26 rfl) <| p (yadd rfl rfl hx39) <| ?_
   have hcall := c_layfmt_ReadFloor_1 q4m  hS
   refine o_ccv rfl call_98 (args2 rfl rfl) (hcall) ?_
   rintro e w' ⟨rfl, hS⟩
   refine ⟨_, rfl, ?_⟩
   refine p (yl_extract rfl rfl) <| p (yl_extract rfl rfl) <| p (yl_extract rfl rfl) <| p (yl_extract rfl rfl) <| ?_
   refine o_storeAgg (news := [.int .i64 0, .int .i64 0, .int .i64 0, .slice none 0 0, .slice none 0 0, .slice none 0 0]) agg_105 rfl rfl rfl (by simp [over_length]) (hS.pull 1) (fun w' hS => ?_)
   refine p (yl_assign rfl) <| p (yl_assign rfl) <| p (yl_assign rfl) <| x_done <| ?_
   replace hS := St.vec_nil hS 120 R_floor_Block.sz
   have q3 : RepL R_floor_Block q2 [] [] := rfl
   replace hS := St.vec_nil hS 123 R_floor_Wall.sz
   have q4 : RepL R_floor_Wall q2 [] [] := rfl
   replace hS := St.vec_nil hS 117 R_floor_Port.sz
   have q5 : RepL R_floor_Port q2 [] [] := rfl
   replace hS := St.vec_nil hS 109 R_floor_Site.sz
   have q9 : RepL R_floor_Site q2 [] [] := rfl
   have e_ := Option.some.inj (show some _ = some _ from hF); subst e_
   exact x_return ⟨_, ⟨_, _, _, rfl, rfl, ldvA agg_105 rfl (fun j v hj => by rw [add0]; exact St.cell (hS.pull 4) hj), _, _, rfl, rfl, _, _, rfl, rfl, _, _, rfl, rfl, rfl⟩, none, 0, 0, [], none, 0, 0, [], none, 0, 0, [], none, 0, 0, [], rfl, (RepL.flat (fun h => h) q3), (RepL.flat (fun h => h) q4), (RepL.flat (fun h => h) q5), (RepL.flat (fun h => h) q9), (ro_back4 q2i ((((((hS.pull 4).drop.pull 4).pull 1).pull 2).pull 3).pull 4))⟩
  ·replace hF := it_bf hc35 hF
   refine x_skip <| x_seq <| x_region <| ?_
   refine o_alloc zero_105 hS (fun b9 w' hS => ?_)
   refine x_done <| x_seq <| x_region <| ?_
   refine o_alloc zero_107 hS (fun b10 w' hS => ?_)
   refine x_done <| x_seq <| x_region <| p (yl_assign rfl) <|
    x_done <| x_seq <| x_seq <| x_region <|
    p (yl_move rfl) <| p (yl_len_slice usl_26 rfl) <| p (yl_move rfl) <| x_done <| ?_
   replace hF := bs_s hF; obtain ⟨oL11, hLL11, hF⟩ := hF
   refine x_join (fun E w => ∃ (q6 : Option Addr) (q25 : Nat) (c_b9_3_L11 : Nat) (q16 : List Value) (q7 : Option Addr) (q26 : Nat) (c_b9_4_L11 : Nat) (q17 : List Value) (q8 : Option Addr) (q27 : Nat) (c_b9_5_L11 : Nat) (q18 : List Value) (q0a : Option Addr) (q1o : Nat) (c_b10_0_L11 : Nat) (q0s : List Value) (q0f : Int) (q0g : Int) (q0h : Int) (q0b : List T_floor_Block) (q0c : List T_floor_Wall) (q0d : List T_floor_Port) (q0e : List T_floor_Site), (Sum.inl (q0f, q0g, q0h, q0b, q0c, q0d, q0e)) = oL11 ∧ E 2 = .pointer (some ⟨b2, 0, none⟩) ∧ E 6 = .func (.func 98) #[] #[] ∧ E 7 = .slice q0r q2c.1.length c_y0_ret_4_1 ∧ E 9 = .pointer (some ⟨b9, 0, none⟩) ∧ E 10 = .pointer (some ⟨b10, 0, none⟩) ∧ RepL R_floor_Block q2 q0b q16 ∧ RepL R_floor_Wall q2 q0c q17 ∧ RepL R_floor_Port q2 q0d q18 ∧ RepL R_floor_Site q2 q0e q0s ∧ St w0 w (cells b2 105 [.int .i64 0, .int .i64 0, .int .i64 0, .slice none 0 0, .slice none 0 0, .slice none 0 0] :: cells b9 105 [.int .i64 q0f, .int .i64 q0g, .int .i64 q0h, .slice q6 q25 c_b9_3_L11, .slice q7 q26 c_b9_4_L11, .slice q8 q27 c_b9_5_L11] :: cells b10 107 [.slice q0a q1o c_b10_0_L11] :: vec 120 R_floor_Block.sz (.slice q6 q25 c_b9_3_L11) q25 q16 :: vec 123 R_floor_Wall.sz (.slice q7 q26 c_b9_4_L11) q26 q17 :: vec 117 R_floor_Port.sz (.slice q8 q27 c_b9_5_L11) q27 q18 :: vec 109 R_floor_Site.sz (.slice q0a q1o c_b10_0_L11) q1o q0s :: ro q2 :: l)) ?_ ?_
   ·refine x_block ?_
    replace hS := St.vec_nil hS 120 R_floor_Block.sz
    have q36 : RepL R_floor_Block q2 [] [] := rfl
    replace hS := St.vec_nil hS 123 R_floor_Wall.sz
    have q37 : RepL R_floor_Wall q2 [] [] := rfl
    replace hS := St.vec_nil hS 117 R_floor_Port.sz
    have q38 : RepL R_floor_Port q2 [] [] := rfl
    replace hS := St.vec_nil hS 109 R_floor_Site.sz
    have q31 : RepL R_floor_Site q2 [] [] := rfl
    refine x_loop (fun k_ E w => ∃ (q19 : Option Addr) (q1p : Nat) (c_b9_3_L11h : Nat) (q0t : List Value) (q1a : Option Addr) (q1q : Nat) (c_b9_4_L11h : Nat) (q0u : List Value) (q1b : Option Addr) (q1r : Nat) (c_b9_5_L11h : Nat) (q0v : List Value) (q0w : Option Addr) (q1m : Nat) (c_b10_0_L11h : Nat) (q0o : List Value) (q0j : Int) (q0k : Int) (q1y : Int) (q1z : Int) (q20 : Int) (q0x : List T_floor_Block) (q0y : List T_floor_Wall) (q0z : List T_floor_Port) (q0n : List T_floor_Site), lp (P_layfmt_ReadFloor_L11 q2c) k_ (q0j, q0k, q1y, q1z, q20, q0x, q0y, q0z, q0n) = some oL11 ∧ E 2 = .pointer (some ⟨b2, 0, none⟩) ∧ E 6 = .func (.func 98) #[] #[] ∧ E 7 = .slice q0r q2c.1.length c_y0_ret_4_1 ∧ E 9 = .pointer (some ⟨b9, 0, none⟩) ∧ E 10 = .pointer (some ⟨b10, 0, none⟩) ∧ E 11 = .int .i64 q0j ∧ E 45 = .slice q0r q2c.1.length c_y0_ret_4_1 ∧ E 46 = .int .i64 (q2c.1.length : Int) ∧ E 47 = .int .i64 q0k ∧ RepL R_floor_Block q2 q0x q0t ∧ RepL R_floor_Wall q2 q0y q0u ∧ RepL R_floor_Port q2 q0z q0v ∧ RepL R_floor_Site q2 q0n q0o ∧ St w0 w (cells b2 105 [.int .i64 0, .int .i64 0, .int .i64 0, .slice none 0 0, .slice none 0 0, .slice none 0 0] :: cells b9 105 [.int .i64 q1y, .int .i64 q1z, .int .i64 q20, .slice q19 q1p c_b9_3_L11h, .slice q1a q1q c_b9_4_L11h, .slice q1b q1r c_b9_5_L11h] :: cells b10 107 [.slice q0w q1m c_b10_0_L11h] :: vec 120 R_floor_Block.sz (.slice q19 q1p c_b9_3_L11h) q1p q0t :: vec 123 R_floor_Wall.sz (.slice q1a q1q c_b9_4_L11h) q1q q0u :: vec 117 R_floor_Port.sz (.slice q1b q1r c_b9_5_L11h) q1r q0v :: vec 109 R_floor_Site.sz (.slice q0w q1m c_b10_0_L11h) q1m q0o :: ro q2 :: l)) fuel ⟨none, 0, 0, [], none, 0, 0, [], none, 0, 0, [], none, 0, 0, [], 0, 0, 0, 0, 0, [], [], [], [], hLL11, rfl, rfl, rfl, rfl, rfl, rfl, rfl, rfl, rfl, q36, q37, q38, q31, ((((((((hS.pull 6).pull 1).pull 2).pull 3).pull 4).pull 5).pull 6).pull 7)⟩ ?_
    rintro kL11 E w ⟨q19, q1p, c_b9_3_L11h, q0t, q1a, q1q, c_b9_4_L11h, q0u, q1b, q1r, c_b9_5_L11h, q0v, q0w, q1m, c_b10_0_L11h, q0o, q0j, q0k, q1y, q1z, q20, q0x, q0y, q0z, q0n, hLL11, q3f, q3g, q3h, q2y, q2n, q47, q39, q3a, q2e, q1s, q1t, q1u, q1n, hS⟩
    have e_ := St.vec_n (hS.pull 3) q1s; subst e_
    have e_ := St.vec_n (hS.pull 4) q1t; subst e_
    have e_ := St.vec_n (hS.pull 5) q1u; subst e_
    have e_ := St.vec_n (hS.pull 6) q1n; subst e_
    replace hLL11 := lp_s hLL11; obtain ⟨kL11, obL11, rfl, hFL11, hLL11⟩ := hLL11
    refine x_seq <| x_region <| p (yl_lss q2e q3a) <| x_done <|
     x_seq <|
     x_cond_p (q0k < (q2c.1.length : Int)) rfl (fun hc48 => ?_) (fun hc48 => ?_)
    ·replace hFL11 := it_t hc48 hFL11
     replace hFL11 := ck_s hFL11; obtain ⟨q41, hFL11⟩ := hFL11
     replace hFL11 := lv_s hFL11; obtain ⟨x51, hx51, hFL11⟩ := hFL11
     replace hFL11 := bd_s hFL11; obtain ⟨q3e, q4b, hFL11⟩ := hFL11
     refine x_skip <| x_seq <| x_block <| x_seq <|
      x_region <| p (yl_move q2e) <| p (yix_f sl_26 q39 q2e q2d q41) <| pa (at_load one_9 rfl (RdS.getW q2d (hS.pull 7) q41 hx51)) <|
      p (yl_assign rfl) <| p (yl_assign rfl) <| x_done <| x_seq <|
      x_region <| p (yl_move rfl) <| ?_
     have hcall := c_strings_Cut q4b  (hS.pull 7)
     refine o_cc call_99 (args2 rfl rfl) ((Calls.mono hcall (fun e w'' h => And.intro h.1 (((((((h.2.pull 7).pull 7).pull 7).pull 7).pull 7).pull 7).pull 7)))) ?_
     rintro e w' ⟨rfl, hS⟩
     refine ⟨_, rfl, ?_⟩
     replace hFL11 := bd_s hFL11; obtain ⟨q0i, q4c, hFL11⟩ := hFL11
     refine p (v := .tuple #[.string q3e.1, .string q3e.2.1, .bool q3e.2.2]) (yl_move rfl) <| p (yl_extract rfl rfl) <| p (yl_extract rfl rfl) <| p (yl_extract rfl rfl) <|
      p (yl_assign rfl) <| p (yl_assign rfl) <| p (yl_assign rfl) <| x_done <|
      x_seq <| x_region <| p (yl_move rfl) <| ?_
     have hcall := c_layfmt_part q4c  (hS.pull 7)
     refine o_cc call_100 (args1 rfl) ((Calls.mono hcall (fun e w'' h => And.intro h.1 (((((((h.2.pull 7).pull 7).pull 7).pull 7).pull 7).pull 7).pull 7)))) ?_
     rintro e w' ⟨rfl, hS⟩
     refine ⟨_, rfl, ?_⟩
     replace hFL11 := lv_s hFL11; obtain ⟨x69, hx69, hFL11⟩ := hFL11
     replace hFL11 := lv_s hFL11; obtain ⟨x70, hx70, hFL11⟩ := hFL11
     replace hFL11 := lv_s hFL11; obtain ⟨x77, hx77, hFL11⟩ := hFL11
     replace hFL11 := lv_s hFL11; obtain ⟨x78, hx78, hFL11⟩ := hFL11
     refine p (v := .int .i64 q0i) (yl_assign rfl) <| x_done <| x_seq <| x_seq <|
      x_region <| p (v := .int .i64 q0i) (yl_move rfl) <| p (yl_move q47) <| p (yl_lss rfl rfl) <|
      p (yl_move rfl) <| pg (v := .int .i64 q0i) 63 (c := !(decide (q0i < q0j))) (says_f _) (fun hq => Yl.at (yl_move rfl)) <| pg (v := .bool (decide (q0i = 0))) 63 (c := !(decide (q0i < q0j))) (says_f _) (fun hq => Yl.at (yl_eql (cv hq) rfl)) <| pg (v := .bool (decide (q0i = 0))) 63 (c := !(decide (q0i < q0j))) (says_f _) (fun hq => Yl.at (yl_move (cv hq))) <|
      pg (v := .int .i64 q0k) 66 (c := (!(decide (q0i < q0j))) && (decide (q0i = 0))) (says_ift _ _) (fun hq => Yl.at (yl_move rfl)) <| pg (v := .bool (decide (0 < q0k))) 66 (c := (!(decide (q0i < q0j))) && (decide (q0i = 0))) (says_ift _ _) (fun hq => Yl.at (yl_gtr (cv hq) rfl)) <| pg (v := .bool x69) 63 (c := !(decide (q0i < q0j))) (says_f _) (fun hq => Yl.at (yand' (cv hq) (fun hc => (cv (and_i hq hc))) rfl hx69)) <| p (yor' rfl rfl (fun hc => (cv (t_not hc))) hx70) <|
      p (yl_move rfl) <| pg (v := .int .i64 q0i) 71 (c := !x70) (says_f _) (fun hq => Yl.at (yl_move rfl)) <| pg (v := .bool (decide (0 < q0i))) 71 (c := !x70) (says_f _) (fun hq => Yl.at (yl_gtr (cv hq) rfl)) <| pg (v := .bool (decide (0 < q0i))) 71 (c := !x70) (says_f _) (fun hq => Yl.at (yl_move (cv hq))) <|
      pg (v := .int .i64 q0k) 74 (c := (!x70) && (decide (0 < q0i))) (says_ift _ _) (fun hq => Yl.at (yl_move rfl)) <| pg (v := .bool (decide (q0k = 0))) 74 (c := (!x70) && (decide (0 < q0i))) (says_ift _ _) (fun hq => Yl.at (yl_eql (cv hq) rfl)) <| pg (v := .bool x77) 71 (c := !x70) (says_f _) (fun hq => Yl.at (yand' (cv hq) (fun hc => (cv (and_i hq hc))) rfl hx77)) <| p (yor' rfl rfl (fun hc => (cv (t_not hc))) hx78) <|
      p (yl_move rfl) <| pg (v := .string q3e.1) 79 (c := !x78) (says_f _) (fun hq => Yl.at (yl_move rfl)) <| pg (v := .string x51) 79 (c := !x78) (says_f _) (fun hq => Yl.at (yl_move rfl)) <| ?_
     replace hFL11 := bd_s hFL11; obtain ⟨q48, q0l, hFL11⟩ := hFL11
     refine x_join_ops (fun E w => ∃ (q1g : Option Addr) (q1h : Nat) (c_b9_3_g15_22 : Nat) (q11 : List Value) (q1i : Option Addr) (q1j : Nat) (c_b9_4_g15_22 : Nat) (q12 : List Value) (q1k : Option Addr) (q1l : Nat) (c_b9_5_g15_22 : Nat) (q13 : List Value) (q14 : Option Addr) (q15 : Nat) (c_b10_0_g15_22 : Nat) (q0q : List Value) (q28 : Bool) (q1v : Int) (q1w : Int) (q1x : Int) (q1c : List T_floor_Block) (q1d : List T_floor_Wall) (q1e : List T_floor_Port) (q10 : List T_floor_Site), (q28, q1v, q1w, q1x, q1c, q1d, q1e, q10) = q48 ∧ E 2 = .pointer (some ⟨b2, 0, none⟩) ∧ E 6 = .func (.func 98) #[] #[] ∧ E 7 = .slice q0r q2c.1.length c_y0_ret_4_1 ∧ E 9 = .pointer (some ⟨b9, 0, none⟩) ∧ E 10 = .pointer (some ⟨b10, 0, none⟩) ∧ E 12 = .int .i64 q0k ∧ E 17 = .int .i64 q0i ∧ E 45 = .slice q0r q2c.1.length c_y0_ret_4_1 ∧ E 46 = .int .i64 (q2c.1.length : Int) ∧ E 47 = .int .i64 q0k ∧ E 84 = .bool q28 ∧ RepL R_floor_Block q2 q1c q11 ∧ RepL R_floor_Wall q2 q1d q12 ∧ RepL R_floor_Port q2 q1e q13 ∧ RepL R_floor_Site q2 q10 q0q ∧ St w0 w (cells b2 105 [.int .i64 0, .int .i64 0, .int .i64 0, .slice none 0 0, .slice none 0 0, .slice none 0 0] :: cells b9 105 [.int .i64 q1v, .int .i64 q1w, .int .i64 q1x, .slice q1g q1h c_b9_3_g15_22, .slice q1i q1j c_b9_4_g15_22, .slice q1k q1l c_b9_5_g15_22] :: cells b10 107 [.slice q14 q15 c_b10_0_g15_22] :: vec 120 R_floor_Block.sz (.slice q1g q1h c_b9_3_g15_22) q1h q11 :: vec 123 R_floor_Wall.sz (.slice q1i q1j c_b9_4_g15_22) q1j q12 :: vec 117 R_floor_Port.sz (.slice q1k q1l c_b9_5_g15_22) q1l q13 :: vec 109 R_floor_Site.sz (.slice q14 q15 c_b10_0_g15_22) q15 q0q :: ro q2 :: l)) ?_ ?_
     ·refine x_split x78 (fun q0m => ?_) (fun q0m => ?_)
      ·replace q0l := it_t q0m q0l
       refine o_pass 82 79 false (says_lit (c := true) (Eq.trans (show _ = Value.bool x78 from rfl) (congrArg Value.bool q0m)) rfl) <| o_pass 83 79 false (says_lit (c := true) (Eq.trans (show _ = Value.bool x78 from rfl) (congrArg Value.bool q0m)) rfl) <| p (yl_pick (b := true) (Eq.trans (show _ = Value.bool x78 from rfl) (congrArg Value.bool q0m)) (fun h => rfl) (fun h => nomatch h)) <| x_done <| ?_
       exact x_inv ⟨q19, q0x.length, c_b9_3_L11h, q0t, q1a, q0y.length, c_b9_4_L11h, q0u, q1b, q0z.length, c_b9_5_L11h, q0v, q0w, q0n.length, c_b10_0_L11h, q0o, true, q1y, q1z, q20, q0x, q0y, q0z, q0n, (Option.some.inj (show some _ = some _ from q0l)), q3f, q3g, q3h, q2y, q2n, rfl, rfl, q39, q3a, q2e, rfl, q1s, q1t, q1u, q1n, ((((((((hS.pull 7).pull 7).pull 7).pull 7).pull 7).pull 7).pull 7).pull 7)⟩
      ·replace q0l := it_bf q0m q0l
       replace q0l := bd_s q0l; obtain ⟨q0p, q49, q0l⟩ := q0l
       refine o_strip 79 false (says_lit (c := false) (Eq.trans (show _ = Value.bool x78 from rfl) (congrArg Value.bool q0m)) rfl) <| ?_
       have hcall := c_layfmt_lay_5 q49 q1s q1t q1u q1n (((((((hS.pull 7).pull 7).pull 4).pull 7).pull 7).pull 7).pull 7)
       refine o_cc call_101 (args4 q2y q2n (Eq.trans (show _ = (bif !x78 then .string q3e.1 else undef) from rfl) (cv (t_not q0m))) (Eq.trans (show _ = (bif !x78 then .string x51 else undef) from rfl) (cv (t_not q0m)))) hcall ?_
       rintro e w' ⟨q2u, q42, c_b_f0_3_ret_15_22, q2r, q2v, q43, c_b_f0_4_ret_15_22, q2s, q2w, q44, c_b_f0_5_ret_15_22, q2t, q2g, q3p, c_b_sites1_0_ret_15_22, q2f, rfl, q21, q22, q23, q1f, hS⟩
       refine ⟨_, rfl, ?_⟩
       have e_ := St.vec_n (hS.pull 2) q21; subst e_
       have e_ := St.vec_n (hS.pull 3) q22; subst e_
       have e_ := St.vec_n (hS.pull 4) q23; subst e_
       have e_ := St.vec_n (hS.pull 5) q1f; subst e_
       refine o_strip 79 false (says_lit (c := false) (Eq.trans (show _ = Value.bool x78 from rfl) (congrArg Value.bool q0m)) rfl) <| p (yl_not rfl) <| p (yl_pick (b := false) (Eq.trans (show _ = Value.bool x78 from rfl) (congrArg Value.bool q0m)) (fun h => nomatch h) (fun h => rfl)) <| x_done <| ?_
       exact x_inv ⟨q2u, q0p.2.2.2.2.1.length, c_b_f0_3_ret_15_22, q2r, q2v, q0p.2.2.2.2.2.1.length, c_b_f0_4_ret_15_22, q2s, q2w, q0p.2.2.2.2.2.2.1.length, c_b_f0_5_ret_15_22, q2t, q2g, q0p.2.2.2.2.2.2.2.length, c_b_sites1_0_ret_15_22, q2f, !q0p.1, q0p.2.1, q0p.2.2.1, q0p.2.2.2.1, q0p.2.2.2.2.1, q0p.2.2.2.2.2.1, q0p.2.2.2.2.2.2.1, q0p.2.2.2.2.2.2.2, (Option.some.inj (show some _ = some _ from q0l)), q3f, q3g, q3h, q2y, q2n, rfl, rfl, q39, q3a, q2e, rfl, q21, q22, q23, q1f, ((((((((hS.pull 6).pull 6).pull 6).pull 6).pull 6).pull 6).pull 6).pull 7)⟩
     rintro E w ⟨q1g, q1h, c_b9_3_g15_22, q11, q1i, q1j, c_b9_4_g15_22, q12, q1k, q1l, c_b9_5_g15_22, q13, q14, q15, c_b10_0_g15_22, q0q, q28, q1v, q1w, q1x, q1c, q1d, q1e, q10, rfl, q2x, q3j, q45, q46, q3r, q3s, q3t, q3u, q3v, q3w, q3x, q2o, q2p, q2q, q2j, hS⟩
     have e_ := St.vec_n (hS.pull 3) q2o; subst e_
     have e_ := St.vec_n (hS.pull 4) q2p; subst e_
     have e_ := St.vec_n (hS.pull 5) q2q; subst e_
     have e_ := St.vec_n (hS.pull 6) q2j; subst e_
     refine x_cond (t := q28) q3x (fun hc84 => ?_) (fun hc84 => ?_)
     ·replace hFL11 := it_t hc84 hFL11
      replace hFL11 := ar_s hFL11; obtain ⟨x87, hx87, hFL11⟩ := hFL11
      replace hFL11 := bd_s hFL11; obtain ⟨q4o, q4d, hFL11⟩ := hFL11
      refine x_seq <| x_region <| p (yl_move q3j) <| p (yl_move q3s) <|
       p (yadd rfl rfl hx87) <| ?_
      have hcall := c_layfmt_ReadFloor_1 q4d  (hS.pull 7)
      refine o_ccv rfl call_98 (args2 rfl rfl) ((Calls.mono hcall (fun e w'' h => And.intro h.1 (((((((h.2.pull 7).pull 7).pull 7).pull 7).pull 7).pull 7).pull 7)))) ?_
      rintro e w' ⟨rfl, hS⟩
      refine ⟨_, rfl, ?_⟩
      refine p (yl_extract rfl rfl) <| p (yl_extract rfl rfl) <| p (yl_extract rfl rfl) <| p (yl_extract rfl rfl) <| ?_
      refine o_storeAgg (news := [.int .i64 0, .int .i64 0, .int .i64 0, .slice none 0 0, .slice none 0 0, .slice none 0 0]) agg_105 q2x rfl rfl (by simp [over_length]) hS (fun w' hS => ?_)
      refine p (yl_assign rfl) <| p (yl_assign rfl) <| p (yl_assign rfl) <| x_done <| ?_
      replace hS := St.vec_nil hS 120 R_floor_Block.sz
      have q3 : RepL R_floor_Block q2 [] [] := rfl
      replace hS := St.vec_nil hS 123 R_floor_Wall.sz
      have q4 : RepL R_floor_Wall q2 [] [] := rfl
      replace hS := St.vec_nil hS 117 R_floor_Port.sz
      have q5 : RepL R_floor_Port q2 [] [] := rfl
      replace hS := St.vec_nil hS 109 R_floor_Site.sz
      have q9 : RepL R_floor_Site q2 [] [] := rfl
      have e_ := Option.some.inj (show some _ = some _ from hFL11); subst e_
      have e_ := (show _ = oL11 from hLL11); subst e_
      have e_ := Option.some.inj (show some _ = some _ from hF); subst e_
      exact x_return ⟨_, ⟨_, _, _, rfl, q2x, ldvA agg_105 rfl (fun j v hj => by rw [add0]; exact St.cell (hS.pull 4) hj), _, _, rfl, rfl, _, _, rfl, rfl, _, _, rfl, rfl, rfl⟩, none, 0, 0, [], none, 0, 0, [], none, 0, 0, [], none, 0, 0, [], rfl, (RepL.flat (fun h => h) q3), (RepL.flat (fun h => h) q4), (RepL.flat (fun h => h) q5), (RepL.flat (fun h => h) q9), (ro_back4 q2i ((((((((((((hS.pull 4).drop.pull 4).drop.pull 4).drop.pull 4).drop.pull 4).drop.pull 4).drop.pull 4).drop.pull 4).pull 1).pull 2).pull 3).pull 4))⟩
     ·replace hFL11 := it_bf hc84 hFL11
      replace hFL11 := ar_s hFL11; obtain ⟨x94, hx94, hFL11⟩ := hFL11
      refine x_skip <| x_region <| p (v := .int .i64 q0i) (yl_move q3t) <| p (v := .int .i64 q0i) (yl_assign rfl) <|
       x_done <| x_blk <| x_region <| p (yadd q3w rfl hx94) <|
       p (yl_move rfl) <| x_done <| ?_
      have e_ := Option.some.inj (show some _ = some _ from hFL11); subst e_
      exact x_inv ⟨kL11, Nat.lt_succ_self _, q1g, q1c.length, c_b9_3_g15_22, q11, q1i, q1d.length, c_b9_4_g15_22, q12, q1k, q1e.length, c_b9_5_g15_22, q13, q14, q10.length, c_b10_0_g15_22, q0q, q0i, x94, q1v, q1w, q1x, q1c, q1d, q1e, q10, hLL11, q2x, q3j, q45, q46, q3r, rfl, q3u, q3v, rfl, q2o, q2p, q2q, q2j, ((((((((hS.pull 7).pull 7).pull 7).pull 7).pull 7).pull 7).pull 7).pull 7)⟩
    ·replace hFL11 := it_f hc48 hFL11
     refine x_exitTo _ rfl <| ?_
     have e_ := Option.some.inj (show some _ = some _ from hFL11); subst e_
     exact x_inv ⟨q19, q0x.length, c_b9_3_L11h, q0t, q1a, q0y.length, c_b9_4_L11h, q0u, q1b, q0z.length, c_b9_5_L11h, q0v, q0w, q0n.length, c_b10_0_L11h, q0o, q1y, q1z, q20, q0x, q0y, q0z, q0n, hLL11, q3f, q3g, q3h, q2y, q2n, q1s, q1t, q1u, q1n, ((((((((hS.pull 7).pull 7).pull 7).pull 7).pull 7).pull 7).pull 7).pull 7)⟩
   rintro E w ⟨q6, q25, c_b9_3_L11, q16, q7, q26, c_b9_4_L11, q17, q8, q27, c_b9_5_L11, q18, q0a, q1o, c_b10_0_L11, q0s, q0f, q0g, q0h, q0b, q0c, q0d, q0e, rfl, q24, q3n, q4e, q3o, q3q, q29, q2a, q2b, q2h, hS⟩
   have e_ := St.vec_n (hS.pull 3) q29; subst e_
   have e_ := St.vec_n (hS.pull 4) q2a; subst e_
   have e_ := St.vec_n (hS.pull 5) q2b; subst e_
   have e_ := St.vec_n (hS.pull 6) q2h; subst e_
   refine x_seq <| x_seq <| x_region <| p (yl_move q4e) <|
    p (yl_len_slice usl_26 rfl) <| p (yl_eql rfl rfl) <| x_done <|
    x_cond_p ((q2c.1.length : Int) = 0) rfl (fun hc97 => ?_) (fun hc97 => ?_)
   ·replace hF := it_t hc97 hF
    replace hF := bd_s hF; obtain ⟨q4p, q4f, hF⟩ := hF
    refine x_seq <| x_region <| p (yl_move q3n) <| ?_
    have hcall := c_layfmt_ReadFloor_1 q4f  (hS.pull 7)
    refine o_ccv rfl call_98 (args2 rfl rfl) ((Calls.mono hcall (fun e w'' h => And.intro h.1 (((((((h.2.pull 7).pull 7).pull 7).pull 7).pull 7).pull 7).pull 7)))) ?_
    rintro e w' ⟨rfl, hS⟩
    refine ⟨_, rfl, ?_⟩
    refine p (yl_extract rfl rfl) <| p (yl_extract rfl rfl) <| p (yl_extract rfl rfl) <| p (yl_extract rfl rfl) <| ?_
    refine o_storeAgg (news := [.int .i64 0, .int .i64 0, .int .i64 0, .slice none 0 0, .slice none 0 0, .slice none 0 0]) agg_105 q24 rfl rfl (by simp [over_length]) hS (fun w' hS => ?_)
    refine p (yl_assign rfl) <| p (yl_assign rfl) <| p (yl_assign rfl) <| x_done <| ?_
    replace hS := St.vec_nil hS 120 R_floor_Block.sz
    have q3 : RepL R_floor_Block q2 [] [] := rfl
    replace hS := St.vec_nil hS 123 R_floor_Wall.sz
    have q4 : RepL R_floor_Wall q2 [] [] := rfl
    replace hS := St.vec_nil hS 117 R_floor_Port.sz
    have q5 : RepL R_floor_Port q2 [] [] := rfl
    replace hS := St.vec_nil hS 109 R_floor_Site.sz
    have q9 : RepL R_floor_Site q2 [] [] := rfl
    have e_ := Option.some.inj (show some _ = some _ from hF); subst e_
    exact x_return ⟨_, ⟨_, _, _, rfl, q24, ldvA agg_105 rfl (fun j v hj => by rw [add0]; exact St.cell (hS.pull 4) hj), _, _, rfl, rfl, _, _, rfl, rfl, _, _, rfl, rfl, rfl⟩, none, 0, 0, [], none, 0, 0, [], none, 0, 0, [], none, 0, 0, [], rfl, (RepL.flat (fun h => h) q3), (RepL.flat (fun h => h) q4), (RepL.flat (fun h => h) q5), (RepL.flat (fun h => h) q9), (ro_back4 q2i ((((((((((((hS.pull 4).drop.pull 4).drop.pull 4).drop.pull 4).drop.pull 4).drop.pull 4).drop.pull 4).drop.pull 4).pull 1).pull 2).pull 3).pull 4))⟩
   ·replace hF := it_f hc97 hF
    replace hF := bd_s hF; obtain ⟨q3k, q4g, hF⟩ := hF
    refine x_skip <| x_seq <| x_seq <| x_region <|
     pa (v := .agg #[.int .i64 q0f, .int .i64 q0g, .int .i64 q0h, .slice q6 q0b.length c_b9_3_L11, .slice q7 q0c.length c_b9_4_L11, .slice q8 q0d.length c_b9_5_L11]) (ld_sub agg_105 q3o rfl rfl (hS.pull 1)) <| ?_
    have q_ := St.lend ((hS.pull 7).pull 4) q29; obtain ⟨ρl0, hll0, hlf0, hS0, back0⟩ := q_
    have q_ := St.lend (hS0.pull 4) (q2a.le hll0); obtain ⟨ρl1, hll1, hlf1, hS1, back1⟩ := q_
    have q_ := St.lend (hS1.pull 4) (q2b.le (hll0.trans hll1)); obtain ⟨ρl2, hll2, hlf2, hS2, back2⟩ := q_
    have hcall := c_floor_Check q4g (hlf0.le (hll1.trans hll2)) (hlf1.le hll2) hlf2 hS2
    refine o_cc call_41 (args1 rfl) ((Calls.mono hcall (fun e w'' h => And.intro h.1 (((((((((back0 ((back1 ((back2 h.2).pull 1)).pull 1)).pull 1).pull 7).pull 4).pull 4).pull 4).pull 7).pull 7).pull 7)))) ?_
    rintro e w' ⟨rfl, hS⟩
    refine ⟨_, rfl, ?_⟩
    refine p (v := .int .i64 q3k) (yl_assign rfl) <| x_done <| x_seq <| x_region <|
     p (v := .int .i64 q3k) (yl_move rfl) <| p (yl_neq rfl rfl) <| x_done <|
     x_cond_p (q3k ≠ 0) rfl (fun hc107 => ?_) (fun hc107 => ?_)
    ·replace hF := it_t hc107 hF
     replace hF := bd_s hF; obtain ⟨q4q, q4h, hF⟩ := hF
     refine x_seq <| x_region <| p (yl_move q3n) <| p (v := .int .i64 q3k) (yl_move rfl) <| ?_
     have hcall := c_layfmt_ReadFloor_1 q4h  (hS.pull 7)
     refine o_ccv rfl call_98 (args2 rfl rfl) ((Calls.mono hcall (fun e w'' h => And.intro h.1 (((((((h.2.pull 7).pull 7).pull 7).pull 7).pull 7).pull 7).pull 7)))) ?_
     rintro e w' ⟨rfl, hS⟩
     refine ⟨_, rfl, ?_⟩
     refine p (yl_extract rfl rfl) <| p (yl_extract rfl rfl) <| p (yl_extract rfl rfl) <| p (yl_extract rfl rfl) <| ?_
     refine o_storeAgg (news := [.int .i64 0, .int .i64 0, .int .i64 0, .slice none 0 0, .slice none 0 0, .slice none 0 0]) agg_105 q24 rfl rfl (by simp [over_length]) hS (fun w' hS => ?_)
     refine p (yl_assign rfl) <| p (yl_assign rfl) <| p (yl_assign rfl) <| x_done <| ?_
     replace hS := St.vec_nil hS 120 R_floor_Block.sz
     have q3 : RepL R_floor_Block q2 [] [] := rfl
     replace hS := St.vec_nil hS 123 R_floor_Wall.sz
     have q4 : RepL R_floor_Wall q2 [] [] := rfl
     replace hS := St.vec_nil hS 117 R_floor_Port.sz
     have q5 : RepL R_floor_Port q2 [] [] := rfl
     replace hS := St.vec_nil hS 109 R_floor_Site.sz
     have q9 : RepL R_floor_Site q2 [] [] := rfl
     have e_ := Option.some.inj (show some _ = some _ from hF); subst e_
     exact x_return ⟨_, ⟨_, _, _, rfl, q24, ldvA agg_105 rfl (fun j v hj => by rw [add0]; exact St.cell (hS.pull 4) hj), _, _, rfl, rfl, _, _, rfl, rfl, _, _, rfl, rfl, rfl⟩, none, 0, 0, [], none, 0, 0, [], none, 0, 0, [], none, 0, 0, [], rfl, (RepL.flat (fun h => h) q3), (RepL.flat (fun h => h) q4), (RepL.flat (fun h => h) q5), (RepL.flat (fun h => h) q9), (ro_back4 q2i ((((((((((((hS.pull 4).drop.pull 4).drop.pull 4).drop.pull 4).drop.pull 4).drop.pull 4).drop.pull 4).drop.pull 4).pull 1).pull 2).pull 3).pull 4))⟩
    ·replace hF := it_f hc107 hF
     replace hF := bd_s hF; obtain ⟨q3l, q4i, hF⟩ := hF
     refine x_skip <| x_seq <| x_seq <| x_region <|
      pa (v := .agg #[.int .i64 q0f, .int .i64 q0g, .int .i64 q0h, .slice q6 q0b.length c_b9_3_L11, .slice q7 q0c.length c_b9_4_L11, .slice q8 q0d.length c_b9_5_L11]) (ld_sub agg_105 q3o rfl rfl (hS.pull 1)) <| pa (at_load one_107 q3q ((hS.pull 2).cell rfl)) <| ?_
     have q_ := St.lend ((hS.pull 7).pull 4) q29; obtain ⟨ρl0, hll0, hlf0, hS0, back0⟩ := q_
     have q_ := St.lend (hS0.pull 4) (q2a.le hll0); obtain ⟨ρl1, hll1, hlf1, hS1, back1⟩ := q_
     have q_ := St.lend (hS1.pull 4) (q2b.le (hll0.trans hll1)); obtain ⟨ρl2, hll2, hlf2, hS2, back2⟩ := q_
     have q_ := St.lend (hS2.pull 4) (q2h.le ((hll0.trans hll1).trans hll2)); obtain ⟨ρl3, hll3, hlf3, hS3, back3⟩ := q_
     have hcall := c_layfmt_checkSites q4i (hlf0.le ((hll1.trans hll2).trans hll3)) (hlf1.le (hll2.trans hll3)) (hlf2.le hll3) hlf3 hS3
     refine o_cc call_95 (args2 rfl rfl) ((Calls.mono hcall (fun e w'' h => And.intro h.1 (((((((((back0 ((back1 ((back2 ((back3 h.2).pull 1)).pull 1)).pull 1)).pull 1).pull 4).pull 4).pull 4).pull 4).pull 7).pull 7).pull 7)))) ?_
     rintro e w' ⟨rfl, hS⟩
     refine ⟨_, rfl, ?_⟩
     refine p (v := .int .i64 q3l) (yl_assign rfl) <| x_done <| x_seq <| x_region <|
      p (v := .int .i64 q3l) (yl_move rfl) <| p (yl_neq rfl rfl) <| x_done <|
      x_cond_p (q3l ≠ 0) rfl (fun hc119 => ?_) (fun hc119 => ?_)
     ·replace hF := it_t hc119 hF
      replace hF := bd_s hF; obtain ⟨q4r, q4j, hF⟩ := hF
      refine x_seq <| x_region <| p (yl_move q3n) <| p (v := .int .i64 q3l) (yl_move rfl) <| ?_
      have hcall := c_layfmt_ReadFloor_1 q4j  (hS.pull 7)
      refine o_ccv rfl call_98 (args2 rfl rfl) ((Calls.mono hcall (fun e w'' h => And.intro h.1 (((((((h.2.pull 7).pull 7).pull 7).pull 7).pull 7).pull 7).pull 7)))) ?_
      rintro e w' ⟨rfl, hS⟩
      refine ⟨_, rfl, ?_⟩
      refine p (yl_extract rfl rfl) <| p (yl_extract rfl rfl) <| p (yl_extract rfl rfl) <| p (yl_extract rfl rfl) <| ?_
      refine o_storeAgg (news := [.int .i64 0, .int .i64 0, .int .i64 0, .slice none 0 0, .slice none 0 0, .slice none 0 0]) agg_105 q24 rfl rfl (by simp [over_length]) hS (fun w' hS => ?_)
      refine p (yl_assign rfl) <| p (yl_assign rfl) <| p (yl_assign rfl) <| x_done <| ?_
      replace hS := St.vec_nil hS 120 R_floor_Block.sz
      have q3 : RepL R_floor_Block q2 [] [] := rfl
      replace hS := St.vec_nil hS 123 R_floor_Wall.sz
      have q4 : RepL R_floor_Wall q2 [] [] := rfl
      replace hS := St.vec_nil hS 117 R_floor_Port.sz
      have q5 : RepL R_floor_Port q2 [] [] := rfl
      replace hS := St.vec_nil hS 109 R_floor_Site.sz
      have q9 : RepL R_floor_Site q2 [] [] := rfl
      have e_ := Option.some.inj (show some _ = some _ from hF); subst e_
      exact x_return ⟨_, ⟨_, _, _, rfl, q24, ldvA agg_105 rfl (fun j v hj => by rw [add0]; exact St.cell (hS.pull 4) hj), _, _, rfl, rfl, _, _, rfl, rfl, _, _, rfl, rfl, rfl⟩, none, 0, 0, [], none, 0, 0, [], none, 0, 0, [], none, 0, 0, [], rfl, (RepL.flat (fun h => h) q3), (RepL.flat (fun h => h) q4), (RepL.flat (fun h => h) q5), (RepL.flat (fun h => h) q9), (ro_back4 q2i ((((((((((((hS.pull 4).drop.pull 4).drop.pull 4).drop.pull 4).drop.pull 4).drop.pull 4).drop.pull 4).drop.pull 4).pull 1).pull 2).pull 3).pull 4))⟩
     ·replace hF := it_f hc119 hF
      refine x_skip <| x_seq <| ?_
      refine x_par (w0 := w0) [⟨[], [], [127], [0], [], []⟩, ⟨[], [], [128], [1], [], []⟩, ⟨[0], [0], [], [], [2], [3]⟩, ⟨[0, 1, 2], [1], [3], [], [], []⟩, ⟨[0, 1, 2, 3], [], [4], [], [], []⟩, ⟨[0, 1, 2, 3, 4], [], [5], [], [], []⟩] [⟨none, none, []⟩, ⟨none, none, []⟩, ⟨none, (some 2), []⟩, ⟨(some 2), none, []⟩] [3, 4, 5, 127, 128] [0, 1, 2] [0, 1, 3] [0, 1, 3, 4, 5] [fun Ep27 => Ep27 127 = .agg #[.int .i64 q0f, .int .i64 q0g, .int .i64 q0h, .slice q6 q0b.length c_b9_3_L11, .slice q7 q0c.length c_b9_4_L11, .slice q8 q0d.length c_b9_5_L11], fun Ep27 => Ep27 128 = .slice q0a q0e.length c_b10_0_L11, fun Ep27 => True, fun Ep27 => Ep27 3 = .slice q0a q0e.length c_b10_0_L11, fun Ep27 => Ep27 4 = .int .i64 0, fun Ep27 => Ep27 5 = .int .i64 0] [fun Ep27 => cells b9 105 [.int .i64 q0f, .int .i64 q0g, .int .i64 q0h, .slice q6 q0b.length c_b9_3_L11, .slice q7 q0c.length c_b9_4_L11, .slice q8 q0d.length c_b9_5_L11], fun Ep27 => cells b10 107 [.slice q0a q0e.length c_b10_0_L11], fun Ep27 => cells b2 105 [.int .i64 0, .int .i64 0, .int .i64 0, .slice none 0 0, .slice none 0 0, .slice none 0 0], fun Ep27 => cells b2 105 [.int .i64 q0f, .int .i64 q0g, .int .i64 q0h, .slice q6 q0b.length c_b9_3_L11, .slice q7 q0c.length c_b9_4_L11, .slice q8 q0d.length c_b9_5_L11]] mixed (by kernel_rfl) ((hS.pull 2).pull 2) ?_ ?_
      ·refine ⟨?_, ?_, ?_, ?_, ?_, ?_, trivial⟩
       ·intro Ep27 w l' hE27 hO27 hF_ hS
        replace hS : St w0 w (cells b9 105 [.int .i64 q0f, .int .i64 q0g, .int .i64 q0h, .slice q6 q0b.length c_b9_3_L11, .slice q7 q0c.length c_b9_4_L11, .slice q8 q0d.length c_b9_5_L11] :: l') := Eq.mp (by kernel_rfl) hS
        refine pa (v := .agg #[.int .i64 q0f, .int .i64 q0g, .int .i64 q0h, .slice q6 q0b.length c_b9_3_L11, .slice q7 q0c.length c_b9_4_L11, .slice q8 q0d.length c_b9_5_L11]) (ld_sub agg_105 ((hE27 9 rfl).trans q3o) rfl rfl hS) <| x_done <| ?_
        refine x_fin ⟨⟨_, rfl⟩, rfl, ?_⟩
        exact Eq.mp (by kernel_rfl) hS
       ·intro Ep27 w l' hE27 hO27 hF_ hS
        replace hS : St w0 w (cells b10 107 [.slice q0a q0e.length c_b10_0_L11] :: l') := Eq.mp (by kernel_rfl) hS
        refine pa (at_load one_107 ((hE27 10 rfl).trans q3q) (hS.cell rfl)) <| x_done <| ?_
        refine x_fin ⟨⟨_, rfl⟩, rfl, ?_⟩
        exact Eq.mp (by kernel_rfl) hS
       ·intro Ep27 w l' hE27 hO27 hF_ hS
        obtain ⟨q2z, -⟩ := hF_
        replace q2z : Ep27 127 = .agg #[.int .i64 q0f, .int .i64 q0g, .int .i64 q0h, .slice q6 q0b.length c_b9_3_L11, .slice q7 q0c.length c_b9_4_L11, .slice q8 q0d.length c_b9_5_L11] := Eq.mp (by kernel_rfl) q2z
        replace hS : St w0 w (cells b2 105 [.int .i64 0, .int .i64 0, .int .i64 0, .slice none 0 0, .slice none 0 0, .slice none 0 0] :: l') := Eq.mp (by kernel_rfl) hS
        refine o_storeAgg (news := [.int .i64 q0f, .int .i64 q0g, .int .i64 q0h, .slice q6 q0b.length c_b9_3_L11, .slice q7 q0c.length c_b9_4_L11, .slice q8 q0d.length c_b9_5_L11]) agg_105 ((hE27 2 rfl).trans q24) q2z rfl (by simp [over_length]) hS (fun w' hS => ?_)
        refine x_done <| ?_
        refine x_fin ⟨⟨undef, rfl⟩, trivial, ?_⟩
        exact Eq.mp (by kernel_rfl) hS
       ·intro Ep27 w l' hE27 hO27 hF_ hS
        obtain ⟨q30, -⟩ := hF_
        replace q30 : Ep27 128 = .slice q0a q0e.length c_b10_0_L11 := Eq.mp (by kernel_rfl) q30
        refine p (yl_assign q30) <| x_done <| ?_
        refine x_fin ⟨⟨_, rfl⟩, rfl, ?_⟩
        exact Eq.mp (by kernel_rfl) hS
       ·intro Ep27 w l' hE27 hO27 hF_ hS
        refine p (yl_assign rfl) <| x_done <| ?_
        refine x_fin ⟨⟨_, rfl⟩, rfl, ?_⟩
        exact Eq.mp (by kernel_rfl) hS
       ·intro Ep27 w l' hE27 hO27 hF_ hS
        refine p (yl_assign rfl) <| x_done <| ?_
        refine x_fin ⟨⟨_, rfl⟩, rfl, ?_⟩
        exact Eq.mp (by kernel_rfl) hS
      intro Ep27 w' hE27 hF_ hS
      obtain ⟨q2z, q30, q3y, q3z, q40, -⟩ := hF_
      replace q2z : Ep27 127 = .agg #[.int .i64 q0f, .int .i64 q0g, .int .i64 q0h, .slice q6 q0b.length c_b9_3_L11, .slice q7 q0c.length c_b9_4_L11, .slice q8 q0d.length c_b9_5_L11] := Eq.mp (by kernel_rfl) q2z
      replace q30 : Ep27 128 = .slice q0a q0e.length c_b10_0_L11 := Eq.mp (by kernel_rfl) q30
      replace q3y : Ep27 3 = .slice q0a q0e.length c_b10_0_L11 := Eq.mp (by kernel_rfl) q3y
      replace q3z : Ep27 4 = .int .i64 0 := Eq.mp (by kernel_rfl) q3z
      replace q40 : Ep27 5 = .int .i64 0 := Eq.mp (by kernel_rfl) q40
      replace hS : St w0 w' (cells b9 105 [.int .i64 q0f, .int .i64 q0g, .int .i64 q0h, .slice q6 q0b.length c_b9_3_L11, .slice q7 q0c.length c_b9_4_L11, .slice q8 q0d.length c_b9_5_L11] :: cells b10 107 [.slice q0a q0e.length c_b10_0_L11] :: cells b2 105 [.int .i64 q0f, .int .i64 q0g, .int .i64 q0h, .slice q6 q0b.length c_b9_3_L11, .slice q7 q0c.length c_b9_4_L11, .slice q8 q0d.length c_b9_5_L11] :: (vec 120 R_floor_Block.sz (.slice q6 q0b.length c_b9_3_L11) q0b.length q16 :: vec 123 R_floor_Wall.sz (.slice q7 q0c.length c_b9_4_L11) q0c.length q17 :: vec 117 R_floor_Port.sz (.slice q8 q0d.length c_b9_5_L11) q0d.length q18 :: vec 109 R_floor_Site.sz (.slice q0a q0e.length c_b10_0_L11) q0e.length q0s :: ro q2 :: l)) := Eq.mp (by kernel_rfl) hS
      have e_ := Option.some.inj (show some _ = some _ from hF); subst e_
      exact x_return ⟨_, ⟨_, _, _, rfl, ((hE27 2 rfl).trans q24), ldvA agg_105 rfl (fun j v hj => by rw [add0]; exact St.cell (hS.pull 2) hj), _, _, rfl, q3y, _, _, rfl, q3z, _, _, rfl, q40, rfl⟩, q6, q0b.length, c_b9_3_L11, q16, q7, q0c.length, c_b9_4_L11, q17, q8, q0d.length, c_b9_5_L11, q18, q0a, q0e.length, c_b10_0_L11, q0s, rfl, (RepL.flat (fun h => h) q29), (RepL.flat (fun h => h) q2a), (RepL.flat (fun h => h) q2b), (RepL.flat (fun h => h) q2h), (ro_back4 q2i (((((hS.drop.drop.drop.pull 4).pull 4).pull 4).pull 4).pull 4))⟩
attribute [irreducible] P_layfmt_ReadFloor

def P_slices_Equal_floor_Site_floor_Site_L4 (s10 : List T_floor_Site) (s21 : List T_floor_Site) : Int → Option (Int ⊕ (Unit ⊕ Bool)) := fun q2 =>
 if q2 < (s10.length : Int) then
  ck (inb q2 s10.length) <|
  lv (gt s10 q2) fun q3 =>
  ck (inb q2 s21.length) <|
  lv (gt s21 q2) fun q4 =>
  lv (!((q3.Row == q4.Row) && ((q3.At == q4.At) && true))) fun x24 =>
  if x24 = true then
   some (Sum.inr (Sum.inr false))
  else
   ar (q2 + 1) fun x25 =>
   some (Sum.inl x25)
 else
  some (Sum.inr (Sum.inl ()))
def P_slices_Equal_floor_Site_floor_Site (s10 : List T_floor_Site) (s21 : List T_floor_Site) : Option Bool :=
 if (s10.length : Int) ≠ (s21.length : Int) then
  some false
 else
  bs (
   lp (P_slices_Equal_floor_Site_floor_Site_L4 s10 s21) fuel 0) (fun y => some y) fun _ =>
  some true
set_option maxHeartbeats 4000000 in
set_option maxRecDepth 100000 in
theorem c_slices_Equal_floor_Site_floor_Site {w0 w : World} {l : List Assn} {ρ : Heap} {q5 : Option Addr} {q0b : Nat} {c_s10 : Nat} {q6 : Option Addr} {q0c : Nat} {c_s21 : Nat} {s10 : List T_floor_Site} {s21 : List T_floor_Site} {r : Bool} (hF : P_slices_Equal_floor_Site_floor_Site s10 s21 = some r) (q7 : RdS R_floor_Site ρ q5 q0b c_s10 s10) (q8 : RdS R_floor_Site ρ q6 q0c c_s21 s21) (hS : St w0 w (ro ρ :: l)) :
  Calls Tryd.prog 43 #[.slice q5 q0b c_s10, .slice q6 q0c c_s21] w fun e w' => e = .returned (.bool r) ∧ St w0 w' (ro ρ :: l) := by
 have e_ := q7.n; subst e_
 have e_ := q8.n; subst e_
 refine enterC Tryd.func43 rfl 26 rfl (by simp) ?_
 refine x_seq <| x_region <| p (yl_assign rfl) <| x_done <|
  x_seq <| x_seq <| x_region <| p (yl_move rfl) <|
  p (yl_len_slice usl_107 rfl) <| p (yl_move rfl) <| p (yl_len_slice usl_107 rfl) <| p (yl_neq rfl rfl) <|
  x_done <|
  x_cond_p ((s10.length : Int) ≠ (s21.length : Int)) rfl (fun hc10 => ?_) (fun hc10 => ?_)
 ·replace hF := it_t hc10 hF
  refine x_seq <| x_region <| p (yl_assign rfl) <| x_done <| ?_
  have e_ := Option.some.inj (show some _ = some _ from hF); subst e_
  exact x_return ⟨_, ⟨_, _, rfl, rfl, rfl⟩, rfl, hS⟩
 ·replace hF := it_f hc10 hF
  refine x_skip <| x_seq <| x_seq <| x_region <|
   p (yl_move rfl) <| p (yl_len_slice usl_107 rfl) <| p (yl_move rfl) <| x_done <| ?_
  replace hF := bs_s hF; obtain ⟨oL4, hLL4, hF⟩ := hF
  refine x_join (fun E w => (Sum.inl (())) = oL4 ∧ St w0 w (ro ρ :: l)) ?_ ?_
  ·refine x_block ?_
   refine x_loop (fun k_ E w => ∃ (q2 : Int), lp (P_slices_Equal_floor_Site_floor_Site_L4 s10 s21) k_ q2 = some oL4 ∧ E 0 = .slice q5 s10.length c_s10 ∧ E 1 = .slice q6 s21.length c_s21 ∧ E 12 = .int .i64 (s10.length : Int) ∧ E 13 = .int .i64 q2 ∧ St w0 w (ro ρ :: l)) fuel ⟨0, hLL4, rfl, rfl, rfl, rfl, hS⟩ ?_
   rintro kL4 E w ⟨q2, hLL4, q9, q0a, q4, q3, hS⟩
   replace hLL4 := lp_s hLL4; obtain ⟨kL4, obL4, rfl, hFL4, hLL4⟩ := hLL4
   refine x_seq <| x_region <| p (yl_lss q3 q4) <| x_done <|
    x_seq <|
    x_cond_p (q2 < (s10.length : Int)) rfl (fun hc14 => ?_) (fun hc14 => ?_)
   ·replace hFL4 := it_t hc14 hFL4
    replace hFL4 := ck_s hFL4; obtain ⟨q0d, hFL4⟩ := hFL4
    replace hFL4 := lv_s hFL4; obtain ⟨q0h, q0j, hFL4⟩ := hFL4
    have q_ := q7.get q0d; obtain ⟨q0n, q0e, q0k⟩ := q_
    rw [← q0j] at q0e
    have e_ := q0e; subst e_
    replace hFL4 := ck_s hFL4; obtain ⟨q0f, hFL4⟩ := hFL4
    replace hFL4 := lv_s hFL4; obtain ⟨q0i, q0l, hFL4⟩ := hFL4
    have q_ := q8.get q0f; obtain ⟨q0o, q0g, q0m⟩ := q_
    rw [← q0l] at q0g
    have e_ := q0g; subst e_
    replace hFL4 := lv_s hFL4; obtain ⟨x24, hx24, hFL4⟩ := hFL4
    refine x_skip <| x_seq <| x_block <| x_seq <|
     x_region <| p (yl_move q3) <| p (yl_assign rfl) <| x_done <|
     x_seq <| x_still mixed (by kernel_rfl) hS <| q (yl_move q9) <| q (yl_move rfl) <|
     q (yix_f sl_107 rfl rfl q7 q0d) <| qa (v := .agg #[.int .i64 q0h.Row, .int .i64 q0h.At]) (fun w' hS => at_loadAgg agg_109 rfl rfl (Elt.every q0k hS)) <| q (yl_move q0a) <| q (yl_move rfl) <|
     q (yix_f sl_107 rfl rfl q8 q0f) <| qa (v := .agg #[.int .i64 q0i.Row, .int .i64 q0i.At]) (fun w' hS => at_loadAgg agg_109 rfl rfl (Elt.every q0m hS)) <| q (ynes' eqs_109 rfl rfl rfl hx24) <|
     q_done fun w' hS => ?_
    refine x_cond (t := x24) rfl (fun hc24 => ?_) (fun hc24 => ?_)
    ·replace hFL4 := it_t hc24 hFL4
     refine x_seq <| x_region <| p (yl_assign rfl) <| x_done <| ?_
     have e_ := Option.some.inj (show some _ = some _ from hFL4); subst e_
     have e_ := (show _ = oL4 from hLL4); subst e_
     have e_ := Option.some.inj (show some _ = some _ from hF); subst e_
     exact x_return ⟨_, ⟨_, _, rfl, rfl, rfl⟩, rfl, hS⟩
    ·replace hFL4 := it_bf hc24 hFL4
     replace hFL4 := ar_s hFL4; obtain ⟨x25, hx25, hFL4⟩ := hFL4
     refine x_skip <| x_blk <| x_region <| p (yadd q3 rfl hx25) <|
      p (yl_move rfl) <| x_done <| ?_
     have e_ := Option.some.inj (show some _ = some _ from hFL4); subst e_
     exact x_inv ⟨kL4, Nat.lt_succ_self _, x25, hLL4, q9, q0a, q4, rfl, hS⟩
   ·replace hFL4 := it_f hc14 hFL4
    refine x_exitTo _ rfl <| ?_
    have e_ := Option.some.inj (show some _ = some _ from hFL4); subst e_
    exact x_inv ⟨hLL4, hS⟩
  rintro E w ⟨rfl, hS⟩
  refine x_seq <| x_region <| p (yl_assign rfl) <| x_done <| ?_
  have e_ := Option.some.inj (show some _ = some _ from hF); subst e_
  exact x_return ⟨_, ⟨_, _, rfl, rfl, rfl⟩, rfl, hS⟩
attribute [irreducible] P_slices_Equal_floor_Site_floor_Site

def P_slices_Equal_floor_Port_floor_Port_L4 (s10 : List T_floor_Port) (s21 : List T_floor_Port) : Int → Option (Int ⊕ (Unit ⊕ Bool)) := fun q2 =>
 if q2 < (s10.length : Int) then
  ck (inb q2 s10.length) <|
  lv (gt s10 q2) fun q3 =>
  ck (inb q2 s21.length) <|
  lv (gt s21 q2) fun q4 =>
  lv (!(decide (q3.Name = q4.Name) && ((q3.Out == q4.Out) && ((q3.X == q4.X) && ((q3.Y == q4.Y) && true))))) fun x24 =>
  if x24 = true then
   some (Sum.inr (Sum.inr false))
  else
   ar (q2 + 1) fun x25 =>
   some (Sum.inl x25)
 else
  some (Sum.inr (Sum.inl ()))
def P_slices_Equal_floor_Port_floor_Port (s10 : List T_floor_Port) (s21 : List T_floor_Port) : Option Bool :=
 if (s10.length : Int) ≠ (s21.length : Int) then
  some false
 else
  bs (
   lp (P_slices_Equal_floor_Port_floor_Port_L4 s10 s21) fuel 0) (fun y => some y) fun _ =>
  some true
set_option maxHeartbeats 4000000 in
set_option maxRecDepth 100000 in
theorem c_slices_Equal_floor_Port_floor_Port {w0 w : World} {l : List Assn} {ρ : Heap} {q5 : Option Addr} {q0d : Nat} {c_s10 : Nat} {q6 : Option Addr} {q0e : Nat} {c_s21 : Nat} {s10 : List T_floor_Port} {s21 : List T_floor_Port} {r : Bool} (hF : P_slices_Equal_floor_Port_floor_Port s10 s21 = some r) (q7 : RdS R_floor_Port ρ q5 q0d c_s10 s10) (q8 : RdS R_floor_Port ρ q6 q0e c_s21 s21) (hS : St w0 w (ro ρ :: l)) :
  Calls Tryd.prog 44 #[.slice q5 q0d c_s10, .slice q6 q0e c_s21] w fun e w' => e = .returned (.bool r) ∧ St w0 w' (ro ρ :: l) := by
 have e_ := q7.n; subst e_
 have e_ := q8.n; subst e_
 refine enterC Tryd.func44 rfl 26 rfl (by simp) ?_
 refine x_seq <| x_region <| p (yl_assign rfl) <| x_done <|
  x_seq <| x_seq <| x_region <| p (yl_move rfl) <|
  p (yl_len_slice usl_103 rfl) <| p (yl_move rfl) <| p (yl_len_slice usl_103 rfl) <| p (yl_neq rfl rfl) <|
  x_done <|
  x_cond_p ((s10.length : Int) ≠ (s21.length : Int)) rfl (fun hc10 => ?_) (fun hc10 => ?_)
 ·replace hF := it_t hc10 hF
  refine x_seq <| x_region <| p (yl_assign rfl) <| x_done <| ?_
  have e_ := Option.some.inj (show some _ = some _ from hF); subst e_
  exact x_return ⟨_, ⟨_, _, rfl, rfl, rfl⟩, rfl, hS⟩
 ·replace hF := it_f hc10 hF
  refine x_skip <| x_seq <| x_seq <| x_region <|
   p (yl_move rfl) <| p (yl_len_slice usl_103 rfl) <| p (yl_move rfl) <| x_done <| ?_
  replace hF := bs_s hF; obtain ⟨oL4, hLL4, hF⟩ := hF
  refine x_join (fun E w => (Sum.inl (())) = oL4 ∧ St w0 w (ro ρ :: l)) ?_ ?_
  ·refine x_block ?_
   refine x_loop (fun k_ E w => ∃ (q2 : Int), lp (P_slices_Equal_floor_Port_floor_Port_L4 s10 s21) k_ q2 = some oL4 ∧ E 0 = .slice q5 s10.length c_s10 ∧ E 1 = .slice q6 s21.length c_s21 ∧ E 12 = .int .i64 (s10.length : Int) ∧ E 13 = .int .i64 q2 ∧ St w0 w (ro ρ :: l)) fuel ⟨0, hLL4, rfl, rfl, rfl, rfl, hS⟩ ?_
   rintro kL4 E w ⟨q2, hLL4, q0b, q0c, q4, q3, hS⟩
   replace hLL4 := lp_s hLL4; obtain ⟨kL4, obL4, rfl, hFL4, hLL4⟩ := hLL4
   refine x_seq <| x_region <| p (yl_lss q3 q4) <| x_done <|
    x_seq <|
    x_cond_p (q2 < (s10.length : Int)) rfl (fun hc14 => ?_) (fun hc14 => ?_)
   ·replace hFL4 := it_t hc14 hFL4
    replace hFL4 := ck_s hFL4; obtain ⟨q0f, hFL4⟩ := hFL4
    replace hFL4 := lv_s hFL4; obtain ⟨q9, q0j, hFL4⟩ := hFL4
    have q_ := q7.get q0f; obtain ⟨q0n, q0g, q0k⟩ := q_
    rw [← q0j] at q0g
    have e_ := q0g; subst e_
    replace hFL4 := ck_s hFL4; obtain ⟨q0h, hFL4⟩ := hFL4
    replace hFL4 := lv_s hFL4; obtain ⟨q0a, q0l, hFL4⟩ := hFL4
    have q_ := q8.get q0h; obtain ⟨q0o, q0i, q0m⟩ := q_
    rw [← q0l] at q0i
    have e_ := q0i; subst e_
    replace hFL4 := lv_s hFL4; obtain ⟨x24, hx24, hFL4⟩ := hFL4
    refine x_skip <| x_seq <| x_block <| x_seq <|
     x_region <| p (yl_move q3) <| p (yl_assign rfl) <| x_done <|
     x_seq <| x_still mixed (by kernel_rfl) hS <| q (yl_move q0b) <| q (yl_move rfl) <|
     q (yix_f sl_103 rfl rfl q7 q0f) <| qa (v := .agg #[.string q9.Name, .bool q9.Out, .int .i64 q9.X, .int .i64 q9.Y]) (fun w' hS => at_loadAgg agg_117 rfl rfl (Elt.every q0k hS)) <| q (yl_move q0c) <| q (yl_move rfl) <|
     q (yix_f sl_103 rfl rfl q8 q0h) <| qa (v := .agg #[.string q0a.Name, .bool q0a.Out, .int .i64 q0a.X, .int .i64 q0a.Y]) (fun w' hS => at_loadAgg agg_117 rfl rfl (Elt.every q0m hS)) <| q (ynes' eqs_117 rfl rfl rfl hx24) <|
     q_done fun w' hS => ?_
    refine x_cond (t := x24) rfl (fun hc24 => ?_) (fun hc24 => ?_)
    ·replace hFL4 := it_t hc24 hFL4
     refine x_seq <| x_region <| p (yl_assign rfl) <| x_done <| ?_
     have e_ := Option.some.inj (show some _ = some _ from hFL4); subst e_
     have e_ := (show _ = oL4 from hLL4); subst e_
     have e_ := Option.some.inj (show some _ = some _ from hF); subst e_
     exact x_return ⟨_, ⟨_, _, rfl, rfl, rfl⟩, rfl, hS⟩
    ·replace hFL4 := it_bf hc24 hFL4
     replace hFL4 := ar_s hFL4; obtain ⟨x25, hx25, hFL4⟩ := hFL4
     refine x_skip <| x_blk <| x_region <| p (yadd q3 rfl hx25) <|
      p (yl_move rfl) <| x_done <| ?_
     have e_ := Option.some.inj (show some _ = some _ from hFL4); subst e_
     exact x_inv ⟨kL4, Nat.lt_succ_self _, x25, hLL4, q0b, q0c, q4, rfl, hS⟩
   ·replace hFL4 := it_f hc14 hFL4
    refine x_exitTo _ rfl <| ?_
    have e_ := Option.some.inj (show some _ = some _ from hFL4); subst e_
    exact x_inv ⟨hLL4, hS⟩
  rintro E w ⟨rfl, hS⟩
  refine x_seq <| x_region <| p (yl_assign rfl) <| x_done <| ?_
  have e_ := Option.some.inj (show some _ = some _ from hF); subst e_
  exact x_return ⟨_, ⟨_, _, rfl, rfl, rfl⟩, rfl, hS⟩
attribute [irreducible] P_slices_Equal_floor_Port_floor_Port

def P_slices_Equal_floor_Block_floor_Block_L4 (s10 : List T_floor_Block) (s21 : List T_floor_Block) : Int → Option (Int ⊕ (Unit ⊕ Bool)) := fun q2 =>
 if q2 < (s10.length : Int) then
  ck (inb q2 s10.length) <|
  lv (gt s10 q2) fun q3 =>
  ck (inb q2 s21.length) <|
  lv (gt s21 q2) fun q4 =>
  lv (!((q3.Row == q4.Row) && ((q3.From == q4.From) && ((q3.To == q4.To) && true)))) fun x24 =>
  if x24 = true then
   some (Sum.inr (Sum.inr false))
  else
   ar (q2 + 1) fun x25 =>
   some (Sum.inl x25)
 else
  some (Sum.inr (Sum.inl ()))
def P_slices_Equal_floor_Block_floor_Block (s10 : List T_floor_Block) (s21 : List T_floor_Block) : Option Bool :=
 if (s10.length : Int) ≠ (s21.length : Int) then
  some false
 else
  bs (
   lp (P_slices_Equal_floor_Block_floor_Block_L4 s10 s21) fuel 0) (fun y => some y) fun _ =>
  some true
set_option maxHeartbeats 4000000 in
set_option maxRecDepth 100000 in
theorem c_slices_Equal_floor_Block_floor_Block {w0 w : World} {l : List Assn} {ρ : Heap} {q5 : Option Addr} {q0d : Nat} {c_s10 : Nat} {q6 : Option Addr} {q0e : Nat} {c_s21 : Nat} {s10 : List T_floor_Block} {s21 : List T_floor_Block} {r : Bool} (hF : P_slices_Equal_floor_Block_floor_Block s10 s21 = some r) (q7 : RdS R_floor_Block ρ q5 q0d c_s10 s10) (q8 : RdS R_floor_Block ρ q6 q0e c_s21 s21) (hS : St w0 w (ro ρ :: l)) :
  Calls Tryd.prog 45 #[.slice q5 q0d c_s10, .slice q6 q0e c_s21] w fun e w' => e = .returned (.bool r) ∧ St w0 w' (ro ρ :: l) := by
 have e_ := q7.n; subst e_
 have e_ := q8.n; subst e_
 refine enterC Tryd.func45 rfl 26 rfl (by simp) ?_
 refine x_seq <| x_region <| p (yl_assign rfl) <| x_done <|
  x_seq <| x_seq <| x_region <| p (yl_move rfl) <|
  p (yl_len_slice usl_102 rfl) <| p (yl_move rfl) <| p (yl_len_slice usl_102 rfl) <| p (yl_neq rfl rfl) <|
  x_done <|
  x_cond_p ((s10.length : Int) ≠ (s21.length : Int)) rfl (fun hc10 => ?_) (fun hc10 => ?_)
 ·replace hF := it_t hc10 hF
  refine x_seq <| x_region <| p (yl_assign rfl) <| x_done <| ?_
  have e_ := Option.some.inj (show some _ = some _ from hF); subst e_
  exact x_return ⟨_, ⟨_, _, rfl, rfl, rfl⟩, rfl, hS⟩
 ·replace hF := it_f hc10 hF
  refine x_skip <| x_seq <| x_seq <| x_region <|
   p (yl_move rfl) <| p (yl_len_slice usl_102 rfl) <| p (yl_move rfl) <| x_done <| ?_
  replace hF := bs_s hF; obtain ⟨oL4, hLL4, hF⟩ := hF
  refine x_join (fun E w => (Sum.inl (())) = oL4 ∧ St w0 w (ro ρ :: l)) ?_ ?_
  ·refine x_block ?_
   refine x_loop (fun k_ E w => ∃ (q2 : Int), lp (P_slices_Equal_floor_Block_floor_Block_L4 s10 s21) k_ q2 = some oL4 ∧ E 0 = .slice q5 s10.length c_s10 ∧ E 1 = .slice q6 s21.length c_s21 ∧ E 12 = .int .i64 (s10.length : Int) ∧ E 13 = .int .i64 q2 ∧ St w0 w (ro ρ :: l)) fuel ⟨0, hLL4, rfl, rfl, rfl, rfl, hS⟩ ?_
   rintro kL4 E w ⟨q2, hLL4, q9, q0a, q4, q3, hS⟩
   replace hLL4 := lp_s hLL4; obtain ⟨kL4, obL4, rfl, hFL4, hLL4⟩ := hLL4
   refine x_seq <| x_region <| p (yl_lss q3 q4) <| x_done <|
    x_seq <|
    x_cond_p (q2 < (s10.length : Int)) rfl (fun hc14 => ?_) (fun hc14 => ?_)
   ·replace hFL4 := it_t hc14 hFL4
    replace hFL4 := ck_s hFL4; obtain ⟨q0f, hFL4⟩ := hFL4
    replace hFL4 := lv_s hFL4; obtain ⟨q0b, q0j, hFL4⟩ := hFL4
    have q_ := q7.get q0f; obtain ⟨q0n, q0g, q0k⟩ := q_
    rw [← q0j] at q0g
    have e_ := q0g; subst e_
    replace hFL4 := ck_s hFL4; obtain ⟨q0h, hFL4⟩ := hFL4
    replace hFL4 := lv_s hFL4; obtain ⟨q0c, q0l, hFL4⟩ := hFL4
    have q_ := q8.get q0h; obtain ⟨q0o, q0i, q0m⟩ := q_
    rw [← q0l] at q0i
    have e_ := q0i; subst e_
    replace hFL4 := lv_s hFL4; obtain ⟨x24, hx24, hFL4⟩ := hFL4
    refine x_skip <| x_seq <| x_block <| x_seq <|
     x_region <| p (yl_move q3) <| p (yl_assign rfl) <| x_done <|
     x_seq <| x_still mixed (by kernel_rfl) hS <| q (yl_move q9) <| q (yl_move rfl) <|
     q (yix_f sl_102 rfl rfl q7 q0f) <| qa (v := .agg #[.int .i64 q0b.Row, .int .i64 q0b.From, .int .i64 q0b.To]) (fun w' hS => at_loadAgg agg_120 rfl rfl (Elt.every q0k hS)) <| q (yl_move q0a) <| q (yl_move rfl) <|
     q (yix_f sl_102 rfl rfl q8 q0h) <| qa (v := .agg #[.int .i64 q0c.Row, .int .i64 q0c.From, .int .i64 q0c.To]) (fun w' hS => at_loadAgg agg_120 rfl rfl (Elt.every q0m hS)) <| q (ynes' eqs_120 rfl rfl rfl hx24) <|
     q_done fun w' hS => ?_
    refine x_cond (t := x24) rfl (fun hc24 => ?_) (fun hc24 => ?_)
    ·replace hFL4 := it_t hc24 hFL4
     refine x_seq <| x_region <| p (yl_assign rfl) <| x_done <| ?_
     have e_ := Option.some.inj (show some _ = some _ from hFL4); subst e_
     have e_ := (show _ = oL4 from hLL4); subst e_
     have e_ := Option.some.inj (show some _ = some _ from hF); subst e_
     exact x_return ⟨_, ⟨_, _, rfl, rfl, rfl⟩, rfl, hS⟩
    ·replace hFL4 := it_bf hc24 hFL4
     replace hFL4 := ar_s hFL4; obtain ⟨x25, hx25, hFL4⟩ := hFL4
     refine x_skip <| x_blk <| x_region <| p (yadd q3 rfl hx25) <|
      p (yl_move rfl) <| x_done <| ?_
     have e_ := Option.some.inj (show some _ = some _ from hFL4); subst e_
     exact x_inv ⟨kL4, Nat.lt_succ_self _, x25, hLL4, q9, q0a, q4, rfl, hS⟩
   ·replace hFL4 := it_f hc14 hFL4
    refine x_exitTo _ rfl <| ?_
    have e_ := Option.some.inj (show some _ = some _ from hFL4); subst e_
    exact x_inv ⟨hLL4, hS⟩
  rintro E w ⟨rfl, hS⟩
  refine x_seq <| x_region <| p (yl_assign rfl) <| x_done <| ?_
  have e_ := Option.some.inj (show some _ = some _ from hF); subst e_
  exact x_return ⟨_, ⟨_, _, rfl, rfl, rfl⟩, rfl, hS⟩
attribute [irreducible] P_slices_Equal_floor_Block_floor_Block

def P_slices_Equal_floor_Wall_floor_Wall_L4 (s10 : List T_floor_Wall) (s21 : List T_floor_Wall) : Int → Option (Int ⊕ (Unit ⊕ Bool)) := fun q2 =>
 if q2 < (s10.length : Int) then
  ck (inb q2 s10.length) <|
  lv (gt s10 q2) fun q3 =>
  ck (inb q2 s21.length) <|
  lv (gt s21 q2) fun q4 =>
  lv (!((q3.Layer == q4.Layer) && ((q3.X0 == q4.X0) && ((q3.Y0 == q4.Y0) && ((q3.X1 == q4.X1) && ((q3.Y1 == q4.Y1) && true)))))) fun x24 =>
  if x24 = true then
   some (Sum.inr (Sum.inr false))
  else
   ar (q2 + 1) fun x25 =>
   some (Sum.inl x25)
 else
  some (Sum.inr (Sum.inl ()))
def P_slices_Equal_floor_Wall_floor_Wall (s10 : List T_floor_Wall) (s21 : List T_floor_Wall) : Option Bool :=
 if (s10.length : Int) ≠ (s21.length : Int) then
  some false
 else
  bs (
   lp (P_slices_Equal_floor_Wall_floor_Wall_L4 s10 s21) fuel 0) (fun y => some y) fun _ =>
  some true
set_option maxHeartbeats 4000000 in
set_option maxRecDepth 100000 in
theorem c_slices_Equal_floor_Wall_floor_Wall {w0 w : World} {l : List Assn} {ρ : Heap} {q7 : Option Addr} {q0d : Nat} {c_s10 : Nat} {q8 : Option Addr} {q0e : Nat} {c_s21 : Nat} {s10 : List T_floor_Wall} {s21 : List T_floor_Wall} {r : Bool} (hF : P_slices_Equal_floor_Wall_floor_Wall s10 s21 = some r) (q9 : RdS R_floor_Wall ρ q7 q0d c_s10 s10) (q0a : RdS R_floor_Wall ρ q8 q0e c_s21 s21) (hS : St w0 w (ro ρ :: l)) :
  Calls Tryd.prog 46 #[.slice q7 q0d c_s10, .slice q8 q0e c_s21] w fun e w' => e = .returned (.bool r) ∧ St w0 w' (ro ρ :: l) := by
 have e_ := q9.n; subst e_
 have e_ := q0a.n; subst e_
 refine enterC Tryd.func46 rfl 26 rfl (by simp) ?_
 refine x_seq <| x_region <| p (yl_assign rfl) <| x_done <|
  x_seq <| x_seq <| x_region <| p (yl_move rfl) <|
  p (yl_len_slice usl_89 rfl) <| p (yl_move rfl) <| p (yl_len_slice usl_89 rfl) <| p (yl_neq rfl rfl) <|
  x_done <|
  x_cond_p ((s10.length : Int) ≠ (s21.length : Int)) rfl (fun hc10 => ?_) (fun hc10 => ?_)
 ·replace hF := it_t hc10 hF
  refine x_seq <| x_region <| p (yl_assign rfl) <| x_done <| ?_
  have e_ := Option.some.inj (show some _ = some _ from hF); subst e_
  exact x_return ⟨_, ⟨_, _, rfl, rfl, rfl⟩, rfl, hS⟩
 ·replace hF := it_f hc10 hF
  refine x_skip <| x_seq <| x_seq <| x_region <|
   p (yl_move rfl) <| p (yl_len_slice usl_89 rfl) <| p (yl_move rfl) <| x_done <| ?_
  replace hF := bs_s hF; obtain ⟨oL4, hLL4, hF⟩ := hF
  refine x_join (fun E w => (Sum.inl (())) = oL4 ∧ St w0 w (ro ρ :: l)) ?_ ?_
  ·refine x_block ?_
   refine x_loop (fun k_ E w => ∃ (q2 : Int), lp (P_slices_Equal_floor_Wall_floor_Wall_L4 s10 s21) k_ q2 = some oL4 ∧ E 0 = .slice q7 s10.length c_s10 ∧ E 1 = .slice q8 s21.length c_s21 ∧ E 12 = .int .i64 (s10.length : Int) ∧ E 13 = .int .i64 q2 ∧ St w0 w (ro ρ :: l)) fuel ⟨0, hLL4, rfl, rfl, rfl, rfl, hS⟩ ?_
   rintro kL4 E w ⟨q2, hLL4, q0b, q0c, q6, q3, hS⟩
   replace hLL4 := lp_s hLL4; obtain ⟨kL4, obL4, rfl, hFL4, hLL4⟩ := hLL4
   refine x_seq <| x_region <| p (yl_lss q3 q6) <| x_done <|
    x_seq <|
    x_cond_p (q2 < (s10.length : Int)) rfl (fun hc14 => ?_) (fun hc14 => ?_)
   ·replace hFL4 := it_t hc14 hFL4
    replace hFL4 := ck_s hFL4; obtain ⟨q0f, hFL4⟩ := hFL4
    replace hFL4 := lv_s hFL4; obtain ⟨q4, q0j, hFL4⟩ := hFL4
    have q_ := q9.get q0f; obtain ⟨q0n, q0g, q0k⟩ := q_
    rw [← q0j] at q0g
    have e_ := q0g; subst e_
    replace hFL4 := ck_s hFL4; obtain ⟨q0h, hFL4⟩ := hFL4
    replace hFL4 := lv_s hFL4; obtain ⟨q5, q0l, hFL4⟩ := hFL4
    have q_ := q0a.get q0h; obtain ⟨q0o, q0i, q0m⟩ := q_
    rw [← q0l] at q0i
    have e_ := q0i; subst e_
    replace hFL4 := lv_s hFL4; obtain ⟨x24, hx24, hFL4⟩ := hFL4
    refine x_skip <| x_seq <| x_block <| x_seq <|
     x_region <| p (yl_move q3) <| p (yl_assign rfl) <| x_done <|
     x_seq <| x_still mixed (by kernel_rfl) hS <| q (yl_move q0b) <| q (yl_move rfl) <|
     q (yix_f sl_89 rfl rfl q9 q0f) <| qa (v := .agg #[.int .i64 q4.Layer, .int .i64 q4.X0, .int .i64 q4.Y0, .int .i64 q4.X1, .int .i64 q4.Y1]) (fun w' hS => at_loadAgg agg_123 rfl rfl (Elt.every q0k hS)) <| q (yl_move q0c) <| q (yl_move rfl) <|
     q (yix_f sl_89 rfl rfl q0a q0h) <| qa (v := .agg #[.int .i64 q5.Layer, .int .i64 q5.X0, .int .i64 q5.Y0, .int .i64 q5.X1, .int .i64 q5.Y1]) (fun w' hS => at_loadAgg agg_123 rfl rfl (Elt.every q0m hS)) <| q (ynes' eqs_123 rfl rfl rfl hx24) <|
     q_done fun w' hS => ?_
    refine x_cond (t := x24) rfl (fun hc24 => ?_) (fun hc24 => ?_)
    ·replace hFL4 := it_t hc24 hFL4
     refine x_seq <| x_region <| p (yl_assign rfl) <| x_done <| ?_
     have e_ := Option.some.inj (show some _ = some _ from hFL4); subst e_
     have e_ := (show _ = oL4 from hLL4); subst e_
     have e_ := Option.some.inj (show some _ = some _ from hF); subst e_
     exact x_return ⟨_, ⟨_, _, rfl, rfl, rfl⟩, rfl, hS⟩
    ·replace hFL4 := it_bf hc24 hFL4
     replace hFL4 := ar_s hFL4; obtain ⟨x25, hx25, hFL4⟩ := hFL4
     refine x_skip <| x_blk <| x_region <| p (yadd q3 rfl hx25) <|
      p (yl_move rfl) <| x_done <| ?_
     have e_ := Option.some.inj (show some _ = some _ from hFL4); subst e_
     exact x_inv ⟨kL4, Nat.lt_succ_self _, x25, hLL4, q0b, q0c, q6, rfl, hS⟩
   ·replace hFL4 := it_f hc14 hFL4
    refine x_exitTo _ rfl <| ?_
    have e_ := Option.some.inj (show some _ = some _ from hFL4); subst e_
    exact x_inv ⟨hLL4, hS⟩
  rintro E w ⟨rfl, hS⟩
  refine x_seq <| x_region <| p (yl_assign rfl) <| x_done <| ?_
  have e_ := Option.some.inj (show some _ = some _ from hF); subst e_
  exact x_return ⟨_, ⟨_, _, rfl, rfl, rfl⟩, rfl, hS⟩
attribute [irreducible] P_slices_Equal_floor_Wall_floor_Wall

def P_maskkeep4_LayfmtBack_L11 (l_0 : List Int) (q8 : (T_floor_Floor × Int)) (q9 : (Int × Int)) : (List T_floor_Site × Int × Int) → Option ((List T_floor_Site × Int × Int) ⊕ List T_floor_Site) := fun (q2, q3, q4) =>
 if q3 < q9.1 then
  bd (P_maskmake_Stream_Next (T_maskmake_Stream.mk l_0 q4) q8.1.Rows) fun q6 =>
  bd (P_maskmake_Stream_Next (T_maskmake_Stream.mk l_0 q6.2) q8.1.Sites) fun q7 =>
  lv (q2 ++ [(T_floor_Site.mk q6.1 q7.1)]) fun q5 =>
  ck (apOk 16 q5.length) <|
  ar (q3 + 1) fun x94 =>
  some (Sum.inl (q5, x94, q7.2))
 else
  some (Sum.inr q2)
def P_maskkeep4_LayfmtBack (l_0 : List Int) : Option Bool :=
 bd (P_maskmake_Stream_Layout (T_maskmake_Stream.mk l_0 0)) fun q6 =>
 bd (P_layfmt_Text q6.1) fun q8 =>
 bd (P_layfmt_Read q8.1) fun q5 =>
 bd (P_layfmt_Text q5.1) fun q0a =>
 bd (P_maskkeep4_writes) fun q0i =>
 lv ((!q0i) || (decide (q8.2 ≠ 0))) fun x42 =>
 lv (x42 || (decide (q5.2.2 ≠ 0))) fun x46 =>
 lv (x46 || (decide (q0a.2 ≠ 0))) fun x50 =>
 lv (x50 || (decide (q5.2.1 ≠ 0))) fun x54 =>
 lv (x54 || (decide (q0a.1 ≠ q8.1))) fun x59 =>
 bd (gd (!x59) (P_slices_Equal_rules_Wire_rules_Wire q6.1.Wires q5.1.Wires)) fun q0e =>
 lv (x59 || (!q0e)) fun x67 =>
 bd (gd (!x67) (P_slices_Equal_rules_Pin_rules_Pin q6.1.Pins q5.1.Pins)) fun q0f =>
 lv (x67 || (!q0f)) fun x75 =>
 if x75 = true then
  some false
 else
  bd (P_maskmake_Stream_Floor (T_maskmake_Stream.mk l_0 q6.2)) fun q4 =>
  bd (P_maskmake_Stream_Next (T_maskmake_Stream.mk l_0 q4.2) 6) fun q9 =>
  bd (
   lp (P_maskkeep4_LayfmtBack_L11 l_0 q4 q9) fuel ([], 0, q9.2)) fun q3 =>
  bd (P_layfmt_Floor q4.1 q3) fun q7 =>
  if q7.2 ≠ 0 then
   bd (P_floor_Check q4.1) fun q0g =>
   some (decide (q7.2 = q0g))
  else
   bd (P_layfmt_ReadFloor q7.1) fun q2 =>
   lv ((decide (q2.2.2.2 = 0)) && (decide (q2.2.2.1 = 0))) fun x119 =>
   bd (gd (x119) (P_slices_Equal_floor_Site_floor_Site q2.2.1 q3)) fun q0h =>
   lv (x119 && q0h) fun x124 =>
   bd (gd (x124) (P_slices_Equal_floor_Port_floor_Port q2.1.Ports q4.1.Ports)) fun q0b =>
   lv (x124 && q0b) fun x131 =>
   bd (gd (x131) (P_slices_Equal_floor_Block_floor_Block q2.1.Blocks q4.1.Blocks)) fun q0c =>
   lv (x131 && q0c) fun x138 =>
   bd (gd (x138) (P_slices_Equal_floor_Wall_floor_Wall q2.1.Walls q4.1.Walls)) fun q0d =>
   lv (x138 && q0d) fun x145 =>
   some x145
set_option maxHeartbeats 4000000 in
set_option maxRecDepth 100000 in
theorem c_maskkeep4_LayfmtBack {w0 w : World} {l : List Assn} {ρ : Heap} {q0j : Option Addr} {q2c : Nat} {c_l_0 : Nat} {l_0 : List Int} {r : Bool} (hF : P_maskkeep4_LayfmtBack l_0 = some r) (q1n : RdS (RpI .i64) ρ q0j q2c c_l_0 l_0) (hS : St w0 w (ro ρ :: l)) :
  Calls Tryd.prog 9 #[.slice q0j q2c c_l_0] w fun e w' => e = .returned (.bool r) ∧ St w0 w' (ro ρ :: l) := by
 have e_ := q1n.n; subst e_
 refine enterC Tryd.func9 rfl 146 rfl (by simp) ?_
 refine x_seq <| x_region <| p (yl_assign rfl) <| x_done <|
  x_seq <| x_region <| p (yl_move rfl) <| p (v := .agg #[.slice q0j l_0.length c_l_0, .int .i64 0]) (yl_build bld_25 bldf_25 (parts_eq (pt (va := .slice q0j l_0.length c_l_0) rfl pt0)) (by kernel_rfl)) <| ?_
 refine o_box (cs := [.slice q0j l_0.length c_l_0, .int .i64 0]) rfl rfl hS (fun b18 w' hS => ?_)
 replace hF := bd_s hF; obtain ⟨q0d, q3l, hF⟩ := hF
 refine p (yl_assign rfl) <| x_done <| x_seq <| x_region <|
  p (yl_move rfl) <| ?_
 have hcall := c_maskmake_Stream_Layout q3l q1n ((hS.pull 1).pull 1)
 refine o_cc call_33 (args1 rfl) hcall ?_
 rintro e w' ⟨q0q, q2q, c_y0_ret_4_2_1, q2d, q18, q2r, c_y0_ret_5_2_1, q2e, q0r, q2s, c_y0_ret_6_2_1, q2f, q19, q2t, c_y0_ret_7_2_1, q2g, rfl, q0s, q1a, q0t, q1b, hS⟩
 refine ⟨_, rfl, ?_⟩
 have e_ := St.vec_n hS q0s; subst e_
 have e_ := St.vec_n (hS.pull 1) q1a; subst e_
 have e_ := St.vec_n (hS.pull 2) q0t; subst e_
 have e_ := St.vec_n (hS.pull 3) q1b; subst e_
 refine o_alloc zero_91 hS (fun b4 w' hS => ?_)
 refine o_storeAgg (news := [.int .i64 q0d.1.W, .int .i64 q0d.1.H, .int .i64 q0d.1.Layers, .int .i64 q0d.1.Nets, .slice q0q q0d.1.Wires.length c_y0_ret_4_2_1, .slice q18 q0d.1.Vias.length c_y0_ret_5_2_1, .slice q0r q0d.1.Pins.length c_y0_ret_6_2_1, .slice q19 q0d.1.Walls.length c_y0_ret_7_2_1]) agg_91 rfl rfl rfl (by simp [over_length]) hS (fun w' hS => ?_)
 replace hF := bd_s hF; obtain ⟨q1y, q3m, hF⟩ := hF
 refine x_done <| x_seq <| x_region <| pa (v := .agg #[.int .i64 q0d.1.W, .int .i64 q0d.1.H, .int .i64 q0d.1.Layers, .int .i64 q0d.1.Nets, .slice q0q q0d.1.Wires.length c_y0_ret_4_2_1, .slice q18 q0d.1.Vias.length c_y0_ret_5_2_1, .slice q0r q0d.1.Pins.length c_y0_ret_6_2_1, .slice q19 q0d.1.Walls.length c_y0_ret_7_2_1]) (ld_sub agg_91 rfl rfl rfl hS) <| ?_
 have q_ := St.lend ((hS.pull 6).pull 2) q0s; obtain ⟨ρl0, hll0, hlf0, hS0, back0⟩ := q_
 have q_ := St.lend (hS0.pull 2) (q1a.le hll0); obtain ⟨ρl1, hll1, hlf1, hS1, back1⟩ := q_
 have q_ := St.lend (hS1.pull 2) (q0t.le (hll0.trans hll1)); obtain ⟨ρl2, hll2, hlf2, hS2, back2⟩ := q_
 have q_ := St.lend (hS2.pull 2) (q1b.le ((hll0.trans hll1).trans hll2)); obtain ⟨ρl3, hll3, hlf3, hS3, back3⟩ := q_
 have hcall := c_layfmt_Text q3m (hlf0.le ((hll1.trans hll2).trans hll3)) (hlf1.le (hll2.trans hll3)) (hlf2.le hll3) hlf3 hS3
 refine o_cc call_34 (args1 rfl) ((Calls.mono hcall (fun e w'' h => And.intro h.1 ((((((((back0 ((back1 ((back2 ((back3 h.2).pull 1)).pull 1)).pull 1)).pull 1).pull 6).pull 5).pull 5).pull 5).pull 5).pull 6)))) ?_
 rintro e w' ⟨rfl, hS⟩
 refine ⟨_, rfl, ?_⟩
 replace hF := bd_s hF; obtain ⟨q0c, q3n, hF⟩ := hF
 refine p (v := .tuple #[.string q1y.1, .int .i64 q1y.2]) (yl_move rfl) <| p (yl_extract rfl rfl) <| p (yl_extract rfl rfl) <| p (yl_assign rfl) <|
  p (yl_assign rfl) <| x_done <| x_seq <| x_region <|
  p (yl_move rfl) <| ?_
 have hcall := c_layfmt_Read q3n  (hS.pull 6)
 refine o_cc call_35 (args1 rfl) hcall ?_
 rintro e w' ⟨q0u, q2u, c_y0_ret_4_4_1, q2h, q1c, q2v, c_y0_ret_5_4_1, q2i, q0v, q2w, c_y0_ret_6_4_1, q2j, q1d, q2x, c_y0_ret_7_4_1, q2k, rfl, q0w, q1e, q0x, q1f, hS⟩
 refine ⟨_, rfl, ?_⟩
 have e_ := St.vec_n hS q0w; subst e_
 have e_ := St.vec_n (hS.pull 1) q1e; subst e_
 have e_ := St.vec_n (hS.pull 2) q0x; subst e_
 have e_ := St.vec_n (hS.pull 3) q1f; subst e_
 refine p (yl_move rfl) <| p (yl_extract rfl rfl) <| p (yl_extract rfl rfl) <| p (yl_extract rfl rfl) <| ?_
 refine o_alloc zero_91 hS (fun b7 w' hS => ?_)
 refine o_storeAgg (news := [.int .i64 q0c.1.W, .int .i64 q0c.1.H, .int .i64 q0c.1.Layers, .int .i64 q0c.1.Nets, .slice q0u q0c.1.Wires.length c_y0_ret_4_4_1, .slice q1c q0c.1.Vias.length c_y0_ret_5_4_1, .slice q0v q0c.1.Pins.length c_y0_ret_6_4_1, .slice q1d q0c.1.Walls.length c_y0_ret_7_4_1]) agg_91 rfl rfl rfl (by simp [over_length]) hS (fun w' hS => ?_)
 replace hF := bd_s hF; obtain ⟨q1z, q3o, hF⟩ := hF
 refine p (yl_assign rfl) <| p (yl_assign rfl) <| x_done <| x_seq <|
  x_region <| pa (v := .agg #[.int .i64 q0c.1.W, .int .i64 q0c.1.H, .int .i64 q0c.1.Layers, .int .i64 q0c.1.Nets, .slice q0u q0c.1.Wires.length c_y0_ret_4_4_1, .slice q1c q0c.1.Vias.length c_y0_ret_5_4_1, .slice q0v q0c.1.Pins.length c_y0_ret_6_4_1, .slice q1d q0c.1.Walls.length c_y0_ret_7_4_1]) (ld_sub agg_91 rfl rfl rfl hS) <| ?_
 have q_ := St.lend ((hS.pull 5).pull 2) q0w; obtain ⟨ρl0, hll0, hlf0, hS0, back0⟩ := q_
 have q_ := St.lend (hS0.pull 2) (q1e.le hll0); obtain ⟨ρl1, hll1, hlf1, hS1, back1⟩ := q_
 have q_ := St.lend (hS1.pull 2) (q0x.le (hll0.trans hll1)); obtain ⟨ρl2, hll2, hlf2, hS2, back2⟩ := q_
 have q_ := St.lend (hS2.pull 2) (q1f.le ((hll0.trans hll1).trans hll2)); obtain ⟨ρl3, hll3, hlf3, hS3, back3⟩ := q_
 have hcall := c_layfmt_Text q3o (hlf0.le ((hll1.trans hll2).trans hll3)) (hlf1.le (hll2.trans hll3)) (hlf2.le hll3) hlf3 hS3
 refine o_cc call_34 (args1 rfl) ((Calls.mono hcall (fun e w'' h => And.intro h.1 (((((((((((((back0 ((back1 ((back2 ((back3 h.2).pull 1)).pull 1)).pull 1)).pull 11).pull 11).pull 11).pull 11).pull 11).pull 11).pull 7).pull 10).pull 10).pull 10).pull 10).pull 11)))) ?_
 rintro e w' ⟨rfl, hS⟩
 refine ⟨_, rfl, ?_⟩
 replace hF := bd_s hF; obtain ⟨q38, q3p, hF⟩ := hF
 refine p (v := .tuple #[.string q1z.1, .int .i64 q1z.2]) (yl_move rfl) <| p (yl_extract rfl rfl) <| p (yl_extract rfl rfl) <| p (yl_assign rfl) <|
  p (yl_assign rfl) <| x_done <| x_seq <| x_seq <|
  x_region <| ?_
 have hcall := c_maskkeep4_writes q3p  (hS.pull 5)
 refine o_cc call_36 args0 ((Calls.mono hcall (fun e w'' h => And.intro h.1 ((((((((((((h.2.pull 11).pull 11).pull 11).pull 11).pull 11).pull 11).pull 6).pull 11).pull 11).pull 11).pull 11).pull 11)))) ?_
 rintro e w' ⟨rfl, hS⟩
 refine ⟨_, rfl, ?_⟩
 replace hF := lv_s hF; obtain ⟨x42, hx42, hF⟩ := hF
 replace hF := lv_s hF; obtain ⟨x46, hx46, hF⟩ := hF
 replace hF := lv_s hF; obtain ⟨x50, hx50, hF⟩ := hF
 replace hF := lv_s hF; obtain ⟨x54, hx54, hF⟩ := hF
 replace hF := lv_s hF; obtain ⟨x59, hx59, hF⟩ := hF
 replace hF := bd_s hF; obtain ⟨q2l, q39, hF⟩ := hF
 refine p (yl_not rfl) <| p (yl_move rfl) <| pg (v := .int .i64 q1y.2) 39 (c := !(!q38)) (says_f _) (fun hq => Yl.at (yl_move rfl)) <| pg (v := .bool (decide (q1y.2 ≠ 0))) 39 (c := !(!q38)) (says_f _) (fun hq => Yl.at (yl_neq (cv hq) rfl)) <|
  p (yor' rfl rfl (fun hc => (cv (t_not hc))) hx42) <| p (yl_move rfl) <| pg (v := .int .i64 q0c.2.2) 43 (c := !x42) (says_f _) (fun hq => Yl.at (yl_move rfl)) <| pg (v := .bool (decide (q0c.2.2 ≠ 0))) 43 (c := !x42) (says_f _) (fun hq => Yl.at (yl_neq (cv hq) rfl)) <|
  p (yor' rfl rfl (fun hc => (cv (t_not hc))) hx46) <| p (yl_move rfl) <| pg (v := .int .i64 q1z.2) 47 (c := !x46) (says_f _) (fun hq => Yl.at (yl_move rfl)) <| pg (v := .bool (decide (q1z.2 ≠ 0))) 47 (c := !x46) (says_f _) (fun hq => Yl.at (yl_neq (cv hq) rfl)) <|
  p (yor' rfl rfl (fun hc => (cv (t_not hc))) hx50) <| p (yl_move rfl) <| pg (v := .int .i64 q0c.2.1) 51 (c := !x50) (says_f _) (fun hq => Yl.at (yl_move rfl)) <| pg (v := .bool (decide (q0c.2.1 ≠ 0))) 51 (c := !x50) (says_f _) (fun hq => Yl.at (yl_neq (cv hq) rfl)) <|
  p (yor' rfl rfl (fun hc => (cv (t_not hc))) hx54) <| p (yl_move rfl) <| pg (v := .string q1z.1) 55 (c := !x54) (says_f _) (fun hq => Yl.at (yl_move rfl)) <| pg (v := .string q1y.1) 55 (c := !x54) (says_f _) (fun hq => Yl.at (yl_move rfl)) <|
  pg (v := .bool (decide (q1z.1 ≠ q1y.1))) 55 (c := !x54) (says_f _) (fun hq => Yl.at (ynes (cv hq) (cv hq))) <| p (yor' rfl rfl (fun hc => (cv (t_not hc))) hx59) <| p (yl_move rfl) <| pg (v := .pointer (some ⟨b4, 4, none⟩)) 60 (c := !x59) (says_f _) (fun hq => Yl.at (yl_field0 fld_91_4 rfl)) <|
  pg (v := .slice q0q q0d.1.Wires.length c_y0_ret_4_2_1) 60 (c := !x59) (says_f _) (fun hq => at_load one_86 (cv hq) ((hS.pull 6).cell rfl)) <| pg (v := .pointer (some ⟨b7, 4, none⟩)) 60 (c := !x59) (says_f _) (fun hq => Yl.at (yl_field0 fld_91_4 rfl)) <| pg (v := .slice q0u q0c.1.Wires.length c_y0_ret_4_4_1) 60 (c := !x59) (says_f _) (fun hq => at_load one_86 (cv hq) (hS.cell rfl)) <|
  pccg (v := .bool q2l) 60 (c := !x59) (says_f _) call_37 (fun hq => (args2 (cv hq) (cv hq))) hS (fun hq => by
   have q_ := St.lend ((hS.pull 5).pull 7) q0s; obtain ⟨ρl0, hll0, hlf0, hS0, back0⟩ := q_
   have q_ := St.lend (hS0.pull 2) (q0w.le hll0); obtain ⟨ρl1, hll1, hlf1, hS1, back1⟩ := q_
   have hcall := c_slices_Equal_rules_Wire_rules_Wire (gd_t q39 hq) (hlf0.le hll1) hlf1 hS1
   exact (Calls.mono hcall (fun e w'' h => And.intro h.1 (((((((((((((back0 ((back1 h.2).pull 1)).pull 11).pull 11).pull 11).pull 11).pull 4).pull 11).pull 6).pull 11).pull 11).pull 11).pull 10).pull 11)))) (fun w' hS => ?_)
 replace hF := lv_s hF; obtain ⟨x67, hx67, hF⟩ := hF
 replace hF := bd_s hF; obtain ⟨q2m, q3a, hF⟩ := hF
 refine pg (v := .bool (!q2l)) 60 (c := !x59) (says_f _) (fun hq => Yl.at (yl_not (cv hq))) <| p (yor' rfl rfl (fun hc => (cv (t_not hc))) hx67) <| p (yl_move rfl) <| pg (v := .pointer (some ⟨b4, 6, none⟩)) 68 (c := !x67) (says_f _) (fun hq => Yl.at (yl_field0 fld_91_6 rfl)) <|
  pg (v := .slice q0r q0d.1.Pins.length c_y0_ret_6_2_1) 68 (c := !x67) (says_f _) (fun hq => at_load one_88 (cv hq) ((hS.pull 6).cell rfl)) <| pg (v := .pointer (some ⟨b7, 6, none⟩)) 68 (c := !x67) (says_f _) (fun hq => Yl.at (yl_field0 fld_91_6 rfl)) <| pg (v := .slice q0v q0c.1.Pins.length c_y0_ret_6_4_1) 68 (c := !x67) (says_f _) (fun hq => at_load one_88 (cv hq) (hS.cell rfl)) <|
  pccg (v := .bool q2m) 68 (c := !x67) (says_f _) call_38 (fun hq => (args2 (cv hq) (cv hq))) hS (fun hq => by
   have q_ := St.lend ((hS.pull 5).pull 9) q0t; obtain ⟨ρl0, hll0, hlf0, hS0, back0⟩ := q_
   have q_ := St.lend (hS0.pull 4) (q0x.le hll0); obtain ⟨ρl1, hll1, hlf1, hS1, back1⟩ := q_
   have hcall := c_slices_Equal_rules_Pin_rules_Pin (gd_t q3a hq) (hlf0.le hll1) hlf1 hS1
   exact (Calls.mono hcall (fun e w'' h => And.intro h.1 (((((((((((((back0 ((back1 h.2).pull 1)).pull 11).pull 11).pull 2).pull 11).pull 11).pull 11).pull 6).pull 11).pull 8).pull 11).pull 11).pull 11)))) (fun w' hS => ?_)
 replace hF := lv_s hF; obtain ⟨x75, hx75, hF⟩ := hF
 refine pg (v := .bool (!q2m)) 68 (c := !x67) (says_f _) (fun hq => Yl.at (yl_not (cv hq))) <| p (yor' rfl rfl (fun hc => (cv (t_not hc))) hx75) <| x_done <|
  x_cond (t := x75) rfl (fun hc75 => ?_) (fun hc75 => ?_)
 ·replace hF := it_t hc75 hF
  refine x_seq <| x_region <| p (yl_assign rfl) <| x_done <| ?_
  have e_ := Option.some.inj (show some _ = some _ from hF); subst e_
  exact x_return ⟨_, ⟨_, _, rfl, rfl, rfl⟩, rfl, (((((((hS.drop.drop.drop.drop.drop.pull 1).drop.pull 1).drop.pull 1).drop.pull 1).drop.pull 1).drop.pull 1).drop)⟩
 ·replace hF := it_bf hc75 hF
  replace hF := bd_s hF; obtain ⟨q2, q3q, hF⟩ := hF
  refine x_skip <| x_seq <| x_region <| p (yl_move rfl) <| ?_
  have hcall := c_maskmake_Stream_Floor q3q q1n ((hS.pull 5).pull 11)
  refine o_cc call_39 (args1 rfl) hcall ?_
  rintro e w' ⟨q3, q2y, c_y0_ret_3_8_1, q0m, q4, q2z, c_y0_ret_4_8_1, q0n, q5, q30, c_y0_ret_5_8_1, q0o, rfl, q0f, q0g, q0h, hS⟩
  refine ⟨_, rfl, ?_⟩
  have e_ := St.vec_n hS q0f; subst e_
  have e_ := St.vec_n (hS.pull 1) q0g; subst e_
  have e_ := St.vec_n (hS.pull 2) q0h; subst e_
  refine o_alloc zero_105 hS (fun b12 w' hS => ?_)
  refine o_storeAgg (news := [.int .i64 q2.1.Rows, .int .i64 q2.1.Sites, .int .i64 q2.1.Layers, .slice q3 q2.1.Blocks.length c_y0_ret_3_8_1, .slice q4 q2.1.Walls.length c_y0_ret_4_8_1, .slice q5 q2.1.Ports.length c_y0_ret_5_8_1]) agg_105 rfl rfl rfl (by simp [over_length]) hS (fun w' hS => ?_)
  replace hF := bd_s hF; obtain ⟨q22, q3b, hF⟩ := hF
  refine x_done <| x_seq <| x_region <| p (yl_assign rfl) <|
   x_done <| x_seq <| x_seq <| x_region <|
   p (yl_move rfl) <| ?_
  have hcall := c_maskmake_Stream_Next q3b q1n ((hS.pull 5).pull 5)
  refine o_cc call_13 (args2 rfl rfl) hcall ?_
  rintro e w' ⟨rfl, hS⟩
  refine ⟨_, rfl, ?_⟩
  refine p (yl_move rfl) <| x_done <| ?_
  replace hF := bd_s hF; obtain ⟨oL11, hLL11, hF⟩ := hF
  refine x_join (fun E w => ∃ (q0k : Option Addr) (q0l : Nat) (c_sites13_L11 : Nat) (q0y : List Value) (q10 : List T_floor_Site), q10 = oL11 ∧ E 12 = .pointer (some ⟨b12, 0, none⟩) ∧ E 13 = .slice q0k q0l c_sites13_L11 ∧ RepL R_floor_Site ρ q10 q0y ∧ St w0 w (cells b12 105 [.int .i64 q2.1.Rows, .int .i64 q2.1.Sites, .int .i64 q2.1.Layers, .slice q3 q2.1.Blocks.length c_y0_ret_3_8_1, .slice q4 q2.1.Walls.length c_y0_ret_4_8_1, .slice q5 q2.1.Ports.length c_y0_ret_5_8_1] :: vec 109 R_floor_Site.sz (.slice q0k q0l c_sites13_L11) q0l q0y :: vec 120 R_floor_Block.sz (.slice q3 q2.1.Blocks.length c_y0_ret_3_8_1) q2.1.Blocks.length q0m :: vec 123 R_floor_Wall.sz (.slice q4 q2.1.Walls.length c_y0_ret_4_8_1) q2.1.Walls.length q0n :: vec 117 R_floor_Port.sz (.slice q5 q2.1.Ports.length c_y0_ret_5_8_1) q2.1.Ports.length q0o :: ro ρ :: l)) ?_ ?_
  ·refine x_block ?_
   replace hS := St.vec_nil hS 109 R_floor_Site.sz
   have q1m : RepL R_floor_Site ρ [] [] := rfl
   refine x_loop (fun k_ E w => ∃ (q7 : Option Addr) (q0i : Nat) (c_sites13_L11h : Nat) (q8 : List Value) (q6 : List T_floor_Site) (q1j : Int) (q0p : Int), lp (P_maskkeep4_LayfmtBack_L11 l_0 q2 q22) k_ (q6, q1j, q0p) = some oL11 ∧ E 3 = .pointer (some ⟨b18, 0, none⟩) ∧ E 12 = .pointer (some ⟨b12, 0, none⟩) ∧ E 13 = .slice q7 q0i c_sites13_L11h ∧ E 79 = .int .i64 q22.1 ∧ E 80 = .int .i64 q1j ∧ RepL R_floor_Site ρ q6 q8 ∧ St w0 w (cells b18 25 [.slice q0j l_0.length c_l_0, .int .i64 q0p] :: cells b12 105 [.int .i64 q2.1.Rows, .int .i64 q2.1.Sites, .int .i64 q2.1.Layers, .slice q3 q2.1.Blocks.length c_y0_ret_3_8_1, .slice q4 q2.1.Walls.length c_y0_ret_4_8_1, .slice q5 q2.1.Ports.length c_y0_ret_5_8_1] :: vec 109 R_floor_Site.sz (.slice q7 q0i c_sites13_L11h) q0i q8 :: vec 120 R_floor_Block.sz (.slice q3 q2.1.Blocks.length c_y0_ret_3_8_1) q2.1.Blocks.length q0m :: vec 123 R_floor_Wall.sz (.slice q4 q2.1.Walls.length c_y0_ret_4_8_1) q2.1.Walls.length q0n :: vec 117 R_floor_Port.sz (.slice q5 q2.1.Ports.length c_y0_ret_5_8_1) q2.1.Ports.length q0o :: ro ρ :: l)) fuel ⟨none, 0, 0, [], [], 0, q22.2, hLL11, rfl, rfl, rfl, rfl, rfl, q1m, (((((((((((((((((hS.pull 7).drop.pull 7).drop.pull 7).drop.pull 7).drop.pull 7).drop.pull 7).drop.pull 7).drop.pull 7).drop.pull 7).drop.pull 7).drop.pull 2).pull 6).pull 6).pull 6).pull 4).pull 6).pull 6)⟩ ?_
   rintro kL11 E w ⟨q7, q0i, c_sites13_L11h, q8, q6, q1j, q0p, hLL11, q20, q1k, q23, q24, q25, q0z, hS⟩
   have e_ := St.vec_n (hS.pull 2) q0z; subst e_
   replace hLL11 := lp_s hLL11; obtain ⟨kL11, obL11, rfl, hFL11, hLL11⟩ := hLL11
   refine x_seq <| x_region <| p (yl_lss q25 q24) <| x_done <|
    x_seq <|
    x_cond_p (q1j < q22.1) rfl (fun hc81 => ?_) (fun hc81 => ?_)
   ·replace hFL11 := it_t hc81 hFL11
    refine x_skip <| x_seq <| x_block <| ?_
    replace hFL11 := bd_s hFL11; obtain ⟨q0b, q3c, hFL11⟩ := hFL11
    replace hFL11 := bd_s hFL11; obtain ⟨q0a, q3d, hFL11⟩ := hFL11
    replace hFL11 := lv_s hFL11; obtain ⟨q9, q31, hFL11⟩ := hFL11
    replace hFL11 := ck_s hFL11; obtain ⟨q32, hFL11⟩ := hFL11
    refine x_par (w0 := w0) [⟨[], [], [82], [], [], []⟩, ⟨[], [], [83], [], [], []⟩, ⟨[], [], [84], [], [], []⟩, ⟨[2], [2], [85], [0], [], []⟩, ⟨[1, 2, 3], [1, 3], [86], [2], [1], [3]⟩, ⟨[], [], [87], [], [], []⟩, ⟨[], [], [88], [], [], []⟩, ⟨[6], [6], [89], [0], [], []⟩, ⟨[1, 2, 3, 4, 5, 6, 7], [5, 7], [90], [2], [3], [4]⟩, ⟨[1, 2, 3, 4, 5, 6, 7, 8], [4, 8], [91], [], [], []⟩, ⟨[1, 2, 3, 4, 5, 6, 7, 8, 9], [9], [92], [], [], [5]⟩, ⟨[0, 1, 2, 3, 4, 5, 6, 7, 8, 9, 10], [0, 10], [93], [5, 2], [6], [7]⟩, ⟨[0, 1, 2, 3, 4, 5, 6, 7, 8, 9, 10, 11], [11], [13, 93], [], [], []⟩] [⟨none, none, []⟩, ⟨none, (some 4), []⟩, ⟨none, none, []⟩, ⟨(some 4), (some 8), []⟩, ⟨(some 8), none, []⟩, ⟨(some 10), none, [92]⟩, ⟨none, (some 11), []⟩, ⟨(some 11), none, [93]⟩] [13, 82, 83, 84, 85, 86, 87, 88, 89, 90, 91, 92, 93] [0, 1, 2, 6] [0, 2, 4, 5, 7] [0, 1, 2, 3, 4, 5, 6, 7, 8, 9, 10, 11, 12] [fun Ep12 => Ep12 82 = .slice q7 q6.length c_sites13_L11h, fun Ep12 => Ep12 83 = .pointer (some ⟨b18, 0, none⟩), fun Ep12 => Ep12 84 = .pointer (some ⟨b12, 0, none⟩), fun Ep12 => Ep12 85 = .int .i64 q2.1.Rows, fun Ep12 => Ep12 86 = .int .i64 q0b.1, fun Ep12 => Ep12 87 = .pointer (some ⟨b18, 0, none⟩), fun Ep12 => Ep12 88 = .pointer (some ⟨b12, 1, none⟩), fun Ep12 => Ep12 89 = .int .i64 q2.1.Sites, fun Ep12 => Ep12 90 = .int .i64 q0a.1, fun Ep12 => Ep12 91 = .agg #[.int .i64 q0b.1, .int .i64 q0a.1], fun Ep12 => Ep12 92 = .slice (some ⟨(blkOf (Ep12 92)), 0, none⟩) 1 1, fun Ep12 => Ep12 93 = .slice (adOf (Ep12 93)) q9.length (capOf (Ep12 93)), fun Ep12 => Ep12 13 = .slice (adOf (Ep12 93)) q9.length (capOf (Ep12 93))] [fun Ep12 => cells b12 105 [.int .i64 q2.1.Rows, .int .i64 q2.1.Sites, .int .i64 q2.1.Layers, .slice q3 q2.1.Blocks.length c_y0_ret_3_8_1, .slice q4 q2.1.Walls.length c_y0_ret_4_8_1, .slice q5 q2.1.Ports.length c_y0_ret_5_8_1], fun Ep12 => cells b18 25 [.slice q0j l_0.length c_l_0, .int .i64 q0p], fun Ep12 => ro ρ, fun Ep12 => cells b18 25 [.slice q0j l_0.length c_l_0, .int .i64 q0b.2], fun Ep12 => cells b18 25 [.slice q0j l_0.length c_l_0, .int .i64 q0a.2], fun Ep12 => cells (blkOf (Ep12 92)) 109 [.int .i64 q0b.1, .int .i64 q0a.1], fun Ep12 => vec 109 R_floor_Site.sz (.slice q7 q6.length c_sites13_L11h) q6.length q8, fun Ep12 => bunA (fun (cs93 : List Value) => RepL R_floor_Site ρ q9 cs93) (fun (cs93 : List Value) => [vec 109 R_floor_Site.sz (.slice (adOf (Ep12 93)) q9.length (capOf (Ep12 93))) q9.length cs93])] mixed (by kernel_rfl) ((((hS.pull 2).pull 6).pull 2).pull 3) ?_ ?_
    ·refine ⟨?_, ?_, ?_, ?_, ?_, ?_, ?_, ?_, ?_, ?_, ?_, ?_, ?_, trivial⟩
     ·intro Ep12 w l' hE12 hO12 hF_ hS
      refine p (yl_move ((hO12 13 rfl).trans q23)) <| x_done <| ?_
      refine x_fin ⟨⟨_, rfl⟩, rfl, ?_⟩
      exact Eq.mp (by kernel_rfl) hS
     ·intro Ep12 w l' hE12 hO12 hF_ hS
      refine p (yl_move ((hE12 3 rfl).trans q20)) <| x_done <| ?_
      refine x_fin ⟨⟨_, rfl⟩, rfl, ?_⟩
      exact Eq.mp (by kernel_rfl) hS
     ·intro Ep12 w l' hE12 hO12 hF_ hS
      refine p (yl_field0 fld_105_0 ((hE12 12 rfl).trans q1k)) <| x_done <| ?_
      refine x_fin ⟨⟨_, rfl⟩, rfl, ?_⟩
      exact Eq.mp (by kernel_rfl) hS
     ·intro Ep12 w l' hE12 hO12 hF_ hS
      obtain ⟨q1o, -⟩ := hF_
      replace q1o : Ep12 84 = .pointer (some ⟨b12, 0, none⟩) := Eq.mp (by kernel_rfl) q1o
      replace hS : St w0 w (cells b12 105 [.int .i64 q2.1.Rows, .int .i64 q2.1.Sites, .int .i64 q2.1.Layers, .slice q3 q2.1.Blocks.length c_y0_ret_3_8_1, .slice q4 q2.1.Walls.length c_y0_ret_4_8_1, .slice q5 q2.1.Ports.length c_y0_ret_5_8_1] :: l') := Eq.mp (by kernel_rfl) hS
      refine pa (at_load one_3 q1o (hS.cell rfl)) <| x_done <| ?_
      refine x_fin ⟨⟨_, rfl⟩, rfl, ?_⟩
      exact Eq.mp (by kernel_rfl) hS
     ·intro Ep12 w l' hE12 hO12 hF_ hS
      obtain ⟨q1p, q1q, -⟩ := hF_
      replace q1p : Ep12 83 = .pointer (some ⟨b18, 0, none⟩) := Eq.mp (by kernel_rfl) q1p
      replace q1q : Ep12 85 = .int .i64 q2.1.Rows := Eq.mp (by kernel_rfl) q1q
      replace hS : St w0 w (ro ρ :: cells b18 25 [.slice q0j l_0.length c_l_0, .int .i64 q0p] :: l') := Eq.mp (by kernel_rfl) hS
      have hcall := c_maskmake_Stream_Next q3c q1n (hS.pull 1)
      refine o_cc call_13 (args2 q1p q1q) hcall ?_
      rintro e w' ⟨rfl, hS⟩
      refine ⟨_, rfl, ?_⟩
      refine x_done <| ?_
      refine x_fin ⟨⟨_, rfl⟩, rfl, ?_⟩
      exact Eq.mp (by kernel_rfl) (hS.pull 1)
     ·intro Ep12 w l' hE12 hO12 hF_ hS
      refine p (yl_move ((hE12 3 rfl).trans q20)) <| x_done <| ?_
      refine x_fin ⟨⟨_, rfl⟩, rfl, ?_⟩
      exact Eq.mp (by kernel_rfl) hS
     ·intro Ep12 w l' hE12 hO12 hF_ hS
      refine p (yl_field0 fld_105_1 ((hE12 12 rfl).trans q1k)) <| x_done <| ?_
      refine x_fin ⟨⟨_, rfl⟩, rfl, ?_⟩
      exact Eq.mp (by kernel_rfl) hS
     ·intro Ep12 w l' hE12 hO12 hF_ hS
      obtain ⟨q1r, -⟩ := hF_
      replace q1r : Ep12 88 = .pointer (some ⟨b12, 1, none⟩) := Eq.mp (by kernel_rfl) q1r
      replace hS : St w0 w (cells b12 105 [.int .i64 q2.1.Rows, .int .i64 q2.1.Sites, .int .i64 q2.1.Layers, .slice q3 q2.1.Blocks.length c_y0_ret_3_8_1, .slice q4 q2.1.Walls.length c_y0_ret_4_8_1, .slice q5 q2.1.Ports.length c_y0_ret_5_8_1] :: l') := Eq.mp (by kernel_rfl) hS
      refine pa (at_load one_3 q1r (hS.cell rfl)) <| x_done <| ?_
      refine x_fin ⟨⟨_, rfl⟩, rfl, ?_⟩
      exact Eq.mp (by kernel_rfl) hS
     ·intro Ep12 w l' hE12 hO12 hF_ hS
      obtain ⟨q1s, q1t, -⟩ := hF_
      replace q1s : Ep12 87 = .pointer (some ⟨b18, 0, none⟩) := Eq.mp (by kernel_rfl) q1s
      replace q1t : Ep12 89 = .int .i64 q2.1.Sites := Eq.mp (by kernel_rfl) q1t
      replace hS : St w0 w (ro ρ :: cells b18 25 [.slice q0j l_0.length c_l_0, .int .i64 q0b.2] :: l') := Eq.mp (by kernel_rfl) hS
      have hcall := c_maskmake_Stream_Next q3d q1n (hS.pull 1)
      refine o_cc call_13 (args2 q1s q1t) hcall ?_
      rintro e w' ⟨rfl, hS⟩
      refine ⟨_, rfl, ?_⟩
      refine x_done <| ?_
      refine x_fin ⟨⟨_, rfl⟩, rfl, ?_⟩
      exact Eq.mp (by kernel_rfl) (hS.pull 1)
     ·intro Ep12 w l' hE12 hO12 hF_ hS
      obtain ⟨q1u, q1v, -⟩ := hF_
      replace q1u : Ep12 86 = .int .i64 q0b.1 := Eq.mp (by kernel_rfl) q1u
      replace q1v : Ep12 90 = .int .i64 q0a.1 := Eq.mp (by kernel_rfl) q1v
      refine p (v := .agg #[.int .i64 q0b.1, .int .i64 q0a.1]) (yl_build bld_109 bldf_109 (parts_eq (pt (va := .int .i64 q0b.1) q1u (pt (va := .int .i64 q0a.1) q1v pt0))) (by kernel_rfl)) <| x_done <| ?_
      refine x_fin ⟨⟨_, rfl⟩, rfl, ?_⟩
      exact Eq.mp (by kernel_rfl) hS
     ·intro Ep12 w l' hE12 hO12 hF_ hS
      obtain ⟨q1w, -⟩ := hF_
      replace q1w : Ep12 91 = .agg #[.int .i64 q0b.1, .int .i64 q0a.1] := Eq.mp (by kernel_rfl) q1w
      refine o_buildSlice (vs := [.agg #[.int .i64 q0b.1, .int .i64 q0a.1]]) (cs := [.int .i64 q0b.1, .int .i64 q0a.1]) sl_107 zero_109 (parts_eq (pt (va := .agg #[.int .i64 q0b.1, .int .i64 q0a.1]) q1w pt0)) rfl (by intro v hv; simp only [List.mem_cons, List.not_mem_nil, or_false] at hv; first | (subst hv; rfl) | (rcases hv with rfl <;> rfl)) (by decide) rfl hS (fun b92 w' hS => ?_)
      refine x_done <| ?_
      refine x_fin ⟨⟨_, rfl⟩, rfl, ?_⟩
      exact Eq.mp (by kernel_rfl) hS
     ·intro Ep12 w l' hE12 hO12 hF_ hS
      obtain ⟨q1x, q1g, -⟩ := hF_
      replace q1x : Ep12 82 = .slice q7 q6.length c_sites13_L11h := Eq.mp (by kernel_rfl) q1x
      replace q1g : Ep12 92 = .slice (some ⟨(blkOf (Ep12 92)), 0, none⟩) 1 1 := Eq.mp (by kernel_rfl) q1g
      replace hS : St w0 w (cells (blkOf (Ep12 92)) 109 [.int .i64 q0b.1, .int .i64 q0a.1] :: ro ρ :: vec 109 R_floor_Site.sz (.slice q7 q6.length c_sites13_L11h) q6.length q8 :: l') := Eq.mp (by kernel_rfl) hS
      refine o_ap sl_107 zero_109 rfl (by decide) q1x q1g (hS.pull 2) q0z (src_blk usl_107 hS rfl rfl) (RepL.cons (R := R_floor_Site) (ρ := ρ) (x := (T_floor_Site.mk q0b.1 q0a.1)) (cs := [.int .i64 q0b.1, .int .i64 q0a.1]) rfl RepL.nil) q31 q32 (fun A93 c93 cs93 w' hr93 hS => ?_)
      refine x_done <| ?_
      refine x_fin ⟨⟨_, rfl⟩, rfl, ?_⟩
      replace hS := St.bun (Φ := (fun (cs93 : List Value) => RepL R_floor_Site ρ q9 cs93)) (L := (fun (cs93 : List Value) => [vec 109 R_floor_Site.sz (.slice A93 q9.length c93) q9.length cs93])) cs93 hr93 hS
      exact Eq.mp (by kernel_rfl) ((hS.pull 2).pull 2)
     ·intro Ep12 w l' hE12 hO12 hF_ hS
      obtain ⟨q1h, -⟩ := hF_
      replace q1h : Ep12 93 = .slice (adOf (Ep12 93)) q9.length (capOf (Ep12 93)) := Eq.mp (by kernel_rfl) q1h
      refine p (yl_assign q1h) <| x_done <| ?_
      refine x_fin ⟨⟨_, rfl⟩, rfl, ?_⟩
      exact Eq.mp (by kernel_rfl) hS
    intro Ep12 w' hE12 hF_ hS
    obtain ⟨q1x, q1p, q1o, q1q, q1u, q1s, q1r, q1t, q1v, q1w, q1g, q1h, q26, -⟩ := hF_
    replace q1x : Ep12 82 = .slice q7 q6.length c_sites13_L11h := Eq.mp (by kernel_rfl) q1x
    replace q1p : Ep12 83 = .pointer (some ⟨b18, 0, none⟩) := Eq.mp (by kernel_rfl) q1p
    replace q1o : Ep12 84 = .pointer (some ⟨b12, 0, none⟩) := Eq.mp (by kernel_rfl) q1o
    replace q1q : Ep12 85 = .int .i64 q2.1.Rows := Eq.mp (by kernel_rfl) q1q
    replace q1u : Ep12 86 = .int .i64 q0b.1 := Eq.mp (by kernel_rfl) q1u
    replace q1s : Ep12 87 = .pointer (some ⟨b18, 0, none⟩) := Eq.mp (by kernel_rfl) q1s
    replace q1r : Ep12 88 = .pointer (some ⟨b12, 1, none⟩) := Eq.mp (by kernel_rfl) q1r
    replace q1t : Ep12 89 = .int .i64 q2.1.Sites := Eq.mp (by kernel_rfl) q1t
    replace q1v : Ep12 90 = .int .i64 q0a.1 := Eq.mp (by kernel_rfl) q1v
    replace q1w : Ep12 91 = .agg #[.int .i64 q0b.1, .int .i64 q0a.1] := Eq.mp (by kernel_rfl) q1w
    replace q1g : Ep12 92 = .slice (some ⟨(blkOf (Ep12 92)), 0, none⟩) 1 1 := Eq.mp (by kernel_rfl) q1g
    replace q1h : Ep12 93 = .slice (adOf (Ep12 93)) q9.length (capOf (Ep12 93)) := Eq.mp (by kernel_rfl) q1h
    replace q26 : Ep12 13 = .slice (adOf (Ep12 93)) q9.length (capOf (Ep12 93)) := Eq.mp (by kernel_rfl) q26
    replace hS : St w0 w' (cells b12 105 [.int .i64 q2.1.Rows, .int .i64 q2.1.Sites, .int .i64 q2.1.Layers, .slice q3 q2.1.Blocks.length c_y0_ret_3_8_1, .slice q4 q2.1.Walls.length c_y0_ret_4_8_1, .slice q5 q2.1.Ports.length c_y0_ret_5_8_1] :: ro ρ :: cells b18 25 [.slice q0j l_0.length c_l_0, .int .i64 q0a.2] :: cells (blkOf (Ep12 92)) 109 [.int .i64 q0b.1, .int .i64 q0a.1] :: bunA (fun (cs93 : List Value) => RepL R_floor_Site ρ q9 cs93) (fun (cs93 : List Value) => [vec 109 R_floor_Site.sz (.slice (adOf (Ep12 93)) q9.length (capOf (Ep12 93))) q9.length cs93]) :: (vec 120 R_floor_Block.sz (.slice q3 q2.1.Blocks.length c_y0_ret_3_8_1) q2.1.Blocks.length q0m :: vec 123 R_floor_Wall.sz (.slice q4 q2.1.Walls.length c_y0_ret_4_8_1) q2.1.Walls.length q0n :: vec 117 R_floor_Port.sz (.slice q5 q2.1.Ports.length c_y0_ret_5_8_1) q2.1.Ports.length q0o :: l)) := Eq.mp (by kernel_rfl) hS
    have q_ := St.unbun (hS.pull 4); obtain ⟨cs93, hr93, hS⟩ := q_
    replace hFL11 := ar_s hFL11; obtain ⟨x94, hx94, hFL11⟩ := hFL11
    refine x_blk <| x_region <| p (yadd ((hE12 80 rfl).trans q25) rfl hx94) <| p (yl_move rfl) <|
     x_done <| ?_
    have e_ := Option.some.inj (show some _ = some _ from hFL11); subst e_
    exact x_inv ⟨kL11, Nat.lt_succ_self _, (adOf (Ep12 93)), q9.length, (capOf (Ep12 93)), cs93, q9, x94, q0a.2, hLL11, ((hE12 3 rfl).trans q20), ((hE12 12 rfl).trans q1k), q26, ((hE12 79 rfl).trans q24), rfl, hr93, ((((((((hS.pull 4).drop.pull 2).pull 6).pull 6).pull 6).pull 4).pull 5).pull 6)⟩
   ·replace hFL11 := it_f hc81 hFL11
    refine x_exitTo _ rfl <| ?_
    have e_ := Option.some.inj (show some _ = some _ from hFL11); subst e_
    exact x_inv ⟨q7, q6.length, c_sites13_L11h, q8, q6, hLL11, q1k, q23, q0z, ((((((hS.drop.pull 5).pull 5).pull 5).pull 5).pull 5).pull 5)⟩
  rintro E w ⟨q0k, q0l, c_sites13_L11, q0y, q10, rfl, q1i, q27, q11, hS⟩
  have e_ := St.vec_n (hS.pull 1) q11; subst e_
  replace hF := bd_s hF; obtain ⟨q28, q3e, hF⟩ := hF
  refine x_seq <| x_region <| pa (v := .agg #[.int .i64 q2.1.Rows, .int .i64 q2.1.Sites, .int .i64 q2.1.Layers, .slice q3 q2.1.Blocks.length c_y0_ret_3_8_1, .slice q4 q2.1.Walls.length c_y0_ret_4_8_1, .slice q5 q2.1.Ports.length c_y0_ret_5_8_1]) (ld_sub agg_105 q1i rfl rfl hS) <| p (yl_move q27) <| ?_
  have q_ := St.lend ((hS.pull 5).pull 3) q0f; obtain ⟨ρl0, hll0, hlf0, hS0, back0⟩ := q_
  have q_ := St.lend (hS0.pull 3) (q0g.le hll0); obtain ⟨ρl1, hll1, hlf1, hS1, back1⟩ := q_
  have q_ := St.lend (hS1.pull 3) (q0h.le (hll0.trans hll1)); obtain ⟨ρl2, hll2, hlf2, hS2, back2⟩ := q_
  have q_ := St.lend (hS2.pull 2) (q11.le ((hll0.trans hll1).trans hll2)); obtain ⟨ρl3, hll3, hlf3, hS3, back3⟩ := q_
  have hcall := c_layfmt_Floor q3e (hlf0.le ((hll1.trans hll2).trans hll3)) (hlf1.le (hll2.trans hll3)) (hlf2.le hll3) hlf3 hS3
  refine o_cc call_40 (args2 rfl rfl) ((Calls.mono hcall (fun e w'' h => And.intro h.1 (((((((back0 ((back1 ((back2 ((back3 h.2).pull 1)).pull 1)).pull 1)).pull 1).pull 3).pull 3).pull 3).pull 4).pull 5)))) ?_
  rintro e w' ⟨rfl, hS⟩
  refine ⟨_, rfl, ?_⟩
  refine p (v := .tuple #[.string q28.1, .int .i64 q28.2]) (yl_move rfl) <| p (yl_extract rfl rfl) <| p (yl_extract rfl rfl) <| p (yl_assign rfl) <|
   p (yl_assign rfl) <| x_done <| x_seq <| x_seq <|
   x_region <| p (yl_move rfl) <| p (yl_neq rfl rfl) <| x_done <|
   x_cond_p (q28.2 ≠ 0) rfl (fun hc102 => ?_) (fun hc102 => ?_)
  ·replace hF := it_t hc102 hF
   replace hF := bd_s hF; obtain ⟨q3s, q3f, hF⟩ := hF
   refine x_seq <| x_region <| p (yl_move rfl) <| pa (v := .agg #[.int .i64 q2.1.Rows, .int .i64 q2.1.Sites, .int .i64 q2.1.Layers, .slice q3 q2.1.Blocks.length c_y0_ret_3_8_1, .slice q4 q2.1.Walls.length c_y0_ret_4_8_1, .slice q5 q2.1.Ports.length c_y0_ret_5_8_1]) (ld_sub agg_105 q1i rfl rfl hS) <| ?_
   have q_ := St.lend ((hS.pull 5).pull 3) q0f; obtain ⟨ρl0, hll0, hlf0, hS0, back0⟩ := q_
   have q_ := St.lend (hS0.pull 3) (q0g.le hll0); obtain ⟨ρl1, hll1, hlf1, hS1, back1⟩ := q_
   have q_ := St.lend (hS1.pull 3) (q0h.le (hll0.trans hll1)); obtain ⟨ρl2, hll2, hlf2, hS2, back2⟩ := q_
   have hcall := c_floor_Check q3f (hlf0.le (hll1.trans hll2)) (hlf1.le hll2) hlf2 hS2
   refine o_cc call_41 (args1 rfl) ((Calls.mono hcall (fun e w'' h => And.intro h.1 (((((((back0 ((back1 ((back2 h.2).pull 1)).pull 1)).pull 1).pull 3).pull 3).pull 3).pull 5).pull 5)))) ?_
   rintro e w' ⟨rfl, hS⟩
   refine ⟨_, rfl, ?_⟩
   refine p (yl_eql rfl rfl) <| p (yl_assign rfl) <| x_done <| ?_
   have e_ := Option.some.inj (show some _ = some _ from hF); subst e_
   exact x_return ⟨_, ⟨_, _, rfl, rfl, rfl⟩, rfl, hS.drop.drop.drop.drop.drop⟩
  ·replace hF := it_f hc102 hF
   replace hF := bd_s hF; obtain ⟨q0e, q3g, hF⟩ := hF
   refine x_skip <| x_seq <| x_region <| p (yl_move rfl) <| ?_
   have hcall := c_layfmt_ReadFloor q3g  (hS.pull 5)
   refine o_cc call_42 (args1 rfl) hcall ?_
   rintro e w' ⟨q12, q2n, c_y0_ret_3_17_1, q29, q13, q2o, c_y0_ret_4_17_1, q2a, q14, q2p, c_y0_ret_5_17_1, q2b, q21, q37, c_y1_ret_17_1, q33, rfl, q15, q16, q17, q1l, hS⟩
   refine ⟨_, rfl, ?_⟩
   have e_ := St.vec_n hS q15; subst e_
   have e_ := St.vec_n (hS.pull 1) q16; subst e_
   have e_ := St.vec_n (hS.pull 2) q17; subst e_
   have e_ := St.vec_n (hS.pull 3) q1l; subst e_
   refine p (yl_move rfl) <| p (yl_extract rfl rfl) <| p (yl_extract rfl rfl) <| p (yl_extract rfl rfl) <|
    p (yl_extract rfl rfl) <| ?_
   refine o_alloc zero_105 hS (fun b14 w' hS => ?_)
   refine o_storeAgg (news := [.int .i64 q0e.1.Rows, .int .i64 q0e.1.Sites, .int .i64 q0e.1.Layers, .slice q12 q0e.1.Blocks.length c_y0_ret_3_17_1, .slice q13 q0e.1.Walls.length c_y0_ret_4_17_1, .slice q14 q0e.1.Ports.length c_y0_ret_5_17_1]) agg_105 rfl rfl rfl (by simp [over_length]) hS (fun w' hS => ?_)
   replace hF := lv_s hF; obtain ⟨x119, hx119, hF⟩ := hF
   replace hF := bd_s hF; obtain ⟨q3r, q3h, hF⟩ := hF
   refine p (yl_assign rfl) <| p (yl_assign rfl) <| p (yl_assign rfl) <| x_done <|
    x_seq <| x_region <| p (yl_move rfl) <| p (yl_eql rfl rfl) <|
    p (yl_move rfl) <| pg (v := .int .i64 q0e.2.2.1) 116 (c := decide (q0e.2.2.2 = 0)) (says_t _) (fun hq => Yl.at (yl_move rfl)) <| pg (v := .bool (decide (q0e.2.2.1 = 0))) 116 (c := decide (q0e.2.2.2 = 0)) (says_t _) (fun hq => Yl.at (yl_eql (cv hq) rfl)) <| p (yand' rfl (fun hc => (cv hc)) rfl hx119) <|
    p (yl_move rfl) <| pg (v := .slice q21 q0e.2.1.length c_y1_ret_17_1) 120 (c := x119) (says_t _) (fun hq => Yl.at (yl_move rfl)) <| pg (v := .slice q0k q10.length c_sites13_L11) 120 (c := x119) (says_t _) (fun hq => Yl.at (yl_move q27)) <|
    pccg (v := .bool q3r) 120 (c := x119) (says_t _) call_43 (fun hq => (args2 (cv hq) (cv hq))) hS (fun hq => by
     have q_ := St.lend ((hS.pull 5).pull 5) q1l; obtain ⟨ρl0, hll0, hlf0, hS0, back0⟩ := q_
     have q_ := St.lend (hS0.pull 6) (q11.le hll0); obtain ⟨ρl1, hll1, hlf1, hS1, back1⟩ := q_
     have hcall := c_slices_Equal_floor_Site_floor_Site (gd_t q3h hq) (hlf0.le hll1) hlf1 hS1
     exact (Calls.mono hcall (fun e w'' h => And.intro h.1 ((((((((((((back0 ((back1 h.2).pull 1)).pull 10).pull 10).pull 10).pull 5).pull 10).pull 6).pull 6).pull 10).pull 10).pull 10).pull 10)))) (fun w' hS => ?_)
   replace hF := lv_s hF; obtain ⟨x124, hx124, hF⟩ := hF
   replace hF := bd_s hF; obtain ⟨q3i, q34, hF⟩ := hF
   refine p (yand' rfl (fun hc => (cv hc)) rfl hx124) <| p (yl_move rfl) <| pg (v := .pointer (some ⟨b14, 5, none⟩)) 125 (c := x124) (says_t _) (fun hq => Yl.at (yl_field0 fld_105_5 rfl)) <| pg (v := .slice q14 q0e.1.Ports.length c_y0_ret_5_17_1) 125 (c := x124) (says_t _) (fun hq => at_load one_103 (cv hq) (hS.cell rfl)) <|
    pg (v := .pointer (some ⟨b12, 5, none⟩)) 125 (c := x124) (says_t _) (fun hq => Yl.at (yl_field0 fld_105_5 q1i)) <| pg (v := .slice q5 q2.1.Ports.length c_y0_ret_5_8_1) 125 (c := x124) (says_t _) (fun hq => at_load one_103 (cv hq) ((hS.pull 6).cell rfl)) <|
    pccg (v := .bool q3i) 125 (c := x124) (says_t _) call_44 (fun hq => (args2 (cv hq) (cv hq))) hS (fun hq => by
     have q_ := St.lend ((hS.pull 5).pull 4) q17; obtain ⟨ρl0, hll0, hlf0, hS0, back0⟩ := q_
     have q_ := St.lend (hS0.pull 9) (q0h.le hll0); obtain ⟨ρl1, hll1, hlf1, hS1, back1⟩ := q_
     have hcall := c_slices_Equal_floor_Port_floor_Port (gd_t q34 hq) (hlf0.le hll1) hlf1 hS1
     exact (Calls.mono hcall (fun e w'' h => And.intro h.1 ((((((((((((back0 ((back1 h.2).pull 1)).pull 2).pull 10).pull 10).pull 10).pull 10).pull 6).pull 10).pull 7).pull 10).pull 10).pull 10)))) (fun w' hS => ?_)
   replace hF := lv_s hF; obtain ⟨x131, hx131, hF⟩ := hF
   replace hF := bd_s hF; obtain ⟨q3j, q35, hF⟩ := hF
   refine p (yand' rfl (fun hc => (cv hc)) rfl hx131) <| p (yl_move rfl) <| pg (v := .pointer (some ⟨b14, 3, none⟩)) 132 (c := x131) (says_t _) (fun hq => Yl.at (yl_field0 fld_105_3 rfl)) <| pg (v := .slice q12 q0e.1.Blocks.length c_y0_ret_3_17_1) 132 (c := x131) (says_t _) (fun hq => at_load one_102 (cv hq) (hS.cell rfl)) <|
    pg (v := .pointer (some ⟨b12, 3, none⟩)) 132 (c := x131) (says_t _) (fun hq => Yl.at (yl_field0 fld_105_3 q1i)) <| pg (v := .slice q3 q2.1.Blocks.length c_y0_ret_3_8_1) 132 (c := x131) (says_t _) (fun hq => at_load one_102 (cv hq) ((hS.pull 6).cell rfl)) <|
    pccg (v := .bool q3j) 132 (c := x131) (says_t _) call_45 (fun hq => (args2 (cv hq) (cv hq))) hS (fun hq => by
     have q_ := St.lend ((hS.pull 5).pull 2) q15; obtain ⟨ρl0, hll0, hlf0, hS0, back0⟩ := q_
     have q_ := St.lend (hS0.pull 7) (q0f.le hll0); obtain ⟨ρl1, hll1, hlf1, hS1, back1⟩ := q_
     have hcall := c_slices_Equal_floor_Block_floor_Block (gd_t q35 hq) (hlf0.le hll1) hlf1 hS1
     exact (Calls.mono hcall (fun e w'' h => And.intro h.1 ((((((((((((back0 ((back1 h.2).pull 1)).pull 10).pull 10).pull 4).pull 10).pull 10).pull 6).pull 10).pull 10).pull 10).pull 9).pull 10)))) (fun w' hS => ?_)
   replace hF := lv_s hF; obtain ⟨x138, hx138, hF⟩ := hF
   replace hF := bd_s hF; obtain ⟨q3k, q36, hF⟩ := hF
   refine p (yand' rfl (fun hc => (cv hc)) rfl hx138) <| p (yl_move rfl) <| pg (v := .pointer (some ⟨b14, 4, none⟩)) 139 (c := x138) (says_t _) (fun hq => Yl.at (yl_field0 fld_105_4 rfl)) <| pg (v := .slice q13 q0e.1.Walls.length c_y0_ret_4_17_1) 139 (c := x138) (says_t _) (fun hq => at_load one_89 (cv hq) (hS.cell rfl)) <|
    pg (v := .pointer (some ⟨b12, 4, none⟩)) 139 (c := x138) (says_t _) (fun hq => Yl.at (yl_field0 fld_105_4 q1i)) <| pg (v := .slice q4 q2.1.Walls.length c_y0_ret_4_8_1) 139 (c := x138) (says_t _) (fun hq => at_load one_89 (cv hq) ((hS.pull 6).cell rfl)) <|
    pccg (v := .bool q3k) 139 (c := x138) (says_t _) call_46 (fun hq => (args2 (cv hq) (cv hq))) hS (fun hq => by
     have q_ := St.lend ((hS.pull 5).pull 3) q16; obtain ⟨ρl0, hll0, hlf0, hS0, back0⟩ := q_
     have q_ := St.lend (hS0.pull 8) (q0g.le hll0); obtain ⟨ρl1, hll1, hlf1, hS1, back1⟩ := q_
     have hcall := c_slices_Equal_floor_Wall_floor_Wall (gd_t q36 hq) (hlf0.le hll1) hlf1 hS1
     exact (Calls.mono hcall (fun e w'' h => And.intro h.1 ((((((((((((back0 ((back1 h.2).pull 1)).pull 10).pull 3).pull 10).pull 10).pull 10).pull 6).pull 10).pull 10).pull 8).pull 10).pull 10)))) (fun w' hS => ?_)
   replace hF := lv_s hF; obtain ⟨x145, hx145, hF⟩ := hF
   refine p (yand' rfl (fun hc => (cv hc)) rfl hx145) <| p (yl_assign rfl) <| x_done <| ?_
   have e_ := Option.some.inj (show some _ = some _ from hF); subst e_
   exact x_return ⟨_, ⟨_, _, rfl, rfl, rfl⟩, rfl, ((((((hS.drop.drop.drop.drop.drop.pull 1).drop.pull 1).drop.pull 1).drop.pull 1).drop.pull 1).drop)⟩
attribute [irreducible] P_maskkeep4_LayfmtBack


end Go.Proofs.YtlolchgeedegdaaDoor.X
