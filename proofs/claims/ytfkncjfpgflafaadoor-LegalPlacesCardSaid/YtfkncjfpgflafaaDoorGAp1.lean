/- Printed by gen.py: plain functions, and that the Go code computes them. -/
import Derived.Test.YtfkncjfpgflafaaDoorXI
import Derived.Test.YtfkncjfpgflafaaDoorXT
import Derived.Test.YtfkncjfpgflafaaDoorGAp0
namespace Go.Proofs.YtfkncjfpgflafaaDoor.X
set_option maxHeartbeats 4000000
set_option maxRecDepth 100000
open Go Go.RowKit
set_option linter.unusedVariables false
set_option linter.unusedSimpArgs false

def P_slices_swapRangeCmpFunc_int_2_L1 (a1 : Int) (b2 : Int) (n3 : Int) : (List Int × Int) → Option ((List Int × Int) ⊕ List Int) := fun (q2, q3) =>
 if q3 < n3 then
  ar (a1 + q3) fun x19 =>
  ar (b2 + q3) fun x23 =>
  ar (b2 + q3) fun x27 =>
  ck (inb x27 q2.length) <|
  lv (gt q2 x27) fun x29 =>
  ar (a1 + q3) fun x33 =>
  ck (inb x33 q2.length) <|
  lv (gt q2 x33) fun x35 =>
  ck (inb x19 q2.length) <|
  lv (stt q2 x19 x29) fun q4 =>
  ck (inb x23 q4.length) <|
  lv (stt q4 x23 x35) fun q5 =>
  ar (q3 + 1) fun x15 =>
  some (Sum.inl (q5, x15))
 else
  some (Sum.inr q2)
def P_slices_swapRangeCmpFunc_int_2 (data0 : List Int) (a1 : Int) (b2 : Int) (n3 : Int) (q3 : List T_floor_Point) : Option (List Int) :=
 bd (
  lp (P_slices_swapRangeCmpFunc_int_2_L1 a1 b2 n3) fuel (data0, 0)) fun q2 =>
 some q2
theorem c_slices_swapRangeCmpFunc_int_2 {w0 w : World} {l : List Assn} {ρ : Heap} {q2 : Option Addr} {q0g : Nat} {c_data0 : Nat} {q0w : List Value} {q0a : Nat} {q8 : Option Addr} {q0i : Nat} {c_cmp4_0_0 : Nat} {data0 : List Int} {a1 : Int} {b2 : Int} {n3 : Int} {q0c : List T_floor_Point} {r : List Int} (hF : P_slices_swapRangeCmpFunc_int_2 data0 a1 b2 n3 q0c = some r) (q1d : RepL (RpI .i64) ρ data0 q0w) (q1e : RdS R_floor_Point ρ q8 q0i c_cmp4_0_0 q0c) (hS : St w0 w (vec 3 (RpI .i64).sz (.slice q2 q0g c_data0) q0g q0w :: cells q0a 32 [.slice q8 q0i c_cmp4_0_0] :: ro ρ :: l)) :
  Calls Tryd.prog 83 #[.slice q2 q0g c_data0, .int .i64 a1, .int .i64 b2, .int .i64 n3, .func (.func 44) #[] #[.pointer (some ⟨q0a, 0, none⟩)]] w fun e w' => ∃ (q0d : List Value), e = .returned (.tuple #[]) ∧ RepL (RpI .i64) ρ r q0d ∧ St w0 w' (cells q0a 32 [.slice q8 q0i c_cmp4_0_0] :: vec 3 (RpI .i64).sz (.slice q2 q0g c_data0) q0g q0d :: ro ρ :: l) := by
 have e_ := St.vec_n hS q1d; subst e_
 have e_ := q1e.n; subst e_
 refine enterC Tryd.func83 rfl 38 rfl (by simp) ?_
 refine x_seq <| x_region <| p (yl_assign rfl) <| x_done <| ?_
 replace hF := bd_s hF; obtain ⟨oL1, hLL1, hF⟩ := hF
 refine x_join (fun E w => ∃ (q9 : List Value) (q0f : List Int), q0f = oL1 ∧ RepL (RpI .i64) ρ q0f q9 ∧ St w0 w (cells q0a 32 [.slice q8 q0c.length c_cmp4_0_0] :: vec 3 (RpI .i64).sz (.slice q2 data0.length c_data0) data0.length q9 :: ro ρ :: l)) ?_ ?_
 ·refine x_block ?_
  refine x_loop (fun k_ E w => ∃ (q4 : List Value) (q0e : List Int) (q5 : Int), lp (P_slices_swapRangeCmpFunc_int_2_L1 a1 b2 n3) k_ (q0e, q5) = some oL1 ∧ E 0 = .slice q2 data0.length c_data0 ∧ E 1 = .int .i64 a1 ∧ E 2 = .int .i64 b2 ∧ E 3 = .int .i64 n3 ∧ E 10 = .int .i64 q5 ∧ RepL (RpI .i64) ρ q0e q4 ∧ St w0 w (vec 3 (RpI .i64).sz (.slice q2 data0.length c_data0) data0.length q4 :: cells q0a 32 [.slice q8 q0c.length c_cmp4_0_0] :: ro ρ :: l)) fuel ⟨q0w, data0, 0, hLL1, rfl, rfl, rfl, rfl, rfl, q1d, (((hS.pull 2).pull 2).pull 2)⟩ ?_
  rintro kL1 E w ⟨q4, q0e, q5, hLL1, q0j, q1a, q1b, q1f, q0b, q7, hS⟩
  replace hLL1 := lp_s hLL1; obtain ⟨kL1, obL1, rfl, hFL1, hLL1⟩ := hLL1
  refine x_seq <| x_seq <| x_region <| p (yl_move q0b) <|
   p (yl_move q1f) <| p (yl_lss rfl rfl) <| x_done <|
   x_cond_p (q5 < n3) rfl (fun hc13 => ?_) (fun hc13 => ?_)
  ·replace hFL1 := it_t hc13 hFL1
   refine x_skip <| x_seq <| x_block <| ?_
   replace hFL1 := ar_s hFL1; obtain ⟨x19, hx19, hFL1⟩ := hFL1
   replace hFL1 := ar_s hFL1; obtain ⟨x23, hx23, hFL1⟩ := hFL1
   replace hFL1 := ar_s hFL1; obtain ⟨x27, hx27, hFL1⟩ := hFL1
   replace hFL1 := ck_s hFL1; obtain ⟨q1g, hFL1⟩ := hFL1
   replace hFL1 := lv_s hFL1; obtain ⟨x29, hx29, hFL1⟩ := hFL1
   replace hFL1 := ar_s hFL1; obtain ⟨x33, hx33, hFL1⟩ := hFL1
   replace hFL1 := ck_s hFL1; obtain ⟨q1h, hFL1⟩ := hFL1
   replace hFL1 := lv_s hFL1; obtain ⟨x35, hx35, hFL1⟩ := hFL1
   replace hFL1 := ck_s hFL1; obtain ⟨q1i, hFL1⟩ := hFL1
   replace hFL1 := lv_s hFL1; obtain ⟨q0x, q1k, hFL1⟩ := hFL1
   replace hFL1 := ck_s hFL1; obtain ⟨q1j, hFL1⟩ := hFL1
   replace hFL1 := lv_s hFL1; obtain ⟨q19, q1l, hFL1⟩ := hFL1
   refine x_par (w0 := w0) [⟨[], [], [16], [], [], []⟩, ⟨[], [], [17], [], [], []⟩, ⟨[], [], [18], [], [], []⟩, ⟨[1, 2], [1, 2], [19], [], [], []⟩, ⟨[], [], [20], [], [], []⟩, ⟨[], [], [21], [], [], []⟩, ⟨[], [], [22], [], [], []⟩, ⟨[5, 6], [5, 6], [23], [], [], []⟩, ⟨[], [], [24], [], [], []⟩, ⟨[], [], [25], [], [], []⟩, ⟨[], [], [26], [], [], []⟩, ⟨[9, 10], [9, 10], [27], [], [], []⟩, ⟨[8, 9, 10, 11], [8, 11], [28], [0], [], []⟩, ⟨[8, 9, 10, 11, 12], [12], [29], [0], [], []⟩, ⟨[], [], [30], [], [], []⟩, ⟨[], [], [31], [], [], []⟩, ⟨[], [], [32], [], [], []⟩, ⟨[15, 16], [15, 16], [33], [], [], []⟩, ⟨[14, 15, 16, 17], [14, 17], [34], [0], [], []⟩, ⟨[14, 15, 16, 17, 18], [18], [35], [0], [], []⟩, ⟨[0, 1, 2, 3, 8, 9, 10, 11, 12, 13, 14, 15, 16, 17, 18, 19], [0, 3], [36], [0], [], []⟩, ⟨[0, 1, 2, 3, 8, 9, 10, 11, 12, 13, 14, 15, 16, 17, 18, 19, 20], [13, 20], [], [], [0], [1]⟩, ⟨[0, 1, 2, 3, 4, 5, 6, 7, 8, 9, 10, 11, 12, 13, 14, 15, 16, 17, 18, 19, 20, 21], [4, 7], [37], [2, 1], [], []⟩, ⟨[0, 1, 2, 3, 4, 5, 6, 7, 8, 9, 10, 11, 12, 13, 14, 15, 16, 17, 18, 19, 20, 21, 22], [19, 22], [], [2], [1], [3]⟩] [⟨none, (some 21), []⟩, ⟨(some 21), (some 23), []⟩, ⟨none, none, []⟩, ⟨(some 23), none, []⟩] [16, 17, 18, 19, 20, 21, 22, 23, 24, 25, 26, 27, 28, 29, 30, 31, 32, 33, 34, 35, 36, 37] [0, 2] [2, 3] [0, 1, 2, 3, 4, 5, 6, 7, 8, 9, 10, 11, 12, 13, 14, 15, 16, 17, 18, 19, 20, 22] [fun Ep3 => Ep3 16 = .slice q2 data0.length c_data0, fun Ep3 => Ep3 17 = .int .i64 a1, fun Ep3 => Ep3 18 = .int .i64 q5, fun Ep3 => Ep3 19 = .int .i64 x19, fun Ep3 => Ep3 20 = .slice q2 data0.length c_data0, fun Ep3 => Ep3 21 = .int .i64 b2, fun Ep3 => Ep3 22 = .int .i64 q5, fun Ep3 => Ep3 23 = .int .i64 x23, fun Ep3 => Ep3 24 = .slice q2 data0.length c_data0, fun Ep3 => Ep3 25 = .int .i64 b2, fun Ep3 => Ep3 26 = .int .i64 q5, fun Ep3 => Ep3 27 = .int .i64 x27, fun Ep3 => Ep3 28 = .pointer (some ((adr q2).add (x27.toNat * (RpI .i64).sz))), fun Ep3 => Ep3 29 = .int .i64 x29, fun Ep3 => Ep3 30 = .slice q2 data0.length c_data0, fun Ep3 => Ep3 31 = .int .i64 a1, fun Ep3 => Ep3 32 = .int .i64 q5, fun Ep3 => Ep3 33 = .int .i64 x33, fun Ep3 => Ep3 34 = .pointer (some ((adr q2).add (x33.toNat * (RpI .i64).sz))), fun Ep3 => Ep3 35 = .int .i64 x35, fun Ep3 => Ep3 36 = .pointer (some ((adr q2).add (x19.toNat * (RpI .i64).sz))), fun Ep3 => True, fun Ep3 => Ep3 37 = .pointer (some ((adr q2).add (x23.toNat * (RpI .i64).sz))), fun Ep3 => True] [fun Ep3 => vec 3 (RpI .i64).sz (.slice q2 data0.length c_data0) data0.length q4, fun Ep3 => bunA (fun (q3 : List Value) => RepL (RpI .i64) ρ q0x q3) (fun (q3 : List Value) => [vec 3 (RpI .i64).sz (.slice q2 data0.length c_data0) data0.length q3]), fun Ep3 => ro ρ, fun Ep3 => bunA (fun (q6 : List Value) => RepL (RpI .i64) ρ q19 q6) (fun (q6 : List Value) => [vec 3 (RpI .i64).sz (.slice q2 data0.length c_data0) data0.length q6])] mixed (by kernel_rfl) ((hS.pull 2).pull 1) ?_ ?_
   ·refine ⟨?_, ?_, ?_, ?_, ?_, ?_, ?_, ?_, ?_, ?_, ?_, ?_, ?_, ?_, ?_, ?_, ?_, ?_, ?_, ?_, ?_, ?_, ?_, ?_, trivial⟩
    ·intro Ep3 w l' hE3 hO3 hF_ hS
     refine p (yl_move ((hE3 0 rfl).trans q0j)) <| x_done <| ?_
     refine x_fin ⟨⟨_, rfl⟩, rfl, ?_⟩
     exact emk hS
    ·intro Ep3 w l' hE3 hO3 hF_ hS
     refine p (yl_move ((hE3 1 rfl).trans q1a)) <| x_done <| ?_
     refine x_fin ⟨⟨_, rfl⟩, rfl, ?_⟩
     exact emk hS
    ·intro Ep3 w l' hE3 hO3 hF_ hS
     refine p (yl_move ((hE3 10 rfl).trans q0b)) <| x_done <| ?_
     refine x_fin ⟨⟨_, rfl⟩, rfl, ?_⟩
     exact emk hS
    ·intro Ep3 w l' hE3 hO3 hF_ hS
     obtain ⟨q0y, q0z, -⟩ := hF_
     replace q0y : Ep3 17 = .int .i64 a1 := emk q0y
     replace q0z : Ep3 18 = .int .i64 q5 := emk q0z
     refine p (yadd q0y q0z hx19) <| x_done <| ?_
     refine x_fin ⟨⟨_, rfl⟩, rfl, ?_⟩
     exact emk hS
    ·intro Ep3 w l' hE3 hO3 hF_ hS
     refine p (yl_move ((hE3 0 rfl).trans q0j)) <| x_done <| ?_
     refine x_fin ⟨⟨_, rfl⟩, rfl, ?_⟩
     exact emk hS
    ·intro Ep3 w l' hE3 hO3 hF_ hS
     refine p (yl_move ((hE3 2 rfl).trans q1b)) <| x_done <| ?_
     refine x_fin ⟨⟨_, rfl⟩, rfl, ?_⟩
     exact emk hS
    ·intro Ep3 w l' hE3 hO3 hF_ hS
     refine p (yl_move ((hE3 10 rfl).trans q0b)) <| x_done <| ?_
     refine x_fin ⟨⟨_, rfl⟩, rfl, ?_⟩
     exact emk hS
    ·intro Ep3 w l' hE3 hO3 hF_ hS
     obtain ⟨q10, q11, -⟩ := hF_
     replace q10 : Ep3 21 = .int .i64 b2 := emk q10
     replace q11 : Ep3 22 = .int .i64 q5 := emk q11
     refine p (yadd q10 q11 hx23) <| x_done <| ?_
     refine x_fin ⟨⟨_, rfl⟩, rfl, ?_⟩
     exact emk hS
    ·intro Ep3 w l' hE3 hO3 hF_ hS
     refine p (yl_move ((hE3 0 rfl).trans q0j)) <| x_done <| ?_
     refine x_fin ⟨⟨_, rfl⟩, rfl, ?_⟩
     exact emk hS
    ·intro Ep3 w l' hE3 hO3 hF_ hS
     refine p (yl_move ((hE3 2 rfl).trans q1b)) <| x_done <| ?_
     refine x_fin ⟨⟨_, rfl⟩, rfl, ?_⟩
     exact emk hS
    ·intro Ep3 w l' hE3 hO3 hF_ hS
     refine p (yl_move ((hE3 10 rfl).trans q0b)) <| x_done <| ?_
     refine x_fin ⟨⟨_, rfl⟩, rfl, ?_⟩
     exact emk hS
    ·intro Ep3 w l' hE3 hO3 hF_ hS
     obtain ⟨q12, q0k, -⟩ := hF_
     replace q12 : Ep3 25 = .int .i64 b2 := emk q12
     replace q0k : Ep3 26 = .int .i64 q5 := emk q0k
     refine p (yadd q12 q0k hx27) <| x_done <| ?_
     refine x_fin ⟨⟨_, rfl⟩, rfl, ?_⟩
     exact emk hS
    ·intro Ep3 w l' hE3 hO3 hF_ hS
     obtain ⟨q13, q0l, -⟩ := hF_
     replace q13 : Ep3 24 = .slice q2 data0.length c_data0 := emk q13
     replace q0l : Ep3 27 = .int .i64 x27 := emk q0l
     replace hS : St w0 w (vec 3 (RpI .i64).sz (.slice q2 data0.length c_data0) data0.length q4 :: l') := emk hS
     refine p (yix_o sl_22 q13 q0l hS q7 q1g) <| x_done <| ?_
     refine x_fin ⟨⟨_, rfl⟩, rfl, ?_⟩
     exact emk hS
    ·intro Ep3 w l' hE3 hO3 hF_ hS
     obtain ⟨q0m, -⟩ := hF_
     replace q0m : Ep3 28 = .pointer (some ((adr q2).add (x27.toNat * (RpI .i64).sz))) := emk q0m
     replace hS : St w0 w (vec 3 (RpI .i64).sz (.slice q2 data0.length c_data0) data0.length q4 :: l') := emk hS
     refine pa (at_load one_3 q0m (RepL.getW q7 hS q1g hx29)) <| x_done <| ?_
     refine x_fin ⟨⟨_, rfl⟩, rfl, ?_⟩
     exact emk hS
    ·intro Ep3 w l' hE3 hO3 hF_ hS
     refine p (yl_move ((hE3 0 rfl).trans q0j)) <| x_done <| ?_
     refine x_fin ⟨⟨_, rfl⟩, rfl, ?_⟩
     exact emk hS
    ·intro Ep3 w l' hE3 hO3 hF_ hS
     refine p (yl_move ((hE3 1 rfl).trans q1a)) <| x_done <| ?_
     refine x_fin ⟨⟨_, rfl⟩, rfl, ?_⟩
     exact emk hS
    ·intro Ep3 w l' hE3 hO3 hF_ hS
     refine p (yl_move ((hE3 10 rfl).trans q0b)) <| x_done <| ?_
     refine x_fin ⟨⟨_, rfl⟩, rfl, ?_⟩
     exact emk hS
    ·intro Ep3 w l' hE3 hO3 hF_ hS
     obtain ⟨q0n, q0o, -⟩ := hF_
     replace q0n : Ep3 31 = .int .i64 a1 := emk q0n
     replace q0o : Ep3 32 = .int .i64 q5 := emk q0o
     refine p (yadd q0n q0o hx33) <| x_done <| ?_
     refine x_fin ⟨⟨_, rfl⟩, rfl, ?_⟩
     exact emk hS
    ·intro Ep3 w l' hE3 hO3 hF_ hS
     obtain ⟨q0p, q0q, -⟩ := hF_
     replace q0p : Ep3 30 = .slice q2 data0.length c_data0 := emk q0p
     replace q0q : Ep3 33 = .int .i64 x33 := emk q0q
     replace hS : St w0 w (vec 3 (RpI .i64).sz (.slice q2 data0.length c_data0) data0.length q4 :: l') := emk hS
     refine p (yix_o sl_22 q0p q0q hS q7 q1h) <| x_done <| ?_
     refine x_fin ⟨⟨_, rfl⟩, rfl, ?_⟩
     exact emk hS
    ·intro Ep3 w l' hE3 hO3 hF_ hS
     obtain ⟨q0r, -⟩ := hF_
     replace q0r : Ep3 34 = .pointer (some ((adr q2).add (x33.toNat * (RpI .i64).sz))) := emk q0r
     replace hS : St w0 w (vec 3 (RpI .i64).sz (.slice q2 data0.length c_data0) data0.length q4 :: l') := emk hS
     refine pa (at_load one_3 q0r (RepL.getW q7 hS q1h hx35)) <| x_done <| ?_
     refine x_fin ⟨⟨_, rfl⟩, rfl, ?_⟩
     exact emk hS
    ·intro Ep3 w l' hE3 hO3 hF_ hS
     obtain ⟨q14, q15, -⟩ := hF_
     replace q14 : Ep3 16 = .slice q2 data0.length c_data0 := emk q14
     replace q15 : Ep3 19 = .int .i64 x19 := emk q15
     replace hS : St w0 w (vec 3 (RpI .i64).sz (.slice q2 data0.length c_data0) data0.length q4 :: l') := emk hS
     refine p (yix_o sl_22 q14 q15 hS q7 q1i) <| x_done <| ?_
     refine x_fin ⟨⟨_, rfl⟩, rfl, ?_⟩
     exact emk hS
    ·intro Ep3 w l' hE3 hO3 hF_ hS
     obtain ⟨q0s, q0t, -⟩ := hF_
     replace q0s : Ep3 29 = .int .i64 x29 := emk q0s
     replace q0t : Ep3 36 = .pointer (some ((adr q2).add (x19.toNat * (RpI .i64).sz))) := emk q0t
     replace hS : St w0 w (vec 3 (RpI .i64).sz (.slice q2 data0.length c_data0) data0.length q4 :: l') := emk hS
     refine o_put' (news := [.int .i64 x29]) sz_3 q0t q0s rfl rfl (o := 0) rfl q1i rfl hS q7 (Le.refl _) (fun c hc => ok_all hc (show (RpI .i64).ok ρ [.int .i64 x29] x29 from rfl)) q1k (fun q3 w' q0h hS => ?_)
     refine x_done <| ?_
     refine x_fin ⟨⟨undef, rfl⟩, trivial, ?_⟩
     replace hS := St.bun (Φ := (fun (q3 : List Value) => RepL (RpI .i64) ρ q0x q3)) (L := (fun (q3 : List Value) => [vec 3 (RpI .i64).sz (.slice q2 data0.length c_data0) data0.length q3])) q3 q0h hS
     exact emk hS
    ·intro Ep3 w l' hE3 hO3 hF_ hS
     obtain ⟨q16, q17, -⟩ := hF_
     replace q16 : Ep3 20 = .slice q2 data0.length c_data0 := emk q16
     replace q17 : Ep3 23 = .int .i64 x23 := emk q17
     replace hS : St w0 w (ro ρ :: bunA (fun (q3 : List Value) => RepL (RpI .i64) ρ q0x q3) (fun (q3 : List Value) => [vec 3 (RpI .i64).sz (.slice q2 data0.length c_data0) data0.length q3]) :: l') := emk hS
     have q_ := St.unbun (hS.pull 1); obtain ⟨q3, q0h, hS⟩ := q_
     refine p (yix_o sl_22 q16 q17 hS q0h q1j) <| x_done <| ?_
     refine x_fin ⟨⟨_, rfl⟩, rfl, ?_⟩
     replace hS := St.bun (Φ := (fun (q3 : List Value) => RepL (RpI .i64) ρ q0x q3)) (L := (fun (q3 : List Value) => [vec 3 (RpI .i64).sz (.slice q2 data0.length c_data0) data0.length q3])) q3 q0h hS
     exact emk (hS.pull 1)
    ·intro Ep3 w l' hE3 hO3 hF_ hS
     obtain ⟨q0u, q0v, -⟩ := hF_
     replace q0u : Ep3 35 = .int .i64 x35 := emk q0u
     replace q0v : Ep3 37 = .pointer (some ((adr q2).add (x23.toNat * (RpI .i64).sz))) := emk q0v
     replace hS : St w0 w (ro ρ :: bunA (fun (q3 : List Value) => RepL (RpI .i64) ρ q0x q3) (fun (q3 : List Value) => [vec 3 (RpI .i64).sz (.slice q2 data0.length c_data0) data0.length q3]) :: l') := emk hS
     have q_ := St.unbun (hS.pull 1); obtain ⟨q3, q0h, hS⟩ := q_
     refine o_put' (news := [.int .i64 x35]) sz_3 q0v q0u rfl rfl (o := 0) rfl q1j rfl hS q0h (Le.refl _) (fun c hc => ok_all hc (show (RpI .i64).ok ρ [.int .i64 x35] x35 from rfl)) q1l (fun q6 w' q1c hS => ?_)
     refine x_done <| ?_
     refine x_fin ⟨⟨undef, rfl⟩, trivial, ?_⟩
     replace hS := St.bun (Φ := (fun (q6 : List Value) => RepL (RpI .i64) ρ q19 q6)) (L := (fun (q6 : List Value) => [vec 3 (RpI .i64).sz (.slice q2 data0.length c_data0) data0.length q6])) q6 q1c hS
     exact emk (hS.pull 1)
   intro Ep3 w' hE3 hF_ hS
   obtain ⟨q14, q0y, q0z, q15, q16, q10, q11, q17, q13, q12, q0k, q0l, q0m, q0s, q0p, q0n, q0o, q0q, q0r, q0u, q0t, q0v, -⟩ := hF_
   replace q14 : Ep3 16 = .slice q2 data0.length c_data0 := emk q14
   replace q0y : Ep3 17 = .int .i64 a1 := emk q0y
   replace q0z : Ep3 18 = .int .i64 q5 := emk q0z
   replace q15 : Ep3 19 = .int .i64 x19 := emk q15
   replace q16 : Ep3 20 = .slice q2 data0.length c_data0 := emk q16
   replace q10 : Ep3 21 = .int .i64 b2 := emk q10
   replace q11 : Ep3 22 = .int .i64 q5 := emk q11
   replace q17 : Ep3 23 = .int .i64 x23 := emk q17
   replace q13 : Ep3 24 = .slice q2 data0.length c_data0 := emk q13
   replace q12 : Ep3 25 = .int .i64 b2 := emk q12
   replace q0k : Ep3 26 = .int .i64 q5 := emk q0k
   replace q0l : Ep3 27 = .int .i64 x27 := emk q0l
   replace q0m : Ep3 28 = .pointer (some ((adr q2).add (x27.toNat * (RpI .i64).sz))) := emk q0m
   replace q0s : Ep3 29 = .int .i64 x29 := emk q0s
   replace q0p : Ep3 30 = .slice q2 data0.length c_data0 := emk q0p
   replace q0n : Ep3 31 = .int .i64 a1 := emk q0n
   replace q0o : Ep3 32 = .int .i64 q5 := emk q0o
   replace q0q : Ep3 33 = .int .i64 x33 := emk q0q
   replace q0r : Ep3 34 = .pointer (some ((adr q2).add (x33.toNat * (RpI .i64).sz))) := emk q0r
   replace q0u : Ep3 35 = .int .i64 x35 := emk q0u
   replace q0t : Ep3 36 = .pointer (some ((adr q2).add (x19.toNat * (RpI .i64).sz))) := emk q0t
   replace q0v : Ep3 37 = .pointer (some ((adr q2).add (x23.toNat * (RpI .i64).sz))) := emk q0v
   replace hS : St w0 w' (ro ρ :: bunA (fun (q6 : List Value) => RepL (RpI .i64) ρ q19 q6) (fun (q6 : List Value) => [vec 3 (RpI .i64).sz (.slice q2 data0.length c_data0) data0.length q6]) :: (cells q0a 32 [.slice q8 q0c.length c_cmp4_0_0] :: l)) := emk hS
   have q_ := St.unbun (hS.pull 1); obtain ⟨q6, q1c, hS⟩ := q_
   replace hFL1 := ar_s hFL1; obtain ⟨x15, hx15, hFL1⟩ := hFL1
   refine x_blk <| x_region <| p (yl_move ((hE3 10 rfl).trans q0b)) <| p (yadd rfl rfl hx15) <|
    p (yl_assign rfl) <| x_done <| ?_
   have e_ := sinj hFL1; subst e_
   exact x_inv ⟨kL1, Nat.lt_succ_self _, q6, q19, x15, hLL1, ((hE3 0 rfl).trans q0j), ((hE3 1 rfl).trans q1a), ((hE3 2 rfl).trans q1b), ((hE3 3 rfl).trans q1f), rfl, q1c, (((hS.pull 1).pull 2).pull 2)⟩
  ·replace hFL1 := it_f hc13 hFL1
   refine x_exitTo _ rfl <| ?_
   have e_ := sinj hFL1; subst e_
   exact x_inv ⟨q4, q0e, hLL1, q7, (((hS.pull 2).pull 1).pull 2)⟩
 rintro E w ⟨q9, q0f, rfl, q18, hS⟩
 have e_ := sinj hF; subst e_
 exact x_fin ⟨_, rfl, q9, rfl, q18, (((hS.pull 2).pull 2).pull 2)⟩
attribute [irreducible] P_slices_swapRangeCmpFunc_int_2

def P_slices_rotateCmpFunc_int_2_L2 (m2 : Int) (q5 : List T_floor_Point) : (List Int × Int × Int) → Option ((List Int × Int × Int) ⊕ (List Int × Int)) := fun (q4, q2, q3) =>
 if q2 ≠ q3 then
  bd (
   if q3 < q2 then
    ar (m2 - q2) fun x27 =>
    bd (P_slices_swapRangeCmpFunc_int_2 q4 x27 m2 q3 q5) fun q0a =>
    ar (q2 - q3) fun x34 =>
    some (q0a, x34, q3)
   else
    ar (m2 - q2) fun x38 =>
    ar (m2 + q3) fun x41 =>
    ar (x41 - q2) fun x43 =>
    bd (P_slices_swapRangeCmpFunc_int_2 q4 x38 x43 q2 q5) fun q9 =>
    ar (q3 - q2) fun x49 =>
    some (q9, q2, x49)) fun (q6, q7, q8) =>
  some (Sum.inl (q6, q7, q8))
 else
  some (Sum.inr (q4, q2))
def P_slices_rotateCmpFunc_int_2 (data0 : List Int) (a1 : Int) (m2 : Int) (b3 : Int) (q2 : List T_floor_Point) : Option (List Int) :=
 ar (m2 - a1) fun x14 =>
 ar (b3 - m2) fun x17 =>
 bd (
  lp (P_slices_rotateCmpFunc_int_2_L2 m2 q2) fuel (data0, x14, x17)) fun (q4, q3) =>
 ar (m2 - q3) fun x53 =>
 bd (P_slices_swapRangeCmpFunc_int_2 q4 x53 m2 q3 q2) fun q5 =>
 some q5
theorem c_slices_rotateCmpFunc_int_2 {w0 w : World} {l : List Assn} {ρ : Heap} {q4 : Option Addr} {q0j : Nat} {c_data0 : Nat} {q0v : List Value} {q2 : Nat} {q5 : Option Addr} {q0k : Nat} {c_cmp4_0_0 : Nat} {data0 : List Int} {a1 : Int} {m2 : Int} {b3 : Int} {q8 : List T_floor_Point} {r : List Int} (hF : P_slices_rotateCmpFunc_int_2 data0 a1 m2 b3 q8 = some r) (q0z : RepL (RpI .i64) ρ data0 q0v) (q0b : RdS R_floor_Point ρ q5 q0k c_cmp4_0_0 q8) (hS : St w0 w (vec 3 (RpI .i64).sz (.slice q4 q0j c_data0) q0j q0v :: cells q2 32 [.slice q5 q0k c_cmp4_0_0] :: ro ρ :: l)) :
  Calls Tryd.prog 80 #[.slice q4 q0j c_data0, .int .i64 a1, .int .i64 m2, .int .i64 b3, .func (.func 44) #[] #[.pointer (some ⟨q2, 0, none⟩)]] w fun e w' => ∃ (q0e : List Value), e = .returned (.tuple #[]) ∧ RepL (RpI .i64) ρ r q0e ∧ St w0 w' (cells q2 32 [.slice q5 q0k c_cmp4_0_0] :: vec 3 (RpI .i64).sz (.slice q4 q0j c_data0) q0j q0e :: ro ρ :: l) := by
 have e_ := St.vec_n hS q0z; subst e_
 have e_ := q0b.n; subst e_
 refine enterC Tryd.func80 rfl 58 rfl (by simp) ?_
 replace hF := ar_s hF; obtain ⟨x14, hx14, hF⟩ := hF
 replace hF := ar_s hF; obtain ⟨x17, hx17, hF⟩ := hF
 refine x_seq <| x_region <| p (yl_move rfl) <| p (yl_move rfl) <|
  p (ysub rfl rfl hx14) <| p (yl_assign rfl) <| x_done <| x_seq <|
  x_region <| p (yl_move rfl) <| p (yl_move rfl) <| p (ysub rfl rfl hx17) <|
  p (yl_assign rfl) <| x_done <| x_seq <| ?_
 replace hF := bd_s hF; obtain ⟨oL2, hLL2, hF⟩ := hF
 refine x_join (fun E w => ∃ (q0h : List Value) (q0w : List Int) (q0x : Int), (q0w, q0x) = oL2 ∧ E 0 = .slice q4 data0.length c_data0 ∧ E 2 = .int .i64 m2 ∧ E 4 = .func (.func 44) #[] #[.pointer (some ⟨q2, 0, none⟩)] ∧ E 10 = .int .i64 q0x ∧ RepL (RpI .i64) ρ q0w q0h ∧ St w0 w (vec 3 (RpI .i64).sz (.slice q4 data0.length c_data0) data0.length q0h :: cells q2 32 [.slice q5 q8.length c_cmp4_0_0] :: ro ρ :: l)) ?_ ?_
 ·refine x_block ?_
  refine x_loop (fun k_ E w => ∃ (q6 : List Value) (q0f : List Int) (q9 : Int) (q0c : Int), lp (P_slices_rotateCmpFunc_int_2_L2 m2 q8) k_ (q0f, q9, q0c) = some oL2 ∧ E 0 = .slice q4 data0.length c_data0 ∧ E 2 = .int .i64 m2 ∧ E 4 = .func (.func 44) #[] #[.pointer (some ⟨q2, 0, none⟩)] ∧ E 10 = .int .i64 q9 ∧ E 11 = .int .i64 q0c ∧ RepL (RpI .i64) ρ q0f q6 ∧ St w0 w (vec 3 (RpI .i64).sz (.slice q4 data0.length c_data0) data0.length q6 :: cells q2 32 [.slice q5 q8.length c_cmp4_0_0] :: ro ρ :: l)) fuel ⟨q0v, data0, x14, x17, hLL2, rfl, rfl, rfl, rfl, rfl, q0z, (((hS.pull 2).pull 2).pull 2)⟩ ?_
  rintro kL2 E w ⟨q6, q0f, q9, q0c, hLL2, q0p, q0d, q0q, q3, q0a, q0i, hS⟩
  replace hLL2 := lp_s hLL2; obtain ⟨kL2, obL2, rfl, hFL2, hLL2⟩ := hLL2
  refine x_seq <| x_seq <| x_region <| p (yl_move q3) <|
   p (yl_move q0a) <| p (yl_neq rfl rfl) <| x_done <|
   x_cond_p (q9 ≠ q0c) rfl (fun hc20 => ?_) (fun hc20 => ?_)
  ·replace hFL2 := it_t hc20 hFL2
   refine x_skip <| x_block <| x_seq <| x_region <|
    p (yl_move q3) <| p (yl_move q0a) <| p (yl_gtr rfl rfl) <| x_done <| ?_
   replace hFL2 := bd_s hFL2; obtain ⟨oc23, hFc23, hFL2⟩ := hFL2
   refine x_join (fun E w => ∃ (q7 : List Value) (q0g : List Int) (q0t : Int) (q0u : Int), (q0g, q0t, q0u) = oc23 ∧ E 0 = .slice q4 data0.length c_data0 ∧ E 2 = .int .i64 m2 ∧ E 4 = .func (.func 44) #[] #[.pointer (some ⟨q2, 0, none⟩)] ∧ E 10 = .int .i64 q0t ∧ E 11 = .int .i64 q0u ∧ RepL (RpI .i64) ρ q0g q7 ∧ St w0 w (vec 3 (RpI .i64).sz (.slice q4 data0.length c_data0) data0.length q7 :: cells q2 32 [.slice q5 q8.length c_cmp4_0_0] :: ro ρ :: l)) ?_ ?_
   ·refine x_cond_p (q0c < q9) rfl (fun hc23 => ?_) (fun hc23 => ?_)
    ·replace hFc23 := it_t hc23 hFc23
     replace hFc23 := ar_s hFc23; obtain ⟨x27, hx27, hFc23⟩ := hFc23
     replace hFc23 := bd_s hFc23; obtain ⟨q1e, q19, hFc23⟩ := hFc23
     refine x_seq <| x_region <| p (yl_move q0p) <| p (yl_move q0d) <|
      p (yl_move q3) <| p (ysub rfl rfl hx27) <| p (yl_move q0d) <| p (yl_move q0a) <|
      p (yl_move q0q) <| ?_
     have hcall := c_slices_swapRangeCmpFunc_int_2 q19 q0i q0b (((hS.pull 2).pull 2).pull 2)
     refine o_cc call_83 (args5 rfl rfl rfl rfl rfl) hcall ?_
     rintro e w' ⟨q0m, rfl, q0r, hS⟩
     refine ⟨_, rfl, ?_⟩
     replace hFc23 := ar_s hFc23; obtain ⟨x34, hx34, hFc23⟩ := hFc23
     refine x_done <| x_region <| p (yl_move q3) <| p (yl_move q0a) <|
      p (ysub rfl rfl hx34) <| p (yl_assign rfl) <| x_done <| ?_
     exact x_inv ⟨q0m, q1e, x34, q0c, (sinj hFc23), q0p, q0d, q0q, rfl, q0a, q0r, (((hS.pull 2).pull 1).pull 2)⟩
    ·replace hFc23 := it_f hc23 hFc23
     replace hFc23 := ar_s hFc23; obtain ⟨x38, hx38, hFc23⟩ := hFc23
     replace hFc23 := ar_s hFc23; obtain ⟨x41, hx41, hFc23⟩ := hFc23
     replace hFc23 := ar_s hFc23; obtain ⟨x43, hx43, hFc23⟩ := hFc23
     replace hFc23 := bd_s hFc23; obtain ⟨q1a, q15, hFc23⟩ := hFc23
     refine x_seq <| x_region <| p (yl_move q0p) <| p (yl_move q0d) <|
      p (yl_move q3) <| p (ysub rfl rfl hx38) <| p (yl_move q0d) <| p (yl_move q0a) <|
      p (yadd rfl rfl hx41) <| p (yl_move q3) <| p (ysub rfl rfl hx43) <| p (yl_move q3) <|
      p (yl_move q0q) <| ?_
     have hcall := c_slices_swapRangeCmpFunc_int_2 q15 q0i q0b (((hS.pull 2).pull 2).pull 2)
     refine o_cc call_83 (args5 rfl rfl rfl rfl rfl) hcall ?_
     rintro e w' ⟨q0l, rfl, q0n, hS⟩
     refine ⟨_, rfl, ?_⟩
     replace hFc23 := ar_s hFc23; obtain ⟨x49, hx49, hFc23⟩ := hFc23
     refine x_done <| x_region <| p (yl_move q0a) <| p (yl_move q3) <|
      p (ysub rfl rfl hx49) <| p (yl_assign rfl) <| x_done <| ?_
     exact x_inv ⟨q0l, q1a, q9, x49, (sinj hFc23), q0p, q0d, q0q, q3, rfl, q0n, (((hS.pull 2).pull 1).pull 2)⟩
   rintro E w ⟨q7, q0g, q0t, q0u, rfl, q16, q17, q18, q13, q14, q0y, hS⟩
   refine x_blk <| ?_
   have e_ := sinj hFL2; subst e_
   exact x_inv ⟨kL2, Nat.lt_succ_self _, q7, q0g, q0t, q0u, hLL2, q16, q17, q18, q13, q14, q0y, (((hS.pull 2).pull 2).pull 2)⟩
  ·replace hFL2 := it_f hc20 hFL2
   refine x_exitTo _ rfl <| ?_
   have e_ := sinj hFL2; subst e_
   exact x_inv ⟨q6, q0f, q9, hLL2, q0p, q0d, q0q, q3, q0i, (((hS.pull 2).pull 2).pull 2)⟩
 rintro E w ⟨q0h, q0w, q0x, rfl, q1b, q12, q1c, q11, q10, hS⟩
 replace hF := ar_s hF; obtain ⟨x53, hx53, hF⟩ := hF
 replace hF := bd_s hF; obtain ⟨q1f, q1d, hF⟩ := hF
 refine x_region <| p (yl_move q1b) <| p (yl_move q12) <| p (yl_move q11) <|
  p (ysub rfl rfl hx53) <| p (yl_move q12) <| p (yl_move q11) <| p (yl_move q1c) <| ?_
 have hcall := c_slices_swapRangeCmpFunc_int_2 q1d q10 q0b (((hS.pull 2).pull 2).pull 2)
 refine o_cc call_83 (args5 rfl rfl rfl rfl rfl) hcall ?_
 rintro e w' ⟨q0o, rfl, q0s, hS⟩
 refine ⟨_, rfl, ?_⟩
 refine x_done <| ?_
 have e_ := sinj hF; subst e_
 exact x_fin ⟨_, rfl, q0o, rfl, q0s, (((hS.pull 2).pull 2).pull 2)⟩
attribute [irreducible] P_slices_rotateCmpFunc_int_2

def P_slices_symMergeCmpFunc_int_2_L3 (data0 : List Int) (a1 : Int) (q4 : List T_floor_Point) : (Int × Int) → Option ((Int × Int) ⊕ Int) := fun (q2, q3) =>
 if q2 < q3 then
  ar (q2 + q3) fun x36 =>
  lv (x36 % 18446744073709551616) fun x37 =>
  ck (0 ≤ (1 : Int)) <|
  lv (shr .u64 x37 1) fun x38 =>
  ar (x38) fun x39 =>
  ck (inb x39 data0.length) <|
  lv (gt data0 x39) fun x44 =>
  ck (inb a1 data0.length) <|
  lv (gt data0 a1) fun x48 =>
  bd (P_legal_near_1 x44 x48 q4) fun q7 =>
  bd (
   if q7 < 0 then
    ar (x39 + 1) fun x52 =>
    some (x52, q3)
   else
    some (q2, x39)) fun (q5, q6) =>
  some (Sum.inl (q5, q6))
 else
  some (Sum.inr q2)
def P_slices_symMergeCmpFunc_int_2_L9 (q5 : Int) : (List Int × Int) → Option ((List Int × Int) ⊕ List Int) := fun (q2, q3) =>
 ar (q5 - 1) fun x57 =>
 if q3 < x57 then
  ar (q3 + 1) fun x65 =>
  ar (q3 + 1) fun x68 =>
  ck (inb x68 q2.length) <|
  lv (gt q2 x68) fun x70 =>
  ck (inb q3 q2.length) <|
  lv (gt q2 q3) fun x74 =>
  ck (inb q3 q2.length) <|
  lv (stt q2 q3 x70) fun q4 =>
  ck (inb x65 q4.length) <|
  lv (stt q4 x65 x74) fun q6 =>
  ar (q3 + 1) fun x60 =>
  some (Sum.inl (q6, x60))
 else
  some (Sum.inr q2)
def P_slices_symMergeCmpFunc_int_2_L15 (data0 : List Int) (m2 : Int) (q4 : List T_floor_Point) : (Int × Int) → Option ((Int × Int) ⊕ Int) := fun (q2, q3) =>
 if q2 < q3 then
  ar (q2 + q3) fun x88 =>
  lv (x88 % 18446744073709551616) fun x89 =>
  ck (0 ≤ (1 : Int)) <|
  lv (shr .u64 x89 1) fun x90 =>
  ar (x90) fun x91 =>
  ck (inb m2 data0.length) <|
  lv (gt data0 m2) fun x96 =>
  ck (inb x91 data0.length) <|
  lv (gt data0 x91) fun x100 =>
  bd (P_legal_near_1 x96 x100 q4) fun q7 =>
  bd (
   if (!(decide (q7 < 0))) = true then
    ar (x91 + 1) fun x105 =>
    some (x105, q3)
   else
    some (q2, x91)) fun (q5, q6) =>
  some (Sum.inl (q5, q6))
 else
  some (Sum.inr q2)
def P_slices_symMergeCmpFunc_int_2_L21 (q5 : Int) : (List Int × Int) → Option ((List Int × Int) ⊕ List Int) := fun (q2, q3) =>
 if q5 < q3 then
  ar (q3 - 1) fun x117 =>
  ar (q3 - 1) fun x120 =>
  ck (inb x120 q2.length) <|
  lv (gt q2 x120) fun x122 =>
  ck (inb q3 q2.length) <|
  lv (gt q2 q3) fun x126 =>
  ck (inb q3 q2.length) <|
  lv (stt q2 q3 x122) fun q4 =>
  ck (inb x117 q4.length) <|
  lv (stt q4 x117 x126) fun q6 =>
  ar (q3 - 1) fun x112 =>
  some (Sum.inl (q6, x112))
 else
  some (Sum.inr q2)
def P_slices_symMergeCmpFunc_int_2_L33 (data0 : List Int) (q5 : List T_floor_Point) (x148 : Int) : (Int × Int) → Option ((Int × Int) ⊕ Int) := fun (q2, q3) =>
 if q2 < q3 then
  ar (q2 + q3) fun x154 =>
  lv (x154 % 18446744073709551616) fun x155 =>
  ck (0 ≤ (1 : Int)) <|
  lv (shr .u64 x155 1) fun x156 =>
  ar (x156) fun x157 =>
  ar (x148 - x157) fun x162 =>
  ck (inb x162 data0.length) <|
  lv (gt data0 x162) fun x164 =>
  ck (inb x157 data0.length) <|
  lv (gt data0 x157) fun x168 =>
  bd (P_legal_near_1 x164 x168 q5) fun q7 =>
  bd (
   if (!(decide (q7 < 0))) = true then
    ar (x157 + 1) fun x173 =>
    some (x173, q3)
   else
    some (q2, x157)) fun (q4, q6) =>
  some (Sum.inl (q4, q6))
 else
  some (Sum.inr q2)
def P_slices_symMergeCmpFunc_int_2_B (rc_ : (List Int × Int × Int × Int × List T_floor_Point) → Option (List Int)) : (List Int × Int × Int × Int × List T_floor_Point) → Option (List Int) := fun (data0, a1, m2, b3, q3) =>
 ar (m2 - a1) fun x27 =>
 if x27 = 1 then
  bd (
   lp (P_slices_symMergeCmpFunc_int_2_L3 data0 a1 q3) fuel (m2, b3)) fun q0c =>
  bd (
   lp (P_slices_symMergeCmpFunc_int_2_L9 q0c) fuel (data0, a1)) fun q9 =>
  some q9
 else
  ar (b3 - m2) fun x79 =>
  if x79 = 1 then
   bd (
    lp (P_slices_symMergeCmpFunc_int_2_L15 data0 m2 q3) fuel (a1, m2)) fun q0b =>
   bd (
    lp (P_slices_symMergeCmpFunc_int_2_L21 q0b) fuel (data0, m2)) fun q7 =>
   some q7
  else
   ar (a1 + b3) fun x131 =>
   lv (x131 % 18446744073709551616) fun x132 =>
   ck (0 ≤ (1 : Int)) <|
   lv (shr .u64 x132 1) fun x133 =>
   ar (x133) fun x134 =>
   ar (x134 + m2) fun x137 =>
   bd (
    if x134 < m2 then
     ar (x137 - b3) fun x143 =>
     some (x143, x134)
    else
     some (a1, m2)) fun (q8, q0a) =>
   ar (x137 - 1) fun x148 =>
   bd (
    lp (P_slices_symMergeCmpFunc_int_2_L33 data0 q3 x148) fuel (q8, q0a)) fun q2 =>
   ar (x137 - q2) fun x177 =>
   lv ((decide (q2 < m2)) && (decide (m2 < x177))) fun x185 =>
   bd (
    if x185 = true then
     bd (P_slices_rotateCmpFunc_int_2 data0 q2 m2 x177 q3) fun q0d =>
     some q0d
    else
     some data0) fun q4 =>
   lv ((decide (a1 < q2)) && (decide (q2 < x134))) fun x199 =>
   bd (
    if x199 = true then
     bd (rc_ (q4, a1, q2, x134, q3)) fun q0e =>
     some q0e
    else
     some q4) fun q5 =>
   lv ((decide (x134 < x177)) && (decide (x177 < b3))) fun x213 =>
   bd (
    if x213 = true then
     bd (rc_ (q5, x134, x177, b3, q3)) fun q0f =>
     some q0f
    else
     some q5) fun q6 =>
   some q6
def P_slices_symMergeCmpFunc_int_2 (data0 : List Int) (a1 : Int) (m2 : Int) (b3 : Int) (q2 : List T_floor_Point) : Option (List Int) := rcf P_slices_symMergeCmpFunc_int_2_B fuel (data0, a1, m2, b3, q2)
theorem c_slices_symMergeCmpFunc_int_2_s (rc_ : (List Int × Int × Int × Int × List T_floor_Point) → Option (List Int)) (ih : ∀ {w0 w : World} {l : List Assn} {ρ : Heap} {q2 : Option Addr} {q0l : Nat} {c_data0 : Nat} {q0b : List Value} {q3 : Nat} {q4 : Option Addr} {q0n : Nat} {c_cmp4_0_0 : Nat} {data0 : List Int} {a1 : Int} {m2 : Int} {b3 : Int} {q5 : List T_floor_Point} {r : List Int} (hF : rc_ (data0, a1, m2, b3, q5) = some r) (q0e : RepL (RpI .i64) ρ data0 q0b) (q0i : RdS R_floor_Point ρ q4 q0n c_cmp4_0_0 q5) (hS : St w0 w (vec 3 (RpI .i64).sz (.slice q2 q0l c_data0) q0l q0b :: cells q3 32 [.slice q4 q0n c_cmp4_0_0] :: ro ρ :: l)),
  Calls Tryd.prog 72 #[.slice q2 q0l c_data0, .int .i64 a1, .int .i64 m2, .int .i64 b3, .func (.func 44) #[] #[.pointer (some ⟨q3, 0, none⟩)]] w fun e w' => ∃ (q0j : List Value), e = .returned (.tuple #[]) ∧ RepL (RpI .i64) ρ r q0j ∧ St w0 w' (cells q3 32 [.slice q4 q0n c_cmp4_0_0] :: vec 3 (RpI .i64).sz (.slice q2 q0l c_data0) q0l q0j :: ro ρ :: l)) {w0 w : World} {l : List Assn} {ρ : Heap} {q2 : Option Addr} {q0l : Nat} {c_data0 : Nat} {q0b : List Value} {q3 : Nat} {q4 : Option Addr} {q0n : Nat} {c_cmp4_0_0 : Nat} {data0 : List Int} {a1 : Int} {m2 : Int} {b3 : Int} {q5 : List T_floor_Point} {r : List Int} (hF : P_slices_symMergeCmpFunc_int_2_B rc_ (data0, a1, m2, b3, q5) = some r) (q0e : RepL (RpI .i64) ρ data0 q0b) (q0i : RdS R_floor_Point ρ q4 q0n c_cmp4_0_0 q5) (hS : St w0 w (vec 3 (RpI .i64).sz (.slice q2 q0l c_data0) q0l q0b :: cells q3 32 [.slice q4 q0n c_cmp4_0_0] :: ro ρ :: l)) :
  Calls Tryd.prog 72 #[.slice q2 q0l c_data0, .int .i64 a1, .int .i64 m2, .int .i64 b3, .func (.func 44) #[] #[.pointer (some ⟨q3, 0, none⟩)]] w fun e w' => ∃ (q0j : List Value), e = .returned (.tuple #[]) ∧ RepL (RpI .i64) ρ r q0j ∧ St w0 w' (cells q3 32 [.slice q4 q0n c_cmp4_0_0] :: vec 3 (RpI .i64).sz (.slice q2 q0l c_data0) q0l q0j :: ro ρ :: l) := by
 unfold P_slices_symMergeCmpFunc_int_2_B at hF; try dsimp only at hF
 have e_ := St.vec_n hS q0e; subst e_
 have e_ := q0i.n; subst e_
 refine enterC Tryd.func72 rfl 220 rfl (by simp) ?_
 replace hF := ar_s hF; obtain ⟨x27, hx27, hF⟩ := hF
 refine x_seq <| x_seq <| x_region <| p (yl_move rfl) <|
  p (yl_move rfl) <| p (ysub rfl rfl hx27) <| p (yl_eql rfl rfl) <| x_done <|
  x_cond_p (x27 = 1) rfl (fun hc28 => ?_) (fun hc28 => ?_)
 ·replace hF := it_t hc28 hF
  refine x_seq <| x_region <| p (yl_move rfl) <| p (yl_assign rfl) <|
   x_done <| x_seq <| x_region <| p (yl_move rfl) <|
   p (yl_assign rfl) <| x_done <| x_seq <| ?_
  replace hF := bd_s hF; obtain ⟨oL3, hLL3, hF⟩ := hF
  refine x_join (fun E w => ∃ (q25 : Int), q25 = oL3 ∧ E 0 = .slice q2 data0.length c_data0 ∧ E 1 = .int .i64 a1 ∧ E 10 = .int .i64 q25 ∧ St w0 w (vec 3 (RpI .i64).sz (.slice q2 data0.length c_data0) data0.length q0b :: cells q3 32 [.slice q4 q5.length c_cmp4_0_0] :: ro ρ :: l)) ?_ ?_
  ·refine x_block ?_
   refine x_loop (fun k_ E w => ∃ (q11 : Int) (q1b : Int), lp (P_slices_symMergeCmpFunc_int_2_L3 data0 a1 q5) k_ (q11, q1b) = some oL3 ∧ E 0 = .slice q2 data0.length c_data0 ∧ E 1 = .int .i64 a1 ∧ E 4 = .func (.func 44) #[] #[.pointer (some ⟨q3, 0, none⟩)] ∧ E 10 = .int .i64 q11 ∧ E 11 = .int .i64 q1b ∧ St w0 w (vec 3 (RpI .i64).sz (.slice q2 data0.length c_data0) data0.length q0b :: cells q3 32 [.slice q4 q5.length c_cmp4_0_0] :: ro ρ :: l)) fuel ⟨m2, b3, hLL3, rfl, rfl, rfl, rfl, rfl, (((hS.pull 2).pull 2).pull 2)⟩ ?_
   rintro kL3 E w ⟨q11, q1b, hLL3, q26, q38, q3n, q2c, q3c, hS⟩
   replace hLL3 := lp_s hLL3; obtain ⟨kL3, obL3, rfl, hFL3, hLL3⟩ := hLL3
   refine x_seq <| x_seq <| x_region <| p (yl_move q2c) <|
    p (yl_move q3c) <| p (yl_lss rfl rfl) <| x_done <|
    x_cond_p (q11 < q1b) rfl (fun hc33 => ?_) (fun hc33 => ?_)
   ·replace hFL3 := it_t hc33 hFL3
    replace hFL3 := ar_s hFL3; obtain ⟨x36, hx36, hFL3⟩ := hFL3
    replace hFL3 := lv_s hFL3; obtain ⟨x37, hx37, hFL3⟩ := hFL3
    replace hFL3 := ck_s hFL3; obtain ⟨q5s, hFL3⟩ := hFL3
    replace hFL3 := lv_s hFL3; obtain ⟨x38, hx38, hFL3⟩ := hFL3
    replace hFL3 := ar_s hFL3; obtain ⟨x39, hx39, hFL3⟩ := hFL3
    replace hFL3 := ck_s hFL3; obtain ⟨q4o, hFL3⟩ := hFL3
    replace hFL3 := lv_s hFL3; obtain ⟨x44, hx44, hFL3⟩ := hFL3
    replace hFL3 := ck_s hFL3; obtain ⟨q4p, hFL3⟩ := hFL3
    replace hFL3 := lv_s hFL3; obtain ⟨x48, hx48, hFL3⟩ := hFL3
    refine x_skip <| x_block <| x_seq <| x_region <|
     p (yl_move q2c) <| p (yl_move q3c) <| p (yadd rfl rfl hx36) <| p (yconvu wm_u64 uk_3 ik_153 rfl hx37) <|
     p (yshr rfl rfl q5s hx38) <| p (yconvi uk_153 ik_3 rfl hx39) <| p (yl_assign rfl) <| x_done <|
     x_seq <| x_head 9 mixed (by kernel_rfl) hS _ _ rfl rfl <| q (yl_move q3n) <| q (yl_move q26) <|
     q (yl_move rfl) <| q (yix_o sl_22 rfl rfl hS q0e q4o) <| qa (fun w' hS => at_load one_3 rfl (RepL.getW q0e hS q4o hx44)) <| q (yl_move q26) <|
     q (yl_move q38) <| q (yix_o sl_22 rfl rfl hS q0e q4p) <| qa (fun w' hS => at_load one_3 rfl (RepL.getW q0e hS q4p hx48)) <|
     q_done fun w' hS => ?_
    replace hFL3 := bd_s hFL3; obtain ⟨q60, q5t, hFL3⟩ := hFL3
    have hcall := c_legal_near_1 q5t q0i ((hS.pull 2).pull 2)
    refine o_ccv rfl call_44 (capargs (args2 rfl rfl)) ((Calls.mono hcall (fun e w'' h => And.intro h.1 (((h.2.pull 1).pull 1).pull 2)))) ?_
    rintro e w' ⟨rfl, hS⟩
    refine ⟨_, rfl, ?_⟩
    refine p (yl_lss rfl rfl) <| x_done <| ?_
    replace hFL3 := bd_s hFL3; obtain ⟨oc50, hFc50, hFL3⟩ := hFL3
    refine x_join (fun E w => ∃ (q2d : Int) (q2e : Int), (q2d, q2e) = oc50 ∧ E 0 = .slice q2 data0.length c_data0 ∧ E 1 = .int .i64 a1 ∧ E 4 = .func (.func 44) #[] #[.pointer (some ⟨q3, 0, none⟩)] ∧ E 10 = .int .i64 q2d ∧ E 11 = .int .i64 q2e ∧ St w0 w (vec 3 (RpI .i64).sz (.slice q2 data0.length c_data0) data0.length q0b :: cells q3 32 [.slice q4 q5.length c_cmp4_0_0] :: ro ρ :: l)) ?_ ?_
    ·refine x_cond_p (q60 < 0) rfl (fun hc50 => ?_) (fun hc50 => ?_)
     ·replace hFc50 := it_t hc50 hFc50
      replace hFc50 := ar_s hFc50; obtain ⟨x52, hx52, hFc50⟩ := hFc50
      refine x_region <| p (yl_move rfl) <| p (yadd rfl rfl hx52) <| p (yl_assign rfl) <|
       x_done <| ?_
      exact x_inv ⟨x52, q1b, (sinj hFc50), q26, q38, q3n, rfl, q3c, (((hS.pull 2).pull 2).pull 2)⟩
     ·replace hFc50 := it_f hc50 hFc50
      refine x_region <| p (yl_move rfl) <| p (yl_assign rfl) <| x_done <| ?_
      exact x_inv ⟨q11, x39, (sinj hFc50), q26, q38, q3n, q2c, rfl, (((hS.pull 2).pull 2).pull 2)⟩
    rintro E w ⟨q2d, q2e, rfl, q5e, q5f, q5g, q4q, q4r, hS⟩
    refine x_blk <| ?_
    have e_ := sinj hFL3; subst e_
    exact x_inv ⟨kL3, Nat.lt_succ_self _, q2d, q2e, hLL3, q5e, q5f, q5g, q4q, q4r, (((hS.pull 2).pull 2).pull 2)⟩
   ·replace hFL3 := it_f hc33 hFL3
    refine x_exitTo _ rfl <| ?_
    have e_ := sinj hFL3; subst e_
    exact x_inv ⟨q11, hLL3, q26, q38, q2c, (((hS.pull 2).pull 2).pull 2)⟩
  rintro E w ⟨q25, rfl, q5u, q5v, q5h, hS⟩
  refine x_seq <| x_seq <| x_region <| p (yl_move q5v) <|
   p (yl_assign rfl) <| x_done <| ?_
  replace hF := bd_s hF; obtain ⟨oL9, hLL9, hF⟩ := hF
  refine x_join (fun E w => ∃ (q0q : List Value) (q1a : List Int), q1a = oL9 ∧ RepL (RpI .i64) ρ q1a q0q ∧ St w0 w (cells q3 32 [.slice q4 q5.length c_cmp4_0_0] :: vec 3 (RpI .i64).sz (.slice q2 data0.length c_data0) data0.length q0q :: ro ρ :: l)) ?_ ?_
  ·refine x_block ?_
   refine x_loop (fun k_ E w => ∃ (q0c : List Value) (q19 : List Int) (q9 : Int), lp (P_slices_symMergeCmpFunc_int_2_L9 q25) k_ (q19, q9) = some oL9 ∧ E 0 = .slice q2 data0.length c_data0 ∧ E 10 = .int .i64 q25 ∧ E 13 = .int .i64 q9 ∧ RepL (RpI .i64) ρ q19 q0c ∧ St w0 w (vec 3 (RpI .i64).sz (.slice q2 data0.length c_data0) data0.length q0c :: cells q3 32 [.slice q4 q5.length c_cmp4_0_0] :: ro ρ :: l)) fuel ⟨q0b, data0, a1, hLL9, q5u, q5h, rfl, q0e, (((hS.pull 2).pull 2).pull 2)⟩ ?_
   rintro kL9 E w ⟨q0c, q19, q9, hLL9, q27, q3v, q12, q0k, hS⟩
   replace hLL9 := lp_s hLL9; obtain ⟨kL9, obL9, rfl, hFL9, hLL9⟩ := hLL9
   unfold P_slices_symMergeCmpFunc_int_2_L9 at hFL9
   replace hFL9 := ar_s hFL9; obtain ⟨x57, hx57, hFL9⟩ := hFL9
   refine x_seq <| x_seq <| x_region <| p (yl_move q12) <|
    p (yl_move q3v) <| p (ysub rfl rfl hx57) <| p (yl_lss rfl rfl) <| x_done <|
    x_cond_p (q9 < x57) rfl (fun hc58 => ?_) (fun hc58 => ?_)
   ·replace hFL9 := it_t hc58 hFL9
    refine x_skip <| x_seq <| x_block <| ?_
    replace hFL9 := ar_s hFL9; obtain ⟨x65, hx65, hFL9⟩ := hFL9
    replace hFL9 := ar_s hFL9; obtain ⟨x68, hx68, hFL9⟩ := hFL9
    replace hFL9 := ck_s hFL9; obtain ⟨q46, hFL9⟩ := hFL9
    replace hFL9 := lv_s hFL9; obtain ⟨x70, hx70, hFL9⟩ := hFL9
    replace hFL9 := ck_s hFL9; obtain ⟨q3w, hFL9⟩ := hFL9
    replace hFL9 := lv_s hFL9; obtain ⟨x74, hx74, hFL9⟩ := hFL9
    replace hFL9 := ck_s hFL9; obtain ⟨q3x, hFL9⟩ := hFL9
    replace hFL9 := lv_s hFL9; obtain ⟨q28, q4s, hFL9⟩ := hFL9
    replace hFL9 := ck_s hFL9; obtain ⟨q3y, hFL9⟩ := hFL9
    replace hFL9 := lv_s hFL9; obtain ⟨q39, q4t, hFL9⟩ := hFL9
    refine x_par (w0 := w0) [⟨[], [], [61], [], [], []⟩, ⟨[], [], [62], [], [], []⟩, ⟨[], [], [63], [], [], []⟩, ⟨[], [], [64], [], [], []⟩, ⟨[3], [3], [65], [], [], []⟩, ⟨[], [], [66], [], [], []⟩, ⟨[], [], [67], [], [], []⟩, ⟨[6], [6], [68], [], [], []⟩, ⟨[5, 6, 7], [5, 7], [69], [0], [], []⟩, ⟨[5, 6, 7, 8], [8], [70], [0], [], []⟩, ⟨[], [], [71], [], [], []⟩, ⟨[], [], [72], [], [], []⟩, ⟨[10, 11], [10, 11], [73], [0], [], []⟩, ⟨[10, 11, 12], [12], [74], [0], [], []⟩, ⟨[0, 1, 5, 6, 7, 8, 9, 10, 11, 12, 13], [0, 1], [75], [0], [], []⟩, ⟨[0, 1, 5, 6, 7, 8, 9, 10, 11, 12, 13, 14], [9, 14], [], [], [0], [1]⟩, ⟨[0, 1, 2, 3, 4, 5, 6, 7, 8, 9, 10, 11, 12, 13, 14, 15], [2, 4], [76], [2, 1], [], []⟩, ⟨[0, 1, 2, 3, 4, 5, 6, 7, 8, 9, 10, 11, 12, 13, 14, 15, 16], [13, 16], [], [2], [1], [3]⟩] [⟨none, (some 15), []⟩, ⟨(some 15), (some 17), []⟩, ⟨none, none, []⟩, ⟨(some 17), none, []⟩] [61, 62, 63, 64, 65, 66, 67, 68, 69, 70, 71, 72, 73, 74, 75, 76] [0, 2] [2, 3] [0, 1, 2, 3, 4, 5, 6, 7, 8, 9, 10, 11, 12, 13, 14, 16] [fun Ep11 => Ep11 61 = .slice q2 data0.length c_data0, fun Ep11 => Ep11 62 = .int .i64 q9, fun Ep11 => Ep11 63 = .slice q2 data0.length c_data0, fun Ep11 => Ep11 64 = .int .i64 q9, fun Ep11 => Ep11 65 = .int .i64 x65, fun Ep11 => Ep11 66 = .slice q2 data0.length c_data0, fun Ep11 => Ep11 67 = .int .i64 q9, fun Ep11 => Ep11 68 = .int .i64 x68, fun Ep11 => Ep11 69 = .pointer (some ((adr q2).add (x68.toNat * (RpI .i64).sz))), fun Ep11 => Ep11 70 = .int .i64 x70, fun Ep11 => Ep11 71 = .slice q2 data0.length c_data0, fun Ep11 => Ep11 72 = .int .i64 q9, fun Ep11 => Ep11 73 = .pointer (some ((adr q2).add (q9.toNat * (RpI .i64).sz))), fun Ep11 => Ep11 74 = .int .i64 x74, fun Ep11 => Ep11 75 = .pointer (some ((adr q2).add (q9.toNat * (RpI .i64).sz))), fun Ep11 => True, fun Ep11 => Ep11 76 = .pointer (some ((adr q2).add (x65.toNat * (RpI .i64).sz))), fun Ep11 => True] [fun Ep11 => vec 3 (RpI .i64).sz (.slice q2 data0.length c_data0) data0.length q0c, fun Ep11 => bunA (fun (q7 : List Value) => RepL (RpI .i64) ρ q28 q7) (fun (q7 : List Value) => [vec 3 (RpI .i64).sz (.slice q2 data0.length c_data0) data0.length q7]), fun Ep11 => ro ρ, fun Ep11 => bunA (fun (q0f : List Value) => RepL (RpI .i64) ρ q39 q0f) (fun (q0f : List Value) => [vec 3 (RpI .i64).sz (.slice q2 data0.length c_data0) data0.length q0f])] mixed (by kernel_rfl) ((hS.pull 2).pull 1) ?_ ?_
    ·refine ⟨?_, ?_, ?_, ?_, ?_, ?_, ?_, ?_, ?_, ?_, ?_, ?_, ?_, ?_, ?_, ?_, ?_, ?_, trivial⟩
     ·intro Ep11 w l' hE11 hO11 hF_ hS
      refine p (yl_move ((hE11 0 rfl).trans q27)) <| x_done <| ?_
      refine x_fin ⟨⟨_, rfl⟩, rfl, ?_⟩
      exact emk hS
     ·intro Ep11 w l' hE11 hO11 hF_ hS
      refine p (yl_move ((hE11 13 rfl).trans q12)) <| x_done <| ?_
      refine x_fin ⟨⟨_, rfl⟩, rfl, ?_⟩
      exact emk hS
     ·intro Ep11 w l' hE11 hO11 hF_ hS
      refine p (yl_move ((hE11 0 rfl).trans q27)) <| x_done <| ?_
      refine x_fin ⟨⟨_, rfl⟩, rfl, ?_⟩
      exact emk hS
     ·intro Ep11 w l' hE11 hO11 hF_ hS
      refine p (yl_move ((hE11 13 rfl).trans q12)) <| x_done <| ?_
      refine x_fin ⟨⟨_, rfl⟩, rfl, ?_⟩
      exact emk hS
     ·intro Ep11 w l' hE11 hO11 hF_ hS
      obtain ⟨q2f, -⟩ := hF_
      replace q2f : Ep11 64 = .int .i64 q9 := emk q2f
      refine p (yadd q2f rfl hx65) <| x_done <| ?_
      refine x_fin ⟨⟨_, rfl⟩, rfl, ?_⟩
      exact emk hS
     ·intro Ep11 w l' hE11 hO11 hF_ hS
      refine p (yl_move ((hE11 0 rfl).trans q27)) <| x_done <| ?_
      refine x_fin ⟨⟨_, rfl⟩, rfl, ?_⟩
      exact emk hS
     ·intro Ep11 w l' hE11 hO11 hF_ hS
      refine p (yl_move ((hE11 13 rfl).trans q12)) <| x_done <| ?_
      refine x_fin ⟨⟨_, rfl⟩, rfl, ?_⟩
      exact emk hS
     ·intro Ep11 w l' hE11 hO11 hF_ hS
      obtain ⟨q2g, -⟩ := hF_
      replace q2g : Ep11 67 = .int .i64 q9 := emk q2g
      refine p (yadd q2g rfl hx68) <| x_done <| ?_
      refine x_fin ⟨⟨_, rfl⟩, rfl, ?_⟩
      exact emk hS
     ·intro Ep11 w l' hE11 hO11 hF_ hS
      obtain ⟨q2h, q2i, -⟩ := hF_
      replace q2h : Ep11 66 = .slice q2 data0.length c_data0 := emk q2h
      replace q2i : Ep11 68 = .int .i64 x68 := emk q2i
      replace hS : St w0 w (vec 3 (RpI .i64).sz (.slice q2 data0.length c_data0) data0.length q0c :: l') := emk hS
      refine p (yix_o sl_22 q2h q2i hS q0k q46) <| x_done <| ?_
      refine x_fin ⟨⟨_, rfl⟩, rfl, ?_⟩
      exact emk hS
     ·intro Ep11 w l' hE11 hO11 hF_ hS
      obtain ⟨q2j, -⟩ := hF_
      replace q2j : Ep11 69 = .pointer (some ((adr q2).add (x68.toNat * (RpI .i64).sz))) := emk q2j
      replace hS : St w0 w (vec 3 (RpI .i64).sz (.slice q2 data0.length c_data0) data0.length q0c :: l') := emk hS
      refine pa (at_load one_3 q2j (RepL.getW q0k hS q46 hx70)) <| x_done <| ?_
      refine x_fin ⟨⟨_, rfl⟩, rfl, ?_⟩
      exact emk hS
     ·intro Ep11 w l' hE11 hO11 hF_ hS
      refine p (yl_move ((hE11 0 rfl).trans q27)) <| x_done <| ?_
      refine x_fin ⟨⟨_, rfl⟩, rfl, ?_⟩
      exact emk hS
     ·intro Ep11 w l' hE11 hO11 hF_ hS
      refine p (yl_move ((hE11 13 rfl).trans q12)) <| x_done <| ?_
      refine x_fin ⟨⟨_, rfl⟩, rfl, ?_⟩
      exact emk hS
     ·intro Ep11 w l' hE11 hO11 hF_ hS
      obtain ⟨q1c, q1d, -⟩ := hF_
      replace q1c : Ep11 71 = .slice q2 data0.length c_data0 := emk q1c
      replace q1d : Ep11 72 = .int .i64 q9 := emk q1d
      replace hS : St w0 w (vec 3 (RpI .i64).sz (.slice q2 data0.length c_data0) data0.length q0c :: l') := emk hS
      refine p (yix_o sl_22 q1c q1d hS q0k q3w) <| x_done <| ?_
      refine x_fin ⟨⟨_, rfl⟩, rfl, ?_⟩
      exact emk hS
     ·intro Ep11 w l' hE11 hO11 hF_ hS
      obtain ⟨q1e, -⟩ := hF_
      replace q1e : Ep11 73 = .pointer (some ((adr q2).add (q9.toNat * (RpI .i64).sz))) := emk q1e
      replace hS : St w0 w (vec 3 (RpI .i64).sz (.slice q2 data0.length c_data0) data0.length q0c :: l') := emk hS
      refine pa (at_load one_3 q1e (RepL.getW q0k hS q3w hx74)) <| x_done <| ?_
      refine x_fin ⟨⟨_, rfl⟩, rfl, ?_⟩
      exact emk hS
     ·intro Ep11 w l' hE11 hO11 hF_ hS
      obtain ⟨q2k, q2l, -⟩ := hF_
      replace q2k : Ep11 61 = .slice q2 data0.length c_data0 := emk q2k
      replace q2l : Ep11 62 = .int .i64 q9 := emk q2l
      replace hS : St w0 w (vec 3 (RpI .i64).sz (.slice q2 data0.length c_data0) data0.length q0c :: l') := emk hS
      refine p (yix_o sl_22 q2k q2l hS q0k q3x) <| x_done <| ?_
      refine x_fin ⟨⟨_, rfl⟩, rfl, ?_⟩
      exact emk hS
     ·intro Ep11 w l' hE11 hO11 hF_ hS
      obtain ⟨q2m, q1f, -⟩ := hF_
      replace q2m : Ep11 70 = .int .i64 x70 := emk q2m
      replace q1f : Ep11 75 = .pointer (some ((adr q2).add (q9.toNat * (RpI .i64).sz))) := emk q1f
      replace hS : St w0 w (vec 3 (RpI .i64).sz (.slice q2 data0.length c_data0) data0.length q0c :: l') := emk hS
      refine o_put' (news := [.int .i64 x70]) sz_3 q1f q2m rfl rfl (o := 0) rfl q3x rfl hS q0k (Le.refl _) (fun c hc => ok_all hc (show (RpI .i64).ok ρ [.int .i64 x70] x70 from rfl)) q4s (fun q7 w' q13 hS => ?_)
      refine x_done <| ?_
      refine x_fin ⟨⟨undef, rfl⟩, trivial, ?_⟩
      replace hS := St.bun (Φ := (fun (q7 : List Value) => RepL (RpI .i64) ρ q28 q7)) (L := (fun (q7 : List Value) => [vec 3 (RpI .i64).sz (.slice q2 data0.length c_data0) data0.length q7])) q7 q13 hS
      exact emk hS
     ·intro Ep11 w l' hE11 hO11 hF_ hS
      obtain ⟨q2n, q2o, -⟩ := hF_
      replace q2n : Ep11 63 = .slice q2 data0.length c_data0 := emk q2n
      replace q2o : Ep11 65 = .int .i64 x65 := emk q2o
      replace hS : St w0 w (ro ρ :: bunA (fun (q7 : List Value) => RepL (RpI .i64) ρ q28 q7) (fun (q7 : List Value) => [vec 3 (RpI .i64).sz (.slice q2 data0.length c_data0) data0.length q7]) :: l') := emk hS
      have q_ := St.unbun (hS.pull 1); obtain ⟨q7, q13, hS⟩ := q_
      refine p (yix_o sl_22 q2n q2o hS q13 q3y) <| x_done <| ?_
      refine x_fin ⟨⟨_, rfl⟩, rfl, ?_⟩
      replace hS := St.bun (Φ := (fun (q7 : List Value) => RepL (RpI .i64) ρ q28 q7)) (L := (fun (q7 : List Value) => [vec 3 (RpI .i64).sz (.slice q2 data0.length c_data0) data0.length q7])) q7 q13 hS
      exact emk (hS.pull 1)
     ·intro Ep11 w l' hE11 hO11 hF_ hS
      obtain ⟨q1g, q1h, -⟩ := hF_
      replace q1g : Ep11 74 = .int .i64 x74 := emk q1g
      replace q1h : Ep11 76 = .pointer (some ((adr q2).add (x65.toNat * (RpI .i64).sz))) := emk q1h
      replace hS : St w0 w (ro ρ :: bunA (fun (q7 : List Value) => RepL (RpI .i64) ρ q28 q7) (fun (q7 : List Value) => [vec 3 (RpI .i64).sz (.slice q2 data0.length c_data0) data0.length q7]) :: l') := emk hS
      have q_ := St.unbun (hS.pull 1); obtain ⟨q7, q13, hS⟩ := q_
      refine o_put' (news := [.int .i64 x74]) sz_3 q1h q1g rfl rfl (o := 0) rfl q3y rfl hS q13 (Le.refl _) (fun c hc => ok_all hc (show (RpI .i64).ok ρ [.int .i64 x74] x74 from rfl)) q4t (fun q0f w' q3d hS => ?_)
      refine x_done <| ?_
      refine x_fin ⟨⟨undef, rfl⟩, trivial, ?_⟩
      replace hS := St.bun (Φ := (fun (q0f : List Value) => RepL (RpI .i64) ρ q39 q0f)) (L := (fun (q0f : List Value) => [vec 3 (RpI .i64).sz (.slice q2 data0.length c_data0) data0.length q0f])) q0f q3d hS
      exact emk (hS.pull 1)
    intro Ep11 w' hE11 hF_ hS
    obtain ⟨q2k, q2l, q2n, q2f, q2o, q2h, q2g, q2i, q2j, q2m, q1c, q1d, q1e, q1g, q1f, q1h, -⟩ := hF_
    replace q2k : Ep11 61 = .slice q2 data0.length c_data0 := emk q2k
    replace q2l : Ep11 62 = .int .i64 q9 := emk q2l
    replace q2n : Ep11 63 = .slice q2 data0.length c_data0 := emk q2n
    replace q2f : Ep11 64 = .int .i64 q9 := emk q2f
    replace q2o : Ep11 65 = .int .i64 x65 := emk q2o
    replace q2h : Ep11 66 = .slice q2 data0.length c_data0 := emk q2h
    replace q2g : Ep11 67 = .int .i64 q9 := emk q2g
    replace q2i : Ep11 68 = .int .i64 x68 := emk q2i
    replace q2j : Ep11 69 = .pointer (some ((adr q2).add (x68.toNat * (RpI .i64).sz))) := emk q2j
    replace q2m : Ep11 70 = .int .i64 x70 := emk q2m
    replace q1c : Ep11 71 = .slice q2 data0.length c_data0 := emk q1c
    replace q1d : Ep11 72 = .int .i64 q9 := emk q1d
    replace q1e : Ep11 73 = .pointer (some ((adr q2).add (q9.toNat * (RpI .i64).sz))) := emk q1e
    replace q1g : Ep11 74 = .int .i64 x74 := emk q1g
    replace q1f : Ep11 75 = .pointer (some ((adr q2).add (q9.toNat * (RpI .i64).sz))) := emk q1f
    replace q1h : Ep11 76 = .pointer (some ((adr q2).add (x65.toNat * (RpI .i64).sz))) := emk q1h
    replace hS : St w0 w' (ro ρ :: bunA (fun (q0f : List Value) => RepL (RpI .i64) ρ q39 q0f) (fun (q0f : List Value) => [vec 3 (RpI .i64).sz (.slice q2 data0.length c_data0) data0.length q0f]) :: (cells q3 32 [.slice q4 q5.length c_cmp4_0_0] :: l)) := emk hS
    have q_ := St.unbun (hS.pull 1); obtain ⟨q0f, q3d, hS⟩ := q_
    replace hFL9 := ar_s hFL9; obtain ⟨x60, hx60, hFL9⟩ := hFL9
    refine x_blk <| x_region <| p (yl_move ((hE11 13 rfl).trans q12)) <| p (yadd rfl rfl hx60) <|
     p (yl_assign rfl) <| x_done <| ?_
    have e_ := sinj hFL9; subst e_
    exact x_inv ⟨kL9, Nat.lt_succ_self _, q0f, q39, x60, hLL9, ((hE11 0 rfl).trans q27), ((hE11 10 rfl).trans q3v), rfl, q3d, (((hS.pull 1).pull 2).pull 2)⟩
   ·replace hFL9 := it_f hc58 hFL9
    refine x_exitTo _ rfl <| ?_
    have e_ := sinj hFL9; subst e_
    exact x_inv ⟨q0c, q19, hLL9, q0k, (((hS.pull 2).pull 1).pull 2)⟩
  rintro E w ⟨q0q, q1a, rfl, q3m, hS⟩
  have e_ := sinj hF; subst e_
  exact x_return ⟨_, rfl, q0q, rfl, q3m, (((hS.pull 2).pull 2).pull 2)⟩
 ·replace hF := it_f hc28 hF
  replace hF := ar_s hF; obtain ⟨x79, hx79, hF⟩ := hF
  refine x_skip <| x_seq <| x_seq <| x_region <|
   p (yl_move rfl) <| p (yl_move rfl) <| p (ysub rfl rfl hx79) <| p (yl_eql rfl rfl) <|
   x_done <|
   x_cond_p (x79 = 1) rfl (fun hc80 => ?_) (fun hc80 => ?_)
  ·replace hF := it_t hc80 hF
   refine x_seq <| x_region <| p (yl_move rfl) <| p (yl_assign rfl) <|
    x_done <| x_seq <| x_region <| p (yl_move rfl) <|
    p (yl_assign rfl) <| x_done <| x_seq <| ?_
   replace hF := bd_s hF; obtain ⟨oL15, hLL15, hF⟩ := hF
   refine x_join (fun E w => ∃ (q14 : Int), q14 = oL15 ∧ E 0 = .slice q2 data0.length c_data0 ∧ E 2 = .int .i64 m2 ∧ E 14 = .int .i64 q14 ∧ St w0 w (vec 3 (RpI .i64).sz (.slice q2 data0.length c_data0) data0.length q0b :: cells q3 32 [.slice q4 q5.length c_cmp4_0_0] :: ro ρ :: l)) ?_ ?_
   ·refine x_block ?_
    refine x_loop (fun k_ E w => ∃ (q0v : Int) (q16 : Int), lp (P_slices_symMergeCmpFunc_int_2_L15 data0 m2 q5) k_ (q0v, q16) = some oL15 ∧ E 0 = .slice q2 data0.length c_data0 ∧ E 2 = .int .i64 m2 ∧ E 4 = .func (.func 44) #[] #[.pointer (some ⟨q3, 0, none⟩)] ∧ E 14 = .int .i64 q0v ∧ E 15 = .int .i64 q16 ∧ St w0 w (vec 3 (RpI .i64).sz (.slice q2 data0.length c_data0) data0.length q0b :: cells q3 32 [.slice q4 q5.length c_cmp4_0_0] :: ro ρ :: l)) fuel ⟨a1, m2, hLL15, rfl, rfl, rfl, rfl, rfl, (((hS.pull 2).pull 2).pull 2)⟩ ?_
    rintro kL15 E w ⟨q0v, q16, hLL15, q1i, q2p, q3e, q1s, q31, hS⟩
    replace hLL15 := lp_s hLL15; obtain ⟨kL15, obL15, rfl, hFL15, hLL15⟩ := hLL15
    refine x_seq <| x_seq <| x_region <| p (yl_move q1s) <|
     p (yl_move q31) <| p (yl_lss rfl rfl) <| x_done <|
     x_cond_p (q0v < q16) rfl (fun hc85 => ?_) (fun hc85 => ?_)
    ·replace hFL15 := it_t hc85 hFL15
     replace hFL15 := ar_s hFL15; obtain ⟨x88, hx88, hFL15⟩ := hFL15
     replace hFL15 := lv_s hFL15; obtain ⟨x89, hx89, hFL15⟩ := hFL15
     replace hFL15 := ck_s hFL15; obtain ⟨q5i, hFL15⟩ := hFL15
     replace hFL15 := lv_s hFL15; obtain ⟨x90, hx90, hFL15⟩ := hFL15
     replace hFL15 := ar_s hFL15; obtain ⟨x91, hx91, hFL15⟩ := hFL15
     replace hFL15 := ck_s hFL15; obtain ⟨q47, hFL15⟩ := hFL15
     replace hFL15 := lv_s hFL15; obtain ⟨x96, hx96, hFL15⟩ := hFL15
     replace hFL15 := ck_s hFL15; obtain ⟨q48, hFL15⟩ := hFL15
     replace hFL15 := lv_s hFL15; obtain ⟨x100, hx100, hFL15⟩ := hFL15
     refine x_skip <| x_block <| x_seq <| x_region <|
      p (yl_move q1s) <| p (yl_move q31) <| p (yadd rfl rfl hx88) <| p (yconvu wm_u64 uk_3 ik_153 rfl hx89) <|
      p (yshr rfl rfl q5i hx90) <| p (yconvi uk_153 ik_3 rfl hx91) <| p (yl_assign rfl) <| x_done <|
      x_seq <| x_head 9 mixed (by kernel_rfl) hS _ _ rfl rfl <| q (yl_move q3e) <| q (yl_move q1i) <|
      q (yl_move q2p) <| q (yix_o sl_22 rfl rfl hS q0e q47) <| qa (fun w' hS => at_load one_3 rfl (RepL.getW q0e hS q47 hx96)) <| q (yl_move q1i) <|
      q (yl_move rfl) <| q (yix_o sl_22 rfl rfl hS q0e q48) <| qa (fun w' hS => at_load one_3 rfl (RepL.getW q0e hS q48 hx100)) <|
      q_done fun w' hS => ?_
     replace hFL15 := bd_s hFL15; obtain ⟨q5w, q5j, hFL15⟩ := hFL15
     have hcall := c_legal_near_1 q5j q0i ((hS.pull 2).pull 2)
     refine o_ccv rfl call_44 (capargs (args2 rfl rfl)) ((Calls.mono hcall (fun e w'' h => And.intro h.1 (((h.2.pull 1).pull 1).pull 2)))) ?_
     rintro e w' ⟨rfl, hS⟩
     refine ⟨_, rfl, ?_⟩
     refine p (yl_lss rfl rfl) <| p (yl_not rfl) <| x_done <| ?_
     replace hFL15 := bd_s hFL15; obtain ⟨oc103, hFc103, hFL15⟩ := hFL15
     refine x_join (fun E w => ∃ (q1t : Int) (q1u : Int), (q1t, q1u) = oc103 ∧ E 0 = .slice q2 data0.length c_data0 ∧ E 2 = .int .i64 m2 ∧ E 4 = .func (.func 44) #[] #[.pointer (some ⟨q3, 0, none⟩)] ∧ E 14 = .int .i64 q1t ∧ E 15 = .int .i64 q1u ∧ St w0 w (vec 3 (RpI .i64).sz (.slice q2 data0.length c_data0) data0.length q0b :: cells q3 32 [.slice q4 q5.length c_cmp4_0_0] :: ro ρ :: l)) ?_ ?_
     ·refine x_cond (t := !(decide (q5w < 0))) rfl (fun hc103 => ?_) (fun hc103 => ?_)
      ·replace hFc103 := it_t hc103 hFc103
       replace hFc103 := ar_s hFc103; obtain ⟨x105, hx105, hFc103⟩ := hFc103
       refine x_region <| p (yl_move rfl) <| p (yadd rfl rfl hx105) <| p (yl_assign rfl) <|
        x_done <| ?_
       exact x_inv ⟨x105, q16, (sinj hFc103), q1i, q2p, q3e, rfl, q31, (((hS.pull 2).pull 2).pull 2)⟩
      ·replace hFc103 := it_bf hc103 hFc103
       refine x_region <| p (yl_move rfl) <| p (yl_assign rfl) <| x_done <| ?_
       exact x_inv ⟨q0v, x91, (sinj hFc103), q1i, q2p, q3e, q1s, rfl, (((hS.pull 2).pull 2).pull 2)⟩
     rintro E w ⟨q1t, q1u, rfl, q4u, q4v, q4w, q4e, q4f, hS⟩
     refine x_blk <| ?_
     have e_ := sinj hFL15; subst e_
     exact x_inv ⟨kL15, Nat.lt_succ_self _, q1t, q1u, hLL15, q4u, q4v, q4w, q4e, q4f, (((hS.pull 2).pull 2).pull 2)⟩
    ·replace hFL15 := it_f hc85 hFL15
     refine x_exitTo _ rfl <| ?_
     have e_ := sinj hFL15; subst e_
     exact x_inv ⟨q0v, hLL15, q1i, q2p, q1s, (((hS.pull 2).pull 2).pull 2)⟩
   rintro E w ⟨q14, rfl, q5k, q5l, q4x, hS⟩
   refine x_seq <| x_seq <| x_region <| p (yl_move q5l) <|
    p (yl_assign rfl) <| x_done <| ?_
   replace hF := bd_s hF; obtain ⟨oL21, hLL21, hF⟩ := hF
   refine x_join (fun E w => ∃ (q0p : List Value) (q17 : List Int), q17 = oL21 ∧ RepL (RpI .i64) ρ q17 q0p ∧ St w0 w (cells q3 32 [.slice q4 q5.length c_cmp4_0_0] :: vec 3 (RpI .i64).sz (.slice q2 data0.length c_data0) data0.length q0p :: ro ρ :: l)) ?_ ?_
   ·refine x_block ?_
    refine x_loop (fun k_ E w => ∃ (q0a : List Value) (q0y : List Int) (q6 : Int), lp (P_slices_symMergeCmpFunc_int_2_L21 q14) k_ (q0y, q6) = some oL21 ∧ E 0 = .slice q2 data0.length c_data0 ∧ E 14 = .int .i64 q14 ∧ E 17 = .int .i64 q6 ∧ RepL (RpI .i64) ρ q0y q0a ∧ St w0 w (vec 3 (RpI .i64).sz (.slice q2 data0.length c_data0) data0.length q0a :: cells q3 32 [.slice q4 q5.length c_cmp4_0_0] :: ro ρ :: l)) fuel ⟨q0b, data0, m2, hLL21, q5k, q4x, rfl, q0e, (((hS.pull 2).pull 2).pull 2)⟩ ?_
    rintro kL21 E w ⟨q0a, q0y, q6, hLL21, q1j, q3o, q0w, q0h, hS⟩
    replace hLL21 := lp_s hLL21; obtain ⟨kL21, obL21, rfl, hFL21, hLL21⟩ := hLL21
    refine x_seq <| x_seq <| x_region <| p (yl_move q0w) <|
     p (yl_move q3o) <| p (yl_gtr rfl rfl) <| x_done <|
     x_cond_p (q14 < q6) rfl (fun hc110 => ?_) (fun hc110 => ?_)
    ·replace hFL21 := it_t hc110 hFL21
     refine x_skip <| x_seq <| x_block <| ?_
     replace hFL21 := ar_s hFL21; obtain ⟨x117, hx117, hFL21⟩ := hFL21
     replace hFL21 := ar_s hFL21; obtain ⟨x120, hx120, hFL21⟩ := hFL21
     replace hFL21 := ck_s hFL21; obtain ⟨q49, hFL21⟩ := hFL21
     replace hFL21 := lv_s hFL21; obtain ⟨x122, hx122, hFL21⟩ := hFL21
     replace hFL21 := ck_s hFL21; obtain ⟨q3z, hFL21⟩ := hFL21
     replace hFL21 := lv_s hFL21; obtain ⟨x126, hx126, hFL21⟩ := hFL21
     replace hFL21 := ck_s hFL21; obtain ⟨q40, hFL21⟩ := hFL21
     replace hFL21 := lv_s hFL21; obtain ⟨q29, q4y, hFL21⟩ := hFL21
     replace hFL21 := ck_s hFL21; obtain ⟨q41, hFL21⟩ := hFL21
     replace hFL21 := lv_s hFL21; obtain ⟨q3a, q4z, hFL21⟩ := hFL21
     refine x_par (w0 := w0) [⟨[], [], [113], [], [], []⟩, ⟨[], [], [114], [], [], []⟩, ⟨[], [], [115], [], [], []⟩, ⟨[], [], [116], [], [], []⟩, ⟨[3], [3], [117], [], [], []⟩, ⟨[], [], [118], [], [], []⟩, ⟨[], [], [119], [], [], []⟩, ⟨[6], [6], [120], [], [], []⟩, ⟨[5, 6, 7], [5, 7], [121], [0], [], []⟩, ⟨[5, 6, 7, 8], [8], [122], [0], [], []⟩, ⟨[], [], [123], [], [], []⟩, ⟨[], [], [124], [], [], []⟩, ⟨[10, 11], [10, 11], [125], [0], [], []⟩, ⟨[10, 11, 12], [12], [126], [0], [], []⟩, ⟨[0, 1, 5, 6, 7, 8, 9, 10, 11, 12, 13], [0, 1], [127], [0], [], []⟩, ⟨[0, 1, 5, 6, 7, 8, 9, 10, 11, 12, 13, 14], [9, 14], [], [], [0], [1]⟩, ⟨[0, 1, 2, 3, 4, 5, 6, 7, 8, 9, 10, 11, 12, 13, 14, 15], [2, 4], [128], [2, 1], [], []⟩, ⟨[0, 1, 2, 3, 4, 5, 6, 7, 8, 9, 10, 11, 12, 13, 14, 15, 16], [13, 16], [], [2], [1], [3]⟩] [⟨none, (some 15), []⟩, ⟨(some 15), (some 17), []⟩, ⟨none, none, []⟩, ⟨(some 17), none, []⟩] [113, 114, 115, 116, 117, 118, 119, 120, 121, 122, 123, 124, 125, 126, 127, 128] [0, 2] [2, 3] [0, 1, 2, 3, 4, 5, 6, 7, 8, 9, 10, 11, 12, 13, 14, 16] [fun Ep23 => Ep23 113 = .slice q2 data0.length c_data0, fun Ep23 => Ep23 114 = .int .i64 q6, fun Ep23 => Ep23 115 = .slice q2 data0.length c_data0, fun Ep23 => Ep23 116 = .int .i64 q6, fun Ep23 => Ep23 117 = .int .i64 x117, fun Ep23 => Ep23 118 = .slice q2 data0.length c_data0, fun Ep23 => Ep23 119 = .int .i64 q6, fun Ep23 => Ep23 120 = .int .i64 x120, fun Ep23 => Ep23 121 = .pointer (some ((adr q2).add (x120.toNat * (RpI .i64).sz))), fun Ep23 => Ep23 122 = .int .i64 x122, fun Ep23 => Ep23 123 = .slice q2 data0.length c_data0, fun Ep23 => Ep23 124 = .int .i64 q6, fun Ep23 => Ep23 125 = .pointer (some ((adr q2).add (q6.toNat * (RpI .i64).sz))), fun Ep23 => Ep23 126 = .int .i64 x126, fun Ep23 => Ep23 127 = .pointer (some ((adr q2).add (q6.toNat * (RpI .i64).sz))), fun Ep23 => True, fun Ep23 => Ep23 128 = .pointer (some ((adr q2).add (x117.toNat * (RpI .i64).sz))), fun Ep23 => True] [fun Ep23 => vec 3 (RpI .i64).sz (.slice q2 data0.length c_data0) data0.length q0a, fun Ep23 => bunA (fun (q8 : List Value) => RepL (RpI .i64) ρ q29 q8) (fun (q8 : List Value) => [vec 3 (RpI .i64).sz (.slice q2 data0.length c_data0) data0.length q8]), fun Ep23 => ro ρ, fun Ep23 => bunA (fun (q0g : List Value) => RepL (RpI .i64) ρ q3a q0g) (fun (q0g : List Value) => [vec 3 (RpI .i64).sz (.slice q2 data0.length c_data0) data0.length q0g])] mixed (by kernel_rfl) ((hS.pull 2).pull 1) ?_ ?_
     ·refine ⟨?_, ?_, ?_, ?_, ?_, ?_, ?_, ?_, ?_, ?_, ?_, ?_, ?_, ?_, ?_, ?_, ?_, ?_, trivial⟩
      ·intro Ep23 w l' hE23 hO23 hF_ hS
       refine p (yl_move ((hE23 0 rfl).trans q1j)) <| x_done <| ?_
       refine x_fin ⟨⟨_, rfl⟩, rfl, ?_⟩
       exact emk hS
      ·intro Ep23 w l' hE23 hO23 hF_ hS
       refine p (yl_move ((hE23 17 rfl).trans q0w)) <| x_done <| ?_
       refine x_fin ⟨⟨_, rfl⟩, rfl, ?_⟩
       exact emk hS
      ·intro Ep23 w l' hE23 hO23 hF_ hS
       refine p (yl_move ((hE23 0 rfl).trans q1j)) <| x_done <| ?_
       refine x_fin ⟨⟨_, rfl⟩, rfl, ?_⟩
       exact emk hS
      ·intro Ep23 w l' hE23 hO23 hF_ hS
       refine p (yl_move ((hE23 17 rfl).trans q0w)) <| x_done <| ?_
       refine x_fin ⟨⟨_, rfl⟩, rfl, ?_⟩
       exact emk hS
      ·intro Ep23 w l' hE23 hO23 hF_ hS
       obtain ⟨q2q, -⟩ := hF_
       replace q2q : Ep23 116 = .int .i64 q6 := emk q2q
       refine p (ysub q2q rfl hx117) <| x_done <| ?_
       refine x_fin ⟨⟨_, rfl⟩, rfl, ?_⟩
       exact emk hS
      ·intro Ep23 w l' hE23 hO23 hF_ hS
       refine p (yl_move ((hE23 0 rfl).trans q1j)) <| x_done <| ?_
       refine x_fin ⟨⟨_, rfl⟩, rfl, ?_⟩
       exact emk hS
      ·intro Ep23 w l' hE23 hO23 hF_ hS
       refine p (yl_move ((hE23 17 rfl).trans q0w)) <| x_done <| ?_
       refine x_fin ⟨⟨_, rfl⟩, rfl, ?_⟩
       exact emk hS
      ·intro Ep23 w l' hE23 hO23 hF_ hS
       obtain ⟨q2r, -⟩ := hF_
       replace q2r : Ep23 119 = .int .i64 q6 := emk q2r
       refine p (ysub q2r rfl hx120) <| x_done <| ?_
       refine x_fin ⟨⟨_, rfl⟩, rfl, ?_⟩
       exact emk hS
      ·intro Ep23 w l' hE23 hO23 hF_ hS
       obtain ⟨q2s, q2t, -⟩ := hF_
       replace q2s : Ep23 118 = .slice q2 data0.length c_data0 := emk q2s
       replace q2t : Ep23 120 = .int .i64 x120 := emk q2t
       replace hS : St w0 w (vec 3 (RpI .i64).sz (.slice q2 data0.length c_data0) data0.length q0a :: l') := emk hS
       refine p (yix_o sl_22 q2s q2t hS q0h q49) <| x_done <| ?_
       refine x_fin ⟨⟨_, rfl⟩, rfl, ?_⟩
       exact emk hS
      ·intro Ep23 w l' hE23 hO23 hF_ hS
       obtain ⟨q2u, -⟩ := hF_
       replace q2u : Ep23 121 = .pointer (some ((adr q2).add (x120.toNat * (RpI .i64).sz))) := emk q2u
       replace hS : St w0 w (vec 3 (RpI .i64).sz (.slice q2 data0.length c_data0) data0.length q0a :: l') := emk hS
       refine pa (at_load one_3 q2u (RepL.getW q0h hS q49 hx122)) <| x_done <| ?_
       refine x_fin ⟨⟨_, rfl⟩, rfl, ?_⟩
       exact emk hS
      ·intro Ep23 w l' hE23 hO23 hF_ hS
       refine p (yl_move ((hE23 0 rfl).trans q1j)) <| x_done <| ?_
       refine x_fin ⟨⟨_, rfl⟩, rfl, ?_⟩
       exact emk hS
      ·intro Ep23 w l' hE23 hO23 hF_ hS
       refine p (yl_move ((hE23 17 rfl).trans q0w)) <| x_done <| ?_
       refine x_fin ⟨⟨_, rfl⟩, rfl, ?_⟩
       exact emk hS
      ·intro Ep23 w l' hE23 hO23 hF_ hS
       obtain ⟨q1k, q1l, -⟩ := hF_
       replace q1k : Ep23 123 = .slice q2 data0.length c_data0 := emk q1k
       replace q1l : Ep23 124 = .int .i64 q6 := emk q1l
       replace hS : St w0 w (vec 3 (RpI .i64).sz (.slice q2 data0.length c_data0) data0.length q0a :: l') := emk hS
       refine p (yix_o sl_22 q1k q1l hS q0h q3z) <| x_done <| ?_
       refine x_fin ⟨⟨_, rfl⟩, rfl, ?_⟩
       exact emk hS
      ·intro Ep23 w l' hE23 hO23 hF_ hS
       obtain ⟨q1m, -⟩ := hF_
       replace q1m : Ep23 125 = .pointer (some ((adr q2).add (q6.toNat * (RpI .i64).sz))) := emk q1m
       replace hS : St w0 w (vec 3 (RpI .i64).sz (.slice q2 data0.length c_data0) data0.length q0a :: l') := emk hS
       refine pa (at_load one_3 q1m (RepL.getW q0h hS q3z hx126)) <| x_done <| ?_
       refine x_fin ⟨⟨_, rfl⟩, rfl, ?_⟩
       exact emk hS
      ·intro Ep23 w l' hE23 hO23 hF_ hS
       obtain ⟨q2v, q2w, -⟩ := hF_
       replace q2v : Ep23 113 = .slice q2 data0.length c_data0 := emk q2v
       replace q2w : Ep23 114 = .int .i64 q6 := emk q2w
       replace hS : St w0 w (vec 3 (RpI .i64).sz (.slice q2 data0.length c_data0) data0.length q0a :: l') := emk hS
       refine p (yix_o sl_22 q2v q2w hS q0h q40) <| x_done <| ?_
       refine x_fin ⟨⟨_, rfl⟩, rfl, ?_⟩
       exact emk hS
      ·intro Ep23 w l' hE23 hO23 hF_ hS
       obtain ⟨q2x, q1n, -⟩ := hF_
       replace q2x : Ep23 122 = .int .i64 x122 := emk q2x
       replace q1n : Ep23 127 = .pointer (some ((adr q2).add (q6.toNat * (RpI .i64).sz))) := emk q1n
       replace hS : St w0 w (vec 3 (RpI .i64).sz (.slice q2 data0.length c_data0) data0.length q0a :: l') := emk hS
       refine o_put' (news := [.int .i64 x122]) sz_3 q1n q2x rfl rfl (o := 0) rfl q40 rfl hS q0h (Le.refl _) (fun c hc => ok_all hc (show (RpI .i64).ok ρ [.int .i64 x122] x122 from rfl)) q4y (fun q8 w' q15 hS => ?_)
       refine x_done <| ?_
       refine x_fin ⟨⟨undef, rfl⟩, trivial, ?_⟩
       replace hS := St.bun (Φ := (fun (q8 : List Value) => RepL (RpI .i64) ρ q29 q8)) (L := (fun (q8 : List Value) => [vec 3 (RpI .i64).sz (.slice q2 data0.length c_data0) data0.length q8])) q8 q15 hS
       exact emk hS
      ·intro Ep23 w l' hE23 hO23 hF_ hS
       obtain ⟨q2y, q2z, -⟩ := hF_
       replace q2y : Ep23 115 = .slice q2 data0.length c_data0 := emk q2y
       replace q2z : Ep23 117 = .int .i64 x117 := emk q2z
       replace hS : St w0 w (ro ρ :: bunA (fun (q8 : List Value) => RepL (RpI .i64) ρ q29 q8) (fun (q8 : List Value) => [vec 3 (RpI .i64).sz (.slice q2 data0.length c_data0) data0.length q8]) :: l') := emk hS
       have q_ := St.unbun (hS.pull 1); obtain ⟨q8, q15, hS⟩ := q_
       refine p (yix_o sl_22 q2y q2z hS q15 q41) <| x_done <| ?_
       refine x_fin ⟨⟨_, rfl⟩, rfl, ?_⟩
       replace hS := St.bun (Φ := (fun (q8 : List Value) => RepL (RpI .i64) ρ q29 q8)) (L := (fun (q8 : List Value) => [vec 3 (RpI .i64).sz (.slice q2 data0.length c_data0) data0.length q8])) q8 q15 hS
       exact emk (hS.pull 1)
      ·intro Ep23 w l' hE23 hO23 hF_ hS
       obtain ⟨q1o, q1p, -⟩ := hF_
       replace q1o : Ep23 126 = .int .i64 x126 := emk q1o
       replace q1p : Ep23 128 = .pointer (some ((adr q2).add (x117.toNat * (RpI .i64).sz))) := emk q1p
       replace hS : St w0 w (ro ρ :: bunA (fun (q8 : List Value) => RepL (RpI .i64) ρ q29 q8) (fun (q8 : List Value) => [vec 3 (RpI .i64).sz (.slice q2 data0.length c_data0) data0.length q8]) :: l') := emk hS
       have q_ := St.unbun (hS.pull 1); obtain ⟨q8, q15, hS⟩ := q_
       refine o_put' (news := [.int .i64 x126]) sz_3 q1p q1o rfl rfl (o := 0) rfl q41 rfl hS q15 (Le.refl _) (fun c hc => ok_all hc (show (RpI .i64).ok ρ [.int .i64 x126] x126 from rfl)) q4z (fun q0g w' q3f hS => ?_)
       refine x_done <| ?_
       refine x_fin ⟨⟨undef, rfl⟩, trivial, ?_⟩
       replace hS := St.bun (Φ := (fun (q0g : List Value) => RepL (RpI .i64) ρ q3a q0g)) (L := (fun (q0g : List Value) => [vec 3 (RpI .i64).sz (.slice q2 data0.length c_data0) data0.length q0g])) q0g q3f hS
       exact emk (hS.pull 1)
     intro Ep23 w' hE23 hF_ hS
     obtain ⟨q2v, q2w, q2y, q2q, q2z, q2s, q2r, q2t, q2u, q2x, q1k, q1l, q1m, q1o, q1n, q1p, -⟩ := hF_
     replace q2v : Ep23 113 = .slice q2 data0.length c_data0 := emk q2v
     replace q2w : Ep23 114 = .int .i64 q6 := emk q2w
     replace q2y : Ep23 115 = .slice q2 data0.length c_data0 := emk q2y
     replace q2q : Ep23 116 = .int .i64 q6 := emk q2q
     replace q2z : Ep23 117 = .int .i64 x117 := emk q2z
     replace q2s : Ep23 118 = .slice q2 data0.length c_data0 := emk q2s
     replace q2r : Ep23 119 = .int .i64 q6 := emk q2r
     replace q2t : Ep23 120 = .int .i64 x120 := emk q2t
     replace q2u : Ep23 121 = .pointer (some ((adr q2).add (x120.toNat * (RpI .i64).sz))) := emk q2u
     replace q2x : Ep23 122 = .int .i64 x122 := emk q2x
     replace q1k : Ep23 123 = .slice q2 data0.length c_data0 := emk q1k
     replace q1l : Ep23 124 = .int .i64 q6 := emk q1l
     replace q1m : Ep23 125 = .pointer (some ((adr q2).add (q6.toNat * (RpI .i64).sz))) := emk q1m
     replace q1o : Ep23 126 = .int .i64 x126 := emk q1o
     replace q1n : Ep23 127 = .pointer (some ((adr q2).add (q6.toNat * (RpI .i64).sz))) := emk q1n
     replace q1p : Ep23 128 = .pointer (some ((adr q2).add (x117.toNat * (RpI .i64).sz))) := emk q1p
     replace hS : St w0 w' (ro ρ :: bunA (fun (q0g : List Value) => RepL (RpI .i64) ρ q3a q0g) (fun (q0g : List Value) => [vec 3 (RpI .i64).sz (.slice q2 data0.length c_data0) data0.length q0g]) :: (cells q3 32 [.slice q4 q5.length c_cmp4_0_0] :: l)) := emk hS
     have q_ := St.unbun (hS.pull 1); obtain ⟨q0g, q3f, hS⟩ := q_
     replace hFL21 := ar_s hFL21; obtain ⟨x112, hx112, hFL21⟩ := hFL21
     refine x_blk <| x_region <| p (yl_move ((hE23 17 rfl).trans q0w)) <| p (ysub rfl rfl hx112) <|
      p (yl_assign rfl) <| x_done <| ?_
     have e_ := sinj hFL21; subst e_
     exact x_inv ⟨kL21, Nat.lt_succ_self _, q0g, q3a, x112, hLL21, ((hE23 0 rfl).trans q1j), ((hE23 14 rfl).trans q3o), rfl, q3f, (((hS.pull 1).pull 2).pull 2)⟩
    ·replace hFL21 := it_f hc110 hFL21
     refine x_exitTo _ rfl <| ?_
     have e_ := sinj hFL21; subst e_
     exact x_inv ⟨q0a, q0y, hLL21, q0h, (((hS.pull 2).pull 1).pull 2)⟩
   rintro E w ⟨q0p, q17, rfl, q3g, hS⟩
   have e_ := sinj hF; subst e_
   exact x_return ⟨_, rfl, q0p, rfl, q3g, (((hS.pull 2).pull 2).pull 2)⟩
  ·replace hF := it_f hc80 hF
   replace hF := ar_s hF; obtain ⟨x131, hx131, hF⟩ := hF
   replace hF := lv_s hF; obtain ⟨x132, hx132, hF⟩ := hF
   replace hF := ck_s hF; obtain ⟨q5m, hF⟩ := hF
   replace hF := lv_s hF; obtain ⟨x133, hx133, hF⟩ := hF
   replace hF := ar_s hF; obtain ⟨x134, hx134, hF⟩ := hF
   replace hF := ar_s hF; obtain ⟨x137, hx137, hF⟩ := hF
   refine x_skip <| x_seq <| x_region <| p (yl_move rfl) <|
    p (yl_move rfl) <| p (yadd rfl rfl hx131) <| p (yconvu wm_u64 uk_3 ik_153 rfl hx132) <| p (yshr rfl rfl q5m hx133) <|
    p (yconvi uk_153 ik_3 rfl hx134) <| p (yl_assign rfl) <| x_done <| x_seq <|
    x_region <| p (yl_move rfl) <| p (yl_move rfl) <| p (yadd rfl rfl hx137) <|
    p (yl_assign rfl) <| x_done <| x_seq <| x_region <|
    p (yl_assign rfl) <| p (yl_assign rfl) <| x_done <| x_seq <|
    x_seq <| x_region <| p (yl_move rfl) <| p (yl_move rfl) <|
    p (yl_gtr rfl rfl) <| x_done <| ?_
   replace hF := bd_s hF; obtain ⟨oc140, hFc140, hF⟩ := hF
   refine x_join (fun E w => ∃ (q0t : Int) (q1v : Int), (q0t, q1v) = oc140 ∧ E 0 = .slice q2 data0.length c_data0 ∧ E 1 = .int .i64 a1 ∧ E 2 = .int .i64 m2 ∧ E 3 = .int .i64 b3 ∧ E 4 = .func (.func 44) #[] #[.pointer (some ⟨q3, 0, none⟩)] ∧ E 18 = .int .i64 x134 ∧ E 19 = .int .i64 x137 ∧ E 20 = .int .i64 q0t ∧ E 21 = .int .i64 q1v ∧ St w0 w (vec 3 (RpI .i64).sz (.slice q2 data0.length c_data0) data0.length q0b :: cells q3 32 [.slice q4 q5.length c_cmp4_0_0] :: ro ρ :: l)) ?_ ?_
   ·refine x_cond_p (x134 < m2) rfl (fun hc140 => ?_) (fun hc140 => ?_)
    ·replace hFc140 := it_t hc140 hFc140
     replace hFc140 := ar_s hFc140; obtain ⟨x143, hx143, hFc140⟩ := hFc140
     refine x_seq <| x_region <| p (yl_move rfl) <| p (yl_move rfl) <|
      p (ysub rfl rfl hx143) <| p (yl_assign rfl) <| x_done <| x_region <|
      p (yl_move rfl) <| p (yl_assign rfl) <| x_done <| ?_
     exact x_inv ⟨x143, x134, (sinj hFc140), rfl, rfl, rfl, rfl, rfl, rfl, rfl, rfl, rfl, (((hS.pull 2).pull 2).pull 2)⟩
    ·replace hFc140 := it_f hc140 hFc140
     refine x_seq <| x_region <| p (yl_move rfl) <| p (yl_assign rfl) <|
      x_done <| x_region <| p (yl_move rfl) <| p (yl_assign rfl) <|
      x_done <| ?_
     exact x_inv ⟨a1, m2, (sinj hFc140), rfl, rfl, rfl, rfl, rfl, rfl, rfl, rfl, rfl, (((hS.pull 2).pull 2).pull 2)⟩
   rintro E w ⟨q0t, q1v, rfl, q50, q51, q52, q53, q54, q4g, q3p, q4h, q4i, hS⟩
   replace hF := ar_s hF; obtain ⟨x148, hx148, hF⟩ := hF
   refine x_seq <| x_region <| p (yl_move q3p) <| p (ysub rfl rfl hx148) <|
    p (yl_assign rfl) <| x_done <| x_seq <| ?_
   replace hF := bd_s hF; obtain ⟨oL33, hLL33, hF⟩ := hF
   refine x_join (fun E w => ∃ (q0d : Int), q0d = oL33 ∧ E 0 = .slice q2 data0.length c_data0 ∧ E 1 = .int .i64 a1 ∧ E 2 = .int .i64 m2 ∧ E 3 = .int .i64 b3 ∧ E 4 = .func (.func 44) #[] #[.pointer (some ⟨q3, 0, none⟩)] ∧ E 18 = .int .i64 x134 ∧ E 19 = .int .i64 x137 ∧ E 20 = .int .i64 q0d ∧ St w0 w (vec 3 (RpI .i64).sz (.slice q2 data0.length c_data0) data0.length q0b :: cells q3 32 [.slice q4 q5.length c_cmp4_0_0] :: ro ρ :: l)) ?_ ?_
   ·refine x_block ?_
    refine x_loop (fun k_ E w => ∃ (q0m : Int) (q18 : Int), lp (P_slices_symMergeCmpFunc_int_2_L33 data0 q5 x148) k_ (q0m, q18) = some oL33 ∧ E 0 = .slice q2 data0.length c_data0 ∧ E 1 = .int .i64 a1 ∧ E 2 = .int .i64 m2 ∧ E 3 = .int .i64 b3 ∧ E 4 = .func (.func 44) #[] #[.pointer (some ⟨q3, 0, none⟩)] ∧ E 18 = .int .i64 x134 ∧ E 19 = .int .i64 x137 ∧ E 20 = .int .i64 q0m ∧ E 21 = .int .i64 q18 ∧ E 22 = .int .i64 x148 ∧ St w0 w (vec 3 (RpI .i64).sz (.slice q2 data0.length c_data0) data0.length q0b :: cells q3 32 [.slice q4 q5.length c_cmp4_0_0] :: ro ρ :: l)) fuel ⟨q0t, q1v, hLL33, q50, q51, q52, q53, q54, q4g, q3p, q4h, q4i, rfl, (((hS.pull 2).pull 2).pull 2)⟩ ?_
    rintro kL33 E w ⟨q0m, q18, hLL33, q1q, q3h, q3i, q3j, q30, q32, q33, q1w, q34, q35, hS⟩
    replace hLL33 := lp_s hLL33; obtain ⟨kL33, obL33, rfl, hFL33, hLL33⟩ := hLL33
    refine x_seq <| x_seq <| x_region <| p (yl_move q1w) <|
     p (yl_move q34) <| p (yl_lss rfl rfl) <| x_done <|
     x_cond_p (q0m < q18) rfl (fun hc151 => ?_) (fun hc151 => ?_)
    ·replace hFL33 := it_t hc151 hFL33
     replace hFL33 := ar_s hFL33; obtain ⟨x154, hx154, hFL33⟩ := hFL33
     replace hFL33 := lv_s hFL33; obtain ⟨x155, hx155, hFL33⟩ := hFL33
     replace hFL33 := ck_s hFL33; obtain ⟨q5n, hFL33⟩ := hFL33
     replace hFL33 := lv_s hFL33; obtain ⟨x156, hx156, hFL33⟩ := hFL33
     replace hFL33 := ar_s hFL33; obtain ⟨x157, hx157, hFL33⟩ := hFL33
     replace hFL33 := ar_s hFL33; obtain ⟨x162, hx162, hFL33⟩ := hFL33
     replace hFL33 := ck_s hFL33; obtain ⟨q4a, hFL33⟩ := hFL33
     replace hFL33 := lv_s hFL33; obtain ⟨x164, hx164, hFL33⟩ := hFL33
     replace hFL33 := ck_s hFL33; obtain ⟨q4b, hFL33⟩ := hFL33
     replace hFL33 := lv_s hFL33; obtain ⟨x168, hx168, hFL33⟩ := hFL33
     refine x_skip <| x_block <| x_seq <| x_region <|
      p (yl_move q1w) <| p (yl_move q34) <| p (yadd rfl rfl hx154) <| p (yconvu wm_u64 uk_3 ik_153 rfl hx155) <|
      p (yshr rfl rfl q5n hx156) <| p (yconvi uk_153 ik_3 rfl hx157) <| p (yl_assign rfl) <| x_done <|
      x_seq <| x_head 11 mixed (by kernel_rfl) hS _ _ rfl rfl <| q (yl_move q30) <| q (yl_move q1q) <|
      q (yl_move q35) <| q (yl_move rfl) <| q (ysub rfl rfl hx162) <| q (yix_o sl_22 rfl rfl hS q0e q4a) <|
      qa (fun w' hS => at_load one_3 rfl (RepL.getW q0e hS q4a hx164)) <| q (yl_move q1q) <| q (yl_move rfl) <| q (yix_o sl_22 rfl rfl hS q0e q4b) <|
      qa (fun w' hS => at_load one_3 rfl (RepL.getW q0e hS q4b hx168)) <|
      q_done fun w' hS => ?_
     replace hFL33 := bd_s hFL33; obtain ⟨q5o, q55, hFL33⟩ := hFL33
     have hcall := c_legal_near_1 q55 q0i ((hS.pull 2).pull 2)
     refine o_ccv rfl call_44 (capargs (args2 rfl rfl)) ((Calls.mono hcall (fun e w'' h => And.intro h.1 (((h.2.pull 1).pull 1).pull 2)))) ?_
     rintro e w' ⟨rfl, hS⟩
     refine ⟨_, rfl, ?_⟩
     refine p (yl_lss rfl rfl) <| p (yl_not rfl) <| x_done <| ?_
     replace hFL33 := bd_s hFL33; obtain ⟨oc171, hFc171, hFL33⟩ := hFL33
     refine x_join (fun E w => ∃ (q0u : Int) (q1x : Int), (q0u, q1x) = oc171 ∧ E 0 = .slice q2 data0.length c_data0 ∧ E 1 = .int .i64 a1 ∧ E 2 = .int .i64 m2 ∧ E 3 = .int .i64 b3 ∧ E 4 = .func (.func 44) #[] #[.pointer (some ⟨q3, 0, none⟩)] ∧ E 18 = .int .i64 x134 ∧ E 19 = .int .i64 x137 ∧ E 20 = .int .i64 q0u ∧ E 21 = .int .i64 q1x ∧ E 22 = .int .i64 x148 ∧ St w0 w (vec 3 (RpI .i64).sz (.slice q2 data0.length c_data0) data0.length q0b :: cells q3 32 [.slice q4 q5.length c_cmp4_0_0] :: ro ρ :: l)) ?_ ?_
     ·refine x_cond (t := !(decide (q5o < 0))) rfl (fun hc171 => ?_) (fun hc171 => ?_)
      ·replace hFc171 := it_t hc171 hFc171
       replace hFc171 := ar_s hFc171; obtain ⟨x173, hx173, hFc171⟩ := hFc171
       refine x_region <| p (yl_move rfl) <| p (yadd rfl rfl hx173) <| p (yl_assign rfl) <|
        x_done <| ?_
       exact x_inv ⟨x173, q18, (sinj hFc171), q1q, q3h, q3i, q3j, q30, q32, q33, rfl, q34, q35, (((hS.pull 2).pull 2).pull 2)⟩
      ·replace hFc171 := it_bf hc171 hFc171
       refine x_region <| p (yl_move rfl) <| p (yl_assign rfl) <| x_done <| ?_
       exact x_inv ⟨q0m, x157, (sinj hFc171), q1q, q3h, q3i, q3j, q30, q32, q33, q1w, rfl, q35, (((hS.pull 2).pull 2).pull 2)⟩
     rintro E w ⟨q0u, q1x, rfl, q56, q57, q58, q59, q5a, q4j, q4k, q4l, q4m, q4n, hS⟩
     refine x_blk <| ?_
     have e_ := sinj hFL33; subst e_
     exact x_inv ⟨kL33, Nat.lt_succ_self _, q0u, q1x, hLL33, q56, q57, q58, q59, q5a, q4j, q4k, q4l, q4m, q4n, (((hS.pull 2).pull 2).pull 2)⟩
    ·replace hFL33 := it_f hc151 hFL33
     refine x_exitTo _ rfl <| ?_
     have e_ := sinj hFL33; subst e_
     exact x_inv ⟨q0m, hLL33, q1q, q3h, q3i, q3j, q30, q32, q33, q1w, (((hS.pull 2).pull 2).pull 2)⟩
   rintro E w ⟨q0d, rfl, q3q, q4c, q3r, q4d, q3s, q42, q5b, q1r, hS⟩
   replace hF := ar_s hF; obtain ⟨x177, hx177, hF⟩ := hF
   replace hF := lv_s hF; obtain ⟨x185, hx185, hF⟩ := hF
   refine x_seq <| x_region <| p (yl_move q5b) <| p (yl_move q1r) <|
    p (ysub rfl rfl hx177) <| p (yl_assign rfl) <| x_done <| x_seq <|
    x_seq <| x_region <| p (yl_move q1r) <| p (yl_move q3r) <|
    p (yl_lss rfl rfl) <| p (yl_move rfl) <| pg (v := .int .i64 m2) 181 (c := decide (q0d < m2)) (says_t _) (fun hq => Yl.at (yl_move q3r)) <| pg (v := .int .i64 x177) 181 (c := decide (q0d < m2)) (says_t _) (fun hq => Yl.at (yl_move rfl)) <|
    pg (v := .bool (decide (m2 < x177))) 181 (c := decide (q0d < m2)) (says_t _) (fun hq => Yl.at (yl_lss (cv hq) (cv hq))) <| p (yand' rfl (fun hc => (cv hc)) rfl hx185) <| x_done <| ?_
   replace hF := bd_s hF; obtain ⟨oc185, hFc185, hF⟩ := hF
   refine x_join (fun E w => ∃ (q0r : List Value) (q0z : List Int), q0z = oc185 ∧ E 0 = .slice q2 data0.length c_data0 ∧ E 1 = .int .i64 a1 ∧ E 3 = .int .i64 b3 ∧ E 4 = .func (.func 44) #[] #[.pointer (some ⟨q3, 0, none⟩)] ∧ E 18 = .int .i64 x134 ∧ E 20 = .int .i64 q0d ∧ E 24 = .int .i64 x177 ∧ RepL (RpI .i64) ρ q0z q0r ∧ St w0 w (vec 3 (RpI .i64).sz (.slice q2 data0.length c_data0) data0.length q0r :: cells q3 32 [.slice q4 q5.length c_cmp4_0_0] :: ro ρ :: l)) ?_ ?_
   ·refine x_cond (t := x185) rfl (fun hc185 => ?_) (fun hc185 => ?_)
    ·replace hFc185 := it_t hc185 hFc185
     replace hFc185 := bd_s hFc185; obtain ⟨q5x, q5p, hFc185⟩ := hFc185
     refine x_region <| p (yl_move q3q) <| p (yl_move q1r) <| p (yl_move q3r) <|
      p (yl_move rfl) <| p (yl_move q3s) <| ?_
     have hcall := c_slices_rotateCmpFunc_int_2 q5p q0e q0i (((hS.pull 2).pull 2).pull 2)
     refine o_cc call_80 (args5 rfl rfl rfl rfl rfl) hcall ?_
     rintro e w' ⟨q1y, rfl, q22, hS⟩
     refine ⟨_, rfl, ?_⟩
     refine x_done <| ?_
     exact x_inv ⟨q1y, q5x, (sinj hFc185), q3q, q4c, q4d, q3s, q42, q1r, rfl, q22, (((hS.pull 2).pull 1).pull 2)⟩
    ·replace hFc185 := it_bf hc185 hFc185
     refine x_skip <| ?_
     exact x_inv ⟨q0b, data0, (sinj hFc185), q3q, q4c, q4d, q3s, q42, q1r, rfl, q0e, (((hS.pull 2).pull 2).pull 2)⟩
   rintro E w ⟨q0r, q0z, rfl, q3k, q43, q44, q3l, q1z, q36, q3t, q2a, hS⟩
   replace hF := lv_s hF; obtain ⟨x199, hx199, hF⟩ := hF
   refine x_seq <| x_seq <| x_region <| p (yl_move q43) <|
    p (yl_move q36) <| p (yl_lss rfl rfl) <| p (yl_move rfl) <| pg (v := .int .i64 q0d) 195 (c := decide (a1 < q0d)) (says_t _) (fun hq => Yl.at (yl_move q36)) <|
    pg (v := .int .i64 x134) 195 (c := decide (a1 < q0d)) (says_t _) (fun hq => Yl.at (yl_move q1z)) <| pg (v := .bool (decide (q0d < x134))) 195 (c := decide (a1 < q0d)) (says_t _) (fun hq => Yl.at (yl_lss (cv hq) (cv hq))) <| p (yand' rfl (fun hc => (cv hc)) rfl hx199) <| x_done <| ?_
   replace hF := bd_s hF; obtain ⟨oc199, hFc199, hF⟩ := hF
   refine x_join (fun E w => ∃ (q0s : List Value) (q10 : List Int), q10 = oc199 ∧ E 0 = .slice q2 data0.length c_data0 ∧ E 3 = .int .i64 b3 ∧ E 4 = .func (.func 44) #[] #[.pointer (some ⟨q3, 0, none⟩)] ∧ E 18 = .int .i64 x134 ∧ E 24 = .int .i64 x177 ∧ RepL (RpI .i64) ρ q10 q0s ∧ St w0 w (vec 3 (RpI .i64).sz (.slice q2 data0.length c_data0) data0.length q0s :: cells q3 32 [.slice q4 q5.length c_cmp4_0_0] :: ro ρ :: l)) ?_ ?_
   ·refine x_cond (t := x199) rfl (fun hc199 => ?_) (fun hc199 => ?_)
    ·replace hFc199 := it_t hc199 hFc199
     replace hFc199 := bd_s hFc199; obtain ⟨q5y, q5q, hFc199⟩ := hFc199
     refine x_region <| p (yl_move q3k) <| p (yl_move q43) <| p (yl_move q36) <|
      p (yl_move q1z) <| p (yl_move q3l) <| ?_
     have hcall := ih q5q q2a q0i (((hS.pull 2).pull 2).pull 2)
     refine o_cc call_72 (args5 rfl rfl rfl rfl rfl) hcall ?_
     rintro e w' ⟨q20, rfl, q23, hS⟩
     refine ⟨_, rfl, ?_⟩
     refine x_done <| ?_
     exact x_inv ⟨q20, q5y, (sinj hFc199), q3k, q44, q3l, q1z, q3t, q23, (((hS.pull 2).pull 1).pull 2)⟩
    ·replace hFc199 := it_bf hc199 hFc199
     refine x_skip <| ?_
     exact x_inv ⟨q0r, q0z, (sinj hFc199), q3k, q44, q3l, q1z, q3t, q2a, (((hS.pull 2).pull 2).pull 2)⟩
   rintro E w ⟨q0s, q10, rfl, q5c, q45, q5d, q3u, q37, q2b, hS⟩
   replace hF := lv_s hF; obtain ⟨x213, hx213, hF⟩ := hF
   refine x_seq <| x_region <| p (yl_move q3u) <| p (yl_move q37) <|
    p (yl_lss rfl rfl) <| p (yl_move rfl) <| pg (v := .int .i64 x177) 209 (c := decide (x134 < x177)) (says_t _) (fun hq => Yl.at (yl_move q37)) <| pg (v := .int .i64 b3) 209 (c := decide (x134 < x177)) (says_t _) (fun hq => Yl.at (yl_move q45)) <|
    pg (v := .bool (decide (x177 < b3))) 209 (c := decide (x134 < x177)) (says_t _) (fun hq => Yl.at (yl_lss (cv hq) (cv hq))) <| p (yand' rfl (fun hc => (cv hc)) rfl hx213) <| x_done <| ?_
   replace hF := bd_s hF; obtain ⟨oc213, hFc213, hF⟩ := hF
   refine x_join (fun E w => ∃ (q0o : List Value) (q0x : List Int), q0x = oc213 ∧ RepL (RpI .i64) ρ q0x q0o ∧ St w0 w (cells q3 32 [.slice q4 q5.length c_cmp4_0_0] :: vec 3 (RpI .i64).sz (.slice q2 data0.length c_data0) data0.length q0o :: ro ρ :: l)) ?_ ?_
   ·refine x_cond (t := x213) rfl (fun hc213 => ?_) (fun hc213 => ?_)
    ·replace hFc213 := it_t hc213 hFc213
     replace hFc213 := bd_s hFc213; obtain ⟨q5z, q5r, hFc213⟩ := hFc213
     refine x_region <| p (yl_move q5c) <| p (yl_move q3u) <| p (yl_move q37) <|
      p (yl_move q45) <| p (yl_move q5d) <| ?_
     have hcall := ih q5r q2b q0i (((hS.pull 2).pull 2).pull 2)
     refine o_cc call_72 (args5 rfl rfl rfl rfl rfl) hcall ?_
     rintro e w' ⟨q21, rfl, q24, hS⟩
     refine ⟨_, rfl, ?_⟩
     refine x_done <| ?_
     exact x_inv ⟨q21, q5z, (sinj hFc213), q24, (((hS.pull 2).pull 2).pull 2)⟩
    ·replace hFc213 := it_bf hc213 hFc213
     refine x_skip <| ?_
     exact x_inv ⟨q0s, q10, (sinj hFc213), q2b, (((hS.pull 2).pull 1).pull 2)⟩
   rintro E w ⟨q0o, q0x, rfl, q3b, hS⟩
   have e_ := sinj hF; subst e_
   exact x_fin ⟨_, rfl, q0o, rfl, q3b, (((hS.pull 2).pull 2).pull 2)⟩
theorem c_slices_symMergeCmpFunc_int_2_n : ∀ (n : Nat), ∀ {w0 w : World} {l : List Assn} {ρ : Heap} {q7 : Option Addr} {q3 : Nat} {c_data0 : Nat} {q8 : List Value} {q6 : Nat} {q4 : Option Addr} {q5 : Nat} {c_cmp4_0_0 : Nat} {data0 : List Int} {a1 : Int} {m2 : Int} {b3 : Int} {q9 : List T_floor_Point} {r : List Int} (hF : rcf P_slices_symMergeCmpFunc_int_2_B n (data0, a1, m2, b3, q9) = some r) (q0b : RepL (RpI .i64) ρ data0 q8) (q0a : RdS R_floor_Point ρ q4 q5 c_cmp4_0_0 q9) (hS : St w0 w (vec 3 (RpI .i64).sz (.slice q7 q3 c_data0) q3 q8 :: cells q6 32 [.slice q4 q5 c_cmp4_0_0] :: ro ρ :: l)),
  Calls Tryd.prog 72 #[.slice q7 q3 c_data0, .int .i64 a1, .int .i64 m2, .int .i64 b3, .func (.func 44) #[] #[.pointer (some ⟨q6, 0, none⟩)]] w fun e w' => ∃ (q2 : List Value), e = .returned (.tuple #[]) ∧ RepL (RpI .i64) ρ r q2 ∧ St w0 w' (cells q6 32 [.slice q4 q5 c_cmp4_0_0] :: vec 3 (RpI .i64).sz (.slice q7 q3 c_data0) q3 q2 :: ro ρ :: l)
 | 0 => by intros; rename_i hF _; cases (show none = some _ from by first | exact hF | assumption)
 | n + 1 => c_slices_symMergeCmpFunc_int_2_s (rcf P_slices_symMergeCmpFunc_int_2_B n) (c_slices_symMergeCmpFunc_int_2_n n)
theorem c_slices_symMergeCmpFunc_int_2 {w0 w : World} {l : List Assn} {ρ : Heap} {q7 : Option Addr} {q3 : Nat} {c_data0 : Nat} {q8 : List Value} {q6 : Nat} {q4 : Option Addr} {q5 : Nat} {c_cmp4_0_0 : Nat} {data0 : List Int} {a1 : Int} {m2 : Int} {b3 : Int} {q9 : List T_floor_Point} {r : List Int} (hF : P_slices_symMergeCmpFunc_int_2 data0 a1 m2 b3 q9 = some r) (q0b : RepL (RpI .i64) ρ data0 q8) (q0a : RdS R_floor_Point ρ q4 q5 c_cmp4_0_0 q9) (hS : St w0 w (vec 3 (RpI .i64).sz (.slice q7 q3 c_data0) q3 q8 :: cells q6 32 [.slice q4 q5 c_cmp4_0_0] :: ro ρ :: l)) :
  Calls Tryd.prog 72 #[.slice q7 q3 c_data0, .int .i64 a1, .int .i64 m2, .int .i64 b3, .func (.func 44) #[] #[.pointer (some ⟨q6, 0, none⟩)]] w fun e w' => ∃ (q2 : List Value), e = .returned (.tuple #[]) ∧ RepL (RpI .i64) ρ r q2 ∧ St w0 w' (cells q6 32 [.slice q4 q5 c_cmp4_0_0] :: vec 3 (RpI .i64).sz (.slice q7 q3 c_data0) q3 q2 :: ro ρ :: l) := c_slices_symMergeCmpFunc_int_2_n fuel hF q0b q0a hS
attribute [irreducible] P_slices_symMergeCmpFunc_int_2

def P_slices_stableCmpFunc_int_2_L2 (n1 : Int) (q5 : List T_floor_Point) : (List Int × Int × Int) → Option ((List Int × Int × Int) ⊕ (List Int × Int)) := fun (q3, q4, q2) =>
 if q2 ≤ n1 then
  bd (P_slices_insertionSortCmpFunc_int_2 q3 q4 q2 q5) fun q6 =>
  ar (q2 + 20) fun x22 =>
  some (Sum.inl (q6, q2, x22))
 else
  some (Sum.inr (q3, q4))
def P_slices_stableCmpFunc_int_2_L9 (n1 : Int) (q6 : List T_floor_Point) (q2 : Int) : (List Int × Int × Int) → Option ((List Int × Int × Int) ⊕ (List Int × Int)) := fun (q4, q5, q3) =>
 if q3 ≤ n1 then
  ar (q5 + q2) fun x40 =>
  bd (P_slices_symMergeCmpFunc_int_2 q4 q5 x40 q3 q6) fun q7 =>
  ar ((2 : Int) * q2) fun x47 =>
  ar (q3 + x47) fun x48 =>
  some (Sum.inl (q7, q3, x48))
 else
  some (Sum.inr (q4, q5))
def P_slices_stableCmpFunc_int_2_L7 (n1 : Int) (q4 : List T_floor_Point) : (List Int × Int) → Option ((List Int × Int) ⊕ List Int) := fun (q3, q2) =>
 if q2 < n1 then
  ar ((2 : Int) * q2) fun x32 =>
  bd (
   lp (P_slices_stableCmpFunc_int_2_L9 n1 q4 q2) fuel (q3, 0, x32)) fun (q5, q7) =>
  ar (q7 + q2) fun x51 =>
  bd (
   if x51 < n1 then
    bd (P_slices_symMergeCmpFunc_int_2 q5 q7 x51 n1 q4) fun q8 =>
    some q8
   else
    some q5) fun q6 =>
  ar (q2 * 2) fun x62 =>
  some (Sum.inl (q6, x62))
 else
  some (Sum.inr q3)
def P_slices_stableCmpFunc_int_2 (data0 : List Int) (n1 : Int) (q2 : List T_floor_Point) : Option (List Int) :=
 bd (
  lp (P_slices_stableCmpFunc_int_2_L2 n1 q2) fuel (data0, 0, 20)) fun (q4, q5) =>
 bd (P_slices_insertionSortCmpFunc_int_2 q4 q5 n1 q2) fun q6 =>
 bd (
  lp (P_slices_stableCmpFunc_int_2_L7 n1 q2) fuel (q6, 20)) fun q3 =>
 some q3
theorem c_slices_stableCmpFunc_int_2 {w0 w : World} {l : List Assn} {ρ : Heap} {q4 : Option Addr} {q0l : Nat} {c_data0 : Nat} {q11 : List Value} {q2 : Nat} {q5 : Option Addr} {q0m : Nat} {c_cmp2_0_0 : Nat} {data0 : List Int} {n1 : Int} {q6 : List T_floor_Point} {r : List Int} (hF : P_slices_stableCmpFunc_int_2 data0 n1 q6 = some r) (q1l : RepL (RpI .i64) ρ data0 q11) (q9 : RdS R_floor_Point ρ q5 q0m c_cmp2_0_0 q6) (hS : St w0 w (vec 3 (RpI .i64).sz (.slice q4 q0l c_data0) q0l q11 :: cells q2 32 [.slice q5 q0m c_cmp2_0_0] :: ro ρ :: l)) :
  Calls Tryd.prog 58 #[.slice q4 q0l c_data0, .int .i64 n1, .func (.func 44) #[] #[.pointer (some ⟨q2, 0, none⟩)]] w fun e w' => ∃ (q0f : List Value), e = .returned (.tuple #[]) ∧ RepL (RpI .i64) ρ r q0f ∧ St w0 w' (cells q2 32 [.slice q5 q0m c_cmp2_0_0] :: vec 3 (RpI .i64).sz (.slice q4 q0l c_data0) q0l q0f :: ro ρ :: l) := by
 have e_ := St.vec_n hS q1l; subst e_
 have e_ := q9.n; subst e_
 refine enterC Tryd.func58 rfl 63 rfl (by simp) ?_
 refine x_seq <| x_region <| p (yl_assign rfl) <| x_done <|
  x_seq <| x_region <| p (yl_move rfl) <| p (yl_assign rfl) <|
  p (yl_assign rfl) <| x_done <| x_seq <| ?_
 replace hF := bd_s hF; obtain ⟨oL2, hLL2, hF⟩ := hF
 refine x_join (fun E w => ∃ (q0j : List Value) (q12 : List Int) (q1m : Int), (q12, q1m) = oL2 ∧ E 0 = .slice q4 data0.length c_data0 ∧ E 1 = .int .i64 n1 ∧ E 2 = .func (.func 44) #[] #[.pointer (some ⟨q2, 0, none⟩)] ∧ E 6 = .int .i64 20 ∧ E 7 = .int .i64 q1m ∧ RepL (RpI .i64) ρ q12 q0j ∧ St w0 w (vec 3 (RpI .i64).sz (.slice q4 data0.length c_data0) data0.length q0j :: cells q2 32 [.slice q5 q6.length c_cmp2_0_0] :: ro ρ :: l)) ?_ ?_
 ·refine x_block ?_
  refine x_loop (fun k_ E w => ∃ (q0a : List Value) (q0g : List Int) (q13 : Int) (q0u : Int), lp (P_slices_stableCmpFunc_int_2_L2 n1 q6) k_ (q0g, q13, q0u) = some oL2 ∧ E 0 = .slice q4 data0.length c_data0 ∧ E 1 = .int .i64 n1 ∧ E 2 = .func (.func 44) #[] #[.pointer (some ⟨q2, 0, none⟩)] ∧ E 6 = .int .i64 20 ∧ E 7 = .int .i64 q13 ∧ E 8 = .int .i64 q0u ∧ RepL (RpI .i64) ρ q0g q0a ∧ St w0 w (vec 3 (RpI .i64).sz (.slice q4 data0.length c_data0) data0.length q0a :: cells q2 32 [.slice q5 q6.length c_cmp2_0_0] :: ro ρ :: l)) fuel ⟨q11, data0, 0, 20, hLL2, rfl, rfl, rfl, rfl, rfl, rfl, q1l, (((hS.pull 2).pull 2).pull 2)⟩ ?_
  rintro kL2 E w ⟨q0a, q0g, q13, q0u, hLL2, q1b, q1c, q1d, q1e, q1s, q14, q0y, hS⟩
  replace hLL2 := lp_s hLL2; obtain ⟨kL2, obL2, rfl, hFL2, hLL2⟩ := hLL2
  refine x_seq <| x_seq <| x_region <| p (yl_move q14) <|
   p (yl_move q1c) <| p (yl_leq rfl rfl) <| x_done <|
   x_cond_p (q0u ≤ n1) rfl (fun hc13 => ?_) (fun hc13 => ?_)
  ·replace hFL2 := it_t hc13 hFL2
   replace hFL2 := bd_s hFL2; obtain ⟨q2c, q26, hFL2⟩ := hFL2
   refine x_skip <| x_block <| x_seq <| x_region <|
    p (yl_move q1b) <| p (yl_move q1s) <| p (yl_move q14) <| p (yl_move q1d) <| ?_
   have hcall := c_slices_insertionSortCmpFunc_int_2 q26 q0y q9 (((hS.pull 2).pull 2).pull 2)
   refine o_cc call_71 (args4 rfl rfl rfl rfl) hcall ?_
   rintro e w' ⟨q0q, rfl, q0v, hS⟩
   refine ⟨_, rfl, ?_⟩
   replace hFL2 := ar_s hFL2; obtain ⟨x22, hx22, hFL2⟩ := hFL2
   refine x_done <| x_seq <| x_region <| p (yl_move q14) <|
    p (yl_assign rfl) <| x_done <| x_region <| p (yl_move q14) <|
    p (yl_move q1e) <| p (yadd rfl rfl hx22) <| p (yl_assign rfl) <| x_done <|
    x_blk <| ?_
   have e_ := sinj hFL2; subst e_
   exact x_inv ⟨kL2, Nat.lt_succ_self _, q0q, q2c, q0u, x22, hLL2, q1b, q1c, q1d, q1e, rfl, rfl, q0v, (((hS.pull 2).pull 1).pull 2)⟩
  ·replace hFL2 := it_f hc13 hFL2
   refine x_exitTo _ rfl <| ?_
   have e_ := sinj hFL2; subst e_
   exact x_inv ⟨q0a, q0g, q13, hLL2, q1b, q1c, q1d, q1e, q1s, q0y, (((hS.pull 2).pull 2).pull 2)⟩
 rintro E w ⟨q0j, q12, q1m, rfl, q1u, q1v, q1w, q27, q28, q1n, hS⟩
 replace hF := bd_s hF; obtain ⟨q2d, q29, hF⟩ := hF
 refine x_seq <| x_region <| p (yl_move q1u) <| p (yl_move q28) <|
  p (yl_move q1v) <| p (yl_move q1w) <| ?_
 have hcall := c_slices_insertionSortCmpFunc_int_2 q29 q1n q9 (((hS.pull 2).pull 2).pull 2)
 refine o_cc call_71 (args4 rfl rfl rfl rfl) hcall ?_
 rintro e w' ⟨q0r, rfl, q0w, hS⟩
 refine ⟨_, rfl, ?_⟩
 refine x_done <| ?_
 replace hF := bd_s hF; obtain ⟨oL7, hLL7, hF⟩ := hF
 refine x_join (fun E w => ∃ (q8 : List Value) (q0k : List Int), q0k = oL7 ∧ RepL (RpI .i64) ρ q0k q8 ∧ St w0 w (cells q2 32 [.slice q5 q6.length c_cmp2_0_0] :: vec 3 (RpI .i64).sz (.slice q4 data0.length c_data0) data0.length q8 :: ro ρ :: l)) ?_ ?_
 ·refine x_block ?_
  refine x_loop (fun k_ E w => ∃ (q7 : List Value) (q0e : List Int) (q3 : Int), lp (P_slices_stableCmpFunc_int_2_L7 n1 q6) k_ (q0e, q3) = some oL7 ∧ E 0 = .slice q4 data0.length c_data0 ∧ E 1 = .int .i64 n1 ∧ E 2 = .func (.func 44) #[] #[.pointer (some ⟨q2, 0, none⟩)] ∧ E 6 = .int .i64 q3 ∧ RepL (RpI .i64) ρ q0e q7 ∧ St w0 w (vec 3 (RpI .i64).sz (.slice q4 data0.length c_data0) data0.length q7 :: cells q2 32 [.slice q5 q6.length c_cmp2_0_0] :: ro ρ :: l)) fuel ⟨q0r, q2d, 20, hLL7, q1u, q1v, q1w, q27, q0w, (((hS.pull 2).pull 1).pull 2)⟩ ?_
  rintro kL7 E w ⟨q7, q0e, q3, hLL7, q1y, q1t, q1z, q1f, q0z, hS⟩
  replace hLL7 := lp_s hLL7; obtain ⟨kL7, obL7, rfl, hFL7, hLL7⟩ := hLL7
  refine x_seq <| x_seq <| x_region <| p (yl_move q1f) <|
   p (yl_move q1t) <| p (yl_lss rfl rfl) <| x_done <|
   x_cond_p (q3 < n1) rfl (fun hc30 => ?_) (fun hc30 => ?_)
  ·replace hFL7 := it_t hc30 hFL7
   replace hFL7 := ar_s hFL7; obtain ⟨x32, hx32, hFL7⟩ := hFL7
   refine x_skip <| x_block <| x_seq <| x_region <|
    p (yl_move q1f) <| p (ymul rfl rfl hx32) <| p (yl_assign rfl) <| p (yl_assign rfl) <|
    x_done <| x_seq <| ?_
   replace hFL7 := bd_s hFL7; obtain ⟨oL9, hLL9, hFL7⟩ := hFL7
   refine x_join (fun E w => ∃ (q0d : List Value) (q0n : List Int) (q1o : Int), (q0n, q1o) = oL9 ∧ E 0 = .slice q4 data0.length c_data0 ∧ E 1 = .int .i64 n1 ∧ E 2 = .func (.func 44) #[] #[.pointer (some ⟨q2, 0, none⟩)] ∧ E 6 = .int .i64 q3 ∧ E 7 = .int .i64 q1o ∧ RepL (RpI .i64) ρ q0n q0d ∧ St w0 w (vec 3 (RpI .i64).sz (.slice q4 data0.length c_data0) data0.length q0d :: cells q2 32 [.slice q5 q6.length c_cmp2_0_0] :: ro ρ :: l)) ?_ ?_
   ·refine x_block ?_
    refine x_loop (fun k_ E w => ∃ (q0b : List Value) (q0h : List Int) (q15 : Int) (q0x : Int), lp (P_slices_stableCmpFunc_int_2_L9 n1 q6 q3) k_ (q0h, q15, q0x) = some oL9 ∧ E 0 = .slice q4 data0.length c_data0 ∧ E 1 = .int .i64 n1 ∧ E 2 = .func (.func 44) #[] #[.pointer (some ⟨q2, 0, none⟩)] ∧ E 6 = .int .i64 q3 ∧ E 7 = .int .i64 q15 ∧ E 8 = .int .i64 q0x ∧ RepL (RpI .i64) ρ q0h q0b ∧ St w0 w (vec 3 (RpI .i64).sz (.slice q4 data0.length c_data0) data0.length q0b :: cells q2 32 [.slice q5 q6.length c_cmp2_0_0] :: ro ρ :: l)) fuel ⟨q7, q0e, 0, x32, hLL9, q1y, q1t, q1z, q1f, rfl, rfl, q0z, (((hS.pull 2).pull 2).pull 2)⟩ ?_
    rintro kL9 E w ⟨q0b, q0h, q15, q0x, hLL9, q1g, q1h, q1i, q16, q1j, q17, q10, hS⟩
    replace hLL9 := lp_s hLL9; obtain ⟨kL9, obL9, rfl, hFL9, hLL9⟩ := hLL9
    refine x_seq <| x_seq <| x_region <| p (yl_move q17) <|
     p (yl_move q1h) <| p (yl_leq rfl rfl) <| x_done <|
     x_cond_p (q0x ≤ n1) rfl (fun hc35 => ?_) (fun hc35 => ?_)
    ·replace hFL9 := it_t hc35 hFL9
     replace hFL9 := ar_s hFL9; obtain ⟨x40, hx40, hFL9⟩ := hFL9
     replace hFL9 := bd_s hFL9; obtain ⟨q2a, q20, hFL9⟩ := hFL9
     refine x_skip <| x_block <| x_seq <| x_region <|
      p (yl_move q1g) <| p (yl_move q1j) <| p (yl_move q1j) <| p (yl_move q16) <|
      p (yadd rfl rfl hx40) <| p (yl_move q17) <| p (yl_move q1i) <| ?_
     have hcall := c_slices_symMergeCmpFunc_int_2 q20 q10 q9 (((hS.pull 2).pull 2).pull 2)
     refine o_cc call_72 (args5 rfl rfl rfl rfl rfl) hcall ?_
     rintro e w' ⟨q0o, rfl, q0s, hS⟩
     refine ⟨_, rfl, ?_⟩
     replace hFL9 := ar_s hFL9; obtain ⟨x47, hx47, hFL9⟩ := hFL9
     replace hFL9 := ar_s hFL9; obtain ⟨x48, hx48, hFL9⟩ := hFL9
     refine x_done <| x_seq <| x_region <| p (yl_move q17) <|
      p (yl_assign rfl) <| x_done <| x_region <| p (yl_move q17) <|
      p (yl_move q16) <| p (ymul rfl rfl hx47) <| p (yadd rfl rfl hx48) <| p (yl_assign rfl) <|
      x_done <| x_blk <| ?_
     have e_ := sinj hFL9; subst e_
     exact x_inv ⟨kL9, Nat.lt_succ_self _, q0o, q2a, q0x, x48, hLL9, q1g, q1h, q1i, q16, rfl, rfl, q0s, (((hS.pull 2).pull 1).pull 2)⟩
    ·replace hFL9 := it_f hc35 hFL9
     refine x_exitTo _ rfl <| ?_
     have e_ := sinj hFL9; subst e_
     exact x_inv ⟨q0b, q0h, q15, hLL9, q1g, q1h, q1i, q16, q1j, q10, (((hS.pull 2).pull 2).pull 2)⟩
   rintro E w ⟨q0d, q0n, q1o, rfl, q1p, q1a, q1q, q1r, q1x, q18, hS⟩
   replace hFL7 := ar_s hFL7; obtain ⟨x51, hx51, hFL7⟩ := hFL7
   refine x_seq <| x_seq <| x_region <| p (yl_move q1x) <|
    p (yl_move q1r) <| p (yadd rfl rfl hx51) <| p (yl_assign rfl) <| x_done <|
    x_seq <| x_region <| p (yl_move rfl) <| p (yl_move q1a) <|
    p (yl_lss rfl rfl) <| x_done <| ?_
   replace hFL7 := bd_s hFL7; obtain ⟨oc54, hFc54, hFL7⟩ := hFL7
   refine x_join (fun E w => ∃ (q0c : List Value) (q0i : List Int), q0i = oc54 ∧ E 0 = .slice q4 data0.length c_data0 ∧ E 1 = .int .i64 n1 ∧ E 2 = .func (.func 44) #[] #[.pointer (some ⟨q2, 0, none⟩)] ∧ E 6 = .int .i64 q3 ∧ RepL (RpI .i64) ρ q0i q0c ∧ St w0 w (vec 3 (RpI .i64).sz (.slice q4 data0.length c_data0) data0.length q0c :: cells q2 32 [.slice q5 q6.length c_cmp2_0_0] :: ro ρ :: l)) ?_ ?_
   ·refine x_cond_p (x51 < n1) rfl (fun hc54 => ?_) (fun hc54 => ?_)
    ·replace hFc54 := it_t hc54 hFc54
     replace hFc54 := bd_s hFc54; obtain ⟨q2b, q21, hFc54⟩ := hFc54
     refine x_region <| p (yl_move q1p) <| p (yl_move q1x) <| p (yl_move rfl) <|
      p (yl_move q1a) <| p (yl_move q1q) <| ?_
     have hcall := c_slices_symMergeCmpFunc_int_2 q21 q18 q9 (((hS.pull 2).pull 2).pull 2)
     refine o_cc call_72 (args5 rfl rfl rfl rfl rfl) hcall ?_
     rintro e w' ⟨q0p, rfl, q0t, hS⟩
     refine ⟨_, rfl, ?_⟩
     refine x_done <| ?_
     exact x_inv ⟨q0p, q2b, (sinj hFc54), q1p, q1a, q1q, q1r, q0t, (((hS.pull 2).pull 1).pull 2)⟩
    ·replace hFc54 := it_f hc54 hFc54
     refine x_skip <| ?_
     exact x_inv ⟨q0d, q0n, (sinj hFc54), q1p, q1a, q1q, q1r, q18, (((hS.pull 2).pull 2).pull 2)⟩
   rintro E w ⟨q0c, q0i, rfl, q22, q23, q24, q25, q1k, hS⟩
   replace hFL7 := ar_s hFL7; obtain ⟨x62, hx62, hFL7⟩ := hFL7
   refine x_region <| p (yl_move q25) <| p (ymul rfl rfl hx62) <| p (yl_assign rfl) <|
    x_done <| x_blk <| ?_
   have e_ := sinj hFL7; subst e_
   exact x_inv ⟨kL7, Nat.lt_succ_self _, q0c, q0i, x62, hLL7, q22, q23, q24, rfl, q1k, (((hS.pull 2).pull 2).pull 2)⟩
  ·replace hFL7 := it_f hc30 hFL7
   refine x_exitTo _ rfl <| ?_
   have e_ := sinj hFL7; subst e_
   exact x_inv ⟨q7, q0e, hLL7, q0z, (((hS.pull 2).pull 1).pull 2)⟩
 rintro E w ⟨q8, q0k, rfl, q19, hS⟩
 have e_ := sinj hF; subst e_
 exact x_fin ⟨_, rfl, q8, rfl, q19, (((hS.pull 2).pull 2).pull 2)⟩
attribute [irreducible] P_slices_stableCmpFunc_int_2

def P_slices_SortStableFunc_int_int_2 (x0 : List Int) (q2 : List T_floor_Point) : Option (List Int) :=
 bd (P_slices_stableCmpFunc_int_2 x0 (x0.length : Int) q2) fun q3 =>
 some q3
theorem c_slices_SortStableFunc_int_int_2 {w0 w : World} {l : List Assn} {ρ : Heap} {q0b : Option Addr} {q9 : Nat} {c_x0 : Nat} {q0c : List Value} {q7 : Nat} {q2 : Option Addr} {q3 : Nat} {c_cmp1_0_0 : Nat} {x0 : List Int} {q0a : List T_floor_Point} {r : List Int} (hF : P_slices_SortStableFunc_int_int_2 x0 q0a = some r) (q0d : RepL (RpI .i64) ρ x0 q0c) (q8 : RdS R_floor_Point ρ q2 q3 c_cmp1_0_0 q0a) (hS : St w0 w (vec 3 (RpI .i64).sz (.slice q0b q9 c_x0) q9 q0c :: cells q7 32 [.slice q2 q3 c_cmp1_0_0] :: ro ρ :: l)) :
  Calls Tryd.prog 43 #[.slice q0b q9 c_x0, .func (.func 44) #[] #[.pointer (some ⟨q7, 0, none⟩)]] w fun e w' => ∃ (q5 : List Value), e = .returned (.tuple #[]) ∧ RepL (RpI .i64) ρ r q5 ∧ St w0 w' (cells q7 32 [.slice q2 q3 c_cmp1_0_0] :: vec 3 (RpI .i64).sz (.slice q0b q9 c_x0) q9 q5 :: ro ρ :: l) := by
 have e_ := St.vec_n hS q0d; subst e_
 have e_ := q8.n; subst e_
 refine enterC Tryd.func43 rfl 9 rfl (by simp) ?_
 replace hF := bd_s hF; obtain ⟨q0f, q0e, hF⟩ := hF
 refine x_region <| p (yl_move rfl) <| p (yl_move rfl) <| p (yl_len_slice usl_22 rfl) <|
  p (yl_move rfl) <| ?_
 have hcall := c_slices_stableCmpFunc_int_2 q0e q0d q8 (((hS.pull 2).pull 2).pull 2)
 refine o_cc call_58 (args3 rfl rfl rfl) hcall ?_
 rintro e w' ⟨q4, rfl, q6, hS⟩
 refine ⟨_, rfl, ?_⟩
 refine x_done <| ?_
 have e_ := sinj hF; subst e_
 exact x_fin ⟨_, rfl, q4, rfl, q6, (((hS.pull 2).pull 2).pull 2)⟩
attribute [irreducible] P_slices_SortStableFunc_int_int_2

def P_legal_far (n0 : Int) : Option Int :=
 ar (0 - n0) fun x5 =>
 lv (max n0 x5) fun x6 =>
 some x6
theorem c_legal_far {w0 w : World} {l : List Assn} {ρ : Heap} {n0 : Int} {r : Int} (hF : P_legal_far n0 = some r) (hS : St w0 w (ro ρ :: l)) :
  Calls Tryd.prog 46 #[.int .i64 n0] w fun e w' => e = .returned (.int .i64 r) ∧ St w0 w' (ro ρ :: l) := by
 refine enterC Tryd.func46 rfl 7 rfl (by simp) ?_
 replace hF := ar_s hF; obtain ⟨x5, hx5, hF⟩ := hF
 replace hF := lv_s hF; obtain ⟨x6, hx6, hF⟩ := hF
 refine x_seq <| x_region <| p (yl_assign rfl) <| x_done <|
  x_seq <| x_region <| p (yl_move rfl) <| p (yl_move rfl) <|
  p (yneg rfl hx5) <| p (ymax' rfl rfl hx6) <| p (yl_assign rfl) <| x_done <| ?_
 have e_ := sinj hF; subst e_
 exact x_return ⟨_, ⟨_, _, rfl, rfl, rfl⟩, rfl, hS⟩
attribute [irreducible] P_legal_far

def P_legal_near_L4 (q4 : List Int) : (List Int × Int) → Option ((List Int × Int) ⊕ List Int) := fun (q3, q2) =>
 if q2 < (q4.length : Int) then
  ck (inb q2 q3.length) <|
  lv (stt q3 q2 q2) fun q5 =>
  ar (q2 + 1) fun x36 =>
  some (Sum.inl (q5, x36))
 else
  some (Sum.inr q3)
def P_legal_near_L15 (want0 : List T_floor_Point) (area1 : List Int) (x48 : Int) (q5 : List T_legal_room) : (Int × Int × Int × Int) → Option ((Int × Int × Int × Int) ⊕ (Int × Int)) := fun (q2, q6, q3, q4) =>
 if q4 < (q5.length : Int) then
  bd (
   ck (inb q4 q5.length) <|
   lv (gt q5 q4) fun q7 =>
   ar (q7.Span.To - q7.Span.From) fun x62 =>
   ck (inb x48 area1.length) <|
   lv (gt area1 x48) fun x66 =>
   if x62 < x66 then
    some (q2, q6, q3)
   else
    ck (inb x48 want0.length) <|
    lv (gt want0 x48) fun q0g =>
    ar (q0g.X - 4) fun x73 =>
    ck ((4 : Int) ≠ 0) <|
    ar (Int.tdiv x73 4) fun x74 =>
    lv (max x74 q7.Span.From) fun x78 =>
    ck (inb x48 area1.length) <|
    lv (gt area1 x48) fun x85 =>
    ar (q7.Span.To - x85) fun x86 =>
    lv (min x78 x86) fun x87 =>
    ar ((4 : Int) * x87) fun x89 =>
    ar ((4 : Int) + x89) fun x90 =>
    ck (inb x48 want0.length) <|
    lv (gt want0 x48) fun q0h =>
    ar (x90 - q0h.X) fun x96 =>
    bd (P_legal_far x96) fun q0i =>
    ar ((4 : Int) * q7.frow) fun x100 =>
    ar ((4 : Int) + x100) fun x101 =>
    ck (inb x48 want0.length) <|
    lv (gt want0 x48) fun q0e =>
    ar (x101 - q0e.Y) fun x107 =>
    bd (P_legal_far x107) fun q0f =>
    ar (q0i + q0f) fun x109 =>
    lv ((decide (q2 < 0)) || (decide (x109 < q3))) fun x116 =>
    bd (
     if x116 = true then
      some (q4, x87, x109)
     else
      some (q2, q6, q3)) fun (q9, q0b, q8) =>
    some (q9, q0b, q8)) fun (q0c, q0d, q0a) =>
  ar (q4 + 1) fun x120 =>
  some (Sum.inl (q0c, q0d, q0a, x120))
 else
  some (Sum.inr (q2, q6))
def P_legal_near_L11 (want0 : List T_floor_Point) (area1 : List Int) (q0c : List Int) (q9 : List Int) : (List T_legal_room × List T_floor_Site × Int) → Option ((List T_legal_room × List T_floor_Site × Int) ⊕ (List T_floor_Site ⊕ (List T_floor_Site × Bool))) := fun (q2, q4, q5) =>
 if q5 < (q0c.length : Int) then
  ck (inb q5 q9.length) <|
  lv (gt q9 q5) fun x48 =>
  bd (
   lp (P_legal_near_L15 want0 area1 x48 q2) fuel ((-1), 0, 0, 0)) fun (q3, q6) =>
  if q3 < 0 then
   some (Sum.inr (Sum.inr ([], false)))
  else
   ck (inb q3 q2.length) <|
   lv (gt q2 q3) fun q7 =>
   ck (inb x48 q4.length) <|
   lv (stt q4 x48 (T_floor_Site.mk q7.frow q6)) fun q0a =>
   ck (inb q3 q2.length) <|
   lv (stt q2 q3 { (gt q2 q3) with Span := { (gt q2 q3).Span with To := q6 } }) fun q0b =>
   ck (inb x48 area1.length) <|
   lv (gt area1 x48) fun x147 =>
   ar (q6 + x147) fun x148 =>
   lv (q0b ++ [(T_legal_room.mk q7.frow (T_floor_Span.mk x148 q7.Span.To))]) fun q8 =>
   ck (apOk 24 q8.length) <|
   ar (q5 + 1) fun x156 =>
   some (Sum.inl (q8, q0a, x156))
 else
  some (Sum.inr (Sum.inl q4))
def P_legal_near (want0 : List T_floor_Point) (area1 : List Int) (f2 : T_floor_Floor) : Option (List T_floor_Site × Bool) :=
 bd (P_legal_rooms f2) fun q5 =>
 ck (mkOk 8 (want0.length : Int)) <|
 lv ((List.replicate ((want0.length : Int) : Int).toNat 0 : List Int)) fun q4 =>
 bd (
  lp (P_legal_near_L4 q4) fuel (q4, 0)) fun q2 =>
 bd (P_slices_SortStableFunc_int_int_2 q2 want0) fun q6 =>
 ck (mkOk 16 (want0.length : Int)) <|
 lv ((List.replicate ((want0.length : Int) : Int).toNat (T_floor_Site.mk 0 0) : List T_floor_Site)) fun q7 =>
 bs (
  lp (P_legal_near_L11 want0 area1 q4 q6) fuel (q5, q7, 0)) (fun y => some y) fun q3 =>
 some (q3, true)
theorem c_legal_near {w0 w : World} {l : List Assn} {ρ : Heap} {q0g : Option Addr} {q2n : Nat} {c_want0 : Nat} {q8 : Option Addr} {q2o : Nat} {c_area1 : Nat} {q26 : Option Addr} {q2x : Nat} {c_f2_3 : Nat} {q27 : Option Addr} {q2y : Nat} {c_f2_4 : Nat} {q28 : Option Addr} {q2z : Nat} {c_f2_5 : Nat} {want0 : List T_floor_Point} {area1 : List Int} {f2 : T_floor_Floor} {r : (List T_floor_Site × Bool)} (hF : P_legal_near want0 area1 f2 = some r) (q0m : RdS R_floor_Point ρ q0g q2n c_want0 want0) (q0r : RdS (RpI .i64) ρ q8 q2o c_area1 area1) (q30 : RdS R_floor_Block ρ q26 q2x c_f2_3 f2.Blocks) (q31 : RdS R_floor_Wall ρ q27 q2y c_f2_4 f2.Walls) (q32 : RdS R_floor_Port ρ q28 q2z c_f2_5 f2.Ports) (hS : St w0 w (ro ρ :: l)) :
  Calls Tryd.prog 25 #[.slice q0g q2n c_want0, .slice q8 q2o c_area1, .agg #[.int .i64 f2.Rows, .int .i64 f2.Sites, .int .i64 f2.Layers, .slice q26 q2x c_f2_3, .slice q27 q2y c_f2_4, .slice q28 q2z c_f2_5]] w fun e w' => ∃ (q2e : Option Addr) (q22 : Nat) (c_y0_ret : Nat) (q2c : List Value), e = .returned (.tuple #[.slice q2e q22 c_y0_ret, .bool r.2]) ∧ RepL R_floor_Site ρ r.1 q2c ∧ St w0 w' (vec 88 R_floor_Site.sz (.slice q2e q22 c_y0_ret) q22 q2c :: ro ρ :: l) := by
 have e_ := q0m.n; subst e_
 have e_ := q0r.n; subst e_
 have e_ := q30.n; subst e_
 have e_ := q31.n; subst e_
 have e_ := q32.n; subst e_
 refine enterC Tryd.func25 rfl 158 rfl (by simp) ?_
 refine x_seq <| x_region <| ?_
 refine o_box (cs := [.slice q0g want0.length c_want0]) rfl rfl hS (fun b3 w' hS => ?_)
 refine o_box (cs := [.int .i64 f2.Rows, .int .i64 f2.Sites, .int .i64 f2.Layers, .slice q26 f2.Blocks.length c_f2_3, .slice q27 f2.Walls.length c_f2_4, .slice q28 f2.Ports.length c_f2_5]) rfl rfl hS (fun b5 w' hS => ?_)
 replace hF := bd_s hF; obtain ⟨q1l, q55, hF⟩ := hF
 refine p (yl_assign rfl) <| p (yl_assign rfl) <| x_done <| x_seq <|
  x_region <| pa (v := .agg #[.int .i64 f2.Rows, .int .i64 f2.Sites, .int .i64 f2.Layers, .slice q26 f2.Blocks.length c_f2_3, .slice q27 f2.Walls.length c_f2_4, .slice q28 f2.Ports.length c_f2_5]) (ld_sub agg_30 rfl rfl rfl hS) <| ?_
 have hcall := c_legal_rooms q55 q30 q31 q32 (hS.pull 2)
 refine o_cc call_42 (args1 rfl) hcall ?_
 rintro e w' ⟨q0i, q4d, c_y0_ret_1_1, q0w, rfl, q1m, hS⟩
 refine ⟨_, rfl, ?_⟩
 have e_ := St.vec_n hS q1m; subst e_
 refine p (yl_assign rfl) <| x_done <| x_seq <| x_region <|
  pa (at_load one_32 rfl ((hS.pull 3).cell rfl)) <| p (yl_len_slice usl_32 rfl) <| ?_
 replace hF := ck_s hF; obtain ⟨q56, hF⟩ := hF
 replace hF := lv_s hF; obtain ⟨q5, q57, hF⟩ := hF
 refine o_mk sl_22 zero_3 (show (RpI .i64).ok ρ _ 0 from rfl) rfl rfl q56 (by decide) q57 hS (fun A26 cs26 w' hr26 hS => ?_)
 refine p (yl_assign rfl) <| x_done <| x_seq <| x_seq <|
  x_region <| p (yl_move rfl) <| p (yl_len_slice usl_22 rfl) <| p (yl_move rfl) <|
  x_done <| ?_
 replace hF := bd_s hF; obtain ⟨oL4, hLL4, hF⟩ := hF
 refine x_join (fun E w => ∃ (q12 : List Value) (q1n : List Int), q1n = oL4 ∧ E 1 = .slice q8 area1.length c_area1 ∧ E 3 = .pointer (some ⟨b3, 0, none⟩) ∧ E 8 = .slice q0i q1l.length c_y0_ret_1_1 ∧ E 9 = .slice A26 q5.length q5.length ∧ RepL (RpI .i64) ρ q1n q12 ∧ St w0 w (cells b3 32 [.slice q0g want0.length c_want0] :: vec 106 R_legal_room.sz (.slice q0i q1l.length c_y0_ret_1_1) q1l.length q0w :: vec 3 (RpI .i64).sz (.slice A26 q5.length q5.length) q5.length q12 :: ro ρ :: l)) ?_ ?_
 ·refine x_block ?_
  refine x_loop (fun k_ E w => ∃ (q0k : List Value) (q0x : List Int) (q0s : Int), lp (P_legal_near_L4 q5) k_ (q0x, q0s) = some oL4 ∧ E 1 = .slice q8 area1.length c_area1 ∧ E 3 = .pointer (some ⟨b3, 0, none⟩) ∧ E 8 = .slice q0i q1l.length c_y0_ret_1_1 ∧ E 9 = .slice A26 q5.length q5.length ∧ E 28 = .int .i64 (q5.length : Int) ∧ E 29 = .int .i64 q0s ∧ RepL (RpI .i64) ρ q0x q0k ∧ St w0 w (cells b3 32 [.slice q0g want0.length c_want0] :: vec 106 R_legal_room.sz (.slice q0i q1l.length c_y0_ret_1_1) q1l.length q0w :: vec 3 (RpI .i64).sz (.slice A26 q5.length q5.length) q5.length q0k :: ro ρ :: l)) fuel ⟨cs26, q5, 0, hLL4, rfl, rfl, rfl, rfl, rfl, rfl, hr26, (((((hS.pull 3).drop.pull 2).pull 1).pull 2).pull 3)⟩ ?_
  rintro kL4 E w ⟨q0k, q0x, q0s, hLL4, q33, q34, q35, q2f, q2p, q29, q13, hS⟩
  replace hLL4 := lp_s hLL4; obtain ⟨kL4, obL4, rfl, hFL4, hLL4⟩ := hLL4
  refine x_seq <| x_region <| p (yl_lss q29 q2p) <| x_done <|
   x_seq <|
   x_cond_p (q0s < (q5.length : Int)) rfl (fun hc30 => ?_) (fun hc30 => ?_)
  ·replace hFL4 := it_t hc30 hFL4
   replace hFL4 := ck_s hFL4; obtain ⟨q3x, hFL4⟩ := hFL4
   refine x_skip <| x_seq <| x_block <| x_seq <|
    x_region <| p (yl_move q29) <| p (yl_assign rfl) <| x_done <|
    x_region <| p (yl_move q2f) <| p (yl_move rfl) <| p (yl_move rfl) <|
    p (yix_o sl_22 rfl rfl (hS.pull 2) q13 q3x) <| ?_
   replace hFL4 := lv_s hFL4; obtain ⟨q5l, q58, hFL4⟩ := hFL4
   refine o_put' (news := [.int .i64 q0s]) sz_3 rfl rfl rfl rfl (o := 0) rfl q3x rfl (hS.pull 2) q13 (Le.refl _) (fun c hc => ok_all hc (show (RpI .i64).ok ρ [.int .i64 q0s] q0s from rfl)) q58 (fun q59 w' q5a hS => ?_)
   replace hFL4 := ar_s hFL4; obtain ⟨x36, hx36, hFL4⟩ := hFL4
   refine x_done <| x_blk <| x_region <| p (yadd q29 rfl hx36) <|
    p (yl_move rfl) <| x_done <| ?_
   have e_ := sinj hFL4; subst e_
   exact x_inv ⟨kL4, Nat.lt_succ_self _, q59, q5l, x36, hLL4, q33, q34, q35, q2f, q2p, rfl, q5a, ((((hS.pull 3).pull 1).pull 3).pull 3)⟩
  ·replace hFL4 := it_f hc30 hFL4
   refine x_exitTo _ rfl <| ?_
   have e_ := sinj hFL4; subst e_
   exact x_inv ⟨q0k, q0x, hLL4, q33, q34, q35, q2f, q13, ((((hS.pull 3).pull 3).pull 3).pull 3)⟩
 rintro E w ⟨q12, q1n, rfl, q5b, q2w, q5c, q3y, q2l, hS⟩
 replace hF := bd_s hF; obtain ⟨q5m, q5d, hF⟩ := hF
 refine x_seq <| x_region <| p (yl_move q3y) <| p (v := .func (.func 44) #[] #[.pointer (some ⟨b3, 0, none⟩)]) (yl_makeFunc (by simp only [List.map_toArray, List.map_nil]) (by simp only [List.map_toArray, List.map_cons, List.map_nil]; exact arr1 q2w)) <| ?_
 have hcall := c_slices_SortStableFunc_int_int_2 q5d q2l q0m (((hS.pull 3).pull 1).pull 3)
 refine o_cc call_43 (args2 rfl rfl) hcall ?_
 rintro e w' ⟨q9, rfl, q15, hS⟩
 refine ⟨_, rfl, ?_⟩
 refine x_done <| x_seq <| x_region <| pa (at_load one_32 q2w (hS.cell rfl)) <|
  p (yl_len_slice usl_32 rfl) <| ?_
 replace hF := ck_s hF; obtain ⟨q5e, hF⟩ := hF
 replace hF := lv_s hF; obtain ⟨q6, q5f, hF⟩ := hF
 refine o_mk sl_37 zero_88 (show R_floor_Site.ok ρ _ (T_floor_Site.mk 0 0) from rfl) rfl rfl q5e (by decide) q5f hS (fun A42 cs42 w' hr42 hS => ?_)
 refine p (yl_assign rfl) <| x_done <| x_seq <| x_seq <|
  x_region <| p (yl_move q3y) <| p (yl_len_slice usl_22 rfl) <| p (yl_move rfl) <|
  x_done <| ?_
 replace hF := bs_s hF; obtain ⟨oL11, hLL11, hF⟩ := hF
 refine x_join (fun E w => ∃ (q0o : List Value) (q1o : List T_floor_Site), (Sum.inl q1o) = oL11 ∧ E 11 = .slice A42 q6.length q6.length ∧ RepL R_floor_Site ρ q1o q0o ∧ St w0 w (vec 88 R_floor_Site.sz (.slice A42 q6.length q6.length) q6.length q0o :: ro ρ :: l)) ?_ ?_
 ·refine x_block ?_
  refine x_loop (fun k_ E w => ∃ (q4 : Option Addr) (q0p : Nat) (c_free8_L11h : Nat) (q0b : List Value) (q7 : List Value) (q2 : List T_legal_room) (q0y : List T_floor_Site) (q0j : Int), lp (P_legal_near_L11 want0 area1 q5 q5m) k_ (q2, q0y, q0j) = some oL11 ∧ E 1 = .slice q8 area1.length c_area1 ∧ E 3 = .pointer (some ⟨b3, 0, none⟩) ∧ E 8 = .slice q4 q0p c_free8_L11h ∧ E 11 = .slice A42 q6.length q6.length ∧ E 43 = .slice A26 q5.length q5.length ∧ E 44 = .int .i64 (q5.length : Int) ∧ E 45 = .int .i64 q0j ∧ RepL R_legal_room ρ q2 q0b ∧ RepL R_floor_Site ρ q0y q7 ∧ St w0 w (cells b3 32 [.slice q0g want0.length c_want0] :: vec 106 R_legal_room.sz (.slice q4 q0p c_free8_L11h) q0p q0b :: vec 88 R_floor_Site.sz (.slice A42 q6.length q6.length) q6.length q7 :: vec 3 (RpI .i64).sz (.slice A26 q5.length q5.length) q5.length q9 :: ro ρ :: l)) fuel ⟨q0i, q1l.length, c_y0_ret_1_1, q0w, cs42, q1l, q6, 0, hLL11, q5b, q2w, q5c, rfl, rfl, rfl, rfl, q1m, hr42, (((((hS.pull 3).pull 3).pull 2).pull 4).pull 4)⟩ ?_
  rintro kL11 E w ⟨q4, q0p, c_free8_L11h, q0b, q7, q2, q0y, q0j, hLL11, q3z, q40, q2q, q2g, q2h, q2i, q23, q0e, q14, hS⟩
  have e_ := St.vec_n (hS.pull 1) q0e; subst e_
  replace hLL11 := lp_s hLL11; obtain ⟨kL11, obL11, rfl, hFL11, hLL11⟩ := hLL11
  refine x_seq <| x_region <| p (yl_lss q23 q2i) <| x_done <|
   x_seq <|
   x_cond_p (q0j < (q5.length : Int)) rfl (fun hc46 => ?_) (fun hc46 => ?_)
  ·replace hFL11 := it_t hc46 hFL11
   replace hFL11 := ck_s hFL11; obtain ⟨q36, hFL11⟩ := hFL11
   replace hFL11 := lv_s hFL11; obtain ⟨x48, hx48, hFL11⟩ := hFL11
   refine x_skip <| x_seq <| x_block <| x_seq <|
    x_region <| p (yix_o sl_22 q2h q23 (hS.pull 3) q15 q36) <| pa (at_load one_3 rfl (RepL.getW q15 (hS.pull 3) q36 hx48)) <| p (yl_assign rfl) <|
    x_done <| x_seq <| x_region <| p (yl_assign rfl) <|
    p (yl_assign rfl) <| p (yl_assign rfl) <| x_done <| x_seq <|
    x_seq <| x_region <| p (yl_move q2q) <| p (yl_len_slice usl_102 rfl) <|
    p (yl_move rfl) <| x_done <| ?_
   replace hFL11 := bd_s hFL11; obtain ⟨oL15, hLL15, hFL11⟩ := hFL11
   refine x_join (fun E w => ∃ (q0z : Int) (q0c : Int), (q0z, q0c) = oL15 ∧ E 1 = .slice q8 area1.length c_area1 ∧ E 3 = .pointer (some ⟨b3, 0, none⟩) ∧ E 8 = .slice q4 q2.length c_free8_L11h ∧ E 11 = .slice A42 q6.length q6.length ∧ E 13 = .int .i64 x48 ∧ E 14 = .int .i64 q0z ∧ E 15 = .int .i64 q0c ∧ E 43 = .slice A26 q5.length q5.length ∧ E 44 = .int .i64 (q5.length : Int) ∧ E 45 = .int .i64 q0j ∧ St w0 w (cells b3 32 [.slice q0g want0.length c_want0] :: vec 106 R_legal_room.sz (.slice q4 q2.length c_free8_L11h) q2.length q0b :: vec 88 R_floor_Site.sz (.slice A42 q6.length q6.length) q6.length q7 :: vec 3 (RpI .i64).sz (.slice A26 q5.length q5.length) q5.length q9 :: ro ρ :: l)) ?_ ?_
   ·refine x_block ?_
    refine x_loop (fun k_ E w => ∃ (q0a : Int) (q0n : Int) (q0f : Int) (q0l : Int), lp (P_legal_near_L15 want0 area1 x48 q2) k_ (q0a, q0n, q0f, q0l) = some oL15 ∧ E 1 = .slice q8 area1.length c_area1 ∧ E 3 = .pointer (some ⟨b3, 0, none⟩) ∧ E 8 = .slice q4 q2.length c_free8_L11h ∧ E 11 = .slice A42 q6.length q6.length ∧ E 13 = .int .i64 x48 ∧ E 14 = .int .i64 q0a ∧ E 15 = .int .i64 q0n ∧ E 16 = .int .i64 q0f ∧ E 43 = .slice A26 q5.length q5.length ∧ E 44 = .int .i64 (q5.length : Int) ∧ E 45 = .int .i64 q0j ∧ E 49 = .slice q4 q2.length c_free8_L11h ∧ E 50 = .int .i64 (q2.length : Int) ∧ E 51 = .int .i64 q0l ∧ St w0 w (cells b3 32 [.slice q0g want0.length c_want0] :: vec 106 R_legal_room.sz (.slice q4 q2.length c_free8_L11h) q2.length q0b :: vec 88 R_floor_Site.sz (.slice A42 q6.length q6.length) q6.length q7 :: vec 3 (RpI .i64).sz (.slice A26 q5.length q5.length) q5.length q9 :: ro ρ :: l)) fuel ⟨(-1), 0, 0, 0, hLL15, q3z, q40, q2q, q2g, rfl, rfl, rfl, rfl, q2h, q2i, q23, rfl, rfl, rfl, (((((hS.pull 4).pull 4).pull 4).pull 4).pull 4)⟩ ?_
    rintro kL15 E w ⟨q0a, q0n, q0f, q0l, hLL15, q11, q0t, q1p, q1e, q0h, q1f, q24, q25, q1g, q1h, q1i, q1j, q1k, q0u, hS⟩
    replace hLL15 := lp_s hLL15; obtain ⟨kL15, obL15, rfl, hFL15, hLL15⟩ := hLL15
    refine x_seq <| x_region <| p (yl_lss q0u q1k) <| x_done <|
     x_seq <|
     x_cond_p (q0l < (q2.length : Int)) rfl (fun hc52 => ?_) (fun hc52 => ?_)
    ·replace hFL15 := it_t hc52 hFL15
     refine x_skip <| x_seq <| ?_
     replace hFL15 := bd_s hFL15; obtain ⟨ob5, hFb5, hFL15⟩ := hFL15
     refine x_join (fun E w => ∃ (q16 : Int) (q1q : Int) (q10 : Int), (q16, q1q, q10) = ob5 ∧ E 1 = .slice q8 area1.length c_area1 ∧ E 3 = .pointer (some ⟨b3, 0, none⟩) ∧ E 8 = .slice q4 q2.length c_free8_L11h ∧ E 11 = .slice A42 q6.length q6.length ∧ E 13 = .int .i64 x48 ∧ E 14 = .int .i64 q16 ∧ E 15 = .int .i64 q1q ∧ E 16 = .int .i64 q10 ∧ E 43 = .slice A26 q5.length q5.length ∧ E 44 = .int .i64 (q5.length : Int) ∧ E 45 = .int .i64 q0j ∧ E 49 = .slice q4 q2.length c_free8_L11h ∧ E 50 = .int .i64 (q2.length : Int) ∧ E 51 = .int .i64 q0l ∧ St w0 w (cells b3 32 [.slice q0g want0.length c_want0] :: vec 106 R_legal_room.sz (.slice q4 q2.length c_free8_L11h) q2.length q0b :: vec 88 R_floor_Site.sz (.slice A42 q6.length q6.length) q6.length q7 :: vec 3 (RpI .i64).sz (.slice A26 q5.length q5.length) q5.length q9 :: ro ρ :: l)) ?_ ?_
     ·replace hFb5 := ck_s hFb5; obtain ⟨q37, hFb5⟩ := hFb5
      replace hFb5 := lv_s hFb5; obtain ⟨q1r, q4e, hFb5⟩ := hFb5
      have q_ := q0e.get q37; obtain ⟨q5o, q38, q4f⟩ := q_
      rw [← q4e] at q38
      have e_ := q38; subst e_
      refine x_block <| x_seq <| x_region <| p (yl_move q0u) <|
       p (yix_o sl_102 q1j q0u (hS.pull 1) q0e q37) <| pa (v := .agg #[.int .i64 q1r.frow, .int .i64 q1r.Span.From, .int .i64 q1r.Span.To]) (at_loadAgg agg_106 rfl rfl (EltV.every q4f (hS.pull 1))) <| ?_
      refine o_alloc zero_106 hS (fun b18 w' hS => ?_)
      refine p (yl_assign rfl) <| ?_
      refine o_storeAgg (news := [.int .i64 q1r.frow, .int .i64 q1r.Span.From, .int .i64 q1r.Span.To]) agg_106 rfl rfl rfl (by simp [over_length]) hS (fun w' hS => ?_)
      replace hFb5 := ar_s hFb5; obtain ⟨x62, hx62, hFb5⟩ := hFb5
      replace hFb5 := ck_s hFb5; obtain ⟨q39, hFb5⟩ := hFb5
      replace hFb5 := lv_s hFb5; obtain ⟨x66, hx66, hFb5⟩ := hFb5
      refine x_done <| x_seq <| x_seq <| x_still mixed (by kernel_rfl) hS <|
       q (yl_field0 fld_106_1 rfl) <| q (yl_fieldN fld_46_1 rfl) <| qa (fun w' hS => at_load one_3 rfl (hS.cell rfl)) <| q (yl_field0 fld_106_1 rfl) <|
       q (yl_fieldN fld_46_0 rfl) <| qa (fun w' hS => at_load one_3 rfl (hS.cell rfl)) <| q (ysub rfl rfl hx62) <| q (yl_move q11) <|
       q (yl_move q0h) <| q (yix_f sl_22 rfl rfl q0r q39) <| qa (fun w' hS => at_load one_3 rfl (RdS.getW q0r (hS.pull 5) q39 hx66)) <| q (yl_lss rfl rfl) <|
       q_done fun w' hS => ?_
      refine x_cond_p (x62 < x66) rfl (fun hc67 => ?_) (fun hc67 => ?_)
      ·replace hFb5 := it_t hc67 hFb5
       refine x_exitTo _ rfl <| ?_
       exact x_inv ⟨q0a, q0n, q0f, (sinj hFb5), q11, q0t, q1p, q1e, q0h, q1f, q24, q25, q1g, q1h, q1i, q1j, q1k, q0u, (((((hS.drop.pull 4).pull 4).pull 4).pull 4).pull 4)⟩
      ·replace hFb5 := it_f hc67 hFb5
       replace hFb5 := ck_s hFb5; obtain ⟨q3a, hFb5⟩ := hFb5
       replace hFb5 := lv_s hFb5; obtain ⟨q5t, q4g, hFb5⟩ := hFb5
       have q_ := q0m.get q3a; obtain ⟨q5p, q3b, q4h⟩ := q_
       rw [← q4g] at q3b
       have e_ := q3b; subst e_
       replace hFb5 := ar_s hFb5; obtain ⟨x73, hx73, hFb5⟩ := hFb5
       replace hFb5 := ck_s hFb5; obtain ⟨q4i, hFb5⟩ := hFb5
       replace hFb5 := ar_s hFb5; obtain ⟨x74, hx74, hFb5⟩ := hFb5
       replace hFb5 := lv_s hFb5; obtain ⟨x78, hx78, hFb5⟩ := hFb5
       replace hFb5 := ck_s hFb5; obtain ⟨q2r, hFb5⟩ := hFb5
       replace hFb5 := lv_s hFb5; obtain ⟨x85, hx85, hFb5⟩ := hFb5
       replace hFb5 := ar_s hFb5; obtain ⟨x86, hx86, hFb5⟩ := hFb5
       replace hFb5 := lv_s hFb5; obtain ⟨x87, hx87, hFb5⟩ := hFb5
       refine x_skip <| x_seq <| x_still mixed (by kernel_rfl) hS <| qa (fun w' hS => at_load one_32 q0t ((hS.pull 1).cell rfl)) <|
        q (yl_move q0h) <| q (yix_f sl_32 rfl rfl q0m q3a) <| q (yl_fieldAddr fld_36_0 rfl) <| qa (fun w' hS => at_load one_3 rfl (Elt.ld (j := 0) q4h (hS.pull 5) rfl)) <|
        q (ysub rfl rfl hx73) <| q (yquo rfl rfl q4i hx74) <| q (yl_field0 fld_106_1 rfl) <| q (yl_fieldN fld_46_0 rfl) <|
        qa (fun w' hS => at_load one_3 rfl (hS.cell rfl)) <| q (ymax' rfl rfl hx78) <| q (yl_field0 fld_106_1 rfl) <| q (yl_fieldN fld_46_1 rfl) <|
        qa (fun w' hS => at_load one_3 rfl (hS.cell rfl)) <| q (yl_move q11) <| q (yl_move q0h) <| q (yix_f sl_22 rfl rfl q0r q2r) <|
        qa (fun w' hS => at_load one_3 rfl (RdS.getW q0r (hS.pull 5) q2r hx85)) <| q (ysub rfl rfl hx86) <| q (ymin' rfl rfl hx87) <| q (yl_assign rfl) <|
        q_done fun w' hS => ?_
       replace hFb5 := ar_s hFb5; obtain ⟨x89, hx89, hFb5⟩ := hFb5
       replace hFb5 := ar_s hFb5; obtain ⟨x90, hx90, hFb5⟩ := hFb5
       replace hFb5 := ck_s hFb5; obtain ⟨q3c, hFb5⟩ := hFb5
       replace hFb5 := lv_s hFb5; obtain ⟨q5u, q4j, hFb5⟩ := hFb5
       have q_ := q0m.get q3c; obtain ⟨q5q, q3d, q4k⟩ := q_
       rw [← q4j] at q3d
       have e_ := q3d; subst e_
       replace hFb5 := ar_s hFb5; obtain ⟨x96, hx96, hFb5⟩ := hFb5
       replace hFb5 := bd_s hFb5; obtain ⟨q5g, q4l, hFb5⟩ := hFb5
       replace hFb5 := ar_s hFb5; obtain ⟨x100, hx100, hFb5⟩ := hFb5
       replace hFb5 := ar_s hFb5; obtain ⟨x101, hx101, hFb5⟩ := hFb5
       replace hFb5 := ck_s hFb5; obtain ⟨q2s, hFb5⟩ := hFb5
       replace hFb5 := lv_s hFb5; obtain ⟨q5r, q41, hFb5⟩ := hFb5
       have q_ := q0m.get q2s; obtain ⟨q5n, q2t, q42⟩ := q_
       rw [← q41] at q2t
       have e_ := q2t; subst e_
       replace hFb5 := ar_s hFb5; obtain ⟨x107, hx107, hFb5⟩ := hFb5
       replace hFb5 := bd_s hFb5; obtain ⟨q4m, q43, hFb5⟩ := hFb5
       replace hFb5 := ar_s hFb5; obtain ⟨x109, hx109, hFb5⟩ := hFb5
       refine x_seq <| x_still mixed (by kernel_rfl) hS <| q (yl_move rfl) <| q (ymul rfl rfl hx89) <|
        q (yadd rfl rfl hx90) <| qa (fun w' hS => at_load one_32 q0t ((hS.pull 1).cell rfl)) <| q (yl_move q0h) <| q (yix_f sl_32 rfl rfl q0m q3c) <|
        q (yl_fieldAddr fld_36_0 rfl) <| qa (fun w' hS => at_load one_3 rfl (Elt.ld (j := 0) q4k (hS.pull 5) rfl)) <| q (ysub rfl rfl hx96) <| qcc (v := .int .i64 q5g) call_46 (args1 rfl) (fun w' hS => by
         have hcall := c_legal_far q4l  (hS.pull 5)
         exact (Calls.mono hcall (fun e w'' h => And.intro h.1 (((((h.2.pull 5).pull 5).pull 5).pull 5).pull 5)))) <|
        q (yl_field0 fld_106_0 rfl) <| qa (fun w' hS => at_load one_3 rfl (hS.cell rfl)) <| q (ymul rfl rfl hx100) <| q (yadd rfl rfl hx101) <|
        qa (fun w' hS => at_load one_32 q0t ((hS.pull 1).cell rfl)) <| q (yl_move q0h) <| q (yix_f sl_32 rfl rfl q0m q2s) <| q (yl_fieldAddr fld_36_1 rfl) <|
        qa (fun w' hS => at_load one_3 rfl (Elt.ld (j := 1) q42 (hS.pull 5) rfl)) <| q (ysub rfl rfl hx107) <| qcc (v := .int .i64 q4m) call_46 (args1 rfl) (fun w' hS => by
         have hcall := c_legal_far q43  (hS.pull 5)
         exact (Calls.mono hcall (fun e w'' h => And.intro h.1 (((((h.2.pull 5).pull 5).pull 5).pull 5).pull 5)))) <| q (yadd rfl rfl hx109) <|
        q (yl_assign rfl) <|
        q_done fun w' hS => ?_
       replace hFb5 := lv_s hFb5; obtain ⟨x116, hx116, hFb5⟩ := hFb5
       refine x_seq <| x_region <| p (yl_move q1f) <| p (yl_lss rfl rfl) <|
        p (yl_move rfl) <| pg (v := .int .i64 x109) 112 (c := !(decide (q0a < 0))) (says_f _) (fun hq => Yl.at (yl_move rfl)) <| pg (v := .int .i64 q0f) 112 (c := !(decide (q0a < 0))) (says_f _) (fun hq => Yl.at (yl_move q25)) <| pg (v := .bool (decide (x109 < q0f))) 112 (c := !(decide (q0a < 0))) (says_f _) (fun hq => Yl.at (yl_lss (cv hq) (cv hq))) <|
        p (yor' rfl rfl (fun hc => (cv (t_not hc))) hx116) <| x_done <| ?_
       replace hFb5 := bd_s hFb5; obtain ⟨oc116, hFc116, hFb5⟩ := hFb5
       refine x_join (fun E w => ∃ (q0v : Int) (q17 : Int) (q0q : Int), (q0v, q17, q0q) = oc116 ∧ E 1 = .slice q8 area1.length c_area1 ∧ E 3 = .pointer (some ⟨b3, 0, none⟩) ∧ E 8 = .slice q4 q2.length c_free8_L11h ∧ E 11 = .slice A42 q6.length q6.length ∧ E 13 = .int .i64 x48 ∧ E 14 = .int .i64 q0v ∧ E 15 = .int .i64 q17 ∧ E 16 = .int .i64 q0q ∧ E 43 = .slice A26 q5.length q5.length ∧ E 44 = .int .i64 (q5.length : Int) ∧ E 45 = .int .i64 q0j ∧ E 49 = .slice q4 q2.length c_free8_L11h ∧ E 50 = .int .i64 (q2.length : Int) ∧ E 51 = .int .i64 q0l ∧ St w0 w (cells b3 32 [.slice q0g want0.length c_want0] :: vec 106 R_legal_room.sz (.slice q4 q2.length c_free8_L11h) q2.length q0b :: vec 88 R_floor_Site.sz (.slice A42 q6.length q6.length) q6.length q7 :: vec 3 (RpI .i64).sz (.slice A26 q5.length q5.length) q5.length q9 :: ro ρ :: l)) ?_ ?_
       ·refine x_cond (t := x116) rfl (fun hc116 => ?_) (fun hc116 => ?_)
        ·replace hFc116 := it_t hc116 hFc116
         refine x_region <| p (yl_move rfl) <| p (yl_move rfl) <| p (yl_move rfl) <|
          p (yl_assign rfl) <| p (yl_assign rfl) <| p (yl_assign rfl) <| x_done <| ?_
         exact x_inv ⟨q0l, x87, x109, (sinj hFc116), q11, q0t, q1p, q1e, q0h, rfl, rfl, rfl, q1g, q1h, q1i, q1j, q1k, q0u, (((((hS.drop.pull 4).pull 4).pull 4).pull 4).pull 4)⟩
        ·replace hFc116 := it_bf hc116 hFc116
         refine x_skip <| ?_
         exact x_inv ⟨q0a, q0n, q0f, (sinj hFc116), q11, q0t, q1p, q1e, q0h, q1f, q24, q25, q1g, q1h, q1i, q1j, q1k, q0u, (((((hS.drop.pull 4).pull 4).pull 4).pull 4).pull 4)⟩
       rintro E w ⟨q0v, q17, q0q, rfl, q44, q45, q46, q3m, q3n, q3o, q3p, q3q, q3r, q3s, q3t, q3u, q3v, q3w, hS⟩
       refine x_blk <| ?_
       exact x_inv ⟨q0v, q17, q0q, (sinj hFb5), q44, q45, q46, q3m, q3n, q3o, q3p, q3q, q3r, q3s, q3t, q3u, q3v, q3w, (((((hS.pull 4).pull 4).pull 4).pull 4).pull 4)⟩
     rintro E w ⟨q16, q1q, q10, rfl, q5h, q5i, q5j, q4n, q4o, q4p, q4q, q4r, q4s, q4t, q4u, q4v, q4w, q4x, hS⟩
     replace hFL15 := ar_s hFL15; obtain ⟨x120, hx120, hFL15⟩ := hFL15
     refine x_region <| p (yadd q4x rfl hx120) <| p (yl_move rfl) <| x_done <| ?_
     have e_ := sinj hFL15; subst e_
     exact x_inv ⟨kL15, Nat.lt_succ_self _, q16, q1q, q10, x120, hLL15, q5h, q5i, q5j, q4n, q4o, q4p, q4q, q4r, q4s, q4t, q4u, q4v, q4w, rfl, (((((hS.pull 4).pull 4).pull 4).pull 4).pull 4)⟩
    ·replace hFL15 := it_f hc52 hFL15
     refine x_exitTo _ rfl <| ?_
     have e_ := sinj hFL15; subst e_
     exact x_inv ⟨q0a, q0n, hLL15, q11, q0t, q1p, q1e, q0h, q1f, q24, q1g, q1h, q1i, (((((hS.pull 4).pull 4).pull 4).pull 4).pull 4)⟩
   rintro E w ⟨q0z, q0c, rfl, q3e, q4y, q2j, q2u, q2v, q2a, q2b, q47, q48, q49, hS⟩
   refine x_seq <| x_seq <| x_region <| p (yl_move q2a) <|
    p (yl_lss rfl rfl) <| x_done <|
    x_cond_p (q0z < 0) rfl (fun hc122 => ?_) (fun hc122 => ?_)
   ·replace hFL11 := it_t hc122 hFL11
    refine x_seq <| x_region <| p (yl_assign rfl) <| p (yl_assign rfl) <|
     x_done <| ?_
    replace hS := St.vec_nil hS 88 R_floor_Site.sz
    have q2d : RepL R_floor_Site ρ [] [] := rfl
    have e_ := sinj hFL11; subst e_
    have e_ := (show _ = oL11 from hLL11); subst e_
    have e_ := sinj hF; subst e_
    exact x_return ⟨_, ⟨_, _, rfl, rfl, _, _, rfl, rfl, rfl⟩, none, 0, 0, [], rfl, q2d, ((((((hS.pull 1).drop.pull 1).drop.pull 1).drop.pull 1).drop.pull 1).pull 1)⟩
   ·replace hFL11 := it_f hc122 hFL11
    replace hFL11 := ck_s hFL11; obtain ⟨q3f, hFL11⟩ := hFL11
    replace hFL11 := lv_s hFL11; obtain ⟨q3, q4z, hFL11⟩ := hFL11
    have q_ := q0e.get q3f; obtain ⟨q5s, q3g, q50⟩ := q_
    rw [← q4z] at q3g
    have e_ := q3g; subst e_
    refine x_skip <| x_seq <| x_region <| p (yl_move q2j) <|
     p (yl_move q2a) <| p (yix_o sl_102 rfl rfl (hS.pull 1) q0e q3f) <| pa (v := .agg #[.int .i64 q3.frow, .int .i64 q3.Span.From, .int .i64 q3.Span.To]) (at_loadAgg agg_106 rfl rfl (EltV.every q50 (hS.pull 1))) <| ?_
    refine o_alloc zero_106 hS (fun b21 w' hS => ?_)
    refine o_storeAgg (news := [.int .i64 q3.frow, .int .i64 q3.Span.From, .int .i64 q3.Span.To]) agg_106 rfl rfl rfl (by simp [over_length]) hS (fun w' hS => ?_)
    replace hFL11 := ck_s hFL11; obtain ⟨q3h, hFL11⟩ := hFL11
    refine x_done <| x_seq <| x_region <| p (yl_move q2u) <|
     p (yl_move q2v) <| p (yl_field0 fld_106_0 rfl) <| pa (at_load one_3 rfl (hS.cell rfl)) <| p (yl_move q2b) <|
     p (v := .agg #[.int .i64 q3.frow, .int .i64 q0c]) (yl_build bld_88 bldf_88 (parts_eq (pt (va := .int .i64 q3.frow) rfl (pt (va := .int .i64 q0c) rfl pt0))) (by kernel_rfl)) <| p (yix_o sl_37 rfl rfl (hS.pull 3) q14 q3h) <| ?_
    replace hFL11 := lv_s hFL11; obtain ⟨q5k, q51, hFL11⟩ := hFL11
    refine o_put' (news := [.int .i64 q3.frow, .int .i64 q0c]) sz_88 rfl rfl rfl rfl (o := 0) rfl q3h rfl (hS.pull 3) q14 (Le.refl _) (fun c hc => ok_all hc (show R_floor_Site.ok ρ [.int .i64 q3.frow, .int .i64 q0c] (T_floor_Site.mk q3.frow q0c) from rfl)) q51 (fun q3i w' q52 hS => ?_)
    replace hFL11 := ck_s hFL11; obtain ⟨q3j, hFL11⟩ := hFL11
    refine x_done <| x_seq <| x_region <| p (yl_move q2j) <|
     p (yl_move q2a) <| p (yl_move q2b) <| p (yix_o sl_102 rfl rfl (hS.pull 3) q0e q3j) <| p (yl_fieldAddr fld_106_1 rfl) <|
     p (yl_fieldE fld_46_1 rfl) <| ?_
    replace hFL11 := lv_s hFL11; obtain ⟨q5v, q53, hFL11⟩ := hFL11
    refine o_put' (news := [.int .i64 q0c]) sz_3 rfl rfl rfl rfl (o := 2) rfl q3j rfl (hS.pull 3) q0e (Le.refl _) (fun c hc => by obtain rfl := hc; rfl) q53 (fun q3k w' q54 hS => ?_)
    refine x_done <| ?_
    replace hFL11 := ck_s hFL11; obtain ⟨q3l, hFL11⟩ := hFL11
    replace hFL11 := lv_s hFL11; obtain ⟨x147, hx147, hFL11⟩ := hFL11
    replace hFL11 := ar_s hFL11; obtain ⟨x148, hx148, hFL11⟩ := hFL11
    replace hFL11 := lv_s hFL11; obtain ⟨q0d, q4a, hFL11⟩ := hFL11
    replace hFL11 := ck_s hFL11; obtain ⟨q4b, hFL11⟩ := hFL11
    refine x_par (w0 := w0) [⟨[], [], [140], [], [], []⟩, ⟨[], [], [141], [], [], []⟩, ⟨[1], [1], [142], [0], [], []⟩, ⟨[], [], [143], [], [], []⟩, ⟨[], [], [144], [], [], []⟩, ⟨[], [], [145], [], [], []⟩, ⟨[4, 5], [4, 5], [146], [1], [], []⟩, ⟨[4, 5, 6], [6], [147], [1], [], []⟩, ⟨[3, 4, 5, 6, 7], [3, 7], [148], [], [], []⟩, ⟨[], [], [149], [], [], []⟩, ⟨[9], [9], [150], [], [], []⟩, ⟨[9, 10], [10], [151], [0], [], []⟩, ⟨[3, 4, 5, 6, 7, 8, 9, 10, 11], [8, 11], [152], [], [], []⟩, ⟨[1, 2, 3, 4, 5, 6, 7, 8, 9, 10, 11, 12], [2, 12], [153], [], [], []⟩, ⟨[1, 2, 3, 4, 5, 6, 7, 8, 9, 10, 11, 12, 13], [13], [154], [], [], [2]⟩, ⟨[0, 1, 2, 3, 4, 5, 6, 7, 8, 9, 10, 11, 12, 13, 14], [0, 14], [155], [2, 1], [3], [4]⟩, ⟨[0, 1, 2, 3, 4, 5, 6, 7, 8, 9, 10, 11, 12, 13, 14, 15], [15], [8, 155], [], [], []⟩] [⟨none, none, []⟩, ⟨none, none, []⟩, ⟨(some 14), none, [154]⟩, ⟨none, (some 15), []⟩, ⟨(some 15), none, [155]⟩] [8, 140, 141, 142, 143, 144, 145, 146, 147, 148, 149, 150, 151, 152, 153, 154, 155] [0, 1, 3] [0, 1, 2, 4] [0, 1, 2, 3, 4, 5, 6, 7, 8, 9, 10, 11, 12, 13, 14, 15, 16] [fun Ep28 => Ep28 140 = .slice q4 q2.length c_free8_L11h, fun Ep28 => Ep28 141 = .pointer (some ⟨b21, 0, none⟩), fun Ep28 => Ep28 142 = .int .i64 q3.frow, fun Ep28 => Ep28 143 = .int .i64 q0c, fun Ep28 => Ep28 144 = .slice q8 area1.length c_area1, fun Ep28 => Ep28 145 = .int .i64 x48, fun Ep28 => Ep28 146 = .pointer (some ((adr q8).add (x48.toNat * (RpI .i64).sz))), fun Ep28 => Ep28 147 = .int .i64 x147, fun Ep28 => Ep28 148 = .int .i64 x148, fun Ep28 => Ep28 149 = .pointer (some ⟨b21, 1, none⟩), fun Ep28 => Ep28 150 = .pointer (some ⟨b21, 2, none⟩), fun Ep28 => Ep28 151 = .int .i64 q3.Span.To, fun Ep28 => Ep28 152 = .agg #[.int .i64 x148, .int .i64 q3.Span.To], fun Ep28 => Ep28 153 = .agg #[.int .i64 q3.frow, .int .i64 x148, .int .i64 q3.Span.To], fun Ep28 => Ep28 154 = .slice (some ⟨(blkOf (Ep28 154)), 0, none⟩) 1 1, fun Ep28 => Ep28 155 = .slice (adOf (Ep28 155)) q0d.length (capOf (Ep28 155)), fun Ep28 => Ep28 8 = .slice (adOf (Ep28 155)) q0d.length (capOf (Ep28 155))] [fun Ep28 => cells b21 106 [.int .i64 q3.frow, .int .i64 q3.Span.From, .int .i64 q3.Span.To], fun Ep28 => ro ρ, fun Ep28 => cells (blkOf (Ep28 154)) 106 [.int .i64 q3.frow, .int .i64 x148, .int .i64 q3.Span.To], fun Ep28 => vec 106 R_legal_room.sz (.slice q4 q2.length c_free8_L11h) q2.length q3k, fun Ep28 => bunA (fun (cs155 : List Value) => RepL R_legal_room ρ q0d cs155) (fun (cs155 : List Value) => [vec 106 R_legal_room.sz (.slice (adOf (Ep28 155)) q0d.length (capOf (Ep28 155))) q0d.length cs155])] mixed (by kernel_rfl) ((hS.pull 5).pull 3) ?_ ?_
    ·refine ⟨?_, ?_, ?_, ?_, ?_, ?_, ?_, ?_, ?_, ?_, ?_, ?_, ?_, ?_, ?_, ?_, ?_, trivial⟩
     ·intro Ep28 w l' hE28 hO28 hF_ hS
      refine p (yl_move ((hO28 8 rfl).trans q2j)) <| x_done <| ?_
      refine x_fin ⟨⟨_, rfl⟩, rfl, ?_⟩
      exact emk hS
     ·intro Ep28 w l' hE28 hO28 hF_ hS
      refine p (yl_field0 fld_106_0 (hE28 21 rfl)) <| x_done <| ?_
      refine x_fin ⟨⟨_, rfl⟩, rfl, ?_⟩
      exact emk hS
     ·intro Ep28 w l' hE28 hO28 hF_ hS
      obtain ⟨q1s, -⟩ := hF_
      replace q1s : Ep28 141 = .pointer (some ⟨b21, 0, none⟩) := emk q1s
      replace hS : St w0 w (cells b21 106 [.int .i64 q3.frow, .int .i64 q3.Span.From, .int .i64 q3.Span.To] :: l') := emk hS
      refine pa (at_load one_3 q1s (hS.cell rfl)) <| x_done <| ?_
      refine x_fin ⟨⟨_, rfl⟩, rfl, ?_⟩
      exact emk hS
     ·intro Ep28 w l' hE28 hO28 hF_ hS
      refine p (yl_move ((hE28 15 rfl).trans q2b)) <| x_done <| ?_
      refine x_fin ⟨⟨_, rfl⟩, rfl, ?_⟩
      exact emk hS
     ·intro Ep28 w l' hE28 hO28 hF_ hS
      refine p (yl_move ((hE28 1 rfl).trans q3e)) <| x_done <| ?_
      refine x_fin ⟨⟨_, rfl⟩, rfl, ?_⟩
      exact emk hS
     ·intro Ep28 w l' hE28 hO28 hF_ hS
      refine p (yl_move ((hE28 13 rfl).trans q2v)) <| x_done <| ?_
      refine x_fin ⟨⟨_, rfl⟩, rfl, ?_⟩
      exact emk hS
     ·intro Ep28 w l' hE28 hO28 hF_ hS
      obtain ⟨q1t, q1u, -⟩ := hF_
      replace q1t : Ep28 144 = .slice q8 area1.length c_area1 := emk q1t
      replace q1u : Ep28 145 = .int .i64 x48 := emk q1u
      replace hS : St w0 w (ro ρ :: l') := emk hS
      refine p (yix_f sl_22 q1t q1u q0r q3l) <| x_done <| ?_
      refine x_fin ⟨⟨_, rfl⟩, rfl, ?_⟩
      exact emk hS
     ·intro Ep28 w l' hE28 hO28 hF_ hS
      obtain ⟨q1v, -⟩ := hF_
      replace q1v : Ep28 146 = .pointer (some ((adr q8).add (x48.toNat * (RpI .i64).sz))) := emk q1v
      replace hS : St w0 w (ro ρ :: l') := emk hS
      refine pa (at_load one_3 q1v (RdS.getW q0r hS q3l hx147)) <| x_done <| ?_
      refine x_fin ⟨⟨_, rfl⟩, rfl, ?_⟩
      exact emk hS
     ·intro Ep28 w l' hE28 hO28 hF_ hS
      obtain ⟨q1w, q1x, -⟩ := hF_
      replace q1w : Ep28 143 = .int .i64 q0c := emk q1w
      replace q1x : Ep28 147 = .int .i64 x147 := emk q1x
      refine p (yadd q1w q1x hx148) <| x_done <| ?_
      refine x_fin ⟨⟨_, rfl⟩, rfl, ?_⟩
      exact emk hS
     ·intro Ep28 w l' hE28 hO28 hF_ hS
      refine p (yl_field0 fld_106_1 (hE28 21 rfl)) <| x_done <| ?_
      refine x_fin ⟨⟨_, rfl⟩, rfl, ?_⟩
      exact emk hS
     ·intro Ep28 w l' hE28 hO28 hF_ hS
      obtain ⟨q1y, -⟩ := hF_
      replace q1y : Ep28 149 = .pointer (some ⟨b21, 1, none⟩) := emk q1y
      refine p (yl_fieldN fld_46_1 q1y) <| x_done <| ?_
      refine x_fin ⟨⟨_, rfl⟩, rfl, ?_⟩
      exact emk hS
     ·intro Ep28 w l' hE28 hO28 hF_ hS
      obtain ⟨q18, -⟩ := hF_
      replace q18 : Ep28 150 = .pointer (some ⟨b21, 2, none⟩) := emk q18
      replace hS : St w0 w (cells b21 106 [.int .i64 q3.frow, .int .i64 q3.Span.From, .int .i64 q3.Span.To] :: l') := emk hS
      refine pa (at_load one_3 q18 (hS.cell rfl)) <| x_done <| ?_
      refine x_fin ⟨⟨_, rfl⟩, rfl, ?_⟩
      exact emk hS
     ·intro Ep28 w l' hE28 hO28 hF_ hS
      obtain ⟨q1z, q19, -⟩ := hF_
      replace q1z : Ep28 148 = .int .i64 x148 := emk q1z
      replace q19 : Ep28 151 = .int .i64 q3.Span.To := emk q19
      refine p (v := .agg #[.int .i64 x148, .int .i64 q3.Span.To]) (yl_build bld_46 bldf_46 (parts_eq (pt (va := .int .i64 x148) q1z (pt (va := .int .i64 q3.Span.To) q19 pt0))) (by kernel_rfl)) <| x_done <| ?_
      refine x_fin ⟨⟨_, rfl⟩, rfl, ?_⟩
      exact emk hS
     ·intro Ep28 w l' hE28 hO28 hF_ hS
      obtain ⟨q20, q1a, -⟩ := hF_
      replace q20 : Ep28 142 = .int .i64 q3.frow := emk q20
      replace q1a : Ep28 152 = .agg #[.int .i64 x148, .int .i64 q3.Span.To] := emk q1a
      refine p (v := .agg #[.int .i64 q3.frow, .int .i64 x148, .int .i64 q3.Span.To]) (yl_build bld_106 bldf_106 (parts_eq (pt (va := .int .i64 q3.frow) q20 (pt (va := .agg #[.int .i64 x148, .int .i64 q3.Span.To]) q1a pt0))) (by kernel_rfl)) <| x_done <| ?_
      refine x_fin ⟨⟨_, rfl⟩, rfl, ?_⟩
      exact emk hS
     ·intro Ep28 w l' hE28 hO28 hF_ hS
      obtain ⟨q1b, -⟩ := hF_
      replace q1b : Ep28 153 = .agg #[.int .i64 q3.frow, .int .i64 x148, .int .i64 q3.Span.To] := emk q1b
      refine o_buildSlice (vs := [.agg #[.int .i64 q3.frow, .int .i64 x148, .int .i64 q3.Span.To]]) (cs := [.int .i64 q3.frow, .int .i64 x148, .int .i64 q3.Span.To]) sl_102 zero_106 (parts_eq (pt (va := .agg #[.int .i64 q3.frow, .int .i64 x148, .int .i64 q3.Span.To]) q1b pt0)) rfl (by intro v hv; simp only [List.mem_cons, List.not_mem_nil, or_false] at hv; first | (subst hv; rfl) | (rcases hv with rfl <;> rfl)) (by decide) rfl hS (fun b154 w' hS => ?_)
      refine x_done <| ?_
      refine x_fin ⟨⟨_, rfl⟩, rfl, ?_⟩
      exact emk hS
     ·intro Ep28 w l' hE28 hO28 hF_ hS
      obtain ⟨q21, q1c, -⟩ := hF_
      replace q21 : Ep28 140 = .slice q4 q2.length c_free8_L11h := emk q21
      replace q1c : Ep28 154 = .slice (some ⟨(blkOf (Ep28 154)), 0, none⟩) 1 1 := emk q1c
      replace hS : St w0 w (cells (blkOf (Ep28 154)) 106 [.int .i64 q3.frow, .int .i64 x148, .int .i64 q3.Span.To] :: ro ρ :: vec 106 R_legal_room.sz (.slice q4 q2.length c_free8_L11h) q2.length q3k :: l') := emk hS
      refine o_ap sl_102 zero_106 rfl (by decide) q21 q1c (hS.pull 2) q54 (src_blk usl_102 hS rfl rfl) (RepL.cons (R := R_legal_room) (ρ := ρ) (x := (T_legal_room.mk q3.frow (T_floor_Span.mk x148 q3.Span.To))) (cs := [.int .i64 q3.frow, .int .i64 x148, .int .i64 q3.Span.To]) rfl RepL.nil) q4a q4b (fun A155 c155 cs155 w' hr155 hS => ?_)
      refine x_done <| ?_
      refine x_fin ⟨⟨_, rfl⟩, rfl, ?_⟩
      replace hS := St.bun (Φ := (fun (cs155 : List Value) => RepL R_legal_room ρ q0d cs155)) (L := (fun (cs155 : List Value) => [vec 106 R_legal_room.sz (.slice A155 q0d.length c155) q0d.length cs155])) cs155 hr155 hS
      exact emk ((hS.pull 2).pull 2)
     ·intro Ep28 w l' hE28 hO28 hF_ hS
      obtain ⟨q1d, -⟩ := hF_
      replace q1d : Ep28 155 = .slice (adOf (Ep28 155)) q0d.length (capOf (Ep28 155)) := emk q1d
      refine p (yl_assign q1d) <| x_done <| ?_
      refine x_fin ⟨⟨_, rfl⟩, rfl, ?_⟩
      exact emk hS
    intro Ep28 w' hE28 hF_ hS
    obtain ⟨q21, q1s, q20, q1w, q1t, q1u, q1v, q1x, q1z, q1y, q18, q19, q1a, q1b, q1c, q1d, q2k, -⟩ := hF_
    replace q21 : Ep28 140 = .slice q4 q2.length c_free8_L11h := emk q21
    replace q1s : Ep28 141 = .pointer (some ⟨b21, 0, none⟩) := emk q1s
    replace q20 : Ep28 142 = .int .i64 q3.frow := emk q20
    replace q1w : Ep28 143 = .int .i64 q0c := emk q1w
    replace q1t : Ep28 144 = .slice q8 area1.length c_area1 := emk q1t
    replace q1u : Ep28 145 = .int .i64 x48 := emk q1u
    replace q1v : Ep28 146 = .pointer (some ((adr q8).add (x48.toNat * (RpI .i64).sz))) := emk q1v
    replace q1x : Ep28 147 = .int .i64 x147 := emk q1x
    replace q1z : Ep28 148 = .int .i64 x148 := emk q1z
    replace q1y : Ep28 149 = .pointer (some ⟨b21, 1, none⟩) := emk q1y
    replace q18 : Ep28 150 = .pointer (some ⟨b21, 2, none⟩) := emk q18
    replace q19 : Ep28 151 = .int .i64 q3.Span.To := emk q19
    replace q1a : Ep28 152 = .agg #[.int .i64 x148, .int .i64 q3.Span.To] := emk q1a
    replace q1b : Ep28 153 = .agg #[.int .i64 q3.frow, .int .i64 x148, .int .i64 q3.Span.To] := emk q1b
    replace q1c : Ep28 154 = .slice (some ⟨(blkOf (Ep28 154)), 0, none⟩) 1 1 := emk q1c
    replace q1d : Ep28 155 = .slice (adOf (Ep28 155)) q0d.length (capOf (Ep28 155)) := emk q1d
    replace q2k : Ep28 8 = .slice (adOf (Ep28 155)) q0d.length (capOf (Ep28 155)) := emk q2k
    replace hS : St w0 w' (cells b21 106 [.int .i64 q3.frow, .int .i64 q3.Span.From, .int .i64 q3.Span.To] :: ro ρ :: cells (blkOf (Ep28 154)) 106 [.int .i64 q3.frow, .int .i64 x148, .int .i64 q3.Span.To] :: bunA (fun (cs155 : List Value) => RepL R_legal_room ρ q0d cs155) (fun (cs155 : List Value) => [vec 106 R_legal_room.sz (.slice (adOf (Ep28 155)) q0d.length (capOf (Ep28 155))) q0d.length cs155]) :: (vec 88 R_floor_Site.sz (.slice A42 q6.length q6.length) q6.length q3i :: cells b3 32 [.slice q0g want0.length c_want0] :: vec 3 (RpI .i64).sz (.slice A26 q5.length q5.length) q5.length q9 :: l)) := emk hS
    have q_ := St.unbun (hS.pull 3); obtain ⟨cs155, hr155, hS⟩ := q_
    replace hFL11 := ar_s hFL11; obtain ⟨x156, hx156, hFL11⟩ := hFL11
    refine x_blk <| x_region <| p (yadd ((hE28 45 rfl).trans q49) rfl hx156) <| p (yl_move rfl) <|
     x_done <| ?_
    have e_ := sinj hFL11; subst e_
    exact x_inv ⟨kL11, Nat.lt_succ_self _, (adOf (Ep28 155)), q0d.length, (capOf (Ep28 155)), cs155, q3i, q0d, q5k, x156, hLL11, ((hE28 1 rfl).trans q3e), ((hE28 3 rfl).trans q4y), q2k, ((hE28 11 rfl).trans q2u), ((hE28 43 rfl).trans q47), ((hE28 44 rfl).trans q48), rfl, hr155, q52, (((((((hS.pull 1).drop.pull 2).drop.pull 1).pull 4).pull 3).pull 3).pull 4)⟩
  ·replace hFL11 := it_f hc46 hFL11
   refine x_exitTo _ rfl <| ?_
   have e_ := sinj hFL11; subst e_
   exact x_inv ⟨q7, q0y, hLL11, q2g, q14, (((hS.drop.drop.pull 1).drop.pull 1).pull 1)⟩
 rintro E w ⟨q0o, q1o, rfl, q4c, q2m, hS⟩
 refine x_seq <| x_region <| p (yl_move q4c) <| p (yl_assign rfl) <|
  p (yl_assign rfl) <| x_done <| ?_
 have e_ := sinj hF; subst e_
 exact x_return ⟨_, ⟨_, _, rfl, rfl, _, _, rfl, rfl, rfl⟩, A42, q6.length, q6.length, q0o, rfl, q2m, ((hS.pull 1).pull 1)⟩
attribute [irreducible] P_legal_near

def P_legal_tight_1 (a0 : Int) (b1 : Int) (q2 : List Int) : Option Int :=
 ck (inb b1 q2.length) <|
 lv (gt q2 b1) fun x9 =>
 ck (inb a0 q2.length) <|
 lv (gt q2 a0) fun x13 =>
 bd (P_cmp_Compare_int x9 x13) fun q3 =>
 some q3
theorem c_legal_tight_1 {w0 w : World} {l : List Assn} {ρ : Heap} {q5 : Nat} {q3 : Option Addr} {q4 : Nat} {c_v2_0 : Nat} {a0 : Int} {b1 : Int} {q8 : List Int} {r : Int} (hF : P_legal_tight_1 a0 b1 q8 = some r) (q2 : RdS (RpI .i64) ρ q3 q4 c_v2_0 q8) (hS : St w0 w (cells q5 22 [.slice q3 q4 c_v2_0] :: ro ρ :: l)) :
  Calls Tryd.prog 47 #[.int .i64 a0, .int .i64 b1, .pointer (some ⟨q5, 0, none⟩)] w fun e w' => e = .returned (.int .i64 r) ∧ St w0 w' (cells q5 22 [.slice q3 q4 c_v2_0] :: ro ρ :: l) := by
 have e_ := q2.n; subst e_
 refine enterC Tryd.func47 rfl 15 rfl (by simp) ?_
 replace hF := ck_s hF; obtain ⟨q6, hF⟩ := hF
 replace hF := lv_s hF; obtain ⟨x9, hx9, hF⟩ := hF
 replace hF := ck_s hF; obtain ⟨q7, hF⟩ := hF
 replace hF := lv_s hF; obtain ⟨x13, hx13, hF⟩ := hF
 replace hF := bd_s hF; obtain ⟨q9, q0a, hF⟩ := hF
 refine x_seq <| x_region <| p (yl_assign rfl) <| x_done <|
  x_seq <| x_still mixed (by kernel_rfl) hS <| qa (fun w' hS => at_load one_22 rfl (hS.cell rfl)) <| q (yl_move rfl) <|
  q (yix_f sl_22 rfl rfl q2 q6) <| qa (fun w' hS => at_load one_3 rfl (RdS.getW q2 (hS.pull 1) q6 hx9)) <| qa (fun w' hS => at_load one_22 rfl (hS.cell rfl)) <| q (yl_move rfl) <|
  q (yix_f sl_22 rfl rfl q2 q7) <| qa (fun w' hS => at_load one_3 rfl (RdS.getW q2 (hS.pull 1) q7 hx13)) <| qcc (v := .int .i64 q9) call_45 (args2 rfl rfl) (fun w' hS => by
   have hcall := c_cmp_Compare_int q0a  (hS.pull 1)
   exact (Calls.mono hcall (fun e w'' h => And.intro h.1 (h.2.pull 1)))) <| q (v := .int .i64 q9) (yl_assign rfl) <|
  q_done fun w' hS => ?_
 have e_ := sinj hF; subst e_
 exact x_return ⟨_, ⟨_, _, rfl, rfl, rfl⟩, rfl, ((hS.pull 1).pull 1)⟩
attribute [irreducible] P_legal_tight_1

def P_slices_insertionSortCmpFunc_int_3_L4 (a1 : Int) (q4 : List Int) : (List Int × Int) → Option ((List Int × Int) ⊕ List Int) := fun (q2, q3) =>
 ck ((decide (a1 < q3)) = true → inb q3 q2.length) <|
 lv (gt q2 q3) fun x26 =>
 ck ((decide (a1 < q3)) = true → I64 (q3 - 1)) <|
 lv (q3 - 1) fun x29 =>
 ck ((decide (a1 < q3)) = true → inb x29 q2.length) <|
 lv (gt q2 x29) fun x31 =>
 bd (gd (decide (a1 < q3)) (P_legal_tight_1 x26 x31 q4)) fun q6 =>
 lv ((decide (a1 < q3)) && (decide (q6 < 0))) fun x34 =>
 if x34 = true then
  ar (q3 - 1) fun x41 =>
  ar (q3 - 1) fun x44 =>
  ck (inb x44 q2.length) <|
  lv (gt q2 x44) fun x46 =>
  ck (inb q3 q2.length) <|
  lv (gt q2 q3) fun x50 =>
  ck (inb q3 q2.length) <|
  lv (stt q2 q3 x46) fun q5 =>
  ck (inb x41 q5.length) <|
  lv (stt q5 x41 x50) fun q7 =>
  ar (q3 - 1) fun x36 =>
  some (Sum.inl (q7, x36))
 else
  some (Sum.inr q2)
def P_slices_insertionSortCmpFunc_int_3_L1 (a1 : Int) (b2 : Int) (q4 : List Int) : (List Int × Int) → Option ((List Int × Int) ⊕ List Int) := fun (q2, q3) =>
 if q3 < b2 then
  bd (
   lp (P_slices_insertionSortCmpFunc_int_3_L4 a1 q4) fuel (q2, q3)) fun q5 =>
  ar (q3 + 1) fun x16 =>
  some (Sum.inl (q5, x16))
 else
  some (Sum.inr q2)
def P_slices_insertionSortCmpFunc_int_3 (data0 : List Int) (a1 : Int) (b2 : Int) (q3 : List Int) : Option (List Int) :=
 ar (a1 + 1) fun x11 =>
 bd (
  lp (P_slices_insertionSortCmpFunc_int_3_L1 a1 b2 q3) fuel (data0, x11)) fun q2 =>
 some q2
theorem c_slices_insertionSortCmpFunc_int_3 {w0 w : World} {l : List Assn} {ρ : Heap} {q2 : Option Addr} {q0l : Nat} {c_data0 : Nat} {q0w : List Value} {q7 : Nat} {q9 : Option Addr} {q0n : Nat} {c_cmp3_0_0 : Nat} {data0 : List Int} {a1 : Int} {b2 : Int} {q0a : List Int} {r : List Int} (hF : P_slices_insertionSortCmpFunc_int_3 data0 a1 b2 q0a = some r) (q1f : RepL (RpI .i64) ρ data0 q0w) (q0x : RdS (RpI .i64) ρ q9 q0n c_cmp3_0_0 q0a) (hS : St w0 w (vec 3 (RpI .i64).sz (.slice q2 q0l c_data0) q0l q0w :: cells q7 22 [.slice q9 q0n c_cmp3_0_0] :: ro ρ :: l)) :
  Calls Tryd.prog 71 #[.slice q2 q0l c_data0, .int .i64 a1, .int .i64 b2, .func (.func 47) #[] #[.pointer (some ⟨q7, 0, none⟩)]] w fun e w' => ∃ (q0i : List Value), e = .returned (.tuple #[]) ∧ RepL (RpI .i64) ρ r q0i ∧ St w0 w' (cells q7 22 [.slice q9 q0n c_cmp3_0_0] :: vec 3 (RpI .i64).sz (.slice q2 q0l c_data0) q0l q0i :: ro ρ :: l) := by
 have e_ := St.vec_n hS q1f; subst e_
 have e_ := q0x.n; subst e_
 refine enterC Tryd.func71 rfl 53 rfl (by simp) ?_
 replace hF := ar_s hF; obtain ⟨x11, hx11, hF⟩ := hF
 refine x_seq <| x_region <| p (yl_move rfl) <| p (yadd rfl rfl hx11) <|
  p (yl_assign rfl) <| x_done <| ?_
 replace hF := bd_s hF; obtain ⟨oL1, hLL1, hF⟩ := hF
 refine x_join (fun E w => ∃ (q0c : List Value) (q0k : List Int), q0k = oL1 ∧ RepL (RpI .i64) ρ q0k q0c ∧ St w0 w (cells q7 22 [.slice q9 q0a.length c_cmp3_0_0] :: vec 3 (RpI .i64).sz (.slice q2 data0.length c_data0) data0.length q0c :: ro ρ :: l)) ?_ ?_
 ·refine x_block ?_
  refine x_loop (fun k_ E w => ∃ (q0b : List Value) (q0e : List Int) (q0h : Int), lp (P_slices_insertionSortCmpFunc_int_3_L1 a1 b2 q0a) k_ (q0e, q0h) = some oL1 ∧ E 0 = .slice q2 data0.length c_data0 ∧ E 1 = .int .i64 a1 ∧ E 2 = .int .i64 b2 ∧ E 3 = .func (.func 47) #[] #[.pointer (some ⟨q7, 0, none⟩)] ∧ E 8 = .int .i64 q0h ∧ RepL (RpI .i64) ρ q0e q0b ∧ St w0 w (vec 3 (RpI .i64).sz (.slice q2 data0.length c_data0) data0.length q0b :: cells q7 22 [.slice q9 q0a.length c_cmp3_0_0] :: ro ρ :: l)) fuel ⟨q0w, data0, x11, hLL1, rfl, rfl, rfl, rfl, rfl, q1f, (((hS.pull 2).pull 2).pull 2)⟩ ?_
  rintro kL1 E w ⟨q0b, q0e, q0h, hLL1, q1r, q1s, q1h, q1t, q1b, q0v, hS⟩
  replace hLL1 := lp_s hLL1; obtain ⟨kL1, obL1, rfl, hFL1, hLL1⟩ := hLL1
  refine x_seq <| x_seq <| x_region <| p (yl_move q1b) <|
   p (yl_move q1h) <| p (yl_lss rfl rfl) <| x_done <|
   x_cond_p (q0h < b2) rfl (fun hc14 => ?_) (fun hc14 => ?_)
  ·replace hFL1 := it_t hc14 hFL1
   refine x_skip <| x_seq <| x_block <| x_seq <|
    x_region <| p (yl_move q1b) <| p (yl_assign rfl) <| x_done <| ?_
   replace hFL1 := bd_s hFL1; obtain ⟨oL4, hLL4, hFL1⟩ := hFL1
   refine x_join (fun E w => ∃ (q0d : List Value) (q0o : List Int), q0o = oL4 ∧ E 0 = .slice q2 data0.length c_data0 ∧ E 1 = .int .i64 a1 ∧ E 2 = .int .i64 b2 ∧ E 3 = .func (.func 47) #[] #[.pointer (some ⟨q7, 0, none⟩)] ∧ E 8 = .int .i64 q0h ∧ RepL (RpI .i64) ρ q0o q0d ∧ St w0 w (vec 3 (RpI .i64).sz (.slice q2 data0.length c_data0) data0.length q0d :: cells q7 22 [.slice q9 q0a.length c_cmp3_0_0] :: ro ρ :: l)) ?_ ?_
   ·refine x_block ?_
    refine x_loop (fun k_ E w => ∃ (q5 : List Value) (q0j : List Int) (q3 : Int), lp (P_slices_insertionSortCmpFunc_int_3_L4 a1 q0a) k_ (q0j, q3) = some oL4 ∧ E 0 = .slice q2 data0.length c_data0 ∧ E 1 = .int .i64 a1 ∧ E 2 = .int .i64 b2 ∧ E 3 = .func (.func 47) #[] #[.pointer (some ⟨q7, 0, none⟩)] ∧ E 8 = .int .i64 q0h ∧ E 9 = .int .i64 q3 ∧ RepL (RpI .i64) ρ q0j q5 ∧ St w0 w (vec 3 (RpI .i64).sz (.slice q2 data0.length c_data0) data0.length q5 :: cells q7 22 [.slice q9 q0a.length c_cmp3_0_0] :: ro ρ :: l)) fuel ⟨q0b, q0e, q0h, hLL4, q1r, q1s, q1h, q1t, q1b, rfl, q0v, (((hS.pull 2).pull 2).pull 2)⟩ ?_
    rintro kL4 E w ⟨q5, q0j, q3, hLL4, q0f, q1c, q1i, q1d, q1j, q0g, q6, hS⟩
    replace hLL4 := lp_s hLL4; obtain ⟨kL4, obL4, rfl, hFL4, hLL4⟩ := hLL4
    replace hFL4 := ck_s hFL4; obtain ⟨q1o, hFL4⟩ := hFL4
    replace hFL4 := lv_s hFL4; obtain ⟨x26, hx26, hFL4⟩ := hFL4
    replace hFL4 := ck_s hFL4; obtain ⟨q1u, hFL4⟩ := hFL4
    replace hFL4 := lv_s hFL4; obtain ⟨x29, hx29, hFL4⟩ := hFL4
    replace hFL4 := ck_s hFL4; obtain ⟨q1k, hFL4⟩ := hFL4
    replace hFL4 := lv_s hFL4; obtain ⟨x31, hx31, hFL4⟩ := hFL4
    refine x_seq <| x_seq <| x_head 14 mixed (by kernel_rfl) hS _ _ rfl rfl <| q (yl_move q0g) <|
     q (yl_move q1c) <| q (yl_gtr rfl rfl) <| q (yl_move rfl) <| qg (v := .func (.func 47) #[] #[.pointer (some ⟨q7, 0, none⟩)]) 21 (c := decide (a1 < q3)) (says_t _) (fun hq w' hS => Yl.at (yl_move q1d)) <|
     qg (v := .slice q2 data0.length c_data0) 21 (c := decide (a1 < q3)) (says_t _) (fun hq w' hS => Yl.at (yl_move q0f)) <| qg (v := .int .i64 q3) 21 (c := decide (a1 < q3)) (says_t _) (fun hq w' hS => Yl.at (yl_move q0g)) <| qg (v := .pointer (some ((adr q2).add (q3.toNat * (RpI .i64).sz)))) 21 (c := decide (a1 < q3)) (says_t _) (fun hq w' hS => Yl.at (yix_o sl_22 (cv hq) (cv hq) hS q6 (q1o hq))) <| qg (v := .int .i64 x26) 21 (c := decide (a1 < q3)) (says_t _) (fun hq w' hS => at_load one_3 (cv hq) (RepL.getW q6 hS (q1o hq) hx26)) <|
     qg (v := .slice q2 data0.length c_data0) 21 (c := decide (a1 < q3)) (says_t _) (fun hq w' hS => Yl.at (yl_move q0f)) <| qg (v := .int .i64 q3) 21 (c := decide (a1 < q3)) (says_t _) (fun hq w' hS => Yl.at (yl_move q0g)) <| qg (v := .int .i64 x29) 21 (c := decide (a1 < q3)) (says_t _) (fun hq w' hS => Yl.at (ysub (cv hq) rfl ⟨hx29, (q1u hq)⟩)) <| qg (v := .pointer (some ((adr q2).add (x29.toNat * (RpI .i64).sz)))) 21 (c := decide (a1 < q3)) (says_t _) (fun hq w' hS => Yl.at (yix_o sl_22 (cv hq) (cv hq) hS q6 (q1k hq))) <|
     qg (v := .int .i64 x31) 21 (c := decide (a1 < q3)) (says_t _) (fun hq w' hS => at_load one_3 (cv hq) (RepL.getW q6 hS (q1k hq) hx31)) <|
     q_done fun w' hS => ?_
    replace hFL4 := bd_s hFL4; obtain ⟨q1p, q1v, hFL4⟩ := hFL4
    refine pccvg (v := .int .i64 q1p) 21 (c := decide (a1 < q3)) (says_t _) (fun hq => (cv hq)) call_47 (fun hq => (capargs (args2 (cv hq) (cv hq)))) hS (fun hq => by
      have hcall := c_legal_tight_1 (gd_t q1v hq) q0x ((hS.pull 2).pull 2)
      exact (Calls.mono hcall (fun e w'' h => And.intro h.1 (((h.2.pull 1).pull 1).pull 2)))) (fun w' hS => ?_)
    replace hFL4 := lv_s hFL4; obtain ⟨x34, hx34, hFL4⟩ := hFL4
    refine pg (v := .bool (decide (q1p < 0))) 21 (c := decide (a1 < q3)) (says_t _) (fun hq => Yl.at (yl_lss (cv hq) rfl)) <| p (yand' rfl (fun hc => (cv hc)) rfl hx34) <| x_done <|
     x_cond (t := x34) rfl (fun hc34 => ?_) (fun hc34 => ?_)
    ·replace hFL4 := it_t hc34 hFL4
     refine x_skip <| x_seq <| x_block <| ?_
     replace hFL4 := ar_s hFL4; obtain ⟨x41, hx41, hFL4⟩ := hFL4
     replace hFL4 := ar_s hFL4; obtain ⟨x44, hx44, hFL4⟩ := hFL4
     replace hFL4 := ck_s hFL4; obtain ⟨q1q, hFL4⟩ := hFL4
     replace hFL4 := lv_s hFL4; obtain ⟨x46, hx46, hFL4⟩ := hFL4
     replace hFL4 := ck_s hFL4; obtain ⟨q1l, hFL4⟩ := hFL4
     replace hFL4 := lv_s hFL4; obtain ⟨x50, hx50, hFL4⟩ := hFL4
     replace hFL4 := ck_s hFL4; obtain ⟨q1m, hFL4⟩ := hFL4
     replace hFL4 := lv_s hFL4; obtain ⟨q0y, q1w, hFL4⟩ := hFL4
     replace hFL4 := ck_s hFL4; obtain ⟨q1n, hFL4⟩ := hFL4
     replace hFL4 := lv_s hFL4; obtain ⟨q1a, q1x, hFL4⟩ := hFL4
     refine x_par (w0 := w0) [⟨[], [], [37], [], [], []⟩, ⟨[], [], [38], [], [], []⟩, ⟨[], [], [39], [], [], []⟩, ⟨[], [], [40], [], [], []⟩, ⟨[3], [3], [41], [], [], []⟩, ⟨[], [], [42], [], [], []⟩, ⟨[], [], [43], [], [], []⟩, ⟨[6], [6], [44], [], [], []⟩, ⟨[5, 6, 7], [5, 7], [45], [0], [], []⟩, ⟨[5, 6, 7, 8], [8], [46], [0], [], []⟩, ⟨[], [], [47], [], [], []⟩, ⟨[], [], [48], [], [], []⟩, ⟨[10, 11], [10, 11], [49], [0], [], []⟩, ⟨[10, 11, 12], [12], [50], [0], [], []⟩, ⟨[0, 1, 5, 6, 7, 8, 9, 10, 11, 12, 13], [0, 1], [51], [0], [], []⟩, ⟨[0, 1, 5, 6, 7, 8, 9, 10, 11, 12, 13, 14], [9, 14], [], [], [0], [1]⟩, ⟨[0, 1, 2, 3, 4, 5, 6, 7, 8, 9, 10, 11, 12, 13, 14, 15], [2, 4], [52], [2, 1], [], []⟩, ⟨[0, 1, 2, 3, 4, 5, 6, 7, 8, 9, 10, 11, 12, 13, 14, 15, 16], [13, 16], [], [2], [1], [3]⟩] [⟨none, (some 15), []⟩, ⟨(some 15), (some 17), []⟩, ⟨none, none, []⟩, ⟨(some 17), none, []⟩] [37, 38, 39, 40, 41, 42, 43, 44, 45, 46, 47, 48, 49, 50, 51, 52] [0, 2] [2, 3] [0, 1, 2, 3, 4, 5, 6, 7, 8, 9, 10, 11, 12, 13, 14, 16] [fun Ep6 => Ep6 37 = .slice q2 data0.length c_data0, fun Ep6 => Ep6 38 = .int .i64 q3, fun Ep6 => Ep6 39 = .slice q2 data0.length c_data0, fun Ep6 => Ep6 40 = .int .i64 q3, fun Ep6 => Ep6 41 = .int .i64 x41, fun Ep6 => Ep6 42 = .slice q2 data0.length c_data0, fun Ep6 => Ep6 43 = .int .i64 q3, fun Ep6 => Ep6 44 = .int .i64 x44, fun Ep6 => Ep6 45 = .pointer (some ((adr q2).add (x44.toNat * (RpI .i64).sz))), fun Ep6 => Ep6 46 = .int .i64 x46, fun Ep6 => Ep6 47 = .slice q2 data0.length c_data0, fun Ep6 => Ep6 48 = .int .i64 q3, fun Ep6 => Ep6 49 = .pointer (some ((adr q2).add (q3.toNat * (RpI .i64).sz))), fun Ep6 => Ep6 50 = .int .i64 x50, fun Ep6 => Ep6 51 = .pointer (some ((adr q2).add (q3.toNat * (RpI .i64).sz))), fun Ep6 => True, fun Ep6 => Ep6 52 = .pointer (some ((adr q2).add (x41.toNat * (RpI .i64).sz))), fun Ep6 => True] [fun Ep6 => vec 3 (RpI .i64).sz (.slice q2 data0.length c_data0) data0.length q5, fun Ep6 => bunA (fun (q4 : List Value) => RepL (RpI .i64) ρ q0y q4) (fun (q4 : List Value) => [vec 3 (RpI .i64).sz (.slice q2 data0.length c_data0) data0.length q4]), fun Ep6 => ro ρ, fun Ep6 => bunA (fun (q8 : List Value) => RepL (RpI .i64) ρ q1a q8) (fun (q8 : List Value) => [vec 3 (RpI .i64).sz (.slice q2 data0.length c_data0) data0.length q8])] mixed (by kernel_rfl) ((hS.pull 2).pull 1) ?_ ?_
     ·refine ⟨?_, ?_, ?_, ?_, ?_, ?_, ?_, ?_, ?_, ?_, ?_, ?_, ?_, ?_, ?_, ?_, ?_, ?_, trivial⟩
      ·intro Ep6 w l' hE6 hO6 hF_ hS
       refine p (yl_move ((hE6 0 rfl).trans q0f)) <| x_done <| ?_
       refine x_fin ⟨⟨_, rfl⟩, rfl, ?_⟩
       exact emk hS
      ·intro Ep6 w l' hE6 hO6 hF_ hS
       refine p (yl_move ((hE6 9 rfl).trans q0g)) <| x_done <| ?_
       refine x_fin ⟨⟨_, rfl⟩, rfl, ?_⟩
       exact emk hS
      ·intro Ep6 w l' hE6 hO6 hF_ hS
       refine p (yl_move ((hE6 0 rfl).trans q0f)) <| x_done <| ?_
       refine x_fin ⟨⟨_, rfl⟩, rfl, ?_⟩
       exact emk hS
      ·intro Ep6 w l' hE6 hO6 hF_ hS
       refine p (yl_move ((hE6 9 rfl).trans q0g)) <| x_done <| ?_
       refine x_fin ⟨⟨_, rfl⟩, rfl, ?_⟩
       exact emk hS
      ·intro Ep6 w l' hE6 hO6 hF_ hS
       obtain ⟨q0z, -⟩ := hF_
       replace q0z : Ep6 40 = .int .i64 q3 := emk q0z
       refine p (ysub q0z rfl hx41) <| x_done <| ?_
       refine x_fin ⟨⟨_, rfl⟩, rfl, ?_⟩
       exact emk hS
      ·intro Ep6 w l' hE6 hO6 hF_ hS
       refine p (yl_move ((hE6 0 rfl).trans q0f)) <| x_done <| ?_
       refine x_fin ⟨⟨_, rfl⟩, rfl, ?_⟩
       exact emk hS
      ·intro Ep6 w l' hE6 hO6 hF_ hS
       refine p (yl_move ((hE6 9 rfl).trans q0g)) <| x_done <| ?_
       refine x_fin ⟨⟨_, rfl⟩, rfl, ?_⟩
       exact emk hS
      ·intro Ep6 w l' hE6 hO6 hF_ hS
       obtain ⟨q10, -⟩ := hF_
       replace q10 : Ep6 43 = .int .i64 q3 := emk q10
       refine p (ysub q10 rfl hx44) <| x_done <| ?_
       refine x_fin ⟨⟨_, rfl⟩, rfl, ?_⟩
       exact emk hS
      ·intro Ep6 w l' hE6 hO6 hF_ hS
       obtain ⟨q11, q12, -⟩ := hF_
       replace q11 : Ep6 42 = .slice q2 data0.length c_data0 := emk q11
       replace q12 : Ep6 44 = .int .i64 x44 := emk q12
       replace hS : St w0 w (vec 3 (RpI .i64).sz (.slice q2 data0.length c_data0) data0.length q5 :: l') := emk hS
       refine p (yix_o sl_22 q11 q12 hS q6 q1q) <| x_done <| ?_
       refine x_fin ⟨⟨_, rfl⟩, rfl, ?_⟩
       exact emk hS
      ·intro Ep6 w l' hE6 hO6 hF_ hS
       obtain ⟨q13, -⟩ := hF_
       replace q13 : Ep6 45 = .pointer (some ((adr q2).add (x44.toNat * (RpI .i64).sz))) := emk q13
       replace hS : St w0 w (vec 3 (RpI .i64).sz (.slice q2 data0.length c_data0) data0.length q5 :: l') := emk hS
       refine pa (at_load one_3 q13 (RepL.getW q6 hS q1q hx46)) <| x_done <| ?_
       refine x_fin ⟨⟨_, rfl⟩, rfl, ?_⟩
       exact emk hS
      ·intro Ep6 w l' hE6 hO6 hF_ hS
       refine p (yl_move ((hE6 0 rfl).trans q0f)) <| x_done <| ?_
       refine x_fin ⟨⟨_, rfl⟩, rfl, ?_⟩
       exact emk hS
      ·intro Ep6 w l' hE6 hO6 hF_ hS
       refine p (yl_move ((hE6 9 rfl).trans q0g)) <| x_done <| ?_
       refine x_fin ⟨⟨_, rfl⟩, rfl, ?_⟩
       exact emk hS
      ·intro Ep6 w l' hE6 hO6 hF_ hS
       obtain ⟨q0p, q0q, -⟩ := hF_
       replace q0p : Ep6 47 = .slice q2 data0.length c_data0 := emk q0p
       replace q0q : Ep6 48 = .int .i64 q3 := emk q0q
       replace hS : St w0 w (vec 3 (RpI .i64).sz (.slice q2 data0.length c_data0) data0.length q5 :: l') := emk hS
       refine p (yix_o sl_22 q0p q0q hS q6 q1l) <| x_done <| ?_
       refine x_fin ⟨⟨_, rfl⟩, rfl, ?_⟩
       exact emk hS
      ·intro Ep6 w l' hE6 hO6 hF_ hS
       obtain ⟨q0r, -⟩ := hF_
       replace q0r : Ep6 49 = .pointer (some ((adr q2).add (q3.toNat * (RpI .i64).sz))) := emk q0r
       replace hS : St w0 w (vec 3 (RpI .i64).sz (.slice q2 data0.length c_data0) data0.length q5 :: l') := emk hS
       refine pa (at_load one_3 q0r (RepL.getW q6 hS q1l hx50)) <| x_done <| ?_
       refine x_fin ⟨⟨_, rfl⟩, rfl, ?_⟩
       exact emk hS
      ·intro Ep6 w l' hE6 hO6 hF_ hS
       obtain ⟨q14, q15, -⟩ := hF_
       replace q14 : Ep6 37 = .slice q2 data0.length c_data0 := emk q14
       replace q15 : Ep6 38 = .int .i64 q3 := emk q15
       replace hS : St w0 w (vec 3 (RpI .i64).sz (.slice q2 data0.length c_data0) data0.length q5 :: l') := emk hS
       refine p (yix_o sl_22 q14 q15 hS q6 q1m) <| x_done <| ?_
       refine x_fin ⟨⟨_, rfl⟩, rfl, ?_⟩
       exact emk hS
      ·intro Ep6 w l' hE6 hO6 hF_ hS
       obtain ⟨q16, q0s, -⟩ := hF_
       replace q16 : Ep6 46 = .int .i64 x46 := emk q16
       replace q0s : Ep6 51 = .pointer (some ((adr q2).add (q3.toNat * (RpI .i64).sz))) := emk q0s
       replace hS : St w0 w (vec 3 (RpI .i64).sz (.slice q2 data0.length c_data0) data0.length q5 :: l') := emk hS
       refine o_put' (news := [.int .i64 x46]) sz_3 q0s q16 rfl rfl (o := 0) rfl q1m rfl hS q6 (Le.refl _) (fun c hc => ok_all hc (show (RpI .i64).ok ρ [.int .i64 x46] x46 from rfl)) q1w (fun q4 w' q0m hS => ?_)
       refine x_done <| ?_
       refine x_fin ⟨⟨undef, rfl⟩, trivial, ?_⟩
       replace hS := St.bun (Φ := (fun (q4 : List Value) => RepL (RpI .i64) ρ q0y q4)) (L := (fun (q4 : List Value) => [vec 3 (RpI .i64).sz (.slice q2 data0.length c_data0) data0.length q4])) q4 q0m hS
       exact emk hS
      ·intro Ep6 w l' hE6 hO6 hF_ hS
       obtain ⟨q17, q18, -⟩ := hF_
       replace q17 : Ep6 39 = .slice q2 data0.length c_data0 := emk q17
       replace q18 : Ep6 41 = .int .i64 x41 := emk q18
       replace hS : St w0 w (ro ρ :: bunA (fun (q4 : List Value) => RepL (RpI .i64) ρ q0y q4) (fun (q4 : List Value) => [vec 3 (RpI .i64).sz (.slice q2 data0.length c_data0) data0.length q4]) :: l') := emk hS
       have q_ := St.unbun (hS.pull 1); obtain ⟨q4, q0m, hS⟩ := q_
       refine p (yix_o sl_22 q17 q18 hS q0m q1n) <| x_done <| ?_
       refine x_fin ⟨⟨_, rfl⟩, rfl, ?_⟩
       replace hS := St.bun (Φ := (fun (q4 : List Value) => RepL (RpI .i64) ρ q0y q4)) (L := (fun (q4 : List Value) => [vec 3 (RpI .i64).sz (.slice q2 data0.length c_data0) data0.length q4])) q4 q0m hS
       exact emk (hS.pull 1)
      ·intro Ep6 w l' hE6 hO6 hF_ hS
       obtain ⟨q0t, q0u, -⟩ := hF_
       replace q0t : Ep6 50 = .int .i64 x50 := emk q0t
       replace q0u : Ep6 52 = .pointer (some ((adr q2).add (x41.toNat * (RpI .i64).sz))) := emk q0u
       replace hS : St w0 w (ro ρ :: bunA (fun (q4 : List Value) => RepL (RpI .i64) ρ q0y q4) (fun (q4 : List Value) => [vec 3 (RpI .i64).sz (.slice q2 data0.length c_data0) data0.length q4]) :: l') := emk hS
       have q_ := St.unbun (hS.pull 1); obtain ⟨q4, q0m, hS⟩ := q_
       refine o_put' (news := [.int .i64 x50]) sz_3 q0u q0t rfl rfl (o := 0) rfl q1n rfl hS q0m (Le.refl _) (fun c hc => ok_all hc (show (RpI .i64).ok ρ [.int .i64 x50] x50 from rfl)) q1x (fun q8 w' q1e hS => ?_)
       refine x_done <| ?_
       refine x_fin ⟨⟨undef, rfl⟩, trivial, ?_⟩
       replace hS := St.bun (Φ := (fun (q8 : List Value) => RepL (RpI .i64) ρ q1a q8)) (L := (fun (q8 : List Value) => [vec 3 (RpI .i64).sz (.slice q2 data0.length c_data0) data0.length q8])) q8 q1e hS
       exact emk (hS.pull 1)
     intro Ep6 w' hE6 hF_ hS
     obtain ⟨q14, q15, q17, q0z, q18, q11, q10, q12, q13, q16, q0p, q0q, q0r, q0t, q0s, q0u, -⟩ := hF_
     replace q14 : Ep6 37 = .slice q2 data0.length c_data0 := emk q14
     replace q15 : Ep6 38 = .int .i64 q3 := emk q15
     replace q17 : Ep6 39 = .slice q2 data0.length c_data0 := emk q17
     replace q0z : Ep6 40 = .int .i64 q3 := emk q0z
     replace q18 : Ep6 41 = .int .i64 x41 := emk q18
     replace q11 : Ep6 42 = .slice q2 data0.length c_data0 := emk q11
     replace q10 : Ep6 43 = .int .i64 q3 := emk q10
     replace q12 : Ep6 44 = .int .i64 x44 := emk q12
     replace q13 : Ep6 45 = .pointer (some ((adr q2).add (x44.toNat * (RpI .i64).sz))) := emk q13
     replace q16 : Ep6 46 = .int .i64 x46 := emk q16
     replace q0p : Ep6 47 = .slice q2 data0.length c_data0 := emk q0p
     replace q0q : Ep6 48 = .int .i64 q3 := emk q0q
     replace q0r : Ep6 49 = .pointer (some ((adr q2).add (q3.toNat * (RpI .i64).sz))) := emk q0r
     replace q0t : Ep6 50 = .int .i64 x50 := emk q0t
     replace q0s : Ep6 51 = .pointer (some ((adr q2).add (q3.toNat * (RpI .i64).sz))) := emk q0s
     replace q0u : Ep6 52 = .pointer (some ((adr q2).add (x41.toNat * (RpI .i64).sz))) := emk q0u
     replace hS : St w0 w' (ro ρ :: bunA (fun (q8 : List Value) => RepL (RpI .i64) ρ q1a q8) (fun (q8 : List Value) => [vec 3 (RpI .i64).sz (.slice q2 data0.length c_data0) data0.length q8]) :: (cells q7 22 [.slice q9 q0a.length c_cmp3_0_0] :: l)) := emk hS
     have q_ := St.unbun (hS.pull 1); obtain ⟨q8, q1e, hS⟩ := q_
     replace hFL4 := ar_s hFL4; obtain ⟨x36, hx36, hFL4⟩ := hFL4
     refine x_blk <| x_region <| p (yl_move ((hE6 9 rfl).trans q0g)) <| p (ysub rfl rfl hx36) <|
      p (yl_assign rfl) <| x_done <| ?_
     have e_ := sinj hFL4; subst e_
     exact x_inv ⟨kL4, Nat.lt_succ_self _, q8, q1a, x36, hLL4, ((hE6 0 rfl).trans q0f), ((hE6 1 rfl).trans q1c), ((hE6 2 rfl).trans q1i), ((hE6 3 rfl).trans q1d), ((hE6 8 rfl).trans q1j), rfl, q1e, (((hS.pull 1).pull 2).pull 2)⟩
    ·replace hFL4 := it_bf hc34 hFL4
     refine x_exitTo _ rfl <| ?_
     have e_ := sinj hFL4; subst e_
     exact x_inv ⟨q5, q0j, hLL4, q0f, q1c, q1i, q1d, q1j, q6, (((hS.pull 2).pull 2).pull 2)⟩
   rintro E w ⟨q0d, q0o, rfl, q1y, q1z, q20, q21, q22, q1g, hS⟩
   replace hFL1 := ar_s hFL1; obtain ⟨x16, hx16, hFL1⟩ := hFL1
   refine x_blk <| x_region <| p (yl_move q22) <| p (yadd rfl rfl hx16) <|
    p (yl_assign rfl) <| x_done <| ?_
   have e_ := sinj hFL1; subst e_
   exact x_inv ⟨kL1, Nat.lt_succ_self _, q0d, q0o, x16, hLL1, q1y, q1z, q20, q21, rfl, q1g, (((hS.pull 2).pull 2).pull 2)⟩
  ·replace hFL1 := it_f hc14 hFL1
   refine x_exitTo _ rfl <| ?_
   have e_ := sinj hFL1; subst e_
   exact x_inv ⟨q0b, q0e, hLL1, q0v, (((hS.pull 2).pull 1).pull 2)⟩
 rintro E w ⟨q0c, q0k, rfl, q19, hS⟩
 have e_ := sinj hF; subst e_
 exact x_fin ⟨_, rfl, q0c, rfl, q19, (((hS.pull 2).pull 2).pull 2)⟩
attribute [irreducible] P_slices_insertionSortCmpFunc_int_3

def P_slices_swapRangeCmpFunc_int_3_L1 (a1 : Int) (b2 : Int) (n3 : Int) : (List Int × Int) → Option ((List Int × Int) ⊕ List Int) := fun (q2, q3) =>
 if q3 < n3 then
  ar (a1 + q3) fun x19 =>
  ar (b2 + q3) fun x23 =>
  ar (b2 + q3) fun x27 =>
  ck (inb x27 q2.length) <|
  lv (gt q2 x27) fun x29 =>
  ar (a1 + q3) fun x33 =>
  ck (inb x33 q2.length) <|
  lv (gt q2 x33) fun x35 =>
  ck (inb x19 q2.length) <|
  lv (stt q2 x19 x29) fun q4 =>
  ck (inb x23 q4.length) <|
  lv (stt q4 x23 x35) fun q5 =>
  ar (q3 + 1) fun x15 =>
  some (Sum.inl (q5, x15))
 else
  some (Sum.inr q2)
def P_slices_swapRangeCmpFunc_int_3 (data0 : List Int) (a1 : Int) (b2 : Int) (n3 : Int) (q3 : List Int) : Option (List Int) :=
 bd (
  lp (P_slices_swapRangeCmpFunc_int_3_L1 a1 b2 n3) fuel (data0, 0)) fun q2 =>
 some q2
theorem c_slices_swapRangeCmpFunc_int_3 {w0 w : World} {l : List Assn} {ρ : Heap} {q2 : Option Addr} {q0g : Nat} {c_data0 : Nat} {q0w : List Value} {q0a : Nat} {q8 : Option Addr} {q0i : Nat} {c_cmp4_0_0 : Nat} {data0 : List Int} {a1 : Int} {b2 : Int} {n3 : Int} {q0c : List Int} {r : List Int} (hF : P_slices_swapRangeCmpFunc_int_3 data0 a1 b2 n3 q0c = some r) (q1d : RepL (RpI .i64) ρ data0 q0w) (q1e : RdS (RpI .i64) ρ q8 q0i c_cmp4_0_0 q0c) (hS : St w0 w (vec 3 (RpI .i64).sz (.slice q2 q0g c_data0) q0g q0w :: cells q0a 22 [.slice q8 q0i c_cmp4_0_0] :: ro ρ :: l)) :
  Calls Tryd.prog 83 #[.slice q2 q0g c_data0, .int .i64 a1, .int .i64 b2, .int .i64 n3, .func (.func 47) #[] #[.pointer (some ⟨q0a, 0, none⟩)]] w fun e w' => ∃ (q0d : List Value), e = .returned (.tuple #[]) ∧ RepL (RpI .i64) ρ r q0d ∧ St w0 w' (cells q0a 22 [.slice q8 q0i c_cmp4_0_0] :: vec 3 (RpI .i64).sz (.slice q2 q0g c_data0) q0g q0d :: ro ρ :: l) := by
 have e_ := St.vec_n hS q1d; subst e_
 have e_ := q1e.n; subst e_
 refine enterC Tryd.func83 rfl 38 rfl (by simp) ?_
 refine x_seq <| x_region <| p (yl_assign rfl) <| x_done <| ?_
 replace hF := bd_s hF; obtain ⟨oL1, hLL1, hF⟩ := hF
 refine x_join (fun E w => ∃ (q9 : List Value) (q0f : List Int), q0f = oL1 ∧ RepL (RpI .i64) ρ q0f q9 ∧ St w0 w (cells q0a 22 [.slice q8 q0c.length c_cmp4_0_0] :: vec 3 (RpI .i64).sz (.slice q2 data0.length c_data0) data0.length q9 :: ro ρ :: l)) ?_ ?_
 ·refine x_block ?_
  refine x_loop (fun k_ E w => ∃ (q4 : List Value) (q0e : List Int) (q5 : Int), lp (P_slices_swapRangeCmpFunc_int_3_L1 a1 b2 n3) k_ (q0e, q5) = some oL1 ∧ E 0 = .slice q2 data0.length c_data0 ∧ E 1 = .int .i64 a1 ∧ E 2 = .int .i64 b2 ∧ E 3 = .int .i64 n3 ∧ E 10 = .int .i64 q5 ∧ RepL (RpI .i64) ρ q0e q4 ∧ St w0 w (vec 3 (RpI .i64).sz (.slice q2 data0.length c_data0) data0.length q4 :: cells q0a 22 [.slice q8 q0c.length c_cmp4_0_0] :: ro ρ :: l)) fuel ⟨q0w, data0, 0, hLL1, rfl, rfl, rfl, rfl, rfl, q1d, (((hS.pull 2).pull 2).pull 2)⟩ ?_
  rintro kL1 E w ⟨q4, q0e, q5, hLL1, q0j, q1a, q1b, q1f, q0b, q7, hS⟩
  replace hLL1 := lp_s hLL1; obtain ⟨kL1, obL1, rfl, hFL1, hLL1⟩ := hLL1
  refine x_seq <| x_seq <| x_region <| p (yl_move q0b) <|
   p (yl_move q1f) <| p (yl_lss rfl rfl) <| x_done <|
   x_cond_p (q5 < n3) rfl (fun hc13 => ?_) (fun hc13 => ?_)
  ·replace hFL1 := it_t hc13 hFL1
   refine x_skip <| x_seq <| x_block <| ?_
   replace hFL1 := ar_s hFL1; obtain ⟨x19, hx19, hFL1⟩ := hFL1
   replace hFL1 := ar_s hFL1; obtain ⟨x23, hx23, hFL1⟩ := hFL1
   replace hFL1 := ar_s hFL1; obtain ⟨x27, hx27, hFL1⟩ := hFL1
   replace hFL1 := ck_s hFL1; obtain ⟨q1g, hFL1⟩ := hFL1
   replace hFL1 := lv_s hFL1; obtain ⟨x29, hx29, hFL1⟩ := hFL1
   replace hFL1 := ar_s hFL1; obtain ⟨x33, hx33, hFL1⟩ := hFL1
   replace hFL1 := ck_s hFL1; obtain ⟨q1h, hFL1⟩ := hFL1
   replace hFL1 := lv_s hFL1; obtain ⟨x35, hx35, hFL1⟩ := hFL1
   replace hFL1 := ck_s hFL1; obtain ⟨q1i, hFL1⟩ := hFL1
   replace hFL1 := lv_s hFL1; obtain ⟨q0x, q1k, hFL1⟩ := hFL1
   replace hFL1 := ck_s hFL1; obtain ⟨q1j, hFL1⟩ := hFL1
   replace hFL1 := lv_s hFL1; obtain ⟨q19, q1l, hFL1⟩ := hFL1
   refine x_par (w0 := w0) [⟨[], [], [16], [], [], []⟩, ⟨[], [], [17], [], [], []⟩, ⟨[], [], [18], [], [], []⟩, ⟨[1, 2], [1, 2], [19], [], [], []⟩, ⟨[], [], [20], [], [], []⟩, ⟨[], [], [21], [], [], []⟩, ⟨[], [], [22], [], [], []⟩, ⟨[5, 6], [5, 6], [23], [], [], []⟩, ⟨[], [], [24], [], [], []⟩, ⟨[], [], [25], [], [], []⟩, ⟨[], [], [26], [], [], []⟩, ⟨[9, 10], [9, 10], [27], [], [], []⟩, ⟨[8, 9, 10, 11], [8, 11], [28], [0], [], []⟩, ⟨[8, 9, 10, 11, 12], [12], [29], [0], [], []⟩, ⟨[], [], [30], [], [], []⟩, ⟨[], [], [31], [], [], []⟩, ⟨[], [], [32], [], [], []⟩, ⟨[15, 16], [15, 16], [33], [], [], []⟩, ⟨[14, 15, 16, 17], [14, 17], [34], [0], [], []⟩, ⟨[14, 15, 16, 17, 18], [18], [35], [0], [], []⟩, ⟨[0, 1, 2, 3, 8, 9, 10, 11, 12, 13, 14, 15, 16, 17, 18, 19], [0, 3], [36], [0], [], []⟩, ⟨[0, 1, 2, 3, 8, 9, 10, 11, 12, 13, 14, 15, 16, 17, 18, 19, 20], [13, 20], [], [], [0], [1]⟩, ⟨[0, 1, 2, 3, 4, 5, 6, 7, 8, 9, 10, 11, 12, 13, 14, 15, 16, 17, 18, 19, 20, 21], [4, 7], [37], [2, 1], [], []⟩, ⟨[0, 1, 2, 3, 4, 5, 6, 7, 8, 9, 10, 11, 12, 13, 14, 15, 16, 17, 18, 19, 20, 21, 22], [19, 22], [], [2], [1], [3]⟩] [⟨none, (some 21), []⟩, ⟨(some 21), (some 23), []⟩, ⟨none, none, []⟩, ⟨(some 23), none, []⟩] [16, 17, 18, 19, 20, 21, 22, 23, 24, 25, 26, 27, 28, 29, 30, 31, 32, 33, 34, 35, 36, 37] [0, 2] [2, 3] [0, 1, 2, 3, 4, 5, 6, 7, 8, 9, 10, 11, 12, 13, 14, 15, 16, 17, 18, 19, 20, 22] [fun Ep3 => Ep3 16 = .slice q2 data0.length c_data0, fun Ep3 => Ep3 17 = .int .i64 a1, fun Ep3 => Ep3 18 = .int .i64 q5, fun Ep3 => Ep3 19 = .int .i64 x19, fun Ep3 => Ep3 20 = .slice q2 data0.length c_data0, fun Ep3 => Ep3 21 = .int .i64 b2, fun Ep3 => Ep3 22 = .int .i64 q5, fun Ep3 => Ep3 23 = .int .i64 x23, fun Ep3 => Ep3 24 = .slice q2 data0.length c_data0, fun Ep3 => Ep3 25 = .int .i64 b2, fun Ep3 => Ep3 26 = .int .i64 q5, fun Ep3 => Ep3 27 = .int .i64 x27, fun Ep3 => Ep3 28 = .pointer (some ((adr q2).add (x27.toNat * (RpI .i64).sz))), fun Ep3 => Ep3 29 = .int .i64 x29, fun Ep3 => Ep3 30 = .slice q2 data0.length c_data0, fun Ep3 => Ep3 31 = .int .i64 a1, fun Ep3 => Ep3 32 = .int .i64 q5, fun Ep3 => Ep3 33 = .int .i64 x33, fun Ep3 => Ep3 34 = .pointer (some ((adr q2).add (x33.toNat * (RpI .i64).sz))), fun Ep3 => Ep3 35 = .int .i64 x35, fun Ep3 => Ep3 36 = .pointer (some ((adr q2).add (x19.toNat * (RpI .i64).sz))), fun Ep3 => True, fun Ep3 => Ep3 37 = .pointer (some ((adr q2).add (x23.toNat * (RpI .i64).sz))), fun Ep3 => True] [fun Ep3 => vec 3 (RpI .i64).sz (.slice q2 data0.length c_data0) data0.length q4, fun Ep3 => bunA (fun (q3 : List Value) => RepL (RpI .i64) ρ q0x q3) (fun (q3 : List Value) => [vec 3 (RpI .i64).sz (.slice q2 data0.length c_data0) data0.length q3]), fun Ep3 => ro ρ, fun Ep3 => bunA (fun (q6 : List Value) => RepL (RpI .i64) ρ q19 q6) (fun (q6 : List Value) => [vec 3 (RpI .i64).sz (.slice q2 data0.length c_data0) data0.length q6])] mixed (by kernel_rfl) ((hS.pull 2).pull 1) ?_ ?_
   ·refine ⟨?_, ?_, ?_, ?_, ?_, ?_, ?_, ?_, ?_, ?_, ?_, ?_, ?_, ?_, ?_, ?_, ?_, ?_, ?_, ?_, ?_, ?_, ?_, ?_, trivial⟩
    ·intro Ep3 w l' hE3 hO3 hF_ hS
     refine p (yl_move ((hE3 0 rfl).trans q0j)) <| x_done <| ?_
     refine x_fin ⟨⟨_, rfl⟩, rfl, ?_⟩
     exact emk hS
    ·intro Ep3 w l' hE3 hO3 hF_ hS
     refine p (yl_move ((hE3 1 rfl).trans q1a)) <| x_done <| ?_
     refine x_fin ⟨⟨_, rfl⟩, rfl, ?_⟩
     exact emk hS
    ·intro Ep3 w l' hE3 hO3 hF_ hS
     refine p (yl_move ((hE3 10 rfl).trans q0b)) <| x_done <| ?_
     refine x_fin ⟨⟨_, rfl⟩, rfl, ?_⟩
     exact emk hS
    ·intro Ep3 w l' hE3 hO3 hF_ hS
     obtain ⟨q0y, q0z, -⟩ := hF_
     replace q0y : Ep3 17 = .int .i64 a1 := emk q0y
     replace q0z : Ep3 18 = .int .i64 q5 := emk q0z
     refine p (yadd q0y q0z hx19) <| x_done <| ?_
     refine x_fin ⟨⟨_, rfl⟩, rfl, ?_⟩
     exact emk hS
    ·intro Ep3 w l' hE3 hO3 hF_ hS
     refine p (yl_move ((hE3 0 rfl).trans q0j)) <| x_done <| ?_
     refine x_fin ⟨⟨_, rfl⟩, rfl, ?_⟩
     exact emk hS
    ·intro Ep3 w l' hE3 hO3 hF_ hS
     refine p (yl_move ((hE3 2 rfl).trans q1b)) <| x_done <| ?_
     refine x_fin ⟨⟨_, rfl⟩, rfl, ?_⟩
     exact emk hS
    ·intro Ep3 w l' hE3 hO3 hF_ hS
     refine p (yl_move ((hE3 10 rfl).trans q0b)) <| x_done <| ?_
     refine x_fin ⟨⟨_, rfl⟩, rfl, ?_⟩
     exact emk hS
    ·intro Ep3 w l' hE3 hO3 hF_ hS
     obtain ⟨q10, q11, -⟩ := hF_
     replace q10 : Ep3 21 = .int .i64 b2 := emk q10
     replace q11 : Ep3 22 = .int .i64 q5 := emk q11
     refine p (yadd q10 q11 hx23) <| x_done <| ?_
     refine x_fin ⟨⟨_, rfl⟩, rfl, ?_⟩
     exact emk hS
    ·intro Ep3 w l' hE3 hO3 hF_ hS
     refine p (yl_move ((hE3 0 rfl).trans q0j)) <| x_done <| ?_
     refine x_fin ⟨⟨_, rfl⟩, rfl, ?_⟩
     exact emk hS
    ·intro Ep3 w l' hE3 hO3 hF_ hS
     refine p (yl_move ((hE3 2 rfl).trans q1b)) <| x_done <| ?_
     refine x_fin ⟨⟨_, rfl⟩, rfl, ?_⟩
     exact emk hS
    ·intro Ep3 w l' hE3 hO3 hF_ hS
     refine p (yl_move ((hE3 10 rfl).trans q0b)) <| x_done <| ?_
     refine x_fin ⟨⟨_, rfl⟩, rfl, ?_⟩
     exact emk hS
    ·intro Ep3 w l' hE3 hO3 hF_ hS
     obtain ⟨q12, q0k, -⟩ := hF_
     replace q12 : Ep3 25 = .int .i64 b2 := emk q12
     replace q0k : Ep3 26 = .int .i64 q5 := emk q0k
     refine p (yadd q12 q0k hx27) <| x_done <| ?_
     refine x_fin ⟨⟨_, rfl⟩, rfl, ?_⟩
     exact emk hS
    ·intro Ep3 w l' hE3 hO3 hF_ hS
     obtain ⟨q13, q0l, -⟩ := hF_
     replace q13 : Ep3 24 = .slice q2 data0.length c_data0 := emk q13
     replace q0l : Ep3 27 = .int .i64 x27 := emk q0l
     replace hS : St w0 w (vec 3 (RpI .i64).sz (.slice q2 data0.length c_data0) data0.length q4 :: l') := emk hS
     refine p (yix_o sl_22 q13 q0l hS q7 q1g) <| x_done <| ?_
     refine x_fin ⟨⟨_, rfl⟩, rfl, ?_⟩
     exact emk hS
    ·intro Ep3 w l' hE3 hO3 hF_ hS
     obtain ⟨q0m, -⟩ := hF_
     replace q0m : Ep3 28 = .pointer (some ((adr q2).add (x27.toNat * (RpI .i64).sz))) := emk q0m
     replace hS : St w0 w (vec 3 (RpI .i64).sz (.slice q2 data0.length c_data0) data0.length q4 :: l') := emk hS
     refine pa (at_load one_3 q0m (RepL.getW q7 hS q1g hx29)) <| x_done <| ?_
     refine x_fin ⟨⟨_, rfl⟩, rfl, ?_⟩
     exact emk hS
    ·intro Ep3 w l' hE3 hO3 hF_ hS
     refine p (yl_move ((hE3 0 rfl).trans q0j)) <| x_done <| ?_
     refine x_fin ⟨⟨_, rfl⟩, rfl, ?_⟩
     exact emk hS
    ·intro Ep3 w l' hE3 hO3 hF_ hS
     refine p (yl_move ((hE3 1 rfl).trans q1a)) <| x_done <| ?_
     refine x_fin ⟨⟨_, rfl⟩, rfl, ?_⟩
     exact emk hS
    ·intro Ep3 w l' hE3 hO3 hF_ hS
     refine p (yl_move ((hE3 10 rfl).trans q0b)) <| x_done <| ?_
     refine x_fin ⟨⟨_, rfl⟩, rfl, ?_⟩
     exact emk hS
    ·intro Ep3 w l' hE3 hO3 hF_ hS
     obtain ⟨q0n, q0o, -⟩ := hF_
     replace q0n : Ep3 31 = .int .i64 a1 := emk q0n
     replace q0o : Ep3 32 = .int .i64 q5 := emk q0o
     refine p (yadd q0n q0o hx33) <| x_done <| ?_
     refine x_fin ⟨⟨_, rfl⟩, rfl, ?_⟩
     exact emk hS
    ·intro Ep3 w l' hE3 hO3 hF_ hS
     obtain ⟨q0p, q0q, -⟩ := hF_
     replace q0p : Ep3 30 = .slice q2 data0.length c_data0 := emk q0p
     replace q0q : Ep3 33 = .int .i64 x33 := emk q0q
     replace hS : St w0 w (vec 3 (RpI .i64).sz (.slice q2 data0.length c_data0) data0.length q4 :: l') := emk hS
     refine p (yix_o sl_22 q0p q0q hS q7 q1h) <| x_done <| ?_
     refine x_fin ⟨⟨_, rfl⟩, rfl, ?_⟩
     exact emk hS
    ·intro Ep3 w l' hE3 hO3 hF_ hS
     obtain ⟨q0r, -⟩ := hF_
     replace q0r : Ep3 34 = .pointer (some ((adr q2).add (x33.toNat * (RpI .i64).sz))) := emk q0r
     replace hS : St w0 w (vec 3 (RpI .i64).sz (.slice q2 data0.length c_data0) data0.length q4 :: l') := emk hS
     refine pa (at_load one_3 q0r (RepL.getW q7 hS q1h hx35)) <| x_done <| ?_
     refine x_fin ⟨⟨_, rfl⟩, rfl, ?_⟩
     exact emk hS
    ·intro Ep3 w l' hE3 hO3 hF_ hS
     obtain ⟨q14, q15, -⟩ := hF_
     replace q14 : Ep3 16 = .slice q2 data0.length c_data0 := emk q14
     replace q15 : Ep3 19 = .int .i64 x19 := emk q15
     replace hS : St w0 w (vec 3 (RpI .i64).sz (.slice q2 data0.length c_data0) data0.length q4 :: l') := emk hS
     refine p (yix_o sl_22 q14 q15 hS q7 q1i) <| x_done <| ?_
     refine x_fin ⟨⟨_, rfl⟩, rfl, ?_⟩
     exact emk hS
    ·intro Ep3 w l' hE3 hO3 hF_ hS
     obtain ⟨q0s, q0t, -⟩ := hF_
     replace q0s : Ep3 29 = .int .i64 x29 := emk q0s
     replace q0t : Ep3 36 = .pointer (some ((adr q2).add (x19.toNat * (RpI .i64).sz))) := emk q0t
     replace hS : St w0 w (vec 3 (RpI .i64).sz (.slice q2 data0.length c_data0) data0.length q4 :: l') := emk hS
     refine o_put' (news := [.int .i64 x29]) sz_3 q0t q0s rfl rfl (o := 0) rfl q1i rfl hS q7 (Le.refl _) (fun c hc => ok_all hc (show (RpI .i64).ok ρ [.int .i64 x29] x29 from rfl)) q1k (fun q3 w' q0h hS => ?_)
     refine x_done <| ?_
     refine x_fin ⟨⟨undef, rfl⟩, trivial, ?_⟩
     replace hS := St.bun (Φ := (fun (q3 : List Value) => RepL (RpI .i64) ρ q0x q3)) (L := (fun (q3 : List Value) => [vec 3 (RpI .i64).sz (.slice q2 data0.length c_data0) data0.length q3])) q3 q0h hS
     exact emk hS
    ·intro Ep3 w l' hE3 hO3 hF_ hS
     obtain ⟨q16, q17, -⟩ := hF_
     replace q16 : Ep3 20 = .slice q2 data0.length c_data0 := emk q16
     replace q17 : Ep3 23 = .int .i64 x23 := emk q17
     replace hS : St w0 w (ro ρ :: bunA (fun (q3 : List Value) => RepL (RpI .i64) ρ q0x q3) (fun (q3 : List Value) => [vec 3 (RpI .i64).sz (.slice q2 data0.length c_data0) data0.length q3]) :: l') := emk hS
     have q_ := St.unbun (hS.pull 1); obtain ⟨q3, q0h, hS⟩ := q_
     refine p (yix_o sl_22 q16 q17 hS q0h q1j) <| x_done <| ?_
     refine x_fin ⟨⟨_, rfl⟩, rfl, ?_⟩
     replace hS := St.bun (Φ := (fun (q3 : List Value) => RepL (RpI .i64) ρ q0x q3)) (L := (fun (q3 : List Value) => [vec 3 (RpI .i64).sz (.slice q2 data0.length c_data0) data0.length q3])) q3 q0h hS
     exact emk (hS.pull 1)
    ·intro Ep3 w l' hE3 hO3 hF_ hS
     obtain ⟨q0u, q0v, -⟩ := hF_
     replace q0u : Ep3 35 = .int .i64 x35 := emk q0u
     replace q0v : Ep3 37 = .pointer (some ((adr q2).add (x23.toNat * (RpI .i64).sz))) := emk q0v
     replace hS : St w0 w (ro ρ :: bunA (fun (q3 : List Value) => RepL (RpI .i64) ρ q0x q3) (fun (q3 : List Value) => [vec 3 (RpI .i64).sz (.slice q2 data0.length c_data0) data0.length q3]) :: l') := emk hS
     have q_ := St.unbun (hS.pull 1); obtain ⟨q3, q0h, hS⟩ := q_
     refine o_put' (news := [.int .i64 x35]) sz_3 q0v q0u rfl rfl (o := 0) rfl q1j rfl hS q0h (Le.refl _) (fun c hc => ok_all hc (show (RpI .i64).ok ρ [.int .i64 x35] x35 from rfl)) q1l (fun q6 w' q1c hS => ?_)
     refine x_done <| ?_
     refine x_fin ⟨⟨undef, rfl⟩, trivial, ?_⟩
     replace hS := St.bun (Φ := (fun (q6 : List Value) => RepL (RpI .i64) ρ q19 q6)) (L := (fun (q6 : List Value) => [vec 3 (RpI .i64).sz (.slice q2 data0.length c_data0) data0.length q6])) q6 q1c hS
     exact emk (hS.pull 1)
   intro Ep3 w' hE3 hF_ hS
   obtain ⟨q14, q0y, q0z, q15, q16, q10, q11, q17, q13, q12, q0k, q0l, q0m, q0s, q0p, q0n, q0o, q0q, q0r, q0u, q0t, q0v, -⟩ := hF_
   replace q14 : Ep3 16 = .slice q2 data0.length c_data0 := emk q14
   replace q0y : Ep3 17 = .int .i64 a1 := emk q0y
   replace q0z : Ep3 18 = .int .i64 q5 := emk q0z
   replace q15 : Ep3 19 = .int .i64 x19 := emk q15
   replace q16 : Ep3 20 = .slice q2 data0.length c_data0 := emk q16
   replace q10 : Ep3 21 = .int .i64 b2 := emk q10
   replace q11 : Ep3 22 = .int .i64 q5 := emk q11
   replace q17 : Ep3 23 = .int .i64 x23 := emk q17
   replace q13 : Ep3 24 = .slice q2 data0.length c_data0 := emk q13
   replace q12 : Ep3 25 = .int .i64 b2 := emk q12
   replace q0k : Ep3 26 = .int .i64 q5 := emk q0k
   replace q0l : Ep3 27 = .int .i64 x27 := emk q0l
   replace q0m : Ep3 28 = .pointer (some ((adr q2).add (x27.toNat * (RpI .i64).sz))) := emk q0m
   replace q0s : Ep3 29 = .int .i64 x29 := emk q0s
   replace q0p : Ep3 30 = .slice q2 data0.length c_data0 := emk q0p
   replace q0n : Ep3 31 = .int .i64 a1 := emk q0n
   replace q0o : Ep3 32 = .int .i64 q5 := emk q0o
   replace q0q : Ep3 33 = .int .i64 x33 := emk q0q
   replace q0r : Ep3 34 = .pointer (some ((adr q2).add (x33.toNat * (RpI .i64).sz))) := emk q0r
   replace q0u : Ep3 35 = .int .i64 x35 := emk q0u
   replace q0t : Ep3 36 = .pointer (some ((adr q2).add (x19.toNat * (RpI .i64).sz))) := emk q0t
   replace q0v : Ep3 37 = .pointer (some ((adr q2).add (x23.toNat * (RpI .i64).sz))) := emk q0v
   replace hS : St w0 w' (ro ρ :: bunA (fun (q6 : List Value) => RepL (RpI .i64) ρ q19 q6) (fun (q6 : List Value) => [vec 3 (RpI .i64).sz (.slice q2 data0.length c_data0) data0.length q6]) :: (cells q0a 22 [.slice q8 q0c.length c_cmp4_0_0] :: l)) := emk hS
   have q_ := St.unbun (hS.pull 1); obtain ⟨q6, q1c, hS⟩ := q_
   replace hFL1 := ar_s hFL1; obtain ⟨x15, hx15, hFL1⟩ := hFL1
   refine x_blk <| x_region <| p (yl_move ((hE3 10 rfl).trans q0b)) <| p (yadd rfl rfl hx15) <|
    p (yl_assign rfl) <| x_done <| ?_
   have e_ := sinj hFL1; subst e_
   exact x_inv ⟨kL1, Nat.lt_succ_self _, q6, q19, x15, hLL1, ((hE3 0 rfl).trans q0j), ((hE3 1 rfl).trans q1a), ((hE3 2 rfl).trans q1b), ((hE3 3 rfl).trans q1f), rfl, q1c, (((hS.pull 1).pull 2).pull 2)⟩
  ·replace hFL1 := it_f hc13 hFL1
   refine x_exitTo _ rfl <| ?_
   have e_ := sinj hFL1; subst e_
   exact x_inv ⟨q4, q0e, hLL1, q7, (((hS.pull 2).pull 1).pull 2)⟩
 rintro E w ⟨q9, q0f, rfl, q18, hS⟩
 have e_ := sinj hF; subst e_
 exact x_fin ⟨_, rfl, q9, rfl, q18, (((hS.pull 2).pull 2).pull 2)⟩
attribute [irreducible] P_slices_swapRangeCmpFunc_int_3

def P_slices_rotateCmpFunc_int_3_L2 (m2 : Int) (q5 : List Int) : (List Int × Int × Int) → Option ((List Int × Int × Int) ⊕ (List Int × Int)) := fun (q4, q2, q3) =>
 if q2 ≠ q3 then
  bd (
   if q3 < q2 then
    ar (m2 - q2) fun x27 =>
    bd (P_slices_swapRangeCmpFunc_int_3 q4 x27 m2 q3 q5) fun q0a =>
    ar (q2 - q3) fun x34 =>
    some (q0a, x34, q3)
   else
    ar (m2 - q2) fun x38 =>
    ar (m2 + q3) fun x41 =>
    ar (x41 - q2) fun x43 =>
    bd (P_slices_swapRangeCmpFunc_int_3 q4 x38 x43 q2 q5) fun q9 =>
    ar (q3 - q2) fun x49 =>
    some (q9, q2, x49)) fun (q6, q7, q8) =>
  some (Sum.inl (q6, q7, q8))
 else
  some (Sum.inr (q4, q2))
def P_slices_rotateCmpFunc_int_3 (data0 : List Int) (a1 : Int) (m2 : Int) (b3 : Int) (q2 : List Int) : Option (List Int) :=
 ar (m2 - a1) fun x14 =>
 ar (b3 - m2) fun x17 =>
 bd (
  lp (P_slices_rotateCmpFunc_int_3_L2 m2 q2) fuel (data0, x14, x17)) fun (q4, q3) =>
 ar (m2 - q3) fun x53 =>
 bd (P_slices_swapRangeCmpFunc_int_3 q4 x53 m2 q3 q2) fun q5 =>
 some q5
theorem c_slices_rotateCmpFunc_int_3 {w0 w : World} {l : List Assn} {ρ : Heap} {q4 : Option Addr} {q0j : Nat} {c_data0 : Nat} {q0v : List Value} {q2 : Nat} {q5 : Option Addr} {q0k : Nat} {c_cmp4_0_0 : Nat} {data0 : List Int} {a1 : Int} {m2 : Int} {b3 : Int} {q8 : List Int} {r : List Int} (hF : P_slices_rotateCmpFunc_int_3 data0 a1 m2 b3 q8 = some r) (q0z : RepL (RpI .i64) ρ data0 q0v) (q0b : RdS (RpI .i64) ρ q5 q0k c_cmp4_0_0 q8) (hS : St w0 w (vec 3 (RpI .i64).sz (.slice q4 q0j c_data0) q0j q0v :: cells q2 22 [.slice q5 q0k c_cmp4_0_0] :: ro ρ :: l)) :
  Calls Tryd.prog 80 #[.slice q4 q0j c_data0, .int .i64 a1, .int .i64 m2, .int .i64 b3, .func (.func 47) #[] #[.pointer (some ⟨q2, 0, none⟩)]] w fun e w' => ∃ (q0e : List Value), e = .returned (.tuple #[]) ∧ RepL (RpI .i64) ρ r q0e ∧ St w0 w' (cells q2 22 [.slice q5 q0k c_cmp4_0_0] :: vec 3 (RpI .i64).sz (.slice q4 q0j c_data0) q0j q0e :: ro ρ :: l) := by
 have e_ := St.vec_n hS q0z; subst e_
 have e_ := q0b.n; subst e_
 refine enterC Tryd.func80 rfl 58 rfl (by simp) ?_
 replace hF := ar_s hF; obtain ⟨x14, hx14, hF⟩ := hF
 replace hF := ar_s hF; obtain ⟨x17, hx17, hF⟩ := hF
 refine x_seq <| x_region <| p (yl_move rfl) <| p (yl_move rfl) <|
  p (ysub rfl rfl hx14) <| p (yl_assign rfl) <| x_done <| x_seq <|
  x_region <| p (yl_move rfl) <| p (yl_move rfl) <| p (ysub rfl rfl hx17) <|
  p (yl_assign rfl) <| x_done <| x_seq <| ?_
 replace hF := bd_s hF; obtain ⟨oL2, hLL2, hF⟩ := hF
 refine x_join (fun E w => ∃ (q0h : List Value) (q0w : List Int) (q0x : Int), (q0w, q0x) = oL2 ∧ E 0 = .slice q4 data0.length c_data0 ∧ E 2 = .int .i64 m2 ∧ E 4 = .func (.func 47) #[] #[.pointer (some ⟨q2, 0, none⟩)] ∧ E 10 = .int .i64 q0x ∧ RepL (RpI .i64) ρ q0w q0h ∧ St w0 w (vec 3 (RpI .i64).sz (.slice q4 data0.length c_data0) data0.length q0h :: cells q2 22 [.slice q5 q8.length c_cmp4_0_0] :: ro ρ :: l)) ?_ ?_
 ·refine x_block ?_
  refine x_loop (fun k_ E w => ∃ (q6 : List Value) (q0f : List Int) (q9 : Int) (q0c : Int), lp (P_slices_rotateCmpFunc_int_3_L2 m2 q8) k_ (q0f, q9, q0c) = some oL2 ∧ E 0 = .slice q4 data0.length c_data0 ∧ E 2 = .int .i64 m2 ∧ E 4 = .func (.func 47) #[] #[.pointer (some ⟨q2, 0, none⟩)] ∧ E 10 = .int .i64 q9 ∧ E 11 = .int .i64 q0c ∧ RepL (RpI .i64) ρ q0f q6 ∧ St w0 w (vec 3 (RpI .i64).sz (.slice q4 data0.length c_data0) data0.length q6 :: cells q2 22 [.slice q5 q8.length c_cmp4_0_0] :: ro ρ :: l)) fuel ⟨q0v, data0, x14, x17, hLL2, rfl, rfl, rfl, rfl, rfl, q0z, (((hS.pull 2).pull 2).pull 2)⟩ ?_
  rintro kL2 E w ⟨q6, q0f, q9, q0c, hLL2, q0p, q0d, q0q, q3, q0a, q0i, hS⟩
  replace hLL2 := lp_s hLL2; obtain ⟨kL2, obL2, rfl, hFL2, hLL2⟩ := hLL2
  refine x_seq <| x_seq <| x_region <| p (yl_move q3) <|
   p (yl_move q0a) <| p (yl_neq rfl rfl) <| x_done <|
   x_cond_p (q9 ≠ q0c) rfl (fun hc20 => ?_) (fun hc20 => ?_)
  ·replace hFL2 := it_t hc20 hFL2
   refine x_skip <| x_block <| x_seq <| x_region <|
    p (yl_move q3) <| p (yl_move q0a) <| p (yl_gtr rfl rfl) <| x_done <| ?_
   replace hFL2 := bd_s hFL2; obtain ⟨oc23, hFc23, hFL2⟩ := hFL2
   refine x_join (fun E w => ∃ (q7 : List Value) (q0g : List Int) (q0t : Int) (q0u : Int), (q0g, q0t, q0u) = oc23 ∧ E 0 = .slice q4 data0.length c_data0 ∧ E 2 = .int .i64 m2 ∧ E 4 = .func (.func 47) #[] #[.pointer (some ⟨q2, 0, none⟩)] ∧ E 10 = .int .i64 q0t ∧ E 11 = .int .i64 q0u ∧ RepL (RpI .i64) ρ q0g q7 ∧ St w0 w (vec 3 (RpI .i64).sz (.slice q4 data0.length c_data0) data0.length q7 :: cells q2 22 [.slice q5 q8.length c_cmp4_0_0] :: ro ρ :: l)) ?_ ?_
   ·refine x_cond_p (q0c < q9) rfl (fun hc23 => ?_) (fun hc23 => ?_)
    ·replace hFc23 := it_t hc23 hFc23
     replace hFc23 := ar_s hFc23; obtain ⟨x27, hx27, hFc23⟩ := hFc23
     replace hFc23 := bd_s hFc23; obtain ⟨q1e, q19, hFc23⟩ := hFc23
     refine x_seq <| x_region <| p (yl_move q0p) <| p (yl_move q0d) <|
      p (yl_move q3) <| p (ysub rfl rfl hx27) <| p (yl_move q0d) <| p (yl_move q0a) <|
      p (yl_move q0q) <| ?_
     have hcall := c_slices_swapRangeCmpFunc_int_3 q19 q0i q0b (((hS.pull 2).pull 2).pull 2)
     refine o_cc call_83 (args5 rfl rfl rfl rfl rfl) hcall ?_
     rintro e w' ⟨q0m, rfl, q0r, hS⟩
     refine ⟨_, rfl, ?_⟩
     replace hFc23 := ar_s hFc23; obtain ⟨x34, hx34, hFc23⟩ := hFc23
     refine x_done <| x_region <| p (yl_move q3) <| p (yl_move q0a) <|
      p (ysub rfl rfl hx34) <| p (yl_assign rfl) <| x_done <| ?_
     exact x_inv ⟨q0m, q1e, x34, q0c, (sinj hFc23), q0p, q0d, q0q, rfl, q0a, q0r, (((hS.pull 2).pull 1).pull 2)⟩
    ·replace hFc23 := it_f hc23 hFc23
     replace hFc23 := ar_s hFc23; obtain ⟨x38, hx38, hFc23⟩ := hFc23
     replace hFc23 := ar_s hFc23; obtain ⟨x41, hx41, hFc23⟩ := hFc23
     replace hFc23 := ar_s hFc23; obtain ⟨x43, hx43, hFc23⟩ := hFc23
     replace hFc23 := bd_s hFc23; obtain ⟨q1a, q15, hFc23⟩ := hFc23
     refine x_seq <| x_region <| p (yl_move q0p) <| p (yl_move q0d) <|
      p (yl_move q3) <| p (ysub rfl rfl hx38) <| p (yl_move q0d) <| p (yl_move q0a) <|
      p (yadd rfl rfl hx41) <| p (yl_move q3) <| p (ysub rfl rfl hx43) <| p (yl_move q3) <|
      p (yl_move q0q) <| ?_
     have hcall := c_slices_swapRangeCmpFunc_int_3 q15 q0i q0b (((hS.pull 2).pull 2).pull 2)
     refine o_cc call_83 (args5 rfl rfl rfl rfl rfl) hcall ?_
     rintro e w' ⟨q0l, rfl, q0n, hS⟩
     refine ⟨_, rfl, ?_⟩
     replace hFc23 := ar_s hFc23; obtain ⟨x49, hx49, hFc23⟩ := hFc23
     refine x_done <| x_region <| p (yl_move q0a) <| p (yl_move q3) <|
      p (ysub rfl rfl hx49) <| p (yl_assign rfl) <| x_done <| ?_
     exact x_inv ⟨q0l, q1a, q9, x49, (sinj hFc23), q0p, q0d, q0q, q3, rfl, q0n, (((hS.pull 2).pull 1).pull 2)⟩
   rintro E w ⟨q7, q0g, q0t, q0u, rfl, q16, q17, q18, q13, q14, q0y, hS⟩
   refine x_blk <| ?_
   have e_ := sinj hFL2; subst e_
   exact x_inv ⟨kL2, Nat.lt_succ_self _, q7, q0g, q0t, q0u, hLL2, q16, q17, q18, q13, q14, q0y, (((hS.pull 2).pull 2).pull 2)⟩
  ·replace hFL2 := it_f hc20 hFL2
   refine x_exitTo _ rfl <| ?_
   have e_ := sinj hFL2; subst e_
   exact x_inv ⟨q6, q0f, q9, hLL2, q0p, q0d, q0q, q3, q0i, (((hS.pull 2).pull 2).pull 2)⟩
 rintro E w ⟨q0h, q0w, q0x, rfl, q1b, q12, q1c, q11, q10, hS⟩
 replace hF := ar_s hF; obtain ⟨x53, hx53, hF⟩ := hF
 replace hF := bd_s hF; obtain ⟨q1f, q1d, hF⟩ := hF
 refine x_region <| p (yl_move q1b) <| p (yl_move q12) <| p (yl_move q11) <|
  p (ysub rfl rfl hx53) <| p (yl_move q12) <| p (yl_move q11) <| p (yl_move q1c) <| ?_
 have hcall := c_slices_swapRangeCmpFunc_int_3 q1d q10 q0b (((hS.pull 2).pull 2).pull 2)
 refine o_cc call_83 (args5 rfl rfl rfl rfl rfl) hcall ?_
 rintro e w' ⟨q0o, rfl, q0s, hS⟩
 refine ⟨_, rfl, ?_⟩
 refine x_done <| ?_
 have e_ := sinj hF; subst e_
 exact x_fin ⟨_, rfl, q0o, rfl, q0s, (((hS.pull 2).pull 2).pull 2)⟩
attribute [irreducible] P_slices_rotateCmpFunc_int_3


end Go.Proofs.YtfkncjfpgflafaaDoor.X
