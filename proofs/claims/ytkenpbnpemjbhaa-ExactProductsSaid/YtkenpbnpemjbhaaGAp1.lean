/- Printed by gen.py: plain functions, and that the Go code computes them. -/
import Derived.Test.YtkenpbnpemjbhaaXI
import Derived.Test.YtkenpbnpemjbhaaYW
import Derived.Test.YtkenpbnpemjbhaaXT
import Derived.Test.YtkenpbnpemjbhaaGAp0
namespace Go.Proofs.Ytkenpbnpemjbhaa.X
open Go Go.RowKit
set_option linter.unusedVariables false
set_option linter.unusedSimpArgs false

def P_exact_split (a0 : T_exact_Int) (b1 : T_exact_Int) : Option (T_exact_Int × T_exact_Int) :=
 bd (P_exact_divMag a0.fmag b1.fmag) fun q4 =>
 bd (P_exact_made (!(a0.fneg == b1.fneg)) q4.1) fun q3 =>
 bd (P_exact_made a0.fneg q4.2) fun q2 =>
 if q2.fneg = true then
  bd (P_exact_Abs b1) fun q6 =>
  bd (P_exact_plus q2 q6) fun q5 =>
  if b1.fneg = true then
   bd (P_exact_Of 1) fun q7 =>
   bd (P_exact_plus q3 q7) fun q8 =>
   some (q8, q5)
  else
   bd (P_exact_Of (-1)) fun q9 =>
   bd (P_exact_plus q3 q9) fun q0a =>
   some (q0a, q5)
 else
  some (q3, q2)
set_option maxHeartbeats 4000000 in
set_option maxRecDepth 100000 in
theorem c_exact_split {w0 w : World} {l : List Assn} {ρ : Heap} {q0p : Option Addr} {q2m : Nat} {c_a0_1 : Nat} {q0d : Option Addr} {q2n : Nat} {c_b1_1 : Nat} {a0 : T_exact_Int} {b1 : T_exact_Int} {r : (T_exact_Int × T_exact_Int)} (hF : P_exact_split a0 b1 = some r) (q2o : RdS (RpI .u32) ρ q0p q2m c_a0_1 a0.fmag) (q27 : RdS (RpI .u32) ρ q0d q2n c_b1_1 b1.fmag) (hS : St w0 w (ro ρ :: l)) :
  Calls Try.prog 103 #[.agg #[.bool a0.fneg, .slice q0p q2m c_a0_1], .agg #[.bool b1.fneg, .slice q0d q2n c_b1_1]] w fun e w' => ∃ (ρ' : Heap) (q17 : Option Addr) (q18 : Nat) (c_y0_ret_1 : Nat) (q19 : Option Addr) (q1a : Nat) (c_y1_ret_1 : Nat), e = .returned (.tuple #[.agg #[.bool r.1.fneg, .slice q17 q18 c_y0_ret_1], .agg #[.bool r.2.fneg, .slice q19 q1a c_y1_ret_1]]) ∧ Le ρ ρ' ∧ RdS (RpI .u32) ρ' q17 q18 c_y0_ret_1 r.1.fmag ∧ RdS (RpI .u32) ρ' q19 q1a c_y1_ret_1 r.2.fmag ∧ St w0 w' (ro ρ' :: l) := by
 have e_ := q2o.n; subst e_
 have e_ := q27.n; subst e_
 refine enterC Try.func103 rfl 47 rfl (by simp) ?_
 refine x_seq <| x_region <| ?_
 refine o_box (cs := [.bool a0.fneg, .slice q0p a0.fmag.length c_a0_1]) rfl rfl hS (fun b2 w' hS => ?_)
 refine o_box (cs := [.bool b1.fneg, .slice q0d b1.fmag.length c_b1_1]) rfl rfl hS (fun b3 w' hS => ?_)
 refine o_alloc zero_79 hS (fun b4 w' hS => ?_)
 refine o_alloc zero_79 hS (fun b5 w' hS => ?_)
 replace hF := bd_s hF; obtain ⟨q0s, q3a, hF⟩ := hF
 refine x_done <| x_seq <| x_region <| p (yl_field0 fld_79_1 rfl) <|
  pa (at_load one_77 rfl ((hS.pull 3).cell rfl)) <| p (yl_field0 fld_79_1 rfl) <| pa (at_load one_77 rfl ((hS.pull 2).cell rfl)) <| ?_
 have hcall := c_exact_divMag q3a q2o q27 (hS.pull 4)
 refine o_cc call_130 (args2 rfl rfl) hcall ?_
 rintro e w' ⟨q0j, q8, q35, c_y0_ret_1_4, q0z, q0x, q36, c_y1_ret_1_4, rfl, q1b, q10, q11, hS⟩
 refine ⟨_, rfl, ?_⟩
 have e_ := St.vec_n hS q10; subst e_
 have e_ := q11.n; subst e_
 refine p (yl_move rfl) <| p (yl_extract rfl rfl) <| p (yl_extract rfl rfl) <| p (yl_assign rfl) <|
  p (yl_assign rfl) <| x_done <| x_seq <| ?_
 replace hF := bd_s hF; obtain ⟨q2, q3b, hF⟩ := hF
 replace hF := bd_s hF; obtain ⟨q3, q37, hF⟩ := hF
 refine x_par (w0 := w0) [⟨[], [], [18], [], [], []⟩, ⟨[0], [0], [19], [0], [], []⟩, ⟨[], [], [20], [], [], []⟩, ⟨[2], [2], [21], [1], [], []⟩, ⟨[0, 1, 2, 3], [1, 3], [22], [], [], []⟩, ⟨[], [], [23], [], [], []⟩, ⟨[0, 1, 2, 3, 4, 5], [4, 5], [24], [3], [2], [4]⟩, ⟨[], [], [25], [], [], []⟩, ⟨[7], [7], [26], [0], [], []⟩, ⟨[], [], [27], [], [], []⟩, ⟨[0, 1, 2, 3, 4, 5, 6, 7, 8, 9], [8, 9], [28], [3], [], [5]⟩, ⟨[], [], [8], [], [], [6]⟩, ⟨[], [], [9], [], [], [7]⟩, ⟨[0, 1, 2, 3, 4, 5, 6, 7, 8, 9, 10, 11, 12], [6, 11], [], [], [6], [8]⟩, ⟨[0, 1, 2, 3, 4, 5, 6, 7, 8, 9, 10, 11, 12, 13], [10, 12], [], [], [7], [9]⟩] [⟨none, none, []⟩, ⟨none, none, []⟩, ⟨none, (some 6), []⟩, ⟨none, none, []⟩, ⟨(some 6), none, [24]⟩, ⟨(some 10), none, [28]⟩, ⟨(some 11), (some 13), [8]⟩, ⟨(some 12), (some 14), [9]⟩, ⟨(some 13), none, [8, 24]⟩, ⟨(some 14), none, [9, 28]⟩] [8, 9, 18, 19, 20, 21, 22, 23, 24, 25, 26, 27, 28] [0, 1, 2, 3] [0, 1, 3, 4, 5, 8, 9] [0, 1, 2, 3, 4, 5, 6, 7, 8, 9, 10, 11, 12] [fun Ep2 => Ep2 18 = .pointer (some ⟨b2, 0, none⟩), fun Ep2 => Ep2 19 = .bool a0.fneg, fun Ep2 => Ep2 20 = .pointer (some ⟨b3, 0, none⟩), fun Ep2 => Ep2 21 = .bool b1.fneg, fun Ep2 => Ep2 22 = .bool (!(a0.fneg == b1.fneg)), fun Ep2 => Ep2 23 = .slice q8 q0s.1.length c_y0_ret_1_4, fun Ep2 => Ep2 24 = .agg #[.bool q2.fneg, .slice (adOf (partOf 1 (Ep2 24))) q2.fmag.length (capOf (partOf 1 (Ep2 24)))], fun Ep2 => Ep2 25 = .pointer (some ⟨b2, 0, none⟩), fun Ep2 => Ep2 26 = .bool a0.fneg, fun Ep2 => Ep2 27 = .slice q0x q0s.2.length c_y1_ret_1_4, fun Ep2 => Ep2 28 = .agg #[.bool q3.fneg, .slice (adOf (partOf 1 (Ep2 28))) q3.fmag.length (capOf (partOf 1 (Ep2 28)))], fun Ep2 => Ep2 8 = .pointer (some ⟨(blkOf (Ep2 8)), 0, none⟩), fun Ep2 => Ep2 9 = .pointer (some ⟨(blkOf (Ep2 9)), 0, none⟩), fun Ep2 => True, fun Ep2 => True] [fun Ep2 => cells b2 79 [.bool a0.fneg, .slice q0p a0.fmag.length c_a0_1], fun Ep2 => cells b3 79 [.bool b1.fneg, .slice q0d b1.fmag.length c_b1_1], fun Ep2 => vec 159 (RpI .u32).sz (.slice q8 q0s.1.length c_y0_ret_1_4) q0s.1.length q0z, fun Ep2 => ro q0j, fun Ep2 => bunA (fun (q0c : Heap) => Le q0j q0c ∧ RdS (RpI .u32) q0c q8 q0s.1.length c_y0_ret_1_4 q0s.1 ∧ RdS (RpI .u32) q0c (adOf (partOf 1 (Ep2 24))) q2.fmag.length (capOf (partOf 1 (Ep2 24))) q2.fmag) (fun (q0c : Heap) => [roD q0j q0c]), fun Ep2 => bunA (fun (x : Unit) => RdS (RpI .u32) q0j (adOf (partOf 1 (Ep2 28))) q3.fmag.length (capOf (partOf 1 (Ep2 28))) q3.fmag) (fun (x : Unit) => []), fun Ep2 => cells (blkOf (Ep2 8)) 79 [.bool false, .slice none 0 0], fun Ep2 => cells (blkOf (Ep2 9)) 79 [.bool false, .slice none 0 0], fun Ep2 => cells (blkOf (Ep2 8)) 79 [.bool q2.fneg, .slice (adOf (partOf 1 (Ep2 24))) q2.fmag.length (capOf (partOf 1 (Ep2 24)))], fun Ep2 => cells (blkOf (Ep2 9)) 79 [.bool q3.fneg, .slice (adOf (partOf 1 (Ep2 28))) q3.fmag.length (capOf (partOf 1 (Ep2 28)))]] mixed (by kernel_rfl) ((((hS.pull 1).pull 1).pull 4).pull 5) ?_ ?_
 ·refine ⟨?_, ?_, ?_, ?_, ?_, ?_, ?_, ?_, ?_, ?_, ?_, ?_, ?_, ?_, ?_, trivial⟩
  ·intro Ep2 w l' hE2 hO2 hF_ hS
   refine p (yl_field0 fld_79_0 (hE2 2 rfl)) <| x_done <| ?_
   refine x_fin ⟨⟨_, rfl⟩, rfl, ?_⟩
   exact Eq.mp (by kernel_rfl) hS
  ·intro Ep2 w l' hE2 hO2 hF_ hS
   obtain ⟨q1d, -⟩ := hF_
   replace q1d : Ep2 18 = .pointer (some ⟨b2, 0, none⟩) := Eq.mp (by kernel_rfl) q1d
   replace hS : St w0 w (cells b2 79 [.bool a0.fneg, .slice q0p a0.fmag.length c_a0_1] :: l') := Eq.mp (by kernel_rfl) hS
   refine pa (at_load one_4 q1d (hS.cell rfl)) <| x_done <| ?_
   refine x_fin ⟨⟨_, rfl⟩, rfl, ?_⟩
   exact Eq.mp (by kernel_rfl) hS
  ·intro Ep2 w l' hE2 hO2 hF_ hS
   refine p (yl_field0 fld_79_0 (hE2 3 rfl)) <| x_done <| ?_
   refine x_fin ⟨⟨_, rfl⟩, rfl, ?_⟩
   exact Eq.mp (by kernel_rfl) hS
  ·intro Ep2 w l' hE2 hO2 hF_ hS
   obtain ⟨q1e, -⟩ := hF_
   replace q1e : Ep2 20 = .pointer (some ⟨b3, 0, none⟩) := Eq.mp (by kernel_rfl) q1e
   replace hS : St w0 w (cells b3 79 [.bool b1.fneg, .slice q0d b1.fmag.length c_b1_1] :: l') := Eq.mp (by kernel_rfl) hS
   refine pa (at_load one_4 q1e (hS.cell rfl)) <| x_done <| ?_
   refine x_fin ⟨⟨_, rfl⟩, rfl, ?_⟩
   exact Eq.mp (by kernel_rfl) hS
  ·intro Ep2 w l' hE2 hO2 hF_ hS
   obtain ⟨q1f, q1g, -⟩ := hF_
   replace q1f : Ep2 19 = .bool a0.fneg := Eq.mp (by kernel_rfl) q1f
   replace q1g : Ep2 21 = .bool b1.fneg := Eq.mp (by kernel_rfl) q1g
   refine p (yneb ub_4 q1f q1g) <| x_done <| ?_
   refine x_fin ⟨⟨_, rfl⟩, rfl, ?_⟩
   exact Eq.mp (by kernel_rfl) hS
  ·intro Ep2 w l' hE2 hO2 hF_ hS
   refine p (yl_move (hE2 6 rfl)) <| x_done <| ?_
   refine x_fin ⟨⟨_, rfl⟩, rfl, ?_⟩
   exact Eq.mp (by kernel_rfl) hS
  ·intro Ep2 w l' hE2 hO2 hF_ hS
   obtain ⟨q1h, q1i, -⟩ := hF_
   replace q1h : Ep2 22 = .bool (!(a0.fneg == b1.fneg)) := Eq.mp (by kernel_rfl) q1h
   replace q1i : Ep2 23 = .slice q8 q0s.1.length c_y0_ret_1_4 := Eq.mp (by kernel_rfl) q1i
   replace hS : St w0 w (ro q0j :: vec 159 (RpI .u32).sz (.slice q8 q0s.1.length c_y0_ret_1_4) q0s.1.length q0z :: l') := Eq.mp (by kernel_rfl) hS
   have q_ := St.vec_fz (hS.pull 1) q10; obtain ⟨q0c, q2c, q2g, hS⟩ := q_
   have hcall := c_exact_made q3b q2g hS
   refine o_cc call_93 (args2 q1h q1i) hcall ?_
   rintro e w' ⟨q1j, q2v, c_y0_ret_1_2_6, rfl, q0e, hS⟩
   refine ⟨_, rfl, ?_⟩
   have e_ := q0e.n; subst e_
   refine x_done <| ?_
   refine x_fin ⟨⟨_, rfl⟩, rfl, ?_⟩
   replace hS := St.ro_split q2c hS
   replace hS := St.bun (Φ := (fun (q0c : Heap) => Le q0j q0c ∧ RdS (RpI .u32) q0c q8 q0s.1.length c_y0_ret_1_4 q0s.1 ∧ RdS (RpI .u32) q0c q1j q2.fmag.length c_y0_ret_1_2_6 q2.fmag)) (L := (fun (q0c : Heap) => [roD q0j q0c])) q0c ⟨q2c, q2g, q0e⟩ (hS.pull 1)
   exact Eq.mp (by kernel_rfl) (hS.pull 1)
  ·intro Ep2 w l' hE2 hO2 hF_ hS
   refine p (yl_field0 fld_79_0 (hE2 2 rfl)) <| x_done <| ?_
   refine x_fin ⟨⟨_, rfl⟩, rfl, ?_⟩
   exact Eq.mp (by kernel_rfl) hS
  ·intro Ep2 w l' hE2 hO2 hF_ hS
   obtain ⟨q1k, -⟩ := hF_
   replace q1k : Ep2 25 = .pointer (some ⟨b2, 0, none⟩) := Eq.mp (by kernel_rfl) q1k
   replace hS : St w0 w (cells b2 79 [.bool a0.fneg, .slice q0p a0.fmag.length c_a0_1] :: l') := Eq.mp (by kernel_rfl) hS
   refine pa (at_load one_4 q1k (hS.cell rfl)) <| x_done <| ?_
   refine x_fin ⟨⟨_, rfl⟩, rfl, ?_⟩
   exact Eq.mp (by kernel_rfl) hS
  ·intro Ep2 w l' hE2 hO2 hF_ hS
   refine p (yl_move (hE2 7 rfl)) <| x_done <| ?_
   refine x_fin ⟨⟨_, rfl⟩, rfl, ?_⟩
   exact Eq.mp (by kernel_rfl) hS
  ·intro Ep2 w l' hE2 hO2 hF_ hS
   obtain ⟨q1l, q1m, -⟩ := hF_
   replace q1l : Ep2 26 = .bool a0.fneg := Eq.mp (by kernel_rfl) q1l
   replace q1m : Ep2 27 = .slice q0x q0s.2.length c_y1_ret_1_4 := Eq.mp (by kernel_rfl) q1m
   replace hS : St w0 w (ro q0j :: l') := Eq.mp (by kernel_rfl) hS
   have hcall := c_exact_made q37 q11 hS
   refine o_cc call_93 (args2 q1l q1m) hcall ?_
   rintro e w' ⟨q1c, q2t, c_y0_ret_1_2_10, rfl, q0i, hS⟩
   refine ⟨_, rfl, ?_⟩
   have e_ := q0i.n; subst e_
   refine x_done <| ?_
   refine x_fin ⟨⟨_, rfl⟩, rfl, ?_⟩
   replace hS := St.bun (Φ := (fun (x : Unit) => RdS (RpI .u32) q0j q1c q3.fmag.length c_y0_ret_1_2_10 q3.fmag)) (L := (fun (x : Unit) => [])) () q0i hS
   exact Eq.mp (by kernel_rfl) (hS.pull 1)
  ·intro Ep2 w l' hE2 hO2 hF_ hS
   refine o_alloc zero_79 hS (fun b8 w' hS => ?_)
   refine x_done <| ?_
   refine x_fin ⟨⟨_, rfl⟩, rfl, ?_⟩
   exact Eq.mp (by kernel_rfl) hS
  ·intro Ep2 w l' hE2 hO2 hF_ hS
   refine o_alloc zero_79 hS (fun b9 w' hS => ?_)
   refine x_done <| ?_
   refine x_fin ⟨⟨_, rfl⟩, rfl, ?_⟩
   exact Eq.mp (by kernel_rfl) hS
  ·intro Ep2 w l' hE2 hO2 hF_ hS
   obtain ⟨q1n, q0v, -⟩ := hF_
   replace q1n : Ep2 24 = .agg #[.bool q2.fneg, .slice (adOf (partOf 1 (Ep2 24))) q2.fmag.length (capOf (partOf 1 (Ep2 24)))] := Eq.mp (by kernel_rfl) q1n
   replace q0v : Ep2 8 = .pointer (some ⟨(blkOf (Ep2 8)), 0, none⟩) := Eq.mp (by kernel_rfl) q0v
   replace hS : St w0 w (cells (blkOf (Ep2 8)) 79 [.bool false, .slice none 0 0] :: l') := Eq.mp (by kernel_rfl) hS
   refine o_storeAgg (news := [.bool q2.fneg, .slice (adOf (partOf 1 (Ep2 24))) q2.fmag.length (capOf (partOf 1 (Ep2 24)))]) agg_79 q0v q1n rfl (by simp [over_length]) hS (fun w' hS => ?_)
   refine x_done <| ?_
   refine x_fin ⟨⟨undef, rfl⟩, trivial, ?_⟩
   exact Eq.mp (by kernel_rfl) hS
  ·intro Ep2 w l' hE2 hO2 hF_ hS
   obtain ⟨q13, q0t, -⟩ := hF_
   replace q13 : Ep2 28 = .agg #[.bool q3.fneg, .slice (adOf (partOf 1 (Ep2 28))) q3.fmag.length (capOf (partOf 1 (Ep2 28)))] := Eq.mp (by kernel_rfl) q13
   replace q0t : Ep2 9 = .pointer (some ⟨(blkOf (Ep2 9)), 0, none⟩) := Eq.mp (by kernel_rfl) q0t
   replace hS : St w0 w (cells (blkOf (Ep2 9)) 79 [.bool false, .slice none 0 0] :: l') := Eq.mp (by kernel_rfl) hS
   refine o_storeAgg (news := [.bool q3.fneg, .slice (adOf (partOf 1 (Ep2 28))) q3.fmag.length (capOf (partOf 1 (Ep2 28)))]) agg_79 q0t q13 rfl (by simp [over_length]) hS (fun w' hS => ?_)
   refine x_done <| ?_
   refine x_fin ⟨⟨undef, rfl⟩, trivial, ?_⟩
   exact Eq.mp (by kernel_rfl) hS
 intro Ep2 w' hE2 hF_ hS
 obtain ⟨q1d, q1f, q1e, q1g, q1h, q1i, q1n, q1k, q1l, q1m, q13, q0v, q0t, -⟩ := hF_
 replace q1d : Ep2 18 = .pointer (some ⟨b2, 0, none⟩) := Eq.mp (by kernel_rfl) q1d
 replace q1f : Ep2 19 = .bool a0.fneg := Eq.mp (by kernel_rfl) q1f
 replace q1e : Ep2 20 = .pointer (some ⟨b3, 0, none⟩) := Eq.mp (by kernel_rfl) q1e
 replace q1g : Ep2 21 = .bool b1.fneg := Eq.mp (by kernel_rfl) q1g
 replace q1h : Ep2 22 = .bool (!(a0.fneg == b1.fneg)) := Eq.mp (by kernel_rfl) q1h
 replace q1i : Ep2 23 = .slice q8 q0s.1.length c_y0_ret_1_4 := Eq.mp (by kernel_rfl) q1i
 replace q1n : Ep2 24 = .agg #[.bool q2.fneg, .slice (adOf (partOf 1 (Ep2 24))) q2.fmag.length (capOf (partOf 1 (Ep2 24)))] := Eq.mp (by kernel_rfl) q1n
 replace q1k : Ep2 25 = .pointer (some ⟨b2, 0, none⟩) := Eq.mp (by kernel_rfl) q1k
 replace q1l : Ep2 26 = .bool a0.fneg := Eq.mp (by kernel_rfl) q1l
 replace q1m : Ep2 27 = .slice q0x q0s.2.length c_y1_ret_1_4 := Eq.mp (by kernel_rfl) q1m
 replace q13 : Ep2 28 = .agg #[.bool q3.fneg, .slice (adOf (partOf 1 (Ep2 28))) q3.fmag.length (capOf (partOf 1 (Ep2 28)))] := Eq.mp (by kernel_rfl) q13
 replace q0v : Ep2 8 = .pointer (some ⟨(blkOf (Ep2 8)), 0, none⟩) := Eq.mp (by kernel_rfl) q0v
 replace q0t : Ep2 9 = .pointer (some ⟨(blkOf (Ep2 9)), 0, none⟩) := Eq.mp (by kernel_rfl) q0t
 replace hS : St w0 w' (cells b2 79 [.bool a0.fneg, .slice q0p a0.fmag.length c_a0_1] :: cells b3 79 [.bool b1.fneg, .slice q0d b1.fmag.length c_b1_1] :: ro q0j :: bunA (fun (q0c : Heap) => Le q0j q0c ∧ RdS (RpI .u32) q0c q8 q0s.1.length c_y0_ret_1_4 q0s.1 ∧ RdS (RpI .u32) q0c (adOf (partOf 1 (Ep2 24))) q2.fmag.length (capOf (partOf 1 (Ep2 24))) q2.fmag) (fun (q0c : Heap) => [roD q0j q0c]) :: bunA (fun (x : Unit) => RdS (RpI .u32) q0j (adOf (partOf 1 (Ep2 28))) q3.fmag.length (capOf (partOf 1 (Ep2 28))) q3.fmag) (fun (x : Unit) => []) :: cells (blkOf (Ep2 8)) 79 [.bool q2.fneg, .slice (adOf (partOf 1 (Ep2 24))) q2.fmag.length (capOf (partOf 1 (Ep2 24)))] :: cells (blkOf (Ep2 9)) 79 [.bool q3.fneg, .slice (adOf (partOf 1 (Ep2 28))) q3.fmag.length (capOf (partOf 1 (Ep2 28)))] :: (cells b5 79 [.bool false, .slice none 0 0] :: cells b4 79 [.bool false, .slice none 0 0] :: l)) := Eq.mp (by kernel_rfl) hS
 have q_ := St.unbun (hS.pull 3); obtain ⟨q0c, ⟨q2p, q2g, q0e⟩, hS⟩ := q_
 have q_ := St.ro_join (hS.pull 3) (Le.refl _) q2p; obtain ⟨q0h, q0w, q1o, hS, q3k⟩ := q_
 have q_ := St.unbun (hS.pull 3); obtain ⟨⟨⟩, q0i, hS⟩ := q_
 refine x_seq <| x_seq <| x_region <| p (yl_field0 fld_79_0 q0t) <|
  pa (at_load one_4 rfl ((hS.pull 4).cell rfl)) <| x_done <|
  x_cond (t := q3.fneg) rfl (fun hc30 => ?_) (fun hc30 => ?_)
 ·replace hF := it_t hc30 hF
  refine x_seq <| ?_
  replace hF := bd_s hF; obtain ⟨q0u, q3c, hF⟩ := hF
  replace hF := bd_s hF; obtain ⟨q4, q3d, hF⟩ := hF
  refine x_par (w0 := w0) [⟨[], [], [31], [0], [], []⟩, ⟨[], [], [32], [1], [], []⟩, ⟨[1], [1], [33], [2], [], []⟩, ⟨[0, 1, 2], [0, 2], [34], [2], [], [3]⟩, ⟨[0, 1, 2, 3], [3], [], [], [0], [4]⟩] [⟨none, (some 4), []⟩, ⟨none, none, []⟩, ⟨none, none, []⟩, ⟨(some 3), none, [34]⟩, ⟨(some 4), none, [34]⟩] [31, 32, 33, 34] [0, 1, 2] [1, 2, 3, 4] [0, 1, 2, 3] [fun Ep4 => Ep4 31 = .agg #[.bool q3.fneg, .slice (adOf (partOf 1 (Ep2 28))) q3.fmag.length (capOf (partOf 1 (Ep2 28)))], fun Ep4 => Ep4 32 = .agg #[.bool b1.fneg, .slice q0d b1.fmag.length c_b1_1], fun Ep4 => Ep4 33 = .agg #[.bool q0u.fneg, .slice (adOf (partOf 1 (Ep4 33))) q0u.fmag.length (capOf (partOf 1 (Ep4 33)))] ∧ RdS (RpI .u32) q0h (adOf (partOf 1 (Ep4 33))) q0u.fmag.length (capOf (partOf 1 (Ep4 33))) q0u.fmag, fun Ep4 => Ep4 34 = .agg #[.bool q4.fneg, .slice (adOf (partOf 1 (Ep4 34))) q4.fmag.length (capOf (partOf 1 (Ep4 34)))], fun Ep4 => True] [fun Ep4 => cells (blkOf (Ep2 9)) 79 [.bool q3.fneg, .slice (adOf (partOf 1 (Ep2 28))) q3.fmag.length (capOf (partOf 1 (Ep2 28)))], fun Ep4 => cells b3 79 [.bool b1.fneg, .slice q0d b1.fmag.length c_b1_1], fun Ep4 => ro q0h, fun Ep4 => bunA (fun (q9 : Heap) => Le q0h q9 ∧ RdS (RpI .u32) q9 (adOf (partOf 1 (Ep4 34))) q4.fmag.length (capOf (partOf 1 (Ep4 34))) q4.fmag) (fun (q9 : Heap) => [roD q0h q9]), fun Ep4 => cells (blkOf (Ep2 9)) 79 [.bool q4.fneg, .slice (adOf (partOf 1 (Ep4 34))) q4.fmag.length (capOf (partOf 1 (Ep4 34)))]] mixed (by kernel_rfl) ((hS.pull 2).pull 4) ?_ ?_
  ·refine ⟨?_, ?_, ?_, ?_, ?_, trivial⟩
   ·intro Ep4 w l' hE4 hO4 hF_ hS
    replace hS : St w0 w (cells (blkOf (Ep2 9)) 79 [.bool q3.fneg, .slice (adOf (partOf 1 (Ep2 28))) q3.fmag.length (capOf (partOf 1 (Ep2 28)))] :: l') := Eq.mp (by kernel_rfl) hS
    refine pa (v := .agg #[.bool q3.fneg, .slice (adOf (partOf 1 (Ep2 28))) q3.fmag.length (capOf (partOf 1 (Ep2 28)))]) (ld_sub agg_79 ((hE4 9 rfl).trans q0t) rfl rfl hS) <| x_done <| ?_
    refine x_fin ⟨⟨_, rfl⟩, rfl, ?_⟩
    exact Eq.mp (by kernel_rfl) hS
   ·intro Ep4 w l' hE4 hO4 hF_ hS
    replace hS : St w0 w (cells b3 79 [.bool b1.fneg, .slice q0d b1.fmag.length c_b1_1] :: l') := Eq.mp (by kernel_rfl) hS
    refine pa (v := .agg #[.bool b1.fneg, .slice q0d b1.fmag.length c_b1_1]) (ld_sub agg_79 ((hE4 3 rfl).trans (hE2 3 rfl)) rfl rfl hS) <| x_done <| ?_
    refine x_fin ⟨⟨_, rfl⟩, rfl, ?_⟩
    exact Eq.mp (by kernel_rfl) hS
   ·intro Ep4 w l' hE4 hO4 hF_ hS
    obtain ⟨q1p, -⟩ := hF_
    replace q1p : Ep4 32 = .agg #[.bool b1.fneg, .slice q0d b1.fmag.length c_b1_1] := Eq.mp (by kernel_rfl) q1p
    replace hS : St w0 w (ro q0h :: l') := Eq.mp (by kernel_rfl) hS
    have hcall := c_exact_Abs q3c (q27.le (q1b.trans q0w)) hS
    refine o_cc call_56 (args1 q1p) hcall ?_
    rintro e w' ⟨q2w, q2x, c_y0_ret_1_4_2, rfl, q0y, hS⟩
    refine ⟨_, rfl, ?_⟩
    have e_ := q0y.n; subst e_
    refine x_done <| ?_
    refine x_fin ⟨⟨_, rfl⟩, ⟨rfl, q0y⟩, ?_⟩
    exact Eq.mp (by kernel_rfl) hS
   ·intro Ep4 w l' hE4 hO4 hF_ hS
    obtain ⟨q1q, q12, -⟩ := hF_
    replace q1q : Ep4 31 = .agg #[.bool q3.fneg, .slice (adOf (partOf 1 (Ep2 28))) q3.fmag.length (capOf (partOf 1 (Ep2 28)))] := Eq.mp (by kernel_rfl) q1q
    replace q12 : Ep4 33 = .agg #[.bool q0u.fneg, .slice (adOf (partOf 1 (Ep4 33))) q0u.fmag.length (capOf (partOf 1 (Ep4 33)))] ∧ RdS (RpI .u32) q0h (adOf (partOf 1 (Ep4 33))) q0u.fmag.length (capOf (partOf 1 (Ep4 33))) q0u.fmag := Eq.mp (by kernel_rfl) q12
    have q_ := id q12; obtain ⟨-, q2u⟩ := q_
    replace hS : St w0 w (ro q0h :: l') := Eq.mp (by kernel_rfl) hS
    have hcall := c_exact_plus q3d (q0i.le q0w) q2u hS
    refine o_cc call_96 (args2 q1q q12.1) hcall ?_
    rintro e w' ⟨q9, q1r, q2y, c_y0_ret_1_4_3, rfl, q2q, q0k, hS⟩
    refine ⟨_, rfl, ?_⟩
    have e_ := q0k.n; subst e_
    refine x_done <| ?_
    refine x_fin ⟨⟨_, rfl⟩, rfl, ?_⟩
    replace hS := St.ro_split q2q hS
    replace hS := St.bun (Φ := (fun (q9 : Heap) => Le q0h q9 ∧ RdS (RpI .u32) q9 q1r q4.fmag.length c_y0_ret_1_4_3 q4.fmag)) (L := (fun (q9 : Heap) => [roD q0h q9])) q9 ⟨q2q, q0k⟩ (hS.pull 1)
    exact Eq.mp (by kernel_rfl) (hS.pull 1)
   ·intro Ep4 w l' hE4 hO4 hF_ hS
    obtain ⟨q1s, -⟩ := hF_
    replace q1s : Ep4 34 = .agg #[.bool q4.fneg, .slice (adOf (partOf 1 (Ep4 34))) q4.fmag.length (capOf (partOf 1 (Ep4 34)))] := Eq.mp (by kernel_rfl) q1s
    replace hS : St w0 w (cells (blkOf (Ep2 9)) 79 [.bool q3.fneg, .slice (adOf (partOf 1 (Ep2 28))) q3.fmag.length (capOf (partOf 1 (Ep2 28)))] :: l') := Eq.mp (by kernel_rfl) hS
    refine o_storeAgg (news := [.bool q4.fneg, .slice (adOf (partOf 1 (Ep4 34))) q4.fmag.length (capOf (partOf 1 (Ep4 34)))]) agg_79 ((hE4 9 rfl).trans q0t) q1s rfl (by simp [over_length]) hS (fun w' hS => ?_)
    refine x_done <| ?_
    refine x_fin ⟨⟨undef, rfl⟩, trivial, ?_⟩
    exact Eq.mp (by kernel_rfl) hS
  intro Ep4 w' hE4 hF_ hS
  obtain ⟨q1q, q1p, q12, q1s, -⟩ := hF_
  replace q1q : Ep4 31 = .agg #[.bool q3.fneg, .slice (adOf (partOf 1 (Ep2 28))) q3.fmag.length (capOf (partOf 1 (Ep2 28)))] := Eq.mp (by kernel_rfl) q1q
  replace q1p : Ep4 32 = .agg #[.bool b1.fneg, .slice q0d b1.fmag.length c_b1_1] := Eq.mp (by kernel_rfl) q1p
  replace q12 : Ep4 33 = .agg #[.bool q0u.fneg, .slice (adOf (partOf 1 (Ep4 33))) q0u.fmag.length (capOf (partOf 1 (Ep4 33)))] ∧ RdS (RpI .u32) q0h (adOf (partOf 1 (Ep4 33))) q0u.fmag.length (capOf (partOf 1 (Ep4 33))) q0u.fmag := Eq.mp (by kernel_rfl) q12
  have q_ := id q12; obtain ⟨-, q2u⟩ := q_
  replace q1s : Ep4 34 = .agg #[.bool q4.fneg, .slice (adOf (partOf 1 (Ep4 34))) q4.fmag.length (capOf (partOf 1 (Ep4 34)))] := Eq.mp (by kernel_rfl) q1s
  replace hS : St w0 w' (cells b3 79 [.bool b1.fneg, .slice q0d b1.fmag.length c_b1_1] :: ro q0h :: bunA (fun (q9 : Heap) => Le q0h q9 ∧ RdS (RpI .u32) q9 (adOf (partOf 1 (Ep4 34))) q4.fmag.length (capOf (partOf 1 (Ep4 34))) q4.fmag) (fun (q9 : Heap) => [roD q0h q9]) :: cells (blkOf (Ep2 9)) 79 [.bool q4.fneg, .slice (adOf (partOf 1 (Ep4 34))) q4.fmag.length (capOf (partOf 1 (Ep4 34)))] :: (cells b2 79 [.bool a0.fneg, .slice q0p a0.fmag.length c_a0_1] :: cells (blkOf (Ep2 8)) 79 [.bool q2.fneg, .slice (adOf (partOf 1 (Ep2 24))) q2.fmag.length (capOf (partOf 1 (Ep2 24)))] :: cells b5 79 [.bool false, .slice none 0 0] :: cells b4 79 [.bool false, .slice none 0 0] :: l)) := Eq.mp (by kernel_rfl) hS
  have q_ := St.unbun (hS.pull 2); obtain ⟨q9, ⟨q2h, q0k⟩, hS⟩ := q_
  have q_ := St.ro_join (hS.pull 2) (Le.refl _) q2h; obtain ⟨q5, q14, q2d, hS, q3l⟩ := q_
  refine x_seq <| x_seq <| x_region <| p (yl_field0 fld_79_0 ((hE4 3 rfl).trans (hE2 3 rfl))) <|
   pa (at_load one_4 rfl ((hS.pull 1).cell rfl)) <| x_done <|
   x_cond (t := b1.fneg) rfl (fun hc36 => ?_) (fun hc36 => ?_)
  ·replace hF := it_t hc36 hF
   refine x_seq <| ?_
   replace hF := bd_s hF; obtain ⟨q0n, q3e, hF⟩ := hF
   replace hF := bd_s hF; obtain ⟨q0l, q3f, hF⟩ := hF
   refine x_par (w0 := w0) [⟨[], [], [37], [0], [], []⟩, ⟨[], [], [38], [1], [], [2]⟩, ⟨[0, 1], [0, 1], [39], [1], [2], [3]⟩, ⟨[], [], [40], [4], [], []⟩, ⟨[0, 1, 2], [2], [], [], [5], [6]⟩, ⟨[0, 1, 2, 3, 4], [3], [], [], [7], [8]⟩] [⟨none, none, []⟩, ⟨none, none, []⟩, ⟨(some 1), (some 2), [38]⟩, ⟨(some 2), none, [38, 39]⟩, ⟨none, none, []⟩, ⟨none, (some 4), []⟩, ⟨(some 4), none, [39]⟩, ⟨none, (some 5), []⟩, ⟨(some 5), none, []⟩] [37, 38, 39, 40] [0, 1, 4, 5, 7] [0, 1, 3, 4, 6, 8] [0, 1, 2, 3] [fun Ep6 => Ep6 37 = .agg #[.bool q2.fneg, .slice (adOf (partOf 1 (Ep2 24))) q2.fmag.length (capOf (partOf 1 (Ep2 24)))], fun Ep6 => Ep6 38 = .agg #[.bool q0n.fneg, .slice (adOf (partOf 1 (Ep6 38))) q0n.fmag.length (capOf (partOf 1 (Ep6 38)))], fun Ep6 => Ep6 39 = .agg #[.bool q0l.fneg, .slice (adOf (partOf 1 (Ep6 39))) q0l.fmag.length (capOf (partOf 1 (Ep6 39)))], fun Ep6 => Ep6 40 = .agg #[.bool q4.fneg, .slice (adOf (partOf 1 (Ep4 34))) q4.fmag.length (capOf (partOf 1 (Ep4 34)))], fun Ep6 => True, fun Ep6 => True] [fun Ep6 => cells (blkOf (Ep2 8)) 79 [.bool q2.fneg, .slice (adOf (partOf 1 (Ep2 24))) q2.fmag.length (capOf (partOf 1 (Ep2 24)))], fun Ep6 => ro q5, fun Ep6 => bunA (fun (q0a : Heap) => Le q5 q0a ∧ RdS (RpI .u32) q0a (adOf (partOf 1 (Ep6 38))) q0n.fmag.length (capOf (partOf 1 (Ep6 38))) q0n.fmag) (fun (q0a : Heap) => [roD q5 q0a]), fun Ep6 => bunA (fun (q6 : Heap) => Le q5 q6 ∧ RdS (RpI .u32) q6 (adOf (partOf 1 (Ep6 38))) q0n.fmag.length (capOf (partOf 1 (Ep6 38))) q0n.fmag ∧ RdS (RpI .u32) q6 (adOf (partOf 1 (Ep6 39))) q0l.fmag.length (capOf (partOf 1 (Ep6 39))) q0l.fmag) (fun (q6 : Heap) => [roD q5 q6]), fun Ep6 => cells (blkOf (Ep2 9)) 79 [.bool q4.fneg, .slice (adOf (partOf 1 (Ep4 34))) q4.fmag.length (capOf (partOf 1 (Ep4 34)))], fun Ep6 => cells b4 79 [.bool false, .slice none 0 0], fun Ep6 => cells b4 79 [.bool q0l.fneg, .slice (adOf (partOf 1 (Ep6 39))) q0l.fmag.length (capOf (partOf 1 (Ep6 39)))], fun Ep6 => cells b5 79 [.bool false, .slice none 0 0], fun Ep6 => cells b5 79 [.bool q4.fneg, .slice (adOf (partOf 1 (Ep4 34))) q4.fmag.length (capOf (partOf 1 (Ep4 34)))]] mixed (by kernel_rfl) (((((hS.pull 5).pull 6).pull 4).pull 3).pull 6) ?_ ?_
   ·refine ⟨?_, ?_, ?_, ?_, ?_, ?_, trivial⟩
    ·intro Ep6 w l' hE6 hO6 hF_ hS
     replace hS : St w0 w (cells (blkOf (Ep2 8)) 79 [.bool q2.fneg, .slice (adOf (partOf 1 (Ep2 24))) q2.fmag.length (capOf (partOf 1 (Ep2 24)))] :: l') := Eq.mp (by kernel_rfl) hS
     refine pa (v := .agg #[.bool q2.fneg, .slice (adOf (partOf 1 (Ep2 24))) q2.fmag.length (capOf (partOf 1 (Ep2 24)))]) (ld_sub agg_79 ((hE6 8 rfl).trans ((hE4 8 rfl).trans q0v)) rfl rfl hS) <| x_done <| ?_
     refine x_fin ⟨⟨_, rfl⟩, rfl, ?_⟩
     exact Eq.mp (by kernel_rfl) hS
    ·intro Ep6 w l' hE6 hO6 hF_ hS
     replace hS : St w0 w (ro q5 :: l') := Eq.mp (by kernel_rfl) hS
     have hcall := c_exact_Of q3e  hS
     refine o_cc call_51 (args1 rfl) hcall ?_
     rintro e w' ⟨q0a, q1t, q2z, c_y0_ret_1_6_1, rfl, q2r, q0f, hS⟩
     refine ⟨_, rfl, ?_⟩
     have e_ := q0f.n; subst e_
     refine x_done <| ?_
     refine x_fin ⟨⟨_, rfl⟩, rfl, ?_⟩
     replace hS := St.ro_split q2r hS
     replace hS := St.bun (Φ := (fun (q0a : Heap) => Le q5 q0a ∧ RdS (RpI .u32) q0a q1t q0n.fmag.length c_y0_ret_1_6_1 q0n.fmag)) (L := (fun (q0a : Heap) => [roD q5 q0a])) q0a ⟨q2r, q0f⟩ (hS.pull 1)
     exact Eq.mp (by kernel_rfl) (hS.pull 1)
    ·intro Ep6 w l' hE6 hO6 hF_ hS
     obtain ⟨q1u, q1v, -⟩ := hF_
     replace q1u : Ep6 37 = .agg #[.bool q2.fneg, .slice (adOf (partOf 1 (Ep2 24))) q2.fmag.length (capOf (partOf 1 (Ep2 24)))] := Eq.mp (by kernel_rfl) q1u
     replace q1v : Ep6 38 = .agg #[.bool q0n.fneg, .slice (adOf (partOf 1 (Ep6 38))) q0n.fmag.length (capOf (partOf 1 (Ep6 38)))] := Eq.mp (by kernel_rfl) q1v
     replace hS : St w0 w (ro q5 :: bunA (fun (q0a : Heap) => Le q5 q0a ∧ RdS (RpI .u32) q0a (adOf (partOf 1 (Ep6 38))) q0n.fmag.length (capOf (partOf 1 (Ep6 38))) q0n.fmag) (fun (q0a : Heap) => [roD q5 q0a]) :: l') := Eq.mp (by kernel_rfl) hS
     have q_ := St.unbun (hS.pull 1); obtain ⟨q0a, ⟨q2i, q0f⟩, hS⟩ := q_
     have q_ := St.ro_join (hS.pull 1) (Le.refl _) q2i; obtain ⟨q3o, q15, q28, hS, q3i⟩ := q_
     have hcall := c_exact_plus q3f (q0e.le ((q1o.trans q14).trans q15)) (q0f.le q28) hS
     refine o_cc call_96 (args2 q1u q1v) hcall ?_
     rintro e w' ⟨q6, q1w, q30, c_y0_ret_1_6_2, rfl, q29, q0q, hS⟩
     refine ⟨_, rfl, ?_⟩
     have e_ := q0q.n; subst e_
     refine x_done <| ?_
     refine x_fin ⟨⟨_, rfl⟩, rfl, ?_⟩
     replace hS := St.ro_split (q15.trans q29) hS
     replace hS := St.bun (Φ := (fun (q6 : Heap) => Le q5 q6 ∧ RdS (RpI .u32) q6 (adOf (partOf 1 (Ep6 38))) q0n.fmag.length (capOf (partOf 1 (Ep6 38))) q0n.fmag ∧ RdS (RpI .u32) q6 q1w q0l.fmag.length c_y0_ret_1_6_2 q0l.fmag)) (L := (fun (q6 : Heap) => [roD q5 q6])) q6 ⟨(q15.trans q29), (q0f.le (q28.trans q29)), q0q⟩ (hS.pull 1)
     exact Eq.mp (by kernel_rfl) (hS.pull 1)
    ·intro Ep6 w l' hE6 hO6 hF_ hS
     replace hS : St w0 w (cells (blkOf (Ep2 9)) 79 [.bool q4.fneg, .slice (adOf (partOf 1 (Ep4 34))) q4.fmag.length (capOf (partOf 1 (Ep4 34)))] :: l') := Eq.mp (by kernel_rfl) hS
     refine pa (v := .agg #[.bool q4.fneg, .slice (adOf (partOf 1 (Ep4 34))) q4.fmag.length (capOf (partOf 1 (Ep4 34)))]) (ld_sub agg_79 ((hE6 9 rfl).trans ((hE4 9 rfl).trans q0t)) rfl rfl hS) <| x_done <| ?_
     refine x_fin ⟨⟨_, rfl⟩, rfl, ?_⟩
     exact Eq.mp (by kernel_rfl) hS
    ·intro Ep6 w l' hE6 hO6 hF_ hS
     obtain ⟨q1x, -⟩ := hF_
     replace q1x : Ep6 39 = .agg #[.bool q0l.fneg, .slice (adOf (partOf 1 (Ep6 39))) q0l.fmag.length (capOf (partOf 1 (Ep6 39)))] := Eq.mp (by kernel_rfl) q1x
     replace hS : St w0 w (cells b4 79 [.bool false, .slice none 0 0] :: l') := Eq.mp (by kernel_rfl) hS
     refine o_storeAgg (news := [.bool q0l.fneg, .slice (adOf (partOf 1 (Ep6 39))) q0l.fmag.length (capOf (partOf 1 (Ep6 39)))]) agg_79 ((hE6 4 rfl).trans ((hE4 4 rfl).trans (hE2 4 rfl))) q1x rfl (by simp [over_length]) hS (fun w' hS => ?_)
     refine x_done <| ?_
     refine x_fin ⟨⟨undef, rfl⟩, trivial, ?_⟩
     exact Eq.mp (by kernel_rfl) hS
    ·intro Ep6 w l' hE6 hO6 hF_ hS
     obtain ⟨q1y, -⟩ := hF_
     replace q1y : Ep6 40 = .agg #[.bool q4.fneg, .slice (adOf (partOf 1 (Ep4 34))) q4.fmag.length (capOf (partOf 1 (Ep4 34)))] := Eq.mp (by kernel_rfl) q1y
     replace hS : St w0 w (cells b5 79 [.bool false, .slice none 0 0] :: l') := Eq.mp (by kernel_rfl) hS
     refine o_storeAgg (news := [.bool q4.fneg, .slice (adOf (partOf 1 (Ep4 34))) q4.fmag.length (capOf (partOf 1 (Ep4 34)))]) agg_79 ((hE6 5 rfl).trans ((hE4 5 rfl).trans (hE2 5 rfl))) q1y rfl (by simp [over_length]) hS (fun w' hS => ?_)
     refine x_done <| ?_
     refine x_fin ⟨⟨undef, rfl⟩, trivial, ?_⟩
     exact Eq.mp (by kernel_rfl) hS
   intro Ep6 w' hE6 hF_ hS
   obtain ⟨q1u, q1v, q1x, q1y, -⟩ := hF_
   replace q1u : Ep6 37 = .agg #[.bool q2.fneg, .slice (adOf (partOf 1 (Ep2 24))) q2.fmag.length (capOf (partOf 1 (Ep2 24)))] := Eq.mp (by kernel_rfl) q1u
   replace q1v : Ep6 38 = .agg #[.bool q0n.fneg, .slice (adOf (partOf 1 (Ep6 38))) q0n.fmag.length (capOf (partOf 1 (Ep6 38)))] := Eq.mp (by kernel_rfl) q1v
   replace q1x : Ep6 39 = .agg #[.bool q0l.fneg, .slice (adOf (partOf 1 (Ep6 39))) q0l.fmag.length (capOf (partOf 1 (Ep6 39)))] := Eq.mp (by kernel_rfl) q1x
   replace q1y : Ep6 40 = .agg #[.bool q4.fneg, .slice (adOf (partOf 1 (Ep4 34))) q4.fmag.length (capOf (partOf 1 (Ep4 34)))] := Eq.mp (by kernel_rfl) q1y
   replace hS : St w0 w' (cells (blkOf (Ep2 8)) 79 [.bool q2.fneg, .slice (adOf (partOf 1 (Ep2 24))) q2.fmag.length (capOf (partOf 1 (Ep2 24)))] :: ro q5 :: bunA (fun (q6 : Heap) => Le q5 q6 ∧ RdS (RpI .u32) q6 (adOf (partOf 1 (Ep6 38))) q0n.fmag.length (capOf (partOf 1 (Ep6 38))) q0n.fmag ∧ RdS (RpI .u32) q6 (adOf (partOf 1 (Ep6 39))) q0l.fmag.length (capOf (partOf 1 (Ep6 39))) q0l.fmag) (fun (q6 : Heap) => [roD q5 q6]) :: cells (blkOf (Ep2 9)) 79 [.bool q4.fneg, .slice (adOf (partOf 1 (Ep4 34))) q4.fmag.length (capOf (partOf 1 (Ep4 34)))] :: cells b4 79 [.bool q0l.fneg, .slice (adOf (partOf 1 (Ep6 39))) q0l.fmag.length (capOf (partOf 1 (Ep6 39)))] :: cells b5 79 [.bool q4.fneg, .slice (adOf (partOf 1 (Ep4 34))) q4.fmag.length (capOf (partOf 1 (Ep4 34)))] :: (cells b3 79 [.bool b1.fneg, .slice q0d b1.fmag.length c_b1_1] :: cells b2 79 [.bool a0.fneg, .slice q0p a0.fmag.length c_a0_1] :: l)) := Eq.mp (by kernel_rfl) hS
   have q_ := St.unbun (hS.pull 2); obtain ⟨q6, ⟨q2j, q0f, q0q⟩, hS⟩ := q_
   have q_ := St.ro_join (hS.pull 2) (Le.refl _) q2j; obtain ⟨q38, q2e, q31, hS, q3m⟩ := q_
   have e_ := Option.some.inj (show some _ = some _ from hF); subst e_
   exact x_return ⟨_, ⟨_, _, _, rfl, ((hE6 4 rfl).trans ((hE4 4 rfl).trans (hE2 4 rfl))), ldvA agg_79 rfl (fun j v hj => by rw [add0]; exact St.cell (hS.pull 3) hj), _, _, _, rfl, ((hE6 5 rfl).trans ((hE4 5 rfl).trans (hE2 5 rfl))), ldvA agg_79 rfl (fun j v hj => by rw [add0]; exact St.cell (hS.pull 4) hj), rfl⟩, q38, (adOf (partOf 1 (Ep6 39))), q0l.fmag.length, (capOf (partOf 1 (Ep6 39))), (adOf (partOf 1 (Ep4 34))), q4.fmag.length, (capOf (partOf 1 (Ep4 34))), rfl, (((q1b.trans q0w).trans q14).trans q2e), (q0q.le q31), (q0k.le (q2d.trans q2e)), (((((((hS.pull 1).drop.pull 1).drop.pull 1).drop.pull 1).drop.pull 1).drop.pull 1).drop)⟩
  ·replace hF := it_bf hc36 hF
   refine x_skip <| x_seq <| ?_
   replace hF := bd_s hF; obtain ⟨q0o, q3g, hF⟩ := hF
   replace hF := bd_s hF; obtain ⟨q0m, q3h, hF⟩ := hF
   refine x_par (w0 := w0) [⟨[], [], [41], [0], [], []⟩, ⟨[], [], [42], [1], [], [2]⟩, ⟨[0, 1], [0, 1], [43], [1], [2], [3]⟩, ⟨[], [], [44], [4], [], []⟩, ⟨[0, 1, 2], [2], [], [], [5], [6]⟩, ⟨[0, 1, 2, 3, 4], [3], [], [], [7], [8]⟩] [⟨none, none, []⟩, ⟨none, none, []⟩, ⟨(some 1), (some 2), [42]⟩, ⟨(some 2), none, [42, 43]⟩, ⟨none, none, []⟩, ⟨none, (some 4), []⟩, ⟨(some 4), none, [43]⟩, ⟨none, (some 5), []⟩, ⟨(some 5), none, []⟩] [41, 42, 43, 44] [0, 1, 4, 5, 7] [0, 1, 3, 4, 6, 8] [0, 1, 2, 3] [fun Ep7 => Ep7 41 = .agg #[.bool q2.fneg, .slice (adOf (partOf 1 (Ep2 24))) q2.fmag.length (capOf (partOf 1 (Ep2 24)))], fun Ep7 => Ep7 42 = .agg #[.bool q0o.fneg, .slice (adOf (partOf 1 (Ep7 42))) q0o.fmag.length (capOf (partOf 1 (Ep7 42)))], fun Ep7 => Ep7 43 = .agg #[.bool q0m.fneg, .slice (adOf (partOf 1 (Ep7 43))) q0m.fmag.length (capOf (partOf 1 (Ep7 43)))], fun Ep7 => Ep7 44 = .agg #[.bool q4.fneg, .slice (adOf (partOf 1 (Ep4 34))) q4.fmag.length (capOf (partOf 1 (Ep4 34)))], fun Ep7 => True, fun Ep7 => True] [fun Ep7 => cells (blkOf (Ep2 8)) 79 [.bool q2.fneg, .slice (adOf (partOf 1 (Ep2 24))) q2.fmag.length (capOf (partOf 1 (Ep2 24)))], fun Ep7 => ro q5, fun Ep7 => bunA (fun (q0b : Heap) => Le q5 q0b ∧ RdS (RpI .u32) q0b (adOf (partOf 1 (Ep7 42))) q0o.fmag.length (capOf (partOf 1 (Ep7 42))) q0o.fmag) (fun (q0b : Heap) => [roD q5 q0b]), fun Ep7 => bunA (fun (q7 : Heap) => Le q5 q7 ∧ RdS (RpI .u32) q7 (adOf (partOf 1 (Ep7 42))) q0o.fmag.length (capOf (partOf 1 (Ep7 42))) q0o.fmag ∧ RdS (RpI .u32) q7 (adOf (partOf 1 (Ep7 43))) q0m.fmag.length (capOf (partOf 1 (Ep7 43))) q0m.fmag) (fun (q7 : Heap) => [roD q5 q7]), fun Ep7 => cells (blkOf (Ep2 9)) 79 [.bool q4.fneg, .slice (adOf (partOf 1 (Ep4 34))) q4.fmag.length (capOf (partOf 1 (Ep4 34)))], fun Ep7 => cells b4 79 [.bool false, .slice none 0 0], fun Ep7 => cells b4 79 [.bool q0m.fneg, .slice (adOf (partOf 1 (Ep7 43))) q0m.fmag.length (capOf (partOf 1 (Ep7 43)))], fun Ep7 => cells b5 79 [.bool false, .slice none 0 0], fun Ep7 => cells b5 79 [.bool q4.fneg, .slice (adOf (partOf 1 (Ep4 34))) q4.fmag.length (capOf (partOf 1 (Ep4 34)))]] mixed (by kernel_rfl) (((((hS.pull 5).pull 6).pull 4).pull 3).pull 6) ?_ ?_
   ·refine ⟨?_, ?_, ?_, ?_, ?_, ?_, trivial⟩
    ·intro Ep7 w l' hE7 hO7 hF_ hS
     replace hS : St w0 w (cells (blkOf (Ep2 8)) 79 [.bool q2.fneg, .slice (adOf (partOf 1 (Ep2 24))) q2.fmag.length (capOf (partOf 1 (Ep2 24)))] :: l') := Eq.mp (by kernel_rfl) hS
     refine pa (v := .agg #[.bool q2.fneg, .slice (adOf (partOf 1 (Ep2 24))) q2.fmag.length (capOf (partOf 1 (Ep2 24)))]) (ld_sub agg_79 ((hE7 8 rfl).trans ((hE4 8 rfl).trans q0v)) rfl rfl hS) <| x_done <| ?_
     refine x_fin ⟨⟨_, rfl⟩, rfl, ?_⟩
     exact Eq.mp (by kernel_rfl) hS
    ·intro Ep7 w l' hE7 hO7 hF_ hS
     replace hS : St w0 w (ro q5 :: l') := Eq.mp (by kernel_rfl) hS
     have hcall := c_exact_Of q3g  hS
     refine o_cc call_51 (args1 rfl) hcall ?_
     rintro e w' ⟨q0b, q1z, q32, c_y0_ret_1_7_1, rfl, q2s, q0g, hS⟩
     refine ⟨_, rfl, ?_⟩
     have e_ := q0g.n; subst e_
     refine x_done <| ?_
     refine x_fin ⟨⟨_, rfl⟩, rfl, ?_⟩
     replace hS := St.ro_split q2s hS
     replace hS := St.bun (Φ := (fun (q0b : Heap) => Le q5 q0b ∧ RdS (RpI .u32) q0b q1z q0o.fmag.length c_y0_ret_1_7_1 q0o.fmag)) (L := (fun (q0b : Heap) => [roD q5 q0b])) q0b ⟨q2s, q0g⟩ (hS.pull 1)
     exact Eq.mp (by kernel_rfl) (hS.pull 1)
    ·intro Ep7 w l' hE7 hO7 hF_ hS
     obtain ⟨q20, q21, -⟩ := hF_
     replace q20 : Ep7 41 = .agg #[.bool q2.fneg, .slice (adOf (partOf 1 (Ep2 24))) q2.fmag.length (capOf (partOf 1 (Ep2 24)))] := Eq.mp (by kernel_rfl) q20
     replace q21 : Ep7 42 = .agg #[.bool q0o.fneg, .slice (adOf (partOf 1 (Ep7 42))) q0o.fmag.length (capOf (partOf 1 (Ep7 42)))] := Eq.mp (by kernel_rfl) q21
     replace hS : St w0 w (ro q5 :: bunA (fun (q0b : Heap) => Le q5 q0b ∧ RdS (RpI .u32) q0b (adOf (partOf 1 (Ep7 42))) q0o.fmag.length (capOf (partOf 1 (Ep7 42))) q0o.fmag) (fun (q0b : Heap) => [roD q5 q0b]) :: l') := Eq.mp (by kernel_rfl) hS
     have q_ := St.unbun (hS.pull 1); obtain ⟨q0b, ⟨q2k, q0g⟩, hS⟩ := q_
     have q_ := St.ro_join (hS.pull 1) (Le.refl _) q2k; obtain ⟨q3p, q16, q2a, hS, q3j⟩ := q_
     have hcall := c_exact_plus q3h (q0e.le ((q1o.trans q14).trans q16)) (q0g.le q2a) hS
     refine o_cc call_96 (args2 q20 q21) hcall ?_
     rintro e w' ⟨q7, q22, q33, c_y0_ret_1_7_2, rfl, q2b, q0r, hS⟩
     refine ⟨_, rfl, ?_⟩
     have e_ := q0r.n; subst e_
     refine x_done <| ?_
     refine x_fin ⟨⟨_, rfl⟩, rfl, ?_⟩
     replace hS := St.ro_split (q16.trans q2b) hS
     replace hS := St.bun (Φ := (fun (q7 : Heap) => Le q5 q7 ∧ RdS (RpI .u32) q7 (adOf (partOf 1 (Ep7 42))) q0o.fmag.length (capOf (partOf 1 (Ep7 42))) q0o.fmag ∧ RdS (RpI .u32) q7 q22 q0m.fmag.length c_y0_ret_1_7_2 q0m.fmag)) (L := (fun (q7 : Heap) => [roD q5 q7])) q7 ⟨(q16.trans q2b), (q0g.le (q2a.trans q2b)), q0r⟩ (hS.pull 1)
     exact Eq.mp (by kernel_rfl) (hS.pull 1)
    ·intro Ep7 w l' hE7 hO7 hF_ hS
     replace hS : St w0 w (cells (blkOf (Ep2 9)) 79 [.bool q4.fneg, .slice (adOf (partOf 1 (Ep4 34))) q4.fmag.length (capOf (partOf 1 (Ep4 34)))] :: l') := Eq.mp (by kernel_rfl) hS
     refine pa (v := .agg #[.bool q4.fneg, .slice (adOf (partOf 1 (Ep4 34))) q4.fmag.length (capOf (partOf 1 (Ep4 34)))]) (ld_sub agg_79 ((hE7 9 rfl).trans ((hE4 9 rfl).trans q0t)) rfl rfl hS) <| x_done <| ?_
     refine x_fin ⟨⟨_, rfl⟩, rfl, ?_⟩
     exact Eq.mp (by kernel_rfl) hS
    ·intro Ep7 w l' hE7 hO7 hF_ hS
     obtain ⟨q23, -⟩ := hF_
     replace q23 : Ep7 43 = .agg #[.bool q0m.fneg, .slice (adOf (partOf 1 (Ep7 43))) q0m.fmag.length (capOf (partOf 1 (Ep7 43)))] := Eq.mp (by kernel_rfl) q23
     replace hS : St w0 w (cells b4 79 [.bool false, .slice none 0 0] :: l') := Eq.mp (by kernel_rfl) hS
     refine o_storeAgg (news := [.bool q0m.fneg, .slice (adOf (partOf 1 (Ep7 43))) q0m.fmag.length (capOf (partOf 1 (Ep7 43)))]) agg_79 ((hE7 4 rfl).trans ((hE4 4 rfl).trans (hE2 4 rfl))) q23 rfl (by simp [over_length]) hS (fun w' hS => ?_)
     refine x_done <| ?_
     refine x_fin ⟨⟨undef, rfl⟩, trivial, ?_⟩
     exact Eq.mp (by kernel_rfl) hS
    ·intro Ep7 w l' hE7 hO7 hF_ hS
     obtain ⟨q24, -⟩ := hF_
     replace q24 : Ep7 44 = .agg #[.bool q4.fneg, .slice (adOf (partOf 1 (Ep4 34))) q4.fmag.length (capOf (partOf 1 (Ep4 34)))] := Eq.mp (by kernel_rfl) q24
     replace hS : St w0 w (cells b5 79 [.bool false, .slice none 0 0] :: l') := Eq.mp (by kernel_rfl) hS
     refine o_storeAgg (news := [.bool q4.fneg, .slice (adOf (partOf 1 (Ep4 34))) q4.fmag.length (capOf (partOf 1 (Ep4 34)))]) agg_79 ((hE7 5 rfl).trans ((hE4 5 rfl).trans (hE2 5 rfl))) q24 rfl (by simp [over_length]) hS (fun w' hS => ?_)
     refine x_done <| ?_
     refine x_fin ⟨⟨undef, rfl⟩, trivial, ?_⟩
     exact Eq.mp (by kernel_rfl) hS
   intro Ep7 w' hE7 hF_ hS
   obtain ⟨q20, q21, q23, q24, -⟩ := hF_
   replace q20 : Ep7 41 = .agg #[.bool q2.fneg, .slice (adOf (partOf 1 (Ep2 24))) q2.fmag.length (capOf (partOf 1 (Ep2 24)))] := Eq.mp (by kernel_rfl) q20
   replace q21 : Ep7 42 = .agg #[.bool q0o.fneg, .slice (adOf (partOf 1 (Ep7 42))) q0o.fmag.length (capOf (partOf 1 (Ep7 42)))] := Eq.mp (by kernel_rfl) q21
   replace q23 : Ep7 43 = .agg #[.bool q0m.fneg, .slice (adOf (partOf 1 (Ep7 43))) q0m.fmag.length (capOf (partOf 1 (Ep7 43)))] := Eq.mp (by kernel_rfl) q23
   replace q24 : Ep7 44 = .agg #[.bool q4.fneg, .slice (adOf (partOf 1 (Ep4 34))) q4.fmag.length (capOf (partOf 1 (Ep4 34)))] := Eq.mp (by kernel_rfl) q24
   replace hS : St w0 w' (cells (blkOf (Ep2 8)) 79 [.bool q2.fneg, .slice (adOf (partOf 1 (Ep2 24))) q2.fmag.length (capOf (partOf 1 (Ep2 24)))] :: ro q5 :: bunA (fun (q7 : Heap) => Le q5 q7 ∧ RdS (RpI .u32) q7 (adOf (partOf 1 (Ep7 42))) q0o.fmag.length (capOf (partOf 1 (Ep7 42))) q0o.fmag ∧ RdS (RpI .u32) q7 (adOf (partOf 1 (Ep7 43))) q0m.fmag.length (capOf (partOf 1 (Ep7 43))) q0m.fmag) (fun (q7 : Heap) => [roD q5 q7]) :: cells (blkOf (Ep2 9)) 79 [.bool q4.fneg, .slice (adOf (partOf 1 (Ep4 34))) q4.fmag.length (capOf (partOf 1 (Ep4 34)))] :: cells b4 79 [.bool q0m.fneg, .slice (adOf (partOf 1 (Ep7 43))) q0m.fmag.length (capOf (partOf 1 (Ep7 43)))] :: cells b5 79 [.bool q4.fneg, .slice (adOf (partOf 1 (Ep4 34))) q4.fmag.length (capOf (partOf 1 (Ep4 34)))] :: (cells b3 79 [.bool b1.fneg, .slice q0d b1.fmag.length c_b1_1] :: cells b2 79 [.bool a0.fneg, .slice q0p a0.fmag.length c_a0_1] :: l)) := Eq.mp (by kernel_rfl) hS
   have q_ := St.unbun (hS.pull 2); obtain ⟨q7, ⟨q2l, q0g, q0r⟩, hS⟩ := q_
   have q_ := St.ro_join (hS.pull 2) (Le.refl _) q2l; obtain ⟨q39, q2f, q34, hS, q3n⟩ := q_
   have e_ := Option.some.inj (show some _ = some _ from hF); subst e_
   exact x_return ⟨_, ⟨_, _, _, rfl, ((hE7 4 rfl).trans ((hE4 4 rfl).trans (hE2 4 rfl))), ldvA agg_79 rfl (fun j v hj => by rw [add0]; exact St.cell (hS.pull 3) hj), _, _, _, rfl, ((hE7 5 rfl).trans ((hE4 5 rfl).trans (hE2 5 rfl))), ldvA agg_79 rfl (fun j v hj => by rw [add0]; exact St.cell (hS.pull 4) hj), rfl⟩, q39, (adOf (partOf 1 (Ep7 43))), q0m.fmag.length, (capOf (partOf 1 (Ep7 43))), (adOf (partOf 1 (Ep4 34))), q4.fmag.length, (capOf (partOf 1 (Ep4 34))), rfl, (((q1b.trans q0w).trans q14).trans q2f), (q0r.le q34), (q0k.le (q2d.trans q2f)), (((((((hS.pull 1).drop.pull 1).drop.pull 1).drop.pull 1).drop.pull 1).drop.pull 1).drop)⟩
 ·replace hF := it_bf hc30 hF
  refine x_skip <| x_seq <| ?_
  refine x_par (w0 := w0) [⟨[], [], [45], [0], [], []⟩, ⟨[], [], [46], [1], [], []⟩, ⟨[0], [0], [], [], [2], [3]⟩, ⟨[0, 1, 2], [1], [], [], [4], [5]⟩] [⟨none, none, []⟩, ⟨none, none, []⟩, ⟨none, (some 2), []⟩, ⟨(some 2), none, []⟩, ⟨none, (some 3), []⟩, ⟨(some 3), none, []⟩] [45, 46] [0, 1, 2, 4] [0, 1, 3, 5] [0, 1] [fun Ep8 => Ep8 45 = .agg #[.bool q2.fneg, .slice (adOf (partOf 1 (Ep2 24))) q2.fmag.length (capOf (partOf 1 (Ep2 24)))], fun Ep8 => Ep8 46 = .agg #[.bool q3.fneg, .slice (adOf (partOf 1 (Ep2 28))) q3.fmag.length (capOf (partOf 1 (Ep2 28)))], fun Ep8 => True, fun Ep8 => True] [fun Ep8 => cells (blkOf (Ep2 8)) 79 [.bool q2.fneg, .slice (adOf (partOf 1 (Ep2 24))) q2.fmag.length (capOf (partOf 1 (Ep2 24)))], fun Ep8 => cells (blkOf (Ep2 9)) 79 [.bool q3.fneg, .slice (adOf (partOf 1 (Ep2 28))) q3.fmag.length (capOf (partOf 1 (Ep2 28)))], fun Ep8 => cells b4 79 [.bool false, .slice none 0 0], fun Ep8 => cells b4 79 [.bool q2.fneg, .slice (adOf (partOf 1 (Ep2 24))) q2.fmag.length (capOf (partOf 1 (Ep2 24)))], fun Ep8 => cells b5 79 [.bool false, .slice none 0 0], fun Ep8 => cells b5 79 [.bool q3.fneg, .slice (adOf (partOf 1 (Ep2 28))) q3.fmag.length (capOf (partOf 1 (Ep2 28)))]] mixed (by kernel_rfl) ((((hS.pull 5).pull 6).pull 6).pull 6) ?_ ?_
  ·refine ⟨?_, ?_, ?_, ?_, trivial⟩
   ·intro Ep8 w l' hE8 hO8 hF_ hS
    replace hS : St w0 w (cells (blkOf (Ep2 8)) 79 [.bool q2.fneg, .slice (adOf (partOf 1 (Ep2 24))) q2.fmag.length (capOf (partOf 1 (Ep2 24)))] :: l') := Eq.mp (by kernel_rfl) hS
    refine pa (v := .agg #[.bool q2.fneg, .slice (adOf (partOf 1 (Ep2 24))) q2.fmag.length (capOf (partOf 1 (Ep2 24)))]) (ld_sub agg_79 ((hE8 8 rfl).trans q0v) rfl rfl hS) <| x_done <| ?_
    refine x_fin ⟨⟨_, rfl⟩, rfl, ?_⟩
    exact Eq.mp (by kernel_rfl) hS
   ·intro Ep8 w l' hE8 hO8 hF_ hS
    replace hS : St w0 w (cells (blkOf (Ep2 9)) 79 [.bool q3.fneg, .slice (adOf (partOf 1 (Ep2 28))) q3.fmag.length (capOf (partOf 1 (Ep2 28)))] :: l') := Eq.mp (by kernel_rfl) hS
    refine pa (v := .agg #[.bool q3.fneg, .slice (adOf (partOf 1 (Ep2 28))) q3.fmag.length (capOf (partOf 1 (Ep2 28)))]) (ld_sub agg_79 ((hE8 9 rfl).trans q0t) rfl rfl hS) <| x_done <| ?_
    refine x_fin ⟨⟨_, rfl⟩, rfl, ?_⟩
    exact Eq.mp (by kernel_rfl) hS
   ·intro Ep8 w l' hE8 hO8 hF_ hS
    obtain ⟨q25, -⟩ := hF_
    replace q25 : Ep8 45 = .agg #[.bool q2.fneg, .slice (adOf (partOf 1 (Ep2 24))) q2.fmag.length (capOf (partOf 1 (Ep2 24)))] := Eq.mp (by kernel_rfl) q25
    replace hS : St w0 w (cells b4 79 [.bool false, .slice none 0 0] :: l') := Eq.mp (by kernel_rfl) hS
    refine o_storeAgg (news := [.bool q2.fneg, .slice (adOf (partOf 1 (Ep2 24))) q2.fmag.length (capOf (partOf 1 (Ep2 24)))]) agg_79 ((hE8 4 rfl).trans (hE2 4 rfl)) q25 rfl (by simp [over_length]) hS (fun w' hS => ?_)
    refine x_done <| ?_
    refine x_fin ⟨⟨undef, rfl⟩, trivial, ?_⟩
    exact Eq.mp (by kernel_rfl) hS
   ·intro Ep8 w l' hE8 hO8 hF_ hS
    obtain ⟨q26, -⟩ := hF_
    replace q26 : Ep8 46 = .agg #[.bool q3.fneg, .slice (adOf (partOf 1 (Ep2 28))) q3.fmag.length (capOf (partOf 1 (Ep2 28)))] := Eq.mp (by kernel_rfl) q26
    replace hS : St w0 w (cells b5 79 [.bool false, .slice none 0 0] :: l') := Eq.mp (by kernel_rfl) hS
    refine o_storeAgg (news := [.bool q3.fneg, .slice (adOf (partOf 1 (Ep2 28))) q3.fmag.length (capOf (partOf 1 (Ep2 28)))]) agg_79 ((hE8 5 rfl).trans (hE2 5 rfl)) q26 rfl (by simp [over_length]) hS (fun w' hS => ?_)
    refine x_done <| ?_
    refine x_fin ⟨⟨undef, rfl⟩, trivial, ?_⟩
    exact Eq.mp (by kernel_rfl) hS
  intro Ep8 w' hE8 hF_ hS
  obtain ⟨q25, q26, -⟩ := hF_
  replace q25 : Ep8 45 = .agg #[.bool q2.fneg, .slice (adOf (partOf 1 (Ep2 24))) q2.fmag.length (capOf (partOf 1 (Ep2 24)))] := Eq.mp (by kernel_rfl) q25
  replace q26 : Ep8 46 = .agg #[.bool q3.fneg, .slice (adOf (partOf 1 (Ep2 28))) q3.fmag.length (capOf (partOf 1 (Ep2 28)))] := Eq.mp (by kernel_rfl) q26
  replace hS : St w0 w' (cells (blkOf (Ep2 8)) 79 [.bool q2.fneg, .slice (adOf (partOf 1 (Ep2 24))) q2.fmag.length (capOf (partOf 1 (Ep2 24)))] :: cells (blkOf (Ep2 9)) 79 [.bool q3.fneg, .slice (adOf (partOf 1 (Ep2 28))) q3.fmag.length (capOf (partOf 1 (Ep2 28)))] :: cells b4 79 [.bool q2.fneg, .slice (adOf (partOf 1 (Ep2 24))) q2.fmag.length (capOf (partOf 1 (Ep2 24)))] :: cells b5 79 [.bool q3.fneg, .slice (adOf (partOf 1 (Ep2 28))) q3.fmag.length (capOf (partOf 1 (Ep2 28)))] :: (ro q0h :: cells b2 79 [.bool a0.fneg, .slice q0p a0.fmag.length c_a0_1] :: cells b3 79 [.bool b1.fneg, .slice q0d b1.fmag.length c_b1_1] :: l)) := Eq.mp (by kernel_rfl) hS
  have e_ := Option.some.inj (show some _ = some _ from hF); subst e_
  exact x_return ⟨_, ⟨_, _, _, rfl, ((hE8 4 rfl).trans (hE2 4 rfl)), ldvA agg_79 rfl (fun j v hj => by rw [add0]; exact St.cell (hS.pull 2) hj), _, _, _, rfl, ((hE8 5 rfl).trans (hE2 5 rfl)), ldvA agg_79 rfl (fun j v hj => by rw [add0]; exact St.cell (hS.pull 3) hj), rfl⟩, q0h, (adOf (partOf 1 (Ep2 24))), q2.fmag.length, (capOf (partOf 1 (Ep2 24))), (adOf (partOf 1 (Ep2 28))), q3.fmag.length, (capOf (partOf 1 (Ep2 28))), rfl, (q1b.trans q0w), (q0e.le q1o), (q0i.le q0w), (((hS.drop.drop.drop.drop.pull 1).drop.pull 1).drop)⟩
attribute [irreducible] P_exact_split

def P_exact_table_pivot_L2 (t0 : T_exact_table) (c1 : Int) : Int → Option (Int ⊕ Int) := fun q2 =>
 ck ((decide (q2 < (t0.frows.length : Int))) = true → inb q2 t0.frows.length) <|
 lv (gt t0.frows q2) fun q3 =>
 ck ((decide (q2 < (t0.frows.length : Int))) = true → inb c1 q3.length) <|
 lv (gt q3 c1) fun q4 =>
 bd (gd (decide (q2 < (t0.frows.length : Int))) (P_exact_Sign q4)) fun q5 =>
 lv ((decide (q2 < (t0.frows.length : Int))) && (decide (q5 = 0))) fun x38 =>
 if x38 = true then
  ar (q2 + 1) fun x40 =>
  some (Sum.inl x40)
 else
  some (Sum.inr q2)
def P_exact_table_pivot_L15 (t0 : T_exact_table) (c1 : Int) (q5 : List T_exact_Int) (q4 : List T_exact_Int) : (List T_exact_Int × Int) → Option ((List T_exact_Int × Int) ⊕ List T_exact_Int) := fun (q3, q2) =>
 if q2 < (q4.length : Int) then
  ck (inb c1 q5.length) <|
  lv (gt q5 c1) fun q0c =>
  ck (inb q2 q4.length) <|
  lv (gt q4 q2) fun q0d =>
  bd (P_exact_times q0c q0d) fun q0e =>
  ck (inb c1 q4.length) <|
  lv (gt q4 c1) fun q6 =>
  ck (inb q2 q5.length) <|
  lv (gt q5 q2) fun q7 =>
  bd (P_exact_times q6 q7) fun q8 =>
  bd (P_exact_Neg q8) fun q9 =>
  bd (P_exact_plus q0e q9) fun q0a =>
  bd (P_exact_split q0a (T_exact_Int.mk t0.flast.fneg t0.flast.fmag)) fun q0f =>
  ck (inb q2 q3.length) <|
  lv (stt q3 q2 q0f.1) fun q0b =>
  ar (q2 + 1) fun x172 =>
  some (Sum.inl (q0b, x172))
 else
  some (Sum.inr q3)
def P_exact_table_pivot_L10 (t0 : T_exact_table) (c1 : Int) (all2 : Bool) (q9 : List T_exact_Int) : (List (List T_exact_Int) × Int) → Option ((List (List T_exact_Int) × Int) ⊕ List (List T_exact_Int)) := fun (q3, q2) =>
 if q2 < (t0.frows.length : Int) then
  bd (
   ck (inb q2 q3.length) <|
   lv (gt q3 q2) fun q4 =>
   lv ((decide (q2 < t0.frank)) && (!all2)) fun x130 =>
   lv ((decide (q2 = t0.frank)) || x130) fun x131 =>
   if x131 = true then
    some q3
   else
    ck (mkOk 32 (q4.length : Int)) <|
    lv ((List.replicate ((q4.length : Int) : Int).toNat (T_exact_Int.mk false []) : List T_exact_Int)) fun q7 =>
    bd (
     lp (P_exact_table_pivot_L15 t0 c1 q9 q4) fuel (q7, 0)) fun q5 =>
    ck (inb q2 q3.length) <|
    lv (stt q3 q2 q5) fun q8 =>
    some q8) fun q6 =>
  ar (q2 + 1) fun x180 =>
  some (Sum.inl (q6, x180))
 else
  some (Sum.inr q3)
def P_exact_table_pivot (t0 : T_exact_table) (c1 : Int) (all2 : Bool) : Option (Bool × List (List T_exact_Int) × Bool × List Int × Bool × Int) :=
 bd (
  lp (P_exact_table_pivot_L2 t0 c1) fuel t0.frank) fun q3 =>
 if q3 = (t0.frows.length : Int) then
  some (false, t0.frows, t0.flast.fneg, t0.flast.fmag, t0.fodd, t0.frank)
 else
  bd (
   if q3 ≠ t0.frank then
    ck (inb t0.frank t0.frows.length) <|
    lv (gt t0.frows t0.frank) fun q9 =>
    ck (inb q3 t0.frows.length) <|
    lv (gt t0.frows q3) fun q0a =>
    ck (inb q3 t0.frows.length) <|
    lv (stt t0.frows q3 q9) fun q7 =>
    ck (inb t0.frank q7.length) <|
    lv (stt q7 t0.frank q0a) fun q0b =>
    some (q0b, !t0.fodd)
   else
    some (t0.frows, t0.fodd)) fun (q2, q4) =>
  ck (inb t0.frank q2.length) <|
  lv (gt q2 t0.frank) fun q6 =>
  bd (
   lp (P_exact_table_pivot_L10 t0 c1 all2 q6) fuel (q2, 0)) fun q5 =>
  ck (inb c1 q6.length) <|
  lv (gt q6 c1) fun q8 =>
  ar (t0.frank + 1) fun x192 =>
  some (true, q5, q8.fneg, q8.fmag, q4, x192)
set_option maxHeartbeats 4000000 in
set_option maxRecDepth 100000 in
theorem c_exact_table_pivot {w0 w : World} {l : List Assn} {ρ : Heap} {q3 : Nat} {q2 : Option Addr} {q23 : Nat} {c_t0_0 : Nat} {q0t : List Value} {q0c : Option Addr} {q66 : Nat} {c_t0_2 : Nat} {t0 : T_exact_table} {c1 : Int} {all2 : Bool} {r : (Bool × List (List T_exact_Int) × Bool × List Int × Bool × Int)} (hF : P_exact_table_pivot t0 c1 all2 = some r) (q16 : RepL (RpSl R_exact_Int) ρ t0.frows q0t) (q5d : RdS (RpI .u32) ρ q0c q66 c_t0_2 t0.flast.fmag) (hS : St w0 w (cells q3 150 [.slice q2 q23 c_t0_0, .bool t0.flast.fneg, .slice q0c q66 c_t0_2, .bool t0.fodd, .int .i64 t0.frank] :: vec 155 (RpSl R_exact_Int).sz (.slice q2 q23 c_t0_0) q23 q0t :: ro ρ :: l)) :
  Calls Try.prog 87 #[.pointer (some ⟨q3, 0, none⟩), .int .i64 c1, .bool all2] w fun e w' => ∃ (ρ' : Heap) (q2l : List Value) (q2m : Option Addr) (q2n : Nat) (c_b_t0_2_ret : Nat), e = .returned (.bool r.1) ∧ Le ρ ρ' ∧ RepL (RpSl R_exact_Int) ρ' r.2.1 q2l ∧ RdS (RpI .u32) ρ' q2m q2n c_b_t0_2_ret r.2.2.2.1 ∧ St w0 w' (cells q3 150 [.slice q2 q23 c_t0_0, .bool r.2.2.1, .slice q2m q2n c_b_t0_2_ret, .bool r.2.2.2.2.1, .int .i64 r.2.2.2.2.2] :: vec 155 (RpSl R_exact_Int).sz (.slice q2 q23 c_t0_0) q23 q2l :: ro ρ' :: l) := by
 have e_ := St.vec_n (hS.pull 1) q16; subst e_
 have e_ := q5d.n; subst e_
 refine enterC Try.func87 rfl 195 rfl (by simp) ?_
 refine x_seq <| x_region <| p (yl_assign rfl) <| x_done <|
  x_seq <| x_region <| p (yl_move rfl) <| p (yl_nilCheck rfl) <|
  p (yl_field0 fld_150_3 rfl) <| pa (at_load one_3 rfl (hS.cell rfl)) <| p (yl_assign rfl) <| x_done <|
  x_seq <| ?_
 replace hF := bd_s hF; obtain ⟨oL2, hLL2, hF⟩ := hF
 refine x_join (fun E w => ∃ (q0w : Int), q0w = oL2 ∧ E 0 = .pointer (some ⟨q3, 0, none⟩) ∧ E 1 = .int .i64 c1 ∧ E 2 = .bool all2 ∧ E 7 = .int .i64 q0w ∧ St w0 w (cells q3 150 [.slice q2 t0.frows.length c_t0_0, .bool t0.flast.fneg, .slice q0c t0.flast.fmag.length c_t0_2, .bool t0.fodd, .int .i64 t0.frank] :: vec 155 (RpSl R_exact_Int).sz (.slice q2 t0.frows.length c_t0_0) t0.frows.length q0t :: ro ρ :: l)) ?_ ?_
 ·refine x_block ?_
  refine x_loop (fun k_ E w => ∃ (q0l : Int), lp (P_exact_table_pivot_L2 t0 c1) k_ q0l = some oL2 ∧ E 0 = .pointer (some ⟨q3, 0, none⟩) ∧ E 1 = .int .i64 c1 ∧ E 2 = .bool all2 ∧ E 7 = .int .i64 q0l ∧ St w0 w (cells q3 150 [.slice q2 t0.frows.length c_t0_0, .bool t0.flast.fneg, .slice q0c t0.flast.fmag.length c_t0_2, .bool t0.fodd, .int .i64 t0.frank] :: vec 155 (RpSl R_exact_Int).sz (.slice q2 t0.frows.length c_t0_0) t0.frows.length q0t :: ro ρ :: l)) fuel ⟨t0.frank, hLL2, rfl, rfl, rfl, rfl, (((hS.pull 2).pull 2).pull 2)⟩ ?_
  rintro kL2 E w ⟨q0l, hLL2, q49, q5e, q67, q4a, hS⟩
  replace hLL2 := lp_s hLL2; obtain ⟨kL2, obL2, rfl, hFL2, hLL2⟩ := hLL2
  replace hFL2 := ck_s hFL2; obtain ⟨q68, hFL2⟩ := hFL2
  replace hFL2 := lv_s hFL2; obtain ⟨q9b, q88, hFL2⟩ := hFL2
  have q_ := RepL.getD sl_d q16 q0l; obtain ⟨q9w, q69, q89⟩ := q_
  rw [← q88] at q69
  obtain ⟨q7e, qa4, q9c, rfl, q65⟩ := q69
  have e_ := q65.n; subst e_
  replace hFL2 := ck_s hFL2; obtain ⟨q6a, hFL2⟩ := hFL2
  replace hFL2 := lv_s hFL2; obtain ⟨q7f, q8a, hFL2⟩ := hFL2
  have q_ := RdS.getD R_exact_Int_d q65 c1; obtain ⟨q9x, q6b, q8b⟩ := q_
  rw [← q8a] at q6b
  obtain ⟨q7o, q9q, q7p, rfl, q5q⟩ := q6b
  have e_ := q5q.n; subst e_
  replace hFL2 := bd_s hFL2; obtain ⟨q7g, q8c, hFL2⟩ := hFL2
  refine x_seq <| x_seq <| x_region <| p (yl_move q4a) <|
   p (yl_move q49) <| p (yl_nilCheck rfl) <| p (yl_field0 fld_150_0 rfl) <| pa (at_load one_148 rfl (hS.cell rfl)) <|
   p (yl_len_slice usl_148 rfl) <| p (yl_lss rfl rfl) <| p (yl_move rfl) <| pg (v := .pointer (some ⟨q3, 0, none⟩)) 25 (c := decide (q0l < (t0.frows.length : Int))) (says_t _) (fun hq => Yl.at (yl_move q49)) <|
   pg (v := .pointer (some ⟨q3, 0, none⟩)) 25 (c := decide (q0l < (t0.frows.length : Int))) (says_t _) (fun hq => Yl.at (yl_nilCheck (cv hq))) <| pg (v := .pointer (some ⟨q3, 0, none⟩)) 25 (c := decide (q0l < (t0.frows.length : Int))) (says_t _) (fun hq => Yl.at (yl_field0 fld_150_0 (cv hq))) <| pg (v := .slice q2 t0.frows.length c_t0_0) 25 (c := decide (q0l < (t0.frows.length : Int))) (says_t _) (fun hq => at_load one_148 (cv hq) (hS.cell rfl)) <| pg (v := .int .i64 q0l) 25 (c := decide (q0l < (t0.frows.length : Int))) (says_t _) (fun hq => Yl.at (yl_move q4a)) <|
   pg (v := .pointer (some ((adr q2).add (q0l.toNat * (RpSl R_exact_Int).sz)))) 25 (c := decide (q0l < (t0.frows.length : Int))) (says_t _) (fun hq => Yl.at (yix_o sl_148 (cv hq) (cv hq) (hS.pull 1) q16 (q68 hq))) <| pg (v := .slice q7e q9b.length q9c) 25 (c := decide (q0l < (t0.frows.length : Int))) (says_t _) (fun hq => at_load one_155 (cv hq) (EltV.ld (m := 0) (q89 (q68 hq)) (hS.pull 1) rfl)) <| pg (v := .int .i64 c1) 25 (c := decide (q0l < (t0.frows.length : Int))) (says_t _) (fun hq => Yl.at (yl_move q5e)) <| pg (v := .pointer (some ((adr q7e).add (c1.toNat * R_exact_Int.sz)))) 25 (c := decide (q0l < (t0.frows.length : Int))) (says_t _) (fun hq => Yl.at (yix_f sl_155 (cv hq) (cv hq) q65 (q6a hq))) <|
   pg (v := .agg #[.bool q7f.fneg, .slice q7o q7f.fmag.length q7p]) 25 (c := decide (q0l < (t0.frows.length : Int))) (says_t _) (fun hq => at_loadAgg agg_79 (cv hq) rfl (Elt.every (q8b (q6a hq)) (hS.pull 2))) <|
   pccg (v := .int .i64 q7g) 25 (c := decide (q0l < (t0.frows.length : Int))) (says_t _) call_44 (fun hq => (args1 (cv hq))) hS (fun hq => by
    have hcall := c_exact_Sign (gd_t q8c hq) q5q (hS.pull 2)
    exact (Calls.mono hcall (fun e w'' h => And.intro h.1 ((h.2.pull 2).pull 2)))) (fun w' hS => ?_)
  replace hFL2 := lv_s hFL2; obtain ⟨x38, hx38, hFL2⟩ := hFL2
  refine pg (v := .bool (decide (q7g = 0))) 25 (c := decide (q0l < (t0.frows.length : Int))) (says_t _) (fun hq => Yl.at (yl_eql (cv hq) rfl)) <| p (yand' rfl (fun hc => (cv hc)) rfl hx38) <| x_done <|
   x_cond (t := x38) rfl (fun hc38 => ?_) (fun hc38 => ?_)
  ·replace hFL2 := it_t hc38 hFL2
   replace hFL2 := ar_s hFL2; obtain ⟨x40, hx40, hFL2⟩ := hFL2
   refine x_skip <| x_block <| x_region <| p (yl_move q4a) <|
    p (yadd rfl rfl hx40) <| p (yl_assign rfl) <| x_done <| x_blk <| ?_
   have e_ := Option.some.inj (show some _ = some _ from hFL2); subst e_
   exact x_inv ⟨kL2, Nat.lt_succ_self _, x40, hLL2, q49, q5e, q67, rfl, (((hS.pull 2).pull 2).pull 2)⟩
  ·replace hFL2 := it_bf hc38 hFL2
   refine x_exitTo _ rfl <| ?_
   have e_ := Option.some.inj (show some _ = some _ from hFL2); subst e_
   exact x_inv ⟨q0l, hLL2, q49, q5e, q67, q4a, (((hS.pull 2).pull 2).pull 2)⟩
 rintro E w ⟨q0w, rfl, q19, q7h, q7i, q5a, hS⟩
 refine x_seq <| x_seq <| x_region <| p (yl_move q5a) <|
  p (yl_move q19) <| p (yl_nilCheck rfl) <| p (yl_field0 fld_150_0 rfl) <| pa (at_load one_148 rfl (hS.cell rfl)) <|
  p (yl_len_slice usl_148 rfl) <| p (yl_eql rfl rfl) <| x_done <|
  x_cond_p (q0w = (t0.frows.length : Int)) rfl (fun hc47 => ?_) (fun hc47 => ?_)
 ·replace hF := it_t hc47 hF
  refine x_seq <| x_region <| p (yl_assign rfl) <| x_done <| ?_
  have e_ := Option.some.inj (show some _ = some _ from hF); subst e_
  exact x_return ⟨_, ⟨_, _, rfl, rfl, rfl⟩, ρ, q0t, q0c, t0.flast.fmag.length, c_t0_2, rfl, (Le.refl _), q16, q5d, (((hS.pull 2).pull 2).pull 2)⟩
 ·replace hF := it_f hc47 hF
  refine x_skip <| x_seq <| x_seq <| x_region <|
   p (yl_move q5a) <| p (yl_move q19) <| p (yl_nilCheck rfl) <| p (yl_field0 fld_150_3 rfl) <|
   pa (at_load one_3 rfl (hS.cell rfl)) <| p (yl_neq rfl rfl) <| x_done <| ?_
  replace hF := bd_s hF; obtain ⟨oc53, hFc53, hF⟩ := hF
  refine x_join (fun E w => ∃ (q1a : List Value) (q1r : List (List T_exact_Int)) (q0i : Bool), (q1r, q0i) = oc53 ∧ E 0 = .pointer (some ⟨q3, 0, none⟩) ∧ E 1 = .int .i64 c1 ∧ E 2 = .bool all2 ∧ RepL (RpSl R_exact_Int) ρ q1r q1a ∧ St w0 w (cells q3 150 [.slice q2 t0.frows.length c_t0_0, .bool t0.flast.fneg, .slice q0c t0.flast.fmag.length c_t0_2, .bool q0i, .int .i64 t0.frank] :: vec 155 (RpSl R_exact_Int).sz (.slice q2 t0.frows.length c_t0_0) t0.frows.length q1a :: ro ρ :: l)) ?_ ?_
  ·refine x_cond_p (q0w ≠ t0.frank) rfl (fun hc53 => ?_) (fun hc53 => ?_)
   ·replace hFc53 := it_t hc53 hFc53
    replace hFc53 := ck_s hFc53; obtain ⟨q6c, hFc53⟩ := hFc53
    replace hFc53 := lv_s hFc53; obtain ⟨q1b, q8d, hFc53⟩ := hFc53
    replace hFc53 := ck_s hFc53; obtain ⟨q6d, hFc53⟩ := hFc53
    replace hFc53 := lv_s hFc53; obtain ⟨q1c, q8e, hFc53⟩ := hFc53
    replace hFc53 := ck_s hFc53; obtain ⟨q6e, hFc53⟩ := hFc53
    replace hFc53 := lv_s hFc53; obtain ⟨q4b, q8f, hFc53⟩ := hFc53
    replace hFc53 := ck_s hFc53; obtain ⟨q6f, hFc53⟩ := hFc53
    replace hFc53 := lv_s hFc53; obtain ⟨q5b, q8g, hFc53⟩ := hFc53
    refine x_par (w0 := w0) [⟨[], [], [54], [], [], []⟩, ⟨[0], [0], [55], [], [], []⟩, ⟨[0, 1], [1], [56], [], [], []⟩, ⟨[0, 1, 2], [2], [57], [0], [], []⟩, ⟨[], [], [58], [], [], []⟩, ⟨[], [], [59], [], [], []⟩, ⟨[5], [5], [60], [], [], []⟩, ⟨[5, 6], [6], [61], [], [], []⟩, ⟨[5, 6, 7], [7], [62], [0], [], []⟩, ⟨[], [], [63], [], [], []⟩, ⟨[9], [9], [64], [], [], []⟩, ⟨[9, 10], [10], [65], [], [], []⟩, ⟨[9, 10, 11], [11], [66], [0], [], []⟩, ⟨[], [], [67], [], [], []⟩, ⟨[], [], [68], [], [], []⟩, ⟨[14], [14], [69], [], [], []⟩, ⟨[14, 15], [15], [70], [], [], []⟩, ⟨[14, 15, 16], [16], [71], [0], [], []⟩, ⟨[], [], [72], [], [], []⟩, ⟨[18], [18], [73], [], [], []⟩, ⟨[18, 19], [19], [74], [], [], []⟩, ⟨[18, 19, 20], [20], [75], [0], [], []⟩, ⟨[14, 15, 16, 17, 18, 19, 20, 21], [17, 21], [76], [1], [], []⟩, ⟨[14, 15, 16, 17, 18, 19, 20, 21, 22], [22], [77], [1], [], []⟩, ⟨[], [], [78], [], [], []⟩, ⟨[24], [24], [79], [], [], []⟩, ⟨[24, 25], [25], [80], [], [], []⟩, ⟨[24, 25, 26], [26], [81], [0], [], []⟩, ⟨[], [], [82], [], [], []⟩, ⟨[24, 25, 26, 27, 28], [27, 28], [83], [1], [], []⟩, ⟨[24, 25, 26, 27, 28, 29], [29], [84], [1], [], []⟩, ⟨[], [], [85], [], [], []⟩, ⟨[31], [31], [86], [], [], []⟩, ⟨[31, 32], [32], [87], [], [], []⟩, ⟨[31, 32, 33], [33], [88], [0], [], []⟩, ⟨[31, 32, 33, 34], [34], [89], [], [], []⟩, ⟨[0, 1, 2, 3, 4, 5, 6, 7, 8, 9, 10, 11, 12, 14, 15, 16, 17, 18, 19, 20, 21, 22, 23, 24, 25, 26, 27, 28, 29, 30, 31, 32, 33, 34], [3, 4], [90], [1], [], []⟩, ⟨[0, 1, 2, 3, 4, 5, 6, 7, 8, 9, 10, 11, 12, 14, 15, 16, 17, 18, 19, 20, 21, 22, 23, 24, 25, 26, 27, 28, 29, 30, 31, 32, 33, 34, 36], [23, 36], [], [2], [1], [3]⟩, ⟨[0, 1, 2, 3, 4, 5, 6, 7, 8, 9, 10, 11, 12, 14, 15, 16, 17, 18, 19, 20, 21, 22, 23, 24, 25, 26, 27, 28, 29, 30, 31, 32, 33, 34, 36, 37], [8, 12], [91], [2, 3], [], []⟩, ⟨[0, 1, 2, 3, 4, 5, 6, 7, 8, 9, 10, 11, 12, 14, 15, 16, 17, 18, 19, 20, 21, 22, 23, 24, 25, 26, 27, 28, 29, 30, 31, 32, 33, 34, 36, 37, 38], [30, 38], [], [2], [3], [4]⟩, ⟨[0, 1, 2, 3, 4, 5, 6, 7, 8, 9, 10, 11, 12, 13, 14, 15, 16, 17, 18, 19, 20, 21, 22, 23, 24, 25, 26, 27, 28, 29, 30, 31, 32, 33, 34, 35, 36, 37, 38, 39], [13], [92], [], [], []⟩, ⟨[0, 1, 2, 3, 4, 5, 6, 7, 8, 9, 10, 11, 12, 13, 14, 15, 16, 17, 18, 19, 20, 21, 22, 23, 24, 25, 26, 27, 28, 29, 30, 31, 32, 33, 34, 35, 36, 37, 38, 39, 40], [40], [93], [], [], []⟩, ⟨[0, 1, 2, 3, 4, 5, 6, 7, 8, 9, 10, 11, 12, 13, 14, 15, 16, 17, 18, 19, 20, 21, 22, 23, 24, 25, 26, 27, 28, 29, 30, 31, 32, 33, 34, 35, 36, 37, 38, 39, 40, 41], [35, 41], [], [], [0], [5]⟩] [⟨none, (some 42), []⟩, ⟨none, (some 37), []⟩, ⟨none, none, []⟩, ⟨(some 37), (some 39), []⟩, ⟨(some 39), none, []⟩, ⟨(some 42), none, []⟩] [54, 55, 56, 57, 58, 59, 60, 61, 62, 63, 64, 65, 66, 67, 68, 69, 70, 71, 72, 73, 74, 75, 76, 77, 78, 79, 80, 81, 82, 83, 84, 85, 86, 87, 88, 89, 90, 91, 92, 93] [0, 1, 2] [2, 4, 5] [0, 1, 2, 3, 4, 5, 6, 7, 8, 9, 10, 11, 12, 13, 14, 15, 16, 17, 18, 19, 20, 21, 22, 23, 24, 25, 26, 27, 28, 29, 30, 31, 32, 33, 34, 35, 36, 38, 40, 41] [fun Ep7 => Ep7 54 = .pointer (some ⟨q3, 0, none⟩), fun Ep7 => Ep7 55 = .pointer (some ⟨q3, 0, none⟩), fun Ep7 => Ep7 56 = .pointer (some ⟨q3, 0, none⟩), fun Ep7 => Ep7 57 = .slice q2 t0.frows.length c_t0_0, fun Ep7 => Ep7 58 = .int .i64 q0w, fun Ep7 => Ep7 59 = .pointer (some ⟨q3, 0, none⟩), fun Ep7 => Ep7 60 = .pointer (some ⟨q3, 0, none⟩), fun Ep7 => Ep7 61 = .pointer (some ⟨q3, 0, none⟩), fun Ep7 => Ep7 62 = .slice q2 t0.frows.length c_t0_0, fun Ep7 => Ep7 63 = .pointer (some ⟨q3, 0, none⟩), fun Ep7 => Ep7 64 = .pointer (some ⟨q3, 0, none⟩), fun Ep7 => Ep7 65 = .pointer (some ⟨q3, 4, none⟩), fun Ep7 => Ep7 66 = .int .i64 t0.frank, fun Ep7 => Ep7 67 = .pointer (some ⟨q3, 0, none⟩), fun Ep7 => Ep7 68 = .pointer (some ⟨q3, 0, none⟩), fun Ep7 => Ep7 69 = .pointer (some ⟨q3, 0, none⟩), fun Ep7 => Ep7 70 = .pointer (some ⟨q3, 0, none⟩), fun Ep7 => Ep7 71 = .slice q2 t0.frows.length c_t0_0, fun Ep7 => Ep7 72 = .pointer (some ⟨q3, 0, none⟩), fun Ep7 => Ep7 73 = .pointer (some ⟨q3, 0, none⟩), fun Ep7 => Ep7 74 = .pointer (some ⟨q3, 4, none⟩), fun Ep7 => Ep7 75 = .int .i64 t0.frank, fun Ep7 => Ep7 76 = .pointer (some ((adr q2).add (t0.frank.toNat * (RpSl R_exact_Int).sz))), fun Ep7 => Ep7 77 = .slice (adOf (Ep7 77)) q1b.length (capOf (Ep7 77)) ∧ RdS R_exact_Int ρ (adOf (Ep7 77)) q1b.length (capOf (Ep7 77)) q1b, fun Ep7 => Ep7 78 = .pointer (some ⟨q3, 0, none⟩), fun Ep7 => Ep7 79 = .pointer (some ⟨q3, 0, none⟩), fun Ep7 => Ep7 80 = .pointer (some ⟨q3, 0, none⟩), fun Ep7 => Ep7 81 = .slice q2 t0.frows.length c_t0_0, fun Ep7 => Ep7 82 = .int .i64 q0w, fun Ep7 => Ep7 83 = .pointer (some ((adr q2).add (q0w.toNat * (RpSl R_exact_Int).sz))), fun Ep7 => Ep7 84 = .slice (adOf (Ep7 84)) q1c.length (capOf (Ep7 84)) ∧ RdS R_exact_Int ρ (adOf (Ep7 84)) q1c.length (capOf (Ep7 84)) q1c, fun Ep7 => Ep7 85 = .pointer (some ⟨q3, 0, none⟩), fun Ep7 => Ep7 86 = .pointer (some ⟨q3, 0, none⟩), fun Ep7 => Ep7 87 = .pointer (some ⟨q3, 3, none⟩), fun Ep7 => Ep7 88 = .bool t0.fodd, fun Ep7 => Ep7 89 = .bool (!t0.fodd), fun Ep7 => Ep7 90 = .pointer (some ((adr q2).add (q0w.toNat * (RpSl R_exact_Int).sz))), fun Ep7 => True, fun Ep7 => Ep7 91 = .pointer (some ((adr q2).add (t0.frank.toNat * (RpSl R_exact_Int).sz))), fun Ep7 => True, fun Ep7 => Ep7 92 = .pointer (some ⟨q3, 0, none⟩), fun Ep7 => Ep7 93 = .pointer (some ⟨q3, 3, none⟩), fun Ep7 => True] [fun Ep7 => cells q3 150 [.slice q2 t0.frows.length c_t0_0, .bool t0.flast.fneg, .slice q0c t0.flast.fmag.length c_t0_2, .bool t0.fodd, .int .i64 t0.frank], fun Ep7 => vec 155 (RpSl R_exact_Int).sz (.slice q2 t0.frows.length c_t0_0) t0.frows.length q0t, fun Ep7 => ro ρ, fun Ep7 => bunA (fun (q0f : List Value) => RepL (RpSl R_exact_Int) ρ q4b q0f) (fun (q0f : List Value) => [vec 155 (RpSl R_exact_Int).sz (.slice q2 t0.frows.length c_t0_0) t0.frows.length q0f]), fun Ep7 => bunA (fun (q0u : List Value) => RepL (RpSl R_exact_Int) ρ q5b q0u) (fun (q0u : List Value) => [vec 155 (RpSl R_exact_Int).sz (.slice q2 t0.frows.length c_t0_0) t0.frows.length q0u]), fun Ep7 => cells q3 150 [.slice q2 t0.frows.length c_t0_0, .bool t0.flast.fneg, .slice q0c t0.flast.fmag.length c_t0_2, .bool (!t0.fodd), .int .i64 t0.frank]] mixed (by kernel_rfl) (((hS.pull 2).pull 2).pull 2) ?_ ?_
    ·refine ⟨?_, ?_, ?_, ?_, ?_, ?_, ?_, ?_, ?_, ?_, ?_, ?_, ?_, ?_, ?_, ?_, ?_, ?_, ?_, ?_, ?_, ?_, ?_, ?_, ?_, ?_, ?_, ?_, ?_, ?_, ?_, ?_, ?_, ?_, ?_, ?_, ?_, ?_, ?_, ?_, ?_, ?_, ?_, trivial⟩
     ·intro Ep7 w l' hE7 hO7 hF_ hS
      refine p (yl_move ((hE7 0 rfl).trans q19)) <| x_done <| ?_
      refine x_fin ⟨⟨_, rfl⟩, rfl, ?_⟩
      exact Eq.mp (by kernel_rfl) hS
     ·intro Ep7 w l' hE7 hO7 hF_ hS
      obtain ⟨q4n, -⟩ := hF_
      replace q4n : Ep7 54 = .pointer (some ⟨q3, 0, none⟩) := Eq.mp (by kernel_rfl) q4n
      refine p (yl_nilCheck q4n) <| x_done <| ?_
      refine x_fin ⟨⟨_, rfl⟩, rfl, ?_⟩
      exact Eq.mp (by kernel_rfl) hS
     ·intro Ep7 w l' hE7 hO7 hF_ hS
      obtain ⟨q4o, -⟩ := hF_
      replace q4o : Ep7 55 = .pointer (some ⟨q3, 0, none⟩) := Eq.mp (by kernel_rfl) q4o
      refine p (yl_field0 fld_150_0 q4o) <| x_done <| ?_
      refine x_fin ⟨⟨_, rfl⟩, rfl, ?_⟩
      exact Eq.mp (by kernel_rfl) hS
     ·intro Ep7 w l' hE7 hO7 hF_ hS
      obtain ⟨q4p, -⟩ := hF_
      replace q4p : Ep7 56 = .pointer (some ⟨q3, 0, none⟩) := Eq.mp (by kernel_rfl) q4p
      replace hS : St w0 w (cells q3 150 [.slice q2 t0.frows.length c_t0_0, .bool t0.flast.fneg, .slice q0c t0.flast.fmag.length c_t0_2, .bool t0.fodd, .int .i64 t0.frank] :: l') := Eq.mp (by kernel_rfl) hS
      refine pa (at_load one_148 q4p (hS.cell rfl)) <| x_done <| ?_
      refine x_fin ⟨⟨_, rfl⟩, rfl, ?_⟩
      exact Eq.mp (by kernel_rfl) hS
     ·intro Ep7 w l' hE7 hO7 hF_ hS
      refine p (yl_move ((hE7 7 rfl).trans q5a)) <| x_done <| ?_
      refine x_fin ⟨⟨_, rfl⟩, rfl, ?_⟩
      exact Eq.mp (by kernel_rfl) hS
     ·intro Ep7 w l' hE7 hO7 hF_ hS
      refine p (yl_move ((hE7 0 rfl).trans q19)) <| x_done <| ?_
      refine x_fin ⟨⟨_, rfl⟩, rfl, ?_⟩
      exact Eq.mp (by kernel_rfl) hS
     ·intro Ep7 w l' hE7 hO7 hF_ hS
      obtain ⟨q4q, -⟩ := hF_
      replace q4q : Ep7 59 = .pointer (some ⟨q3, 0, none⟩) := Eq.mp (by kernel_rfl) q4q
      refine p (yl_nilCheck q4q) <| x_done <| ?_
      refine x_fin ⟨⟨_, rfl⟩, rfl, ?_⟩
      exact Eq.mp (by kernel_rfl) hS
     ·intro Ep7 w l' hE7 hO7 hF_ hS
      obtain ⟨q4r, -⟩ := hF_
      replace q4r : Ep7 60 = .pointer (some ⟨q3, 0, none⟩) := Eq.mp (by kernel_rfl) q4r
      refine p (yl_field0 fld_150_0 q4r) <| x_done <| ?_
      refine x_fin ⟨⟨_, rfl⟩, rfl, ?_⟩
      exact Eq.mp (by kernel_rfl) hS
     ·intro Ep7 w l' hE7 hO7 hF_ hS
      obtain ⟨q4s, -⟩ := hF_
      replace q4s : Ep7 61 = .pointer (some ⟨q3, 0, none⟩) := Eq.mp (by kernel_rfl) q4s
      replace hS : St w0 w (cells q3 150 [.slice q2 t0.frows.length c_t0_0, .bool t0.flast.fneg, .slice q0c t0.flast.fmag.length c_t0_2, .bool t0.fodd, .int .i64 t0.frank] :: l') := Eq.mp (by kernel_rfl) hS
      refine pa (at_load one_148 q4s (hS.cell rfl)) <| x_done <| ?_
      refine x_fin ⟨⟨_, rfl⟩, rfl, ?_⟩
      exact Eq.mp (by kernel_rfl) hS
     ·intro Ep7 w l' hE7 hO7 hF_ hS
      refine p (yl_move ((hE7 0 rfl).trans q19)) <| x_done <| ?_
      refine x_fin ⟨⟨_, rfl⟩, rfl, ?_⟩
      exact Eq.mp (by kernel_rfl) hS
     ·intro Ep7 w l' hE7 hO7 hF_ hS
      obtain ⟨q4t, -⟩ := hF_
      replace q4t : Ep7 63 = .pointer (some ⟨q3, 0, none⟩) := Eq.mp (by kernel_rfl) q4t
      refine p (yl_nilCheck q4t) <| x_done <| ?_
      refine x_fin ⟨⟨_, rfl⟩, rfl, ?_⟩
      exact Eq.mp (by kernel_rfl) hS
     ·intro Ep7 w l' hE7 hO7 hF_ hS
      obtain ⟨q2r, -⟩ := hF_
      replace q2r : Ep7 64 = .pointer (some ⟨q3, 0, none⟩) := Eq.mp (by kernel_rfl) q2r
      refine p (yl_field0 fld_150_3 q2r) <| x_done <| ?_
      refine x_fin ⟨⟨_, rfl⟩, rfl, ?_⟩
      exact Eq.mp (by kernel_rfl) hS
     ·intro Ep7 w l' hE7 hO7 hF_ hS
      obtain ⟨q2s, -⟩ := hF_
      replace q2s : Ep7 65 = .pointer (some ⟨q3, 4, none⟩) := Eq.mp (by kernel_rfl) q2s
      replace hS : St w0 w (cells q3 150 [.slice q2 t0.frows.length c_t0_0, .bool t0.flast.fneg, .slice q0c t0.flast.fmag.length c_t0_2, .bool t0.fodd, .int .i64 t0.frank] :: l') := Eq.mp (by kernel_rfl) hS
      refine pa (at_load one_3 q2s (hS.cell rfl)) <| x_done <| ?_
      refine x_fin ⟨⟨_, rfl⟩, rfl, ?_⟩
      exact Eq.mp (by kernel_rfl) hS
     ·intro Ep7 w l' hE7 hO7 hF_ hS
      refine p (yl_move ((hE7 0 rfl).trans q19)) <| x_done <| ?_
      refine x_fin ⟨⟨_, rfl⟩, rfl, ?_⟩
      exact Eq.mp (by kernel_rfl) hS
     ·intro Ep7 w l' hE7 hO7 hF_ hS
      refine p (yl_move ((hE7 0 rfl).trans q19)) <| x_done <| ?_
      refine x_fin ⟨⟨_, rfl⟩, rfl, ?_⟩
      exact Eq.mp (by kernel_rfl) hS
     ·intro Ep7 w l' hE7 hO7 hF_ hS
      obtain ⟨q2t, -⟩ := hF_
      replace q2t : Ep7 68 = .pointer (some ⟨q3, 0, none⟩) := Eq.mp (by kernel_rfl) q2t
      refine p (yl_nilCheck q2t) <| x_done <| ?_
      refine x_fin ⟨⟨_, rfl⟩, rfl, ?_⟩
      exact Eq.mp (by kernel_rfl) hS
     ·intro Ep7 w l' hE7 hO7 hF_ hS
      obtain ⟨q2u, -⟩ := hF_
      replace q2u : Ep7 69 = .pointer (some ⟨q3, 0, none⟩) := Eq.mp (by kernel_rfl) q2u
      refine p (yl_field0 fld_150_0 q2u) <| x_done <| ?_
      refine x_fin ⟨⟨_, rfl⟩, rfl, ?_⟩
      exact Eq.mp (by kernel_rfl) hS
     ·intro Ep7 w l' hE7 hO7 hF_ hS
      obtain ⟨q2v, -⟩ := hF_
      replace q2v : Ep7 70 = .pointer (some ⟨q3, 0, none⟩) := Eq.mp (by kernel_rfl) q2v
      replace hS : St w0 w (cells q3 150 [.slice q2 t0.frows.length c_t0_0, .bool t0.flast.fneg, .slice q0c t0.flast.fmag.length c_t0_2, .bool t0.fodd, .int .i64 t0.frank] :: l') := Eq.mp (by kernel_rfl) hS
      refine pa (at_load one_148 q2v (hS.cell rfl)) <| x_done <| ?_
      refine x_fin ⟨⟨_, rfl⟩, rfl, ?_⟩
      exact Eq.mp (by kernel_rfl) hS
     ·intro Ep7 w l' hE7 hO7 hF_ hS
      refine p (yl_move ((hE7 0 rfl).trans q19)) <| x_done <| ?_
      refine x_fin ⟨⟨_, rfl⟩, rfl, ?_⟩
      exact Eq.mp (by kernel_rfl) hS
     ·intro Ep7 w l' hE7 hO7 hF_ hS
      obtain ⟨q2w, -⟩ := hF_
      replace q2w : Ep7 72 = .pointer (some ⟨q3, 0, none⟩) := Eq.mp (by kernel_rfl) q2w
      refine p (yl_nilCheck q2w) <| x_done <| ?_
      refine x_fin ⟨⟨_, rfl⟩, rfl, ?_⟩
      exact Eq.mp (by kernel_rfl) hS
     ·intro Ep7 w l' hE7 hO7 hF_ hS
      obtain ⟨q2x, -⟩ := hF_
      replace q2x : Ep7 73 = .pointer (some ⟨q3, 0, none⟩) := Eq.mp (by kernel_rfl) q2x
      refine p (yl_field0 fld_150_3 q2x) <| x_done <| ?_
      refine x_fin ⟨⟨_, rfl⟩, rfl, ?_⟩
      exact Eq.mp (by kernel_rfl) hS
     ·intro Ep7 w l' hE7 hO7 hF_ hS
      obtain ⟨q2y, -⟩ := hF_
      replace q2y : Ep7 74 = .pointer (some ⟨q3, 4, none⟩) := Eq.mp (by kernel_rfl) q2y
      replace hS : St w0 w (cells q3 150 [.slice q2 t0.frows.length c_t0_0, .bool t0.flast.fneg, .slice q0c t0.flast.fmag.length c_t0_2, .bool t0.fodd, .int .i64 t0.frank] :: l') := Eq.mp (by kernel_rfl) hS
      refine pa (at_load one_3 q2y (hS.cell rfl)) <| x_done <| ?_
      refine x_fin ⟨⟨_, rfl⟩, rfl, ?_⟩
      exact Eq.mp (by kernel_rfl) hS
     ·intro Ep7 w l' hE7 hO7 hF_ hS
      obtain ⟨q2z, q30, -⟩ := hF_
      replace q2z : Ep7 71 = .slice q2 t0.frows.length c_t0_0 := Eq.mp (by kernel_rfl) q2z
      replace q30 : Ep7 75 = .int .i64 t0.frank := Eq.mp (by kernel_rfl) q30
      replace hS : St w0 w (vec 155 (RpSl R_exact_Int).sz (.slice q2 t0.frows.length c_t0_0) t0.frows.length q0t :: l') := Eq.mp (by kernel_rfl) hS
      refine p (yix_o sl_148 q2z q30 hS q16 q6c) <| x_done <| ?_
      refine x_fin ⟨⟨_, rfl⟩, rfl, ?_⟩
      exact Eq.mp (by kernel_rfl) hS
     ·intro Ep7 w l' hE7 hO7 hF_ hS
      obtain ⟨q31, -⟩ := hF_
      replace q31 : Ep7 76 = .pointer (some ((adr q2).add (t0.frank.toNat * (RpSl R_exact_Int).sz))) := Eq.mp (by kernel_rfl) q31
      replace hS : St w0 w (vec 155 (RpSl R_exact_Int).sz (.slice q2 t0.frows.length c_t0_0) t0.frows.length q0t :: l') := Eq.mp (by kernel_rfl) hS
      have q_ := q16.get q6c; obtain ⟨q9y, q6g, q8h⟩ := q_
      rw [← q8d] at q6g
      obtain ⟨qa5, qa6, qa7, rfl, q1e⟩ := q6g
      have e_ := q1e.n; subst e_
      refine pa (at_load one_155 q31 (EltV.ld (m := 0) q8h hS rfl)) <| x_done <| ?_
      refine x_fin ⟨⟨_, rfl⟩, ⟨rfl, q1e⟩, ?_⟩
      exact Eq.mp (by kernel_rfl) hS
     ·intro Ep7 w l' hE7 hO7 hF_ hS
      refine p (yl_move ((hE7 0 rfl).trans q19)) <| x_done <| ?_
      refine x_fin ⟨⟨_, rfl⟩, rfl, ?_⟩
      exact Eq.mp (by kernel_rfl) hS
     ·intro Ep7 w l' hE7 hO7 hF_ hS
      obtain ⟨q32, -⟩ := hF_
      replace q32 : Ep7 78 = .pointer (some ⟨q3, 0, none⟩) := Eq.mp (by kernel_rfl) q32
      refine p (yl_nilCheck q32) <| x_done <| ?_
      refine x_fin ⟨⟨_, rfl⟩, rfl, ?_⟩
      exact Eq.mp (by kernel_rfl) hS
     ·intro Ep7 w l' hE7 hO7 hF_ hS
      obtain ⟨q33, -⟩ := hF_
      replace q33 : Ep7 79 = .pointer (some ⟨q3, 0, none⟩) := Eq.mp (by kernel_rfl) q33
      refine p (yl_field0 fld_150_0 q33) <| x_done <| ?_
      refine x_fin ⟨⟨_, rfl⟩, rfl, ?_⟩
      exact Eq.mp (by kernel_rfl) hS
     ·intro Ep7 w l' hE7 hO7 hF_ hS
      obtain ⟨q34, -⟩ := hF_
      replace q34 : Ep7 80 = .pointer (some ⟨q3, 0, none⟩) := Eq.mp (by kernel_rfl) q34
      replace hS : St w0 w (cells q3 150 [.slice q2 t0.frows.length c_t0_0, .bool t0.flast.fneg, .slice q0c t0.flast.fmag.length c_t0_2, .bool t0.fodd, .int .i64 t0.frank] :: l') := Eq.mp (by kernel_rfl) hS
      refine pa (at_load one_148 q34 (hS.cell rfl)) <| x_done <| ?_
      refine x_fin ⟨⟨_, rfl⟩, rfl, ?_⟩
      exact Eq.mp (by kernel_rfl) hS
     ·intro Ep7 w l' hE7 hO7 hF_ hS
      refine p (yl_move ((hE7 7 rfl).trans q5a)) <| x_done <| ?_
      refine x_fin ⟨⟨_, rfl⟩, rfl, ?_⟩
      exact Eq.mp (by kernel_rfl) hS
     ·intro Ep7 w l' hE7 hO7 hF_ hS
      obtain ⟨q35, q36, -⟩ := hF_
      replace q35 : Ep7 81 = .slice q2 t0.frows.length c_t0_0 := Eq.mp (by kernel_rfl) q35
      replace q36 : Ep7 82 = .int .i64 q0w := Eq.mp (by kernel_rfl) q36
      replace hS : St w0 w (vec 155 (RpSl R_exact_Int).sz (.slice q2 t0.frows.length c_t0_0) t0.frows.length q0t :: l') := Eq.mp (by kernel_rfl) hS
      refine p (yix_o sl_148 q35 q36 hS q16 q6d) <| x_done <| ?_
      refine x_fin ⟨⟨_, rfl⟩, rfl, ?_⟩
      exact Eq.mp (by kernel_rfl) hS
     ·intro Ep7 w l' hE7 hO7 hF_ hS
      obtain ⟨q37, -⟩ := hF_
      replace q37 : Ep7 83 = .pointer (some ((adr q2).add (q0w.toNat * (RpSl R_exact_Int).sz))) := Eq.mp (by kernel_rfl) q37
      replace hS : St w0 w (vec 155 (RpSl R_exact_Int).sz (.slice q2 t0.frows.length c_t0_0) t0.frows.length q0t :: l') := Eq.mp (by kernel_rfl) hS
      have q_ := q16.get q6d; obtain ⟨q9z, q6h, q8i⟩ := q_
      rw [← q8e] at q6h
      obtain ⟨qa8, qa9, qaa, rfl, q1f⟩ := q6h
      have e_ := q1f.n; subst e_
      refine pa (at_load one_155 q37 (EltV.ld (m := 0) q8i hS rfl)) <| x_done <| ?_
      refine x_fin ⟨⟨_, rfl⟩, ⟨rfl, q1f⟩, ?_⟩
      exact Eq.mp (by kernel_rfl) hS
     ·intro Ep7 w l' hE7 hO7 hF_ hS
      refine p (yl_move ((hE7 0 rfl).trans q19)) <| x_done <| ?_
      refine x_fin ⟨⟨_, rfl⟩, rfl, ?_⟩
      exact Eq.mp (by kernel_rfl) hS
     ·intro Ep7 w l' hE7 hO7 hF_ hS
      obtain ⟨q38, -⟩ := hF_
      replace q38 : Ep7 85 = .pointer (some ⟨q3, 0, none⟩) := Eq.mp (by kernel_rfl) q38
      refine p (yl_nilCheck q38) <| x_done <| ?_
      refine x_fin ⟨⟨_, rfl⟩, rfl, ?_⟩
      exact Eq.mp (by kernel_rfl) hS
     ·intro Ep7 w l' hE7 hO7 hF_ hS
      obtain ⟨q39, -⟩ := hF_
      replace q39 : Ep7 86 = .pointer (some ⟨q3, 0, none⟩) := Eq.mp (by kernel_rfl) q39
      refine p (yl_field0 fld_150_2 q39) <| x_done <| ?_
      refine x_fin ⟨⟨_, rfl⟩, rfl, ?_⟩
      exact Eq.mp (by kernel_rfl) hS
     ·intro Ep7 w l' hE7 hO7 hF_ hS
      obtain ⟨q3a, -⟩ := hF_
      replace q3a : Ep7 87 = .pointer (some ⟨q3, 3, none⟩) := Eq.mp (by kernel_rfl) q3a
      replace hS : St w0 w (cells q3 150 [.slice q2 t0.frows.length c_t0_0, .bool t0.flast.fneg, .slice q0c t0.flast.fmag.length c_t0_2, .bool t0.fodd, .int .i64 t0.frank] :: l') := Eq.mp (by kernel_rfl) hS
      refine pa (at_load one_4 q3a (hS.cell rfl)) <| x_done <| ?_
      refine x_fin ⟨⟨_, rfl⟩, rfl, ?_⟩
      exact Eq.mp (by kernel_rfl) hS
     ·intro Ep7 w l' hE7 hO7 hF_ hS
      obtain ⟨q3b, -⟩ := hF_
      replace q3b : Ep7 88 = .bool t0.fodd := Eq.mp (by kernel_rfl) q3b
      refine p (yl_not q3b) <| x_done <| ?_
      refine x_fin ⟨⟨_, rfl⟩, rfl, ?_⟩
      exact Eq.mp (by kernel_rfl) hS
     ·intro Ep7 w l' hE7 hO7 hF_ hS
      obtain ⟨q4u, q4v, -⟩ := hF_
      replace q4u : Ep7 57 = .slice q2 t0.frows.length c_t0_0 := Eq.mp (by kernel_rfl) q4u
      replace q4v : Ep7 58 = .int .i64 q0w := Eq.mp (by kernel_rfl) q4v
      replace hS : St w0 w (vec 155 (RpSl R_exact_Int).sz (.slice q2 t0.frows.length c_t0_0) t0.frows.length q0t :: l') := Eq.mp (by kernel_rfl) hS
      refine p (yix_o sl_148 q4u q4v hS q16 q6e) <| x_done <| ?_
      refine x_fin ⟨⟨_, rfl⟩, rfl, ?_⟩
      exact Eq.mp (by kernel_rfl) hS
     ·intro Ep7 w l' hE7 hO7 hF_ hS
      obtain ⟨q1e, q3c, -⟩ := hF_
      replace q1e : Ep7 77 = .slice (adOf (Ep7 77)) q1b.length (capOf (Ep7 77)) ∧ RdS R_exact_Int ρ (adOf (Ep7 77)) q1b.length (capOf (Ep7 77)) q1b := Eq.mp (by kernel_rfl) q1e
      have q_ := id q1e; obtain ⟨-, q6i⟩ := q_
      replace q3c : Ep7 90 = .pointer (some ((adr q2).add (q0w.toNat * (RpSl R_exact_Int).sz))) := Eq.mp (by kernel_rfl) q3c
      replace hS : St w0 w (ro ρ :: vec 155 (RpSl R_exact_Int).sz (.slice q2 t0.frows.length c_t0_0) t0.frows.length q0t :: l') := Eq.mp (by kernel_rfl) hS
      refine o_put' (news := [.slice (adOf (Ep7 77)) q1b.length (capOf (Ep7 77))]) sz_155 q3c q1e.1 rfl rfl (o := 0) rfl q6e rfl (hS.pull 1) q16 (Le.refl _) (fun c hc => ok_all hc (show (RpSl R_exact_Int).ok ρ [.slice (adOf (Ep7 77)) q1b.length (capOf (Ep7 77))] q1b from ⟨_, _, _, rfl, q6i⟩)) q8f (fun q0f w' q24 hS => ?_)
      refine x_done <| ?_
      refine x_fin ⟨⟨undef, rfl⟩, trivial, ?_⟩
      replace hS := St.bun (Φ := (fun (q0f : List Value) => RepL (RpSl R_exact_Int) ρ q4b q0f)) (L := (fun (q0f : List Value) => [vec 155 (RpSl R_exact_Int).sz (.slice q2 t0.frows.length c_t0_0) t0.frows.length q0f])) q0f q24 hS
      exact Eq.mp (by kernel_rfl) (hS.pull 1)
     ·intro Ep7 w l' hE7 hO7 hF_ hS
      obtain ⟨q4w, q3d, -⟩ := hF_
      replace q4w : Ep7 62 = .slice q2 t0.frows.length c_t0_0 := Eq.mp (by kernel_rfl) q4w
      replace q3d : Ep7 66 = .int .i64 t0.frank := Eq.mp (by kernel_rfl) q3d
      replace hS : St w0 w (ro ρ :: bunA (fun (q0f : List Value) => RepL (RpSl R_exact_Int) ρ q4b q0f) (fun (q0f : List Value) => [vec 155 (RpSl R_exact_Int).sz (.slice q2 t0.frows.length c_t0_0) t0.frows.length q0f]) :: l') := Eq.mp (by kernel_rfl) hS
      have q_ := St.unbun (hS.pull 1); obtain ⟨q0f, q24, hS⟩ := q_
      refine p (yix_o sl_148 q4w q3d hS q24 q6f) <| x_done <| ?_
      refine x_fin ⟨⟨_, rfl⟩, rfl, ?_⟩
      replace hS := St.bun (Φ := (fun (q0f : List Value) => RepL (RpSl R_exact_Int) ρ q4b q0f)) (L := (fun (q0f : List Value) => [vec 155 (RpSl R_exact_Int).sz (.slice q2 t0.frows.length c_t0_0) t0.frows.length q0f])) q0f q24 hS
      exact Eq.mp (by kernel_rfl) (hS.pull 1)
     ·intro Ep7 w l' hE7 hO7 hF_ hS
      obtain ⟨q1f, q3e, -⟩ := hF_
      replace q1f : Ep7 84 = .slice (adOf (Ep7 84)) q1c.length (capOf (Ep7 84)) ∧ RdS R_exact_Int ρ (adOf (Ep7 84)) q1c.length (capOf (Ep7 84)) q1c := Eq.mp (by kernel_rfl) q1f
      have q_ := id q1f; obtain ⟨-, q6j⟩ := q_
      replace q3e : Ep7 91 = .pointer (some ((adr q2).add (t0.frank.toNat * (RpSl R_exact_Int).sz))) := Eq.mp (by kernel_rfl) q3e
      replace hS : St w0 w (ro ρ :: bunA (fun (q0f : List Value) => RepL (RpSl R_exact_Int) ρ q4b q0f) (fun (q0f : List Value) => [vec 155 (RpSl R_exact_Int).sz (.slice q2 t0.frows.length c_t0_0) t0.frows.length q0f]) :: l') := Eq.mp (by kernel_rfl) hS
      have q_ := St.unbun (hS.pull 1); obtain ⟨q0f, q24, hS⟩ := q_
      refine o_put' (news := [.slice (adOf (Ep7 84)) q1c.length (capOf (Ep7 84))]) sz_155 q3e q1f.1 rfl rfl (o := 0) rfl q6f rfl hS q24 (Le.refl _) (fun c hc => ok_all hc (show (RpSl R_exact_Int).ok ρ [.slice (adOf (Ep7 84)) q1c.length (capOf (Ep7 84))] q1c from ⟨_, _, _, rfl, q6j⟩)) q8g (fun q0u w' q5f hS => ?_)
      refine x_done <| ?_
      refine x_fin ⟨⟨undef, rfl⟩, trivial, ?_⟩
      replace hS := St.bun (Φ := (fun (q0u : List Value) => RepL (RpSl R_exact_Int) ρ q5b q0u)) (L := (fun (q0u : List Value) => [vec 155 (RpSl R_exact_Int).sz (.slice q2 t0.frows.length c_t0_0) t0.frows.length q0u])) q0u q5f hS
      exact Eq.mp (by kernel_rfl) (hS.pull 1)
     ·intro Ep7 w l' hE7 hO7 hF_ hS
      obtain ⟨q3f, -⟩ := hF_
      replace q3f : Ep7 67 = .pointer (some ⟨q3, 0, none⟩) := Eq.mp (by kernel_rfl) q3f
      refine p (yl_nilCheck q3f) <| x_done <| ?_
      refine x_fin ⟨⟨_, rfl⟩, rfl, ?_⟩
      exact Eq.mp (by kernel_rfl) hS
     ·intro Ep7 w l' hE7 hO7 hF_ hS
      obtain ⟨q3g, -⟩ := hF_
      replace q3g : Ep7 92 = .pointer (some ⟨q3, 0, none⟩) := Eq.mp (by kernel_rfl) q3g
      refine p (yl_field0 fld_150_2 q3g) <| x_done <| ?_
      refine x_fin ⟨⟨_, rfl⟩, rfl, ?_⟩
      exact Eq.mp (by kernel_rfl) hS
     ·intro Ep7 w l' hE7 hO7 hF_ hS
      obtain ⟨q3h, q3i, -⟩ := hF_
      replace q3h : Ep7 89 = .bool (!t0.fodd) := Eq.mp (by kernel_rfl) q3h
      replace q3i : Ep7 93 = .pointer (some ⟨q3, 3, none⟩) := Eq.mp (by kernel_rfl) q3i
      replace hS : St w0 w (cells q3 150 [.slice q2 t0.frows.length c_t0_0, .bool t0.flast.fneg, .slice q0c t0.flast.fmag.length c_t0_2, .bool t0.fodd, .int .i64 t0.frank] :: l') := Eq.mp (by kernel_rfl) hS
      refine o_store1 (v := .bool (!t0.fodd)) one_4 q3i q3h rfl rfl hS (fun w' hS => ?_)
      refine x_done <| ?_
      refine x_fin ⟨⟨undef, rfl⟩, trivial, ?_⟩
      exact Eq.mp (by kernel_rfl) hS
    intro Ep7 w' hE7 hF_ hS
    obtain ⟨q4n, q4o, q4p, q4u, q4v, q4q, q4r, q4s, q4w, q4t, q2r, q2s, q3d, q3f, q2t, q2u, q2v, q2z, q2w, q2x, q2y, q30, q31, q1e, q32, q33, q34, q35, q36, q37, q1f, q38, q39, q3a, q3b, q3h, q3c, q3e, q3g, q3i, -⟩ := hF_
    replace q4n : Ep7 54 = .pointer (some ⟨q3, 0, none⟩) := Eq.mp (by kernel_rfl) q4n
    replace q4o : Ep7 55 = .pointer (some ⟨q3, 0, none⟩) := Eq.mp (by kernel_rfl) q4o
    replace q4p : Ep7 56 = .pointer (some ⟨q3, 0, none⟩) := Eq.mp (by kernel_rfl) q4p
    replace q4u : Ep7 57 = .slice q2 t0.frows.length c_t0_0 := Eq.mp (by kernel_rfl) q4u
    replace q4v : Ep7 58 = .int .i64 q0w := Eq.mp (by kernel_rfl) q4v
    replace q4q : Ep7 59 = .pointer (some ⟨q3, 0, none⟩) := Eq.mp (by kernel_rfl) q4q
    replace q4r : Ep7 60 = .pointer (some ⟨q3, 0, none⟩) := Eq.mp (by kernel_rfl) q4r
    replace q4s : Ep7 61 = .pointer (some ⟨q3, 0, none⟩) := Eq.mp (by kernel_rfl) q4s
    replace q4w : Ep7 62 = .slice q2 t0.frows.length c_t0_0 := Eq.mp (by kernel_rfl) q4w
    replace q4t : Ep7 63 = .pointer (some ⟨q3, 0, none⟩) := Eq.mp (by kernel_rfl) q4t
    replace q2r : Ep7 64 = .pointer (some ⟨q3, 0, none⟩) := Eq.mp (by kernel_rfl) q2r
    replace q2s : Ep7 65 = .pointer (some ⟨q3, 4, none⟩) := Eq.mp (by kernel_rfl) q2s
    replace q3d : Ep7 66 = .int .i64 t0.frank := Eq.mp (by kernel_rfl) q3d
    replace q3f : Ep7 67 = .pointer (some ⟨q3, 0, none⟩) := Eq.mp (by kernel_rfl) q3f
    replace q2t : Ep7 68 = .pointer (some ⟨q3, 0, none⟩) := Eq.mp (by kernel_rfl) q2t
    replace q2u : Ep7 69 = .pointer (some ⟨q3, 0, none⟩) := Eq.mp (by kernel_rfl) q2u
    replace q2v : Ep7 70 = .pointer (some ⟨q3, 0, none⟩) := Eq.mp (by kernel_rfl) q2v
    replace q2z : Ep7 71 = .slice q2 t0.frows.length c_t0_0 := Eq.mp (by kernel_rfl) q2z
    replace q2w : Ep7 72 = .pointer (some ⟨q3, 0, none⟩) := Eq.mp (by kernel_rfl) q2w
    replace q2x : Ep7 73 = .pointer (some ⟨q3, 0, none⟩) := Eq.mp (by kernel_rfl) q2x
    replace q2y : Ep7 74 = .pointer (some ⟨q3, 4, none⟩) := Eq.mp (by kernel_rfl) q2y
    replace q30 : Ep7 75 = .int .i64 t0.frank := Eq.mp (by kernel_rfl) q30
    replace q31 : Ep7 76 = .pointer (some ((adr q2).add (t0.frank.toNat * (RpSl R_exact_Int).sz))) := Eq.mp (by kernel_rfl) q31
    replace q1e : Ep7 77 = .slice (adOf (Ep7 77)) q1b.length (capOf (Ep7 77)) ∧ RdS R_exact_Int ρ (adOf (Ep7 77)) q1b.length (capOf (Ep7 77)) q1b := Eq.mp (by kernel_rfl) q1e
    have q_ := id q1e; obtain ⟨-, q6i⟩ := q_
    replace q32 : Ep7 78 = .pointer (some ⟨q3, 0, none⟩) := Eq.mp (by kernel_rfl) q32
    replace q33 : Ep7 79 = .pointer (some ⟨q3, 0, none⟩) := Eq.mp (by kernel_rfl) q33
    replace q34 : Ep7 80 = .pointer (some ⟨q3, 0, none⟩) := Eq.mp (by kernel_rfl) q34
    replace q35 : Ep7 81 = .slice q2 t0.frows.length c_t0_0 := Eq.mp (by kernel_rfl) q35
    replace q36 : Ep7 82 = .int .i64 q0w := Eq.mp (by kernel_rfl) q36
    replace q37 : Ep7 83 = .pointer (some ((adr q2).add (q0w.toNat * (RpSl R_exact_Int).sz))) := Eq.mp (by kernel_rfl) q37
    replace q1f : Ep7 84 = .slice (adOf (Ep7 84)) q1c.length (capOf (Ep7 84)) ∧ RdS R_exact_Int ρ (adOf (Ep7 84)) q1c.length (capOf (Ep7 84)) q1c := Eq.mp (by kernel_rfl) q1f
    have q_ := id q1f; obtain ⟨-, q6j⟩ := q_
    replace q38 : Ep7 85 = .pointer (some ⟨q3, 0, none⟩) := Eq.mp (by kernel_rfl) q38
    replace q39 : Ep7 86 = .pointer (some ⟨q3, 0, none⟩) := Eq.mp (by kernel_rfl) q39
    replace q3a : Ep7 87 = .pointer (some ⟨q3, 3, none⟩) := Eq.mp (by kernel_rfl) q3a
    replace q3b : Ep7 88 = .bool t0.fodd := Eq.mp (by kernel_rfl) q3b
    replace q3h : Ep7 89 = .bool (!t0.fodd) := Eq.mp (by kernel_rfl) q3h
    replace q3c : Ep7 90 = .pointer (some ((adr q2).add (q0w.toNat * (RpSl R_exact_Int).sz))) := Eq.mp (by kernel_rfl) q3c
    replace q3e : Ep7 91 = .pointer (some ((adr q2).add (t0.frank.toNat * (RpSl R_exact_Int).sz))) := Eq.mp (by kernel_rfl) q3e
    replace q3g : Ep7 92 = .pointer (some ⟨q3, 0, none⟩) := Eq.mp (by kernel_rfl) q3g
    replace q3i : Ep7 93 = .pointer (some ⟨q3, 3, none⟩) := Eq.mp (by kernel_rfl) q3i
    replace hS : St w0 w' (ro ρ :: bunA (fun (q0u : List Value) => RepL (RpSl R_exact_Int) ρ q5b q0u) (fun (q0u : List Value) => [vec 155 (RpSl R_exact_Int).sz (.slice q2 t0.frows.length c_t0_0) t0.frows.length q0u]) :: cells q3 150 [.slice q2 t0.frows.length c_t0_0, .bool t0.flast.fneg, .slice q0c t0.flast.fmag.length c_t0_2, .bool (!t0.fodd), .int .i64 t0.frank] :: (l)) := Eq.mp (by kernel_rfl) hS
    have q_ := St.unbun (hS.pull 1); obtain ⟨q0u, q5f, hS⟩ := q_
    exact x_inv ⟨q0u, q5b, !t0.fodd, (Option.some.inj (show some _ = some _ from hFc53)), ((hE7 0 rfl).trans q19), ((hE7 1 rfl).trans q7h), ((hE7 2 rfl).trans q7i), q5f, (((hS.pull 1).pull 1).pull 2)⟩
   ·replace hFc53 := it_f hc53 hFc53
    refine x_skip <| ?_
    exact x_inv ⟨q0t, t0.frows, t0.fodd, (Option.some.inj (show some _ = some _ from hFc53)), q19, q7h, q7i, q16, (((hS.pull 2).pull 2).pull 2)⟩
  rintro E w ⟨q1a, q1r, q0i, rfl, q4c, q8j, q8k, q1v, hS⟩
  replace hF := ck_s hF; obtain ⟨q7j, hF⟩ := hF
  replace hF := lv_s hF; obtain ⟨q1h, q9d, hF⟩ := hF
  have q_ := q1v.get q7j; obtain ⟨qab, q7k, q9e⟩ := q_
  rw [← q9d] at q7k
  obtain ⟨q17, qad, q1w, rfl, q42⟩ := q7k
  have e_ := q42.n; subst e_
  refine x_seq <| x_still mixed (by kernel_rfl) hS <| q (yl_move q4c) <| q (yl_nilCheck rfl) <|
   q (yl_field0 fld_150_0 rfl) <| qa (fun w' hS => at_load one_148 rfl (hS.cell rfl)) <| q (yl_move q4c) <| q (yl_nilCheck rfl) <|
   q (yl_field0 fld_150_3 rfl) <| qa (fun w' hS => at_load one_3 rfl (hS.cell rfl)) <| q (yix_o sl_148 rfl rfl (hS.pull 1) q1v q7j) <| qa (fun w' hS => at_load one_155 rfl (EltV.ld (m := 0) q9e (hS.pull 1) rfl)) <|
   q (yl_assign rfl) <|
   q_done fun w' hS => ?_
  refine x_seq <| x_seq <| x_region <| p (yl_move q4c) <|
   p (yl_nilCheck rfl) <| p (yl_field0 fld_150_0 rfl) <| pa (at_load one_148 rfl (hS.cell rfl)) <| p (yl_len_slice usl_148 rfl) <|
   p (yl_move rfl) <| x_done <| ?_
  replace hF := bd_s hF; obtain ⟨oL10, hLL10, hF⟩ := hF
  refine x_join (fun E w => ∃ (q4d : Heap) (q1d : List Value) (q2e : List (List T_exact_Int)), q2e = oL10 ∧ Le ρ q4d ∧ E 0 = .pointer (some ⟨q3, 0, none⟩) ∧ E 1 = .int .i64 c1 ∧ E 8 = .slice q17 q1h.length q1w ∧ RepL (RpSl R_exact_Int) q4d q2e q1d ∧ St w0 w (cells q3 150 [.slice q2 t0.frows.length c_t0_0, .bool t0.flast.fneg, .slice q0c t0.flast.fmag.length c_t0_2, .bool q0i, .int .i64 t0.frank] :: vec 155 (RpSl R_exact_Int).sz (.slice q2 t0.frows.length c_t0_0) t0.frows.length q1d :: ro q4d :: l)) ?_ ?_
  ·refine x_block ?_
   refine x_loop (fun k_ E w => ∃ (q0q : Heap) (q0m : List Value) (q1l : List (List T_exact_Int)) (q7 : Int), lp (P_exact_table_pivot_L10 t0 c1 all2 q1h) k_ (q1l, q7) = some oL10 ∧ Le ρ q0q ∧ E 0 = .pointer (some ⟨q3, 0, none⟩) ∧ E 1 = .int .i64 c1 ∧ E 2 = .bool all2 ∧ E 8 = .slice q17 q1h.length q1w ∧ E 107 = .slice q2 t0.frows.length c_t0_0 ∧ E 108 = .int .i64 (t0.frows.length : Int) ∧ E 109 = .int .i64 q7 ∧ RepL (RpSl R_exact_Int) q0q q1l q0m ∧ St w0 w (cells q3 150 [.slice q2 t0.frows.length c_t0_0, .bool t0.flast.fneg, .slice q0c t0.flast.fmag.length c_t0_2, .bool q0i, .int .i64 t0.frank] :: vec 155 (RpSl R_exact_Int).sz (.slice q2 t0.frows.length c_t0_0) t0.frows.length q0m :: ro q0q :: l)) fuel ⟨ρ, q1a, q1r, 0, hLL10, (Le.refl _), q4c, q8j, q8k, rfl, rfl, rfl, rfl, q1v, (((hS.pull 2).pull 2).pull 2)⟩ ?_
   rintro kL10 E w ⟨q0q, q0m, q1l, q7, hLL10, q0x, q25, q4x, q4y, q4z, q2o, q2p, q1m, q13, hS⟩
   replace hLL10 := lp_s hLL10; obtain ⟨kL10, obL10, rfl, hFL10, hLL10⟩ := hLL10
   refine x_seq <| x_region <| p (yl_lss q1m q2p) <| x_done <|
    x_seq <|
    x_cond_p (q7 < (t0.frows.length : Int)) rfl (fun hc110 => ?_) (fun hc110 => ?_)
   ·replace hFL10 := it_t hc110 hFL10
    refine x_skip <| x_seq <| ?_
    replace hFL10 := bd_s hFL10; obtain ⟨ob3, hFb3, hFL10⟩ := hFL10
    refine x_join (fun E w => ∃ (q5g : Heap) (q1s : List Value) (q3j : List (List T_exact_Int)), q3j = ob3 ∧ Le q0q q5g ∧ E 0 = .pointer (some ⟨q3, 0, none⟩) ∧ E 1 = .int .i64 c1 ∧ E 2 = .bool all2 ∧ E 8 = .slice q17 q1h.length q1w ∧ E 107 = .slice q2 t0.frows.length c_t0_0 ∧ E 108 = .int .i64 (t0.frows.length : Int) ∧ E 109 = .int .i64 q7 ∧ RepL (RpSl R_exact_Int) q5g q3j q1s ∧ St w0 w (cells q3 150 [.slice q2 t0.frows.length c_t0_0, .bool t0.flast.fneg, .slice q0c t0.flast.fmag.length c_t0_2, .bool q0i, .int .i64 t0.frank] :: vec 155 (RpSl R_exact_Int).sz (.slice q2 t0.frows.length c_t0_0) t0.frows.length q1s :: ro q5g :: l)) ?_ ?_
    ·replace hFb3 := ck_s hFb3; obtain ⟨q6k, hFb3⟩ := hFb3
     replace hFb3 := lv_s hFb3; obtain ⟨q1i, q8l, hFb3⟩ := hFb3
     have q_ := q13.get q6k; obtain ⟨qa0, q6l, q8m⟩ := q_
     rw [← q8l] at q6l
     obtain ⟨q18, qac, q2f, rfl, q4e⟩ := q6l
     have e_ := q4e.n; subst e_
     replace hFb3 := lv_s hFb3; obtain ⟨x130, hx130, hFb3⟩ := hFb3
     replace hFb3 := lv_s hFb3; obtain ⟨x131, hx131, hFb3⟩ := hFb3
     refine x_block <| x_seq <| x_region <| p (yl_move q1m) <|
      p (yix_o sl_148 q2o q1m (hS.pull 1) q13 q6k) <| pa (at_load one_155 rfl (EltV.ld (m := 0) q8m (hS.pull 1) rfl)) <| p (yl_assign rfl) <| p (yl_assign rfl) <|
      x_done <| x_seq <| x_seq <| x_region <|
      p (yl_move rfl) <| p (yl_move q25) <| p (yl_nilCheck rfl) <| p (yl_field0 fld_150_3 rfl) <|
      pa (at_load one_3 rfl (hS.cell rfl)) <| p (yl_eql rfl rfl) <| p (yl_move rfl) <| pg (v := .int .i64 q7) 120 (c := !(decide (q7 = t0.frank))) (says_f _) (fun hq => Yl.at (yl_move rfl)) <|
      pg (v := .pointer (some ⟨q3, 0, none⟩)) 120 (c := !(decide (q7 = t0.frank))) (says_f _) (fun hq => Yl.at (yl_move q25)) <| pg (v := .pointer (some ⟨q3, 0, none⟩)) 120 (c := !(decide (q7 = t0.frank))) (says_f _) (fun hq => Yl.at (yl_nilCheck (cv hq))) <| pg (v := .pointer (some ⟨q3, 4, none⟩)) 120 (c := !(decide (q7 = t0.frank))) (says_f _) (fun hq => Yl.at (yl_field0 fld_150_3 (cv hq))) <| pg (v := .int .i64 t0.frank) 120 (c := !(decide (q7 = t0.frank))) (says_f _) (fun hq => at_load one_3 (cv hq) (hS.cell rfl)) <|
      pg (v := .bool (decide (q7 < t0.frank))) 120 (c := !(decide (q7 = t0.frank))) (says_f _) (fun hq => Yl.at (yl_lss (cv hq) (cv hq))) <| pg (v := .bool (decide (q7 < t0.frank))) 120 (c := !(decide (q7 = t0.frank))) (says_f _) (fun hq => Yl.at (yl_move (cv hq))) <| pg (v := .bool all2) 127 (c := (!(decide (q7 = t0.frank))) && (decide (q7 < t0.frank))) (says_ift _ _) (fun hq => Yl.at (yl_move q4y)) <| pg (v := .bool (!all2)) 127 (c := (!(decide (q7 = t0.frank))) && (decide (q7 < t0.frank))) (says_ift _ _) (fun hq => Yl.at (yl_not (cv hq))) <|
      pg (v := .bool x130) 120 (c := !(decide (q7 = t0.frank))) (says_f _) (fun hq => Yl.at (yand' (cv hq) (fun hc => (cv (and_i hq hc))) rfl hx130)) <| p (yor' rfl rfl (fun hc => (cv (t_not hc))) hx131) <| x_done <|
      x_cond (t := x131) rfl (fun hc131 => ?_) (fun hc131 => ?_)
     ·replace hFb3 := it_t hc131 hFb3
      refine x_exitTo _ rfl <| ?_
      exact x_inv ⟨q0q, q0m, q1l, (Option.some.inj (show some _ = some _ from hFb3)), (Le.refl _), q25, q4x, q4y, q4z, q2o, q2p, q1m, q13, (((hS.pull 2).pull 2).pull 2)⟩
     ·replace hFb3 := it_bf hc131 hFb3
      refine x_skip <| x_seq <| x_region <| p (yl_move rfl) <|
       p (yl_len_slice usl_155 rfl) <| ?_
      replace hFb3 := ck_s hFb3; obtain ⟨q8n, hFb3⟩ := hFb3
      replace hFb3 := lv_s hFb3; obtain ⟨q9, q8o, hFb3⟩ := hFb3
      refine o_mk sl_155 zero_79 (show R_exact_Int.ok q0q _ (T_exact_Int.mk false []) from ⟨_, _, _, rfl, (RdS.nil (A := none) (c := 0))⟩) rfl rfl q8n (by decide) q8o hS (fun A134 cs134 w' hr134 hS => ?_)
      refine p (yl_assign rfl) <| x_done <| x_seq <| x_seq <|
       x_region <| p (yl_move rfl) <| p (yl_len_slice usl_155 rfl) <| p (yl_move rfl) <|
       x_done <| ?_
      replace hFb3 := bd_s hFb3; obtain ⟨oL15, hLL15, hFb3⟩ := hFb3
      refine x_join (fun E w => ∃ (q5c : Heap) (q1p : List Value) (q1t : List T_exact_Int), q1t = oL15 ∧ Le q0q q5c ∧ E 0 = .pointer (some ⟨q3, 0, none⟩) ∧ E 1 = .int .i64 c1 ∧ E 2 = .bool all2 ∧ E 8 = .slice q17 q1h.length q1w ∧ E 9 = .int .i64 q7 ∧ E 11 = .slice A134 q9.length q9.length ∧ E 107 = .slice q2 t0.frows.length c_t0_0 ∧ E 108 = .int .i64 (t0.frows.length : Int) ∧ E 109 = .int .i64 q7 ∧ RepL R_exact_Int q5c q1t q1p ∧ St w0 w (cells q3 150 [.slice q2 t0.frows.length c_t0_0, .bool t0.flast.fneg, .slice q0c t0.flast.fmag.length c_t0_2, .bool q0i, .int .i64 t0.frank] :: vec 79 R_exact_Int.sz (.slice A134 q9.length q9.length) q9.length q1p :: vec 155 (RpSl R_exact_Int).sz (.slice q2 t0.frows.length c_t0_0) t0.frows.length q0m :: ro q5c :: l)) ?_ ?_
      ·refine x_block ?_
       refine x_loop (fun k_ E w => ∃ (q6 : Heap) (q0j : List Value) (q1j : List T_exact_Int) (q0a : Int), lp (P_exact_table_pivot_L15 t0 c1 q1h q1i) k_ (q1j, q0a) = some oL15 ∧ Le q0q q6 ∧ E 0 = .pointer (some ⟨q3, 0, none⟩) ∧ E 1 = .int .i64 c1 ∧ E 2 = .bool all2 ∧ E 8 = .slice q17 q1h.length q1w ∧ E 9 = .int .i64 q7 ∧ E 10 = .slice q18 q1i.length q2f ∧ E 11 = .slice A134 q9.length q9.length ∧ E 107 = .slice q2 t0.frows.length c_t0_0 ∧ E 108 = .int .i64 (t0.frows.length : Int) ∧ E 109 = .int .i64 q7 ∧ E 136 = .int .i64 (q1i.length : Int) ∧ E 137 = .int .i64 q0a ∧ RepL R_exact_Int q6 q1j q0j ∧ St w0 w (cells q3 150 [.slice q2 t0.frows.length c_t0_0, .bool t0.flast.fneg, .slice q0c t0.flast.fmag.length c_t0_2, .bool q0i, .int .i64 t0.frank] :: vec 79 R_exact_Int.sz (.slice A134 q9.length q9.length) q9.length q0j :: vec 155 (RpSl R_exact_Int).sz (.slice q2 t0.frows.length c_t0_0) t0.frows.length q0m :: ro q6 :: l)) fuel ⟨q0q, cs134, q9, 0, hLL15, (Le.refl _), q25, q4x, q4y, q4z, rfl, rfl, rfl, q2o, q2p, q1m, rfl, rfl, hr134, ((((hS.pull 3).pull 3).pull 2).pull 3)⟩ ?_
       rintro kL15 E w ⟨q6, q0j, q1j, q0a, hLL15, q0g, q50, q3k, q5r, q3l, q5s, q43, q44, q55, q56, q57, q58, q2q, q1q, hS⟩
       replace hLL15 := lp_s hLL15; obtain ⟨kL15, obL15, rfl, hFL15, hLL15⟩ := hLL15
       refine x_seq <| x_region <| p (yl_lss q2q q58) <| x_done <|
        x_seq <|
        x_cond_p (q0a < (q1i.length : Int)) rfl (fun hc138 => ?_) (fun hc138 => ?_)
       ·replace hFL15 := it_t hc138 hFL15
        refine x_skip <| x_seq <| x_block <| x_seq <|
         x_region <| p (yl_move q2q) <| p (yl_assign rfl) <| x_done <|
         x_seq <| ?_
        replace hFL15 := ck_s hFL15; obtain ⟨q6m, hFL15⟩ := hFL15
        replace hFL15 := lv_s hFL15; obtain ⟨q14, q8p, hFL15⟩ := hFL15
        replace hFL15 := ck_s hFL15; obtain ⟨q6n, hFL15⟩ := hFL15
        replace hFL15 := lv_s hFL15; obtain ⟨q15, q8q, hFL15⟩ := hFL15
        replace hFL15 := bd_s hFL15; obtain ⟨q0v, q8r, hFL15⟩ := hFL15
        replace hFL15 := ck_s hFL15; obtain ⟨q5t, hFL15⟩ := hFL15
        replace hFL15 := lv_s hFL15; obtain ⟨q0y, q7q, hFL15⟩ := hFL15
        replace hFL15 := ck_s hFL15; obtain ⟨q5u, hFL15⟩ := hFL15
        replace hFL15 := lv_s hFL15; obtain ⟨q0z, q7r, hFL15⟩ := hFL15
        replace hFL15 := bd_s hFL15; obtain ⟨q0d, q7s, hFL15⟩ := hFL15
        replace hFL15 := bd_s hFL15; obtain ⟨q0o, q7t, hFL15⟩ := hFL15
        replace hFL15 := bd_s hFL15; obtain ⟨q0b, q7u, hFL15⟩ := hFL15
        refine x_par (w0 := w0) [⟨[], [], [140], [], [], []⟩, ⟨[], [], [141], [], [], []⟩, ⟨[0, 1], [0, 1], [142], [0], [], []⟩, ⟨[0, 1, 2], [2], [143], [0], [], []⟩, ⟨[], [], [144], [], [], []⟩, ⟨[], [], [145], [], [], []⟩, ⟨[4, 5], [4, 5], [146], [0], [], []⟩, ⟨[4, 5, 6], [6], [147], [0], [], []⟩, ⟨[0, 1, 2, 3, 4, 5, 6, 7], [3, 7], [148], [0], [], [1]⟩, ⟨[], [], [149], [], [], []⟩, ⟨[], [], [150], [], [], []⟩, ⟨[9, 10], [9, 10], [151], [0], [], []⟩, ⟨[9, 10, 11], [11], [152], [0], [], []⟩, ⟨[], [], [153], [], [], []⟩, ⟨[], [], [154], [], [], []⟩, ⟨[13, 14], [13, 14], [155], [0], [], []⟩, ⟨[13, 14, 15], [15], [156], [0], [], []⟩, ⟨[0, 1, 2, 3, 4, 5, 6, 7, 8, 9, 10, 11, 12, 13, 14, 15, 16], [12, 16], [157], [0], [], [2]⟩, ⟨[0, 1, 2, 3, 4, 5, 6, 7, 8, 9, 10, 11, 12, 13, 14, 15, 16, 17], [17], [158], [0], [2], [3]⟩, ⟨[0, 1, 2, 3, 4, 5, 6, 7, 8, 9, 10, 11, 12, 13, 14, 15, 16, 17, 18], [8, 17, 18], [159], [0], [1, 3], [4]⟩, ⟨[], [], [13], [], [], [5]⟩, ⟨[0, 1, 2, 3, 4, 5, 6, 7, 8, 9, 10, 11, 12, 13, 14, 15, 16, 17, 18, 19, 20], [19, 20], [], [], [5], [6]⟩] [⟨none, none, []⟩, ⟨(some 8), (some 19), [148]⟩, ⟨(some 17), (some 18), [157]⟩, ⟨(some 18), (some 19), [157, 158]⟩, ⟨(some 19), none, [148, 157, 158, 159]⟩, ⟨(some 20), (some 21), [13]⟩, ⟨(some 21), none, [13, 159]⟩] [13, 140, 141, 142, 143, 144, 145, 146, 147, 148, 149, 150, 151, 152, 153, 154, 155, 156, 157, 158, 159] [0] [0, 4, 6] [0, 1, 2, 3, 4, 5, 6, 7, 8, 9, 10, 11, 12, 13, 14, 15, 16, 17, 18, 19, 20] [fun Ep17 => Ep17 140 = .slice q17 q1h.length q1w, fun Ep17 => Ep17 141 = .int .i64 c1, fun Ep17 => Ep17 142 = .pointer (some ((adr q17).add (c1.toNat * R_exact_Int.sz))), fun Ep17 => Ep17 143 = .agg #[.bool q14.fneg, .slice (adOf (partOf 1 (Ep17 143))) q14.fmag.length (capOf (partOf 1 (Ep17 143)))] ∧ RdS (RpI .u32) ρ (adOf (partOf 1 (Ep17 143))) q14.fmag.length (capOf (partOf 1 (Ep17 143))) q14.fmag, fun Ep17 => Ep17 144 = .slice q18 q1i.length q2f, fun Ep17 => Ep17 145 = .int .i64 q0a, fun Ep17 => Ep17 146 = .pointer (some ((adr q18).add (q0a.toNat * R_exact_Int.sz))), fun Ep17 => Ep17 147 = .agg #[.bool q15.fneg, .slice (adOf (partOf 1 (Ep17 147))) q15.fmag.length (capOf (partOf 1 (Ep17 147)))] ∧ RdS (RpI .u32) q0q (adOf (partOf 1 (Ep17 147))) q15.fmag.length (capOf (partOf 1 (Ep17 147))) q15.fmag, fun Ep17 => Ep17 148 = .agg #[.bool q0v.fneg, .slice (adOf (partOf 1 (Ep17 148))) q0v.fmag.length (capOf (partOf 1 (Ep17 148)))], fun Ep17 => Ep17 149 = .slice q18 q1i.length q2f, fun Ep17 => Ep17 150 = .int .i64 c1, fun Ep17 => Ep17 151 = .pointer (some ((adr q18).add (c1.toNat * R_exact_Int.sz))), fun Ep17 => Ep17 152 = .agg #[.bool q0y.fneg, .slice (adOf (partOf 1 (Ep17 152))) q0y.fmag.length (capOf (partOf 1 (Ep17 152)))] ∧ RdS (RpI .u32) q0q (adOf (partOf 1 (Ep17 152))) q0y.fmag.length (capOf (partOf 1 (Ep17 152))) q0y.fmag, fun Ep17 => Ep17 153 = .slice q17 q1h.length q1w, fun Ep17 => Ep17 154 = .int .i64 q0a, fun Ep17 => Ep17 155 = .pointer (some ((adr q17).add (q0a.toNat * R_exact_Int.sz))), fun Ep17 => Ep17 156 = .agg #[.bool q0z.fneg, .slice (adOf (partOf 1 (Ep17 156))) q0z.fmag.length (capOf (partOf 1 (Ep17 156)))] ∧ RdS (RpI .u32) ρ (adOf (partOf 1 (Ep17 156))) q0z.fmag.length (capOf (partOf 1 (Ep17 156))) q0z.fmag, fun Ep17 => Ep17 157 = .agg #[.bool q0d.fneg, .slice (adOf (partOf 1 (Ep17 157))) q0d.fmag.length (capOf (partOf 1 (Ep17 157)))], fun Ep17 => Ep17 158 = .agg #[.bool q0o.fneg, .slice (adOf (partOf 1 (Ep17 158))) q0o.fmag.length (capOf (partOf 1 (Ep17 158)))], fun Ep17 => Ep17 159 = .agg #[.bool q0b.fneg, .slice (adOf (partOf 1 (Ep17 159))) q0b.fmag.length (capOf (partOf 1 (Ep17 159)))], fun Ep17 => Ep17 13 = .pointer (some ⟨(blkOf (Ep17 13)), 0, none⟩), fun Ep17 => True] [fun Ep17 => ro q6, fun Ep17 => bunA (fun (q0k : Heap) => Le q6 q0k ∧ RdS (RpI .u32) q0k (adOf (partOf 1 (Ep17 148))) q0v.fmag.length (capOf (partOf 1 (Ep17 148))) q0v.fmag) (fun (q0k : Heap) => [roD q6 q0k]), fun Ep17 => bunA (fun (q5 : Heap) => Le q6 q5 ∧ RdS (RpI .u32) q5 (adOf (partOf 1 (Ep17 157))) q0d.fmag.length (capOf (partOf 1 (Ep17 157))) q0d.fmag) (fun (q5 : Heap) => [roD q6 q5]), fun Ep17 => bunA (fun (q5 : Heap) => Le q6 q5 ∧ RdS (RpI .u32) q5 (adOf (partOf 1 (Ep17 157))) q0d.fmag.length (capOf (partOf 1 (Ep17 157))) q0d.fmag ∧ RdS (RpI .u32) q5 (adOf (partOf 1 (Ep17 158))) q0o.fmag.length (capOf (partOf 1 (Ep17 158))) q0o.fmag) (fun (q5 : Heap) => [roD q6 q5]), fun Ep17 => bunA (fun (q8 : Heap) => Le q6 q8 ∧ RdS (RpI .u32) q8 (adOf (partOf 1 (Ep17 148))) q0v.fmag.length (capOf (partOf 1 (Ep17 148))) q0v.fmag ∧ RdS (RpI .u32) q8 (adOf (partOf 1 (Ep17 157))) q0d.fmag.length (capOf (partOf 1 (Ep17 157))) q0d.fmag ∧ RdS (RpI .u32) q8 (adOf (partOf 1 (Ep17 158))) q0o.fmag.length (capOf (partOf 1 (Ep17 158))) q0o.fmag ∧ RdS (RpI .u32) q8 (adOf (partOf 1 (Ep17 159))) q0b.fmag.length (capOf (partOf 1 (Ep17 159))) q0b.fmag) (fun (q8 : Heap) => [roD q6 q8]), fun Ep17 => cells (blkOf (Ep17 13)) 79 [.bool false, .slice none 0 0], fun Ep17 => cells (blkOf (Ep17 13)) 79 [.bool q0b.fneg, .slice (adOf (partOf 1 (Ep17 159))) q0b.fmag.length (capOf (partOf 1 (Ep17 159)))]] mixed (by kernel_rfl) (hS.pull 3) ?_ ?_
        ·refine ⟨?_, ?_, ?_, ?_, ?_, ?_, ?_, ?_, ?_, ?_, ?_, ?_, ?_, ?_, ?_, ?_, ?_, ?_, ?_, ?_, ?_, ?_, trivial⟩
         ·intro Ep17 w l' hE17 hO17 hF_ hS
          refine p (yl_move ((hE17 8 rfl).trans q3l)) <| x_done <| ?_
          refine x_fin ⟨⟨_, rfl⟩, rfl, ?_⟩
          exact Eq.mp (by kernel_rfl) hS
         ·intro Ep17 w l' hE17 hO17 hF_ hS
          refine p (yl_move ((hE17 1 rfl).trans q3k)) <| x_done <| ?_
          refine x_fin ⟨⟨_, rfl⟩, rfl, ?_⟩
          exact Eq.mp (by kernel_rfl) hS
         ·intro Ep17 w l' hE17 hO17 hF_ hS
          obtain ⟨q3m, q3n, -⟩ := hF_
          replace q3m : Ep17 140 = .slice q17 q1h.length q1w := Eq.mp (by kernel_rfl) q3m
          replace q3n : Ep17 141 = .int .i64 c1 := Eq.mp (by kernel_rfl) q3n
          replace hS : St w0 w (ro q6 :: l') := Eq.mp (by kernel_rfl) hS
          refine p (yix_f sl_155 q3m q3n (q42.le (q0x.trans q0g)) q6m) <| x_done <| ?_
          refine x_fin ⟨⟨_, rfl⟩, rfl, ?_⟩
          exact Eq.mp (by kernel_rfl) hS
         ·intro Ep17 w l' hE17 hO17 hF_ hS
          obtain ⟨q3o, -⟩ := hF_
          replace q3o : Ep17 142 = .pointer (some ((adr q17).add (c1.toNat * R_exact_Int.sz))) := Eq.mp (by kernel_rfl) q3o
          replace hS : St w0 w (ro q6 :: l') := Eq.mp (by kernel_rfl) hS
          have q_ := q42.get q6m; obtain ⟨qa1, q6o, q8s⟩ := q_
          rw [← q8p] at q6o
          obtain ⟨q7v, q9r, q7w, rfl, q5v⟩ := q6o
          have e_ := q5v.n; subst e_
          refine pa (v := .agg #[.bool q14.fneg, .slice q7v q14.fmag.length q7w]) (at_loadAgg agg_79 q3o rfl (Elt.every (Elt.le q8s (q0x.trans q0g)) hS)) <| x_done <| ?_
          refine x_fin ⟨⟨_, rfl⟩, ⟨rfl, q5v⟩, ?_⟩
          exact Eq.mp (by kernel_rfl) hS
         ·intro Ep17 w l' hE17 hO17 hF_ hS
          refine p (yl_move ((hE17 10 rfl).trans q43)) <| x_done <| ?_
          refine x_fin ⟨⟨_, rfl⟩, rfl, ?_⟩
          exact Eq.mp (by kernel_rfl) hS
         ·intro Ep17 w l' hE17 hO17 hF_ hS
          refine p (yl_move (hE17 12 rfl)) <| x_done <| ?_
          refine x_fin ⟨⟨_, rfl⟩, rfl, ?_⟩
          exact Eq.mp (by kernel_rfl) hS
         ·intro Ep17 w l' hE17 hO17 hF_ hS
          obtain ⟨q3p, q3q, -⟩ := hF_
          replace q3p : Ep17 144 = .slice q18 q1i.length q2f := Eq.mp (by kernel_rfl) q3p
          replace q3q : Ep17 145 = .int .i64 q0a := Eq.mp (by kernel_rfl) q3q
          replace hS : St w0 w (ro q6 :: l') := Eq.mp (by kernel_rfl) hS
          refine p (yix_f sl_155 q3p q3q (q4e.le q0g) q6n) <| x_done <| ?_
          refine x_fin ⟨⟨_, rfl⟩, rfl, ?_⟩
          exact Eq.mp (by kernel_rfl) hS
         ·intro Ep17 w l' hE17 hO17 hF_ hS
          obtain ⟨q3r, -⟩ := hF_
          replace q3r : Ep17 146 = .pointer (some ((adr q18).add (q0a.toNat * R_exact_Int.sz))) := Eq.mp (by kernel_rfl) q3r
          replace hS : St w0 w (ro q6 :: l') := Eq.mp (by kernel_rfl) hS
          have q_ := q4e.get q6n; obtain ⟨qa2, q6p, q8t⟩ := q_
          rw [← q8q] at q6p
          obtain ⟨q7x, q9s, q7y, rfl, q5w⟩ := q6p
          have e_ := q5w.n; subst e_
          refine pa (v := .agg #[.bool q15.fneg, .slice q7x q15.fmag.length q7y]) (at_loadAgg agg_79 q3r rfl (Elt.every (Elt.le q8t q0g) hS)) <| x_done <| ?_
          refine x_fin ⟨⟨_, rfl⟩, ⟨rfl, q5w⟩, ?_⟩
          exact Eq.mp (by kernel_rfl) hS
         ·intro Ep17 w l' hE17 hO17 hF_ hS
          obtain ⟨q20, q21, -⟩ := hF_
          replace q20 : Ep17 143 = .agg #[.bool q14.fneg, .slice (adOf (partOf 1 (Ep17 143))) q14.fmag.length (capOf (partOf 1 (Ep17 143)))] ∧ RdS (RpI .u32) ρ (adOf (partOf 1 (Ep17 143))) q14.fmag.length (capOf (partOf 1 (Ep17 143))) q14.fmag := Eq.mp (by kernel_rfl) q20
          have q_ := id q20; obtain ⟨-, q6q⟩ := q_
          replace q21 : Ep17 147 = .agg #[.bool q15.fneg, .slice (adOf (partOf 1 (Ep17 147))) q15.fmag.length (capOf (partOf 1 (Ep17 147)))] ∧ RdS (RpI .u32) q0q (adOf (partOf 1 (Ep17 147))) q15.fmag.length (capOf (partOf 1 (Ep17 147))) q15.fmag := Eq.mp (by kernel_rfl) q21
          have q_ := id q21; obtain ⟨-, q6r⟩ := q_
          replace hS : St w0 w (ro q6 :: l') := Eq.mp (by kernel_rfl) hS
          have hcall := c_exact_times q8r (q6q.le (q0x.trans q0g)) (q6r.le q0g) hS
          refine o_cc call_89 (args2 q20.1 q21.1) hcall ?_
          rintro e w' ⟨q0k, q4f, q7l, c_y0_ret_1_17_8, rfl, q5x, q0r, hS⟩
          refine ⟨_, rfl, ?_⟩
          have e_ := q0r.n; subst e_
          refine x_done <| ?_
          refine x_fin ⟨⟨_, rfl⟩, rfl, ?_⟩
          replace hS := St.ro_split q5x hS
          replace hS := St.bun (Φ := (fun (q0k : Heap) => Le q6 q0k ∧ RdS (RpI .u32) q0k q4f q0v.fmag.length c_y0_ret_1_17_8 q0v.fmag)) (L := (fun (q0k : Heap) => [roD q6 q0k])) q0k ⟨q5x, q0r⟩ (hS.pull 1)
          exact Eq.mp (by kernel_rfl) (hS.pull 1)
         ·intro Ep17 w l' hE17 hO17 hF_ hS
          refine p (yl_move ((hE17 10 rfl).trans q43)) <| x_done <| ?_
          refine x_fin ⟨⟨_, rfl⟩, rfl, ?_⟩
          exact Eq.mp (by kernel_rfl) hS
         ·intro Ep17 w l' hE17 hO17 hF_ hS
          refine p (yl_move ((hE17 1 rfl).trans q3k)) <| x_done <| ?_
          refine x_fin ⟨⟨_, rfl⟩, rfl, ?_⟩
          exact Eq.mp (by kernel_rfl) hS
         ·intro Ep17 w l' hE17 hO17 hF_ hS
          obtain ⟨q3s, q26, -⟩ := hF_
          replace q3s : Ep17 149 = .slice q18 q1i.length q2f := Eq.mp (by kernel_rfl) q3s
          replace q26 : Ep17 150 = .int .i64 c1 := Eq.mp (by kernel_rfl) q26
          replace hS : St w0 w (ro q6 :: l') := Eq.mp (by kernel_rfl) hS
          refine p (yix_f sl_155 q3s q26 (q4e.le q0g) q5t) <| x_done <| ?_
          refine x_fin ⟨⟨_, rfl⟩, rfl, ?_⟩
          exact Eq.mp (by kernel_rfl) hS
         ·intro Ep17 w l' hE17 hO17 hF_ hS
          obtain ⟨q27, -⟩ := hF_
          replace q27 : Ep17 151 = .pointer (some ((adr q18).add (c1.toNat * R_exact_Int.sz))) := Eq.mp (by kernel_rfl) q27
          replace hS : St w0 w (ro q6 :: l') := Eq.mp (by kernel_rfl) hS
          have q_ := q4e.get q5t; obtain ⟨q9t, q5y, q7z⟩ := q_
          rw [← q7q] at q5y
          obtain ⟨q71, q9o, q72, rfl, q5h⟩ := q5y
          have e_ := q5h.n; subst e_
          refine pa (v := .agg #[.bool q0y.fneg, .slice q71 q0y.fmag.length q72]) (at_loadAgg agg_79 q27 rfl (Elt.every (Elt.le q7z q0g) hS)) <| x_done <| ?_
          refine x_fin ⟨⟨_, rfl⟩, ⟨rfl, q5h⟩, ?_⟩
          exact Eq.mp (by kernel_rfl) hS
         ·intro Ep17 w l' hE17 hO17 hF_ hS
          refine p (yl_move ((hE17 8 rfl).trans q3l)) <| x_done <| ?_
          refine x_fin ⟨⟨_, rfl⟩, rfl, ?_⟩
          exact Eq.mp (by kernel_rfl) hS
         ·intro Ep17 w l' hE17 hO17 hF_ hS
          refine p (yl_move (hE17 12 rfl)) <| x_done <| ?_
          refine x_fin ⟨⟨_, rfl⟩, rfl, ?_⟩
          exact Eq.mp (by kernel_rfl) hS
         ·intro Ep17 w l' hE17 hO17 hF_ hS
          obtain ⟨q28, q29, -⟩ := hF_
          replace q28 : Ep17 153 = .slice q17 q1h.length q1w := Eq.mp (by kernel_rfl) q28
          replace q29 : Ep17 154 = .int .i64 q0a := Eq.mp (by kernel_rfl) q29
          replace hS : St w0 w (ro q6 :: l') := Eq.mp (by kernel_rfl) hS
          refine p (yix_f sl_155 q28 q29 (q42.le (q0x.trans q0g)) q5u) <| x_done <| ?_
          refine x_fin ⟨⟨_, rfl⟩, rfl, ?_⟩
          exact Eq.mp (by kernel_rfl) hS
         ·intro Ep17 w l' hE17 hO17 hF_ hS
          obtain ⟨q2a, -⟩ := hF_
          replace q2a : Ep17 155 = .pointer (some ((adr q17).add (q0a.toNat * R_exact_Int.sz))) := Eq.mp (by kernel_rfl) q2a
          replace hS : St w0 w (ro q6 :: l') := Eq.mp (by kernel_rfl) hS
          have q_ := q42.get q5u; obtain ⟨q9u, q5z, q80⟩ := q_
          rw [← q7r] at q5z
          obtain ⟨q73, q9p, q74, rfl, q5i⟩ := q5z
          have e_ := q5i.n; subst e_
          refine pa (v := .agg #[.bool q0z.fneg, .slice q73 q0z.fmag.length q74]) (at_loadAgg agg_79 q2a rfl (Elt.every (Elt.le q80 (q0x.trans q0g)) hS)) <| x_done <| ?_
          refine x_fin ⟨⟨_, rfl⟩, ⟨rfl, q5i⟩, ?_⟩
          exact Eq.mp (by kernel_rfl) hS
         ·intro Ep17 w l' hE17 hO17 hF_ hS
          obtain ⟨q1n, q1o, -⟩ := hF_
          replace q1n : Ep17 152 = .agg #[.bool q0y.fneg, .slice (adOf (partOf 1 (Ep17 152))) q0y.fmag.length (capOf (partOf 1 (Ep17 152)))] ∧ RdS (RpI .u32) q0q (adOf (partOf 1 (Ep17 152))) q0y.fmag.length (capOf (partOf 1 (Ep17 152))) q0y.fmag := Eq.mp (by kernel_rfl) q1n
          have q_ := id q1n; obtain ⟨-, q60⟩ := q_
          replace q1o : Ep17 156 = .agg #[.bool q0z.fneg, .slice (adOf (partOf 1 (Ep17 156))) q0z.fmag.length (capOf (partOf 1 (Ep17 156)))] ∧ RdS (RpI .u32) ρ (adOf (partOf 1 (Ep17 156))) q0z.fmag.length (capOf (partOf 1 (Ep17 156))) q0z.fmag := Eq.mp (by kernel_rfl) q1o
          have q_ := id q1o; obtain ⟨-, q61⟩ := q_
          replace hS : St w0 w (ro q6 :: l') := Eq.mp (by kernel_rfl) hS
          have hcall := c_exact_times q7s (q60.le q0g) (q61.le (q0x.trans q0g)) hS
          refine o_cc call_89 (args2 q1n.1 q1o.1) hcall ?_
          rintro e w' ⟨q5, q45, q75, c_y0_ret_1_17_17, rfl, q5j, q0h, hS⟩
          refine ⟨_, rfl, ?_⟩
          have e_ := q0h.n; subst e_
          refine x_done <| ?_
          refine x_fin ⟨⟨_, rfl⟩, rfl, ?_⟩
          replace hS := St.ro_split q5j hS
          replace hS := St.bun (Φ := (fun (q5 : Heap) => Le q6 q5 ∧ RdS (RpI .u32) q5 q45 q0d.fmag.length c_y0_ret_1_17_17 q0d.fmag)) (L := (fun (q5 : Heap) => [roD q6 q5])) q5 ⟨q5j, q0h⟩ (hS.pull 1)
          exact Eq.mp (by kernel_rfl) (hS.pull 1)
         ·intro Ep17 w l' hE17 hO17 hF_ hS
          obtain ⟨q1g, -⟩ := hF_
          replace q1g : Ep17 157 = .agg #[.bool q0d.fneg, .slice (adOf (partOf 1 (Ep17 157))) q0d.fmag.length (capOf (partOf 1 (Ep17 157)))] := Eq.mp (by kernel_rfl) q1g
          replace hS : St w0 w (ro q6 :: bunA (fun (q5 : Heap) => Le q6 q5 ∧ RdS (RpI .u32) q5 (adOf (partOf 1 (Ep17 157))) q0d.fmag.length (capOf (partOf 1 (Ep17 157))) q0d.fmag) (fun (q5 : Heap) => [roD q6 q5]) :: l') := Eq.mp (by kernel_rfl) hS
          have q_ := St.unbun (hS.pull 1); obtain ⟨q5, ⟨q1x, q0h⟩, hS⟩ := q_
          have q_ := St.ro_join (hS.pull 1) (Le.refl _) q1x; obtain ⟨q6s, q4g, q4h, hS, q97⟩ := q_
          have hcall := c_exact_Neg q7t (q0h.le q4h) hS
          refine o_cc call_43 (args1 q1g) hcall ?_
          rintro e w' ⟨q46, q76, c_y0_ret_1_17_18, rfl, q0p, hS⟩
          refine ⟨_, rfl, ?_⟩
          have e_ := q0p.n; subst e_
          refine x_done <| ?_
          refine x_fin ⟨⟨_, rfl⟩, rfl, ?_⟩
          replace hS := St.ro_split q4g hS
          replace hS := St.bun (Φ := (fun (q5 : Heap) => Le q6 q5 ∧ RdS (RpI .u32) q5 (adOf (partOf 1 (Ep17 157))) q0d.fmag.length (capOf (partOf 1 (Ep17 157))) q0d.fmag ∧ RdS (RpI .u32) q5 q46 q0o.fmag.length c_y0_ret_1_17_18 q0o.fmag)) (L := (fun (q5 : Heap) => [roD q6 q5])) q6s ⟨q4g, (q0h.le q4h), q0p⟩ (hS.pull 1)
          exact Eq.mp (by kernel_rfl) (hS.pull 1)
         ·intro Ep17 w l' hE17 hO17 hF_ hS
          obtain ⟨q3t, q1g, q2b, -⟩ := hF_
          replace q3t : Ep17 148 = .agg #[.bool q0v.fneg, .slice (adOf (partOf 1 (Ep17 148))) q0v.fmag.length (capOf (partOf 1 (Ep17 148)))] := Eq.mp (by kernel_rfl) q3t
          replace q1g : Ep17 157 = .agg #[.bool q0d.fneg, .slice (adOf (partOf 1 (Ep17 157))) q0d.fmag.length (capOf (partOf 1 (Ep17 157)))] := Eq.mp (by kernel_rfl) q1g
          replace q2b : Ep17 158 = .agg #[.bool q0o.fneg, .slice (adOf (partOf 1 (Ep17 158))) q0o.fmag.length (capOf (partOf 1 (Ep17 158)))] := Eq.mp (by kernel_rfl) q2b
          replace hS : St w0 w (ro q6 :: bunA (fun (q0k : Heap) => Le q6 q0k ∧ RdS (RpI .u32) q0k (adOf (partOf 1 (Ep17 148))) q0v.fmag.length (capOf (partOf 1 (Ep17 148))) q0v.fmag) (fun (q0k : Heap) => [roD q6 q0k]) :: bunA (fun (q5 : Heap) => Le q6 q5 ∧ RdS (RpI .u32) q5 (adOf (partOf 1 (Ep17 157))) q0d.fmag.length (capOf (partOf 1 (Ep17 157))) q0d.fmag ∧ RdS (RpI .u32) q5 (adOf (partOf 1 (Ep17 158))) q0o.fmag.length (capOf (partOf 1 (Ep17 158))) q0o.fmag) (fun (q5 : Heap) => [roD q6 q5]) :: l') := Eq.mp (by kernel_rfl) hS
          have q_ := St.unbun (hS.pull 1); obtain ⟨q0k, ⟨q5p, q0r⟩, hS⟩ := q_
          have q_ := St.ro_join (hS.pull 1) (Le.refl _) q5p; obtain ⟨q9k, q2g, q4i, hS, q98⟩ := q_
          have q_ := St.unbun (hS.pull 1); obtain ⟨q5, ⟨q1x, q0h, q0p⟩, hS⟩ := q_
          have q_ := St.ro_join (hS.pull 1) q2g q1x; obtain ⟨q9l, q1u, q2h, hS, q99⟩ := q_
          have hcall := c_exact_plus q7u (q0r.le (q4i.trans q1u)) (q0p.le q2h) hS
          refine o_cc call_96 (args2 q3t q2b) hcall ?_
          rintro e w' ⟨q8, q47, q77, c_y0_ret_1_17_19, rfl, q1y, q11, hS⟩
          refine ⟨_, rfl, ?_⟩
          have e_ := q11.n; subst e_
          refine x_done <| ?_
          refine x_fin ⟨⟨_, rfl⟩, rfl, ?_⟩
          replace hS := St.ro_split ((q2g.trans q1u).trans q1y) hS
          replace hS := St.bun (Φ := (fun (q8 : Heap) => Le q6 q8 ∧ RdS (RpI .u32) q8 (adOf (partOf 1 (Ep17 148))) q0v.fmag.length (capOf (partOf 1 (Ep17 148))) q0v.fmag ∧ RdS (RpI .u32) q8 (adOf (partOf 1 (Ep17 157))) q0d.fmag.length (capOf (partOf 1 (Ep17 157))) q0d.fmag ∧ RdS (RpI .u32) q8 (adOf (partOf 1 (Ep17 158))) q0o.fmag.length (capOf (partOf 1 (Ep17 158))) q0o.fmag ∧ RdS (RpI .u32) q8 q47 q0b.fmag.length c_y0_ret_1_17_19 q0b.fmag)) (L := (fun (q8 : Heap) => [roD q6 q8])) q8 ⟨((q2g.trans q1u).trans q1y), (q0r.le ((q4i.trans q1u).trans q1y)), (q0h.le (q2h.trans q1y)), (q0p.le (q2h.trans q1y)), q11⟩ (hS.pull 1)
          exact Eq.mp (by kernel_rfl) (hS.pull 1)
         ·intro Ep17 w l' hE17 hO17 hF_ hS
          refine o_alloc zero_79 hS (fun b13 w' hS => ?_)
          refine x_done <| ?_
          refine x_fin ⟨⟨_, rfl⟩, rfl, ?_⟩
          exact Eq.mp (by kernel_rfl) hS
         ·intro Ep17 w l' hE17 hO17 hF_ hS
          obtain ⟨q2c, q1z, -⟩ := hF_
          replace q2c : Ep17 159 = .agg #[.bool q0b.fneg, .slice (adOf (partOf 1 (Ep17 159))) q0b.fmag.length (capOf (partOf 1 (Ep17 159)))] := Eq.mp (by kernel_rfl) q2c
          replace q1z : Ep17 13 = .pointer (some ⟨(blkOf (Ep17 13)), 0, none⟩) := Eq.mp (by kernel_rfl) q1z
          replace hS : St w0 w (cells (blkOf (Ep17 13)) 79 [.bool false, .slice none 0 0] :: l') := Eq.mp (by kernel_rfl) hS
          refine o_storeAgg (news := [.bool q0b.fneg, .slice (adOf (partOf 1 (Ep17 159))) q0b.fmag.length (capOf (partOf 1 (Ep17 159)))]) agg_79 q1z q2c rfl (by simp [over_length]) hS (fun w' hS => ?_)
          refine x_done <| ?_
          refine x_fin ⟨⟨undef, rfl⟩, trivial, ?_⟩
          exact Eq.mp (by kernel_rfl) hS
        intro Ep17 w' hE17 hF_ hS
        obtain ⟨q3m, q3n, q3o, q20, q3p, q3q, q3r, q21, q3t, q3s, q26, q27, q1n, q28, q29, q2a, q1o, q1g, q2b, q2c, q1z, -⟩ := hF_
        replace q3m : Ep17 140 = .slice q17 q1h.length q1w := Eq.mp (by kernel_rfl) q3m
        replace q3n : Ep17 141 = .int .i64 c1 := Eq.mp (by kernel_rfl) q3n
        replace q3o : Ep17 142 = .pointer (some ((adr q17).add (c1.toNat * R_exact_Int.sz))) := Eq.mp (by kernel_rfl) q3o
        replace q20 : Ep17 143 = .agg #[.bool q14.fneg, .slice (adOf (partOf 1 (Ep17 143))) q14.fmag.length (capOf (partOf 1 (Ep17 143)))] ∧ RdS (RpI .u32) ρ (adOf (partOf 1 (Ep17 143))) q14.fmag.length (capOf (partOf 1 (Ep17 143))) q14.fmag := Eq.mp (by kernel_rfl) q20
        have q_ := id q20; obtain ⟨-, q6q⟩ := q_
        replace q3p : Ep17 144 = .slice q18 q1i.length q2f := Eq.mp (by kernel_rfl) q3p
        replace q3q : Ep17 145 = .int .i64 q0a := Eq.mp (by kernel_rfl) q3q
        replace q3r : Ep17 146 = .pointer (some ((adr q18).add (q0a.toNat * R_exact_Int.sz))) := Eq.mp (by kernel_rfl) q3r
        replace q21 : Ep17 147 = .agg #[.bool q15.fneg, .slice (adOf (partOf 1 (Ep17 147))) q15.fmag.length (capOf (partOf 1 (Ep17 147)))] ∧ RdS (RpI .u32) q0q (adOf (partOf 1 (Ep17 147))) q15.fmag.length (capOf (partOf 1 (Ep17 147))) q15.fmag := Eq.mp (by kernel_rfl) q21
        have q_ := id q21; obtain ⟨-, q6r⟩ := q_
        replace q3t : Ep17 148 = .agg #[.bool q0v.fneg, .slice (adOf (partOf 1 (Ep17 148))) q0v.fmag.length (capOf (partOf 1 (Ep17 148)))] := Eq.mp (by kernel_rfl) q3t
        replace q3s : Ep17 149 = .slice q18 q1i.length q2f := Eq.mp (by kernel_rfl) q3s
        replace q26 : Ep17 150 = .int .i64 c1 := Eq.mp (by kernel_rfl) q26
        replace q27 : Ep17 151 = .pointer (some ((adr q18).add (c1.toNat * R_exact_Int.sz))) := Eq.mp (by kernel_rfl) q27
        replace q1n : Ep17 152 = .agg #[.bool q0y.fneg, .slice (adOf (partOf 1 (Ep17 152))) q0y.fmag.length (capOf (partOf 1 (Ep17 152)))] ∧ RdS (RpI .u32) q0q (adOf (partOf 1 (Ep17 152))) q0y.fmag.length (capOf (partOf 1 (Ep17 152))) q0y.fmag := Eq.mp (by kernel_rfl) q1n
        have q_ := id q1n; obtain ⟨-, q60⟩ := q_
        replace q28 : Ep17 153 = .slice q17 q1h.length q1w := Eq.mp (by kernel_rfl) q28
        replace q29 : Ep17 154 = .int .i64 q0a := Eq.mp (by kernel_rfl) q29
        replace q2a : Ep17 155 = .pointer (some ((adr q17).add (q0a.toNat * R_exact_Int.sz))) := Eq.mp (by kernel_rfl) q2a
        replace q1o : Ep17 156 = .agg #[.bool q0z.fneg, .slice (adOf (partOf 1 (Ep17 156))) q0z.fmag.length (capOf (partOf 1 (Ep17 156)))] ∧ RdS (RpI .u32) ρ (adOf (partOf 1 (Ep17 156))) q0z.fmag.length (capOf (partOf 1 (Ep17 156))) q0z.fmag := Eq.mp (by kernel_rfl) q1o
        have q_ := id q1o; obtain ⟨-, q61⟩ := q_
        replace q1g : Ep17 157 = .agg #[.bool q0d.fneg, .slice (adOf (partOf 1 (Ep17 157))) q0d.fmag.length (capOf (partOf 1 (Ep17 157)))] := Eq.mp (by kernel_rfl) q1g
        replace q2b : Ep17 158 = .agg #[.bool q0o.fneg, .slice (adOf (partOf 1 (Ep17 158))) q0o.fmag.length (capOf (partOf 1 (Ep17 158)))] := Eq.mp (by kernel_rfl) q2b
        replace q2c : Ep17 159 = .agg #[.bool q0b.fneg, .slice (adOf (partOf 1 (Ep17 159))) q0b.fmag.length (capOf (partOf 1 (Ep17 159)))] := Eq.mp (by kernel_rfl) q2c
        replace q1z : Ep17 13 = .pointer (some ⟨(blkOf (Ep17 13)), 0, none⟩) := Eq.mp (by kernel_rfl) q1z
        replace hS : St w0 w' (ro q6 :: bunA (fun (q8 : Heap) => Le q6 q8 ∧ RdS (RpI .u32) q8 (adOf (partOf 1 (Ep17 148))) q0v.fmag.length (capOf (partOf 1 (Ep17 148))) q0v.fmag ∧ RdS (RpI .u32) q8 (adOf (partOf 1 (Ep17 157))) q0d.fmag.length (capOf (partOf 1 (Ep17 157))) q0d.fmag ∧ RdS (RpI .u32) q8 (adOf (partOf 1 (Ep17 158))) q0o.fmag.length (capOf (partOf 1 (Ep17 158))) q0o.fmag ∧ RdS (RpI .u32) q8 (adOf (partOf 1 (Ep17 159))) q0b.fmag.length (capOf (partOf 1 (Ep17 159))) q0b.fmag) (fun (q8 : Heap) => [roD q6 q8]) :: cells (blkOf (Ep17 13)) 79 [.bool q0b.fneg, .slice (adOf (partOf 1 (Ep17 159))) q0b.fmag.length (capOf (partOf 1 (Ep17 159)))] :: (cells q3 150 [.slice q2 t0.frows.length c_t0_0, .bool t0.flast.fneg, .slice q0c t0.flast.fmag.length c_t0_2, .bool q0i, .int .i64 t0.frank] :: vec 79 R_exact_Int.sz (.slice A134 q9.length q9.length) q9.length q0j :: vec 155 (RpSl R_exact_Int).sz (.slice q2 t0.frows.length c_t0_0) t0.frows.length q0m :: l)) := Eq.mp (by kernel_rfl) hS
        have q_ := St.unbun (hS.pull 1); obtain ⟨q8, ⟨q5k, q0r, q0h, q0p, q11⟩, hS⟩ := q_
        have q_ := St.ro_join (hS.pull 1) (Le.refl _) q5k; obtain ⟨q0n, q48, q78, hS, q9m⟩ := q_
        replace hFL15 := bd_s hFL15; obtain ⟨q4, q8u, hFL15⟩ := hFL15
        replace hFL15 := ck_s hFL15; obtain ⟨q62, hFL15⟩ := hFL15
        replace hFL15 := lv_s hFL15; obtain ⟨q4j, q81, hFL15⟩ := hFL15
        refine x_par (w0 := w0) [⟨[], [], [161], [], [], []⟩, ⟨[], [], [162], [], [], []⟩, ⟨[], [], [163], [0], [], []⟩, ⟨[], [], [164], [], [], []⟩, ⟨[3], [3], [165], [], [], []⟩, ⟨[3, 4], [4], [166], [], [], []⟩, ⟨[3, 4, 5], [5], [167], [1], [], []⟩, ⟨[2, 3, 4, 5, 6], [2, 6], [168], [2], [], [3]⟩, ⟨[2, 3, 4, 5, 6, 7], [7], [160, 168], [], [], []⟩, ⟨[2, 3, 4, 5, 6, 7, 8], [7, 8], [168, 169], [], [], []⟩, ⟨[2, 3, 4, 5, 6, 7, 8], [7, 8], [168, 170], [], [], []⟩, ⟨[0, 1, 2, 3, 4, 5, 6, 7, 8, 9], [0, 1], [171], [4], [], []⟩, ⟨[0, 1, 2, 3, 4, 5, 6, 7, 8, 9, 11], [7, 9, 11], [], [2], [4, 3], [5]⟩] [⟨none, none, []⟩, ⟨none, none, []⟩, ⟨none, none, []⟩, ⟨(some 7), (some 12), [168]⟩, ⟨none, (some 12), []⟩, ⟨(some 12), none, [168]⟩] [160, 161, 162, 163, 164, 165, 166, 167, 168, 169, 170, 171] [0, 1, 2, 4] [0, 1, 2, 5] [0, 1, 2, 3, 4, 5, 6, 7, 8, 9, 10, 11] [fun Ep18 => Ep18 161 = .slice A134 q9.length q9.length, fun Ep18 => Ep18 162 = .int .i64 q0a, fun Ep18 => Ep18 163 = .agg #[.bool q0b.fneg, .slice (adOf (partOf 1 (Ep17 159))) q0b.fmag.length (capOf (partOf 1 (Ep17 159)))], fun Ep18 => Ep18 164 = .pointer (some ⟨q3, 0, none⟩), fun Ep18 => Ep18 165 = .pointer (some ⟨q3, 0, none⟩), fun Ep18 => Ep18 166 = .pointer (some ⟨q3, 1, none⟩), fun Ep18 => Ep18 167 = .agg #[.bool t0.flast.fneg, .slice q0c t0.flast.fmag.length c_t0_2], fun Ep18 => Ep18 168 = .tuple #[.agg #[.bool q4.1.fneg, .slice (adOf (partOf 1 (partOf 0 (Ep18 168)))) q4.1.fmag.length (capOf (partOf 1 (partOf 0 (Ep18 168))))], .agg #[.bool q4.2.fneg, .slice (adOf (partOf 1 (partOf 1 (Ep18 168)))) q4.2.fmag.length (capOf (partOf 1 (partOf 1 (Ep18 168))))]], fun Ep18 => Ep18 160 = .tuple #[.agg #[.bool q4.1.fneg, .slice (adOf (partOf 1 (partOf 0 (Ep18 168)))) q4.1.fmag.length (capOf (partOf 1 (partOf 0 (Ep18 168))))], .agg #[.bool q4.2.fneg, .slice (adOf (partOf 1 (partOf 1 (Ep18 168)))) q4.2.fmag.length (capOf (partOf 1 (partOf 1 (Ep18 168))))]], fun Ep18 => Ep18 169 = .agg #[.bool q4.1.fneg, .slice (adOf (partOf 1 (partOf 0 (Ep18 168)))) q4.1.fmag.length (capOf (partOf 1 (partOf 0 (Ep18 168))))], fun Ep18 => Ep18 170 = .agg #[.bool q4.2.fneg, .slice (adOf (partOf 1 (partOf 1 (Ep18 168)))) q4.2.fmag.length (capOf (partOf 1 (partOf 1 (Ep18 168))))], fun Ep18 => Ep18 171 = .pointer (some ((adr A134).add (q0a.toNat * R_exact_Int.sz))), fun Ep18 => True] [fun Ep18 => cells (blkOf (Ep17 13)) 79 [.bool q0b.fneg, .slice (adOf (partOf 1 (Ep17 159))) q0b.fmag.length (capOf (partOf 1 (Ep17 159)))], fun Ep18 => cells q3 150 [.slice q2 t0.frows.length c_t0_0, .bool t0.flast.fneg, .slice q0c t0.flast.fmag.length c_t0_2, .bool q0i, .int .i64 t0.frank], fun Ep18 => ro q0n, fun Ep18 => bunA (fun (q0e : Heap) => Le q0n q0e ∧ RdS (RpI .u32) q0e (adOf (partOf 1 (partOf 0 (Ep18 168)))) q4.1.fmag.length (capOf (partOf 1 (partOf 0 (Ep18 168)))) q4.1.fmag ∧ RdS (RpI .u32) q0e (adOf (partOf 1 (partOf 1 (Ep18 168)))) q4.2.fmag.length (capOf (partOf 1 (partOf 1 (Ep18 168)))) q4.2.fmag) (fun (q0e : Heap) => [roD q0n q0e]), fun Ep18 => vec 79 R_exact_Int.sz (.slice A134 q9.length q9.length) q9.length q0j, fun Ep18 => bunA (fun (x : (Heap × List Value)) => Le q0n x.1 ∧ RdS (RpI .u32) x.1 (adOf (partOf 1 (partOf 0 (Ep18 168)))) q4.1.fmag.length (capOf (partOf 1 (partOf 0 (Ep18 168)))) q4.1.fmag ∧ RdS (RpI .u32) x.1 (adOf (partOf 1 (partOf 1 (Ep18 168)))) q4.2.fmag.length (capOf (partOf 1 (partOf 1 (Ep18 168)))) q4.2.fmag ∧ RepL R_exact_Int x.1 q4j x.2) (fun (x : (Heap × List Value)) => [vec 79 R_exact_Int.sz (.slice A134 q9.length q9.length) q9.length x.2, roD q0n x.1])] mixed (by kernel_rfl) ((((hS.pull 3).pull 1).pull 3).pull 3) ?_ ?_
        ·refine ⟨?_, ?_, ?_, ?_, ?_, ?_, ?_, ?_, ?_, ?_, ?_, ?_, ?_, trivial⟩
         ·intro Ep18 w l' hE18 hO18 hF_ hS
          refine p (yl_move ((hE18 11 rfl).trans ((hE17 11 rfl).trans q44))) <| x_done <| ?_
          refine x_fin ⟨⟨_, rfl⟩, rfl, ?_⟩
          exact Eq.mp (by kernel_rfl) hS
         ·intro Ep18 w l' hE18 hO18 hF_ hS
          refine p (yl_move ((hE18 12 rfl).trans (hE17 12 rfl))) <| x_done <| ?_
          refine x_fin ⟨⟨_, rfl⟩, rfl, ?_⟩
          exact Eq.mp (by kernel_rfl) hS
         ·intro Ep18 w l' hE18 hO18 hF_ hS
          replace hS : St w0 w (cells (blkOf (Ep17 13)) 79 [.bool q0b.fneg, .slice (adOf (partOf 1 (Ep17 159))) q0b.fmag.length (capOf (partOf 1 (Ep17 159)))] :: l') := Eq.mp (by kernel_rfl) hS
          refine pa (v := .agg #[.bool q0b.fneg, .slice (adOf (partOf 1 (Ep17 159))) q0b.fmag.length (capOf (partOf 1 (Ep17 159)))]) (ld_sub agg_79 ((hE18 13 rfl).trans q1z) rfl rfl hS) <| x_done <| ?_
          refine x_fin ⟨⟨_, rfl⟩, rfl, ?_⟩
          exact Eq.mp (by kernel_rfl) hS
         ·intro Ep18 w l' hE18 hO18 hF_ hS
          refine p (yl_move ((hE18 0 rfl).trans ((hE17 0 rfl).trans q50))) <| x_done <| ?_
          refine x_fin ⟨⟨_, rfl⟩, rfl, ?_⟩
          exact Eq.mp (by kernel_rfl) hS
         ·intro Ep18 w l' hE18 hO18 hF_ hS
          obtain ⟨q3u, -⟩ := hF_
          replace q3u : Ep18 164 = .pointer (some ⟨q3, 0, none⟩) := Eq.mp (by kernel_rfl) q3u
          refine p (yl_nilCheck q3u) <| x_done <| ?_
          refine x_fin ⟨⟨_, rfl⟩, rfl, ?_⟩
          exact Eq.mp (by kernel_rfl) hS
         ·intro Ep18 w l' hE18 hO18 hF_ hS
          obtain ⟨q3v, -⟩ := hF_
          replace q3v : Ep18 165 = .pointer (some ⟨q3, 0, none⟩) := Eq.mp (by kernel_rfl) q3v
          refine p (yl_field0 fld_150_1 q3v) <| x_done <| ?_
          refine x_fin ⟨⟨_, rfl⟩, rfl, ?_⟩
          exact Eq.mp (by kernel_rfl) hS
         ·intro Ep18 w l' hE18 hO18 hF_ hS
          obtain ⟨q3w, -⟩ := hF_
          replace q3w : Ep18 166 = .pointer (some ⟨q3, 1, none⟩) := Eq.mp (by kernel_rfl) q3w
          replace hS : St w0 w (cells q3 150 [.slice q2 t0.frows.length c_t0_0, .bool t0.flast.fneg, .slice q0c t0.flast.fmag.length c_t0_2, .bool q0i, .int .i64 t0.frank] :: l') := Eq.mp (by kernel_rfl) hS
          refine pa (v := .agg #[.bool t0.flast.fneg, .slice q0c t0.flast.fmag.length c_t0_2]) (ld_sub agg_79 q3w rfl rfl hS) <| x_done <| ?_
          refine x_fin ⟨⟨_, rfl⟩, rfl, ?_⟩
          exact Eq.mp (by kernel_rfl) hS
         ·intro Ep18 w l' hE18 hO18 hF_ hS
          obtain ⟨q3x, q3y, -⟩ := hF_
          replace q3x : Ep18 163 = .agg #[.bool q0b.fneg, .slice (adOf (partOf 1 (Ep17 159))) q0b.fmag.length (capOf (partOf 1 (Ep17 159)))] := Eq.mp (by kernel_rfl) q3x
          replace q3y : Ep18 167 = .agg #[.bool t0.flast.fneg, .slice q0c t0.flast.fmag.length c_t0_2] := Eq.mp (by kernel_rfl) q3y
          replace hS : St w0 w (ro q0n :: l') := Eq.mp (by kernel_rfl) hS
          have hcall := c_exact_split q8u (q11.le q78) (q5d.le ((q0x.trans q0g).trans q48)) hS
          refine o_cc call_103 (args2 q3x q3y) hcall ?_
          rintro e w' ⟨q0e, q4k, q7m, c_y0_ret_1_18_7, q4l, q7n, c_y1_ret_1_18_7, rfl, q63, q0s, q10, hS⟩
          refine ⟨_, rfl, ?_⟩
          have e_ := q0s.n; subst e_
          have e_ := q10.n; subst e_
          refine x_done <| ?_
          refine x_fin ⟨⟨_, rfl⟩, rfl, ?_⟩
          replace hS := St.ro_split q63 hS
          replace hS := St.bun (Φ := (fun (q0e : Heap) => Le q0n q0e ∧ RdS (RpI .u32) q0e q4k q4.1.fmag.length c_y0_ret_1_18_7 q4.1.fmag ∧ RdS (RpI .u32) q0e q4l q4.2.fmag.length c_y1_ret_1_18_7 q4.2.fmag)) (L := (fun (q0e : Heap) => [roD q0n q0e])) q0e ⟨q63, q0s, q10⟩ (hS.pull 1)
          exact Eq.mp (by kernel_rfl) (hS.pull 1)
         ·intro Ep18 w l' hE18 hO18 hF_ hS
          obtain ⟨q12, -⟩ := hF_
          replace q12 : Ep18 168 = .tuple #[.agg #[.bool q4.1.fneg, .slice (adOf (partOf 1 (partOf 0 (Ep18 168)))) q4.1.fmag.length (capOf (partOf 1 (partOf 0 (Ep18 168))))], .agg #[.bool q4.2.fneg, .slice (adOf (partOf 1 (partOf 1 (Ep18 168)))) q4.2.fmag.length (capOf (partOf 1 (partOf 1 (Ep18 168))))]] := Eq.mp (by kernel_rfl) q12
          refine p (yl_move q12) <| x_done <| ?_
          refine x_fin ⟨⟨_, rfl⟩, rfl, ?_⟩
          exact Eq.mp (by kernel_rfl) hS
         ·intro Ep18 w l' hE18 hO18 hF_ hS
          obtain ⟨q12, q1k, -⟩ := hF_
          replace q12 : Ep18 168 = .tuple #[.agg #[.bool q4.1.fneg, .slice (adOf (partOf 1 (partOf 0 (Ep18 168)))) q4.1.fmag.length (capOf (partOf 1 (partOf 0 (Ep18 168))))], .agg #[.bool q4.2.fneg, .slice (adOf (partOf 1 (partOf 1 (Ep18 168)))) q4.2.fmag.length (capOf (partOf 1 (partOf 1 (Ep18 168))))]] := Eq.mp (by kernel_rfl) q12
          replace q1k : Ep18 160 = .tuple #[.agg #[.bool q4.1.fneg, .slice (adOf (partOf 1 (partOf 0 (Ep18 168)))) q4.1.fmag.length (capOf (partOf 1 (partOf 0 (Ep18 168))))], .agg #[.bool q4.2.fneg, .slice (adOf (partOf 1 (partOf 1 (Ep18 168)))) q4.2.fmag.length (capOf (partOf 1 (partOf 1 (Ep18 168))))]] := Eq.mp (by kernel_rfl) q1k
          refine p (yl_extract q1k rfl) <| x_done <| ?_
          refine x_fin ⟨⟨_, rfl⟩, rfl, ?_⟩
          exact Eq.mp (by kernel_rfl) hS
         ·intro Ep18 w l' hE18 hO18 hF_ hS
          obtain ⟨q12, q1k, -⟩ := hF_
          replace q12 : Ep18 168 = .tuple #[.agg #[.bool q4.1.fneg, .slice (adOf (partOf 1 (partOf 0 (Ep18 168)))) q4.1.fmag.length (capOf (partOf 1 (partOf 0 (Ep18 168))))], .agg #[.bool q4.2.fneg, .slice (adOf (partOf 1 (partOf 1 (Ep18 168)))) q4.2.fmag.length (capOf (partOf 1 (partOf 1 (Ep18 168))))]] := Eq.mp (by kernel_rfl) q12
          replace q1k : Ep18 160 = .tuple #[.agg #[.bool q4.1.fneg, .slice (adOf (partOf 1 (partOf 0 (Ep18 168)))) q4.1.fmag.length (capOf (partOf 1 (partOf 0 (Ep18 168))))], .agg #[.bool q4.2.fneg, .slice (adOf (partOf 1 (partOf 1 (Ep18 168)))) q4.2.fmag.length (capOf (partOf 1 (partOf 1 (Ep18 168))))]] := Eq.mp (by kernel_rfl) q1k
          refine p (yl_extract q1k rfl) <| x_done <| ?_
          refine x_fin ⟨⟨_, rfl⟩, rfl, ?_⟩
          exact Eq.mp (by kernel_rfl) hS
         ·intro Ep18 w l' hE18 hO18 hF_ hS
          obtain ⟨q3z, q40, -⟩ := hF_
          replace q3z : Ep18 161 = .slice A134 q9.length q9.length := Eq.mp (by kernel_rfl) q3z
          replace q40 : Ep18 162 = .int .i64 q0a := Eq.mp (by kernel_rfl) q40
          replace hS : St w0 w (vec 79 R_exact_Int.sz (.slice A134 q9.length q9.length) q9.length q0j :: l') := Eq.mp (by kernel_rfl) hS
          refine p (yix_o sl_155 q3z q40 hS q1q q62) <| x_done <| ?_
          refine x_fin ⟨⟨_, rfl⟩, rfl, ?_⟩
          exact Eq.mp (by kernel_rfl) hS
         ·intro Ep18 w l' hE18 hO18 hF_ hS
          obtain ⟨q12, q41, q2d, -⟩ := hF_
          replace q12 : Ep18 168 = .tuple #[.agg #[.bool q4.1.fneg, .slice (adOf (partOf 1 (partOf 0 (Ep18 168)))) q4.1.fmag.length (capOf (partOf 1 (partOf 0 (Ep18 168))))], .agg #[.bool q4.2.fneg, .slice (adOf (partOf 1 (partOf 1 (Ep18 168)))) q4.2.fmag.length (capOf (partOf 1 (partOf 1 (Ep18 168))))]] := Eq.mp (by kernel_rfl) q12
          replace q41 : Ep18 169 = .agg #[.bool q4.1.fneg, .slice (adOf (partOf 1 (partOf 0 (Ep18 168)))) q4.1.fmag.length (capOf (partOf 1 (partOf 0 (Ep18 168))))] := Eq.mp (by kernel_rfl) q41
          replace q2d : Ep18 171 = .pointer (some ((adr A134).add (q0a.toNat * R_exact_Int.sz))) := Eq.mp (by kernel_rfl) q2d
          replace hS : St w0 w (ro q0n :: vec 79 R_exact_Int.sz (.slice A134 q9.length q9.length) q9.length q0j :: bunA (fun (q0e : Heap) => Le q0n q0e ∧ RdS (RpI .u32) q0e (adOf (partOf 1 (partOf 0 (Ep18 168)))) q4.1.fmag.length (capOf (partOf 1 (partOf 0 (Ep18 168)))) q4.1.fmag ∧ RdS (RpI .u32) q0e (adOf (partOf 1 (partOf 1 (Ep18 168)))) q4.2.fmag.length (capOf (partOf 1 (partOf 1 (Ep18 168)))) q4.2.fmag) (fun (q0e : Heap) => [roD q0n q0e]) :: l') := Eq.mp (by kernel_rfl) hS
          have q_ := St.unbun (hS.pull 2); obtain ⟨q0e, ⟨q22, q0s, q10⟩, hS⟩ := q_
          have q_ := St.ro_join (hS.pull 1) (Le.refl _) q22; obtain ⟨q59, q2i, q2j, hS, q9a⟩ := q_
          refine o_put' (news := [.bool q4.1.fneg, .slice (adOf (partOf 1 (partOf 0 (Ep18 168)))) q4.1.fmag.length (capOf (partOf 1 (partOf 0 (Ep18 168))))]) sz_79 q2d q41 rfl rfl (o := 0) rfl q62 rfl (hS.pull 1) q1q (q48.trans q2i) (fun c hc => ok_all hc (show R_exact_Int.ok q59 [.bool q4.1.fneg, .slice (adOf (partOf 1 (partOf 0 (Ep18 168)))) q4.1.fmag.length (capOf (partOf 1 (partOf 0 (Ep18 168))))] q4.1 from ⟨_, _, _, rfl, (q0s.le q2j)⟩)) q81 (fun q51 w' q52 hS => ?_)
          refine x_done <| ?_
          refine x_fin ⟨⟨undef, rfl⟩, trivial, ?_⟩
          replace hS := St.ro_split q2i (hS.pull 1)
          replace hS := St.bun (Φ := (fun (x : (Heap × List Value)) => Le q0n x.1 ∧ RdS (RpI .u32) x.1 (adOf (partOf 1 (partOf 0 (Ep18 168)))) q4.1.fmag.length (capOf (partOf 1 (partOf 0 (Ep18 168)))) q4.1.fmag ∧ RdS (RpI .u32) x.1 (adOf (partOf 1 (partOf 1 (Ep18 168)))) q4.2.fmag.length (capOf (partOf 1 (partOf 1 (Ep18 168)))) q4.2.fmag ∧ RepL R_exact_Int x.1 q4j x.2)) (L := (fun (x : (Heap × List Value)) => [vec 79 R_exact_Int.sz (.slice A134 q9.length q9.length) q9.length x.2, roD q0n x.1])) (q59, q51) ⟨q2i, (q0s.le q2j), (q10.le q2j), q52⟩ ((hS.pull 1).pull 2)
          exact Eq.mp (by kernel_rfl) (hS.pull 1)
        intro Ep18 w' hE18 hF_ hS
        obtain ⟨q3z, q40, q3x, q3u, q3v, q3w, q3y, q12, q1k, q41, q6t, q2d, -⟩ := hF_
        replace q3z : Ep18 161 = .slice A134 q9.length q9.length := Eq.mp (by kernel_rfl) q3z
        replace q40 : Ep18 162 = .int .i64 q0a := Eq.mp (by kernel_rfl) q40
        replace q3x : Ep18 163 = .agg #[.bool q0b.fneg, .slice (adOf (partOf 1 (Ep17 159))) q0b.fmag.length (capOf (partOf 1 (Ep17 159)))] := Eq.mp (by kernel_rfl) q3x
        replace q3u : Ep18 164 = .pointer (some ⟨q3, 0, none⟩) := Eq.mp (by kernel_rfl) q3u
        replace q3v : Ep18 165 = .pointer (some ⟨q3, 0, none⟩) := Eq.mp (by kernel_rfl) q3v
        replace q3w : Ep18 166 = .pointer (some ⟨q3, 1, none⟩) := Eq.mp (by kernel_rfl) q3w
        replace q3y : Ep18 167 = .agg #[.bool t0.flast.fneg, .slice q0c t0.flast.fmag.length c_t0_2] := Eq.mp (by kernel_rfl) q3y
        replace q12 : Ep18 168 = .tuple #[.agg #[.bool q4.1.fneg, .slice (adOf (partOf 1 (partOf 0 (Ep18 168)))) q4.1.fmag.length (capOf (partOf 1 (partOf 0 (Ep18 168))))], .agg #[.bool q4.2.fneg, .slice (adOf (partOf 1 (partOf 1 (Ep18 168)))) q4.2.fmag.length (capOf (partOf 1 (partOf 1 (Ep18 168))))]] := Eq.mp (by kernel_rfl) q12
        replace q1k : Ep18 160 = .tuple #[.agg #[.bool q4.1.fneg, .slice (adOf (partOf 1 (partOf 0 (Ep18 168)))) q4.1.fmag.length (capOf (partOf 1 (partOf 0 (Ep18 168))))], .agg #[.bool q4.2.fneg, .slice (adOf (partOf 1 (partOf 1 (Ep18 168)))) q4.2.fmag.length (capOf (partOf 1 (partOf 1 (Ep18 168))))]] := Eq.mp (by kernel_rfl) q1k
        replace q41 : Ep18 169 = .agg #[.bool q4.1.fneg, .slice (adOf (partOf 1 (partOf 0 (Ep18 168)))) q4.1.fmag.length (capOf (partOf 1 (partOf 0 (Ep18 168))))] := Eq.mp (by kernel_rfl) q41
        replace q6t : Ep18 170 = .agg #[.bool q4.2.fneg, .slice (adOf (partOf 1 (partOf 1 (Ep18 168)))) q4.2.fmag.length (capOf (partOf 1 (partOf 1 (Ep18 168))))] := Eq.mp (by kernel_rfl) q6t
        replace q2d : Ep18 171 = .pointer (some ((adr A134).add (q0a.toNat * R_exact_Int.sz))) := Eq.mp (by kernel_rfl) q2d
        replace hS : St w0 w' (cells (blkOf (Ep17 13)) 79 [.bool q0b.fneg, .slice (adOf (partOf 1 (Ep17 159))) q0b.fmag.length (capOf (partOf 1 (Ep17 159)))] :: cells q3 150 [.slice q2 t0.frows.length c_t0_0, .bool t0.flast.fneg, .slice q0c t0.flast.fmag.length c_t0_2, .bool q0i, .int .i64 t0.frank] :: ro q0n :: bunA (fun (x : (Heap × List Value)) => Le q0n x.1 ∧ RdS (RpI .u32) x.1 (adOf (partOf 1 (partOf 0 (Ep18 168)))) q4.1.fmag.length (capOf (partOf 1 (partOf 0 (Ep18 168)))) q4.1.fmag ∧ RdS (RpI .u32) x.1 (adOf (partOf 1 (partOf 1 (Ep18 168)))) q4.2.fmag.length (capOf (partOf 1 (partOf 1 (Ep18 168)))) q4.2.fmag ∧ RepL R_exact_Int x.1 q4j x.2) (fun (x : (Heap × List Value)) => [vec 79 R_exact_Int.sz (.slice A134 q9.length q9.length) q9.length x.2, roD q0n x.1]) :: (vec 155 (RpSl R_exact_Int).sz (.slice q2 t0.frows.length c_t0_0) t0.frows.length q0m :: l)) := Eq.mp (by kernel_rfl) hS
        have q_ := St.unbun (hS.pull 3); obtain ⟨⟨q0e, q51⟩, ⟨q22, q0s, q10, q52⟩, hS⟩ := q_
        have q_ := St.ro_join ((hS.pull 1).pull 4) (Le.refl _) q22; obtain ⟨q82, q79, q7a, hS, q9n⟩ := q_
        replace hFL15 := ar_s hFL15; obtain ⟨x172, hx172, hFL15⟩ := hFL15
        refine x_blk <| x_region <| p (yadd ((hE18 137 rfl).trans ((hE17 137 rfl).trans q2q)) rfl hx172) <| p (yl_move rfl) <|
         x_done <| ?_
        have e_ := Option.some.inj (show some _ = some _ from hFL15); subst e_
        exact x_inv ⟨kL15, Nat.lt_succ_self _, q82, q51, q4j, x172, hLL15, ((q0g.trans q48).trans q79), ((hE18 0 rfl).trans ((hE17 0 rfl).trans q50)), ((hE18 1 rfl).trans ((hE17 1 rfl).trans q3k)), ((hE18 2 rfl).trans ((hE17 2 rfl).trans q5r)), ((hE18 8 rfl).trans ((hE17 8 rfl).trans q3l)), ((hE18 9 rfl).trans ((hE17 9 rfl).trans q5s)), ((hE18 10 rfl).trans ((hE17 10 rfl).trans q43)), ((hE18 11 rfl).trans ((hE17 11 rfl).trans q44)), ((hE18 107 rfl).trans ((hE17 107 rfl).trans q55)), ((hE18 108 rfl).trans ((hE17 108 rfl).trans q56)), ((hE18 109 rfl).trans ((hE17 109 rfl).trans q57)), ((hE18 136 rfl).trans ((hE17 136 rfl).trans q58)), rfl, (q52.le q7a), ((((hS.pull 2).drop.pull 3).pull 2).pull 3)⟩
       ·replace hFL15 := it_f hc138 hFL15
        refine x_exitTo _ rfl <| ?_
        have e_ := Option.some.inj (show some _ = some _ from hFL15); subst e_
        exact x_inv ⟨q6, q0j, q1j, hLL15, q0g, q50, q3k, q5r, q3l, q5s, q44, q55, q56, q57, q1q, ((((hS.pull 3).pull 3).pull 3).pull 3)⟩
      rintro E w ⟨q5c, q1p, q1t, rfl, q5l, q6u, q8v, q8w, q8x, q8y, q83, q7b, q7c, q7d, q5m, hS⟩
      replace hFb3 := ck_s hFb3; obtain ⟨q6v, hFb3⟩ := hFb3
      refine x_region <| p (yl_move q6u) <| p (yl_nilCheck rfl) <| p (yl_field0 fld_150_0 rfl) <|
       pa (at_load one_148 rfl (hS.cell rfl)) <| p (yl_move q8y) <| p (yl_move q83) <| p (yix_o sl_148 rfl rfl (hS.pull 2) q13 q6v) <| ?_
      have q_ := St.vec_fz ((hS.pull 3).pull 2) q5m; obtain ⟨q6w, q5n, q8z, hS⟩ := q_
      replace hFb3 := lv_s hFb3; obtain ⟨q9f, q90, hFb3⟩ := hFb3
      refine o_put' (news := [.slice A134 q9.length q9.length]) sz_155 rfl rfl rfl rfl (o := 0) rfl q6v rfl (hS.pull 2) q13 (q5l.trans q5n) (fun c hc => ok_all hc (show (RpSl R_exact_Int).ok q6w [.slice A134 q9.length q9.length] q1t from ⟨_, _, _, rfl, q8z⟩)) q90 (fun q91 w' q92 hS => ?_)
      refine x_done <| x_blk <| ?_
      exact x_inv ⟨q6w, q91, q9f, (Option.some.inj (show some _ = some _ from hFb3)), (q5l.trans q5n), q6u, q8v, q8w, q8x, q7b, q7c, q7d, q92, (((hS.pull 1).pull 1).pull 2)⟩
    rintro E w ⟨q5g, q1s, q3j, rfl, q84, q9g, q9h, q9i, q9j, q85, q86, q87, q6x, hS⟩
    replace hFL10 := ar_s hFL10; obtain ⟨x180, hx180, hFL10⟩ := hFL10
    refine x_region <| p (yadd q87 rfl hx180) <| p (yl_move rfl) <| x_done <| ?_
    have e_ := Option.some.inj (show some _ = some _ from hFL10); subst e_
    exact x_inv ⟨kL10, Nat.lt_succ_self _, q5g, q1s, q3j, x180, hLL10, (q0x.trans q84), q9g, q9h, q9i, q9j, q85, q86, rfl, q6x, (((hS.pull 2).pull 2).pull 2)⟩
   ·replace hFL10 := it_f hc110 hFL10
    refine x_exitTo _ rfl <| ?_
    have e_ := Option.some.inj (show some _ = some _ from hFL10); subst e_
    exact x_inv ⟨q0q, q0m, q1l, hLL10, q0x, q25, q4x, q4z, q13, (((hS.pull 2).pull 2).pull 2)⟩
  rintro E w ⟨q4d, q1d, q2e, rfl, q2k, q6y, q93, q94, q5o, hS⟩
  replace hF := ck_s hF; obtain ⟨q6z, hF⟩ := hF
  replace hF := lv_s hF; obtain ⟨q4m, q95, hF⟩ := hF
  have q_ := q42.get q6z; obtain ⟨qa3, q70, q96⟩ := q_
  rw [← q95] at q70
  obtain ⟨q53, q9v, q54, rfl, q64⟩ := q70
  have e_ := q64.n; subst e_
  refine x_seq <| x_region <| p (yl_move q6y) <| p (yl_move q94) <|
   p (yl_move q93) <| p (yix_f sl_155 rfl rfl (q42.le q2k) q6z) <| pa (v := .agg #[.bool q4m.fneg, .slice q53 q4m.fmag.length q54]) (at_loadAgg agg_79 rfl rfl (Elt.every (Elt.le q96 q2k) (hS.pull 2))) <| p (yl_nilCheck rfl) <|
   p (yl_field0 fld_150_1 rfl) <| ?_
  refine o_storeAgg (news := [.bool q4m.fneg, .slice q53 q4m.fmag.length q54]) agg_79 rfl rfl rfl (by simp [over_length]) hS (fun w' hS => ?_)
  replace hF := ar_s hF; obtain ⟨x192, hx192, hF⟩ := hF
  refine x_done <| x_seq <| x_region <| p (yl_move q6y) <|
   p (yl_nilCheck rfl) <| p (yl_field0 fld_150_3 rfl) <| pa (at_load one_3 rfl (hS.cell rfl)) <| p (yadd rfl rfl hx192) <|
   p (yl_nilCheck rfl) <| p (yl_field0 fld_150_3 rfl) <| ?_
  refine o_store1 (v := .int .i64 x192) one_3 rfl rfl rfl rfl hS (fun w' hS => ?_)
  refine x_done <| x_seq <| x_region <| p (yl_assign rfl) <|
   x_done <| ?_
  have e_ := Option.some.inj (show some _ = some _ from hF); subst e_
  exact x_return ⟨_, ⟨_, _, rfl, rfl, rfl⟩, q4d, q1d, q53, q4m.fmag.length, q54, rfl, q2k, q5o, (q64.le q2k), (((hS.pull 2).pull 2).pull 2)⟩
attribute [irreducible] P_exact_table_pivot

def P_exact_Det_L6 (a0 : List (List Int)) : (Int × List (List T_exact_Int) × Bool × List Int × Bool × Int) → Option ((Int × List (List T_exact_Int) × Bool × List Int × Bool × Int) ⊕ ((List (List T_exact_Int) × Bool × List Int × Bool × Int) ⊕ (T_exact_Int × Int))) := fun (q7, q2, q3, q4, q5, q6) =>
 if q7 < (a0.length : Int) then
  bd (P_exact_table_pivot (T_exact_table.mk q2 (T_exact_Int.mk q3 q4) q5 q6) q7 false) fun q8 =>
  if (!q8.1) = true then
   some (Sum.inr (Sum.inr ((T_exact_Int.mk false []), (0 : Int))))
  else
   ar (q7 + 1) fun x25 =>
   some (Sum.inl (x25, q8.2.1, q8.2.2.1, q8.2.2.2.1, q8.2.2.2.2.1, q8.2.2.2.2.2))
 else
  some (Sum.inr (Sum.inl (q2, q3, q4, q5, q6)))
def P_exact_Det (a0 : List (List Int)) : Option (T_exact_Int × Int) :=
 bd (P_exact_square a0) fun q8 =>
 if q8 ≠ 0 then
  some ((T_exact_Int.mk false []), q8)
 else
  bd (P_exact_begin a0 []) fun q7 =>
  bs (
   lp (P_exact_Det_L6 a0) fuel (0, q7.1, q7.2.1, q7.2.2, false, 0)) (fun y => some y) fun (q5, q2, q3, q4, q6) =>
  if q4 = true then
   bd (P_exact_Neg (T_exact_Int.mk q2 q3)) fun q9 =>
   some (q9, (0 : Int))
  else
   some ((T_exact_Int.mk q2 q3), (0 : Int))
set_option maxHeartbeats 4000000 in
set_option maxRecDepth 100000 in
theorem c_exact_Det {w0 w : World} {l : List Assn} {ρ : Heap} {q1o : Option Addr} {q1p : Nat} {c_a0 : Nat} {a0 : List (List Int)} {r : (T_exact_Int × Int)} (hF : P_exact_Det a0 = some r) (q1l : RdS (RpSl (RpI .i64)) ρ q1o q1p c_a0 a0) (hS : St w0 w (ro ρ :: l)) :
  Calls Try.prog 37 #[.slice q1o q1p c_a0] w fun e w' => ∃ (ρ' : Heap) (q13 : Option Addr) (q14 : Nat) (c_y0_ret_1 : Nat), e = .returned (.tuple #[.agg #[.bool r.1.fneg, .slice q13 q14 c_y0_ret_1], .int .i64 r.2]) ∧ Le ρ ρ' ∧ RdS (RpI .u32) ρ' q13 q14 c_y0_ret_1 r.1.fmag ∧ St w0 w' (ro ρ' :: l) := by
 have e_ := q1l.n; subst e_
 refine enterC Try.func37 rfl 39 rfl (by simp) ?_
 refine x_seq <| x_region <| ?_
 refine o_alloc zero_79 hS (fun b2 w' hS => ?_)
 replace hF := bd_s hF; obtain ⟨q18, q1r, hF⟩ := hF
 refine p (yl_assign rfl) <| x_done <| x_seq <| x_seq <|
  x_region <| p (yl_move rfl) <| ?_
 have hcall := c_exact_square q1r q1l (hS.pull 1)
 refine o_cc call_85 (args1 rfl) ((Calls.mono hcall (fun e w'' h => And.intro h.1 (h.2.pull 1)))) ?_
 rintro e w' ⟨rfl, hS⟩
 refine ⟨_, rfl, ?_⟩
 refine p (v := .int .i64 q18) (yl_assign rfl) <| x_done <| x_seq <| x_region <|
  p (v := .int .i64 q18) (yl_move rfl) <| p (yl_neq rfl rfl) <| x_done <|
  x_cond_p (q18 ≠ 0) rfl (fun hc10 => ?_) (fun hc10 => ?_)
 ·replace hF := it_t hc10 hF
  refine x_seq <| x_region <| p (v := .agg #[.bool false, .slice none 0 0]) (yl_build bld_79 bldf_79 (parts_eq pt0) (by kernel_rfl)) <| p (v := .int .i64 q18) (yl_move rfl) <| ?_
  refine o_storeAgg (news := [.bool false, .slice none 0 0]) agg_79 rfl rfl rfl (by simp [over_length]) hS (fun w' hS => ?_)
  refine p (v := .int .i64 q18) (yl_assign rfl) <| x_done <| ?_
  have e_ := Option.some.inj (show some _ = some _ from hF); subst e_
  exact x_return ⟨_, ⟨_, _, _, rfl, rfl, ldvA agg_79 rfl (fun j v hj => by rw [add0]; exact St.cell hS hj), _, _, rfl, rfl, rfl⟩, ρ, none, 0, 0, rfl, (Le.refl _), (RdS.nil (A := none) (c := 0)), hS.drop⟩
 ·replace hF := it_f hc10 hF
  replace hF := bd_s hF; obtain ⟨q0s, q1s, hF⟩ := hF
  refine x_skip <| x_seq <| x_region <| p (yl_move rfl) <| ?_
  have hcall := c_exact_begin q1s q1l (RdS.nil (A := none) (c := 0)) (hS.pull 1)
  refine o_cc call_86 (args2 rfl rfl) hcall ?_
  rintro e w' ⟨q19, q0l, q7, q1e, c_b_y0_ret_0_ret_4_1, q0t, q0u, q1f, c_b_y0_ret_2_ret_4_1, rfl, q1a, q0m, q0n, hS⟩
  refine ⟨_, rfl, ?_⟩
  have e_ := St.vec_n (hS.pull 1) q0m; subst e_
  have e_ := q0n.n; subst e_
  refine p (yl_assign rfl) <| x_done <| x_seq <| x_seq <|
   x_region <| p (yl_move rfl) <| p (yl_len_slice usl_75 rfl) <| p (yl_move rfl) <|
   x_done <| ?_
  replace hF := bs_s hF; obtain ⟨oL6, hLL6, hF⟩ := hF
  refine x_join (fun E w => ∃ (q0y : Heap) (q0e : List Value) (q2 : Option Addr) (q0h : Nat) (c_b_y0_ret_4_1_2_L6 : Nat) (q0j : List (List T_exact_Int)) (q4 : Bool) (q3 : List Int) (q0d : Bool) (q0k : Int), (Sum.inl (q0j, q4, q3, q0d, q0k)) = oL6 ∧ Le q19 q0y ∧ E 2 = .pointer (some ⟨b2, 0, none⟩) ∧ E 5 = .pointer (some ⟨q0l, 0, none⟩) ∧ RepL (RpSl R_exact_Int) q0y q0j q0e ∧ RdS (RpI .u32) q0y q2 q0h c_b_y0_ret_4_1_2_L6 q3 ∧ St w0 w (cells b2 79 [.bool false, .slice none 0 0] :: cells q0l 150 [.slice q7 q0s.1.length c_b_y0_ret_0_ret_4_1, .bool q4, .slice q2 q0h c_b_y0_ret_4_1_2_L6, .bool q0d, .int .i64 q0k] :: vec 155 (RpSl R_exact_Int).sz (.slice q7 q0s.1.length c_b_y0_ret_0_ret_4_1) q0s.1.length q0e :: ro q0y :: l)) ?_ ?_
  ·refine x_block ?_
   refine x_loop (fun k_ E w => ∃ (q0v : Heap) (q6 : List Value) (q8 : Option Addr) (q0f : Nat) (c_b_y0_ret_4_1_2_L6h : Nat) (q0w : Int) (q9 : List (List T_exact_Int)) (q0a : Bool) (q5 : List Int) (q0b : Bool) (q0c : Int), lp (P_exact_Det_L6 a0) k_ (q0w, q9, q0a, q5, q0b, q0c) = some oL6 ∧ Le q19 q0v ∧ E 2 = .pointer (some ⟨b2, 0, none⟩) ∧ E 5 = .pointer (some ⟨q0l, 0, none⟩) ∧ E 16 = .int .i64 (a0.length : Int) ∧ E 17 = .int .i64 q0w ∧ RepL (RpSl R_exact_Int) q0v q9 q6 ∧ RdS (RpI .u32) q0v q8 q0f c_b_y0_ret_4_1_2_L6h q5 ∧ St w0 w (cells b2 79 [.bool false, .slice none 0 0] :: cells q0l 150 [.slice q7 q0s.1.length c_b_y0_ret_0_ret_4_1, .bool q0a, .slice q8 q0f c_b_y0_ret_4_1_2_L6h, .bool q0b, .int .i64 q0c] :: vec 155 (RpSl R_exact_Int).sz (.slice q7 q0s.1.length c_b_y0_ret_0_ret_4_1) q0s.1.length q6 :: ro q0v :: l)) fuel ⟨q19, q0t, q0u, q0s.2.2.length, c_b_y0_ret_2_ret_4_1, 0, q0s.1, q0s.2.1, q0s.2.2, false, 0, hLL6, (Le.refl _), rfl, rfl, rfl, rfl, q0m, q0n, ((((hS.pull 2).pull 2).pull 2).pull 3)⟩ ?_
   rintro kL6 E w ⟨q0v, q6, q8, q0f, c_b_y0_ret_4_1_2_L6h, q0w, q9, q0a, q5, q0b, q0c, hLL6, q0z, q15, q1b, q1c, q16, q0o, q0g, hS⟩
   have e_ := q0g.n; subst e_
   replace hLL6 := lp_s hLL6; obtain ⟨kL6, obL6, rfl, hFL6, hLL6⟩ := hLL6
   refine x_seq <| x_region <| p (yl_lss q16 q1c) <| x_done <|
    x_seq <|
    x_cond_p (q0w < (a0.length : Int)) rfl (fun hc18 => ?_) (fun hc18 => ?_)
   ·replace hFL6 := it_t hc18 hFL6
    replace hFL6 := bd_s hFL6; obtain ⟨q10, q1t, hFL6⟩ := hFL6
    refine x_skip <| x_seq <| x_block <| x_seq <|
     x_region <| p (yl_move q16) <| p (yl_assign rfl) <| x_done <|
     x_seq <| x_region <| p (yl_move q1b) <| p (yl_move rfl) <| ?_
    have hcall := c_exact_table_pivot q1t q0o q0g (((hS.pull 3).pull 3).pull 3)
    refine o_cc call_87 (args3 rfl rfl rfl) hcall ?_
    rintro e w' ⟨q1j, q0x, q11, q1m, c_b_t0_2_ret_8_2, rfl, q1k, q12, q0p, hS⟩
    refine ⟨_, rfl, ?_⟩
    have e_ := q0p.n; subst e_
    refine p (yl_not rfl) <| x_done <|
     x_cond (t := !q10.1) rfl (fun hc23 => ?_) (fun hc23 => ?_)
    ·replace hFL6 := it_t hc23 hFL6
     refine x_seq <| x_region <| p (v := .agg #[.bool false, .slice none 0 0]) (yl_build bld_79 bldf_79 (parts_eq pt0) (by kernel_rfl)) <| ?_
     refine o_storeAgg (news := [.bool false, .slice none 0 0]) agg_79 q15 rfl rfl (by simp [over_length]) (hS.pull 3) (fun w' hS => ?_)
     refine p (yl_assign rfl) <| x_done <| ?_
     have e_ := Option.some.inj (show some _ = some _ from hFL6); subst e_
     have e_ := (show _ = oL6 from hLL6); subst e_
     have e_ := Option.some.inj (show some _ = some _ from hF); subst e_
     exact x_return ⟨_, ⟨_, _, _, rfl, q15, ldvA agg_79 rfl (fun j v hj => by rw [add0]; exact St.cell hS hj), _, _, rfl, rfl, rfl⟩, q1j, none, 0, 0, rfl, ((q1a.trans q0z).trans q1k), (RdS.nil (A := none) (c := 0)), hS.drop.drop.drop⟩
    ·replace hFL6 := it_bf hc23 hFL6
     replace hFL6 := ar_s hFL6; obtain ⟨x25, hx25, hFL6⟩ := hFL6
     refine x_skip <| x_blk <| x_region <| p (yadd q16 rfl hx25) <|
      p (yl_move rfl) <| x_done <| ?_
     have e_ := Option.some.inj (show some _ = some _ from hFL6); subst e_
     exact x_inv ⟨kL6, Nat.lt_succ_self _, q1j, q0x, q11, q10.2.2.2.1.length, c_b_t0_2_ret_8_2, x25, q10.2.1, q10.2.2.1, q10.2.2.2.1, q10.2.2.2.2.1, q10.2.2.2.2.2, hLL6, (q0z.trans q1k), q15, q1b, q1c, rfl, q12, q0p, ((((hS.pull 2).pull 2).pull 2).pull 3)⟩
   ·replace hFL6 := it_f hc18 hFL6
    refine x_exitTo _ rfl <| ?_
    have e_ := Option.some.inj (show some _ = some _ from hFL6); subst e_
    exact x_inv ⟨q0v, q6, q8, q5.length, c_b_y0_ret_4_1_2_L6h, q9, q0a, q5, q0b, q0c, hLL6, q0z, q15, q1b, q0o, q0g, ((((hS.pull 3).pull 3).pull 3).pull 3)⟩
  rintro E w ⟨q0y, q0e, q2, q0h, c_b_y0_ret_4_1_2_L6, q0j, q4, q3, q0d, q0k, rfl, q1d, q17, q1g, q1i, q0i, hS⟩
  have e_ := q0i.n; subst e_
  refine x_seq <| x_seq <| x_region <| p (yl_move q1g) <|
   p (yl_nilCheck rfl) <| p (yl_field0 fld_150_2 rfl) <| pa (at_load one_4 rfl ((hS.pull 1).cell rfl)) <| x_done <|
   x_cond (t := q0d) rfl (fun hc29 => ?_) (fun hc29 => ?_)
  ·replace hF := it_t hc29 hF
   replace hF := bd_s hF; obtain ⟨q1h, q1q, hF⟩ := hF
   refine x_seq <| x_region <| p (yl_move q1g) <| p (yl_nilCheck rfl) <|
    p (yl_field0 fld_150_1 rfl) <| pa (v := .agg #[.bool q4, .slice q2 q3.length c_b_y0_ret_4_1_2_L6]) (ld_sub agg_79 rfl rfl rfl (hS.pull 1)) <| ?_
   have hcall := c_exact_Neg q1q q0i (hS.pull 3)
   refine o_cc call_43 (args1 rfl) hcall ?_
   rintro e w' ⟨q0q, q1n, c_y0_ret_1_12_4, rfl, q0r, hS⟩
   refine ⟨_, rfl, ?_⟩
   have e_ := q0r.n; subst e_
   refine o_storeAgg (news := [.bool q1h.fneg, .slice q0q q1h.fmag.length c_y0_ret_1_12_4]) agg_79 q17 rfl rfl (by simp [over_length]) (hS.pull 1) (fun w' hS => ?_)
   refine p (yl_assign rfl) <| x_done <| ?_
   have e_ := Option.some.inj (show some _ = some _ from hF); subst e_
   exact x_return ⟨_, ⟨_, _, _, rfl, q17, ldvA agg_79 rfl (fun j v hj => by rw [add0]; exact St.cell hS hj), _, _, rfl, rfl, rfl⟩, q0y, q0q, q1h.fmag.length, c_y0_ret_1_12_4, rfl, (q1a.trans q1d), q0r, (((hS.drop.pull 1).drop.pull 1).drop)⟩
  ·replace hF := it_bf hc29 hF
   refine x_skip <| x_seq <| x_region <| p (yl_move q1g) <|
    p (yl_nilCheck rfl) <| p (yl_field0 fld_150_1 rfl) <| pa (v := .agg #[.bool q4, .slice q2 q3.length c_b_y0_ret_4_1_2_L6]) (ld_sub agg_79 rfl rfl rfl (hS.pull 1)) <| ?_
   refine o_storeAgg (news := [.bool q4, .slice q2 q3.length c_b_y0_ret_4_1_2_L6]) agg_79 q17 rfl rfl (by simp [over_length]) hS (fun w' hS => ?_)
   refine p (yl_assign rfl) <| x_done <| ?_
   have e_ := Option.some.inj (show some _ = some _ from hF); subst e_
   exact x_return ⟨_, ⟨_, _, _, rfl, q17, ldvA agg_79 rfl (fun j v hj => by rw [add0]; exact St.cell hS hj), _, _, rfl, rfl, rfl⟩, q0y, q2, q3.length, c_b_y0_ret_4_1_2_L6, rfl, (q1a.trans q1d), q0i, hS.drop.drop.drop⟩
attribute [irreducible] P_exact_Det

def P_exact_Bits (a0 : T_exact_Int) : Option Int :=
 if (a0.fmag.length : Int) = 0 then
  some (0 : Int)
 else
  ar ((a0.fmag.length : Int) - 1) fun x10 =>
  ar ((32 : Int) * x10) fun x11 =>
  ar ((a0.fmag.length : Int) - 1) fun x17 =>
  ck (inb x17 a0.fmag.length) <|
  lv (gt a0.fmag x17) fun x19 =>
  bd (P_math_bits_Len32 x19) fun q2 =>
  ar (x11 + q2) fun x21 =>
  some x21
set_option maxHeartbeats 4000000 in
set_option maxRecDepth 100000 in
theorem c_exact_Bits {w0 w : World} {l : List Assn} {ρ : Heap} {q2 : Option Addr} {q4 : Nat} {c_a0_1 : Nat} {a0 : T_exact_Int} {r : Int} (hF : P_exact_Bits a0 = some r) (q3 : RdS (RpI .u32) ρ q2 q4 c_a0_1 a0.fmag) (hS : St w0 w (ro ρ :: l)) :
  Calls Try.prog 123 #[.agg #[.bool a0.fneg, .slice q2 q4 c_a0_1]] w fun e w' => e = .returned (.int .i64 r) ∧ St w0 w' (ro ρ :: l) := by
 have e_ := q3.n; subst e_
 refine enterC Try.func123 rfl 22 rfl (by simp) ?_
 refine x_seq <| x_region <| ?_
 refine o_box (cs := [.bool a0.fneg, .slice q2 a0.fmag.length c_a0_1]) rfl rfl hS (fun b1 w' hS => ?_)
 refine p (yl_assign rfl) <| x_done <| x_seq <| x_seq <|
  x_region <| p (yl_field0 fld_79_1 rfl) <| pa (at_load one_77 rfl (hS.cell rfl)) <| p (yl_len_slice usl_77 rfl) <|
  p (yl_eql rfl rfl) <| x_done <|
  x_cond_p ((a0.fmag.length : Int) = 0) rfl (fun hc6 => ?_) (fun hc6 => ?_)
 ·replace hF := it_t hc6 hF
  refine x_seq <| x_region <| p (yl_assign rfl) <| x_done <| ?_
  have e_ := Option.some.inj (show some _ = some _ from hF); subst e_
  exact x_return ⟨_, ⟨_, _, rfl, rfl, rfl⟩, rfl, hS.drop⟩
 ·replace hF := it_f hc6 hF
  replace hF := ar_s hF; obtain ⟨x10, hx10, hF⟩ := hF
  replace hF := ar_s hF; obtain ⟨x11, hx11, hF⟩ := hF
  replace hF := ar_s hF; obtain ⟨x17, hx17, hF⟩ := hF
  replace hF := ck_s hF; obtain ⟨q5, hF⟩ := hF
  replace hF := lv_s hF; obtain ⟨x19, hx19, hF⟩ := hF
  replace hF := bd_s hF; obtain ⟨q7, q6, hF⟩ := hF
  replace hF := ar_s hF; obtain ⟨x21, hx21, hF⟩ := hF
  refine x_skip <| x_seq <| x_still mixed (by kernel_rfl) hS <| q (yl_field0 fld_79_1 rfl) <|
   qa (fun w' hS => at_load one_77 rfl (hS.cell rfl)) <| q (yl_len_slice usl_77 rfl) <| q (ysub rfl rfl hx10) <| q (ymul rfl rfl hx11) <|
   q (yl_field0 fld_79_1 rfl) <| qa (fun w' hS => at_load one_77 rfl (hS.cell rfl)) <| q (yl_field0 fld_79_1 rfl) <| qa (fun w' hS => at_load one_77 rfl (hS.cell rfl)) <|
   q (yl_len_slice usl_77 rfl) <| q (ysub rfl rfl hx17) <| q (yix_f sl_77 rfl rfl q3 q5) <| qa (fun w' hS => at_load one_159 rfl (RdS.getW q3 (hS.pull 1) q5 hx19)) <|
   qcc (v := .int .i64 q7) call_141 (args1 rfl) (fun w' hS => by
    have hcall := c_math_bits_Len32 q6  (hS.pull 1)
    exact (Calls.mono hcall (fun e w'' h => And.intro h.1 (h.2.pull 1)))) <| q (yadd rfl rfl hx21) <| q (yl_assign rfl) <|
   q_done fun w' hS => ?_
  have e_ := Option.some.inj (show some _ = some _ from hF); subst e_
  exact x_return ⟨_, ⟨_, _, rfl, rfl, rfl⟩, rfl, hS.drop⟩
attribute [irreducible] P_exact_Bits

def P_exact_fit (a0 : T_exact_Int) : Option (T_exact_Int × Int) :=
 bd (P_exact_Bits a0) fun q2 =>
 if 65536 < q2 then
  some ((T_exact_Int.mk false []), (3 : Int))
 else
  some (a0, (0 : Int))
set_option maxHeartbeats 4000000 in
set_option maxRecDepth 100000 in
theorem c_exact_fit {w0 w : World} {l : List Assn} {ρ : Heap} {q2 : Option Addr} {q6 : Nat} {c_a0_1 : Nat} {a0 : T_exact_Int} {r : (T_exact_Int × Int)} (hF : P_exact_fit a0 = some r) (q5 : RdS (RpI .u32) ρ q2 q6 c_a0_1 a0.fmag) (hS : St w0 w (ro ρ :: l)) :
  Calls Try.prog 88 #[.agg #[.bool a0.fneg, .slice q2 q6 c_a0_1]] w fun e w' => ∃ (q3 : Option Addr) (q4 : Nat) (c_y0_ret_1 : Nat), e = .returned (.tuple #[.agg #[.bool r.1.fneg, .slice q3 q4 c_y0_ret_1], .int .i64 r.2]) ∧ RdS (RpI .u32) ρ q3 q4 c_y0_ret_1 r.1.fmag ∧ St w0 w' (ro ρ :: l) := by
 have e_ := q5.n; subst e_
 refine enterC Try.func88 rfl 9 rfl (by simp) ?_
 refine x_seq <| x_region <| ?_
 refine o_box (cs := [.bool a0.fneg, .slice q2 a0.fmag.length c_a0_1]) rfl rfl hS (fun b1 w' hS => ?_)
 refine o_alloc zero_79 hS (fun b2 w' hS => ?_)
 replace hF := bd_s hF; obtain ⟨q8, q7, hF⟩ := hF
 refine p (yl_assign rfl) <| x_done <| x_seq <| x_seq <|
  x_region <| pa (v := .agg #[.bool a0.fneg, .slice q2 a0.fmag.length c_a0_1]) (ld_sub agg_79 rfl rfl rfl (hS.pull 1)) <| ?_
 have hcall := c_exact_Bits q7 q5 (hS.pull 2)
 refine o_cc call_123 (args1 rfl) ((Calls.mono hcall (fun e w'' h => And.intro h.1 ((h.2.pull 2).pull 2)))) ?_
 rintro e w' ⟨rfl, hS⟩
 refine ⟨_, rfl, ?_⟩
 refine p (yl_gtr rfl rfl) <| x_done <|
  x_cond_p (65536 < q8) rfl (fun hc6 => ?_) (fun hc6 => ?_)
 ·replace hF := it_t hc6 hF
  refine x_seq <| x_region <| p (v := .agg #[.bool false, .slice none 0 0]) (yl_build bld_79 bldf_79 (parts_eq pt0) (by kernel_rfl)) <| ?_
  refine o_storeAgg (news := [.bool false, .slice none 0 0]) agg_79 rfl rfl rfl (by simp [over_length]) hS (fun w' hS => ?_)
  refine p (yl_assign rfl) <| x_done <| ?_
  have e_ := Option.some.inj (show some _ = some _ from hF); subst e_
  exact x_return ⟨_, ⟨_, _, _, rfl, rfl, ldvA agg_79 rfl (fun j v hj => by rw [add0]; exact St.cell hS hj), _, _, rfl, rfl, rfl⟩, none, 0, 0, rfl, (RdS.nil (A := none) (c := 0)), hS.drop.drop⟩
 ·replace hF := it_f hc6 hF
  refine x_skip <| x_seq <| x_region <| pa (v := .agg #[.bool a0.fneg, .slice q2 a0.fmag.length c_a0_1]) (ld_sub agg_79 rfl rfl rfl (hS.pull 1)) <| ?_
  refine o_storeAgg (news := [.bool a0.fneg, .slice q2 a0.fmag.length c_a0_1]) agg_79 rfl rfl rfl (by simp [over_length]) hS (fun w' hS => ?_)
  refine p (yl_assign rfl) <| x_done <| ?_
  have e_ := Option.some.inj (show some _ = some _ from hF); subst e_
  exact x_return ⟨_, ⟨_, _, _, rfl, rfl, ldvA agg_79 rfl (fun j v hj => by rw [add0]; exact St.cell hS hj), _, _, rfl, rfl, rfl⟩, q2, a0.fmag.length, c_a0_1, rfl, q5, hS.drop.drop⟩
attribute [irreducible] P_exact_fit

def P_exact_Mul (a0 : T_exact_Int) (b1 : T_exact_Int) : Option (T_exact_Int × Int) :=
 bd (P_exact_times a0 b1) fun q3 =>
 bd (P_exact_fit q3) fun q2 =>
 some (q2.1, q2.2)
set_option maxHeartbeats 4000000 in
set_option maxRecDepth 100000 in
theorem c_exact_Mul {w0 w : World} {l : List Assn} {ρ : Heap} {q5 : Option Addr} {q9 : Nat} {c_a0_1 : Nat} {q6 : Option Addr} {q0a : Nat} {c_b1_1 : Nat} {a0 : T_exact_Int} {b1 : T_exact_Int} {r : (T_exact_Int × Int)} (hF : P_exact_Mul a0 b1 = some r) (q0b : RdS (RpI .u32) ρ q5 q9 c_a0_1 a0.fmag) (q0c : RdS (RpI .u32) ρ q6 q0a c_b1_1 b1.fmag) (hS : St w0 w (ro ρ :: l)) :
  Calls Try.prog 39 #[.agg #[.bool a0.fneg, .slice q5 q9 c_a0_1], .agg #[.bool b1.fneg, .slice q6 q0a c_b1_1]] w fun e w' => ∃ (ρ' : Heap) (q7 : Option Addr) (q8 : Nat) (c_y0_ret_1 : Nat), e = .returned (.tuple #[.agg #[.bool r.1.fneg, .slice q7 q8 c_y0_ret_1], .int .i64 r.2]) ∧ Le ρ ρ' ∧ RdS (RpI .u32) ρ' q7 q8 c_y0_ret_1 r.1.fmag ∧ St w0 w' (ro ρ' :: l) := by
 have e_ := q0b.n; subst e_
 have e_ := q0c.n; subst e_
 refine enterC Try.func39 rfl 12 rfl (by simp) ?_
 refine x_seq <| x_region <| ?_
 refine o_box (cs := [.bool a0.fneg, .slice q5 a0.fmag.length c_a0_1]) rfl rfl hS (fun b2 w' hS => ?_)
 refine o_box (cs := [.bool b1.fneg, .slice q6 b1.fmag.length c_b1_1]) rfl rfl hS (fun b3 w' hS => ?_)
 refine o_alloc zero_79 hS (fun b4 w' hS => ?_)
 replace hF := bd_s hF; obtain ⟨q0l, q0j, hF⟩ := hF
 refine p (yl_assign rfl) <| x_done <| x_seq <| x_region <|
  pa (v := .agg #[.bool a0.fneg, .slice q5 a0.fmag.length c_a0_1]) (ld_sub agg_79 rfl rfl rfl (hS.pull 2)) <| pa (v := .agg #[.bool b1.fneg, .slice q6 b1.fmag.length c_b1_1]) (ld_sub agg_79 rfl rfl rfl (hS.pull 1)) <| ?_
 have hcall := c_exact_times q0j q0b q0c (hS.pull 3)
 refine o_cc call_89 (args2 rfl rfl) hcall ?_
 rintro e w' ⟨q0h, q0e, q0f, c_y0_ret_1_1_2, rfl, q0i, q2, hS⟩
 refine ⟨_, rfl, ?_⟩
 have e_ := q2.n; subst e_
 replace hF := bd_s hF; obtain ⟨q0d, q0k, hF⟩ := hF
 have hcall := c_exact_fit q0k q2 hS
 refine o_cc call_88 (args1 rfl) hcall ?_
 rintro e w' ⟨q3, q0g, c_y0_ret_1_1_3, rfl, q4, hS⟩
 refine ⟨_, rfl, ?_⟩
 have e_ := q4.n; subst e_
 refine p (yl_extract rfl rfl) <| p (yl_extract rfl rfl) <| ?_
 refine o_storeAgg (news := [.bool q0d.1.fneg, .slice q3 q0d.1.fmag.length c_y0_ret_1_1_3]) agg_79 rfl rfl rfl (by simp [over_length]) (hS.pull 1) (fun w' hS => ?_)
 refine p (yl_assign rfl) <| x_done <| ?_
 have e_ := Option.some.inj (show some _ = some _ from hF); subst e_
 exact x_return ⟨_, ⟨_, _, _, rfl, rfl, ldvA agg_79 rfl (fun j v hj => by rw [add0]; exact St.cell hS hj), _, _, rfl, rfl, rfl⟩, q0h, q3, q0d.1.fmag.length, c_y0_ret_1_1_3, rfl, q0i, q4, (((hS.drop.pull 1).drop.pull 1).drop)⟩
attribute [irreducible] P_exact_Mul

def P_exact_Gcd_L2 : (Bool × List Int × Bool × List Int) → Option ((Bool × List Int × Bool × List Int) ⊕ (Bool × List Int)) := fun (q4, q5, q2, q3) =>
 bd (P_exact_Sign (T_exact_Int.mk q2 q3)) fun q7 =>
 if q7 ≠ 0 then
  bd (P_exact_split (T_exact_Int.mk q4 q5) (T_exact_Int.mk q2 q3)) fun q6 =>
  some (Sum.inl (q2, q3, q6.2.fneg, q6.2.fmag))
 else
  some (Sum.inr (q4, q5))
def P_exact_Gcd (a0 : T_exact_Int) (b1 : T_exact_Int) : Option T_exact_Int :=
 bd (P_exact_Abs a0) fun q4 =>
 bd (P_exact_Abs b1) fun q5 =>
 bd (
  lp P_exact_Gcd_L2 fuel (q4.fneg, q4.fmag, q5.fneg, q5.fmag)) fun (q2, q3) =>
 some (T_exact_Int.mk q2 q3)
set_option maxHeartbeats 4000000 in
set_option maxRecDepth 100000 in
theorem c_exact_Gcd {w0 w : World} {l : List Assn} {ρ : Heap} {q0b : Option Addr} {q15 : Nat} {c_a0_1 : Nat} {q0c : Option Addr} {q16 : Nat} {c_b1_1 : Nat} {a0 : T_exact_Int} {b1 : T_exact_Int} {r : T_exact_Int} (hF : P_exact_Gcd a0 b1 = some r) (q17 : RdS (RpI .u32) ρ q0b q15 c_a0_1 a0.fmag) (q18 : RdS (RpI .u32) ρ q0c q16 c_b1_1 b1.fmag) (hS : St w0 w (ro ρ :: l)) :
  Calls Try.prog 124 #[.agg #[.bool a0.fneg, .slice q0b q15 c_a0_1], .agg #[.bool b1.fneg, .slice q0c q16 c_b1_1]] w fun e w' => ∃ (ρ' : Heap) (q0u : Option Addr) (q0v : Nat) (c_y0_ret_1 : Nat), e = .returned (.agg #[.bool r.fneg, .slice q0u q0v c_y0_ret_1]) ∧ Le ρ ρ' ∧ RdS (RpI .u32) ρ' q0u q0v c_y0_ret_1 r.fmag ∧ St w0 w' (ro ρ' :: l) := by
 have e_ := q17.n; subst e_
 have e_ := q18.n; subst e_
 refine enterC Try.func124 rfl 23 rfl (by simp) ?_
 refine x_seq <| x_region <| ?_
 refine o_box (cs := [.bool a0.fneg, .slice q0b a0.fmag.length c_a0_1]) rfl rfl hS (fun b2 w' hS => ?_)
 refine o_box (cs := [.bool b1.fneg, .slice q0c b1.fmag.length c_b1_1]) rfl rfl hS (fun b3 w' hS => ?_)
 refine o_alloc zero_79 hS (fun b4 w' hS => ?_)
 refine x_done <| x_seq <| ?_
 replace hF := bd_s hF; obtain ⟨q7, q1m, hF⟩ := hF
 replace hF := bd_s hF; obtain ⟨q8, q1n, hF⟩ := hF
 refine x_par (w0 := w0) [⟨[], [], [7], [0], [], []⟩, ⟨[0], [0], [8], [1], [], []⟩, ⟨[], [], [9], [2], [], []⟩, ⟨[0, 1, 2], [2], [10], [1], [], []⟩, ⟨[0, 1, 2, 3], [1], [], [], [0], [3]⟩, ⟨[0, 1, 2, 3, 4], [3], [], [], [2], [4]⟩] [⟨none, (some 4), []⟩, ⟨none, none, []⟩, ⟨none, (some 5), []⟩, ⟨(some 4), none, [8]⟩, ⟨(some 5), none, [10]⟩] [7, 8, 9, 10] [0, 1, 2] [1, 3, 4] [0, 1, 2, 3] [fun Ep1 => Ep1 7 = .agg #[.bool a0.fneg, .slice q0b a0.fmag.length c_a0_1], fun Ep1 => Ep1 8 = .agg #[.bool q7.fneg, .slice (adOf (partOf 1 (Ep1 8))) q7.fmag.length (capOf (partOf 1 (Ep1 8)))] ∧ RdS (RpI .u32) ρ (adOf (partOf 1 (Ep1 8))) q7.fmag.length (capOf (partOf 1 (Ep1 8))) q7.fmag, fun Ep1 => Ep1 9 = .agg #[.bool b1.fneg, .slice q0c b1.fmag.length c_b1_1], fun Ep1 => Ep1 10 = .agg #[.bool q8.fneg, .slice (adOf (partOf 1 (Ep1 10))) q8.fmag.length (capOf (partOf 1 (Ep1 10)))] ∧ RdS (RpI .u32) ρ (adOf (partOf 1 (Ep1 10))) q8.fmag.length (capOf (partOf 1 (Ep1 10))) q8.fmag, fun Ep1 => True, fun Ep1 => True] [fun Ep1 => cells b2 79 [.bool a0.fneg, .slice q0b a0.fmag.length c_a0_1], fun Ep1 => ro ρ, fun Ep1 => cells b3 79 [.bool b1.fneg, .slice q0c b1.fmag.length c_b1_1], fun Ep1 => cells b2 79 [.bool q7.fneg, .slice (adOf (partOf 1 (Ep1 8))) q7.fmag.length (capOf (partOf 1 (Ep1 8)))], fun Ep1 => cells b3 79 [.bool q8.fneg, .slice (adOf (partOf 1 (Ep1 10))) q8.fmag.length (capOf (partOf 1 (Ep1 10)))]] mixed (by kernel_rfl) (((hS.pull 1).pull 3).pull 3) ?_ ?_
 ·refine ⟨?_, ?_, ?_, ?_, ?_, ?_, trivial⟩
  ·intro Ep1 w l' hE1 hO1 hF_ hS
   replace hS : St w0 w (cells b2 79 [.bool a0.fneg, .slice q0b a0.fmag.length c_a0_1] :: l') := Eq.mp (by kernel_rfl) hS
   refine pa (v := .agg #[.bool a0.fneg, .slice q0b a0.fmag.length c_a0_1]) (ld_sub agg_79 (hE1 2 rfl) rfl rfl hS) <| x_done <| ?_
   refine x_fin ⟨⟨_, rfl⟩, rfl, ?_⟩
   exact Eq.mp (by kernel_rfl) hS
  ·intro Ep1 w l' hE1 hO1 hF_ hS
   obtain ⟨q0x, -⟩ := hF_
   replace q0x : Ep1 7 = .agg #[.bool a0.fneg, .slice q0b a0.fmag.length c_a0_1] := Eq.mp (by kernel_rfl) q0x
   replace hS : St w0 w (ro ρ :: l') := Eq.mp (by kernel_rfl) hS
   have hcall := c_exact_Abs q1m q17 hS
   refine o_cc call_56 (args1 q0x) hcall ?_
   rintro e w' ⟨q1f, q1g, c_y0_ret_1_1_1, rfl, q0h, hS⟩
   refine ⟨_, rfl, ?_⟩
   have e_ := q0h.n; subst e_
   refine x_done <| ?_
   refine x_fin ⟨⟨_, rfl⟩, ⟨rfl, q0h⟩, ?_⟩
   exact Eq.mp (by kernel_rfl) hS
  ·intro Ep1 w l' hE1 hO1 hF_ hS
   replace hS : St w0 w (cells b3 79 [.bool b1.fneg, .slice q0c b1.fmag.length c_b1_1] :: l') := Eq.mp (by kernel_rfl) hS
   refine pa (v := .agg #[.bool b1.fneg, .slice q0c b1.fmag.length c_b1_1]) (ld_sub agg_79 (hE1 3 rfl) rfl rfl hS) <| x_done <| ?_
   refine x_fin ⟨⟨_, rfl⟩, rfl, ?_⟩
   exact Eq.mp (by kernel_rfl) hS
  ·intro Ep1 w l' hE1 hO1 hF_ hS
   obtain ⟨q0y, -⟩ := hF_
   replace q0y : Ep1 9 = .agg #[.bool b1.fneg, .slice q0c b1.fmag.length c_b1_1] := Eq.mp (by kernel_rfl) q0y
   replace hS : St w0 w (ro ρ :: l') := Eq.mp (by kernel_rfl) hS
   have hcall := c_exact_Abs q1n q18 hS
   refine o_cc call_56 (args1 q0y) hcall ?_
   rintro e w' ⟨q1h, q1i, c_y0_ret_1_1_3, rfl, q0i, hS⟩
   refine ⟨_, rfl, ?_⟩
   have e_ := q0i.n; subst e_
   refine x_done <| ?_
   refine x_fin ⟨⟨_, rfl⟩, ⟨rfl, q0i⟩, ?_⟩
   exact Eq.mp (by kernel_rfl) hS
  ·intro Ep1 w l' hE1 hO1 hF_ hS
   obtain ⟨q0p, -⟩ := hF_
   replace q0p : Ep1 8 = .agg #[.bool q7.fneg, .slice (adOf (partOf 1 (Ep1 8))) q7.fmag.length (capOf (partOf 1 (Ep1 8)))] ∧ RdS (RpI .u32) ρ (adOf (partOf 1 (Ep1 8))) q7.fmag.length (capOf (partOf 1 (Ep1 8))) q7.fmag := Eq.mp (by kernel_rfl) q0p
   have q_ := id q0p; obtain ⟨-, q1c⟩ := q_
   replace hS : St w0 w (cells b2 79 [.bool a0.fneg, .slice q0b a0.fmag.length c_a0_1] :: l') := Eq.mp (by kernel_rfl) hS
   refine o_storeAgg (news := [.bool q7.fneg, .slice (adOf (partOf 1 (Ep1 8))) q7.fmag.length (capOf (partOf 1 (Ep1 8)))]) agg_79 (hE1 2 rfl) q0p.1 rfl (by simp [over_length]) hS (fun w' hS => ?_)
   refine x_done <| ?_
   refine x_fin ⟨⟨undef, rfl⟩, trivial, ?_⟩
   exact Eq.mp (by kernel_rfl) hS
  ·intro Ep1 w l' hE1 hO1 hF_ hS
   obtain ⟨q0q, -⟩ := hF_
   replace q0q : Ep1 10 = .agg #[.bool q8.fneg, .slice (adOf (partOf 1 (Ep1 10))) q8.fmag.length (capOf (partOf 1 (Ep1 10)))] ∧ RdS (RpI .u32) ρ (adOf (partOf 1 (Ep1 10))) q8.fmag.length (capOf (partOf 1 (Ep1 10))) q8.fmag := Eq.mp (by kernel_rfl) q0q
   have q_ := id q0q; obtain ⟨-, q1d⟩ := q_
   replace hS : St w0 w (cells b3 79 [.bool b1.fneg, .slice q0c b1.fmag.length c_b1_1] :: l') := Eq.mp (by kernel_rfl) hS
   refine o_storeAgg (news := [.bool q8.fneg, .slice (adOf (partOf 1 (Ep1 10))) q8.fmag.length (capOf (partOf 1 (Ep1 10)))]) agg_79 (hE1 3 rfl) q0q.1 rfl (by simp [over_length]) hS (fun w' hS => ?_)
   refine x_done <| ?_
   refine x_fin ⟨⟨undef, rfl⟩, trivial, ?_⟩
   exact Eq.mp (by kernel_rfl) hS
 intro Ep1 w' hE1 hF_ hS
 obtain ⟨q0x, q0p, q0y, q0q, -⟩ := hF_
 replace q0x : Ep1 7 = .agg #[.bool a0.fneg, .slice q0b a0.fmag.length c_a0_1] := Eq.mp (by kernel_rfl) q0x
 replace q0p : Ep1 8 = .agg #[.bool q7.fneg, .slice (adOf (partOf 1 (Ep1 8))) q7.fmag.length (capOf (partOf 1 (Ep1 8)))] ∧ RdS (RpI .u32) ρ (adOf (partOf 1 (Ep1 8))) q7.fmag.length (capOf (partOf 1 (Ep1 8))) q7.fmag := Eq.mp (by kernel_rfl) q0p
 have q_ := id q0p; obtain ⟨-, q1c⟩ := q_
 replace q0y : Ep1 9 = .agg #[.bool b1.fneg, .slice q0c b1.fmag.length c_b1_1] := Eq.mp (by kernel_rfl) q0y
 replace q0q : Ep1 10 = .agg #[.bool q8.fneg, .slice (adOf (partOf 1 (Ep1 10))) q8.fmag.length (capOf (partOf 1 (Ep1 10)))] ∧ RdS (RpI .u32) ρ (adOf (partOf 1 (Ep1 10))) q8.fmag.length (capOf (partOf 1 (Ep1 10))) q8.fmag := Eq.mp (by kernel_rfl) q0q
 have q_ := id q0q; obtain ⟨-, q1d⟩ := q_
 replace hS : St w0 w' (ro ρ :: cells b2 79 [.bool q7.fneg, .slice (adOf (partOf 1 (Ep1 8))) q7.fmag.length (capOf (partOf 1 (Ep1 8)))] :: cells b3 79 [.bool q8.fneg, .slice (adOf (partOf 1 (Ep1 10))) q8.fmag.length (capOf (partOf 1 (Ep1 10)))] :: (cells b4 79 [.bool false, .slice none 0 0] :: l)) := Eq.mp (by kernel_rfl) hS
 refine x_seq <| ?_
 replace hF := bd_s hF; obtain ⟨oL2, hLL2, hF⟩ := hF
 refine x_join (fun E w => ∃ (q13 : Heap) (q0e : Option Addr) (q0r : Nat) (c_b2_1_L2 : Nat) (q0j : Bool) (q0g : List Int), (q0j, q0g) = oL2 ∧ Le ρ q13 ∧ E 2 = .pointer (some ⟨b2, 0, none⟩) ∧ E 4 = .pointer (some ⟨b4, 0, none⟩) ∧ RdS (RpI .u32) q13 q0e q0r c_b2_1_L2 q0g ∧ St w0 w (cells b2 79 [.bool q0j, .slice q0e q0r c_b2_1_L2] :: cells b4 79 [.bool false, .slice none 0 0] :: ro q13 :: l)) ?_ ?_
 ·refine x_block ?_
  refine x_loop (fun k_ E w => ∃ (q0t : Heap) (q9 : Option Addr) (q0m : Nat) (c_b2_1_L2h : Nat) (q3 : Option Addr) (q0n : Nat) (c_b3_1_L2h : Nat) (q0d : Bool) (q0a : List Int) (q5 : Bool) (q4 : List Int), lp P_exact_Gcd_L2 k_ (q0d, q0a, q5, q4) = some oL2 ∧ Le ρ q0t ∧ E 2 = .pointer (some ⟨b2, 0, none⟩) ∧ E 3 = .pointer (some ⟨b3, 0, none⟩) ∧ E 4 = .pointer (some ⟨b4, 0, none⟩) ∧ RdS (RpI .u32) q0t q9 q0m c_b2_1_L2h q0a ∧ RdS (RpI .u32) q0t q3 q0n c_b3_1_L2h q4 ∧ St w0 w (cells b2 79 [.bool q0d, .slice q9 q0m c_b2_1_L2h] :: cells b3 79 [.bool q5, .slice q3 q0n c_b3_1_L2h] :: cells b4 79 [.bool false, .slice none 0 0] :: ro q0t :: l)) fuel ⟨ρ, (adOf (partOf 1 (Ep1 8))), q7.fmag.length, (capOf (partOf 1 (Ep1 8))), (adOf (partOf 1 (Ep1 10))), q8.fmag.length, (capOf (partOf 1 (Ep1 10))), q7.fneg, q7.fmag, q8.fneg, q8.fmag, hLL2, (Le.refl _), (hE1 2 rfl), (hE1 3 rfl), (hE1 4 rfl), q1c, q1d, (((hS.pull 3).pull 3).pull 3)⟩ ?_
  rintro kL2 E w ⟨q0t, q9, q0m, c_b2_1_L2h, q3, q0n, c_b3_1_L2h, q0d, q0a, q5, q4, hLL2, q14, q0w, q0s, q19, q0o, q0f, hS⟩
  have e_ := q0o.n; subst e_
  have e_ := q0f.n; subst e_
  replace hLL2 := lp_s hLL2; obtain ⟨kL2, obL2, rfl, hFL2, hLL2⟩ := hLL2
  replace hFL2 := bd_s hFL2; obtain ⟨q1r, q1o, hFL2⟩ := hFL2
  refine x_seq <| x_seq <| x_region <| pa (v := .agg #[.bool q5, .slice q3 q4.length c_b3_1_L2h]) (ld_sub agg_79 q0s rfl rfl (hS.pull 1)) <| ?_
  have hcall := c_exact_Sign q1o q0f (hS.pull 3)
  refine o_cc call_44 (args1 rfl) ((Calls.mono hcall (fun e w'' h => And.intro h.1 (((h.2.pull 3).pull 3).pull 3)))) ?_
  rintro e w' ⟨rfl, hS⟩
  refine ⟨_, rfl, ?_⟩
  refine p (yl_neq rfl rfl) <| x_done <|
   x_cond_p (q1r ≠ 0) rfl (fun hc13 => ?_) (fun hc13 => ?_)
  ·replace hFL2 := it_t hc13 hFL2
   replace hFL2 := bd_s hFL2; obtain ⟨q6, q1p, hFL2⟩ := hFL2
   refine x_skip <| x_block <| x_seq <| x_region <|
    pa (v := .agg #[.bool q0d, .slice q9 q0a.length c_b2_1_L2h]) (ld_sub agg_79 q0w rfl rfl hS) <| pa (v := .agg #[.bool q5, .slice q3 q4.length c_b3_1_L2h]) (ld_sub agg_79 q0s rfl rfl (hS.pull 1)) <| ?_
   have hcall := c_exact_split q1p q0o q0f (hS.pull 3)
   refine o_cc call_103 (args2 rfl rfl) hcall ?_
   rintro e w' ⟨q1a, q0k, q1j, c_y0_ret_1_3_2, q2, q1k, c_y1_ret_1_3_2, rfl, q1b, q0z, q0l, hS⟩
   refine ⟨_, rfl, ?_⟩
   have e_ := q0z.n; subst e_
   have e_ := q0l.n; subst e_
   refine p (yl_move rfl) <| p (yl_extract rfl rfl) <| p (yl_extract rfl rfl) <| ?_
   refine o_alloc zero_79 hS (fun b5 w' hS => ?_)
   refine o_alloc zero_79 hS (fun b6 w' hS => ?_)
   refine o_storeAgg (news := [.bool q6.1.fneg, .slice q0k q6.1.fmag.length c_y0_ret_1_3_2]) agg_79 rfl rfl rfl (by simp [over_length]) (hS.pull 1) (fun w' hS => ?_)
   refine o_storeAgg (news := [.bool q6.2.fneg, .slice q2 q6.2.fmag.length c_y1_ret_1_3_2]) agg_79 rfl rfl rfl (by simp [over_length]) (hS.pull 1) (fun w' hS => ?_)
   refine x_done <| ?_
   refine x_par (w0 := w0) [⟨[], [], [20], [0], [], []⟩, ⟨[], [], [21], [1], [], []⟩, ⟨[0], [0], [], [], [2], [3]⟩, ⟨[0, 1, 2], [1], [], [], [0], [4]⟩] [⟨none, (some 3), []⟩, ⟨none, none, []⟩, ⟨none, (some 2), []⟩, ⟨(some 2), none, []⟩, ⟨(some 3), none, []⟩] [20, 21] [0, 1, 2] [1, 3, 4] [0, 1] [fun Ep4 => Ep4 20 = .agg #[.bool q5, .slice q3 q4.length c_b3_1_L2h], fun Ep4 => Ep4 21 = .agg #[.bool q6.2.fneg, .slice q2 q6.2.fmag.length c_y1_ret_1_3_2], fun Ep4 => True, fun Ep4 => True] [fun Ep4 => cells b3 79 [.bool q5, .slice q3 q4.length c_b3_1_L2h], fun Ep4 => cells b6 79 [.bool q6.2.fneg, .slice q2 q6.2.fmag.length c_y1_ret_1_3_2], fun Ep4 => cells b2 79 [.bool q0d, .slice q9 q0a.length c_b2_1_L2h], fun Ep4 => cells b2 79 [.bool q5, .slice q3 q4.length c_b3_1_L2h], fun Ep4 => cells b3 79 [.bool q6.2.fneg, .slice q2 q6.2.fmag.length c_y1_ret_1_3_2]] mixed (by kernel_rfl) (((hS.pull 3).pull 1).pull 4) ?_ ?_
   ·refine ⟨?_, ?_, ?_, ?_, trivial⟩
    ·intro Ep4 w l' hE4 hO4 hF_ hS
     replace hS : St w0 w (cells b3 79 [.bool q5, .slice q3 q4.length c_b3_1_L2h] :: l') := Eq.mp (by kernel_rfl) hS
     refine pa (v := .agg #[.bool q5, .slice q3 q4.length c_b3_1_L2h]) (ld_sub agg_79 ((hE4 3 rfl).trans q0s) rfl rfl hS) <| x_done <| ?_
     refine x_fin ⟨⟨_, rfl⟩, rfl, ?_⟩
     exact Eq.mp (by kernel_rfl) hS
    ·intro Ep4 w l' hE4 hO4 hF_ hS
     replace hS : St w0 w (cells b6 79 [.bool q6.2.fneg, .slice q2 q6.2.fmag.length c_y1_ret_1_3_2] :: l') := Eq.mp (by kernel_rfl) hS
     refine pa (v := .agg #[.bool q6.2.fneg, .slice q2 q6.2.fmag.length c_y1_ret_1_3_2]) (ld_sub agg_79 (hE4 6 rfl) rfl rfl hS) <| x_done <| ?_
     refine x_fin ⟨⟨_, rfl⟩, rfl, ?_⟩
     exact Eq.mp (by kernel_rfl) hS
    ·intro Ep4 w l' hE4 hO4 hF_ hS
     obtain ⟨q10, -⟩ := hF_
     replace q10 : Ep4 20 = .agg #[.bool q5, .slice q3 q4.length c_b3_1_L2h] := Eq.mp (by kernel_rfl) q10
     replace hS : St w0 w (cells b2 79 [.bool q0d, .slice q9 q0a.length c_b2_1_L2h] :: l') := Eq.mp (by kernel_rfl) hS
     refine o_storeAgg (news := [.bool q5, .slice q3 q4.length c_b3_1_L2h]) agg_79 ((hE4 2 rfl).trans q0w) q10 rfl (by simp [over_length]) hS (fun w' hS => ?_)
     refine x_done <| ?_
     refine x_fin ⟨⟨undef, rfl⟩, trivial, ?_⟩
     exact Eq.mp (by kernel_rfl) hS
    ·intro Ep4 w l' hE4 hO4 hF_ hS
     obtain ⟨q11, -⟩ := hF_
     replace q11 : Ep4 21 = .agg #[.bool q6.2.fneg, .slice q2 q6.2.fmag.length c_y1_ret_1_3_2] := Eq.mp (by kernel_rfl) q11
     replace hS : St w0 w (cells b3 79 [.bool q5, .slice q3 q4.length c_b3_1_L2h] :: l') := Eq.mp (by kernel_rfl) hS
     refine o_storeAgg (news := [.bool q6.2.fneg, .slice q2 q6.2.fmag.length c_y1_ret_1_3_2]) agg_79 ((hE4 3 rfl).trans q0s) q11 rfl (by simp [over_length]) hS (fun w' hS => ?_)
     refine x_done <| ?_
     refine x_fin ⟨⟨undef, rfl⟩, trivial, ?_⟩
     exact Eq.mp (by kernel_rfl) hS
   intro Ep4 w' hE4 hF_ hS
   obtain ⟨q10, q11, -⟩ := hF_
   replace q10 : Ep4 20 = .agg #[.bool q5, .slice q3 q4.length c_b3_1_L2h] := Eq.mp (by kernel_rfl) q10
   replace q11 : Ep4 21 = .agg #[.bool q6.2.fneg, .slice q2 q6.2.fmag.length c_y1_ret_1_3_2] := Eq.mp (by kernel_rfl) q11
   replace hS : St w0 w' (cells b6 79 [.bool q6.2.fneg, .slice q2 q6.2.fmag.length c_y1_ret_1_3_2] :: cells b2 79 [.bool q5, .slice q3 q4.length c_b3_1_L2h] :: cells b3 79 [.bool q6.2.fneg, .slice q2 q6.2.fmag.length c_y1_ret_1_3_2] :: (cells b5 79 [.bool q6.1.fneg, .slice q0k q6.1.fmag.length c_y0_ret_1_3_2] :: ro q1a :: cells b4 79 [.bool false, .slice none 0 0] :: l)) := Eq.mp (by kernel_rfl) hS
   refine x_blk <| ?_
   have e_ := Option.some.inj (show some _ = some _ from hFL2); subst e_
   exact x_inv ⟨kL2, Nat.lt_succ_self _, q1a, q3, q4.length, c_b3_1_L2h, q2, q6.2.fmag.length, c_y1_ret_1_3_2, q5, q4, q6.2.fneg, q6.2.fmag, hLL2, (q14.trans q1b), ((hE4 2 rfl).trans q0w), ((hE4 3 rfl).trans q0s), ((hE4 4 rfl).trans q19), (q0f.le q1b), q0l, (((((hS.drop.pull 2).drop.pull 2).pull 3).pull 3).pull 3)⟩
  ·replace hFL2 := it_f hc13 hFL2
   refine x_exitTo _ rfl <| ?_
   have e_ := Option.some.inj (show some _ = some _ from hFL2); subst e_
   exact x_inv ⟨q0t, q9, q0a.length, c_b2_1_L2h, q0d, q0a, hLL2, q14, q0w, q19, q0o, ((((hS.pull 1).drop.pull 2).pull 2).pull 2)⟩
 rintro E w ⟨q13, q0e, q0r, c_b2_1_L2, q0j, q0g, rfl, q1l, q1q, q1e, q12, hS⟩
 have e_ := q12.n; subst e_
 refine x_seq <| x_region <| pa (v := .agg #[.bool q0j, .slice q0e q0g.length c_b2_1_L2]) (ld_sub agg_79 q1q rfl rfl hS) <| ?_
 refine o_storeAgg (news := [.bool q0j, .slice q0e q0g.length c_b2_1_L2]) agg_79 q1e rfl rfl (by simp [over_length]) (hS.pull 1) (fun w' hS => ?_)
 refine x_done <| ?_
 have e_ := Option.some.inj (show some _ = some _ from hF); subst e_
 exact x_return ⟨_, ⟨_, _, _, rfl, q1e, ldvA agg_79 rfl (fun j v hj => by rw [add0]; exact St.cell hS hj), rfl⟩, q13, q0e, q0g.length, c_b2_1_L2, rfl, q1l, q12, hS.drop.drop⟩
attribute [irreducible] P_exact_Gcd

def P_exact_reduced (n0 : T_exact_Int) (d1 : T_exact_Int) : Option (T_exact_Ratio × Int) :=
 bd (P_exact_Sign d1) fun q0c =>
 bd (
  if q0c < 0 then
   bd (P_exact_Neg n0) fun q8 =>
   bd (P_exact_Neg d1) fun q9 =>
   some (q8.fneg, q8.fmag, q9.fneg, q9.fmag)
  else
   some (n0.fneg, n0.fmag, d1.fneg, d1.fmag)) fun (q2, q3, q4, q5) =>
 bd (P_exact_Gcd (T_exact_Int.mk q2 q3) (T_exact_Int.mk q4 q5)) fun q0a =>
 bd (P_exact_split (T_exact_Int.mk q2 q3) q0a) fun q6 =>
 bd (P_exact_split (T_exact_Int.mk q4 q5) q0a) fun q7 =>
 bd (P_exact_Bits q6.1) fun q0b =>
 bd (gd (!(decide (65536 < q0b))) (P_exact_Bits q7.1)) fun q0d =>
 lv ((decide (65536 < q0b)) || (decide (65536 < q0d))) fun x36 =>
 if x36 = true then
  some ((T_exact_Ratio.mk (T_exact_Int.mk false []) (T_exact_Int.mk false [])), (3 : Int))
 else
  some ((T_exact_Ratio.mk (T_exact_Int.mk q6.1.fneg q6.1.fmag) (T_exact_Int.mk q7.1.fneg q7.1.fmag)), (0 : Int))
set_option maxHeartbeats 4000000 in
set_option maxRecDepth 100000 in
theorem c_exact_reduced {w0 w : World} {l : List Assn} {ρ : Heap} {q7 : Option Addr} {q19 : Nat} {c_n0_1 : Nat} {q6 : Option Addr} {q1a : Nat} {c_d1_1 : Nat} {n0 : T_exact_Int} {d1 : T_exact_Int} {r : (T_exact_Ratio × Int)} (hF : P_exact_reduced n0 d1 = some r) (q18 : RdS (RpI .u32) ρ q7 q19 c_n0_1 n0.fmag) (q0s : RdS (RpI .u32) ρ q6 q1a c_d1_1 d1.fmag) (hS : St w0 w (ro ρ :: l)) :
  Calls Try.prog 94 #[.agg #[.bool n0.fneg, .slice q7 q19 c_n0_1], .agg #[.bool d1.fneg, .slice q6 q1a c_d1_1]] w fun e w' => ∃ (ρ' : Heap) (q0t : Option Addr) (q0u : Nat) (c_y0_ret_1 : Nat) (q0v : Option Addr) (q0w : Nat) (c_y0_ret_3 : Nat), e = .returned (.tuple #[.agg #[.bool r.1.Num.fneg, .slice q0t q0u c_y0_ret_1, .bool r.1.Den.fneg, .slice q0v q0w c_y0_ret_3], .int .i64 r.2]) ∧ Le ρ ρ' ∧ RdS (RpI .u32) ρ' q0t q0u c_y0_ret_1 r.1.Num.fmag ∧ RdS (RpI .u32) ρ' q0v q0w c_y0_ret_3 r.1.Den.fmag ∧ St w0 w' (ro ρ' :: l) := by
 have e_ := q18.n; subst e_
 have e_ := q0s.n; subst e_
 refine enterC Try.func94 rfl 41 rfl (by simp) ?_
 refine x_seq <| x_region <| ?_
 refine o_box (cs := [.bool n0.fneg, .slice q7 n0.fmag.length c_n0_1]) rfl rfl hS (fun b2 w' hS => ?_)
 refine o_box (cs := [.bool d1.fneg, .slice q6 d1.fmag.length c_d1_1]) rfl rfl hS (fun b3 w' hS => ?_)
 refine o_alloc zero_94 hS (fun b4 w' hS => ?_)
 replace hF := bd_s hF; obtain ⟨q1z, q1r, hF⟩ := hF
 refine p (yl_assign rfl) <| x_done <| x_seq <| x_seq <|
  x_region <| pa (v := .agg #[.bool d1.fneg, .slice q6 d1.fmag.length c_d1_1]) (ld_sub agg_79 rfl rfl rfl (hS.pull 1)) <| ?_
 have hcall := c_exact_Sign q1r q0s (hS.pull 3)
 refine o_cc call_44 (args1 rfl) ((Calls.mono hcall (fun e w'' h => And.intro h.1 (((h.2.pull 3).pull 3).pull 3)))) ?_
 rintro e w' ⟨rfl, hS⟩
 refine ⟨_, rfl, ?_⟩
 refine p (yl_lss rfl rfl) <| x_done <| ?_
 replace hF := bd_s hF; obtain ⟨oc9, hFc9, hF⟩ := hF
 refine x_join (fun E w => ∃ (q0e : Option Addr) (q0m : Nat) (c_b2_1_c9 : Nat) (q0f : Option Addr) (q0n : Nat) (c_b3_1_c9 : Nat) (q0g : Bool) (q0h : List Int) (q0i : Bool) (q0j : List Int), (q0g, q0h, q0i, q0j) = oc9 ∧ E 2 = .pointer (some ⟨b2, 0, none⟩) ∧ E 3 = .pointer (some ⟨b3, 0, none⟩) ∧ E 4 = .pointer (some ⟨b4, 0, none⟩) ∧ RdS (RpI .u32) ρ q0e q0m c_b2_1_c9 q0h ∧ RdS (RpI .u32) ρ q0f q0n c_b3_1_c9 q0j ∧ St w0 w (cells b2 79 [.bool q0g, .slice q0e q0m c_b2_1_c9] :: cells b3 79 [.bool q0i, .slice q0f q0n c_b3_1_c9] :: cells b4 94 [.bool false, .slice none 0 0, .bool false, .slice none 0 0] :: ro ρ :: l)) ?_ ?_
 ·refine x_cond_p (q1z < 0) rfl (fun hc9 => ?_) (fun hc9 => ?_)
  ·replace hFc9 := it_t hc9 hFc9
   replace hFc9 := bd_s hFc9; obtain ⟨q4, q1s, hFc9⟩ := hFc9
   replace hFc9 := bd_s hFc9; obtain ⟨q5, q1t, hFc9⟩ := hFc9
   refine x_par (w0 := w0) [⟨[], [], [10], [0], [], []⟩, ⟨[0], [0], [11], [1], [], []⟩, ⟨[], [], [12], [2], [], []⟩, ⟨[0, 1, 2], [2], [13], [1], [], []⟩, ⟨[0, 1, 2, 3], [1], [], [], [0], [3]⟩, ⟨[0, 1, 2, 3, 4], [3], [], [], [2], [4]⟩] [⟨none, (some 4), []⟩, ⟨none, none, []⟩, ⟨none, (some 5), []⟩, ⟨(some 4), none, [11]⟩, ⟨(some 5), none, [13]⟩] [10, 11, 12, 13] [0, 1, 2] [1, 3, 4] [0, 1, 2, 3] [fun Ep2 => Ep2 10 = .agg #[.bool n0.fneg, .slice q7 n0.fmag.length c_n0_1], fun Ep2 => Ep2 11 = .agg #[.bool q4.fneg, .slice (adOf (partOf 1 (Ep2 11))) q4.fmag.length (capOf (partOf 1 (Ep2 11)))] ∧ RdS (RpI .u32) ρ (adOf (partOf 1 (Ep2 11))) q4.fmag.length (capOf (partOf 1 (Ep2 11))) q4.fmag, fun Ep2 => Ep2 12 = .agg #[.bool d1.fneg, .slice q6 d1.fmag.length c_d1_1], fun Ep2 => Ep2 13 = .agg #[.bool q5.fneg, .slice (adOf (partOf 1 (Ep2 13))) q5.fmag.length (capOf (partOf 1 (Ep2 13)))] ∧ RdS (RpI .u32) ρ (adOf (partOf 1 (Ep2 13))) q5.fmag.length (capOf (partOf 1 (Ep2 13))) q5.fmag, fun Ep2 => True, fun Ep2 => True] [fun Ep2 => cells b2 79 [.bool n0.fneg, .slice q7 n0.fmag.length c_n0_1], fun Ep2 => ro ρ, fun Ep2 => cells b3 79 [.bool d1.fneg, .slice q6 d1.fmag.length c_d1_1], fun Ep2 => cells b2 79 [.bool q4.fneg, .slice (adOf (partOf 1 (Ep2 11))) q4.fmag.length (capOf (partOf 1 (Ep2 11)))], fun Ep2 => cells b3 79 [.bool q5.fneg, .slice (adOf (partOf 1 (Ep2 13))) q5.fmag.length (capOf (partOf 1 (Ep2 13)))]] mixed (by kernel_rfl) (((hS.pull 1).pull 3).pull 3) ?_ ?_
   ·refine ⟨?_, ?_, ?_, ?_, ?_, ?_, trivial⟩
    ·intro Ep2 w l' hE2 hO2 hF_ hS
     replace hS : St w0 w (cells b2 79 [.bool n0.fneg, .slice q7 n0.fmag.length c_n0_1] :: l') := Eq.mp (by kernel_rfl) hS
     refine pa (v := .agg #[.bool n0.fneg, .slice q7 n0.fmag.length c_n0_1]) (ld_sub agg_79 (hE2 2 rfl) rfl rfl hS) <| x_done <| ?_
     refine x_fin ⟨⟨_, rfl⟩, rfl, ?_⟩
     exact Eq.mp (by kernel_rfl) hS
    ·intro Ep2 w l' hE2 hO2 hF_ hS
     obtain ⟨q12, -⟩ := hF_
     replace q12 : Ep2 10 = .agg #[.bool n0.fneg, .slice q7 n0.fmag.length c_n0_1] := Eq.mp (by kernel_rfl) q12
     replace hS : St w0 w (ro ρ :: l') := Eq.mp (by kernel_rfl) hS
     have hcall := c_exact_Neg q1s q18 hS
     refine o_cc call_43 (args1 q12) hcall ?_
     rintro e w' ⟨q1f, q1g, c_y0_ret_1_2_1, rfl, q0k, hS⟩
     refine ⟨_, rfl, ?_⟩
     have e_ := q0k.n; subst e_
     refine x_done <| ?_
     refine x_fin ⟨⟨_, rfl⟩, ⟨rfl, q0k⟩, ?_⟩
     exact Eq.mp (by kernel_rfl) hS
    ·intro Ep2 w l' hE2 hO2 hF_ hS
     replace hS : St w0 w (cells b3 79 [.bool d1.fneg, .slice q6 d1.fmag.length c_d1_1] :: l') := Eq.mp (by kernel_rfl) hS
     refine pa (v := .agg #[.bool d1.fneg, .slice q6 d1.fmag.length c_d1_1]) (ld_sub agg_79 (hE2 3 rfl) rfl rfl hS) <| x_done <| ?_
     refine x_fin ⟨⟨_, rfl⟩, rfl, ?_⟩
     exact Eq.mp (by kernel_rfl) hS
    ·intro Ep2 w l' hE2 hO2 hF_ hS
     obtain ⟨q13, -⟩ := hF_
     replace q13 : Ep2 12 = .agg #[.bool d1.fneg, .slice q6 d1.fmag.length c_d1_1] := Eq.mp (by kernel_rfl) q13
     replace hS : St w0 w (ro ρ :: l') := Eq.mp (by kernel_rfl) hS
     have hcall := c_exact_Neg q1t q0s hS
     refine o_cc call_43 (args1 q13) hcall ?_
     rintro e w' ⟨q1h, q1i, c_y0_ret_1_2_3, rfl, q0l, hS⟩
     refine ⟨_, rfl, ?_⟩
     have e_ := q0l.n; subst e_
     refine x_done <| ?_
     refine x_fin ⟨⟨_, rfl⟩, ⟨rfl, q0l⟩, ?_⟩
     exact Eq.mp (by kernel_rfl) hS
    ·intro Ep2 w l' hE2 hO2 hF_ hS
     obtain ⟨q0o, -⟩ := hF_
     replace q0o : Ep2 11 = .agg #[.bool q4.fneg, .slice (adOf (partOf 1 (Ep2 11))) q4.fmag.length (capOf (partOf 1 (Ep2 11)))] ∧ RdS (RpI .u32) ρ (adOf (partOf 1 (Ep2 11))) q4.fmag.length (capOf (partOf 1 (Ep2 11))) q4.fmag := Eq.mp (by kernel_rfl) q0o
     have q_ := id q0o; obtain ⟨-, q1d⟩ := q_
     replace hS : St w0 w (cells b2 79 [.bool n0.fneg, .slice q7 n0.fmag.length c_n0_1] :: l') := Eq.mp (by kernel_rfl) hS
     refine o_storeAgg (news := [.bool q4.fneg, .slice (adOf (partOf 1 (Ep2 11))) q4.fmag.length (capOf (partOf 1 (Ep2 11)))]) agg_79 (hE2 2 rfl) q0o.1 rfl (by simp [over_length]) hS (fun w' hS => ?_)
     refine x_done <| ?_
     refine x_fin ⟨⟨undef, rfl⟩, trivial, ?_⟩
     exact Eq.mp (by kernel_rfl) hS
    ·intro Ep2 w l' hE2 hO2 hF_ hS
     obtain ⟨q0p, -⟩ := hF_
     replace q0p : Ep2 13 = .agg #[.bool q5.fneg, .slice (adOf (partOf 1 (Ep2 13))) q5.fmag.length (capOf (partOf 1 (Ep2 13)))] ∧ RdS (RpI .u32) ρ (adOf (partOf 1 (Ep2 13))) q5.fmag.length (capOf (partOf 1 (Ep2 13))) q5.fmag := Eq.mp (by kernel_rfl) q0p
     have q_ := id q0p; obtain ⟨-, q1e⟩ := q_
     replace hS : St w0 w (cells b3 79 [.bool d1.fneg, .slice q6 d1.fmag.length c_d1_1] :: l') := Eq.mp (by kernel_rfl) hS
     refine o_storeAgg (news := [.bool q5.fneg, .slice (adOf (partOf 1 (Ep2 13))) q5.fmag.length (capOf (partOf 1 (Ep2 13)))]) agg_79 (hE2 3 rfl) q0p.1 rfl (by simp [over_length]) hS (fun w' hS => ?_)
     refine x_done <| ?_
     refine x_fin ⟨⟨undef, rfl⟩, trivial, ?_⟩
     exact Eq.mp (by kernel_rfl) hS
   intro Ep2 w' hE2 hF_ hS
   obtain ⟨q12, q0o, q13, q0p, -⟩ := hF_
   replace q12 : Ep2 10 = .agg #[.bool n0.fneg, .slice q7 n0.fmag.length c_n0_1] := Eq.mp (by kernel_rfl) q12
   replace q0o : Ep2 11 = .agg #[.bool q4.fneg, .slice (adOf (partOf 1 (Ep2 11))) q4.fmag.length (capOf (partOf 1 (Ep2 11)))] ∧ RdS (RpI .u32) ρ (adOf (partOf 1 (Ep2 11))) q4.fmag.length (capOf (partOf 1 (Ep2 11))) q4.fmag := Eq.mp (by kernel_rfl) q0o
   have q_ := id q0o; obtain ⟨-, q1d⟩ := q_
   replace q13 : Ep2 12 = .agg #[.bool d1.fneg, .slice q6 d1.fmag.length c_d1_1] := Eq.mp (by kernel_rfl) q13
   replace q0p : Ep2 13 = .agg #[.bool q5.fneg, .slice (adOf (partOf 1 (Ep2 13))) q5.fmag.length (capOf (partOf 1 (Ep2 13)))] ∧ RdS (RpI .u32) ρ (adOf (partOf 1 (Ep2 13))) q5.fmag.length (capOf (partOf 1 (Ep2 13))) q5.fmag := Eq.mp (by kernel_rfl) q0p
   have q_ := id q0p; obtain ⟨-, q1e⟩ := q_
   replace hS : St w0 w' (ro ρ :: cells b2 79 [.bool q4.fneg, .slice (adOf (partOf 1 (Ep2 11))) q4.fmag.length (capOf (partOf 1 (Ep2 11)))] :: cells b3 79 [.bool q5.fneg, .slice (adOf (partOf 1 (Ep2 13))) q5.fmag.length (capOf (partOf 1 (Ep2 13)))] :: (cells b4 94 [.bool false, .slice none 0 0, .bool false, .slice none 0 0] :: l)) := Eq.mp (by kernel_rfl) hS
   exact x_inv ⟨(adOf (partOf 1 (Ep2 11))), q4.fmag.length, (capOf (partOf 1 (Ep2 11))), (adOf (partOf 1 (Ep2 13))), q5.fmag.length, (capOf (partOf 1 (Ep2 13))), q4.fneg, q4.fmag, q5.fneg, q5.fmag, (Option.some.inj (show some _ = some _ from hFc9)), (hE2 2 rfl), (hE2 3 rfl), (hE2 4 rfl), q1d, q1e, (((hS.pull 3).pull 3).pull 3)⟩
  ·replace hFc9 := it_f hc9 hFc9
   refine x_skip <| ?_
   exact x_inv ⟨q7, n0.fmag.length, c_n0_1, q6, d1.fmag.length, c_d1_1, n0.fneg, n0.fmag, d1.fneg, d1.fmag, (Option.some.inj (show some _ = some _ from hFc9)), rfl, rfl, rfl, q18, q0s, ((((hS.pull 3).pull 1).pull 2).pull 3)⟩
 rintro E w ⟨q0e, q0m, c_b2_1_c9, q0f, q0n, c_b3_1_c9, q0g, q0h, q0i, q0j, rfl, q0x, q0y, q17, q0q, q0r, hS⟩
 have e_ := q0q.n; subst e_
 have e_ := q0r.n; subst e_
 replace hF := bd_s hF; obtain ⟨q14, q1u, hF⟩ := hF
 refine x_seq <| x_region <| pa (v := .agg #[.bool q0g, .slice q0e q0h.length c_b2_1_c9]) (ld_sub agg_79 q0x rfl rfl hS) <| pa (v := .agg #[.bool q0i, .slice q0f q0j.length c_b3_1_c9]) (ld_sub agg_79 q0y rfl rfl (hS.pull 1)) <| ?_
 have hcall := c_exact_Gcd q1u q0q q0r (hS.pull 3)
 refine o_cc call_124 (args2 rfl rfl) hcall ?_
 rintro e w' ⟨q20, q8, q1j, c_y0_ret_1_3_2, rfl, q0z, q9, hS⟩
 refine ⟨_, rfl, ?_⟩
 have e_ := q9.n; subst e_
 refine o_alloc zero_79 hS (fun b6 w' hS => ?_)
 refine o_storeAgg (news := [.bool q14.fneg, .slice q8 q14.fmag.length c_y0_ret_1_3_2]) agg_79 rfl rfl rfl (by simp [over_length]) hS (fun w' hS => ?_)
 replace hF := bd_s hF; obtain ⟨q0a, q1v, hF⟩ := hF
 refine x_done <| x_seq <| x_region <| pa (v := .agg #[.bool q0g, .slice q0e q0h.length c_b2_1_c9]) (ld_sub agg_79 q0x rfl rfl (hS.pull 2)) <|
  pa (v := .agg #[.bool q14.fneg, .slice q8 q14.fmag.length c_y0_ret_1_3_2]) (ld_sub agg_79 rfl rfl rfl hS) <| ?_
 have hcall := c_exact_split q1v (q0q.le q0z) q9 (hS.pull 1)
 refine o_cc call_103 (args2 rfl rfl) hcall ?_
 rintro e w' ⟨q21, q2, q1k, c_y0_ret_1_4_2, q1l, q1m, c_y1_ret_1_4_2, rfl, q10, q0b, q15, hS⟩
 refine ⟨_, rfl, ?_⟩
 have e_ := q0b.n; subst e_
 have e_ := q15.n; subst e_
 refine p (yl_move rfl) <| p (yl_extract rfl rfl) <| p (yl_extract rfl rfl) <| ?_
 refine o_storeAgg (news := [.bool q0a.1.fneg, .slice q2 q0a.1.fmag.length c_y0_ret_1_4_2]) agg_79 q0x rfl rfl (by simp [over_length]) (hS.pull 2) (fun w' hS => ?_)
 replace hF := bd_s hF; obtain ⟨q0c, q1w, hF⟩ := hF
 refine x_done <| x_seq <| x_region <| pa (v := .agg #[.bool q0i, .slice q0f q0j.length c_b3_1_c9]) (ld_sub agg_79 q0y rfl rfl (hS.pull 3)) <|
  pa (v := .agg #[.bool q14.fneg, .slice q8 q14.fmag.length c_y0_ret_1_3_2]) (ld_sub agg_79 rfl rfl rfl (hS.pull 2)) <| ?_
 have hcall := c_exact_split q1w (q0r.le (q0z.trans q10)) (q9.le q10) (hS.pull 1)
 refine o_cc call_103 (args2 rfl rfl) hcall ?_
 rintro e w' ⟨q1b, q3, q1n, c_y0_ret_1_5_2, q1o, q1p, c_y1_ret_1_5_2, rfl, q11, q0d, q16, hS⟩
 refine ⟨_, rfl, ?_⟩
 have e_ := q0d.n; subst e_
 have e_ := q16.n; subst e_
 refine p (yl_move rfl) <| p (yl_extract rfl rfl) <| p (yl_extract rfl rfl) <| ?_
 refine o_storeAgg (news := [.bool q0c.1.fneg, .slice q3 q0c.1.fmag.length c_y0_ret_1_5_2]) agg_79 q0y rfl rfl (by simp [over_length]) (hS.pull 3) (fun w' hS => ?_)
 replace hF := bd_s hF; obtain ⟨q1c, q1x, hF⟩ := hF
 refine x_done <| x_seq <| x_seq <| x_region <|
  pa (v := .agg #[.bool q0a.1.fneg, .slice q2 q0a.1.fmag.length c_y0_ret_1_4_2]) (ld_sub agg_79 q0x rfl rfl (hS.pull 2)) <| ?_
 have hcall := c_exact_Bits q1x (q0b.le q11) (hS.pull 1)
 refine o_cc call_123 (args1 rfl) ((Calls.mono hcall (fun e w'' h => And.intro h.1 (((((h.2.pull 4).pull 4).pull 4).pull 3).pull 4)))) ?_
 rintro e w' ⟨rfl, hS⟩
 refine ⟨_, rfl, ?_⟩
 replace hF := bd_s hF; obtain ⟨q1q, q1y, hF⟩ := hF
 refine p (yl_gtr rfl rfl) <| p (yl_move rfl) <| pg (v := .agg #[.bool q0c.1.fneg, .slice q3 q0c.1.fmag.length c_y0_ret_1_5_2]) 32 (c := !(decide (65536 < q1c))) (says_f _) (fun hq => ld_sub agg_79 q0y rfl rfl hS) <|
  pccg (v := .int .i64 q1q) 32 (c := !(decide (65536 < q1c))) (says_f _) call_123 (fun hq => (args1 (cv hq))) hS (fun hq => by
   have hcall := c_exact_Bits (gd_t q1y hq) q0d (hS.pull 1)
   exact (Calls.mono hcall (fun e w'' h => And.intro h.1 (((((h.2.pull 4).pull 4).pull 4).pull 3).pull 4)))) (fun w' hS => ?_)
 replace hF := lv_s hF; obtain ⟨x36, hx36, hF⟩ := hF
 refine pg (v := .bool (decide (65536 < q1q))) 32 (c := !(decide (65536 < q1c))) (says_f _) (fun hq => Yl.at (yl_gtr (cv hq) rfl)) <| p (yor' rfl rfl (fun hc => (cv (t_not hc))) hx36) <| x_done <|
  x_cond (t := x36) rfl (fun hc36 => ?_) (fun hc36 => ?_)
 ·replace hF := it_t hc36 hF
  refine x_seq <| x_region <| p (v := .agg #[.bool false, .slice none 0 0, .bool false, .slice none 0 0]) (yl_build bld_94 bldf_94 (parts_eq pt0) (by kernel_rfl)) <| ?_
  refine o_storeAgg (news := [.bool false, .slice none 0 0, .bool false, .slice none 0 0]) agg_94 q17 rfl rfl (by simp [over_length]) (hS.pull 4) (fun w' hS => ?_)
  refine p (yl_assign rfl) <| x_done <| ?_
  have e_ := Option.some.inj (show some _ = some _ from hF); subst e_
  exact x_return ⟨_, ⟨_, _, _, rfl, q17, ldvA agg_94 rfl (fun j v hj => by rw [add0]; exact St.cell hS hj), _, _, rfl, rfl, rfl⟩, q1b, none, 0, 0, none, 0, 0, rfl, ((q0z.trans q10).trans q11), (RdS.nil (A := none) (c := 0)), (RdS.nil (A := none) (c := 0)), (((hS.drop.drop.pull 1).drop.pull 1).drop)⟩
 ·replace hF := it_bf hc36 hF
  refine x_skip <| x_seq <| x_region <| pa (v := .agg #[.bool q0a.1.fneg, .slice q2 q0a.1.fmag.length c_y0_ret_1_4_2]) (ld_sub agg_79 q0x rfl rfl (hS.pull 2)) <|
   pa (v := .agg #[.bool q0c.1.fneg, .slice q3 q0c.1.fmag.length c_y0_ret_1_5_2]) (ld_sub agg_79 q0y rfl rfl hS) <| p (v := .agg #[.bool q0a.1.fneg, .slice q2 q0a.1.fmag.length c_y0_ret_1_4_2, .bool q0c.1.fneg, .slice q3 q0c.1.fmag.length c_y0_ret_1_5_2]) (yl_build bld_94 bldf_94 (parts_eq (pt (va := .agg #[.bool q0a.1.fneg, .slice q2 q0a.1.fmag.length c_y0_ret_1_4_2]) rfl (pt (va := .agg #[.bool q0c.1.fneg, .slice q3 q0c.1.fmag.length c_y0_ret_1_5_2]) rfl pt0))) (by kernel_rfl)) <| ?_
  refine o_storeAgg (news := [.bool q0a.1.fneg, .slice q2 q0a.1.fmag.length c_y0_ret_1_4_2, .bool q0c.1.fneg, .slice q3 q0c.1.fmag.length c_y0_ret_1_5_2]) agg_94 q17 rfl rfl (by simp [over_length]) (hS.pull 4) (fun w' hS => ?_)
  refine p (yl_assign rfl) <| x_done <| ?_
  have e_ := Option.some.inj (show some _ = some _ from hF); subst e_
  exact x_return ⟨_, ⟨_, _, _, rfl, q17, ldvA agg_94 rfl (fun j v hj => by rw [add0]; exact St.cell hS hj), _, _, rfl, rfl, rfl⟩, q1b, q2, q0a.1.fmag.length, c_y0_ret_1_4_2, q3, q0c.1.fmag.length, c_y0_ret_1_5_2, rfl, ((q0z.trans q10).trans q11), (q0b.le q11), q0d, (((hS.drop.drop.pull 1).drop.pull 1).drop)⟩
attribute [irreducible] P_exact_reduced

def P_exact_Solve_L7 (b1 : List Int) : Int → Option (Int ⊕ (Unit ⊕ (List T_exact_Ratio × Int))) := fun q2 =>
 if q2 < (b1.length : Int) then
  ck (inb q2 b1.length) <|
  lv (gt b1 q2) fun x31 =>
  lv ((decide (x31 < (-1099511627776))) || (decide (1099511627776 < x31))) fun x37 =>
  if x37 = true then
   some (Sum.inr (Sum.inr ([], (2 : Int))))
  else
   ar (q2 + 1) fun x38 =>
   some (Sum.inl x38)
 else
  some (Sum.inr (Sum.inl ()))
def P_exact_Solve_L14 (a0 : List (List Int)) : (Int × List (List T_exact_Int) × Bool × List Int × Bool × Int) → Option ((Int × List (List T_exact_Int) × Bool × List Int × Bool × Int) ⊕ ((List (List T_exact_Int) × Bool × List Int × Bool × Int) ⊕ (List T_exact_Ratio × Int))) := fun (q8, q2, q3, q4, q5, q6) =>
 if q8 < (a0.length : Int) then
  bd (P_exact_table_pivot (T_exact_table.mk q2 (T_exact_Int.mk q3 q4) q5 q6) q8 true) fun q7 =>
  if (!q7.1) = true then
   some (Sum.inr (Sum.inr ([], (7 : Int))))
  else
   ar (q8 + 1) fun x52 =>
   some (Sum.inl (x52, q7.2.1, q7.2.2.1, q7.2.2.2.1, q7.2.2.2.2.1, q7.2.2.2.2.2))
 else
  some (Sum.inr (Sum.inl (q2, q3, q4, q5, q6)))
def P_exact_Solve_L21 (a0 : List (List Int)) (q8 : (List (List T_exact_Int) × Bool × List Int)) (q2 : List (List T_exact_Int)) : (List T_exact_Ratio × Int) → Option ((List T_exact_Ratio × Int) ⊕ (List T_exact_Ratio ⊕ (List T_exact_Ratio × Int))) := fun (q4, q3) =>
 if q3 < (q8.1.length : Int) then
  ck (inb q3 q2.length) <|
  lv (gt q2 q3) fun q5 =>
  ck (inb (a0.length : Int) q5.length) <|
  lv (gt q5 (a0.length : Int)) fun q9 =>
  ck (inb q3 q5.length) <|
  lv (gt q5 q3) fun q0a =>
  bd (P_exact_reduced q9 q0a) fun q6 =>
  if q6.2 ≠ 0 then
   some (Sum.inr (Sum.inr ([], q6.2)))
  else
   lv (q4 ++ [q6.1]) fun q7 =>
   ck (apOk 64 q7.length) <|
   ar (q3 + 1) fun x83 =>
   some (Sum.inl (q7, x83))
 else
  some (Sum.inr (Sum.inl q4))
def P_exact_Solve (a0 : List (List Int)) (b1 : List Int) : Option (List T_exact_Ratio × Int) :=
 bd (P_exact_square a0) fun q9 =>
 if q9 ≠ 0 then
  some ([], q9)
 else
  if (b1.length : Int) ≠ (a0.length : Int) then
   some ([], (4 : Int))
  else
   bs (
    lp (P_exact_Solve_L7 b1) fuel 0) (fun y => some y) fun _ =>
   bd (P_exact_begin a0 ([b1] : List (List Int))) fun q3 =>
   bs (
    lp (P_exact_Solve_L14 a0) fuel (0, q3.1, q3.2.1, q3.2.2, false, 0)) (fun y => some y) fun (q2, q4, q5, q6, q7) =>
   bs (
    lp (P_exact_Solve_L21 a0 q3 q2) fuel ([], 0)) (fun y => some y) fun q8 =>
   some (q8, (0 : Int))
set_option maxHeartbeats 4000000 in
set_option maxRecDepth 100000 in
theorem c_exact_Solve {w0 w : World} {l : List Assn} {ρ : Heap} {q1i : Option Addr} {q3w : Nat} {c_a0 : Nat} {q1j : Option Addr} {q3x : Nat} {c_b1 : Nat} {a0 : List (List Int)} {b1 : List Int} {r : (List T_exact_Ratio × Int)} (hF : P_exact_Solve a0 b1 = some r) (q3k : RdS (RpSl (RpI .i64)) ρ q1i q3w c_a0 a0) (q37 : RdS (RpI .i64) ρ q1j q3x c_b1 b1) (hS : St w0 w (ro ρ :: l)) :
  Calls Try.prog 45 #[.slice q1i q3w c_a0, .slice q1j q3x c_b1] w fun e w' => ∃ (ρ' : Heap) (q2o : Option Addr) (q2a : Nat) (c_y0_ret : Nat) (q2n : List Value), e = .returned (.tuple #[.slice q2o q2a c_y0_ret, .int .i64 r.2]) ∧ Le ρ ρ' ∧ RepL R_exact_Ratio ρ' r.1 q2n ∧ St w0 w' (vec 94 R_exact_Ratio.sz (.slice q2o q2a c_y0_ret) q2a q2n :: ro ρ' :: l) := by
 have e_ := q3k.n; subst e_
 have e_ := q37.n; subst e_
 refine enterC Try.func45 rfl 85 rfl (by simp) ?_
 replace hF := bd_s hF; obtain ⟨q2p, q4c, hF⟩ := hF
 refine x_seq <| x_region <| p (yl_assign rfl) <| p (yl_assign rfl) <|
  x_done <| x_seq <| x_seq <| x_region <|
  p (yl_move rfl) <| ?_
 have hcall := c_exact_square q4c q3k hS
 refine o_cc call_85 (args1 rfl) (hcall) ?_
 rintro e w' ⟨rfl, hS⟩
 refine ⟨_, rfl, ?_⟩
 refine p (v := .int .i64 q2p) (yl_assign rfl) <| x_done <| x_seq <| x_region <|
  p (v := .int .i64 q2p) (yl_move rfl) <| p (yl_neq rfl rfl) <| x_done <|
  x_cond_p (q2p ≠ 0) rfl (fun hc19 => ?_) (fun hc19 => ?_)
 ·replace hF := it_t hc19 hF
  refine x_seq <| x_region <| p (v := .int .i64 q2p) (yl_move rfl) <| p (yl_assign rfl) <|
   p (v := .int .i64 q2p) (yl_assign rfl) <| x_done <| ?_
  replace hS := St.vec_nil hS 94 R_exact_Ratio.sz
  have q6 : RepL R_exact_Ratio ρ [] [] := rfl
  have e_ := Option.some.inj (show some _ = some _ from hF); subst e_
  exact x_return ⟨_, ⟨_, _, rfl, rfl, _, _, rfl, rfl, rfl⟩, ρ, none, 0, 0, [], rfl, (Le.refl _), q6, ((hS.pull 1).pull 1)⟩
 ·replace hF := it_f hc19 hF
  refine x_skip <| x_seq <| x_seq <| x_region <|
   p (yl_move rfl) <| p (yl_len_slice usl_87 rfl) <| p (yl_move rfl) <| p (yl_len_slice usl_75 rfl) <|
   p (yl_neq rfl rfl) <| x_done <|
   x_cond_p ((b1.length : Int) ≠ (a0.length : Int)) rfl (fun hc25 => ?_) (fun hc25 => ?_)
  ·replace hF := it_t hc25 hF
   refine x_seq <| x_region <| p (yl_assign rfl) <| p (yl_assign rfl) <|
    x_done <| ?_
   replace hS := St.vec_nil hS 94 R_exact_Ratio.sz
   have q6 : RepL R_exact_Ratio ρ [] [] := rfl
   have e_ := Option.some.inj (show some _ = some _ from hF); subst e_
   exact x_return ⟨_, ⟨_, _, rfl, rfl, _, _, rfl, rfl, rfl⟩, ρ, none, 0, 0, [], rfl, (Le.refl _), q6, ((hS.pull 1).pull 1)⟩
  ·replace hF := it_f hc25 hF
   refine x_skip <| x_seq <| x_seq <| x_region <|
    p (yl_move rfl) <| p (yl_len_slice usl_87 rfl) <| p (yl_move rfl) <| x_done <| ?_
   replace hF := bs_s hF; obtain ⟨oL7, hLL7, hF⟩ := hF
   refine x_join (fun E w => (Sum.inl (())) = oL7 ∧ E 0 = .slice q1i a0.length c_a0 ∧ E 1 = .slice q1j b1.length c_b1 ∧ St w0 w (ro ρ :: l)) ?_ ?_
   ·refine x_block ?_
    refine x_loop (fun k_ E w => ∃ (q1v : Int), lp (P_exact_Solve_L7 b1) k_ q1v = some oL7 ∧ E 0 = .slice q1i a0.length c_a0 ∧ E 1 = .slice q1j b1.length c_b1 ∧ E 26 = .slice q1j b1.length c_b1 ∧ E 27 = .int .i64 (b1.length : Int) ∧ E 28 = .int .i64 q1v ∧ St w0 w (ro ρ :: l)) fuel ⟨0, hLL7, rfl, rfl, rfl, rfl, rfl, hS⟩ ?_
    rintro kL7 E w ⟨q1v, hLL7, q39, q3a, q2x, q2y, q2i, hS⟩
    replace hLL7 := lp_s hLL7; obtain ⟨kL7, obL7, rfl, hFL7, hLL7⟩ := hLL7
    refine x_seq <| x_region <| p (yl_lss q2i q2y) <| x_done <|
     x_seq <|
     x_cond_p (q1v < (b1.length : Int)) rfl (fun hc29 => ?_) (fun hc29 => ?_)
    ·replace hFL7 := it_t hc29 hFL7
     replace hFL7 := ck_s hFL7; obtain ⟨q3m, hFL7⟩ := hFL7
     replace hFL7 := lv_s hFL7; obtain ⟨x31, hx31, hFL7⟩ := hFL7
     replace hFL7 := lv_s hFL7; obtain ⟨x37, hx37, hFL7⟩ := hFL7
     refine x_skip <| x_seq <| x_block <| x_seq <|
      x_region <| p (yix_f sl_87 q2x q2i q37 q3m) <| pa (at_load one_2 rfl (RdS.getW q37 hS q3m hx31)) <| p (yl_assign rfl) <|
      x_done <| x_seq <| x_region <| p (yl_move rfl) <|
      p (yl_lss rfl rfl) <| p (yl_move rfl) <| pg (v := .int .i64 x31) 34 (c := !(decide (x31 < (-1099511627776)))) (says_f _) (fun hq => Yl.at (yl_move rfl)) <| pg (v := .bool (decide (1099511627776 < x31))) 34 (c := !(decide (x31 < (-1099511627776)))) (says_f _) (fun hq => Yl.at (yl_gtr (cv hq) rfl)) <|
      p (yor' rfl rfl (fun hc => (cv (t_not hc))) hx37) <| x_done <|
      x_cond (t := x37) rfl (fun hc37 => ?_) (fun hc37 => ?_)
     ·replace hFL7 := it_t hc37 hFL7
      refine x_seq <| x_region <| p (yl_assign rfl) <| p (yl_assign rfl) <|
       x_done <| ?_
      replace hS := St.vec_nil hS 94 R_exact_Ratio.sz
      have q6 : RepL R_exact_Ratio ρ [] [] := rfl
      have e_ := Option.some.inj (show some _ = some _ from hFL7); subst e_
      have e_ := (show _ = oL7 from hLL7); subst e_
      have e_ := Option.some.inj (show some _ = some _ from hF); subst e_
      exact x_return ⟨_, ⟨_, _, rfl, rfl, _, _, rfl, rfl, rfl⟩, ρ, none, 0, 0, [], rfl, (Le.refl _), q6, ((hS.pull 1).pull 1)⟩
     ·replace hFL7 := it_bf hc37 hFL7
      replace hFL7 := ar_s hFL7; obtain ⟨x38, hx38, hFL7⟩ := hFL7
      refine x_skip <| x_blk <| x_region <| p (yadd q2i rfl hx38) <|
       p (yl_move rfl) <| x_done <| ?_
      have e_ := Option.some.inj (show some _ = some _ from hFL7); subst e_
      exact x_inv ⟨kL7, Nat.lt_succ_self _, x38, hLL7, q39, q3a, q2x, q2y, rfl, hS⟩
    ·replace hFL7 := it_f hc29 hFL7
     refine x_exitTo _ rfl <| ?_
     have e_ := Option.some.inj (show some _ = some _ from hFL7); subst e_
     exact x_inv ⟨hLL7, q39, q3a, hS⟩
   rintro E w ⟨rfl, q38, q4d, hS⟩
   refine x_seq <| x_region <| p (yl_move q38) <| p (yl_move q4d) <| ?_
   refine o_buildSlice (vs := [.slice q1j b1.length c_b1]) (cs := [.slice q1j b1.length c_b1]) sl_75 zero_87 (parts_eq (pt (va := .slice q1j b1.length c_b1) rfl pt0)) rfl (by intro v hv; simp only [List.mem_cons, List.not_mem_nil, or_false] at hv; first | (subst hv; rfl) | (rcases hv with rfl <;> rfl)) (by decide) rfl hS (fun b41 w' hS => ?_)
   have q3y : RepL (RpSl (RpI .i64)) ρ ([b1] : List (List Int)) [.slice q1j b1.length c_b1] := (RepL.cons (cs := [.slice q1j b1.length c_b1]) ⟨_, _, _, rfl, q37⟩ RepL.nil)
   replace hS := St.vec_of (n := 1) (sz := (RpSl (RpI .i64)).sz) hS rfl (by decide)
   have q_ := St.vec_fz ((hS.pull 1).pull 1) q3y; obtain ⟨q4f, q1e, q3q, hS⟩ := q_
   replace hF := bd_s hF; obtain ⟨q0f, q3z, hF⟩ := hF
   have hcall := c_exact_begin q3z (q3k.le q1e) q3q hS
   refine o_cc call_86 (args2 rfl rfl) hcall ?_
   rintro e w' ⟨q2j, q12, q3, q2z, c_b_y0_ret_0_ret_12_3, q1k, q1l, q30, c_b_y0_ret_2_ret_12_3, rfl, q2k, q14, q15, hS⟩
   refine ⟨_, rfl, ?_⟩
   have e_ := St.vec_n (hS.pull 1) q14; subst e_
   have e_ := q15.n; subst e_
   refine p (yl_assign rfl) <| x_done <| x_seq <| x_seq <|
    x_region <| p (yl_move q38) <| p (yl_len_slice usl_75 rfl) <| p (yl_move rfl) <|
    x_done <| ?_
   replace hF := bs_s hF; obtain ⟨oL14, hLL14, hF⟩ := hF
   refine x_join (fun E w => ∃ (q0n : Heap) (q5 : List Value) (q0l : Option Addr) (q0m : Nat) (c_b_y0_ret_12_3_2_L14 : Nat) (q0g : List (List T_exact_Int)) (q0r : Bool) (q0s : List Int) (q0t : Bool) (q0u : Int), (Sum.inl (q0g, q0r, q0s, q0t, q0u)) = oL14 ∧ Le q2j q0n ∧ E 0 = .slice q1i a0.length c_a0 ∧ E 9 = .pointer (some ⟨q12, 0, none⟩) ∧ RepL (RpSl R_exact_Int) q0n q0g q5 ∧ RdS (RpI .u32) q0n q0l q0m c_b_y0_ret_12_3_2_L14 q0s ∧ St w0 w (cells q12 150 [.slice q3 q0f.1.length c_b_y0_ret_0_ret_12_3, .bool q0r, .slice q0l q0m c_b_y0_ret_12_3_2_L14, .bool q0t, .int .i64 q0u] :: vec 155 (RpSl R_exact_Int).sz (.slice q3 q0f.1.length c_b_y0_ret_0_ret_12_3) q0f.1.length q5 :: ro q0n :: l)) ?_ ?_
   ·refine x_block ?_
    refine x_loop (fun k_ E w => ∃ (q1m : Heap) (q8 : List Value) (q0a : Option Addr) (q0i : Nat) (c_b_y0_ret_12_3_2_L14h : Nat) (q1q : Int) (q0b : List (List T_exact_Int)) (q0c : Bool) (q7 : List Int) (q0d : Bool) (q0e : Int), lp (P_exact_Solve_L14 a0) k_ (q1q, q0b, q0c, q7, q0d, q0e) = some oL14 ∧ Le q2j q1m ∧ E 0 = .slice q1i a0.length c_a0 ∧ E 9 = .pointer (some ⟨q12, 0, none⟩) ∧ E 44 = .int .i64 (a0.length : Int) ∧ E 45 = .int .i64 q1q ∧ RepL (RpSl R_exact_Int) q1m q0b q8 ∧ RdS (RpI .u32) q1m q0a q0i c_b_y0_ret_12_3_2_L14h q7 ∧ St w0 w (cells q12 150 [.slice q3 q0f.1.length c_b_y0_ret_0_ret_12_3, .bool q0c, .slice q0a q0i c_b_y0_ret_12_3_2_L14h, .bool q0d, .int .i64 q0e] :: vec 155 (RpSl R_exact_Int).sz (.slice q3 q0f.1.length c_b_y0_ret_0_ret_12_3) q0f.1.length q8 :: ro q1m :: l)) fuel ⟨q2j, q1k, q1l, q0f.2.2.length, c_b_y0_ret_2_ret_12_3, 0, q0f.1, q0f.2.1, q0f.2.2, false, 0, hLL14, (Le.refl _), q38, rfl, rfl, rfl, q14, q15, (((hS.pull 2).pull 2).pull 2)⟩ ?_
    rintro kL14 E w ⟨q1m, q8, q0a, q0i, c_b_y0_ret_12_3_2_L14h, q1q, q0b, q0c, q7, q0d, q0e, hLL14, q1t, q31, q2l, q2q, q2b, q10, q0j, hS⟩
    have e_ := q0j.n; subst e_
    replace hLL14 := lp_s hLL14; obtain ⟨kL14, obL14, rfl, hFL14, hLL14⟩ := hLL14
    refine x_seq <| x_region <| p (yl_lss q2b q2q) <| x_done <|
     x_seq <|
     x_cond_p (q1q < (a0.length : Int)) rfl (fun hc46 => ?_) (fun hc46 => ?_)
    ·replace hFL14 := it_t hc46 hFL14
     replace hFL14 := bd_s hFL14; obtain ⟨q1r, q40, hFL14⟩ := hFL14
     refine x_skip <| x_seq <| x_block <| x_seq <|
      x_region <| p (yl_move q2b) <| p (yl_assign rfl) <| x_done <|
      x_seq <| x_region <| p (yl_move q2l) <| p (yl_move rfl) <| ?_
     have hcall := c_exact_table_pivot q40 q10 q0j (((hS.pull 2).pull 2).pull 2)
     refine o_cc call_87 (args3 rfl rfl rfl) hcall ?_
     rintro e w' ⟨q2m, q1u, q26, q3j, c_b_t0_2_ret_16_2, rfl, q32, q27, q1b, hS⟩
     refine ⟨_, rfl, ?_⟩
     have e_ := q1b.n; subst e_
     refine p (yl_not rfl) <| x_done <|
      x_cond (t := !q1r.1) rfl (fun hc51 => ?_) (fun hc51 => ?_)
     ·replace hFL14 := it_t hc51 hFL14
      refine x_seq <| x_region <| p (yl_assign rfl) <| p (yl_assign rfl) <|
       x_done <| ?_
      replace hS := St.vec_nil hS 94 R_exact_Ratio.sz
      have q6 : RepL R_exact_Ratio q2m [] [] := rfl
      have e_ := Option.some.inj (show some _ = some _ from hFL14); subst e_
      have e_ := (show _ = oL14 from hLL14); subst e_
      have e_ := Option.some.inj (show some _ = some _ from hF); subst e_
      exact x_return ⟨_, ⟨_, _, rfl, rfl, _, _, rfl, rfl, rfl⟩, q2m, none, 0, 0, [], rfl, (((q1e.trans q2k).trans q1t).trans q32), q6, ((((hS.pull 1).drop.pull 1).drop.pull 1).pull 1)⟩
     ·replace hFL14 := it_bf hc51 hFL14
      replace hFL14 := ar_s hFL14; obtain ⟨x52, hx52, hFL14⟩ := hFL14
      refine x_skip <| x_blk <| x_region <| p (yadd q2b rfl hx52) <|
       p (yl_move rfl) <| x_done <| ?_
      have e_ := Option.some.inj (show some _ = some _ from hFL14); subst e_
      exact x_inv ⟨kL14, Nat.lt_succ_self _, q2m, q1u, q26, q1r.2.2.2.1.length, c_b_t0_2_ret_16_2, x52, q1r.2.1, q1r.2.2.1, q1r.2.2.2.1, q1r.2.2.2.2.1, q1r.2.2.2.2.2, hLL14, (q1t.trans q32), q31, q2l, q2q, rfl, q27, q1b, (((hS.pull 2).pull 2).pull 2)⟩
    ·replace hFL14 := it_f hc46 hFL14
     refine x_exitTo _ rfl <| ?_
     have e_ := Option.some.inj (show some _ = some _ from hFL14); subst e_
     exact x_inv ⟨q1m, q8, q0a, q7.length, c_b_y0_ret_12_3_2_L14h, q0b, q0c, q7, q0d, q0e, hLL14, q1t, q31, q2l, q10, q0j, (((hS.pull 2).pull 2).pull 2)⟩
   rintro E w ⟨q0n, q5, q0l, q0m, c_b_y0_ret_12_3_2_L14, q0g, q0r, q0s, q0t, q0u, rfl, q2r, q41, q42, q16, q1n, hS⟩
   have e_ := q1n.n; subst e_
   refine x_seq <| x_region <| p (yl_assign rfl) <| x_done <|
    x_seq <| x_seq <| x_region <| p (yl_move q42) <|
    p (yl_nilCheck rfl) <| p (yl_field0 fld_150_0 rfl) <| pa (at_load one_148 rfl (hS.cell rfl)) <| p (yl_len_slice usl_148 rfl) <|
    p (yl_move rfl) <| x_done <| ?_
   replace hF := bs_s hF; obtain ⟨oL21, hLL21, hF⟩ := hF
   refine x_join (fun E w => ∃ (q2d : Heap) (q19 : Option Addr) (q1a : Nat) (c_out11_L21 : Nat) (q17 : List Value) (q1f : List T_exact_Ratio), (Sum.inl q1f) = oL21 ∧ Le q0n q2d ∧ E 11 = .slice q19 q1a c_out11_L21 ∧ RepL R_exact_Ratio q2d q1f q17 ∧ St w0 w (vec 94 R_exact_Ratio.sz (.slice q19 q1a c_out11_L21) q1a q17 :: ro q2d :: l)) ?_ ?_
   ·refine x_block ?_
    replace hS := St.vec_nil hS 94 R_exact_Ratio.sz
    have q28 : RepL R_exact_Ratio q0n [] [] := rfl
    refine x_loop (fun k_ E w => ∃ (q9 : Heap) (q0z : Option Addr) (q18 : Nat) (c_out11_L21h : Nat) (q0q : List Value) (q0o : List T_exact_Ratio) (q0k : Int), lp (P_exact_Solve_L21 a0 q0f q0g) k_ (q0o, q0k) = some oL21 ∧ Le q0n q9 ∧ E 0 = .slice q1i a0.length c_a0 ∧ E 11 = .slice q0z q18 c_out11_L21h ∧ E 56 = .slice q3 q0f.1.length c_b_y0_ret_0_ret_12_3 ∧ E 57 = .int .i64 (q0f.1.length : Int) ∧ E 58 = .int .i64 q0k ∧ RepL R_exact_Ratio q9 q0o q0q ∧ St w0 w (vec 94 R_exact_Ratio.sz (.slice q0z q18 c_out11_L21h) q18 q0q :: vec 155 (RpSl R_exact_Int).sz (.slice q3 q0f.1.length c_b_y0_ret_0_ret_12_3) q0f.1.length q5 :: ro q9 :: l)) fuel ⟨q0n, none, 0, 0, [], [], 0, hLL21, (Le.refl _), q41, rfl, rfl, rfl, rfl, q28, ((((hS.pull 1).drop.pull 2).pull 2).pull 2)⟩ ?_
    rintro kL21 E w ⟨q9, q0z, q18, c_out11_L21h, q0q, q0o, q0k, hLL21, q0h, q33, q2s, q2t, q2u, q1s, q1c, hS⟩
    have e_ := St.vec_n hS q1c; subst e_
    replace hLL21 := lp_s hLL21; obtain ⟨kL21, obL21, rfl, hFL21, hLL21⟩ := hLL21
    refine x_seq <| x_region <| p (yl_lss q1s q2u) <| x_done <|
     x_seq <|
     x_cond_p (q0k < (q0f.1.length : Int)) rfl (fun hc59 => ?_) (fun hc59 => ?_)
    ·replace hFL21 := it_t hc59 hFL21
     replace hFL21 := ck_s hFL21; obtain ⟨q3b, hFL21⟩ := hFL21
     replace hFL21 := lv_s hFL21; obtain ⟨q1w, q43, hFL21⟩ := hFL21
     have q_ := q16.get q3b; obtain ⟨q4i, q3c, q44⟩ := q_
     rw [← q43] at q3c
     obtain ⟨q13, q4l, q1x, rfl, q2e⟩ := q3c
     have e_ := q2e.n; subst e_
     refine x_skip <| x_seq <| x_block <| x_seq <|
      x_region <| p (yl_move q1s) <| p (yix_o sl_148 q2t q1s (hS.pull 1) q16 q3b) <| pa (at_load one_155 rfl (EltV.ld (m := 0) q44 (hS.pull 1) rfl)) <|
      p (yl_assign rfl) <| p (yl_assign rfl) <| x_done <| x_seq <| ?_
     replace hFL21 := ck_s hFL21; obtain ⟨q3d, hFL21⟩ := hFL21
     replace hFL21 := lv_s hFL21; obtain ⟨q0v, q45, hFL21⟩ := hFL21
     replace hFL21 := ck_s hFL21; obtain ⟨q3e, hFL21⟩ := hFL21
     replace hFL21 := lv_s hFL21; obtain ⟨q0w, q46, hFL21⟩ := hFL21
     replace hFL21 := bd_s hFL21; obtain ⟨q2, q47, hFL21⟩ := hFL21
     refine x_par (w0 := w0) [⟨[], [], [64], [], [], []⟩, ⟨[], [], [65], [], [], []⟩, ⟨[1], [1], [66], [], [], []⟩, ⟨[0, 1, 2], [0, 2], [67], [0], [], []⟩, ⟨[0, 1, 2, 3], [3], [68], [0], [], []⟩, ⟨[], [], [69], [], [], []⟩, ⟨[], [], [70], [], [], []⟩, ⟨[5, 6], [5, 6], [71], [0], [], []⟩, ⟨[5, 6, 7], [7], [72], [0], [], []⟩, ⟨[0, 1, 2, 3, 4, 5, 6, 7, 8], [4, 8], [73], [0], [], [1]⟩, ⟨[0, 1, 2, 3, 4, 5, 6, 7, 8, 9], [9], [63, 73], [], [], []⟩, ⟨[0, 1, 2, 3, 4, 5, 6, 7, 8, 9, 10], [9, 10], [73, 74], [], [], []⟩, ⟨[0, 1, 2, 3, 4, 5, 6, 7, 8, 9, 10], [9, 10], [75], [], [], []⟩, ⟨[], [], [14], [], [], [2]⟩, ⟨[0, 1, 2, 3, 4, 5, 6, 7, 8, 9, 10, 11, 13], [9, 11, 13], [], [], [2], [3]⟩, ⟨[0, 1, 2, 3, 4, 5, 6, 7, 8, 9, 10, 11, 12, 13, 14], [12], [15], [], [], []⟩] [⟨none, none, []⟩, ⟨(some 9), none, [73]⟩, ⟨(some 13), (some 14), [14]⟩, ⟨(some 14), none, [14, 73]⟩] [14, 15, 63, 64, 65, 66, 67, 68, 69, 70, 71, 72, 73, 74, 75] [0] [0, 1, 3] [0, 1, 2, 3, 4, 5, 6, 7, 8, 9, 10, 11, 12, 13, 15] [fun Ep23 => Ep23 64 = .slice q13 q1w.length q1x, fun Ep23 => Ep23 65 = .slice q1i a0.length c_a0, fun Ep23 => Ep23 66 = .int .i64 (a0.length : Int), fun Ep23 => Ep23 67 = .pointer (some ((adr q13).add ((a0.length : Int).toNat * R_exact_Int.sz))), fun Ep23 => Ep23 68 = .agg #[.bool q0v.fneg, .slice (adOf (partOf 1 (Ep23 68))) q0v.fmag.length (capOf (partOf 1 (Ep23 68)))] ∧ RdS (RpI .u32) q0n (adOf (partOf 1 (Ep23 68))) q0v.fmag.length (capOf (partOf 1 (Ep23 68))) q0v.fmag, fun Ep23 => Ep23 69 = .slice q13 q1w.length q1x, fun Ep23 => Ep23 70 = .int .i64 q0k, fun Ep23 => Ep23 71 = .pointer (some ((adr q13).add (q0k.toNat * R_exact_Int.sz))), fun Ep23 => Ep23 72 = .agg #[.bool q0w.fneg, .slice (adOf (partOf 1 (Ep23 72))) q0w.fmag.length (capOf (partOf 1 (Ep23 72)))] ∧ RdS (RpI .u32) q0n (adOf (partOf 1 (Ep23 72))) q0w.fmag.length (capOf (partOf 1 (Ep23 72))) q0w.fmag, fun Ep23 => Ep23 73 = .tuple #[.agg #[.bool q2.1.Num.fneg, .slice (adOf (partOf 1 (partOf 0 (Ep23 73)))) q2.1.Num.fmag.length (capOf (partOf 1 (partOf 0 (Ep23 73)))), .bool q2.1.Den.fneg, .slice (adOf (partOf 3 (partOf 0 (Ep23 73)))) q2.1.Den.fmag.length (capOf (partOf 3 (partOf 0 (Ep23 73))))], .int .i64 q2.2], fun Ep23 => Ep23 63 = .tuple #[.agg #[.bool q2.1.Num.fneg, .slice (adOf (partOf 1 (partOf 0 (Ep23 73)))) q2.1.Num.fmag.length (capOf (partOf 1 (partOf 0 (Ep23 73)))), .bool q2.1.Den.fneg, .slice (adOf (partOf 3 (partOf 0 (Ep23 73)))) q2.1.Den.fmag.length (capOf (partOf 3 (partOf 0 (Ep23 73))))], .int .i64 q2.2], fun Ep23 => Ep23 74 = .agg #[.bool q2.1.Num.fneg, .slice (adOf (partOf 1 (partOf 0 (Ep23 73)))) q2.1.Num.fmag.length (capOf (partOf 1 (partOf 0 (Ep23 73)))), .bool q2.1.Den.fneg, .slice (adOf (partOf 3 (partOf 0 (Ep23 73)))) q2.1.Den.fmag.length (capOf (partOf 3 (partOf 0 (Ep23 73))))], fun Ep23 => Ep23 75 = .int .i64 q2.2, fun Ep23 => Ep23 14 = .pointer (some ⟨(blkOf (Ep23 14)), 0, none⟩), fun Ep23 => True, fun Ep23 => Ep23 15 = .int .i64 q2.2] [fun Ep23 => ro q9, fun Ep23 => bunA (fun (q4 : Heap) => Le q9 q4 ∧ RdS (RpI .u32) q4 (adOf (partOf 1 (partOf 0 (Ep23 73)))) q2.1.Num.fmag.length (capOf (partOf 1 (partOf 0 (Ep23 73)))) q2.1.Num.fmag ∧ RdS (RpI .u32) q4 (adOf (partOf 3 (partOf 0 (Ep23 73)))) q2.1.Den.fmag.length (capOf (partOf 3 (partOf 0 (Ep23 73)))) q2.1.Den.fmag) (fun (q4 : Heap) => [roD q9 q4]), fun Ep23 => cells (blkOf (Ep23 14)) 94 [.bool false, .slice none 0 0, .bool false, .slice none 0 0], fun Ep23 => cells (blkOf (Ep23 14)) 94 [.bool q2.1.Num.fneg, .slice (adOf (partOf 1 (partOf 0 (Ep23 73)))) q2.1.Num.fmag.length (capOf (partOf 1 (partOf 0 (Ep23 73)))), .bool q2.1.Den.fneg, .slice (adOf (partOf 3 (partOf 0 (Ep23 73)))) q2.1.Den.fmag.length (capOf (partOf 3 (partOf 0 (Ep23 73))))]] mixed (by kernel_rfl) (hS.pull 2) ?_ ?_
     ·refine ⟨?_, ?_, ?_, ?_, ?_, ?_, ?_, ?_, ?_, ?_, ?_, ?_, ?_, ?_, ?_, ?_, trivial⟩
      ·intro Ep23 w l' hE23 hO23 hF_ hS
       refine p (yl_move (hE23 13 rfl)) <| x_done <| ?_
       refine x_fin ⟨⟨_, rfl⟩, rfl, ?_⟩
       exact Eq.mp (by kernel_rfl) hS
      ·intro Ep23 w l' hE23 hO23 hF_ hS
       refine p (yl_move ((hE23 0 rfl).trans q33)) <| x_done <| ?_
       refine x_fin ⟨⟨_, rfl⟩, rfl, ?_⟩
       exact Eq.mp (by kernel_rfl) hS
      ·intro Ep23 w l' hE23 hO23 hF_ hS
       obtain ⟨q1y, -⟩ := hF_
       replace q1y : Ep23 65 = .slice q1i a0.length c_a0 := Eq.mp (by kernel_rfl) q1y
       refine p (yl_len_slice usl_75 q1y) <| x_done <| ?_
       refine x_fin ⟨⟨_, rfl⟩, rfl, ?_⟩
       exact Eq.mp (by kernel_rfl) hS
      ·intro Ep23 w l' hE23 hO23 hF_ hS
       obtain ⟨q1z, q20, -⟩ := hF_
       replace q1z : Ep23 64 = .slice q13 q1w.length q1x := Eq.mp (by kernel_rfl) q1z
       replace q20 : Ep23 66 = .int .i64 (a0.length : Int) := Eq.mp (by kernel_rfl) q20
       replace hS : St w0 w (ro q9 :: l') := Eq.mp (by kernel_rfl) hS
       refine p (yix_f sl_155 q1z q20 (q2e.le q0h) q3d) <| x_done <| ?_
       refine x_fin ⟨⟨_, rfl⟩, rfl, ?_⟩
       exact Eq.mp (by kernel_rfl) hS
      ·intro Ep23 w l' hE23 hO23 hF_ hS
       obtain ⟨q21, -⟩ := hF_
       replace q21 : Ep23 67 = .pointer (some ((adr q13).add ((a0.length : Int).toNat * R_exact_Int.sz))) := Eq.mp (by kernel_rfl) q21
       replace hS : St w0 w (ro q9 :: l') := Eq.mp (by kernel_rfl) hS
       have q_ := q2e.get q3d; obtain ⟨q4j, q3f, q48⟩ := q_
       rw [← q45] at q3f
       obtain ⟨q3r, q4g, q3s, rfl, q34⟩ := q3f
       have e_ := q34.n; subst e_
       refine pa (v := .agg #[.bool q0v.fneg, .slice q3r q0v.fmag.length q3s]) (at_loadAgg agg_79 q21 rfl (Elt.every (Elt.le q48 q0h) hS)) <| x_done <| ?_
       refine x_fin ⟨⟨_, rfl⟩, ⟨rfl, q34⟩, ?_⟩
       exact Eq.mp (by kernel_rfl) hS
      ·intro Ep23 w l' hE23 hO23 hF_ hS
       refine p (yl_move (hE23 13 rfl)) <| x_done <| ?_
       refine x_fin ⟨⟨_, rfl⟩, rfl, ?_⟩
       exact Eq.mp (by kernel_rfl) hS
      ·intro Ep23 w l' hE23 hO23 hF_ hS
       refine p (yl_move (hE23 12 rfl)) <| x_done <| ?_
       refine x_fin ⟨⟨_, rfl⟩, rfl, ?_⟩
       exact Eq.mp (by kernel_rfl) hS
      ·intro Ep23 w l' hE23 hO23 hF_ hS
       obtain ⟨q22, q23, -⟩ := hF_
       replace q22 : Ep23 69 = .slice q13 q1w.length q1x := Eq.mp (by kernel_rfl) q22
       replace q23 : Ep23 70 = .int .i64 q0k := Eq.mp (by kernel_rfl) q23
       replace hS : St w0 w (ro q9 :: l') := Eq.mp (by kernel_rfl) hS
       refine p (yix_f sl_155 q22 q23 (q2e.le q0h) q3e) <| x_done <| ?_
       refine x_fin ⟨⟨_, rfl⟩, rfl, ?_⟩
       exact Eq.mp (by kernel_rfl) hS
      ·intro Ep23 w l' hE23 hO23 hF_ hS
       obtain ⟨q24, -⟩ := hF_
       replace q24 : Ep23 71 = .pointer (some ((adr q13).add (q0k.toNat * R_exact_Int.sz))) := Eq.mp (by kernel_rfl) q24
       replace hS : St w0 w (ro q9 :: l') := Eq.mp (by kernel_rfl) hS
       have q_ := q2e.get q3e; obtain ⟨q4k, q3g, q49⟩ := q_
       rw [← q46] at q3g
       obtain ⟨q3t, q4h, q3u, rfl, q35⟩ := q3g
       have e_ := q35.n; subst e_
       refine pa (v := .agg #[.bool q0w.fneg, .slice q3t q0w.fmag.length q3u]) (at_loadAgg agg_79 q24 rfl (Elt.every (Elt.le q49 q0h) hS)) <| x_done <| ?_
       refine x_fin ⟨⟨_, rfl⟩, ⟨rfl, q35⟩, ?_⟩
       exact Eq.mp (by kernel_rfl) hS
      ·intro Ep23 w l' hE23 hO23 hF_ hS
       obtain ⟨q1g, q1h, -⟩ := hF_
       replace q1g : Ep23 68 = .agg #[.bool q0v.fneg, .slice (adOf (partOf 1 (Ep23 68))) q0v.fmag.length (capOf (partOf 1 (Ep23 68)))] ∧ RdS (RpI .u32) q0n (adOf (partOf 1 (Ep23 68))) q0v.fmag.length (capOf (partOf 1 (Ep23 68))) q0v.fmag := Eq.mp (by kernel_rfl) q1g
       have q_ := id q1g; obtain ⟨-, q3h⟩ := q_
       replace q1h : Ep23 72 = .agg #[.bool q0w.fneg, .slice (adOf (partOf 1 (Ep23 72))) q0w.fmag.length (capOf (partOf 1 (Ep23 72)))] ∧ RdS (RpI .u32) q0n (adOf (partOf 1 (Ep23 72))) q0w.fmag.length (capOf (partOf 1 (Ep23 72))) q0w.fmag := Eq.mp (by kernel_rfl) q1h
       have q_ := id q1h; obtain ⟨-, q3i⟩ := q_
       replace hS : St w0 w (ro q9 :: l') := Eq.mp (by kernel_rfl) hS
       have hcall := c_exact_reduced q47 (q3h.le q0h) (q3i.le q0h) hS
       refine o_cc call_94 (args2 q1g.1 q1h.1) hcall ?_
       rintro e w' ⟨q4, q2f, q3n, c_y0_ret_1_23_9, q2g, q3o, c_y0_ret_3_23_9, rfl, q36, q0x, q0y, hS⟩
       refine ⟨_, rfl, ?_⟩
       have e_ := q0x.n; subst e_
       have e_ := q0y.n; subst e_
       refine x_done <| ?_
       refine x_fin ⟨⟨_, rfl⟩, rfl, ?_⟩
       replace hS := St.ro_split q36 hS
       replace hS := St.bun (Φ := (fun (q4 : Heap) => Le q9 q4 ∧ RdS (RpI .u32) q4 q2f q2.1.Num.fmag.length c_y0_ret_1_23_9 q2.1.Num.fmag ∧ RdS (RpI .u32) q4 q2g q2.1.Den.fmag.length c_y0_ret_3_23_9 q2.1.Den.fmag)) (L := (fun (q4 : Heap) => [roD q9 q4])) q4 ⟨q36, q0x, q0y⟩ (hS.pull 1)
       exact Eq.mp (by kernel_rfl) (hS.pull 1)
      ·intro Ep23 w l' hE23 hO23 hF_ hS
       obtain ⟨q0p, -⟩ := hF_
       replace q0p : Ep23 73 = .tuple #[.agg #[.bool q2.1.Num.fneg, .slice (adOf (partOf 1 (partOf 0 (Ep23 73)))) q2.1.Num.fmag.length (capOf (partOf 1 (partOf 0 (Ep23 73)))), .bool q2.1.Den.fneg, .slice (adOf (partOf 3 (partOf 0 (Ep23 73)))) q2.1.Den.fmag.length (capOf (partOf 3 (partOf 0 (Ep23 73))))], .int .i64 q2.2] := Eq.mp (by kernel_rfl) q0p
       refine p (yl_move q0p) <| x_done <| ?_
       refine x_fin ⟨⟨_, rfl⟩, rfl, ?_⟩
       exact Eq.mp (by kernel_rfl) hS
      ·intro Ep23 w l' hE23 hO23 hF_ hS
       obtain ⟨q0p, q11, -⟩ := hF_
       replace q0p : Ep23 73 = .tuple #[.agg #[.bool q2.1.Num.fneg, .slice (adOf (partOf 1 (partOf 0 (Ep23 73)))) q2.1.Num.fmag.length (capOf (partOf 1 (partOf 0 (Ep23 73)))), .bool q2.1.Den.fneg, .slice (adOf (partOf 3 (partOf 0 (Ep23 73)))) q2.1.Den.fmag.length (capOf (partOf 3 (partOf 0 (Ep23 73))))], .int .i64 q2.2] := Eq.mp (by kernel_rfl) q0p
       replace q11 : Ep23 63 = .tuple #[.agg #[.bool q2.1.Num.fneg, .slice (adOf (partOf 1 (partOf 0 (Ep23 73)))) q2.1.Num.fmag.length (capOf (partOf 1 (partOf 0 (Ep23 73)))), .bool q2.1.Den.fneg, .slice (adOf (partOf 3 (partOf 0 (Ep23 73)))) q2.1.Den.fmag.length (capOf (partOf 3 (partOf 0 (Ep23 73))))], .int .i64 q2.2] := Eq.mp (by kernel_rfl) q11
       refine p (yl_extract q11 rfl) <| x_done <| ?_
       refine x_fin ⟨⟨_, rfl⟩, rfl, ?_⟩
       exact Eq.mp (by kernel_rfl) hS
      ·intro Ep23 w l' hE23 hO23 hF_ hS
       obtain ⟨q0p, q11, -⟩ := hF_
       replace q0p : Ep23 73 = .tuple #[.agg #[.bool q2.1.Num.fneg, .slice (adOf (partOf 1 (partOf 0 (Ep23 73)))) q2.1.Num.fmag.length (capOf (partOf 1 (partOf 0 (Ep23 73)))), .bool q2.1.Den.fneg, .slice (adOf (partOf 3 (partOf 0 (Ep23 73)))) q2.1.Den.fmag.length (capOf (partOf 3 (partOf 0 (Ep23 73))))], .int .i64 q2.2] := Eq.mp (by kernel_rfl) q0p
       replace q11 : Ep23 63 = .tuple #[.agg #[.bool q2.1.Num.fneg, .slice (adOf (partOf 1 (partOf 0 (Ep23 73)))) q2.1.Num.fmag.length (capOf (partOf 1 (partOf 0 (Ep23 73)))), .bool q2.1.Den.fneg, .slice (adOf (partOf 3 (partOf 0 (Ep23 73)))) q2.1.Den.fmag.length (capOf (partOf 3 (partOf 0 (Ep23 73))))], .int .i64 q2.2] := Eq.mp (by kernel_rfl) q11
       refine p (yl_extract q11 rfl) <| x_done <| ?_
       refine x_fin ⟨⟨_, rfl⟩, rfl, ?_⟩
       exact Eq.mp (by kernel_rfl) hS
      ·intro Ep23 w l' hE23 hO23 hF_ hS
       refine o_alloc zero_94 hS (fun b14 w' hS => ?_)
       refine x_done <| ?_
       refine x_fin ⟨⟨_, rfl⟩, rfl, ?_⟩
       exact Eq.mp (by kernel_rfl) hS
      ·intro Ep23 w l' hE23 hO23 hF_ hS
       obtain ⟨q0p, q1o, q1d, -⟩ := hF_
       replace q0p : Ep23 73 = .tuple #[.agg #[.bool q2.1.Num.fneg, .slice (adOf (partOf 1 (partOf 0 (Ep23 73)))) q2.1.Num.fmag.length (capOf (partOf 1 (partOf 0 (Ep23 73)))), .bool q2.1.Den.fneg, .slice (adOf (partOf 3 (partOf 0 (Ep23 73)))) q2.1.Den.fmag.length (capOf (partOf 3 (partOf 0 (Ep23 73))))], .int .i64 q2.2] := Eq.mp (by kernel_rfl) q0p
       replace q1o : Ep23 74 = .agg #[.bool q2.1.Num.fneg, .slice (adOf (partOf 1 (partOf 0 (Ep23 73)))) q2.1.Num.fmag.length (capOf (partOf 1 (partOf 0 (Ep23 73)))), .bool q2.1.Den.fneg, .slice (adOf (partOf 3 (partOf 0 (Ep23 73)))) q2.1.Den.fmag.length (capOf (partOf 3 (partOf 0 (Ep23 73))))] := Eq.mp (by kernel_rfl) q1o
       replace q1d : Ep23 14 = .pointer (some ⟨(blkOf (Ep23 14)), 0, none⟩) := Eq.mp (by kernel_rfl) q1d
       replace hS : St w0 w (cells (blkOf (Ep23 14)) 94 [.bool false, .slice none 0 0, .bool false, .slice none 0 0] :: l') := Eq.mp (by kernel_rfl) hS
       refine o_storeAgg (news := [.bool q2.1.Num.fneg, .slice (adOf (partOf 1 (partOf 0 (Ep23 73)))) q2.1.Num.fmag.length (capOf (partOf 1 (partOf 0 (Ep23 73)))), .bool q2.1.Den.fneg, .slice (adOf (partOf 3 (partOf 0 (Ep23 73)))) q2.1.Den.fmag.length (capOf (partOf 3 (partOf 0 (Ep23 73))))]) agg_94 q1d q1o rfl (by simp [over_length]) hS (fun w' hS => ?_)
       refine x_done <| ?_
       refine x_fin ⟨⟨undef, rfl⟩, trivial, ?_⟩
       exact Eq.mp (by kernel_rfl) hS
      ·intro Ep23 w l' hE23 hO23 hF_ hS
       obtain ⟨q1p, -⟩ := hF_
       replace q1p : Ep23 75 = .int .i64 q2.2 := Eq.mp (by kernel_rfl) q1p
       refine p (yl_assign q1p) <| x_done <| ?_
       refine x_fin ⟨⟨_, rfl⟩, rfl, ?_⟩
       exact Eq.mp (by kernel_rfl) hS
     intro Ep23 w' hE23 hF_ hS
     obtain ⟨q1z, q1y, q20, q21, q1g, q22, q23, q24, q1h, q0p, q11, q1o, q1p, q1d, q2h, -⟩ := hF_
     replace q1z : Ep23 64 = .slice q13 q1w.length q1x := Eq.mp (by kernel_rfl) q1z
     replace q1y : Ep23 65 = .slice q1i a0.length c_a0 := Eq.mp (by kernel_rfl) q1y
     replace q20 : Ep23 66 = .int .i64 (a0.length : Int) := Eq.mp (by kernel_rfl) q20
     replace q21 : Ep23 67 = .pointer (some ((adr q13).add ((a0.length : Int).toNat * R_exact_Int.sz))) := Eq.mp (by kernel_rfl) q21
     replace q1g : Ep23 68 = .agg #[.bool q0v.fneg, .slice (adOf (partOf 1 (Ep23 68))) q0v.fmag.length (capOf (partOf 1 (Ep23 68)))] ∧ RdS (RpI .u32) q0n (adOf (partOf 1 (Ep23 68))) q0v.fmag.length (capOf (partOf 1 (Ep23 68))) q0v.fmag := Eq.mp (by kernel_rfl) q1g
     have q_ := id q1g; obtain ⟨-, q3h⟩ := q_
     replace q22 : Ep23 69 = .slice q13 q1w.length q1x := Eq.mp (by kernel_rfl) q22
     replace q23 : Ep23 70 = .int .i64 q0k := Eq.mp (by kernel_rfl) q23
     replace q24 : Ep23 71 = .pointer (some ((adr q13).add (q0k.toNat * R_exact_Int.sz))) := Eq.mp (by kernel_rfl) q24
     replace q1h : Ep23 72 = .agg #[.bool q0w.fneg, .slice (adOf (partOf 1 (Ep23 72))) q0w.fmag.length (capOf (partOf 1 (Ep23 72)))] ∧ RdS (RpI .u32) q0n (adOf (partOf 1 (Ep23 72))) q0w.fmag.length (capOf (partOf 1 (Ep23 72))) q0w.fmag := Eq.mp (by kernel_rfl) q1h
     have q_ := id q1h; obtain ⟨-, q3i⟩ := q_
     replace q0p : Ep23 73 = .tuple #[.agg #[.bool q2.1.Num.fneg, .slice (adOf (partOf 1 (partOf 0 (Ep23 73)))) q2.1.Num.fmag.length (capOf (partOf 1 (partOf 0 (Ep23 73)))), .bool q2.1.Den.fneg, .slice (adOf (partOf 3 (partOf 0 (Ep23 73)))) q2.1.Den.fmag.length (capOf (partOf 3 (partOf 0 (Ep23 73))))], .int .i64 q2.2] := Eq.mp (by kernel_rfl) q0p
     replace q11 : Ep23 63 = .tuple #[.agg #[.bool q2.1.Num.fneg, .slice (adOf (partOf 1 (partOf 0 (Ep23 73)))) q2.1.Num.fmag.length (capOf (partOf 1 (partOf 0 (Ep23 73)))), .bool q2.1.Den.fneg, .slice (adOf (partOf 3 (partOf 0 (Ep23 73)))) q2.1.Den.fmag.length (capOf (partOf 3 (partOf 0 (Ep23 73))))], .int .i64 q2.2] := Eq.mp (by kernel_rfl) q11
     replace q1o : Ep23 74 = .agg #[.bool q2.1.Num.fneg, .slice (adOf (partOf 1 (partOf 0 (Ep23 73)))) q2.1.Num.fmag.length (capOf (partOf 1 (partOf 0 (Ep23 73)))), .bool q2.1.Den.fneg, .slice (adOf (partOf 3 (partOf 0 (Ep23 73)))) q2.1.Den.fmag.length (capOf (partOf 3 (partOf 0 (Ep23 73))))] := Eq.mp (by kernel_rfl) q1o
     replace q1p : Ep23 75 = .int .i64 q2.2 := Eq.mp (by kernel_rfl) q1p
     replace q1d : Ep23 14 = .pointer (some ⟨(blkOf (Ep23 14)), 0, none⟩) := Eq.mp (by kernel_rfl) q1d
     replace q2h : Ep23 15 = .int .i64 q2.2 := Eq.mp (by kernel_rfl) q2h
     replace hS : St w0 w' (ro q9 :: bunA (fun (q4 : Heap) => Le q9 q4 ∧ RdS (RpI .u32) q4 (adOf (partOf 1 (partOf 0 (Ep23 73)))) q2.1.Num.fmag.length (capOf (partOf 1 (partOf 0 (Ep23 73)))) q2.1.Num.fmag ∧ RdS (RpI .u32) q4 (adOf (partOf 3 (partOf 0 (Ep23 73)))) q2.1.Den.fmag.length (capOf (partOf 3 (partOf 0 (Ep23 73)))) q2.1.Den.fmag) (fun (q4 : Heap) => [roD q9 q4]) :: cells (blkOf (Ep23 14)) 94 [.bool q2.1.Num.fneg, .slice (adOf (partOf 1 (partOf 0 (Ep23 73)))) q2.1.Num.fmag.length (capOf (partOf 1 (partOf 0 (Ep23 73)))), .bool q2.1.Den.fneg, .slice (adOf (partOf 3 (partOf 0 (Ep23 73)))) q2.1.Den.fmag.length (capOf (partOf 3 (partOf 0 (Ep23 73))))] :: (vec 94 R_exact_Ratio.sz (.slice q0z q0o.length c_out11_L21h) q0o.length q0q :: vec 155 (RpSl R_exact_Int).sz (.slice q3 q0f.1.length c_b_y0_ret_0_ret_12_3) q0f.1.length q5 :: l)) := Eq.mp (by kernel_rfl) hS
     have q_ := St.unbun (hS.pull 1); obtain ⟨q4, ⟨q2w, q0x, q0y⟩, hS⟩ := q_
     have q_ := St.ro_join (hS.pull 1) (Le.refl _) q2w; obtain ⟨q25, q2c, q2v, hS, q4e⟩ := q_
     refine x_seq <| x_seq <| x_region <| p (yl_move q2h) <|
      p (yl_neq rfl rfl) <| x_done <|
      x_cond_p (q2.2 ≠ 0) rfl (fun hc77 => ?_) (fun hc77 => ?_)
     ·replace hFL21 := it_t hc77 hFL21
      refine x_seq <| x_region <| p (yl_move q2h) <| p (yl_assign rfl) <|
       p (yl_assign rfl) <| x_done <| ?_
      replace hS := St.vec_nil hS 94 R_exact_Ratio.sz
      have q6 : RepL R_exact_Ratio q25 [] [] := rfl
      have e_ := Option.some.inj (show some _ = some _ from hFL21); subst e_
      have e_ := (show _ = oL21 from hLL21); subst e_
      have e_ := Option.some.inj (show some _ = some _ from hF); subst e_
      exact x_return ⟨_, ⟨_, _, rfl, rfl, _, _, rfl, rfl, rfl⟩, q25, none, 0, 0, [], rfl, ((((q1e.trans q2k).trans q2r).trans q0h).trans q2c), q6, (((((hS.pull 2).drop.pull 2).drop.pull 2).drop.pull 1).pull 1)⟩
     ·replace hFL21 := it_f hc77 hFL21
      refine x_skip <| x_region <| p (yl_move ((hE23 11 rfl).trans q2s)) <| pa (v := .agg #[.bool q2.1.Num.fneg, .slice (adOf (partOf 1 (partOf 0 (Ep23 73)))) q2.1.Num.fmag.length (capOf (partOf 1 (partOf 0 (Ep23 73)))), .bool q2.1.Den.fneg, .slice (adOf (partOf 3 (partOf 0 (Ep23 73)))) q2.1.Den.fmag.length (capOf (partOf 3 (partOf 0 (Ep23 73))))]) (ld_sub agg_94 q1d rfl rfl (hS.pull 1)) <| ?_
      refine o_buildSlice (vs := [.agg #[.bool q2.1.Num.fneg, .slice (adOf (partOf 1 (partOf 0 (Ep23 73)))) q2.1.Num.fmag.length (capOf (partOf 1 (partOf 0 (Ep23 73)))), .bool q2.1.Den.fneg, .slice (adOf (partOf 3 (partOf 0 (Ep23 73)))) q2.1.Den.fmag.length (capOf (partOf 3 (partOf 0 (Ep23 73))))]]) (cs := [.bool q2.1.Num.fneg, .slice (adOf (partOf 1 (partOf 0 (Ep23 73)))) q2.1.Num.fmag.length (capOf (partOf 1 (partOf 0 (Ep23 73)))), .bool q2.1.Den.fneg, .slice (adOf (partOf 3 (partOf 0 (Ep23 73)))) q2.1.Den.fmag.length (capOf (partOf 3 (partOf 0 (Ep23 73))))]) sl_90 zero_94 (parts_eq (pt (va := .agg #[.bool q2.1.Num.fneg, .slice (adOf (partOf 1 (partOf 0 (Ep23 73)))) q2.1.Num.fmag.length (capOf (partOf 1 (partOf 0 (Ep23 73)))), .bool q2.1.Den.fneg, .slice (adOf (partOf 3 (partOf 0 (Ep23 73)))) q2.1.Den.fmag.length (capOf (partOf 3 (partOf 0 (Ep23 73))))]) rfl pt0)) rfl (by intro v hv; simp only [List.mem_cons, List.not_mem_nil, or_false] at hv; first | (subst hv; rfl) | (rcases hv with rfl <;> rfl)) (by decide) rfl hS (fun b81 w' hS => ?_)
      replace hFL21 := lv_s hFL21; obtain ⟨q3p, q4a, hFL21⟩ := hFL21
      replace hFL21 := ck_s hFL21; obtain ⟨q4b, hFL21⟩ := hFL21
      refine o_ap sl_90 zero_94 rfl (by decide) rfl rfl (hS.pull 3) (q1c.le q2c) (src_blk usl_90 hS rfl rfl) (RepL.cons (R := R_exact_Ratio) (ρ := q25) (x := q2.1) (cs := [.bool q2.1.Num.fneg, .slice (adOf (partOf 1 (partOf 0 (Ep23 73)))) q2.1.Num.fmag.length (capOf (partOf 1 (partOf 0 (Ep23 73)))), .bool q2.1.Den.fneg, .slice (adOf (partOf 3 (partOf 0 (Ep23 73)))) q2.1.Den.fmag.length (capOf (partOf 3 (partOf 0 (Ep23 73))))]) ⟨_, _, _, _, _, _, rfl, (q0x.le q2v), (q0y.le q2v)⟩ RepL.nil) q4a q4b (fun A82 c82 cs82 w' hr82 hS => ?_)
      replace hFL21 := ar_s hFL21; obtain ⟨x83, hx83, hFL21⟩ := hFL21
      refine p (yl_assign rfl) <| x_done <| x_blk <| x_region <|
       p (yadd ((hE23 58 rfl).trans q1s) rfl hx83) <| p (yl_move rfl) <| x_done <| ?_
      have e_ := Option.some.inj (show some _ = some _ from hFL21); subst e_
      exact x_inv ⟨kL21, Nat.lt_succ_self _, q25, A82, q3p.length, c82, cs82, q3p, x83, hLL21, (q0h.trans q2c), ((hE23 0 rfl).trans q33), rfl, ((hE23 56 rfl).trans q2t), ((hE23 57 rfl).trans q2u), rfl, hr82, (((((hS.pull 1).drop.pull 2).drop.pull 1).pull 2).pull 2)⟩
    ·replace hFL21 := it_f hc59 hFL21
     refine x_exitTo _ rfl <| ?_
     have e_ := Option.some.inj (show some _ = some _ from hFL21); subst e_
     exact x_inv ⟨q9, q0z, q0o.length, c_out11_L21h, q0q, q0o, hLL21, q0h, q2s, q1c, (((hS.pull 1).drop.pull 1).pull 1)⟩
   rintro E w ⟨q2d, q19, q1a, c_out11_L21, q17, q1f, rfl, q3l, q3v, q29, hS⟩
   have e_ := St.vec_n hS q29; subst e_
   refine x_seq <| x_region <| p (yl_move q3v) <| p (yl_assign rfl) <|
    p (yl_assign rfl) <| x_done <| ?_
   have e_ := Option.some.inj (show some _ = some _ from hF); subst e_
   exact x_return ⟨_, ⟨_, _, rfl, rfl, _, _, rfl, rfl, rfl⟩, q2d, q19, q1f.length, c_out11_L21, q17, rfl, (((q1e.trans q2k).trans q2r).trans q3l), q29, ((hS.pull 1).pull 1)⟩
attribute [irreducible] P_exact_Solve


end Go.Proofs.Ytkenpbnpemjbhaa.X
