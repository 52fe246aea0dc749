/- Printed by gen.py: plain functions, and that the Go code computes them. -/
import Derived.Test.YtkenpbnpemjbhaaXI
import Derived.Test.YtkenpbnpemjbhaaYW
import Derived.Test.YtkenpbnpemjbhaaXT
import Derived.Test.YtkenpbnpemjbhaaGAp0
import Derived.Test.YtkenpbnpemjbhaaGAp1
namespace Go.Proofs.Ytkenpbnpemjbhaa.X
open Go Go.RowKit
set_option linter.unusedVariables false
set_option linter.unusedSimpArgs false

def P_exact_Gcd_L2 : (Bool × List Int × Bool × List Int) → Option ((Bool × List Int × Bool × List Int) ⊕ (Bool × List Int)) := fun (q4, q5, q2, q3) =>
 bd (P_exact_Sign (T_exact_Int.mk q2 q3)) fun q7 =>
 if q7 ≠ 0 then
  bd (P_exact_split (T_exact_Int.mk q4 q5) (T_exact_Int.mk q2 q3)) fun q6 =>
  some (Sum.inl (q2, q3, q6.2.fneg, q6.2.fmag))
 else
  some (Sum.inr (q4, q5))
def P_exact_Gcd (a0 : T_exact_Int) (b1 : T_exact_Int) : Option T_exact_Int :=
 bd (P_exact_Abs a0) fun q4 =>
 bd (P_exact_Abs b1) fun q5 =>
 bd (
  lp P_exact_Gcd_L2 fuel (q4.fneg, q4.fmag, q5.fneg, q5.fmag)) fun (q2, q3) =>
 some (T_exact_Int.mk q2 q3)
set_option maxHeartbeats 4000000 in
set_option maxRecDepth 100000 in
theorem c_exact_Gcd {w0 w : World} {l : List Assn} {ρ : Heap} {q0b : Option Addr} {q15 : Nat} {c_a0_1 : Nat} {q0c : Option Addr} {q16 : Nat} {c_b1_1 : Nat} {a0 : T_exact_Int} {b1 : T_exact_Int} {r : T_exact_Int} (hF : P_exact_Gcd a0 b1 = some r) (q17 : RdS (RpI .u32) ρ q0b q15 c_a0_1 a0.fmag) (q18 : RdS (RpI .u32) ρ q0c q16 c_b1_1 b1.fmag) (hS : St w0 w (ro ρ :: l)) :
  Calls Try.prog 124 #[.agg #[.bool a0.fneg, .slice q0b q15 c_a0_1], .agg #[.bool b1.fneg, .slice q0c q16 c_b1_1]] w fun e w' => ∃ (ρ' : Heap) (q0u : Option Addr) (q0v : Nat) (c_y0_ret_1 : Nat), e = .returned (.agg #[.bool r.fneg, .slice q0u q0v c_y0_ret_1]) ∧ Le ρ ρ' ∧ RdS (RpI .u32) ρ' q0u q0v c_y0_ret_1 r.fmag ∧ St w0 w' (ro ρ' :: l) := by
 have e_ := q17.n; subst e_
 have e_ := q18.n; subst e_
 refine enterC Try.func124 rfl 23 rfl (by simp) ?_
 refine x_seq <| x_region <| ?_
 refine o_box (cs := [.bool a0.fneg, .slice q0b a0.fmag.length c_a0_1]) rfl rfl hS (fun b2 w' hS => ?_)
 refine o_box (cs := [.bool b1.fneg, .slice q0c b1.fmag.length c_b1_1]) rfl rfl hS (fun b3 w' hS => ?_)
 refine o_alloc zero_79 hS (fun b4 w' hS => ?_)
 refine x_done <| x_seq <| ?_
 replace hF := bd_s hF; obtain ⟨q7, q1m, hF⟩ := hF
 replace hF := bd_s hF; obtain ⟨q8, q1n, hF⟩ := hF
 refine x_par (w0 := w0) [⟨[], [], [7], [0], [], []⟩, ⟨[0], [0], [8], [1], [], []⟩, ⟨[], [], [9], [2], [], []⟩, ⟨[0, 1, 2], [2], [10], [1], [], []⟩, ⟨[0, 1, 2, 3], [1], [], [], [0], [3]⟩, ⟨[0, 1, 2, 3, 4], [3], [], [], [2], [4]⟩] [⟨none, (some 4), []⟩, ⟨none, none, []⟩, ⟨none, (some 5), []⟩, ⟨(some 4), none, [8]⟩, ⟨(some 5), none, [10]⟩] [7, 8, 9, 10] [0, 1, 2] [1, 3, 4] [0, 1, 2, 3] [fun Ep1 => Ep1 7 = .agg #[.bool a0.fneg, .slice q0b a0.fmag.length c_a0_1], fun Ep1 => Ep1 8 = .agg #[.bool q7.fneg, .slice (adOf (partOf 1 (Ep1 8))) q7.fmag.length (capOf (partOf 1 (Ep1 8)))] ∧ RdS (RpI .u32) ρ (adOf (partOf 1 (Ep1 8))) q7.fmag.length (capOf (partOf 1 (Ep1 8))) q7.fmag, fun Ep1 => Ep1 9 = .agg #[.bool b1.fneg, .slice q0c b1.fmag.length c_b1_1], fun Ep1 => Ep1 10 = .agg #[.bool q8.fneg, .slice (adOf (partOf 1 (Ep1 10))) q8.fmag.length (capOf (partOf 1 (Ep1 10)))] ∧ RdS (RpI .u32) ρ (adOf (partOf 1 (Ep1 10))) q8.fmag.length (capOf (partOf 1 (Ep1 10))) q8.fmag, fun Ep1 => True, fun Ep1 => True] [fun Ep1 => cells b2 79 [.bool a0.fneg, .slice q0b a0.fmag.length c_a0_1], fun Ep1 => ro ρ, fun Ep1 => cells b3 79 [.bool b1.fneg, .slice q0c b1.fmag.length c_b1_1], fun Ep1 => cells b2 79 [.bool q7.fneg, .slice (adOf (partOf 1 (Ep1 8))) q7.fmag.length (capOf (partOf 1 (Ep1 8)))], fun Ep1 => cells b3 79 [.bool q8.fneg, .slice (adOf (partOf 1 (Ep1 10))) q8.fmag.length (capOf (partOf 1 (Ep1 10)))]] mixed (by kernel_rfl) (((hS.pull 1).pull 3).pull 3) ?_ ?_
 ·refine ⟨?_, ?_, ?_, ?_, ?_, ?_, trivial⟩
  ·intro Ep1 w l' hE1 hO1 hF_ hS
   replace hS : St w0 w (cells b2 79 [.bool a0.fneg, .slice q0b a0.fmag.length c_a0_1] :: l') := Eq.mp (by kernel_rfl) hS
   refine pa (v := .agg #[.bool a0.fneg, .slice q0b a0.fmag.length c_a0_1]) (ld_sub agg_79 (hE1 2 rfl) rfl rfl hS) <| x_done <| ?_
   refine x_fin ⟨⟨_, rfl⟩, rfl, ?_⟩
   exact Eq.mp (by kernel_rfl) hS
  ·intro Ep1 w l' hE1 hO1 hF_ hS
   obtain ⟨q0x, -⟩ := hF_
   replace q0x : Ep1 7 = .agg #[.bool a0.fneg, .slice q0b a0.fmag.length c_a0_1] := Eq.mp (by kernel_rfl) q0x
   replace hS : St w0 w (ro ρ :: l') := Eq.mp (by kernel_rfl) hS
   have hcall := c_exact_Abs q1m q17 hS
   refine o_cc call_56 (args1 q0x) hcall ?_
   rintro e w' ⟨q1f, q1g, c_y0_ret_1_1_1, rfl, q0h, hS⟩
   refine ⟨_, rfl, ?_⟩
   have e_ := q0h.n; subst e_
   refine x_done <| ?_
   refine x_fin ⟨⟨_, rfl⟩, ⟨rfl, q0h⟩, ?_⟩
   exact Eq.mp (by kernel_rfl) hS
  ·intro Ep1 w l' hE1 hO1 hF_ hS
   replace hS : St w0 w (cells b3 79 [.bool b1.fneg, .slice q0c b1.fmag.length c_b1_1] :: l') := Eq.mp (by kernel_rfl) hS
   refine pa (v := .agg #[.bool b1.fneg, .slice q0c b1.fmag.length c_b1_1]) (ld_sub agg_79 (hE1 3 rfl) rfl rfl hS) <| x_done <| ?_
   refine x_fin ⟨⟨_, rfl⟩, rfl, ?_⟩
   exact Eq.mp (by kernel_rfl) hS
  ·intro Ep1 w l' hE1 hO1 hF_ hS
   obtain ⟨q0y, -⟩ := hF_
   replace q0y : Ep1 9 = .agg #[.bool b1.fneg, .slice q0c b1.fmag.length c_b1_1] := Eq.mp (by kernel_rfl) q0y
   replace hS : St w0 w (ro ρ :: l') := Eq.mp (by kernel_rfl) hS
   have hcall := c_exact_Abs q1n q18 hS
   refine o_cc call_56 (args1 q0y) hcall ?_
   rintro e w' ⟨q1h, q1i, c_y0_ret_1_1_3, rfl, q0i, hS⟩
   refine ⟨_, rfl, ?_⟩
   have e_ := q0i.n; subst e_
   refine x_done <| ?_
   refine x_fin ⟨⟨_, rfl⟩, ⟨rfl, q0i⟩, ?_⟩
   exact Eq.mp (by kernel_rfl) hS
  ·intro Ep1 w l' hE1 hO1 hF_ hS
   obtain ⟨q0p, -⟩ := hF_
   replace q0p : Ep1 8 = .agg #[.bool q7.fneg, .slice (adOf (partOf 1 (Ep1 8))) q7.fmag.length (capOf (partOf 1 (Ep1 8)))] ∧ RdS (RpI .u32) ρ (adOf (partOf 1 (Ep1 8))) q7.fmag.length (capOf (partOf 1 (Ep1 8))) q7.fmag := Eq.mp (by kernel_rfl) q0p
   have q_ := id q0p; obtain ⟨-, q1c⟩ := q_
   replace hS : St w0 w (cells b2 79 [.bool a0.fneg, .slice q0b a0.fmag.length c_a0_1] :: l') := Eq.mp (by kernel_rfl) hS
   refine o_storeAgg (news := [.bool q7.fneg, .slice (adOf (partOf 1 (Ep1 8))) q7.fmag.length (capOf (partOf 1 (Ep1 8)))]) agg_79 (hE1 2 rfl) q0p.1 rfl (by simp [over_length]) hS (fun w' hS => ?_)
   refine x_done <| ?_
   refine x_fin ⟨⟨undef, rfl⟩, trivial, ?_⟩
   exact Eq.mp (by kernel_rfl) hS
  ·intro Ep1 w l' hE1 hO1 hF_ hS
   obtain ⟨q0q, -⟩ := hF_
   replace q0q : Ep1 10 = .agg #[.bool q8.fneg, .slice (adOf (partOf 1 (Ep1 10))) q8.fmag.length (capOf (partOf 1 (Ep1 10)))] ∧ RdS (RpI .u32) ρ (adOf (partOf 1 (Ep1 10))) q8.fmag.length (capOf (partOf 1 (Ep1 10))) q8.fmag := Eq.mp (by kernel_rfl) q0q
   have q_ := id q0q; obtain ⟨-, q1d⟩ := q_
   replace hS : St w0 w (cells b3 79 [.bool b1.fneg, .slice q0c b1.fmag.length c_b1_1] :: l') := Eq.mp (by kernel_rfl) hS
   refine o_storeAgg (news := [.bool q8.fneg, .slice (adOf (partOf 1 (Ep1 10))) q8.fmag.length (capOf (partOf 1 (Ep1 10)))]) agg_79 (hE1 3 rfl) q0q.1 rfl (by simp [over_length]) hS (fun w' hS => ?_)
   refine x_done <| ?_
   refine x_fin ⟨⟨undef, rfl⟩, trivial, ?_⟩
   exact Eq.mp (by kernel_rfl) hS
 intro Ep1 w' hE1 hF_ hS
 obtain ⟨q0x, q0p, q0y, q0q, -⟩ := hF_
 replace q0x : Ep1 7 = .agg #[.bool a0.fneg, .slice q0b a0.fmag.length c_a0_1] := Eq.mp (by kernel_rfl) q0x
 replace q0p : Ep1 8 = .agg #[.bool q7.fneg, .slice (adOf (partOf 1 (Ep1 8))) q7.fmag.length (capOf (partOf 1 (Ep1 8)))] ∧ RdS (RpI .u32) ρ (adOf (partOf 1 (Ep1 8))) q7.fmag.length (capOf (partOf 1 (Ep1 8))) q7.fmag := Eq.mp (by kernel_rfl) q0p
 have q_ := id q0p; obtain ⟨-, q1c⟩ := q_
 replace q0y : Ep1 9 = .agg #[.bool b1.fneg, .slice q0c b1.fmag.length c_b1_1] := Eq.mp (by kernel_rfl) q0y
 replace q0q : Ep1 10 = .agg #[.bool q8.fneg, .slice (adOf (partOf 1 (Ep1 10))) q8.fmag.length (capOf (partOf 1 (Ep1 10)))] ∧ RdS (RpI .u32) ρ (adOf (partOf 1 (Ep1 10))) q8.fmag.length (capOf (partOf 1 (Ep1 10))) q8.fmag := Eq.mp (by kernel_rfl) q0q
 have q_ := id q0q; obtain ⟨-, q1d⟩ := q_
 replace hS : St w0 w' (ro ρ :: cells b2 79 [.bool q7.fneg, .slice (adOf (partOf 1 (Ep1 8))) q7.fmag.length (capOf (partOf 1 (Ep1 8)))] :: cells b3 79 [.bool q8.fneg, .slice (adOf (partOf 1 (Ep1 10))) q8.fmag.length (capOf (partOf 1 (Ep1 10)))] :: (cells b4 79 [.bool false, .slice none 0 0] :: l)) := Eq.mp (by kernel_rfl) hS
 refine x_seq <| ?_
 replace hF := bd_s hF; obtain ⟨oL2, hLL2, hF⟩ := hF
 refine x_join (fun E w => ∃ (q13 : Heap) (q0e : Option Addr) (q0r : Nat) (c_b2_1_L2 : Nat) (q0j : Bool) (q0g : List Int), (q0j, q0g) = oL2 ∧ Le ρ q13 ∧ E 2 = .pointer (some ⟨b2, 0, none⟩) ∧ E 4 = .pointer (some ⟨b4, 0, none⟩) ∧ RdS (RpI .u32) q13 q0e q0r c_b2_1_L2 q0g ∧ St w0 w (cells b2 79 [.bool q0j, .slice q0e q0r c_b2_1_L2] :: cells b4 79 [.bool false, .slice none 0 0] :: ro q13 :: l)) ?_ ?_
 ·refine x_block ?_
  refine x_loop (fun k_ E w => ∃ (q0t : Heap) (q9 : Option Addr) (q0m : Nat) (c_b2_1_L2h : Nat) (q3 : Option Addr) (q0n : Nat) (c_b3_1_L2h : Nat) (q0d : Bool) (q0a : List Int) (q5 : Bool) (q4 : List Int), lp P_exact_Gcd_L2 k_ (q0d, q0a, q5, q4) = some oL2 ∧ Le ρ q0t ∧ E 2 = .pointer (some ⟨b2, 0, none⟩) ∧ E 3 = .pointer (some ⟨b3, 0, none⟩) ∧ E 4 = .pointer (some ⟨b4, 0, none⟩) ∧ RdS (RpI .u32) q0t q9 q0m c_b2_1_L2h q0a ∧ RdS (RpI .u32) q0t q3 q0n c_b3_1_L2h q4 ∧ St w0 w (cells b2 79 [.bool q0d, .slice q9 q0m c_b2_1_L2h] :: cells b3 79 [.bool q5, .slice q3 q0n c_b3_1_L2h] :: cells b4 79 [.bool false, .slice none 0 0] :: ro q0t :: l)) fuel ⟨ρ, (adOf (partOf 1 (Ep1 8))), q7.fmag.length, (capOf (partOf 1 (Ep1 8))), (adOf (partOf 1 (Ep1 10))), q8.fmag.length, (capOf (partOf 1 (Ep1 10))), q7.fneg, q7.fmag, q8.fneg, q8.fmag, hLL2, (Le.refl _), (hE1 2 rfl), (hE1 3 rfl), (hE1 4 rfl), q1c, q1d, (((hS.pull 3).pull 3).pull 3)⟩ ?_
  rintro kL2 E w ⟨q0t, q9, q0m, c_b2_1_L2h, q3, q0n, c_b3_1_L2h, q0d, q0a, q5, q4, hLL2, q14, q0w, q0s, q19, q0o, q0f, hS⟩
  have e_ := q0o.n; subst e_
  have e_ := q0f.n; subst e_
  replace hLL2 := lp_s hLL2; obtain ⟨kL2, obL2, rfl, hFL2, hLL2⟩ := hLL2
  replace hFL2 := bd_s hFL2; obtain ⟨q1r, q1o, hFL2⟩ := hFL2
  refine x_seq <| x_seq <| x_region <| pa (v := .agg #[.bool q5, .slice q3 q4.length c_b3_1_L2h]) (ld_sub agg_79 q0s rfl rfl (hS.pull 1)) <| ?_
  have hcall := c_exact_Sign q1o q0f (hS.pull 3)
  refine o_cc call_44 (args1 rfl) ((Calls.mono hcall (fun e w'' h => And.intro h.1 (((h.2.pull 3).pull 3).pull 3)))) ?_
  rintro e w' ⟨rfl, hS⟩
  refine ⟨_, rfl, ?_⟩
  refine p (yl_neq rfl rfl) <| x_done <|
   x_cond_p (q1r ≠ 0) rfl (fun hc13 => ?_) (fun hc13 => ?_)
  ·replace hFL2 := it_t hc13 hFL2
   replace hFL2 := bd_s hFL2; obtain ⟨q6, q1p, hFL2⟩ := hFL2
   refine x_skip <| x_block <| x_seq <| x_region <|
    pa (v := .agg #[.bool q0d, .slice q9 q0a.length c_b2_1_L2h]) (ld_sub agg_79 q0w rfl rfl hS) <| pa (v := .agg #[.bool q5, .slice q3 q4.length c_b3_1_L2h]) (ld_sub agg_79 q0s rfl rfl (hS.pull 1)) <| ?_
   have hcall := c_exact_split q1p q0o q0f (hS.pull 3)
   refine o_cc call_103 (args2 rfl rfl) hcall ?_
   rintro e w' ⟨q1a, q0k, q1j, c_y0_ret_1_3_2, q2, q1k, c_y1_ret_1_3_2, rfl, q1b, q0z, q0l, hS⟩
   refine ⟨_, rfl, ?_⟩
   have e_ := q0z.n; subst e_
   have e_ := q0l.n; subst e_
   refine p (yl_move rfl) <| p (yl_extract rfl rfl) <| p (yl_extract rfl rfl) <| ?_
   refine o_alloc zero_79 hS (fun b5 w' hS => ?_)
   refine o_alloc zero_79 hS (fun b6 w' hS => ?_)
   refine o_storeAgg (news := [.bool q6.1.fneg, .slice q0k q6.1.fmag.length c_y0_ret_1_3_2]) agg_79 rfl rfl rfl (by simp [over_length]) (hS.pull 1) (fun w' hS => ?_)
   refine o_storeAgg (news := [.bool q6.2.fneg, .slice q2 q6.2.fmag.length c_y1_ret_1_3_2]) agg_79 rfl rfl rfl (by simp [over_length]) (hS.pull 1) (fun w' hS => ?_)
   refine x_done <| ?_
   refine x_par (w0 := w0) [⟨[], [], [20], [0], [], []⟩, ⟨[], [], [21], [1], [], []⟩, ⟨[0], [0], [], [], [2], [3]⟩, ⟨[0, 1, 2], [1], [], [], [0], [4]⟩] [⟨none, (some 3), []⟩, ⟨none, none, []⟩, ⟨none, (some 2), []⟩, ⟨(some 2), none, []⟩, ⟨(some 3), none, []⟩] [20, 21] [0, 1, 2] [1, 3, 4] [0, 1] [fun Ep4 => Ep4 20 = .agg #[.bool q5, .slice q3 q4.length c_b3_1_L2h], fun Ep4 => Ep4 21 = .agg #[.bool q6.2.fneg, .slice q2 q6.2.fmag.length c_y1_ret_1_3_2], fun Ep4 => True, fun Ep4 => True] [fun Ep4 => cells b3 79 [.bool q5, .slice q3 q4.length c_b3_1_L2h], fun Ep4 => cells b6 79 [.bool q6.2.fneg, .slice q2 q6.2.fmag.length c_y1_ret_1_3_2], fun Ep4 => cells b2 79 [.bool q0d, .slice q9 q0a.length c_b2_1_L2h], fun Ep4 => cells b2 79 [.bool q5, .slice q3 q4.length c_b3_1_L2h], fun Ep4 => cells b3 79 [.bool q6.2.fneg, .slice q2 q6.2.fmag.length c_y1_ret_1_3_2]] mixed (by kernel_rfl) (((hS.pull 3).pull 1).pull 4) ?_ ?_
   ·refine ⟨?_, ?_, ?_, ?_, trivial⟩
    ·intro Ep4 w l' hE4 hO4 hF_ hS
     replace hS : St w0 w (cells b3 79 [.bool q5, .slice q3 q4.length c_b3_1_L2h] :: l') := Eq.mp (by kernel_rfl) hS
     refine pa (v := .agg #[.bool q5, .slice q3 q4.length c_b3_1_L2h]) (ld_sub agg_79 ((hE4 3 rfl).trans q0s) rfl rfl hS) <| x_done <| ?_
     refine x_fin ⟨⟨_, rfl⟩, rfl, ?_⟩
     exact Eq.mp (by kernel_rfl) hS
    ·intro Ep4 w l' hE4 hO4 hF_ hS
     replace hS : St w0 w (cells b6 79 [.bool q6.2.fneg, .slice q2 q6.2.fmag.length c_y1_ret_1_3_2] :: l') := Eq.mp (by kernel_rfl) hS
     refine pa (v := .agg #[.bool q6.2.fneg, .slice q2 q6.2.fmag.length c_y1_ret_1_3_2]) (ld_sub agg_79 (hE4 6 rfl) rfl rfl hS) <| x_done <| ?_
     refine x_fin ⟨⟨_, rfl⟩, rfl, ?_⟩
     exact Eq.mp (by kernel_rfl) hS
    ·intro Ep4 w l' hE4 hO4 hF_ hS
     obtain ⟨q10, -⟩ := hF_
     replace q10 : Ep4 20 = .agg #[.bool q5, .slice q3 q4.length c_b3_1_L2h] := Eq.mp (by kernel_rfl) q10
     replace hS : St w0 w (cells b2 79 [.bool q0d, .slice q9 q0a.length c_b2_1_L2h] :: l') := Eq.mp (by kernel_rfl) hS
     refine o_storeAgg (news := [.bool q5, .slice q3 q4.length c_b3_1_L2h]) agg_79 ((hE4 2 rfl).trans q0w) q10 rfl (by simp [over_length]) hS (fun w' hS => ?_)
     refine x_done <| ?_
     refine x_fin ⟨⟨undef, rfl⟩, trivial, ?_⟩
     exact Eq.mp (by kernel_rfl) hS
    ·intro Ep4 w l' hE4 hO4 hF_ hS
     obtain ⟨q11, -⟩ := hF_
     replace q11 : Ep4 21 = .agg #[.bool q6.2.fneg, .slice q2 q6.2.fmag.length c_y1_ret_1_3_2] := Eq.mp (by kernel_rfl) q11
     replace hS : St w0 w (cells b3 79 [.bool q5, .slice q3 q4.length c_b3_1_L2h] :: l') := Eq.mp (by kernel_rfl) hS
     refine o_storeAgg (news := [.bool q6.2.fneg, .slice q2 q6.2.fmag.length c_y1_ret_1_3_2]) agg_79 ((hE4 3 rfl).trans q0s) q11 rfl (by simp [over_length]) hS (fun w' hS => ?_)
     refine x_done <| ?_
     refine x_fin ⟨⟨undef, rfl⟩, trivial, ?_⟩
     exact Eq.mp (by kernel_rfl) hS
   intro Ep4 w' hE4 hF_ hS
   obtain ⟨q10, q11, -⟩ := hF_
   replace q10 : Ep4 20 = .agg #[.bool q5, .slice q3 q4.length c_b3_1_L2h] := Eq.mp (by kernel_rfl) q10
   replace q11 : Ep4 21 = .agg #[.bool q6.2.fneg, .slice q2 q6.2.fmag.length c_y1_ret_1_3_2] := Eq.mp (by kernel_rfl) q11
   replace hS : St w0 w' (cells b6 79 [.bool q6.2.fneg, .slice q2 q6.2.fmag.length c_y1_ret_1_3_2] :: cells b2 79 [.bool q5, .slice q3 q4.length c_b3_1_L2h] :: cells b3 79 [.bool q6.2.fneg, .slice q2 q6.2.fmag.length c_y1_ret_1_3_2] :: (cells b5 79 [.bool q6.1.fneg, .slice q0k q6.1.fmag.length c_y0_ret_1_3_2] :: ro q1a :: cells b4 79 [.bool false, .slice none 0 0] :: l)) := Eq.mp (by kernel_rfl) hS
   refine x_blk <| ?_
   have e_ := Option.some.inj (show some _ = some _ from hFL2); subst e_
   exact x_inv ⟨kL2, Nat.lt_succ_self _, q1a, q3, q4.length, c_b3_1_L2h, q2, q6.2.fmag.length, c_y1_ret_1_3_2, q5, q4, q6.2.fneg, q6.2.fmag, hLL2, (q14.trans q1b), ((hE4 2 rfl).trans q0w), ((hE4 3 rfl).trans q0s), ((hE4 4 rfl).trans q19), (q0f.le q1b), q0l, (((((hS.drop.pull 2).drop.pull 2).pull 3).pull 3).pull 3)⟩
  ·replace hFL2 := it_f hc13 hFL2
   refine x_exitTo _ rfl <| ?_
   have e_ := Option.some.inj (show some _ = some _ from hFL2); subst e_
   exact x_inv ⟨q0t, q9, q0a.length, c_b2_1_L2h, q0d, q0a, hLL2, q14, q0w, q19, q0o, ((((hS.pull 1).drop.pull 2).pull 2).pull 2)⟩
 rintro E w ⟨q13, q0e, q0r, c_b2_1_L2, q0j, q0g, rfl, q1l, q1q, q1e, q12, hS⟩
 have e_ := q12.n; subst e_
 refine x_seq <| x_region <| pa (v := .agg #[.bool q0j, .slice q0e q0g.length c_b2_1_L2]) (ld_sub agg_79 q1q rfl rfl hS) <| ?_
 refine o_storeAgg (news := [.bool q0j, .slice q0e q0g.length c_b2_1_L2]) agg_79 q1e rfl rfl (by simp [over_length]) (hS.pull 1) (fun w' hS => ?_)
 refine x_done <| ?_
 have e_ := Option.some.inj (show some _ = some _ from hF); subst e_
 exact x_return ⟨_, ⟨_, _, _, rfl, q1e, ldvA agg_79 rfl (fun j v hj => by rw [add0]; exact St.cell hS hj), rfl⟩, q13, q0e, q0g.length, c_b2_1_L2, rfl, q1l, q12, hS.drop.drop⟩
attribute [irreducible] P_exact_Gcd

def P_exact_reduced (n0 : T_exact_Int) (d1 : T_exact_Int) : Option (T_exact_Ratio × Int) :=
 bd (P_exact_Sign d1) fun q0c =>
 bd (
  if q0c < 0 then
   bd (P_exact_Neg n0) fun q8 =>
   bd (P_exact_Neg d1) fun q9 =>
   some (q8.fneg, q8.fmag, q9.fneg, q9.fmag)
  else
   some (n0.fneg, n0.fmag, d1.fneg, d1.fmag)) fun (q2, q3, q4, q5) =>
 bd (P_exact_Gcd (T_exact_Int.mk q2 q3) (T_exact_Int.mk q4 q5)) fun q0a =>
 bd (P_exact_split (T_exact_Int.mk q2 q3) q0a) fun q6 =>
 bd (P_exact_split (T_exact_Int.mk q4 q5) q0a) fun q7 =>
 bd (P_exact_Bits q6.1) fun q0b =>
 bd (gd (!(decide (65536 < q0b))) (P_exact_Bits q7.1)) fun q0d =>
 lv ((decide (65536 < q0b)) || (decide (65536 < q0d))) fun x36 =>
 if x36 = true then
  some ((T_exact_Ratio.mk (T_exact_Int.mk false []) (T_exact_Int.mk false [])), (3 : Int))
 else
  some ((T_exact_Ratio.mk (T_exact_Int.mk q6.1.fneg q6.1.fmag) (T_exact_Int.mk q7.1.fneg q7.1.fmag)), (0 : Int))
set_option maxHeartbeats 4000000 in
set_option maxRecDepth 100000 in
theorem c_exact_reduced {w0 w : World} {l : List Assn} {ρ : Heap} {q7 : Option Addr} {q19 : Nat} {c_n0_1 : Nat} {q6 : Option Addr} {q1a : Nat} {c_d1_1 : Nat} {n0 : T_exact_Int} {d1 : T_exact_Int} {r : (T_exact_Ratio × Int)} (hF : P_exact_reduced n0 d1 = some r) (q18 : RdS (RpI .u32) ρ q7 q19 c_n0_1 n0.fmag) (q0s : RdS (RpI .u32) ρ q6 q1a c_d1_1 d1.fmag) (hS : St w0 w (ro ρ :: l)) :
  Calls Try.prog 94 #[.agg #[.bool n0.fneg, .slice q7 q19 c_n0_1], .agg #[.bool d1.fneg, .slice q6 q1a c_d1_1]] w fun e w' => ∃ (ρ' : Heap) (q0t : Option Addr) (q0u : Nat) (c_y0_ret_1 : Nat) (q0v : Option Addr) (q0w : Nat) (c_y0_ret_3 : Nat), e = .returned (.tuple #[.agg #[.bool r.1.Num.fneg, .slice q0t q0u c_y0_ret_1, .bool r.1.Den.fneg, .slice q0v q0w c_y0_ret_3], .int .i64 r.2]) ∧ Le ρ ρ' ∧ RdS (RpI .u32) ρ' q0t q0u c_y0_ret_1 r.1.Num.fmag ∧ RdS (RpI .u32) ρ' q0v q0w c_y0_ret_3 r.1.Den.fmag ∧ St w0 w' (ro ρ' :: l) := by
 have e_ := q18.n; subst e_
 have e_ := q0s.n; subst e_
 refine enterC Try.func94 rfl 41 rfl (by simp) ?_
 refine x_seq <| x_region <| ?_
 refine o_box (cs := [.bool n0.fneg, .slice q7 n0.fmag.length c_n0_1]) rfl rfl hS (fun b2 w' hS => ?_)
 refine o_box (cs := [.bool d1.fneg, .slice q6 d1.fmag.length c_d1_1]) rfl rfl hS (fun b3 w' hS => ?_)
 refine o_alloc zero_94 hS (fun b4 w' hS => ?_)
 replace hF := bd_s hF; obtain ⟨q1z, q1r, hF⟩ := hF
 refine p (yl_assign rfl) <| x_done <| x_seq <| x_seq <|
  x_region <| pa (v := .agg #[.bool d1.fneg, .slice q6 d1.fmag.length c_d1_1]) (ld_sub agg_79 rfl rfl rfl (hS.pull 1)) <| ?_
 have hcall := c_exact_Sign q1r q0s (hS.pull 3)
 refine o_cc call_44 (args1 rfl) ((Calls.mono hcall (fun e w'' h => And.intro h.1 (((h.2.pull 3).pull 3).pull 3)))) ?_
 rintro e w' ⟨rfl, hS⟩
 refine ⟨_, rfl, ?_⟩
 refine p (yl_lss rfl rfl) <| x_done <| ?_
 replace hF := bd_s hF; obtain ⟨oc9, hFc9, hF⟩ := hF
 refine x_join (fun E w => ∃ (q0e : Option Addr) (q0m : Nat) (c_b2_1_c9 : Nat) (q0f : Option Addr) (q0n : Nat) (c_b3_1_c9 : Nat) (q0g : Bool) (q0h : List Int) (q0i : Bool) (q0j : List Int), (q0g, q0h, q0i, q0j) = oc9 ∧ E 2 = .pointer (some ⟨b2, 0, none⟩) ∧ E 3 = .pointer (some ⟨b3, 0, none⟩) ∧ E 4 = .pointer (some ⟨b4, 0, none⟩) ∧ RdS (RpI .u32) ρ q0e q0m c_b2_1_c9 q0h ∧ RdS (RpI .u32) ρ q0f q0n c_b3_1_c9 q0j ∧ St w0 w (cells b2 79 [.bool q0g, .slice q0e q0m c_b2_1_c9] :: cells b3 79 [.bool q0i, .slice q0f q0n c_b3_1_c9] :: cells b4 94 [.bool false, .slice none 0 0, .bool false, .slice none 0 0] :: ro ρ :: l)) ?_ ?_
 ·refine x_cond_p (q1z < 0) rfl (fun hc9 => ?_) (fun hc9 => ?_)
  ·replace hFc9 := it_t hc9 hFc9
   replace hFc9 := bd_s hFc9; obtain ⟨q4, q1s, hFc9⟩ := hFc9
   replace hFc9 := bd_s hFc9; obtain ⟨q5, q1t, hFc9⟩ := hFc9
   refine x_par (w0 := w0) [⟨[], [], [10], [0], [], []⟩, ⟨[0], [0], [11], [1], [], []⟩, ⟨[], [], [12], [2], [], []⟩, ⟨[0, 1, 2], [2], [13], [1], [], []⟩, ⟨[0, 1, 2, 3], [1], [], [], [0], [3]⟩, ⟨[0, 1, 2, 3, 4], [3], [], [], [2], [4]⟩] [⟨none, (some 4), []⟩, ⟨none, none, []⟩, ⟨none, (some 5), []⟩, ⟨(some 4), none, [11]⟩, ⟨(some 5), none, [13]⟩] [10, 11, 12, 13] [0, 1, 2] [1, 3, 4] [0, 1, 2, 3] [fun Ep2 => Ep2 10 = .agg #[.bool n0.fneg, .slice q7 n0.fmag.length c_n0_1], fun Ep2 => Ep2 11 = .agg #[.bool q4.fneg, .slice (adOf (partOf 1 (Ep2 11))) q4.fmag.length (capOf (partOf 1 (Ep2 11)))] ∧ RdS (RpI .u32) ρ (adOf (partOf 1 (Ep2 11))) q4.fmag.length (capOf (partOf 1 (Ep2 11))) q4.fmag, fun Ep2 => Ep2 12 = .agg #[.bool d1.fneg, .slice q6 d1.fmag.length c_d1_1], fun Ep2 => Ep2 13 = .agg #[.bool q5.fneg, .slice (adOf (partOf 1 (Ep2 13))) q5.fmag.length (capOf (partOf 1 (Ep2 13)))] ∧ RdS (RpI .u32) ρ (adOf (partOf 1 (Ep2 13))) q5.fmag.length (capOf (partOf 1 (Ep2 13))) q5.fmag, fun Ep2 => True, fun Ep2 => True] [fun Ep2 => cells b2 79 [.bool n0.fneg, .slice q7 n0.fmag.length c_n0_1], fun Ep2 => ro ρ, fun Ep2 => cells b3 79 [.bool d1.fneg, .slice q6 d1.fmag.length c_d1_1], fun Ep2 => cells b2 79 [.bool q4.fneg, .slice (adOf (partOf 1 (Ep2 11))) q4.fmag.length (capOf (partOf 1 (Ep2 11)))], fun Ep2 => cells b3 79 [.bool q5.fneg, .slice (adOf (partOf 1 (Ep2 13))) q5.fmag.length (capOf (partOf 1 (Ep2 13)))]] mixed (by kernel_rfl) (((hS.pull 1).pull 3).pull 3) ?_ ?_
   ·refine ⟨?_, ?_, ?_, ?_, ?_, ?_, trivial⟩
    ·intro Ep2 w l' hE2 hO2 hF_ hS
     replace hS : St w0 w (cells b2 79 [.bool n0.fneg, .slice q7 n0.fmag.length c_n0_1] :: l') := Eq.mp (by kernel_rfl) hS
     refine pa (v := .agg #[.bool n0.fneg, .slice q7 n0.fmag.length c_n0_1]) (ld_sub agg_79 (hE2 2 rfl) rfl rfl hS) <| x_done <| ?_
     refine x_fin ⟨⟨_, rfl⟩, rfl, ?_⟩
     exact Eq.mp (by kernel_rfl) hS
    ·intro Ep2 w l' hE2 hO2 hF_ hS
     obtain ⟨q12, -⟩ := hF_
     replace q12 : Ep2 10 = .agg #[.bool n0.fneg, .slice q7 n0.fmag.length c_n0_1] := Eq.mp (by kernel_rfl) q12
     replace hS : St w0 w (ro ρ :: l') := Eq.mp (by kernel_rfl) hS
     have hcall := c_exact_Neg q1s q18 hS
     refine o_cc call_43 (args1 q12) hcall ?_
     rintro e w' ⟨q1f, q1g, c_y0_ret_1_2_1, rfl, q0k, hS⟩
     refine ⟨_, rfl, ?_⟩
     have e_ := q0k.n; subst e_
     refine x_done <| ?_
     refine x_fin ⟨⟨_, rfl⟩, ⟨rfl, q0k⟩, ?_⟩
     exact Eq.mp (by kernel_rfl) hS
    ·intro Ep2 w l' hE2 hO2 hF_ hS
     replace hS : St w0 w (cells b3 79 [.bool d1.fneg, .slice q6 d1.fmag.length c_d1_1] :: l') := Eq.mp (by kernel_rfl) hS
     refine pa (v := .agg #[.bool d1.fneg, .slice q6 d1.fmag.length c_d1_1]) (ld_sub agg_79 (hE2 3 rfl) rfl rfl hS) <| x_done <| ?_
     refine x_fin ⟨⟨_, rfl⟩, rfl, ?_⟩
     exact Eq.mp (by kernel_rfl) hS
    ·intro Ep2 w l' hE2 hO2 hF_ hS
     obtain ⟨q13, -⟩ := hF_
     replace q13 : Ep2 12 = .agg #[.bool d1.fneg, .slice q6 d1.fmag.length c_d1_1] := Eq.mp (by kernel_rfl) q13
     replace hS : St w0 w (ro ρ :: l') := Eq.mp (by kernel_rfl) hS
     have hcall := c_exact_Neg q1t q0s hS
     refine o_cc call_43 (args1 q13) hcall ?_
     rintro e w' ⟨q1h, q1i, c_y0_ret_1_2_3, rfl, q0l, hS⟩
     refine ⟨_, rfl, ?_⟩
     have e_ := q0l.n; subst e_
     refine x_done <| ?_
     refine x_fin ⟨⟨_, rfl⟩, ⟨rfl, q0l⟩, ?_⟩
     exact Eq.mp (by kernel_rfl) hS
    ·intro Ep2 w l' hE2 hO2 hF_ hS
     obtain ⟨q0o, -⟩ := hF_
     replace q0o : Ep2 11 = .agg #[.bool q4.fneg, .slice (adOf (partOf 1 (Ep2 11))) q4.fmag.length (capOf (partOf 1 (Ep2 11)))] ∧ RdS (RpI .u32) ρ (adOf (partOf 1 (Ep2 11))) q4.fmag.length (capOf (partOf 1 (Ep2 11))) q4.fmag := Eq.mp (by kernel_rfl) q0o
     have q_ := id q0o; obtain ⟨-, q1d⟩ := q_
     replace hS : St w0 w (cells b2 79 [.bool n0.fneg, .slice q7 n0.fmag.length c_n0_1] :: l') := Eq.mp (by kernel_rfl) hS
     refine o_storeAgg (news := [.bool q4.fneg, .slice (adOf (partOf 1 (Ep2 11))) q4.fmag.length (capOf (partOf 1 (Ep2 11)))]) agg_79 (hE2 2 rfl) q0o.1 rfl (by simp [over_length]) hS (fun w' hS => ?_)
     refine x_done <| ?_
     refine x_fin ⟨⟨undef, rfl⟩, trivial, ?_⟩
     exact Eq.mp (by kernel_rfl) hS
    ·intro Ep2 w l' hE2 hO2 hF_ hS
     obtain ⟨q0p, -⟩ := hF_
     replace q0p : Ep2 13 = .agg #[.bool q5.fneg, .slice (adOf (partOf 1 (Ep2 13))) q5.fmag.length (capOf (partOf 1 (Ep2 13)))] ∧ RdS (RpI .u32) ρ (adOf (partOf 1 (Ep2 13))) q5.fmag.length (capOf (partOf 1 (Ep2 13))) q5.fmag := Eq.mp (by kernel_rfl) q0p
     have q_ := id q0p; obtain ⟨-, q1e⟩ := q_
     replace hS : St w0 w (cells b3 79 [.bool d1.fneg, .slice q6 d1.fmag.length c_d1_1] :: l') := Eq.mp (by kernel_rfl) hS
     refine o_storeAgg (news := [.bool q5.fneg, .slice (adOf (partOf 1 (Ep2 13))) q5.fmag.length (capOf (partOf 1 (Ep2 13)))]) agg_79 (hE2 3 rfl) q0p.1 rfl (by simp [over_length]) hS (fun w' hS => ?_)
     refine x_done <| ?_
     refine x_fin ⟨⟨undef, rfl⟩, trivial, ?_⟩
     exact Eq.mp (by kernel_rfl) hS
   intro Ep2 w' hE2 hF_ hS
   obtain ⟨q12, q0o, q13, q0p, -⟩ := hF_
   replace q12 : Ep2 10 = .agg #[.bool n0.fneg, .slice q7 n0.fmag.length c_n0_1] := Eq.mp (by kernel_rfl) q12
   replace q0o : Ep2 11 = .agg #[.bool q4.fneg, .slice (adOf (partOf 1 (Ep2 11))) q4.fmag.length (capOf (partOf 1 (Ep2 11)))] ∧ RdS (RpI .u32) ρ (adOf (partOf 1 (Ep2 11))) q4.fmag.length (capOf (partOf 1 (Ep2 11))) q4.fmag := Eq.mp (by kernel_rfl) q0o
   have q_ := id q0o; obtain ⟨-, q1d⟩ := q_
   replace q13 : Ep2 12 = .agg #[.bool d1.fneg, .slice q6 d1.fmag.length c_d1_1] := Eq.mp (by kernel_rfl) q13
   replace q0p : Ep2 13 = .agg #[.bool q5.fneg, .slice (adOf (partOf 1 (Ep2 13))) q5.fmag.length (capOf (partOf 1 (Ep2 13)))] ∧ RdS (RpI .u32) ρ (adOf (partOf 1 (Ep2 13))) q5.fmag.length (capOf (partOf 1 (Ep2 13))) q5.fmag := Eq.mp (by kernel_rfl) q0p
   have q_ := id q0p; obtain ⟨-, q1e⟩ := q_
   replace hS : St w0 w' (ro ρ :: cells b2 79 [.bool q4.fneg, .slice (adOf (partOf 1 (Ep2 11))) q4.fmag.length (capOf (partOf 1 (Ep2 11)))] :: cells b3 79 [.bool q5.fneg, .slice (adOf (partOf 1 (Ep2 13))) q5.fmag.length (capOf (partOf 1 (Ep2 13)))] :: (cells b4 94 [.bool false, .slice none 0 0, .bool false, .slice none 0 0] :: l)) := Eq.mp (by kernel_rfl) hS
   exact x_inv ⟨(adOf (partOf 1 (Ep2 11))), q4.fmag.length, (capOf (partOf 1 (Ep2 11))), (adOf (partOf 1 (Ep2 13))), q5.fmag.length, (capOf (partOf 1 (Ep2 13))), q4.fneg, q4.fmag, q5.fneg, q5.fmag, (Option.some.inj (show some _ = some _ from hFc9)), (hE2 2 rfl), (hE2 3 rfl), (hE2 4 rfl), q1d, q1e, (((hS.pull 3).pull 3).pull 3)⟩
  ·replace hFc9 := it_f hc9 hFc9
   refine x_skip <| ?_
   exact x_inv ⟨q7, n0.fmag.length, c_n0_1, q6, d1.fmag.length, c_d1_1, n0.fneg, n0.fmag, d1.fneg, d1.fmag, (Option.some.inj (show some _ = some _ from hFc9)), rfl, rfl, rfl, q18, q0s, ((((hS.pull 3).pull 1).pull 2).pull 3)⟩
 rintro E w ⟨q0e, q0m, c_b2_1_c9, q0f, q0n, c_b3_1_c9, q0g, q0h, q0i, q0j, rfl, q0x, q0y, q17, q0q, q0r, hS⟩
 have e_ := q0q.n; subst e_
 have e_ := q0r.n; subst e_
 replace hF := bd_s hF; obtain ⟨q14, q1u, hF⟩ := hF
 refine x_seq <| x_region <| pa (v := .agg #[.bool q0g, .slice q0e q0h.length c_b2_1_c9]) (ld_sub agg_79 q0x rfl rfl hS) <| pa (v := .agg #[.bool q0i, .slice q0f q0j.length c_b3_1_c9]) (ld_sub agg_79 q0y rfl rfl (hS.pull 1)) <| ?_
 have hcall := c_exact_Gcd q1u q0q q0r (hS.pull 3)
 refine o_cc call_124 (args2 rfl rfl) hcall ?_
 rintro e w' ⟨q20, q8, q1j, c_y0_ret_1_3_2, rfl, q0z, q9, hS⟩
 refine ⟨_, rfl, ?_⟩
 have e_ := q9.n; subst e_
 refine o_alloc zero_79 hS (fun b6 w' hS => ?_)
 refine o_storeAgg (news := [.bool q14.fneg, .slice q8 q14.fmag.length c_y0_ret_1_3_2]) agg_79 rfl rfl rfl (by simp [over_length]) hS (fun w' hS => ?_)
 replace hF := bd_s hF; obtain ⟨q0a, q1v, hF⟩ := hF
 refine x_done <| x_seq <| x_region <| pa (v := .agg #[.bool q0g, .slice q0e q0h.length c_b2_1_c9]) (ld_sub agg_79 q0x rfl rfl (hS.pull 2)) <|
  pa (v := .agg #[.bool q14.fneg, .slice q8 q14.fmag.length c_y0_ret_1_3_2]) (ld_sub agg_79 rfl rfl rfl hS) <| ?_
 have hcall := c_exact_split q1v (q0q.le q0z) q9 (hS.pull 1)
 refine o_cc call_103 (args2 rfl rfl) hcall ?_
 rintro e w' ⟨q21, q2, q1k, c_y0_ret_1_4_2, q1l, q1m, c_y1_ret_1_4_2, rfl, q10, q0b, q15, hS⟩
 refine ⟨_, rfl, ?_⟩
 have e_ := q0b.n; subst e_
 have e_ := q15.n; subst e_
 refine p (yl_move rfl) <| p (yl_extract rfl rfl) <| p (yl_extract rfl rfl) <| ?_
 refine o_storeAgg (news := [.bool q0a.1.fneg, .slice q2 q0a.1.fmag.length c_y0_ret_1_4_2]) agg_79 q0x rfl rfl (by simp [over_length]) (hS.pull 2) (fun w' hS => ?_)
 replace hF := bd_s hF; obtain ⟨q0c, q1w, hF⟩ := hF
 refine x_done <| x_seq <| x_region <| pa (v := .agg #[.bool q0i, .slice q0f q0j.length c_b3_1_c9]) (ld_sub agg_79 q0y rfl rfl (hS.pull 3)) <|
  pa (v := .agg #[.bool q14.fneg, .slice q8 q14.fmag.length c_y0_ret_1_3_2]) (ld_sub agg_79 rfl rfl rfl (hS.pull 2)) <| ?_
 have hcall := c_exact_split q1w (q0r.le (q0z.trans q10)) (q9.le q10) (hS.pull 1)
 refine o_cc call_103 (args2 rfl rfl) hcall ?_
 rintro e w' ⟨q1b, q3, q1n, c_y0_ret_1_5_2, q1o, q1p, c_y1_ret_1_5_2, rfl, q11, q0d, q16, hS⟩
 refine ⟨_, rfl, ?_⟩
 have e_ := q0d.n; subst e_
 have e_ := q16.n; subst e_
 refine p (yl_move rfl) <| p (yl_extract rfl rfl) <| p (yl_extract rfl rfl) <| ?_
 refine o_storeAgg (news := [.bool q0c.1.fneg, .slice q3 q0c.1.fmag.length c_y0_ret_1_5_2]) agg_79 q0y rfl rfl (by simp [over_length]) (hS.pull 3) (fun w' hS => ?_)
 replace hF := bd_s hF; obtain ⟨q1c, q1x, hF⟩ := hF
 refine x_done <| x_seq <| x_seq <| x_region <|
  pa (v := .agg #[.bool q0a.1.fneg, .slice q2 q0a.1.fmag.length c_y0_ret_1_4_2]) (ld_sub agg_79 q0x rfl rfl (hS.pull 2)) <| ?_
 have hcall := c_exact_Bits q1x (q0b.le q11) (hS.pull 1)
 refine o_cc call_123 (args1 rfl) ((Calls.mono hcall (fun e w'' h => And.intro h.1 (((((h.2.pull 4).pull 4).pull 4).pull 3).pull 4)))) ?_
 rintro e w' ⟨rfl, hS⟩
 refine ⟨_, rfl, ?_⟩
 replace hF := bd_s hF; obtain ⟨q1q, q1y, hF⟩ := hF
 refine p (yl_gtr rfl rfl) <| p (yl_move rfl) <| pg (v := .agg #[.bool q0c.1.fneg, .slice q3 q0c.1.fmag.length c_y0_ret_1_5_2]) 32 (c := !(decide (65536 < q1c))) (says_f _) (fun hq => ld_sub agg_79 q0y rfl rfl hS) <|
  pccg (v := .int .i64 q1q) 32 (c := !(decide (65536 < q1c))) (says_f _) call_123 (fun hq => (args1 (cv hq))) hS (fun hq => by
   have hcall := c_exact_Bits (gd_t q1y hq) q0d (hS.pull 1)
   exact (Calls.mono hcall (fun e w'' h => And.intro h.1 (((((h.2.pull 4).pull 4).pull 4).pull 3).pull 4)))) (fun w' hS => ?_)
 replace hF := lv_s hF; obtain ⟨x36, hx36, hF⟩ := hF
 refine pg (v := .bool (decide (65536 < q1q))) 32 (c := !(decide (65536 < q1c))) (says_f _) (fun hq => Yl.at (yl_gtr (cv hq) rfl)) <| p (yor' rfl rfl (fun hc => (cv (t_not hc))) hx36) <| x_done <|
  x_cond (t := x36) rfl (fun hc36 => ?_) (fun hc36 => ?_)
 ·replace hF := it_t hc36 hF
  refine x_seq <| x_region <| p (v := .agg #[.bool false, .slice none 0 0, .bool false, .slice none 0 0]) (yl_build bld_94 bldf_94 (parts_eq pt0) (by kernel_rfl)) <| ?_
  refine o_storeAgg (news := [.bool false, .slice none 0 0, .bool false, .slice none 0 0]) agg_94 q17 rfl rfl (by simp [over_length]) (hS.pull 4) (fun w' hS => ?_)
  refine p (yl_assign rfl) <| x_done <| ?_
  have e_ := Option.some.inj (show some _ = some _ from hF); subst e_
  exact x_return ⟨_, ⟨_, _, _, rfl, q17, ldvA agg_94 rfl (fun j v hj => by rw [add0]; exact St.cell hS hj), _, _, rfl, rfl, rfl⟩, q1b, none, 0, 0, none, 0, 0, rfl, ((q0z.trans q10).trans q11), (RdS.nil (A := none) (c := 0)), (RdS.nil (A := none) (c := 0)), (((hS.drop.drop.pull 1).drop.pull 1).drop)⟩
 ·replace hF := it_bf hc36 hF
  refine x_skip <| x_seq <| x_region <| pa (v := .agg #[.bool q0a.1.fneg, .slice q2 q0a.1.fmag.length c_y0_ret_1_4_2]) (ld_sub agg_79 q0x rfl rfl (hS.pull 2)) <|
   pa (v := .agg #[.bool q0c.1.fneg, .slice q3 q0c.1.fmag.length c_y0_ret_1_5_2]) (ld_sub agg_79 q0y rfl rfl hS) <| p (v := .agg #[.bool q0a.1.fneg, .slice q2 q0a.1.fmag.length c_y0_ret_1_4_2, .bool q0c.1.fneg, .slice q3 q0c.1.fmag.length c_y0_ret_1_5_2]) (yl_build bld_94 bldf_94 (parts_eq (pt (va := .agg #[.bool q0a.1.fneg, .slice q2 q0a.1.fmag.length c_y0_ret_1_4_2]) rfl (pt (va := .agg #[.bool q0c.1.fneg, .slice q3 q0c.1.fmag.length c_y0_ret_1_5_2]) rfl pt0))) (by kernel_rfl)) <| ?_
  refine o_storeAgg (news := [.bool q0a.1.fneg, .slice q2 q0a.1.fmag.length c_y0_ret_1_4_2, .bool q0c.1.fneg, .slice q3 q0c.1.fmag.length c_y0_ret_1_5_2]) agg_94 q17 rfl rfl (by simp [over_length]) (hS.pull 4) (fun w' hS => ?_)
  refine p (yl_assign rfl) <| x_done <| ?_
  have e_ := Option.some.inj (show some _ = some _ from hF); subst e_
  exact x_return ⟨_, ⟨_, _, _, rfl, q17, ldvA agg_94 rfl (fun j v hj => by rw [add0]; exact St.cell hS hj), _, _, rfl, rfl, rfl⟩, q1b, q2, q0a.1.fmag.length, c_y0_ret_1_4_2, q3, q0c.1.fmag.length, c_y0_ret_1_5_2, rfl, ((q0z.trans q10).trans q11), (q0b.le q11), q0d, (((hS.drop.drop.pull 1).drop.pull 1).drop)⟩
attribute [irreducible] P_exact_reduced

def P_exact_Solve_L7 (b1 : List Int) : Int → Option (Int ⊕ (Unit ⊕ (List T_exact_Ratio × Int))) := fun q2 =>
 if q2 < (b1.length : Int) then
  ck (inb q2 b1.length) <|
  lv (gt b1 q2) fun x31 =>
  lv ((decide (x31 < (-1099511627776))) || (decide (1099511627776 < x31))) fun x37 =>
  if x37 = true then
   some (Sum.inr (Sum.inr ([], (2 : Int))))
  else
   ar (q2 + 1) fun x38 =>
   some (Sum.inl x38)
 else
  some (Sum.inr (Sum.inl ()))
def P_exact_Solve_L14 (a0 : List (List Int)) : (Int × List (List T_exact_Int) × Bool × List Int × Bool × Int) → Option ((Int × List (List T_exact_Int) × Bool × List Int × Bool × Int) ⊕ ((List (List T_exact_Int) × Bool × List Int × Bool × Int) ⊕ (List T_exact_Ratio × Int))) := fun (q8, q2, q3, q4, q5, q6) =>
 if q8 < (a0.length : Int) then
  bd (P_exact_table_pivot (T_exact_table.mk q2 (T_exact_Int.mk q3 q4) q5 q6) q8 true) fun q7 =>
  if (!q7.1) = true then
   some (Sum.inr (Sum.inr ([], (7 : Int))))
  else
   ar (q8 + 1) fun x52 =>
   some (Sum.inl (x52, q7.2.1, q7.2.2.1, q7.2.2.2.1, q7.2.2.2.2.1, q7.2.2.2.2.2))
 else
  some (Sum.inr (Sum.inl (q2, q3, q4, q5, q6)))
def P_exact_Solve_L21 (a0 : List (List Int)) (q8 : (List (List T_exact_Int) × Bool × List Int)) (q2 : List (List T_exact_Int)) : (List T_exact_Ratio × Int) → Option ((List T_exact_Ratio × Int) ⊕ (List T_exact_Ratio ⊕ (List T_exact_Ratio × Int))) := fun (q4, q3) =>
 if q3 < (q8.1.length : Int) then
  ck (inb q3 q2.length) <|
  lv (gt q2 q3) fun q5 =>
  ck (inb (a0.length : Int) q5.length) <|
  lv (gt q5 (a0.length : Int)) fun q9 =>
  ck (inb q3 q5.length) <|
  lv (gt q5 q3) fun q0a =>
  bd (P_exact_reduced q9 q0a) fun q6 =>
  if q6.2 ≠ 0 then
   some (Sum.inr (Sum.inr ([], q6.2)))
  else
   lv (q4 ++ [q6.1]) fun q7 =>
   ck (apOk 64 q7.length) <|
   ar (q3 + 1) fun x83 =>
   some (Sum.inl (q7, x83))
 else
  some (Sum.inr (Sum.inl q4))
def P_exact_Solve (a0 : List (List Int)) (b1 : List Int) : Option (List T_exact_Ratio × Int) :=
 bd (P_exact_square a0) fun q9 =>
 if q9 ≠ 0 then
  some ([], q9)
 else
  if (b1.length : Int) ≠ (a0.length : Int) then
   some ([], (4 : Int))
  else
   bs (
    lp (P_exact_Solve_L7 b1) fuel 0) (fun y => some y) fun _ =>
   bd (P_exact_begin a0 ([b1] : List (List Int))) fun q3 =>
   bs (
    lp (P_exact_Solve_L14 a0) fuel (0, q3.1, q3.2.1, q3.2.2, false, 0)) (fun y => some y) fun (q2, q4, q5, q6, q7) =>
   bs (
    lp (P_exact_Solve_L21 a0 q3 q2) fuel ([], 0)) (fun y => some y) fun q8 =>
   some (q8, (0 : Int))
set_option maxHeartbeats 4000000 in
set_option maxRecDepth 100000 in
theorem c_exact_Solve {w0 w : World} {l : List Assn} {ρ : Heap} {q1i : Option Addr} {q3w : Nat} {c_a0 : Nat} {q1j : Option Addr} {q3x : Nat} {c_b1 : Nat} {a0 : List (List Int)} {b1 : List Int} {r : (List T_exact_Ratio × Int)} (hF : P_exact_Solve a0 b1 = some r) (q3k : RdS (RpSl (RpI .i64)) ρ q1i q3w c_a0 a0) (q37 : RdS (RpI .i64) ρ q1j q3x c_b1 b1) (hS : St w0 w (ro ρ :: l)) :
  Calls Try.prog 45 #[.slice q1i q3w c_a0, .slice q1j q3x c_b1] w fun e w' => ∃ (ρ' : Heap) (q2o : Option Addr) (q2a : Nat) (c_y0_ret : Nat) (q2n : List Value), e = .returned (.tuple #[.slice q2o q2a c_y0_ret, .int .i64 r.2]) ∧ Le ρ ρ' ∧ RepL R_exact_Ratio ρ' r.1 q2n ∧ St w0 w' (vec 94 R_exact_Ratio.sz (.slice q2o q2a c_y0_ret) q2a q2n :: ro ρ' :: l) := by
 have e_ := q3k.n; subst e_
 have e_ := q37.n; subst e_
 refine enterC Try.func45 rfl 85 rfl (by simp) ?_
 replace hF := bd_s hF; obtain ⟨q2p, q4c, hF⟩ := hF
 refine x_seq <| x_region <| p (yl_assign rfl) <| p (yl_assign rfl) <|
  x_done <| x_seq <| x_seq <| x_region <|
  p (yl_move rfl) <| ?_
 have hcall := c_exact_square q4c q3k hS
 refine o_cc call_85 (args1 rfl) (hcall) ?_
 rintro e w' ⟨rfl, hS⟩
 refine ⟨_, rfl, ?_⟩
 refine p (v := .int .i64 q2p) (yl_assign rfl) <| x_done <| x_seq <| x_region <|
  p (v := .int .i64 q2p) (yl_move rfl) <| p (yl_neq rfl rfl) <| x_done <|
  x_cond_p (q2p ≠ 0) rfl (fun hc19 => ?_) (fun hc19 => ?_)
 ·replace hF := it_t hc19 hF
  refine x_seq <| x_region <| p (v := .int .i64 q2p) (yl_move rfl) <| p (yl_assign rfl) <|
   p (v := .int .i64 q2p) (yl_assign rfl) <| x_done <| ?_
  replace hS := St.vec_nil hS 94 R_exact_Ratio.sz
  have q6 : RepL R_exact_Ratio ρ [] [] := rfl
  have e_ := Option.some.inj (show some _ = some _ from hF); subst e_
  exact x_return ⟨_, ⟨_, _, rfl, rfl, _, _, rfl, rfl, rfl⟩, ρ, none, 0, 0, [], rfl, (Le.refl _), q6, ((hS.pull 1).pull 1)⟩
 ·replace hF := it_f hc19 hF
  refine x_skip <| x_seq <| x_seq <| x_region <|
   p (yl_move rfl) <| p (yl_len_slice usl_87 rfl) <| p (yl_move rfl) <| p (yl_len_slice usl_75 rfl) <|
   p (yl_neq rfl rfl) <| x_done <|
   x_cond_p ((b1.length : Int) ≠ (a0.length : Int)) rfl (fun hc25 => ?_) (fun hc25 => ?_)
  ·replace hF := it_t hc25 hF
   refine x_seq <| x_region <| p (yl_assign rfl) <| p (yl_assign rfl) <|
    x_done <| ?_
   replace hS := St.vec_nil hS 94 R_exact_Ratio.sz
   have q6 : RepL R_exact_Ratio ρ [] [] := rfl
   have e_ := Option.some.inj (show some _ = some _ from hF); subst e_
   exact x_return ⟨_, ⟨_, _, rfl, rfl, _, _, rfl, rfl, rfl⟩, ρ, none, 0, 0, [], rfl, (Le.refl _), q6, ((hS.pull 1).pull 1)⟩
  ·replace hF := it_f hc25 hF
   refine x_skip <| x_seq <| x_seq <| x_region <|
    p (yl_move rfl) <| p (yl_len_slice usl_87 rfl) <| p (yl_move rfl) <| x_done <| ?_
   replace hF := bs_s hF; obtain ⟨oL7, hLL7, hF⟩ := hF
   refine x_join (fun E w => (Sum.inl (())) = oL7 ∧ E 0 = .slice q1i a0.length c_a0 ∧ E 1 = .slice q1j b1.length c_b1 ∧ St w0 w (ro ρ :: l)) ?_ ?_
   ·refine x_block ?_
    refine x_loop (fun k_ E w => ∃ (q1v : Int), lp (P_exact_Solve_L7 b1) k_ q1v = some oL7 ∧ E 0 = .slice q1i a0.length c_a0 ∧ E 1 = .slice q1j b1.length c_b1 ∧ E 26 = .slice q1j b1.length c_b1 ∧ E 27 = .int .i64 (b1.length : Int) ∧ E 28 = .int .i64 q1v ∧ St w0 w (ro ρ :: l)) fuel ⟨0, hLL7, rfl, rfl, rfl, rfl, rfl, hS⟩ ?_
    rintro kL7 E w ⟨q1v, hLL7, q39, q3a, q2x, q2y, q2i, hS⟩
    replace hLL7 := lp_s hLL7; obtain ⟨kL7, obL7, rfl, hFL7, hLL7⟩ := hLL7
    refine x_seq <| x_region <| p (yl_lss q2i q2y) <| x_done <|
     x_seq <|
     x_cond_p (q1v < (b1.length : Int)) rfl (fun hc29 => ?_) (fun hc29 => ?_)
    ·replace hFL7 := it_t hc29 hFL7
     replace hFL7 := ck_s hFL7; obtain ⟨q3m, hFL7⟩ := hFL7
     replace hFL7 := lv_s hFL7; obtain ⟨x31, hx31, hFL7⟩ := hFL7
     replace hFL7 := lv_s hFL7; obtain ⟨x37, hx37, hFL7⟩ := hFL7
     refine x_skip <| x_seq <| x_block <| x_seq <|
      x_region <| p (yix_f sl_87 q2x q2i q37 q3m) <| pa (at_load one_2 rfl (RdS.getW q37 hS q3m hx31)) <| p (yl_assign rfl) <|
      x_done <| x_seq <| x_region <| p (yl_move rfl) <|
      p (yl_lss rfl rfl) <| p (yl_move rfl) <| pg (v := .int .i64 x31) 34 (c := !(decide (x31 < (-1099511627776)))) (says_f _) (fun hq => Yl.at (yl_move rfl)) <| pg (v := .bool (decide (1099511627776 < x31))) 34 (c := !(decide (x31 < (-1099511627776)))) (says_f _) (fun hq => Yl.at (yl_gtr (cv hq) rfl)) <|
      p (yor' rfl rfl (fun hc => (cv (t_not hc))) hx37) <| x_done <|
      x_cond (t := x37) rfl (fun hc37 => ?_) (fun hc37 => ?_)
     ·replace hFL7 := it_t hc37 hFL7
      refine x_seq <| x_region <| p (yl_assign rfl) <| p (yl_assign rfl) <|
       x_done <| ?_
      replace hS := St.vec_nil hS 94 R_exact_Ratio.sz
      have q6 : RepL R_exact_Ratio ρ [] [] := rfl
      have e_ := Option.some.inj (show some _ = some _ from hFL7); subst e_
      have e_ := (show _ = oL7 from hLL7); subst e_
      have e_ := Option.some.inj (show some _ = some _ from hF); subst e_
      exact x_return ⟨_, ⟨_, _, rfl, rfl, _, _, rfl, rfl, rfl⟩, ρ, none, 0, 0, [], rfl, (Le.refl _), q6, ((hS.pull 1).pull 1)⟩
     ·replace hFL7 := it_bf hc37 hFL7
      replace hFL7 := ar_s hFL7; obtain ⟨x38, hx38, hFL7⟩ := hFL7
      refine x_skip <| x_blk <| x_region <| p (yadd q2i rfl hx38) <|
       p (yl_move rfl) <| x_done <| ?_
      have e_ := Option.some.inj (show some _ = some _ from hFL7); subst e_
      exact x_inv ⟨kL7, Nat.lt_succ_self _, x38, hLL7, q39, q3a, q2x, q2y, rfl, hS⟩
    ·replace hFL7 := it_f hc29 hFL7
     refine x_exitTo _ rfl <| ?_
     have e_ := Option.some.inj (show some _ = some _ from hFL7); subst e_
     exact x_inv ⟨hLL7, q39, q3a, hS⟩
   rintro E w ⟨rfl, q38, q4d, hS⟩
   refine x_seq <| x_region <| p (yl_move q38) <| p (yl_move q4d) <| ?_
   refine o_buildSlice (vs := [.slice q1j b1.length c_b1]) (cs := [.slice q1j b1.length c_b1]) sl_75 zero_87 (parts_eq (pt (va := .slice q1j b1.length c_b1) rfl pt0)) rfl (by intro v hv; simp only [List.mem_cons, List.not_mem_nil, or_false] at hv; first | (subst hv; rfl) | (rcases hv with rfl <;> rfl)) (by decide) rfl hS (fun b41 w' hS => ?_)
   have q3y : RepL (RpSl (RpI .i64)) ρ ([b1] : List (List Int)) [.slice q1j b1.length c_b1] := (RepL.cons (cs := [.slice q1j b1.length c_b1]) ⟨_, _, _, rfl, q37⟩ RepL.nil)
   replace hS := St.vec_of (n := 1) (sz := (RpSl (RpI .i64)).sz) hS rfl (by decide)
   have q_ := St.vec_fz ((hS.pull 1).pull 1) q3y; obtain ⟨q4f, q1e, q3q, hS⟩ := q_
   replace hF := bd_s hF; obtain ⟨q0f, q3z, hF⟩ := hF
   have hcall := c_exact_begin q3z (q3k.le q1e) q3q hS
   refine o_cc call_86 (args2 rfl rfl) hcall ?_
   rintro e w' ⟨q2j, q12, q3, q2z, c_b_y0_ret_0_ret_12_3, q1k, q1l, q30, c_b_y0_ret_2_ret_12_3, rfl, q2k, q14, q15, hS⟩
   refine ⟨_, rfl, ?_⟩
   have e_ := St.vec_n (hS.pull 1) q14; subst e_
   have e_ := q15.n; subst e_
   refine p (yl_assign rfl) <| x_done <| x_seq <| x_seq <|
    x_region <| p (yl_move q38) <| p (yl_len_slice usl_75 rfl) <| p (yl_move rfl) <|
    x_done <| ?_
   replace hF := bs_s hF; obtain ⟨oL14, hLL14, hF⟩ := hF
   refine x_join (fun E w => ∃ (q0n : Heap) (q5 : List Value) (q0l : Option Addr) (q0m : Nat) (c_b_y0_ret_12_3_2_L14 : Nat) (q0g : List (List T_exact_Int)) (q0r : Bool) (q0s : List Int) (q0t : Bool) (q0u : Int), (Sum.inl (q0g, q0r, q0s, q0t, q0u)) = oL14 ∧ Le q2j q0n ∧ E 0 = .slice q1i a0.length c_a0 ∧ E 9 = .pointer (some ⟨q12, 0, none⟩) ∧ RepL (RpSl R_exact_Int) q0n q0g q5 ∧ RdS (RpI .u32) q0n q0l q0m c_b_y0_ret_12_3_2_L14 q0s ∧ St w0 w (cells q12 150 [.slice q3 q0f.1.length c_b_y0_ret_0_ret_12_3, .bool q0r, .slice q0l q0m c_b_y0_ret_12_3_2_L14, .bool q0t, .int .i64 q0u] :: vec 155 (RpSl R_exact_Int).sz (.slice q3 q0f.1.length c_b_y0_ret_0_ret_12_3) q0f.1.length q5 :: ro q0n :: l)) ?_ ?_
   ·refine x_block ?_
    refine x_loop (fun k_ E w => ∃ (q1m : Heap) (q8 : List Value) (q0a : Option Addr) (q0i : Nat) (c_b_y0_ret_12_3_2_L14h : Nat) (q1q : Int) (q0b : List (List T_exact_Int)) (q0c : Bool) (q7 : List Int) (q0d : Bool) (q0e : Int), lp (P_exact_Solve_L14 a0) k_ (q1q, q0b, q0c, q7, q0d, q0e) = some oL14 ∧ Le q2j q1m ∧ E 0 = .slice q1i a0.length c_a0 ∧ E 9 = .pointer (some ⟨q12, 0, none⟩) ∧ E 44 = .int .i64 (a0.length : Int) ∧ E 45 = .int .i64 q1q ∧ RepL (RpSl R_exact_Int) q1m q0b q8 ∧ RdS (RpI .u32) q1m q0a q0i c_b_y0_ret_12_3_2_L14h q7 ∧ St w0 w (cells q12 150 [.slice q3 q0f.1.length c_b_y0_ret_0_ret_12_3, .bool q0c, .slice q0a q0i c_b_y0_ret_12_3_2_L14h, .bool q0d, .int .i64 q0e] :: vec 155 (RpSl R_exact_Int).sz (.slice q3 q0f.1.length c_b_y0_ret_0_ret_12_3) q0f.1.length q8 :: ro q1m :: l)) fuel ⟨q2j, q1k, q1l, q0f.2.2.length, c_b_y0_ret_2_ret_12_3, 0, q0f.1, q0f.2.1, q0f.2.2, false, 0, hLL14, (Le.refl _), q38, rfl, rfl, rfl, q14, q15, (((hS.pull 2).pull 2).pull 2)⟩ ?_
    rintro kL14 E w ⟨q1m, q8, q0a, q0i, c_b_y0_ret_12_3_2_L14h, q1q, q0b, q0c, q7, q0d, q0e, hLL14, q1t, q31, q2l, q2q, q2b, q10, q0j, hS⟩
    have e_ := q0j.n; subst e_
    replace hLL14 := lp_s hLL14; obtain ⟨kL14, obL14, rfl, hFL14, hLL14⟩ := hLL14
    refine x_seq <| x_region <| p (yl_lss q2b q2q) <| x_done <|
     x_seq <|
     x_cond_p (q1q < (a0.length : Int)) rfl (fun hc46 => ?_) (fun hc46 => ?_)
    ·replace hFL14 := it_t hc46 hFL14
     replace hFL14 := bd_s hFL14; obtain ⟨q1r, q40, hFL14⟩ := hFL14
     refine x_skip <| x_seq <| x_block <| x_seq <|
      x_region <| p (yl_move q2b) <| p (yl_assign rfl) <| x_done <|
      x_seq <| x_region <| p (yl_move q2l) <| p (yl_move rfl) <| ?_
     have hcall := c_exact_table_pivot q40 q10 q0j (((hS.pull 2).pull 2).pull 2)
     refine o_cc call_87 (args3 rfl rfl rfl) hcall ?_
     rintro e w' ⟨q2m, q1u, q26, q3j, c_b_t0_2_ret_16_2, rfl, q32, q27, q1b, hS⟩
     refine ⟨_, rfl, ?_⟩
     have e_ := q1b.n; subst e_
     refine p (yl_not rfl) <| x_done <|
      x_cond (t := !q1r.1) rfl (fun hc51 => ?_) (fun hc51 => ?_)
     ·replace hFL14 := it_t hc51 hFL14
      refine x_seq <| x_region <| p (yl_assign rfl) <| p (yl_assign rfl) <|
       x_done <| ?_
      replace hS := St.vec_nil hS 94 R_exact_Ratio.sz
      have q6 : RepL R_exact_Ratio q2m [] [] := rfl
      have e_ := Option.some.inj (show some _ = some _ from hFL14); subst e_
      have e_ := (show _ = oL14 from hLL14); subst e_
      have e_ := Option.some.inj (show some _ = some _ from hF); subst e_
      exact x_return ⟨_, ⟨_, _, rfl, rfl, _, _, rfl, rfl, rfl⟩, q2m, none, 0, 0, [], rfl, (((q1e.trans q2k).trans q1t).trans q32), q6, ((((hS.pull 1).drop.pull 1).drop.pull 1).pull 1)⟩
     ·replace hFL14 := it_bf hc51 hFL14
      replace hFL14 := ar_s hFL14; obtain ⟨x52, hx52, hFL14⟩ := hFL14
      refine x_skip <| x_blk <| x_region <| p (yadd q2b rfl hx52) <|
       p (yl_move rfl) <| x_done <| ?_
      have e_ := Option.some.inj (show some _ = some _ from hFL14); subst e_
      exact x_inv ⟨kL14, Nat.lt_succ_self _, q2m, q1u, q26, q1r.2.2.2.1.length, c_b_t0_2_ret_16_2, x52, q1r.2.1, q1r.2.2.1, q1r.2.2.2.1, q1r.2.2.2.2.1, q1r.2.2.2.2.2, hLL14, (q1t.trans q32), q31, q2l, q2q, rfl, q27, q1b, (((hS.pull 2).pull 2).pull 2)⟩
    ·replace hFL14 := it_f hc46 hFL14
     refine x_exitTo _ rfl <| ?_
     have e_ := Option.some.inj (show some _ = some _ from hFL14); subst e_
     exact x_inv ⟨q1m, q8, q0a, q7.length, c_b_y0_ret_12_3_2_L14h, q0b, q0c, q7, q0d, q0e, hLL14, q1t, q31, q2l, q10, q0j, (((hS.pull 2).pull 2).pull 2)⟩
   rintro E w ⟨q0n, q5, q0l, q0m, c_b_y0_ret_12_3_2_L14, q0g, q0r, q0s, q0t, q0u, rfl, q2r, q41, q42, q16, q1n, hS⟩
   have e_ := q1n.n; subst e_
   refine x_seq <| x_region <| p (yl_assign rfl) <| x_done <|
    x_seq <| x_seq <| x_region <| p (yl_move q42) <|
    p (yl_nilCheck rfl) <| p (yl_field0 fld_150_0 rfl) <| pa (at_load one_148 rfl (hS.cell rfl)) <| p (yl_len_slice usl_148 rfl) <|
    p (yl_move rfl) <| x_done <| ?_
   replace hF := bs_s hF; obtain ⟨oL21, hLL21, hF⟩ := hF
   refine x_join (fun E w => ∃ (q2d : Heap) (q19 : Option Addr) (q1a : Nat) (c_out11_L21 : Nat) (q17 : List Value) (q1f : List T_exact_Ratio), (Sum.inl q1f) = oL21 ∧ Le q0n q2d ∧ E 11 = .slice q19 q1a c_out11_L21 ∧ RepL R_exact_Ratio q2d q1f q17 ∧ St w0 w (vec 94 R_exact_Ratio.sz (.slice q19 q1a c_out11_L21) q1a q17 :: ro q2d :: l)) ?_ ?_
   ·refine x_block ?_
    replace hS := St.vec_nil hS 94 R_exact_Ratio.sz
    have q28 : RepL R_exact_Ratio q0n [] [] := rfl
    refine x_loop (fun k_ E w => ∃ (q9 : Heap) (q0z : Option Addr) (q18 : Nat) (c_out11_L21h : Nat) (q0q : List Value) (q0o : List T_exact_Ratio) (q0k : Int), lp (P_exact_Solve_L21 a0 q0f q0g) k_ (q0o, q0k) = some oL21 ∧ Le q0n q9 ∧ E 0 = .slice q1i a0.length c_a0 ∧ E 11 = .slice q0z q18 c_out11_L21h ∧ E 56 = .slice q3 q0f.1.length c_b_y0_ret_0_ret_12_3 ∧ E 57 = .int .i64 (q0f.1.length : Int) ∧ E 58 = .int .i64 q0k ∧ RepL R_exact_Ratio q9 q0o q0q ∧ St w0 w (vec 94 R_exact_Ratio.sz (.slice q0z q18 c_out11_L21h) q18 q0q :: vec 155 (RpSl R_exact_Int).sz (.slice q3 q0f.1.length c_b_y0_ret_0_ret_12_3) q0f.1.length q5 :: ro q9 :: l)) fuel ⟨q0n, none, 0, 0, [], [], 0, hLL21, (Le.refl _), q41, rfl, rfl, rfl, rfl, q28, ((((hS.pull 1).drop.pull 2).pull 2).pull 2)⟩ ?_
    rintro kL21 E w ⟨q9, q0z, q18, c_out11_L21h, q0q, q0o, q0k, hLL21, q0h, q33, q2s, q2t, q2u, q1s, q1c, hS⟩
    have e_ := St.vec_n hS q1c; subst e_
    replace hLL21 := lp_s hLL21; obtain ⟨kL21, obL21, rfl, hFL21, hLL21⟩ := hLL21
    refine x_seq <| x_region <| p (yl_lss q1s q2u) <| x_done <|
     x_seq <|
     x_cond_p (q0k < (q0f.1.length : Int)) rfl (fun hc59 => ?_) (fun hc59 => ?_)
    ·replace hFL21 := it_t hc59 hFL21
     replace hFL21 := ck_s hFL21; obtain ⟨q3b, hFL21⟩ := hFL21
     replace hFL21 := lv_s hFL21; obtain ⟨q1w, q43, hFL21⟩ := hFL21
     have q_ := q16.get q3b; obtain ⟨q4i, q3c, q44⟩ := q_
     rw [← q43] at q3c
     obtain ⟨q13, q4l, q1x, rfl, q2e⟩ := q3c
     have e_ := q2e.n; subst e_
     refine x_skip <| x_seq <| x_block <| x_seq <|
      x_region <| p (yl_move q1s) <| p (yix_o sl_148 q2t q1s (hS.pull 1) q16 q3b) <| pa (at_load one_155 rfl (EltV.ld (m := 0) q44 (hS.pull 1) rfl)) <|
      p (yl_assign rfl) <| p (yl_assign rfl) <| x_done <| x_seq <| ?_
     replace hFL21 := ck_s hFL21; obtain ⟨q3d, hFL21⟩ := hFL21
     replace hFL21 := lv_s hFL21; obtain ⟨q0v, q45, hFL21⟩ := hFL21
     replace hFL21 := ck_s hFL21; obtain ⟨q3e, hFL21⟩ := hFL21
     replace hFL21 := lv_s hFL21; obtain ⟨q0w, q46, hFL21⟩ := hFL21
     replace hFL21 := bd_s hFL21; obtain ⟨q2, q47, hFL21⟩ := hFL21
     refine x_par (w0 := w0) [⟨[], [], [64], [], [], []⟩, ⟨[], [], [65], [], [], []⟩, ⟨[1], [1], [66], [], [], []⟩, ⟨[0, 1, 2], [0, 2], [67], [0], [], []⟩, ⟨[0, 1, 2, 3], [3], [68], [0], [], []⟩, ⟨[], [], [69], [], [], []⟩, ⟨[], [], [70], [], [], []⟩, ⟨[5, 6], [5, 6], [71], [0], [], []⟩, ⟨[5, 6, 7], [7], [72], [0], [], []⟩, ⟨[0, 1, 2, 3, 4, 5, 6, 7, 8], [4, 8], [73], [0], [], [1]⟩, ⟨[0, 1, 2, 3, 4, 5, 6, 7, 8, 9], [9], [63, 73], [], [], []⟩, ⟨[0, 1, 2, 3, 4, 5, 6, 7, 8, 9, 10], [9, 10], [73, 74], [], [], []⟩, ⟨[0, 1, 2, 3, 4, 5, 6, 7, 8, 9, 10], [9, 10], [75], [], [], []⟩, ⟨[], [], [14], [], [], [2]⟩, ⟨[0, 1, 2, 3, 4, 5, 6, 7, 8, 9, 10, 11, 13], [9, 11, 13], [], [], [2], [3]⟩, ⟨[0, 1, 2, 3, 4, 5, 6, 7, 8, 9, 10, 11, 12, 13, 14], [12], [15], [], [], []⟩] [⟨none, none, []⟩, ⟨(some 9), none, [73]⟩, ⟨(some 13), (some 14), [14]⟩, ⟨(some 14), none, [14, 73]⟩] [14, 15, 63, 64, 65, 66, 67, 68, 69, 70, 71, 72, 73, 74, 75] [0] [0, 1, 3] [0, 1, 2, 3, 4, 5, 6, 7, 8, 9, 10, 11, 12, 13, 15] [fun Ep23 => Ep23 64 = .slice q13 q1w.length q1x, fun Ep23 => Ep23 65 = .slice q1i a0.length c_a0, fun Ep23 => Ep23 66 = .int .i64 (a0.length : Int), fun Ep23 => Ep23 67 = .pointer (some ((adr q13).add ((a0.length : Int).toNat * R_exact_Int.sz))), fun Ep23 => Ep23 68 = .agg #[.bool q0v.fneg, .slice (adOf (partOf 1 (Ep23 68))) q0v.fmag.length (capOf (partOf 1 (Ep23 68)))] ∧ RdS (RpI .u32) q0n (adOf (partOf 1 (Ep23 68))) q0v.fmag.length (capOf (partOf 1 (Ep23 68))) q0v.fmag, fun Ep23 => Ep23 69 = .slice q13 q1w.length q1x, fun Ep23 => Ep23 70 = .int .i64 q0k, fun Ep23 => Ep23 71 = .pointer (some ((adr q13).add (q0k.toNat * R_exact_Int.sz))), fun Ep23 => Ep23 72 = .agg #[.bool q0w.fneg, .slice (adOf (partOf 1 (Ep23 72))) q0w.fmag.length (capOf (partOf 1 (Ep23 72)))] ∧ RdS (RpI .u32) q0n (adOf (partOf 1 (Ep23 72))) q0w.fmag.length (capOf (partOf 1 (Ep23 72))) q0w.fmag, fun Ep23 => Ep23 73 = .tuple #[.agg #[.bool q2.1.Num.fneg, .slice (adOf (partOf 1 (partOf 0 (Ep23 73)))) q2.1.Num.fmag.length (capOf (partOf 1 (partOf 0 (Ep23 73)))), .bool q2.1.Den.fneg, .slice (adOf (partOf 3 (partOf 0 (Ep23 73)))) q2.1.Den.fmag.length (capOf (partOf 3 (partOf 0 (Ep23 73))))], .int .i64 q2.2], fun Ep23 => Ep23 63 = .tuple #[.agg #[.bool q2.1.Num.fneg, .slice (adOf (partOf 1 (partOf 0 (Ep23 73)))) q2.1.Num.fmag.length (capOf (partOf 1 (partOf 0 (Ep23 73)))), .bool q2.1.Den.fneg, .slice (adOf (partOf 3 (partOf 0 (Ep23 73)))) q2.1.Den.fmag.length (capOf (partOf 3 (partOf 0 (Ep23 73))))], .int .i64 q2.2], fun Ep23 => Ep23 74 = .agg #[.bool q2.1.Num.fneg, .slice (adOf (partOf 1 (partOf 0 (Ep23 73)))) q2.1.Num.fmag.length (capOf (partOf 1 (partOf 0 (Ep23 73)))), .bool q2.1.Den.fneg, .slice (adOf (partOf 3 (partOf 0 (Ep23 73)))) q2.1.Den.fmag.length (capOf (partOf 3 (partOf 0 (Ep23 73))))], fun Ep23 => Ep23 75 = .int .i64 q2.2, fun Ep23 => Ep23 14 = .pointer (some ⟨(blkOf (Ep23 14)), 0, none⟩), fun Ep23 => True, fun Ep23 => Ep23 15 = .int .i64 q2.2] [fun Ep23 => ro q9, fun Ep23 => bunA (fun (q4 : Heap) => Le q9 q4 ∧ RdS (RpI .u32) q4 (adOf (partOf 1 (partOf 0 (Ep23 73)))) q2.1.Num.fmag.length (capOf (partOf 1 (partOf 0 (Ep23 73)))) q2.1.Num.fmag ∧ RdS (RpI .u32) q4 (adOf (partOf 3 (partOf 0 (Ep23 73)))) q2.1.Den.fmag.length (capOf (partOf 3 (partOf 0 (Ep23 73)))) q2.1.Den.fmag) (fun (q4 : Heap) => [roD q9 q4]), fun Ep23 => cells (blkOf (Ep23 14)) 94 [.bool false, .slice none 0 0, .bool false, .slice none 0 0], fun Ep23 => cells (blkOf (Ep23 14)) 94 [.bool q2.1.Num.fneg, .slice (adOf (partOf 1 (partOf 0 (Ep23 73)))) q2.1.Num.fmag.length (capOf (partOf 1 (partOf 0 (Ep23 73)))), .bool q2.1.Den.fneg, .slice (adOf (partOf 3 (partOf 0 (Ep23 73)))) q2.1.Den.fmag.length (capOf (partOf 3 (partOf 0 (Ep23 73))))]] mixed (by kernel_rfl) (hS.pull 2) ?_ ?_
     ·refine ⟨?_, ?_, ?_, ?_, ?_, ?_, ?_, ?_, ?_, ?_, ?_, ?_, ?_, ?_, ?_, ?_, trivial⟩
      ·intro Ep23 w l' hE23 hO23 hF_ hS
       refine p (yl_move (hE23 13 rfl)) <| x_done <| ?_
       refine x_fin ⟨⟨_, rfl⟩, rfl, ?_⟩
       exact Eq.mp (by kernel_rfl) hS
      ·intro Ep23 w l' hE23 hO23 hF_ hS
       refine p (yl_move ((hE23 0 rfl).trans q33)) <| x_done <| ?_
       refine x_fin ⟨⟨_, rfl⟩, rfl, ?_⟩
       exact Eq.mp (by kernel_rfl) hS
      ·intro Ep23 w l' hE23 hO23 hF_ hS
       obtain ⟨q1y, -⟩ := hF_
       replace q1y : Ep23 65 = .slice q1i a0.length c_a0 := Eq.mp (by kernel_rfl) q1y
       refine p (yl_len_slice usl_75 q1y) <| x_done <| ?_
       refine x_fin ⟨⟨_, rfl⟩, rfl, ?_⟩
       exact Eq.mp (by kernel_rfl) hS
      ·intro Ep23 w l' hE23 hO23 hF_ hS
       obtain ⟨q1z, q20, -⟩ := hF_
       replace q1z : Ep23 64 = .slice q13 q1w.length q1x := Eq.mp (by kernel_rfl) q1z
       replace q20 : Ep23 66 = .int .i64 (a0.length : Int) := Eq.mp (by kernel_rfl) q20
       replace hS : St w0 w (ro q9 :: l') := Eq.mp (by kernel_rfl) hS
       refine p (yix_f sl_155 q1z q20 (q2e.le q0h) q3d) <| x_done <| ?_
       refine x_fin ⟨⟨_, rfl⟩, rfl, ?_⟩
       exact Eq.mp (by kernel_rfl) hS
      ·intro Ep23 w l' hE23 hO23 hF_ hS
       obtain ⟨q21, -⟩ := hF_
       replace q21 : Ep23 67 = .pointer (some ((adr q13).add ((a0.length : Int).toNat * R_exact_Int.sz))) := Eq.mp (by kernel_rfl) q21
       replace hS : St w0 w (ro q9 :: l') := Eq.mp (by kernel_rfl) hS
       have q_ := q2e.get q3d; obtain ⟨q4j, q3f, q48⟩ := q_
       rw [← q45] at q3f
       obtain ⟨q3r, q4g, q3s, rfl, q34⟩ := q3f
       have e_ := q34.n; subst e_
       refine pa (v := .agg #[.bool q0v.fneg, .slice q3r q0v.fmag.length q3s]) (at_loadAgg agg_79 q21 rfl (Elt.every (Elt.le q48 q0h) hS)) <| x_done <| ?_
       refine x_fin ⟨⟨_, rfl⟩, ⟨rfl, q34⟩, ?_⟩
       exact Eq.mp (by kernel_rfl) hS
      ·intro Ep23 w l' hE23 hO23 hF_ hS
       refine p (yl_move (hE23 13 rfl)) <| x_done <| ?_
       refine x_fin ⟨⟨_, rfl⟩, rfl, ?_⟩
       exact Eq.mp (by kernel_rfl) hS
      ·intro Ep23 w l' hE23 hO23 hF_ hS
       refine p (yl_move (hE23 12 rfl)) <| x_done <| ?_
       refine x_fin ⟨⟨_, rfl⟩, rfl, ?_⟩
       exact Eq.mp (by kernel_rfl) hS
      ·intro Ep23 w l' hE23 hO23 hF_ hS
       obtain ⟨q22, q23, -⟩ := hF_
       replace q22 : Ep23 69 = .slice q13 q1w.length q1x := Eq.mp (by kernel_rfl) q22
       replace q23 : Ep23 70 = .int .i64 q0k := Eq.mp (by kernel_rfl) q23
       replace hS : St w0 w (ro q9 :: l') := Eq.mp (by kernel_rfl) hS
       refine p (yix_f sl_155 q22 q23 (q2e.le q0h) q3e) <| x_done <| ?_
       refine x_fin ⟨⟨_, rfl⟩, rfl, ?_⟩
       exact Eq.mp (by kernel_rfl) hS
      ·intro Ep23 w l' hE23 hO23 hF_ hS
       obtain ⟨q24, -⟩ := hF_
       replace q24 : Ep23 71 = .pointer (some ((adr q13).add (q0k.toNat * R_exact_Int.sz))) := Eq.mp (by kernel_rfl) q24
       replace hS : St w0 w (ro q9 :: l') := Eq.mp (by kernel_rfl) hS
       have q_ := q2e.get q3e; obtain ⟨q4k, q3g, q49⟩ := q_
       rw [← q46] at q3g
       obtain ⟨q3t, q4h, q3u, rfl, q35⟩ := q3g
       have e_ := q35.n; subst e_
       refine pa (v := .agg #[.bool q0w.fneg, .slice q3t q0w.fmag.length q3u]) (at_loadAgg agg_79 q24 rfl (Elt.every (Elt.le q49 q0h) hS)) <| x_done <| ?_
       refine x_fin ⟨⟨_, rfl⟩, ⟨rfl, q35⟩, ?_⟩
       exact Eq.mp (by kernel_rfl) hS
      ·intro Ep23 w l' hE23 hO23 hF_ hS
       obtain ⟨q1g, q1h, -⟩ := hF_
       replace q1g : Ep23 68 = .agg #[.bool q0v.fneg, .slice (adOf (partOf 1 (Ep23 68))) q0v.fmag.length (capOf (partOf 1 (Ep23 68)))] ∧ RdS (RpI .u32) q0n (adOf (partOf 1 (Ep23 68))) q0v.fmag.length (capOf (partOf 1 (Ep23 68))) q0v.fmag := Eq.mp (by kernel_rfl) q1g
       have q_ := id q1g; obtain ⟨-, q3h⟩ := q_
       replace q1h : Ep23 72 = .agg #[.bool q0w.fneg, .slice (adOf (partOf 1 (Ep23 72))) q0w.fmag.length (capOf (partOf 1 (Ep23 72)))] ∧ RdS (RpI .u32) q0n (adOf (partOf 1 (Ep23 72))) q0w.fmag.length (capOf (partOf 1 (Ep23 72))) q0w.fmag := Eq.mp (by kernel_rfl) q1h
       have q_ := id q1h; obtain ⟨-, q3i⟩ := q_
       replace hS : St w0 w (ro q9 :: l') := Eq.mp (by kernel_rfl) hS
       have hcall := c_exact_reduced q47 (q3h.le q0h) (q3i.le q0h) hS
       refine o_cc call_94 (args2 q1g.1 q1h.1) hcall ?_
       rintro e w' ⟨q4, q2f, q3n, c_y0_ret_1_23_9, q2g, q3o, c_y0_ret_3_23_9, rfl, q36, q0x, q0y, hS⟩
       refine ⟨_, rfl, ?_⟩
       have e_ := q0x.n; subst e_
       have e_ := q0y.n; subst e_
       refine x_done <| ?_
       refine x_fin ⟨⟨_, rfl⟩, rfl, ?_⟩
       replace hS := St.ro_split q36 hS
       replace hS := St.bun (Φ := (fun (q4 : Heap) => Le q9 q4 ∧ RdS (RpI .u32) q4 q2f q2.1.Num.fmag.length c_y0_ret_1_23_9 q2.1.Num.fmag ∧ RdS (RpI .u32) q4 q2g q2.1.Den.fmag.length c_y0_ret_3_23_9 q2.1.Den.fmag)) (L := (fun (q4 : Heap) => [roD q9 q4])) q4 ⟨q36, q0x, q0y⟩ (hS.pull 1)
       exact Eq.mp (by kernel_rfl) (hS.pull 1)
      ·intro Ep23 w l' hE23 hO23 hF_ hS
       obtain ⟨q0p, -⟩ := hF_
       replace q0p : Ep23 73 = .tuple #[.agg #[.bool q2.1.Num.fneg, .slice (adOf (partOf 1 (partOf 0 (Ep23 73)))) q2.1.Num.fmag.length (capOf (partOf 1 (partOf 0 (Ep23 73)))), .bool q2.1.Den.fneg, .slice (adOf (partOf 3 (partOf 0 (Ep23 73)))) q2.1.Den.fmag.length (capOf (partOf 3 (partOf 0 (Ep23 73))))], .int .i64 q2.2] := Eq.mp (by kernel_rfl) q0p
       refine p (yl_move q0p) <| x_done <| ?_
       refine x_fin ⟨⟨_, rfl⟩, rfl, ?_⟩
       exact Eq.mp (by kernel_rfl) hS
      ·intro Ep23 w l' hE23 hO23 hF_ hS
       obtain ⟨q0p, q11, -⟩ := hF_
       replace q0p : Ep23 73 = .tuple #[.agg #[.bool q2.1.Num.fneg, .slice (adOf (partOf 1 (partOf 0 (Ep23 73)))) q2.1.Num.fmag.length (capOf (partOf 1 (partOf 0 (Ep23 73)))), .bool q2.1.Den.fneg, .slice (adOf (partOf 3 (partOf 0 (Ep23 73)))) q2.1.Den.fmag.length (capOf (partOf 3 (partOf 0 (Ep23 73))))], .int .i64 q2.2] := Eq.mp (by kernel_rfl) q0p
       replace q11 : Ep23 63 = .tuple #[.agg #[.bool q2.1.Num.fneg, .slice (adOf (partOf 1 (partOf 0 (Ep23 73)))) q2.1.Num.fmag.length (capOf (partOf 1 (partOf 0 (Ep23 73)))), .bool q2.1.Den.fneg, .slice (adOf (partOf 3 (partOf 0 (Ep23 73)))) q2.1.Den.fmag.length (capOf (partOf 3 (partOf 0 (Ep23 73))))], .int .i64 q2.2] := Eq.mp (by kernel_rfl) q11
       refine p (yl_extract q11 rfl) <| x_done <| ?_
       refine x_fin ⟨⟨_, rfl⟩, rfl, ?_⟩
       exact Eq.mp (by kernel_rfl) hS
      ·intro Ep23 w l' hE23 hO23 hF_ hS
       obtain ⟨q0p, q11, -⟩ := hF_
       replace q0p : Ep23 73 = .tuple #[.agg #[.bool q2.1.Num.fneg, .slice (adOf (partOf 1 (partOf 0 (Ep23 73)))) q2.1.Num.fmag.length (capOf (partOf 1 (partOf 0 (Ep23 73)))), .bool q2.1.Den.fneg, .slice (adOf (partOf 3 (partOf 0 (Ep23 73)))) q2.1.Den.fmag.length (capOf (partOf 3 (partOf 0 (Ep23 73))))], .int .i64 q2.2] := Eq.mp (by kernel_rfl) q0p
       replace q11 : Ep23 63 = .tuple #[.agg #[.bool q2.1.Num.fneg, .slice (adOf (partOf 1 (partOf 0 (Ep23 73)))) q2.1.Num.fmag.length (capOf (partOf 1 (partOf 0 (Ep23 73)))), .bool q2.1.Den.fneg, .slice (adOf (partOf 3 (partOf 0 (Ep23 73)))) q2.1.Den.fmag.length (capOf (partOf 3 (partOf 0 (Ep23 73))))], .int .i64 q2.2] := Eq.mp (by kernel_rfl) q11
       refine p (yl_extract q11 rfl) <| x_done <| ?_
       refine x_fin ⟨⟨_, rfl⟩, rfl, ?_⟩
       exact Eq.mp (by kernel_rfl) hS
      ·intro Ep23 w l' hE23 hO23 hF_ hS
       refine o_alloc zero_94 hS (fun b14 w' hS => ?_)
       refine x_done <| ?_
       refine x_fin ⟨⟨_, rfl⟩, rfl, ?_⟩
       exact Eq.mp (by kernel_rfl) hS
      ·intro Ep23 w l' hE23 hO23 hF_ hS
       obtain ⟨q0p, q1o, q1d, -⟩ := hF_
       replace q0p : Ep23 73 = .tuple #[.agg #[.bool q2.1.Num.fneg, .slice (adOf (partOf 1 (partOf 0 (Ep23 73)))) q2.1.Num.fmag.length (capOf (partOf 1 (partOf 0 (Ep23 73)))), .bool q2.1.Den.fneg, .slice (adOf (partOf 3 (partOf 0 (Ep23 73)))) q2.1.Den.fmag.length (capOf (partOf 3 (partOf 0 (Ep23 73))))], .int .i64 q2.2] := Eq.mp (by kernel_rfl) q0p
       replace q1o : Ep23 74 = .agg #[.bool q2.1.Num.fneg, .slice (adOf (partOf 1 (partOf 0 (Ep23 73)))) q2.1.Num.fmag.length (capOf (partOf 1 (partOf 0 (Ep23 73)))), .bool q2.1.Den.fneg, .slice (adOf (partOf 3 (partOf 0 (Ep23 73)))) q2.1.Den.fmag.length (capOf (partOf 3 (partOf 0 (Ep23 73))))] := Eq.mp (by kernel_rfl) q1o
       replace q1d : Ep23 14 = .pointer (some ⟨(blkOf (Ep23 14)), 0, none⟩) := Eq.mp (by kernel_rfl) q1d
       replace hS : St w0 w (cells (blkOf (Ep23 14)) 94 [.bool false, .slice none 0 0, .bool false, .slice none 0 0] :: l') := Eq.mp (by kernel_rfl) hS
       refine o_storeAgg (news := [.bool q2.1.Num.fneg, .slice (adOf (partOf 1 (partOf 0 (Ep23 73)))) q2.1.Num.fmag.length (capOf (partOf 1 (partOf 0 (Ep23 73)))), .bool q2.1.Den.fneg, .slice (adOf (partOf 3 (partOf 0 (Ep23 73)))) q2.1.Den.fmag.length (capOf (partOf 3 (partOf 0 (Ep23 73))))]) agg_94 q1d q1o rfl (by simp [over_length]) hS (fun w' hS => ?_)
       refine x_done <| ?_
       refine x_fin ⟨⟨undef, rfl⟩, trivial, ?_⟩
       exact Eq.mp (by kernel_rfl) hS
      ·intro Ep23 w l' hE23 hO23 hF_ hS
       obtain ⟨q1p, -⟩ := hF_
       replace q1p : Ep23 75 = .int .i64 q2.2 := Eq.mp (by kernel_rfl) q1p
       refine p (yl_assign q1p) <| x_done <| ?_
       refine x_fin ⟨⟨_, rfl⟩, rfl, ?_⟩
       exact Eq.mp (by kernel_rfl) hS
     intro Ep23 w' hE23 hF_ hS
     obtain ⟨q1z, q1y, q20, q21, q1g, q22, q23, q24, q1h, q0p, q11, q1o, q1p, q1d, q2h, -⟩ := hF_
     replace q1z : Ep23 64 = .slice q13 q1w.length q1x := Eq.mp (by kernel_rfl) q1z
     replace q1y : Ep23 65 = .slice q1i a0.length c_a0 := Eq.mp (by kernel_rfl) q1y
     replace q20 : Ep23 66 = .int .i64 (a0.length : Int) := Eq.mp (by kernel_rfl) q20
     replace q21 : Ep23 67 = .pointer (some ((adr q13).add ((a0.length : Int).toNat * R_exact_Int.sz))) := Eq.mp (by kernel_rfl) q21
     replace q1g : Ep23 68 = .agg #[.bool q0v.fneg, .slice (adOf (partOf 1 (Ep23 68))) q0v.fmag.length (capOf (partOf 1 (Ep23 68)))] ∧ RdS (RpI .u32) q0n (adOf (partOf 1 (Ep23 68))) q0v.fmag.length (capOf (partOf 1 (Ep23 68))) q0v.fmag := Eq.mp (by kernel_rfl) q1g
     have q_ := id q1g; obtain ⟨-, q3h⟩ := q_
     replace q22 : Ep23 69 = .slice q13 q1w.length q1x := Eq.mp (by kernel_rfl) q22
     replace q23 : Ep23 70 = .int .i64 q0k := Eq.mp (by kernel_rfl) q23
     replace q24 : Ep23 71 = .pointer (some ((adr q13).add (q0k.toNat * R_exact_Int.sz))) := Eq.mp (by kernel_rfl) q24
     replace q1h : Ep23 72 = .agg #[.bool q0w.fneg, .slice (adOf (partOf 1 (Ep23 72))) q0w.fmag.length (capOf (partOf 1 (Ep23 72)))] ∧ RdS (RpI .u32) q0n (adOf (partOf 1 (Ep23 72))) q0w.fmag.length (capOf (partOf 1 (Ep23 72))) q0w.fmag := Eq.mp (by kernel_rfl) q1h
     have q_ := id q1h; obtain ⟨-, q3i⟩ := q_
     replace q0p : Ep23 73 = .tuple #[.agg #[.bool q2.1.Num.fneg, .slice (adOf (partOf 1 (partOf 0 (Ep23 73)))) q2.1.Num.fmag.length (capOf (partOf 1 (partOf 0 (Ep23 73)))), .bool q2.1.Den.fneg, .slice (adOf (partOf 3 (partOf 0 (Ep23 73)))) q2.1.Den.fmag.length (capOf (partOf 3 (partOf 0 (Ep23 73))))], .int .i64 q2.2] := Eq.mp (by kernel_rfl) q0p
     replace q11 : Ep23 63 = .tuple #[.agg #[.bool q2.1.Num.fneg, .slice (adOf (partOf 1 (partOf 0 (Ep23 73)))) q2.1.Num.fmag.length (capOf (partOf 1 (partOf 0 (Ep23 73)))), .bool q2.1.Den.fneg, .slice (adOf (partOf 3 (partOf 0 (Ep23 73)))) q2.1.Den.fmag.length (capOf (partOf 3 (partOf 0 (Ep23 73))))], .int .i64 q2.2] := Eq.mp (by kernel_rfl) q11
     replace q1o : Ep23 74 = .agg #[.bool q2.1.Num.fneg, .slice (adOf (partOf 1 (partOf 0 (Ep23 73)))) q2.1.Num.fmag.length (capOf (partOf 1 (partOf 0 (Ep23 73)))), .bool q2.1.Den.fneg, .slice (adOf (partOf 3 (partOf 0 (Ep23 73)))) q2.1.Den.fmag.length (capOf (partOf 3 (partOf 0 (Ep23 73))))] := Eq.mp (by kernel_rfl) q1o
     replace q1p : Ep23 75 = .int .i64 q2.2 := Eq.mp (by kernel_rfl) q1p
     replace q1d : Ep23 14 = .pointer (some ⟨(blkOf (Ep23 14)), 0, none⟩) := Eq.mp (by kernel_rfl) q1d
     replace q2h : Ep23 15 = .int .i64 q2.2 := Eq.mp (by kernel_rfl) q2h
     replace hS : St w0 w' (ro q9 :: bunA (fun (q4 : Heap) => Le q9 q4 ∧ RdS (RpI .u32) q4 (adOf (partOf 1 (partOf 0 (Ep23 73)))) q2.1.Num.fmag.length (capOf (partOf 1 (partOf 0 (Ep23 73)))) q2.1.Num.fmag ∧ RdS (RpI .u32) q4 (adOf (partOf 3 (partOf 0 (Ep23 73)))) q2.1.Den.fmag.length (capOf (partOf 3 (partOf 0 (Ep23 73)))) q2.1.Den.fmag) (fun (q4 : Heap) => [roD q9 q4]) :: cells (blkOf (Ep23 14)) 94 [.bool q2.1.Num.fneg, .slice (adOf (partOf 1 (partOf 0 (Ep23 73)))) q2.1.Num.fmag.length (capOf (partOf 1 (partOf 0 (Ep23 73)))), .bool q2.1.Den.fneg, .slice (adOf (partOf 3 (partOf 0 (Ep23 73)))) q2.1.Den.fmag.length (capOf (partOf 3 (partOf 0 (Ep23 73))))] :: (vec 94 R_exact_Ratio.sz (.slice q0z q0o.length c_out11_L21h) q0o.length q0q :: vec 155 (RpSl R_exact_Int).sz (.slice q3 q0f.1.length c_b_y0_ret_0_ret_12_3) q0f.1.length q5 :: l)) := Eq.mp (by kernel_rfl) hS
     have q_ := St.unbun (hS.pull 1); obtain ⟨q4, ⟨q2w, q0x, q0y⟩, hS⟩ := q_
     have q_ := St.ro_join (hS.pull 1) (Le.refl _) q2w; obtain ⟨q25, q2c, q2v, hS, q4e⟩ := q_
     refine x_seq <| x_seq <| x_region <| p (yl_move q2h) <|
      p (yl_neq rfl rfl) <| x_done <|
      x_cond_p (q2.2 ≠ 0) rfl (fun hc77 => ?_) (fun hc77 => ?_)
     ·replace hFL21 := it_t hc77 hFL21
      refine x_seq <| x_region <| p (yl_move q2h) <| p (yl_assign rfl) <|
       p (yl_assign rfl) <| x_done <| ?_
      replace hS := St.vec_nil hS 94 R_exact_Ratio.sz
      have q6 : RepL R_exact_Ratio q25 [] [] := rfl
      have e_ := Option.some.inj (show some _ = some _ from hFL21); subst e_
      have e_ := (show _ = oL21 from hLL21); subst e_
      have e_ := Option.some.inj (show some _ = some _ from hF); subst e_
      exact x_return ⟨_, ⟨_, _, rfl, rfl, _, _, rfl, rfl, rfl⟩, q25, none, 0, 0, [], rfl, ((((q1e.trans q2k).trans q2r).trans q0h).trans q2c), q6, (((((hS.pull 2).drop.pull 2).drop.pull 2).drop.pull 1).pull 1)⟩
     ·replace hFL21 := it_f hc77 hFL21
      refine x_skip <| x_region <| p (yl_move ((hE23 11 rfl).trans q2s)) <| pa (v := .agg #[.bool q2.1.Num.fneg, .slice (adOf (partOf 1 (partOf 0 (Ep23 73)))) q2.1.Num.fmag.length (capOf (partOf 1 (partOf 0 (Ep23 73)))), .bool q2.1.Den.fneg, .slice (adOf (partOf 3 (partOf 0 (Ep23 73)))) q2.1.Den.fmag.length (capOf (partOf 3 (partOf 0 (Ep23 73))))]) (ld_sub agg_94 q1d rfl rfl (hS.pull 1)) <| ?_
      refine o_buildSlice (vs := [.agg #[.bool q2.1.Num.fneg, .slice (adOf (partOf 1 (partOf 0 (Ep23 73)))) q2.1.Num.fmag.length (capOf (partOf 1 (partOf 0 (Ep23 73)))), .bool q2.1.Den.fneg, .slice (adOf (partOf 3 (partOf 0 (Ep23 73)))) q2.1.Den.fmag.length (capOf (partOf 3 (partOf 0 (Ep23 73))))]]) (cs := [.bool q2.1.Num.fneg, .slice (adOf (partOf 1 (partOf 0 (Ep23 73)))) q2.1.Num.fmag.length (capOf (partOf 1 (partOf 0 (Ep23 73)))), .bool q2.1.Den.fneg, .slice (adOf (partOf 3 (partOf 0 (Ep23 73)))) q2.1.Den.fmag.length (capOf (partOf 3 (partOf 0 (Ep23 73))))]) sl_90 zero_94 (parts_eq (pt (va := .agg #[.bool q2.1.Num.fneg, .slice (adOf (partOf 1 (partOf 0 (Ep23 73)))) q2.1.Num.fmag.length (capOf (partOf 1 (partOf 0 (Ep23 73)))), .bool q2.1.Den.fneg, .slice (adOf (partOf 3 (partOf 0 (Ep23 73)))) q2.1.Den.fmag.length (capOf (partOf 3 (partOf 0 (Ep23 73))))]) rfl pt0)) rfl (by intro v hv; simp only [List.mem_cons, List.not_mem_nil, or_false] at hv; first | (subst hv; rfl) | (rcases hv with rfl <;> rfl)) (by decide) rfl hS (fun b81 w' hS => ?_)
      replace hFL21 := lv_s hFL21; obtain ⟨q3p, q4a, hFL21⟩ := hFL21
      replace hFL21 := ck_s hFL21; obtain ⟨q4b, hFL21⟩ := hFL21
      refine o_ap sl_90 zero_94 rfl (by decide) rfl rfl (hS.pull 3) (q1c.le q2c) (src_blk usl_90 hS rfl rfl) (RepL.cons (R := R_exact_Ratio) (ρ := q25) (x := q2.1) (cs := [.bool q2.1.Num.fneg, .slice (adOf (partOf 1 (partOf 0 (Ep23 73)))) q2.1.Num.fmag.length (capOf (partOf 1 (partOf 0 (Ep23 73)))), .bool q2.1.Den.fneg, .slice (adOf (partOf 3 (partOf 0 (Ep23 73)))) q2.1.Den.fmag.length (capOf (partOf 3 (partOf 0 (Ep23 73))))]) ⟨_, _, _, _, _, _, rfl, (q0x.le q2v), (q0y.le q2v)⟩ RepL.nil) q4a q4b (fun A82 c82 cs82 w' hr82 hS => ?_)
      replace hFL21 := ar_s hFL21; obtain ⟨x83, hx83, hFL21⟩ := hFL21
      refine p (yl_assign rfl) <| x_done <| x_blk <| x_region <|
       p (yadd ((hE23 58 rfl).trans q1s) rfl hx83) <| p (yl_move rfl) <| x_done <| ?_
      have e_ := Option.some.inj (show some _ = some _ from hFL21); subst e_
      exact x_inv ⟨kL21, Nat.lt_succ_self _, q25, A82, q3p.length, c82, cs82, q3p, x83, hLL21, (q0h.trans q2c), ((hE23 0 rfl).trans q33), rfl, ((hE23 56 rfl).trans q2t), ((hE23 57 rfl).trans q2u), rfl, hr82, (((((hS.pull 1).drop.pull 2).drop.pull 1).pull 2).pull 2)⟩
    ·replace hFL21 := it_f hc59 hFL21
     refine x_exitTo _ rfl <| ?_
     have e_ := Option.some.inj (show some _ = some _ from hFL21); subst e_
     exact x_inv ⟨q9, q0z, q0o.length, c_out11_L21h, q0q, q0o, hLL21, q0h, q2s, q1c, (((hS.pull 1).drop.pull 1).pull 1)⟩
   rintro E w ⟨q2d, q19, q1a, c_out11_L21, q17, q1f, rfl, q3l, q3v, q29, hS⟩
   have e_ := St.vec_n hS q29; subst e_
   refine x_seq <| x_region <| p (yl_move q3v) <| p (yl_assign rfl) <|
    p (yl_assign rfl) <| x_done <| ?_
   have e_ := Option.some.inj (show some _ = some _ from hF); subst e_
   exact x_return ⟨_, ⟨_, _, rfl, rfl, _, _, rfl, rfl, rfl⟩, q2d, q19, q1f.length, c_out11_L21, q17, rfl, (((q1e.trans q2k).trans q2r).trans q3l), q29, ((hS.pull 1).pull 1)⟩
attribute [irreducible] P_exact_Solve

def P_maskkeep4_exacts : Option Bool :=
 bd (P_exact_Solve ([([2] : List Int)] : List (List Int)) ([6] : List Int)) fun q2 =>
 lv ((decide (q2.2 = 0)) && (decide ((q2.1.length : Int) = 1))) fun x16 =>
 ck (x16 = true → inb 0 q2.1.length) <|
 lv (gt q2.1 (0 : Int)) fun q4 =>
 bd (gd (x16) (P_exact_Text q4.Num)) fun q5 =>
 lv (x16 && (decide (q5 = (⟨#[51]⟩ : ByteArray)))) fun x24 =>
 bd (
  if x24 = true then
   bd (P_exact_Of (-12)) fun q6 =>
   bd (P_exact_Text q6) fun q7 =>
   some (decide (q7 = (⟨#[45, 49, 50]⟩ : ByteArray)))
  else
   some false) fun q3 =>
 some q3
set_option maxHeartbeats 4000000 in
set_option maxRecDepth 100000 in
theorem c_maskkeep4_exacts {w0 w : World} {l : List Assn} {ρ : Heap} {r : Bool} (hF : P_maskkeep4_exacts = some r) (hS : St w0 w (ro ρ :: l)) :
  Calls Try.prog 40 #[] w fun e w' => e = .returned (.bool r) ∧ St w0 w' (ro ρ :: l) := by
 refine enterC Try.func40 rfl 30 rfl (by simp) ?_
 refine x_seq <| x_region <| p (yl_assign rfl) <| x_done <|
  x_seq <| x_region <| ?_
 refine o_buildSlice (vs := [.int .i64 2]) (cs := [.int .i64 2]) sl_87 zero_2 (parts_eq (pt (va := .int .i64 2) rfl pt0)) rfl (by intro v hv; simp only [List.mem_cons, List.not_mem_nil, or_false] at hv; first | (subst hv; rfl) | (rcases hv with rfl <;> rfl)) (by decide) rfl hS (fun b4 w' hS => ?_)
 have q14 : RepL (RpI .i64) ρ ([2] : List Int) [.int .i64 2] := (RepL.cons (cs := [.int .i64 2]) rfl RepL.nil)
 replace hS := St.vec_of (n := 1) (sz := (RpI .i64).sz) hS rfl (by decide)
 have q_ := St.vec_fz ((hS.pull 1).pull 1) q14; obtain ⟨q0p, q0f, q0q, hS⟩ := q_
 refine o_buildSlice (vs := [.slice (some ⟨b4, 0, none⟩) 1 1]) (cs := [.slice (some ⟨b4, 0, none⟩) 1 1]) sl_75 zero_87 (parts_eq (pt (va := .slice (some ⟨b4, 0, none⟩) 1 1) rfl pt0)) rfl (by intro v hv; simp only [List.mem_cons, List.not_mem_nil, or_false] at hv; first | (subst hv; rfl) | (rcases hv with rfl <;> rfl)) (by decide) rfl hS (fun b5 w' hS => ?_)
 refine o_buildSlice (vs := [.int .i64 6]) (cs := [.int .i64 6]) sl_87 zero_2 (parts_eq (pt (va := .int .i64 6) rfl pt0)) rfl (by intro v hv; simp only [List.mem_cons, List.not_mem_nil, or_false] at hv; first | (subst hv; rfl) | (rcases hv with rfl <;> rfl)) (by decide) rfl hS (fun b6 w' hS => ?_)
 have q15 : RepL (RpSl (RpI .i64)) q0p ([([2] : List Int)] : List (List Int)) [.slice (some ⟨b4, 0, none⟩) 1 1] := (RepL.cons (cs := [.slice (some ⟨b4, 0, none⟩) 1 1]) ⟨_, _, _, rfl, q0q⟩ RepL.nil)
 replace hS := St.vec_of (n := 1) (sz := (RpSl (RpI .i64)).sz) (hS.pull 1) rfl (by decide)
 have q_ := St.vec_fz ((hS.pull 2).pull 1) q15; obtain ⟨q0r, q0g, q0s, hS⟩ := q_
 have q0t : RepL (RpI .i64) q0r ([6] : List Int) [.int .i64 6] := (RepL.cons (cs := [.int .i64 6]) rfl RepL.nil)
 replace hS := St.vec_of (n := 1) (sz := (RpI .i64).sz) (hS.pull 1) rfl (by decide)
 have q_ := St.vec_fz ((hS.pull 1).pull 1) q0t; obtain ⟨q1d, q0a, q0u, hS⟩ := q_
 replace hF := bd_s hF; obtain ⟨q7, q16, hF⟩ := hF
 have hcall := c_exact_Solve q16 (q0s.le q0a) q0u hS
 refine o_cc call_45 (args2 rfl rfl) hcall ?_
 rintro e w' ⟨q0v, q4, q0w, c_y0_ret_1_3, q0o, rfl, q0x, q5, hS⟩
 refine ⟨_, rfl, ?_⟩
 have e_ := St.vec_n hS q5; subst e_
 replace hF := lv_s hF; obtain ⟨x16, hx16, hF⟩ := hF
 replace hF := ck_s hF; obtain ⟨q0i, hF⟩ := hF
 replace hF := lv_s hF; obtain ⟨q9, q0y, hF⟩ := hF
 have q_ := RepL.getD R_exact_Ratio_d q5 (0 : Int); obtain ⟨q1e, q0e, q0z⟩ := q_
 rw [← q0y] at q0e
 obtain ⟨q0b, q18, q0c, q19, q1a, q1b, rfl, q0d, q0m⟩ := q0e
 have e_ := q0d.n; subst e_
 have e_ := q0m.n; subst e_
 replace hF := bd_s hF; obtain ⟨q0j, q10, hF⟩ := hF
 refine p (yl_move rfl) <| p (yl_extract rfl rfl) <| p (yl_extract rfl rfl) <| p (yl_assign rfl) <|
  p (yl_assign rfl) <| x_done <| x_seq <| x_region <|
  p (yl_move rfl) <| p (yl_eql rfl rfl) <| p (yl_move rfl) <| pg (v := .slice q4 q7.1.length c_y0_ret_1_3) 12 (c := decide (q7.2 = 0)) (says_t _) (fun hq => Yl.at (yl_move rfl)) <|
  pg (v := .int .i64 (q7.1.length : Int)) 12 (c := decide (q7.2 = 0)) (says_t _) (fun hq => Yl.at (yl_len_slice usl_90 (cv hq))) <| pg (v := .bool (decide ((q7.1.length : Int) = 1))) 12 (c := decide (q7.2 = 0)) (says_t _) (fun hq => Yl.at (yl_eql (cv hq) rfl)) <| p (yand' rfl (fun hc => (cv hc)) rfl hx16) <| p (yl_move rfl) <|
  pg (v := .slice q4 q7.1.length c_y0_ret_1_3) 17 (c := x16) (says_t _) (fun hq => Yl.at (yl_move rfl)) <| pg (v := .pointer (some ((adr q4).add ((0 : Int).toNat * R_exact_Ratio.sz)))) 17 (c := x16) (says_t _) (fun hq => Yl.at (yix_o sl_90 (cv hq) rfl hS q5 (q0i hq))) <| pg (v := .pointer (some (((adr q4).add ((0 : Int).toNat * R_exact_Ratio.sz)).add 0))) 17 (c := x16) (says_t _) (fun hq => Yl.at (yl_fieldAddr fld_94_0 (cv hq))) <| pg (v := .agg #[.bool q9.Num.fneg, .slice q0b q9.Num.fmag.length q0c]) 17 (c := x16) (says_t _) (fun hq => at_loadAgg (cs := [.bool q9.Num.fneg, .slice q0b q9.Num.fmag.length q0c]) agg_79 (cv hq) rfl (sub_every (m := 2) (EltV.every (q0z (q0i hq)) hS) rfl)) <|
  pccg (v := .string q0j) 17 (c := x16) (says_t _) call_54 (fun hq => (args1 (cv hq))) hS (fun hq => by
   have hcall := c_exact_Text (gd_t q10 hq) q0d (hS.pull 1)
   exact (Calls.mono hcall (fun e w'' h => And.intro h.1 (h.2.pull 1)))) (fun w' hS => ?_)
 replace hF := lv_s hF; obtain ⟨x24, hx24, hF⟩ := hF
 refine pg (v := .bool (decide (q0j = (⟨#[51]⟩ : ByteArray)))) 17 (c := x16) (says_t _) (fun hq => Yl.at (yl_eql_string (cv hq) rfl)) <| p (yand' rfl (fun hc => (cv hc)) rfl hx24) <| p (yl_move rfl) <| ?_
 replace hF := bd_s hF; obtain ⟨q11, q2, hF⟩ := hF
 refine x_join_ops (fun E w => ∃ (q8 : Bool), q8 = q11 ∧ E 0 = .bool q8 ∧ St w0 w (ro q0v :: l)) ?_ ?_
 ·refine x_split x24 (fun q3 => ?_) (fun q3 => ?_)
  ·replace q2 := it_t q3 q2
   replace q2 := bd_s q2; obtain ⟨q1g, q12, q2⟩ := q2
   refine o_strip 25 true (says_lit (c := true) (Eq.trans (show _ = Value.bool x24 from rfl) (congrArg Value.bool q3)) rfl) <| ?_
   have hcall := c_exact_Of q12  (hS.pull 1)
   refine o_cc call_51 (args1 rfl) hcall ?_
   rintro e w' ⟨q1c, q0k, q0l, c_y0_ret_1_2_16, rfl, q0n, q6, hS⟩
   refine ⟨_, rfl, ?_⟩
   have e_ := q6.n; subst e_
   replace q2 := bd_s q2; obtain ⟨q17, q13, q2⟩ := q2
   refine o_strip 25 true (says_lit (c := true) (Eq.trans (show _ = Value.bool x24 from rfl) (congrArg Value.bool q3)) rfl) <| ?_
   have hcall := c_exact_Text q13 q6 hS
   refine o_cc call_54 (args1 rfl) (hcall) ?_
   rintro e w' ⟨rfl, hS⟩
   refine ⟨_, rfl, ?_⟩
   refine o_strip 25 true (says_lit (c := true) (Eq.trans (show _ = Value.bool x24 from rfl) (congrArg Value.bool q3)) rfl) <| p (yl_eql_string rfl rfl) <| p (yl_pick (b := true) (Eq.trans (show _ = Value.bool x24 from rfl) (congrArg Value.bool q3)) (fun h => rfl) (fun h => nomatch h)) <| p (yl_assign rfl) <|
    x_done <| ?_
   exact x_inv ⟨decide (q17 = (⟨#[45, 49, 50]⟩ : ByteArray)), (Option.some.inj (show some _ = some _ from q2)), rfl, (ro_back0 q0n ((hS.pull 1).drop))⟩
  ·replace q2 := it_bf q3 q2
   refine o_pass 26 25 true (says_lit (c := false) (Eq.trans (show _ = Value.bool x24 from rfl) (congrArg Value.bool q3)) rfl) <| o_pass 27 25 true (says_lit (c := false) (Eq.trans (show _ = Value.bool x24 from rfl) (congrArg Value.bool q3)) rfl) <| o_pass 28 25 true (says_lit (c := false) (Eq.trans (show _ = Value.bool x24 from rfl) (congrArg Value.bool q3)) rfl) <| p (yl_pick (b := false) (Eq.trans (show _ = Value.bool x24 from rfl) (congrArg Value.bool q3)) (fun h => nomatch h) (fun h => rfl)) <|
    p (yl_assign rfl) <| x_done <| ?_
   exact x_inv ⟨false, (Option.some.inj (show some _ = some _ from q2)), rfl, hS.drop⟩
 rintro E w ⟨q8, rfl, q0h, hS⟩
 have e_ := Option.some.inj (show some _ = some _ from hF); subst e_
 exact x_return ⟨_, ⟨_, _, rfl, q0h, rfl⟩, rfl, (ro_back0 (((q0f.trans q0g).trans q0a).trans q0x) hS)⟩
attribute [irreducible] P_maskkeep4_exacts

def P_exact_Cmp (a0 : T_exact_Int) (b1 : T_exact_Int) : Option Int :=
 bd (P_exact_Sign a0) fun q2 =>
 bd (P_exact_Sign b1) fun q3 =>
 if q2 ≠ q3 then
  bd (P_exact_Sign a0) fun q4 =>
  bd (P_exact_Sign b1) fun q5 =>
  ar (q4 - q5) fun x15 =>
  bd (P_exact_sign x15) fun q6 =>
  some q6
 else
  if a0.fneg = true then
   bd (P_exact_cmpMag b1.fmag a0.fmag) fun q7 =>
   some q7
  else
   bd (P_exact_cmpMag a0.fmag b1.fmag) fun q8 =>
   some q8
set_option maxHeartbeats 4000000 in
set_option maxRecDepth 100000 in
theorem c_exact_Cmp {w0 w : World} {l : List Assn} {ρ : Heap} {q2 : Option Addr} {q6 : Nat} {c_a0_1 : Nat} {q3 : Option Addr} {q7 : Nat} {c_b1_1 : Nat} {a0 : T_exact_Int} {b1 : T_exact_Int} {r : Int} (hF : P_exact_Cmp a0 b1 = some r) (q4 : RdS (RpI .u32) ρ q2 q6 c_a0_1 a0.fmag) (q5 : RdS (RpI .u32) ρ q3 q7 c_b1_1 b1.fmag) (hS : St w0 w (ro ρ :: l)) :
  Calls Try.prog 41 #[.agg #[.bool a0.fneg, .slice q2 q6 c_a0_1], .agg #[.bool b1.fneg, .slice q3 q7 c_b1_1]] w fun e w' => e = .returned (.int .i64 r) ∧ St w0 w' (ro ρ :: l) := by
 have e_ := q4.n; subst e_
 have e_ := q5.n; subst e_
 refine enterC Try.func41 rfl 30 rfl (by simp) ?_
 refine x_seq <| x_region <| ?_
 refine o_box (cs := [.bool a0.fneg, .slice q2 a0.fmag.length c_a0_1]) rfl rfl hS (fun b2 w' hS => ?_)
 refine o_box (cs := [.bool b1.fneg, .slice q3 b1.fmag.length c_b1_1]) rfl rfl hS (fun b3 w' hS => ?_)
 replace hF := bd_s hF; obtain ⟨q8, q0b, hF⟩ := hF
 replace hF := bd_s hF; obtain ⟨q9, q0c, hF⟩ := hF
 refine p (yl_assign rfl) <| x_done <| x_seq <| x_block <|
  x_seq <| x_still mixed (by kernel_rfl) hS <| qa (v := .agg #[.bool a0.fneg, .slice q2 a0.fmag.length c_a0_1]) (fun w' hS => ld_sub agg_79 rfl rfl rfl (hS.pull 1)) <| qcc (v := .int .i64 q8) call_44 (args1 rfl) (fun w' hS => by
   have hcall := c_exact_Sign q0b q4 (hS.pull 2)
   exact (Calls.mono hcall (fun e w'' h => And.intro h.1 ((h.2.pull 2).pull 2)))) <|
  qa (v := .agg #[.bool b1.fneg, .slice q3 b1.fmag.length c_b1_1]) (fun w' hS => ld_sub agg_79 rfl rfl rfl hS) <| qcc (v := .int .i64 q9) call_44 (args1 rfl) (fun w' hS => by
   have hcall := c_exact_Sign q0c q5 (hS.pull 2)
   exact (Calls.mono hcall (fun e w'' h => And.intro h.1 ((h.2.pull 2).pull 2)))) <| q (yl_neq rfl rfl) <| q (yl_assign rfl) <|
  q_done fun w' hS => ?_
 refine x_cond_p (q8 ≠ q9) rfl (fun hc5 => ?_) (fun hc5 => ?_)
 ·replace hF := it_t hc5 hF
  replace hF := bd_s hF; obtain ⟨q0i, q0d, hF⟩ := hF
  replace hF := bd_s hF; obtain ⟨q0j, q0e, hF⟩ := hF
  replace hF := ar_s hF; obtain ⟨x15, hx15, hF⟩ := hF
  replace hF := bd_s hF; obtain ⟨q0a, q0f, hF⟩ := hF
  refine x_seq <| x_still mixed (by kernel_rfl) hS <| qa (v := .agg #[.bool a0.fneg, .slice q2 a0.fmag.length c_a0_1]) (fun w' hS => ld_sub agg_79 rfl rfl rfl (hS.pull 1)) <| qcc (v := .int .i64 q0i) call_44 (args1 rfl) (fun w' hS => by
    have hcall := c_exact_Sign q0d q4 (hS.pull 2)
    exact (Calls.mono hcall (fun e w'' h => And.intro h.1 ((h.2.pull 2).pull 2)))) <|
   qa (v := .agg #[.bool b1.fneg, .slice q3 b1.fmag.length c_b1_1]) (fun w' hS => ld_sub agg_79 rfl rfl rfl hS) <| qcc (v := .int .i64 q0j) call_44 (args1 rfl) (fun w' hS => by
    have hcall := c_exact_Sign q0e q5 (hS.pull 2)
    exact (Calls.mono hcall (fun e w'' h => And.intro h.1 ((h.2.pull 2).pull 2)))) <| q (ysub rfl rfl hx15) <| qcc (v := .int .i64 q0a) call_90 (args1 rfl) (fun w' hS => by
    have hcall := c_exact_sign q0f  (hS.pull 2)
    exact (Calls.mono hcall (fun e w'' h => And.intro h.1 ((h.2.pull 2).pull 2)))) <|
   q (v := .int .i64 q0a) (yl_assign rfl) <|
   q_done fun w' hS => ?_
  have e_ := Option.some.inj (show some _ = some _ from hF); subst e_
  exact x_return ⟨_, ⟨_, _, rfl, rfl, rfl⟩, rfl, hS.drop.drop⟩
 ·replace hF := it_f hc5 hF
  refine x_seq <| x_region <| p (yl_field0 fld_79_0 rfl) <| pa (at_load one_4 rfl ((hS.pull 1).cell rfl)) <|
   p (yl_assign rfl) <| x_done <|
   x_cond (t := a0.fneg) rfl (fun hc17 => ?_) (fun hc17 => ?_)
  ·replace hF := it_t hc17 hF
   replace hF := bd_s hF; obtain ⟨q0k, q0g, hF⟩ := hF
   refine x_seq <| x_region <| p (yl_field0 fld_79_1 rfl) <| pa (at_load one_77 rfl (hS.cell rfl)) <|
    p (yl_field0 fld_79_1 rfl) <| pa (at_load one_77 rfl ((hS.pull 1).cell rfl)) <| ?_
   have hcall := c_exact_cmpMag q0g q5 q4 (hS.pull 2)
   refine o_cc call_91 (args2 rfl rfl) ((Calls.mono hcall (fun e w'' h => And.intro h.1 ((h.2.pull 2).pull 2)))) ?_
   rintro e w' ⟨rfl, hS⟩
   refine ⟨_, rfl, ?_⟩
   refine p (v := .int .i64 q0k) (yl_assign rfl) <| x_done <| ?_
   have e_ := Option.some.inj (show some _ = some _ from hF); subst e_
   exact x_return ⟨_, ⟨_, _, rfl, rfl, rfl⟩, rfl, hS.drop.drop⟩
  ·replace hF := it_bf hc17 hF
   replace hF := bd_s hF; obtain ⟨q0l, q0h, hF⟩ := hF
   refine x_skip <| x_blk <| x_seq <| x_region <|
    p (yl_field0 fld_79_1 rfl) <| pa (at_load one_77 rfl ((hS.pull 1).cell rfl)) <| p (yl_field0 fld_79_1 rfl) <| pa (at_load one_77 rfl (hS.cell rfl)) <| ?_
   have hcall := c_exact_cmpMag q0h q4 q5 (hS.pull 2)
   refine o_cc call_91 (args2 rfl rfl) ((Calls.mono hcall (fun e w'' h => And.intro h.1 ((h.2.pull 2).pull 2)))) ?_
   rintro e w' ⟨rfl, hS⟩
   refine ⟨_, rfl, ?_⟩
   refine p (v := .int .i64 q0l) (yl_assign rfl) <| x_done <| ?_
   have e_ := Option.some.inj (show some _ = some _ from hF); subst e_
   exact x_return ⟨_, ⟨_, _, rfl, rfl, rfl⟩, rfl, hS.drop.drop⟩
attribute [irreducible] P_exact_Cmp

def P_exact_DivMod (a0 : T_exact_Int) (b1 : T_exact_Int) : Option (T_exact_Int × T_exact_Int × Int) :=
 bd (P_exact_Sign b1) fun q3 =>
 if q3 = 0 then
  some ((T_exact_Int.mk false []), (T_exact_Int.mk false []), (1 : Int))
 else
  bd (P_exact_split a0 b1) fun q2 =>
  some (q2.1, q2.2, (0 : Int))
set_option maxHeartbeats 4000000 in
set_option maxRecDepth 100000 in
theorem c_exact_DivMod {w0 w : World} {l : List Assn} {ρ : Heap} {q8 : Option Addr} {q0g : Nat} {c_a0_1 : Nat} {q5 : Option Addr} {q0h : Nat} {c_b1_1 : Nat} {a0 : T_exact_Int} {b1 : T_exact_Int} {r : (T_exact_Int × T_exact_Int × Int)} (hF : P_exact_DivMod a0 b1 = some r) (q0i : RdS (RpI .u32) ρ q8 q0g c_a0_1 a0.fmag) (q0f : RdS (RpI .u32) ρ q5 q0h c_b1_1 b1.fmag) (hS : St w0 w (ro ρ :: l)) :
  Calls Try.prog 55 #[.agg #[.bool a0.fneg, .slice q8 q0g c_a0_1], .agg #[.bool b1.fneg, .slice q5 q0h c_b1_1]] w fun e w' => ∃ (ρ' : Heap) (q9 : Option Addr) (q0a : Nat) (c_y0_ret_1 : Nat) (q0b : Option Addr) (q0c : Nat) (c_y1_ret_1 : Nat), e = .returned (.tuple #[.agg #[.bool r.1.fneg, .slice q9 q0a c_y0_ret_1], .agg #[.bool r.2.1.fneg, .slice q0b q0c c_y1_ret_1], .int .i64 r.2.2]) ∧ Le ρ ρ' ∧ RdS (RpI .u32) ρ' q9 q0a c_y0_ret_1 r.1.fmag ∧ RdS (RpI .u32) ρ' q0b q0c c_y1_ret_1 r.2.1.fmag ∧ St w0 w' (ro ρ' :: l) := by
 have e_ := q0i.n; subst e_
 have e_ := q0f.n; subst e_
 refine enterC Try.func55 rfl 22 rfl (by simp) ?_
 refine x_seq <| x_region <| ?_
 refine o_box (cs := [.bool a0.fneg, .slice q8 a0.fmag.length c_a0_1]) rfl rfl hS (fun b2 w' hS => ?_)
 refine o_box (cs := [.bool b1.fneg, .slice q5 b1.fmag.length c_b1_1]) rfl rfl hS (fun b3 w' hS => ?_)
 refine o_alloc zero_79 hS (fun b4 w' hS => ?_)
 refine o_alloc zero_79 hS (fun b5 w' hS => ?_)
 replace hF := bd_s hF; obtain ⟨q0q, q0o, hF⟩ := hF
 refine p (yl_assign rfl) <| x_done <| x_seq <| x_seq <|
  x_region <| pa (v := .agg #[.bool b1.fneg, .slice q5 b1.fmag.length c_b1_1]) (ld_sub agg_79 rfl rfl rfl (hS.pull 2)) <| ?_
 have hcall := c_exact_Sign q0o q0f (hS.pull 4)
 refine o_cc call_44 (args1 rfl) ((Calls.mono hcall (fun e w'' h => And.intro h.1 ((((h.2.pull 4).pull 4).pull 4).pull 4)))) ?_
 rintro e w' ⟨rfl, hS⟩
 refine ⟨_, rfl, ?_⟩
 refine p (yl_eql rfl rfl) <| x_done <|
  x_cond_p (q0q = 0) rfl (fun hc11 => ?_) (fun hc11 => ?_)
 ·replace hF := it_t hc11 hF
  refine x_seq <| x_region <| p (v := .agg #[.bool false, .slice none 0 0]) (yl_build bld_79 bldf_79 (parts_eq pt0) (by kernel_rfl)) <| p (v := .agg #[.bool false, .slice none 0 0]) (yl_build bld_79 bldf_79 (parts_eq pt0) (by kernel_rfl)) <| ?_
  refine o_storeAgg (news := [.bool false, .slice none 0 0]) agg_79 rfl rfl rfl (by simp [over_length]) (hS.pull 1) (fun w' hS => ?_)
  refine o_storeAgg (news := [.bool false, .slice none 0 0]) agg_79 rfl rfl rfl (by simp [over_length]) (hS.pull 1) (fun w' hS => ?_)
  refine p (yl_assign rfl) <| x_done <| ?_
  have e_ := Option.some.inj (show some _ = some _ from hF); subst e_
  exact x_return ⟨_, ⟨_, _, _, rfl, rfl, ldvA agg_79 rfl (fun j v hj => by rw [add0]; exact St.cell (hS.pull 1) hj), _, _, _, rfl, rfl, ldvA agg_79 rfl (fun j v hj => by rw [add0]; exact St.cell hS hj), _, _, rfl, rfl, rfl⟩, ρ, none, 0, 0, none, 0, 0, rfl, (Le.refl _), (RdS.nil (A := none) (c := 0)), (RdS.nil (A := none) (c := 0)), hS.drop.drop.drop.drop⟩
 ·replace hF := it_f hc11 hF
  replace hF := bd_s hF; obtain ⟨q2, q0p, hF⟩ := hF
  refine x_skip <| x_seq <| x_region <| pa (v := .agg #[.bool a0.fneg, .slice q8 a0.fmag.length c_a0_1]) (ld_sub agg_79 rfl rfl rfl (hS.pull 3)) <|
   pa (v := .agg #[.bool b1.fneg, .slice q5 b1.fmag.length c_b1_1]) (ld_sub agg_79 rfl rfl rfl (hS.pull 2)) <| ?_
  have hcall := c_exact_split q0p q0i q0f (hS.pull 4)
  refine o_cc call_103 (args2 rfl rfl) hcall ?_
  rintro e w' ⟨q0j, q3, q0l, c_y0_ret_1_3_2, q4, q0m, c_y1_ret_1_3_2, rfl, q0n, q6, q7, hS⟩
  refine ⟨_, rfl, ?_⟩
  have e_ := q6.n; subst e_
  have e_ := q7.n; subst e_
  refine p (yl_move rfl) <| p (yl_extract rfl rfl) <| p (yl_extract rfl rfl) <| ?_
  refine o_alloc zero_79 hS (fun b7 w' hS => ?_)
  refine o_alloc zero_79 hS (fun b8 w' hS => ?_)
  refine o_storeAgg (news := [.bool q2.1.fneg, .slice q3 q2.1.fmag.length c_y0_ret_1_3_2]) agg_79 rfl rfl rfl (by simp [over_length]) (hS.pull 1) (fun w' hS => ?_)
  refine o_storeAgg (news := [.bool q2.2.fneg, .slice q4 q2.2.fmag.length c_y1_ret_1_3_2]) agg_79 rfl rfl rfl (by simp [over_length]) (hS.pull 1) (fun w' hS => ?_)
  refine x_done <| x_seq <| ?_
  refine x_par (w0 := w0) [⟨[], [], [20], [0], [], []⟩, ⟨[], [], [21], [1], [], []⟩, ⟨[0], [0], [], [], [2], [3]⟩, ⟨[0, 1, 2], [1], [], [], [4], [5]⟩, ⟨[0, 1, 2, 3], [], [6], [], [], []⟩] [⟨none, none, []⟩, ⟨none, none, []⟩, ⟨none, (some 2), []⟩, ⟨(some 2), none, []⟩, ⟨none, (some 3), []⟩, ⟨(some 3), none, []⟩] [6, 20, 21] [0, 1, 2, 4] [0, 1, 3, 5] [0, 1, 4] [fun Ep4 => Ep4 20 = .agg #[.bool q2.1.fneg, .slice q3 q2.1.fmag.length c_y0_ret_1_3_2], fun Ep4 => Ep4 21 = .agg #[.bool q2.2.fneg, .slice q4 q2.2.fmag.length c_y1_ret_1_3_2], fun Ep4 => True, fun Ep4 => True, fun Ep4 => Ep4 6 = .int .i64 0] [fun Ep4 => cells b7 79 [.bool q2.1.fneg, .slice q3 q2.1.fmag.length c_y0_ret_1_3_2], fun Ep4 => cells b8 79 [.bool q2.2.fneg, .slice q4 q2.2.fmag.length c_y1_ret_1_3_2], fun Ep4 => cells b4 79 [.bool false, .slice none 0 0], fun Ep4 => cells b4 79 [.bool q2.1.fneg, .slice q3 q2.1.fmag.length c_y0_ret_1_3_2], fun Ep4 => cells b5 79 [.bool false, .slice none 0 0], fun Ep4 => cells b5 79 [.bool q2.2.fneg, .slice q4 q2.2.fmag.length c_y1_ret_1_3_2]] mixed (by kernel_rfl) ((((hS.pull 3).pull 4).pull 2).pull 3) ?_ ?_
  ·refine ⟨?_, ?_, ?_, ?_, ?_, trivial⟩
   ·intro Ep4 w l' hE4 hO4 hF_ hS
    replace hS : St w0 w (cells b7 79 [.bool q2.1.fneg, .slice q3 q2.1.fmag.length c_y0_ret_1_3_2] :: l') := Eq.mp (by kernel_rfl) hS
    refine pa (v := .agg #[.bool q2.1.fneg, .slice q3 q2.1.fmag.length c_y0_ret_1_3_2]) (ld_sub agg_79 (hE4 7 rfl) rfl rfl hS) <| x_done <| ?_
    refine x_fin ⟨⟨_, rfl⟩, rfl, ?_⟩
    exact Eq.mp (by kernel_rfl) hS
   ·intro Ep4 w l' hE4 hO4 hF_ hS
    replace hS : St w0 w (cells b8 79 [.bool q2.2.fneg, .slice q4 q2.2.fmag.length c_y1_ret_1_3_2] :: l') := Eq.mp (by kernel_rfl) hS
    refine pa (v := .agg #[.bool q2.2.fneg, .slice q4 q2.2.fmag.length c_y1_ret_1_3_2]) (ld_sub agg_79 (hE4 8 rfl) rfl rfl hS) <| x_done <| ?_
    refine x_fin ⟨⟨_, rfl⟩, rfl, ?_⟩
    exact Eq.mp (by kernel_rfl) hS
   ·intro Ep4 w l' hE4 hO4 hF_ hS
    obtain ⟨q0d, -⟩ := hF_
    replace q0d : Ep4 20 = .agg #[.bool q2.1.fneg, .slice q3 q2.1.fmag.length c_y0_ret_1_3_2] := Eq.mp (by kernel_rfl) q0d
    replace hS : St w0 w (cells b4 79 [.bool false, .slice none 0 0] :: l') := Eq.mp (by kernel_rfl) hS
    refine o_storeAgg (news := [.bool q2.1.fneg, .slice q3 q2.1.fmag.length c_y0_ret_1_3_2]) agg_79 (hE4 4 rfl) q0d rfl (by simp [over_length]) hS (fun w' hS => ?_)
    refine x_done <| ?_
    refine x_fin ⟨⟨undef, rfl⟩, trivial, ?_⟩
    exact Eq.mp (by kernel_rfl) hS
   ·intro Ep4 w l' hE4 hO4 hF_ hS
    obtain ⟨q0e, -⟩ := hF_
    replace q0e : Ep4 21 = .agg #[.bool q2.2.fneg, .slice q4 q2.2.fmag.length c_y1_ret_1_3_2] := Eq.mp (by kernel_rfl) q0e
    replace hS : St w0 w (cells b5 79 [.bool false, .slice none 0 0] :: l') := Eq.mp (by kernel_rfl) hS
    refine o_storeAgg (news := [.bool q2.2.fneg, .slice q4 q2.2.fmag.length c_y1_ret_1_3_2]) agg_79 (hE4 5 rfl) q0e rfl (by simp [over_length]) hS (fun w' hS => ?_)
    refine x_done <| ?_
    refine x_fin ⟨⟨undef, rfl⟩, trivial, ?_⟩
    exact Eq.mp (by kernel_rfl) hS
   ·intro Ep4 w l' hE4 hO4 hF_ hS
    refine p (yl_assign rfl) <| x_done <| ?_
    refine x_fin ⟨⟨_, rfl⟩, rfl, ?_⟩
    exact Eq.mp (by kernel_rfl) hS
  intro Ep4 w' hE4 hF_ hS
  obtain ⟨q0d, q0e, q0k, -⟩ := hF_
  replace q0d : Ep4 20 = .agg #[.bool q2.1.fneg, .slice q3 q2.1.fmag.length c_y0_ret_1_3_2] := Eq.mp (by kernel_rfl) q0d
  replace q0e : Ep4 21 = .agg #[.bool q2.2.fneg, .slice q4 q2.2.fmag.length c_y1_ret_1_3_2] := Eq.mp (by kernel_rfl) q0e
  replace q0k : Ep4 6 = .int .i64 0 := Eq.mp (by kernel_rfl) q0k
  replace hS : St w0 w' (cells b7 79 [.bool q2.1.fneg, .slice q3 q2.1.fmag.length c_y0_ret_1_3_2] :: cells b8 79 [.bool q2.2.fneg, .slice q4 q2.2.fmag.length c_y1_ret_1_3_2] :: cells b4 79 [.bool q2.1.fneg, .slice q3 q2.1.fmag.length c_y0_ret_1_3_2] :: cells b5 79 [.bool q2.2.fneg, .slice q4 q2.2.fmag.length c_y1_ret_1_3_2] :: (ro q0j :: cells b3 79 [.bool b1.fneg, .slice q5 b1.fmag.length c_b1_1] :: cells b2 79 [.bool a0.fneg, .slice q8 a0.fmag.length c_a0_1] :: l)) := Eq.mp (by kernel_rfl) hS
  have e_ := Option.some.inj (show some _ = some _ from hF); subst e_
  exact x_return ⟨_, ⟨_, _, _, rfl, (hE4 4 rfl), ldvA agg_79 rfl (fun j v hj => by rw [add0]; exact St.cell (hS.pull 2) hj), _, _, _, rfl, (hE4 5 rfl), ldvA agg_79 rfl (fun j v hj => by rw [add0]; exact St.cell (hS.pull 3) hj), _, _, rfl, q0k, rfl⟩, q0j, q3, q2.1.fmag.length, c_y0_ret_1_3_2, q4, q2.2.fmag.length, c_y1_ret_1_3_2, rfl, q0n, q6, q7, (((hS.drop.drop.drop.drop.pull 1).drop.pull 1).drop)⟩
attribute [irreducible] P_exact_DivMod

def P_maskkeep4_ExactLong (l_0 : List Int) : Option Bool :=
 bd (P_maskkeep4_ExactLong_1 (T_maskmake_Stream.mk l_0 0)) fun q4 =>
 bd (P_maskkeep4_ExactLong_1 (T_maskmake_Stream.mk l_0 q4.2)) fun q3 =>
 bd (P_maskkeep4_ExactLong_1 (T_maskmake_Stream.mk l_0 q3.2)) fun q6 =>
 bd (P_exact_Add q3.1 q6.1) fun q0j =>
 bd (P_exact_Mul q4.1 q0j.1) fun q5 =>
 bd (P_exact_Mul q4.1 q3.1) fun q0k =>
 bd (P_exact_Mul q4.1 q6.1) fun q0l =>
 bd (P_exact_Add q0k.1 q0l.1) fun q7 =>
 bd (P_exact_Text q5.1) fun q0m =>
 bd (P_exact_Read q0m) fun q8 =>
 bd (P_maskkeep4_exacts) fun q0e =>
 lv ((!q0e) || (decide (q5.2 ≠ 0))) fun x77 =>
 lv (x77 || (decide (q7.2 ≠ 0))) fun x81 =>
 lv (x81 || (decide (q8.2 ≠ 0))) fun x85 =>
 bd (gd (!x85) (P_exact_Cmp q5.1 q7.1)) fun q9 =>
 lv (x85 || (decide (q9 ≠ 0))) fun x91 =>
 bd (gd (!x91) (P_exact_Cmp q8.1 q5.1)) fun q0a =>
 lv (x91 || (decide (q0a ≠ 0))) fun x97 =>
 if x97 = true then
  some false
 else
  bd (P_exact_Sign q3.1) fun q0f =>
  if q0f = 0 then
   some true
  else
   bd (P_exact_DivMod q4.1 q3.1) fun q2 =>
   bd (P_exact_Mul q2.1 q3.1) fun q0g =>
   bd (P_exact_Add q0g.1 q2.2.1) fun q0h =>
   bd (gd (decide (q2.2.2 = 0)) (P_exact_Cmp q0h.1 q4.1)) fun q0i =>
   lv ((decide (q2.2.2 = 0)) && (decide (q0i = 0))) fun x127 =>
   bd (gd (x127) (P_exact_Sign q2.2.1)) fun q0b =>
   lv (x127 && (decide (0 ≤ q0b))) fun x132 =>
   bd (gd (x132) (P_exact_Abs q3.1)) fun q0c =>
   bd (gd (x132) (P_exact_Cmp q2.2.1 q0c)) fun q0d =>
   lv (x132 && (decide (q0d < 0))) fun x139 =>
   some x139
set_option maxHeartbeats 4000000 in
set_option maxRecDepth 100000 in
theorem c_maskkeep4_ExactLong {w0 w : World} {l : List Assn} {ρ : Heap} {q1t : Option Addr} {q2f : Nat} {c_l_0 : Nat} {l_0 : List Int} {r : Bool} (hF : P_maskkeep4_ExactLong l_0 = some r) (q27 : RdS (RpI .i64) ρ q1t q2f c_l_0 l_0) (hS : St w0 w (ro ρ :: l)) :
  Calls Try.prog 10 #[.slice q1t q2f c_l_0] w fun e w' => e = .returned (.bool r) ∧ St w0 w' (ro ρ :: l) := by
 have e_ := q27.n; subst e_
 refine enterC Try.func10 rfl 140 rfl (by simp) ?_
 refine x_seq <| x_region <| p (yl_assign rfl) <| x_done <|
  x_seq <| x_region <| p (yl_move rfl) <| p (v := .agg #[.slice q1t l_0.length c_l_0, .int .i64 0]) (yl_build bld_25 bldf_25 (parts_eq (pt (va := .slice q1t l_0.length c_l_0) rfl pt0)) (by kernel_rfl)) <| ?_
 refine o_box (cs := [.slice q1t l_0.length c_l_0, .int .i64 0]) rfl rfl hS (fun b28 w' hS => ?_)
 refine o_alloc zero_23 hS (fun b3 w' hS => ?_)
 refine o_store1 (v := .pointer (some ⟨b28, 0, none⟩)) one_23 rfl rfl rfl rfl hS (fun w' hS => ?_)
 replace hF := bd_s hF; obtain ⟨q0c, q36, hF⟩ := hF
 refine x_done <| x_seq <| x_region <| p (v := .func (.func 50) #[] #[.pointer (some ⟨b3, 0, none⟩)]) (yl_makeFunc (by simp only [List.map_toArray, List.map_nil]) (by simp only [List.map_toArray, List.map_cons, List.map_nil]; rfl)) <|
  p (v := .func (.func 50) #[] #[.pointer (some ⟨b3, 0, none⟩)]) (yl_assign rfl) <| x_done <| x_seq <| x_region <|
  p (v := .func (.func 50) #[] #[.pointer (some ⟨b3, 0, none⟩)]) (yl_move rfl) <| ?_
 have hcall := c_maskkeep4_ExactLong_1 q36 q27 (((hS.pull 2).pull 2).pull 2)
 refine o_ccv rfl call_50 (capargs args0) hcall ?_
 rintro e w' ⟨q3j, q5, q2l, c_y0_ret_1_3_1, rfl, q1q, q0d, hS⟩
 refine ⟨_, rfl, ?_⟩
 have e_ := q0d.n; subst e_
 replace hF := bd_s hF; obtain ⟨q0b, q37, hF⟩ := hF
 refine p (v := .func (.func 50) #[] #[.pointer (some ⟨b3, 0, none⟩)]) (yl_move rfl) <| ?_
 have hcall := c_maskkeep4_ExactLong_1 q37 (q27.le q1q) (((hS.pull 2).pull 1).pull 2)
 refine o_ccv rfl call_50 (capargs args0) hcall ?_
 rintro e w' ⟨q3k, q4, q2m, c_y0_ret_1_3_3, rfl, q0t, q0a, hS⟩
 refine ⟨_, rfl, ?_⟩
 have e_ := q0a.n; subst e_
 replace hF := bd_s hF; obtain ⟨q1p, q38, hF⟩ := hF
 refine p (v := .func (.func 50) #[] #[.pointer (some ⟨b3, 0, none⟩)]) (yl_move rfl) <| ?_
 have hcall := c_maskkeep4_ExactLong_1 q38 (q27.le (q1q.trans q0t)) (((hS.pull 2).pull 1).pull 2)
 refine o_ccv rfl call_50 (capargs args0) hcall ?_
 rintro e w' ⟨q3l, q0q, q2n, c_y0_ret_1_3_5, rfl, q0f, q0w, hS⟩
 refine ⟨_, rfl, ?_⟩
 have e_ := q0w.n; subst e_
 refine o_alloc zero_79 hS (fun b5 w' hS => ?_)
 refine o_alloc zero_79 hS (fun b6 w' hS => ?_)
 refine o_alloc zero_79 hS (fun b7 w' hS => ?_)
 refine o_storeAgg (news := [.bool q0c.1.fneg, .slice q5 q0c.1.fmag.length c_y0_ret_1_3_1]) agg_79 rfl rfl rfl (by simp [over_length]) (hS.pull 2) (fun w' hS => ?_)
 refine o_storeAgg (news := [.bool q0b.1.fneg, .slice q4 q0b.1.fmag.length c_y0_ret_1_3_3]) agg_79 rfl rfl rfl (by simp [over_length]) (hS.pull 2) (fun w' hS => ?_)
 refine o_storeAgg (news := [.bool q1p.1.fneg, .slice q0q q1p.1.fmag.length c_y0_ret_1_3_5]) agg_79 rfl rfl rfl (by simp [over_length]) (hS.pull 2) (fun w' hS => ?_)
 replace hF := bd_s hF; obtain ⟨q24, q39, hF⟩ := hF
 refine x_done <| x_seq <| x_region <| pa (v := .agg #[.bool q0b.1.fneg, .slice q4 q0b.1.fmag.length c_y0_ret_1_3_3]) (ld_sub agg_79 rfl rfl rfl (hS.pull 1)) <|
  pa (v := .agg #[.bool q1p.1.fneg, .slice q0q q1p.1.fmag.length c_y0_ret_1_3_5]) (ld_sub agg_79 rfl rfl rfl hS) <| ?_
 have hcall := c_exact_Add q39 (q0a.le q0f) q0w (hS.pull 5)
 refine o_cc call_52 (args2 rfl rfl) hcall ?_
 rintro e w' ⟨q3m, q0x, q2o, c_y0_ret_1_4_2, rfl, q0g, q1b, hS⟩
 refine ⟨_, rfl, ?_⟩
 have e_ := q1b.n; subst e_
 refine p (yl_move rfl) <| p (yl_extract rfl rfl) <| p (yl_extract rfl rfl) <| ?_
 refine o_alloc zero_79 hS (fun b8 w' hS => ?_)
 refine o_storeAgg (news := [.bool q24.1.fneg, .slice q0x q24.1.fmag.length c_y0_ret_1_4_2]) agg_79 rfl rfl rfl (by simp [over_length]) hS (fun w' hS => ?_)
 replace hF := bd_s hF; obtain ⟨q15, q3a, hF⟩ := hF
 refine p (yl_assign rfl) <| x_done <| x_seq <| x_region <|
  pa (v := .agg #[.bool q0c.1.fneg, .slice q5 q0c.1.fmag.length c_y0_ret_1_3_1]) (ld_sub agg_79 rfl rfl rfl (hS.pull 4)) <| pa (v := .agg #[.bool q24.1.fneg, .slice q0x q24.1.fmag.length c_y0_ret_1_4_2]) (ld_sub agg_79 rfl rfl rfl hS) <| ?_
 have hcall := c_exact_Mul q3a (q0d.le ((q0t.trans q0f).trans q0g)) q1b (hS.pull 1)
 refine o_cc call_39 (args2 rfl rfl) hcall ?_
 rintro e w' ⟨q3n, q0j, q2p, c_y0_ret_1_5_2, rfl, q0k, q0r, hS⟩
 refine ⟨_, rfl, ?_⟩
 have e_ := q0r.n; subst e_
 refine p (yl_move rfl) <| p (yl_extract rfl rfl) <| p (yl_extract rfl rfl) <| ?_
 refine o_alloc zero_79 hS (fun b10 w' hS => ?_)
 refine o_storeAgg (news := [.bool q15.1.fneg, .slice q0j q15.1.fmag.length c_y0_ret_1_5_2]) agg_79 rfl rfl rfl (by simp [over_length]) hS (fun w' hS => ?_)
 replace hF := bd_s hF; obtain ⟨q25, q3b, hF⟩ := hF
 refine p (yl_assign rfl) <| x_done <| x_seq <| x_region <|
  pa (v := .agg #[.bool q0c.1.fneg, .slice q5 q0c.1.fmag.length c_y0_ret_1_3_1]) (ld_sub agg_79 rfl rfl rfl (hS.pull 5)) <| pa (v := .agg #[.bool q0b.1.fneg, .slice q4 q0b.1.fmag.length c_y0_ret_1_3_3]) (ld_sub agg_79 rfl rfl rfl (hS.pull 4)) <| ?_
 have hcall := c_exact_Mul q3b (q0d.le (((q0t.trans q0f).trans q0g).trans q0k)) (q0a.le ((q0f.trans q0g).trans q0k)) (hS.pull 1)
 refine o_cc call_39 (args2 rfl rfl) hcall ?_
 rintro e w' ⟨q3o, q0y, q2q, c_y0_ret_1_6_2, rfl, q0h, q1c, hS⟩
 refine ⟨_, rfl, ?_⟩
 have e_ := q1c.n; subst e_
 refine p (yl_move rfl) <| p (yl_extract rfl rfl) <| p (yl_extract rfl rfl) <| ?_
 refine o_alloc zero_79 hS (fun b12 w' hS => ?_)
 refine o_storeAgg (news := [.bool q25.1.fneg, .slice q0y q25.1.fmag.length c_y0_ret_1_6_2]) agg_79 rfl rfl rfl (by simp [over_length]) hS (fun w' hS => ?_)
 replace hF := bd_s hF; obtain ⟨q26, q3c, hF⟩ := hF
 refine p (yl_assign rfl) <| x_done <| x_seq <| x_region <|
  pa (v := .agg #[.bool q0c.1.fneg, .slice q5 q0c.1.fmag.length c_y0_ret_1_3_1]) (ld_sub agg_79 rfl rfl rfl (hS.pull 6)) <| pa (v := .agg #[.bool q1p.1.fneg, .slice q0q q1p.1.fmag.length c_y0_ret_1_3_5]) (ld_sub agg_79 rfl rfl rfl (hS.pull 4)) <| ?_
 have hcall := c_exact_Mul q3c (q0d.le ((((q0t.trans q0f).trans q0g).trans q0k).trans q0h)) (q0w.le ((q0g.trans q0k).trans q0h)) (hS.pull 1)
 refine o_cc call_39 (args2 rfl rfl) hcall ?_
 rintro e w' ⟨q3p, q0z, q2r, c_y0_ret_1_7_2, rfl, q0l, q1d, hS⟩
 refine ⟨_, rfl, ?_⟩
 have e_ := q1d.n; subst e_
 refine p (yl_move rfl) <| p (yl_extract rfl rfl) <| p (yl_extract rfl rfl) <| ?_
 refine o_alloc zero_79 hS (fun b14 w' hS => ?_)
 refine o_storeAgg (news := [.bool q26.1.fneg, .slice q0z q26.1.fmag.length c_y0_ret_1_7_2]) agg_79 rfl rfl rfl (by simp [over_length]) hS (fun w' hS => ?_)
 replace hF := bd_s hF; obtain ⟨q1r, q3d, hF⟩ := hF
 refine p (yl_assign rfl) <| x_done <| x_seq <| x_region <|
  pa (v := .agg #[.bool q25.1.fneg, .slice q0y q25.1.fmag.length c_y0_ret_1_6_2]) (ld_sub agg_79 rfl rfl rfl (hS.pull 2)) <| pa (v := .agg #[.bool q26.1.fneg, .slice q0z q26.1.fmag.length c_y0_ret_1_7_2]) (ld_sub agg_79 rfl rfl rfl hS) <| ?_
 have hcall := c_exact_Add q3d (q1c.le q0l) q1d (hS.pull 1)
 refine o_cc call_52 (args2 rfl rfl) hcall ?_
 rintro e w' ⟨q3q, q10, q2s, c_y0_ret_1_8_2, rfl, q0n, q1e, hS⟩
 refine ⟨_, rfl, ?_⟩
 have e_ := q1e.n; subst e_
 refine p (yl_move rfl) <| p (yl_extract rfl rfl) <| p (yl_extract rfl rfl) <| ?_
 refine o_alloc zero_79 hS (fun b16 w' hS => ?_)
 refine o_storeAgg (news := [.bool q1r.1.fneg, .slice q10 q1r.1.fmag.length c_y0_ret_1_8_2]) agg_79 rfl rfl rfl (by simp [over_length]) hS (fun w' hS => ?_)
 replace hF := bd_s hF; obtain ⟨q3s, q3e, hF⟩ := hF
 refine p (yl_assign rfl) <| x_done <| x_seq <| x_region <|
  pa (v := .agg #[.bool q15.1.fneg, .slice q0j q15.1.fmag.length c_y0_ret_1_5_2]) (ld_sub agg_79 rfl rfl rfl (hS.pull 4)) <| ?_
 have hcall := c_exact_Text q3e (q0r.le ((q0h.trans q0l).trans q0n)) (hS.pull 1)
 refine o_cc call_54 (args1 rfl) ((Calls.mono hcall (fun e w'' h => And.intro h.1 (((((((((((h.2.pull 10).pull 10).pull 10).pull 10).pull 10).pull 10).pull 10).pull 10).pull 10).pull 9).pull 10)))) ?_
 rintro e w' ⟨rfl, hS⟩
 refine ⟨_, rfl, ?_⟩
 replace hF := bd_s hF; obtain ⟨q1s, q3f, hF⟩ := hF
 have hcall := c_exact_Read q3f  (hS.pull 1)
 refine o_cc call_53 (args1 rfl) hcall ?_
 rintro e w' ⟨q3r, q11, q2t, c_y0_ret_1_9_2, rfl, q0o, q1f, hS⟩
 refine ⟨_, rfl, ?_⟩
 have e_ := q1f.n; subst e_
 refine p (yl_move rfl) <| p (yl_extract rfl rfl) <| p (yl_extract rfl rfl) <| ?_
 refine o_alloc zero_79 hS (fun b18 w' hS => ?_)
 refine o_storeAgg (news := [.bool q1s.1.fneg, .slice q11 q1s.1.fmag.length c_y0_ret_1_9_2]) agg_79 rfl rfl rfl (by simp [over_length]) hS (fun w' hS => ?_)
 replace hF := bd_s hF; obtain ⟨q2g, q30, hF⟩ := hF
 refine p (yl_assign rfl) <| x_done <| x_seq <| x_seq <|
  x_region <| ?_
 have hcall := c_maskkeep4_exacts q30  (hS.pull 1)
 refine o_cc call_40 args0 ((Calls.mono hcall (fun e w'' h => And.intro h.1 ((((((((((((h.2.pull 11).pull 11).pull 11).pull 11).pull 11).pull 11).pull 11).pull 11).pull 11).pull 11).pull 10).pull 11)))) ?_
 rintro e w' ⟨rfl, hS⟩
 refine ⟨_, rfl, ?_⟩
 replace hF := lv_s hF; obtain ⟨x77, hx77, hF⟩ := hF
 replace hF := lv_s hF; obtain ⟨x81, hx81, hF⟩ := hF
 replace hF := lv_s hF; obtain ⟨x85, hx85, hF⟩ := hF
 replace hF := bd_s hF; obtain ⟨q2b, q2u, hF⟩ := hF
 refine p (yl_not rfl) <| p (yl_move rfl) <| pg (v := .int .i64 q15.2) 74 (c := !(!q2g)) (says_f _) (fun hq => Yl.at (yl_move rfl)) <| pg (v := .bool (decide (q15.2 ≠ 0))) 74 (c := !(!q2g)) (says_f _) (fun hq => Yl.at (yl_neq (cv hq) rfl)) <|
  p (yor' rfl rfl (fun hc => (cv (t_not hc))) hx77) <| p (yl_move rfl) <| pg (v := .int .i64 q1r.2) 78 (c := !x77) (says_f _) (fun hq => Yl.at (yl_move rfl)) <| pg (v := .bool (decide (q1r.2 ≠ 0))) 78 (c := !x77) (says_f _) (fun hq => Yl.at (yl_neq (cv hq) rfl)) <|
  p (yor' rfl rfl (fun hc => (cv (t_not hc))) hx81) <| p (yl_move rfl) <| pg (v := .int .i64 q1s.2) 82 (c := !x81) (says_f _) (fun hq => Yl.at (yl_move rfl)) <| pg (v := .bool (decide (q1s.2 ≠ 0))) 82 (c := !x81) (says_f _) (fun hq => Yl.at (yl_neq (cv hq) rfl)) <|
  p (yor' rfl rfl (fun hc => (cv (t_not hc))) hx85) <| p (yl_move rfl) <| pg (v := .agg #[.bool q15.1.fneg, .slice q0j q15.1.fmag.length c_y0_ret_1_5_2]) 86 (c := !x85) (says_f _) (fun hq => ld_sub agg_79 rfl rfl rfl (hS.pull 5)) <| pg (v := .agg #[.bool q1r.1.fneg, .slice q10 q1r.1.fmag.length c_y0_ret_1_8_2]) 86 (c := !x85) (says_f _) (fun hq => ld_sub agg_79 rfl rfl rfl (hS.pull 2)) <|
  pccg (v := .int .i64 q2b) 86 (c := !x85) (says_f _) call_41 (fun hq => (args2 (cv hq) (cv hq))) hS (fun hq => by
   have hcall := c_exact_Cmp (gd_t q2u hq) (q0r.le (((q0h.trans q0l).trans q0n).trans q0o)) (q1e.le q0o) (hS.pull 1)
   exact (Calls.mono hcall (fun e w'' h => And.intro h.1 ((((((((((((h.2.pull 11).pull 11).pull 11).pull 11).pull 11).pull 11).pull 11).pull 11).pull 11).pull 11).pull 10).pull 11)))) (fun w' hS => ?_)
 replace hF := lv_s hF; obtain ⟨x91, hx91, hF⟩ := hF
 replace hF := bd_s hF; obtain ⟨q2c, q2v, hF⟩ := hF
 refine pg (v := .bool (decide (q2b ≠ 0))) 86 (c := !x85) (says_f _) (fun hq => Yl.at (yl_neq (cv hq) rfl)) <| p (yor' rfl rfl (fun hc => (cv (t_not hc))) hx91) <| p (yl_move rfl) <| pg (v := .agg #[.bool q1s.1.fneg, .slice q11 q1s.1.fmag.length c_y0_ret_1_9_2]) 92 (c := !x91) (says_f _) (fun hq => ld_sub agg_79 rfl rfl rfl hS) <|
  pg (v := .agg #[.bool q15.1.fneg, .slice q0j q15.1.fmag.length c_y0_ret_1_5_2]) 92 (c := !x91) (says_f _) (fun hq => ld_sub agg_79 rfl rfl rfl (hS.pull 5)) <|
  pccg (v := .int .i64 q2c) 92 (c := !x91) (says_f _) call_41 (fun hq => (args2 (cv hq) (cv hq))) hS (fun hq => by
   have hcall := c_exact_Cmp (gd_t q2v hq) q1f (q0r.le (((q0h.trans q0l).trans q0n).trans q0o)) (hS.pull 1)
   exact (Calls.mono hcall (fun e w'' h => And.intro h.1 ((((((((((((h.2.pull 11).pull 11).pull 11).pull 11).pull 11).pull 11).pull 11).pull 11).pull 11).pull 11).pull 10).pull 11)))) (fun w' hS => ?_)
 replace hF := lv_s hF; obtain ⟨x97, hx97, hF⟩ := hF
 refine pg (v := .bool (decide (q2c ≠ 0))) 92 (c := !x91) (says_f _) (fun hq => Yl.at (yl_neq (cv hq) rfl)) <| p (yor' rfl rfl (fun hc => (cv (t_not hc))) hx97) <| x_done <|
  x_cond (t := x97) rfl (fun hc97 => ?_) (fun hc97 => ?_)
 ·replace hF := it_t hc97 hF
  refine x_seq <| x_region <| p (yl_assign rfl) <| x_done <| ?_
  have e_ := Option.some.inj (show some _ = some _ from hF); subst e_
  exact x_return ⟨_, ⟨_, _, rfl, rfl, rfl⟩, rfl, (ro_back0 ((((((((q1q.trans q0t).trans q0f).trans q0g).trans q0k).trans q0h).trans q0l).trans q0n).trans q0o) (((((((((((hS.drop.pull 1).drop.pull 1).drop.pull 1).drop.pull 1).drop.pull 1).drop.pull 1).drop.pull 1).drop.pull 1).drop.pull 1).drop.pull 1).drop))⟩
 ·replace hF := it_bf hc97 hF
  replace hF := bd_s hF; obtain ⟨q3g, q31, hF⟩ := hF
  refine x_skip <| x_seq <| x_seq <| x_region <|
   pa (v := .agg #[.bool q0b.1.fneg, .slice q4 q0b.1.fmag.length c_y0_ret_1_3_3]) (ld_sub agg_79 rfl rfl rfl (hS.pull 8)) <| ?_
  have hcall := c_exact_Sign q31 (q0a.le ((((((q0f.trans q0g).trans q0k).trans q0h).trans q0l).trans q0n).trans q0o)) (hS.pull 1)
  refine o_cc call_44 (args1 rfl) ((Calls.mono hcall (fun e w'' h => And.intro h.1 ((((((((((((h.2.pull 11).pull 11).pull 11).pull 11).pull 11).pull 11).pull 11).pull 11).pull 11).pull 11).pull 10).pull 11)))) ?_
  rintro e w' ⟨rfl, hS⟩
  refine ⟨_, rfl, ?_⟩
  refine p (yl_eql rfl rfl) <| x_done <|
   x_cond_p (q3g = 0) rfl (fun hc100 => ?_) (fun hc100 => ?_)
  ·replace hF := it_t hc100 hF
   refine x_seq <| x_region <| p (yl_assign rfl) <| x_done <| ?_
   have e_ := Option.some.inj (show some _ = some _ from hF); subst e_
   exact x_return ⟨_, ⟨_, _, rfl, rfl, rfl⟩, rfl, (ro_back0 ((((((((q1q.trans q0t).trans q0f).trans q0g).trans q0k).trans q0h).trans q0l).trans q0n).trans q0o) (((((((((((hS.drop.pull 1).drop.pull 1).drop.pull 1).drop.pull 1).drop.pull 1).drop.pull 1).drop.pull 1).drop.pull 1).drop.pull 1).drop.pull 1).drop))⟩
  ·replace hF := it_f hc100 hF
   replace hF := bd_s hF; obtain ⟨q2, q32, hF⟩ := hF
   refine x_skip <| x_seq <| x_region <| pa (v := .agg #[.bool q0c.1.fneg, .slice q5 q0c.1.fmag.length c_y0_ret_1_3_1]) (ld_sub agg_79 rfl rfl rfl (hS.pull 9)) <|
    pa (v := .agg #[.bool q0b.1.fneg, .slice q4 q0b.1.fmag.length c_y0_ret_1_3_3]) (ld_sub agg_79 rfl rfl rfl (hS.pull 8)) <| ?_
   have hcall := c_exact_DivMod q32 (q0d.le (((((((q0t.trans q0f).trans q0g).trans q0k).trans q0h).trans q0l).trans q0n).trans q0o)) (q0a.le ((((((q0f.trans q0g).trans q0k).trans q0h).trans q0l).trans q0n).trans q0o)) (hS.pull 1)
   refine o_cc call_55 (args2 rfl rfl) hcall ?_
   rintro e w' ⟨q3h, q0u, q2h, c_y0_ret_1_14_2, q3, q2i, c_y1_ret_1_14_2, rfl, q1u, q17, q0p, hS⟩
   refine ⟨_, rfl, ?_⟩
   have e_ := q17.n; subst e_
   have e_ := q0p.n; subst e_
   refine p (yl_move rfl) <| p (yl_extract rfl rfl) <| p (yl_extract rfl rfl) <| p (yl_extract rfl rfl) <| ?_
   refine o_alloc zero_79 hS (fun b20 w' hS => ?_)
   refine o_alloc zero_79 hS (fun b21 w' hS => ?_)
   refine o_storeAgg (news := [.bool q2.1.fneg, .slice q0u q2.1.fmag.length c_y0_ret_1_14_2]) agg_79 rfl rfl rfl (by simp [over_length]) (hS.pull 1) (fun w' hS => ?_)
   refine o_storeAgg (news := [.bool q2.2.1.fneg, .slice q3 q2.2.1.fmag.length c_y1_ret_1_14_2]) agg_79 rfl rfl rfl (by simp [over_length]) (hS.pull 1) (fun w' hS => ?_)
   replace hF := bd_s hF; obtain ⟨q1v, q33, hF⟩ := hF
   refine p (yl_assign rfl) <| x_done <| x_seq <| x_region <|
    pa (v := .agg #[.bool q2.1.fneg, .slice q0u q2.1.fmag.length c_y0_ret_1_14_2]) (ld_sub agg_79 rfl rfl rfl (hS.pull 1)) <| pa (v := .agg #[.bool q0b.1.fneg, .slice q4 q0b.1.fmag.length c_y0_ret_1_3_3]) (ld_sub agg_79 rfl rfl rfl (hS.pull 10)) <| ?_
   have hcall := c_exact_Mul q33 q17 (q0a.le (((((((q0f.trans q0g).trans q0k).trans q0h).trans q0l).trans q0n).trans q0o).trans q1u)) (hS.pull 2)
   refine o_cc call_39 (args2 rfl rfl) hcall ?_
   rintro e w' ⟨q3i, q0v, q2j, c_y0_ret_1_15_2, rfl, q16, q18, hS⟩
   refine ⟨_, rfl, ?_⟩
   have e_ := q18.n; subst e_
   refine p (yl_move rfl) <| p (yl_extract rfl rfl) <| p (yl_extract rfl rfl) <| ?_
   refine o_alloc zero_79 hS (fun b22 w' hS => ?_)
   refine o_storeAgg (news := [.bool q1v.1.fneg, .slice q0v q1v.1.fmag.length c_y0_ret_1_15_2]) agg_79 rfl rfl rfl (by simp [over_length]) hS (fun w' hS => ?_)
   replace hF := bd_s hF; obtain ⟨q0i, q34, hF⟩ := hF
   refine p (yl_assign rfl) <| x_done <| x_seq <| x_region <|
    pa (v := .agg #[.bool q1v.1.fneg, .slice q0v q1v.1.fmag.length c_y0_ret_1_15_2]) (ld_sub agg_79 rfl rfl rfl hS) <| pa (v := .agg #[.bool q2.2.1.fneg, .slice q3 q2.2.1.fmag.length c_y1_ret_1_14_2]) (ld_sub agg_79 rfl rfl rfl (hS.pull 2)) <| ?_
   have hcall := c_exact_Add q34 q18 (q0p.le q16) (hS.pull 1)
   refine o_cc call_52 (args2 rfl rfl) hcall ?_
   rintro e w' ⟨q0m, q8, q2k, c_y0_ret_1_16_2, rfl, q1g, q19, hS⟩
   refine ⟨_, rfl, ?_⟩
   have e_ := q19.n; subst e_
   refine p (yl_move rfl) <| p (yl_extract rfl rfl) <| p (yl_extract rfl rfl) <| ?_
   refine o_alloc zero_79 hS (fun b24 w' hS => ?_)
   refine o_storeAgg (news := [.bool q0i.1.fneg, .slice q8 q0i.1.fmag.length c_y0_ret_1_16_2]) agg_79 rfl rfl rfl (by simp [over_length]) hS (fun w' hS => ?_)
   refine p (yl_assign rfl) <| x_done <| x_seq <| ?_
   replace hF := bd_s hF; obtain ⟨q1a, q35, hF⟩ := hF
   replace hF := lv_s hF; obtain ⟨x127, hx127, hF⟩ := hF
   replace hF := bd_s hF; obtain ⟨q12, q2w, hF⟩ := hF
   replace hF := lv_s hF; obtain ⟨x132, hx132, hF⟩ := hF
   replace hF := bd_s hF; obtain ⟨q0s, q2x, hF⟩ := hF
   replace hF := bd_s hF; obtain ⟨q13, q2y, hF⟩ := hF
   replace hF := lv_s hF; obtain ⟨x139, hx139, hF⟩ := hF
   refine x_par (w0 := w0) [⟨[], [], [120], [], [], []⟩, ⟨[0], [0], [121], [], [], []⟩, ⟨[0, 1], [1], [122], [], [], []⟩, ⟨[0, 1, 2], [2], [123], [0], [], []⟩, ⟨[0, 1, 2], [2], [124], [1], [], []⟩, ⟨[0, 1, 2, 3, 4], [2, 3, 4], [125], [2], [], []⟩, ⟨[0, 1, 2, 3, 4, 5], [2, 5], [126], [], [], []⟩, ⟨[0, 1, 2, 3, 4, 5, 6], [2, 6], [127], [], [], []⟩, ⟨[0, 1, 2, 3, 4, 5, 6, 7], [7], [128], [], [], []⟩, ⟨[0, 1, 2, 3, 4, 5, 6, 7, 8], [8], [129], [3], [], []⟩, ⟨[0, 1, 2, 3, 4, 5, 6, 7, 8, 9], [8, 9], [130], [2], [], []⟩, ⟨[0, 1, 2, 3, 4, 5, 6, 7, 8, 9, 10], [8, 10], [131], [], [], []⟩, ⟨[0, 1, 2, 3, 4, 5, 6, 7, 8, 9, 10, 11], [8, 11], [132], [], [], []⟩, ⟨[0, 1, 2, 3, 4, 5, 6, 7, 8, 9, 10, 11, 12], [12], [133], [], [], []⟩, ⟨[0, 1, 2, 3, 4, 5, 6, 7, 8, 9, 10, 11, 12, 13], [13], [134], [3], [], []⟩, ⟨[0, 1, 2, 3, 4, 5, 6, 7, 8, 9, 10, 11, 12, 13], [13], [135], [4], [], []⟩, ⟨[0, 1, 2, 3, 4, 5, 6, 7, 8, 9, 10, 11, 12, 13, 15], [13, 15], [136], [2], [], []⟩, ⟨[0, 1, 2, 3, 4, 5, 6, 7, 8, 9, 10, 11, 12, 13, 14, 15, 16], [13, 14, 16], [137], [2], [], []⟩, ⟨[0, 1, 2, 3, 4, 5, 6, 7, 8, 9, 10, 11, 12, 13, 14, 15, 16, 17], [13, 17], [138], [], [], []⟩, ⟨[0, 1, 2, 3, 4, 5, 6, 7, 8, 9, 10, 11, 12, 13, 14, 15, 16, 17, 18], [13, 18], [139], [], [], []⟩, ⟨[0, 1, 2, 3, 4, 5, 6, 7, 8, 9, 10, 11, 12, 13, 14, 15, 16, 17, 18, 19], [19], [2], [], [], []⟩] [⟨none, none, []⟩, ⟨none, none, []⟩, ⟨none, none, []⟩, ⟨none, none, []⟩, ⟨none, none, []⟩] [2, 120, 121, 122, 123, 124, 125, 126, 127, 128, 129, 130, 131, 132, 133, 134, 135, 136, 137, 138, 139] [0, 1, 2, 3, 4] [0, 1, 2, 3, 4] [0, 1, 2, 3, 4, 5, 6, 7, 8, 9, 10, 11, 12, 13, 14, 15, 16, 17, 18, 19, 20] [fun Ep17 => Ep17 120 = .int .i64 q2.2.2, fun Ep17 => Ep17 121 = .bool (decide (q2.2.2 = 0)), fun Ep17 => Ep17 122 = .bool (decide (q2.2.2 = 0)), fun Ep17 => Ep17 123 = (bif decide (q2.2.2 = 0) then .agg #[.bool q0i.1.fneg, .slice q8 q0i.1.fmag.length c_y0_ret_1_16_2] else undef), fun Ep17 => Ep17 124 = (bif decide (q2.2.2 = 0) then .agg #[.bool q0c.1.fneg, .slice q5 q0c.1.fmag.length c_y0_ret_1_3_1] else undef), fun Ep17 => Ep17 125 = (bif decide (q2.2.2 = 0) then .int .i64 q1a else undef), fun Ep17 => Ep17 126 = (bif decide (q2.2.2 = 0) then .bool (decide (q1a = 0)) else undef), fun Ep17 => Ep17 127 = .bool x127, fun Ep17 => Ep17 128 = .bool x127, fun Ep17 => Ep17 129 = (bif x127 then .agg #[.bool q2.2.1.fneg, .slice q3 q2.2.1.fmag.length c_y1_ret_1_14_2] else undef), fun Ep17 => Ep17 130 = (bif x127 then .int .i64 q12 else undef), fun Ep17 => Ep17 131 = (bif x127 then .bool (decide (0 ≤ q12)) else undef), fun Ep17 => Ep17 132 = .bool x132, fun Ep17 => Ep17 133 = .bool x132, fun Ep17 => Ep17 134 = (bif x132 then .agg #[.bool q2.2.1.fneg, .slice q3 q2.2.1.fmag.length c_y1_ret_1_14_2] else undef), fun Ep17 => Ep17 135 = (bif x132 then .agg #[.bool q0b.1.fneg, .slice q4 q0b.1.fmag.length c_y0_ret_1_3_3] else undef), fun Ep17 => Ep17 136 = (bif x132 then .agg #[.bool q0s.fneg, .slice (adOf (partOf 1 (Ep17 136))) (lenOf (partOf 1 (Ep17 136))) (capOf (partOf 1 (Ep17 136)))] else undef) ∧ (x132 = true → RdS (RpI .u32) q0m (adOf (partOf 1 (Ep17 136))) (lenOf (partOf 1 (Ep17 136))) (capOf (partOf 1 (Ep17 136))) q0s.fmag), fun Ep17 => Ep17 137 = (bif x132 then .int .i64 q13 else undef), fun Ep17 => Ep17 138 = (bif x132 then .bool (decide (q13 < 0)) else undef), fun Ep17 => Ep17 139 = .bool x139, fun Ep17 => Ep17 2 = .bool x139] [fun Ep17 => cells b24 79 [.bool q0i.1.fneg, .slice q8 q0i.1.fmag.length c_y0_ret_1_16_2], fun Ep17 => cells b5 79 [.bool q0c.1.fneg, .slice q5 q0c.1.fmag.length c_y0_ret_1_3_1], fun Ep17 => ro q0m, fun Ep17 => cells b21 79 [.bool q2.2.1.fneg, .slice q3 q2.2.1.fmag.length c_y1_ret_1_14_2], fun Ep17 => cells b6 79 [.bool q0b.1.fneg, .slice q4 q0b.1.fmag.length c_y0_ret_1_3_3]] mixed (by kernel_rfl) (((((hS.pull 12).pull 4).pull 3).pull 13).pull 4) ?_ ?_
   ·refine ⟨?_, ?_, ?_, ?_, ?_, ?_, ?_, ?_, ?_, ?_, ?_, ?_, ?_, ?_, ?_, ?_, ?_, ?_, ?_, ?_, ?_, trivial⟩
    ·intro Ep17 w l' hE17 hO17 hF_ hS
     refine p (yl_move (hE17 11 rfl)) <| x_done <| ?_
     refine x_fin ⟨⟨_, rfl⟩, rfl, ?_⟩
     exact Eq.mp (by kernel_rfl) hS
    ·intro Ep17 w l' hE17 hO17 hF_ hS
     obtain ⟨q1w, -⟩ := hF_
     replace q1w : Ep17 120 = .int .i64 q2.2.2 := Eq.mp (by kernel_rfl) q1w
     refine p (yl_eql q1w rfl) <| x_done <| ?_
     refine x_fin ⟨⟨_, rfl⟩, rfl, ?_⟩
     exact Eq.mp (by kernel_rfl) hS
    ·intro Ep17 w l' hE17 hO17 hF_ hS
     obtain ⟨q1x, -⟩ := hF_
     replace q1x : Ep17 121 = .bool (decide (q2.2.2 = 0)) := Eq.mp (by kernel_rfl) q1x
     refine p (yl_move q1x) <| x_done <| ?_
     refine x_fin ⟨⟨_, rfl⟩, rfl, ?_⟩
     exact Eq.mp (by kernel_rfl) hS
    ·intro Ep17 w l' hE17 hO17 hF_ hS
     obtain ⟨q9, -⟩ := hF_
     replace q9 : Ep17 122 = .bool (decide (q2.2.2 = 0)) := Eq.mp (by kernel_rfl) q9
     replace hS : St w0 w (cells b24 79 [.bool q0i.1.fneg, .slice q8 q0i.1.fmag.length c_y0_ret_1_16_2] :: l') := Eq.mp (by kernel_rfl) hS
     refine pg (v := .agg #[.bool q0i.1.fneg, .slice q8 q0i.1.fmag.length c_y0_ret_1_16_2]) 122 (c := decide (q2.2.2 = 0)) (by rw [show _ = _ from q9]; exact (says_t _)) (fun hq => ld_sub agg_79 (hE17 24 rfl) rfl rfl hS) <| x_done <| ?_
     refine x_fin ⟨⟨_, rfl⟩, rfl, ?_⟩
     exact Eq.mp (by kernel_rfl) hS
    ·intro Ep17 w l' hE17 hO17 hF_ hS
     obtain ⟨q9, -⟩ := hF_
     replace q9 : Ep17 122 = .bool (decide (q2.2.2 = 0)) := Eq.mp (by kernel_rfl) q9
     replace hS : St w0 w (cells b5 79 [.bool q0c.1.fneg, .slice q5 q0c.1.fmag.length c_y0_ret_1_3_1] :: l') := Eq.mp (by kernel_rfl) hS
     refine pg (v := .agg #[.bool q0c.1.fneg, .slice q5 q0c.1.fmag.length c_y0_ret_1_3_1]) 122 (c := decide (q2.2.2 = 0)) (by rw [show _ = _ from q9]; exact (says_t _)) (fun hq => ld_sub agg_79 (hE17 5 rfl) rfl rfl hS) <| x_done <| ?_
     refine x_fin ⟨⟨_, rfl⟩, rfl, ?_⟩
     exact Eq.mp (by kernel_rfl) hS
    ·intro Ep17 w l' hE17 hO17 hF_ hS
     obtain ⟨q9, q1y, q1z, -⟩ := hF_
     replace q9 : Ep17 122 = .bool (decide (q2.2.2 = 0)) := Eq.mp (by kernel_rfl) q9
     replace q1y : Ep17 123 = (bif decide (q2.2.2 = 0) then .agg #[.bool q0i.1.fneg, .slice q8 q0i.1.fmag.length c_y0_ret_1_16_2] else undef) := Eq.mp (by kernel_rfl) q1y
     replace q1z : Ep17 124 = (bif decide (q2.2.2 = 0) then .agg #[.bool q0c.1.fneg, .slice q5 q0c.1.fmag.length c_y0_ret_1_3_1] else undef) := Eq.mp (by kernel_rfl) q1z
     replace hS : St w0 w (ro q0m :: l') := Eq.mp (by kernel_rfl) hS
     refine pccg (v := .int .i64 q1a) 122 (c := decide (q2.2.2 = 0)) (by rw [show _ = _ from q9]; exact (says_t _)) call_41 (fun hq => (args2 (Eq.trans q1y (cv hq)) (Eq.trans q1z (cv hq)))) hS (fun hq => by
       have hcall := c_exact_Cmp (gd_t q35 hq) q19 (q0d.le ((((((((((q0t.trans q0f).trans q0g).trans q0k).trans q0h).trans q0l).trans q0n).trans q0o).trans q1u).trans q16).trans q1g)) hS
       exact hcall) (fun w' hS => ?_)
     refine x_done <| ?_
     refine x_fin ⟨⟨_, rfl⟩, rfl, ?_⟩
     exact Eq.mp (by kernel_rfl) hS
    ·intro Ep17 w l' hE17 hO17 hF_ hS
     obtain ⟨q9, q20, -⟩ := hF_
     replace q9 : Ep17 122 = .bool (decide (q2.2.2 = 0)) := Eq.mp (by kernel_rfl) q9
     replace q20 : Ep17 125 = (bif decide (q2.2.2 = 0) then .int .i64 q1a else undef) := Eq.mp (by kernel_rfl) q20
     refine pg (v := .bool (decide (q1a = 0))) 122 (c := decide (q2.2.2 = 0)) (by rw [show _ = _ from q9]; exact (says_t _)) (fun hq => Yl.at (yl_eql (Eq.trans q20 (cv hq)) rfl)) <| x_done <| ?_
     refine x_fin ⟨⟨_, rfl⟩, rfl, ?_⟩
     exact Eq.mp (by kernel_rfl) hS
    ·intro Ep17 w l' hE17 hO17 hF_ hS
     obtain ⟨q9, q21, -⟩ := hF_
     replace q9 : Ep17 122 = .bool (decide (q2.2.2 = 0)) := Eq.mp (by kernel_rfl) q9
     replace q21 : Ep17 126 = (bif decide (q2.2.2 = 0) then .bool (decide (q1a = 0)) else undef) := Eq.mp (by kernel_rfl) q21
     refine p (yand' q9 (fun hc => (Eq.trans q21 (cv hc))) rfl hx127) <| x_done <| ?_
     refine x_fin ⟨⟨_, rfl⟩, rfl, ?_⟩
     exact Eq.mp (by kernel_rfl) hS
    ·intro Ep17 w l' hE17 hO17 hF_ hS
     obtain ⟨q22, -⟩ := hF_
     replace q22 : Ep17 127 = .bool x127 := Eq.mp (by kernel_rfl) q22
     refine p (yl_move q22) <| x_done <| ?_
     refine x_fin ⟨⟨_, rfl⟩, rfl, ?_⟩
     exact Eq.mp (by kernel_rfl) hS
    ·intro Ep17 w l' hE17 hO17 hF_ hS
     obtain ⟨q0e, -⟩ := hF_
     replace q0e : Ep17 128 = .bool x127 := Eq.mp (by kernel_rfl) q0e
     replace hS : St w0 w (cells b21 79 [.bool q2.2.1.fneg, .slice q3 q2.2.1.fmag.length c_y1_ret_1_14_2] :: l') := Eq.mp (by kernel_rfl) hS
     refine pg (v := .agg #[.bool q2.2.1.fneg, .slice q3 q2.2.1.fmag.length c_y1_ret_1_14_2]) 128 (c := x127) (by rw [show _ = _ from q0e]; exact (says_t _)) (fun hq => ld_sub agg_79 (hE17 21 rfl) rfl rfl hS) <| x_done <| ?_
     refine x_fin ⟨⟨_, rfl⟩, rfl, ?_⟩
     exact Eq.mp (by kernel_rfl) hS
    ·intro Ep17 w l' hE17 hO17 hF_ hS
     obtain ⟨q0e, q23, -⟩ := hF_
     replace q0e : Ep17 128 = .bool x127 := Eq.mp (by kernel_rfl) q0e
     replace q23 : Ep17 129 = (bif x127 then .agg #[.bool q2.2.1.fneg, .slice q3 q2.2.1.fmag.length c_y1_ret_1_14_2] else undef) := Eq.mp (by kernel_rfl) q23
     replace hS : St w0 w (ro q0m :: l') := Eq.mp (by kernel_rfl) hS
     refine pccg (v := .int .i64 q12) 128 (c := x127) (by rw [show _ = _ from q0e]; exact (says_t _)) call_44 (fun hq => (args1 (Eq.trans q23 (cv hq)))) hS (fun hq => by
       have hcall := c_exact_Sign (gd_t q2w hq) (q0p.le (q16.trans q1g)) hS
       exact hcall) (fun w' hS => ?_)
     refine x_done <| ?_
     refine x_fin ⟨⟨_, rfl⟩, rfl, ?_⟩
     exact Eq.mp (by kernel_rfl) hS
    ·intro Ep17 w l' hE17 hO17 hF_ hS
     obtain ⟨q0e, q1h, -⟩ := hF_
     replace q0e : Ep17 128 = .bool x127 := Eq.mp (by kernel_rfl) q0e
     replace q1h : Ep17 130 = (bif x127 then .int .i64 q12 else undef) := Eq.mp (by kernel_rfl) q1h
     refine pg (v := .bool (decide (0 ≤ q12))) 128 (c := x127) (by rw [show _ = _ from q0e]; exact (says_t _)) (fun hq => Yl.at (yl_geq (Eq.trans q1h (cv hq)) rfl)) <| x_done <| ?_
     refine x_fin ⟨⟨_, rfl⟩, rfl, ?_⟩
     exact Eq.mp (by kernel_rfl) hS
    ·intro Ep17 w l' hE17 hO17 hF_ hS
     obtain ⟨q0e, q1i, -⟩ := hF_
     replace q0e : Ep17 128 = .bool x127 := Eq.mp (by kernel_rfl) q0e
     replace q1i : Ep17 131 = (bif x127 then .bool (decide (0 ≤ q12)) else undef) := Eq.mp (by kernel_rfl) q1i
     refine p (yand' q0e (fun hc => (Eq.trans q1i (cv hc))) rfl hx132) <| x_done <| ?_
     refine x_fin ⟨⟨_, rfl⟩, rfl, ?_⟩
     exact Eq.mp (by kernel_rfl) hS
    ·intro Ep17 w l' hE17 hO17 hF_ hS
     obtain ⟨q1j, -⟩ := hF_
     replace q1j : Ep17 132 = .bool x132 := Eq.mp (by kernel_rfl) q1j
     refine p (yl_move q1j) <| x_done <| ?_
     refine x_fin ⟨⟨_, rfl⟩, rfl, ?_⟩
     exact Eq.mp (by kernel_rfl) hS
    ·intro Ep17 w l' hE17 hO17 hF_ hS
     obtain ⟨q6, -⟩ := hF_
     replace q6 : Ep17 133 = .bool x132 := Eq.mp (by kernel_rfl) q6
     replace hS : St w0 w (cells b21 79 [.bool q2.2.1.fneg, .slice q3 q2.2.1.fmag.length c_y1_ret_1_14_2] :: l') := Eq.mp (by kernel_rfl) hS
     refine pg (v := .agg #[.bool q2.2.1.fneg, .slice q3 q2.2.1.fmag.length c_y1_ret_1_14_2]) 133 (c := x132) (by rw [show _ = _ from q6]; exact (says_t _)) (fun hq => ld_sub agg_79 (hE17 21 rfl) rfl rfl hS) <| x_done <| ?_
     refine x_fin ⟨⟨_, rfl⟩, rfl, ?_⟩
     exact Eq.mp (by kernel_rfl) hS
    ·intro Ep17 w l' hE17 hO17 hF_ hS
     obtain ⟨q6, -⟩ := hF_
     replace q6 : Ep17 133 = .bool x132 := Eq.mp (by kernel_rfl) q6
     replace hS : St w0 w (cells b6 79 [.bool q0b.1.fneg, .slice q4 q0b.1.fmag.length c_y0_ret_1_3_3] :: l') := Eq.mp (by kernel_rfl) hS
     refine pg (v := .agg #[.bool q0b.1.fneg, .slice q4 q0b.1.fmag.length c_y0_ret_1_3_3]) 133 (c := x132) (by rw [show _ = _ from q6]; exact (says_t _)) (fun hq => ld_sub agg_79 (hE17 6 rfl) rfl rfl hS) <| x_done <| ?_
     refine x_fin ⟨⟨_, rfl⟩, rfl, ?_⟩
     exact Eq.mp (by kernel_rfl) hS
    ·intro Ep17 w l' hE17 hO17 hF_ hS
     obtain ⟨q6, q1k, -⟩ := hF_
     replace q6 : Ep17 133 = .bool x132 := Eq.mp (by kernel_rfl) q6
     replace q1k : Ep17 135 = (bif x132 then .agg #[.bool q0b.1.fneg, .slice q4 q0b.1.fmag.length c_y0_ret_1_3_3] else undef) := Eq.mp (by kernel_rfl) q1k
     replace hS : St w0 w (ro q0m :: l') := Eq.mp (by kernel_rfl) hS
     refine pccx (Γ := Option Addr × Nat × Nat) (fun q7 => .agg #[.bool q0s.fneg, .slice q7.1 q7.2.1 q7.2.2]) (fun q7 => RdS (RpI .u32) q0m q7.1 q7.2.1 q7.2.2 q0s.fmag) (fun v_ => ((adOf (partOf 1 v_)), (lenOf (partOf 1 v_)), (capOf (partOf 1 v_)))) (fun _ => rfl) 133 (c := x132) (by rw [show _ = _ from q6]; exact (says_t _)) call_56 (fun hq => (args1 (Eq.trans q1k (cv hq)))) hS (fun hq => Calls.mono (c_exact_Abs (gd_t q2x hq) (q0a.le (((((((((q0f.trans q0g).trans q0k).trans q0h).trans q0l).trans q0n).trans q0o).trans q1u).trans q16).trans q1g)) hS) (fun e w'' h => by
       obtain ⟨a1, a2, a3, he, hf_, hS_⟩ := h
       exact ⟨(a1, a2, a3), he, hf_, hS_⟩)) (fun q7 w' q2z q29 hS => ?_)
     obtain ⟨q2d, q2e, c_y0_ret_1_17_16⟩ := q7
     refine x_done <| ?_
     refine x_fin ⟨⟨_, rfl⟩, ⟨(congrArg (fun (q7 : Option Addr × Nat × Nat) => (bif x132 then ((fun q7 => .agg #[.bool q0s.fneg, .slice q7.1 q7.2.1 q7.2.2] : Option Addr × Nat × Nat → Value) q7) else undef)) q29), (fun hq => Eq.mp (congrArg (fun q7 => RdS (RpI .u32) q0m q7.1 q7.2.1 q7.2.2 q0s.fmag : Option Addr × Nat × Nat → Prop) q29) (q2z hq))⟩, ?_⟩
     exact Eq.mp (by kernel_rfl) hS
    ·intro Ep17 w l' hE17 hO17 hF_ hS
     obtain ⟨q6, q1l, q14, -⟩ := hF_
     replace q6 : Ep17 133 = .bool x132 := Eq.mp (by kernel_rfl) q6
     replace q1l : Ep17 134 = (bif x132 then .agg #[.bool q2.2.1.fneg, .slice q3 q2.2.1.fmag.length c_y1_ret_1_14_2] else undef) := Eq.mp (by kernel_rfl) q1l
     replace q14 : Ep17 136 = (bif x132 then .agg #[.bool q0s.fneg, .slice (adOf (partOf 1 (Ep17 136))) (lenOf (partOf 1 (Ep17 136))) (capOf (partOf 1 (Ep17 136)))] else undef) ∧ (x132 = true → RdS (RpI .u32) q0m (adOf (partOf 1 (Ep17 136))) (lenOf (partOf 1 (Ep17 136))) (capOf (partOf 1 (Ep17 136))) q0s.fmag) := Eq.mp (by kernel_rfl) q14
     have q_ := id q14; obtain ⟨-, q2a⟩ := q_
     replace hS : St w0 w (ro q0m :: l') := Eq.mp (by kernel_rfl) hS
     refine pccg (v := .int .i64 q13) 133 (c := x132) (by rw [show _ = _ from q6]; exact (says_t _)) call_41 (fun hq => (args2 (Eq.trans q1l (cv hq)) (Eq.trans q14.1 (cv hq)))) hS (fun hq => by
       have hcall := c_exact_Cmp (gd_t q2y hq) (q0p.le (q16.trans q1g)) (q2a hq) hS
       exact hcall) (fun w' hS => ?_)
     refine x_done <| ?_
     refine x_fin ⟨⟨_, rfl⟩, rfl, ?_⟩
     exact Eq.mp (by kernel_rfl) hS
    ·intro Ep17 w l' hE17 hO17 hF_ hS
     obtain ⟨q6, q1m, -⟩ := hF_
     replace q6 : Ep17 133 = .bool x132 := Eq.mp (by kernel_rfl) q6
     replace q1m : Ep17 137 = (bif x132 then .int .i64 q13 else undef) := Eq.mp (by kernel_rfl) q1m
     refine pg (v := .bool (decide (q13 < 0))) 133 (c := x132) (by rw [show _ = _ from q6]; exact (says_t _)) (fun hq => Yl.at (yl_lss (Eq.trans q1m (cv hq)) rfl)) <| x_done <| ?_
     refine x_fin ⟨⟨_, rfl⟩, rfl, ?_⟩
     exact Eq.mp (by kernel_rfl) hS
    ·intro Ep17 w l' hE17 hO17 hF_ hS
     obtain ⟨q6, q1n, -⟩ := hF_
     replace q6 : Ep17 133 = .bool x132 := Eq.mp (by kernel_rfl) q6
     replace q1n : Ep17 138 = (bif x132 then .bool (decide (q13 < 0)) else undef) := Eq.mp (by kernel_rfl) q1n
     refine p (yand' q6 (fun hc => (Eq.trans q1n (cv hc))) rfl hx139) <| x_done <| ?_
     refine x_fin ⟨⟨_, rfl⟩, rfl, ?_⟩
     exact Eq.mp (by kernel_rfl) hS
    ·intro Ep17 w l' hE17 hO17 hF_ hS
     obtain ⟨q1o, -⟩ := hF_
     replace q1o : Ep17 139 = .bool x139 := Eq.mp (by kernel_rfl) q1o
     refine p (yl_assign q1o) <| x_done <| ?_
     refine x_fin ⟨⟨_, rfl⟩, rfl, ?_⟩
     exact Eq.mp (by kernel_rfl) hS
   intro Ep17 w' hE17 hF_ hS
   obtain ⟨q1w, q1x, q9, q1y, q1z, q20, q21, q22, q0e, q23, q1h, q1i, q1j, q6, q1l, q1k, q14, q1m, q1n, q1o, q28, -⟩ := hF_
   replace q1w : Ep17 120 = .int .i64 q2.2.2 := Eq.mp (by kernel_rfl) q1w
   replace q1x : Ep17 121 = .bool (decide (q2.2.2 = 0)) := Eq.mp (by kernel_rfl) q1x
   replace q9 : Ep17 122 = .bool (decide (q2.2.2 = 0)) := Eq.mp (by kernel_rfl) q9
   replace q1y : Ep17 123 = (bif decide (q2.2.2 = 0) then .agg #[.bool q0i.1.fneg, .slice q8 q0i.1.fmag.length c_y0_ret_1_16_2] else undef) := Eq.mp (by kernel_rfl) q1y
   replace q1z : Ep17 124 = (bif decide (q2.2.2 = 0) then .agg #[.bool q0c.1.fneg, .slice q5 q0c.1.fmag.length c_y0_ret_1_3_1] else undef) := Eq.mp (by kernel_rfl) q1z
   replace q20 : Ep17 125 = (bif decide (q2.2.2 = 0) then .int .i64 q1a else undef) := Eq.mp (by kernel_rfl) q20
   replace q21 : Ep17 126 = (bif decide (q2.2.2 = 0) then .bool (decide (q1a = 0)) else undef) := Eq.mp (by kernel_rfl) q21
   replace q22 : Ep17 127 = .bool x127 := Eq.mp (by kernel_rfl) q22
   replace q0e : Ep17 128 = .bool x127 := Eq.mp (by kernel_rfl) q0e
   replace q23 : Ep17 129 = (bif x127 then .agg #[.bool q2.2.1.fneg, .slice q3 q2.2.1.fmag.length c_y1_ret_1_14_2] else undef) := Eq.mp (by kernel_rfl) q23
   replace q1h : Ep17 130 = (bif x127 then .int .i64 q12 else undef) := Eq.mp (by kernel_rfl) q1h
   replace q1i : Ep17 131 = (bif x127 then .bool (decide (0 ≤ q12)) else undef) := Eq.mp (by kernel_rfl) q1i
   replace q1j : Ep17 132 = .bool x132 := Eq.mp (by kernel_rfl) q1j
   replace q6 : Ep17 133 = .bool x132 := Eq.mp (by kernel_rfl) q6
   replace q1l : Ep17 134 = (bif x132 then .agg #[.bool q2.2.1.fneg, .slice q3 q2.2.1.fmag.length c_y1_ret_1_14_2] else undef) := Eq.mp (by kernel_rfl) q1l
   replace q1k : Ep17 135 = (bif x132 then .agg #[.bool q0b.1.fneg, .slice q4 q0b.1.fmag.length c_y0_ret_1_3_3] else undef) := Eq.mp (by kernel_rfl) q1k
   replace q14 : Ep17 136 = (bif x132 then .agg #[.bool q0s.fneg, .slice (adOf (partOf 1 (Ep17 136))) (lenOf (partOf 1 (Ep17 136))) (capOf (partOf 1 (Ep17 136)))] else undef) ∧ (x132 = true → RdS (RpI .u32) q0m (adOf (partOf 1 (Ep17 136))) (lenOf (partOf 1 (Ep17 136))) (capOf (partOf 1 (Ep17 136))) q0s.fmag) := Eq.mp (by kernel_rfl) q14
   have q_ := id q14; obtain ⟨-, q2a⟩ := q_
   replace q1m : Ep17 137 = (bif x132 then .int .i64 q13 else undef) := Eq.mp (by kernel_rfl) q1m
   replace q1n : Ep17 138 = (bif x132 then .bool (decide (q13 < 0)) else undef) := Eq.mp (by kernel_rfl) q1n
   replace q1o : Ep17 139 = .bool x139 := Eq.mp (by kernel_rfl) q1o
   replace q28 : Ep17 2 = .bool x139 := Eq.mp (by kernel_rfl) q28
   replace hS : St w0 w' (cells b24 79 [.bool q0i.1.fneg, .slice q8 q0i.1.fmag.length c_y0_ret_1_16_2] :: cells b5 79 [.bool q0c.1.fneg, .slice q5 q0c.1.fmag.length c_y0_ret_1_3_1] :: ro q0m :: cells b21 79 [.bool q2.2.1.fneg, .slice q3 q2.2.1.fmag.length c_y1_ret_1_14_2] :: cells b6 79 [.bool q0b.1.fneg, .slice q4 q0b.1.fmag.length c_y0_ret_1_3_3] :: (cells b22 79 [.bool q1v.1.fneg, .slice q0v q1v.1.fmag.length c_y0_ret_1_15_2] :: cells b20 79 [.bool q2.1.fneg, .slice q0u q2.1.fmag.length c_y0_ret_1_14_2] :: cells b18 79 [.bool q1s.1.fneg, .slice q11 q1s.1.fmag.length c_y0_ret_1_9_2] :: cells b16 79 [.bool q1r.1.fneg, .slice q10 q1r.1.fmag.length c_y0_ret_1_8_2] :: cells b14 79 [.bool q26.1.fneg, .slice q0z q26.1.fmag.length c_y0_ret_1_7_2] :: cells b12 79 [.bool q25.1.fneg, .slice q0y q25.1.fmag.length c_y0_ret_1_6_2] :: cells b10 79 [.bool q15.1.fneg, .slice q0j q15.1.fmag.length c_y0_ret_1_5_2] :: cells b8 79 [.bool q24.1.fneg, .slice q0x q24.1.fmag.length c_y0_ret_1_4_2] :: cells b7 79 [.bool q1p.1.fneg, .slice q0q q1p.1.fmag.length c_y0_ret_1_3_5] :: cells b28 25 [.slice q1t l_0.length c_l_0, .int .i64 q1p.2] :: cells b3 23 [.pointer (some ⟨b28, 0, none⟩)] :: l)) := Eq.mp (by kernel_rfl) hS
   have e_ := Option.some.inj (show some _ = some _ from hF); subst e_
   exact x_return ⟨_, ⟨_, _, rfl, q28, rfl⟩, rfl, (ro_back0 (((((((((((q1q.trans q0t).trans q0f).trans q0g).trans q0k).trans q0h).trans q0l).trans q0n).trans q0o).trans q1u).trans q16).trans q1g) ((((((((((((((hS.drop.drop.pull 1).drop.pull 1).drop.pull 1).drop.pull 1).drop.pull 1).drop.pull 1).drop.pull 1).drop.pull 1).drop.pull 1).drop.pull 1).drop.pull 1).drop.pull 1).drop.pull 1).drop))⟩
attribute [irreducible] P_maskkeep4_ExactLong


end Go.Proofs.Ytkenpbnpemjbhaa.X
