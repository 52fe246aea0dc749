/- Printed by gen.py: plain functions, and that the Go code computes them. -/
import Derived.Test.YtkenpbnpemjbhaaXI
import Derived.Test.YtkenpbnpemjbhaaYW
import Derived.Test.YtkenpbnpemjbhaaXT
import Derived.Test.YtkenpbnpemjbhaaGAp0
import Derived.Test.YtkenpbnpemjbhaaGAp1
namespace Go.Proofs.Ytkenpbnpemjbhaa.X
open Go Go.RowKit
set_option linter.unusedVariables false
set_option linter.unusedSimpArgs false

def P_exact_digits_B (rc_ : Int → Option ByteArray) : Int → Option ByteArray := fun n0 =>
 if n0 < 10 then
  lv (((48 : Int) + n0) % 4294967296) fun x6 =>
  lv (x6 % 256) fun x7 =>
  lv (strOf ([x7] : List Int)) fun x9 =>
  some x9
 else
  ck ((10 : Int) ≠ 0) <|
  lv ((Int.tdiv n0 10) % 4294967296) fun x11 =>
  bd (rc_ x11) fun q2 =>
  ck ((10 : Int) ≠ 0) <|
  lv (Int.tmod n0 10) fun x14 =>
  lv (((48 : Int) + x14) % 4294967296) fun x15 =>
  lv (x15 % 256) fun x16 =>
  lv (strOf ([x16] : List Int)) fun x18 =>
  ck (q2.size + x18.size ≤ 140737488355328) <|
  some (q2 ++ x18)
def P_exact_digits (n0 : Int) : Option ByteArray := rcf P_exact_digits_B fuel n0
set_option maxHeartbeats 4000000 in
set_option maxRecDepth 100000 in
theorem c_exact_digits_s (rc_ : Int → Option ByteArray) (ih : ∀ {w0 w : World} {l : List Assn} {ρ : Heap} {n0 : Int} {r : ByteArray} (hF : rc_ n0 = some r) (hS : St w0 w (ro ρ :: l)),
  Calls Try.prog 100 #[.int .u32 n0] w fun e w' => e = .returned (.string r) ∧ St w0 w' (ro ρ :: l)) {w0 w : World} {l : List Assn} {ρ : Heap} {n0 : Int} {r : ByteArray} (hF : P_exact_digits_B rc_ n0 = some r) (hS : St w0 w (ro ρ :: l)) :
  Calls Try.prog 100 #[.int .u32 n0] w fun e w' => e = .returned (.string r) ∧ St w0 w' (ro ρ :: l) := by
 unfold P_exact_digits_B at hF; try dsimp only at hF
 refine enterC Try.func100 rfl 20 rfl (by simp) ?_
 refine x_seq <| x_region <| p (yl_assign rfl) <| x_done <|
  x_seq <| x_seq <| x_region <| p (yl_move rfl) <|
  p (yl_lss rfl rfl) <| x_done <|
  x_cond_p (n0 < 10) rfl (fun hc4 => ?_) (fun hc4 => ?_)
 ·replace hF := it_t hc4 hF
  replace hF := lv_s hF; obtain ⟨x6, hx6, hF⟩ := hF
  replace hF := lv_s hF; obtain ⟨x7, hx7, hF⟩ := hF
  refine x_seq <| x_region <| p (yl_move rfl) <| p (yaddu wm_u32 rfl rfl hx6) <|
   p (yconvu wm_u8 uk_159 ik_5 rfl hx7) <| ?_
  refine o_buildSlice (vs := [.int .u8 x7]) (cs := [.int .u8 x7]) sl_165 zero_5 (parts_eq (pt (va := .int .u8 x7) rfl pt0)) rfl (by intro v hv; simp only [List.mem_cons, List.not_mem_nil, or_false] at hv; first | (subst hv; rfl) | (rcases hv with rfl <;> rfl)) (by decide) rfl hS (fun b8 w' hS => ?_)
  have q0f : RepL (RpI .u8) ρ ([x7] : List Int) [.int .u8 x7] := (RepL.cons (cs := [.int .u8 x7]) rfl RepL.nil)
  replace hS := St.vec_of (n := 1) (sz := (RpI .u8).sz) hS rfl (by decide)
  replace hF := lv_s hF; obtain ⟨x9, hx9, hF⟩ := hF
  refine pa (at_str usl_165 ui_5 us_9 rfl (St.vec_n hS q0f) (str_o hS q0f) hx9) <| p (yl_assign rfl) <| x_done <| ?_
  have e_ := Option.some.inj (show some _ = some _ from hF); subst e_
  exact x_return ⟨_, ⟨_, _, rfl, rfl, rfl⟩, rfl, hS.drop⟩
 ·replace hF := it_f hc4 hF
  refine x_skip <| x_seq <| ?_
  replace hF := ck_s hF; obtain ⟨q0g, hF⟩ := hF
  replace hF := lv_s hF; obtain ⟨x11, hx11, hF⟩ := hF
  replace hF := bd_s hF; obtain ⟨q2, q0h, hF⟩ := hF
  replace hF := ck_s hF; obtain ⟨q0i, hF⟩ := hF
  replace hF := lv_s hF; obtain ⟨x14, hx14, hF⟩ := hF
  replace hF := lv_s hF; obtain ⟨x15, hx15, hF⟩ := hF
  replace hF := lv_s hF; obtain ⟨x16, hx16, hF⟩ := hF
  replace hF := lv_s hF; obtain ⟨x18, hx18, hF⟩ := hF
  replace hF := ck_s hF; obtain ⟨q0j, hF⟩ := hF
  refine x_par (w0 := w0) [⟨[], [], [10], [], [], []⟩, ⟨[0], [0], [11], [], [], []⟩, ⟨[0, 1], [1], [12], [0], [], []⟩, ⟨[], [], [13], [], [], []⟩, ⟨[3], [3], [14], [], [], []⟩, ⟨[3, 4], [4], [15], [], [], []⟩, ⟨[3, 4, 5], [5], [16], [], [], []⟩, ⟨[3, 4, 5, 6], [6], [17], [], [], [1]⟩, ⟨[3, 4, 5, 6, 7], [7], [18], [], [1], [2]⟩, ⟨[0, 1, 2, 3, 4, 5, 6, 7, 8], [2, 8], [19], [], [], []⟩, ⟨[0, 1, 2, 3, 4, 5, 6, 7, 8, 9], [9], [2], [], [], []⟩] [⟨none, none, []⟩, ⟨(some 7), (some 8), [17]⟩, ⟨(some 8), none, [17]⟩] [2, 10, 11, 12, 13, 14, 15, 16, 17, 18, 19] [0] [0, 2] [0, 1, 2, 3, 4, 5, 6, 7, 8, 9, 10] [fun Ep3 => Ep3 10 = .int .u32 n0, fun Ep3 => Ep3 11 = .int .u32 x11, fun Ep3 => Ep3 12 = .string q2, fun Ep3 => Ep3 13 = .int .u32 n0, fun Ep3 => Ep3 14 = .int .u32 x14, fun Ep3 => Ep3 15 = .int .u32 x15, fun Ep3 => Ep3 16 = .int .u8 x16, fun Ep3 => Ep3 17 = .slice (some ⟨(blkOf (Ep3 17)), 0, none⟩) 1 1, fun Ep3 => Ep3 18 = .string x18, fun Ep3 => Ep3 19 = .string (q2 ++ x18), fun Ep3 => Ep3 2 = .string (q2 ++ x18)] [fun Ep3 => ro ρ, fun Ep3 => cells (blkOf (Ep3 17)) 5 [.int .u8 x16], fun Ep3 => bunA (fun (x : Unit) => RepL (RpI .u8) ρ ([x16] : List Int) [.int .u8 x16]) (fun (x : Unit) => [vec 5 (RpI .u8).sz (.slice (some ⟨(blkOf (Ep3 17)), 0, none⟩) 1 1) 1 [.int .u8 x16]])] mixed (by kernel_rfl) hS ?_ ?_
  ·refine ⟨?_, ?_, ?_, ?_, ?_, ?_, ?_, ?_, ?_, ?_, ?_, trivial⟩
   ·intro Ep3 w l' hE3 hO3 hF_ hS
    refine p (yl_move (hE3 0 rfl)) <| x_done <| ?_
    refine x_fin ⟨⟨_, rfl⟩, rfl, ?_⟩
    exact Eq.mp (by kernel_rfl) hS
   ·intro Ep3 w l' hE3 hO3 hF_ hS
    obtain ⟨q3, -⟩ := hF_
    replace q3 : Ep3 10 = .int .u32 n0 := Eq.mp (by kernel_rfl) q3
    refine p (yquou wm_u32 q3 rfl q0g hx11) <| x_done <| ?_
    refine x_fin ⟨⟨_, rfl⟩, rfl, ?_⟩
    exact Eq.mp (by kernel_rfl) hS
   ·intro Ep3 w l' hE3 hO3 hF_ hS
    obtain ⟨q4, -⟩ := hF_
    replace q4 : Ep3 11 = .int .u32 x11 := Eq.mp (by kernel_rfl) q4
    replace hS : St w0 w (ro ρ :: l') := Eq.mp (by kernel_rfl) hS
    have hcall := ih q0h  hS
    refine o_cc call_100 (args1 q4) (hcall) ?_
    rintro e w' ⟨rfl, hS⟩
    refine ⟨_, rfl, ?_⟩
    refine x_done <| ?_
    refine x_fin ⟨⟨_, rfl⟩, rfl, ?_⟩
    exact Eq.mp (by kernel_rfl) hS
   ·intro Ep3 w l' hE3 hO3 hF_ hS
    refine p (yl_move (hE3 0 rfl)) <| x_done <| ?_
    refine x_fin ⟨⟨_, rfl⟩, rfl, ?_⟩
    exact Eq.mp (by kernel_rfl) hS
   ·intro Ep3 w l' hE3 hO3 hF_ hS
    obtain ⟨q5, -⟩ := hF_
    replace q5 : Ep3 13 = .int .u32 n0 := Eq.mp (by kernel_rfl) q5
    refine p (yrem q5 rfl q0i hx14) <| x_done <| ?_
    refine x_fin ⟨⟨_, rfl⟩, rfl, ?_⟩
    exact Eq.mp (by kernel_rfl) hS
   ·intro Ep3 w l' hE3 hO3 hF_ hS
    obtain ⟨q6, -⟩ := hF_
    replace q6 : Ep3 14 = .int .u32 x14 := Eq.mp (by kernel_rfl) q6
    refine p (yaddu wm_u32 rfl q6 hx15) <| x_done <| ?_
    refine x_fin ⟨⟨_, rfl⟩, rfl, ?_⟩
    exact Eq.mp (by kernel_rfl) hS
   ·intro Ep3 w l' hE3 hO3 hF_ hS
    obtain ⟨q7, -⟩ := hF_
    replace q7 : Ep3 15 = .int .u32 x15 := Eq.mp (by kernel_rfl) q7
    refine p (yconvu wm_u8 uk_159 ik_5 q7 hx16) <| x_done <| ?_
    refine x_fin ⟨⟨_, rfl⟩, rfl, ?_⟩
    exact Eq.mp (by kernel_rfl) hS
   ·intro Ep3 w l' hE3 hO3 hF_ hS
    obtain ⟨q8, -⟩ := hF_
    replace q8 : Ep3 16 = .int .u8 x16 := Eq.mp (by kernel_rfl) q8
    refine o_buildSlice (vs := [.int .u8 x16]) (cs := [.int .u8 x16]) sl_165 zero_5 (parts_eq (pt (va := .int .u8 x16) q8 pt0)) rfl (by intro v hv; simp only [List.mem_cons, List.not_mem_nil, or_false] at hv; first | (subst hv; rfl) | (rcases hv with rfl <;> rfl)) (by decide) rfl hS (fun b17 w' hS => ?_)
    refine x_done <| ?_
    refine x_fin ⟨⟨_, rfl⟩, rfl, ?_⟩
    exact Eq.mp (by kernel_rfl) hS
   ·intro Ep3 w l' hE3 hO3 hF_ hS
    obtain ⟨q9, -⟩ := hF_
    replace q9 : Ep3 17 = .slice (some ⟨(blkOf (Ep3 17)), 0, none⟩) 1 1 := Eq.mp (by kernel_rfl) q9
    replace hS : St w0 w (cells (blkOf (Ep3 17)) 5 [.int .u8 x16] :: l') := Eq.mp (by kernel_rfl) hS
    have q0d : RepL (RpI .u8) ρ ([x16] : List Int) [.int .u8 x16] := (RepL.cons (cs := [.int .u8 x16]) rfl RepL.nil)
    replace hS := St.vec_of (n := 1) (sz := (RpI .u8).sz) hS rfl (by decide)
    refine pa (at_str usl_165 ui_5 us_9 q9 (St.vec_n hS q0d) (str_o hS q0d) hx18) <| x_done <| ?_
    refine x_fin ⟨⟨_, rfl⟩, rfl, ?_⟩
    replace hS := St.bun (Φ := (fun (x : Unit) => RepL (RpI .u8) ρ ([x16] : List Int) [.int .u8 x16])) (L := (fun (x : Unit) => [vec 5 (RpI .u8).sz (.slice (some ⟨(blkOf (Ep3 17)), 0, none⟩) 1 1) 1 [.int .u8 x16]])) () q0d hS
    exact Eq.mp (by kernel_rfl) hS
   ·intro Ep3 w l' hE3 hO3 hF_ hS
    obtain ⟨q0a, q0b, -⟩ := hF_
    replace q0a : Ep3 12 = .string q2 := Eq.mp (by kernel_rfl) q0a
    replace q0b : Ep3 18 = .string x18 := Eq.mp (by kernel_rfl) q0b
    refine p (yadds q0a q0b q0j) <| x_done <| ?_
    refine x_fin ⟨⟨_, rfl⟩, rfl, ?_⟩
    exact Eq.mp (by kernel_rfl) hS
   ·intro Ep3 w l' hE3 hO3 hF_ hS
    obtain ⟨q0c, -⟩ := hF_
    replace q0c : Ep3 19 = .string (q2 ++ x18) := Eq.mp (by kernel_rfl) q0c
    refine p (yl_assign q0c) <| x_done <| ?_
    refine x_fin ⟨⟨_, rfl⟩, rfl, ?_⟩
    exact Eq.mp (by kernel_rfl) hS
  intro Ep3 w' hE3 hF_ hS
  obtain ⟨q3, q4, q0a, q5, q6, q7, q8, q9, q0b, q0c, q0e, -⟩ := hF_
  replace q3 : Ep3 10 = .int .u32 n0 := Eq.mp (by kernel_rfl) q3
  replace q4 : Ep3 11 = .int .u32 x11 := Eq.mp (by kernel_rfl) q4
  replace q0a : Ep3 12 = .string q2 := Eq.mp (by kernel_rfl) q0a
  replace q5 : Ep3 13 = .int .u32 n0 := Eq.mp (by kernel_rfl) q5
  replace q6 : Ep3 14 = .int .u32 x14 := Eq.mp (by kernel_rfl) q6
  replace q7 : Ep3 15 = .int .u32 x15 := Eq.mp (by kernel_rfl) q7
  replace q8 : Ep3 16 = .int .u8 x16 := Eq.mp (by kernel_rfl) q8
  replace q9 : Ep3 17 = .slice (some ⟨(blkOf (Ep3 17)), 0, none⟩) 1 1 := Eq.mp (by kernel_rfl) q9
  replace q0b : Ep3 18 = .string x18 := Eq.mp (by kernel_rfl) q0b
  replace q0c : Ep3 19 = .string (q2 ++ x18) := Eq.mp (by kernel_rfl) q0c
  replace q0e : Ep3 2 = .string (q2 ++ x18) := Eq.mp (by kernel_rfl) q0e
  replace hS : St w0 w' (ro ρ :: bunA (fun (x : Unit) => RepL (RpI .u8) ρ ([x16] : List Int) [.int .u8 x16]) (fun (x : Unit) => [vec 5 (RpI .u8).sz (.slice (some ⟨(blkOf (Ep3 17)), 0, none⟩) 1 1) 1 [.int .u8 x16]]) :: (l)) := Eq.mp (by kernel_rfl) hS
  have q_ := St.unbun (hS.pull 1); obtain ⟨⟨⟩, q0d, hS⟩ := q_
  have e_ := Option.some.inj (show some _ = some _ from hF); subst e_
  exact x_return ⟨_, ⟨_, _, rfl, q0e, rfl⟩, rfl, hS.drop⟩
theorem c_exact_digits_n : ∀ (n : Nat), ∀ {w0 w : World} {l : List Assn} {ρ : Heap} {n0 : Int} {r : ByteArray} (hF : rcf P_exact_digits_B n n0 = some r) (hS : St w0 w (ro ρ :: l)),
  Calls Try.prog 100 #[.int .u32 n0] w fun e w' => e = .returned (.string r) ∧ St w0 w' (ro ρ :: l)
 | 0 => by intros; rename_i hF _; cases (show none = some _ from by first | exact hF | assumption)
 | n + 1 => c_exact_digits_s (rcf P_exact_digits_B n) (c_exact_digits_n n)
theorem c_exact_digits {w0 w : World} {l : List Assn} {ρ : Heap} {n0 : Int} {r : ByteArray} (hF : P_exact_digits n0 = some r) (hS : St w0 w (ro ρ :: l)) :
  Calls Try.prog 100 #[.int .u32 n0] w fun e w' => e = .returned (.string r) ∧ St w0 w' (ro ρ :: l) := c_exact_digits_n fuel hF hS
attribute [irreducible] P_exact_digits

def P_exact_Text_L5 : (List Int × List Int) → Option ((List Int × List Int) ⊕ List Int) := fun (q2, q3) =>
 if 0 < (q3.length : Int) then
  bd (P_exact_divSmall q3 1000000000) fun q4 =>
  lv (q2 ++ [q4.2]) fun q5 =>
  ck (apOk 4 q5.length) <|
  bd (P_exact_made false q4.1) fun q6 =>
  some (Sum.inl (q5, q6.fmag))
 else
  some (Sum.inr q2)
def P_exact_Text_L12 (q3 : List Int) : (ByteArray × Int) → Option ((ByteArray × Int) ⊕ ByteArray) := fun (q4, q2) =>
 if 0 ≤ q2 then
  ck (inb q2 q3.length) <|
  lv (gt q3 q2) fun x43 =>
  bd (P_exact_digits x43) fun q5 =>
  ar ((q3.length : Int) - 1) fun x48 =>
  bd (
   if q2 < x48 then
    ar ((9 : Int) - (q5.size : Int)) fun x52 =>
    ck (0 ≤ (0 : Int) ∧ (0 : Int) ≤ x52 ∧ x52 ≤ ks_4c930086.size) <|
    lv (subS ks_4c930086 0 x52) fun x53 =>
    ck (q4.size + x53.size ≤ 140737488355328) <|
    lv (q4 ++ x53) fun q7 =>
    some q7
   else
    some q4) fun q6 =>
  ck (q6.size + q5.size ≤ 140737488355328) <|
  lv (q6 ++ q5) fun q8 =>
  ar (q2 - 1) fun x39 =>
  some (Sum.inl (q8, x39))
 else
  some (Sum.inr q4)
def P_exact_Text (a0 : T_exact_Int) : Option ByteArray :=
 bd (P_exact_Sign a0) fun q6 =>
 if q6 = 0 then
  some (⟨#[48]⟩ : ByteArray)
 else
  bd (
   lp P_exact_Text_L5 fuel ([], a0.fmag)) fun q2 =>
  bd (
   if a0.fneg = true then
    ck (0 ≤ (45 : Int) ∧ (45 : Int) < 256) <|
    ck ((⟨#[]⟩ : ByteArray).size + 1 ≤ 140737488355328) <|
    lv ((⟨#[]⟩ : ByteArray) ++ strOf [45]) fun q5 =>
    some q5
   else
    some (⟨#[]⟩ : ByteArray)) fun q4 =>
  ar ((q2.length : Int) - 1) fun x35 =>
  bd (
   lp (P_exact_Text_L12 q2) fuel (q4, x35)) fun q3 =>
  ck (0 < q3.size) <|
  some q3
set_option maxHeartbeats 4000000 in
set_option maxRecDepth 100000 in
theorem c_exact_Text {w0 w : World} {l : List Assn} {ρ : Heap} {q0b : Option Addr} {q0z : Nat} {c_a0_1 : Nat} {a0 : T_exact_Int} {r : ByteArray} (hF : P_exact_Text a0 = some r) (q0t : RdS (RpI .u32) ρ q0b q0z c_a0_1 a0.fmag) (hS : St w0 w (ro ρ :: l)) :
  Calls Try.prog 54 #[.agg #[.bool a0.fneg, .slice q0b q0z c_a0_1]] w fun e w' => e = .returned (.string r) ∧ St w0 w' (ro ρ :: l) := by
 have e_ := q0t.n; subst e_
 refine enterC Try.func54 rfl 58 rfl (by simp) ?_
 refine x_seq <| x_region <| ?_
 refine o_box (cs := [.bool a0.fneg, .slice q0b a0.fmag.length c_a0_1]) rfl rfl hS (fun b1 w' hS => ?_)
 replace hF := bd_s hF; obtain ⟨q23, q1s, hF⟩ := hF
 refine p (yl_assign rfl) <| x_done <| x_seq <| x_seq <|
  x_region <| pa (v := .agg #[.bool a0.fneg, .slice q0b a0.fmag.length c_a0_1]) (ld_sub agg_79 rfl rfl rfl hS) <| ?_
 have hcall := c_exact_Sign q1s q0t (hS.pull 1)
 refine o_cc call_44 (args1 rfl) ((Calls.mono hcall (fun e w'' h => And.intro h.1 (h.2.pull 1)))) ?_
 rintro e w' ⟨rfl, hS⟩
 refine ⟨_, rfl, ?_⟩
 refine p (yl_eql rfl rfl) <| x_done <|
  x_cond_p (q23 = 0) rfl (fun hc12 => ?_) (fun hc12 => ?_)
 ·replace hF := it_t hc12 hF
  refine x_seq <| x_region <| p (yl_assign rfl) <| x_done <| ?_
  have e_ := Option.some.inj (show some _ = some _ from hF); subst e_
  exact x_return ⟨_, ⟨_, _, rfl, rfl, rfl⟩, rfl, hS.drop⟩
 ·replace hF := it_f hc12 hF
  refine x_skip <| x_seq <| x_region <| p (yl_assign rfl) <|
   x_done <| x_seq <| x_seq <| x_region <|
   p (yl_field0 fld_79_1 rfl) <| pa (at_load one_77 rfl (hS.cell rfl)) <| p (yl_assign rfl) <| x_done <| ?_
  replace hF := bd_s hF; obtain ⟨oL5, hLL5, hF⟩ := hF
  refine x_join (fun E w => ∃ (q3 : Option Addr) (q9 : Nat) (c_parts3_L5 : Nat) (q4 : List Value) (q2 : List Int), q2 = oL5 ∧ E 1 = .pointer (some ⟨b1, 0, none⟩) ∧ E 3 = .slice q3 q9 c_parts3_L5 ∧ RepL (RpI .u32) ρ q2 q4 ∧ St w0 w (cells b1 79 [.bool a0.fneg, .slice q0b a0.fmag.length c_a0_1] :: vec 159 (RpI .u32).sz (.slice q3 q9 c_parts3_L5) q9 q4 :: ro ρ :: l)) ?_ ?_
  ·refine x_block ?_
   replace hS := St.vec_nil hS 159 (RpI .u32).sz
   have q0o : RepL (RpI .u32) ρ [] [] := rfl
   refine x_loop (fun k_ E w => ∃ (q0l : Heap) (q6 : Option Addr) (q7 : Nat) (c_parts3_L5h : Nat) (q5 : List Value) (q0h : Option Addr) (q0i : Nat) (c_mag4_L5h : Nat) (q8 : List Int) (q0j : List Int), lp P_exact_Text_L5 k_ (q8, q0j) = some oL5 ∧ Le ρ q0l ∧ E 1 = .pointer (some ⟨b1, 0, none⟩) ∧ E 3 = .slice q6 q7 c_parts3_L5h ∧ E 4 = .slice q0h q0i c_mag4_L5h ∧ RepL (RpI .u32) q0l q8 q5 ∧ RdS (RpI .u32) q0l q0h q0i c_mag4_L5h q0j ∧ St w0 w (cells b1 79 [.bool a0.fneg, .slice q0b a0.fmag.length c_a0_1] :: vec 159 (RpI .u32).sz (.slice q6 q7 c_parts3_L5h) q7 q5 :: ro q0l :: l)) fuel ⟨ρ, none, 0, 0, [], q0b, a0.fmag.length, c_a0_1, [], a0.fmag, hLL5, (Le.refl _), rfl, rfl, rfl, q0o, q0t, (((hS.pull 2).pull 1).pull 2)⟩ ?_
   rintro kL5 E w ⟨q0l, q6, q7, c_parts3_L5h, q5, q0h, q0i, c_mag4_L5h, q8, q0j, hLL5, q0u, q10, q11, q12, q0c, q0p, hS⟩
   have e_ := St.vec_n (hS.pull 1) q0c; subst e_
   have e_ := q0p.n; subst e_
   replace hLL5 := lp_s hLL5; obtain ⟨kL5, obL5, rfl, hFL5, hLL5⟩ := hLL5
   refine x_seq <| x_seq <| x_region <| p (yl_move q12) <|
    p (yl_len_slice usl_77 rfl) <| p (yl_gtr rfl rfl) <| x_done <|
    x_cond_p (0 < (q0j.length : Int)) rfl (fun hc17 => ?_) (fun hc17 => ?_)
   ·replace hFL5 := it_t hc17 hFL5
    replace hFL5 := bd_s hFL5; obtain ⟨q0v, q1t, hFL5⟩ := hFL5
    refine x_skip <| x_block <| x_seq <| x_region <|
     p (yl_move q12) <| ?_
    have hcall := c_exact_divSmall q1t q0p (hS.pull 2)
    refine o_cc call_98 (args2 rfl rfl) hcall ?_
    rintro e w' ⟨q1a, q1b, c_y0_ret_6_1, q19, rfl, q0k, hS⟩
    refine ⟨_, rfl, ?_⟩
    have e_ := St.vec_n hS q0k; subst e_
    refine p (yl_move rfl) <| p (yl_extract rfl rfl) <| p (yl_extract rfl rfl) <| p (yl_assign rfl) <|
     p (yl_assign rfl) <| x_done <| x_region <| p (yl_move q11) <|
     p (yl_move rfl) <| ?_
    refine o_buildSlice (vs := [.int .u32 q0v.2]) (cs := [.int .u32 q0v.2]) sl_77 zero_159 (parts_eq (pt (va := .int .u32 q0v.2) rfl pt0)) rfl (by intro v hv; simp only [List.mem_cons, List.not_mem_nil, or_false] at hv; first | (subst hv; rfl) | (rcases hv with rfl <;> rfl)) (by decide) rfl hS (fun b25 w' hS => ?_)
    replace hFL5 := lv_s hFL5; obtain ⟨q1c, q1u, hFL5⟩ := hFL5
    replace hFL5 := ck_s hFL5; obtain ⟨q1v, hFL5⟩ := hFL5
    refine o_ap sl_77 zero_159 rfl (by decide) rfl rfl (hS.pull 4) q0c (src_blk usl_77 hS rfl rfl) (RepL.cons (R := (RpI .u32)) (ρ := q0l) (x := q0v.2) (cs := [.int .u32 q0v.2]) rfl RepL.nil) q1u q1v (fun A26 c26 cs26 w' hr26 hS => ?_)
    refine p (yl_move rfl) <| ?_
    have q_ := St.vec_fz ((hS.pull 3).pull 3) q0k; obtain ⟨q1w, q0y, q1x, hS⟩ := q_
    replace hFL5 := bd_s hFL5; obtain ⟨q1d, q1y, hFL5⟩ := hFL5
    have hcall := c_exact_made q1y q1x hS
    refine o_cc call_93 (args2 rfl rfl) hcall ?_
    rintro e w' ⟨q0r, q17, c_y0_ret_1_7_5, rfl, q0e, hS⟩
    refine ⟨_, rfl, ?_⟩
    have e_ := q0e.n; subst e_
    refine p (yl_fld1 fld_79_1 one_77 rfl rfl) <| p (yl_assign rfl) <| p (yl_assign rfl) <| x_done <|
     x_blk <| ?_
    have e_ := Option.some.inj (show some _ = some _ from hFL5); subst e_
    exact x_inv ⟨kL5, Nat.lt_succ_self _, q1w, A26, q1c.length, c26, cs26, q0r, q1d.fmag.length, c_y0_ret_1_7_5, q1c, q1d.fmag, hLL5, (q0u.trans q0y), q10, rfl, rfl, (hr26.le q0y), q0e, (((hS.pull 2).drop.pull 1).pull 2)⟩
   ·replace hFL5 := it_f hc17 hFL5
    refine x_exitTo _ rfl <| ?_
    have e_ := Option.some.inj (show some _ = some _ from hFL5); subst e_
    exact x_inv ⟨q6, q8.length, c_parts3_L5h, q5, q8, hLL5, q10, q11, (RepL.flat (fun h => h) q0c), (ro_back2 q0u (((hS.pull 2).pull 2).pull 2))⟩
  rintro E w ⟨q3, q9, c_parts3_L5, q4, q2, rfl, q1z, q16, q0d, hS⟩
  have e_ := St.vec_n (hS.pull 1) q0d; subst e_
  refine x_seq <| x_region <| ?_
  refine o_alloc zero_167 hS (fun b7 w' hS => ?_)
  replace hS := bld_new (e := 5) hS
  refine x_done <| x_seq <| x_seq <| x_region <|
   p (yl_field0 fld_79_0 q1z) <| pa (at_load one_4 rfl ((hS.pull 1).cell rfl)) <| x_done <| ?_
  replace hF := bd_s hF; obtain ⟨oc31, hFc31, hF⟩ := hF
  refine x_join (fun E w => ∃ (q0q : ByteArray), q0q = oc31 ∧ E 3 = .slice q3 q2.length c_parts3_L5 ∧ E 7 = .pointer (some ⟨b7, 0, none⟩) ∧ St w0 w (vec 159 (RpI .u32).sz (.slice q3 q2.length c_parts3_L5) q2.length q4 :: bld 167 5 b7 q0q :: ro ρ :: l)) ?_ ?_
  ·refine x_cond (t := a0.fneg) rfl (fun hc31 => ?_) (fun hc31 => ?_)
   ·replace hFc31 := it_t hc31 hFc31
    refine x_region <| ?_
    replace hFc31 := ck_s hFc31; obtain ⟨q1e, hFc31⟩ := hFc31
    replace hFc31 := ck_s hFc31; obtain ⟨q18, hFc31⟩ := hFc31
    replace hFc31 := lv_s hFc31; obtain ⟨q20, q1f, hFc31⟩ := hFc31
    refine o_cc call_99 (args2 rfl rfl) (bwb q1e hS q18) ?_
    rintro e w' ⟨rfl, hS⟩
    refine ⟨_, rfl, ?_⟩
    rw [← q1f] at hS
    refine x_done <| ?_
    exact x_inv ⟨q20, (Option.some.inj (show some _ = some _ from hFc31)), q16, rfl, ((((hS.pull 1).drop.pull 2).pull 1).pull 2)⟩
   ·replace hFc31 := it_bf hc31 hFc31
    refine x_skip <| ?_
    exact x_inv ⟨(⟨#[]⟩ : ByteArray), (Option.some.inj (show some _ = some _ from hFc31)), q16, rfl, ((((hS.pull 1).drop.pull 2).pull 1).pull 2)⟩
  rintro E w ⟨q0q, rfl, q13, q1g, hS⟩
  replace hF := ar_s hF; obtain ⟨x35, hx35, hF⟩ := hF
  refine x_seq <| x_seq <| x_region <| p (yl_move q13) <|
   p (yl_len_slice usl_77 rfl) <| p (ysub rfl rfl hx35) <| p (yl_assign rfl) <| x_done <| ?_
  replace hF := bd_s hF; obtain ⟨oL12, hLL12, hF⟩ := hF
  refine x_join (fun E w => ∃ (q0w : ByteArray), q0w = oL12 ∧ E 7 = .pointer (some ⟨b7, 0, none⟩) ∧ St w0 w (bld 167 5 b7 q0w :: ro ρ :: l)) ?_ ?_
  ·refine x_block ?_
   refine x_loop (fun k_ E w => ∃ (q0f : ByteArray) (q0a : Int), lp (P_exact_Text_L12 q2) k_ (q0f, q0a) = some oL12 ∧ E 3 = .slice q3 q2.length c_parts3_L5 ∧ E 7 = .pointer (some ⟨b7, 0, none⟩) ∧ E 8 = .int .i64 q0a ∧ St w0 w (vec 159 (RpI .u32).sz (.slice q3 q2.length c_parts3_L5) q2.length q4 :: bld 167 5 b7 q0f :: ro ρ :: l)) fuel ⟨q0q, x35, hLL12, q13, q1g, rfl, (((hS.pull 2).pull 2).pull 2)⟩ ?_
   rintro kL12 E w ⟨q0f, q0a, hLL12, q0m, q0n, q0g, hS⟩
   replace hLL12 := lp_s hLL12; obtain ⟨kL12, obL12, rfl, hFL12, hLL12⟩ := hLL12
   refine x_seq <| x_seq <| x_region <| p (yl_move q0g) <|
    p (yl_geq rfl rfl) <| x_done <|
    x_cond_p (0 ≤ q0a) rfl (fun hc37 => ?_) (fun hc37 => ?_)
   ·replace hFL12 := it_t hc37 hFL12
    replace hFL12 := ck_s hFL12; obtain ⟨q14, hFL12⟩ := hFL12
    replace hFL12 := lv_s hFL12; obtain ⟨x43, hx43, hFL12⟩ := hFL12
    replace hFL12 := bd_s hFL12; obtain ⟨q0s, q1h, hFL12⟩ := hFL12
    refine x_skip <| x_seq <| x_block <| x_seq <|
     x_region <| p (yl_move q0m) <| p (yl_move q0g) <| p (yix_o sl_77 rfl rfl hS q0d q14) <|
     pa (at_load one_159 rfl (RepL.getW q0d hS q14 hx43)) <| ?_
    have hcall := c_exact_digits q1h  (hS.pull 2)
    refine o_cc call_100 (args1 rfl) ((Calls.mono hcall (fun e w'' h => And.intro h.1 ((h.2.pull 2).pull 2)))) ?_
    rintro e w' ⟨rfl, hS⟩
    refine ⟨_, rfl, ?_⟩
    replace hFL12 := ar_s hFL12; obtain ⟨x48, hx48, hFL12⟩ := hFL12
    refine p (v := .string q0s) (yl_assign rfl) <| x_done <| x_seq <| x_seq <|
     x_region <| p (yl_move q0g) <| p (yl_move q0m) <| p (yl_len_slice usl_77 rfl) <|
     p (ysub rfl rfl hx48) <| p (yl_lss rfl rfl) <| x_done <| ?_
    replace hFL12 := bd_s hFL12; obtain ⟨oc49, hFc49, hFL12⟩ := hFL12
    refine x_join (fun E w => ∃ (q0x : ByteArray), q0x = oc49 ∧ E 3 = .slice q3 q2.length c_parts3_L5 ∧ E 7 = .pointer (some ⟨b7, 0, none⟩) ∧ E 8 = .int .i64 q0a ∧ E 9 = .string q0s ∧ St w0 w (vec 159 (RpI .u32).sz (.slice q3 q2.length c_parts3_L5) q2.length q4 :: bld 167 5 b7 q0x :: ro ρ :: l)) ?_ ?_
    ·refine x_cond_p (q0a < x48) rfl (fun hc49 => ?_) (fun hc49 => ?_)
     ·replace hFc49 := it_t hc49 hFc49
      replace hFc49 := ar_s hFc49; obtain ⟨x52, hx52, hFc49⟩ := hFc49
      replace hFc49 := ck_s hFc49; obtain ⟨q1i, hFc49⟩ := hFc49
      replace hFc49 := lv_s hFc49; obtain ⟨x53, hx53, hFc49⟩ := hFc49
      refine x_region <| p (v := .string q0s) (yl_move rfl) <| p (yl_len_string us_9 rfl) <| p (ysub rfl rfl hx52) <|
       p (ysub_sh us_9 rfl rfl q1i hx53) <| ?_
      replace hFc49 := ck_s hFc49; obtain ⟨q1j, hFc49⟩ := hFc49
      replace hFc49 := lv_s hFc49; obtain ⟨q21, q1k, hFc49⟩ := hFc49
      refine o_cc call_101 (args2 q0n rfl) (bws (hS.pull 1) q1j) ?_
      rintro e w' ⟨rfl, hS⟩
      refine ⟨_, rfl, ?_⟩
      rw [← q1k] at hS
      refine x_done <| ?_
      exact x_inv ⟨q21, (Option.some.inj (show some _ = some _ from hFc49)), q0m, q0n, q0g, rfl, (((hS.pull 2).pull 1).pull 2)⟩
     ·replace hFc49 := it_f hc49 hFc49
      refine x_skip <| ?_
      exact x_inv ⟨q0f, (Option.some.inj (show some _ = some _ from hFc49)), q0m, q0n, q0g, rfl, (((hS.pull 2).pull 2).pull 2)⟩
    rintro E w ⟨q0x, rfl, q1l, q15, q1m, q1n, hS⟩
    refine x_region <| p (v := .string q0s) (yl_move q1n) <| ?_
    replace hFL12 := ck_s hFL12; obtain ⟨q1o, hFL12⟩ := hFL12
    replace hFL12 := lv_s hFL12; obtain ⟨q22, q1p, hFL12⟩ := hFL12
    refine o_cc call_101 (args2 q15 rfl) (bws (hS.pull 1) q1o) ?_
    rintro e w' ⟨rfl, hS⟩
    refine ⟨_, rfl, ?_⟩
    rw [← q1p] at hS
    replace hFL12 := ar_s hFL12; obtain ⟨x39, hx39, hFL12⟩ := hFL12
    refine x_done <| x_blk <| x_region <| p (yl_move q1m) <|
     p (ysub rfl rfl hx39) <| p (yl_assign rfl) <| x_done <| ?_
    have e_ := Option.some.inj (show some _ = some _ from hFL12); subst e_
    exact x_inv ⟨kL12, Nat.lt_succ_self _, q22, x39, hLL12, q1l, q15, rfl, (((hS.pull 2).pull 1).pull 2)⟩
   ·replace hFL12 := it_f hc37 hFL12
    refine x_exitTo _ rfl <| ?_
    have e_ := Option.some.inj (show some _ = some _ from hFL12); subst e_
    exact x_inv ⟨q0f, hLL12, q0n, ((hS.drop.pull 1).pull 1)⟩
  rintro E w ⟨q0w, rfl, q1q, hS⟩
  refine x_seq <| x_region <| ?_
  replace hF := ck_s hF; obtain ⟨q1r, hF⟩ := hF
  refine o_cc call_102 (args1 q1q) (bst hS q1r) ?_
  rintro e w' ⟨rfl, hS⟩
  refine ⟨_, rfl, ?_⟩
  refine p (yl_assign rfl) <| x_done <| ?_
  have e_ := Option.some.inj (show some _ = some _ from hF); subst e_
  exact x_return ⟨_, ⟨_, _, rfl, rfl, rfl⟩, rfl, hS⟩
attribute [irreducible] P_exact_Text

def P_maskkeep4_exacts : Option Bool :=
 bd (P_exact_Solve ([([2] : List Int)] : List (List Int)) ([6] : List Int)) fun q2 =>
 lv ((decide (q2.2 = 0)) && (decide ((q2.1.length : Int) = 1))) fun x16 =>
 ck (x16 = true → inb 0 q2.1.length) <|
 lv (gt q2.1 (0 : Int)) fun q4 =>
 bd (gd (x16) (P_exact_Text q4.Num)) fun q5 =>
 lv (x16 && (decide (q5 = (⟨#[51]⟩ : ByteArray)))) fun x24 =>
 bd (
  if x24 = true then
   bd (P_exact_Of (-12)) fun q6 =>
   bd (P_exact_Text q6) fun q7 =>
   some (decide (q7 = (⟨#[45, 49, 50]⟩ : ByteArray)))
  else
   some false) fun q3 =>
 some q3
set_option maxHeartbeats 4000000 in
set_option maxRecDepth 100000 in
theorem c_maskkeep4_exacts {w0 w : World} {l : List Assn} {ρ : Heap} {r : Bool} (hF : P_maskkeep4_exacts = some r) (hS : St w0 w (ro ρ :: l)) :
  Calls Try.prog 40 #[] w fun e w' => e = .returned (.bool r) ∧ St w0 w' (ro ρ :: l) := by
 refine enterC Try.func40 rfl 30 rfl (by simp) ?_
 refine x_seq <| x_region <| p (yl_assign rfl) <| x_done <|
  x_seq <| x_region <| ?_
 refine o_buildSlice (vs := [.int .i64 2]) (cs := [.int .i64 2]) sl_87 zero_2 (parts_eq (pt (va := .int .i64 2) rfl pt0)) rfl (by intro v hv; simp only [List.mem_cons, List.not_mem_nil, or_false] at hv; first | (subst hv; rfl) | (rcases hv with rfl <;> rfl)) (by decide) rfl hS (fun b4 w' hS => ?_)
 have q14 : RepL (RpI .i64) ρ ([2] : List Int) [.int .i64 2] := (RepL.cons (cs := [.int .i64 2]) rfl RepL.nil)
 replace hS := St.vec_of (n := 1) (sz := (RpI .i64).sz) hS rfl (by decide)
 have q_ := St.vec_fz ((hS.pull 1).pull 1) q14; obtain ⟨q0p, q0f, q0q, hS⟩ := q_
 refine o_buildSlice (vs := [.slice (some ⟨b4, 0, none⟩) 1 1]) (cs := [.slice (some ⟨b4, 0, none⟩) 1 1]) sl_75 zero_87 (parts_eq (pt (va := .slice (some ⟨b4, 0, none⟩) 1 1) rfl pt0)) rfl (by intro v hv; simp only [List.mem_cons, List.not_mem_nil, or_false] at hv; first | (subst hv; rfl) | (rcases hv with rfl <;> rfl)) (by decide) rfl hS (fun b5 w' hS => ?_)
 refine o_buildSlice (vs := [.int .i64 6]) (cs := [.int .i64 6]) sl_87 zero_2 (parts_eq (pt (va := .int .i64 6) rfl pt0)) rfl (by intro v hv; simp only [List.mem_cons, List.not_mem_nil, or_false] at hv; first | (subst hv; rfl) | (rcases hv with rfl <;> rfl)) (by decide) rfl hS (fun b6 w' hS => ?_)
 have q15 : RepL (RpSl (RpI .i64)) q0p ([([2] : List Int)] : List (List Int)) [.slice (some ⟨b4, 0, none⟩) 1 1] := (RepL.cons (cs := [.slice (some ⟨b4, 0, none⟩) 1 1]) ⟨_, _, _, rfl, q0q⟩ RepL.nil)
 replace hS := St.vec_of (n := 1) (sz := (RpSl (RpI .i64)).sz) (hS.pull 1) rfl (by decide)
 have q_ := St.vec_fz ((hS.pull 2).pull 1) q15; obtain ⟨q0r, q0g, q0s, hS⟩ := q_
 have q0t : RepL (RpI .i64) q0r ([6] : List Int) [.int .i64 6] := (RepL.cons (cs := [.int .i64 6]) rfl RepL.nil)
 replace hS := St.vec_of (n := 1) (sz := (RpI .i64).sz) (hS.pull 1) rfl (by decide)
 have q_ := St.vec_fz ((hS.pull 1).pull 1) q0t; obtain ⟨q1d, q0a, q0u, hS⟩ := q_
 replace hF := bd_s hF; obtain ⟨q7, q16, hF⟩ := hF
 have hcall := c_exact_Solve q16 (q0s.le q0a) q0u hS
 refine o_cc call_45 (args2 rfl rfl) hcall ?_
 rintro e w' ⟨q0v, q4, q0w, c_y0_ret_1_3, q0o, rfl, q0x, q5, hS⟩
 refine ⟨_, rfl, ?_⟩
 have e_ := St.vec_n hS q5; subst e_
 replace hF := lv_s hF; obtain ⟨x16, hx16, hF⟩ := hF
 replace hF := ck_s hF; obtain ⟨q0i, hF⟩ := hF
 replace hF := lv_s hF; obtain ⟨q9, q0y, hF⟩ := hF
 have q_ := RepL.getD R_exact_Ratio_d q5 (0 : Int); obtain ⟨q1e, q0e, q0z⟩ := q_
 rw [← q0y] at q0e
 obtain ⟨q0b, q18, q0c, q19, q1a, q1b, rfl, q0d, q0m⟩ := q0e
 have e_ := q0d.n; subst e_
 have e_ := q0m.n; subst e_
 replace hF := bd_s hF; obtain ⟨q0j, q10, hF⟩ := hF
 refine p (yl_move rfl) <| p (yl_extract rfl rfl) <| p (yl_extract rfl rfl) <| p (yl_assign rfl) <|
  p (yl_assign rfl) <| x_done <| x_seq <| x_region <|
  p (yl_move rfl) <| p (yl_eql rfl rfl) <| p (yl_move rfl) <| pg (v := .slice q4 q7.1.length c_y0_ret_1_3) 12 (c := decide (q7.2 = 0)) (says_t _) (fun hq => Yl.at (yl_move rfl)) <|
  pg (v := .int .i64 (q7.1.length : Int)) 12 (c := decide (q7.2 = 0)) (says_t _) (fun hq => Yl.at (yl_len_slice usl_90 (cv hq))) <| pg (v := .bool (decide ((q7.1.length : Int) = 1))) 12 (c := decide (q7.2 = 0)) (says_t _) (fun hq => Yl.at (yl_eql (cv hq) rfl)) <| p (yand' rfl (fun hc => (cv hc)) rfl hx16) <| p (yl_move rfl) <|
  pg (v := .slice q4 q7.1.length c_y0_ret_1_3) 17 (c := x16) (says_t _) (fun hq => Yl.at (yl_move rfl)) <| pg (v := .pointer (some ((adr q4).add ((0 : Int).toNat * R_exact_Ratio.sz)))) 17 (c := x16) (says_t _) (fun hq => Yl.at (yix_o sl_90 (cv hq) rfl hS q5 (q0i hq))) <| pg (v := .pointer (some (((adr q4).add ((0 : Int).toNat * R_exact_Ratio.sz)).add 0))) 17 (c := x16) (says_t _) (fun hq => Yl.at (yl_fieldAddr fld_94_0 (cv hq))) <| pg (v := .agg #[.bool q9.Num.fneg, .slice q0b q9.Num.fmag.length q0c]) 17 (c := x16) (says_t _) (fun hq => at_loadAgg (cs := [.bool q9.Num.fneg, .slice q0b q9.Num.fmag.length q0c]) agg_79 (cv hq) rfl (sub_every (m := 2) (EltV.every (q0z (q0i hq)) hS) rfl)) <|
  pccg (v := .string q0j) 17 (c := x16) (says_t _) call_54 (fun hq => (args1 (cv hq))) hS (fun hq => by
   have hcall := c_exact_Text (gd_t q10 hq) q0d (hS.pull 1)
   exact (Calls.mono hcall (fun e w'' h => And.intro h.1 (h.2.pull 1)))) (fun w' hS => ?_)
 replace hF := lv_s hF; obtain ⟨x24, hx24, hF⟩ := hF
 refine pg (v := .bool (decide (q0j = (⟨#[51]⟩ : ByteArray)))) 17 (c := x16) (says_t _) (fun hq => Yl.at (yl_eql_string (cv hq) rfl)) <| p (yand' rfl (fun hc => (cv hc)) rfl hx24) <| p (yl_move rfl) <| ?_
 replace hF := bd_s hF; obtain ⟨q11, q2, hF⟩ := hF
 refine x_join_ops (fun E w => ∃ (q8 : Bool), q8 = q11 ∧ E 0 = .bool q8 ∧ St w0 w (ro q0v :: l)) ?_ ?_
 ·refine x_split x24 (fun q3 => ?_) (fun q3 => ?_)
  ·replace q2 := it_t q3 q2
   replace q2 := bd_s q2; obtain ⟨q1g, q12, q2⟩ := q2
   refine o_strip 25 true (says_lit (c := true) (Eq.trans (show _ = Value.bool x24 from rfl) (congrArg Value.bool q3)) rfl) <| ?_
   have hcall := c_exact_Of q12  (hS.pull 1)
   refine o_cc call_51 (args1 rfl) hcall ?_
   rintro e w' ⟨q1c, q0k, q0l, c_y0_ret_1_2_16, rfl, q0n, q6, hS⟩
   refine ⟨_, rfl, ?_⟩
   have e_ := q6.n; subst e_
   replace q2 := bd_s q2; obtain ⟨q17, q13, q2⟩ := q2
   refine o_strip 25 true (says_lit (c := true) (Eq.trans (show _ = Value.bool x24 from rfl) (congrArg Value.bool q3)) rfl) <| ?_
   have hcall := c_exact_Text q13 q6 hS
   refine o_cc call_54 (args1 rfl) (hcall) ?_
   rintro e w' ⟨rfl, hS⟩
   refine ⟨_, rfl, ?_⟩
   refine o_strip 25 true (says_lit (c := true) (Eq.trans (show _ = Value.bool x24 from rfl) (congrArg Value.bool q3)) rfl) <| p (yl_eql_string rfl rfl) <| p (yl_pick (b := true) (Eq.trans (show _ = Value.bool x24 from rfl) (congrArg Value.bool q3)) (fun h => rfl) (fun h => nomatch h)) <| p (yl_assign rfl) <|
    x_done <| ?_
   exact x_inv ⟨decide (q17 = (⟨#[45, 49, 50]⟩ : ByteArray)), (Option.some.inj (show some _ = some _ from q2)), rfl, (ro_back0 q0n ((hS.pull 1).drop))⟩
  ·replace q2 := it_bf q3 q2
   refine o_pass 26 25 true (says_lit (c := false) (Eq.trans (show _ = Value.bool x24 from rfl) (congrArg Value.bool q3)) rfl) <| o_pass 27 25 true (says_lit (c := false) (Eq.trans (show _ = Value.bool x24 from rfl) (congrArg Value.bool q3)) rfl) <| o_pass 28 25 true (says_lit (c := false) (Eq.trans (show _ = Value.bool x24 from rfl) (congrArg Value.bool q3)) rfl) <| p (yl_pick (b := false) (Eq.trans (show _ = Value.bool x24 from rfl) (congrArg Value.bool q3)) (fun h => nomatch h) (fun h => rfl)) <|
    p (yl_assign rfl) <| x_done <| ?_
   exact x_inv ⟨false, (Option.some.inj (show some _ = some _ from q2)), rfl, hS.drop⟩
 rintro E w ⟨q8, rfl, q0h, hS⟩
 have e_ := Option.some.inj (show some _ = some _ from hF); subst e_
 exact x_return ⟨_, ⟨_, _, rfl, q0h, rfl⟩, rfl, (ro_back0 (((q0f.trans q0g).trans q0a).trans q0x) hS)⟩
attribute [irreducible] P_maskkeep4_exacts

def P_exact_Whole (n0 : Int) : Option T_exact_Ratio :=
 bd (P_exact_Of n0) fun q2 =>
 bd (P_exact_Of 1) fun q3 =>
 some (T_exact_Ratio.mk (T_exact_Int.mk q2.fneg q2.fmag) (T_exact_Int.mk q3.fneg q3.fmag))
set_option maxHeartbeats 4000000 in
set_option maxRecDepth 100000 in
theorem c_exact_Whole {w0 w : World} {l : List Assn} {ρ : Heap} {n0 : Int} {r : T_exact_Ratio} (hF : P_exact_Whole n0 = some r) (hS : St w0 w (ro ρ :: l)) :
  Calls Try.prog 46 #[.int .i64 n0] w fun e w' => ∃ (ρ' : Heap) (q8 : Option Addr) (q9 : Nat) (c_y0_ret_1 : Nat) (q0a : Option Addr) (q0b : Nat) (c_y0_ret_3 : Nat), e = .returned (.agg #[.bool r.Num.fneg, .slice q8 q9 c_y0_ret_1, .bool r.Den.fneg, .slice q0a q0b c_y0_ret_3]) ∧ Le ρ ρ' ∧ RdS (RpI .u32) ρ' q8 q9 c_y0_ret_1 r.Num.fmag ∧ RdS (RpI .u32) ρ' q0a q0b c_y0_ret_3 r.Den.fmag ∧ St w0 w' (ro ρ' :: l) := by
 refine enterC Try.func46 rfl 7 rfl (by simp) ?_
 refine x_seq <| x_region <| ?_
 refine o_alloc zero_94 hS (fun b2 w' hS => ?_)
 replace hF := bd_s hF; obtain ⟨q6, q0h, hF⟩ := hF
 refine x_done <| x_seq <| x_region <| p (yl_move rfl) <| ?_
 have hcall := c_exact_Of q0h  (hS.pull 1)
 refine o_cc call_51 (args1 rfl) hcall ?_
 rintro e w' ⟨q0j, q2, q0d, c_y0_ret_1_1_1, rfl, q0f, q4, hS⟩
 refine ⟨_, rfl, ?_⟩
 have e_ := q4.n; subst e_
 replace hF := bd_s hF; obtain ⟨q7, q0i, hF⟩ := hF
 have hcall := c_exact_Of q0i  hS
 refine o_cc call_51 (args1 rfl) hcall ?_
 rintro e w' ⟨q0g, q3, q0e, c_y0_ret_1_1_2, rfl, q0c, q5, hS⟩
 refine ⟨_, rfl, ?_⟩
 have e_ := q5.n; subst e_
 refine p (v := .agg #[.bool q6.fneg, .slice q2 q6.fmag.length c_y0_ret_1_1_1, .bool q7.fneg, .slice q3 q7.fmag.length c_y0_ret_1_1_2]) (yl_build bld_94 bldf_94 (parts_eq (pt (va := .agg #[.bool q6.fneg, .slice q2 q6.fmag.length c_y0_ret_1_1_1]) rfl (pt (va := .agg #[.bool q7.fneg, .slice q3 q7.fmag.length c_y0_ret_1_1_2]) rfl pt0))) (by kernel_rfl)) <| ?_
 refine o_storeAgg (news := [.bool q6.fneg, .slice q2 q6.fmag.length c_y0_ret_1_1_1, .bool q7.fneg, .slice q3 q7.fmag.length c_y0_ret_1_1_2]) agg_94 rfl rfl rfl (by simp [over_length]) (hS.pull 1) (fun w' hS => ?_)
 refine x_done <| ?_
 have e_ := Option.some.inj (show some _ = some _ from hF); subst e_
 exact x_return ⟨_, ⟨_, _, _, rfl, rfl, ldvA agg_94 rfl (fun j v hj => by rw [add0]; exact St.cell hS hj), rfl⟩, q0g, q2, q6.fmag.length, c_y0_ret_1_1_1, q3, q7.fmag.length, c_y0_ret_1_1_2, rfl, (q0f.trans q0c), (q4.le q0c), q5, hS.drop⟩
attribute [irreducible] P_exact_Whole

def P_exact_Cmp (a0 : T_exact_Int) (b1 : T_exact_Int) : Option Int :=
 bd (P_exact_Sign a0) fun q2 =>
 bd (P_exact_Sign b1) fun q3 =>
 if q2 ≠ q3 then
  bd (P_exact_Sign a0) fun q4 =>
  bd (P_exact_Sign b1) fun q5 =>
  ar (q4 - q5) fun x15 =>
  bd (P_exact_sign x15) fun q6 =>
  some q6
 else
  if a0.fneg = true then
   bd (P_exact_cmpMag b1.fmag a0.fmag) fun q7 =>
   some q7
  else
   bd (P_exact_cmpMag a0.fmag b1.fmag) fun q8 =>
   some q8
set_option maxHeartbeats 4000000 in
set_option maxRecDepth 100000 in
theorem c_exact_Cmp {w0 w : World} {l : List Assn} {ρ : Heap} {q2 : Option Addr} {q6 : Nat} {c_a0_1 : Nat} {q3 : Option Addr} {q7 : Nat} {c_b1_1 : Nat} {a0 : T_exact_Int} {b1 : T_exact_Int} {r : Int} (hF : P_exact_Cmp a0 b1 = some r) (q4 : RdS (RpI .u32) ρ q2 q6 c_a0_1 a0.fmag) (q5 : RdS (RpI .u32) ρ q3 q7 c_b1_1 b1.fmag) (hS : St w0 w (ro ρ :: l)) :
  Calls Try.prog 41 #[.agg #[.bool a0.fneg, .slice q2 q6 c_a0_1], .agg #[.bool b1.fneg, .slice q3 q7 c_b1_1]] w fun e w' => e = .returned (.int .i64 r) ∧ St w0 w' (ro ρ :: l) := by
 have e_ := q4.n; subst e_
 have e_ := q5.n; subst e_
 refine enterC Try.func41 rfl 30 rfl (by simp) ?_
 refine x_seq <| x_region <| ?_
 refine o_box (cs := [.bool a0.fneg, .slice q2 a0.fmag.length c_a0_1]) rfl rfl hS (fun b2 w' hS => ?_)
 refine o_box (cs := [.bool b1.fneg, .slice q3 b1.fmag.length c_b1_1]) rfl rfl hS (fun b3 w' hS => ?_)
 replace hF := bd_s hF; obtain ⟨q8, q0b, hF⟩ := hF
 replace hF := bd_s hF; obtain ⟨q9, q0c, hF⟩ := hF
 refine p (yl_assign rfl) <| x_done <| x_seq <| x_block <|
  x_seq <| x_still mixed (by kernel_rfl) hS <| qa (v := .agg #[.bool a0.fneg, .slice q2 a0.fmag.length c_a0_1]) (fun w' hS => ld_sub agg_79 rfl rfl rfl (hS.pull 1)) <| qcc (v := .int .i64 q8) call_44 (args1 rfl) (fun w' hS => by
   have hcall := c_exact_Sign q0b q4 (hS.pull 2)
   exact (Calls.mono hcall (fun e w'' h => And.intro h.1 ((h.2.pull 2).pull 2)))) <|
  qa (v := .agg #[.bool b1.fneg, .slice q3 b1.fmag.length c_b1_1]) (fun w' hS => ld_sub agg_79 rfl rfl rfl hS) <| qcc (v := .int .i64 q9) call_44 (args1 rfl) (fun w' hS => by
   have hcall := c_exact_Sign q0c q5 (hS.pull 2)
   exact (Calls.mono hcall (fun e w'' h => And.intro h.1 ((h.2.pull 2).pull 2)))) <| q (yl_neq rfl rfl) <| q (yl_assign rfl) <|
  q_done fun w' hS => ?_
 refine x_cond_p (q8 ≠ q9) rfl (fun hc5 => ?_) (fun hc5 => ?_)
 ·replace hF := it_t hc5 hF
  replace hF := bd_s hF; obtain ⟨q0i, q0d, hF⟩ := hF
  replace hF := bd_s hF; obtain ⟨q0j, q0e, hF⟩ := hF
  replace hF := ar_s hF; obtain ⟨x15, hx15, hF⟩ := hF
  replace hF := bd_s hF; obtain ⟨q0a, q0f, hF⟩ := hF
  refine x_seq <| x_still mixed (by kernel_rfl) hS <| qa (v := .agg #[.bool a0.fneg, .slice q2 a0.fmag.length c_a0_1]) (fun w' hS => ld_sub agg_79 rfl rfl rfl (hS.pull 1)) <| qcc (v := .int .i64 q0i) call_44 (args1 rfl) (fun w' hS => by
    have hcall := c_exact_Sign q0d q4 (hS.pull 2)
    exact (Calls.mono hcall (fun e w'' h => And.intro h.1 ((h.2.pull 2).pull 2)))) <|
   qa (v := .agg #[.bool b1.fneg, .slice q3 b1.fmag.length c_b1_1]) (fun w' hS => ld_sub agg_79 rfl rfl rfl hS) <| qcc (v := .int .i64 q0j) call_44 (args1 rfl) (fun w' hS => by
    have hcall := c_exact_Sign q0e q5 (hS.pull 2)
    exact (Calls.mono hcall (fun e w'' h => And.intro h.1 ((h.2.pull 2).pull 2)))) <| q (ysub rfl rfl hx15) <| qcc (v := .int .i64 q0a) call_90 (args1 rfl) (fun w' hS => by
    have hcall := c_exact_sign q0f  (hS.pull 2)
    exact (Calls.mono hcall (fun e w'' h => And.intro h.1 ((h.2.pull 2).pull 2)))) <|
   q (v := .int .i64 q0a) (yl_assign rfl) <|
   q_done fun w' hS => ?_
  have e_ := Option.some.inj (show some _ = some _ from hF); subst e_
  exact x_return ⟨_, ⟨_, _, rfl, rfl, rfl⟩, rfl, hS.drop.drop⟩
 ·replace hF := it_f hc5 hF
  refine x_seq <| x_region <| p (yl_field0 fld_79_0 rfl) <| pa (at_load one_4 rfl ((hS.pull 1).cell rfl)) <|
   p (yl_assign rfl) <| x_done <|
   x_cond (t := a0.fneg) rfl (fun hc17 => ?_) (fun hc17 => ?_)
  ·replace hF := it_t hc17 hF
   replace hF := bd_s hF; obtain ⟨q0k, q0g, hF⟩ := hF
   refine x_seq <| x_region <| p (yl_field0 fld_79_1 rfl) <| pa (at_load one_77 rfl (hS.cell rfl)) <|
    p (yl_field0 fld_79_1 rfl) <| pa (at_load one_77 rfl ((hS.pull 1).cell rfl)) <| ?_
   have hcall := c_exact_cmpMag q0g q5 q4 (hS.pull 2)
   refine o_cc call_91 (args2 rfl rfl) ((Calls.mono hcall (fun e w'' h => And.intro h.1 ((h.2.pull 2).pull 2)))) ?_
   rintro e w' ⟨rfl, hS⟩
   refine ⟨_, rfl, ?_⟩
   refine p (v := .int .i64 q0k) (yl_assign rfl) <| x_done <| ?_
   have e_ := Option.some.inj (show some _ = some _ from hF); subst e_
   exact x_return ⟨_, ⟨_, _, rfl, rfl, rfl⟩, rfl, hS.drop.drop⟩
  ·replace hF := it_bf hc17 hF
   replace hF := bd_s hF; obtain ⟨q0l, q0h, hF⟩ := hF
   refine x_skip <| x_blk <| x_seq <| x_region <|
    p (yl_field0 fld_79_1 rfl) <| pa (at_load one_77 rfl ((hS.pull 1).cell rfl)) <| p (yl_field0 fld_79_1 rfl) <| pa (at_load one_77 rfl (hS.cell rfl)) <| ?_
   have hcall := c_exact_cmpMag q0h q4 q5 (hS.pull 2)
   refine o_cc call_91 (args2 rfl rfl) ((Calls.mono hcall (fun e w'' h => And.intro h.1 ((h.2.pull 2).pull 2)))) ?_
   rintro e w' ⟨rfl, hS⟩
   refine ⟨_, rfl, ?_⟩
   refine p (v := .int .i64 q0l) (yl_assign rfl) <| x_done <| ?_
   have e_ := Option.some.inj (show some _ = some _ from hF); subst e_
   exact x_return ⟨_, ⟨_, _, rfl, rfl, rfl⟩, rfl, hS.drop.drop⟩
attribute [irreducible] P_exact_Cmp

def P_exact_Check (x0 : T_exact_Ratio) : Option Int :=
 bd (P_exact_Bits (T_exact_Int.mk x0.Num.fneg x0.Num.fmag)) fun q2 =>
 bd (gd (!(decide (65536 < q2))) (P_exact_Bits (T_exact_Int.mk x0.Den.fneg x0.Den.fmag))) fun q3 =>
 lv ((decide (65536 < q2)) || (decide (65536 < q3))) fun x13 =>
 if x13 = true then
  some (3 : Int)
 else
  bd (P_exact_Sign (T_exact_Int.mk x0.Den.fneg x0.Den.fmag)) fun q4 =>
  if q4 < 1 then
   some (2 : Int)
  else
   bd (P_exact_Gcd (T_exact_Int.mk x0.Num.fneg x0.Num.fmag) (T_exact_Int.mk x0.Den.fneg x0.Den.fmag)) fun q5 =>
   bd (P_exact_Of 1) fun q6 =>
   bd (P_exact_Cmp q5 q6) fun q7 =>
   if q7 ≠ 0 then
    some (4 : Int)
   else
    some (0 : Int)
set_option maxHeartbeats 4000000 in
set_option maxRecDepth 100000 in
theorem c_exact_Check {w0 w : World} {l : List Assn} {ρ : Heap} {q5 : Option Addr} {q0a : Nat} {c_x0_1 : Nat} {q2 : Option Addr} {q0b : Nat} {c_x0_3 : Nat} {x0 : T_exact_Ratio} {r : Int} (hF : P_exact_Check x0 = some r) (q7 : RdS (RpI .u32) ρ q5 q0a c_x0_1 x0.Num.fmag) (q6 : RdS (RpI .u32) ρ q2 q0b c_x0_3 x0.Den.fmag) (hS : St w0 w (ro ρ :: l)) :
  Calls Try.prog 125 #[.agg #[.bool x0.Num.fneg, .slice q5 q0a c_x0_1, .bool x0.Den.fneg, .slice q2 q0b c_x0_3]] w fun e w' => e = .returned (.int .i64 r) ∧ St w0 w' (ro ρ :: l) := by
 have e_ := q7.n; subst e_
 have e_ := q6.n; subst e_
 refine enterC Try.func125 rfl 28 rfl (by simp) ?_
 refine x_seq <| x_region <| ?_
 refine o_box (cs := [.bool x0.Num.fneg, .slice q5 x0.Num.fmag.length c_x0_1, .bool x0.Den.fneg, .slice q2 x0.Den.fmag.length c_x0_3]) rfl rfl hS (fun b1 w' hS => ?_)
 replace hF := bd_s hF; obtain ⟨q9, q0i, hF⟩ := hF
 refine p (yl_assign rfl) <| x_done <| x_seq <| x_block <|
  x_seq <| x_region <| p (yl_field0 fld_94_0 rfl) <| pa (v := .agg #[.bool x0.Num.fneg, .slice q5 x0.Num.fmag.length c_x0_1]) (ld_sub agg_79 rfl rfl rfl hS) <| ?_
 have hcall := c_exact_Bits q0i q7 (hS.pull 1)
 refine o_cc call_123 (args1 rfl) ((Calls.mono hcall (fun e w'' h => And.intro h.1 (h.2.pull 1)))) ?_
 rintro e w' ⟨rfl, hS⟩
 refine ⟨_, rfl, ?_⟩
 replace hF := bd_s hF; obtain ⟨q0h, q0j, hF⟩ := hF
 refine p (yl_gtr rfl rfl) <| p (yl_move rfl) <| pg (v := .pointer (some ⟨b1, 2, none⟩)) 8 (c := !(decide (65536 < q9))) (says_f _) (fun hq => Yl.at (yl_field0 fld_94_1 rfl)) <| pg (v := .agg #[.bool x0.Den.fneg, .slice q2 x0.Den.fmag.length c_x0_3]) 8 (c := !(decide (65536 < q9))) (says_f _) (fun hq => ld_sub agg_79 (cv hq) rfl rfl hS) <|
  pccg (v := .int .i64 q0h) 8 (c := !(decide (65536 < q9))) (says_f _) call_123 (fun hq => (args1 (cv hq))) hS (fun hq => by
   have hcall := c_exact_Bits (gd_t q0j hq) q6 (hS.pull 1)
   exact (Calls.mono hcall (fun e w'' h => And.intro h.1 (h.2.pull 1)))) (fun w' hS => ?_)
 replace hF := lv_s hF; obtain ⟨x13, hx13, hF⟩ := hF
 refine pg (v := .bool (decide (65536 < q0h))) 8 (c := !(decide (65536 < q9))) (says_f _) (fun hq => Yl.at (yl_gtr (cv hq) rfl)) <| p (yor' rfl rfl (fun hc => (cv (t_not hc))) hx13) <| p (yl_assign rfl) <| x_done <|
  x_cond (t := x13) rfl (fun hc3 => ?_) (fun hc3 => ?_)
 ·replace hF := it_t hc3 hF
  refine x_seq <| x_region <| p (yl_assign rfl) <| x_done <| ?_
  have e_ := Option.some.inj (show some _ = some _ from hF); subst e_
  exact x_return ⟨_, ⟨_, _, rfl, rfl, rfl⟩, rfl, hS.drop⟩
 ·replace hF := it_bf hc3 hF
  replace hF := bd_s hF; obtain ⟨q0o, q0k, hF⟩ := hF
  refine x_seq <| x_region <| p (yl_field0 fld_94_1 rfl) <| pa (v := .agg #[.bool x0.Den.fneg, .slice q2 x0.Den.fmag.length c_x0_3]) (ld_sub agg_79 rfl rfl rfl hS) <| ?_
  have hcall := c_exact_Sign q0k q6 (hS.pull 1)
  refine o_cc call_44 (args1 rfl) ((Calls.mono hcall (fun e w'' h => And.intro h.1 (h.2.pull 1)))) ?_
  rintro e w' ⟨rfl, hS⟩
  refine ⟨_, rfl, ?_⟩
  refine p (yl_lss rfl rfl) <| p (yl_assign rfl) <| x_done <|
   x_cond_p (q0o < 1) rfl (fun hc14 => ?_) (fun hc14 => ?_)
  ·replace hF := it_t hc14 hF
   refine x_seq <| x_region <| p (yl_assign rfl) <| x_done <| ?_
   have e_ := Option.some.inj (show some _ = some _ from hF); subst e_
   exact x_return ⟨_, ⟨_, _, rfl, rfl, rfl⟩, rfl, hS.drop⟩
  ·replace hF := it_f hc14 hF
   replace hF := bd_s hF; obtain ⟨q0s, q0l, hF⟩ := hF
   refine x_seq <| x_region <| p (yl_field0 fld_94_0 rfl) <| pa (v := .agg #[.bool x0.Num.fneg, .slice q5 x0.Num.fmag.length c_x0_1]) (ld_sub agg_79 rfl rfl rfl hS) <|
    p (yl_field0 fld_94_1 rfl) <| pa (v := .agg #[.bool x0.Den.fneg, .slice q2 x0.Den.fmag.length c_x0_3]) (ld_sub agg_79 rfl rfl rfl hS) <| ?_
   have hcall := c_exact_Gcd q0l q7 q6 (hS.pull 1)
   refine o_cc call_124 (args2 rfl rfl) hcall ?_
   rintro e w' ⟨q0q, q0d, q0e, c_y0_ret_1_5_4, rfl, q0c, q3, hS⟩
   refine ⟨_, rfl, ?_⟩
   have e_ := q3.n; subst e_
   replace hF := bd_s hF; obtain ⟨q0t, q0m, hF⟩ := hF
   have hcall := c_exact_Of q0m  hS
   refine o_cc call_51 (args1 rfl) hcall ?_
   rintro e w' ⟨q0r, q0f, q0g, c_y0_ret_1_5_5, rfl, q8, q4, hS⟩
   refine ⟨_, rfl, ?_⟩
   have e_ := q4.n; subst e_
   replace hF := bd_s hF; obtain ⟨q0p, q0n, hF⟩ := hF
   have hcall := c_exact_Cmp q0n (q3.le q8) q4 hS
   refine o_cc call_41 (args2 rfl rfl) (hcall) ?_
   rintro e w' ⟨rfl, hS⟩
   refine ⟨_, rfl, ?_⟩
   refine p (yl_neq rfl rfl) <| p (yl_assign rfl) <| x_done <|
    x_cond_p (q0p ≠ 0) rfl (fun hc19 => ?_) (fun hc19 => ?_)
   ·replace hF := it_t hc19 hF
    refine x_seq <| x_region <| p (yl_assign rfl) <| x_done <| ?_
    have e_ := Option.some.inj (show some _ = some _ from hF); subst e_
    exact x_return ⟨_, ⟨_, _, rfl, rfl, rfl⟩, rfl, (ro_back0 (q0c.trans q8) ((hS.pull 1).drop))⟩
   ·replace hF := it_f hc19 hF
    refine x_skip <| x_blk <| x_seq <| x_region <|
     p (yl_assign rfl) <| x_done <| ?_
    have e_ := Option.some.inj (show some _ = some _ from hF); subst e_
    exact x_return ⟨_, ⟨_, _, rfl, rfl, rfl⟩, rfl, (ro_back0 (q0c.trans q8) ((hS.pull 1).drop))⟩
attribute [irreducible] P_exact_Check

def P_exact_both (a0 : T_exact_Ratio) (b1 : T_exact_Ratio) : Option Int :=
 bd (P_exact_Check a0) fun q2 =>
 if q2 ≠ 0 then
  some q2
 else
  bd (P_exact_Check b1) fun q3 =>
  some q3
set_option maxHeartbeats 4000000 in
set_option maxRecDepth 100000 in
theorem c_exact_both {w0 w : World} {l : List Assn} {ρ : Heap} {q2 : Option Addr} {q7 : Nat} {c_a0_1 : Nat} {q3 : Option Addr} {q8 : Nat} {c_a0_3 : Nat} {q4 : Option Addr} {q9 : Nat} {c_b1_1 : Nat} {q5 : Option Addr} {q0a : Nat} {c_b1_3 : Nat} {a0 : T_exact_Ratio} {b1 : T_exact_Ratio} {r : Int} (hF : P_exact_both a0 b1 = some r) (q0b : RdS (RpI .u32) ρ q2 q7 c_a0_1 a0.Num.fmag) (q0c : RdS (RpI .u32) ρ q3 q8 c_a0_3 a0.Den.fmag) (q0d : RdS (RpI .u32) ρ q4 q9 c_b1_1 b1.Num.fmag) (q0e : RdS (RpI .u32) ρ q5 q0a c_b1_3 b1.Den.fmag) (hS : St w0 w (ro ρ :: l)) :
  Calls Try.prog 95 #[.agg #[.bool a0.Num.fneg, .slice q2 q7 c_a0_1, .bool a0.Den.fneg, .slice q3 q8 c_a0_3], .agg #[.bool b1.Num.fneg, .slice q4 q9 c_b1_1, .bool b1.Den.fneg, .slice q5 q0a c_b1_3]] w fun e w' => e = .returned (.int .i64 r) ∧ St w0 w' (ro ρ :: l) := by
 have e_ := q0b.n; subst e_
 have e_ := q0c.n; subst e_
 have e_ := q0d.n; subst e_
 have e_ := q0e.n; subst e_
 refine enterC Try.func95 rfl 13 rfl (by simp) ?_
 refine x_seq <| x_region <| ?_
 refine o_box (cs := [.bool a0.Num.fneg, .slice q2 a0.Num.fmag.length c_a0_1, .bool a0.Den.fneg, .slice q3 a0.Den.fmag.length c_a0_3]) rfl rfl hS (fun b2 w' hS => ?_)
 refine o_box (cs := [.bool b1.Num.fneg, .slice q4 b1.Num.fmag.length c_b1_1, .bool b1.Den.fneg, .slice q5 b1.Den.fmag.length c_b1_3]) rfl rfl hS (fun b3 w' hS => ?_)
 replace hF := bd_s hF; obtain ⟨q6, q0f, hF⟩ := hF
 refine p (yl_assign rfl) <| x_done <| x_seq <| x_seq <|
  x_region <| pa (v := .agg #[.bool a0.Num.fneg, .slice q2 a0.Num.fmag.length c_a0_1, .bool a0.Den.fneg, .slice q3 a0.Den.fmag.length c_a0_3]) (ld_sub agg_94 rfl rfl rfl (hS.pull 1)) <| ?_
 have hcall := c_exact_Check q0f q0b q0c (hS.pull 2)
 refine o_cc call_125 (args1 rfl) ((Calls.mono hcall (fun e w'' h => And.intro h.1 ((h.2.pull 2).pull 2)))) ?_
 rintro e w' ⟨rfl, hS⟩
 refine ⟨_, rfl, ?_⟩
 refine p (v := .int .i64 q6) (yl_assign rfl) <| x_done <| x_seq <| x_region <|
  p (v := .int .i64 q6) (yl_move rfl) <| p (yl_neq rfl rfl) <| x_done <|
  x_cond_p (q6 ≠ 0) rfl (fun hc9 => ?_) (fun hc9 => ?_)
 ·replace hF := it_t hc9 hF
  refine x_seq <| x_region <| p (v := .int .i64 q6) (yl_move rfl) <| p (v := .int .i64 q6) (yl_assign rfl) <|
   x_done <| ?_
  have e_ := Option.some.inj (show some _ = some _ from hF); subst e_
  exact x_return ⟨_, ⟨_, _, rfl, rfl, rfl⟩, rfl, hS.drop.drop⟩
 ·replace hF := it_f hc9 hF
  replace hF := bd_s hF; obtain ⟨q0h, q0g, hF⟩ := hF
  refine x_skip <| x_seq <| x_region <| pa (v := .agg #[.bool b1.Num.fneg, .slice q4 b1.Num.fmag.length c_b1_1, .bool b1.Den.fneg, .slice q5 b1.Den.fmag.length c_b1_3]) (ld_sub agg_94 rfl rfl rfl hS) <| ?_
  have hcall := c_exact_Check q0g q0d q0e (hS.pull 2)
  refine o_cc call_125 (args1 rfl) ((Calls.mono hcall (fun e w'' h => And.intro h.1 ((h.2.pull 2).pull 2)))) ?_
  rintro e w' ⟨rfl, hS⟩
  refine ⟨_, rfl, ?_⟩
  refine p (v := .int .i64 q0h) (yl_assign rfl) <| x_done <| ?_
  have e_ := Option.some.inj (show some _ = some _ from hF); subst e_
  exact x_return ⟨_, ⟨_, _, rfl, rfl, rfl⟩, rfl, hS.drop.drop⟩
attribute [irreducible] P_exact_both

def P_exact_Prod (a0 : T_exact_Ratio) (b1 : T_exact_Ratio) : Option (T_exact_Ratio × Int) :=
 bd (P_exact_both a0 b1) fun q3 =>
 if q3 ≠ 0 then
  some ((T_exact_Ratio.mk (T_exact_Int.mk false []) (T_exact_Int.mk false [])), q3)
 else
  bd (P_exact_times (T_exact_Int.mk a0.Num.fneg a0.Num.fmag) (T_exact_Int.mk b1.Num.fneg b1.Num.fmag)) fun q4 =>
  bd (P_exact_times (T_exact_Int.mk a0.Den.fneg a0.Den.fmag) (T_exact_Int.mk b1.Den.fneg b1.Den.fmag)) fun q5 =>
  bd (P_exact_reduced q4 q5) fun q2 =>
  some (q2.1, q2.2)
set_option maxHeartbeats 4000000 in
set_option maxRecDepth 100000 in
theorem c_exact_Prod {w0 w : World} {l : List Assn} {ρ : Heap} {q8 : Option Addr} {q1g : Nat} {c_a0_1 : Nat} {q9 : Option Addr} {q1h : Nat} {c_a0_3 : Nat} {q0a : Option Addr} {q1i : Nat} {c_b1_1 : Nat} {q0b : Option Addr} {q1j : Nat} {c_b1_3 : Nat} {a0 : T_exact_Ratio} {b1 : T_exact_Ratio} {r : (T_exact_Ratio × Int)} (hF : P_exact_Prod a0 b1 = some r) (q16 : RdS (RpI .u32) ρ q8 q1g c_a0_1 a0.Num.fmag) (q17 : RdS (RpI .u32) ρ q9 q1h c_a0_3 a0.Den.fmag) (q18 : RdS (RpI .u32) ρ q0a q1i c_b1_1 b1.Num.fmag) (q19 : RdS (RpI .u32) ρ q0b q1j c_b1_3 b1.Den.fmag) (hS : St w0 w (ro ρ :: l)) :
  Calls Try.prog 47 #[.agg #[.bool a0.Num.fneg, .slice q8 q1g c_a0_1, .bool a0.Den.fneg, .slice q9 q1h c_a0_3], .agg #[.bool b1.Num.fneg, .slice q0a q1i c_b1_1, .bool b1.Den.fneg, .slice q0b q1j c_b1_3]] w fun e w' => ∃ (ρ' : Heap) (q0m : Option Addr) (q0n : Nat) (c_y0_ret_1 : Nat) (q0o : Option Addr) (q0p : Nat) (c_y0_ret_3 : Nat), e = .returned (.tuple #[.agg #[.bool r.1.Num.fneg, .slice q0m q0n c_y0_ret_1, .bool r.1.Den.fneg, .slice q0o q0p c_y0_ret_3], .int .i64 r.2]) ∧ Le ρ ρ' ∧ RdS (RpI .u32) ρ' q0m q0n c_y0_ret_1 r.1.Num.fmag ∧ RdS (RpI .u32) ρ' q0o q0p c_y0_ret_3 r.1.Den.fmag ∧ St w0 w' (ro ρ' :: l) := by
 have e_ := q16.n; subst e_
 have e_ := q17.n; subst e_
 have e_ := q18.n; subst e_
 have e_ := q19.n; subst e_
 refine enterC Try.func47 rfl 27 rfl (by simp) ?_
 refine x_seq <| x_region <| ?_
 refine o_box (cs := [.bool a0.Num.fneg, .slice q8 a0.Num.fmag.length c_a0_1, .bool a0.Den.fneg, .slice q9 a0.Den.fmag.length c_a0_3]) rfl rfl hS (fun b2 w' hS => ?_)
 refine o_box (cs := [.bool b1.Num.fneg, .slice q0a b1.Num.fmag.length c_b1_1, .bool b1.Den.fneg, .slice q0b b1.Den.fmag.length c_b1_3]) rfl rfl hS (fun b3 w' hS => ?_)
 refine o_alloc zero_94 hS (fun b4 w' hS => ?_)
 replace hF := bd_s hF; obtain ⟨q1a, q1t, hF⟩ := hF
 refine p (yl_assign rfl) <| x_done <| x_seq <| x_seq <|
  x_region <| pa (v := .agg #[.bool a0.Num.fneg, .slice q8 a0.Num.fmag.length c_a0_1, .bool a0.Den.fneg, .slice q9 a0.Den.fmag.length c_a0_3]) (ld_sub agg_94 rfl rfl rfl (hS.pull 2)) <| pa (v := .agg #[.bool b1.Num.fneg, .slice q0a b1.Num.fmag.length c_b1_1, .bool b1.Den.fneg, .slice q0b b1.Den.fmag.length c_b1_3]) (ld_sub agg_94 rfl rfl rfl (hS.pull 1)) <| ?_
 have hcall := c_exact_both q1t q16 q17 q18 q19 (hS.pull 3)
 refine o_cc call_95 (args2 rfl rfl) ((Calls.mono hcall (fun e w'' h => And.intro h.1 (((h.2.pull 3).pull 3).pull 3)))) ?_
 rintro e w' ⟨rfl, hS⟩
 refine ⟨_, rfl, ?_⟩
 refine p (v := .int .i64 q1a) (yl_assign rfl) <| x_done <| x_seq <| x_region <|
  p (v := .int .i64 q1a) (yl_move rfl) <| p (yl_neq rfl rfl) <| x_done <|
  x_cond_p (q1a ≠ 0) rfl (fun hc11 => ?_) (fun hc11 => ?_)
 ·replace hF := it_t hc11 hF
  refine x_seq <| x_region <| p (v := .agg #[.bool false, .slice none 0 0, .bool false, .slice none 0 0]) (yl_build bld_94 bldf_94 (parts_eq pt0) (by kernel_rfl)) <| p (v := .int .i64 q1a) (yl_move rfl) <| ?_
  refine o_storeAgg (news := [.bool false, .slice none 0 0, .bool false, .slice none 0 0]) agg_94 rfl rfl rfl (by simp [over_length]) hS (fun w' hS => ?_)
  refine p (v := .int .i64 q1a) (yl_assign rfl) <| x_done <| ?_
  have e_ := Option.some.inj (show some _ = some _ from hF); subst e_
  exact x_return ⟨_, ⟨_, _, _, rfl, rfl, ldvA agg_94 rfl (fun j v hj => by rw [add0]; exact St.cell hS hj), _, _, rfl, rfl, rfl⟩, ρ, none, 0, 0, none, 0, 0, rfl, (Le.refl _), (RdS.nil (A := none) (c := 0)), (RdS.nil (A := none) (c := 0)), hS.drop.drop.drop⟩
 ·replace hF := it_f hc11 hF
  refine x_skip <| x_seq <| ?_
  replace hF := bd_s hF; obtain ⟨q0c, q1u, hF⟩ := hF
  replace hF := bd_s hF; obtain ⟨q0d, q1v, hF⟩ := hF
  replace hF := bd_s hF; obtain ⟨q2, q1r, hF⟩ := hF
  refine x_par (w0 := w0) [⟨[], [], [14], [], [], []⟩, ⟨[0], [0], [15], [0], [], []⟩, ⟨[], [], [16], [], [], []⟩, ⟨[2], [2], [17], [1], [], []⟩, ⟨[0, 1, 2, 3], [1, 3], [18], [2], [], [3]⟩, ⟨[], [], [19], [], [], []⟩, ⟨[5], [5], [20], [0], [], []⟩, ⟨[], [], [21], [], [], []⟩, ⟨[7], [7], [22], [1], [], []⟩, ⟨[0, 1, 2, 3, 4, 5, 6, 7, 8], [6, 8], [23], [2], [], [4]⟩, ⟨[0, 1, 2, 3, 4, 5, 6, 7, 8, 9], [4, 9], [24], [2], [3, 4], [5]⟩, ⟨[0, 1, 2, 3, 4, 5, 6, 7, 8, 9, 10], [10], [24, 25], [], [], []⟩, ⟨[0, 1, 2, 3, 4, 5, 6, 7, 8, 9, 10], [10], [26], [], [], []⟩, ⟨[0, 1, 2, 3, 4, 5, 6, 7, 8, 9, 10, 11, 12], [10, 11], [], [], [6], [7]⟩, ⟨[0, 1, 2, 3, 4, 5, 6, 7, 8, 9, 10, 11, 12, 13], [12], [5], [], [], []⟩] [⟨none, none, []⟩, ⟨none, none, []⟩, ⟨none, none, []⟩, ⟨(some 4), (some 10), [18]⟩, ⟨(some 9), (some 10), [23]⟩, ⟨(some 10), none, [18, 23, 24]⟩, ⟨none, (some 13), []⟩, ⟨(some 13), none, [24]⟩] [5, 14, 15, 16, 17, 18, 19, 20, 21, 22, 23, 24, 25, 26] [0, 1, 2, 6] [0, 1, 2, 5, 7] [0, 1, 2, 3, 4, 5, 6, 7, 8, 9, 10, 11, 12, 14] [fun Ep4 => Ep4 14 = .pointer (some ⟨b2, 0, none⟩), fun Ep4 => Ep4 15 = .agg #[.bool a0.Num.fneg, .slice q8 a0.Num.fmag.length c_a0_1], fun Ep4 => Ep4 16 = .pointer (some ⟨b3, 0, none⟩), fun Ep4 => Ep4 17 = .agg #[.bool b1.Num.fneg, .slice q0a b1.Num.fmag.length c_b1_1], fun Ep4 => Ep4 18 = .agg #[.bool q0c.fneg, .slice (adOf (partOf 1 (Ep4 18))) q0c.fmag.length (capOf (partOf 1 (Ep4 18)))], fun Ep4 => Ep4 19 = .pointer (some ⟨b2, 2, none⟩), fun Ep4 => Ep4 20 = .agg #[.bool a0.Den.fneg, .slice q9 a0.Den.fmag.length c_a0_3], fun Ep4 => Ep4 21 = .pointer (some ⟨b3, 2, none⟩), fun Ep4 => Ep4 22 = .agg #[.bool b1.Den.fneg, .slice q0b b1.Den.fmag.length c_b1_3], fun Ep4 => Ep4 23 = .agg #[.bool q0d.fneg, .slice (adOf (partOf 1 (Ep4 23))) q0d.fmag.length (capOf (partOf 1 (Ep4 23)))], fun Ep4 => Ep4 24 = .tuple #[.agg #[.bool q2.1.Num.fneg, .slice (adOf (partOf 1 (partOf 0 (Ep4 24)))) q2.1.Num.fmag.length (capOf (partOf 1 (partOf 0 (Ep4 24)))), .bool q2.1.Den.fneg, .slice (adOf (partOf 3 (partOf 0 (Ep4 24)))) q2.1.Den.fmag.length (capOf (partOf 3 (partOf 0 (Ep4 24))))], .int .i64 q2.2], fun Ep4 => Ep4 25 = .agg #[.bool q2.1.Num.fneg, .slice (adOf (partOf 1 (partOf 0 (Ep4 24)))) q2.1.Num.fmag.length (capOf (partOf 1 (partOf 0 (Ep4 24)))), .bool q2.1.Den.fneg, .slice (adOf (partOf 3 (partOf 0 (Ep4 24)))) q2.1.Den.fmag.length (capOf (partOf 3 (partOf 0 (Ep4 24))))], fun Ep4 => Ep4 26 = .int .i64 q2.2, fun Ep4 => True, fun Ep4 => Ep4 5 = .int .i64 q2.2] [fun Ep4 => cells b2 94 [.bool a0.Num.fneg, .slice q8 a0.Num.fmag.length c_a0_1, .bool a0.Den.fneg, .slice q9 a0.Den.fmag.length c_a0_3], fun Ep4 => cells b3 94 [.bool b1.Num.fneg, .slice q0a b1.Num.fmag.length c_b1_1, .bool b1.Den.fneg, .slice q0b b1.Den.fmag.length c_b1_3], fun Ep4 => ro ρ, fun Ep4 => bunA (fun (q4 : Heap) => Le ρ q4 ∧ RdS (RpI .u32) q4 (adOf (partOf 1 (Ep4 18))) q0c.fmag.length (capOf (partOf 1 (Ep4 18))) q0c.fmag) (fun (q4 : Heap) => [roD ρ q4]), fun Ep4 => bunA (fun (q5 : Heap) => Le ρ q5 ∧ RdS (RpI .u32) q5 (adOf (partOf 1 (Ep4 23))) q0d.fmag.length (capOf (partOf 1 (Ep4 23))) q0d.fmag) (fun (q5 : Heap) => [roD ρ q5]), fun Ep4 => bunA (fun (q3 : Heap) => Le ρ q3 ∧ RdS (RpI .u32) q3 (adOf (partOf 1 (Ep4 18))) q0c.fmag.length (capOf (partOf 1 (Ep4 18))) q0c.fmag ∧ RdS (RpI .u32) q3 (adOf (partOf 1 (Ep4 23))) q0d.fmag.length (capOf (partOf 1 (Ep4 23))) q0d.fmag ∧ RdS (RpI .u32) q3 (adOf (partOf 1 (partOf 0 (Ep4 24)))) q2.1.Num.fmag.length (capOf (partOf 1 (partOf 0 (Ep4 24)))) q2.1.Num.fmag ∧ RdS (RpI .u32) q3 (adOf (partOf 3 (partOf 0 (Ep4 24)))) q2.1.Den.fmag.length (capOf (partOf 3 (partOf 0 (Ep4 24)))) q2.1.Den.fmag) (fun (q3 : Heap) => [roD ρ q3]), fun Ep4 => cells b4 94 [.bool false, .slice none 0 0, .bool false, .slice none 0 0], fun Ep4 => cells b4 94 [.bool q2.1.Num.fneg, .slice (adOf (partOf 1 (partOf 0 (Ep4 24)))) q2.1.Num.fmag.length (capOf (partOf 1 (partOf 0 (Ep4 24)))), .bool q2.1.Den.fneg, .slice (adOf (partOf 3 (partOf 0 (Ep4 24)))) q2.1.Den.fmag.length (capOf (partOf 3 (partOf 0 (Ep4 24))))]] mixed (by kernel_rfl) (((hS.pull 3).pull 2).pull 3) ?_ ?_
  ·refine ⟨?_, ?_, ?_, ?_, ?_, ?_, ?_, ?_, ?_, ?_, ?_, ?_, ?_, ?_, ?_, trivial⟩
   ·intro Ep4 w l' hE4 hO4 hF_ hS
    refine p (yl_field0 fld_94_0 (hE4 2 rfl)) <| x_done <| ?_
    refine x_fin ⟨⟨_, rfl⟩, rfl, ?_⟩
    exact Eq.mp (by kernel_rfl) hS
   ·intro Ep4 w l' hE4 hO4 hF_ hS
    obtain ⟨q0s, -⟩ := hF_
    replace q0s : Ep4 14 = .pointer (some ⟨b2, 0, none⟩) := Eq.mp (by kernel_rfl) q0s
    replace hS : St w0 w (cells b2 94 [.bool a0.Num.fneg, .slice q8 a0.Num.fmag.length c_a0_1, .bool a0.Den.fneg, .slice q9 a0.Den.fmag.length c_a0_3] :: l') := Eq.mp (by kernel_rfl) hS
    refine pa (v := .agg #[.bool a0.Num.fneg, .slice q8 a0.Num.fmag.length c_a0_1]) (ld_sub agg_79 q0s rfl rfl hS) <| x_done <| ?_
    refine x_fin ⟨⟨_, rfl⟩, rfl, ?_⟩
    exact Eq.mp (by kernel_rfl) hS
   ·intro Ep4 w l' hE4 hO4 hF_ hS
    refine p (yl_field0 fld_94_0 (hE4 3 rfl)) <| x_done <| ?_
    refine x_fin ⟨⟨_, rfl⟩, rfl, ?_⟩
    exact Eq.mp (by kernel_rfl) hS
   ·intro Ep4 w l' hE4 hO4 hF_ hS
    obtain ⟨q0t, -⟩ := hF_
    replace q0t : Ep4 16 = .pointer (some ⟨b3, 0, none⟩) := Eq.mp (by kernel_rfl) q0t
    replace hS : St w0 w (cells b3 94 [.bool b1.Num.fneg, .slice q0a b1.Num.fmag.length c_b1_1, .bool b1.Den.fneg, .slice q0b b1.Den.fmag.length c_b1_3] :: l') := Eq.mp (by kernel_rfl) hS
    refine pa (v := .agg #[.bool b1.Num.fneg, .slice q0a b1.Num.fmag.length c_b1_1]) (ld_sub agg_79 q0t rfl rfl hS) <| x_done <| ?_
    refine x_fin ⟨⟨_, rfl⟩, rfl, ?_⟩
    exact Eq.mp (by kernel_rfl) hS
   ·intro Ep4 w l' hE4 hO4 hF_ hS
    obtain ⟨q0u, q0v, -⟩ := hF_
    replace q0u : Ep4 15 = .agg #[.bool a0.Num.fneg, .slice q8 a0.Num.fmag.length c_a0_1] := Eq.mp (by kernel_rfl) q0u
    replace q0v : Ep4 17 = .agg #[.bool b1.Num.fneg, .slice q0a b1.Num.fmag.length c_b1_1] := Eq.mp (by kernel_rfl) q0v
    replace hS : St w0 w (ro ρ :: l') := Eq.mp (by kernel_rfl) hS
    have hcall := c_exact_times q1u q16 q18 hS
    refine o_cc call_89 (args2 q0u q0v) hcall ?_
    rintro e w' ⟨q4, q0w, q1o, c_y0_ret_1_4_4, rfl, q1k, q6, hS⟩
    refine ⟨_, rfl, ?_⟩
    have e_ := q6.n; subst e_
    refine x_done <| ?_
    refine x_fin ⟨⟨_, rfl⟩, rfl, ?_⟩
    replace hS := St.ro_split q1k hS
    replace hS := St.bun (Φ := (fun (q4 : Heap) => Le ρ q4 ∧ RdS (RpI .u32) q4 q0w q0c.fmag.length c_y0_ret_1_4_4 q0c.fmag)) (L := (fun (q4 : Heap) => [roD ρ q4])) q4 ⟨q1k, q6⟩ (hS.pull 1)
    exact Eq.mp (by kernel_rfl) (hS.pull 1)
   ·intro Ep4 w l' hE4 hO4 hF_ hS
    refine p (yl_field0 fld_94_1 (hE4 2 rfl)) <| x_done <| ?_
    refine x_fin ⟨⟨_, rfl⟩, rfl, ?_⟩
    exact Eq.mp (by kernel_rfl) hS
   ·intro Ep4 w l' hE4 hO4 hF_ hS
    obtain ⟨q0x, -⟩ := hF_
    replace q0x : Ep4 19 = .pointer (some ⟨b2, 2, none⟩) := Eq.mp (by kernel_rfl) q0x
    replace hS : St w0 w (cells b2 94 [.bool a0.Num.fneg, .slice q8 a0.Num.fmag.length c_a0_1, .bool a0.Den.fneg, .slice q9 a0.Den.fmag.length c_a0_3] :: l') := Eq.mp (by kernel_rfl) hS
    refine pa (v := .agg #[.bool a0.Den.fneg, .slice q9 a0.Den.fmag.length c_a0_3]) (ld_sub agg_79 q0x rfl rfl hS) <| x_done <| ?_
    refine x_fin ⟨⟨_, rfl⟩, rfl, ?_⟩
    exact Eq.mp (by kernel_rfl) hS
   ·intro Ep4 w l' hE4 hO4 hF_ hS
    refine p (yl_field0 fld_94_1 (hE4 3 rfl)) <| x_done <| ?_
    refine x_fin ⟨⟨_, rfl⟩, rfl, ?_⟩
    exact Eq.mp (by kernel_rfl) hS
   ·intro Ep4 w l' hE4 hO4 hF_ hS
    obtain ⟨q0y, -⟩ := hF_
    replace q0y : Ep4 21 = .pointer (some ⟨b3, 2, none⟩) := Eq.mp (by kernel_rfl) q0y
    replace hS : St w0 w (cells b3 94 [.bool b1.Num.fneg, .slice q0a b1.Num.fmag.length c_b1_1, .bool b1.Den.fneg, .slice q0b b1.Den.fmag.length c_b1_3] :: l') := Eq.mp (by kernel_rfl) hS
    refine pa (v := .agg #[.bool b1.Den.fneg, .slice q0b b1.Den.fmag.length c_b1_3]) (ld_sub agg_79 q0y rfl rfl hS) <| x_done <| ?_
    refine x_fin ⟨⟨_, rfl⟩, rfl, ?_⟩
    exact Eq.mp (by kernel_rfl) hS
   ·intro Ep4 w l' hE4 hO4 hF_ hS
    obtain ⟨q0z, q10, -⟩ := hF_
    replace q0z : Ep4 20 = .agg #[.bool a0.Den.fneg, .slice q9 a0.Den.fmag.length c_a0_3] := Eq.mp (by kernel_rfl) q0z
    replace q10 : Ep4 22 = .agg #[.bool b1.Den.fneg, .slice q0b b1.Den.fmag.length c_b1_3] := Eq.mp (by kernel_rfl) q10
    replace hS : St w0 w (ro ρ :: l') := Eq.mp (by kernel_rfl) hS
    have hcall := c_exact_times q1v q17 q19 hS
    refine o_cc call_89 (args2 q0z q10) hcall ?_
    rintro e w' ⟨q5, q11, q1p, c_y0_ret_1_4_9, rfl, q1l, q7, hS⟩
    refine ⟨_, rfl, ?_⟩
    have e_ := q7.n; subst e_
    refine x_done <| ?_
    refine x_fin ⟨⟨_, rfl⟩, rfl, ?_⟩
    replace hS := St.ro_split q1l hS
    replace hS := St.bun (Φ := (fun (q5 : Heap) => Le ρ q5 ∧ RdS (RpI .u32) q5 q11 q0d.fmag.length c_y0_ret_1_4_9 q0d.fmag)) (L := (fun (q5 : Heap) => [roD ρ q5])) q5 ⟨q1l, q7⟩ (hS.pull 1)
    exact Eq.mp (by kernel_rfl) (hS.pull 1)
   ·intro Ep4 w l' hE4 hO4 hF_ hS
    obtain ⟨q12, q13, -⟩ := hF_
    replace q12 : Ep4 18 = .agg #[.bool q0c.fneg, .slice (adOf (partOf 1 (Ep4 18))) q0c.fmag.length (capOf (partOf 1 (Ep4 18)))] := Eq.mp (by kernel_rfl) q12
    replace q13 : Ep4 23 = .agg #[.bool q0d.fneg, .slice (adOf (partOf 1 (Ep4 23))) q0d.fmag.length (capOf (partOf 1 (Ep4 23)))] := Eq.mp (by kernel_rfl) q13
    replace hS : St w0 w (ro ρ :: bunA (fun (q4 : Heap) => Le ρ q4 ∧ RdS (RpI .u32) q4 (adOf (partOf 1 (Ep4 18))) q0c.fmag.length (capOf (partOf 1 (Ep4 18))) q0c.fmag) (fun (q4 : Heap) => [roD ρ q4]) :: bunA (fun (q5 : Heap) => Le ρ q5 ∧ RdS (RpI .u32) q5 (adOf (partOf 1 (Ep4 23))) q0d.fmag.length (capOf (partOf 1 (Ep4 23))) q0d.fmag) (fun (q5 : Heap) => [roD ρ q5]) :: l') := Eq.mp (by kernel_rfl) hS
    have q_ := St.unbun (hS.pull 1); obtain ⟨q4, ⟨q1d, q6⟩, hS⟩ := q_
    have q_ := St.ro_join (hS.pull 1) (Le.refl _) q1d; obtain ⟨q1y, q0i, q14, hS, q1w⟩ := q_
    have q_ := St.unbun (hS.pull 1); obtain ⟨q5, ⟨q1e, q7⟩, hS⟩ := q_
    have q_ := St.ro_join (hS.pull 1) q0i q1e; obtain ⟨q1z, q0h, q15, hS, q1x⟩ := q_
    have hcall := c_exact_reduced q1r (q6.le (q14.trans q0h)) (q7.le q15) hS
    refine o_cc call_94 (args2 q12 q13) hcall ?_
    rintro e w' ⟨q3, q0q, q1m, c_y0_ret_1_4_10, q0r, q1n, c_y0_ret_3_4_10, rfl, q0j, q0e, q0f, hS⟩
    refine ⟨_, rfl, ?_⟩
    have e_ := q0e.n; subst e_
    have e_ := q0f.n; subst e_
    refine x_done <| ?_
    refine x_fin ⟨⟨_, rfl⟩, rfl, ?_⟩
    replace hS := St.ro_split ((q0i.trans q0h).trans q0j) hS
    replace hS := St.bun (Φ := (fun (q3 : Heap) => Le ρ q3 ∧ RdS (RpI .u32) q3 (adOf (partOf 1 (Ep4 18))) q0c.fmag.length (capOf (partOf 1 (Ep4 18))) q0c.fmag ∧ RdS (RpI .u32) q3 (adOf (partOf 1 (Ep4 23))) q0d.fmag.length (capOf (partOf 1 (Ep4 23))) q0d.fmag ∧ RdS (RpI .u32) q3 q0q q2.1.Num.fmag.length c_y0_ret_1_4_10 q2.1.Num.fmag ∧ RdS (RpI .u32) q3 q0r q2.1.Den.fmag.length c_y0_ret_3_4_10 q2.1.Den.fmag)) (L := (fun (q3 : Heap) => [roD ρ q3])) q3 ⟨((q0i.trans q0h).trans q0j), (q6.le ((q14.trans q0h).trans q0j)), (q7.le (q15.trans q0j)), q0e, q0f⟩ (hS.pull 1)
    exact Eq.mp (by kernel_rfl) (hS.pull 1)
   ·intro Ep4 w l' hE4 hO4 hF_ hS
    obtain ⟨q0g, -⟩ := hF_
    replace q0g : Ep4 24 = .tuple #[.agg #[.bool q2.1.Num.fneg, .slice (adOf (partOf 1 (partOf 0 (Ep4 24)))) q2.1.Num.fmag.length (capOf (partOf 1 (partOf 0 (Ep4 24)))), .bool q2.1.Den.fneg, .slice (adOf (partOf 3 (partOf 0 (Ep4 24)))) q2.1.Den.fmag.length (capOf (partOf 3 (partOf 0 (Ep4 24))))], .int .i64 q2.2] := Eq.mp (by kernel_rfl) q0g
    refine p (yl_extract q0g rfl) <| x_done <| ?_
    refine x_fin ⟨⟨_, rfl⟩, rfl, ?_⟩
    exact Eq.mp (by kernel_rfl) hS
   ·intro Ep4 w l' hE4 hO4 hF_ hS
    obtain ⟨q0g, -⟩ := hF_
    replace q0g : Ep4 24 = .tuple #[.agg #[.bool q2.1.Num.fneg, .slice (adOf (partOf 1 (partOf 0 (Ep4 24)))) q2.1.Num.fmag.length (capOf (partOf 1 (partOf 0 (Ep4 24)))), .bool q2.1.Den.fneg, .slice (adOf (partOf 3 (partOf 0 (Ep4 24)))) q2.1.Den.fmag.length (capOf (partOf 3 (partOf 0 (Ep4 24))))], .int .i64 q2.2] := Eq.mp (by kernel_rfl) q0g
    refine p (yl_extract q0g rfl) <| x_done <| ?_
    refine x_fin ⟨⟨_, rfl⟩, rfl, ?_⟩
    exact Eq.mp (by kernel_rfl) hS
   ·intro Ep4 w l' hE4 hO4 hF_ hS
    obtain ⟨q0g, q0k, -⟩ := hF_
    replace q0g : Ep4 24 = .tuple #[.agg #[.bool q2.1.Num.fneg, .slice (adOf (partOf 1 (partOf 0 (Ep4 24)))) q2.1.Num.fmag.length (capOf (partOf 1 (partOf 0 (Ep4 24)))), .bool q2.1.Den.fneg, .slice (adOf (partOf 3 (partOf 0 (Ep4 24)))) q2.1.Den.fmag.length (capOf (partOf 3 (partOf 0 (Ep4 24))))], .int .i64 q2.2] := Eq.mp (by kernel_rfl) q0g
    replace q0k : Ep4 25 = .agg #[.bool q2.1.Num.fneg, .slice (adOf (partOf 1 (partOf 0 (Ep4 24)))) q2.1.Num.fmag.length (capOf (partOf 1 (partOf 0 (Ep4 24)))), .bool q2.1.Den.fneg, .slice (adOf (partOf 3 (partOf 0 (Ep4 24)))) q2.1.Den.fmag.length (capOf (partOf 3 (partOf 0 (Ep4 24))))] := Eq.mp (by kernel_rfl) q0k
    replace hS : St w0 w (cells b4 94 [.bool false, .slice none 0 0, .bool false, .slice none 0 0] :: l') := Eq.mp (by kernel_rfl) hS
    refine o_storeAgg (news := [.bool q2.1.Num.fneg, .slice (adOf (partOf 1 (partOf 0 (Ep4 24)))) q2.1.Num.fmag.length (capOf (partOf 1 (partOf 0 (Ep4 24)))), .bool q2.1.Den.fneg, .slice (adOf (partOf 3 (partOf 0 (Ep4 24)))) q2.1.Den.fmag.length (capOf (partOf 3 (partOf 0 (Ep4 24))))]) agg_94 (hE4 4 rfl) q0k rfl (by simp [over_length]) hS (fun w' hS => ?_)
    refine x_done <| ?_
    refine x_fin ⟨⟨undef, rfl⟩, trivial, ?_⟩
    exact Eq.mp (by kernel_rfl) hS
   ·intro Ep4 w l' hE4 hO4 hF_ hS
    obtain ⟨q0l, -⟩ := hF_
    replace q0l : Ep4 26 = .int .i64 q2.2 := Eq.mp (by kernel_rfl) q0l
    refine p (yl_assign q0l) <| x_done <| ?_
    refine x_fin ⟨⟨_, rfl⟩, rfl, ?_⟩
    exact Eq.mp (by kernel_rfl) hS
  intro Ep4 w' hE4 hF_ hS
  obtain ⟨q0s, q0u, q0t, q0v, q12, q0x, q0z, q0y, q10, q13, q0g, q0k, q0l, q1f, -⟩ := hF_
  replace q0s : Ep4 14 = .pointer (some ⟨b2, 0, none⟩) := Eq.mp (by kernel_rfl) q0s
  replace q0u : Ep4 15 = .agg #[.bool a0.Num.fneg, .slice q8 a0.Num.fmag.length c_a0_1] := Eq.mp (by kernel_rfl) q0u
  replace q0t : Ep4 16 = .pointer (some ⟨b3, 0, none⟩) := Eq.mp (by kernel_rfl) q0t
  replace q0v : Ep4 17 = .agg #[.bool b1.Num.fneg, .slice q0a b1.Num.fmag.length c_b1_1] := Eq.mp (by kernel_rfl) q0v
  replace q12 : Ep4 18 = .agg #[.bool q0c.fneg, .slice (adOf (partOf 1 (Ep4 18))) q0c.fmag.length (capOf (partOf 1 (Ep4 18)))] := Eq.mp (by kernel_rfl) q12
  replace q0x : Ep4 19 = .pointer (some ⟨b2, 2, none⟩) := Eq.mp (by kernel_rfl) q0x
  replace q0z : Ep4 20 = .agg #[.bool a0.Den.fneg, .slice q9 a0.Den.fmag.length c_a0_3] := Eq.mp (by kernel_rfl) q0z
  replace q0y : Ep4 21 = .pointer (some ⟨b3, 2, none⟩) := Eq.mp (by kernel_rfl) q0y
  replace q10 : Ep4 22 = .agg #[.bool b1.Den.fneg, .slice q0b b1.Den.fmag.length c_b1_3] := Eq.mp (by kernel_rfl) q10
  replace q13 : Ep4 23 = .agg #[.bool q0d.fneg, .slice (adOf (partOf 1 (Ep4 23))) q0d.fmag.length (capOf (partOf 1 (Ep4 23)))] := Eq.mp (by kernel_rfl) q13
  replace q0g : Ep4 24 = .tuple #[.agg #[.bool q2.1.Num.fneg, .slice (adOf (partOf 1 (partOf 0 (Ep4 24)))) q2.1.Num.fmag.length (capOf (partOf 1 (partOf 0 (Ep4 24)))), .bool q2.1.Den.fneg, .slice (adOf (partOf 3 (partOf 0 (Ep4 24)))) q2.1.Den.fmag.length (capOf (partOf 3 (partOf 0 (Ep4 24))))], .int .i64 q2.2] := Eq.mp (by kernel_rfl) q0g
  replace q0k : Ep4 25 = .agg #[.bool q2.1.Num.fneg, .slice (adOf (partOf 1 (partOf 0 (Ep4 24)))) q2.1.Num.fmag.length (capOf (partOf 1 (partOf 0 (Ep4 24)))), .bool q2.1.Den.fneg, .slice (adOf (partOf 3 (partOf 0 (Ep4 24)))) q2.1.Den.fmag.length (capOf (partOf 3 (partOf 0 (Ep4 24))))] := Eq.mp (by kernel_rfl) q0k
  replace q0l : Ep4 26 = .int .i64 q2.2 := Eq.mp (by kernel_rfl) q0l
  replace q1f : Ep4 5 = .int .i64 q2.2 := Eq.mp (by kernel_rfl) q1f
  replace hS : St w0 w' (cells b2 94 [.bool a0.Num.fneg, .slice q8 a0.Num.fmag.length c_a0_1, .bool a0.Den.fneg, .slice q9 a0.Den.fmag.length c_a0_3] :: cells b3 94 [.bool b1.Num.fneg, .slice q0a b1.Num.fmag.length c_b1_1, .bool b1.Den.fneg, .slice q0b b1.Den.fmag.length c_b1_3] :: ro ρ :: bunA (fun (q3 : Heap) => Le ρ q3 ∧ RdS (RpI .u32) q3 (adOf (partOf 1 (Ep4 18))) q0c.fmag.length (capOf (partOf 1 (Ep4 18))) q0c.fmag ∧ RdS (RpI .u32) q3 (adOf (partOf 1 (Ep4 23))) q0d.fmag.length (capOf (partOf 1 (Ep4 23))) q0d.fmag ∧ RdS (RpI .u32) q3 (adOf (partOf 1 (partOf 0 (Ep4 24)))) q2.1.Num.fmag.length (capOf (partOf 1 (partOf 0 (Ep4 24)))) q2.1.Num.fmag ∧ RdS (RpI .u32) q3 (adOf (partOf 3 (partOf 0 (Ep4 24)))) q2.1.Den.fmag.length (capOf (partOf 3 (partOf 0 (Ep4 24)))) q2.1.Den.fmag) (fun (q3 : Heap) => [roD ρ q3]) :: cells b4 94 [.bool q2.1.Num.fneg, .slice (adOf (partOf 1 (partOf 0 (Ep4 24)))) q2.1.Num.fmag.length (capOf (partOf 1 (partOf 0 (Ep4 24)))), .bool q2.1.Den.fneg, .slice (adOf (partOf 3 (partOf 0 (Ep4 24)))) q2.1.Den.fmag.length (capOf (partOf 3 (partOf 0 (Ep4 24))))] :: (l)) := Eq.mp (by kernel_rfl) hS
  have q_ := St.unbun (hS.pull 3); obtain ⟨q3, ⟨q1b, q6, q7, q0e, q0f⟩, hS⟩ := q_
  have q_ := St.ro_join (hS.pull 3) (Le.refl _) q1b; obtain ⟨q1s, q1q, q1c, hS, q20⟩ := q_
  have e_ := Option.some.inj (show some _ = some _ from hF); subst e_
  exact x_return ⟨_, ⟨_, _, _, rfl, (hE4 4 rfl), ldvA agg_94 rfl (fun j v hj => by rw [add0]; exact St.cell (hS.pull 3) hj), _, _, rfl, q1f, rfl⟩, q1s, (adOf (partOf 1 (partOf 0 (Ep4 24)))), q2.1.Num.fmag.length, (capOf (partOf 1 (partOf 0 (Ep4 24)))), (adOf (partOf 3 (partOf 0 (Ep4 24)))), q2.1.Den.fmag.length, (capOf (partOf 3 (partOf 0 (Ep4 24)))), rfl, q1q, (q0e.le q1c), (q0f.le q1c), ((((hS.pull 1).drop.pull 1).drop.pull 1).drop)⟩
attribute [irreducible] P_exact_Prod

def P_exact_Sum (a0 : T_exact_Ratio) (b1 : T_exact_Ratio) : Option (T_exact_Ratio × Int) :=
 bd (P_exact_both a0 b1) fun q3 =>
 if q3 ≠ 0 then
  some ((T_exact_Ratio.mk (T_exact_Int.mk false []) (T_exact_Int.mk false [])), q3)
 else
  bd (P_exact_times (T_exact_Int.mk a0.Num.fneg a0.Num.fmag) (T_exact_Int.mk b1.Den.fneg b1.Den.fmag)) fun q6 =>
  bd (P_exact_times (T_exact_Int.mk b1.Num.fneg b1.Num.fmag) (T_exact_Int.mk a0.Den.fneg a0.Den.fmag)) fun q7 =>
  bd (P_exact_plus q6 q7) fun q4 =>
  bd (P_exact_times (T_exact_Int.mk a0.Den.fneg a0.Den.fmag) (T_exact_Int.mk b1.Den.fneg b1.Den.fmag)) fun q5 =>
  bd (P_exact_reduced q4 q5) fun q2 =>
  some (q2.1, q2.2)
set_option maxHeartbeats 4000000 in
set_option maxRecDepth 100000 in
theorem c_exact_Sum {w0 w : World} {l : List Assn} {ρ : Heap} {q0i : Option Addr} {q22 : Nat} {c_a0_1 : Nat} {q8 : Option Addr} {q23 : Nat} {c_a0_3 : Nat} {q0j : Option Addr} {q24 : Nat} {c_b1_1 : Nat} {q9 : Option Addr} {q25 : Nat} {c_b1_3 : Nat} {a0 : T_exact_Ratio} {b1 : T_exact_Ratio} {r : (T_exact_Ratio × Int)} (hF : P_exact_Sum a0 b1 = some r) (q1r : RdS (RpI .u32) ρ q0i q22 c_a0_1 a0.Num.fmag) (q14 : RdS (RpI .u32) ρ q8 q23 c_a0_3 a0.Den.fmag) (q1s : RdS (RpI .u32) ρ q0j q24 c_b1_1 b1.Num.fmag) (q15 : RdS (RpI .u32) ρ q9 q25 c_b1_3 b1.Den.fmag) (hS : St w0 w (ro ρ :: l)) :
  Calls Try.prog 48 #[.agg #[.bool a0.Num.fneg, .slice q0i q22 c_a0_1, .bool a0.Den.fneg, .slice q8 q23 c_a0_3], .agg #[.bool b1.Num.fneg, .slice q0j q24 c_b1_1, .bool b1.Den.fneg, .slice q9 q25 c_b1_3]] w fun e w' => ∃ (ρ' : Heap) (q16 : Option Addr) (q17 : Nat) (c_y0_ret_1 : Nat) (q18 : Option Addr) (q19 : Nat) (c_y0_ret_3 : Nat), e = .returned (.tuple #[.agg #[.bool r.1.Num.fneg, .slice q16 q17 c_y0_ret_1, .bool r.1.Den.fneg, .slice q18 q19 c_y0_ret_3], .int .i64 r.2]) ∧ Le ρ ρ' ∧ RdS (RpI .u32) ρ' q16 q17 c_y0_ret_1 r.1.Num.fmag ∧ RdS (RpI .u32) ρ' q18 q19 c_y0_ret_3 r.1.Den.fmag ∧ St w0 w' (ro ρ' :: l) := by
 have e_ := q1r.n; subst e_
 have e_ := q14.n; subst e_
 have e_ := q1s.n; subst e_
 have e_ := q15.n; subst e_
 refine enterC Try.func48 rfl 33 rfl (by simp) ?_
 refine x_seq <| x_region <| ?_
 refine o_box (cs := [.bool a0.Num.fneg, .slice q0i a0.Num.fmag.length c_a0_1, .bool a0.Den.fneg, .slice q8 a0.Den.fmag.length c_a0_3]) rfl rfl hS (fun b2 w' hS => ?_)
 refine o_box (cs := [.bool b1.Num.fneg, .slice q0j b1.Num.fmag.length c_b1_1, .bool b1.Den.fneg, .slice q9 b1.Den.fmag.length c_b1_3]) rfl rfl hS (fun b3 w' hS => ?_)
 refine o_alloc zero_94 hS (fun b4 w' hS => ?_)
 replace hF := bd_s hF; obtain ⟨q1t, q2j, hF⟩ := hF
 refine p (yl_assign rfl) <| x_done <| x_seq <| x_seq <|
  x_region <| pa (v := .agg #[.bool a0.Num.fneg, .slice q0i a0.Num.fmag.length c_a0_1, .bool a0.Den.fneg, .slice q8 a0.Den.fmag.length c_a0_3]) (ld_sub agg_94 rfl rfl rfl (hS.pull 2)) <| pa (v := .agg #[.bool b1.Num.fneg, .slice q0j b1.Num.fmag.length c_b1_1, .bool b1.Den.fneg, .slice q9 b1.Den.fmag.length c_b1_3]) (ld_sub agg_94 rfl rfl rfl (hS.pull 1)) <| ?_
 have hcall := c_exact_both q2j q1r q14 q1s q15 (hS.pull 3)
 refine o_cc call_95 (args2 rfl rfl) ((Calls.mono hcall (fun e w'' h => And.intro h.1 (((h.2.pull 3).pull 3).pull 3)))) ?_
 rintro e w' ⟨rfl, hS⟩
 refine ⟨_, rfl, ?_⟩
 refine p (v := .int .i64 q1t) (yl_assign rfl) <| x_done <| x_seq <| x_region <|
  p (v := .int .i64 q1t) (yl_move rfl) <| p (yl_neq rfl rfl) <| x_done <|
  x_cond_p (q1t ≠ 0) rfl (fun hc11 => ?_) (fun hc11 => ?_)
 ·replace hF := it_t hc11 hF
  refine x_seq <| x_region <| p (v := .agg #[.bool false, .slice none 0 0, .bool false, .slice none 0 0]) (yl_build bld_94 bldf_94 (parts_eq pt0) (by kernel_rfl)) <| p (v := .int .i64 q1t) (yl_move rfl) <| ?_
  refine o_storeAgg (news := [.bool false, .slice none 0 0, .bool false, .slice none 0 0]) agg_94 rfl rfl rfl (by simp [over_length]) hS (fun w' hS => ?_)
  refine p (v := .int .i64 q1t) (yl_assign rfl) <| x_done <| ?_
  have e_ := Option.some.inj (show some _ = some _ from hF); subst e_
  exact x_return ⟨_, ⟨_, _, _, rfl, rfl, ldvA agg_94 rfl (fun j v hj => by rw [add0]; exact St.cell hS hj), _, _, rfl, rfl, rfl⟩, ρ, none, 0, 0, none, 0, 0, rfl, (Le.refl _), (RdS.nil (A := none) (c := 0)), (RdS.nil (A := none) (c := 0)), hS.drop.drop.drop⟩
 ·replace hF := it_f hc11 hF
  refine x_skip <| x_seq <| ?_
  replace hF := bd_s hF; obtain ⟨q0a, q2k, hF⟩ := hF
  replace hF := bd_s hF; obtain ⟨q0b, q2l, hF⟩ := hF
  replace hF := bd_s hF; obtain ⟨q0g, q2f, hF⟩ := hF
  replace hF := bd_s hF; obtain ⟨q0h, q2g, hF⟩ := hF
  replace hF := bd_s hF; obtain ⟨q2, q2h, hF⟩ := hF
  refine x_par (w0 := w0) [⟨[], [], [14], [], [], []⟩, ⟨[0], [0], [15], [0], [], []⟩, ⟨[], [], [16], [], [], []⟩, ⟨[2], [2], [17], [1], [], []⟩, ⟨[0, 1, 2, 3], [1, 3], [18], [2], [], [3]⟩, ⟨[], [], [19], [], [], []⟩, ⟨[5], [5], [20], [1], [], []⟩, ⟨[], [], [21], [], [], []⟩, ⟨[7], [7], [22], [0], [], []⟩, ⟨[0, 1, 2, 3, 4, 5, 6, 7, 8], [6, 8], [23], [2], [], [4]⟩, ⟨[0, 1, 2, 3, 4, 5, 6, 7, 8, 9], [4, 9], [24], [2], [3, 4], [5]⟩, ⟨[], [], [25], [], [], []⟩, ⟨[11], [11], [26], [0], [], []⟩, ⟨[], [], [27], [], [], []⟩, ⟨[13], [13], [28], [1], [], []⟩, ⟨[0, 1, 2, 3, 4, 5, 6, 7, 8, 9, 10, 11, 12, 13, 14], [12, 14], [29], [2], [], [6]⟩, ⟨[0, 1, 2, 3, 4, 5, 6, 7, 8, 9, 10, 11, 12, 13, 14, 15], [4, 9, 10, 15], [30], [2], [5, 6], [7]⟩, ⟨[0, 1, 2, 3, 4, 5, 6, 7, 8, 9, 10, 11, 12, 13, 14, 15, 16], [16], [30, 31], [], [], []⟩, ⟨[0, 1, 2, 3, 4, 5, 6, 7, 8, 9, 10, 11, 12, 13, 14, 15, 16], [16], [32], [], [], []⟩, ⟨[0, 1, 2, 3, 4, 5, 6, 7, 8, 9, 10, 11, 12, 13, 14, 15, 16, 17, 18], [16, 17], [], [], [8], [9]⟩, ⟨[0, 1, 2, 3, 4, 5, 6, 7, 8, 9, 10, 11, 12, 13, 14, 15, 16, 17, 18, 19], [18], [5], [], [], []⟩] [⟨none, none, []⟩, ⟨none, none, []⟩, ⟨none, none, []⟩, ⟨(some 4), (some 10), [18]⟩, ⟨(some 9), (some 10), [23]⟩, ⟨(some 10), (some 16), [18, 23, 24]⟩, ⟨(some 15), (some 16), [29]⟩, ⟨(some 16), none, [18, 23, 24, 29, 30]⟩, ⟨none, (some 19), []⟩, ⟨(some 19), none, [30]⟩] [5, 14, 15, 16, 17, 18, 19, 20, 21, 22, 23, 24, 25, 26, 27, 28, 29, 30, 31, 32] [0, 1, 2, 8] [0, 1, 2, 7, 9] [0, 1, 2, 3, 4, 5, 6, 7, 8, 9, 10, 11, 12, 13, 14, 15, 16, 17, 18, 20] [fun Ep4 => Ep4 14 = .pointer (some ⟨b2, 0, none⟩), fun Ep4 => Ep4 15 = .agg #[.bool a0.Num.fneg, .slice q0i a0.Num.fmag.length c_a0_1], fun Ep4 => Ep4 16 = .pointer (some ⟨b3, 2, none⟩), fun Ep4 => Ep4 17 = .agg #[.bool b1.Den.fneg, .slice q9 b1.Den.fmag.length c_b1_3], fun Ep4 => Ep4 18 = .agg #[.bool q0a.fneg, .slice (adOf (partOf 1 (Ep4 18))) q0a.fmag.length (capOf (partOf 1 (Ep4 18)))], fun Ep4 => Ep4 19 = .pointer (some ⟨b3, 0, none⟩), fun Ep4 => Ep4 20 = .agg #[.bool b1.Num.fneg, .slice q0j b1.Num.fmag.length c_b1_1], fun Ep4 => Ep4 21 = .pointer (some ⟨b2, 2, none⟩), fun Ep4 => Ep4 22 = .agg #[.bool a0.Den.fneg, .slice q8 a0.Den.fmag.length c_a0_3], fun Ep4 => Ep4 23 = .agg #[.bool q0b.fneg, .slice (adOf (partOf 1 (Ep4 23))) q0b.fmag.length (capOf (partOf 1 (Ep4 23)))], fun Ep4 => Ep4 24 = .agg #[.bool q0g.fneg, .slice (adOf (partOf 1 (Ep4 24))) q0g.fmag.length (capOf (partOf 1 (Ep4 24)))], fun Ep4 => Ep4 25 = .pointer (some ⟨b2, 2, none⟩), fun Ep4 => Ep4 26 = .agg #[.bool a0.Den.fneg, .slice q8 a0.Den.fmag.length c_a0_3], fun Ep4 => Ep4 27 = .pointer (some ⟨b3, 2, none⟩), fun Ep4 => Ep4 28 = .agg #[.bool b1.Den.fneg, .slice q9 b1.Den.fmag.length c_b1_3], fun Ep4 => Ep4 29 = .agg #[.bool q0h.fneg, .slice (adOf (partOf 1 (Ep4 29))) q0h.fmag.length (capOf (partOf 1 (Ep4 29)))], fun Ep4 => Ep4 30 = .tuple #[.agg #[.bool q2.1.Num.fneg, .slice (adOf (partOf 1 (partOf 0 (Ep4 30)))) q2.1.Num.fmag.length (capOf (partOf 1 (partOf 0 (Ep4 30)))), .bool q2.1.Den.fneg, .slice (adOf (partOf 3 (partOf 0 (Ep4 30)))) q2.1.Den.fmag.length (capOf (partOf 3 (partOf 0 (Ep4 30))))], .int .i64 q2.2], fun Ep4 => Ep4 31 = .agg #[.bool q2.1.Num.fneg, .slice (adOf (partOf 1 (partOf 0 (Ep4 30)))) q2.1.Num.fmag.length (capOf (partOf 1 (partOf 0 (Ep4 30)))), .bool q2.1.Den.fneg, .slice (adOf (partOf 3 (partOf 0 (Ep4 30)))) q2.1.Den.fmag.length (capOf (partOf 3 (partOf 0 (Ep4 30))))], fun Ep4 => Ep4 32 = .int .i64 q2.2, fun Ep4 => True, fun Ep4 => Ep4 5 = .int .i64 q2.2] [fun Ep4 => cells b2 94 [.bool a0.Num.fneg, .slice q0i a0.Num.fmag.length c_a0_1, .bool a0.Den.fneg, .slice q8 a0.Den.fmag.length c_a0_3], fun Ep4 => cells b3 94 [.bool b1.Num.fneg, .slice q0j b1.Num.fmag.length c_b1_1, .bool b1.Den.fneg, .slice q9 b1.Den.fmag.length c_b1_3], fun Ep4 => ro ρ, fun Ep4 => bunA (fun (q0c : Heap) => Le ρ q0c ∧ RdS (RpI .u32) q0c (adOf (partOf 1 (Ep4 18))) q0a.fmag.length (capOf (partOf 1 (Ep4 18))) q0a.fmag) (fun (q0c : Heap) => [roD ρ q0c]), fun Ep4 => bunA (fun (q0d : Heap) => Le ρ q0d ∧ RdS (RpI .u32) q0d (adOf (partOf 1 (Ep4 23))) q0b.fmag.length (capOf (partOf 1 (Ep4 23))) q0b.fmag) (fun (q0d : Heap) => [roD ρ q0d]), fun Ep4 => bunA (fun (q4 : Heap) => Le ρ q4 ∧ RdS (RpI .u32) q4 (adOf (partOf 1 (Ep4 18))) q0a.fmag.length (capOf (partOf 1 (Ep4 18))) q0a.fmag ∧ RdS (RpI .u32) q4 (adOf (partOf 1 (Ep4 23))) q0b.fmag.length (capOf (partOf 1 (Ep4 23))) q0b.fmag ∧ RdS (RpI .u32) q4 (adOf (partOf 1 (Ep4 24))) q0g.fmag.length (capOf (partOf 1 (Ep4 24))) q0g.fmag) (fun (q4 : Heap) => [roD ρ q4]), fun Ep4 => bunA (fun (q5 : Heap) => Le ρ q5 ∧ RdS (RpI .u32) q5 (adOf (partOf 1 (Ep4 29))) q0h.fmag.length (capOf (partOf 1 (Ep4 29))) q0h.fmag) (fun (q5 : Heap) => [roD ρ q5]), fun Ep4 => bunA (fun (q3 : Heap) => Le ρ q3 ∧ RdS (RpI .u32) q3 (adOf (partOf 1 (Ep4 18))) q0a.fmag.length (capOf (partOf 1 (Ep4 18))) q0a.fmag ∧ RdS (RpI .u32) q3 (adOf (partOf 1 (Ep4 23))) q0b.fmag.length (capOf (partOf 1 (Ep4 23))) q0b.fmag ∧ RdS (RpI .u32) q3 (adOf (partOf 1 (Ep4 24))) q0g.fmag.length (capOf (partOf 1 (Ep4 24))) q0g.fmag ∧ RdS (RpI .u32) q3 (adOf (partOf 1 (Ep4 29))) q0h.fmag.length (capOf (partOf 1 (Ep4 29))) q0h.fmag ∧ RdS (RpI .u32) q3 (adOf (partOf 1 (partOf 0 (Ep4 30)))) q2.1.Num.fmag.length (capOf (partOf 1 (partOf 0 (Ep4 30)))) q2.1.Num.fmag ∧ RdS (RpI .u32) q3 (adOf (partOf 3 (partOf 0 (Ep4 30)))) q2.1.Den.fmag.length (capOf (partOf 3 (partOf 0 (Ep4 30)))) q2.1.Den.fmag) (fun (q3 : Heap) => [roD ρ q3]), fun Ep4 => cells b4 94 [.bool false, .slice none 0 0, .bool false, .slice none 0 0], fun Ep4 => cells b4 94 [.bool q2.1.Num.fneg, .slice (adOf (partOf 1 (partOf 0 (Ep4 30)))) q2.1.Num.fmag.length (capOf (partOf 1 (partOf 0 (Ep4 30)))), .bool q2.1.Den.fneg, .slice (adOf (partOf 3 (partOf 0 (Ep4 30)))) q2.1.Den.fmag.length (capOf (partOf 3 (partOf 0 (Ep4 30))))]] mixed (by kernel_rfl) (((hS.pull 3).pull 2).pull 3) ?_ ?_
  ·refine ⟨?_, ?_, ?_, ?_, ?_, ?_, ?_, ?_, ?_, ?_, ?_, ?_, ?_, ?_, ?_, ?_, ?_, ?_, ?_, ?_, ?_, trivial⟩
   ·intro Ep4 w l' hE4 hO4 hF_ hS
    refine p (yl_field0 fld_94_0 (hE4 2 rfl)) <| x_done <| ?_
    refine x_fin ⟨⟨_, rfl⟩, rfl, ?_⟩
    exact Eq.mp (by kernel_rfl) hS
   ·intro Ep4 w l' hE4 hO4 hF_ hS
    obtain ⟨q1e, -⟩ := hF_
    replace q1e : Ep4 14 = .pointer (some ⟨b2, 0, none⟩) := Eq.mp (by kernel_rfl) q1e
    replace hS : St w0 w (cells b2 94 [.bool a0.Num.fneg, .slice q0i a0.Num.fmag.length c_a0_1, .bool a0.Den.fneg, .slice q8 a0.Den.fmag.length c_a0_3] :: l') := Eq.mp (by kernel_rfl) hS
    refine pa (v := .agg #[.bool a0.Num.fneg, .slice q0i a0.Num.fmag.length c_a0_1]) (ld_sub agg_79 q1e rfl rfl hS) <| x_done <| ?_
    refine x_fin ⟨⟨_, rfl⟩, rfl, ?_⟩
    exact Eq.mp (by kernel_rfl) hS
   ·intro Ep4 w l' hE4 hO4 hF_ hS
    refine p (yl_field0 fld_94_1 (hE4 3 rfl)) <| x_done <| ?_
    refine x_fin ⟨⟨_, rfl⟩, rfl, ?_⟩
    exact Eq.mp (by kernel_rfl) hS
   ·intro Ep4 w l' hE4 hO4 hF_ hS
    obtain ⟨q1f, -⟩ := hF_
    replace q1f : Ep4 16 = .pointer (some ⟨b3, 2, none⟩) := Eq.mp (by kernel_rfl) q1f
    replace hS : St w0 w (cells b3 94 [.bool b1.Num.fneg, .slice q0j b1.Num.fmag.length c_b1_1, .bool b1.Den.fneg, .slice q9 b1.Den.fmag.length c_b1_3] :: l') := Eq.mp (by kernel_rfl) hS
    refine pa (v := .agg #[.bool b1.Den.fneg, .slice q9 b1.Den.fmag.length c_b1_3]) (ld_sub agg_79 q1f rfl rfl hS) <| x_done <| ?_
    refine x_fin ⟨⟨_, rfl⟩, rfl, ?_⟩
    exact Eq.mp (by kernel_rfl) hS
   ·intro Ep4 w l' hE4 hO4 hF_ hS
    obtain ⟨q1g, q1h, -⟩ := hF_
    replace q1g : Ep4 15 = .agg #[.bool a0.Num.fneg, .slice q0i a0.Num.fmag.length c_a0_1] := Eq.mp (by kernel_rfl) q1g
    replace q1h : Ep4 17 = .agg #[.bool b1.Den.fneg, .slice q9 b1.Den.fmag.length c_b1_3] := Eq.mp (by kernel_rfl) q1h
    replace hS : St w0 w (ro ρ :: l') := Eq.mp (by kernel_rfl) hS
    have hcall := c_exact_times q2k q1r q15 hS
    refine o_cc call_89 (args2 q1g q1h) hcall ?_
    rintro e w' ⟨q0c, q1i, q2c, c_y0_ret_1_4_4, rfl, q26, q6, hS⟩
    refine ⟨_, rfl, ?_⟩
    have e_ := q6.n; subst e_
    refine x_done <| ?_
    refine x_fin ⟨⟨_, rfl⟩, rfl, ?_⟩
    replace hS := St.ro_split q26 hS
    replace hS := St.bun (Φ := (fun (q0c : Heap) => Le ρ q0c ∧ RdS (RpI .u32) q0c q1i q0a.fmag.length c_y0_ret_1_4_4 q0a.fmag)) (L := (fun (q0c : Heap) => [roD ρ q0c])) q0c ⟨q26, q6⟩ (hS.pull 1)
    exact Eq.mp (by kernel_rfl) (hS.pull 1)
   ·intro Ep4 w l' hE4 hO4 hF_ hS
    refine p (yl_field0 fld_94_0 (hE4 3 rfl)) <| x_done <| ?_
    refine x_fin ⟨⟨_, rfl⟩, rfl, ?_⟩
    exact Eq.mp (by kernel_rfl) hS
   ·intro Ep4 w l' hE4 hO4 hF_ hS
    obtain ⟨q1j, -⟩ := hF_
    replace q1j : Ep4 19 = .pointer (some ⟨b3, 0, none⟩) := Eq.mp (by kernel_rfl) q1j
    replace hS : St w0 w (cells b3 94 [.bool b1.Num.fneg, .slice q0j b1.Num.fmag.length c_b1_1, .bool b1.Den.fneg, .slice q9 b1.Den.fmag.length c_b1_3] :: l') := Eq.mp (by kernel_rfl) hS
    refine pa (v := .agg #[.bool b1.Num.fneg, .slice q0j b1.Num.fmag.length c_b1_1]) (ld_sub agg_79 q1j rfl rfl hS) <| x_done <| ?_
    refine x_fin ⟨⟨_, rfl⟩, rfl, ?_⟩
    exact Eq.mp (by kernel_rfl) hS
   ·intro Ep4 w l' hE4 hO4 hF_ hS
    refine p (yl_field0 fld_94_1 (hE4 2 rfl)) <| x_done <| ?_
    refine x_fin ⟨⟨_, rfl⟩, rfl, ?_⟩
    exact Eq.mp (by kernel_rfl) hS
   ·intro Ep4 w l' hE4 hO4 hF_ hS
    obtain ⟨q1k, -⟩ := hF_
    replace q1k : Ep4 21 = .pointer (some ⟨b2, 2, none⟩) := Eq.mp (by kernel_rfl) q1k
    replace hS : St w0 w (cells b2 94 [.bool a0.Num.fneg, .slice q0i a0.Num.fmag.length c_a0_1, .bool a0.Den.fneg, .slice q8 a0.Den.fmag.length c_a0_3] :: l') := Eq.mp (by kernel_rfl) hS
    refine pa (v := .agg #[.bool a0.Den.fneg, .slice q8 a0.Den.fmag.length c_a0_3]) (ld_sub agg_79 q1k rfl rfl hS) <| x_done <| ?_
    refine x_fin ⟨⟨_, rfl⟩, rfl, ?_⟩
    exact Eq.mp (by kernel_rfl) hS
   ·intro Ep4 w l' hE4 hO4 hF_ hS
    obtain ⟨q1l, q1m, -⟩ := hF_
    replace q1l : Ep4 20 = .agg #[.bool b1.Num.fneg, .slice q0j b1.Num.fmag.length c_b1_1] := Eq.mp (by kernel_rfl) q1l
    replace q1m : Ep4 22 = .agg #[.bool a0.Den.fneg, .slice q8 a0.Den.fmag.length c_a0_3] := Eq.mp (by kernel_rfl) q1m
    replace hS : St w0 w (ro ρ :: l') := Eq.mp (by kernel_rfl) hS
    have hcall := c_exact_times q2l q1s q14 hS
    refine o_cc call_89 (args2 q1l q1m) hcall ?_
    rintro e w' ⟨q0d, q1n, q2d, c_y0_ret_1_4_9, rfl, q27, q7, hS⟩
    refine ⟨_, rfl, ?_⟩
    have e_ := q7.n; subst e_
    refine x_done <| ?_
    refine x_fin ⟨⟨_, rfl⟩, rfl, ?_⟩
    replace hS := St.ro_split q27 hS
    replace hS := St.bun (Φ := (fun (q0d : Heap) => Le ρ q0d ∧ RdS (RpI .u32) q0d q1n q0b.fmag.length c_y0_ret_1_4_9 q0b.fmag)) (L := (fun (q0d : Heap) => [roD ρ q0d])) q0d ⟨q27, q7⟩ (hS.pull 1)
    exact Eq.mp (by kernel_rfl) (hS.pull 1)
   ·intro Ep4 w l' hE4 hO4 hF_ hS
    obtain ⟨q0r, q0s, -⟩ := hF_
    replace q0r : Ep4 18 = .agg #[.bool q0a.fneg, .slice (adOf (partOf 1 (Ep4 18))) q0a.fmag.length (capOf (partOf 1 (Ep4 18)))] := Eq.mp (by kernel_rfl) q0r
    replace q0s : Ep4 23 = .agg #[.bool q0b.fneg, .slice (adOf (partOf 1 (Ep4 23))) q0b.fmag.length (capOf (partOf 1 (Ep4 23)))] := Eq.mp (by kernel_rfl) q0s
    replace hS : St w0 w (ro ρ :: bunA (fun (q0c : Heap) => Le ρ q0c ∧ RdS (RpI .u32) q0c (adOf (partOf 1 (Ep4 18))) q0a.fmag.length (capOf (partOf 1 (Ep4 18))) q0a.fmag) (fun (q0c : Heap) => [roD ρ q0c]) :: bunA (fun (q0d : Heap) => Le ρ q0d ∧ RdS (RpI .u32) q0d (adOf (partOf 1 (Ep4 23))) q0b.fmag.length (capOf (partOf 1 (Ep4 23))) q0b.fmag) (fun (q0d : Heap) => [roD ρ q0d]) :: l') := Eq.mp (by kernel_rfl) hS
    have q_ := St.unbun (hS.pull 1); obtain ⟨q0c, ⟨q1z, q6⟩, hS⟩ := q_
    have q_ := St.ro_join (hS.pull 1) (Le.refl _) q1z; obtain ⟨q2q, q0t, q1o, hS, q2m⟩ := q_
    have q_ := St.unbun (hS.pull 1); obtain ⟨q0d, ⟨q20, q7⟩, hS⟩ := q_
    have q_ := St.ro_join (hS.pull 1) q0t q20; obtain ⟨q2r, q0p, q1p, hS, q2n⟩ := q_
    have hcall := c_exact_plus q2f (q6.le (q1o.trans q0p)) (q7.le q1p) hS
    refine o_cc call_96 (args2 q0r q0s) hcall ?_
    rintro e w' ⟨q4, q1a, q28, c_y0_ret_1_4_10, rfl, q0v, q0e, hS⟩
    refine ⟨_, rfl, ?_⟩
    have e_ := q0e.n; subst e_
    refine x_done <| ?_
    refine x_fin ⟨⟨_, rfl⟩, rfl, ?_⟩
    replace hS := St.ro_split ((q0t.trans q0p).trans q0v) hS
    replace hS := St.bun (Φ := (fun (q4 : Heap) => Le ρ q4 ∧ RdS (RpI .u32) q4 (adOf (partOf 1 (Ep4 18))) q0a.fmag.length (capOf (partOf 1 (Ep4 18))) q0a.fmag ∧ RdS (RpI .u32) q4 (adOf (partOf 1 (Ep4 23))) q0b.fmag.length (capOf (partOf 1 (Ep4 23))) q0b.fmag ∧ RdS (RpI .u32) q4 q1a q0g.fmag.length c_y0_ret_1_4_10 q0g.fmag)) (L := (fun (q4 : Heap) => [roD ρ q4])) q4 ⟨((q0t.trans q0p).trans q0v), (q6.le ((q1o.trans q0p).trans q0v)), (q7.le (q1p.trans q0v)), q0e⟩ (hS.pull 1)
    exact Eq.mp (by kernel_rfl) (hS.pull 1)
   ·intro Ep4 w l' hE4 hO4 hF_ hS
    refine p (yl_field0 fld_94_1 (hE4 2 rfl)) <| x_done <| ?_
    refine x_fin ⟨⟨_, rfl⟩, rfl, ?_⟩
    exact Eq.mp (by kernel_rfl) hS
   ·intro Ep4 w l' hE4 hO4 hF_ hS
    obtain ⟨q0w, -⟩ := hF_
    replace q0w : Ep4 25 = .pointer (some ⟨b2, 2, none⟩) := Eq.mp (by kernel_rfl) q0w
    replace hS : St w0 w (cells b2 94 [.bool a0.Num.fneg, .slice q0i a0.Num.fmag.length c_a0_1, .bool a0.Den.fneg, .slice q8 a0.Den.fmag.length c_a0_3] :: l') := Eq.mp (by kernel_rfl) hS
    refine pa (v := .agg #[.bool a0.Den.fneg, .slice q8 a0.Den.fmag.length c_a0_3]) (ld_sub agg_79 q0w rfl rfl hS) <| x_done <| ?_
    refine x_fin ⟨⟨_, rfl⟩, rfl, ?_⟩
    exact Eq.mp (by kernel_rfl) hS
   ·intro Ep4 w l' hE4 hO4 hF_ hS
    refine p (yl_field0 fld_94_1 (hE4 3 rfl)) <| x_done <| ?_
    refine x_fin ⟨⟨_, rfl⟩, rfl, ?_⟩
    exact Eq.mp (by kernel_rfl) hS
   ·intro Ep4 w l' hE4 hO4 hF_ hS
    obtain ⟨q0x, -⟩ := hF_
    replace q0x : Ep4 27 = .pointer (some ⟨b3, 2, none⟩) := Eq.mp (by kernel_rfl) q0x
    replace hS : St w0 w (cells b3 94 [.bool b1.Num.fneg, .slice q0j b1.Num.fmag.length c_b1_1, .bool b1.Den.fneg, .slice q9 b1.Den.fmag.length c_b1_3] :: l') := Eq.mp (by kernel_rfl) hS
    refine pa (v := .agg #[.bool b1.Den.fneg, .slice q9 b1.Den.fmag.length c_b1_3]) (ld_sub agg_79 q0x rfl rfl hS) <| x_done <| ?_
    refine x_fin ⟨⟨_, rfl⟩, rfl, ?_⟩
    exact Eq.mp (by kernel_rfl) hS
   ·intro Ep4 w l' hE4 hO4 hF_ hS
    obtain ⟨q0y, q0z, -⟩ := hF_
    replace q0y : Ep4 26 = .agg #[.bool a0.Den.fneg, .slice q8 a0.Den.fmag.length c_a0_3] := Eq.mp (by kernel_rfl) q0y
    replace q0z : Ep4 28 = .agg #[.bool b1.Den.fneg, .slice q9 b1.Den.fmag.length c_b1_3] := Eq.mp (by kernel_rfl) q0z
    replace hS : St w0 w (ro ρ :: l') := Eq.mp (by kernel_rfl) hS
    have hcall := c_exact_times q2g q14 q15 hS
    refine o_cc call_89 (args2 q0y q0z) hcall ?_
    rintro e w' ⟨q5, q1b, q29, c_y0_ret_1_4_15, rfl, q1x, q0f, hS⟩
    refine ⟨_, rfl, ?_⟩
    have e_ := q0f.n; subst e_
    refine x_done <| ?_
    refine x_fin ⟨⟨_, rfl⟩, rfl, ?_⟩
    replace hS := St.ro_split q1x hS
    replace hS := St.bun (Φ := (fun (q5 : Heap) => Le ρ q5 ∧ RdS (RpI .u32) q5 q1b q0h.fmag.length c_y0_ret_1_4_15 q0h.fmag)) (L := (fun (q5 : Heap) => [roD ρ q5])) q5 ⟨q1x, q0f⟩ (hS.pull 1)
    exact Eq.mp (by kernel_rfl) (hS.pull 1)
   ·intro Ep4 w l' hE4 hO4 hF_ hS
    obtain ⟨q0r, q0s, q10, q11, -⟩ := hF_
    replace q0r : Ep4 18 = .agg #[.bool q0a.fneg, .slice (adOf (partOf 1 (Ep4 18))) q0a.fmag.length (capOf (partOf 1 (Ep4 18)))] := Eq.mp (by kernel_rfl) q0r
    replace q0s : Ep4 23 = .agg #[.bool q0b.fneg, .slice (adOf (partOf 1 (Ep4 23))) q0b.fmag.length (capOf (partOf 1 (Ep4 23)))] := Eq.mp (by kernel_rfl) q0s
    replace q10 : Ep4 24 = .agg #[.bool q0g.fneg, .slice (adOf (partOf 1 (Ep4 24))) q0g.fmag.length (capOf (partOf 1 (Ep4 24)))] := Eq.mp (by kernel_rfl) q10
    replace q11 : Ep4 29 = .agg #[.bool q0h.fneg, .slice (adOf (partOf 1 (Ep4 29))) q0h.fmag.length (capOf (partOf 1 (Ep4 29)))] := Eq.mp (by kernel_rfl) q11
    replace hS : St w0 w (ro ρ :: bunA (fun (q4 : Heap) => Le ρ q4 ∧ RdS (RpI .u32) q4 (adOf (partOf 1 (Ep4 18))) q0a.fmag.length (capOf (partOf 1 (Ep4 18))) q0a.fmag ∧ RdS (RpI .u32) q4 (adOf (partOf 1 (Ep4 23))) q0b.fmag.length (capOf (partOf 1 (Ep4 23))) q0b.fmag ∧ RdS (RpI .u32) q4 (adOf (partOf 1 (Ep4 24))) q0g.fmag.length (capOf (partOf 1 (Ep4 24))) q0g.fmag) (fun (q4 : Heap) => [roD ρ q4]) :: bunA (fun (q5 : Heap) => Le ρ q5 ∧ RdS (RpI .u32) q5 (adOf (partOf 1 (Ep4 29))) q0h.fmag.length (capOf (partOf 1 (Ep4 29))) q0h.fmag) (fun (q5 : Heap) => [roD ρ q5]) :: l') := Eq.mp (by kernel_rfl) hS
    have q_ := St.unbun (hS.pull 1); obtain ⟨q4, ⟨q1u, q6, q7, q0e⟩, hS⟩ := q_
    have q_ := St.ro_join (hS.pull 1) (Le.refl _) q1u; obtain ⟨q2s, q0u, q0q, hS, q2o⟩ := q_
    have q_ := St.unbun (hS.pull 1); obtain ⟨q5, ⟨q1v, q0f⟩, hS⟩ := q_
    have q_ := St.ro_join (hS.pull 1) q0u q1v; obtain ⟨q2t, q0n, q1q, hS, q2p⟩ := q_
    have hcall := c_exact_reduced q2h (q0e.le (q0q.trans q0n)) (q0f.le q1q) hS
    refine o_cc call_94 (args2 q10 q11) hcall ?_
    rintro e w' ⟨q3, q1c, q2a, c_y0_ret_1_4_16, q1d, q2b, c_y0_ret_3_4_16, rfl, q0o, q0k, q0l, hS⟩
    refine ⟨_, rfl, ?_⟩
    have e_ := q0k.n; subst e_
    have e_ := q0l.n; subst e_
    refine x_done <| ?_
    refine x_fin ⟨⟨_, rfl⟩, rfl, ?_⟩
    replace hS := St.ro_split ((q0u.trans q0n).trans q0o) hS
    replace hS := St.bun (Φ := (fun (q3 : Heap) => Le ρ q3 ∧ RdS (RpI .u32) q3 (adOf (partOf 1 (Ep4 18))) q0a.fmag.length (capOf (partOf 1 (Ep4 18))) q0a.fmag ∧ RdS (RpI .u32) q3 (adOf (partOf 1 (Ep4 23))) q0b.fmag.length (capOf (partOf 1 (Ep4 23))) q0b.fmag ∧ RdS (RpI .u32) q3 (adOf (partOf 1 (Ep4 24))) q0g.fmag.length (capOf (partOf 1 (Ep4 24))) q0g.fmag ∧ RdS (RpI .u32) q3 (adOf (partOf 1 (Ep4 29))) q0h.fmag.length (capOf (partOf 1 (Ep4 29))) q0h.fmag ∧ RdS (RpI .u32) q3 q1c q2.1.Num.fmag.length c_y0_ret_1_4_16 q2.1.Num.fmag ∧ RdS (RpI .u32) q3 q1d q2.1.Den.fmag.length c_y0_ret_3_4_16 q2.1.Den.fmag)) (L := (fun (q3 : Heap) => [roD ρ q3])) q3 ⟨((q0u.trans q0n).trans q0o), (q6.le ((q0q.trans q0n).trans q0o)), (q7.le ((q0q.trans q0n).trans q0o)), (q0e.le ((q0q.trans q0n).trans q0o)), (q0f.le (q1q.trans q0o)), q0k, q0l⟩ (hS.pull 1)
    exact Eq.mp (by kernel_rfl) (hS.pull 1)
   ·intro Ep4 w l' hE4 hO4 hF_ hS
    obtain ⟨q0m, -⟩ := hF_
    replace q0m : Ep4 30 = .tuple #[.agg #[.bool q2.1.Num.fneg, .slice (adOf (partOf 1 (partOf 0 (Ep4 30)))) q2.1.Num.fmag.length (capOf (partOf 1 (partOf 0 (Ep4 30)))), .bool q2.1.Den.fneg, .slice (adOf (partOf 3 (partOf 0 (Ep4 30)))) q2.1.Den.fmag.length (capOf (partOf 3 (partOf 0 (Ep4 30))))], .int .i64 q2.2] := Eq.mp (by kernel_rfl) q0m
    refine p (yl_extract q0m rfl) <| x_done <| ?_
    refine x_fin ⟨⟨_, rfl⟩, rfl, ?_⟩
    exact Eq.mp (by kernel_rfl) hS
   ·intro Ep4 w l' hE4 hO4 hF_ hS
    obtain ⟨q0m, -⟩ := hF_
    replace q0m : Ep4 30 = .tuple #[.agg #[.bool q2.1.Num.fneg, .slice (adOf (partOf 1 (partOf 0 (Ep4 30)))) q2.1.Num.fmag.length (capOf (partOf 1 (partOf 0 (Ep4 30)))), .bool q2.1.Den.fneg, .slice (adOf (partOf 3 (partOf 0 (Ep4 30)))) q2.1.Den.fmag.length (capOf (partOf 3 (partOf 0 (Ep4 30))))], .int .i64 q2.2] := Eq.mp (by kernel_rfl) q0m
    refine p (yl_extract q0m rfl) <| x_done <| ?_
    refine x_fin ⟨⟨_, rfl⟩, rfl, ?_⟩
    exact Eq.mp (by kernel_rfl) hS
   ·intro Ep4 w l' hE4 hO4 hF_ hS
    obtain ⟨q0m, q12, -⟩ := hF_
    replace q0m : Ep4 30 = .tuple #[.agg #[.bool q2.1.Num.fneg, .slice (adOf (partOf 1 (partOf 0 (Ep4 30)))) q2.1.Num.fmag.length (capOf (partOf 1 (partOf 0 (Ep4 30)))), .bool q2.1.Den.fneg, .slice (adOf (partOf 3 (partOf 0 (Ep4 30)))) q2.1.Den.fmag.length (capOf (partOf 3 (partOf 0 (Ep4 30))))], .int .i64 q2.2] := Eq.mp (by kernel_rfl) q0m
    replace q12 : Ep4 31 = .agg #[.bool q2.1.Num.fneg, .slice (adOf (partOf 1 (partOf 0 (Ep4 30)))) q2.1.Num.fmag.length (capOf (partOf 1 (partOf 0 (Ep4 30)))), .bool q2.1.Den.fneg, .slice (adOf (partOf 3 (partOf 0 (Ep4 30)))) q2.1.Den.fmag.length (capOf (partOf 3 (partOf 0 (Ep4 30))))] := Eq.mp (by kernel_rfl) q12
    replace hS : St w0 w (cells b4 94 [.bool false, .slice none 0 0, .bool false, .slice none 0 0] :: l') := Eq.mp (by kernel_rfl) hS
    refine o_storeAgg (news := [.bool q2.1.Num.fneg, .slice (adOf (partOf 1 (partOf 0 (Ep4 30)))) q2.1.Num.fmag.length (capOf (partOf 1 (partOf 0 (Ep4 30)))), .bool q2.1.Den.fneg, .slice (adOf (partOf 3 (partOf 0 (Ep4 30)))) q2.1.Den.fmag.length (capOf (partOf 3 (partOf 0 (Ep4 30))))]) agg_94 (hE4 4 rfl) q12 rfl (by simp [over_length]) hS (fun w' hS => ?_)
    refine x_done <| ?_
    refine x_fin ⟨⟨undef, rfl⟩, trivial, ?_⟩
    exact Eq.mp (by kernel_rfl) hS
   ·intro Ep4 w l' hE4 hO4 hF_ hS
    obtain ⟨q13, -⟩ := hF_
    replace q13 : Ep4 32 = .int .i64 q2.2 := Eq.mp (by kernel_rfl) q13
    refine p (yl_assign q13) <| x_done <| ?_
    refine x_fin ⟨⟨_, rfl⟩, rfl, ?_⟩
    exact Eq.mp (by kernel_rfl) hS
  intro Ep4 w' hE4 hF_ hS
  obtain ⟨q1e, q1g, q1f, q1h, q0r, q1j, q1l, q1k, q1m, q0s, q10, q0w, q0y, q0x, q0z, q11, q0m, q12, q13, q21, -⟩ := hF_
  replace q1e : Ep4 14 = .pointer (some ⟨b2, 0, none⟩) := Eq.mp (by kernel_rfl) q1e
  replace q1g : Ep4 15 = .agg #[.bool a0.Num.fneg, .slice q0i a0.Num.fmag.length c_a0_1] := Eq.mp (by kernel_rfl) q1g
  replace q1f : Ep4 16 = .pointer (some ⟨b3, 2, none⟩) := Eq.mp (by kernel_rfl) q1f
  replace q1h : Ep4 17 = .agg #[.bool b1.Den.fneg, .slice q9 b1.Den.fmag.length c_b1_3] := Eq.mp (by kernel_rfl) q1h
  replace q0r : Ep4 18 = .agg #[.bool q0a.fneg, .slice (adOf (partOf 1 (Ep4 18))) q0a.fmag.length (capOf (partOf 1 (Ep4 18)))] := Eq.mp (by kernel_rfl) q0r
  replace q1j : Ep4 19 = .pointer (some ⟨b3, 0, none⟩) := Eq.mp (by kernel_rfl) q1j
  replace q1l : Ep4 20 = .agg #[.bool b1.Num.fneg, .slice q0j b1.Num.fmag.length c_b1_1] := Eq.mp (by kernel_rfl) q1l
  replace q1k : Ep4 21 = .pointer (some ⟨b2, 2, none⟩) := Eq.mp (by kernel_rfl) q1k
  replace q1m : Ep4 22 = .agg #[.bool a0.Den.fneg, .slice q8 a0.Den.fmag.length c_a0_3] := Eq.mp (by kernel_rfl) q1m
  replace q0s : Ep4 23 = .agg #[.bool q0b.fneg, .slice (adOf (partOf 1 (Ep4 23))) q0b.fmag.length (capOf (partOf 1 (Ep4 23)))] := Eq.mp (by kernel_rfl) q0s
  replace q10 : Ep4 24 = .agg #[.bool q0g.fneg, .slice (adOf (partOf 1 (Ep4 24))) q0g.fmag.length (capOf (partOf 1 (Ep4 24)))] := Eq.mp (by kernel_rfl) q10
  replace q0w : Ep4 25 = .pointer (some ⟨b2, 2, none⟩) := Eq.mp (by kernel_rfl) q0w
  replace q0y : Ep4 26 = .agg #[.bool a0.Den.fneg, .slice q8 a0.Den.fmag.length c_a0_3] := Eq.mp (by kernel_rfl) q0y
  replace q0x : Ep4 27 = .pointer (some ⟨b3, 2, none⟩) := Eq.mp (by kernel_rfl) q0x
  replace q0z : Ep4 28 = .agg #[.bool b1.Den.fneg, .slice q9 b1.Den.fmag.length c_b1_3] := Eq.mp (by kernel_rfl) q0z
  replace q11 : Ep4 29 = .agg #[.bool q0h.fneg, .slice (adOf (partOf 1 (Ep4 29))) q0h.fmag.length (capOf (partOf 1 (Ep4 29)))] := Eq.mp (by kernel_rfl) q11
  replace q0m : Ep4 30 = .tuple #[.agg #[.bool q2.1.Num.fneg, .slice (adOf (partOf 1 (partOf 0 (Ep4 30)))) q2.1.Num.fmag.length (capOf (partOf 1 (partOf 0 (Ep4 30)))), .bool q2.1.Den.fneg, .slice (adOf (partOf 3 (partOf 0 (Ep4 30)))) q2.1.Den.fmag.length (capOf (partOf 3 (partOf 0 (Ep4 30))))], .int .i64 q2.2] := Eq.mp (by kernel_rfl) q0m
  replace q12 : Ep4 31 = .agg #[.bool q2.1.Num.fneg, .slice (adOf (partOf 1 (partOf 0 (Ep4 30)))) q2.1.Num.fmag.length (capOf (partOf 1 (partOf 0 (Ep4 30)))), .bool q2.1.Den.fneg, .slice (adOf (partOf 3 (partOf 0 (Ep4 30)))) q2.1.Den.fmag.length (capOf (partOf 3 (partOf 0 (Ep4 30))))] := Eq.mp (by kernel_rfl) q12
  replace q13 : Ep4 32 = .int .i64 q2.2 := Eq.mp (by kernel_rfl) q13
  replace q21 : Ep4 5 = .int .i64 q2.2 := Eq.mp (by kernel_rfl) q21
  replace hS : St w0 w' (cells b2 94 [.bool a0.Num.fneg, .slice q0i a0.Num.fmag.length c_a0_1, .bool a0.Den.fneg, .slice q8 a0.Den.fmag.length c_a0_3] :: cells b3 94 [.bool b1.Num.fneg, .slice q0j b1.Num.fmag.length c_b1_1, .bool b1.Den.fneg, .slice q9 b1.Den.fmag.length c_b1_3] :: ro ρ :: bunA (fun (q3 : Heap) => Le ρ q3 ∧ RdS (RpI .u32) q3 (adOf (partOf 1 (Ep4 18))) q0a.fmag.length (capOf (partOf 1 (Ep4 18))) q0a.fmag ∧ RdS (RpI .u32) q3 (adOf (partOf 1 (Ep4 23))) q0b.fmag.length (capOf (partOf 1 (Ep4 23))) q0b.fmag ∧ RdS (RpI .u32) q3 (adOf (partOf 1 (Ep4 24))) q0g.fmag.length (capOf (partOf 1 (Ep4 24))) q0g.fmag ∧ RdS (RpI .u32) q3 (adOf (partOf 1 (Ep4 29))) q0h.fmag.length (capOf (partOf 1 (Ep4 29))) q0h.fmag ∧ RdS (RpI .u32) q3 (adOf (partOf 1 (partOf 0 (Ep4 30)))) q2.1.Num.fmag.length (capOf (partOf 1 (partOf 0 (Ep4 30)))) q2.1.Num.fmag ∧ RdS (RpI .u32) q3 (adOf (partOf 3 (partOf 0 (Ep4 30)))) q2.1.Den.fmag.length (capOf (partOf 3 (partOf 0 (Ep4 30)))) q2.1.Den.fmag) (fun (q3 : Heap) => [roD ρ q3]) :: cells b4 94 [.bool q2.1.Num.fneg, .slice (adOf (partOf 1 (partOf 0 (Ep4 30)))) q2.1.Num.fmag.length (capOf (partOf 1 (partOf 0 (Ep4 30)))), .bool q2.1.Den.fneg, .slice (adOf (partOf 3 (partOf 0 (Ep4 30)))) q2.1.Den.fmag.length (capOf (partOf 3 (partOf 0 (Ep4 30))))] :: (l)) := Eq.mp (by kernel_rfl) hS
  have q_ := St.unbun (hS.pull 3); obtain ⟨q3, ⟨q1w, q6, q7, q0e, q0f, q0k, q0l⟩, hS⟩ := q_
  have q_ := St.ro_join (hS.pull 3) (Le.refl _) q1w; obtain ⟨q2i, q2e, q1y, hS, q2u⟩ := q_
  have e_ := Option.some.inj (show some _ = some _ from hF); subst e_
  exact x_return ⟨_, ⟨_, _, _, rfl, (hE4 4 rfl), ldvA agg_94 rfl (fun j v hj => by rw [add0]; exact St.cell (hS.pull 3) hj), _, _, rfl, q21, rfl⟩, q2i, (adOf (partOf 1 (partOf 0 (Ep4 30)))), q2.1.Num.fmag.length, (capOf (partOf 1 (partOf 0 (Ep4 30)))), (adOf (partOf 3 (partOf 0 (Ep4 30)))), q2.1.Den.fmag.length, (capOf (partOf 3 (partOf 0 (Ep4 30)))), rfl, q2e, (q0k.le q1y), (q0l.le q1y), ((((hS.pull 1).drop.pull 1).drop.pull 1).drop)⟩
attribute [irreducible] P_exact_Sum

def P_exact_Compare (a0 : T_exact_Ratio) (b1 : T_exact_Ratio) : Option Int :=
 bd (P_exact_both a0 b1) fun q3 =>
 if q3 ≠ 0 then
  some (0 : Int)
 else
  bd (P_exact_times (T_exact_Int.mk a0.Num.fneg a0.Num.fmag) (T_exact_Int.mk b1.Den.fneg b1.Den.fmag)) fun q4 =>
  bd (P_exact_times (T_exact_Int.mk b1.Num.fneg b1.Num.fmag) (T_exact_Int.mk a0.Den.fneg a0.Den.fmag)) fun q5 =>
  bd (P_exact_Cmp q4 q5) fun q2 =>
  some q2
set_option maxHeartbeats 4000000 in
set_option maxRecDepth 100000 in
theorem c_exact_Compare {w0 w : World} {l : List Assn} {ρ : Heap} {q6 : Option Addr} {q10 : Nat} {c_a0_1 : Nat} {q7 : Option Addr} {q11 : Nat} {c_a0_3 : Nat} {q8 : Option Addr} {q12 : Nat} {c_b1_1 : Nat} {q9 : Option Addr} {q13 : Nat} {c_b1_3 : Nat} {a0 : T_exact_Ratio} {b1 : T_exact_Ratio} {r : Int} (hF : P_exact_Compare a0 b1 = some r) (q0s : RdS (RpI .u32) ρ q6 q10 c_a0_1 a0.Num.fmag) (q0t : RdS (RpI .u32) ρ q7 q11 c_a0_3 a0.Den.fmag) (q0u : RdS (RpI .u32) ρ q8 q12 c_b1_1 b1.Num.fmag) (q0v : RdS (RpI .u32) ρ q9 q13 c_b1_3 b1.Den.fmag) (hS : St w0 w (ro ρ :: l)) :
  Calls Try.prog 49 #[.agg #[.bool a0.Num.fneg, .slice q6 q10 c_a0_1, .bool a0.Den.fneg, .slice q7 q11 c_a0_3], .agg #[.bool b1.Num.fneg, .slice q8 q12 c_b1_1, .bool b1.Den.fneg, .slice q9 q13 c_b1_3]] w fun e w' => e = .returned (.int .i64 r) ∧ St w0 w' (ro ρ :: l) := by
 have e_ := q0s.n; subst e_
 have e_ := q0t.n; subst e_
 have e_ := q0u.n; subst e_
 have e_ := q0v.n; subst e_
 refine enterC Try.func49 rfl 20 rfl (by simp) ?_
 refine x_seq <| x_region <| ?_
 refine o_box (cs := [.bool a0.Num.fneg, .slice q6 a0.Num.fmag.length c_a0_1, .bool a0.Den.fneg, .slice q7 a0.Den.fmag.length c_a0_3]) rfl rfl hS (fun b2 w' hS => ?_)
 refine o_box (cs := [.bool b1.Num.fneg, .slice q8 b1.Num.fmag.length c_b1_1, .bool b1.Den.fneg, .slice q9 b1.Den.fmag.length c_b1_3]) rfl rfl hS (fun b3 w' hS => ?_)
 replace hF := bd_s hF; obtain ⟨q1h, q1e, hF⟩ := hF
 refine p (yl_assign rfl) <| x_done <| x_seq <| x_seq <|
  x_region <| pa (v := .agg #[.bool a0.Num.fneg, .slice q6 a0.Num.fmag.length c_a0_1, .bool a0.Den.fneg, .slice q7 a0.Den.fmag.length c_a0_3]) (ld_sub agg_94 rfl rfl rfl (hS.pull 1)) <| pa (v := .agg #[.bool b1.Num.fneg, .slice q8 b1.Num.fmag.length c_b1_1, .bool b1.Den.fneg, .slice q9 b1.Den.fmag.length c_b1_3]) (ld_sub agg_94 rfl rfl rfl hS) <| ?_
 have hcall := c_exact_both q1e q0s q0t q0u q0v (hS.pull 2)
 refine o_cc call_95 (args2 rfl rfl) ((Calls.mono hcall (fun e w'' h => And.intro h.1 ((h.2.pull 2).pull 2)))) ?_
 rintro e w' ⟨rfl, hS⟩
 refine ⟨_, rfl, ?_⟩
 refine p (yl_neq rfl rfl) <| x_done <|
  x_cond_p (q1h ≠ 0) rfl (fun hc8 => ?_) (fun hc8 => ?_)
 ·replace hF := it_t hc8 hF
  refine x_seq <| x_region <| p (yl_assign rfl) <| x_done <| ?_
  have e_ := Option.some.inj (show some _ = some _ from hF); subst e_
  exact x_return ⟨_, ⟨_, _, rfl, rfl, rfl⟩, rfl, hS.drop.drop⟩
 ·replace hF := it_f hc8 hF
  refine x_skip <| x_seq <| ?_
  replace hF := bd_s hF; obtain ⟨q0a, q1f, hF⟩ := hF
  replace hF := bd_s hF; obtain ⟨q0b, q1g, hF⟩ := hF
  replace hF := bd_s hF; obtain ⟨q0e, q1d, hF⟩ := hF
  refine x_par (w0 := w0) [⟨[], [], [9], [], [], []⟩, ⟨[0], [0], [10], [0], [], []⟩, ⟨[], [], [11], [], [], []⟩, ⟨[2], [2], [12], [1], [], []⟩, ⟨[0, 1, 2, 3], [1, 3], [13], [2], [], [3]⟩, ⟨[], [], [14], [], [], []⟩, ⟨[5], [5], [15], [1], [], []⟩, ⟨[], [], [16], [], [], []⟩, ⟨[7], [7], [17], [0], [], []⟩, ⟨[0, 1, 2, 3, 4, 5, 6, 7, 8], [6, 8], [18], [2], [], [4]⟩, ⟨[0, 1, 2, 3, 4, 5, 6, 7, 8, 9], [4, 9], [19], [2, 3, 4], [], []⟩, ⟨[0, 1, 2, 3, 4, 5, 6, 7, 8, 9, 10], [10], [4], [], [], []⟩] [⟨none, none, []⟩, ⟨none, none, []⟩, ⟨none, none, []⟩, ⟨(some 4), none, [13]⟩, ⟨(some 9), none, [18]⟩] [4, 9, 10, 11, 12, 13, 14, 15, 16, 17, 18, 19] [0, 1, 2] [0, 1, 2, 3, 4] [0, 1, 2, 3, 4, 5, 6, 7, 8, 9, 10, 11] [fun Ep3 => Ep3 9 = .pointer (some ⟨b2, 0, none⟩), fun Ep3 => Ep3 10 = .agg #[.bool a0.Num.fneg, .slice q6 a0.Num.fmag.length c_a0_1], fun Ep3 => Ep3 11 = .pointer (some ⟨b3, 2, none⟩), fun Ep3 => Ep3 12 = .agg #[.bool b1.Den.fneg, .slice q9 b1.Den.fmag.length c_b1_3], fun Ep3 => Ep3 13 = .agg #[.bool q0a.fneg, .slice (adOf (partOf 1 (Ep3 13))) q0a.fmag.length (capOf (partOf 1 (Ep3 13)))], fun Ep3 => Ep3 14 = .pointer (some ⟨b3, 0, none⟩), fun Ep3 => Ep3 15 = .agg #[.bool b1.Num.fneg, .slice q8 b1.Num.fmag.length c_b1_1], fun Ep3 => Ep3 16 = .pointer (some ⟨b2, 2, none⟩), fun Ep3 => Ep3 17 = .agg #[.bool a0.Den.fneg, .slice q7 a0.Den.fmag.length c_a0_3], fun Ep3 => Ep3 18 = .agg #[.bool q0b.fneg, .slice (adOf (partOf 1 (Ep3 18))) q0b.fmag.length (capOf (partOf 1 (Ep3 18)))], fun Ep3 => Ep3 19 = .int .i64 q0e, fun Ep3 => Ep3 4 = .int .i64 q0e] [fun Ep3 => cells b2 94 [.bool a0.Num.fneg, .slice q6 a0.Num.fmag.length c_a0_1, .bool a0.Den.fneg, .slice q7 a0.Den.fmag.length c_a0_3], fun Ep3 => cells b3 94 [.bool b1.Num.fneg, .slice q8 b1.Num.fmag.length c_b1_1, .bool b1.Den.fneg, .slice q9 b1.Den.fmag.length c_b1_3], fun Ep3 => ro ρ, fun Ep3 => bunA (fun (q2 : Heap) => Le ρ q2 ∧ RdS (RpI .u32) q2 (adOf (partOf 1 (Ep3 13))) q0a.fmag.length (capOf (partOf 1 (Ep3 13))) q0a.fmag) (fun (q2 : Heap) => [roD ρ q2]), fun Ep3 => bunA (fun (q3 : Heap) => Le ρ q3 ∧ RdS (RpI .u32) q3 (adOf (partOf 1 (Ep3 18))) q0b.fmag.length (capOf (partOf 1 (Ep3 18))) q0b.fmag) (fun (q3 : Heap) => [roD ρ q3])] mixed (by kernel_rfl) (((hS.pull 2).pull 1).pull 2) ?_ ?_
  ·refine ⟨?_, ?_, ?_, ?_, ?_, ?_, ?_, ?_, ?_, ?_, ?_, ?_, trivial⟩
   ·intro Ep3 w l' hE3 hO3 hF_ hS
    refine p (yl_field0 fld_94_0 (hE3 2 rfl)) <| x_done <| ?_
    refine x_fin ⟨⟨_, rfl⟩, rfl, ?_⟩
    exact Eq.mp (by kernel_rfl) hS
   ·intro Ep3 w l' hE3 hO3 hF_ hS
    obtain ⟨q0g, -⟩ := hF_
    replace q0g : Ep3 9 = .pointer (some ⟨b2, 0, none⟩) := Eq.mp (by kernel_rfl) q0g
    replace hS : St w0 w (cells b2 94 [.bool a0.Num.fneg, .slice q6 a0.Num.fmag.length c_a0_1, .bool a0.Den.fneg, .slice q7 a0.Den.fmag.length c_a0_3] :: l') := Eq.mp (by kernel_rfl) hS
    refine pa (v := .agg #[.bool a0.Num.fneg, .slice q6 a0.Num.fmag.length c_a0_1]) (ld_sub agg_79 q0g rfl rfl hS) <| x_done <| ?_
    refine x_fin ⟨⟨_, rfl⟩, rfl, ?_⟩
    exact Eq.mp (by kernel_rfl) hS
   ·intro Ep3 w l' hE3 hO3 hF_ hS
    refine p (yl_field0 fld_94_1 (hE3 3 rfl)) <| x_done <| ?_
    refine x_fin ⟨⟨_, rfl⟩, rfl, ?_⟩
    exact Eq.mp (by kernel_rfl) hS
   ·intro Ep3 w l' hE3 hO3 hF_ hS
    obtain ⟨q0h, -⟩ := hF_
    replace q0h : Ep3 11 = .pointer (some ⟨b3, 2, none⟩) := Eq.mp (by kernel_rfl) q0h
    replace hS : St w0 w (cells b3 94 [.bool b1.Num.fneg, .slice q8 b1.Num.fmag.length c_b1_1, .bool b1.Den.fneg, .slice q9 b1.Den.fmag.length c_b1_3] :: l') := Eq.mp (by kernel_rfl) hS
    refine pa (v := .agg #[.bool b1.Den.fneg, .slice q9 b1.Den.fmag.length c_b1_3]) (ld_sub agg_79 q0h rfl rfl hS) <| x_done <| ?_
    refine x_fin ⟨⟨_, rfl⟩, rfl, ?_⟩
    exact Eq.mp (by kernel_rfl) hS
   ·intro Ep3 w l' hE3 hO3 hF_ hS
    obtain ⟨q0i, q0j, -⟩ := hF_
    replace q0i : Ep3 10 = .agg #[.bool a0.Num.fneg, .slice q6 a0.Num.fmag.length c_a0_1] := Eq.mp (by kernel_rfl) q0i
    replace q0j : Ep3 12 = .agg #[.bool b1.Den.fneg, .slice q9 b1.Den.fmag.length c_b1_3] := Eq.mp (by kernel_rfl) q0j
    replace hS : St w0 w (ro ρ :: l') := Eq.mp (by kernel_rfl) hS
    have hcall := c_exact_times q1f q0s q0v hS
    refine o_cc call_89 (args2 q0i q0j) hcall ?_
    rintro e w' ⟨q2, q0k, q1a, c_y0_ret_1_3_4, rfl, q14, q4, hS⟩
    refine ⟨_, rfl, ?_⟩
    have e_ := q4.n; subst e_
    refine x_done <| ?_
    refine x_fin ⟨⟨_, rfl⟩, rfl, ?_⟩
    replace hS := St.ro_split q14 hS
    replace hS := St.bun (Φ := (fun (q2 : Heap) => Le ρ q2 ∧ RdS (RpI .u32) q2 q0k q0a.fmag.length c_y0_ret_1_3_4 q0a.fmag)) (L := (fun (q2 : Heap) => [roD ρ q2])) q2 ⟨q14, q4⟩ (hS.pull 1)
    exact Eq.mp (by kernel_rfl) (hS.pull 1)
   ·intro Ep3 w l' hE3 hO3 hF_ hS
    refine p (yl_field0 fld_94_0 (hE3 3 rfl)) <| x_done <| ?_
    refine x_fin ⟨⟨_, rfl⟩, rfl, ?_⟩
    exact Eq.mp (by kernel_rfl) hS
   ·intro Ep3 w l' hE3 hO3 hF_ hS
    obtain ⟨q0l, -⟩ := hF_
    replace q0l : Ep3 14 = .pointer (some ⟨b3, 0, none⟩) := Eq.mp (by kernel_rfl) q0l
    replace hS : St w0 w (cells b3 94 [.bool b1.Num.fneg, .slice q8 b1.Num.fmag.length c_b1_1, .bool b1.Den.fneg, .slice q9 b1.Den.fmag.length c_b1_3] :: l') := Eq.mp (by kernel_rfl) hS
    refine pa (v := .agg #[.bool b1.Num.fneg, .slice q8 b1.Num.fmag.length c_b1_1]) (ld_sub agg_79 q0l rfl rfl hS) <| x_done <| ?_
    refine x_fin ⟨⟨_, rfl⟩, rfl, ?_⟩
    exact Eq.mp (by kernel_rfl) hS
   ·intro Ep3 w l' hE3 hO3 hF_ hS
    refine p (yl_field0 fld_94_1 (hE3 2 rfl)) <| x_done <| ?_
    refine x_fin ⟨⟨_, rfl⟩, rfl, ?_⟩
    exact Eq.mp (by kernel_rfl) hS
   ·intro Ep3 w l' hE3 hO3 hF_ hS
    obtain ⟨q0m, -⟩ := hF_
    replace q0m : Ep3 16 = .pointer (some ⟨b2, 2, none⟩) := Eq.mp (by kernel_rfl) q0m
    replace hS : St w0 w (cells b2 94 [.bool a0.Num.fneg, .slice q6 a0.Num.fmag.length c_a0_1, .bool a0.Den.fneg, .slice q7 a0.Den.fmag.length c_a0_3] :: l') := Eq.mp (by kernel_rfl) hS
    refine pa (v := .agg #[.bool a0.Den.fneg, .slice q7 a0.Den.fmag.length c_a0_3]) (ld_sub agg_79 q0m rfl rfl hS) <| x_done <| ?_
    refine x_fin ⟨⟨_, rfl⟩, rfl, ?_⟩
    exact Eq.mp (by kernel_rfl) hS
   ·intro Ep3 w l' hE3 hO3 hF_ hS
    obtain ⟨q0n, q0o, -⟩ := hF_
    replace q0n : Ep3 15 = .agg #[.bool b1.Num.fneg, .slice q8 b1.Num.fmag.length c_b1_1] := Eq.mp (by kernel_rfl) q0n
    replace q0o : Ep3 17 = .agg #[.bool a0.Den.fneg, .slice q7 a0.Den.fmag.length c_a0_3] := Eq.mp (by kernel_rfl) q0o
    replace hS : St w0 w (ro ρ :: l') := Eq.mp (by kernel_rfl) hS
    have hcall := c_exact_times q1g q0u q0t hS
    refine o_cc call_89 (args2 q0n q0o) hcall ?_
    rintro e w' ⟨q3, q0p, q1b, c_y0_ret_1_3_9, rfl, q15, q5, hS⟩
    refine ⟨_, rfl, ?_⟩
    have e_ := q5.n; subst e_
    refine x_done <| ?_
    refine x_fin ⟨⟨_, rfl⟩, rfl, ?_⟩
    replace hS := St.ro_split q15 hS
    replace hS := St.bun (Φ := (fun (q3 : Heap) => Le ρ q3 ∧ RdS (RpI .u32) q3 q0p q0b.fmag.length c_y0_ret_1_3_9 q0b.fmag)) (L := (fun (q3 : Heap) => [roD ρ q3])) q3 ⟨q15, q5⟩ (hS.pull 1)
    exact Eq.mp (by kernel_rfl) (hS.pull 1)
   ·intro Ep3 w l' hE3 hO3 hF_ hS
    obtain ⟨q0q, q0r, -⟩ := hF_
    replace q0q : Ep3 13 = .agg #[.bool q0a.fneg, .slice (adOf (partOf 1 (Ep3 13))) q0a.fmag.length (capOf (partOf 1 (Ep3 13)))] := Eq.mp (by kernel_rfl) q0q
    replace q0r : Ep3 18 = .agg #[.bool q0b.fneg, .slice (adOf (partOf 1 (Ep3 18))) q0b.fmag.length (capOf (partOf 1 (Ep3 18)))] := Eq.mp (by kernel_rfl) q0r
    replace hS : St w0 w (ro ρ :: bunA (fun (q2 : Heap) => Le ρ q2 ∧ RdS (RpI .u32) q2 (adOf (partOf 1 (Ep3 13))) q0a.fmag.length (capOf (partOf 1 (Ep3 13))) q0a.fmag) (fun (q2 : Heap) => [roD ρ q2]) :: bunA (fun (q3 : Heap) => Le ρ q3 ∧ RdS (RpI .u32) q3 (adOf (partOf 1 (Ep3 18))) q0b.fmag.length (capOf (partOf 1 (Ep3 18))) q0b.fmag) (fun (q3 : Heap) => [roD ρ q3]) :: l') := Eq.mp (by kernel_rfl) hS
    have q_ := St.unbun (hS.pull 1); obtain ⟨q2, ⟨q0c, q4⟩, hS⟩ := q_
    have q_ := St.ro_join (hS.pull 1) (Le.refl _) q0c; obtain ⟨q1i, q16, q17, hS, q0x⟩ := q_
    have q_ := St.unbun (hS.pull 1); obtain ⟨q3, ⟨q0d, q5⟩, hS⟩ := q_
    have q_ := St.ro_join (hS.pull 1) q16 q0d; obtain ⟨q1j, q18, q19, hS, q0y⟩ := q_
    have hcall := c_exact_Cmp q1d (q4.le (q17.trans q18)) (q5.le q19) hS
    refine o_cc call_41 (args2 q0q q0r) (hcall) ?_
    rintro e w' ⟨rfl, hS⟩
    refine ⟨_, rfl, ?_⟩
    refine x_done <| ?_
    refine x_fin ⟨⟨_, rfl⟩, rfl, ?_⟩
    replace hS := q0y hS
    replace hS := St.bun (Φ := (fun (q3 : Heap) => Le ρ q3 ∧ RdS (RpI .u32) q3 (adOf (partOf 1 (Ep3 18))) q0b.fmag.length (capOf (partOf 1 (Ep3 18))) q0b.fmag)) (L := (fun (q3 : Heap) => [roD ρ q3])) q3 ⟨q0d, q5⟩ (hS.pull 1)
    replace hS := q0x (hS.pull 1)
    replace hS := St.bun (Φ := (fun (q2 : Heap) => Le ρ q2 ∧ RdS (RpI .u32) q2 (adOf (partOf 1 (Ep3 13))) q0a.fmag.length (capOf (partOf 1 (Ep3 13))) q0a.fmag)) (L := (fun (q2 : Heap) => [roD ρ q2])) q2 ⟨q0c, q4⟩ (hS.pull 1)
    exact Eq.mp (by kernel_rfl) (((hS.pull 2).pull 1).pull 2)
   ·intro Ep3 w l' hE3 hO3 hF_ hS
    obtain ⟨q0f, -⟩ := hF_
    replace q0f : Ep3 19 = .int .i64 q0e := Eq.mp (by kernel_rfl) q0f
    refine p (v := .int .i64 q0e) (yl_assign q0f) <| x_done <| ?_
    refine x_fin ⟨⟨_, rfl⟩, rfl, ?_⟩
    exact Eq.mp (by kernel_rfl) hS
  intro Ep3 w' hE3 hF_ hS
  obtain ⟨q0g, q0i, q0h, q0j, q0q, q0l, q0n, q0m, q0o, q0r, q0f, q0z, -⟩ := hF_
  replace q0g : Ep3 9 = .pointer (some ⟨b2, 0, none⟩) := Eq.mp (by kernel_rfl) q0g
  replace q0i : Ep3 10 = .agg #[.bool a0.Num.fneg, .slice q6 a0.Num.fmag.length c_a0_1] := Eq.mp (by kernel_rfl) q0i
  replace q0h : Ep3 11 = .pointer (some ⟨b3, 2, none⟩) := Eq.mp (by kernel_rfl) q0h
  replace q0j : Ep3 12 = .agg #[.bool b1.Den.fneg, .slice q9 b1.Den.fmag.length c_b1_3] := Eq.mp (by kernel_rfl) q0j
  replace q0q : Ep3 13 = .agg #[.bool q0a.fneg, .slice (adOf (partOf 1 (Ep3 13))) q0a.fmag.length (capOf (partOf 1 (Ep3 13)))] := Eq.mp (by kernel_rfl) q0q
  replace q0l : Ep3 14 = .pointer (some ⟨b3, 0, none⟩) := Eq.mp (by kernel_rfl) q0l
  replace q0n : Ep3 15 = .agg #[.bool b1.Num.fneg, .slice q8 b1.Num.fmag.length c_b1_1] := Eq.mp (by kernel_rfl) q0n
  replace q0m : Ep3 16 = .pointer (some ⟨b2, 2, none⟩) := Eq.mp (by kernel_rfl) q0m
  replace q0o : Ep3 17 = .agg #[.bool a0.Den.fneg, .slice q7 a0.Den.fmag.length c_a0_3] := Eq.mp (by kernel_rfl) q0o
  replace q0r : Ep3 18 = .agg #[.bool q0b.fneg, .slice (adOf (partOf 1 (Ep3 18))) q0b.fmag.length (capOf (partOf 1 (Ep3 18)))] := Eq.mp (by kernel_rfl) q0r
  replace q0f : Ep3 19 = .int .i64 q0e := Eq.mp (by kernel_rfl) q0f
  replace q0z : Ep3 4 = .int .i64 q0e := Eq.mp (by kernel_rfl) q0z
  replace hS : St w0 w' (cells b2 94 [.bool a0.Num.fneg, .slice q6 a0.Num.fmag.length c_a0_1, .bool a0.Den.fneg, .slice q7 a0.Den.fmag.length c_a0_3] :: cells b3 94 [.bool b1.Num.fneg, .slice q8 b1.Num.fmag.length c_b1_1, .bool b1.Den.fneg, .slice q9 b1.Den.fmag.length c_b1_3] :: ro ρ :: bunA (fun (q2 : Heap) => Le ρ q2 ∧ RdS (RpI .u32) q2 (adOf (partOf 1 (Ep3 13))) q0a.fmag.length (capOf (partOf 1 (Ep3 13))) q0a.fmag) (fun (q2 : Heap) => [roD ρ q2]) :: bunA (fun (q3 : Heap) => Le ρ q3 ∧ RdS (RpI .u32) q3 (adOf (partOf 1 (Ep3 18))) q0b.fmag.length (capOf (partOf 1 (Ep3 18))) q0b.fmag) (fun (q3 : Heap) => [roD ρ q3]) :: (l)) := Eq.mp (by kernel_rfl) hS
  have q_ := St.unbun (hS.pull 3); obtain ⟨q2, ⟨q0c, q4⟩, hS⟩ := q_
  have q_ := St.ro_join (hS.pull 3) (Le.refl _) q0c; obtain ⟨q1o, q0w, q1m, hS, q1k⟩ := q_
  have q_ := St.unbun (hS.pull 3); obtain ⟨q3, ⟨q0d, q5⟩, hS⟩ := q_
  have q_ := St.ro_join (hS.pull 1) q0w q0d; obtain ⟨q1p, q1c, q1n, hS, q1l⟩ := q_
  have e_ := Option.some.inj (show some _ = some _ from hF); subst e_
  exact x_return ⟨_, ⟨_, _, rfl, q0z, rfl⟩, rfl, (ro_back0 (q0w.trans q1c) (((hS.pull 1).drop.pull 1).drop))⟩
attribute [irreducible] P_exact_Compare

def P_maskkeep4_ExactHolds_L6 (l_0 : List Int) (q7 : (Int × Int)) : (List Int × Int × Int) → Option ((List Int × Int × Int) ⊕ List Int) := fun (q3, q2, q4) =>
 if q2 < q7.1 then
  bd (P_maskmake_Stream_Range (T_maskmake_Stream.mk l_0 q4) (-500) 500) fun q5 =>
  lv (q3 ++ [q5.1]) fun q6 =>
  ck (apOk 8 q6.length) <|
  ar (q2 + 1) fun x34 =>
  some (Sum.inl (q6, x34, q5.2))
 else
  some (Sum.inr q3)
def P_maskkeep4_ExactHolds_L20 (q0e : (List T_exact_Ratio × Int)) (q8 : List Int) : (Int × Bool × List Int × Bool × List Int) → Option ((Int × Bool × List Int × Bool × List Int) ⊕ ((Bool × List Int × Bool × List Int) ⊕ Bool)) := fun (q2, q3, q4, q5, q6) =>
 if q2 < (q8.length : Int) then
  ck (inb q2 q8.length) <|
  lv (gt q8 q2) fun x83 =>
  if (q0e.1.length : Int) ≤ q2 then
   some (Sum.inr (Sum.inr false))
  else
   bd (P_exact_Whole x83) fun q0g =>
   ck (inb q2 q0e.1.length) <|
   lv (gt q0e.1 q2) fun q0h =>
   bd (P_exact_Prod q0g q0h) fun q9 =>
   bd (
    if q9.2 = 0 then
     bd (P_exact_Sum (T_exact_Ratio.mk (T_exact_Int.mk q3 q4) (T_exact_Int.mk q5 q6)) q9.1) fun q7 =>
     some (q7.2, q7.1.Num.fneg, q7.1.Num.fmag, q7.1.Den.fneg, q7.1.Den.fmag)
    else
     some (q9.2, q3, q4, q5, q6)) fun (q0f, q0a, q0b, q0c, q0d) =>
   if q0f ≠ 0 then
    some (Sum.inr (Sum.inr false))
   else
    ar (q2 + 1) fun x108 =>
    some (Sum.inl (x108, q0a, q0b, q0c, q0d))
 else
  some (Sum.inr (Sum.inl (q3, q4, q5, q6)))
def P_maskkeep4_ExactHolds_L16 (q8 : (List (List Int) × Int)) (q9 : List Int) (q0d : (List T_exact_Ratio × Int)) : Int → Option (Int ⊕ (Unit ⊕ Bool)) := fun q2 =>
 if q2 < (q8.1.length : Int) then
  ck (inb q2 q8.1.length) <|
  lv (gt q8.1 q2) fun q0a =>
  bd (P_exact_Whole 0) fun q3 =>
  bs (
   lp (P_maskkeep4_ExactHolds_L20 q0d q0a) fuel (0, q3.Num.fneg, q3.Num.fmag, q3.Den.fneg, q3.Den.fmag)) (fun y => some (Sum.inr (Sum.inr y))) fun (q4, q5, q6, q7) =>
  ck (inb q2 q9.length) <|
  lv (gt q9 q2) fun x113 =>
  bd (P_exact_Whole x113) fun q0b =>
  bd (P_exact_Compare (T_exact_Ratio.mk (T_exact_Int.mk q4 q5) (T_exact_Int.mk q6 q7)) q0b) fun q0c =>
  if q0c ≠ 0 then
   some (Sum.inr (Sum.inr false))
  else
   ar (q2 + 1) fun x117 =>
   some (Sum.inl x117)
 else
  some (Sum.inr (Sum.inl ()))
def P_maskkeep4_ExactHolds (l_0 : List Int) : Option Bool :=
 bd (P_maskmake_Stream_Range (T_maskmake_Stream.mk l_0 0) 1 16) fun q3 =>
 bd (P_maskkeep4_matrix (T_maskmake_Stream.mk l_0 q3.2) q3.1) fun q4 =>
 bd (
  lp (P_maskkeep4_ExactHolds_L6 l_0 q3) fuel ([], 0, q4.2)) fun q5 =>
 bd (P_exact_Solve q4.1 q5) fun q2 =>
 bd (P_exact_Det q4.1) fun q6 =>
 bd (P_maskkeep4_exacts) fun q8 =>
 lv ((!q8) || (decide (q6.2 ≠ 0))) fun x51 =>
 bd (gd (!x51) (P_exact_Sign q6.1)) fun q7 =>
 lv (x51 || (!((decide (q2.2 = 0)) == (decide (q7 ≠ 0))))) fun x59 =>
 if x59 = true then
  some false
 else
  if q2.2 ≠ 0 then
   lv ((decide (q2.2 = 7)) && (decide ((q2.1.length : Int) = 0))) fun x68 =>
   some x68
  else
   bs (
    lp (P_maskkeep4_ExactHolds_L16 q4 q5 q2) fuel 0) (fun y => some y) fun _ =>
   some (decide ((q2.1.length : Int) = q3.1))
set_option maxHeartbeats 4000000 in
set_option maxRecDepth 100000 in
theorem c_maskkeep4_ExactHolds {w0 w : World} {l : List Assn} {ρ : Heap} {q2n : Option Addr} {q53 : Nat} {c_l_0 : Nat} {l_0 : List Int} {r : Bool} (hF : P_maskkeep4_ExactHolds l_0 = some r) (q40 : RdS (RpI .i64) ρ q2n q53 c_l_0 l_0) (hS : St w0 w (ro ρ :: l)) :
  Calls Try.prog 9 #[.slice q2n q53 c_l_0] w fun e w' => e = .returned (.bool r) ∧ St w0 w' (ro ρ :: l) := by
 have e_ := q40.n; subst e_
 refine enterC Try.func9 rfl 122 rfl (by simp) ?_
 refine x_seq <| x_region <| p (yl_assign rfl) <| x_done <|
  x_seq <| x_region <| p (yl_move rfl) <| p (v := .agg #[.slice q2n l_0.length c_l_0, .int .i64 0]) (yl_build bld_25 bldf_25 (parts_eq (pt (va := .slice q2n l_0.length c_l_0) rfl pt0)) (by kernel_rfl)) <| ?_
 refine o_box (cs := [.slice q2n l_0.length c_l_0, .int .i64 0]) rfl rfl hS (fun b20 w' hS => ?_)
 replace hF := bd_s hF; obtain ⟨q27, q6r, hF⟩ := hF
 refine p (yl_assign rfl) <| x_done <| x_seq <| x_region <|
  p (yl_move rfl) <| ?_
 have hcall := c_maskmake_Stream_Range q6r q40 ((hS.pull 1).pull 1)
 refine o_cc call_20 (args3 rfl rfl rfl) hcall ?_
 rintro e w' ⟨rfl, hS⟩
 refine ⟨_, rfl, ?_⟩
 replace hF := bd_s hF; obtain ⟨q16, q6s, hF⟩ := hF
 refine p (yl_assign rfl) <| x_done <| x_seq <| x_region <|
  p (yl_move rfl) <| p (yl_move rfl) <| ?_
 have hcall := c_maskkeep4_matrix q6s q40 ((hS.pull 1).pull 1)
 refine o_cc call_36 (args2 rfl rfl) hcall ?_
 rintro e w' ⟨q2c, q0h, q65, c_y0_ret_3_2, q2j, rfl, q1k, q2k, hS⟩
 refine ⟨_, rfl, ?_⟩
 have e_ := St.vec_n hS q2k; subst e_
 refine p (yl_assign rfl) <| x_done <| x_seq <| x_region <|
  p (yl_assign rfl) <| x_done <| x_seq <| x_seq <|
  x_region <| p (yl_move rfl) <| p (yl_move rfl) <| x_done <| ?_
 replace hF := bd_s hF; obtain ⟨oL6, hLL6, hF⟩ := hF
 refine x_join (fun E w => ∃ (q0v : Option Addr) (q2o : Nat) (c_b6_L6 : Nat) (q3e : List Value) (q17 : List Int), q17 = oL6 ∧ E 4 = .int .i64 q27.1 ∧ E 5 = .slice q0h q16.1.length c_y0_ret_3_2 ∧ E 6 = .slice q0v q2o c_b6_L6 ∧ RepL (RpI .i64) q2c q17 q3e ∧ St w0 w (vec 87 (RpSl (RpI .i64)).sz (.slice q0h q16.1.length c_y0_ret_3_2) q16.1.length q2j :: vec 2 (RpI .i64).sz (.slice q0v q2o c_b6_L6) q2o q3e :: ro q2c :: l)) ?_ ?_
 ·refine x_block ?_
  replace hS := St.vec_nil hS 2 (RpI .i64).sz
  have q3z : RepL (RpI .i64) q2c [] [] := rfl
  refine x_loop (fun k_ E w => ∃ (q2f : Option Addr) (q2g : Nat) (c_b6_L6h : Nat) (q1r : List Value) (q2l : List Int) (q2p : Int) (q2m : Int), lp (P_maskkeep4_ExactHolds_L6 l_0 q27) k_ (q2l, q2p, q2m) = some oL6 ∧ E 3 = .pointer (some ⟨b20, 0, none⟩) ∧ E 4 = .int .i64 q27.1 ∧ E 5 = .slice q0h q16.1.length c_y0_ret_3_2 ∧ E 6 = .slice q2f q2g c_b6_L6h ∧ E 26 = .int .i64 q27.1 ∧ E 27 = .int .i64 q2p ∧ RepL (RpI .i64) q2c q2l q1r ∧ St w0 w (cells b20 25 [.slice q2n l_0.length c_l_0, .int .i64 q2m] :: vec 87 (RpSl (RpI .i64)).sz (.slice q0h q16.1.length c_y0_ret_3_2) q16.1.length q2j :: vec 2 (RpI .i64).sz (.slice q2f q2g c_b6_L6h) q2g q1r :: ro q2c :: l)) fuel ⟨none, 0, 0, [], [], 0, q16.2, hLL6, rfl, rfl, rfl, rfl, rfl, rfl, q3z, ((((hS.pull 3).pull 1).pull 2).pull 3)⟩ ?_
  rintro kL6 E w ⟨q2f, q2g, c_b6_L6h, q1r, q2l, q2p, q2m, hLL6, q4q, q4r, q4s, q4t, q4b, q4c, q3f, hS⟩
  have e_ := St.vec_n (hS.pull 2) q3f; subst e_
  replace hLL6 := lp_s hLL6; obtain ⟨kL6, obL6, rfl, hFL6, hLL6⟩ := hLL6
  refine x_seq <| x_region <| p (yl_lss q4c q4b) <| x_done <|
   x_seq <|
   x_cond_p (q2p < q27.1) rfl (fun hc28 => ?_) (fun hc28 => ?_)
  ·replace hFL6 := it_t hc28 hFL6
   replace hFL6 := bd_s hFL6; obtain ⟨q3t, q6t, hFL6⟩ := hFL6
   refine x_skip <| x_seq <| x_block <| x_region <|
    p (yl_move q4t) <| p (yl_move q4q) <| ?_
   have hcall := c_maskmake_Stream_Range q6t (q40.le q1k) ((hS.pull 3).pull 1)
   refine o_cc call_20 (args3 rfl rfl rfl) hcall ?_
   rintro e w' ⟨rfl, hS⟩
   refine ⟨_, rfl, ?_⟩
   refine o_buildSlice (vs := [.int .i64 q3t.1]) (cs := [.int .i64 q3t.1]) sl_87 zero_2 (parts_eq (pt (va := .int .i64 q3t.1) rfl pt0)) rfl (by intro v hv; simp only [List.mem_cons, List.not_mem_nil, or_false] at hv; first | (subst hv; rfl) | (rcases hv with rfl <;> rfl)) (by decide) rfl hS (fun b32 w' hS => ?_)
   replace hFL6 := lv_s hFL6; obtain ⟨q66, q6u, hFL6⟩ := hFL6
   replace hFL6 := ck_s hFL6; obtain ⟨q6v, hFL6⟩ := hFL6
   refine o_ap sl_87 zero_2 rfl (by decide) rfl rfl (hS.pull 4) q3f (src_blk usl_87 hS rfl rfl) (RepL.cons (R := (RpI .i64)) (ρ := q2c) (x := q3t.1) (cs := [.int .i64 q3t.1]) rfl RepL.nil) q6u q6v (fun A33 c33 cs33 w' hr33 hS => ?_)
   replace hFL6 := ar_s hFL6; obtain ⟨x34, hx34, hFL6⟩ := hFL6
   refine p (yl_assign rfl) <| x_done <| x_blk <| x_region <|
    p (yadd q4c rfl hx34) <| p (yl_move rfl) <| x_done <| ?_
   have e_ := Option.some.inj (show some _ = some _ from hFL6); subst e_
   exact x_inv ⟨kL6, Nat.lt_succ_self _, A33, q66.length, c33, cs33, q66, x34, q3t.2, hLL6, q4q, q4r, q4s, rfl, q4b, rfl, hr33, (((((hS.pull 1).drop.pull 2).pull 1).pull 3).pull 3)⟩
  ·replace hFL6 := it_f hc28 hFL6
   refine x_exitTo _ rfl <| ?_
   have e_ := Option.some.inj (show some _ = some _ from hFL6); subst e_
   exact x_inv ⟨q2f, q2l.length, c_b6_L6h, q1r, q2l, hLL6, q4r, q4s, q4t, q3f, (((hS.drop.pull 2).pull 2).pull 2)⟩
 rintro E w ⟨q0v, q2o, c_b6_L6, q3e, q17, rfl, q6w, q4m, q54, q4d, hS⟩
 have e_ := St.vec_n (hS.pull 1) q4d; subst e_
 refine x_seq <| x_region <| p (yl_move q4m) <| p (yl_move q54) <| ?_
 have q_ := St.vec_fz ((hS.pull 2).pull 1) q2k; obtain ⟨q7a, q1b, q41, hS⟩ := q_
 have q_ := St.vec_fz (hS.pull 1) (q4d.le q1b); obtain ⟨q77, q0n, q42, hS⟩ := q_
 replace hF := bd_s hF; obtain ⟨q7, q6x, hF⟩ := hF
 have hcall := c_exact_Solve q6x (q41.le q0n) q42 hS
 refine o_cc call_45 (args2 rfl rfl) hcall ?_
 rintro e w' ⟨q2d, q3, q67, c_y0_ret_9_2, q0b, rfl, q0y, q1l, hS⟩
 refine ⟨_, rfl, ?_⟩
 have e_ := St.vec_n hS q1l; subst e_
 replace hF := bd_s hF; obtain ⟨q2q, q68, hF⟩ := hF
 refine p (yl_move rfl) <| p (yl_extract rfl rfl) <| p (yl_extract rfl rfl) <| p (yl_assign rfl) <|
  p (yl_assign rfl) <| x_done <| x_seq <| x_region <|
  p (yl_move q4m) <| ?_
 have hcall := c_exact_Det q68 (q41.le (q0n.trans q0y)) (hS.pull 1)
 refine o_cc call_37 (args1 rfl) hcall ?_
 rintro e w' ⟨q4e, q1s, q55, c_y0_ret_1_10_1, rfl, q0i, q1t, hS⟩
 refine ⟨_, rfl, ?_⟩
 have e_ := q1t.n; subst e_
 refine p (yl_move rfl) <| p (yl_extract rfl rfl) <| p (yl_extract rfl rfl) <| ?_
 refine o_alloc zero_79 hS (fun b9 w' hS => ?_)
 refine o_storeAgg (news := [.bool q2q.1.fneg, .slice q1s q2q.1.fmag.length c_y0_ret_1_10_1]) agg_79 rfl rfl rfl (by simp [over_length]) hS (fun w' hS => ?_)
 replace hF := bd_s hF; obtain ⟨q56, q69, hF⟩ := hF
 refine p (yl_assign rfl) <| x_done <| x_seq <| x_seq <|
  x_region <| ?_
 have hcall := c_maskkeep4_exacts q69  (hS.pull 1)
 refine o_cc call_40 args0 ((Calls.mono hcall (fun e w'' h => And.intro h.1 (((h.2.pull 2).pull 1).pull 2)))) ?_
 rintro e w' ⟨rfl, hS⟩
 refine ⟨_, rfl, ?_⟩
 replace hF := lv_s hF; obtain ⟨x51, hx51, hF⟩ := hF
 replace hF := bd_s hF; obtain ⟨q43, q5j, hF⟩ := hF
 refine p (yl_not rfl) <| p (yl_move rfl) <| pg (v := .int .i64 q2q.2) 48 (c := !(!q56)) (says_f _) (fun hq => Yl.at (yl_move rfl)) <| pg (v := .bool (decide (q2q.2 ≠ 0))) 48 (c := !(!q56)) (says_f _) (fun hq => Yl.at (yl_neq (cv hq) rfl)) <|
  p (yor' rfl rfl (fun hc => (cv (t_not hc))) hx51) <| p (yl_move rfl) <| pg (v := .int .i64 q7.2) 52 (c := !x51) (says_f _) (fun hq => Yl.at (yl_move rfl)) <| pg (v := .bool (decide (q7.2 = 0))) 52 (c := !x51) (says_f _) (fun hq => Yl.at (yl_eql (cv hq) rfl)) <|
  pg (v := .agg #[.bool q2q.1.fneg, .slice q1s q2q.1.fmag.length c_y0_ret_1_10_1]) 52 (c := !x51) (says_f _) (fun hq => ld_sub agg_79 rfl rfl rfl hS) <|
  pccg (v := .int .i64 q43) 52 (c := !x51) (says_f _) call_44 (fun hq => (args1 (cv hq))) hS (fun hq => by
   have hcall := c_exact_Sign (gd_t q5j hq) q1t (hS.pull 1)
   exact (Calls.mono hcall (fun e w'' h => And.intro h.1 (((h.2.pull 2).pull 1).pull 2)))) (fun w' hS => ?_)
 replace hF := lv_s hF; obtain ⟨x59, hx59, hF⟩ := hF
 refine pg (v := .bool (decide (q43 ≠ 0))) 52 (c := !x51) (says_f _) (fun hq => Yl.at (yl_neq (cv hq) rfl)) <| pg (v := .bool (!((decide (q7.2 = 0)) == (decide (q43 ≠ 0))))) 52 (c := !x51) (says_f _) (fun hq => Yl.at (yneb ub_4 (cv hq) (cv hq))) <| p (yor' rfl rfl (fun hc => (cv (t_not hc))) hx59) <| x_done <|
  x_cond (t := x59) rfl (fun hc59 => ?_) (fun hc59 => ?_)
 ·replace hF := it_t hc59 hF
  refine x_seq <| x_region <| p (yl_assign rfl) <| x_done <| ?_
  have e_ := Option.some.inj (show some _ = some _ from hF); subst e_
  exact x_return ⟨_, ⟨_, _, rfl, rfl, rfl⟩, rfl, (ro_back0 ((((q1k.trans q1b).trans q0n).trans q0y).trans q0i) ((hS.drop.pull 1).drop))⟩
 ·replace hF := it_bf hc59 hF
  refine x_skip <| x_seq <| x_seq <| x_region <|
   p (yl_move rfl) <| p (yl_neq rfl rfl) <| x_done <|
   x_cond_p (q7.2 ≠ 0) rfl (fun hc61 => ?_) (fun hc61 => ?_)
  ·replace hF := it_t hc61 hF
   replace hF := lv_s hF; obtain ⟨x68, hx68, hF⟩ := hF
   refine x_seq <| x_region <| p (yl_move rfl) <| p (yl_eql rfl rfl) <|
    p (yl_move rfl) <| pg (v := .slice q3 q7.1.length c_y0_ret_9_2) 64 (c := decide (q7.2 = 7)) (says_t _) (fun hq => Yl.at (yl_move rfl)) <| pg (v := .int .i64 (q7.1.length : Int)) 64 (c := decide (q7.2 = 7)) (says_t _) (fun hq => Yl.at (yl_len_slice usl_90 (cv hq))) <| pg (v := .bool (decide ((q7.1.length : Int) = 0))) 64 (c := decide (q7.2 = 7)) (says_t _) (fun hq => Yl.at (yl_eql (cv hq) rfl)) <|
    p (yand' rfl (fun hc => (cv hc)) rfl hx68) <| p (yl_assign rfl) <| x_done <| ?_
   have e_ := Option.some.inj (show some _ = some _ from hF); subst e_
   exact x_return ⟨_, ⟨_, _, rfl, rfl, rfl⟩, rfl, (ro_back0 ((((q1k.trans q1b).trans q0n).trans q0y).trans q0i) ((hS.drop.pull 1).drop))⟩
  ·replace hF := it_f hc61 hF
   refine x_skip <| x_seq <| x_seq <| x_region <|
    p (yl_move q4m) <| p (yl_len_slice usl_75 rfl) <| p (yl_move rfl) <| x_done <| ?_
   replace hF := bs_s hF; obtain ⟨oL16, hLL16, hF⟩ := hF
   refine x_join (fun E w => (Sum.inl (())) = oL16 ∧ E 4 = .int .i64 q27.1 ∧ E 7 = .slice q3 q7.1.length c_y0_ret_9_2 ∧ St w0 w (vec 94 R_exact_Ratio.sz (.slice q3 q7.1.length c_y0_ret_9_2) q7.1.length q0b :: ro q4e :: l)) ?_ ?_
   ·refine x_block ?_
    refine x_loop (fun k_ E w => ∃ (q0d : Int), lp (P_maskkeep4_ExactHolds_L16 q16 q17 q7) k_ q0d = some oL16 ∧ E 4 = .int .i64 q27.1 ∧ E 6 = .slice q0v q17.length c_b6_L6 ∧ E 7 = .slice q3 q7.1.length c_y0_ret_9_2 ∧ E 69 = .slice q0h q16.1.length c_y0_ret_3_2 ∧ E 70 = .int .i64 (q16.1.length : Int) ∧ E 71 = .int .i64 q0d ∧ St w0 w (vec 94 R_exact_Ratio.sz (.slice q3 q7.1.length c_y0_ret_9_2) q7.1.length q0b :: ro q4e :: l)) fuel ⟨0, hLL16, q6w, q54, rfl, rfl, rfl, rfl, (hS.drop.pull 1)⟩ ?_
    rintro kL16 E w ⟨q0d, hLL16, q4f, q5k, q4g, q44, q45, q2h, hS⟩
    replace hLL16 := lp_s hLL16; obtain ⟨kL16, obL16, rfl, hFL16, hLL16⟩ := hLL16
    refine x_seq <| x_region <| p (yl_lss q2h q45) <| x_done <|
     x_seq <|
     x_cond_p (q0d < (q16.1.length : Int)) rfl (fun hc72 => ?_) (fun hc72 => ?_)
    ·replace hFL16 := it_t hc72 hFL16
     replace hFL16 := ck_s hFL16; obtain ⟨q4u, hFL16⟩ := hFL16
     replace hFL16 := lv_s hFL16; obtain ⟨q2r, q6a, hFL16⟩ := hFL16
     have q_ := q41.get q4u; obtain ⟨q78, q4v, q6b⟩ := q_
     rw [← q6a] at q4v
     obtain ⟨q57, q7b, q58, rfl, q4n⟩ := q4v
     have e_ := q4n.n; subst e_
     replace hFL16 := bd_s hFL16; obtain ⟨q1d, q6c, hFL16⟩ := hFL16
     refine x_skip <| x_seq <| x_block <| x_seq <|
      x_region <| p (yl_move q2h) <| p (yix_f sl_75 q44 q2h (q41.le ((q0n.trans q0y).trans q0i)) q4u) <| pa (at_load one_87 rfl (Elt.ld (j := 0) (Elt.le q6b ((q0n.trans q0y).trans q0i)) (hS.pull 1) rfl)) <|
      p (yl_assign rfl) <| p (yl_assign rfl) <| x_done <| x_seq <|
      x_region <| ?_
     have hcall := c_exact_Whole q6c  (hS.pull 1)
     refine o_cc call_46 (args1 rfl) hcall ?_
     rintro e w' ⟨q3u, q1u, q59, c_y0_ret_1_18_0, q1v, q5a, c_y0_ret_3_18_0, rfl, q13, q1w, q1x, hS⟩
     refine ⟨_, rfl, ?_⟩
     have e_ := q1w.n; subst e_
     have e_ := q1x.n; subst e_
     refine o_alloc zero_94 hS (fun b13 w' hS => ?_)
     refine o_storeAgg (news := [.bool q1d.Num.fneg, .slice q1u q1d.Num.fmag.length c_y0_ret_1_18_0, .bool q1d.Den.fneg, .slice q1v q1d.Den.fmag.length c_y0_ret_3_18_0]) agg_94 rfl rfl rfl (by simp [over_length]) hS (fun w' hS => ?_)
     refine x_done <| x_seq <| x_seq <| x_region <|
      p (yl_move rfl) <| p (yl_len_slice usl_87 rfl) <| p (yl_move rfl) <| x_done <| ?_
     replace hFL16 := bs_s hFL16; obtain ⟨oL20, hLL20, hFL16⟩ := hFL16
     refine x_join (fun E w => ∃ (q0g : Heap) (q0e : Option Addr) (q28 : Nat) (c_b13_1_L20 : Nat) (q0f : Option Addr) (q29 : Nat) (c_b13_3_L20 : Nat) (q0r : Bool) (q0s : List Int) (q0t : Bool) (q0u : List Int), (Sum.inl (q0r, q0s, q0t, q0u)) = oL20 ∧ Le q3u q0g ∧ E 4 = .int .i64 q27.1 ∧ E 6 = .slice q0v q17.length c_b6_L6 ∧ E 7 = .slice q3 q7.1.length c_y0_ret_9_2 ∧ E 11 = .int .i64 q0d ∧ E 13 = .pointer (some ⟨b13, 0, none⟩) ∧ E 69 = .slice q0h q16.1.length c_y0_ret_3_2 ∧ E 70 = .int .i64 (q16.1.length : Int) ∧ E 71 = .int .i64 q0d ∧ RdS (RpI .u32) q0g q0e q28 c_b13_1_L20 q0s ∧ RdS (RpI .u32) q0g q0f q29 c_b13_3_L20 q0u ∧ St w0 w (vec 94 R_exact_Ratio.sz (.slice q3 q7.1.length c_y0_ret_9_2) q7.1.length q0b :: cells b13 94 [.bool q0r, .slice q0e q28 c_b13_1_L20, .bool q0t, .slice q0f q29 c_b13_3_L20] :: ro q0g :: l)) ?_ ?_
     ·refine x_block ?_
      refine x_loop (fun k_ E w => ∃ (q0c : Heap) (q0w : Option Addr) (q1m : Nat) (c_b13_1_L20h : Nat) (q0x : Option Addr) (q1n : Nat) (c_b13_3_L20h : Nat) (q0o : Int) (q10 : Bool) (q0p : List Int) (q11 : Bool) (q0q : List Int), lp (P_maskkeep4_ExactHolds_L20 q7 q2r) k_ (q0o, q10, q0p, q11, q0q) = some oL20 ∧ Le q3u q0c ∧ E 4 = .int .i64 q27.1 ∧ E 6 = .slice q0v q17.length c_b6_L6 ∧ E 7 = .slice q3 q7.1.length c_y0_ret_9_2 ∧ E 11 = .int .i64 q0d ∧ E 13 = .pointer (some ⟨b13, 0, none⟩) ∧ E 69 = .slice q0h q16.1.length c_y0_ret_3_2 ∧ E 70 = .int .i64 (q16.1.length : Int) ∧ E 71 = .int .i64 q0d ∧ E 77 = .slice q57 q2r.length q58 ∧ E 78 = .int .i64 (q2r.length : Int) ∧ E 79 = .int .i64 q0o ∧ RdS (RpI .u32) q0c q0w q1m c_b13_1_L20h q0p ∧ RdS (RpI .u32) q0c q0x q1n c_b13_3_L20h q0q ∧ St w0 w (vec 94 R_exact_Ratio.sz (.slice q3 q7.1.length c_y0_ret_9_2) q7.1.length q0b :: cells b13 94 [.bool q10, .slice q0w q1m c_b13_1_L20h, .bool q11, .slice q0x q1n c_b13_3_L20h] :: ro q0c :: l)) fuel ⟨q3u, q1u, q1d.Num.fmag.length, c_y0_ret_1_18_0, q1v, q1d.Den.fmag.length, c_y0_ret_3_18_0, 0, q1d.Num.fneg, q1d.Num.fmag, q1d.Den.fneg, q1d.Den.fmag, hLL20, (Le.refl _), q4f, q5k, q4g, rfl, rfl, q44, q45, q2h, rfl, rfl, rfl, q1w, q1x, (((hS.pull 1).pull 1).pull 2)⟩ ?_
      rintro kL20 E w ⟨q0c, q0w, q1m, c_b13_1_L20h, q0x, q1n, c_b13_3_L20h, q0o, q10, q0p, q11, q0q, hLL20, q0z, q3v, q3w, q2e, q3g, q1o, q3h, q3i, q3j, q3k, q3l, q1p, q18, q19, hS⟩
      have e_ := q18.n; subst e_
      have e_ := q19.n; subst e_
      replace hLL20 := lp_s hLL20; obtain ⟨kL20, obL20, rfl, hFL20, hLL20⟩ := hLL20
      refine x_seq <| x_region <| p (yl_lss q1p q3l) <| x_done <|
       x_seq <|
       x_cond_p (q0o < (q2r.length : Int)) rfl (fun hc80 => ?_) (fun hc80 => ?_)
      ·replace hFL20 := it_t hc80 hFL20
       replace hFL20 := ck_s hFL20; obtain ⟨q4w, hFL20⟩ := hFL20
       replace hFL20 := lv_s hFL20; obtain ⟨x83, hx83, hFL20⟩ := hFL20
       refine x_skip <| x_seq <| x_block <| x_seq <|
        x_region <| p (yl_move q1p) <| p (yix_f sl_87 q3k q1p (q4n.le ((((q0n.trans q0y).trans q0i).trans q13).trans q0z)) q4w) <| pa (at_load one_2 rfl (RdS.getW (q4n.le ((((q0n.trans q0y).trans q0i).trans q13).trans q0z)) (hS.pull 2) q4w hx83)) <|
        p (yl_assign rfl) <| p (yl_assign rfl) <| x_done <| x_seq <|
        x_seq <| x_region <| p (yl_move rfl) <| p (yl_move q2e) <|
        p (yl_len_slice usl_90 rfl) <| p (yl_geq rfl rfl) <| x_done <|
        x_cond_p ((q7.1.length : Int) ≤ q0o) rfl (fun hc87 => ?_) (fun hc87 => ?_)
       ·replace hFL20 := it_t hc87 hFL20
        refine x_seq <| x_region <| p (yl_assign rfl) <| x_done <| ?_
        have e_ := Option.some.inj (show some _ = some _ from hFL20); subst e_
        have e_ := (show _ = oL20 from hLL20); subst e_
        have e_ := Option.some.inj (show some _ = some _ from hFL16); subst e_
        have e_ := (show _ = oL16 from hLL16); subst e_
        have e_ := Option.some.inj (show some _ = some _ from hF); subst e_
        exact x_return ⟨_, ⟨_, _, rfl, rfl, rfl⟩, rfl, (ro_back0 ((((((q1k.trans q1b).trans q0n).trans q0y).trans q0i).trans q13).trans q0z) hS.drop.drop)⟩
       ·replace hFL20 := it_f hc87 hFL20
        refine x_skip <| x_seq <| ?_
        replace hFL20 := bd_s hFL20; obtain ⟨q6, q6d, hFL20⟩ := hFL20
        replace hFL20 := ck_s hFL20; obtain ⟨q4x, hFL20⟩ := hFL20
        replace hFL20 := lv_s hFL20; obtain ⟨q0a, q6e, hFL20⟩ := hFL20
        replace hFL20 := bd_s hFL20; obtain ⟨q2, q6f, hFL20⟩ := hFL20
        refine x_par (w0 := w0) [⟨[], [], [89], [], [], []⟩, ⟨[0], [0], [90], [0], [], [1]⟩, ⟨[], [], [91], [], [], []⟩, ⟨[], [], [92], [], [], []⟩, ⟨[2, 3], [2, 3], [93], [2], [], []⟩, ⟨[2, 3, 4], [4], [94], [2], [], []⟩, ⟨[0, 1, 2, 3, 4, 5], [1, 5], [95], [0], [1], [3]⟩, ⟨[0, 1, 2, 3, 4, 5, 6], [6], [88, 95], [], [], []⟩, ⟨[0, 1, 2, 3, 4, 5, 6, 7], [6, 7], [95, 96], [], [], []⟩, ⟨[0, 1, 2, 3, 4, 5, 6, 7], [6, 7], [97], [], [], []⟩, ⟨[], [], [16], [], [], [4]⟩, ⟨[0, 1, 2, 3, 4, 5, 6, 7, 8, 10], [6, 8, 10], [], [], [4], [5]⟩, ⟨[0, 1, 2, 3, 4, 5, 6, 7, 8, 9, 10, 11], [9], [17], [], [], []⟩] [⟨none, none, []⟩, ⟨(some 1), (some 6), [90]⟩, ⟨none, none, []⟩, ⟨(some 6), none, [90, 95]⟩, ⟨(some 10), (some 11), [16]⟩, ⟨(some 11), none, [16, 95]⟩] [16, 17, 88, 89, 90, 91, 92, 93, 94, 95, 96, 97] [0, 2] [0, 2, 3, 5] [0, 1, 2, 3, 4, 5, 6, 7, 8, 9, 10, 12] [fun Ep24 => Ep24 89 = .int .i64 x83, fun Ep24 => Ep24 90 = .agg #[.bool q6.Num.fneg, .slice (adOf (partOf 1 (Ep24 90))) q6.Num.fmag.length (capOf (partOf 1 (Ep24 90))), .bool q6.Den.fneg, .slice (adOf (partOf 3 (Ep24 90))) q6.Den.fmag.length (capOf (partOf 3 (Ep24 90)))], fun Ep24 => Ep24 91 = .slice q3 q7.1.length c_y0_ret_9_2, fun Ep24 => Ep24 92 = .int .i64 q0o, fun Ep24 => Ep24 93 = .pointer (some ((adr q3).add (q0o.toNat * R_exact_Ratio.sz))), fun Ep24 => Ep24 94 = .agg #[.bool q0a.Num.fneg, .slice (adOf (partOf 1 (Ep24 94))) q0a.Num.fmag.length (capOf (partOf 1 (Ep24 94))), .bool q0a.Den.fneg, .slice (adOf (partOf 3 (Ep24 94))) q0a.Den.fmag.length (capOf (partOf 3 (Ep24 94)))] ∧ RdS (RpI .u32) q2d (adOf (partOf 1 (Ep24 94))) q0a.Num.fmag.length (capOf (partOf 1 (Ep24 94))) q0a.Num.fmag ∧ RdS (RpI .u32) q2d (adOf (partOf 3 (Ep24 94))) q0a.Den.fmag.length (capOf (partOf 3 (Ep24 94))) q0a.Den.fmag, fun Ep24 => Ep24 95 = .tuple #[.agg #[.bool q2.1.Num.fneg, .slice (adOf (partOf 1 (partOf 0 (Ep24 95)))) q2.1.Num.fmag.length (capOf (partOf 1 (partOf 0 (Ep24 95)))), .bool q2.1.Den.fneg, .slice (adOf (partOf 3 (partOf 0 (Ep24 95)))) q2.1.Den.fmag.length (capOf (partOf 3 (partOf 0 (Ep24 95))))], .int .i64 q2.2], fun Ep24 => Ep24 88 = .tuple #[.agg #[.bool q2.1.Num.fneg, .slice (adOf (partOf 1 (partOf 0 (Ep24 95)))) q2.1.Num.fmag.length (capOf (partOf 1 (partOf 0 (Ep24 95)))), .bool q2.1.Den.fneg, .slice (adOf (partOf 3 (partOf 0 (Ep24 95)))) q2.1.Den.fmag.length (capOf (partOf 3 (partOf 0 (Ep24 95))))], .int .i64 q2.2], fun Ep24 => Ep24 96 = .agg #[.bool q2.1.Num.fneg, .slice (adOf (partOf 1 (partOf 0 (Ep24 95)))) q2.1.Num.fmag.length (capOf (partOf 1 (partOf 0 (Ep24 95)))), .bool q2.1.Den.fneg, .slice (adOf (partOf 3 (partOf 0 (Ep24 95)))) q2.1.Den.fmag.length (capOf (partOf 3 (partOf 0 (Ep24 95))))], fun Ep24 => Ep24 97 = .int .i64 q2.2, fun Ep24 => Ep24 16 = .pointer (some ⟨(blkOf (Ep24 16)), 0, none⟩), fun Ep24 => True, fun Ep24 => Ep24 17 = .int .i64 q2.2] [fun Ep24 => ro q0c, fun Ep24 => bunA (fun (q9 : Heap) => Le q0c q9 ∧ RdS (RpI .u32) q9 (adOf (partOf 1 (Ep24 90))) q6.Num.fmag.length (capOf (partOf 1 (Ep24 90))) q6.Num.fmag ∧ RdS (RpI .u32) q9 (adOf (partOf 3 (Ep24 90))) q6.Den.fmag.length (capOf (partOf 3 (Ep24 90))) q6.Den.fmag) (fun (q9 : Heap) => [roD q0c q9]), fun Ep24 => vec 94 R_exact_Ratio.sz (.slice q3 q7.1.length c_y0_ret_9_2) q7.1.length q0b, fun Ep24 => bunA (fun (q5 : Heap) => Le q0c q5 ∧ RdS (RpI .u32) q5 (adOf (partOf 1 (Ep24 90))) q6.Num.fmag.length (capOf (partOf 1 (Ep24 90))) q6.Num.fmag ∧ RdS (RpI .u32) q5 (adOf (partOf 3 (Ep24 90))) q6.Den.fmag.length (capOf (partOf 3 (Ep24 90))) q6.Den.fmag ∧ RdS (RpI .u32) q5 (adOf (partOf 1 (partOf 0 (Ep24 95)))) q2.1.Num.fmag.length (capOf (partOf 1 (partOf 0 (Ep24 95)))) q2.1.Num.fmag ∧ RdS (RpI .u32) q5 (adOf (partOf 3 (partOf 0 (Ep24 95)))) q2.1.Den.fmag.length (capOf (partOf 3 (partOf 0 (Ep24 95)))) q2.1.Den.fmag) (fun (q5 : Heap) => [roD q0c q5]), fun Ep24 => cells (blkOf (Ep24 16)) 94 [.bool false, .slice none 0 0, .bool false, .slice none 0 0], fun Ep24 => cells (blkOf (Ep24 16)) 94 [.bool q2.1.Num.fneg, .slice (adOf (partOf 1 (partOf 0 (Ep24 95)))) q2.1.Num.fmag.length (capOf (partOf 1 (partOf 0 (Ep24 95)))), .bool q2.1.Den.fneg, .slice (adOf (partOf 3 (partOf 0 (Ep24 95)))) q2.1.Den.fmag.length (capOf (partOf 3 (partOf 0 (Ep24 95))))]] mixed (by kernel_rfl) (hS.pull 2) ?_ ?_
        ·refine ⟨?_, ?_, ?_, ?_, ?_, ?_, ?_, ?_, ?_, ?_, ?_, ?_, ?_, trivial⟩
         ·intro Ep24 w l' hE24 hO24 hF_ hS
          refine p (yl_move (hE24 15 rfl)) <| x_done <| ?_
          refine x_fin ⟨⟨_, rfl⟩, rfl, ?_⟩
          exact Eq.mp (by kernel_rfl) hS
         ·intro Ep24 w l' hE24 hO24 hF_ hS
          obtain ⟨q2s, -⟩ := hF_
          replace q2s : Ep24 89 = .int .i64 x83 := Eq.mp (by kernel_rfl) q2s
          replace hS : St w0 w (ro q0c :: l') := Eq.mp (by kernel_rfl) hS
          have hcall := c_exact_Whole q6d  hS
          refine o_cc call_46 (args1 q2s) hcall ?_
          rintro e w' ⟨q9, q3m, q5b, c_y0_ret_1_24_1, q3n, q5c, c_y0_ret_3_24_1, rfl, q4h, q0j, q0k, hS⟩
          refine ⟨_, rfl, ?_⟩
          have e_ := q0j.n; subst e_
          have e_ := q0k.n; subst e_
          refine x_done <| ?_
          refine x_fin ⟨⟨_, rfl⟩, rfl, ?_⟩
          replace hS := St.ro_split q4h hS
          replace hS := St.bun (Φ := (fun (q9 : Heap) => Le q0c q9 ∧ RdS (RpI .u32) q9 q3m q6.Num.fmag.length c_y0_ret_1_24_1 q6.Num.fmag ∧ RdS (RpI .u32) q9 q3n q6.Den.fmag.length c_y0_ret_3_24_1 q6.Den.fmag)) (L := (fun (q9 : Heap) => [roD q0c q9])) q9 ⟨q4h, q0j, q0k⟩ (hS.pull 1)
          exact Eq.mp (by kernel_rfl) (hS.pull 1)
         ·intro Ep24 w l' hE24 hO24 hF_ hS
          refine p (yl_move ((hE24 7 rfl).trans q2e)) <| x_done <| ?_
          refine x_fin ⟨⟨_, rfl⟩, rfl, ?_⟩
          exact Eq.mp (by kernel_rfl) hS
         ·intro Ep24 w l' hE24 hO24 hF_ hS
          refine p (yl_move (hE24 14 rfl)) <| x_done <| ?_
          refine x_fin ⟨⟨_, rfl⟩, rfl, ?_⟩
          exact Eq.mp (by kernel_rfl) hS
         ·intro Ep24 w l' hE24 hO24 hF_ hS
          obtain ⟨q2t, q2u, -⟩ := hF_
          replace q2t : Ep24 91 = .slice q3 q7.1.length c_y0_ret_9_2 := Eq.mp (by kernel_rfl) q2t
          replace q2u : Ep24 92 = .int .i64 q0o := Eq.mp (by kernel_rfl) q2u
          replace hS : St w0 w (vec 94 R_exact_Ratio.sz (.slice q3 q7.1.length c_y0_ret_9_2) q7.1.length q0b :: l') := Eq.mp (by kernel_rfl) hS
          refine p (yix_o sl_90 q2t q2u hS q1l q4x) <| x_done <| ?_
          refine x_fin ⟨⟨_, rfl⟩, rfl, ?_⟩
          exact Eq.mp (by kernel_rfl) hS
         ·intro Ep24 w l' hE24 hO24 hF_ hS
          obtain ⟨q2v, -⟩ := hF_
          replace q2v : Ep24 93 = .pointer (some ((adr q3).add (q0o.toNat * R_exact_Ratio.sz))) := Eq.mp (by kernel_rfl) q2v
          replace hS : St w0 w (vec 94 R_exact_Ratio.sz (.slice q3 q7.1.length c_y0_ret_9_2) q7.1.length q0b :: l') := Eq.mp (by kernel_rfl) hS
          have q_ := q1l.get q4x; obtain ⟨q79, q4y, q6g⟩ := q_
          rw [← q6e] at q4y
          obtain ⟨q5l, q74, q5m, q5n, q75, q5o, rfl, q4i, q4j⟩ := q4y
          have e_ := q4i.n; subst e_
          have e_ := q4j.n; subst e_
          refine pa (v := .agg #[.bool q0a.Num.fneg, .slice q5l q0a.Num.fmag.length q5m, .bool q0a.Den.fneg, .slice q5n q0a.Den.fmag.length q5o]) (at_loadAgg agg_94 q2v rfl (EltV.every q6g hS)) <| x_done <| ?_
          refine x_fin ⟨⟨_, rfl⟩, ⟨rfl, q4i, q4j⟩, ?_⟩
          exact Eq.mp (by kernel_rfl) hS
         ·intro Ep24 w l' hE24 hO24 hF_ hS
          obtain ⟨q2w, q1y, -⟩ := hF_
          replace q2w : Ep24 90 = .agg #[.bool q6.Num.fneg, .slice (adOf (partOf 1 (Ep24 90))) q6.Num.fmag.length (capOf (partOf 1 (Ep24 90))), .bool q6.Den.fneg, .slice (adOf (partOf 3 (Ep24 90))) q6.Den.fmag.length (capOf (partOf 3 (Ep24 90)))] := Eq.mp (by kernel_rfl) q2w
          replace q1y : Ep24 94 = .agg #[.bool q0a.Num.fneg, .slice (adOf (partOf 1 (Ep24 94))) q0a.Num.fmag.length (capOf (partOf 1 (Ep24 94))), .bool q0a.Den.fneg, .slice (adOf (partOf 3 (Ep24 94))) q0a.Den.fmag.length (capOf (partOf 3 (Ep24 94)))] ∧ RdS (RpI .u32) q2d (adOf (partOf 1 (Ep24 94))) q0a.Num.fmag.length (capOf (partOf 1 (Ep24 94))) q0a.Num.fmag ∧ RdS (RpI .u32) q2d (adOf (partOf 3 (Ep24 94))) q0a.Den.fmag.length (capOf (partOf 3 (Ep24 94))) q0a.Den.fmag := Eq.mp (by kernel_rfl) q1y
          have q_ := id q1y; obtain ⟨-, q4z, q50⟩ := q_
          replace hS : St w0 w (ro q0c :: bunA (fun (q9 : Heap) => Le q0c q9 ∧ RdS (RpI .u32) q9 (adOf (partOf 1 (Ep24 90))) q6.Num.fmag.length (capOf (partOf 1 (Ep24 90))) q6.Num.fmag ∧ RdS (RpI .u32) q9 (adOf (partOf 3 (Ep24 90))) q6.Den.fmag.length (capOf (partOf 3 (Ep24 90))) q6.Den.fmag) (fun (q9 : Heap) => [roD q0c q9]) :: l') := Eq.mp (by kernel_rfl) hS
          have q_ := St.unbun (hS.pull 1); obtain ⟨q9, ⟨q49, q0j, q0k⟩, hS⟩ := q_
          have q_ := St.ro_join (hS.pull 1) (Le.refl _) q49; obtain ⟨q71, q1z, q20, hS, q6y⟩ := q_
          have hcall := c_exact_Prod q6f (q0j.le q20) (q0k.le q20) (q4z.le (((q0i.trans q13).trans q0z).trans q1z)) (q50.le (((q0i.trans q13).trans q0z).trans q1z)) hS
          refine o_cc call_47 (args2 q2w q1y.1) hcall ?_
          rintro e w' ⟨q5, q3o, q5d, c_y0_ret_1_24_6, q3p, q5e, c_y0_ret_3_24_6, rfl, q2x, q14, q15, hS⟩
          refine ⟨_, rfl, ?_⟩
          have e_ := q14.n; subst e_
          have e_ := q15.n; subst e_
          refine x_done <| ?_
          refine x_fin ⟨⟨_, rfl⟩, rfl, ?_⟩
          replace hS := St.ro_split (q1z.trans q2x) hS
          replace hS := St.bun (Φ := (fun (q5 : Heap) => Le q0c q5 ∧ RdS (RpI .u32) q5 (adOf (partOf 1 (Ep24 90))) q6.Num.fmag.length (capOf (partOf 1 (Ep24 90))) q6.Num.fmag ∧ RdS (RpI .u32) q5 (adOf (partOf 3 (Ep24 90))) q6.Den.fmag.length (capOf (partOf 3 (Ep24 90))) q6.Den.fmag ∧ RdS (RpI .u32) q5 q3o q2.1.Num.fmag.length c_y0_ret_1_24_6 q2.1.Num.fmag ∧ RdS (RpI .u32) q5 q3p q2.1.Den.fmag.length c_y0_ret_3_24_6 q2.1.Den.fmag)) (L := (fun (q5 : Heap) => [roD q0c q5])) q5 ⟨(q1z.trans q2x), (q0j.le (q20.trans q2x)), (q0k.le (q20.trans q2x)), q14, q15⟩ (hS.pull 1)
          exact Eq.mp (by kernel_rfl) (hS.pull 1)
         ·intro Ep24 w l' hE24 hO24 hF_ hS
          obtain ⟨q12, -⟩ := hF_
          replace q12 : Ep24 95 = .tuple #[.agg #[.bool q2.1.Num.fneg, .slice (adOf (partOf 1 (partOf 0 (Ep24 95)))) q2.1.Num.fmag.length (capOf (partOf 1 (partOf 0 (Ep24 95)))), .bool q2.1.Den.fneg, .slice (adOf (partOf 3 (partOf 0 (Ep24 95)))) q2.1.Den.fmag.length (capOf (partOf 3 (partOf 0 (Ep24 95))))], .int .i64 q2.2] := Eq.mp (by kernel_rfl) q12
          refine p (yl_move q12) <| x_done <| ?_
          refine x_fin ⟨⟨_, rfl⟩, rfl, ?_⟩
          exact Eq.mp (by kernel_rfl) hS
         ·intro Ep24 w l' hE24 hO24 hF_ hS
          obtain ⟨q12, q1e, -⟩ := hF_
          replace q12 : Ep24 95 = .tuple #[.agg #[.bool q2.1.Num.fneg, .slice (adOf (partOf 1 (partOf 0 (Ep24 95)))) q2.1.Num.fmag.length (capOf (partOf 1 (partOf 0 (Ep24 95)))), .bool q2.1.Den.fneg, .slice (adOf (partOf 3 (partOf 0 (Ep24 95)))) q2.1.Den.fmag.length (capOf (partOf 3 (partOf 0 (Ep24 95))))], .int .i64 q2.2] := Eq.mp (by kernel_rfl) q12
          replace q1e : Ep24 88 = .tuple #[.agg #[.bool q2.1.Num.fneg, .slice (adOf (partOf 1 (partOf 0 (Ep24 95)))) q2.1.Num.fmag.length (capOf (partOf 1 (partOf 0 (Ep24 95)))), .bool q2.1.Den.fneg, .slice (adOf (partOf 3 (partOf 0 (Ep24 95)))) q2.1.Den.fmag.length (capOf (partOf 3 (partOf 0 (Ep24 95))))], .int .i64 q2.2] := Eq.mp (by kernel_rfl) q1e
          refine p (yl_extract q1e rfl) <| x_done <| ?_
          refine x_fin ⟨⟨_, rfl⟩, rfl, ?_⟩
          exact Eq.mp (by kernel_rfl) hS
         ·intro Ep24 w l' hE24 hO24 hF_ hS
          obtain ⟨q12, q1e, -⟩ := hF_
          replace q12 : Ep24 95 = .tuple #[.agg #[.bool q2.1.Num.fneg, .slice (adOf (partOf 1 (partOf 0 (Ep24 95)))) q2.1.Num.fmag.length (capOf (partOf 1 (partOf 0 (Ep24 95)))), .bool q2.1.Den.fneg, .slice (adOf (partOf 3 (partOf 0 (Ep24 95)))) q2.1.Den.fmag.length (capOf (partOf 3 (partOf 0 (Ep24 95))))], .int .i64 q2.2] := Eq.mp (by kernel_rfl) q12
          replace q1e : Ep24 88 = .tuple #[.agg #[.bool q2.1.Num.fneg, .slice (adOf (partOf 1 (partOf 0 (Ep24 95)))) q2.1.Num.fmag.length (capOf (partOf 1 (partOf 0 (Ep24 95)))), .bool q2.1.Den.fneg, .slice (adOf (partOf 3 (partOf 0 (Ep24 95)))) q2.1.Den.fmag.length (capOf (partOf 3 (partOf 0 (Ep24 95))))], .int .i64 q2.2] := Eq.mp (by kernel_rfl) q1e
          refine p (yl_extract q1e rfl) <| x_done <| ?_
          refine x_fin ⟨⟨_, rfl⟩, rfl, ?_⟩
          exact Eq.mp (by kernel_rfl) hS
         ·intro Ep24 w l' hE24 hO24 hF_ hS
          refine o_alloc zero_94 hS (fun b16 w' hS => ?_)
          refine x_done <| ?_
          refine x_fin ⟨⟨_, rfl⟩, rfl, ?_⟩
          exact Eq.mp (by kernel_rfl) hS
         ·intro Ep24 w l' hE24 hO24 hF_ hS
          obtain ⟨q12, q2y, q1q, -⟩ := hF_
          replace q12 : Ep24 95 = .tuple #[.agg #[.bool q2.1.Num.fneg, .slice (adOf (partOf 1 (partOf 0 (Ep24 95)))) q2.1.Num.fmag.length (capOf (partOf 1 (partOf 0 (Ep24 95)))), .bool q2.1.Den.fneg, .slice (adOf (partOf 3 (partOf 0 (Ep24 95)))) q2.1.Den.fmag.length (capOf (partOf 3 (partOf 0 (Ep24 95))))], .int .i64 q2.2] := Eq.mp (by kernel_rfl) q12
          replace q2y : Ep24 96 = .agg #[.bool q2.1.Num.fneg, .slice (adOf (partOf 1 (partOf 0 (Ep24 95)))) q2.1.Num.fmag.length (capOf (partOf 1 (partOf 0 (Ep24 95)))), .bool q2.1.Den.fneg, .slice (adOf (partOf 3 (partOf 0 (Ep24 95)))) q2.1.Den.fmag.length (capOf (partOf 3 (partOf 0 (Ep24 95))))] := Eq.mp (by kernel_rfl) q2y
          replace q1q : Ep24 16 = .pointer (some ⟨(blkOf (Ep24 16)), 0, none⟩) := Eq.mp (by kernel_rfl) q1q
          replace hS : St w0 w (cells (blkOf (Ep24 16)) 94 [.bool false, .slice none 0 0, .bool false, .slice none 0 0] :: l') := Eq.mp (by kernel_rfl) hS
          refine o_storeAgg (news := [.bool q2.1.Num.fneg, .slice (adOf (partOf 1 (partOf 0 (Ep24 95)))) q2.1.Num.fmag.length (capOf (partOf 1 (partOf 0 (Ep24 95)))), .bool q2.1.Den.fneg, .slice (adOf (partOf 3 (partOf 0 (Ep24 95)))) q2.1.Den.fmag.length (capOf (partOf 3 (partOf 0 (Ep24 95))))]) agg_94 q1q q2y rfl (by simp [over_length]) hS (fun w' hS => ?_)
          refine x_done <| ?_
          refine x_fin ⟨⟨undef, rfl⟩, trivial, ?_⟩
          exact Eq.mp (by kernel_rfl) hS
         ·intro Ep24 w l' hE24 hO24 hF_ hS
          obtain ⟨q2z, -⟩ := hF_
          replace q2z : Ep24 97 = .int .i64 q2.2 := Eq.mp (by kernel_rfl) q2z
          refine p (yl_assign q2z) <| x_done <| ?_
          refine x_fin ⟨⟨_, rfl⟩, rfl, ?_⟩
          exact Eq.mp (by kernel_rfl) hS
        intro Ep24 w' hE24 hF_ hS
        obtain ⟨q2s, q2w, q2t, q2u, q2v, q1y, q12, q1e, q2y, q2z, q1q, q3q, -⟩ := hF_
        replace q2s : Ep24 89 = .int .i64 x83 := Eq.mp (by kernel_rfl) q2s
        replace q2w : Ep24 90 = .agg #[.bool q6.Num.fneg, .slice (adOf (partOf 1 (Ep24 90))) q6.Num.fmag.length (capOf (partOf 1 (Ep24 90))), .bool q6.Den.fneg, .slice (adOf (partOf 3 (Ep24 90))) q6.Den.fmag.length (capOf (partOf 3 (Ep24 90)))] := Eq.mp (by kernel_rfl) q2w
        replace q2t : Ep24 91 = .slice q3 q7.1.length c_y0_ret_9_2 := Eq.mp (by kernel_rfl) q2t
        replace q2u : Ep24 92 = .int .i64 q0o := Eq.mp (by kernel_rfl) q2u
        replace q2v : Ep24 93 = .pointer (some ((adr q3).add (q0o.toNat * R_exact_Ratio.sz))) := Eq.mp (by kernel_rfl) q2v
        replace q1y : Ep24 94 = .agg #[.bool q0a.Num.fneg, .slice (adOf (partOf 1 (Ep24 94))) q0a.Num.fmag.length (capOf (partOf 1 (Ep24 94))), .bool q0a.Den.fneg, .slice (adOf (partOf 3 (Ep24 94))) q0a.Den.fmag.length (capOf (partOf 3 (Ep24 94)))] ∧ RdS (RpI .u32) q2d (adOf (partOf 1 (Ep24 94))) q0a.Num.fmag.length (capOf (partOf 1 (Ep24 94))) q0a.Num.fmag ∧ RdS (RpI .u32) q2d (adOf (partOf 3 (Ep24 94))) q0a.Den.fmag.length (capOf (partOf 3 (Ep24 94))) q0a.Den.fmag := Eq.mp (by kernel_rfl) q1y
        have q_ := id q1y; obtain ⟨-, q4z, q50⟩ := q_
        replace q12 : Ep24 95 = .tuple #[.agg #[.bool q2.1.Num.fneg, .slice (adOf (partOf 1 (partOf 0 (Ep24 95)))) q2.1.Num.fmag.length (capOf (partOf 1 (partOf 0 (Ep24 95)))), .bool q2.1.Den.fneg, .slice (adOf (partOf 3 (partOf 0 (Ep24 95)))) q2.1.Den.fmag.length (capOf (partOf 3 (partOf 0 (Ep24 95))))], .int .i64 q2.2] := Eq.mp (by kernel_rfl) q12
        replace q1e : Ep24 88 = .tuple #[.agg #[.bool q2.1.Num.fneg, .slice (adOf (partOf 1 (partOf 0 (Ep24 95)))) q2.1.Num.fmag.length (capOf (partOf 1 (partOf 0 (Ep24 95)))), .bool q2.1.Den.fneg, .slice (adOf (partOf 3 (partOf 0 (Ep24 95)))) q2.1.Den.fmag.length (capOf (partOf 3 (partOf 0 (Ep24 95))))], .int .i64 q2.2] := Eq.mp (by kernel_rfl) q1e
        replace q2y : Ep24 96 = .agg #[.bool q2.1.Num.fneg, .slice (adOf (partOf 1 (partOf 0 (Ep24 95)))) q2.1.Num.fmag.length (capOf (partOf 1 (partOf 0 (Ep24 95)))), .bool q2.1.Den.fneg, .slice (adOf (partOf 3 (partOf 0 (Ep24 95)))) q2.1.Den.fmag.length (capOf (partOf 3 (partOf 0 (Ep24 95))))] := Eq.mp (by kernel_rfl) q2y
        replace q2z : Ep24 97 = .int .i64 q2.2 := Eq.mp (by kernel_rfl) q2z
        replace q1q : Ep24 16 = .pointer (some ⟨(blkOf (Ep24 16)), 0, none⟩) := Eq.mp (by kernel_rfl) q1q
        replace q3q : Ep24 17 = .int .i64 q2.2 := Eq.mp (by kernel_rfl) q3q
        replace hS : St w0 w' (ro q0c :: vec 94 R_exact_Ratio.sz (.slice q3 q7.1.length c_y0_ret_9_2) q7.1.length q0b :: bunA (fun (q5 : Heap) => Le q0c q5 ∧ RdS (RpI .u32) q5 (adOf (partOf 1 (Ep24 90))) q6.Num.fmag.length (capOf (partOf 1 (Ep24 90))) q6.Num.fmag ∧ RdS (RpI .u32) q5 (adOf (partOf 3 (Ep24 90))) q6.Den.fmag.length (capOf (partOf 3 (Ep24 90))) q6.Den.fmag ∧ RdS (RpI .u32) q5 (adOf (partOf 1 (partOf 0 (Ep24 95)))) q2.1.Num.fmag.length (capOf (partOf 1 (partOf 0 (Ep24 95)))) q2.1.Num.fmag ∧ RdS (RpI .u32) q5 (adOf (partOf 3 (partOf 0 (Ep24 95)))) q2.1.Den.fmag.length (capOf (partOf 3 (partOf 0 (Ep24 95)))) q2.1.Den.fmag) (fun (q5 : Heap) => [roD q0c q5]) :: cells (blkOf (Ep24 16)) 94 [.bool q2.1.Num.fneg, .slice (adOf (partOf 1 (partOf 0 (Ep24 95)))) q2.1.Num.fmag.length (capOf (partOf 1 (partOf 0 (Ep24 95)))), .bool q2.1.Den.fneg, .slice (adOf (partOf 3 (partOf 0 (Ep24 95)))) q2.1.Den.fmag.length (capOf (partOf 3 (partOf 0 (Ep24 95))))] :: (cells b13 94 [.bool q10, .slice q0w q0p.length c_b13_1_L20h, .bool q11, .slice q0x q0q.length c_b13_3_L20h] :: l)) := Eq.mp (by kernel_rfl) hS
        have q_ := St.unbun (hS.pull 2); obtain ⟨q5, ⟨q4a, q0j, q0k, q14, q15⟩, hS⟩ := q_
        have q_ := St.ro_join (hS.pull 1) (Le.refl _) q4a; obtain ⟨q4k, q1c, q46, hS, q6z⟩ := q_
        refine x_seq <| x_seq <| x_region <| p (yl_move q3q) <|
         p (yl_eql rfl rfl) <| x_done <| ?_
        replace hFL20 := bd_s hFL20; obtain ⟨oc99, hFc99, hFL20⟩ := hFL20
        refine x_join (fun E w => ∃ (q30 : Heap) (q1f : Option Addr) (q2a : Nat) (c_b13_1_c99 : Nat) (q1g : Option Addr) (q2b : Nat) (c_b13_3_c99 : Nat) (q31 : Int) (q21 : Bool) (q1i : List Int) (q22 : Bool) (q1j : List Int), (q31, q21, q1i, q22, q1j) = oc99 ∧ Le q4k q30 ∧ E 4 = .int .i64 q27.1 ∧ E 6 = .slice q0v q17.length c_b6_L6 ∧ E 7 = .slice q3 q7.1.length c_y0_ret_9_2 ∧ E 11 = .int .i64 q0d ∧ E 13 = .pointer (some ⟨b13, 0, none⟩) ∧ E 17 = .int .i64 q31 ∧ E 69 = .slice q0h q16.1.length c_y0_ret_3_2 ∧ E 70 = .int .i64 (q16.1.length : Int) ∧ E 71 = .int .i64 q0d ∧ E 77 = .slice q57 q2r.length q58 ∧ E 78 = .int .i64 (q2r.length : Int) ∧ E 79 = .int .i64 q0o ∧ RdS (RpI .u32) q30 q1f q2a c_b13_1_c99 q1i ∧ RdS (RpI .u32) q30 q1g q2b c_b13_3_c99 q1j ∧ St w0 w (vec 94 R_exact_Ratio.sz (.slice q3 q7.1.length c_y0_ret_9_2) q7.1.length q0b :: cells b13 94 [.bool q21, .slice q1f q2a c_b13_1_c99, .bool q22, .slice q1g q2b c_b13_3_c99] :: ro q30 :: l)) ?_ ?_
        ·refine x_cond_p (q2.2 = 0) rfl (fun hc99 => ?_) (fun hc99 => ?_)
         ·replace hFc99 := it_t hc99 hFc99
          replace hFc99 := bd_s hFc99; obtain ⟨q1a, q6h, hFc99⟩ := hFc99
          refine x_region <| pa (v := .agg #[.bool q10, .slice q0w q0p.length c_b13_1_L20h, .bool q11, .slice q0x q0q.length c_b13_3_L20h]) (ld_sub agg_94 ((hE24 13 rfl).trans q1o) rfl rfl (hS.pull 3)) <| pa (v := .agg #[.bool q2.1.Num.fneg, .slice (adOf (partOf 1 (partOf 0 (Ep24 95)))) q2.1.Num.fmag.length (capOf (partOf 1 (partOf 0 (Ep24 95)))), .bool q2.1.Den.fneg, .slice (adOf (partOf 3 (partOf 0 (Ep24 95)))) q2.1.Den.fmag.length (capOf (partOf 3 (partOf 0 (Ep24 95))))]) (ld_sub agg_94 q1q rfl rfl (hS.pull 2)) <| ?_
          have hcall := c_exact_Sum q6h (q18.le q1c) (q19.le q1c) (q14.le q46) (q15.le q46) hS
          refine o_cc call_48 (args2 rfl rfl) hcall ?_
          rintro e w' ⟨q5p, q23, q5f, c_y0_ret_1_26_2, q24, q5g, c_y0_ret_3_26_2, rfl, q5q, q25, q26, hS⟩
          refine ⟨_, rfl, ?_⟩
          have e_ := q25.n; subst e_
          have e_ := q26.n; subst e_
          refine p (yl_move rfl) <| p (yl_extract rfl rfl) <| p (yl_extract rfl rfl) <| ?_
          refine o_storeAgg (news := [.bool q1a.1.Num.fneg, .slice q23 q1a.1.Num.fmag.length c_y0_ret_1_26_2, .bool q1a.1.Den.fneg, .slice q24 q1a.1.Den.fmag.length c_y0_ret_3_26_2]) agg_94 ((hE24 13 rfl).trans q1o) rfl rfl (by simp [over_length]) (hS.pull 3) (fun w' hS => ?_)
          refine p (yl_assign rfl) <| x_done <| ?_
          exact x_inv ⟨q5p, q23, q1a.1.Num.fmag.length, c_y0_ret_1_26_2, q24, q1a.1.Den.fmag.length, c_y0_ret_3_26_2, q1a.2, q1a.1.Num.fneg, q1a.1.Num.fmag, q1a.1.Den.fneg, q1a.1.Den.fmag, (Option.some.inj (show some _ = some _ from hFc99)), q5q, ((hE24 4 rfl).trans q3v), ((hE24 6 rfl).trans q3w), ((hE24 7 rfl).trans q2e), ((hE24 11 rfl).trans q3g), ((hE24 13 rfl).trans q1o), rfl, ((hE24 69 rfl).trans q3h), ((hE24 70 rfl).trans q3i), ((hE24 71 rfl).trans q3j), ((hE24 77 rfl).trans q3k), ((hE24 78 rfl).trans q3l), ((hE24 79 rfl).trans q1p), q25, q26, ((((hS.pull 3).drop.pull 1).pull 1).pull 2)⟩
         ·replace hFc99 := it_f hc99 hFc99
          refine x_skip <| ?_
          exact x_inv ⟨q4k, q0w, q0p.length, c_b13_1_L20h, q0x, q0q.length, c_b13_3_L20h, q2.2, q10, q0p, q11, q0q, (Option.some.inj (show some _ = some _ from hFc99)), (Le.refl _), ((hE24 4 rfl).trans q3v), ((hE24 6 rfl).trans q3w), ((hE24 7 rfl).trans q2e), ((hE24 11 rfl).trans q3g), ((hE24 13 rfl).trans q1o), q3q, ((hE24 69 rfl).trans q3h), ((hE24 70 rfl).trans q3i), ((hE24 71 rfl).trans q3j), ((hE24 77 rfl).trans q3k), ((hE24 78 rfl).trans q3l), ((hE24 79 rfl).trans q1p), (q18.le q1c), (q19.le q1c), (((hS.pull 2).drop.pull 2).pull 2)⟩
        rintro E w ⟨q30, q1f, q2a, c_b13_1_c99, q1g, q2b, c_b13_3_c99, q31, q21, q1i, q22, q1j, rfl, q47, q6i, q6j, q6k, q5r, q5s, q5t, q5u, q5v, q5w, q5x, q5y, q5z, q3a, q3b, hS⟩
        have e_ := q3a.n; subst e_
        have e_ := q3b.n; subst e_
        refine x_seq <| x_region <| p (yl_move q5t) <| p (yl_neq rfl rfl) <|
         x_done <|
         x_cond_p (q31 ≠ 0) rfl (fun hc107 => ?_) (fun hc107 => ?_)
        ·replace hFL20 := it_t hc107 hFL20
         refine x_seq <| x_region <| p (yl_assign rfl) <| x_done <| ?_
         have e_ := Option.some.inj (show some _ = some _ from hFL20); subst e_
         have e_ := (show _ = oL20 from hLL20); subst e_
         have e_ := Option.some.inj (show some _ = some _ from hFL16); subst e_
         have e_ := (show _ = oL16 from hLL16); subst e_
         have e_ := Option.some.inj (show some _ = some _ from hF); subst e_
         exact x_return ⟨_, ⟨_, _, rfl, rfl, rfl⟩, rfl, (ro_back0 ((((((((q1k.trans q1b).trans q0n).trans q0y).trans q0i).trans q13).trans q0z).trans q1c).trans q47) hS.drop.drop)⟩
        ·replace hFL20 := it_f hc107 hFL20
         replace hFL20 := ar_s hFL20; obtain ⟨x108, hx108, hFL20⟩ := hFL20
         refine x_skip <| x_blk <| x_region <| p (yadd q5z rfl hx108) <|
          p (yl_move rfl) <| x_done <| ?_
         have e_ := Option.some.inj (show some _ = some _ from hFL20); subst e_
         exact x_inv ⟨kL20, Nat.lt_succ_self _, q30, q1f, q1i.length, c_b13_1_c99, q1g, q1j.length, c_b13_3_c99, x108, q21, q1i, q22, q1j, hLL20, ((q0z.trans q1c).trans q47), q6i, q6j, q6k, q5r, q5s, q5u, q5v, q5w, q5x, q5y, rfl, q3a, q3b, (((hS.pull 2).pull 2).pull 2)⟩
      ·replace hFL20 := it_f hc80 hFL20
       refine x_exitTo _ rfl <| ?_
       have e_ := Option.some.inj (show some _ = some _ from hFL20); subst e_
       exact x_inv ⟨q0c, q0w, q0p.length, c_b13_1_L20h, q0x, q0q.length, c_b13_3_L20h, q10, q0p, q11, q0q, hLL20, q0z, q3v, q3w, q2e, q3g, q1o, q3h, q3i, q3j, q18, q19, (((hS.pull 2).pull 2).pull 2)⟩
     rintro E w ⟨q0g, q0e, q28, c_b13_1_L20, q0f, q29, c_b13_3_L20, q0r, q0s, q0t, q0u, rfl, q2i, q6l, q51, q6m, q60, q61, q62, q63, q64, q3c, q3d, hS⟩
     have e_ := q3c.n; subst e_
     have e_ := q3d.n; subst e_
     refine x_seq <| ?_
     replace hFL16 := ck_s hFL16; obtain ⟨q52, hFL16⟩ := hFL16
     replace hFL16 := lv_s hFL16; obtain ⟨x113, hx113, hFL16⟩ := hFL16
     replace hFL16 := bd_s hFL16; obtain ⟨q8, q6n, hFL16⟩ := hFL16
     replace hFL16 := bd_s hFL16; obtain ⟨q32, q6o, hFL16⟩ := hFL16
     refine x_par (w0 := w0) [⟨[], [], [109], [0], [], []⟩, ⟨[], [], [110], [], [], []⟩, ⟨[], [], [111], [], [], []⟩, ⟨[1, 2], [1, 2], [112], [1], [], []⟩, ⟨[1, 2, 3], [3], [113], [1], [], []⟩, ⟨[1, 2, 3, 4], [4], [114], [1], [], [2]⟩, ⟨[0, 1, 2, 3, 4, 5], [0, 5], [115], [1, 2], [], []⟩, ⟨[0, 1, 2, 3, 4, 5, 6], [6], [116], [], [], []⟩] [⟨none, none, []⟩, ⟨none, none, []⟩, ⟨(some 5), none, [114]⟩] [109, 110, 111, 112, 113, 114, 115, 116] [0, 1] [0, 1, 2] [0, 1, 2, 3, 4, 5, 6, 7] [fun Ep30 => Ep30 109 = .agg #[.bool q0r, .slice q0e q0s.length c_b13_1_L20, .bool q0t, .slice q0f q0u.length c_b13_3_L20], fun Ep30 => Ep30 110 = .slice q0v q17.length c_b6_L6, fun Ep30 => Ep30 111 = .int .i64 q0d, fun Ep30 => Ep30 112 = .pointer (some ((adr q0v).add (q0d.toNat * (RpI .i64).sz))), fun Ep30 => Ep30 113 = .int .i64 x113, fun Ep30 => Ep30 114 = .agg #[.bool q8.Num.fneg, .slice (adOf (partOf 1 (Ep30 114))) q8.Num.fmag.length (capOf (partOf 1 (Ep30 114))), .bool q8.Den.fneg, .slice (adOf (partOf 3 (Ep30 114))) q8.Den.fmag.length (capOf (partOf 3 (Ep30 114)))], fun Ep30 => Ep30 115 = .int .i64 q32, fun Ep30 => Ep30 116 = .bool (decide (q32 ≠ 0))] [fun Ep30 => cells b13 94 [.bool q0r, .slice q0e q0s.length c_b13_1_L20, .bool q0t, .slice q0f q0u.length c_b13_3_L20], fun Ep30 => ro q0g, fun Ep30 => bunA (fun (q4 : Heap) => Le q0g q4 ∧ RdS (RpI .u32) q4 (adOf (partOf 1 (Ep30 114))) q8.Num.fmag.length (capOf (partOf 1 (Ep30 114))) q8.Num.fmag ∧ RdS (RpI .u32) q4 (adOf (partOf 3 (Ep30 114))) q8.Den.fmag.length (capOf (partOf 3 (Ep30 114))) q8.Den.fmag) (fun (q4 : Heap) => [roD q0g q4])] mixed (by kernel_rfl) ((hS.pull 2).pull 2) ?_ ?_
     ·refine ⟨?_, ?_, ?_, ?_, ?_, ?_, ?_, ?_, trivial⟩
      ·intro Ep30 w l' hE30 hO30 hF_ hS
       replace hS : St w0 w (cells b13 94 [.bool q0r, .slice q0e q0s.length c_b13_1_L20, .bool q0t, .slice q0f q0u.length c_b13_3_L20] :: l') := Eq.mp (by kernel_rfl) hS
       refine pa (v := .agg #[.bool q0r, .slice q0e q0s.length c_b13_1_L20, .bool q0t, .slice q0f q0u.length c_b13_3_L20]) (ld_sub agg_94 ((hE30 13 rfl).trans q61) rfl rfl hS) <| x_done <| ?_
       refine x_fin ⟨⟨_, rfl⟩, rfl, ?_⟩
       exact Eq.mp (by kernel_rfl) hS
      ·intro Ep30 w l' hE30 hO30 hF_ hS
       refine p (yl_move ((hE30 6 rfl).trans q51)) <| x_done <| ?_
       refine x_fin ⟨⟨_, rfl⟩, rfl, ?_⟩
       exact Eq.mp (by kernel_rfl) hS
      ·intro Ep30 w l' hE30 hO30 hF_ hS
       refine p (yl_move ((hE30 11 rfl).trans q60)) <| x_done <| ?_
       refine x_fin ⟨⟨_, rfl⟩, rfl, ?_⟩
       exact Eq.mp (by kernel_rfl) hS
      ·intro Ep30 w l' hE30 hO30 hF_ hS
       obtain ⟨q33, q34, -⟩ := hF_
       replace q33 : Ep30 110 = .slice q0v q17.length c_b6_L6 := Eq.mp (by kernel_rfl) q33
       replace q34 : Ep30 111 = .int .i64 q0d := Eq.mp (by kernel_rfl) q34
       replace hS : St w0 w (ro q0g :: l') := Eq.mp (by kernel_rfl) hS
       refine p (yix_f sl_87 q33 q34 (q42.le (((q0y.trans q0i).trans q13).trans q2i)) q52) <| x_done <| ?_
       refine x_fin ⟨⟨_, rfl⟩, rfl, ?_⟩
       exact Eq.mp (by kernel_rfl) hS
      ·intro Ep30 w l' hE30 hO30 hF_ hS
       obtain ⟨q35, -⟩ := hF_
       replace q35 : Ep30 112 = .pointer (some ((adr q0v).add (q0d.toNat * (RpI .i64).sz))) := Eq.mp (by kernel_rfl) q35
       replace hS : St w0 w (ro q0g :: l') := Eq.mp (by kernel_rfl) hS
       refine pa (at_load one_2 q35 (RdS.getW (q42.le (((q0y.trans q0i).trans q13).trans q2i)) hS q52 hx113)) <| x_done <| ?_
       refine x_fin ⟨⟨_, rfl⟩, rfl, ?_⟩
       exact Eq.mp (by kernel_rfl) hS
      ·intro Ep30 w l' hE30 hO30 hF_ hS
       obtain ⟨q36, -⟩ := hF_
       replace q36 : Ep30 113 = .int .i64 x113 := Eq.mp (by kernel_rfl) q36
       replace hS : St w0 w (ro q0g :: l') := Eq.mp (by kernel_rfl) hS
       have hcall := c_exact_Whole q6n  hS
       refine o_cc call_46 (args1 q36) hcall ?_
       rintro e w' ⟨q4, q3r, q5h, c_y0_ret_1_30_5, q3s, q5i, c_y0_ret_3_30_5, rfl, q4l, q0l, q0m, hS⟩
       refine ⟨_, rfl, ?_⟩
       have e_ := q0l.n; subst e_
       have e_ := q0m.n; subst e_
       refine x_done <| ?_
       refine x_fin ⟨⟨_, rfl⟩, rfl, ?_⟩
       replace hS := St.ro_split q4l hS
       replace hS := St.bun (Φ := (fun (q4 : Heap) => Le q0g q4 ∧ RdS (RpI .u32) q4 q3r q8.Num.fmag.length c_y0_ret_1_30_5 q8.Num.fmag ∧ RdS (RpI .u32) q4 q3s q8.Den.fmag.length c_y0_ret_3_30_5 q8.Den.fmag)) (L := (fun (q4 : Heap) => [roD q0g q4])) q4 ⟨q4l, q0l, q0m⟩ (hS.pull 1)
       exact Eq.mp (by kernel_rfl) (hS.pull 1)
      ·intro Ep30 w l' hE30 hO30 hF_ hS
       obtain ⟨q37, q38, -⟩ := hF_
       replace q37 : Ep30 109 = .agg #[.bool q0r, .slice q0e q0s.length c_b13_1_L20, .bool q0t, .slice q0f q0u.length c_b13_3_L20] := Eq.mp (by kernel_rfl) q37
       replace q38 : Ep30 114 = .agg #[.bool q8.Num.fneg, .slice (adOf (partOf 1 (Ep30 114))) q8.Num.fmag.length (capOf (partOf 1 (Ep30 114))), .bool q8.Den.fneg, .slice (adOf (partOf 3 (Ep30 114))) q8.Den.fmag.length (capOf (partOf 3 (Ep30 114)))] := Eq.mp (by kernel_rfl) q38
       replace hS : St w0 w (ro q0g :: bunA (fun (q4 : Heap) => Le q0g q4 ∧ RdS (RpI .u32) q4 (adOf (partOf 1 (Ep30 114))) q8.Num.fmag.length (capOf (partOf 1 (Ep30 114))) q8.Num.fmag ∧ RdS (RpI .u32) q4 (adOf (partOf 3 (Ep30 114))) q8.Den.fmag.length (capOf (partOf 3 (Ep30 114))) q8.Den.fmag) (fun (q4 : Heap) => [roD q0g q4]) :: l') := Eq.mp (by kernel_rfl) hS
       have q_ := St.unbun (hS.pull 1); obtain ⟨q4, ⟨q1h, q0l, q0m⟩, hS⟩ := q_
       have q_ := St.ro_join (hS.pull 1) (Le.refl _) q1h; obtain ⟨q72, q3x, q3y, hS, q4o⟩ := q_
       have hcall := c_exact_Compare q6o (q3c.le q3x) (q3d.le q3x) (q0l.le q3y) (q0m.le q3y) hS
       refine o_cc call_49 (args2 q37 q38) (hcall) ?_
       rintro e w' ⟨rfl, hS⟩
       refine ⟨_, rfl, ?_⟩
       refine x_done <| ?_
       refine x_fin ⟨⟨_, rfl⟩, rfl, ?_⟩
       replace hS := q4o hS
       replace hS := St.bun (Φ := (fun (q4 : Heap) => Le q0g q4 ∧ RdS (RpI .u32) q4 (adOf (partOf 1 (Ep30 114))) q8.Num.fmag.length (capOf (partOf 1 (Ep30 114))) q8.Num.fmag ∧ RdS (RpI .u32) q4 (adOf (partOf 3 (Ep30 114))) q8.Den.fmag.length (capOf (partOf 3 (Ep30 114))) q8.Den.fmag)) (L := (fun (q4 : Heap) => [roD q0g q4])) q4 ⟨q1h, q0l, q0m⟩ (hS.pull 1)
       exact Eq.mp (by kernel_rfl) (hS.pull 1)
      ·intro Ep30 w l' hE30 hO30 hF_ hS
       obtain ⟨q39, -⟩ := hF_
       replace q39 : Ep30 115 = .int .i64 q32 := Eq.mp (by kernel_rfl) q39
       refine p (yl_neq q39 rfl) <| x_done <| ?_
       refine x_fin ⟨⟨_, rfl⟩, rfl, ?_⟩
       exact Eq.mp (by kernel_rfl) hS
     intro Ep30 w' hE30 hF_ hS
     obtain ⟨q37, q33, q34, q35, q36, q38, q39, q4p, -⟩ := hF_
     replace q37 : Ep30 109 = .agg #[.bool q0r, .slice q0e q0s.length c_b13_1_L20, .bool q0t, .slice q0f q0u.length c_b13_3_L20] := Eq.mp (by kernel_rfl) q37
     replace q33 : Ep30 110 = .slice q0v q17.length c_b6_L6 := Eq.mp (by kernel_rfl) q33
     replace q34 : Ep30 111 = .int .i64 q0d := Eq.mp (by kernel_rfl) q34
     replace q35 : Ep30 112 = .pointer (some ((adr q0v).add (q0d.toNat * (RpI .i64).sz))) := Eq.mp (by kernel_rfl) q35
     replace q36 : Ep30 113 = .int .i64 x113 := Eq.mp (by kernel_rfl) q36
     replace q38 : Ep30 114 = .agg #[.bool q8.Num.fneg, .slice (adOf (partOf 1 (Ep30 114))) q8.Num.fmag.length (capOf (partOf 1 (Ep30 114))), .bool q8.Den.fneg, .slice (adOf (partOf 3 (Ep30 114))) q8.Den.fmag.length (capOf (partOf 3 (Ep30 114)))] := Eq.mp (by kernel_rfl) q38
     replace q39 : Ep30 115 = .int .i64 q32 := Eq.mp (by kernel_rfl) q39
     replace q4p : Ep30 116 = .bool (decide (q32 ≠ 0)) := Eq.mp (by kernel_rfl) q4p
     replace hS : St w0 w' (cells b13 94 [.bool q0r, .slice q0e q0s.length c_b13_1_L20, .bool q0t, .slice q0f q0u.length c_b13_3_L20] :: ro q0g :: bunA (fun (q4 : Heap) => Le q0g q4 ∧ RdS (RpI .u32) q4 (adOf (partOf 1 (Ep30 114))) q8.Num.fmag.length (capOf (partOf 1 (Ep30 114))) q8.Num.fmag ∧ RdS (RpI .u32) q4 (adOf (partOf 3 (Ep30 114))) q8.Den.fmag.length (capOf (partOf 3 (Ep30 114))) q8.Den.fmag) (fun (q4 : Heap) => [roD q0g q4]) :: (vec 94 R_exact_Ratio.sz (.slice q3 q7.1.length c_y0_ret_9_2) q7.1.length q0b :: l)) := Eq.mp (by kernel_rfl) hS
     have q_ := St.unbun (hS.pull 2); obtain ⟨q4, ⟨q1h, q0l, q0m⟩, hS⟩ := q_
     have q_ := St.ro_join (hS.pull 2) (Le.refl _) q1h; obtain ⟨q76, q48, q73, hS, q70⟩ := q_
     refine x_cond_p (q32 ≠ 0) q4p (fun hc116 => ?_) (fun hc116 => ?_)
     ·replace hFL16 := it_t hc116 hFL16
      refine x_seq <| x_region <| p (yl_assign rfl) <| x_done <| ?_
      have e_ := Option.some.inj (show some _ = some _ from hFL16); subst e_
      have e_ := (show _ = oL16 from hLL16); subst e_
      have e_ := Option.some.inj (show some _ = some _ from hF); subst e_
      exact x_return ⟨_, ⟨_, _, rfl, rfl, rfl⟩, rfl, (ro_back0 (((((((q1k.trans q1b).trans q0n).trans q0y).trans q0i).trans q13).trans q2i).trans q48) (((hS.pull 1).drop.pull 1).drop))⟩
     ·replace hFL16 := it_f hc116 hFL16
      replace hFL16 := ar_s hFL16; obtain ⟨x117, hx117, hFL16⟩ := hFL16
      refine x_skip <| x_blk <| x_region <| p (yadd ((hE30 71 rfl).trans q64) rfl hx117) <|
       p (yl_move rfl) <| x_done <| ?_
      have e_ := Option.some.inj (show some _ = some _ from hFL16); subst e_
      exact x_inv ⟨kL16, Nat.lt_succ_self _, x117, hLL16, ((hE30 4 rfl).trans q6l), ((hE30 6 rfl).trans q51), ((hE30 7 rfl).trans q6m), ((hE30 69 rfl).trans q62), ((hE30 70 rfl).trans q63), rfl, (ro_back1 ((q13.trans q2i).trans q48) ((hS.pull 1).drop.pull 1))⟩
    ·replace hFL16 := it_f hc72 hFL16
     refine x_exitTo _ rfl <| ?_
     have e_ := Option.some.inj (show some _ = some _ from hFL16); subst e_
     exact x_inv ⟨hLL16, q4f, q4g, ((hS.pull 1).pull 1)⟩
   rintro E w ⟨rfl, q6p, q6q, hS⟩
   refine x_seq <| x_region <| p (yl_move q6q) <| p (yl_len_slice usl_90 rfl) <|
    p (yl_move q6p) <| p (yl_eql rfl rfl) <| p (yl_assign rfl) <| x_done <| ?_
   have e_ := Option.some.inj (show some _ = some _ from hF); subst e_
   exact x_return ⟨_, ⟨_, _, rfl, rfl, rfl⟩, rfl, (ro_back0 ((((q1k.trans q1b).trans q0n).trans q0y).trans q0i) hS.drop)⟩
attribute [irreducible] P_maskkeep4_ExactHolds


end Go.Proofs.Ytkenpbnpemjbhaa.X
