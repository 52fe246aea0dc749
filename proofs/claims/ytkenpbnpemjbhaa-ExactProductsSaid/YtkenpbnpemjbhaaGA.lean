/- Printed by gen.py: plain functions, and that the Go code computes them. -/
import Derived.Test.YtkenpbnpemjbhaaXI
import Derived.Test.YtkenpbnpemjbhaaYW
import Derived.Test.YtkenpbnpemjbhaaXT
import Derived.Test.YtkenpbnpemjbhaaGAp0
import Derived.Test.YtkenpbnpemjbhaaGAp1
namespace Go.Proofs.Ytkenpbnpemjbhaa.X
open Go Go.RowKit
set_option linter.unusedVariables false
set_option linter.unusedSimpArgs false

def P_exact_digits_B (rc_ : Int → Option ByteArray) : Int → Option ByteArray := fun n0 =>
 if n0 < 10 then
  lv (((48 : Int) + n0) % 4294967296) fun x6 =>
  lv (x6 % 256) fun x7 =>
  lv (strOf ([x7] : List Int)) fun x9 =>
  some x9
 else
  ck ((10 : Int) ≠ 0) <|
  lv ((Int.tdiv n0 10) % 4294967296) fun x11 =>
  bd (rc_ x11) fun q2 =>
  ck ((10 : Int) ≠ 0) <|
  lv (Int.tmod n0 10) fun x14 =>
  lv (((48 : Int) + x14) % 4294967296) fun x15 =>
  lv (x15 % 256) fun x16 =>
  lv (strOf ([x16] : List Int)) fun x18 =>
  ck (q2.size + x18.size ≤ 140737488355328) <|
  some (q2 ++ x18)
def P_exact_digits (n0 : Int) : Option ByteArray := rcf P_exact_digits_B fuel n0
set_option maxHeartbeats 4000000 in
set_option maxRecDepth 100000 in
theorem c_exact_digits_s (rc_ : Int → Option ByteArray) (ih : ∀ {w0 w : World} {l : List Assn} {ρ : Heap} {n0 : Int} {r : ByteArray} (hF : rc_ n0 = some r) (hS : St w0 w (ro ρ :: l)),
  Calls Try.prog 100 #[.int .u32 n0] w fun e w' => e = .returned (.string r) ∧ St w0 w' (ro ρ :: l)) {w0 w : World} {l : List Assn} {ρ : Heap} {n0 : Int} {r : ByteArray} (hF : P_exact_digits_B rc_ n0 = some r) (hS : St w0 w (ro ρ :: l)) :
  Calls Try.prog 100 #[.int .u32 n0] w fun e w' => e = .returned (.string r) ∧ St w0 w' (ro ρ :: l) := by
 unfold P_exact_digits_B at hF; try dsimp only at hF
 refine enterC Try.func100 rfl 20 rfl (by simp) ?_
 refine x_seq <| x_region <| p (yl_assign rfl) <| x_done <|
  x_seq <| x_seq <| x_region <| p (yl_move rfl) <|
  p (yl_lss rfl rfl) <| x_done <|
  x_cond_p (n0 < 10) rfl (fun hc4 => ?_) (fun hc4 => ?_)
 ·replace hF := it_t hc4 hF
  replace hF := lv_s hF; obtain ⟨x6, hx6, hF⟩ := hF
  replace hF := lv_s hF; obtain ⟨x7, hx7, hF⟩ := hF
  refine x_seq <| x_region <| p (yl_move rfl) <| p (yaddu wm_u32 rfl rfl hx6) <|
   p (yconvu wm_u8 uk_159 ik_5 rfl hx7) <| ?_
  refine o_buildSlice (vs := [.int .u8 x7]) (cs := [.int .u8 x7]) sl_165 zero_5 (parts_eq (pt (va := .int .u8 x7) rfl pt0)) rfl (by intro v hv; simp only [List.mem_cons, List.not_mem_nil, or_false] at hv; first | (subst hv; rfl) | (rcases hv with rfl <;> rfl)) (by decide) rfl hS (fun b8 w' hS => ?_)
  have q0f : RepL (RpI .u8) ρ ([x7] : List Int) [.int .u8 x7] := (RepL.cons (cs := [.int .u8 x7]) rfl RepL.nil)
  replace hS := St.vec_of (n := 1) (sz := (RpI .u8).sz) hS rfl (by decide)
  replace hF := lv_s hF; obtain ⟨x9, hx9, hF⟩ := hF
  refine pa (at_str usl_165 ui_5 us_9 rfl (St.vec_n hS q0f) (str_o hS q0f) hx9) <| p (yl_assign rfl) <| x_done <| ?_
  have e_ := Option.some.inj (show some _ = some _ from hF); subst e_
  exact x_return ⟨_, ⟨_, _, rfl, rfl, rfl⟩, rfl, hS.drop⟩
 ·replace hF := it_f hc4 hF
  refine x_skip <| x_seq <| ?_
  replace hF := ck_s hF; obtain ⟨q0g, hF⟩ := hF
  replace hF := lv_s hF; obtain ⟨x11, hx11, hF⟩ := hF
  replace hF := bd_s hF; obtain ⟨q2, q0h, hF⟩ := hF
  replace hF := ck_s hF; obtain ⟨q0i, hF⟩ := hF
  replace hF := lv_s hF; obtain ⟨x14, hx14, hF⟩ := hF
  replace hF := lv_s hF; obtain ⟨x15, hx15, hF⟩ := hF
  replace hF := lv_s hF; obtain ⟨x16, hx16, hF⟩ := hF
  replace hF := lv_s hF; obtain ⟨x18, hx18, hF⟩ := hF
  replace hF := ck_s hF; obtain ⟨q0j, hF⟩ := hF
  refine x_par (w0 := w0) [⟨[], [], [10], [], [], []⟩, ⟨[0], [0], [11], [], [], []⟩, ⟨[0, 1], [1], [12], [0], [], []⟩, ⟨[], [], [13], [], [], []⟩, ⟨[3], [3], [14], [], [], []⟩, ⟨[3, 4], [4], [15], [], [], []⟩, ⟨[3, 4, 5], [5], [16], [], [], []⟩, ⟨[3, 4, 5, 6], [6], [17], [], [], [1]⟩, ⟨[3, 4, 5, 6, 7], [7], [18], [], [1], [2]⟩, ⟨[0, 1, 2, 3, 4, 5, 6, 7, 8], [2, 8], [19], [], [], []⟩, ⟨[0, 1, 2, 3, 4, 5, 6, 7, 8, 9], [9], [2], [], [], []⟩] [⟨none, none, []⟩, ⟨(some 7), (some 8), [17]⟩, ⟨(some 8), none, [17]⟩] [2, 10, 11, 12, 13, 14, 15, 16, 17, 18, 19] [0] [0, 2] [0, 1, 2, 3, 4, 5, 6, 7, 8, 9, 10] [fun Ep3 => Ep3 10 = .int .u32 n0, fun Ep3 => Ep3 11 = .int .u32 x11, fun Ep3 => Ep3 12 = .string q2, fun Ep3 => Ep3 13 = .int .u32 n0, fun Ep3 => Ep3 14 = .int .u32 x14, fun Ep3 => Ep3 15 = .int .u32 x15, fun Ep3 => Ep3 16 = .int .u8 x16, fun Ep3 => Ep3 17 = .slice (some ⟨(blkOf (Ep3 17)), 0, none⟩) 1 1, fun Ep3 => Ep3 18 = .string x18, fun Ep3 => Ep3 19 = .string (q2 ++ x18), fun Ep3 => Ep3 2 = .string (q2 ++ x18)] [fun Ep3 => ro ρ, fun Ep3 => cells (blkOf (Ep3 17)) 5 [.int .u8 x16], fun Ep3 => bunA (fun (x : Unit) => RepL (RpI .u8) ρ ([x16] : List Int) [.int .u8 x16]) (fun (x : Unit) => [vec 5 (RpI .u8).sz (.slice (some ⟨(blkOf (Ep3 17)), 0, none⟩) 1 1) 1 [.int .u8 x16]])] mixed (by kernel_rfl) hS ?_ ?_
  ·refine ⟨?_, ?_, ?_, ?_, ?_, ?_, ?_, ?_, ?_, ?_, ?_, trivial⟩
   ·intro Ep3 w l' hE3 hO3 hF_ hS
    refine p (yl_move (hE3 0 rfl)) <| x_done <| ?_
    refine x_fin ⟨⟨_, rfl⟩, rfl, ?_⟩
    exact Eq.mp (by kernel_rfl) hS
   ·intro Ep3 w l' hE3 hO3 hF_ hS
    obtain ⟨q3, -⟩ := hF_
    replace q3 : Ep3 10 = .int .u32 n0 := Eq.mp (by kernel_rfl) q3
    refine p (yquou wm_u32 q3 rfl q0g hx11) <| x_done <| ?_
    refine x_fin ⟨⟨_, rfl⟩, rfl, ?_⟩
    exact Eq.mp (by kernel_rfl) hS
   ·intro Ep3 w l' hE3 hO3 hF_ hS
    obtain ⟨q4, -⟩ := hF_
    replace q4 : Ep3 11 = .int .u32 x11 := Eq.mp (by kernel_rfl) q4
    replace hS : St w0 w (ro ρ :: l') := Eq.mp (by kernel_rfl) hS
    have hcall := ih q0h  hS
    refine o_cc call_100 (args1 q4) (hcall) ?_
    rintro e w' ⟨rfl, hS⟩
    refine ⟨_, rfl, ?_⟩
    refine x_done <| ?_
    refine x_fin ⟨⟨_, rfl⟩, rfl, ?_⟩
    exact Eq.mp (by kernel_rfl) hS
   ·intro Ep3 w l' hE3 hO3 hF_ hS
    refine p (yl_move (hE3 0 rfl)) <| x_done <| ?_
    refine x_fin ⟨⟨_, rfl⟩, rfl, ?_⟩
    exact Eq.mp (by kernel_rfl) hS
   ·intro Ep3 w l' hE3 hO3 hF_ hS
    obtain ⟨q5, -⟩ := hF_
    replace q5 : Ep3 13 = .int .u32 n0 := Eq.mp (by kernel_rfl) q5
    refine p (yrem q5 rfl q0i hx14) <| x_done <| ?_
    refine x_fin ⟨⟨_, rfl⟩, rfl, ?_⟩
    exact Eq.mp (by kernel_rfl) hS
   ·intro Ep3 w l' hE3 hO3 hF_ hS
    obtain ⟨q6, -⟩ := hF_
    replace q6 : Ep3 14 = .int .u32 x14 := Eq.mp (by kernel_rfl) q6
    refine p (yaddu wm_u32 rfl q6 hx15) <| x_done <| ?_
    refine x_fin ⟨⟨_, rfl⟩, rfl, ?_⟩
    exact Eq.mp (by kernel_rfl) hS
   ·intro Ep3 w l' hE3 hO3 hF_ hS
    obtain ⟨q7, -⟩ := hF_
    replace q7 : Ep3 15 = .int .u32 x15 := Eq.mp (by kernel_rfl) q7
    refine p (yconvu wm_u8 uk_159 ik_5 q7 hx16) <| x_done <| ?_
    refine x_fin ⟨⟨_, rfl⟩, rfl, ?_⟩
    exact Eq.mp (by kernel_rfl) hS
   ·intro Ep3 w l' hE3 hO3 hF_ hS
    obtain ⟨q8, -⟩ := hF_
    replace q8 : Ep3 16 = .int .u8 x16 := Eq.mp (by kernel_rfl) q8
    refine o_buildSlice (vs := [.int .u8 x16]) (cs := [.int .u8 x16]) sl_165 zero_5 (parts_eq (pt (va := .int .u8 x16) q8 pt0)) rfl (by intro v hv; simp only [List.mem_cons, List.not_mem_nil, or_false] at hv; first | (subst hv; rfl) | (rcases hv with rfl <;> rfl)) (by decide) rfl hS (fun b17 w' hS => ?_)
    refine x_done <| ?_
    refine x_fin ⟨⟨_, rfl⟩, rfl, ?_⟩
    exact Eq.mp (by kernel_rfl) hS
   ·intro Ep3 w l' hE3 hO3 hF_ hS
    obtain ⟨q9, -⟩ := hF_
    replace q9 : Ep3 17 = .slice (some ⟨(blkOf (Ep3 17)), 0, none⟩) 1 1 := Eq.mp (by kernel_rfl) q9
    replace hS : St w0 w (cells (blkOf (Ep3 17)) 5 [.int .u8 x16] :: l') := Eq.mp (by kernel_rfl) hS
    have q0d : RepL (RpI .u8) ρ ([x16] : List Int) [.int .u8 x16] := (RepL.cons (cs := [.int .u8 x16]) rfl RepL.nil)
    replace hS := St.vec_of (n := 1) (sz := (RpI .u8).sz) hS rfl (by decide)
    refine pa (at_str usl_165 ui_5 us_9 q9 (St.vec_n hS q0d) (str_o hS q0d) hx18) <| x_done <| ?_
    refine x_fin ⟨⟨_, rfl⟩, rfl, ?_⟩
    replace hS := St.bun (Φ := (fun (x : Unit) => RepL (RpI .u8) ρ ([x16] : List Int) [.int .u8 x16])) (L := (fun (x : Unit) => [vec 5 (RpI .u8).sz (.slice (some ⟨(blkOf (Ep3 17)), 0, none⟩) 1 1) 1 [.int .u8 x16]])) () q0d hS
    exact Eq.mp (by kernel_rfl) hS
   ·intro Ep3 w l' hE3 hO3 hF_ hS
    obtain ⟨q0a, q0b, -⟩ := hF_
    replace q0a : Ep3 12 = .string q2 := Eq.mp (by kernel_rfl) q0a
    replace q0b : Ep3 18 = .string x18 := Eq.mp (by kernel_rfl) q0b
    refine p (yadds q0a q0b q0j) <| x_done <| ?_
    refine x_fin ⟨⟨_, rfl⟩, rfl, ?_⟩
    exact Eq.mp (by kernel_rfl) hS
   ·intro Ep3 w l' hE3 hO3 hF_ hS
    obtain ⟨q0c, -⟩ := hF_
    replace q0c : Ep3 19 = .string (q2 ++ x18) := Eq.mp (by kernel_rfl) q0c
    refine p (yl_assign q0c) <| x_done <| ?_
    refine x_fin ⟨⟨_, rfl⟩, rfl, ?_⟩
    exact Eq.mp (by kernel_rfl) hS
  intro Ep3 w' hE3 hF_ hS
  obtain ⟨q3, q4, q0a, q5, q6, q7, q8, q9, q0b, q0c, q0e, -⟩ := hF_
  replace q3 : Ep3 10 = .int .u32 n0 := Eq.mp (by kernel_rfl) q3
  replace q4 : Ep3 11 = .int .u32 x11 := Eq.mp (by kernel_rfl) q4
  replace q0a : Ep3 12 = .string q2 := Eq.mp (by kernel_rfl) q0a
  replace q5 : Ep3 13 = .int .u32 n0 := Eq.mp (by kernel_rfl) q5
  replace q6 : Ep3 14 = .int .u32 x14 := Eq.mp (by kernel_rfl) q6
  replace q7 : Ep3 15 = .int .u32 x15 := Eq.mp (by kernel_rfl) q7
  replace q8 : Ep3 16 = .int .u8 x16 := Eq.mp (by kernel_rfl) q8
  replace q9 : Ep3 17 = .slice (some ⟨(blkOf (Ep3 17)), 0, none⟩) 1 1 := Eq.mp (by kernel_rfl) q9
  replace q0b : Ep3 18 = .string x18 := Eq.mp (by kernel_rfl) q0b
  replace q0c : Ep3 19 = .string (q2 ++ x18) := Eq.mp (by kernel_rfl) q0c
  replace q0e : Ep3 2 = .string (q2 ++ x18) := Eq.mp (by kernel_rfl) q0e
  replace hS : St w0 w' (ro ρ :: bunA (fun (x : Unit) => RepL (RpI .u8) ρ ([x16] : List Int) [.int .u8 x16]) (fun (x : Unit) => [vec 5 (RpI .u8).sz (.slice (some ⟨(blkOf (Ep3 17)), 0, none⟩) 1 1) 1 [.int .u8 x16]]) :: (l)) := Eq.mp (by kernel_rfl) hS
  have q_ := St.unbun (hS.pull 1); obtain ⟨⟨⟩, q0d, hS⟩ := q_
  have e_ := Option.some.inj (show some _ = some _ from hF); subst e_
  exact x_return ⟨_, ⟨_, _, rfl, q0e, rfl⟩, rfl, hS.drop⟩
theorem c_exact_digits_n : ∀ (n : Nat), ∀ {w0 w : World} {l : List Assn} {ρ : Heap} {n0 : Int} {r : ByteArray} (hF : rcf P_exact_digits_B n n0 = some r) (hS : St w0 w (ro ρ :: l)),
  Calls Try.prog 100 #[.int .u32 n0] w fun e w' => e = .returned (.string r) ∧ St w0 w' (ro ρ :: l)
 | 0 => by intros; rename_i hF _; cases (show none = some _ from by first | exact hF | assumption)
 | n + 1 => c_exact_digits_s (rcf P_exact_digits_B n) (c_exact_digits_n n)
theorem c_exact_digits {w0 w : World} {l : List Assn} {ρ : Heap} {n0 : Int} {r : ByteArray} (hF : P_exact_digits n0 = some r) (hS : St w0 w (ro ρ :: l)) :
  Calls Try.prog 100 #[.int .u32 n0] w fun e w' => e = .returned (.string r) ∧ St w0 w' (ro ρ :: l) := c_exact_digits_n fuel hF hS
attribute [irreducible] P_exact_digits

def P_exact_Text_L5 : (List Int × List Int) → Option ((List Int × List Int) ⊕ List Int) := fun (q2, q3) =>
 if 0 < (q3.length : Int) then
  bd (P_exact_divSmall q3 1000000000) fun q4 =>
  lv (q2 ++ [q4.2]) fun q5 =>
  ck (apOk 4 q5.length) <|
  bd (P_exact_made false q4.1) fun q6 =>
  some (Sum.inl (q5, q6.fmag))
 else
  some (Sum.inr q2)
def P_exact_Text_L12 (q3 : List Int) : (ByteArray × Int) → Option ((ByteArray × Int) ⊕ ByteArray) := fun (q4, q2) =>
 if 0 ≤ q2 then
  ck (inb q2 q3.length) <|
  lv (gt q3 q2) fun x43 =>
  bd (P_exact_digits x43) fun q5 =>
  ar ((q3.length : Int) - 1) fun x48 =>
  bd (
   if q2 < x48 then
    ar ((9 : Int) - (q5.size : Int)) fun x52 =>
    ck (0 ≤ (0 : Int) ∧ (0 : Int) ≤ x52 ∧ x52 ≤ ks_4c930086.size) <|
    lv (subS ks_4c930086 0 x52) fun x53 =>
    ck (q4.size + x53.size ≤ 140737488355328) <|
    lv (q4 ++ x53) fun q7 =>
    some q7
   else
    some q4) fun q6 =>
  ck (q6.size + q5.size ≤ 140737488355328) <|
  lv (q6 ++ q5) fun q8 =>
  ar (q2 - 1) fun x39 =>
  some (Sum.inl (q8, x39))
 else
  some (Sum.inr q4)
def P_exact_Text (a0 : T_exact_Int) : Option ByteArray :=
 bd (P_exact_Sign a0) fun q6 =>
 if q6 = 0 then
  some (⟨#[48]⟩ : ByteArray)
 else
  bd (
   lp P_exact_Text_L5 fuel ([], a0.fmag)) fun q2 =>
  bd (
   if a0.fneg = true then
    ck (0 ≤ (45 : Int) ∧ (45 : Int) < 256) <|
    ck ((⟨#[]⟩ : ByteArray).size + 1 ≤ 140737488355328) <|
    lv ((⟨#[]⟩ : ByteArray) ++ strOf [45]) fun q5 =>
    some q5
   else
    some (⟨#[]⟩ : ByteArray)) fun q4 =>
  ar ((q2.length : Int) - 1) fun x35 =>
  bd (
   lp (P_exact_Text_L12 q2) fuel (q4, x35)) fun q3 =>
  ck (0 < q3.size) <|
  some q3
set_option maxHeartbeats 4000000 in
set_option maxRecDepth 100000 in
theorem c_exact_Text {w0 w : World} {l : List Assn} {ρ : Heap} {q0b : Option Addr} {q0z : Nat} {c_a0_1 : Nat} {a0 : T_exact_Int} {r : ByteArray} (hF : P_exact_Text a0 = some r) (q0t : RdS (RpI .u32) ρ q0b q0z c_a0_1 a0.fmag) (hS : St w0 w (ro ρ :: l)) :
  Calls Try.prog 54 #[.agg #[.bool a0.fneg, .slice q0b q0z c_a0_1]] w fun e w' => e = .returned (.string r) ∧ St w0 w' (ro ρ :: l) := by
 have e_ := q0t.n; subst e_
 refine enterC Try.func54 rfl 58 rfl (by simp) ?_
 refine x_seq <| x_region <| ?_
 refine o_box (cs := [.bool a0.fneg, .slice q0b a0.fmag.length c_a0_1]) rfl rfl hS (fun b1 w' hS => ?_)
 replace hF := bd_s hF; obtain ⟨q23, q1s, hF⟩ := hF
 refine p (yl_assign rfl) <| x_done <| x_seq <| x_seq <|
  x_region <| pa (v := .agg #[.bool a0.fneg, .slice q0b a0.fmag.length c_a0_1]) (ld_sub agg_79 rfl rfl rfl hS) <| ?_
 have hcall := c_exact_Sign q1s q0t (hS.pull 1)
 refine o_cc call_44 (args1 rfl) ((Calls.mono hcall (fun e w'' h => And.intro h.1 (h.2.pull 1)))) ?_
 rintro e w' ⟨rfl, hS⟩
 refine ⟨_, rfl, ?_⟩
 refine p (yl_eql rfl rfl) <| x_done <|
  x_cond_p (q23 = 0) rfl (fun hc12 => ?_) (fun hc12 => ?_)
 ·replace hF := it_t hc12 hF
  refine x_seq <| x_region <| p (yl_assign rfl) <| x_done <| ?_
  have e_ := Option.some.inj (show some _ = some _ from hF); subst e_
  exact x_return ⟨_, ⟨_, _, rfl, rfl, rfl⟩, rfl, hS.drop⟩
 ·replace hF := it_f hc12 hF
  refine x_skip <| x_seq <| x_region <| p (yl_assign rfl) <|
   x_done <| x_seq <| x_seq <| x_region <|
   p (yl_field0 fld_79_1 rfl) <| pa (at_load one_77 rfl (hS.cell rfl)) <| p (yl_assign rfl) <| x_done <| ?_
  replace hF := bd_s hF; obtain ⟨oL5, hLL5, hF⟩ := hF
  refine x_join (fun E w => ∃ (q3 : Option Addr) (q9 : Nat) (c_parts3_L5 : Nat) (q4 : List Value) (q2 : List Int), q2 = oL5 ∧ E 1 = .pointer (some ⟨b1, 0, none⟩) ∧ E 3 = .slice q3 q9 c_parts3_L5 ∧ RepL (RpI .u32) ρ q2 q4 ∧ St w0 w (cells b1 79 [.bool a0.fneg, .slice q0b a0.fmag.length c_a0_1] :: vec 159 (RpI .u32).sz (.slice q3 q9 c_parts3_L5) q9 q4 :: ro ρ :: l)) ?_ ?_
  ·refine x_block ?_
   replace hS := St.vec_nil hS 159 (RpI .u32).sz
   have q0o : RepL (RpI .u32) ρ [] [] := rfl
   refine x_loop (fun k_ E w => ∃ (q0l : Heap) (q6 : Option Addr) (q7 : Nat) (c_parts3_L5h : Nat) (q5 : List Value) (q0h : Option Addr) (q0i : Nat) (c_mag4_L5h : Nat) (q8 : List Int) (q0j : List Int), lp P_exact_Text_L5 k_ (q8, q0j) = some oL5 ∧ Le ρ q0l ∧ E 1 = .pointer (some ⟨b1, 0, none⟩) ∧ E 3 = .slice q6 q7 c_parts3_L5h ∧ E 4 = .slice q0h q0i c_mag4_L5h ∧ RepL (RpI .u32) q0l q8 q5 ∧ RdS (RpI .u32) q0l q0h q0i c_mag4_L5h q0j ∧ St w0 w (cells b1 79 [.bool a0.fneg, .slice q0b a0.fmag.length c_a0_1] :: vec 159 (RpI .u32).sz (.slice q6 q7 c_parts3_L5h) q7 q5 :: ro q0l :: l)) fuel ⟨ρ, none, 0, 0, [], q0b, a0.fmag.length, c_a0_1, [], a0.fmag, hLL5, (Le.refl _), rfl, rfl, rfl, q0o, q0t, (((hS.pull 2).pull 1).pull 2)⟩ ?_
   rintro kL5 E w ⟨q0l, q6, q7, c_parts3_L5h, q5, q0h, q0i, c_mag4_L5h, q8, q0j, hLL5, q0u, q10, q11, q12, q0c, q0p, hS⟩
   have e_ := St.vec_n (hS.pull 1) q0c; subst e_
   have e_ := q0p.n; subst e_
   replace hLL5 := lp_s hLL5; obtain ⟨kL5, obL5, rfl, hFL5, hLL5⟩ := hLL5
   refine x_seq <| x_seq <| x_region <| p (yl_move q12) <|
    p (yl_len_slice usl_77 rfl) <| p (yl_gtr rfl rfl) <| x_done <|
    x_cond_p (0 < (q0j.length : Int)) rfl (fun hc17 => ?_) (fun hc17 => ?_)
   ·replace hFL5 := it_t hc17 hFL5
    replace hFL5 := bd_s hFL5; obtain ⟨q0v, q1t, hFL5⟩ := hFL5
    refine x_skip <| x_block <| x_seq <| x_region <|
     p (yl_move q12) <| ?_
    have hcall := c_exact_divSmall q1t q0p (hS.pull 2)
    refine o_cc call_98 (args2 rfl rfl) hcall ?_
    rintro e w' ⟨q1a, q1b, c_y0_ret_6_1, q19, rfl, q0k, hS⟩
    refine ⟨_, rfl, ?_⟩
    have e_ := St.vec_n hS q0k; subst e_
    refine p (yl_move rfl) <| p (yl_extract rfl rfl) <| p (yl_extract rfl rfl) <| p (yl_assign rfl) <|
     p (yl_assign rfl) <| x_done <| x_region <| p (yl_move q11) <|
     p (yl_move rfl) <| ?_
    refine o_buildSlice (vs := [.int .u32 q0v.2]) (cs := [.int .u32 q0v.2]) sl_77 zero_159 (parts_eq (pt (va := .int .u32 q0v.2) rfl pt0)) rfl (by intro v hv; simp only [List.mem_cons, List.not_mem_nil, or_false] at hv; first | (subst hv; rfl) | (rcases hv with rfl <;> rfl)) (by decide) rfl hS (fun b25 w' hS => ?_)
    replace hFL5 := lv_s hFL5; obtain ⟨q1c, q1u, hFL5⟩ := hFL5
    replace hFL5 := ck_s hFL5; obtain ⟨q1v, hFL5⟩ := hFL5
    refine o_ap sl_77 zero_159 rfl (by decide) rfl rfl (hS.pull 4) q0c (src_blk usl_77 hS rfl rfl) (RepL.cons (R := (RpI .u32)) (ρ := q0l) (x := q0v.2) (cs := [.int .u32 q0v.2]) rfl RepL.nil) q1u q1v (fun A26 c26 cs26 w' hr26 hS => ?_)
    refine p (yl_move rfl) <| ?_
    have q_ := St.vec_fz ((hS.pull 3).pull 3) q0k; obtain ⟨q1w, q0y, q1x, hS⟩ := q_
    replace hFL5 := bd_s hFL5; obtain ⟨q1d, q1y, hFL5⟩ := hFL5
    have hcall := c_exact_made q1y q1x hS
    refine o_cc call_93 (args2 rfl rfl) hcall ?_
    rintro e w' ⟨q0r, q17, c_y0_ret_1_7_5, rfl, q0e, hS⟩
    refine ⟨_, rfl, ?_⟩
    have e_ := q0e.n; subst e_
    refine p (yl_fld1 fld_79_1 one_77 rfl rfl) <| p (yl_assign rfl) <| p (yl_assign rfl) <| x_done <|
     x_blk <| ?_
    have e_ := Option.some.inj (show some _ = some _ from hFL5); subst e_
    exact x_inv ⟨kL5, Nat.lt_succ_self _, q1w, A26, q1c.length, c26, cs26, q0r, q1d.fmag.length, c_y0_ret_1_7_5, q1c, q1d.fmag, hLL5, (q0u.trans q0y), q10, rfl, rfl, (hr26.le q0y), q0e, (((hS.pull 2).drop.pull 1).pull 2)⟩
   ·replace hFL5 := it_f hc17 hFL5
    refine x_exitTo _ rfl <| ?_
    have e_ := Option.some.inj (show some _ = some _ from hFL5); subst e_
    exact x_inv ⟨q6, q8.length, c_parts3_L5h, q5, q8, hLL5, q10, q11, (RepL.flat (fun h => h) q0c), (ro_back2 q0u (((hS.pull 2).pull 2).pull 2))⟩
  rintro E w ⟨q3, q9, c_parts3_L5, q4, q2, rfl, q1z, q16, q0d, hS⟩
  have e_ := St.vec_n (hS.pull 1) q0d; subst e_
  refine x_seq <| x_region <| ?_
  refine o_alloc zero_167 hS (fun b7 w' hS => ?_)
  replace hS := bld_new (e := 5) hS
  refine x_done <| x_seq <| x_seq <| x_region <|
   p (yl_field0 fld_79_0 q1z) <| pa (at_load one_4 rfl ((hS.pull 1).cell rfl)) <| x_done <| ?_
  replace hF := bd_s hF; obtain ⟨oc31, hFc31, hF⟩ := hF
  refine x_join (fun E w => ∃ (q0q : ByteArray), q0q = oc31 ∧ E 3 = .slice q3 q2.length c_parts3_L5 ∧ E 7 = .pointer (some ⟨b7, 0, none⟩) ∧ St w0 w (vec 159 (RpI .u32).sz (.slice q3 q2.length c_parts3_L5) q2.length q4 :: bld 167 5 b7 q0q :: ro ρ :: l)) ?_ ?_
  ·refine x_cond (t := a0.fneg) rfl (fun hc31 => ?_) (fun hc31 => ?_)
   ·replace hFc31 := it_t hc31 hFc31
    refine x_region <| ?_
    replace hFc31 := ck_s hFc31; obtain ⟨q1e, hFc31⟩ := hFc31
    replace hFc31 := ck_s hFc31; obtain ⟨q18, hFc31⟩ := hFc31
    replace hFc31 := lv_s hFc31; obtain ⟨q20, q1f, hFc31⟩ := hFc31
    refine o_cc call_99 (args2 rfl rfl) (bwb q1e hS q18) ?_
    rintro e w' ⟨rfl, hS⟩
    refine ⟨_, rfl, ?_⟩
    rw [← q1f] at hS
    refine x_done <| ?_
    exact x_inv ⟨q20, (Option.some.inj (show some _ = some _ from hFc31)), q16, rfl, ((((hS.pull 1).drop.pull 2).pull 1).pull 2)⟩
   ·replace hFc31 := it_bf hc31 hFc31
    refine x_skip <| ?_
    exact x_inv ⟨(⟨#[]⟩ : ByteArray), (Option.some.inj (show some _ = some _ from hFc31)), q16, rfl, ((((hS.pull 1).drop.pull 2).pull 1).pull 2)⟩
  rintro E w ⟨q0q, rfl, q13, q1g, hS⟩
  replace hF := ar_s hF; obtain ⟨x35, hx35, hF⟩ := hF
  refine x_seq <| x_seq <| x_region <| p (yl_move q13) <|
   p (yl_len_slice usl_77 rfl) <| p (ysub rfl rfl hx35) <| p (yl_assign rfl) <| x_done <| ?_
  replace hF := bd_s hF; obtain ⟨oL12, hLL12, hF⟩ := hF
  refine x_join (fun E w => ∃ (q0w : ByteArray), q0w = oL12 ∧ E 7 = .pointer (some ⟨b7, 0, none⟩) ∧ St w0 w (bld 167 5 b7 q0w :: ro ρ :: l)) ?_ ?_
  ·refine x_block ?_
   refine x_loop (fun k_ E w => ∃ (q0f : ByteArray) (q0a : Int), lp (P_exact_Text_L12 q2) k_ (q0f, q0a) = some oL12 ∧ E 3 = .slice q3 q2.length c_parts3_L5 ∧ E 7 = .pointer (some ⟨b7, 0, none⟩) ∧ E 8 = .int .i64 q0a ∧ St w0 w (vec 159 (RpI .u32).sz (.slice q3 q2.length c_parts3_L5) q2.length q4 :: bld 167 5 b7 q0f :: ro ρ :: l)) fuel ⟨q0q, x35, hLL12, q13, q1g, rfl, (((hS.pull 2).pull 2).pull 2)⟩ ?_
   rintro kL12 E w ⟨q0f, q0a, hLL12, q0m, q0n, q0g, hS⟩
   replace hLL12 := lp_s hLL12; obtain ⟨kL12, obL12, rfl, hFL12, hLL12⟩ := hLL12
   refine x_seq <| x_seq <| x_region <| p (yl_move q0g) <|
    p (yl_geq rfl rfl) <| x_done <|
    x_cond_p (0 ≤ q0a) rfl (fun hc37 => ?_) (fun hc37 => ?_)
   ·replace hFL12 := it_t hc37 hFL12
    replace hFL12 := ck_s hFL12; obtain ⟨q14, hFL12⟩ := hFL12
    replace hFL12 := lv_s hFL12; obtain ⟨x43, hx43, hFL12⟩ := hFL12
    replace hFL12 := bd_s hFL12; obtain ⟨q0s, q1h, hFL12⟩ := hFL12
    refine x_skip <| x_seq <| x_block <| x_seq <|
     x_region <| p (yl_move q0m) <| p (yl_move q0g) <| p (yix_o sl_77 rfl rfl hS q0d q14) <|
     pa (at_load one_159 rfl (RepL.getW q0d hS q14 hx43)) <| ?_
    have hcall := c_exact_digits q1h  (hS.pull 2)
    refine o_cc call_100 (args1 rfl) ((Calls.mono hcall (fun e w'' h => And.intro h.1 ((h.2.pull 2).pull 2)))) ?_
    rintro e w' ⟨rfl, hS⟩
    refine ⟨_, rfl, ?_⟩
    replace hFL12 := ar_s hFL12; obtain ⟨x48, hx48, hFL12⟩ := hFL12
    refine p (v := .string q0s) (yl_assign rfl) <| x_done <| x_seq <| x_seq <|
     x_region <| p (yl_move q0g) <| p (yl_move q0m) <| p (yl_len_slice usl_77 rfl) <|
     p (ysub rfl rfl hx48) <| p (yl_lss rfl rfl) <| x_done <| ?_
    replace hFL12 := bd_s hFL12; obtain ⟨oc49, hFc49, hFL12⟩ := hFL12
    refine x_join (fun E w => ∃ (q0x : ByteArray), q0x = oc49 ∧ E 3 = .slice q3 q2.length c_parts3_L5 ∧ E 7 = .pointer (some ⟨b7, 0, none⟩) ∧ E 8 = .int .i64 q0a ∧ E 9 = .string q0s ∧ St w0 w (vec 159 (RpI .u32).sz (.slice q3 q2.length c_parts3_L5) q2.length q4 :: bld 167 5 b7 q0x :: ro ρ :: l)) ?_ ?_
    ·refine x_cond_p (q0a < x48) rfl (fun hc49 => ?_) (fun hc49 => ?_)
     ·replace hFc49 := it_t hc49 hFc49
      replace hFc49 := ar_s hFc49; obtain ⟨x52, hx52, hFc49⟩ := hFc49
      replace hFc49 := ck_s hFc49; obtain ⟨q1i, hFc49⟩ := hFc49
      replace hFc49 := lv_s hFc49; obtain ⟨x53, hx53, hFc49⟩ := hFc49
      refine x_region <| p (v := .string q0s) (yl_move rfl) <| p (yl_len_string us_9 rfl) <| p (ysub rfl rfl hx52) <|
       p (ysub_sh us_9 rfl rfl q1i hx53) <| ?_
      replace hFc49 := ck_s hFc49; obtain ⟨q1j, hFc49⟩ := hFc49
      replace hFc49 := lv_s hFc49; obtain ⟨q21, q1k, hFc49⟩ := hFc49
      refine o_cc call_101 (args2 q0n rfl) (bws (hS.pull 1) q1j) ?_
      rintro e w' ⟨rfl, hS⟩
      refine ⟨_, rfl, ?_⟩
      rw [← q1k] at hS
      refine x_done <| ?_
      exact x_inv ⟨q21, (Option.some.inj (show some _ = some _ from hFc49)), q0m, q0n, q0g, rfl, (((hS.pull 2).pull 1).pull 2)⟩
     ·replace hFc49 := it_f hc49 hFc49
      refine x_skip <| ?_
      exact x_inv ⟨q0f, (Option.some.inj (show some _ = some _ from hFc49)), q0m, q0n, q0g, rfl, (((hS.pull 2).pull 2).pull 2)⟩
    rintro E w ⟨q0x, rfl, q1l, q15, q1m, q1n, hS⟩
    refine x_region <| p (v := .string q0s) (yl_move q1n) <| ?_
    replace hFL12 := ck_s hFL12; obtain ⟨q1o, hFL12⟩ := hFL12
    replace hFL12 := lv_s hFL12; obtain ⟨q22, q1p, hFL12⟩ := hFL12
    refine o_cc call_101 (args2 q15 rfl) (bws (hS.pull 1) q1o) ?_
    rintro e w' ⟨rfl, hS⟩
    refine ⟨_, rfl, ?_⟩
    rw [← q1p] at hS
    replace hFL12 := ar_s hFL12; obtain ⟨x39, hx39, hFL12⟩ := hFL12
    refine x_done <| x_blk <| x_region <| p (yl_move q1m) <|
     p (ysub rfl rfl hx39) <| p (yl_assign rfl) <| x_done <| ?_
    have e_ := Option.some.inj (show some _ = some _ from hFL12); subst e_
    exact x_inv ⟨kL12, Nat.lt_succ_self _, q22, x39, hLL12, q1l, q15, rfl, (((hS.pull 2).pull 1).pull 2)⟩
   ·replace hFL12 := it_f hc37 hFL12
    refine x_exitTo _ rfl <| ?_
    have e_ := Option.some.inj (show some _ = some _ from hFL12); subst e_
    exact x_inv ⟨q0f, hLL12, q0n, ((hS.drop.pull 1).pull 1)⟩
  rintro E w ⟨q0w, rfl, q1q, hS⟩
  refine x_seq <| x_region <| ?_
  replace hF := ck_s hF; obtain ⟨q1r, hF⟩ := hF
  refine o_cc call_102 (args1 q1q) (bst hS q1r) ?_
  rintro e w' ⟨rfl, hS⟩
  refine ⟨_, rfl, ?_⟩
  refine p (yl_assign rfl) <| x_done <| ?_
  have e_ := Option.some.inj (show some _ = some _ from hF); subst e_
  exact x_return ⟨_, ⟨_, _, rfl, rfl, rfl⟩, rfl, hS⟩
attribute [irreducible] P_exact_Text

def P_maskkeep4_exacts : Option Bool :=
 bd (P_exact_Solve ([([2] : List Int)] : List (List Int)) ([6] : List Int)) fun q2 =>
 lv ((decide (q2.2 = 0)) && (decide ((q2.1.length : Int) = 1))) fun x16 =>
 ck (x16 = true → inb 0 q2.1.length) <|
 lv (gt q2.1 (0 : Int)) fun q4 =>
 bd (gd (x16) (P_exact_Text q4.Num)) fun q5 =>
 lv (x16 && (decide (q5 = (⟨#[51]⟩ : ByteArray)))) fun x24 =>
 bd (
  if x24 = true then
   bd (P_exact_Of (-12)) fun q6 =>
   bd (P_exact_Text q6) fun q7 =>
   some (decide (q7 = (⟨#[45, 49, 50]⟩ : ByteArray)))
  else
   some false) fun q3 =>
 some q3
set_option maxHeartbeats 4000000 in
set_option maxRecDepth 100000 in
theorem c_maskkeep4_exacts {w0 w : World} {l : List Assn} {ρ : Heap} {r : Bool} (hF : P_maskkeep4_exacts = some r) (hS : St w0 w (ro ρ :: l)) :
  Calls Try.prog 40 #[] w fun e w' => e = .returned (.bool r) ∧ St w0 w' (ro ρ :: l) := by
 refine enterC Try.func40 rfl 30 rfl (by simp) ?_
 refine x_seq <| x_region <| p (yl_assign rfl) <| x_done <|
  x_seq <| x_region <| ?_
 refine o_buildSlice (vs := [.int .i64 2]) (cs := [.int .i64 2]) sl_87 zero_2 (parts_eq (pt (va := .int .i64 2) rfl pt0)) rfl (by intro v hv; simp only [List.mem_cons, List.not_mem_nil, or_false] at hv; first | (subst hv; rfl) | (rcases hv with rfl <;> rfl)) (by decide) rfl hS (fun b4 w' hS => ?_)
 have q14 : RepL (RpI .i64) ρ ([2] : List Int) [.int .i64 2] := (RepL.cons (cs := [.int .i64 2]) rfl RepL.nil)
 replace hS := St.vec_of (n := 1) (sz := (RpI .i64).sz) hS rfl (by decide)
 have q_ := St.vec_fz ((hS.pull 1).pull 1) q14; obtain ⟨q0p, q0f, q0q, hS⟩ := q_
 refine o_buildSlice (vs := [.slice (some ⟨b4, 0, none⟩) 1 1]) (cs := [.slice (some ⟨b4, 0, none⟩) 1 1]) sl_75 zero_87 (parts_eq (pt (va := .slice (some ⟨b4, 0, none⟩) 1 1) rfl pt0)) rfl (by intro v hv; simp only [List.mem_cons, List.not_mem_nil, or_false] at hv; first | (subst hv; rfl) | (rcases hv with rfl <;> rfl)) (by decide) rfl hS (fun b5 w' hS => ?_)
 refine o_buildSlice (vs := [.int .i64 6]) (cs := [.int .i64 6]) sl_87 zero_2 (parts_eq (pt (va := .int .i64 6) rfl pt0)) rfl (by intro v hv; simp only [List.mem_cons, List.not_mem_nil, or_false] at hv; first | (subst hv; rfl) | (rcases hv with rfl <;> rfl)) (by decide) rfl hS (fun b6 w' hS => ?_)
 have q15 : RepL (RpSl (RpI .i64)) q0p ([([2] : List Int)] : List (List Int)) [.slice (some ⟨b4, 0, none⟩) 1 1] := (RepL.cons (cs := [.slice (some ⟨b4, 0, none⟩) 1 1]) ⟨_, _, _, rfl, q0q⟩ RepL.nil)
 replace hS := St.vec_of (n := 1) (sz := (RpSl (RpI .i64)).sz) (hS.pull 1) rfl (by decide)
 have q_ := St.vec_fz ((hS.pull 2).pull 1) q15; obtain ⟨q0r, q0g, q0s, hS⟩ := q_
 have q0t : RepL (RpI .i64) q0r ([6] : List Int) [.int .i64 6] := (RepL.cons (cs := [.int .i64 6]) rfl RepL.nil)
 replace hS := St.vec_of (n := 1) (sz := (RpI .i64).sz) (hS.pull 1) rfl (by decide)
 have q_ := St.vec_fz ((hS.pull 1).pull 1) q0t; obtain ⟨q1d, q0a, q0u, hS⟩ := q_
 replace hF := bd_s hF; obtain ⟨q7, q16, hF⟩ := hF
 have hcall := c_exact_Solve q16 (q0s.le q0a) q0u hS
 refine o_cc call_45 (args2 rfl rfl) hcall ?_
 rintro e w' ⟨q0v, q4, q0w, c_y0_ret_1_3, q0o, rfl, q0x, q5, hS⟩
 refine ⟨_, rfl, ?_⟩
 have e_ := St.vec_n hS q5; subst e_
 replace hF := lv_s hF; obtain ⟨x16, hx16, hF⟩ := hF
 replace hF := ck_s hF; obtain ⟨q0i, hF⟩ := hF
 replace hF := lv_s hF; obtain ⟨q9, q0y, hF⟩ := hF
 have q_ := RepL.getD R_exact_Ratio_d q5 (0 : Int); obtain ⟨q1e, q0e, q0z⟩ := q_
 rw [← q0y] at q0e
 obtain ⟨q0b, q18, q0c, q19, q1a, q1b, rfl, q0d, q0m⟩ := q0e
 have e_ := q0d.n; subst e_
 have e_ := q0m.n; subst e_
 replace hF := bd_s hF; obtain ⟨q0j, q10, hF⟩ := hF
 refine p (yl_move rfl) <| p (yl_extract rfl rfl) <| p (yl_extract rfl rfl) <| p (yl_assign rfl) <|
  p (yl_assign rfl) <| x_done <| x_seq <| x_region <|
  p (yl_move rfl) <| p (yl_eql rfl rfl) <| p (yl_move rfl) <| pg (v := .slice q4 q7.1.length c_y0_ret_1_3) 12 (c := decide (q7.2 = 0)) (says_t _) (fun hq => Yl.at (yl_move rfl)) <|
  pg (v := .int .i64 (q7.1.length : Int)) 12 (c := decide (q7.2 = 0)) (says_t _) (fun hq => Yl.at (yl_len_slice usl_90 (cv hq))) <| pg (v := .bool (decide ((q7.1.length : Int) = 1))) 12 (c := decide (q7.2 = 0)) (says_t _) (fun hq => Yl.at (yl_eql (cv hq) rfl)) <| p (yand' rfl (fun hc => (cv hc)) rfl hx16) <| p (yl_move rfl) <|
  pg (v := .slice q4 q7.1.length c_y0_ret_1_3) 17 (c := x16) (says_t _) (fun hq => Yl.at (yl_move rfl)) <| pg (v := .pointer (some ((adr q4).add ((0 : Int).toNat * R_exact_Ratio.sz)))) 17 (c := x16) (says_t _) (fun hq => Yl.at (yix_o sl_90 (cv hq) rfl hS q5 (q0i hq))) <| pg (v := .pointer (some (((adr q4).add ((0 : Int).toNat * R_exact_Ratio.sz)).add 0))) 17 (c := x16) (says_t _) (fun hq => Yl.at (yl_fieldAddr fld_94_0 (cv hq))) <| pg (v := .agg #[.bool q9.Num.fneg, .slice q0b q9.Num.fmag.length q0c]) 17 (c := x16) (says_t _) (fun hq => at_loadAgg (cs := [.bool q9.Num.fneg, .slice q0b q9.Num.fmag.length q0c]) agg_79 (cv hq) rfl (sub_every (m := 2) (EltV.every (q0z (q0i hq)) hS) rfl)) <|
  pccg (v := .string q0j) 17 (c := x16) (says_t _) call_54 (fun hq => (args1 (cv hq))) hS (fun hq => by
   have hcall := c_exact_Text (gd_t q10 hq) q0d (hS.pull 1)
   exact (Calls.mono hcall (fun e w'' h => And.intro h.1 (h.2.pull 1)))) (fun w' hS => ?_)
 replace hF := lv_s hF; obtain ⟨x24, hx24, hF⟩ := hF
 refine pg (v := .bool (decide (q0j = (⟨#[51]⟩ : ByteArray)))) 17 (c := x16) (says_t _) (fun hq => Yl.at (yl_eql_string (cv hq) rfl)) <| p (yand' rfl (fun hc => (cv hc)) rfl hx24) <| p (yl_move rfl) <| ?_
 replace hF := bd_s hF; obtain ⟨q11, q2, hF⟩ := hF
 refine x_join_ops (fun E w => ∃ (q8 : Bool), q8 = q11 ∧ E 0 = .bool q8 ∧ St w0 w (ro q0v :: l)) ?_ ?_
 ·refine x_split x24 (fun q3 => ?_) (fun q3 => ?_)
  ·replace q2 := it_t q3 q2
   replace q2 := bd_s q2; obtain ⟨q1g, q12, q2⟩ := q2
   refine o_strip 25 true (says_lit (c := true) (Eq.trans (show _ = Value.bool x24 from rfl) (congrArg Value.bool q3)) rfl) <| ?_
   have hcall := c_exact_Of q12  (hS.pull 1)
   refine o_cc call_51 (args1 rfl) hcall ?_
   rintro e w' ⟨q1c, q0k, q0l, c_y0_ret_1_2_16, rfl, q0n, q6, hS⟩
   refine ⟨_, rfl, ?_⟩
   have e_ := q6.n; subst e_
   replace q2 := bd_s q2; obtain ⟨q17, q13, q2⟩ := q2
   refine o_strip 25 true (says_lit (c := true) (Eq.trans (show _ = Value.bool x24 from rfl) (congrArg Value.bool q3)) rfl) <| ?_
   have hcall := c_exact_Text q13 q6 hS
   refine o_cc call_54 (args1 rfl) (hcall) ?_
   rintro e w' ⟨rfl, hS⟩
   refine ⟨_, rfl, ?_⟩
   refine o_strip 25 true (says_lit (c := true) (Eq.trans (show _ = Value.bool x24 from rfl) (congrArg Value.bool q3)) rfl) <| p (yl_eql_string rfl rfl) <| p (yl_pick (b := true) (Eq.trans (show _ = Value.bool x24 from rfl) (congrArg Value.bool q3)) (fun h => rfl) (fun h => nomatch h)) <| p (yl_assign rfl) <|
    x_done <| ?_
   exact x_inv ⟨decide (q17 = (⟨#[45, 49, 50]⟩ : ByteArray)), (Option.some.inj (show some _ = some _ from q2)), rfl, (ro_back0 q0n ((hS.pull 1).drop))⟩
  ·replace q2 := it_bf q3 q2
   refine o_pass 26 25 true (says_lit (c := false) (Eq.trans (show _ = Value.bool x24 from rfl) (congrArg Value.bool q3)) rfl) <| o_pass 27 25 true (says_lit (c := false) (Eq.trans (show _ = Value.bool x24 from rfl) (congrArg Value.bool q3)) rfl) <| o_pass 28 25 true (says_lit (c := false) (Eq.trans (show _ = Value.bool x24 from rfl) (congrArg Value.bool q3)) rfl) <| p (yl_pick (b := false) (Eq.trans (show _ = Value.bool x24 from rfl) (congrArg Value.bool q3)) (fun h => nomatch h) (fun h => rfl)) <|
    p (yl_assign rfl) <| x_done <| ?_
   exact x_inv ⟨false, (Option.some.inj (show some _ = some _ from q2)), rfl, hS.drop⟩
 rintro E w ⟨q8, rfl, q0h, hS⟩
 have e_ := Option.some.inj (show some _ = some _ from hF); subst e_
 exact x_return ⟨_, ⟨_, _, rfl, q0h, rfl⟩, rfl, (ro_back0 (((q0f.trans q0g).trans q0a).trans q0x) hS)⟩
attribute [irreducible] P_maskkeep4_exacts

def P_exact_Cmp (a0 : T_exact_Int) (b1 : T_exact_Int) : Option Int :=
 bd (P_exact_Sign a0) fun q2 =>
 bd (P_exact_Sign b1) fun q3 =>
 if q2 ≠ q3 then
  bd (P_exact_Sign a0) fun q4 =>
  bd (P_exact_Sign b1) fun q5 =>
  ar (q4 - q5) fun x15 =>
  bd (P_exact_sign x15) fun q6 =>
  some q6
 else
  if a0.fneg = true then
   bd (P_exact_cmpMag b1.fmag a0.fmag) fun q7 =>
   some q7
  else
   bd (P_exact_cmpMag a0.fmag b1.fmag) fun q8 =>
   some q8
set_option maxHeartbeats 4000000 in
set_option maxRecDepth 100000 in
theorem c_exact_Cmp {w0 w : World} {l : List Assn} {ρ : Heap} {q2 : Option Addr} {q6 : Nat} {c_a0_1 : Nat} {q3 : Option Addr} {q7 : Nat} {c_b1_1 : Nat} {a0 : T_exact_Int} {b1 : T_exact_Int} {r : Int} (hF : P_exact_Cmp a0 b1 = some r) (q4 : RdS (RpI .u32) ρ q2 q6 c_a0_1 a0.fmag) (q5 : RdS (RpI .u32) ρ q3 q7 c_b1_1 b1.fmag) (hS : St w0 w (ro ρ :: l)) :
  Calls Try.prog 41 #[.agg #[.bool a0.fneg, .slice q2 q6 c_a0_1], .agg #[.bool b1.fneg, .slice q3 q7 c_b1_1]] w fun e w' => e = .returned (.int .i64 r) ∧ St w0 w' (ro ρ :: l) := by
 have e_ := q4.n; subst e_
 have e_ := q5.n; subst e_
 refine enterC Try.func41 rfl 30 rfl (by simp) ?_
 refine x_seq <| x_region <| ?_
 refine o_box (cs := [.bool a0.fneg, .slice q2 a0.fmag.length c_a0_1]) rfl rfl hS (fun b2 w' hS => ?_)
 refine o_box (cs := [.bool b1.fneg, .slice q3 b1.fmag.length c_b1_1]) rfl rfl hS (fun b3 w' hS => ?_)
 replace hF := bd_s hF; obtain ⟨q8, q0b, hF⟩ := hF
 replace hF := bd_s hF; obtain ⟨q9, q0c, hF⟩ := hF
 refine p (yl_assign rfl) <| x_done <| x_seq <| x_block <|
  x_seq <| x_still mixed (by kernel_rfl) hS <| qa (v := .agg #[.bool a0.fneg, .slice q2 a0.fmag.length c_a0_1]) (fun w' hS => ld_sub agg_79 rfl rfl rfl (hS.pull 1)) <| qcc (v := .int .i64 q8) call_44 (args1 rfl) (fun w' hS => by
   have hcall := c_exact_Sign q0b q4 (hS.pull 2)
   exact (Calls.mono hcall (fun e w'' h => And.intro h.1 ((h.2.pull 2).pull 2)))) <|
  qa (v := .agg #[.bool b1.fneg, .slice q3 b1.fmag.length c_b1_1]) (fun w' hS => ld_sub agg_79 rfl rfl rfl hS) <| qcc (v := .int .i64 q9) call_44 (args1 rfl) (fun w' hS => by
   have hcall := c_exact_Sign q0c q5 (hS.pull 2)
   exact (Calls.mono hcall (fun e w'' h => And.intro h.1 ((h.2.pull 2).pull 2)))) <| q (yl_neq rfl rfl) <| q (yl_assign rfl) <|
  q_done fun w' hS => ?_
 refine x_cond_p (q8 ≠ q9) rfl (fun hc5 => ?_) (fun hc5 => ?_)
 ·replace hF := it_t hc5 hF
  replace hF := bd_s hF; obtain ⟨q0i, q0d, hF⟩ := hF
  replace hF := bd_s hF; obtain ⟨q0j, q0e, hF⟩ := hF
  replace hF := ar_s hF; obtain ⟨x15, hx15, hF⟩ := hF
  replace hF := bd_s hF; obtain ⟨q0a, q0f, hF⟩ := hF
  refine x_seq <| x_still mixed (by kernel_rfl) hS <| qa (v := .agg #[.bool a0.fneg, .slice q2 a0.fmag.length c_a0_1]) (fun w' hS => ld_sub agg_79 rfl rfl rfl (hS.pull 1)) <| qcc (v := .int .i64 q0i) call_44 (args1 rfl) (fun w' hS => by
    have hcall := c_exact_Sign q0d q4 (hS.pull 2)
    exact (Calls.mono hcall (fun e w'' h => And.intro h.1 ((h.2.pull 2).pull 2)))) <|
   qa (v := .agg #[.bool b1.fneg, .slice q3 b1.fmag.length c_b1_1]) (fun w' hS => ld_sub agg_79 rfl rfl rfl hS) <| qcc (v := .int .i64 q0j) call_44 (args1 rfl) (fun w' hS => by
    have hcall := c_exact_Sign q0e q5 (hS.pull 2)
    exact (Calls.mono hcall (fun e w'' h => And.intro h.1 ((h.2.pull 2).pull 2)))) <| q (ysub rfl rfl hx15) <| qcc (v := .int .i64 q0a) call_90 (args1 rfl) (fun w' hS => by
    have hcall := c_exact_sign q0f  (hS.pull 2)
    exact (Calls.mono hcall (fun e w'' h => And.intro h.1 ((h.2.pull 2).pull 2)))) <|
   q (v := .int .i64 q0a) (yl_assign rfl) <|
   q_done fun w' hS => ?_
  have e_ := Option.some.inj (show some _ = some _ from hF); subst e_
  exact x_return ⟨_, ⟨_, _, rfl, rfl, rfl⟩, rfl, hS.drop.drop⟩
 ·replace hF := it_f hc5 hF
  refine x_seq <| x_region <| p (yl_field0 fld_79_0 rfl) <| pa (at_load one_4 rfl ((hS.pull 1).cell rfl)) <|
   p (yl_assign rfl) <| x_done <|
   x_cond (t := a0.fneg) rfl (fun hc17 => ?_) (fun hc17 => ?_)
  ·replace hF := it_t hc17 hF
   replace hF := bd_s hF; obtain ⟨q0k, q0g, hF⟩ := hF
   refine x_seq <| x_region <| p (yl_field0 fld_79_1 rfl) <| pa (at_load one_77 rfl (hS.cell rfl)) <|
    p (yl_field0 fld_79_1 rfl) <| pa (at_load one_77 rfl ((hS.pull 1).cell rfl)) <| ?_
   have hcall := c_exact_cmpMag q0g q5 q4 (hS.pull 2)
   refine o_cc call_91 (args2 rfl rfl) ((Calls.mono hcall (fun e w'' h => And.intro h.1 ((h.2.pull 2).pull 2)))) ?_
   rintro e w' ⟨rfl, hS⟩
   refine ⟨_, rfl, ?_⟩
   refine p (v := .int .i64 q0k) (yl_assign rfl) <| x_done <| ?_
   have e_ := Option.some.inj (show some _ = some _ from hF); subst e_
   exact x_return ⟨_, ⟨_, _, rfl, rfl, rfl⟩, rfl, hS.drop.drop⟩
  ·replace hF := it_bf hc17 hF
   replace hF := bd_s hF; obtain ⟨q0l, q0h, hF⟩ := hF
   refine x_skip <| x_blk <| x_seq <| x_region <|
    p (yl_field0 fld_79_1 rfl) <| pa (at_load one_77 rfl ((hS.pull 1).cell rfl)) <| p (yl_field0 fld_79_1 rfl) <| pa (at_load one_77 rfl (hS.cell rfl)) <| ?_
   have hcall := c_exact_cmpMag q0h q4 q5 (hS.pull 2)
   refine o_cc call_91 (args2 rfl rfl) ((Calls.mono hcall (fun e w'' h => And.intro h.1 ((h.2.pull 2).pull 2)))) ?_
   rintro e w' ⟨rfl, hS⟩
   refine ⟨_, rfl, ?_⟩
   refine p (v := .int .i64 q0l) (yl_assign rfl) <| x_done <| ?_
   have e_ := Option.some.inj (show some _ = some _ from hF); subst e_
   exact x_return ⟨_, ⟨_, _, rfl, rfl, rfl⟩, rfl, hS.drop.drop⟩
attribute [irreducible] P_exact_Cmp

def P_exact_CheckMatrix_2_L11 (q3 : List Int) : Int → Option (Int ⊕ (Unit ⊕ Int)) := fun q2 =>
 if q2 < (q3.length : Int) then
  ck (inb q2 q3.length) <|
  lv (gt q3 q2) fun x31 =>
  lv ((decide (x31 < (-1099511627776))) || (decide (1099511627776 < x31))) fun x37 =>
  if x37 = true then
   some (Sum.inr (Sum.inr (2 : Int)))
  else
   ar (q2 + 1) fun x38 =>
   some (Sum.inl x38)
 else
  some (Sum.inr (Sum.inl ()))
def P_exact_CheckMatrix_2_L4 (a0 : List (List Int)) : Int → Option (Int ⊕ (Unit ⊕ Int)) := fun q2 =>
 if q2 < (a0.length : Int) then
  ck (inb q2 a0.length) <|
  lv (gt a0 q2) fun q3 =>
  if 48 < (q3.length : Int) then
   some (Sum.inr (Sum.inr (3 : Int)))
  else
   ck (inb 0 a0.length) <|
   lv (gt a0 (0 : Int)) fun q4 =>
   if (q3.length : Int) ≠ (q4.length : Int) then
    some (Sum.inr (Sum.inr (4 : Int)))
   else
    bs (
     lp (P_exact_CheckMatrix_2_L11 q3) fuel 0) (fun y => some (Sum.inr (Sum.inr y))) fun _ =>
    ar (q2 + 1) fun x39 =>
    some (Sum.inl x39)
 else
  some (Sum.inr (Sum.inl ()))
def P_exact_CheckMatrix_2 (a0 : List (List Int)) : Option Int :=
 if 48 < (a0.length : Int) then
  some (3 : Int)
 else
  bs (
   lp (P_exact_CheckMatrix_2_L4 a0) fuel 0) (fun y => some y) fun _ =>
  some (0 : Int)
set_option maxHeartbeats 4000000 in
set_option maxRecDepth 100000 in
theorem c_exact_CheckMatrix_2 {w0 w : World} {l : List Assn} {ρ : Heap} {q2 : Option Addr} {q9 : Nat} {c_a0 : Nat} {q4 : List Value} {a0 : List (List Int)} {r : Int} (hF : P_exact_CheckMatrix_2 a0 = some r) (q0a : RepL (RpSl (RpI .i64)) ρ a0 q4) (hS : St w0 w (vec 87 (RpSl (RpI .i64)).sz (.slice q2 q9 c_a0) q9 q4 :: ro ρ :: l)) :
  Calls Try.prog 92 #[.slice q2 q9 c_a0] w fun e w' => e = .returned (.int .i64 r) ∧ St w0 w' (vec 87 (RpSl (RpI .i64)).sz (.slice q2 q9 c_a0) q9 q4 :: ro ρ :: l) := by
 have e_ := St.vec_n hS q0a; subst e_
 refine enterC Try.func92 rfl 40 rfl (by simp) ?_
 refine x_seq <| x_region <| p (yl_assign rfl) <| x_done <|
  x_seq <| x_seq <| x_region <| p (yl_move rfl) <|
  p (yl_len_slice usl_75 rfl) <| p (yl_gtr rfl rfl) <| x_done <|
  x_cond_p (48 < (a0.length : Int)) rfl (fun hc9 => ?_) (fun hc9 => ?_)
 ·replace hF := it_t hc9 hF
  refine x_seq <| x_region <| p (yl_assign rfl) <| x_done <| ?_
  have e_ := Option.some.inj (show some _ = some _ from hF); subst e_
  exact x_return ⟨_, ⟨_, _, rfl, rfl, rfl⟩, rfl, ((hS.pull 1).pull 1)⟩
 ·replace hF := it_f hc9 hF
  refine x_skip <| x_seq <| x_seq <| x_region <|
   p (yl_move rfl) <| p (yl_len_slice usl_75 rfl) <| p (yl_move rfl) <| x_done <| ?_
  replace hF := bs_s hF; obtain ⟨oL4, hLL4, hF⟩ := hF
  refine x_join (fun E w => (Sum.inl (())) = oL4 ∧ St w0 w (vec 87 (RpSl (RpI .i64)).sz (.slice q2 a0.length c_a0) a0.length q4 :: ro ρ :: l)) ?_ ?_
  ·refine x_block ?_
   refine x_loop (fun k_ E w => ∃ (q3 : Int), lp (P_exact_CheckMatrix_2_L4 a0) k_ q3 = some oL4 ∧ E 0 = .slice q2 a0.length c_a0 ∧ E 10 = .slice q2 a0.length c_a0 ∧ E 11 = .int .i64 (a0.length : Int) ∧ E 12 = .int .i64 q3 ∧ St w0 w (vec 87 (RpSl (RpI .i64)).sz (.slice q2 a0.length c_a0) a0.length q4 :: ro ρ :: l)) fuel ⟨0, hLL4, rfl, rfl, rfl, rfl, ((hS.pull 1).pull 1)⟩ ?_
   rintro kL4 E w ⟨q3, hLL4, q0j, q0g, q0h, q7, hS⟩
   replace hLL4 := lp_s hLL4; obtain ⟨kL4, obL4, rfl, hFL4, hLL4⟩ := hLL4
   refine x_seq <| x_region <| p (yl_lss q7 q0h) <| x_done <|
    x_seq <|
    x_cond_p (q3 < (a0.length : Int)) rfl (fun hc13 => ?_) (fun hc13 => ?_)
   ·replace hFL4 := it_t hc13 hFL4
    replace hFL4 := ck_s hFL4; obtain ⟨q0m, hFL4⟩ := hFL4
    replace hFL4 := lv_s hFL4; obtain ⟨q8, q0u, hFL4⟩ := hFL4
    have q_ := q0a.get q0m; obtain ⟨q12, q0n, q0v⟩ := q_
    rw [← q0u] at q0n
    obtain ⟨q0y, q14, q0z, rfl, q0l⟩ := q0n
    have e_ := q0l.n; subst e_
    refine x_skip <| x_seq <| x_block <| x_seq <|
     x_region <| p (yix_o sl_75 q0g q7 hS q0a q0m) <| pa (at_load one_87 rfl (EltV.ld (m := 0) q0v hS rfl)) <| p (yl_assign rfl) <|
     x_done <| x_seq <| x_seq <| x_region <|
     p (yl_move rfl) <| p (yl_len_slice usl_87 rfl) <| p (yl_gtr rfl rfl) <| x_done <|
     x_cond_p (48 < (q8.length : Int)) rfl (fun hc18 => ?_) (fun hc18 => ?_)
    ·replace hFL4 := it_t hc18 hFL4
     refine x_seq <| x_region <| p (yl_assign rfl) <| x_done <| ?_
     have e_ := Option.some.inj (show some _ = some _ from hFL4); subst e_
     have e_ := (show _ = oL4 from hLL4); subst e_
     have e_ := Option.some.inj (show some _ = some _ from hF); subst e_
     exact x_return ⟨_, ⟨_, _, rfl, rfl, rfl⟩, rfl, ((hS.pull 1).pull 1)⟩
    ·replace hFL4 := it_f hc18 hFL4
     replace hFL4 := ck_s hFL4; obtain ⟨q0o, hFL4⟩ := hFL4
     replace hFL4 := lv_s hFL4; obtain ⟨q10, q0w, hFL4⟩ := hFL4
     have q_ := q0a.get q0o; obtain ⟨q13, q0p, q0x⟩ := q_
     rw [← q0w] at q0p
     obtain ⟨q15, q16, q17, rfl, q11⟩ := q0p
     have e_ := q11.n; subst e_
     refine x_skip <| x_seq <| x_seq <| x_region <|
      p (yl_move rfl) <| p (yl_len_slice usl_87 rfl) <| p (yl_move q0j) <| p (yix_o sl_75 rfl rfl hS q0a q0o) <|
      pa (at_load one_87 rfl (EltV.ld (m := 0) q0x hS rfl)) <| p (yl_len_slice usl_87 rfl) <| p (yl_neq rfl rfl) <| x_done <|
      x_cond_p ((q8.length : Int) ≠ (q10.length : Int)) rfl (fun hc25 => ?_) (fun hc25 => ?_)
     ·replace hFL4 := it_t hc25 hFL4
      refine x_seq <| x_region <| p (yl_assign rfl) <| x_done <| ?_
      have e_ := Option.some.inj (show some _ = some _ from hFL4); subst e_
      have e_ := (show _ = oL4 from hLL4); subst e_
      have e_ := Option.some.inj (show some _ = some _ from hF); subst e_
      exact x_return ⟨_, ⟨_, _, rfl, rfl, rfl⟩, rfl, ((hS.pull 1).pull 1)⟩
     ·replace hFL4 := it_f hc25 hFL4
      refine x_skip <| x_seq <| x_region <| p (yl_move rfl) <|
       p (yl_len_slice usl_87 rfl) <| p (yl_move rfl) <| x_done <| ?_
      replace hFL4 := bs_s hFL4; obtain ⟨oL11, hLL11, hFL4⟩ := hFL4
      refine x_join (fun E w => (Sum.inl (())) = oL11 ∧ E 0 = .slice q2 a0.length c_a0 ∧ E 10 = .slice q2 a0.length c_a0 ∧ E 11 = .int .i64 (a0.length : Int) ∧ E 12 = .int .i64 q3 ∧ St w0 w (vec 87 (RpSl (RpI .i64)).sz (.slice q2 a0.length c_a0) a0.length q4 :: ro ρ :: l)) ?_ ?_
      ·refine x_block ?_
       refine x_loop (fun k_ E w => ∃ (q5 : Int), lp (P_exact_CheckMatrix_2_L11 q8) k_ q5 = some oL11 ∧ E 0 = .slice q2 a0.length c_a0 ∧ E 10 = .slice q2 a0.length c_a0 ∧ E 11 = .int .i64 (a0.length : Int) ∧ E 12 = .int .i64 q3 ∧ E 26 = .slice q0y q8.length q0z ∧ E 27 = .int .i64 (q8.length : Int) ∧ E 28 = .int .i64 q5 ∧ St w0 w (vec 87 (RpSl (RpI .i64)).sz (.slice q2 a0.length c_a0) a0.length q4 :: ro ρ :: l)) fuel ⟨0, hLL11, q0j, q0g, q0h, q7, rfl, rfl, rfl, ((hS.pull 1).pull 1)⟩ ?_
       rintro kL11 E w ⟨q5, hLL11, q0i, q0b, q0c, q0d, q0e, q0f, q6, hS⟩
       replace hLL11 := lp_s hLL11; obtain ⟨kL11, obL11, rfl, hFL11, hLL11⟩ := hLL11
       refine x_seq <| x_region <| p (yl_lss q6 q0f) <| x_done <|
        x_seq <|
        x_cond_p (q5 < (q8.length : Int)) rfl (fun hc29 => ?_) (fun hc29 => ?_)
       ·replace hFL11 := it_t hc29 hFL11
        replace hFL11 := ck_s hFL11; obtain ⟨q0k, hFL11⟩ := hFL11
        replace hFL11 := lv_s hFL11; obtain ⟨x31, hx31, hFL11⟩ := hFL11
        replace hFL11 := lv_s hFL11; obtain ⟨x37, hx37, hFL11⟩ := hFL11
        refine x_skip <| x_seq <| x_block <| x_seq <|
         x_region <| p (yix_f sl_87 q0e q6 q0l q0k) <| pa (at_load one_2 rfl (RdS.getW q0l (hS.pull 1) q0k hx31)) <| p (yl_assign rfl) <|
         x_done <| x_seq <| x_region <| p (yl_move rfl) <|
         p (yl_lss rfl rfl) <| p (yl_move rfl) <| pg (v := .int .i64 x31) 34 (c := !(decide (x31 < (-1099511627776)))) (says_f _) (fun hq => Yl.at (yl_move rfl)) <| pg (v := .bool (decide (1099511627776 < x31))) 34 (c := !(decide (x31 < (-1099511627776)))) (says_f _) (fun hq => Yl.at (yl_gtr (cv hq) rfl)) <|
         p (yor' rfl rfl (fun hc => (cv (t_not hc))) hx37) <| x_done <|
         x_cond (t := x37) rfl (fun hc37 => ?_) (fun hc37 => ?_)
        ·replace hFL11 := it_t hc37 hFL11
         refine x_seq <| x_region <| p (yl_assign rfl) <| x_done <| ?_
         have e_ := Option.some.inj (show some _ = some _ from hFL11); subst e_
         have e_ := (show _ = oL11 from hLL11); subst e_
         have e_ := Option.some.inj (show some _ = some _ from hFL4); subst e_
         have e_ := (show _ = oL4 from hLL4); subst e_
         have e_ := Option.some.inj (show some _ = some _ from hF); subst e_
         exact x_return ⟨_, ⟨_, _, rfl, rfl, rfl⟩, rfl, ((hS.pull 1).pull 1)⟩
        ·replace hFL11 := it_bf hc37 hFL11
         replace hFL11 := ar_s hFL11; obtain ⟨x38, hx38, hFL11⟩ := hFL11
         refine x_skip <| x_blk <| x_region <| p (yadd q6 rfl hx38) <|
          p (yl_move rfl) <| x_done <| ?_
         have e_ := Option.some.inj (show some _ = some _ from hFL11); subst e_
         exact x_inv ⟨kL11, Nat.lt_succ_self _, x38, hLL11, q0i, q0b, q0c, q0d, q0e, q0f, rfl, ((hS.pull 1).pull 1)⟩
       ·replace hFL11 := it_f hc29 hFL11
        refine x_exitTo _ rfl <| ?_
        have e_ := Option.some.inj (show some _ = some _ from hFL11); subst e_
        exact x_inv ⟨hLL11, q0i, q0b, q0c, q0d, ((hS.pull 1).pull 1)⟩
      rintro E w ⟨rfl, q0t, q0q, q0r, q0s, hS⟩
      replace hFL4 := ar_s hFL4; obtain ⟨x39, hx39, hFL4⟩ := hFL4
      refine x_blk <| x_region <| p (yadd q0s rfl hx39) <| p (yl_move rfl) <|
       x_done <| ?_
      have e_ := Option.some.inj (show some _ = some _ from hFL4); subst e_
      exact x_inv ⟨kL4, Nat.lt_succ_self _, x39, hLL4, q0t, q0q, q0r, rfl, ((hS.pull 1).pull 1)⟩
   ·replace hFL4 := it_f hc13 hFL4
    refine x_exitTo _ rfl <| ?_
    have e_ := Option.some.inj (show some _ = some _ from hFL4); subst e_
    exact x_inv ⟨hLL4, ((hS.pull 1).pull 1)⟩
  rintro E w ⟨rfl, hS⟩
  refine x_seq <| x_region <| p (yl_assign rfl) <| x_done <| ?_
  have e_ := Option.some.inj (show some _ = some _ from hF); subst e_
  exact x_return ⟨_, ⟨_, _, rfl, rfl, rfl⟩, rfl, ((hS.pull 1).pull 1)⟩
attribute [irreducible] P_exact_CheckMatrix_2

def P_exact_square_2 (a0 : List (List Int)) : Option Int :=
 bd (P_exact_CheckMatrix_2 a0) fun q2 =>
 if q2 ≠ 0 then
  some q2
 else
  ck ((decide (0 < (a0.length : Int))) = true → inb 0 a0.length) <|
  lv (gt a0 (0 : Int)) fun q3 =>
  lv ((decide (0 < (a0.length : Int))) && (decide ((q3.length : Int) ≠ (a0.length : Int)))) fun x20 =>
  if x20 = true then
   some (4 : Int)
  else
   some (0 : Int)
set_option maxHeartbeats 4000000 in
set_option maxRecDepth 100000 in
theorem c_exact_square_2 {w0 w : World} {l : List Assn} {ρ : Heap} {q2 : Option Addr} {q3 : Nat} {c_a0 : Nat} {q5 : List Value} {a0 : List (List Int)} {r : Int} (hF : P_exact_square_2 a0 = some r) (q6 : RepL (RpSl (RpI .i64)) ρ a0 q5) (hS : St w0 w (vec 87 (RpSl (RpI .i64)).sz (.slice q2 q3 c_a0) q3 q5 :: ro ρ :: l)) :
  Calls Try.prog 85 #[.slice q2 q3 c_a0] w fun e w' => e = .returned (.int .i64 r) ∧ St w0 w' (vec 87 (RpSl (RpI .i64)).sz (.slice q2 q3 c_a0) q3 q5 :: ro ρ :: l) := by
 have e_ := St.vec_n hS q6; subst e_
 refine enterC Try.func85 rfl 21 rfl (by simp) ?_
 replace hF := bd_s hF; obtain ⟨q4, q0a, hF⟩ := hF
 refine x_seq <| x_region <| p (yl_assign rfl) <| x_done <|
  x_seq <| x_seq <| x_region <| p (yl_move rfl) <| ?_
 have hcall := c_exact_CheckMatrix_2 q0a q6 hS
 refine o_cc call_92 (args1 rfl) (hcall) ?_
 rintro e w' ⟨rfl, hS⟩
 refine ⟨_, rfl, ?_⟩
 refine p (v := .int .i64 q4) (yl_assign rfl) <| x_done <| x_seq <| x_region <|
  p (v := .int .i64 q4) (yl_move rfl) <| p (yl_neq rfl rfl) <| x_done <|
  x_cond_p (q4 ≠ 0) rfl (fun hc7 => ?_) (fun hc7 => ?_)
 ·replace hF := it_t hc7 hF
  refine x_seq <| x_region <| p (v := .int .i64 q4) (yl_move rfl) <| p (v := .int .i64 q4) (yl_assign rfl) <|
   x_done <| ?_
  have e_ := Option.some.inj (show some _ = some _ from hF); subst e_
  exact x_return ⟨_, ⟨_, _, rfl, rfl, rfl⟩, rfl, ((hS.pull 1).pull 1)⟩
 ·replace hF := it_f hc7 hF
  replace hF := ck_s hF; obtain ⟨q8, hF⟩ := hF
  replace hF := lv_s hF; obtain ⟨q7, q0b, hF⟩ := hF
  have q_ := RepL.getD sl_d q6 (0 : Int); obtain ⟨q0g, q9, q0c⟩ := q_
  rw [← q0b] at q9
  obtain ⟨q0d, q0h, q0e, rfl, q0f⟩ := q9
  have e_ := q0f.n; subst e_
  replace hF := lv_s hF; obtain ⟨x20, hx20, hF⟩ := hF
  refine x_skip <| x_seq <| x_seq <| x_region <|
   p (yl_move rfl) <| p (yl_len_slice usl_75 rfl) <| p (yl_gtr rfl rfl) <| p (yl_move rfl) <|
   pg (v := .slice q2 a0.length c_a0) 12 (c := decide (0 < (a0.length : Int))) (says_t _) (fun hq => Yl.at (yl_move rfl)) <| pg (v := .pointer (some ((adr q2).add ((0 : Int).toNat * (RpSl (RpI .i64)).sz)))) 12 (c := decide (0 < (a0.length : Int))) (says_t _) (fun hq => Yl.at (yix_o sl_75 (cv hq) rfl hS q6 (q8 hq))) <| pg (v := .slice q0d q7.length q0e) 12 (c := decide (0 < (a0.length : Int))) (says_t _) (fun hq => at_load one_87 (cv hq) (EltV.ld (m := 0) (q0c (q8 hq)) hS rfl)) <| pg (v := .int .i64 (q7.length : Int)) 12 (c := decide (0 < (a0.length : Int))) (says_t _) (fun hq => Yl.at (yl_len_slice usl_87 (cv hq))) <|
   pg (v := .slice q2 a0.length c_a0) 12 (c := decide (0 < (a0.length : Int))) (says_t _) (fun hq => Yl.at (yl_move rfl)) <| pg (v := .int .i64 (a0.length : Int)) 12 (c := decide (0 < (a0.length : Int))) (says_t _) (fun hq => Yl.at (yl_len_slice usl_75 (cv hq))) <| pg (v := .bool (decide ((q7.length : Int) ≠ (a0.length : Int)))) 12 (c := decide (0 < (a0.length : Int))) (says_t _) (fun hq => Yl.at (yl_neq (cv hq) (cv hq))) <| p (yand' rfl (fun hc => (cv hc)) rfl hx20) <|
   x_done <|
   x_cond (t := x20) rfl (fun hc20 => ?_) (fun hc20 => ?_)
  ·replace hF := it_t hc20 hF
   refine x_seq <| x_region <| p (yl_assign rfl) <| x_done <| ?_
   have e_ := Option.some.inj (show some _ = some _ from hF); subst e_
   exact x_return ⟨_, ⟨_, _, rfl, rfl, rfl⟩, rfl, ((hS.pull 1).pull 1)⟩
  ·replace hF := it_bf hc20 hF
   refine x_skip <| x_seq <| x_region <| p (yl_assign rfl) <|
    x_done <| ?_
   have e_ := Option.some.inj (show some _ = some _ from hF); subst e_
   exact x_return ⟨_, ⟨_, _, rfl, rfl, rfl⟩, rfl, ((hS.pull 1).pull 1)⟩
attribute [irreducible] P_exact_square_2

def P_exact_begin_2_L7 (q4 : List Int) : (List T_exact_Int × Int) → Option ((List T_exact_Int × Int) ⊕ List T_exact_Int) := fun (q3, q2) =>
 if q2 < (q4.length : Int) then
  ck (inb q2 q4.length) <|
  lv (gt q4 q2) fun x28 =>
  bd (P_exact_Of x28) fun q6 =>
  lv (q3 ++ [q6]) fun q5 =>
  ck (apOk 32 q5.length) <|
  ar (q2 + 1) fun x34 =>
  some (Sum.inl (q5, x34))
 else
  some (Sum.inr q3)
def P_exact_begin_2_L12 (more1 : List (List Int)) (q3 : Int) : (List T_exact_Int × Int) → Option ((List T_exact_Int × Int) ⊕ List T_exact_Int) := fun (q4, q2) =>
 if q2 < (more1.length : Int) then
  ck (inb q2 more1.length) <|
  lv (gt more1 q2) fun q5 =>
  ck (inb q3 q5.length) <|
  lv (gt q5 q3) fun x45 =>
  bd (P_exact_Of x45) fun q7 =>
  lv (q4 ++ [q7]) fun q6 =>
  ck (apOk 32 q6.length) <|
  ar (q2 + 1) fun x49 =>
  some (Sum.inl (q6, x49))
 else
  some (Sum.inr q4)
def P_exact_begin_2_L3 (a0 : List (List Int)) (more1 : List (List Int)) : (Int × List (List T_exact_Int)) → Option ((Int × List (List T_exact_Int)) ⊕ List (List T_exact_Int)) := fun (q2, q3) =>
 if q2 < (a0.length : Int) then
  ck (inb q2 a0.length) <|
  lv (gt a0 q2) fun q7 =>
  bd (
   lp (P_exact_begin_2_L7 q7) fuel ([], 0)) fun q6 =>
  bd (
   lp (P_exact_begin_2_L12 more1 q2) fuel (q6, 0)) fun q5 =>
  lv (q3 ++ [q5]) fun q4 =>
  ck (apOk 24 q4.length) <|
  ar (q2 + 1) fun x60 =>
  some (Sum.inl (x60, q4))
 else
  some (Sum.inr q3)
def P_exact_begin_2 (a0 : List (List Int)) (more1 : List (List Int)) : Option (List (List T_exact_Int) × Bool × List Int) :=
 bd (P_exact_Of 1) fun q3 =>
 bd (
  lp (P_exact_begin_2_L3 a0 more1) fuel (0, [])) fun q2 =>
 some (q2, q3.fneg, q3.fmag)
set_option maxHeartbeats 4000000 in
set_option maxRecDepth 100000 in
theorem c_exact_begin_2 {w0 w : World} {l : List Assn} {ρ : Heap} {q0f : Option Addr} {q1v : Nat} {c_a0 : Nat} {q0k : List Value} {q0d : Option Addr} {q27 : Nat} {c_more1 : Nat} {a0 : List (List Int)} {more1 : List (List Int)} {r : (List (List T_exact_Int) × Bool × List Int)} (hF : P_exact_begin_2 a0 more1 = some r) (q31 : RepL (RpSl (RpI .i64)) ρ a0 q0k) (q1r : RdS (RpSl (RpI .i64)) ρ q0d q27 c_more1 more1) (hS : St w0 w (vec 87 (RpSl (RpI .i64)).sz (.slice q0f q1v c_a0) q1v q0k :: ro ρ :: l)) :
  Calls Try.prog 86 #[.slice q0f q1v c_a0, .slice q0d q27 c_more1] w fun e w' => ∃ (ρ' : Heap) (q1w : Nat) (q0r : Option Addr) (q0b : Nat) (c_b_y0_ret_0_ret : Nat) (q0j : List Value) (q0s : Option Addr) (q0t : Nat) (c_b_y0_ret_2_ret : Nat), e = .returned (.pointer (some ⟨q1w, 0, none⟩)) ∧ Le ρ ρ' ∧ RepL (RpSl R_exact_Int) ρ' r.1 q0j ∧ RdS (RpI .u32) ρ' q0s q0t c_b_y0_ret_2_ret r.2.2 ∧ St w0 w' (cells q1w 150 [.slice q0r q0b c_b_y0_ret_0_ret, .bool r.2.1, .slice q0s q0t c_b_y0_ret_2_ret, .bool false, .int .i64 0] :: vec 155 (RpSl R_exact_Int).sz (.slice q0r q0b c_b_y0_ret_0_ret) q0b q0j :: vec 87 (RpSl (RpI .i64)).sz (.slice q0f q1v c_a0) q1v q0k :: ro ρ' :: l) := by
 have e_ := St.vec_n hS q31; subst e_
 have e_ := q1r.n; subst e_
 refine enterC Try.func86 rfl 62 rfl (by simp) ?_
 replace hF := bd_s hF; obtain ⟨q7, q3t, hF⟩ := hF
 refine x_seq <| x_region <| p (yl_assign rfl) <| x_done <|
  x_seq <| x_region <| ?_
 have hcall := c_exact_Of q3t  (hS.pull 1)
 refine o_cc call_51 (args1 rfl) hcall ?_
 rintro e w' ⟨q1n, q3, q39, c_y0_ret_1_1_0, rfl, q0u, q10, hS⟩
 refine ⟨_, rfl, ?_⟩
 have e_ := q10.n; subst e_
 refine p (v := .agg #[.slice none 0 0, .bool q7.fneg, .slice q3 q7.fmag.length c_y0_ret_1_1_0, .bool false, .int .i64 0]) (yl_build bld_150 bldf_150 (parts_eq (pt (va := .agg #[.bool q7.fneg, .slice q3 q7.fmag.length c_y0_ret_1_1_0]) rfl pt0)) (by kernel_rfl)) <| ?_
 refine o_box (cs := [.slice none 0 0, .bool q7.fneg, .slice q3 q7.fmag.length c_y0_ret_1_1_0, .bool false, .int .i64 0]) rfl rfl hS (fun b15 w' hS => ?_)
 refine p (yl_assign rfl) <| x_done <| x_seq <| x_seq <|
  x_region <| p (yl_move rfl) <| p (yl_len_slice usl_75 rfl) <| p (yl_move rfl) <|
  x_done <| ?_
 replace hF := bd_s hF; obtain ⟨oL3, hLL3, hF⟩ := hF
 refine x_join (fun E w => ∃ (q1x : Heap) (q0l : Option Addr) (q0m : Nat) (c_b15_0_L3 : Nat) (q0g : List Value) (q13 : List (List T_exact_Int)), q13 = oL3 ∧ Le q1n q1x ∧ E 5 = .pointer (some ⟨b15, 0, none⟩) ∧ RepL (RpSl R_exact_Int) q1x q13 q0g ∧ St w0 w (cells b15 150 [.slice q0l q0m c_b15_0_L3, .bool q7.fneg, .slice q3 q7.fmag.length c_y0_ret_1_1_0, .bool false, .int .i64 0] :: vec 155 (RpSl R_exact_Int).sz (.slice q0l q0m c_b15_0_L3) q0m q0g :: vec 87 (RpSl (RpI .i64)).sz (.slice q0f a0.length c_a0) a0.length q0k :: ro q1x :: l)) ?_ ?_
 ·refine x_block ?_
  replace hS := St.vec_nil hS 155 (RpSl R_exact_Int).sz
  have q1j : RepL (RpSl R_exact_Int) q1n [] [] := rfl
  refine x_loop (fun k_ E w => ∃ (q0n : Heap) (q4 : Option Addr) (q0h : Nat) (c_b15_0_L3h : Nat) (q5 : List Value) (q6 : Int) (q2 : List (List T_exact_Int)), lp (P_exact_begin_2_L3 a0 more1) k_ (q6, q2) = some oL3 ∧ Le q1n q0n ∧ E 1 = .slice q0d more1.length c_more1 ∧ E 5 = .pointer (some ⟨b15, 0, none⟩) ∧ E 16 = .slice q0f a0.length c_a0 ∧ E 17 = .int .i64 (a0.length : Int) ∧ E 18 = .int .i64 q6 ∧ RepL (RpSl R_exact_Int) q0n q2 q5 ∧ St w0 w (cells b15 150 [.slice q4 q0h c_b15_0_L3h, .bool q7.fneg, .slice q3 q7.fmag.length c_y0_ret_1_1_0, .bool false, .int .i64 0] :: vec 87 (RpSl (RpI .i64)).sz (.slice q0f a0.length c_a0) a0.length q0k :: vec 155 (RpSl R_exact_Int).sz (.slice q4 q0h c_b15_0_L3h) q0h q5 :: ro q0n :: l)) fuel ⟨q1n, none, 0, 0, [], 0, [], hLL3, (Le.refl _), rfl, rfl, rfl, rfl, rfl, q1j, ((((hS.pull 2).pull 1).pull 3).pull 3)⟩ ?_
  rintro kL3 E w ⟨q0n, q4, q0h, c_b15_0_L3h, q5, q6, q2, hLL3, q9, q3e, q2q, q28, q29, q1f, q0z, hS⟩
  have e_ := St.vec_n (hS.pull 2) q0z; subst e_
  replace hLL3 := lp_s hLL3; obtain ⟨kL3, obL3, rfl, hFL3, hLL3⟩ := hLL3
  refine x_seq <| x_region <| p (yl_lss q1f q29) <| x_done <|
   x_seq <|
   x_cond_p (q6 < (a0.length : Int)) rfl (fun hc19 => ?_) (fun hc19 => ?_)
  ·replace hFL3 := it_t hc19 hFL3
   replace hFL3 := ck_s hFL3; obtain ⟨q33, hFL3⟩ := hFL3
   replace hFL3 := lv_s hFL3; obtain ⟨q2n, q3u, hFL3⟩ := hFL3
   have q_ := q31.get q33; obtain ⟨q46, q34, q3v⟩ := q_
   rw [← q3u] at q34
   obtain ⟨q43, q4b, q44, rfl, q32⟩ := q34
   have e_ := q32.n; subst e_
   refine x_skip <| x_seq <| x_block <| x_seq <|
    x_region <| p (yl_move q1f) <| p (yix_o sl_75 q28 q1f (hS.pull 1) q31 q33) <| pa (at_load one_87 rfl (EltV.ld (m := 0) q3v (hS.pull 1) rfl)) <|
    p (yl_assign rfl) <| p (yl_assign rfl) <| x_done <| x_seq <|
    x_region <| p (yl_assign rfl) <| x_done <| x_seq <|
    x_seq <| x_region <| p (yl_move rfl) <| p (yl_len_slice usl_87 rfl) <|
    p (yl_move rfl) <| x_done <| ?_
   replace hFL3 := bd_s hFL3; obtain ⟨oL7, hLL7, hFL3⟩ := hFL3
   refine x_join (fun E w => ∃ (q1k : Heap) (q1g : Option Addr) (q1h : Nat) (c_l8_L7 : Nat) (q14 : List Value) (q1o : List T_exact_Int), q1o = oL7 ∧ Le q0n q1k ∧ E 1 = .slice q0d more1.length c_more1 ∧ E 5 = .pointer (some ⟨b15, 0, none⟩) ∧ E 6 = .int .i64 q6 ∧ E 8 = .slice q1g q1h c_l8_L7 ∧ E 16 = .slice q0f a0.length c_a0 ∧ E 17 = .int .i64 (a0.length : Int) ∧ E 18 = .int .i64 q6 ∧ RepL R_exact_Int q1k q1o q14 ∧ St w0 w (cells b15 150 [.slice q4 q2.length c_b15_0_L3h, .bool q7.fneg, .slice q3 q7.fmag.length c_y0_ret_1_1_0, .bool false, .int .i64 0] :: vec 79 R_exact_Int.sz (.slice q1g q1h c_l8_L7) q1h q14 :: vec 87 (RpSl (RpI .i64)).sz (.slice q0f a0.length c_a0) a0.length q0k :: vec 155 (RpSl R_exact_Int).sz (.slice q4 q2.length c_b15_0_L3h) q2.length q5 :: ro q1k :: l)) ?_ ?_
   ·refine x_block ?_
    replace hS := St.vec_nil hS 79 R_exact_Int.sz
    have q1t : RepL R_exact_Int q0n [] [] := rfl
    refine x_loop (fun k_ E w => ∃ (q1p : Heap) (q15 : Option Addr) (q16 : Nat) (c_l8_L7h : Nat) (q0v : List Value) (q1b : List T_exact_Int) (q1i : Int), lp (P_exact_begin_2_L7 q2n) k_ (q1b, q1i) = some oL7 ∧ Le q0n q1p ∧ E 1 = .slice q0d more1.length c_more1 ∧ E 5 = .pointer (some ⟨b15, 0, none⟩) ∧ E 6 = .int .i64 q6 ∧ E 8 = .slice q15 q16 c_l8_L7h ∧ E 16 = .slice q0f a0.length c_a0 ∧ E 17 = .int .i64 (a0.length : Int) ∧ E 18 = .int .i64 q6 ∧ E 23 = .slice q43 q2n.length q44 ∧ E 24 = .int .i64 (q2n.length : Int) ∧ E 25 = .int .i64 q1i ∧ RepL R_exact_Int q1p q1b q0v ∧ St w0 w (cells b15 150 [.slice q4 q2.length c_b15_0_L3h, .bool q7.fneg, .slice q3 q7.fmag.length c_y0_ret_1_1_0, .bool false, .int .i64 0] :: vec 79 R_exact_Int.sz (.slice q15 q16 c_l8_L7h) q16 q0v :: vec 87 (RpSl (RpI .i64)).sz (.slice q0f a0.length c_a0) a0.length q0k :: vec 155 (RpSl R_exact_Int).sz (.slice q4 q2.length c_b15_0_L3h) q2.length q5 :: ro q1p :: l)) fuel ⟨q0n, none, 0, 0, [], [], 0, hLL7, (Le.refl _), q3e, q2q, rfl, rfl, q28, q29, q1f, rfl, rfl, rfl, q1t, (((((hS.pull 4).pull 4).pull 4).pull 3).pull 4)⟩ ?_
    rintro kL7 E w ⟨q1p, q15, q16, c_l8_L7h, q0v, q1b, q1i, hLL7, q17, q2r, q2s, q2t, q2u, q2a, q2b, q2c, q2d, q2e, q1s, q1l, hS⟩
    have e_ := St.vec_n (hS.pull 1) q1l; subst e_
    replace hLL7 := lp_s hLL7; obtain ⟨kL7, obL7, rfl, hFL7, hLL7⟩ := hLL7
    refine x_seq <| x_region <| p (yl_lss q1s q2e) <| x_done <|
     x_seq <|
     x_cond_p (q1i < (q2n.length : Int)) rfl (fun hc26 => ?_) (fun hc26 => ?_)
    ·replace hFL7 := it_t hc26 hFL7
     replace hFL7 := ck_s hFL7; obtain ⟨q35, hFL7⟩ := hFL7
     replace hFL7 := lv_s hFL7; obtain ⟨x28, hx28, hFL7⟩ := hFL7
     replace hFL7 := bd_s hFL7; obtain ⟨q18, q3w, hFL7⟩ := hFL7
     refine x_skip <| x_seq <| x_block <| x_seq <|
      x_region <| p (yix_f sl_87 q2d q1s (q32.le ((q0u.trans q9).trans q17)) q35) <| pa (at_load one_2 rfl (RdS.getW (q32.le ((q0u.trans q9).trans q17)) (hS.pull 4) q35 hx28)) <| p (yl_assign rfl) <|
      x_done <| x_region <| p (yl_move q2u) <| p (yl_move rfl) <| ?_
     have hcall := c_exact_Of q3w  (hS.pull 4)
     refine o_cc call_51 (args1 rfl) hcall ?_
     rintro e w' ⟨q2v, q0a, q3a, c_y0_ret_1_9_2, rfl, q2w, q11, hS⟩
     refine ⟨_, rfl, ?_⟩
     have e_ := q11.n; subst e_
     refine o_buildSlice (vs := [.agg #[.bool q18.fneg, .slice q0a q18.fmag.length c_y0_ret_1_9_2]]) (cs := [.bool q18.fneg, .slice q0a q18.fmag.length c_y0_ret_1_9_2]) sl_155 zero_79 (parts_eq (pt (va := .agg #[.bool q18.fneg, .slice q0a q18.fmag.length c_y0_ret_1_9_2]) rfl pt0)) rfl (by intro v hv; simp only [List.mem_cons, List.not_mem_nil, or_false] at hv; first | (subst hv; rfl) | (rcases hv with rfl <;> rfl)) (by decide) rfl hS (fun b32 w' hS => ?_)
     replace hFL7 := lv_s hFL7; obtain ⟨q3f, q3x, hFL7⟩ := hFL7
     replace hFL7 := ck_s hFL7; obtain ⟨q3y, hFL7⟩ := hFL7
     refine o_ap sl_155 zero_79 rfl (by decide) rfl rfl (hS.pull 3) (q1l.le q2w) (src_blk usl_155 hS rfl rfl) (RepL.cons (R := R_exact_Int) (ρ := q2v) (x := q18) (cs := [.bool q18.fneg, .slice q0a q18.fmag.length c_y0_ret_1_9_2]) ⟨_, _, _, rfl, q11⟩ RepL.nil) q3x q3y (fun A33 c33 cs33 w' hr33 hS => ?_)
     replace hFL7 := ar_s hFL7; obtain ⟨x34, hx34, hFL7⟩ := hFL7
     refine p (yl_assign rfl) <| x_done <| x_blk <| x_region <|
      p (yadd q1s rfl hx34) <| p (yl_move rfl) <| x_done <| ?_
     have e_ := Option.some.inj (show some _ = some _ from hFL7); subst e_
     exact x_inv ⟨kL7, Nat.lt_succ_self _, q2v, A33, q3f.length, c33, cs33, q3f, x34, hLL7, (q17.trans q2w), q2r, q2s, q2t, rfl, q2a, q2b, q2c, q2d, q2e, rfl, hr33, ((((((hS.pull 1).drop.pull 1).pull 4).pull 4).pull 3).pull 4)⟩
    ·replace hFL7 := it_f hc26 hFL7
     refine x_exitTo _ rfl <| ?_
     have e_ := Option.some.inj (show some _ = some _ from hFL7); subst e_
     exact x_inv ⟨q1p, q15, q1b.length, c_l8_L7h, q0v, q1b, hLL7, q17, q2r, q2s, q2t, q2u, q2a, q2b, q2c, q1l, (((((hS.pull 4).pull 4).pull 4).pull 4).pull 4)⟩
   rintro E w ⟨q1k, q1g, q1h, c_l8_L7, q14, q1o, rfl, q0q, q36, q3z, q40, q41, q3g, q3h, q3i, q2f, hS⟩
   have e_ := St.vec_n (hS.pull 1) q2f; subst e_
   refine x_seq <| x_seq <| x_region <| p (yl_move q36) <|
    p (yl_len_slice usl_75 rfl) <| p (yl_move rfl) <| x_done <| ?_
   replace hFL3 := bd_s hFL3; obtain ⟨oL12, hLL12, hFL3⟩ := hFL3
   refine x_join (fun E w => ∃ (q1u : Heap) (q0c : Option Addr) (q19 : Nat) (c_l8_L12 : Nat) (q1c : List Value) (q0i : List T_exact_Int), q0i = oL12 ∧ Le q1k q1u ∧ E 1 = .slice q0d more1.length c_more1 ∧ E 5 = .pointer (some ⟨b15, 0, none⟩) ∧ E 8 = .slice q0c q19 c_l8_L12 ∧ E 16 = .slice q0f a0.length c_a0 ∧ E 17 = .int .i64 (a0.length : Int) ∧ E 18 = .int .i64 q6 ∧ RepL R_exact_Int q1u q0i q1c ∧ St w0 w (cells b15 150 [.slice q4 q2.length c_b15_0_L3h, .bool q7.fneg, .slice q3 q7.fmag.length c_y0_ret_1_1_0, .bool false, .int .i64 0] :: vec 79 R_exact_Int.sz (.slice q0c q19 c_l8_L12) q19 q1c :: vec 87 (RpSl (RpI .i64)).sz (.slice q0f a0.length c_a0) a0.length q0k :: vec 155 (RpSl R_exact_Int).sz (.slice q4 q2.length c_b15_0_L3h) q2.length q5 :: ro q1u :: l)) ?_ ?_
   ·refine x_block ?_
    refine x_loop (fun k_ E w => ∃ (q1d : Heap) (q0w : Option Addr) (q0x : Nat) (c_l8_L12h : Nat) (q0o : List Value) (q12 : List T_exact_Int) (q1a : Int), lp (P_exact_begin_2_L12 more1 q6) k_ (q12, q1a) = some oL12 ∧ Le q1k q1d ∧ E 1 = .slice q0d more1.length c_more1 ∧ E 5 = .pointer (some ⟨b15, 0, none⟩) ∧ E 6 = .int .i64 q6 ∧ E 8 = .slice q0w q0x c_l8_L12h ∧ E 16 = .slice q0f a0.length c_a0 ∧ E 17 = .int .i64 (a0.length : Int) ∧ E 18 = .int .i64 q6 ∧ E 35 = .slice q0d more1.length c_more1 ∧ E 36 = .int .i64 (more1.length : Int) ∧ E 37 = .int .i64 q1a ∧ RepL R_exact_Int q1d q12 q0o ∧ St w0 w (cells b15 150 [.slice q4 q2.length c_b15_0_L3h, .bool q7.fneg, .slice q3 q7.fmag.length c_y0_ret_1_1_0, .bool false, .int .i64 0] :: vec 79 R_exact_Int.sz (.slice q0w q0x c_l8_L12h) q0x q0o :: vec 87 (RpSl (RpI .i64)).sz (.slice q0f a0.length c_a0) a0.length q0k :: vec 155 (RpSl R_exact_Int).sz (.slice q4 q2.length c_b15_0_L3h) q2.length q5 :: ro q1d :: l)) fuel ⟨q1k, q1g, q1o.length, c_l8_L7, q14, q1o, 0, hLL12, (Le.refl _), q36, q3z, q40, q41, q3g, q3h, q3i, rfl, rfl, rfl, q2f, (((((hS.pull 4).pull 4).pull 4).pull 4).pull 4)⟩ ?_
    rintro kL12 E w ⟨q1d, q0w, q0x, c_l8_L12h, q0o, q12, q1a, hLL12, q0e, q2g, q2h, q2i, q2j, q1y, q1z, q20, q21, q22, q1m, q1e, hS⟩
    have e_ := St.vec_n (hS.pull 1) q1e; subst e_
    replace hLL12 := lp_s hLL12; obtain ⟨kL12, obL12, rfl, hFL12, hLL12⟩ := hLL12
    refine x_seq <| x_region <| p (yl_lss q1m q22) <| x_done <|
     x_seq <|
     x_cond_p (q1a < (more1.length : Int)) rfl (fun hc38 => ?_) (fun hc38 => ?_)
    ·replace hFL12 := it_t hc38 hFL12
     replace hFL12 := ck_s hFL12; obtain ⟨q2x, hFL12⟩ := hFL12
     replace hFL12 := lv_s hFL12; obtain ⟨q47, q3j, hFL12⟩ := hFL12
     have q_ := q1r.get q2x; obtain ⟨q45, q2y, q3k⟩ := q_
     rw [← q3j] at q2y
     obtain ⟨q48, q49, q4a, rfl, q2o⟩ := q2y
     have e_ := q2o.n; subst e_
     replace hFL12 := ck_s hFL12; obtain ⟨q2z, hFL12⟩ := hFL12
     replace hFL12 := lv_s hFL12; obtain ⟨x45, hx45, hFL12⟩ := hFL12
     replace hFL12 := bd_s hFL12; obtain ⟨q0p, q3l, hFL12⟩ := hFL12
     refine x_skip <| x_seq <| x_block <| x_seq <|
      x_region <| p (yix_f sl_75 q21 q1m (q1r.le (((q0u.trans q9).trans q0q).trans q0e)) q2x) <| pa (at_load one_87 rfl (Elt.ld (j := 0) (Elt.le q3k (((q0u.trans q9).trans q0q).trans q0e)) (hS.pull 4) rfl)) <| p (yl_assign rfl) <|
      x_done <| x_region <| p (yl_move q2j) <| p (yl_move rfl) <|
      p (yl_move q2i) <| p (yix_f sl_87 rfl rfl (q2o.le (((q0u.trans q9).trans q0q).trans q0e)) q2z) <| pa (at_load one_2 rfl (RdS.getW (q2o.le (((q0u.trans q9).trans q0q).trans q0e)) (hS.pull 4) q2z hx45)) <| ?_
     have hcall := c_exact_Of q3l  (hS.pull 4)
     refine o_cc call_51 (args1 rfl) hcall ?_
     rintro e w' ⟨q2k, q8, q37, c_y0_ret_1_14_5, rfl, q2l, q0y, hS⟩
     refine ⟨_, rfl, ?_⟩
     have e_ := q0y.n; subst e_
     refine o_buildSlice (vs := [.agg #[.bool q0p.fneg, .slice q8 q0p.fmag.length c_y0_ret_1_14_5]]) (cs := [.bool q0p.fneg, .slice q8 q0p.fmag.length c_y0_ret_1_14_5]) sl_155 zero_79 (parts_eq (pt (va := .agg #[.bool q0p.fneg, .slice q8 q0p.fmag.length c_y0_ret_1_14_5]) rfl pt0)) rfl (by intro v hv; simp only [List.mem_cons, List.not_mem_nil, or_false] at hv; first | (subst hv; rfl) | (rcases hv with rfl <;> rfl)) (by decide) rfl hS (fun b47 w' hS => ?_)
     replace hFL12 := lv_s hFL12; obtain ⟨q38, q3m, hFL12⟩ := hFL12
     replace hFL12 := ck_s hFL12; obtain ⟨q3n, hFL12⟩ := hFL12
     refine o_ap sl_155 zero_79 rfl (by decide) rfl rfl (hS.pull 3) (q1e.le q2l) (src_blk usl_155 hS rfl rfl) (RepL.cons (R := R_exact_Int) (ρ := q2k) (x := q0p) (cs := [.bool q0p.fneg, .slice q8 q0p.fmag.length c_y0_ret_1_14_5]) ⟨_, _, _, rfl, q0y⟩ RepL.nil) q3m q3n (fun A48 c48 cs48 w' hr48 hS => ?_)
     replace hFL12 := ar_s hFL12; obtain ⟨x49, hx49, hFL12⟩ := hFL12
     refine p (yl_assign rfl) <| x_done <| x_blk <| x_region <|
      p (yadd q1m rfl hx49) <| p (yl_move rfl) <| x_done <| ?_
     have e_ := Option.some.inj (show some _ = some _ from hFL12); subst e_
     exact x_inv ⟨kL12, Nat.lt_succ_self _, q2k, A48, q38.length, c48, cs48, q38, x49, hLL12, (q0e.trans q2l), q2g, q2h, q2i, rfl, q1y, q1z, q20, q21, q22, rfl, hr48, ((((((hS.pull 1).drop.pull 1).pull 4).pull 4).pull 3).pull 4)⟩
    ·replace hFL12 := it_f hc38 hFL12
     refine x_exitTo _ rfl <| ?_
     have e_ := Option.some.inj (show some _ = some _ from hFL12); subst e_
     exact x_inv ⟨q1d, q0w, q12.length, c_l8_L12h, q0o, q12, hLL12, q0e, q2g, q2h, q2j, q1y, q1z, q20, q1e, (((((hS.pull 4).pull 4).pull 4).pull 4).pull 4)⟩
   rintro E w ⟨q1u, q0c, q19, c_l8_L12, q1c, q0i, rfl, q23, q3o, q24, q3p, q3b, q3c, q3d, q25, hS⟩
   have e_ := St.vec_n (hS.pull 1) q25; subst e_
   refine x_region <| p (yl_move q24) <| p (yl_move q24) <| p (yl_nilCheck rfl) <|
    p (yl_field0 fld_150_0 rfl) <| pa (at_load one_148 rfl (hS.cell rfl)) <| p (yl_move q3p) <| ?_
   have q_ := St.vec_fz ((hS.pull 4).pull 2) q25; obtain ⟨q30, q26, q3q, hS⟩ := q_
   refine o_buildSlice (vs := [.slice q0c q0i.length c_l8_L12]) (cs := [.slice q0c q0i.length c_l8_L12]) sl_148 zero_155 (parts_eq (pt (va := .slice q0c q0i.length c_l8_L12) rfl pt0)) rfl (by intro v hv; simp only [List.mem_cons, List.not_mem_nil, or_false] at hv; first | (subst hv; rfl) | (rcases hv with rfl <;> rfl)) (by decide) rfl hS (fun b56 w' hS => ?_)
   replace hFL3 := lv_s hFL3; obtain ⟨q2p, q3r, hFL3⟩ := hFL3
   replace hFL3 := ck_s hFL3; obtain ⟨q3s, hFL3⟩ := hFL3
   refine o_ap sl_148 zero_155 rfl (by decide) rfl rfl (hS.pull 4) (q0z.le ((q0q.trans q23).trans q26)) (src_blk usl_148 hS rfl rfl) (RepL.cons (R := (RpSl R_exact_Int)) (ρ := q30) (x := q0i) (cs := [.slice q0c q0i.length c_l8_L12]) ⟨_, _, _, rfl, q3q⟩ RepL.nil) q3r q3s (fun A57 c57 cs57 w' hr57 hS => ?_)
   refine p (yl_nilCheck rfl) <| p (yl_field0 fld_150_0 rfl) <| ?_
   refine o_store1 (v := .slice A57 q2p.length c57) one_148 rfl rfl rfl rfl (hS.pull 3) (fun w' hS => ?_)
   replace hFL3 := ar_s hFL3; obtain ⟨x60, hx60, hFL3⟩ := hFL3
   refine x_done <| x_blk <| x_region <| p (yadd q3d rfl hx60) <|
    p (yl_move rfl) <| x_done <| ?_
   have e_ := Option.some.inj (show some _ = some _ from hFL3); subst e_
   exact x_inv ⟨kL3, Nat.lt_succ_self _, q30, A57, q2p.length, c57, cs57, x60, q2p, hLL3, (((q9.trans q0q).trans q23).trans q26), q3o, q24, q3b, q3c, rfl, hr57, (((((hS.pull 2).drop.pull 2).pull 2).pull 3).pull 3)⟩
  ·replace hFL3 := it_f hc19 hFL3
   refine x_exitTo _ rfl <| ?_
   have e_ := Option.some.inj (show some _ = some _ from hFL3); subst e_
   exact x_inv ⟨q0n, q4, q2.length, c_b15_0_L3h, q5, q2, hLL3, q9, q2q, q0z, ((((hS.pull 3).pull 2).pull 3).pull 3)⟩
 rintro E w ⟨q1x, q0l, q0m, c_b15_0_L3, q0g, q13, rfl, q2m, q42, q1q, hS⟩
 have e_ := St.vec_n (hS.pull 1) q1q; subst e_
 refine x_seq <| x_region <| p (yl_move q42) <| p (yl_assign rfl) <|
  x_done <| ?_
 have e_ := Option.some.inj (show some _ = some _ from hF); subst e_
 exact x_return ⟨_, ⟨_, _, rfl, rfl, rfl⟩, q1x, b15, q0l, q13.length, c_b15_0_L3, q0g, q3, q7.fmag.length, c_y0_ret_1_1_0, rfl, (q0u.trans q2m), q1q, (q10.le q2m), ((((hS.pull 3).pull 3).pull 3).pull 3)⟩
attribute [irreducible] P_exact_begin_2

def P_exact_Det_2_L6 (a0 : List (List Int)) : (Int × List (List T_exact_Int) × Bool × List Int × Bool × Int) → Option ((Int × List (List T_exact_Int) × Bool × List Int × Bool × Int) ⊕ ((List (List T_exact_Int) × Bool × List Int × Bool × Int) ⊕ (T_exact_Int × Int))) := fun (q7, q2, q3, q4, q5, q6) =>
 if q7 < (a0.length : Int) then
  bd (P_exact_table_pivot (T_exact_table.mk q2 (T_exact_Int.mk q3 q4) q5 q6) q7 false) fun q8 =>
  if (!q8.1) = true then
   some (Sum.inr (Sum.inr ((T_exact_Int.mk false []), (0 : Int))))
  else
   ar (q7 + 1) fun x25 =>
   some (Sum.inl (x25, q8.2.1, q8.2.2.1, q8.2.2.2.1, q8.2.2.2.2.1, q8.2.2.2.2.2))
 else
  some (Sum.inr (Sum.inl (q2, q3, q4, q5, q6)))
def P_exact_Det_2 (a0 : List (List Int)) : Option (T_exact_Int × Int) :=
 bd (P_exact_square_2 a0) fun q8 =>
 if q8 ≠ 0 then
  some ((T_exact_Int.mk false []), q8)
 else
  bd (P_exact_begin_2 a0 []) fun q7 =>
  bs (
   lp (P_exact_Det_2_L6 a0) fuel (0, q7.1, q7.2.1, q7.2.2, false, 0)) (fun y => some y) fun (q5, q2, q3, q4, q6) =>
  if q4 = true then
   bd (P_exact_Neg (T_exact_Int.mk q2 q3)) fun q9 =>
   some (q9, (0 : Int))
  else
   some ((T_exact_Int.mk q2 q3), (0 : Int))
set_option maxHeartbeats 4000000 in
set_option maxRecDepth 100000 in
theorem c_exact_Det_2 {w0 w : World} {l : List Assn} {ρ : Heap} {q19 : Option Addr} {q1a : Nat} {c_a0 : Nat} {q13 : List Value} {a0 : List (List Int)} {r : (T_exact_Int × Int)} (hF : P_exact_Det_2 a0 = some r) (q1o : RepL (RpSl (RpI .i64)) ρ a0 q13) (hS : St w0 w (vec 87 (RpSl (RpI .i64)).sz (.slice q19 q1a c_a0) q1a q13 :: ro ρ :: l)) :
  Calls Try.prog 37 #[.slice q19 q1a c_a0] w fun e w' => ∃ (ρ' : Heap) (q14 : Option Addr) (q15 : Nat) (c_y0_ret_1 : Nat), e = .returned (.tuple #[.agg #[.bool r.1.fneg, .slice q14 q15 c_y0_ret_1], .int .i64 r.2]) ∧ Le ρ ρ' ∧ RdS (RpI .u32) ρ' q14 q15 c_y0_ret_1 r.1.fmag ∧ St w0 w' (vec 87 (RpSl (RpI .i64)).sz (.slice q19 q1a c_a0) q1a q13 :: ro ρ' :: l) := by
 have e_ := St.vec_n hS q1o; subst e_
 refine enterC Try.func37 rfl 39 rfl (by simp) ?_
 refine x_seq <| x_region <| ?_
 refine o_alloc zero_79 hS (fun b2 w' hS => ?_)
 replace hF := bd_s hF; obtain ⟨q1b, q1s, hF⟩ := hF
 refine p (yl_assign rfl) <| x_done <| x_seq <| x_seq <|
  x_region <| p (yl_move rfl) <| ?_
 have hcall := c_exact_square_2 q1s q1o ((hS.pull 2).pull 2)
 refine o_cc call_85 (args1 rfl) ((Calls.mono hcall (fun e w'' h => And.intro h.1 (((h.2.pull 1).pull 1).pull 2)))) ?_
 rintro e w' ⟨rfl, hS⟩
 refine ⟨_, rfl, ?_⟩
 refine p (v := .int .i64 q1b) (yl_assign rfl) <| x_done <| x_seq <| x_region <|
  p (v := .int .i64 q1b) (yl_move rfl) <| p (yl_neq rfl rfl) <| x_done <|
  x_cond_p (q1b ≠ 0) rfl (fun hc10 => ?_) (fun hc10 => ?_)
 ·replace hF := it_t hc10 hF
  refine x_seq <| x_region <| p (v := .agg #[.bool false, .slice none 0 0]) (yl_build bld_79 bldf_79 (parts_eq pt0) (by kernel_rfl)) <| p (v := .int .i64 q1b) (yl_move rfl) <| ?_
  refine o_storeAgg (news := [.bool false, .slice none 0 0]) agg_79 rfl rfl rfl (by simp [over_length]) hS (fun w' hS => ?_)
  refine p (v := .int .i64 q1b) (yl_assign rfl) <| x_done <| ?_
  have e_ := Option.some.inj (show some _ = some _ from hF); subst e_
  exact x_return ⟨_, ⟨_, _, _, rfl, rfl, ldvA agg_79 rfl (fun j v hj => by rw [add0]; exact St.cell hS hj), _, _, rfl, rfl, rfl⟩, ρ, none, 0, 0, rfl, (Le.refl _), (RdS.nil (A := none) (c := 0)), ((hS.drop.pull 1).pull 1)⟩
 ·replace hF := it_f hc10 hF
  replace hF := bd_s hF; obtain ⟨q0s, q1t, hF⟩ := hF
  refine x_skip <| x_seq <| x_region <| p (yl_move rfl) <| ?_
  have hcall := c_exact_begin_2 q1t q1o (RdS.nil (A := none) (c := 0)) ((hS.pull 2).pull 2)
  refine o_cc call_86 (args2 rfl rfl) hcall ?_
  rintro e w' ⟨q1c, q0l, q7, q1h, c_b_y0_ret_0_ret_4_1, q0t, q0u, q1i, c_b_y0_ret_2_ret_4_1, rfl, q1d, q0m, q0n, hS⟩
  refine ⟨_, rfl, ?_⟩
  have e_ := St.vec_n (hS.pull 1) q0m; subst e_
  have e_ := q0n.n; subst e_
  refine p (yl_assign rfl) <| x_done <| x_seq <| x_seq <|
   x_region <| p (yl_move rfl) <| p (yl_len_slice usl_75 rfl) <| p (yl_move rfl) <|
   x_done <| ?_
  replace hF := bs_s hF; obtain ⟨oL6, hLL6, hF⟩ := hF
  refine x_join (fun E w => ∃ (q0y : Heap) (q0e : List Value) (q2 : Option Addr) (q0h : Nat) (c_b_y0_ret_4_1_2_L6 : Nat) (q0j : List (List T_exact_Int)) (q4 : Bool) (q3 : List Int) (q0d : Bool) (q0k : Int), (Sum.inl (q0j, q4, q3, q0d, q0k)) = oL6 ∧ Le q1c q0y ∧ E 2 = .pointer (some ⟨b2, 0, none⟩) ∧ E 5 = .pointer (some ⟨q0l, 0, none⟩) ∧ RepL (RpSl R_exact_Int) q0y q0j q0e ∧ RdS (RpI .u32) q0y q2 q0h c_b_y0_ret_4_1_2_L6 q3 ∧ St w0 w (cells b2 79 [.bool false, .slice none 0 0] :: cells q0l 150 [.slice q7 q0s.1.length c_b_y0_ret_0_ret_4_1, .bool q4, .slice q2 q0h c_b_y0_ret_4_1_2_L6, .bool q0d, .int .i64 q0k] :: vec 155 (RpSl R_exact_Int).sz (.slice q7 q0s.1.length c_b_y0_ret_0_ret_4_1) q0s.1.length q0e :: vec 87 (RpSl (RpI .i64)).sz (.slice q19 a0.length c_a0) a0.length q13 :: ro q0y :: l)) ?_ ?_
  ·refine x_block ?_
   refine x_loop (fun k_ E w => ∃ (q0v : Heap) (q6 : List Value) (q8 : Option Addr) (q0f : Nat) (c_b_y0_ret_4_1_2_L6h : Nat) (q0w : Int) (q9 : List (List T_exact_Int)) (q0a : Bool) (q5 : List Int) (q0b : Bool) (q0c : Int), lp (P_exact_Det_2_L6 a0) k_ (q0w, q9, q0a, q5, q0b, q0c) = some oL6 ∧ Le q1c q0v ∧ E 2 = .pointer (some ⟨b2, 0, none⟩) ∧ E 5 = .pointer (some ⟨q0l, 0, none⟩) ∧ E 16 = .int .i64 (a0.length : Int) ∧ E 17 = .int .i64 q0w ∧ RepL (RpSl R_exact_Int) q0v q9 q6 ∧ RdS (RpI .u32) q0v q8 q0f c_b_y0_ret_4_1_2_L6h q5 ∧ St w0 w (cells b2 79 [.bool false, .slice none 0 0] :: cells q0l 150 [.slice q7 q0s.1.length c_b_y0_ret_0_ret_4_1, .bool q0a, .slice q8 q0f c_b_y0_ret_4_1_2_L6h, .bool q0b, .int .i64 q0c] :: vec 155 (RpSl R_exact_Int).sz (.slice q7 q0s.1.length c_b_y0_ret_0_ret_4_1) q0s.1.length q6 :: vec 87 (RpSl (RpI .i64)).sz (.slice q19 a0.length c_a0) a0.length q13 :: ro q0v :: l)) fuel ⟨q1c, q0t, q0u, q0s.2.2.length, c_b_y0_ret_2_ret_4_1, 0, q0s.1, q0s.2.1, q0s.2.2, false, 0, hLL6, (Le.refl _), rfl, rfl, rfl, rfl, q0m, q0n, (((((hS.pull 3).pull 3).pull 3).pull 3).pull 4)⟩ ?_
   rintro kL6 E w ⟨q0v, q6, q8, q0f, c_b_y0_ret_4_1_2_L6h, q0w, q9, q0a, q5, q0b, q0c, hLL6, q0z, q16, q1e, q1f, q17, q0o, q0g, hS⟩
   have e_ := q0g.n; subst e_
   replace hLL6 := lp_s hLL6; obtain ⟨kL6, obL6, rfl, hFL6, hLL6⟩ := hLL6
   refine x_seq <| x_region <| p (yl_lss q17 q1f) <| x_done <|
    x_seq <|
    x_cond_p (q0w < (a0.length : Int)) rfl (fun hc18 => ?_) (fun hc18 => ?_)
   ·replace hFL6 := it_t hc18 hFL6
    replace hFL6 := bd_s hFL6; obtain ⟨q10, q1u, hFL6⟩ := hFL6
    refine x_skip <| x_seq <| x_block <| x_seq <|
     x_region <| p (yl_move q17) <| p (yl_assign rfl) <| x_done <|
     x_seq <| x_region <| p (yl_move q1e) <| p (yl_move rfl) <| ?_
    have hcall := c_exact_table_pivot q1u q0o q0g (((hS.pull 4).pull 3).pull 3)
    refine o_cc call_87 (args3 rfl rfl rfl) hcall ?_
    rintro e w' ⟨q1m, q0x, q11, q1p, c_b_t0_2_ret_8_2, rfl, q1n, q12, q0p, hS⟩
    refine ⟨_, rfl, ?_⟩
    have e_ := q0p.n; subst e_
    refine p (yl_not rfl) <| x_done <|
     x_cond (t := !q10.1) rfl (fun hc23 => ?_) (fun hc23 => ?_)
    ·replace hFL6 := it_t hc23 hFL6
     refine x_seq <| x_region <| p (v := .agg #[.bool false, .slice none 0 0]) (yl_build bld_79 bldf_79 (parts_eq pt0) (by kernel_rfl)) <| ?_
     refine o_storeAgg (news := [.bool false, .slice none 0 0]) agg_79 q16 rfl rfl (by simp [over_length]) (hS.pull 3) (fun w' hS => ?_)
     refine p (yl_assign rfl) <| x_done <| ?_
     have e_ := Option.some.inj (show some _ = some _ from hFL6); subst e_
     have e_ := (show _ = oL6 from hLL6); subst e_
     have e_ := Option.some.inj (show some _ = some _ from hF); subst e_
     exact x_return ⟨_, ⟨_, _, _, rfl, q16, ldvA agg_79 rfl (fun j v hj => by rw [add0]; exact St.cell hS hj), _, _, rfl, rfl, rfl⟩, q1m, none, 0, 0, rfl, ((q1d.trans q0z).trans q1n), (RdS.nil (A := none) (c := 0)), (hS.drop.drop.drop.pull 1)⟩
    ·replace hFL6 := it_bf hc23 hFL6
     replace hFL6 := ar_s hFL6; obtain ⟨x25, hx25, hFL6⟩ := hFL6
     refine x_skip <| x_blk <| x_region <| p (yadd q17 rfl hx25) <|
      p (yl_move rfl) <| x_done <| ?_
     have e_ := Option.some.inj (show some _ = some _ from hFL6); subst e_
     exact x_inv ⟨kL6, Nat.lt_succ_self _, q1m, q0x, q11, q10.2.2.2.1.length, c_b_t0_2_ret_8_2, x25, q10.2.1, q10.2.2.1, q10.2.2.2.1, q10.2.2.2.2.1, q10.2.2.2.2.2, hLL6, (q0z.trans q1n), q16, q1e, q1f, rfl, q12, q0p, (((((hS.pull 2).pull 4).pull 3).pull 3).pull 4)⟩
   ·replace hFL6 := it_f hc18 hFL6
    refine x_exitTo _ rfl <| ?_
    have e_ := Option.some.inj (show some _ = some _ from hFL6); subst e_
    exact x_inv ⟨q0v, q6, q8, q5.length, c_b_y0_ret_4_1_2_L6h, q9, q0a, q5, q0b, q0c, hLL6, q0z, q16, q1e, q0o, q0g, (((((hS.pull 4).pull 4).pull 4).pull 4).pull 4)⟩
  rintro E w ⟨q0y, q0e, q2, q0h, c_b_y0_ret_4_1_2_L6, q0j, q4, q3, q0d, q0k, rfl, q1g, q18, q1j, q1l, q0i, hS⟩
  have e_ := q0i.n; subst e_
  refine x_seq <| x_seq <| x_region <| p (yl_move q1j) <|
   p (yl_nilCheck rfl) <| p (yl_field0 fld_150_2 rfl) <| pa (at_load one_4 rfl ((hS.pull 1).cell rfl)) <| x_done <|
   x_cond (t := q0d) rfl (fun hc29 => ?_) (fun hc29 => ?_)
  ·replace hF := it_t hc29 hF
   replace hF := bd_s hF; obtain ⟨q1k, q1r, hF⟩ := hF
   refine x_seq <| x_region <| p (yl_move q1j) <| p (yl_nilCheck rfl) <|
    p (yl_field0 fld_150_1 rfl) <| pa (v := .agg #[.bool q4, .slice q2 q3.length c_b_y0_ret_4_1_2_L6]) (ld_sub agg_79 rfl rfl rfl (hS.pull 1)) <| ?_
   have hcall := c_exact_Neg q1r q0i (hS.pull 4)
   refine o_cc call_43 (args1 rfl) hcall ?_
   rintro e w' ⟨q0q, q1q, c_y0_ret_1_12_4, rfl, q0r, hS⟩
   refine ⟨_, rfl, ?_⟩
   have e_ := q0r.n; subst e_
   refine o_storeAgg (news := [.bool q1k.fneg, .slice q0q q1k.fmag.length c_y0_ret_1_12_4]) agg_79 q18 rfl rfl (by simp [over_length]) (hS.pull 1) (fun w' hS => ?_)
   refine p (yl_assign rfl) <| x_done <| ?_
   have e_ := Option.some.inj (show some _ = some _ from hF); subst e_
   exact x_return ⟨_, ⟨_, _, _, rfl, q18, ldvA agg_79 rfl (fun j v hj => by rw [add0]; exact St.cell hS hj), _, _, rfl, rfl, rfl⟩, q0y, q0q, q1k.fmag.length, c_y0_ret_1_12_4, rfl, (q1d.trans q1g), q0r, (((hS.drop.pull 1).drop.pull 1).drop.pull 1)⟩
  ·replace hF := it_bf hc29 hF
   refine x_skip <| x_seq <| x_region <| p (yl_move q1j) <|
    p (yl_nilCheck rfl) <| p (yl_field0 fld_150_1 rfl) <| pa (v := .agg #[.bool q4, .slice q2 q3.length c_b_y0_ret_4_1_2_L6]) (ld_sub agg_79 rfl rfl rfl (hS.pull 1)) <| ?_
   refine o_storeAgg (news := [.bool q4, .slice q2 q3.length c_b_y0_ret_4_1_2_L6]) agg_79 q18 rfl rfl (by simp [over_length]) hS (fun w' hS => ?_)
   refine p (yl_assign rfl) <| x_done <| ?_
   have e_ := Option.some.inj (show some _ = some _ from hF); subst e_
   exact x_return ⟨_, ⟨_, _, _, rfl, q18, ldvA agg_79 rfl (fun j v hj => by rw [add0]; exact St.cell hS hj), _, _, rfl, rfl, rfl⟩, q0y, q2, q3.length, c_b_y0_ret_4_1_2_L6, rfl, (q1d.trans q1g), q0i, ((hS.drop.drop.drop.pull 1).pull 1)⟩
attribute [irreducible] P_exact_Det_2

def P_maskkeep4_product_L10 (a0 : List (List Int)) (b1 : List (List Int)) (q4 : Int) (q5 : Int) : (List Int × Int) → Option ((List Int × Int) ⊕ List Int) := fun (q3, q2) =>
 if q2 < (a0.length : Int) then
  ck (inb q4 q3.length) <|
  lv (gt q3 q4) fun x31 =>
  ck (inb q5 a0.length) <|
  lv (gt a0 q5) fun q7 =>
  ck (inb q2 q7.length) <|
  lv (gt q7 q2) fun x38 =>
  ck (inb q2 b1.length) <|
  lv (gt b1 q2) fun q6 =>
  ck (inb q4 q6.length) <|
  lv (gt q6 q4) fun x45 =>
  ar (x38 * x45) fun x46 =>
  ar (x31 + x46) fun x47 =>
  ck (inb q4 q3.length) <|
  lv (stt q3 q4 x47) fun q8 =>
  ar (q2 + 1) fun x49 =>
  some (Sum.inl (q8, x49))
 else
  some (Sum.inr q3)
def P_maskkeep4_product_L7 (a0 : List (List Int)) (b1 : List (List Int)) (q6 : List Int) (q5 : Int) : (List Int × Int) → Option ((List Int × Int) ⊕ List Int) := fun (q3, q2) =>
 if q2 < (q6.length : Int) then
  bd (
   lp (P_maskkeep4_product_L10 a0 b1 q2 q5) fuel (q3, 0)) fun q4 =>
  ar (q2 + 1) fun x50 =>
  some (Sum.inl (q4, x50))
 else
  some (Sum.inr q3)
def P_maskkeep4_product_L3 (a0 : List (List Int)) (b1 : List (List Int)) : (List (List Int) × Int) → Option ((List (List Int) × Int) ⊕ List (List Int)) := fun (q3, q2) =>
 if q2 < (a0.length : Int) then
  ck (mkOk 8 (a0.length : Int)) <|
  lv ((List.replicate ((a0.length : Int) : Int).toNat 0 : List Int)) fun q6 =>
  bd (
   lp (P_maskkeep4_product_L7 a0 b1 q6 q2) fuel (q6, 0)) fun q5 =>
  lv (q3 ++ [q5]) fun q4 =>
  ck (apOk 24 q4.length) <|
  ar (q2 + 1) fun x55 =>
  some (Sum.inl (q4, x55))
 else
  some (Sum.inr q3)
def P_maskkeep4_product (a0 : List (List Int)) (b1 : List (List Int)) : Option (List (List Int)) :=
 bd (
  lp (P_maskkeep4_product_L3 a0 b1) fuel ([], 0)) fun q2 =>
 some q2
set_option maxHeartbeats 4000000 in
set_option maxRecDepth 100000 in
theorem c_maskkeep4_product {w0 w : World} {l : List Assn} {ρ : Heap} {q0c : Option Addr} {q16 : Nat} {c_a0 : Nat} {q0f : List Value} {q0s : Option Addr} {q2g : Nat} {c_b1 : Nat} {a0 : List (List Int)} {b1 : List (List Int)} {r : List (List Int)} (hF : P_maskkeep4_product a0 b1 = some r) (q23 : RepL (RpSl (RpI .i64)) ρ a0 q0f) (q24 : RdS (RpSl (RpI .i64)) ρ q0s q2g c_b1 b1) (hS : St w0 w (vec 87 (RpSl (RpI .i64)).sz (.slice q0c q16 c_a0) q16 q0f :: ro ρ :: l)) :
  Calls Try.prog 38 #[.slice q0c q16 c_a0, .slice q0s q2g c_b1] w fun e w' => ∃ (ρ' : Heap) (q17 : Option Addr) (q0t : Nat) (c_y0_ret : Nat) (q14 : List Value), e = .returned (.slice q17 q0t c_y0_ret) ∧ Le ρ ρ' ∧ RepL (RpSl (RpI .i64)) ρ' r q14 ∧ St w0 w' (vec 87 (RpSl (RpI .i64)).sz (.slice q17 q0t c_y0_ret) q0t q14 :: vec 87 (RpSl (RpI .i64)).sz (.slice q0c q16 c_a0) q16 q0f :: ro ρ' :: l) := by
 have e_ := St.vec_n hS q23; subst e_
 have e_ := q24.n; subst e_
 refine enterC Try.func38 rfl 57 rfl (by simp) ?_
 refine x_seq <| x_region <| p (yl_assign rfl) <| x_done <|
  x_seq <| x_region <| p (yl_assign rfl) <| x_done <|
  x_seq <| x_seq <| x_region <| p (yl_move rfl) <|
  p (yl_len_slice usl_75 rfl) <| p (yl_move rfl) <| x_done <| ?_
 replace hF := bd_s hF; obtain ⟨oL3, hLL3, hF⟩ := hF
 refine x_join (fun E w => ∃ (q18 : Heap) (q0j : Option Addr) (q0k : Nat) (c_out5_L3 : Nat) (q0g : List Value) (q0q : List (List Int)), q0q = oL3 ∧ Le ρ q18 ∧ E 5 = .slice q0j q0k c_out5_L3 ∧ RepL (RpSl (RpI .i64)) q18 q0q q0g ∧ St w0 w (vec 87 (RpSl (RpI .i64)).sz (.slice q0j q0k c_out5_L3) q0k q0g :: vec 87 (RpSl (RpI .i64)).sz (.slice q0c a0.length c_a0) a0.length q0f :: ro q18 :: l)) ?_ ?_
 ·refine x_block ?_
  replace hS := St.vec_nil hS 87 (RpSl (RpI .i64)).sz
  have q0v : RepL (RpSl (RpI .i64)) ρ [] [] := rfl
  refine x_loop (fun k_ E w => ∃ (q7 : Heap) (q4 : Option Addr) (q0h : Nat) (c_out5_L3h : Nat) (q5 : List Value) (q2 : List (List Int)) (q6 : Int), lp (P_maskkeep4_product_L3 a0 b1) k_ (q2, q6) = some oL3 ∧ Le ρ q7 ∧ E 0 = .slice q0c a0.length c_a0 ∧ E 1 = .slice q0s b1.length c_b1 ∧ E 5 = .slice q4 q0h c_out5_L3h ∧ E 11 = .int .i64 (a0.length : Int) ∧ E 12 = .int .i64 q6 ∧ RepL (RpSl (RpI .i64)) q7 q2 q5 ∧ St w0 w (vec 87 (RpSl (RpI .i64)).sz (.slice q0c a0.length c_a0) a0.length q0f :: vec 87 (RpSl (RpI .i64)).sz (.slice q4 q0h c_out5_L3h) q0h q5 :: ro q7 :: l)) fuel ⟨ρ, none, 0, 0, [], [], 0, hLL3, (Le.refl _), rfl, rfl, rfl, rfl, rfl, q0v, (((hS.pull 2).pull 1).pull 2)⟩ ?_
  rintro kL3 E w ⟨q7, q4, q0h, c_out5_L3h, q5, q2, q6, hLL3, q8, q1s, q2h, q1t, q1h, q0x, q0m, hS⟩
  have e_ := St.vec_n (hS.pull 1) q0m; subst e_
  replace hLL3 := lp_s hLL3; obtain ⟨kL3, obL3, rfl, hFL3, hLL3⟩ := hLL3
  refine x_seq <| x_region <| p (yl_lss q0x q1h) <| x_done <|
   x_seq <|
   x_cond_p (q6 < (a0.length : Int)) rfl (fun hc13 => ?_) (fun hc13 => ?_)
  ·replace hFL3 := it_t hc13 hFL3
   refine x_skip <| x_seq <| x_block <| x_seq <|
    x_region <| p (yl_move q0x) <| p (yl_assign rfl) <| x_done <|
    x_seq <| x_region <| p (yl_move q1s) <| p (yl_len_slice usl_75 rfl) <| ?_
   replace hFL3 := ck_s hFL3; obtain ⟨q2w, hFL3⟩ := hFL3
   replace hFL3 := lv_s hFL3; obtain ⟨q3, q2x, hFL3⟩ := hFL3
   refine o_mk sl_87 zero_2 (show (RpI .i64).ok q7 _ 0 from rfl) rfl rfl q2w (by decide) q2x hS (fun A17 cs17 w' hr17 hS => ?_)
   refine p (yl_assign rfl) <| x_done <| x_seq <| x_seq <|
    x_region <| p (yl_move rfl) <| p (yl_len_slice usl_87 rfl) <| p (yl_move rfl) <|
    x_done <| ?_
   replace hFL3 := bd_s hFL3; obtain ⟨oL7, hLL7, hFL3⟩ := hFL3
   refine x_join (fun E w => ∃ (q0n : List Value) (q0r : List Int), q0r = oL7 ∧ E 0 = .slice q0c a0.length c_a0 ∧ E 1 = .slice q0s b1.length c_b1 ∧ E 5 = .slice q4 q2.length c_out5_L3h ∧ E 7 = .slice A17 q3.length q3.length ∧ E 11 = .int .i64 (a0.length : Int) ∧ E 12 = .int .i64 q6 ∧ RepL (RpI .i64) q7 q0r q0n ∧ St w0 w (vec 87 (RpSl (RpI .i64)).sz (.slice q0c a0.length c_a0) a0.length q0f :: vec 87 (RpSl (RpI .i64)).sz (.slice q4 q2.length c_out5_L3h) q2.length q5 :: vec 2 (RpI .i64).sz (.slice A17 q3.length q3.length) q3.length q0n :: ro q7 :: l)) ?_ ?_
   ·refine x_block ?_
    refine x_loop (fun k_ E w => ∃ (q9 : List Value) (q0i : List Int) (q0b : Int), lp (P_maskkeep4_product_L7 a0 b1 q3 q6) k_ (q0i, q0b) = some oL7 ∧ E 0 = .slice q0c a0.length c_a0 ∧ E 1 = .slice q0s b1.length c_b1 ∧ E 5 = .slice q4 q2.length c_out5_L3h ∧ E 6 = .int .i64 q6 ∧ E 7 = .slice A17 q3.length q3.length ∧ E 11 = .int .i64 (a0.length : Int) ∧ E 12 = .int .i64 q6 ∧ E 19 = .int .i64 (q3.length : Int) ∧ E 20 = .int .i64 q0b ∧ RepL (RpI .i64) q7 q0i q9 ∧ St w0 w (vec 87 (RpSl (RpI .i64)).sz (.slice q0c a0.length c_a0) a0.length q0f :: vec 87 (RpSl (RpI .i64)).sz (.slice q4 q2.length c_out5_L3h) q2.length q5 :: vec 2 (RpI .i64).sz (.slice A17 q3.length q3.length) q3.length q9 :: ro q7 :: l)) fuel ⟨cs17, q3, 0, hLL7, q1s, q2h, q1t, rfl, rfl, q1h, q0x, rfl, rfl, hr17, ((((hS.pull 3).pull 1).pull 3).pull 3)⟩ ?_
    rintro kL7 E w ⟨q9, q0i, q0b, hLL7, q19, q1u, q1v, q2i, q1w, q1i, q1j, q1k, q0y, q0w, hS⟩
    replace hLL7 := lp_s hLL7; obtain ⟨kL7, obL7, rfl, hFL7, hLL7⟩ := hLL7
    refine x_seq <| x_region <| p (yl_lss q0y q1k) <| x_done <|
     x_seq <|
     x_cond_p (q0b < (q3.length : Int)) rfl (fun hc21 => ?_) (fun hc21 => ?_)
    ·replace hFL7 := it_t hc21 hFL7
     refine x_skip <| x_seq <| x_block <| x_seq <|
      x_region <| p (yl_move q0y) <| p (yl_assign rfl) <| x_done <|
      x_seq <| x_region <| p (yl_move q19) <| p (yl_len_slice usl_75 rfl) <|
      p (yl_move rfl) <| x_done <| ?_
     replace hFL7 := bd_s hFL7; obtain ⟨oL10, hLL10, hFL7⟩ := hFL7
     refine x_join (fun E w => ∃ (q0e : List Value) (q0o : List Int), q0o = oL10 ∧ E 0 = .slice q0c a0.length c_a0 ∧ E 1 = .slice q0s b1.length c_b1 ∧ E 5 = .slice q4 q2.length c_out5_L3h ∧ E 6 = .int .i64 q6 ∧ E 7 = .slice A17 q3.length q3.length ∧ E 11 = .int .i64 (a0.length : Int) ∧ E 12 = .int .i64 q6 ∧ E 19 = .int .i64 (q3.length : Int) ∧ E 20 = .int .i64 q0b ∧ RepL (RpI .i64) q7 q0o q0e ∧ St w0 w (vec 87 (RpSl (RpI .i64)).sz (.slice q0c a0.length c_a0) a0.length q0f :: vec 87 (RpSl (RpI .i64)).sz (.slice q4 q2.length c_out5_L3h) q2.length q5 :: vec 2 (RpI .i64).sz (.slice A17 q3.length q3.length) q3.length q0e :: ro q7 :: l)) ?_ ?_
     ·refine x_block ?_
      refine x_loop (fun k_ E w => ∃ (q0d : List Value) (q0l : List Int) (q0p : Int), lp (P_maskkeep4_product_L10 a0 b1 q0b q6) k_ (q0l, q0p) = some oL10 ∧ E 0 = .slice q0c a0.length c_a0 ∧ E 1 = .slice q0s b1.length c_b1 ∧ E 5 = .slice q4 q2.length c_out5_L3h ∧ E 6 = .int .i64 q6 ∧ E 7 = .slice A17 q3.length q3.length ∧ E 8 = .int .i64 q0b ∧ E 11 = .int .i64 (a0.length : Int) ∧ E 12 = .int .i64 q6 ∧ E 19 = .int .i64 (q3.length : Int) ∧ E 20 = .int .i64 q0b ∧ E 24 = .int .i64 (a0.length : Int) ∧ E 25 = .int .i64 q0p ∧ RepL (RpI .i64) q7 q0l q0d ∧ St w0 w (vec 87 (RpSl (RpI .i64)).sz (.slice q0c a0.length c_a0) a0.length q0f :: vec 87 (RpSl (RpI .i64)).sz (.slice q4 q2.length c_out5_L3h) q2.length q5 :: vec 2 (RpI .i64).sz (.slice A17 q3.length q3.length) q3.length q0d :: ro q7 :: l)) fuel ⟨q9, q0i, 0, hLL10, q19, q1u, q1v, q2i, q1w, rfl, q1i, q1j, q1k, q0y, rfl, rfl, q0w, ((((hS.pull 3).pull 3).pull 3).pull 3)⟩ ?_
      rintro kL10 E w ⟨q0d, q0l, q0p, hLL10, q0z, q10, q1l, q11, q12, q13, q1a, q1b, q1c, q1d, q1e, q0u, q0a, hS⟩
      replace hLL10 := lp_s hLL10; obtain ⟨kL10, obL10, rfl, hFL10, hLL10⟩ := hLL10
      refine x_seq <| x_region <| p (yl_lss q0u q1e) <| x_done <|
       x_seq <|
       x_cond_p (q0p < (a0.length : Int)) rfl (fun hc26 => ?_) (fun hc26 => ?_)
      ·replace hFL10 := it_t hc26 hFL10
       replace hFL10 := ck_s hFL10; obtain ⟨q1x, hFL10⟩ := hFL10
       replace hFL10 := lv_s hFL10; obtain ⟨x31, hx31, hFL10⟩ := hFL10
       replace hFL10 := ck_s hFL10; obtain ⟨q1y, hFL10⟩ := hFL10
       replace hFL10 := lv_s hFL10; obtain ⟨q39, q2j, hFL10⟩ := hFL10
       have q_ := q23.get q1y; obtain ⟨q34, q1z, q2k⟩ := q_
       rw [← q2j] at q1z
       obtain ⟨q3a, q3b, q3c, rfl, q1q⟩ := q1z
       have e_ := q1q.n; subst e_
       replace hFL10 := ck_s hFL10; obtain ⟨q20, hFL10⟩ := hFL10
       replace hFL10 := lv_s hFL10; obtain ⟨x38, hx38, hFL10⟩ := hFL10
       replace hFL10 := ck_s hFL10; obtain ⟨q1m, hFL10⟩ := hFL10
       replace hFL10 := lv_s hFL10; obtain ⟨q35, q26, hFL10⟩ := hFL10
       have q_ := q24.get q1m; obtain ⟨q33, q1n, q27⟩ := q_
       rw [← q26] at q1n
       obtain ⟨q36, q37, q38, rfl, q1f⟩ := q1n
       have e_ := q1f.n; subst e_
       replace hFL10 := ck_s hFL10; obtain ⟨q1o, hFL10⟩ := hFL10
       replace hFL10 := lv_s hFL10; obtain ⟨x45, hx45, hFL10⟩ := hFL10
       replace hFL10 := ar_s hFL10; obtain ⟨x46, hx46, hFL10⟩ := hFL10
       replace hFL10 := ar_s hFL10; obtain ⟨x47, hx47, hFL10⟩ := hFL10
       replace hFL10 := ck_s hFL10; obtain ⟨q1p, hFL10⟩ := hFL10
       refine x_skip <| x_seq <| x_block <| x_seq <|
        x_region <| p (yl_move q0u) <| p (yl_assign rfl) <| x_done <|
        x_head 21 mixed (by kernel_rfl) hS _ _ rfl rfl <| q (yl_move q12) <| q (yl_move q13) <| q (yix_o sl_87 rfl rfl (hS.pull 2) q0a q1x) <|
        qa (fun w' hS => at_load one_2 rfl (RepL.getW q0a (hS.pull 2) q1x hx31)) <| q (yl_move q0z) <| q (yl_move q11) <| q (yix_o sl_75 rfl rfl hS q23 q1y) <|
        qa (fun w' hS => at_load one_87 rfl (EltV.ld (m := 0) q2k hS rfl)) <| q (yl_move rfl) <| q (yix_f sl_87 rfl rfl (q1q.le q8) q20) <| qa (fun w' hS => at_load one_2 rfl (RdS.getW (q1q.le q8) (hS.pull 3) q20 hx38)) <|
        q (yl_move q10) <| q (yl_move rfl) <| q (yix_f sl_75 rfl rfl (q24.le q8) q1m) <| qa (fun w' hS => at_load one_87 rfl (Elt.ld (j := 0) (Elt.le q27 q8) (hS.pull 3) rfl)) <|
        q (yl_move q13) <| q (yix_f sl_87 rfl rfl (q1f.le q8) q1o) <| qa (fun w' hS => at_load one_2 rfl (RdS.getW (q1f.le q8) (hS.pull 3) q1o hx45)) <| q (ymul rfl rfl hx46) <|
        q (yadd rfl rfl hx47) <| q (yix_o sl_87 rfl rfl (hS.pull 2) q0a q1p) <|
        q_done fun w' hS => ?_
       replace hFL10 := lv_s hFL10; obtain ⟨q2l, q28, hFL10⟩ := hFL10
       refine o_put' (news := [.int .i64 x47]) sz_2 rfl rfl rfl rfl (o := 0) rfl q1p rfl (hS.pull 2) q0a (Le.refl _) (fun c hc => ok_all hc (show (RpI .i64).ok q7 [.int .i64 x47] x47 from rfl)) q28 (fun q29 w' q2a hS => ?_)
       replace hFL10 := ar_s hFL10; obtain ⟨x49, hx49, hFL10⟩ := hFL10
       refine x_done <| x_blk <| x_region <| p (yadd q0u rfl hx49) <|
        p (yl_move rfl) <| x_done <| ?_
       have e_ := Option.some.inj (show some _ = some _ from hFL10); subst e_
       exact x_inv ⟨kL10, Nat.lt_succ_self _, q29, q2l, x49, hLL10, q0z, q10, q1l, q11, q12, q13, q1a, q1b, q1c, q1d, q1e, rfl, q2a, ((((hS.pull 3).pull 1).pull 3).pull 3)⟩
      ·replace hFL10 := it_f hc26 hFL10
       refine x_exitTo _ rfl <| ?_
       have e_ := Option.some.inj (show some _ = some _ from hFL10); subst e_
       exact x_inv ⟨q0d, q0l, hLL10, q0z, q10, q1l, q11, q12, q1a, q1b, q1c, q1d, q0a, ((((hS.pull 3).pull 3).pull 3).pull 3)⟩
     rintro E w ⟨q0e, q0o, rfl, q2m, q2n, q2o, q2p, q2q, q2b, q2c, q2d, q2e, q1r, hS⟩
     replace hFL7 := ar_s hFL7; obtain ⟨x50, hx50, hFL7⟩ := hFL7
     refine x_blk <| x_region <| p (yadd q2e rfl hx50) <| p (yl_move rfl) <|
      x_done <| ?_
     have e_ := Option.some.inj (show some _ = some _ from hFL7); subst e_
     exact x_inv ⟨kL7, Nat.lt_succ_self _, q0e, q0o, x50, hLL7, q2m, q2n, q2o, q2p, q2q, q2b, q2c, q2d, rfl, q1r, ((((hS.pull 3).pull 3).pull 3).pull 3)⟩
    ·replace hFL7 := it_f hc21 hFL7
     refine x_exitTo _ rfl <| ?_
     have e_ := Option.some.inj (show some _ = some _ from hFL7); subst e_
     exact x_inv ⟨q9, q0i, hLL7, q19, q1u, q1v, q1w, q1i, q1j, q0w, ((((hS.pull 3).pull 3).pull 3).pull 3)⟩
   rintro E w ⟨q0n, q0r, rfl, q2y, q2z, q30, q31, q2r, q2s, q21, hS⟩
   refine x_region <| p (yl_move q30) <| p (yl_move q31) <| ?_
   have q_ := St.vec_fz ((hS.pull 3).pull 3) q21; obtain ⟨q22, q1g, q2t, hS⟩ := q_
   refine o_buildSlice (vs := [.slice A17 q3.length q3.length]) (cs := [.slice A17 q3.length q3.length]) sl_75 zero_87 (parts_eq (pt (va := .slice A17 q3.length q3.length) rfl pt0)) rfl (by intro v hv; simp only [List.mem_cons, List.not_mem_nil, or_false] at hv; first | (subst hv; rfl) | (rcases hv with rfl <;> rfl)) (by decide) rfl hS (fun b53 w' hS => ?_)
   replace hFL3 := lv_s hFL3; obtain ⟨q25, q2u, hFL3⟩ := hFL3
   replace hFL3 := ck_s hFL3; obtain ⟨q2v, hFL3⟩ := hFL3
   refine o_ap sl_75 zero_87 rfl (by decide) rfl rfl (hS.pull 3) (q0m.le q1g) (src_blk usl_75 hS rfl rfl) (RepL.cons (R := (RpSl (RpI .i64))) (ρ := q22) (x := q0r) (cs := [.slice A17 q3.length q3.length]) ⟨_, _, _, rfl, q2t⟩ RepL.nil) q2u q2v (fun A54 c54 cs54 w' hr54 hS => ?_)
   replace hFL3 := ar_s hFL3; obtain ⟨x55, hx55, hFL3⟩ := hFL3
   refine p (yl_assign rfl) <| x_done <| x_blk <| x_region <|
    p (yadd q2s rfl hx55) <| p (yl_move rfl) <| x_done <| ?_
   have e_ := Option.some.inj (show some _ = some _ from hFL3); subst e_
   exact x_inv ⟨kL3, Nat.lt_succ_self _, q22, A54, q25.length, c54, cs54, q25, x55, hLL3, (q8.trans q1g), q2y, q2z, rfl, q2r, rfl, hr54, ((((hS.pull 1).drop.pull 1).pull 1).pull 2)⟩
  ·replace hFL3 := it_f hc13 hFL3
   refine x_exitTo _ rfl <| ?_
   have e_ := Option.some.inj (show some _ = some _ from hFL3); subst e_
   exact x_inv ⟨q7, q4, q2.length, c_out5_L3h, q5, q2, hLL3, q8, q1t, q0m, (((hS.pull 2).pull 1).pull 2)⟩
 rintro E w ⟨q18, q0j, q0k, c_out5_L3, q0g, q0q, rfl, q2f, q32, q15, hS⟩
 have e_ := St.vec_n hS q15; subst e_
 refine x_seq <| x_region <| p (yl_move q32) <| p (yl_assign rfl) <|
  x_done <| ?_
 have e_ := Option.some.inj (show some _ = some _ from hF); subst e_
 exact x_return ⟨_, ⟨_, _, rfl, rfl, rfl⟩, q18, q0j, q0q.length, c_out5_L3, q0g, rfl, q2f, q15, (((hS.pull 2).pull 2).pull 2)⟩
attribute [irreducible] P_maskkeep4_product

def P_exact_Rank_L7 (q9 : List Int) : (Int × List (List T_exact_Int) × Bool × List Int × Bool × Int) → Option ((Int × List (List T_exact_Int) × Bool × List Int × Bool × Int) ⊕ (List (List T_exact_Int) × Bool × List Int × Bool × Int)) := fun (q7, q2, q3, q4, q5, q6) =>
 if q7 < (q9.length : Int) then
  bd (P_exact_table_pivot (T_exact_table.mk q2 (T_exact_Int.mk q3 q4) q5 q6) q7 false) fun q8 =>
  ar (q7 + 1) fun x27 =>
  some (Sum.inl (x27, q8.2.1, q8.2.2.1, q8.2.2.2.1, q8.2.2.2.2.1, q8.2.2.2.2.2))
 else
  some (Sum.inr (q2, q3, q4, q5, q6))
def P_exact_Rank (a0 : List (List Int)) : Option (Int × Int) :=
 bd (P_exact_CheckMatrix_2 a0) fun q0d =>
 if q0d ≠ 0 then
  some ((0 : Int), q0d)
 else
  bd (P_exact_begin_2 a0 []) fun q8 =>
  bd (
   if 0 < (a0.length : Int) then
    ck (inb 0 a0.length) <|
    lv (gt a0 (0 : Int)) fun q0e =>
    bd (
     lp (P_exact_Rank_L7 q0e) fuel (0, q8.1, q8.2.1, q8.2.2, false, 0)) fun (q3, q4, q5, q6, q7) =>
    some (q3, q4, q5, q6, q7)
   else
    some (q8.1, q8.2.1, q8.2.2, false, (0 : Int))) fun (q9, q0a, q0b, q0c, q2) =>
  some (q2, (0 : Int))
set_option maxHeartbeats 4000000 in
set_option maxRecDepth 100000 in
theorem c_exact_Rank {w0 w : World} {l : List Assn} {ρ : Heap} {q1b : Option Addr} {q1f : Nat} {c_a0 : Nat} {q14 : List Value} {a0 : List (List Int)} {r : (Int × Int)} (hF : P_exact_Rank a0 = some r) (q1g : RepL (RpSl (RpI .i64)) ρ a0 q14) (hS : St w0 w (vec 87 (RpSl (RpI .i64)).sz (.slice q1b q1f c_a0) q1f q14 :: ro ρ :: l)) :
  Calls Try.prog 42 #[.slice q1b q1f c_a0] w fun e w' => e = .returned (.tuple #[.int .i64 r.1, .int .i64 r.2]) ∧ St w0 w' (vec 87 (RpSl (RpI .i64)).sz (.slice q1b q1f c_a0) q1f q14 :: ro ρ :: l) := by
 have e_ := St.vec_n hS q1g; subst e_
 refine enterC Try.func42 rfl 32 rfl (by simp) ?_
 replace hF := bd_s hF; obtain ⟨q1h, q1y, hF⟩ := hF
 refine x_seq <| x_region <| p (yl_assign rfl) <| p (yl_assign rfl) <|
  x_done <| x_seq <| x_seq <| x_region <|
  p (yl_move rfl) <| ?_
 have hcall := c_exact_CheckMatrix_2 q1y q1g hS
 refine o_cc call_92 (args1 rfl) (hcall) ?_
 rintro e w' ⟨rfl, hS⟩
 refine ⟨_, rfl, ?_⟩
 refine p (v := .int .i64 q1h) (yl_assign rfl) <| x_done <| x_seq <| x_region <|
  p (v := .int .i64 q1h) (yl_move rfl) <| p (yl_neq rfl rfl) <| x_done <|
  x_cond_p (q1h ≠ 0) rfl (fun hc10 => ?_) (fun hc10 => ?_)
 ·replace hF := it_t hc10 hF
  refine x_seq <| x_region <| p (v := .int .i64 q1h) (yl_move rfl) <| p (yl_assign rfl) <|
   p (v := .int .i64 q1h) (yl_assign rfl) <| x_done <| ?_
  have e_ := Option.some.inj (show some _ = some _ from hF); subst e_
  exact x_return ⟨_, ⟨_, _, rfl, rfl, _, _, rfl, rfl, rfl⟩, rfl, ((hS.pull 1).pull 1)⟩
 ·replace hF := it_f hc10 hF
  replace hF := bd_s hF; obtain ⟨q0q, q1z, hF⟩ := hF
  refine x_skip <| x_seq <| x_region <| p (yl_move rfl) <| ?_
  have hcall := c_exact_begin_2 q1z q1g (RdS.nil (A := none) (c := 0)) ((hS.pull 1).pull 1)
  refine o_cc call_86 (args2 rfl rfl) hcall ?_
  rintro e w' ⟨q13, q0h, q2, q1l, c_b_y0_ret_0_ret_4_1, q0w, q0x, q1m, c_b_y0_ret_2_ret_4_1, rfl, q1u, q0j, q0k, hS⟩
  refine ⟨_, rfl, ?_⟩
  have e_ := St.vec_n (hS.pull 1) q0j; subst e_
  have e_ := q0k.n; subst e_
  refine p (yl_assign rfl) <| x_done <| x_seq <| x_seq <|
   x_region <| p (yl_move rfl) <| p (yl_len_slice usl_75 rfl) <| p (yl_gtr rfl rfl) <|
   x_done <| ?_
  replace hF := bd_s hF; obtain ⟨oc16, hFc16, hF⟩ := hF
  refine x_join (fun E w => ∃ (q1a : Heap) (q0i : List Value) (q0l : Option Addr) (q0m : Nat) (c_b_y0_ret_4_1_2_c16 : Nat) (q0r : List (List T_exact_Int)) (q0s : Bool) (q0t : List Int) (q0u : Bool) (q0v : Int), (q0r, q0s, q0t, q0u, q0v) = oc16 ∧ Le q13 q1a ∧ E 5 = .pointer (some ⟨q0h, 0, none⟩) ∧ RepL (RpSl R_exact_Int) q1a q0r q0i ∧ RdS (RpI .u32) q1a q0l q0m c_b_y0_ret_4_1_2_c16 q0t ∧ St w0 w (cells q0h 150 [.slice q2 q0q.1.length c_b_y0_ret_0_ret_4_1, .bool q0s, .slice q0l q0m c_b_y0_ret_4_1_2_c16, .bool q0u, .int .i64 q0v] :: vec 155 (RpSl R_exact_Int).sz (.slice q2 q0q.1.length c_b_y0_ret_0_ret_4_1) q0q.1.length q0i :: vec 87 (RpSl (RpI .i64)).sz (.slice q1b a0.length c_a0) a0.length q14 :: ro q1a :: l)) ?_ ?_
  ·refine x_cond_p (0 < (a0.length : Int)) rfl (fun hc16 => ?_) (fun hc16 => ?_)
   ·replace hFc16 := it_t hc16 hFc16
    replace hFc16 := ck_s hFc16; obtain ⟨q1r, hFc16⟩ := hFc16
    replace hFc16 := lv_s hFc16; obtain ⟨q1o, q20, hFc16⟩ := hFc16
    have q_ := q1g.get q1r; obtain ⟨q25, q1s, q21⟩ := q_
    rw [← q20] at q1s
    obtain ⟨q26, q27, q28, rfl, q24⟩ := q1s
    have e_ := q24.n; subst e_
    refine x_seq <| x_region <| p (yl_move rfl) <| p (yix_o sl_75 rfl rfl (hS.pull 2) q1g q1r) <|
     pa (at_load one_87 rfl (EltV.ld (m := 0) q21 (hS.pull 2) rfl)) <| p (yl_len_slice usl_87 rfl) <| p (yl_move rfl) <| x_done <| ?_
    replace hFc16 := bd_s hFc16; obtain ⟨oL7, hLL7, hFc16⟩ := hFc16
    refine x_join (fun E w => ∃ (q1c : Heap) (q6 : List Value) (q8 : Option Addr) (q0p : Nat) (c_b_y0_ret_4_1_2_L7 : Nat) (q0d : List (List T_exact_Int)) (q0e : Bool) (q5 : List Int) (q0f : Bool) (q0g : Int), (q0d, q0e, q5, q0f, q0g) = oL7 ∧ Le q13 q1c ∧ E 5 = .pointer (some ⟨q0h, 0, none⟩) ∧ RepL (RpSl R_exact_Int) q1c q0d q6 ∧ RdS (RpI .u32) q1c q8 q0p c_b_y0_ret_4_1_2_L7 q5 ∧ St w0 w (cells q0h 150 [.slice q2 q0q.1.length c_b_y0_ret_0_ret_4_1, .bool q0e, .slice q8 q0p c_b_y0_ret_4_1_2_L7, .bool q0f, .int .i64 q0g] :: vec 155 (RpSl R_exact_Int).sz (.slice q2 q0q.1.length c_b_y0_ret_0_ret_4_1) q0q.1.length q6 :: vec 87 (RpSl (RpI .i64)).sz (.slice q1b a0.length c_a0) a0.length q14 :: ro q1c :: l)) ?_ ?_
    ·refine x_block ?_
     refine x_loop (fun k_ E w => ∃ (q15 : Heap) (q4 : List Value) (q7 : Option Addr) (q0n : Nat) (c_b_y0_ret_4_1_2_L7h : Nat) (q16 : Int) (q9 : List (List T_exact_Int)) (q0a : Bool) (q3 : List Int) (q0b : Bool) (q0c : Int), lp (P_exact_Rank_L7 q1o) k_ (q16, q9, q0a, q3, q0b, q0c) = some oL7 ∧ Le q13 q15 ∧ E 5 = .pointer (some ⟨q0h, 0, none⟩) ∧ E 20 = .int .i64 (q1o.length : Int) ∧ E 21 = .int .i64 q16 ∧ RepL (RpSl R_exact_Int) q15 q9 q4 ∧ RdS (RpI .u32) q15 q7 q0n c_b_y0_ret_4_1_2_L7h q3 ∧ St w0 w (cells q0h 150 [.slice q2 q0q.1.length c_b_y0_ret_0_ret_4_1, .bool q0a, .slice q7 q0n c_b_y0_ret_4_1_2_L7h, .bool q0b, .int .i64 q0c] :: vec 155 (RpSl R_exact_Int).sz (.slice q2 q0q.1.length c_b_y0_ret_0_ret_4_1) q0q.1.length q4 :: vec 87 (RpSl (RpI .i64)).sz (.slice q1b a0.length c_a0) a0.length q14 :: ro q15 :: l)) fuel ⟨q13, q0w, q0x, q0q.2.2.length, c_b_y0_ret_2_ret_4_1, 0, q0q.1, q0q.2.1, q0q.2.2, false, 0, hLL7, (Le.refl _), rfl, rfl, rfl, q0j, q0k, ((((hS.pull 3).pull 3).pull 3).pull 3)⟩ ?_
     rintro kL7 E w ⟨q15, q4, q7, q0n, c_b_y0_ret_4_1_2_L7h, q16, q9, q0a, q3, q0b, q0c, hLL7, q1i, q1j, q1k, q1d, q0y, q0o, hS⟩
     have e_ := q0o.n; subst e_
     replace hLL7 := lp_s hLL7; obtain ⟨kL7, obL7, rfl, hFL7, hLL7⟩ := hLL7
     refine x_seq <| x_region <| p (yl_lss q1d q1k) <| x_done <|
      x_seq <|
      x_cond_p (q16 < (q1o.length : Int)) rfl (fun hc22 => ?_) (fun hc22 => ?_)
     ·replace hFL7 := it_t hc22 hFL7
      replace hFL7 := bd_s hFL7; obtain ⟨q1e, q22, hFL7⟩ := hFL7
      refine x_skip <| x_seq <| x_block <| x_seq <|
       x_region <| p (yl_move q1d) <| p (yl_assign rfl) <| x_done <|
       x_region <| p (yl_move q1j) <| p (yl_move rfl) <| ?_
      have hcall := c_exact_table_pivot q22 q0y q0o (((hS.pull 3).pull 2).pull 2)
      refine o_cc call_87 (args3 rfl rfl rfl) hcall ?_
      rintro e w' ⟨q1v, q17, q18, q1p, c_b_t0_2_ret_9_2, rfl, q1w, q19, q10, hS⟩
      refine ⟨_, rfl, ?_⟩
      have e_ := q10.n; subst e_
      replace hFL7 := ar_s hFL7; obtain ⟨x27, hx27, hFL7⟩ := hFL7
      refine x_done <| x_blk <| x_region <| p (yadd q1d rfl hx27) <|
       p (yl_move rfl) <| x_done <| ?_
      have e_ := Option.some.inj (show some _ = some _ from hFL7); subst e_
      exact x_inv ⟨kL7, Nat.lt_succ_self _, q1v, q17, q18, q1e.2.2.2.1.length, c_b_t0_2_ret_9_2, x27, q1e.2.1, q1e.2.2.1, q1e.2.2.2.1, q1e.2.2.2.2.1, q1e.2.2.2.2.2, hLL7, (q1i.trans q1w), q1j, q1k, rfl, q19, q10, ((((hS.pull 2).pull 3).pull 3).pull 3)⟩
     ·replace hFL7 := it_f hc22 hFL7
      refine x_exitTo _ rfl <| ?_
      have e_ := Option.some.inj (show some _ = some _ from hFL7); subst e_
      exact x_inv ⟨q15, q4, q7, q3.length, c_b_y0_ret_4_1_2_L7h, q9, q0a, q3, q0b, q0c, hLL7, q1i, q1j, q0y, q0o, ((((hS.pull 3).pull 3).pull 3).pull 3)⟩
    rintro E w ⟨q1c, q6, q8, q0p, c_b_y0_ret_4_1_2_L7, q0d, q0e, q5, q0f, q0g, rfl, q1t, q23, q12, q0z, hS⟩
    have e_ := q0z.n; subst e_
    exact x_inv ⟨q1c, q6, q8, q5.length, c_b_y0_ret_4_1_2_L7, q0d, q0e, q5, q0f, q0g, (Option.some.inj (show some _ = some _ from hFc16)), q1t, q23, q12, q0z, ((((hS.pull 3).pull 3).pull 3).pull 3)⟩
   ·replace hFc16 := it_f hc16 hFc16
    refine x_skip <| ?_
    exact x_inv ⟨q13, q0w, q0x, q0q.2.2.length, c_b_y0_ret_2_ret_4_1, q0q.1, q0q.2.1, q0q.2.2, false, 0, (Option.some.inj (show some _ = some _ from hFc16)), (Le.refl _), rfl, q0j, q0k, ((((hS.pull 3).pull 3).pull 3).pull 3)⟩
  rintro E w ⟨q1a, q0i, q0l, q0m, c_b_y0_ret_4_1_2_c16, q0r, q0s, q0t, q0u, q0v, rfl, q1q, q1x, q1n, q11, hS⟩
  have e_ := q11.n; subst e_
  refine x_seq <| x_region <| p (yl_move q1x) <| p (yl_nilCheck rfl) <|
   p (yl_field0 fld_150_3 rfl) <| pa (at_load one_3 rfl (hS.cell rfl)) <| p (yl_assign rfl) <| p (yl_assign rfl) <|
   x_done <| ?_
  have e_ := Option.some.inj (show some _ = some _ from hF); subst e_
  exact x_return ⟨_, ⟨_, _, rfl, rfl, _, _, rfl, rfl, rfl⟩, rfl, (ro_back1 (q1u.trans q1q) ((hS.drop.drop.pull 1).pull 1))⟩
attribute [irreducible] P_exact_Rank

def P_maskkeep4_ExactProducts (l_0 : List Int) : Option Bool :=
 bd (P_maskmake_Stream_Range (T_maskmake_Stream.mk l_0 0) 1 10) fun q5 =>
 bd (P_maskkeep4_matrix (T_maskmake_Stream.mk l_0 q5.2) q5.1) fun q2 =>
 bd (P_maskkeep4_matrix (T_maskmake_Stream.mk l_0 q2.2) q5.1) fun q0b =>
 bd (P_exact_Det_2 q2.1) fun q7 =>
 bd (P_exact_Det q0b.1) fun q0e =>
 bd (P_maskkeep4_product q2.1 q0b.1) fun q0n =>
 bd (P_exact_Det q0n) fun q0f =>
 bd (P_exact_Mul q7.1 q0e.1) fun q0g =>
 bd (P_maskkeep4_exacts) fun q0o =>
 lv ((!q0o) || (decide (q7.2 ≠ 0))) fun x58 =>
 lv (x58 || (decide (q0e.2 ≠ 0))) fun x62 =>
 lv (x62 || (decide (q0f.2 ≠ 0))) fun x66 =>
 lv (x66 || (decide (q0g.2 ≠ 0))) fun x70 =>
 bd (gd (!x70) (P_exact_Cmp q0g.1 q0f.1)) fun q0k =>
 lv (x70 || (decide (q0k ≠ 0))) fun x76 =>
 if x76 = true then
  some false
 else
  bd (P_exact_Rank q2.1) fun q0c =>
  bd (P_maskmake_Stream_Next (T_maskmake_Stream.mk l_0 q0b.2) q5.1) fun q3 =>
  bd (P_maskmake_Stream_Next (T_maskmake_Stream.mk l_0 q3.2) q5.1) fun q4 =>
  ck (inb q4.1 q2.1.length) <|
  lv (gt q2.1 q4.1) fun q0l =>
  ck (inb q3.1 q2.1.length) <|
  lv (gt q2.1 q3.1) fun q0h =>
  ck (inb q3.1 q2.1.length) <|
  lv (stt q2.1 q3.1 q0l) fun q0a =>
  ck (inb q4.1 q0a.length) <|
  lv (stt q0a q4.1 q0h) fun q0i =>
  bd (P_exact_Det_2 q0i) fun q6 =>
  bd (
   if q3.1 ≠ q4.1 then
    bd (P_exact_Neg q6.1) fun q0d =>
    some (q0d.fneg, q0d.fmag)
   else
    some (q6.1.fneg, q6.1.fmag)) fun (q8, q9) =>
  lv ((decide (q0c.2 = 0)) && (decide (q6.2 = 0))) fun x117 =>
  bd (gd (x117) (P_exact_Cmp q7.1 (T_exact_Int.mk q8 q9))) fun q0m =>
  lv (x117 && (decide (q0m = 0))) fun x123 =>
  bd (gd (x123) (P_exact_Sign q7.1)) fun q0j =>
  lv (x123 && ((decide (q0c.1 = q5.1)) == (decide (q0j ≠ 0)))) fun x132 =>
  some x132
set_option maxHeartbeats 4000000 in
set_option maxRecDepth 100000 in
theorem c_maskkeep4_ExactProducts {w0 w : World} {l : List Assn} {ρ : Heap} {q1j : Option Addr} {q2d : Nat} {c_l_0 : Nat} {l_0 : List Int} {r : Bool} (hF : P_maskkeep4_ExactProducts l_0 = some r) (q1k : RdS (RpI .i64) ρ q1j q2d c_l_0 l_0) (hS : St w0 w (ro ρ :: l)) :
  Calls Try.prog 8 #[.slice q1j q2d c_l_0] w fun e w' => e = .returned (.bool r) ∧ St w0 w' (ro ρ :: l) := by
 have e_ := q1k.n; subst e_
 refine enterC Try.func8 rfl 133 rfl (by simp) ?_
 refine x_seq <| x_region <| p (yl_assign rfl) <| x_done <|
  x_seq <| x_region <| p (yl_move rfl) <| p (v := .agg #[.slice q1j l_0.length c_l_0, .int .i64 0]) (yl_build bld_25 bldf_25 (parts_eq (pt (va := .slice q1j l_0.length c_l_0) rfl pt0)) (by kernel_rfl)) <| ?_
 refine o_box (cs := [.slice q1j l_0.length c_l_0, .int .i64 0]) rfl rfl hS (fun b21 w' hS => ?_)
 replace hF := bd_s hF; obtain ⟨q26, q3b, hF⟩ := hF
 refine p (yl_assign rfl) <| x_done <| x_seq <| x_region <|
  p (yl_move rfl) <| ?_
 have hcall := c_maskmake_Stream_Range q3b q1k ((hS.pull 1).pull 1)
 refine o_cc call_20 (args3 rfl rfl rfl) hcall ?_
 rintro e w' ⟨rfl, hS⟩
 refine ⟨_, rfl, ?_⟩
 replace hF := bd_s hF; obtain ⟨q4, q3c, hF⟩ := hF
 refine p (yl_assign rfl) <| x_done <| x_seq <| x_region <|
  p (yl_move rfl) <| p (yl_move rfl) <| ?_
 have hcall := c_maskkeep4_matrix q3c q1k ((hS.pull 1).pull 1)
 refine o_cc call_36 (args2 rfl rfl) hcall ?_
 rintro e w' ⟨q14, q2, q2w, c_y0_ret_3_2, q7, rfl, q1b, q5, hS⟩
 refine ⟨_, rfl, ?_⟩
 have e_ := St.vec_n hS q5; subst e_
 replace hF := bd_s hF; obtain ⟨q40, q3d, hF⟩ := hF
 refine p (yl_move rfl) <| p (yl_move rfl) <| ?_
 have hcall := c_maskkeep4_matrix q3d (q1k.le q1b) ((hS.pull 2).pull 2)
 refine o_cc call_36 (args2 rfl rfl) hcall ?_
 rintro e w' ⟨q3m, q2x, q2y, c_y0_ret_3_5, q2u, rfl, q0l, q1c, hS⟩
 refine ⟨_, rfl, ?_⟩
 have e_ := St.vec_n hS q1c; subst e_
 replace hF := bd_s hF; obtain ⟨q0o, q3e, hF⟩ := hF
 refine p (yl_assign rfl) <| p (yl_assign rfl) <| x_done <| x_seq <|
  x_region <| p (yl_move rfl) <| ?_
 have hcall := c_exact_Det_2 q3e (q5.le q0l) ((hS.pull 2).pull 3)
 refine o_cc call_37 (args1 rfl) hcall ?_
 rintro e w' ⟨q3n, q8, q2j, c_y0_ret_1_4_1, rfl, q0m, q0j, hS⟩
 refine ⟨_, rfl, ?_⟩
 have e_ := q0j.n; subst e_
 refine p (yl_move rfl) <| p (yl_extract rfl rfl) <| p (yl_extract rfl rfl) <| ?_
 refine o_alloc zero_79 hS (fun b7 w' hS => ?_)
 refine o_storeAgg (news := [.bool q0o.1.fneg, .slice q8 q0o.1.fmag.length c_y0_ret_1_4_1]) agg_79 rfl rfl rfl (by simp [over_length]) hS (fun w' hS => ?_)
 refine p (yl_assign rfl) <| x_done <| x_seq <| x_region <|
  p (yl_move rfl) <| ?_
 have q_ := St.vec_fz ((hS.pull 2).pull 3) (q1c.le q0m); obtain ⟨q3v, q0a, q2e, hS⟩ := q_
 replace hF := bd_s hF; obtain ⟨q1d, q3f, hF⟩ := hF
 have hcall := c_exact_Det q3f q2e hS
 refine o_cc call_37 (args1 rfl) hcall ?_
 rintro e w' ⟨q3o, q0t, q2k, c_y0_ret_1_5_1, rfl, q0c, q15, hS⟩
 refine ⟨_, rfl, ?_⟩
 have e_ := q15.n; subst e_
 refine p (yl_move rfl) <| p (yl_extract rfl rfl) <| p (yl_extract rfl rfl) <| ?_
 refine o_alloc zero_79 hS (fun b9 w' hS => ?_)
 refine o_storeAgg (news := [.bool q1d.1.fneg, .slice q0t q1d.1.fmag.length c_y0_ret_1_5_1]) agg_79 rfl rfl rfl (by simp [over_length]) hS (fun w' hS => ?_)
 replace hF := bd_s hF; obtain ⟨q41, q3g, hF⟩ := hF
 refine p (yl_assign rfl) <| x_done <| x_seq <| x_region <|
  p (yl_move rfl) <| p (yl_move rfl) <| ?_
 have hcall := c_maskkeep4_product q3g (q5.le (((q0l.trans q0m).trans q0a).trans q0c)) (q2e.le q0c) ((hS.pull 1).pull 3)
 refine o_cc call_38 (args2 rfl rfl) hcall ?_
 rintro e w' ⟨q3p, q2z, q30, c_y0_ret_6_2, q2v, rfl, q0d, q1e, hS⟩
 refine ⟨_, rfl, ?_⟩
 have e_ := St.vec_n hS q1e; subst e_
 have q_ := St.vec_fz ((hS.pull 2).pull 1) q1e; obtain ⟨q3w, q0b, q3h, hS⟩ := q_
 replace hF := bd_s hF; obtain ⟨q1f, q3i, hF⟩ := hF
 have hcall := c_exact_Det q3i q3h hS
 refine o_cc call_37 (args1 rfl) hcall ?_
 rintro e w' ⟨q3q, q0u, q2l, c_y0_ret_1_6_3, rfl, q0e, q16, hS⟩
 refine ⟨_, rfl, ?_⟩
 have e_ := q16.n; subst e_
 refine p (yl_move rfl) <| p (yl_extract rfl rfl) <| p (yl_extract rfl rfl) <| ?_
 refine o_alloc zero_79 hS (fun b11 w' hS => ?_)
 refine o_storeAgg (news := [.bool q1f.1.fneg, .slice q0u q1f.1.fmag.length c_y0_ret_1_6_3]) agg_79 rfl rfl rfl (by simp [over_length]) hS (fun w' hS => ?_)
 replace hF := bd_s hF; obtain ⟨q1g, q3j, hF⟩ := hF
 refine p (yl_assign rfl) <| x_done <| x_seq <| x_region <|
  pa (v := .agg #[.bool q0o.1.fneg, .slice q8 q0o.1.fmag.length c_y0_ret_1_4_1]) (ld_sub agg_79 rfl rfl rfl (hS.pull 4)) <| pa (v := .agg #[.bool q1d.1.fneg, .slice q0t q1d.1.fmag.length c_y0_ret_1_5_1]) (ld_sub agg_79 rfl rfl rfl (hS.pull 3)) <| ?_
 have hcall := c_exact_Mul q3j (q0j.le ((((q0a.trans q0c).trans q0d).trans q0b).trans q0e)) (q15.le ((q0d.trans q0b).trans q0e)) (hS.pull 1)
 refine o_cc call_39 (args2 rfl rfl) hcall ?_
 rintro e w' ⟨q9, q0v, q2m, c_y0_ret_1_7_2, rfl, q0h, q17, hS⟩
 refine ⟨_, rfl, ?_⟩
 have e_ := q17.n; subst e_
 refine p (yl_move rfl) <| p (yl_extract rfl rfl) <| p (yl_extract rfl rfl) <| ?_
 refine o_alloc zero_79 hS (fun b13 w' hS => ?_)
 refine o_storeAgg (news := [.bool q1g.1.fneg, .slice q0v q1g.1.fmag.length c_y0_ret_1_7_2]) agg_79 rfl rfl rfl (by simp [over_length]) hS (fun w' hS => ?_)
 replace hF := bd_s hF; obtain ⟨q31, q3k, hF⟩ := hF
 refine p (yl_assign rfl) <| x_done <| x_seq <| x_seq <|
  x_region <| ?_
 have hcall := c_maskkeep4_exacts q3k  (hS.pull 1)
 refine o_cc call_40 args0 ((Calls.mono hcall (fun e w'' h => And.intro h.1 (((((((h.2.pull 6).pull 6).pull 6).pull 6).pull 6).pull 5).pull 6)))) ?_
 rintro e w' ⟨rfl, hS⟩
 refine ⟨_, rfl, ?_⟩
 replace hF := lv_s hF; obtain ⟨x58, hx58, hF⟩ := hF
 replace hF := lv_s hF; obtain ⟨x62, hx62, hF⟩ := hF
 replace hF := lv_s hF; obtain ⟨x66, hx66, hF⟩ := hF
 replace hF := lv_s hF; obtain ⟨x70, hx70, hF⟩ := hF
 replace hF := bd_s hF; obtain ⟨q2f, q32, hF⟩ := hF
 refine p (yl_not rfl) <| p (yl_move rfl) <| pg (v := .int .i64 q0o.2) 55 (c := !(!q31)) (says_f _) (fun hq => Yl.at (yl_move rfl)) <| pg (v := .bool (decide (q0o.2 ≠ 0))) 55 (c := !(!q31)) (says_f _) (fun hq => Yl.at (yl_neq (cv hq) rfl)) <|
  p (yor' rfl rfl (fun hc => (cv (t_not hc))) hx58) <| p (yl_move rfl) <| pg (v := .int .i64 q1d.2) 59 (c := !x58) (says_f _) (fun hq => Yl.at (yl_move rfl)) <| pg (v := .bool (decide (q1d.2 ≠ 0))) 59 (c := !x58) (says_f _) (fun hq => Yl.at (yl_neq (cv hq) rfl)) <|
  p (yor' rfl rfl (fun hc => (cv (t_not hc))) hx62) <| p (yl_move rfl) <| pg (v := .int .i64 q1f.2) 63 (c := !x62) (says_f _) (fun hq => Yl.at (yl_move rfl)) <| pg (v := .bool (decide (q1f.2 ≠ 0))) 63 (c := !x62) (says_f _) (fun hq => Yl.at (yl_neq (cv hq) rfl)) <|
  p (yor' rfl rfl (fun hc => (cv (t_not hc))) hx66) <| p (yl_move rfl) <| pg (v := .int .i64 q1g.2) 67 (c := !x66) (says_f _) (fun hq => Yl.at (yl_move rfl)) <| pg (v := .bool (decide (q1g.2 ≠ 0))) 67 (c := !x66) (says_f _) (fun hq => Yl.at (yl_neq (cv hq) rfl)) <|
  p (yor' rfl rfl (fun hc => (cv (t_not hc))) hx70) <| p (yl_move rfl) <| pg (v := .agg #[.bool q1g.1.fneg, .slice q0v q1g.1.fmag.length c_y0_ret_1_7_2]) 71 (c := !x70) (says_f _) (fun hq => ld_sub agg_79 rfl rfl rfl hS) <| pg (v := .agg #[.bool q1f.1.fneg, .slice q0u q1f.1.fmag.length c_y0_ret_1_6_3]) 71 (c := !x70) (says_f _) (fun hq => ld_sub agg_79 rfl rfl rfl (hS.pull 2)) <|
  pccg (v := .int .i64 q2f) 71 (c := !x70) (says_f _) call_41 (fun hq => (args2 (cv hq) (cv hq))) hS (fun hq => by
   have hcall := c_exact_Cmp (gd_t q32 hq) q17 (q16.le q0h) (hS.pull 1)
   exact (Calls.mono hcall (fun e w'' h => And.intro h.1 (((((((h.2.pull 6).pull 6).pull 6).pull 6).pull 6).pull 5).pull 6)))) (fun w' hS => ?_)
 replace hF := lv_s hF; obtain ⟨x76, hx76, hF⟩ := hF
 refine pg (v := .bool (decide (q2f ≠ 0))) 71 (c := !x70) (says_f _) (fun hq => Yl.at (yl_neq (cv hq) rfl)) <| p (yor' rfl rfl (fun hc => (cv (t_not hc))) hx76) <| x_done <|
  x_cond (t := x76) rfl (fun hc76 => ?_) (fun hc76 => ?_)
 ·replace hF := it_t hc76 hF
  refine x_seq <| x_region <| p (yl_assign rfl) <| x_done <| ?_
  have e_ := Option.some.inj (show some _ = some _ from hF); subst e_
  exact x_return ⟨_, ⟨_, _, rfl, rfl, rfl⟩, rfl, (ro_back0 ((((((((q1b.trans q0l).trans q0m).trans q0a).trans q0c).trans q0d).trans q0b).trans q0e).trans q0h) ((((((hS.drop.pull 1).drop.pull 1).drop.pull 1).drop.pull 1).drop.pull 1).drop))⟩
 ·replace hF := it_bf hc76 hF
  replace hF := bd_s hF; obtain ⟨q0x, q33, hF⟩ := hF
  refine x_skip <| x_seq <| x_region <| p (yl_move rfl) <| ?_
  have hcall := c_exact_Rank q33 (q5.le (((((((q0l.trans q0m).trans q0a).trans q0c).trans q0d).trans q0b).trans q0e).trans q0h)) ((hS.pull 1).pull 3)
  refine o_cc call_42 (args1 rfl) ((Calls.mono hcall (fun e w'' h => And.intro h.1 (((((((h.2.pull 6).pull 6).pull 6).pull 3).pull 6).pull 5).pull 6)))) ?_
  rintro e w' ⟨rfl, hS⟩
  refine ⟨_, rfl, ?_⟩
  replace hF := bd_s hF; obtain ⟨q0k, q34, hF⟩ := hF
  refine p (v := .tuple #[.int .i64 q0x.1, .int .i64 q0x.2]) (yl_move rfl) <| p (yl_extract rfl rfl) <| p (yl_extract rfl rfl) <| p (yl_assign rfl) <|
   p (yl_assign rfl) <| x_done <| x_seq <| x_region <|
   p (yl_move rfl) <| p (yl_move rfl) <| ?_
  have hcall := c_maskmake_Stream_Next q34 (q1k.le ((((((((q1b.trans q0l).trans q0m).trans q0a).trans q0c).trans q0d).trans q0b).trans q0e).trans q0h)) ((hS.pull 1).pull 6)
  refine o_cc call_12 (args2 rfl rfl) hcall ?_
  rintro e w' ⟨rfl, hS⟩
  refine ⟨_, rfl, ?_⟩
  replace hF := bd_s hF; obtain ⟨q0g, q35, hF⟩ := hF
  refine p (yl_move rfl) <| p (yl_move rfl) <| ?_
  have hcall := c_maskmake_Stream_Next q35 (q1k.le ((((((((q1b.trans q0l).trans q0m).trans q0a).trans q0c).trans q0d).trans q0b).trans q0e).trans q0h)) ((hS.pull 1).pull 1)
  refine o_cc call_12 (args2 rfl rfl) hcall ?_
  rintro e w' ⟨rfl, hS⟩
  refine ⟨_, rfl, ?_⟩
  refine p (yl_assign rfl) <| p (yl_assign rfl) <| x_done <| x_seq <| ?_
  replace hF := ck_s hF; obtain ⟨q27, hF⟩ := hF
  replace hF := lv_s hF; obtain ⟨q0n, q36, hF⟩ := hF
  replace hF := ck_s hF; obtain ⟨q1z, hF⟩ := hF
  replace hF := lv_s hF; obtain ⟨q0f, q2n, hF⟩ := hF
  replace hF := ck_s hF; obtain ⟨q20, hF⟩ := hF
  replace hF := lv_s hF; obtain ⟨q1h, q2o, hF⟩ := hF
  replace hF := ck_s hF; obtain ⟨q21, hF⟩ := hF
  replace hF := lv_s hF; obtain ⟨q1x, q2p, hF⟩ := hF
  refine x_par (w0 := w0) [⟨[], [], [88], [], [], []⟩, ⟨[], [], [89], [], [], []⟩, ⟨[], [], [90], [], [], []⟩, ⟨[], [], [91], [], [], []⟩, ⟨[], [], [92], [], [], []⟩, ⟨[], [], [93], [], [], []⟩, ⟨[4, 5], [4, 5], [94], [0], [], []⟩, ⟨[4, 5, 6], [6], [95], [0], [], []⟩, ⟨[], [], [96], [], [], []⟩, ⟨[], [], [97], [], [], []⟩, ⟨[8, 9], [8, 9], [98], [0], [], []⟩, ⟨[8, 9, 10], [10], [99], [0], [], []⟩, ⟨[0, 1, 4, 5, 6, 7, 8, 9, 10, 11], [0, 1], [100], [0], [], []⟩, ⟨[0, 1, 4, 5, 6, 7, 8, 9, 10, 11, 12], [7, 12], [], [1], [0], [2]⟩, ⟨[0, 1, 2, 3, 4, 5, 6, 7, 8, 9, 10, 11, 12, 13], [2, 3], [101], [1, 2], [], []⟩, ⟨[0, 1, 2, 3, 4, 5, 6, 7, 8, 9, 10, 11, 12, 13, 14], [11, 14], [], [1], [2], [3]⟩] [⟨none, (some 13), []⟩, ⟨none, none, []⟩, ⟨(some 13), (some 15), []⟩, ⟨(some 15), none, []⟩] [88, 89, 90, 91, 92, 93, 94, 95, 96, 97, 98, 99, 100, 101] [0, 1] [1, 3] [0, 1, 2, 3, 4, 5, 6, 7, 8, 9, 10, 11, 12, 14] [fun Ep12 => Ep12 88 = .slice q2 q4.1.length c_y0_ret_3_2, fun Ep12 => Ep12 89 = .int .i64 q0k.1, fun Ep12 => Ep12 90 = .slice q2 q4.1.length c_y0_ret_3_2, fun Ep12 => Ep12 91 = .int .i64 q0g.1, fun Ep12 => Ep12 92 = .slice q2 q4.1.length c_y0_ret_3_2, fun Ep12 => Ep12 93 = .int .i64 q0g.1, fun Ep12 => Ep12 94 = .pointer (some ((adr q2).add (q0g.1.toNat * (RpSl (RpI .i64)).sz))), fun Ep12 => Ep12 95 = .slice (adOf (Ep12 95)) q0n.length (capOf (Ep12 95)) ∧ RdS (RpI .i64) q14 (adOf (Ep12 95)) q0n.length (capOf (Ep12 95)) q0n, fun Ep12 => Ep12 96 = .slice q2 q4.1.length c_y0_ret_3_2, fun Ep12 => Ep12 97 = .int .i64 q0k.1, fun Ep12 => Ep12 98 = .pointer (some ((adr q2).add (q0k.1.toNat * (RpSl (RpI .i64)).sz))), fun Ep12 => Ep12 99 = .slice (adOf (Ep12 99)) q0f.length (capOf (Ep12 99)) ∧ RdS (RpI .i64) q14 (adOf (Ep12 99)) q0f.length (capOf (Ep12 99)) q0f, fun Ep12 => Ep12 100 = .pointer (some ((adr q2).add (q0k.1.toNat * (RpSl (RpI .i64)).sz))), fun Ep12 => True, fun Ep12 => Ep12 101 = .pointer (some ((adr q2).add (q0g.1.toNat * (RpSl (RpI .i64)).sz))), fun Ep12 => True] [fun Ep12 => vec 87 (RpSl (RpI .i64)).sz (.slice q2 q4.1.length c_y0_ret_3_2) q4.1.length q7, fun Ep12 => ro q9, fun Ep12 => bunA (fun (q3 : List Value) => RepL (RpSl (RpI .i64)) q9 q1h q3) (fun (q3 : List Value) => [vec 87 (RpSl (RpI .i64)).sz (.slice q2 q4.1.length c_y0_ret_3_2) q4.1.length q3]), fun Ep12 => bunA (fun (q6 : List Value) => RepL (RpSl (RpI .i64)) q9 q1x q6) (fun (q6 : List Value) => [vec 87 (RpSl (RpI .i64)).sz (.slice q2 q4.1.length c_y0_ret_3_2) q4.1.length q6])] mixed (by kernel_rfl) ((hS.pull 1).pull 4) ?_ ?_
  ·refine ⟨?_, ?_, ?_, ?_, ?_, ?_, ?_, ?_, ?_, ?_, ?_, ?_, ?_, ?_, ?_, ?_, trivial⟩
   ·intro Ep12 w l' hE12 hO12 hF_ hS
    refine p (yl_move (hE12 5 rfl)) <| x_done <| ?_
    refine x_fin ⟨⟨_, rfl⟩, rfl, ?_⟩
    exact Eq.mp (by kernel_rfl) hS
   ·intro Ep12 w l' hE12 hO12 hF_ hS
    refine p (yl_move (hE12 16 rfl)) <| x_done <| ?_
    refine x_fin ⟨⟨_, rfl⟩, rfl, ?_⟩
    exact Eq.mp (by kernel_rfl) hS
   ·intro Ep12 w l' hE12 hO12 hF_ hS
    refine p (yl_move (hE12 5 rfl)) <| x_done <| ?_
    refine x_fin ⟨⟨_, rfl⟩, rfl, ?_⟩
    exact Eq.mp (by kernel_rfl) hS
   ·intro Ep12 w l' hE12 hO12 hF_ hS
    refine p (yl_move (hE12 17 rfl)) <| x_done <| ?_
    refine x_fin ⟨⟨_, rfl⟩, rfl, ?_⟩
    exact Eq.mp (by kernel_rfl) hS
   ·intro Ep12 w l' hE12 hO12 hF_ hS
    refine p (yl_move (hE12 5 rfl)) <| x_done <| ?_
    refine x_fin ⟨⟨_, rfl⟩, rfl, ?_⟩
    exact Eq.mp (by kernel_rfl) hS
   ·intro Ep12 w l' hE12 hO12 hF_ hS
    refine p (yl_move (hE12 17 rfl)) <| x_done <| ?_
    refine x_fin ⟨⟨_, rfl⟩, rfl, ?_⟩
    exact Eq.mp (by kernel_rfl) hS
   ·intro Ep12 w l' hE12 hO12 hF_ hS
    obtain ⟨q1l, q1m, -⟩ := hF_
    replace q1l : Ep12 92 = .slice q2 q4.1.length c_y0_ret_3_2 := Eq.mp (by kernel_rfl) q1l
    replace q1m : Ep12 93 = .int .i64 q0g.1 := Eq.mp (by kernel_rfl) q1m
    replace hS : St w0 w (vec 87 (RpSl (RpI .i64)).sz (.slice q2 q4.1.length c_y0_ret_3_2) q4.1.length q7 :: l') := Eq.mp (by kernel_rfl) hS
    refine p (yix_o sl_75 q1l q1m hS q5 q27) <| x_done <| ?_
    refine x_fin ⟨⟨_, rfl⟩, rfl, ?_⟩
    exact Eq.mp (by kernel_rfl) hS
   ·intro Ep12 w l' hE12 hO12 hF_ hS
    obtain ⟨q1n, -⟩ := hF_
    replace q1n : Ep12 94 = .pointer (some ((adr q2).add (q0g.1.toNat * (RpSl (RpI .i64)).sz))) := Eq.mp (by kernel_rfl) q1n
    replace hS : St w0 w (vec 87 (RpSl (RpI .i64)).sz (.slice q2 q4.1.length c_y0_ret_3_2) q4.1.length q7 :: l') := Eq.mp (by kernel_rfl) hS
    have q_ := q5.get q27; obtain ⟨q3r, q28, q37⟩ := q_
    rw [← q36] at q28
    obtain ⟨q3x, q3y, q3z, rfl, q0p⟩ := q28
    have e_ := q0p.n; subst e_
    refine pa (at_load one_87 q1n (EltV.ld (m := 0) q37 hS rfl)) <| x_done <| ?_
    refine x_fin ⟨⟨_, rfl⟩, ⟨rfl, q0p⟩, ?_⟩
    exact Eq.mp (by kernel_rfl) hS
   ·intro Ep12 w l' hE12 hO12 hF_ hS
    refine p (yl_move (hE12 5 rfl)) <| x_done <| ?_
    refine x_fin ⟨⟨_, rfl⟩, rfl, ?_⟩
    exact Eq.mp (by kernel_rfl) hS
   ·intro Ep12 w l' hE12 hO12 hF_ hS
    refine p (yl_move (hE12 16 rfl)) <| x_done <| ?_
    refine x_fin ⟨⟨_, rfl⟩, rfl, ?_⟩
    exact Eq.mp (by kernel_rfl) hS
   ·intro Ep12 w l' hE12 hO12 hF_ hS
    obtain ⟨q1o, q1p, -⟩ := hF_
    replace q1o : Ep12 96 = .slice q2 q4.1.length c_y0_ret_3_2 := Eq.mp (by kernel_rfl) q1o
    replace q1p : Ep12 97 = .int .i64 q0k.1 := Eq.mp (by kernel_rfl) q1p
    replace hS : St w0 w (vec 87 (RpSl (RpI .i64)).sz (.slice q2 q4.1.length c_y0_ret_3_2) q4.1.length q7 :: l') := Eq.mp (by kernel_rfl) hS
    refine p (yix_o sl_75 q1o q1p hS q5 q1z) <| x_done <| ?_
    refine x_fin ⟨⟨_, rfl⟩, rfl, ?_⟩
    exact Eq.mp (by kernel_rfl) hS
   ·intro Ep12 w l' hE12 hO12 hF_ hS
    obtain ⟨q18, -⟩ := hF_
    replace q18 : Ep12 98 = .pointer (some ((adr q2).add (q0k.1.toNat * (RpSl (RpI .i64)).sz))) := Eq.mp (by kernel_rfl) q18
    replace hS : St w0 w (vec 87 (RpSl (RpI .i64)).sz (.slice q2 q4.1.length c_y0_ret_3_2) q4.1.length q7 :: l') := Eq.mp (by kernel_rfl) hS
    have q_ := q5.get q1z; obtain ⟨q3l, q22, q2q⟩ := q_
    rw [← q2n] at q22
    obtain ⟨q3s, q3t, q3u, rfl, q0i⟩ := q22
    have e_ := q0i.n; subst e_
    refine pa (at_load one_87 q18 (EltV.ld (m := 0) q2q hS rfl)) <| x_done <| ?_
    refine x_fin ⟨⟨_, rfl⟩, ⟨rfl, q0i⟩, ?_⟩
    exact Eq.mp (by kernel_rfl) hS
   ·intro Ep12 w l' hE12 hO12 hF_ hS
    obtain ⟨q1q, q1r, -⟩ := hF_
    replace q1q : Ep12 88 = .slice q2 q4.1.length c_y0_ret_3_2 := Eq.mp (by kernel_rfl) q1q
    replace q1r : Ep12 89 = .int .i64 q0k.1 := Eq.mp (by kernel_rfl) q1r
    replace hS : St w0 w (vec 87 (RpSl (RpI .i64)).sz (.slice q2 q4.1.length c_y0_ret_3_2) q4.1.length q7 :: l') := Eq.mp (by kernel_rfl) hS
    refine p (yix_o sl_75 q1q q1r hS q5 q20) <| x_done <| ?_
    refine x_fin ⟨⟨_, rfl⟩, rfl, ?_⟩
    exact Eq.mp (by kernel_rfl) hS
   ·intro Ep12 w l' hE12 hO12 hF_ hS
    obtain ⟨q0p, q19, -⟩ := hF_
    replace q0p : Ep12 95 = .slice (adOf (Ep12 95)) q0n.length (capOf (Ep12 95)) ∧ RdS (RpI .i64) q14 (adOf (Ep12 95)) q0n.length (capOf (Ep12 95)) q0n := Eq.mp (by kernel_rfl) q0p
    have q_ := id q0p; obtain ⟨-, q29⟩ := q_
    replace q19 : Ep12 100 = .pointer (some ((adr q2).add (q0k.1.toNat * (RpSl (RpI .i64)).sz))) := Eq.mp (by kernel_rfl) q19
    replace hS : St w0 w (ro q9 :: vec 87 (RpSl (RpI .i64)).sz (.slice q2 q4.1.length c_y0_ret_3_2) q4.1.length q7 :: l') := Eq.mp (by kernel_rfl) hS
    refine o_put' (news := [.slice (adOf (Ep12 95)) q0n.length (capOf (Ep12 95))]) sz_87 q19 q0p.1 rfl rfl (o := 0) rfl q20 rfl (hS.pull 1) q5 (((((((q0l.trans q0m).trans q0a).trans q0c).trans q0d).trans q0b).trans q0e).trans q0h) (fun c hc => ok_all hc (show (RpSl (RpI .i64)).ok q9 [.slice (adOf (Ep12 95)) q0n.length (capOf (Ep12 95))] q0n from ⟨_, _, _, rfl, (q29.le (((((((q0l.trans q0m).trans q0a).trans q0c).trans q0d).trans q0b).trans q0e).trans q0h))⟩)) q2o (fun q3 w' q10 hS => ?_)
    refine x_done <| ?_
    refine x_fin ⟨⟨undef, rfl⟩, trivial, ?_⟩
    replace hS := St.bun (Φ := (fun (q3 : List Value) => RepL (RpSl (RpI .i64)) q9 q1h q3)) (L := (fun (q3 : List Value) => [vec 87 (RpSl (RpI .i64)).sz (.slice q2 q4.1.length c_y0_ret_3_2) q4.1.length q3])) q3 q10 hS
    exact Eq.mp (by kernel_rfl) (hS.pull 1)
   ·intro Ep12 w l' hE12 hO12 hF_ hS
    obtain ⟨q1s, q1t, -⟩ := hF_
    replace q1s : Ep12 90 = .slice q2 q4.1.length c_y0_ret_3_2 := Eq.mp (by kernel_rfl) q1s
    replace q1t : Ep12 91 = .int .i64 q0g.1 := Eq.mp (by kernel_rfl) q1t
    replace hS : St w0 w (ro q9 :: bunA (fun (q3 : List Value) => RepL (RpSl (RpI .i64)) q9 q1h q3) (fun (q3 : List Value) => [vec 87 (RpSl (RpI .i64)).sz (.slice q2 q4.1.length c_y0_ret_3_2) q4.1.length q3]) :: l') := Eq.mp (by kernel_rfl) hS
    have q_ := St.unbun (hS.pull 1); obtain ⟨q3, q10, hS⟩ := q_
    refine p (yix_o sl_75 q1s q1t hS q10 q21) <| x_done <| ?_
    refine x_fin ⟨⟨_, rfl⟩, rfl, ?_⟩
    replace hS := St.bun (Φ := (fun (q3 : List Value) => RepL (RpSl (RpI .i64)) q9 q1h q3)) (L := (fun (q3 : List Value) => [vec 87 (RpSl (RpI .i64)).sz (.slice q2 q4.1.length c_y0_ret_3_2) q4.1.length q3])) q3 q10 hS
    exact Eq.mp (by kernel_rfl) (hS.pull 1)
   ·intro Ep12 w l' hE12 hO12 hF_ hS
    obtain ⟨q0i, q1a, -⟩ := hF_
    replace q0i : Ep12 99 = .slice (adOf (Ep12 99)) q0f.length (capOf (Ep12 99)) ∧ RdS (RpI .i64) q14 (adOf (Ep12 99)) q0f.length (capOf (Ep12 99)) q0f := Eq.mp (by kernel_rfl) q0i
    have q_ := id q0i; obtain ⟨-, q23⟩ := q_
    replace q1a : Ep12 101 = .pointer (some ((adr q2).add (q0g.1.toNat * (RpSl (RpI .i64)).sz))) := Eq.mp (by kernel_rfl) q1a
    replace hS : St w0 w (ro q9 :: bunA (fun (q3 : List Value) => RepL (RpSl (RpI .i64)) q9 q1h q3) (fun (q3 : List Value) => [vec 87 (RpSl (RpI .i64)).sz (.slice q2 q4.1.length c_y0_ret_3_2) q4.1.length q3]) :: l') := Eq.mp (by kernel_rfl) hS
    have q_ := St.unbun (hS.pull 1); obtain ⟨q3, q10, hS⟩ := q_
    refine o_put' (news := [.slice (adOf (Ep12 99)) q0f.length (capOf (Ep12 99))]) sz_87 q1a q0i.1 rfl rfl (o := 0) rfl q21 rfl hS q10 (Le.refl _) (fun c hc => ok_all hc (show (RpSl (RpI .i64)).ok q9 [.slice (adOf (Ep12 99)) q0f.length (capOf (Ep12 99))] q0f from ⟨_, _, _, rfl, (q23.le (((((((q0l.trans q0m).trans q0a).trans q0c).trans q0d).trans q0b).trans q0e).trans q0h))⟩)) q2p (fun q6 w' q1v hS => ?_)
    refine x_done <| ?_
    refine x_fin ⟨⟨undef, rfl⟩, trivial, ?_⟩
    replace hS := St.bun (Φ := (fun (q6 : List Value) => RepL (RpSl (RpI .i64)) q9 q1x q6)) (L := (fun (q6 : List Value) => [vec 87 (RpSl (RpI .i64)).sz (.slice q2 q4.1.length c_y0_ret_3_2) q4.1.length q6])) q6 q1v hS
    exact Eq.mp (by kernel_rfl) (hS.pull 1)
  intro Ep12 w' hE12 hF_ hS
  obtain ⟨q1q, q1r, q1s, q1t, q1l, q1m, q1n, q0p, q1o, q1p, q18, q0i, q19, q1a, -⟩ := hF_
  replace q1q : Ep12 88 = .slice q2 q4.1.length c_y0_ret_3_2 := Eq.mp (by kernel_rfl) q1q
  replace q1r : Ep12 89 = .int .i64 q0k.1 := Eq.mp (by kernel_rfl) q1r
  replace q1s : Ep12 90 = .slice q2 q4.1.length c_y0_ret_3_2 := Eq.mp (by kernel_rfl) q1s
  replace q1t : Ep12 91 = .int .i64 q0g.1 := Eq.mp (by kernel_rfl) q1t
  replace q1l : Ep12 92 = .slice q2 q4.1.length c_y0_ret_3_2 := Eq.mp (by kernel_rfl) q1l
  replace q1m : Ep12 93 = .int .i64 q0g.1 := Eq.mp (by kernel_rfl) q1m
  replace q1n : Ep12 94 = .pointer (some ((adr q2).add (q0g.1.toNat * (RpSl (RpI .i64)).sz))) := Eq.mp (by kernel_rfl) q1n
  replace q0p : Ep12 95 = .slice (adOf (Ep12 95)) q0n.length (capOf (Ep12 95)) ∧ RdS (RpI .i64) q14 (adOf (Ep12 95)) q0n.length (capOf (Ep12 95)) q0n := Eq.mp (by kernel_rfl) q0p
  have q_ := id q0p; obtain ⟨-, q29⟩ := q_
  replace q1o : Ep12 96 = .slice q2 q4.1.length c_y0_ret_3_2 := Eq.mp (by kernel_rfl) q1o
  replace q1p : Ep12 97 = .int .i64 q0k.1 := Eq.mp (by kernel_rfl) q1p
  replace q18 : Ep12 98 = .pointer (some ((adr q2).add (q0k.1.toNat * (RpSl (RpI .i64)).sz))) := Eq.mp (by kernel_rfl) q18
  replace q0i : Ep12 99 = .slice (adOf (Ep12 99)) q0f.length (capOf (Ep12 99)) ∧ RdS (RpI .i64) q14 (adOf (Ep12 99)) q0f.length (capOf (Ep12 99)) q0f := Eq.mp (by kernel_rfl) q0i
  have q_ := id q0i; obtain ⟨-, q23⟩ := q_
  replace q19 : Ep12 100 = .pointer (some ((adr q2).add (q0k.1.toNat * (RpSl (RpI .i64)).sz))) := Eq.mp (by kernel_rfl) q19
  replace q1a : Ep12 101 = .pointer (some ((adr q2).add (q0g.1.toNat * (RpSl (RpI .i64)).sz))) := Eq.mp (by kernel_rfl) q1a
  replace hS : St w0 w' (ro q9 :: bunA (fun (q6 : List Value) => RepL (RpSl (RpI .i64)) q9 q1x q6) (fun (q6 : List Value) => [vec 87 (RpSl (RpI .i64)).sz (.slice q2 q4.1.length c_y0_ret_3_2) q4.1.length q6]) :: (cells b21 25 [.slice q1j l_0.length c_l_0, .int .i64 q0g.2] :: cells b13 79 [.bool q1g.1.fneg, .slice q0v q1g.1.fmag.length c_y0_ret_1_7_2] :: cells b11 79 [.bool q1f.1.fneg, .slice q0u q1f.1.fmag.length c_y0_ret_1_6_3] :: cells b9 79 [.bool q1d.1.fneg, .slice q0t q1d.1.fmag.length c_y0_ret_1_5_1] :: cells b7 79 [.bool q0o.1.fneg, .slice q8 q0o.1.fmag.length c_y0_ret_1_4_1] :: l)) := Eq.mp (by kernel_rfl) hS
  have q_ := St.unbun (hS.pull 1); obtain ⟨q6, q1v, hS⟩ := q_
  replace hF := bd_s hF; obtain ⟨q0w, q38, hF⟩ := hF
  refine x_seq <| x_region <| p (yl_move (hE12 5 rfl)) <| ?_
  have hcall := c_exact_Det_2 q38 q1v ((hS.pull 1).pull 1)
  refine o_cc call_37 (args1 rfl) hcall ?_
  rintro e w' ⟨q24, q0q, q2g, c_y0_ret_1_13_1, rfl, q1w, q0r, hS⟩
  refine ⟨_, rfl, ?_⟩
  have e_ := q0r.n; subst e_
  refine p (yl_move rfl) <| p (yl_extract rfl rfl) <| p (yl_extract rfl rfl) <| ?_
  refine o_alloc zero_79 hS (fun b18 w' hS => ?_)
  refine o_storeAgg (news := [.bool q0w.1.fneg, .slice q0q q0w.1.fmag.length c_y0_ret_1_13_1]) agg_79 rfl rfl rfl (by simp [over_length]) hS (fun w' hS => ?_)
  refine p (yl_assign rfl) <| x_done <| x_seq <| x_seq <|
   x_region <| p (yl_move (hE12 16 rfl)) <| p (yl_move (hE12 17 rfl)) <| p (yl_neq rfl rfl) <|
   x_done <| ?_
  replace hF := bd_s hF; obtain ⟨oc109, hFc109, hF⟩ := hF
  refine x_join (fun E w => ∃ (q0s : Option Addr) (q11 : Nat) (c_b18_1_c109 : Nat) (q0y : Bool) (q0z : List Int), (q0y, q0z) = oc109 ∧ E 4 = .int .i64 q26.1 ∧ E 7 = .pointer (some ⟨b7, 0, none⟩) ∧ E 8 = .int .i64 q0x.2 ∧ E 10 = .int .i64 q0w.2 ∧ E 15 = .int .i64 q0x.1 ∧ E 18 = .pointer (some ⟨b18, 0, none⟩) ∧ RdS (RpI .u32) q24 q0s q11 c_b18_1_c109 q0z ∧ St w0 w (cells b7 79 [.bool q0o.1.fneg, .slice q8 q0o.1.fmag.length c_y0_ret_1_4_1] :: cells b18 79 [.bool q0y, .slice q0s q11 c_b18_1_c109] :: ro q24 :: l)) ?_ ?_
  ·refine x_cond_p (q0k.1 ≠ q0g.1) rfl (fun hc109 => ?_) (fun hc109 => ?_)
   ·replace hFc109 := it_t hc109 hFc109
    replace hFc109 := bd_s hFc109; obtain ⟨q1u, q39, hFc109⟩ := hFc109
    refine x_region <| pa (v := .agg #[.bool q0w.1.fneg, .slice q0q q0w.1.fmag.length c_y0_ret_1_13_1]) (ld_sub agg_79 rfl rfl rfl hS) <| ?_
    have hcall := c_exact_Neg q39 q0r (hS.pull 2)
    refine o_cc call_43 (args1 rfl) hcall ?_
    rintro e w' ⟨q12, q2h, c_y0_ret_1_15_1, rfl, q13, hS⟩
    refine ⟨_, rfl, ?_⟩
    have e_ := q13.n; subst e_
    refine o_storeAgg (news := [.bool q1u.fneg, .slice q12 q1u.fmag.length c_y0_ret_1_15_1]) agg_79 rfl rfl rfl (by simp [over_length]) (hS.pull 1) (fun w' hS => ?_)
    refine x_done <| ?_
    exact x_inv ⟨q12, q1u.fmag.length, c_y0_ret_1_15_1, q1u.fneg, q1u.fmag, (Option.some.inj (show some _ = some _ from hFc109)), (hE12 4 rfl), (hE12 7 rfl), (hE12 8 rfl), rfl, (hE12 15 rfl), rfl, q13, ((((((((hS.pull 2).drop.pull 2).drop.pull 2).drop.pull 2).drop.pull 2).drop.pull 1).pull 1).pull 2)⟩
   ·replace hFc109 := it_f hc109 hFc109
    refine x_skip <| ?_
    exact x_inv ⟨q0q, q0w.1.fmag.length, c_y0_ret_1_13_1, q0w.1.fneg, q0w.1.fmag, (Option.some.inj (show some _ = some _ from hFc109)), (hE12 4 rfl), (hE12 7 rfl), (hE12 8 rfl), rfl, (hE12 15 rfl), rfl, q0r, ((((((((hS.pull 1).drop.pull 2).drop.pull 2).drop.pull 2).drop.pull 2).drop.pull 1).pull 1).pull 2)⟩
  rintro E w ⟨q0s, q11, c_b18_1_c109, q0y, q0z, rfl, q2r, q25, q2s, q2a, q2b, q2c, q1i, hS⟩
  have e_ := q1i.n; subst e_
  replace hF := lv_s hF; obtain ⟨x117, hx117, hF⟩ := hF
  replace hF := bd_s hF; obtain ⟨q2i, q3a, hF⟩ := hF
  refine x_seq <| x_region <| p (yl_move q2s) <| p (yl_eql rfl rfl) <|
   p (yl_move rfl) <| pg (v := .int .i64 q0w.2) 114 (c := decide (q0x.2 = 0)) (says_t _) (fun hq => Yl.at (yl_move q2a)) <| pg (v := .bool (decide (q0w.2 = 0))) 114 (c := decide (q0x.2 = 0)) (says_t _) (fun hq => Yl.at (yl_eql (cv hq) rfl)) <| p (yand' rfl (fun hc => (cv hc)) rfl hx117) <|
   p (yl_move rfl) <| pg (v := .agg #[.bool q0o.1.fneg, .slice q8 q0o.1.fmag.length c_y0_ret_1_4_1]) 118 (c := x117) (says_t _) (fun hq => ld_sub agg_79 q25 rfl rfl hS) <| pg (v := .agg #[.bool q0y, .slice q0s q0z.length c_b18_1_c109]) 118 (c := x117) (says_t _) (fun hq => ld_sub agg_79 q2c rfl rfl (hS.pull 1)) <|
   pccg (v := .int .i64 q2i) 118 (c := x117) (says_t _) call_41 (fun hq => (args2 (cv hq) (cv hq))) hS (fun hq => by
    have hcall := c_exact_Cmp (gd_t q3a hq) (q0j.le ((((((q0a.trans q0c).trans q0d).trans q0b).trans q0e).trans q0h).trans q1w)) q1i (hS.pull 2)
    exact (Calls.mono hcall (fun e w'' h => And.intro h.1 ((h.2.pull 2).pull 2)))) (fun w' hS => ?_)
  replace hF := lv_s hF; obtain ⟨x123, hx123, hF⟩ := hF
  replace hF := bd_s hF; obtain ⟨q1y, q2t, hF⟩ := hF
  refine pg (v := .bool (decide (q2i = 0))) 118 (c := x117) (says_t _) (fun hq => Yl.at (yl_eql (cv hq) rfl)) <| p (yand' rfl (fun hc => (cv hc)) rfl hx123) <| p (yl_move rfl) <| pg (v := .int .i64 q0x.1) 124 (c := x123) (says_t _) (fun hq => Yl.at (yl_move q2b)) <|
   pg (v := .int .i64 q26.1) 124 (c := x123) (says_t _) (fun hq => Yl.at (yl_move q2r)) <| pg (v := .bool (decide (q0x.1 = q26.1))) 124 (c := x123) (says_t _) (fun hq => Yl.at (yl_eql (cv hq) (cv hq))) <| pg (v := .agg #[.bool q0o.1.fneg, .slice q8 q0o.1.fmag.length c_y0_ret_1_4_1]) 124 (c := x123) (says_t _) (fun hq => ld_sub agg_79 q25 rfl rfl hS) <|
   pccg (v := .int .i64 q1y) 124 (c := x123) (says_t _) call_44 (fun hq => (args1 (cv hq))) hS (fun hq => by
    have hcall := c_exact_Sign (gd_t q2t hq) (q0j.le ((((((q0a.trans q0c).trans q0d).trans q0b).trans q0e).trans q0h).trans q1w)) (hS.pull 2)
    exact (Calls.mono hcall (fun e w'' h => And.intro h.1 ((h.2.pull 2).pull 2)))) (fun w' hS => ?_)
  replace hF := lv_s hF; obtain ⟨x132, hx132, hF⟩ := hF
  refine pg (v := .bool (decide (q1y ≠ 0))) 124 (c := x123) (says_t _) (fun hq => Yl.at (yl_neq (cv hq) rfl)) <| pg (v := .bool ((decide (q0x.1 = q26.1)) == (decide (q1y ≠ 0)))) 124 (c := x123) (says_t _) (fun hq => Yl.at (yeqb ub_4 (cv hq) (cv hq))) <| p (yand' rfl (fun hc => (cv hc)) rfl hx132) <| p (yl_assign rfl) <|
   x_done <| ?_
  have e_ := Option.some.inj (show some _ = some _ from hF); subst e_
  exact x_return ⟨_, ⟨_, _, rfl, rfl, rfl⟩, rfl, (ro_back0 (((((((((q1b.trans q0l).trans q0m).trans q0a).trans q0c).trans q0d).trans q0b).trans q0e).trans q0h).trans q1w) hS.drop.drop)⟩
attribute [irreducible] P_maskkeep4_ExactProducts


end Go.Proofs.Ytkenpbnpemjbhaa.X
