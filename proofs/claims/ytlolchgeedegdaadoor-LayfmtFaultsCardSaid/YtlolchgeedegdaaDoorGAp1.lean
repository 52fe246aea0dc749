/- Printed by gen.py: plain functions, and that the Go code computes them. -/
import Derived.Test.YtlolchgeedegdaaDoorXI
import Derived.Test.YtlolchgeedegdaaDoorXT
import Derived.Test.YtlolchgeedegdaaDoorGAp0
namespace Go.Proofs.YtlolchgeedegdaaDoor.X
open Go Go.RowKit
set_option linter.unusedVariables false
set_option linter.unusedSimpArgs false

def P_layfmt_Text_L7 (l_0 : T_rules_Layout) : (ByteArray × Int) → Option ((ByteArray × Int) ⊕ ByteArray) := fun (q3, q2) =>
 if q2 < (l_0.Walls.length : Int) then
  ck (inb q2 l_0.Walls.length) <|
  lv (gt l_0.Walls q2) fun q4 =>
  bd (P_layfmt_line (⟨#[119, 97, 108, 108]⟩ : ByteArray) ([q4.Layer, q4.X0, q4.Y0, q4.X1, q4.Y1] : List Int)) fun q5 =>
  ck (q3.size + q5.size ≤ 140737488355328) <|
  lv (q3 ++ q5) fun q6 =>
  ar (q2 + 1) fun x50 =>
  some (Sum.inl (q6, x50))
 else
  some (Sum.inr q3)
def P_layfmt_Text_L12 (l_0 : T_rules_Layout) : (ByteArray × Int) → Option ((ByteArray × Int) ⊕ ByteArray) := fun (q3, q4) =>
 if q4 < (l_0.Pins.length : Int) then
  ck (inb q4 l_0.Pins.length) <|
  lv (gt l_0.Pins q4) fun q2 =>
  bd (
   if q2.Drive = true then
    bd (P_layfmt_line (⟨#[100, 114, 105, 118, 101]⟩ : ByteArray) ([q2.Net, q2.X, q2.Y] : List Int)) fun q5 =>
    ck (q3.size + q5.size ≤ 140737488355328) <|
    lv (q3 ++ q5) fun q9 =>
    some q9
   else
    bd (P_layfmt_line (⟨#[112, 105, 110]⟩ : ByteArray) ([q2.Net, q2.X, q2.Y, q2.Size] : List Int)) fun q6 =>
    ck (q3.size + q6.size ≤ 140737488355328) <|
    lv (q3 ++ q6) fun q7 =>
    some q7) fun q8 =>
  ar (q4 + 1) fun x80 =>
  some (Sum.inl (q8, x80))
 else
  some (Sum.inr q3)
def P_layfmt_Text_L19 (l_0 : T_rules_Layout) : (ByteArray × Int) → Option ((ByteArray × Int) ⊕ ByteArray) := fun (q4, q2) =>
 if q2 < (l_0.Wires.length : Int) then
  ck (inb q2 l_0.Wires.length) <|
  lv (gt l_0.Wires q2) fun q3 =>
  bd (P_layfmt_line (⟨#[119, 105, 114, 101]⟩ : ByteArray) ([q3.Net, q3.Layer, q3.X0, q3.Y0, q3.X1, q3.Y1] : List Int)) fun q5 =>
  ck (q4.size + q5.size ≤ 140737488355328) <|
  lv (q4 ++ q5) fun q6 =>
  ar (q2 + 1) fun x103 =>
  some (Sum.inl (q6, x103))
 else
  some (Sum.inr q4)
def P_layfmt_Text_L24 (l_0 : T_rules_Layout) : (ByteArray × Int) → Option ((ByteArray × Int) ⊕ ByteArray) := fun (q3, q2) =>
 if q2 < (l_0.Vias.length : Int) then
  ck (inb q2 l_0.Vias.length) <|
  lv (gt l_0.Vias q2) fun q4 =>
  bd (P_layfmt_line (⟨#[118, 105, 97]⟩ : ByteArray) ([q4.Net, q4.Layer, q4.X, q4.Y] : List Int)) fun q5 =>
  ck (q3.size + q5.size ≤ 140737488355328) <|
  lv (q3 ++ q5) fun q6 =>
  ar (q2 + 1) fun x122 =>
  some (Sum.inl (q6, x122))
 else
  some (Sum.inr q3)
def P_layfmt_Text (l_0 : T_rules_Layout) : Option (ByteArray × Int) :=
 bd (P_rules_Check l_0) fun q3 =>
 if q3 ≠ 0 then
  some ((⟨#[]⟩ : ByteArray), q3)
 else
  bd (P_layfmt_line (⟨#[108, 97, 121, 111, 117, 116]⟩ : ByteArray) ([l_0.W, l_0.H, l_0.Layers, l_0.Nets] : List Int)) fun q4 =>
  ck ((⟨#[]⟩ : ByteArray).size + q4.size ≤ 140737488355328) <|
  lv ((⟨#[]⟩ : ByteArray) ++ q4) fun q7 =>
  bd (
   lp (P_layfmt_Text_L7 l_0) fuel (q7, 0)) fun q8 =>
  bd (
   lp (P_layfmt_Text_L12 l_0) fuel (q8, 0)) fun q5 =>
  bd (
   lp (P_layfmt_Text_L19 l_0) fuel (q5, 0)) fun q6 =>
  bd (
   lp (P_layfmt_Text_L24 l_0) fuel (q6, 0)) fun q2 =>
  if 262144 < (q2.size : Int) then
   some ((⟨#[]⟩ : ByteArray), (3 : Int))
  else
   ck (0 < q2.size) <|
   some (q2, (0 : Int))
set_option maxHeartbeats 4000000 in
set_option maxRecDepth 100000 in
theorem c_layfmt_Text {w0 w : World} {l : List Assn} {ρ : Heap} {q7 : Option Addr} {q17 : Nat} {c_l_0_4 : Nat} {q8 : Option Addr} {q18 : Nat} {c_l_0_5 : Nat} {q6 : Option Addr} {q19 : Nat} {c_l_0_6 : Nat} {q9 : Option Addr} {q1a : Nat} {c_l_0_7 : Nat} {l_0 : T_rules_Layout} {r : (ByteArray × Int)} (hF : P_layfmt_Text l_0 = some r) (q0g : RdS R_rules_Wire ρ q7 q17 c_l_0_4 l_0.Wires) (q0h : RdS R_rules_Via ρ q8 q18 c_l_0_5 l_0.Vias) (q0i : RdS R_rules_Pin ρ q6 q19 c_l_0_6 l_0.Pins) (q0j : RdS R_floor_Wall ρ q9 q1a c_l_0_7 l_0.Walls) (hS : St w0 w (ro ρ :: l)) :
  Calls Tryd.prog 34 #[.agg #[.int .i64 l_0.W, .int .i64 l_0.H, .int .i64 l_0.Layers, .int .i64 l_0.Nets, .slice q7 q17 c_l_0_4, .slice q8 q18 c_l_0_5, .slice q6 q19 c_l_0_6, .slice q9 q1a c_l_0_7]] w fun e w' => e = .returned (.tuple #[.string r.1, .int .i64 r.2]) ∧ St w0 w' (ro ρ :: l) := by
 have e_ := q0g.n; subst e_
 have e_ := q0h.n; subst e_
 have e_ := q0i.n; subst e_
 have e_ := q0j.n; subst e_
 refine enterC Tryd.func34 rfl 126 rfl (by simp) ?_
 refine x_seq <| x_region <| ?_
 refine o_box (cs := [.int .i64 l_0.W, .int .i64 l_0.H, .int .i64 l_0.Layers, .int .i64 l_0.Nets, .slice q7 l_0.Wires.length c_l_0_4, .slice q8 l_0.Vias.length c_l_0_5, .slice q6 l_0.Pins.length c_l_0_6, .slice q9 l_0.Walls.length c_l_0_7]) rfl rfl hS (fun b1 w' hS => ?_)
 replace hF := bd_s hF; obtain ⟨q13, q2u, hF⟩ := hF
 refine p (yl_assign rfl) <| p (yl_assign rfl) <| x_done <| x_seq <|
  x_seq <| x_region <| pa (v := .agg #[.int .i64 l_0.W, .int .i64 l_0.H, .int .i64 l_0.Layers, .int .i64 l_0.Nets, .slice q7 l_0.Wires.length c_l_0_4, .slice q8 l_0.Vias.length c_l_0_5, .slice q6 l_0.Pins.length c_l_0_6, .slice q9 l_0.Walls.length c_l_0_7]) (ld_sub agg_91 rfl rfl rfl hS) <| ?_
 have hcall := c_rules_Check q2u q0g q0h q0i q0j (hS.pull 1)
 refine o_cc call_85 (args1 rfl) ((Calls.mono hcall (fun e w'' h => And.intro h.1 (h.2.pull 1)))) ?_
 rintro e w' ⟨rfl, hS⟩
 refine ⟨_, rfl, ?_⟩
 refine p (v := .int .i64 q13) (yl_assign rfl) <| x_done <| x_seq <| x_region <|
  p (v := .int .i64 q13) (yl_move rfl) <| p (yl_neq rfl rfl) <| x_done <|
  x_cond_p (q13 ≠ 0) rfl (fun hc17 => ?_) (fun hc17 => ?_)
 ·replace hF := it_t hc17 hF
  refine x_seq <| x_region <| p (v := .int .i64 q13) (yl_move rfl) <| p (yl_assign rfl) <|
   p (v := .int .i64 q13) (yl_assign rfl) <| x_done <| ?_
  have e_ := Option.some.inj (show some _ = some _ from hF); subst e_
  exact x_return ⟨_, ⟨_, _, rfl, rfl, _, _, rfl, rfl, rfl⟩, rfl, hS.drop⟩
 ·replace hF := it_f hc17 hF
  refine x_skip <| x_seq <| x_region <| ?_
  refine o_alloc zero_171 hS (fun b5 w' hS => ?_)
  replace hS := bld_new (e := 5) hS
  refine x_done <| x_seq <| x_region <| p (yl_field0 fld_91_0 rfl) <|
   pa (at_load one_3 rfl ((hS.pull 1).cell rfl)) <| p (yl_field0 fld_91_1 rfl) <| pa (at_load one_3 rfl ((hS.pull 1).cell rfl)) <| p (yl_field0 fld_91_2 rfl) <|
   pa (at_load one_3 rfl ((hS.pull 1).cell rfl)) <| p (yl_field0 fld_91_3 rfl) <| pa (at_load one_3 rfl ((hS.pull 1).cell rfl)) <| ?_
  refine o_buildSlice (vs := [.int .i64 l_0.W, .int .i64 l_0.H, .int .i64 l_0.Layers, .int .i64 l_0.Nets]) (cs := [.int .i64 l_0.W, .int .i64 l_0.H, .int .i64 l_0.Layers, .int .i64 l_0.Nets]) sl_22 zero_3 (parts_eq (pt (va := .int .i64 l_0.W) rfl (pt (va := .int .i64 l_0.H) rfl (pt (va := .int .i64 l_0.Layers) rfl (pt (va := .int .i64 l_0.Nets) rfl pt0))))) rfl (by intro v hv; simp only [List.mem_cons, List.not_mem_nil, or_false] at hv; first | (subst hv; rfl) | (rcases hv with rfl | rfl | rfl | rfl <;> rfl)) (by decide) rfl hS (fun b27 w' hS => ?_)
  have q2v : RepL (RpI .i64) ρ ([l_0.W, l_0.H, l_0.Layers, l_0.Nets] : List Int) [.int .i64 l_0.W, .int .i64 l_0.H, .int .i64 l_0.Layers, .int .i64 l_0.Nets] := (RepL.cons (cs := [.int .i64 l_0.W]) rfl (RepL.cons (cs := [.int .i64 l_0.H]) rfl (RepL.cons (cs := [.int .i64 l_0.Layers]) rfl (RepL.cons (cs := [.int .i64 l_0.Nets]) rfl RepL.nil))))
  replace hS := St.vec_of (n := 4) (sz := (RpI .i64).sz) hS rfl (by decide)
  replace hF := bd_s hF; obtain ⟨q3c, q2w, hF⟩ := hF
  have q_ := St.lend ((hS.pull 3).pull 1) q2v; obtain ⟨ρl0, hll0, hlf0, hS0, back0⟩ := q_
  have hcall := c_layfmt_line q2w hlf0 hS0
  refine o_cc call_86 (args2 rfl rfl) ((Calls.mono hcall (fun e w'' h => And.intro h.1 (((((back0 h.2).pull 1).pull 3).pull 3).pull 3)))) ?_
  rintro e w' ⟨rfl, hS⟩
  refine ⟨_, rfl, ?_⟩
  replace hF := ck_s hF; obtain ⟨q21, hF⟩ := hF
  replace hF := lv_s hF; obtain ⟨q2x, q22, hF⟩ := hF
  refine o_cc call_80 (args2 rfl rfl) (bws (hS.pull 1) q21) ?_
  rintro e w' ⟨rfl, hS⟩
  refine ⟨_, rfl, ?_⟩
  rw [← q22] at hS
  refine x_done <| x_seq <| x_seq <| x_region <|
   p (yl_field0 fld_91_7 rfl) <| pa (at_load one_89 rfl ((hS.pull 2).cell rfl)) <| p (yl_len_slice usl_89 rfl) <| p (yl_move rfl) <|
   x_done <| ?_
  replace hF := bd_s hF; obtain ⟨oL7, hLL7, hF⟩ := hF
  refine x_join (fun E w => ∃ (q12 : ByteArray), q12 = oL7 ∧ E 1 = .pointer (some ⟨b1, 0, none⟩) ∧ E 5 = .pointer (some ⟨b5, 0, none⟩) ∧ St w0 w (cells b1 91 [.int .i64 l_0.W, .int .i64 l_0.H, .int .i64 l_0.Layers, .int .i64 l_0.Nets, .slice q7 l_0.Wires.length c_l_0_4, .slice q8 l_0.Vias.length c_l_0_5, .slice q6 l_0.Pins.length c_l_0_6, .slice q9 l_0.Walls.length c_l_0_7] :: bld 171 5 b5 q12 :: ro ρ :: l)) ?_ ?_
  ·refine x_block ?_
   refine x_loop (fun k_ E w => ∃ (q0r : ByteArray) (q0k : Int), lp (P_layfmt_Text_L7 l_0) k_ (q0r, q0k) = some oL7 ∧ E 1 = .pointer (some ⟨b1, 0, none⟩) ∧ E 5 = .pointer (some ⟨b5, 0, none⟩) ∧ E 31 = .slice q9 l_0.Walls.length c_l_0_7 ∧ E 32 = .int .i64 (l_0.Walls.length : Int) ∧ E 33 = .int .i64 q0k ∧ St w0 w (cells b1 91 [.int .i64 l_0.W, .int .i64 l_0.H, .int .i64 l_0.Layers, .int .i64 l_0.Nets, .slice q7 l_0.Wires.length c_l_0_4, .slice q8 l_0.Vias.length c_l_0_5, .slice q6 l_0.Pins.length c_l_0_6, .slice q9 l_0.Walls.length c_l_0_7] :: bld 171 5 b5 q0r :: ro ρ :: l)) fuel ⟨q2x, 0, hLL7, rfl, rfl, rfl, rfl, rfl, ((((hS.pull 1).drop.pull 2).pull 1).pull 2)⟩ ?_
   rintro kL7 E w ⟨q0r, q0k, hLL7, q1e, q14, q1b, q1c, q0w, hS⟩
   replace hLL7 := lp_s hLL7; obtain ⟨kL7, obL7, rfl, hFL7, hLL7⟩ := hLL7
   refine x_seq <| x_region <| p (yl_lss q0w q1c) <| x_done <|
    x_seq <|
    x_cond_p (q0k < (l_0.Walls.length : Int)) rfl (fun hc34 => ?_) (fun hc34 => ?_)
   ·replace hFL7 := it_t hc34 hFL7
    replace hFL7 := ck_s hFL7; obtain ⟨q1n, hFL7⟩ := hFL7
    replace hFL7 := lv_s hFL7; obtain ⟨q5, q2y, hFL7⟩ := hFL7
    have q_ := q0j.get q1n; obtain ⟨q37, q1o, q2z⟩ := q_
    rw [← q2y] at q1o
    have e_ := q1o; subst e_
    refine x_skip <| x_seq <| x_block <| x_seq <|
     x_region <| p (yix_f sl_89 q1b q0w q0j q1n) <| pa (v := .agg #[.int .i64 q5.Layer, .int .i64 q5.X0, .int .i64 q5.Y0, .int .i64 q5.X1, .int .i64 q5.Y1]) (at_loadAgg agg_123 rfl rfl (Elt.every q2z (hS.pull 2))) <| ?_
    refine o_alloc zero_123 hS (fun b7 w' hS => ?_)
    refine o_storeAgg (news := [.int .i64 q5.Layer, .int .i64 q5.X0, .int .i64 q5.Y0, .int .i64 q5.X1, .int .i64 q5.Y1]) agg_123 rfl rfl rfl (by simp [over_length]) hS (fun w' hS => ?_)
    refine x_done <| x_region <| p (yl_field0 fld_123_0 rfl) <| pa (at_load one_3 rfl (hS.cell rfl)) <|
     p (yl_field0 fld_123_1 rfl) <| pa (at_load one_3 rfl (hS.cell rfl)) <| p (yl_field0 fld_123_2 rfl) <| pa (at_load one_3 rfl (hS.cell rfl)) <|
     p (yl_field0 fld_123_3 rfl) <| pa (at_load one_3 rfl (hS.cell rfl)) <| p (yl_field0 fld_123_4 rfl) <| pa (at_load one_3 rfl (hS.cell rfl)) <| ?_
    refine o_buildSlice (vs := [.int .i64 q5.Layer, .int .i64 q5.X0, .int .i64 q5.Y0, .int .i64 q5.X1, .int .i64 q5.Y1]) (cs := [.int .i64 q5.Layer, .int .i64 q5.X0, .int .i64 q5.Y0, .int .i64 q5.X1, .int .i64 q5.Y1]) sl_22 zero_3 (parts_eq (pt (va := .int .i64 q5.Layer) rfl (pt (va := .int .i64 q5.X0) rfl (pt (va := .int .i64 q5.Y0) rfl (pt (va := .int .i64 q5.X1) rfl (pt (va := .int .i64 q5.Y1) rfl pt0)))))) rfl (by intro v hv; simp only [List.mem_cons, List.not_mem_nil, or_false] at hv; first | (subst hv; rfl) | (rcases hv with rfl | rfl | rfl | rfl | rfl <;> rfl)) (by decide) rfl hS (fun b47 w' hS => ?_)
    have q23 : RepL (RpI .i64) ρ ([q5.Layer, q5.X0, q5.Y0, q5.X1, q5.Y1] : List Int) [.int .i64 q5.Layer, .int .i64 q5.X0, .int .i64 q5.Y0, .int .i64 q5.X1, .int .i64 q5.Y1] := (RepL.cons (cs := [.int .i64 q5.Layer]) rfl (RepL.cons (cs := [.int .i64 q5.X0]) rfl (RepL.cons (cs := [.int .i64 q5.Y0]) rfl (RepL.cons (cs := [.int .i64 q5.X1]) rfl (RepL.cons (cs := [.int .i64 q5.Y1]) rfl RepL.nil)))))
    replace hS := St.vec_of (n := 5) (sz := (RpI .i64).sz) hS rfl (by decide)
    replace hFL7 := bd_s hFL7; obtain ⟨q38, q24, hFL7⟩ := hFL7
    have q_ := St.lend ((hS.pull 4).pull 1) q23; obtain ⟨ρl0, hll0, hlf0, hS0, back0⟩ := q_
    have hcall := c_layfmt_line q24 hlf0 hS0
    refine o_cc call_86 (args2 rfl rfl) ((Calls.mono hcall (fun e w'' h => And.intro h.1 ((((((back0 h.2).pull 1).pull 4).pull 4).pull 4).pull 4)))) ?_
    rintro e w' ⟨rfl, hS⟩
    refine ⟨_, rfl, ?_⟩
    replace hFL7 := ck_s hFL7; obtain ⟨q25, hFL7⟩ := hFL7
    replace hFL7 := lv_s hFL7; obtain ⟨q30, q26, hFL7⟩ := hFL7
    refine o_cc call_80 (args2 q14 rfl) (bws (hS.pull 3) q25) ?_
    rintro e w' ⟨rfl, hS⟩
    refine ⟨_, rfl, ?_⟩
    rw [← q26] at hS
    replace hFL7 := ar_s hFL7; obtain ⟨x50, hx50, hFL7⟩ := hFL7
    refine x_done <| x_blk <| x_region <| p (yadd q0w rfl hx50) <|
     p (yl_move rfl) <| x_done <| ?_
    have e_ := Option.some.inj (show some _ = some _ from hFL7); subst e_
    exact x_inv ⟨kL7, Nat.lt_succ_self _, q30, x50, hLL7, q1e, q14, q1b, q1c, rfl, (((((hS.pull 1).drop.pull 1).drop.pull 2).pull 1).pull 2)⟩
   ·replace hFL7 := it_f hc34 hFL7
    refine x_exitTo _ rfl <| ?_
    have e_ := Option.some.inj (show some _ = some _ from hFL7); subst e_
    exact x_inv ⟨q0r, hLL7, q1e, q14, (((hS.pull 2).pull 2).pull 2)⟩
  rintro E w ⟨q12, rfl, q1p, q31, hS⟩
  refine x_seq <| x_seq <| x_region <| p (yl_field0 fld_91_6 q1p) <|
   pa (at_load one_88 rfl (hS.cell rfl)) <| p (yl_len_slice usl_88 rfl) <| p (yl_move rfl) <| x_done <| ?_
  replace hF := bd_s hF; obtain ⟨oL12, hLL12, hF⟩ := hF
  refine x_join (fun E w => ∃ (q0s : ByteArray), q0s = oL12 ∧ E 1 = .pointer (some ⟨b1, 0, none⟩) ∧ E 5 = .pointer (some ⟨b5, 0, none⟩) ∧ St w0 w (cells b1 91 [.int .i64 l_0.W, .int .i64 l_0.H, .int .i64 l_0.Layers, .int .i64 l_0.Nets, .slice q7 l_0.Wires.length c_l_0_4, .slice q8 l_0.Vias.length c_l_0_5, .slice q6 l_0.Pins.length c_l_0_6, .slice q9 l_0.Walls.length c_l_0_7] :: bld 171 5 b5 q0s :: ro ρ :: l)) ?_ ?_
  ·refine x_block ?_
   refine x_loop (fun k_ E w => ∃ (q0l : ByteArray) (q0a : Int), lp (P_layfmt_Text_L12 l_0) k_ (q0l, q0a) = some oL12 ∧ E 1 = .pointer (some ⟨b1, 0, none⟩) ∧ E 5 = .pointer (some ⟨b5, 0, none⟩) ∧ E 52 = .slice q6 l_0.Pins.length c_l_0_6 ∧ E 53 = .int .i64 (l_0.Pins.length : Int) ∧ E 54 = .int .i64 q0a ∧ St w0 w (cells b1 91 [.int .i64 l_0.W, .int .i64 l_0.H, .int .i64 l_0.Layers, .int .i64 l_0.Nets, .slice q7 l_0.Wires.length c_l_0_4, .slice q8 l_0.Vias.length c_l_0_5, .slice q6 l_0.Pins.length c_l_0_6, .slice q9 l_0.Walls.length c_l_0_7] :: bld 171 5 b5 q0l :: ro ρ :: l)) fuel ⟨q12, 0, hLL12, q1p, q31, rfl, rfl, rfl, (((hS.pull 2).pull 2).pull 2)⟩ ?_
   rintro kL12 E w ⟨q0l, q0a, hLL12, q0x, q0c, q0o, q0p, q0d, hS⟩
   replace hLL12 := lp_s hLL12; obtain ⟨kL12, obL12, rfl, hFL12, hLL12⟩ := hLL12
   refine x_seq <| x_region <| p (yl_lss q0d q0p) <| x_done <|
    x_seq <|
    x_cond_p (q0a < (l_0.Pins.length : Int)) rfl (fun hc55 => ?_) (fun hc55 => ?_)
   ·replace hFL12 := it_t hc55 hFL12
    replace hFL12 := ck_s hFL12; obtain ⟨q1f, hFL12⟩ := hFL12
    replace hFL12 := lv_s hFL12; obtain ⟨q2, q27, hFL12⟩ := hFL12
    have q_ := q0i.get q1f; obtain ⟨q33, q1g, q28⟩ := q_
    rw [← q27] at q1g
    have e_ := q1g; subst e_
    refine x_skip <| x_seq <| x_block <| x_seq <|
     x_region <| p (yix_f sl_88 q0o q0d q0i q1f) <| pa (v := .agg #[.int .i64 q2.Net, .int .i64 q2.X, .int .i64 q2.Y, .bool q2.Drive, .int .i64 q2.Size]) (at_loadAgg agg_101 rfl rfl (Elt.every q28 (hS.pull 2))) <| ?_
    refine o_alloc zero_101 hS (fun b9 w' hS => ?_)
    refine o_storeAgg (news := [.int .i64 q2.Net, .int .i64 q2.X, .int .i64 q2.Y, .bool q2.Drive, .int .i64 q2.Size]) agg_101 rfl rfl rfl (by simp [over_length]) hS (fun w' hS => ?_)
    refine x_done <| x_seq <| x_region <| p (yl_field0 fld_101_3 rfl) <|
     pa (at_load one_4 rfl (hS.cell rfl)) <| x_done <| ?_
    replace hFL12 := bd_s hFL12; obtain ⟨oc59, hFc59, hFL12⟩ := hFL12
    refine x_join (fun E w => ∃ (q0t : ByteArray), q0t = oc59 ∧ E 1 = .pointer (some ⟨b1, 0, none⟩) ∧ E 5 = .pointer (some ⟨b5, 0, none⟩) ∧ E 52 = .slice q6 l_0.Pins.length c_l_0_6 ∧ E 53 = .int .i64 (l_0.Pins.length : Int) ∧ E 54 = .int .i64 q0a ∧ St w0 w (cells b1 91 [.int .i64 l_0.W, .int .i64 l_0.H, .int .i64 l_0.Layers, .int .i64 l_0.Nets, .slice q7 l_0.Wires.length c_l_0_4, .slice q8 l_0.Vias.length c_l_0_5, .slice q6 l_0.Pins.length c_l_0_6, .slice q9 l_0.Walls.length c_l_0_7] :: bld 171 5 b5 q0t :: ro ρ :: l)) ?_ ?_
    ·refine x_cond (t := q2.Drive) rfl (fun hc59 => ?_) (fun hc59 => ?_)
     ·replace hFc59 := it_t hc59 hFc59
      refine x_region <| p (yl_field0 fld_101_0 rfl) <| pa (at_load one_3 rfl (hS.cell rfl)) <| p (yl_field0 fld_101_1 rfl) <|
       pa (at_load one_3 rfl (hS.cell rfl)) <| p (yl_field0 fld_101_2 rfl) <| pa (at_load one_3 rfl (hS.cell rfl)) <| ?_
      refine o_buildSlice (vs := [.int .i64 q2.Net, .int .i64 q2.X, .int .i64 q2.Y]) (cs := [.int .i64 q2.Net, .int .i64 q2.X, .int .i64 q2.Y]) sl_22 zero_3 (parts_eq (pt (va := .int .i64 q2.Net) rfl (pt (va := .int .i64 q2.X) rfl (pt (va := .int .i64 q2.Y) rfl pt0)))) rfl (by intro v hv; simp only [List.mem_cons, List.not_mem_nil, or_false] at hv; first | (subst hv; rfl) | (rcases hv with rfl | rfl | rfl <;> rfl)) (by decide) rfl hS (fun b66 w' hS => ?_)
      have q29 : RepL (RpI .i64) ρ ([q2.Net, q2.X, q2.Y] : List Int) [.int .i64 q2.Net, .int .i64 q2.X, .int .i64 q2.Y] := (RepL.cons (cs := [.int .i64 q2.Net]) rfl (RepL.cons (cs := [.int .i64 q2.X]) rfl (RepL.cons (cs := [.int .i64 q2.Y]) rfl RepL.nil)))
      replace hS := St.vec_of (n := 3) (sz := (RpI .i64).sz) hS rfl (by decide)
      replace hFc59 := bd_s hFc59; obtain ⟨q39, q2a, hFc59⟩ := hFc59
      have q_ := St.lend ((hS.pull 4).pull 1) q29; obtain ⟨ρl0, hll0, hlf0, hS0, back0⟩ := q_
      have hcall := c_layfmt_line q2a hlf0 hS0
      refine o_cc call_86 (args2 rfl rfl) ((Calls.mono hcall (fun e w'' h => And.intro h.1 ((((((back0 h.2).pull 1).pull 4).pull 4).pull 4).pull 4)))) ?_
      rintro e w' ⟨rfl, hS⟩
      refine ⟨_, rfl, ?_⟩
      replace hFc59 := ck_s hFc59; obtain ⟨q2b, hFc59⟩ := hFc59
      replace hFc59 := lv_s hFc59; obtain ⟨q32, q2c, hFc59⟩ := hFc59
      refine o_cc call_80 (args2 q0c rfl) (bws (hS.pull 3) q2b) ?_
      rintro e w' ⟨rfl, hS⟩
      refine ⟨_, rfl, ?_⟩
      rw [← q2c] at hS
      refine x_done <| ?_
      exact x_inv ⟨q32, (Option.some.inj (show some _ = some _ from hFc59)), q0x, q0c, q0o, q0p, q0d, (((((hS.pull 1).drop.pull 1).drop.pull 2).pull 1).pull 2)⟩
     ·replace hFc59 := it_bf hc59 hFc59
      refine x_region <| p (yl_field0 fld_101_0 rfl) <| pa (at_load one_3 rfl (hS.cell rfl)) <| p (yl_field0 fld_101_1 rfl) <|
       pa (at_load one_3 rfl (hS.cell rfl)) <| p (yl_field0 fld_101_2 rfl) <| pa (at_load one_3 rfl (hS.cell rfl)) <| p (yl_field0 fld_101_4 rfl) <|
       pa (at_load one_3 rfl (hS.cell rfl)) <| ?_
      refine o_buildSlice (vs := [.int .i64 q2.Net, .int .i64 q2.X, .int .i64 q2.Y, .int .i64 q2.Size]) (cs := [.int .i64 q2.Net, .int .i64 q2.X, .int .i64 q2.Y, .int .i64 q2.Size]) sl_22 zero_3 (parts_eq (pt (va := .int .i64 q2.Net) rfl (pt (va := .int .i64 q2.X) rfl (pt (va := .int .i64 q2.Y) rfl (pt (va := .int .i64 q2.Size) rfl pt0))))) rfl (by intro v hv; simp only [List.mem_cons, List.not_mem_nil, or_false] at hv; first | (subst hv; rfl) | (rcases hv with rfl | rfl | rfl | rfl <;> rfl)) (by decide) rfl hS (fun b77 w' hS => ?_)
      have q2d : RepL (RpI .i64) ρ ([q2.Net, q2.X, q2.Y, q2.Size] : List Int) [.int .i64 q2.Net, .int .i64 q2.X, .int .i64 q2.Y, .int .i64 q2.Size] := (RepL.cons (cs := [.int .i64 q2.Net]) rfl (RepL.cons (cs := [.int .i64 q2.X]) rfl (RepL.cons (cs := [.int .i64 q2.Y]) rfl (RepL.cons (cs := [.int .i64 q2.Size]) rfl RepL.nil))))
      replace hS := St.vec_of (n := 4) (sz := (RpI .i64).sz) hS rfl (by decide)
      replace hFc59 := bd_s hFc59; obtain ⟨q3a, q2e, hFc59⟩ := hFc59
      have q_ := St.lend ((hS.pull 4).pull 1) q2d; obtain ⟨ρl0, hll0, hlf0, hS0, back0⟩ := q_
      have hcall := c_layfmt_line q2e hlf0 hS0
      refine o_cc call_86 (args2 rfl rfl) ((Calls.mono hcall (fun e w'' h => And.intro h.1 ((((((back0 h.2).pull 1).pull 4).pull 4).pull 4).pull 4)))) ?_
      rintro e w' ⟨rfl, hS⟩
      refine ⟨_, rfl, ?_⟩
      replace hFc59 := ck_s hFc59; obtain ⟨q1q, hFc59⟩ := hFc59
      replace hFc59 := lv_s hFc59; obtain ⟨q2f, q1r, hFc59⟩ := hFc59
      refine o_cc call_80 (args2 q0c rfl) (bws (hS.pull 3) q1q) ?_
      rintro e w' ⟨rfl, hS⟩
      refine ⟨_, rfl, ?_⟩
      rw [← q1r] at hS
      refine x_done <| ?_
      exact x_inv ⟨q2f, (Option.some.inj (show some _ = some _ from hFc59)), q0x, q0c, q0o, q0p, q0d, (((((hS.pull 1).drop.pull 1).drop.pull 2).pull 1).pull 2)⟩
    rintro E w ⟨q0t, rfl, q2g, q2h, q1s, q1t, q1u, hS⟩
    replace hFL12 := ar_s hFL12; obtain ⟨x80, hx80, hFL12⟩ := hFL12
    refine x_blk <| x_region <| p (yadd q1u rfl hx80) <| p (yl_move rfl) <|
     x_done <| ?_
    have e_ := Option.some.inj (show some _ = some _ from hFL12); subst e_
    exact x_inv ⟨kL12, Nat.lt_succ_self _, q0t, x80, hLL12, q2g, q2h, q1s, q1t, rfl, (((hS.pull 2).pull 2).pull 2)⟩
   ·replace hFL12 := it_f hc55 hFL12
    refine x_exitTo _ rfl <| ?_
    have e_ := Option.some.inj (show some _ = some _ from hFL12); subst e_
    exact x_inv ⟨q0l, hLL12, q0x, q0c, (((hS.pull 2).pull 2).pull 2)⟩
  rintro E w ⟨q0s, rfl, q1h, q2i, hS⟩
  refine x_seq <| x_seq <| x_region <| p (yl_field0 fld_91_4 q1h) <|
   pa (at_load one_86 rfl (hS.cell rfl)) <| p (yl_len_slice usl_86 rfl) <| p (yl_move rfl) <| x_done <| ?_
  replace hF := bd_s hF; obtain ⟨oL19, hLL19, hF⟩ := hF
  refine x_join (fun E w => ∃ (q0u : ByteArray), q0u = oL19 ∧ E 1 = .pointer (some ⟨b1, 0, none⟩) ∧ E 5 = .pointer (some ⟨b5, 0, none⟩) ∧ St w0 w (cells b1 91 [.int .i64 l_0.W, .int .i64 l_0.H, .int .i64 l_0.Layers, .int .i64 l_0.Nets, .slice q7 l_0.Wires.length c_l_0_4, .slice q8 l_0.Vias.length c_l_0_5, .slice q6 l_0.Pins.length c_l_0_6, .slice q9 l_0.Walls.length c_l_0_7] :: bld 171 5 b5 q0u :: ro ρ :: l)) ?_ ?_
  ·refine x_block ?_
   refine x_loop (fun k_ E w => ∃ (q0m : ByteArray) (q0e : Int), lp (P_layfmt_Text_L19 l_0) k_ (q0m, q0e) = some oL19 ∧ E 1 = .pointer (some ⟨b1, 0, none⟩) ∧ E 5 = .pointer (some ⟨b5, 0, none⟩) ∧ E 82 = .slice q7 l_0.Wires.length c_l_0_4 ∧ E 83 = .int .i64 (l_0.Wires.length : Int) ∧ E 84 = .int .i64 q0e ∧ St w0 w (cells b1 91 [.int .i64 l_0.W, .int .i64 l_0.H, .int .i64 l_0.Layers, .int .i64 l_0.Nets, .slice q7 l_0.Wires.length c_l_0_4, .slice q8 l_0.Vias.length c_l_0_5, .slice q6 l_0.Pins.length c_l_0_6, .slice q9 l_0.Walls.length c_l_0_7] :: bld 171 5 b5 q0m :: ro ρ :: l)) fuel ⟨q0s, 0, hLL19, q1h, q2i, rfl, rfl, rfl, (((hS.pull 2).pull 2).pull 2)⟩ ?_
   rintro kL19 E w ⟨q0m, q0e, hLL19, q1d, q0y, q15, q16, q0q, hS⟩
   replace hLL19 := lp_s hLL19; obtain ⟨kL19, obL19, rfl, hFL19, hLL19⟩ := hLL19
   refine x_seq <| x_region <| p (yl_lss q0q q16) <| x_done <|
    x_seq <|
    x_cond_p (q0e < (l_0.Wires.length : Int)) rfl (fun hc85 => ?_) (fun hc85 => ?_)
   ·replace hFL19 := it_t hc85 hFL19
    replace hFL19 := ck_s hFL19; obtain ⟨q1i, hFL19⟩ := hFL19
    replace hFL19 := lv_s hFL19; obtain ⟨q3, q2j, hFL19⟩ := hFL19
    have q_ := q0g.get q1i; obtain ⟨q34, q1j, q2k⟩ := q_
    rw [← q2j] at q1j
    have e_ := q1j; subst e_
    refine x_skip <| x_seq <| x_block <| x_seq <|
     x_region <| p (yix_f sl_86 q15 q0q q0g q1i) <| pa (v := .agg #[.int .i64 q3.Net, .int .i64 q3.Layer, .int .i64 q3.X0, .int .i64 q3.Y0, .int .i64 q3.X1, .int .i64 q3.Y1]) (at_loadAgg agg_98 rfl rfl (Elt.every q2k (hS.pull 2))) <| ?_
    refine o_alloc zero_98 hS (fun b11 w' hS => ?_)
    refine o_storeAgg (news := [.int .i64 q3.Net, .int .i64 q3.Layer, .int .i64 q3.X0, .int .i64 q3.Y0, .int .i64 q3.X1, .int .i64 q3.Y1]) agg_98 rfl rfl rfl (by simp [over_length]) hS (fun w' hS => ?_)
    refine x_done <| x_region <| p (yl_field0 fld_98_0 rfl) <| pa (at_load one_3 rfl (hS.cell rfl)) <|
     p (yl_field0 fld_98_1 rfl) <| pa (at_load one_3 rfl (hS.cell rfl)) <| p (yl_field0 fld_98_2 rfl) <| pa (at_load one_3 rfl (hS.cell rfl)) <|
     p (yl_field0 fld_98_3 rfl) <| pa (at_load one_3 rfl (hS.cell rfl)) <| p (yl_field0 fld_98_4 rfl) <| pa (at_load one_3 rfl (hS.cell rfl)) <|
     p (yl_field0 fld_98_5 rfl) <| pa (at_load one_3 rfl (hS.cell rfl)) <| ?_
    refine o_buildSlice (vs := [.int .i64 q3.Net, .int .i64 q3.Layer, .int .i64 q3.X0, .int .i64 q3.Y0, .int .i64 q3.X1, .int .i64 q3.Y1]) (cs := [.int .i64 q3.Net, .int .i64 q3.Layer, .int .i64 q3.X0, .int .i64 q3.Y0, .int .i64 q3.X1, .int .i64 q3.Y1]) sl_22 zero_3 (parts_eq (pt (va := .int .i64 q3.Net) rfl (pt (va := .int .i64 q3.Layer) rfl (pt (va := .int .i64 q3.X0) rfl (pt (va := .int .i64 q3.Y0) rfl (pt (va := .int .i64 q3.X1) rfl (pt (va := .int .i64 q3.Y1) rfl pt0))))))) rfl (by intro v hv; simp only [List.mem_cons, List.not_mem_nil, or_false] at hv; first | (subst hv; rfl) | (rcases hv with rfl | rfl | rfl | rfl | rfl | rfl <;> rfl)) (by decide) rfl hS (fun b100 w' hS => ?_)
    have q1v : RepL (RpI .i64) ρ ([q3.Net, q3.Layer, q3.X0, q3.Y0, q3.X1, q3.Y1] : List Int) [.int .i64 q3.Net, .int .i64 q3.Layer, .int .i64 q3.X0, .int .i64 q3.Y0, .int .i64 q3.X1, .int .i64 q3.Y1] := (RepL.cons (cs := [.int .i64 q3.Net]) rfl (RepL.cons (cs := [.int .i64 q3.Layer]) rfl (RepL.cons (cs := [.int .i64 q3.X0]) rfl (RepL.cons (cs := [.int .i64 q3.Y0]) rfl (RepL.cons (cs := [.int .i64 q3.X1]) rfl (RepL.cons (cs := [.int .i64 q3.Y1]) rfl RepL.nil))))))
    replace hS := St.vec_of (n := 6) (sz := (RpI .i64).sz) hS rfl (by decide)
    replace hFL19 := bd_s hFL19; obtain ⟨q35, q1w, hFL19⟩ := hFL19
    have q_ := St.lend ((hS.pull 4).pull 1) q1v; obtain ⟨ρl0, hll0, hlf0, hS0, back0⟩ := q_
    have hcall := c_layfmt_line q1w hlf0 hS0
    refine o_cc call_86 (args2 rfl rfl) ((Calls.mono hcall (fun e w'' h => And.intro h.1 ((((((back0 h.2).pull 1).pull 4).pull 4).pull 4).pull 4)))) ?_
    rintro e w' ⟨rfl, hS⟩
    refine ⟨_, rfl, ?_⟩
    replace hFL19 := ck_s hFL19; obtain ⟨q1x, hFL19⟩ := hFL19
    replace hFL19 := lv_s hFL19; obtain ⟨q2l, q1y, hFL19⟩ := hFL19
    refine o_cc call_80 (args2 q0y rfl) (bws (hS.pull 3) q1x) ?_
    rintro e w' ⟨rfl, hS⟩
    refine ⟨_, rfl, ?_⟩
    rw [← q1y] at hS
    replace hFL19 := ar_s hFL19; obtain ⟨x103, hx103, hFL19⟩ := hFL19
    refine x_done <| x_blk <| x_region <| p (yadd q0q rfl hx103) <|
     p (yl_move rfl) <| x_done <| ?_
    have e_ := Option.some.inj (show some _ = some _ from hFL19); subst e_
    exact x_inv ⟨kL19, Nat.lt_succ_self _, q2l, x103, hLL19, q1d, q0y, q15, q16, rfl, (((((hS.pull 1).drop.pull 1).drop.pull 2).pull 1).pull 2)⟩
   ·replace hFL19 := it_f hc85 hFL19
    refine x_exitTo _ rfl <| ?_
    have e_ := Option.some.inj (show some _ = some _ from hFL19); subst e_
    exact x_inv ⟨q0m, hLL19, q1d, q0y, (((hS.pull 2).pull 2).pull 2)⟩
  rintro E w ⟨q0u, rfl, q2m, q2n, hS⟩
  refine x_seq <| x_seq <| x_region <| p (yl_field0 fld_91_5 q2m) <|
   pa (at_load one_87 rfl (hS.cell rfl)) <| p (yl_len_slice usl_87 rfl) <| p (yl_move rfl) <| x_done <| ?_
  replace hF := bd_s hF; obtain ⟨oL24, hLL24, hF⟩ := hF
  refine x_join (fun E w => ∃ (q0v : ByteArray), q0v = oL24 ∧ E 5 = .pointer (some ⟨b5, 0, none⟩) ∧ St w0 w (bld 171 5 b5 q0v :: ro ρ :: l)) ?_ ?_
  ·refine x_block ?_
   refine x_loop (fun k_ E w => ∃ (q0n : ByteArray) (q0b : Int), lp (P_layfmt_Text_L24 l_0) k_ (q0n, q0b) = some oL24 ∧ E 5 = .pointer (some ⟨b5, 0, none⟩) ∧ E 105 = .slice q8 l_0.Vias.length c_l_0_5 ∧ E 106 = .int .i64 (l_0.Vias.length : Int) ∧ E 107 = .int .i64 q0b ∧ St w0 w (bld 171 5 b5 q0n :: ro ρ :: l)) fuel ⟨q0u, 0, hLL24, q2n, rfl, rfl, rfl, ((hS.drop.pull 1).pull 1)⟩ ?_
   rintro kL24 E w ⟨q0n, q0b, hLL24, q0z, q10, q11, q0f, hS⟩
   replace hLL24 := lp_s hLL24; obtain ⟨kL24, obL24, rfl, hFL24, hLL24⟩ := hLL24
   refine x_seq <| x_region <| p (yl_lss q0f q11) <| x_done <|
    x_seq <|
    x_cond_p (q0b < (l_0.Vias.length : Int)) rfl (fun hc108 => ?_) (fun hc108 => ?_)
   ·replace hFL24 := it_t hc108 hFL24
    replace hFL24 := ck_s hFL24; obtain ⟨q1k, hFL24⟩ := hFL24
    replace hFL24 := lv_s hFL24; obtain ⟨q4, q2o, hFL24⟩ := hFL24
    have q_ := q0h.get q1k; obtain ⟨q36, q1l, q2p⟩ := q_
    rw [← q2o] at q1l
    have e_ := q1l; subst e_
    refine x_skip <| x_seq <| x_block <| x_seq <|
     x_region <| p (yix_f sl_87 q10 q0f q0h q1k) <| pa (v := .agg #[.int .i64 q4.Net, .int .i64 q4.Layer, .int .i64 q4.X, .int .i64 q4.Y]) (at_loadAgg agg_181 rfl rfl (Elt.every q2p (hS.pull 1))) <| ?_
    refine o_alloc zero_181 hS (fun b13 w' hS => ?_)
    refine o_storeAgg (news := [.int .i64 q4.Net, .int .i64 q4.Layer, .int .i64 q4.X, .int .i64 q4.Y]) agg_181 rfl rfl rfl (by simp [over_length]) hS (fun w' hS => ?_)
    refine x_done <| x_region <| p (yl_field0 fld_181_0 rfl) <| pa (at_load one_3 rfl (hS.cell rfl)) <|
     p (yl_field0 fld_181_1 rfl) <| pa (at_load one_3 rfl (hS.cell rfl)) <| p (yl_field0 fld_181_2 rfl) <| pa (at_load one_3 rfl (hS.cell rfl)) <|
     p (yl_field0 fld_181_3 rfl) <| pa (at_load one_3 rfl (hS.cell rfl)) <| ?_
    refine o_buildSlice (vs := [.int .i64 q4.Net, .int .i64 q4.Layer, .int .i64 q4.X, .int .i64 q4.Y]) (cs := [.int .i64 q4.Net, .int .i64 q4.Layer, .int .i64 q4.X, .int .i64 q4.Y]) sl_22 zero_3 (parts_eq (pt (va := .int .i64 q4.Net) rfl (pt (va := .int .i64 q4.Layer) rfl (pt (va := .int .i64 q4.X) rfl (pt (va := .int .i64 q4.Y) rfl pt0))))) rfl (by intro v hv; simp only [List.mem_cons, List.not_mem_nil, or_false] at hv; first | (subst hv; rfl) | (rcases hv with rfl | rfl | rfl | rfl <;> rfl)) (by decide) rfl hS (fun b119 w' hS => ?_)
    have q2q : RepL (RpI .i64) ρ ([q4.Net, q4.Layer, q4.X, q4.Y] : List Int) [.int .i64 q4.Net, .int .i64 q4.Layer, .int .i64 q4.X, .int .i64 q4.Y] := (RepL.cons (cs := [.int .i64 q4.Net]) rfl (RepL.cons (cs := [.int .i64 q4.Layer]) rfl (RepL.cons (cs := [.int .i64 q4.X]) rfl (RepL.cons (cs := [.int .i64 q4.Y]) rfl RepL.nil))))
    replace hS := St.vec_of (n := 4) (sz := (RpI .i64).sz) hS rfl (by decide)
    replace hFL24 := bd_s hFL24; obtain ⟨q3b, q2r, hFL24⟩ := hFL24
    have q_ := St.lend ((hS.pull 3).pull 1) q2q; obtain ⟨ρl0, hll0, hlf0, hS0, back0⟩ := q_
    have hcall := c_layfmt_line q2r hlf0 hS0
    refine o_cc call_86 (args2 rfl rfl) ((Calls.mono hcall (fun e w'' h => And.intro h.1 (((((back0 h.2).pull 1).pull 3).pull 3).pull 3)))) ?_
    rintro e w' ⟨rfl, hS⟩
    refine ⟨_, rfl, ?_⟩
    replace hFL24 := ck_s hFL24; obtain ⟨q1z, hFL24⟩ := hFL24
    replace hFL24 := lv_s hFL24; obtain ⟨q2s, q20, hFL24⟩ := hFL24
    refine o_cc call_80 (args2 q0z rfl) (bws (hS.pull 2) q1z) ?_
    rintro e w' ⟨rfl, hS⟩
    refine ⟨_, rfl, ?_⟩
    rw [← q20] at hS
    replace hFL24 := ar_s hFL24; obtain ⟨x122, hx122, hFL24⟩ := hFL24
    refine x_done <| x_blk <| x_region <| p (yadd q0f rfl hx122) <|
     p (yl_move rfl) <| x_done <| ?_
    have e_ := Option.some.inj (show some _ = some _ from hFL24); subst e_
    exact x_inv ⟨kL24, Nat.lt_succ_self _, q2s, x122, hLL24, q0z, q10, q11, rfl, ((((hS.pull 1).drop.pull 1).drop.pull 1).pull 1)⟩
   ·replace hFL24 := it_f hc108 hFL24
    refine x_exitTo _ rfl <| ?_
    have e_ := Option.some.inj (show some _ = some _ from hFL24); subst e_
    exact x_inv ⟨q0n, hLL24, q0z, ((hS.pull 1).pull 1)⟩
  rintro E w ⟨q0v, rfl, q1m, hS⟩
  refine x_seq <| x_seq <| x_region <| ?_
  refine o_cc call_87 (args1 q1m) (bln hS) ?_
  rintro e w' ⟨rfl, hS⟩
  refine ⟨_, rfl, ?_⟩
  refine p (yl_gtr rfl rfl) <| x_done <|
   x_cond_p (262144 < (q0v.size : Int)) rfl (fun hc124 => ?_) (fun hc124 => ?_)
  ·replace hF := it_t hc124 hF
   refine x_seq <| x_region <| p (yl_assign rfl) <| p (yl_assign rfl) <|
    x_done <| ?_
   have e_ := Option.some.inj (show some _ = some _ from hF); subst e_
   exact x_return ⟨_, ⟨_, _, rfl, rfl, _, _, rfl, rfl, rfl⟩, rfl, hS.drop⟩
  ·replace hF := it_f hc124 hF
   refine x_skip <| x_seq <| x_region <| ?_
   replace hF := ck_s hF; obtain ⟨q2t, hF⟩ := hF
   refine o_cc call_81 (args1 q1m) (bst hS q2t) ?_
   rintro e w' ⟨rfl, hS⟩
   refine ⟨_, rfl, ?_⟩
   refine p (yl_assign rfl) <| p (yl_assign rfl) <| x_done <| ?_
   have e_ := Option.some.inj (show some _ = some _ from hF); subst e_
   exact x_return ⟨_, ⟨_, _, rfl, rfl, _, _, rfl, rfl, rfl⟩, rfl, hS⟩
attribute [irreducible] P_layfmt_Text

def P_strings_Split (s0 sep1 : ByteArray) : Option (List ByteArray) := ck (s0.size < 4294967281 ∧ 1 ≤ sep1.size) <| some (splitS s0 sep1)
theorem c_strings_Split {w0 w : World} {l : List Assn} {ρ : Heap} {s0 sep1 : ByteArray} {r : List ByteArray} (hF : P_strings_Split s0 sep1 = some r) (hS : St w0 w (ro ρ :: l)) :
  Calls Tryd.prog 30 #[.string s0, .string sep1] w fun e w' => ∃ (A_r : Option Addr) (n_r : Nat) (c_r : Nat) (q2 : List Value), e = .returned (.slice A_r n_r c_r) ∧ RepL RpS ρ r q2 ∧ St w0 w' (vec 9 RpS.sz (.slice A_r n_r c_r) n_r q2 :: ro ρ :: l) := by
 obtain ⟨h, hF⟩ := ck_s hF
 cases hF
 exact split_at h.1 h.2 hS
attribute [irreducible] P_strings_Split

def P_maskkeep4_writes : Option Bool :=
 bd (P_layfmt_Text (T_rules_Layout.mk 3 2 1 1 ([(T_rules_Wire.mk 0 0 0 1 2 1)] : List T_rules_Wire) [] [] [])) fun q2 =>
 lv ((decide (q2.2 = 0)) && (decide (q2.1 = ks_e7e6c1b5))) fun x17 =>
 some x17
set_option maxHeartbeats 4000000 in
set_option maxRecDepth 100000 in
theorem c_maskkeep4_writes {w0 w : World} {l : List Assn} {ρ : Heap} {r : Bool} (hF : P_maskkeep4_writes = some r) (hS : St w0 w (ro ρ :: l)) :
  Calls Tryd.prog 36 #[] w fun e w' => e = .returned (.bool r) ∧ St w0 w' (ro ρ :: l) := by
 refine enterC Tryd.func36 rfl 18 rfl (by simp) ?_
 refine x_seq <| x_region <| p (yl_assign rfl) <| x_done <|
  x_seq <| x_region <| p (v := .agg #[.int .i64 0, .int .i64 0, .int .i64 0, .int .i64 1, .int .i64 2, .int .i64 1]) (yl_build bld_98 bldf_98 (parts_eq (pt (va := .int .i64 1) rfl (pt (va := .int .i64 2) rfl (pt (va := .int .i64 1) rfl pt0)))) (by kernel_rfl)) <| ?_
 refine o_buildSlice (vs := [.agg #[.int .i64 0, .int .i64 0, .int .i64 0, .int .i64 1, .int .i64 2, .int .i64 1]]) (cs := [.int .i64 0, .int .i64 0, .int .i64 0, .int .i64 1, .int .i64 2, .int .i64 1]) sl_86 zero_98 (parts_eq (pt (va := .agg #[.int .i64 0, .int .i64 0, .int .i64 0, .int .i64 1, .int .i64 2, .int .i64 1]) rfl pt0)) rfl (by intro v hv; simp only [List.mem_cons, List.not_mem_nil, or_false] at hv; first | (subst hv; rfl) | (rcases hv with rfl <;> rfl)) (by decide) rfl hS (fun b5 w' hS => ?_)
 refine p (v := .agg #[.int .i64 3, .int .i64 2, .int .i64 1, .int .i64 1, .slice (some ⟨b5, 0, none⟩) 1 1, .slice none 0 0, .slice none 0 0, .slice none 0 0]) (yl_build bld_91 bldf_91 (parts_eq (pt (va := .int .i64 3) rfl (pt (va := .int .i64 2) rfl (pt (va := .int .i64 1) rfl (pt (va := .int .i64 1) rfl (pt (va := .slice (some ⟨b5, 0, none⟩) 1 1) rfl pt0)))))) (by kernel_rfl)) <| ?_
 refine o_alloc zero_91 hS (fun b1 w' hS => ?_)
 refine o_storeAgg (news := [.int .i64 3, .int .i64 2, .int .i64 1, .int .i64 1, .slice (some ⟨b5, 0, none⟩) 1 1, .slice none 0 0, .slice none 0 0, .slice none 0 0]) agg_91 rfl rfl rfl (by simp [over_length]) hS (fun w' hS => ?_)
 refine x_done <| x_seq <| x_region <| pa (v := .agg #[.int .i64 3, .int .i64 2, .int .i64 1, .int .i64 1, .slice (some ⟨b5, 0, none⟩) 1 1, .slice none 0 0, .slice none 0 0, .slice none 0 0]) (ld_sub agg_91 rfl rfl rfl hS) <| ?_
 have q3 : RepL R_rules_Wire ρ ([(T_rules_Wire.mk 0 0 0 1 2 1)] : List T_rules_Wire) [.int .i64 0, .int .i64 0, .int .i64 0, .int .i64 1, .int .i64 2, .int .i64 1] := (RepL.cons (cs := [.int .i64 0, .int .i64 0, .int .i64 0, .int .i64 1, .int .i64 2, .int .i64 1]) rfl RepL.nil)
 replace hS := St.vec_of (n := 1) (sz := R_rules_Wire.sz) (hS.pull 1) rfl (by decide)
 replace hF := bd_s hF; obtain ⟨q2, q4, hF⟩ := hF
 have q_ := St.lend ((hS.pull 2).pull 1) q3; obtain ⟨ρl0, hll0, hlf0, hS0, back0⟩ := q_
 have hcall := c_layfmt_Text q4 hlf0 (RdS.nil (A := none) (c := 0)) (RdS.nil (A := none) (c := 0)) (RdS.nil (A := none) (c := 0)) hS0
 refine o_cc call_34 (args1 rfl) ((Calls.mono hcall (fun e w'' h => And.intro h.1 ((((back0 h.2).pull 1).pull 2).pull 2)))) ?_
 rintro e w' ⟨rfl, hS⟩
 refine ⟨_, rfl, ?_⟩
 replace hF := lv_s hF; obtain ⟨x17, hx17, hF⟩ := hF
 refine p (v := .tuple #[.string q2.1, .int .i64 q2.2]) (yl_move rfl) <| p (yl_extract rfl rfl) <| p (yl_extract rfl rfl) <| p (yl_assign rfl) <|
  p (yl_assign rfl) <| x_done <| x_seq <| x_region <|
  p (yl_move rfl) <| p (yl_eql rfl rfl) <| p (yl_move rfl) <| pg (v := .string q2.1) 14 (c := decide (q2.2 = 0)) (says_t _) (fun hq => Yl.at (yl_move rfl)) <|
  pg (v := .bool (decide (q2.1 = ks_e7e6c1b5))) 14 (c := decide (q2.2 = 0)) (says_t _) (fun hq => Yl.at (yl_eql_string (cv hq) rfl)) <| p (yand' rfl (fun hc => (cv hc)) rfl hx17) <| p (yl_assign rfl) <| x_done <| ?_
 have e_ := Option.some.inj (show some _ = some _ from hF); subst e_
 exact x_return ⟨_, ⟨_, _, rfl, rfl, rfl⟩, rfl, hS.drop.drop⟩
attribute [irreducible] P_maskkeep4_writes

def P_strings_Join (elems0 : List ByteArray) (sep1 : ByteArray) : Option ByteArray := ck (1 ≤ elems0.length ∧ elems0.length ≤ 140737488355328 ∧ (joinS elems0 sep1).size ≤ 140737488355328) <| some (joinS elems0 sep1)
theorem c_strings_Join {w0 w : World} {l : List Assn} {ρ : Heap} {q2 : Option Addr} {q3 : Nat} {c_elems0 : Nat} {elems0 : List ByteArray} {sep1 : ByteArray} {r : ByteArray} (hF : P_strings_Join elems0 sep1 = some r) (q4 : RdS RpS ρ q2 q3 c_elems0 elems0) (hS : St w0 w (ro ρ :: l)) :
  Calls Tryd.prog 31 #[.slice q2 q3 c_elems0, .string sep1] w fun e w' => e = .returned (.string r) ∧ St w0 w' (ro ρ :: l) := by
 obtain ⟨h, hF⟩ := ck_s hF
 cases hF
 exact join_at q4 h.1 h.2.1 h.2.2 hS
attribute [irreducible] P_strings_Join

def P_layfmt_lines (s0 : ByteArray) : Option (List ByteArray × Bool) :=
 bd (P_strings_Split s0 (⟨#[10]⟩ : ByteArray)) fun q2 =>
 ar ((q2.length : Int) - 1) fun x10 =>
 ck (0 ≤ (0 : Int) ∧ (0 : Int) ≤ x10 ∧ x10 ≤ q2.length) <|
 lv (sub q2 0 x10) fun x11 =>
 ar ((q2.length : Int) - 1) fun x15 =>
 ck (inb x15 q2.length) <|
 lv (gt q2 x15) fun x17 =>
 some (x11, decide (x17 = (⟨#[]⟩ : ByteArray)))
set_option maxHeartbeats 4000000 in
set_option maxRecDepth 100000 in
theorem c_layfmt_lines {w0 w : World} {l : List Assn} {ρ : Heap} {s0 : ByteArray} {r : (List ByteArray × Bool)} (hF : P_layfmt_lines s0 = some r) (hS : St w0 w (ro ρ :: l)) :
  Calls Tryd.prog 88 #[.string s0] w fun e w' => ∃ (ρ' : Heap) (q0h : Option Addr) (q0i : Nat) (c_y0_ret : Nat), e = .returned (.tuple #[.slice q0h q0i c_y0_ret, .bool r.2]) ∧ Le ρ ρ' ∧ RdS RpS ρ' q0h q0i c_y0_ret r.1 ∧ St w0 w' (ro ρ' :: l) := by
 refine enterC Tryd.func88 rfl 19 rfl (by simp) ?_
 replace hF := bd_s hF; obtain ⟨q3, q0r, hF⟩ := hF
 refine x_seq <| x_region <| p (yl_assign rfl) <| p (yl_assign rfl) <|
  x_done <| x_seq <| x_region <| p (yl_move rfl) <| ?_
 have hcall := c_strings_Split q0r  hS
 refine o_cc call_30 (args2 rfl rfl) hcall ?_
 rintro e w' ⟨q2, q0t, c_r_1_1, q0s, rfl, q0j, hS⟩
 refine ⟨_, rfl, ?_⟩
 have e_ := St.vec_n hS q0j; subst e_
 refine p (yl_assign rfl) <| x_done <| x_seq <| ?_
 have q_ := St.vec_fz ((hS.pull 1).pull 1) q0j; obtain ⟨q4, q0q, q0k, hS⟩ := q_
 replace hF := ar_s hF; obtain ⟨x10, hx10, hF⟩ := hF
 replace hF := ck_s hF; obtain ⟨q0n, hF⟩ := hF
 replace hF := lv_s hF; obtain ⟨x11, hx11, hF⟩ := hF
 replace hF := ar_s hF; obtain ⟨x15, hx15, hF⟩ := hF
 replace hF := ck_s hF; obtain ⟨q0o, hF⟩ := hF
 replace hF := lv_s hF; obtain ⟨x17, hx17, hF⟩ := hF
 refine x_par (w0 := w0) [⟨[], [], [7], [], [], []⟩, ⟨[], [], [8], [], [], []⟩, ⟨[1], [1], [9], [], [], []⟩, ⟨[1, 2], [2], [10], [], [], []⟩, ⟨[0, 1, 2, 3], [0, 3], [11], [0], [], []⟩, ⟨[], [], [12], [], [], []⟩, ⟨[], [], [13], [], [], []⟩, ⟨[6], [6], [14], [], [], []⟩, ⟨[6, 7], [7], [15], [], [], []⟩, ⟨[5, 6, 7, 8], [5, 8], [16], [0], [], []⟩, ⟨[5, 6, 7, 8, 9], [9], [17], [0], [], []⟩, ⟨[5, 6, 7, 8, 9, 10], [10], [18], [], [], []⟩, ⟨[0, 1, 2, 3, 4], [4], [2, 11], [], [], []⟩, ⟨[0, 1, 2, 3, 4, 5, 6, 7, 8, 9, 10, 11, 12], [11], [3], [], [], []⟩] [⟨none, none, []⟩] [2, 3, 7, 8, 9, 10, 11, 12, 13, 14, 15, 16, 17, 18] [0] [0] [0, 1, 2, 3, 4, 5, 6, 7, 8, 9, 10, 11, 12, 13] [fun Ep2 => Ep2 7 = .slice q2 q3.length c_r_1_1, fun Ep2 => Ep2 8 = .slice q2 q3.length c_r_1_1, fun Ep2 => Ep2 9 = .int .i64 (q3.length : Int), fun Ep2 => Ep2 10 = .int .i64 x10, fun Ep2 => Ep2 11 = .slice (adOf (Ep2 11)) x11.length (capOf (Ep2 11)) ∧ RdS RpS q4 (adOf (Ep2 11)) x11.length (capOf (Ep2 11)) x11, fun Ep2 => Ep2 12 = .slice q2 q3.length c_r_1_1, fun Ep2 => Ep2 13 = .slice q2 q3.length c_r_1_1, fun Ep2 => Ep2 14 = .int .i64 (q3.length : Int), fun Ep2 => Ep2 15 = .int .i64 x15, fun Ep2 => Ep2 16 = .pointer (some ((adr q2).add (x15.toNat * RpS.sz))), fun Ep2 => Ep2 17 = .string x17, fun Ep2 => Ep2 18 = .bool (decide (x17 = (⟨#[]⟩ : ByteArray))), fun Ep2 => Ep2 2 = .slice (adOf (Ep2 11)) x11.length (capOf (Ep2 11)), fun Ep2 => Ep2 3 = .bool (decide (x17 = (⟨#[]⟩ : ByteArray)))] [fun Ep2 => ro q4] mixed (by kernel_rfl) hS ?_ ?_
 ·refine ⟨?_, ?_, ?_, ?_, ?_, ?_, ?_, ?_, ?_, ?_, ?_, ?_, ?_, ?_, trivial⟩
  ·intro Ep2 w l' hE2 hO2 hF_ hS
   refine p (yl_move (hE2 4 rfl)) <| x_done <| ?_
   refine x_fin ⟨⟨_, rfl⟩, rfl, ?_⟩
   exact Eq.mp (by kernel_rfl) hS
  ·intro Ep2 w l' hE2 hO2 hF_ hS
   refine p (yl_move (hE2 4 rfl)) <| x_done <| ?_
   refine x_fin ⟨⟨_, rfl⟩, rfl, ?_⟩
   exact Eq.mp (by kernel_rfl) hS
  ·intro Ep2 w l' hE2 hO2 hF_ hS
   obtain ⟨q8, -⟩ := hF_
   replace q8 : Ep2 8 = .slice q2 q3.length c_r_1_1 := Eq.mp (by kernel_rfl) q8
   refine p (yl_len_slice usl_26 q8) <| x_done <| ?_
   refine x_fin ⟨⟨_, rfl⟩, rfl, ?_⟩
   exact Eq.mp (by kernel_rfl) hS
  ·intro Ep2 w l' hE2 hO2 hF_ hS
   obtain ⟨q9, -⟩ := hF_
   replace q9 : Ep2 9 = .int .i64 (q3.length : Int) := Eq.mp (by kernel_rfl) q9
   refine p (ysub q9 rfl hx10) <| x_done <| ?_
   refine x_fin ⟨⟨_, rfl⟩, rfl, ?_⟩
   exact Eq.mp (by kernel_rfl) hS
  ·intro Ep2 w l' hE2 hO2 hF_ hS
   obtain ⟨q0a, q0b, -⟩ := hF_
   replace q0a : Ep2 7 = .slice q2 q3.length c_r_1_1 := Eq.mp (by kernel_rfl) q0a
   replace q0b : Ep2 10 = .int .i64 x10 := Eq.mp (by kernel_rfl) q0b
   replace hS : St w0 w (ro q4 :: l') := Eq.mp (by kernel_rfl) hS
   have q_ := RdS.sub q0k q0n hx11; obtain ⟨A11, n11, c11, hd11, f11⟩ := q_
   refine p (ysub_h sl_26 q0a q0b q0n hd11) <| ?_
   have e_ := f11.n; subst e_
   refine x_done <| ?_
   refine x_fin ⟨⟨_, rfl⟩, ⟨rfl, f11⟩, ?_⟩
   exact Eq.mp (by kernel_rfl) hS
  ·intro Ep2 w l' hE2 hO2 hF_ hS
   refine p (yl_move (hE2 4 rfl)) <| x_done <| ?_
   refine x_fin ⟨⟨_, rfl⟩, rfl, ?_⟩
   exact Eq.mp (by kernel_rfl) hS
  ·intro Ep2 w l' hE2 hO2 hF_ hS
   refine p (yl_move (hE2 4 rfl)) <| x_done <| ?_
   refine x_fin ⟨⟨_, rfl⟩, rfl, ?_⟩
   exact Eq.mp (by kernel_rfl) hS
  ·intro Ep2 w l' hE2 hO2 hF_ hS
   obtain ⟨q0c, -⟩ := hF_
   replace q0c : Ep2 13 = .slice q2 q3.length c_r_1_1 := Eq.mp (by kernel_rfl) q0c
   refine p (yl_len_slice usl_26 q0c) <| x_done <| ?_
   refine x_fin ⟨⟨_, rfl⟩, rfl, ?_⟩
   exact Eq.mp (by kernel_rfl) hS
  ·intro Ep2 w l' hE2 hO2 hF_ hS
   obtain ⟨q0d, -⟩ := hF_
   replace q0d : Ep2 14 = .int .i64 (q3.length : Int) := Eq.mp (by kernel_rfl) q0d
   refine p (ysub q0d rfl hx15) <| x_done <| ?_
   refine x_fin ⟨⟨_, rfl⟩, rfl, ?_⟩
   exact Eq.mp (by kernel_rfl) hS
  ·intro Ep2 w l' hE2 hO2 hF_ hS
   obtain ⟨q0e, q0f, -⟩ := hF_
   replace q0e : Ep2 12 = .slice q2 q3.length c_r_1_1 := Eq.mp (by kernel_rfl) q0e
   replace q0f : Ep2 15 = .int .i64 x15 := Eq.mp (by kernel_rfl) q0f
   replace hS : St w0 w (ro q4 :: l') := Eq.mp (by kernel_rfl) hS
   refine p (yix_f sl_26 q0e q0f q0k q0o) <| x_done <| ?_
   refine x_fin ⟨⟨_, rfl⟩, rfl, ?_⟩
   exact Eq.mp (by kernel_rfl) hS
  ·intro Ep2 w l' hE2 hO2 hF_ hS
   obtain ⟨q0g, -⟩ := hF_
   replace q0g : Ep2 16 = .pointer (some ((adr q2).add (x15.toNat * RpS.sz))) := Eq.mp (by kernel_rfl) q0g
   replace hS : St w0 w (ro q4 :: l') := Eq.mp (by kernel_rfl) hS
   refine pa (at_load one_9 q0g (RdS.getW q0k hS q0o hx17)) <| x_done <| ?_
   refine x_fin ⟨⟨_, rfl⟩, rfl, ?_⟩
   exact Eq.mp (by kernel_rfl) hS
  ·intro Ep2 w l' hE2 hO2 hF_ hS
   obtain ⟨q6, -⟩ := hF_
   replace q6 : Ep2 17 = .string x17 := Eq.mp (by kernel_rfl) q6
   refine p (yl_eql_string q6 rfl) <| x_done <| ?_
   refine x_fin ⟨⟨_, rfl⟩, rfl, ?_⟩
   exact Eq.mp (by kernel_rfl) hS
  ·intro Ep2 w l' hE2 hO2 hF_ hS
   obtain ⟨q5, -⟩ := hF_
   replace q5 : Ep2 11 = .slice (adOf (Ep2 11)) x11.length (capOf (Ep2 11)) ∧ RdS RpS q4 (adOf (Ep2 11)) x11.length (capOf (Ep2 11)) x11 := Eq.mp (by kernel_rfl) q5
   have q_ := id q5; obtain ⟨-, q0p⟩ := q_
   refine p (yl_assign q5.1) <| x_done <| ?_
   refine x_fin ⟨⟨_, rfl⟩, rfl, ?_⟩
   exact Eq.mp (by kernel_rfl) hS
  ·intro Ep2 w l' hE2 hO2 hF_ hS
   obtain ⟨q7, -⟩ := hF_
   replace q7 : Ep2 18 = .bool (decide (x17 = (⟨#[]⟩ : ByteArray))) := Eq.mp (by kernel_rfl) q7
   refine p (yl_assign q7) <| x_done <| ?_
   refine x_fin ⟨⟨_, rfl⟩, rfl, ?_⟩
   exact Eq.mp (by kernel_rfl) hS
 intro Ep2 w' hE2 hF_ hS
 obtain ⟨q0a, q8, q9, q0b, q5, q0e, q0c, q0d, q0f, q0g, q6, q7, q0l, q0m, -⟩ := hF_
 replace q0a : Ep2 7 = .slice q2 q3.length c_r_1_1 := Eq.mp (by kernel_rfl) q0a
 replace q8 : Ep2 8 = .slice q2 q3.length c_r_1_1 := Eq.mp (by kernel_rfl) q8
 replace q9 : Ep2 9 = .int .i64 (q3.length : Int) := Eq.mp (by kernel_rfl) q9
 replace q0b : Ep2 10 = .int .i64 x10 := Eq.mp (by kernel_rfl) q0b
 replace q5 : Ep2 11 = .slice (adOf (Ep2 11)) x11.length (capOf (Ep2 11)) ∧ RdS RpS q4 (adOf (Ep2 11)) x11.length (capOf (Ep2 11)) x11 := Eq.mp (by kernel_rfl) q5
 have q_ := id q5; obtain ⟨-, q0p⟩ := q_
 replace q0e : Ep2 12 = .slice q2 q3.length c_r_1_1 := Eq.mp (by kernel_rfl) q0e
 replace q0c : Ep2 13 = .slice q2 q3.length c_r_1_1 := Eq.mp (by kernel_rfl) q0c
 replace q0d : Ep2 14 = .int .i64 (q3.length : Int) := Eq.mp (by kernel_rfl) q0d
 replace q0f : Ep2 15 = .int .i64 x15 := Eq.mp (by kernel_rfl) q0f
 replace q0g : Ep2 16 = .pointer (some ((adr q2).add (x15.toNat * RpS.sz))) := Eq.mp (by kernel_rfl) q0g
 replace q6 : Ep2 17 = .string x17 := Eq.mp (by kernel_rfl) q6
 replace q7 : Ep2 18 = .bool (decide (x17 = (⟨#[]⟩ : ByteArray))) := Eq.mp (by kernel_rfl) q7
 replace q0l : Ep2 2 = .slice (adOf (Ep2 11)) x11.length (capOf (Ep2 11)) := Eq.mp (by kernel_rfl) q0l
 replace q0m : Ep2 3 = .bool (decide (x17 = (⟨#[]⟩ : ByteArray))) := Eq.mp (by kernel_rfl) q0m
 replace hS : St w0 w' (ro q4 :: (l)) := Eq.mp (by kernel_rfl) hS
 have e_ := Option.some.inj (show some _ = some _ from hF); subst e_
 exact x_return ⟨_, ⟨_, _, rfl, q0l, _, _, rfl, q0m, rfl⟩, q4, (adOf (Ep2 11)), x11.length, (capOf (Ep2 11)), rfl, q0q, q0p, hS⟩
attribute [irreducible] P_layfmt_lines

def P_strconv_Atoi (s0 : ByteArray) : Option Int := atoi s0
theorem c_strconv_Atoi {w0 w : World} {l : List Assn} {ρ : Heap} {s0 : ByteArray} {r : Int} (hF : P_strconv_Atoi s0 = some r) (hS : St w0 w (ro ρ :: l)) :
  Calls Tryd.prog 141 #[.string s0] w fun e w' => e = .returned (.tuple #[.int .i64 r, .nilIface]) ∧ St w0 w' (ro ρ :: l) := atoi_at hF hS
attribute [irreducible] P_strconv_Atoi

def P_layfmt_count (word0 : ByteArray) : Option Int :=
 bd (
  if word0 = (⟨#[108, 97, 121, 111, 117, 116]⟩ : ByteArray) then
   some (decide (word0 = (⟨#[108, 97, 121, 111, 117, 116]⟩ : ByteArray)))
  else
   bd (
    if word0 = (⟨#[112, 105, 110]⟩ : ByteArray) then
     some (decide (word0 = (⟨#[112, 105, 110]⟩ : ByteArray)))
    else
     some (decide (word0 = (⟨#[118, 105, 97]⟩ : ByteArray)))) fun q3 =>
   some q3) fun q5 =>
 if q5 = true then
  some (4 : Int)
 else
  if word0 = (⟨#[119, 97, 108, 108]⟩ : ByteArray) then
   some (5 : Int)
  else
   bd (
    if word0 = (⟨#[100, 114, 105, 118, 101]⟩ : ByteArray) then
     some (decide (word0 = (⟨#[100, 114, 105, 118, 101]⟩ : ByteArray)))
    else
     bd (
      if word0 = (⟨#[102, 108, 111, 111, 114]⟩ : ByteArray) then
       some (decide (word0 = (⟨#[102, 108, 111, 111, 114]⟩ : ByteArray)))
      else
       some (decide (word0 = (⟨#[98, 108, 111, 99, 107]⟩ : ByteArray)))) fun q2 =>
     some q2) fun q4 =>
   if q4 = true then
    some (3 : Int)
   else
    if word0 = (⟨#[119, 105, 114, 101]⟩ : ByteArray) then
     some (6 : Int)
    else
     if word0 = (⟨#[115, 105, 116, 101]⟩ : ByteArray) then
      some (2 : Int)
     else
      some (-1 : Int)
set_option maxHeartbeats 4000000 in
set_option maxRecDepth 100000 in
theorem c_layfmt_count {w0 w : World} {l : List Assn} {ρ : Heap} {word0 : ByteArray} {r : Int} (hF : P_layfmt_count word0 = some r) (hS : St w0 w (ro ρ :: l)) :
  Calls Tryd.prog 142 #[.string word0] w fun e w' => e = .returned (.int .i64 r) ∧ St w0 w' (ro ρ :: l) := by
 refine enterC Tryd.func142 rfl 18 rfl (by simp) ?_
 refine x_seq <| x_region <| p (yl_assign rfl) <| x_done <|
  x_seq <| x_seq <| x_region <| p (yl_move rfl) <|
  x_done <| x_block <| x_seq <| x_seq <|
  x_region <| p (yl_eql_string rfl rfl) <| p (yl_assign rfl) <| x_done <| ?_
 replace hF := bd_s hF; obtain ⟨oc4, hFc4, hF⟩ := hF
 refine x_join (fun E w => ∃ (q8 : Bool), q8 = oc4 ∧ E 3 = .string word0 ∧ E 4 = .bool q8 ∧ St w0 w (ro ρ :: l)) ?_ ?_
 ·refine x_cond_p (word0 = (⟨#[108, 97, 121, 111, 117, 116]⟩ : ByteArray)) rfl (fun hc4 => ?_) (fun hc4 => ?_)
  ·replace hFc4 := it_t hc4 hFc4
   refine x_skip <| ?_
   exact x_inv ⟨decide (word0 = (⟨#[108, 97, 121, 111, 117, 116]⟩ : ByteArray)), (Option.some.inj (show some _ = some _ from hFc4)), rfl, rfl, hS⟩
  ·replace hFc4 := it_f hc4 hFc4
   refine x_seq <| x_region <| p (yl_eql_string rfl rfl) <| p (yl_assign rfl) <|
    x_done <| ?_
   replace hFc4 := bd_s hFc4; obtain ⟨q0g, q4, hFc4⟩ := hFc4
   refine x_join (fun E w => ∃ (q6 : Bool), q6 = q0g ∧ E 3 = .string word0 ∧ E 4 = .bool q6 ∧ St w0 w (ro ρ :: l)) ?_ ?_
   ·refine x_cond_p (word0 = (⟨#[112, 105, 110]⟩ : ByteArray)) rfl (fun hc4 => ?_) (fun hc4 => ?_)
    ·replace q4 := it_t hc4 q4
     refine x_skip <| ?_
     exact x_inv ⟨decide (word0 = (⟨#[112, 105, 110]⟩ : ByteArray)), (Option.some.inj (show some _ = some _ from q4)), rfl, rfl, hS⟩
    ·replace q4 := it_f hc4 q4
     refine x_region <| p (yl_eql_string rfl rfl) <| p (yl_assign rfl) <| x_done <| ?_
     exact x_inv ⟨decide (word0 = (⟨#[118, 105, 97]⟩ : ByteArray)), (Option.some.inj (show some _ = some _ from q4)), rfl, rfl, hS⟩
   rintro E w ⟨q6, rfl, q0c, q0d, hS⟩
   exact x_inv ⟨q6, (Option.some.inj (show some _ = some _ from hFc4)), q0c, q0d, hS⟩
 rintro E w ⟨q8, rfl, q5, q0h, hS⟩
 refine x_cond (t := q8) q0h (fun hc4 => ?_) (fun hc4 => ?_)
 ·replace hF := it_t hc4 hF
  refine x_seq <| x_region <| p (yl_assign rfl) <| x_done <| ?_
  have e_ := Option.some.inj (show some _ = some _ from hF); subst e_
  exact x_return ⟨_, ⟨_, _, rfl, rfl, rfl⟩, rfl, hS⟩
 ·replace hF := it_bf hc4 hF
  refine x_seq <| x_region <| p (yl_eql_string q5 rfl) <| p (yl_assign rfl) <|
   x_done <|
   x_cond_p (word0 = (⟨#[119, 97, 108, 108]⟩ : ByteArray)) rfl (fun hc8 => ?_) (fun hc8 => ?_)
  ·replace hF := it_t hc8 hF
   refine x_seq <| x_region <| p (yl_assign rfl) <| x_done <| ?_
   have e_ := Option.some.inj (show some _ = some _ from hF); subst e_
   exact x_return ⟨_, ⟨_, _, rfl, rfl, rfl⟩, rfl, hS⟩
  ·replace hF := it_f hc8 hF
   refine x_seq <| x_seq <| x_region <| p (yl_eql_string q5 rfl) <|
    p (yl_assign rfl) <| x_done <| ?_
   replace hF := bd_s hF; obtain ⟨oc10, hFc10, hF⟩ := hF
   refine x_join (fun E w => ∃ (q7 : Bool), q7 = oc10 ∧ E 3 = .string word0 ∧ E 10 = .bool q7 ∧ St w0 w (ro ρ :: l)) ?_ ?_
   ·refine x_cond_p (word0 = (⟨#[100, 114, 105, 118, 101]⟩ : ByteArray)) rfl (fun hc10 => ?_) (fun hc10 => ?_)
    ·replace hFc10 := it_t hc10 hFc10
     refine x_skip <| ?_
     exact x_inv ⟨decide (word0 = (⟨#[100, 114, 105, 118, 101]⟩ : ByteArray)), (Option.some.inj (show some _ = some _ from hFc10)), q5, rfl, hS⟩
    ·replace hFc10 := it_f hc10 hFc10
     refine x_seq <| x_region <| p (yl_eql_string q5 rfl) <| p (yl_assign rfl) <|
      x_done <| ?_
     replace hFc10 := bd_s hFc10; obtain ⟨q0f, q2, hFc10⟩ := hFc10
     refine x_join (fun E w => ∃ (q3 : Bool), q3 = q0f ∧ E 3 = .string word0 ∧ E 10 = .bool q3 ∧ St w0 w (ro ρ :: l)) ?_ ?_
     ·refine x_cond_p (word0 = (⟨#[102, 108, 111, 111, 114]⟩ : ByteArray)) rfl (fun hc10 => ?_) (fun hc10 => ?_)
      ·replace q2 := it_t hc10 q2
       refine x_skip <| ?_
       exact x_inv ⟨decide (word0 = (⟨#[102, 108, 111, 111, 114]⟩ : ByteArray)), (Option.some.inj (show some _ = some _ from q2)), q5, rfl, hS⟩
      ·replace q2 := it_f hc10 q2
       refine x_region <| p (yl_eql_string q5 rfl) <| p (yl_assign rfl) <| x_done <| ?_
       exact x_inv ⟨decide (word0 = (⟨#[98, 108, 111, 99, 107]⟩ : ByteArray)), (Option.some.inj (show some _ = some _ from q2)), q5, rfl, hS⟩
     rintro E w ⟨q3, rfl, q0b, q9, hS⟩
     exact x_inv ⟨q3, (Option.some.inj (show some _ = some _ from hFc10)), q0b, q9, hS⟩
   rintro E w ⟨q7, rfl, q0a, q0e, hS⟩
   refine x_cond (t := q7) q0e (fun hc10 => ?_) (fun hc10 => ?_)
   ·replace hF := it_t hc10 hF
    refine x_seq <| x_region <| p (yl_assign rfl) <| x_done <| ?_
    have e_ := Option.some.inj (show some _ = some _ from hF); subst e_
    exact x_return ⟨_, ⟨_, _, rfl, rfl, rfl⟩, rfl, hS⟩
   ·replace hF := it_bf hc10 hF
    refine x_seq <| x_region <| p (yl_eql_string q0a rfl) <| p (yl_assign rfl) <|
     x_done <|
     x_cond_p (word0 = (⟨#[119, 105, 114, 101]⟩ : ByteArray)) rfl (fun hc14 => ?_) (fun hc14 => ?_)
    ·replace hF := it_t hc14 hF
     refine x_seq <| x_region <| p (yl_assign rfl) <| x_done <| ?_
     have e_ := Option.some.inj (show some _ = some _ from hF); subst e_
     exact x_return ⟨_, ⟨_, _, rfl, rfl, rfl⟩, rfl, hS⟩
    ·replace hF := it_f hc14 hF
     refine x_seq <| x_region <| p (yl_eql_string q0a rfl) <| p (yl_assign rfl) <|
      x_done <|
      x_cond_p (word0 = (⟨#[115, 105, 116, 101]⟩ : ByteArray)) rfl (fun hc16 => ?_) (fun hc16 => ?_)
     ·replace hF := it_t hc16 hF
      refine x_seq <| x_region <| p (yl_assign rfl) <| x_done <| ?_
      have e_ := Option.some.inj (show some _ = some _ from hF); subst e_
      exact x_return ⟨_, ⟨_, _, rfl, rfl, rfl⟩, rfl, hS⟩
     ·replace hF := it_f hc16 hF
      refine x_skip <| x_blk <| x_seq <| x_region <|
       p (yl_assign rfl) <| x_done <| ?_
      have e_ := Option.some.inj (show some _ = some _ from hF); subst e_
      exact x_return ⟨_, ⟨_, _, rfl, rfl, rfl⟩, rfl, hS⟩
attribute [irreducible] P_layfmt_count

def P_layfmt_words_L4 (x14 : List ByteArray) : (List Int × Int) → Option ((List Int × Int) ⊕ (List Int ⊕ (ByteArray × List Int × Bool))) := fun (q3, q2) =>
 if q2 < (x14.length : Int) then
  ck (inb q2 x14.length) <|
  lv (gt x14 q2) fun x19 =>
  bd (P_strconv_Atoi x19) fun q4 =>
  bd (P_strconv_Itoa q4) fun q6 =>
  if q6 ≠ x19 then
   some (Sum.inr (Sum.inr ((⟨#[]⟩ : ByteArray), [], false)))
  else
   lv (q3 ++ [q4]) fun q5 =>
   ck (apOk 8 q5.length) <|
   ar (q2 + 1) fun x37 =>
   some (Sum.inl (q5, x37))
 else
  some (Sum.inr (Sum.inl q3))
def P_layfmt_words (s0 : ByteArray) : Option (ByteArray × List Int × Bool) :=
 bd (P_strings_Split s0 (⟨#[32]⟩ : ByteArray)) fun q2 =>
 ck (0 ≤ (1 : Int) ∧ (1 : Int) ≤ (q2.length : Int) ∧ (q2.length : Int) ≤ q2.length) <|
 lv (sub q2 1 (q2.length : Int)) fun x14 =>
 bs (
  lp (P_layfmt_words_L4 x14) fuel ([], 0)) (fun y => some y) fun q3 =>
 ck (inb 0 q2.length) <|
 lv (gt q2 (0 : Int)) fun x40 =>
 ck (inb 0 q2.length) <|
 lv (gt q2 (0 : Int)) fun x46 =>
 bd (P_layfmt_count x46) fun q4 =>
 some (x40, q3, decide ((q3.length : Int) = q4))
set_option maxHeartbeats 4000000 in
set_option maxRecDepth 100000 in
theorem c_layfmt_words {w0 w : World} {l : List Assn} {ρ : Heap} {s0 : ByteArray} {r : (ByteArray × List Int × Bool)} (hF : P_layfmt_words s0 = some r) (hS : St w0 w (ro ρ :: l)) :
  Calls Tryd.prog 89 #[.string s0] w fun e w' => ∃ (q0k : Option Addr) (q0b : Nat) (c_y1_ret : Nat) (q0g : List Value), e = .returned (.tuple #[.string r.1, .slice q0k q0b c_y1_ret, .bool r.2.2]) ∧ RepL (RpI .i64) ρ r.2.1 q0g ∧ St w0 w' (vec 3 (RpI .i64).sz (.slice q0k q0b c_y1_ret) q0b q0g :: ro ρ :: l) := by
 refine enterC Tryd.func89 rfl 49 rfl (by simp) ?_
 replace hF := bd_s hF; obtain ⟨q0z, q12, hF⟩ := hF
 refine x_seq <| x_region <| p (yl_assign rfl) <| p (yl_assign rfl) <|
  p (yl_assign rfl) <| x_done <| x_seq <| x_region <|
  p (yl_move rfl) <| ?_
 have hcall := c_strings_Split q12  hS
 refine o_cc call_30 (args2 rfl rfl) hcall ?_
 rintro e w' ⟨q0l, q1a, c_r_1_1, q18, rfl, q0m, hS⟩
 refine ⟨_, rfl, ?_⟩
 have e_ := St.vec_n hS q0m; subst e_
 refine p (yl_assign rfl) <| x_done <| x_seq <| x_region <|
  p (yl_assign rfl) <| x_done <| x_seq <| x_seq <|
  x_region <| p (yl_move rfl) <| ?_
 have q_ := St.vec_fz ((hS.pull 1).pull 1) q0m; obtain ⟨q3, q0n, q0d, hS⟩ := q_
 replace hF := ck_s hF; obtain ⟨q0v, hF⟩ := hF
 replace hF := lv_s hF; obtain ⟨x14, hx14, hF⟩ := hF
 have q_ := RdS.sub q0d q0v hx14; obtain ⟨A14, n14, c14, hd14, f14⟩ := q_
 refine p (ysub_l sl_26 rfl rfl q0v hd14) <| ?_
 have e_ := f14.n; subst e_
 refine p (yl_len_slice usl_26 rfl) <| p (yl_move rfl) <| x_done <| ?_
 replace hF := bs_s hF; obtain ⟨oL4, hLL4, hF⟩ := hF
 refine x_join (fun E w => ∃ (q8 : Option Addr) (q9 : Nat) (c_l6_L4 : Nat) (q4 : List Value) (q0j : List Int), (Sum.inl q0j) = oL4 ∧ E 5 = .slice q0l q0z.length c_r_1_1 ∧ E 6 = .slice q8 q9 c_l6_L4 ∧ RepL (RpI .i64) q3 q0j q4 ∧ St w0 w (vec 3 (RpI .i64).sz (.slice q8 q9 c_l6_L4) q9 q4 :: ro q3 :: l)) ?_ ?_
 ·refine x_block ?_
  replace hS := St.vec_nil hS 3 (RpI .i64).sz
  have q0h : RepL (RpI .i64) q3 [] [] := rfl
  refine x_loop (fun k_ E w => ∃ (q5 : Option Addr) (q6 : Nat) (c_l6_L4h : Nat) (q2 : List Value) (q7 : List Int) (q0a : Int), lp (P_layfmt_words_L4 x14) k_ (q7, q0a) = some oL4 ∧ E 5 = .slice q0l q0z.length c_r_1_1 ∧ E 6 = .slice q5 q6 c_l6_L4h ∧ E 14 = .slice A14 x14.length c14 ∧ E 15 = .int .i64 (x14.length : Int) ∧ E 16 = .int .i64 q0a ∧ RepL (RpI .i64) q3 q7 q2 ∧ St w0 w (vec 3 (RpI .i64).sz (.slice q5 q6 c_l6_L4h) q6 q2 :: ro q3 :: l)) fuel ⟨none, 0, 0, [], [], 0, hLL4, rfl, rfl, rfl, rfl, rfl, q0h, ((hS.pull 1).pull 1)⟩ ?_
  rintro kL4 E w ⟨q5, q6, c_l6_L4h, q2, q7, q0a, hLL4, q0r, q0s, q0o, q0p, q0e, q0c, hS⟩
  have e_ := St.vec_n hS q0c; subst e_
  replace hLL4 := lp_s hLL4; obtain ⟨kL4, obL4, rfl, hFL4, hLL4⟩ := hLL4
  refine x_seq <| x_region <| p (yl_lss q0e q0p) <| x_done <|
   x_seq <|
   x_cond_p (q0a < (x14.length : Int)) rfl (fun hc17 => ?_) (fun hc17 => ?_)
  ·replace hFL4 := it_t hc17 hFL4
   replace hFL4 := ck_s hFL4; obtain ⟨q0w, hFL4⟩ := hFL4
   replace hFL4 := lv_s hFL4; obtain ⟨x19, hx19, hFL4⟩ := hFL4
   replace hFL4 := bd_s hFL4; obtain ⟨q0f, q13, hFL4⟩ := hFL4
   refine x_skip <| x_seq <| x_block <| x_seq <|
    x_region <| p (yix_f sl_26 q0o q0e f14 q0w) <| pa (at_load one_9 rfl (RdS.getW f14 (hS.pull 1) q0w hx19)) <| p (yl_assign rfl) <|
    x_done <| x_seq <| x_region <| p (yl_move rfl) <| ?_
   have hcall := c_strconv_Atoi q13  (hS.pull 1)
   refine o_cc call_141 (args1 rfl) ((Calls.mono hcall (fun e w'' h => And.intro h.1 (h.2.pull 1)))) ?_
   rintro e w' ⟨rfl, hS⟩
   refine ⟨_, rfl, ?_⟩
   replace hFL4 := bd_s hFL4; obtain ⟨q19, q14, hFL4⟩ := hFL4
   refine p (v := .tuple #[.int .i64 q0f, .nilIface]) (yl_move rfl) <| p (yl_extract rfl rfl) <| p (yl_extract rfl rfl) <| p (yl_assign rfl) <|
    p (yl_assign rfl) <| x_done <| x_seq <| x_seq <|
    x_region <| p (yl_move rfl) <| p (yneq_nil uif_174 rfl) <| p (yl_move rfl) <|
    o_strip 27 false (says_lit (c := false) rfl rfl) <| p (yl_move rfl) <| o_strip 27 false (says_lit (c := false) rfl rfl) <| ?_
   have hcall := c_strconv_Itoa q14  (hS.pull 1)
   refine o_cc call_93 (args1 rfl) ((Calls.mono hcall (fun e w'' h => And.intro h.1 (h.2.pull 1)))) ?_
   rintro e w' ⟨rfl, hS⟩
   refine ⟨_, rfl, ?_⟩
   refine o_strip 27 false (says_lit (c := false) rfl rfl) <| p (yl_move rfl) <| o_strip 27 false (says_lit (c := false) rfl rfl) <| p (ynes rfl rfl) <|
    p (yl_pick (b := false) rfl (fun h => nomatch h) (fun h => rfl)) <| x_done <|
    x_cond_p (q19 ≠ x19) rfl (fun hc32 => ?_) (fun hc32 => ?_)
   ·replace hFL4 := it_t hc32 hFL4
    refine x_seq <| x_region <| p (yl_assign rfl) <| p (yl_assign rfl) <|
     p (yl_assign rfl) <| x_done <| ?_
    replace hS := St.vec_nil hS 3 (RpI .i64).sz
    have q0i : RepL (RpI .i64) q3 [] [] := rfl
    have e_ := Option.some.inj (show some _ = some _ from hFL4); subst e_
    have e_ := (show _ = oL4 from hLL4); subst e_
    have e_ := Option.some.inj (show some _ = some _ from hF); subst e_
    exact x_return ⟨_, ⟨_, _, rfl, rfl, _, _, rfl, rfl, _, _, rfl, rfl, rfl⟩, none, 0, 0, [], rfl, (RepL.flat (fun h => h) q0i), (ro_back1 q0n (((hS.pull 1).drop.pull 1).pull 1))⟩
   ·replace hFL4 := it_f hc32 hFL4
    refine x_skip <| x_region <| p (yl_move q0s) <| p (yl_move rfl) <| ?_
    refine o_buildSlice (vs := [.int .i64 q0f]) (cs := [.int .i64 q0f]) sl_22 zero_3 (parts_eq (pt (va := .int .i64 q0f) rfl pt0)) rfl (by intro v hv; simp only [List.mem_cons, List.not_mem_nil, or_false] at hv; first | (subst hv; rfl) | (rcases hv with rfl <;> rfl)) (by decide) rfl hS (fun b35 w' hS => ?_)
    replace hFL4 := lv_s hFL4; obtain ⟨q10, q15, hFL4⟩ := hFL4
    replace hFL4 := ck_s hFL4; obtain ⟨q16, hFL4⟩ := hFL4
    refine o_ap sl_22 zero_3 rfl (by decide) rfl rfl (hS.pull 1) q0c (src_blk usl_22 hS rfl rfl) (RepL.cons (R := (RpI .i64)) (ρ := q3) (x := q0f) (cs := [.int .i64 q0f]) rfl RepL.nil) q15 q16 (fun A36 c36 cs36 w' hr36 hS => ?_)
    replace hFL4 := ar_s hFL4; obtain ⟨x37, hx37, hFL4⟩ := hFL4
    refine p (yl_assign rfl) <| x_done <| x_blk <| x_region <|
     p (yadd q0e rfl hx37) <| p (yl_move rfl) <| x_done <| ?_
    have e_ := Option.some.inj (show some _ = some _ from hFL4); subst e_
    exact x_inv ⟨kL4, Nat.lt_succ_self _, A36, q10.length, c36, cs36, q10, x37, hLL4, q0r, rfl, q0o, q0p, rfl, hr36, (((hS.pull 1).drop.pull 1).pull 1)⟩
  ·replace hFL4 := it_f hc17 hFL4
   refine x_exitTo _ rfl <| ?_
   have e_ := Option.some.inj (show some _ = some _ from hFL4); subst e_
   exact x_inv ⟨q5, q7.length, c_l6_L4h, q2, q7, hLL4, q0r, q0s, q0c, ((hS.pull 1).pull 1)⟩
 rintro E w ⟨q8, q9, c_l6_L4, q4, q0j, rfl, q0x, q0y, q0q, hS⟩
 have e_ := St.vec_n hS q0q; subst e_
 replace hF := ck_s hF; obtain ⟨q0t, hF⟩ := hF
 replace hF := lv_s hF; obtain ⟨x40, hx40, hF⟩ := hF
 replace hF := ck_s hF; obtain ⟨q0u, hF⟩ := hF
 replace hF := lv_s hF; obtain ⟨x46, hx46, hF⟩ := hF
 replace hF := bd_s hF; obtain ⟨q17, q11, hF⟩ := hF
 refine x_seq <| x_still mixed (by kernel_rfl) hS <| q (yl_move q0x) <| q (yix_f sl_26 rfl rfl q0d q0t) <|
  qa (fun w' hS => at_load one_9 rfl (RdS.getW q0d (hS.pull 1) q0t hx40)) <| q (yl_move q0y) <| q (yl_move q0y) <| q (yl_len_slice usl_22 rfl) <|
  q (yl_move q0x) <| q (yix_f sl_26 rfl rfl q0d q0u) <| qa (fun w' hS => at_load one_9 rfl (RdS.getW q0d (hS.pull 1) q0u hx46)) <| qcc (v := .int .i64 q17) call_142 (args1 rfl) (fun w' hS => by
   have hcall := c_layfmt_count q11  (hS.pull 1)
   exact (Calls.mono hcall (fun e w'' h => And.intro h.1 (h.2.pull 1)))) <|
  q (yl_eql rfl rfl) <| q (yl_assign rfl) <| q (yl_assign rfl) <| q (yl_assign rfl) <|
  q_done fun w' hS => ?_
 have e_ := Option.some.inj (show some _ = some _ from hF); subst e_
 exact x_return ⟨_, ⟨_, _, rfl, rfl, _, _, rfl, rfl, _, _, rfl, rfl, rfl⟩, q8, q0j.length, c_l6_L4, q4, rfl, (RepL.flat (fun h => h) q0q), (ro_back1 q0n ((hS.pull 1).pull 1))⟩
attribute [irreducible] P_layfmt_words

def P_layfmt_place (word0 : ByteArray) : Option Int :=
 if word0 = (⟨#[108, 97, 121, 111, 117, 116]⟩ : ByteArray) then
  some (0 : Int)
 else
  if word0 = (⟨#[119, 97, 108, 108]⟩ : ByteArray) then
   some (1 : Int)
  else
   bd (
    if word0 = (⟨#[112, 105, 110]⟩ : ByteArray) then
     some (decide (word0 = (⟨#[112, 105, 110]⟩ : ByteArray)))
    else
     some (decide (word0 = (⟨#[100, 114, 105, 118, 101]⟩ : ByteArray)))) fun q2 =>
   if q2 = true then
    some (2 : Int)
   else
    if word0 = (⟨#[119, 105, 114, 101]⟩ : ByteArray) then
     some (3 : Int)
    else
     if word0 = (⟨#[118, 105, 97]⟩ : ByteArray) then
      some (4 : Int)
     else
      some (-1 : Int)
set_option maxHeartbeats 4000000 in
set_option maxRecDepth 100000 in
theorem c_layfmt_place {w0 w : World} {l : List Assn} {ρ : Heap} {word0 : ByteArray} {r : Int} (hF : P_layfmt_place word0 = some r) (hS : St w0 w (ro ρ :: l)) :
  Calls Tryd.prog 90 #[.string word0] w fun e w' => e = .returned (.int .i64 r) ∧ St w0 w' (ro ρ :: l) := by
 refine enterC Tryd.func90 rfl 15 rfl (by simp) ?_
 refine x_seq <| x_region <| p (yl_assign rfl) <| x_done <|
  x_seq <| x_seq <| x_region <| p (yl_move rfl) <|
  x_done <| x_block <| x_seq <| x_region <|
  p (yl_eql_string rfl rfl) <| p (yl_assign rfl) <| x_done <|
  x_cond_p (word0 = (⟨#[108, 97, 121, 111, 117, 116]⟩ : ByteArray)) rfl (fun hc4 => ?_) (fun hc4 => ?_)
 ·replace hF := it_t hc4 hF
  refine x_seq <| x_region <| p (yl_assign rfl) <| x_done <| ?_
  have e_ := Option.some.inj (show some _ = some _ from hF); subst e_
  exact x_return ⟨_, ⟨_, _, rfl, rfl, rfl⟩, rfl, hS⟩
 ·replace hF := it_f hc4 hF
  refine x_seq <| x_region <| p (yl_eql_string rfl rfl) <| p (yl_assign rfl) <|
   x_done <|
   x_cond_p (word0 = (⟨#[119, 97, 108, 108]⟩ : ByteArray)) rfl (fun hc6 => ?_) (fun hc6 => ?_)
  ·replace hF := it_t hc6 hF
   refine x_seq <| x_region <| p (yl_assign rfl) <| x_done <| ?_
   have e_ := Option.some.inj (show some _ = some _ from hF); subst e_
   exact x_return ⟨_, ⟨_, _, rfl, rfl, rfl⟩, rfl, hS⟩
  ·replace hF := it_f hc6 hF
   refine x_seq <| x_seq <| x_region <| p (yl_eql_string rfl rfl) <|
    p (yl_assign rfl) <| x_done <| ?_
   replace hF := bd_s hF; obtain ⟨oc8, hFc8, hF⟩ := hF
   refine x_join (fun E w => ∃ (q2 : Bool), q2 = oc8 ∧ E 3 = .string word0 ∧ E 8 = .bool q2 ∧ St w0 w (ro ρ :: l)) ?_ ?_
   ·refine x_cond_p (word0 = (⟨#[112, 105, 110]⟩ : ByteArray)) rfl (fun hc8 => ?_) (fun hc8 => ?_)
    ·replace hFc8 := it_t hc8 hFc8
     refine x_skip <| ?_
     exact x_inv ⟨decide (word0 = (⟨#[112, 105, 110]⟩ : ByteArray)), (Option.some.inj (show some _ = some _ from hFc8)), rfl, rfl, hS⟩
    ·replace hFc8 := it_f hc8 hFc8
     refine x_region <| p (yl_eql_string rfl rfl) <| p (yl_assign rfl) <| x_done <| ?_
     exact x_inv ⟨decide (word0 = (⟨#[100, 114, 105, 118, 101]⟩ : ByteArray)), (Option.some.inj (show some _ = some _ from hFc8)), rfl, rfl, hS⟩
   rintro E w ⟨q2, rfl, q3, q4, hS⟩
   refine x_cond (t := q2) q4 (fun hc8 => ?_) (fun hc8 => ?_)
   ·replace hF := it_t hc8 hF
    refine x_seq <| x_region <| p (yl_assign rfl) <| x_done <| ?_
    have e_ := Option.some.inj (show some _ = some _ from hF); subst e_
    exact x_return ⟨_, ⟨_, _, rfl, rfl, rfl⟩, rfl, hS⟩
   ·replace hF := it_bf hc8 hF
    refine x_seq <| x_region <| p (yl_eql_string q3 rfl) <| p (yl_assign rfl) <|
     x_done <|
     x_cond_p (word0 = (⟨#[119, 105, 114, 101]⟩ : ByteArray)) rfl (fun hc11 => ?_) (fun hc11 => ?_)
    ·replace hF := it_t hc11 hF
     refine x_seq <| x_region <| p (yl_assign rfl) <| x_done <| ?_
     have e_ := Option.some.inj (show some _ = some _ from hF); subst e_
     exact x_return ⟨_, ⟨_, _, rfl, rfl, rfl⟩, rfl, hS⟩
    ·replace hF := it_f hc11 hF
     refine x_seq <| x_region <| p (yl_eql_string q3 rfl) <| p (yl_assign rfl) <|
      x_done <|
      x_cond_p (word0 = (⟨#[118, 105, 97]⟩ : ByteArray)) rfl (fun hc13 => ?_) (fun hc13 => ?_)
     ·replace hF := it_t hc13 hF
      refine x_seq <| x_region <| p (yl_assign rfl) <| x_done <| ?_
      have e_ := Option.some.inj (show some _ = some _ from hF); subst e_
      exact x_return ⟨_, ⟨_, _, rfl, rfl, rfl⟩, rfl, hS⟩
     ·replace hF := it_f hc13 hF
      refine x_skip <| x_blk <| x_seq <| x_region <|
       p (yl_assign rfl) <| x_done <| ?_
      have e_ := Option.some.inj (show some _ = some _ from hF); subst e_
      exact x_return ⟨_, ⟨_, _, rfl, rfl, rfl⟩, rfl, hS⟩
attribute [irreducible] P_layfmt_place

def P_layfmt_enter_5 (l_0 : T_rules_Layout) (word1 : ByteArray) (n2 : List Int) : Option (Int × Int × Int × Int × List T_rules_Wire × List T_rules_Via × List T_rules_Pin × List T_floor_Wall) :=
 bd (
  if word1 = (⟨#[108, 97, 121, 111, 117, 116]⟩ : ByteArray) then
   ck (inb 0 n2.length) <|
   lv (gt n2 (0 : Int)) fun x15 =>
   ck (inb 1 n2.length) <|
   lv (gt n2 (1 : Int)) fun x18 =>
   ck (inb 2 n2.length) <|
   lv (gt n2 (2 : Int)) fun x21 =>
   ck (inb 3 n2.length) <|
   lv (gt n2 (3 : Int)) fun x24 =>
   some (x15, x18, x21, x24, l_0.Wires, l_0.Vias, l_0.Pins, l_0.Walls)
  else
   bd (
    if word1 = (⟨#[119, 97, 108, 108]⟩ : ByteArray) then
     ck (inb 0 n2.length) <|
     lv (gt n2 (0 : Int)) fun x42 =>
     ck (inb 1 n2.length) <|
     lv (gt n2 (1 : Int)) fun x45 =>
     ck (inb 2 n2.length) <|
     lv (gt n2 (2 : Int)) fun x48 =>
     ck (inb 3 n2.length) <|
     lv (gt n2 (3 : Int)) fun x51 =>
     ck (inb 4 n2.length) <|
     lv (gt n2 (4 : Int)) fun x54 =>
     lv (l_0.Walls ++ [(T_floor_Wall.mk x42 x45 x48 x51 x54)]) fun q0p =>
     ck (apOk 40 q0p.length) <|
     some (l_0.Wires, l_0.Vias, l_0.Pins, q0p)
    else
     bd (
      if word1 = (⟨#[112, 105, 110]⟩ : ByteArray) then
       ck (inb 0 n2.length) <|
       lv (gt n2 (0 : Int)) fun x69 =>
       ck (inb 1 n2.length) <|
       lv (gt n2 (1 : Int)) fun x72 =>
       ck (inb 2 n2.length) <|
       lv (gt n2 (2 : Int)) fun x75 =>
       ck (inb 3 n2.length) <|
       lv (gt n2 (3 : Int)) fun x78 =>
       lv (l_0.Pins ++ [(T_rules_Pin.mk x69 x72 x75 false x78)]) fun q0q =>
       ck (apOk 40 q0q.length) <|
       some (l_0.Wires, l_0.Vias, q0q)
      else
       bd (
        if word1 = (⟨#[100, 114, 105, 118, 101]⟩ : ByteArray) then
         ck (inb 0 n2.length) <|
         lv (gt n2 (0 : Int)) fun x93 =>
         ck (inb 1 n2.length) <|
         lv (gt n2 (1 : Int)) fun x96 =>
         ck (inb 2 n2.length) <|
         lv (gt n2 (2 : Int)) fun x99 =>
         lv (l_0.Pins ++ [(T_rules_Pin.mk x93 x96 x99 true 0)]) fun q0r =>
         ck (apOk 40 q0r.length) <|
         some (l_0.Wires, l_0.Vias, q0r)
        else
         bd (
          if word1 = (⟨#[119, 105, 114, 101]⟩ : ByteArray) then
           ck (inb 0 n2.length) <|
           lv (gt n2 (0 : Int)) fun x114 =>
           ck (inb 1 n2.length) <|
           lv (gt n2 (1 : Int)) fun x117 =>
           ck (inb 2 n2.length) <|
           lv (gt n2 (2 : Int)) fun x120 =>
           ck (inb 3 n2.length) <|
           lv (gt n2 (3 : Int)) fun x123 =>
           ck (inb 4 n2.length) <|
           lv (gt n2 (4 : Int)) fun x126 =>
           ck (inb 5 n2.length) <|
           lv (gt n2 (5 : Int)) fun x129 =>
           lv (l_0.Wires ++ [(T_rules_Wire.mk x114 x117 x120 x123 x126 x129)]) fun q0n =>
           ck (apOk 48 q0n.length) <|
           some (q0n, l_0.Vias)
          else
           bd (
            if word1 = (⟨#[118, 105, 97]⟩ : ByteArray) then
             ck (inb 0 n2.length) <|
             lv (gt n2 (0 : Int)) fun x144 =>
             ck (inb 1 n2.length) <|
             lv (gt n2 (1 : Int)) fun x147 =>
             ck (inb 2 n2.length) <|
             lv (gt n2 (2 : Int)) fun x150 =>
             ck (inb 3 n2.length) <|
             lv (gt n2 (3 : Int)) fun x153 =>
             lv (l_0.Vias ++ [(T_rules_Via.mk x144 x147 x150 x153)]) fun q0o =>
             ck (apOk 32 q0o.length) <|
             some q0o
            else
             some l_0.Vias) fun q2 =>
           some (l_0.Wires, q2)) fun (q3, q4) =>
         some (q3, q4, l_0.Pins)) fun (q5, q6, q7) =>
       some (q5, q6, q7)) fun (q8, q9, q0a) =>
     some (q8, q9, q0a, l_0.Walls)) fun (q0b, q0c, q0d, q0e) =>
   some (l_0.W, l_0.H, l_0.Layers, l_0.Nets, q0b, q0c, q0d, q0e)) fun (q0f, q0g, q0h, q0i, q0j, q0k, q0l, q0m) =>
 some (q0f, q0g, q0h, q0i, q0j, q0k, q0l, q0m)
set_option maxHeartbeats 4000000 in
set_option maxRecDepth 100000 in
theorem c_layfmt_enter_5 {w0 w : World} {l : List Assn} {ρ : Heap} {q2 : Nat} {q6 : Option Addr} {q67 : Nat} {c_l_0_4 : Nat} {q9 : List Value} {q7 : Option Addr} {q68 : Nat} {c_l_0_5 : Nat} {q0a : List Value} {q5 : Option Addr} {q69 : Nat} {c_l_0_6 : Nat} {q0b : List Value} {q4 : Option Addr} {q6a : Nat} {c_l_0_7 : Nat} {q0c : List Value} {q3 : Option Addr} {q89 : Nat} {c_n2 : Nat} {l_0 : T_rules_Layout} {word1 : ByteArray} {n2 : List Int} {r : (Int × Int × Int × Int × List T_rules_Wire × List T_rules_Via × List T_rules_Pin × List T_floor_Wall)} (hF : P_layfmt_enter_5 l_0 word1 n2 = some r) (q2b : RepL R_rules_Wire ρ l_0.Wires q9) (q22 : RepL R_rules_Via ρ l_0.Vias q0a) (q2k : RepL R_rules_Pin ρ l_0.Pins q0b) (q48 : RepL R_floor_Wall ρ l_0.Walls q0c) (q8 : RdS (RpI .i64) ρ q3 q89 c_n2 n2) (hS : St w0 w (cells q2 91 [.int .i64 l_0.W, .int .i64 l_0.H, .int .i64 l_0.Layers, .int .i64 l_0.Nets, .slice q6 q67 c_l_0_4, .slice q7 q68 c_l_0_5, .slice q5 q69 c_l_0_6, .slice q4 q6a c_l_0_7] :: vec 98 R_rules_Wire.sz (.slice q6 q67 c_l_0_4) q67 q9 :: vec 181 R_rules_Via.sz (.slice q7 q68 c_l_0_5) q68 q0a :: vec 101 R_rules_Pin.sz (.slice q5 q69 c_l_0_6) q69 q0b :: vec 123 R_floor_Wall.sz (.slice q4 q6a c_l_0_7) q6a q0c :: ro ρ :: l)) :
  Calls Tryd.prog 91 #[.pointer (some ⟨q2, 0, none⟩), .string word1, .slice q3 q89 c_n2] w fun e w' => ∃ (q3q : Option Addr) (q2c : Nat) (c_b_l_0_4_ret : Nat) (q2l : List Value) (q3r : Option Addr) (q2d : Nat) (c_b_l_0_5_ret : Nat) (q2m : List Value) (q3s : Option Addr) (q2e : Nat) (c_b_l_0_6_ret : Nat) (q2n : List Value) (q3t : Option Addr) (q2f : Nat) (c_b_l_0_7_ret : Nat) (q2o : List Value), e = .returned (.tuple #[]) ∧ RepL R_rules_Wire ρ r.2.2.2.2.1 q2l ∧ RepL R_rules_Via ρ r.2.2.2.2.2.1 q2m ∧ RepL R_rules_Pin ρ r.2.2.2.2.2.2.1 q2n ∧ RepL R_floor_Wall ρ r.2.2.2.2.2.2.2 q2o ∧ St w0 w' (cells q2 91 [.int .i64 r.1, .int .i64 r.2.1, .int .i64 r.2.2.1, .int .i64 r.2.2.2.1, .slice q3q q2c c_b_l_0_4_ret, .slice q3r q2d c_b_l_0_5_ret, .slice q3s q2e c_b_l_0_6_ret, .slice q3t q2f c_b_l_0_7_ret] :: vec 98 R_rules_Wire.sz (.slice q3q q2c c_b_l_0_4_ret) q2c q2l :: vec 181 R_rules_Via.sz (.slice q3r q2d c_b_l_0_5_ret) q2d q2m :: vec 101 R_rules_Pin.sz (.slice q3s q2e c_b_l_0_6_ret) q2e q2n :: vec 123 R_floor_Wall.sz (.slice q3t q2f c_b_l_0_7_ret) q2f q2o :: ro ρ :: l) := by
 have e_ := St.vec_n (hS.pull 1) q2b; subst e_
 have e_ := St.vec_n (hS.pull 2) q22; subst e_
 have e_ := St.vec_n (hS.pull 3) q2k; subst e_
 have e_ := St.vec_n (hS.pull 4) q48; subst e_
 have e_ := q8.n; subst e_
 refine enterC Tryd.func91 rfl 159 rfl (by simp) ?_
 refine x_seq <| x_region <| p (yl_move rfl) <| x_done <|
  x_block <| x_seq <| x_region <| p (yl_eql_string rfl rfl) <|
  p (yl_assign rfl) <| x_done <| ?_
 replace hF := bd_s hF; obtain ⟨oc7, hFc7, hF⟩ := hF
 refine x_join (fun E w => ∃ (q23 : Option Addr) (q24 : Nat) (c_b_l_0_4_c7 : Nat) (q1e : List Value) (q25 : Option Addr) (q26 : Nat) (c_b_l_0_5_c7 : Nat) (q1f : List Value) (q27 : Option Addr) (q28 : Nat) (c_b_l_0_6_c7 : Nat) (q1g : List Value) (q29 : Option Addr) (q2a : Nat) (c_b_l_0_7_c7 : Nat) (q1h : List Value) (q3m : Int) (q3n : Int) (q3o : Int) (q3p : Int) (q2g : List T_rules_Wire) (q2h : List T_rules_Via) (q2i : List T_rules_Pin) (q2j : List T_floor_Wall), (q3m, q3n, q3o, q3p, q2g, q2h, q2i, q2j) = oc7 ∧ RepL R_rules_Wire ρ q2g q1e ∧ RepL R_rules_Via ρ q2h q1f ∧ RepL R_rules_Pin ρ q2i q1g ∧ RepL R_floor_Wall ρ q2j q1h ∧ St w0 w (cells q2 91 [.int .i64 q3m, .int .i64 q3n, .int .i64 q3o, .int .i64 q3p, .slice q23 q24 c_b_l_0_4_c7, .slice q25 q26 c_b_l_0_5_c7, .slice q27 q28 c_b_l_0_6_c7, .slice q29 q2a c_b_l_0_7_c7] :: vec 98 R_rules_Wire.sz (.slice q23 q24 c_b_l_0_4_c7) q24 q1e :: vec 181 R_rules_Via.sz (.slice q25 q26 c_b_l_0_5_c7) q26 q1f :: vec 101 R_rules_Pin.sz (.slice q27 q28 c_b_l_0_6_c7) q28 q1g :: vec 123 R_floor_Wall.sz (.slice q29 q2a c_b_l_0_7_c7) q2a q1h :: ro ρ :: l)) ?_ ?_
 ·refine x_cond_p (word1 = (⟨#[108, 97, 121, 111, 117, 116]⟩ : ByteArray)) rfl (fun hc7 => ?_) (fun hc7 => ?_)
  ·replace hFc7 := it_t hc7 hFc7
   replace hFc7 := ck_s hFc7; obtain ⟨q7x, hFc7⟩ := hFc7
   replace hFc7 := lv_s hFc7; obtain ⟨x15, hx15, hFc7⟩ := hFc7
   replace hFc7 := ck_s hFc7; obtain ⟨q7y, hFc7⟩ := hFc7
   replace hFc7 := lv_s hFc7; obtain ⟨x18, hx18, hFc7⟩ := hFc7
   replace hFc7 := ck_s hFc7; obtain ⟨q7l, hFc7⟩ := hFc7
   replace hFc7 := lv_s hFc7; obtain ⟨x21, hx21, hFc7⟩ := hFc7
   replace hFc7 := ck_s hFc7; obtain ⟨q7m, hFc7⟩ := hFc7
   replace hFc7 := lv_s hFc7; obtain ⟨x24, hx24, hFc7⟩ := hFc7
   refine x_par (w0 := w0) [⟨[], [], [9], [], [], []⟩, ⟨[], [], [10], [], [], []⟩, ⟨[], [], [11], [], [], []⟩, ⟨[], [], [12], [], [], []⟩, ⟨[], [], [13], [], [], []⟩, ⟨[4], [4], [14], [0], [], []⟩, ⟨[4, 5], [5], [15], [0], [], []⟩, ⟨[], [], [16], [], [], []⟩, ⟨[7], [7], [17], [0], [], []⟩, ⟨[7, 8], [8], [18], [0], [], []⟩, ⟨[], [], [19], [], [], []⟩, ⟨[10], [10], [20], [0], [], []⟩, ⟨[10, 11], [11], [21], [0], [], []⟩, ⟨[], [], [22], [], [], []⟩, ⟨[13], [13], [23], [0], [], []⟩, ⟨[13, 14], [14], [24], [0], [], []⟩, ⟨[0, 4, 5, 6, 7, 8, 9, 10, 11, 12, 13, 14, 15], [0], [25], [], [], []⟩, ⟨[0, 4, 5, 6, 7, 8, 9, 10, 11, 12, 13, 14, 15, 16], [16], [26], [], [], []⟩, ⟨[0, 4, 5, 6, 7, 8, 9, 10, 11, 12, 13, 14, 15, 16, 17], [6, 17], [], [], [1], [2]⟩, ⟨[0, 1, 4, 5, 6, 7, 8, 9, 10, 11, 12, 13, 14, 15, 16, 17, 18], [1], [27], [], [], []⟩, ⟨[0, 1, 4, 5, 6, 7, 8, 9, 10, 11, 12, 13, 14, 15, 16, 17, 18, 19], [19], [28], [], [], []⟩, ⟨[0, 1, 4, 5, 6, 7, 8, 9, 10, 11, 12, 13, 14, 15, 16, 17, 18, 19, 20], [9, 20], [], [], [2], [3]⟩, ⟨[0, 1, 2, 4, 5, 6, 7, 8, 9, 10, 11, 12, 13, 14, 15, 16, 17, 18, 19, 20, 21], [2], [29], [], [], []⟩, ⟨[0, 1, 2, 4, 5, 6, 7, 8, 9, 10, 11, 12, 13, 14, 15, 16, 17, 18, 19, 20, 21, 22], [22], [30], [], [], []⟩, ⟨[0, 1, 2, 4, 5, 6, 7, 8, 9, 10, 11, 12, 13, 14, 15, 16, 17, 18, 19, 20, 21, 22, 23], [12, 23], [], [], [3], [4]⟩, ⟨[0, 1, 2, 3, 4, 5, 6, 7, 8, 9, 10, 11, 12, 13, 14, 15, 16, 17, 18, 19, 20, 21, 22, 23, 24], [3], [31], [], [], []⟩, ⟨[0, 1, 2, 3, 4, 5, 6, 7, 8, 9, 10, 11, 12, 13, 14, 15, 16, 17, 18, 19, 20, 21, 22, 23, 24, 25], [25], [32], [], [], []⟩, ⟨[0, 1, 2, 3, 4, 5, 6, 7, 8, 9, 10, 11, 12, 13, 14, 15, 16, 17, 18, 19, 20, 21, 22, 23, 24, 25, 26], [15, 26], [], [], [4], [5]⟩] [⟨none, none, []⟩, ⟨none, (some 18), []⟩, ⟨(some 18), (some 21), []⟩, ⟨(some 21), (some 24), []⟩, ⟨(some 24), (some 27), []⟩, ⟨(some 27), none, []⟩] [9, 10, 11, 12, 13, 14, 15, 16, 17, 18, 19, 20, 21, 22, 23, 24, 25, 26, 27, 28, 29, 30, 31, 32] [0, 1] [0, 5] [0, 1, 2, 3, 4, 5, 6, 7, 8, 9, 10, 11, 12, 13, 14, 15, 16, 17, 19, 20, 22, 23, 25, 26] [fun Ep2 => Ep2 9 = .pointer (some ⟨q2, 0, none⟩), fun Ep2 => Ep2 10 = .pointer (some ⟨q2, 0, none⟩), fun Ep2 => Ep2 11 = .pointer (some ⟨q2, 0, none⟩), fun Ep2 => Ep2 12 = .pointer (some ⟨q2, 0, none⟩), fun Ep2 => Ep2 13 = .slice q3 n2.length c_n2, fun Ep2 => Ep2 14 = .pointer (some ((adr q3).add ((0 : Int).toNat * (RpI .i64).sz))), fun Ep2 => Ep2 15 = .int .i64 x15, fun Ep2 => Ep2 16 = .slice q3 n2.length c_n2, fun Ep2 => Ep2 17 = .pointer (some ((adr q3).add ((1 : Int).toNat * (RpI .i64).sz))), fun Ep2 => Ep2 18 = .int .i64 x18, fun Ep2 => Ep2 19 = .slice q3 n2.length c_n2, fun Ep2 => Ep2 20 = .pointer (some ((adr q3).add ((2 : Int).toNat * (RpI .i64).sz))), fun Ep2 => Ep2 21 = .int .i64 x21, fun Ep2 => Ep2 22 = .slice q3 n2.length c_n2, fun Ep2 => Ep2 23 = .pointer (some ((adr q3).add ((3 : Int).toNat * (RpI .i64).sz))), fun Ep2 => Ep2 24 = .int .i64 x24, fun Ep2 => Ep2 25 = .pointer (some ⟨q2, 0, none⟩), fun Ep2 => Ep2 26 = .pointer (some ⟨q2, 0, none⟩), fun Ep2 => True, fun Ep2 => Ep2 27 = .pointer (some ⟨q2, 0, none⟩), fun Ep2 => Ep2 28 = .pointer (some ⟨q2, 1, none⟩), fun Ep2 => True, fun Ep2 => Ep2 29 = .pointer (some ⟨q2, 0, none⟩), fun Ep2 => Ep2 30 = .pointer (some ⟨q2, 2, none⟩), fun Ep2 => True, fun Ep2 => Ep2 31 = .pointer (some ⟨q2, 0, none⟩), fun Ep2 => Ep2 32 = .pointer (some ⟨q2, 3, none⟩), fun Ep2 => True] [fun Ep2 => ro ρ, fun Ep2 => cells q2 91 [.int .i64 l_0.W, .int .i64 l_0.H, .int .i64 l_0.Layers, .int .i64 l_0.Nets, .slice q6 l_0.Wires.length c_l_0_4, .slice q7 l_0.Vias.length c_l_0_5, .slice q5 l_0.Pins.length c_l_0_6, .slice q4 l_0.Walls.length c_l_0_7], fun Ep2 => cells q2 91 [.int .i64 x15, .int .i64 l_0.H, .int .i64 l_0.Layers, .int .i64 l_0.Nets, .slice q6 l_0.Wires.length c_l_0_4, .slice q7 l_0.Vias.length c_l_0_5, .slice q5 l_0.Pins.length c_l_0_6, .slice q4 l_0.Walls.length c_l_0_7], fun Ep2 => cells q2 91 [.int .i64 x15, .int .i64 x18, .int .i64 l_0.Layers, .int .i64 l_0.Nets, .slice q6 l_0.Wires.length c_l_0_4, .slice q7 l_0.Vias.length c_l_0_5, .slice q5 l_0.Pins.length c_l_0_6, .slice q4 l_0.Walls.length c_l_0_7], fun Ep2 => cells q2 91 [.int .i64 x15, .int .i64 x18, .int .i64 x21, .int .i64 l_0.Nets, .slice q6 l_0.Wires.length c_l_0_4, .slice q7 l_0.Vias.length c_l_0_5, .slice q5 l_0.Pins.length c_l_0_6, .slice q4 l_0.Walls.length c_l_0_7], fun Ep2 => cells q2 91 [.int .i64 x15, .int .i64 x18, .int .i64 x21, .int .i64 x24, .slice q6 l_0.Wires.length c_l_0_4, .slice q7 l_0.Vias.length c_l_0_5, .slice q5 l_0.Pins.length c_l_0_6, .slice q4 l_0.Walls.length c_l_0_7]] mixed (by kernel_rfl) (hS.pull 5) ?_ ?_
   ·refine ⟨?_, ?_, ?_, ?_, ?_, ?_, ?_, ?_, ?_, ?_, ?_, ?_, ?_, ?_, ?_, ?_, ?_, ?_, ?_, ?_, ?_, ?_, ?_, ?_, ?_, ?_, ?_, ?_, trivial⟩
    ·intro Ep2 w l' hE2 hO2 hF_ hS
     refine p (yl_move (hE2 0 rfl)) <| x_done <| ?_
     refine x_fin ⟨⟨_, rfl⟩, rfl, ?_⟩
     exact Eq.mp (by kernel_rfl) hS
    ·intro Ep2 w l' hE2 hO2 hF_ hS
     refine p (yl_move (hE2 0 rfl)) <| x_done <| ?_
     refine x_fin ⟨⟨_, rfl⟩, rfl, ?_⟩
     exact Eq.mp (by kernel_rfl) hS
    ·intro Ep2 w l' hE2 hO2 hF_ hS
     refine p (yl_move (hE2 0 rfl)) <| x_done <| ?_
     refine x_fin ⟨⟨_, rfl⟩, rfl, ?_⟩
     exact Eq.mp (by kernel_rfl) hS
    ·intro Ep2 w l' hE2 hO2 hF_ hS
     refine p (yl_move (hE2 0 rfl)) <| x_done <| ?_
     refine x_fin ⟨⟨_, rfl⟩, rfl, ?_⟩
     exact Eq.mp (by kernel_rfl) hS
    ·intro Ep2 w l' hE2 hO2 hF_ hS
     refine p (yl_move (hE2 2 rfl)) <| x_done <| ?_
     refine x_fin ⟨⟨_, rfl⟩, rfl, ?_⟩
     exact Eq.mp (by kernel_rfl) hS
    ·intro Ep2 w l' hE2 hO2 hF_ hS
     obtain ⟨q6b, -⟩ := hF_
     replace q6b : Ep2 13 = .slice q3 n2.length c_n2 := Eq.mp (by kernel_rfl) q6b
     replace hS : St w0 w (ro ρ :: l') := Eq.mp (by kernel_rfl) hS
     refine p (yix_f sl_22 q6b rfl q8 q7x) <| x_done <| ?_
     refine x_fin ⟨⟨_, rfl⟩, rfl, ?_⟩
     exact Eq.mp (by kernel_rfl) hS
    ·intro Ep2 w l' hE2 hO2 hF_ hS
     obtain ⟨q6c, -⟩ := hF_
     replace q6c : Ep2 14 = .pointer (some ((adr q3).add ((0 : Int).toNat * (RpI .i64).sz))) := Eq.mp (by kernel_rfl) q6c
     replace hS : St w0 w (ro ρ :: l') := Eq.mp (by kernel_rfl) hS
     refine pa (at_load one_3 q6c (RdS.getW q8 hS q7x hx15)) <| x_done <| ?_
     refine x_fin ⟨⟨_, rfl⟩, rfl, ?_⟩
     exact Eq.mp (by kernel_rfl) hS
    ·intro Ep2 w l' hE2 hO2 hF_ hS
     refine p (yl_move (hE2 2 rfl)) <| x_done <| ?_
     refine x_fin ⟨⟨_, rfl⟩, rfl, ?_⟩
     exact Eq.mp (by kernel_rfl) hS
    ·intro Ep2 w l' hE2 hO2 hF_ hS
     obtain ⟨q6d, -⟩ := hF_
     replace q6d : Ep2 16 = .slice q3 n2.length c_n2 := Eq.mp (by kernel_rfl) q6d
     replace hS : St w0 w (ro ρ :: l') := Eq.mp (by kernel_rfl) hS
     refine p (yix_f sl_22 q6d rfl q8 q7y) <| x_done <| ?_
     refine x_fin ⟨⟨_, rfl⟩, rfl, ?_⟩
     exact Eq.mp (by kernel_rfl) hS
    ·intro Ep2 w l' hE2 hO2 hF_ hS
     obtain ⟨q6e, -⟩ := hF_
     replace q6e : Ep2 17 = .pointer (some ((adr q3).add ((1 : Int).toNat * (RpI .i64).sz))) := Eq.mp (by kernel_rfl) q6e
     replace hS : St w0 w (ro ρ :: l') := Eq.mp (by kernel_rfl) hS
     refine pa (at_load one_3 q6e (RdS.getW q8 hS q7y hx18)) <| x_done <| ?_
     refine x_fin ⟨⟨_, rfl⟩, rfl, ?_⟩
     exact Eq.mp (by kernel_rfl) hS
    ·intro Ep2 w l' hE2 hO2 hF_ hS
     refine p (yl_move (hE2 2 rfl)) <| x_done <| ?_
     refine x_fin ⟨⟨_, rfl⟩, rfl, ?_⟩
     exact Eq.mp (by kernel_rfl) hS
    ·intro Ep2 w l' hE2 hO2 hF_ hS
     obtain ⟨q49, -⟩ := hF_
     replace q49 : Ep2 19 = .slice q3 n2.length c_n2 := Eq.mp (by kernel_rfl) q49
     replace hS : St w0 w (ro ρ :: l') := Eq.mp (by kernel_rfl) hS
     refine p (yix_f sl_22 q49 rfl q8 q7l) <| x_done <| ?_
     refine x_fin ⟨⟨_, rfl⟩, rfl, ?_⟩
     exact Eq.mp (by kernel_rfl) hS
    ·intro Ep2 w l' hE2 hO2 hF_ hS
     obtain ⟨q4a, -⟩ := hF_
     replace q4a : Ep2 20 = .pointer (some ((adr q3).add ((2 : Int).toNat * (RpI .i64).sz))) := Eq.mp (by kernel_rfl) q4a
     replace hS : St w0 w (ro ρ :: l') := Eq.mp (by kernel_rfl) hS
     refine pa (at_load one_3 q4a (RdS.getW q8 hS q7l hx21)) <| x_done <| ?_
     refine x_fin ⟨⟨_, rfl⟩, rfl, ?_⟩
     exact Eq.mp (by kernel_rfl) hS
    ·intro Ep2 w l' hE2 hO2 hF_ hS
     refine p (yl_move (hE2 2 rfl)) <| x_done <| ?_
     refine x_fin ⟨⟨_, rfl⟩, rfl, ?_⟩
     exact Eq.mp (by kernel_rfl) hS
    ·intro Ep2 w l' hE2 hO2 hF_ hS
     obtain ⟨q4b, -⟩ := hF_
     replace q4b : Ep2 22 = .slice q3 n2.length c_n2 := Eq.mp (by kernel_rfl) q4b
     replace hS : St w0 w (ro ρ :: l') := Eq.mp (by kernel_rfl) hS
     refine p (yix_f sl_22 q4b rfl q8 q7m) <| x_done <| ?_
     refine x_fin ⟨⟨_, rfl⟩, rfl, ?_⟩
     exact Eq.mp (by kernel_rfl) hS
    ·intro Ep2 w l' hE2 hO2 hF_ hS
     obtain ⟨q4c, -⟩ := hF_
     replace q4c : Ep2 23 = .pointer (some ((adr q3).add ((3 : Int).toNat * (RpI .i64).sz))) := Eq.mp (by kernel_rfl) q4c
     replace hS : St w0 w (ro ρ :: l') := Eq.mp (by kernel_rfl) hS
     refine pa (at_load one_3 q4c (RdS.getW q8 hS q7m hx24)) <| x_done <| ?_
     refine x_fin ⟨⟨_, rfl⟩, rfl, ?_⟩
     exact Eq.mp (by kernel_rfl) hS
    ·intro Ep2 w l' hE2 hO2 hF_ hS
     obtain ⟨q6f, -⟩ := hF_
     replace q6f : Ep2 9 = .pointer (some ⟨q2, 0, none⟩) := Eq.mp (by kernel_rfl) q6f
     refine p (yl_nilCheck q6f) <| x_done <| ?_
     refine x_fin ⟨⟨_, rfl⟩, rfl, ?_⟩
     exact Eq.mp (by kernel_rfl) hS
    ·intro Ep2 w l' hE2 hO2 hF_ hS
     obtain ⟨q4d, -⟩ := hF_
     replace q4d : Ep2 25 = .pointer (some ⟨q2, 0, none⟩) := Eq.mp (by kernel_rfl) q4d
     refine p (yl_field0 fld_91_0 q4d) <| x_done <| ?_
     refine x_fin ⟨⟨_, rfl⟩, rfl, ?_⟩
     exact Eq.mp (by kernel_rfl) hS
    ·intro Ep2 w l' hE2 hO2 hF_ hS
     obtain ⟨q6g, q4e, -⟩ := hF_
     replace q6g : Ep2 15 = .int .i64 x15 := Eq.mp (by kernel_rfl) q6g
     replace q4e : Ep2 26 = .pointer (some ⟨q2, 0, none⟩) := Eq.mp (by kernel_rfl) q4e
     replace hS : St w0 w (cells q2 91 [.int .i64 l_0.W, .int .i64 l_0.H, .int .i64 l_0.Layers, .int .i64 l_0.Nets, .slice q6 l_0.Wires.length c_l_0_4, .slice q7 l_0.Vias.length c_l_0_5, .slice q5 l_0.Pins.length c_l_0_6, .slice q4 l_0.Walls.length c_l_0_7] :: l') := Eq.mp (by kernel_rfl) hS
     refine o_store1 (v := .int .i64 x15) one_3 q4e q6g rfl rfl hS (fun w' hS => ?_)
     refine x_done <| ?_
     refine x_fin ⟨⟨undef, rfl⟩, trivial, ?_⟩
     exact Eq.mp (by kernel_rfl) hS
    ·intro Ep2 w l' hE2 hO2 hF_ hS
     obtain ⟨q6h, -⟩ := hF_
     replace q6h : Ep2 10 = .pointer (some ⟨q2, 0, none⟩) := Eq.mp (by kernel_rfl) q6h
     refine p (yl_nilCheck q6h) <| x_done <| ?_
     refine x_fin ⟨⟨_, rfl⟩, rfl, ?_⟩
     exact Eq.mp (by kernel_rfl) hS
    ·intro Ep2 w l' hE2 hO2 hF_ hS
     obtain ⟨q4f, -⟩ := hF_
     replace q4f : Ep2 27 = .pointer (some ⟨q2, 0, none⟩) := Eq.mp (by kernel_rfl) q4f
     refine p (yl_field0 fld_91_1 q4f) <| x_done <| ?_
     refine x_fin ⟨⟨_, rfl⟩, rfl, ?_⟩
     exact Eq.mp (by kernel_rfl) hS
    ·intro Ep2 w l' hE2 hO2 hF_ hS
     obtain ⟨q6i, q4g, -⟩ := hF_
     replace q6i : Ep2 18 = .int .i64 x18 := Eq.mp (by kernel_rfl) q6i
     replace q4g : Ep2 28 = .pointer (some ⟨q2, 1, none⟩) := Eq.mp (by kernel_rfl) q4g
     replace hS : St w0 w (cells q2 91 [.int .i64 x15, .int .i64 l_0.H, .int .i64 l_0.Layers, .int .i64 l_0.Nets, .slice q6 l_0.Wires.length c_l_0_4, .slice q7 l_0.Vias.length c_l_0_5, .slice q5 l_0.Pins.length c_l_0_6, .slice q4 l_0.Walls.length c_l_0_7] :: l') := Eq.mp (by kernel_rfl) hS
     refine o_store1 (v := .int .i64 x18) one_3 q4g q6i rfl rfl hS (fun w' hS => ?_)
     refine x_done <| ?_
     refine x_fin ⟨⟨undef, rfl⟩, trivial, ?_⟩
     exact Eq.mp (by kernel_rfl) hS
    ·intro Ep2 w l' hE2 hO2 hF_ hS
     obtain ⟨q6j, -⟩ := hF_
     replace q6j : Ep2 11 = .pointer (some ⟨q2, 0, none⟩) := Eq.mp (by kernel_rfl) q6j
     refine p (yl_nilCheck q6j) <| x_done <| ?_
     refine x_fin ⟨⟨_, rfl⟩, rfl, ?_⟩
     exact Eq.mp (by kernel_rfl) hS
    ·intro Ep2 w l' hE2 hO2 hF_ hS
     obtain ⟨q4h, -⟩ := hF_
     replace q4h : Ep2 29 = .pointer (some ⟨q2, 0, none⟩) := Eq.mp (by kernel_rfl) q4h
     refine p (yl_field0 fld_91_2 q4h) <| x_done <| ?_
     refine x_fin ⟨⟨_, rfl⟩, rfl, ?_⟩
     exact Eq.mp (by kernel_rfl) hS
    ·intro Ep2 w l' hE2 hO2 hF_ hS
     obtain ⟨q4i, q4j, -⟩ := hF_
     replace q4i : Ep2 21 = .int .i64 x21 := Eq.mp (by kernel_rfl) q4i
     replace q4j : Ep2 30 = .pointer (some ⟨q2, 2, none⟩) := Eq.mp (by kernel_rfl) q4j
     replace hS : St w0 w (cells q2 91 [.int .i64 x15, .int .i64 x18, .int .i64 l_0.Layers, .int .i64 l_0.Nets, .slice q6 l_0.Wires.length c_l_0_4, .slice q7 l_0.Vias.length c_l_0_5, .slice q5 l_0.Pins.length c_l_0_6, .slice q4 l_0.Walls.length c_l_0_7] :: l') := Eq.mp (by kernel_rfl) hS
     refine o_store1 (v := .int .i64 x21) one_3 q4j q4i rfl rfl hS (fun w' hS => ?_)
     refine x_done <| ?_
     refine x_fin ⟨⟨undef, rfl⟩, trivial, ?_⟩
     exact Eq.mp (by kernel_rfl) hS
    ·intro Ep2 w l' hE2 hO2 hF_ hS
     obtain ⟨q6k, -⟩ := hF_
     replace q6k : Ep2 12 = .pointer (some ⟨q2, 0, none⟩) := Eq.mp (by kernel_rfl) q6k
     refine p (yl_nilCheck q6k) <| x_done <| ?_
     refine x_fin ⟨⟨_, rfl⟩, rfl, ?_⟩
     exact Eq.mp (by kernel_rfl) hS
    ·intro Ep2 w l' hE2 hO2 hF_ hS
     obtain ⟨q4k, -⟩ := hF_
     replace q4k : Ep2 31 = .pointer (some ⟨q2, 0, none⟩) := Eq.mp (by kernel_rfl) q4k
     refine p (yl_field0 fld_91_3 q4k) <| x_done <| ?_
     refine x_fin ⟨⟨_, rfl⟩, rfl, ?_⟩
     exact Eq.mp (by kernel_rfl) hS
    ·intro Ep2 w l' hE2 hO2 hF_ hS
     obtain ⟨q4l, q4m, -⟩ := hF_
     replace q4l : Ep2 24 = .int .i64 x24 := Eq.mp (by kernel_rfl) q4l
     replace q4m : Ep2 32 = .pointer (some ⟨q2, 3, none⟩) := Eq.mp (by kernel_rfl) q4m
     replace hS : St w0 w (cells q2 91 [.int .i64 x15, .int .i64 x18, .int .i64 x21, .int .i64 l_0.Nets, .slice q6 l_0.Wires.length c_l_0_4, .slice q7 l_0.Vias.length c_l_0_5, .slice q5 l_0.Pins.length c_l_0_6, .slice q4 l_0.Walls.length c_l_0_7] :: l') := Eq.mp (by kernel_rfl) hS
     refine o_store1 (v := .int .i64 x24) one_3 q4m q4l rfl rfl hS (fun w' hS => ?_)
     refine x_done <| ?_
     refine x_fin ⟨⟨undef, rfl⟩, trivial, ?_⟩
     exact Eq.mp (by kernel_rfl) hS
   intro Ep2 w' hE2 hF_ hS
   obtain ⟨q6f, q6h, q6j, q6k, q6b, q6c, q6g, q6d, q6e, q6i, q49, q4a, q4i, q4b, q4c, q4l, q4d, q4e, q4f, q4g, q4h, q4j, q4k, q4m, -⟩ := hF_
   replace q6f : Ep2 9 = .pointer (some ⟨q2, 0, none⟩) := Eq.mp (by kernel_rfl) q6f
   replace q6h : Ep2 10 = .pointer (some ⟨q2, 0, none⟩) := Eq.mp (by kernel_rfl) q6h
   replace q6j : Ep2 11 = .pointer (some ⟨q2, 0, none⟩) := Eq.mp (by kernel_rfl) q6j
   replace q6k : Ep2 12 = .pointer (some ⟨q2, 0, none⟩) := Eq.mp (by kernel_rfl) q6k
   replace q6b : Ep2 13 = .slice q3 n2.length c_n2 := Eq.mp (by kernel_rfl) q6b
   replace q6c : Ep2 14 = .pointer (some ((adr q3).add ((0 : Int).toNat * (RpI .i64).sz))) := Eq.mp (by kernel_rfl) q6c
   replace q6g : Ep2 15 = .int .i64 x15 := Eq.mp (by kernel_rfl) q6g
   replace q6d : Ep2 16 = .slice q3 n2.length c_n2 := Eq.mp (by kernel_rfl) q6d
   replace q6e : Ep2 17 = .pointer (some ((adr q3).add ((1 : Int).toNat * (RpI .i64).sz))) := Eq.mp (by kernel_rfl) q6e
   replace q6i : Ep2 18 = .int .i64 x18 := Eq.mp (by kernel_rfl) q6i
   replace q49 : Ep2 19 = .slice q3 n2.length c_n2 := Eq.mp (by kernel_rfl) q49
   replace q4a : Ep2 20 = .pointer (some ((adr q3).add ((2 : Int).toNat * (RpI .i64).sz))) := Eq.mp (by kernel_rfl) q4a
   replace q4i : Ep2 21 = .int .i64 x21 := Eq.mp (by kernel_rfl) q4i
   replace q4b : Ep2 22 = .slice q3 n2.length c_n2 := Eq.mp (by kernel_rfl) q4b
   replace q4c : Ep2 23 = .pointer (some ((adr q3).add ((3 : Int).toNat * (RpI .i64).sz))) := Eq.mp (by kernel_rfl) q4c
   replace q4l : Ep2 24 = .int .i64 x24 := Eq.mp (by kernel_rfl) q4l
   replace q4d : Ep2 25 = .pointer (some ⟨q2, 0, none⟩) := Eq.mp (by kernel_rfl) q4d
   replace q4e : Ep2 26 = .pointer (some ⟨q2, 0, none⟩) := Eq.mp (by kernel_rfl) q4e
   replace q4f : Ep2 27 = .pointer (some ⟨q2, 0, none⟩) := Eq.mp (by kernel_rfl) q4f
   replace q4g : Ep2 28 = .pointer (some ⟨q2, 1, none⟩) := Eq.mp (by kernel_rfl) q4g
   replace q4h : Ep2 29 = .pointer (some ⟨q2, 0, none⟩) := Eq.mp (by kernel_rfl) q4h
   replace q4j : Ep2 30 = .pointer (some ⟨q2, 2, none⟩) := Eq.mp (by kernel_rfl) q4j
   replace q4k : Ep2 31 = .pointer (some ⟨q2, 0, none⟩) := Eq.mp (by kernel_rfl) q4k
   replace q4m : Ep2 32 = .pointer (some ⟨q2, 3, none⟩) := Eq.mp (by kernel_rfl) q4m
   replace hS : St w0 w' (ro ρ :: cells q2 91 [.int .i64 x15, .int .i64 x18, .int .i64 x21, .int .i64 x24, .slice q6 l_0.Wires.length c_l_0_4, .slice q7 l_0.Vias.length c_l_0_5, .slice q5 l_0.Pins.length c_l_0_6, .slice q4 l_0.Walls.length c_l_0_7] :: (vec 98 R_rules_Wire.sz (.slice q6 l_0.Wires.length c_l_0_4) l_0.Wires.length q9 :: vec 181 R_rules_Via.sz (.slice q7 l_0.Vias.length c_l_0_5) l_0.Vias.length q0a :: vec 101 R_rules_Pin.sz (.slice q5 l_0.Pins.length c_l_0_6) l_0.Pins.length q0b :: vec 123 R_floor_Wall.sz (.slice q4 l_0.Walls.length c_l_0_7) l_0.Walls.length q0c :: l)) := Eq.mp (by kernel_rfl) hS
   exact x_inv ⟨q6, l_0.Wires.length, c_l_0_4, q9, q7, l_0.Vias.length, c_l_0_5, q0a, q5, l_0.Pins.length, c_l_0_6, q0b, q4, l_0.Walls.length, c_l_0_7, q0c, x15, x18, x21, x24, l_0.Wires, l_0.Vias, l_0.Pins, l_0.Walls, (Option.some.inj (show some _ = some _ from hFc7)), q2b, q22, q2k, q48, (((((hS.pull 5).pull 5).pull 5).pull 5).pull 5)⟩
  ·replace hFc7 := it_f hc7 hFc7
   refine x_seq <| x_region <| p (yl_eql_string rfl rfl) <| p (yl_assign rfl) <|
    x_done <| ?_
   replace hFc7 := bd_s hFc7; obtain ⟨oc33, hFc33, hFc7⟩ := hFc7
   refine x_join (fun E w => ∃ (q1i : Option Addr) (q1j : Nat) (c_b_l_0_4_c33 : Nat) (q0o : List Value) (q1k : Option Addr) (q1l : Nat) (c_b_l_0_5_c33 : Nat) (q0p : List Value) (q1m : Option Addr) (q1n : Nat) (c_b_l_0_6_c33 : Nat) (q0q : List Value) (q1o : Option Addr) (q1p : Nat) (c_b_l_0_7_c33 : Nat) (q0r : List Value) (q14 : List T_rules_Wire) (q15 : List T_rules_Via) (q16 : List T_rules_Pin) (q17 : List T_floor_Wall), (q14, q15, q16, q17) = oc33 ∧ RepL R_rules_Wire ρ q14 q0o ∧ RepL R_rules_Via ρ q15 q0p ∧ RepL R_rules_Pin ρ q16 q0q ∧ RepL R_floor_Wall ρ q17 q0r ∧ St w0 w (cells q2 91 [.int .i64 l_0.W, .int .i64 l_0.H, .int .i64 l_0.Layers, .int .i64 l_0.Nets, .slice q1i q1j c_b_l_0_4_c33, .slice q1k q1l c_b_l_0_5_c33, .slice q1m q1n c_b_l_0_6_c33, .slice q1o q1p c_b_l_0_7_c33] :: vec 98 R_rules_Wire.sz (.slice q1i q1j c_b_l_0_4_c33) q1j q0o :: vec 181 R_rules_Via.sz (.slice q1k q1l c_b_l_0_5_c33) q1l q0p :: vec 101 R_rules_Pin.sz (.slice q1m q1n c_b_l_0_6_c33) q1n q0q :: vec 123 R_floor_Wall.sz (.slice q1o q1p c_b_l_0_7_c33) q1p q0r :: ro ρ :: l)) ?_ ?_
   ·refine x_cond_p (word1 = (⟨#[119, 97, 108, 108]⟩ : ByteArray)) rfl (fun hc33 => ?_) (fun hc33 => ?_)
    ·replace hFc33 := it_t hc33 hFc33
     replace hFc33 := ck_s hFc33; obtain ⟨q7z, hFc33⟩ := hFc33
     replace hFc33 := lv_s hFc33; obtain ⟨x42, hx42, hFc33⟩ := hFc33
     replace hFc33 := ck_s hFc33; obtain ⟨q80, hFc33⟩ := hFc33
     replace hFc33 := lv_s hFc33; obtain ⟨x45, hx45, hFc33⟩ := hFc33
     replace hFc33 := ck_s hFc33; obtain ⟨q7n, hFc33⟩ := hFc33
     replace hFc33 := lv_s hFc33; obtain ⟨x48, hx48, hFc33⟩ := hFc33
     replace hFc33 := ck_s hFc33; obtain ⟨q7o, hFc33⟩ := hFc33
     replace hFc33 := lv_s hFc33; obtain ⟨x51, hx51, hFc33⟩ := hFc33
     replace hFc33 := ck_s hFc33; obtain ⟨q7p, hFc33⟩ := hFc33
     replace hFc33 := lv_s hFc33; obtain ⟨x54, hx54, hFc33⟩ := hFc33
     replace hFc33 := lv_s hFc33; obtain ⟨q0f, q8a, hFc33⟩ := hFc33
     replace hFc33 := ck_s hFc33; obtain ⟨q8b, hFc33⟩ := hFc33
     refine x_par (w0 := w0) [⟨[], [], [35], [], [], []⟩, ⟨[], [], [36], [], [], []⟩, ⟨[1], [1], [37], [], [], []⟩, ⟨[1, 2], [2], [38], [], [], []⟩, ⟨[1, 2, 3], [3], [39], [0], [], []⟩, ⟨[], [], [40], [], [], []⟩, ⟨[5], [5], [41], [1], [], []⟩, ⟨[5, 6], [6], [42], [1], [], []⟩, ⟨[], [], [43], [], [], []⟩, ⟨[8], [8], [44], [1], [], []⟩, ⟨[8, 9], [9], [45], [1], [], []⟩, ⟨[], [], [46], [], [], []⟩, ⟨[11], [11], [47], [1], [], []⟩, ⟨[11, 12], [12], [48], [1], [], []⟩, ⟨[], [], [49], [], [], []⟩, ⟨[14], [14], [50], [1], [], []⟩, ⟨[14, 15], [15], [51], [1], [], []⟩, ⟨[], [], [52], [], [], []⟩, ⟨[17], [17], [53], [1], [], []⟩, ⟨[17, 18], [18], [54], [1], [], []⟩, ⟨[5, 6, 7, 8, 9, 10, 11, 12, 13, 14, 15, 16, 17, 18, 19], [7, 10, 13, 16, 19], [55], [], [], []⟩, ⟨[5, 6, 7, 8, 9, 10, 11, 12, 13, 14, 15, 16, 17, 18, 19, 20], [20], [56], [], [], [2]⟩, ⟨[1, 2, 3, 4, 5, 6, 7, 8, 9, 10, 11, 12, 13, 14, 15, 16, 17, 18, 19, 20, 21], [4, 21], [57], [2, 1], [3], [4]⟩, ⟨[0, 1, 2, 3, 4, 5, 6, 7, 8, 9, 10, 11, 12, 13, 14, 15, 16, 17, 18, 19, 20, 21, 22], [0], [58], [], [], []⟩, ⟨[0, 1, 2, 3, 4, 5, 6, 7, 8, 9, 10, 11, 12, 13, 14, 15, 16, 17, 18, 19, 20, 21, 22, 23], [23], [59], [], [], []⟩, ⟨[0, 1, 2, 3, 4, 5, 6, 7, 8, 9, 10, 11, 12, 13, 14, 15, 16, 17, 18, 19, 20, 21, 22, 23, 24], [22, 24], [], [], [0], [5]⟩] [⟨none, (some 25), []⟩, ⟨none, none, []⟩, ⟨(some 21), none, [56]⟩, ⟨none, (some 22), []⟩, ⟨(some 22), none, [57]⟩, ⟨(some 25), none, [57]⟩] [35, 36, 37, 38, 39, 40, 41, 42, 43, 44, 45, 46, 47, 48, 49, 50, 51, 52, 53, 54, 55, 56, 57, 58, 59] [0, 1, 3] [1, 2, 4, 5] [0, 1, 2, 3, 4, 5, 6, 7, 8, 9, 10, 11, 12, 13, 14, 15, 16, 17, 18, 19, 20, 21, 22, 23, 24] [fun Ep4 => Ep4 35 = .pointer (some ⟨q2, 0, none⟩), fun Ep4 => Ep4 36 = .pointer (some ⟨q2, 0, none⟩), fun Ep4 => Ep4 37 = .pointer (some ⟨q2, 0, none⟩), fun Ep4 => Ep4 38 = .pointer (some ⟨q2, 7, none⟩), fun Ep4 => Ep4 39 = .slice q4 l_0.Walls.length c_l_0_7, fun Ep4 => Ep4 40 = .slice q3 n2.length c_n2, fun Ep4 => Ep4 41 = .pointer (some ((adr q3).add ((0 : Int).toNat * (RpI .i64).sz))), fun Ep4 => Ep4 42 = .int .i64 x42, fun Ep4 => Ep4 43 = .slice q3 n2.length c_n2, fun Ep4 => Ep4 44 = .pointer (some ((adr q3).add ((1 : Int).toNat * (RpI .i64).sz))), fun Ep4 => Ep4 45 = .int .i64 x45, fun Ep4 => Ep4 46 = .slice q3 n2.length c_n2, fun Ep4 => Ep4 47 = .pointer (some ((adr q3).add ((2 : Int).toNat * (RpI .i64).sz))), fun Ep4 => Ep4 48 = .int .i64 x48, fun Ep4 => Ep4 49 = .slice q3 n2.length c_n2, fun Ep4 => Ep4 50 = .pointer (some ((adr q3).add ((3 : Int).toNat * (RpI .i64).sz))), fun Ep4 => Ep4 51 = .int .i64 x51, fun Ep4 => Ep4 52 = .slice q3 n2.length c_n2, fun Ep4 => Ep4 53 = .pointer (some ((adr q3).add ((4 : Int).toNat * (RpI .i64).sz))), fun Ep4 => Ep4 54 = .int .i64 x54, fun Ep4 => Ep4 55 = .agg #[.int .i64 x42, .int .i64 x45, .int .i64 x48, .int .i64 x51, .int .i64 x54], fun Ep4 => Ep4 56 = .slice (some ⟨(blkOf (Ep4 56)), 0, none⟩) 1 1, fun Ep4 => Ep4 57 = .slice (adOf (Ep4 57)) q0f.length (capOf (Ep4 57)), fun Ep4 => Ep4 58 = .pointer (some ⟨q2, 0, none⟩), fun Ep4 => Ep4 59 = .pointer (some ⟨q2, 7, none⟩), fun Ep4 => True] [fun Ep4 => cells q2 91 [.int .i64 l_0.W, .int .i64 l_0.H, .int .i64 l_0.Layers, .int .i64 l_0.Nets, .slice q6 l_0.Wires.length c_l_0_4, .slice q7 l_0.Vias.length c_l_0_5, .slice q5 l_0.Pins.length c_l_0_6, .slice q4 l_0.Walls.length c_l_0_7], fun Ep4 => ro ρ, fun Ep4 => cells (blkOf (Ep4 56)) 123 [.int .i64 x42, .int .i64 x45, .int .i64 x48, .int .i64 x51, .int .i64 x54], fun Ep4 => vec 123 R_floor_Wall.sz (.slice q4 l_0.Walls.length c_l_0_7) l_0.Walls.length q0c, fun Ep4 => bunA (fun (cs57 : List Value) => RepL R_floor_Wall ρ q0f cs57) (fun (cs57 : List Value) => [vec 123 R_floor_Wall.sz (.slice (adOf (Ep4 57)) q0f.length (capOf (Ep4 57))) q0f.length cs57]), fun Ep4 => cells q2 91 [.int .i64 l_0.W, .int .i64 l_0.H, .int .i64 l_0.Layers, .int .i64 l_0.Nets, .slice q6 l_0.Wires.length c_l_0_4, .slice q7 l_0.Vias.length c_l_0_5, .slice q5 l_0.Pins.length c_l_0_6, .slice (adOf (Ep4 57)) q0f.length (capOf (Ep4 57))]] mixed (by kernel_rfl) (((hS.pull 4).pull 5).pull 2) ?_ ?_
     ·refine ⟨?_, ?_, ?_, ?_, ?_, ?_, ?_, ?_, ?_, ?_, ?_, ?_, ?_, ?_, ?_, ?_, ?_, ?_, ?_, ?_, ?_, ?_, ?_, ?_, ?_, ?_, trivial⟩
      ·intro Ep4 w l' hE4 hO4 hF_ hS
       refine p (yl_move (hE4 0 rfl)) <| x_done <| ?_
       refine x_fin ⟨⟨_, rfl⟩, rfl, ?_⟩
       exact Eq.mp (by kernel_rfl) hS
      ·intro Ep4 w l' hE4 hO4 hF_ hS
       refine p (yl_move (hE4 0 rfl)) <| x_done <| ?_
       refine x_fin ⟨⟨_, rfl⟩, rfl, ?_⟩
       exact Eq.mp (by kernel_rfl) hS
      ·intro Ep4 w l' hE4 hO4 hF_ hS
       obtain ⟨q6l, -⟩ := hF_
       replace q6l : Ep4 36 = .pointer (some ⟨q2, 0, none⟩) := Eq.mp (by kernel_rfl) q6l
       refine p (yl_nilCheck q6l) <| x_done <| ?_
       refine x_fin ⟨⟨_, rfl⟩, rfl, ?_⟩
       exact Eq.mp (by kernel_rfl) hS
      ·intro Ep4 w l' hE4 hO4 hF_ hS
       obtain ⟨q6m, -⟩ := hF_
       replace q6m : Ep4 37 = .pointer (some ⟨q2, 0, none⟩) := Eq.mp (by kernel_rfl) q6m
       refine p (yl_field0 fld_91_7 q6m) <| x_done <| ?_
       refine x_fin ⟨⟨_, rfl⟩, rfl, ?_⟩
       exact Eq.mp (by kernel_rfl) hS
      ·intro Ep4 w l' hE4 hO4 hF_ hS
       obtain ⟨q6n, -⟩ := hF_
       replace q6n : Ep4 38 = .pointer (some ⟨q2, 7, none⟩) := Eq.mp (by kernel_rfl) q6n
       replace hS : St w0 w (cells q2 91 [.int .i64 l_0.W, .int .i64 l_0.H, .int .i64 l_0.Layers, .int .i64 l_0.Nets, .slice q6 l_0.Wires.length c_l_0_4, .slice q7 l_0.Vias.length c_l_0_5, .slice q5 l_0.Pins.length c_l_0_6, .slice q4 l_0.Walls.length c_l_0_7] :: l') := Eq.mp (by kernel_rfl) hS
       refine pa (at_load one_89 q6n (hS.cell rfl)) <| x_done <| ?_
       refine x_fin ⟨⟨_, rfl⟩, rfl, ?_⟩
       exact Eq.mp (by kernel_rfl) hS
      ·intro Ep4 w l' hE4 hO4 hF_ hS
       refine p (yl_move (hE4 2 rfl)) <| x_done <| ?_
       refine x_fin ⟨⟨_, rfl⟩, rfl, ?_⟩
       exact Eq.mp (by kernel_rfl) hS
      ·intro Ep4 w l' hE4 hO4 hF_ hS
       obtain ⟨q6o, -⟩ := hF_
       replace q6o : Ep4 40 = .slice q3 n2.length c_n2 := Eq.mp (by kernel_rfl) q6o
       replace hS : St w0 w (ro ρ :: l') := Eq.mp (by kernel_rfl) hS
       refine p (yix_f sl_22 q6o rfl q8 q7z) <| x_done <| ?_
       refine x_fin ⟨⟨_, rfl⟩, rfl, ?_⟩
       exact Eq.mp (by kernel_rfl) hS
      ·intro Ep4 w l' hE4 hO4 hF_ hS
       obtain ⟨q6p, -⟩ := hF_
       replace q6p : Ep4 41 = .pointer (some ((adr q3).add ((0 : Int).toNat * (RpI .i64).sz))) := Eq.mp (by kernel_rfl) q6p
       replace hS : St w0 w (ro ρ :: l') := Eq.mp (by kernel_rfl) hS
       refine pa (at_load one_3 q6p (RdS.getW q8 hS q7z hx42)) <| x_done <| ?_
       refine x_fin ⟨⟨_, rfl⟩, rfl, ?_⟩
       exact Eq.mp (by kernel_rfl) hS
      ·intro Ep4 w l' hE4 hO4 hF_ hS
       refine p (yl_move (hE4 2 rfl)) <| x_done <| ?_
       refine x_fin ⟨⟨_, rfl⟩, rfl, ?_⟩
       exact Eq.mp (by kernel_rfl) hS
      ·intro Ep4 w l' hE4 hO4 hF_ hS
       obtain ⟨q6q, -⟩ := hF_
       replace q6q : Ep4 43 = .slice q3 n2.length c_n2 := Eq.mp (by kernel_rfl) q6q
       replace hS : St w0 w (ro ρ :: l') := Eq.mp (by kernel_rfl) hS
       refine p (yix_f sl_22 q6q rfl q8 q80) <| x_done <| ?_
       refine x_fin ⟨⟨_, rfl⟩, rfl, ?_⟩
       exact Eq.mp (by kernel_rfl) hS
      ·intro Ep4 w l' hE4 hO4 hF_ hS
       obtain ⟨q6r, -⟩ := hF_
       replace q6r : Ep4 44 = .pointer (some ((adr q3).add ((1 : Int).toNat * (RpI .i64).sz))) := Eq.mp (by kernel_rfl) q6r
       replace hS : St w0 w (ro ρ :: l') := Eq.mp (by kernel_rfl) hS
       refine pa (at_load one_3 q6r (RdS.getW q8 hS q80 hx45)) <| x_done <| ?_
       refine x_fin ⟨⟨_, rfl⟩, rfl, ?_⟩
       exact Eq.mp (by kernel_rfl) hS
      ·intro Ep4 w l' hE4 hO4 hF_ hS
       refine p (yl_move (hE4 2 rfl)) <| x_done <| ?_
       refine x_fin ⟨⟨_, rfl⟩, rfl, ?_⟩
       exact Eq.mp (by kernel_rfl) hS
      ·intro Ep4 w l' hE4 hO4 hF_ hS
       obtain ⟨q4n, -⟩ := hF_
       replace q4n : Ep4 46 = .slice q3 n2.length c_n2 := Eq.mp (by kernel_rfl) q4n
       replace hS : St w0 w (ro ρ :: l') := Eq.mp (by kernel_rfl) hS
       refine p (yix_f sl_22 q4n rfl q8 q7n) <| x_done <| ?_
       refine x_fin ⟨⟨_, rfl⟩, rfl, ?_⟩
       exact Eq.mp (by kernel_rfl) hS
      ·intro Ep4 w l' hE4 hO4 hF_ hS
       obtain ⟨q4o, -⟩ := hF_
       replace q4o : Ep4 47 = .pointer (some ((adr q3).add ((2 : Int).toNat * (RpI .i64).sz))) := Eq.mp (by kernel_rfl) q4o
       replace hS : St w0 w (ro ρ :: l') := Eq.mp (by kernel_rfl) hS
       refine pa (at_load one_3 q4o (RdS.getW q8 hS q7n hx48)) <| x_done <| ?_
       refine x_fin ⟨⟨_, rfl⟩, rfl, ?_⟩
       exact Eq.mp (by kernel_rfl) hS
      ·intro Ep4 w l' hE4 hO4 hF_ hS
       refine p (yl_move (hE4 2 rfl)) <| x_done <| ?_
       refine x_fin ⟨⟨_, rfl⟩, rfl, ?_⟩
       exact Eq.mp (by kernel_rfl) hS
      ·intro Ep4 w l' hE4 hO4 hF_ hS
       obtain ⟨q4p, -⟩ := hF_
       replace q4p : Ep4 49 = .slice q3 n2.length c_n2 := Eq.mp (by kernel_rfl) q4p
       replace hS : St w0 w (ro ρ :: l') := Eq.mp (by kernel_rfl) hS
       refine p (yix_f sl_22 q4p rfl q8 q7o) <| x_done <| ?_
       refine x_fin ⟨⟨_, rfl⟩, rfl, ?_⟩
       exact Eq.mp (by kernel_rfl) hS
      ·intro Ep4 w l' hE4 hO4 hF_ hS
       obtain ⟨q4q, -⟩ := hF_
       replace q4q : Ep4 50 = .pointer (some ((adr q3).add ((3 : Int).toNat * (RpI .i64).sz))) := Eq.mp (by kernel_rfl) q4q
       replace hS : St w0 w (ro ρ :: l') := Eq.mp (by kernel_rfl) hS
       refine pa (at_load one_3 q4q (RdS.getW q8 hS q7o hx51)) <| x_done <| ?_
       refine x_fin ⟨⟨_, rfl⟩, rfl, ?_⟩
       exact Eq.mp (by kernel_rfl) hS
      ·intro Ep4 w l' hE4 hO4 hF_ hS
       refine p (yl_move (hE4 2 rfl)) <| x_done <| ?_
       refine x_fin ⟨⟨_, rfl⟩, rfl, ?_⟩
       exact Eq.mp (by kernel_rfl) hS
      ·intro Ep4 w l' hE4 hO4 hF_ hS
       obtain ⟨q4r, -⟩ := hF_
       replace q4r : Ep4 52 = .slice q3 n2.length c_n2 := Eq.mp (by kernel_rfl) q4r
       replace hS : St w0 w (ro ρ :: l') := Eq.mp (by kernel_rfl) hS
       refine p (yix_f sl_22 q4r rfl q8 q7p) <| x_done <| ?_
       refine x_fin ⟨⟨_, rfl⟩, rfl, ?_⟩
       exact Eq.mp (by kernel_rfl) hS
      ·intro Ep4 w l' hE4 hO4 hF_ hS
       obtain ⟨q4s, -⟩ := hF_
       replace q4s : Ep4 53 = .pointer (some ((adr q3).add ((4 : Int).toNat * (RpI .i64).sz))) := Eq.mp (by kernel_rfl) q4s
       replace hS : St w0 w (ro ρ :: l') := Eq.mp (by kernel_rfl) hS
       refine pa (at_load one_3 q4s (RdS.getW q8 hS q7p hx54)) <| x_done <| ?_
       refine x_fin ⟨⟨_, rfl⟩, rfl, ?_⟩
       exact Eq.mp (by kernel_rfl) hS
      ·intro Ep4 w l' hE4 hO4 hF_ hS
       obtain ⟨q6s, q4t, q4u, q4v, q4w, -⟩ := hF_
       replace q6s : Ep4 42 = .int .i64 x42 := Eq.mp (by kernel_rfl) q6s
       replace q4t : Ep4 45 = .int .i64 x45 := Eq.mp (by kernel_rfl) q4t
       replace q4u : Ep4 48 = .int .i64 x48 := Eq.mp (by kernel_rfl) q4u
       replace q4v : Ep4 51 = .int .i64 x51 := Eq.mp (by kernel_rfl) q4v
       replace q4w : Ep4 54 = .int .i64 x54 := Eq.mp (by kernel_rfl) q4w
       refine p (v := .agg #[.int .i64 x42, .int .i64 x45, .int .i64 x48, .int .i64 x51, .int .i64 x54]) (yl_build bld_123 bldf_123 (parts_eq (pt (va := .int .i64 x42) q6s (pt (va := .int .i64 x45) q4t (pt (va := .int .i64 x48) q4u (pt (va := .int .i64 x51) q4v (pt (va := .int .i64 x54) q4w pt0)))))) (by kernel_rfl)) <| x_done <| ?_
       refine x_fin ⟨⟨_, rfl⟩, rfl, ?_⟩
       exact Eq.mp (by kernel_rfl) hS
      ·intro Ep4 w l' hE4 hO4 hF_ hS
       obtain ⟨q4x, -⟩ := hF_
       replace q4x : Ep4 55 = .agg #[.int .i64 x42, .int .i64 x45, .int .i64 x48, .int .i64 x51, .int .i64 x54] := Eq.mp (by kernel_rfl) q4x
       refine o_buildSlice (vs := [.agg #[.int .i64 x42, .int .i64 x45, .int .i64 x48, .int .i64 x51, .int .i64 x54]]) (cs := [.int .i64 x42, .int .i64 x45, .int .i64 x48, .int .i64 x51, .int .i64 x54]) sl_89 zero_123 (parts_eq (pt (va := .agg #[.int .i64 x42, .int .i64 x45, .int .i64 x48, .int .i64 x51, .int .i64 x54]) q4x pt0)) rfl (by intro v hv; simp only [List.mem_cons, List.not_mem_nil, or_false] at hv; first | (subst hv; rfl) | (rcases hv with rfl <;> rfl)) (by decide) rfl hS (fun b56 w' hS => ?_)
       refine x_done <| ?_
       refine x_fin ⟨⟨_, rfl⟩, rfl, ?_⟩
       exact Eq.mp (by kernel_rfl) hS
      ·intro Ep4 w l' hE4 hO4 hF_ hS
       obtain ⟨q6t, q4y, -⟩ := hF_
       replace q6t : Ep4 39 = .slice q4 l_0.Walls.length c_l_0_7 := Eq.mp (by kernel_rfl) q6t
       replace q4y : Ep4 56 = .slice (some ⟨(blkOf (Ep4 56)), 0, none⟩) 1 1 := Eq.mp (by kernel_rfl) q4y
       replace hS : St w0 w (cells (blkOf (Ep4 56)) 123 [.int .i64 x42, .int .i64 x45, .int .i64 x48, .int .i64 x51, .int .i64 x54] :: ro ρ :: vec 123 R_floor_Wall.sz (.slice q4 l_0.Walls.length c_l_0_7) l_0.Walls.length q0c :: l') := Eq.mp (by kernel_rfl) hS
       refine o_ap sl_89 zero_123 rfl (by decide) q6t q4y (hS.pull 2) q48 (src_blk usl_89 hS rfl rfl) (RepL.cons (R := R_floor_Wall) (ρ := ρ) (x := (T_floor_Wall.mk x42 x45 x48 x51 x54)) (cs := [.int .i64 x42, .int .i64 x45, .int .i64 x48, .int .i64 x51, .int .i64 x54]) rfl RepL.nil) q8a q8b (fun A57 c57 cs57 w' hr57 hS => ?_)
       refine x_done <| ?_
       refine x_fin ⟨⟨_, rfl⟩, rfl, ?_⟩
       replace hS := St.bun (Φ := (fun (cs57 : List Value) => RepL R_floor_Wall ρ q0f cs57)) (L := (fun (cs57 : List Value) => [vec 123 R_floor_Wall.sz (.slice A57 q0f.length c57) q0f.length cs57])) cs57 hr57 hS
       exact Eq.mp (by kernel_rfl) ((hS.pull 2).pull 2)
      ·intro Ep4 w l' hE4 hO4 hF_ hS
       obtain ⟨q6u, -⟩ := hF_
       replace q6u : Ep4 35 = .pointer (some ⟨q2, 0, none⟩) := Eq.mp (by kernel_rfl) q6u
       refine p (yl_nilCheck q6u) <| x_done <| ?_
       refine x_fin ⟨⟨_, rfl⟩, rfl, ?_⟩
       exact Eq.mp (by kernel_rfl) hS
      ·intro Ep4 w l' hE4 hO4 hF_ hS
       obtain ⟨q4z, -⟩ := hF_
       replace q4z : Ep4 58 = .pointer (some ⟨q2, 0, none⟩) := Eq.mp (by kernel_rfl) q4z
       refine p (yl_field0 fld_91_7 q4z) <| x_done <| ?_
       refine x_fin ⟨⟨_, rfl⟩, rfl, ?_⟩
       exact Eq.mp (by kernel_rfl) hS
      ·intro Ep4 w l' hE4 hO4 hF_ hS
       obtain ⟨q50, q51, -⟩ := hF_
       replace q50 : Ep4 57 = .slice (adOf (Ep4 57)) q0f.length (capOf (Ep4 57)) := Eq.mp (by kernel_rfl) q50
       replace q51 : Ep4 59 = .pointer (some ⟨q2, 7, none⟩) := Eq.mp (by kernel_rfl) q51
       replace hS : St w0 w (cells q2 91 [.int .i64 l_0.W, .int .i64 l_0.H, .int .i64 l_0.Layers, .int .i64 l_0.Nets, .slice q6 l_0.Wires.length c_l_0_4, .slice q7 l_0.Vias.length c_l_0_5, .slice q5 l_0.Pins.length c_l_0_6, .slice q4 l_0.Walls.length c_l_0_7] :: l') := Eq.mp (by kernel_rfl) hS
       refine o_store1 (v := .slice (adOf (Ep4 57)) q0f.length (capOf (Ep4 57))) one_89 q51 q50 rfl rfl hS (fun w' hS => ?_)
       refine x_done <| ?_
       refine x_fin ⟨⟨undef, rfl⟩, trivial, ?_⟩
       exact Eq.mp (by kernel_rfl) hS
     intro Ep4 w' hE4 hF_ hS
     obtain ⟨q6u, q6l, q6m, q6n, q6t, q6o, q6p, q6s, q6q, q6r, q4t, q4n, q4o, q4u, q4p, q4q, q4v, q4r, q4s, q4w, q4x, q4y, q50, q4z, q51, -⟩ := hF_
     replace q6u : Ep4 35 = .pointer (some ⟨q2, 0, none⟩) := Eq.mp (by kernel_rfl) q6u
     replace q6l : Ep4 36 = .pointer (some ⟨q2, 0, none⟩) := Eq.mp (by kernel_rfl) q6l
     replace q6m : Ep4 37 = .pointer (some ⟨q2, 0, none⟩) := Eq.mp (by kernel_rfl) q6m
     replace q6n : Ep4 38 = .pointer (some ⟨q2, 7, none⟩) := Eq.mp (by kernel_rfl) q6n
     replace q6t : Ep4 39 = .slice q4 l_0.Walls.length c_l_0_7 := Eq.mp (by kernel_rfl) q6t
     replace q6o : Ep4 40 = .slice q3 n2.length c_n2 := Eq.mp (by kernel_rfl) q6o
     replace q6p : Ep4 41 = .pointer (some ((adr q3).add ((0 : Int).toNat * (RpI .i64).sz))) := Eq.mp (by kernel_rfl) q6p
     replace q6s : Ep4 42 = .int .i64 x42 := Eq.mp (by kernel_rfl) q6s
     replace q6q : Ep4 43 = .slice q3 n2.length c_n2 := Eq.mp (by kernel_rfl) q6q
     replace q6r : Ep4 44 = .pointer (some ((adr q3).add ((1 : Int).toNat * (RpI .i64).sz))) := Eq.mp (by kernel_rfl) q6r
     replace q4t : Ep4 45 = .int .i64 x45 := Eq.mp (by kernel_rfl) q4t
     replace q4n : Ep4 46 = .slice q3 n2.length c_n2 := Eq.mp (by kernel_rfl) q4n
     replace q4o : Ep4 47 = .pointer (some ((adr q3).add ((2 : Int).toNat * (RpI .i64).sz))) := Eq.mp (by kernel_rfl) q4o
     replace q4u : Ep4 48 = .int .i64 x48 := Eq.mp (by kernel_rfl) q4u
     replace q4p : Ep4 49 = .slice q3 n2.length c_n2 := Eq.mp (by kernel_rfl) q4p
     replace q4q : Ep4 50 = .pointer (some ((adr q3).add ((3 : Int).toNat * (RpI .i64).sz))) := Eq.mp (by kernel_rfl) q4q
     replace q4v : Ep4 51 = .int .i64 x51 := Eq.mp (by kernel_rfl) q4v
     replace q4r : Ep4 52 = .slice q3 n2.length c_n2 := Eq.mp (by kernel_rfl) q4r
     replace q4s : Ep4 53 = .pointer (some ((adr q3).add ((4 : Int).toNat * (RpI .i64).sz))) := Eq.mp (by kernel_rfl) q4s
     replace q4w : Ep4 54 = .int .i64 x54 := Eq.mp (by kernel_rfl) q4w
     replace q4x : Ep4 55 = .agg #[.int .i64 x42, .int .i64 x45, .int .i64 x48, .int .i64 x51, .int .i64 x54] := Eq.mp (by kernel_rfl) q4x
     replace q4y : Ep4 56 = .slice (some ⟨(blkOf (Ep4 56)), 0, none⟩) 1 1 := Eq.mp (by kernel_rfl) q4y
     replace q50 : Ep4 57 = .slice (adOf (Ep4 57)) q0f.length (capOf (Ep4 57)) := Eq.mp (by kernel_rfl) q50
     replace q4z : Ep4 58 = .pointer (some ⟨q2, 0, none⟩) := Eq.mp (by kernel_rfl) q4z
     replace q51 : Ep4 59 = .pointer (some ⟨q2, 7, none⟩) := Eq.mp (by kernel_rfl) q51
     replace hS : St w0 w' (ro ρ :: cells (blkOf (Ep4 56)) 123 [.int .i64 x42, .int .i64 x45, .int .i64 x48, .int .i64 x51, .int .i64 x54] :: bunA (fun (cs57 : List Value) => RepL R_floor_Wall ρ q0f cs57) (fun (cs57 : List Value) => [vec 123 R_floor_Wall.sz (.slice (adOf (Ep4 57)) q0f.length (capOf (Ep4 57))) q0f.length cs57]) :: cells q2 91 [.int .i64 l_0.W, .int .i64 l_0.H, .int .i64 l_0.Layers, .int .i64 l_0.Nets, .slice q6 l_0.Wires.length c_l_0_4, .slice q7 l_0.Vias.length c_l_0_5, .slice q5 l_0.Pins.length c_l_0_6, .slice (adOf (Ep4 57)) q0f.length (capOf (Ep4 57))] :: (vec 98 R_rules_Wire.sz (.slice q6 l_0.Wires.length c_l_0_4) l_0.Wires.length q9 :: vec 181 R_rules_Via.sz (.slice q7 l_0.Vias.length c_l_0_5) l_0.Vias.length q0a :: vec 101 R_rules_Pin.sz (.slice q5 l_0.Pins.length c_l_0_6) l_0.Pins.length q0b :: l)) := Eq.mp (by kernel_rfl) hS
     have q_ := St.unbun (hS.pull 2); obtain ⟨cs57, hr57, hS⟩ := q_
     exact x_inv ⟨q6, l_0.Wires.length, c_l_0_4, q9, q7, l_0.Vias.length, c_l_0_5, q0a, q5, l_0.Pins.length, c_l_0_6, q0b, (adOf (Ep4 57)), q0f.length, (capOf (Ep4 57)), cs57, l_0.Wires, l_0.Vias, l_0.Pins, q0f, (Option.some.inj (show some _ = some _ from hFc33)), q2b, q22, q2k, hr57, (((((((hS.pull 2).drop.pull 1).pull 1).pull 5).pull 5).pull 5).pull 5)⟩
    ·replace hFc33 := it_f hc33 hFc33
     refine x_seq <| x_region <| p (yl_eql_string rfl rfl) <| p (yl_assign rfl) <|
      x_done <| ?_
     replace hFc33 := bd_s hFc33; obtain ⟨oc60, hFc60, hFc33⟩ := hFc33
     refine x_join (fun E w => ∃ (q1q : Option Addr) (q1r : Nat) (c_b_l_0_4_c60 : Nat) (q0s : List Value) (q1s : Option Addr) (q1t : Nat) (c_b_l_0_5_c60 : Nat) (q0t : List Value) (q1u : Option Addr) (q1v : Nat) (c_b_l_0_6_c60 : Nat) (q0u : List Value) (q18 : List T_rules_Wire) (q19 : List T_rules_Via) (q1a : List T_rules_Pin), (q18, q19, q1a) = oc60 ∧ RepL R_rules_Wire ρ q18 q0s ∧ RepL R_rules_Via ρ q19 q0t ∧ RepL R_rules_Pin ρ q1a q0u ∧ St w0 w (cells q2 91 [.int .i64 l_0.W, .int .i64 l_0.H, .int .i64 l_0.Layers, .int .i64 l_0.Nets, .slice q1q q1r c_b_l_0_4_c60, .slice q1s q1t c_b_l_0_5_c60, .slice q1u q1v c_b_l_0_6_c60, .slice q4 l_0.Walls.length c_l_0_7] :: vec 98 R_rules_Wire.sz (.slice q1q q1r c_b_l_0_4_c60) q1r q0s :: vec 181 R_rules_Via.sz (.slice q1s q1t c_b_l_0_5_c60) q1t q0t :: vec 101 R_rules_Pin.sz (.slice q1u q1v c_b_l_0_6_c60) q1v q0u :: vec 123 R_floor_Wall.sz (.slice q4 l_0.Walls.length c_l_0_7) l_0.Walls.length q0c :: ro ρ :: l)) ?_ ?_
     ·refine x_cond_p (word1 = (⟨#[112, 105, 110]⟩ : ByteArray)) rfl (fun hc60 => ?_) (fun hc60 => ?_)
      ·replace hFc60 := it_t hc60 hFc60
       replace hFc60 := ck_s hFc60; obtain ⟨q81, hFc60⟩ := hFc60
       replace hFc60 := lv_s hFc60; obtain ⟨x69, hx69, hFc60⟩ := hFc60
       replace hFc60 := ck_s hFc60; obtain ⟨q82, hFc60⟩ := hFc60
       replace hFc60 := lv_s hFc60; obtain ⟨x72, hx72, hFc60⟩ := hFc60
       replace hFc60 := ck_s hFc60; obtain ⟨q7q, hFc60⟩ := hFc60
       replace hFc60 := lv_s hFc60; obtain ⟨x75, hx75, hFc60⟩ := hFc60
       replace hFc60 := ck_s hFc60; obtain ⟨q7r, hFc60⟩ := hFc60
       replace hFc60 := lv_s hFc60; obtain ⟨x78, hx78, hFc60⟩ := hFc60
       replace hFc60 := lv_s hFc60; obtain ⟨q0g, q8c, hFc60⟩ := hFc60
       replace hFc60 := ck_s hFc60; obtain ⟨q8d, hFc60⟩ := hFc60
       refine x_par (w0 := w0) [⟨[], [], [62], [], [], []⟩, ⟨[], [], [63], [], [], []⟩, ⟨[1], [1], [64], [], [], []⟩, ⟨[1, 2], [2], [65], [], [], []⟩, ⟨[1, 2, 3], [3], [66], [0], [], []⟩, ⟨[], [], [67], [], [], []⟩, ⟨[5], [5], [68], [1], [], []⟩, ⟨[5, 6], [6], [69], [1], [], []⟩, ⟨[], [], [70], [], [], []⟩, ⟨[8], [8], [71], [1], [], []⟩, ⟨[8, 9], [9], [72], [1], [], []⟩, ⟨[], [], [73], [], [], []⟩, ⟨[11], [11], [74], [1], [], []⟩, ⟨[11, 12], [12], [75], [1], [], []⟩, ⟨[], [], [76], [], [], []⟩, ⟨[14], [14], [77], [1], [], []⟩, ⟨[14, 15], [15], [78], [1], [], []⟩, ⟨[5, 6, 7, 8, 9, 10, 11, 12, 13, 14, 15, 16], [7, 10, 13, 16], [79], [], [], []⟩, ⟨[5, 6, 7, 8, 9, 10, 11, 12, 13, 14, 15, 16, 17], [17], [80], [], [], [2]⟩, ⟨[1, 2, 3, 4, 5, 6, 7, 8, 9, 10, 11, 12, 13, 14, 15, 16, 17, 18], [4, 18], [81], [2, 1], [3], [4]⟩, ⟨[0, 1, 2, 3, 4, 5, 6, 7, 8, 9, 10, 11, 12, 13, 14, 15, 16, 17, 18, 19], [0], [82], [], [], []⟩, ⟨[0, 1, 2, 3, 4, 5, 6, 7, 8, 9, 10, 11, 12, 13, 14, 15, 16, 17, 18, 19, 20], [20], [83], [], [], []⟩, ⟨[0, 1, 2, 3, 4, 5, 6, 7, 8, 9, 10, 11, 12, 13, 14, 15, 16, 17, 18, 19, 20, 21], [19, 21], [], [], [0], [5]⟩] [⟨none, (some 22), []⟩, ⟨none, none, []⟩, ⟨(some 18), none, [80]⟩, ⟨none, (some 19), []⟩, ⟨(some 19), none, [81]⟩, ⟨(some 22), none, [81]⟩] [62, 63, 64, 65, 66, 67, 68, 69, 70, 71, 72, 73, 74, 75, 76, 77, 78, 79, 80, 81, 82, 83] [0, 1, 3] [1, 2, 4, 5] [0, 1, 2, 3, 4, 5, 6, 7, 8, 9, 10, 11, 12, 13, 14, 15, 16, 17, 18, 19, 20, 21] [fun Ep6 => Ep6 62 = .pointer (some ⟨q2, 0, none⟩), fun Ep6 => Ep6 63 = .pointer (some ⟨q2, 0, none⟩), fun Ep6 => Ep6 64 = .pointer (some ⟨q2, 0, none⟩), fun Ep6 => Ep6 65 = .pointer (some ⟨q2, 6, none⟩), fun Ep6 => Ep6 66 = .slice q5 l_0.Pins.length c_l_0_6, fun Ep6 => Ep6 67 = .slice q3 n2.length c_n2, fun Ep6 => Ep6 68 = .pointer (some ((adr q3).add ((0 : Int).toNat * (RpI .i64).sz))), fun Ep6 => Ep6 69 = .int .i64 x69, fun Ep6 => Ep6 70 = .slice q3 n2.length c_n2, fun Ep6 => Ep6 71 = .pointer (some ((adr q3).add ((1 : Int).toNat * (RpI .i64).sz))), fun Ep6 => Ep6 72 = .int .i64 x72, fun Ep6 => Ep6 73 = .slice q3 n2.length c_n2, fun Ep6 => Ep6 74 = .pointer (some ((adr q3).add ((2 : Int).toNat * (RpI .i64).sz))), fun Ep6 => Ep6 75 = .int .i64 x75, fun Ep6 => Ep6 76 = .slice q3 n2.length c_n2, fun Ep6 => Ep6 77 = .pointer (some ((adr q3).add ((3 : Int).toNat * (RpI .i64).sz))), fun Ep6 => Ep6 78 = .int .i64 x78, fun Ep6 => Ep6 79 = .agg #[.int .i64 x69, .int .i64 x72, .int .i64 x75, .bool false, .int .i64 x78], fun Ep6 => Ep6 80 = .slice (some ⟨(blkOf (Ep6 80)), 0, none⟩) 1 1, fun Ep6 => Ep6 81 = .slice (adOf (Ep6 81)) q0g.length (capOf (Ep6 81)), fun Ep6 => Ep6 82 = .pointer (some ⟨q2, 0, none⟩), fun Ep6 => Ep6 83 = .pointer (some ⟨q2, 6, none⟩), fun Ep6 => True] [fun Ep6 => cells q2 91 [.int .i64 l_0.W, .int .i64 l_0.H, .int .i64 l_0.Layers, .int .i64 l_0.Nets, .slice q6 l_0.Wires.length c_l_0_4, .slice q7 l_0.Vias.length c_l_0_5, .slice q5 l_0.Pins.length c_l_0_6, .slice q4 l_0.Walls.length c_l_0_7], fun Ep6 => ro ρ, fun Ep6 => cells (blkOf (Ep6 80)) 101 [.int .i64 x69, .int .i64 x72, .int .i64 x75, .bool false, .int .i64 x78], fun Ep6 => vec 101 R_rules_Pin.sz (.slice q5 l_0.Pins.length c_l_0_6) l_0.Pins.length q0b, fun Ep6 => bunA (fun (cs81 : List Value) => RepL R_rules_Pin ρ q0g cs81) (fun (cs81 : List Value) => [vec 101 R_rules_Pin.sz (.slice (adOf (Ep6 81)) q0g.length (capOf (Ep6 81))) q0g.length cs81]), fun Ep6 => cells q2 91 [.int .i64 l_0.W, .int .i64 l_0.H, .int .i64 l_0.Layers, .int .i64 l_0.Nets, .slice q6 l_0.Wires.length c_l_0_4, .slice q7 l_0.Vias.length c_l_0_5, .slice (adOf (Ep6 81)) q0g.length (capOf (Ep6 81)), .slice q4 l_0.Walls.length c_l_0_7]] mixed (by kernel_rfl) (((hS.pull 3).pull 5).pull 2) ?_ ?_
       ·refine ⟨?_, ?_, ?_, ?_, ?_, ?_, ?_, ?_, ?_, ?_, ?_, ?_, ?_, ?_, ?_, ?_, ?_, ?_, ?_, ?_, ?_, ?_, ?_, trivial⟩
        ·intro Ep6 w l' hE6 hO6 hF_ hS
         refine p (yl_move (hE6 0 rfl)) <| x_done <| ?_
         refine x_fin ⟨⟨_, rfl⟩, rfl, ?_⟩
         exact Eq.mp (by kernel_rfl) hS
        ·intro Ep6 w l' hE6 hO6 hF_ hS
         refine p (yl_move (hE6 0 rfl)) <| x_done <| ?_
         refine x_fin ⟨⟨_, rfl⟩, rfl, ?_⟩
         exact Eq.mp (by kernel_rfl) hS
        ·intro Ep6 w l' hE6 hO6 hF_ hS
         obtain ⟨q6v, -⟩ := hF_
         replace q6v : Ep6 63 = .pointer (some ⟨q2, 0, none⟩) := Eq.mp (by kernel_rfl) q6v
         refine p (yl_nilCheck q6v) <| x_done <| ?_
         refine x_fin ⟨⟨_, rfl⟩, rfl, ?_⟩
         exact Eq.mp (by kernel_rfl) hS
        ·intro Ep6 w l' hE6 hO6 hF_ hS
         obtain ⟨q6w, -⟩ := hF_
         replace q6w : Ep6 64 = .pointer (some ⟨q2, 0, none⟩) := Eq.mp (by kernel_rfl) q6w
         refine p (yl_field0 fld_91_6 q6w) <| x_done <| ?_
         refine x_fin ⟨⟨_, rfl⟩, rfl, ?_⟩
         exact Eq.mp (by kernel_rfl) hS
        ·intro Ep6 w l' hE6 hO6 hF_ hS
         obtain ⟨q6x, -⟩ := hF_
         replace q6x : Ep6 65 = .pointer (some ⟨q2, 6, none⟩) := Eq.mp (by kernel_rfl) q6x
         replace hS : St w0 w (cells q2 91 [.int .i64 l_0.W, .int .i64 l_0.H, .int .i64 l_0.Layers, .int .i64 l_0.Nets, .slice q6 l_0.Wires.length c_l_0_4, .slice q7 l_0.Vias.length c_l_0_5, .slice q5 l_0.Pins.length c_l_0_6, .slice q4 l_0.Walls.length c_l_0_7] :: l') := Eq.mp (by kernel_rfl) hS
         refine pa (at_load one_88 q6x (hS.cell rfl)) <| x_done <| ?_
         refine x_fin ⟨⟨_, rfl⟩, rfl, ?_⟩
         exact Eq.mp (by kernel_rfl) hS
        ·intro Ep6 w l' hE6 hO6 hF_ hS
         refine p (yl_move (hE6 2 rfl)) <| x_done <| ?_
         refine x_fin ⟨⟨_, rfl⟩, rfl, ?_⟩
         exact Eq.mp (by kernel_rfl) hS
        ·intro Ep6 w l' hE6 hO6 hF_ hS
         obtain ⟨q6y, -⟩ := hF_
         replace q6y : Ep6 67 = .slice q3 n2.length c_n2 := Eq.mp (by kernel_rfl) q6y
         replace hS : St w0 w (ro ρ :: l') := Eq.mp (by kernel_rfl) hS
         refine p (yix_f sl_22 q6y rfl q8 q81) <| x_done <| ?_
         refine x_fin ⟨⟨_, rfl⟩, rfl, ?_⟩
         exact Eq.mp (by kernel_rfl) hS
        ·intro Ep6 w l' hE6 hO6 hF_ hS
         obtain ⟨q6z, -⟩ := hF_
         replace q6z : Ep6 68 = .pointer (some ((adr q3).add ((0 : Int).toNat * (RpI .i64).sz))) := Eq.mp (by kernel_rfl) q6z
         replace hS : St w0 w (ro ρ :: l') := Eq.mp (by kernel_rfl) hS
         refine pa (at_load one_3 q6z (RdS.getW q8 hS q81 hx69)) <| x_done <| ?_
         refine x_fin ⟨⟨_, rfl⟩, rfl, ?_⟩
         exact Eq.mp (by kernel_rfl) hS
        ·intro Ep6 w l' hE6 hO6 hF_ hS
         refine p (yl_move (hE6 2 rfl)) <| x_done <| ?_
         refine x_fin ⟨⟨_, rfl⟩, rfl, ?_⟩
         exact Eq.mp (by kernel_rfl) hS
        ·intro Ep6 w l' hE6 hO6 hF_ hS
         obtain ⟨q70, -⟩ := hF_
         replace q70 : Ep6 70 = .slice q3 n2.length c_n2 := Eq.mp (by kernel_rfl) q70
         replace hS : St w0 w (ro ρ :: l') := Eq.mp (by kernel_rfl) hS
         refine p (yix_f sl_22 q70 rfl q8 q82) <| x_done <| ?_
         refine x_fin ⟨⟨_, rfl⟩, rfl, ?_⟩
         exact Eq.mp (by kernel_rfl) hS
        ·intro Ep6 w l' hE6 hO6 hF_ hS
         obtain ⟨q71, -⟩ := hF_
         replace q71 : Ep6 71 = .pointer (some ((adr q3).add ((1 : Int).toNat * (RpI .i64).sz))) := Eq.mp (by kernel_rfl) q71
         replace hS : St w0 w (ro ρ :: l') := Eq.mp (by kernel_rfl) hS
         refine pa (at_load one_3 q71 (RdS.getW q8 hS q82 hx72)) <| x_done <| ?_
         refine x_fin ⟨⟨_, rfl⟩, rfl, ?_⟩
         exact Eq.mp (by kernel_rfl) hS
        ·intro Ep6 w l' hE6 hO6 hF_ hS
         refine p (yl_move (hE6 2 rfl)) <| x_done <| ?_
         refine x_fin ⟨⟨_, rfl⟩, rfl, ?_⟩
         exact Eq.mp (by kernel_rfl) hS
        ·intro Ep6 w l' hE6 hO6 hF_ hS
         obtain ⟨q52, -⟩ := hF_
         replace q52 : Ep6 73 = .slice q3 n2.length c_n2 := Eq.mp (by kernel_rfl) q52
         replace hS : St w0 w (ro ρ :: l') := Eq.mp (by kernel_rfl) hS
         refine p (yix_f sl_22 q52 rfl q8 q7q) <| x_done <| ?_
         refine x_fin ⟨⟨_, rfl⟩, rfl, ?_⟩
         exact Eq.mp (by kernel_rfl) hS
        ·intro Ep6 w l' hE6 hO6 hF_ hS
         obtain ⟨q53, -⟩ := hF_
         replace q53 : Ep6 74 = .pointer (some ((adr q3).add ((2 : Int).toNat * (RpI .i64).sz))) := Eq.mp (by kernel_rfl) q53
         replace hS : St w0 w (ro ρ :: l') := Eq.mp (by kernel_rfl) hS
         refine pa (at_load one_3 q53 (RdS.getW q8 hS q7q hx75)) <| x_done <| ?_
         refine x_fin ⟨⟨_, rfl⟩, rfl, ?_⟩
         exact Eq.mp (by kernel_rfl) hS
        ·intro Ep6 w l' hE6 hO6 hF_ hS
         refine p (yl_move (hE6 2 rfl)) <| x_done <| ?_
         refine x_fin ⟨⟨_, rfl⟩, rfl, ?_⟩
         exact Eq.mp (by kernel_rfl) hS
        ·intro Ep6 w l' hE6 hO6 hF_ hS
         obtain ⟨q54, -⟩ := hF_
         replace q54 : Ep6 76 = .slice q3 n2.length c_n2 := Eq.mp (by kernel_rfl) q54
         replace hS : St w0 w (ro ρ :: l') := Eq.mp (by kernel_rfl) hS
         refine p (yix_f sl_22 q54 rfl q8 q7r) <| x_done <| ?_
         refine x_fin ⟨⟨_, rfl⟩, rfl, ?_⟩
         exact Eq.mp (by kernel_rfl) hS
        ·intro Ep6 w l' hE6 hO6 hF_ hS
         obtain ⟨q55, -⟩ := hF_
         replace q55 : Ep6 77 = .pointer (some ((adr q3).add ((3 : Int).toNat * (RpI .i64).sz))) := Eq.mp (by kernel_rfl) q55
         replace hS : St w0 w (ro ρ :: l') := Eq.mp (by kernel_rfl) hS
         refine pa (at_load one_3 q55 (RdS.getW q8 hS q7r hx78)) <| x_done <| ?_
         refine x_fin ⟨⟨_, rfl⟩, rfl, ?_⟩
         exact Eq.mp (by kernel_rfl) hS
        ·intro Ep6 w l' hE6 hO6 hF_ hS
         obtain ⟨q72, q56, q57, q58, -⟩ := hF_
         replace q72 : Ep6 69 = .int .i64 x69 := Eq.mp (by kernel_rfl) q72
         replace q56 : Ep6 72 = .int .i64 x72 := Eq.mp (by kernel_rfl) q56
         replace q57 : Ep6 75 = .int .i64 x75 := Eq.mp (by kernel_rfl) q57
         replace q58 : Ep6 78 = .int .i64 x78 := Eq.mp (by kernel_rfl) q58
         refine p (v := .agg #[.int .i64 x69, .int .i64 x72, .int .i64 x75, .bool false, .int .i64 x78]) (yl_build bld_101 bldf_101 (parts_eq (pt (va := .int .i64 x69) q72 (pt (va := .int .i64 x72) q56 (pt (va := .int .i64 x75) q57 (pt (va := .int .i64 x78) q58 pt0))))) (by kernel_rfl)) <| x_done <| ?_
         refine x_fin ⟨⟨_, rfl⟩, rfl, ?_⟩
         exact Eq.mp (by kernel_rfl) hS
        ·intro Ep6 w l' hE6 hO6 hF_ hS
         obtain ⟨q59, -⟩ := hF_
         replace q59 : Ep6 79 = .agg #[.int .i64 x69, .int .i64 x72, .int .i64 x75, .bool false, .int .i64 x78] := Eq.mp (by kernel_rfl) q59
         refine o_buildSlice (vs := [.agg #[.int .i64 x69, .int .i64 x72, .int .i64 x75, .bool false, .int .i64 x78]]) (cs := [.int .i64 x69, .int .i64 x72, .int .i64 x75, .bool false, .int .i64 x78]) sl_88 zero_101 (parts_eq (pt (va := .agg #[.int .i64 x69, .int .i64 x72, .int .i64 x75, .bool false, .int .i64 x78]) q59 pt0)) rfl (by intro v hv; simp only [List.mem_cons, List.not_mem_nil, or_false] at hv; first | (subst hv; rfl) | (rcases hv with rfl <;> rfl)) (by decide) rfl hS (fun b80 w' hS => ?_)
         refine x_done <| ?_
         refine x_fin ⟨⟨_, rfl⟩, rfl, ?_⟩
         exact Eq.mp (by kernel_rfl) hS
        ·intro Ep6 w l' hE6 hO6 hF_ hS
         obtain ⟨q73, q5a, -⟩ := hF_
         replace q73 : Ep6 66 = .slice q5 l_0.Pins.length c_l_0_6 := Eq.mp (by kernel_rfl) q73
         replace q5a : Ep6 80 = .slice (some ⟨(blkOf (Ep6 80)), 0, none⟩) 1 1 := Eq.mp (by kernel_rfl) q5a
         replace hS : St w0 w (cells (blkOf (Ep6 80)) 101 [.int .i64 x69, .int .i64 x72, .int .i64 x75, .bool false, .int .i64 x78] :: ro ρ :: vec 101 R_rules_Pin.sz (.slice q5 l_0.Pins.length c_l_0_6) l_0.Pins.length q0b :: l') := Eq.mp (by kernel_rfl) hS
         refine o_ap sl_88 zero_101 rfl (by decide) q73 q5a (hS.pull 2) q2k (src_blk usl_88 hS rfl rfl) (RepL.cons (R := R_rules_Pin) (ρ := ρ) (x := (T_rules_Pin.mk x69 x72 x75 false x78)) (cs := [.int .i64 x69, .int .i64 x72, .int .i64 x75, .bool false, .int .i64 x78]) rfl RepL.nil) q8c q8d (fun A81 c81 cs81 w' hr81 hS => ?_)
         refine x_done <| ?_
         refine x_fin ⟨⟨_, rfl⟩, rfl, ?_⟩
         replace hS := St.bun (Φ := (fun (cs81 : List Value) => RepL R_rules_Pin ρ q0g cs81)) (L := (fun (cs81 : List Value) => [vec 101 R_rules_Pin.sz (.slice A81 q0g.length c81) q0g.length cs81])) cs81 hr81 hS
         exact Eq.mp (by kernel_rfl) ((hS.pull 2).pull 2)
        ·intro Ep6 w l' hE6 hO6 hF_ hS
         obtain ⟨q74, -⟩ := hF_
         replace q74 : Ep6 62 = .pointer (some ⟨q2, 0, none⟩) := Eq.mp (by kernel_rfl) q74
         refine p (yl_nilCheck q74) <| x_done <| ?_
         refine x_fin ⟨⟨_, rfl⟩, rfl, ?_⟩
         exact Eq.mp (by kernel_rfl) hS
        ·intro Ep6 w l' hE6 hO6 hF_ hS
         obtain ⟨q5b, -⟩ := hF_
         replace q5b : Ep6 82 = .pointer (some ⟨q2, 0, none⟩) := Eq.mp (by kernel_rfl) q5b
         refine p (yl_field0 fld_91_6 q5b) <| x_done <| ?_
         refine x_fin ⟨⟨_, rfl⟩, rfl, ?_⟩
         exact Eq.mp (by kernel_rfl) hS
        ·intro Ep6 w l' hE6 hO6 hF_ hS
         obtain ⟨q5c, q5d, -⟩ := hF_
         replace q5c : Ep6 81 = .slice (adOf (Ep6 81)) q0g.length (capOf (Ep6 81)) := Eq.mp (by kernel_rfl) q5c
         replace q5d : Ep6 83 = .pointer (some ⟨q2, 6, none⟩) := Eq.mp (by kernel_rfl) q5d
         replace hS : St w0 w (cells q2 91 [.int .i64 l_0.W, .int .i64 l_0.H, .int .i64 l_0.Layers, .int .i64 l_0.Nets, .slice q6 l_0.Wires.length c_l_0_4, .slice q7 l_0.Vias.length c_l_0_5, .slice q5 l_0.Pins.length c_l_0_6, .slice q4 l_0.Walls.length c_l_0_7] :: l') := Eq.mp (by kernel_rfl) hS
         refine o_store1 (v := .slice (adOf (Ep6 81)) q0g.length (capOf (Ep6 81))) one_88 q5d q5c rfl rfl hS (fun w' hS => ?_)
         refine x_done <| ?_
         refine x_fin ⟨⟨undef, rfl⟩, trivial, ?_⟩
         exact Eq.mp (by kernel_rfl) hS
       intro Ep6 w' hE6 hF_ hS
       obtain ⟨q74, q6v, q6w, q6x, q73, q6y, q6z, q72, q70, q71, q56, q52, q53, q57, q54, q55, q58, q59, q5a, q5c, q5b, q5d, -⟩ := hF_
       replace q74 : Ep6 62 = .pointer (some ⟨q2, 0, none⟩) := Eq.mp (by kernel_rfl) q74
       replace q6v : Ep6 63 = .pointer (some ⟨q2, 0, none⟩) := Eq.mp (by kernel_rfl) q6v
       replace q6w : Ep6 64 = .pointer (some ⟨q2, 0, none⟩) := Eq.mp (by kernel_rfl) q6w
       replace q6x : Ep6 65 = .pointer (some ⟨q2, 6, none⟩) := Eq.mp (by kernel_rfl) q6x
       replace q73 : Ep6 66 = .slice q5 l_0.Pins.length c_l_0_6 := Eq.mp (by kernel_rfl) q73
       replace q6y : Ep6 67 = .slice q3 n2.length c_n2 := Eq.mp (by kernel_rfl) q6y
       replace q6z : Ep6 68 = .pointer (some ((adr q3).add ((0 : Int).toNat * (RpI .i64).sz))) := Eq.mp (by kernel_rfl) q6z
       replace q72 : Ep6 69 = .int .i64 x69 := Eq.mp (by kernel_rfl) q72
       replace q70 : Ep6 70 = .slice q3 n2.length c_n2 := Eq.mp (by kernel_rfl) q70
       replace q71 : Ep6 71 = .pointer (some ((adr q3).add ((1 : Int).toNat * (RpI .i64).sz))) := Eq.mp (by kernel_rfl) q71
       replace q56 : Ep6 72 = .int .i64 x72 := Eq.mp (by kernel_rfl) q56
       replace q52 : Ep6 73 = .slice q3 n2.length c_n2 := Eq.mp (by kernel_rfl) q52
       replace q53 : Ep6 74 = .pointer (some ((adr q3).add ((2 : Int).toNat * (RpI .i64).sz))) := Eq.mp (by kernel_rfl) q53
       replace q57 : Ep6 75 = .int .i64 x75 := Eq.mp (by kernel_rfl) q57
       replace q54 : Ep6 76 = .slice q3 n2.length c_n2 := Eq.mp (by kernel_rfl) q54
       replace q55 : Ep6 77 = .pointer (some ((adr q3).add ((3 : Int).toNat * (RpI .i64).sz))) := Eq.mp (by kernel_rfl) q55
       replace q58 : Ep6 78 = .int .i64 x78 := Eq.mp (by kernel_rfl) q58
       replace q59 : Ep6 79 = .agg #[.int .i64 x69, .int .i64 x72, .int .i64 x75, .bool false, .int .i64 x78] := Eq.mp (by kernel_rfl) q59
       replace q5a : Ep6 80 = .slice (some ⟨(blkOf (Ep6 80)), 0, none⟩) 1 1 := Eq.mp (by kernel_rfl) q5a
       replace q5c : Ep6 81 = .slice (adOf (Ep6 81)) q0g.length (capOf (Ep6 81)) := Eq.mp (by kernel_rfl) q5c
       replace q5b : Ep6 82 = .pointer (some ⟨q2, 0, none⟩) := Eq.mp (by kernel_rfl) q5b
       replace q5d : Ep6 83 = .pointer (some ⟨q2, 6, none⟩) := Eq.mp (by kernel_rfl) q5d
       replace hS : St w0 w' (ro ρ :: cells (blkOf (Ep6 80)) 101 [.int .i64 x69, .int .i64 x72, .int .i64 x75, .bool false, .int .i64 x78] :: bunA (fun (cs81 : List Value) => RepL R_rules_Pin ρ q0g cs81) (fun (cs81 : List Value) => [vec 101 R_rules_Pin.sz (.slice (adOf (Ep6 81)) q0g.length (capOf (Ep6 81))) q0g.length cs81]) :: cells q2 91 [.int .i64 l_0.W, .int .i64 l_0.H, .int .i64 l_0.Layers, .int .i64 l_0.Nets, .slice q6 l_0.Wires.length c_l_0_4, .slice q7 l_0.Vias.length c_l_0_5, .slice (adOf (Ep6 81)) q0g.length (capOf (Ep6 81)), .slice q4 l_0.Walls.length c_l_0_7] :: (vec 98 R_rules_Wire.sz (.slice q6 l_0.Wires.length c_l_0_4) l_0.Wires.length q9 :: vec 181 R_rules_Via.sz (.slice q7 l_0.Vias.length c_l_0_5) l_0.Vias.length q0a :: vec 123 R_floor_Wall.sz (.slice q4 l_0.Walls.length c_l_0_7) l_0.Walls.length q0c :: l)) := Eq.mp (by kernel_rfl) hS
       have q_ := St.unbun (hS.pull 2); obtain ⟨cs81, hr81, hS⟩ := q_
       exact x_inv ⟨q6, l_0.Wires.length, c_l_0_4, q9, q7, l_0.Vias.length, c_l_0_5, q0a, (adOf (Ep6 81)), q0g.length, (capOf (Ep6 81)), cs81, l_0.Wires, l_0.Vias, q0g, (Option.some.inj (show some _ = some _ from hFc60)), q2b, q22, hr81, (((((((hS.pull 2).drop.pull 1).pull 5).pull 2).pull 5).pull 5).pull 5)⟩
      ·replace hFc60 := it_f hc60 hFc60
       refine x_seq <| x_region <| p (yl_eql_string rfl rfl) <| p (yl_assign rfl) <|
        x_done <| ?_
       replace hFc60 := bd_s hFc60; obtain ⟨oc84, hFc84, hFc60⟩ := hFc60
       refine x_join (fun E w => ∃ (q1w : Option Addr) (q1x : Nat) (c_b_l_0_4_c84 : Nat) (q0v : List Value) (q1y : Option Addr) (q1z : Nat) (c_b_l_0_5_c84 : Nat) (q0w : List Value) (q20 : Option Addr) (q21 : Nat) (c_b_l_0_6_c84 : Nat) (q0x : List Value) (q1b : List T_rules_Wire) (q1c : List T_rules_Via) (q1d : List T_rules_Pin), (q1b, q1c, q1d) = oc84 ∧ RepL R_rules_Wire ρ q1b q0v ∧ RepL R_rules_Via ρ q1c q0w ∧ RepL R_rules_Pin ρ q1d q0x ∧ St w0 w (cells q2 91 [.int .i64 l_0.W, .int .i64 l_0.H, .int .i64 l_0.Layers, .int .i64 l_0.Nets, .slice q1w q1x c_b_l_0_4_c84, .slice q1y q1z c_b_l_0_5_c84, .slice q20 q21 c_b_l_0_6_c84, .slice q4 l_0.Walls.length c_l_0_7] :: vec 98 R_rules_Wire.sz (.slice q1w q1x c_b_l_0_4_c84) q1x q0v :: vec 181 R_rules_Via.sz (.slice q1y q1z c_b_l_0_5_c84) q1z q0w :: vec 101 R_rules_Pin.sz (.slice q20 q21 c_b_l_0_6_c84) q21 q0x :: vec 123 R_floor_Wall.sz (.slice q4 l_0.Walls.length c_l_0_7) l_0.Walls.length q0c :: ro ρ :: l)) ?_ ?_
       ·refine x_cond_p (word1 = (⟨#[100, 114, 105, 118, 101]⟩ : ByteArray)) rfl (fun hc84 => ?_) (fun hc84 => ?_)
        ·replace hFc84 := it_t hc84 hFc84
         replace hFc84 := ck_s hFc84; obtain ⟨q83, hFc84⟩ := hFc84
         replace hFc84 := lv_s hFc84; obtain ⟨x93, hx93, hFc84⟩ := hFc84
         replace hFc84 := ck_s hFc84; obtain ⟨q84, hFc84⟩ := hFc84
         replace hFc84 := lv_s hFc84; obtain ⟨x96, hx96, hFc84⟩ := hFc84
         replace hFc84 := ck_s hFc84; obtain ⟨q7s, hFc84⟩ := hFc84
         replace hFc84 := lv_s hFc84; obtain ⟨x99, hx99, hFc84⟩ := hFc84
         replace hFc84 := lv_s hFc84; obtain ⟨q0h, q8e, hFc84⟩ := hFc84
         replace hFc84 := ck_s hFc84; obtain ⟨q8f, hFc84⟩ := hFc84
         refine x_par (w0 := w0) [⟨[], [], [86], [], [], []⟩, ⟨[], [], [87], [], [], []⟩, ⟨[1], [1], [88], [], [], []⟩, ⟨[1, 2], [2], [89], [], [], []⟩, ⟨[1, 2, 3], [3], [90], [0], [], []⟩, ⟨[], [], [91], [], [], []⟩, ⟨[5], [5], [92], [1], [], []⟩, ⟨[5, 6], [6], [93], [1], [], []⟩, ⟨[], [], [94], [], [], []⟩, ⟨[8], [8], [95], [1], [], []⟩, ⟨[8, 9], [9], [96], [1], [], []⟩, ⟨[], [], [97], [], [], []⟩, ⟨[11], [11], [98], [1], [], []⟩, ⟨[11, 12], [12], [99], [1], [], []⟩, ⟨[5, 6, 7, 8, 9, 10, 11, 12, 13], [7, 10, 13], [100], [], [], []⟩, ⟨[5, 6, 7, 8, 9, 10, 11, 12, 13, 14], [14], [101], [], [], [2]⟩, ⟨[1, 2, 3, 4, 5, 6, 7, 8, 9, 10, 11, 12, 13, 14, 15], [4, 15], [102], [2, 1], [3], [4]⟩, ⟨[0, 1, 2, 3, 4, 5, 6, 7, 8, 9, 10, 11, 12, 13, 14, 15, 16], [0], [103], [], [], []⟩, ⟨[0, 1, 2, 3, 4, 5, 6, 7, 8, 9, 10, 11, 12, 13, 14, 15, 16, 17], [17], [104], [], [], []⟩, ⟨[0, 1, 2, 3, 4, 5, 6, 7, 8, 9, 10, 11, 12, 13, 14, 15, 16, 17, 18], [16, 18], [], [], [0], [5]⟩] [⟨none, (some 19), []⟩, ⟨none, none, []⟩, ⟨(some 15), none, [101]⟩, ⟨none, (some 16), []⟩, ⟨(some 16), none, [102]⟩, ⟨(some 19), none, [102]⟩] [86, 87, 88, 89, 90, 91, 92, 93, 94, 95, 96, 97, 98, 99, 100, 101, 102, 103, 104] [0, 1, 3] [1, 2, 4, 5] [0, 1, 2, 3, 4, 5, 6, 7, 8, 9, 10, 11, 12, 13, 14, 15, 16, 17, 18] [fun Ep8 => Ep8 86 = .pointer (some ⟨q2, 0, none⟩), fun Ep8 => Ep8 87 = .pointer (some ⟨q2, 0, none⟩), fun Ep8 => Ep8 88 = .pointer (some ⟨q2, 0, none⟩), fun Ep8 => Ep8 89 = .pointer (some ⟨q2, 6, none⟩), fun Ep8 => Ep8 90 = .slice q5 l_0.Pins.length c_l_0_6, fun Ep8 => Ep8 91 = .slice q3 n2.length c_n2, fun Ep8 => Ep8 92 = .pointer (some ((adr q3).add ((0 : Int).toNat * (RpI .i64).sz))), fun Ep8 => Ep8 93 = .int .i64 x93, fun Ep8 => Ep8 94 = .slice q3 n2.length c_n2, fun Ep8 => Ep8 95 = .pointer (some ((adr q3).add ((1 : Int).toNat * (RpI .i64).sz))), fun Ep8 => Ep8 96 = .int .i64 x96, fun Ep8 => Ep8 97 = .slice q3 n2.length c_n2, fun Ep8 => Ep8 98 = .pointer (some ((adr q3).add ((2 : Int).toNat * (RpI .i64).sz))), fun Ep8 => Ep8 99 = .int .i64 x99, fun Ep8 => Ep8 100 = .agg #[.int .i64 x93, .int .i64 x96, .int .i64 x99, .bool true, .int .i64 0], fun Ep8 => Ep8 101 = .slice (some ⟨(blkOf (Ep8 101)), 0, none⟩) 1 1, fun Ep8 => Ep8 102 = .slice (adOf (Ep8 102)) q0h.length (capOf (Ep8 102)), fun Ep8 => Ep8 103 = .pointer (some ⟨q2, 0, none⟩), fun Ep8 => Ep8 104 = .pointer (some ⟨q2, 6, none⟩), fun Ep8 => True] [fun Ep8 => cells q2 91 [.int .i64 l_0.W, .int .i64 l_0.H, .int .i64 l_0.Layers, .int .i64 l_0.Nets, .slice q6 l_0.Wires.length c_l_0_4, .slice q7 l_0.Vias.length c_l_0_5, .slice q5 l_0.Pins.length c_l_0_6, .slice q4 l_0.Walls.length c_l_0_7], fun Ep8 => ro ρ, fun Ep8 => cells (blkOf (Ep8 101)) 101 [.int .i64 x93, .int .i64 x96, .int .i64 x99, .bool true, .int .i64 0], fun Ep8 => vec 101 R_rules_Pin.sz (.slice q5 l_0.Pins.length c_l_0_6) l_0.Pins.length q0b, fun Ep8 => bunA (fun (cs102 : List Value) => RepL R_rules_Pin ρ q0h cs102) (fun (cs102 : List Value) => [vec 101 R_rules_Pin.sz (.slice (adOf (Ep8 102)) q0h.length (capOf (Ep8 102))) q0h.length cs102]), fun Ep8 => cells q2 91 [.int .i64 l_0.W, .int .i64 l_0.H, .int .i64 l_0.Layers, .int .i64 l_0.Nets, .slice q6 l_0.Wires.length c_l_0_4, .slice q7 l_0.Vias.length c_l_0_5, .slice (adOf (Ep8 102)) q0h.length (capOf (Ep8 102)), .slice q4 l_0.Walls.length c_l_0_7]] mixed (by kernel_rfl) (((hS.pull 3).pull 5).pull 2) ?_ ?_
         ·refine ⟨?_, ?_, ?_, ?_, ?_, ?_, ?_, ?_, ?_, ?_, ?_, ?_, ?_, ?_, ?_, ?_, ?_, ?_, ?_, ?_, trivial⟩
          ·intro Ep8 w l' hE8 hO8 hF_ hS
           refine p (yl_move (hE8 0 rfl)) <| x_done <| ?_
           refine x_fin ⟨⟨_, rfl⟩, rfl, ?_⟩
           exact Eq.mp (by kernel_rfl) hS
          ·intro Ep8 w l' hE8 hO8 hF_ hS
           refine p (yl_move (hE8 0 rfl)) <| x_done <| ?_
           refine x_fin ⟨⟨_, rfl⟩, rfl, ?_⟩
           exact Eq.mp (by kernel_rfl) hS
          ·intro Ep8 w l' hE8 hO8 hF_ hS
           obtain ⟨q75, -⟩ := hF_
           replace q75 : Ep8 87 = .pointer (some ⟨q2, 0, none⟩) := Eq.mp (by kernel_rfl) q75
           refine p (yl_nilCheck q75) <| x_done <| ?_
           refine x_fin ⟨⟨_, rfl⟩, rfl, ?_⟩
           exact Eq.mp (by kernel_rfl) hS
          ·intro Ep8 w l' hE8 hO8 hF_ hS
           obtain ⟨q76, -⟩ := hF_
           replace q76 : Ep8 88 = .pointer (some ⟨q2, 0, none⟩) := Eq.mp (by kernel_rfl) q76
           refine p (yl_field0 fld_91_6 q76) <| x_done <| ?_
           refine x_fin ⟨⟨_, rfl⟩, rfl, ?_⟩
           exact Eq.mp (by kernel_rfl) hS
          ·intro Ep8 w l' hE8 hO8 hF_ hS
           obtain ⟨q77, -⟩ := hF_
           replace q77 : Ep8 89 = .pointer (some ⟨q2, 6, none⟩) := Eq.mp (by kernel_rfl) q77
           replace hS : St w0 w (cells q2 91 [.int .i64 l_0.W, .int .i64 l_0.H, .int .i64 l_0.Layers, .int .i64 l_0.Nets, .slice q6 l_0.Wires.length c_l_0_4, .slice q7 l_0.Vias.length c_l_0_5, .slice q5 l_0.Pins.length c_l_0_6, .slice q4 l_0.Walls.length c_l_0_7] :: l') := Eq.mp (by kernel_rfl) hS
           refine pa (at_load one_88 q77 (hS.cell rfl)) <| x_done <| ?_
           refine x_fin ⟨⟨_, rfl⟩, rfl, ?_⟩
           exact Eq.mp (by kernel_rfl) hS
          ·intro Ep8 w l' hE8 hO8 hF_ hS
           refine p (yl_move (hE8 2 rfl)) <| x_done <| ?_
           refine x_fin ⟨⟨_, rfl⟩, rfl, ?_⟩
           exact Eq.mp (by kernel_rfl) hS
          ·intro Ep8 w l' hE8 hO8 hF_ hS
           obtain ⟨q78, -⟩ := hF_
           replace q78 : Ep8 91 = .slice q3 n2.length c_n2 := Eq.mp (by kernel_rfl) q78
           replace hS : St w0 w (ro ρ :: l') := Eq.mp (by kernel_rfl) hS
           refine p (yix_f sl_22 q78 rfl q8 q83) <| x_done <| ?_
           refine x_fin ⟨⟨_, rfl⟩, rfl, ?_⟩
           exact Eq.mp (by kernel_rfl) hS
          ·intro Ep8 w l' hE8 hO8 hF_ hS
           obtain ⟨q79, -⟩ := hF_
           replace q79 : Ep8 92 = .pointer (some ((adr q3).add ((0 : Int).toNat * (RpI .i64).sz))) := Eq.mp (by kernel_rfl) q79
           replace hS : St w0 w (ro ρ :: l') := Eq.mp (by kernel_rfl) hS
           refine pa (at_load one_3 q79 (RdS.getW q8 hS q83 hx93)) <| x_done <| ?_
           refine x_fin ⟨⟨_, rfl⟩, rfl, ?_⟩
           exact Eq.mp (by kernel_rfl) hS
          ·intro Ep8 w l' hE8 hO8 hF_ hS
           refine p (yl_move (hE8 2 rfl)) <| x_done <| ?_
           refine x_fin ⟨⟨_, rfl⟩, rfl, ?_⟩
           exact Eq.mp (by kernel_rfl) hS
          ·intro Ep8 w l' hE8 hO8 hF_ hS
           obtain ⟨q7a, -⟩ := hF_
           replace q7a : Ep8 94 = .slice q3 n2.length c_n2 := Eq.mp (by kernel_rfl) q7a
           replace hS : St w0 w (ro ρ :: l') := Eq.mp (by kernel_rfl) hS
           refine p (yix_f sl_22 q7a rfl q8 q84) <| x_done <| ?_
           refine x_fin ⟨⟨_, rfl⟩, rfl, ?_⟩
           exact Eq.mp (by kernel_rfl) hS
          ·intro Ep8 w l' hE8 hO8 hF_ hS
           obtain ⟨q7b, -⟩ := hF_
           replace q7b : Ep8 95 = .pointer (some ((adr q3).add ((1 : Int).toNat * (RpI .i64).sz))) := Eq.mp (by kernel_rfl) q7b
           replace hS : St w0 w (ro ρ :: l') := Eq.mp (by kernel_rfl) hS
           refine pa (at_load one_3 q7b (RdS.getW q8 hS q84 hx96)) <| x_done <| ?_
           refine x_fin ⟨⟨_, rfl⟩, rfl, ?_⟩
           exact Eq.mp (by kernel_rfl) hS
          ·intro Ep8 w l' hE8 hO8 hF_ hS
           refine p (yl_move (hE8 2 rfl)) <| x_done <| ?_
           refine x_fin ⟨⟨_, rfl⟩, rfl, ?_⟩
           exact Eq.mp (by kernel_rfl) hS
          ·intro Ep8 w l' hE8 hO8 hF_ hS
           obtain ⟨q5e, -⟩ := hF_
           replace q5e : Ep8 97 = .slice q3 n2.length c_n2 := Eq.mp (by kernel_rfl) q5e
           replace hS : St w0 w (ro ρ :: l') := Eq.mp (by kernel_rfl) hS
           refine p (yix_f sl_22 q5e rfl q8 q7s) <| x_done <| ?_
           refine x_fin ⟨⟨_, rfl⟩, rfl, ?_⟩
           exact Eq.mp (by kernel_rfl) hS
          ·intro Ep8 w l' hE8 hO8 hF_ hS
           obtain ⟨q5f, -⟩ := hF_
           replace q5f : Ep8 98 = .pointer (some ((adr q3).add ((2 : Int).toNat * (RpI .i64).sz))) := Eq.mp (by kernel_rfl) q5f
           replace hS : St w0 w (ro ρ :: l') := Eq.mp (by kernel_rfl) hS
           refine pa (at_load one_3 q5f (RdS.getW q8 hS q7s hx99)) <| x_done <| ?_
           refine x_fin ⟨⟨_, rfl⟩, rfl, ?_⟩
           exact Eq.mp (by kernel_rfl) hS
          ·intro Ep8 w l' hE8 hO8 hF_ hS
           obtain ⟨q7c, q5g, q5h, -⟩ := hF_
           replace q7c : Ep8 93 = .int .i64 x93 := Eq.mp (by kernel_rfl) q7c
           replace q5g : Ep8 96 = .int .i64 x96 := Eq.mp (by kernel_rfl) q5g
           replace q5h : Ep8 99 = .int .i64 x99 := Eq.mp (by kernel_rfl) q5h
           refine p (v := .agg #[.int .i64 x93, .int .i64 x96, .int .i64 x99, .bool true, .int .i64 0]) (yl_build bld_101 bldf_101 (parts_eq (pt (va := .int .i64 x93) q7c (pt (va := .int .i64 x96) q5g (pt (va := .int .i64 x99) q5h (pt (va := .bool true) rfl pt0))))) (by kernel_rfl)) <| x_done <| ?_
           refine x_fin ⟨⟨_, rfl⟩, rfl, ?_⟩
           exact Eq.mp (by kernel_rfl) hS
          ·intro Ep8 w l' hE8 hO8 hF_ hS
           obtain ⟨q5i, -⟩ := hF_
           replace q5i : Ep8 100 = .agg #[.int .i64 x93, .int .i64 x96, .int .i64 x99, .bool true, .int .i64 0] := Eq.mp (by kernel_rfl) q5i
           refine o_buildSlice (vs := [.agg #[.int .i64 x93, .int .i64 x96, .int .i64 x99, .bool true, .int .i64 0]]) (cs := [.int .i64 x93, .int .i64 x96, .int .i64 x99, .bool true, .int .i64 0]) sl_88 zero_101 (parts_eq (pt (va := .agg #[.int .i64 x93, .int .i64 x96, .int .i64 x99, .bool true, .int .i64 0]) q5i pt0)) rfl (by intro v hv; simp only [List.mem_cons, List.not_mem_nil, or_false] at hv; first | (subst hv; rfl) | (rcases hv with rfl <;> rfl)) (by decide) rfl hS (fun b101 w' hS => ?_)
           refine x_done <| ?_
           refine x_fin ⟨⟨_, rfl⟩, rfl, ?_⟩
           exact Eq.mp (by kernel_rfl) hS
          ·intro Ep8 w l' hE8 hO8 hF_ hS
           obtain ⟨q7d, q5j, -⟩ := hF_
           replace q7d : Ep8 90 = .slice q5 l_0.Pins.length c_l_0_6 := Eq.mp (by kernel_rfl) q7d
           replace q5j : Ep8 101 = .slice (some ⟨(blkOf (Ep8 101)), 0, none⟩) 1 1 := Eq.mp (by kernel_rfl) q5j
           replace hS : St w0 w (cells (blkOf (Ep8 101)) 101 [.int .i64 x93, .int .i64 x96, .int .i64 x99, .bool true, .int .i64 0] :: ro ρ :: vec 101 R_rules_Pin.sz (.slice q5 l_0.Pins.length c_l_0_6) l_0.Pins.length q0b :: l') := Eq.mp (by kernel_rfl) hS
           refine o_ap sl_88 zero_101 rfl (by decide) q7d q5j (hS.pull 2) q2k (src_blk usl_88 hS rfl rfl) (RepL.cons (R := R_rules_Pin) (ρ := ρ) (x := (T_rules_Pin.mk x93 x96 x99 true 0)) (cs := [.int .i64 x93, .int .i64 x96, .int .i64 x99, .bool true, .int .i64 0]) rfl RepL.nil) q8e q8f (fun A102 c102 cs102 w' hr102 hS => ?_)
           refine x_done <| ?_
           refine x_fin ⟨⟨_, rfl⟩, rfl, ?_⟩
           replace hS := St.bun (Φ := (fun (cs102 : List Value) => RepL R_rules_Pin ρ q0h cs102)) (L := (fun (cs102 : List Value) => [vec 101 R_rules_Pin.sz (.slice A102 q0h.length c102) q0h.length cs102])) cs102 hr102 hS
           exact Eq.mp (by kernel_rfl) ((hS.pull 2).pull 2)
          ·intro Ep8 w l' hE8 hO8 hF_ hS
           obtain ⟨q7e, -⟩ := hF_
           replace q7e : Ep8 86 = .pointer (some ⟨q2, 0, none⟩) := Eq.mp (by kernel_rfl) q7e
           refine p (yl_nilCheck q7e) <| x_done <| ?_
           refine x_fin ⟨⟨_, rfl⟩, rfl, ?_⟩
           exact Eq.mp (by kernel_rfl) hS
          ·intro Ep8 w l' hE8 hO8 hF_ hS
           obtain ⟨q5k, -⟩ := hF_
           replace q5k : Ep8 103 = .pointer (some ⟨q2, 0, none⟩) := Eq.mp (by kernel_rfl) q5k
           refine p (yl_field0 fld_91_6 q5k) <| x_done <| ?_
           refine x_fin ⟨⟨_, rfl⟩, rfl, ?_⟩
           exact Eq.mp (by kernel_rfl) hS
          ·intro Ep8 w l' hE8 hO8 hF_ hS
           obtain ⟨q5l, q5m, -⟩ := hF_
           replace q5l : Ep8 102 = .slice (adOf (Ep8 102)) q0h.length (capOf (Ep8 102)) := Eq.mp (by kernel_rfl) q5l
           replace q5m : Ep8 104 = .pointer (some ⟨q2, 6, none⟩) := Eq.mp (by kernel_rfl) q5m
           replace hS : St w0 w (cells q2 91 [.int .i64 l_0.W, .int .i64 l_0.H, .int .i64 l_0.Layers, .int .i64 l_0.Nets, .slice q6 l_0.Wires.length c_l_0_4, .slice q7 l_0.Vias.length c_l_0_5, .slice q5 l_0.Pins.length c_l_0_6, .slice q4 l_0.Walls.length c_l_0_7] :: l') := Eq.mp (by kernel_rfl) hS
           refine o_store1 (v := .slice (adOf (Ep8 102)) q0h.length (capOf (Ep8 102))) one_88 q5m q5l rfl rfl hS (fun w' hS => ?_)
           refine x_done <| ?_
           refine x_fin ⟨⟨undef, rfl⟩, trivial, ?_⟩
           exact Eq.mp (by kernel_rfl) hS
         intro Ep8 w' hE8 hF_ hS
         obtain ⟨q7e, q75, q76, q77, q7d, q78, q79, q7c, q7a, q7b, q5g, q5e, q5f, q5h, q5i, q5j, q5l, q5k, q5m, -⟩ := hF_
         replace q7e : Ep8 86 = .pointer (some ⟨q2, 0, none⟩) := Eq.mp (by kernel_rfl) q7e
         replace q75 : Ep8 87 = .pointer (some ⟨q2, 0, none⟩) := Eq.mp (by kernel_rfl) q75
         replace q76 : Ep8 88 = .pointer (some ⟨q2, 0, none⟩) := Eq.mp (by kernel_rfl) q76
         replace q77 : Ep8 89 = .pointer (some ⟨q2, 6, none⟩) := Eq.mp (by kernel_rfl) q77
         replace q7d : Ep8 90 = .slice q5 l_0.Pins.length c_l_0_6 := Eq.mp (by kernel_rfl) q7d
         replace q78 : Ep8 91 = .slice q3 n2.length c_n2 := Eq.mp (by kernel_rfl) q78
         replace q79 : Ep8 92 = .pointer (some ((adr q3).add ((0 : Int).toNat * (RpI .i64).sz))) := Eq.mp (by kernel_rfl) q79
         replace q7c : Ep8 93 = .int .i64 x93 := Eq.mp (by kernel_rfl) q7c
         replace q7a : Ep8 94 = .slice q3 n2.length c_n2 := Eq.mp (by kernel_rfl) q7a
         replace q7b : Ep8 95 = .pointer (some ((adr q3).add ((1 : Int).toNat * (RpI .i64).sz))) := Eq.mp (by kernel_rfl) q7b
         replace q5g : Ep8 96 = .int .i64 x96 := Eq.mp (by kernel_rfl) q5g
         replace q5e : Ep8 97 = .slice q3 n2.length c_n2 := Eq.mp (by kernel_rfl) q5e
         replace q5f : Ep8 98 = .pointer (some ((adr q3).add ((2 : Int).toNat * (RpI .i64).sz))) := Eq.mp (by kernel_rfl) q5f
         replace q5h : Ep8 99 = .int .i64 x99 := Eq.mp (by kernel_rfl) q5h
         replace q5i : Ep8 100 = .agg #[.int .i64 x93, .int .i64 x96, .int .i64 x99, .bool true, .int .i64 0] := Eq.mp (by kernel_rfl) q5i
         replace q5j : Ep8 101 = .slice (some ⟨(blkOf (Ep8 101)), 0, none⟩) 1 1 := Eq.mp (by kernel_rfl) q5j
         replace q5l : Ep8 102 = .slice (adOf (Ep8 102)) q0h.length (capOf (Ep8 102)) := Eq.mp (by kernel_rfl) q5l
         replace q5k : Ep8 103 = .pointer (some ⟨q2, 0, none⟩) := Eq.mp (by kernel_rfl) q5k
         replace q5m : Ep8 104 = .pointer (some ⟨q2, 6, none⟩) := Eq.mp (by kernel_rfl) q5m
         replace hS : St w0 w' (ro ρ :: cells (blkOf (Ep8 101)) 101 [.int .i64 x93, .int .i64 x96, .int .i64 x99, .bool true, .int .i64 0] :: bunA (fun (cs102 : List Value) => RepL R_rules_Pin ρ q0h cs102) (fun (cs102 : List Value) => [vec 101 R_rules_Pin.sz (.slice (adOf (Ep8 102)) q0h.length (capOf (Ep8 102))) q0h.length cs102]) :: cells q2 91 [.int .i64 l_0.W, .int .i64 l_0.H, .int .i64 l_0.Layers, .int .i64 l_0.Nets, .slice q6 l_0.Wires.length c_l_0_4, .slice q7 l_0.Vias.length c_l_0_5, .slice (adOf (Ep8 102)) q0h.length (capOf (Ep8 102)), .slice q4 l_0.Walls.length c_l_0_7] :: (vec 98 R_rules_Wire.sz (.slice q6 l_0.Wires.length c_l_0_4) l_0.Wires.length q9 :: vec 181 R_rules_Via.sz (.slice q7 l_0.Vias.length c_l_0_5) l_0.Vias.length q0a :: vec 123 R_floor_Wall.sz (.slice q4 l_0.Walls.length c_l_0_7) l_0.Walls.length q0c :: l)) := Eq.mp (by kernel_rfl) hS
         have q_ := St.unbun (hS.pull 2); obtain ⟨cs102, hr102, hS⟩ := q_
         exact x_inv ⟨q6, l_0.Wires.length, c_l_0_4, q9, q7, l_0.Vias.length, c_l_0_5, q0a, (adOf (Ep8 102)), q0h.length, (capOf (Ep8 102)), cs102, l_0.Wires, l_0.Vias, q0h, (Option.some.inj (show some _ = some _ from hFc84)), q2b, q22, hr102, (((((((hS.pull 2).drop.pull 1).pull 5).pull 2).pull 5).pull 5).pull 5)⟩
        ·replace hFc84 := it_f hc84 hFc84
         refine x_seq <| x_region <| p (yl_eql_string rfl rfl) <| p (yl_assign rfl) <|
          x_done <| ?_
         replace hFc84 := bd_s hFc84; obtain ⟨oc105, hFc105, hFc84⟩ := hFc84
         refine x_join (fun E w => ∃ (q0y : Option Addr) (q0z : Nat) (c_b_l_0_4_c105 : Nat) (q0i : List Value) (q10 : Option Addr) (q11 : Nat) (c_b_l_0_5_c105 : Nat) (q0j : List Value) (q0l : List T_rules_Wire) (q0m : List T_rules_Via), (q0l, q0m) = oc105 ∧ RepL R_rules_Wire ρ q0l q0i ∧ RepL R_rules_Via ρ q0m q0j ∧ St w0 w (cells q2 91 [.int .i64 l_0.W, .int .i64 l_0.H, .int .i64 l_0.Layers, .int .i64 l_0.Nets, .slice q0y q0z c_b_l_0_4_c105, .slice q10 q11 c_b_l_0_5_c105, .slice q5 l_0.Pins.length c_l_0_6, .slice q4 l_0.Walls.length c_l_0_7] :: vec 98 R_rules_Wire.sz (.slice q0y q0z c_b_l_0_4_c105) q0z q0i :: vec 181 R_rules_Via.sz (.slice q10 q11 c_b_l_0_5_c105) q11 q0j :: vec 101 R_rules_Pin.sz (.slice q5 l_0.Pins.length c_l_0_6) l_0.Pins.length q0b :: vec 123 R_floor_Wall.sz (.slice q4 l_0.Walls.length c_l_0_7) l_0.Walls.length q0c :: ro ρ :: l)) ?_ ?_
         ·refine x_cond_p (word1 = (⟨#[119, 105, 114, 101]⟩ : ByteArray)) rfl (fun hc105 => ?_) (fun hc105 => ?_)
          ·replace hFc105 := it_t hc105 hFc105
           replace hFc105 := ck_s hFc105; obtain ⟨q7t, hFc105⟩ := hFc105
           replace hFc105 := lv_s hFc105; obtain ⟨x114, hx114, hFc105⟩ := hFc105
           replace hFc105 := ck_s hFc105; obtain ⟨q7u, hFc105⟩ := hFc105
           replace hFc105 := lv_s hFc105; obtain ⟨x117, hx117, hFc105⟩ := hFc105
           replace hFc105 := ck_s hFc105; obtain ⟨q7f, hFc105⟩ := hFc105
           replace hFc105 := lv_s hFc105; obtain ⟨x120, hx120, hFc105⟩ := hFc105
           replace hFc105 := ck_s hFc105; obtain ⟨q7g, hFc105⟩ := hFc105
           replace hFc105 := lv_s hFc105; obtain ⟨x123, hx123, hFc105⟩ := hFc105
           replace hFc105 := ck_s hFc105; obtain ⟨q7h, hFc105⟩ := hFc105
           replace hFc105 := lv_s hFc105; obtain ⟨x126, hx126, hFc105⟩ := hFc105
           replace hFc105 := ck_s hFc105; obtain ⟨q7i, hFc105⟩ := hFc105
           replace hFc105 := lv_s hFc105; obtain ⟨x129, hx129, hFc105⟩ := hFc105
           replace hFc105 := lv_s hFc105; obtain ⟨q0d, q85, hFc105⟩ := hFc105
           replace hFc105 := ck_s hFc105; obtain ⟨q86, hFc105⟩ := hFc105
           refine x_par (w0 := w0) [⟨[], [], [107], [], [], []⟩, ⟨[], [], [108], [], [], []⟩, ⟨[1], [1], [109], [], [], []⟩, ⟨[1, 2], [2], [110], [], [], []⟩, ⟨[1, 2, 3], [3], [111], [0], [], []⟩, ⟨[], [], [112], [], [], []⟩, ⟨[5], [5], [113], [1], [], []⟩, ⟨[5, 6], [6], [114], [1], [], []⟩, ⟨[], [], [115], [], [], []⟩, ⟨[8], [8], [116], [1], [], []⟩, ⟨[8, 9], [9], [117], [1], [], []⟩, ⟨[], [], [118], [], [], []⟩, ⟨[11], [11], [119], [1], [], []⟩, ⟨[11, 12], [12], [120], [1], [], []⟩, ⟨[], [], [121], [], [], []⟩, ⟨[14], [14], [122], [1], [], []⟩, ⟨[14, 15], [15], [123], [1], [], []⟩, ⟨[], [], [124], [], [], []⟩, ⟨[17], [17], [125], [1], [], []⟩, ⟨[17, 18], [18], [126], [1], [], []⟩, ⟨[], [], [127], [], [], []⟩, ⟨[20], [20], [128], [1], [], []⟩, ⟨[20, 21], [21], [129], [1], [], []⟩, ⟨[5, 6, 7, 8, 9, 10, 11, 12, 13, 14, 15, 16, 17, 18, 19, 20, 21, 22], [7, 10, 13, 16, 19, 22], [130], [], [], []⟩, ⟨[5, 6, 7, 8, 9, 10, 11, 12, 13, 14, 15, 16, 17, 18, 19, 20, 21, 22, 23], [23], [131], [], [], [2]⟩, ⟨[1, 2, 3, 4, 5, 6, 7, 8, 9, 10, 11, 12, 13, 14, 15, 16, 17, 18, 19, 20, 21, 22, 23, 24], [4, 24], [132], [2, 1], [3], [4]⟩, ⟨[0, 1, 2, 3, 4, 5, 6, 7, 8, 9, 10, 11, 12, 13, 14, 15, 16, 17, 18, 19, 20, 21, 22, 23, 24, 25], [0], [133], [], [], []⟩, ⟨[0, 1, 2, 3, 4, 5, 6, 7, 8, 9, 10, 11, 12, 13, 14, 15, 16, 17, 18, 19, 20, 21, 22, 23, 24, 25, 26], [26], [134], [], [], []⟩, ⟨[0, 1, 2, 3, 4, 5, 6, 7, 8, 9, 10, 11, 12, 13, 14, 15, 16, 17, 18, 19, 20, 21, 22, 23, 24, 25, 26, 27], [25, 27], [], [], [0], [5]⟩] [⟨none, (some 28), []⟩, ⟨none, none, []⟩, ⟨(some 24), none, [131]⟩, ⟨none, (some 25), []⟩, ⟨(some 25), none, [132]⟩, ⟨(some 28), none, [132]⟩] [107, 108, 109, 110, 111, 112, 113, 114, 115, 116, 117, 118, 119, 120, 121, 122, 123, 124, 125, 126, 127, 128, 129, 130, 131, 132, 133, 134] [0, 1, 3] [1, 2, 4, 5] [0, 1, 2, 3, 4, 5, 6, 7, 8, 9, 10, 11, 12, 13, 14, 15, 16, 17, 18, 19, 20, 21, 22, 23, 24, 25, 26, 27] [fun Ep10 => Ep10 107 = .pointer (some ⟨q2, 0, none⟩), fun Ep10 => Ep10 108 = .pointer (some ⟨q2, 0, none⟩), fun Ep10 => Ep10 109 = .pointer (some ⟨q2, 0, none⟩), fun Ep10 => Ep10 110 = .pointer (some ⟨q2, 4, none⟩), fun Ep10 => Ep10 111 = .slice q6 l_0.Wires.length c_l_0_4, fun Ep10 => Ep10 112 = .slice q3 n2.length c_n2, fun Ep10 => Ep10 113 = .pointer (some ((adr q3).add ((0 : Int).toNat * (RpI .i64).sz))), fun Ep10 => Ep10 114 = .int .i64 x114, fun Ep10 => Ep10 115 = .slice q3 n2.length c_n2, fun Ep10 => Ep10 116 = .pointer (some ((adr q3).add ((1 : Int).toNat * (RpI .i64).sz))), fun Ep10 => Ep10 117 = .int .i64 x117, fun Ep10 => Ep10 118 = .slice q3 n2.length c_n2, fun Ep10 => Ep10 119 = .pointer (some ((adr q3).add ((2 : Int).toNat * (RpI .i64).sz))), fun Ep10 => Ep10 120 = .int .i64 x120, fun Ep10 => Ep10 121 = .slice q3 n2.length c_n2, fun Ep10 => Ep10 122 = .pointer (some ((adr q3).add ((3 : Int).toNat * (RpI .i64).sz))), fun Ep10 => Ep10 123 = .int .i64 x123, fun Ep10 => Ep10 124 = .slice q3 n2.length c_n2, fun Ep10 => Ep10 125 = .pointer (some ((adr q3).add ((4 : Int).toNat * (RpI .i64).sz))), fun Ep10 => Ep10 126 = .int .i64 x126, fun Ep10 => Ep10 127 = .slice q3 n2.length c_n2, fun Ep10 => Ep10 128 = .pointer (some ((adr q3).add ((5 : Int).toNat * (RpI .i64).sz))), fun Ep10 => Ep10 129 = .int .i64 x129, fun Ep10 => Ep10 130 = .agg #[.int .i64 x114, .int .i64 x117, .int .i64 x120, .int .i64 x123, .int .i64 x126, .int .i64 x129], fun Ep10 => Ep10 131 = .slice (some ⟨(blkOf (Ep10 131)), 0, none⟩) 1 1, fun Ep10 => Ep10 132 = .slice (adOf (Ep10 132)) q0d.length (capOf (Ep10 132)), fun Ep10 => Ep10 133 = .pointer (some ⟨q2, 0, none⟩), fun Ep10 => Ep10 134 = .pointer (some ⟨q2, 4, none⟩), fun Ep10 => True] [fun Ep10 => cells q2 91 [.int .i64 l_0.W, .int .i64 l_0.H, .int .i64 l_0.Layers, .int .i64 l_0.Nets, .slice q6 l_0.Wires.length c_l_0_4, .slice q7 l_0.Vias.length c_l_0_5, .slice q5 l_0.Pins.length c_l_0_6, .slice q4 l_0.Walls.length c_l_0_7], fun Ep10 => ro ρ, fun Ep10 => cells (blkOf (Ep10 131)) 98 [.int .i64 x114, .int .i64 x117, .int .i64 x120, .int .i64 x123, .int .i64 x126, .int .i64 x129], fun Ep10 => vec 98 R_rules_Wire.sz (.slice q6 l_0.Wires.length c_l_0_4) l_0.Wires.length q9, fun Ep10 => bunA (fun (cs132 : List Value) => RepL R_rules_Wire ρ q0d cs132) (fun (cs132 : List Value) => [vec 98 R_rules_Wire.sz (.slice (adOf (Ep10 132)) q0d.length (capOf (Ep10 132))) q0d.length cs132]), fun Ep10 => cells q2 91 [.int .i64 l_0.W, .int .i64 l_0.H, .int .i64 l_0.Layers, .int .i64 l_0.Nets, .slice (adOf (Ep10 132)) q0d.length (capOf (Ep10 132)), .slice q7 l_0.Vias.length c_l_0_5, .slice q5 l_0.Pins.length c_l_0_6, .slice q4 l_0.Walls.length c_l_0_7]] mixed (by kernel_rfl) (((hS.pull 1).pull 5).pull 2) ?_ ?_
           ·refine ⟨?_, ?_, ?_, ?_, ?_, ?_, ?_, ?_, ?_, ?_, ?_, ?_, ?_, ?_, ?_, ?_, ?_, ?_, ?_, ?_, ?_, ?_, ?_, ?_, ?_, ?_, ?_, ?_, ?_, trivial⟩
            ·intro Ep10 w l' hE10 hO10 hF_ hS
             refine p (yl_move (hE10 0 rfl)) <| x_done <| ?_
             refine x_fin ⟨⟨_, rfl⟩, rfl, ?_⟩
             exact Eq.mp (by kernel_rfl) hS
            ·intro Ep10 w l' hE10 hO10 hF_ hS
             refine p (yl_move (hE10 0 rfl)) <| x_done <| ?_
             refine x_fin ⟨⟨_, rfl⟩, rfl, ?_⟩
             exact Eq.mp (by kernel_rfl) hS
            ·intro Ep10 w l' hE10 hO10 hF_ hS
             obtain ⟨q5n, -⟩ := hF_
             replace q5n : Ep10 108 = .pointer (some ⟨q2, 0, none⟩) := Eq.mp (by kernel_rfl) q5n
             refine p (yl_nilCheck q5n) <| x_done <| ?_
             refine x_fin ⟨⟨_, rfl⟩, rfl, ?_⟩
             exact Eq.mp (by kernel_rfl) hS
            ·intro Ep10 w l' hE10 hO10 hF_ hS
             obtain ⟨q5o, -⟩ := hF_
             replace q5o : Ep10 109 = .pointer (some ⟨q2, 0, none⟩) := Eq.mp (by kernel_rfl) q5o
             refine p (yl_field0 fld_91_4 q5o) <| x_done <| ?_
             refine x_fin ⟨⟨_, rfl⟩, rfl, ?_⟩
             exact Eq.mp (by kernel_rfl) hS
            ·intro Ep10 w l' hE10 hO10 hF_ hS
             obtain ⟨q5p, -⟩ := hF_
             replace q5p : Ep10 110 = .pointer (some ⟨q2, 4, none⟩) := Eq.mp (by kernel_rfl) q5p
             replace hS : St w0 w (cells q2 91 [.int .i64 l_0.W, .int .i64 l_0.H, .int .i64 l_0.Layers, .int .i64 l_0.Nets, .slice q6 l_0.Wires.length c_l_0_4, .slice q7 l_0.Vias.length c_l_0_5, .slice q5 l_0.Pins.length c_l_0_6, .slice q4 l_0.Walls.length c_l_0_7] :: l') := Eq.mp (by kernel_rfl) hS
             refine pa (at_load one_86 q5p (hS.cell rfl)) <| x_done <| ?_
             refine x_fin ⟨⟨_, rfl⟩, rfl, ?_⟩
             exact Eq.mp (by kernel_rfl) hS
            ·intro Ep10 w l' hE10 hO10 hF_ hS
             refine p (yl_move (hE10 2 rfl)) <| x_done <| ?_
             refine x_fin ⟨⟨_, rfl⟩, rfl, ?_⟩
             exact Eq.mp (by kernel_rfl) hS
            ·intro Ep10 w l' hE10 hO10 hF_ hS
             obtain ⟨q5q, -⟩ := hF_
             replace q5q : Ep10 112 = .slice q3 n2.length c_n2 := Eq.mp (by kernel_rfl) q5q
             replace hS : St w0 w (ro ρ :: l') := Eq.mp (by kernel_rfl) hS
             refine p (yix_f sl_22 q5q rfl q8 q7t) <| x_done <| ?_
             refine x_fin ⟨⟨_, rfl⟩, rfl, ?_⟩
             exact Eq.mp (by kernel_rfl) hS
            ·intro Ep10 w l' hE10 hO10 hF_ hS
             obtain ⟨q5r, -⟩ := hF_
             replace q5r : Ep10 113 = .pointer (some ((adr q3).add ((0 : Int).toNat * (RpI .i64).sz))) := Eq.mp (by kernel_rfl) q5r
             replace hS : St w0 w (ro ρ :: l') := Eq.mp (by kernel_rfl) hS
             refine pa (at_load one_3 q5r (RdS.getW q8 hS q7t hx114)) <| x_done <| ?_
             refine x_fin ⟨⟨_, rfl⟩, rfl, ?_⟩
             exact Eq.mp (by kernel_rfl) hS
            ·intro Ep10 w l' hE10 hO10 hF_ hS
             refine p (yl_move (hE10 2 rfl)) <| x_done <| ?_
             refine x_fin ⟨⟨_, rfl⟩, rfl, ?_⟩
             exact Eq.mp (by kernel_rfl) hS
            ·intro Ep10 w l' hE10 hO10 hF_ hS
             obtain ⟨q5s, -⟩ := hF_
             replace q5s : Ep10 115 = .slice q3 n2.length c_n2 := Eq.mp (by kernel_rfl) q5s
             replace hS : St w0 w (ro ρ :: l') := Eq.mp (by kernel_rfl) hS
             refine p (yix_f sl_22 q5s rfl q8 q7u) <| x_done <| ?_
             refine x_fin ⟨⟨_, rfl⟩, rfl, ?_⟩
             exact Eq.mp (by kernel_rfl) hS
            ·intro Ep10 w l' hE10 hO10 hF_ hS
             obtain ⟨q5t, -⟩ := hF_
             replace q5t : Ep10 116 = .pointer (some ((adr q3).add ((1 : Int).toNat * (RpI .i64).sz))) := Eq.mp (by kernel_rfl) q5t
             replace hS : St w0 w (ro ρ :: l') := Eq.mp (by kernel_rfl) hS
             refine pa (at_load one_3 q5t (RdS.getW q8 hS q7u hx117)) <| x_done <| ?_
             refine x_fin ⟨⟨_, rfl⟩, rfl, ?_⟩
             exact Eq.mp (by kernel_rfl) hS
            ·intro Ep10 w l' hE10 hO10 hF_ hS
             refine p (yl_move (hE10 2 rfl)) <| x_done <| ?_
             refine x_fin ⟨⟨_, rfl⟩, rfl, ?_⟩
             exact Eq.mp (by kernel_rfl) hS
            ·intro Ep10 w l' hE10 hO10 hF_ hS
             obtain ⟨q2p, -⟩ := hF_
             replace q2p : Ep10 118 = .slice q3 n2.length c_n2 := Eq.mp (by kernel_rfl) q2p
             replace hS : St w0 w (ro ρ :: l') := Eq.mp (by kernel_rfl) hS
             refine p (yix_f sl_22 q2p rfl q8 q7f) <| x_done <| ?_
             refine x_fin ⟨⟨_, rfl⟩, rfl, ?_⟩
             exact Eq.mp (by kernel_rfl) hS
            ·intro Ep10 w l' hE10 hO10 hF_ hS
             obtain ⟨q2q, -⟩ := hF_
             replace q2q : Ep10 119 = .pointer (some ((adr q3).add ((2 : Int).toNat * (RpI .i64).sz))) := Eq.mp (by kernel_rfl) q2q
             replace hS : St w0 w (ro ρ :: l') := Eq.mp (by kernel_rfl) hS
             refine pa (at_load one_3 q2q (RdS.getW q8 hS q7f hx120)) <| x_done <| ?_
             refine x_fin ⟨⟨_, rfl⟩, rfl, ?_⟩
             exact Eq.mp (by kernel_rfl) hS
            ·intro Ep10 w l' hE10 hO10 hF_ hS
             refine p (yl_move (hE10 2 rfl)) <| x_done <| ?_
             refine x_fin ⟨⟨_, rfl⟩, rfl, ?_⟩
             exact Eq.mp (by kernel_rfl) hS
            ·intro Ep10 w l' hE10 hO10 hF_ hS
             obtain ⟨q2r, -⟩ := hF_
             replace q2r : Ep10 121 = .slice q3 n2.length c_n2 := Eq.mp (by kernel_rfl) q2r
             replace hS : St w0 w (ro ρ :: l') := Eq.mp (by kernel_rfl) hS
             refine p (yix_f sl_22 q2r rfl q8 q7g) <| x_done <| ?_
             refine x_fin ⟨⟨_, rfl⟩, rfl, ?_⟩
             exact Eq.mp (by kernel_rfl) hS
            ·intro Ep10 w l' hE10 hO10 hF_ hS
             obtain ⟨q2s, -⟩ := hF_
             replace q2s : Ep10 122 = .pointer (some ((adr q3).add ((3 : Int).toNat * (RpI .i64).sz))) := Eq.mp (by kernel_rfl) q2s
             replace hS : St w0 w (ro ρ :: l') := Eq.mp (by kernel_rfl) hS
             refine pa (at_load one_3 q2s (RdS.getW q8 hS q7g hx123)) <| x_done <| ?_
             refine x_fin ⟨⟨_, rfl⟩, rfl, ?_⟩
             exact Eq.mp (by kernel_rfl) hS
            ·intro Ep10 w l' hE10 hO10 hF_ hS
             refine p (yl_move (hE10 2 rfl)) <| x_done <| ?_
             refine x_fin ⟨⟨_, rfl⟩, rfl, ?_⟩
             exact Eq.mp (by kernel_rfl) hS
            ·intro Ep10 w l' hE10 hO10 hF_ hS
             obtain ⟨q2t, -⟩ := hF_
             replace q2t : Ep10 124 = .slice q3 n2.length c_n2 := Eq.mp (by kernel_rfl) q2t
             replace hS : St w0 w (ro ρ :: l') := Eq.mp (by kernel_rfl) hS
             refine p (yix_f sl_22 q2t rfl q8 q7h) <| x_done <| ?_
             refine x_fin ⟨⟨_, rfl⟩, rfl, ?_⟩
             exact Eq.mp (by kernel_rfl) hS
            ·intro Ep10 w l' hE10 hO10 hF_ hS
             obtain ⟨q2u, -⟩ := hF_
             replace q2u : Ep10 125 = .pointer (some ((adr q3).add ((4 : Int).toNat * (RpI .i64).sz))) := Eq.mp (by kernel_rfl) q2u
             replace hS : St w0 w (ro ρ :: l') := Eq.mp (by kernel_rfl) hS
             refine pa (at_load one_3 q2u (RdS.getW q8 hS q7h hx126)) <| x_done <| ?_
             refine x_fin ⟨⟨_, rfl⟩, rfl, ?_⟩
             exact Eq.mp (by kernel_rfl) hS
            ·intro Ep10 w l' hE10 hO10 hF_ hS
             refine p (yl_move (hE10 2 rfl)) <| x_done <| ?_
             refine x_fin ⟨⟨_, rfl⟩, rfl, ?_⟩
             exact Eq.mp (by kernel_rfl) hS
            ·intro Ep10 w l' hE10 hO10 hF_ hS
             obtain ⟨q2v, -⟩ := hF_
             replace q2v : Ep10 127 = .slice q3 n2.length c_n2 := Eq.mp (by kernel_rfl) q2v
             replace hS : St w0 w (ro ρ :: l') := Eq.mp (by kernel_rfl) hS
             refine p (yix_f sl_22 q2v rfl q8 q7i) <| x_done <| ?_
             refine x_fin ⟨⟨_, rfl⟩, rfl, ?_⟩
             exact Eq.mp (by kernel_rfl) hS
            ·intro Ep10 w l' hE10 hO10 hF_ hS
             obtain ⟨q2w, -⟩ := hF_
             replace q2w : Ep10 128 = .pointer (some ((adr q3).add ((5 : Int).toNat * (RpI .i64).sz))) := Eq.mp (by kernel_rfl) q2w
             replace hS : St w0 w (ro ρ :: l') := Eq.mp (by kernel_rfl) hS
             refine pa (at_load one_3 q2w (RdS.getW q8 hS q7i hx129)) <| x_done <| ?_
             refine x_fin ⟨⟨_, rfl⟩, rfl, ?_⟩
             exact Eq.mp (by kernel_rfl) hS
            ·intro Ep10 w l' hE10 hO10 hF_ hS
             obtain ⟨q5u, q2x, q2y, q2z, q30, q31, -⟩ := hF_
             replace q5u : Ep10 114 = .int .i64 x114 := Eq.mp (by kernel_rfl) q5u
             replace q2x : Ep10 117 = .int .i64 x117 := Eq.mp (by kernel_rfl) q2x
             replace q2y : Ep10 120 = .int .i64 x120 := Eq.mp (by kernel_rfl) q2y
             replace q2z : Ep10 123 = .int .i64 x123 := Eq.mp (by kernel_rfl) q2z
             replace q30 : Ep10 126 = .int .i64 x126 := Eq.mp (by kernel_rfl) q30
             replace q31 : Ep10 129 = .int .i64 x129 := Eq.mp (by kernel_rfl) q31
             refine p (v := .agg #[.int .i64 x114, .int .i64 x117, .int .i64 x120, .int .i64 x123, .int .i64 x126, .int .i64 x129]) (yl_build bld_98 bldf_98 (parts_eq (pt (va := .int .i64 x114) q5u (pt (va := .int .i64 x117) q2x (pt (va := .int .i64 x120) q2y (pt (va := .int .i64 x123) q2z (pt (va := .int .i64 x126) q30 (pt (va := .int .i64 x129) q31 pt0))))))) (by kernel_rfl)) <| x_done <| ?_
             refine x_fin ⟨⟨_, rfl⟩, rfl, ?_⟩
             exact Eq.mp (by kernel_rfl) hS
            ·intro Ep10 w l' hE10 hO10 hF_ hS
             obtain ⟨q32, -⟩ := hF_
             replace q32 : Ep10 130 = .agg #[.int .i64 x114, .int .i64 x117, .int .i64 x120, .int .i64 x123, .int .i64 x126, .int .i64 x129] := Eq.mp (by kernel_rfl) q32
             refine o_buildSlice (vs := [.agg #[.int .i64 x114, .int .i64 x117, .int .i64 x120, .int .i64 x123, .int .i64 x126, .int .i64 x129]]) (cs := [.int .i64 x114, .int .i64 x117, .int .i64 x120, .int .i64 x123, .int .i64 x126, .int .i64 x129]) sl_86 zero_98 (parts_eq (pt (va := .agg #[.int .i64 x114, .int .i64 x117, .int .i64 x120, .int .i64 x123, .int .i64 x126, .int .i64 x129]) q32 pt0)) rfl (by intro v hv; simp only [List.mem_cons, List.not_mem_nil, or_false] at hv; first | (subst hv; rfl) | (rcases hv with rfl <;> rfl)) (by decide) rfl hS (fun b131 w' hS => ?_)
             refine x_done <| ?_
             refine x_fin ⟨⟨_, rfl⟩, rfl, ?_⟩
             exact Eq.mp (by kernel_rfl) hS
            ·intro Ep10 w l' hE10 hO10 hF_ hS
             obtain ⟨q5v, q33, -⟩ := hF_
             replace q5v : Ep10 111 = .slice q6 l_0.Wires.length c_l_0_4 := Eq.mp (by kernel_rfl) q5v
             replace q33 : Ep10 131 = .slice (some ⟨(blkOf (Ep10 131)), 0, none⟩) 1 1 := Eq.mp (by kernel_rfl) q33
             replace hS : St w0 w (cells (blkOf (Ep10 131)) 98 [.int .i64 x114, .int .i64 x117, .int .i64 x120, .int .i64 x123, .int .i64 x126, .int .i64 x129] :: ro ρ :: vec 98 R_rules_Wire.sz (.slice q6 l_0.Wires.length c_l_0_4) l_0.Wires.length q9 :: l') := Eq.mp (by kernel_rfl) hS
             refine o_ap sl_86 zero_98 rfl (by decide) q5v q33 (hS.pull 2) q2b (src_blk usl_86 hS rfl rfl) (RepL.cons (R := R_rules_Wire) (ρ := ρ) (x := (T_rules_Wire.mk x114 x117 x120 x123 x126 x129)) (cs := [.int .i64 x114, .int .i64 x117, .int .i64 x120, .int .i64 x123, .int .i64 x126, .int .i64 x129]) rfl RepL.nil) q85 q86 (fun A132 c132 cs132 w' hr132 hS => ?_)
             refine x_done <| ?_
             refine x_fin ⟨⟨_, rfl⟩, rfl, ?_⟩
             replace hS := St.bun (Φ := (fun (cs132 : List Value) => RepL R_rules_Wire ρ q0d cs132)) (L := (fun (cs132 : List Value) => [vec 98 R_rules_Wire.sz (.slice A132 q0d.length c132) q0d.length cs132])) cs132 hr132 hS
             exact Eq.mp (by kernel_rfl) ((hS.pull 2).pull 2)
            ·intro Ep10 w l' hE10 hO10 hF_ hS
             obtain ⟨q5w, -⟩ := hF_
             replace q5w : Ep10 107 = .pointer (some ⟨q2, 0, none⟩) := Eq.mp (by kernel_rfl) q5w
             refine p (yl_nilCheck q5w) <| x_done <| ?_
             refine x_fin ⟨⟨_, rfl⟩, rfl, ?_⟩
             exact Eq.mp (by kernel_rfl) hS
            ·intro Ep10 w l' hE10 hO10 hF_ hS
             obtain ⟨q34, -⟩ := hF_
             replace q34 : Ep10 133 = .pointer (some ⟨q2, 0, none⟩) := Eq.mp (by kernel_rfl) q34
             refine p (yl_field0 fld_91_4 q34) <| x_done <| ?_
             refine x_fin ⟨⟨_, rfl⟩, rfl, ?_⟩
             exact Eq.mp (by kernel_rfl) hS
            ·intro Ep10 w l' hE10 hO10 hF_ hS
             obtain ⟨q35, q36, -⟩ := hF_
             replace q35 : Ep10 132 = .slice (adOf (Ep10 132)) q0d.length (capOf (Ep10 132)) := Eq.mp (by kernel_rfl) q35
             replace q36 : Ep10 134 = .pointer (some ⟨q2, 4, none⟩) := Eq.mp (by kernel_rfl) q36
             replace hS : St w0 w (cells q2 91 [.int .i64 l_0.W, .int .i64 l_0.H, .int .i64 l_0.Layers, .int .i64 l_0.Nets, .slice q6 l_0.Wires.length c_l_0_4, .slice q7 l_0.Vias.length c_l_0_5, .slice q5 l_0.Pins.length c_l_0_6, .slice q4 l_0.Walls.length c_l_0_7] :: l') := Eq.mp (by kernel_rfl) hS
             refine o_store1 (v := .slice (adOf (Ep10 132)) q0d.length (capOf (Ep10 132))) one_86 q36 q35 rfl rfl hS (fun w' hS => ?_)
             refine x_done <| ?_
             refine x_fin ⟨⟨undef, rfl⟩, trivial, ?_⟩
             exact Eq.mp (by kernel_rfl) hS
           intro Ep10 w' hE10 hF_ hS
           obtain ⟨q5w, q5n, q5o, q5p, q5v, q5q, q5r, q5u, q5s, q5t, q2x, q2p, q2q, q2y, q2r, q2s, q2z, q2t, q2u, q30, q2v, q2w, q31, q32, q33, q35, q34, q36, -⟩ := hF_
           replace q5w : Ep10 107 = .pointer (some ⟨q2, 0, none⟩) := Eq.mp (by kernel_rfl) q5w
           replace q5n : Ep10 108 = .pointer (some ⟨q2, 0, none⟩) := Eq.mp (by kernel_rfl) q5n
           replace q5o : Ep10 109 = .pointer (some ⟨q2, 0, none⟩) := Eq.mp (by kernel_rfl) q5o
           replace q5p : Ep10 110 = .pointer (some ⟨q2, 4, none⟩) := Eq.mp (by kernel_rfl) q5p
           replace q5v : Ep10 111 = .slice q6 l_0.Wires.length c_l_0_4 := Eq.mp (by kernel_rfl) q5v
           replace q5q : Ep10 112 = .slice q3 n2.length c_n2 := Eq.mp (by kernel_rfl) q5q
           replace q5r : Ep10 113 = .pointer (some ((adr q3).add ((0 : Int).toNat * (RpI .i64).sz))) := Eq.mp (by kernel_rfl) q5r
           replace q5u : Ep10 114 = .int .i64 x114 := Eq.mp (by kernel_rfl) q5u
           replace q5s : Ep10 115 = .slice q3 n2.length c_n2 := Eq.mp (by kernel_rfl) q5s
           replace q5t : Ep10 116 = .pointer (some ((adr q3).add ((1 : Int).toNat * (RpI .i64).sz))) := Eq.mp (by kernel_rfl) q5t
           replace q2x : Ep10 117 = .int .i64 x117 := Eq.mp (by kernel_rfl) q2x
           replace q2p : Ep10 118 = .slice q3 n2.length c_n2 := Eq.mp (by kernel_rfl) q2p
           replace q2q : Ep10 119 = .pointer (some ((adr q3).add ((2 : Int).toNat * (RpI .i64).sz))) := Eq.mp (by kernel_rfl) q2q
           replace q2y : Ep10 120 = .int .i64 x120 := Eq.mp (by kernel_rfl) q2y
           replace q2r : Ep10 121 = .slice q3 n2.length c_n2 := Eq.mp (by kernel_rfl) q2r
           replace q2s : Ep10 122 = .pointer (some ((adr q3).add ((3 : Int).toNat * (RpI .i64).sz))) := Eq.mp (by kernel_rfl) q2s
           replace q2z : Ep10 123 = .int .i64 x123 := Eq.mp (by kernel_rfl) q2z
           replace q2t : Ep10 124 = .slice q3 n2.length c_n2 := Eq.mp (by kernel_rfl) q2t
           replace q2u : Ep10 125 = .pointer (some ((adr q3).add ((4 : Int).toNat * (RpI .i64).sz))) := Eq.mp (by kernel_rfl) q2u
           replace q30 : Ep10 126 = .int .i64 x126 := Eq.mp (by kernel_rfl) q30
           replace q2v : Ep10 127 = .slice q3 n2.length c_n2 := Eq.mp (by kernel_rfl) q2v
           replace q2w : Ep10 128 = .pointer (some ((adr q3).add ((5 : Int).toNat * (RpI .i64).sz))) := Eq.mp (by kernel_rfl) q2w
           replace q31 : Ep10 129 = .int .i64 x129 := Eq.mp (by kernel_rfl) q31
           replace q32 : Ep10 130 = .agg #[.int .i64 x114, .int .i64 x117, .int .i64 x120, .int .i64 x123, .int .i64 x126, .int .i64 x129] := Eq.mp (by kernel_rfl) q32
           replace q33 : Ep10 131 = .slice (some ⟨(blkOf (Ep10 131)), 0, none⟩) 1 1 := Eq.mp (by kernel_rfl) q33
           replace q35 : Ep10 132 = .slice (adOf (Ep10 132)) q0d.length (capOf (Ep10 132)) := Eq.mp (by kernel_rfl) q35
           replace q34 : Ep10 133 = .pointer (some ⟨q2, 0, none⟩) := Eq.mp (by kernel_rfl) q34
           replace q36 : Ep10 134 = .pointer (some ⟨q2, 4, none⟩) := Eq.mp (by kernel_rfl) q36
           replace hS : St w0 w' (ro ρ :: cells (blkOf (Ep10 131)) 98 [.int .i64 x114, .int .i64 x117, .int .i64 x120, .int .i64 x123, .int .i64 x126, .int .i64 x129] :: bunA (fun (cs132 : List Value) => RepL R_rules_Wire ρ q0d cs132) (fun (cs132 : List Value) => [vec 98 R_rules_Wire.sz (.slice (adOf (Ep10 132)) q0d.length (capOf (Ep10 132))) q0d.length cs132]) :: cells q2 91 [.int .i64 l_0.W, .int .i64 l_0.H, .int .i64 l_0.Layers, .int .i64 l_0.Nets, .slice (adOf (Ep10 132)) q0d.length (capOf (Ep10 132)), .slice q7 l_0.Vias.length c_l_0_5, .slice q5 l_0.Pins.length c_l_0_6, .slice q4 l_0.Walls.length c_l_0_7] :: (vec 181 R_rules_Via.sz (.slice q7 l_0.Vias.length c_l_0_5) l_0.Vias.length q0a :: vec 101 R_rules_Pin.sz (.slice q5 l_0.Pins.length c_l_0_6) l_0.Pins.length q0b :: vec 123 R_floor_Wall.sz (.slice q4 l_0.Walls.length c_l_0_7) l_0.Walls.length q0c :: l)) := Eq.mp (by kernel_rfl) hS
           have q_ := St.unbun (hS.pull 2); obtain ⟨cs132, hr132, hS⟩ := q_
           exact x_inv ⟨(adOf (Ep10 132)), q0d.length, (capOf (Ep10 132)), cs132, q7, l_0.Vias.length, c_l_0_5, q0a, q0d, l_0.Vias, (Option.some.inj (show some _ = some _ from hFc105)), hr132, q22, (((((((hS.pull 2).drop.pull 1).pull 5).pull 5).pull 5).pull 4).pull 5)⟩
          ·replace hFc105 := it_f hc105 hFc105
           refine x_seq <| x_region <| p (yl_eql_string rfl rfl) <| p (yl_assign rfl) <|
            x_done <| ?_
           replace hFc105 := bd_s hFc105; obtain ⟨oc135, hFc135, hFc105⟩ := hFc105
           refine x_join (fun E w => ∃ (q12 : Option Addr) (q13 : Nat) (c_b_l_0_5_c135 : Nat) (q0k : List Value) (q0n : List T_rules_Via), q0n = oc135 ∧ RepL R_rules_Via ρ q0n q0k ∧ St w0 w (cells q2 91 [.int .i64 l_0.W, .int .i64 l_0.H, .int .i64 l_0.Layers, .int .i64 l_0.Nets, .slice q6 l_0.Wires.length c_l_0_4, .slice q12 q13 c_b_l_0_5_c135, .slice q5 l_0.Pins.length c_l_0_6, .slice q4 l_0.Walls.length c_l_0_7] :: vec 98 R_rules_Wire.sz (.slice q6 l_0.Wires.length c_l_0_4) l_0.Wires.length q9 :: vec 181 R_rules_Via.sz (.slice q12 q13 c_b_l_0_5_c135) q13 q0k :: vec 101 R_rules_Pin.sz (.slice q5 l_0.Pins.length c_l_0_6) l_0.Pins.length q0b :: vec 123 R_floor_Wall.sz (.slice q4 l_0.Walls.length c_l_0_7) l_0.Walls.length q0c :: ro ρ :: l)) ?_ ?_
           ·refine x_cond_p (word1 = (⟨#[118, 105, 97]⟩ : ByteArray)) rfl (fun hc135 => ?_) (fun hc135 => ?_)
            ·replace hFc135 := it_t hc135 hFc135
             replace hFc135 := ck_s hFc135; obtain ⟨q7v, hFc135⟩ := hFc135
             replace hFc135 := lv_s hFc135; obtain ⟨x144, hx144, hFc135⟩ := hFc135
             replace hFc135 := ck_s hFc135; obtain ⟨q7w, hFc135⟩ := hFc135
             replace hFc135 := lv_s hFc135; obtain ⟨x147, hx147, hFc135⟩ := hFc135
             replace hFc135 := ck_s hFc135; obtain ⟨q7j, hFc135⟩ := hFc135
             replace hFc135 := lv_s hFc135; obtain ⟨x150, hx150, hFc135⟩ := hFc135
             replace hFc135 := ck_s hFc135; obtain ⟨q7k, hFc135⟩ := hFc135
             replace hFc135 := lv_s hFc135; obtain ⟨x153, hx153, hFc135⟩ := hFc135
             replace hFc135 := lv_s hFc135; obtain ⟨q0e, q87, hFc135⟩ := hFc135
             replace hFc135 := ck_s hFc135; obtain ⟨q88, hFc135⟩ := hFc135
             refine x_par (w0 := w0) [⟨[], [], [137], [], [], []⟩, ⟨[], [], [138], [], [], []⟩, ⟨[1], [1], [139], [], [], []⟩, ⟨[1, 2], [2], [140], [], [], []⟩, ⟨[1, 2, 3], [3], [141], [0], [], []⟩, ⟨[], [], [142], [], [], []⟩, ⟨[5], [5], [143], [1], [], []⟩, ⟨[5, 6], [6], [144], [1], [], []⟩, ⟨[], [], [145], [], [], []⟩, ⟨[8], [8], [146], [1], [], []⟩, ⟨[8, 9], [9], [147], [1], [], []⟩, ⟨[], [], [148], [], [], []⟩, ⟨[11], [11], [149], [1], [], []⟩, ⟨[11, 12], [12], [150], [1], [], []⟩, ⟨[], [], [151], [], [], []⟩, ⟨[14], [14], [152], [1], [], []⟩, ⟨[14, 15], [15], [153], [1], [], []⟩, ⟨[5, 6, 7, 8, 9, 10, 11, 12, 13, 14, 15, 16], [7, 10, 13, 16], [154], [], [], []⟩, ⟨[5, 6, 7, 8, 9, 10, 11, 12, 13, 14, 15, 16, 17], [17], [155], [], [], [2]⟩, ⟨[1, 2, 3, 4, 5, 6, 7, 8, 9, 10, 11, 12, 13, 14, 15, 16, 17, 18], [4, 18], [156], [2, 1], [3], [4]⟩, ⟨[0, 1, 2, 3, 4, 5, 6, 7, 8, 9, 10, 11, 12, 13, 14, 15, 16, 17, 18, 19], [0], [157], [], [], []⟩, ⟨[0, 1, 2, 3, 4, 5, 6, 7, 8, 9, 10, 11, 12, 13, 14, 15, 16, 17, 18, 19, 20], [20], [158], [], [], []⟩, ⟨[0, 1, 2, 3, 4, 5, 6, 7, 8, 9, 10, 11, 12, 13, 14, 15, 16, 17, 18, 19, 20, 21], [19, 21], [], [], [0], [5]⟩] [⟨none, (some 22), []⟩, ⟨none, none, []⟩, ⟨(some 18), none, [155]⟩, ⟨none, (some 19), []⟩, ⟨(some 19), none, [156]⟩, ⟨(some 22), none, [156]⟩] [137, 138, 139, 140, 141, 142, 143, 144, 145, 146, 147, 148, 149, 150, 151, 152, 153, 154, 155, 156, 157, 158] [0, 1, 3] [1, 2, 4, 5] [0, 1, 2, 3, 4, 5, 6, 7, 8, 9, 10, 11, 12, 13, 14, 15, 16, 17, 18, 19, 20, 21] [fun Ep12 => Ep12 137 = .pointer (some ⟨q2, 0, none⟩), fun Ep12 => Ep12 138 = .pointer (some ⟨q2, 0, none⟩), fun Ep12 => Ep12 139 = .pointer (some ⟨q2, 0, none⟩), fun Ep12 => Ep12 140 = .pointer (some ⟨q2, 5, none⟩), fun Ep12 => Ep12 141 = .slice q7 l_0.Vias.length c_l_0_5, fun Ep12 => Ep12 142 = .slice q3 n2.length c_n2, fun Ep12 => Ep12 143 = .pointer (some ((adr q3).add ((0 : Int).toNat * (RpI .i64).sz))), fun Ep12 => Ep12 144 = .int .i64 x144, fun Ep12 => Ep12 145 = .slice q3 n2.length c_n2, fun Ep12 => Ep12 146 = .pointer (some ((adr q3).add ((1 : Int).toNat * (RpI .i64).sz))), fun Ep12 => Ep12 147 = .int .i64 x147, fun Ep12 => Ep12 148 = .slice q3 n2.length c_n2, fun Ep12 => Ep12 149 = .pointer (some ((adr q3).add ((2 : Int).toNat * (RpI .i64).sz))), fun Ep12 => Ep12 150 = .int .i64 x150, fun Ep12 => Ep12 151 = .slice q3 n2.length c_n2, fun Ep12 => Ep12 152 = .pointer (some ((adr q3).add ((3 : Int).toNat * (RpI .i64).sz))), fun Ep12 => Ep12 153 = .int .i64 x153, fun Ep12 => Ep12 154 = .agg #[.int .i64 x144, .int .i64 x147, .int .i64 x150, .int .i64 x153], fun Ep12 => Ep12 155 = .slice (some ⟨(blkOf (Ep12 155)), 0, none⟩) 1 1, fun Ep12 => Ep12 156 = .slice (adOf (Ep12 156)) q0e.length (capOf (Ep12 156)), fun Ep12 => Ep12 157 = .pointer (some ⟨q2, 0, none⟩), fun Ep12 => Ep12 158 = .pointer (some ⟨q2, 5, none⟩), fun Ep12 => True] [fun Ep12 => cells q2 91 [.int .i64 l_0.W, .int .i64 l_0.H, .int .i64 l_0.Layers, .int .i64 l_0.Nets, .slice q6 l_0.Wires.length c_l_0_4, .slice q7 l_0.Vias.length c_l_0_5, .slice q5 l_0.Pins.length c_l_0_6, .slice q4 l_0.Walls.length c_l_0_7], fun Ep12 => ro ρ, fun Ep12 => cells (blkOf (Ep12 155)) 181 [.int .i64 x144, .int .i64 x147, .int .i64 x150, .int .i64 x153], fun Ep12 => vec 181 R_rules_Via.sz (.slice q7 l_0.Vias.length c_l_0_5) l_0.Vias.length q0a, fun Ep12 => bunA (fun (cs156 : List Value) => RepL R_rules_Via ρ q0e cs156) (fun (cs156 : List Value) => [vec 181 R_rules_Via.sz (.slice (adOf (Ep12 156)) q0e.length (capOf (Ep12 156))) q0e.length cs156]), fun Ep12 => cells q2 91 [.int .i64 l_0.W, .int .i64 l_0.H, .int .i64 l_0.Layers, .int .i64 l_0.Nets, .slice q6 l_0.Wires.length c_l_0_4, .slice (adOf (Ep12 156)) q0e.length (capOf (Ep12 156)), .slice q5 l_0.Pins.length c_l_0_6, .slice q4 l_0.Walls.length c_l_0_7]] mixed (by kernel_rfl) (((hS.pull 2).pull 5).pull 2) ?_ ?_
             ·refine ⟨?_, ?_, ?_, ?_, ?_, ?_, ?_, ?_, ?_, ?_, ?_, ?_, ?_, ?_, ?_, ?_, ?_, ?_, ?_, ?_, ?_, ?_, ?_, trivial⟩
              ·intro Ep12 w l' hE12 hO12 hF_ hS
               refine p (yl_move (hE12 0 rfl)) <| x_done <| ?_
               refine x_fin ⟨⟨_, rfl⟩, rfl, ?_⟩
               exact Eq.mp (by kernel_rfl) hS
              ·intro Ep12 w l' hE12 hO12 hF_ hS
               refine p (yl_move (hE12 0 rfl)) <| x_done <| ?_
               refine x_fin ⟨⟨_, rfl⟩, rfl, ?_⟩
               exact Eq.mp (by kernel_rfl) hS
              ·intro Ep12 w l' hE12 hO12 hF_ hS
               obtain ⟨q5x, -⟩ := hF_
               replace q5x : Ep12 138 = .pointer (some ⟨q2, 0, none⟩) := Eq.mp (by kernel_rfl) q5x
               refine p (yl_nilCheck q5x) <| x_done <| ?_
               refine x_fin ⟨⟨_, rfl⟩, rfl, ?_⟩
               exact Eq.mp (by kernel_rfl) hS
              ·intro Ep12 w l' hE12 hO12 hF_ hS
               obtain ⟨q5y, -⟩ := hF_
               replace q5y : Ep12 139 = .pointer (some ⟨q2, 0, none⟩) := Eq.mp (by kernel_rfl) q5y
               refine p (yl_field0 fld_91_5 q5y) <| x_done <| ?_
               refine x_fin ⟨⟨_, rfl⟩, rfl, ?_⟩
               exact Eq.mp (by kernel_rfl) hS
              ·intro Ep12 w l' hE12 hO12 hF_ hS
               obtain ⟨q5z, -⟩ := hF_
               replace q5z : Ep12 140 = .pointer (some ⟨q2, 5, none⟩) := Eq.mp (by kernel_rfl) q5z
               replace hS : St w0 w (cells q2 91 [.int .i64 l_0.W, .int .i64 l_0.H, .int .i64 l_0.Layers, .int .i64 l_0.Nets, .slice q6 l_0.Wires.length c_l_0_4, .slice q7 l_0.Vias.length c_l_0_5, .slice q5 l_0.Pins.length c_l_0_6, .slice q4 l_0.Walls.length c_l_0_7] :: l') := Eq.mp (by kernel_rfl) hS
               refine pa (at_load one_87 q5z (hS.cell rfl)) <| x_done <| ?_
               refine x_fin ⟨⟨_, rfl⟩, rfl, ?_⟩
               exact Eq.mp (by kernel_rfl) hS
              ·intro Ep12 w l' hE12 hO12 hF_ hS
               refine p (yl_move (hE12 2 rfl)) <| x_done <| ?_
               refine x_fin ⟨⟨_, rfl⟩, rfl, ?_⟩
               exact Eq.mp (by kernel_rfl) hS
              ·intro Ep12 w l' hE12 hO12 hF_ hS
               obtain ⟨q60, -⟩ := hF_
               replace q60 : Ep12 142 = .slice q3 n2.length c_n2 := Eq.mp (by kernel_rfl) q60
               replace hS : St w0 w (ro ρ :: l') := Eq.mp (by kernel_rfl) hS
               refine p (yix_f sl_22 q60 rfl q8 q7v) <| x_done <| ?_
               refine x_fin ⟨⟨_, rfl⟩, rfl, ?_⟩
               exact Eq.mp (by kernel_rfl) hS
              ·intro Ep12 w l' hE12 hO12 hF_ hS
               obtain ⟨q61, -⟩ := hF_
               replace q61 : Ep12 143 = .pointer (some ((adr q3).add ((0 : Int).toNat * (RpI .i64).sz))) := Eq.mp (by kernel_rfl) q61
               replace hS : St w0 w (ro ρ :: l') := Eq.mp (by kernel_rfl) hS
               refine pa (at_load one_3 q61 (RdS.getW q8 hS q7v hx144)) <| x_done <| ?_
               refine x_fin ⟨⟨_, rfl⟩, rfl, ?_⟩
               exact Eq.mp (by kernel_rfl) hS
              ·intro Ep12 w l' hE12 hO12 hF_ hS
               refine p (yl_move (hE12 2 rfl)) <| x_done <| ?_
               refine x_fin ⟨⟨_, rfl⟩, rfl, ?_⟩
               exact Eq.mp (by kernel_rfl) hS
              ·intro Ep12 w l' hE12 hO12 hF_ hS
               obtain ⟨q62, -⟩ := hF_
               replace q62 : Ep12 145 = .slice q3 n2.length c_n2 := Eq.mp (by kernel_rfl) q62
               replace hS : St w0 w (ro ρ :: l') := Eq.mp (by kernel_rfl) hS
               refine p (yix_f sl_22 q62 rfl q8 q7w) <| x_done <| ?_
               refine x_fin ⟨⟨_, rfl⟩, rfl, ?_⟩
               exact Eq.mp (by kernel_rfl) hS
              ·intro Ep12 w l' hE12 hO12 hF_ hS
               obtain ⟨q63, -⟩ := hF_
               replace q63 : Ep12 146 = .pointer (some ((adr q3).add ((1 : Int).toNat * (RpI .i64).sz))) := Eq.mp (by kernel_rfl) q63
               replace hS : St w0 w (ro ρ :: l') := Eq.mp (by kernel_rfl) hS
               refine pa (at_load one_3 q63 (RdS.getW q8 hS q7w hx147)) <| x_done <| ?_
               refine x_fin ⟨⟨_, rfl⟩, rfl, ?_⟩
               exact Eq.mp (by kernel_rfl) hS
              ·intro Ep12 w l' hE12 hO12 hF_ hS
               refine p (yl_move (hE12 2 rfl)) <| x_done <| ?_
               refine x_fin ⟨⟨_, rfl⟩, rfl, ?_⟩
               exact Eq.mp (by kernel_rfl) hS
              ·intro Ep12 w l' hE12 hO12 hF_ hS
               obtain ⟨q37, -⟩ := hF_
               replace q37 : Ep12 148 = .slice q3 n2.length c_n2 := Eq.mp (by kernel_rfl) q37
               replace hS : St w0 w (ro ρ :: l') := Eq.mp (by kernel_rfl) hS
               refine p (yix_f sl_22 q37 rfl q8 q7j) <| x_done <| ?_
               refine x_fin ⟨⟨_, rfl⟩, rfl, ?_⟩
               exact Eq.mp (by kernel_rfl) hS
              ·intro Ep12 w l' hE12 hO12 hF_ hS
               obtain ⟨q38, -⟩ := hF_
               replace q38 : Ep12 149 = .pointer (some ((adr q3).add ((2 : Int).toNat * (RpI .i64).sz))) := Eq.mp (by kernel_rfl) q38
               replace hS : St w0 w (ro ρ :: l') := Eq.mp (by kernel_rfl) hS
               refine pa (at_load one_3 q38 (RdS.getW q8 hS q7j hx150)) <| x_done <| ?_
               refine x_fin ⟨⟨_, rfl⟩, rfl, ?_⟩
               exact Eq.mp (by kernel_rfl) hS
              ·intro Ep12 w l' hE12 hO12 hF_ hS
               refine p (yl_move (hE12 2 rfl)) <| x_done <| ?_
               refine x_fin ⟨⟨_, rfl⟩, rfl, ?_⟩
               exact Eq.mp (by kernel_rfl) hS
              ·intro Ep12 w l' hE12 hO12 hF_ hS
               obtain ⟨q39, -⟩ := hF_
               replace q39 : Ep12 151 = .slice q3 n2.length c_n2 := Eq.mp (by kernel_rfl) q39
               replace hS : St w0 w (ro ρ :: l') := Eq.mp (by kernel_rfl) hS
               refine p (yix_f sl_22 q39 rfl q8 q7k) <| x_done <| ?_
               refine x_fin ⟨⟨_, rfl⟩, rfl, ?_⟩
               exact Eq.mp (by kernel_rfl) hS
              ·intro Ep12 w l' hE12 hO12 hF_ hS
               obtain ⟨q3a, -⟩ := hF_
               replace q3a : Ep12 152 = .pointer (some ((adr q3).add ((3 : Int).toNat * (RpI .i64).sz))) := Eq.mp (by kernel_rfl) q3a
               replace hS : St w0 w (ro ρ :: l') := Eq.mp (by kernel_rfl) hS
               refine pa (at_load one_3 q3a (RdS.getW q8 hS q7k hx153)) <| x_done <| ?_
               refine x_fin ⟨⟨_, rfl⟩, rfl, ?_⟩
               exact Eq.mp (by kernel_rfl) hS
              ·intro Ep12 w l' hE12 hO12 hF_ hS
               obtain ⟨q64, q3b, q3c, q3d, -⟩ := hF_
               replace q64 : Ep12 144 = .int .i64 x144 := Eq.mp (by kernel_rfl) q64
               replace q3b : Ep12 147 = .int .i64 x147 := Eq.mp (by kernel_rfl) q3b
               replace q3c : Ep12 150 = .int .i64 x150 := Eq.mp (by kernel_rfl) q3c
               replace q3d : Ep12 153 = .int .i64 x153 := Eq.mp (by kernel_rfl) q3d
               refine p (v := .agg #[.int .i64 x144, .int .i64 x147, .int .i64 x150, .int .i64 x153]) (yl_build bld_181 bldf_181 (parts_eq (pt (va := .int .i64 x144) q64 (pt (va := .int .i64 x147) q3b (pt (va := .int .i64 x150) q3c (pt (va := .int .i64 x153) q3d pt0))))) (by kernel_rfl)) <| x_done <| ?_
               refine x_fin ⟨⟨_, rfl⟩, rfl, ?_⟩
               exact Eq.mp (by kernel_rfl) hS
              ·intro Ep12 w l' hE12 hO12 hF_ hS
               obtain ⟨q3e, -⟩ := hF_
               replace q3e : Ep12 154 = .agg #[.int .i64 x144, .int .i64 x147, .int .i64 x150, .int .i64 x153] := Eq.mp (by kernel_rfl) q3e
               refine o_buildSlice (vs := [.agg #[.int .i64 x144, .int .i64 x147, .int .i64 x150, .int .i64 x153]]) (cs := [.int .i64 x144, .int .i64 x147, .int .i64 x150, .int .i64 x153]) sl_87 zero_181 (parts_eq (pt (va := .agg #[.int .i64 x144, .int .i64 x147, .int .i64 x150, .int .i64 x153]) q3e pt0)) rfl (by intro v hv; simp only [List.mem_cons, List.not_mem_nil, or_false] at hv; first | (subst hv; rfl) | (rcases hv with rfl <;> rfl)) (by decide) rfl hS (fun b155 w' hS => ?_)
               refine x_done <| ?_
               refine x_fin ⟨⟨_, rfl⟩, rfl, ?_⟩
               exact Eq.mp (by kernel_rfl) hS
              ·intro Ep12 w l' hE12 hO12 hF_ hS
               obtain ⟨q65, q3f, -⟩ := hF_
               replace q65 : Ep12 141 = .slice q7 l_0.Vias.length c_l_0_5 := Eq.mp (by kernel_rfl) q65
               replace q3f : Ep12 155 = .slice (some ⟨(blkOf (Ep12 155)), 0, none⟩) 1 1 := Eq.mp (by kernel_rfl) q3f
               replace hS : St w0 w (cells (blkOf (Ep12 155)) 181 [.int .i64 x144, .int .i64 x147, .int .i64 x150, .int .i64 x153] :: ro ρ :: vec 181 R_rules_Via.sz (.slice q7 l_0.Vias.length c_l_0_5) l_0.Vias.length q0a :: l') := Eq.mp (by kernel_rfl) hS
               refine o_ap sl_87 zero_181 rfl (by decide) q65 q3f (hS.pull 2) q22 (src_blk usl_87 hS rfl rfl) (RepL.cons (R := R_rules_Via) (ρ := ρ) (x := (T_rules_Via.mk x144 x147 x150 x153)) (cs := [.int .i64 x144, .int .i64 x147, .int .i64 x150, .int .i64 x153]) rfl RepL.nil) q87 q88 (fun A156 c156 cs156 w' hr156 hS => ?_)
               refine x_done <| ?_
               refine x_fin ⟨⟨_, rfl⟩, rfl, ?_⟩
               replace hS := St.bun (Φ := (fun (cs156 : List Value) => RepL R_rules_Via ρ q0e cs156)) (L := (fun (cs156 : List Value) => [vec 181 R_rules_Via.sz (.slice A156 q0e.length c156) q0e.length cs156])) cs156 hr156 hS
               exact Eq.mp (by kernel_rfl) ((hS.pull 2).pull 2)
              ·intro Ep12 w l' hE12 hO12 hF_ hS
               obtain ⟨q66, -⟩ := hF_
               replace q66 : Ep12 137 = .pointer (some ⟨q2, 0, none⟩) := Eq.mp (by kernel_rfl) q66
               refine p (yl_nilCheck q66) <| x_done <| ?_
               refine x_fin ⟨⟨_, rfl⟩, rfl, ?_⟩
               exact Eq.mp (by kernel_rfl) hS
              ·intro Ep12 w l' hE12 hO12 hF_ hS
               obtain ⟨q3g, -⟩ := hF_
               replace q3g : Ep12 157 = .pointer (some ⟨q2, 0, none⟩) := Eq.mp (by kernel_rfl) q3g
               refine p (yl_field0 fld_91_5 q3g) <| x_done <| ?_
               refine x_fin ⟨⟨_, rfl⟩, rfl, ?_⟩
               exact Eq.mp (by kernel_rfl) hS
              ·intro Ep12 w l' hE12 hO12 hF_ hS
               obtain ⟨q3h, q3i, -⟩ := hF_
               replace q3h : Ep12 156 = .slice (adOf (Ep12 156)) q0e.length (capOf (Ep12 156)) := Eq.mp (by kernel_rfl) q3h
               replace q3i : Ep12 158 = .pointer (some ⟨q2, 5, none⟩) := Eq.mp (by kernel_rfl) q3i
               replace hS : St w0 w (cells q2 91 [.int .i64 l_0.W, .int .i64 l_0.H, .int .i64 l_0.Layers, .int .i64 l_0.Nets, .slice q6 l_0.Wires.length c_l_0_4, .slice q7 l_0.Vias.length c_l_0_5, .slice q5 l_0.Pins.length c_l_0_6, .slice q4 l_0.Walls.length c_l_0_7] :: l') := Eq.mp (by kernel_rfl) hS
               refine o_store1 (v := .slice (adOf (Ep12 156)) q0e.length (capOf (Ep12 156))) one_87 q3i q3h rfl rfl hS (fun w' hS => ?_)
               refine x_done <| ?_
               refine x_fin ⟨⟨undef, rfl⟩, trivial, ?_⟩
               exact Eq.mp (by kernel_rfl) hS
             intro Ep12 w' hE12 hF_ hS
             obtain ⟨q66, q5x, q5y, q5z, q65, q60, q61, q64, q62, q63, q3b, q37, q38, q3c, q39, q3a, q3d, q3e, q3f, q3h, q3g, q3i, -⟩ := hF_
             replace q66 : Ep12 137 = .pointer (some ⟨q2, 0, none⟩) := Eq.mp (by kernel_rfl) q66
             replace q5x : Ep12 138 = .pointer (some ⟨q2, 0, none⟩) := Eq.mp (by kernel_rfl) q5x
             replace q5y : Ep12 139 = .pointer (some ⟨q2, 0, none⟩) := Eq.mp (by kernel_rfl) q5y
             replace q5z : Ep12 140 = .pointer (some ⟨q2, 5, none⟩) := Eq.mp (by kernel_rfl) q5z
             replace q65 : Ep12 141 = .slice q7 l_0.Vias.length c_l_0_5 := Eq.mp (by kernel_rfl) q65
             replace q60 : Ep12 142 = .slice q3 n2.length c_n2 := Eq.mp (by kernel_rfl) q60
             replace q61 : Ep12 143 = .pointer (some ((adr q3).add ((0 : Int).toNat * (RpI .i64).sz))) := Eq.mp (by kernel_rfl) q61
             replace q64 : Ep12 144 = .int .i64 x144 := Eq.mp (by kernel_rfl) q64
             replace q62 : Ep12 145 = .slice q3 n2.length c_n2 := Eq.mp (by kernel_rfl) q62
             replace q63 : Ep12 146 = .pointer (some ((adr q3).add ((1 : Int).toNat * (RpI .i64).sz))) := Eq.mp (by kernel_rfl) q63
             replace q3b : Ep12 147 = .int .i64 x147 := Eq.mp (by kernel_rfl) q3b
             replace q37 : Ep12 148 = .slice q3 n2.length c_n2 := Eq.mp (by kernel_rfl) q37
             replace q38 : Ep12 149 = .pointer (some ((adr q3).add ((2 : Int).toNat * (RpI .i64).sz))) := Eq.mp (by kernel_rfl) q38
             replace q3c : Ep12 150 = .int .i64 x150 := Eq.mp (by kernel_rfl) q3c
             replace q39 : Ep12 151 = .slice q3 n2.length c_n2 := Eq.mp (by kernel_rfl) q39
             replace q3a : Ep12 152 = .pointer (some ((adr q3).add ((3 : Int).toNat * (RpI .i64).sz))) := Eq.mp (by kernel_rfl) q3a
             replace q3d : Ep12 153 = .int .i64 x153 := Eq.mp (by kernel_rfl) q3d
             replace q3e : Ep12 154 = .agg #[.int .i64 x144, .int .i64 x147, .int .i64 x150, .int .i64 x153] := Eq.mp (by kernel_rfl) q3e
             replace q3f : Ep12 155 = .slice (some ⟨(blkOf (Ep12 155)), 0, none⟩) 1 1 := Eq.mp (by kernel_rfl) q3f
             replace q3h : Ep12 156 = .slice (adOf (Ep12 156)) q0e.length (capOf (Ep12 156)) := Eq.mp (by kernel_rfl) q3h
             replace q3g : Ep12 157 = .pointer (some ⟨q2, 0, none⟩) := Eq.mp (by kernel_rfl) q3g
             replace q3i : Ep12 158 = .pointer (some ⟨q2, 5, none⟩) := Eq.mp (by kernel_rfl) q3i
             replace hS : St w0 w' (ro ρ :: cells (blkOf (Ep12 155)) 181 [.int .i64 x144, .int .i64 x147, .int .i64 x150, .int .i64 x153] :: bunA (fun (cs156 : List Value) => RepL R_rules_Via ρ q0e cs156) (fun (cs156 : List Value) => [vec 181 R_rules_Via.sz (.slice (adOf (Ep12 156)) q0e.length (capOf (Ep12 156))) q0e.length cs156]) :: cells q2 91 [.int .i64 l_0.W, .int .i64 l_0.H, .int .i64 l_0.Layers, .int .i64 l_0.Nets, .slice q6 l_0.Wires.length c_l_0_4, .slice (adOf (Ep12 156)) q0e.length (capOf (Ep12 156)), .slice q5 l_0.Pins.length c_l_0_6, .slice q4 l_0.Walls.length c_l_0_7] :: (vec 98 R_rules_Wire.sz (.slice q6 l_0.Wires.length c_l_0_4) l_0.Wires.length q9 :: vec 101 R_rules_Pin.sz (.slice q5 l_0.Pins.length c_l_0_6) l_0.Pins.length q0b :: vec 123 R_floor_Wall.sz (.slice q4 l_0.Walls.length c_l_0_7) l_0.Walls.length q0c :: l)) := Eq.mp (by kernel_rfl) hS
             have q_ := St.unbun (hS.pull 2); obtain ⟨cs156, hr156, hS⟩ := q_
             exact x_inv ⟨(adOf (Ep12 156)), q0e.length, (capOf (Ep12 156)), cs156, q0e, (Option.some.inj (show some _ = some _ from hFc135)), hr156, (((((((hS.pull 2).drop.pull 1).pull 5).pull 5).pull 3).pull 5).pull 5)⟩
            ·replace hFc135 := it_f hc135 hFc135
             refine x_skip <| ?_
             exact x_inv ⟨q7, l_0.Vias.length, c_l_0_5, q0a, l_0.Vias, (Option.some.inj (show some _ = some _ from hFc135)), q22, ((((((hS.pull 5).pull 5).pull 5).pull 5).pull 5).pull 5)⟩
           rintro E w ⟨q12, q13, c_b_l_0_5_c135, q0k, q0n, rfl, q3j, hS⟩
           have e_ := St.vec_n (hS.pull 2) q3j; subst e_
           exact x_inv ⟨q6, l_0.Wires.length, c_l_0_4, q9, q12, q0n.length, c_b_l_0_5_c135, q0k, l_0.Wires, q0n, (Option.some.inj (show some _ = some _ from hFc105)), q2b, q3j, ((((((hS.pull 5).pull 5).pull 5).pull 5).pull 5).pull 5)⟩
         rintro E w ⟨q0y, q0z, c_b_l_0_4_c105, q0i, q10, q11, c_b_l_0_5_c105, q0j, q0l, q0m, rfl, q3k, q3l, hS⟩
         have e_ := St.vec_n (hS.pull 1) q3k; subst e_
         have e_ := St.vec_n (hS.pull 2) q3l; subst e_
         exact x_inv ⟨q0y, q0l.length, c_b_l_0_4_c105, q0i, q10, q0m.length, c_b_l_0_5_c105, q0j, q5, l_0.Pins.length, c_l_0_6, q0b, q0l, q0m, l_0.Pins, (Option.some.inj (show some _ = some _ from hFc84)), q3k, q3l, q2k, ((((((hS.pull 5).pull 5).pull 5).pull 5).pull 5).pull 5)⟩
       rintro E w ⟨q1w, q1x, c_b_l_0_4_c84, q0v, q1y, q1z, c_b_l_0_5_c84, q0w, q20, q21, c_b_l_0_6_c84, q0x, q1b, q1c, q1d, rfl, q3u, q3v, q3w, hS⟩
       have e_ := St.vec_n (hS.pull 1) q3u; subst e_
       have e_ := St.vec_n (hS.pull 2) q3v; subst e_
       have e_ := St.vec_n (hS.pull 3) q3w; subst e_
       exact x_inv ⟨q1w, q1b.length, c_b_l_0_4_c84, q0v, q1y, q1c.length, c_b_l_0_5_c84, q0w, q20, q1d.length, c_b_l_0_6_c84, q0x, q1b, q1c, q1d, (Option.some.inj (show some _ = some _ from hFc60)), q3u, q3v, q3w, ((((((hS.pull 5).pull 5).pull 5).pull 5).pull 5).pull 5)⟩
     rintro E w ⟨q1q, q1r, c_b_l_0_4_c60, q0s, q1s, q1t, c_b_l_0_5_c60, q0t, q1u, q1v, c_b_l_0_6_c60, q0u, q18, q19, q1a, rfl, q3x, q3y, q3z, hS⟩
     have e_ := St.vec_n (hS.pull 1) q3x; subst e_
     have e_ := St.vec_n (hS.pull 2) q3y; subst e_
     have e_ := St.vec_n (hS.pull 3) q3z; subst e_
     exact x_inv ⟨q1q, q18.length, c_b_l_0_4_c60, q0s, q1s, q19.length, c_b_l_0_5_c60, q0t, q1u, q1a.length, c_b_l_0_6_c60, q0u, q4, l_0.Walls.length, c_l_0_7, q0c, q18, q19, q1a, l_0.Walls, (Option.some.inj (show some _ = some _ from hFc33)), q3x, q3y, q3z, q48, ((((((hS.pull 5).pull 5).pull 5).pull 5).pull 5).pull 5)⟩
   rintro E w ⟨q1i, q1j, c_b_l_0_4_c33, q0o, q1k, q1l, c_b_l_0_5_c33, q0p, q1m, q1n, c_b_l_0_6_c33, q0q, q1o, q1p, c_b_l_0_7_c33, q0r, q14, q15, q16, q17, rfl, q40, q41, q42, q43, hS⟩
   have e_ := St.vec_n (hS.pull 1) q40; subst e_
   have e_ := St.vec_n (hS.pull 2) q41; subst e_
   have e_ := St.vec_n (hS.pull 3) q42; subst e_
   have e_ := St.vec_n (hS.pull 4) q43; subst e_
   exact x_inv ⟨q1i, q14.length, c_b_l_0_4_c33, q0o, q1k, q15.length, c_b_l_0_5_c33, q0p, q1m, q16.length, c_b_l_0_6_c33, q0q, q1o, q17.length, c_b_l_0_7_c33, q0r, l_0.W, l_0.H, l_0.Layers, l_0.Nets, q14, q15, q16, q17, (Option.some.inj (show some _ = some _ from hFc7)), q40, q41, q42, q43, ((((((hS.pull 5).pull 5).pull 5).pull 5).pull 5).pull 5)⟩
 rintro E w ⟨q23, q24, c_b_l_0_4_c7, q1e, q25, q26, c_b_l_0_5_c7, q1f, q27, q28, c_b_l_0_6_c7, q1g, q29, q2a, c_b_l_0_7_c7, q1h, q3m, q3n, q3o, q3p, q2g, q2h, q2i, q2j, rfl, q44, q45, q46, q47, hS⟩
 have e_ := St.vec_n (hS.pull 1) q44; subst e_
 have e_ := St.vec_n (hS.pull 2) q45; subst e_
 have e_ := St.vec_n (hS.pull 3) q46; subst e_
 have e_ := St.vec_n (hS.pull 4) q47; subst e_
 refine x_blk <| ?_
 have e_ := Option.some.inj (show some _ = some _ from hF); subst e_
 exact x_fin ⟨_, rfl, q23, q2g.length, c_b_l_0_4_c7, q1e, q25, q2h.length, c_b_l_0_5_c7, q1f, q27, q2i.length, c_b_l_0_6_c7, q1g, q29, q2j.length, c_b_l_0_7_c7, q1h, rfl, q44, q45, q46, q47, ((((((hS.pull 5).pull 5).pull 5).pull 5).pull 5).pull 5)⟩
attribute [irreducible] P_layfmt_enter_5

def P_layfmt_Read_L9 (q0f : (List ByteArray × Bool)) : (Int × Int × Int × Int × Int × Int × List T_rules_Wire × List T_rules_Via × List T_rules_Pin × List T_floor_Wall) → Option ((Int × Int × Int × Int × Int × Int × List T_rules_Wire × List T_rules_Via × List T_rules_Pin × List T_floor_Wall) ⊕ ((Int × Int × Int × Int × List T_rules_Wire × List T_rules_Via × List T_rules_Pin × List T_floor_Wall) ⊕ (T_rules_Layout × Int × Int))) := fun (q0e, q2, q6, q7, q8, q9, q0a, q0b, q0c, q0d) =>
 if q2 < (q0f.1.length : Int) then
  ck (inb q2 q0f.1.length) <|
  lv (gt q0f.1 q2) fun x37 =>
  bd (P_layfmt_words x37) fun q4 =>
  bd (P_layfmt_place q4.1) fun q5 =>
  lv ((!q4.2.2) || (decide (q5 < q0e))) fun x52 =>
  lv ((decide (q5 = 0)) && (decide (0 < q2))) fun x59 =>
  lv (x52 || x59) fun x60 =>
  lv ((decide (0 < q5)) && (decide (q2 = 0))) fun x67 =>
  lv (x60 || x67) fun x68 =>
  if x68 = true then
   ar (q2 + 1) fun x71 =>
   some (Sum.inr (Sum.inr ((T_rules_Layout.mk 0 0 0 0 [] [] [] []), x71, (10 : Int))))
  else
   bd (P_layfmt_enter_5 (T_rules_Layout.mk q6 q7 q8 q9 q0a q0b q0c q0d) q4.1 q4.2.1) fun q3 =>
   ar (q2 + 1) fun x76 =>
   some (Sum.inl (q5, x76, q3.1, q3.2.1, q3.2.2.1, q3.2.2.2.1, q3.2.2.2.2.1, q3.2.2.2.2.2.1, q3.2.2.2.2.2.2.1, q3.2.2.2.2.2.2.2))
 else
  some (Sum.inr (Sum.inl (q6, q7, q8, q9, q0a, q0b, q0c, q0d)))
def P_layfmt_Read (s0 : ByteArray) : Option (T_rules_Layout × Int × Int) :=
 if 262144 < (s0.size : Int) then
  some ((T_rules_Layout.mk 0 0 0 0 [] [] [] []), (0 : Int), (3 : Int))
 else
  bd (P_layfmt_lines s0) fun q0a =>
  if (!q0a.2) = true then
   ar ((q0a.1.length : Int) + 1) fun x30 =>
   some ((T_rules_Layout.mk 0 0 0 0 [] [] [] []), x30, (10 : Int))
  else
   bs (
    lp (P_layfmt_Read_L9 q0a) fuel (0, 0, 0, 0, 0, 0, [], [], [], [])) (fun y => some y) fun (q2, q3, q4, q5, q6, q7, q8, q9) =>
   if (q0a.1.length : Int) = 0 then
    some ((T_rules_Layout.mk 0 0 0 0 [] [] [] []), (1 : Int), (10 : Int))
   else
    bd (P_rules_Check (T_rules_Layout.mk q2 q3 q4 q5 q6 q7 q8 q9)) fun q0b =>
    if q0b ≠ 0 then
     some ((T_rules_Layout.mk 0 0 0 0 [] [] [] []), (0 : Int), q0b)
    else
     some ((T_rules_Layout.mk q2 q3 q4 q5 q6 q7 q8 q9), (0 : Int), (0 : Int))
set_option maxHeartbeats 4000000 in
set_option maxRecDepth 100000 in
theorem c_layfmt_Read {w0 w : World} {l : List Assn} {ρ : Heap} {s0 : ByteArray} {r : (T_rules_Layout × Int × Int)} (hF : P_layfmt_Read s0 = some r) (hS : St w0 w (ro ρ :: l)) :
  Calls Tryd.prog 35 #[.string s0] w fun e w' => ∃ (q2e : Option Addr) (q1l : Nat) (c_y0_ret_4 : Nat) (q2a : List Value) (q2f : Option Addr) (q1m : Nat) (c_y0_ret_5 : Nat) (q2b : List Value) (q2g : Option Addr) (q1n : Nat) (c_y0_ret_6 : Nat) (q2c : List Value) (q2h : Option Addr) (q1o : Nat) (c_y0_ret_7 : Nat) (q2d : List Value), e = .returned (.tuple #[.agg #[.int .i64 r.1.W, .int .i64 r.1.H, .int .i64 r.1.Layers, .int .i64 r.1.Nets, .slice q2e q1l c_y0_ret_4, .slice q2f q1m c_y0_ret_5, .slice q2g q1n c_y0_ret_6, .slice q2h q1o c_y0_ret_7], .int .i64 r.2.1, .int .i64 r.2.2]) ∧ RepL R_rules_Wire ρ r.1.Wires q2a ∧ RepL R_rules_Via ρ r.1.Vias q2b ∧ RepL R_rules_Pin ρ r.1.Pins q2c ∧ RepL R_floor_Wall ρ r.1.Walls q2d ∧ St w0 w' (vec 98 R_rules_Wire.sz (.slice q2e q1l c_y0_ret_4) q1l q2a :: vec 181 R_rules_Via.sz (.slice q2f q1m c_y0_ret_5) q1m q2b :: vec 101 R_rules_Pin.sz (.slice q2g q1n c_y0_ret_6) q1n q2c :: vec 123 R_floor_Wall.sz (.slice q2h q1o c_y0_ret_7) q1o q2d :: ro ρ :: l) := by
 refine enterC Tryd.func35 rfl 88 rfl (by simp) ?_
 refine x_seq <| x_region <| ?_
 refine o_alloc zero_91 hS (fun b2 w' hS => ?_)
 refine p (yl_assign rfl) <| p (yl_assign rfl) <| x_done <| x_seq <|
  x_seq <| x_region <| p (yl_move rfl) <| p (yl_len_string us_9 rfl) <|
  p (yl_gtr rfl rfl) <| x_done <|
  x_cond_p (262144 < (s0.size : Int)) rfl (fun hc18 => ?_) (fun hc18 => ?_)
 ·replace hF := it_t hc18 hF
  refine x_seq <| x_region <| p (v := .agg #[.int .i64 0, .int .i64 0, .int .i64 0, .int .i64 0, .slice none 0 0, .slice none 0 0, .slice none 0 0, .slice none 0 0]) (yl_build bld_91 bldf_91 (parts_eq pt0) (by kernel_rfl)) <| ?_
  refine o_storeAgg (news := [.int .i64 0, .int .i64 0, .int .i64 0, .int .i64 0, .slice none 0 0, .slice none 0 0, .slice none 0 0, .slice none 0 0]) agg_91 rfl rfl rfl (by simp [over_length]) hS (fun w' hS => ?_)
  refine p (yl_assign rfl) <| p (yl_assign rfl) <| x_done <| ?_
  replace hS := St.vec_nil hS 98 R_rules_Wire.sz
  have q3 : RepL R_rules_Wire ρ [] [] := rfl
  replace hS := St.vec_nil hS 181 R_rules_Via.sz
  have q4 : RepL R_rules_Via ρ [] [] := rfl
  replace hS := St.vec_nil hS 101 R_rules_Pin.sz
  have q5 : RepL R_rules_Pin ρ [] [] := rfl
  replace hS := St.vec_nil hS 123 R_floor_Wall.sz
  have q6 : RepL R_floor_Wall ρ [] [] := rfl
  have e_ := Option.some.inj (show some _ = some _ from hF); subst e_
  exact x_return ⟨_, ⟨_, _, _, rfl, rfl, ldvA agg_91 rfl (fun j v hj => by rw [add0]; exact St.cell (hS.pull 4) hj), _, _, rfl, rfl, _, _, rfl, rfl, rfl⟩, none, 0, 0, [], none, 0, 0, [], none, 0, 0, [], none, 0, 0, [], rfl, q3, q4, q5, q6, ((((((hS.pull 4).drop.pull 4).pull 1).pull 2).pull 3).pull 4)⟩
 ·replace hF := it_f hc18 hF
  replace hF := bd_s hF; obtain ⟨q1y, q38, hF⟩ := hF
  refine x_skip <| x_seq <| x_region <| p (yl_move rfl) <| ?_
  have hcall := c_layfmt_lines q38  (hS.pull 1)
  refine o_cc call_88 (args1 rfl) hcall ?_
  rintro e w' ⟨q2, q1b, q32, c_y0_ret_3_1, rfl, q1z, q1c, hS⟩
  refine ⟨_, rfl, ?_⟩
  have e_ := q1c.n; subst e_
  refine p (yl_move rfl) <| p (yl_extract rfl rfl) <| p (yl_extract rfl rfl) <| p (yl_assign rfl) <|
   p (yl_assign rfl) <| x_done <| x_seq <| x_seq <|
   x_region <| p (yl_move rfl) <| p (yl_not rfl) <| x_done <|
   x_cond (t := !q1y.2) rfl (fun hc26 => ?_) (fun hc26 => ?_)
  ·replace hF := it_t hc26 hF
   replace hF := ar_s hF; obtain ⟨x30, hx30, hF⟩ := hF
   refine x_seq <| x_region <| p (v := .agg #[.int .i64 0, .int .i64 0, .int .i64 0, .int .i64 0, .slice none 0 0, .slice none 0 0, .slice none 0 0, .slice none 0 0]) (yl_build bld_91 bldf_91 (parts_eq pt0) (by kernel_rfl)) <| p (yl_move rfl) <|
    p (yl_len_slice usl_26 rfl) <| p (yadd rfl rfl hx30) <| ?_
   refine o_storeAgg (news := [.int .i64 0, .int .i64 0, .int .i64 0, .int .i64 0, .slice none 0 0, .slice none 0 0, .slice none 0 0, .slice none 0 0]) agg_91 rfl rfl rfl (by simp [over_length]) (hS.pull 1) (fun w' hS => ?_)
   refine p (yl_assign rfl) <| p (yl_assign rfl) <| x_done <| ?_
   replace hS := St.vec_nil hS 98 R_rules_Wire.sz
   have q3 : RepL R_rules_Wire q2 [] [] := rfl
   replace hS := St.vec_nil hS 181 R_rules_Via.sz
   have q4 : RepL R_rules_Via q2 [] [] := rfl
   replace hS := St.vec_nil hS 101 R_rules_Pin.sz
   have q5 : RepL R_rules_Pin q2 [] [] := rfl
   replace hS := St.vec_nil hS 123 R_floor_Wall.sz
   have q6 : RepL R_floor_Wall q2 [] [] := rfl
   have e_ := Option.some.inj (show some _ = some _ from hF); subst e_
   exact x_return ⟨_, ⟨_, _, _, rfl, rfl, ldvA agg_91 rfl (fun j v hj => by rw [add0]; exact St.cell (hS.pull 4) hj), _, _, rfl, rfl, _, _, rfl, rfl, rfl⟩, none, 0, 0, [], none, 0, 0, [], none, 0, 0, [], none, 0, 0, [], rfl, (RepL.flat (fun h => h) q3), (RepL.flat (fun h => h) q4), (RepL.flat (fun h => h) q5), (RepL.flat (fun h => h) q6), (ro_back4 q1z ((((((hS.pull 4).drop.pull 4).pull 1).pull 2).pull 3).pull 4))⟩
  ·replace hF := it_bf hc26 hF
   refine x_skip <| x_seq <| x_region <| ?_
   refine o_alloc zero_91 hS (fun b7 w' hS => ?_)
   refine x_done <| x_seq <| x_region <| p (yl_assign rfl) <|
    x_done <| x_seq <| x_seq <| x_region <|
    p (yl_move rfl) <| p (yl_len_slice usl_26 rfl) <| p (yl_move rfl) <| x_done <| ?_
   replace hF := bs_s hF; obtain ⟨oL9, hLL9, hF⟩ := hF
   refine x_join (fun E w => ∃ (q0d : Option Addr) (q1h : Nat) (c_b7_4_L9 : Nat) (q0v : List Value) (q0e : Option Addr) (q1i : Nat) (c_b7_5_L9 : Nat) (q0w : List Value) (q0f : Option Addr) (q1j : Nat) (c_b7_6_L9 : Nat) (q0x : List Value) (q0g : Option Addr) (q1k : Nat) (c_b7_7_L9 : Nat) (q0y : List Value) (q17 : Int) (q18 : Int) (q19 : Int) (q1a : Int) (q0m : List T_rules_Wire) (q0n : List T_rules_Via) (q0o : List T_rules_Pin) (q0p : List T_floor_Wall), (Sum.inl (q17, q18, q19, q1a, q0m, q0n, q0o, q0p)) = oL9 ∧ E 2 = .pointer (some ⟨b2, 0, none⟩) ∧ E 5 = .slice q1b q1y.1.length c_y0_ret_3_1 ∧ E 7 = .pointer (some ⟨b7, 0, none⟩) ∧ RepL R_rules_Wire q2 q0m q0v ∧ RepL R_rules_Via q2 q0n q0w ∧ RepL R_rules_Pin q2 q0o q0x ∧ RepL R_floor_Wall q2 q0p q0y ∧ St w0 w (cells b2 91 [.int .i64 0, .int .i64 0, .int .i64 0, .int .i64 0, .slice none 0 0, .slice none 0 0, .slice none 0 0, .slice none 0 0] :: cells b7 91 [.int .i64 q17, .int .i64 q18, .int .i64 q19, .int .i64 q1a, .slice q0d q1h c_b7_4_L9, .slice q0e q1i c_b7_5_L9, .slice q0f q1j c_b7_6_L9, .slice q0g q1k c_b7_7_L9] :: vec 98 R_rules_Wire.sz (.slice q0d q1h c_b7_4_L9) q1h q0v :: vec 181 R_rules_Via.sz (.slice q0e q1i c_b7_5_L9) q1i q0w :: vec 101 R_rules_Pin.sz (.slice q0f q1j c_b7_6_L9) q1j q0x :: vec 123 R_floor_Wall.sz (.slice q0g q1k c_b7_7_L9) q1k q0y :: ro q2 :: l)) ?_ ?_
   ·refine x_block ?_
    replace hS := St.vec_nil hS 98 R_rules_Wire.sz
    have q2i : RepL R_rules_Wire q2 [] [] := rfl
    replace hS := St.vec_nil hS 181 R_rules_Via.sz
    have q2j : RepL R_rules_Via q2 [] [] := rfl
    replace hS := St.vec_nil hS 101 R_rules_Pin.sz
    have q2k : RepL R_rules_Pin q2 [] [] := rfl
    replace hS := St.vec_nil hS 123 R_floor_Wall.sz
    have q2l : RepL R_floor_Wall q2 [] [] := rfl
    refine x_loop (fun k_ E w => ∃ (q0z : Option Addr) (q10 : Nat) (c_b7_4_L9h : Nat) (q0q : List Value) (q11 : Option Addr) (q12 : Nat) (c_b7_5_L9h : Nat) (q0r : List Value) (q13 : Option Addr) (q14 : Nat) (c_b7_6_L9h : Nat) (q0s : List Value) (q15 : Option Addr) (q16 : Nat) (c_b7_7_L9h : Nat) (q0t : List Value) (q0u : Int) (q0h : Int) (q1p : Int) (q1q : Int) (q1r : Int) (q1s : Int) (q1d : List T_rules_Wire) (q1e : List T_rules_Via) (q1f : List T_rules_Pin) (q1g : List T_floor_Wall), lp (P_layfmt_Read_L9 q1y) k_ (q0u, q0h, q1p, q1q, q1r, q1s, q1d, q1e, q1f, q1g) = some oL9 ∧ E 2 = .pointer (some ⟨b2, 0, none⟩) ∧ E 5 = .slice q1b q1y.1.length c_y0_ret_3_1 ∧ E 7 = .pointer (some ⟨b7, 0, none⟩) ∧ E 8 = .int .i64 q0u ∧ E 31 = .slice q1b q1y.1.length c_y0_ret_3_1 ∧ E 32 = .int .i64 (q1y.1.length : Int) ∧ E 33 = .int .i64 q0h ∧ RepL R_rules_Wire q2 q1d q0q ∧ RepL R_rules_Via q2 q1e q0r ∧ RepL R_rules_Pin q2 q1f q0s ∧ RepL R_floor_Wall q2 q1g q0t ∧ St w0 w (cells b2 91 [.int .i64 0, .int .i64 0, .int .i64 0, .int .i64 0, .slice none 0 0, .slice none 0 0, .slice none 0 0, .slice none 0 0] :: cells b7 91 [.int .i64 q1p, .int .i64 q1q, .int .i64 q1r, .int .i64 q1s, .slice q0z q10 c_b7_4_L9h, .slice q11 q12 c_b7_5_L9h, .slice q13 q14 c_b7_6_L9h, .slice q15 q16 c_b7_7_L9h] :: vec 98 R_rules_Wire.sz (.slice q0z q10 c_b7_4_L9h) q10 q0q :: vec 181 R_rules_Via.sz (.slice q11 q12 c_b7_5_L9h) q12 q0r :: vec 101 R_rules_Pin.sz (.slice q13 q14 c_b7_6_L9h) q14 q0s :: vec 123 R_floor_Wall.sz (.slice q15 q16 c_b7_7_L9h) q16 q0t :: ro q2 :: l)) fuel ⟨none, 0, 0, [], none, 0, 0, [], none, 0, 0, [], none, 0, 0, [], 0, 0, 0, 0, 0, 0, [], [], [], [], hLL9, rfl, rfl, rfl, rfl, rfl, rfl, rfl, q2i, q2j, q2k, q2l, (((((((hS.pull 5).pull 1).pull 2).pull 3).pull 4).pull 5).pull 6)⟩ ?_
    rintro kL9 E w ⟨q0z, q10, c_b7_4_L9h, q0q, q11, q12, c_b7_5_L9h, q0r, q13, q14, c_b7_6_L9h, q0s, q15, q16, c_b7_7_L9h, q0t, q0u, q0h, q1p, q1q, q1r, q1s, q1d, q1e, q1f, q1g, hLL9, q2m, q2s, q2o, q33, q2p, q2q, q28, q1t, q1u, q1v, q1w, hS⟩
    have e_ := St.vec_n (hS.pull 2) q1t; subst e_
    have e_ := St.vec_n (hS.pull 3) q1u; subst e_
    have e_ := St.vec_n (hS.pull 4) q1v; subst e_
    have e_ := St.vec_n (hS.pull 5) q1w; subst e_
    replace hLL9 := lp_s hLL9; obtain ⟨kL9, obL9, rfl, hFL9, hLL9⟩ := hLL9
    refine x_seq <| x_region <| p (yl_lss q28 q2q) <| x_done <|
     x_seq <|
     x_cond_p (q0h < (q1y.1.length : Int)) rfl (fun hc34 => ?_) (fun hc34 => ?_)
    ·replace hFL9 := it_t hc34 hFL9
     replace hFL9 := ck_s hFL9; obtain ⟨q2t, hFL9⟩ := hFL9
     replace hFL9 := lv_s hFL9; obtain ⟨x37, hx37, hFL9⟩ := hFL9
     replace hFL9 := bd_s hFL9; obtain ⟨q2r, q34, hFL9⟩ := hFL9
     refine x_skip <| x_seq <| x_block <| x_seq <|
      x_region <| p (yl_move q28) <| p (yix_f sl_26 q2p q28 q1c q2t) <| pa (at_load one_9 rfl (RdS.getW q1c (hS.pull 6) q2t hx37)) <|
      p (yl_assign rfl) <| p (yl_assign rfl) <| x_done <| x_seq <|
      x_region <| p (yl_move rfl) <| ?_
     have hcall := c_layfmt_words q34  (hS.pull 6)
     refine o_cc call_89 (args1 rfl) hcall ?_
     rintro e w' ⟨q30, q31, c_y1_ret_11_1, q2z, rfl, q1x, hS⟩
     refine ⟨_, rfl, ?_⟩
     have e_ := St.vec_n hS q1x; subst e_
     replace hFL9 := bd_s hFL9; obtain ⟨q0b, q35, hFL9⟩ := hFL9
     refine p (yl_move rfl) <| p (yl_extract rfl rfl) <| p (yl_extract rfl rfl) <| p (yl_extract rfl rfl) <|
      p (yl_assign rfl) <| p (yl_assign rfl) <| p (yl_assign rfl) <| x_done <|
      x_seq <| x_region <| p (yl_move rfl) <| ?_
     have hcall := c_layfmt_place q35  (hS.pull 1)
     refine o_cc call_90 (args1 rfl) ((Calls.mono hcall (fun e w'' h => And.intro h.1 ((((((((h.2.pull 7).pull 7).pull 7).pull 7).pull 7).pull 7).pull 6).pull 7)))) ?_
     rintro e w' ⟨rfl, hS⟩
     refine ⟨_, rfl, ?_⟩
     replace hFL9 := lv_s hFL9; obtain ⟨x52, hx52, hFL9⟩ := hFL9
     replace hFL9 := lv_s hFL9; obtain ⟨x59, hx59, hFL9⟩ := hFL9
     replace hFL9 := lv_s hFL9; obtain ⟨x60, hx60, hFL9⟩ := hFL9
     replace hFL9 := lv_s hFL9; obtain ⟨x67, hx67, hFL9⟩ := hFL9
     replace hFL9 := lv_s hFL9; obtain ⟨x68, hx68, hFL9⟩ := hFL9
     refine p (v := .int .i64 q0b) (yl_assign rfl) <| x_done <| x_seq <| x_seq <|
      x_region <| p (yl_move rfl) <| p (yl_not rfl) <| p (yl_move rfl) <|
      pg (v := .int .i64 q0b) 48 (c := !(!q2r.2.2)) (says_f _) (fun hq => Yl.at (yl_move rfl)) <| pg (v := .int .i64 q0u) 48 (c := !(!q2r.2.2)) (says_f _) (fun hq => Yl.at (yl_move q33)) <| pg (v := .bool (decide (q0b < q0u))) 48 (c := !(!q2r.2.2)) (says_f _) (fun hq => Yl.at (yl_lss (cv hq) (cv hq))) <| p (yor' rfl rfl (fun hc => (cv (t_not hc))) hx52) <|
      p (yl_move rfl) <| pg (v := .int .i64 q0b) 53 (c := !x52) (says_f _) (fun hq => Yl.at (yl_move rfl)) <| pg (v := .bool (decide (q0b = 0))) 53 (c := !x52) (says_f _) (fun hq => Yl.at (yl_eql (cv hq) rfl)) <| pg (v := .bool (decide (q0b = 0))) 53 (c := !x52) (says_f _) (fun hq => Yl.at (yl_move (cv hq))) <|
      pg (v := .int .i64 q0h) 56 (c := (!x52) && (decide (q0b = 0))) (says_ift _ _) (fun hq => Yl.at (yl_move rfl)) <| pg (v := .bool (decide (0 < q0h))) 56 (c := (!x52) && (decide (q0b = 0))) (says_ift _ _) (fun hq => Yl.at (yl_gtr (cv hq) rfl)) <| pg (v := .bool x59) 53 (c := !x52) (says_f _) (fun hq => Yl.at (yand' (cv hq) (fun hc => (cv (and_i hq hc))) rfl hx59)) <| p (yor' rfl rfl (fun hc => (cv (t_not hc))) hx60) <|
      p (yl_move rfl) <| pg (v := .int .i64 q0b) 61 (c := !x60) (says_f _) (fun hq => Yl.at (yl_move rfl)) <| pg (v := .bool (decide (0 < q0b))) 61 (c := !x60) (says_f _) (fun hq => Yl.at (yl_gtr (cv hq) rfl)) <| pg (v := .bool (decide (0 < q0b))) 61 (c := !x60) (says_f _) (fun hq => Yl.at (yl_move (cv hq))) <|
      pg (v := .int .i64 q0h) 64 (c := (!x60) && (decide (0 < q0b))) (says_ift _ _) (fun hq => Yl.at (yl_move rfl)) <| pg (v := .bool (decide (q0h = 0))) 64 (c := (!x60) && (decide (0 < q0b))) (says_ift _ _) (fun hq => Yl.at (yl_eql (cv hq) rfl)) <| pg (v := .bool x67) 61 (c := !x60) (says_f _) (fun hq => Yl.at (yand' (cv hq) (fun hc => (cv (and_i hq hc))) rfl hx67)) <| p (yor' rfl rfl (fun hc => (cv (t_not hc))) hx68) <|
      x_done <|
      x_cond (t := x68) rfl (fun hc68 => ?_) (fun hc68 => ?_)
     ·replace hFL9 := it_t hc68 hFL9
      replace hFL9 := ar_s hFL9; obtain ⟨x71, hx71, hFL9⟩ := hFL9
      refine x_seq <| x_region <| p (v := .agg #[.int .i64 0, .int .i64 0, .int .i64 0, .int .i64 0, .slice none 0 0, .slice none 0 0, .slice none 0 0, .slice none 0 0]) (yl_build bld_91 bldf_91 (parts_eq pt0) (by kernel_rfl)) <| p (yl_move rfl) <|
       p (yadd rfl rfl hx71) <| ?_
      refine o_storeAgg (news := [.int .i64 0, .int .i64 0, .int .i64 0, .int .i64 0, .slice none 0 0, .slice none 0 0, .slice none 0 0, .slice none 0 0]) agg_91 q2m rfl rfl (by simp [over_length]) (hS.pull 2) (fun w' hS => ?_)
      refine p (yl_assign rfl) <| p (yl_assign rfl) <| x_done <| ?_
      replace hS := St.vec_nil hS 98 R_rules_Wire.sz
      have q3 : RepL R_rules_Wire q2 [] [] := rfl
      replace hS := St.vec_nil hS 181 R_rules_Via.sz
      have q4 : RepL R_rules_Via q2 [] [] := rfl
      replace hS := St.vec_nil hS 101 R_rules_Pin.sz
      have q5 : RepL R_rules_Pin q2 [] [] := rfl
      replace hS := St.vec_nil hS 123 R_floor_Wall.sz
      have q6 : RepL R_floor_Wall q2 [] [] := rfl
      have e_ := Option.some.inj (show some _ = some _ from hFL9); subst e_
      have e_ := (show _ = oL9 from hLL9); subst e_
      have e_ := Option.some.inj (show some _ = some _ from hF); subst e_
      exact x_return ⟨_, ⟨_, _, _, rfl, q2m, ldvA agg_91 rfl (fun j v hj => by rw [add0]; exact St.cell (hS.pull 4) hj), _, _, rfl, rfl, _, _, rfl, rfl, rfl⟩, none, 0, 0, [], none, 0, 0, [], none, 0, 0, [], none, 0, 0, [], rfl, (RepL.flat (fun h => h) q3), (RepL.flat (fun h => h) q4), (RepL.flat (fun h => h) q5), (RepL.flat (fun h => h) q6), (ro_back4 q1z ((((((((((((hS.pull 4).drop.pull 4).drop.pull 5).drop.pull 5).drop.pull 5).drop.pull 5).drop.pull 5).drop.pull 4).pull 1).pull 2).pull 3).pull 4))⟩
     ·replace hFL9 := it_bf hc68 hFL9
      replace hFL9 := bd_s hFL9; obtain ⟨q0c, q36, hFL9⟩ := hFL9
      refine x_skip <| x_seq <| x_region <| p (v := .int .i64 q0b) (yl_move rfl) <|
       p (v := .int .i64 q0b) (yl_assign rfl) <| x_done <| x_region <| p (yl_move rfl) <|
       p (yl_move rfl) <| ?_
      have q_ := St.lend ((hS.pull 1).pull 1) q1x; obtain ⟨ρl0, hll0, hlf0, hS0, back0⟩ := q_
      have hcall := c_layfmt_enter_5 q36 (q1t.le hll0) (q1u.le hll0) (q1v.le hll0) (q1w.le hll0) hlf0 (((((hS0.pull 6).pull 6).pull 6).pull 6).pull 6)
      refine o_cc call_91 (args3 q2o rfl rfl) hcall ?_
      rintro e w' ⟨q20, q2u, c_b_l_0_4_ret_16_2, q0i, q21, q2v, c_b_l_0_5_ret_16_2, q0j, q22, q2w, c_b_l_0_6_ret_16_2, q0k, q23, q2x, c_b_l_0_7_ret_16_2, q0l, rfl, q7, q8, q9, q0a, hS⟩
      refine ⟨_, rfl, ?_⟩
      replace hS := back0 (hS.pull 5)
      replace q7 : RepL R_rules_Wire q2 q0c.2.2.2.2.1 q0i := RepL.flat (fun h => h) q7
      have e_ := St.vec_n (hS.pull 3) q7; subst e_
      replace q8 : RepL R_rules_Via q2 q0c.2.2.2.2.2.1 q0j := RepL.flat (fun h => h) q8
      have e_ := St.vec_n (hS.pull 4) q8; subst e_
      replace q9 : RepL R_rules_Pin q2 q0c.2.2.2.2.2.2.1 q0k := RepL.flat (fun h => h) q9
      have e_ := St.vec_n (hS.pull 5) q9; subst e_
      replace q0a : RepL R_floor_Wall q2 q0c.2.2.2.2.2.2.2 q0l := RepL.flat (fun h => h) q0a
      have e_ := St.vec_n (hS.pull 6) q0a; subst e_
      replace hFL9 := ar_s hFL9; obtain ⟨x76, hx76, hFL9⟩ := hFL9
      refine x_done <| x_blk <| x_region <| p (yadd q28 rfl hx76) <|
       p (yl_move rfl) <| x_done <| ?_
      have e_ := Option.some.inj (show some _ = some _ from hFL9); subst e_
      exact x_inv ⟨kL9, Nat.lt_succ_self _, q20, q0c.2.2.2.2.1.length, c_b_l_0_4_ret_16_2, q0i, q21, q0c.2.2.2.2.2.1.length, c_b_l_0_5_ret_16_2, q0j, q22, q0c.2.2.2.2.2.2.1.length, c_b_l_0_6_ret_16_2, q0k, q23, q0c.2.2.2.2.2.2.2.length, c_b_l_0_7_ret_16_2, q0l, q0b, x76, q0c.1, q0c.2.1, q0c.2.2.1, q0c.2.2.2.1, q0c.2.2.2.2.1, q0c.2.2.2.2.2.1, q0c.2.2.2.2.2.2.1, q0c.2.2.2.2.2.2.2, hLL9, q2m, q2s, q2o, rfl, q2p, q2q, rfl, q7, q8, q9, q0a, ((((((hS.drop.pull 5).pull 5).pull 5).pull 5).pull 5).pull 6)⟩
    ·replace hFL9 := it_f hc34 hFL9
     refine x_exitTo _ rfl <| ?_
     have e_ := Option.some.inj (show some _ = some _ from hFL9); subst e_
     exact x_inv ⟨q0z, q1d.length, c_b7_4_L9h, q0q, q11, q1e.length, c_b7_5_L9h, q0r, q13, q1f.length, c_b7_6_L9h, q0s, q15, q1g.length, c_b7_7_L9h, q0t, q1p, q1q, q1r, q1s, q1d, q1e, q1f, q1g, hLL9, q2m, q2s, q2o, q1t, q1u, q1v, q1w, (((((((hS.pull 6).pull 6).pull 6).pull 6).pull 6).pull 6).pull 6)⟩
   rintro E w ⟨q0d, q1h, c_b7_4_L9, q0v, q0e, q1i, c_b7_5_L9, q0w, q0f, q1j, c_b7_6_L9, q0x, q0g, q1k, c_b7_7_L9, q0y, q17, q18, q19, q1a, q0m, q0n, q0o, q0p, rfl, q29, q39, q2y, q24, q25, q26, q27, hS⟩
   have e_ := St.vec_n (hS.pull 2) q24; subst e_
   have e_ := St.vec_n (hS.pull 3) q25; subst e_
   have e_ := St.vec_n (hS.pull 4) q26; subst e_
   have e_ := St.vec_n (hS.pull 5) q27; subst e_
   refine x_seq <| x_seq <| x_region <| p (yl_move q39) <|
    p (yl_len_slice usl_26 rfl) <| p (yl_eql rfl rfl) <| x_done <|
    x_cond_p ((q1y.1.length : Int) = 0) rfl (fun hc79 => ?_) (fun hc79 => ?_)
   ·replace hF := it_t hc79 hF
    refine x_seq <| x_region <| p (v := .agg #[.int .i64 0, .int .i64 0, .int .i64 0, .int .i64 0, .slice none 0 0, .slice none 0 0, .slice none 0 0, .slice none 0 0]) (yl_build bld_91 bldf_91 (parts_eq pt0) (by kernel_rfl)) <| ?_
    refine o_storeAgg (news := [.int .i64 0, .int .i64 0, .int .i64 0, .int .i64 0, .slice none 0 0, .slice none 0 0, .slice none 0 0, .slice none 0 0]) agg_91 q29 rfl rfl (by simp [over_length]) hS (fun w' hS => ?_)
    refine p (yl_assign rfl) <| p (yl_assign rfl) <| x_done <| ?_
    replace hS := St.vec_nil hS 98 R_rules_Wire.sz
    have q3 : RepL R_rules_Wire q2 [] [] := rfl
    replace hS := St.vec_nil hS 181 R_rules_Via.sz
    have q4 : RepL R_rules_Via q2 [] [] := rfl
    replace hS := St.vec_nil hS 101 R_rules_Pin.sz
    have q5 : RepL R_rules_Pin q2 [] [] := rfl
    replace hS := St.vec_nil hS 123 R_floor_Wall.sz
    have q6 : RepL R_floor_Wall q2 [] [] := rfl
    have e_ := Option.some.inj (show some _ = some _ from hF); subst e_
    exact x_return ⟨_, ⟨_, _, _, rfl, q29, ldvA agg_91 rfl (fun j v hj => by rw [add0]; exact St.cell (hS.pull 4) hj), _, _, rfl, rfl, _, _, rfl, rfl, rfl⟩, none, 0, 0, [], none, 0, 0, [], none, 0, 0, [], none, 0, 0, [], rfl, (RepL.flat (fun h => h) q3), (RepL.flat (fun h => h) q4), (RepL.flat (fun h => h) q5), (RepL.flat (fun h => h) q6), (ro_back4 q1z (((((((((((hS.pull 4).drop.pull 4).drop.pull 4).drop.pull 4).drop.pull 4).drop.pull 4).drop.pull 4).pull 1).pull 2).pull 3).pull 4))⟩
   ·replace hF := it_f hc79 hF
    replace hF := bd_s hF; obtain ⟨q2n, q37, hF⟩ := hF
    refine x_skip <| x_seq <| x_seq <| x_region <|
     pa (v := .agg #[.int .i64 q17, .int .i64 q18, .int .i64 q19, .int .i64 q1a, .slice q0d q0m.length c_b7_4_L9, .slice q0e q0n.length c_b7_5_L9, .slice q0f q0o.length c_b7_6_L9, .slice q0g q0p.length c_b7_7_L9]) (ld_sub agg_91 q2y rfl rfl (hS.pull 1)) <| ?_
    have q_ := St.lend ((hS.pull 6).pull 3) q24; obtain ⟨ρl0, hll0, hlf0, hS0, back0⟩ := q_
    have q_ := St.lend (hS0.pull 3) (q25.le hll0); obtain ⟨ρl1, hll1, hlf1, hS1, back1⟩ := q_
    have q_ := St.lend (hS1.pull 3) (q26.le (hll0.trans hll1)); obtain ⟨ρl2, hll2, hlf2, hS2, back2⟩ := q_
    have q_ := St.lend (hS2.pull 3) (q27.le ((hll0.trans hll1).trans hll2)); obtain ⟨ρl3, hll3, hlf3, hS3, back3⟩ := q_
    have hcall := c_rules_Check q37 (hlf0.le ((hll1.trans hll2).trans hll3)) (hlf1.le (hll2.trans hll3)) (hlf2.le hll3) hlf3 hS3
    refine o_cc call_85 (args1 rfl) ((Calls.mono hcall (fun e w'' h => And.intro h.1 ((((((((back0 ((back1 ((back2 ((back3 h.2).pull 1)).pull 1)).pull 1)).pull 1).pull 4).pull 4).pull 4).pull 4).pull 6).pull 6)))) ?_
    rintro e w' ⟨rfl, hS⟩
    refine ⟨_, rfl, ?_⟩
    refine p (v := .int .i64 q2n) (yl_assign rfl) <| x_done <| x_seq <| x_region <|
     p (v := .int .i64 q2n) (yl_move rfl) <| p (yl_neq rfl rfl) <| x_done <|
     x_cond_p (q2n ≠ 0) rfl (fun hc84 => ?_) (fun hc84 => ?_)
    ·replace hF := it_t hc84 hF
     refine x_seq <| x_region <| p (v := .agg #[.int .i64 0, .int .i64 0, .int .i64 0, .int .i64 0, .slice none 0 0, .slice none 0 0, .slice none 0 0, .slice none 0 0]) (yl_build bld_91 bldf_91 (parts_eq pt0) (by kernel_rfl)) <| p (v := .int .i64 q2n) (yl_move rfl) <| ?_
     refine o_storeAgg (news := [.int .i64 0, .int .i64 0, .int .i64 0, .int .i64 0, .slice none 0 0, .slice none 0 0, .slice none 0 0, .slice none 0 0]) agg_91 q29 rfl rfl (by simp [over_length]) hS (fun w' hS => ?_)
     refine p (yl_assign rfl) <| p (v := .int .i64 q2n) (yl_assign rfl) <| x_done <| ?_
     replace hS := St.vec_nil hS 98 R_rules_Wire.sz
     have q3 : RepL R_rules_Wire q2 [] [] := rfl
     replace hS := St.vec_nil hS 181 R_rules_Via.sz
     have q4 : RepL R_rules_Via q2 [] [] := rfl
     replace hS := St.vec_nil hS 101 R_rules_Pin.sz
     have q5 : RepL R_rules_Pin q2 [] [] := rfl
     replace hS := St.vec_nil hS 123 R_floor_Wall.sz
     have q6 : RepL R_floor_Wall q2 [] [] := rfl
     have e_ := Option.some.inj (show some _ = some _ from hF); subst e_
     exact x_return ⟨_, ⟨_, _, _, rfl, q29, ldvA agg_91 rfl (fun j v hj => by rw [add0]; exact St.cell (hS.pull 4) hj), _, _, rfl, rfl, _, _, rfl, rfl, rfl⟩, none, 0, 0, [], none, 0, 0, [], none, 0, 0, [], none, 0, 0, [], rfl, (RepL.flat (fun h => h) q3), (RepL.flat (fun h => h) q4), (RepL.flat (fun h => h) q5), (RepL.flat (fun h => h) q6), (ro_back4 q1z (((((((((((hS.pull 4).drop.pull 4).drop.pull 4).drop.pull 4).drop.pull 4).drop.pull 4).drop.pull 4).pull 1).pull 2).pull 3).pull 4))⟩
    ·replace hF := it_f hc84 hF
     refine x_skip <| x_seq <| x_region <| pa (v := .agg #[.int .i64 q17, .int .i64 q18, .int .i64 q19, .int .i64 q1a, .slice q0d q0m.length c_b7_4_L9, .slice q0e q0n.length c_b7_5_L9, .slice q0f q0o.length c_b7_6_L9, .slice q0g q0p.length c_b7_7_L9]) (ld_sub agg_91 q2y rfl rfl (hS.pull 1)) <| ?_
     refine o_storeAgg (news := [.int .i64 q17, .int .i64 q18, .int .i64 q19, .int .i64 q1a, .slice q0d q0m.length c_b7_4_L9, .slice q0e q0n.length c_b7_5_L9, .slice q0f q0o.length c_b7_6_L9, .slice q0g q0p.length c_b7_7_L9]) agg_91 q29 rfl rfl (by simp [over_length]) hS (fun w' hS => ?_)
     refine p (yl_assign rfl) <| p (yl_assign rfl) <| x_done <| ?_
     have e_ := Option.some.inj (show some _ = some _ from hF); subst e_
     exact x_return ⟨_, ⟨_, _, _, rfl, q29, ldvA agg_91 rfl (fun j v hj => by rw [add0]; exact St.cell hS hj), _, _, rfl, rfl, _, _, rfl, rfl, rfl⟩, q0d, q0m.length, c_b7_4_L9, q0v, q0e, q0n.length, c_b7_5_L9, q0w, q0f, q0o.length, c_b7_6_L9, q0x, q0g, q0p.length, c_b7_7_L9, q0y, rfl, (RepL.flat (fun h => h) q24), (RepL.flat (fun h => h) q25), (RepL.flat (fun h => h) q26), (RepL.flat (fun h => h) q27), (ro_back4 q1z (((((hS.drop.drop.pull 4).pull 4).pull 4).pull 4).pull 4))⟩
attribute [irreducible] P_layfmt_Read


end Go.Proofs.YtlolchgeedegdaaDoor.X
