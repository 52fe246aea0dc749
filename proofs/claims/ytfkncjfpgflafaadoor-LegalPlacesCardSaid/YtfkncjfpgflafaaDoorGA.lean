/- Printed by gen.py: plain functions, and that the Go code computes them. -/
import Derived.Test.YtfkncjfpgflafaaDoorXI
import Derived.Test.YtfkncjfpgflafaaDoorXT
import Derived.Test.YtfkncjfpgflafaaDoorGAp0
import Derived.Test.YtfkncjfpgflafaaDoorGAp1
import Derived.Test.YtfkncjfpgflafaaDoorGAp2
namespace Go.Proofs.YtfkncjfpgflafaaDoor.X
set_option maxHeartbeats 4000000
set_option maxRecDepth 100000
open Go Go.RowKit
set_option linter.unusedVariables false
set_option linter.unusedSimpArgs false

def P_legal_Check_L10 (f0 : T_floor_Floor) (q5 : List (List Bool)) : (List (List Bool) × Int) → Option ((List (List Bool) × Int) ⊕ List (List Bool)) := fun (q2, q3) =>
 if q3 < (q5.length : Int) then
  ck (mkOk 1 f0.Sites) <|
  lv ((List.replicate (f0.Sites : Int).toNat false : List Bool)) fun q4 =>
  ck (inb q3 q2.length) <|
  lv (gt q2 q3) fun q6 =>
  lv (stt q2 q3 q4) fun zr4 =>
  ar (q3 + 1) fun x43 =>
  some (Sum.inl (zr4, x43))
 else
  some (Sum.inr q2)
def P_legal_Check_L18 (q4 : T_floor_Block) : (List (List Bool) × Int) → Option ((List (List Bool) × Int) ⊕ List (List Bool)) := fun (q2, q3) =>
 if q3 < q4.To then
  ck (inb q4.Row q2.length) <|
  lv (gt q2 q4.Row) fun q5 =>
  ck (inb q3 q5.length) <|
  lv (stt q5 q3 true) fun q6 =>
  ar (q3 + 1) fun x58 =>
  lv (stt q2 q4.Row q6) fun zr8 =>
  some (Sum.inl (zr8, x58))
 else
  some (Sum.inr q2)
def P_legal_Check_L15 (f0 : T_floor_Floor) : (List (List Bool) × Int) → Option ((List (List Bool) × Int) ⊕ List (List Bool)) := fun (q3, q2) =>
 if q2 < (f0.Blocks.length : Int) then
  ck (inb q2 f0.Blocks.length) <|
  lv (gt f0.Blocks q2) fun q5 =>
  bd (
   lp (P_legal_Check_L18 q5) fuel (q3, q5.From)) fun q4 =>
  ar (q2 + 1) fun x66 =>
  some (Sum.inl (q4, x66))
 else
  some (Sum.inr q3)
def P_legal_Check_L28 (area1 : List Int) (q4 : T_floor_Site) (x77 : Int) (q6 : Int) : (List (List Bool) × Int) → Option ((List (List Bool) × Int) ⊕ (List (List Bool) ⊕ Int)) := fun (q2, q3) =>
 ck (inb q6 area1.length) <|
 ar (q4.At + x77) fun x124 =>
 if q3 < x124 then
  ck (inb q4.Row q2.length) <|
  lv (gt q2 q4.Row) fun q5 =>
  ck (inb q3 q5.length) <|
  lv (gt q5 q3) fun x135 =>
  if x135 = true then
   some (Sum.inr (Sum.inr (15 : Int)))
  else
   ck (inb q4.Row q2.length) <|
   ck (inb q3 q5.length) <|
   lv (stt q5 q3 true) fun q7 =>
   ar (q3 + 1) fun x127 =>
   lv (stt q2 q4.Row q7) fun zr17 =>
   some (Sum.inl (zr17, x127))
 else
  some (Sum.inr (Sum.inl q2))
def P_legal_Check_L23 (f0 : T_floor_Floor) (area1 : List Int) (l_2 : List T_floor_Site) : (List (List Bool) × Int) → Option ((List (List Bool) × Int) ⊕ (Unit ⊕ Int)) := fun (q4, q2) =>
 if q2 < (l_2.length : Int) then
  ck (inb q2 l_2.length) <|
  lv (gt l_2 q2) fun q3 =>
  ck (inb q2 area1.length) <|
  lv (gt area1 q2) fun x77 =>
  ck ((!(decide (x77 < 1))) = true → inb q2 area1.length) <|
  lv ((decide (x77 < 1)) || (decide (40 < x77))) fun x85 =>
  lv (x85 || (decide (q3.Row < 0))) fun x90 =>
  lv (x90 || (decide (f0.Rows ≤ q3.Row))) fun x97 =>
  lv (x97 || (decide (q3.At < 0))) fun x102 =>
  ck ((!x102) = true → inb q2 area1.length) <|
  ck ((!x102) = true → I64 (f0.Sites - x77)) <|
  lv (f0.Sites - x77) fun x112 =>
  lv (x102 || (decide (x112 < q3.At))) fun x114 =>
  if x114 = true then
   some (Sum.inr (Sum.inr (2 : Int)))
  else
   bs (
    lp (P_legal_Check_L28 area1 q3 x77 q2) fuel (q4, q3.At)) (fun y => some (Sum.inr (Sum.inr y))) fun q5 =>
   ar (q2 + 1) fun x143 =>
   some (Sum.inl (q5, x143))
 else
  some (Sum.inr (Sum.inl ()))
def P_legal_Check (f0 : T_floor_Floor) (area1 : List Int) (l_2 : List T_floor_Site) : Option Int :=
 bd (P_floor_Check f0) fun q4 =>
 if q4 ≠ 0 then
  some q4
 else
  if 364 < (area1.length : Int) then
   some (3 : Int)
  else
   if (l_2.length : Int) ≠ (area1.length : Int) then
    some (4 : Int)
   else
    ck (mkOk 24 f0.Rows) <|
    lv ((List.replicate (f0.Rows : Int).toNat [] : List (List Bool))) fun q5 =>
    bd (
     lp (P_legal_Check_L10 f0 q5) fuel (q5, 0)) fun q2 =>
    bd (
     lp (P_legal_Check_L15 f0) fuel (q2, 0)) fun q3 =>
    bs (
     lp (P_legal_Check_L23 f0 area1 l_2) fuel (q3, 0)) (fun y => some y) fun _ =>
    some (0 : Int)
theorem c_legal_Check {w0 w : World} {l : List Assn} {ρ : Heap} {q5 : Option Addr} {q21 : Nat} {c_f0_3 : Nat} {q7 : Option Addr} {q22 : Nat} {c_f0_4 : Nat} {q8 : Option Addr} {q23 : Nat} {c_f0_5 : Nat} {q3 : Option Addr} {q1n : Nat} {c_area1 : Nat} {q0c : Option Addr} {q2h : Nat} {c_l_2 : Nat} {f0 : T_floor_Floor} {area1 : List Int} {l_2 : List T_floor_Site} {r : Int} (hF : P_legal_Check f0 area1 l_2 = some r) (q11 : RdS R_floor_Block ρ q5 q21 c_f0_3 f0.Blocks) (q24 : RdS R_floor_Wall ρ q7 q22 c_f0_4 f0.Walls) (q25 : RdS R_floor_Port ρ q8 q23 c_f0_5 f0.Ports) (q9 : RdS (RpI .i64) ρ q3 q1n c_area1 area1) (q20 : RdS R_floor_Site ρ q0c q2h c_l_2 l_2) (hS : St w0 w (ro ρ :: l)) :
  Calls Tryd.prog 12 #[.agg #[.int .i64 f0.Rows, .int .i64 f0.Sites, .int .i64 f0.Layers, .slice q5 q21 c_f0_3, .slice q7 q22 c_f0_4, .slice q8 q23 c_f0_5], .slice q3 q1n c_area1, .slice q0c q2h c_l_2] w fun e w' => e = .returned (.int .i64 r) ∧ St w0 w' (ro ρ :: l) := by
 have e_ := q11.n; subst e_
 have e_ := q24.n; subst e_
 have e_ := q25.n; subst e_
 have e_ := q9.n; subst e_
 have e_ := q20.n; subst e_
 refine enterC Tryd.func12 rfl 144 rfl (by simp) ?_
 refine x_seq <| x_region <| ?_
 refine o_box (cs := [.int .i64 f0.Rows, .int .i64 f0.Sites, .int .i64 f0.Layers, .slice q5 f0.Blocks.length c_f0_3, .slice q7 f0.Walls.length c_f0_4, .slice q8 f0.Ports.length c_f0_5]) rfl rfl hS (fun b3 w' hS => ?_)
 replace hF := bd_s hF; obtain ⟨q19, q3q, hF⟩ := hF
 refine p (yl_assign rfl) <| x_done <| x_seq <| x_seq <|
  x_region <| pa (v := .agg #[.int .i64 f0.Rows, .int .i64 f0.Sites, .int .i64 f0.Layers, .slice q5 f0.Blocks.length c_f0_3, .slice q7 f0.Walls.length c_f0_4, .slice q8 f0.Ports.length c_f0_5]) (ld_sub agg_30 rfl rfl rfl hS) <| ?_
 have hcall := c_floor_Check q3q q11 q24 q25 (hS.pull 1)
 refine o_cc call_10 (args1 rfl) ((Calls.mono hcall (fun e w'' h => And.intro h.1 (h.2.pull 1)))) ?_
 rintro e w' ⟨rfl, hS⟩
 refine ⟨_, rfl, ?_⟩
 refine p (v := .int .i64 q19) (yl_assign rfl) <| x_done <| x_seq <| x_region <|
  p (v := .int .i64 q19) (yl_move rfl) <| p (yl_neq rfl rfl) <| x_done <|
  x_cond_p (q19 ≠ 0) rfl (fun hc19 => ?_) (fun hc19 => ?_)
 ·replace hF := it_t hc19 hF
  refine x_seq <| x_region <| p (v := .int .i64 q19) (yl_move rfl) <| p (v := .int .i64 q19) (yl_assign rfl) <|
   x_done <| ?_
  have e_ := sinj hF; subst e_
  exact x_return ⟨_, ⟨_, _, rfl, rfl, rfl⟩, rfl, hS.drop⟩
 ·replace hF := it_f hc19 hF
  refine x_skip <| x_seq <| x_seq <| x_region <|
   p (yl_move rfl) <| p (yl_len_slice usl_22 rfl) <| p (yl_gtr rfl rfl) <| x_done <|
   x_cond_p (364 < (area1.length : Int)) rfl (fun hc23 => ?_) (fun hc23 => ?_)
  ·replace hF := it_t hc23 hF
   refine x_seq <| x_region <| p (yl_assign rfl) <| x_done <| ?_
   have e_ := sinj hF; subst e_
   exact x_return ⟨_, ⟨_, _, rfl, rfl, rfl⟩, rfl, hS.drop⟩
  ·replace hF := it_f hc23 hF
   refine x_skip <| x_seq <| x_seq <| x_region <|
    p (yl_move rfl) <| p (yl_len_slice usl_37 rfl) <| p (yl_move rfl) <| p (yl_len_slice usl_22 rfl) <|
    p (yl_neq rfl rfl) <| x_done <|
    x_cond_p ((l_2.length : Int) ≠ (area1.length : Int)) rfl (fun hc28 => ?_) (fun hc28 => ?_)
   ·replace hF := it_t hc28 hF
    refine x_seq <| x_region <| p (yl_assign rfl) <| x_done <| ?_
    have e_ := sinj hF; subst e_
    exact x_return ⟨_, ⟨_, _, rfl, rfl, rfl⟩, rfl, hS.drop⟩
   ·replace hF := it_f hc28 hF
    refine x_skip <| x_seq <| x_region <| p (yl_field0 fld_30_0 rfl) <|
     pa (at_load one_3 rfl (hS.cell rfl)) <| ?_
    replace hF := ck_s hF; obtain ⟨q3r, hF⟩ := hF
    replace hF := lv_s hF; obtain ⟨q2, q3s, hF⟩ := hF
    refine o_mk2 (ei := 4) (R := RpB) sl_86 zero_85 (by decide) rfl rfl q3r q3s hS (fun A31 w' hS => ?_)
    refine p (yl_assign rfl) <| x_done <| x_seq <| x_seq <|
     x_region <| p (yl_move rfl) <| p (yl_len_slice usl_86 rfl) <| p (yl_move rfl) <|
     x_done <| ?_
    replace hF := bd_s hF; obtain ⟨oL10, hLL10, hF⟩ := hF
    refine x_join (fun E w => ∃ (q0k : List (List Bool)), q0k = oL10 ∧ E 1 = .slice q3 area1.length c_area1 ∧ E 2 = .slice q0c l_2.length c_l_2 ∧ E 3 = .pointer (some ⟨b3, 0, none⟩) ∧ E 8 = .slice A31 q2.length q2.length ∧ True ∧ St w0 w (cells b3 30 [.int .i64 f0.Rows, .int .i64 f0.Sites, .int .i64 f0.Layers, .slice q5 f0.Blocks.length c_f0_3, .slice q7 f0.Walls.length c_f0_4, .slice q8 f0.Ports.length c_f0_5] :: vec2 85 4 RpB A31 q2.length q2.length q0k :: ro ρ :: l)) ?_ ?_
    ·refine x_block ?_
     refine x_loop (fun k_ E w => ∃ (q0f : List (List Bool)) (q0o : Int), lp (P_legal_Check_L10 f0 q2) k_ (q0f, q0o) = some oL10 ∧ E 1 = .slice q3 area1.length c_area1 ∧ E 2 = .slice q0c l_2.length c_l_2 ∧ E 3 = .pointer (some ⟨b3, 0, none⟩) ∧ E 8 = .slice A31 q2.length q2.length ∧ E 33 = .int .i64 (q2.length : Int) ∧ E 34 = .int .i64 q0o ∧ True ∧ St w0 w (cells b3 30 [.int .i64 f0.Rows, .int .i64 f0.Sites, .int .i64 f0.Layers, .slice q5 f0.Blocks.length c_f0_3, .slice q7 f0.Walls.length c_f0_4, .slice q8 f0.Ports.length c_f0_5] :: vec2 85 4 RpB A31 q2.length q2.length q0f :: ro ρ :: l)) fuel ⟨q2, 0, hLL10, rfl, rfl, rfl, rfl, rfl, rfl, trivial, (((hS.pull 2).pull 1).pull 2)⟩ ?_
     rintro kL10 E w ⟨q0f, q0o, hLL10, q1o, q1p, q14, q15, q1a, q0x, q2s, hS⟩
     replace hLL10 := lp_s hLL10; obtain ⟨kL10, obL10, rfl, hFL10, hLL10⟩ := hLL10
     refine x_seq <| x_region <| p (yl_lss q0x q1a) <| x_done <|
      x_seq <|
      x_cond_p (q0o < (q2.length : Int)) rfl (fun hc35 => ?_) (fun hc35 => ?_)
     ·replace hFL10 := it_t hc35 hFL10
      refine x_skip <| x_seq <| x_block <| x_seq <|
       x_region <| p (yl_move q0x) <| p (yl_assign rfl) <| x_done <|
       x_region <| p (yl_move q15) <| p (yl_move rfl) <| p (yl_field0 fld_30_1 q14) <|
       pa (at_load one_3 rfl (hS.cell rfl)) <| ?_
      replace hFL10 := ck_s hFL10; obtain ⟨q2t, hFL10⟩ := hFL10
      replace hFL10 := lv_s hFL10; obtain ⟨q4c, q2u, hFL10⟩ := hFL10
      refine o_mk sl_85 zero_4 (show RpB.ok ρ _ false from rfl) rfl rfl q2t (by decide) q2u hS (fun A41 cs41 w' hr41 hS => ?_)
      replace hFL10 := ck_s hFL10; obtain ⟨q12, hFL10⟩ := hFL10
      refine p (yix2 sl_86 rfl rfl (hS.pull 2) q12) <| ?_
      replace hFL10 := lv_s hFL10; obtain ⟨q3w, q2i, hFL10⟩ := hFL10
      have q_ := St.open2 q12 (hS.pull 2); obtain ⟨q3x, q3y, q3z, q3t, q0u, hS⟩ := q_
      rw [← q2i] at q0u
      replace q0u := q0u ρ
      have e_ := St.vec_n hS q0u; subst e_
      refine o_put2 sz_85 rfl rfl rfl q12 (hS.pull 1) (fun w' hS => ?_)
      replace hFL10 := lv_s hFL10; obtain ⟨zr4, hzr4, hFL10⟩ := hFL10
      replace hS := St.close2 q12 (fun _ => RepL.flat (fun h => h) hr41) (hS.pull 2)
      rw [← hzr4] at hS
      replace hFL10 := ar_s hFL10; obtain ⟨x43, hx43, hFL10⟩ := hFL10
      refine x_done <| x_blk <| x_region <| p (yadd q0x rfl hx43) <|
       p (yl_move rfl) <| x_done <| ?_
      have e_ := sinj hFL10; subst e_
      exact x_inv ⟨kL10, Nat.lt_succ_self _, zr4, x43, hLL10, q1o, q1p, q14, q15, q1a, rfl, trivial, ((((hS.pull 1).drop.pull 2).pull 1).pull 2)⟩
     ·replace hFL10 := it_f hc35 hFL10
      refine x_exitTo _ rfl <| ?_
      have e_ := sinj hFL10; subst e_
      exact x_inv ⟨q0f, hLL10, q1o, q1p, q14, q15, trivial, (((hS.pull 2).pull 2).pull 2)⟩
    rintro E w ⟨q0k, rfl, q2v, q2w, q26, q2x, q3m, hS⟩
    refine x_seq <| x_seq <| x_region <| p (yl_field0 fld_30_3 q26) <|
     pa (at_load one_26 rfl (hS.cell rfl)) <| p (yl_len_slice usl_26 rfl) <| p (yl_move rfl) <| x_done <| ?_
    replace hF := bd_s hF; obtain ⟨oL15, hLL15, hF⟩ := hF
    refine x_join (fun E w => ∃ (q0l : List (List Bool)), q0l = oL15 ∧ E 1 = .slice q3 area1.length c_area1 ∧ E 2 = .slice q0c l_2.length c_l_2 ∧ E 3 = .pointer (some ⟨b3, 0, none⟩) ∧ E 8 = .slice A31 q2.length q2.length ∧ True ∧ St w0 w (cells b3 30 [.int .i64 f0.Rows, .int .i64 f0.Sites, .int .i64 f0.Layers, .slice q5 f0.Blocks.length c_f0_3, .slice q7 f0.Walls.length c_f0_4, .slice q8 f0.Ports.length c_f0_5] :: vec2 85 4 RpB A31 q2.length q2.length q0l :: ro ρ :: l)) ?_ ?_
    ·refine x_block ?_
     refine x_loop (fun k_ E w => ∃ (q0d : List (List Bool)) (q0e : Int), lp (P_legal_Check_L15 f0) k_ (q0d, q0e) = some oL15 ∧ E 1 = .slice q3 area1.length c_area1 ∧ E 2 = .slice q0c l_2.length c_l_2 ∧ E 3 = .pointer (some ⟨b3, 0, none⟩) ∧ E 8 = .slice A31 q2.length q2.length ∧ E 45 = .slice q5 f0.Blocks.length c_f0_3 ∧ E 46 = .int .i64 (f0.Blocks.length : Int) ∧ E 47 = .int .i64 q0e ∧ True ∧ St w0 w (cells b3 30 [.int .i64 f0.Rows, .int .i64 f0.Sites, .int .i64 f0.Layers, .slice q5 f0.Blocks.length c_f0_3, .slice q7 f0.Walls.length c_f0_4, .slice q8 f0.Ports.length c_f0_5] :: vec2 85 4 RpB A31 q2.length q2.length q0d :: ro ρ :: l)) fuel ⟨q0k, 0, hLL15, q2v, q2w, q26, q2x, rfl, rfl, rfl, trivial, (((hS.pull 2).pull 2).pull 2)⟩ ?_
     rintro kL15 E w ⟨q0d, q0e, hLL15, q1q, q1r, q1s, q1t, q1b, q1c, q0y, q2y, hS⟩
     replace hLL15 := lp_s hLL15; obtain ⟨kL15, obL15, rfl, hFL15, hLL15⟩ := hLL15
     refine x_seq <| x_region <| p (yl_lss q0y q1c) <| x_done <|
      x_seq <|
      x_cond_p (q0e < (f0.Blocks.length : Int)) rfl (fun hc48 => ?_) (fun hc48 => ?_)
     ·replace hFL15 := it_t hc48 hFL15
      replace hFL15 := ck_s hFL15; obtain ⟨q27, hFL15⟩ := hFL15
      replace hFL15 := lv_s hFL15; obtain ⟨q0b, q2z, hFL15⟩ := hFL15
      have q_ := q11.get q27; obtain ⟨q40, q28, q30⟩ := q_
      rw [← q2z] at q28
      have e_ := q28; subst e_
      refine x_skip <| x_seq <| x_block <| x_seq <|
       x_region <| p (yix_f sl_26 q1b q0y q11 q27) <| pa (v := .agg #[.int .i64 q0b.Row, .int .i64 q0b.From, .int .i64 q0b.To]) (at_loadAgg agg_68 rfl rfl (Elt.every q30 (hS.pull 2))) <| ?_
      refine o_alloc zero_68 hS (fun b11 w' hS => ?_)
      refine o_storeAgg (news := [.int .i64 q0b.Row, .int .i64 q0b.From, .int .i64 q0b.To]) agg_68 rfl rfl rfl (by simp [over_length]) hS (fun w' hS => ?_)
      refine x_done <| x_seq <| x_region <| p (yl_field0 fld_68_1 rfl) <|
       pa (at_load one_3 rfl (hS.cell rfl)) <| p (yl_assign rfl) <| x_done <| ?_
      replace hFL15 := bd_s hFL15; obtain ⟨oL18, hLL18, hFL15⟩ := hFL15
      refine x_join (fun E w => ∃ (q0m : List (List Bool)), q0m = oL18 ∧ E 1 = .slice q3 area1.length c_area1 ∧ E 2 = .slice q0c l_2.length c_l_2 ∧ E 3 = .pointer (some ⟨b3, 0, none⟩) ∧ E 8 = .slice A31 q2.length q2.length ∧ E 45 = .slice q5 f0.Blocks.length c_f0_3 ∧ E 46 = .int .i64 (f0.Blocks.length : Int) ∧ E 47 = .int .i64 q0e ∧ True ∧ St w0 w (cells b3 30 [.int .i64 f0.Rows, .int .i64 f0.Sites, .int .i64 f0.Layers, .slice q5 f0.Blocks.length c_f0_3, .slice q7 f0.Walls.length c_f0_4, .slice q8 f0.Ports.length c_f0_5] :: vec2 85 4 RpB A31 q2.length q2.length q0m :: ro ρ :: l)) ?_ ?_
      ·refine x_block ?_
       refine x_loop (fun k_ E w => ∃ (q0g : List (List Bool)) (q0p : Int), lp (P_legal_Check_L18 q0b) k_ (q0g, q0p) = some oL18 ∧ E 1 = .slice q3 area1.length c_area1 ∧ E 2 = .slice q0c l_2.length c_l_2 ∧ E 3 = .pointer (some ⟨b3, 0, none⟩) ∧ E 8 = .slice A31 q2.length q2.length ∧ E 11 = .pointer (some ⟨b11, 0, none⟩) ∧ E 12 = .int .i64 q0p ∧ E 45 = .slice q5 f0.Blocks.length c_f0_3 ∧ E 46 = .int .i64 (f0.Blocks.length : Int) ∧ E 47 = .int .i64 q0e ∧ True ∧ St w0 w (cells b3 30 [.int .i64 f0.Rows, .int .i64 f0.Sites, .int .i64 f0.Layers, .slice q5 f0.Blocks.length c_f0_3, .slice q7 f0.Walls.length c_f0_4, .slice q8 f0.Ports.length c_f0_5] :: vec2 85 4 RpB A31 q2.length q2.length q0g :: cells b11 68 [.int .i64 q0b.Row, .int .i64 q0b.From, .int .i64 q0b.To] :: ro ρ :: l)) fuel ⟨q0d, q0b.From, hLL18, q1q, q1r, q1s, q1t, rfl, rfl, q1b, q1c, q0y, trivial, ((((hS.pull 3).pull 1).pull 3).pull 3)⟩ ?_
       rintro kL18 E w ⟨q0g, q0p, hLL18, q1u, q1v, q1w, q16, q0z, q10, q1d, q1e, q1f, q31, hS⟩
       replace hLL18 := lp_s hLL18; obtain ⟨kL18, obL18, rfl, hFL18, hLL18⟩ := hLL18
       refine x_seq <| x_seq <| x_region <| p (yl_move q10) <|
        p (yl_field0 fld_68_2 q0z) <| pa (at_load one_3 rfl ((hS.pull 2).cell rfl)) <| p (yl_lss rfl rfl) <| x_done <|
        x_cond_p (q0p < q0b.To) rfl (fun hc56 => ?_) (fun hc56 => ?_)
       ·replace hFL18 := it_t hc56 hFL18
        replace hFL18 := ck_s hFL18; obtain ⟨q1g, hFL18⟩ := hFL18
        refine x_skip <| x_seq <| x_block <| x_region <|
         p (yl_move q16) <| p (yl_field0 fld_68_0 q0z) <| pa (at_load one_3 rfl ((hS.pull 2).cell rfl)) <| p (yix2 sl_86 rfl rfl (hS.pull 1) q1g) <| ?_
        replace hFL18 := lv_s hFL18; obtain ⟨q41, q2j, hFL18⟩ := hFL18
        have q_ := St.open2 q1g (hS.pull 1); obtain ⟨q42, q43, q44, q3u, q0j, hS⟩ := q_
        rw [← q2j] at q0j
        replace q0j := q0j ρ
        have e_ := St.vec_n hS q0j; subst e_
        replace hFL18 := ck_s hFL18; obtain ⟨q29, hFL18⟩ := hFL18
        refine pa (at_load one_85 rfl (hole_cell (hS.pull 1))) <| p (yl_move q10) <| p (yix_o sl_85 rfl rfl hS q0j q29) <| ?_
        replace hFL18 := lv_s hFL18; obtain ⟨q4d, q32, hFL18⟩ := hFL18
        refine o_put' (news := [.bool true]) sz_4 rfl rfl rfl rfl (o := 0) rfl q29 rfl hS q0j (Le.refl _) (fun c hc => ok_all hc (show RpB.ok ρ [.bool true] true from rfl)) q32 (fun q45 w' q33 hS => ?_)
        replace hFL18 := ar_s hFL18; obtain ⟨x58, hx58, hFL18⟩ := hFL18
        refine x_done <| x_blk <| x_region <| p (yl_move q10) <|
         p (yadd rfl rfl hx58) <| p (yl_assign rfl) <| x_done <| ?_
        replace hFL18 := lv_s hFL18; obtain ⟨zr8, hzr8, hFL18⟩ := hFL18
        replace hS := St.close2 q1g (fun _ => RepL.flat (fun h => h) q33) ((hS.pull 1).pull 1)
        rw [← hzr8] at hS
        have e_ := sinj hFL18; subst e_
        exact x_inv ⟨kL18, Nat.lt_succ_self _, zr8, x58, hLL18, q1u, q1v, q1w, q16, q0z, rfl, q1d, q1e, q1f, trivial, ((((hS.pull 3).pull 3).pull 2).pull 3)⟩
       ·replace hFL18 := it_f hc56 hFL18
        refine x_exitTo _ rfl <| ?_
        have e_ := sinj hFL18; subst e_
        exact x_inv ⟨q0g, hLL18, q1u, q1v, q1w, q16, q1d, q1e, q1f, trivial, ((((hS.pull 2).drop.pull 2).pull 2).pull 2)⟩
      rintro E w ⟨q0m, rfl, q34, q35, q36, q37, q2k, q2l, q2m, q3n, hS⟩
      replace hFL15 := ar_s hFL15; obtain ⟨x66, hx66, hFL15⟩ := hFL15
      refine x_blk <| x_region <| p (yadd q2m rfl hx66) <| p (yl_move rfl) <|
       x_done <| ?_
      have e_ := sinj hFL15; subst e_
      exact x_inv ⟨kL15, Nat.lt_succ_self _, q0m, x66, hLL15, q34, q35, q36, q37, q2k, q2l, rfl, trivial, (((hS.pull 2).pull 2).pull 2)⟩
     ·replace hFL15 := it_f hc48 hFL15
      refine x_exitTo _ rfl <| ?_
      have e_ := sinj hFL15; subst e_
      exact x_inv ⟨q0d, hLL15, q1q, q1r, q1s, q1t, trivial, (((hS.pull 2).pull 2).pull 2)⟩
    rintro E w ⟨q0l, rfl, q38, q39, q3a, q3b, q3o, hS⟩
    refine x_seq <| x_seq <| x_region <| p (yl_move q39) <|
     p (yl_len_slice usl_37 rfl) <| p (yl_move rfl) <| x_done <| ?_
    replace hF := bs_s hF; obtain ⟨oL23, hLL23, hF⟩ := hF
    refine x_join (fun E w => (Sum.inl (())) = oL23 ∧ St w0 w (ro ρ :: l)) ?_ ?_
    ·refine x_block ?_
     refine x_loop (fun k_ E w => ∃ (q0h : List (List Bool)) (q4 : Int), lp (P_legal_Check_L23 f0 area1 l_2) k_ (q0h, q4) = some oL23 ∧ E 1 = .slice q3 area1.length c_area1 ∧ E 3 = .pointer (some ⟨b3, 0, none⟩) ∧ E 8 = .slice A31 q2.length q2.length ∧ E 67 = .slice q0c l_2.length c_l_2 ∧ E 68 = .int .i64 (l_2.length : Int) ∧ E 69 = .int .i64 q4 ∧ True ∧ St w0 w (cells b3 30 [.int .i64 f0.Rows, .int .i64 f0.Sites, .int .i64 f0.Layers, .slice q5 f0.Blocks.length c_f0_3, .slice q7 f0.Walls.length c_f0_4, .slice q8 f0.Ports.length c_f0_5] :: vec2 85 4 RpB A31 q2.length q2.length q0h :: ro ρ :: l)) fuel ⟨q0l, 0, hLL23, q38, q3a, q3b, rfl, rfl, rfl, trivial, (((hS.pull 2).pull 2).pull 2)⟩ ?_
     rintro kL23 E w ⟨q0h, q4, hLL23, q0v, q17, q2n, q1h, q1i, q0q, q3c, hS⟩
     replace hLL23 := lp_s hLL23; obtain ⟨kL23, obL23, rfl, hFL23, hLL23⟩ := hLL23
     refine x_seq <| x_region <| p (yl_lss q0q q1i) <| x_done <|
      x_seq <|
      x_cond_p (q4 < (l_2.length : Int)) rfl (fun hc70 => ?_) (fun hc70 => ?_)
     ·replace hFL23 := it_t hc70 hFL23
      replace hFL23 := ck_s hFL23; obtain ⟨q2a, hFL23⟩ := hFL23
      replace hFL23 := lv_s hFL23; obtain ⟨q6, q3d, hFL23⟩ := hFL23
      have q_ := q20.get q2a; obtain ⟨q46, q2b, q3e⟩ := q_
      rw [← q3d] at q2b
      have e_ := q2b; subst e_
      refine x_skip <| x_seq <| x_block <| x_seq <|
       x_region <| p (yl_move q0q) <| p (yix_f sl_37 q1h q0q q20 q2a) <| pa (v := .agg #[.int .i64 q6.Row, .int .i64 q6.At]) (at_loadAgg agg_88 rfl rfl (Elt.every q3e (hS.pull 2))) <| ?_
      refine o_alloc zero_88 hS (fun b14 w' hS => ?_)
      refine p (yl_assign rfl) <| ?_
      refine o_storeAgg (news := [.int .i64 q6.Row, .int .i64 q6.At]) agg_88 rfl rfl rfl (by simp [over_length]) hS (fun w' hS => ?_)
      replace hFL23 := ck_s hFL23; obtain ⟨q2c, hFL23⟩ := hFL23
      replace hFL23 := lv_s hFL23; obtain ⟨x77, hx77, hFL23⟩ := hFL23
      replace hFL23 := ck_s hFL23; obtain ⟨q2d, hFL23⟩ := hFL23
      replace hFL23 := lv_s hFL23; obtain ⟨x85, hx85, hFL23⟩ := hFL23
      replace hFL23 := lv_s hFL23; obtain ⟨x90, hx90, hFL23⟩ := hFL23
      replace hFL23 := lv_s hFL23; obtain ⟨x97, hx97, hFL23⟩ := hFL23
      replace hFL23 := lv_s hFL23; obtain ⟨x102, hx102, hFL23⟩ := hFL23
      replace hFL23 := ck_s hFL23; obtain ⟨q1x, hFL23⟩ := hFL23
      replace hFL23 := ck_s hFL23; obtain ⟨q2o, hFL23⟩ := hFL23
      replace hFL23 := lv_s hFL23; obtain ⟨x112, hx112, hFL23⟩ := hFL23
      replace hFL23 := lv_s hFL23; obtain ⟨x114, hx114, hFL23⟩ := hFL23
      refine x_done <| x_seq <| x_seq <| x_still mixed (by kernel_rfl) hS <|
       q (yl_move q0v) <| q (yl_move rfl) <| q (yix_f sl_22 rfl rfl q9 q2c) <| qa (fun w' hS => at_load one_3 rfl (RdS.getW q9 (hS.pull 3) q2c hx77)) <|
       q (yl_lss rfl rfl) <| q (yl_move rfl) <| qg (v := .slice q3 area1.length c_area1) 79 (c := !(decide (x77 < 1))) (says_f _) (fun hq w' hS => Yl.at (yl_move q0v)) <| qg (v := .int .i64 q4) 79 (c := !(decide (x77 < 1))) (says_f _) (fun hq w' hS => Yl.at (yl_move rfl)) <|
       qg (v := .pointer (some ((adr q3).add (q4.toNat * (RpI .i64).sz)))) 79 (c := !(decide (x77 < 1))) (says_f _) (fun hq w' hS => Yl.at (yix_f sl_22 (cv hq) (cv hq) q9 (q2d hq))) <| qg (v := .int .i64 x77) 79 (c := !(decide (x77 < 1))) (says_f _) (fun hq w' hS => at_load one_3 (cv hq) (RdS.getW q9 (hS.pull 3) (q2d hq) hx77)) <| qg (v := .bool (decide (40 < x77))) 79 (c := !(decide (x77 < 1))) (says_f _) (fun hq w' hS => Yl.at (yl_gtr (cv hq) rfl)) <| q (yor' rfl rfl (fun hc => (cv (t_not hc))) hx85) <|
       q (yl_move rfl) <| qg (v := .pointer (some ⟨b14, 0, none⟩)) 86 (c := !x85) (says_f _) (fun hq w' hS => Yl.at (yl_field0 fld_88_0 rfl)) <| qg (v := .int .i64 q6.Row) 86 (c := !x85) (says_f _) (fun hq w' hS => at_load one_3 (cv hq) (hS.cell rfl)) <| qg (v := .bool (decide (q6.Row < 0))) 86 (c := !x85) (says_f _) (fun hq w' hS => Yl.at (yl_lss (cv hq) rfl)) <|
       q (yor' rfl rfl (fun hc => (cv (t_not hc))) hx90) <| q (yl_move rfl) <| qg (v := .pointer (some ⟨b14, 0, none⟩)) 91 (c := !x90) (says_f _) (fun hq w' hS => Yl.at (yl_field0 fld_88_0 rfl)) <| qg (v := .int .i64 q6.Row) 91 (c := !x90) (says_f _) (fun hq w' hS => at_load one_3 (cv hq) (hS.cell rfl)) <|
       qg (v := .pointer (some ⟨b3, 0, none⟩)) 91 (c := !x90) (says_f _) (fun hq w' hS => Yl.at (yl_field0 fld_30_0 q17)) <| qg (v := .int .i64 f0.Rows) 91 (c := !x90) (says_f _) (fun hq w' hS => at_load one_3 (cv hq) ((hS.pull 1).cell rfl)) <| qg (v := .bool (decide (f0.Rows ≤ q6.Row))) 91 (c := !x90) (says_f _) (fun hq w' hS => Yl.at (yl_geq (cv hq) (cv hq))) <| q (yor' rfl rfl (fun hc => (cv (t_not hc))) hx97) <|
       q (yl_move rfl) <| qg (v := .pointer (some ⟨b14, 1, none⟩)) 98 (c := !x97) (says_f _) (fun hq w' hS => Yl.at (yl_field0 fld_88_1 rfl)) <| qg (v := .int .i64 q6.At) 98 (c := !x97) (says_f _) (fun hq w' hS => at_load one_3 (cv hq) (hS.cell rfl)) <| qg (v := .bool (decide (q6.At < 0))) 98 (c := !x97) (says_f _) (fun hq w' hS => Yl.at (yl_lss (cv hq) rfl)) <|
       q (yor' rfl rfl (fun hc => (cv (t_not hc))) hx102) <| q (yl_move rfl) <| qg (v := .pointer (some ⟨b14, 1, none⟩)) 103 (c := !x102) (says_f _) (fun hq w' hS => Yl.at (yl_field0 fld_88_1 rfl)) <| qg (v := .int .i64 q6.At) 103 (c := !x102) (says_f _) (fun hq w' hS => at_load one_3 (cv hq) (hS.cell rfl)) <|
       qg (v := .pointer (some ⟨b3, 1, none⟩)) 103 (c := !x102) (says_f _) (fun hq w' hS => Yl.at (yl_field0 fld_30_1 q17)) <| qg (v := .int .i64 f0.Sites) 103 (c := !x102) (says_f _) (fun hq w' hS => at_load one_3 (cv hq) ((hS.pull 1).cell rfl)) <| qg (v := .slice q3 area1.length c_area1) 103 (c := !x102) (says_f _) (fun hq w' hS => Yl.at (yl_move q0v)) <| qg (v := .int .i64 q4) 103 (c := !x102) (says_f _) (fun hq w' hS => Yl.at (yl_move rfl)) <|
       qg (v := .pointer (some ((adr q3).add (q4.toNat * (RpI .i64).sz)))) 103 (c := !x102) (says_f _) (fun hq w' hS => Yl.at (yix_f sl_22 (cv hq) (cv hq) q9 (q1x hq))) <| qg (v := .int .i64 x77) 103 (c := !x102) (says_f _) (fun hq w' hS => at_load one_3 (cv hq) (RdS.getW q9 (hS.pull 3) (q1x hq) hx77)) <| qg (v := .int .i64 x112) 103 (c := !x102) (says_f _) (fun hq w' hS => Yl.at (ysub (cv hq) (cv hq) ⟨hx112, (q2o hq)⟩)) <| qg (v := .bool (decide (x112 < q6.At))) 103 (c := !x102) (says_f _) (fun hq w' hS => Yl.at (yl_gtr (cv hq) (cv hq))) <|
       q (yor' rfl rfl (fun hc => (cv (t_not hc))) hx114) <|
       q_done fun w' hS => ?_
      refine x_cond (t := x114) rfl (fun hc114 => ?_) (fun hc114 => ?_)
      ·replace hFL23 := it_t hc114 hFL23
       refine x_seq <| x_region <| p (yl_assign rfl) <| x_done <| ?_
       have e_ := sinj hFL23; subst e_
       have e_ := (show _ = oL23 from hLL23); subst e_
       have e_ := sinj hF; subst e_
       exact x_return ⟨_, ⟨_, _, rfl, rfl, rfl⟩, rfl, hS.drop.drop.drop⟩
      ·replace hFL23 := it_bf hc114 hFL23
       refine x_skip <| x_seq <| x_region <| p (yl_field0 fld_88_1 rfl) <|
        pa (at_load one_3 rfl (hS.cell rfl)) <| p (yl_assign rfl) <| x_done <| ?_
       replace hFL23 := bs_s hFL23; obtain ⟨oL28, hLL28, hFL23⟩ := hFL23
       refine x_join (fun E w => ∃ (q0n : List (List Bool)), (Sum.inl q0n) = oL28 ∧ E 1 = .slice q3 area1.length c_area1 ∧ E 3 = .pointer (some ⟨b3, 0, none⟩) ∧ E 8 = .slice A31 q2.length q2.length ∧ E 67 = .slice q0c l_2.length c_l_2 ∧ E 68 = .int .i64 (l_2.length : Int) ∧ E 69 = .int .i64 q4 ∧ True ∧ St w0 w (cells b3 30 [.int .i64 f0.Rows, .int .i64 f0.Sites, .int .i64 f0.Layers, .slice q5 f0.Blocks.length c_f0_3, .slice q7 f0.Walls.length c_f0_4, .slice q8 f0.Ports.length c_f0_5] :: vec2 85 4 RpB A31 q2.length q2.length q0n :: ro ρ :: l)) ?_ ?_
       ·refine x_block ?_
        refine x_loop (fun k_ E w => ∃ (q0i : List (List Bool)) (q0r : Int), lp (P_legal_Check_L28 area1 q6 x77 q4) k_ (q0i, q0r) = some oL28 ∧ E 1 = .slice q3 area1.length c_area1 ∧ E 3 = .pointer (some ⟨b3, 0, none⟩) ∧ E 8 = .slice A31 q2.length q2.length ∧ E 13 = .int .i64 q4 ∧ E 14 = .pointer (some ⟨b14, 0, none⟩) ∧ E 15 = .int .i64 q0r ∧ E 67 = .slice q0c l_2.length c_l_2 ∧ E 68 = .int .i64 (l_2.length : Int) ∧ E 69 = .int .i64 q4 ∧ True ∧ St w0 w (cells b3 30 [.int .i64 f0.Rows, .int .i64 f0.Sites, .int .i64 f0.Layers, .slice q5 f0.Blocks.length c_f0_3, .slice q7 f0.Walls.length c_f0_4, .slice q8 f0.Ports.length c_f0_5] :: vec2 85 4 RpB A31 q2.length q2.length q0i :: cells b14 88 [.int .i64 q6.Row, .int .i64 q6.At] :: ro ρ :: l)) fuel ⟨q0h, q6.At, hLL28, q0v, q17, q2n, rfl, rfl, rfl, q1h, q1i, q0q, trivial, ((((hS.pull 3).pull 1).pull 3).pull 3)⟩ ?_
        rintro kL28 E w ⟨q0i, q0r, hLL28, q18, q1y, q0w, q1j, q0s, q0t, q1k, q1l, q1m, q3f, hS⟩
        replace hLL28 := lp_s hLL28; obtain ⟨kL28, obL28, rfl, hFL28, hLL28⟩ := hLL28
        replace hFL28 := ck_s hFL28; obtain ⟨q2e, hFL28⟩ := hFL28
        replace hFL28 := ar_s hFL28; obtain ⟨x124, hx124, hFL28⟩ := hFL28
        refine x_seq <| x_seq <| x_still mixed (by kernel_rfl) hS <| q (yl_move q0t) <|
         q (yl_field0 fld_88_1 q0s) <| qa (fun w' hS => at_load one_3 rfl ((hS.pull 2).cell rfl)) <| q (yl_move q18) <| q (yl_move q1j) <|
         q (yix_f sl_22 rfl rfl q9 q2e) <| qa (fun w' hS => at_load one_3 rfl (RdS.getW q9 (hS.pull 3) q2e hx77)) <| q (yadd rfl rfl hx124) <| q (yl_lss rfl rfl) <|
         q_done fun w' hS => ?_
        refine x_cond_p (q0r < x124) rfl (fun hc125 => ?_) (fun hc125 => ?_)
        ·replace hFL28 := it_t hc125 hFL28
         replace hFL28 := ck_s hFL28; obtain ⟨q13, hFL28⟩ := hFL28
         refine x_skip <| x_seq <| x_block <| x_seq <|
          x_seq <| x_region <| p (yl_move q0w) <| p (yl_field0 fld_88_0 q0s) <|
          pa (at_load one_3 rfl ((hS.pull 2).cell rfl)) <| p (yix2 sl_86 rfl rfl (hS.pull 1) q13) <| ?_
         replace hFL28 := lv_s hFL28; obtain ⟨q47, q1z, hFL28⟩ := hFL28
         have q_ := St.open2 q13 (hS.pull 1); obtain ⟨q48, q49, q4a, q3v, q0a, hS⟩ := q_
         rw [← q1z] at q0a
         replace q0a := q0a ρ
         have e_ := St.vec_n hS q0a; subst e_
         replace hFL28 := ck_s hFL28; obtain ⟨q2f, hFL28⟩ := hFL28
         replace hFL28 := lv_s hFL28; obtain ⟨x135, hx135, hFL28⟩ := hFL28
         refine pa (at_load one_85 rfl (hole_cell (hS.pull 1))) <| p (yl_move q0t) <| p (yix_o sl_85 rfl rfl hS q0a q2f) <| pa (at_load one_4 rfl (RepL.getW q0a hS q2f hx135)) <|
          x_done <|
          x_cond (t := x135) rfl (fun hc135 => ?_) (fun hc135 => ?_)
         ·replace hFL28 := it_t hc135 hFL28
          refine x_seq <| x_region <| p (yl_assign rfl) <| x_done <| ?_
          replace hS := St.close2s q1z q13 (fun _ => RepL.flat (fun h => h) q0a) ((hS.pull 1).pull 1)
          have e_ := sinj hFL28; subst e_
          have e_ := (show _ = oL28 from hLL28); subst e_
          have e_ := sinj hFL23; subst e_
          have e_ := (show _ = oL23 from hLL23); subst e_
          have e_ := sinj hF; subst e_
          exact x_return ⟨_, ⟨_, _, rfl, rfl, rfl⟩, rfl, hS.drop.drop.drop⟩
         ·replace hFL28 := it_bf hc135 hFL28
          replace hFL28 := ck_s hFL28; obtain ⟨q3g, hFL28⟩ := hFL28
          replace hFL28 := ck_s hFL28; obtain ⟨q2g, hFL28⟩ := hFL28
          refine x_skip <| x_region <| p (yl_move q0w) <| p (yl_field0 fld_88_0 q0s) <|
           pa (at_load one_3 rfl ((hS.pull 3).cell rfl)) <| p (yix2h sl_86 rfl rfl (hS.pull 1) q3g) <| pa (at_load one_85 rfl (hole_cell (hS.pull 1))) <| p (yl_move q0t) <|
           p (yix_o sl_85 rfl rfl hS q0a q2g) <| ?_
          replace hFL28 := lv_s hFL28; obtain ⟨q4e, q3h, hFL28⟩ := hFL28
          refine o_put' (news := [.bool true]) sz_4 rfl rfl rfl rfl (o := 0) rfl q2g rfl hS q0a (Le.refl _) (fun c hc => ok_all hc (show RpB.ok ρ [.bool true] true from rfl)) q3h (fun q4b w' q3i hS => ?_)
          replace hFL28 := ar_s hFL28; obtain ⟨x127, hx127, hFL28⟩ := hFL28
          refine x_done <| x_blk <| x_region <| p (yl_move q0t) <|
           p (yadd rfl rfl hx127) <| p (yl_assign rfl) <| x_done <| ?_
          replace hFL28 := lv_s hFL28; obtain ⟨zr17, hzr17, hFL28⟩ := hFL28
          replace hS := St.close2 q13 (fun _ => RepL.flat (fun h => h) q3i) ((hS.pull 1).pull 1)
          rw [← hzr17] at hS
          have e_ := sinj hFL28; subst e_
          exact x_inv ⟨kL28, Nat.lt_succ_self _, zr17, x127, hLL28, q18, q1y, q0w, q1j, q0s, rfl, q1k, q1l, q1m, trivial, ((((hS.pull 3).pull 3).pull 2).pull 3)⟩
        ·replace hFL28 := it_f hc125 hFL28
         refine x_exitTo _ rfl <| ?_
         have e_ := sinj hFL28; subst e_
         exact x_inv ⟨q0i, hLL28, q18, q1y, q0w, q1k, q1l, q1m, trivial, ((((hS.pull 2).drop.pull 2).pull 2).pull 2)⟩
       rintro E w ⟨q0n, rfl, q3j, q3k, q3l, q2p, q2q, q2r, q3p, hS⟩
       replace hFL23 := ar_s hFL23; obtain ⟨x143, hx143, hFL23⟩ := hFL23
       refine x_blk <| x_region <| p (yadd q2r rfl hx143) <| p (yl_move rfl) <|
        x_done <| ?_
       have e_ := sinj hFL23; subst e_
       exact x_inv ⟨kL23, Nat.lt_succ_self _, q0n, x143, hLL23, q3j, q3k, q3l, q2p, q2q, rfl, trivial, (((hS.pull 2).pull 2).pull 2)⟩
     ·replace hFL23 := it_f hc70 hFL23
      refine x_exitTo _ rfl <| ?_
      have e_ := sinj hFL23; subst e_
      exact x_inv ⟨hLL23, hS.drop.drop⟩
    rintro E w ⟨rfl, hS⟩
    refine x_seq <| x_region <| p (yl_assign rfl) <| x_done <| ?_
    have e_ := sinj hF; subst e_
    exact x_return ⟨_, ⟨_, _, rfl, rfl, rfl⟩, rfl, hS⟩
attribute [irreducible] P_legal_Check

def P_maskkeep4_LegalPlaces_L8 (l_0 : List Int) (q0d : (Int × Int)) : (List T_floor_Point × List Int × Int × Int × Int × Int) → Option ((List T_floor_Point × List Int × Int × Int × Int × Int) ⊕ (List T_floor_Point × List Int × Int × Int)) := fun (q3, q4, q6, q5, q7, q8) =>
 if q7 < q0d.1 then
  bd (P_maskmake_Stream_Range (T_maskmake_Stream.mk l_0 q8) (-10) 60) fun q0a =>
  bd (P_maskmake_Stream_Range (T_maskmake_Stream.mk l_0 q0a.2) (-10) 40) fun q0b =>
  lv (q3 ++ [(T_floor_Point.mk q0a.1 q0b.1)]) fun q0c =>
  ck (apOk 16 q0c.length) <|
  bd (P_maskmake_Stream_Range (T_maskmake_Stream.mk l_0 q0b.2) 1 3) fun q9 =>
  lv (q4 ++ [q9.1]) fun q2 =>
  ck (apOk 8 q2.length) <|
  ar ((q2.length : Int) - 1) fun x43 =>
  ck (inb x43 q2.length) <|
  lv (gt q2 x43) fun x45 =>
  ar (q6 + x45) fun x46 =>
  ar ((q2.length : Int) - 1) fun x51 =>
  ck (inb x51 q2.length) <|
  lv (gt q2 x51) fun x53 =>
  lv (max q5 x53) fun x54 =>
  ar (q7 + 1) fun x55 =>
  some (Sum.inl (q0c, q2, x46, x54, x55, q9.2))
 else
  some (Sum.inr (q3, q4, q6, q5))
def P_maskkeep4_LegalPlaces_L21 (q5 : List T_floor_Span) : (Int × Int × Int) → Option ((Int × Int × Int) ⊕ (Int × Int)) := fun (q3, q4, q2) =>
 if q2 < (q5.length : Int) then
  ck (inb q2 q5.length) <|
  lv (gt q5 q2) fun q6 =>
  ar (q3 + 1) fun x84 =>
  ar (q4 + q6.To) fun x88 =>
  ar (x88 - q6.From) fun x91 =>
  ar (q2 + 1) fun x92 =>
  some (Sum.inl (x84, x91, x92))
 else
  some (Sum.inr (q3, q4))
def P_maskkeep4_LegalPlaces_L18 (q5 : (T_floor_Floor × Int)) : (Int × Int × Int) → Option ((Int × Int × Int) ⊕ (Int × Int)) := fun (q2, q3, q4) =>
 if q4 < q5.1.Rows then
  bd (P_floor_Free_2 (T_floor_Floor.mk q5.1.Rows q5.1.Sites q5.1.Layers q5.1.Blocks q5.1.Walls []) q4) fun q8 =>
  bd (
   lp (P_maskkeep4_LegalPlaces_L21 q8) fuel (q2, q3, 0)) fun (q6, q7) =>
  ar (q4 + 1) fun x93 =>
  some (Sum.inl (q6, q7, x93))
 else
  some (Sum.inr (q2, q3))
def P_maskkeep4_LegalPlaces (l_0 : List Int) : Option Bool :=
 bd (P_maskmake_Stream_Floor (T_maskmake_Stream.mk l_0 0)) fun q2 =>
 bd (P_maskmake_Stream_Next (T_maskmake_Stream.mk l_0 q2.2) 30) fun q0b =>
 bd (
  lp (P_maskkeep4_LegalPlaces_L8 l_0 q0b) fuel ([], [], 0, 1, 0, q0b.2)) fun (q7, q4, q0a, q8) =>
 bd (P_legal_Place q7 q4 (T_floor_Floor.mk q2.1.Rows q2.1.Sites q2.1.Layers q2.1.Blocks q2.1.Walls [])) fun q3 =>
 bd (P_maskkeep4_rows) fun q9 =>
 bd (gd (!(!q9)) (P_floor_Check_2 (T_floor_Floor.mk q2.1.Rows q2.1.Sites q2.1.Layers q2.1.Blocks q2.1.Walls []))) fun q0c =>
 lv ((!q9) || (decide (q0c ≠ 0))) fun x69 =>
 if x69 = true then
  some false
 else
  bd (
   lp (P_maskkeep4_LegalPlaces_L18 q2) fuel (0, 0, 0)) fun (q5, q6) =>
  if q3.2 = 14 then
   ar (q8 - 1) fun x99 =>
   ar (q5 * x99) fun x100 =>
   ar (q0a + x100) fun x101 =>
   lv ((decide (q6 < x101)) && (decide ((q3.1.length : Int) = 0))) fun x108 =>
   some x108
  else
   bd (gd (decide (q3.2 = 0)) (P_legal_Check (T_floor_Floor.mk q2.1.Rows q2.1.Sites q2.1.Layers q2.1.Blocks q2.1.Walls []) q4 q3.1)) fun q0d =>
   lv ((decide (q3.2 = 0)) && (decide (q0d = 0))) fun x117 =>
   some x117
theorem c_maskkeep4_LegalPlaces {w0 w : World} {l : List Assn} {ρ : Heap} {q1e : Option Addr} {q2v : Nat} {c_l_0 : Nat} {l_0 : List Int} {r : Bool} (hF : P_maskkeep4_LegalPlaces l_0 = some r) (q1f : RdS (RpI .i64) ρ q1e q2v c_l_0 l_0) (hS : St w0 w (ro ρ :: l)) :
  Calls Tryd.prog 3 #[.slice q1e q2v c_l_0] w fun e w' => e = .returned (.bool r) ∧ St w0 w' (ro ρ :: l) := by
 have e_ := q1f.n; subst e_
 refine enterC Tryd.func3 rfl 118 rfl (by simp) ?_
 refine x_seq <| x_region <| p (yl_assign rfl) <| x_done <|
  x_seq <| x_region <| p (yl_move rfl) <| p (v := .agg #[.slice q1e l_0.length c_l_0, .int .i64 0]) (yl_build bld_25 bldf_25 (parts_eq (pt (va := .slice q1e l_0.length c_l_0) rfl pt0)) (by kernel_rfl)) <| ?_
 refine o_box (cs := [.slice q1e l_0.length c_l_0, .int .i64 0]) rfl rfl hS (fun b18 w' hS => ?_)
 replace hF := bd_s hF; obtain ⟨q2, q3x, hF⟩ := hF
 refine p (yl_assign rfl) <| x_done <| x_seq <| x_region <|
  p (yl_move rfl) <| ?_
 have hcall := c_maskmake_Stream_Floor q3x q1f ((hS.pull 1).pull 1)
 refine o_cc call_5 (args1 rfl) hcall ?_
 rintro e w' ⟨q3, q31, c_y0_ret_3_2_1, q9, q4, q32, c_y0_ret_4_2_1, q0a, q1r, q33, c_y0_ret_5_2_1, q2w, rfl, q0c, q0d, q1s, hS⟩
 refine ⟨_, rfl, ?_⟩
 have e_ := St.vec_n hS q0c; subst e_
 have e_ := St.vec_n (hS.pull 1) q0d; subst e_
 have e_ := St.vec_n (hS.pull 2) q1s; subst e_
 refine o_alloc zero_30 hS (fun b4 w' hS => ?_)
 refine o_storeAgg (news := [.int .i64 q2.1.Rows, .int .i64 q2.1.Sites, .int .i64 q2.1.Layers, .slice q3 q2.1.Blocks.length c_y0_ret_3_2_1, .slice q4 q2.1.Walls.length c_y0_ret_4_2_1, .slice q1r q2.1.Ports.length c_y0_ret_5_2_1]) agg_30 rfl rfl rfl (by simp [over_length]) hS (fun w' hS => ?_)
 refine x_done <| x_seq <| x_region <| p (yl_field0 fld_30_5 rfl) <| ?_
 refine o_store1 (v := .slice none 0 0) one_28 rfl rfl rfl rfl hS (fun w' hS => ?_)
 replace hF := bd_s hF; obtain ⟨q2k, q3y, hF⟩ := hF
 refine x_done <| x_seq <| x_region <| p (yl_assign rfl) <|
  x_done <| x_seq <| x_region <| p (yl_assign rfl) <|
  x_done <| x_seq <| x_region <| p (yl_assign rfl) <|
  p (yl_assign rfl) <| x_done <| x_seq <| x_seq <|
  x_region <| p (yl_move rfl) <| ?_
 have hcall := c_maskmake_Stream_Next q3y q1f ((hS.pull 5).pull 5)
 refine o_cc call_6 (args2 rfl rfl) hcall ?_
 rintro e w' ⟨rfl, hS⟩
 refine ⟨_, rfl, ?_⟩
 refine p (yl_move rfl) <| x_done <| ?_
 replace hF := bd_s hF; obtain ⟨oL8, hLL8, hF⟩ := hF
 refine x_join (fun E w => ∃ (q17 : Option Addr) (q0z : Nat) (c_want5_L8 : Nat) (q12 : List Value) (q8 : Option Addr) (q10 : Nat) (c_area6_L8 : Nat) (q0b : List Value) (q1i : List T_floor_Point) (q7 : List Int) (q0p : Int) (q0k : Int), (q1i, q7, q0p, q0k) = oL8 ∧ E 4 = .pointer (some ⟨b4, 0, none⟩) ∧ E 5 = .slice q17 q0z c_want5_L8 ∧ E 6 = .slice q8 q10 c_area6_L8 ∧ E 7 = .int .i64 q0p ∧ E 8 = .int .i64 q0k ∧ RepL R_floor_Point ρ q1i q12 ∧ RepL (RpI .i64) ρ q7 q0b ∧ St w0 w (cells b4 30 [.int .i64 q2.1.Rows, .int .i64 q2.1.Sites, .int .i64 q2.1.Layers, .slice q3 q2.1.Blocks.length c_y0_ret_3_2_1, .slice q4 q2.1.Walls.length c_y0_ret_4_2_1, .slice none 0 0] :: vec 36 R_floor_Point.sz (.slice q17 q0z c_want5_L8) q0z q12 :: vec 3 (RpI .i64).sz (.slice q8 q10 c_area6_L8) q10 q0b :: vec 68 R_floor_Block.sz (.slice q3 q2.1.Blocks.length c_y0_ret_3_2_1) q2.1.Blocks.length q9 :: vec 70 R_floor_Wall.sz (.slice q4 q2.1.Walls.length c_y0_ret_4_2_1) q2.1.Walls.length q0a :: ro ρ :: l)) ?_ ?_
 ·refine x_block ?_
  replace hS := St.vec_nil hS 36 R_floor_Point.sz
  have q1j : RepL R_floor_Point ρ [] [] := rfl
  replace hS := St.vec_nil hS 3 (RpI .i64).sz
  have q1k : RepL (RpI .i64) ρ [] [] := rfl
  refine x_loop (fun k_ E w => ∃ (q0r : Option Addr) (q0s : Nat) (c_want5_L8h : Nat) (q0l : List Value) (q0t : Option Addr) (q0u : Nat) (c_area6_L8h : Nat) (q0m : List Value) (q0x : List T_floor_Point) (q0y : List Int) (q18 : Int) (q11 : Int) (q1g : Int) (q1d : Int), lp (P_maskkeep4_LegalPlaces_L8 l_0 q2k) k_ (q0x, q0y, q18, q11, q1g, q1d) = some oL8 ∧ E 3 = .pointer (some ⟨b18, 0, none⟩) ∧ E 4 = .pointer (some ⟨b4, 0, none⟩) ∧ E 5 = .slice q0r q0s c_want5_L8h ∧ E 6 = .slice q0t q0u c_area6_L8h ∧ E 7 = .int .i64 q18 ∧ E 8 = .int .i64 q11 ∧ E 23 = .int .i64 q2k.1 ∧ E 24 = .int .i64 q1g ∧ RepL R_floor_Point ρ q0x q0l ∧ RepL (RpI .i64) ρ q0y q0m ∧ St w0 w (cells b18 25 [.slice q1e l_0.length c_l_0, .int .i64 q1d] :: cells b4 30 [.int .i64 q2.1.Rows, .int .i64 q2.1.Sites, .int .i64 q2.1.Layers, .slice q3 q2.1.Blocks.length c_y0_ret_3_2_1, .slice q4 q2.1.Walls.length c_y0_ret_4_2_1, .slice none 0 0] :: vec 36 R_floor_Point.sz (.slice q0r q0s c_want5_L8h) q0s q0l :: vec 3 (RpI .i64).sz (.slice q0t q0u c_area6_L8h) q0u q0m :: vec 68 R_floor_Block.sz (.slice q3 q2.1.Blocks.length c_y0_ret_3_2_1) q2.1.Blocks.length q9 :: vec 70 R_floor_Wall.sz (.slice q4 q2.1.Walls.length c_y0_ret_4_2_1) q2.1.Walls.length q0a :: ro ρ :: l)) fuel ⟨none, 0, 0, [], none, 0, 0, [], [], [], 0, 1, 0, q2k.2, hLL8, rfl, rfl, rfl, rfl, rfl, rfl, rfl, rfl, q1j, q1k, ((((((((hS.pull 7).drop.pull 3).pull 6).pull 6).pull 3).pull 4).pull 6).pull 6)⟩ ?_
  rintro kL8 E w ⟨q0r, q0s, c_want5_L8h, q0l, q0t, q0u, c_area6_L8h, q0m, q0x, q0y, q18, q11, q1g, q1d, hLL8, q1p, q2m, q2n, q2o, q2p, q2q, q27, q28, q13, q14, hS⟩
  have e_ := St.vec_n (hS.pull 2) q13; subst e_
  have e_ := St.vec_n (hS.pull 3) q14; subst e_
  replace hLL8 := lp_s hLL8; obtain ⟨kL8, obL8, rfl, hFL8, hLL8⟩ := hLL8
  refine x_seq <| x_region <| p (yl_lss q28 q27) <| x_done <|
   x_seq <|
   x_cond_p (q1g < q2k.1) rfl (fun hc25 => ?_) (fun hc25 => ?_)
  ·replace hFL8 := it_t hc25 hFL8
   replace hFL8 := bd_s hFL8; obtain ⟨q1l, q3z, hFL8⟩ := hFL8
   refine x_skip <| x_seq <| x_block <| x_seq <|
    x_region <| p (yl_move q2n) <| p (yl_move q1p) <| ?_
   have hcall := c_maskmake_Stream_Range q3z q1f ((hS.pull 6).pull 1)
   refine o_cc call_7 (args3 rfl rfl rfl) hcall ?_
   rintro e w' ⟨rfl, hS⟩
   refine ⟨_, rfl, ?_⟩
   replace hFL8 := bd_s hFL8; obtain ⟨q1m, q40, hFL8⟩ := hFL8
   refine p (yl_move q1p) <| ?_
   have hcall := c_maskmake_Stream_Range q40 q1f ((hS.pull 1).pull 1)
   refine o_cc call_7 (args3 rfl rfl rfl) hcall ?_
   rintro e w' ⟨rfl, hS⟩
   refine ⟨_, rfl, ?_⟩
   refine p (v := .agg #[.int .i64 q1l.1, .int .i64 q1m.1]) (yl_build bld_36 bldf_36 (parts_eq (pt (va := .int .i64 q1l.1) rfl (pt (va := .int .i64 q1m.1) rfl pt0))) (by kernel_rfl)) <| ?_
   refine o_buildSlice (vs := [.agg #[.int .i64 q1l.1, .int .i64 q1m.1]]) (cs := [.int .i64 q1l.1, .int .i64 q1m.1]) sl_32 zero_36 (parts_eq (pt (va := .agg #[.int .i64 q1l.1, .int .i64 q1m.1]) rfl pt0)) rfl (by intro v hv; simp only [List.mem_cons, List.not_mem_nil, or_false] at hv; first | (subst hv; rfl) | (rcases hv with rfl <;> rfl)) (by decide) rfl hS (fun b32 w' hS => ?_)
   replace hFL8 := lv_s hFL8; obtain ⟨q3d, q41, hFL8⟩ := hFL8
   replace hFL8 := ck_s hFL8; obtain ⟨q42, hFL8⟩ := hFL8
   refine o_ap sl_32 zero_36 rfl (by decide) rfl rfl (hS.pull 4) q13 (src_blk usl_32 hS rfl rfl) (RepL.cons (R := R_floor_Point) (ρ := ρ) (x := (T_floor_Point.mk q1l.1 q1m.1)) (cs := [.int .i64 q1l.1, .int .i64 q1m.1]) rfl RepL.nil) q41 q42 (fun A33 c33 cs33 w' hr33 hS => ?_)
   replace hFL8 := bd_s hFL8; obtain ⟨q1h, q3e, hFL8⟩ := hFL8
   refine p (yl_assign rfl) <| x_done <| x_seq <| x_region <|
    p (yl_move q2o) <| p (yl_move q1p) <| ?_
   have hcall := c_maskmake_Stream_Range q3e q1f ((hS.pull 3).pull 3)
   refine o_cc call_7 (args3 rfl rfl rfl) hcall ?_
   rintro e w' ⟨rfl, hS⟩
   refine ⟨_, rfl, ?_⟩
   refine o_buildSlice (vs := [.int .i64 q1h.1]) (cs := [.int .i64 q1h.1]) sl_22 zero_3 (parts_eq (pt (va := .int .i64 q1h.1) rfl pt0)) rfl (by intro v hv; simp only [List.mem_cons, List.not_mem_nil, or_false] at hv; first | (subst hv; rfl) | (rcases hv with rfl <;> rfl)) (by decide) rfl hS (fun b37 w' hS => ?_)
   replace hFL8 := lv_s hFL8; obtain ⟨q2x, q3f, hFL8⟩ := hFL8
   replace hFL8 := ck_s hFL8; obtain ⟨q3g, hFL8⟩ := hFL8
   refine o_ap sl_22 zero_3 rfl (by decide) rfl rfl (hS.pull 6) q14 (src_blk usl_22 hS rfl rfl) (RepL.cons (R := (RpI .i64)) (ρ := ρ) (x := q1h.1) (cs := [.int .i64 q1h.1]) rfl RepL.nil) q3f q3g (fun A38 c38 cs38 w' hr38 hS => ?_)
   replace hFL8 := ar_s hFL8; obtain ⟨x43, hx43, hFL8⟩ := hFL8
   replace hFL8 := ck_s hFL8; obtain ⟨q2r, hFL8⟩ := hFL8
   replace hFL8 := lv_s hFL8; obtain ⟨x45, hx45, hFL8⟩ := hFL8
   replace hFL8 := ar_s hFL8; obtain ⟨x46, hx46, hFL8⟩ := hFL8
   replace hFL8 := ar_s hFL8; obtain ⟨x51, hx51, hFL8⟩ := hFL8
   replace hFL8 := ck_s hFL8; obtain ⟨q29, hFL8⟩ := hFL8
   replace hFL8 := lv_s hFL8; obtain ⟨x53, hx53, hFL8⟩ := hFL8
   replace hFL8 := lv_s hFL8; obtain ⟨x54, hx54, hFL8⟩ := hFL8
   refine p (yl_assign rfl) <| x_done <| x_still mixed (by kernel_rfl) hS <| q (yl_move q2p) <|
    q (yl_move rfl) <| q (yl_move rfl) <| q (yl_len_slice usl_22 rfl) <| q (ysub rfl rfl hx43) <|
    q (yix_o sl_22 rfl rfl hS hr38 q2r) <| qa (fun w' hS => at_load one_3 rfl (RepL.getW hr38 hS q2r hx45)) <| q (yadd rfl rfl hx46) <| q (yl_move q2q) <|
    q (yl_move rfl) <| q (yl_move rfl) <| q (yl_len_slice usl_22 rfl) <| q (ysub rfl rfl hx51) <|
    q (yix_o sl_22 rfl rfl hS hr38 q29) <| qa (fun w' hS => at_load one_3 rfl (RepL.getW hr38 hS q29 hx53)) <| q (ymax' rfl rfl hx54) <| q (yl_assign rfl) <|
    q (yl_assign rfl) <|
    q_done fun w' hS => ?_
   replace hFL8 := ar_s hFL8; obtain ⟨x55, hx55, hFL8⟩ := hFL8
   refine x_blk <| x_region <| p (yadd q28 rfl hx55) <| p (yl_move rfl) <|
    x_done <| ?_
   have e_ := sinj hFL8; subst e_
   exact x_inv ⟨kL8, Nat.lt_succ_self _, A33, q3d.length, c33, cs33, A38, q2x.length, c38, cs38, q3d, q2x, x46, x54, x55, q1h.2, hLL8, q1p, q2m, rfl, rfl, rfl, rfl, q27, rfl, hr33, hr38, (((((((((hS.pull 1).drop.pull 4).drop.pull 2).pull 6).pull 6).pull 3).pull 5).pull 6).pull 6)⟩
  ·replace hFL8 := it_f hc25 hFL8
   refine x_exitTo _ rfl <| ?_
   have e_ := sinj hFL8; subst e_
   exact x_inv ⟨q0r, q0x.length, c_want5_L8h, q0l, q0t, q0y.length, c_area6_L8h, q0m, q0x, q0y, q18, q11, hLL8, q2m, q2n, q2o, q2p, q2q, q13, q14, ((((((hS.drop.pull 5).pull 5).pull 5).pull 5).pull 5).pull 5)⟩
 rintro E w ⟨q17, q0z, c_want5_L8, q12, q8, q10, c_area6_L8, q0b, q1i, q7, q0p, q0k, rfl, q1u, q43, q2y, q44, q45, q1q, q19, hS⟩
 have e_ := St.vec_n (hS.pull 1) q1q; subst e_
 have e_ := St.vec_n (hS.pull 2) q19; subst e_
 replace hF := bd_s hF; obtain ⟨q6, q3h, hF⟩ := hF
 refine x_seq <| x_region <| p (yl_move q43) <| p (yl_move q2y) <|
  pa (v := .agg #[.int .i64 q2.1.Rows, .int .i64 q2.1.Sites, .int .i64 q2.1.Layers, .slice q3 q2.1.Blocks.length c_y0_ret_3_2_1, .slice q4 q2.1.Walls.length c_y0_ret_4_2_1, .slice none 0 0]) (ld_sub agg_30 q1u rfl rfl hS) <| ?_
 have q_ := St.lend ((hS.pull 5).pull 2) q1q; obtain ⟨ρl0, hll0, hlf0, hS0, back0⟩ := q_
 have q_ := St.lend (hS0.pull 2) (q19.le hll0); obtain ⟨ρl1, hll1, hlf1, hS1, back1⟩ := q_
 have q_ := St.lend (hS1.pull 2) (q0c.le (hll0.trans hll1)); obtain ⟨ρl2, hll2, hlf2, hS2, back2⟩ := q_
 have q_ := St.lend (hS2.pull 2) (q0d.le ((hll0.trans hll1).trans hll2)); obtain ⟨ρl3, hll3, hlf3, hS3, back3⟩ := q_
 have hcall := c_legal_Place q3h (hlf0.le ((hll1.trans hll2).trans hll3)) (hlf1.le (hll2.trans hll3)) (hlf2.le hll3) hlf3 (RdS.nil (A := none) (c := 0)) hS3
 refine o_cc call_8 (args3 rfl rfl rfl) hcall ?_
 rintro e w' ⟨q5, q3b, c_y0_ret_13_3, q0e, rfl, q0j, hS⟩
 refine ⟨_, rfl, ?_⟩
 replace hS := back3 (hS.pull 1)
 replace hS := back2 (hS.pull 1)
 replace hS := back1 (hS.pull 1)
 replace hS := back0 (hS.pull 1)
 replace q0j : RepL R_floor_Site ρ q6.1 q0e := RepL.flat (fun h => h) q0j
 have e_ := St.vec_n (hS.pull 5) q0j; subst e_
 replace hF := bd_s hF; obtain ⟨q2l, q3i, hF⟩ := hF
 refine p (yl_move rfl) <| p (yl_extract rfl rfl) <| p (yl_extract rfl rfl) <| p (yl_assign rfl) <|
  p (yl_assign rfl) <| x_done <| x_seq <| x_seq <|
  x_region <| ?_
 have hcall := c_maskkeep4_rows q3i  (hS.pull 1)
 refine o_cc call_9 args0 ((Calls.mono hcall (fun e w'' h => And.intro h.1 (((((((h.2.pull 6).pull 6).pull 6).pull 6).pull 6).pull 5).pull 6)))) ?_
 rintro e w' ⟨rfl, hS⟩
 refine ⟨_, rfl, ?_⟩
 replace hF := bd_s hF; obtain ⟨q2z, q3j, hF⟩ := hF
 refine p (yl_not rfl) <| p (yl_move rfl) <| pg (v := .agg #[.int .i64 q2.1.Rows, .int .i64 q2.1.Sites, .int .i64 q2.1.Layers, .slice q3 q2.1.Blocks.length c_y0_ret_3_2_1, .slice q4 q2.1.Walls.length c_y0_ret_4_2_1, .slice none 0 0]) 65 (c := !(!q2l)) (says_f _) (fun hq => ld_sub agg_30 q1u rfl rfl (hS.pull 6)) <|
  pccg (v := .int .i64 q2z) 65 (c := !(!q2l)) (says_f _) call_10 (fun hq => (args1 (cv hq))) hS (fun hq => by
   have q_ := St.lend ((hS.pull 1).pull 3) q0c; obtain ⟨ρl0, hll0, hlf0, hS0, back0⟩ := q_
   have q_ := St.lend (hS0.pull 3) (q0d.le hll0); obtain ⟨ρl1, hll1, hlf1, hS1, back1⟩ := q_
   have hcall := c_floor_Check_2 (gd_t q3j hq) (hlf0.le hll1) hlf1 (RdS.nil (A := none) (c := 0)) hS1
   exact (Calls.mono hcall (fun e w'' h => And.intro h.1 ((((((((back0 ((back1 h.2).pull 1)).pull 6).pull 6).pull 4).pull 3).pull 6).pull 5).pull 6)))) (fun w' hS => ?_)
 replace hF := lv_s hF; obtain ⟨x69, hx69, hF⟩ := hF
 refine pg (v := .bool (decide (q2z ≠ 0))) 65 (c := !(!q2l)) (says_f _) (fun hq => Yl.at (yl_neq (cv hq) rfl)) <| p (yor' rfl rfl (fun hc => (cv (t_not hc))) hx69) <| x_done <|
  x_cond (t := x69) rfl (fun hc69 => ?_) (fun hc69 => ?_)
 ·replace hF := it_t hc69 hF
  refine x_seq <| x_region <| p (yl_assign rfl) <| x_done <| ?_
  have e_ := sinj hF; subst e_
  exact x_return ⟨_, ⟨_, _, rfl, rfl, rfl⟩, rfl, ((((((hS.drop.pull 1).drop.pull 1).drop.pull 1).drop.pull 1).drop.pull 1).drop)⟩
 ·replace hF := it_bf hc69 hF
  refine x_skip <| x_seq <| x_region <| p (yl_assign rfl) <|
   p (yl_assign rfl) <| x_done <| x_seq <| x_seq <|
   x_region <| p (yl_field0 fld_30_0 q1u) <| pa (at_load one_3 rfl ((hS.pull 6).cell rfl)) <| p (yl_move rfl) <|
   x_done <| ?_
  replace hF := bd_s hF; obtain ⟨oL18, hLL18, hF⟩ := hF
  refine x_join (fun E w => ∃ (q15 : Int) (q0g : Int), (q15, q0g) = oL18 ∧ E 4 = .pointer (some ⟨b4, 0, none⟩) ∧ E 6 = .slice q8 q7.length c_area6_L8 ∧ E 7 = .int .i64 q0p ∧ E 8 = .int .i64 q0k ∧ E 9 = .slice q5 q6.1.length c_y0_ret_13_3 ∧ E 10 = .int .i64 q6.2 ∧ E 11 = .int .i64 q15 ∧ E 12 = .int .i64 q0g ∧ St w0 w (cells b4 30 [.int .i64 q2.1.Rows, .int .i64 q2.1.Sites, .int .i64 q2.1.Layers, .slice q3 q2.1.Blocks.length c_y0_ret_3_2_1, .slice q4 q2.1.Walls.length c_y0_ret_4_2_1, .slice none 0 0] :: vec 3 (RpI .i64).sz (.slice q8 q7.length c_area6_L8) q7.length q0b :: vec 88 R_floor_Site.sz (.slice q5 q6.1.length c_y0_ret_13_3) q6.1.length q0e :: vec 68 R_floor_Block.sz (.slice q3 q2.1.Blocks.length c_y0_ret_3_2_1) q2.1.Blocks.length q9 :: vec 70 R_floor_Wall.sz (.slice q4 q2.1.Walls.length c_y0_ret_4_2_1) q2.1.Walls.length q0a :: ro ρ :: l)) ?_ ?_
  ·refine x_block ?_
   refine x_loop (fun k_ E w => ∃ (q0h : Int) (q0i : Int) (q0q : Int), lp (P_maskkeep4_LegalPlaces_L18 q2) k_ (q0h, q0i, q0q) = some oL18 ∧ E 4 = .pointer (some ⟨b4, 0, none⟩) ∧ E 6 = .slice q8 q7.length c_area6_L8 ∧ E 7 = .int .i64 q0p ∧ E 8 = .int .i64 q0k ∧ E 9 = .slice q5 q6.1.length c_y0_ret_13_3 ∧ E 10 = .int .i64 q6.2 ∧ E 11 = .int .i64 q0h ∧ E 12 = .int .i64 q0i ∧ E 71 = .int .i64 q2.1.Rows ∧ E 72 = .int .i64 q0q ∧ St w0 w (cells b4 30 [.int .i64 q2.1.Rows, .int .i64 q2.1.Sites, .int .i64 q2.1.Layers, .slice q3 q2.1.Blocks.length c_y0_ret_3_2_1, .slice q4 q2.1.Walls.length c_y0_ret_4_2_1, .slice none 0 0] :: vec 3 (RpI .i64).sz (.slice q8 q7.length c_area6_L8) q7.length q0b :: vec 88 R_floor_Site.sz (.slice q5 q6.1.length c_y0_ret_13_3) q6.1.length q0e :: vec 68 R_floor_Block.sz (.slice q3 q2.1.Blocks.length c_y0_ret_3_2_1) q2.1.Blocks.length q9 :: vec 70 R_floor_Wall.sz (.slice q4 q2.1.Walls.length c_y0_ret_4_2_1) q2.1.Walls.length q0a :: ro ρ :: l)) fuel ⟨0, 0, 0, hLL18, q1u, q2y, q44, q45, rfl, rfl, rfl, rfl, rfl, rfl, (((((hS.drop.pull 3).pull 3).pull 4).pull 4).pull 5)⟩ ?_
   rintro kL18 E w ⟨q0h, q0i, q0q, hLL18, q1t, q2a, q2b, q2c, q2d, q1w, q1x, q1y, q1z, q1n, hS⟩
   replace hLL18 := lp_s hLL18; obtain ⟨kL18, obL18, rfl, hFL18, hLL18⟩ := hLL18
   refine x_seq <| x_region <| p (yl_lss q1n q1z) <| x_done <|
    x_seq <|
    x_cond_p (q0q < q2.1.Rows) rfl (fun hc73 => ?_) (fun hc73 => ?_)
   ·replace hFL18 := it_t hc73 hFL18
    replace hFL18 := bd_s hFL18; obtain ⟨q1a, q3k, hFL18⟩ := hFL18
    refine x_skip <| x_seq <| x_block <| x_seq <|
     x_region <| p (yl_move q1n) <| p (yl_assign rfl) <| x_done <|
     x_seq <| x_region <| pa (v := .agg #[.int .i64 q2.1.Rows, .int .i64 q2.1.Sites, .int .i64 q2.1.Layers, .slice q3 q2.1.Blocks.length c_y0_ret_3_2_1, .slice q4 q2.1.Walls.length c_y0_ret_4_2_1, .slice none 0 0]) (ld_sub agg_30 q1t rfl rfl hS) <| p (yl_move rfl) <| ?_
    have q_ := St.lend ((hS.pull 5).pull 4) q0c; obtain ⟨ρl0, hll0, hlf0, hS0, back0⟩ := q_
    have q_ := St.lend (hS0.pull 4) (q0d.le hll0); obtain ⟨ρl1, hll1, hlf1, hS1, back1⟩ := q_
    have hcall := c_floor_Free_2 q3k (hlf0.le hll1) hlf1 (RdS.nil (A := none) (c := 0)) hS1
    refine o_cc call_11 (args2 rfl rfl) hcall ?_
    rintro e w' ⟨q1c, q3c, c_y0_ret_20_2, q16, rfl, q0f, hS⟩
    refine ⟨_, rfl, ?_⟩
    replace hS := back1 (hS.pull 1)
    replace hS := back0 (hS.pull 1)
    replace q0f : RepL R_floor_Span ρ q1a q16 := RepL.flat (fun h => h) q0f
    have e_ := St.vec_n (hS.pull 3) q0f; subst e_
    refine p (yl_len_slice usl_43 rfl) <| p (yl_move rfl) <| x_done <| ?_
    replace hFL18 := bd_s hFL18; obtain ⟨oL21, hLL21, hFL18⟩ := hFL18
    refine x_join (fun E w => ∃ (q0v : Int) (q0w : Int), (q0v, q0w) = oL21 ∧ E 4 = .pointer (some ⟨b4, 0, none⟩) ∧ E 6 = .slice q8 q7.length c_area6_L8 ∧ E 7 = .int .i64 q0p ∧ E 8 = .int .i64 q0k ∧ E 9 = .slice q5 q6.1.length c_y0_ret_13_3 ∧ E 10 = .int .i64 q6.2 ∧ E 11 = .int .i64 q0v ∧ E 12 = .int .i64 q0w ∧ E 71 = .int .i64 q2.1.Rows ∧ E 72 = .int .i64 q0q ∧ St w0 w (cells b4 30 [.int .i64 q2.1.Rows, .int .i64 q2.1.Sites, .int .i64 q2.1.Layers, .slice q3 q2.1.Blocks.length c_y0_ret_3_2_1, .slice q4 q2.1.Walls.length c_y0_ret_4_2_1, .slice none 0 0] :: vec 3 (RpI .i64).sz (.slice q8 q7.length c_area6_L8) q7.length q0b :: vec 88 R_floor_Site.sz (.slice q5 q6.1.length c_y0_ret_13_3) q6.1.length q0e :: vec 68 R_floor_Block.sz (.slice q3 q2.1.Blocks.length c_y0_ret_3_2_1) q2.1.Blocks.length q9 :: vec 70 R_floor_Wall.sz (.slice q4 q2.1.Walls.length c_y0_ret_4_2_1) q2.1.Walls.length q0a :: ro ρ :: l)) ?_ ?_
    ·refine x_block ?_
     refine x_loop (fun k_ E w => ∃ (q0n : Int) (q0o : Int) (q1b : Int), lp (P_maskkeep4_LegalPlaces_L21 q1a) k_ (q0n, q0o, q1b) = some oL21 ∧ E 4 = .pointer (some ⟨b4, 0, none⟩) ∧ E 6 = .slice q8 q7.length c_area6_L8 ∧ E 7 = .int .i64 q0p ∧ E 8 = .int .i64 q0k ∧ E 9 = .slice q5 q6.1.length c_y0_ret_13_3 ∧ E 10 = .int .i64 q6.2 ∧ E 11 = .int .i64 q0n ∧ E 12 = .int .i64 q0o ∧ E 71 = .int .i64 q2.1.Rows ∧ E 72 = .int .i64 q0q ∧ E 77 = .slice q1c q1a.length c_y0_ret_20_2 ∧ E 78 = .int .i64 (q1a.length : Int) ∧ E 79 = .int .i64 q1b ∧ St w0 w (cells b4 30 [.int .i64 q2.1.Rows, .int .i64 q2.1.Sites, .int .i64 q2.1.Layers, .slice q3 q2.1.Blocks.length c_y0_ret_3_2_1, .slice q4 q2.1.Walls.length c_y0_ret_4_2_1, .slice none 0 0] :: vec 3 (RpI .i64).sz (.slice q8 q7.length c_area6_L8) q7.length q0b :: vec 88 R_floor_Site.sz (.slice q5 q6.1.length c_y0_ret_13_3) q6.1.length q0e :: vec 46 R_floor_Span.sz (.slice q1c q1a.length c_y0_ret_20_2) q1a.length q16 :: vec 68 R_floor_Block.sz (.slice q3 q2.1.Blocks.length c_y0_ret_3_2_1) q2.1.Blocks.length q9 :: vec 70 R_floor_Wall.sz (.slice q4 q2.1.Walls.length c_y0_ret_4_2_1) q2.1.Walls.length q0a :: ro ρ :: l)) fuel ⟨q0h, q0i, 0, hLL21, q1t, q2a, q2b, q2c, q2d, q1w, q1x, q1y, q1z, q1n, rfl, rfl, rfl, (((((((hS.pull 1).pull 2).pull 2).pull 3).pull 6).pull 6).pull 6)⟩ ?_
     rintro kL21 E w ⟨q0n, q0o, q1b, hLL21, q2e, q2f, q2g, q2h, q2i, q20, q21, q22, q23, q24, q25, q26, q1o, hS⟩
     replace hLL21 := lp_s hLL21; obtain ⟨kL21, obL21, rfl, hFL21, hLL21⟩ := hLL21
     refine x_seq <| x_region <| p (yl_lss q1o q26) <| x_done <|
      x_seq <|
      x_cond_p (q1b < (q1a.length : Int)) rfl (fun hc80 => ?_) (fun hc80 => ?_)
     ·replace hFL21 := it_t hc80 hFL21
      replace hFL21 := ck_s hFL21; obtain ⟨q2s, hFL21⟩ := hFL21
      replace hFL21 := lv_s hFL21; obtain ⟨q1v, q3l, hFL21⟩ := hFL21
      have q_ := q0f.get q2s; obtain ⟨q46, q2t, q3m⟩ := q_
      rw [← q3l] at q2t
      have e_ := q2t; subst e_
      refine x_skip <| x_seq <| x_block <| x_seq <|
       x_region <| p (yix_o sl_43 q25 q1o (hS.pull 3) q0f q2s) <| pa (v := .agg #[.int .i64 q1v.From, .int .i64 q1v.To]) (at_loadAgg agg_46 rfl rfl (EltV.every q3m (hS.pull 3))) <| ?_
      refine o_alloc zero_46 hS (fun b15 w' hS => ?_)
      refine o_storeAgg (news := [.int .i64 q1v.From, .int .i64 q1v.To]) agg_46 rfl rfl rfl (by simp [over_length]) hS (fun w' hS => ?_)
      replace hFL21 := ar_s hFL21; obtain ⟨x84, hx84, hFL21⟩ := hFL21
      replace hFL21 := ar_s hFL21; obtain ⟨x88, hx88, hFL21⟩ := hFL21
      replace hFL21 := ar_s hFL21; obtain ⟨x91, hx91, hFL21⟩ := hFL21
      refine x_done <| x_still mixed (by kernel_rfl) hS <| q (yl_move q21) <| q (yadd rfl rfl hx84) <|
       q (yl_move q22) <| q (yl_field0 fld_46_1 rfl) <| qa (fun w' hS => at_load one_3 rfl (hS.cell rfl)) <| q (yadd rfl rfl hx88) <|
       q (yl_field0 fld_46_0 rfl) <| qa (fun w' hS => at_load one_3 rfl (hS.cell rfl)) <| q (ysub rfl rfl hx91) <| q (yl_assign rfl) <|
       q (yl_assign rfl) <|
       q_done fun w' hS => ?_
      replace hFL21 := ar_s hFL21; obtain ⟨x92, hx92, hFL21⟩ := hFL21
      refine x_blk <| x_region <| p (yadd q1o rfl hx92) <| p (yl_move rfl) <|
       x_done <| ?_
      have e_ := sinj hFL21; subst e_
      exact x_inv ⟨kL21, Nat.lt_succ_self _, x84, x91, x92, hLL21, q2e, q2f, q2g, q2h, q2i, q20, rfl, rfl, q23, q24, q25, q26, rfl, (((((((hS.drop.pull 6).pull 6).pull 6).pull 6).pull 6).pull 6).pull 6)⟩
     ·replace hFL21 := it_f hc80 hFL21
      refine x_exitTo _ rfl <| ?_
      have e_ := sinj hFL21; subst e_
      exact x_inv ⟨q0n, q0o, hLL21, q2e, q2f, q2g, q2h, q2i, q20, q21, q22, q23, q24, (((((((hS.pull 3).drop.pull 5).pull 5).pull 5).pull 5).pull 5).pull 5)⟩
    rintro E w ⟨q0v, q0w, rfl, q3n, q3o, q3p, q3q, q3r, q34, q35, q36, q37, q38, hS⟩
    replace hFL18 := ar_s hFL18; obtain ⟨x93, hx93, hFL18⟩ := hFL18
    refine x_blk <| x_region <| p (yadd q38 rfl hx93) <| p (yl_move rfl) <|
     x_done <| ?_
    have e_ := sinj hFL18; subst e_
    exact x_inv ⟨kL18, Nat.lt_succ_self _, q0v, q0w, x93, hLL18, q3n, q3o, q3p, q3q, q3r, q34, q35, q36, q37, rfl, ((((((hS.pull 5).pull 5).pull 5).pull 5).pull 5).pull 5)⟩
   ·replace hFL18 := it_f hc73 hFL18
    refine x_exitTo _ rfl <| ?_
    have e_ := sinj hFL18; subst e_
    exact x_inv ⟨q0h, q0i, hLL18, q1t, q2a, q2b, q2c, q2d, q1w, q1x, q1y, ((((((hS.pull 5).pull 5).pull 5).pull 5).pull 5).pull 5)⟩
  rintro E w ⟨q15, q0g, rfl, q3s, q3t, q3u, q3v, q2u, q2j, q39, q3a, hS⟩
  refine x_seq <| x_seq <| x_region <| p (yl_move q2j) <|
   p (yl_eql rfl rfl) <| x_done <|
   x_cond_p (q6.2 = 14) rfl (fun hc95 => ?_) (fun hc95 => ?_)
  ·replace hF := it_t hc95 hF
   replace hF := ar_s hF; obtain ⟨x99, hx99, hF⟩ := hF
   replace hF := ar_s hF; obtain ⟨x100, hx100, hF⟩ := hF
   replace hF := ar_s hF; obtain ⟨x101, hx101, hF⟩ := hF
   replace hF := lv_s hF; obtain ⟨x108, hx108, hF⟩ := hF
   refine x_seq <| x_region <| p (yl_move q3u) <| p (yl_move q39) <|
    p (yl_move q3v) <| p (ysub rfl rfl hx99) <| p (ymul rfl rfl hx100) <| p (yadd rfl rfl hx101) <|
    p (yl_move q3a) <| p (yl_gtr rfl rfl) <| p (yl_move rfl) <| pg (v := .slice q5 q6.1.length c_y0_ret_13_3) 104 (c := decide (q0g < x101)) (says_t _) (fun hq => Yl.at (yl_move q2u)) <|
    pg (v := .int .i64 (q6.1.length : Int)) 104 (c := decide (q0g < x101)) (says_t _) (fun hq => Yl.at (yl_len_slice usl_37 (cv hq))) <| pg (v := .bool (decide ((q6.1.length : Int) = 0))) 104 (c := decide (q0g < x101)) (says_t _) (fun hq => Yl.at (yl_eql (cv hq) rfl)) <| p (yand' rfl (fun hc => (cv hc)) rfl hx108) <| p (yl_assign rfl) <|
    x_done <| ?_
   have e_ := sinj hF; subst e_
   exact x_return ⟨_, ⟨_, _, rfl, rfl, rfl⟩, rfl, hS.drop.drop.drop.drop.drop⟩
  ·replace hF := it_f hc95 hF
   replace hF := bd_s hF; obtain ⟨q30, q3w, hF⟩ := hF
   refine x_skip <| x_seq <| x_region <| p (yl_move q2j) <|
    p (yl_eql rfl rfl) <| p (yl_move rfl) <| pg (v := .agg #[.int .i64 q2.1.Rows, .int .i64 q2.1.Sites, .int .i64 q2.1.Layers, .slice q3 q2.1.Blocks.length c_y0_ret_3_2_1, .slice q4 q2.1.Walls.length c_y0_ret_4_2_1, .slice none 0 0]) 111 (c := decide (q6.2 = 0)) (says_t _) (fun hq => ld_sub agg_30 q3s rfl rfl hS) <| pg (v := .slice q8 q7.length c_area6_L8) 111 (c := decide (q6.2 = 0)) (says_t _) (fun hq => Yl.at (yl_move q3t)) <|
    pg (v := .slice q5 q6.1.length c_y0_ret_13_3) 111 (c := decide (q6.2 = 0)) (says_t _) (fun hq => Yl.at (yl_move q2u)) <|
    pccg (v := .int .i64 q30) 111 (c := decide (q6.2 = 0)) (says_t _) call_12 (fun hq => (args3 (cv hq) (cv hq) (cv hq))) hS (fun hq => by
     have q_ := St.lend ((hS.pull 5).pull 4) q0c; obtain ⟨ρl0, hll0, hlf0, hS0, back0⟩ := q_
     have q_ := St.lend (hS0.pull 4) (q0d.le hll0); obtain ⟨ρl1, hll1, hlf1, hS1, back1⟩ := q_
     have q_ := St.lend (hS1.pull 2) (q19.le (hll0.trans hll1)); obtain ⟨ρl2, hll2, hlf2, hS2, back2⟩ := q_
     have q_ := St.lend (hS2.pull 2) (q0j.le ((hll0.trans hll1).trans hll2)); obtain ⟨ρl3, hll3, hlf3, hS3, back3⟩ := q_
     have hcall := c_legal_Check (gd_t q3w hq) (hlf0.le ((hll1.trans hll2).trans hll3)) (hlf1.le (hll2.trans hll3)) (RdS.nil (A := none) (c := 0)) (hlf2.le hll3) hlf3 hS3
     exact (Calls.mono hcall (fun e w'' h => And.intro h.1 (((((((back0 ((back1 ((back2 ((back3 h.2).pull 1)).pull 1)).pull 1)).pull 1).pull 2).pull 2).pull 4).pull 4).pull 5)))) (fun w' hS => ?_)
   replace hF := lv_s hF; obtain ⟨x117, hx117, hF⟩ := hF
   refine pg (v := .bool (decide (q30 = 0))) 111 (c := decide (q6.2 = 0)) (says_t _) (fun hq => Yl.at (yl_eql (cv hq) rfl)) <| p (yand' rfl (fun hc => (cv hc)) rfl hx117) <| p (yl_assign rfl) <| x_done <| ?_
   have e_ := sinj hF; subst e_
   exact x_return ⟨_, ⟨_, _, rfl, rfl, rfl⟩, rfl, hS.drop.drop.drop.drop.drop⟩
attribute [irreducible] P_maskkeep4_LegalPlaces


end Go.Proofs.YtfkncjfpgflafaaDoor.X
