/- Printed by gen.py: plain functions, and that the Go code computes them. -/
import Derived.Test.YtnnmbmgnpdcefaaYJ
import Derived.Test.YtnnmbmgnpdcefaaXI
import Derived.Test.YtnnmbmgnpdcefaaXP
import Derived.Test.YtnnmbmgnpdcefaaYX
import Derived.Test.YtnnmbmgnpdcefaaYU
import Derived.Test.YtnnmbmgnpdcefaaXT
import Derived.Test.YtnnmbmgnpdcefaaGAp0
import Derived.Test.YtnnmbmgnpdcefaaGAp1
import Derived.Test.YtnnmbmgnpdcefaaGAp2
namespace Go.Proofs.Ytnnmbmgnpdcefaa.X
set_option maxHeartbeats 4000000
set_option maxRecDepth 100000
open Go Go.RowKit
set_option linter.unusedVariables false
set_option linter.unusedSimpArgs false

def P_rules_antenna_L16 (x48 : Int) (q4 : List T_rules_Spot) : (List (Int × List (T_rules_Spot × Bool)) × Int) → Option ((List (Int × List (T_rules_Spot × Bool)) × Int) ⊕ List (Int × List (T_rules_Spot × Bool))) := fun (q2, q3) =>
 if q3 < (q4.length : Int) then
  ck (inb q3 q4.length) <|
  lv (gt q4 q3) fun q5 =>
  ck (mhas x48 q2 = true) <|
  lv (mput x48 (mput q5 true (mget x48 q2 [])) q2) fun q6 =>
  ar (q3 + 1) fun x71 =>
  some (Sum.inl (q6, x71))
 else
  some (Sum.inr q2)
def P_rules_antenna_L9 (l_1 : T_rules_Layout) (s2 : List T_rules_shape) (q0l : List Int) (q0k : Int) : (List (Int × List (T_rules_Spot × Bool)) × List (Int × Int) × List (Int × Bool) × List (Int × T_rules_Spot) × Int) → Option ((List (Int × List (T_rules_Spot × Bool)) × List (Int × Int) × List (Int × Bool) × List (Int × T_rules_Spot) × Int) ⊕ (List (Int × List (T_rules_Spot × Bool)) × List (Int × Int) × List (Int × Bool) × List (Int × T_rules_Spot))) := fun (q4, q5, q6, q2, q7) =>
 if q7 < (s2.length : Int) then
  ck (inb q7 s2.length) <|
  lv (gt s2 q7) fun q3 =>
  ck (inb q7 q0l.length) <|
  lv (gt q0l q7) fun x48 =>
  bd (
   if q3.fwire = true then
    lv (!mhas x48 q4) fun x55 =>
    bd (
     if x55 = true then
      ck (mhas x48 q4 = false) <|
      lv (mput x48 [] q4) fun q0n =>
      some q0n
     else
      some q4) fun q0e =>
    bd (P_rules_antenna_1 q3 q0k) fun q0o =>
    bd (
     lp (P_rules_antenna_L16 x48 q0o) fuel (q0e, 0)) fun q0f =>
    some (q0f, q5, q6, q2)
   else
    ck ((decide (0 ≤ q3.fpin)) = true → inb q3.fpin l_1.Pins.length) <|
    lv ((decide (0 ≤ q3.fpin)) && ((gt l_1.Pins q3.fpin).Drive)) fun x84 =>
    bd (
     if x84 = true then
      lv (mput x48 true q6) fun q0p =>
      some (q5, q0p, q2)
     else
      ck ((decide (0 ≤ q3.fpin)) = true → inb q3.fpin l_1.Pins.length) <|
      lv ((decide (0 ≤ q3.fpin)) && (decide (0 < ((gt l_1.Pins q3.fpin).Size)))) fun x100 =>
      bd (
       if x100 = true then
        lv (mget x48 q2 (T_rules_Spot.mk 0 0 0)) fun x104 =>
        lv (mhas x48 q2) fun q104 =>
        ck ((!(!q104)) = true → inb 0 q3.fspots.length) <|
        lv (gt q3.fspots (0 : Int)) fun q0q =>
        bd (gd (!(!q104)) (P_rules_Spot_before q0q x104)) fun q0r =>
        lv ((!q104) || q0r) fun x116 =>
        bd (
         if x116 = true then
          ck (inb 0 q3.fspots.length) <|
          lv (gt q3.fspots (0 : Int)) fun q0s =>
          lv (mput x48 q0s q2) fun q0t =>
          some q0t
         else
          some q2) fun q0a =>
        lv (mget x48 q5 0) fun x125 =>
        ck (inb q3.fpin l_1.Pins.length) <|
        lv (gt l_1.Pins q3.fpin) fun q0u =>
        ar (x125 + q0u.Size) fun x133 =>
        lv (mput x48 x133 q5) fun q0m =>
        some (q0m, q0a)
       else
        some (q5, q2)) fun (q0g, q0b) =>
      some (q0g, q6, q0b)) fun (q0h, q8, q0c) =>
    some (q4, q0h, q8, q0c)) fun (q0i, q0j, q9, q0d) =>
  ar (q7 + 1) fun x134 =>
  some (Sum.inl (q0i, q0j, q9, q0d, x134))
 else
  some (Sum.inr (q4, q5, q6, q2))
def P_rules_antenna_L29 (s2 : List T_rules_shape) (q0d : List Int) (q0a : List (Int × List (T_rules_Spot × Bool))) (q0b : List (Int × Int)) (q6 : List (Int × Bool)) (q5 : List (Int × T_rules_Spot)) (q0c : Int) : (Int × List (T_rules_Fault × Bool) × Bool) → Option ((Int × List (T_rules_Fault × Bool) × Bool) ⊕ (List (T_rules_Fault × Bool) × Bool)) := fun (q2, q3, q4) =>
 if q2 < (s2.length : Int) then
  ck (inb q2 s2.length) <|
  lv (gt s2 q2) fun q0e =>
  ck (inb q2 q0d.length) <|
  lv (gt q0d q2) fun x145 =>
  lv (mget x145 q5 (T_rules_Spot.mk 0 0 0)) fun x149 =>
  lv (mhas x145 q5) fun q149 =>
  lv (mget x145 q6 false) fun x156 =>
  lv (q149 && (!x156)) fun x158 =>
  lv ((mget x145 q0a []).length) fun x163 =>
  lv (mget x145 q0b 0) fun x166 =>
  ck (x158 = true → I64 ((64 : Int) * x166)) <|
  lv ((64 : Int) * x166) fun x167 =>
  lv (x158 && (decide (x167 < (x163 : Int)))) fun x169 =>
  bd (
   if x169 = true then
    bd (P_rules_bag_add q3 q4 (T_rules_Fault.mk 7 q0e.fnet 0 (T_rules_Spot.mk q0c x149.X x149.Y))) fun q9 =>
    some (q9.1, q9.2)
   else
    some (q3, q4)) fun (q7, q8) =>
  ar (q2 + 1) fun x181 =>
  some (Sum.inl (x181, q7, q8))
 else
  some (Sum.inr (q3, q4))
def P_rules_antenna_L2 (l_1 : T_rules_Layout) (s2 : List T_rules_shape) : (Int × List (T_rules_Fault × Bool) × Bool) → Option ((Int × List (T_rules_Fault × Bool) × Bool) ⊕ (List (T_rules_Fault × Bool) × Bool)) := fun (q2, q3, q4) =>
 if q2 < l_1.Layers then
  bd (P_rules_groups_3 s2 q2) fun q0b =>
  bd (
   lp (P_rules_antenna_L9 l_1 s2 q0b q2) fuel ([], [], [], [], 0)) fun (q9, q0a, q5, q8) =>
  bd (
   lp (P_rules_antenna_L29 s2 q0b q9 q0a q5 q8 q2) fuel (0, q3, q4)) fun (q6, q7) =>
  ar (q2 + 1) fun x182 =>
  some (Sum.inl (x182, q6, q7))
 else
  some (Sum.inr (q3, q4))
def P_rules_antenna (q4 : List (T_rules_Fault × Bool)) (q5 : Bool) (l_1 : T_rules_Layout) (s2 : List T_rules_shape) : Option (List (T_rules_Fault × Bool) × Bool) :=
 bd (
  lp (P_rules_antenna_L2 l_1 s2) fuel (0, q4, q5)) fun (q2, q3) =>
 some (q2, q3)
theorem c_rules_antenna {w0 w : World} {l : List Assn} {ρ : Heap} {q0c : Nat} {q5 : Nat} {q0f : Option Addr} {q32 : Nat} {c_l_1_4 : Nat} {q0g : Option Addr} {q33 : Nat} {c_l_1_5 : Nat} {q6 : Option Addr} {q34 : Nat} {c_l_1_6 : Nat} {q0h : Option Addr} {q35 : Nat} {c_l_1_7 : Nat} {q0j : Option Addr} {q6c : Nat} {c_s2 : Nat} {q43 : List (T_rules_Fault × Bool)} {q44 : Bool} {l_1 : T_rules_Layout} {s2 : List T_rules_shape} {r : (List (T_rules_Fault × Bool) × Bool)} (hF : P_rules_antenna q43 q44 l_1 s2 = some r) (q4l : RdS R_rules_Wire ρ q0f q32 c_l_1_4 l_1.Wires) (q4m : RdS R_rules_Via ρ q0g q33 c_l_1_5 l_1.Vias) (q13 : RdS R_rules_Pin ρ q6 q34 c_l_1_6 l_1.Pins) (q4n : RdS R_floor_Wall ρ q0h q35 c_l_1_7 l_1.Walls) (q2f : RdS R_rules_shape ρ q0j q6c c_s2 s2) (hS : St w0 w (cells q0c 103 [.map (some q5), .bool q44] :: mapA q5 kf_63 Value.bool q43 :: ro ρ :: l)) :
  Calls Try.prog 51 #[.pointer (some ⟨q0c, 0, none⟩), .agg #[.int .i64 l_1.W, .int .i64 l_1.H, .int .i64 l_1.Layers, .int .i64 l_1.Nets, .slice q0f q32 c_l_1_4, .slice q0g q33 c_l_1_5, .slice q6 q34 c_l_1_6, .slice q0h q35 c_l_1_7], .slice q0j q6c c_s2] w fun e w' => e = .returned (.tuple #[]) ∧ St w0 w' (cells q0c 103 [.map (some q5), .bool r.2] :: mapA q5 kf_63 Value.bool r.1 :: ro ρ :: l) := by
 have e_ := q4l.n; subst e_
 have e_ := q4m.n; subst e_
 have e_ := q13.n; subst e_
 have e_ := q4n.n; subst e_
 have e_ := q2f.n; subst e_
 refine enterC Try.func51 rfl 183 rfl (by simp) ?_
 refine x_seq <| x_region <| ?_
 refine o_box (cs := [.int .i64 l_1.W, .int .i64 l_1.H, .int .i64 l_1.Layers, .int .i64 l_1.Nets, .slice q0f l_1.Wires.length c_l_1_4, .slice q0g l_1.Vias.length c_l_1_5, .slice q6 l_1.Pins.length c_l_1_6, .slice q0h l_1.Walls.length c_l_1_7]) rfl rfl hS (fun b4 w' hS => ?_)
 refine x_done <| x_seq <| x_region <| p (yl_field0 fld_31_2 rfl) <|
  pa (at_load one_3 rfl (hS.cell rfl)) <| p (yl_move rfl) <| x_done <| ?_
 replace hF := bd_s hF; obtain ⟨oL2, hLL2, hF⟩ := hF
 refine x_join (fun E w => ∃ (q24 : List (T_rules_Fault × Bool)) (q25 : Bool), (q24, q25) = oL2 ∧ St w0 w (cells q0c 103 [.map (some q5), .bool q25] :: mapA q5 kf_63 Value.bool q24 :: ro ρ :: l)) ?_ ?_
 ·refine x_block ?_
  refine x_loop (fun k_ E w => ∃ (q3 : Int) (q8 : List (T_rules_Fault × Bool)) (q9 : Bool), lp (P_rules_antenna_L2 l_1 s2) k_ (q3, q8, q9) = some oL2 ∧ E 0 = .pointer (some ⟨q0c, 0, none⟩) ∧ E 2 = .slice q0j s2.length c_s2 ∧ E 4 = .pointer (some ⟨b4, 0, none⟩) ∧ E 26 = .int .i64 l_1.Layers ∧ E 27 = .int .i64 q3 ∧ St w0 w (cells q0c 103 [.map (some q5), .bool q9] :: cells b4 31 [.int .i64 l_1.W, .int .i64 l_1.H, .int .i64 l_1.Layers, .int .i64 l_1.Nets, .slice q0f l_1.Wires.length c_l_1_4, .slice q0g l_1.Vias.length c_l_1_5, .slice q6 l_1.Pins.length c_l_1_6, .slice q0h l_1.Walls.length c_l_1_7] :: mapA q5 kf_63 Value.bool q8 :: ro ρ :: l)) fuel ⟨0, q43, q44, hLL2, rfl, rfl, rfl, rfl, rfl, ((((hS.pull 3).pull 3).pull 2).pull 3)⟩ ?_
  rintro kL2 E w ⟨q3, q8, q9, hLL2, q6d, q2q, q6e, q36, q2g, hS⟩
  replace hLL2 := lp_s hLL2; obtain ⟨kL2, obL2, rfl, hFL2, hLL2⟩ := hLL2
  refine x_seq <| x_region <| p (yl_lss q2g q36) <| x_done <|
   x_seq <|
   x_cond_p (q3 < l_1.Layers) rfl (fun hc28 => ?_) (fun hc28 => ?_)
  ·replace hFL2 := it_t hc28 hFL2
   refine x_skip <| x_seq <| x_block <| x_seq <|
    x_region <| p (yl_move q2g) <| ?_
   refine o_alloc zero_3 hS (fun b6 w' hS => ?_)
   refine o_store1 (v := .int .i64 q3) one_3 rfl rfl rfl rfl hS (fun w' hS => ?_)
   refine x_done <| x_seq <| x_region <| p (v := .func (.func 72) #[] #[.pointer (some ⟨b6, 0, none⟩)]) (yl_makeFunc (by simp only [List.map_toArray, List.map_nil]) (by simp only [List.map_toArray, List.map_cons, List.map_nil]; rfl)) <|
    p (v := .func (.func 72) #[] #[.pointer (some ⟨b6, 0, none⟩)]) (yl_assign rfl) <| x_done <| x_seq <| x_region <| ?_
   refine o_mkmapM (Value.int .i64) kf_61 Value.bool hS (fun b31 w' hS => ?_)
   refine p (yl_assign rfl) <| x_done <| x_seq <| x_region <| ?_
   refine o_mkmap (κ := Int) (α := Int) (Value.int .i64) (Value.int .i64) hS (fun b32 w' hS => ?_)
   refine o_mkmap (κ := Int) (α := Bool) (Value.int .i64) Value.bool hS (fun b33 w' hS => ?_)
   refine o_mkmap (κ := Int) (α := T_rules_Spot) (Value.int .i64) kf_61 hS (fun b34 w' hS => ?_)
   replace hFL2 := bd_s hFL2; obtain ⟨q0a, q88, hFL2⟩ := hFL2
   refine p (yl_assign rfl) <| p (yl_assign rfl) <| p (yl_assign rfl) <| x_done <|
    x_seq <| x_region <| p (yl_move q2q) <| p (v := .func (.func 72) #[] #[.pointer (some ⟨b6, 0, none⟩)]) (yl_move rfl) <| ?_
   have hcall := c_rules_groups_3 q88 q2f ((hS.pull 8).pull 5)
   refine o_cc call_68 (args2 rfl rfl) hcall ?_
   rintro e w' ⟨q2, q6f, c_y0_ret_7_2, q7, rfl, q0o, hS⟩
   refine ⟨_, rfl, ?_⟩
   have e_ := St.vec_n hS q0o; subst e_
   refine p (yl_assign rfl) <| x_done <| x_seq <| x_seq <|
    x_region <| p (yl_move q2q) <| p (yl_len_slice usl_98 rfl) <| p (yl_move rfl) <|
    x_done <| ?_
   replace hFL2 := bd_s hFL2; obtain ⟨oL9, hLL9, hFL2⟩ := hFL2
   refine x_join (fun E w => ∃ (q0r : List Nat) (q0u : List (Int × List (T_rules_Spot × Bool))) (q14 : List (Int × Int)) (q0n : List (Int × Bool)) (q0v : List (Int × T_rules_Spot)), (q0u, q14, q0n, q0v) = oL9 ∧ E 0 = .pointer (some ⟨q0c, 0, none⟩) ∧ E 2 = .slice q0j s2.length c_s2 ∧ E 4 = .pointer (some ⟨b4, 0, none⟩) ∧ E 6 = .pointer (some ⟨b6, 0, none⟩) ∧ E 8 = .map (some b31) ∧ E 9 = .map (some b32) ∧ E 10 = .map (some b33) ∧ E 11 = .map (some b34) ∧ E 12 = .slice q2 q0a.length c_y0_ret_7_2 ∧ E 26 = .int .i64 l_1.Layers ∧ E 27 = .int .i64 q3 ∧ St w0 w (cells q0c 103 [.map (some q5), .bool q9] :: cells b4 31 [.int .i64 l_1.W, .int .i64 l_1.H, .int .i64 l_1.Layers, .int .i64 l_1.Nets, .slice q0f l_1.Wires.length c_l_1_4, .slice q0g l_1.Vias.length c_l_1_5, .slice q6 l_1.Pins.length c_l_1_6, .slice q0h l_1.Walls.length c_l_1_7] :: cells b6 3 [.int .i64 q3] :: mapM b31 (Value.int .i64) kf_61 Value.bool q0u q0r :: mapA b32 (Value.int .i64) (Value.int .i64) q14 :: mapA b33 (Value.int .i64) Value.bool q0n :: mapA b34 (Value.int .i64) kf_61 q0v :: vec 3 (RpI .i64).sz (.slice q2 q0a.length c_y0_ret_7_2) q0a.length q7 :: mapA q5 kf_63 Value.bool q8 :: ro ρ :: l)) ?_ ?_
   ·refine x_block ?_
    refine x_loop (fun k_ E w => ∃ (q0d : List Nat) (q0k : List (Int × List (T_rules_Spot × Bool))) (q0i : List (Int × Int)) (q0b : List (Int × Bool)) (q0e : List (Int × T_rules_Spot)) (q0l : Int), lp (P_rules_antenna_L9 l_1 s2 q0a q3) k_ (q0k, q0i, q0b, q0e, q0l) = some oL9 ∧ E 0 = .pointer (some ⟨q0c, 0, none⟩) ∧ E 2 = .slice q0j s2.length c_s2 ∧ E 4 = .pointer (some ⟨b4, 0, none⟩) ∧ E 6 = .pointer (some ⟨b6, 0, none⟩) ∧ E 7 = .func (.func 72) #[] #[.pointer (some ⟨b6, 0, none⟩)] ∧ E 8 = .map (some b31) ∧ E 9 = .map (some b32) ∧ E 10 = .map (some b33) ∧ E 11 = .map (some b34) ∧ E 12 = .slice q2 q0a.length c_y0_ret_7_2 ∧ E 26 = .int .i64 l_1.Layers ∧ E 27 = .int .i64 q3 ∧ E 38 = .slice q0j s2.length c_s2 ∧ E 39 = .int .i64 (s2.length : Int) ∧ E 40 = .int .i64 q0l ∧ St w0 w (cells q0c 103 [.map (some q5), .bool q9] :: cells b4 31 [.int .i64 l_1.W, .int .i64 l_1.H, .int .i64 l_1.Layers, .int .i64 l_1.Nets, .slice q0f l_1.Wires.length c_l_1_4, .slice q0g l_1.Vias.length c_l_1_5, .slice q6 l_1.Pins.length c_l_1_6, .slice q0h l_1.Walls.length c_l_1_7] :: cells b6 3 [.int .i64 q3] :: mapM b31 (Value.int .i64) kf_61 Value.bool q0k q0d :: mapA b32 (Value.int .i64) (Value.int .i64) q0i :: mapA b33 (Value.int .i64) Value.bool q0b :: mapA b34 (Value.int .i64) kf_61 q0e :: vec 3 (RpI .i64).sz (.slice q2 q0a.length c_y0_ret_7_2) q0a.length q7 :: mapA q5 kf_63 Value.bool q8 :: ro ρ :: l)) fuel ⟨[], [], [], [], [], 0, hLL9, q6d, q2q, q6e, rfl, rfl, rfl, rfl, rfl, rfl, rfl, q36, q2g, rfl, rfl, rfl, ((((((((((hS.pull 2).pull 9).pull 2).pull 4).pull 5).pull 6).pull 7).pull 7).pull 9).pull 9)⟩ ?_
    rintro kL9 E w ⟨q0d, q0k, q0i, q0b, q0e, q0l, hLL9, q1p, q1q, q0y, q1r, q22, q0z, q1s, q0w, q0p, q0x, q15, q16, q17, q18, q0q, hS⟩
    replace hLL9 := lp_s hLL9; obtain ⟨kL9, obL9, rfl, hFL9, hLL9⟩ := hLL9
    refine x_seq <| x_region <| p (yl_lss q0q q18) <| x_done <|
     x_seq <|
     x_cond_p (q0l < (s2.length : Int)) rfl (fun hc41 => ?_) (fun hc41 => ?_)
    ·replace hFL9 := it_t hc41 hFL9
     replace hFL9 := ck_s hFL9; obtain ⟨q3i, hFL9⟩ := hFL9
     replace hFL9 := lv_s hFL9; obtain ⟨q4, q6g, hFL9⟩ := hFL9
     have q_ := q2f.get q3i; obtain ⟨q8l, q3j, q6h⟩ := q_
     rw [← q6g] at q3j
     obtain ⟨q19, q8j, q1n, rfl, q1o⟩ := q3j
     have e_ := q1o.n; subst e_
     refine x_skip <| x_seq <| x_block <| x_seq <|
      x_region <| p (yl_move q0q) <| p (yix_f sl_98 q17 q0q q2f q3i) <| pa (v := .agg #[.int .i64 q4.fnet, .slice q19 q4.fspots.length q1n, .bool q4.fwire, .int .i64 q4.fpin]) (at_loadAgg agg_122 rfl rfl (Elt.every q6h (hS.pull 9))) <| ?_
     refine o_alloc zero_122 hS (fun b14 w' hS => ?_)
     refine p (yl_assign rfl) <| ?_
     refine o_storeAgg (news := [.int .i64 q4.fnet, .slice q19 q4.fspots.length q1n, .bool q4.fwire, .int .i64 q4.fpin]) agg_122 rfl rfl rfl (by simp [over_length]) hS (fun w' hS => ?_)
     replace hFL9 := ck_s hFL9; obtain ⟨q3k, hFL9⟩ := hFL9
     replace hFL9 := lv_s hFL9; obtain ⟨x48, hx48, hFL9⟩ := hFL9
     refine x_done <| x_seq <| x_region <| p (yl_move q0x) <|
      p (yl_move rfl) <| p (yix_o sl_22 rfl rfl (hS.pull 8) q0o q3k) <| pa (at_load one_3 rfl (RepL.getW q0o (hS.pull 8) q3k hx48)) <| p (yl_assign rfl) <|
      x_done <| x_block <| x_seq <| x_region <|
      p (yl_field0 fld_122_2 rfl) <| pa (at_load one_4 rfl (hS.cell rfl)) <| p (yl_assign rfl) <| x_done <| ?_
     replace hFL9 := bd_s hFL9; obtain ⟨oc49, hFc49, hFL9⟩ := hFL9
     refine x_join (fun E w => ∃ (q1t : List Nat) (q1w : List (Int × List (T_rules_Spot × Bool))) (q1x : List (Int × Int)) (q10 : List (Int × Bool)) (q1i : List (Int × T_rules_Spot)), (q1w, q1x, q10, q1i) = oc49 ∧ E 0 = .pointer (some ⟨q0c, 0, none⟩) ∧ E 2 = .slice q0j s2.length c_s2 ∧ E 4 = .pointer (some ⟨b4, 0, none⟩) ∧ E 6 = .pointer (some ⟨b6, 0, none⟩) ∧ E 7 = .func (.func 72) #[] #[.pointer (some ⟨b6, 0, none⟩)] ∧ E 8 = .map (some b31) ∧ E 9 = .map (some b32) ∧ E 10 = .map (some b33) ∧ E 11 = .map (some b34) ∧ E 12 = .slice q2 q0a.length c_y0_ret_7_2 ∧ E 26 = .int .i64 l_1.Layers ∧ E 27 = .int .i64 q3 ∧ E 38 = .slice q0j s2.length c_s2 ∧ E 39 = .int .i64 (s2.length : Int) ∧ E 40 = .int .i64 q0l ∧ St w0 w (cells q0c 103 [.map (some q5), .bool q9] :: cells b4 31 [.int .i64 l_1.W, .int .i64 l_1.H, .int .i64 l_1.Layers, .int .i64 l_1.Nets, .slice q0f l_1.Wires.length c_l_1_4, .slice q0g l_1.Vias.length c_l_1_5, .slice q6 l_1.Pins.length c_l_1_6, .slice q0h l_1.Walls.length c_l_1_7] :: cells b6 3 [.int .i64 q3] :: mapM b31 (Value.int .i64) kf_61 Value.bool q1w q1t :: mapA b32 (Value.int .i64) (Value.int .i64) q1x :: mapA b33 (Value.int .i64) Value.bool q10 :: mapA b34 (Value.int .i64) kf_61 q1i :: vec 3 (RpI .i64).sz (.slice q2 q0a.length c_y0_ret_7_2) q0a.length q7 :: mapA q5 kf_63 Value.bool q8 :: ro ρ :: l)) ?_ ?_
     ·refine x_cond (t := q4.fwire) rfl (fun hc49 => ?_) (fun hc49 => ?_)
      ·replace hFc49 := it_t hc49 hFc49
       replace hFc49 := lv_s hFc49; obtain ⟨x55, hx55, hFc49⟩ := hFc49
       refine x_seq <| x_seq <| x_region <| p (yl_move q0z) <|
        p (yl_move rfl) <| pa (v := .map (mb x48 q0k q0d)) (at_lookM um_130 (KeyP.int ui_3) (zero1 zv_84) rfl rfl (hS.pull 4)) <| pa (at_nilM um_84 rfl rfl (hS.pull 4) hx55) <| x_done <| ?_
       replace hFc49 := bd_s hFc49; obtain ⟨oc55, hFc55, hFc49⟩ := hFc49
       refine x_join (fun E w => ∃ (q1u : List Nat) (q1y : List (Int × List (T_rules_Spot × Bool))), q1y = oc55 ∧ E 0 = .pointer (some ⟨q0c, 0, none⟩) ∧ E 2 = .slice q0j s2.length c_s2 ∧ E 4 = .pointer (some ⟨b4, 0, none⟩) ∧ E 6 = .pointer (some ⟨b6, 0, none⟩) ∧ E 7 = .func (.func 72) #[] #[.pointer (some ⟨b6, 0, none⟩)] ∧ E 8 = .map (some b31) ∧ E 9 = .map (some b32) ∧ E 10 = .map (some b33) ∧ E 11 = .map (some b34) ∧ E 12 = .slice q2 q0a.length c_y0_ret_7_2 ∧ E 14 = .pointer (some ⟨b14, 0, none⟩) ∧ E 15 = .int .i64 x48 ∧ E 26 = .int .i64 l_1.Layers ∧ E 27 = .int .i64 q3 ∧ E 38 = .slice q0j s2.length c_s2 ∧ E 39 = .int .i64 (s2.length : Int) ∧ E 40 = .int .i64 q0l ∧ St w0 w (cells q0c 103 [.map (some q5), .bool q9] :: cells b4 31 [.int .i64 l_1.W, .int .i64 l_1.H, .int .i64 l_1.Layers, .int .i64 l_1.Nets, .slice q0f l_1.Wires.length c_l_1_4, .slice q0g l_1.Vias.length c_l_1_5, .slice q6 l_1.Pins.length c_l_1_6, .slice q0h l_1.Walls.length c_l_1_7] :: cells b6 3 [.int .i64 q3] :: mapM b31 (Value.int .i64) kf_61 Value.bool q1y q1u :: mapA b32 (Value.int .i64) (Value.int .i64) q0i :: mapA b33 (Value.int .i64) Value.bool q0b :: mapA b34 (Value.int .i64) kf_61 q0e :: vec 3 (RpI .i64).sz (.slice q2 q0a.length c_y0_ret_7_2) q0a.length q7 :: cells b14 122 [.int .i64 q4.fnet, .slice q19 q4.fspots.length q1n, .bool q4.fwire, .int .i64 q4.fpin] :: mapA q5 kf_63 Value.bool q8 :: ro ρ :: l)) ?_ ?_
       ·refine x_cond (t := x55) rfl (fun hc55 => ?_) (fun hc55 => ?_)
        ·replace hFc55 := it_t hc55 hFc55
         refine x_region <| p (yl_move q0z) <| p (yl_move rfl) <| ?_
         refine o_mkmap (κ := T_rules_Spot) (α := Bool) kf_61 Value.bool hS (fun b58 w' hS => ?_)
         replace hFc55 := ck_s hFc55; obtain ⟨q6i, hFc55⟩ := hFc55
         replace hFc55 := lv_s hFc55; obtain ⟨q89, q6j, hFc55⟩ := hFc55
         refine o_mapsetM (k := x48) um_130 (KeyP.int ui_3) rfl rfl rfl q6i ((hS.pull 5).pull 1) q6j (fun q6k w' hS => ?_)
         refine x_done <| ?_
         exact x_inv ⟨q6k, q89, (sinj hFc55), q1p, q1q, q0y, q1r, q22, q0z, q1s, q0w, q0p, q0x, rfl, rfl, q15, q16, q17, q18, q0q, (((((((((((hS.pull 10).pull 10).pull 3).pull 10).pull 10).pull 10).pull 10).pull 7).pull 10).pull 10).pull 10)⟩
        ·replace hFc55 := it_bf hc55 hFc55
         refine x_skip <| ?_
         exact x_inv ⟨q0d, q0k, (sinj hFc55), q1p, q1q, q0y, q1r, q22, q0z, q1s, q0w, q0p, q0x, rfl, rfl, q15, q16, q17, q18, q0q, (((((((((((hS.pull 10).pull 10).pull 2).pull 10).pull 10).pull 10).pull 10).pull 10).pull 10).pull 10).pull 10)⟩
       rintro E w ⟨q1u, q1y, rfl, q6l, q6m, q6n, q6o, q3l, q6p, q6q, q4o, q4p, q4q, q4r, q4s, q4t, q4u, q4v, q4w, q4x, hS⟩
       replace hFc49 := bd_s hFc49; obtain ⟨q2o, q6r, hFc49⟩ := hFc49
       refine x_seq <| x_region <| p (yl_move q3l) <| pa (v := .agg #[.int .i64 q4.fnet, .slice q19 q4.fspots.length q1n, .bool q4.fwire, .int .i64 q4.fpin]) (ld_sub agg_122 q4r rfl rfl (hS.pull 8)) <| ?_
       have hcall := c_rules_antenna_1 q6r q1o ((hS.pull 10).pull 3)
       refine o_ccv rfl call_72 (capargs (args1 rfl)) hcall ?_
       rintro e w' ⟨q2n, q6b, c_y0_ret_15_2, rfl, q1h, hS⟩
       refine ⟨_, rfl, ?_⟩
       have e_ := q1h.n; subst e_
       refine p (yl_len_slice usl_120 rfl) <| p (yl_move rfl) <| x_done <| ?_
       replace hFc49 := bd_s hFc49; obtain ⟨oL16, hLL16, hFc49⟩ := hFc49
       refine x_join (fun E w => ∃ (q1v : List Nat) (q1z : List (Int × List (T_rules_Spot × Bool))), q1z = oL16 ∧ E 0 = .pointer (some ⟨q0c, 0, none⟩) ∧ E 2 = .slice q0j s2.length c_s2 ∧ E 4 = .pointer (some ⟨b4, 0, none⟩) ∧ E 6 = .pointer (some ⟨b6, 0, none⟩) ∧ E 7 = .func (.func 72) #[] #[.pointer (some ⟨b6, 0, none⟩)] ∧ E 8 = .map (some b31) ∧ E 9 = .map (some b32) ∧ E 10 = .map (some b33) ∧ E 11 = .map (some b34) ∧ E 12 = .slice q2 q0a.length c_y0_ret_7_2 ∧ E 26 = .int .i64 l_1.Layers ∧ E 27 = .int .i64 q3 ∧ E 38 = .slice q0j s2.length c_s2 ∧ E 39 = .int .i64 (s2.length : Int) ∧ E 40 = .int .i64 q0l ∧ St w0 w (cells q0c 103 [.map (some q5), .bool q9] :: cells b4 31 [.int .i64 l_1.W, .int .i64 l_1.H, .int .i64 l_1.Layers, .int .i64 l_1.Nets, .slice q0f l_1.Wires.length c_l_1_4, .slice q0g l_1.Vias.length c_l_1_5, .slice q6 l_1.Pins.length c_l_1_6, .slice q0h l_1.Walls.length c_l_1_7] :: cells b6 3 [.int .i64 q3] :: mapM b31 (Value.int .i64) kf_61 Value.bool q1z q1v :: mapA b32 (Value.int .i64) (Value.int .i64) q0i :: mapA b33 (Value.int .i64) Value.bool q0b :: mapA b34 (Value.int .i64) kf_61 q0e :: vec 3 (RpI .i64).sz (.slice q2 q0a.length c_y0_ret_7_2) q0a.length q7 :: mapA q5 kf_63 Value.bool q8 :: ro ρ :: l)) ?_ ?_
       ·refine x_block ?_
        refine x_loop (fun k_ E w => ∃ (q0m : List Nat) (q11 : List (Int × List (T_rules_Spot × Bool))) (q23 : Int), lp (P_rules_antenna_L16 x48 q2o) k_ (q11, q23) = some oL16 ∧ E 0 = .pointer (some ⟨q0c, 0, none⟩) ∧ E 2 = .slice q0j s2.length c_s2 ∧ E 4 = .pointer (some ⟨b4, 0, none⟩) ∧ E 6 = .pointer (some ⟨b6, 0, none⟩) ∧ E 7 = .func (.func 72) #[] #[.pointer (some ⟨b6, 0, none⟩)] ∧ E 8 = .map (some b31) ∧ E 9 = .map (some b32) ∧ E 10 = .map (some b33) ∧ E 11 = .map (some b34) ∧ E 12 = .slice q2 q0a.length c_y0_ret_7_2 ∧ E 15 = .int .i64 x48 ∧ E 26 = .int .i64 l_1.Layers ∧ E 27 = .int .i64 q3 ∧ E 38 = .slice q0j s2.length c_s2 ∧ E 39 = .int .i64 (s2.length : Int) ∧ E 40 = .int .i64 q0l ∧ E 61 = .slice q2n q2o.length c_y0_ret_15_2 ∧ E 62 = .int .i64 (q2o.length : Int) ∧ E 63 = .int .i64 q23 ∧ St w0 w (cells q0c 103 [.map (some q5), .bool q9] :: cells b4 31 [.int .i64 l_1.W, .int .i64 l_1.H, .int .i64 l_1.Layers, .int .i64 l_1.Nets, .slice q0f l_1.Wires.length c_l_1_4, .slice q0g l_1.Vias.length c_l_1_5, .slice q6 l_1.Pins.length c_l_1_6, .slice q0h l_1.Walls.length c_l_1_7] :: cells b6 3 [.int .i64 q3] :: mapM b31 (Value.int .i64) kf_61 Value.bool q11 q0m :: mapA b32 (Value.int .i64) (Value.int .i64) q0i :: mapA b33 (Value.int .i64) Value.bool q0b :: mapA b34 (Value.int .i64) kf_61 q0e :: vec 3 (RpI .i64).sz (.slice q2 q0a.length c_y0_ret_7_2) q0a.length q7 :: mapA q5 kf_63 Value.bool q8 :: ro ρ :: l)) fuel ⟨q1u, q1y, 0, hLL16, q6l, q6m, q6n, q6o, q3l, q6p, q6q, q4o, q4p, q4q, q4s, q4t, q4u, q4v, q4w, q4x, rfl, rfl, rfl, (((((((((((hS.pull 9).drop.pull 1).pull 9).pull 9).pull 9).pull 9).pull 9).pull 9).pull 7).pull 9).pull 9)⟩ ?_
        rintro kL16 E w ⟨q0m, q11, q23, hLL16, q37, q38, q39, q3a, q3b, q2h, q3c, q2r, q2s, q2t, q2u, q2v, q2w, q2x, q2y, q2z, q30, q31, q29, hS⟩
        replace hLL16 := lp_s hLL16; obtain ⟨kL16, obL16, rfl, hFL16, hLL16⟩ := hLL16
        refine x_seq <| x_region <| p (yl_lss q29 q31) <| x_done <|
         x_seq <|
         x_cond_p (q23 < (q2o.length : Int)) rfl (fun hc64 => ?_) (fun hc64 => ?_)
        ·replace hFL16 := it_t hc64 hFL16
         replace hFL16 := ck_s hFL16; obtain ⟨q3m, hFL16⟩ := hFL16
         replace hFL16 := lv_s hFL16; obtain ⟨q1a, q6s, hFL16⟩ := hFL16
         have q_ := q1h.get q3m; obtain ⟨q8m, q3n, q6t⟩ := q_
         rw [← q6s] at q3n
         have e_ := q3n; subst e_
         refine x_skip <| x_seq <| x_block <| x_seq <|
          x_region <| p (yix_f sl_120 q30 q29 q1h q3m) <| pa (v := .agg #[.int .i64 q1a.Layer, .int .i64 q1a.X, .int .i64 q1a.Y]) (at_loadAgg agg_61 rfl rfl (Elt.every q6t (hS.pull 9))) <| ?_
         refine o_alloc zero_61 hS (fun b17 w' hS => ?_)
         refine o_storeAgg (news := [.int .i64 q1a.Layer, .int .i64 q1a.X, .int .i64 q1a.Y]) agg_61 rfl rfl rfl (by simp [over_length]) hS (fun w' hS => ?_)
         refine x_done <| x_region <| p (yl_move q2h) <| p (yl_move q2u) <|
          pa (v := .map (mb x48 q11 q0m)) (at_lookM um_130 (KeyP.int ui_3) (zero1 zv_84) rfl rfl (hS.pull 4)) <| pa (v := .agg #[.int .i64 q1a.Layer, .int .i64 q1a.X, .int .i64 q1a.Y]) (ld_sub agg_61 rfl rfl rfl hS) <| ?_
         replace hFL16 := ck_s hFL16; obtain ⟨q6u, hFL16⟩ := hFL16
         replace hFL16 := lv_s hFL16; obtain ⟨q8a, q6v, hFL16⟩ := hFL16
         refine o_setinM (k := x48) (k2 := q1a) (vf2 := Value.bool) (v := true) um_84 kp_61 rfl rfl rfl q6u (hS.pull 4) q6v (fun w' hS => ?_)
         replace hFL16 := ar_s hFL16; obtain ⟨x71, hx71, hFL16⟩ := hFL16
         refine x_done <| x_blk <| x_region <| p (yadd q29 rfl hx71) <|
          p (yl_move rfl) <| x_done <| ?_
         have e_ := sinj hFL16; subst e_
         exact x_inv ⟨kL16, Nat.lt_succ_self _, q0m, q8a, x71, hLL16, q37, q38, q39, q3a, q3b, q2h, q3c, q2r, q2s, q2t, q2u, q2v, q2w, q2x, q2y, q2z, q30, q31, rfl, (((((((((((hS.pull 1).drop.pull 9).pull 9).pull 9).pull 9).pull 9).pull 9).pull 6).pull 9).pull 9).pull 9)⟩
        ·replace hFL16 := it_f hc64 hFL16
         refine x_exitTo _ rfl <| ?_
         have e_ := sinj hFL16; subst e_
         exact x_inv ⟨q0m, q11, hLL16, q37, q38, q39, q3a, q3b, q2h, q3c, q2r, q2s, q2t, q2v, q2w, q2x, q2y, q2z, ((((((((((hS.pull 9).pull 9).pull 9).pull 9).pull 9).pull 9).pull 9).pull 9).pull 9).pull 9)⟩
       rintro E w ⟨q1v, q1z, rfl, q6w, q6x, q6y, q6z, q70, q71, q72, q4y, q4z, q50, q51, q52, q53, q54, q55, hS⟩
       exact x_inv ⟨q1v, q1z, q0i, q0b, q0e, (sinj hFc49), q6w, q6x, q6y, q6z, q70, q71, q72, q4y, q4z, q50, q51, q52, q53, q54, q55, ((((((((((hS.pull 9).pull 9).pull 9).pull 9).pull 9).pull 9).pull 9).pull 9).pull 9).pull 9)⟩
      ·replace hFc49 := it_bf hc49 hFc49
       replace hFc49 := ck_s hFc49; obtain ⟨q3o, hFc49⟩ := hFc49
       replace hFc49 := lv_s hFc49; obtain ⟨x84, hx84, hFc49⟩ := hFc49
       refine x_seq <| x_region <| p (yl_field0 fld_122_3 rfl) <| pa (at_load one_3 rfl (hS.cell rfl)) <|
        p (yl_geq rfl rfl) <| p (yl_move rfl) <| pg (v := .pointer (some ⟨b4, 6, none⟩)) 76 (c := decide (0 ≤ q4.fpin)) (says_t _) (fun hq => Yl.at (yl_field0 fld_31_6 q0y)) <| pg (v := .slice q6 l_1.Pins.length c_l_1_6) 76 (c := decide (0 ≤ q4.fpin)) (says_t _) (fun hq => at_load one_28 (cv hq) ((hS.pull 2).cell rfl)) <|
        pg (v := .pointer (some ⟨b14, 3, none⟩)) 76 (c := decide (0 ≤ q4.fpin)) (says_t _) (fun hq => Yl.at (yl_field0 fld_122_3 rfl)) <| pg (v := .int .i64 q4.fpin) 76 (c := decide (0 ≤ q4.fpin)) (says_t _) (fun hq => at_load one_3 (cv hq) (hS.cell rfl)) <| pg (v := .pointer (some ((adr q6).add (q4.fpin.toNat * R_rules_Pin.sz)))) 76 (c := decide (0 ≤ q4.fpin)) (says_t _) (fun hq => Yl.at (yix_f sl_28 (cv hq) (cv hq) q13 (q3o hq))) <| pg (v := .pointer (some (((adr q6).add (q4.fpin.toNat * R_rules_Pin.sz)).add 3))) 76 (c := decide (0 ≤ q4.fpin)) (says_t _) (fun hq => Yl.at (yl_fieldAddr fld_39_3 (cv hq))) <|
        pg (v := .bool ((gt l_1.Pins q4.fpin).Drive)) 76 (c := decide (0 ≤ q4.fpin)) (says_t _) (fun hq => (by obtain ⟨el, ek, ee⟩ := q13.get (q3o hq); obtain rfl := ek; exact at_load one_4 (cv hq) (Elt.ld (j := 3) ee (hS.pull 10) rfl))) <| p (yand' rfl (fun hc => (cv hc)) rfl hx84) <| p (yl_assign rfl) <| x_done <| ?_
       replace hFc49 := bd_s hFc49; obtain ⟨oc72, hFc72, hFc49⟩ := hFc49
       refine x_join (fun E w => ∃ (q20 : List (Int × Int)) (q12 : List (Int × Bool)) (q1j : List (Int × T_rules_Spot)), (q20, q12, q1j) = oc72 ∧ E 0 = .pointer (some ⟨q0c, 0, none⟩) ∧ E 2 = .slice q0j s2.length c_s2 ∧ E 4 = .pointer (some ⟨b4, 0, none⟩) ∧ E 6 = .pointer (some ⟨b6, 0, none⟩) ∧ E 7 = .func (.func 72) #[] #[.pointer (some ⟨b6, 0, none⟩)] ∧ E 8 = .map (some b31) ∧ E 9 = .map (some b32) ∧ E 10 = .map (some b33) ∧ E 11 = .map (some b34) ∧ E 12 = .slice q2 q0a.length c_y0_ret_7_2 ∧ E 26 = .int .i64 l_1.Layers ∧ E 27 = .int .i64 q3 ∧ E 38 = .slice q0j s2.length c_s2 ∧ E 39 = .int .i64 (s2.length : Int) ∧ E 40 = .int .i64 q0l ∧ St w0 w (cells q0c 103 [.map (some q5), .bool q9] :: cells b4 31 [.int .i64 l_1.W, .int .i64 l_1.H, .int .i64 l_1.Layers, .int .i64 l_1.Nets, .slice q0f l_1.Wires.length c_l_1_4, .slice q0g l_1.Vias.length c_l_1_5, .slice q6 l_1.Pins.length c_l_1_6, .slice q0h l_1.Walls.length c_l_1_7] :: cells b6 3 [.int .i64 q3] :: mapM b31 (Value.int .i64) kf_61 Value.bool q0k q0d :: mapA b32 (Value.int .i64) (Value.int .i64) q20 :: mapA b33 (Value.int .i64) Value.bool q12 :: mapA b34 (Value.int .i64) kf_61 q1j :: vec 3 (RpI .i64).sz (.slice q2 q0a.length c_y0_ret_7_2) q0a.length q7 :: mapA q5 kf_63 Value.bool q8 :: ro ρ :: l)) ?_ ?_
       ·refine x_cond (t := x84) rfl (fun hc72 => ?_) (fun hc72 => ?_)
        ·replace hFc72 := it_t hc72 hFc72
         refine x_region <| p (yl_move q0w) <| p (yl_move rfl) <| ?_
         replace hFc72 := lv_s hFc72; obtain ⟨q8b, q73, hFc72⟩ := hFc72
         refine o_mapset (k := x48) (vf := Value.bool) (v := true) um_134 (KeyP.int ui_3) rfl rfl rfl (hS.pull 6) q73 (fun w' hS => ?_)
         refine x_done <| ?_
         exact x_inv ⟨q0i, q8b, q0e, (sinj hFc72), q1p, q1q, q0y, q1r, q22, q0z, q1s, q0w, q0p, q0x, q15, q16, q17, q18, q0q, (((((((((((hS.pull 1).drop.pull 9).pull 9).pull 9).pull 9).pull 4).pull 9).pull 9).pull 9).pull 9).pull 9)⟩
        ·replace hFc72 := it_bf hc72 hFc72
         replace hFc72 := ck_s hFc72; obtain ⟨q3p, hFc72⟩ := hFc72
         replace hFc72 := lv_s hFc72; obtain ⟨x100, hx100, hFc72⟩ := hFc72
         refine x_seq <| x_region <| p (yl_field0 fld_122_3 rfl) <| pa (at_load one_3 rfl (hS.cell rfl)) <|
          p (yl_geq rfl rfl) <| p (yl_move rfl) <| pg (v := .pointer (some ⟨b4, 6, none⟩)) 91 (c := decide (0 ≤ q4.fpin)) (says_t _) (fun hq => Yl.at (yl_field0 fld_31_6 q0y)) <| pg (v := .slice q6 l_1.Pins.length c_l_1_6) 91 (c := decide (0 ≤ q4.fpin)) (says_t _) (fun hq => at_load one_28 (cv hq) ((hS.pull 2).cell rfl)) <|
          pg (v := .pointer (some ⟨b14, 3, none⟩)) 91 (c := decide (0 ≤ q4.fpin)) (says_t _) (fun hq => Yl.at (yl_field0 fld_122_3 rfl)) <| pg (v := .int .i64 q4.fpin) 91 (c := decide (0 ≤ q4.fpin)) (says_t _) (fun hq => at_load one_3 (cv hq) (hS.cell rfl)) <| pg (v := .pointer (some ((adr q6).add (q4.fpin.toNat * R_rules_Pin.sz)))) 91 (c := decide (0 ≤ q4.fpin)) (says_t _) (fun hq => Yl.at (yix_f sl_28 (cv hq) (cv hq) q13 (q3p hq))) <| pg (v := .pointer (some (((adr q6).add (q4.fpin.toNat * R_rules_Pin.sz)).add 4))) 91 (c := decide (0 ≤ q4.fpin)) (says_t _) (fun hq => Yl.at (yl_fieldAddr fld_39_4 (cv hq))) <|
          pg (v := .int .i64 ((gt l_1.Pins q4.fpin).Size)) 91 (c := decide (0 ≤ q4.fpin)) (says_t _) (fun hq => (by obtain ⟨el, ek, ee⟩ := q13.get (q3p hq); obtain rfl := ek; exact at_load one_3 (cv hq) (Elt.ld (j := 4) ee (hS.pull 10) rfl))) <| pg (v := .bool (decide (0 < ((gt l_1.Pins q4.fpin).Size)))) 91 (c := decide (0 ≤ q4.fpin)) (says_t _) (fun hq => Yl.at (yl_gtr (cv hq) rfl)) <| p (yand' rfl (fun hc => (cv hc)) rfl hx100) <| p (yl_assign rfl) <|
          x_done <| ?_
         replace hFc72 := bd_s hFc72; obtain ⟨oc87, hFc87, hFc72⟩ := hFc72
         refine x_join (fun E w => ∃ (q21 : List (Int × Int)) (q1k : List (Int × T_rules_Spot)), (q21, q1k) = oc87 ∧ E 0 = .pointer (some ⟨q0c, 0, none⟩) ∧ E 2 = .slice q0j s2.length c_s2 ∧ E 4 = .pointer (some ⟨b4, 0, none⟩) ∧ E 6 = .pointer (some ⟨b6, 0, none⟩) ∧ E 7 = .func (.func 72) #[] #[.pointer (some ⟨b6, 0, none⟩)] ∧ E 8 = .map (some b31) ∧ E 9 = .map (some b32) ∧ E 10 = .map (some b33) ∧ E 11 = .map (some b34) ∧ E 12 = .slice q2 q0a.length c_y0_ret_7_2 ∧ E 26 = .int .i64 l_1.Layers ∧ E 27 = .int .i64 q3 ∧ E 38 = .slice q0j s2.length c_s2 ∧ E 39 = .int .i64 (s2.length : Int) ∧ E 40 = .int .i64 q0l ∧ St w0 w (cells q0c 103 [.map (some q5), .bool q9] :: cells b4 31 [.int .i64 l_1.W, .int .i64 l_1.H, .int .i64 l_1.Layers, .int .i64 l_1.Nets, .slice q0f l_1.Wires.length c_l_1_4, .slice q0g l_1.Vias.length c_l_1_5, .slice q6 l_1.Pins.length c_l_1_6, .slice q0h l_1.Walls.length c_l_1_7] :: cells b6 3 [.int .i64 q3] :: mapM b31 (Value.int .i64) kf_61 Value.bool q0k q0d :: mapA b32 (Value.int .i64) (Value.int .i64) q21 :: mapA b33 (Value.int .i64) Value.bool q0b :: mapA b34 (Value.int .i64) kf_61 q1k :: vec 3 (RpI .i64).sz (.slice q2 q0a.length c_y0_ret_7_2) q0a.length q7 :: mapA q5 kf_63 Value.bool q8 :: ro ρ :: l)) ?_ ?_
         ·refine x_cond (t := x100) rfl (fun hc87 => ?_) (fun hc87 => ?_)
          ·replace hFc87 := it_t hc87 hFc87
           replace hFc87 := lv_s hFc87; obtain ⟨x104, hx104, hFc87⟩ := hFc87
           replace hFc87 := lv_s hFc87; obtain ⟨q104, hq104, hFc87⟩ := hFc87
           refine x_seq <| x_seq <| x_region <| p (yl_move q0p) <|
            p (yl_move rfl) <| pa (v := .tuple #[.agg #[.int .i64 x104.Layer, .int .i64 x104.X, .int .i64 x104.Y], .bool q104]) (at_look2 (k := x48) (vf := kf_61) (r := x104) (d := (T_rules_Spot.mk 0 0 0)) um_135 (KeyP.int ui_3) (zero1 zv_61) rfl rfl (hS.pull 7) hx104 hq104) <| p (v := .tuple #[.agg #[.int .i64 x104.Layer, .int .i64 x104.X, .int .i64 x104.Y], .bool q104]) (yl_move rfl) <| p (yl_extract rfl rfl) <|
            p (yl_extract rfl rfl) <| ?_
           refine o_alloc zero_61 hS (fun b18 w' hS => ?_)
           refine o_storeAgg (news := [.int .i64 x104.Layer, .int .i64 x104.X, .int .i64 x104.Y]) agg_61 rfl rfl rfl (by simp [over_length]) hS (fun w' hS => ?_)
           replace hFc87 := ck_s hFc87; obtain ⟨q3q, hFc87⟩ := hFc87
           replace hFc87 := lv_s hFc87; obtain ⟨q3h, q74, hFc87⟩ := hFc87
           have q_ := RdS.getD R_rules_Spot_d q1o (0 : Int); obtain ⟨q8n, q3r, q75⟩ := q_
           rw [← q74] at q3r
           have e_ := q3r; subst e_
           replace hFc87 := bd_s hFc87; obtain ⟨q8c, q76, hFc87⟩ := hFc87
           replace hFc87 := lv_s hFc87; obtain ⟨x116, hx116, hFc87⟩ := hFc87
           refine p (yl_assign rfl) <| x_done <| x_seq <| x_still mixed (by kernel_rfl) hS <|
            q (yl_move rfl) <| q (yl_not rfl) <| q (yl_move rfl) <| qg (v := .pointer (some ⟨b14, 1, none⟩)) 109 (c := !(!q104)) (says_f _) (fun hq w' hS => Yl.at (yl_field0 fld_122_1 rfl)) <|
            qg (v := .slice q19 q4.fspots.length q1n) 109 (c := !(!q104)) (says_f _) (fun hq w' hS => at_load one_120 (cv hq) ((hS.pull 1).cell rfl)) <| qg (v := .pointer (some ((adr q19).add ((0 : Int).toNat * R_rules_Spot.sz)))) 109 (c := !(!q104)) (says_f _) (fun hq w' hS => Yl.at (yix_f sl_120 (cv hq) rfl q1o (q3q hq))) <| qg (v := .agg #[.int .i64 q3h.Layer, .int .i64 q3h.X, .int .i64 q3h.Y]) 109 (c := !(!q104)) (says_f _) (fun hq w' hS => at_loadAgg agg_61 (cv hq) rfl (Elt.every (q75 (q3q hq)) (hS.pull 11))) <| qg (v := .agg #[.int .i64 x104.Layer, .int .i64 x104.X, .int .i64 x104.Y]) 109 (c := !(!q104)) (says_f _) (fun hq w' hS => ld_sub agg_61 rfl rfl rfl hS) <|
            qccg (v := .bool q8c) 109 (c := !(!q104)) (says_f _) call_71 (fun hq => (args2 (cv hq) (cv hq))) (fun hq w' hS => by
             have hcall := c_rules_Spot_before (gd_t q76 hq)  (hS.pull 11)
             exact (Calls.mono hcall (fun e w'' h => And.intro h.1 (((((((((((h.2.pull 11).pull 11).pull 11).pull 11).pull 11).pull 11).pull 11).pull 11).pull 11).pull 11).pull 11)))) <| q (yor' rfl rfl (fun hc => (cv (t_not hc))) hx116) <|
            q_done fun w' hS => ?_
           replace hFc87 := bd_s hFc87; obtain ⟨oc116, hFc116, hFc87⟩ := hFc87
           refine x_join (fun E w => ∃ (q1b : List (Int × T_rules_Spot)), q1b = oc116 ∧ E 0 = .pointer (some ⟨q0c, 0, none⟩) ∧ E 2 = .slice q0j s2.length c_s2 ∧ E 4 = .pointer (some ⟨b4, 0, none⟩) ∧ E 6 = .pointer (some ⟨b6, 0, none⟩) ∧ E 7 = .func (.func 72) #[] #[.pointer (some ⟨b6, 0, none⟩)] ∧ E 8 = .map (some b31) ∧ E 9 = .map (some b32) ∧ E 10 = .map (some b33) ∧ E 11 = .map (some b34) ∧ E 12 = .slice q2 q0a.length c_y0_ret_7_2 ∧ E 14 = .pointer (some ⟨b14, 0, none⟩) ∧ E 15 = .int .i64 x48 ∧ E 26 = .int .i64 l_1.Layers ∧ E 27 = .int .i64 q3 ∧ E 38 = .slice q0j s2.length c_s2 ∧ E 39 = .int .i64 (s2.length : Int) ∧ E 40 = .int .i64 q0l ∧ St w0 w (cells q0c 103 [.map (some q5), .bool q9] :: cells b4 31 [.int .i64 l_1.W, .int .i64 l_1.H, .int .i64 l_1.Layers, .int .i64 l_1.Nets, .slice q0f l_1.Wires.length c_l_1_4, .slice q0g l_1.Vias.length c_l_1_5, .slice q6 l_1.Pins.length c_l_1_6, .slice q0h l_1.Walls.length c_l_1_7] :: cells b6 3 [.int .i64 q3] :: mapM b31 (Value.int .i64) kf_61 Value.bool q0k q0d :: mapA b32 (Value.int .i64) (Value.int .i64) q0i :: mapA b33 (Value.int .i64) Value.bool q0b :: mapA b34 (Value.int .i64) kf_61 q1b :: vec 3 (RpI .i64).sz (.slice q2 q0a.length c_y0_ret_7_2) q0a.length q7 :: cells b14 122 [.int .i64 q4.fnet, .slice q19 q4.fspots.length q1n, .bool q4.fwire, .int .i64 q4.fpin] :: mapA q5 kf_63 Value.bool q8 :: ro ρ :: l)) ?_ ?_
           ·refine x_cond (t := x116) rfl (fun hc116 => ?_) (fun hc116 => ?_)
            ·replace hFc116 := it_t hc116 hFc116
             replace hFc116 := ck_s hFc116; obtain ⟨q3s, hFc116⟩ := hFc116
             replace hFc116 := lv_s hFc116; obtain ⟨q2p, q77, hFc116⟩ := hFc116
             have q_ := q1o.get q3s; obtain ⟨q8o, q3t, q78⟩ := q_
             rw [← q77] at q3t
             have e_ := q3t; subst e_
             refine x_region <| p (yl_move q0p) <| p (yl_move rfl) <| p (yl_field0 fld_122_1 rfl) <|
              pa (at_load one_120 rfl ((hS.pull 1).cell rfl)) <| p (yix_f sl_120 rfl rfl q1o q3s) <| pa (v := .agg #[.int .i64 q2p.Layer, .int .i64 q2p.X, .int .i64 q2p.Y]) (at_loadAgg agg_61 rfl rfl (Elt.every q78 (hS.pull 11))) <| ?_
             replace hFc116 := lv_s hFc116; obtain ⟨q8d, q79, hFc116⟩ := hFc116
             refine o_mapset (k := x48) (vf := kf_61) (v := q2p) um_135 (KeyP.int ui_3) rfl rfl rfl (hS.pull 8) q79 (fun w' hS => ?_)
             refine x_done <| ?_
             exact x_inv ⟨q8d, (sinj hFc116), q1p, q1q, q0y, q1r, q22, q0z, q1s, q0w, q0p, q0x, rfl, rfl, q15, q16, q17, q18, q0q, ((((((((((((hS.pull 1).drop.pull 10).pull 10).pull 3).pull 10).pull 4).pull 10).pull 10).pull 10).pull 10).pull 10).pull 10)⟩
            ·replace hFc116 := it_bf hc116 hFc116
             refine x_skip <| ?_
             exact x_inv ⟨q0e, (sinj hFc116), q1p, q1q, q0y, q1r, q22, q0z, q1s, q0w, q0p, q0x, rfl, rfl, q15, q16, q17, q18, q0q, (((((((((((hS.drop.pull 10).pull 10).pull 2).pull 10).pull 10).pull 10).pull 10).pull 10).pull 10).pull 10).pull 10)⟩
           rintro E w ⟨q1b, rfl, q56, q57, q3d, q58, q59, q5a, q3e, q45, q46, q47, q48, q49, q4a, q4b, q4c, q4d, q4e, hS⟩
           replace hFc87 := lv_s hFc87; obtain ⟨x125, hx125, hFc87⟩ := hFc87
           replace hFc87 := ck_s hFc87; obtain ⟨q3u, hFc87⟩ := hFc87
           replace hFc87 := lv_s hFc87; obtain ⟨q8r, q7a, hFc87⟩ := hFc87
           have q_ := q13.get q3u; obtain ⟨q8p, q3v, q7b⟩ := q_
           rw [← q7a] at q3v
           have e_ := q3v; subst e_
           replace hFc87 := ar_s hFc87; obtain ⟨x133, hx133, hFc87⟩ := hFc87
           refine x_head 11 mixed (by kernel_rfl) hS _ _ rfl rfl <| q (yl_move q3e) <| q (yl_move q49) <| qa (fun w' hS => at_look (k := x48) um_131 (KeyP.int ui_3) (zero1 zv_3) rfl rfl (hS.pull 4) hx125) <|
            q (yl_field0 fld_31_6 q3d) <| qa (fun w' hS => at_load one_28 rfl ((hS.pull 1).cell rfl)) <| q (yl_field0 fld_122_3 q48) <| qa (fun w' hS => at_load one_3 rfl ((hS.pull 8).cell rfl)) <|
            q (yix_f sl_28 rfl rfl q13 q3u) <| q (yl_fieldAddr fld_39_4 rfl) <| qa (fun w' hS => at_load one_3 rfl (Elt.ld (j := 4) q7b (hS.pull 10) rfl)) <| q (yadd rfl rfl hx133) <|
            q_done fun w' hS => ?_
           replace hFc87 := lv_s hFc87; obtain ⟨q7c, q5b, hFc87⟩ := hFc87
           refine o_mapset (k := x48) (vf := (Value.int .i64)) (v := x133) um_131 (KeyP.int ui_3) rfl rfl rfl (hS.pull 4) q5b (fun w' hS => ?_)
           refine x_done <| ?_
           exact x_inv ⟨q7c, q1b, (sinj hFc87), q56, q57, q3d, q58, q59, q5a, q3e, q45, q46, q47, q4a, q4b, q4c, q4d, q4e, (((((((((((hS.pull 8).drop.pull 9).pull 9).pull 9).pull 9).pull 9).pull 5).pull 9).pull 9).pull 9).pull 9)⟩
          ·replace hFc87 := it_bf hc87 hFc87
           refine x_skip <| ?_
           exact x_inv ⟨q0i, q0e, (sinj hFc87), q1p, q1q, q0y, q1r, q22, q0z, q1s, q0w, q0p, q0x, q15, q16, q17, q18, q0q, ((((((((((hS.drop.pull 9).pull 9).pull 9).pull 9).pull 9).pull 9).pull 9).pull 9).pull 9).pull 9)⟩
         rintro E w ⟨q21, q1k, rfl, q7d, q7e, q7f, q7g, q7h, q7i, q7j, q5c, q5d, q5e, q5f, q5g, q5h, q5i, q5j, hS⟩
         exact x_inv ⟨q21, q0b, q1k, (sinj hFc72), q7d, q7e, q7f, q7g, q7h, q7i, q7j, q5c, q5d, q5e, q5f, q5g, q5h, q5i, q5j, ((((((((((hS.pull 9).pull 9).pull 9).pull 9).pull 9).pull 9).pull 9).pull 9).pull 9).pull 9)⟩
       rintro E w ⟨q20, q12, q1j, rfl, q7k, q7l, q7m, q7n, q7o, q7p, q7q, q5k, q5l, q5m, q5n, q5o, q5p, q5q, q5r, hS⟩
       exact x_inv ⟨q0d, q0k, q20, q12, q1j, (sinj hFc49), q7k, q7l, q7m, q7n, q7o, q7p, q7q, q5k, q5l, q5m, q5n, q5o, q5p, q5q, q5r, ((((((((((hS.pull 9).pull 9).pull 9).pull 9).pull 9).pull 9).pull 9).pull 9).pull 9).pull 9)⟩
     rintro E w ⟨q1t, q1w, q1x, q10, q1i, rfl, q7r, q7s, q7t, q7u, q7v, q7w, q7x, q5s, q5t, q5u, q5v, q5w, q5x, q5y, q5z, hS⟩
     replace hFL9 := ar_s hFL9; obtain ⟨x134, hx134, hFL9⟩ := hFL9
     refine x_blk <| x_blk <| x_region <| p (yadd q5z rfl hx134) <|
      p (yl_move rfl) <| x_done <| ?_
     have e_ := sinj hFL9; subst e_
     exact x_inv ⟨kL9, Nat.lt_succ_self _, q1t, q1w, q1x, q10, q1i, x134, hLL9, q7r, q7s, q7t, q7u, q7v, q7w, q7x, q5s, q5t, q5u, q5v, q5w, q5x, q5y, rfl, ((((((((((hS.pull 9).pull 9).pull 9).pull 9).pull 9).pull 9).pull 9).pull 9).pull 9).pull 9)⟩
    ·replace hFL9 := it_f hc41 hFL9
     refine x_exitTo _ rfl <| ?_
     have e_ := sinj hFL9; subst e_
     exact x_inv ⟨q0d, q0k, q0i, q0b, q0e, hLL9, q1p, q1q, q0y, q1r, q0z, q1s, q0w, q0p, q0x, q15, q16, ((((((((((hS.pull 9).pull 9).pull 9).pull 9).pull 9).pull 9).pull 9).pull 9).pull 9).pull 9)⟩
   rintro E w ⟨q0r, q0u, q14, q0n, q0v, rfl, q8e, q4k, q8f, q8g, q8h, q8i, q7y, q7z, q80, q81, q82, hS⟩
   refine x_seq <| x_region <| p (yl_move q4k) <| p (yl_len_slice usl_98 rfl) <|
    p (yl_move rfl) <| x_done <| ?_
   replace hFL2 := bd_s hFL2; obtain ⟨oL29, hLL29, hFL2⟩ := hFL2
   refine x_join (fun E w => ∃ (q1l : List (T_rules_Fault × Bool)) (q1m : Bool), (q1l, q1m) = oL29 ∧ E 0 = .pointer (some ⟨q0c, 0, none⟩) ∧ E 2 = .slice q0j s2.length c_s2 ∧ E 4 = .pointer (some ⟨b4, 0, none⟩) ∧ E 26 = .int .i64 l_1.Layers ∧ E 27 = .int .i64 q3 ∧ St w0 w (cells q0c 103 [.map (some q5), .bool q1m] :: cells b4 31 [.int .i64 l_1.W, .int .i64 l_1.H, .int .i64 l_1.Layers, .int .i64 l_1.Nets, .slice q0f l_1.Wires.length c_l_1_4, .slice q0g l_1.Vias.length c_l_1_5, .slice q6 l_1.Pins.length c_l_1_6, .slice q0h l_1.Walls.length c_l_1_7] :: mapA q5 kf_63 Value.bool q1l :: ro ρ :: l)) ?_ ?_
   ·refine x_block ?_
    refine x_loop (fun k_ E w => ∃ (q1f : Int) (q0s : List (T_rules_Fault × Bool)) (q0t : Bool), lp (P_rules_antenna_L29 s2 q0a q0u q14 q0n q0v q3) k_ (q1f, q0s, q0t) = some oL29 ∧ E 0 = .pointer (some ⟨q0c, 0, none⟩) ∧ E 2 = .slice q0j s2.length c_s2 ∧ E 4 = .pointer (some ⟨b4, 0, none⟩) ∧ E 6 = .pointer (some ⟨b6, 0, none⟩) ∧ E 8 = .map (some b31) ∧ E 9 = .map (some b32) ∧ E 10 = .map (some b33) ∧ E 11 = .map (some b34) ∧ E 12 = .slice q2 q0a.length c_y0_ret_7_2 ∧ E 26 = .int .i64 l_1.Layers ∧ E 27 = .int .i64 q3 ∧ E 135 = .slice q0j s2.length c_s2 ∧ E 136 = .int .i64 (s2.length : Int) ∧ E 137 = .int .i64 q1f ∧ St w0 w (cells q0c 103 [.map (some q5), .bool q0t] :: cells b4 31 [.int .i64 l_1.W, .int .i64 l_1.H, .int .i64 l_1.Layers, .int .i64 l_1.Nets, .slice q0f l_1.Wires.length c_l_1_4, .slice q0g l_1.Vias.length c_l_1_5, .slice q6 l_1.Pins.length c_l_1_6, .slice q0h l_1.Walls.length c_l_1_7] :: cells b6 3 [.int .i64 q3] :: mapM b31 (Value.int .i64) kf_61 Value.bool q0u q0r :: mapA b32 (Value.int .i64) (Value.int .i64) q14 :: mapA b33 (Value.int .i64) Value.bool q0n :: mapA b34 (Value.int .i64) kf_61 q0v :: vec 3 (RpI .i64).sz (.slice q2 q0a.length c_y0_ret_7_2) q0a.length q7 :: mapA q5 kf_63 Value.bool q0s :: ro ρ :: l)) fuel ⟨0, q8, q9, hLL29, q8e, q4k, q8f, q8g, q8h, q8i, q7y, q7z, q80, q81, q82, rfl, rfl, rfl, ((((((((((hS.pull 9).pull 9).pull 9).pull 9).pull 9).pull 9).pull 9).pull 9).pull 9).pull 9)⟩ ?_
    rintro kL29 E w ⟨q1f, q0s, q0t, hLL29, q28, q2i, q2j, q2k, q2l, q2m, q2a, q2b, q2c, q2d, q2e, q26, q27, q1g, hS⟩
    replace hLL29 := lp_s hLL29; obtain ⟨kL29, obL29, rfl, hFL29, hLL29⟩ := hLL29
    refine x_seq <| x_region <| p (yl_lss q1g q27) <| x_done <|
     x_seq <|
     x_cond_p (q1f < (s2.length : Int)) rfl (fun hc138 => ?_) (fun hc138 => ?_)
    ·replace hFL29 := it_t hc138 hFL29
     replace hFL29 := ck_s hFL29; obtain ⟨q3w, hFL29⟩ := hFL29
     replace hFL29 := lv_s hFL29; obtain ⟨q1c, q83, hFL29⟩ := hFL29
     have q_ := q2f.get q3w; obtain ⟨q8q, q3x, q84⟩ := q_
     rw [← q83] at q3x
     obtain ⟨q3f, q8k, q3g, rfl, q60⟩ := q3x
     have e_ := q60.n; subst e_
     refine x_skip <| x_seq <| x_block <| x_seq <|
      x_region <| p (yl_move q1g) <| p (yix_f sl_98 q26 q1g q2f q3w) <| pa (v := .agg #[.int .i64 q1c.fnet, .slice q3f q1c.fspots.length q3g, .bool q1c.fwire, .int .i64 q1c.fpin]) (at_loadAgg agg_122 rfl rfl (Elt.every q84 (hS.pull 9))) <| ?_
     refine o_alloc zero_122 hS (fun b21 w' hS => ?_)
     refine p (yl_assign rfl) <| ?_
     refine o_storeAgg (news := [.int .i64 q1c.fnet, .slice q3f q1c.fspots.length q3g, .bool q1c.fwire, .int .i64 q1c.fpin]) agg_122 rfl rfl rfl (by simp [over_length]) hS (fun w' hS => ?_)
     replace hFL29 := ck_s hFL29; obtain ⟨q3y, hFL29⟩ := hFL29
     replace hFL29 := lv_s hFL29; obtain ⟨x145, hx145, hFL29⟩ := hFL29
     replace hFL29 := lv_s hFL29; obtain ⟨x149, hx149, hFL29⟩ := hFL29
     replace hFL29 := lv_s hFL29; obtain ⟨q149, hq149, hFL29⟩ := hFL29
     refine x_done <| x_seq <| x_region <| p (yl_move q2c) <|
      p (yl_move rfl) <| p (yix_o sl_22 rfl rfl (hS.pull 8) q0o q3y) <| pa (at_load one_3 rfl (RepL.getW q0o (hS.pull 8) q3y hx145)) <| p (yl_assign rfl) <|
      x_done <| x_seq <| x_region <| p (yl_move q2b) <|
      p (yl_move rfl) <| pa (v := .tuple #[.agg #[.int .i64 x149.Layer, .int .i64 x149.X, .int .i64 x149.Y], .bool q149]) (at_look2 (k := x145) (vf := kf_61) (r := x149) (d := (T_rules_Spot.mk 0 0 0)) um_135 (KeyP.int ui_3) (zero1 zv_61) rfl rfl (hS.pull 7) hx149 hq149) <| p (v := .tuple #[.agg #[.int .i64 x149.Layer, .int .i64 x149.X, .int .i64 x149.Y], .bool q149]) (yl_move rfl) <| p (yl_extract rfl rfl) <|
      p (yl_extract rfl rfl) <| ?_
     refine o_alloc zero_61 hS (fun b23 w' hS => ?_)
     refine o_storeAgg (news := [.int .i64 x149.Layer, .int .i64 x149.X, .int .i64 x149.Y]) agg_61 rfl rfl rfl (by simp [over_length]) hS (fun w' hS => ?_)
     replace hFL29 := lv_s hFL29; obtain ⟨x156, hx156, hFL29⟩ := hFL29
     replace hFL29 := lv_s hFL29; obtain ⟨x158, hx158, hFL29⟩ := hFL29
     replace hFL29 := lv_s hFL29; obtain ⟨x163, hx163, hFL29⟩ := hFL29
     replace hFL29 := lv_s hFL29; obtain ⟨x166, hx166, hFL29⟩ := hFL29
     replace hFL29 := ck_s hFL29; obtain ⟨q61, hFL29⟩ := hFL29
     replace hFL29 := lv_s hFL29; obtain ⟨x167, hx167, hFL29⟩ := hFL29
     replace hFL29 := lv_s hFL29; obtain ⟨x169, hx169, hFL29⟩ := hFL29
     refine p (yl_assign rfl) <| x_done <| x_seq <| x_region <|
      p (yl_move rfl) <| p (yl_move rfl) <| pg (v := .map (some b33)) 153 (c := q149) (says_t _) (fun hq => Yl.at (yl_move q2a)) <| pg (v := .int .i64 x145) 153 (c := q149) (says_t _) (fun hq => Yl.at (yl_move rfl)) <|
      pg (v := .bool x156) 153 (c := q149) (says_t _) (fun hq => at_look (k := x145) um_134 (KeyP.int ui_3) (zero1 zv_4) (cv hq) (cv hq) (hS.pull 7) hx156) <| pg (v := .bool (!x156)) 153 (c := q149) (says_t _) (fun hq => Yl.at (yl_not (cv hq))) <| p (yand' rfl (fun hc => (cv hc)) rfl hx158) <| p (yl_move rfl) <|
      pg (v := .map (some b31)) 159 (c := x158) (says_t _) (fun hq => Yl.at (yl_move q2l)) <| pg (v := .int .i64 x145) 159 (c := x158) (says_t _) (fun hq => Yl.at (yl_move rfl)) <| pg (v := .map (mb x145 q0u q0r)) 159 (c := x158) (says_t _) (fun hq => at_lookM um_130 (KeyP.int ui_3) (zero1 zv_84) (cv hq) (cv hq) (hS.pull 5)) <| pg (v := .int .i64 (x163 : Int)) 159 (c := x158) (says_t _) (fun hq => at_lenM um_84 (cv hq) (hS.pull 5) hx163) <|
      pg (v := .map (some b32)) 159 (c := x158) (says_t _) (fun hq => Yl.at (yl_move q2m)) <| pg (v := .int .i64 x145) 159 (c := x158) (says_t _) (fun hq => Yl.at (yl_move rfl)) <| pg (v := .int .i64 x166) 159 (c := x158) (says_t _) (fun hq => at_look (k := x145) um_131 (KeyP.int ui_3) (zero1 zv_3) (cv hq) (cv hq) (hS.pull 6) hx166) <| pg (v := .int .i64 x167) 159 (c := x158) (says_t _) (fun hq => Yl.at (ymul rfl (cv hq) ⟨hx167, (q61 hq)⟩)) <|
      pg (v := .bool (decide (x167 < (x163 : Int)))) 159 (c := x158) (says_t _) (fun hq => Yl.at (yl_gtr (cv hq) (cv hq))) <| p (yand' rfl (fun hc => (cv hc)) rfl hx169) <| x_done <| ?_
     replace hFL29 := bd_s hFL29; obtain ⟨oc169, hFc169, hFL29⟩ := hFL29
     refine x_join (fun E w => ∃ (q1d : List (T_rules_Fault × Bool)) (q1e : Bool), (q1d, q1e) = oc169 ∧ E 0 = .pointer (some ⟨q0c, 0, none⟩) ∧ E 2 = .slice q0j s2.length c_s2 ∧ E 4 = .pointer (some ⟨b4, 0, none⟩) ∧ E 6 = .pointer (some ⟨b6, 0, none⟩) ∧ E 8 = .map (some b31) ∧ E 9 = .map (some b32) ∧ E 10 = .map (some b33) ∧ E 11 = .map (some b34) ∧ E 12 = .slice q2 q0a.length c_y0_ret_7_2 ∧ E 26 = .int .i64 l_1.Layers ∧ E 27 = .int .i64 q3 ∧ E 135 = .slice q0j s2.length c_s2 ∧ E 136 = .int .i64 (s2.length : Int) ∧ E 137 = .int .i64 q1f ∧ St w0 w (cells q0c 103 [.map (some q5), .bool q1e] :: cells b4 31 [.int .i64 l_1.W, .int .i64 l_1.H, .int .i64 l_1.Layers, .int .i64 l_1.Nets, .slice q0f l_1.Wires.length c_l_1_4, .slice q0g l_1.Vias.length c_l_1_5, .slice q6 l_1.Pins.length c_l_1_6, .slice q0h l_1.Walls.length c_l_1_7] :: cells b6 3 [.int .i64 q3] :: mapM b31 (Value.int .i64) kf_61 Value.bool q0u q0r :: mapA b32 (Value.int .i64) (Value.int .i64) q14 :: mapA b33 (Value.int .i64) Value.bool q0n :: mapA b34 (Value.int .i64) kf_61 q0v :: vec 3 (RpI .i64).sz (.slice q2 q0a.length c_y0_ret_7_2) q0a.length q7 :: mapA q5 kf_63 Value.bool q1d :: ro ρ :: l)) ?_ ?_
     ·refine x_cond (t := x169) rfl (fun hc169 => ?_) (fun hc169 => ?_)
      ·replace hFc169 := it_t hc169 hFc169
       replace hFc169 := bd_s hFc169; obtain ⟨q3z, q62, hFc169⟩ := hFc169
       refine x_region <| p (yl_move q28) <| p (yl_field0 fld_122_0 rfl) <| pa (at_load one_3 rfl ((hS.pull 1).cell rfl)) <|
        pa (at_load one_3 q2k ((hS.pull 4).cell rfl)) <| p (yl_field0 fld_61_1 rfl) <| pa (at_load one_3 rfl (hS.cell rfl)) <| p (yl_field0 fld_61_2 rfl) <|
        pa (at_load one_3 rfl (hS.cell rfl)) <| p (v := .agg #[.int .i64 q3, .int .i64 x149.X, .int .i64 x149.Y]) (yl_build bld_61 bldf_61 (parts_eq (pt (va := .int .i64 q3) rfl (pt (va := .int .i64 x149.X) rfl (pt (va := .int .i64 x149.Y) rfl pt0)))) (by kernel_rfl)) <| p (v := .agg #[.int .i64 7, .int .i64 q1c.fnet, .int .i64 0, .int .i64 q3, .int .i64 x149.X, .int .i64 x149.Y]) (yl_build bld_63 bldf_63 (parts_eq (pt (va := .int .i64 7) rfl (pt (va := .int .i64 q1c.fnet) rfl (pt (va := .int .i64 0) rfl (pt (va := .agg #[.int .i64 q3, .int .i64 x149.X, .int .i64 x149.Y]) rfl pt0))))) (by kernel_rfl)) <| ?_
       have hcall := c_rules_bag_add q62  (((hS.pull 11).pull 11).pull 4)
       refine o_cc call_63 (args2 rfl rfl) hcall ?_
       rintro e w' ⟨rfl, hS⟩
       refine ⟨_, rfl, ?_⟩
       refine x_done <| ?_
       exact x_inv ⟨q3z.1, q3z.2, (sinj hFc169), q28, q2i, q2j, q2k, q2l, q2m, q2a, q2b, q2c, q2d, q2e, q26, q27, q1g, ((((((((((((hS.pull 3).drop.pull 3).drop.pull 2).pull 2).pull 9).pull 9).pull 9).pull 9).pull 9).pull 9).pull 9).pull 9)⟩
      ·replace hFc169 := it_bf hc169 hFc169
       refine x_skip <| ?_
       exact x_inv ⟨q0s, q0t, (sinj hFc169), q28, q2i, q2j, q2k, q2l, q2m, q2a, q2b, q2c, q2d, q2e, q26, q27, q1g, ((((((((((hS.drop.drop.pull 9).pull 9).pull 9).pull 9).pull 9).pull 9).pull 9).pull 9).pull 9).pull 9)⟩
     rintro E w ⟨q1d, q1e, rfl, q63, q64, q65, q66, q67, q68, q4f, q4g, q4h, q4i, q4j, q40, q41, q42, hS⟩
     replace hFL29 := ar_s hFL29; obtain ⟨x181, hx181, hFL29⟩ := hFL29
     refine x_blk <| x_region <| p (yadd q42 rfl hx181) <| p (yl_move rfl) <|
      x_done <| ?_
     have e_ := sinj hFL29; subst e_
     exact x_inv ⟨kL29, Nat.lt_succ_self _, x181, q1d, q1e, hLL29, q63, q64, q65, q66, q67, q68, q4f, q4g, q4h, q4i, q4j, q40, q41, rfl, ((((((((((hS.pull 9).pull 9).pull 9).pull 9).pull 9).pull 9).pull 9).pull 9).pull 9).pull 9)⟩
    ·replace hFL29 := it_f hc138 hFL29
     refine x_exitTo _ rfl <| ?_
     have e_ := sinj hFL29; subst e_
     exact x_inv ⟨q0s, q0t, hLL29, q28, q2i, q2j, q2d, q2e, ((((((((((hS.pull 2).drop.pull 2).drop.pull 2).drop.pull 2).drop.pull 2).drop.pull 2).drop.pull 3).pull 3).pull 3).pull 3)⟩
   rintro E w ⟨q1l, q1m, rfl, q85, q86, q87, q69, q6a, hS⟩
   replace hFL2 := ar_s hFL2; obtain ⟨x182, hx182, hFL2⟩ := hFL2
   refine x_blk <| x_region <| p (yadd q6a rfl hx182) <| p (yl_move rfl) <|
    x_done <| ?_
   have e_ := sinj hFL2; subst e_
   exact x_inv ⟨kL2, Nat.lt_succ_self _, x182, q1l, q1m, hLL2, q85, q86, q87, q69, rfl, ((((hS.pull 3).pull 3).pull 3).pull 3)⟩
  ·replace hFL2 := it_f hc28 hFL2
   refine x_exitTo _ rfl <| ?_
   have e_ := sinj hFL2; subst e_
   exact x_inv ⟨q8, q9, hLL2, ((((hS.pull 1).drop.pull 2).pull 2).pull 2)⟩
 rintro E w ⟨q24, q25, rfl, hS⟩
 have e_ := sinj hF; subst e_
 exact x_fin ⟨_, rfl, rfl, (((hS.pull 2).pull 2).pull 2)⟩
attribute [irreducible] P_rules_antenna

def P_cmp_isNaN_int (x0 : Int) : Option Unit :=
 some ()
theorem c_cmp_isNaN_int {w0 w : World} {l : List Assn} {ρ : Heap} {x0 : Int} {r : Unit} (hF : P_cmp_isNaN_int x0 = some r) (hS : St w0 w (ro ρ :: l)) :
  Calls Try.prog 92 #[.int .i64 x0] w fun e w' => e = .returned (.bool (decide (x0 ≠ x0))) ∧ St w0 w' (ro ρ :: l) := by
 refine enterC Try.func92 rfl 6 rfl (by simp) ?_
 refine x_seq <| x_region <| p (yl_assign rfl) <| x_done <|
  x_seq <| x_region <| p (yl_move rfl) <| p (yl_move rfl) <|
  p (yl_neq rfl rfl) <| p (yl_assign rfl) <| x_done <| ?_
 have e_ := sinj hF; subst e_
 exact x_return ⟨_, ⟨_, _, rfl, rfl, rfl⟩, rfl, hS⟩
attribute [irreducible] P_cmp_isNaN_int

def P_cmp_Compare_int (x0 : Int) (y1 : Int) : Option Int :=
 bd (P_cmp_isNaN_int x0) fun q2 =>
 bd (P_cmp_isNaN_int y1) fun q3 =>
 if x0 ≠ x0 then
  if y1 ≠ y1 then
   some (0 : Int)
  else
   some (-1 : Int)
 else
  if y1 ≠ y1 then
   some (1 : Int)
  else
   if x0 < y1 then
    some (-1 : Int)
   else
    if y1 < x0 then
     some (1 : Int)
    else
     some (0 : Int)
theorem c_cmp_Compare_int {w0 w : World} {l : List Assn} {ρ : Heap} {x0 : Int} {y1 : Int} {r : Int} (hF : P_cmp_Compare_int x0 y1 = some r) (hS : St w0 w (ro ρ :: l)) :
  Calls Try.prog 76 #[.int .i64 x0, .int .i64 y1] w fun e w' => e = .returned (.int .i64 r) ∧ St w0 w' (ro ρ :: l) := by
 refine enterC Try.func76 rfl 20 rfl (by simp) ?_
 replace hF := bd_s hF; obtain ⟨q4, q2, hF⟩ := hF
 refine x_seq <| x_region <| p (yl_assign rfl) <| x_done <|
  x_seq <| x_region <| p (yl_move rfl) <| ?_
 have hcall := c_cmp_isNaN_int q2  hS
 refine o_cc call_92 (args1 rfl) (hcall) ?_
 rintro e w' ⟨rfl, hS⟩
 refine ⟨_, rfl, ?_⟩
 replace hF := bd_s hF; obtain ⟨q5, q3, hF⟩ := hF
 refine p (v := .bool (decide (x0 ≠ x0))) (yl_assign rfl) <| x_done <| x_seq <| x_region <|
  p (yl_move rfl) <| ?_
 have hcall := c_cmp_isNaN_int q3  hS
 refine o_cc call_92 (args1 rfl) (hcall) ?_
 rintro e w' ⟨rfl, hS⟩
 refine ⟨_, rfl, ?_⟩
 refine p (v := .bool (decide (y1 ≠ y1))) (yl_assign rfl) <| x_done <| x_seq <| x_seq <|
  x_region <| p (v := .bool (decide (x0 ≠ x0))) (yl_move rfl) <| x_done <|
  x_cond_p (x0 ≠ x0) rfl (fun hc11 => ?_) (fun hc11 => ?_)
 ·replace hF := it_t hc11 hF
  refine x_seq <| x_seq <| x_region <| p (v := .bool (decide (y1 ≠ y1))) (yl_move rfl) <|
   x_done <|
   x_cond_p (y1 ≠ y1) rfl (fun hc12 => ?_) (fun hc12 => ?_)
  ·replace hF := it_t hc12 hF
   refine x_seq <| x_region <| p (yl_assign rfl) <| x_done <| ?_
   have e_ := sinj hF; subst e_
   exact x_return ⟨_, ⟨_, _, rfl, rfl, rfl⟩, rfl, hS⟩
  ·replace hF := it_f hc12 hF
   refine x_skip <| x_seq <| x_region <| p (yl_assign rfl) <|
    x_done <| ?_
   have e_ := sinj hF; subst e_
   exact x_return ⟨_, ⟨_, _, rfl, rfl, rfl⟩, rfl, hS⟩
 ·replace hF := it_f hc11 hF
  refine x_skip <| x_seq <| x_seq <| x_region <|
   p (v := .bool (decide (y1 ≠ y1))) (yl_move rfl) <| x_done <|
   x_cond_p (y1 ≠ y1) rfl (fun hc13 => ?_) (fun hc13 => ?_)
  ·replace hF := it_t hc13 hF
   refine x_seq <| x_region <| p (yl_assign rfl) <| x_done <| ?_
   have e_ := sinj hF; subst e_
   exact x_return ⟨_, ⟨_, _, rfl, rfl, rfl⟩, rfl, hS⟩
  ·replace hF := it_f hc13 hF
   refine x_skip <| x_seq <| x_seq <| x_region <|
    p (yl_move rfl) <| p (yl_move rfl) <| p (yl_lss rfl rfl) <| x_done <|
    x_cond_p (x0 < y1) rfl (fun hc16 => ?_) (fun hc16 => ?_)
   ·replace hF := it_t hc16 hF
    refine x_seq <| x_region <| p (yl_assign rfl) <| x_done <| ?_
    have e_ := sinj hF; subst e_
    exact x_return ⟨_, ⟨_, _, rfl, rfl, rfl⟩, rfl, hS⟩
   ·replace hF := it_f hc16 hF
    refine x_skip <| x_seq <| x_seq <| x_region <|
     p (yl_move rfl) <| p (yl_move rfl) <| p (yl_gtr rfl rfl) <| x_done <|
     x_cond_p (y1 < x0) rfl (fun hc19 => ?_) (fun hc19 => ?_)
    ·replace hF := it_t hc19 hF
     refine x_seq <| x_region <| p (yl_assign rfl) <| x_done <| ?_
     have e_ := sinj hF; subst e_
     exact x_return ⟨_, ⟨_, _, rfl, rfl, rfl⟩, rfl, hS⟩
    ·replace hF := it_f hc19 hF
     refine x_skip <| x_seq <| x_region <| p (yl_assign rfl) <|
      x_done <| ?_
     have e_ := sinj hF; subst e_
     exact x_return ⟨_, ⟨_, _, rfl, rfl, rfl⟩, rfl, hS⟩
attribute [irreducible] P_cmp_Compare_int

def P_cmp_Or_int_L3 (vals0 : List Int) : Int → Option (Int ⊕ (Unit ⊕ Int)) := fun q2 =>
 if q2 < (vals0.length : Int) then
  ck (inb q2 vals0.length) <|
  lv (gt vals0 q2) fun x11 =>
  if x11 ≠ 0 then
   some (Sum.inr (Sum.inr x11))
  else
   ar (q2 + 1) fun x16 =>
   some (Sum.inl x16)
 else
  some (Sum.inr (Sum.inl ()))
def P_cmp_Or_int (vals0 : List Int) : Option Int :=
 bs (
  lp (P_cmp_Or_int_L3 vals0) fuel 0) (fun y => some y) fun _ =>
 some (0 : Int)
theorem c_cmp_Or_int {w0 w : World} {l : List Assn} {ρ : Heap} {q3 : Option Addr} {q7 : Nat} {c_vals0 : Nat} {vals0 : List Int} {r : Int} (hF : P_cmp_Or_int vals0 = some r) (q4 : RdS (RpI .i64) ρ q3 q7 c_vals0 vals0) (hS : St w0 w (ro ρ :: l)) :
  Calls Try.prog 75 #[.slice q3 q7 c_vals0] w fun e w' => e = .returned (.int .i64 r) ∧ St w0 w' (ro ρ :: l) := by
 have e_ := q4.n; subst e_
 refine enterC Try.func75 rfl 18 rfl (by simp) ?_
 refine x_seq <| x_region <| p (yl_assign rfl) <| x_done <|
  x_seq <| x_region <| p (yl_assign rfl) <| x_done <|
  x_seq <| x_seq <| x_region <| p (yl_move rfl) <|
  p (yl_len_slice usl_22 rfl) <| p (yl_move rfl) <| x_done <| ?_
 replace hF := bs_s hF; obtain ⟨oL3, hLL3, hF⟩ := hF
 refine x_join (fun E w => (Sum.inl (())) = oL3 ∧ E 3 = .int .i64 0 ∧ St w0 w (ro ρ :: l)) ?_ ?_
 ·refine x_block ?_
  refine x_loop (fun k_ E w => ∃ (q2 : Int), lp (P_cmp_Or_int_L3 vals0) k_ q2 = some oL3 ∧ E 3 = .int .i64 0 ∧ E 6 = .slice q3 vals0.length c_vals0 ∧ E 7 = .int .i64 (vals0.length : Int) ∧ E 8 = .int .i64 q2 ∧ St w0 w (ro ρ :: l)) fuel ⟨0, hLL3, rfl, rfl, rfl, rfl, hS⟩ ?_
  rintro kL3 E w ⟨q2, hLL3, q5, q8, q9, q6, hS⟩
  replace hLL3 := lp_s hLL3; obtain ⟨kL3, obL3, rfl, hFL3, hLL3⟩ := hLL3
  refine x_seq <| x_region <| p (yl_lss q6 q9) <| x_done <|
   x_seq <|
   x_cond_p (q2 < (vals0.length : Int)) rfl (fun hc9 => ?_) (fun hc9 => ?_)
  ·replace hFL3 := it_t hc9 hFL3
   replace hFL3 := ck_s hFL3; obtain ⟨q0a, hFL3⟩ := hFL3
   replace hFL3 := lv_s hFL3; obtain ⟨x11, hx11, hFL3⟩ := hFL3
   refine x_skip <| x_seq <| x_block <| x_seq <|
    x_region <| p (yix_f sl_22 q8 q6 q4 q0a) <| pa (at_load one_3 rfl (RdS.getW q4 hS q0a hx11)) <| p (yl_assign rfl) <|
    x_done <| x_seq <| x_region <| p (yl_move rfl) <|
    p (yl_move q5) <| p (yl_neq rfl rfl) <| x_done <|
    x_cond_p (x11 ≠ 0) rfl (fun hc14 => ?_) (fun hc14 => ?_)
   ·replace hFL3 := it_t hc14 hFL3
    refine x_seq <| x_region <| p (yl_move rfl) <| p (yl_assign rfl) <|
     x_done <| ?_
    have e_ := sinj hFL3; subst e_
    have e_ := (show _ = oL3 from hLL3); subst e_
    have e_ := sinj hF; subst e_
    exact x_return ⟨_, ⟨_, _, rfl, rfl, rfl⟩, rfl, hS⟩
   ·replace hFL3 := it_f hc14 hFL3
    replace hFL3 := ar_s hFL3; obtain ⟨x16, hx16, hFL3⟩ := hFL3
    refine x_skip <| x_blk <| x_region <| p (yadd q6 rfl hx16) <|
     p (yl_move rfl) <| x_done <| ?_
    have e_ := sinj hFL3; subst e_
    exact x_inv ⟨kL3, Nat.lt_succ_self _, x16, hLL3, q5, q8, q9, rfl, hS⟩
  ·replace hFL3 := it_f hc9 hFL3
   refine x_exitTo _ rfl <| ?_
   have e_ := sinj hFL3; subst e_
   exact x_inv ⟨hLL3, q5, hS⟩
 rintro E w ⟨rfl, q0b, hS⟩
 refine x_seq <| x_region <| p (yl_move q0b) <| p (yl_assign rfl) <|
  x_done <| ?_
 have e_ := sinj hF; subst e_
 exact x_return ⟨_, ⟨_, _, rfl, rfl, rfl⟩, rfl, hS⟩
attribute [irreducible] P_cmp_Or_int

def P_rules_compare (a0 : T_rules_Fault) (b1 : T_rules_Fault) : Option Int :=
 bd (P_cmp_Compare_int a0.Kind b1.Kind) fun q7 =>
 bd (P_cmp_Compare_int a0.Net b1.Net) fun q8 =>
 bd (P_cmp_Compare_int a0.Other b1.Other) fun q2 =>
 bd (P_cmp_Compare_int a0.At.Layer b1.At.Layer) fun q3 =>
 bd (P_cmp_Compare_int a0.At.Y b1.At.Y) fun q4 =>
 bd (P_cmp_Compare_int a0.At.X b1.At.X) fun q5 =>
 bd (P_cmp_Or_int ([q7, q8, q2, q3, q4, q5] : List Int)) fun q6 =>
 some q6
theorem c_rules_compare {w0 w : World} {l : List Assn} {ρ : Heap} {a0 : T_rules_Fault} {b1 : T_rules_Fault} {r : Int} (hF : P_rules_compare a0 b1 = some r) (hS : St w0 w (ro ρ :: l)) :
  Calls Try.prog 53 #[.agg #[.int .i64 a0.Kind, .int .i64 a0.Net, .int .i64 a0.Other, .int .i64 a0.At.Layer, .int .i64 a0.At.X, .int .i64 a0.At.Y], .agg #[.int .i64 b1.Kind, .int .i64 b1.Net, .int .i64 b1.Other, .int .i64 b1.At.Layer, .int .i64 b1.At.X, .int .i64 b1.At.Y]] w fun e w' => e = .returned (.int .i64 r) ∧ St w0 w' (ro ρ :: l) := by
 refine enterC Try.func53 rfl 43 rfl (by simp) ?_
 refine x_seq <| x_region <| ?_
 refine o_box (cs := [.int .i64 a0.Kind, .int .i64 a0.Net, .int .i64 a0.Other, .int .i64 a0.At.Layer, .int .i64 a0.At.X, .int .i64 a0.At.Y]) rfl rfl hS (fun b2 w' hS => ?_)
 refine o_box (cs := [.int .i64 b1.Kind, .int .i64 b1.Net, .int .i64 b1.Other, .int .i64 b1.At.Layer, .int .i64 b1.At.X, .int .i64 b1.At.Y]) rfl rfl hS (fun b3 w' hS => ?_)
 replace hF := bd_s hF; obtain ⟨q6, q0e, hF⟩ := hF
 replace hF := bd_s hF; obtain ⟨q7, q0f, hF⟩ := hF
 replace hF := bd_s hF; obtain ⟨q2, q8, hF⟩ := hF
 replace hF := bd_s hF; obtain ⟨q3, q9, hF⟩ := hF
 replace hF := bd_s hF; obtain ⟨q4, q0a, hF⟩ := hF
 replace hF := bd_s hF; obtain ⟨q5, q0b, hF⟩ := hF
 refine p (yl_assign rfl) <| x_done <| x_seq <| x_head 36 mixed (by kernel_rfl) hS _ _ rfl rfl <|
  q (yl_field0 fld_63_0 rfl) <| qa (fun w' hS => at_load one_3 rfl ((hS.pull 1).cell rfl)) <| q (yl_field0 fld_63_0 rfl) <| qa (fun w' hS => at_load one_3 rfl (hS.cell rfl)) <|
  qcc (v := .int .i64 q6) call_76 (args2 rfl rfl) (fun w' hS => by
   have hcall := c_cmp_Compare_int q0e  (hS.pull 2)
   exact (Calls.mono hcall (fun e w'' h => And.intro h.1 ((h.2.pull 2).pull 2)))) <| q (yl_field0 fld_63_1 rfl) <| qa (fun w' hS => at_load one_3 rfl ((hS.pull 1).cell rfl)) <| q (yl_field0 fld_63_1 rfl) <|
  qa (fun w' hS => at_load one_3 rfl (hS.cell rfl)) <| qcc (v := .int .i64 q7) call_76 (args2 rfl rfl) (fun w' hS => by
   have hcall := c_cmp_Compare_int q0f  (hS.pull 2)
   exact (Calls.mono hcall (fun e w'' h => And.intro h.1 ((h.2.pull 2).pull 2)))) <| q (yl_field0 fld_63_2 rfl) <| qa (fun w' hS => at_load one_3 rfl ((hS.pull 1).cell rfl)) <|
  q (yl_field0 fld_63_2 rfl) <| qa (fun w' hS => at_load one_3 rfl (hS.cell rfl)) <| qcc (v := .int .i64 q2) call_76 (args2 rfl rfl) (fun w' hS => by
   have hcall := c_cmp_Compare_int q8  (hS.pull 2)
   exact (Calls.mono hcall (fun e w'' h => And.intro h.1 ((h.2.pull 2).pull 2)))) <| q (yl_field0 fld_63_3 rfl) <|
  q (yl_fieldN fld_61_0 rfl) <| qa (fun w' hS => at_load one_3 rfl ((hS.pull 1).cell rfl)) <| q (yl_field0 fld_63_3 rfl) <| q (yl_fieldN fld_61_0 rfl) <|
  qa (fun w' hS => at_load one_3 rfl (hS.cell rfl)) <| qcc (v := .int .i64 q3) call_76 (args2 rfl rfl) (fun w' hS => by
   have hcall := c_cmp_Compare_int q9  (hS.pull 2)
   exact (Calls.mono hcall (fun e w'' h => And.intro h.1 ((h.2.pull 2).pull 2)))) <| q (yl_field0 fld_63_3 rfl) <| q (yl_fieldN fld_61_2 rfl) <|
  qa (fun w' hS => at_load one_3 rfl ((hS.pull 1).cell rfl)) <| q (yl_field0 fld_63_3 rfl) <| q (yl_fieldN fld_61_2 rfl) <| qa (fun w' hS => at_load one_3 rfl (hS.cell rfl)) <|
  qcc (v := .int .i64 q4) call_76 (args2 rfl rfl) (fun w' hS => by
   have hcall := c_cmp_Compare_int q0a  (hS.pull 2)
   exact (Calls.mono hcall (fun e w'' h => And.intro h.1 ((h.2.pull 2).pull 2)))) <| q (yl_field0 fld_63_3 rfl) <| q (yl_fieldN fld_61_1 rfl) <| qa (fun w' hS => at_load one_3 rfl ((hS.pull 1).cell rfl)) <|
  q (yl_field0 fld_63_3 rfl) <| q (yl_fieldN fld_61_1 rfl) <| qa (fun w' hS => at_load one_3 rfl (hS.cell rfl)) <| qcc (v := .int .i64 q5) call_76 (args2 rfl rfl) (fun w' hS => by
   have hcall := c_cmp_Compare_int q0b  (hS.pull 2)
   exact (Calls.mono hcall (fun e w'' h => And.intro h.1 ((h.2.pull 2).pull 2)))) <|
  q_done fun w' hS => ?_
 refine o_buildSlice (vs := [.int .i64 q6, .int .i64 q7, .int .i64 q2, .int .i64 q3, .int .i64 q4, .int .i64 q5]) (cs := [.int .i64 q6, .int .i64 q7, .int .i64 q2, .int .i64 q3, .int .i64 q4, .int .i64 q5]) sl_22 zero_3 (parts_eq (pt (va := .int .i64 q6) rfl (pt (va := .int .i64 q7) rfl (pt (va := .int .i64 q2) rfl (pt (va := .int .i64 q3) rfl (pt (va := .int .i64 q4) rfl (pt (va := .int .i64 q5) rfl pt0))))))) rfl (by intro v hv; simp only [List.mem_cons, List.not_mem_nil, or_false] at hv; first | (subst hv; rfl) | (rcases hv with rfl | rfl | rfl | rfl | rfl | rfl <;> rfl)) (by decide) rfl hS (fun b41 w' hS => ?_)
 have q0c : RepL (RpI .i64) ρ ([q6, q7, q2, q3, q4, q5] : List Int) [.int .i64 q6, .int .i64 q7, .int .i64 q2, .int .i64 q3, .int .i64 q4, .int .i64 q5] := (RepL.cons (cs := [.int .i64 q6]) rfl (RepL.cons (cs := [.int .i64 q7]) rfl (RepL.cons (cs := [.int .i64 q2]) rfl (RepL.cons (cs := [.int .i64 q3]) rfl (RepL.cons (cs := [.int .i64 q4]) rfl (RepL.cons (cs := [.int .i64 q5]) rfl RepL.nil))))))
 replace hS := St.vec_of (n := 6) (sz := (RpI .i64).sz) hS rfl (by decide)
 replace hF := bd_s hF; obtain ⟨q0g, q0d, hF⟩ := hF
 have q_ := St.lend ((hS.pull 3).pull 1) q0c; obtain ⟨ρl0, hll0, hlf0, hS0, back0⟩ := q_
 have hcall := c_cmp_Or_int q0d hlf0 hS0
 refine o_cc call_75 (args1 rfl) ((Calls.mono hcall (fun e w'' h => And.intro h.1 (((((back0 h.2).pull 1).pull 3).pull 3).pull 3)))) ?_
 rintro e w' ⟨rfl, hS⟩
 refine ⟨_, rfl, ?_⟩
 refine p (v := .int .i64 q0g) (yl_assign rfl) <| x_done <| ?_
 have e_ := sinj hF; subst e_
 exact x_return ⟨_, ⟨_, _, rfl, rfl, rfl⟩, rfl, hS.drop.drop.drop⟩
attribute [irreducible] P_rules_compare
def cmpI (x y : Int) : Int := if x < y then -1 else if y < x then 1 else 0
def orL : List Int → Int
 | [] => 0
 | x :: r => if x ≠ 0 then x else orL r
/-- How faults are compared. -/
def keyF (x : T_rules_Fault) : List Int := [x.Kind, x.Net, x.Other, x.At.Layer, x.At.Y, x.At.X]
def cmpFault (a b : T_rules_Fault) : Int := orL [cmpI a.Kind b.Kind, cmpI a.Net b.Net, cmpI a.Other b.Other, cmpI a.At.Layer b.At.Layer, cmpI a.At.Y b.At.Y, cmpI a.At.X b.At.X]
theorem compare_cmpI (x y : Int) : P_cmp_Compare_int x y = some (cmpI x y) := by
 unfold P_cmp_Compare_int P_cmp_isNaN_int cmpI
 simp only [bd, ne_eq, not_true_eq_false, if_false]
 split
 ·rfl
 ·split <;> rfl
theorem or_orL {vals : List Int} (h : vals.length < 1000) : P_cmp_Or_int vals = some (orL vals) := by
 have key : Ok (P_cmp_Or_int vals) (fun r => r = orL vals) := by
  unfold P_cmp_Or_int
  refine ok_bs (R := fun o => match o with | .inl _ => orL vals = 0 | .inr r => r = orL vals) ?_ (fun _ h => ok_some h.symm) (fun r h => ok_some h)
  refine ok_lp (fun i => 0 ≤ i ∧ i ≤ vals.length ∧ orL (vals.drop i.toNat) = orL vals) (fun i => ((vals.length : Int) - i).toNat) ⟨by omega, by omega, by simp⟩ (by omega) ?_
  rintro i ⟨h0, h1, h2⟩
  unfold P_cmp_Or_int_L3
  refine ok_ite (fun hc => ?_) (fun hc => ok_some ?_)
  ·have hd : vals.drop i.toNat = gt vals i :: vals.drop (i.toNat + 1) := by
    rw [List.drop_eq_getElem_cons (by omega), gt_get ⟨h0, hc⟩]
   rw [hd] at h2
   simp only [orL] at h2
   refine ok_ck ⟨h0, hc⟩ (ok_lv (ok_ite (fun hx => ok_some ?_) (fun hx => ok_ar (by unfold I64; omega) (ok_some ?_))))
   ·rw [if_pos hx] at h2; exact h2
   ·rw [if_neg hx] at h2
    refine ⟨⟨by omega, by omega, ?_⟩, by omega⟩
    rw [show (i + 1).toNat = i.toNat + 1 by omega]; exact h2
  ·rw [List.drop_of_length_le (by omega)] at h2
   exact h2.symm
 obtain ⟨r, h1, h2⟩ := key
 rw [h1, h2]
theorem cmp_cmpFault (a b : T_rules_Fault) : P_rules_compare a b = some (cmpFault a b) := by
 unfold P_rules_compare cmpFault
 simp only [compare_cmpI, bd]
 rw [or_orL (by simp)]
def lexL : List Int → List Int → Prop
 | a :: xs, b :: ys => a < b ∨ a = b ∧ lexL xs ys
 | _, _ => False
theorem lexL_irr : ∀ {x : List Int}, ¬ lexL x x
 | [] => fun h => h
 | a :: xs => fun h => by
  rcases h with h | ⟨_, h⟩
  ·omega
  ·exact lexL_irr h
theorem lexL_tr : ∀ {x y z : List Int}, lexL x y → lexL y z → lexL x z
 | [], _, _, h, _ => absurd h (by simp [lexL])
 | _ :: _, [], _, h, _ => absurd h (by simp [lexL])
 | _ :: _, _ :: _, [], _, h => absurd h (by simp [lexL])
 | a :: xs, b :: ys, c :: cs, h1, h2 => by
  rcases h1 with h1 | ⟨rfl, h1⟩
  ·rcases h2 with h2 | ⟨rfl, h2⟩
   ·exact .inl (by omega)
   ·exact .inl h1
  ·rcases h2 with h2 | ⟨rfl, h2⟩
   ·exact .inl h2
   ·exact .inr ⟨rfl, lexL_tr h1 h2⟩
theorem lexL_tot : ∀ {x y : List Int}, x.length = y.length → ¬ lexL x y → ¬ lexL y x → x = y
 | [], [], _, _, _ => rfl
 | [], _ :: _, h, _, _ => by simp at h
 | _ :: _, [], h, _, _ => by simp at h
 | a :: xs, b :: ys, h, h1, h2 => by
  simp only [lexL, not_or, not_and] at h1 h2
  have e : a = b := by omega
  subst e
  rw [lexL_tot (by simpa using h) (h1.2 rfl) (h2.2 rfl)]
theorem orL_neg (a b : Int) (r : List Int) : orL (cmpI a b :: r) < 0 ↔ a < b ∨ a = b ∧ orL r < 0 := by
 by_cases h1 : a < b
 ·have : cmpI a b = -1 := by unfold cmpI; rw [if_pos h1]
  simp only [orL, this]; simp; omega
 ·by_cases h2 : b < a
  ·have : cmpI a b = 1 := by unfold cmpI; rw [if_neg h1, if_pos h2]
   simp only [orL, this]; simp; omega
  ·have : cmpI a b = 0 := by unfold cmpI; rw [if_neg h1, if_neg h2]
   simp only [orL, this]; simp; omega
theorem cmpFault_lex (a b : T_rules_Fault) : cmpFault a b < 0 ↔ lexL (keyF a) (keyF b) := by
 unfold cmpFault keyF
 rw [orL_neg, orL_neg, orL_neg, orL_neg, orL_neg, orL_neg]
 simp [lexL, orL]
theorem keyF_inj {a b : T_rules_Fault} (h : keyF a = keyF b) : a = b := by
 obtain ⟨a1, a2, a3, a4, a5, a6⟩ := a
 obtain ⟨b1, b2, b3, b4, b5, b6⟩ := b
 simp only [keyF, List.cons.injEq, and_true] at h
 obtain ⟨rfl, rfl, rfl, rfl, rfl, rfl⟩ := h
 rfl
theorem cmpFault_lt (a b : T_rules_Fault) : ltOf cmpFault a b = true ↔ lexL (keyF a) (keyF b) := by
 unfold ltOf; rw [decide_eq_true_eq]; exact cmpFault_lex a b
theorem cmpFault_nlt (a b : T_rules_Fault) : ltOf cmpFault a b = false ↔ ¬ lexL (keyF a) (keyF b) := by
 rw [← cmpFault_lt]; simp
theorem cmpFault_tot (a b : T_rules_Fault) (h1 : ltOf cmpFault a b = false) (h2 : ltOf cmpFault b a = false) : a = b :=
 keyF_inj (lexL_tot rfl ((cmpFault_nlt _ _).1 h1) ((cmpFault_nlt _ _).1 h2))
theorem cmpFault_swo : Go.Sort.SWO (ltOf cmpFault) where
 irrefl x := (cmpFault_nlt _ _).2 lexL_irr
 trans x y z h1 h2 := (cmpFault_lt _ _).2 (lexL_tr ((cmpFault_lt _ _).1 h1) ((cmpFault_lt _ _).1 h2))
 ntrans x y z h1 h2 := by
  rw [cmpFault_nlt] at h1 h2 ⊢
  intro h
  by_cases q : lexL (keyF y) (keyF x)
  ·exact h2 (lexL_tr q h)
  ·rw [lexL_tot (x := keyF x) (y := keyF y) rfl h1 q] at h
   exact h2 h
theorem cmpFault_sort {w0 w : World} {l : List Assn} {ρ : Heap} {A : Option Addr} {n c : Nat} {xs : List T_rules_Fault} {cs : List Value} (hlen : xs.length < 4611686018427387904) (hS : St w0 w (vec 63 R_rules_Fault.sz (.slice A n c) n cs :: ro ρ :: l)) (hR : RepL R_rules_Fault ρ xs cs) :
  Calls Try.prog 52 #[.slice A n c, .func (.func 53) #[] #[]] w fun e' w' => e' = .returned (.tuple #[]) ∧ ∃ cs', RepL R_rules_Fault ρ (sortF cmpFault xs) cs' ∧ St w0 w' (vec 63 R_rules_Fault.sz (.slice A n c) n cs' :: ro ρ :: l) :=
 sort_at (ρr := Try.sortFault_ren) Try.sortFault (k := 6) Try.isAgg63 Try.sizeOf63 (enc := fun x : T_rules_Fault => [.int .i64 x.Kind, .int .i64 x.Net, .int .i64 x.Other, .int .i64 x.At.Layer, .int .i64 x.At.X, .int .i64 x.At.Y]) (fun _ => rfl) (fun x v hv => allOne_spec rfl v hv) cmpFault_swo cmpFault_tot (show callB Try.prog 53 = true by kernel_rfl) (fun _ _ _ => Iff.rfl) rfl (fun x y {w0 w ρ} hS => c_rules_compare (cmp_cmpFault x y) hS) hlen hS hR

def P_rules_Faults_L15 (q4 : (List (T_rules_Fault × Bool) × Bool)) : (List T_rules_Fault × List Nat) → Nd ((List T_rules_Fault × List Nat) ⊕ List T_rules_Fault) := fun (q2, q3) =>
 nnx (q4.1.length) q3 (
  nret (Sum.inr q2)) fun i42 =>
 nlv (gt q4.1 i42) fun e44 =>
 nlv (q2 ++ [e44.1]) fun q5 =>
 nck (apOk 48 q5.length) <|
 nret (Sum.inl (q5, (q3 ++ [i42])))
def P_rules_Faults (l_0 : T_rules_Layout) : Nd (List T_rules_Fault × Int) :=
 nbd (nof (P_rules_Check l_0)) fun q0a =>
 if q0a ≠ 0 then
  nret ([], q0a)
 else
  nbd (nof (P_rules_shapes l_0)) fun q2 =>
  nbd (nof (P_rules_shorts [] false l_0 q2)) fun q3 =>
  if q3.2 = true then
   nret ([], (3 : Int))
  else
   nbd (nof (P_rules_walled q3.1 q3.2 l_0 q2)) fun q4 =>
   if q4.2 = true then
    nret ([], (3 : Int))
   else
    nbd (P_rules_near q4.1 q4.2 l_0 q2) fun q5 =>
    if q5.2 = true then
     nret ([], (3 : Int))
    else
     nbd (P_rules_small q5.1 q5.2 l_0 q2) fun q6 =>
     if q6.2 = true then
      nret ([], (3 : Int))
     else
      nbd (nof (P_rules_open q6.1 q6.2 l_0 q2)) fun q7 =>
      if q7.2 = true then
       nret ([], (3 : Int))
      else
       nbd (nof (P_rules_antenna q7.1 q7.2 l_0 q2)) fun q9 =>
       if q9.2 = true then
        nret ([], (3 : Int))
       else
        nbd (
         nlp (P_rules_Faults_L15 q9) fuel ([], [])) fun q8 =>
        nck (q8.length < 4611686018427387904) <|
        nlv (sortF cmpFault q8) fun q0b =>
        nret (q0b, (0 : Int))
theorem c_rules_Faults {w0 w : World} {l : List Assn} {ρ : Heap} {q5 : Option Addr} {q0w : Nat} {c_l_0_4 : Nat} {q6 : Option Addr} {q0x : Nat} {c_l_0_5 : Nat} {q7 : Option Addr} {q0y : Nat} {c_l_0_6 : Nat} {q8 : Option Addr} {q0z : Nat} {c_l_0_7 : Nat} {l_0 : T_rules_Layout} {Q : (List T_rules_Fault × Int) → Prop} (hF : P_rules_Faults l_0 Q) (q0a : RdS R_rules_Wire ρ q5 q0w c_l_0_4 l_0.Wires) (q0b : RdS R_rules_Via ρ q6 q0x c_l_0_5 l_0.Vias) (q0c : RdS R_rules_Pin ρ q7 q0y c_l_0_6 l_0.Pins) (q0d : RdS R_floor_Wall ρ q8 q0z c_l_0_7 l_0.Walls) (hS : St w0 w (ro ρ :: l)) :
  Calls Try.prog 21 #[.agg #[.int .i64 l_0.W, .int .i64 l_0.H, .int .i64 l_0.Layers, .int .i64 l_0.Nets, .slice q5 q0w c_l_0_4, .slice q6 q0x c_l_0_5, .slice q7 q0y c_l_0_6, .slice q8 q0z c_l_0_7]] w fun e w' => ∃ r : (List T_rules_Fault × Int), Q r ∧ ∃ (q0v : Option Addr) (q0o : Nat) (c_y0_ret : Nat) (q0u : List Value), e = .returned (.tuple #[.slice q0v q0o c_y0_ret, .int .i64 r.2]) ∧ RepL R_rules_Fault ρ r.1 q0u ∧ St w0 w' (vec 63 R_rules_Fault.sz (.slice q0v q0o c_y0_ret) q0o q0u :: ro ρ :: l) := by
 have e_ := q0a.n; subst e_
 have e_ := q0b.n; subst e_
 have e_ := q0c.n; subst e_
 have e_ := q0d.n; subst e_
 refine enterC Try.func21 rfl 53 rfl (by simp) ?_
 refine x_seq <| x_region <| ?_
 refine o_box (cs := [.int .i64 l_0.W, .int .i64 l_0.H, .int .i64 l_0.Layers, .int .i64 l_0.Nets, .slice q5 l_0.Wires.length c_l_0_4, .slice q6 l_0.Vias.length c_l_0_5, .slice q7 l_0.Pins.length c_l_0_6, .slice q8 l_0.Walls.length c_l_0_7]) rfl rfl hS (fun b1 w' hS => ?_)
 replace hF := nbd_s hF; obtain ⟨q0t, q1m, hF⟩ := hF
 refine p (yl_assign rfl) <| p (yl_assign rfl) <| x_done <| x_seq <|
  x_seq <| x_region <| pa (v := .agg #[.int .i64 l_0.W, .int .i64 l_0.H, .int .i64 l_0.Layers, .int .i64 l_0.Nets, .slice q5 l_0.Wires.length c_l_0_4, .slice q6 l_0.Vias.length c_l_0_5, .slice q7 l_0.Pins.length c_l_0_6, .slice q8 l_0.Walls.length c_l_0_7]) (ld_sub agg_31 rfl rfl rfl hS) <| ?_
 have hcall := c_rules_Check q1m q0a q0b q0c q0d (hS.pull 1)
 refine o_cc call_44 (args1 rfl) ((Calls.mono hcall (fun e w'' h => And.intro h.1 (h.2.pull 1)))) ?_
 rintro e w' ⟨rfl, hS⟩
 refine ⟨_, rfl, ?_⟩
 refine p (v := .int .i64 q0t) (yl_assign rfl) <| x_done <| x_seq <| x_region <|
  p (v := .int .i64 q0t) (yl_move rfl) <| p (yl_neq rfl rfl) <| x_done <|
  x_cond_p (q0t ≠ 0) rfl (fun hc14 => ?_) (fun hc14 => ?_)
 ·replace hF := nit_t hc14 hF
  refine x_seq <| x_region <| p (v := .int .i64 q0t) (yl_move rfl) <| p (yl_assign rfl) <|
   p (v := .int .i64 q0t) (yl_assign rfl) <| x_done <| ?_
  replace hS := St.vec_nil hS 63 R_rules_Fault.sz
  have q3 : RepL R_rules_Fault ρ [] [] := rfl
  exact x_return ⟨_, ⟨_, _, rfl, rfl, _, _, rfl, rfl, rfl⟩, ([], q0t), hF, none, 0, 0, [], rfl, q3, (((hS.pull 1).drop.pull 1).pull 1)⟩
 ·replace hF := nit_f hc14 hF
  replace hF := nbd_s hF; obtain ⟨q1r, q1n, hF⟩ := hF
  refine x_skip <| x_seq <| x_region <| pa (v := .agg #[.int .i64 l_0.W, .int .i64 l_0.H, .int .i64 l_0.Layers, .int .i64 l_0.Nets, .slice q5 l_0.Wires.length c_l_0_4, .slice q6 l_0.Vias.length c_l_0_5, .slice q7 l_0.Pins.length c_l_0_6, .slice q8 l_0.Walls.length c_l_0_7]) (ld_sub agg_31 rfl rfl rfl hS) <| ?_
  have hcall := c_rules_shapes q1n q0a q0b q0c q0d (hS.pull 1)
  refine o_cc call_45 (args1 rfl) hcall ?_
  rintro e w' ⟨q9, q1a, q1b, c_y0_ret_4_1, q19, rfl, q2, q4, hS⟩
  refine ⟨_, rfl, ?_⟩
  have e_ := St.vec_n hS q4; subst e_
  refine p (yl_assign rfl) <| x_done <| x_seq <| x_region <| ?_
  refine o_mkmap (κ := T_rules_Fault) (α := Bool) kf_63 Value.bool hS (fun b18 w' hS => ?_)
  refine p (v := .agg #[.map (some b18), .bool false]) (yl_build bld_103 bldf_103 (parts_eq (pt (va := .map (some b18)) rfl pt0)) (by kernel_rfl)) <| ?_
  refine o_box (cs := [.map (some b18), .bool false]) rfl rfl hS (fun b20 w' hS => ?_)
  refine p (yl_assign rfl) <| x_done <| x_seq <| x_seq <|
   x_region <| ?_
  refine o_buildSlice (vs := [.func (.func 46) #[] #[], .func (.func 47) #[] #[], .func (.func 48) #[] #[], .func (.func 49) #[] #[], .func (.func 50) #[] #[], .func (.func 51) #[] #[]]) (cs := [.func (.func 46) #[] #[], .func (.func 47) #[] #[], .func (.func 48) #[] #[], .func (.func 49) #[] #[], .func (.func 50) #[] #[], .func (.func 51) #[] #[]]) sl_105 zero_104 (parts_eq (pt (va := .func (.func 46) #[] #[]) rfl (pt (va := .func (.func 47) #[] #[]) rfl (pt (va := .func (.func 48) #[] #[]) rfl (pt (va := .func (.func 49) #[] #[]) rfl (pt (va := .func (.func 50) #[] #[]) rfl (pt (va := .func (.func 51) #[] #[]) rfl pt0))))))) rfl (by intro v hv; simp only [List.mem_cons, List.not_mem_nil, or_false] at hv; first | (subst hv; rfl) | (rcases hv with rfl | rfl | rfl | rfl | rfl | rfl <;> rfl)) (by decide) rfl hS (fun b21 w' hS => ?_)
  replace hF := nbd_s hF; obtain ⟨q1c, q15, hF⟩ := hF
  refine p (yl_len_slice usl_105 rfl) <| p (yl_move rfl) <| x_done <| x_block <|
   x_unroll 6 <| x_seq <| x_region <| p (ylss_l (t := true) rfl rfl (by decide)) <|
   x_done <| x_seq <| x_cond_t (show ev _ _ = .bool true from rfl) <| x_skip <|
   x_seq <| x_block <| x_seq <| x_region <|
   p (yix_lit (j := 0) sl_105 rfl rfl (by decide)) <| pa (at_load one_104 rfl (hS.cell rfl)) <| p (yl_assign rfl) <| x_done <|
   x_seq <| x_region <| p (yl_move rfl) <| p (yl_move rfl) <|
   pa (v := .agg #[.int .i64 l_0.W, .int .i64 l_0.H, .int .i64 l_0.Layers, .int .i64 l_0.Nets, .slice q5 l_0.Wires.length c_l_0_4, .slice q6 l_0.Vias.length c_l_0_5, .slice q7 l_0.Pins.length c_l_0_6, .slice q8 l_0.Walls.length c_l_0_7]) (ld_sub agg_31 rfl rfl rfl (hS.pull 5)) <| p (yl_move rfl) <| ?_
  have q_ := St.lend ((hS.pull 4).pull 4) q4; obtain ⟨ρl0, hll0, hlf0, hS0, back0⟩ := q_
  have hcall := c_rules_shorts q15 ((q0a.le q2).le hll0) ((q0b.le q2).le hll0) ((q0c.le q2).le hll0) ((q0d.le q2).le hll0) hlf0 ((hS0.pull 3).pull 3)
  refine o_ccv rfl call_46 (args3 rfl rfl rfl) hcall ?_
  rintro e w' ⟨rfl, hS⟩
  refine ⟨_, rfl, ?_⟩
  replace hS := back0 (hS.pull 2)
  refine x_done <| x_seq <| x_region <| p (yl_move rfl) <|
   p (yl_nilCheck rfl) <| p (yl_field0 fld_103_1 rfl) <| pa (at_load one_4 rfl ((hS.pull 2).cell rfl)) <| x_done <|
   x_cond (t := q1c.2) rfl (fun hc35u6 => ?_) (fun hc35u6 => ?_)
  ·replace hF := nit_t hc35u6 hF
   refine x_seq <| x_region <| p (yl_assign rfl) <| p (yl_assign rfl) <|
    x_done <| ?_
   replace hS := St.vec_nil hS 63 R_rules_Fault.sz
   have q3 : RepL R_rules_Fault q9 [] [] := rfl
   exact x_return ⟨_, ⟨_, _, rfl, rfl, _, _, rfl, rfl, rfl⟩, ([], (3 : Int)), hF, none, 0, 0, [], rfl, (RepL.flat (fun h => h) q3), (ro_back1 q2 (((((((hS.pull 1).drop.pull 2).drop.pull 2).drop.pull 2).drop.pull 2).drop.pull 1).pull 1))⟩
  ·replace hF := nit_bf hc35u6 hF
   replace hF := nbd_s hF; obtain ⟨q1d, q16, hF⟩ := hF
   refine x_skip <| x_blk <| x_region <| p (yadd (c := 1) rfl rfl ⟨rfl, by decide⟩) <|
    p (yl_move rfl) <| x_done <| x_un 5 <| x_seq <|
    x_region <| p (ylss_l (t := true) rfl rfl (by decide)) <| x_done <| x_seq <|
    x_cond_t (show ev _ _ = .bool true from rfl) <| x_skip <| x_seq <| x_block <|
    x_seq <| x_region <| p (yix_lit (j := 1) sl_105 rfl rfl (by decide)) <| pa (at_load one_104 rfl ((hS.pull 4).cell rfl)) <|
    p (yl_assign rfl) <| x_done <| x_seq <| x_region <|
    p (yl_move rfl) <| p (yl_move rfl) <| pa (v := .agg #[.int .i64 l_0.W, .int .i64 l_0.H, .int .i64 l_0.Layers, .int .i64 l_0.Nets, .slice q5 l_0.Wires.length c_l_0_4, .slice q6 l_0.Vias.length c_l_0_5, .slice q7 l_0.Pins.length c_l_0_6, .slice q8 l_0.Walls.length c_l_0_7]) (ld_sub agg_31 rfl rfl rfl (hS.pull 5)) <| p (yl_move rfl) <| ?_
   have q_ := St.lend ((hS.pull 1).pull 1) q4; obtain ⟨ρl0, hll0, hlf0, hS0, back0⟩ := q_
   have hcall := c_rules_walled q16 ((q0a.le q2).le hll0) ((q0b.le q2).le hll0) ((q0c.le q2).le hll0) ((q0d.le q2).le hll0) hlf0 ((hS0.pull 2).pull 2)
   refine o_ccv rfl call_47 (args3 rfl rfl rfl) hcall ?_
   rintro e w' ⟨rfl, hS⟩
   refine ⟨_, rfl, ?_⟩
   replace hS := back0 (hS.pull 2)
   refine x_done <| x_seq <| x_region <| p (yl_move rfl) <|
    p (yl_nilCheck rfl) <| p (yl_field0 fld_103_1 rfl) <| pa (at_load one_4 rfl ((hS.pull 2).cell rfl)) <| x_done <|
    x_cond (t := q1d.2) rfl (fun hc35u5 => ?_) (fun hc35u5 => ?_)
   ·replace hF := nit_t hc35u5 hF
    refine x_seq <| x_region <| p (yl_assign rfl) <| p (yl_assign rfl) <|
     x_done <| ?_
    replace hS := St.vec_nil hS 63 R_rules_Fault.sz
    have q3 : RepL R_rules_Fault q9 [] [] := rfl
    exact x_return ⟨_, ⟨_, _, rfl, rfl, _, _, rfl, rfl, rfl⟩, ([], (3 : Int)), hF, none, 0, 0, [], rfl, (RepL.flat (fun h => h) q3), (ro_back1 q2 (((((((hS.pull 1).drop.pull 2).drop.pull 2).drop.pull 2).drop.pull 2).drop.pull 1).pull 1))⟩
   ·replace hF := nit_bf hc35u5 hF
    refine x_skip <| x_blk <| x_region <| p (yadd (c := 2) rfl rfl ⟨rfl, by decide⟩) <|
     p (yl_move rfl) <| x_done <| x_un 4 <| x_seq <|
     x_region <| p (ylss_l (t := true) rfl rfl (by decide)) <| x_done <| x_seq <|
     x_cond_t (show ev _ _ = .bool true from rfl) <| x_skip <| x_seq <| x_block <|
     x_seq <| x_region <| p (yix_lit (j := 2) sl_105 rfl rfl (by decide)) <| pa (at_load one_104 rfl ((hS.pull 4).cell rfl)) <|
     p (yl_assign rfl) <| x_done <| x_seq <| x_region <|
     p (yl_move rfl) <| p (yl_move rfl) <| pa (v := .agg #[.int .i64 l_0.W, .int .i64 l_0.H, .int .i64 l_0.Layers, .int .i64 l_0.Nets, .slice q5 l_0.Wires.length c_l_0_4, .slice q6 l_0.Vias.length c_l_0_5, .slice q7 l_0.Pins.length c_l_0_6, .slice q8 l_0.Walls.length c_l_0_7]) (ld_sub agg_31 rfl rfl rfl (hS.pull 5)) <| p (yl_move rfl) <| ?_
    have q_ := St.lend ((hS.pull 1).pull 1) q4; obtain ⟨ρl0, hll0, hlf0, hS0, back0⟩ := q_
    have hcall := c_rules_near (nbd_c hF) ((q0a.le q2).le hll0) ((q0b.le q2).le hll0) ((q0c.le q2).le hll0) ((q0d.le q2).le hll0) hlf0 ((hS0.pull 2).pull 2)
    refine o_ccv rfl call_48 (args3 rfl rfl rfl) hcall ?_
    rintro e w' ⟨q1e, hF, rfl, hS⟩
    refine ⟨_, rfl, ?_⟩
    replace hS := back0 (hS.pull 2)
    refine x_done <| x_seq <| x_region <| p (yl_move rfl) <|
     p (yl_nilCheck rfl) <| p (yl_field0 fld_103_1 rfl) <| pa (at_load one_4 rfl ((hS.pull 2).cell rfl)) <| x_done <|
     x_cond (t := q1e.2) rfl (fun hc35u4 => ?_) (fun hc35u4 => ?_)
    ·replace hF := nit_t hc35u4 hF
     refine x_seq <| x_region <| p (yl_assign rfl) <| p (yl_assign rfl) <|
      x_done <| ?_
     replace hS := St.vec_nil hS 63 R_rules_Fault.sz
     have q3 : RepL R_rules_Fault q9 [] [] := rfl
     exact x_return ⟨_, ⟨_, _, rfl, rfl, _, _, rfl, rfl, rfl⟩, ([], (3 : Int)), hF, none, 0, 0, [], rfl, (RepL.flat (fun h => h) q3), (ro_back1 q2 (((((((hS.pull 1).drop.pull 2).drop.pull 2).drop.pull 2).drop.pull 2).drop.pull 1).pull 1))⟩
    ·replace hF := nit_bf hc35u4 hF
     refine x_skip <| x_blk <| x_region <| p (yadd (c := 3) rfl rfl ⟨rfl, by decide⟩) <|
      p (yl_move rfl) <| x_done <| x_un 3 <| x_seq <|
      x_region <| p (ylss_l (t := true) rfl rfl (by decide)) <| x_done <| x_seq <|
      x_cond_t (show ev _ _ = .bool true from rfl) <| x_skip <| x_seq <| x_block <|
      x_seq <| x_region <| p (yix_lit (j := 3) sl_105 rfl rfl (by decide)) <| pa (at_load one_104 rfl ((hS.pull 4).cell rfl)) <|
      p (yl_assign rfl) <| x_done <| x_seq <| x_region <|
      p (yl_move rfl) <| p (yl_move rfl) <| pa (v := .agg #[.int .i64 l_0.W, .int .i64 l_0.H, .int .i64 l_0.Layers, .int .i64 l_0.Nets, .slice q5 l_0.Wires.length c_l_0_4, .slice q6 l_0.Vias.length c_l_0_5, .slice q7 l_0.Pins.length c_l_0_6, .slice q8 l_0.Walls.length c_l_0_7]) (ld_sub agg_31 rfl rfl rfl (hS.pull 5)) <| p (yl_move rfl) <| ?_
     have q_ := St.lend ((hS.pull 1).pull 1) q4; obtain ⟨ρl0, hll0, hlf0, hS0, back0⟩ := q_
     have hcall := c_rules_small (nbd_c hF) ((q0a.le q2).le hll0) ((q0b.le q2).le hll0) ((q0c.le q2).le hll0) ((q0d.le q2).le hll0) hlf0 ((hS0.pull 2).pull 2)
     refine o_ccv rfl call_49 (args3 rfl rfl rfl) hcall ?_
     rintro e w' ⟨q1f, hF, rfl, hS⟩
     refine ⟨_, rfl, ?_⟩
     replace hS := back0 (hS.pull 2)
     refine x_done <| x_seq <| x_region <| p (yl_move rfl) <|
      p (yl_nilCheck rfl) <| p (yl_field0 fld_103_1 rfl) <| pa (at_load one_4 rfl ((hS.pull 2).cell rfl)) <| x_done <|
      x_cond (t := q1f.2) rfl (fun hc35u3 => ?_) (fun hc35u3 => ?_)
     ·replace hF := nit_t hc35u3 hF
      refine x_seq <| x_region <| p (yl_assign rfl) <| p (yl_assign rfl) <|
       x_done <| ?_
      replace hS := St.vec_nil hS 63 R_rules_Fault.sz
      have q3 : RepL R_rules_Fault q9 [] [] := rfl
      exact x_return ⟨_, ⟨_, _, rfl, rfl, _, _, rfl, rfl, rfl⟩, ([], (3 : Int)), hF, none, 0, 0, [], rfl, (RepL.flat (fun h => h) q3), (ro_back1 q2 (((((((hS.pull 1).drop.pull 2).drop.pull 2).drop.pull 2).drop.pull 2).drop.pull 1).pull 1))⟩
     ·replace hF := nit_bf hc35u3 hF
      replace hF := nbd_s hF; obtain ⟨q1g, q17, hF⟩ := hF
      refine x_skip <| x_blk <| x_region <| p (yadd (c := 4) rfl rfl ⟨rfl, by decide⟩) <|
       p (yl_move rfl) <| x_done <| x_un 2 <| x_seq <|
       x_region <| p (ylss_l (t := true) rfl rfl (by decide)) <| x_done <| x_seq <|
       x_cond_t (show ev _ _ = .bool true from rfl) <| x_skip <| x_seq <| x_block <|
       x_seq <| x_region <| p (yix_lit (j := 4) sl_105 rfl rfl (by decide)) <| pa (at_load one_104 rfl ((hS.pull 4).cell rfl)) <|
       p (yl_assign rfl) <| x_done <| x_seq <| x_region <|
       p (yl_move rfl) <| p (yl_move rfl) <| pa (v := .agg #[.int .i64 l_0.W, .int .i64 l_0.H, .int .i64 l_0.Layers, .int .i64 l_0.Nets, .slice q5 l_0.Wires.length c_l_0_4, .slice q6 l_0.Vias.length c_l_0_5, .slice q7 l_0.Pins.length c_l_0_6, .slice q8 l_0.Walls.length c_l_0_7]) (ld_sub agg_31 rfl rfl rfl (hS.pull 5)) <| p (yl_move rfl) <| ?_
      have q_ := St.lend ((hS.pull 1).pull 1) q4; obtain ⟨ρl0, hll0, hlf0, hS0, back0⟩ := q_
      have hcall := c_rules_open q17 ((q0a.le q2).le hll0) ((q0b.le q2).le hll0) ((q0c.le q2).le hll0) ((q0d.le q2).le hll0) hlf0 ((hS0.pull 2).pull 2)
      refine o_ccv rfl call_50 (args3 rfl rfl rfl) hcall ?_
      rintro e w' ⟨rfl, hS⟩
      refine ⟨_, rfl, ?_⟩
      replace hS := back0 (hS.pull 2)
      refine x_done <| x_seq <| x_region <| p (yl_move rfl) <|
       p (yl_nilCheck rfl) <| p (yl_field0 fld_103_1 rfl) <| pa (at_load one_4 rfl ((hS.pull 2).cell rfl)) <| x_done <|
       x_cond (t := q1g.2) rfl (fun hc35u2 => ?_) (fun hc35u2 => ?_)
      ·replace hF := nit_t hc35u2 hF
       refine x_seq <| x_region <| p (yl_assign rfl) <| p (yl_assign rfl) <|
        x_done <| ?_
       replace hS := St.vec_nil hS 63 R_rules_Fault.sz
       have q3 : RepL R_rules_Fault q9 [] [] := rfl
       exact x_return ⟨_, ⟨_, _, rfl, rfl, _, _, rfl, rfl, rfl⟩, ([], (3 : Int)), hF, none, 0, 0, [], rfl, (RepL.flat (fun h => h) q3), (ro_back1 q2 (((((((hS.pull 1).drop.pull 2).drop.pull 2).drop.pull 2).drop.pull 2).drop.pull 1).pull 1))⟩
      ·replace hF := nit_bf hc35u2 hF
       replace hF := nbd_s hF; obtain ⟨q0r, q18, hF⟩ := hF
       refine x_skip <| x_blk <| x_region <| p (yadd (c := 5) rfl rfl ⟨rfl, by decide⟩) <|
        p (yl_move rfl) <| x_done <| x_un 1 <| x_seq <|
        x_region <| p (ylss_l (t := true) rfl rfl (by decide)) <| x_done <| x_seq <|
        x_cond_t (show ev _ _ = .bool true from rfl) <| x_skip <| x_seq <| x_block <|
        x_seq <| x_region <| p (yix_lit (j := 5) sl_105 rfl rfl (by decide)) <| pa (at_load one_104 rfl ((hS.pull 4).cell rfl)) <|
        p (yl_assign rfl) <| x_done <| x_seq <| x_region <|
        p (yl_move rfl) <| p (yl_move rfl) <| pa (v := .agg #[.int .i64 l_0.W, .int .i64 l_0.H, .int .i64 l_0.Layers, .int .i64 l_0.Nets, .slice q5 l_0.Wires.length c_l_0_4, .slice q6 l_0.Vias.length c_l_0_5, .slice q7 l_0.Pins.length c_l_0_6, .slice q8 l_0.Walls.length c_l_0_7]) (ld_sub agg_31 rfl rfl rfl (hS.pull 5)) <| p (yl_move rfl) <| ?_
       have q_ := St.lend ((hS.pull 1).pull 1) q4; obtain ⟨ρl0, hll0, hlf0, hS0, back0⟩ := q_
       have hcall := c_rules_antenna q18 ((q0a.le q2).le hll0) ((q0b.le q2).le hll0) ((q0c.le q2).le hll0) ((q0d.le q2).le hll0) hlf0 ((hS0.pull 2).pull 2)
       refine o_ccv rfl call_51 (args3 rfl rfl rfl) hcall ?_
       rintro e w' ⟨rfl, hS⟩
       refine ⟨_, rfl, ?_⟩
       replace hS := back0 (hS.pull 2)
       refine x_done <| x_seq <| x_region <| p (yl_move rfl) <|
        p (yl_nilCheck rfl) <| p (yl_field0 fld_103_1 rfl) <| pa (at_load one_4 rfl ((hS.pull 2).cell rfl)) <| x_done <|
        x_cond (t := q0r.2) rfl (fun hc35u1 => ?_) (fun hc35u1 => ?_)
       ·replace hF := nit_t hc35u1 hF
        refine x_seq <| x_region <| p (yl_assign rfl) <| p (yl_assign rfl) <|
         x_done <| ?_
        replace hS := St.vec_nil hS 63 R_rules_Fault.sz
        have q3 : RepL R_rules_Fault q9 [] [] := rfl
        exact x_return ⟨_, ⟨_, _, rfl, rfl, _, _, rfl, rfl, rfl⟩, ([], (3 : Int)), hF, none, 0, 0, [], rfl, (RepL.flat (fun h => h) q3), (ro_back1 q2 (((((((hS.pull 1).drop.pull 2).drop.pull 2).drop.pull 2).drop.pull 2).drop.pull 1).pull 1))⟩
       ·replace hF := nit_bf hc35u1 hF
        refine x_skip <| x_blk <| x_region <| p (yadd (c := 6) rfl rfl ⟨rfl, by decide⟩) <|
         p (yl_move rfl) <| x_done <| x_un 0 <| x_seq <|
         x_region <| p (ylss_l (t := false) rfl rfl (by decide)) <| x_done <| x_seq <|
         x_cond_f (show ev _ _ = .bool false from rfl) <| x_exitTo _ rfl <| x_seq <| x_region <|
         p (yl_assign rfl) <| x_done <| x_seq <| x_seq <|
         x_region <| p (yl_move rfl) <| p (yl_nilCheck rfl) <| p (yl_field0 fld_103_0 rfl) <|
         pa (at_load one_101 rfl ((hS.pull 2).cell rfl)) <| ?_
        refine o_range um_101 rfl (hS.pull 3) (fun b41 w' hS => ?_)
        refine x_done <| ?_
        replace hF := nbd_j hF; obtain ⟨oL15, hLL15, hF⟩ := hF
        refine x_join (fun E w => ∃ (q0i : Option Addr) (q0j : Nat) (c_out9_L15 : Nat) (q0k : List Value) (q0m : List T_rules_Fault), oL15 q0m ∧ E 9 = .slice q0i q0j c_out9_L15 ∧ RepL R_rules_Fault q9 q0m q0k ∧ St w0 w (vec 63 R_rules_Fault.sz (.slice q0i q0j c_out9_L15) q0j q0k :: ro q9 :: l)) ?_ ?_
        ·refine x_block ?_
         replace hS := St.vec_nil hS 63 R_rules_Fault.sz
         have q0p : RepL R_rules_Fault q9 [] [] := rfl
         refine x_loop (fun k_ E w => ∃ (q0f : Option Addr) (q0g : Nat) (c_out9_L15h : Nat) (q0e : List Value) (q0h : List T_rules_Fault) (q0n : List Nat), nlp (P_rules_Faults_L15 q0r) k_ (q0h, q0n) oL15 ∧ E 9 = .slice q0f q0g c_out9_L15h ∧ E 41 = .pointer (some ⟨b41, 0, none⟩) ∧ RepL R_rules_Fault q9 q0h q0e ∧ St w0 w (vec 63 R_rules_Fault.sz (.slice q0f q0g c_out9_L15h) q0g q0e :: mapA b18 kf_63 Value.bool q0r.1 :: itA b41 b18 q0r.1.length q0n :: ro q9 :: l)) fuel ⟨none, 0, 0, [], [], [], hLL15, rfl, rfl, q0p, ((((((((hS.pull 3).drop.pull 4).drop.pull 4).drop.pull 4).drop.pull 3).pull 2).pull 3).pull 3)⟩ ?_
         rintro kL15 E w ⟨q0f, q0g, c_out9_L15h, q0e, q0h, q0n, hLL15, q10, q0q, q0l, hS⟩
         have e_ := St.vec_n hS q0l; subst e_
         replace hLL15 := nlp_s hLL15; obtain ⟨kL15, obL15, rfl, hFL15, hLL15⟩ := hLL15
         refine x_seq <| x_region <|
          o_next q0q ((hS.pull 1).pull 2) (fun q1o w' hS => ?_) (fun i42 q13 q1p w' hS => ?_)
         ·replace hFL15 := nnx_a hFL15 q1o
          refine p (yl_extract rfl rfl) <| x_done <| x_seq <| x_cond_f (show ev _ _ = .bool false from rfl) <|
           x_exitTo _ rfl <| ?_
          exact x_inv ⟨q0f, q0h.length, c_out9_L15h, q0e, q0h, (hLL15 _ hFL15), q10, q0l, ((hS.drop.drop.pull 1).pull 1)⟩
         ·replace hFL15 := nnx_k hFL15 q13 q1p
          replace hFL15 := nlv_s hFL15; obtain ⟨e44, he44, hFL15⟩ := hFL15
          refine p (yl_extract rfl rfl) <| x_done <| x_seq <| x_cond_t (show ev _ _ = .bool true from rfl) <|
           x_skip <| x_block <| x_seq <| x_region <|
           pa (at_entry (kf := kf_63) (vf := Value.bool) q0q q13 ((hS.pull 1).pull 1) he44) <| p (yl_extract rfl rfl) <| ?_
          refine o_alloc zero_63 hS (fun b10 w' hS => ?_)
          refine o_storeAgg (news := [.int .i64 e44.1.Kind, .int .i64 e44.1.Net, .int .i64 e44.1.Other, .int .i64 e44.1.At.Layer, .int .i64 e44.1.At.X, .int .i64 e44.1.At.Y]) agg_63 rfl rfl rfl (by simp [over_length]) hS (fun w' hS => ?_)
          refine x_done <| x_region <| p (yl_move q10) <| pa (v := .agg #[.int .i64 e44.1.Kind, .int .i64 e44.1.Net, .int .i64 e44.1.Other, .int .i64 e44.1.At.Layer, .int .i64 e44.1.At.X, .int .i64 e44.1.At.Y]) (ld_sub agg_63 rfl rfl rfl hS) <| ?_
          refine o_buildSlice (vs := [.agg #[.int .i64 e44.1.Kind, .int .i64 e44.1.Net, .int .i64 e44.1.Other, .int .i64 e44.1.At.Layer, .int .i64 e44.1.At.X, .int .i64 e44.1.At.Y]]) (cs := [.int .i64 e44.1.Kind, .int .i64 e44.1.Net, .int .i64 e44.1.Other, .int .i64 e44.1.At.Layer, .int .i64 e44.1.At.X, .int .i64 e44.1.At.Y]) sl_56 zero_63 (parts_eq (pt (va := .agg #[.int .i64 e44.1.Kind, .int .i64 e44.1.Net, .int .i64 e44.1.Other, .int .i64 e44.1.At.Layer, .int .i64 e44.1.At.X, .int .i64 e44.1.At.Y]) rfl pt0)) rfl (by intro v hv; simp only [List.mem_cons, List.not_mem_nil, or_false] at hv; first | (subst hv; rfl) | (rcases hv with rfl <;> rfl)) (by decide) rfl hS (fun b48 w' hS => ?_)
          replace hFL15 := nlv_s hFL15; obtain ⟨q14, q1h, hFL15⟩ := hFL15
          replace hFL15 := nck_s hFL15; obtain ⟨q1i, hFL15⟩ := hFL15
          refine o_ap sl_56 zero_63 rfl (by decide) rfl rfl (hS.pull 4) q0l (src_blk usl_56 hS rfl rfl) (RepL.cons (R := R_rules_Fault) (ρ := q9) (x := e44.1) (cs := [.int .i64 e44.1.Kind, .int .i64 e44.1.Net, .int .i64 e44.1.Other, .int .i64 e44.1.At.Layer, .int .i64 e44.1.At.X, .int .i64 e44.1.At.Y]) rfl RepL.nil) q1h q1i (fun A49 c49 cs49 w' hr49 hS => ?_)
          refine p (yl_assign rfl) <| x_done <| x_blk <| ?_
          exact x_inv ⟨kL15, Nat.lt_succ_self _, A49, q14.length, c49, cs49, q14, (q0n ++ [i42]), (hLL15 _ hFL15), rfl, q0q, hr49, ((((((hS.pull 1).drop.pull 1).drop.pull 3).pull 2).pull 3).pull 3)⟩
        rintro E w ⟨q0i, q0j, c_out9_L15, q0k, q0m, hq_, q11, q0s, hS⟩
        replace hF := hF _ hq_
        clear hq_
        have e_ := St.vec_n hS q0s; subst e_
        refine x_seq <| x_region <| p (yl_move q11) <| ?_
        replace hF := nck_s hF; obtain ⟨q1j, hF⟩ := hF
        replace hF := nlv_s hF; obtain ⟨q1q, q1k, hF⟩ := hF
        refine o_cc call_52 (args2 rfl rfl) (cmpFault_sort q1j ((hS.pull 1).pull 1) q0s) ?_
        rintro e w' ⟨rfl, q1l, q12, hS⟩
        refine ⟨_, rfl, ?_⟩
        rw [← q1k] at q12
        refine x_done <| x_seq <| x_region <| p (yl_move q11) <|
         p (yl_assign rfl) <| p (yl_assign rfl) <| x_done <| ?_
        exact x_return ⟨_, ⟨_, _, rfl, rfl, _, _, rfl, rfl, rfl⟩, (q1q, (0 : Int)), hF, q0i, q0m.length, c_out9_L15, q1l, rfl, (RepL.flat (fun h => h) q12), (ro_back1 q2 ((hS.pull 1).pull 1))⟩
attribute [irreducible] P_rules_Faults

def P_slices_Clone_rules_Fault_rules_Fault (s0 : List T_rules_Fault) : Option (List T_rules_Fault) :=
 lv (([] : List T_rules_Fault) ++ s0) fun q2 =>
 ck (apOk 48 q2.length) <|
 some q2
theorem c_slices_Clone_rules_Fault_rules_Fault {w0 w : World} {l : List Assn} {ρ : Heap} {q6 : Option Addr} {q8 : Nat} {c_s0 : Nat} {s0 : List T_rules_Fault} {r : List T_rules_Fault} (hF : P_slices_Clone_rules_Fault_rules_Fault s0 = some r) (q7 : RdS R_rules_Fault ρ q6 q8 c_s0 s0) (hS : St w0 w (ro ρ :: l)) :
  Calls Try.prog 31 #[.slice q6 q8 c_s0] w fun e w' => ∃ (q5 : Option Addr) (q2 : Nat) (c_y0_ret : Nat) (q3 : List Value), e = .returned (.slice q5 q2 c_y0_ret) ∧ RepL R_rules_Fault ρ r q3 ∧ St w0 w' (vec 63 R_rules_Fault.sz (.slice q5 q2 c_y0_ret) q2 q3 :: ro ρ :: l) := by
 have e_ := q7.n; subst e_
 refine enterC Try.func31 rfl 8 rfl (by simp) ?_
 refine x_seq <| x_region <| p (yl_assign rfl) <| x_done <|
  x_seq <| x_seq <| x_region <| p (yl_move rfl) <|
  p (yeq_nil usl_56 rfl rfl) <| x_done <|
  x_cond (t := Option.isNone q6) rfl (fun hc4 => ?_) (fun hc4 => ?_)
 ·have hx0 : s0 = [] := RdS.nil_of q7 hc4
  have hF : some ([] : List T_rules_Fault) = some r := by rw [hx0] at hF; unfold P_slices_Clone_rules_Fault_rules_Fault at hF; simpa [lv, ck, apOk] using hF
  refine x_seq <| x_region <| p (yl_assign rfl) <| x_done <| ?_
  replace hS := St.vec_nil hS 63 R_rules_Fault.sz
  have q4 : RepL R_rules_Fault ρ [] [] := rfl
  have e_ := sinj hF; subst e_
  exact x_return ⟨_, ⟨_, _, rfl, rfl, rfl⟩, none, 0, 0, [], rfl, q4, ((hS.pull 1).pull 1)⟩
 ·skip
  refine x_skip <| x_seq <| x_region <| ?_
  refine o_buildSlice (vs := []) (cs := []) sl_56 zero_63 (parts_eq pt0) rfl (by intro v hv; cases hv) (by decide) rfl hS (fun b5 w' hS => ?_)
  refine p (yl_move rfl) <| ?_
  have q9 : RepL R_rules_Fault ρ ([] : List T_rules_Fault) [] := RepL.nil
  replace hS := St.vec_of (n := 0) (sz := R_rules_Fault.sz) hS rfl (by decide)
  have q_ := src_f usl_56 (hS.pull 1) q7; obtain ⟨nw7, hnw7, src7⟩ := q_
  replace hF := lv_s hF; obtain ⟨q0c, q0a, hF⟩ := hF
  replace hF := ck_s hF; obtain ⟨q0b, hF⟩ := hF
  refine o_ap sl_56 zero_63 rfl (by decide) rfl rfl hS q9 src7 hnw7 q0a q0b (fun A7 c7 cs7 w' hr7 hS => ?_)
  refine p (yl_assign rfl) <| x_done <| ?_
  have e_ := sinj hF; subst e_
  exact x_return ⟨_, ⟨_, _, rfl, rfl, rfl⟩, A7, q0c.length, c7, cs7, rfl, hr7, ((hS.pull 1).pull 1)⟩
attribute [irreducible] P_slices_Clone_rules_Fault_rules_Fault

def P_maskkeep4_RulesApart_2 (f0 : T_rules_Fault) (q2 : Int) : Option Bool :=
 lv ((decide (f0.Kind = 1)) || (decide (f0.Kind = 3))) fun x16 =>
 lv (x16 && (decide (f0.Other = q2))) fun x22 =>
 lv ((decide (f0.Net = q2)) || x22) fun x23 =>
 some x23
theorem c_maskkeep4_RulesApart_2 {w0 w : World} {l : List Assn} {ρ : Heap} {q3 : Nat} {f0 : T_rules_Fault} {q2 : Int} {r : Bool} (hF : P_maskkeep4_RulesApart_2 f0 q2 = some r) (hS : St w0 w (cells q3 3 [.int .i64 q2] :: ro ρ :: l)) :
  Calls Try.prog 32 #[.agg #[.int .i64 f0.Kind, .int .i64 f0.Net, .int .i64 f0.Other, .int .i64 f0.At.Layer, .int .i64 f0.At.X, .int .i64 f0.At.Y], .pointer (some ⟨q3, 0, none⟩)] w fun e w' => e = .returned (.bool r) ∧ St w0 w' (cells q3 3 [.int .i64 q2] :: ro ρ :: l) := by
 refine enterC Try.func32 rfl 24 rfl (by simp) ?_
 refine x_seq <| x_region <| ?_
 refine o_box (cs := [.int .i64 f0.Kind, .int .i64 f0.Net, .int .i64 f0.Other, .int .i64 f0.At.Layer, .int .i64 f0.At.X, .int .i64 f0.At.Y]) rfl rfl hS (fun b2 w' hS => ?_)
 replace hF := lv_s hF; obtain ⟨x16, hx16, hF⟩ := hF
 replace hF := lv_s hF; obtain ⟨x22, hx22, hF⟩ := hF
 replace hF := lv_s hF; obtain ⟨x23, hx23, hF⟩ := hF
 refine p (yl_assign rfl) <| x_done <| x_seq <| x_region <|
  p (yl_field0 fld_63_1 rfl) <| pa (at_load one_3 rfl (hS.cell rfl)) <| pa (at_load one_3 rfl ((hS.pull 1).cell rfl)) <| p (yl_eql rfl rfl) <|
  p (yl_move rfl) <| pg (v := .pointer (some ⟨b2, 0, none⟩)) 8 (c := !(decide (f0.Net = q2))) (says_f _) (fun hq => Yl.at (yl_field0 fld_63_0 rfl)) <| pg (v := .int .i64 f0.Kind) 8 (c := !(decide (f0.Net = q2))) (says_f _) (fun hq => at_load one_3 (cv hq) (hS.cell rfl)) <| pg (v := .bool (decide (f0.Kind = 1))) 8 (c := !(decide (f0.Net = q2))) (says_f _) (fun hq => Yl.at (yl_eql (cv hq) rfl)) <|
  pg (v := .bool (decide (f0.Kind = 1))) 8 (c := !(decide (f0.Net = q2))) (says_f _) (fun hq => Yl.at (yl_move (cv hq))) <| pg (v := .pointer (some ⟨b2, 0, none⟩)) 12 (c := (!(decide (f0.Net = q2))) && !(decide (f0.Kind = 1))) (says_iff _ _) (fun hq => Yl.at (yl_field0 fld_63_0 rfl)) <| pg (v := .int .i64 f0.Kind) 12 (c := (!(decide (f0.Net = q2))) && !(decide (f0.Kind = 1))) (says_iff _ _) (fun hq => at_load one_3 (cv hq) (hS.cell rfl)) <| pg (v := .bool (decide (f0.Kind = 3))) 12 (c := (!(decide (f0.Net = q2))) && !(decide (f0.Kind = 1))) (says_iff _ _) (fun hq => Yl.at (yl_eql (cv hq) rfl)) <|
  pg (v := .bool x16) 8 (c := !(decide (f0.Net = q2))) (says_f _) (fun hq => Yl.at (yor' (cv hq) rfl (fun hc => (cv (and_i hq (t_not hc)))) hx16)) <| pg (v := .bool x16) 8 (c := !(decide (f0.Net = q2))) (says_f _) (fun hq => Yl.at (yl_move (cv hq))) <| pg (v := .pointer (some ⟨b2, 2, none⟩)) 17 (c := (!(decide (f0.Net = q2))) && x16) (says_ift _ _) (fun hq => Yl.at (yl_field0 fld_63_2 rfl)) <| pg (v := .int .i64 f0.Other) 17 (c := (!(decide (f0.Net = q2))) && x16) (says_ift _ _) (fun hq => at_load one_3 (cv hq) (hS.cell rfl)) <|
  pg (v := .int .i64 q2) 17 (c := (!(decide (f0.Net = q2))) && x16) (says_ift _ _) (fun hq => at_load one_3 rfl ((hS.pull 1).cell rfl)) <| pg (v := .bool (decide (f0.Other = q2))) 17 (c := (!(decide (f0.Net = q2))) && x16) (says_ift _ _) (fun hq => Yl.at (yl_eql (cv hq) (cv hq))) <| pg (v := .bool x22) 8 (c := !(decide (f0.Net = q2))) (says_f _) (fun hq => Yl.at (yand' (cv hq) (fun hc => (cv (and_i hq hc))) rfl hx22)) <| p (yor' rfl rfl (fun hc => (cv (t_not hc))) hx23) <|
  p (yl_assign rfl) <| x_done <| ?_
 have e_ := sinj hF; subst e_
 exact x_return ⟨_, ⟨_, _, rfl, rfl, rfl⟩, rfl, ((hS.drop.pull 1).pull 1)⟩
attribute [irreducible] P_maskkeep4_RulesApart_2

def P_slices_IndexFunc_rules_Fault_rules_Fault_L2 (s0 : List T_rules_Fault) (q3 : Int) : Int → Option (Int ⊕ (Unit ⊕ Int)) := fun q2 =>
 if q2 < (s0.length : Int) then
  ck (inb q2 s0.length) <|
  lv (gt s0 q2) fun q4 =>
  bd (P_maskkeep4_RulesApart_2 q4 q3) fun q5 =>
  if q5 = true then
   some (Sum.inr (Sum.inr q2))
  else
   ar (q2 + 1) fun x18 =>
   some (Sum.inl x18)
 else
  some (Sum.inr (Sum.inl ()))
def P_slices_IndexFunc_rules_Fault_rules_Fault (s0 : List T_rules_Fault) (q2 : Int) : Option Int :=
 bs (
  lp (P_slices_IndexFunc_rules_Fault_rules_Fault_L2 s0 q2) fuel 0) (fun y => some y) fun _ =>
 some (-1 : Int)
theorem c_slices_IndexFunc_rules_Fault_rules_Fault {w0 w : World} {l : List Assn} {ρ : Heap} {q0a : Option Addr} {q0e : Nat} {c_s0 : Nat} {q2 : Nat} {s0 : List T_rules_Fault} {q3 : Int} {r : Int} (hF : P_slices_IndexFunc_rules_Fault_rules_Fault s0 q3 = some r) (q0b : RdS R_rules_Fault ρ q0a q0e c_s0 s0) (hS : St w0 w (cells q2 3 [.int .i64 q3] :: ro ρ :: l)) :
  Calls Try.prog 60 #[.slice q0a q0e c_s0, .func (.func 32) #[] #[.pointer (some ⟨q2, 0, none⟩)]] w fun e w' => e = .returned (.int .i64 r) ∧ St w0 w' (cells q2 3 [.int .i64 q3] :: ro ρ :: l) := by
 have e_ := q0b.n; subst e_
 refine enterC Try.func60 rfl 19 rfl (by simp) ?_
 refine x_seq <| x_region <| p (yl_assign rfl) <| x_done <|
  x_seq <| x_seq <| x_region <| p (yl_move rfl) <|
  p (yl_len_slice usl_56 rfl) <| p (yl_move rfl) <| x_done <| ?_
 replace hF := bs_s hF; obtain ⟨oL2, hLL2, hF⟩ := hF
 refine x_join (fun E w => (Sum.inl (())) = oL2 ∧ St w0 w (cells q2 3 [.int .i64 q3] :: ro ρ :: l)) ?_ ?_
 ·refine x_block ?_
  refine x_loop (fun k_ E w => ∃ (q4 : Int), lp (P_slices_IndexFunc_rules_Fault_rules_Fault_L2 s0 q3) k_ q4 = some oL2 ∧ E 0 = .slice q0a s0.length c_s0 ∧ E 1 = .func (.func 32) #[] #[.pointer (some ⟨q2, 0, none⟩)] ∧ E 7 = .int .i64 (s0.length : Int) ∧ E 8 = .int .i64 q4 ∧ St w0 w (cells q2 3 [.int .i64 q3] :: ro ρ :: l)) fuel ⟨0, hLL2, rfl, rfl, rfl, rfl, ((hS.pull 1).pull 1)⟩ ?_
  rintro kL2 E w ⟨q4, hLL2, q7, q8, q9, q6, hS⟩
  replace hLL2 := lp_s hLL2; obtain ⟨kL2, obL2, rfl, hFL2, hLL2⟩ := hLL2
  refine x_seq <| x_region <| p (yl_lss q6 q9) <| x_done <|
   x_seq <|
   x_cond_p (q4 < (s0.length : Int)) rfl (fun hc9 => ?_) (fun hc9 => ?_)
  ·replace hFL2 := it_t hc9 hFL2
   replace hFL2 := ck_s hFL2; obtain ⟨q0c, hFL2⟩ := hFL2
   replace hFL2 := lv_s hFL2; obtain ⟨q5, q0f, hFL2⟩ := hFL2
   have q_ := q0b.get q0c; obtain ⟨q0j, q0d, q0g⟩ := q_
   rw [← q0f] at q0d
   have e_ := q0d; subst e_
   replace hFL2 := bd_s hFL2; obtain ⟨q0i, q0h, hFL2⟩ := hFL2
   refine x_skip <| x_seq <| x_block <| x_seq <|
    x_region <| p (yl_move q6) <| p (yl_assign rfl) <| x_done <|
    x_seq <| x_region <| p (yl_move q8) <| p (yl_move q7) <|
    p (yl_move rfl) <| p (yix_f sl_56 rfl rfl q0b q0c) <| pa (v := .agg #[.int .i64 q5.Kind, .int .i64 q5.Net, .int .i64 q5.Other, .int .i64 q5.At.Layer, .int .i64 q5.At.X, .int .i64 q5.At.Y]) (at_loadAgg agg_63 rfl rfl (Elt.every q0g (hS.pull 1))) <| ?_
   have hcall := c_maskkeep4_RulesApart_2 q0h  hS
   refine o_ccv rfl call_32 (capargs (args1 rfl)) (hcall) ?_
   rintro e w' ⟨rfl, hS⟩
   refine ⟨_, rfl, ?_⟩
   refine x_done <|
    x_cond (t := q0i) rfl (fun hc16 => ?_) (fun hc16 => ?_)
   ·replace hFL2 := it_t hc16 hFL2
    refine x_seq <| x_region <| p (yl_move rfl) <| p (yl_assign rfl) <|
     x_done <| ?_
    have e_ := sinj hFL2; subst e_
    have e_ := (show _ = oL2 from hLL2); subst e_
    have e_ := sinj hF; subst e_
    exact x_return ⟨_, ⟨_, _, rfl, rfl, rfl⟩, rfl, ((hS.pull 1).pull 1)⟩
   ·replace hFL2 := it_bf hc16 hFL2
    replace hFL2 := ar_s hFL2; obtain ⟨x18, hx18, hFL2⟩ := hFL2
    refine x_skip <| x_blk <| x_region <| p (yadd q6 rfl hx18) <|
     p (yl_move rfl) <| x_done <| ?_
    have e_ := sinj hFL2; subst e_
    exact x_inv ⟨kL2, Nat.lt_succ_self _, x18, hLL2, q7, q8, q9, rfl, ((hS.pull 1).pull 1)⟩
  ·replace hFL2 := it_f hc9 hFL2
   refine x_exitTo _ rfl <| ?_
   have e_ := sinj hFL2; subst e_
   exact x_inv ⟨hLL2, ((hS.pull 1).pull 1)⟩
 rintro E w ⟨rfl, hS⟩
 refine x_seq <| x_region <| p (yl_assign rfl) <| x_done <| ?_
 have e_ := sinj hF; subst e_
 exact x_return ⟨_, ⟨_, _, rfl, rfl, rfl⟩, rfl, ((hS.pull 1).pull 1)⟩
attribute [irreducible] P_slices_IndexFunc_rules_Fault_rules_Fault

def P_slices_DeleteFunc_rules_Fault_rules_Fault_L5 (s0 : List T_rules_Fault) (q5 : Int) : (List T_rules_Fault × Int × Int) → Option ((List T_rules_Fault × Int × Int) ⊕ (List T_rules_Fault × Int)) := fun (q2, q3, q4) =>
 if q4 < (s0.length : Int) then
  ck (inb q4 q2.length) <|
  lv (gt q2 q4) fun q6 =>
  bd (P_maskkeep4_RulesApart_2 q6 q5) fun q9 =>
  bd (
   if (!q9) = true then
    ck (inb q3 q2.length) <|
    lv (stt q2 q3 q6) fun q0a =>
    ar (q3 + 1) fun x35 =>
    some (q0a, x35)
   else
    some (q2, q3)) fun (q7, q8) =>
  ar (q4 + 1) fun x21 =>
  some (Sum.inl (q7, q8, x21))
 else
  some (Sum.inr (q2, q3))
def P_slices_DeleteFunc_rules_Fault_rules_Fault (s0 : List T_rules_Fault) (q3 : Int) : Option (List T_rules_Fault) :=
 bd (P_slices_IndexFunc_rules_Fault_rules_Fault s0 q3) fun q5 =>
 if q5 = (-1) then
  some s0
 else
  ar (q5 + 1) fun x15 =>
  bd (
   lp (P_slices_DeleteFunc_rules_Fault_rules_Fault_L5 s0 q3) fuel (s0, q5, x15)) fun (q4, q2) =>
  ck (0 ≤ q2 ∧ q2 ≤ q4.length) <|
  lv (q4.take (q2 : Int).toNat ++ List.replicate (q4.length - (q2 : Int).toNat) (T_rules_Fault.mk 0 0 0 (T_rules_Spot.mk 0 0 0))) fun q6 =>
  ck (0 ≤ (0 : Int) ∧ (0 : Int) ≤ q2 ∧ q2 ≤ q6.length) <|
  lv (sub q6 0 q2) fun x41 =>
  some x41
theorem c_slices_DeleteFunc_rules_Fault_rules_Fault {w0 w : World} {l : List Assn} {ρ : Heap} {q9 : Option Addr} {q0u : Nat} {c_s0 : Nat} {q0n : List Value} {q3 : Nat} {s0 : List T_rules_Fault} {q4 : Int} {r : List T_rules_Fault} (hF : P_slices_DeleteFunc_rules_Fault_rules_Fault s0 q4 = some r) (q0o : RepL R_rules_Fault ρ s0 q0n) (hS : St w0 w (vec 63 R_rules_Fault.sz (.slice q9 q0u c_s0) q0u q0n :: cells q3 3 [.int .i64 q4] :: ro ρ :: l)) :
  Calls Try.prog 30 #[.slice q9 q0u c_s0, .func (.func 32) #[] #[.pointer (some ⟨q3, 0, none⟩)]] w fun e w' => ∃ (ρ' : Heap) (q0i : Option Addr) (q0j : Nat) (c_y0_ret : Nat), e = .returned (.slice q0i q0j c_y0_ret) ∧ Le ρ ρ' ∧ RdS R_rules_Fault ρ' q0i q0j c_y0_ret r ∧ St w0 w' (cells q3 3 [.int .i64 q4] :: ro ρ' :: l) := by
 have e_ := St.vec_n hS q0o; subst e_
 refine enterC Try.func30 rfl 42 rfl (by simp) ?_
 replace hF := bd_s hF; obtain ⟨q0k, q1c, hF⟩ := hF
 refine x_seq <| x_region <| p (yl_assign rfl) <| x_done <|
  x_seq <| x_region <| p (yl_move rfl) <| p (yl_move rfl) <| ?_
 have q_ := St.lend ((hS.pull 2).pull 1) q0o; obtain ⟨ρl0, hll0, hlf0, hS0, back0⟩ := q_
 have hcall := c_slices_IndexFunc_rules_Fault_rules_Fault q1c hlf0 (hS0.pull 1)
 refine o_cc call_60 (args2 rfl rfl) ((Calls.mono hcall (fun e w'' h => And.intro h.1 ((((back0 (h.2.pull 1)).pull 1).pull 2).pull 2)))) ?_
 rintro e w' ⟨rfl, hS⟩
 refine ⟨_, rfl, ?_⟩
 refine p (v := .int .i64 q0k) (yl_assign rfl) <| x_done <| x_seq <| x_seq <|
  x_region <| p (v := .int .i64 q0k) (yl_move rfl) <| p (yl_eql rfl rfl) <| x_done <|
  x_cond_p (q0k = (-1)) rfl (fun hc12 => ?_) (fun hc12 => ?_)
 ·replace hF := it_t hc12 hF
  refine x_seq <| x_region <| p (yl_move rfl) <| p (yl_assign rfl) <|
   x_done <| ?_
  have q_ := St.vec_fz ((hS.pull 2).pull 1) q0o; obtain ⟨q0v, q0p, q0w, hS⟩ := q_
  have e_ := sinj hF; subst e_
  exact x_return ⟨_, ⟨_, _, rfl, rfl, rfl⟩, q0v, q9, s0.length, c_s0, rfl, q0p, q0w, (hS.pull 1)⟩
 ·replace hF := it_f hc12 hF
  replace hF := ar_s hF; obtain ⟨x15, hx15, hF⟩ := hF
  refine x_skip <| x_seq <| x_seq <| x_region <|
   p (v := .int .i64 q0k) (yl_move rfl) <| p (yadd rfl rfl hx15) <| p (yl_assign rfl) <| x_done <| ?_
  replace hF := bd_s hF; obtain ⟨oL5, hLL5, hF⟩ := hF
  refine x_join (fun E w => ∃ (q0d : List Value) (q0q : List T_rules_Fault) (q0r : Int), (q0q, q0r) = oL5 ∧ E 0 = .slice q9 s0.length c_s0 ∧ E 5 = .int .i64 q0r ∧ RepL R_rules_Fault ρ q0q q0d ∧ St w0 w (vec 63 R_rules_Fault.sz (.slice q9 s0.length c_s0) s0.length q0d :: cells q3 3 [.int .i64 q4] :: ro ρ :: l)) ?_ ?_
  ·refine x_block ?_
   refine x_loop (fun k_ E w => ∃ (q6 : List Value) (q0a : List T_rules_Fault) (q0b : Int) (q0c : Int), lp (P_slices_DeleteFunc_rules_Fault_rules_Fault_L5 s0 q4) k_ (q0a, q0b, q0c) = some oL5 ∧ E 0 = .slice q9 s0.length c_s0 ∧ E 1 = .func (.func 32) #[] #[.pointer (some ⟨q3, 0, none⟩)] ∧ E 5 = .int .i64 q0b ∧ E 6 = .int .i64 q0c ∧ RepL R_rules_Fault ρ q0a q6 ∧ St w0 w (vec 63 R_rules_Fault.sz (.slice q9 s0.length c_s0) s0.length q6 :: cells q3 3 [.int .i64 q4] :: ro ρ :: l)) fuel ⟨q0n, s0, q0k, x15, hLL5, rfl, rfl, rfl, rfl, q0o, (((hS.pull 2).pull 2).pull 2)⟩ ?_
   rintro kL5 E w ⟨q6, q0a, q0b, q0c, hLL5, q8, q0l, q0e, q0f, q5, hS⟩
   replace hLL5 := lp_s hLL5; obtain ⟨kL5, obL5, rfl, hFL5, hLL5⟩ := hLL5
   refine x_seq <| x_seq <| x_region <| p (yl_move q0f) <|
    p (yl_move q8) <| p (yl_len_slice usl_56 rfl) <| p (yl_lss rfl rfl) <| x_done <|
    x_cond_p (q0c < (s0.length : Int)) rfl (fun hc19 => ?_) (fun hc19 => ?_)
   ·replace hFL5 := it_t hc19 hFL5
    replace hFL5 := ck_s hFL5; obtain ⟨q0z, hFL5⟩ := hFL5
    replace hFL5 := lv_s hFL5; obtain ⟨q2, q1d, hFL5⟩ := hFL5
    have q_ := q5.get q0z; obtain ⟨q1m, q10, q1e⟩ := q_
    rw [← q1d] at q10
    have e_ := q10; subst e_
    refine x_skip <| x_seq <| x_block <| x_seq <|
     x_region <| p (yl_move q8) <| p (yl_move q0f) <| p (yix_o sl_56 rfl rfl hS q5 q0z) <|
     pa (v := .agg #[.int .i64 q2.Kind, .int .i64 q2.Net, .int .i64 q2.Other, .int .i64 q2.At.Layer, .int .i64 q2.At.X, .int .i64 q2.At.Y]) (at_loadAgg agg_63 rfl rfl (EltV.every q1e hS)) <| ?_
    refine o_alloc zero_63 hS (fun b7 w' hS => ?_)
    refine o_storeAgg (news := [.int .i64 q2.Kind, .int .i64 q2.Net, .int .i64 q2.Other, .int .i64 q2.At.Layer, .int .i64 q2.At.X, .int .i64 q2.At.Y]) agg_63 rfl rfl rfl (by simp [over_length]) hS (fun w' hS => ?_)
    replace hFL5 := bd_s hFL5; obtain ⟨q1j, q1f, hFL5⟩ := hFL5
    refine x_done <| x_seq <| x_region <| p (yl_move q0l) <|
     pa (v := .agg #[.int .i64 q2.Kind, .int .i64 q2.Net, .int .i64 q2.Other, .int .i64 q2.At.Layer, .int .i64 q2.At.X, .int .i64 q2.At.Y]) (ld_sub agg_63 rfl rfl rfl hS) <| ?_
    have hcall := c_maskkeep4_RulesApart_2 q1f  ((hS.pull 3).pull 3)
    refine o_ccv rfl call_32 (capargs (args1 rfl)) ((Calls.mono hcall (fun e w'' h => And.intro h.1 ((((h.2.pull 1).pull 1).pull 3).pull 3)))) ?_
    rintro e w' ⟨rfl, hS⟩
    refine ⟨_, rfl, ?_⟩
    refine p (yl_not rfl) <| x_done <| ?_
    replace hFL5 := bd_s hFL5; obtain ⟨oc29, hFc29, hFL5⟩ := hFL5
    refine x_join (fun E w => ∃ (q7 : List Value) (q0g : List T_rules_Fault) (q0h : Int), (q0g, q0h) = oc29 ∧ E 0 = .slice q9 s0.length c_s0 ∧ E 1 = .func (.func 32) #[] #[.pointer (some ⟨q3, 0, none⟩)] ∧ E 5 = .int .i64 q0h ∧ E 6 = .int .i64 q0c ∧ RepL R_rules_Fault ρ q0g q7 ∧ St w0 w (vec 63 R_rules_Fault.sz (.slice q9 s0.length c_s0) s0.length q7 :: cells q3 3 [.int .i64 q4] :: ro ρ :: l)) ?_ ?_
    ·refine x_cond (t := !q1j) rfl (fun hc29 => ?_) (fun hc29 => ?_)
     ·replace hFc29 := it_t hc29 hFc29
      replace hFc29 := ck_s hFc29; obtain ⟨q11, hFc29⟩ := hFc29
      refine x_seq <| x_region <| p (yl_move q8) <| p (yl_move q0e) <|
       pa (v := .agg #[.int .i64 q2.Kind, .int .i64 q2.Net, .int .i64 q2.Other, .int .i64 q2.At.Layer, .int .i64 q2.At.X, .int .i64 q2.At.Y]) (ld_sub agg_63 rfl rfl rfl hS) <| p (yix_o sl_56 rfl rfl (hS.pull 1) q5 q11) <| ?_
      replace hFc29 := lv_s hFc29; obtain ⟨q1k, q1g, hFc29⟩ := hFc29
      refine o_put' (news := [.int .i64 q2.Kind, .int .i64 q2.Net, .int .i64 q2.Other, .int .i64 q2.At.Layer, .int .i64 q2.At.X, .int .i64 q2.At.Y]) sz_63 rfl rfl rfl rfl (o := 0) rfl q11 rfl (hS.pull 1) q5 (Le.refl _) (fun c hc => ok_all hc (show R_rules_Fault.ok ρ [.int .i64 q2.Kind, .int .i64 q2.Net, .int .i64 q2.Other, .int .i64 q2.At.Layer, .int .i64 q2.At.X, .int .i64 q2.At.Y] q2 from rfl)) q1g (fun q1h w' q1i hS => ?_)
      replace hFc29 := ar_s hFc29; obtain ⟨x35, hx35, hFc29⟩ := hFc29
      refine x_done <| x_region <| p (yl_move q0e) <| p (yadd rfl rfl hx35) <|
       p (yl_assign rfl) <| x_done <| ?_
      exact x_inv ⟨q1h, q1k, x35, (sinj hFc29), q8, q0l, rfl, q0f, q1i, ((((hS.pull 1).drop.pull 2).pull 2).pull 2)⟩
     ·replace hFc29 := it_bf hc29 hFc29
      refine x_skip <| ?_
      exact x_inv ⟨q6, q0a, q0b, (sinj hFc29), q8, q0l, q0e, q0f, q5, (((hS.drop.pull 2).pull 2).pull 2)⟩
    rintro E w ⟨q7, q0g, q0h, rfl, q14, q15, q16, q17, q0x, hS⟩
    replace hFL5 := ar_s hFL5; obtain ⟨x21, hx21, hFL5⟩ := hFL5
    refine x_blk <| x_region <| p (yl_move q17) <| p (yadd rfl rfl hx21) <|
     p (yl_assign rfl) <| x_done <| ?_
    have e_ := sinj hFL5; subst e_
    exact x_inv ⟨kL5, Nat.lt_succ_self _, q7, q0g, q0h, x21, hLL5, q14, q15, q16, rfl, q0x, (((hS.pull 2).pull 2).pull 2)⟩
   ·replace hFL5 := it_f hc19 hFL5
    refine x_exitTo _ rfl <| ?_
    have e_ := sinj hFL5; subst e_
    exact x_inv ⟨q6, q0a, q0b, hLL5, q8, q0e, q5, (((hS.pull 2).pull 2).pull 2)⟩
  rintro E w ⟨q0d, q0q, q0r, rfl, q12, q13, q0m, hS⟩
  replace hF := ck_s hF; obtain ⟨q0s, hF⟩ := hF
  refine x_seq <| x_region <| p (yl_move q12) <| p (yl_move q13) <|
   p (yslc sl_56 rfl rfl hS q0m q0s) <| ?_
  replace hF := lv_s hF; obtain ⟨q1n, q18, hF⟩ := hF
  refine o_clear (z := (T_rules_Fault.mk 0 0 0 (T_rules_Spot.mk 0 0 0))) usl_56 zero_63 rfl (show R_rules_Fault.ok ρ _ (T_rules_Fault.mk 0 0 0 (T_rules_Spot.mk 0 0 0)) from rfl) hS q0m q0s q18 (fun q1l w' q19 hS => ?_)
  refine x_done <| x_seq <| x_region <| p (yl_move q12) <|
   p (yl_move q13) <| ?_
  have q_ := St.vec_fz ((hS.pull 2).pull 1) q19; obtain ⟨q1a, q0y, q1b, hS⟩ := q_
  replace hF := ck_s hF; obtain ⟨q0t, hF⟩ := hF
  replace hF := lv_s hF; obtain ⟨x41, hx41, hF⟩ := hF
  have q_ := RdS.sub q1b q0t hx41; obtain ⟨A41, n41, c41, hd41, f41⟩ := q_
  refine p (ysub_h sl_56 rfl rfl q0t hd41) <| ?_
  have e_ := f41.n; subst e_
  refine p (yl_assign rfl) <| x_done <| ?_
  have e_ := sinj hF; subst e_
  exact x_return ⟨_, ⟨_, _, rfl, rfl, rfl⟩, q1a, A41, x41.length, c41, rfl, q0y, f41, (hS.pull 1)⟩
attribute [irreducible] P_slices_DeleteFunc_rules_Fault_rules_Fault

def P_maskkeep4_ruled : Nd Bool :=
 nbd (P_rules_Faults (T_rules_Layout.mk 5 3 1 1 [] [] ([(T_rules_Pin.mk 0 1 1 false 0), (T_rules_Pin.mk 0 3 1 false 0)] : List T_rules_Pin) [])) fun q2 =>
 nlv ((decide (q2.2 = 0)) && (decide ((q2.1.length : Int) = 1))) fun x19 =>
 nck (x19 = true → inb 0 q2.1.length) <|
 nlv (x19 && (decide (((gt q2.1 (0 : Int)).Kind) = 5))) fun x26 =>
 nret x26
theorem c_maskkeep4_ruled {w0 w : World} {l : List Assn} {ρ : Heap} {Q : Bool → Prop} (hF : P_maskkeep4_ruled Q) (hS : St w0 w (ro ρ :: l)) :
  Calls Try.prog 22 #[] w fun e w' => ∃ r : Bool, Q r ∧ e = .returned (.bool r) ∧ St w0 w' (ro ρ :: l) := by
 refine enterC Try.func22 rfl 27 rfl (by simp) ?_
 refine x_seq <| x_region <| p (yl_assign rfl) <| x_done <|
  x_seq <| x_region <| p (v := .agg #[.int .i64 0, .int .i64 1, .int .i64 1, .bool false, .int .i64 0]) (yl_build bld_39 bldf_39 (parts_eq (pt (va := .int .i64 1) rfl (pt (va := .int .i64 1) rfl pt0))) (by kernel_rfl)) <| p (v := .agg #[.int .i64 0, .int .i64 3, .int .i64 1, .bool false, .int .i64 0]) (yl_build bld_39 bldf_39 (parts_eq (pt (va := .int .i64 3) rfl (pt (va := .int .i64 1) rfl pt0))) (by kernel_rfl)) <| ?_
 refine o_buildSlice (vs := [.agg #[.int .i64 0, .int .i64 1, .int .i64 1, .bool false, .int .i64 0], .agg #[.int .i64 0, .int .i64 3, .int .i64 1, .bool false, .int .i64 0]]) (cs := [.int .i64 0, .int .i64 1, .int .i64 1, .bool false, .int .i64 0, .int .i64 0, .int .i64 3, .int .i64 1, .bool false, .int .i64 0]) sl_28 zero_39 (parts_eq (pt (va := .agg #[.int .i64 0, .int .i64 1, .int .i64 1, .bool false, .int .i64 0]) rfl (pt (va := .agg #[.int .i64 0, .int .i64 3, .int .i64 1, .bool false, .int .i64 0]) rfl pt0))) rfl (by intro v hv; simp only [List.mem_cons, List.not_mem_nil, or_false] at hv; first | (subst hv; rfl) | (rcases hv with rfl | rfl <;> rfl)) (by decide) rfl hS (fun b6 w' hS => ?_)
 refine p (v := .agg #[.int .i64 5, .int .i64 3, .int .i64 1, .int .i64 1, .slice none 0 0, .slice none 0 0, .slice (some ⟨b6, 0, none⟩) 2 2, .slice none 0 0]) (yl_build bld_31 bldf_31 (parts_eq (pt (va := .int .i64 5) rfl (pt (va := .int .i64 3) rfl (pt (va := .int .i64 1) rfl (pt (va := .int .i64 1) rfl (pt (va := .slice (some ⟨b6, 0, none⟩) 2 2) rfl pt0)))))) (by kernel_rfl)) <| ?_
 refine o_alloc zero_31 hS (fun b1 w' hS => ?_)
 refine o_storeAgg (news := [.int .i64 5, .int .i64 3, .int .i64 1, .int .i64 1, .slice none 0 0, .slice none 0 0, .slice (some ⟨b6, 0, none⟩) 2 2, .slice none 0 0]) agg_31 rfl rfl rfl (by simp [over_length]) hS (fun w' hS => ?_)
 refine x_done <| x_seq <| x_region <| pa (v := .agg #[.int .i64 5, .int .i64 3, .int .i64 1, .int .i64 1, .slice none 0 0, .slice none 0 0, .slice (some ⟨b6, 0, none⟩) 2 2, .slice none 0 0]) (ld_sub agg_31 rfl rfl rfl hS) <| ?_
 have q8 : RepL R_rules_Pin ρ ([(T_rules_Pin.mk 0 1 1 false 0), (T_rules_Pin.mk 0 3 1 false 0)] : List T_rules_Pin) [.int .i64 0, .int .i64 1, .int .i64 1, .bool false, .int .i64 0, .int .i64 0, .int .i64 3, .int .i64 1, .bool false, .int .i64 0] := (RepL.cons (cs := [.int .i64 0, .int .i64 1, .int .i64 1, .bool false, .int .i64 0]) rfl (RepL.cons (cs := [.int .i64 0, .int .i64 3, .int .i64 1, .bool false, .int .i64 0]) rfl RepL.nil))
 replace hS := St.vec_of (n := 2) (sz := R_rules_Pin.sz) (hS.pull 1) rfl (by decide)
 have q_ := St.lend ((hS.pull 2).pull 1) q8; obtain ⟨ρl0, hll0, hlf0, hS0, back0⟩ := q_
 have hcall := c_rules_Faults (nbd_c hF) (RdS.nil (A := none) (c := 0)) (RdS.nil (A := none) (c := 0)) hlf0 (RdS.nil (A := none) (c := 0)) hS0
 refine o_cc call_21 (args1 rfl) hcall ?_
 rintro e w' ⟨q4, hF, q3, q7, c_y0_ret_2_1, q5, rfl, q2, hS⟩
 refine ⟨_, rfl, ?_⟩
 replace hS := back0 (hS.pull 1)
 replace q2 : RepL R_rules_Fault ρ q4.1 q5 := RepL.flat (fun h => h) q2
 have e_ := St.vec_n (hS.pull 2) q2; subst e_
 replace hF := nlv_s hF; obtain ⟨x19, hx19, hF⟩ := hF
 replace hF := nck_s hF; obtain ⟨q6, hF⟩ := hF
 replace hF := nlv_s hF; obtain ⟨x26, hx26, hF⟩ := hF
 refine p (yl_move rfl) <| p (yl_extract rfl rfl) <| p (yl_extract rfl rfl) <| p (yl_assign rfl) <|
  p (yl_assign rfl) <| x_done <| x_seq <| x_region <|
  p (yl_move rfl) <| p (yl_eql rfl rfl) <| p (yl_move rfl) <| pg (v := .slice q3 q4.1.length c_y0_ret_2_1) 15 (c := decide (q4.2 = 0)) (says_t _) (fun hq => Yl.at (yl_move rfl)) <|
  pg (v := .int .i64 (q4.1.length : Int)) 15 (c := decide (q4.2 = 0)) (says_t _) (fun hq => Yl.at (yl_len_slice usl_56 (cv hq))) <| pg (v := .bool (decide ((q4.1.length : Int) = 1))) 15 (c := decide (q4.2 = 0)) (says_t _) (fun hq => Yl.at (yl_eql (cv hq) rfl)) <| p (yand' rfl (fun hc => (cv hc)) rfl hx19) <| p (yl_move rfl) <|
  pg (v := .slice q3 q4.1.length c_y0_ret_2_1) 20 (c := x19) (says_t _) (fun hq => Yl.at (yl_move rfl)) <| pg (v := .pointer (some ((adr q3).add ((0 : Int).toNat * R_rules_Fault.sz)))) 20 (c := x19) (says_t _) (fun hq => Yl.at (yix_o sl_56 (cv hq) rfl (hS.pull 2) q2 (q6 hq))) <| pg (v := .pointer (some (((adr q3).add ((0 : Int).toNat * R_rules_Fault.sz)).add 0))) 20 (c := x19) (says_t _) (fun hq => Yl.at (yl_fieldAddr fld_63_0 (cv hq))) <| pg (v := .int .i64 ((gt q4.1 (0 : Int)).Kind)) 20 (c := x19) (says_t _) (fun hq => (by obtain ⟨el, ek, ee⟩ := q2.get (q6 hq); obtain rfl := ek; exact at_load one_3 (cv hq) (EltV.ld (m := 0) ee (hS.pull 2) rfl))) <|
  pg (v := .bool (decide (((gt q4.1 (0 : Int)).Kind) = 5))) 20 (c := x19) (says_t _) (fun hq => Yl.at (yl_eql (cv hq) rfl)) <| p (yand' rfl (fun hc => (cv hc)) rfl hx26) <| p (yl_assign rfl) <| x_done <| ?_
 exact x_return ⟨_, ⟨_, _, rfl, rfl, rfl⟩, x26, hF, rfl, (((hS.drop.pull 1).drop.pull 1).drop)⟩
attribute [irreducible] P_maskkeep4_ruled

def P_slices_Equal_rules_Fault_rules_Fault_L4 (s10 : List T_rules_Fault) (s21 : List T_rules_Fault) : Int → Option (Int ⊕ (Unit ⊕ Bool)) := fun q2 =>
 if q2 < (s10.length : Int) then
  ck (inb q2 s10.length) <|
  lv (gt s10 q2) fun q3 =>
  ck (inb q2 s21.length) <|
  lv (gt s21 q2) fun q4 =>
  lv (!decide (q3 = q4)) fun x24 =>
  if x24 = true then
   some (Sum.inr (Sum.inr false))
  else
   ar (q2 + 1) fun x25 =>
   some (Sum.inl x25)
 else
  some (Sum.inr (Sum.inl ()))
def P_slices_Equal_rules_Fault_rules_Fault (s10 : List T_rules_Fault) (s21 : List T_rules_Fault) : Option Bool :=
 if (s10.length : Int) ≠ (s21.length : Int) then
  some false
 else
  bs (
   lp (P_slices_Equal_rules_Fault_rules_Fault_L4 s10 s21) fuel 0) (fun y => some y) fun _ =>
  some true
theorem c_slices_Equal_rules_Fault_rules_Fault {w0 w : World} {l : List Assn} {ρ : Heap} {q7 : Option Addr} {q0d : Nat} {c_s10 : Nat} {q8 : Option Addr} {q0e : Nat} {c_s21 : Nat} {s10 : List T_rules_Fault} {s21 : List T_rules_Fault} {r : Bool} (hF : P_slices_Equal_rules_Fault_rules_Fault s10 s21 = some r) (q9 : RdS R_rules_Fault ρ q7 q0d c_s10 s10) (q0a : RdS R_rules_Fault ρ q8 q0e c_s21 s21) (hS : St w0 w (ro ρ :: l)) :
  Calls Try.prog 23 #[.slice q7 q0d c_s10, .slice q8 q0e c_s21] w fun e w' => e = .returned (.bool r) ∧ St w0 w' (ro ρ :: l) := by
 have e_ := q9.n; subst e_
 have e_ := q0a.n; subst e_
 refine enterC Try.func23 rfl 26 rfl (by simp) ?_
 refine x_seq <| x_region <| p (yl_assign rfl) <| x_done <|
  x_seq <| x_seq <| x_region <| p (yl_move rfl) <|
  p (yl_len_slice usl_56 rfl) <| p (yl_move rfl) <| p (yl_len_slice usl_56 rfl) <| p (yl_neq rfl rfl) <|
  x_done <|
  x_cond_p ((s10.length : Int) ≠ (s21.length : Int)) rfl (fun hc10 => ?_) (fun hc10 => ?_)
 ·replace hF := it_t hc10 hF
  refine x_seq <| x_region <| p (yl_assign rfl) <| x_done <| ?_
  have e_ := sinj hF; subst e_
  exact x_return ⟨_, ⟨_, _, rfl, rfl, rfl⟩, rfl, hS⟩
 ·replace hF := it_f hc10 hF
  refine x_skip <| x_seq <| x_seq <| x_region <|
   p (yl_move rfl) <| p (yl_len_slice usl_56 rfl) <| p (yl_move rfl) <| x_done <| ?_
  replace hF := bs_s hF; obtain ⟨oL4, hLL4, hF⟩ := hF
  refine x_join (fun E w => (Sum.inl (())) = oL4 ∧ St w0 w (ro ρ :: l)) ?_ ?_
  ·refine x_block ?_
   refine x_loop (fun k_ E w => ∃ (q2 : Int), lp (P_slices_Equal_rules_Fault_rules_Fault_L4 s10 s21) k_ q2 = some oL4 ∧ E 0 = .slice q7 s10.length c_s10 ∧ E 1 = .slice q8 s21.length c_s21 ∧ E 12 = .int .i64 (s10.length : Int) ∧ E 13 = .int .i64 q2 ∧ St w0 w (ro ρ :: l)) fuel ⟨0, hLL4, rfl, rfl, rfl, rfl, hS⟩ ?_
   rintro kL4 E w ⟨q2, hLL4, q0b, q0c, q6, q5, hS⟩
   replace hLL4 := lp_s hLL4; obtain ⟨kL4, obL4, rfl, hFL4, hLL4⟩ := hLL4
   refine x_seq <| x_region <| p (yl_lss q5 q6) <| x_done <|
    x_seq <|
    x_cond_p (q2 < (s10.length : Int)) rfl (fun hc14 => ?_) (fun hc14 => ?_)
   ·replace hFL4 := it_t hc14 hFL4
    replace hFL4 := ck_s hFL4; obtain ⟨q0f, hFL4⟩ := hFL4
    replace hFL4 := lv_s hFL4; obtain ⟨q3, q0j, hFL4⟩ := hFL4
    have q_ := q9.get q0f; obtain ⟨q0n, q0g, q0k⟩ := q_
    rw [← q0j] at q0g
    have e_ := q0g; subst e_
    replace hFL4 := ck_s hFL4; obtain ⟨q0h, hFL4⟩ := hFL4
    replace hFL4 := lv_s hFL4; obtain ⟨q4, q0l, hFL4⟩ := hFL4
    have q_ := q0a.get q0h; obtain ⟨q0o, q0i, q0m⟩ := q_
    rw [← q0l] at q0i
    have e_ := q0i; subst e_
    replace hFL4 := lv_s hFL4; obtain ⟨x24, hx24, hFL4⟩ := hFL4
    refine x_skip <| x_seq <| x_block <| x_seq <|
     x_region <| p (yl_move q5) <| p (yl_assign rfl) <| x_done <|
     x_seq <| x_still mixed (by kernel_rfl) hS <| q (yl_move q0b) <| q (yl_move rfl) <|
     q (yix_f sl_56 rfl rfl q9 q0f) <| qa (v := .agg #[.int .i64 q3.Kind, .int .i64 q3.Net, .int .i64 q3.Other, .int .i64 q3.At.Layer, .int .i64 q3.At.X, .int .i64 q3.At.Y]) (fun w' hS => at_loadAgg agg_63 rfl rfl (Elt.every q0k hS)) <| q (yl_move q0c) <| q (yl_move rfl) <|
     q (yix_f sl_56 rfl rfl q0a q0h) <| qa (v := .agg #[.int .i64 q4.Kind, .int .i64 q4.Net, .int .i64 q4.Other, .int .i64 q4.At.Layer, .int .i64 q4.At.X, .int .i64 q4.At.Y]) (fun w' hS => at_loadAgg agg_63 rfl rfl (Elt.every q0m hS)) <| q (yneI (a := q3) (b := q4) eqi_63 rfl rfl hx24) <|
     q_done fun w' hS => ?_
    refine x_cond (t := x24) rfl (fun hc24 => ?_) (fun hc24 => ?_)
    ·replace hFL4 := it_t hc24 hFL4
     refine x_seq <| x_region <| p (yl_assign rfl) <| x_done <| ?_
     have e_ := sinj hFL4; subst e_
     have e_ := (show _ = oL4 from hLL4); subst e_
     have e_ := sinj hF; subst e_
     exact x_return ⟨_, ⟨_, _, rfl, rfl, rfl⟩, rfl, hS⟩
    ·replace hFL4 := it_bf hc24 hFL4
     replace hFL4 := ar_s hFL4; obtain ⟨x25, hx25, hFL4⟩ := hFL4
     refine x_skip <| x_blk <| x_region <| p (yadd q5 rfl hx25) <|
      p (yl_move rfl) <| x_done <| ?_
     have e_ := sinj hFL4; subst e_
     exact x_inv ⟨kL4, Nat.lt_succ_self _, x25, hLL4, q0b, q0c, q6, rfl, hS⟩
   ·replace hFL4 := it_f hc14 hFL4
    refine x_exitTo _ rfl <| ?_
    have e_ := sinj hFL4; subst e_
    exact x_inv ⟨hLL4, hS⟩
  rintro E w ⟨rfl, hS⟩
  refine x_seq <| x_region <| p (yl_assign rfl) <| x_done <| ?_
  have e_ := sinj hF; subst e_
  exact x_return ⟨_, ⟨_, _, rfl, rfl, rfl⟩, rfl, hS⟩
attribute [irreducible] P_slices_Equal_rules_Fault_rules_Fault

def P_maskkeep4_RulesApart (l_0 : List Int) (net1 : Int) : Nd Bool :=
 nbd (nof (P_maskmake_Stream_Layout (T_maskmake_Stream.mk l_0 0))) fun q3 =>
 nbd (nof (P_maskmake_Below net1 q3.1.Nets)) fun q4 =>
 nbd (nof (P_detail_Without q3.1 ([q4] : List Int))) fun q2 =>
 nbd (nof (P_slices_Clone_rules_Pin_rules_Pin q3.1.Pins)) fun q8 =>
 nbd (nof (P_slices_DeleteFunc_rules_Pin_rules_Pin q8 q4)) fun q9 =>
 nbd (P_rules_Faults q3.1) fun q5 =>
 nbd (P_rules_Faults (T_rules_Layout.mk q2.W q2.H q2.Layers q2.Nets q2.Wires q2.Vias q9 q2.Walls)) fun q6 =>
 nbd (nof (P_slices_Clone_rules_Fault_rules_Fault q5.1)) fun q0a =>
 nbd (nof (P_slices_DeleteFunc_rules_Fault_rules_Fault q0a q4)) fun q0b =>
 nbd (P_maskkeep4_ruled) fun q0c =>
 nlv (q0c && (decide (q5.2 = 0))) fun x51 =>
 nlv (x51 && (decide (q6.2 = 0))) fun x55 =>
 nbd (nof (gd (x55) (P_slices_Equal_rules_Fault_rules_Fault q0b q6.1))) fun q7 =>
 nlv (x55 && q7) fun x60 =>
 nret x60
theorem c_maskkeep4_RulesApart {w0 w : World} {l : List Assn} {ρ : Heap} {q0x : Option Addr} {q18 : Nat} {c_l_0 : Nat} {l_0 : List Int} {net1 : Int} {Q : Bool → Prop} (hF : P_maskkeep4_RulesApart l_0 net1 Q) (q19 : RdS (RpI .i64) ρ q0x q18 c_l_0 l_0) (hS : St w0 w (ro ρ :: l)) :
  Calls Try.prog 7 #[.slice q0x q18 c_l_0, .int .i64 net1] w fun e w' => ∃ r : Bool, Q r ∧ e = .returned (.bool r) ∧ St w0 w' (ro ρ :: l) := by
 have e_ := q19.n; subst e_
 refine enterC Try.func7 rfl 61 rfl (by simp) ?_
 refine x_seq <| x_region <| p (yl_assign rfl) <| x_done <|
  x_seq <| x_region <| p (yl_move rfl) <| p (v := .agg #[.slice q0x l_0.length c_l_0, .int .i64 0]) (yl_build bld_25 bldf_25 (parts_eq (pt (va := .slice q0x l_0.length c_l_0) rfl pt0)) (by kernel_rfl)) <| ?_
 refine o_box (cs := [.slice q0x l_0.length c_l_0, .int .i64 0]) rfl rfl hS (fun b16 w' hS => ?_)
 replace hF := nbd_s hF; obtain ⟨q2, q27, hF⟩ := hF
 refine p (yl_assign rfl) <| x_done <| x_seq <| x_region <|
  p (yl_move rfl) <| ?_
 have hcall := c_maskmake_Stream_Layout q27 q19 ((hS.pull 1).pull 1)
 refine o_cc call_20 (args1 rfl) hcall ?_
 rintro e w' ⟨q7, q1f, c_y0_ret_4_2_1, q1a, q8, q1g, c_y0_ret_5_2_1, q1b, q9, q1h, c_y0_ret_6_2_1, q1c, q0a, q1i, c_y0_ret_7_2_1, q1d, rfl, q0e, q0f, q0g, q0h, hS⟩
 refine ⟨_, rfl, ?_⟩
 have e_ := St.vec_n hS q0e; subst e_
 have e_ := St.vec_n (hS.pull 1) q0f; subst e_
 have e_ := St.vec_n (hS.pull 2) q0g; subst e_
 have e_ := St.vec_n (hS.pull 3) q0h; subst e_
 refine o_alloc zero_31 hS (fun b6 w' hS => ?_)
 refine o_storeAgg (news := [.int .i64 q2.1.W, .int .i64 q2.1.H, .int .i64 q2.1.Layers, .int .i64 q2.1.Nets, .slice q7 q2.1.Wires.length c_y0_ret_4_2_1, .slice q8 q2.1.Vias.length c_y0_ret_5_2_1, .slice q9 q2.1.Pins.length c_y0_ret_6_2_1, .slice q0a q2.1.Walls.length c_y0_ret_7_2_1]) agg_31 rfl rfl rfl (by simp [over_length]) hS (fun w' hS => ?_)
 replace hF := nbd_s hF; obtain ⟨q0p, q28, hF⟩ := hF
 refine x_done <| x_seq <| x_region <| p (yl_move rfl) <|
  p (yl_field0 fld_31_3 rfl) <| pa (at_load one_3 rfl (hS.cell rfl)) <| ?_
 have hcall := c_maskmake_Below q28  (hS.pull 6)
 refine o_cc call_26 (args2 rfl rfl) ((Calls.mono hcall (fun e w'' h => And.intro h.1 ((((((h.2.pull 6).pull 6).pull 6).pull 6).pull 6).pull 6)))) ?_
 rintro e w' ⟨rfl, hS⟩
 refine ⟨_, rfl, ?_⟩
 refine o_alloc zero_3 hS (fun b7 w' hS => ?_)
 refine o_store1 (v := .int .i64 q0p) one_3 rfl rfl rfl rfl hS (fun w' hS => ?_)
 refine x_done <| x_seq <| x_region <| pa (v := .agg #[.int .i64 q2.1.W, .int .i64 q2.1.H, .int .i64 q2.1.Layers, .int .i64 q2.1.Nets, .slice q7 q2.1.Wires.length c_y0_ret_4_2_1, .slice q8 q2.1.Vias.length c_y0_ret_5_2_1, .slice q9 q2.1.Pins.length c_y0_ret_6_2_1, .slice q0a q2.1.Walls.length c_y0_ret_7_2_1]) (ld_sub agg_31 rfl rfl rfl (hS.pull 1)) <|
  pa (v := .int .i64 q0p) (at_load one_3 rfl (hS.cell rfl)) <| ?_
 refine o_buildSlice (vs := [.int .i64 q0p]) (cs := [.int .i64 q0p]) sl_22 zero_3 (parts_eq (pt (va := .int .i64 q0p) rfl pt0)) rfl (by intro v hv; simp only [List.mem_cons, List.not_mem_nil, or_false] at hv; first | (subst hv; rfl) | (rcases hv with rfl <;> rfl)) (by decide) rfl hS (fun b25 w' hS => ?_)
 have q_ := St.vec_fz ((hS.pull 8).pull 4) q0e; obtain ⟨q2m, q0w, q1e, hS⟩ := q_
 have q_ := St.vec_fz (hS.pull 4) (q0f.le q0w); obtain ⟨q2h, q0d, q14, hS⟩ := q_
 have q_ := St.vec_fz (hS.pull 4) (q0g.le (q0w.trans q0d)); obtain ⟨q2i, q0b, q11, hS⟩ := q_
 have q_ := St.vec_fz (hS.pull 4) (q0h.le ((q0w.trans q0d).trans q0b)); obtain ⟨q1q, q4, q15, hS⟩ := q_
 have q1r : RepL (RpI .i64) q1q ([q0p] : List Int) [.int .i64 q0p] := (RepL.cons (cs := [.int .i64 q0p]) rfl RepL.nil)
 replace hS := St.vec_of (n := 1) (sz := (RpI .i64).sz) (hS.pull 1) rfl (by decide)
 have q_ := St.vec_fz ((hS.pull 1).pull 1) q1r; obtain ⟨q2j, q3, q1s, hS⟩ := q_
 replace hF := nbd_s hF; obtain ⟨q5, q29, hF⟩ := hF
 have hcall := c_detail_Without q29 (q1e.le (((q0d.trans q0b).trans q4).trans q3)) (q14.le ((q0b.trans q4).trans q3)) (q11.le (q4.trans q3)) (q15.le q3) q1s hS
 refine o_cc call_27 (args2 rfl rfl) hcall ?_
 rintro e w' ⟨q2k, q0i, q1j, c_y0_ret_4_4_3, q0j, q1k, c_y0_ret_5_4_3, q0y, q1l, c_y0_ret_6_4_3, q0k, q1m, c_y0_ret_7_4_3, rfl, q0l, q0m, q0n, q0z, q0o, hS⟩
 refine ⟨_, rfl, ?_⟩
 have e_ := q0m.n; subst e_
 have e_ := q0n.n; subst e_
 have e_ := q0z.n; subst e_
 have e_ := q0o.n; subst e_
 refine o_alloc zero_31 hS (fun b8 w' hS => ?_)
 refine o_storeAgg (news := [.int .i64 q5.W, .int .i64 q5.H, .int .i64 q5.Layers, .int .i64 q5.Nets, .slice q0i q5.Wires.length c_y0_ret_4_4_3, .slice q0j q5.Vias.length c_y0_ret_5_4_3, .slice q0y q5.Pins.length c_y0_ret_6_4_3, .slice q0k q5.Walls.length c_y0_ret_7_4_3]) agg_31 rfl rfl rfl (by simp [over_length]) hS (fun w' hS => ?_)
 replace hF := nbd_s hF; obtain ⟨q2n, q2a, hF⟩ := hF
 refine x_done <| x_seq <| x_region <| p (yl_field0 fld_31_6 rfl) <|
  pa (at_load one_28 rfl ((hS.pull 3).cell rfl)) <| ?_
 have hcall := c_slices_Clone_rules_Pin_rules_Pin q2a (q11.le ((q4.trans q3).trans q0l)) (hS.pull 1)
 refine o_cc call_11 (args1 rfl) hcall ?_
 rintro e w' ⟨q1t, q1u, c_y0_ret_5_2, q1n, rfl, q0q, hS⟩
 refine ⟨_, rfl, ?_⟩
 have e_ := St.vec_n hS q0q; subst e_
 replace hF := nbd_s hF; obtain ⟨q1v, q2b, hF⟩ := hF
 refine p (v := .func (.func 29) #[] #[.pointer (some ⟨b7, 0, none⟩)]) (yl_makeFunc (by simp only [List.map_toArray, List.map_nil]) (by simp only [List.map_toArray, List.map_cons, List.map_nil]; rfl)) <| ?_
 have hcall := c_slices_DeleteFunc_rules_Pin_rules_Pin q2b q0q (((hS.pull 1).pull 3).pull 2)
 refine o_cc call_28 (args2 rfl rfl) hcall ?_
 rintro e w' ⟨q1w, q0r, q1x, c_y0_ret_5_4, rfl, q0c, q0s, hS⟩
 refine ⟨_, rfl, ?_⟩
 have e_ := q0s.n; subst e_
 refine p (yl_field0 fld_31_6 rfl) <| ?_
 refine o_store1 (v := .slice q0r q1v.length c_y0_ret_5_4) one_28 rfl rfl rfl rfl (hS.pull 2) (fun w' hS => ?_)
 refine x_done <| x_seq <| x_region <| pa (v := .agg #[.int .i64 q2.1.W, .int .i64 q2.1.H, .int .i64 q2.1.Layers, .int .i64 q2.1.Nets, .slice q7 q2.1.Wires.length c_y0_ret_4_2_1, .slice q8 q2.1.Vias.length c_y0_ret_5_2_1, .slice q9 q2.1.Pins.length c_y0_ret_6_2_1, .slice q0a q2.1.Walls.length c_y0_ret_7_2_1]) (ld_sub agg_31 rfl rfl rfl (hS.pull 3)) <| ?_
 have hcall := c_rules_Faults (nbd_c hF) (q1e.le (((((q0d.trans q0b).trans q4).trans q3).trans q0l).trans q0c)) (q14.le ((((q0b.trans q4).trans q3).trans q0l).trans q0c)) (q11.le (((q4.trans q3).trans q0l).trans q0c)) (q15.le ((q3.trans q0l).trans q0c)) (hS.pull 2)
 refine o_cc call_21 (args1 rfl) hcall ?_
 rintro e w' ⟨q1y, hF, q1z, q20, c_y0_ret_6_1, q1o, rfl, q0t, hS⟩
 refine ⟨_, rfl, ?_⟩
 have e_ := St.vec_n hS q0t; subst e_
 refine p (yl_move rfl) <| p (yl_extract rfl rfl) <| p (yl_extract rfl rfl) <| p (yl_assign rfl) <|
  p (yl_assign rfl) <| x_done <| x_seq <| x_region <|
  pa (v := .agg #[.int .i64 q5.W, .int .i64 q5.H, .int .i64 q5.Layers, .int .i64 q5.Nets, .slice q0i q5.Wires.length c_y0_ret_4_4_3, .slice q0j q5.Vias.length c_y0_ret_5_4_3, .slice q0r q1v.length c_y0_ret_5_4, .slice q0k q5.Walls.length c_y0_ret_7_4_3]) (ld_sub agg_31 rfl rfl rfl (hS.pull 2)) <| ?_
 have hcall := c_rules_Faults (nbd_c hF) (q0m.le q0c) (q0n.le q0c) q0s (q0o.le q0c) (hS.pull 1)
 refine o_cc call_21 (args1 rfl) hcall ?_
 rintro e w' ⟨q17, hF, q12, q21, c_y0_ret_7_1, q1p, rfl, q0u, hS⟩
 refine ⟨_, rfl, ?_⟩
 have e_ := St.vec_n hS q0u; subst e_
 replace hF := nbd_s hF; obtain ⟨q2f, q2c, hF⟩ := hF
 refine p (yl_move rfl) <| p (yl_extract rfl rfl) <| p (yl_extract rfl rfl) <| p (yl_assign rfl) <|
  p (yl_assign rfl) <| x_done <| x_seq <| x_region <|
  p (yl_move rfl) <| ?_
 have q_ := St.lend ((hS.pull 1).pull 2) q0t; obtain ⟨ρl0, hll0, hlf0, hS0, back0⟩ := q_
 have hcall := c_slices_Clone_rules_Fault_rules_Fault q2c hlf0 hS0
 refine o_cc call_31 (args1 rfl) hcall ?_
 rintro e w' ⟨q22, q23, c_y0_ret_8_1, q10, rfl, q6, hS⟩
 refine ⟨_, rfl, ?_⟩
 replace hS := back0 (hS.pull 1)
 replace q6 : RepL R_rules_Fault q1w q2f q10 := RepL.flat (fun h => h) q6
 have e_ := St.vec_n (hS.pull 2) q6; subst e_
 replace hF := nbd_s hF; obtain ⟨q2g, q2d, hF⟩ := hF
 refine p (v := .func (.func 32) #[] #[.pointer (some ⟨b7, 0, none⟩)]) (yl_makeFunc (by simp only [List.map_toArray, List.map_nil]) (by simp only [List.map_toArray, List.map_cons, List.map_nil]; rfl)) <| ?_
 have hcall := c_slices_DeleteFunc_rules_Fault_rules_Fault q2d q6 (((hS.pull 1).pull 5).pull 3)
 refine o_cc call_30 (args2 rfl rfl) hcall ?_
 rintro e w' ⟨q2l, q13, q24, c_y0_ret_8_3, rfl, q16, q0v, hS⟩
 refine ⟨_, rfl, ?_⟩
 have e_ := q0v.n; subst e_
 refine p (yl_assign rfl) <| x_done <| x_seq <| x_region <| ?_
 have hcall := c_maskkeep4_ruled (nbd_c hF)  (hS.pull 1)
 refine o_cc call_22 args0 hcall ?_
 rintro e w' ⟨q25, hF, rfl, hS⟩
 refine ⟨_, rfl, ?_⟩
 replace hF := nlv_s hF; obtain ⟨x51, hx51, hF⟩ := hF
 replace hF := nlv_s hF; obtain ⟨x55, hx55, hF⟩ := hF
 replace hF := nbd_s hF; obtain ⟨q2e, q26, hF⟩ := hF
 refine p (yl_move rfl) <| pg (v := .int .i64 q1y.2) 48 (c := q25) (says_t _) (fun hq => Yl.at (yl_move rfl)) <| pg (v := .bool (decide (q1y.2 = 0))) 48 (c := q25) (says_t _) (fun hq => Yl.at (yl_eql (cv hq) rfl)) <| p (yand' rfl (fun hc => (cv hc)) rfl hx51) <|
  p (yl_move rfl) <| pg (v := .int .i64 q17.2) 52 (c := x51) (says_t _) (fun hq => Yl.at (yl_move rfl)) <| pg (v := .bool (decide (q17.2 = 0))) 52 (c := x51) (says_t _) (fun hq => Yl.at (yl_eql (cv hq) rfl)) <| p (yand' rfl (fun hc => (cv hc)) rfl hx55) <|
  p (yl_move rfl) <| pg (v := .slice q13 q2g.length c_y0_ret_8_3) 56 (c := x55) (says_t _) (fun hq => Yl.at (yl_move rfl)) <| pg (v := .slice q12 q17.1.length c_y0_ret_7_1) 56 (c := x55) (says_t _) (fun hq => Yl.at (yl_move rfl)) <|
  pccg (v := .bool q2e) 56 (c := x55) (says_t _) call_23 (fun hq => (args2 (cv hq) (cv hq))) hS (fun hq => by
   have q_ := St.lend (hS.pull 3) (q0u.le q16); obtain ⟨ρl0, hll0, hlf0, hS0, back0⟩ := q_
   have hcall := c_slices_Equal_rules_Fault_rules_Fault (gd_t q26 hq) (q0v.le hll0) hlf0 hS0
   exact (Calls.mono hcall (fun e w'' h => And.intro h.1 ((((((((back0 h.2).pull 6).pull 6).pull 6).pull 3).pull 6).pull 6).pull 6)))) (fun w' hS => ?_)
 replace hF := nlv_s hF; obtain ⟨x60, hx60, hF⟩ := hF
 refine p (yand' rfl (fun hc => (cv hc)) rfl hx60) <| p (yl_assign rfl) <| x_done <| ?_
 exact x_return ⟨_, ⟨_, _, rfl, rfl, rfl⟩, x60, hF, rfl, (ro_back0 (((((((q0w.trans q0d).trans q0b).trans q4).trans q3).trans q0l).trans q0c).trans q16) (((((((hS.pull 1).drop.pull 1).drop.pull 1).drop.pull 1).drop.pull 1).drop.pull 1).drop))⟩
attribute [irreducible] P_maskkeep4_RulesApart


end Go.Proofs.Ytnnmbmgnpdcefaa.X
