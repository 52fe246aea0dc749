/- Printed by gen.py: plain functions, and that the Go code computes them. -/
import Derived.Test.YtgmjhlpjlggpiaaDoorXI
import Derived.Test.YtgmjhlpjlggpiaaDoorYZ
import Derived.Test.YtgmjhlpjlggpiaaDoorYN
import Derived.Test.YtgmjhlpjlggpiaaDoorXT
import Derived.Test.YtgmjhlpjlggpiaaDoorGAp0
namespace Go.Proofs.YtgmjhlpjlggpiaaDoor.X
set_option maxHeartbeats 4000000
set_option maxRecDepth 100000
open Go Go.RowKit
set_option linter.unusedVariables false
set_option linter.unusedSimpArgs false

def P_global_plan_crowded_L2 (q4 : List (T_global_Edge × Int)) (q5 : List (T_global_Edge × Int)) (way1 : List T_global_Edge) : Int → Option (Int ⊕ (Unit ⊕ Bool)) := fun q2 =>
 if q2 < (way1.length : Int) then
  ck (inb q2 way1.length) <|
  lv (gt way1 q2) fun q3 =>
  lv (mget q3 q5 0) fun x18 =>
  lv (mget q3 q4 0) fun x24 =>
  if x24 < x18 then
   some (Sum.inr (Sum.inr true))
  else
   ar (q2 + 1) fun x26 =>
   some (Sum.inl x26)
 else
  some (Sum.inr (Sum.inl ()))
def P_global_plan_crowded (q4 : Int) (q5 : Int) (q6 : Int) (q7 : List T_floor_Block) (q8 : List T_floor_Wall) (q9 : List T_floor_Port) (q2 : List (T_global_Edge × Int)) (q3 : List (T_global_Edge × Int)) (q0a : List (T_global_Edge × Int)) (way1 : List T_global_Edge) : Option Bool :=
 bs (
  lp (P_global_plan_crowded_L2 q2 q3 way1) fuel 0) (fun y => some y) fun _ =>
 some false
theorem c_global_plan_crowded {w0 w : World} {l : List Assn} {ρ : Heap} {q0a : Nat} {q6 : Option Addr} {q0d : Nat} {c_p0_3 : Nat} {q7 : Option Addr} {q0e : Nat} {c_p0_4 : Nat} {q8 : Option Addr} {q0f : Nat} {c_p0_5 : Nat} {q2 : Nat} {q3 : Nat} {q4 : Nat} {q0g : Option Addr} {q0r : Nat} {c_way1 : Nat} {q0h : Int} {q0i : Int} {q0j : Int} {q0o : List T_floor_Block} {q0p : List T_floor_Wall} {q0q : List T_floor_Port} {q0b : List (T_global_Edge × Int)} {q0c : List (T_global_Edge × Int)} {q0k : List (T_global_Edge × Int)} {way1 : List T_global_Edge} {r : Bool} (hF : P_global_plan_crowded q0h q0i q0j q0o q0p q0q q0b q0c q0k way1 = some r) (q0w : RdS R_floor_Block ρ q6 q0d c_p0_3 q0o) (q0x : RdS R_floor_Wall ρ q7 q0e c_p0_4 q0p) (q0y : RdS R_floor_Port ρ q8 q0f c_p0_5 q0q) (q0l : RdS R_global_Edge ρ q0g q0r c_way1 way1) (hS : St w0 w (cells q0a 73 [.int .i64 q0h, .int .i64 q0i, .int .i64 q0j, .slice q6 q0d c_p0_3, .slice q7 q0e c_p0_4, .slice q8 q0f c_p0_5, .map (some q2), .map (some q3), .map (some q4)] :: mapA q2 kf_53 (Value.int .i64) q0b :: mapA q3 kf_53 (Value.int .i64) q0c :: mapA q4 kf_53 (Value.int .i64) q0k :: ro ρ :: l)) :
  Calls Tryd.prog 21 #[.pointer (some ⟨q0a, 0, none⟩), .slice q0g q0r c_way1] w fun e w' => e = .returned (.bool r) ∧ St w0 w' (cells q0a 73 [.int .i64 q0h, .int .i64 q0i, .int .i64 q0j, .slice q6 q0d c_p0_3, .slice q7 q0e c_p0_4, .slice q8 q0f c_p0_5, .map (some q2), .map (some q3), .map (some q4)] :: mapA q2 kf_53 (Value.int .i64) q0b :: mapA q3 kf_53 (Value.int .i64) q0c :: mapA q4 kf_53 (Value.int .i64) q0k :: ro ρ :: l) := by
 have e_ := q0w.n; subst e_
 have e_ := q0x.n; subst e_
 have e_ := q0y.n; subst e_
 have e_ := q0l.n; subst e_
 refine enterC Tryd.func21 rfl 27 rfl (by simp) ?_
 refine x_seq <| x_region <| p (yl_assign rfl) <| x_done <|
  x_seq <| x_seq <| x_region <| p (yl_move rfl) <|
  p (yl_len_slice usl_51 rfl) <| p (yl_move rfl) <| x_done <| ?_
 replace hF := bs_s hF; obtain ⟨oL2, hLL2, hF⟩ := hF
 refine x_join (fun E w => (Sum.inl (())) = oL2 ∧ St w0 w (cells q0a 73 [.int .i64 q0h, .int .i64 q0i, .int .i64 q0j, .slice q6 q0o.length c_p0_3, .slice q7 q0p.length c_p0_4, .slice q8 q0q.length c_p0_5, .map (some q2), .map (some q3), .map (some q4)] :: mapA q2 kf_53 (Value.int .i64) q0b :: mapA q3 kf_53 (Value.int .i64) q0c :: mapA q4 kf_53 (Value.int .i64) q0k :: ro ρ :: l)) ?_ ?_
 ·refine x_block ?_
  refine x_loop (fun k_ E w => ∃ (q9 : Int), lp (P_global_plan_crowded_L2 q0b q0c way1) k_ q9 = some oL2 ∧ E 0 = .pointer (some ⟨q0a, 0, none⟩) ∧ E 7 = .slice q0g way1.length c_way1 ∧ E 8 = .int .i64 (way1.length : Int) ∧ E 9 = .int .i64 q9 ∧ St w0 w (cells q0a 73 [.int .i64 q0h, .int .i64 q0i, .int .i64 q0j, .slice q6 q0o.length c_p0_3, .slice q7 q0p.length c_p0_4, .slice q8 q0q.length c_p0_5, .map (some q2), .map (some q3), .map (some q4)] :: mapA q2 kf_53 (Value.int .i64) q0b :: mapA q3 kf_53 (Value.int .i64) q0c :: mapA q4 kf_53 (Value.int .i64) q0k :: ro ρ :: l)) fuel ⟨0, hLL2, rfl, rfl, rfl, rfl, (((((hS.pull 4).pull 4).pull 4).pull 4).pull 4)⟩ ?_
  rintro kL2 E w ⟨q9, hLL2, q0m, q0s, q0t, q0n, hS⟩
  replace hLL2 := lp_s hLL2; obtain ⟨kL2, obL2, rfl, hFL2, hLL2⟩ := hLL2
  refine x_seq <| x_region <| p (yl_lss q0n q0t) <| x_done <|
   x_seq <|
   x_cond_p (q9 < (way1.length : Int)) rfl (fun hc10 => ?_) (fun hc10 => ?_)
  ·replace hFL2 := it_t hc10 hFL2
   replace hFL2 := ck_s hFL2; obtain ⟨q0u, hFL2⟩ := hFL2
   replace hFL2 := lv_s hFL2; obtain ⟨q5, q0z, hFL2⟩ := hFL2
   have q_ := q0l.get q0u; obtain ⟨q11, q0v, q10⟩ := q_
   rw [← q0z] at q0v
   have e_ := q0v; subst e_
   refine x_skip <| x_seq <| x_block <| x_seq <|
    x_region <| p (yix_f sl_51 q0s q0n q0l q0u) <| pa (v := .agg #[.int .i64 q5.From, .int .i64 q5.To]) (at_loadAgg agg_53 rfl rfl (Elt.every q10 (hS.pull 4))) <| ?_
   refine o_alloc zero_53 hS (fun b6 w' hS => ?_)
   refine o_storeAgg (news := [.int .i64 q5.From, .int .i64 q5.To]) agg_53 rfl rfl rfl (by simp [over_length]) hS (fun w' hS => ?_)
   replace hFL2 := lv_s hFL2; obtain ⟨x18, hx18, hFL2⟩ := hFL2
   replace hFL2 := lv_s hFL2; obtain ⟨x24, hx24, hFL2⟩ := hFL2
   refine x_done <| x_seq <| x_still mixed (by kernel_rfl) hS <| q (yl_move q0m) <|
    q (yl_nilCheck rfl) <| q (yl_field0 fld_73_2 rfl) <| qa (fun w' hS => at_load one_71 rfl ((hS.pull 1).cell rfl)) <| qa (v := .agg #[.int .i64 q5.From, .int .i64 q5.To]) (fun w' hS => ld_sub agg_53 rfl rfl rfl hS) <|
    qa (fun w' hS => at_look (k := q5) um_71 kp_53 (zero1 zv_3) rfl rfl (hS.pull 3) hx18) <| q (yl_move q0m) <| q (yl_nilCheck rfl) <| q (yl_field0 fld_73_1 rfl) <|
    qa (fun w' hS => at_load one_71 rfl ((hS.pull 1).cell rfl)) <| qa (v := .agg #[.int .i64 q5.From, .int .i64 q5.To]) (fun w' hS => ld_sub agg_53 rfl rfl rfl hS) <| qa (fun w' hS => at_look (k := q5) um_71 kp_53 (zero1 zv_3) rfl rfl (hS.pull 2) hx24) <| q (yl_gtr rfl rfl) <|
    q_done fun w' hS => ?_
   refine x_cond_p (x24 < x18) rfl (fun hc25 => ?_) (fun hc25 => ?_)
   ·replace hFL2 := it_t hc25 hFL2
    refine x_seq <| x_region <| p (yl_assign rfl) <| x_done <| ?_
    have e_ := sinj hFL2; subst e_
    have e_ := (show _ = oL2 from hLL2); subst e_
    have e_ := sinj hF; subst e_
    exact x_return ⟨_, ⟨_, _, rfl, rfl, rfl⟩, rfl, (((((hS.drop.pull 4).pull 4).pull 4).pull 4).pull 4)⟩
   ·replace hFL2 := it_f hc25 hFL2
    replace hFL2 := ar_s hFL2; obtain ⟨x26, hx26, hFL2⟩ := hFL2
    refine x_skip <| x_blk <| x_region <| p (yadd q0n rfl hx26) <|
     p (yl_move rfl) <| x_done <| ?_
    have e_ := sinj hFL2; subst e_
    exact x_inv ⟨kL2, Nat.lt_succ_self _, x26, hLL2, q0m, q0s, q0t, rfl, (((((hS.drop.pull 4).pull 4).pull 4).pull 4).pull 4)⟩
  ·replace hFL2 := it_f hc10 hFL2
   refine x_exitTo _ rfl <| ?_
   have e_ := sinj hFL2; subst e_
   exact x_inv ⟨hLL2, (((((hS.pull 4).pull 4).pull 4).pull 4).pull 4)⟩
 rintro E w ⟨rfl, hS⟩
 refine x_seq <| x_region <| p (yl_assign rfl) <| x_done <| ?_
 have e_ := sinj hF; subst e_
 exact x_return ⟨_, ⟨_, _, rfl, rfl, rfl⟩, rfl, (((((hS.pull 4).pull 4).pull 4).pull 4).pull 4)⟩
attribute [irreducible] P_global_plan_crowded

def P_global_Of (f0 : T_floor_Floor) (p1 : T_floor_Point) : Option Int :=
 bd (P_global_Grid f0) fun q2 =>
 ck ((8 : Int) ≠ 0) <|
 ar (Int.tdiv p1.Y 8) fun x14 =>
 ar (x14 * q2.1) fun x16 =>
 ck ((8 : Int) ≠ 0) <|
 ar (Int.tdiv p1.X 8) fun x19 =>
 ar (x16 + x19) fun x20 =>
 some x20
theorem c_global_Of {w0 w : World} {l : List Assn} {ρ : Heap} {q2 : Option Addr} {q5 : Nat} {c_f0_3 : Nat} {q3 : Option Addr} {q6 : Nat} {c_f0_4 : Nat} {q4 : Option Addr} {q7 : Nat} {c_f0_5 : Nat} {f0 : T_floor_Floor} {p1 : T_floor_Point} {r : Int} (hF : P_global_Of f0 p1 = some r) (q8 : RdS R_floor_Block ρ q2 q5 c_f0_3 f0.Blocks) (q9 : RdS R_floor_Wall ρ q3 q6 c_f0_4 f0.Walls) (q0a : RdS R_floor_Port ρ q4 q7 c_f0_5 f0.Ports) (hS : St w0 w (ro ρ :: l)) :
  Calls Tryd.prog 33 #[.agg #[.int .i64 f0.Rows, .int .i64 f0.Sites, .int .i64 f0.Layers, .slice q2 q5 c_f0_3, .slice q3 q6 c_f0_4, .slice q4 q7 c_f0_5], .agg #[.int .i64 p1.X, .int .i64 p1.Y]] w fun e w' => e = .returned (.int .i64 r) ∧ St w0 w' (ro ρ :: l) := by
 have e_ := q8.n; subst e_
 have e_ := q9.n; subst e_
 have e_ := q0a.n; subst e_
 refine enterC Tryd.func33 rfl 21 rfl (by simp) ?_
 refine x_seq <| x_region <| ?_
 refine o_box (cs := [.int .i64 f0.Rows, .int .i64 f0.Sites, .int .i64 f0.Layers, .slice q2 f0.Blocks.length c_f0_3, .slice q3 f0.Walls.length c_f0_4, .slice q4 f0.Ports.length c_f0_5]) rfl rfl hS (fun b2 w' hS => ?_)
 refine o_box (cs := [.int .i64 p1.X, .int .i64 p1.Y]) rfl rfl hS (fun b3 w' hS => ?_)
 replace hF := bd_s hF; obtain ⟨q0b, q0c, hF⟩ := hF
 refine p (yl_assign rfl) <| x_done <| x_seq <| x_region <|
  pa (v := .agg #[.int .i64 f0.Rows, .int .i64 f0.Sites, .int .i64 f0.Layers, .slice q2 f0.Blocks.length c_f0_3, .slice q3 f0.Walls.length c_f0_4, .slice q4 f0.Ports.length c_f0_5]) (ld_sub agg_30 rfl rfl rfl (hS.pull 1)) <| ?_
 have hcall := c_global_Grid q0c q8 q9 q0a (hS.pull 2)
 refine o_cc call_30 (args1 rfl) ((Calls.mono hcall (fun e w'' h => And.intro h.1 ((h.2.pull 2).pull 2)))) ?_
 rintro e w' ⟨rfl, hS⟩
 refine ⟨_, rfl, ?_⟩
 replace hF := ck_s hF; obtain ⟨q0d, hF⟩ := hF
 replace hF := ar_s hF; obtain ⟨x14, hx14, hF⟩ := hF
 replace hF := ar_s hF; obtain ⟨x16, hx16, hF⟩ := hF
 replace hF := ck_s hF; obtain ⟨q0e, hF⟩ := hF
 replace hF := ar_s hF; obtain ⟨x19, hx19, hF⟩ := hF
 replace hF := ar_s hF; obtain ⟨x20, hx20, hF⟩ := hF
 refine p (v := .tuple #[.int .i64 q0b.1, .int .i64 q0b.2]) (yl_move rfl) <| p (yl_extract rfl rfl) <| p (yl_extract rfl rfl) <| p (yl_assign rfl) <|
  p (yl_assign rfl) <| x_done <| x_seq <| x_region <|
  p (yl_field0 fld_40_1 rfl) <| pa (at_load one_3 rfl (hS.cell rfl)) <| p (yquo rfl rfl q0d hx14) <| p (yl_move rfl) <|
  p (ymul rfl rfl hx16) <| p (yl_field0 fld_40_0 rfl) <| pa (at_load one_3 rfl (hS.cell rfl)) <| p (yquo rfl rfl q0e hx19) <|
  p (yadd rfl rfl hx20) <| p (yl_assign rfl) <| x_done <| ?_
 have e_ := sinj hF; subst e_
 exact x_return ⟨_, ⟨_, _, rfl, rfl, rfl⟩, rfl, hS.drop.drop⟩
attribute [irreducible] P_global_Of

def P_global_queue_Len (q0 : List T_global_step) : Option Unit :=
 some ()
theorem c_global_queue_Len {w0 w : World} {l : List Assn} {ρ : Heap} {q2 : Option Addr} {q3 : Nat} {c_q0 : Nat} {q0 : List T_global_step} {r : Unit} (hF : P_global_queue_Len q0 = some r) (q4 : RdS R_global_step ρ q2 q3 c_q0 q0) (hS : St w0 w (ro ρ :: l)) :
  Calls Tryd.prog 40 #[.slice q2 q3 c_q0] w fun e w' => e = .returned (.int .i64 (q0.length : Int)) ∧ St w0 w' (ro ρ :: l) := by
 have e_ := q4.n; subst e_
 refine enterC Tryd.func40 rfl 5 rfl (by simp) ?_
 refine x_seq <| x_region <| p (yl_assign rfl) <| x_done <|
  x_seq <| x_region <| p (yl_move rfl) <| p (yl_len_slice usl_94 rfl) <|
  p (yl_assign rfl) <| x_done <| ?_
 have e_ := sinj hF; subst e_
 exact x_return ⟨_, ⟨_, _, rfl, rfl, rfl⟩, rfl, hS⟩
attribute [irreducible] P_global_queue_Len

def P_cmp_isNaN_int (x0 : Int) : Option Unit :=
 some ()
theorem c_cmp_isNaN_int {w0 w : World} {l : List Assn} {ρ : Heap} {x0 : Int} {r : Unit} (hF : P_cmp_isNaN_int x0 = some r) (hS : St w0 w (ro ρ :: l)) :
  Calls Tryd.prog 82 #[.int .i64 x0] w fun e w' => e = .returned (.bool (decide (x0 ≠ x0))) ∧ St w0 w' (ro ρ :: l) := by
 refine enterC Tryd.func82 rfl 6 rfl (by simp) ?_
 refine x_seq <| x_region <| p (yl_assign rfl) <| x_done <|
  x_seq <| x_region <| p (yl_move rfl) <| p (yl_move rfl) <|
  p (yl_neq rfl rfl) <| p (yl_assign rfl) <| x_done <| ?_
 have e_ := sinj hF; subst e_
 exact x_return ⟨_, ⟨_, _, rfl, rfl, rfl⟩, rfl, hS⟩
attribute [irreducible] P_cmp_isNaN_int

def P_cmp_Compare_int (x0 : Int) (y1 : Int) : Option Int :=
 bd (P_cmp_isNaN_int x0) fun q2 =>
 bd (P_cmp_isNaN_int y1) fun q3 =>
 if x0 ≠ x0 then
  if y1 ≠ y1 then
   some (0 : Int)
  else
   some (-1 : Int)
 else
  if y1 ≠ y1 then
   some (1 : Int)
  else
   if x0 < y1 then
    some (-1 : Int)
   else
    if y1 < x0 then
     some (1 : Int)
    else
     some (0 : Int)
theorem c_cmp_Compare_int {w0 w : World} {l : List Assn} {ρ : Heap} {x0 : Int} {y1 : Int} {r : Int} (hF : P_cmp_Compare_int x0 y1 = some r) (hS : St w0 w (ro ρ :: l)) :
  Calls Tryd.prog 81 #[.int .i64 x0, .int .i64 y1] w fun e w' => e = .returned (.int .i64 r) ∧ St w0 w' (ro ρ :: l) := by
 refine enterC Tryd.func81 rfl 20 rfl (by simp) ?_
 replace hF := bd_s hF; obtain ⟨q4, q2, hF⟩ := hF
 refine x_seq <| x_region <| p (yl_assign rfl) <| x_done <|
  x_seq <| x_region <| p (yl_move rfl) <| ?_
 have hcall := c_cmp_isNaN_int q2  hS
 refine o_cc call_82 (args1 rfl) (hcall) ?_
 rintro e w' ⟨rfl, hS⟩
 refine ⟨_, rfl, ?_⟩
 replace hF := bd_s hF; obtain ⟨q5, q3, hF⟩ := hF
 refine p (v := .bool (decide (x0 ≠ x0))) (yl_assign rfl) <| x_done <| x_seq <| x_region <|
  p (yl_move rfl) <| ?_
 have hcall := c_cmp_isNaN_int q3  hS
 refine o_cc call_82 (args1 rfl) (hcall) ?_
 rintro e w' ⟨rfl, hS⟩
 refine ⟨_, rfl, ?_⟩
 refine p (v := .bool (decide (y1 ≠ y1))) (yl_assign rfl) <| x_done <| x_seq <| x_seq <|
  x_region <| p (v := .bool (decide (x0 ≠ x0))) (yl_move rfl) <| x_done <|
  x_cond_p (x0 ≠ x0) rfl (fun hc11 => ?_) (fun hc11 => ?_)
 ·replace hF := it_t hc11 hF
  refine x_seq <| x_seq <| x_region <| p (v := .bool (decide (y1 ≠ y1))) (yl_move rfl) <|
   x_done <|
   x_cond_p (y1 ≠ y1) rfl (fun hc12 => ?_) (fun hc12 => ?_)
  ·replace hF := it_t hc12 hF
   refine x_seq <| x_region <| p (yl_assign rfl) <| x_done <| ?_
   have e_ := sinj hF; subst e_
   exact x_return ⟨_, ⟨_, _, rfl, rfl, rfl⟩, rfl, hS⟩
  ·replace hF := it_f hc12 hF
   refine x_skip <| x_seq <| x_region <| p (yl_assign rfl) <|
    x_done <| ?_
   have e_ := sinj hF; subst e_
   exact x_return ⟨_, ⟨_, _, rfl, rfl, rfl⟩, rfl, hS⟩
 ·replace hF := it_f hc11 hF
  refine x_skip <| x_seq <| x_seq <| x_region <|
   p (v := .bool (decide (y1 ≠ y1))) (yl_move rfl) <| x_done <|
   x_cond_p (y1 ≠ y1) rfl (fun hc13 => ?_) (fun hc13 => ?_)
  ·replace hF := it_t hc13 hF
   refine x_seq <| x_region <| p (yl_assign rfl) <| x_done <| ?_
   have e_ := sinj hF; subst e_
   exact x_return ⟨_, ⟨_, _, rfl, rfl, rfl⟩, rfl, hS⟩
  ·replace hF := it_f hc13 hF
   refine x_skip <| x_seq <| x_seq <| x_region <|
    p (yl_move rfl) <| p (yl_move rfl) <| p (yl_lss rfl rfl) <| x_done <|
    x_cond_p (x0 < y1) rfl (fun hc16 => ?_) (fun hc16 => ?_)
   ·replace hF := it_t hc16 hF
    refine x_seq <| x_region <| p (yl_assign rfl) <| x_done <| ?_
    have e_ := sinj hF; subst e_
    exact x_return ⟨_, ⟨_, _, rfl, rfl, rfl⟩, rfl, hS⟩
   ·replace hF := it_f hc16 hF
    refine x_skip <| x_seq <| x_seq <| x_region <|
     p (yl_move rfl) <| p (yl_move rfl) <| p (yl_gtr rfl rfl) <| x_done <|
     x_cond_p (y1 < x0) rfl (fun hc19 => ?_) (fun hc19 => ?_)
    ·replace hF := it_t hc19 hF
     refine x_seq <| x_region <| p (yl_assign rfl) <| x_done <| ?_
     have e_ := sinj hF; subst e_
     exact x_return ⟨_, ⟨_, _, rfl, rfl, rfl⟩, rfl, hS⟩
    ·replace hF := it_f hc19 hF
     refine x_skip <| x_seq <| x_region <| p (yl_assign rfl) <|
      x_done <| ?_
     have e_ := sinj hF; subst e_
     exact x_return ⟨_, ⟨_, _, rfl, rfl, rfl⟩, rfl, hS⟩
attribute [irreducible] P_cmp_Compare_int

def P_cmp_Or_int_L3 (vals0 : List Int) : Int → Option (Int ⊕ (Unit ⊕ Int)) := fun q2 =>
 if q2 < (vals0.length : Int) then
  ck (inb q2 vals0.length) <|
  lv (gt vals0 q2) fun x11 =>
  if x11 ≠ 0 then
   some (Sum.inr (Sum.inr x11))
  else
   ar (q2 + 1) fun x16 =>
   some (Sum.inl x16)
 else
  some (Sum.inr (Sum.inl ()))
def P_cmp_Or_int (vals0 : List Int) : Option Int :=
 bs (
  lp (P_cmp_Or_int_L3 vals0) fuel 0) (fun y => some y) fun _ =>
 some (0 : Int)
theorem c_cmp_Or_int {w0 w : World} {l : List Assn} {ρ : Heap} {q3 : Option Addr} {q7 : Nat} {c_vals0 : Nat} {vals0 : List Int} {r : Int} (hF : P_cmp_Or_int vals0 = some r) (q4 : RdS (RpI .i64) ρ q3 q7 c_vals0 vals0) (hS : St w0 w (ro ρ :: l)) :
  Calls Tryd.prog 80 #[.slice q3 q7 c_vals0] w fun e w' => e = .returned (.int .i64 r) ∧ St w0 w' (ro ρ :: l) := by
 have e_ := q4.n; subst e_
 refine enterC Tryd.func80 rfl 18 rfl (by simp) ?_
 refine x_seq <| x_region <| p (yl_assign rfl) <| x_done <|
  x_seq <| x_region <| p (yl_assign rfl) <| x_done <|
  x_seq <| x_seq <| x_region <| p (yl_move rfl) <|
  p (yl_len_slice usl_22 rfl) <| p (yl_move rfl) <| x_done <| ?_
 replace hF := bs_s hF; obtain ⟨oL3, hLL3, hF⟩ := hF
 refine x_join (fun E w => (Sum.inl (())) = oL3 ∧ E 3 = .int .i64 0 ∧ St w0 w (ro ρ :: l)) ?_ ?_
 ·refine x_block ?_
  refine x_loop (fun k_ E w => ∃ (q2 : Int), lp (P_cmp_Or_int_L3 vals0) k_ q2 = some oL3 ∧ E 3 = .int .i64 0 ∧ E 6 = .slice q3 vals0.length c_vals0 ∧ E 7 = .int .i64 (vals0.length : Int) ∧ E 8 = .int .i64 q2 ∧ St w0 w (ro ρ :: l)) fuel ⟨0, hLL3, rfl, rfl, rfl, rfl, hS⟩ ?_
  rintro kL3 E w ⟨q2, hLL3, q5, q8, q9, q6, hS⟩
  replace hLL3 := lp_s hLL3; obtain ⟨kL3, obL3, rfl, hFL3, hLL3⟩ := hLL3
  refine x_seq <| x_region <| p (yl_lss q6 q9) <| x_done <|
   x_seq <|
   x_cond_p (q2 < (vals0.length : Int)) rfl (fun hc9 => ?_) (fun hc9 => ?_)
  ·replace hFL3 := it_t hc9 hFL3
   replace hFL3 := ck_s hFL3; obtain ⟨q0a, hFL3⟩ := hFL3
   replace hFL3 := lv_s hFL3; obtain ⟨x11, hx11, hFL3⟩ := hFL3
   refine x_skip <| x_seq <| x_block <| x_seq <|
    x_region <| p (yix_f sl_22 q8 q6 q4 q0a) <| pa (at_load one_3 rfl (RdS.getW q4 hS q0a hx11)) <| p (yl_assign rfl) <|
    x_done <| x_seq <| x_region <| p (yl_move rfl) <|
    p (yl_move q5) <| p (yl_neq rfl rfl) <| x_done <|
    x_cond_p (x11 ≠ 0) rfl (fun hc14 => ?_) (fun hc14 => ?_)
   ·replace hFL3 := it_t hc14 hFL3
    refine x_seq <| x_region <| p (yl_move rfl) <| p (yl_assign rfl) <|
     x_done <| ?_
    have e_ := sinj hFL3; subst e_
    have e_ := (show _ = oL3 from hLL3); subst e_
    have e_ := sinj hF; subst e_
    exact x_return ⟨_, ⟨_, _, rfl, rfl, rfl⟩, rfl, hS⟩
   ·replace hFL3 := it_f hc14 hFL3
    replace hFL3 := ar_s hFL3; obtain ⟨x16, hx16, hFL3⟩ := hFL3
    refine x_skip <| x_blk <| x_region <| p (yadd q6 rfl hx16) <|
     p (yl_move rfl) <| x_done <| ?_
    have e_ := sinj hFL3; subst e_
    exact x_inv ⟨kL3, Nat.lt_succ_self _, x16, hLL3, q5, q8, q9, rfl, hS⟩
  ·replace hFL3 := it_f hc9 hFL3
   refine x_exitTo _ rfl <| ?_
   have e_ := sinj hFL3; subst e_
   exact x_inv ⟨hLL3, q5, hS⟩
 rintro E w ⟨rfl, q0b, hS⟩
 refine x_seq <| x_region <| p (yl_move q0b) <| p (yl_assign rfl) <|
  x_done <| ?_
 have e_ := sinj hF; subst e_
 exact x_return ⟨_, ⟨_, _, rfl, rfl, rfl⟩, rfl, hS⟩
attribute [irreducible] P_cmp_Or_int

def P_global_queue_Less (q0 : List T_global_step) (i1 : Int) (j2 : Int) : Option Bool :=
 ck (inb i1 q0.length) <|
 lv (gt q0 i1) fun q2 =>
 ck (inb j2 q0.length) <|
 lv (gt q0 j2) fun q3 =>
 bd (P_cmp_Compare_int q2.fcost q3.fcost) fun q6 =>
 bd (P_cmp_Compare_int q2.fat q3.fat) fun q7 =>
 bd (P_cmp_Compare_int q2.ffrom q3.ffrom) fun q4 =>
 bd (P_cmp_Or_int ([q6, q7, q4] : List Int)) fun q5 =>
 some (decide (q5 < 0))
theorem c_global_queue_Less {w0 w : World} {l : List Assn} {ρ : Heap} {q4 : Option Addr} {q0n : Nat} {c_q0 : Nat} {q0 : List T_global_step} {i1 : Int} {j2 : Int} {r : Bool} (hF : P_global_queue_Less q0 i1 j2 = some r) (q0i : RdS R_global_step ρ q4 q0n c_q0 q0) (hS : St w0 w (ro ρ :: l)) :
  Calls Tryd.prog 76 #[.slice q4 q0n c_q0, .int .i64 i1, .int .i64 j2] w fun e w' => e = .returned (.bool r) ∧ St w0 w' (ro ρ :: l) := by
 have e_ := q0i.n; subst e_
 refine enterC Tryd.func76 rfl 35 rfl (by simp) ?_
 refine x_seq <| x_region <| p (yl_assign rfl) <| x_done <|
  x_seq <| ?_
 replace hF := ck_s hF; obtain ⟨q0j, hF⟩ := hF
 replace hF := lv_s hF; obtain ⟨q2, q0r, hF⟩ := hF
 replace hF := ck_s hF; obtain ⟨q0k, hF⟩ := hF
 replace hF := lv_s hF; obtain ⟨q3, q0s, hF⟩ := hF
 refine x_par (w0 := w0) [⟨[], [], [9], [], [], [], none⟩, ⟨[], [], [10], [], [], [], none⟩, ⟨[0, 1], [0, 1], [11], [0], [], [], none⟩, ⟨[0, 1, 2], [2], [12], [0], [], [], none⟩, ⟨[], [], [13], [], [], [], none⟩, ⟨[], [], [14], [], [], [], none⟩, ⟨[4, 5], [4, 5], [15], [0], [], [], none⟩, ⟨[4, 5, 6], [6], [16], [0], [], [], none⟩, ⟨[], [], [7], [], [], [1], none⟩, ⟨[], [], [8], [], [], [2], none⟩, ⟨[0, 1, 2, 3, 8, 9], [3, 8], [], [], [1], [3], none⟩, ⟨[0, 1, 2, 3, 4, 5, 6, 7, 8, 9, 10], [7, 9], [], [], [2], [4], none⟩] [⟨none, none, []⟩, ⟨(some 8), (some 10), [7]⟩, ⟨(some 9), (some 11), [8]⟩, ⟨(some 10), none, [7]⟩, ⟨(some 11), none, [8]⟩] [7, 8, 9, 10, 11, 12, 13, 14, 15, 16] [0] [0, 3, 4] [0, 1, 2, 3, 4, 5, 6, 7, 8, 9] [fun Ep1 => Ep1 9 = .slice q4 q0.length c_q0, fun Ep1 => Ep1 10 = .int .i64 i1, fun Ep1 => Ep1 11 = .pointer (some ((adr q4).add (i1.toNat * R_global_step.sz))), fun Ep1 => Ep1 12 = .agg #[.int .i64 q2.fat, .int .i64 q2.fcost, .int .i64 q2.ffrom], fun Ep1 => Ep1 13 = .slice q4 q0.length c_q0, fun Ep1 => Ep1 14 = .int .i64 j2, fun Ep1 => Ep1 15 = .pointer (some ((adr q4).add (j2.toNat * R_global_step.sz))), fun Ep1 => Ep1 16 = .agg #[.int .i64 q3.fat, .int .i64 q3.fcost, .int .i64 q3.ffrom], fun Ep1 => Ep1 7 = .pointer (some ⟨(blkOf (Ep1 7)), 0, none⟩), fun Ep1 => Ep1 8 = .pointer (some ⟨(blkOf (Ep1 8)), 0, none⟩), fun Ep1 => True, fun Ep1 => True] [fun Ep1 => ro ρ, fun Ep1 => cells (blkOf (Ep1 7)) 96 [.int .i64 0, .int .i64 0, .int .i64 0], fun Ep1 => cells (blkOf (Ep1 8)) 96 [.int .i64 0, .int .i64 0, .int .i64 0], fun Ep1 => cells (blkOf (Ep1 7)) 96 [.int .i64 q2.fat, .int .i64 q2.fcost, .int .i64 q2.ffrom], fun Ep1 => cells (blkOf (Ep1 8)) 96 [.int .i64 q3.fat, .int .i64 q3.fcost, .int .i64 q3.ffrom]] mixed (by kernel_rfl) hS ?_ ?_
 ·refine ⟨?_, ?_, ?_, ?_, ?_, ?_, ?_, ?_, ?_, ?_, ?_, ?_, trivial⟩
  ·intro Ep1 w l' hE1 hO1 hF_ hS
   refine p (yl_move (hE1 0 rfl)) <| x_done <| ?_
   refine x_fin ⟨⟨_, rfl⟩, rfl, ?_⟩
   exact emk hS
  ·intro Ep1 w l' hE1 hO1 hF_ hS
   refine p (yl_move (hE1 1 rfl)) <| x_done <| ?_
   refine x_fin ⟨⟨_, rfl⟩, rfl, ?_⟩
   exact emk hS
  ·intro Ep1 w l' hE1 hO1 hF_ hS
   obtain ⟨q0a, q0b, -⟩ := hF_
   replace q0a : Ep1 9 = .slice q4 q0.length c_q0 := emk q0a
   replace q0b : Ep1 10 = .int .i64 i1 := emk q0b
   replace hS : St w0 w (ro ρ :: l') := emk hS
   refine p (yix_f sl_94 q0a q0b q0i q0j) <| x_done <| ?_
   refine x_fin ⟨⟨_, rfl⟩, rfl, ?_⟩
   exact emk hS
  ·intro Ep1 w l' hE1 hO1 hF_ hS
   obtain ⟨q0c, -⟩ := hF_
   replace q0c : Ep1 11 = .pointer (some ((adr q4).add (i1.toNat * R_global_step.sz))) := emk q0c
   replace hS : St w0 w (ro ρ :: l') := emk hS
   have q_ := q0i.get q0j; obtain ⟨q0z, q0l, q0t⟩ := q_
   rw [← q0r] at q0l
   have e_ := q0l; subst e_
   refine pa (v := .agg #[.int .i64 q2.fat, .int .i64 q2.fcost, .int .i64 q2.ffrom]) (at_loadAgg agg_96 q0c rfl (Elt.every q0t hS)) <| x_done <| ?_
   refine x_fin ⟨⟨_, rfl⟩, rfl, ?_⟩
   exact emk hS
  ·intro Ep1 w l' hE1 hO1 hF_ hS
   refine p (yl_move (hE1 0 rfl)) <| x_done <| ?_
   refine x_fin ⟨⟨_, rfl⟩, rfl, ?_⟩
   exact emk hS
  ·intro Ep1 w l' hE1 hO1 hF_ hS
   refine p (yl_move (hE1 2 rfl)) <| x_done <| ?_
   refine x_fin ⟨⟨_, rfl⟩, rfl, ?_⟩
   exact emk hS
  ·intro Ep1 w l' hE1 hO1 hF_ hS
   obtain ⟨q0d, q0e, -⟩ := hF_
   replace q0d : Ep1 13 = .slice q4 q0.length c_q0 := emk q0d
   replace q0e : Ep1 14 = .int .i64 j2 := emk q0e
   replace hS : St w0 w (ro ρ :: l') := emk hS
   refine p (yix_f sl_94 q0d q0e q0i q0k) <| x_done <| ?_
   refine x_fin ⟨⟨_, rfl⟩, rfl, ?_⟩
   exact emk hS
  ·intro Ep1 w l' hE1 hO1 hF_ hS
   obtain ⟨q0f, -⟩ := hF_
   replace q0f : Ep1 15 = .pointer (some ((adr q4).add (j2.toNat * R_global_step.sz))) := emk q0f
   replace hS : St w0 w (ro ρ :: l') := emk hS
   have q_ := q0i.get q0k; obtain ⟨q10, q0m, q0u⟩ := q_
   rw [← q0s] at q0m
   have e_ := q0m; subst e_
   refine pa (v := .agg #[.int .i64 q3.fat, .int .i64 q3.fcost, .int .i64 q3.ffrom]) (at_loadAgg agg_96 q0f rfl (Elt.every q0u hS)) <| x_done <| ?_
   refine x_fin ⟨⟨_, rfl⟩, rfl, ?_⟩
   exact emk hS
  ·intro Ep1 w l' hE1 hO1 hF_ hS
   refine o_alloc zero_96 hS (fun q0x w' hS => ?_)
   refine x_done <| ?_
   refine x_fin ⟨⟨_, rfl⟩, rfl, ?_⟩
   exact emk hS
  ·intro Ep1 w l' hE1 hO1 hF_ hS
   refine o_alloc zero_96 hS (fun q0y w' hS => ?_)
   refine x_done <| ?_
   refine x_fin ⟨⟨_, rfl⟩, rfl, ?_⟩
   exact emk hS
  ·intro Ep1 w l' hE1 hO1 hF_ hS
   obtain ⟨q0g, q5, -⟩ := hF_
   replace q0g : Ep1 12 = .agg #[.int .i64 q2.fat, .int .i64 q2.fcost, .int .i64 q2.ffrom] := emk q0g
   replace q5 : Ep1 7 = .pointer (some ⟨(blkOf (Ep1 7)), 0, none⟩) := emk q5
   replace hS : St w0 w (cells (blkOf (Ep1 7)) 96 [.int .i64 0, .int .i64 0, .int .i64 0] :: l') := emk hS
   refine o_storeAgg (news := [.int .i64 q2.fat, .int .i64 q2.fcost, .int .i64 q2.ffrom]) agg_96 q5 q0g rfl (by simp [over_length]) hS (fun w' hS => ?_)
   refine x_done <| ?_
   refine x_fin ⟨⟨undef, rfl⟩, trivial, ?_⟩
   exact emk hS
  ·intro Ep1 w l' hE1 hO1 hF_ hS
   obtain ⟨q0h, q6, -⟩ := hF_
   replace q0h : Ep1 16 = .agg #[.int .i64 q3.fat, .int .i64 q3.fcost, .int .i64 q3.ffrom] := emk q0h
   replace q6 : Ep1 8 = .pointer (some ⟨(blkOf (Ep1 8)), 0, none⟩) := emk q6
   replace hS : St w0 w (cells (blkOf (Ep1 8)) 96 [.int .i64 0, .int .i64 0, .int .i64 0] :: l') := emk hS
   refine o_storeAgg (news := [.int .i64 q3.fat, .int .i64 q3.fcost, .int .i64 q3.ffrom]) agg_96 q6 q0h rfl (by simp [over_length]) hS (fun w' hS => ?_)
   refine x_done <| ?_
   refine x_fin ⟨⟨undef, rfl⟩, trivial, ?_⟩
   exact emk hS
 intro Ep1 w' hE1 hF_ hS
 obtain ⟨q0a, q0b, q0c, q0g, q0d, q0e, q0f, q0h, q5, q6, -⟩ := hF_
 replace q0a : Ep1 9 = .slice q4 q0.length c_q0 := emk q0a
 replace q0b : Ep1 10 = .int .i64 i1 := emk q0b
 replace q0c : Ep1 11 = .pointer (some ((adr q4).add (i1.toNat * R_global_step.sz))) := emk q0c
 replace q0g : Ep1 12 = .agg #[.int .i64 q2.fat, .int .i64 q2.fcost, .int .i64 q2.ffrom] := emk q0g
 replace q0d : Ep1 13 = .slice q4 q0.length c_q0 := emk q0d
 replace q0e : Ep1 14 = .int .i64 j2 := emk q0e
 replace q0f : Ep1 15 = .pointer (some ((adr q4).add (j2.toNat * R_global_step.sz))) := emk q0f
 replace q0h : Ep1 16 = .agg #[.int .i64 q3.fat, .int .i64 q3.fcost, .int .i64 q3.ffrom] := emk q0h
 replace q5 : Ep1 7 = .pointer (some ⟨(blkOf (Ep1 7)), 0, none⟩) := emk q5
 replace q6 : Ep1 8 = .pointer (some ⟨(blkOf (Ep1 8)), 0, none⟩) := emk q6
 replace hS : St w0 w' (ro ρ :: cells (blkOf (Ep1 7)) 96 [.int .i64 q2.fat, .int .i64 q2.fcost, .int .i64 q2.ffrom] :: cells (blkOf (Ep1 8)) 96 [.int .i64 q3.fat, .int .i64 q3.fcost, .int .i64 q3.ffrom] :: (l)) := emk hS
 replace hF := bd_s hF; obtain ⟨q8, q0v, hF⟩ := hF
 replace hF := bd_s hF; obtain ⟨q9, q0w, hF⟩ := hF
 replace hF := bd_s hF; obtain ⟨q7, q0o, hF⟩ := hF
 refine x_seq <| x_head 15 mixed (by kernel_rfl) hS _ _ rfl rfl <| q (yl_field0 fld_96_1 q5) <| qa (fun w' hS => at_load one_3 rfl ((hS.pull 1).cell rfl)) <|
  q (yl_field0 fld_96_1 q6) <| qa (fun w' hS => at_load one_3 rfl ((hS.pull 2).cell rfl)) <| qcc (v := .int .i64 q8) call_81 (args2 rfl rfl) (fun w' hS => by
   have hcall := c_cmp_Compare_int q0v  hS
   exact hcall) <| q (yl_field0 fld_96_0 q5) <|
  qa (fun w' hS => at_load one_3 rfl ((hS.pull 1).cell rfl)) <| q (yl_field0 fld_96_0 q6) <| qa (fun w' hS => at_load one_3 rfl ((hS.pull 2).cell rfl)) <| qcc (v := .int .i64 q9) call_81 (args2 rfl rfl) (fun w' hS => by
   have hcall := c_cmp_Compare_int q0w  hS
   exact hcall) <|
  q (yl_field0 fld_96_2 q5) <| qa (fun w' hS => at_load one_3 rfl ((hS.pull 1).cell rfl)) <| q (yl_field0 fld_96_2 q6) <| qa (fun w' hS => at_load one_3 rfl ((hS.pull 2).cell rfl)) <|
  qcc (v := .int .i64 q7) call_81 (args2 rfl rfl) (fun w' hS => by
   have hcall := c_cmp_Compare_int q0o  hS
   exact hcall) <|
  q_done fun w' hS => ?_
 refine o_buildSlice (vs := [.int .i64 q8, .int .i64 q9, .int .i64 q7]) (cs := [.int .i64 q8, .int .i64 q9, .int .i64 q7]) sl_22 zero_3 (parts_eq (pt (va := .int .i64 q8) rfl (pt (va := .int .i64 q9) rfl (pt (va := .int .i64 q7) rfl pt0)))) rfl (by intro v hv; simp only [List.mem_cons, List.not_mem_nil, or_false] at hv; first | (subst hv; rfl) | (rcases hv with rfl | rfl | rfl <;> rfl)) (by decide) rfl hS (fun b32 w' hS => ?_)
 have q0p : RepL (RpI .i64) ρ ([q8, q9, q7] : List Int) [.int .i64 q8, .int .i64 q9, .int .i64 q7] := (RepL.cons (cs := [.int .i64 q8]) rfl (RepL.cons (cs := [.int .i64 q9]) rfl (RepL.cons (cs := [.int .i64 q7]) rfl RepL.nil)))
 replace hS := St.vec_of (n := 3) (sz := (RpI .i64).sz) hS rfl (by decide)
 replace hF := bd_s hF; obtain ⟨q11, q0q, hF⟩ := hF
 have q_ := St.lend ((hS.pull 1).pull 1) q0p; obtain ⟨ρl0, hll0, hlf0, hS0, back0⟩ := q_
 have hcall := c_cmp_Or_int q0q hlf0 hS0
 refine o_cc call_80 (args1 rfl) ((Calls.mono hcall (fun e w'' h => And.intro h.1 (((((back0 h.2).pull 3).pull 3).pull 3).pull 3)))) ?_
 rintro e w' ⟨rfl, hS⟩
 refine ⟨_, rfl, ?_⟩
 refine p (yl_lss rfl rfl) <| p (yl_assign rfl) <| x_done <| ?_
 have e_ := sinj hF; subst e_
 exact x_return ⟨_, ⟨_, _, rfl, rfl, rfl⟩, rfl, (((hS.drop.pull 1).drop.pull 1).drop)⟩
attribute [irreducible] P_global_queue_Less

def P_global_queue_Swap (q0 : List T_global_step) (i1 : Int) (j2 : Int) : Option (List T_global_step) :=
 ck (inb j2 q0.length) <|
 lv (gt q0 j2) fun q5 =>
 ck (inb i1 q0.length) <|
 lv (gt q0 i1) fun q3 =>
 ck (inb i1 q0.length) <|
 lv (stt q0 i1 q5) fun q2 =>
 ck (inb j2 q2.length) <|
 lv (stt q2 j2 q3) fun q4 =>
 some q4
theorem c_global_queue_Swap {w0 w : World} {l : List Assn} {ρ : Heap} {q2 : Option Addr} {q0q : Nat} {c_q0 : Nat} {q7 : List Value} {q0 : List T_global_step} {i1 : Int} {j2 : Int} {r : List T_global_step} (hF : P_global_queue_Swap q0 i1 j2 = some r) (q0e : RepL R_global_step ρ q0 q7) (hS : St w0 w (vec 96 R_global_step.sz (.slice q2 q0q c_q0) q0q q7 :: ro ρ :: l)) :
  Calls Tryd.prog 79 #[.slice q2 q0q c_q0, .int .i64 i1, .int .i64 j2] w fun e w' => ∃ (q9 : List Value), e = .returned (.tuple #[]) ∧ RepL R_global_step ρ r q9 ∧ St w0 w' (vec 96 R_global_step.sz (.slice q2 q0q c_q0) q0q q9 :: ro ρ :: l) := by
 have e_ := St.vec_n hS q0e; subst e_
 refine enterC Tryd.func79 rfl 20 rfl (by simp) ?_
 replace hF := ck_s hF; obtain ⟨q0x, hF⟩ := hF
 replace hF := lv_s hF; obtain ⟨q6, q13, hF⟩ := hF
 replace hF := ck_s hF; obtain ⟨q0t, hF⟩ := hF
 replace hF := lv_s hF; obtain ⟨q4, q0z, hF⟩ := hF
 replace hF := ck_s hF; obtain ⟨q0u, hF⟩ := hF
 replace hF := lv_s hF; obtain ⟨q0f, q10, hF⟩ := hF
 replace hF := ck_s hF; obtain ⟨q0v, hF⟩ := hF
 replace hF := lv_s hF; obtain ⟨q0s, q11, hF⟩ := hF
 refine x_par (w0 := w0) [⟨[], [], [6], [], [], [], none⟩, ⟨[], [], [7], [], [], [], none⟩, ⟨[], [], [8], [], [], [], none⟩, ⟨[], [], [9], [], [], [], none⟩, ⟨[], [], [10], [], [], [], none⟩, ⟨[], [], [11], [], [], [], none⟩, ⟨[4, 5], [4, 5], [12], [0], [], [], none⟩, ⟨[4, 5, 6], [6], [13], [0], [], [], none⟩, ⟨[], [], [14], [], [], [], none⟩, ⟨[], [], [15], [], [], [], none⟩, ⟨[8, 9], [8, 9], [16], [0], [], [], none⟩, ⟨[8, 9, 10], [10], [17], [0], [], [], none⟩, ⟨[0, 1, 4, 5, 6, 7, 8, 9, 10, 11], [0, 1], [18], [0], [], [], none⟩, ⟨[0, 1, 4, 5, 6, 7, 8, 9, 10, 11, 12], [7, 12], [], [], [0], [1], none⟩, ⟨[0, 1, 2, 3, 4, 5, 6, 7, 8, 9, 10, 11, 12, 13], [2, 3], [19], [2, 1], [], [], none⟩, ⟨[0, 1, 2, 3, 4, 5, 6, 7, 8, 9, 10, 11, 12, 13, 14], [11, 14], [], [2], [1], [3], none⟩] [⟨none, (some 13), []⟩, ⟨(some 13), (some 15), []⟩, ⟨none, none, []⟩, ⟨(some 15), none, []⟩] [6, 7, 8, 9, 10, 11, 12, 13, 14, 15, 16, 17, 18, 19] [0, 2] [2, 3] [0, 1, 2, 3, 4, 5, 6, 7, 8, 9, 10, 11, 12, 14] [fun Ep0 => Ep0 6 = .slice q2 q0.length c_q0, fun Ep0 => Ep0 7 = .int .i64 i1, fun Ep0 => Ep0 8 = .slice q2 q0.length c_q0, fun Ep0 => Ep0 9 = .int .i64 j2, fun Ep0 => Ep0 10 = .slice q2 q0.length c_q0, fun Ep0 => Ep0 11 = .int .i64 j2, fun Ep0 => Ep0 12 = .pointer (some ((adr q2).add (j2.toNat * R_global_step.sz))), fun Ep0 => Ep0 13 = .agg #[.int .i64 q6.fat, .int .i64 q6.fcost, .int .i64 q6.ffrom], fun Ep0 => Ep0 14 = .slice q2 q0.length c_q0, fun Ep0 => Ep0 15 = .int .i64 i1, fun Ep0 => Ep0 16 = .pointer (some ((adr q2).add (i1.toNat * R_global_step.sz))), fun Ep0 => Ep0 17 = .agg #[.int .i64 q4.fat, .int .i64 q4.fcost, .int .i64 q4.ffrom], fun Ep0 => Ep0 18 = .pointer (some ((adr q2).add (i1.toNat * R_global_step.sz))), fun Ep0 => True, fun Ep0 => Ep0 19 = .pointer (some ((adr q2).add (j2.toNat * R_global_step.sz))), fun Ep0 => True] [fun Ep0 => vec 96 R_global_step.sz (.slice q2 q0.length c_q0) q0.length q7, fun Ep0 => bunA (fun (q3 : List Value) => RepL R_global_step ρ q0f q3) (fun (q3 : List Value) => [vec 96 R_global_step.sz (.slice q2 q0.length c_q0) q0.length q3]), fun Ep0 => ro ρ, fun Ep0 => bunA (fun (q5 : List Value) => RepL R_global_step ρ q0s q5) (fun (q5 : List Value) => [vec 96 R_global_step.sz (.slice q2 q0.length c_q0) q0.length q5])] mixed (by kernel_rfl) ((hS.pull 1).pull 1) ?_ ?_
 ·refine ⟨?_, ?_, ?_, ?_, ?_, ?_, ?_, ?_, ?_, ?_, ?_, ?_, ?_, ?_, ?_, ?_, trivial⟩
  ·intro Ep0 w l' hE0 hO0 hF_ hS
   refine p (yl_move (hE0 0 rfl)) <| x_done <| ?_
   refine x_fin ⟨⟨_, rfl⟩, rfl, ?_⟩
   exact emk hS
  ·intro Ep0 w l' hE0 hO0 hF_ hS
   refine p (yl_move (hE0 1 rfl)) <| x_done <| ?_
   refine x_fin ⟨⟨_, rfl⟩, rfl, ?_⟩
   exact emk hS
  ·intro Ep0 w l' hE0 hO0 hF_ hS
   refine p (yl_move (hE0 0 rfl)) <| x_done <| ?_
   refine x_fin ⟨⟨_, rfl⟩, rfl, ?_⟩
   exact emk hS
  ·intro Ep0 w l' hE0 hO0 hF_ hS
   refine p (yl_move (hE0 2 rfl)) <| x_done <| ?_
   refine x_fin ⟨⟨_, rfl⟩, rfl, ?_⟩
   exact emk hS
  ·intro Ep0 w l' hE0 hO0 hF_ hS
   refine p (yl_move (hE0 0 rfl)) <| x_done <| ?_
   refine x_fin ⟨⟨_, rfl⟩, rfl, ?_⟩
   exact emk hS
  ·intro Ep0 w l' hE0 hO0 hF_ hS
   refine p (yl_move (hE0 2 rfl)) <| x_done <| ?_
   refine x_fin ⟨⟨_, rfl⟩, rfl, ?_⟩
   exact emk hS
  ·intro Ep0 w l' hE0 hO0 hF_ hS
   obtain ⟨q0g, q0h, -⟩ := hF_
   replace q0g : Ep0 10 = .slice q2 q0.length c_q0 := emk q0g
   replace q0h : Ep0 11 = .int .i64 j2 := emk q0h
   replace hS : St w0 w (vec 96 R_global_step.sz (.slice q2 q0.length c_q0) q0.length q7 :: l') := emk hS
   refine p (yix_o sl_94 q0g q0h hS q0e q0x) <| x_done <| ?_
   refine x_fin ⟨⟨_, rfl⟩, rfl, ?_⟩
   exact emk hS
  ·intro Ep0 w l' hE0 hO0 hF_ hS
   obtain ⟨q0i, -⟩ := hF_
   replace q0i : Ep0 12 = .pointer (some ((adr q2).add (j2.toNat * R_global_step.sz))) := emk q0i
   replace hS : St w0 w (vec 96 R_global_step.sz (.slice q2 q0.length c_q0) q0.length q7 :: l') := emk hS
   have q_ := q0e.get q0x; obtain ⟨q16, q0y, q14⟩ := q_
   rw [← q13] at q0y
   have e_ := q0y; subst e_
   refine pa (v := .agg #[.int .i64 q6.fat, .int .i64 q6.fcost, .int .i64 q6.ffrom]) (at_loadAgg agg_96 q0i rfl (EltV.every q14 hS)) <| x_done <| ?_
   refine x_fin ⟨⟨_, rfl⟩, rfl, ?_⟩
   exact emk hS
  ·intro Ep0 w l' hE0 hO0 hF_ hS
   refine p (yl_move (hE0 0 rfl)) <| x_done <| ?_
   refine x_fin ⟨⟨_, rfl⟩, rfl, ?_⟩
   exact emk hS
  ·intro Ep0 w l' hE0 hO0 hF_ hS
   refine p (yl_move (hE0 1 rfl)) <| x_done <| ?_
   refine x_fin ⟨⟨_, rfl⟩, rfl, ?_⟩
   exact emk hS
  ·intro Ep0 w l' hE0 hO0 hF_ hS
   obtain ⟨q0j, q0k, -⟩ := hF_
   replace q0j : Ep0 14 = .slice q2 q0.length c_q0 := emk q0j
   replace q0k : Ep0 15 = .int .i64 i1 := emk q0k
   replace hS : St w0 w (vec 96 R_global_step.sz (.slice q2 q0.length c_q0) q0.length q7 :: l') := emk hS
   refine p (yix_o sl_94 q0j q0k hS q0e q0t) <| x_done <| ?_
   refine x_fin ⟨⟨_, rfl⟩, rfl, ?_⟩
   exact emk hS
  ·intro Ep0 w l' hE0 hO0 hF_ hS
   obtain ⟨q0a, -⟩ := hF_
   replace q0a : Ep0 16 = .pointer (some ((adr q2).add (i1.toNat * R_global_step.sz))) := emk q0a
   replace hS : St w0 w (vec 96 R_global_step.sz (.slice q2 q0.length c_q0) q0.length q7 :: l') := emk hS
   have q_ := q0e.get q0t; obtain ⟨q15, q0w, q12⟩ := q_
   rw [← q0z] at q0w
   have e_ := q0w; subst e_
   refine pa (v := .agg #[.int .i64 q4.fat, .int .i64 q4.fcost, .int .i64 q4.ffrom]) (at_loadAgg agg_96 q0a rfl (EltV.every q12 hS)) <| x_done <| ?_
   refine x_fin ⟨⟨_, rfl⟩, rfl, ?_⟩
   exact emk hS
  ·intro Ep0 w l' hE0 hO0 hF_ hS
   obtain ⟨q0l, q0m, -⟩ := hF_
   replace q0l : Ep0 6 = .slice q2 q0.length c_q0 := emk q0l
   replace q0m : Ep0 7 = .int .i64 i1 := emk q0m
   replace hS : St w0 w (vec 96 R_global_step.sz (.slice q2 q0.length c_q0) q0.length q7 :: l') := emk hS
   refine p (yix_o sl_94 q0l q0m hS q0e q0u) <| x_done <| ?_
   refine x_fin ⟨⟨_, rfl⟩, rfl, ?_⟩
   exact emk hS
  ·intro Ep0 w l' hE0 hO0 hF_ hS
   obtain ⟨q0n, q0b, -⟩ := hF_
   replace q0n : Ep0 13 = .agg #[.int .i64 q6.fat, .int .i64 q6.fcost, .int .i64 q6.ffrom] := emk q0n
   replace q0b : Ep0 18 = .pointer (some ((adr q2).add (i1.toNat * R_global_step.sz))) := emk q0b
   replace hS : St w0 w (vec 96 R_global_step.sz (.slice q2 q0.length c_q0) q0.length q7 :: l') := emk hS
   refine o_put' (news := [.int .i64 q6.fat, .int .i64 q6.fcost, .int .i64 q6.ffrom]) sz_96 q0b q0n rfl rfl (o := 0) rfl q0u rfl hS q0e (Le.refl _) (fun c hc => ok_all hc (show R_global_step.ok ρ [.int .i64 q6.fat, .int .i64 q6.fcost, .int .i64 q6.ffrom] q6 from rfl)) q10 (fun q3 w' q8 hS => ?_)
   refine x_done <| ?_
   refine x_fin ⟨⟨undef, rfl⟩, trivial, ?_⟩
   replace hS := St.bun (Φ := (fun (q3 : List Value) => RepL R_global_step ρ q0f q3)) (L := (fun (q3 : List Value) => [vec 96 R_global_step.sz (.slice q2 q0.length c_q0) q0.length q3])) q3 q8 hS
   exact emk hS
  ·intro Ep0 w l' hE0 hO0 hF_ hS
   obtain ⟨q0o, q0p, -⟩ := hF_
   replace q0o : Ep0 8 = .slice q2 q0.length c_q0 := emk q0o
   replace q0p : Ep0 9 = .int .i64 j2 := emk q0p
   replace hS : St w0 w (ro ρ :: bunA (fun (q3 : List Value) => RepL R_global_step ρ q0f q3) (fun (q3 : List Value) => [vec 96 R_global_step.sz (.slice q2 q0.length c_q0) q0.length q3]) :: l') := emk hS
   have q_ := St.unbun (hS.pull 1); obtain ⟨q3, q8, hS⟩ := q_
   refine p (yix_o sl_94 q0o q0p hS q8 q0v) <| x_done <| ?_
   refine x_fin ⟨⟨_, rfl⟩, rfl, ?_⟩
   replace hS := St.bun (Φ := (fun (q3 : List Value) => RepL R_global_step ρ q0f q3)) (L := (fun (q3 : List Value) => [vec 96 R_global_step.sz (.slice q2 q0.length c_q0) q0.length q3])) q3 q8 hS
   exact emk (hS.pull 1)
  ·intro Ep0 w l' hE0 hO0 hF_ hS
   obtain ⟨q0c, q0d, -⟩ := hF_
   replace q0c : Ep0 17 = .agg #[.int .i64 q4.fat, .int .i64 q4.fcost, .int .i64 q4.ffrom] := emk q0c
   replace q0d : Ep0 19 = .pointer (some ((adr q2).add (j2.toNat * R_global_step.sz))) := emk q0d
   replace hS : St w0 w (ro ρ :: bunA (fun (q3 : List Value) => RepL R_global_step ρ q0f q3) (fun (q3 : List Value) => [vec 96 R_global_step.sz (.slice q2 q0.length c_q0) q0.length q3]) :: l') := emk hS
   have q_ := St.unbun (hS.pull 1); obtain ⟨q3, q8, hS⟩ := q_
   refine o_put' (news := [.int .i64 q4.fat, .int .i64 q4.fcost, .int .i64 q4.ffrom]) sz_96 q0d q0c rfl rfl (o := 0) rfl q0v rfl hS q8 (Le.refl _) (fun c hc => ok_all hc (show R_global_step.ok ρ [.int .i64 q4.fat, .int .i64 q4.fcost, .int .i64 q4.ffrom] q4 from rfl)) q11 (fun q5 w' q0r hS => ?_)
   refine x_done <| ?_
   refine x_fin ⟨⟨undef, rfl⟩, trivial, ?_⟩
   replace hS := St.bun (Φ := (fun (q5 : List Value) => RepL R_global_step ρ q0s q5)) (L := (fun (q5 : List Value) => [vec 96 R_global_step.sz (.slice q2 q0.length c_q0) q0.length q5])) q5 q0r hS
   exact emk (hS.pull 1)
 intro Ep0 w' hE0 hF_ hS
 obtain ⟨q0l, q0m, q0o, q0p, q0g, q0h, q0i, q0n, q0j, q0k, q0a, q0c, q0b, q0d, -⟩ := hF_
 replace q0l : Ep0 6 = .slice q2 q0.length c_q0 := emk q0l
 replace q0m : Ep0 7 = .int .i64 i1 := emk q0m
 replace q0o : Ep0 8 = .slice q2 q0.length c_q0 := emk q0o
 replace q0p : Ep0 9 = .int .i64 j2 := emk q0p
 replace q0g : Ep0 10 = .slice q2 q0.length c_q0 := emk q0g
 replace q0h : Ep0 11 = .int .i64 j2 := emk q0h
 replace q0i : Ep0 12 = .pointer (some ((adr q2).add (j2.toNat * R_global_step.sz))) := emk q0i
 replace q0n : Ep0 13 = .agg #[.int .i64 q6.fat, .int .i64 q6.fcost, .int .i64 q6.ffrom] := emk q0n
 replace q0j : Ep0 14 = .slice q2 q0.length c_q0 := emk q0j
 replace q0k : Ep0 15 = .int .i64 i1 := emk q0k
 replace q0a : Ep0 16 = .pointer (some ((adr q2).add (i1.toNat * R_global_step.sz))) := emk q0a
 replace q0c : Ep0 17 = .agg #[.int .i64 q4.fat, .int .i64 q4.fcost, .int .i64 q4.ffrom] := emk q0c
 replace q0b : Ep0 18 = .pointer (some ((adr q2).add (i1.toNat * R_global_step.sz))) := emk q0b
 replace q0d : Ep0 19 = .pointer (some ((adr q2).add (j2.toNat * R_global_step.sz))) := emk q0d
 replace hS : St w0 w' (ro ρ :: bunA (fun (q5 : List Value) => RepL R_global_step ρ q0s q5) (fun (q5 : List Value) => [vec 96 R_global_step.sz (.slice q2 q0.length c_q0) q0.length q5]) :: (l)) := emk hS
 have q_ := St.unbun (hS.pull 1); obtain ⟨q5, q0r, hS⟩ := q_
 have e_ := sinj hF; subst e_
 exact x_fin ⟨_, rfl, q5, rfl, q0r, ((hS.pull 1).pull 1)⟩
attribute [irreducible] P_global_queue_Swap

def P_container_heap_down_L2 (n2 : Int) : (Int × List T_global_step) → Option ((Int × List T_global_step) ⊕ (Int × List T_global_step)) := fun (q3, q2) =>
 ar ((2 : Int) * q3) fun x13 =>
 ar (x13 + 1) fun x14 =>
 lv ((decide (n2 ≤ x14)) || (decide (x14 < 0))) fun x21 =>
 if x21 = true then
  some (Sum.inr (q3, q2))
 else
  ar (x14 + 1) fun x24 =>
  bd (
   if (decide (x24 < n2)) = true then
    bd (P_global_queue_Less q2 x24 x14) fun q6 =>
    some q6
   else
    some false) fun q5 =>
  bd (
   if q5 = true then
    some x24
   else
    some x14) fun q4 =>
  bd (P_global_queue_Less q2 q4 q3) fun q7 =>
  if (!q7) = true then
   some (Sum.inr (q3, q2))
  else
   bd (P_global_queue_Swap q2 q3 q4) fun q8 =>
   some (Sum.inl (q4, q8))
def P_container_heap_down (q3 : List T_global_step) (i01 : Int) (n2 : Int) : Option (Bool × List T_global_step) :=
 bd (
  lp (P_container_heap_down_L2 n2) fuel (i01, q3)) fun (q4, q2) =>
 some (decide (i01 < q4), q2)
theorem c_container_heap_down {w0 w : World} {l : List Assn} {ρ : Heap} {q6 : Nat} {q3 : Option Addr} {q0a : Nat} {c_h0_0_0 : Nat} {q0g : List Value} {q4 : List T_global_step} {i01 : Int} {n2 : Int} {r : (Bool × List T_global_step)} (hF : P_container_heap_down q4 i01 n2 = some r) (q0n : RepL R_global_step ρ q4 q0g) (hS : St w0 w (cells q6 94 [.slice q3 q0a c_h0_0_0] :: vec 96 R_global_step.sz (.slice q3 q0a c_h0_0_0) q0a q0g :: ro ρ :: l)) :
  Calls Tryd.prog 50 #[.iface 92 (.pointer (some ⟨q6, 0, none⟩)), .int .i64 i01, .int .i64 n2] w fun e w' => ∃ (q0d : List Value), e = .returned (.bool r.1) ∧ RepL R_global_step ρ r.2 q0d ∧ St w0 w' (cells q6 94 [.slice q3 q0a c_h0_0_0] :: vec 96 R_global_step.sz (.slice q3 q0a c_h0_0_0) q0a q0d :: ro ρ :: l) := by
 have e_ := St.vec_n (hS.pull 1) q0n; subst e_
 refine enterC Tryd.func50 rfl 48 rfl (by simp) ?_
 refine x_seq <| x_region <| p (yl_assign rfl) <| x_done <|
  x_seq <| x_region <| p (yl_move rfl) <| p (yl_assign rfl) <|
  x_done <| x_seq <| ?_
 replace hF := bd_s hF; obtain ⟨oL2, hLL2, hF⟩ := hF
 refine x_join (fun E w => ∃ (q8 : List Value) (q0x : Int) (q0e : List T_global_step), (q0x, q0e) = oL2 ∧ E 1 = .int .i64 i01 ∧ E 7 = .int .i64 q0x ∧ RepL R_global_step ρ q0e q8 ∧ St w0 w (cells q6 94 [.slice q3 q4.length c_h0_0_0] :: vec 96 R_global_step.sz (.slice q3 q4.length c_h0_0_0) q4.length q8 :: ro ρ :: l)) ?_ ?_
 ·refine x_block ?_
  refine x_loop (fun k_ E w => ∃ (q2 : List Value) (q0c : Int) (q7 : List T_global_step), lp (P_container_heap_down_L2 n2) k_ (q0c, q7) = some oL2 ∧ E 0 = .iface 92 (.pointer (some ⟨q6, 0, none⟩)) ∧ E 1 = .int .i64 i01 ∧ E 2 = .int .i64 n2 ∧ E 7 = .int .i64 q0c ∧ RepL R_global_step ρ q7 q2 ∧ St w0 w (cells q6 94 [.slice q3 q4.length c_h0_0_0] :: vec 96 R_global_step.sz (.slice q3 q4.length c_h0_0_0) q4.length q2 :: ro ρ :: l)) fuel ⟨q0g, i01, q4, hLL2, rfl, rfl, rfl, rfl, q0n, (((hS.pull 2).pull 2).pull 2)⟩ ?_
  rintro kL2 E w ⟨q2, q0c, q7, hLL2, q0o, q0p, q0i, q0j, q5, hS⟩
  replace hLL2 := lp_s hLL2; obtain ⟨kL2, obL2, rfl, hFL2, hLL2⟩ := hLL2
  unfold P_container_heap_down_L2 at hFL2
  replace hFL2 := ar_s hFL2; obtain ⟨x13, hx13, hFL2⟩ := hFL2
  replace hFL2 := ar_s hFL2; obtain ⟨x14, hx14, hFL2⟩ := hFL2
  replace hFL2 := lv_s hFL2; obtain ⟨x21, hx21, hFL2⟩ := hFL2
  refine x_block <| x_seq <| x_region <| p (yl_move q0j) <|
   p (ymul rfl rfl hx13) <| p (yadd rfl rfl hx14) <| p (yl_assign rfl) <| x_done <|
   x_seq <| x_seq <| x_region <| p (yl_move rfl) <|
   p (yl_move q0i) <| p (yl_geq rfl rfl) <| p (yl_move rfl) <| pg (v := .int .i64 x14) 18 (c := !(decide (n2 ≤ x14))) (says_f _) (fun hq => Yl.at (yl_move rfl)) <|
   pg (v := .bool (decide (x14 < 0))) 18 (c := !(decide (n2 ≤ x14))) (says_f _) (fun hq => Yl.at (yl_lss (cv hq) rfl)) <| p (yor' rfl rfl (fun hc => (cv (t_not hc))) hx21) <| x_done <|
   x_cond (t := x21) rfl (fun hc21 => ?_) (fun hc21 => ?_)
  ·replace hFL2 := it_t hc21 hFL2
   refine x_exitTo _ rfl <| ?_
   have e_ := sinj hFL2; subst e_
   exact x_inv ⟨q2, q0c, q7, hLL2, q0p, q0j, q5, (((hS.pull 2).pull 2).pull 2)⟩
  ·replace hFL2 := it_bf hc21 hFL2
   replace hFL2 := ar_s hFL2; obtain ⟨x24, hx24, hFL2⟩ := hFL2
   refine x_skip <| x_seq <| x_region <| p (yl_move rfl) <|
    p (yl_assign rfl) <| x_done <| x_seq <| x_seq <|
    x_region <| p (yl_move rfl) <| p (yadd rfl rfl hx24) <| p (yl_assign rfl) <|
    x_done <| x_seq <| x_region <| p (yl_move rfl) <|
    p (yl_move q0i) <| p (yl_lss rfl rfl) <| p (yl_move rfl) <| pg (v := .iface 92 (.pointer (some ⟨q6, 0, none⟩))) 28 (c := decide (x24 < n2)) (says_t _) (fun hq => Yl.at (yl_move q0o)) <|
    pg (v := .int .i64 x24) 28 (c := decide (x24 < n2)) (says_t _) (fun hq => Yl.at (yl_move rfl)) <| pg (v := .int .i64 x14) 28 (c := decide (x24 < n2)) (says_t _) (fun hq => Yl.at (yl_move rfl)) <| ?_
   replace hFL2 := bd_s hFL2; obtain ⟨q14, q9, hFL2⟩ := hFL2
   refine x_join_ops (fun E w => ∃ (q0f : Bool), q0f = q14 ∧ E 0 = .iface 92 (.pointer (some ⟨q6, 0, none⟩)) ∧ E 1 = .int .i64 i01 ∧ E 2 = .int .i64 n2 ∧ E 7 = .int .i64 q0c ∧ E 9 = .int .i64 x14 ∧ E 10 = .int .i64 x24 ∧ E 33 = .bool q0f ∧ St w0 w (cells q6 94 [.slice q3 q4.length c_h0_0_0] :: vec 96 R_global_step.sz (.slice q3 q4.length c_h0_0_0) q4.length q2 :: ro ρ :: l)) ?_ ?_
   ·refine x_split (decide (x24 < n2)) (fun q0b => ?_) (fun q0b => ?_)
    ·replace q9 := it_t q0b q9
     replace q9 := bd_s q9; obtain ⟨q12, q15, q9⟩ := q9
     refine o_strip 28 true (says_lit (c := true) (Eq.trans (show _ = Value.bool (decide (x24 < n2)) from rfl) (congrArg Value.bool q0b)) rfl) <| ?_
     have q_ := St.lend ((hS.pull 2).pull 2) q5; obtain ⟨ρl0, hll0, hlf0, hS0, back0⟩ := q_
     have hcall := c_global_queue_Less q15 hlf0 hS0
     refine o_ccr (run_calll (Eq.trans (show _ = (bif decide (x24 < n2) then .iface 92 (.pointer (some ⟨q6, 0, none⟩)) else undef) from rfl) (cv q0b)) meth_92_Less (hS.cell rfl) call_76 (args2 (Eq.trans (show _ = (bif decide (x24 < n2) then .int .i64 x24 else undef) from rfl) (cv q0b)) (Eq.trans (show _ = (bif decide (x24 < n2) then .int .i64 x14 else undef) from rfl) (cv q0b)))) ((Calls.mono hcall (fun e w'' h => And.intro h.1 ((((back0 h.2).pull 1).pull 1).pull 2)))) ?_
     rintro e w' ⟨rfl, hS⟩
     refine ⟨_, rfl, ?_⟩
     refine p (v := .bool q12) (yl_pick (b := true) (Eq.trans (show _ = Value.bool (decide (x24 < n2)) from rfl) (congrArg Value.bool q0b)) (fun h => rfl) (fun h => nomatch h)) <| x_done <| ?_
     exact x_inv ⟨q12, (sinj q9), q0o, q0p, q0i, q0j, rfl, rfl, rfl, (((hS.pull 2).pull 2).pull 2)⟩
    ·replace q9 := it_bf q0b q9
     refine o_pass 32 28 true (says_lit (c := false) (Eq.trans (show _ = Value.bool (decide (x24 < n2)) from rfl) (congrArg Value.bool q0b)) rfl) <| p (yl_pick (b := false) (Eq.trans (show _ = Value.bool (decide (x24 < n2)) from rfl) (congrArg Value.bool q0b)) (fun h => nomatch h) (fun h => rfl)) <| x_done <| ?_
     exact x_inv ⟨false, (sinj q9), q0o, q0p, q0i, q0j, rfl, rfl, rfl, (((hS.pull 2).pull 2).pull 2)⟩
   rintro E w ⟨q0f, rfl, q0t, q0u, q0v, q0w, q11, q0z, q10, hS⟩
   replace hFL2 := bd_s hFL2; obtain ⟨oc33, hFc33, hFL2⟩ := hFL2
   refine x_join (fun E w => ∃ (q0k : Int), q0k = oc33 ∧ E 0 = .iface 92 (.pointer (some ⟨q6, 0, none⟩)) ∧ E 1 = .int .i64 i01 ∧ E 2 = .int .i64 n2 ∧ E 7 = .int .i64 q0c ∧ E 9 = .int .i64 q0k ∧ St w0 w (cells q6 94 [.slice q3 q4.length c_h0_0_0] :: vec 96 R_global_step.sz (.slice q3 q4.length c_h0_0_0) q4.length q2 :: ro ρ :: l)) ?_ ?_
   ·refine x_cond (t := q0f) q10 (fun hc33 => ?_) (fun hc33 => ?_)
    ·replace hFc33 := it_t hc33 hFc33
     refine x_region <| p (yl_move q0z) <| p (yl_assign rfl) <| x_done <| ?_
     exact x_inv ⟨x24, (sinj hFc33), q0t, q0u, q0v, q0w, rfl, (((hS.pull 2).pull 2).pull 2)⟩
    ·replace hFc33 := it_bf hc33 hFc33
     refine x_skip <| ?_
     exact x_inv ⟨x14, (sinj hFc33), q0t, q0u, q0v, q0w, q11, (((hS.pull 2).pull 2).pull 2)⟩
   rintro E w ⟨q0k, rfl, q0q, q0y, q13, q0r, q0s, hS⟩
   replace hFL2 := bd_s hFL2; obtain ⟨q1a, q16, hFL2⟩ := hFL2
   refine x_seq <| x_seq <| x_region <| p (yl_move q0q) <|
    p (yl_move q0s) <| p (yl_move q0r) <| ?_
   have q_ := St.lend ((hS.pull 2).pull 2) q5; obtain ⟨ρl0, hll0, hlf0, hS0, back0⟩ := q_
   have hcall := c_global_queue_Less q16 hlf0 hS0
   refine o_ccr (run_calll rfl meth_92_Less (hS.cell rfl) call_76 (args2 rfl rfl)) ((Calls.mono hcall (fun e w'' h => And.intro h.1 ((((back0 h.2).pull 1).pull 1).pull 2)))) ?_
   rintro e w' ⟨rfl, hS⟩
   refine ⟨_, rfl, ?_⟩
   refine p (yl_not rfl) <| x_done <|
    x_cond (t := !q1a) rfl (fun hc39 => ?_) (fun hc39 => ?_)
   ·replace hFL2 := it_t hc39 hFL2
    refine x_exitTo _ rfl <| ?_
    have e_ := sinj hFL2; subst e_
    exact x_inv ⟨q2, q0c, q7, hLL2, q0y, q0r, q5, (((hS.pull 2).pull 2).pull 2)⟩
   ·replace hFL2 := it_bf hc39 hFL2
    replace hFL2 := bd_s hFL2; obtain ⟨q1b, q17, hFL2⟩ := hFL2
    refine x_skip <| x_seq <| x_region <| p (yl_move q0q) <|
     p (yl_move q0r) <| p (yl_move q0s) <| ?_
    have hcall := c_global_queue_Swap q17 q5 ((hS.pull 2).pull 2)
    refine o_ccr (run_calll rfl meth_92_Swap (hS.cell rfl) call_79 (args2 rfl rfl)) hcall ?_
    rintro e w' ⟨q0h, rfl, q0l, hS⟩
    refine ⟨_, rfl, ?_⟩
    refine x_done <| x_region <| p (yl_move q0s) <| p (yl_assign rfl) <|
     x_done <| x_blk <| ?_
    have e_ := sinj hFL2; subst e_
    exact x_inv ⟨kL2, Nat.lt_succ_self _, q0h, q0k, q1b, hLL2, q0q, q0y, q13, rfl, q0l, (((hS.pull 1).pull 1).pull 2)⟩
 rintro E w ⟨q8, q0x, q0e, rfl, q18, q19, q0m, hS⟩
 refine x_seq <| x_region <| p (yl_move q19) <| p (yl_move q18) <|
  p (yl_gtr rfl rfl) <| p (yl_assign rfl) <| x_done <| ?_
 have e_ := sinj hF; subst e_
 exact x_return ⟨_, ⟨_, _, rfl, rfl, rfl⟩, q8, rfl, q0m, (((hS.pull 2).pull 2).pull 2)⟩
attribute [irreducible] P_container_heap_down

def P_container_heap_Init_L2 (q4 : List T_global_step) : (Int × List T_global_step) → Option ((Int × List T_global_step) ⊕ List T_global_step) := fun (q3, q2) =>
 if 0 ≤ q3 then
  bd (P_container_heap_down q2 q3 (q4.length : Int)) fun q5 =>
  ar (q3 - 1) fun x12 =>
  some (Sum.inl (x12, q5.2))
 else
  some (Sum.inr q2)
def P_container_heap_Init (q2 : List T_global_step) : Option (List T_global_step) :=
 bd (P_global_queue_Len q2) fun q4 =>
 ck ((2 : Int) ≠ 0) <|
 ar (Int.tdiv (q2.length : Int) 2) fun x7 =>
 ar (x7 - 1) fun x8 =>
 bd (
  lp (P_container_heap_Init_L2 q2) fuel (x8, q2)) fun q3 =>
 some q3
theorem c_container_heap_Init {w0 w : World} {l : List Assn} {ρ : Heap} {q0a : Nat} {q4 : Option Addr} {q7 : Nat} {c_h0_0_0 : Nat} {q0d : List Value} {q2 : List T_global_step} {r : List T_global_step} (hF : P_container_heap_Init q2 = some r) (q0f : RepL R_global_step ρ q2 q0d) (hS : St w0 w (cells q0a 94 [.slice q4 q7 c_h0_0_0] :: vec 96 R_global_step.sz (.slice q4 q7 c_h0_0_0) q7 q0d :: ro ρ :: l)) :
  Calls Tryd.prog 39 #[.iface 92 (.pointer (some ⟨q0a, 0, none⟩))] w fun e w' => ∃ (q8 : List Value), e = .returned (.tuple #[]) ∧ RepL R_global_step ρ r q8 ∧ St w0 w' (cells q0a 94 [.slice q4 q7 c_h0_0_0] :: vec 96 R_global_step.sz (.slice q4 q7 c_h0_0_0) q7 q8 :: ro ρ :: l) := by
 have e_ := St.vec_n (hS.pull 1) q0f; subst e_
 refine enterC Tryd.func39 rfl 17 rfl (by simp) ?_
 replace hF := bd_s hF; obtain ⟨q0p, q0l, hF⟩ := hF
 refine x_seq <| x_region <| p (yl_move rfl) <| ?_
 have q_ := St.lend ((hS.pull 2).pull 2) q0f; obtain ⟨ρl0, hll0, hlf0, hS0, back0⟩ := q_
 have hcall := c_global_queue_Len q0l hlf0 hS0
 refine o_ccr (run_calll rfl meth_92_Len (hS.cell rfl) call_40 args0) ((Calls.mono hcall (fun e w'' h => And.intro h.1 ((((back0 h.2).pull 1).pull 1).pull 2)))) ?_
 rintro e w' ⟨rfl, hS⟩
 refine ⟨_, rfl, ?_⟩
 replace hF := ck_s hF; obtain ⟨q0m, hF⟩ := hF
 replace hF := ar_s hF; obtain ⟨x7, hx7, hF⟩ := hF
 replace hF := ar_s hF; obtain ⟨x8, hx8, hF⟩ := hF
 refine p (v := .int .i64 (q2.length : Int)) (yl_assign rfl) <| x_done <| x_seq <| x_region <|
  p (v := .int .i64 (q2.length : Int)) (yl_move rfl) <| p (yquo rfl rfl q0m hx7) <| p (ysub rfl rfl hx8) <| p (yl_assign rfl) <|
  x_done <| ?_
 replace hF := bd_s hF; obtain ⟨oL2, hLL2, hF⟩ := hF
 refine x_join (fun E w => ∃ (q5 : List Value) (q9 : List T_global_step), q9 = oL2 ∧ RepL R_global_step ρ q9 q5 ∧ St w0 w (cells q0a 94 [.slice q4 q2.length c_h0_0_0] :: vec 96 R_global_step.sz (.slice q4 q2.length c_h0_0_0) q2.length q5 :: ro ρ :: l)) ?_ ?_
 ·refine x_block ?_
  refine x_loop (fun k_ E w => ∃ (q3 : List Value) (q0g : Int) (q6 : List T_global_step), lp (P_container_heap_Init_L2 q2) k_ (q0g, q6) = some oL2 ∧ E 0 = .iface 92 (.pointer (some ⟨q0a, 0, none⟩)) ∧ E 2 = .int .i64 (q2.length : Int) ∧ E 3 = .int .i64 q0g ∧ RepL R_global_step ρ q6 q3 ∧ St w0 w (cells q0a 94 [.slice q4 q2.length c_h0_0_0] :: vec 96 R_global_step.sz (.slice q4 q2.length c_h0_0_0) q2.length q3 :: ro ρ :: l)) fuel ⟨q0d, x8, q2, hLL2, rfl, rfl, rfl, q0f, (((hS.pull 2).pull 2).pull 2)⟩ ?_
  rintro kL2 E w ⟨q3, q0g, q6, hLL2, q0j, q0k, q0i, q0b, hS⟩
  replace hLL2 := lp_s hLL2; obtain ⟨kL2, obL2, rfl, hFL2, hLL2⟩ := hLL2
  refine x_seq <| x_seq <| x_region <| p (yl_move q0i) <|
   p (yl_geq rfl rfl) <| x_done <|
   x_cond_p (0 ≤ q0g) rfl (fun hc10 => ?_) (fun hc10 => ?_)
  ·replace hFL2 := it_t hc10 hFL2
   replace hFL2 := bd_s hFL2; obtain ⟨q0o, q0n, hFL2⟩ := hFL2
   refine x_skip <| x_seq <| x_block <| x_region <|
    p (yl_move q0j) <| p (yl_move q0i) <| p (v := .int .i64 (q2.length : Int)) (yl_move q0k) <| ?_
   have hcall := c_container_heap_down q0n q0b (((hS.pull 2).pull 2).pull 2)
   refine o_cc call_50 (args3 rfl rfl rfl) hcall ?_
   rintro e w' ⟨q0c, rfl, q0e, hS⟩
   refine ⟨_, rfl, ?_⟩
   replace hFL2 := ar_s hFL2; obtain ⟨x12, hx12, hFL2⟩ := hFL2
   refine x_done <| x_blk <| x_region <| p (yl_move q0i) <|
    p (ysub rfl rfl hx12) <| p (yl_assign rfl) <| x_done <| ?_
   have e_ := sinj hFL2; subst e_
   exact x_inv ⟨kL2, Nat.lt_succ_self _, q0c, x12, q0o.2, hLL2, q0j, q0k, rfl, q0e, (((hS.pull 2).pull 2).pull 2)⟩
  ·replace hFL2 := it_f hc10 hFL2
   refine x_exitTo _ rfl <| ?_
   have e_ := sinj hFL2; subst e_
   exact x_inv ⟨q3, q6, hLL2, q0b, (((hS.pull 2).pull 2).pull 2)⟩
 rintro E w ⟨q5, q9, rfl, q0h, hS⟩
 have e_ := sinj hF; subst e_
 exact x_fin ⟨_, rfl, q5, rfl, q0h, (((hS.pull 2).pull 2).pull 2)⟩
attribute [irreducible] P_container_heap_Init

def P_global_queue_Pop (q2 : List T_global_step) : Option (T_global_step × List T_global_step) :=
 ar ((q2.length : Int) - 1) fun x11 =>
 ck (inb x11 q2.length) <|
 lv (gt q2 x11) fun q3 =>
 ar ((q2.length : Int) - 1) fun x18 =>
 ck (0 ≤ x18 ∧ x18 ≤ q2.length) <|
 lv (q2.take (x18 : Int).toNat) fun x19 =>
 some (q3, x19)
theorem c_global_queue_Pop {w0 w : World} {l : List Assn} {ρ : Heap} {q0a : Nat} {q6 : Option Addr} {q8 : Nat} {c_q0_0 : Nat} {q9 : List Value} {q0e : List T_global_step} {r : (T_global_step × List T_global_step)} (hF : P_global_queue_Pop q0e = some r) (q7 : RepL R_global_step ρ q0e q9) (hS : St w0 w (cells q0a 94 [.slice q6 q8 c_q0_0] :: vec 96 R_global_step.sz (.slice q6 q8 c_q0_0) q8 q9 :: ro ρ :: l)) :
  Calls Tryd.prog 77 #[.pointer (some ⟨q0a, 0, none⟩)] w fun e w' => ∃ (q5 : Option Addr) (q3 : Nat) (c_b_q0_0_ret : Nat) (q4 : List Value), e = .returned (.iface 96 (.agg #[.int .i64 r.1.fat, .int .i64 r.1.fcost, .int .i64 r.1.ffrom])) ∧ RepL R_global_step ρ r.2 q4 ∧ St w0 w' (cells q0a 94 [.slice q5 q3 c_b_q0_0_ret] :: vec 96 R_global_step.sz (.slice q5 q3 c_b_q0_0_ret) q3 q4 :: ro ρ :: l) := by
 have e_ := St.vec_n (hS.pull 1) q7; subst e_
 refine enterC Tryd.func77 rfl 23 rfl (by simp) ?_
 replace hF := ar_s hF; obtain ⟨x11, hx11, hF⟩ := hF
 replace hF := ck_s hF; obtain ⟨q0b, hF⟩ := hF
 replace hF := lv_s hF; obtain ⟨q2, q0f, hF⟩ := hF
 have q_ := q7.get q0b; obtain ⟨q0h, q0c, q0g⟩ := q_
 rw [← q0f] at q0c
 have e_ := q0c; subst e_
 refine x_seq <| x_region <| p (yl_assign rfl) <| x_done <|
  x_seq <| x_region <| p (yl_move rfl) <| p (yl_nilCheck rfl) <|
  pa (at_load one_94 rfl (hS.cell rfl)) <| p (yl_assign rfl) <| x_done <| x_seq <|
  x_region <| p (yl_move rfl) <| p (yl_move rfl) <| p (yl_len_slice usl_94 rfl) <|
  p (ysub rfl rfl hx11) <| p (yix_o sl_94 rfl rfl (hS.pull 1) q7 q0b) <| pa (v := .agg #[.int .i64 q2.fat, .int .i64 q2.fcost, .int .i64 q2.ffrom]) (at_loadAgg agg_96 rfl rfl (EltV.every q0g (hS.pull 1))) <| ?_
 refine o_alloc zero_96 hS (fun b4 w' hS => ?_)
 refine o_storeAgg (news := [.int .i64 q2.fat, .int .i64 q2.fcost, .int .i64 q2.ffrom]) agg_96 rfl rfl rfl (by simp [over_length]) hS (fun w' hS => ?_)
 replace hF := ar_s hF; obtain ⟨x18, hx18, hF⟩ := hF
 replace hF := ck_s hF; obtain ⟨q0d, hF⟩ := hF
 replace hF := lv_s hF; obtain ⟨x19, hx19, hF⟩ := hF
 refine x_done <| x_seq <| x_region <| p (yl_move rfl) <|
  p (yl_move rfl) <| p (yl_move rfl) <| p (yl_len_slice usl_94 rfl) <| p (ysub rfl rfl hx18) <|
  p (ycut sl_94 rfl rfl (hS.pull 2) q0d hx19 rfl) <| ?_
 have q_ := St.vec_cut (hS.pull 2) q7 q0d hx19 rfl; obtain ⟨cs19, hr19, hS⟩ := q_
 refine p (yl_nilCheck rfl) <| ?_
 refine o_store1 (v := .slice q6 x19.length c_q0_0) one_94 rfl rfl rfl rfl (hS.pull 2) (fun w' hS => ?_)
 refine x_done <| x_seq <| x_region <| pa (v := .agg #[.int .i64 q2.fat, .int .i64 q2.fcost, .int .i64 q2.ffrom]) (ld_sub agg_96 rfl rfl rfl (hS.pull 2)) <|
  p (v := .iface 96 (.agg #[.int .i64 q2.fat, .int .i64 q2.fcost, .int .i64 q2.ffrom])) (yl_iface conc_96 rfl) <| p (v := .iface 96 (.agg #[.int .i64 q2.fat, .int .i64 q2.fcost, .int .i64 q2.ffrom])) (yl_assign rfl) <| x_done <| ?_
 have e_ := sinj hF; subst e_
 exact x_return ⟨_, ⟨_, _, rfl, rfl, rfl⟩, q6, x19.length, c_q0_0, cs19, rfl, hr19, ((((hS.pull 2).drop.pull 2).pull 2).pull 2)⟩
attribute [irreducible] P_global_queue_Pop

def P_container_heap_Pop (q2 : List T_global_step) : Option (T_global_step × List T_global_step) :=
 bd (P_global_queue_Len q2) fun q6 =>
 ar ((q2.length : Int) - 1) fun x6 =>
 bd (P_global_queue_Swap q2 0 x6) fun q4 =>
 bd (P_container_heap_down q4 0 x6) fun q5 =>
 bd (P_global_queue_Pop q5.2) fun q3 =>
 some (q3.1, q3.2)
theorem c_container_heap_Pop {w0 w : World} {l : List Assn} {ρ : Heap} {q0d : Nat} {q0e : Option Addr} {q8 : Nat} {c_h0_0_0 : Nat} {q0c : List Value} {q0g : List T_global_step} {r : (T_global_step × List T_global_step)} (hF : P_container_heap_Pop q0g = some r) (q9 : RepL R_global_step ρ q0g q0c) (hS : St w0 w (cells q0d 94 [.slice q0e q8 c_h0_0_0] :: vec 96 R_global_step.sz (.slice q0e q8 c_h0_0_0) q8 q0c :: ro ρ :: l)) :
  Calls Tryd.prog 41 #[.iface 92 (.pointer (some ⟨q0d, 0, none⟩))] w fun e w' => ∃ (q5 : Option Addr) (q2 : Nat) (c_b_h0_0_0_ret : Nat) (q4 : List Value), e = .returned (.iface 96 (.agg #[.int .i64 r.1.fat, .int .i64 r.1.fcost, .int .i64 r.1.ffrom])) ∧ RepL R_global_step ρ r.2 q4 ∧ St w0 w' (cells q0d 94 [.slice q5 q2 c_b_h0_0_0_ret] :: vec 96 R_global_step.sz (.slice q5 q2 c_b_h0_0_0_ret) q2 q4 :: ro ρ :: l) := by
 have e_ := St.vec_n (hS.pull 1) q9; subst e_
 refine enterC Tryd.func41 rfl 15 rfl (by simp) ?_
 replace hF := bd_s hF; obtain ⟨q0o, q0j, hF⟩ := hF
 refine x_seq <| x_region <| p (yl_assign rfl) <| x_done <|
  x_seq <| x_region <| p (yl_move rfl) <| ?_
 have q_ := St.lend ((hS.pull 2).pull 2) q9; obtain ⟨ρl0, hll0, hlf0, hS0, back0⟩ := q_
 have hcall := c_global_queue_Len q0j hlf0 hS0
 refine o_ccr (run_calll rfl meth_92_Len (hS.cell rfl) call_40 args0) ((Calls.mono hcall (fun e w'' h => And.intro h.1 ((((back0 h.2).pull 1).pull 1).pull 2)))) ?_
 rintro e w' ⟨rfl, hS⟩
 refine ⟨_, rfl, ?_⟩
 replace hF := ar_s hF; obtain ⟨x6, hx6, hF⟩ := hF
 replace hF := bd_s hF; obtain ⟨q0p, q0k, hF⟩ := hF
 refine p (ysub rfl rfl hx6) <| p (yl_assign rfl) <| x_done <| x_seq <|
  x_region <| p (yl_move rfl) <| p (yl_move rfl) <| ?_
 have hcall := c_global_queue_Swap q0k q9 ((hS.pull 2).pull 2)
 refine o_ccr (run_calll rfl meth_92_Swap (hS.cell rfl) call_79 (args2 rfl rfl)) hcall ?_
 rintro e w' ⟨q0h, rfl, q0b, hS⟩
 refine ⟨_, rfl, ?_⟩
 replace hF := bd_s hF; obtain ⟨q0q, q0l, hF⟩ := hF
 refine x_done <| x_seq <| x_region <| p (yl_move rfl) <|
  p (yl_move rfl) <| ?_
 have hcall := c_container_heap_down q0l q0b (((hS.pull 1).pull 1).pull 2)
 refine o_cc call_50 (args3 rfl rfl rfl) hcall ?_
 rintro e w' ⟨q0f, rfl, q6, hS⟩
 refine ⟨_, rfl, ?_⟩
 replace hF := bd_s hF; obtain ⟨q0n, q0m, hF⟩ := hF
 refine x_done <| x_seq <| x_region <| p (yl_move rfl) <| ?_
 have hcall := c_global_queue_Pop q0m q6 (((hS.pull 2).pull 2).pull 2)
 refine o_ccr (run_calli rfl meth_92_Pop call_77 args0) hcall ?_
 rintro e w' ⟨q0a, q0i, c_b_q0_0_ret_4_1, q7, rfl, q3, hS⟩
 refine ⟨_, rfl, ?_⟩
 have e_ := St.vec_n (hS.pull 1) q3; subst e_
 refine p (yl_assign rfl) <| x_done <| ?_
 have e_ := sinj hF; subst e_
 exact x_return ⟨_, ⟨_, _, rfl, rfl, rfl⟩, q0a, q0n.2.length, c_b_q0_0_ret_4_1, q7, rfl, q3, (((hS.pull 2).pull 2).pull 2)⟩
attribute [irreducible] P_container_heap_Pop

def P_global_edge (a0 : Int) (b1 : Int) : Option T_global_Edge :=
 lv (min a0 b1) fun x7 =>
 lv (max a0 b1) fun x10 =>
 some (T_global_Edge.mk x7 x10)
theorem c_global_edge {w0 w : World} {l : List Assn} {ρ : Heap} {a0 : Int} {b1 : Int} {r : T_global_Edge} (hF : P_global_edge a0 b1 = some r) (hS : St w0 w (ro ρ :: l)) :
  Calls Tryd.prog 42 #[.int .i64 a0, .int .i64 b1] w fun e w' => e = .returned (.agg #[.int .i64 r.From, .int .i64 r.To]) ∧ St w0 w' (ro ρ :: l) := by
 refine enterC Tryd.func42 rfl 12 rfl (by simp) ?_
 refine x_seq <| x_region <| ?_
 refine o_alloc zero_53 hS (fun b4 w' hS => ?_)
 replace hF := lv_s hF; obtain ⟨x7, hx7, hF⟩ := hF
 replace hF := lv_s hF; obtain ⟨x10, hx10, hF⟩ := hF
 refine x_done <| x_seq <| x_region <| p (yl_move rfl) <|
  p (yl_move rfl) <| p (ymin' rfl rfl hx7) <| p (yl_move rfl) <| p (yl_move rfl) <|
  p (ymax' rfl rfl hx10) <| p (v := .agg #[.int .i64 x7, .int .i64 x10]) (yl_build bld_53 bldf_53 (parts_eq (pt (va := .int .i64 x7) rfl (pt (va := .int .i64 x10) rfl pt0))) (by kernel_rfl)) <| ?_
 refine o_storeAgg (news := [.int .i64 x7, .int .i64 x10]) agg_53 rfl rfl rfl (by simp [over_length]) hS (fun w' hS => ?_)
 refine x_done <| ?_
 have e_ := sinj hF; subst e_
 exact x_return ⟨_, ⟨_, _, _, rfl, rfl, ldvA agg_53 rfl (fun j v hj => by rw [add0]; exact St.cell hS hj), rfl⟩, rfl, hS.drop⟩
attribute [irreducible] P_global_edge

def P_global_plan_beside (q0b : Int) (q0c : Int) (q0d : Int) (q0e : List T_floor_Block) (q0f : List T_floor_Wall) (q0g : List T_floor_Port) (q0h : List (T_global_Edge × Int)) (q0i : List (T_global_Edge × Int)) (q0j : List (T_global_Edge × Int)) (k1 : Int) : Option (List Int) :=
 bd (P_global_Grid (T_floor_Floor.mk q0b q0c q0d q0e q0f q0g)) fun q2 =>
 ck (q2.1 ≠ 0) <|
 lv (Int.tmod k1 q2.1) fun x18 =>
 bd (
  if 0 < x18 then
   ar (k1 - 1) fun x22 =>
   lv ([x22]) fun q8 =>
   ck (apOk 8 q8.length) <|
   some q8
  else
   some []) fun q3 =>
 ck (q2.1 ≠ 0) <|
 lv (Int.tmod k1 q2.1) fun x27 =>
 ar (x27 + 1) fun x28 =>
 bd (
  if x28 < q2.1 then
   ar (k1 + 1) fun x33 =>
   lv (q3 ++ [x33]) fun q9 =>
   ck (apOk 8 q9.length) <|
   some q9
  else
   some q3) fun q4 =>
 bd (
  if q2.1 ≤ k1 then
   ar (k1 - q2.1) fun x42 =>
   lv (q4 ++ [x42]) fun q0a =>
   ck (apOk 8 q0a.length) <|
   some q0a
  else
   some q4) fun q5 =>
 ar (k1 + q2.1) fun x47 =>
 ar (q2.1 * q2.2) fun x50 =>
 bd (
  if x47 < x50 then
   ar (k1 + q2.1) fun x55 =>
   lv (q5 ++ [x55]) fun q7 =>
   ck (apOk 8 q7.length) <|
   some q7
  else
   some q5) fun q6 =>
 some q6
theorem c_global_plan_beside {w0 w : World} {l : List Assn} {ρ : Heap} {q0v : Nat} {q9 : Option Addr} {q1a : Nat} {c_p0_3 : Nat} {q0a : Option Addr} {q1b : Nat} {c_p0_4 : Nat} {q0b : Option Addr} {q1c : Nat} {c_p0_5 : Nat} {q2 : Nat} {q3 : Nat} {q4 : Nat} {q0s : Int} {q0t : Int} {q0u : Int} {q0w : List T_floor_Block} {q0x : List T_floor_Wall} {q0y : List T_floor_Port} {q0z : List (T_global_Edge × Int)} {q10 : List (T_global_Edge × Int)} {q11 : List (T_global_Edge × Int)} {k1 : Int} {r : List Int} (hF : P_global_plan_beside q0s q0t q0u q0w q0x q0y q0z q10 q11 k1 = some r) (q1f : RdS R_floor_Block ρ q9 q1a c_p0_3 q0w) (q1g : RdS R_floor_Wall ρ q0a q1b c_p0_4 q0x) (q1h : RdS R_floor_Port ρ q0b q1c c_p0_5 q0y) (hS : St w0 w (cells q0v 73 [.int .i64 q0s, .int .i64 q0t, .int .i64 q0u, .slice q9 q1a c_p0_3, .slice q0a q1b c_p0_4, .slice q0b q1c c_p0_5, .map (some q2), .map (some q3), .map (some q4)] :: mapA q2 kf_53 (Value.int .i64) q0z :: mapA q3 kf_53 (Value.int .i64) q10 :: mapA q4 kf_53 (Value.int .i64) q11 :: ro ρ :: l)) :
  Calls Tryd.prog 43 #[.pointer (some ⟨q0v, 0, none⟩), .int .i64 k1] w fun e w' => ∃ (q1d : Option Addr) (q12 : Nat) (c_y0_ret : Nat) (q19 : List Value), e = .returned (.slice q1d q12 c_y0_ret) ∧ RepL (RpI .i64) ρ r q19 ∧ St w0 w' (vec 3 (RpI .i64).sz (.slice q1d q12 c_y0_ret) q12 q19 :: cells q0v 73 [.int .i64 q0s, .int .i64 q0t, .int .i64 q0u, .slice q9 q1a c_p0_3, .slice q0a q1b c_p0_4, .slice q0b q1c c_p0_5, .map (some q2), .map (some q3), .map (some q4)] :: mapA q2 kf_53 (Value.int .i64) q0z :: mapA q3 kf_53 (Value.int .i64) q10 :: mapA q4 kf_53 (Value.int .i64) q11 :: ro ρ :: l) := by
 have e_ := q1f.n; subst e_
 have e_ := q1g.n; subst e_
 have e_ := q1h.n; subst e_
 refine enterC Tryd.func43 rfl 59 rfl (by simp) ?_
 replace hF := bd_s hF; obtain ⟨q0n, q1w, hF⟩ := hF
 refine x_seq <| x_region <| p (yl_assign rfl) <| x_done <|
  x_seq <| x_region <| p (yl_move rfl) <| p (yl_nilCheck rfl) <|
  p (yl_field0 fld_73_0 rfl) <| pa (v := .agg #[.int .i64 q0s, .int .i64 q0t, .int .i64 q0u, .slice q9 q0w.length c_p0_3, .slice q0a q0x.length c_p0_4, .slice q0b q0y.length c_p0_5]) (ld_sub agg_30 rfl rfl rfl hS) <| ?_
 have hcall := c_global_Grid q1w q1f q1g q1h (hS.pull 4)
 refine o_cc call_30 (args1 rfl) ((Calls.mono hcall (fun e w'' h => And.intro h.1 ((((h.2.pull 4).pull 4).pull 4).pull 4)))) ?_
 rintro e w' ⟨rfl, hS⟩
 refine ⟨_, rfl, ?_⟩
 replace hF := ck_s hF; obtain ⟨q1x, hF⟩ := hF
 replace hF := lv_s hF; obtain ⟨x18, hx18, hF⟩ := hF
 refine p (v := .tuple #[.int .i64 q0n.1, .int .i64 q0n.2]) (yl_move rfl) <| p (yl_extract rfl rfl) <| p (yl_extract rfl rfl) <| p (yl_assign rfl) <|
  p (yl_assign rfl) <| x_done <| x_seq <| x_region <|
  p (yl_assign rfl) <| x_done <| x_seq <| x_seq <|
  x_region <| p (yl_move rfl) <| p (yl_move rfl) <| p (yrem rfl rfl q1x hx18) <|
  p (yl_gtr rfl rfl) <| x_done <| ?_
 replace hF := bd_s hF; obtain ⟨oc19, hFc19, hF⟩ := hF
 refine x_join (fun E w => ∃ (q0c : Option Addr) (q0d : Nat) (c_out7_c19 : Nat) (q5 : List Value) (q0k : List Int), q0k = oc19 ∧ E 1 = .int .i64 k1 ∧ E 5 = .int .i64 q0n.1 ∧ E 6 = .int .i64 q0n.2 ∧ E 7 = .slice q0c q0d c_out7_c19 ∧ RepL (RpI .i64) ρ q0k q5 ∧ St w0 w (vec 3 (RpI .i64).sz (.slice q0c q0d c_out7_c19) q0d q5 :: cells q0v 73 [.int .i64 q0s, .int .i64 q0t, .int .i64 q0u, .slice q9 q0w.length c_p0_3, .slice q0a q0x.length c_p0_4, .slice q0b q0y.length c_p0_5, .map (some q2), .map (some q3), .map (some q4)] :: mapA q2 kf_53 (Value.int .i64) q0z :: mapA q3 kf_53 (Value.int .i64) q10 :: mapA q4 kf_53 (Value.int .i64) q11 :: ro ρ :: l)) ?_ ?_
 ·refine x_cond_p (0 < x18) rfl (fun hc19 => ?_) (fun hc19 => ?_)
  ·replace hFc19 := it_t hc19 hFc19
   replace hFc19 := ar_s hFc19; obtain ⟨x22, hx22, hFc19⟩ := hFc19
   refine x_region <| p (yl_move rfl) <| p (yl_move rfl) <| p (ysub rfl rfl hx22) <| ?_
   refine o_buildSlice (vs := [.int .i64 x22]) (cs := [.int .i64 x22]) sl_22 zero_3 (parts_eq (pt (va := .int .i64 x22) rfl pt0)) rfl (by intro v hv; simp only [List.mem_cons, List.not_mem_nil, or_false] at hv; first | (subst hv; rfl) | (rcases hv with rfl <;> rfl)) (by decide) rfl hS (fun b23 w' hS => ?_)
   replace hS := St.vec_nil hS 3 (RpI .i64).sz
   have hn24 : RepL (RpI .i64) ρ [] [] := rfl
   replace hFc19 := lv_s hFc19; obtain ⟨q1o, q1y, hFc19⟩ := hFc19
   replace hFc19 := ck_s hFc19; obtain ⟨q1z, hFc19⟩ := hFc19
   refine o_ap sl_22 zero_3 rfl (by decide) rfl rfl hS hn24 (src_blk usl_22 (hS.pull 1) rfl rfl) (RepL.cons (R := (RpI .i64)) (ρ := ρ) (x := x22) (cs := [.int .i64 x22]) rfl RepL.nil) (q1y : q1o = [] ++ _) q1z (fun A24 c24 cs24 w' hr24 hS => ?_)
   refine p (yl_assign rfl) <| x_done <| ?_
   exact x_inv ⟨A24, q1o.length, c24, cs24, q1o, (sinj hFc19), rfl, rfl, rfl, rfl, hr24, (((((((hS.pull 1).drop.pull 5).pull 5).pull 5).pull 5).pull 5).pull 5)⟩
  ·replace hFc19 := it_f hc19 hFc19
   refine x_skip <| ?_
   replace hS := St.vec_nil hS 3 (RpI .i64).sz
   have q13 : RepL (RpI .i64) ρ [] [] := rfl
   exact x_inv ⟨none, 0, 0, [], [], (sinj hFc19), rfl, rfl, rfl, rfl, q13, ((((((hS.pull 5).pull 5).pull 5).pull 5).pull 5).pull 5)⟩
 rintro E w ⟨q0c, q0d, c_out7_c19, q5, q0k, rfl, q14, q15, q1i, q1j, q0o, hS⟩
 have e_ := St.vec_n hS q0o; subst e_
 replace hF := ck_s hF; obtain ⟨q20, hF⟩ := hF
 replace hF := lv_s hF; obtain ⟨x27, hx27, hF⟩ := hF
 replace hF := ar_s hF; obtain ⟨x28, hx28, hF⟩ := hF
 refine x_seq <| x_seq <| x_region <| p (yl_move q14) <|
  p (yl_move q15) <| p (yrem rfl rfl q20 hx27) <| p (yadd rfl rfl hx28) <| p (yl_move q15) <|
  p (yl_lss rfl rfl) <| x_done <| ?_
 replace hF := bd_s hF; obtain ⟨oc30, hFc30, hF⟩ := hF
 refine x_join (fun E w => ∃ (q0e : Option Addr) (q0f : Nat) (c_out7_c30 : Nat) (q6 : List Value) (q0l : List Int), q0l = oc30 ∧ E 1 = .int .i64 k1 ∧ E 5 = .int .i64 q0n.1 ∧ E 6 = .int .i64 q0n.2 ∧ E 7 = .slice q0e q0f c_out7_c30 ∧ RepL (RpI .i64) ρ q0l q6 ∧ St w0 w (vec 3 (RpI .i64).sz (.slice q0e q0f c_out7_c30) q0f q6 :: cells q0v 73 [.int .i64 q0s, .int .i64 q0t, .int .i64 q0u, .slice q9 q0w.length c_p0_3, .slice q0a q0x.length c_p0_4, .slice q0b q0y.length c_p0_5, .map (some q2), .map (some q3), .map (some q4)] :: mapA q2 kf_53 (Value.int .i64) q0z :: mapA q3 kf_53 (Value.int .i64) q10 :: mapA q4 kf_53 (Value.int .i64) q11 :: ro ρ :: l)) ?_ ?_
 ·refine x_cond_p (x28 < q0n.1) rfl (fun hc30 => ?_) (fun hc30 => ?_)
  ·replace hFc30 := it_t hc30 hFc30
   replace hFc30 := ar_s hFc30; obtain ⟨x33, hx33, hFc30⟩ := hFc30
   refine x_region <| p (yl_move q1j) <| p (yl_move q14) <| p (yadd rfl rfl hx33) <| ?_
   refine o_buildSlice (vs := [.int .i64 x33]) (cs := [.int .i64 x33]) sl_22 zero_3 (parts_eq (pt (va := .int .i64 x33) rfl pt0)) rfl (by intro v hv; simp only [List.mem_cons, List.not_mem_nil, or_false] at hv; first | (subst hv; rfl) | (rcases hv with rfl <;> rfl)) (by decide) rfl hS (fun b34 w' hS => ?_)
   replace hFc30 := lv_s hFc30; obtain ⟨q1q, q21, hFc30⟩ := hFc30
   replace hFc30 := ck_s hFc30; obtain ⟨q22, hFc30⟩ := hFc30
   refine o_ap sl_22 zero_3 rfl (by decide) rfl rfl (hS.pull 1) q0o (src_blk usl_22 hS rfl rfl) (RepL.cons (R := (RpI .i64)) (ρ := ρ) (x := x33) (cs := [.int .i64 x33]) rfl RepL.nil) q21 q22 (fun A35 c35 cs35 w' hr35 hS => ?_)
   refine p (yl_assign rfl) <| x_done <| ?_
   exact x_inv ⟨A35, q1q.length, c35, cs35, q1q, (sinj hFc30), q14, q15, q1i, rfl, hr35, (((((((hS.pull 1).drop.pull 5).pull 5).pull 5).pull 5).pull 5).pull 5)⟩
  ·replace hFc30 := it_f hc30 hFc30
   refine x_skip <| ?_
   exact x_inv ⟨q0c, q0k.length, c_out7_c19, q5, q0k, (sinj hFc30), q14, q15, q1i, q1j, q0o, ((((((hS.pull 5).pull 5).pull 5).pull 5).pull 5).pull 5)⟩
 rintro E w ⟨q0e, q0f, c_out7_c30, q6, q0l, rfl, q16, q17, q1k, q1l, q0p, hS⟩
 have e_ := St.vec_n hS q0p; subst e_
 refine x_seq <| x_seq <| x_region <| p (yl_move q16) <|
  p (yl_move q17) <| p (yl_geq rfl rfl) <| x_done <| ?_
 replace hF := bd_s hF; obtain ⟨oc38, hFc38, hF⟩ := hF
 refine x_join (fun E w => ∃ (q0g : Option Addr) (q0h : Nat) (c_out7_c38 : Nat) (q7 : List Value) (q0m : List Int), q0m = oc38 ∧ E 1 = .int .i64 k1 ∧ E 5 = .int .i64 q0n.1 ∧ E 6 = .int .i64 q0n.2 ∧ E 7 = .slice q0g q0h c_out7_c38 ∧ RepL (RpI .i64) ρ q0m q7 ∧ St w0 w (vec 3 (RpI .i64).sz (.slice q0g q0h c_out7_c38) q0h q7 :: cells q0v 73 [.int .i64 q0s, .int .i64 q0t, .int .i64 q0u, .slice q9 q0w.length c_p0_3, .slice q0a q0x.length c_p0_4, .slice q0b q0y.length c_p0_5, .map (some q2), .map (some q3), .map (some q4)] :: mapA q2 kf_53 (Value.int .i64) q0z :: mapA q3 kf_53 (Value.int .i64) q10 :: mapA q4 kf_53 (Value.int .i64) q11 :: ro ρ :: l)) ?_ ?_
 ·refine x_cond_p (q0n.1 ≤ k1) rfl (fun hc38 => ?_) (fun hc38 => ?_)
  ·replace hFc38 := it_t hc38 hFc38
   replace hFc38 := ar_s hFc38; obtain ⟨x42, hx42, hFc38⟩ := hFc38
   refine x_region <| p (yl_move q1l) <| p (yl_move q16) <| p (yl_move q17) <|
    p (ysub rfl rfl hx42) <| ?_
   refine o_buildSlice (vs := [.int .i64 x42]) (cs := [.int .i64 x42]) sl_22 zero_3 (parts_eq (pt (va := .int .i64 x42) rfl pt0)) rfl (by intro v hv; simp only [List.mem_cons, List.not_mem_nil, or_false] at hv; first | (subst hv; rfl) | (rcases hv with rfl <;> rfl)) (by decide) rfl hS (fun b43 w' hS => ?_)
   replace hFc38 := lv_s hFc38; obtain ⟨q1r, q23, hFc38⟩ := hFc38
   replace hFc38 := ck_s hFc38; obtain ⟨q24, hFc38⟩ := hFc38
   refine o_ap sl_22 zero_3 rfl (by decide) rfl rfl (hS.pull 1) q0p (src_blk usl_22 hS rfl rfl) (RepL.cons (R := (RpI .i64)) (ρ := ρ) (x := x42) (cs := [.int .i64 x42]) rfl RepL.nil) q23 q24 (fun A44 c44 cs44 w' hr44 hS => ?_)
   refine p (yl_assign rfl) <| x_done <| ?_
   exact x_inv ⟨A44, q1r.length, c44, cs44, q1r, (sinj hFc38), q16, q17, q1k, rfl, hr44, (((((((hS.pull 1).drop.pull 5).pull 5).pull 5).pull 5).pull 5).pull 5)⟩
  ·replace hFc38 := it_f hc38 hFc38
   refine x_skip <| ?_
   exact x_inv ⟨q0e, q0l.length, c_out7_c30, q6, q0l, (sinj hFc38), q16, q17, q1k, q1l, q0p, ((((((hS.pull 5).pull 5).pull 5).pull 5).pull 5).pull 5)⟩
 rintro E w ⟨q0g, q0h, c_out7_c38, q7, q0m, rfl, q1m, q1e, q1s, q1n, q0q, hS⟩
 have e_ := St.vec_n hS q0q; subst e_
 replace hF := ar_s hF; obtain ⟨x47, hx47, hF⟩ := hF
 replace hF := ar_s hF; obtain ⟨x50, hx50, hF⟩ := hF
 refine x_seq <| x_seq <| x_region <| p (yl_move q1m) <|
  p (yl_move q1e) <| p (yadd rfl rfl hx47) <| p (yl_move q1e) <| p (yl_move q1s) <|
  p (ymul rfl rfl hx50) <| p (yl_lss rfl rfl) <| x_done <| ?_
 replace hF := bd_s hF; obtain ⟨oc51, hFc51, hF⟩ := hF
 refine x_join (fun E w => ∃ (q0i : Option Addr) (q0j : Nat) (c_out7_c51 : Nat) (q8 : List Value) (q0r : List Int), q0r = oc51 ∧ E 7 = .slice q0i q0j c_out7_c51 ∧ RepL (RpI .i64) ρ q0r q8 ∧ St w0 w (vec 3 (RpI .i64).sz (.slice q0i q0j c_out7_c51) q0j q8 :: cells q0v 73 [.int .i64 q0s, .int .i64 q0t, .int .i64 q0u, .slice q9 q0w.length c_p0_3, .slice q0a q0x.length c_p0_4, .slice q0b q0y.length c_p0_5, .map (some q2), .map (some q3), .map (some q4)] :: mapA q2 kf_53 (Value.int .i64) q0z :: mapA q3 kf_53 (Value.int .i64) q10 :: mapA q4 kf_53 (Value.int .i64) q11 :: ro ρ :: l)) ?_ ?_
 ·refine x_cond_p (x47 < x50) rfl (fun hc51 => ?_) (fun hc51 => ?_)
  ·replace hFc51 := it_t hc51 hFc51
   replace hFc51 := ar_s hFc51; obtain ⟨x55, hx55, hFc51⟩ := hFc51
   refine x_region <| p (yl_move q1n) <| p (yl_move q1m) <| p (yl_move q1e) <|
    p (yadd rfl rfl hx55) <| ?_
   refine o_buildSlice (vs := [.int .i64 x55]) (cs := [.int .i64 x55]) sl_22 zero_3 (parts_eq (pt (va := .int .i64 x55) rfl pt0)) rfl (by intro v hv; simp only [List.mem_cons, List.not_mem_nil, or_false] at hv; first | (subst hv; rfl) | (rcases hv with rfl <;> rfl)) (by decide) rfl hS (fun b56 w' hS => ?_)
   replace hFc51 := lv_s hFc51; obtain ⟨q1p, q1t, hFc51⟩ := hFc51
   replace hFc51 := ck_s hFc51; obtain ⟨q1u, hFc51⟩ := hFc51
   refine o_ap sl_22 zero_3 rfl (by decide) rfl rfl (hS.pull 1) q0q (src_blk usl_22 hS rfl rfl) (RepL.cons (R := (RpI .i64)) (ρ := ρ) (x := x55) (cs := [.int .i64 x55]) rfl RepL.nil) q1t q1u (fun A57 c57 cs57 w' hr57 hS => ?_)
   refine p (yl_assign rfl) <| x_done <| ?_
   exact x_inv ⟨A57, q1p.length, c57, cs57, q1p, (sinj hFc51), rfl, hr57, (((((((hS.pull 1).drop.pull 5).pull 5).pull 5).pull 5).pull 5).pull 5)⟩
  ·replace hFc51 := it_f hc51 hFc51
   refine x_skip <| ?_
   exact x_inv ⟨q0g, q0m.length, c_out7_c38, q7, q0m, (sinj hFc51), q1n, q0q, ((((((hS.pull 5).pull 5).pull 5).pull 5).pull 5).pull 5)⟩
 rintro E w ⟨q0i, q0j, c_out7_c51, q8, q0r, rfl, q1v, q18, hS⟩
 have e_ := St.vec_n hS q18; subst e_
 refine x_seq <| x_region <| p (yl_move q1v) <| p (yl_assign rfl) <|
  x_done <| ?_
 have e_ := sinj hF; subst e_
 exact x_return ⟨_, ⟨_, _, rfl, rfl, rfl⟩, q0i, q0r.length, c_out7_c51, q8, rfl, q18, ((((((hS.pull 5).pull 5).pull 5).pull 5).pull 5).pull 5)⟩
attribute [irreducible] P_global_plan_beside

def P_global_plan_price (q5 : Int) (q6 : Int) (q7 : Int) (q8 : List T_floor_Block) (q9 : List T_floor_Wall) (q0a : List T_floor_Port) (q2 : List (T_global_Edge × Int)) (q3 : List (T_global_Edge × Int)) (q4 : List (T_global_Edge × Int)) (e_1 : T_global_Edge) : Option Int :=
 lv (mget e_1 q3 0) fun x11 =>
 ar (x11 + 1) fun x12 =>
 lv (mget e_1 q2 0) fun x18 =>
 ar (x12 - x18) fun x19 =>
 lv (max (0 : Int) x19) fun x20 =>
 ar (x20 * 40) fun x22 =>
 ar ((4 : Int) + x22) fun x23 =>
 lv (mget e_1 q4 0) fun x29 =>
 ar (x29 * 8) fun x30 =>
 ar (x23 + x30) fun x31 =>
 some x31
theorem c_global_plan_price {w0 w : World} {l : List Assn} {ρ : Heap} {q0b : Nat} {q5 : Option Addr} {q6 : Nat} {c_p0_3 : Nat} {q7 : Option Addr} {q8 : Nat} {c_p0_4 : Nat} {q9 : Option Addr} {q0a : Nat} {c_p0_5 : Nat} {q2 : Nat} {q3 : Nat} {q4 : Nat} {q0c : Int} {q0d : Int} {q0e : Int} {q0i : List T_floor_Block} {q0j : List T_floor_Wall} {q0k : List T_floor_Port} {q0f : List (T_global_Edge × Int)} {q0g : List (T_global_Edge × Int)} {q0h : List (T_global_Edge × Int)} {e_1 : T_global_Edge} {r : Int} (hF : P_global_plan_price q0c q0d q0e q0i q0j q0k q0f q0g q0h e_1 = some r) (q0l : RdS R_floor_Block ρ q5 q6 c_p0_3 q0i) (q0m : RdS R_floor_Wall ρ q7 q8 c_p0_4 q0j) (q0n : RdS R_floor_Port ρ q9 q0a c_p0_5 q0k) (hS : St w0 w (cells q0b 73 [.int .i64 q0c, .int .i64 q0d, .int .i64 q0e, .slice q5 q6 c_p0_3, .slice q7 q8 c_p0_4, .slice q9 q0a c_p0_5, .map (some q2), .map (some q3), .map (some q4)] :: mapA q2 kf_53 (Value.int .i64) q0f :: mapA q3 kf_53 (Value.int .i64) q0g :: mapA q4 kf_53 (Value.int .i64) q0h :: ro ρ :: l)) :
  Calls Tryd.prog 45 #[.pointer (some ⟨q0b, 0, none⟩), .agg #[.int .i64 e_1.From, .int .i64 e_1.To]] w fun e w' => e = .returned (.int .i64 r) ∧ St w0 w' (cells q0b 73 [.int .i64 q0c, .int .i64 q0d, .int .i64 q0e, .slice q5 q6 c_p0_3, .slice q7 q8 c_p0_4, .slice q9 q0a c_p0_5, .map (some q2), .map (some q3), .map (some q4)] :: mapA q2 kf_53 (Value.int .i64) q0f :: mapA q3 kf_53 (Value.int .i64) q0g :: mapA q4 kf_53 (Value.int .i64) q0h :: ro ρ :: l) := by
 have e_ := q0l.n; subst e_
 have e_ := q0m.n; subst e_
 have e_ := q0n.n; subst e_
 refine enterC Tryd.func45 rfl 32 rfl (by simp) ?_
 refine x_seq <| x_region <| ?_
 refine o_box (cs := [.int .i64 e_1.From, .int .i64 e_1.To]) rfl rfl hS (fun b3 w' hS => ?_)
 replace hF := lv_s hF; obtain ⟨x11, hx11, hF⟩ := hF
 replace hF := ar_s hF; obtain ⟨x12, hx12, hF⟩ := hF
 replace hF := lv_s hF; obtain ⟨x18, hx18, hF⟩ := hF
 replace hF := ar_s hF; obtain ⟨x19, hx19, hF⟩ := hF
 replace hF := lv_s hF; obtain ⟨x20, hx20, hF⟩ := hF
 refine p (yl_assign rfl) <| x_done <| x_seq <| x_still mixed (by kernel_rfl) hS <|
  q (yl_move rfl) <| q (yl_nilCheck rfl) <| q (yl_field0 fld_73_2 rfl) <| qa (fun w' hS => at_load one_71 rfl ((hS.pull 1).cell rfl)) <|
  qa (v := .agg #[.int .i64 e_1.From, .int .i64 e_1.To]) (fun w' hS => ld_sub agg_53 rfl rfl rfl hS) <| qa (fun w' hS => at_look (k := e_1) um_71 kp_53 (zero1 zv_3) rfl rfl (hS.pull 3) hx11) <| q (yadd rfl rfl hx12) <| q (yl_move rfl) <|
  q (yl_nilCheck rfl) <| q (yl_field0 fld_73_1 rfl) <| qa (fun w' hS => at_load one_71 rfl ((hS.pull 1).cell rfl)) <| qa (v := .agg #[.int .i64 e_1.From, .int .i64 e_1.To]) (fun w' hS => ld_sub agg_53 rfl rfl rfl hS) <|
  qa (fun w' hS => at_look (k := e_1) um_71 kp_53 (zero1 zv_3) rfl rfl (hS.pull 2) hx18) <| q (ysub rfl rfl hx19) <| q (ymax' rfl rfl hx20) <| q (yl_assign rfl) <|
  q_done fun w' hS => ?_
 replace hF := ar_s hF; obtain ⟨x22, hx22, hF⟩ := hF
 replace hF := ar_s hF; obtain ⟨x23, hx23, hF⟩ := hF
 replace hF := lv_s hF; obtain ⟨x29, hx29, hF⟩ := hF
 replace hF := ar_s hF; obtain ⟨x30, hx30, hF⟩ := hF
 replace hF := ar_s hF; obtain ⟨x31, hx31, hF⟩ := hF
 refine x_seq <| x_still mixed (by kernel_rfl) hS <| q (yl_move rfl) <| q (ymul rfl rfl hx22) <|
  q (yadd rfl rfl hx23) <| q (yl_move rfl) <| q (yl_nilCheck rfl) <| q (yl_field0 fld_73_3 rfl) <|
  qa (fun w' hS => at_load one_71 rfl ((hS.pull 1).cell rfl)) <| qa (v := .agg #[.int .i64 e_1.From, .int .i64 e_1.To]) (fun w' hS => ld_sub agg_53 rfl rfl rfl hS) <| qa (fun w' hS => at_look (k := e_1) um_71 kp_53 (zero1 zv_3) rfl rfl (hS.pull 4) hx29) <| q (ymul rfl rfl hx30) <|
  q (yadd rfl rfl hx31) <| q (yl_assign rfl) <|
  q_done fun w' hS => ?_
 have e_ := sinj hF; subst e_
 exact x_return ⟨_, ⟨_, _, rfl, rfl, rfl⟩, rfl, (((((hS.drop.pull 4).pull 4).pull 4).pull 4).pull 4)⟩
attribute [irreducible] P_global_plan_price

def P_global_queue_Push (q3 : List T_global_step) (q4 : T_global_step) : Option (List T_global_step) :=
 lv (q3 ++ [q4]) fun q2 =>
 ck (apOk 24 q2.length) <|
 some q2
theorem c_global_queue_Push {w0 w : World} {l : List Assn} {ρ : Heap} {q3 : Nat} {q5 : Option Addr} {q0k : Nat} {c_q0_0 : Nat} {q0a : List Value} {q6 : List T_global_step} {q2 : T_global_step} {r : List T_global_step} (hF : P_global_queue_Push q6 q2 = some r) (q0l : RepL R_global_step ρ q6 q0a) (hS : St w0 w (cells q3 94 [.slice q5 q0k c_q0_0] :: vec 96 R_global_step.sz (.slice q5 q0k c_q0_0) q0k q0a :: ro ρ :: l)) :
  Calls Tryd.prog 78 #[.pointer (some ⟨q3, 0, none⟩), .iface 96 (.agg #[.int .i64 q2.fat, .int .i64 q2.fcost, .int .i64 q2.ffrom])] w fun e w' => ∃ (q9 : Option Addr) (q7 : Nat) (c_b_q0_0_ret : Nat) (q8 : List Value), e = .returned (.tuple #[]) ∧ RepL R_global_step ρ r q8 ∧ St w0 w' (cells q3 94 [.slice q9 q7 c_b_q0_0_ret] :: vec 96 R_global_step.sz (.slice q9 q7 c_b_q0_0_ret) q7 q8 :: ro ρ :: l) := by
 have e_ := St.vec_n (hS.pull 1) q0l; subst e_
 refine enterC Tryd.func78 rfl 13 rfl (by simp) ?_
 replace hF := lv_s hF; obtain ⟨q4, q0m, hF⟩ := hF
 replace hF := ck_s hF; obtain ⟨q0n, hF⟩ := hF
 refine x_par (w0 := w0) [⟨[], [], [4], [], [], [], none⟩, ⟨[], [], [5], [], [], [], none⟩, ⟨[1], [1], [6], [], [], [], none⟩, ⟨[1, 2], [2], [7], [0], [], [], none⟩, ⟨[], [], [8], [], [], [], none⟩, ⟨[4], [4], [9], [], [], [], none⟩, ⟨[4, 5], [5], [10], [], [], [1], none⟩, ⟨[1, 2, 3, 4, 5, 6], [3, 6], [11], [1, 3], [2], [4], none⟩, ⟨[0, 1, 2, 3, 4, 5, 6, 7], [0], [12], [], [], [], none⟩, ⟨[0, 1, 2, 3, 4, 5, 6, 7, 8], [7, 8], [], [], [0], [5], none⟩] [⟨none, (some 9), []⟩, ⟨(some 6), none, [10]⟩, ⟨none, (some 7), []⟩, ⟨none, none, []⟩, ⟨(some 7), none, [11]⟩, ⟨(some 9), none, [11]⟩] [4, 5, 6, 7, 8, 9, 10, 11, 12] [0, 2, 3] [1, 3, 4, 5] [0, 1, 2, 3, 4, 5, 6, 7, 8] [fun Ep0 => Ep0 4 = .pointer (some ⟨q3, 0, none⟩), fun Ep0 => Ep0 5 = .pointer (some ⟨q3, 0, none⟩), fun Ep0 => Ep0 6 = .pointer (some ⟨q3, 0, none⟩), fun Ep0 => Ep0 7 = .slice q5 q6.length c_q0_0, fun Ep0 => Ep0 8 = .iface 96 (.agg #[.int .i64 q2.fat, .int .i64 q2.fcost, .int .i64 q2.ffrom]), fun Ep0 => Ep0 9 = .agg #[.int .i64 q2.fat, .int .i64 q2.fcost, .int .i64 q2.ffrom], fun Ep0 => Ep0 10 = .slice (some ⟨(blkOf (Ep0 10)), 0, none⟩) 1 1, fun Ep0 => Ep0 11 = .slice (adOf (Ep0 11)) q4.length (capOf (Ep0 11)), fun Ep0 => Ep0 12 = .pointer (some ⟨q3, 0, none⟩), fun Ep0 => True] [fun Ep0 => cells q3 94 [.slice q5 q6.length c_q0_0], fun Ep0 => cells (blkOf (Ep0 10)) 96 [.int .i64 q2.fat, .int .i64 q2.fcost, .int .i64 q2.ffrom], fun Ep0 => vec 96 R_global_step.sz (.slice q5 q6.length c_q0_0) q6.length q0a, fun Ep0 => ro ρ, fun Ep0 => bunA (fun (cs11 : List Value) => RepL R_global_step ρ q4 cs11) (fun (cs11 : List Value) => [vec 96 R_global_step.sz (.slice (adOf (Ep0 11)) q4.length (capOf (Ep0 11))) q4.length cs11]), fun Ep0 => cells q3 94 [.slice (adOf (Ep0 11)) q4.length (capOf (Ep0 11))]] mixed (by kernel_rfl) (((hS.pull 2).pull 2).pull 2) ?_ ?_
 ·refine ⟨?_, ?_, ?_, ?_, ?_, ?_, ?_, ?_, ?_, ?_, trivial⟩
  ·intro Ep0 w l' hE0 hO0 hF_ hS
   refine p (yl_move (hE0 0 rfl)) <| x_done <| ?_
   refine x_fin ⟨⟨_, rfl⟩, rfl, ?_⟩
   exact emk hS
  ·intro Ep0 w l' hE0 hO0 hF_ hS
   refine p (yl_move (hE0 0 rfl)) <| x_done <| ?_
   refine x_fin ⟨⟨_, rfl⟩, rfl, ?_⟩
   exact emk hS
  ·intro Ep0 w l' hE0 hO0 hF_ hS
   obtain ⟨q0b, -⟩ := hF_
   replace q0b : Ep0 5 = .pointer (some ⟨q3, 0, none⟩) := emk q0b
   refine p (yl_nilCheck q0b) <| x_done <| ?_
   refine x_fin ⟨⟨_, rfl⟩, rfl, ?_⟩
   exact emk hS
  ·intro Ep0 w l' hE0 hO0 hF_ hS
   obtain ⟨q0c, -⟩ := hF_
   replace q0c : Ep0 6 = .pointer (some ⟨q3, 0, none⟩) := emk q0c
   replace hS : St w0 w (cells q3 94 [.slice q5 q6.length c_q0_0] :: l') := emk hS
   refine pa (at_load one_94 q0c (hS.cell rfl)) <| x_done <| ?_
   refine x_fin ⟨⟨_, rfl⟩, rfl, ?_⟩
   exact emk hS
  ·intro Ep0 w l' hE0 hO0 hF_ hS
   refine p (yl_move (hE0 1 rfl)) <| x_done <| ?_
   refine x_fin ⟨⟨_, rfl⟩, rfl, ?_⟩
   exact emk hS
  ·intro Ep0 w l' hE0 hO0 hF_ hS
   obtain ⟨q0d, -⟩ := hF_
   replace q0d : Ep0 8 = .iface 96 (.agg #[.int .i64 q2.fat, .int .i64 q2.fcost, .int .i64 q2.ffrom]) := emk q0d
   refine p (v := .agg #[.int .i64 q2.fat, .int .i64 q2.fcost, .int .i64 q2.ffrom]) (yl_assert conc_96 q0d) <| x_done <| ?_
   refine x_fin ⟨⟨_, rfl⟩, rfl, ?_⟩
   exact emk hS
  ·intro Ep0 w l' hE0 hO0 hF_ hS
   obtain ⟨q0e, -⟩ := hF_
   replace q0e : Ep0 9 = .agg #[.int .i64 q2.fat, .int .i64 q2.fcost, .int .i64 q2.ffrom] := emk q0e
   refine o_buildSlice (vs := [.agg #[.int .i64 q2.fat, .int .i64 q2.fcost, .int .i64 q2.ffrom]]) (cs := [.int .i64 q2.fat, .int .i64 q2.fcost, .int .i64 q2.ffrom]) sl_94 zero_96 (parts_eq (pt (va := .agg #[.int .i64 q2.fat, .int .i64 q2.fcost, .int .i64 q2.ffrom]) q0e pt0)) rfl (by intro v hv; simp only [List.mem_cons, List.not_mem_nil, or_false] at hv; first | (subst hv; rfl) | (rcases hv with rfl <;> rfl)) (by decide) rfl hS (fun b10 w' hS => ?_)
   refine x_done <| ?_
   refine x_fin ⟨⟨_, rfl⟩, rfl, ?_⟩
   exact emk hS
  ·intro Ep0 w l' hE0 hO0 hF_ hS
   obtain ⟨q0f, q0g, -⟩ := hF_
   replace q0f : Ep0 7 = .slice q5 q6.length c_q0_0 := emk q0f
   replace q0g : Ep0 10 = .slice (some ⟨(blkOf (Ep0 10)), 0, none⟩) 1 1 := emk q0g
   replace hS : St w0 w (cells (blkOf (Ep0 10)) 96 [.int .i64 q2.fat, .int .i64 q2.fcost, .int .i64 q2.ffrom] :: ro ρ :: vec 96 R_global_step.sz (.slice q5 q6.length c_q0_0) q6.length q0a :: l') := emk hS
   refine o_ap sl_94 zero_96 rfl (by decide) q0f q0g (hS.pull 2) q0l (src_blk usl_94 hS rfl rfl) (RepL.cons (R := R_global_step) (ρ := ρ) (x := q2) (cs := [.int .i64 q2.fat, .int .i64 q2.fcost, .int .i64 q2.ffrom]) rfl RepL.nil) q0m q0n (fun A11 c11 cs11 w' hr11 hS => ?_)
   refine x_done <| ?_
   refine x_fin ⟨⟨_, rfl⟩, rfl, ?_⟩
   replace hS := St.bun (Φ := (fun (cs11 : List Value) => RepL R_global_step ρ q4 cs11)) (L := (fun (cs11 : List Value) => [vec 96 R_global_step.sz (.slice A11 q4.length c11) q4.length cs11])) cs11 hr11 hS
   exact emk ((hS.pull 2).pull 2)
  ·intro Ep0 w l' hE0 hO0 hF_ hS
   obtain ⟨q0h, -⟩ := hF_
   replace q0h : Ep0 4 = .pointer (some ⟨q3, 0, none⟩) := emk q0h
   refine p (yl_nilCheck q0h) <| x_done <| ?_
   refine x_fin ⟨⟨_, rfl⟩, rfl, ?_⟩
   exact emk hS
  ·intro Ep0 w l' hE0 hO0 hF_ hS
   obtain ⟨q0i, q0j, -⟩ := hF_
   replace q0i : Ep0 11 = .slice (adOf (Ep0 11)) q4.length (capOf (Ep0 11)) := emk q0i
   replace q0j : Ep0 12 = .pointer (some ⟨q3, 0, none⟩) := emk q0j
   replace hS : St w0 w (cells q3 94 [.slice q5 q6.length c_q0_0] :: l') := emk hS
   refine o_store1 (v := .slice (adOf (Ep0 11)) q4.length (capOf (Ep0 11))) one_94 q0j q0i rfl rfl hS (fun w' hS => ?_)
   refine x_done <| ?_
   refine x_fin ⟨⟨undef, rfl⟩, trivial, ?_⟩
   exact emk hS
 intro Ep0 w' hE0 hF_ hS
 obtain ⟨q0h, q0b, q0c, q0f, q0d, q0e, q0g, q0i, q0j, -⟩ := hF_
 replace q0h : Ep0 4 = .pointer (some ⟨q3, 0, none⟩) := emk q0h
 replace q0b : Ep0 5 = .pointer (some ⟨q3, 0, none⟩) := emk q0b
 replace q0c : Ep0 6 = .pointer (some ⟨q3, 0, none⟩) := emk q0c
 replace q0f : Ep0 7 = .slice q5 q6.length c_q0_0 := emk q0f
 replace q0d : Ep0 8 = .iface 96 (.agg #[.int .i64 q2.fat, .int .i64 q2.fcost, .int .i64 q2.ffrom]) := emk q0d
 replace q0e : Ep0 9 = .agg #[.int .i64 q2.fat, .int .i64 q2.fcost, .int .i64 q2.ffrom] := emk q0e
 replace q0g : Ep0 10 = .slice (some ⟨(blkOf (Ep0 10)), 0, none⟩) 1 1 := emk q0g
 replace q0i : Ep0 11 = .slice (adOf (Ep0 11)) q4.length (capOf (Ep0 11)) := emk q0i
 replace q0j : Ep0 12 = .pointer (some ⟨q3, 0, none⟩) := emk q0j
 replace hS : St w0 w' (cells (blkOf (Ep0 10)) 96 [.int .i64 q2.fat, .int .i64 q2.fcost, .int .i64 q2.ffrom] :: ro ρ :: bunA (fun (cs11 : List Value) => RepL R_global_step ρ q4 cs11) (fun (cs11 : List Value) => [vec 96 R_global_step.sz (.slice (adOf (Ep0 11)) q4.length (capOf (Ep0 11))) q4.length cs11]) :: cells q3 94 [.slice (adOf (Ep0 11)) q4.length (capOf (Ep0 11))] :: (l)) := emk hS
 have q_ := St.unbun (hS.pull 2); obtain ⟨cs11, hr11, hS⟩ := q_
 have e_ := sinj hF; subst e_
 exact x_fin ⟨_, rfl, (adOf (Ep0 11)), q4.length, (capOf (Ep0 11)), cs11, rfl, hr11, ((((hS.pull 1).drop.pull 1).pull 1).pull 2)⟩
attribute [irreducible] P_global_queue_Push

def P_container_heap_up_L0 : (Int × List T_global_step) → Option ((Int × List T_global_step) ⊕ List T_global_step) := fun (q3, q2) =>
 ar (q3 - 1) fun x6 =>
 ck ((2 : Int) ≠ 0) <|
 ar (Int.tdiv x6 2) fun x7 =>
 bd (
  if (decide (x7 = q3)) = true then
   some true
  else
   bd (P_global_queue_Less q2 q3 x7) fun q5 =>
   some (!q5)) fun q4 =>
 if q4 = true then
  some (Sum.inr q2)
 else
  bd (P_global_queue_Swap q2 x7 q3) fun q6 =>
  some (Sum.inl (x7, q6))
def P_container_heap_up (q3 : List T_global_step) (j1 : Int) : Option (List T_global_step) :=
 bd (
  lp P_container_heap_up_L0 fuel (j1, q3)) fun q2 =>
 some q2
theorem c_container_heap_up {w0 w : World} {l : List Assn} {ρ : Heap} {q7 : Nat} {q4 : Option Addr} {q0b : Nat} {c_h0_0_0 : Nat} {q0g : List Value} {q5 : List T_global_step} {j1 : Int} {r : List T_global_step} (hF : P_container_heap_up q5 j1 = some r) (q0l : RepL R_global_step ρ q5 q0g) (hS : St w0 w (cells q7 94 [.slice q4 q0b c_h0_0_0] :: vec 96 R_global_step.sz (.slice q4 q0b c_h0_0_0) q0b q0g :: ro ρ :: l)) :
  Calls Tryd.prog 51 #[.iface 92 (.pointer (some ⟨q7, 0, none⟩)), .int .i64 j1] w fun e w' => ∃ (q0d : List Value), e = .returned (.tuple #[]) ∧ RepL R_global_step ρ r q0d ∧ St w0 w' (cells q7 94 [.slice q4 q0b c_h0_0_0] :: vec 96 R_global_step.sz (.slice q4 q0b c_h0_0_0) q0b q0d :: ro ρ :: l) := by
 have e_ := St.vec_n (hS.pull 1) q0l; subst e_
 refine enterC Tryd.func51 rfl 23 rfl (by simp) ?_
 replace hF := bd_s hF; obtain ⟨oL0, hLL0, hF⟩ := hF
 refine x_join (fun E w => ∃ (q6 : List Value) (q0e : List T_global_step), q0e = oL0 ∧ RepL R_global_step ρ q0e q6 ∧ St w0 w (cells q7 94 [.slice q4 q5.length c_h0_0_0] :: vec 96 R_global_step.sz (.slice q4 q5.length c_h0_0_0) q5.length q6 :: ro ρ :: l)) ?_ ?_
 ·refine x_block ?_
  refine x_loop (fun k_ E w => ∃ (q3 : List Value) (q2 : Int) (q0a : List T_global_step), lp P_container_heap_up_L0 k_ (q2, q0a) = some oL0 ∧ E 0 = .iface 92 (.pointer (some ⟨q7, 0, none⟩)) ∧ E 1 = .int .i64 q2 ∧ RepL R_global_step ρ q0a q3 ∧ St w0 w (cells q7 94 [.slice q4 q5.length c_h0_0_0] :: vec 96 R_global_step.sz (.slice q4 q5.length c_h0_0_0) q5.length q3 :: ro ρ :: l)) fuel ⟨q0g, j1, q5, hLL0, rfl, rfl, q0l, (((hS.pull 2).pull 2).pull 2)⟩ ?_
  rintro kL0 E w ⟨q3, q2, q0a, hLL0, q0m, q0h, q0c, hS⟩
  replace hLL0 := lp_s hLL0; obtain ⟨kL0, obL0, rfl, hFL0, hLL0⟩ := hLL0
  unfold P_container_heap_up_L0 at hFL0
  replace hFL0 := ar_s hFL0; obtain ⟨x6, hx6, hFL0⟩ := hFL0
  replace hFL0 := ck_s hFL0; obtain ⟨q0r, hFL0⟩ := hFL0
  replace hFL0 := ar_s hFL0; obtain ⟨x7, hx7, hFL0⟩ := hFL0
  refine x_block <| x_seq <| x_region <| p (yl_move q0h) <|
   p (ysub rfl rfl hx6) <| p (yquo rfl rfl q0r hx7) <| p (yl_assign rfl) <| x_done <|
   x_seq <| x_seq <| x_region <| p (yl_move rfl) <|
   p (yl_move q0h) <| p (yl_eql rfl rfl) <| p (yl_move rfl) <| pg (v := .iface 92 (.pointer (some ⟨q7, 0, none⟩))) 11 (c := !(decide (x7 = q2))) (says_f _) (fun hq => Yl.at (yl_move q0m)) <|
   pg (v := .int .i64 q2) 11 (c := !(decide (x7 = q2))) (says_f _) (fun hq => Yl.at (yl_move q0h)) <| pg (v := .int .i64 x7) 11 (c := !(decide (x7 = q2))) (says_f _) (fun hq => Yl.at (yl_move rfl)) <| ?_
  replace hFL0 := bd_s hFL0; obtain ⟨q0s, q8, hFL0⟩ := hFL0
  refine x_join_ops (fun E w => ∃ (q0f : Bool), q0f = q0s ∧ E 0 = .iface 92 (.pointer (some ⟨q7, 0, none⟩)) ∧ E 1 = .int .i64 q2 ∧ E 4 = .int .i64 x7 ∧ E 17 = .bool q0f ∧ St w0 w (cells q7 94 [.slice q4 q5.length c_h0_0_0] :: vec 96 R_global_step.sz (.slice q4 q5.length c_h0_0_0) q5.length q3 :: ro ρ :: l)) ?_ ?_
  ·refine x_split (decide (x7 = q2)) (fun q9 => ?_) (fun q9 => ?_)
   ·replace q8 := it_t q9 q8
    refine o_pass 15 11 false (says_lit (c := true) (Eq.trans (show _ = Value.bool (decide (x7 = q2)) from rfl) (congrArg Value.bool q9)) rfl) <| o_pass 16 11 false (says_lit (c := true) (Eq.trans (show _ = Value.bool (decide (x7 = q2)) from rfl) (congrArg Value.bool q9)) rfl) <| p (yl_pick (b := true) (Eq.trans (show _ = Value.bool (decide (x7 = q2)) from rfl) (congrArg Value.bool q9)) (fun h => rfl) (fun h => nomatch h)) <| x_done <| ?_
    exact x_inv ⟨true, (sinj q8), q0m, q0h, rfl, rfl, (((hS.pull 2).pull 2).pull 2)⟩
   ·replace q8 := it_bf q9 q8
    replace q8 := bd_s q8; obtain ⟨q0v, q0t, q8⟩ := q8
    refine o_strip 11 false (says_lit (c := false) (Eq.trans (show _ = Value.bool (decide (x7 = q2)) from rfl) (congrArg Value.bool q9)) rfl) <| ?_
    have q_ := St.lend ((hS.pull 2).pull 2) q0c; obtain ⟨ρl0, hll0, hlf0, hS0, back0⟩ := q_
    have hcall := c_global_queue_Less q0t hlf0 hS0
    refine o_ccr (run_calll (Eq.trans (show _ = (bif !(decide (x7 = q2)) then .iface 92 (.pointer (some ⟨q7, 0, none⟩)) else undef) from rfl) (cv (t_not q9))) meth_92_Less (hS.cell rfl) call_76 (args2 (Eq.trans (show _ = (bif !(decide (x7 = q2)) then .int .i64 q2 else undef) from rfl) (cv (t_not q9))) (Eq.trans (show _ = (bif !(decide (x7 = q2)) then .int .i64 x7 else undef) from rfl) (cv (t_not q9))))) ((Calls.mono hcall (fun e w'' h => And.intro h.1 ((((back0 h.2).pull 1).pull 1).pull 2)))) ?_
    rintro e w' ⟨rfl, hS⟩
    refine ⟨_, rfl, ?_⟩
    refine o_strip 11 false (says_lit (c := false) (Eq.trans (show _ = Value.bool (decide (x7 = q2)) from rfl) (congrArg Value.bool q9)) rfl) <| p (yl_not rfl) <| p (yl_pick (b := false) (Eq.trans (show _ = Value.bool (decide (x7 = q2)) from rfl) (congrArg Value.bool q9)) (fun h => nomatch h) (fun h => rfl)) <| x_done <| ?_
    exact x_inv ⟨!q0v, (sinj q8), q0m, q0h, rfl, rfl, (((hS.pull 2).pull 2).pull 2)⟩
  rintro E w ⟨q0f, rfl, q0n, q0q, q0o, q0p, hS⟩
  refine x_cond (t := q0f) q0p (fun hc17 => ?_) (fun hc17 => ?_)
  ·replace hFL0 := it_t hc17 hFL0
   refine x_exitTo _ rfl <| ?_
   have e_ := sinj hFL0; subst e_
   exact x_inv ⟨q3, q0a, hLL0, q0c, (((hS.pull 2).pull 2).pull 2)⟩
  ·replace hFL0 := it_bf hc17 hFL0
   replace hFL0 := bd_s hFL0; obtain ⟨q0w, q0u, hFL0⟩ := hFL0
   refine x_skip <| x_seq <| x_region <| p (yl_move q0n) <|
    p (yl_move q0o) <| p (yl_move q0q) <| ?_
   have hcall := c_global_queue_Swap q0u q0c ((hS.pull 2).pull 2)
   refine o_ccr (run_calll rfl meth_92_Swap (hS.cell rfl) call_79 (args2 rfl rfl)) hcall ?_
   rintro e w' ⟨q0i, rfl, q0j, hS⟩
   refine ⟨_, rfl, ?_⟩
   refine x_done <| x_region <| p (yl_move q0o) <| p (yl_assign rfl) <|
    x_done <| x_blk <| ?_
   have e_ := sinj hFL0; subst e_
   exact x_inv ⟨kL0, Nat.lt_succ_self _, q0i, x7, q0w, hLL0, q0n, rfl, q0j, (((hS.pull 1).pull 1).pull 2)⟩
 rintro E w ⟨q6, q0e, rfl, q0k, hS⟩
 have e_ := sinj hF; subst e_
 exact x_fin ⟨_, rfl, q6, rfl, q0k, (((hS.pull 2).pull 2).pull 2)⟩
attribute [irreducible] P_container_heap_up

def P_container_heap_Push (q3 : List T_global_step) (q4 : T_global_step) : Option (List T_global_step) :=
 bd (P_global_queue_Push q3 q4) fun q2 =>
 bd (P_global_queue_Len q2) fun q6 =>
 ar ((q2.length : Int) - 1) fun x10 =>
 bd (P_container_heap_up q2 x10) fun q5 =>
 some q5
theorem c_container_heap_Push {w0 w : World} {l : List Assn} {ρ : Heap} {q0b : Nat} {q0c : Option Addr} {q8 : Nat} {c_h0_0_0 : Nat} {q0a : List Value} {q0f : List T_global_step} {q0e : T_global_step} {r : List T_global_step} (hF : P_container_heap_Push q0f q0e = some r) (q0d : RepL R_global_step ρ q0f q0a) (hS : St w0 w (cells q0b 94 [.slice q0c q8 c_h0_0_0] :: vec 96 R_global_step.sz (.slice q0c q8 c_h0_0_0) q8 q0a :: ro ρ :: l)) :
  Calls Tryd.prog 44 #[.iface 92 (.pointer (some ⟨q0b, 0, none⟩)), .iface 96 (.agg #[.int .i64 q0e.fat, .int .i64 q0e.fcost, .int .i64 q0e.ffrom])] w fun e w' => ∃ (q5 : Option Addr) (q3 : Nat) (c_b_h0_0_0_ret : Nat) (q4 : List Value), e = .returned (.tuple #[]) ∧ RepL R_global_step ρ r q4 ∧ St w0 w' (cells q0b 94 [.slice q5 q3 c_b_h0_0_0_ret] :: vec 96 R_global_step.sz (.slice q5 q3 c_b_h0_0_0_ret) q3 q4 :: ro ρ :: l) := by
 have e_ := St.vec_n (hS.pull 1) q0d; subst e_
 refine enterC Tryd.func44 rfl 12 rfl (by simp) ?_
 replace hF := bd_s hF; obtain ⟨q0l, q0i, hF⟩ := hF
 refine x_seq <| x_region <| p (yl_move rfl) <| p (yl_move rfl) <| ?_
 have hcall := c_global_queue_Push q0i q0d (((hS.pull 2).pull 2).pull 2)
 refine o_ccr (run_calli rfl meth_92_Push call_78 (args1 rfl)) hcall ?_
 rintro e w' ⟨q9, q0h, c_b_q0_0_ret_0_2, q0g, rfl, q2, hS⟩
 refine ⟨_, rfl, ?_⟩
 have e_ := St.vec_n (hS.pull 1) q2; subst e_
 replace hF := bd_s hF; obtain ⟨q0m, q0j, hF⟩ := hF
 refine x_done <| x_region <| p (yl_move rfl) <| p (yl_move rfl) <| ?_
 have q_ := St.lend ((hS.pull 2).pull 2) q2; obtain ⟨ρl0, hll0, hlf0, hS0, back0⟩ := q_
 have hcall := c_global_queue_Len q0j hlf0 hS0
 refine o_ccr (run_calll rfl meth_92_Len (hS.cell rfl) call_40 args0) ((Calls.mono hcall (fun e w'' h => And.intro h.1 ((((back0 h.2).pull 1).pull 1).pull 2)))) ?_
 rintro e w' ⟨rfl, hS⟩
 refine ⟨_, rfl, ?_⟩
 replace hF := ar_s hF; obtain ⟨x10, hx10, hF⟩ := hF
 replace hF := bd_s hF; obtain ⟨q0n, q0k, hF⟩ := hF
 refine p (ysub rfl rfl hx10) <| ?_
 have hcall := c_container_heap_up q0k q2 (((hS.pull 2).pull 2).pull 2)
 refine o_cc call_51 (args2 rfl rfl) hcall ?_
 rintro e w' ⟨q6, rfl, q7, hS⟩
 refine ⟨_, rfl, ?_⟩
 refine x_done <| ?_
 have e_ := sinj hF; subst e_
 exact x_fin ⟨_, rfl, q9, q0l.length, c_b_q0_0_ret_0_2, q6, rfl, q7, (((hS.pull 2).pull 2).pull 2)⟩
attribute [irreducible] P_container_heap_Push

def P_global_plan_reach_L3 (has1 : List (Int × Bool)) : (List Nat × List T_global_step) → Nd ((List Nat × List T_global_step) ⊕ List T_global_step) := fun (q3, q2) =>
 nnx (has1.length) q3 (
  nret (Sum.inr q2)) fun i24 =>
 nlv (gt has1 i24) fun e26 =>
 nlv (q2 ++ [(T_global_step.mk e26.1 0 (-1))]) fun q4 =>
 nck (apOk 24 q4.length) <|
 nret (Sum.inl ((q3 ++ [i24]), q4))
def P_global_plan_reach_L15 (q4 : List (Int × Int)) : (List T_global_Edge × Int) → Nd ((List T_global_Edge × Int) ⊕ List T_global_Edge) := fun (q3, q2) =>
 nlv (mget q2 q4 0) fun x70 =>
 if 0 ≤ x70 then
  nlv (mget q2 q4 0) fun x79 =>
  nbd (nof (P_global_edge q2 x79)) fun q6 =>
  nlv (q3 ++ [q6]) fun q5 =>
  nck (apOk 16 q5.length) <|
  nlv (mget q2 q4 0) fun x74 =>
  nret (Sum.inl (q5, x74))
 else
  nret (Sum.inr q3)
def P_global_plan_reach_L20 (q0b : Int) (q0c : Int) (q0d : Int) (q0e : List T_floor_Block) (q0f : List T_floor_Wall) (q0g : List T_floor_Port) (q0h : List (T_global_Edge × Int)) (q0i : List (T_global_Edge × Int)) (q0j : List (T_global_Edge × Int)) (q6 : (T_global_step × List T_global_step)) (q7 : List (Int × Int)) (q4 : List Int) : (Int × List T_global_step) → Nd ((Int × List T_global_step) ⊕ List T_global_step) := fun (q2, q3) =>
 if q2 < (q4.length : Int) then
  nck (inb q2 q4.length) <|
  nlv (gt q4 q2) fun x92 =>
  nlv (mget x92 q7 0) fun x96 =>
  nlv (mhas x92 q7) fun q96 =>
  nbd (
   if (!q96) = true then
    nbd (nof (P_global_edge q6.1.fat x92)) fun q0a =>
    nbd (nof (P_global_plan_price q0b q0c q0d q0e q0f q0g q0h q0i q0j q0a)) fun q8 =>
    nar (q6.1.fcost + q8) fun x112 =>
    nbd (nof (P_container_heap_Push q3 (T_global_step.mk x92 x112 q6.1.fat))) fun q9 =>
    nret q9
   else
    nret q3) fun q5 =>
  nar (q2 + 1) fun x118 =>
  nret (Sum.inl (x118, q5))
 else
  nret (Sum.inr q3)
def P_global_plan_reach_L7 (q0a : Int) (q0b : Int) (q0c : Int) (q0d : List T_floor_Block) (q0e : List T_floor_Wall) (q0f : List T_floor_Port) (q0g : List (T_global_Edge × Int)) (q0h : List (T_global_Edge × Int)) (q0i : List (T_global_Edge × Int)) (want2 : List (Int × Bool)) : (List (Int × Int) × List T_global_step) → Nd ((List (Int × Int) × List T_global_step) ⊕ (Unit ⊕ List T_global_Edge)) := fun (q2, q4) =>
 nbd (nof (P_global_queue_Len q4)) fun q0k =>
 if 0 < (q4.length : Int) then
  nbs (
   nbd (nof (P_container_heap_Pop q4)) fun q3 =>
   nlv (mget q3.1.fat q2 0) fun x53 =>
   nlv (mhas q3.1.fat q2) fun q53 =>
   if q53 = true then
    nret (Sum.inl (q2, q3.2))
   else
    nlv (mput q3.1.fat q3.1.ffrom q2) fun q5 =>
    nlv (mget q3.1.fat want2 false) fun x65 =>
    if x65 = true then
     nbd (
      nlp (P_global_plan_reach_L15 q5) fuel ([], q3.1.fat)) fun q6 =>
     nret (Sum.inr q6)
    else
     nbd (nof (P_global_plan_beside q0a q0b q0c q0d q0e q0f q0g q0h q0i q3.1.fat)) fun q0j =>
     nbd (
      nlp (P_global_plan_reach_L20 q0a q0b q0c q0d q0e q0f q0g q0h q0i q3 q5 q0j) fuel (0, q3.2)) fun q7 =>
     nret (Sum.inl (q5, q7))) (fun y => nret (Sum.inr (Sum.inr y))) fun (q8, q9) =>
  nret (Sum.inl (q8, q9))
 else
  nret (Sum.inr (Sum.inl ()))
def P_global_plan_reach (q3 : Int) (q4 : Int) (q5 : Int) (q6 : List T_floor_Block) (q7 : List T_floor_Wall) (q8 : List T_floor_Port) (q9 : List (T_global_Edge × Int)) (q0a : List (T_global_Edge × Int)) (q0b : List (T_global_Edge × Int)) (has1 : List (Int × Bool)) (want2 : List (Int × Bool)) : Nd (List T_global_Edge) :=
 nbd (
  nlp (P_global_plan_reach_L3 has1) fuel ([], ([] : List T_global_step))) fun q2 =>
 nbd (nof (P_container_heap_Init q2)) fun q0c =>
 nbs (
  nlp (P_global_plan_reach_L7 q3 q4 q5 q6 q7 q8 q9 q0a q0b want2) fuel ([], q0c)) (fun y => nret y) fun _ =>
 nret []
theorem c_global_plan_reach {w0 w : World} {l : List Assn} {ρ : Heap} {q8 : Nat} {q9 : Option Addr} {q2v : Nat} {c_p0_3 : Nat} {q0a : Option Addr} {q2w : Nat} {c_p0_4 : Nat} {q0b : Option Addr} {q2x : Nat} {c_p0_5 : Nat} {q2 : Nat} {q3 : Nat} {q4 : Nat} {q7 : Nat} {q5 : Nat} {q0j : Int} {q0k : Int} {q0l : Int} {q0p : List T_floor_Block} {q0q : List T_floor_Wall} {q0r : List T_floor_Port} {q0m : List (T_global_Edge × Int)} {q0n : List (T_global_Edge × Int)} {q0o : List (T_global_Edge × Int)} {has1 : List (Int × Bool)} {want2 : List (Int × Bool)} {Q : List T_global_Edge → Prop} (hF : P_global_plan_reach q0j q0k q0l q0p q0q q0r q0m q0n q0o has1 want2 Q) (q2y : RdS R_floor_Block ρ q9 q2v c_p0_3 q0p) (q2z : RdS R_floor_Wall ρ q0a q2w c_p0_4 q0q) (q30 : RdS R_floor_Port ρ q0b q2x c_p0_5 q0r) (hS : St w0 w (cells q8 73 [.int .i64 q0j, .int .i64 q0k, .int .i64 q0l, .slice q9 q2v c_p0_3, .slice q0a q2w c_p0_4, .slice q0b q2x c_p0_5, .map (some q2), .map (some q3), .map (some q4)] :: mapA q2 kf_53 (Value.int .i64) q0m :: mapA q3 kf_53 (Value.int .i64) q0n :: mapA q4 kf_53 (Value.int .i64) q0o :: mapA q7 (Value.int .i64) Value.bool has1 :: mapD q5 (Value.int .i64) Value.bool want2 :: ro ρ :: l)) :
  Calls Tryd.prog 34 #[.pointer (some ⟨q8, 0, none⟩), .map (some q7), .map (some q5)] w fun e w' => ∃ r : List T_global_Edge, Q r ∧ ∃ (q31 : Option Addr) (q2k : Nat) (c_y0_ret : Nat) (q2t : List Value), e = .returned (.slice q31 q2k c_y0_ret) ∧ RepL R_global_Edge ρ r q2t ∧ St w0 w' (vec 53 R_global_Edge.sz (.slice q31 q2k c_y0_ret) q2k q2t :: cells q8 73 [.int .i64 q0j, .int .i64 q0k, .int .i64 q0l, .slice q9 q2v c_p0_3, .slice q0a q2w c_p0_4, .slice q0b q2x c_p0_5, .map (some q2), .map (some q3), .map (some q4)] :: mapA q2 kf_53 (Value.int .i64) q0m :: mapA q3 kf_53 (Value.int .i64) q0n :: mapA q4 kf_53 (Value.int .i64) q0o :: mapA q7 (Value.int .i64) Value.bool has1 :: mapD q5 (Value.int .i64) Value.bool want2 :: ro ρ :: l) := by
 have e_ := q2y.n; subst e_
 have e_ := q2z.n; subst e_
 have e_ := q30.n; subst e_
 refine enterC Tryd.func34 rfl 119 rfl (by simp) ?_
 refine x_seq <| x_region <| p (yl_assign rfl) <| x_done <|
  x_seq <| x_region <| ?_
 refine o_buildSlice (vs := []) (cs := []) sl_94 zero_96 (parts_eq pt0) rfl (by intro v hv; cases hv) (by decide) rfl hS (fun b19 w' hS => ?_)
 refine o_box (cs := [.slice (some ⟨b19, 0, none⟩) 0 0]) rfl rfl hS (fun b20 w' hS => ?_)
 refine o_mkmap (κ := Int) (α := Int) (Value.int .i64) (Value.int .i64) hS (fun b21 w' hS => ?_)
 refine p (yl_assign rfl) <| p (yl_assign rfl) <| x_done <| x_seq <|
  x_seq <| x_region <| p (yl_move rfl) <| ?_
 refine o_range um_84 rfl (hS.pull 7) (fun b23 w' hS => ?_)
 refine x_done <| ?_
 replace hF := nbd_j hF; obtain ⟨oL3, hLL3, hF⟩ := hF
 refine x_join (fun E w => ∃ (q1k : Option Addr) (q1l : Nat) (c_b20_0_L3 : Nat) (q1w : List Value) (q22 : List T_global_step), oL3 q22 ∧ E 0 = .pointer (some ⟨q8, 0, none⟩) ∧ E 2 = .map (some q5) ∧ E 7 = .pointer (some ⟨b20, 0, none⟩) ∧ E 8 = .map (some b21) ∧ RepL R_global_step ρ q22 q1w ∧ St w0 w (cells q8 73 [.int .i64 q0j, .int .i64 q0k, .int .i64 q0l, .slice q9 q0p.length c_p0_3, .slice q0a q0q.length c_p0_4, .slice q0b q0r.length c_p0_5, .map (some q2), .map (some q3), .map (some q4)] :: mapD q5 (Value.int .i64) Value.bool want2 :: cells b20 94 [.slice q1k q1l c_b20_0_L3] :: mapA b21 (Value.int .i64) (Value.int .i64) [] :: mapA q2 kf_53 (Value.int .i64) q0m :: mapA q3 kf_53 (Value.int .i64) q0n :: mapA q4 kf_53 (Value.int .i64) q0o :: vec 96 R_global_step.sz (.slice q1k q1l c_b20_0_L3) q1l q1w :: mapA q7 (Value.int .i64) Value.bool has1 :: ro ρ :: l)) ?_ ?_
 ·refine x_block ?_
  have q3c : RepL R_global_step ρ ([] : List T_global_step) [] := RepL.nil
  replace hS := St.vec_of (n := 0) (sz := R_global_step.sz) (hS.pull 4) rfl (by decide)
  refine x_loop (fun k_ E w => ∃ (q16 : Option Addr) (q17 : Nat) (c_b20_0_L3h : Nat) (q0s : List Value) (q2c : List Nat) (q1f : List T_global_step), nlp (P_global_plan_reach_L3 has1) k_ (q2c, q1f) oL3 ∧ E 0 = .pointer (some ⟨q8, 0, none⟩) ∧ E 2 = .map (some q5) ∧ E 7 = .pointer (some ⟨b20, 0, none⟩) ∧ E 8 = .map (some b21) ∧ E 23 = .pointer (some ⟨b23, 0, none⟩) ∧ RepL R_global_step ρ q1f q0s ∧ St w0 w (cells q8 73 [.int .i64 q0j, .int .i64 q0k, .int .i64 q0l, .slice q9 q0p.length c_p0_3, .slice q0a q0q.length c_p0_4, .slice q0b q0r.length c_p0_5, .map (some q2), .map (some q3), .map (some q4)] :: mapD q5 (Value.int .i64) Value.bool want2 :: cells b20 94 [.slice q16 q17 c_b20_0_L3h] :: mapA b21 (Value.int .i64) (Value.int .i64) [] :: mapA q7 (Value.int .i64) Value.bool has1 :: itA b23 q7 has1.length q2c :: mapA q2 kf_53 (Value.int .i64) q0m :: mapA q3 kf_53 (Value.int .i64) q0n :: mapA q4 kf_53 (Value.int .i64) q0o :: vec 96 R_global_step.sz (.slice q16 q17 c_b20_0_L3h) q17 q0s :: ro ρ :: l)) fuel ⟨(some ⟨b19, 0, none⟩), 0, 0, [], [], ([] : List T_global_step), hLL3, rfl, rfl, rfl, rfl, rfl, q3c, (((((((((((hS.pull 10).pull 1).pull 9).pull 9).pull 9).pull 5).pull 6).pull 7).pull 8).pull 10).pull 10)⟩ ?_
  rintro kL3 E w ⟨q16, q17, c_b20_0_L3h, q0s, q2c, q1f, hLL3, q36, q37, q2n, q38, q2r, q1x, hS⟩
  have e_ := St.vec_n (hS.pull 9) q1x; subst e_
  replace hLL3 := nlp_s hLL3; obtain ⟨kL3, obL3, rfl, hFL3, hLL3⟩ := hLL3
  refine x_seq <| x_region <|
   o_next q2r ((hS.pull 4).pull 5) (fun q45 w' hS => ?_) (fun i24 q3i q46 w' hS => ?_)
  ·replace hFL3 := nnx_a hFL3 q45
   refine p (yl_extract rfl rfl) <| x_done <| x_seq <| x_cond_f (show ev _ _ = .bool false from rfl) <|
    x_exitTo _ rfl <| ?_
   exact x_inv ⟨q16, q1f.length, c_b20_0_L3h, q0s, q1f, (hLL3 _ hFL3), q36, q37, q2n, q38, q1x, ((((((((((hS.drop.pull 9).pull 1).pull 9).pull 9).pull 9).pull 9).pull 9).pull 9).pull 9).pull 9)⟩
  ·replace hFL3 := nnx_k hFL3 q3i q46
   replace hFL3 := nlv_s hFL3; obtain ⟨e26, he26, hFL3⟩ := hFL3
   refine p (yl_extract rfl rfl) <| x_done <| x_seq <| x_cond_t (show ev _ _ = .bool true from rfl) <|
    x_skip <| x_block <| x_seq <| x_region <|
    pa (at_entry (kf := (Value.int .i64)) (vf := Value.bool) q2r q3i ((hS.pull 1).pull 1) he26) <| p (yl_extract rfl rfl) <| p (yl_assign rfl) <| x_done <|
    x_region <| p (yl_move q2n) <| p (yl_move q2n) <| p (yl_nilCheck rfl) <|
    pa (at_load one_94 rfl ((hS.pull 4).cell rfl)) <| p (yl_move rfl) <| p (v := .agg #[.int .i64 e26.1, .int .i64 0, .int .i64 (-1)]) (yl_build bld_96 bldf_96 (parts_eq (pt (va := .int .i64 e26.1) rfl (pt (va := .int .i64 0) rfl (pt (va := .int .i64 (-1)) rfl pt0)))) (by kernel_rfl)) <| ?_
   refine o_buildSlice (vs := [.agg #[.int .i64 e26.1, .int .i64 0, .int .i64 (-1)]]) (cs := [.int .i64 e26.1, .int .i64 0, .int .i64 (-1)]) sl_94 zero_96 (parts_eq (pt (va := .agg #[.int .i64 e26.1, .int .i64 0, .int .i64 (-1)]) rfl pt0)) rfl (by intro v hv; simp only [List.mem_cons, List.not_mem_nil, or_false] at hv; first | (subst hv; rfl) | (rcases hv with rfl <;> rfl)) (by decide) rfl hS (fun b34 w' hS => ?_)
   replace hFL3 := nlv_s hFL3; obtain ⟨q3d, q47, hFL3⟩ := hFL3
   replace hFL3 := nck_s hFL3; obtain ⟨q48, hFL3⟩ := hFL3
   refine o_ap sl_94 zero_96 rfl (by decide) rfl rfl (hS.pull 10) q1x (src_blk usl_94 hS rfl rfl) (RepL.cons (R := R_global_step) (ρ := ρ) (x := (T_global_step.mk e26.1 0 (-1))) (cs := [.int .i64 e26.1, .int .i64 0, .int .i64 (-1)]) rfl RepL.nil) q47 q48 (fun A35 c35 cs35 w' hr35 hS => ?_)
   refine p (yl_nilCheck rfl) <| ?_
   refine o_store1 (v := .slice A35 q3d.length c35) one_94 rfl rfl rfl rfl (hS.pull 6) (fun w' hS => ?_)
   refine x_done <| x_blk <| ?_
   exact x_inv ⟨kL3, Nat.lt_succ_self _, A35, q3d.length, c35, cs35, (q2c ++ [i24]), q3d, (hLL3 _ hFL3), q36, q37, q2n, q38, q2r, hr35, ((((((((((((hS.pull 2).drop.pull 10).pull 2).pull 10).pull 10).pull 10).pull 6).pull 7).pull 10).pull 8).pull 10).pull 10)⟩
 rintro E w ⟨q1k, q1l, c_b20_0_L3, q1w, q22, hq_, q49, q4a, q3j, q4b, q2o, hS⟩
 replace hF := hF _ hq_
 clear hq_
 have e_ := St.vec_n (hS.pull 7) q2o; subst e_
 replace hF := nbd_s hF; obtain ⟨q4j, q4c, hF⟩ := hF
 refine x_seq <| x_region <| p (yl_move q3j) <| p (v := .iface 92 (.pointer (some ⟨b20, 0, none⟩))) (yl_iface conc_92 rfl) <| ?_
 have hcall := c_container_heap_Init q4c q2o (((hS.pull 9).pull 8).pull 4)
 refine o_cc call_39 (args1 rfl) hcall ?_
 rintro e w' ⟨q28, rfl, q29, hS⟩
 refine ⟨_, rfl, ?_⟩
 refine x_done <| x_seq <| ?_
 replace hF := nbs_j hF; obtain ⟨oL7, hLL7, hF⟩ := hF
 refine x_join (fun E w => oL7 (Sum.inl ()) ∧ St w0 w (cells q8 73 [.int .i64 q0j, .int .i64 q0k, .int .i64 q0l, .slice q9 q0p.length c_p0_3, .slice q0a q0q.length c_p0_4, .slice q0b q0r.length c_p0_5, .map (some q2), .map (some q3), .map (some q4)] :: mapA q2 kf_53 (Value.int .i64) q0m :: mapA q3 kf_53 (Value.int .i64) q0n :: mapA q4 kf_53 (Value.int .i64) q0o :: mapA q7 (Value.int .i64) Value.bool has1 :: mapD q5 (Value.int .i64) Value.bool want2 :: ro ρ :: l)) ?_ ?_
 ·refine x_block ?_
  refine x_loop (fun k_ E w => ∃ (q1y : Option Addr) (q18 : Nat) (c_b20_0_L7h : Nat) (q1p : List Value) (q1u : List (Int × Int)) (q1v : List T_global_step), nlp (P_global_plan_reach_L7 q0j q0k q0l q0p q0q q0r q0m q0n q0o want2) k_ (q1u, q1v) oL7 ∧ E 0 = .pointer (some ⟨q8, 0, none⟩) ∧ E 2 = .map (some q5) ∧ E 7 = .pointer (some ⟨b20, 0, none⟩) ∧ E 8 = .map (some b21) ∧ RepL R_global_step ρ q1v q1p ∧ St w0 w (cells q8 73 [.int .i64 q0j, .int .i64 q0k, .int .i64 q0l, .slice q9 q0p.length c_p0_3, .slice q0a q0q.length c_p0_4, .slice q0b q0r.length c_p0_5, .map (some q2), .map (some q3), .map (some q4)] :: mapD q5 (Value.int .i64) Value.bool want2 :: cells b20 94 [.slice q1y q18 c_b20_0_L7h] :: mapA b21 (Value.int .i64) (Value.int .i64) q1u :: mapA q2 kf_53 (Value.int .i64) q0m :: mapA q3 kf_53 (Value.int .i64) q0n :: mapA q4 kf_53 (Value.int .i64) q0o :: vec 96 R_global_step.sz (.slice q1y q18 c_b20_0_L7h) q18 q1p :: mapA q7 (Value.int .i64) Value.bool has1 :: ro ρ :: l)) fuel ⟨q1k, q22.length, c_b20_0_L3, q28, [], q4j, hLL7, q49, q4a, q3j, q4b, q29, ((((((((((hS.pull 2).pull 9).pull 3).pull 9).pull 9).pull 9).pull 9).pull 7).pull 9).pull 9)⟩ ?_
  rintro kL7 E w ⟨q1y, q18, c_b20_0_L7h, q1p, q1u, q1v, hLL7, q32, q33, q2p, q2a, q1z, hS⟩
  have e_ := St.vec_n (hS.pull 7) q1z; subst e_
  replace hLL7 := nlp_s hLL7; obtain ⟨kL7, obL7, rfl, hFL7, hLL7⟩ := hLL7
  replace hFL7 := nbd_s hFL7; obtain ⟨q4k, q4d, hFL7⟩ := hFL7
  refine x_seq <| x_seq <| x_region <| p (yl_move q2p) <|
   p (yl_nilCheck rfl) <| pa (at_load one_94 rfl ((hS.pull 2).cell rfl)) <| ?_
  have q_ := St.lend ((hS.pull 9).pull 8) q1z; obtain ⟨ρl0, hll0, hlf0, hS0, back0⟩ := q_
  have hcall := c_global_queue_Len q4d hlf0 hS0
  refine o_cc call_40 (args1 rfl) ((Calls.mono hcall (fun e w'' h => And.intro h.1 (((((((((((back0 h.2).pull 1).pull 9).pull 2).pull 9).pull 9).pull 9).pull 9).pull 9).pull 9).pull 9)))) ?_
  rintro e w' ⟨rfl, hS⟩
  refine ⟨_, rfl, ?_⟩
  refine p (yl_gtr rfl rfl) <| x_done <|
   x_cond_p (0 < (q1v.length : Int)) rfl (fun hc44 => ?_) (fun hc44 => ?_)
  ·replace hFL7 := nit_t hc44 hFL7
   refine x_skip <| ?_
   replace hFL7 := nbs_j hFL7; obtain ⟨ob3, hFb3, hFL7⟩ := hFL7
   refine x_join (fun E w => ∃ (q1m : Option Addr) (q1n : Nat) (c_b20_0_b3 : Nat) (q19 : List Value) (q23 : List (Int × Int)) (q1q : List T_global_step), ob3 (Sum.inl (q23, q1q)) ∧ E 0 = .pointer (some ⟨q8, 0, none⟩) ∧ E 2 = .map (some q5) ∧ E 7 = .pointer (some ⟨b20, 0, none⟩) ∧ E 8 = .map (some b21) ∧ RepL R_global_step ρ q1q q19 ∧ St w0 w (cells q8 73 [.int .i64 q0j, .int .i64 q0k, .int .i64 q0l, .slice q9 q0p.length c_p0_3, .slice q0a q0q.length c_p0_4, .slice q0b q0r.length c_p0_5, .map (some q2), .map (some q3), .map (some q4)] :: mapD q5 (Value.int .i64) Value.bool want2 :: cells b20 94 [.slice q1m q1n c_b20_0_b3] :: mapA b21 (Value.int .i64) (Value.int .i64) q23 :: mapA q2 kf_53 (Value.int .i64) q0m :: mapA q3 kf_53 (Value.int .i64) q0n :: mapA q4 kf_53 (Value.int .i64) q0o :: vec 96 R_global_step.sz (.slice q1m q1n c_b20_0_b3) q1n q19 :: mapA q7 (Value.int .i64) Value.bool has1 :: ro ρ :: l)) ?_ ?_
   ·replace hFb3 := nbd_s hFb3; obtain ⟨q6, q4e, hFb3⟩ := hFb3
    refine x_block <| x_seq <| x_region <| p (yl_move q2p) <|
     p (v := .iface 92 (.pointer (some ⟨b20, 0, none⟩))) (yl_iface conc_92 rfl) <| ?_
    have hcall := c_container_heap_Pop q4e q1z (((hS.pull 9).pull 8).pull 4)
    refine o_cc call_41 (args1 rfl) hcall ?_
    rintro e w' ⟨q1g, q39, c_b_h0_0_0_ret_8_2, q14, rfl, q0e, hS⟩
    refine ⟨_, rfl, ?_⟩
    have e_ := St.vec_n (hS.pull 1) q0e; subst e_
    refine p (v := .agg #[.int .i64 q6.1.fat, .int .i64 q6.1.fcost, .int .i64 q6.1.ffrom]) (yl_assert conc_96 rfl) <| ?_
    refine o_alloc zero_96 hS (fun b10 w' hS => ?_)
    refine o_storeAgg (news := [.int .i64 q6.1.fat, .int .i64 q6.1.fcost, .int .i64 q6.1.ffrom]) agg_96 rfl rfl rfl (by simp [over_length]) hS (fun w' hS => ?_)
    replace hFb3 := nlv_s hFb3; obtain ⟨x53, hx53, hFb3⟩ := hFb3
    replace hFb3 := nlv_s hFb3; obtain ⟨q53, hq53, hFb3⟩ := hFb3
    refine x_done <| x_seq <| x_seq <| x_region <|
     p (yl_move q2a) <| p (yl_field0 fld_96_0 rfl) <| pa (at_load one_3 rfl (hS.cell rfl)) <| pa (at_look2 (k := q6.1.fat) um_89 (KeyP.int ui_3) (zero1 zv_3) rfl rfl (hS.pull 6) hx53 hq53) <|
     p (yl_move rfl) <| p (yl_extract rfl rfl) <| p (yl_extract rfl rfl) <| p (yl_assign rfl) <|
     p (yl_assign rfl) <| x_done <| x_seq <| x_region <|
     p (yl_move rfl) <| x_done <|
     x_cond (t := q53) rfl (fun hc56 => ?_) (fun hc56 => ?_)
    ·replace hFb3 := nit_t hc56 hFb3
     refine x_exitTo _ rfl <| ?_
     exact x_inv ⟨q1g, q6.2.length, c_b_h0_0_0_ret_8_2, q14, q1u, q6.2, hFb3, q32, q33, q2p, q2a, q0e, ((((((((((hS.drop.pull 2).pull 9).pull 3).pull 9).pull 9).pull 9).pull 9).pull 7).pull 9).pull 9)⟩
    ·replace hFb3 := nit_bf hc56 hFb3
     refine x_skip <| x_seq <| x_region <| p (yl_move q2a) <|
      p (yl_field0 fld_96_0 rfl) <| pa (at_load one_3 rfl (hS.cell rfl)) <| p (yl_field0 fld_96_2 rfl) <| pa (at_load one_3 rfl (hS.cell rfl)) <| ?_
     replace hFb3 := nlv_s hFb3; obtain ⟨q24, q3u, hFb3⟩ := hFb3
     refine o_mapset (k := q6.1.fat) (vf := (Value.int .i64)) (v := q6.1.ffrom) um_89 (KeyP.int ui_3) rfl rfl rfl (hS.pull 6) q3u (fun w' hS => ?_)
     replace hFb3 := nlv_s hFb3; obtain ⟨x65, hx65, hFb3⟩ := hFb3
     refine x_done <| x_seq <| x_seq <| x_region <|
      p (yl_move q33) <| p (yl_field0 fld_96_0 rfl) <| pa (at_load one_3 rfl ((hS.pull 1).cell rfl)) <| pa (at_lookD (k := q6.1.fat) um_84 (KeyP.int ui_3) (zero1 zv_4) rfl rfl (hS.pull 6) hx65) <|
      x_done <|
      x_cond (t := x65) rfl (fun hc65 => ?_) (fun hc65 => ?_)
     ·replace hFb3 := nit_t hc65 hFb3
      refine x_seq <| x_region <| p (yl_assign rfl) <| x_done <|
       x_seq <| x_seq <| x_region <| p (yl_field0 fld_96_0 rfl) <|
       pa (at_load one_3 rfl ((hS.pull 1).cell rfl)) <| p (yl_assign rfl) <| x_done <| ?_
      replace hFb3 := nbd_j hFb3; obtain ⟨oL15, hLL15, hFb3⟩ := hFb3
      refine x_join (fun E w => ∃ (q1a : Option Addr) (q1b : Nat) (c_out13_L15 : Nat) (q0t : List Value) (q1h : List T_global_Edge), oL15 q1h ∧ E 13 = .slice q1a q1b c_out13_L15 ∧ RepL R_global_Edge ρ q1h q0t ∧ St w0 w (vec 53 R_global_Edge.sz (.slice q1a q1b c_out13_L15) q1b q0t :: cells q8 73 [.int .i64 q0j, .int .i64 q0k, .int .i64 q0l, .slice q9 q0p.length c_p0_3, .slice q0a q0q.length c_p0_4, .slice q0b q0r.length c_p0_5, .map (some q2), .map (some q3), .map (some q4)] :: mapA q2 kf_53 (Value.int .i64) q0m :: mapA q3 kf_53 (Value.int .i64) q0n :: mapA q4 kf_53 (Value.int .i64) q0o :: mapA q7 (Value.int .i64) Value.bool has1 :: mapD q5 (Value.int .i64) Value.bool want2 :: ro ρ :: l)) ?_ ?_
      ·refine x_block ?_
       replace hS := St.vec_nil hS 53 R_global_Edge.sz
       have q2h : RepL R_global_Edge ρ [] [] := rfl
       refine x_loop (fun k_ E w => ∃ (q0u : Option Addr) (q0v : Nat) (c_out13_L15h : Nat) (q0g : List Value) (q0w : List T_global_Edge) (q15 : Int), nlp (P_global_plan_reach_L15 q24) k_ (q0w, q15) oL15 ∧ E 8 = .map (some b21) ∧ E 13 = .slice q0u q0v c_out13_L15h ∧ E 14 = .int .i64 q15 ∧ RepL R_global_Edge ρ q0w q0g ∧ St w0 w (mapA b21 (Value.int .i64) (Value.int .i64) q24 :: vec 53 R_global_Edge.sz (.slice q0u q0v c_out13_L15h) q0v q0g :: cells q8 73 [.int .i64 q0j, .int .i64 q0k, .int .i64 q0l, .slice q9 q0p.length c_p0_3, .slice q0a q0q.length c_p0_4, .slice q0b q0r.length c_p0_5, .map (some q2), .map (some q3), .map (some q4)] :: mapA q2 kf_53 (Value.int .i64) q0m :: mapA q3 kf_53 (Value.int .i64) q0n :: mapA q4 kf_53 (Value.int .i64) q0o :: mapA q7 (Value.int .i64) Value.bool has1 :: mapD q5 (Value.int .i64) Value.bool want2 :: ro ρ :: l)) fuel ⟨none, 0, 0, [], [], q6.1.fat, hLL15, q2a, rfl, rfl, q2h, ((((((((((((hS.pull 2).drop.pull 2).drop.pull 2).drop.pull 2).pull 4).pull 8).pull 8).pull 8).pull 8).pull 8).pull 7).pull 8)⟩ ?_
       rintro kL15 E w ⟨q0u, q0v, c_out13_L15h, q0g, q0w, q15, hLL15, q2d, q34, q25, q1r, hS⟩
       have e_ := St.vec_n (hS.pull 1) q1r; subst e_
       replace hLL15 := nlp_s hLL15; obtain ⟨kL15, obL15, rfl, hFL15, hLL15⟩ := hLL15
       unfold P_global_plan_reach_L15 at hFL15; try dsimp only at hFL15
       replace hFL15 := nlv_s hFL15; obtain ⟨x70, hx70, hFL15⟩ := hFL15
       refine x_seq <| x_seq <| x_region <| p (yl_move q2d) <|
        p (yl_move q25) <| pa (at_look (k := q15) um_89 (KeyP.int ui_3) (zero1 zv_3) rfl rfl hS hx70) <| p (yl_geq rfl rfl) <| x_done <|
        x_cond_p (0 ≤ x70) rfl (fun hc71 => ?_) (fun hc71 => ?_)
       ·replace hFL15 := nit_t hc71 hFL15
        replace hFL15 := nlv_s hFL15; obtain ⟨x79, hx79, hFL15⟩ := hFL15
        replace hFL15 := nbd_s hFL15; obtain ⟨q1o, q3v, hFL15⟩ := hFL15
        refine x_skip <| x_seq <| x_block <| x_region <|
         p (yl_move q34) <| p (yl_move q25) <| p (yl_move q2d) <| p (yl_move q25) <|
         pa (at_look (k := q15) um_89 (KeyP.int ui_3) (zero1 zv_3) rfl rfl hS hx79) <| ?_
        have hcall := c_global_edge q3v  (hS.pull 8)
        refine o_cc call_42 (args2 rfl rfl) ((Calls.mono hcall (fun e w'' h => And.intro h.1 ((((((((h.2.pull 8).pull 8).pull 8).pull 8).pull 8).pull 8).pull 8).pull 8)))) ?_
        rintro e w' ⟨rfl, hS⟩
        refine ⟨_, rfl, ?_⟩
        refine o_buildSlice (vs := [.agg #[.int .i64 q1o.From, .int .i64 q1o.To]]) (cs := [.int .i64 q1o.From, .int .i64 q1o.To]) sl_51 zero_53 (parts_eq (pt (va := .agg #[.int .i64 q1o.From, .int .i64 q1o.To]) rfl pt0)) rfl (by intro v hv; simp only [List.mem_cons, List.not_mem_nil, or_false] at hv; first | (subst hv; rfl) | (rcases hv with rfl <;> rfl)) (by decide) rfl hS (fun b81 w' hS => ?_)
        replace hFL15 := nlv_s hFL15; obtain ⟨q3k, q3w, hFL15⟩ := hFL15
        replace hFL15 := nck_s hFL15; obtain ⟨q3x, hFL15⟩ := hFL15
        refine o_ap sl_51 zero_53 rfl (by decide) rfl rfl (hS.pull 2) q1r (src_blk usl_51 hS rfl rfl) (RepL.cons (R := R_global_Edge) (ρ := ρ) (x := q1o) (cs := [.int .i64 q1o.From, .int .i64 q1o.To]) rfl RepL.nil) q3w q3x (fun A82 c82 cs82 w' hr82 hS => ?_)
        replace hFL15 := nlv_s hFL15; obtain ⟨x74, hx74, hFL15⟩ := hFL15
        refine p (yl_assign rfl) <| x_done <| x_blk <| x_region <|
         p (yl_move q2d) <| p (yl_move q25) <| pa (at_look (k := q15) um_89 (KeyP.int ui_3) (zero1 zv_3) rfl rfl (hS.pull 2) hx74) <| p (yl_assign rfl) <|
         x_done <| ?_
        exact x_inv ⟨kL15, Nat.lt_succ_self _, A82, q3k.length, c82, cs82, q3k, x74, (hLL15 _ hFL15), q2d, rfl, rfl, hr82, ((((((((((hS.pull 1).drop.pull 8).pull 8).pull 8).pull 8).pull 8).pull 8).pull 8).pull 7).pull 8)⟩
       ·replace hFL15 := nit_f hc71 hFL15
        refine x_exitTo _ rfl <| ?_
        exact x_inv ⟨q0u, q0w.length, c_out13_L15h, q0g, q0w, (hLL15 _ hFL15), q34, q1r, ((((((((hS.drop.pull 7).pull 7).pull 7).pull 7).pull 7).pull 7).pull 7).pull 7)⟩
      rintro E w ⟨q1a, q1b, c_out13_L15, q0t, q1h, hq_, q3m, q2i, hS⟩
      replace hFb3 := hFb3 _ hq_
      clear hq_
      have e_ := St.vec_n hS q2i; subst e_
      refine x_seq <| x_region <| p (yl_move q3m) <| p (yl_assign rfl) <|
       x_done <| ?_
      exact x_return ⟨_, ⟨_, _, rfl, rfl, rfl⟩, q1h, (hF _ (hLL7 _ (hFL7 _ hFb3))), q1a, q1h.length, c_out13_L15, q0t, rfl, q2i, ((((((((hS.pull 7).pull 7).pull 7).pull 7).pull 7).pull 7).pull 7).pull 7)⟩
     ·replace hFb3 := nit_bf hc65 hFb3
      replace hFb3 := nbd_s hFb3; obtain ⟨q1c, q3y, hFb3⟩ := hFb3
      refine x_skip <| x_seq <| x_region <| p (yl_move q32) <|
       p (yl_field0 fld_96_0 rfl) <| pa (at_load one_3 rfl ((hS.pull 1).cell rfl)) <| ?_
      have hcall := c_global_plan_beside q3y q2y q2z q30 (((((hS.pull 4).pull 9).pull 9).pull 9).pull 8)
      refine o_cc call_43 (args2 rfl rfl) hcall ?_
      rintro e w' ⟨q0h, q3t, c_y0_ret_19_3, q20, rfl, q1j, hS⟩
      refine ⟨_, rfl, ?_⟩
      have e_ := St.vec_n hS q1j; subst e_
      refine p (yl_len_slice usl_22 rfl) <| p (yl_move rfl) <| x_done <| ?_
      replace hFb3 := nbd_j hFb3; obtain ⟨oL20, hLL20, hFb3⟩ := hFb3
      refine x_join (fun E w => ∃ (q1d : Option Addr) (q1e : Nat) (c_b20_0_L20 : Nat) (q0x : List Value) (q1i : List T_global_step), oL20 q1i ∧ E 0 = .pointer (some ⟨q8, 0, none⟩) ∧ E 2 = .map (some q5) ∧ E 7 = .pointer (some ⟨b20, 0, none⟩) ∧ E 8 = .map (some b21) ∧ RepL R_global_step ρ q1i q0x ∧ St w0 w (cells q8 73 [.int .i64 q0j, .int .i64 q0k, .int .i64 q0l, .slice q9 q0p.length c_p0_3, .slice q0a q0q.length c_p0_4, .slice q0b q0r.length c_p0_5, .map (some q2), .map (some q3), .map (some q4)] :: mapD q5 (Value.int .i64) Value.bool want2 :: cells b20 94 [.slice q1d q1e c_b20_0_L20] :: mapA b21 (Value.int .i64) (Value.int .i64) q24 :: mapA q2 kf_53 (Value.int .i64) q0m :: mapA q3 kf_53 (Value.int .i64) q0n :: mapA q4 kf_53 (Value.int .i64) q0o :: vec 96 R_global_step.sz (.slice q1d q1e c_b20_0_L20) q1e q0x :: mapA q7 (Value.int .i64) Value.bool has1 :: ro ρ :: l)) ?_ ?_
      ·refine x_block ?_
       refine x_loop (fun k_ E w => ∃ (q0f : Option Addr) (q0y : Nat) (c_b20_0_L20h : Nat) (q0d : List Value) (q1s : Int) (q0c : List T_global_step), nlp (P_global_plan_reach_L20 q0j q0k q0l q0p q0q q0r q0m q0n q0o q6 q24 q1c) k_ (q1s, q0c) oL20 ∧ E 0 = .pointer (some ⟨q8, 0, none⟩) ∧ E 2 = .map (some q5) ∧ E 7 = .pointer (some ⟨b20, 0, none⟩) ∧ E 8 = .map (some b21) ∧ E 10 = .pointer (some ⟨b10, 0, none⟩) ∧ E 87 = .slice q0h q1c.length c_y0_ret_19_3 ∧ E 88 = .int .i64 (q1c.length : Int) ∧ E 89 = .int .i64 q1s ∧ RepL R_global_step ρ q0c q0d ∧ St w0 w (cells q8 73 [.int .i64 q0j, .int .i64 q0k, .int .i64 q0l, .slice q9 q0p.length c_p0_3, .slice q0a q0q.length c_p0_4, .slice q0b q0r.length c_p0_5, .map (some q2), .map (some q3), .map (some q4)] :: mapD q5 (Value.int .i64) Value.bool want2 :: cells b20 94 [.slice q0f q0y c_b20_0_L20h] :: mapA b21 (Value.int .i64) (Value.int .i64) q24 :: cells b10 96 [.int .i64 q6.1.fat, .int .i64 q6.1.fcost, .int .i64 q6.1.ffrom] :: vec 3 (RpI .i64).sz (.slice q0h q1c.length c_y0_ret_19_3) q1c.length q20 :: mapA q2 kf_53 (Value.int .i64) q0m :: mapA q3 kf_53 (Value.int .i64) q0n :: mapA q4 kf_53 (Value.int .i64) q0o :: vec 96 R_global_step.sz (.slice q0f q0y c_b20_0_L20h) q0y q0d :: mapA q7 (Value.int .i64) Value.bool has1 :: ro ρ :: l)) fuel ⟨q1g, q6.2.length, c_b_h0_0_0_ret_8_2, q14, 0, q6.2, hLL20, q32, q33, q2p, q2a, rfl, rfl, rfl, rfl, q0e, ((((((((((((hS.pull 5).pull 11).pull 10).pull 7).pull 7).pull 7).pull 6).pull 9).pull 9).pull 10).pull 11).pull 11)⟩ ?_
       rintro kL20 E w ⟨q0f, q0y, c_b20_0_L20h, q0d, q1s, q0c, hLL20, q2e, q2s, q2f, q2g, q1t, q2l, q2m, q26, q0z, hS⟩
       have e_ := St.vec_n (hS.pull 9) q0z; subst e_
       replace hLL20 := nlp_s hLL20; obtain ⟨kL20, obL20, rfl, hFL20, hLL20⟩ := hLL20
       refine x_seq <| x_region <| p (yl_lss q26 q2m) <| x_done <|
        x_seq <|
        x_cond_p (q1s < (q1c.length : Int)) rfl (fun hc90 => ?_) (fun hc90 => ?_)
       ·replace hFL20 := nit_t hc90 hFL20
        replace hFL20 := nck_s hFL20; obtain ⟨q3a, hFL20⟩ := hFL20
        replace hFL20 := nlv_s hFL20; obtain ⟨x92, hx92, hFL20⟩ := hFL20
        replace hFL20 := nlv_s hFL20; obtain ⟨x96, hx96, hFL20⟩ := hFL20
        replace hFL20 := nlv_s hFL20; obtain ⟨q96, hq96, hFL20⟩ := hFL20
        refine x_skip <| x_seq <| x_block <| x_seq <|
         x_region <| p (yix_o sl_22 q2l q26 (hS.pull 5) q1j q3a) <| pa (at_load one_3 rfl (RepL.getW q1j (hS.pull 5) q3a hx92)) <| p (yl_assign rfl) <|
         x_done <| x_seq <| x_region <| p (yl_move q2g) <|
         p (yl_move rfl) <| pa (at_look2 (k := x92) um_89 (KeyP.int ui_3) (zero1 zv_3) rfl rfl (hS.pull 3) hx96 hq96) <| p (yl_move rfl) <| p (yl_extract rfl rfl) <|
         p (yl_extract rfl rfl) <| p (yl_assign rfl) <| p (yl_assign rfl) <| x_done <|
         x_seq <| x_region <| p (yl_move rfl) <| p (yl_not rfl) <|
         x_done <| ?_
        replace hFL20 := nbd_j hFL20; obtain ⟨oc100, hFc100, hFL20⟩ := hFL20
        refine x_join (fun E w => ∃ (q10 : Option Addr) (q11 : Nat) (c_b20_0_c100 : Nat) (q0i : List Value) (q12 : List T_global_step), oc100 q12 ∧ E 0 = .pointer (some ⟨q8, 0, none⟩) ∧ E 2 = .map (some q5) ∧ E 7 = .pointer (some ⟨b20, 0, none⟩) ∧ E 8 = .map (some b21) ∧ E 10 = .pointer (some ⟨b10, 0, none⟩) ∧ E 87 = .slice q0h q1c.length c_y0_ret_19_3 ∧ E 88 = .int .i64 (q1c.length : Int) ∧ E 89 = .int .i64 q1s ∧ RepL R_global_step ρ q12 q0i ∧ St w0 w (cells q8 73 [.int .i64 q0j, .int .i64 q0k, .int .i64 q0l, .slice q9 q0p.length c_p0_3, .slice q0a q0q.length c_p0_4, .slice q0b q0r.length c_p0_5, .map (some q2), .map (some q3), .map (some q4)] :: mapD q5 (Value.int .i64) Value.bool want2 :: cells b20 94 [.slice q10 q11 c_b20_0_c100] :: mapA b21 (Value.int .i64) (Value.int .i64) q24 :: cells b10 96 [.int .i64 q6.1.fat, .int .i64 q6.1.fcost, .int .i64 q6.1.ffrom] :: vec 3 (RpI .i64).sz (.slice q0h q1c.length c_y0_ret_19_3) q1c.length q20 :: mapA q2 kf_53 (Value.int .i64) q0m :: mapA q3 kf_53 (Value.int .i64) q0n :: mapA q4 kf_53 (Value.int .i64) q0o :: vec 96 R_global_step.sz (.slice q10 q11 c_b20_0_c100) q11 q0i :: mapA q7 (Value.int .i64) Value.bool has1 :: ro ρ :: l)) ?_ ?_
        ·refine x_cond (t := !q96) rfl (fun hc100 => ?_) (fun hc100 => ?_)
         ·replace hFc100 := nit_t hc100 hFc100
          replace hFc100 := nbd_s hFc100; obtain ⟨q3l, q3z, hFc100⟩ := hFc100
          replace hFc100 := nbd_s hFc100; obtain ⟨q40, q3n, hFc100⟩ := hFc100
          replace hFc100 := nar_s hFc100; obtain ⟨x112, hx112, hFc100⟩ := hFc100
          refine x_head 16 mixed (by kernel_rfl) hS _ _ rfl rfl <| q (yl_move q2f) <| q (v := .iface 92 (.pointer (some ⟨b20, 0, none⟩))) (yl_iface conc_92 rfl) <| q (yl_move rfl) <|
           q (yl_field0 fld_96_1 q1t) <| qa (fun w' hS => at_load one_3 rfl ((hS.pull 4).cell rfl)) <| q (yl_move q2e) <| q (yl_field0 fld_96_0 q1t) <|
           qa (fun w' hS => at_load one_3 rfl ((hS.pull 4).cell rfl)) <| q (yl_move rfl) <| qcc (v := .agg #[.int .i64 q3l.From, .int .i64 q3l.To]) call_42 (args2 rfl rfl) (fun w' hS => by
            have hcall := c_global_edge q3z  (hS.pull 11)
            exact (Calls.mono hcall (fun e w'' h => And.intro h.1 (((((((((((h.2.pull 11).pull 11).pull 11).pull 11).pull 11).pull 11).pull 11).pull 11).pull 11).pull 11).pull 11)))) <| qcc (v := .int .i64 q40) call_45 (args2 rfl rfl) (fun w' hS => by
            have hcall := c_global_plan_price q3n q2y q2z q30 (((((hS.pull 11).pull 9).pull 9).pull 9).pull 4)
            exact (Calls.mono hcall (fun e w'' h => And.intro h.1 ((((((((((((h.2.pull 4).pull 11).pull 11).pull 6).pull 6).pull 6).pull 11).pull 11).pull 11).pull 11).pull 11).pull 11)))) <|
           q (yadd rfl rfl hx112) <| q (yl_field0 fld_96_0 q1t) <| qa (fun w' hS => at_load one_3 rfl ((hS.pull 4).cell rfl)) <| q (v := .agg #[.int .i64 x92, .int .i64 x112, .int .i64 q6.1.fat]) (yl_build bld_96 bldf_96 (parts_eq (pt (va := .int .i64 x92) rfl (pt (va := .int .i64 x112) rfl (pt (va := .int .i64 q6.1.fat) rfl pt0)))) (by kernel_rfl)) <|
           q (v := .iface 96 (.agg #[.int .i64 x92, .int .i64 x112, .int .i64 q6.1.fat])) (yl_iface conc_96 rfl) <|
           q_done fun w' hS => ?_
          replace hFc100 := nbd_s hFc100; obtain ⟨q3b, q3o, hFc100⟩ := hFc100
          have hcall := c_container_heap_Push q3o q0z (((hS.pull 11).pull 10).pull 4)
          refine o_cc call_44 (args2 rfl rfl) hcall ?_
          rintro e w' ⟨q27, q35, c_b_h0_0_0_ret_24_16, q21, rfl, q13, hS⟩
          refine ⟨_, rfl, ?_⟩
          have e_ := St.vec_n (hS.pull 1) q13; subst e_
          refine x_done <| ?_
          exact x_inv ⟨q27, q3b.length, c_b_h0_0_0_ret_24_16, q21, q3b, hFc100, q2e, q2s, q2f, q2g, q1t, q2l, q2m, q26, q13, ((((((((((((hS.pull 2).pull 11).pull 3).pull 11).pull 11).pull 11).pull 11).pull 11).pull 11).pull 9).pull 11).pull 11)⟩
         ·replace hFc100 := nit_bf hc100 hFc100
          refine x_skip <| ?_
          exact x_inv ⟨q0f, q0c.length, c_b20_0_L20h, q0d, q0c, hFc100, q2e, q2s, q2f, q2g, q1t, q2l, q2m, q26, q0z, ((((((((((((hS.pull 11).pull 11).pull 11).pull 11).pull 11).pull 11).pull 11).pull 11).pull 11).pull 11).pull 11).pull 11)⟩
        rintro E w ⟨q10, q11, c_b20_0_c100, q0i, q12, hq_, q3p, q3q, q3r, q3s, q3e, q3f, q3g, q3h, q2b, hS⟩
        replace hFL20 := hFL20 _ hq_
        clear hq_
        have e_ := St.vec_n (hS.pull 9) q2b; subst e_
        replace hFL20 := nar_s hFL20; obtain ⟨x118, hx118, hFL20⟩ := hFL20
        refine x_blk <| x_region <| p (yadd q3h rfl hx118) <| p (yl_move rfl) <|
         x_done <| ?_
        exact x_inv ⟨kL20, Nat.lt_succ_self _, q10, q12.length, c_b20_0_c100, q0i, x118, q12, (hLL20 _ hFL20), q3p, q3q, q3r, q3s, q3e, q3f, q3g, rfl, q2b, ((((((((((((hS.pull 11).pull 11).pull 11).pull 11).pull 11).pull 11).pull 11).pull 11).pull 11).pull 11).pull 11).pull 11)⟩
       ·replace hFL20 := nit_f hc90 hFL20
        refine x_exitTo _ rfl <| ?_
        exact x_inv ⟨q0f, q0c.length, c_b20_0_L20h, q0d, q0c, (hLL20 _ hFL20), q2e, q2s, q2f, q2g, q0z, ((((((((((((hS.pull 4).drop.pull 4).drop.pull 9).pull 9).pull 9).pull 9).pull 9).pull 9).pull 9).pull 9).pull 9).pull 9)⟩
      rintro E w ⟨q1d, q1e, c_b20_0_L20, q0x, q1i, hq_, q41, q42, q43, q44, q2j, hS⟩
      replace hFb3 := hFb3 _ hq_
      clear hq_
      have e_ := St.vec_n (hS.pull 7) q2j; subst e_
      refine x_blk <| ?_
      exact x_inv ⟨q1d, q1i.length, c_b20_0_L20, q0x, q24, q1i, hFb3, q41, q42, q43, q44, q2j, ((((((((((hS.pull 9).pull 9).pull 9).pull 9).pull 9).pull 9).pull 9).pull 9).pull 9).pull 9)⟩
   rintro E w ⟨q1m, q1n, c_b20_0_b3, q19, q23, q1q, hq_, q4f, q4g, q4h, q4i, q2q, hS⟩
   replace hFL7 := hFL7 _ hq_
   clear hq_
   have e_ := St.vec_n (hS.pull 7) q2q; subst e_
   exact x_inv ⟨kL7, Nat.lt_succ_self _, q1m, q1q.length, c_b20_0_b3, q19, q23, q1q, (hLL7 _ hFL7), q4f, q4g, q4h, q4i, q2q, ((((((((((hS.pull 9).pull 9).pull 9).pull 9).pull 9).pull 9).pull 9).pull 9).pull 9).pull 9)⟩
  ·replace hFL7 := nit_f hc44 hFL7
   refine x_exitTo _ rfl <| ?_
   exact x_inv ⟨(hLL7 _ hFL7), ((((((((((hS.pull 2).drop.pull 2).drop.pull 5).drop.pull 6).pull 2).pull 6).pull 6).pull 6).pull 6).pull 6)⟩
 rintro E w ⟨hq_, hS⟩
 replace hF := hF _ hq_
 clear hq_
 refine x_seq <| x_region <| p (yl_assign rfl) <| x_done <| ?_
 replace hS := St.vec_nil hS 53 R_global_Edge.sz
 have q2u : RepL R_global_Edge ρ [] [] := rfl
 exact x_return ⟨_, ⟨_, _, rfl, rfl, rfl⟩, [], hF, none, 0, 0, [], rfl, q2u, ((((((((hS.pull 7).pull 7).pull 7).pull 7).pull 7).pull 7).pull 7).pull 7)⟩
attribute [irreducible] P_global_plan_reach

def P_global_plan_way_L4 (q0b : Int) (q0c : Int) (q0d : Int) (q0e : List T_floor_Block) (q0f : List T_floor_Wall) (q0g : List T_floor_Port) (n1 : T_legal_Net) : (List (Int × Bool) × List (Int × Bool) × Int) → Nd ((List (Int × Bool) × List (Int × Bool) × Int) ⊕ (List (Int × Bool) × List (Int × Bool))) := fun (q4, q2, q3) =>
 if q3 < (n1.Pins.length : Int) then
  nck (inb q3 n1.Pins.length) <|
  nlv (gt n1.Pins q3) fun q9 =>
  nbd (nof (P_global_Of (T_floor_Floor.mk q0b q0c q0d q0e q0f q0g) (T_floor_Point.mk q9.At.X q9.At.Y))) fun q7 =>
  nbd (
   if q3 = 0 then
    nlv (mput q7 true q4) fun q0h =>
    nret (q0h, q2)
   else
    nlv (mget q7 q4 false) fun x37 =>
    nbd (
     if (!x37) = true then
      nlv (mput q7 true q2) fun q0a =>
      nret q0a
     else
      nret q2) fun q5 =>
    nret (q4, q5)) fun (q8, q6) =>
  nar (q3 + 1) fun x41 =>
  nret (Sum.inl (q8, q6, x41))
 else
  nret (Sum.inr (q4, q2))
def P_global_plan_way_L14 (q5 : List T_global_Edge) : (List T_global_Edge × List (Int × Bool) × Int) → Nd ((List T_global_Edge × List (Int × Bool) × Int) ⊕ (List T_global_Edge × List (Int × Bool))) := fun (q3, q4, q2) =>
 if q2 < (q5.length : Int) then
  nck (inb q2 q5.length) <|
  nlv (gt q5 q2) fun q6 =>
  nlv (mput q6.From true q4) fun q8 =>
  nlv (mput q6.To true q8) fun q9 =>
  nlv (q3 ++ [q6]) fun q7 =>
  nck (apOk 16 q7.length) <|
  nar (q2 + 1) fun x64 =>
  nret (Sum.inl (q7, q9, x64))
 else
  nret (Sum.inr (q3, q4))
def P_global_plan_way_L20 (q3 : List (Int × Bool)) : (List (Int × Bool) × List Nat) → Nd ((List (Int × Bool) × List Nat) ⊕ List (Int × Bool)) := fun (q2, q4) =>
 nnx (q3.length) q4 (
  nret (Sum.inr q2)) fun i67 =>
 nlv (gt q3 i67) fun e69 =>
 nlv (mdel e69.1 q2) fun q5 =>
 nret (Sum.inl (q5, (q4 ++ [i67])))
def P_global_plan_way_L12 (q9 : Int) (q0a : Int) (q0b : Int) (q0c : List T_floor_Block) (q0d : List T_floor_Wall) (q0e : List T_floor_Port) (q0f : List (T_global_Edge × Int)) (q0g : List (T_global_Edge × Int)) (q0h : List (T_global_Edge × Int)) : (List T_global_Edge × List (Int × Bool) × List (Int × Bool)) → Nd ((List T_global_Edge × List (Int × Bool) × List (Int × Bool)) ⊕ List T_global_Edge) := fun (q3, q4, q2) =>
 if 0 < (q2.length : Int) then
  nbd (P_global_plan_reach q9 q0a q0b q0c q0d q0e q0f q0g q0h q4 q2) fun q8 =>
  nbd (
   nlp (P_global_plan_way_L14 q8) fuel (q3, q4, 0)) fun (q7, q5) =>
  nbd (
   nlp (P_global_plan_way_L20 q5) fuel (q2, [])) fun q6 =>
  nret (Sum.inl (q7, q5, q6))
 else
  nret (Sum.inr q3)
def P_global_plan_way (q5 : Int) (q6 : Int) (q7 : Int) (q8 : List T_floor_Block) (q9 : List T_floor_Wall) (q0a : List T_floor_Port) (q0b : List (T_global_Edge × Int)) (q0c : List (T_global_Edge × Int)) (q0d : List (T_global_Edge × Int)) (n1 : T_legal_Net) : Nd (List T_global_Edge) :=
 nbd (
  nlp (P_global_plan_way_L4 q5 q6 q7 q8 q9 q0a n1) fuel ([], [], 0)) fun (q4, q2) =>
 nbd (
  nlp (P_global_plan_way_L12 q5 q6 q7 q8 q9 q0a q0b q0c q0d) fuel ([], q4, q2)) fun q3 =>
 nret q3
theorem c_global_plan_way {w0 w : World} {l : List Assn} {ρ : Heap} {q6 : Nat} {q7 : Option Addr} {q2b : Nat} {c_p0_3 : Nat} {q8 : Option Addr} {q2c : Nat} {c_p0_4 : Nat} {q9 : Option Addr} {q2d : Nat} {c_p0_5 : Nat} {q2 : Nat} {q3 : Nat} {q4 : Nat} {q1h : Option Addr} {q2v : Nat} {c_n1_1 : Nat} {q0e : Int} {q0f : Int} {q0g : Int} {q0m : List T_floor_Block} {q0n : List T_floor_Wall} {q0o : List T_floor_Port} {q0r : List (T_global_Edge × Int)} {q0s : List (T_global_Edge × Int)} {q0t : List (T_global_Edge × Int)} {n1 : T_legal_Net} {Q : List T_global_Edge → Prop} (hF : P_global_plan_way q0e q0f q0g q0m q0n q0o q0r q0s q0t n1 Q) (q2e : RdS R_floor_Block ρ q7 q2b c_p0_3 q0m) (q2f : RdS R_floor_Wall ρ q8 q2c c_p0_4 q0n) (q2g : RdS R_floor_Port ρ q9 q2d c_p0_5 q0o) (q2h : RdS R_legal_Pin ρ q1h q2v c_n1_1 n1.Pins) (hS : St w0 w (cells q6 73 [.int .i64 q0e, .int .i64 q0f, .int .i64 q0g, .slice q7 q2b c_p0_3, .slice q8 q2c c_p0_4, .slice q9 q2d c_p0_5, .map (some q2), .map (some q3), .map (some q4)] :: mapA q2 kf_53 (Value.int .i64) q0r :: mapA q3 kf_53 (Value.int .i64) q0s :: mapA q4 kf_53 (Value.int .i64) q0t :: ro ρ :: l)) :
  Calls Tryd.prog 22 #[.pointer (some ⟨q6, 0, none⟩), .agg #[.string n1.Name, .slice q1h q2v c_n1_1]] w fun e w' => ∃ r : List T_global_Edge, Q r ∧ ∃ (q2i : Option Addr) (q21 : Nat) (c_y0_ret : Nat) (q2a : List Value), e = .returned (.slice q2i q21 c_y0_ret) ∧ RepL R_global_Edge ρ r q2a ∧ St w0 w' (vec 53 R_global_Edge.sz (.slice q2i q21 c_y0_ret) q21 q2a :: cells q6 73 [.int .i64 q0e, .int .i64 q0f, .int .i64 q0g, .slice q7 q2b c_p0_3, .slice q8 q2c c_p0_4, .slice q9 q2d c_p0_5, .map (some q2), .map (some q3), .map (some q4)] :: mapA q2 kf_53 (Value.int .i64) q0r :: mapA q3 kf_53 (Value.int .i64) q0s :: mapA q4 kf_53 (Value.int .i64) q0t :: ro ρ :: l) := by
 have e_ := q2e.n; subst e_
 have e_ := q2f.n; subst e_
 have e_ := q2g.n; subst e_
 have e_ := q2h.n; subst e_
 refine enterC Tryd.func22 rfl 74 rfl (by simp) ?_
 refine x_seq <| x_region <| ?_
 refine o_box (cs := [.string n1.Name, .slice q1h n1.Pins.length c_n1_1]) rfl rfl hS (fun b3 w' hS => ?_)
 refine p (yl_assign rfl) <| x_done <| x_seq <| x_region <|
  p (yl_assign rfl) <| x_done <| x_seq <| x_region <| ?_
 refine o_mkmap (κ := Int) (α := Bool) (Value.int .i64) Value.bool hS (fun b14 w' hS => ?_)
 refine o_mkmap (κ := Int) (α := Bool) (Value.int .i64) Value.bool hS (fun b15 w' hS => ?_)
 replace hS := St.mapD0 hS
 refine p (yl_assign rfl) <| p (yl_assign rfl) <| x_done <| x_seq <|
  x_seq <| x_region <| p (yl_field0 fld_38_1 rfl) <| pa (at_load one_36 rfl ((hS.pull 2).cell rfl)) <|
  p (yl_len_slice usl_36 rfl) <| p (yl_move rfl) <| x_done <| ?_
 replace hF := nbd_j hF; obtain ⟨oL4, hLL4, hF⟩ := hF
 refine x_join (fun E w => ∃ (q1r : List (Int × Bool)) (q1k : List (Int × Bool)), oL4 (q1r, q1k) ∧ E 0 = .pointer (some ⟨q6, 0, none⟩) ∧ E 5 = .slice none 0 0 ∧ E 6 = .map (some b14) ∧ E 7 = .map (some b15) ∧ St w0 w (cells q6 73 [.int .i64 q0e, .int .i64 q0f, .int .i64 q0g, .slice q7 q0m.length c_p0_3, .slice q8 q0n.length c_p0_4, .slice q9 q0o.length c_p0_5, .map (some q2), .map (some q3), .map (some q4)] :: mapA b14 (Value.int .i64) Value.bool q1r :: mapD b15 (Value.int .i64) Value.bool q1k :: mapA q2 kf_53 (Value.int .i64) q0r :: mapA q3 kf_53 (Value.int .i64) q0s :: mapA q4 kf_53 (Value.int .i64) q0t :: ro ρ :: l)) ?_ ?_
 ·refine x_block ?_
  refine x_loop (fun k_ E w => ∃ (q0x : List (Int × Bool)) (q0u : List (Int × Bool)) (q0y : Int), nlp (P_global_plan_way_L4 q0e q0f q0g q0m q0n q0o n1) k_ (q0x, q0u, q0y) oL4 ∧ E 0 = .pointer (some ⟨q6, 0, none⟩) ∧ E 5 = .slice none 0 0 ∧ E 6 = .map (some b14) ∧ E 7 = .map (some b15) ∧ E 17 = .slice q1h n1.Pins.length c_n1_1 ∧ E 18 = .int .i64 (n1.Pins.length : Int) ∧ E 19 = .int .i64 q0y ∧ St w0 w (cells q6 73 [.int .i64 q0e, .int .i64 q0f, .int .i64 q0g, .slice q7 q0m.length c_p0_3, .slice q8 q0n.length c_p0_4, .slice q9 q0o.length c_p0_5, .map (some q2), .map (some q3), .map (some q4)] :: mapA b14 (Value.int .i64) Value.bool q0x :: mapD b15 (Value.int .i64) Value.bool q0u :: mapA q2 kf_53 (Value.int .i64) q0r :: mapA q3 kf_53 (Value.int .i64) q0s :: mapA q4 kf_53 (Value.int .i64) q0t :: ro ρ :: l)) fuel ⟨[], [], 0, hLL4, rfl, rfl, rfl, rfl, rfl, rfl, rfl, ((((((((hS.pull 2).drop.pull 6).pull 6).pull 6).pull 6).pull 4).pull 5).pull 6)⟩ ?_
  rintro kL4 E w ⟨q0x, q0u, q0y, hLL4, q1o, q25, q1i, q1p, q1s, q1t, q18, hS⟩
  replace hLL4 := nlp_s hLL4; obtain ⟨kL4, obL4, rfl, hFL4, hLL4⟩ := hLL4
  refine x_seq <| x_region <| p (yl_lss q18 q1t) <| x_done <|
   x_seq <|
   x_cond_p (q0y < (n1.Pins.length : Int)) rfl (fun hc20 => ?_) (fun hc20 => ?_)
  ·replace hFL4 := nit_t hc20 hFL4
   replace hFL4 := nck_s hFL4; obtain ⟨q2z, hFL4⟩ := hFL4
   replace hFL4 := nlv_s hFL4; obtain ⟨q0w, q3z, hFL4⟩ := hFL4
   have q_ := q2h.get q2z; obtain ⟨q4d, q30, q40⟩ := q_
   rw [← q3z] at q30
   have e_ := q30; subst e_
   refine x_skip <| x_seq <| x_block <| x_seq <|
    x_region <| p (yl_move q18) <| p (yix_f sl_36 q1s q18 q2h q2z) <| pa (v := .agg #[.int .i64 q0w.At.X, .int .i64 q0w.At.Y, .int .i64 q0w.Cell, .int .i64 q0w.Input, .bool q0w.Drive, .int .i64 q0w.Size]) (at_loadAgg agg_42 rfl rfl (Elt.every q40 (hS.pull 6))) <| ?_
   refine o_alloc zero_42 hS (fun b9 w' hS => ?_)
   refine p (yl_assign rfl) <| ?_
   refine o_storeAgg (news := [.int .i64 q0w.At.X, .int .i64 q0w.At.Y, .int .i64 q0w.Cell, .int .i64 q0w.Input, .bool q0w.Drive, .int .i64 q0w.Size]) agg_42 rfl rfl rfl (by simp [over_length]) hS (fun w' hS => ?_)
   replace hFL4 := nbd_s hFL4; obtain ⟨q1q, q41, hFL4⟩ := hFL4
   refine x_done <| x_seq <| x_still mixed (by kernel_rfl) hS <| q (yl_move q1o) <|
    q (yl_nilCheck rfl) <| q (yl_field0 fld_73_0 rfl) <| qa (v := .agg #[.int .i64 q0e, .int .i64 q0f, .int .i64 q0g, .slice q7 q0m.length c_p0_3, .slice q8 q0n.length c_p0_4, .slice q9 q0o.length c_p0_5]) (fun w' hS => ld_sub agg_30 rfl rfl rfl (hS.pull 1)) <| q (yl_field0 fld_42_0 rfl) <|
    qa (v := .agg #[.int .i64 q0w.At.X, .int .i64 q0w.At.Y]) (fun w' hS => ld_sub agg_40 rfl rfl rfl hS) <| qcc (v := .int .i64 q1q) call_33 (args2 rfl rfl) (fun w' hS => by
     have hcall := c_global_Of q41 q2e q2f q2g (hS.pull 7)
     exact (Calls.mono hcall (fun e w'' h => And.intro h.1 (((((((h.2.pull 7).pull 7).pull 7).pull 7).pull 7).pull 7).pull 7)))) <| q (v := .int .i64 q1q) (yl_assign rfl) <|
    q_done fun w' hS => ?_
   refine x_seq <| x_region <| p (yl_move rfl) <| p (yl_eql rfl rfl) <|
    x_done <| ?_
   replace hFL4 := nbd_j hFL4; obtain ⟨oc32, hFc32, hFL4⟩ := hFL4
   refine x_join (fun E w => ∃ (q1l : List (Int × Bool)) (q1a : List (Int × Bool)), oc32 (q1l, q1a) ∧ E 0 = .pointer (some ⟨q6, 0, none⟩) ∧ E 5 = .slice none 0 0 ∧ E 6 = .map (some b14) ∧ E 7 = .map (some b15) ∧ E 17 = .slice q1h n1.Pins.length c_n1_1 ∧ E 18 = .int .i64 (n1.Pins.length : Int) ∧ E 19 = .int .i64 q0y ∧ St w0 w (cells q6 73 [.int .i64 q0e, .int .i64 q0f, .int .i64 q0g, .slice q7 q0m.length c_p0_3, .slice q8 q0n.length c_p0_4, .slice q9 q0o.length c_p0_5, .map (some q2), .map (some q3), .map (some q4)] :: mapA b14 (Value.int .i64) Value.bool q1l :: mapD b15 (Value.int .i64) Value.bool q1a :: mapA q2 kf_53 (Value.int .i64) q0r :: mapA q3 kf_53 (Value.int .i64) q0s :: mapA q4 kf_53 (Value.int .i64) q0t :: ro ρ :: l)) ?_ ?_
   ·refine x_cond_p (q0y = 0) rfl (fun hc32 => ?_) (fun hc32 => ?_)
    ·replace hFc32 := nit_t hc32 hFc32
     refine x_region <| p (yl_move q1i) <| p (v := .int .i64 q1q) (yl_move rfl) <| ?_
     replace hFc32 := nlv_s hFc32; obtain ⟨q4b, q42, hFc32⟩ := hFc32
     refine o_mapset (k := q1q) (vf := Value.bool) (v := true) um_84 (KeyP.int ui_3) rfl rfl rfl (hS.pull 2) q42 (fun w' hS => ?_)
     refine x_done <| ?_
     exact x_inv ⟨q4b, q0u, hFc32, q1o, q25, q1i, q1p, q1s, q1t, q18, ((((((((hS.pull 1).drop.pull 6).pull 6).pull 6).pull 6).pull 6).pull 5).pull 6)⟩
    ·replace hFc32 := nit_f hc32 hFc32
     replace hFc32 := nlv_s hFc32; obtain ⟨x37, hx37, hFc32⟩ := hFc32
     refine x_seq <| x_region <| p (yl_move q1i) <| p (v := .int .i64 q1q) (yl_move rfl) <|
      pa (at_look (k := q1q) um_84 (KeyP.int ui_3) (zero1 zv_4) rfl rfl (hS.pull 2) hx37) <| p (yl_not rfl) <| x_done <| ?_
     replace hFc32 := nbd_j hFc32; obtain ⟨oc38, hFc38, hFc32⟩ := hFc32
     refine x_join (fun E w => ∃ (q1b : List (Int × Bool)), oc38 q1b ∧ E 0 = .pointer (some ⟨q6, 0, none⟩) ∧ E 5 = .slice none 0 0 ∧ E 6 = .map (some b14) ∧ E 7 = .map (some b15) ∧ E 17 = .slice q1h n1.Pins.length c_n1_1 ∧ E 18 = .int .i64 (n1.Pins.length : Int) ∧ E 19 = .int .i64 q0y ∧ St w0 w (cells q6 73 [.int .i64 q0e, .int .i64 q0f, .int .i64 q0g, .slice q7 q0m.length c_p0_3, .slice q8 q0n.length c_p0_4, .slice q9 q0o.length c_p0_5, .map (some q2), .map (some q3), .map (some q4)] :: mapA b14 (Value.int .i64) Value.bool q0x :: mapD b15 (Value.int .i64) Value.bool q1b :: mapA q2 kf_53 (Value.int .i64) q0r :: mapA q3 kf_53 (Value.int .i64) q0s :: mapA q4 kf_53 (Value.int .i64) q0t :: ro ρ :: l)) ?_ ?_
     ·refine x_cond (t := !x37) rfl (fun hc38 => ?_) (fun hc38 => ?_)
      ·replace hFc38 := nit_t hc38 hFc38
       refine x_region <| p (yl_move q1p) <| p (v := .int .i64 q1q) (yl_move rfl) <| ?_
       replace hFc38 := nlv_s hFc38; obtain ⟨q43, q3b, hFc38⟩ := hFc38
       refine o_mapsetD (k := q1q) (vf := Value.bool) (v := true) um_84 (KeyP.int ui_3) rfl rfl rfl (hS.pull 3) q3b (fun w' hS => ?_)
       refine x_done <| ?_
       exact x_inv ⟨q43, hFc38, q1o, q25, q1i, q1p, q1s, q1t, q18, ((((((((hS.pull 1).drop.pull 6).pull 6).pull 6).pull 6).pull 4).pull 6).pull 6)⟩
      ·replace hFc38 := nit_bf hc38 hFc38
       refine x_skip <| ?_
       exact x_inv ⟨q0u, hFc38, q1o, q25, q1i, q1p, q1s, q1t, q18, (((((((hS.drop.pull 6).pull 6).pull 6).pull 6).pull 6).pull 6).pull 6)⟩
     rintro E w ⟨q1b, hq_, q3c, q3d, q3e, q3f, q34, q35, q36, hS⟩
     replace hFc32 := hFc32 _ hq_
     clear hq_
     exact x_inv ⟨q0x, q1b, hFc32, q3c, q3d, q3e, q3f, q34, q35, q36, (((((((hS.pull 6).pull 6).pull 6).pull 6).pull 6).pull 6).pull 6)⟩
   rintro E w ⟨q1l, q1a, hq_, q3g, q3h, q3i, q3j, q37, q38, q39, hS⟩
   replace hFL4 := hFL4 _ hq_
   clear hq_
   replace hFL4 := nar_s hFL4; obtain ⟨x41, hx41, hFL4⟩ := hFL4
   refine x_blk <| x_region <| p (yadd q39 rfl hx41) <| p (yl_move rfl) <|
    x_done <| ?_
   exact x_inv ⟨kL4, Nat.lt_succ_self _, q1l, q1a, x41, (hLL4 _ hFL4), q3g, q3h, q3i, q3j, q37, q38, rfl, (((((((hS.pull 6).pull 6).pull 6).pull 6).pull 6).pull 6).pull 6)⟩
  ·replace hFL4 := nit_f hc20 hFL4
   refine x_exitTo _ rfl <| ?_
   exact x_inv ⟨q0x, q0u, (hLL4 _ hFL4), q1o, q25, q1i, q1p, (((((((hS.pull 6).pull 6).pull 6).pull 6).pull 6).pull 6).pull 6)⟩
 rintro E w ⟨q1r, q1k, hq_, q44, q45, q46, q47, hS⟩
 replace hF := hF _ hq_
 clear hq_
 refine x_seq <| ?_
 replace hF := nbd_j hF; obtain ⟨oL12, hLL12, hF⟩ := hF
 refine x_join (fun E w => ∃ (q14 : Option Addr) (q15 : Nat) (c_out5_L12 : Nat) (q0z : List Value) (q19 : List T_global_Edge), oL12 q19 ∧ E 5 = .slice q14 q15 c_out5_L12 ∧ RepL R_global_Edge ρ q19 q0z ∧ St w0 w (vec 53 R_global_Edge.sz (.slice q14 q15 c_out5_L12) q15 q0z :: cells q6 73 [.int .i64 q0e, .int .i64 q0f, .int .i64 q0g, .slice q7 q0m.length c_p0_3, .slice q8 q0n.length c_p0_4, .slice q9 q0o.length c_p0_5, .map (some q2), .map (some q3), .map (some q4)] :: mapA q2 kf_53 (Value.int .i64) q0r :: mapA q3 kf_53 (Value.int .i64) q0s :: mapA q4 kf_53 (Value.int .i64) q0t :: ro ρ :: l)) ?_ ?_
 ·refine x_block ?_
  replace hS := St.vec_nil hS 53 R_global_Edge.sz
  have q22 : RepL R_global_Edge ρ [] [] := rfl
  refine x_loop (fun k_ E w => ∃ (q0p : Option Addr) (q10 : Nat) (c_out5_L12h : Nat) (q0h : List Value) (q0i : List T_global_Edge) (q1c : List (Int × Bool)) (q0b : List (Int × Bool)), nlp (P_global_plan_way_L12 q0e q0f q0g q0m q0n q0o q0r q0s q0t) k_ (q0i, q1c, q0b) oL12 ∧ E 0 = .pointer (some ⟨q6, 0, none⟩) ∧ E 5 = .slice q0p q10 c_out5_L12h ∧ E 6 = .map (some b14) ∧ E 7 = .map (some b15) ∧ RepL R_global_Edge ρ q0i q0h ∧ St w0 w (cells q6 73 [.int .i64 q0e, .int .i64 q0f, .int .i64 q0g, .slice q7 q0m.length c_p0_3, .slice q8 q0n.length c_p0_4, .slice q9 q0o.length c_p0_5, .map (some q2), .map (some q3), .map (some q4)] :: vec 53 R_global_Edge.sz (.slice q0p q10 c_out5_L12h) q10 q0h :: mapA b14 (Value.int .i64) Value.bool q1c :: mapD b15 (Value.int .i64) Value.bool q0b :: mapA q2 kf_53 (Value.int .i64) q0r :: mapA q3 kf_53 (Value.int .i64) q0s :: mapA q4 kf_53 (Value.int .i64) q0t :: ro ρ :: l)) fuel ⟨none, 0, 0, [], [], q1r, q1k, hLL12, q44, q45, q46, q47, q22, ((((((((hS.pull 7).pull 7).pull 7).pull 7).pull 7).pull 7).pull 6).pull 7)⟩ ?_
  rintro kL12 E w ⟨q0p, q10, c_out5_L12h, q0h, q0i, q1c, q0b, hLL12, q2l, q2m, q2n, q28, q1f, hS⟩
  have e_ := St.vec_n (hS.pull 1) q1f; subst e_
  replace hLL12 := nlp_s hLL12; obtain ⟨kL12, obL12, rfl, hFL12, hLL12⟩ := hLL12
  refine x_seq <| x_seq <| x_region <| p (yl_move q28) <|
   pa (at_lenD um_84 rfl (hS.pull 3)) <| p (yl_gtr rfl rfl) <| x_done <|
   x_cond_p (0 < (q0b.length : Int)) rfl (fun hc44 => ?_) (fun hc44 => ?_)
  ·replace hFL12 := nit_t hc44 hFL12
   refine x_skip <| x_block <| x_seq <| x_seq <|
    x_region <| p (yl_move q2l) <| p (yl_move q2n) <| p (yl_move q28) <| ?_
   have hcall := c_global_plan_reach (nbd_c hFL12) q2e q2f q2g (((((((hS.pull 7).pull 4).pull 4).pull 7).pull 7).pull 7).pull 6)
   refine o_cc call_34 (args3 rfl rfl rfl) hcall ?_
   rintro e w' ⟨q1d, hFL12, q12, q3a, c_y0_ret_13_3, q1j, rfl, q13, hS⟩
   refine ⟨_, rfl, ?_⟩
   have e_ := St.vec_n hS q13; subst e_
   refine p (yl_len_slice usl_51 rfl) <| p (yl_move rfl) <| x_done <| ?_
   replace hFL12 := nbd_j hFL12; obtain ⟨oL14, hLL14, hFL12⟩ := hFL12
   refine x_join (fun E w => ∃ (q0c : Option Addr) (q16 : Nat) (c_out5_L14 : Nat) (q0d : List Value) (q0a : List T_global_Edge) (q0j : List (Int × Bool)), oL14 (q0a, q0j) ∧ E 0 = .pointer (some ⟨q6, 0, none⟩) ∧ E 5 = .slice q0c q16 c_out5_L14 ∧ E 6 = .map (some b14) ∧ E 7 = .map (some b15) ∧ RepL R_global_Edge ρ q0a q0d ∧ St w0 w (cells q6 73 [.int .i64 q0e, .int .i64 q0f, .int .i64 q0g, .slice q7 q0m.length c_p0_3, .slice q8 q0n.length c_p0_4, .slice q9 q0o.length c_p0_5, .map (some q2), .map (some q3), .map (some q4)] :: vec 53 R_global_Edge.sz (.slice q0c q16 c_out5_L14) q16 q0d :: mapA b14 (Value.int .i64) Value.bool q0j :: mapD b15 (Value.int .i64) Value.bool q0b :: mapA q2 kf_53 (Value.int .i64) q0r :: mapA q3 kf_53 (Value.int .i64) q0s :: mapA q4 kf_53 (Value.int .i64) q0t :: ro ρ :: l)) ?_ ?_
   ·refine x_block ?_
    refine x_loop (fun k_ E w => ∃ (q0q : Option Addr) (q11 : Nat) (c_out5_L14h : Nat) (q0k : List Value) (q0l : List T_global_Edge) (q0v : List (Int × Bool)) (q1m : Int), nlp (P_global_plan_way_L14 q1d) k_ (q0l, q0v, q1m) oL14 ∧ E 0 = .pointer (some ⟨q6, 0, none⟩) ∧ E 5 = .slice q0q q11 c_out5_L14h ∧ E 6 = .map (some b14) ∧ E 7 = .map (some b15) ∧ E 48 = .slice q12 q1d.length c_y0_ret_13_3 ∧ E 49 = .int .i64 (q1d.length : Int) ∧ E 50 = .int .i64 q1m ∧ RepL R_global_Edge ρ q0l q0k ∧ St w0 w (cells q6 73 [.int .i64 q0e, .int .i64 q0f, .int .i64 q0g, .slice q7 q0m.length c_p0_3, .slice q8 q0n.length c_p0_4, .slice q9 q0o.length c_p0_5, .map (some q2), .map (some q3), .map (some q4)] :: vec 53 R_global_Edge.sz (.slice q0q q11 c_out5_L14h) q11 q0k :: mapA b14 (Value.int .i64) Value.bool q0v :: mapD b15 (Value.int .i64) Value.bool q0b :: vec 53 R_global_Edge.sz (.slice q12 q1d.length c_y0_ret_13_3) q1d.length q1j :: mapA q2 kf_53 (Value.int .i64) q0r :: mapA q3 kf_53 (Value.int .i64) q0s :: mapA q4 kf_53 (Value.int .i64) q0t :: ro ρ :: l)) fuel ⟨q0p, q0i.length, c_out5_L12h, q0h, q0i, q1c, 0, hLL14, q2l, q2m, q2n, q28, rfl, rfl, rfl, q1f, (((((((((hS.pull 7).pull 5).pull 5).pull 5).pull 4).pull 7).pull 7).pull 8).pull 8)⟩ ?_
    rintro kL14 E w ⟨q0q, q11, c_out5_L14h, q0k, q0l, q0v, q1m, hLL14, q2o, q2p, q1u, q2q, q2j, q2k, q23, q1g, hS⟩
    have e_ := St.vec_n (hS.pull 1) q1g; subst e_
    replace hLL14 := nlp_s hLL14; obtain ⟨kL14, obL14, rfl, hFL14, hLL14⟩ := hLL14
    refine x_seq <| x_region <| p (yl_lss q23 q2k) <| x_done <|
     x_seq <|
     x_cond_p (q1m < (q1d.length : Int)) rfl (fun hc51 => ?_) (fun hc51 => ?_)
    ·replace hFL14 := nit_t hc51 hFL14
     replace hFL14 := nck_s hFL14; obtain ⟨q2w, hFL14⟩ := hFL14
     replace hFL14 := nlv_s hFL14; obtain ⟨q5, q3k, hFL14⟩ := hFL14
     have q_ := q13.get q2w; obtain ⟨q4c, q2x, q3l⟩ := q_
     rw [← q3k] at q2x
     have e_ := q2x; subst e_
     refine x_skip <| x_seq <| x_block <| x_seq <|
      x_region <| p (yix_o sl_51 q2j q23 (hS.pull 4) q13 q2w) <| pa (v := .agg #[.int .i64 q5.From, .int .i64 q5.To]) (at_loadAgg agg_53 rfl rfl (EltV.every q3l (hS.pull 4))) <| ?_
     refine o_alloc zero_53 hS (fun b12 w' hS => ?_)
     refine o_storeAgg (news := [.int .i64 q5.From, .int .i64 q5.To]) agg_53 rfl rfl rfl (by simp [over_length]) hS (fun w' hS => ?_)
     refine x_done <| x_seq <| ?_
     replace hFL14 := nlv_s hFL14; obtain ⟨q31, q3m, hFL14⟩ := hFL14
     replace hFL14 := nlv_s hFL14; obtain ⟨q2u, q3n, hFL14⟩ := hFL14
     refine x_par (w0 := w0) [⟨[], [], [54], [], [], [], none⟩, ⟨[], [], [55], [], [], [], none⟩, ⟨[1], [1], [56], [0], [], [], none⟩, ⟨[], [], [57], [], [], [], none⟩, ⟨[], [], [58], [], [], [], none⟩, ⟨[4], [4], [59], [0], [], [], none⟩, ⟨[0, 1, 2], [0, 2], [], [], [1], [2], none⟩, ⟨[0, 1, 2, 3, 4, 5, 6], [3, 5], [], [], [2], [3], none⟩] [⟨none, none, []⟩, ⟨none, (some 6), []⟩, ⟨(some 6), (some 7), []⟩, ⟨(some 7), none, []⟩] [54, 55, 56, 57, 58, 59] [0, 1] [0, 3] [0, 1, 2, 3, 4, 5] [fun Ep16 => Ep16 54 = .map (some b14), fun Ep16 => Ep16 55 = .pointer (some ⟨b12, 0, none⟩), fun Ep16 => Ep16 56 = .int .i64 q5.From, fun Ep16 => Ep16 57 = .map (some b14), fun Ep16 => Ep16 58 = .pointer (some ⟨b12, 1, none⟩), fun Ep16 => Ep16 59 = .int .i64 q5.To, fun Ep16 => True, fun Ep16 => True] [fun Ep16 => cells b12 53 [.int .i64 q5.From, .int .i64 q5.To], fun Ep16 => mapA b14 (Value.int .i64) Value.bool q0v, fun Ep16 => mapA b14 (Value.int .i64) Value.bool q31, fun Ep16 => mapA b14 (Value.int .i64) Value.bool q2u] mixed (by kernel_rfl) ((hS.pull 3).pull 1) ?_ ?_
     ·refine ⟨?_, ?_, ?_, ?_, ?_, ?_, ?_, ?_, trivial⟩
      ·intro Ep16 w l' hE16 hO16 hF_ hS
       refine p (yl_move ((hE16 6 rfl).trans q1u)) <| x_done <| ?_
       refine x_fin ⟨⟨_, rfl⟩, rfl, ?_⟩
       exact emk hS
      ·intro Ep16 w l' hE16 hO16 hF_ hS
       refine p (yl_field0 fld_53_0 (hE16 12 rfl)) <| x_done <| ?_
       refine x_fin ⟨⟨_, rfl⟩, rfl, ?_⟩
       exact emk hS
      ·intro Ep16 w l' hE16 hO16 hF_ hS
       obtain ⟨q1v, -⟩ := hF_
       replace q1v : Ep16 55 = .pointer (some ⟨b12, 0, none⟩) := emk q1v
       replace hS : St w0 w (cells b12 53 [.int .i64 q5.From, .int .i64 q5.To] :: l') := emk hS
       refine pa (at_load one_3 q1v (hS.cell rfl)) <| x_done <| ?_
       refine x_fin ⟨⟨_, rfl⟩, rfl, ?_⟩
       exact emk hS
      ·intro Ep16 w l' hE16 hO16 hF_ hS
       refine p (yl_move ((hE16 6 rfl).trans q1u)) <| x_done <| ?_
       refine x_fin ⟨⟨_, rfl⟩, rfl, ?_⟩
       exact emk hS
      ·intro Ep16 w l' hE16 hO16 hF_ hS
       refine p (yl_field0 fld_53_1 (hE16 12 rfl)) <| x_done <| ?_
       refine x_fin ⟨⟨_, rfl⟩, rfl, ?_⟩
       exact emk hS
      ·intro Ep16 w l' hE16 hO16 hF_ hS
       obtain ⟨q1w, -⟩ := hF_
       replace q1w : Ep16 58 = .pointer (some ⟨b12, 1, none⟩) := emk q1w
       replace hS : St w0 w (cells b12 53 [.int .i64 q5.From, .int .i64 q5.To] :: l') := emk hS
       refine pa (at_load one_3 q1w (hS.cell rfl)) <| x_done <| ?_
       refine x_fin ⟨⟨_, rfl⟩, rfl, ?_⟩
       exact emk hS
      ·intro Ep16 w l' hE16 hO16 hF_ hS
       obtain ⟨q1x, q1y, -⟩ := hF_
       replace q1x : Ep16 54 = .map (some b14) := emk q1x
       replace q1y : Ep16 56 = .int .i64 q5.From := emk q1y
       replace hS : St w0 w (mapA b14 (Value.int .i64) Value.bool q0v :: l') := emk hS
       refine o_mapset (k := q5.From) (vf := Value.bool) (v := true) um_84 (KeyP.int ui_3) q1x q1y rfl hS q3m (fun w' hS => ?_)
       refine x_done <| ?_
       refine x_fin ⟨⟨undef, rfl⟩, trivial, ?_⟩
       exact emk hS
      ·intro Ep16 w l' hE16 hO16 hF_ hS
       obtain ⟨q1z, q20, -⟩ := hF_
       replace q1z : Ep16 57 = .map (some b14) := emk q1z
       replace q20 : Ep16 59 = .int .i64 q5.To := emk q20
       replace hS : St w0 w (mapA b14 (Value.int .i64) Value.bool q31 :: l') := emk hS
       refine o_mapset (k := q5.To) (vf := Value.bool) (v := true) um_84 (KeyP.int ui_3) q1z q20 rfl hS q3n (fun w' hS => ?_)
       refine x_done <| ?_
       refine x_fin ⟨⟨undef, rfl⟩, trivial, ?_⟩
       exact emk hS
     intro Ep16 w' hE16 hF_ hS
     obtain ⟨q1x, q1v, q1y, q1z, q1w, q20, -⟩ := hF_
     replace q1x : Ep16 54 = .map (some b14) := emk q1x
     replace q1v : Ep16 55 = .pointer (some ⟨b12, 0, none⟩) := emk q1v
     replace q1y : Ep16 56 = .int .i64 q5.From := emk q1y
     replace q1z : Ep16 57 = .map (some b14) := emk q1z
     replace q1w : Ep16 58 = .pointer (some ⟨b12, 1, none⟩) := emk q1w
     replace q20 : Ep16 59 = .int .i64 q5.To := emk q20
     replace hS : St w0 w' (cells b12 53 [.int .i64 q5.From, .int .i64 q5.To] :: mapA b14 (Value.int .i64) Value.bool q2u :: (cells q6 73 [.int .i64 q0e, .int .i64 q0f, .int .i64 q0g, .slice q7 q0m.length c_p0_3, .slice q8 q0n.length c_p0_4, .slice q9 q0o.length c_p0_5, .map (some q2), .map (some q3), .map (some q4)] :: vec 53 R_global_Edge.sz (.slice q0q q0l.length c_out5_L14h) q0l.length q0k :: mapD b15 (Value.int .i64) Value.bool q0b :: vec 53 R_global_Edge.sz (.slice q12 q1d.length c_y0_ret_13_3) q1d.length q1j :: mapA q2 kf_53 (Value.int .i64) q0r :: mapA q3 kf_53 (Value.int .i64) q0s :: mapA q4 kf_53 (Value.int .i64) q0t :: ro ρ :: l)) := emk hS
     refine x_region <| p (yl_move ((hE16 5 rfl).trans q2p)) <| pa (v := .agg #[.int .i64 q5.From, .int .i64 q5.To]) (ld_sub agg_53 (hE16 12 rfl) rfl rfl hS) <| ?_
     refine o_buildSlice (vs := [.agg #[.int .i64 q5.From, .int .i64 q5.To]]) (cs := [.int .i64 q5.From, .int .i64 q5.To]) sl_51 zero_53 (parts_eq (pt (va := .agg #[.int .i64 q5.From, .int .i64 q5.To]) rfl pt0)) rfl (by intro v hv; simp only [List.mem_cons, List.not_mem_nil, or_false] at hv; first | (subst hv; rfl) | (rcases hv with rfl <;> rfl)) (by decide) rfl hS (fun b62 w' hS => ?_)
     replace hFL14 := nlv_s hFL14; obtain ⟨q32, q3o, hFL14⟩ := hFL14
     replace hFL14 := nck_s hFL14; obtain ⟨q3p, hFL14⟩ := hFL14
     refine o_ap sl_51 zero_53 rfl (by decide) rfl rfl (hS.pull 4) q1g (src_blk usl_51 hS rfl rfl) (RepL.cons (R := R_global_Edge) (ρ := ρ) (x := q5) (cs := [.int .i64 q5.From, .int .i64 q5.To]) rfl RepL.nil) q3o q3p (fun A63 c63 cs63 w' hr63 hS => ?_)
     replace hFL14 := nar_s hFL14; obtain ⟨x64, hx64, hFL14⟩ := hFL14
     refine p (yl_assign rfl) <| x_done <| x_blk <| x_region <|
      p (yadd ((hE16 50 rfl).trans q23) rfl hx64) <| p (yl_move rfl) <| x_done <| ?_
     exact x_inv ⟨kL14, Nat.lt_succ_self _, A63, q32.length, c63, cs63, q32, q2u, x64, (hLL14 _ hFL14), ((hE16 0 rfl).trans q2o), rfl, ((hE16 6 rfl).trans q1u), ((hE16 7 rfl).trans q2q), ((hE16 48 rfl).trans q2j), ((hE16 49 rfl).trans q2k), rfl, hr63, (((((((((((hS.pull 1).drop.pull 1).drop.pull 8).pull 8).pull 8).pull 8).pull 8).pull 8).pull 7).pull 7).pull 8)⟩
    ·replace hFL14 := nit_f hc51 hFL14
     refine x_exitTo _ rfl <| ?_
     exact x_inv ⟨q0q, q0l.length, c_out5_L14h, q0k, q0l, q0v, (hLL14 _ hFL14), q2o, q2p, q1u, q2q, q1g, (((((((((hS.pull 4).drop.pull 7).pull 7).pull 7).pull 7).pull 7).pull 7).pull 7).pull 7)⟩
   rintro E w ⟨q0c, q16, c_out5_L14, q0d, q0a, q0j, hq_, q3q, q3r, q2y, q3s, q26, hS⟩
   replace hFL12 := hFL12 _ hq_
   clear hq_
   have e_ := St.vec_n (hS.pull 1) q26; subst e_
   refine x_seq <| x_region <| p (yl_move q2y) <| ?_
   refine o_range um_84 rfl (hS.pull 2) (fun b66 w' hS => ?_)
   refine x_done <| ?_
   replace hFL12 := nbd_j hFL12; obtain ⟨oL20, hLL20, hFL12⟩ := hFL12
   refine x_join (fun E w => ∃ (q1e : List (Int × Bool)), oL20 q1e ∧ E 0 = .pointer (some ⟨q6, 0, none⟩) ∧ E 5 = .slice q0c q0a.length c_out5_L14 ∧ E 6 = .map (some b14) ∧ E 7 = .map (some b15) ∧ St w0 w (cells q6 73 [.int .i64 q0e, .int .i64 q0f, .int .i64 q0g, .slice q7 q0m.length c_p0_3, .slice q8 q0n.length c_p0_4, .slice q9 q0o.length c_p0_5, .map (some q2), .map (some q3), .map (some q4)] :: vec 53 R_global_Edge.sz (.slice q0c q0a.length c_out5_L14) q0a.length q0d :: mapA b14 (Value.int .i64) Value.bool q0j :: mapD b15 (Value.int .i64) Value.bool q1e :: mapA q2 kf_53 (Value.int .i64) q0r :: mapA q3 kf_53 (Value.int .i64) q0s :: mapA q4 kf_53 (Value.int .i64) q0t :: ro ρ :: l)) ?_ ?_
   ·refine x_block ?_
    refine x_loop (fun k_ E w => ∃ (q17 : List (Int × Bool)) (q1n : List Nat), nlp (P_global_plan_way_L20 q0j) k_ (q17, q1n) oL20 ∧ E 0 = .pointer (some ⟨q6, 0, none⟩) ∧ E 5 = .slice q0c q0a.length c_out5_L14 ∧ E 6 = .map (some b14) ∧ E 7 = .map (some b15) ∧ E 66 = .pointer (some ⟨b66, 0, none⟩) ∧ St w0 w (cells q6 73 [.int .i64 q0e, .int .i64 q0f, .int .i64 q0g, .slice q7 q0m.length c_p0_3, .slice q8 q0n.length c_p0_4, .slice q9 q0o.length c_p0_5, .map (some q2), .map (some q3), .map (some q4)] :: vec 53 R_global_Edge.sz (.slice q0c q0a.length c_out5_L14) q0a.length q0d :: mapA b14 (Value.int .i64) Value.bool q0j :: mapD b15 (Value.int .i64) Value.bool q17 :: itA b66 b14 q0j.length q1n :: mapA q2 kf_53 (Value.int .i64) q0r :: mapA q3 kf_53 (Value.int .i64) q0s :: mapA q4 kf_53 (Value.int .i64) q0t :: ro ρ :: l)) fuel ⟨q0b, [], hLL20, q3q, q3r, q2y, q3s, rfl, (((((((((hS.pull 8).pull 8).pull 8).pull 8).pull 4).pull 8).pull 6).pull 8).pull 8)⟩ ?_
    rintro kL20 E w ⟨q17, q1n, hLL20, q2r, q2s, q2t, q29, q24, hS⟩
    replace hLL20 := nlp_s hLL20; obtain ⟨kL20, obL20, rfl, hFL20, hLL20⟩ := hLL20
    refine x_seq <| x_region <|
     o_next q24 ((hS.pull 2).pull 4) (fun q48 w' hS => ?_) (fun i67 q33 q49 w' hS => ?_)
    ·replace hFL20 := nnx_a hFL20 q48
     refine p (yl_extract rfl rfl) <| x_done <| x_seq <| x_cond_f (show ev _ _ = .bool false from rfl) <|
      x_exitTo _ rfl <| ?_
     exact x_inv ⟨q17, (hLL20 _ hFL20), q2r, q2s, q2t, q29, ((((((((hS.drop.pull 7).pull 7).pull 7).pull 7).pull 7).pull 5).pull 7).pull 7)⟩
    ·replace hFL20 := nnx_k hFL20 q33 q49
     replace hFL20 := nlv_s hFL20; obtain ⟨e69, he69, hFL20⟩ := hFL20
     refine p (yl_extract rfl rfl) <| x_done <| x_seq <| x_cond_t (show ev _ _ = .bool true from rfl) <|
      x_skip <| x_block <| x_seq <| x_region <|
      pa (at_entry (kf := (Value.int .i64)) (vf := Value.bool) q24 q33 ((hS.pull 1).pull 1) he69) <| p (yl_extract rfl rfl) <| p (yl_assign rfl) <| x_done <|
      x_region <| p (yl_move q29) <| p (yl_move rfl) <| ?_
     replace hFL20 := nlv_s hFL20; obtain ⟨q4a, q3t, hFL20⟩ := hFL20
     refine o_mapdel (k := e69.1) um_84 (KeyP.int ui_3) rfl rfl (hS.pull 4) q3t (fun w' hS => ?_)
     refine x_done <| x_blk <| ?_
     exact x_inv ⟨kL20, Nat.lt_succ_self _, q4a, (q1n ++ [i67]), (hLL20 _ hFL20), q2r, q2s, q2t, q29, q24, (((((((((hS.pull 8).pull 8).pull 8).pull 8).pull 5).pull 5).pull 6).pull 8).pull 8)⟩
   rintro E w ⟨q1e, hq_, q3u, q3v, q3w, q3x, hS⟩
   replace hFL12 := hFL12 _ hq_
   clear hq_
   refine x_blk <| ?_
   exact x_inv ⟨kL12, Nat.lt_succ_self _, q0c, q0a.length, c_out5_L14, q0d, q0a, q0j, q1e, (hLL12 _ hFL12), q3u, q3v, q3w, q3x, q26, ((((((((hS.pull 7).pull 7).pull 7).pull 7).pull 7).pull 7).pull 7).pull 7)⟩
  ·replace hFL12 := nit_f hc44 hFL12
   refine x_exitTo _ rfl <| ?_
   exact x_inv ⟨q0p, q0i.length, c_out5_L12h, q0h, q0i, (hLL12 _ hFL12), q2m, q1f, ((((((((hS.pull 2).drop.pull 2).drop.pull 5).pull 5).pull 5).pull 5).pull 4).pull 5)⟩
 rintro E w ⟨q14, q15, c_out5_L12, q0z, q19, hq_, q3y, q27, hS⟩
 replace hF := hF _ hq_
 clear hq_
 have e_ := St.vec_n hS q27; subst e_
 refine x_seq <| x_region <| p (yl_move q3y) <| p (yl_assign rfl) <|
  x_done <| ?_
 exact x_return ⟨_, ⟨_, _, rfl, rfl, rfl⟩, q19, hF, q14, q19.length, c_out5_L12, q0z, rfl, q27, ((((((hS.pull 5).pull 5).pull 5).pull 5).pull 5).pull 5)⟩
attribute [irreducible] P_global_plan_way


end Go.Proofs.YtgmjhlpjlggpiaaDoor.X
