/- Printed by gen.py: plain functions, and that the Go code computes them. -/
import Derived.Test.YtnnmbmgnpdcefaaYJ
import Derived.Test.YtnnmbmgnpdcefaaXL
import Derived.Test.YtnnmbmgnpdcefaaYU
import Derived.Test.YtnnmbmgnpdcefaaXT
import Derived.Test.YtnnmbmgnpdcefaaGAp0
namespace Go.Proofs.Ytnnmbmgnpdcefaa.X
set_option maxHeartbeats 4000000
set_option maxRecDepth 100000
open Go Go.RowKit
set_option linter.unusedVariables false
set_option linter.unusedSimpArgs false

def P_extract_tree_fill_L2 (q4 : List (T_rules_Spot × Bool)) (others2 : List (T_rules_Spot × Bool)) (near3 : Int) : (List Nat × List (T_rules_Spot × Int)) → Nd ((List Nat × List (T_rules_Spot × Int)) ⊕ List (T_rules_Spot × Int)) := fun (q3, q2) =>
 nnx (q4.length) q3 (
  nret (Sum.inr q2)) fun i13 =>
 nlv (gt q4 i13) fun e15 =>
 nlv (mget e15.1 q2 0) fun x22 =>
 nbd (nof (P_extract_capacitance e15.1.Layer)) fun q8 =>
 nbd (nof (P_extract_beside others2 e15.1)) fun q5 =>
 nar (near3 * q5) fun x30 =>
 nar (q8 + x30) fun x31 =>
 nar (x22 + x31) fun x32 =>
 nlv (mget e15.1 q2 0) fun x33 =>
 nlv (mput e15.1 x33 q2) fun q6 =>
 nlv (mput e15.1 x32 q6) fun q7 =>
 nret (Sum.inl ((q3 ++ [i13]), q7))
def P_extract_tree_fill_L6 (q0b : List (T_extract_step × Bool)) : (List Nat × List (T_rules_Spot × List T_extract_step) × List (T_rules_Spot × Int)) → Nd ((List Nat × List (T_rules_Spot × List T_extract_step) × List (T_rules_Spot × Int)) ⊕ (List (T_rules_Spot × List T_extract_step) × List (T_rules_Spot × Int))) := fun (q4, q3, q2) =>
 nnx (q0b.length) q4 (
  nret (Sum.inr (q3, q2))) fun i38 =>
 nlv (gt q0b i38) fun e40 =>
 nlv (mget (T_rules_Spot.mk e40.1.fa.Layer e40.1.fa.X e40.1.fa.Y) q3 []) fun q6 =>
 nlv (mput (T_rules_Spot.mk e40.1.fa.Layer e40.1.fa.X e40.1.fa.Y) q6 q3) fun q0f =>
 nlv (q6 ++ [e40.1]) fun q7 =>
 nck (apOk 48 q7.length) <|
 nlv (mput (T_rules_Spot.mk e40.1.fa.Layer e40.1.fa.X e40.1.fa.Y) q7 q0f) fun q8 =>
 nlv (mget (T_rules_Spot.mk e40.1.fb.Layer e40.1.fb.X e40.1.fb.Y) q8 []) fun q9 =>
 nlv (mput (T_rules_Spot.mk e40.1.fb.Layer e40.1.fb.X e40.1.fb.Y) q9 q8) fun q0g =>
 nlv (q9 ++ [e40.1]) fun q0a =>
 nck (apOk 48 q0a.length) <|
 nlv (mput (T_rules_Spot.mk e40.1.fb.Layer e40.1.fb.X e40.1.fb.Y) q0a q0g) fun q0d =>
 nbd (
  if e40.1.fa.Layer ≠ e40.1.fb.Layer then
   nlv (mget (T_rules_Spot.mk e40.1.fa.Layer e40.1.fa.X e40.1.fa.Y) q2 0) fun x79 =>
   nar (x79 + 1) fun x80 =>
   nlv (mget (T_rules_Spot.mk e40.1.fa.Layer e40.1.fa.X e40.1.fa.Y) q2 0) fun x81 =>
   nlv (mput (T_rules_Spot.mk e40.1.fa.Layer e40.1.fa.X e40.1.fa.Y) x81 q2) fun q0e =>
   nlv (mput (T_rules_Spot.mk e40.1.fa.Layer e40.1.fa.X e40.1.fa.Y) x80 q0e) fun q0c =>
   nret q0c
  else
   nret q2) fun q5 =>
 nret (Sum.inl ((q4 ++ [i38]), q0d, q5))
def P_extract_tree_fill (q0a : Int) (q0b : Int) (q0c : Int) (q0d : Int) (q0e : List T_rules_Wire) (q0f : List T_rules_Via) (q0g : List T_rules_Pin) (q0h : List T_floor_Wall) (q5 : List (T_rules_Spot × List T_extract_step)) (q6 : List (T_rules_Spot × Int)) (q9 : List (T_rules_Spot × Int)) (q7 : List (T_rules_Spot × Bool)) (q8 : List (T_extract_step × Bool)) (others2 : List (T_rules_Spot × Bool)) (near3 : Int) : Nd (List (T_rules_Spot × List T_extract_step) × List (T_rules_Spot × Int)) :=
 nbd (
  nlp (P_extract_tree_fill_L2 q7 others2 near3) fuel ([], q6)) fun q2 =>
 nbd (
  nlp (P_extract_tree_fill_L6 q8) fuel ([], q5, q2)) fun (q3, q4) =>
 nret (q3, q4)
theorem c_extract_tree_fill {w0 w : World} {l : List Assn} {ρ : Heap} {q4 : Nat} {q0b : Option Addr} {q2r : Nat} {c_t0_4 : Nat} {q0c : Option Addr} {q2s : Nat} {c_t0_5 : Nat} {q0d : Option Addr} {q2t : Nat} {c_t0_6 : Nat} {q0e : Option Addr} {q2u : Nat} {c_t0_7 : Nat} {q3 : Nat} {q2 : Nat} {q5 : Nat} {q0f : Nat} {q0a : Nat} {q8 : Nat} {q0l : Int} {q0m : Int} {q0n : Int} {q0o : Int} {q0p : List T_rules_Wire} {q0q : List T_rules_Via} {q0r : List T_rules_Pin} {q0s : List T_floor_Wall} {q21 : List (T_rules_Spot × List T_extract_step)} {q38 : List (T_rules_Spot × Int)} {q0z : List (T_rules_Spot × Int)} {q12 : List (T_rules_Spot × Bool)} {q0u : List (T_extract_step × Bool)} {others2 : List (T_rules_Spot × Bool)} {near3 : Int} {Q : (List (T_rules_Spot × List T_extract_step) × List (T_rules_Spot × Int)) → Prop} (hF : P_extract_tree_fill q0l q0m q0n q0o q0p q0q q0r q0s q21 q38 q0z q12 q0u others2 near3 Q) (q3g : RdS R_rules_Wire ρ q0b q2r c_t0_4 q0p) (q3h : RdS R_rules_Via ρ q0c q2s c_t0_5 q0q) (q3i : RdS R_rules_Pin ρ q0d q2t c_t0_6 q0r) (q3j : RdS R_floor_Wall ρ q0e q2u c_t0_7 q0s) (hS : St w0 w (cells q4 82 [.int .i64 q0l, .int .i64 q0m, .int .i64 q0n, .int .i64 q0o, .slice q0b q2r c_t0_4, .slice q0c q2s c_t0_5, .slice q0d q2t c_t0_6, .slice q0e q2u c_t0_7, .map (some q3), .map (some q2), .map (some q5)] :: mapS 94 R_extract_step q3 kf_61 q21 :: mapA q2 kf_61 (Value.int .i64) q38 :: mapA q5 kf_61 (Value.int .i64) q0z :: mapA q0f kf_61 Value.bool q12 :: mapA q0a kf_94 Value.bool q0u :: mapA q8 kf_61 Value.bool others2 :: ro ρ :: l)) :
  Calls Try.prog 36 #[.pointer (some ⟨q4, 0, none⟩), .agg #[.map (some q0f), .map (some q0a)], .map (some q8), .int .i64 near3] w fun e w' => ∃ r : (List (T_rules_Spot × List T_extract_step) × List (T_rules_Spot × Int)), Q r ∧ e = .returned (.tuple #[]) ∧ St w0 w' (cells q4 82 [.int .i64 q0l, .int .i64 q0m, .int .i64 q0n, .int .i64 q0o, .slice q0b q2r c_t0_4, .slice q0c q2s c_t0_5, .slice q0d q2t c_t0_6, .slice q0e q2u c_t0_7, .map (some q3), .map (some q2), .map (some q5)] :: mapS 94 R_extract_step q3 kf_61 r.1 :: mapA q2 kf_61 (Value.int .i64) r.2 :: mapA q5 kf_61 (Value.int .i64) q0z :: mapA q0f kf_61 Value.bool q12 :: mapA q0a kf_94 Value.bool q0u :: mapA q8 kf_61 Value.bool others2 :: ro ρ :: l) := by
 have e_ := q3g.n; subst e_
 have e_ := q3h.n; subst e_
 have e_ := q3i.n; subst e_
 have e_ := q3j.n; subst e_
 refine enterC Try.func36 rfl 83 rfl (by simp) ?_
 refine x_seq <| x_region <| ?_
 refine o_box (cs := [.map (some q0f), .map (some q0a)]) rfl rfl hS (fun b5 w' hS => ?_)
 refine x_done <| x_seq <| x_seq <| x_region <|
  p (yl_field0 fld_87_0 rfl) <| pa (at_load one_84 rfl (hS.cell rfl)) <| ?_
 refine o_range um_84 rfl (hS.pull 5) (fun b12 w' hS => ?_)
 refine x_done <| ?_
 replace hF := nbd_j hF; obtain ⟨oL2, hLL2, hF⟩ := hF
 refine x_join (fun E w => ∃ (q18 : List (T_rules_Spot × Int)), oL2 q18 ∧ E 0 = .pointer (some ⟨q4, 0, none⟩) ∧ E 5 = .pointer (some ⟨b5, 0, none⟩) ∧ St w0 w (cells q4 82 [.int .i64 q0l, .int .i64 q0m, .int .i64 q0n, .int .i64 q0o, .slice q0b q0p.length c_t0_4, .slice q0c q0q.length c_t0_5, .slice q0d q0r.length c_t0_6, .slice q0e q0s.length c_t0_7, .map (some q3), .map (some q2), .map (some q5)] :: cells b5 87 [.map (some q0f), .map (some q0a)] :: mapS 94 R_extract_step q3 kf_61 q21 :: mapA q2 kf_61 (Value.int .i64) q18 :: mapA q5 kf_61 (Value.int .i64) q0z :: mapA q0f kf_61 Value.bool q12 :: mapA q0a kf_94 Value.bool q0u :: mapA q8 kf_61 Value.bool others2 :: ro ρ :: l)) ?_ ?_
 ·refine x_block ?_
  refine x_loop (fun k_ E w => ∃ (q1d : List Nat) (q9 : List (T_rules_Spot × Int)), nlp (P_extract_tree_fill_L2 q12 others2 near3) k_ (q1d, q9) oL2 ∧ E 0 = .pointer (some ⟨q4, 0, none⟩) ∧ E 2 = .map (some q8) ∧ E 3 = .int .i64 near3 ∧ E 5 = .pointer (some ⟨b5, 0, none⟩) ∧ E 12 = .pointer (some ⟨b12, 0, none⟩) ∧ St w0 w (cells q4 82 [.int .i64 q0l, .int .i64 q0m, .int .i64 q0n, .int .i64 q0o, .slice q0b q0p.length c_t0_4, .slice q0c q0q.length c_t0_5, .slice q0d q0r.length c_t0_6, .slice q0e q0s.length c_t0_7, .map (some q3), .map (some q2), .map (some q5)] :: mapA q8 kf_61 Value.bool others2 :: cells b5 87 [.map (some q0f), .map (some q0a)] :: mapA q0f kf_61 Value.bool q12 :: itA b12 q0f q12.length q1d :: mapS 94 R_extract_step q3 kf_61 q21 :: mapA q2 kf_61 (Value.int .i64) q9 :: mapA q5 kf_61 (Value.int .i64) q0z :: mapA q0a kf_94 Value.bool q0u :: ro ρ :: l)) fuel ⟨[], q38, hLL2, rfl, rfl, rfl, rfl, rfl, ((((((((((hS.pull 9).pull 8).pull 8).pull 8).pull 8).pull 5).pull 6).pull 7).pull 9).pull 9)⟩ ?_
  rintro kL2 E w ⟨q1d, q9, hLL2, q2v, q33, q34, q35, q22, hS⟩
  replace hLL2 := nlp_s hLL2; obtain ⟨kL2, obL2, rfl, hFL2, hLL2⟩ := hLL2
  refine x_seq <| x_region <|
   o_next q22 ((hS.pull 3).pull 4) (fun q3x w' hS => ?_) (fun i13 q3a q3y w' hS => ?_)
  ·replace hFL2 := nnx_a hFL2 q3x
   refine p (yl_extract rfl rfl) <| x_done <| x_seq <| x_cond_f (show ev _ _ = .bool false from rfl) <|
    x_exitTo _ rfl <| ?_
   exact x_inv ⟨q9, (hLL2 _ hFL2), q2v, q35, (((((((((hS.drop.pull 8).pull 3).pull 8).pull 3).pull 8).pull 8).pull 8).pull 8).pull 8)⟩
  ·replace hFL2 := nnx_k hFL2 q3a q3y
   replace hFL2 := nlv_s hFL2; obtain ⟨e15, he15, hFL2⟩ := hFL2
   refine p (yl_extract rfl rfl) <| x_done <| x_seq <| x_cond_t (show ev _ _ = .bool true from rfl) <|
    x_skip <| x_block <| x_seq <| x_region <|
    pa (at_entry (kf := kf_61) (vf := Value.bool) q22 q3a ((hS.pull 1).pull 1) he15) <| p (yl_extract rfl rfl) <| ?_
   refine o_alloc zero_61 hS (fun b8 w' hS => ?_)
   refine o_storeAgg (news := [.int .i64 e15.1.Layer, .int .i64 e15.1.X, .int .i64 e15.1.Y]) agg_61 rfl rfl rfl (by simp [over_length]) hS (fun w' hS => ?_)
   refine x_done <| ?_
   replace hFL2 := nlv_s hFL2; obtain ⟨x22, hx22, hFL2⟩ := hFL2
   replace hFL2 := nbd_s hFL2; obtain ⟨q39, q3z, hFL2⟩ := hFL2
   replace hFL2 := nbd_s hFL2; obtain ⟨q2z, q3k, hFL2⟩ := hFL2
   replace hFL2 := nar_s hFL2; obtain ⟨x30, hx30, hFL2⟩ := hFL2
   replace hFL2 := nar_s hFL2; obtain ⟨x31, hx31, hFL2⟩ := hFL2
   replace hFL2 := nar_s hFL2; obtain ⟨x32, hx32, hFL2⟩ := hFL2
   replace hFL2 := nlv_s hFL2; obtain ⟨x33, hx33, hFL2⟩ := hFL2
   replace hFL2 := nlv_s hFL2; obtain ⟨q30, q2w, hFL2⟩ := hFL2
   replace hFL2 := nlv_s hFL2; obtain ⟨q31, q3l, hFL2⟩ := hFL2
   refine x_par (w0 := w0) [⟨[], [], [17], [], [], [], none⟩, ⟨[0], [0], [18], [], [], [], none⟩, ⟨[0, 1], [1], [19], [], [], [], none⟩, ⟨[0, 1, 2], [2], [20], [0], [], [], none⟩, ⟨[], [], [21], [1], [], [], none⟩, ⟨[0, 1, 2, 3, 4], [3, 4], [22], [], [], [], some (2, 5)⟩, ⟨[], [], [23], [], [], [], none⟩, ⟨[6], [6], [24], [1], [], [], none⟩, ⟨[6, 7], [7], [25], [3], [], [], none⟩, ⟨[], [], [26], [], [], [], none⟩, ⟨[], [], [27], [], [], [], none⟩, ⟨[], [], [28], [1], [], [], none⟩, ⟨[6, 7, 8, 10, 11], [10, 11], [29], [4, 3], [], [], none⟩, ⟨[6, 7, 8, 9, 10, 11, 12], [9, 12], [30], [], [], [], none⟩, ⟨[6, 7, 8, 9, 10, 11, 12, 13], [8, 13], [31], [], [], [], none⟩, ⟨[0, 1, 2, 3, 4, 5, 6, 7, 8, 9, 10, 11, 12, 13, 14], [5, 14], [32], [], [], [], none⟩, ⟨[0, 1, 2, 3, 4, 6, 7, 8, 9, 10, 11, 12, 13, 14], [3, 4], [33], [], [2], [5], none⟩, ⟨[0, 1, 2, 3, 4, 6, 7, 8, 9, 10, 11, 12, 13, 14, 16], [16], [34], [], [], [], none⟩, ⟨[0, 1, 2, 3, 4, 5, 6, 7, 8, 9, 10, 11, 12, 13, 14, 15, 16, 17], [3, 15, 17], [], [], [5], [6], none⟩] [⟨none, none, []⟩, ⟨none, none, []⟩, ⟨none, (some 16), []⟩, ⟨none, none, []⟩, ⟨none, none, []⟩, ⟨(some 16), (some 18), []⟩, ⟨(some 18), none, []⟩] [17, 18, 19, 20, 21, 22, 23, 24, 25, 26, 27, 28, 29, 30, 31, 32, 33, 34] [0, 1, 2, 3, 4] [0, 1, 3, 4, 6] [0, 1, 2, 3, 4, 5, 6, 7, 8, 9, 10, 11, 12, 13, 14, 15, 16, 17] [fun Ep4 => Ep4 17 = .pointer (some ⟨q4, 0, none⟩), fun Ep4 => Ep4 18 = .pointer (some ⟨q4, 0, none⟩), fun Ep4 => Ep4 19 = .pointer (some ⟨q4, 9, none⟩), fun Ep4 => Ep4 20 = .map (some q2), fun Ep4 => Ep4 21 = .agg #[.int .i64 e15.1.Layer, .int .i64 e15.1.X, .int .i64 e15.1.Y], fun Ep4 => Ep4 22 = .int .i64 x22, fun Ep4 => Ep4 23 = .pointer (some ⟨b8, 0, none⟩), fun Ep4 => Ep4 24 = .int .i64 e15.1.Layer, fun Ep4 => Ep4 25 = .int .i64 q39, fun Ep4 => Ep4 26 = .int .i64 near3, fun Ep4 => Ep4 27 = .map (some q8), fun Ep4 => Ep4 28 = .agg #[.int .i64 e15.1.Layer, .int .i64 e15.1.X, .int .i64 e15.1.Y], fun Ep4 => Ep4 29 = .int .i64 q2z, fun Ep4 => Ep4 30 = .int .i64 x30, fun Ep4 => Ep4 31 = .int .i64 x31, fun Ep4 => Ep4 32 = .int .i64 x32, fun Ep4 => Ep4 33 = .tuple #[.int .i64 x33, .int .i64 ((mpos e15.1 q9 : Nat) : Int)], fun Ep4 => Ep4 34 = .int .i64 ((mpos e15.1 q9 : Nat) : Int), fun Ep4 => True] [fun Ep4 => cells q4 82 [.int .i64 q0l, .int .i64 q0m, .int .i64 q0n, .int .i64 q0o, .slice q0b q0p.length c_t0_4, .slice q0c q0q.length c_t0_5, .slice q0d q0r.length c_t0_6, .slice q0e q0s.length c_t0_7, .map (some q3), .map (some q2), .map (some q5)], fun Ep4 => cells b8 61 [.int .i64 e15.1.Layer, .int .i64 e15.1.X, .int .i64 e15.1.Y], fun Ep4 => mapA q2 kf_61 (Value.int .i64) q9, fun Ep4 => ro ρ, fun Ep4 => mapA q8 kf_61 Value.bool others2, fun Ep4 => mapA q2 kf_61 (Value.int .i64) q30, fun Ep4 => mapA q2 kf_61 (Value.int .i64) q31] mixed (by kernel_rfl) (((((hS.pull 4).pull 10).pull 8).pull 3).pull 6) ?_ ?_
   ·refine ⟨?_, ?_, ?_, ?_, ?_, ?_, ?_, ?_, ?_, ?_, ?_, ?_, ?_, ?_, ?_, ?_, ?_, ?_, ?_, trivial⟩
    ·intro Ep4 w l' hE4 hO4 hF_ hS
     refine p (yl_move ((hE4 0 rfl).trans q2v)) <| x_done <| ?_
     refine x_fin ⟨⟨_, rfl⟩, rfl, ?_⟩
     exact emk hS
    ·intro Ep4 w l' hE4 hO4 hF_ hS
     obtain ⟨q23, -⟩ := hF_
     replace q23 : Ep4 17 = .pointer (some ⟨q4, 0, none⟩) := emk q23
     refine p (yl_nilCheck q23) <| x_done <| ?_
     refine x_fin ⟨⟨_, rfl⟩, rfl, ?_⟩
     exact emk hS
    ·intro Ep4 w l' hE4 hO4 hF_ hS
     obtain ⟨q24, -⟩ := hF_
     replace q24 : Ep4 18 = .pointer (some ⟨q4, 0, none⟩) := emk q24
     refine p (yl_field0 fld_82_2 q24) <| x_done <| ?_
     refine x_fin ⟨⟨_, rfl⟩, rfl, ?_⟩
     exact emk hS
    ·intro Ep4 w l' hE4 hO4 hF_ hS
     obtain ⟨q25, -⟩ := hF_
     replace q25 : Ep4 19 = .pointer (some ⟨q4, 9, none⟩) := emk q25
     replace hS : St w0 w (cells q4 82 [.int .i64 q0l, .int .i64 q0m, .int .i64 q0n, .int .i64 q0o, .slice q0b q0p.length c_t0_4, .slice q0c q0q.length c_t0_5, .slice q0d q0r.length c_t0_6, .slice q0e q0s.length c_t0_7, .map (some q3), .map (some q2), .map (some q5)] :: l') := emk hS
     refine pa (at_load one_80 q25 (hS.cell rfl)) <| x_done <| ?_
     refine x_fin ⟨⟨_, rfl⟩, rfl, ?_⟩
     exact emk hS
    ·intro Ep4 w l' hE4 hO4 hF_ hS
     replace hS : St w0 w (cells b8 61 [.int .i64 e15.1.Layer, .int .i64 e15.1.X, .int .i64 e15.1.Y] :: l') := emk hS
     refine pa (v := .agg #[.int .i64 e15.1.Layer, .int .i64 e15.1.X, .int .i64 e15.1.Y]) (ld_sub agg_61 (hE4 8 rfl) rfl rfl hS) <| x_done <| ?_
     refine x_fin ⟨⟨_, rfl⟩, rfl, ?_⟩
     exact emk hS
    ·refine ⟨?_, ?_⟩
     ·intro Ep4 w l' hE4 hO4 hF_ hS
      obtain ⟨q0v, q14, -⟩ := hF_
      replace q0v : Ep4 20 = .map (some q2) := emk q0v
      replace q14 : Ep4 21 = .agg #[.int .i64 e15.1.Layer, .int .i64 e15.1.X, .int .i64 e15.1.Y] := emk q14
      replace hS : St w0 w (mapA q2 kf_61 (Value.int .i64) q9 :: l') := emk hS
      refine pa (at_look (k := e15.1) um_80 kp_61 (zero1 zv_3) q0v q14 hS hx22) <| x_done <| ?_
      refine x_fin ⟨⟨_, rfl⟩, rfl, ?_⟩
      exact emk hS
     ·intro Ep4 w l' hE4 hO4 hF_ hS
      obtain ⟨q0v, q14, -⟩ := hF_
      replace q0v : Ep4 20 = .map (some q2) := emk q0v
      replace q14 : Ep4 21 = .agg #[.int .i64 e15.1.Layer, .int .i64 e15.1.X, .int .i64 e15.1.Y] := emk q14
      replace hS : St w0 w (mapA q2 kf_61 (Value.int .i64) q30 :: l') := emk hS
      refine pa (at_look (k := e15.1) um_80 kp_61 (zero1 zv_3) q0v q14 hS (hx22.trans (mget_ent q2w hx33).symm)) <| x_done <| ?_
      refine x_fin ⟨⟨_, rfl⟩, rfl, ?_⟩
      exact emk hS
    ·intro Ep4 w l' hE4 hO4 hF_ hS
     refine p (yl_field0 fld_61_0 (hE4 8 rfl)) <| x_done <| ?_
     refine x_fin ⟨⟨_, rfl⟩, rfl, ?_⟩
     exact emk hS
    ·intro Ep4 w l' hE4 hO4 hF_ hS
     obtain ⟨q26, -⟩ := hF_
     replace q26 : Ep4 23 = .pointer (some ⟨b8, 0, none⟩) := emk q26
     replace hS : St w0 w (cells b8 61 [.int .i64 e15.1.Layer, .int .i64 e15.1.X, .int .i64 e15.1.Y] :: l') := emk hS
     refine pa (at_load one_3 q26 (hS.cell rfl)) <| x_done <| ?_
     refine x_fin ⟨⟨_, rfl⟩, rfl, ?_⟩
     exact emk hS
    ·intro Ep4 w l' hE4 hO4 hF_ hS
     obtain ⟨q27, -⟩ := hF_
     replace q27 : Ep4 24 = .int .i64 e15.1.Layer := emk q27
     replace hS : St w0 w (ro ρ :: l') := emk hS
     have hcall := c_extract_capacitance q3z  hS
     refine o_cc call_40 (args1 q27) (hcall) ?_
     rintro e w' ⟨rfl, hS⟩
     refine ⟨_, rfl, ?_⟩
     refine x_done <| ?_
     refine x_fin ⟨⟨_, rfl⟩, rfl, ?_⟩
     exact emk hS
    ·intro Ep4 w l' hE4 hO4 hF_ hS
     refine p (yl_move ((hE4 3 rfl).trans q34)) <| x_done <| ?_
     refine x_fin ⟨⟨_, rfl⟩, rfl, ?_⟩
     exact emk hS
    ·intro Ep4 w l' hE4 hO4 hF_ hS
     refine p (yl_move ((hE4 2 rfl).trans q33)) <| x_done <| ?_
     refine x_fin ⟨⟨_, rfl⟩, rfl, ?_⟩
     exact emk hS
    ·intro Ep4 w l' hE4 hO4 hF_ hS
     replace hS : St w0 w (cells b8 61 [.int .i64 e15.1.Layer, .int .i64 e15.1.X, .int .i64 e15.1.Y] :: l') := emk hS
     refine pa (v := .agg #[.int .i64 e15.1.Layer, .int .i64 e15.1.X, .int .i64 e15.1.Y]) (ld_sub agg_61 (hE4 8 rfl) rfl rfl hS) <| x_done <| ?_
     refine x_fin ⟨⟨_, rfl⟩, rfl, ?_⟩
     exact emk hS
    ·intro Ep4 w l' hE4 hO4 hF_ hS
     obtain ⟨q1f, q1g, -⟩ := hF_
     replace q1f : Ep4 27 = .map (some q8) := emk q1f
     replace q1g : Ep4 28 = .agg #[.int .i64 e15.1.Layer, .int .i64 e15.1.X, .int .i64 e15.1.Y] := emk q1g
     replace hS : St w0 w (mapA q8 kf_61 Value.bool others2 :: ro ρ :: l') := emk hS
     have hcall := c_extract_beside q3k  hS
     refine o_cc call_41 (args2 q1f q1g) (hcall) ?_
     rintro e w' ⟨rfl, hS⟩
     refine ⟨_, rfl, ?_⟩
     refine x_done <| ?_
     refine x_fin ⟨⟨_, rfl⟩, rfl, ?_⟩
     exact emk ((hS.pull 1).pull 1)
    ·intro Ep4 w l' hE4 hO4 hF_ hS
     obtain ⟨q28, q1h, -⟩ := hF_
     replace q28 : Ep4 26 = .int .i64 near3 := emk q28
     replace q1h : Ep4 29 = .int .i64 q2z := emk q1h
     refine p (ymul q28 q1h hx30) <| x_done <| ?_
     refine x_fin ⟨⟨_, rfl⟩, rfl, ?_⟩
     exact emk hS
    ·intro Ep4 w l' hE4 hO4 hF_ hS
     obtain ⟨q29, q1i, -⟩ := hF_
     replace q29 : Ep4 25 = .int .i64 q39 := emk q29
     replace q1i : Ep4 30 = .int .i64 x30 := emk q1i
     refine p (yadd q29 q1i hx31) <| x_done <| ?_
     refine x_fin ⟨⟨_, rfl⟩, rfl, ?_⟩
     exact emk hS
    ·intro Ep4 w l' hE4 hO4 hF_ hS
     obtain ⟨q2a, q1j, -⟩ := hF_
     replace q2a : Ep4 22 = .int .i64 x22 := emk q2a
     replace q1j : Ep4 31 = .int .i64 x31 := emk q1j
     refine p (yadd q2a q1j hx32) <| x_done <| ?_
     refine x_fin ⟨⟨_, rfl⟩, rfl, ?_⟩
     exact emk hS
    ·intro Ep4 w l' hE4 hO4 hF_ hS
     obtain ⟨q0v, q14, -⟩ := hF_
     replace q0v : Ep4 20 = .map (some q2) := emk q0v
     replace q14 : Ep4 21 = .agg #[.int .i64 e15.1.Layer, .int .i64 e15.1.X, .int .i64 e15.1.Y] := emk q14
     replace hS : St w0 w (mapA q2 kf_61 (Value.int .i64) q9 :: l') := emk hS
     refine o_mapEntry (k := e15.1) (vf := (Value.int .i64)) um_80 kp_61 (zero1 zv_3) q0v q14 hS hx33 q2w (fun w' hS => ?_)
     refine x_done <| ?_
     refine x_fin ⟨⟨_, rfl⟩, rfl, ?_⟩
     exact emk hS
    ·intro Ep4 w l' hE4 hO4 hF_ hS
     obtain ⟨q1k, -⟩ := hF_
     replace q1k : Ep4 33 = .tuple #[.int .i64 x33, .int .i64 ((mpos e15.1 q9 : Nat) : Int)] := emk q1k
     refine p (yl_extract q1k rfl) <| x_done <| ?_
     refine x_fin ⟨⟨_, rfl⟩, rfl, ?_⟩
     exact emk hS
    ·intro Ep4 w l' hE4 hO4 hF_ hS
     obtain ⟨q0v, q1l, q1m, -⟩ := hF_
     replace q0v : Ep4 20 = .map (some q2) := emk q0v
     replace q1l : Ep4 32 = .int .i64 x32 := emk q1l
     replace q1m : Ep4 34 = .int .i64 ((mpos e15.1 q9 : Nat) : Int) := emk q1m
     replace hS : St w0 w (mapA q2 kf_61 (Value.int .i64) q30 :: l') := emk hS
     refine o_entryStore (k := e15.1) (es := q9) (v0 := x33) (vf := (Value.int .i64)) (v := x32) q0v q1m q1l rfl q2w hS q3l (fun w' hS => ?_)
     refine x_done <| ?_
     refine x_fin ⟨⟨undef, rfl⟩, trivial, ?_⟩
     exact emk hS
   intro Ep4 w' hE4 hF_ hS
   obtain ⟨q23, q24, q25, q0v, q14, q2a, q26, q27, q29, q28, q1f, q1g, q1h, q1i, q1j, q1l, q1k, q1m, -⟩ := hF_
   replace q23 : Ep4 17 = .pointer (some ⟨q4, 0, none⟩) := emk q23
   replace q24 : Ep4 18 = .pointer (some ⟨q4, 0, none⟩) := emk q24
   replace q25 : Ep4 19 = .pointer (some ⟨q4, 9, none⟩) := emk q25
   replace q0v : Ep4 20 = .map (some q2) := emk q0v
   replace q14 : Ep4 21 = .agg #[.int .i64 e15.1.Layer, .int .i64 e15.1.X, .int .i64 e15.1.Y] := emk q14
   replace q2a : Ep4 22 = .int .i64 x22 := emk q2a
   replace q26 : Ep4 23 = .pointer (some ⟨b8, 0, none⟩) := emk q26
   replace q27 : Ep4 24 = .int .i64 e15.1.Layer := emk q27
   replace q29 : Ep4 25 = .int .i64 q39 := emk q29
   replace q28 : Ep4 26 = .int .i64 near3 := emk q28
   replace q1f : Ep4 27 = .map (some q8) := emk q1f
   replace q1g : Ep4 28 = .agg #[.int .i64 e15.1.Layer, .int .i64 e15.1.X, .int .i64 e15.1.Y] := emk q1g
   replace q1h : Ep4 29 = .int .i64 q2z := emk q1h
   replace q1i : Ep4 30 = .int .i64 x30 := emk q1i
   replace q1j : Ep4 31 = .int .i64 x31 := emk q1j
   replace q1l : Ep4 32 = .int .i64 x32 := emk q1l
   replace q1k : Ep4 33 = .tuple #[.int .i64 x33, .int .i64 ((mpos e15.1 q9 : Nat) : Int)] := emk q1k
   replace q1m : Ep4 34 = .int .i64 ((mpos e15.1 q9 : Nat) : Int) := emk q1m
   replace hS : St w0 w' (cells q4 82 [.int .i64 q0l, .int .i64 q0m, .int .i64 q0n, .int .i64 q0o, .slice q0b q0p.length c_t0_4, .slice q0c q0q.length c_t0_5, .slice q0d q0r.length c_t0_6, .slice q0e q0s.length c_t0_7, .map (some q3), .map (some q2), .map (some q5)] :: cells b8 61 [.int .i64 e15.1.Layer, .int .i64 e15.1.X, .int .i64 e15.1.Y] :: ro ρ :: mapA q8 kf_61 Value.bool others2 :: mapA q2 kf_61 (Value.int .i64) q31 :: (itA b12 q0f q12.length (q1d ++ [i13]) :: mapA q0f kf_61 Value.bool q12 :: cells b5 87 [.map (some q0f), .map (some q0a)] :: mapS 94 R_extract_step q3 kf_61 q21 :: mapA q5 kf_61 (Value.int .i64) q0z :: mapA q0a kf_94 Value.bool q0u :: l)) := emk hS
   refine x_blk <| ?_
   exact x_inv ⟨kL2, Nat.lt_succ_self _, (q1d ++ [i13]), q31, (hLL2 _ hFL2), ((hE4 0 rfl).trans q2v), ((hE4 2 rfl).trans q33), ((hE4 3 rfl).trans q34), ((hE4 5 rfl).trans q35), ((hE4 12 rfl).trans q22), (((((((((((hS.pull 1).drop.pull 1).pull 9).pull 9).pull 5).pull 9).pull 7).pull 8).pull 9).pull 9).pull 9)⟩
 rintro E w ⟨q18, hq_, q40, q41, hS⟩
 replace hF := hF _ hq_
 clear hq_
 refine x_seq <| x_region <| p (yl_field0 fld_87_1 q41) <| pa (at_load one_85 rfl ((hS.pull 1).cell rfl)) <| ?_
 refine o_range um_85 rfl (hS.pull 6) (fun b37 w' hS => ?_)
 refine x_done <| ?_
 replace hF := nbd_j hF; obtain ⟨oL6, hLL6, hF⟩ := hF
 refine x_join (fun E w => ∃ (q19 : List (T_rules_Spot × List T_extract_step)) (q1a : List (T_rules_Spot × Int)), oL6 (q19, q1a) ∧ St w0 w (cells q4 82 [.int .i64 q0l, .int .i64 q0m, .int .i64 q0n, .int .i64 q0o, .slice q0b q0p.length c_t0_4, .slice q0c q0q.length c_t0_5, .slice q0d q0r.length c_t0_6, .slice q0e q0s.length c_t0_7, .map (some q3), .map (some q2), .map (some q5)] :: mapS 94 R_extract_step q3 kf_61 q19 :: mapA q2 kf_61 (Value.int .i64) q1a :: mapA q5 kf_61 (Value.int .i64) q0z :: mapA q0f kf_61 Value.bool q12 :: mapA q0a kf_94 Value.bool q0u :: mapA q8 kf_61 Value.bool others2 :: ro ρ :: l)) ?_ ?_
 ·refine x_block ?_
  refine x_loop (fun k_ E w => ∃ (q13 : List Nat) (q6 : List (T_rules_Spot × List T_extract_step)) (q7 : List (T_rules_Spot × Int)), nlp (P_extract_tree_fill_L6 q0u) k_ (q13, q6, q7) oL6 ∧ E 0 = .pointer (some ⟨q4, 0, none⟩) ∧ E 37 = .pointer (some ⟨b37, 0, none⟩) ∧ St w0 w (cells q4 82 [.int .i64 q0l, .int .i64 q0m, .int .i64 q0n, .int .i64 q0o, .slice q0b q0p.length c_t0_4, .slice q0c q0q.length c_t0_5, .slice q0d q0r.length c_t0_6, .slice q0e q0s.length c_t0_7, .map (some q3), .map (some q2), .map (some q5)] :: mapA q0a kf_94 Value.bool q0u :: itA b37 q0a q0u.length q13 :: mapS 94 R_extract_step q3 kf_61 q6 :: mapA q2 kf_61 (Value.int .i64) q7 :: mapA q5 kf_61 (Value.int .i64) q0z :: mapA q0f kf_61 Value.bool q12 :: mapA q8 kf_61 Value.bool others2 :: ro ρ :: l)) fuel ⟨[], q21, q18, hLL6, q40, rfl, ((((((((((hS.pull 3).drop.pull 8).pull 8).pull 8).pull 8).pull 8).pull 8).pull 6).pull 7).pull 8)⟩ ?_
  rintro kL6 E w ⟨q13, q6, q7, hLL6, q1e, q1n, hS⟩
  replace hLL6 := nlp_s hLL6; obtain ⟨kL6, obL6, rfl, hFL6, hLL6⟩ := hLL6
  refine x_seq <| x_region <|
   o_next q1n ((hS.pull 1).pull 2) (fun q42 w' hS => ?_) (fun i38 q3b q43 w' hS => ?_)
  ·replace hFL6 := nnx_a hFL6 q42
   refine p (yl_extract rfl rfl) <| x_done <| x_seq <| x_cond_f (show ev _ _ = .bool false from rfl) <|
    x_exitTo _ rfl <| ?_
   exact x_inv ⟨q6, q7, (hLL6 _ hFL6), ((((((((hS.drop.pull 7).pull 7).pull 2).pull 7).pull 7).pull 7).pull 7).pull 7)⟩
  ·replace hFL6 := nnx_k hFL6 q3b q43
   replace hFL6 := nlv_s hFL6; obtain ⟨e40, he40, hFL6⟩ := hFL6
   refine p (yl_extract rfl rfl) <| x_done <| x_seq <| x_cond_t (show ev _ _ = .bool true from rfl) <|
    x_skip <| x_block <| x_seq <| x_region <|
    pa (at_entry (kf := kf_94) (vf := Value.bool) q1n q3b ((hS.pull 1).pull 1) he40) <| p (yl_extract rfl rfl) <| ?_
   refine o_alloc zero_94 hS (fun b9 w' hS => ?_)
   refine o_storeAgg (news := [.int .i64 e40.1.fa.Layer, .int .i64 e40.1.fa.X, .int .i64 e40.1.fa.Y, .int .i64 e40.1.fb.Layer, .int .i64 e40.1.fb.X, .int .i64 e40.1.fb.Y]) agg_94 rfl rfl rfl (by simp [over_length]) hS (fun w' hS => ?_)
   refine x_done <| x_seq <| ?_
   replace hFL6 := nlv_s hFL6; obtain ⟨q0g, q36, hFL6⟩ := hFL6
   replace hFL6 := nlv_s hFL6; obtain ⟨q3m, q3c, hFL6⟩ := hFL6
   replace hFL6 := nlv_s hFL6; obtain ⟨q10, q3n, hFL6⟩ := hFL6
   replace hFL6 := nck_s hFL6; obtain ⟨q3o, hFL6⟩ := hFL6
   replace hFL6 := nlv_s hFL6; obtain ⟨q0t, q3p, hFL6⟩ := hFL6
   refine x_par (w0 := w0) [⟨[], [], [42], [], [], [], none⟩, ⟨[0], [0], [43], [], [], [], none⟩, ⟨[0, 1], [1], [44], [], [], [], none⟩, ⟨[0, 1, 2], [2], [45], [0], [], [], none⟩, ⟨[], [], [46], [], [], [], none⟩, ⟨[4], [4], [47], [1], [], [], none⟩, ⟨[], [], [49], [1], [], [], none⟩, ⟨[6], [6], [50], [], [], [2], none⟩, ⟨[0, 1, 2, 3, 4, 5, 6, 7], [3, 5], [51], [], [3], [4, 5], none⟩, ⟨[0, 1, 2, 3, 4, 5, 6, 7, 8], [8], [48, 51], [], [], [], none⟩, ⟨[0, 1, 2, 3, 4, 5, 6, 7, 8, 9], [7, 8, 9], [52], [2, 6], [5], [7], none⟩, ⟨[0, 1, 2, 3, 4, 5, 6, 7, 8], [8], [53], [], [], [], none⟩, ⟨[0, 1, 2, 3, 4, 5, 6, 7, 8, 9, 10, 11], [3, 8, 10, 11], [], [6], [4, 7], [8, 9], none⟩] [⟨none, none, []⟩, ⟨none, none, []⟩, ⟨(some 7), none, [50]⟩, ⟨none, (some 8), []⟩, ⟨(some 8), (some 12), [51]⟩, ⟨(some 8), (some 10), [51]⟩, ⟨none, none, []⟩, ⟨(some 10), (some 12), [52]⟩, ⟨(some 12), none, []⟩, ⟨(some 12), none, []⟩] [42, 43, 44, 45, 46, 47, 48, 49, 50, 51, 52, 53] [0, 1, 3, 6] [0, 1, 2, 6, 8, 9] [0, 1, 2, 3, 4, 5, 6, 7, 8, 9, 10, 11] [fun Ep8 => Ep8 42 = .pointer (some ⟨q4, 0, none⟩), fun Ep8 => Ep8 43 = .pointer (some ⟨q4, 0, none⟩), fun Ep8 => Ep8 44 = .pointer (some ⟨q4, 8, none⟩), fun Ep8 => Ep8 45 = .map (some q3), fun Ep8 => Ep8 46 = .pointer (some ⟨b9, 0, none⟩), fun Ep8 => Ep8 47 = .agg #[.int .i64 e40.1.fa.Layer, .int .i64 e40.1.fa.X, .int .i64 e40.1.fa.Y], fun Ep8 => Ep8 49 = .agg #[.int .i64 e40.1.fa.Layer, .int .i64 e40.1.fa.X, .int .i64 e40.1.fa.Y, .int .i64 e40.1.fb.Layer, .int .i64 e40.1.fb.X, .int .i64 e40.1.fb.Y], fun Ep8 => Ep8 50 = .slice (some ⟨(blkOf (Ep8 50)), 0, none⟩) 1 1, fun Ep8 => Ep8 51 = .tuple #[.slice (adOf (partOf 0 (Ep8 51))) q0g.length (capOf (partOf 0 (Ep8 51))), .int .i64 ((mpos (T_rules_Spot.mk e40.1.fa.Layer e40.1.fa.X e40.1.fa.Y) q6 : Nat) : Int)], fun Ep8 => Ep8 48 = .slice (adOf (partOf 0 (Ep8 51))) q0g.length (capOf (partOf 0 (Ep8 51))), fun Ep8 => Ep8 52 = .slice (adOf (Ep8 52)) q10.length (capOf (Ep8 52)), fun Ep8 => Ep8 53 = .int .i64 ((mpos (T_rules_Spot.mk e40.1.fa.Layer e40.1.fa.X e40.1.fa.Y) q6 : Nat) : Int), fun Ep8 => True] [fun Ep8 => cells q4 82 [.int .i64 q0l, .int .i64 q0m, .int .i64 q0n, .int .i64 q0o, .slice q0b q0p.length c_t0_4, .slice q0c q0q.length c_t0_5, .slice q0d q0r.length c_t0_6, .slice q0e q0s.length c_t0_7, .map (some q3), .map (some q2), .map (some q5)], fun Ep8 => cells b9 94 [.int .i64 e40.1.fa.Layer, .int .i64 e40.1.fa.X, .int .i64 e40.1.fa.Y, .int .i64 e40.1.fb.Layer, .int .i64 e40.1.fb.X, .int .i64 e40.1.fb.Y], fun Ep8 => cells (blkOf (Ep8 50)) 94 [.int .i64 e40.1.fa.Layer, .int .i64 e40.1.fa.X, .int .i64 e40.1.fa.Y, .int .i64 e40.1.fb.Layer, .int .i64 e40.1.fb.X, .int .i64 e40.1.fb.Y], fun Ep8 => mapS 94 R_extract_step q3 kf_61 q6, fun Ep8 => holeS 94 R_extract_step q3 kf_61 q3m (T_rules_Spot.mk e40.1.fa.Layer e40.1.fa.X e40.1.fa.Y) ⟨(adOf (partOf 0 (Ep8 51))), q0g.length, (capOf (partOf 0 (Ep8 51)))⟩, fun Ep8 => bunA (fun (q0j : List Value) => RepL R_extract_step ρ q0g q0j) (fun (q0j : List Value) => [vec 94 R_extract_step.sz (.slice (adOf (partOf 0 (Ep8 51))) q0g.length (capOf (partOf 0 (Ep8 51)))) q0g.length q0j]), fun Ep8 => ro ρ, fun Ep8 => bunA (fun (cs52 : List Value) => RepL R_extract_step ρ q10 cs52) (fun (cs52 : List Value) => [vec 94 R_extract_step.sz (.slice (adOf (Ep8 52)) q10.length (capOf (Ep8 52))) q10.length cs52]), fun Ep8 => mapS 94 R_extract_step q3 kf_61 q0t, fun Ep8 => bunA (fun (x : Unit) => True) (fun (x : Unit) => [])] mixed (by kernel_rfl) ((((hS.pull 9).pull 5).pull 2).pull 5) ?_ ?_
   ·refine ⟨?_, ?_, ?_, ?_, ?_, ?_, ?_, ?_, ?_, ?_, ?_, ?_, ?_, trivial⟩
    ·intro Ep8 w l' hE8 hO8 hF_ hS
     refine p (yl_move ((hE8 0 rfl).trans q1e)) <| x_done <| ?_
     refine x_fin ⟨⟨_, rfl⟩, rfl, ?_⟩
     exact emk hS
    ·intro Ep8 w l' hE8 hO8 hF_ hS
     obtain ⟨q2b, -⟩ := hF_
     replace q2b : Ep8 42 = .pointer (some ⟨q4, 0, none⟩) := emk q2b
     refine p (yl_nilCheck q2b) <| x_done <| ?_
     refine x_fin ⟨⟨_, rfl⟩, rfl, ?_⟩
     exact emk hS
    ·intro Ep8 w l' hE8 hO8 hF_ hS
     obtain ⟨q2c, -⟩ := hF_
     replace q2c : Ep8 43 = .pointer (some ⟨q4, 0, none⟩) := emk q2c
     refine p (yl_field0 fld_82_1 q2c) <| x_done <| ?_
     refine x_fin ⟨⟨_, rfl⟩, rfl, ?_⟩
     exact emk hS
    ·intro Ep8 w l' hE8 hO8 hF_ hS
     obtain ⟨q2d, -⟩ := hF_
     replace q2d : Ep8 44 = .pointer (some ⟨q4, 8, none⟩) := emk q2d
     replace hS : St w0 w (cells q4 82 [.int .i64 q0l, .int .i64 q0m, .int .i64 q0n, .int .i64 q0o, .slice q0b q0p.length c_t0_4, .slice q0c q0q.length c_t0_5, .slice q0d q0r.length c_t0_6, .slice q0e q0s.length c_t0_7, .map (some q3), .map (some q2), .map (some q5)] :: l') := emk hS
     refine pa (at_load one_79 q2d (hS.cell rfl)) <| x_done <| ?_
     refine x_fin ⟨⟨_, rfl⟩, rfl, ?_⟩
     exact emk hS
    ·intro Ep8 w l' hE8 hO8 hF_ hS
     refine p (yl_field0 fld_94_0 (hE8 9 rfl)) <| x_done <| ?_
     refine x_fin ⟨⟨_, rfl⟩, rfl, ?_⟩
     exact emk hS
    ·intro Ep8 w l' hE8 hO8 hF_ hS
     obtain ⟨q2e, -⟩ := hF_
     replace q2e : Ep8 46 = .pointer (some ⟨b9, 0, none⟩) := emk q2e
     replace hS : St w0 w (cells b9 94 [.int .i64 e40.1.fa.Layer, .int .i64 e40.1.fa.X, .int .i64 e40.1.fa.Y, .int .i64 e40.1.fb.Layer, .int .i64 e40.1.fb.X, .int .i64 e40.1.fb.Y] :: l') := emk hS
     refine pa (v := .agg #[.int .i64 e40.1.fa.Layer, .int .i64 e40.1.fa.X, .int .i64 e40.1.fa.Y]) (ld_sub agg_61 q2e rfl rfl hS) <| x_done <| ?_
     refine x_fin ⟨⟨_, rfl⟩, rfl, ?_⟩
     exact emk hS
    ·intro Ep8 w l' hE8 hO8 hF_ hS
     replace hS : St w0 w (cells b9 94 [.int .i64 e40.1.fa.Layer, .int .i64 e40.1.fa.X, .int .i64 e40.1.fa.Y, .int .i64 e40.1.fb.Layer, .int .i64 e40.1.fb.X, .int .i64 e40.1.fb.Y] :: l') := emk hS
     refine pa (v := .agg #[.int .i64 e40.1.fa.Layer, .int .i64 e40.1.fa.X, .int .i64 e40.1.fa.Y, .int .i64 e40.1.fb.Layer, .int .i64 e40.1.fb.X, .int .i64 e40.1.fb.Y]) (ld_sub agg_94 (hE8 9 rfl) rfl rfl hS) <| x_done <| ?_
     refine x_fin ⟨⟨_, rfl⟩, rfl, ?_⟩
     exact emk hS
    ·intro Ep8 w l' hE8 hO8 hF_ hS
     obtain ⟨q2f, -⟩ := hF_
     replace q2f : Ep8 49 = .agg #[.int .i64 e40.1.fa.Layer, .int .i64 e40.1.fa.X, .int .i64 e40.1.fa.Y, .int .i64 e40.1.fb.Layer, .int .i64 e40.1.fb.X, .int .i64 e40.1.fb.Y] := emk q2f
     refine o_buildSlice (vs := [.agg #[.int .i64 e40.1.fa.Layer, .int .i64 e40.1.fa.X, .int .i64 e40.1.fa.Y, .int .i64 e40.1.fb.Layer, .int .i64 e40.1.fb.X, .int .i64 e40.1.fb.Y]]) (cs := [.int .i64 e40.1.fa.Layer, .int .i64 e40.1.fa.X, .int .i64 e40.1.fa.Y, .int .i64 e40.1.fb.Layer, .int .i64 e40.1.fb.X, .int .i64 e40.1.fb.Y]) sl_114 zero_94 (parts_eq (pt (va := .agg #[.int .i64 e40.1.fa.Layer, .int .i64 e40.1.fa.X, .int .i64 e40.1.fa.Y, .int .i64 e40.1.fb.Layer, .int .i64 e40.1.fb.X, .int .i64 e40.1.fb.Y]) q2f pt0)) rfl (by intro v hv; simp only [List.mem_cons, List.not_mem_nil, or_false] at hv; first | (subst hv; rfl) | (rcases hv with rfl <;> rfl)) (by decide) rfl hS (fun b50 w' hS => ?_)
     refine x_done <| ?_
     refine x_fin ⟨⟨_, rfl⟩, rfl, ?_⟩
     exact emk hS
    ·intro Ep8 w l' hE8 hO8 hF_ hS
     obtain ⟨q1b, q2g, -⟩ := hF_
     replace q1b : Ep8 45 = .map (some q3) := emk q1b
     replace q2g : Ep8 47 = .agg #[.int .i64 e40.1.fa.Layer, .int .i64 e40.1.fa.X, .int .i64 e40.1.fa.Y] := emk q2g
     replace hS : St w0 w (mapS 94 R_extract_step q3 kf_61 q6 :: l') := emk hS
     have q_ := St.openS (T_rules_Spot.mk e40.1.fa.Layer e40.1.fa.X e40.1.fa.Y) hS; obtain ⟨q44, q46, q3q, q0j, q16, hS⟩ := q_
     rw [← q36] at q16
     replace q16 := q16 ρ
     have e_ := St.vec_n hS q16; subst e_
     refine o_mapEntryS (k := (T_rules_Spot.mk e40.1.fa.Layer e40.1.fa.X e40.1.fa.Y)) um_79 kp_61 (zero1 zv_114) q1b q2g (hS.pull 1) (q3c.trans (congrArg (fun q_ => mput (T_rules_Spot.mk e40.1.fa.Layer e40.1.fa.X e40.1.fa.Y) q_ q6) q36)) (fun w' hS => ?_)
     refine x_done <| ?_
     refine x_fin ⟨⟨_, rfl⟩, rfl, ?_⟩
     replace hS := St.bun (Φ := (fun (q0j : List Value) => RepL R_extract_step ρ q0g q0j)) (L := (fun (q0j : List Value) => [vec 94 R_extract_step.sz (.slice q44 q0g.length q3q) q0g.length q0j])) q0j q16 (hS.pull 1)
     exact emk (hS.pull 1)
    ·intro Ep8 w l' hE8 hO8 hF_ hS
     obtain ⟨q0x, -⟩ := hF_
     replace q0x : Ep8 51 = .tuple #[.slice (adOf (partOf 0 (Ep8 51))) q0g.length (capOf (partOf 0 (Ep8 51))), .int .i64 ((mpos (T_rules_Spot.mk e40.1.fa.Layer e40.1.fa.X e40.1.fa.Y) q6 : Nat) : Int)] := emk q0x
     refine p (yl_extract q0x rfl) <| x_done <| ?_
     refine x_fin ⟨⟨_, rfl⟩, rfl, ?_⟩
     exact emk hS
    ·intro Ep8 w l' hE8 hO8 hF_ hS
     obtain ⟨q2h, q0x, q2i, -⟩ := hF_
     replace q2h : Ep8 50 = .slice (some ⟨(blkOf (Ep8 50)), 0, none⟩) 1 1 := emk q2h
     replace q0x : Ep8 51 = .tuple #[.slice (adOf (partOf 0 (Ep8 51))) q0g.length (capOf (partOf 0 (Ep8 51))), .int .i64 ((mpos (T_rules_Spot.mk e40.1.fa.Layer e40.1.fa.X e40.1.fa.Y) q6 : Nat) : Int)] := emk q0x
     replace q2i : Ep8 48 = .slice (adOf (partOf 0 (Ep8 51))) q0g.length (capOf (partOf 0 (Ep8 51))) := emk q2i
     replace hS : St w0 w (cells (blkOf (Ep8 50)) 94 [.int .i64 e40.1.fa.Layer, .int .i64 e40.1.fa.X, .int .i64 e40.1.fa.Y, .int .i64 e40.1.fb.Layer, .int .i64 e40.1.fb.X, .int .i64 e40.1.fb.Y] :: ro ρ :: bunA (fun (q0j : List Value) => RepL R_extract_step ρ q0g q0j) (fun (q0j : List Value) => [vec 94 R_extract_step.sz (.slice (adOf (partOf 0 (Ep8 51))) q0g.length (capOf (partOf 0 (Ep8 51)))) q0g.length q0j]) :: l') := emk hS
     have q_ := St.unbun (hS.pull 2); obtain ⟨q0j, q16, hS⟩ := q_
     refine o_ap sl_114 zero_94 rfl (by decide) q2i q2h hS q16 (src_blk usl_114 (hS.pull 1) rfl rfl) (RepL.cons (R := R_extract_step) (ρ := ρ) (x := e40.1) (cs := [.int .i64 e40.1.fa.Layer, .int .i64 e40.1.fa.X, .int .i64 e40.1.fa.Y, .int .i64 e40.1.fb.Layer, .int .i64 e40.1.fb.X, .int .i64 e40.1.fb.Y]) rfl RepL.nil) q3n q3o (fun A52 c52 cs52 w' hr52 hS => ?_)
     refine x_done <| ?_
     refine x_fin ⟨⟨_, rfl⟩, rfl, ?_⟩
     replace hS := St.bun (Φ := (fun (cs52 : List Value) => RepL R_extract_step ρ q10 cs52)) (L := (fun (cs52 : List Value) => [vec 94 R_extract_step.sz (.slice A52 q10.length c52) q10.length cs52])) cs52 hr52 hS
     exact emk ((hS.pull 2).pull 2)
    ·intro Ep8 w l' hE8 hO8 hF_ hS
     obtain ⟨q0x, -⟩ := hF_
     replace q0x : Ep8 51 = .tuple #[.slice (adOf (partOf 0 (Ep8 51))) q0g.length (capOf (partOf 0 (Ep8 51))), .int .i64 ((mpos (T_rules_Spot.mk e40.1.fa.Layer e40.1.fa.X e40.1.fa.Y) q6 : Nat) : Int)] := emk q0x
     refine p (yl_extract q0x rfl) <| x_done <| ?_
     refine x_fin ⟨⟨_, rfl⟩, rfl, ?_⟩
     exact emk hS
    ·intro Ep8 w l' hE8 hO8 hF_ hS
     obtain ⟨q1b, q0x, q1o, q1p, -⟩ := hF_
     replace q1b : Ep8 45 = .map (some q3) := emk q1b
     replace q0x : Ep8 51 = .tuple #[.slice (adOf (partOf 0 (Ep8 51))) q0g.length (capOf (partOf 0 (Ep8 51))), .int .i64 ((mpos (T_rules_Spot.mk e40.1.fa.Layer e40.1.fa.X e40.1.fa.Y) q6 : Nat) : Int)] := emk q0x
     replace q1o : Ep8 52 = .slice (adOf (Ep8 52)) q10.length (capOf (Ep8 52)) := emk q1o
     replace q1p : Ep8 53 = .int .i64 ((mpos (T_rules_Spot.mk e40.1.fa.Layer e40.1.fa.X e40.1.fa.Y) q6 : Nat) : Int) := emk q1p
     replace hS : St w0 w (ro ρ :: holeS 94 R_extract_step q3 kf_61 q3m (T_rules_Spot.mk e40.1.fa.Layer e40.1.fa.X e40.1.fa.Y) ⟨(adOf (partOf 0 (Ep8 51))), q0g.length, (capOf (partOf 0 (Ep8 51)))⟩ :: bunA (fun (cs52 : List Value) => RepL R_extract_step ρ q10 cs52) (fun (cs52 : List Value) => [vec 94 R_extract_step.sz (.slice (adOf (Ep8 52)) q10.length (capOf (Ep8 52))) q10.length cs52]) :: l') := emk hS
     have q_ := St.unbun (hS.pull 2); obtain ⟨cs52, hr52, hS⟩ := q_
     refine o_entryStoreS (k := (T_rules_Spot.mk e40.1.fa.Layer e40.1.fa.X e40.1.fa.Y)) (es := q6) (v0 := q0g) q1b q1p q1o rfl q3c (fun _ => RepL.flat (fun h => h) hr52) ((hS.pull 2).pull 1) q3p (fun w' hS => ?_)
     refine x_done <| ?_
     refine x_fin ⟨⟨undef, rfl⟩, trivial, ?_⟩
     replace hS := St.bun (Φ := (fun (x : Unit) => True)) (L := (fun (x : Unit) => [])) () trivial hS
     exact emk ((hS.pull 1).pull 2)
   intro Ep8 w' hE8 hF_ hS
   obtain ⟨q2b, q2c, q2d, q1b, q2e, q2g, q2f, q2h, q0x, q2i, q1o, q1p, -⟩ := hF_
   replace q2b : Ep8 42 = .pointer (some ⟨q4, 0, none⟩) := emk q2b
   replace q2c : Ep8 43 = .pointer (some ⟨q4, 0, none⟩) := emk q2c
   replace q2d : Ep8 44 = .pointer (some ⟨q4, 8, none⟩) := emk q2d
   replace q1b : Ep8 45 = .map (some q3) := emk q1b
   replace q2e : Ep8 46 = .pointer (some ⟨b9, 0, none⟩) := emk q2e
   replace q2g : Ep8 47 = .agg #[.int .i64 e40.1.fa.Layer, .int .i64 e40.1.fa.X, .int .i64 e40.1.fa.Y] := emk q2g
   replace q2f : Ep8 49 = .agg #[.int .i64 e40.1.fa.Layer, .int .i64 e40.1.fa.X, .int .i64 e40.1.fa.Y, .int .i64 e40.1.fb.Layer, .int .i64 e40.1.fb.X, .int .i64 e40.1.fb.Y] := emk q2f
   replace q2h : Ep8 50 = .slice (some ⟨(blkOf (Ep8 50)), 0, none⟩) 1 1 := emk q2h
   replace q0x : Ep8 51 = .tuple #[.slice (adOf (partOf 0 (Ep8 51))) q0g.length (capOf (partOf 0 (Ep8 51))), .int .i64 ((mpos (T_rules_Spot.mk e40.1.fa.Layer e40.1.fa.X e40.1.fa.Y) q6 : Nat) : Int)] := emk q0x
   replace q2i : Ep8 48 = .slice (adOf (partOf 0 (Ep8 51))) q0g.length (capOf (partOf 0 (Ep8 51))) := emk q2i
   replace q1o : Ep8 52 = .slice (adOf (Ep8 52)) q10.length (capOf (Ep8 52)) := emk q1o
   replace q1p : Ep8 53 = .int .i64 ((mpos (T_rules_Spot.mk e40.1.fa.Layer e40.1.fa.X e40.1.fa.Y) q6 : Nat) : Int) := emk q1p
   replace hS : St w0 w' (cells q4 82 [.int .i64 q0l, .int .i64 q0m, .int .i64 q0n, .int .i64 q0o, .slice q0b q0p.length c_t0_4, .slice q0c q0q.length c_t0_5, .slice q0d q0r.length c_t0_6, .slice q0e q0s.length c_t0_7, .map (some q3), .map (some q2), .map (some q5)] :: cells b9 94 [.int .i64 e40.1.fa.Layer, .int .i64 e40.1.fa.X, .int .i64 e40.1.fa.Y, .int .i64 e40.1.fb.Layer, .int .i64 e40.1.fb.X, .int .i64 e40.1.fb.Y] :: cells (blkOf (Ep8 50)) 94 [.int .i64 e40.1.fa.Layer, .int .i64 e40.1.fa.X, .int .i64 e40.1.fa.Y, .int .i64 e40.1.fb.Layer, .int .i64 e40.1.fb.X, .int .i64 e40.1.fb.Y] :: ro ρ :: mapS 94 R_extract_step q3 kf_61 q0t :: bunA (fun (x : Unit) => True) (fun (x : Unit) => []) :: (itA b37 q0a q0u.length (q13 ++ [i38]) :: mapA q0a kf_94 Value.bool q0u :: mapA q2 kf_61 (Value.int .i64) q7 :: mapA q5 kf_61 (Value.int .i64) q0z :: mapA q0f kf_61 Value.bool q12 :: mapA q8 kf_61 Value.bool others2 :: l)) := emk hS
   have q_ := St.unbun (hS.pull 5); obtain ⟨⟨⟩, -, hS⟩ := q_
   refine x_seq <| ?_
   replace hFL6 := nlv_s hFL6; obtain ⟨q0h, q37, hFL6⟩ := hFL6
   replace hFL6 := nlv_s hFL6; obtain ⟨q3r, q3d, hFL6⟩ := hFL6
   replace hFL6 := nlv_s hFL6; obtain ⟨q11, q3s, hFL6⟩ := hFL6
   replace hFL6 := nck_s hFL6; obtain ⟨q3t, hFL6⟩ := hFL6
   replace hFL6 := nlv_s hFL6; obtain ⟨q20, q3u, hFL6⟩ := hFL6
   refine x_par (w0 := w0) [⟨[], [], [54], [], [], [], none⟩, ⟨[0], [0], [55], [], [], [], none⟩, ⟨[0, 1], [1], [56], [], [], [], none⟩, ⟨[0, 1, 2], [2], [57], [0], [], [], none⟩, ⟨[], [], [58], [], [], [], none⟩, ⟨[4], [4], [59], [1], [], [], none⟩, ⟨[], [], [61], [1], [], [], none⟩, ⟨[6], [6], [62], [], [], [2], none⟩, ⟨[0, 1, 2, 3, 4, 5, 6, 7], [3, 5], [63], [], [3], [4, 5], none⟩, ⟨[0, 1, 2, 3, 4, 5, 6, 7, 8], [8], [60, 63], [], [], [], none⟩, ⟨[0, 1, 2, 3, 4, 5, 6, 7, 8, 9], [7, 8, 9], [64], [2, 6], [5], [7], none⟩, ⟨[0, 1, 2, 3, 4, 5, 6, 7, 8], [8], [65], [], [], [], none⟩, ⟨[0, 1, 2, 3, 4, 5, 6, 7, 8, 9, 10, 11], [3, 8, 10, 11], [], [6], [4, 7], [8, 9], none⟩] [⟨none, none, []⟩, ⟨none, none, []⟩, ⟨(some 7), none, [62]⟩, ⟨none, (some 8), []⟩, ⟨(some 8), (some 12), [63]⟩, ⟨(some 8), (some 10), [63]⟩, ⟨none, none, []⟩, ⟨(some 10), (some 12), [64]⟩, ⟨(some 12), none, []⟩, ⟨(some 12), none, []⟩] [54, 55, 56, 57, 58, 59, 60, 61, 62, 63, 64, 65] [0, 1, 3, 6] [0, 1, 2, 6, 8, 9] [0, 1, 2, 3, 4, 5, 6, 7, 8, 9, 10, 11] [fun Ep9 => Ep9 54 = .pointer (some ⟨q4, 0, none⟩), fun Ep9 => Ep9 55 = .pointer (some ⟨q4, 0, none⟩), fun Ep9 => Ep9 56 = .pointer (some ⟨q4, 8, none⟩), fun Ep9 => Ep9 57 = .map (some q3), fun Ep9 => Ep9 58 = .pointer (some ⟨b9, 3, none⟩), fun Ep9 => Ep9 59 = .agg #[.int .i64 e40.1.fb.Layer, .int .i64 e40.1.fb.X, .int .i64 e40.1.fb.Y], fun Ep9 => Ep9 61 = .agg #[.int .i64 e40.1.fa.Layer, .int .i64 e40.1.fa.X, .int .i64 e40.1.fa.Y, .int .i64 e40.1.fb.Layer, .int .i64 e40.1.fb.X, .int .i64 e40.1.fb.Y], fun Ep9 => Ep9 62 = .slice (some ⟨(blkOf (Ep9 62)), 0, none⟩) 1 1, fun Ep9 => Ep9 63 = .tuple #[.slice (adOf (partOf 0 (Ep9 63))) q0h.length (capOf (partOf 0 (Ep9 63))), .int .i64 ((mpos (T_rules_Spot.mk e40.1.fb.Layer e40.1.fb.X e40.1.fb.Y) q0t : Nat) : Int)], fun Ep9 => Ep9 60 = .slice (adOf (partOf 0 (Ep9 63))) q0h.length (capOf (partOf 0 (Ep9 63))), fun Ep9 => Ep9 64 = .slice (adOf (Ep9 64)) q11.length (capOf (Ep9 64)), fun Ep9 => Ep9 65 = .int .i64 ((mpos (T_rules_Spot.mk e40.1.fb.Layer e40.1.fb.X e40.1.fb.Y) q0t : Nat) : Int), fun Ep9 => True] [fun Ep9 => cells q4 82 [.int .i64 q0l, .int .i64 q0m, .int .i64 q0n, .int .i64 q0o, .slice q0b q0p.length c_t0_4, .slice q0c q0q.length c_t0_5, .slice q0d q0r.length c_t0_6, .slice q0e q0s.length c_t0_7, .map (some q3), .map (some q2), .map (some q5)], fun Ep9 => cells b9 94 [.int .i64 e40.1.fa.Layer, .int .i64 e40.1.fa.X, .int .i64 e40.1.fa.Y, .int .i64 e40.1.fb.Layer, .int .i64 e40.1.fb.X, .int .i64 e40.1.fb.Y], fun Ep9 => cells (blkOf (Ep9 62)) 94 [.int .i64 e40.1.fa.Layer, .int .i64 e40.1.fa.X, .int .i64 e40.1.fa.Y, .int .i64 e40.1.fb.Layer, .int .i64 e40.1.fb.X, .int .i64 e40.1.fb.Y], fun Ep9 => mapS 94 R_extract_step q3 kf_61 q0t, fun Ep9 => holeS 94 R_extract_step q3 kf_61 q3r (T_rules_Spot.mk e40.1.fb.Layer e40.1.fb.X e40.1.fb.Y) ⟨(adOf (partOf 0 (Ep9 63))), q0h.length, (capOf (partOf 0 (Ep9 63)))⟩, fun Ep9 => bunA (fun (q0k : List Value) => RepL R_extract_step ρ q0h q0k) (fun (q0k : List Value) => [vec 94 R_extract_step.sz (.slice (adOf (partOf 0 (Ep9 63))) q0h.length (capOf (partOf 0 (Ep9 63)))) q0h.length q0k]), fun Ep9 => ro ρ, fun Ep9 => bunA (fun (cs64 : List Value) => RepL R_extract_step ρ q11 cs64) (fun (cs64 : List Value) => [vec 94 R_extract_step.sz (.slice (adOf (Ep9 64)) q11.length (capOf (Ep9 64))) q11.length cs64]), fun Ep9 => mapS 94 R_extract_step q3 kf_61 q20, fun Ep9 => bunA (fun (x : Unit) => True) (fun (x : Unit) => [])] mixed (by kernel_rfl) ((((hS.pull 3).pull 4).pull 3).pull 3) ?_ ?_
   ·refine ⟨?_, ?_, ?_, ?_, ?_, ?_, ?_, ?_, ?_, ?_, ?_, ?_, ?_, trivial⟩
    ·intro Ep9 w l' hE9 hO9 hF_ hS
     refine p (yl_move ((hE9 0 rfl).trans ((hE8 0 rfl).trans q1e))) <| x_done <| ?_
     refine x_fin ⟨⟨_, rfl⟩, rfl, ?_⟩
     exact emk hS
    ·intro Ep9 w l' hE9 hO9 hF_ hS
     obtain ⟨q2j, -⟩ := hF_
     replace q2j : Ep9 54 = .pointer (some ⟨q4, 0, none⟩) := emk q2j
     refine p (yl_nilCheck q2j) <| x_done <| ?_
     refine x_fin ⟨⟨_, rfl⟩, rfl, ?_⟩
     exact emk hS
    ·intro Ep9 w l' hE9 hO9 hF_ hS
     obtain ⟨q2k, -⟩ := hF_
     replace q2k : Ep9 55 = .pointer (some ⟨q4, 0, none⟩) := emk q2k
     refine p (yl_field0 fld_82_1 q2k) <| x_done <| ?_
     refine x_fin ⟨⟨_, rfl⟩, rfl, ?_⟩
     exact emk hS
    ·intro Ep9 w l' hE9 hO9 hF_ hS
     obtain ⟨q2l, -⟩ := hF_
     replace q2l : Ep9 56 = .pointer (some ⟨q4, 8, none⟩) := emk q2l
     replace hS : St w0 w (cells q4 82 [.int .i64 q0l, .int .i64 q0m, .int .i64 q0n, .int .i64 q0o, .slice q0b q0p.length c_t0_4, .slice q0c q0q.length c_t0_5, .slice q0d q0r.length c_t0_6, .slice q0e q0s.length c_t0_7, .map (some q3), .map (some q2), .map (some q5)] :: l') := emk hS
     refine pa (at_load one_79 q2l (hS.cell rfl)) <| x_done <| ?_
     refine x_fin ⟨⟨_, rfl⟩, rfl, ?_⟩
     exact emk hS
    ·intro Ep9 w l' hE9 hO9 hF_ hS
     refine p (yl_field0 fld_94_1 ((hE9 9 rfl).trans (hE8 9 rfl))) <| x_done <| ?_
     refine x_fin ⟨⟨_, rfl⟩, rfl, ?_⟩
     exact emk hS
    ·intro Ep9 w l' hE9 hO9 hF_ hS
     obtain ⟨q2m, -⟩ := hF_
     replace q2m : Ep9 58 = .pointer (some ⟨b9, 3, none⟩) := emk q2m
     replace hS : St w0 w (cells b9 94 [.int .i64 e40.1.fa.Layer, .int .i64 e40.1.fa.X, .int .i64 e40.1.fa.Y, .int .i64 e40.1.fb.Layer, .int .i64 e40.1.fb.X, .int .i64 e40.1.fb.Y] :: l') := emk hS
     refine pa (v := .agg #[.int .i64 e40.1.fb.Layer, .int .i64 e40.1.fb.X, .int .i64 e40.1.fb.Y]) (ld_sub agg_61 q2m rfl rfl hS) <| x_done <| ?_
     refine x_fin ⟨⟨_, rfl⟩, rfl, ?_⟩
     exact emk hS
    ·intro Ep9 w l' hE9 hO9 hF_ hS
     replace hS : St w0 w (cells b9 94 [.int .i64 e40.1.fa.Layer, .int .i64 e40.1.fa.X, .int .i64 e40.1.fa.Y, .int .i64 e40.1.fb.Layer, .int .i64 e40.1.fb.X, .int .i64 e40.1.fb.Y] :: l') := emk hS
     refine pa (v := .agg #[.int .i64 e40.1.fa.Layer, .int .i64 e40.1.fa.X, .int .i64 e40.1.fa.Y, .int .i64 e40.1.fb.Layer, .int .i64 e40.1.fb.X, .int .i64 e40.1.fb.Y]) (ld_sub agg_94 ((hE9 9 rfl).trans (hE8 9 rfl)) rfl rfl hS) <| x_done <| ?_
     refine x_fin ⟨⟨_, rfl⟩, rfl, ?_⟩
     exact emk hS
    ·intro Ep9 w l' hE9 hO9 hF_ hS
     obtain ⟨q2n, -⟩ := hF_
     replace q2n : Ep9 61 = .agg #[.int .i64 e40.1.fa.Layer, .int .i64 e40.1.fa.X, .int .i64 e40.1.fa.Y, .int .i64 e40.1.fb.Layer, .int .i64 e40.1.fb.X, .int .i64 e40.1.fb.Y] := emk q2n
     refine o_buildSlice (vs := [.agg #[.int .i64 e40.1.fa.Layer, .int .i64 e40.1.fa.X, .int .i64 e40.1.fa.Y, .int .i64 e40.1.fb.Layer, .int .i64 e40.1.fb.X, .int .i64 e40.1.fb.Y]]) (cs := [.int .i64 e40.1.fa.Layer, .int .i64 e40.1.fa.X, .int .i64 e40.1.fa.Y, .int .i64 e40.1.fb.Layer, .int .i64 e40.1.fb.X, .int .i64 e40.1.fb.Y]) sl_114 zero_94 (parts_eq (pt (va := .agg #[.int .i64 e40.1.fa.Layer, .int .i64 e40.1.fa.X, .int .i64 e40.1.fa.Y, .int .i64 e40.1.fb.Layer, .int .i64 e40.1.fb.X, .int .i64 e40.1.fb.Y]) q2n pt0)) rfl (by intro v hv; simp only [List.mem_cons, List.not_mem_nil, or_false] at hv; first | (subst hv; rfl) | (rcases hv with rfl <;> rfl)) (by decide) rfl hS (fun b62 w' hS => ?_)
     refine x_done <| ?_
     refine x_fin ⟨⟨_, rfl⟩, rfl, ?_⟩
     exact emk hS
    ·intro Ep9 w l' hE9 hO9 hF_ hS
     obtain ⟨q1c, q2o, -⟩ := hF_
     replace q1c : Ep9 57 = .map (some q3) := emk q1c
     replace q2o : Ep9 59 = .agg #[.int .i64 e40.1.fb.Layer, .int .i64 e40.1.fb.X, .int .i64 e40.1.fb.Y] := emk q2o
     replace hS : St w0 w (mapS 94 R_extract_step q3 kf_61 q0t :: l') := emk hS
     have q_ := St.openS (T_rules_Spot.mk e40.1.fb.Layer e40.1.fb.X e40.1.fb.Y) hS; obtain ⟨q45, q47, q3v, q0k, q17, hS⟩ := q_
     rw [← q37] at q17
     replace q17 := q17 ρ
     have e_ := St.vec_n hS q17; subst e_
     refine o_mapEntryS (k := (T_rules_Spot.mk e40.1.fb.Layer e40.1.fb.X e40.1.fb.Y)) um_79 kp_61 (zero1 zv_114) q1c q2o (hS.pull 1) (q3d.trans (congrArg (fun q_ => mput (T_rules_Spot.mk e40.1.fb.Layer e40.1.fb.X e40.1.fb.Y) q_ q0t) q37)) (fun w' hS => ?_)
     refine x_done <| ?_
     refine x_fin ⟨⟨_, rfl⟩, rfl, ?_⟩
     replace hS := St.bun (Φ := (fun (q0k : List Value) => RepL R_extract_step ρ q0h q0k)) (L := (fun (q0k : List Value) => [vec 94 R_extract_step.sz (.slice q45 q0h.length q3v) q0h.length q0k])) q0k q17 (hS.pull 1)
     exact emk (hS.pull 1)
    ·intro Ep9 w l' hE9 hO9 hF_ hS
     obtain ⟨q0y, -⟩ := hF_
     replace q0y : Ep9 63 = .tuple #[.slice (adOf (partOf 0 (Ep9 63))) q0h.length (capOf (partOf 0 (Ep9 63))), .int .i64 ((mpos (T_rules_Spot.mk e40.1.fb.Layer e40.1.fb.X e40.1.fb.Y) q0t : Nat) : Int)] := emk q0y
     refine p (yl_extract q0y rfl) <| x_done <| ?_
     refine x_fin ⟨⟨_, rfl⟩, rfl, ?_⟩
     exact emk hS
    ·intro Ep9 w l' hE9 hO9 hF_ hS
     obtain ⟨q2p, q0y, q2q, -⟩ := hF_
     replace q2p : Ep9 62 = .slice (some ⟨(blkOf (Ep9 62)), 0, none⟩) 1 1 := emk q2p
     replace q0y : Ep9 63 = .tuple #[.slice (adOf (partOf 0 (Ep9 63))) q0h.length (capOf (partOf 0 (Ep9 63))), .int .i64 ((mpos (T_rules_Spot.mk e40.1.fb.Layer e40.1.fb.X e40.1.fb.Y) q0t : Nat) : Int)] := emk q0y
     replace q2q : Ep9 60 = .slice (adOf (partOf 0 (Ep9 63))) q0h.length (capOf (partOf 0 (Ep9 63))) := emk q2q
     replace hS : St w0 w (cells (blkOf (Ep9 62)) 94 [.int .i64 e40.1.fa.Layer, .int .i64 e40.1.fa.X, .int .i64 e40.1.fa.Y, .int .i64 e40.1.fb.Layer, .int .i64 e40.1.fb.X, .int .i64 e40.1.fb.Y] :: ro ρ :: bunA (fun (q0k : List Value) => RepL R_extract_step ρ q0h q0k) (fun (q0k : List Value) => [vec 94 R_extract_step.sz (.slice (adOf (partOf 0 (Ep9 63))) q0h.length (capOf (partOf 0 (Ep9 63)))) q0h.length q0k]) :: l') := emk hS
     have q_ := St.unbun (hS.pull 2); obtain ⟨q0k, q17, hS⟩ := q_
     refine o_ap sl_114 zero_94 rfl (by decide) q2q q2p hS q17 (src_blk usl_114 (hS.pull 1) rfl rfl) (RepL.cons (R := R_extract_step) (ρ := ρ) (x := e40.1) (cs := [.int .i64 e40.1.fa.Layer, .int .i64 e40.1.fa.X, .int .i64 e40.1.fa.Y, .int .i64 e40.1.fb.Layer, .int .i64 e40.1.fb.X, .int .i64 e40.1.fb.Y]) rfl RepL.nil) q3s q3t (fun A64 c64 cs64 w' hr64 hS => ?_)
     refine x_done <| ?_
     refine x_fin ⟨⟨_, rfl⟩, rfl, ?_⟩
     replace hS := St.bun (Φ := (fun (cs64 : List Value) => RepL R_extract_step ρ q11 cs64)) (L := (fun (cs64 : List Value) => [vec 94 R_extract_step.sz (.slice A64 q11.length c64) q11.length cs64])) cs64 hr64 hS
     exact emk ((hS.pull 2).pull 2)
    ·intro Ep9 w l' hE9 hO9 hF_ hS
     obtain ⟨q0y, -⟩ := hF_
     replace q0y : Ep9 63 = .tuple #[.slice (adOf (partOf 0 (Ep9 63))) q0h.length (capOf (partOf 0 (Ep9 63))), .int .i64 ((mpos (T_rules_Spot.mk e40.1.fb.Layer e40.1.fb.X e40.1.fb.Y) q0t : Nat) : Int)] := emk q0y
     refine p (yl_extract q0y rfl) <| x_done <| ?_
     refine x_fin ⟨⟨_, rfl⟩, rfl, ?_⟩
     exact emk hS
    ·intro Ep9 w l' hE9 hO9 hF_ hS
     obtain ⟨q1c, q0y, q1q, q1r, -⟩ := hF_
     replace q1c : Ep9 57 = .map (some q3) := emk q1c
     replace q0y : Ep9 63 = .tuple #[.slice (adOf (partOf 0 (Ep9 63))) q0h.length (capOf (partOf 0 (Ep9 63))), .int .i64 ((mpos (T_rules_Spot.mk e40.1.fb.Layer e40.1.fb.X e40.1.fb.Y) q0t : Nat) : Int)] := emk q0y
     replace q1q : Ep9 64 = .slice (adOf (Ep9 64)) q11.length (capOf (Ep9 64)) := emk q1q
     replace q1r : Ep9 65 = .int .i64 ((mpos (T_rules_Spot.mk e40.1.fb.Layer e40.1.fb.X e40.1.fb.Y) q0t : Nat) : Int) := emk q1r
     replace hS : St w0 w (ro ρ :: holeS 94 R_extract_step q3 kf_61 q3r (T_rules_Spot.mk e40.1.fb.Layer e40.1.fb.X e40.1.fb.Y) ⟨(adOf (partOf 0 (Ep9 63))), q0h.length, (capOf (partOf 0 (Ep9 63)))⟩ :: bunA (fun (cs64 : List Value) => RepL R_extract_step ρ q11 cs64) (fun (cs64 : List Value) => [vec 94 R_extract_step.sz (.slice (adOf (Ep9 64)) q11.length (capOf (Ep9 64))) q11.length cs64]) :: l') := emk hS
     have q_ := St.unbun (hS.pull 2); obtain ⟨cs64, hr64, hS⟩ := q_
     refine o_entryStoreS (k := (T_rules_Spot.mk e40.1.fb.Layer e40.1.fb.X e40.1.fb.Y)) (es := q0t) (v0 := q0h) q1c q1r q1q rfl q3d (fun _ => RepL.flat (fun h => h) hr64) ((hS.pull 2).pull 1) q3u (fun w' hS => ?_)
     refine x_done <| ?_
     refine x_fin ⟨⟨undef, rfl⟩, trivial, ?_⟩
     replace hS := St.bun (Φ := (fun (x : Unit) => True)) (L := (fun (x : Unit) => [])) () trivial hS
     exact emk ((hS.pull 1).pull 2)
   intro Ep9 w' hE9 hF_ hS
   obtain ⟨q2j, q2k, q2l, q1c, q2m, q2o, q2n, q2p, q0y, q2q, q1q, q1r, -⟩ := hF_
   replace q2j : Ep9 54 = .pointer (some ⟨q4, 0, none⟩) := emk q2j
   replace q2k : Ep9 55 = .pointer (some ⟨q4, 0, none⟩) := emk q2k
   replace q2l : Ep9 56 = .pointer (some ⟨q4, 8, none⟩) := emk q2l
   replace q1c : Ep9 57 = .map (some q3) := emk q1c
   replace q2m : Ep9 58 = .pointer (some ⟨b9, 3, none⟩) := emk q2m
   replace q2o : Ep9 59 = .agg #[.int .i64 e40.1.fb.Layer, .int .i64 e40.1.fb.X, .int .i64 e40.1.fb.Y] := emk q2o
   replace q2n : Ep9 61 = .agg #[.int .i64 e40.1.fa.Layer, .int .i64 e40.1.fa.X, .int .i64 e40.1.fa.Y, .int .i64 e40.1.fb.Layer, .int .i64 e40.1.fb.X, .int .i64 e40.1.fb.Y] := emk q2n
   replace q2p : Ep9 62 = .slice (some ⟨(blkOf (Ep9 62)), 0, none⟩) 1 1 := emk q2p
   replace q0y : Ep9 63 = .tuple #[.slice (adOf (partOf 0 (Ep9 63))) q0h.length (capOf (partOf 0 (Ep9 63))), .int .i64 ((mpos (T_rules_Spot.mk e40.1.fb.Layer e40.1.fb.X e40.1.fb.Y) q0t : Nat) : Int)] := emk q0y
   replace q2q : Ep9 60 = .slice (adOf (partOf 0 (Ep9 63))) q0h.length (capOf (partOf 0 (Ep9 63))) := emk q2q
   replace q1q : Ep9 64 = .slice (adOf (Ep9 64)) q11.length (capOf (Ep9 64)) := emk q1q
   replace q1r : Ep9 65 = .int .i64 ((mpos (T_rules_Spot.mk e40.1.fb.Layer e40.1.fb.X e40.1.fb.Y) q0t : Nat) : Int) := emk q1r
   replace hS : St w0 w' (cells q4 82 [.int .i64 q0l, .int .i64 q0m, .int .i64 q0n, .int .i64 q0o, .slice q0b q0p.length c_t0_4, .slice q0c q0q.length c_t0_5, .slice q0d q0r.length c_t0_6, .slice q0e q0s.length c_t0_7, .map (some q3), .map (some q2), .map (some q5)] :: cells b9 94 [.int .i64 e40.1.fa.Layer, .int .i64 e40.1.fa.X, .int .i64 e40.1.fa.Y, .int .i64 e40.1.fb.Layer, .int .i64 e40.1.fb.X, .int .i64 e40.1.fb.Y] :: cells (blkOf (Ep9 62)) 94 [.int .i64 e40.1.fa.Layer, .int .i64 e40.1.fa.X, .int .i64 e40.1.fa.Y, .int .i64 e40.1.fb.Layer, .int .i64 e40.1.fb.X, .int .i64 e40.1.fb.Y] :: ro ρ :: mapS 94 R_extract_step q3 kf_61 q20 :: bunA (fun (x : Unit) => True) (fun (x : Unit) => []) :: (cells (blkOf (Ep8 50)) 94 [.int .i64 e40.1.fa.Layer, .int .i64 e40.1.fa.X, .int .i64 e40.1.fa.Y, .int .i64 e40.1.fb.Layer, .int .i64 e40.1.fb.X, .int .i64 e40.1.fb.Y] :: itA b37 q0a q0u.length (q13 ++ [i38]) :: mapA q0a kf_94 Value.bool q0u :: mapA q2 kf_61 (Value.int .i64) q7 :: mapA q5 kf_61 (Value.int .i64) q0z :: mapA q0f kf_61 Value.bool q12 :: mapA q8 kf_61 Value.bool others2 :: l)) := emk hS
   have q_ := St.unbun (hS.pull 5); obtain ⟨⟨⟩, -, hS⟩ := q_
   refine x_seq <| x_region <| p (yl_field0 fld_94_0 ((hE9 9 rfl).trans (hE8 9 rfl))) <| p (yl_field0 fld_61_0 rfl) <|
    pa (at_load one_3 rfl ((hS.pull 1).cell rfl)) <| p (yl_field0 fld_94_1 ((hE9 9 rfl).trans (hE8 9 rfl))) <| p (yl_fieldN fld_61_0 rfl) <| pa (at_load one_3 rfl ((hS.pull 1).cell rfl)) <|
    p (yl_neq rfl rfl) <| x_done <| ?_
   replace hFL6 := nbd_j hFL6; obtain ⟨oc72, hFc72, hFL6⟩ := hFL6
   refine x_join (fun E w => ∃ (q15 : List (T_rules_Spot × Int)), oc72 q15 ∧ E 0 = .pointer (some ⟨q4, 0, none⟩) ∧ E 37 = .pointer (some ⟨b37, 0, none⟩) ∧ St w0 w (cells q4 82 [.int .i64 q0l, .int .i64 q0m, .int .i64 q0n, .int .i64 q0o, .slice q0b q0p.length c_t0_4, .slice q0c q0q.length c_t0_5, .slice q0d q0r.length c_t0_6, .slice q0e q0s.length c_t0_7, .map (some q3), .map (some q2), .map (some q5)] :: mapA q0a kf_94 Value.bool q0u :: itA b37 q0a q0u.length (q13 ++ [i38]) :: mapS 94 R_extract_step q3 kf_61 q20 :: mapA q2 kf_61 (Value.int .i64) q15 :: mapA q5 kf_61 (Value.int .i64) q0z :: mapA q0f kf_61 Value.bool q12 :: mapA q8 kf_61 Value.bool others2 :: ro ρ :: l)) ?_ ?_
   ·refine x_cond_p (e40.1.fa.Layer ≠ e40.1.fb.Layer) rfl (fun hc72 => ?_) (fun hc72 => ?_)
    ·replace hFc72 := nit_t hc72 hFc72
     replace hFc72 := nlv_s hFc72; obtain ⟨x79, hx79, hFc72⟩ := hFc72
     replace hFc72 := nar_s hFc72; obtain ⟨x80, hx80, hFc72⟩ := hFc72
     replace hFc72 := nlv_s hFc72; obtain ⟨x81, hx81, hFc72⟩ := hFc72
     replace hFc72 := nlv_s hFc72; obtain ⟨q32, q2x, hFc72⟩ := hFc72
     replace hFc72 := nlv_s hFc72; obtain ⟨q2y, q3e, hFc72⟩ := hFc72
     refine x_par (w0 := w0) [⟨[], [], [73], [], [], [], none⟩, ⟨[0], [0], [74], [], [], [], none⟩, ⟨[0, 1], [1], [75], [], [], [], none⟩, ⟨[0, 1, 2], [2], [76], [0], [], [], none⟩, ⟨[], [], [77], [], [], [], none⟩, ⟨[4], [4], [78], [1], [], [], none⟩, ⟨[0, 1, 2, 3, 4, 5], [3, 5], [79], [], [], [], some (2, 3)⟩, ⟨[0, 1, 2, 3, 4, 5, 6], [6], [80], [], [], [], none⟩, ⟨[0, 1, 2, 3, 4, 5], [3, 5], [81], [], [2], [3], none⟩, ⟨[0, 1, 2, 3, 4, 5, 8], [8], [82], [], [], [], none⟩, ⟨[0, 1, 2, 3, 4, 5, 6, 7, 8, 9], [3, 7, 9], [], [], [3], [4], none⟩] [⟨none, none, []⟩, ⟨none, none, []⟩, ⟨none, (some 8), []⟩, ⟨(some 8), (some 10), []⟩, ⟨(some 10), none, []⟩] [73, 74, 75, 76, 77, 78, 79, 80, 81, 82] [0, 1, 2] [0, 1, 4] [0, 1, 2, 3, 4, 5, 6, 7, 8, 9] [fun Ep11 => Ep11 73 = .pointer (some ⟨q4, 0, none⟩), fun Ep11 => Ep11 74 = .pointer (some ⟨q4, 0, none⟩), fun Ep11 => Ep11 75 = .pointer (some ⟨q4, 9, none⟩), fun Ep11 => Ep11 76 = .map (some q2), fun Ep11 => Ep11 77 = .pointer (some ⟨b9, 0, none⟩), fun Ep11 => Ep11 78 = .agg #[.int .i64 e40.1.fa.Layer, .int .i64 e40.1.fa.X, .int .i64 e40.1.fa.Y], fun Ep11 => Ep11 79 = .int .i64 x79, fun Ep11 => Ep11 80 = .int .i64 x80, fun Ep11 => Ep11 81 = .tuple #[.int .i64 x81, .int .i64 ((mpos (T_rules_Spot.mk e40.1.fa.Layer e40.1.fa.X e40.1.fa.Y) q7 : Nat) : Int)], fun Ep11 => Ep11 82 = .int .i64 ((mpos (T_rules_Spot.mk e40.1.fa.Layer e40.1.fa.X e40.1.fa.Y) q7 : Nat) : Int), fun Ep11 => True] [fun Ep11 => cells q4 82 [.int .i64 q0l, .int .i64 q0m, .int .i64 q0n, .int .i64 q0o, .slice q0b q0p.length c_t0_4, .slice q0c q0q.length c_t0_5, .slice q0d q0r.length c_t0_6, .slice q0e q0s.length c_t0_7, .map (some q3), .map (some q2), .map (some q5)], fun Ep11 => cells b9 94 [.int .i64 e40.1.fa.Layer, .int .i64 e40.1.fa.X, .int .i64 e40.1.fa.Y, .int .i64 e40.1.fb.Layer, .int .i64 e40.1.fb.X, .int .i64 e40.1.fb.Y], fun Ep11 => mapA q2 kf_61 (Value.int .i64) q7, fun Ep11 => mapA q2 kf_61 (Value.int .i64) q32, fun Ep11 => mapA q2 kf_61 (Value.int .i64) q2y] mixed (by kernel_rfl) (((hS.pull 8).pull 2).pull 2) ?_ ?_
     ·refine ⟨?_, ?_, ?_, ?_, ?_, ?_, ?_, ?_, ?_, ?_, ?_, trivial⟩
      ·intro Ep11 w l' hE11 hO11 hF_ hS
       refine p (yl_move ((hE11 0 rfl).trans ((hE9 0 rfl).trans ((hE8 0 rfl).trans q1e)))) <| x_done <| ?_
       refine x_fin ⟨⟨_, rfl⟩, rfl, ?_⟩
       exact emk hS
      ·intro Ep11 w l' hE11 hO11 hF_ hS
       obtain ⟨q1s, -⟩ := hF_
       replace q1s : Ep11 73 = .pointer (some ⟨q4, 0, none⟩) := emk q1s
       refine p (yl_nilCheck q1s) <| x_done <| ?_
       refine x_fin ⟨⟨_, rfl⟩, rfl, ?_⟩
       exact emk hS
      ·intro Ep11 w l' hE11 hO11 hF_ hS
       obtain ⟨q1t, -⟩ := hF_
       replace q1t : Ep11 74 = .pointer (some ⟨q4, 0, none⟩) := emk q1t
       refine p (yl_field0 fld_82_2 q1t) <| x_done <| ?_
       refine x_fin ⟨⟨_, rfl⟩, rfl, ?_⟩
       exact emk hS
      ·intro Ep11 w l' hE11 hO11 hF_ hS
       obtain ⟨q1u, -⟩ := hF_
       replace q1u : Ep11 75 = .pointer (some ⟨q4, 9, none⟩) := emk q1u
       replace hS : St w0 w (cells q4 82 [.int .i64 q0l, .int .i64 q0m, .int .i64 q0n, .int .i64 q0o, .slice q0b q0p.length c_t0_4, .slice q0c q0q.length c_t0_5, .slice q0d q0r.length c_t0_6, .slice q0e q0s.length c_t0_7, .map (some q3), .map (some q2), .map (some q5)] :: l') := emk hS
       refine pa (at_load one_80 q1u (hS.cell rfl)) <| x_done <| ?_
       refine x_fin ⟨⟨_, rfl⟩, rfl, ?_⟩
       exact emk hS
      ·intro Ep11 w l' hE11 hO11 hF_ hS
       refine p (yl_field0 fld_94_0 ((hE11 9 rfl).trans ((hE9 9 rfl).trans (hE8 9 rfl)))) <| x_done <| ?_
       refine x_fin ⟨⟨_, rfl⟩, rfl, ?_⟩
       exact emk hS
      ·intro Ep11 w l' hE11 hO11 hF_ hS
       obtain ⟨q1v, -⟩ := hF_
       replace q1v : Ep11 77 = .pointer (some ⟨b9, 0, none⟩) := emk q1v
       replace hS : St w0 w (cells b9 94 [.int .i64 e40.1.fa.Layer, .int .i64 e40.1.fa.X, .int .i64 e40.1.fa.Y, .int .i64 e40.1.fb.Layer, .int .i64 e40.1.fb.X, .int .i64 e40.1.fb.Y] :: l') := emk hS
       refine pa (v := .agg #[.int .i64 e40.1.fa.Layer, .int .i64 e40.1.fa.X, .int .i64 e40.1.fa.Y]) (ld_sub agg_61 q1v rfl rfl hS) <| x_done <| ?_
       refine x_fin ⟨⟨_, rfl⟩, rfl, ?_⟩
       exact emk hS
      ·refine ⟨?_, ?_⟩
       ·intro Ep11 w l' hE11 hO11 hF_ hS
        obtain ⟨q0i, q0w, -⟩ := hF_
        replace q0i : Ep11 76 = .map (some q2) := emk q0i
        replace q0w : Ep11 78 = .agg #[.int .i64 e40.1.fa.Layer, .int .i64 e40.1.fa.X, .int .i64 e40.1.fa.Y] := emk q0w
        replace hS : St w0 w (mapA q2 kf_61 (Value.int .i64) q7 :: l') := emk hS
        refine pa (at_look (k := (T_rules_Spot.mk e40.1.fa.Layer e40.1.fa.X e40.1.fa.Y)) um_80 kp_61 (zero1 zv_3) q0i q0w hS hx79) <| x_done <| ?_
        refine x_fin ⟨⟨_, rfl⟩, rfl, ?_⟩
        exact emk hS
       ·intro Ep11 w l' hE11 hO11 hF_ hS
        obtain ⟨q0i, q0w, -⟩ := hF_
        replace q0i : Ep11 76 = .map (some q2) := emk q0i
        replace q0w : Ep11 78 = .agg #[.int .i64 e40.1.fa.Layer, .int .i64 e40.1.fa.X, .int .i64 e40.1.fa.Y] := emk q0w
        replace hS : St w0 w (mapA q2 kf_61 (Value.int .i64) q32 :: l') := emk hS
        refine pa (at_look (k := (T_rules_Spot.mk e40.1.fa.Layer e40.1.fa.X e40.1.fa.Y)) um_80 kp_61 (zero1 zv_3) q0i q0w hS (hx79.trans (mget_ent q2x hx81).symm)) <| x_done <| ?_
        refine x_fin ⟨⟨_, rfl⟩, rfl, ?_⟩
        exact emk hS
      ·intro Ep11 w l' hE11 hO11 hF_ hS
       obtain ⟨q1w, -⟩ := hF_
       replace q1w : Ep11 79 = .int .i64 x79 := emk q1w
       refine p (yadd q1w rfl hx80) <| x_done <| ?_
       refine x_fin ⟨⟨_, rfl⟩, rfl, ?_⟩
       exact emk hS
      ·intro Ep11 w l' hE11 hO11 hF_ hS
       obtain ⟨q0i, q0w, -⟩ := hF_
       replace q0i : Ep11 76 = .map (some q2) := emk q0i
       replace q0w : Ep11 78 = .agg #[.int .i64 e40.1.fa.Layer, .int .i64 e40.1.fa.X, .int .i64 e40.1.fa.Y] := emk q0w
       replace hS : St w0 w (mapA q2 kf_61 (Value.int .i64) q7 :: l') := emk hS
       refine o_mapEntry (k := (T_rules_Spot.mk e40.1.fa.Layer e40.1.fa.X e40.1.fa.Y)) (vf := (Value.int .i64)) um_80 kp_61 (zero1 zv_3) q0i q0w hS hx81 q2x (fun w' hS => ?_)
       refine x_done <| ?_
       refine x_fin ⟨⟨_, rfl⟩, rfl, ?_⟩
       exact emk hS
      ·intro Ep11 w l' hE11 hO11 hF_ hS
       obtain ⟨q1x, -⟩ := hF_
       replace q1x : Ep11 81 = .tuple #[.int .i64 x81, .int .i64 ((mpos (T_rules_Spot.mk e40.1.fa.Layer e40.1.fa.X e40.1.fa.Y) q7 : Nat) : Int)] := emk q1x
       refine p (yl_extract q1x rfl) <| x_done <| ?_
       refine x_fin ⟨⟨_, rfl⟩, rfl, ?_⟩
       exact emk hS
      ·intro Ep11 w l' hE11 hO11 hF_ hS
       obtain ⟨q0i, q1y, q1z, -⟩ := hF_
       replace q0i : Ep11 76 = .map (some q2) := emk q0i
       replace q1y : Ep11 80 = .int .i64 x80 := emk q1y
       replace q1z : Ep11 82 = .int .i64 ((mpos (T_rules_Spot.mk e40.1.fa.Layer e40.1.fa.X e40.1.fa.Y) q7 : Nat) : Int) := emk q1z
       replace hS : St w0 w (mapA q2 kf_61 (Value.int .i64) q32 :: l') := emk hS
       refine o_entryStore (k := (T_rules_Spot.mk e40.1.fa.Layer e40.1.fa.X e40.1.fa.Y)) (es := q7) (v0 := x81) (vf := (Value.int .i64)) (v := x80) q0i q1z q1y rfl q2x hS q3e (fun w' hS => ?_)
       refine x_done <| ?_
       refine x_fin ⟨⟨undef, rfl⟩, trivial, ?_⟩
       exact emk hS
     intro Ep11 w' hE11 hF_ hS
     obtain ⟨q1s, q1t, q1u, q0i, q1v, q0w, q1w, q1y, q1x, q1z, -⟩ := hF_
     replace q1s : Ep11 73 = .pointer (some ⟨q4, 0, none⟩) := emk q1s
     replace q1t : Ep11 74 = .pointer (some ⟨q4, 0, none⟩) := emk q1t
     replace q1u : Ep11 75 = .pointer (some ⟨q4, 9, none⟩) := emk q1u
     replace q0i : Ep11 76 = .map (some q2) := emk q0i
     replace q1v : Ep11 77 = .pointer (some ⟨b9, 0, none⟩) := emk q1v
     replace q0w : Ep11 78 = .agg #[.int .i64 e40.1.fa.Layer, .int .i64 e40.1.fa.X, .int .i64 e40.1.fa.Y] := emk q0w
     replace q1w : Ep11 79 = .int .i64 x79 := emk q1w
     replace q1y : Ep11 80 = .int .i64 x80 := emk q1y
     replace q1x : Ep11 81 = .tuple #[.int .i64 x81, .int .i64 ((mpos (T_rules_Spot.mk e40.1.fa.Layer e40.1.fa.X e40.1.fa.Y) q7 : Nat) : Int)] := emk q1x
     replace q1z : Ep11 82 = .int .i64 ((mpos (T_rules_Spot.mk e40.1.fa.Layer e40.1.fa.X e40.1.fa.Y) q7 : Nat) : Int) := emk q1z
     replace hS : St w0 w' (cells q4 82 [.int .i64 q0l, .int .i64 q0m, .int .i64 q0n, .int .i64 q0o, .slice q0b q0p.length c_t0_4, .slice q0c q0q.length c_t0_5, .slice q0d q0r.length c_t0_6, .slice q0e q0s.length c_t0_7, .map (some q3), .map (some q2), .map (some q5)] :: cells b9 94 [.int .i64 e40.1.fa.Layer, .int .i64 e40.1.fa.X, .int .i64 e40.1.fa.Y, .int .i64 e40.1.fb.Layer, .int .i64 e40.1.fb.X, .int .i64 e40.1.fb.Y] :: mapA q2 kf_61 (Value.int .i64) q2y :: (cells (blkOf (Ep9 62)) 94 [.int .i64 e40.1.fa.Layer, .int .i64 e40.1.fa.X, .int .i64 e40.1.fa.Y, .int .i64 e40.1.fb.Layer, .int .i64 e40.1.fb.X, .int .i64 e40.1.fb.Y] :: ro ρ :: mapS 94 R_extract_step q3 kf_61 q20 :: cells (blkOf (Ep8 50)) 94 [.int .i64 e40.1.fa.Layer, .int .i64 e40.1.fa.X, .int .i64 e40.1.fa.Y, .int .i64 e40.1.fb.Layer, .int .i64 e40.1.fb.X, .int .i64 e40.1.fb.Y] :: itA b37 q0a q0u.length (q13 ++ [i38]) :: mapA q0a kf_94 Value.bool q0u :: mapA q5 kf_61 (Value.int .i64) q0z :: mapA q0f kf_61 Value.bool q12 :: mapA q8 kf_61 Value.bool others2 :: l)) := emk hS
     exact x_inv ⟨q2y, hFc72, ((hE11 0 rfl).trans ((hE9 0 rfl).trans ((hE8 0 rfl).trans q1e))), ((hE11 37 rfl).trans ((hE9 37 rfl).trans ((hE8 37 rfl).trans q1n))), ((((((((((((hS.pull 1).drop.pull 2).drop.pull 4).drop.pull 2).pull 8).pull 8).pull 8).pull 5).pull 6).pull 7).pull 8).pull 8)⟩
    ·replace hFc72 := nit_f hc72 hFc72
     refine x_skip <| ?_
     exact x_inv ⟨q7, hFc72, ((hE9 0 rfl).trans ((hE8 0 rfl).trans q1e)), ((hE9 37 rfl).trans ((hE8 37 rfl).trans q1n)), ((((((((((((hS.pull 1).drop.pull 1).drop.pull 3).drop.pull 1).pull 8).pull 8).pull 8).pull 8).pull 6).pull 7).pull 8).pull 8)⟩
   rintro E w ⟨q15, hq_, q3w, q3f, hS⟩
   replace hFL6 := hFL6 _ hq_
   clear hq_
   refine x_blk <| ?_
   exact x_inv ⟨kL6, Nat.lt_succ_self _, (q13 ++ [i38]), q20, q15, (hLL6 _ hFL6), q3w, q3f, (((((((((hS.pull 8).pull 8).pull 8).pull 8).pull 8).pull 8).pull 8).pull 8).pull 8)⟩
 rintro E w ⟨q19, q1a, hq_, hS⟩
 replace hF := hF _ hq_
 clear hq_
 exact x_fin ⟨_, rfl, (q19, q1a), hF, rfl, ((((((((hS.pull 7).pull 7).pull 7).pull 7).pull 7).pull 7).pull 7).pull 7)⟩
attribute [irreducible] P_extract_tree_fill

def P_extract_step_resistance (s0 : T_extract_step) : Option Int :=
 if s0.fa.Layer ≠ s0.fb.Layer then
  some (5 : Int)
 else
  if s0.fa.Layer < 2 then
   some (4 : Int)
  else
   some (2 : Int)
theorem c_extract_step_resistance {w0 w : World} {l : List Assn} {ρ : Heap} {s0 : T_extract_step} {r : Int} (hF : P_extract_step_resistance s0 = some r) (hS : St w0 w (ro ρ :: l)) :
  Calls Try.prog 42 #[.agg #[.int .i64 s0.fa.Layer, .int .i64 s0.fa.X, .int .i64 s0.fa.Y, .int .i64 s0.fb.Layer, .int .i64 s0.fb.X, .int .i64 s0.fb.Y]] w fun e w' => e = .returned (.int .i64 r) ∧ St w0 w' (ro ρ :: l) := by
 refine enterC Try.func42 rfl 16 rfl (by simp) ?_
 refine x_seq <| x_region <| ?_
 refine o_box (cs := [.int .i64 s0.fa.Layer, .int .i64 s0.fa.X, .int .i64 s0.fa.Y, .int .i64 s0.fb.Layer, .int .i64 s0.fb.X, .int .i64 s0.fb.Y]) rfl rfl hS (fun b1 w' hS => ?_)
 refine p (yl_assign rfl) <| x_done <| x_seq <| x_block <|
  x_seq <| x_region <| p (yl_field0 fld_94_0 rfl) <| p (yl_field0 fld_61_0 rfl) <|
  pa (at_load one_3 rfl (hS.cell rfl)) <| p (yl_field0 fld_94_1 rfl) <| p (yl_fieldN fld_61_0 rfl) <| pa (at_load one_3 rfl (hS.cell rfl)) <|
  p (yl_neq rfl rfl) <| p (yl_assign rfl) <| x_done <|
  x_cond_p (s0.fa.Layer ≠ s0.fb.Layer) rfl (fun hc3 => ?_) (fun hc3 => ?_)
 ·replace hF := it_t hc3 hF
  refine x_seq <| x_region <| p (yl_assign rfl) <| x_done <| ?_
  have e_ := sinj hF; subst e_
  exact x_return ⟨_, ⟨_, _, rfl, rfl, rfl⟩, rfl, hS.drop⟩
 ·replace hF := it_f hc3 hF
  refine x_seq <| x_region <| p (yl_field0 fld_94_0 rfl) <| p (yl_field0 fld_61_0 rfl) <|
   pa (at_load one_3 rfl (hS.cell rfl)) <| p (yl_lss rfl rfl) <| p (yl_assign rfl) <| x_done <|
   x_cond_p (s0.fa.Layer < 2) rfl (fun hc11 => ?_) (fun hc11 => ?_)
  ·replace hF := it_t hc11 hF
   refine x_seq <| x_region <| p (yl_assign rfl) <| x_done <| ?_
   have e_ := sinj hF; subst e_
   exact x_return ⟨_, ⟨_, _, rfl, rfl, rfl⟩, rfl, hS.drop⟩
  ·replace hF := it_f hc11 hF
   refine x_skip <| x_blk <| x_seq <| x_region <|
    p (yl_assign rfl) <| x_done <| ?_
   have e_ := sinj hF; subst e_
   exact x_return ⟨_, ⟨_, _, rfl, rfl, rfl⟩, rfl, hS.drop⟩
attribute [irreducible] P_extract_step_resistance

def P_extract_tree_grow_L9 (q0a : T_extract_visit) (q0d : List T_extract_step) : (List T_extract_visit × List (T_rules_Spot × Bool) × Int × Int) → Option ((List T_extract_visit × List (T_rules_Spot × Bool) × Int × Int) ⊕ (List T_extract_visit × List (T_rules_Spot × Bool) × Int)) := fun (q4, q3, q9, q8) =>
 if q8 < (q0d.length : Int) then
  bd (
   ck (inb q8 q0d.length) <|
   lv (gt q0d q8) fun q2 =>
   ar (q9 + 1) fun x48 =>
   lv ((q2.fa.Layer == q0a.fat.Layer) && ((q2.fa.X == q0a.fat.X) && ((q2.fa.Y == q0a.fat.Y) && true))) fun x54 =>
   bd (
    if x54 = true then
     some (q2.fb.Layer, q2.fb.X, q2.fb.Y)
    else
     some (q2.fa.Layer, q2.fa.X, q2.fa.Y)) fun (q5, q6, q7) =>
   lv (mget (T_rules_Spot.mk q5 q6 q7) q3 false) fun x59 =>
   if x59 = true then
    some (q4, q3, x48)
   else
    lv (mput (T_rules_Spot.mk q5 q6 q7) true q3) fun q0g =>
    bd (P_extract_step_resistance q2) fun q0h =>
    lv (q4 ++ [(T_extract_visit.mk (T_rules_Spot.mk q5 q6 q7) (T_rules_Spot.mk q0a.fat.Layer q0a.fat.X q0a.fat.Y) q0h)]) fun q0f =>
    ck (apOk 56 q0f.length) <|
    some (q0f, q0g, x48)) fun (q0b, q0e, q0c) =>
  ar (q8 + 1) fun x71 =>
  some (Sum.inl (q0b, q0e, q0c, x71))
 else
  some (Sum.inr (q4, q3, q9))
def P_extract_tree_grow_L5 (q0a : List (T_rules_Spot × List T_extract_step)) : (List T_extract_visit × List (T_rules_Spot × Bool) × Int × Int) → Option ((List T_extract_visit × List (T_rules_Spot × Bool) × Int × Int) ⊕ (List T_extract_visit × Int)) := fun (q2, q6, q3, q4) =>
 if q4 < (q2.length : Int) then
  ck (inb q4 q2.length) <|
  lv (gt q2 q4) fun q5 =>
  lv (mget (T_rules_Spot.mk q5.fat.Layer q5.fat.X q5.fat.Y) q0a []) fun q0b =>
  bd (
   lp (P_extract_tree_grow_L9 q5 q0b) fuel (q2, q6, q3, 0)) fun (q7, q9, q8) =>
  ar (q4 + 1) fun x30 =>
  some (Sum.inl (q7, q9, q8, x30))
 else
  some (Sum.inr (q2, q3))
def P_extract_tree_grow_L23 (q0b : List (T_rules_Spot × Int)) (q6 : List T_extract_visit) : (List (T_rules_Spot × Int) × Int) → Option ((List (T_rules_Spot × Int) × Int) ⊕ List (T_rules_Spot × Int)) := fun (q3, q4) =>
 if 0 ≤ q4 then
  ck (inb q4 q6.length) <|
  lv (gt q6 q4) fun q2 =>
  lv (mget (T_rules_Spot.mk q2.fat.Layer q2.fat.X q2.fat.Y) q3 0) fun x93 =>
  lv (mget (T_rules_Spot.mk q2.fat.Layer q2.fat.X q2.fat.Y) q0b 0) fun x100 =>
  ar (x93 + x100) fun x101 =>
  lv (mget (T_rules_Spot.mk q2.fat.Layer q2.fat.X q2.fat.Y) q3 0) fun x102 =>
  lv (mput (T_rules_Spot.mk q2.fat.Layer q2.fat.X q2.fat.Y) x102 q3) fun q8 =>
  lv (mput (T_rules_Spot.mk q2.fat.Layer q2.fat.X q2.fat.Y) x101 q8) fun q5 =>
  bd (
   if 0 < q4 then
    lv (mget (T_rules_Spot.mk q2.fup.Layer q2.fup.X q2.fup.Y) q5 0) fun x109 =>
    lv (mget (T_rules_Spot.mk q2.fat.Layer q2.fat.X q2.fat.Y) q5 0) fun x113 =>
    ar (x109 + x113) fun x114 =>
    lv (mget (T_rules_Spot.mk q2.fup.Layer q2.fup.X q2.fup.Y) q5 0) fun x115 =>
    lv (mput (T_rules_Spot.mk q2.fup.Layer q2.fup.X q2.fup.Y) x115 q5) fun q0a =>
    lv (mput (T_rules_Spot.mk q2.fup.Layer q2.fup.X q2.fup.Y) x114 q0a) fun q9 =>
    some q9
   else
    some q5) fun q7 =>
  ar (q4 - 1) fun x85 =>
  some (Sum.inl (q7, x85))
 else
  some (Sum.inr q3)
def P_extract_tree_grow_L30 (q5 : List T_extract_visit) (q6 : List (T_rules_Spot × Int)) : (Int × List (T_rules_Spot × Int)) → Option ((Int × List (T_rules_Spot × Int)) ⊕ List (T_rules_Spot × Int)) := fun (q4, q3) =>
 if q4 < (q5.length : Int) then
  ck (inb q4 q5.length) <|
  lv (gt q5 q4) fun q2 =>
  bd (
   if q4 = 0 then
    lv (mput (T_rules_Spot.mk q2.fat.Layer q2.fat.X q2.fat.Y) 0 q3) fun q9 =>
    some q9
   else
    lv (mget (T_rules_Spot.mk q2.fup.Layer q2.fup.X q2.fup.Y) q3 0) fun x144 =>
    lv (mget (T_rules_Spot.mk q2.fat.Layer q2.fat.X q2.fat.Y) q6 0) fun x150 =>
    ar (q2.fres * x150) fun x151 =>
    ar (x144 + x151) fun x152 =>
    lv (mput (T_rules_Spot.mk q2.fat.Layer q2.fat.X q2.fat.Y) x152 q3) fun q8 =>
    some q8) fun q7 =>
  ar (q4 + 1) fun x153 =>
  some (Sum.inl (x153, q7))
 else
  some (Sum.inr q3)
def P_extract_tree_grow (q0a : Int) (q0b : Int) (q0c : Int) (q0d : Int) (q0e : List T_rules_Wire) (q0f : List T_rules_Via) (q0g : List T_rules_Pin) (q0h : List T_floor_Wall) (q7 : List (T_rules_Spot × List T_extract_step)) (q8 : List (T_rules_Spot × Int)) (q6 : List (T_rules_Spot × Int)) (root1 : T_rules_Spot) : Option (Bool × List (T_rules_Spot × Int)) :=
 lv (mput root1 true []) fun q9 =>
 bd (
  lp (P_extract_tree_grow_L5 q7) fuel (([(T_extract_visit.mk root1 root1 0)] : List T_extract_visit), q9, 0, 0)) fun (q2, q5) =>
 ar ((q2.length : Int) - 1) fun x75 =>
 ar ((2 : Int) * x75) fun x76 =>
 if q5 ≠ x76 then
  some (false, q6)
 else
  ar ((q2.length : Int) - 1) fun x81 =>
  bd (
   lp (P_extract_tree_grow_L23 q8 q2) fuel ([], x81)) fun q3 =>
  bd (
   lp (P_extract_tree_grow_L30 q2 q3) fuel (0, q6)) fun q4 =>
  some (true, q4)
theorem c_extract_tree_grow {w0 w : World} {l : List Assn} {ρ : Heap} {q0g : Nat} {q0k : Option Addr} {q3j : Nat} {c_t0_4 : Nat} {q0l : Option Addr} {q3k : Nat} {c_t0_5 : Nat} {q0m : Option Addr} {q3l : Nat} {c_t0_6 : Nat} {q0n : Option Addr} {q3m : Nat} {c_t0_7 : Nat} {q0b : Nat} {q0i : List Hd} {q6 : Nat} {q5 : Nat} {q0w : Int} {q0x : Int} {q0y : Int} {q0z : Int} {q12 : List T_rules_Wire} {q13 : List T_rules_Via} {q14 : List T_rules_Pin} {q15 : List T_floor_Wall} {q10 : List (T_rules_Spot × List T_extract_step)} {q0t : List (T_rules_Spot × Int)} {q16 : List (T_rules_Spot × Int)} {root1 : T_rules_Spot} {r : (Bool × List (T_rules_Spot × Int))} (hF : P_extract_tree_grow q0w q0x q0y q0z q12 q13 q14 q15 q10 q0t q16 root1 = some r) (q52 : RdS R_rules_Wire ρ q0k q3j c_t0_4 q12) (q53 : RdS R_rules_Via ρ q0l q3k c_t0_5 q13) (q54 : RdS R_rules_Pin ρ q0m q3l c_t0_6 q14) (q55 : RdS R_floor_Wall ρ q0n q3m c_t0_7 q15) (q4t : RdM R_extract_step ρ q10 q0i) (hS : St w0 w (cells q0g 82 [.int .i64 q0w, .int .i64 q0x, .int .i64 q0y, .int .i64 q0z, .slice q0k q3j c_t0_4, .slice q0l q3k c_t0_5, .slice q0m q3l c_t0_6, .slice q0n q3m c_t0_7, .map (some q0b), .map (some q6), .map (some q5)] :: mapA q0b kf_61 Hd.v (zipK q10 q0i) :: mapA q6 kf_61 (Value.int .i64) q0t :: mapA q5 kf_61 (Value.int .i64) q16 :: ro ρ :: l)) :
  Calls Try.prog 39 #[.pointer (some ⟨q0g, 0, none⟩), .agg #[.int .i64 root1.Layer, .int .i64 root1.X, .int .i64 root1.Y]] w fun e w' => e = .returned (.bool r.1) ∧ St w0 w' (cells q0g 82 [.int .i64 q0w, .int .i64 q0x, .int .i64 q0y, .int .i64 q0z, .slice q0k q3j c_t0_4, .slice q0l q3k c_t0_5, .slice q0m q3l c_t0_6, .slice q0n q3m c_t0_7, .map (some q0b), .map (some q6), .map (some q5)] :: mapA q0b kf_61 Hd.v (zipK q10 q0i) :: mapA q6 kf_61 (Value.int .i64) q0t :: mapA q5 kf_61 (Value.int .i64) r.2 :: ro ρ :: l) := by
 have e_ := q52.n; subst e_
 have e_ := q53.n; subst e_
 have e_ := q54.n; subst e_
 have e_ := q55.n; subst e_
 refine enterC Try.func39 rfl 154 rfl (by simp) ?_
 refine x_seq <| x_region <| ?_
 refine o_box (cs := [.int .i64 root1.Layer, .int .i64 root1.X, .int .i64 root1.Y]) rfl rfl hS (fun b3 w' hS => ?_)
 refine p (yl_assign rfl) <| x_done <| x_seq <| x_region <|
  pa (v := .agg #[.int .i64 root1.Layer, .int .i64 root1.X, .int .i64 root1.Y]) (ld_sub agg_61 rfl rfl rfl hS) <| pa (v := .agg #[.int .i64 root1.Layer, .int .i64 root1.X, .int .i64 root1.Y]) (ld_sub agg_61 rfl rfl rfl hS) <| p (v := .agg #[.int .i64 root1.Layer, .int .i64 root1.X, .int .i64 root1.Y, .int .i64 root1.Layer, .int .i64 root1.X, .int .i64 root1.Y, .int .i64 0]) (yl_build bld_116 bldf_116 (parts_eq (pt (va := .agg #[.int .i64 root1.Layer, .int .i64 root1.X, .int .i64 root1.Y]) rfl (pt (va := .agg #[.int .i64 root1.Layer, .int .i64 root1.X, .int .i64 root1.Y]) rfl (pt (va := .int .i64 0) rfl pt0)))) (by kernel_rfl)) <| ?_
 refine o_buildSlice (vs := [.agg #[.int .i64 root1.Layer, .int .i64 root1.X, .int .i64 root1.Y, .int .i64 root1.Layer, .int .i64 root1.X, .int .i64 root1.Y, .int .i64 0]]) (cs := [.int .i64 root1.Layer, .int .i64 root1.X, .int .i64 root1.Y, .int .i64 root1.Layer, .int .i64 root1.X, .int .i64 root1.Y, .int .i64 0]) sl_117 zero_116 (parts_eq (pt (va := .agg #[.int .i64 root1.Layer, .int .i64 root1.X, .int .i64 root1.Y, .int .i64 root1.Layer, .int .i64 root1.X, .int .i64 root1.Y, .int .i64 0]) rfl pt0)) rfl (by intro v hv; simp only [List.mem_cons, List.not_mem_nil, or_false] at hv; first | (subst hv; rfl) | (rcases hv with rfl <;> rfl)) (by decide) rfl hS (fun b21 w' hS => ?_)
 refine p (yl_assign rfl) <| x_done <| x_seq <| x_region <| ?_
 refine o_mkmap (κ := T_rules_Spot) (α := Bool) kf_61 Value.bool hS (fun b22 w' hS => ?_)
 refine pa (v := .agg #[.int .i64 root1.Layer, .int .i64 root1.X, .int .i64 root1.Y]) (ld_sub agg_61 rfl rfl rfl (hS.pull 2)) <| ?_
 replace hF := lv_s hF; obtain ⟨q67, q5o, hF⟩ := hF
 refine o_insert (k := root1) (vf := Value.bool) (v := true) um_84 kp_61 rfl rfl rfl hS q5o (fun w' hS => ?_)
 refine p (yl_move rfl) <| p (yl_assign rfl) <| x_done <| x_seq <|
  x_region <| p (yl_assign rfl) <| x_done <| x_seq <|
  x_seq <| x_region <| p (yl_assign rfl) <| x_done <| ?_
 replace hF := bd_s hF; obtain ⟨oL5, hLL5, hF⟩ := hF
 refine x_join (fun E w => ∃ (q0f : Option Addr) (q1q : Nat) (c_order5_L5 : Nat) (q0j : List Value) (q7 : List T_extract_visit) (q22 : Int), (q7, q22) = oL5 ∧ E 0 = .pointer (some ⟨q0g, 0, none⟩) ∧ E 5 = .slice q0f q1q c_order5_L5 ∧ E 7 = .int .i64 q22 ∧ RepL R_extract_visit ρ q7 q0j ∧ St w0 w (cells q0g 82 [.int .i64 q0w, .int .i64 q0x, .int .i64 q0y, .int .i64 q0z, .slice q0k q12.length c_t0_4, .slice q0l q13.length c_t0_5, .slice q0m q14.length c_t0_6, .slice q0n q15.length c_t0_7, .map (some q0b), .map (some q6), .map (some q5)] :: vec 116 R_extract_visit.sz (.slice q0f q1q c_order5_L5) q1q q0j :: mapA q0b kf_61 Hd.v (zipK q10 q0i) :: mapA q6 kf_61 (Value.int .i64) q0t :: mapA q5 kf_61 (Value.int .i64) q16 :: ro ρ :: l)) ?_ ?_
 ·refine x_block ?_
  have q47 : RepL R_extract_visit ρ ([(T_extract_visit.mk root1 root1 0)] : List T_extract_visit) [.int .i64 root1.Layer, .int .i64 root1.X, .int .i64 root1.Y, .int .i64 root1.Layer, .int .i64 root1.X, .int .i64 root1.Y, .int .i64 0] := (RepL.cons (cs := [.int .i64 root1.Layer, .int .i64 root1.X, .int .i64 root1.Y, .int .i64 root1.Layer, .int .i64 root1.X, .int .i64 root1.Y, .int .i64 0]) rfl RepL.nil)
  replace hS := St.vec_of (n := 1) (sz := R_extract_visit.sz) (hS.pull 1) rfl (by decide)
  refine x_loop (fun k_ E w => ∃ (q1a : Option Addr) (q1g : Nat) (c_order5_L5h : Nat) (q17 : List Value) (q0r : List T_extract_visit) (q23 : List (T_rules_Spot × Bool)) (q1h : Int) (q1v : Int), lp (P_extract_tree_grow_L5 q10) k_ (q0r, q23, q1h, q1v) = some oL5 ∧ E 0 = .pointer (some ⟨q0g, 0, none⟩) ∧ E 5 = .slice q1a q1g c_order5_L5h ∧ E 6 = .map (some b22) ∧ E 7 = .int .i64 q1h ∧ E 8 = .int .i64 q1v ∧ RepL R_extract_visit ρ q0r q17 ∧ St w0 w (cells q0g 82 [.int .i64 q0w, .int .i64 q0x, .int .i64 q0y, .int .i64 q0z, .slice q0k q12.length c_t0_4, .slice q0l q13.length c_t0_5, .slice q0m q14.length c_t0_6, .slice q0n q15.length c_t0_7, .map (some q0b), .map (some q6), .map (some q5)] :: vec 116 R_extract_visit.sz (.slice q1a q1g c_order5_L5h) q1g q17 :: mapA b22 kf_61 Value.bool q23 :: mapA q0b kf_61 Hd.v (zipK q10 q0i) :: mapA q6 kf_61 (Value.int .i64) q0t :: mapA q5 kf_61 (Value.int .i64) q16 :: ro ρ :: l)) fuel ⟨(some ⟨b21, 0, none⟩), 1, 1, [.int .i64 root1.Layer, .int .i64 root1.X, .int .i64 root1.Y, .int .i64 root1.Layer, .int .i64 root1.X, .int .i64 root1.Y, .int .i64 0], ([(T_extract_visit.mk root1 root1 0)] : List T_extract_visit), q67, 0, 0, hLL5, rfl, rfl, rfl, rfl, rfl, q47, ((((((((hS.pull 2).drop.pull 6).pull 6).pull 6).pull 6).pull 5).pull 5).pull 6)⟩ ?_
  rintro kL5 E w ⟨q1a, q1g, c_order5_L5h, q17, q0r, q23, q1h, q1v, hLL5, q3n, q3d, q56, q48, q3o, q1b, hS⟩
  have e_ := St.vec_n (hS.pull 1) q1b; subst e_
  replace hLL5 := lp_s hLL5; obtain ⟨kL5, obL5, rfl, hFL5, hLL5⟩ := hLL5
  refine x_seq <| x_seq <| x_region <| p (yl_move q3o) <|
   p (yl_move q3d) <| p (yl_len_slice usl_117 rfl) <| p (yl_lss rfl rfl) <| x_done <|
   x_cond_p (q1v < (q0r.length : Int)) rfl (fun hc28 => ?_) (fun hc28 => ?_)
  ·replace hFL5 := it_t hc28 hFL5
   replace hFL5 := ck_s hFL5; obtain ⟨q4q, hFL5⟩ := hFL5
   replace hFL5 := lv_s hFL5; obtain ⟨q3, q5p, hFL5⟩ := hFL5
   have q_ := q1b.get q4q; obtain ⟨q6b, q4r, q5q⟩ := q_
   rw [← q5p] at q4r
   have e_ := q4r; subst e_
   refine x_skip <| x_seq <| x_block <| x_seq <|
    x_region <| p (yl_move q3d) <| p (yl_move q3o) <| p (yix_o sl_117 rfl rfl (hS.pull 1) q1b q4q) <|
    pa (v := .agg #[.int .i64 q3.fat.Layer, .int .i64 q3.fat.X, .int .i64 q3.fat.Y, .int .i64 q3.fup.Layer, .int .i64 q3.fup.X, .int .i64 q3.fup.Y, .int .i64 q3.fres]) (at_loadAgg agg_116 rfl rfl (EltV.every q5q (hS.pull 1))) <| ?_
   refine o_alloc zero_116 hS (fun b9 w' hS => ?_)
   refine o_storeAgg (news := [.int .i64 q3.fat.Layer, .int .i64 q3.fat.X, .int .i64 q3.fat.Y, .int .i64 q3.fup.Layer, .int .i64 q3.fup.X, .int .i64 q3.fup.Y, .int .i64 q3.fres]) agg_116 rfl rfl rfl (by simp [over_length]) hS (fun w' hS => ?_)
   replace hFL5 := lv_s hFL5; obtain ⟨q2d, q5r, hFL5⟩ := hFL5
   have q_ := RdM.get q4t (T_rules_Spot.mk q3.fat.Layer q3.fat.X q3.fat.Y); obtain ⟨q41, q6c, q42, q5s, q43⟩ := q_
   rw [← q5r] at q43
   have e_ := q43.n; subst e_
   refine x_done <| x_seq <| x_still mixed (by kernel_rfl) hS <| q (yl_move q3n) <|
    q (yl_nilCheck rfl) <| q (yl_field0 fld_82_1 rfl) <| qa (fun w' hS => at_load one_79 rfl ((hS.pull 1).cell rfl)) <| q (yl_field0 fld_116_0 rfl) <|
    qa (v := .agg #[.int .i64 q3.fat.Layer, .int .i64 q3.fat.X, .int .i64 q3.fat.Y]) (fun w' hS => ld_sub agg_61 rfl rfl rfl hS) <| qa (v := .slice q41 q2d.length q42) (fun w' hS => at_look (k := (T_rules_Spot.mk q3.fat.Layer q3.fat.X q3.fat.Y)) (vf := Hd.v) (d := nilH) um_79 kp_61 (zero1 zv_114) rfl rfl (hS.pull 4) q5s.symm) <| q (yl_len_slice usl_114 rfl) <| q (yl_move rfl) <|
    q_done fun w' hS => ?_
   replace hFL5 := bd_s hFL5; obtain ⟨oL9, hLL9, hFL5⟩ := hFL5
   refine x_join (fun E w => ∃ (q1r : Option Addr) (q1s : Nat) (c_order5_L9 : Nat) (q1i : List Value) (q1w : List T_extract_visit) (q2e : List (T_rules_Spot × Bool)) (q24 : Int), (q1w, q2e, q24) = oL9 ∧ E 0 = .pointer (some ⟨q0g, 0, none⟩) ∧ E 5 = .slice q1r q1s c_order5_L9 ∧ E 6 = .map (some b22) ∧ E 7 = .int .i64 q24 ∧ E 8 = .int .i64 q1v ∧ RepL R_extract_visit ρ q1w q1i ∧ St w0 w (cells q0g 82 [.int .i64 q0w, .int .i64 q0x, .int .i64 q0y, .int .i64 q0z, .slice q0k q12.length c_t0_4, .slice q0l q13.length c_t0_5, .slice q0m q14.length c_t0_6, .slice q0n q15.length c_t0_7, .map (some q0b), .map (some q6), .map (some q5)] :: vec 116 R_extract_visit.sz (.slice q1r q1s c_order5_L9) q1s q1i :: mapA b22 kf_61 Value.bool q2e :: mapA q0b kf_61 Hd.v (zipK q10 q0i) :: mapA q6 kf_61 (Value.int .i64) q0t :: mapA q5 kf_61 (Value.int .i64) q16 :: ro ρ :: l)) ?_ ?_
   ·refine x_block ?_
    refine x_loop (fun k_ E w => ∃ (q0h : Option Addr) (q1j : Nat) (c_order5_L9h : Nat) (q0o : List Value) (q0e : List T_extract_visit) (q1e : List (T_rules_Spot × Bool)) (q1z : Int) (q20 : Int), lp (P_extract_tree_grow_L9 q3 q2d) k_ (q0e, q1e, q1z, q20) = some oL9 ∧ E 0 = .pointer (some ⟨q0g, 0, none⟩) ∧ E 5 = .slice q0h q1j c_order5_L9h ∧ E 6 = .map (some b22) ∧ E 7 = .int .i64 q1z ∧ E 8 = .int .i64 q1v ∧ E 9 = .pointer (some ⟨b9, 0, none⟩) ∧ E 41 = .slice q41 q2d.length q42 ∧ E 42 = .int .i64 (q2d.length : Int) ∧ E 43 = .int .i64 q20 ∧ RepL R_extract_visit ρ q0e q0o ∧ St w0 w (cells q0g 82 [.int .i64 q0w, .int .i64 q0x, .int .i64 q0y, .int .i64 q0z, .slice q0k q12.length c_t0_4, .slice q0l q13.length c_t0_5, .slice q0m q14.length c_t0_6, .slice q0n q15.length c_t0_7, .map (some q0b), .map (some q6), .map (some q5)] :: vec 116 R_extract_visit.sz (.slice q0h q1j c_order5_L9h) q1j q0o :: mapA b22 kf_61 Value.bool q1e :: cells b9 116 [.int .i64 q3.fat.Layer, .int .i64 q3.fat.X, .int .i64 q3.fat.Y, .int .i64 q3.fup.Layer, .int .i64 q3.fup.X, .int .i64 q3.fup.Y, .int .i64 q3.fres] :: mapA q0b kf_61 Hd.v (zipK q10 q0i) :: mapA q6 kf_61 (Value.int .i64) q0t :: mapA q5 kf_61 (Value.int .i64) q16 :: ro ρ :: l)) fuel ⟨q1a, q0r.length, c_order5_L5h, q17, q0r, q23, q1h, 0, hLL9, q3n, q3d, q56, q48, q3o, rfl, rfl, rfl, rfl, q1b, ((((((((hS.pull 7).pull 7).pull 7).pull 7).pull 4).pull 7).pull 7).pull 7)⟩ ?_
    rintro kL9 E w ⟨q0h, q1j, c_order5_L9h, q0o, q0e, q1e, q1z, q20, hLL9, q3p, q3q, q3r, q49, q3s, q3t, q3f, q3g, q2i, q1k, hS⟩
    have e_ := St.vec_n (hS.pull 1) q1k; subst e_
    replace hLL9 := lp_s hLL9; obtain ⟨kL9, obL9, rfl, hFL9, hLL9⟩ := hLL9
    refine x_seq <| x_region <| p (yl_lss q2i q3g) <| x_done <|
     x_seq <|
     x_cond_p (q20 < (q2d.length : Int)) rfl (fun hc44 => ?_) (fun hc44 => ?_)
    ·replace hFL9 := it_t hc44 hFL9
     refine x_skip <| x_seq <| ?_
     replace hFL9 := bd_s hFL9; obtain ⟨ob3, hFb3, hFL9⟩ := hFL9
     refine x_join (fun E w => ∃ (q1t : Option Addr) (q1u : Nat) (c_order5_b3 : Nat) (q1l : List Value) (q1x : List T_extract_visit) (q2f : List (T_rules_Spot × Bool)) (q25 : Int), (q1x, q2f, q25) = ob3 ∧ E 0 = .pointer (some ⟨q0g, 0, none⟩) ∧ E 5 = .slice q1t q1u c_order5_b3 ∧ E 6 = .map (some b22) ∧ E 7 = .int .i64 q25 ∧ E 8 = .int .i64 q1v ∧ E 9 = .pointer (some ⟨b9, 0, none⟩) ∧ E 41 = .slice q41 q2d.length q42 ∧ E 42 = .int .i64 (q2d.length : Int) ∧ E 43 = .int .i64 q20 ∧ RepL R_extract_visit ρ q1x q1l ∧ St w0 w (cells q0g 82 [.int .i64 q0w, .int .i64 q0x, .int .i64 q0y, .int .i64 q0z, .slice q0k q12.length c_t0_4, .slice q0l q13.length c_t0_5, .slice q0m q14.length c_t0_6, .slice q0n q15.length c_t0_7, .map (some q0b), .map (some q6), .map (some q5)] :: vec 116 R_extract_visit.sz (.slice q1t q1u c_order5_b3) q1u q1l :: mapA b22 kf_61 Value.bool q2f :: cells b9 116 [.int .i64 q3.fat.Layer, .int .i64 q3.fat.X, .int .i64 q3.fat.Y, .int .i64 q3.fup.Layer, .int .i64 q3.fup.X, .int .i64 q3.fup.Y, .int .i64 q3.fres] :: mapA q0b kf_61 Hd.v (zipK q10 q0i) :: mapA q6 kf_61 (Value.int .i64) q0t :: mapA q5 kf_61 (Value.int .i64) q16 :: ro ρ :: l)) ?_ ?_
     ·replace hFb3 := ck_s hFb3; obtain ⟨q4a, hFb3⟩ := hFb3
      replace hFb3 := lv_s hFb3; obtain ⟨q4, q57, hFb3⟩ := hFb3
      have q_ := q43.get q4a; obtain ⟨q68, q4b, q58⟩ := q_
      rw [← q57] at q4b
      have e_ := q4b; subst e_
      refine x_block <| x_seq <| x_region <| p (yix_f sl_114 q3f q2i q43 q4a) <|
       pa (v := .agg #[.int .i64 q4.fa.Layer, .int .i64 q4.fa.X, .int .i64 q4.fa.Y, .int .i64 q4.fb.Layer, .int .i64 q4.fb.X, .int .i64 q4.fb.Y]) (at_loadAgg agg_94 rfl rfl (Elt.every q58 (hS.pull 7))) <| ?_
      refine o_alloc zero_94 hS (fun b11 w' hS => ?_)
      refine o_storeAgg (news := [.int .i64 q4.fa.Layer, .int .i64 q4.fa.X, .int .i64 q4.fa.Y, .int .i64 q4.fb.Layer, .int .i64 q4.fb.X, .int .i64 q4.fb.Y]) agg_94 rfl rfl rfl (by simp [over_length]) hS (fun w' hS => ?_)
      replace hFb3 := ar_s hFb3; obtain ⟨x48, hx48, hFb3⟩ := hFb3
      refine x_done <| x_seq <| x_region <| p (yl_move q49) <|
       p (yadd rfl rfl hx48) <| p (yl_assign rfl) <| x_done <| x_seq <|
       x_region <| p (yl_field0 fld_94_0 rfl) <| pa (v := .agg #[.int .i64 q4.fa.Layer, .int .i64 q4.fa.X, .int .i64 q4.fa.Y]) (ld_sub agg_61 rfl rfl rfl hS) <| ?_
      refine o_alloc zero_61 hS (fun b12 w' hS => ?_)
      refine o_storeAgg (news := [.int .i64 q4.fa.Layer, .int .i64 q4.fa.X, .int .i64 q4.fa.Y]) agg_61 rfl rfl rfl (by simp [over_length]) hS (fun w' hS => ?_)
      replace hFb3 := lv_s hFb3; obtain ⟨x54, hx54, hFb3⟩ := hFb3
      refine x_done <| x_seq <| x_seq <| x_region <|
       pa (v := .agg #[.int .i64 q4.fa.Layer, .int .i64 q4.fa.X, .int .i64 q4.fa.Y]) (ld_sub agg_61 rfl rfl rfl hS) <| p (yl_field0 fld_116_0 q3t) <| pa (v := .agg #[.int .i64 q3.fat.Layer, .int .i64 q3.fat.X, .int .i64 q3.fat.Y]) (ld_sub agg_61 rfl rfl rfl (hS.pull 5)) <| p (yeqs eqs_61 rfl rfl rfl hx54) <|
       x_done <| ?_
      replace hFb3 := bd_s hFb3; obtain ⟨oc54, hFc54, hFb3⟩ := hFb3
      refine x_join (fun E w => ∃ (q8 : Int) (q9 : Int) (q0a : Int), (q8, q9, q0a) = oc54 ∧ E 0 = .pointer (some ⟨q0g, 0, none⟩) ∧ E 5 = .slice q0h q0e.length c_order5_L9h ∧ E 6 = .map (some b22) ∧ E 7 = .int .i64 x48 ∧ E 8 = .int .i64 q1v ∧ E 9 = .pointer (some ⟨b9, 0, none⟩) ∧ E 11 = .pointer (some ⟨b11, 0, none⟩) ∧ E 12 = .pointer (some ⟨b12, 0, none⟩) ∧ E 41 = .slice q41 q2d.length q42 ∧ E 42 = .int .i64 (q2d.length : Int) ∧ E 43 = .int .i64 q20 ∧ St w0 w (cells q0g 82 [.int .i64 q0w, .int .i64 q0x, .int .i64 q0y, .int .i64 q0z, .slice q0k q12.length c_t0_4, .slice q0l q13.length c_t0_5, .slice q0m q14.length c_t0_6, .slice q0n q15.length c_t0_7, .map (some q0b), .map (some q6), .map (some q5)] :: vec 116 R_extract_visit.sz (.slice q0h q0e.length c_order5_L9h) q0e.length q0o :: mapA b22 kf_61 Value.bool q1e :: cells b9 116 [.int .i64 q3.fat.Layer, .int .i64 q3.fat.X, .int .i64 q3.fat.Y, .int .i64 q3.fup.Layer, .int .i64 q3.fup.X, .int .i64 q3.fup.Y, .int .i64 q3.fres] :: cells b11 94 [.int .i64 q4.fa.Layer, .int .i64 q4.fa.X, .int .i64 q4.fa.Y, .int .i64 q4.fb.Layer, .int .i64 q4.fb.X, .int .i64 q4.fb.Y] :: cells b12 61 [.int .i64 q8, .int .i64 q9, .int .i64 q0a] :: mapA q0b kf_61 Hd.v (zipK q10 q0i) :: mapA q6 kf_61 (Value.int .i64) q0t :: mapA q5 kf_61 (Value.int .i64) q16 :: ro ρ :: l)) ?_ ?_
      ·refine x_cond (t := x54) rfl (fun hc54 => ?_) (fun hc54 => ?_)
       ·replace hFc54 := it_t hc54 hFc54
        refine x_region <| p (yl_field0 fld_94_1 rfl) <| pa (v := .agg #[.int .i64 q4.fb.Layer, .int .i64 q4.fb.X, .int .i64 q4.fb.Y]) (ld_sub agg_61 rfl rfl rfl (hS.pull 1)) <| ?_
        refine o_storeAgg (news := [.int .i64 q4.fb.Layer, .int .i64 q4.fb.X, .int .i64 q4.fb.Y]) agg_61 rfl rfl rfl (by simp [over_length]) hS (fun w' hS => ?_)
        refine x_done <| ?_
        exact x_inv ⟨q4.fb.Layer, q4.fb.X, q4.fb.Y, (sinj hFc54), q3p, q3q, q3r, rfl, q3s, q3t, rfl, rfl, q3f, q3g, q2i, ((((((((((hS.pull 9).pull 9).pull 9).pull 9).pull 4).pull 5).pull 9).pull 9).pull 9).pull 9)⟩
       ·replace hFc54 := it_bf hc54 hFc54
        refine x_skip <| ?_
        exact x_inv ⟨q4.fa.Layer, q4.fa.X, q4.fa.Y, (sinj hFc54), q3p, q3q, q3r, rfl, q3s, q3t, rfl, rfl, q3f, q3g, q2i, ((((((((((hS.pull 9).pull 9).pull 9).pull 9).pull 4).pull 5).pull 9).pull 9).pull 9).pull 9)⟩
      rintro E w ⟨q8, q9, q0a, rfl, q4c, q4d, q3e, q4e, q4f, q3u, q4u, q3h, q3y, q3z, q40, hS⟩
      replace hFb3 := lv_s hFb3; obtain ⟨x59, hx59, hFb3⟩ := hFb3
      refine x_seq <| x_seq <| x_region <| p (yl_move q3e) <|
       pa (v := .agg #[.int .i64 q8, .int .i64 q9, .int .i64 q0a]) (ld_sub agg_61 q3h rfl rfl (hS.pull 5)) <| pa (at_look (k := (T_rules_Spot.mk q8 q9 q0a)) um_84 kp_61 (zero1 zv_4) rfl rfl (hS.pull 2) hx59) <| x_done <|
       x_cond (t := x59) rfl (fun hc59 => ?_) (fun hc59 => ?_)
      ·replace hFb3 := it_t hc59 hFb3
       refine x_exitTo _ rfl <| ?_
       exact x_inv ⟨q0h, q0e.length, c_order5_L9h, q0o, q0e, q1e, x48, (sinj hFb3), q4c, q4d, q3e, q4e, q4f, q3u, q3y, q3z, q40, q1k, ((((((((((hS.pull 4).drop.pull 4).drop.pull 7).pull 7).pull 7).pull 7).pull 7).pull 7).pull 7).pull 7)⟩
      ·replace hFb3 := it_bf hc59 hFb3
       refine x_skip <| x_seq <| x_region <| p (yl_move q3e) <|
        pa (v := .agg #[.int .i64 q8, .int .i64 q9, .int .i64 q0a]) (ld_sub agg_61 q3h rfl rfl (hS.pull 5)) <| ?_
       replace hFb3 := lv_s hFb3; obtain ⟨q4s, q59, hFb3⟩ := hFb3
       refine o_mapset (k := (T_rules_Spot.mk q8 q9 q0a)) (vf := Value.bool) (v := true) um_84 kp_61 rfl rfl rfl (hS.pull 2) q59 (fun w' hS => ?_)
       refine x_done <| ?_
       replace hFb3 := bd_s hFb3; obtain ⟨q0u, q5a, hFb3⟩ := hFb3
       replace hFb3 := lv_s hFb3; obtain ⟨q0v, q5b, hFb3⟩ := hFb3
       replace hFb3 := ck_s hFb3; obtain ⟨q5c, hFb3⟩ := hFb3
       refine x_par (w0 := w0) [⟨[], [], [62], [], [], [], none⟩, ⟨[], [], [63], [0], [], [], none⟩, ⟨[], [], [64], [], [], [], none⟩, ⟨[2], [2], [65], [1], [], [], none⟩, ⟨[], [], [66], [2], [], [], none⟩, ⟨[4], [4], [67], [3], [], [], none⟩, ⟨[1, 2, 3, 4, 5], [1, 3, 5], [68], [], [], [], none⟩, ⟨[1, 2, 3, 4, 5, 6], [6], [69], [], [], [4], none⟩, ⟨[0, 1, 2, 3, 4, 5, 6, 7], [0, 7], [70], [4, 3], [5], [6], none⟩, ⟨[0, 1, 2, 3, 4, 5, 6, 7, 8], [8], [5, 70], [], [], [], none⟩] [⟨none, none, []⟩, ⟨none, none, []⟩, ⟨none, none, []⟩, ⟨none, none, []⟩, ⟨(some 7), none, [69]⟩, ⟨none, (some 8), []⟩, ⟨(some 8), none, [70]⟩] [5, 62, 63, 64, 65, 66, 67, 68, 69, 70] [0, 1, 2, 3, 5] [0, 1, 2, 3, 4, 6] [0, 1, 2, 3, 4, 5, 6, 7, 8, 9] [fun Ep17 => Ep17 62 = .slice q0h q0e.length c_order5_L9h, fun Ep17 => Ep17 63 = .agg #[.int .i64 q8, .int .i64 q9, .int .i64 q0a], fun Ep17 => Ep17 64 = .pointer (some ⟨b9, 0, none⟩), fun Ep17 => Ep17 65 = .agg #[.int .i64 q3.fat.Layer, .int .i64 q3.fat.X, .int .i64 q3.fat.Y], fun Ep17 => Ep17 66 = .agg #[.int .i64 q4.fa.Layer, .int .i64 q4.fa.X, .int .i64 q4.fa.Y, .int .i64 q4.fb.Layer, .int .i64 q4.fb.X, .int .i64 q4.fb.Y], fun Ep17 => Ep17 67 = .int .i64 q0u, fun Ep17 => Ep17 68 = .agg #[.int .i64 q8, .int .i64 q9, .int .i64 q0a, .int .i64 q3.fat.Layer, .int .i64 q3.fat.X, .int .i64 q3.fat.Y, .int .i64 q0u], fun Ep17 => Ep17 69 = .slice (some ⟨(blkOf (Ep17 69)), 0, none⟩) 1 1, fun Ep17 => Ep17 70 = .slice (adOf (Ep17 70)) q0v.length (capOf (Ep17 70)), fun Ep17 => Ep17 5 = .slice (adOf (Ep17 70)) q0v.length (capOf (Ep17 70))] [fun Ep17 => cells b12 61 [.int .i64 q8, .int .i64 q9, .int .i64 q0a], fun Ep17 => cells b9 116 [.int .i64 q3.fat.Layer, .int .i64 q3.fat.X, .int .i64 q3.fat.Y, .int .i64 q3.fup.Layer, .int .i64 q3.fup.X, .int .i64 q3.fup.Y, .int .i64 q3.fres], fun Ep17 => cells b11 94 [.int .i64 q4.fa.Layer, .int .i64 q4.fa.X, .int .i64 q4.fa.Y, .int .i64 q4.fb.Layer, .int .i64 q4.fb.X, .int .i64 q4.fb.Y], fun Ep17 => ro ρ, fun Ep17 => cells (blkOf (Ep17 69)) 116 [.int .i64 q8, .int .i64 q9, .int .i64 q0a, .int .i64 q3.fat.Layer, .int .i64 q3.fat.X, .int .i64 q3.fat.Y, .int .i64 q0u], fun Ep17 => vec 116 R_extract_visit.sz (.slice q0h q0e.length c_order5_L9h) q0e.length q0o, fun Ep17 => bunA (fun (cs70 : List Value) => RepL R_extract_visit ρ q0v cs70) (fun (cs70 : List Value) => [vec 116 R_extract_visit.sz (.slice (adOf (Ep17 70)) q0v.length (capOf (Ep17 70))) q0v.length cs70])] mixed (by kernel_rfl) (((((hS.pull 2).pull 9).pull 5).pull 5).pull 6) ?_ ?_
       ·refine ⟨?_, ?_, ?_, ?_, ?_, ?_, ?_, ?_, ?_, ?_, trivial⟩
        ·intro Ep17 w l' hE17 hO17 hF_ hS
         refine p (yl_move ((hO17 5 rfl).trans q4d)) <| x_done <| ?_
         refine x_fin ⟨⟨_, rfl⟩, rfl, ?_⟩
         exact emk hS
        ·intro Ep17 w l' hE17 hO17 hF_ hS
         replace hS : St w0 w (cells b12 61 [.int .i64 q8, .int .i64 q9, .int .i64 q0a] :: l') := emk hS
         refine pa (v := .agg #[.int .i64 q8, .int .i64 q9, .int .i64 q0a]) (ld_sub agg_61 ((hE17 12 rfl).trans q3h) rfl rfl hS) <| x_done <| ?_
         refine x_fin ⟨⟨_, rfl⟩, rfl, ?_⟩
         exact emk hS
        ·intro Ep17 w l' hE17 hO17 hF_ hS
         refine p (yl_field0 fld_116_0 ((hE17 9 rfl).trans q3u)) <| x_done <| ?_
         refine x_fin ⟨⟨_, rfl⟩, rfl, ?_⟩
         exact emk hS
        ·intro Ep17 w l' hE17 hO17 hF_ hS
         obtain ⟨q2j, -⟩ := hF_
         replace q2j : Ep17 64 = .pointer (some ⟨b9, 0, none⟩) := emk q2j
         replace hS : St w0 w (cells b9 116 [.int .i64 q3.fat.Layer, .int .i64 q3.fat.X, .int .i64 q3.fat.Y, .int .i64 q3.fup.Layer, .int .i64 q3.fup.X, .int .i64 q3.fup.Y, .int .i64 q3.fres] :: l') := emk hS
         refine pa (v := .agg #[.int .i64 q3.fat.Layer, .int .i64 q3.fat.X, .int .i64 q3.fat.Y]) (ld_sub agg_61 q2j rfl rfl hS) <| x_done <| ?_
         refine x_fin ⟨⟨_, rfl⟩, rfl, ?_⟩
         exact emk hS
        ·intro Ep17 w l' hE17 hO17 hF_ hS
         replace hS : St w0 w (cells b11 94 [.int .i64 q4.fa.Layer, .int .i64 q4.fa.X, .int .i64 q4.fa.Y, .int .i64 q4.fb.Layer, .int .i64 q4.fb.X, .int .i64 q4.fb.Y] :: l') := emk hS
         refine pa (v := .agg #[.int .i64 q4.fa.Layer, .int .i64 q4.fa.X, .int .i64 q4.fa.Y, .int .i64 q4.fb.Layer, .int .i64 q4.fb.X, .int .i64 q4.fb.Y]) (ld_sub agg_94 ((hE17 11 rfl).trans q4u) rfl rfl hS) <| x_done <| ?_
         refine x_fin ⟨⟨_, rfl⟩, rfl, ?_⟩
         exact emk hS
        ·intro Ep17 w l' hE17 hO17 hF_ hS
         obtain ⟨q2k, -⟩ := hF_
         replace q2k : Ep17 66 = .agg #[.int .i64 q4.fa.Layer, .int .i64 q4.fa.X, .int .i64 q4.fa.Y, .int .i64 q4.fb.Layer, .int .i64 q4.fb.X, .int .i64 q4.fb.Y] := emk q2k
         replace hS : St w0 w (ro ρ :: l') := emk hS
         have hcall := c_extract_step_resistance q5a  hS
         refine o_cc call_42 (args1 q2k) (hcall) ?_
         rintro e w' ⟨rfl, hS⟩
         refine ⟨_, rfl, ?_⟩
         refine x_done <| ?_
         refine x_fin ⟨⟨_, rfl⟩, rfl, ?_⟩
         exact emk hS
        ·intro Ep17 w l' hE17 hO17 hF_ hS
         obtain ⟨q2l, q2m, q2n, -⟩ := hF_
         replace q2l : Ep17 63 = .agg #[.int .i64 q8, .int .i64 q9, .int .i64 q0a] := emk q2l
         replace q2m : Ep17 65 = .agg #[.int .i64 q3.fat.Layer, .int .i64 q3.fat.X, .int .i64 q3.fat.Y] := emk q2m
         replace q2n : Ep17 67 = .int .i64 q0u := emk q2n
         refine p (v := .agg #[.int .i64 q8, .int .i64 q9, .int .i64 q0a, .int .i64 q3.fat.Layer, .int .i64 q3.fat.X, .int .i64 q3.fat.Y, .int .i64 q0u]) (yl_build bld_116 bldf_116 (parts_eq (pt (va := .agg #[.int .i64 q8, .int .i64 q9, .int .i64 q0a]) q2l (pt (va := .agg #[.int .i64 q3.fat.Layer, .int .i64 q3.fat.X, .int .i64 q3.fat.Y]) q2m (pt (va := .int .i64 q0u) q2n pt0)))) (by kernel_rfl)) <| x_done <| ?_
         refine x_fin ⟨⟨_, rfl⟩, rfl, ?_⟩
         exact emk hS
        ·intro Ep17 w l' hE17 hO17 hF_ hS
         obtain ⟨q2o, -⟩ := hF_
         replace q2o : Ep17 68 = .agg #[.int .i64 q8, .int .i64 q9, .int .i64 q0a, .int .i64 q3.fat.Layer, .int .i64 q3.fat.X, .int .i64 q3.fat.Y, .int .i64 q0u] := emk q2o
         refine o_buildSlice (vs := [.agg #[.int .i64 q8, .int .i64 q9, .int .i64 q0a, .int .i64 q3.fat.Layer, .int .i64 q3.fat.X, .int .i64 q3.fat.Y, .int .i64 q0u]]) (cs := [.int .i64 q8, .int .i64 q9, .int .i64 q0a, .int .i64 q3.fat.Layer, .int .i64 q3.fat.X, .int .i64 q3.fat.Y, .int .i64 q0u]) sl_117 zero_116 (parts_eq (pt (va := .agg #[.int .i64 q8, .int .i64 q9, .int .i64 q0a, .int .i64 q3.fat.Layer, .int .i64 q3.fat.X, .int .i64 q3.fat.Y, .int .i64 q0u]) q2o pt0)) rfl (by intro v hv; simp only [List.mem_cons, List.not_mem_nil, or_false] at hv; first | (subst hv; rfl) | (rcases hv with rfl <;> rfl)) (by decide) rfl hS (fun b69 w' hS => ?_)
         refine x_done <| ?_
         refine x_fin ⟨⟨_, rfl⟩, rfl, ?_⟩
         exact emk hS
        ·intro Ep17 w l' hE17 hO17 hF_ hS
         obtain ⟨q2p, q2q, -⟩ := hF_
         replace q2p : Ep17 62 = .slice q0h q0e.length c_order5_L9h := emk q2p
         replace q2q : Ep17 69 = .slice (some ⟨(blkOf (Ep17 69)), 0, none⟩) 1 1 := emk q2q
         replace hS : St w0 w (cells (blkOf (Ep17 69)) 116 [.int .i64 q8, .int .i64 q9, .int .i64 q0a, .int .i64 q3.fat.Layer, .int .i64 q3.fat.X, .int .i64 q3.fat.Y, .int .i64 q0u] :: ro ρ :: vec 116 R_extract_visit.sz (.slice q0h q0e.length c_order5_L9h) q0e.length q0o :: l') := emk hS
         refine o_ap sl_117 zero_116 rfl (by decide) q2p q2q (hS.pull 2) q1k (src_blk usl_117 hS rfl rfl) (RepL.cons (R := R_extract_visit) (ρ := ρ) (x := (T_extract_visit.mk (T_rules_Spot.mk q8 q9 q0a) (T_rules_Spot.mk q3.fat.Layer q3.fat.X q3.fat.Y) q0u)) (cs := [.int .i64 q8, .int .i64 q9, .int .i64 q0a, .int .i64 q3.fat.Layer, .int .i64 q3.fat.X, .int .i64 q3.fat.Y, .int .i64 q0u]) rfl RepL.nil) q5b q5c (fun A70 c70 cs70 w' hr70 hS => ?_)
         refine x_done <| ?_
         refine x_fin ⟨⟨_, rfl⟩, rfl, ?_⟩
         replace hS := St.bun (Φ := (fun (cs70 : List Value) => RepL R_extract_visit ρ q0v cs70)) (L := (fun (cs70 : List Value) => [vec 116 R_extract_visit.sz (.slice A70 q0v.length c70) q0v.length cs70])) cs70 hr70 hS
         exact emk ((hS.pull 2).pull 2)
        ·intro Ep17 w l' hE17 hO17 hF_ hS
         obtain ⟨q2r, -⟩ := hF_
         replace q2r : Ep17 70 = .slice (adOf (Ep17 70)) q0v.length (capOf (Ep17 70)) := emk q2r
         refine p (yl_assign q2r) <| x_done <| ?_
         refine x_fin ⟨⟨_, rfl⟩, rfl, ?_⟩
         exact emk hS
       intro Ep17 w' hE17 hF_ hS
       obtain ⟨q2p, q2l, q2j, q2m, q2k, q2n, q2o, q2q, q2r, q44, -⟩ := hF_
       replace q2p : Ep17 62 = .slice q0h q0e.length c_order5_L9h := emk q2p
       replace q2l : Ep17 63 = .agg #[.int .i64 q8, .int .i64 q9, .int .i64 q0a] := emk q2l
       replace q2j : Ep17 64 = .pointer (some ⟨b9, 0, none⟩) := emk q2j
       replace q2m : Ep17 65 = .agg #[.int .i64 q3.fat.Layer, .int .i64 q3.fat.X, .int .i64 q3.fat.Y] := emk q2m
       replace q2k : Ep17 66 = .agg #[.int .i64 q4.fa.Layer, .int .i64 q4.fa.X, .int .i64 q4.fa.Y, .int .i64 q4.fb.Layer, .int .i64 q4.fb.X, .int .i64 q4.fb.Y] := emk q2k
       replace q2n : Ep17 67 = .int .i64 q0u := emk q2n
       replace q2o : Ep17 68 = .agg #[.int .i64 q8, .int .i64 q9, .int .i64 q0a, .int .i64 q3.fat.Layer, .int .i64 q3.fat.X, .int .i64 q3.fat.Y, .int .i64 q0u] := emk q2o
       replace q2q : Ep17 69 = .slice (some ⟨(blkOf (Ep17 69)), 0, none⟩) 1 1 := emk q2q
       replace q2r : Ep17 70 = .slice (adOf (Ep17 70)) q0v.length (capOf (Ep17 70)) := emk q2r
       replace q44 : Ep17 5 = .slice (adOf (Ep17 70)) q0v.length (capOf (Ep17 70)) := emk q44
       replace hS : St w0 w' (cells b12 61 [.int .i64 q8, .int .i64 q9, .int .i64 q0a] :: cells b9 116 [.int .i64 q3.fat.Layer, .int .i64 q3.fat.X, .int .i64 q3.fat.Y, .int .i64 q3.fup.Layer, .int .i64 q3.fup.X, .int .i64 q3.fup.Y, .int .i64 q3.fres] :: cells b11 94 [.int .i64 q4.fa.Layer, .int .i64 q4.fa.X, .int .i64 q4.fa.Y, .int .i64 q4.fb.Layer, .int .i64 q4.fb.X, .int .i64 q4.fb.Y] :: ro ρ :: cells (blkOf (Ep17 69)) 116 [.int .i64 q8, .int .i64 q9, .int .i64 q0a, .int .i64 q3.fat.Layer, .int .i64 q3.fat.X, .int .i64 q3.fat.Y, .int .i64 q0u] :: bunA (fun (cs70 : List Value) => RepL R_extract_visit ρ q0v cs70) (fun (cs70 : List Value) => [vec 116 R_extract_visit.sz (.slice (adOf (Ep17 70)) q0v.length (capOf (Ep17 70))) q0v.length cs70]) :: (mapA b22 kf_61 Value.bool q4s :: cells q0g 82 [.int .i64 q0w, .int .i64 q0x, .int .i64 q0y, .int .i64 q0z, .slice q0k q12.length c_t0_4, .slice q0l q13.length c_t0_5, .slice q0m q14.length c_t0_6, .slice q0n q15.length c_t0_7, .map (some q0b), .map (some q6), .map (some q5)] :: mapA q0b kf_61 Hd.v (zipK q10 q0i) :: mapA q6 kf_61 (Value.int .i64) q0t :: mapA q5 kf_61 (Value.int .i64) q16 :: l)) := emk hS
       have q_ := St.unbun (hS.pull 5); obtain ⟨cs70, hr70, hS⟩ := q_
       refine x_blk <| ?_
       exact x_inv ⟨(adOf (Ep17 70)), q0v.length, (capOf (Ep17 70)), cs70, q0v, q4s, x48, (sinj hFb3), ((hE17 0 rfl).trans q4c), q44, ((hE17 6 rfl).trans q3e), ((hE17 7 rfl).trans q4e), ((hE17 8 rfl).trans q4f), ((hE17 9 rfl).trans q3u), ((hE17 41 rfl).trans q3y), ((hE17 42 rfl).trans q3z), ((hE17 43 rfl).trans q40), hr70, (((((((((((hS.pull 1).drop.pull 2).drop.pull 3).drop.pull 2).pull 7).pull 7).pull 7).pull 5).pull 6).pull 6).pull 7)⟩
     rintro E w ⟨q1t, q1u, c_order5_b3, q1l, q1x, q2f, q25, rfl, q5t, q5u, q5v, q5w, q5x, q5y, q5d, q5e, q5f, q3a, hS⟩
     have e_ := St.vec_n (hS.pull 1) q3a; subst e_
     replace hFL9 := ar_s hFL9; obtain ⟨x71, hx71, hFL9⟩ := hFL9
     refine x_region <| p (yadd q5f rfl hx71) <| p (yl_move rfl) <| x_done <| ?_
     have e_ := sinj hFL9; subst e_
     exact x_inv ⟨kL9, Nat.lt_succ_self _, q1t, q1x.length, c_order5_b3, q1l, q1x, q2f, q25, x71, hLL9, q5t, q5u, q5v, q5w, q5x, q5y, q5d, q5e, rfl, q3a, ((((((((hS.pull 7).pull 7).pull 7).pull 7).pull 7).pull 7).pull 7).pull 7)⟩
    ·replace hFL9 := it_f hc44 hFL9
     refine x_exitTo _ rfl <| ?_
     have e_ := sinj hFL9; subst e_
     exact x_inv ⟨q0h, q0e.length, c_order5_L9h, q0o, q0e, q1e, q1z, hLL9, q3p, q3q, q3r, q49, q3s, q1k, ((((((((hS.pull 3).drop.pull 6).pull 6).pull 6).pull 6).pull 6).pull 6).pull 6)⟩
   rintro E w ⟨q1r, q1s, c_order5_L9, q1i, q1w, q2e, q24, rfl, q5z, q60, q61, q62, q63, q3b, hS⟩
   have e_ := St.vec_n (hS.pull 1) q3b; subst e_
   replace hFL5 := ar_s hFL5; obtain ⟨x30, hx30, hFL5⟩ := hFL5
   refine x_blk <| x_region <| p (yl_move q63) <| p (yadd rfl rfl hx30) <|
    p (yl_assign rfl) <| x_done <| ?_
   have e_ := sinj hFL5; subst e_
   exact x_inv ⟨kL5, Nat.lt_succ_self _, q1r, q1w.length, c_order5_L9, q1i, q1w, q2e, q24, x30, hLL5, q5z, q60, q61, q62, rfl, q3b, (((((((hS.pull 6).pull 6).pull 6).pull 6).pull 6).pull 6).pull 6)⟩
  ·replace hFL5 := it_f hc28 hFL5
   refine x_exitTo _ rfl <| ?_
   have e_ := sinj hFL5; subst e_
   exact x_inv ⟨q1a, q0r.length, c_order5_L5h, q17, q0r, q1h, hLL5, q3n, q3d, q48, q1b, (((((((hS.pull 2).drop.pull 5).pull 5).pull 5).pull 5).pull 5).pull 5)⟩
 rintro E w ⟨q0f, q1q, c_order5_L5, q0j, q7, q22, rfl, q64, q45, q65, q1c, hS⟩
 have e_ := St.vec_n (hS.pull 1) q1c; subst e_
 replace hF := ar_s hF; obtain ⟨x75, hx75, hF⟩ := hF
 replace hF := ar_s hF; obtain ⟨x76, hx76, hF⟩ := hF
 refine x_seq <| x_seq <| x_region <| p (yl_move q65) <|
  p (yl_move q45) <| p (yl_len_slice usl_117 rfl) <| p (ysub rfl rfl hx75) <| p (ymul rfl rfl hx76) <|
  p (yl_neq rfl rfl) <| x_done <|
  x_cond_p (q22 ≠ x76) rfl (fun hc77 => ?_) (fun hc77 => ?_)
 ·replace hF := it_t hc77 hF
  refine x_seq <| x_region <| p (yl_assign rfl) <| x_done <| ?_
  have e_ := sinj hF; subst e_
  exact x_return ⟨_, ⟨_, _, rfl, rfl, rfl⟩, rfl, ((((((hS.pull 1).drop.pull 4).pull 4).pull 4).pull 4).pull 4)⟩
 ·replace hF := it_f hc77 hF
  refine x_skip <| x_seq <| x_region <| ?_
  refine o_mkmap (κ := T_rules_Spot) (α := Int) kf_61 (Value.int .i64) hS (fun b78 w' hS => ?_)
  replace hF := ar_s hF; obtain ⟨x81, hx81, hF⟩ := hF
  refine p (yl_assign rfl) <| x_done <| x_seq <| x_seq <|
   x_region <| p (yl_move q45) <| p (yl_len_slice usl_117 rfl) <| p (ysub rfl rfl hx81) <|
   p (yl_assign rfl) <| x_done <| ?_
  replace hF := bd_s hF; obtain ⟨oL23, hLL23, hF⟩ := hF
  refine x_join (fun E w => ∃ (q11 : List (T_rules_Spot × Int)), q11 = oL23 ∧ E 0 = .pointer (some ⟨q0g, 0, none⟩) ∧ E 5 = .slice q0f q7.length c_order5_L5 ∧ E 13 = .map (some b78) ∧ St w0 w (cells q0g 82 [.int .i64 q0w, .int .i64 q0x, .int .i64 q0y, .int .i64 q0z, .slice q0k q12.length c_t0_4, .slice q0l q13.length c_t0_5, .slice q0m q14.length c_t0_6, .slice q0n q15.length c_t0_7, .map (some q0b), .map (some q6), .map (some q5)] :: vec 116 R_extract_visit.sz (.slice q0f q7.length c_order5_L5) q7.length q0j :: mapA b78 kf_61 (Value.int .i64) q11 :: mapA q0b kf_61 Hd.v (zipK q10 q0i) :: mapA q6 kf_61 (Value.int .i64) q0t :: mapA q5 kf_61 (Value.int .i64) q16 :: ro ρ :: l)) ?_ ?_
  ·refine x_block ?_
   refine x_loop (fun k_ E w => ∃ (q0c : List (T_rules_Spot × Int)) (q1o : Int), lp (P_extract_tree_grow_L23 q0t q7) k_ (q0c, q1o) = some oL23 ∧ E 0 = .pointer (some ⟨q0g, 0, none⟩) ∧ E 5 = .slice q0f q7.length c_order5_L5 ∧ E 13 = .map (some b78) ∧ E 14 = .int .i64 q1o ∧ St w0 w (cells q0g 82 [.int .i64 q0w, .int .i64 q0x, .int .i64 q0y, .int .i64 q0z, .slice q0k q12.length c_t0_4, .slice q0l q13.length c_t0_5, .slice q0m q14.length c_t0_6, .slice q0n q15.length c_t0_7, .map (some q0b), .map (some q6), .map (some q5)] :: vec 116 R_extract_visit.sz (.slice q0f q7.length c_order5_L5) q7.length q0j :: mapA b78 kf_61 (Value.int .i64) q0c :: mapA q0b kf_61 Hd.v (zipK q10 q0i) :: mapA q6 kf_61 (Value.int .i64) q0t :: mapA q5 kf_61 (Value.int .i64) q16 :: ro ρ :: l)) fuel ⟨[], x81, hLL23, q64, q45, rfl, rfl, (((((((hS.pull 6).pull 6).pull 6).pull 6).pull 4).pull 6).pull 6)⟩ ?_
   rintro kL23 E w ⟨q0c, q1o, hLL23, q2s, q2t, q1p, q21, hS⟩
   replace hLL23 := lp_s hLL23; obtain ⟨kL23, obL23, rfl, hFL23, hLL23⟩ := hLL23
   refine x_seq <| x_seq <| x_region <| p (yl_move q21) <|
    p (yl_geq rfl rfl) <| x_done <|
    x_cond_p (0 ≤ q1o) rfl (fun hc83 => ?_) (fun hc83 => ?_)
   ·replace hFL23 := it_t hc83 hFL23
    replace hFL23 := ck_s hFL23; obtain ⟨q4g, hFL23⟩ := hFL23
    replace hFL23 := lv_s hFL23; obtain ⟨q2, q5g, hFL23⟩ := hFL23
    have q_ := q1c.get q4g; obtain ⟨q69, q4h, q5h⟩ := q_
    rw [← q5g] at q4h
    have e_ := q4h; subst e_
    refine x_skip <| x_seq <| x_block <| x_seq <|
     x_region <| p (yl_move q2t) <| p (yl_move q21) <| p (yix_o sl_117 rfl rfl (hS.pull 1) q1c q4g) <|
     pa (v := .agg #[.int .i64 q2.fat.Layer, .int .i64 q2.fat.X, .int .i64 q2.fat.Y, .int .i64 q2.fup.Layer, .int .i64 q2.fup.X, .int .i64 q2.fup.Y, .int .i64 q2.fres]) (at_loadAgg agg_116 rfl rfl (EltV.every q5h (hS.pull 1))) <| ?_
    refine o_alloc zero_116 hS (fun b15 w' hS => ?_)
    refine o_storeAgg (news := [.int .i64 q2.fat.Layer, .int .i64 q2.fat.X, .int .i64 q2.fat.Y, .int .i64 q2.fup.Layer, .int .i64 q2.fup.X, .int .i64 q2.fup.Y, .int .i64 q2.fres]) agg_116 rfl rfl rfl (by simp [over_length]) hS (fun w' hS => ?_)
    refine x_done <| x_seq <| ?_
    replace hFL23 := lv_s hFL23; obtain ⟨x93, hx93, hFL23⟩ := hFL23
    replace hFL23 := lv_s hFL23; obtain ⟨x100, hx100, hFL23⟩ := hFL23
    replace hFL23 := ar_s hFL23; obtain ⟨x101, hx101, hFL23⟩ := hFL23
    replace hFL23 := lv_s hFL23; obtain ⟨x102, hx102, hFL23⟩ := hFL23
    replace hFL23 := lv_s hFL23; obtain ⟨q3v, q3i, hFL23⟩ := hFL23
    replace hFL23 := lv_s hFL23; obtain ⟨q0s, q4v, hFL23⟩ := hFL23
    refine x_par (w0 := w0) [⟨[], [], [90], [], [], [], none⟩, ⟨[], [], [91], [], [], [], none⟩, ⟨[1], [1], [92], [0], [], [], none⟩, ⟨[0, 1, 2], [0, 2], [93], [], [], [], some (1, 4)⟩, ⟨[], [], [94], [], [], [], none⟩, ⟨[4], [4], [95], [], [], [], none⟩, ⟨[4, 5], [5], [96], [], [], [], none⟩, ⟨[4, 5, 6], [6], [97], [2], [], [], none⟩, ⟨[], [], [98], [], [], [], none⟩, ⟨[8], [8], [99], [0], [], [], none⟩, ⟨[4, 5, 6, 7, 8, 9], [7, 9], [100], [3], [], [], none⟩, ⟨[0, 1, 2, 3, 4, 5, 6, 7, 8, 9, 10], [3, 10], [101], [], [], [], none⟩, ⟨[0, 1, 2, 4, 5, 6, 7, 8, 9, 10], [0, 2], [102], [], [1], [4], none⟩, ⟨[0, 1, 2, 4, 5, 6, 7, 8, 9, 10, 12], [12], [103], [], [], [], none⟩, ⟨[0, 1, 2, 3, 4, 5, 6, 7, 8, 9, 10, 11, 12, 13], [0, 11, 13], [], [], [4], [5], none⟩] [⟨none, none, []⟩, ⟨none, (some 12), []⟩, ⟨none, none, []⟩, ⟨none, none, []⟩, ⟨(some 12), (some 14), []⟩, ⟨(some 14), none, []⟩] [90, 91, 92, 93, 94, 95, 96, 97, 98, 99, 100, 101, 102, 103] [0, 1, 2, 3] [0, 2, 3, 5] [0, 1, 2, 3, 4, 5, 6, 7, 8, 9, 10, 11, 12, 13] [fun Ep26 => Ep26 90 = .map (some b78), fun Ep26 => Ep26 91 = .pointer (some ⟨b15, 0, none⟩), fun Ep26 => Ep26 92 = .agg #[.int .i64 q2.fat.Layer, .int .i64 q2.fat.X, .int .i64 q2.fat.Y], fun Ep26 => Ep26 93 = .int .i64 x93, fun Ep26 => Ep26 94 = .pointer (some ⟨q0g, 0, none⟩), fun Ep26 => Ep26 95 = .pointer (some ⟨q0g, 0, none⟩), fun Ep26 => Ep26 96 = .pointer (some ⟨q0g, 9, none⟩), fun Ep26 => Ep26 97 = .map (some q6), fun Ep26 => Ep26 98 = .pointer (some ⟨b15, 0, none⟩), fun Ep26 => Ep26 99 = .agg #[.int .i64 q2.fat.Layer, .int .i64 q2.fat.X, .int .i64 q2.fat.Y], fun Ep26 => Ep26 100 = .int .i64 x100, fun Ep26 => Ep26 101 = .int .i64 x101, fun Ep26 => Ep26 102 = .tuple #[.int .i64 x102, .int .i64 ((mpos (T_rules_Spot.mk q2.fat.Layer q2.fat.X q2.fat.Y) q0c : Nat) : Int)], fun Ep26 => Ep26 103 = .int .i64 ((mpos (T_rules_Spot.mk q2.fat.Layer q2.fat.X q2.fat.Y) q0c : Nat) : Int), fun Ep26 => True] [fun Ep26 => cells b15 116 [.int .i64 q2.fat.Layer, .int .i64 q2.fat.X, .int .i64 q2.fat.Y, .int .i64 q2.fup.Layer, .int .i64 q2.fup.X, .int .i64 q2.fup.Y, .int .i64 q2.fres], fun Ep26 => mapA b78 kf_61 (Value.int .i64) q0c, fun Ep26 => cells q0g 82 [.int .i64 q0w, .int .i64 q0x, .int .i64 q0y, .int .i64 q0z, .slice q0k q12.length c_t0_4, .slice q0l q13.length c_t0_5, .slice q0m q14.length c_t0_6, .slice q0n q15.length c_t0_7, .map (some q0b), .map (some q6), .map (some q5)], fun Ep26 => mapA q6 kf_61 (Value.int .i64) q0t, fun Ep26 => mapA b78 kf_61 (Value.int .i64) q3v, fun Ep26 => mapA b78 kf_61 (Value.int .i64) q0s] mixed (by kernel_rfl) ((((hS.pull 5).pull 2).pull 4).pull 3) ?_ ?_
    ·refine ⟨?_, ?_, ?_, ?_, ?_, ?_, ?_, ?_, ?_, ?_, ?_, ?_, ?_, ?_, ?_, trivial⟩
     ·intro Ep26 w l' hE26 hO26 hF_ hS
      refine p (yl_move ((hE26 13 rfl).trans q1p)) <| x_done <| ?_
      refine x_fin ⟨⟨_, rfl⟩, rfl, ?_⟩
      exact emk hS
     ·intro Ep26 w l' hE26 hO26 hF_ hS
      refine p (yl_field0 fld_116_0 (hE26 15 rfl)) <| x_done <| ?_
      refine x_fin ⟨⟨_, rfl⟩, rfl, ?_⟩
      exact emk hS
     ·intro Ep26 w l' hE26 hO26 hF_ hS
      obtain ⟨q2u, -⟩ := hF_
      replace q2u : Ep26 91 = .pointer (some ⟨b15, 0, none⟩) := emk q2u
      replace hS : St w0 w (cells b15 116 [.int .i64 q2.fat.Layer, .int .i64 q2.fat.X, .int .i64 q2.fat.Y, .int .i64 q2.fup.Layer, .int .i64 q2.fup.X, .int .i64 q2.fup.Y, .int .i64 q2.fres] :: l') := emk hS
      refine pa (v := .agg #[.int .i64 q2.fat.Layer, .int .i64 q2.fat.X, .int .i64 q2.fat.Y]) (ld_sub agg_61 q2u rfl rfl hS) <| x_done <| ?_
      refine x_fin ⟨⟨_, rfl⟩, rfl, ?_⟩
      exact emk hS
     ·refine ⟨?_, ?_⟩
      ·intro Ep26 w l' hE26 hO26 hF_ hS
       obtain ⟨q0p, q18, -⟩ := hF_
       replace q0p : Ep26 90 = .map (some b78) := emk q0p
       replace q18 : Ep26 92 = .agg #[.int .i64 q2.fat.Layer, .int .i64 q2.fat.X, .int .i64 q2.fat.Y] := emk q18
       replace hS : St w0 w (mapA b78 kf_61 (Value.int .i64) q0c :: l') := emk hS
       refine pa (at_look (k := (T_rules_Spot.mk q2.fat.Layer q2.fat.X q2.fat.Y)) um_80 kp_61 (zero1 zv_3) q0p q18 hS hx93) <| x_done <| ?_
       refine x_fin ⟨⟨_, rfl⟩, rfl, ?_⟩
       exact emk hS
      ·intro Ep26 w l' hE26 hO26 hF_ hS
       obtain ⟨q0p, q18, -⟩ := hF_
       replace q0p : Ep26 90 = .map (some b78) := emk q0p
       replace q18 : Ep26 92 = .agg #[.int .i64 q2.fat.Layer, .int .i64 q2.fat.X, .int .i64 q2.fat.Y] := emk q18
       replace hS : St w0 w (mapA b78 kf_61 (Value.int .i64) q3v :: l') := emk hS
       refine pa (at_look (k := (T_rules_Spot.mk q2.fat.Layer q2.fat.X q2.fat.Y)) um_80 kp_61 (zero1 zv_3) q0p q18 hS (hx93.trans (mget_ent q3i hx102).symm)) <| x_done <| ?_
       refine x_fin ⟨⟨_, rfl⟩, rfl, ?_⟩
       exact emk hS
     ·intro Ep26 w l' hE26 hO26 hF_ hS
      refine p (yl_move ((hE26 0 rfl).trans q2s)) <| x_done <| ?_
      refine x_fin ⟨⟨_, rfl⟩, rfl, ?_⟩
      exact emk hS
     ·intro Ep26 w l' hE26 hO26 hF_ hS
      obtain ⟨q2v, -⟩ := hF_
      replace q2v : Ep26 94 = .pointer (some ⟨q0g, 0, none⟩) := emk q2v
      refine p (yl_nilCheck q2v) <| x_done <| ?_
      refine x_fin ⟨⟨_, rfl⟩, rfl, ?_⟩
      exact emk hS
     ·intro Ep26 w l' hE26 hO26 hF_ hS
      obtain ⟨q2w, -⟩ := hF_
      replace q2w : Ep26 95 = .pointer (some ⟨q0g, 0, none⟩) := emk q2w
      refine p (yl_field0 fld_82_2 q2w) <| x_done <| ?_
      refine x_fin ⟨⟨_, rfl⟩, rfl, ?_⟩
      exact emk hS
     ·intro Ep26 w l' hE26 hO26 hF_ hS
      obtain ⟨q2x, -⟩ := hF_
      replace q2x : Ep26 96 = .pointer (some ⟨q0g, 9, none⟩) := emk q2x
      replace hS : St w0 w (cells q0g 82 [.int .i64 q0w, .int .i64 q0x, .int .i64 q0y, .int .i64 q0z, .slice q0k q12.length c_t0_4, .slice q0l q13.length c_t0_5, .slice q0m q14.length c_t0_6, .slice q0n q15.length c_t0_7, .map (some q0b), .map (some q6), .map (some q5)] :: l') := emk hS
      refine pa (at_load one_80 q2x (hS.cell rfl)) <| x_done <| ?_
      refine x_fin ⟨⟨_, rfl⟩, rfl, ?_⟩
      exact emk hS
     ·intro Ep26 w l' hE26 hO26 hF_ hS
      refine p (yl_field0 fld_116_0 (hE26 15 rfl)) <| x_done <| ?_
      refine x_fin ⟨⟨_, rfl⟩, rfl, ?_⟩
      exact emk hS
     ·intro Ep26 w l' hE26 hO26 hF_ hS
      obtain ⟨q2y, -⟩ := hF_
      replace q2y : Ep26 98 = .pointer (some ⟨b15, 0, none⟩) := emk q2y
      replace hS : St w0 w (cells b15 116 [.int .i64 q2.fat.Layer, .int .i64 q2.fat.X, .int .i64 q2.fat.Y, .int .i64 q2.fup.Layer, .int .i64 q2.fup.X, .int .i64 q2.fup.Y, .int .i64 q2.fres] :: l') := emk hS
      refine pa (v := .agg #[.int .i64 q2.fat.Layer, .int .i64 q2.fat.X, .int .i64 q2.fat.Y]) (ld_sub agg_61 q2y rfl rfl hS) <| x_done <| ?_
      refine x_fin ⟨⟨_, rfl⟩, rfl, ?_⟩
      exact emk hS
     ·intro Ep26 w l' hE26 hO26 hF_ hS
      obtain ⟨q2z, q30, -⟩ := hF_
      replace q2z : Ep26 97 = .map (some q6) := emk q2z
      replace q30 : Ep26 99 = .agg #[.int .i64 q2.fat.Layer, .int .i64 q2.fat.X, .int .i64 q2.fat.Y] := emk q30
      replace hS : St w0 w (mapA q6 kf_61 (Value.int .i64) q0t :: l') := emk hS
      refine pa (at_look (k := (T_rules_Spot.mk q2.fat.Layer q2.fat.X q2.fat.Y)) um_80 kp_61 (zero1 zv_3) q2z q30 hS hx100) <| x_done <| ?_
      refine x_fin ⟨⟨_, rfl⟩, rfl, ?_⟩
      exact emk hS
     ·intro Ep26 w l' hE26 hO26 hF_ hS
      obtain ⟨q31, q27, -⟩ := hF_
      replace q31 : Ep26 93 = .int .i64 x93 := emk q31
      replace q27 : Ep26 100 = .int .i64 x100 := emk q27
      refine p (yadd q31 q27 hx101) <| x_done <| ?_
      refine x_fin ⟨⟨_, rfl⟩, rfl, ?_⟩
      exact emk hS
     ·intro Ep26 w l' hE26 hO26 hF_ hS
      obtain ⟨q0p, q18, -⟩ := hF_
      replace q0p : Ep26 90 = .map (some b78) := emk q0p
      replace q18 : Ep26 92 = .agg #[.int .i64 q2.fat.Layer, .int .i64 q2.fat.X, .int .i64 q2.fat.Y] := emk q18
      replace hS : St w0 w (mapA b78 kf_61 (Value.int .i64) q0c :: l') := emk hS
      refine o_mapEntry (k := (T_rules_Spot.mk q2.fat.Layer q2.fat.X q2.fat.Y)) (vf := (Value.int .i64)) um_80 kp_61 (zero1 zv_3) q0p q18 hS hx102 q3i (fun w' hS => ?_)
      refine x_done <| ?_
      refine x_fin ⟨⟨_, rfl⟩, rfl, ?_⟩
      exact emk hS
     ·intro Ep26 w l' hE26 hO26 hF_ hS
      obtain ⟨q28, -⟩ := hF_
      replace q28 : Ep26 102 = .tuple #[.int .i64 x102, .int .i64 ((mpos (T_rules_Spot.mk q2.fat.Layer q2.fat.X q2.fat.Y) q0c : Nat) : Int)] := emk q28
      refine p (yl_extract q28 rfl) <| x_done <| ?_
      refine x_fin ⟨⟨_, rfl⟩, rfl, ?_⟩
      exact emk hS
     ·intro Ep26 w l' hE26 hO26 hF_ hS
      obtain ⟨q0p, q29, q2a, -⟩ := hF_
      replace q0p : Ep26 90 = .map (some b78) := emk q0p
      replace q29 : Ep26 101 = .int .i64 x101 := emk q29
      replace q2a : Ep26 103 = .int .i64 ((mpos (T_rules_Spot.mk q2.fat.Layer q2.fat.X q2.fat.Y) q0c : Nat) : Int) := emk q2a
      replace hS : St w0 w (mapA b78 kf_61 (Value.int .i64) q3v :: l') := emk hS
      refine o_entryStore (k := (T_rules_Spot.mk q2.fat.Layer q2.fat.X q2.fat.Y)) (es := q0c) (v0 := x102) (vf := (Value.int .i64)) (v := x101) q0p q2a q29 rfl q3i hS q4v (fun w' hS => ?_)
      refine x_done <| ?_
      refine x_fin ⟨⟨undef, rfl⟩, trivial, ?_⟩
      exact emk hS
    intro Ep26 w' hE26 hF_ hS
    obtain ⟨q0p, q2u, q18, q31, q2v, q2w, q2x, q2z, q2y, q30, q27, q29, q28, q2a, -⟩ := hF_
    replace q0p : Ep26 90 = .map (some b78) := emk q0p
    replace q2u : Ep26 91 = .pointer (some ⟨b15, 0, none⟩) := emk q2u
    replace q18 : Ep26 92 = .agg #[.int .i64 q2.fat.Layer, .int .i64 q2.fat.X, .int .i64 q2.fat.Y] := emk q18
    replace q31 : Ep26 93 = .int .i64 x93 := emk q31
    replace q2v : Ep26 94 = .pointer (some ⟨q0g, 0, none⟩) := emk q2v
    replace q2w : Ep26 95 = .pointer (some ⟨q0g, 0, none⟩) := emk q2w
    replace q2x : Ep26 96 = .pointer (some ⟨q0g, 9, none⟩) := emk q2x
    replace q2z : Ep26 97 = .map (some q6) := emk q2z
    replace q2y : Ep26 98 = .pointer (some ⟨b15, 0, none⟩) := emk q2y
    replace q30 : Ep26 99 = .agg #[.int .i64 q2.fat.Layer, .int .i64 q2.fat.X, .int .i64 q2.fat.Y] := emk q30
    replace q27 : Ep26 100 = .int .i64 x100 := emk q27
    replace q29 : Ep26 101 = .int .i64 x101 := emk q29
    replace q28 : Ep26 102 = .tuple #[.int .i64 x102, .int .i64 ((mpos (T_rules_Spot.mk q2.fat.Layer q2.fat.X q2.fat.Y) q0c : Nat) : Int)] := emk q28
    replace q2a : Ep26 103 = .int .i64 ((mpos (T_rules_Spot.mk q2.fat.Layer q2.fat.X q2.fat.Y) q0c : Nat) : Int) := emk q2a
    replace hS : St w0 w' (cells b15 116 [.int .i64 q2.fat.Layer, .int .i64 q2.fat.X, .int .i64 q2.fat.Y, .int .i64 q2.fup.Layer, .int .i64 q2.fup.X, .int .i64 q2.fup.Y, .int .i64 q2.fres] :: cells q0g 82 [.int .i64 q0w, .int .i64 q0x, .int .i64 q0y, .int .i64 q0z, .slice q0k q12.length c_t0_4, .slice q0l q13.length c_t0_5, .slice q0m q14.length c_t0_6, .slice q0n q15.length c_t0_7, .map (some q0b), .map (some q6), .map (some q5)] :: mapA q6 kf_61 (Value.int .i64) q0t :: mapA b78 kf_61 (Value.int .i64) q0s :: (vec 116 R_extract_visit.sz (.slice q0f q7.length c_order5_L5) q7.length q0j :: mapA q0b kf_61 Hd.v (zipK q10 q0i) :: mapA q5 kf_61 (Value.int .i64) q16 :: ro ρ :: l)) := emk hS
    refine x_seq <| x_region <| p (yl_move ((hE26 14 rfl).trans q21)) <| p (yl_gtr rfl rfl) <|
     x_done <| ?_
    replace hFL23 := bd_s hFL23; obtain ⟨oc105, hFc105, hFL23⟩ := hFL23
    refine x_join (fun E w => ∃ (q1d : List (T_rules_Spot × Int)), q1d = oc105 ∧ E 0 = .pointer (some ⟨q0g, 0, none⟩) ∧ E 5 = .slice q0f q7.length c_order5_L5 ∧ E 13 = .map (some b78) ∧ E 14 = .int .i64 q1o ∧ St w0 w (cells q0g 82 [.int .i64 q0w, .int .i64 q0x, .int .i64 q0y, .int .i64 q0z, .slice q0k q12.length c_t0_4, .slice q0l q13.length c_t0_5, .slice q0m q14.length c_t0_6, .slice q0n q15.length c_t0_7, .map (some q0b), .map (some q6), .map (some q5)] :: vec 116 R_extract_visit.sz (.slice q0f q7.length c_order5_L5) q7.length q0j :: mapA b78 kf_61 (Value.int .i64) q1d :: mapA q0b kf_61 Hd.v (zipK q10 q0i) :: mapA q6 kf_61 (Value.int .i64) q0t :: mapA q5 kf_61 (Value.int .i64) q16 :: ro ρ :: l)) ?_ ?_
    ·refine x_cond_p (0 < q1o) rfl (fun hc105 => ?_) (fun hc105 => ?_)
     ·replace hFc105 := it_t hc105 hFc105
      replace hFc105 := lv_s hFc105; obtain ⟨x109, hx109, hFc105⟩ := hFc105
      replace hFc105 := lv_s hFc105; obtain ⟨x113, hx113, hFc105⟩ := hFc105
      replace hFc105 := ar_s hFc105; obtain ⟨x114, hx114, hFc105⟩ := hFc105
      replace hFc105 := lv_s hFc105; obtain ⟨x115, hx115, hFc105⟩ := hFc105
      replace hFc105 := lv_s hFc105; obtain ⟨q46, q3w, hFc105⟩ := hFc105
      replace hFc105 := lv_s hFc105; obtain ⟨q3x, q4w, hFc105⟩ := hFc105
      refine x_par (w0 := w0) [⟨[], [], [106], [], [], [], none⟩, ⟨[], [], [107], [], [], [], none⟩, ⟨[1], [1], [108], [0], [], [], none⟩, ⟨[0, 1, 2], [0, 2], [109], [], [], [], some (1, 2)⟩, ⟨[], [], [110], [], [], [], none⟩, ⟨[], [], [111], [], [], [], none⟩, ⟨[5], [5], [112], [0], [], [], none⟩, ⟨[4, 5, 6], [4, 6], [113], [1], [], [], none⟩, ⟨[0, 1, 2, 3, 4, 5, 6, 7], [3, 7], [114], [], [], [], none⟩, ⟨[0, 1, 2, 4, 5, 6, 7], [0, 2], [115], [], [1], [2], none⟩, ⟨[0, 1, 2, 4, 5, 6, 7, 9], [9], [116], [], [], [], none⟩, ⟨[0, 1, 2, 3, 4, 5, 6, 7, 8, 9, 10], [0, 8, 10], [], [], [2], [3], none⟩] [⟨none, none, []⟩, ⟨none, (some 9), []⟩, ⟨(some 9), (some 11), []⟩, ⟨(some 11), none, []⟩] [106, 107, 108, 109, 110, 111, 112, 113, 114, 115, 116] [0, 1] [0, 3] [0, 1, 2, 3, 4, 5, 6, 7, 8, 9, 10] [fun Ep28 => Ep28 106 = .map (some b78), fun Ep28 => Ep28 107 = .pointer (some ⟨b15, 3, none⟩), fun Ep28 => Ep28 108 = .agg #[.int .i64 q2.fup.Layer, .int .i64 q2.fup.X, .int .i64 q2.fup.Y], fun Ep28 => Ep28 109 = .int .i64 x109, fun Ep28 => Ep28 110 = .map (some b78), fun Ep28 => Ep28 111 = .pointer (some ⟨b15, 0, none⟩), fun Ep28 => Ep28 112 = .agg #[.int .i64 q2.fat.Layer, .int .i64 q2.fat.X, .int .i64 q2.fat.Y], fun Ep28 => Ep28 113 = .int .i64 x113, fun Ep28 => Ep28 114 = .int .i64 x114, fun Ep28 => Ep28 115 = .tuple #[.int .i64 x115, .int .i64 ((mpos (T_rules_Spot.mk q2.fup.Layer q2.fup.X q2.fup.Y) q0s : Nat) : Int)], fun Ep28 => Ep28 116 = .int .i64 ((mpos (T_rules_Spot.mk q2.fup.Layer q2.fup.X q2.fup.Y) q0s : Nat) : Int), fun Ep28 => True] [fun Ep28 => cells b15 116 [.int .i64 q2.fat.Layer, .int .i64 q2.fat.X, .int .i64 q2.fat.Y, .int .i64 q2.fup.Layer, .int .i64 q2.fup.X, .int .i64 q2.fup.Y, .int .i64 q2.fres], fun Ep28 => mapA b78 kf_61 (Value.int .i64) q0s, fun Ep28 => mapA b78 kf_61 (Value.int .i64) q46, fun Ep28 => mapA b78 kf_61 (Value.int .i64) q3x] mixed (by kernel_rfl) ((hS.pull 3).pull 1) ?_ ?_
      ·refine ⟨?_, ?_, ?_, ?_, ?_, ?_, ?_, ?_, ?_, ?_, ?_, ?_, trivial⟩
       ·intro Ep28 w l' hE28 hO28 hF_ hS
        refine p (yl_move ((hE28 13 rfl).trans ((hE26 13 rfl).trans q1p))) <| x_done <| ?_
        refine x_fin ⟨⟨_, rfl⟩, rfl, ?_⟩
        exact emk hS
       ·intro Ep28 w l' hE28 hO28 hF_ hS
        refine p (yl_field0 fld_116_1 ((hE28 15 rfl).trans (hE26 15 rfl))) <| x_done <| ?_
        refine x_fin ⟨⟨_, rfl⟩, rfl, ?_⟩
        exact emk hS
       ·intro Ep28 w l' hE28 hO28 hF_ hS
        obtain ⟨q32, -⟩ := hF_
        replace q32 : Ep28 107 = .pointer (some ⟨b15, 3, none⟩) := emk q32
        replace hS : St w0 w (cells b15 116 [.int .i64 q2.fat.Layer, .int .i64 q2.fat.X, .int .i64 q2.fat.Y, .int .i64 q2.fup.Layer, .int .i64 q2.fup.X, .int .i64 q2.fup.Y, .int .i64 q2.fres] :: l') := emk hS
        refine pa (v := .agg #[.int .i64 q2.fup.Layer, .int .i64 q2.fup.X, .int .i64 q2.fup.Y]) (ld_sub agg_61 q32 rfl rfl hS) <| x_done <| ?_
        refine x_fin ⟨⟨_, rfl⟩, rfl, ?_⟩
        exact emk hS
       ·refine ⟨?_, ?_⟩
        ·intro Ep28 w l' hE28 hO28 hF_ hS
         obtain ⟨q0q, q19, -⟩ := hF_
         replace q0q : Ep28 106 = .map (some b78) := emk q0q
         replace q19 : Ep28 108 = .agg #[.int .i64 q2.fup.Layer, .int .i64 q2.fup.X, .int .i64 q2.fup.Y] := emk q19
         replace hS : St w0 w (mapA b78 kf_61 (Value.int .i64) q0s :: l') := emk hS
         refine pa (at_look (k := (T_rules_Spot.mk q2.fup.Layer q2.fup.X q2.fup.Y)) um_80 kp_61 (zero1 zv_3) q0q q19 hS hx109) <| x_done <| ?_
         refine x_fin ⟨⟨_, rfl⟩, rfl, ?_⟩
         exact emk hS
        ·intro Ep28 w l' hE28 hO28 hF_ hS
         obtain ⟨q0q, q19, -⟩ := hF_
         replace q0q : Ep28 106 = .map (some b78) := emk q0q
         replace q19 : Ep28 108 = .agg #[.int .i64 q2.fup.Layer, .int .i64 q2.fup.X, .int .i64 q2.fup.Y] := emk q19
         replace hS : St w0 w (mapA b78 kf_61 (Value.int .i64) q46 :: l') := emk hS
         refine pa (at_look (k := (T_rules_Spot.mk q2.fup.Layer q2.fup.X q2.fup.Y)) um_80 kp_61 (zero1 zv_3) q0q q19 hS (hx109.trans (mget_ent q3w hx115).symm)) <| x_done <| ?_
         refine x_fin ⟨⟨_, rfl⟩, rfl, ?_⟩
         exact emk hS
       ·intro Ep28 w l' hE28 hO28 hF_ hS
        refine p (yl_move ((hE28 13 rfl).trans ((hE26 13 rfl).trans q1p))) <| x_done <| ?_
        refine x_fin ⟨⟨_, rfl⟩, rfl, ?_⟩
        exact emk hS
       ·intro Ep28 w l' hE28 hO28 hF_ hS
        refine p (yl_field0 fld_116_0 ((hE28 15 rfl).trans (hE26 15 rfl))) <| x_done <| ?_
        refine x_fin ⟨⟨_, rfl⟩, rfl, ?_⟩
        exact emk hS
       ·intro Ep28 w l' hE28 hO28 hF_ hS
        obtain ⟨q33, -⟩ := hF_
        replace q33 : Ep28 111 = .pointer (some ⟨b15, 0, none⟩) := emk q33
        replace hS : St w0 w (cells b15 116 [.int .i64 q2.fat.Layer, .int .i64 q2.fat.X, .int .i64 q2.fat.Y, .int .i64 q2.fup.Layer, .int .i64 q2.fup.X, .int .i64 q2.fup.Y, .int .i64 q2.fres] :: l') := emk hS
        refine pa (v := .agg #[.int .i64 q2.fat.Layer, .int .i64 q2.fat.X, .int .i64 q2.fat.Y]) (ld_sub agg_61 q33 rfl rfl hS) <| x_done <| ?_
        refine x_fin ⟨⟨_, rfl⟩, rfl, ?_⟩
        exact emk hS
       ·intro Ep28 w l' hE28 hO28 hF_ hS
        obtain ⟨q34, q35, -⟩ := hF_
        replace q34 : Ep28 110 = .map (some b78) := emk q34
        replace q35 : Ep28 112 = .agg #[.int .i64 q2.fat.Layer, .int .i64 q2.fat.X, .int .i64 q2.fat.Y] := emk q35
        replace hS : St w0 w (mapA b78 kf_61 (Value.int .i64) q0s :: l') := emk hS
        refine pa (at_look (k := (T_rules_Spot.mk q2.fat.Layer q2.fat.X q2.fat.Y)) um_80 kp_61 (zero1 zv_3) q34 q35 hS hx113) <| x_done <| ?_
        refine x_fin ⟨⟨_, rfl⟩, rfl, ?_⟩
        exact emk hS
       ·intro Ep28 w l' hE28 hO28 hF_ hS
        obtain ⟨q36, q37, -⟩ := hF_
        replace q36 : Ep28 109 = .int .i64 x109 := emk q36
        replace q37 : Ep28 113 = .int .i64 x113 := emk q37
        refine p (yadd q36 q37 hx114) <| x_done <| ?_
        refine x_fin ⟨⟨_, rfl⟩, rfl, ?_⟩
        exact emk hS
       ·intro Ep28 w l' hE28 hO28 hF_ hS
        obtain ⟨q0q, q19, -⟩ := hF_
        replace q0q : Ep28 106 = .map (some b78) := emk q0q
        replace q19 : Ep28 108 = .agg #[.int .i64 q2.fup.Layer, .int .i64 q2.fup.X, .int .i64 q2.fup.Y] := emk q19
        replace hS : St w0 w (mapA b78 kf_61 (Value.int .i64) q0s :: l') := emk hS
        refine o_mapEntry (k := (T_rules_Spot.mk q2.fup.Layer q2.fup.X q2.fup.Y)) (vf := (Value.int .i64)) um_80 kp_61 (zero1 zv_3) q0q q19 hS hx115 q3w (fun w' hS => ?_)
        refine x_done <| ?_
        refine x_fin ⟨⟨_, rfl⟩, rfl, ?_⟩
        exact emk hS
       ·intro Ep28 w l' hE28 hO28 hF_ hS
        obtain ⟨q38, -⟩ := hF_
        replace q38 : Ep28 115 = .tuple #[.int .i64 x115, .int .i64 ((mpos (T_rules_Spot.mk q2.fup.Layer q2.fup.X q2.fup.Y) q0s : Nat) : Int)] := emk q38
        refine p (yl_extract q38 rfl) <| x_done <| ?_
        refine x_fin ⟨⟨_, rfl⟩, rfl, ?_⟩
        exact emk hS
       ·intro Ep28 w l' hE28 hO28 hF_ hS
        obtain ⟨q0q, q39, q2b, -⟩ := hF_
        replace q0q : Ep28 106 = .map (some b78) := emk q0q
        replace q39 : Ep28 114 = .int .i64 x114 := emk q39
        replace q2b : Ep28 116 = .int .i64 ((mpos (T_rules_Spot.mk q2.fup.Layer q2.fup.X q2.fup.Y) q0s : Nat) : Int) := emk q2b
        replace hS : St w0 w (mapA b78 kf_61 (Value.int .i64) q46 :: l') := emk hS
        refine o_entryStore (k := (T_rules_Spot.mk q2.fup.Layer q2.fup.X q2.fup.Y)) (es := q0s) (v0 := x115) (vf := (Value.int .i64)) (v := x114) q0q q2b q39 rfl q3w hS q4w (fun w' hS => ?_)
        refine x_done <| ?_
        refine x_fin ⟨⟨undef, rfl⟩, trivial, ?_⟩
        exact emk hS
      intro Ep28 w' hE28 hF_ hS
      obtain ⟨q0q, q32, q19, q36, q34, q33, q35, q37, q39, q38, q2b, -⟩ := hF_
      replace q0q : Ep28 106 = .map (some b78) := emk q0q
      replace q32 : Ep28 107 = .pointer (some ⟨b15, 3, none⟩) := emk q32
      replace q19 : Ep28 108 = .agg #[.int .i64 q2.fup.Layer, .int .i64 q2.fup.X, .int .i64 q2.fup.Y] := emk q19
      replace q36 : Ep28 109 = .int .i64 x109 := emk q36
      replace q34 : Ep28 110 = .map (some b78) := emk q34
      replace q33 : Ep28 111 = .pointer (some ⟨b15, 0, none⟩) := emk q33
      replace q35 : Ep28 112 = .agg #[.int .i64 q2.fat.Layer, .int .i64 q2.fat.X, .int .i64 q2.fat.Y] := emk q35
      replace q37 : Ep28 113 = .int .i64 x113 := emk q37
      replace q39 : Ep28 114 = .int .i64 x114 := emk q39
      replace q38 : Ep28 115 = .tuple #[.int .i64 x115, .int .i64 ((mpos (T_rules_Spot.mk q2.fup.Layer q2.fup.X q2.fup.Y) q0s : Nat) : Int)] := emk q38
      replace q2b : Ep28 116 = .int .i64 ((mpos (T_rules_Spot.mk q2.fup.Layer q2.fup.X q2.fup.Y) q0s : Nat) : Int) := emk q2b
      replace hS : St w0 w' (cells b15 116 [.int .i64 q2.fat.Layer, .int .i64 q2.fat.X, .int .i64 q2.fat.Y, .int .i64 q2.fup.Layer, .int .i64 q2.fup.X, .int .i64 q2.fup.Y, .int .i64 q2.fres] :: mapA b78 kf_61 (Value.int .i64) q3x :: (cells q0g 82 [.int .i64 q0w, .int .i64 q0x, .int .i64 q0y, .int .i64 q0z, .slice q0k q12.length c_t0_4, .slice q0l q13.length c_t0_5, .slice q0m q14.length c_t0_6, .slice q0n q15.length c_t0_7, .map (some q0b), .map (some q6), .map (some q5)] :: mapA q6 kf_61 (Value.int .i64) q0t :: vec 116 R_extract_visit.sz (.slice q0f q7.length c_order5_L5) q7.length q0j :: mapA q0b kf_61 Hd.v (zipK q10 q0i) :: mapA q5 kf_61 (Value.int .i64) q16 :: ro ρ :: l)) := emk hS
      exact x_inv ⟨q3x, (sinj hFc105), ((hE28 0 rfl).trans ((hE26 0 rfl).trans q2s)), ((hE28 5 rfl).trans ((hE26 5 rfl).trans q2t)), ((hE28 13 rfl).trans ((hE26 13 rfl).trans q1p)), ((hE28 14 rfl).trans ((hE26 14 rfl).trans q21)), (((((((hS.drop.pull 6).pull 6).pull 4).pull 6).pull 4).pull 6).pull 6)⟩
     ·replace hFc105 := it_f hc105 hFc105
      refine x_skip <| ?_
      exact x_inv ⟨q0s, (sinj hFc105), ((hE26 0 rfl).trans q2s), ((hE26 5 rfl).trans q2t), ((hE26 13 rfl).trans q1p), ((hE26 14 rfl).trans q21), (((((((hS.drop.pull 6).pull 6).pull 3).pull 6).pull 5).pull 6).pull 6)⟩
    rintro E w ⟨q1d, rfl, q4x, q4y, q4n, q4o, hS⟩
    replace hFL23 := ar_s hFL23; obtain ⟨x85, hx85, hFL23⟩ := hFL23
    refine x_blk <| x_region <| p (yl_move q4o) <| p (ysub rfl rfl hx85) <|
     p (yl_assign rfl) <| x_done <| ?_
    have e_ := sinj hFL23; subst e_
    exact x_inv ⟨kL23, Nat.lt_succ_self _, q1d, x85, hLL23, q4x, q4y, q4n, rfl, (((((((hS.pull 6).pull 6).pull 6).pull 6).pull 6).pull 6).pull 6)⟩
   ·replace hFL23 := it_f hc83 hFL23
    refine x_exitTo _ rfl <| ?_
    have e_ := sinj hFL23; subst e_
    exact x_inv ⟨q0c, hLL23, q2s, q2t, q1p, (((((((hS.pull 6).pull 6).pull 6).pull 6).pull 6).pull 6).pull 6)⟩
  rintro E w ⟨q11, rfl, q5i, q5j, q4z, hS⟩
  refine x_seq <| x_seq <| x_region <| p (yl_move q5j) <|
   p (yl_len_slice usl_117 rfl) <| p (yl_move rfl) <| x_done <| ?_
  replace hF := bd_s hF; obtain ⟨oL30, hLL30, hF⟩ := hF
  refine x_join (fun E w => ∃ (q26 : List (T_rules_Spot × Int)), q26 = oL30 ∧ St w0 w (cells q0g 82 [.int .i64 q0w, .int .i64 q0x, .int .i64 q0y, .int .i64 q0z, .slice q0k q12.length c_t0_4, .slice q0l q13.length c_t0_5, .slice q0m q14.length c_t0_6, .slice q0n q15.length c_t0_7, .map (some q0b), .map (some q6), .map (some q5)] :: mapA q0b kf_61 Hd.v (zipK q10 q0i) :: mapA q6 kf_61 (Value.int .i64) q0t :: mapA q5 kf_61 (Value.int .i64) q26 :: ro ρ :: l)) ?_ ?_
  ·refine x_block ?_
   refine x_loop (fun k_ E w => ∃ (q1f : Int) (q1m : List (T_rules_Spot × Int)), lp (P_extract_tree_grow_L30 q7 q11) k_ (q1f, q1m) = some oL30 ∧ E 0 = .pointer (some ⟨q0g, 0, none⟩) ∧ E 13 = .map (some b78) ∧ E 117 = .slice q0f q7.length c_order5_L5 ∧ E 118 = .int .i64 (q7.length : Int) ∧ E 119 = .int .i64 q1f ∧ St w0 w (cells q0g 82 [.int .i64 q0w, .int .i64 q0x, .int .i64 q0y, .int .i64 q0z, .slice q0k q12.length c_t0_4, .slice q0l q13.length c_t0_5, .slice q0m q14.length c_t0_6, .slice q0n q15.length c_t0_7, .map (some q0b), .map (some q6), .map (some q5)] :: mapA b78 kf_61 (Value.int .i64) q11 :: vec 116 R_extract_visit.sz (.slice q0f q7.length c_order5_L5) q7.length q0j :: mapA q0b kf_61 Hd.v (zipK q10 q0i) :: mapA q6 kf_61 (Value.int .i64) q0t :: mapA q5 kf_61 (Value.int .i64) q1m :: ro ρ :: l)) fuel ⟨0, q16, hLL30, q5i, q4z, rfl, rfl, rfl, (((((((hS.pull 6).pull 6).pull 6).pull 6).pull 5).pull 6).pull 6)⟩ ?_
   rintro kL30 E w ⟨q1f, q1m, hLL30, q2c, q3c, q2g, q2h, q1y, hS⟩
   replace hLL30 := lp_s hLL30; obtain ⟨kL30, obL30, rfl, hFL30, hLL30⟩ := hLL30
   refine x_seq <| x_region <| p (yl_lss q1y q2h) <| x_done <|
    x_seq <|
    x_cond_p (q1f < (q7.length : Int)) rfl (fun hc120 => ?_) (fun hc120 => ?_)
   ·replace hFL30 := it_t hc120 hFL30
    replace hFL30 := ck_s hFL30; obtain ⟨q4i, hFL30⟩ := hFL30
    replace hFL30 := lv_s hFL30; obtain ⟨q0d, q5k, hFL30⟩ := hFL30
    have q_ := q1c.get q4i; obtain ⟨q6a, q4j, q5l⟩ := q_
    rw [← q5k] at q4j
    have e_ := q4j; subst e_
    refine x_skip <| x_seq <| x_block <| x_seq <|
     x_region <| p (yl_move q1y) <| p (yix_o sl_117 q2g q1y (hS.pull 2) q1c q4i) <| pa (v := .agg #[.int .i64 q0d.fat.Layer, .int .i64 q0d.fat.X, .int .i64 q0d.fat.Y, .int .i64 q0d.fup.Layer, .int .i64 q0d.fup.X, .int .i64 q0d.fup.Y, .int .i64 q0d.fres]) (at_loadAgg agg_116 rfl rfl (EltV.every q5l (hS.pull 2))) <| ?_
    refine o_alloc zero_116 hS (fun b17 w' hS => ?_)
    refine p (yl_assign rfl) <| ?_
    refine o_storeAgg (news := [.int .i64 q0d.fat.Layer, .int .i64 q0d.fat.X, .int .i64 q0d.fat.Y, .int .i64 q0d.fup.Layer, .int .i64 q0d.fup.X, .int .i64 q0d.fup.Y, .int .i64 q0d.fres]) agg_116 rfl rfl rfl (by simp [over_length]) hS (fun w' hS => ?_)
    refine x_done <| x_seq <| x_region <| p (yl_move rfl) <|
     p (yl_eql rfl rfl) <| x_done <| ?_
    replace hFL30 := bd_s hFL30; obtain ⟨oc125, hFc125, hFL30⟩ := hFL30
    refine x_join (fun E w => ∃ (q1n : List (T_rules_Spot × Int)), q1n = oc125 ∧ E 0 = .pointer (some ⟨q0g, 0, none⟩) ∧ E 13 = .map (some b78) ∧ E 117 = .slice q0f q7.length c_order5_L5 ∧ E 118 = .int .i64 (q7.length : Int) ∧ E 119 = .int .i64 q1f ∧ St w0 w (cells q0g 82 [.int .i64 q0w, .int .i64 q0x, .int .i64 q0y, .int .i64 q0z, .slice q0k q12.length c_t0_4, .slice q0l q13.length c_t0_5, .slice q0m q14.length c_t0_6, .slice q0n q15.length c_t0_7, .map (some q0b), .map (some q6), .map (some q5)] :: mapA b78 kf_61 (Value.int .i64) q11 :: vec 116 R_extract_visit.sz (.slice q0f q7.length c_order5_L5) q7.length q0j :: mapA q0b kf_61 Hd.v (zipK q10 q0i) :: mapA q6 kf_61 (Value.int .i64) q0t :: mapA q5 kf_61 (Value.int .i64) q1n :: ro ρ :: l)) ?_ ?_
    ·refine x_cond_p (q1f = 0) rfl (fun hc125 => ?_) (fun hc125 => ?_)
     ·replace hFc125 := it_t hc125 hFc125
      refine x_head 6 mixed (by kernel_rfl) hS _ _ rfl rfl <| q (yl_move q2c) <| q (yl_nilCheck rfl) <| q (yl_field0 fld_82_3 rfl) <|
       qa (fun w' hS => at_load one_80 rfl ((hS.pull 1).cell rfl)) <| q (yl_field0 fld_116_0 rfl) <| qa (v := .agg #[.int .i64 q0d.fat.Layer, .int .i64 q0d.fat.X, .int .i64 q0d.fat.Y]) (fun w' hS => ld_sub agg_61 rfl rfl rfl hS) <|
       q_done fun w' hS => ?_
      replace hFc125 := lv_s hFc125; obtain ⟨q66, q5m, hFc125⟩ := hFc125
      refine o_mapset (k := (T_rules_Spot.mk q0d.fat.Layer q0d.fat.X q0d.fat.Y)) (vf := (Value.int .i64)) (v := 0) um_80 kp_61 rfl rfl rfl (hS.pull 6) q5m (fun w' hS => ?_)
      refine x_done <| ?_
      exact x_inv ⟨q66, (sinj hFc125), q2c, q3c, q2g, q2h, q1y, ((((((((hS.pull 1).drop.pull 6).pull 1).pull 6).pull 6).pull 6).pull 6).pull 6)⟩
     ·replace hFc125 := it_f hc125 hFc125
      replace hFc125 := lv_s hFc125; obtain ⟨x144, hx144, hFc125⟩ := hFc125
      replace hFc125 := lv_s hFc125; obtain ⟨x150, hx150, hFc125⟩ := hFc125
      replace hFc125 := ar_s hFc125; obtain ⟨x151, hx151, hFc125⟩ := hFc125
      replace hFc125 := ar_s hFc125; obtain ⟨x152, hx152, hFc125⟩ := hFc125
      refine x_head 21 mixed (by kernel_rfl) hS _ _ rfl rfl <| q (yl_move q2c) <| q (yl_nilCheck rfl) <| q (yl_field0 fld_82_3 rfl) <|
       qa (fun w' hS => at_load one_80 rfl ((hS.pull 1).cell rfl)) <| q (yl_field0 fld_116_0 rfl) <| qa (v := .agg #[.int .i64 q0d.fat.Layer, .int .i64 q0d.fat.X, .int .i64 q0d.fat.Y]) (fun w' hS => ld_sub agg_61 rfl rfl rfl hS) <| q (yl_move q2c) <|
       q (yl_nilCheck rfl) <| q (yl_field0 fld_82_3 rfl) <| qa (fun w' hS => at_load one_80 rfl ((hS.pull 1).cell rfl)) <| q (yl_field0 fld_116_1 rfl) <|
       qa (v := .agg #[.int .i64 q0d.fup.Layer, .int .i64 q0d.fup.X, .int .i64 q0d.fup.Y]) (fun w' hS => ld_sub agg_61 rfl rfl rfl hS) <| qa (fun w' hS => at_look (k := (T_rules_Spot.mk q0d.fup.Layer q0d.fup.X q0d.fup.Y)) um_80 kp_61 (zero1 zv_3) rfl rfl (hS.pull 6) hx144) <| q (yl_field0 fld_116_2 rfl) <| qa (fun w' hS => at_load one_3 rfl (hS.cell rfl)) <|
       q (yl_move q3c) <| q (yl_field0 fld_116_0 rfl) <| qa (v := .agg #[.int .i64 q0d.fat.Layer, .int .i64 q0d.fat.X, .int .i64 q0d.fat.Y]) (fun w' hS => ld_sub agg_61 rfl rfl rfl hS) <| qa (fun w' hS => at_look (k := (T_rules_Spot.mk q0d.fat.Layer q0d.fat.X q0d.fat.Y)) um_80 kp_61 (zero1 zv_3) rfl rfl (hS.pull 2) hx150) <|
       q (ymul rfl rfl hx151) <| q (yadd rfl rfl hx152) <|
       q_done fun w' hS => ?_
      replace hFc125 := lv_s hFc125; obtain ⟨q5n, q50, hFc125⟩ := hFc125
      refine o_mapset (k := (T_rules_Spot.mk q0d.fat.Layer q0d.fat.X q0d.fat.Y)) (vf := (Value.int .i64)) (v := x152) um_80 kp_61 rfl rfl rfl (hS.pull 6) q50 (fun w' hS => ?_)
      refine x_done <| ?_
      exact x_inv ⟨q5n, (sinj hFc125), q2c, q3c, q2g, q2h, q1y, ((((((((hS.pull 1).drop.pull 6).pull 1).pull 6).pull 6).pull 6).pull 6).pull 6)⟩
    rintro E w ⟨q1n, rfl, q51, q4p, q4k, q4l, q4m, hS⟩
    replace hFL30 := ar_s hFL30; obtain ⟨x153, hx153, hFL30⟩ := hFL30
    refine x_blk <| x_region <| p (yadd q4m rfl hx153) <| p (yl_move rfl) <|
     x_done <| ?_
    have e_ := sinj hFL30; subst e_
    exact x_inv ⟨kL30, Nat.lt_succ_self _, x153, q1n, hLL30, q51, q4p, q4k, q4l, rfl, (((((((hS.pull 6).pull 6).pull 6).pull 6).pull 6).pull 6).pull 6)⟩
   ·replace hFL30 := it_f hc120 hFL30
    refine x_exitTo _ rfl <| ?_
    have e_ := sinj hFL30; subst e_
    exact x_inv ⟨q1m, hLL30, (((((((hS.pull 1).drop.pull 1).drop.pull 4).pull 4).pull 4).pull 4).pull 4)⟩
  rintro E w ⟨q26, rfl, hS⟩
  refine x_seq <| x_region <| p (yl_assign rfl) <| x_done <| ?_
  have e_ := sinj hF; subst e_
  exact x_return ⟨_, ⟨_, _, rfl, rfl, rfl⟩, rfl, (((((hS.pull 4).pull 4).pull 4).pull 4).pull 4)⟩
attribute [irreducible] P_extract_tree_grow

def P_extract_Elmore_L10 (l_0 : T_rules_Layout) (net1 : Int) : (Int × Int × List (T_rules_Spot × Int) × Int × Int) → Nd ((Int × Int × List (T_rules_Spot × Int) × Int × Int) ⊕ (Int × List (T_rules_Spot × Int) × Int × Int)) := fun (q2, q5, q4, q6, q7) =>
 if q5 < (l_0.Pins.length : Int) then
  nbd (
   nck (inb q5 l_0.Pins.length) <|
   nlv (gt l_0.Pins q5) fun q3 =>
   if q3.Net ≠ net1 then
    nret (q2, q4, q6, q7)
   else
    nlv (mget (T_rules_Spot.mk 0 q3.X q3.Y) q4 0) fun x59 =>
    nar (x59 + q3.Size) fun x62 =>
    nlv (mget (T_rules_Spot.mk 0 q3.X q3.Y) q4 0) fun x63 =>
    nlv (mput (T_rules_Spot.mk 0 q3.X q3.Y) x63 q4) fun q0g =>
    nlv (mput (T_rules_Spot.mk 0 q3.X q3.Y) x62 q0g) fun q0f =>
    nbd (
     if q3.Drive = true then
      nar (q2 + 1) fun x69 =>
      nret (x69, q3.X, q3.Y)
     else
      nret (q2, q6, q7)) fun (q8, q0a, q0b) =>
    nret (q8, q0f, q0a, q0b)) fun (q9, q0c, q0d, q0e) =>
  nar (q5 + 1) fun x70 =>
  nret (Sum.inl (q9, x70, q0c, q0d, q0e))
 else
  nret (Sum.inr (q2, q4, q6, q7))
def P_extract_Elmore_L26 (l_0 : T_rules_Layout) (net1 : Int) (q6 : (Bool × List (T_rules_Spot × Int))) : (List Int × Int) → Nd ((List Int × Int) ⊕ (List Int ⊕ (List Int × Int))) := fun (q2, q3) =>
 if q3 < (l_0.Pins.length : Int) then
  nbs (
   nck (inb q3 l_0.Pins.length) <|
   nlv (gt l_0.Pins q3) fun q4 =>
   if q4.Net ≠ net1 then
    nret (Sum.inl q2)
   else
    nlv (mget (T_rules_Spot.mk 0 q4.X q4.Y) q6.2 0) fun x107 =>
    nlv (mhas (T_rules_Spot.mk 0 q4.X q4.Y) q6.2) fun q107 =>
    if (!q107) = true then
     nret (Sum.inr ([], (18 : Int)))
    else
     nlv (q2 ++ [x107]) fun q7 =>
     nck (apOk 8 q7.length) <|
     nret (Sum.inl q7)) (fun y => nret (Sum.inr (Sum.inr y))) fun q5 =>
  nar (q3 + 1) fun x116 =>
  nret (Sum.inl (q5, x116))
 else
  nret (Sum.inr (Sum.inl q2))
def P_extract_Elmore (l_0 : T_rules_Layout) (net1 : Int) (near2 : Int) : Nd (List Int × Int) :=
 nbd (nof (P_extract_check l_0 net1)) fun q0a =>
 if q0a ≠ 0 then
  nret ([], q0a)
 else
  nlv ((decide (near2 < 0)) || (decide (4 < near2))) fun x31 =>
  if x31 = true then
   nret ([], (1 : Int))
  else
   nbd (
    nlp (P_extract_Elmore_L10 l_0 net1) fuel (0, 0, [], 0, 0)) fun (q2, q3, q4, q5) =>
   if q2 ≠ 1 then
    nret ([], (13 : Int))
   else
    nbd (nof (P_extract_of l_0 net1)) fun q7 =>
    nbd (nof (P_extract_strangers l_0 net1)) fun q0b =>
    nbd (P_extract_tree_fill l_0.W l_0.H l_0.Layers l_0.Nets l_0.Wires l_0.Vias l_0.Pins l_0.Walls [] q3 [] q7.1 q7.2 q0b near2) fun q8 =>
    nbd (nof (P_extract_tree_grow l_0.W l_0.H l_0.Layers l_0.Nets l_0.Wires l_0.Vias l_0.Pins l_0.Walls q8.1 q8.2 [] (T_rules_Spot.mk 0 q4 q5))) fun q9 =>
    if (!q9.1) = true then
     nret ([], (17 : Int))
    else
     nbs (
      nlp (P_extract_Elmore_L26 l_0 net1 q9) fuel ([], 0)) (fun y => nret y) fun q6 =>
     nret (q6, (0 : Int))
theorem c_extract_Elmore {w0 w : World} {l : List Assn} {ρ : Heap} {q4 : Option Addr} {q2i : Nat} {c_l_0_4 : Nat} {q5 : Option Addr} {q2j : Nat} {c_l_0_5 : Nat} {q3 : Option Addr} {q2k : Nat} {c_l_0_6 : Nat} {q6 : Option Addr} {q2l : Nat} {c_l_0_7 : Nat} {l_0 : T_rules_Layout} {net1 : Int} {near2 : Int} {Q : (List Int × Int) → Prop} (hF : P_extract_Elmore l_0 net1 near2 Q) (q10 : RdS R_rules_Wire ρ q4 q2i c_l_0_4 l_0.Wires) (q11 : RdS R_rules_Via ρ q5 q2j c_l_0_5 l_0.Vias) (q0h : RdS R_rules_Pin ρ q3 q2k c_l_0_6 l_0.Pins) (q12 : RdS R_floor_Wall ρ q6 q2l c_l_0_7 l_0.Walls) (hS : St w0 w (ro ρ :: l)) :
  Calls Try.prog 10 #[.agg #[.int .i64 l_0.W, .int .i64 l_0.H, .int .i64 l_0.Layers, .int .i64 l_0.Nets, .slice q4 q2i c_l_0_4, .slice q5 q2j c_l_0_5, .slice q3 q2k c_l_0_6, .slice q6 q2l c_l_0_7], .int .i64 net1, .int .i64 near2] w fun e w' => ∃ r : (List Int × Int), Q r ∧ ∃ (q2d : Option Addr) (q20 : Nat) (c_y0_ret : Nat) (q29 : List Value), e = .returned (.tuple #[.slice q2d q20 c_y0_ret, .int .i64 r.2]) ∧ RepL (RpI .i64) ρ r.1 q29 ∧ St w0 w' (vec 3 (RpI .i64).sz (.slice q2d q20 c_y0_ret) q20 q29 :: ro ρ :: l) := by
 have e_ := q10.n; subst e_
 have e_ := q11.n; subst e_
 have e_ := q0h.n; subst e_
 have e_ := q12.n; subst e_
 refine enterC Try.func10 rfl 118 rfl (by simp) ?_
 refine x_seq <| x_region <| ?_
 refine o_box (cs := [.int .i64 l_0.W, .int .i64 l_0.H, .int .i64 l_0.Layers, .int .i64 l_0.Nets, .slice q4 l_0.Wires.length c_l_0_4, .slice q5 l_0.Vias.length c_l_0_5, .slice q3 l_0.Pins.length c_l_0_6, .slice q6 l_0.Walls.length c_l_0_7]) rfl rfl hS (fun b3 w' hS => ?_)
 replace hF := nbd_s hF; obtain ⟨q26, q3y, hF⟩ := hF
 refine p (yl_assign rfl) <| p (yl_assign rfl) <| x_done <| x_seq <|
  x_seq <| x_region <| pa (v := .agg #[.int .i64 l_0.W, .int .i64 l_0.H, .int .i64 l_0.Layers, .int .i64 l_0.Nets, .slice q4 l_0.Wires.length c_l_0_4, .slice q5 l_0.Vias.length c_l_0_5, .slice q3 l_0.Pins.length c_l_0_6, .slice q6 l_0.Walls.length c_l_0_7]) (ld_sub agg_31 rfl rfl rfl hS) <| p (yl_move rfl) <| ?_
 have hcall := c_extract_check q3y q10 q11 q0h q12 (hS.pull 1)
 refine o_cc call_35 (args2 rfl rfl) ((Calls.mono hcall (fun e w'' h => And.intro h.1 (h.2.pull 1)))) ?_
 rintro e w' ⟨rfl, hS⟩
 refine ⟨_, rfl, ?_⟩
 refine p (v := .int .i64 q26) (yl_assign rfl) <| x_done <| x_seq <| x_region <|
  p (v := .int .i64 q26) (yl_move rfl) <| p (yl_neq rfl rfl) <| x_done <|
  x_cond_p (q26 ≠ 0) rfl (fun hc24 => ?_) (fun hc24 => ?_)
 ·replace hF := nit_t hc24 hF
  refine x_seq <| x_region <| p (v := .int .i64 q26) (yl_move rfl) <| p (yl_assign rfl) <|
   p (v := .int .i64 q26) (yl_assign rfl) <| x_done <| ?_
  replace hS := St.vec_nil hS 3 (RpI .i64).sz
  have q8 : RepL (RpI .i64) ρ [] [] := rfl
  exact x_return ⟨_, ⟨_, _, rfl, rfl, _, _, rfl, rfl, rfl⟩, ([], q26), hF, none, 0, 0, [], rfl, q8, (((hS.pull 1).drop.pull 1).pull 1)⟩
 ·replace hF := nit_f hc24 hF
  replace hF := nlv_s hF; obtain ⟨x31, hx31, hF⟩ := hF
  refine x_skip <| x_seq <| x_seq <| x_region <|
   p (yl_move rfl) <| p (yl_lss rfl rfl) <| p (yl_move rfl) <| pg (v := .int .i64 near2) 28 (c := !(decide (near2 < 0))) (says_f _) (fun hq => Yl.at (yl_move rfl)) <|
   pg (v := .bool (decide (4 < near2))) 28 (c := !(decide (near2 < 0))) (says_f _) (fun hq => Yl.at (yl_gtr (cv hq) rfl)) <| p (yor' rfl rfl (fun hc => (cv (t_not hc))) hx31) <| x_done <|
   x_cond (t := x31) rfl (fun hc31 => ?_) (fun hc31 => ?_)
  ·replace hF := nit_t hc31 hF
   refine x_seq <| x_region <| p (yl_assign rfl) <| p (yl_assign rfl) <|
    x_done <| ?_
   replace hS := St.vec_nil hS 3 (RpI .i64).sz
   have q8 : RepL (RpI .i64) ρ [] [] := rfl
   exact x_return ⟨_, ⟨_, _, rfl, rfl, _, _, rfl, rfl, rfl⟩, ([], (1 : Int)), hF, none, 0, 0, [], rfl, q8, (((hS.pull 1).drop.pull 1).pull 1)⟩
  ·replace hF := nit_bf hc31 hF
   refine x_skip <| x_seq <| x_region <| pa (v := .agg #[.int .i64 l_0.W, .int .i64 l_0.H, .int .i64 l_0.Layers, .int .i64 l_0.Nets, .slice q4 l_0.Wires.length c_l_0_4, .slice q5 l_0.Vias.length c_l_0_5, .slice q3 l_0.Pins.length c_l_0_6, .slice q6 l_0.Walls.length c_l_0_7]) (ld_sub agg_31 rfl rfl rfl hS) <| ?_
   refine o_mkmapS (α := T_extract_step) kf_61 94 R_extract_step hS (fun b33 w' hS => ?_)
   refine o_mkmap (κ := T_rules_Spot) (α := Int) kf_61 (Value.int .i64) hS (fun b34 w' hS => ?_)
   refine o_mkmap (κ := T_rules_Spot) (α := Int) kf_61 (Value.int .i64) hS (fun b35 w' hS => ?_)
   refine p (v := .agg #[.int .i64 l_0.W, .int .i64 l_0.H, .int .i64 l_0.Layers, .int .i64 l_0.Nets, .slice q4 l_0.Wires.length c_l_0_4, .slice q5 l_0.Vias.length c_l_0_5, .slice q3 l_0.Pins.length c_l_0_6, .slice q6 l_0.Walls.length c_l_0_7, .map (some b33), .map (some b34), .map (some b35)]) (yl_build bld_82 bldf_82 (parts_eq (pt (va := .agg #[.int .i64 l_0.W, .int .i64 l_0.H, .int .i64 l_0.Layers, .int .i64 l_0.Nets, .slice q4 l_0.Wires.length c_l_0_4, .slice q5 l_0.Vias.length c_l_0_5, .slice q3 l_0.Pins.length c_l_0_6, .slice q6 l_0.Walls.length c_l_0_7]) rfl (pt (va := .map (some b33)) rfl (pt (va := .map (some b34)) rfl (pt (va := .map (some b35)) rfl pt0))))) (by kernel_rfl)) <| ?_
   refine o_box (cs := [.int .i64 l_0.W, .int .i64 l_0.H, .int .i64 l_0.Layers, .int .i64 l_0.Nets, .slice q4 l_0.Wires.length c_l_0_4, .slice q5 l_0.Vias.length c_l_0_5, .slice q3 l_0.Pins.length c_l_0_6, .slice q6 l_0.Walls.length c_l_0_7, .map (some b33), .map (some b34), .map (some b35)]) rfl rfl hS (fun b37 w' hS => ?_)
   refine p (yl_assign rfl) <| x_done <| x_seq <| x_region <| ?_
   refine o_alloc zero_61 hS (fun b10 w' hS => ?_)
   refine x_done <| x_seq <| x_region <| p (yl_assign rfl) <|
    x_done <| x_seq <| x_seq <| x_region <|
    p (yl_field0 fld_31_6 rfl) <| pa (at_load one_28 rfl ((hS.pull 5).cell rfl)) <| p (yl_len_slice usl_28 rfl) <| p (yl_move rfl) <|
    x_done <| ?_
   replace hF := nbd_j hF; obtain ⟨oL10, hLL10, hF⟩ := hF
   refine x_join (fun E w => ∃ (q0l : Int) (q17 : List (T_rules_Spot × Int)) (q0v : Int) (q0w : Int), oL10 (q0l, q17, q0v, q0w) ∧ E 1 = .int .i64 net1 ∧ E 2 = .int .i64 near2 ∧ E 3 = .pointer (some ⟨b3, 0, none⟩) ∧ E 9 = .pointer (some ⟨b37, 0, none⟩) ∧ E 10 = .pointer (some ⟨b10, 0, none⟩) ∧ E 11 = .int .i64 q0l ∧ St w0 w (cells b3 31 [.int .i64 l_0.W, .int .i64 l_0.H, .int .i64 l_0.Layers, .int .i64 l_0.Nets, .slice q4 l_0.Wires.length c_l_0_4, .slice q5 l_0.Vias.length c_l_0_5, .slice q3 l_0.Pins.length c_l_0_6, .slice q6 l_0.Walls.length c_l_0_7] :: cells b37 82 [.int .i64 l_0.W, .int .i64 l_0.H, .int .i64 l_0.Layers, .int .i64 l_0.Nets, .slice q4 l_0.Wires.length c_l_0_4, .slice q5 l_0.Vias.length c_l_0_5, .slice q3 l_0.Pins.length c_l_0_6, .slice q6 l_0.Walls.length c_l_0_7, .map (some b33), .map (some b34), .map (some b35)] :: cells b10 61 [.int .i64 0, .int .i64 q0v, .int .i64 q0w] :: mapS 94 R_extract_step b33 kf_61 [] :: mapA b34 kf_61 (Value.int .i64) q17 :: mapA b35 kf_61 (Value.int .i64) [] :: ro ρ :: l)) ?_ ?_
   ·refine x_block ?_
    refine x_loop (fun k_ E w => ∃ (q9 : Int) (q0r : Int) (q7 : List (T_rules_Spot × Int)) (q0c : Int) (q0d : Int), nlp (P_extract_Elmore_L10 l_0 net1) k_ (q9, q0r, q7, q0c, q0d) oL10 ∧ E 1 = .int .i64 net1 ∧ E 2 = .int .i64 near2 ∧ E 3 = .pointer (some ⟨b3, 0, none⟩) ∧ E 9 = .pointer (some ⟨b37, 0, none⟩) ∧ E 10 = .pointer (some ⟨b10, 0, none⟩) ∧ E 11 = .int .i64 q9 ∧ E 39 = .slice q3 l_0.Pins.length c_l_0_6 ∧ E 40 = .int .i64 (l_0.Pins.length : Int) ∧ E 41 = .int .i64 q0r ∧ St w0 w (cells b3 31 [.int .i64 l_0.W, .int .i64 l_0.H, .int .i64 l_0.Layers, .int .i64 l_0.Nets, .slice q4 l_0.Wires.length c_l_0_4, .slice q5 l_0.Vias.length c_l_0_5, .slice q3 l_0.Pins.length c_l_0_6, .slice q6 l_0.Walls.length c_l_0_7] :: cells b37 82 [.int .i64 l_0.W, .int .i64 l_0.H, .int .i64 l_0.Layers, .int .i64 l_0.Nets, .slice q4 l_0.Wires.length c_l_0_4, .slice q5 l_0.Vias.length c_l_0_5, .slice q3 l_0.Pins.length c_l_0_6, .slice q6 l_0.Walls.length c_l_0_7, .map (some b33), .map (some b34), .map (some b35)] :: cells b10 61 [.int .i64 0, .int .i64 q0c, .int .i64 q0d] :: mapS 94 R_extract_step b33 kf_61 [] :: mapA b34 kf_61 (Value.int .i64) q7 :: mapA b35 kf_61 (Value.int .i64) [] :: ro ρ :: l)) fuel ⟨0, 0, [], 0, 0, hLL10, rfl, rfl, rfl, rfl, rfl, rfl, rfl, rfl, rfl, (((((((hS.pull 6).pull 3).pull 4).pull 5).pull 4).pull 5).pull 6)⟩ ?_
    rintro kL10 E w ⟨q9, q0r, q7, q0c, q0d, hLL10, q1a, q1k, q1l, q1b, q13, q1d, q1e, q1f, q14, hS⟩
    replace hLL10 := nlp_s hLL10; obtain ⟨kL10, obL10, rfl, hFL10, hLL10⟩ := hLL10
    refine x_seq <| x_region <| p (yl_lss q14 q1f) <| x_done <|
     x_seq <|
     x_cond_p (q0r < (l_0.Pins.length : Int)) rfl (fun hc42 => ?_) (fun hc42 => ?_)
    ·replace hFL10 := nit_t hc42 hFL10
     refine x_skip <| x_seq <| ?_
     replace hFL10 := nbd_j hFL10; obtain ⟨ob1, hFb1, hFL10⟩ := hFL10
     refine x_join (fun E w => ∃ (q0n : Int) (q1g : List (T_rules_Spot × Int)) (q1h : Int) (q1i : Int), ob1 (q0n, q1g, q1h, q1i) ∧ E 1 = .int .i64 net1 ∧ E 2 = .int .i64 near2 ∧ E 3 = .pointer (some ⟨b3, 0, none⟩) ∧ E 9 = .pointer (some ⟨b37, 0, none⟩) ∧ E 10 = .pointer (some ⟨b10, 0, none⟩) ∧ E 11 = .int .i64 q0n ∧ E 39 = .slice q3 l_0.Pins.length c_l_0_6 ∧ E 40 = .int .i64 (l_0.Pins.length : Int) ∧ E 41 = .int .i64 q0r ∧ St w0 w (cells b3 31 [.int .i64 l_0.W, .int .i64 l_0.H, .int .i64 l_0.Layers, .int .i64 l_0.Nets, .slice q4 l_0.Wires.length c_l_0_4, .slice q5 l_0.Vias.length c_l_0_5, .slice q3 l_0.Pins.length c_l_0_6, .slice q6 l_0.Walls.length c_l_0_7] :: cells b37 82 [.int .i64 l_0.W, .int .i64 l_0.H, .int .i64 l_0.Layers, .int .i64 l_0.Nets, .slice q4 l_0.Wires.length c_l_0_4, .slice q5 l_0.Vias.length c_l_0_5, .slice q3 l_0.Pins.length c_l_0_6, .slice q6 l_0.Walls.length c_l_0_7, .map (some b33), .map (some b34), .map (some b35)] :: cells b10 61 [.int .i64 0, .int .i64 q1h, .int .i64 q1i] :: mapS 94 R_extract_step b33 kf_61 [] :: mapA b34 kf_61 (Value.int .i64) q1g :: mapA b35 kf_61 (Value.int .i64) [] :: ro ρ :: l)) ?_ ?_
     ·replace hFb1 := nck_s hFb1; obtain ⟨q2r, hFb1⟩ := hFb1
      replace hFb1 := nlv_s hFb1; obtain ⟨q2, q3a, hFb1⟩ := hFb1
      have q_ := q0h.get q2r; obtain ⟨q45, q2s, q3b⟩ := q_
      rw [← q3a] at q2s
      have e_ := q2s; subst e_
      refine x_block <| x_seq <| x_region <| p (yix_f sl_28 q1e q14 q0h q2r) <|
       pa (v := .agg #[.int .i64 q2.Net, .int .i64 q2.X, .int .i64 q2.Y, .bool q2.Drive, .int .i64 q2.Size]) (at_loadAgg agg_39 rfl rfl (Elt.every q3b (hS.pull 6))) <| ?_
      refine o_alloc zero_39 hS (fun b13 w' hS => ?_)
      refine o_storeAgg (news := [.int .i64 q2.Net, .int .i64 q2.X, .int .i64 q2.Y, .bool q2.Drive, .int .i64 q2.Size]) agg_39 rfl rfl rfl (by simp [over_length]) hS (fun w' hS => ?_)
      refine x_done <| x_seq <| x_seq <| x_region <|
       p (yl_field0 fld_39_0 rfl) <| pa (at_load one_3 rfl (hS.cell rfl)) <| p (yl_move q1a) <| p (yl_neq rfl rfl) <|
       x_done <|
       x_cond_p (q2.Net ≠ net1) rfl (fun hc48 => ?_) (fun hc48 => ?_)
      ·replace hFb1 := nit_t hc48 hFb1
       refine x_exitTo _ rfl <| ?_
       exact x_inv ⟨q9, q7, q0c, q0d, hFb1, q1a, q1k, q1l, q1b, q13, q1d, q1e, q1f, q14, (((((((hS.drop.pull 6).pull 6).pull 6).pull 6).pull 6).pull 6).pull 6)⟩
      ·replace hFb1 := nit_f hc48 hFb1
       refine x_skip <| x_seq <| x_region <| p (yl_field0 fld_39_1 rfl) <|
        pa (at_load one_3 rfl (hS.cell rfl)) <| p (yl_field0 fld_39_2 rfl) <| pa (at_load one_3 rfl (hS.cell rfl)) <| p (v := .agg #[.int .i64 0, .int .i64 q2.X, .int .i64 q2.Y]) (yl_build bld_61 bldf_61 (parts_eq (pt (va := .int .i64 q2.X) rfl (pt (va := .int .i64 q2.Y) rfl pt0))) (by kernel_rfl)) <| ?_
       refine o_alloc zero_61 hS (fun b14 w' hS => ?_)
       refine o_storeAgg (news := [.int .i64 0, .int .i64 q2.X, .int .i64 q2.Y]) agg_61 rfl rfl rfl (by simp [over_length]) hS (fun w' hS => ?_)
       refine x_done <| x_seq <| ?_
       replace hFb1 := nlv_s hFb1; obtain ⟨x59, hx59, hFb1⟩ := hFb1
       replace hFb1 := nar_s hFb1; obtain ⟨x62, hx62, hFb1⟩ := hFb1
       replace hFb1 := nlv_s hFb1; obtain ⟨x63, hx63, hFb1⟩ := hFb1
       replace hFb1 := nlv_s hFb1; obtain ⟨q2m, q2e, hFb1⟩ := hFb1
       replace hFb1 := nlv_s hFb1; obtain ⟨q24, q30, hFb1⟩ := hFb1
       refine x_par (w0 := w0) [⟨[], [], [54], [], [], [], none⟩, ⟨[0], [0], [55], [], [], [], none⟩, ⟨[0, 1], [1], [56], [], [], [], none⟩, ⟨[0, 1, 2], [2], [57], [0], [], [], none⟩, ⟨[], [], [58], [1], [], [], none⟩, ⟨[0, 1, 2, 3, 4], [3, 4], [59], [], [], [], some (2, 4)⟩, ⟨[], [], [60], [], [], [], none⟩, ⟨[6], [6], [61], [3], [], [], none⟩, ⟨[0, 1, 2, 3, 4, 5, 6, 7], [5, 7], [62], [], [], [], none⟩, ⟨[0, 1, 2, 3, 4, 6, 7], [3, 4], [63], [], [2], [4], none⟩, ⟨[0, 1, 2, 3, 4, 6, 7, 9], [9], [64], [], [], [], none⟩, ⟨[0, 1, 2, 3, 4, 5, 6, 7, 8, 9, 10], [3, 8, 10], [], [], [4], [5], none⟩] [⟨none, none, []⟩, ⟨none, none, []⟩, ⟨none, (some 9), []⟩, ⟨none, none, []⟩, ⟨(some 9), (some 11), []⟩, ⟨(some 11), none, []⟩] [54, 55, 56, 57, 58, 59, 60, 61, 62, 63, 64] [0, 1, 2, 3] [0, 1, 3, 5] [0, 1, 2, 3, 4, 5, 6, 7, 8, 9, 10] [fun Ep14 => Ep14 54 = .pointer (some ⟨b37, 0, none⟩), fun Ep14 => Ep14 55 = .pointer (some ⟨b37, 0, none⟩), fun Ep14 => Ep14 56 = .pointer (some ⟨b37, 9, none⟩), fun Ep14 => Ep14 57 = .map (some b34), fun Ep14 => Ep14 58 = .agg #[.int .i64 0, .int .i64 q2.X, .int .i64 q2.Y], fun Ep14 => Ep14 59 = .int .i64 x59, fun Ep14 => Ep14 60 = .pointer (some ⟨b13, 4, none⟩), fun Ep14 => Ep14 61 = .int .i64 q2.Size, fun Ep14 => Ep14 62 = .int .i64 x62, fun Ep14 => Ep14 63 = .tuple #[.int .i64 x63, .int .i64 ((mpos (T_rules_Spot.mk 0 q2.X q2.Y) q7 : Nat) : Int)], fun Ep14 => Ep14 64 = .int .i64 ((mpos (T_rules_Spot.mk 0 q2.X q2.Y) q7 : Nat) : Int), fun Ep14 => True] [fun Ep14 => cells b37 82 [.int .i64 l_0.W, .int .i64 l_0.H, .int .i64 l_0.Layers, .int .i64 l_0.Nets, .slice q4 l_0.Wires.length c_l_0_4, .slice q5 l_0.Vias.length c_l_0_5, .slice q3 l_0.Pins.length c_l_0_6, .slice q6 l_0.Walls.length c_l_0_7, .map (some b33), .map (some b34), .map (some b35)], fun Ep14 => cells b14 61 [.int .i64 0, .int .i64 q2.X, .int .i64 q2.Y], fun Ep14 => mapA b34 kf_61 (Value.int .i64) q7, fun Ep14 => cells b13 39 [.int .i64 q2.Net, .int .i64 q2.X, .int .i64 q2.Y, .bool q2.Drive, .int .i64 q2.Size], fun Ep14 => mapA b34 kf_61 (Value.int .i64) q2m, fun Ep14 => mapA b34 kf_61 (Value.int .i64) q24] mixed (by kernel_rfl) ((((hS.pull 1).pull 6).pull 2).pull 4) ?_ ?_
       ·refine ⟨?_, ?_, ?_, ?_, ?_, ?_, ?_, ?_, ?_, ?_, ?_, ?_, trivial⟩
        ·intro Ep14 w l' hE14 hO14 hF_ hS
         refine p (yl_move ((hE14 9 rfl).trans q1b)) <| x_done <| ?_
         refine x_fin ⟨⟨_, rfl⟩, rfl, ?_⟩
         exact emk hS
        ·intro Ep14 w l' hE14 hO14 hF_ hS
         obtain ⟨q1m, -⟩ := hF_
         replace q1m : Ep14 54 = .pointer (some ⟨b37, 0, none⟩) := emk q1m
         refine p (yl_nilCheck q1m) <| x_done <| ?_
         refine x_fin ⟨⟨_, rfl⟩, rfl, ?_⟩
         exact emk hS
        ·intro Ep14 w l' hE14 hO14 hF_ hS
         obtain ⟨q1n, -⟩ := hF_
         replace q1n : Ep14 55 = .pointer (some ⟨b37, 0, none⟩) := emk q1n
         refine p (yl_field0 fld_82_2 q1n) <| x_done <| ?_
         refine x_fin ⟨⟨_, rfl⟩, rfl, ?_⟩
         exact emk hS
        ·intro Ep14 w l' hE14 hO14 hF_ hS
         obtain ⟨q1o, -⟩ := hF_
         replace q1o : Ep14 56 = .pointer (some ⟨b37, 9, none⟩) := emk q1o
         replace hS : St w0 w (cells b37 82 [.int .i64 l_0.W, .int .i64 l_0.H, .int .i64 l_0.Layers, .int .i64 l_0.Nets, .slice q4 l_0.Wires.length c_l_0_4, .slice q5 l_0.Vias.length c_l_0_5, .slice q3 l_0.Pins.length c_l_0_6, .slice q6 l_0.Walls.length c_l_0_7, .map (some b33), .map (some b34), .map (some b35)] :: l') := emk hS
         refine pa (at_load one_80 q1o (hS.cell rfl)) <| x_done <| ?_
         refine x_fin ⟨⟨_, rfl⟩, rfl, ?_⟩
         exact emk hS
        ·intro Ep14 w l' hE14 hO14 hF_ hS
         replace hS : St w0 w (cells b14 61 [.int .i64 0, .int .i64 q2.X, .int .i64 q2.Y] :: l') := emk hS
         refine pa (v := .agg #[.int .i64 0, .int .i64 q2.X, .int .i64 q2.Y]) (ld_sub agg_61 (hE14 14 rfl) rfl rfl hS) <| x_done <| ?_
         refine x_fin ⟨⟨_, rfl⟩, rfl, ?_⟩
         exact emk hS
        ·refine ⟨?_, ?_⟩
         ·intro Ep14 w l' hE14 hO14 hF_ hS
          obtain ⟨q0a, q0i, -⟩ := hF_
          replace q0a : Ep14 57 = .map (some b34) := emk q0a
          replace q0i : Ep14 58 = .agg #[.int .i64 0, .int .i64 q2.X, .int .i64 q2.Y] := emk q0i
          replace hS : St w0 w (mapA b34 kf_61 (Value.int .i64) q7 :: l') := emk hS
          refine pa (at_look (k := (T_rules_Spot.mk 0 q2.X q2.Y)) um_80 kp_61 (zero1 zv_3) q0a q0i hS hx59) <| x_done <| ?_
          refine x_fin ⟨⟨_, rfl⟩, rfl, ?_⟩
          exact emk hS
         ·intro Ep14 w l' hE14 hO14 hF_ hS
          obtain ⟨q0a, q0i, -⟩ := hF_
          replace q0a : Ep14 57 = .map (some b34) := emk q0a
          replace q0i : Ep14 58 = .agg #[.int .i64 0, .int .i64 q2.X, .int .i64 q2.Y] := emk q0i
          replace hS : St w0 w (mapA b34 kf_61 (Value.int .i64) q2m :: l') := emk hS
          refine pa (at_look (k := (T_rules_Spot.mk 0 q2.X q2.Y)) um_80 kp_61 (zero1 zv_3) q0a q0i hS (hx59.trans (mget_ent q2e hx63).symm)) <| x_done <| ?_
          refine x_fin ⟨⟨_, rfl⟩, rfl, ?_⟩
          exact emk hS
        ·intro Ep14 w l' hE14 hO14 hF_ hS
         refine p (yl_field0 fld_39_4 (hE14 13 rfl)) <| x_done <| ?_
         refine x_fin ⟨⟨_, rfl⟩, rfl, ?_⟩
         exact emk hS
        ·intro Ep14 w l' hE14 hO14 hF_ hS
         obtain ⟨q1p, -⟩ := hF_
         replace q1p : Ep14 60 = .pointer (some ⟨b13, 4, none⟩) := emk q1p
         replace hS : St w0 w (cells b13 39 [.int .i64 q2.Net, .int .i64 q2.X, .int .i64 q2.Y, .bool q2.Drive, .int .i64 q2.Size] :: l') := emk hS
         refine pa (at_load one_3 q1p (hS.cell rfl)) <| x_done <| ?_
         refine x_fin ⟨⟨_, rfl⟩, rfl, ?_⟩
         exact emk hS
        ·intro Ep14 w l' hE14 hO14 hF_ hS
         obtain ⟨q1q, q1r, -⟩ := hF_
         replace q1q : Ep14 59 = .int .i64 x59 := emk q1q
         replace q1r : Ep14 61 = .int .i64 q2.Size := emk q1r
         refine p (yadd q1q q1r hx62) <| x_done <| ?_
         refine x_fin ⟨⟨_, rfl⟩, rfl, ?_⟩
         exact emk hS
        ·intro Ep14 w l' hE14 hO14 hF_ hS
         obtain ⟨q0a, q0i, -⟩ := hF_
         replace q0a : Ep14 57 = .map (some b34) := emk q0a
         replace q0i : Ep14 58 = .agg #[.int .i64 0, .int .i64 q2.X, .int .i64 q2.Y] := emk q0i
         replace hS : St w0 w (mapA b34 kf_61 (Value.int .i64) q7 :: l') := emk hS
         refine o_mapEntry (k := (T_rules_Spot.mk 0 q2.X q2.Y)) (vf := (Value.int .i64)) um_80 kp_61 (zero1 zv_3) q0a q0i hS hx63 q2e (fun w' hS => ?_)
         refine x_done <| ?_
         refine x_fin ⟨⟨_, rfl⟩, rfl, ?_⟩
         exact emk hS
        ·intro Ep14 w l' hE14 hO14 hF_ hS
         obtain ⟨q1s, -⟩ := hF_
         replace q1s : Ep14 63 = .tuple #[.int .i64 x63, .int .i64 ((mpos (T_rules_Spot.mk 0 q2.X q2.Y) q7 : Nat) : Int)] := emk q1s
         refine p (yl_extract q1s rfl) <| x_done <| ?_
         refine x_fin ⟨⟨_, rfl⟩, rfl, ?_⟩
         exact emk hS
        ·intro Ep14 w l' hE14 hO14 hF_ hS
         obtain ⟨q0a, q1t, q1c, -⟩ := hF_
         replace q0a : Ep14 57 = .map (some b34) := emk q0a
         replace q1t : Ep14 62 = .int .i64 x62 := emk q1t
         replace q1c : Ep14 64 = .int .i64 ((mpos (T_rules_Spot.mk 0 q2.X q2.Y) q7 : Nat) : Int) := emk q1c
         replace hS : St w0 w (mapA b34 kf_61 (Value.int .i64) q2m :: l') := emk hS
         refine o_entryStore (k := (T_rules_Spot.mk 0 q2.X q2.Y)) (es := q7) (v0 := x63) (vf := (Value.int .i64)) (v := x62) q0a q1c q1t rfl q2e hS q30 (fun w' hS => ?_)
         refine x_done <| ?_
         refine x_fin ⟨⟨undef, rfl⟩, trivial, ?_⟩
         exact emk hS
       intro Ep14 w' hE14 hF_ hS
       obtain ⟨q1m, q1n, q1o, q0a, q0i, q1q, q1p, q1r, q1t, q1s, q1c, -⟩ := hF_
       replace q1m : Ep14 54 = .pointer (some ⟨b37, 0, none⟩) := emk q1m
       replace q1n : Ep14 55 = .pointer (some ⟨b37, 0, none⟩) := emk q1n
       replace q1o : Ep14 56 = .pointer (some ⟨b37, 9, none⟩) := emk q1o
       replace q0a : Ep14 57 = .map (some b34) := emk q0a
       replace q0i : Ep14 58 = .agg #[.int .i64 0, .int .i64 q2.X, .int .i64 q2.Y] := emk q0i
       replace q1q : Ep14 59 = .int .i64 x59 := emk q1q
       replace q1p : Ep14 60 = .pointer (some ⟨b13, 4, none⟩) := emk q1p
       replace q1r : Ep14 61 = .int .i64 q2.Size := emk q1r
       replace q1t : Ep14 62 = .int .i64 x62 := emk q1t
       replace q1s : Ep14 63 = .tuple #[.int .i64 x63, .int .i64 ((mpos (T_rules_Spot.mk 0 q2.X q2.Y) q7 : Nat) : Int)] := emk q1s
       replace q1c : Ep14 64 = .int .i64 ((mpos (T_rules_Spot.mk 0 q2.X q2.Y) q7 : Nat) : Int) := emk q1c
       replace hS : St w0 w' (cells b37 82 [.int .i64 l_0.W, .int .i64 l_0.H, .int .i64 l_0.Layers, .int .i64 l_0.Nets, .slice q4 l_0.Wires.length c_l_0_4, .slice q5 l_0.Vias.length c_l_0_5, .slice q3 l_0.Pins.length c_l_0_6, .slice q6 l_0.Walls.length c_l_0_7, .map (some b33), .map (some b34), .map (some b35)] :: cells b14 61 [.int .i64 0, .int .i64 q2.X, .int .i64 q2.Y] :: cells b13 39 [.int .i64 q2.Net, .int .i64 q2.X, .int .i64 q2.Y, .bool q2.Drive, .int .i64 q2.Size] :: mapA b34 kf_61 (Value.int .i64) q24 :: (cells b3 31 [.int .i64 l_0.W, .int .i64 l_0.H, .int .i64 l_0.Layers, .int .i64 l_0.Nets, .slice q4 l_0.Wires.length c_l_0_4, .slice q5 l_0.Vias.length c_l_0_5, .slice q3 l_0.Pins.length c_l_0_6, .slice q6 l_0.Walls.length c_l_0_7] :: cells b10 61 [.int .i64 0, .int .i64 q0c, .int .i64 q0d] :: mapS 94 R_extract_step b33 kf_61 [] :: mapA b35 kf_61 (Value.int .i64) [] :: ro ρ :: l)) := emk hS
       refine x_seq <| x_region <| p (yl_field0 fld_39_3 (hE14 13 rfl)) <| pa (at_load one_4 rfl ((hS.pull 2).cell rfl)) <|
        x_done <| ?_
       replace hFb1 := nbd_j hFb1; obtain ⟨oc66, hFc66, hFb1⟩ := hFb1
       refine x_join (fun E w => ∃ (q0m : Int) (q18 : Int) (q19 : Int), oc66 (q0m, q18, q19) ∧ E 1 = .int .i64 net1 ∧ E 2 = .int .i64 near2 ∧ E 3 = .pointer (some ⟨b3, 0, none⟩) ∧ E 9 = .pointer (some ⟨b37, 0, none⟩) ∧ E 10 = .pointer (some ⟨b10, 0, none⟩) ∧ E 11 = .int .i64 q0m ∧ E 39 = .slice q3 l_0.Pins.length c_l_0_6 ∧ E 40 = .int .i64 (l_0.Pins.length : Int) ∧ E 41 = .int .i64 q0r ∧ St w0 w (cells b3 31 [.int .i64 l_0.W, .int .i64 l_0.H, .int .i64 l_0.Layers, .int .i64 l_0.Nets, .slice q4 l_0.Wires.length c_l_0_4, .slice q5 l_0.Vias.length c_l_0_5, .slice q3 l_0.Pins.length c_l_0_6, .slice q6 l_0.Walls.length c_l_0_7] :: cells b37 82 [.int .i64 l_0.W, .int .i64 l_0.H, .int .i64 l_0.Layers, .int .i64 l_0.Nets, .slice q4 l_0.Wires.length c_l_0_4, .slice q5 l_0.Vias.length c_l_0_5, .slice q3 l_0.Pins.length c_l_0_6, .slice q6 l_0.Walls.length c_l_0_7, .map (some b33), .map (some b34), .map (some b35)] :: cells b10 61 [.int .i64 0, .int .i64 q18, .int .i64 q19] :: mapS 94 R_extract_step b33 kf_61 [] :: mapA b34 kf_61 (Value.int .i64) q24 :: mapA b35 kf_61 (Value.int .i64) [] :: ro ρ :: l)) ?_ ?_
       ·refine x_cond (t := q2.Drive) rfl (fun hc66 => ?_) (fun hc66 => ?_)
        ·replace hFc66 := nit_t hc66 hFc66
         refine x_seq <| x_region <| pa (v := .agg #[.int .i64 0, .int .i64 q2.X, .int .i64 q2.Y]) (ld_sub agg_61 (hE14 14 rfl) rfl rfl (hS.pull 1)) <| ?_
         refine o_storeAgg (news := [.int .i64 0, .int .i64 q2.X, .int .i64 q2.Y]) agg_61 ((hE14 10 rfl).trans q13) rfl rfl (by simp [over_length]) (hS.pull 5) (fun w' hS => ?_)
         replace hFc66 := nar_s hFc66; obtain ⟨x69, hx69, hFc66⟩ := hFc66
         refine x_done <| x_region <| p (yl_move ((hE14 11 rfl).trans q1d)) <| p (yadd rfl rfl hx69) <|
          p (yl_assign rfl) <| x_done <| ?_
         exact x_inv ⟨x69, q2.X, q2.Y, hFc66, ((hE14 1 rfl).trans q1a), ((hE14 2 rfl).trans q1k), ((hE14 3 rfl).trans q1l), ((hE14 9 rfl).trans q1b), ((hE14 10 rfl).trans q13), rfl, ((hE14 39 rfl).trans q1e), ((hE14 40 rfl).trans q1f), ((hE14 41 rfl).trans q14), (((((((((hS.pull 2).drop.pull 2).drop.pull 6).pull 6).pull 4).pull 6).pull 4).pull 5).pull 6)⟩
        ·replace hFc66 := nit_bf hc66 hFc66
         refine x_skip <| ?_
         exact x_inv ⟨q9, q0c, q0d, hFc66, ((hE14 1 rfl).trans q1a), ((hE14 2 rfl).trans q1k), ((hE14 3 rfl).trans q1l), ((hE14 9 rfl).trans q1b), ((hE14 10 rfl).trans q13), ((hE14 11 rfl).trans q1d), ((hE14 39 rfl).trans q1e), ((hE14 40 rfl).trans q1f), ((hE14 41 rfl).trans q14), (((((((((hS.pull 1).drop.pull 1).drop.pull 6).pull 6).pull 3).pull 6).pull 6).pull 5).pull 6)⟩
       rintro E w ⟨q0m, q18, q19, hq_, q3c, q3d, q3e, q3f, q31, q32, q33, q34, q35, hS⟩
       replace hFb1 := hFb1 _ hq_
       clear hq_
       refine x_blk <| ?_
       exact x_inv ⟨q0m, q24, q18, q19, hFb1, q3c, q3d, q3e, q3f, q31, q32, q33, q34, q35, (((((((hS.pull 6).pull 6).pull 6).pull 6).pull 6).pull 6).pull 6)⟩
     rintro E w ⟨q0n, q1g, q1h, q1i, hq_, q3z, q40, q41, q42, q3g, q3h, q3i, q3j, q3k, hS⟩
     replace hFL10 := hFL10 _ hq_
     clear hq_
     replace hFL10 := nar_s hFL10; obtain ⟨x70, hx70, hFL10⟩ := hFL10
     refine x_region <| p (yadd q3k rfl hx70) <| p (yl_move rfl) <| x_done <| ?_
     exact x_inv ⟨kL10, Nat.lt_succ_self _, q0n, x70, q1g, q1h, q1i, (hLL10 _ hFL10), q3z, q40, q41, q42, q3g, q3h, q3i, q3j, rfl, (((((((hS.pull 6).pull 6).pull 6).pull 6).pull 6).pull 6).pull 6)⟩
    ·replace hFL10 := nit_f hc42 hFL10
     refine x_exitTo _ rfl <| ?_
     exact x_inv ⟨q9, q7, q0c, q0d, (hLL10 _ hFL10), q1a, q1k, q1l, q1b, q13, q1d, (((((((hS.pull 6).pull 6).pull 6).pull 6).pull 6).pull 6).pull 6)⟩
   rintro E w ⟨q0l, q17, q0v, q0w, hq_, q2f, q3l, q2g, q2h, q36, q37, hS⟩
   replace hF := hF _ hq_
   clear hq_
   refine x_seq <| x_seq <| x_region <| p (yl_move q37) <|
    p (yl_neq rfl rfl) <| x_done <|
    x_cond_p (q0l ≠ 1) rfl (fun hc72 => ?_) (fun hc72 => ?_)
   ·replace hF := nit_t hc72 hF
    refine x_seq <| x_region <| p (yl_assign rfl) <| p (yl_assign rfl) <|
     x_done <| ?_
    replace hS := St.vec_nil hS 3 (RpI .i64).sz
    have q8 : RepL (RpI .i64) ρ [] [] := rfl
    exact x_return ⟨_, ⟨_, _, rfl, rfl, _, _, rfl, rfl, rfl⟩, ([], (13 : Int)), hF, none, 0, 0, [], rfl, q8, ((((((((hS.pull 1).drop.pull 1).drop.pull 1).drop.pull 1).drop.pull 1).drop.pull 1).drop.pull 1).pull 1)⟩
   ·replace hF := nit_f hc72 hF
    refine x_skip <| x_seq <| ?_
    replace hF := nbd_s hF; obtain ⟨q2a, q3m, hF⟩ := hF
    replace hF := nbd_s hF; obtain ⟨q2w, q3n, hF⟩ := hF
    refine x_parL 8 _ (w0 := w0) [⟨[], [], [73], [], [], [], none⟩, ⟨[], [], [74], [0], [], [], none⟩, ⟨[], [], [75], [], [], [], none⟩, ⟨[1, 2], [1, 2], [76], [1], [], [2, 3], none⟩, ⟨[], [], [77], [0], [], [], none⟩, ⟨[], [], [78], [], [], [], none⟩, ⟨[1, 2, 3, 4, 5], [4, 5], [79], [1], [], [4], none⟩, ⟨[], [], [80], [], [], [], none⟩, ⟨[0, 1, 2, 3, 4, 5, 6, 7], [], [], [], [], [], none⟩] [⟨none, none, []⟩, ⟨none, none, []⟩, ⟨(some 3), none, [76]⟩, ⟨(some 3), none, [76]⟩, ⟨(some 6), none, [79]⟩] [73, 74, 75, 76, 77, 78, 79, 80, 81] [0, 1] [0, 1, 2, 3, 4] [0, 1, 2, 3, 4, 5, 6, 7] [fun Ep21 => Ep21 73 = .pointer (some ⟨b37, 0, none⟩), fun Ep21 => Ep21 74 = .agg #[.int .i64 l_0.W, .int .i64 l_0.H, .int .i64 l_0.Layers, .int .i64 l_0.Nets, .slice q4 l_0.Wires.length c_l_0_4, .slice q5 l_0.Vias.length c_l_0_5, .slice q3 l_0.Pins.length c_l_0_6, .slice q6 l_0.Walls.length c_l_0_7], fun Ep21 => Ep21 75 = .int .i64 net1, fun Ep21 => Ep21 76 = .agg #[.map (some (mblkOf (partOf 0 (Ep21 76)))), .map (some (mblkOf (partOf 1 (Ep21 76))))], fun Ep21 => Ep21 77 = .agg #[.int .i64 l_0.W, .int .i64 l_0.H, .int .i64 l_0.Layers, .int .i64 l_0.Nets, .slice q4 l_0.Wires.length c_l_0_4, .slice q5 l_0.Vias.length c_l_0_5, .slice q3 l_0.Pins.length c_l_0_6, .slice q6 l_0.Walls.length c_l_0_7], fun Ep21 => Ep21 78 = .int .i64 net1, fun Ep21 => Ep21 79 = .map (some (mblkOf (Ep21 79))), fun Ep21 => Ep21 80 = .int .i64 near2] [fun Ep21 => cells b3 31 [.int .i64 l_0.W, .int .i64 l_0.H, .int .i64 l_0.Layers, .int .i64 l_0.Nets, .slice q4 l_0.Wires.length c_l_0_4, .slice q5 l_0.Vias.length c_l_0_5, .slice q3 l_0.Pins.length c_l_0_6, .slice q6 l_0.Walls.length c_l_0_7], fun Ep21 => ro ρ, fun Ep21 => mapA (mblkOf (partOf 0 (Ep21 76))) kf_61 Value.bool q2a.1, fun Ep21 => mapA (mblkOf (partOf 1 (Ep21 76))) kf_94 Value.bool q2a.2, fun Ep21 => mapA (mblkOf (Ep21 79)) kf_61 Value.bool q2w] mixed (by kernel_rfl) rfl ((hS.pull 6).pull 1) ?_ ?_
    ·refine ⟨?_, ?_, ?_, ?_, ?_, ?_, ?_, ?_, trivial⟩
     ·intro Ep21 w l' hE21 hO21 hF_ hS
      refine p (yl_move ((hE21 9 rfl).trans q2h)) <| x_done <| ?_
      refine x_fin ⟨⟨_, rfl⟩, rfl, ?_⟩
      exact emk hS
     ·intro Ep21 w l' hE21 hO21 hF_ hS
      replace hS : St w0 w (cells b3 31 [.int .i64 l_0.W, .int .i64 l_0.H, .int .i64 l_0.Layers, .int .i64 l_0.Nets, .slice q4 l_0.Wires.length c_l_0_4, .slice q5 l_0.Vias.length c_l_0_5, .slice q3 l_0.Pins.length c_l_0_6, .slice q6 l_0.Walls.length c_l_0_7] :: l') := emk hS
      refine pa (v := .agg #[.int .i64 l_0.W, .int .i64 l_0.H, .int .i64 l_0.Layers, .int .i64 l_0.Nets, .slice q4 l_0.Wires.length c_l_0_4, .slice q5 l_0.Vias.length c_l_0_5, .slice q3 l_0.Pins.length c_l_0_6, .slice q6 l_0.Walls.length c_l_0_7]) (ld_sub agg_31 ((hE21 3 rfl).trans q2g) rfl rfl hS) <| x_done <| ?_
      refine x_fin ⟨⟨_, rfl⟩, rfl, ?_⟩
      exact emk hS
     ·intro Ep21 w l' hE21 hO21 hF_ hS
      refine p (yl_move ((hE21 1 rfl).trans q2f)) <| x_done <| ?_
      refine x_fin ⟨⟨_, rfl⟩, rfl, ?_⟩
      exact emk hS
     ·intro Ep21 w l' hE21 hO21 hF_ hS
      obtain ⟨q1u, q1v, -⟩ := hF_
      replace q1u : Ep21 74 = .agg #[.int .i64 l_0.W, .int .i64 l_0.H, .int .i64 l_0.Layers, .int .i64 l_0.Nets, .slice q4 l_0.Wires.length c_l_0_4, .slice q5 l_0.Vias.length c_l_0_5, .slice q3 l_0.Pins.length c_l_0_6, .slice q6 l_0.Walls.length c_l_0_7] := emk q1u
      replace q1v : Ep21 75 = .int .i64 net1 := emk q1v
      replace hS : St w0 w (ro ρ :: l') := emk hS
      have hcall := c_extract_of q3m q10 q11 q0h q12 hS
      refine o_cc call_37 (args2 q1u q1v) hcall ?_
      rintro e w' ⟨q2x, q2y, rfl, hS⟩
      refine ⟨_, rfl, ?_⟩
      refine x_done <| ?_
      refine x_fin ⟨⟨_, rfl⟩, rfl, ?_⟩
      exact emk (((hS.pull 1).pull 1).pull 2)
     ·intro Ep21 w l' hE21 hO21 hF_ hS
      replace hS : St w0 w (cells b3 31 [.int .i64 l_0.W, .int .i64 l_0.H, .int .i64 l_0.Layers, .int .i64 l_0.Nets, .slice q4 l_0.Wires.length c_l_0_4, .slice q5 l_0.Vias.length c_l_0_5, .slice q3 l_0.Pins.length c_l_0_6, .slice q6 l_0.Walls.length c_l_0_7] :: l') := emk hS
      refine pa (v := .agg #[.int .i64 l_0.W, .int .i64 l_0.H, .int .i64 l_0.Layers, .int .i64 l_0.Nets, .slice q4 l_0.Wires.length c_l_0_4, .slice q5 l_0.Vias.length c_l_0_5, .slice q3 l_0.Pins.length c_l_0_6, .slice q6 l_0.Walls.length c_l_0_7]) (ld_sub agg_31 ((hE21 3 rfl).trans q2g) rfl rfl hS) <| x_done <| ?_
      refine x_fin ⟨⟨_, rfl⟩, rfl, ?_⟩
      exact emk hS
     ·intro Ep21 w l' hE21 hO21 hF_ hS
      refine p (yl_move ((hE21 1 rfl).trans q2f)) <| x_done <| ?_
      refine x_fin ⟨⟨_, rfl⟩, rfl, ?_⟩
      exact emk hS
     ·intro Ep21 w l' hE21 hO21 hF_ hS
      obtain ⟨q1w, q1x, -⟩ := hF_
      replace q1w : Ep21 77 = .agg #[.int .i64 l_0.W, .int .i64 l_0.H, .int .i64 l_0.Layers, .int .i64 l_0.Nets, .slice q4 l_0.Wires.length c_l_0_4, .slice q5 l_0.Vias.length c_l_0_5, .slice q3 l_0.Pins.length c_l_0_6, .slice q6 l_0.Walls.length c_l_0_7] := emk q1w
      replace q1x : Ep21 78 = .int .i64 net1 := emk q1x
      replace hS : St w0 w (ro ρ :: l') := emk hS
      have hcall := c_extract_strangers q3n q10 q11 q0h q12 hS
      refine o_cc call_38 (args2 q1w q1x) hcall ?_
      rintro e w' ⟨q39, rfl, hS⟩
      refine ⟨_, rfl, ?_⟩
      refine x_done <| ?_
      refine x_fin ⟨⟨_, rfl⟩, rfl, ?_⟩
      exact emk (hS.pull 1)
     ·intro Ep21 w l' hE21 hO21 hF_ hS
      refine p (yl_move ((hE21 2 rfl).trans q3l)) <| x_done <| ?_
      refine x_fin ⟨⟨_, rfl⟩, rfl, ?_⟩
      exact emk hS
    intro Ep21 w' hE21 hF_ hS
    obtain ⟨q2n, q1u, q1v, q2o, q1w, q1x, q2p, q2q, -⟩ := hF_
    replace q2n : Ep21 73 = .pointer (some ⟨b37, 0, none⟩) := emk q2n
    replace q1u : Ep21 74 = .agg #[.int .i64 l_0.W, .int .i64 l_0.H, .int .i64 l_0.Layers, .int .i64 l_0.Nets, .slice q4 l_0.Wires.length c_l_0_4, .slice q5 l_0.Vias.length c_l_0_5, .slice q3 l_0.Pins.length c_l_0_6, .slice q6 l_0.Walls.length c_l_0_7] := emk q1u
    replace q1v : Ep21 75 = .int .i64 net1 := emk q1v
    replace q2o : Ep21 76 = .agg #[.map (some (mblkOf (partOf 0 (Ep21 76)))), .map (some (mblkOf (partOf 1 (Ep21 76))))] := emk q2o
    replace q1w : Ep21 77 = .agg #[.int .i64 l_0.W, .int .i64 l_0.H, .int .i64 l_0.Layers, .int .i64 l_0.Nets, .slice q4 l_0.Wires.length c_l_0_4, .slice q5 l_0.Vias.length c_l_0_5, .slice q3 l_0.Pins.length c_l_0_6, .slice q6 l_0.Walls.length c_l_0_7] := emk q1w
    replace q1x : Ep21 78 = .int .i64 net1 := emk q1x
    replace q2p : Ep21 79 = .map (some (mblkOf (Ep21 79))) := emk q2p
    replace q2q : Ep21 80 = .int .i64 near2 := emk q2q
    replace hS : St w0 w' (cells b3 31 [.int .i64 l_0.W, .int .i64 l_0.H, .int .i64 l_0.Layers, .int .i64 l_0.Nets, .slice q4 l_0.Wires.length c_l_0_4, .slice q5 l_0.Vias.length c_l_0_5, .slice q3 l_0.Pins.length c_l_0_6, .slice q6 l_0.Walls.length c_l_0_7] :: ro ρ :: mapA (mblkOf (partOf 0 (Ep21 76))) kf_61 Value.bool q2a.1 :: mapA (mblkOf (partOf 1 (Ep21 76))) kf_94 Value.bool q2a.2 :: mapA (mblkOf (Ep21 79)) kf_61 Value.bool q2w :: (cells b37 82 [.int .i64 l_0.W, .int .i64 l_0.H, .int .i64 l_0.Layers, .int .i64 l_0.Nets, .slice q4 l_0.Wires.length c_l_0_4, .slice q5 l_0.Vias.length c_l_0_5, .slice q3 l_0.Pins.length c_l_0_6, .slice q6 l_0.Walls.length c_l_0_7, .map (some b33), .map (some b34), .map (some b35)] :: cells b10 61 [.int .i64 0, .int .i64 q0v, .int .i64 q0w] :: mapS 94 R_extract_step b33 kf_61 [] :: mapA b34 kf_61 (Value.int .i64) q17 :: mapA b35 kf_61 (Value.int .i64) [] :: l)) := emk hS
    have hcall := c_extract_tree_fill (nbd_c hF) q10 q11 q0h q12 ((((((((hS.pull 1).pull 4).pull 4).pull 4).pull 9).pull 9).pull 9).pull 8)
    refine o_cc call_36 (args4 q2n q2o q2p q2q) hcall ?_
    rintro e w' ⟨q2b, hF, rfl, hS⟩
    refine ⟨_, rfl, ?_⟩
    refine x_done <| x_seq <| x_seq <| x_region <|
     p (yl_move ((hE21 9 rfl).trans q2h)) <| pa (v := .agg #[.int .i64 0, .int .i64 q0v, .int .i64 q0w]) (ld_sub agg_61 ((hE21 10 rfl).trans q36) rfl rfl (hS.pull 9)) <| ?_
    have q_ := St.mapS_fz ((hS.pull 7).pull 2); obtain ⟨q0k, q2t, q0e, q3o, hS⟩ := q_
    replace hF := nbd_s hF; obtain ⟨q2c, q3p, hF⟩ := hF
    have hcall := c_extract_tree_grow q3p (q10.le q0e) (q11.le q0e) (q0h.le q0e) (q12.le q0e) q3o (((((hS.pull 1).pull 4).pull 4).pull 3).pull 4)
    refine o_cc call_39 (args2 rfl rfl) hcall ?_
    rintro e w' ⟨rfl, hS⟩
    refine ⟨_, rfl, ?_⟩
    refine p (yl_not rfl) <| x_done <|
     x_cond (t := !q2c.1) rfl (fun hc85 => ?_) (fun hc85 => ?_)
    ·replace hF := nit_t hc85 hF
     refine x_seq <| x_region <| p (yl_assign rfl) <| p (yl_assign rfl) <|
      x_done <| ?_
     replace hS := St.vec_nil hS 3 (RpI .i64).sz
     have q8 : RepL (RpI .i64) q0k [] [] := rfl
     exact x_return ⟨_, ⟨_, _, rfl, rfl, _, _, rfl, rfl, rfl⟩, ([], (17 : Int)), hF, none, 0, 0, [], rfl, (RepL.flat (fun h => h) q8), (ro_back1 q0e (((((((((((hS.pull 1).drop.pull 1).drop.pull 1).drop.pull 1).drop.pull 2).drop.pull 2).drop.pull 2).drop.pull 2).drop.pull 2).drop.pull 1).pull 1))⟩
    ·replace hF := nit_bf hc85 hF
     refine x_skip <| x_seq <| x_region <| p (yl_assign rfl) <|
      x_done <| x_seq <| x_seq <| x_region <|
      p (yl_field0 fld_31_6 ((hE21 3 rfl).trans q2g)) <| pa (at_load one_28 rfl ((hS.pull 8).cell rfl)) <| p (yl_len_slice usl_28 rfl) <| p (yl_move rfl) <|
      x_done <| ?_
     replace hF := nbs_j hF; obtain ⟨oL26, hLL26, hF⟩ := hF
     refine x_join (fun E w => ∃ (q0s : Option Addr) (q0t : Nat) (c_out15_L26 : Nat) (q0o : List Value) (q0x : List Int), oL26 (Sum.inl q0x) ∧ E 15 = .slice q0s q0t c_out15_L26 ∧ RepL (RpI .i64) q0k q0x q0o ∧ St w0 w (vec 3 (RpI .i64).sz (.slice q0s q0t c_out15_L26) q0t q0o :: ro q0k :: l)) ?_ ?_
     ·refine x_block ?_
      replace hS := St.vec_nil hS 3 (RpI .i64).sz
      have q1y : RepL (RpI .i64) q0k [] [] := rfl
      refine x_loop (fun k_ E w => ∃ (q0j : Option Addr) (q0p : Nat) (c_out15_L26h : Nat) (q0g : List Value) (q0f : List Int) (q15 : Int), nlp (P_extract_Elmore_L26 l_0 net1 q2c) k_ (q0f, q15) oL26 ∧ E 1 = .int .i64 net1 ∧ E 9 = .pointer (some ⟨b37, 0, none⟩) ∧ E 15 = .slice q0j q0p c_out15_L26h ∧ E 87 = .slice q3 l_0.Pins.length c_l_0_6 ∧ E 88 = .int .i64 (l_0.Pins.length : Int) ∧ E 89 = .int .i64 q15 ∧ RepL (RpI .i64) q0k q0f q0g ∧ St w0 w (cells b37 82 [.int .i64 l_0.W, .int .i64 l_0.H, .int .i64 l_0.Layers, .int .i64 l_0.Nets, .slice q4 l_0.Wires.length c_l_0_4, .slice q5 l_0.Vias.length c_l_0_5, .slice q3 l_0.Pins.length c_l_0_6, .slice q6 l_0.Walls.length c_l_0_7, .map (some b33), .map (some b34), .map (some b35)] :: vec 3 (RpI .i64).sz (.slice q0j q0p c_out15_L26h) q0p q0g :: mapA b33 kf_61 Hd.v (zipK q2b.1 q2t) :: mapA b34 kf_61 (Value.int .i64) q2b.2 :: mapA b35 kf_61 (Value.int .i64) q2c.2 :: ro q0k :: l)) fuel ⟨none, 0, 0, [], [], 0, hLL26, ((hE21 1 rfl).trans q2f), ((hE21 9 rfl).trans q2h), rfl, rfl, rfl, rfl, q1y, (((((((((((hS.pull 6).drop.pull 6).drop.pull 6).drop.pull 6).drop.pull 6).drop.pull 5).pull 5).pull 5).pull 5).pull 4).pull 5)⟩ ?_
      rintro kL26 E w ⟨q0j, q0p, c_out15_L26h, q0g, q0f, q15, hLL26, q27, q28, q21, q22, q23, q1j, q0q, hS⟩
      have e_ := St.vec_n (hS.pull 1) q0q; subst e_
      replace hLL26 := nlp_s hLL26; obtain ⟨kL26, obL26, rfl, hFL26, hLL26⟩ := hLL26
      refine x_seq <| x_region <| p (yl_lss q1j q23) <| x_done <|
       x_seq <|
       x_cond_p (q15 < (l_0.Pins.length : Int)) rfl (fun hc90 => ?_) (fun hc90 => ?_)
      ·replace hFL26 := nit_t hc90 hFL26
       refine x_skip <| x_seq <| ?_
       replace hFL26 := nbs_j hFL26; obtain ⟨ob3, hFb3, hFL26⟩ := hFL26
       refine x_join (fun E w => ∃ (q0y : Option Addr) (q0z : Nat) (c_out15_b3 : Nat) (q0u : List Value) (q16 : List Int), ob3 (Sum.inl q16) ∧ E 1 = .int .i64 net1 ∧ E 9 = .pointer (some ⟨b37, 0, none⟩) ∧ E 15 = .slice q0y q0z c_out15_b3 ∧ E 87 = .slice q3 l_0.Pins.length c_l_0_6 ∧ E 88 = .int .i64 (l_0.Pins.length : Int) ∧ E 89 = .int .i64 q15 ∧ RepL (RpI .i64) q0k q16 q0u ∧ St w0 w (cells b37 82 [.int .i64 l_0.W, .int .i64 l_0.H, .int .i64 l_0.Layers, .int .i64 l_0.Nets, .slice q4 l_0.Wires.length c_l_0_4, .slice q5 l_0.Vias.length c_l_0_5, .slice q3 l_0.Pins.length c_l_0_6, .slice q6 l_0.Walls.length c_l_0_7, .map (some b33), .map (some b34), .map (some b35)] :: vec 3 (RpI .i64).sz (.slice q0y q0z c_out15_b3) q0z q0u :: mapA b33 kf_61 Hd.v (zipK q2b.1 q2t) :: mapA b34 kf_61 (Value.int .i64) q2b.2 :: mapA b35 kf_61 (Value.int .i64) q2c.2 :: ro q0k :: l)) ?_ ?_
       ·replace hFb3 := nck_s hFb3; obtain ⟨q2u, hFb3⟩ := hFb3
        replace hFb3 := nlv_s hFb3; obtain ⟨q0b, q3q, hFb3⟩ := hFb3
        have q_ := q0h.get q2u; obtain ⟨q46, q2v, q3r⟩ := q_
        rw [← q3q] at q2v
        have e_ := q2v; subst e_
        refine x_block <| x_seq <| x_region <| p (yix_f sl_28 q22 q1j (q0h.le q0e) q2u) <|
         pa (v := .agg #[.int .i64 q0b.Net, .int .i64 q0b.X, .int .i64 q0b.Y, .bool q0b.Drive, .int .i64 q0b.Size]) (at_loadAgg agg_39 rfl rfl (Elt.every (Elt.le q3r q0e) (hS.pull 5))) <| ?_
        refine o_alloc zero_39 hS (fun b17 w' hS => ?_)
        refine o_storeAgg (news := [.int .i64 q0b.Net, .int .i64 q0b.X, .int .i64 q0b.Y, .bool q0b.Drive, .int .i64 q0b.Size]) agg_39 rfl rfl rfl (by simp [over_length]) hS (fun w' hS => ?_)
        refine x_done <| x_seq <| x_seq <| x_region <|
         p (yl_field0 fld_39_0 rfl) <| pa (at_load one_3 rfl (hS.cell rfl)) <| p (yl_move q27) <| p (yl_neq rfl rfl) <|
         x_done <|
         x_cond_p (q0b.Net ≠ net1) rfl (fun hc96 => ?_) (fun hc96 => ?_)
        ·replace hFb3 := nit_t hc96 hFb3
         refine x_exitTo _ rfl <| ?_
         exact x_inv ⟨q0j, q0f.length, c_out15_L26h, q0g, q0f, hFb3, q27, q28, q21, q22, q23, q1j, q0q, ((((((hS.drop.pull 5).pull 5).pull 5).pull 5).pull 5).pull 5)⟩
        ·replace hFb3 := nit_f hc96 hFb3
         replace hFb3 := nlv_s hFb3; obtain ⟨x107, hx107, hFb3⟩ := hFb3
         replace hFb3 := nlv_s hFb3; obtain ⟨q107, hq107, hFb3⟩ := hFb3
         refine x_skip <| x_seq <| x_still mixed (by kernel_rfl) hS <| q (yl_move q28) <|
          q (yl_nilCheck rfl) <| q (yl_field0 fld_82_3 rfl) <| qa (fun w' hS => at_load one_80 rfl ((hS.pull 1).cell rfl)) <| q (yl_field0 fld_39_1 rfl) <|
          qa (fun w' hS => at_load one_3 rfl (hS.cell rfl)) <| q (yl_field0 fld_39_2 rfl) <| qa (fun w' hS => at_load one_3 rfl (hS.cell rfl)) <| q (v := .agg #[.int .i64 0, .int .i64 q0b.X, .int .i64 q0b.Y]) (yl_build bld_61 bldf_61 (parts_eq (pt (va := .int .i64 q0b.X) rfl (pt (va := .int .i64 q0b.Y) rfl pt0))) (by kernel_rfl)) <|
          qa (fun w' hS => at_look2 (k := (T_rules_Spot.mk 0 q0b.X q0b.Y)) um_80 kp_61 (zero1 zv_3) rfl rfl (hS.pull 5) hx107 hq107) <| q (yl_move rfl) <| q (yl_extract rfl rfl) <| q (yl_extract rfl rfl) <|
          q (yl_assign rfl) <| q (yl_assign rfl) <|
          q_done fun w' hS => ?_
         refine x_seq <| x_seq <| x_region <| p (yl_move rfl) <|
          p (yl_not rfl) <| x_done <|
          x_cond (t := !q107) rfl (fun hc111 => ?_) (fun hc111 => ?_)
         ·replace hFb3 := nit_t hc111 hFb3
          refine x_seq <| x_region <| p (yl_assign rfl) <| p (yl_assign rfl) <|
           x_done <| ?_
          replace hS := St.vec_nil hS 3 (RpI .i64).sz
          have q8 : RepL (RpI .i64) q0k [] [] := rfl
          exact x_return ⟨_, ⟨_, _, rfl, rfl, _, _, rfl, rfl, rfl⟩, ([], (18 : Int)), (hF _ (hLL26 _ (hFL26 _ hFb3))), none, 0, 0, [], rfl, (RepL.flat (fun h => h) q8), (ro_back1 q0e ((((((((hS.pull 1).drop.pull 1).drop.pull 1).drop.pull 1).drop.pull 1).drop.pull 1).drop.pull 1).pull 1))⟩
         ·replace hFb3 := nit_bf hc111 hFb3
          refine x_skip <| x_region <| p (yl_move q21) <| p (yl_move rfl) <| ?_
          refine o_buildSlice (vs := [.int .i64 x107]) (cs := [.int .i64 x107]) sl_22 zero_3 (parts_eq (pt (va := .int .i64 x107) rfl pt0)) rfl (by intro v hv; simp only [List.mem_cons, List.not_mem_nil, or_false] at hv; first | (subst hv; rfl) | (rcases hv with rfl <;> rfl)) (by decide) rfl hS (fun b114 w' hS => ?_)
          replace hFb3 := nlv_s hFb3; obtain ⟨q2z, q3s, hFb3⟩ := hFb3
          replace hFb3 := nck_s hFb3; obtain ⟨q3t, hFb3⟩ := hFb3
          refine o_ap sl_22 zero_3 rfl (by decide) rfl rfl (hS.pull 3) q0q (src_blk usl_22 hS rfl rfl) (RepL.cons (R := (RpI .i64)) (ρ := q0k) (x := x107) (cs := [.int .i64 x107]) rfl RepL.nil) q3s q3t (fun A115 c115 cs115 w' hr115 hS => ?_)
          refine p (yl_assign rfl) <| x_done <| x_blk <| ?_
          exact x_inv ⟨A115, q2z.length, c115, cs115, q2z, hFb3, q27, q28, rfl, q22, q23, q1j, hr115, ((((((((hS.pull 1).drop.pull 1).drop.pull 5).pull 5).pull 5).pull 5).pull 4).pull 5)⟩
       rintro E w ⟨q0y, q0z, c_out15_b3, q0u, q16, hq_, q43, q44, q3u, q3v, q3w, q3x, q25, hS⟩
       replace hFL26 := hFL26 _ hq_
       clear hq_
       have e_ := St.vec_n (hS.pull 1) q25; subst e_
       replace hFL26 := nar_s hFL26; obtain ⟨x116, hx116, hFL26⟩ := hFL26
       refine x_region <| p (yadd q3x rfl hx116) <| p (yl_move rfl) <| x_done <| ?_
       exact x_inv ⟨kL26, Nat.lt_succ_self _, q0y, q16.length, c_out15_b3, q0u, q16, x116, (hLL26 _ hFL26), q43, q44, q3u, q3v, q3w, rfl, q25, ((((((hS.pull 5).pull 5).pull 5).pull 5).pull 5).pull 5)⟩
      ·replace hFL26 := nit_f hc90 hFL26
       refine x_exitTo _ rfl <| ?_
       exact x_inv ⟨q0j, q0f.length, c_out15_L26h, q0g, q0f, (hLL26 _ hFL26), q21, q0q, (((((hS.drop.pull 1).drop.pull 1).drop.pull 1).drop.pull 1).pull 1)⟩
     rintro E w ⟨q0s, q0t, c_out15_L26, q0o, q0x, hq_, q38, q1z, hS⟩
     replace hF := hF _ hq_
     clear hq_
     have e_ := St.vec_n hS q1z; subst e_
     refine x_seq <| x_region <| p (yl_move q38) <| p (yl_assign rfl) <|
      p (yl_assign rfl) <| x_done <| ?_
     exact x_return ⟨_, ⟨_, _, rfl, rfl, _, _, rfl, rfl, rfl⟩, (q0x, (0 : Int)), hF, q0s, q0x.length, c_out15_L26, q0o, rfl, (RepL.flat (fun h => h) q1z), (ro_back1 q0e ((hS.pull 1).pull 1))⟩
attribute [irreducible] P_extract_Elmore

def P_slices_Clone_rules_Pin_rules_Pin (s0 : List T_rules_Pin) : Option (List T_rules_Pin) :=
 lv (([] : List T_rules_Pin) ++ s0) fun q2 =>
 ck (apOk 40 q2.length) <|
 some q2
theorem c_slices_Clone_rules_Pin_rules_Pin {w0 w : World} {l : List Assn} {ρ : Heap} {q6 : Option Addr} {q8 : Nat} {c_s0 : Nat} {s0 : List T_rules_Pin} {r : List T_rules_Pin} (hF : P_slices_Clone_rules_Pin_rules_Pin s0 = some r) (q7 : RdS R_rules_Pin ρ q6 q8 c_s0 s0) (hS : St w0 w (ro ρ :: l)) :
  Calls Try.prog 11 #[.slice q6 q8 c_s0] w fun e w' => ∃ (q5 : Option Addr) (q2 : Nat) (c_y0_ret : Nat) (q3 : List Value), e = .returned (.slice q5 q2 c_y0_ret) ∧ RepL R_rules_Pin ρ r q3 ∧ St w0 w' (vec 39 R_rules_Pin.sz (.slice q5 q2 c_y0_ret) q2 q3 :: ro ρ :: l) := by
 have e_ := q7.n; subst e_
 refine enterC Try.func11 rfl 8 rfl (by simp) ?_
 refine x_seq <| x_region <| p (yl_assign rfl) <| x_done <|
  x_seq <| x_seq <| x_region <| p (yl_move rfl) <|
  p (yeq_nil usl_28 rfl rfl) <| x_done <|
  x_cond (t := Option.isNone q6) rfl (fun hc4 => ?_) (fun hc4 => ?_)
 ·have hx0 : s0 = [] := RdS.nil_of q7 hc4
  have hF : some ([] : List T_rules_Pin) = some r := by rw [hx0] at hF; unfold P_slices_Clone_rules_Pin_rules_Pin at hF; simpa [lv, ck, apOk] using hF
  refine x_seq <| x_region <| p (yl_assign rfl) <| x_done <| ?_
  replace hS := St.vec_nil hS 39 R_rules_Pin.sz
  have q4 : RepL R_rules_Pin ρ [] [] := rfl
  have e_ := sinj hF; subst e_
  exact x_return ⟨_, ⟨_, _, rfl, rfl, rfl⟩, none, 0, 0, [], rfl, q4, ((hS.pull 1).pull 1)⟩
 ·skip
  refine x_skip <| x_seq <| x_region <| ?_
  refine o_buildSlice (vs := []) (cs := []) sl_28 zero_39 (parts_eq pt0) rfl (by intro v hv; cases hv) (by decide) rfl hS (fun b5 w' hS => ?_)
  refine p (yl_move rfl) <| ?_
  have q9 : RepL R_rules_Pin ρ ([] : List T_rules_Pin) [] := RepL.nil
  replace hS := St.vec_of (n := 0) (sz := R_rules_Pin.sz) hS rfl (by decide)
  have q_ := src_f usl_28 (hS.pull 1) q7; obtain ⟨nw7, hnw7, src7⟩ := q_
  replace hF := lv_s hF; obtain ⟨q0c, q0a, hF⟩ := hF
  replace hF := ck_s hF; obtain ⟨q0b, hF⟩ := hF
  refine o_ap sl_28 zero_39 rfl (by decide) rfl rfl hS q9 src7 hnw7 q0a q0b (fun A7 c7 cs7 w' hr7 hS => ?_)
  refine p (yl_assign rfl) <| x_done <| ?_
  have e_ := sinj hF; subst e_
  exact x_return ⟨_, ⟨_, _, rfl, rfl, rfl⟩, A7, q0c.length, c7, cs7, rfl, hr7, ((hS.pull 1).pull 1)⟩
attribute [irreducible] P_slices_Clone_rules_Pin_rules_Pin

def P_slices_Equal_int_int_L4 (s10 : List Int) (s21 : List Int) : Int → Option (Int ⊕ (Unit ⊕ Bool)) := fun q2 =>
 if q2 < (s10.length : Int) then
  ck (inb q2 s10.length) <|
  lv (gt s10 q2) fun x19 =>
  ck (inb q2 s21.length) <|
  lv (gt s21 q2) fun x23 =>
  if x19 ≠ x23 then
   some (Sum.inr (Sum.inr false))
  else
   ar (q2 + 1) fun x25 =>
   some (Sum.inl x25)
 else
  some (Sum.inr (Sum.inl ()))
def P_slices_Equal_int_int (s10 : List Int) (s21 : List Int) : Option Bool :=
 if (s10.length : Int) ≠ (s21.length : Int) then
  some false
 else
  bs (
   lp (P_slices_Equal_int_int_L4 s10 s21) fuel 0) (fun y => some y) fun _ =>
  some true
theorem c_slices_Equal_int_int {w0 w : World} {l : List Assn} {ρ : Heap} {q5 : Option Addr} {q0b : Nat} {c_s10 : Nat} {q6 : Option Addr} {q0c : Nat} {c_s21 : Nat} {s10 : List Int} {s21 : List Int} {r : Bool} (hF : P_slices_Equal_int_int s10 s21 = some r) (q7 : RdS (RpI .i64) ρ q5 q0b c_s10 s10) (q8 : RdS (RpI .i64) ρ q6 q0c c_s21 s21) (hS : St w0 w (ro ρ :: l)) :
  Calls Try.prog 19 #[.slice q5 q0b c_s10, .slice q6 q0c c_s21] w fun e w' => e = .returned (.bool r) ∧ St w0 w' (ro ρ :: l) := by
 have e_ := q7.n; subst e_
 have e_ := q8.n; subst e_
 refine enterC Try.func19 rfl 26 rfl (by simp) ?_
 refine x_seq <| x_region <| p (yl_assign rfl) <| x_done <|
  x_seq <| x_seq <| x_region <| p (yl_move rfl) <|
  p (yl_len_slice usl_22 rfl) <| p (yl_move rfl) <| p (yl_len_slice usl_22 rfl) <| p (yl_neq rfl rfl) <|
  x_done <|
  x_cond_p ((s10.length : Int) ≠ (s21.length : Int)) rfl (fun hc10 => ?_) (fun hc10 => ?_)
 ·replace hF := it_t hc10 hF
  refine x_seq <| x_region <| p (yl_assign rfl) <| x_done <| ?_
  have e_ := sinj hF; subst e_
  exact x_return ⟨_, ⟨_, _, rfl, rfl, rfl⟩, rfl, hS⟩
 ·replace hF := it_f hc10 hF
  refine x_skip <| x_seq <| x_seq <| x_region <|
   p (yl_move rfl) <| p (yl_len_slice usl_22 rfl) <| p (yl_move rfl) <| x_done <| ?_
  replace hF := bs_s hF; obtain ⟨oL4, hLL4, hF⟩ := hF
  refine x_join (fun E w => (Sum.inl (())) = oL4 ∧ St w0 w (ro ρ :: l)) ?_ ?_
  ·refine x_block ?_
   refine x_loop (fun k_ E w => ∃ (q2 : Int), lp (P_slices_Equal_int_int_L4 s10 s21) k_ q2 = some oL4 ∧ E 0 = .slice q5 s10.length c_s10 ∧ E 1 = .slice q6 s21.length c_s21 ∧ E 12 = .int .i64 (s10.length : Int) ∧ E 13 = .int .i64 q2 ∧ St w0 w (ro ρ :: l)) fuel ⟨0, hLL4, rfl, rfl, rfl, rfl, hS⟩ ?_
   rintro kL4 E w ⟨q2, hLL4, q9, q0a, q4, q3, hS⟩
   replace hLL4 := lp_s hLL4; obtain ⟨kL4, obL4, rfl, hFL4, hLL4⟩ := hLL4
   refine x_seq <| x_region <| p (yl_lss q3 q4) <| x_done <|
    x_seq <|
    x_cond_p (q2 < (s10.length : Int)) rfl (fun hc14 => ?_) (fun hc14 => ?_)
   ·replace hFL4 := it_t hc14 hFL4
    replace hFL4 := ck_s hFL4; obtain ⟨q0d, hFL4⟩ := hFL4
    replace hFL4 := lv_s hFL4; obtain ⟨x19, hx19, hFL4⟩ := hFL4
    replace hFL4 := ck_s hFL4; obtain ⟨q0e, hFL4⟩ := hFL4
    replace hFL4 := lv_s hFL4; obtain ⟨x23, hx23, hFL4⟩ := hFL4
    refine x_skip <| x_seq <| x_block <| x_seq <|
     x_region <| p (yl_move q3) <| p (yl_assign rfl) <| x_done <|
     x_seq <| x_still mixed (by kernel_rfl) hS <| q (yl_move q9) <| q (yl_move rfl) <|
     q (yix_f sl_22 rfl rfl q7 q0d) <| qa (fun w' hS => at_load one_3 rfl (RdS.getW q7 hS q0d hx19)) <| q (yl_move q0a) <| q (yl_move rfl) <|
     q (yix_f sl_22 rfl rfl q8 q0e) <| qa (fun w' hS => at_load one_3 rfl (RdS.getW q8 hS q0e hx23)) <| q (yl_neq rfl rfl) <|
     q_done fun w' hS => ?_
    refine x_cond_p (x19 ≠ x23) rfl (fun hc24 => ?_) (fun hc24 => ?_)
    ·replace hFL4 := it_t hc24 hFL4
     refine x_seq <| x_region <| p (yl_assign rfl) <| x_done <| ?_
     have e_ := sinj hFL4; subst e_
     have e_ := (show _ = oL4 from hLL4); subst e_
     have e_ := sinj hF; subst e_
     exact x_return ⟨_, ⟨_, _, rfl, rfl, rfl⟩, rfl, hS⟩
    ·replace hFL4 := it_f hc24 hFL4
     replace hFL4 := ar_s hFL4; obtain ⟨x25, hx25, hFL4⟩ := hFL4
     refine x_skip <| x_blk <| x_region <| p (yadd q3 rfl hx25) <|
      p (yl_move rfl) <| x_done <| ?_
     have e_ := sinj hFL4; subst e_
     exact x_inv ⟨kL4, Nat.lt_succ_self _, x25, hLL4, q9, q0a, q4, rfl, hS⟩
   ·replace hFL4 := it_f hc14 hFL4
    refine x_exitTo _ rfl <| ?_
    have e_ := sinj hFL4; subst e_
    exact x_inv ⟨hLL4, hS⟩
  rintro E w ⟨rfl, hS⟩
  refine x_seq <| x_region <| p (yl_assign rfl) <| x_done <| ?_
  have e_ := sinj hF; subst e_
  exact x_return ⟨_, ⟨_, _, rfl, rfl, rfl⟩, rfl, hS⟩
attribute [irreducible] P_slices_Equal_int_int

def P_maskkeep4_extracts : Nd Bool :=
 nbd (P_extract_Elmore (T_rules_Layout.mk 5 3 1 1 ([(T_rules_Wire.mk 0 0 0 0 2 0)] : List T_rules_Wire) [] ([(T_rules_Pin.mk 0 0 0 true 0), (T_rules_Pin.mk 0 2 0 false 2)] : List T_rules_Pin) []) 0 0) fun q3 =>
 nbd (
  if (decide (q3.2 = 0)) = true then
   nbd (nof (P_slices_Equal_int_int q3.1 ([0, 52] : List Int))) fun q4 =>
   nret q4
  else
   nret false) fun q2 =>
 nret q2
theorem c_maskkeep4_extracts {w0 w : World} {l : List Assn} {ρ : Heap} {Q : Bool → Prop} (hF : P_maskkeep4_extracts Q) (hS : St w0 w (ro ρ :: l)) :
  Calls Try.prog 12 #[] w fun e w' => ∃ r : Bool, Q r ∧ e = .returned (.bool r) ∧ St w0 w' (ro ρ :: l) := by
 refine enterC Try.func12 rfl 22 rfl (by simp) ?_
 refine x_seq <| x_region <| p (yl_assign rfl) <| x_done <|
  x_seq <| x_region <| p (v := .agg #[.int .i64 0, .int .i64 0, .int .i64 0, .bool true, .int .i64 0]) (yl_build bld_39 bldf_39 (parts_eq (pt (va := .bool true) rfl pt0)) (by kernel_rfl)) <| p (v := .agg #[.int .i64 0, .int .i64 2, .int .i64 0, .bool false, .int .i64 2]) (yl_build bld_39 bldf_39 (parts_eq (pt (va := .int .i64 2) rfl (pt (va := .int .i64 2) rfl pt0))) (by kernel_rfl)) <| ?_
 refine o_buildSlice (vs := [.agg #[.int .i64 0, .int .i64 0, .int .i64 0, .bool true, .int .i64 0], .agg #[.int .i64 0, .int .i64 2, .int .i64 0, .bool false, .int .i64 2]]) (cs := [.int .i64 0, .int .i64 0, .int .i64 0, .bool true, .int .i64 0, .int .i64 0, .int .i64 2, .int .i64 0, .bool false, .int .i64 2]) sl_28 zero_39 (parts_eq (pt (va := .agg #[.int .i64 0, .int .i64 0, .int .i64 0, .bool true, .int .i64 0]) rfl (pt (va := .agg #[.int .i64 0, .int .i64 2, .int .i64 0, .bool false, .int .i64 2]) rfl pt0))) rfl (by intro v hv; simp only [List.mem_cons, List.not_mem_nil, or_false] at hv; first | (subst hv; rfl) | (rcases hv with rfl | rfl <;> rfl)) (by decide) rfl hS (fun b6 w' hS => ?_)
 refine p (v := .agg #[.int .i64 0, .int .i64 0, .int .i64 0, .int .i64 0, .int .i64 2, .int .i64 0]) (yl_build bld_44 bldf_44 (parts_eq (pt (va := .int .i64 2) rfl pt0)) (by kernel_rfl)) <| ?_
 refine o_buildSlice (vs := [.agg #[.int .i64 0, .int .i64 0, .int .i64 0, .int .i64 0, .int .i64 2, .int .i64 0]]) (cs := [.int .i64 0, .int .i64 0, .int .i64 0, .int .i64 0, .int .i64 2, .int .i64 0]) sl_26 zero_44 (parts_eq (pt (va := .agg #[.int .i64 0, .int .i64 0, .int .i64 0, .int .i64 0, .int .i64 2, .int .i64 0]) rfl pt0)) rfl (by intro v hv; simp only [List.mem_cons, List.not_mem_nil, or_false] at hv; first | (subst hv; rfl) | (rcases hv with rfl <;> rfl)) (by decide) rfl hS (fun b8 w' hS => ?_)
 refine p (v := .agg #[.int .i64 5, .int .i64 3, .int .i64 1, .int .i64 1, .slice (some ⟨b8, 0, none⟩) 1 1, .slice none 0 0, .slice (some ⟨b6, 0, none⟩) 2 2, .slice none 0 0]) (yl_build bld_31 bldf_31 (parts_eq (pt (va := .int .i64 5) rfl (pt (va := .int .i64 3) rfl (pt (va := .int .i64 1) rfl (pt (va := .int .i64 1) rfl (pt (va := .slice (some ⟨b6, 0, none⟩) 2 2) rfl (pt (va := .slice (some ⟨b8, 0, none⟩) 1 1) rfl pt0))))))) (by kernel_rfl)) <| ?_
 refine o_alloc zero_31 hS (fun b1 w' hS => ?_)
 refine o_storeAgg (news := [.int .i64 5, .int .i64 3, .int .i64 1, .int .i64 1, .slice (some ⟨b8, 0, none⟩) 1 1, .slice none 0 0, .slice (some ⟨b6, 0, none⟩) 2 2, .slice none 0 0]) agg_31 rfl rfl rfl (by simp [over_length]) hS (fun w' hS => ?_)
 refine x_done <| x_seq <| x_region <| pa (v := .agg #[.int .i64 5, .int .i64 3, .int .i64 1, .int .i64 1, .slice (some ⟨b8, 0, none⟩) 1 1, .slice none 0 0, .slice (some ⟨b6, 0, none⟩) 2 2, .slice none 0 0]) (ld_sub agg_31 rfl rfl rfl hS) <| ?_
 have q0d : RepL R_rules_Wire ρ ([(T_rules_Wire.mk 0 0 0 0 2 0)] : List T_rules_Wire) [.int .i64 0, .int .i64 0, .int .i64 0, .int .i64 0, .int .i64 2, .int .i64 0] := (RepL.cons (cs := [.int .i64 0, .int .i64 0, .int .i64 0, .int .i64 0, .int .i64 2, .int .i64 0]) rfl RepL.nil)
 replace hS := St.vec_of (n := 1) (sz := R_rules_Wire.sz) (hS.pull 1) rfl (by decide)
 have q0b : RepL R_rules_Pin ρ ([(T_rules_Pin.mk 0 0 0 true 0), (T_rules_Pin.mk 0 2 0 false 2)] : List T_rules_Pin) [.int .i64 0, .int .i64 0, .int .i64 0, .bool true, .int .i64 0, .int .i64 0, .int .i64 2, .int .i64 0, .bool false, .int .i64 2] := (RepL.cons (cs := [.int .i64 0, .int .i64 0, .int .i64 0, .bool true, .int .i64 0]) rfl (RepL.cons (cs := [.int .i64 0, .int .i64 2, .int .i64 0, .bool false, .int .i64 2]) rfl RepL.nil))
 replace hS := St.vec_of (n := 2) (sz := R_rules_Pin.sz) (hS.pull 2) rfl (by decide)
 have q_ := St.lend ((hS.pull 3).pull 2) q0d; obtain ⟨ρl0, hll0, hlf0, hS0, back0⟩ := q_
 have q_ := St.lend (hS0.pull 1) (q0b.le hll0); obtain ⟨ρl1, hll1, hlf1, hS1, back1⟩ := q_
 have hcall := c_extract_Elmore (nbd_c hF) (hlf0.le hll1) (RdS.nil (A := none) (c := 0)) hlf1 (RdS.nil (A := none) (c := 0)) hS1
 refine o_cc call_10 (args3 rfl rfl rfl) hcall ?_
 rintro e w' ⟨q5, hF, q6, q0c, c_y0_ret_2_1, q8, rfl, q3, hS⟩
 refine ⟨_, rfl, ?_⟩
 replace hS := back1 (hS.pull 1)
 replace hS := back0 (hS.pull 1)
 replace q3 : RepL (RpI .i64) ρ q5.1 q8 := RepL.flat (fun h => h) q3
 have e_ := St.vec_n (hS.pull 3) q3; subst e_
 refine p (yl_move rfl) <| p (yl_extract rfl rfl) <| p (yl_extract rfl rfl) <| p (yl_assign rfl) <|
  p (yl_assign rfl) <| x_done <| x_seq <| x_region <|
  p (yl_move rfl) <| p (yl_eql rfl rfl) <| p (yl_move rfl) <| pg (v := .slice q6 q5.1.length c_y0_ret_2_1) 17 (c := decide (q5.2 = 0)) (says_t _) (fun hq => Yl.at (yl_move rfl)) <| ?_
 replace hF := nbd_j hF; obtain ⟨q0e, q2, hF⟩ := hF
 refine x_join_ops (fun E w => ∃ (q7 : Bool), q0e q7 ∧ E 0 = .bool q7 ∧ St w0 w (ro ρ :: l)) ?_ ?_
 ·refine x_split (decide (q5.2 = 0)) (fun q4 => ?_) (fun q4 => ?_)
  ·replace q2 := nit_t q4 q2
   refine o_strip 17 true (says_lit (c := true) (Eq.trans (show _ = Value.bool (decide (q5.2 = 0)) from rfl) (congrArg Value.bool q4)) rfl) <| ?_
   refine o_buildSlice (vs := [.int .i64 0, .int .i64 52]) (cs := [.int .i64 0, .int .i64 52]) sl_22 zero_3 (parts_eq (pt (va := .int .i64 0) rfl (pt (va := .int .i64 52) rfl pt0))) rfl (by intro v hv; simp only [List.mem_cons, List.not_mem_nil, or_false] at hv; first | (subst hv; rfl) | (rcases hv with rfl | rfl <;> rfl)) (by decide) rfl hS (fun b19 w' hS => ?_)
   refine o_strip 17 true (says_lit (c := true) (Eq.trans (show _ = Value.bool (decide (q5.2 = 0)) from rfl) (congrArg Value.bool q4)) rfl) <| ?_
   have q0f : RepL (RpI .i64) ρ ([0, 52] : List Int) [.int .i64 0, .int .i64 52] := (RepL.cons (cs := [.int .i64 0]) rfl (RepL.cons (cs := [.int .i64 52]) rfl RepL.nil))
   replace hS := St.vec_of (n := 2) (sz := (RpI .i64).sz) hS rfl (by decide)
   replace q2 := nbd_s q2; obtain ⟨q9, q0g, q2⟩ := q2
   have q_ := St.lend ((hS.pull 2).pull 4) q3; obtain ⟨ρl0, hll0, hlf0, hS0, back0⟩ := q_
   have q_ := St.lend (hS0.pull 1) (q0f.le hll0); obtain ⟨ρl1, hll1, hlf1, hS1, back1⟩ := q_
   have hcall := c_slices_Equal_int_int q0g (hlf0.le hll1) hlf1 hS1
   refine o_cc call_19 (args2 (Eq.trans (show _ = (bif decide (q5.2 = 0) then .slice q6 q5.1.length c_y0_ret_2_1 else undef) from rfl) (cv q4)) rfl) ((Calls.mono hcall (fun e w'' h => And.intro h.1 (((((((back0 ((back1 h.2).pull 1)).pull 5).pull 1).pull 5).pull 3).pull 5).pull 5)))) ?_
   rintro e w' ⟨rfl, hS⟩
   refine ⟨_, rfl, ?_⟩
   refine p (v := .bool q9) (yl_pick (b := true) (Eq.trans (show _ = Value.bool (decide (q5.2 = 0)) from rfl) (congrArg Value.bool q4)) (fun h => rfl) (fun h => nomatch h)) <| p (v := .bool q9) (yl_assign rfl) <| x_done <| ?_
   exact x_inv ⟨q9, q2, rfl, ((((hS.drop.drop.pull 1).drop.pull 1).drop.pull 1).drop)⟩
  ·replace q2 := nit_bf q4 q2
   refine o_pass 19 17 true (says_lit (c := false) (Eq.trans (show _ = Value.bool (decide (q5.2 = 0)) from rfl) (congrArg Value.bool q4)) rfl) <| o_pass 20 17 true (says_lit (c := false) (Eq.trans (show _ = Value.bool (decide (q5.2 = 0)) from rfl) (congrArg Value.bool q4)) rfl) <| p (yl_pick (b := false) (Eq.trans (show _ = Value.bool (decide (q5.2 = 0)) from rfl) (congrArg Value.bool q4)) (fun h => nomatch h) (fun h => rfl)) <| p (yl_assign rfl) <|
    x_done <| ?_
   exact x_inv ⟨false, q2, rfl, ((((hS.drop.pull 1).drop.pull 1).drop.pull 1).drop)⟩
 rintro E w ⟨q7, hq_, q0a, hS⟩
 replace hF := hF _ hq_
 clear hq_
 exact x_return ⟨_, ⟨_, _, rfl, q0a, rfl⟩, q7, hF, rfl, hS⟩
attribute [irreducible] P_maskkeep4_extracts


end Go.Proofs.Ytnnmbmgnpdcefaa.X
